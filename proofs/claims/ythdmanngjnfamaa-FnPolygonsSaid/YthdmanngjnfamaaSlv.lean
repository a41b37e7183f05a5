
/- The walks of the tests of increasing slopes. -/
import Derived.Test.YthdmanngjnfamaaPrime
import Derived.Test.YthdmanngjnfamaaGcd
import Derived.Test.YthdmanngjnfamaaFlat
import Derived.Test.YthdmanngjnfamaaJoin
import Derived.Deep.QuietTactic
import Derived.BigQuiet
import Derived.Deep.RegionHeld3
namespace Go.Proofs.Ythdmanngjnfamaa
open Go.RowKit

instance (zs : List Int) (k : Nat) : Decidable (SlK zs k) := by unfold SlK; infer_instance
instance (zs : List Int) (k : Nat) : Decidable (SlB zs k) := by unfold SlB; infer_instance
instance (zs : List Int) (n : Nat) : Decidable (SlOk zs n) := by unfold SlOk; infer_instance
def slB (zs : List Int) (n : Nat) : Bool := decide (SlOk zs n)
theorem slB_no {zs : List Int} {n k : Nat} (hk : k < n) (h : ¬ (SlK zs k ∧ SlB zs k)) : slB zs n = false := by
  unfold slB
  rw [decide_eq_false_iff_not]
  exact fun hs => h (hs.1 k hk)
theorem isPlace_any (x : Int) (w : World) : Calls Try.prog 122 #[.int .i64 x] w fun e w' => e = .returned (.bool (decide (-60 ≤ x) && decide (x ≤ 60))) ∧ w = w' := by
  go_enter Try.func122, Try.ntmps122
  go_wp2_with (go_at_call 92; refine (within_any _ _ _ _).mono ?_; rintro e w' ⟨rfl, rfl⟩)
  go_ret
  exact ⟨rfl, rfl⟩
theorem gcdS_at {a b g : Int} (hg : g = (Int.gcd a b : Int)) (ha : Wd a) (hb : Wd b) (w : World) :
    Calls Try.prog 93 #[.int .i64 a, .int .i64 b] w fun e w' => e = .returned (.int .i64 g) ∧ ∃ n, w' = w.drewN n := by
  subst hg; exact gcd_any a b ha hb w
theorem l01GcdS_at {a b g : Int} (hg : g = (Int.gcd a b : Int)) (ha : Wd a) (hb : Wd b) (w : World) :
    Calls Try.prog 95 #[.int .i64 a, .int .i64 b] w fun e w' => e = .returned (.int .i64 g) ∧ ∃ n, w' = w.drewN n := by
  subst hg; exact l01Gcd_any a b ha hb w
theorem dec_out {x lo hi : Int} (h : ¬ (lo ≤ x ∧ x ≤ hi)) : (decide (lo ≤ x) && decide (x ≤ hi)) = false := by
  simp only [Bool.and_eq_false_iff, decide_eq_false_iff_not]; omega
def Less3 (a b c d : Int) : Bool := decide (a * d < c * b)
theorem l13Less_any (a b c d e f : Int) (h1 : -480 ≤ a * e) (h2 : a * e ≤ 480) (h3 : -480 ≤ d * b) (h4 : d * b ≤ 480) (w : World) :
    Calls Try.prog 115 #[.agg #[.int .i64 a, .int .i64 b, .int .i64 c], .agg #[.int .i64 d, .int .i64 e, .int .i64 f]] w fun e' w' => e' = .returned (.bool (Less3 a b d e)) ∧ Below w.heap.size w w' := by
  go_enter Try.func115, Try.ntmps115
  go_wp2
  go_ret
  exact ⟨rfl, bl_alloc (bl_alloc (Below.refl _ _) _) _⟩

theorem wdS {a : Int} (h1 : -1000 ≤ a) (h2 : a ≤ 1000) : Wd a := by unfold Wd; omega

set_option maxRecDepth 100000 in
set_option maxHeartbeats 4000000 in
theorem areSlopes_any (A : Option Addr) (n c : Nat) (zs : List Int) (w : World) (hr : RdC 3 w A n c (zs.map (Value.int .i64))) :
    Calls Try.prog 113 #[.slice A n c] w fun e w' => e = .returned (.bool (slB zs n)) ∧ Below w.heap.size w w' := by
  have HR := Lib.hid hr
  have hc := hr.2.1
  have hm := hr.2.2.1
  unfold maxLen at hm
  clear hr
  go_enter Try.func113, Try.ntmps113
  go_wp2
  go_loopw [3, 4, 7] (fun _ _ i wr => ∃ k : Nat, k ≤ n ∧ i = .int .i64 k ∧ Hid (∀ i, i < k → SlK zs i ∧ SlB zs i) ∧ Hid (Below w.heap.size w wr)) (fun _ _ i _ => n - (intOf i).toNat)
  case atStart => exact ⟨0, Nat.zero_le _, rfl, Lib.hid (fun i hi => absurd hi (Nat.not_lt_zero _)), Lib.hid (Below.refl _ _)⟩
  case round =>
    obtain ⟨k, hk, rfl, HN, HB⟩ := hrel
    by_cases hlt : k < n
    · obtain ⟨b, off, rfl, hcell⟩ := (HR.out.below HB.out).atF (by omega)
      have h0 := hcell (k * 3 + 0) (fl_lt hlt (by omega))
      rw [Nat.add_zero] at h0
      have h1 := hcell (k * 3 + 1) (fl_lt hlt (by omega))
      rw [← Nat.add_assoc] at h1
      have h2 := hcell (k * 3 + 2) (fl_lt hlt (by omega))
      rw [← Nat.add_assoc] at h2
      obtain ⟨r, re⟩ : ∃ x, x = sR zs k := ⟨_, rfl⟩
      obtain ⟨q, qe⟩ : ∃ x, x = sQ zs k := ⟨_, rfl⟩
      obtain ⟨t, te⟩ : ∃ x, x = sT zs k := ⟨_, rfl⟩
      change _ = some (Value.int .i64 (sR zs k)) at h0
      change _ = some (Value.int .i64 (sQ zs k)) at h1
      change _ = some (Value.int .i64 (sT zs k)) at h2
      rw [← re] at h0
      rw [← qe] at h1
      rw [← te] at h2
      have hbk := block_lt_of_cell h0
      have hbk2 : b < wr.heap.size + 1 := by omega
      obtain ⟨g, ge⟩ : ∃ g, g = (Int.gcd r q : Int) := ⟨_, rfl⟩
      have HG := Lib.hid ge
      have hSK : SlK zs k ↔ (1 ≤ q ∧ q ≤ 8) ∧ (-60 ≤ r ∧ r ≤ 60) ∧ g = 1 ∧ (1 ≤ t ∧ t ≤ 8) ∧ t % q = 0 := by
        unfold SlK
        rw [← re, ← qe, ← te, ge]
        omega
      have HSK := Lib.hid hSK
      clear hSK ge
      by_cases c1 : 1 ≤ q ∧ q ≤ 8
      · have ⟨q1, q2⟩ := c1
        by_cases c2 : -60 ≤ r ∧ r ≤ 60
        · have ⟨r1, r2⟩ := c2
          have g1 : 1 ≤ g := by
            rw [HG.out]
            have := Int.gcd_pos_of_ne_zero_right r (show q ≠ 0 by omega)
            omega
          by_cases c3 : g = 1
          · by_cases c4 : 1 ≤ t ∧ t ≤ 8
            · have ⟨t1, t2⟩ := c4
              have q0 : ¬ q = 0 := by omega
              by_cases c5 : t % q = 0
              · have hb5 : (t % q != 0) = false := by rw [c5]; rfl
                have hK : SlK zs k := HSK.out.2 ⟨c1, c2, c3, c4, c5⟩
                by_cases k0 : k = 0
                · have HN2 : Hid (∀ i, i < k + 1 → SlK zs i ∧ SlB zs i) := Lib.hid (fun i hi => by
                    by_cases e : i = k
                    · subst e; exact ⟨hK, fun h => absurd h (by omega)⟩
                    · exact HN.out i (by omega))
                  have hd0 : decide (0 < k) = false := by simp; omega
                  have c3' : ¬ 1 < g := by omega
                  have c3b : (g != 1) = false := by rw [c3]; rfl
                  clear c1 c2 c3 c4 c5 hK re qe te hcell k0
                  go_wp2_with (first | (go_at_call 92; refine (within_any _ _ _ _).mono ?_; rintro e w' ⟨rfl, rfl⟩) | (go_at_call 122; refine (isPlace_any _ _).mono ?_; rintro e w' ⟨rfl, rfl⟩) | (go_at_call 93; refine (gcdS_at HG.out (wdS (by omega) (by omega)) (wdS (by omega) (by omega)) _).mono ?_; rintro e w' ⟨rfl, nq, rfl⟩))
                  go_quiet (fail)
                  go_wp2
                  go_roundw
                  case rel => exact ⟨k + 1, by omega, by go_num, HN2, Lib.hid (by repeat (first | exact HB.out | apply Below.drew | apply below_drewN | refine bl_alloc ?_ _))⟩
                  case measure => simp [intOf]; omega
                · have p1 := hcell ((k - 1) * 3 + 0) (fl_lt (show k - 1 < n by omega) (by omega))
                  rw [Nat.add_zero] at p1
                  have p2 := hcell ((k - 1) * 3 + 1) (fl_lt (show k - 1 < n by omega) (by omega))
                  rw [← Nat.add_assoc] at p2
                  have p3 := hcell ((k - 1) * 3 + 2) (fl_lt (show k - 1 < n by omega) (by omega))
                  rw [← Nat.add_assoc] at p3
                  have hprev := (HN.out (k - 1) (by omega)).1
                  obtain ⟨r', re'⟩ : ∃ x, x = sR zs (k - 1) := ⟨_, rfl⟩
                  obtain ⟨q', qe'⟩ : ∃ x, x = sQ zs (k - 1) := ⟨_, rfl⟩
                  change _ = some (Value.int .i64 (sR zs (k - 1))) at p1
                  change _ = some (Value.int .i64 (sQ zs (k - 1))) at p2
                  change _ = some (Value.int .i64 (sT zs (k - 1))) at p3
                  rw [← re'] at p1
                  rw [← qe'] at p2
                  generalize sT zs (k - 1) = t' at p3
                  have hp2 : (1 ≤ q' ∧ q' ≤ 8) ∧ (-60 ≤ r' ∧ r' ≤ 60) := by rw [re', qe']; exact ⟨hprev.1, hprev.2.1⟩
                  have ⟨⟨q1', q2'⟩, ⟨r1', r2'⟩⟩ := hp2
                  have ⟨m1, m2⟩ := rq_bd r1 r2 q1' q2'
                  have ⟨m3, m4⟩ := rq_bd r1' r2' q1 q2
                  have hSB : SlB zs k ↔ r' * q < r * q' := by
                    unfold SlB
                    rw [← re, ← qe, ← re', ← qe']
                    exact ⟨fun h => h (by omega), fun h _ => h⟩
                  have i1 : (0 : Int) ≤ (k : Int) - 1 := by omega
                  have i2 : (k : Int) - 1 < (n : Int) := by omega
                  have i4 : (1 : Int) ≤ (k : Int) := by omega
                  have i5 : 0 < k := by omega
                  have i3 : decide (0 < k) = true := by simp; omega
                  have c3' : ¬ 1 < g := by omega
                  have c3b : (g != 1) = false := by rw [c3]; rfl
                  by_cases c6 : r' * q < r * q'
                  · have HN2 : Hid (∀ i, i < k + 1 → SlK zs i ∧ SlB zs i) := Lib.hid (fun i hi => by
                      by_cases e : i = k
                      · subst e; exact ⟨hK, hSB.2 c6⟩
                      · exact HN.out i (by omega))
                    have hd : decide (r * q' ≤ r' * q) = false := by simp; omega
                    clear c1 c2 c3 c4 c5 hK re qe te re' qe' hcell hprev hp2 hSB c6
                    go_wp2_with (first | (go_at_call 92; refine (within_any _ _ _ _).mono ?_; rintro e w' ⟨rfl, rfl⟩) | (go_at_call 122; refine (isPlace_any _ _).mono ?_; rintro e w' ⟨rfl, rfl⟩) | (go_at_call 93; refine (gcdS_at HG.out (wdS (by omega) (by omega)) (wdS (by omega) (by omega)) _).mono ?_; rintro e w' ⟨rfl, nq, rfl⟩))
                    have e1 : IntKind.i64.wrap (r * q') = r * q' := IntWalk.i64_in _ (by omega)
                    have e2 : IntKind.i64.wrap (r' * q) = r' * q := IntWalk.i64_in _ (by omega)
                    have e3 : IntKind.i64.wrap ((k : Int) - 1) = (k : Int) - 1 := IntWalk.i64_in _ (by omega)
                    go_quiet (fail)
                    clear e1 e2 e3
                    go_wp2
                    go_roundw
                    case rel => exact ⟨k + 1, by omega, by go_num, HN2, Lib.hid (by repeat (first | exact HB.out | apply Below.drew | apply below_drewN | refine bl_alloc ?_ _))⟩
                    case measure => simp [intOf]; omega
                  · have HF : Hid (slB zs n = false) := Lib.hid (slB_no hlt (fun h => c6 (hSB.1 h.2)))
                    have hd : decide (r * q' ≤ r' * q) = true := by simp; omega
                    clear c1 c2 c3 c4 c5 hK re qe te re' qe' hcell hprev hp2 hSB c6
                    go_wp2_with (first | (go_at_call 92; refine (within_any _ _ _ _).mono ?_; rintro e w' ⟨rfl, rfl⟩) | (go_at_call 122; refine (isPlace_any _ _).mono ?_; rintro e w' ⟨rfl, rfl⟩) | (go_at_call 93; refine (gcdS_at HG.out (wdS (by omega) (by omega)) (wdS (by omega) (by omega)) _).mono ?_; rintro e w' ⟨rfl, nq, rfl⟩))
                    have e1 : IntKind.i64.wrap (r * q') = r * q' := IntWalk.i64_in _ (by omega)
                    have e2 : IntKind.i64.wrap (r' * q) = r' * q := IntWalk.i64_in _ (by omega)
                    have e3 : IntKind.i64.wrap ((k : Int) - 1) = (k : Int) - 1 := IntWalk.i64_in _ (by omega)
                    go_quiet (fail)
                    clear e1 e2 e3
                    go_wp2
                    go_ret
                    exact ⟨ret_bool HF.out.symm, (by repeat (first | exact HB.out | apply Below.drew | apply below_drewN | refine bl_alloc ?_ _))⟩
              · have hb5 : (t % q != 0) = true := by simpa using c5
                have HF : Hid (slB zs n = false) := Lib.hid (slB_no hlt (fun h => c5 (HSK.out.1 h.1).2.2.2.2))
                have c3' : ¬ 1 < g := by omega
                have c3b : (g != 1) = false := by rw [c3]; rfl
                clear c1 c2 c3 c4 c5 re qe te hcell
                go_wp2_with (first | (go_at_call 92; refine (within_any _ _ _ _).mono ?_; rintro e w' ⟨rfl, rfl⟩) | (go_at_call 122; refine (isPlace_any _ _).mono ?_; rintro e w' ⟨rfl, rfl⟩) | (go_at_call 93; refine (gcdS_at HG.out (wdS (by omega) (by omega)) (wdS (by omega) (by omega)) _).mono ?_; rintro e w' ⟨rfl, nq, rfl⟩))
                go_ret
                exact ⟨ret_bool HF.out.symm, (by repeat (first | exact HB.out | apply Below.drew | apply below_drewN | refine bl_alloc ?_ _))⟩
            · have hd4 := dec_out c4
              have HF : Hid (slB zs n = false) := Lib.hid (slB_no hlt (fun h => c4 (HSK.out.1 h.1).2.2.2.1))
              have c3' : ¬ 1 < g := by omega
              have c3b : (g != 1) = false := by rw [c3]; rfl
              clear c1 c2 c3 c4 re qe te hcell
              go_wp2_with (first | (go_at_call 92; refine (within_any _ _ _ _).mono ?_; rintro e w' ⟨rfl, rfl⟩) | (go_at_call 122; refine (isPlace_any _ _).mono ?_; rintro e w' ⟨rfl, rfl⟩) | (go_at_call 93; refine (gcdS_at HG.out (wdS (by omega) (by omega)) (wdS (by omega) (by omega)) _).mono ?_; rintro e w' ⟨rfl, nq, rfl⟩))
              go_ret
              exact ⟨ret_bool HF.out.symm, (by repeat (first | exact HB.out | apply Below.drew | apply below_drewN | refine bl_alloc ?_ _))⟩
          · have c3' : 1 < g := by omega
            have c3b : (g != 1) = true := by simpa using c3
            have HF : Hid (slB zs n = false) := Lib.hid (slB_no hlt (fun h => c3 (HSK.out.1 h.1).2.2.1))
            clear c1 c2 c3 re qe te hcell
            go_wp2_with (first | (go_at_call 92; refine (within_any _ _ _ _).mono ?_; rintro e w' ⟨rfl, rfl⟩) | (go_at_call 122; refine (isPlace_any _ _).mono ?_; rintro e w' ⟨rfl, rfl⟩) | (go_at_call 93; refine (gcdS_at HG.out (wdS (by omega) (by omega)) (wdS (by omega) (by omega)) _).mono ?_; rintro e w' ⟨rfl, nq, rfl⟩))
            go_ret
            exact ⟨ret_bool HF.out.symm, (by repeat (first | exact HB.out | apply Below.drew | apply below_drewN | refine bl_alloc ?_ _))⟩
        · have hd2 := dec_out c2
          have HF : Hid (slB zs n = false) := Lib.hid (slB_no hlt (fun h => c2 (HSK.out.1 h.1).2.1))
          clear c1 c2 re qe te hcell
          go_wp2_with (first | (go_at_call 92; refine (within_any _ _ _ _).mono ?_; rintro e w' ⟨rfl, rfl⟩) | (go_at_call 122; refine (isPlace_any _ _).mono ?_; rintro e w' ⟨rfl, rfl⟩))
          go_ret
          exact ⟨ret_bool HF.out.symm, (by repeat (first | exact HB.out | apply Below.drew | apply below_drewN | refine bl_alloc ?_ _))⟩
      · have hd1 := dec_out c1
        have HF : Hid (slB zs n = false) := Lib.hid (slB_no hlt (fun h => c1 (HSK.out.1 h.1).1))
        clear c1 re qe te hcell
        go_wp2_with (first | (go_at_call 92; refine (within_any _ _ _ _).mono ?_; rintro e w' ⟨rfl, rfl⟩) | (go_at_call 122; refine (isPlace_any _ _).mono ?_; rintro e w' ⟨rfl, rfl⟩))
        go_ret
        exact ⟨ret_bool HF.out.symm, (by repeat (first | exact HB.out | apply Below.drew | apply below_drewN | refine bl_alloc ?_ _))⟩
    · have HF : Hid (slB zs n = decide ((n : Int) ≤ 8)) := Lib.hid (by
        unfold slB
        have h : SlOk zs n ↔ (n : Int) ≤ 8 := ⟨fun h => by have := h.2; omega, fun h => ⟨fun i hi => HN.out i (by omega), by omega⟩⟩
        exact decide_eq_decide.2 h)
      go_wp2
      go_ret
      exact ⟨by rw [HF.out]; rfl, HB.out⟩

end Go.Proofs.Ythdmanngjnfamaa

namespace Go.Proofs.Ythdmanngjnfamaa
open Go.RowKit

set_option maxRecDepth 100000 in
set_option maxHeartbeats 4000000 in
theorem l13List_any (A : Option Addr) (n c : Nat) (zs : List Int) (w : World) (hr : RdC 3 w A n c (zs.map (Value.int .i64))) :
    Calls Try.prog 114 #[.slice A n c] w fun e w' => e = .returned (.bool (slB zs n)) ∧ Below w.heap.size w w' := by
  have HR := Lib.hid hr
  have hc := hr.2.1
  have hm := hr.2.2.1
  unfold maxLen at hm
  clear hr
  go_enter Try.func114, Try.ntmps114
  go_wp2
  go_loopw [3, 4] (fun i _ wr => ∃ k : Nat, k ≤ n ∧ i = .int .i64 k ∧ Hid (∀ i, i < k → SlK zs i ∧ SlB zs i) ∧ Hid (Below w.heap.size w wr)) (fun i _ _ => n - (intOf i).toNat)
  case atStart => exact ⟨0, Nat.zero_le _, rfl, Lib.hid (fun i hi => absurd hi (Nat.not_lt_zero _)), Lib.hid (Below.refl _ _)⟩
  case round =>
    obtain ⟨k, hk, rfl, HN, HB⟩ := hrel
    by_cases hlt : k < n
    · obtain ⟨b, off, rfl, hcell⟩ := (HR.out.below HB.out).atF (by omega)
      have h0 := hcell (k * 3 + 0) (fl_lt hlt (by omega))
      rw [Nat.add_zero] at h0
      have h1 := hcell (k * 3 + 1) (fl_lt hlt (by omega))
      rw [← Nat.add_assoc] at h1
      have h2 := hcell (k * 3 + 2) (fl_lt hlt (by omega))
      rw [← Nat.add_assoc] at h2
      obtain ⟨r, re⟩ : ∃ x, x = sR zs k := ⟨_, rfl⟩
      obtain ⟨q, qe⟩ : ∃ x, x = sQ zs k := ⟨_, rfl⟩
      obtain ⟨t, te⟩ : ∃ x, x = sT zs k := ⟨_, rfl⟩
      change _ = some (Value.int .i64 (sR zs k)) at h0
      change _ = some (Value.int .i64 (sQ zs k)) at h1
      change _ = some (Value.int .i64 (sT zs k)) at h2
      rw [← re] at h0
      rw [← qe] at h1
      rw [← te] at h2
      have hbk := block_lt_of_cell h0
      have hbk2 : b < wr.heap.size + 1 := by omega
      obtain ⟨g, ge⟩ : ∃ g, g = (Int.gcd r q : Int) := ⟨_, rfl⟩
      have HG := Lib.hid ge
      have hSK : SlK zs k ↔ (1 ≤ q ∧ q ≤ 8) ∧ (-60 ≤ r ∧ r ≤ 60) ∧ g = 1 ∧ (1 ≤ t ∧ t ≤ 8) ∧ t % q = 0 := by
        unfold SlK
        rw [← re, ← qe, ← te, ge]
        omega
      have HSK := Lib.hid hSK
      clear hSK ge
      by_cases c1 : 1 ≤ q ∧ q ≤ 8
      · have ⟨q1, q2⟩ := c1
        by_cases c2 : -60 ≤ r ∧ r ≤ 60
        · have ⟨r1, r2⟩ := c2
          have g1 : 1 ≤ g := by
            rw [HG.out]
            have := Int.gcd_pos_of_ne_zero_right r (show q ≠ 0 by omega)
            omega
          by_cases c3 : g = 1
          · by_cases c4 : 1 ≤ t ∧ t ≤ 8
            · have ⟨t1, t2⟩ := c4
              have q0 : ¬ q = 0 := by omega
              by_cases c5 : t % q = 0
              · have hb5 : (t % q != 0) = false := by rw [c5]; rfl
                have hK : SlK zs k := HSK.out.2 ⟨c1, c2, c3, c4, c5⟩
                by_cases k0 : k = 0
                · have HN2 : Hid (∀ i, i < k + 1 → SlK zs i ∧ SlB zs i) := Lib.hid (fun i hi => by
                    by_cases e : i = k
                    · subst e; exact ⟨hK, fun h => absurd h (by omega)⟩
                    · exact HN.out i (by omega))
                  have hd0 : decide (0 < k) = false := by simp; omega
                  have c3' : ¬ 1 < g := by omega
                  have c3b : (g != 1) = false := by rw [c3]; rfl
                  clear c1 c2 c3 c4 c5 hK re qe te hcell k0
                  go_wp2_with (first | (go_at_call 94; refine (l01In_any _ _ _ _).mono ?_; rintro e w' ⟨rfl, rfl⟩) | (go_at_call 95; refine (l01GcdS_at HG.out (wdS (by omega) (by omega)) (wdS (by omega) (by omega)) _).mono ?_; rintro e w' ⟨rfl, nq, rfl⟩))
                  go_quiet (fail)
                  go_wp2
                  go_roundw
                  case rel => exact ⟨k + 1, by omega, by go_num, HN2, Lib.hid (by repeat (first | exact HB.out | exact bl_trans (by repeat (first | exact HB.out | apply Below.drew | apply below_drewN | refine bl_alloc ?_ _)) hbl2 | apply Below.drew | apply below_drewN | refine bl_alloc ?_ _))⟩
                  case measure => simp [intOf]; omega
                · have p1 := hcell ((k - 1) * 3 + 0) (fl_lt (show k - 1 < n by omega) (by omega))
                  rw [Nat.add_zero] at p1
                  have p2 := hcell ((k - 1) * 3 + 1) (fl_lt (show k - 1 < n by omega) (by omega))
                  rw [← Nat.add_assoc] at p2
                  have p3 := hcell ((k - 1) * 3 + 2) (fl_lt (show k - 1 < n by omega) (by omega))
                  rw [← Nat.add_assoc] at p3
                  have hprev := (HN.out (k - 1) (by omega)).1
                  obtain ⟨r', re'⟩ : ∃ x, x = sR zs (k - 1) := ⟨_, rfl⟩
                  obtain ⟨q', qe'⟩ : ∃ x, x = sQ zs (k - 1) := ⟨_, rfl⟩
                  change _ = some (Value.int .i64 (sR zs (k - 1))) at p1
                  change _ = some (Value.int .i64 (sQ zs (k - 1))) at p2
                  change _ = some (Value.int .i64 (sT zs (k - 1))) at p3
                  rw [← re'] at p1
                  rw [← qe'] at p2
                  generalize sT zs (k - 1) = t' at p3
                  have hp2 : (1 ≤ q' ∧ q' ≤ 8) ∧ (-60 ≤ r' ∧ r' ≤ 60) := by rw [re', qe']; exact ⟨hprev.1, hprev.2.1⟩
                  have ⟨⟨q1', q2'⟩, ⟨r1', r2'⟩⟩ := hp2
                  have ⟨m1, m2⟩ := rq_bd r1 r2 q1' q2'
                  have ⟨m3, m4⟩ := rq_bd r1' r2' q1 q2
                  have hSB : SlB zs k ↔ r' * q < r * q' := by
                    unfold SlB
                    rw [← re, ← qe, ← re', ← qe']
                    exact ⟨fun h => h (by omega), fun h _ => h⟩
                  have i1 : (0 : Int) ≤ (k : Int) - 1 := by omega
                  have i2 : (k : Int) - 1 < (n : Int) := by omega
                  have i4 : (1 : Int) ≤ (k : Int) := by omega
                  have i5 : 0 < k := by omega
                  have i3 : decide (0 < k) = true := by simp; omega
                  have c3' : ¬ 1 < g := by omega
                  have c3b : (g != 1) = false := by rw [c3]; rfl
                  by_cases c6 : r' * q < r * q'
                  · have HN2 : Hid (∀ i, i < k + 1 → SlK zs i ∧ SlB zs i) := Lib.hid (fun i hi => by
                      by_cases e : i = k
                      · subst e; exact ⟨hK, hSB.2 c6⟩
                      · exact HN.out i (by omega))
                    have hd : Less3 r' q' r q = true := by unfold Less3; simp; omega
                    clear c1 c2 c3 c4 c5 hK re qe te re' qe' hcell hprev hp2 hSB c6
                    go_wp2_with (first | (go_at_call 94; refine (l01In_any _ _ _ _).mono ?_; rintro e w' ⟨rfl, rfl⟩) | (go_at_call 95; refine (l01GcdS_at HG.out (wdS (by omega) (by omega)) (wdS (by omega) (by omega)) _).mono ?_; rintro e w' ⟨rfl, nq, rfl⟩))
                    have e3 : IntKind.i64.wrap ((k : Int) - 1) = (k : Int) - 1 := IntWalk.i64_in _ (by omega)
                    go_region_held3 (fun w' => w'.cell? ⟨b, off + (k - 1) * 3, none⟩ = some (.int .i64 r') ∧ w'.cell? ⟨b, off + (k - 1) * 3 + 1, none⟩ = some (.int .i64 q') ∧ w'.cell? ⟨b, off + (k - 1) * 3 + 2, none⟩ = some (.int .i64 t') ∧ w'.cell? ⟨wr.heap.size, 0, none⟩ = some (.int .i64 r) ∧ w'.cell? ⟨wr.heap.size, 1, none⟩ = some (.int .i64 q) ∧ w'.cell? ⟨wr.heap.size, 2, none⟩ = some (.int .i64 t)) (first | go_keep | (exact ⟨keep_cell hbl2 (by simp [go_sem, p1, hbk]), keep_cell hbl2 (by simp [go_sem, p2, hbk]), keep_cell hbl2 (by simp [go_sem, p3, hbk]), keep_cell hbl2 (by simp [go_sem]), keep_cell hbl2 (by simp [go_sem]), keep_cell hbl2 (by simp [go_sem])⟩)) (first | (go_at_call 115; refine (l13Less_any _ _ _ _ _ _ m3 m4 m1 m2 _).mono ?_; rintro e w' ⟨rfl, hbl2⟩))
                    all_goals
                      go_wp2
                      go_roundw
                      case rel => exact ⟨k + 1, by omega, by go_num, HN2, Lib.hid (by repeat (first | exact HB.out | exact bl_trans (by repeat (first | exact HB.out | apply Below.drew | apply below_drewN | refine bl_alloc ?_ _)) hbl2 | apply Below.drew | apply below_drewN | refine bl_alloc ?_ _))⟩
                      case measure => simp [intOf]; omega
                  · have HF : Hid (slB zs n = false) := Lib.hid (slB_no hlt (fun h => c6 (hSB.1 h.2)))
                    have hd : Less3 r' q' r q = false := by unfold Less3; simp; omega
                    clear c1 c2 c3 c4 c5 hK re qe te re' qe' hcell hprev hp2 hSB c6
                    go_wp2_with (first | (go_at_call 94; refine (l01In_any _ _ _ _).mono ?_; rintro e w' ⟨rfl, rfl⟩) | (go_at_call 95; refine (l01GcdS_at HG.out (wdS (by omega) (by omega)) (wdS (by omega) (by omega)) _).mono ?_; rintro e w' ⟨rfl, nq, rfl⟩))
                    have e3 : IntKind.i64.wrap ((k : Int) - 1) = (k : Int) - 1 := IntWalk.i64_in _ (by omega)
                    go_region_held3 (fun w' => w'.cell? ⟨b, off + (k - 1) * 3, none⟩ = some (.int .i64 r') ∧ w'.cell? ⟨b, off + (k - 1) * 3 + 1, none⟩ = some (.int .i64 q') ∧ w'.cell? ⟨b, off + (k - 1) * 3 + 2, none⟩ = some (.int .i64 t') ∧ w'.cell? ⟨wr.heap.size, 0, none⟩ = some (.int .i64 r) ∧ w'.cell? ⟨wr.heap.size, 1, none⟩ = some (.int .i64 q) ∧ w'.cell? ⟨wr.heap.size, 2, none⟩ = some (.int .i64 t)) (first | go_keep | (exact ⟨keep_cell hbl2 (by simp [go_sem, p1, hbk]), keep_cell hbl2 (by simp [go_sem, p2, hbk]), keep_cell hbl2 (by simp [go_sem, p3, hbk]), keep_cell hbl2 (by simp [go_sem]), keep_cell hbl2 (by simp [go_sem]), keep_cell hbl2 (by simp [go_sem])⟩)) (first | (go_at_call 115; refine (l13Less_any _ _ _ _ _ _ m3 m4 m1 m2 _).mono ?_; rintro e w' ⟨rfl, hbl2⟩))
                    all_goals
                      go_wp2
                      go_ret
                      exact ⟨ret_bool HF.out.symm, (by repeat (first | exact HB.out | exact bl_trans (by repeat (first | exact HB.out | apply Below.drew | apply below_drewN | refine bl_alloc ?_ _)) hbl2 | apply Below.drew | apply below_drewN | refine bl_alloc ?_ _))⟩
              · have hb5 : (t % q != 0) = true := by simpa using c5
                have HF : Hid (slB zs n = false) := Lib.hid (slB_no hlt (fun h => c5 (HSK.out.1 h.1).2.2.2.2))
                have c3' : ¬ 1 < g := by omega
                have c3b : (g != 1) = false := by rw [c3]; rfl
                clear c1 c2 c3 c4 c5 re qe te hcell
                go_wp2_with (first | (go_at_call 94; refine (l01In_any _ _ _ _).mono ?_; rintro e w' ⟨rfl, rfl⟩) | (go_at_call 95; refine (l01GcdS_at HG.out (wdS (by omega) (by omega)) (wdS (by omega) (by omega)) _).mono ?_; rintro e w' ⟨rfl, nq, rfl⟩))
                go_ret
                exact ⟨ret_bool HF.out.symm, (by repeat (first | exact HB.out | exact bl_trans (by repeat (first | exact HB.out | apply Below.drew | apply below_drewN | refine bl_alloc ?_ _)) hbl2 | apply Below.drew | apply below_drewN | refine bl_alloc ?_ _))⟩
            · have hd4 := dec_out c4
              have HF : Hid (slB zs n = false) := Lib.hid (slB_no hlt (fun h => c4 (HSK.out.1 h.1).2.2.2.1))
              have c3' : ¬ 1 < g := by omega
              have c3b : (g != 1) = false := by rw [c3]; rfl
              clear c1 c2 c3 c4 re qe te hcell
              go_wp2_with (first | (go_at_call 94; refine (l01In_any _ _ _ _).mono ?_; rintro e w' ⟨rfl, rfl⟩) | (go_at_call 95; refine (l01GcdS_at HG.out (wdS (by omega) (by omega)) (wdS (by omega) (by omega)) _).mono ?_; rintro e w' ⟨rfl, nq, rfl⟩))
              go_ret
              exact ⟨ret_bool HF.out.symm, (by repeat (first | exact HB.out | exact bl_trans (by repeat (first | exact HB.out | apply Below.drew | apply below_drewN | refine bl_alloc ?_ _)) hbl2 | apply Below.drew | apply below_drewN | refine bl_alloc ?_ _))⟩
          · have c3' : 1 < g := by omega
            have c3b : (g != 1) = true := by simpa using c3
            have HF : Hid (slB zs n = false) := Lib.hid (slB_no hlt (fun h => c3 (HSK.out.1 h.1).2.2.1))
            clear c1 c2 c3 re qe te hcell
            go_wp2_with (first | (go_at_call 94; refine (l01In_any _ _ _ _).mono ?_; rintro e w' ⟨rfl, rfl⟩) | (go_at_call 95; refine (l01GcdS_at HG.out (wdS (by omega) (by omega)) (wdS (by omega) (by omega)) _).mono ?_; rintro e w' ⟨rfl, nq, rfl⟩))
            go_ret
            exact ⟨ret_bool HF.out.symm, (by repeat (first | exact HB.out | exact bl_trans (by repeat (first | exact HB.out | apply Below.drew | apply below_drewN | refine bl_alloc ?_ _)) hbl2 | apply Below.drew | apply below_drewN | refine bl_alloc ?_ _))⟩
        · have hd2 := dec_out c2
          have HF : Hid (slB zs n = false) := Lib.hid (slB_no hlt (fun h => c2 (HSK.out.1 h.1).2.1))
          clear c1 c2 re qe te hcell
          go_wp2_with (first | (go_at_call 94; refine (l01In_any _ _ _ _).mono ?_; rintro e w' ⟨rfl, rfl⟩))
          go_ret
          exact ⟨ret_bool HF.out.symm, (by repeat (first | exact HB.out | exact bl_trans (by repeat (first | exact HB.out | apply Below.drew | apply below_drewN | refine bl_alloc ?_ _)) hbl2 | apply Below.drew | apply below_drewN | refine bl_alloc ?_ _))⟩
      · have hd1 := dec_out c1
        have HF : Hid (slB zs n = false) := Lib.hid (slB_no hlt (fun h => c1 (HSK.out.1 h.1).1))
        clear c1 re qe te hcell
        go_wp2_with (first | (go_at_call 94; refine (l01In_any _ _ _ _).mono ?_; rintro e w' ⟨rfl, rfl⟩))
        go_ret
        exact ⟨ret_bool HF.out.symm, (by repeat (first | exact HB.out | exact bl_trans (by repeat (first | exact HB.out | apply Below.drew | apply below_drewN | refine bl_alloc ?_ _)) hbl2 | apply Below.drew | apply below_drewN | refine bl_alloc ?_ _))⟩
    · have HF : Hid (slB zs n = decide ((n : Int) ≤ 8)) := Lib.hid (by
        unfold slB
        have h : SlOk zs n ↔ (n : Int) ≤ 8 := ⟨fun h => by have := h.2; omega, fun h => ⟨fun i hi => HN.out i (by omega), by omega⟩⟩
        exact decide_eq_decide.2 h)
      go_wp2
      go_ret
      exact ⟨by rw [HF.out]; rfl, HB.out⟩

end Go.Proofs.Ythdmanngjnfamaa
