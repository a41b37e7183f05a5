
/- The walks of the tests of splittings. -/
import Derived.Test.YtgajgonepcikbaaDoorPrime
import Derived.Test.YtgajgonepcikbaaDoorGcd
import Derived.Test.YtgajgonepcikbaaDoorFlat
import Derived.Deep.QuietTactic
import Derived.BigQuiet
import Derived.Deep.RegionHeld3
import Derived.IntWalk
namespace Go.Proofs.YtgajgonepcikbaaDoor
open Go.RowKit

def zR (zs : List Int) (k : Nat) : Int := zs.getD (k * 3) 0
def zI (zs : List Int) (k : Nat) : Int := zs.getD (k * 3 + 1) 0
def zT (zs : List Int) (k : Nat) : Int := zs.getD (k * 3 + 2) 0
def O8 (x : Int) : Prop := 1 ≤ x ∧ x ≤ 8
instance (x : Int) : Decidable (O8 x) := by unfold O8; infer_instance
/-- one splitting comes before another -/
def Bf (a b c d : Int) : Prop := a < c ∨ a = c ∧ b < d
instance (a b c d : Int) : Decidable (Bf a b c d) := by unfold Bf; infer_instance
def SpK (zs : List Int) (k : Nat) : Prop := (O8 (zR zs k) ∧ O8 (zI zs k) ∧ O8 (zT zs k)) ∧ (0 < k → Bf (zR zs (k - 1)) (zI zs (k - 1)) (zR zs k) (zI zs k))
instance (zs : List Int) (k : Nat) : Decidable (SpK zs k) := by unfold SpK; infer_instance
/-- the sum of the degrees -/
def spS (zs : List Int) : Nat → Int
  | 0 => 0
  | k + 1 => spS zs k + zR zs k * zI zs k * zT zs k
def SpOk (zs : List Int) (n : Nat) : Prop := (∀ k, k < n → SpK zs k) ∧ spS zs n ≤ 8
instance (zs : List Int) (n : Nat) : Decidable (SpOk zs n) := by unfold SpOk; infer_instance
def spOkB (zs : List Int) (n : Nat) : Bool := decide (SpOk zs n)
theorem spOkB_no {zs : List Int} {n k : Nat} (hk : k < n) (h : ¬ SpK zs k) : spOkB zs n = false := by
  unfold spOkB
  rw [decide_eq_false_iff_not]
  exact fun hs => h (hs.1 k hk)
theorem spOkB_end {zs : List Int} {n : Nat} {s : Int} (hs : s = spS zs n) (h : ∀ k, k < n → SpK zs k) : spOkB zs n = decide (s ≤ 8) := by
  subst hs
  unfold spOkB
  by_cases h8 : spS zs n ≤ 8
  · rw [decide_eq_true h8]; exact decide_eq_true ⟨h, h8⟩
  · rw [decide_eq_false h8]; exact decide_eq_false (fun hs => h8 hs.2)
theorem mul8 {a b : Int} (ha : O8 a) (hb : O8 b) : 1 ≤ a * b ∧ a * b ≤ 64 := by
  obtain ⟨a1, a2⟩ := ha
  obtain ⟨b1, b2⟩ := hb
  have h1 : 1 * 1 ≤ a * b := Int.mul_le_mul a1 b1 (by omega) (by omega)
  have h2 : a * b ≤ 8 * 8 := Int.mul_le_mul a2 b2 (by omega) (by omega)
  omega
theorem mul64 {m c : Int} (hm : 1 ≤ m ∧ m ≤ 64) (hc : O8 c) : 1 ≤ m * c ∧ m * c ≤ 512 := by
  obtain ⟨a1, a2⟩ := hm
  obtain ⟨b1, b2⟩ := hc
  have h1 : 1 * 1 ≤ m * c := Int.mul_le_mul a1 b1 (by omega) (by omega)
  have h2 : m * c ≤ 64 * 8 := Int.mul_le_mul a2 b2 (by omega) (by omega)
  omega
theorem ret_bool3 {a : Bool} (h : a = false) : Ending.returned (.bool false) = .returned (.bool a) := by rw [h]
theorem quietM {P : Program} {f : FuncId} {vs : Array Value} {w : World} {v : Value} (h : Calls P f vs w fun e w' => e = .returned v ∧ w = w') : Calls P f vs w fun e w' => e = .returned v ∧ w' = w := h.mono fun _ _ h => ⟨h.1, h.2.symm⟩

def cmpZ (a b : Int) : Int := if a < b then -1 else if b < a then 1 else 0
theorem cmpZ_any (a b : Int) (w : World) :
    Calls Tryd.prog 136 #[.int .i64 a, .int .i64 b] w fun e w' => e = .returned (.int .i64 (cmpZ a b)) ∧ w = w' := by
  have ha : (a != a) = false := by simp
  have hb : (b != b) = false := by simp
  rcases Int.lt_trichotomy a b with h | h | h
  · have HE : Hid (cmpZ a b = -1) := Lib.hid (by unfold cmpZ; rw [if_pos h])
    go_enter Tryd.func136, Tryd.ntmps136
    go_wp2_with (first | (go_at_call 148; go_in))
    go_ret
    exact ⟨by rw [HE.out]; rfl, rfl⟩
  · subst h
    have HE : Hid (cmpZ a a = 0) := Lib.hid (by unfold cmpZ; rw [if_neg (by omega), if_neg (by omega)])
    go_enter Tryd.func136, Tryd.ntmps136
    go_wp2_with (first | (go_at_call 148; go_in))
    go_ret
    exact ⟨by rw [HE.out]; rfl, rfl⟩
  · have HE : Hid (cmpZ a b = 1) := Lib.hid (by unfold cmpZ; rw [if_neg (by omega), if_pos h])
    go_enter Tryd.func136, Tryd.ntmps136
    go_wp2_with (first | (go_at_call 148; go_in))
    go_ret
    exact ⟨by rw [HE.out]; rfl, rfl⟩
/-- the first of two numbers that is not 0 -/
def orZ (u v : Int) : Int := if u = 0 then v else u
theorem or_any (g : Nat) (u v : Int) (w : World) (h0 : w.cell? ⟨g, 0, none⟩ = some (.int .i64 u)) (h1 : w.cell? ⟨g, 1, none⟩ = some (.int .i64 v)) :
    Calls Tryd.prog 135 #[.slice (some ⟨g, 0, none⟩) 2 2] w fun e w' => e = .returned (.int .i64 (orZ u v)) ∧ w = w' := by
  by_cases hu : u = 0
  · have HE : Hid (orZ u v = v) := Lib.hid (by unfold orZ; rw [if_pos hu])
    have hub : (u != 0) = false := by simpa using hu
    clear hu
    by_cases hv : v = 0
    · have hvb : (v != 0) = false := by simpa using hv
      have HV := Lib.hid hv
      clear hv
      go_enter Tryd.func135, Tryd.ntmps135
      go_wp2
      refine wp_loop_rounds 3 ?_
      rw [rounds_succ]
      go_wp2
      rw [rounds_succ]
      go_wp2
      rw [rounds_succ]
      go_wp2
      go_ret
      exact ⟨by rw [HE.out, HV.out]; rfl, rfl⟩
    · have hvb : (v != 0) = true := by simpa using hv
      clear hv
      go_enter Tryd.func135, Tryd.ntmps135
      go_wp2
      refine wp_loop_rounds 2 ?_
      rw [rounds_succ]
      go_wp2
      rw [rounds_succ]
      go_wp2
      go_ret
      exact ⟨by rw [HE.out]; rfl, rfl⟩
  · have HE : Hid (orZ u v = u) := Lib.hid (by unfold orZ; rw [if_neg hu])
    have hub : (u != 0) = true := by simpa using hu
    clear hu
    go_enter Tryd.func135, Tryd.ntmps135
    go_wp2
    refine wp_loop_rounds 1 ?_
    rw [rounds_succ]
    go_wp2
    go_ret
    exact ⟨by rw [HE.out]; rfl, rfl⟩
theorem orZ_bf {a b c d : Int} : 0 ≤ orZ (cmpZ a c) (cmpZ b d) ↔ ¬ Bf a b c d := by
  unfold orZ cmpZ Bf
  split <;> split <;> (try split) <;> (try split) <;> omega
set_option maxHeartbeats 1600000 in
theorem compareSplittings_any (a b t c d s : Int) (w : World) :
    Calls Tryd.prog 118 #[.agg #[.int .i64 a, .int .i64 b, .int .i64 t], .agg #[.int .i64 c, .int .i64 d, .int .i64 s]] w fun e w' => e = .returned (.int .i64 (orZ (cmpZ a c) (cmpZ b d))) ∧ Below w.heap.size w w' := by
  go_enter Tryd.func118, Tryd.ntmps118
  go_wp2_with fail
  go_region_held3 (fun w' => w'.cell? ⟨w.heap.size, 0, none⟩ = some (.int .i64 a) ∧ w'.cell? ⟨w.heap.size, 1, none⟩ = some (.int .i64 b) ∧ w'.cell? ⟨w.heap.size + 1, 0, none⟩ = some (.int .i64 c) ∧ w'.cell? ⟨w.heap.size + 1, 1, none⟩ = some (.int .i64 d)) (first | go_keep | exact ⟨by simp [go_sem], by simp [go_sem], by simp [go_sem], by simp [go_sem]⟩) (first | (go_at_call 136; refine (cmpZ_any _ _ _).mono ?_; rintro e w' ⟨rfl, rfl⟩) | (go_at_call 135; refine (or_any _ (cmpZ a c) (cmpZ b d) _ (by simp [go_sem]) (by simp [go_sem])).mono ?_; rintro e w' ⟨rfl, rfl⟩))
  go_wp2
  go_ret
  exact ⟨rfl, by repeat (first | exact Below.refl _ _ | apply Below.drew | apply below_drewN | refine bl_alloc ?_ _)⟩
def bfB (a b c d : Int) : Bool := decide (Bf a b c d)
set_option maxHeartbeats 1600000 in
theorem l14Before_any (a b t c d s : Int) (w : World) :
    Calls Tryd.prog 117 #[.agg #[.int .i64 a, .int .i64 b, .int .i64 t], .agg #[.int .i64 c, .int .i64 d, .int .i64 s]] w fun e w' => e = .returned (.bool (bfB a b c d)) ∧ Below w.heap.size w w' := by
  by_cases h1 : a < c
  · have HE : Hid (bfB a b c d = true) := Lib.hid (decide_eq_true (.inl h1))
    have hd : decide (a < c) = true := decide_eq_true h1
    go_enter Tryd.func117, Tryd.ntmps117
    go_wp2
    go_ret
    exact ⟨by rw [HE.out]; rfl, by repeat (first | exact Below.refl _ _ | apply Below.drew | refine bl_alloc ?_ _)⟩
  · have hd : decide (a < c) = false := decide_eq_false h1
    by_cases h2 : a = c
    · have hd2 : (a == c) = true := by simpa using h2
      by_cases h3 : b < d
      · have HE : Hid (bfB a b c d = true) := Lib.hid (decide_eq_true (.inr ⟨h2, h3⟩))
        have hd3 : decide (b < d) = true := decide_eq_true h3
        clear h2
        go_enter Tryd.func117, Tryd.ntmps117
        go_wp2
        go_ret
        exact ⟨by rw [HE.out]; rfl, by repeat (first | exact Below.refl _ _ | apply Below.drew | refine bl_alloc ?_ _)⟩
      · have HE : Hid (bfB a b c d = false) := Lib.hid (decide_eq_false (by unfold Bf; omega))
        have hd3 : decide (b < d) = false := decide_eq_false h3
        clear h2
        go_enter Tryd.func117, Tryd.ntmps117
        go_wp2
        go_ret
        exact ⟨by rw [HE.out]; rfl, by repeat (first | exact Below.refl _ _ | apply Below.drew | refine bl_alloc ?_ _)⟩
    · have hd2 : (a == c) = false := by simpa using h2
      have HE : Hid (bfB a b c d = false) := Lib.hid (decide_eq_false (by unfold Bf; omega))
      clear h2
      go_enter Tryd.func117, Tryd.ntmps117
      go_wp2
      go_ret
      exact ⟨by rw [HE.out]; rfl, by repeat (first | exact Below.refl _ _ | apply Below.drew | refine bl_alloc ?_ _)⟩

set_option maxRecDepth 100000 in
set_option maxHeartbeats 4000000 in
theorem areSplittings_any (A : Option Addr) (n c : Nat) (zs : List Int) (w : World) (hr : RdC 3 w A n c (zs.map (Value.int .i64))) (hn : n ≤ 1048577) :
    Calls Tryd.prog 76 #[.slice A n c] w fun e w' => e = .returned (.bool (spOkB zs n)) ∧ Below w.heap.size w w' := by
  have HR := Lib.hid hr
  have hc := hr.2.1
  have hm := hr.2.2.1
  unfold maxLen at hm
  clear hr
  go_enter Tryd.func76, Tryd.ntmps76
  go_wp2
  go_loopw [3, 4, 5, 8] (fun sv _ _ i wr => ∃ (k : Nat) (s : Int), k ≤ n ∧ i = .int .i64 k ∧ sv = .int .i64 s ∧ 0 ≤ s ∧ s ≤ 512 * k ∧ Hid (s = spS zs k) ∧ Hid (∀ i, i < k → SpK zs i) ∧ Hid (Below w.heap.size w wr)) (fun _ _ _ i _ => n - (intOf i).toNat)
  case atStart => exact ⟨0, 0, Nat.zero_le _, rfl, rfl, by omega, by omega, Lib.hid rfl, Lib.hid (fun i hi => absurd hi (Nat.not_lt_zero _)), Lib.hid (Below.refl _ _)⟩
  case round =>
    obtain ⟨k, s, hk, rfl, rfl, s1, s2, HS, HN, HB⟩ := hrel
    by_cases hlt : k < n
    · obtain ⟨b, off, rfl, hcell⟩ := (HR.out.below HB.out).atF (by omega)
      have h0 := hcell (k * 3 + 0) (fl_lt hlt (by omega))
      rw [Nat.add_zero] at h0
      have h1 := hcell (k * 3 + 1) (fl_lt hlt (by omega))
      rw [← Nat.add_assoc] at h1
      have h2 := hcell (k * 3 + 2) (fl_lt hlt (by omega))
      rw [← Nat.add_assoc] at h2
      obtain ⟨r, re⟩ : ∃ x, x = zR zs k := ⟨_, rfl⟩
      obtain ⟨q, qe⟩ : ∃ x, x = zI zs k := ⟨_, rfl⟩
      obtain ⟨t, te⟩ : ∃ x, x = zT zs k := ⟨_, rfl⟩
      change _ = some (Value.int .i64 (zR zs k)) at h0
      change _ = some (Value.int .i64 (zI zs k)) at h1
      change _ = some (Value.int .i64 (zT zs k)) at h2
      rw [← re] at h0
      rw [← qe] at h1
      rw [← te] at h2
      have hbk := block_lt_of_cell h0
      have hbk2 : b < wr.heap.size + 1 := by omega
      by_cases c1 : O8 r
      · have hw1 : (decide (1 ≤ r) && decide (r ≤ 8)) = true := by have := c1.1; have := c1.2; simp; omega
        by_cases c2 : O8 q
        · have hw2 : (decide (1 ≤ q) && decide (q ≤ 8)) = true := by have := c2.1; have := c2.2; simp; omega
          by_cases c3 : O8 t
          · have hw3 : (decide (1 ≤ t) && decide (t ≤ 8)) = true := by have := c3.1; have := c3.2; simp; omega
            have ⟨m1, m2⟩ := mul8 c1 c2
            have ⟨m3, m4⟩ := mul64 ⟨m1, m2⟩ c3
            have HS2 : Hid (s + r * q * t = spS zs (k + 1)) := Lib.hid (by rw [HS.out, re, qe, te]; rfl)
            by_cases k0 : k = 0
            · have HN2 : Hid (∀ i, i < k + 1 → SpK zs i) := Lib.hid (fun i hi => by
                by_cases e : i = k
                · subst e; exact ⟨by rw [← re, ← qe, ← te]; exact ⟨c1, c2, c3⟩, fun h => absurd h (by omega)⟩
                · exact HN.out i (by omega))
              have hd0 : decide (0 < k) = false := by simp; omega
              clear c1 c2 c3 re qe te hcell k0
              go_wp2_with (first | (go_at_call 90; refine (within_any _ _ _ _).mono ?_; rintro e w' ⟨rfl, rfl⟩))
              go_quiet (fail)
              go_wp2
              go_roundw
              case rel => exact ⟨k + 1, s + r * q * t, by omega, by go_num, by go_num, by omega, by omega, HS2, HN2, Lib.hid (by repeat (first | exact HB.out | apply Below.drew | apply below_drewN | refine bl_alloc ?_ _))⟩
              case measure => simp [intOf]; omega
            · have p1 := hcell ((k - 1) * 3 + 0) (fl_lt (show k - 1 < n by omega) (by omega))
              rw [Nat.add_zero] at p1
              have p2 := hcell ((k - 1) * 3 + 1) (fl_lt (show k - 1 < n by omega) (by omega))
              rw [← Nat.add_assoc] at p2
              have p3 := hcell ((k - 1) * 3 + 2) (fl_lt (show k - 1 < n by omega) (by omega))
              rw [← Nat.add_assoc] at p3
              obtain ⟨r', re'⟩ : ∃ x, x = zR zs (k - 1) := ⟨_, rfl⟩
              obtain ⟨q', qe'⟩ : ∃ x, x = zI zs (k - 1) := ⟨_, rfl⟩
              change _ = some (Value.int .i64 (zR zs (k - 1))) at p1
              change _ = some (Value.int .i64 (zI zs (k - 1))) at p2
              change _ = some (Value.int .i64 (zT zs (k - 1))) at p3
              rw [← re'] at p1
              rw [← qe'] at p2
              generalize zT zs (k - 1) = t' at p3
              have i1 : (0 : Int) ≤ (k : Int) - 1 := by omega
              have i2 : (k : Int) - 1 < (n : Int) := by omega
              have i4 : (1 : Int) ≤ (k : Int) := by omega
              have i5 : 0 < k := by omega
              have i3 : decide (0 < k) = true := by simp; omega
              by_cases c4 : Bf r' q' r q
              · have HN2 : Hid (∀ i, i < k + 1 → SpK zs i) := Lib.hid (fun i hi => by
                  by_cases e : i = k
                  · subst e; exact ⟨by rw [← re, ← qe, ← te]; exact ⟨c1, c2, c3⟩, fun _ => by rw [← re, ← qe, ← re', ← qe']; exact c4⟩
                  · exact HN.out i (by omega))
                have hd : decide (0 ≤ orZ (cmpZ r' r) (cmpZ q' q)) = false := by
                  rw [decide_eq_false_iff_not, orZ_bf]; exact fun h => h c4
                clear c1 c2 c3 re qe te re' qe' hcell c4
                go_wp2_with (first | (go_at_call 90; refine (within_any _ _ _ _).mono ?_; rintro e w' ⟨rfl, rfl⟩))
                have e3 : IntKind.i64.wrap ((k : Int) - 1) = (k : Int) - 1 := IntWalk.i64_in _ (by omega)
                go_region_held3 (fun w' => w'.cell? ⟨b, off + (k - 1) * 3, none⟩ = some (.int .i64 r') ∧ w'.cell? ⟨b, off + (k - 1) * 3 + 1, none⟩ = some (.int .i64 q') ∧ w'.cell? ⟨b, off + (k - 1) * 3 + 2, none⟩ = some (.int .i64 t') ∧ w'.cell? ⟨wr.heap.size, 0, none⟩ = some (.int .i64 r) ∧ w'.cell? ⟨wr.heap.size, 1, none⟩ = some (.int .i64 q) ∧ w'.cell? ⟨wr.heap.size, 2, none⟩ = some (.int .i64 t)) (first | go_keep | (exact ⟨keep_cell hbl2 (by simp [go_sem, p1, hbk]), keep_cell hbl2 (by simp [go_sem, p2, hbk]), keep_cell hbl2 (by simp [go_sem, p3, hbk]), keep_cell hbl2 (by simp [go_sem]), keep_cell hbl2 (by simp [go_sem]), keep_cell hbl2 (by simp [go_sem])⟩)) (first | (go_at_call 118; refine (compareSplittings_any _ _ _ _ _ _ _).mono ?_; rintro e w' ⟨rfl, hbl2⟩))
                all_goals
                  go_wp2
                  go_roundw
                  case rel => exact ⟨k + 1, s + r * q * t, by omega, by go_num, by go_num, by omega, by omega, HS2, HN2, Lib.hid (by repeat (first | exact HB.out | exact bl_trans (by repeat (first | exact HB.out | apply Below.drew | apply below_drewN | refine bl_alloc ?_ _)) hbl2 | apply Below.drew | apply below_drewN | refine bl_alloc ?_ _))⟩
                  case measure => simp [intOf]; omega
              · have HF : Hid (spOkB zs n = false) := Lib.hid (spOkB_no hlt (fun h => c4 (by rw [re, qe, re', qe']; exact h.2 i5)))
                have hd : decide (0 ≤ orZ (cmpZ r' r) (cmpZ q' q)) = true := by
                  rw [decide_eq_true_iff, orZ_bf]; exact c4
                clear c1 c2 c3 re qe te re' qe' hcell c4
                go_wp2_with (first | (go_at_call 90; refine (within_any _ _ _ _).mono ?_; rintro e w' ⟨rfl, rfl⟩))
                have e3 : IntKind.i64.wrap ((k : Int) - 1) = (k : Int) - 1 := IntWalk.i64_in _ (by omega)
                go_region_held3 (fun w' => w'.cell? ⟨b, off + (k - 1) * 3, none⟩ = some (.int .i64 r') ∧ w'.cell? ⟨b, off + (k - 1) * 3 + 1, none⟩ = some (.int .i64 q') ∧ w'.cell? ⟨b, off + (k - 1) * 3 + 2, none⟩ = some (.int .i64 t') ∧ w'.cell? ⟨wr.heap.size, 0, none⟩ = some (.int .i64 r) ∧ w'.cell? ⟨wr.heap.size, 1, none⟩ = some (.int .i64 q) ∧ w'.cell? ⟨wr.heap.size, 2, none⟩ = some (.int .i64 t)) (first | go_keep | (exact ⟨keep_cell hbl2 (by simp [go_sem, p1, hbk]), keep_cell hbl2 (by simp [go_sem, p2, hbk]), keep_cell hbl2 (by simp [go_sem, p3, hbk]), keep_cell hbl2 (by simp [go_sem]), keep_cell hbl2 (by simp [go_sem]), keep_cell hbl2 (by simp [go_sem])⟩)) (first | (go_at_call 118; refine (compareSplittings_any _ _ _ _ _ _ _).mono ?_; rintro e w' ⟨rfl, hbl2⟩))
                all_goals
                  go_wp2
                  go_ret
                  exact ⟨ret_bool3 HF.out, (by repeat (first | exact HB.out | exact bl_trans (by repeat (first | exact HB.out | apply Below.drew | apply below_drewN | refine bl_alloc ?_ _)) hbl2 | apply Below.drew | apply below_drewN | refine bl_alloc ?_ _))⟩
          · have hw3 : (decide (1 ≤ t) && decide (t ≤ 8)) = false := by unfold O8 at c3; simp; omega
            have HF : Hid (spOkB zs n = false) := Lib.hid (spOkB_no hlt (fun h => c3 (by rw [te]; exact h.1.2.2)))
            clear c1 c2 c3 re qe te hcell
            go_wp2_with (first | (go_at_call 90; refine (within_any _ _ _ _).mono ?_; rintro e w' ⟨rfl, rfl⟩))
            go_ret
            exact ⟨ret_bool3 HF.out, (by repeat (first | exact HB.out | apply Below.drew | apply below_drewN | refine bl_alloc ?_ _))⟩
        · have hw2 : (decide (1 ≤ q) && decide (q ≤ 8)) = false := by unfold O8 at c2; simp; omega
          have HF : Hid (spOkB zs n = false) := Lib.hid (spOkB_no hlt (fun h => c2 (by rw [qe]; exact h.1.2.1)))
          clear c1 c2 re qe te hcell
          go_wp2_with (first | (go_at_call 90; refine (within_any _ _ _ _).mono ?_; rintro e w' ⟨rfl, rfl⟩))
          go_ret
          exact ⟨ret_bool3 HF.out, (by repeat (first | exact HB.out | apply Below.drew | apply below_drewN | refine bl_alloc ?_ _))⟩
      · have hw1 : (decide (1 ≤ r) && decide (r ≤ 8)) = false := by unfold O8 at c1; simp; omega
        have HF : Hid (spOkB zs n = false) := Lib.hid (spOkB_no hlt (fun h => c1 (by rw [re]; exact h.1.1)))
        clear c1 re qe te hcell
        go_wp2_with (first | (go_at_call 90; refine (within_any _ _ _ _).mono ?_; rintro e w' ⟨rfl, rfl⟩))
        go_ret
        exact ⟨ret_bool3 HF.out, (by repeat (first | exact HB.out | apply Below.drew | apply below_drewN | refine bl_alloc ?_ _))⟩
    · obtain rfl : k = n := by omega
      have HF : Hid (spOkB zs k = decide (s ≤ 8)) := Lib.hid (spOkB_end HS.out (fun i hi => HN.out i hi))
      go_wp2
      go_ret
      exact ⟨by rw [HF.out]; rfl, HB.out⟩

set_option maxRecDepth 100000 in
set_option maxHeartbeats 4000000 in
theorem l14List_any (A : Option Addr) (n c : Nat) (zs : List Int) (w : World) (hr : RdC 3 w A n c (zs.map (Value.int .i64))) (hn : n ≤ 1048577) :
    Calls Tryd.prog 73 #[.slice A n c] w fun e w' => e = .returned (.bool (spOkB zs n)) ∧ Below w.heap.size w w' := by
  have HR := Lib.hid hr
  have hc := hr.2.1
  have hm := hr.2.2.1
  unfold maxLen at hm
  clear hr
  go_enter Tryd.func73, Tryd.ntmps73
  go_wp2
  go_loopw [3, 4, 5] (fun sv i _ wr => ∃ (k : Nat) (s : Int), k ≤ n ∧ i = .int .i64 k ∧ sv = .int .i64 s ∧ 0 ≤ s ∧ s ≤ 512 * k ∧ Hid (s = spS zs k) ∧ Hid (∀ i, i < k → SpK zs i) ∧ Hid (Below w.heap.size w wr)) (fun _ i _ _ => n - (intOf i).toNat)
  case atStart => exact ⟨0, 0, Nat.zero_le _, rfl, rfl, by omega, by omega, Lib.hid rfl, Lib.hid (fun i hi => absurd hi (Nat.not_lt_zero _)), Lib.hid (Below.refl _ _)⟩
  case round =>
    obtain ⟨k, s, hk, rfl, rfl, s1, s2, HS, HN, HB⟩ := hrel
    by_cases hlt : k < n
    · obtain ⟨b, off, rfl, hcell⟩ := (HR.out.below HB.out).atF (by omega)
      have h0 := hcell (k * 3 + 0) (fl_lt hlt (by omega))
      rw [Nat.add_zero] at h0
      have h1 := hcell (k * 3 + 1) (fl_lt hlt (by omega))
      rw [← Nat.add_assoc] at h1
      have h2 := hcell (k * 3 + 2) (fl_lt hlt (by omega))
      rw [← Nat.add_assoc] at h2
      obtain ⟨r, re⟩ : ∃ x, x = zR zs k := ⟨_, rfl⟩
      obtain ⟨q, qe⟩ : ∃ x, x = zI zs k := ⟨_, rfl⟩
      obtain ⟨t, te⟩ : ∃ x, x = zT zs k := ⟨_, rfl⟩
      change _ = some (Value.int .i64 (zR zs k)) at h0
      change _ = some (Value.int .i64 (zI zs k)) at h1
      change _ = some (Value.int .i64 (zT zs k)) at h2
      rw [← re] at h0
      rw [← qe] at h1
      rw [← te] at h2
      have hbk := block_lt_of_cell h0
      have hbk2 : b < wr.heap.size + 1 := by omega
      by_cases c1 : O8 r
      · have hw1 : (decide (1 ≤ r) && decide (r ≤ 8)) = true := by have := c1.1; have := c1.2; simp; omega
        by_cases c2 : O8 q
        · have hw2 : (decide (1 ≤ q) && decide (q ≤ 8)) = true := by have := c2.1; have := c2.2; simp; omega
          by_cases c3 : O8 t
          · have hw3 : (decide (1 ≤ t) && decide (t ≤ 8)) = true := by have := c3.1; have := c3.2; simp; omega
            have ⟨m1, m2⟩ := mul8 c1 c2
            have ⟨m3, m4⟩ := mul64 ⟨m1, m2⟩ c3
            have HS2 : Hid (s + r * q * t = spS zs (k + 1)) := Lib.hid (by rw [HS.out, re, qe, te]; rfl)
            by_cases k0 : k = 0
            · have HN2 : Hid (∀ i, i < k + 1 → SpK zs i) := Lib.hid (fun i hi => by
                by_cases e : i = k
                · subst e; exact ⟨by rw [← re, ← qe, ← te]; exact ⟨c1, c2, c3⟩, fun h => absurd h (by omega)⟩
                · exact HN.out i (by omega))
              have hd0 : decide (0 < k) = false := by simp; omega
              clear c1 c2 c3 re qe te hcell k0
              go_wp2_with fail
              go_quiet (first | ((go_at_call 103; exact Calls.quiet_of_same (quietM (l01In_any _ _ _ _)))))
              go_wp2
              go_roundw
              case rel => exact ⟨k + 1, s + r * q * t, by omega, by go_num, by go_num, by omega, by omega, HS2, HN2, Lib.hid (by repeat (first | exact HB.out | apply Below.drew | apply below_drewN | refine bl_alloc ?_ _))⟩
              case measure => simp [intOf]; omega
            · have p1 := hcell ((k - 1) * 3 + 0) (fl_lt (show k - 1 < n by omega) (by omega))
              rw [Nat.add_zero] at p1
              have p2 := hcell ((k - 1) * 3 + 1) (fl_lt (show k - 1 < n by omega) (by omega))
              rw [← Nat.add_assoc] at p2
              have p3 := hcell ((k - 1) * 3 + 2) (fl_lt (show k - 1 < n by omega) (by omega))
              rw [← Nat.add_assoc] at p3
              obtain ⟨r', re'⟩ : ∃ x, x = zR zs (k - 1) := ⟨_, rfl⟩
              obtain ⟨q', qe'⟩ : ∃ x, x = zI zs (k - 1) := ⟨_, rfl⟩
              change _ = some (Value.int .i64 (zR zs (k - 1))) at p1
              change _ = some (Value.int .i64 (zI zs (k - 1))) at p2
              change _ = some (Value.int .i64 (zT zs (k - 1))) at p3
              rw [← re'] at p1
              rw [← qe'] at p2
              generalize zT zs (k - 1) = t' at p3
              have i1 : (0 : Int) ≤ (k : Int) - 1 := by omega
              have i2 : (k : Int) - 1 < (n : Int) := by omega
              have i4 : (1 : Int) ≤ (k : Int) := by omega
              have i5 : 0 < k := by omega
              have i3 : decide (0 < k) = true := by simp; omega
              by_cases c4 : Bf r' q' r q
              · have HN2 : Hid (∀ i, i < k + 1 → SpK zs i) := Lib.hid (fun i hi => by
                  by_cases e : i = k
                  · subst e; exact ⟨by rw [← re, ← qe, ← te]; exact ⟨c1, c2, c3⟩, fun _ => by rw [← re, ← qe, ← re', ← qe']; exact c4⟩
                  · exact HN.out i (by omega))
                have hd : bfB r' q' r q = true := decide_eq_true c4
                clear c1 c2 c3 re qe te re' qe' hcell c4
                go_wp2_with fail
                have e3 : IntKind.i64.wrap ((k : Int) - 1) = (k : Int) - 1 := IntWalk.i64_in _ (by omega)
                go_region_held3 (fun w' => w'.cell? ⟨b, off + (k - 1) * 3, none⟩ = some (.int .i64 r') ∧ w'.cell? ⟨b, off + (k - 1) * 3 + 1, none⟩ = some (.int .i64 q') ∧ w'.cell? ⟨b, off + (k - 1) * 3 + 2, none⟩ = some (.int .i64 t') ∧ w'.cell? ⟨wr.heap.size, 0, none⟩ = some (.int .i64 r) ∧ w'.cell? ⟨wr.heap.size, 1, none⟩ = some (.int .i64 q) ∧ w'.cell? ⟨wr.heap.size, 2, none⟩ = some (.int .i64 t)) (first | go_keep | (exact ⟨keep_cell hbl2 (by simp [go_sem, p1, hbk]), keep_cell hbl2 (by simp [go_sem, p2, hbk]), keep_cell hbl2 (by simp [go_sem, p3, hbk]), keep_cell hbl2 (by simp [go_sem]), keep_cell hbl2 (by simp [go_sem]), keep_cell hbl2 (by simp [go_sem])⟩)) (first | (go_at_call 103; refine (l01In_any _ _ _ _).mono ?_; rintro e w' ⟨rfl, rfl⟩) | (go_at_call 117; refine (l14Before_any _ _ _ _ _ _ _).mono ?_; rintro e w' ⟨rfl, hbl2⟩))
                all_goals
                  go_wp2
                  go_roundw
                  case rel => exact ⟨k + 1, s + r * q * t, by omega, by go_num, by go_num, by omega, by omega, HS2, HN2, Lib.hid (by repeat (first | exact HB.out | exact bl_trans (by repeat (first | exact HB.out | apply Below.drew | apply below_drewN | refine bl_alloc ?_ _)) hbl2 | apply Below.drew | apply below_drewN | refine bl_alloc ?_ _))⟩
                  case measure => simp [intOf]; omega
              · have HF : Hid (spOkB zs n = false) := Lib.hid (spOkB_no hlt (fun h => c4 (by rw [re, qe, re', qe']; exact h.2 i5)))
                have hd : bfB r' q' r q = false := decide_eq_false c4
                clear c1 c2 c3 re qe te re' qe' hcell c4
                go_wp2_with fail
                have e3 : IntKind.i64.wrap ((k : Int) - 1) = (k : Int) - 1 := IntWalk.i64_in _ (by omega)
                go_region_held3 (fun w' => w'.cell? ⟨b, off + (k - 1) * 3, none⟩ = some (.int .i64 r') ∧ w'.cell? ⟨b, off + (k - 1) * 3 + 1, none⟩ = some (.int .i64 q') ∧ w'.cell? ⟨b, off + (k - 1) * 3 + 2, none⟩ = some (.int .i64 t') ∧ w'.cell? ⟨wr.heap.size, 0, none⟩ = some (.int .i64 r) ∧ w'.cell? ⟨wr.heap.size, 1, none⟩ = some (.int .i64 q) ∧ w'.cell? ⟨wr.heap.size, 2, none⟩ = some (.int .i64 t)) (first | go_keep | (exact ⟨keep_cell hbl2 (by simp [go_sem, p1, hbk]), keep_cell hbl2 (by simp [go_sem, p2, hbk]), keep_cell hbl2 (by simp [go_sem, p3, hbk]), keep_cell hbl2 (by simp [go_sem]), keep_cell hbl2 (by simp [go_sem]), keep_cell hbl2 (by simp [go_sem])⟩)) (first | (go_at_call 103; refine (l01In_any _ _ _ _).mono ?_; rintro e w' ⟨rfl, rfl⟩) | (go_at_call 117; refine (l14Before_any _ _ _ _ _ _ _).mono ?_; rintro e w' ⟨rfl, hbl2⟩))
                all_goals
                  go_wp2
                  go_ret
                  exact ⟨ret_bool3 HF.out, (by repeat (first | exact HB.out | exact bl_trans (by repeat (first | exact HB.out | apply Below.drew | apply below_drewN | refine bl_alloc ?_ _)) hbl2 | apply Below.drew | apply below_drewN | refine bl_alloc ?_ _))⟩
          · have hw3 : (decide (1 ≤ t) && decide (t ≤ 8)) = false := by unfold O8 at c3; simp; omega
            have HF : Hid (spOkB zs n = false) := Lib.hid (spOkB_no hlt (fun h => c3 (by rw [te]; exact h.1.2.2)))
            clear c1 c2 c3 re qe te hcell
            go_wp2_with fail
            go_quiet (first | ((go_at_call 103; exact Calls.quiet_of_same (quietM (l01In_any _ _ _ _)))))
            go_wp2
            go_ret
            exact ⟨ret_bool3 HF.out, (by repeat (first | exact HB.out | apply Below.drew | apply below_drewN | refine bl_alloc ?_ _))⟩
        · have hw2 : (decide (1 ≤ q) && decide (q ≤ 8)) = false := by unfold O8 at c2; simp; omega
          have HF : Hid (spOkB zs n = false) := Lib.hid (spOkB_no hlt (fun h => c2 (by rw [qe]; exact h.1.2.1)))
          clear c1 c2 re qe te hcell
          go_wp2_with fail
          go_quiet (first | ((go_at_call 103; exact Calls.quiet_of_same (quietM (l01In_any _ _ _ _)))))
          go_wp2
          go_ret
          exact ⟨ret_bool3 HF.out, (by repeat (first | exact HB.out | apply Below.drew | apply below_drewN | refine bl_alloc ?_ _))⟩
      · have hw1 : (decide (1 ≤ r) && decide (r ≤ 8)) = false := by unfold O8 at c1; simp; omega
        have HF : Hid (spOkB zs n = false) := Lib.hid (spOkB_no hlt (fun h => c1 (by rw [re]; exact h.1.1)))
        clear c1 re qe te hcell
        go_wp2_with fail
        go_quiet (first | ((go_at_call 103; exact Calls.quiet_of_same (quietM (l01In_any _ _ _ _)))))
        go_wp2
        go_ret
        exact ⟨ret_bool3 HF.out, (by repeat (first | exact HB.out | apply Below.drew | apply below_drewN | refine bl_alloc ?_ _))⟩
    · obtain rfl : k = n := by omega
      have HF : Hid (spOkB zs k = decide (s ≤ 8)) := Lib.hid (spOkB_end HS.out (fun i hi => HN.out i hi))
      go_wp2
      go_ret
      exact ⟨by rw [HF.out]; rfl, HB.out⟩
end Go.Proofs.YtgajgonepcikbaaDoor
