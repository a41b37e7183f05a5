
/- The walks of CountWithSlope, and of the law over it. -/
import Derived.Test.YthdmanngjnfamaaPure
import Derived.Test.YthdmanngjnfamaaJoin
namespace Go.Proofs.Ythdmanngjnfamaa
open Go.RowKit

theorem isPlaceC_any (x : Int) (w : World) : Calls Try.prog 122 #[.int .i64 x] w fun e w' => e = .returned (.bool (decide (-60 ≤ x) && decide (x ≤ 60))) ∧ w = w' := by
  go_enter Try.func122, Try.ntmps122
  go_wp2_with (go_at_call 92; refine (within_any _ _ _ _).mono ?_; rintro e w' ⟨rfl, rfl⟩)
  go_ret
  exact ⟨rfl, rfl⟩
theorem decC_out {x lo hi : Int} (h : ¬ (lo ≤ x ∧ x ≤ hi)) : (decide (lo ≤ x) && decide (x ≤ hi)) = false := by
  simp only [Bool.and_eq_false_iff, decide_eq_false_iff_not]; omega
/-- the length of the first of f pieces from k on with a slope -/
def csG (zs : List Int) (rise run : Int) : Nat → Nat → Int
  | 0, _ => 0
  | f + 1, k => if sR zs k * run = rise * sQ zs k then sT zs k else csG zs rise run f (k + 1)
noncomputable def csC (p : Int) (xs : List Int) (rise run : Int) : Int := if pgC p xs = 0 then (if (-60 ≤ rise ∧ rise ≤ 60) ∧ (1 ≤ run ∧ run ≤ 8) then 0 else 2) else pgC p xs
noncomputable def csV (p : Int) (xs : List Int) (rise run : Int) : Int := if csC p xs rise run = 0 then csG (soL p xs) rise run ((plL p xs).length - 1) 0 else 0
theorem tdiv_abs (a b : Int) : (a.tdiv b).natAbs ≤ a.natAbs := by rw [Int.natAbs_tdiv]; exact Nat.div_le_self _ _
/-- bounds of the slopes -/
theorem so_bd {p : Int} {xs : List Int} (hp : SP p) (hx : POk xs) (h0 : 0 < xs.length) {k : Nat} (hk : k < (plL p xs).length - 1) :
    ((sR (soL p xs) k).natAbs ≤ 39 ∧ (sQ (soL p xs) k).natAbs ≤ 8) ∧ 1 ≤ sT (soL p xs) k ∧ sT (soL p xs) k ≤ 8 := by
  have hb := plL_bd hp hx h0
  have hi := pw_inc (plL_inc (p := p) hx h0) k (k + 1) (by omega) (by omega)
  have ⟨⟨a1, a2⟩, ⟨a3, a4⟩⟩ := bd_at hb (i := k) (by omega)
  have ⟨⟨b1, b2⟩, ⟨b3, b4⟩⟩ := bd_at hb (i := k + 1) (by omega)
  have ⟨e1, e2, e3⟩ := slF_at (plL p xs) hk
  have f1 : sR (soL p xs) k = (slP ((plL p xs).getD k (0, 0)) ((plL p xs).getD (k + 1) (0, 0))).getD 0 0 := e1
  have f2 : sQ (soL p xs) k = (slP ((plL p xs).getD k (0, 0)) ((plL p xs).getD (k + 1) (0, 0))).getD 1 0 := e2
  have f3 : sT (soL p xs) k = (slP ((plL p xs).getD k (0, 0)) ((plL p xs).getD (k + 1) (0, 0))).getD 2 0 := e3
  rw [f1, f2, f3]
  unfold pX pY at *
  generalize (plL p xs).getD k (0, 0) = u at *
  generalize (plL p xs).getD (k + 1) (0, 0) = v at *
  show (((v.2 - u.2).tdiv _).natAbs ≤ 39 ∧ ((v.1 - u.1).tdiv _).natAbs ≤ 8) ∧ 1 ≤ v.1 - u.1 ∧ v.1 - u.1 ≤ 8
  have c1 := tdiv_abs (v.2 - u.2) (Int.gcd (v.2 - u.2) (v.1 - u.1) : Int)
  have c2 := tdiv_abs (v.1 - u.1) (Int.gcd (v.2 - u.2) (v.1 - u.1) : Int)
  omega
theorem m_bd {x y : Int} (h1 : x.natAbs ≤ 60) (h2 : y.natAbs ≤ 8) : -480 ≤ x * y ∧ x * y ≤ 480 := by
  have h : (x * y).natAbs ≤ 60 * 8 := by
    rw [Int.natAbs_mul]
    exact Nat.mul_le_mul h1 h2
  generalize x * y = z at *
  omega
theorem slopes_at {p : Int} {A : Option Addr} {n c : Nat} {xs : List Int} {M : Nat} (w : World) (hM : M = (plL p xs).length - 1) (hr : Rd .i64 w A n c xs) (hp : SP p) (hx : POk xs) (h0 : 0 < xs.length) :
    Calls Try.prog 109 #[.int .i64 p, .slice A n c] w fun e w' => ∃ A' c', e = .returned (.slice A' M c') ∧ OwnC 107 3 w' w.heap.size A' M c' ((soL p xs).map (Value.int .i64)) ∧ Below w.heap.size w w' := by
  subst hM; exact slopes_any p A n c xs w hr hp hx h0
theorem l13Slopes_at {p : Int} {A : Option Addr} {n c : Nat} {xs : List Int} {M : Nat} (w : World) (hM : M = (plL p xs).length - 1) (hr : Rd .i64 w A n c xs) (hp : SP p) (hx : POk xs) (h0 : 0 < xs.length) :
    Calls Try.prog 111 #[.int .i64 p, .slice A n c] w fun e w' => ∃ A' c', e = .returned (.slice A' M c') ∧ OwnC 107 3 w' w.heap.size A' M c' ((soL p xs).map (Value.int .i64)) ∧ Below w.heap.size w w' := by
  subst hM; exact l13Slopes_any p A n c xs w hr hp hx h0

set_option maxRecDepth 100000 in
set_option maxHeartbeats 1600000 in
theorem specCountWithSlope_any (p : Int) (A : Option Addr) (n c : Nat) (xs : List Int) (rise run : Int) (w : World) (hr : Rd .i64 w A n c xs) :
    Calls Try.prog 61 #[.int .i64 p, .slice A n c, .int .i64 rise, .int .i64 run] w fun e w' => e = .returned (.tuple #[.int .i64 (csV p xs rise run), .int .i64 (csC p xs rise run)]) ∧ Below w.heap.size w w' := by
  have HR := Lib.hid hr
  clear hr
  obtain ⟨k, hk⟩ : ∃ k, k = pgC p xs := ⟨_, rfl⟩
  have HK := Lib.hid hk
  by_cases hz : k = 0
  · subst hz
    by_cases c1 : -60 ≤ rise ∧ rise ≤ 60
    · have ⟨r1, r2⟩ := c1
      by_cases c2 : 1 ≤ run ∧ run ≤ 8
      · have ⟨n1, n2⟩ := c2
        have ⟨hp, hx, h0⟩ := pgC_zero hk.symm
        obtain ⟨N, hN⟩ : ∃ N, N = (plL p xs).length - 1 := ⟨_, rfl⟩
        obtain ⟨zs, hzs⟩ : ∃ z, z = soL p xs := ⟨_, rfl⟩
        have HE : Hid (csC p xs rise run = 0 ∧ csV p xs rise run = csG zs rise run N 0) := Lib.hid (by
          have e : csC p xs rise run = 0 := by unfold csC; rw [← hk, if_pos rfl, if_pos ⟨c1, c2⟩]
          exact ⟨e, by unfold csV; rw [e, if_pos rfl, hN, hzs]⟩)
        have HSB : Hid (∀ i, i < N → ((sR zs i).natAbs ≤ 39 ∧ (sQ zs i).natAbs ≤ 8) ∧ 1 ≤ sT zs i ∧ sT zs i ≤ 8) := Lib.hid (fun i hi => by rw [hzs]; exact so_bd hp hx h0 (by omega))
        have hN9 : N ≤ 9 := by have := plL_len (p := p) hx h0; omega
        have HP := Lib.hid hp
        have HX := Lib.hid hx
        have H0 := Lib.hid h0
        have HN := Lib.hid hN
        have HZS := Lib.hid hzs
        clear hk hp hx h0 hN hzs c1 c2
        go_enter Try.func61, Try.ntmps61
        go_wp2_with (first | (go_at_call 110; refine (l13Code_at _ HR.out HK.out).mono ?_; rintro e w' ⟨rfl, rfl⟩) | (go_at_call 94; refine (l01In_any _ _ _ _).mono ?_; rintro e w' ⟨rfl, rfl⟩))
        refine (l13Slopes_at _ HN.out HR.out HP.out HX.out H0.out).mono ?_
        rintro e w1 ⟨A1, c3, rfl, ho, hb⟩
        rw [← HZS.out] at ho
        have HB1 := Lib.hid hb
        have HRd := Lib.hid ho.rd
        have hcs := ho.2.1
        have hcs2 := ho.2.2.1
        unfold maxLen at hcs2
        clear ho hb
        go_wp2
        go_loopw [12] (fun i wr => ∃ k : Nat, k ≤ N ∧ i = .int .i64 k ∧ Hid (csG zs rise run (N - k) k = csV p xs rise run) ∧ Hid (Below w1.heap.size w1 wr)) (fun i _ => N - (intOf i).toNat)
        case atStart => exact ⟨0, Nat.zero_le _, rfl, Lib.hid (by rw [HE.out.2]; rfl), Lib.hid (Below.refl _ _)⟩
        case round =>
          obtain ⟨k, hk, rfl, HV, HB⟩ := hrel
          by_cases hlt : k < N
          · obtain ⟨b, off, rfl, hcell⟩ := (HRd.out.below HB.out).atF (by omega)
            have h0 := hcell (k * 3 + 0) (fl_lt hlt (by omega))
            rw [Nat.add_zero] at h0
            have h1 := hcell (k * 3 + 1) (fl_lt hlt (by omega))
            rw [← Nat.add_assoc] at h1
            have h2 := hcell (k * 3 + 2) (fl_lt hlt (by omega))
            rw [← Nat.add_assoc] at h2
            have ⟨⟨s1, s2⟩, s3, s4⟩ := HSB.out k hlt
            have hst : csG zs rise run (N - k) k = if sR zs k * run = rise * sQ zs k then sT zs k else csG zs rise run (N - (k + 1)) (k + 1) := by
              rw [show N - k = N - (k + 1) + 1 by omega]; rfl
            obtain ⟨r, re⟩ : ∃ x, x = sR zs k := ⟨_, rfl⟩
            obtain ⟨q, qe⟩ : ∃ x, x = sQ zs k := ⟨_, rfl⟩
            obtain ⟨t, te⟩ : ∃ x, x = sT zs k := ⟨_, rfl⟩
            change _ = some (Value.int .i64 (sR zs k)) at h0
            change _ = some (Value.int .i64 (sQ zs k)) at h1
            change _ = some (Value.int .i64 (sT zs k)) at h2
            rw [← re] at h0 s1 hst
            rw [← qe] at h1 s2 hst
            rw [← te] at h2 s3 s4 hst
            have ⟨m1, m2⟩ := m_bd (x := r) (y := run) (by omega) (by omega)
            have ⟨m3, m4⟩ := m_bd (x := rise) (y := q) (by omega) s2
            have i1 : (0 : Int) ≤ (k : Int) := by omega
            have i2 : (k : Int) < (N : Int) := by omega
            clear hcell re qe te s1 s2
            by_cases hc : r * run = rise * q
            · have hcb : (r * run == rise * q) = true := by simpa using hc
              have HF : Hid (csV p xs rise run = t) := Lib.hid (by rw [← HV.out, hst, if_pos hc])
              clear hc hst
              go_wp2
              have e1 : IntKind.i64.wrap (r * run) = r * run := IntWalk.i64_in _ (by omega)
              have e2 : IntKind.i64.wrap (rise * q) = rise * q := IntWalk.i64_in _ (by omega)
              go_quiet (fail)
              clear e1 e2
              go_wp2
              go_ret2
              exact ⟨by rw [HF.out, HE.out.1]; rfl, bl_trans HB1.out (by repeat (first | exact HB.out | apply Below.drew | apply below_drewN | refine bl_alloc ?_ _))⟩
            · have hcb : (r * run == rise * q) = false := by simpa using hc
              have HV2 : Hid (csG zs rise run (N - (k + 1)) (k + 1) = csV p xs rise run) := Lib.hid (by rw [← HV.out, hst, if_neg hc])
              clear hc hst
              go_wp2
              have e1 : IntKind.i64.wrap (r * run) = r * run := IntWalk.i64_in _ (by omega)
              have e2 : IntKind.i64.wrap (rise * q) = rise * q := IntWalk.i64_in _ (by omega)
              go_quiet (fail)
              clear e1 e2
              go_wp2
              go_roundw
              case rel => exact ⟨k + 1, by omega, by go_num, HV2, Lib.hid (by repeat (first | exact HB.out | apply Below.drew | apply below_drewN | refine bl_alloc ?_ _))⟩
              case measure => simp [intOf]; omega
          · have HF : Hid (csV p xs rise run = 0) := Lib.hid (by rw [← HV.out, show N - k = 0 by omega]; rfl)
            go_wp2
            go_ret2
            exact ⟨by rw [HF.out, HE.out.1]; rfl, bl_trans HB1.out HB.out⟩
      · have hd := decC_out c2
        have HE : Hid (csC p xs rise run = 2 ∧ csV p xs rise run = 0) := Lib.hid (by
          have e : csC p xs rise run = 2 := by unfold csC; rw [← hk, if_pos rfl, if_neg (fun h => c2 h.2)]
          exact ⟨e, by unfold csV; rw [e, if_neg (by omega)]⟩)
        clear hk c1 c2
        go_enter Try.func61, Try.ntmps61
        go_wp2_with (first | (go_at_call 110; refine (l13Code_at _ HR.out HK.out).mono ?_; rintro e w' ⟨rfl, rfl⟩) | (go_at_call 94; refine (l01In_any _ _ _ _).mono ?_; rintro e w' ⟨rfl, rfl⟩))
        go_ret2
        exact ⟨by rw [HE.out.1, HE.out.2]; rfl, Below.refl _ _⟩
    · have hd := decC_out c1
      have HE : Hid (csC p xs rise run = 2 ∧ csV p xs rise run = 0) := Lib.hid (by
        have e : csC p xs rise run = 2 := by unfold csC; rw [← hk, if_pos rfl, if_neg (fun h => c1 h.1)]
        exact ⟨e, by unfold csV; rw [e, if_neg (by omega)]⟩)
      clear hk c1
      go_enter Try.func61, Try.ntmps61
      go_wp2_with (first | (go_at_call 110; refine (l13Code_at _ HR.out HK.out).mono ?_; rintro e w' ⟨rfl, rfl⟩) | (go_at_call 94; refine (l01In_any _ _ _ _).mono ?_; rintro e w' ⟨rfl, rfl⟩))
      go_ret2
      exact ⟨by rw [HE.out.1, HE.out.2]; rfl, Below.refl _ _⟩
  · have hk2 : (k != 0) = true := by simpa using hz
    have hk3 : (k == 0) = false := by simpa using hz
    have HE : Hid (csC p xs rise run = k ∧ csV p xs rise run = 0) := Lib.hid (by
      have e : csC p xs rise run = k := by unfold csC; rw [← hk, if_neg hz]
      exact ⟨e, by unfold csV; rw [e, if_neg hz]⟩)
    clear hk hz
    go_enter Try.func61, Try.ntmps61
    go_wp2_with (first | (go_at_call 110; refine (l13Code_at _ HR.out HK.out).mono ?_; rintro e w' ⟨rfl, rfl⟩) | (go_at_call 94; refine (l01In_any _ _ _ _).mono ?_; rintro e w' ⟨rfl, rfl⟩))
    go_ret2
    exact ⟨by rw [HE.out.1, HE.out.2]; rfl, Below.refl _ _⟩

set_option maxRecDepth 100000 in
set_option maxHeartbeats 1600000 in
theorem implCountWithSlope_any (p : Int) (A : Option Addr) (n c : Nat) (xs : List Int) (rise run : Int) (w : World) (hr : Rd .i64 w A n c xs) :
    Calls Try.prog 60 #[.int .i64 p, .slice A n c, .int .i64 rise, .int .i64 run] w fun e w' => e = .returned (.tuple #[.int .i64 (csV p xs rise run), .int .i64 (csC p xs rise run)]) ∧ Below w.heap.size w w' := by
  have HR := Lib.hid hr
  clear hr
  obtain ⟨k, hk⟩ : ∃ k, k = pgC p xs := ⟨_, rfl⟩
  have HK := Lib.hid hk
  by_cases hz : k = 0
  · subst hz
    by_cases c1 : -60 ≤ rise ∧ rise ≤ 60
    · have ⟨r1, r2⟩ := c1
      by_cases c2 : 1 ≤ run ∧ run ≤ 8
      · have ⟨n1, n2⟩ := c2
        have ⟨hp, hx, h0⟩ := pgC_zero hk.symm
        obtain ⟨N, hN⟩ : ∃ N, N = (plL p xs).length - 1 := ⟨_, rfl⟩
        obtain ⟨zs, hzs⟩ : ∃ z, z = soL p xs := ⟨_, rfl⟩
        have HE : Hid (csC p xs rise run = 0 ∧ csV p xs rise run = csG zs rise run N 0) := Lib.hid (by
          have e : csC p xs rise run = 0 := by unfold csC; rw [← hk, if_pos rfl, if_pos ⟨c1, c2⟩]
          exact ⟨e, by unfold csV; rw [e, if_pos rfl, hN, hzs]⟩)
        have HSB : Hid (∀ i, i < N → ((sR zs i).natAbs ≤ 39 ∧ (sQ zs i).natAbs ≤ 8) ∧ 1 ≤ sT zs i ∧ sT zs i ≤ 8) := Lib.hid (fun i hi => by rw [hzs]; exact so_bd hp hx h0 (by omega))
        have hN9 : N ≤ 9 := by have := plL_len (p := p) hx h0; omega
        have HP := Lib.hid hp
        have HX := Lib.hid hx
        have H0 := Lib.hid h0
        have HN := Lib.hid hN
        have HZS := Lib.hid hzs
        clear hk hp hx h0 hN hzs c1 c2
        go_enter Try.func60, Try.ntmps60
        go_wp2_with (first | (go_at_call 108; refine (polygonal_at _ HR.out HK.out).mono ?_; rintro e w' ⟨rfl, rfl⟩) | (go_at_call 122; refine (isPlaceC_any _ _).mono ?_; rintro e w' ⟨rfl, rfl⟩) | (go_at_call 92; refine (within_any _ _ _ _).mono ?_; rintro e w' ⟨rfl, rfl⟩))
        refine (slopes_at _ HN.out HR.out HP.out HX.out H0.out).mono ?_
        rintro e w1 ⟨A1, c3, rfl, ho, hb⟩
        rw [← HZS.out] at ho
        have HB1 := Lib.hid hb
        have HRd := Lib.hid ho.rd
        have hcs := ho.2.1
        have hcs2 := ho.2.2.1
        unfold maxLen at hcs2
        clear ho hb
        go_wp2
        go_loopw [12, 31] (fun _ i wr => ∃ k : Nat, k ≤ N ∧ i = .int .i64 k ∧ Hid (csG zs rise run (N - k) k = csV p xs rise run) ∧ Hid (Below w1.heap.size w1 wr)) (fun _ i _ => N - (intOf i).toNat)
        case atStart => exact ⟨0, Nat.zero_le _, rfl, Lib.hid (by rw [HE.out.2]; rfl), Lib.hid (Below.refl _ _)⟩
        case round =>
          obtain ⟨k, hk, rfl, HV, HB⟩ := hrel
          by_cases hlt : k < N
          · obtain ⟨b, off, rfl, hcell⟩ := (HRd.out.below HB.out).atF (by omega)
            have h0 := hcell (k * 3 + 0) (fl_lt hlt (by omega))
            rw [Nat.add_zero] at h0
            have h1 := hcell (k * 3 + 1) (fl_lt hlt (by omega))
            rw [← Nat.add_assoc] at h1
            have h2 := hcell (k * 3 + 2) (fl_lt hlt (by omega))
            rw [← Nat.add_assoc] at h2
            have ⟨⟨s1, s2⟩, s3, s4⟩ := HSB.out k hlt
            have hst : csG zs rise run (N - k) k = if sR zs k * run = rise * sQ zs k then sT zs k else csG zs rise run (N - (k + 1)) (k + 1) := by
              rw [show N - k = N - (k + 1) + 1 by omega]; rfl
            obtain ⟨r, re⟩ : ∃ x, x = sR zs k := ⟨_, rfl⟩
            obtain ⟨q, qe⟩ : ∃ x, x = sQ zs k := ⟨_, rfl⟩
            obtain ⟨t, te⟩ : ∃ x, x = sT zs k := ⟨_, rfl⟩
            change _ = some (Value.int .i64 (sR zs k)) at h0
            change _ = some (Value.int .i64 (sQ zs k)) at h1
            change _ = some (Value.int .i64 (sT zs k)) at h2
            rw [← re] at h0 s1 hst
            rw [← qe] at h1 s2 hst
            rw [← te] at h2 s3 s4 hst
            have ⟨m1, m2⟩ := m_bd (x := r) (y := run) (by omega) (by omega)
            have ⟨m3, m4⟩ := m_bd (x := rise) (y := q) (by omega) s2
            have i1 : (0 : Int) ≤ (k : Int) := by omega
            have i2 : (k : Int) < (N : Int) := by omega
            clear hcell re qe te s1 s2
            by_cases hc : r * run = rise * q
            · have hcb : (r * run == rise * q) = true := by simpa using hc
              have HF : Hid (csV p xs rise run = t) := Lib.hid (by rw [← HV.out, hst, if_pos hc])
              clear hc hst
              go_wp2
              go_ret2
              exact ⟨by rw [HF.out, HE.out.1]; rfl, bl_trans HB1.out (by repeat (first | exact HB.out | apply Below.drew | apply below_drewN | refine bl_alloc ?_ _))⟩
            · have hcb : (r * run == rise * q) = false := by simpa using hc
              have HV2 : Hid (csG zs rise run (N - (k + 1)) (k + 1) = csV p xs rise run) := Lib.hid (by rw [← HV.out, hst, if_neg hc])
              clear hc hst
              go_wp2
              go_roundw
              case rel => exact ⟨k + 1, by omega, by go_num, HV2, Lib.hid (by repeat (first | exact HB.out | apply Below.drew | apply below_drewN | refine bl_alloc ?_ _))⟩
              case measure => simp [intOf]; omega
          · have HF : Hid (csV p xs rise run = 0) := Lib.hid (by rw [← HV.out, show N - k = 0 by omega]; rfl)
            go_wp2
            go_ret2
            exact ⟨by rw [HF.out, HE.out.1]; rfl, bl_trans HB1.out HB.out⟩
      · have hd := decC_out c2
        have HE : Hid (csC p xs rise run = 2 ∧ csV p xs rise run = 0) := Lib.hid (by
          have e : csC p xs rise run = 2 := by unfold csC; rw [← hk, if_pos rfl, if_neg (fun h => c2 h.2)]
          exact ⟨e, by unfold csV; rw [e, if_neg (by omega)]⟩)
        clear hk c1 c2
        go_enter Try.func60, Try.ntmps60
        go_wp2_with (first | (go_at_call 108; refine (polygonal_at _ HR.out HK.out).mono ?_; rintro e w' ⟨rfl, rfl⟩) | (go_at_call 122; refine (isPlaceC_any _ _).mono ?_; rintro e w' ⟨rfl, rfl⟩) | (go_at_call 92; refine (within_any _ _ _ _).mono ?_; rintro e w' ⟨rfl, rfl⟩))
        go_ret2
        exact ⟨by rw [HE.out.1, HE.out.2]; rfl, Below.refl _ _⟩
    · have hd := decC_out c1
      have HE : Hid (csC p xs rise run = 2 ∧ csV p xs rise run = 0) := Lib.hid (by
        have e : csC p xs rise run = 2 := by unfold csC; rw [← hk, if_pos rfl, if_neg (fun h => c1 h.1)]
        exact ⟨e, by unfold csV; rw [e, if_neg (by omega)]⟩)
      clear hk c1
      go_enter Try.func60, Try.ntmps60
      go_wp2_with (first | (go_at_call 108; refine (polygonal_at _ HR.out HK.out).mono ?_; rintro e w' ⟨rfl, rfl⟩) | (go_at_call 122; refine (isPlaceC_any _ _).mono ?_; rintro e w' ⟨rfl, rfl⟩) | (go_at_call 92; refine (within_any _ _ _ _).mono ?_; rintro e w' ⟨rfl, rfl⟩))
      go_ret2
      exact ⟨by rw [HE.out.1, HE.out.2]; rfl, Below.refl _ _⟩
  · have hk2 : (k != 0) = true := by simpa using hz
    have hk3 : (k == 0) = false := by simpa using hz
    have HE : Hid (csC p xs rise run = k ∧ csV p xs rise run = 0) := Lib.hid (by
      have e : csC p xs rise run = k := by unfold csC; rw [← hk, if_neg hz]
      exact ⟨e, by unfold csV; rw [e, if_neg hz]⟩)
    clear hk hz
    go_enter Try.func60, Try.ntmps60
    go_wp2_with (first | (go_at_call 108; refine (polygonal_at _ HR.out HK.out).mono ?_; rintro e w' ⟨rfl, rfl⟩) | (go_at_call 122; refine (isPlaceC_any _ _).mono ?_; rintro e w' ⟨rfl, rfl⟩) | (go_at_call 92; refine (within_any _ _ _ _).mono ?_; rintro e w' ⟨rfl, rfl⟩))
    go_ret2
    exact ⟨by rw [HE.out.1, HE.out.2]; rfl, Below.refl _ _⟩

end Go.Proofs.Ythdmanngjnfamaa