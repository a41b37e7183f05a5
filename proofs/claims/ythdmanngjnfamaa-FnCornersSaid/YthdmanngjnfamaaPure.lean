
/- The walks of IsPure, and of the law over it. -/
import Derived.Test.YthdmanngjnfamaaSlo
import Derived.Test.YthdmanngjnfamaaCopy
namespace Go.Proofs.Ythdmanngjnfamaa
open Go.RowKit

theorem mem_idx2 {l : List (Int × Int)} {x : Int × Int} (h : x ∈ l) : ∃ k, k < l.length ∧ x = l.getD k (0, 0) := by
  obtain ⟨k, hk, rfl⟩ := List.getElem_of_mem h
  exact ⟨k, hk, by simp [List.getD, hk]⟩
theorem ptL_first {p : Int} {xs : List Int} (h : 0 < (ptL p xs).length) (hx : 0 < xs.length) : ((ptL p xs).getD 0 (0, 0)).1 = 0 ↔ ¬ xs.getD 0 0 = 0 := by
  constructor
  · intro h0
    obtain ⟨i, _, h2, h3⟩ := ptF_mem (getD_mem2 h)
    change (ptL p xs).getD 0 (0, 0) = _ at h3
    rw [h3] at h0
    have : i = 0 := by simpa using h0
    subst this
    exact h2
  · intro h0
    have hm := ptF_has (v := fun c => vl c p) (fs := xs) (k := xs.length) hx h0
    obtain ⟨k, hk, e⟩ := mem_idx2 hm
    obtain ⟨i, _, _, h3⟩ := ptF_mem (getD_mem2 h)
    change (ptL p xs).getD 0 (0, 0) = _ at h3
    by_cases k0 : k = 0
    · subst k0
      unfold ptL
      rw [← e]; rfl
    · exfalso
      have := pw_inc (ptL_inc p xs) 0 k (by omega) hk
      unfold pX at this
      have e2 : ((ptL p xs).getD k (0, 0)).1 = 0 := by unfold ptL; rw [← e]; rfl
      rw [e2, h3] at this
      simp at this
      omega
theorem polygon_at {p : Int} {A : Option Addr} {n c : Nat} {xs : List Int} {M : Nat} (w : World) (hM : M = (plL p xs).length) (hr : Rd .i64 w A n c xs) (hp : SP p) (hx : POk xs) (h0 : 0 < xs.length) :
    Calls Try.prog 116 #[.int .i64 p, .slice A n c] w fun e w' => ∃ A' c', e = .returned (.slice A' M c') ∧ OwnC 79 2 w' w.heap.size A' M c' (V2 (plL p xs)) ∧ Below w.heap.size w w' := by
  subst hM; exact polygon_any p A n c xs w hr hp hx h0
theorem l13Polygon_at {p : Int} {A : Option Addr} {n c : Nat} {xs : List Int} {M : Nat} (w : World) (hM : M = (plL p xs).length) (hr : Rd .i64 w A n c xs) (hp : SP p) (hx : POk xs) (h0 : 0 < xs.length) :
    Calls Try.prog 117 #[.int .i64 p, .slice A n c] w fun e w' => ∃ A' c', e = .returned (.slice A' M c') ∧ OwnC 79 2 w' w.heap.size A' M c' (V2 (plL p xs)) ∧ Below w.heap.size w w' := by
  subst hM; exact l13Polygon_any p A n c xs w hr hp hx h0
/-- what IsPure gives -/
noncomputable def ipV (p : Int) (xs : List Int) : Bool := pgC p xs == 0 && (xs.getD 0 0 != 0 && (plL p xs).length == 2)

set_option maxHeartbeats 800000 in
theorem specIsPure_any (p : Int) (A : Option Addr) (n c : Nat) (xs : List Int) (w : World) (hr : Rd .i64 w A n c xs) :
    Calls Try.prog 67 #[.int .i64 p, .slice A n c] w fun e w' => e = .returned (.tuple #[.bool (ipV p xs), .int .i64 (pgC p xs)]) ∧ Below w.heap.size w w' := by
  have HR := Lib.hid hr
  have hl := hr.1
  have hc0 := hr.2.1
  have hc1 := hr.2.2.1
  unfold maxLen at hc1
  obtain ⟨k, hk⟩ : ∃ k, k = pgC p xs := ⟨_, rfl⟩
  have HK := Lib.hid hk
  by_cases hz : k = 0
  · subst hz
    have ⟨hp, hx, h0⟩ := pgC_zero hk.symm
    have HP := Lib.hid hp
    have HX := Lib.hid hx
    have H0 := Lib.hid h0
    obtain ⟨M, hM⟩ : ∃ M, M = (plL p xs).length := ⟨_, rfl⟩
    have HM := Lib.hid hM
    have hM9 := plL_len (p := p) hx h0
    rw [← hM] at hM9
    obtain ⟨hM0, hM9⟩ := hM9
    obtain ⟨y, hy⟩ : ∃ y, y = xs.getD 0 0 := ⟨_, rfl⟩
    have HE : Hid (ipV p xs = (y != 0 && M == 2) ∧ pgC p xs = 0) := Lib.hid ⟨by unfold ipV; rw [← hk, ← hy, ← hM]; rfl, hk.symm⟩
    have HY := Lib.hid hy
    have hn0 : 0 < n := by omega
    obtain ⟨b, off, rfl, hb, hcell⟩ := hr.2.2.2 hn0
    have hx0 := hcell 0 hn0
    rw [← hy, Nat.add_zero] at hx0
    clear hcell hr hl hy hM hk hp hx h0
    by_cases hy0 : y = 0
    · have hyz : (y != 0) = false := by rw [hy0]; rfl
      have HE2 : Hid (ipV p xs = false) := Lib.hid (by rw [HE.out.1, hyz]; rfl)
      clear hy0
      go_enter Try.func67, Try.ntmps67
      go_wp2_with (go_at_call 110; refine (l13Code_at _ HR.out HK.out).mono ?_; rintro e w' ⟨rfl, rfl⟩)
      go_ret2
      exact ⟨by rw [HE2.out, HE.out.2]; rfl, Below.refl _ _⟩
    · have hyz : (y != 0) = true := by simpa using hy0
      clear hy0
      by_cases h2 : M = 2
      · have h22 : ((M : Int) == 2) = true := by rw [h2]; rfl
        have HE2 : Hid (ipV p xs = true) := Lib.hid (by rw [HE.out.1, hyz, h2]; rfl)
        clear h2
        go_enter Try.func67, Try.ntmps67
        go_wp2_with (first | (go_at_call 110; refine (l13Code_at _ HR.out HK.out).mono ?_; rintro e w' ⟨rfl, rfl⟩) | (go_at_call 117; refine (l13Polygon_at _ HM.out HR.out HP.out HX.out H0.out).mono ?_; rintro e w1 ⟨A1, c1, rfl, ho, hb1⟩; have HB := Lib.hid hb1; clear ho hb1))
        go_ret2
        exact ⟨by rw [HE2.out, HE.out.2]; rfl, HB.out⟩
      · have h22 : ((M : Int) == 2) = false := by simp; omega
        have HE2 : Hid (ipV p xs = false) := Lib.hid (by rw [HE.out.1, hyz]; simp [h2])
        clear h2
        go_enter Try.func67, Try.ntmps67
        go_wp2_with (first | (go_at_call 110; refine (l13Code_at _ HR.out HK.out).mono ?_; rintro e w' ⟨rfl, rfl⟩) | (go_at_call 117; refine (l13Polygon_at _ HM.out HR.out HP.out HX.out H0.out).mono ?_; rintro e w1 ⟨A1, c1, rfl, ho, hb1⟩; have HB := Lib.hid hb1; clear ho hb1))
        go_ret2
        exact ⟨by rw [HE2.out, HE.out.2]; rfl, HB.out⟩
  · have hk2 : (k != 0) = true := by simpa using hz
    have HE : Hid (ipV p xs = false ∧ pgC p xs = k) := Lib.hid ⟨by unfold ipV; rw [← hk]; simp [hz], hk.symm⟩
    clear hk hz hr hl
    go_enter Try.func67, Try.ntmps67
    go_wp2_with (go_at_call 110; refine (l13Code_at _ HR.out HK.out).mono ?_; rintro e w' ⟨rfl, rfl⟩)
    go_ret2
    exact ⟨by rw [HE.out.1, HE.out.2]; rfl, Below.refl _ _⟩

theorem fX0 {p : Int} {xs : List Int} (hx : POk xs) (h0 : 0 < xs.length) : (flatI (plL p xs)).getD 0 0 = ((ptL p xs).getD 0 (0, 0)).1 := by
  have h := flatI_at (plL p xs) 0 (plL_len (p := p) hx h0).1
  rw [Nat.zero_mul] at h
  rw [h.1]
  unfold plL
  rw [hullP_first (ptL_pos hx h0) (ptL_inc p xs)]
set_option maxHeartbeats 800000 in
theorem implIsPure_any (p : Int) (A : Option Addr) (n c : Nat) (xs : List Int) (w : World) (hr : Rd .i64 w A n c xs) :
    Calls Try.prog 66 #[.int .i64 p, .slice A n c] w fun e w' => e = .returned (.tuple #[.bool (ipV p xs), .int .i64 (pgC p xs)]) ∧ Below w.heap.size w w' := by
  have HR := Lib.hid hr
  have hl := hr.1
  have hc0 := hr.2.1
  have hc1 := hr.2.2.1
  unfold maxLen at hc1
  obtain ⟨k, hk⟩ : ∃ k, k = pgC p xs := ⟨_, rfl⟩
  have HK := Lib.hid hk
  by_cases hz : k = 0
  · subst hz
    have ⟨hp, hx, h0⟩ := pgC_zero hk.symm
    have HP := Lib.hid hp
    have HX := Lib.hid hx
    have H0 := Lib.hid h0
    obtain ⟨M, hM⟩ : ∃ M, M = (plL p xs).length := ⟨_, rfl⟩
    have HM := Lib.hid hM
    have hM9 := plL_len (p := p) hx h0
    rw [← hM] at hM9
    obtain ⟨hM0, hM9⟩ := hM9
    obtain ⟨y, hy⟩ : ∃ y, y = xs.getD 0 0 := ⟨_, rfl⟩
    have HE : Hid (ipV p xs = (y != 0 && M == 2) ∧ pgC p xs = 0) := Lib.hid ⟨by unfold ipV; rw [← hk, ← hy, ← hM]; rfl, hk.symm⟩
    have HY := Lib.hid hy
    have hn0 : 0 < n := by omega
    obtain ⟨fx, hfx⟩ : ∃ x, x = ((ptL p xs).getD 0 (0, 0)).1 := ⟨_, rfl⟩
    have hfy : fx = 0 ↔ ¬ y = 0 := by rw [hfx, hy]; exact ptL_first (ptL_pos hx h0) h0
    have HFX := Lib.hid hfx
    clear hr hl hy hM hk hp hx h0 hfx
    by_cases h2 : M = 2
    · have h22 : ((M : Int) == 2) = true := by rw [h2]; rfl
      by_cases hf0 : fx = 0
      · have hfz : (fx == 0) = true := by rw [hf0]; rfl
        have HE2 : Hid (ipV p xs = true) := Lib.hid (by rw [HE.out.1, h2]; simpa using hfy.1 hf0)
        clear h2 hf0 hfy
        go_enter Try.func66, Try.ntmps66
        go_wp2_with (first | (go_at_call 108; refine (polygonal_at _ HR.out HK.out).mono ?_; rintro e w' ⟨rfl, rfl⟩) | (go_at_call 116; refine (polygon_at _ HM.out HR.out HP.out HX.out H0.out).mono ?_; rintro e w1 ⟨A1, c1, rfl, ho, hb1⟩; have HB := Lib.hid hb1; obtain ⟨b1, off1, rfl, hc2⟩ := RdC.atF (zs := flatI (plL p xs)) ho.rd (by omega); have hq := hc2 0 (by omega); rw [fX0 HX.out H0.out, ← HFX.out, Nat.add_zero] at hq; clear ho hb1 hc2))
        go_ret2
        exact ⟨by rw [HE2.out, HE.out.2]; rfl, HB.out⟩
      · have hfz : (fx == 0) = false := by simpa using hf0
        have HE2 : Hid (ipV p xs = false) := Lib.hid (by
          have : y = 0 := Classical.not_not.1 fun h => hf0 (hfy.2 h)
          rw [HE.out.1, this]; rfl)
        clear h2 hf0 hfy
        go_enter Try.func66, Try.ntmps66
        go_wp2_with (first | (go_at_call 108; refine (polygonal_at _ HR.out HK.out).mono ?_; rintro e w' ⟨rfl, rfl⟩) | (go_at_call 116; refine (polygon_at _ HM.out HR.out HP.out HX.out H0.out).mono ?_; rintro e w1 ⟨A1, c1, rfl, ho, hb1⟩; have HB := Lib.hid hb1; obtain ⟨b1, off1, rfl, hc2⟩ := RdC.atF (zs := flatI (plL p xs)) ho.rd (by omega); have hq := hc2 0 (by omega); rw [fX0 HX.out H0.out, ← HFX.out, Nat.add_zero] at hq; clear ho hb1 hc2))
        go_ret2
        exact ⟨by rw [HE2.out, HE.out.2]; rfl, HB.out⟩
    · have h22 : ((M : Int) == 2) = false := by simp; omega
      have HE2 : Hid (ipV p xs = false) := Lib.hid (by rw [HE.out.1]; simp [h2])
      clear h2 hfy
      go_enter Try.func66, Try.ntmps66
      go_wp2_with (first | (go_at_call 108; refine (polygonal_at _ HR.out HK.out).mono ?_; rintro e w' ⟨rfl, rfl⟩) | (go_at_call 116; refine (polygon_at _ HM.out HR.out HP.out HX.out H0.out).mono ?_; rintro e w1 ⟨A1, c1, rfl, ho, hb1⟩; have HB := Lib.hid hb1; obtain ⟨b1, off1, rfl, hc2⟩ := RdC.atF (zs := flatI (plL p xs)) ho.rd (by omega); have hq := hc2 0 (by omega); rw [fX0 HX.out H0.out, ← HFX.out, Nat.add_zero] at hq; clear ho hb1 hc2))
      go_ret2
      exact ⟨by rw [HE2.out, HE.out.2]; rfl, HB.out⟩
  · have hk2 : (k != 0) = true := by simpa using hz
    have HE : Hid (ipV p xs = false ∧ pgC p xs = k) := Lib.hid ⟨by unfold ipV; rw [← hk]; simp [hz], hk.symm⟩
    clear hk hz hr hl
    go_enter Try.func66, Try.ntmps66
    go_wp2_with (go_at_call 108; refine (polygonal_at _ HR.out HK.out).mono ?_; rintro e w' ⟨rfl, rfl⟩)
    go_ret2
    exact ⟨by rw [HE.out.1, HE.out.2]; rfl, Below.refl _ _⟩

end Go.Proofs.Ythdmanngjnfamaa