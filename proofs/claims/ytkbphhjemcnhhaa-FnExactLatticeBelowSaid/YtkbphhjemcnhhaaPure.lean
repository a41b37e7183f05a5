/- The walks of IsPure, and of the law over it. -/
import Derived.Test.YtkbphhjemcnhhaaSlo
import Derived.Test.YtkbphhjemcnhhaaCopy
namespace Go.Proofs.Ytkbphhjemcnhhaa
open Go.RowKit

theorem mem_idx2 {l : List (Int × Int)} {x : Int × Int} (h : x ∈ l) : ∃ k, k < l.length ∧ x = l.getD k (0, 0) := by
  obtain ⟨k, hk, rfl⟩ := List.getElem_of_mem h
  exact ⟨k, hk, by simp [List.getD, hk]⟩
theorem ptL_first {p : Int} {xs : List Int} (h : 0 < (ptL p xs).length) (hx : 0 < xs.length) : ((ptL p xs).getD 0 (0, 0)).1 = 0 ↔ ¬ xs.getD 0 0 = 0 := by
  constructor
  · intro h0
    obtain ⟨i, _, h2, h3⟩ := ptF_mem (getD_mem2 h)
    change (ptL p xs).getD 0 (0, 0) = _ at h3
    rw [h3] at h0
    have : i = 0 := by simpa using h0
    subst this
    exact h2
  · intro h0
    have hm := ptF_has (v := fun c => vl c p) (fs := xs) (k := xs.length) hx h0
    obtain ⟨k, hk, e⟩ := mem_idx2 hm
    obtain ⟨i, _, _, h3⟩ := ptF_mem (getD_mem2 h)
    change (ptL p xs).getD 0 (0, 0) = _ at h3
    by_cases k0 : k = 0
    · subst k0
      unfold ptL
      rw [← e]; rfl
    · exfalso
      have := pw_inc (ptL_inc p xs) 0 k (by omega) hk
      unfold pX at this
      have e2 : ((ptL p xs).getD k (0, 0)).1 = 0 := by unfold ptL; rw [← e]; rfl
      rw [e2, h3] at this
      simp at this
      omega
theorem polygon_at {p : Int} {A : Option Addr} {n c : Nat} {xs : List Int} {M : Nat} (w : World) (hM : M = (plL p xs).length) (hr : Rd .i64 w A n c xs) (hp : SP p) (hx : POk xs) (h0 : 0 < xs.length) :
    Calls Try.prog 80 #[.int .i64 p, .slice A n c] w fun e w' => ∃ A' c', e = .returned (.slice A' M c') ∧ OwnC 80 2 w' w.heap.size A' M c' (V2 (plL p xs)) ∧ Below w.heap.size w w' := by
  subst hM; exact polygon_any p A n c xs w hr hp hx h0
theorem l13Polygon_at {p : Int} {A : Option Addr} {n c : Nat} {xs : List Int} {M : Nat} (w : World) (hM : M = (plL p xs).length) (hr : Rd .i64 w A n c xs) (hp : SP p) (hx : POk xs) (h0 : 0 < xs.length) :
    Calls Try.prog 78 #[.int .i64 p, .slice A n c] w fun e w' => ∃ A' c', e = .returned (.slice A' M c') ∧ OwnC 80 2 w' w.heap.size A' M c' (V2 (plL p xs)) ∧ Below w.heap.size w w' := by
  subst hM; exact l13Polygon_any p A n c xs w hr hp hx h0
/-- what IsPure gives -/
noncomputable def ipV (p : Int) (xs : List Int) : Bool := pgC p xs == 0 && (xs.getD 0 0 != 0 && (plL p xs).length == 2)

set_option maxHeartbeats 800000 in
theorem specIsPure_any (p : Int) (A : Option Addr) (n c : Nat) (xs : List Int) (w : World) (hr : Rd .i64 w A n c xs) :
    Calls Try.prog 14 #[.int .i64 p, .slice A n c] w fun e w' => e = .returned (.tuple #[.bool (ipV p xs), .int .i64 (pgC p xs)]) ∧ Below w.heap.size w w' := by
  have HR := Lib.hid hr
  have hl := hr.1
  have hc0 := hr.2.1
  have hc1 := hr.2.2.1
  unfold maxLen at hc1
  obtain ⟨k, hk⟩ : ∃ k, k = pgC p xs := ⟨_, rfl⟩
  have HK := Lib.hid hk
  by_cases hz : k = 0
  · subst hz
    have ⟨hp, hx, h0⟩ := pgC_zero hk.symm
    have HP := Lib.hid hp
    have HX := Lib.hid hx
    have H0 := Lib.hid h0
    obtain ⟨M, hM⟩ : ∃ M, M = (plL p xs).length := ⟨_, rfl⟩
    have HM := Lib.hid hM
    have hM9 := plL_len (p := p) hx h0
    rw [← hM] at hM9
    obtain ⟨hM0, hM9⟩ := hM9
    obtain ⟨y, hy⟩ : ∃ y, y = xs.getD 0 0 := ⟨_, rfl⟩
    have HE : Hid (ipV p xs = (y != 0 && M == 2) ∧ pgC p xs = 0) := Lib.hid ⟨by unfold ipV; rw [← hk, ← hy, ← hM]; rfl, hk.symm⟩
    have HY := Lib.hid hy
    have hn0 : 0 < n := by omega
    obtain ⟨b, off, rfl, hb, hcell⟩ := hr.2.2.2 hn0
    have hx0 := hcell 0 hn0
    rw [← hy, Nat.add_zero] at hx0
    clear hcell hr hl hy hM hk hp hx h0
    by_cases hy0 : y = 0
    · have hyz : (y != 0) = false := by rw [hy0]; rfl
      have HE2 : Hid (ipV p xs = false) := Lib.hid (by rw [HE.out.1, hyz]; rfl)
      clear hy0
      go_enter Try.func14, Try.ntmps14
      go_wp2_with (go_at_call 77; refine (l13Code_at _ HR.out HK.out).mono ?_; rintro e w' ⟨rfl, rfl⟩)
      go_ret2
      exact ⟨by rw [HE2.out, HE.out.2]; rfl, Below.refl _ _⟩
    · have hyz : (y != 0) = true := by simpa using hy0
      clear hy0
      by_cases h2 : M = 2
      · have h22 : ((M : Int) == 2) = true := by rw [h2]; rfl
        have HE2 : Hid (ipV p xs = true) := Lib.hid (by rw [HE.out.1, hyz, h2]; rfl)
        clear h2
        go_enter Try.func14, Try.ntmps14
        go_wp2_with (first | (go_at_call 77; refine (l13Code_at _ HR.out HK.out).mono ?_; rintro e w' ⟨rfl, rfl⟩) | (go_at_call 78; refine (l13Polygon_at _ HM.out HR.out HP.out HX.out H0.out).mono ?_; rintro e w1 ⟨A1, c1, rfl, ho, hb1⟩; have HB := Lib.hid hb1; clear ho hb1))
        go_ret2
        exact ⟨by rw [HE2.out, HE.out.2]; rfl, HB.out⟩
      · have h22 : ((M : Int) == 2) = false := by simp; omega
        have HE2 : Hid (ipV p xs = false) := Lib.hid (by rw [HE.out.1, hyz]; simp [h2])
        clear h2
        go_enter Try.func14, Try.ntmps14
        go_wp2_with (first | (go_at_call 77; refine (l13Code_at _ HR.out HK.out).mono ?_; rintro e w' ⟨rfl, rfl⟩) | (go_at_call 78; refine (l13Polygon_at _ HM.out HR.out HP.out HX.out H0.out).mono ?_; rintro e w1 ⟨A1, c1, rfl, ho, hb1⟩; have HB := Lib.hid hb1; clear ho hb1))
        go_ret2
        exact ⟨by rw [HE2.out, HE.out.2]; rfl, HB.out⟩
  · have hk2 : (k != 0) = true := by simpa using hz
    have HE : Hid (ipV p xs = false ∧ pgC p xs = k) := Lib.hid ⟨by unfold ipV; rw [← hk]; simp [hz], hk.symm⟩
    clear hk hz hr hl
    go_enter Try.func14, Try.ntmps14
    go_wp2_with (go_at_call 77; refine (l13Code_at _ HR.out HK.out).mono ?_; rintro e w' ⟨rfl, rfl⟩)
    go_ret2
    exact ⟨by rw [HE.out.1, HE.out.2]; rfl, Below.refl _ _⟩

theorem fX0 {p : Int} {xs : List Int} (hx : POk xs) (h0 : 0 < xs.length) : (flatI (plL p xs)).getD 0 0 = ((ptL p xs).getD 0 (0, 0)).1 := by
  have h := flatI_at (plL p xs) 0 (plL_len (p := p) hx h0).1
  rw [Nat.zero_mul] at h
  rw [h.1]
  unfold plL
  rw [hullP_first (ptL_pos hx h0) (ptL_inc p xs)]
set_option maxHeartbeats 800000 in
theorem implIsPure_any (p : Int) (A : Option Addr) (n c : Nat) (xs : List Int) (w : World) (hr : Rd .i64 w A n c xs) :
    Calls Try.prog 16 #[.int .i64 p, .slice A n c] w fun e w' => e = .returned (.tuple #[.bool (ipV p xs), .int .i64 (pgC p xs)]) ∧ Below w.heap.size w w' := by
  have HR := Lib.hid hr
  have hl := hr.1
  have hc0 := hr.2.1
  have hc1 := hr.2.2.1
  unfold maxLen at hc1
  obtain ⟨k, hk⟩ : ∃ k, k = pgC p xs := ⟨_, rfl⟩
  have HK := Lib.hid hk
  by_cases hz : k = 0
  · subst hz
    have ⟨hp, hx, h0⟩ := pgC_zero hk.symm
    have HP := Lib.hid hp
    have HX := Lib.hid hx
    have H0 := Lib.hid h0
    obtain ⟨M, hM⟩ : ∃ M, M = (plL p xs).length := ⟨_, rfl⟩
    have HM := Lib.hid hM
    have hM9 := plL_len (p := p) hx h0
    rw [← hM] at hM9
    obtain ⟨hM0, hM9⟩ := hM9
    obtain ⟨y, hy⟩ : ∃ y, y = xs.getD 0 0 := ⟨_, rfl⟩
    have HE : Hid (ipV p xs = (y != 0 && M == 2) ∧ pgC p xs = 0) := Lib.hid ⟨by unfold ipV; rw [← hk, ← hy, ← hM]; rfl, hk.symm⟩
    have HY := Lib.hid hy
    have hn0 : 0 < n := by omega
    obtain ⟨fx, hfx⟩ : ∃ x, x = ((ptL p xs).getD 0 (0, 0)).1 := ⟨_, rfl⟩
    have hfy : fx = 0 ↔ ¬ y = 0 := by rw [hfx, hy]; exact ptL_first (ptL_pos hx h0) h0
    have HFX := Lib.hid hfx
    clear hr hl hy hM hk hp hx h0 hfx
    by_cases h2 : M = 2
    · have h22 : ((M : Int) == 2) = true := by rw [h2]; rfl
      by_cases hf0 : fx = 0
      · have hfz : (fx == 0) = true := by rw [hf0]; rfl
        have HE2 : Hid (ipV p xs = true) := Lib.hid (by rw [HE.out.1, h2]; simpa using hfy.1 hf0)
        clear h2 hf0 hfy
        go_enter Try.func16, Try.ntmps16
        go_wp2_with (first | (go_at_call 79; refine (polygonal_at _ HR.out HK.out).mono ?_; rintro e w' ⟨rfl, rfl⟩) | (go_at_call 80; refine (polygon_at _ HM.out HR.out HP.out HX.out H0.out).mono ?_; rintro e w1 ⟨A1, c1, rfl, ho, hb1⟩; have HB := Lib.hid hb1; obtain ⟨b1, off1, rfl, hc2⟩ := RdC.atF (zs := flatI (plL p xs)) ho.rd (by omega); have hq := hc2 0 (by omega); rw [fX0 HX.out H0.out, ← HFX.out, Nat.add_zero] at hq; clear ho hb1 hc2))
        go_ret2
        exact ⟨by rw [HE2.out, HE.out.2]; rfl, HB.out⟩
      · have hfz : (fx == 0) = false := by simpa using hf0
        have HE2 : Hid (ipV p xs = false) := Lib.hid (by
          have : y = 0 := Classical.not_not.1 fun h => hf0 (hfy.2 h)
          rw [HE.out.1, this]; rfl)
        clear h2 hf0 hfy
        go_enter Try.func16, Try.ntmps16
        go_wp2_with (first | (go_at_call 79; refine (polygonal_at _ HR.out HK.out).mono ?_; rintro e w' ⟨rfl, rfl⟩) | (go_at_call 80; refine (polygon_at _ HM.out HR.out HP.out HX.out H0.out).mono ?_; rintro e w1 ⟨A1, c1, rfl, ho, hb1⟩; have HB := Lib.hid hb1; obtain ⟨b1, off1, rfl, hc2⟩ := RdC.atF (zs := flatI (plL p xs)) ho.rd (by omega); have hq := hc2 0 (by omega); rw [fX0 HX.out H0.out, ← HFX.out, Nat.add_zero] at hq; clear ho hb1 hc2))
        go_ret2
        exact ⟨by rw [HE2.out, HE.out.2]; rfl, HB.out⟩
    · have h22 : ((M : Int) == 2) = false := by simp; omega
      have HE2 : Hid (ipV p xs = false) := Lib.hid (by rw [HE.out.1]; simp [h2])
      clear h2 hfy
      go_enter Try.func16, Try.ntmps16
      go_wp2_with (first | (go_at_call 79; refine (polygonal_at _ HR.out HK.out).mono ?_; rintro e w' ⟨rfl, rfl⟩) | (go_at_call 80; refine (polygon_at _ HM.out HR.out HP.out HX.out H0.out).mono ?_; rintro e w1 ⟨A1, c1, rfl, ho, hb1⟩; have HB := Lib.hid hb1; obtain ⟨b1, off1, rfl, hc2⟩ := RdC.atF (zs := flatI (plL p xs)) ho.rd (by omega); have hq := hc2 0 (by omega); rw [fX0 HX.out H0.out, ← HFX.out, Nat.add_zero] at hq; clear ho hb1 hc2))
      go_ret2
      exact ⟨by rw [HE2.out, HE.out.2]; rfl, HB.out⟩
  · have hk2 : (k != 0) = true := by simpa using hz
    have HE : Hid (ipV p xs = false ∧ pgC p xs = k) := Lib.hid ⟨by unfold ipV; rw [← hk]; simp [hz], hk.symm⟩
    clear hk hz hr hl
    go_enter Try.func16, Try.ntmps16
    go_wp2_with (go_at_call 79; refine (polygonal_at _ HR.out HK.out).mono ?_; rintro e w' ⟨rfl, rfl⟩)
    go_ret2
    exact ⟨by rw [HE.out.1, HE.out.2]; rfl, Below.refl _ _⟩

set_option maxHeartbeats 4000000 in
theorem lawExactIsPure (a0 : Int) (A1 : Option Addr) (n1 c1 : Nat) (xs1 : List Int) (v : Bool) (cd : Int) (w : World) (hr1 : Rd .i64 w A1 n1 c1 xs1) (hn1 : n1 ≤ 1048576)
    (hs : ∀ (B1 : Option Addr) (d1 : Nat) (w : World), Rd .i64 w B1 n1 d1 xs1 → Calls Try.prog 14 #[.int .i64 a0, .slice B1 n1 d1] w fun e w' => e = .returned (.tuple #[.bool v, .int .i64 cd]) ∧ Below w.heap.size w w')
    (hi : ∀ (B1 : Option Addr) (d1 : Nat) (w : World), Rd .i64 w B1 n1 d1 xs1 → Calls Try.prog 16 #[.int .i64 a0, .slice B1 n1 d1] w fun e w' => e = .returned (.tuple #[.bool v, .int .i64 cd]) ∧ Below w.heap.size w w') :
    Calls Try.prog 3 #[.int .i64 a0, .slice A1 n1 c1] w fun e w' => e = .returned (.bool true) ∧ Below w.heap.size w w' := by
  have HR1 := Lib.hid hr1
  have HS := Lib.hid hs
  have HI := Lib.hid hi
  have HB0 := Lib.hid (Below.refl w.heap.size w)
  clear hs hi hr1
  go_enter Try.func3, Try.ntmps3
  go_wp2_with fail
  refine (toInt64S_any _ _ _ _ _ (HR1.out.below HB0.out) hn1).mono ?_
  rintro e w1 ⟨rfl, ho0, hb⟩
  have HB1 := Lib.hid (bl_trans HB0.out hb)
  have G_s1 : Hid (∀ k, rowOf _ _ = some k → w.heap.size ≤ k) := Lib.hid (fun k hk => Nat.le_trans HB0.out.size ((OwnC.row_ge (OwnI.of_row ho0)) k hk).1)
  have O_s1_1 := Lib.hid (OwnI.of_row ho0)
  clear hb ho0
  go_wp2_with fail
  refine (HS.out _ _ _ O_s1_1.out.rd).mono ?_
  rintro e w2 ⟨rfl, hb⟩
  have HB2 := Lib.hid (bl_trans HB1.out hb)
  have O_s1_2 := Lib.hid (O_s1_1.out.below hb)
  clear hb HB1 O_s1_1
  clear O_s1_2
  go_wp2_with fail
  refine (toInt64S_any _ _ _ _ _ (HR1.out.below HB2.out) hn1).mono ?_
  rintro e w3 ⟨rfl, ho0, hb⟩
  have HB3 := Lib.hid (bl_trans HB2.out hb)
  have G_x1 : Hid (∀ k, rowOf _ _ = some k → w.heap.size ≤ k) := Lib.hid (fun k hk => Nat.le_trans HB2.out.size ((OwnC.row_ge (OwnI.of_row ho0)) k hk).1)
  have O_x1_3 := Lib.hid (OwnI.of_row ho0)
  clear hb HB2 ho0
  go_wp2_with fail
  refine (HI.out _ _ _ O_x1_3.out.rd).mono ?_
  rintro e w4 ⟨rfl, hb⟩
  have HB4 := Lib.hid (bl_trans HB3.out hb)
  have O_x1_4 := Lib.hid (O_x1_3.out.below hb)
  clear hb HB3 O_x1_3
  go_wp2_with fail
  refine (toInt64S_any _ _ _ _ _ (HR1.out.below HB4.out) hn1).mono ?_
  rintro e w5 ⟨rfl, ho0, hb⟩
  have HB5 := Lib.hid (bl_trans HB4.out hb)
  have S_x1_t1 := Lib.hid (own_sep O_x1_4.out (OwnI.of_row ho0) (Nat.le_refl _))
  have O_x1_5 := Lib.hid (O_x1_4.out.below hb)
  have G_t1 : Hid (∀ k, rowOf _ _ = some k → w.heap.size ≤ k) := Lib.hid (fun k hk => Nat.le_trans HB4.out.size ((OwnC.row_ge (OwnI.of_row ho0)) k hk).1)
  have O_t1_5 := Lib.hid (OwnI.of_row ho0)
  clear hb HB4 O_x1_4 ho0
  go_wp2_with fail
  refine ((eqInt64S_any _ _ _ _ _ _ _ O_x1_5.out.rd O_t1_5.out.rd).mono fun _ _ h => drawn_below h).mono ?_
  rintro e w6 ⟨rfl, hb⟩
  have HB6 := Lib.hid (bl_trans HB5.out hb)
  have O_x1_6 := Lib.hid (O_x1_5.out.below hb)
  have O_t1_6 := Lib.hid (O_t1_5.out.below hb)
  clear hb HB5 O_x1_5 O_t1_5
  clear O_t1_6
  go_wp2
  go_ret
  exact ⟨rfl, HB6.out⟩

theorem walkExactIsPure (a0 : Int) (A1 : Option Addr) (n1 c1 : Nat) (xs1 : List Int) (w : World) (_ : (Lit.int .i64 a0).wf = true) (hr1 : IsRow .i64 w A1 n1 c1 xs1) :
    Calls Try.prog 3 #[.int .i64 a0, .slice A1 n1 c1] w fun e w' => e = .returned (.bool true) ∧ Below w.heap.size w w' := by
  have hm1 := hr1.2.1
  have hc1 := hr1.1
  unfold maxLen at hm1
  have R1 := Lib.hid hr1.rd
  clear hr1
  by_cases hn1 : n1 ≤ 1048576
  · exact lawExactIsPure a0 A1 n1 c1 xs1 (ipV a0 xs1) (pgC a0 xs1)  w R1.out hn1 
      (fun _ _ _ h => specIsPure_any _ _ _ _ _ _ h)
      (fun _ _ _ h => implIsPure_any _ _ _ _ _ _ h)
  · go_enter Try.func3, Try.ntmps3
    go_wp2
    go_ret
    exact ⟨rfl, Below.refl _ _⟩

end Go.Proofs.Ytkbphhjemcnhhaa