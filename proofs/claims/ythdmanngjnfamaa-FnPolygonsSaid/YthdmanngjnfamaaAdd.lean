
/- The walks of the sum of two polynomials, and of the law over AddPolynomials. -/
import Derived.Test.YthdmanngjnfamaaTab
namespace Go.Proofs.Ythdmanngjnfamaa
open Go.RowKit

theorem getD_over {xs : List Int} {i : Nat} (h : xs.length ≤ i) : xs.getD i 0 = 0 := by
  simp [List.getD, List.getElem?_eq_none h]
/-- the sum's coefficients -/
def addF (f g : List Int) (i : Nat) : Int := f.getD i 0 + g.getD i 0
def sumL (f g : List Int) : List Int := tab (max f.length g.length) (addF f g)
theorem sumL_len (f g : List Int) : (sumL f g).length = max f.length g.length := tab_len _ _
theorem pok_at {xs : List Int} (h : POk xs) (i : Nat) : -1000000 ≤ xs.getD i 0 ∧ xs.getD i 0 ≤ 1000000 := by
  rcases Nat.lt_or_ge i xs.length with h1 | h1
  · exact h.2.1 i h1
  · rw [getD_over h1]; omega
theorem upto_step {n k : Nat} {a h : Nat → Int} (hh : ∀ i, i < n → i ≠ k → h i = if i < k then a i else 0) (hk : h k = a k) : tab n h = tab n (fun i => if i < k + 1 then a i else 0) := by
  apply tab_ext
  intro i hi
  by_cases e : i = k
  · subst e; rw [hk, if_pos (by omega)]
  · rw [hh i hi e]
    by_cases h1 : i < k
    · rw [if_pos h1, if_pos (by omega)]
    · rw [if_neg h1, if_neg (by omega)]

set_option maxHeartbeats 1600000 in
theorem l06Add_any (A0 : Option Addr) (n0 c0 : Nat) (f : List Int) (A1 : Option Addr) (n1 c1 : Nat) (g : List Int) (w : World) (hf : Rd .i64 w A0 n0 c0 f) (hg : Rd .i64 w A1 n1 c1 g) (h0 : POk f) (h1 : POk g) :
    Calls Try.prog 102 #[.slice A0 n0 c0, .slice A1 n1 c1, .int .i64 1] w fun e w' => ∃ A c, e = .returned (.slice A (trimL (sumL f g)).length c) ∧ OwnI w' w.heap.size A (trimL (sumL f g)).length c (trimL (sumL f g)) ∧ Below w.heap.size w w' := by
  obtain ⟨i0, hi, hz0, hz1, hz2⟩ := info_parts infoI64
  have HI := Lib.hid hi
  have HZ0 := Lib.hid hz0
  have HZ1 := Lib.hid hz1
  have HZ2 := Lib.hid hz2
  clear hi hz0 hz1 hz2
  have HF := Lib.hid hf
  have HG := Lib.hid hg
  have H0 := Lib.hid h0
  have H1 := Lib.hid h1
  have L0 := Lib.hid hf.1
  have L1 := Lib.hid hg.1
  have hn0 : n0 ≤ 9 := by have := h0.1; have := hf.1; omega
  have hn1 : n1 ≤ 9 := by have := h1.1; have := hg.1; omega
  clear hf hg h0 h1

  obtain ⟨N, hNe⟩ : ∃ N, N = max n0 n1 := ⟨_, rfl⟩
  have hLN : (if n0 < n1 then (n1 : Int) else (n0 : Int)) = (N : Int) := by rw [hNe]; split <;> omega
  have hN : Hid (N = max f.length g.length) := Lib.hid (by rw [L0.out, L1.out]; exact hNe)
  have hN9 : N ≤ 9 := by omega
  have hNn : n0 ≤ N := by omega
  have hNm : n1 ≤ N := by omega
  have hN2 : Hid (N = n0 ∨ N = n1) := Lib.hid (by omega)
  clear hNe
  have hm1 : i0.bytes * N ≤ 281474976710656 := by rw [HZ2.out]; omega
  have hm2 : N ≤ maxLen := by unfold maxLen; omega
  go_enter Try.func102, Try.ntmps102
  go_wp2_with (at_make; refine wpList_make_full _ rfl _ _ _ rfl w.heap.size 2 i0 (.int .i64 0) 1 Try.underlying22 HI.out HZ0.out HZ1.out .i64 .i64 N N N rfl rfl rfl rfl hm1 hm2 (Nat.le_refl _) ?_; intro w1 hown hgrow)
  have HO := Lib.hid (own_tab hown)
  have HB := Lib.hid ((Below.refl w.heap.size w).grown hgrow (Nat.le_refl _) (by simp))
  clear hown hgrow hm1 hm2 hLN
  go_wp2
  go_loopw [8] (fun j wr => ∃ k : Nat, k ≤ N ∧ j = .int .i64 k ∧ Hid (OwnI wr w.heap.size (some ⟨w.heap.size, 0, none⟩) N N (tab N (fun i => if i < k then addF f g i else 0))) ∧ Hid (Below w.heap.size w wr)) (fun j _ => N - (intOf j).toNat)
  case atStart => exact ⟨0, Nat.zero_le _, rfl, Lib.hid (by rw [tab_ext (h' := fun _ => 0) (fun i _ => by simp)]; exact HO.out), HB⟩
  case round =>
    obtain ⟨k, hk, rfl, HW, HB2⟩ := hrel
    by_cases hlt : k < N
    · have ⟨ho, hfz⟩ := own_cell HW.out hlt
      rw [if_neg (Nat.lt_irrefl k)] at ho
      have hx0 := pok_at H0.out k
      have hy0 := pok_at H1.out k
      obtain ⟨x, hxe⟩ : ∃ x, x = f.getD k 0 := ⟨_, rfl⟩
      obtain ⟨y, hye⟩ : ∃ y, y = g.getD k 0 := ⟨_, rfl⟩
      rw [← hxe] at hx0
      rw [← hye] at hy0
      have HX := Lib.hid hxe
      have HY := Lib.hid hye
      obtain ⟨x1, x2⟩ := hx0
      obtain ⟨y1, y2⟩ := hy0
      clear hxe hye
      by_cases hk0 : k < n0
      · obtain ⟨b, off, rfl, hb, hcell⟩ := HF.out.2.2.2 (by omega)
        have hx := keep_cell HB2.out (hcell k hk0)
        rw [← HX.out] at hx
        clear hcell
        by_cases hk1 : k < n1
        · obtain ⟨b', off', rfl, hb', hcell'⟩ := HG.out.2.2.2 (by omega)
          have hy := keep_cell HB2.out (hcell' k hk1)
          rw [← HY.out] at hy
          clear hcell'
          go_wp2
          go_region
          go_wp2
          go_roundw
          case rel => exact ⟨k + 1, by omega, by go_num, Lib.hid (by
              have := own_store (own_store HW.out k x) k (x + y)
              rw [upto_step (k := k) (a := addF f g) (fun i hi he => by simp [he]) (by show (if k = k then x + y else _) = _; rw [if_pos rfl]; unfold addF; rw [← HX.out, ← HY.out])] at this
              exact this), Lib.hid (below_drewN (bl_set (bl_set HB2.out _ _ (Nat.le_refl _) _) _ _ (Nat.le_refl _) _) 1)⟩
          case measure => simp [intOf]; omega
        · have HY0 : Hid (y = 0) := Lib.hid (by rw [HY.out]; exact getD_over (by have := L1.out; omega))
          go_wp2
          go_roundw
          case rel => exact ⟨k + 1, by omega, by go_num, Lib.hid (by
              have := own_store HW.out k x
              rw [upto_step (k := k) (a := addF f g) (fun i hi he => by simp [he]) (by show (if k = k then x else _) = _; rw [if_pos rfl]; unfold addF; rw [← HX.out, ← HY.out, HY0.out]; exact (Int.add_zero x).symm)] at this
              exact this), Lib.hid (bl_set HB2.out _ _ (Nat.le_refl _) _)⟩
          case measure => simp [intOf]; omega
      · have HX0 : Hid (x = 0) := Lib.hid (by rw [HX.out]; exact getD_over (by have := L0.out; omega))
        have hk1 : k < n1 := by have := hN2.out; omega
        obtain ⟨b', off', rfl, hb', hcell'⟩ := HG.out.2.2.2 (by omega)
        have hy := keep_cell HB2.out (hcell' k hk1)
        rw [← HY.out] at hy
        clear hcell'
        go_wp2
        go_region
        go_wp2
        go_roundw
        case rel => exact ⟨k + 1, by omega, by go_num, Lib.hid (by
            have := own_store HW.out k y
            rw [upto_step (k := k) (a := addF f g) (fun i hi he => by simp [he]) (by show (if k = k then y else _) = _; rw [if_pos rfl]; unfold addF; rw [← HX.out, ← HY.out, HX0.out]; exact (Int.zero_add y).symm)] at this
            exact this), Lib.hid (below_drewN (bl_set HB2.out _ _ (Nat.le_refl _) _) 1)⟩
        case measure => simp [intOf]; omega
    · have HS : Hid (tab N (fun i => if i < k then addF f g i else 0) = sumL f g) := Lib.hid (by
        unfold sumL
        rw [← hN.out]
        apply tab_ext
        intro i hi
        rw [if_pos (by omega)])
      have HR : Hid (Rd .i64 wr (some ⟨w.heap.size, 0, none⟩) N N (sumL f g)) := Lib.hid (by rw [← HS.out]; exact HW.out.rd)
      go_wp2_with (go_at_call 138; refine (l06Trim_any _ _ _ _ _ HR.out (by omega)).mono ?_; rintro e w2 ⟨A', c', rfl, ho2, hb2⟩; have HO2 := Lib.hid ho2; have HB3 := Lib.hid hb2; clear ho2 hb2)
      go_ret
      exact ⟨A', c', rfl, own_lo HO2.out HB2.out.size, bl_trans HB2.out HB3.out⟩
set_option maxHeartbeats 1600000 in
theorem sumOf_any (A0 : Option Addr) (n0 c0 : Nat) (f : List Int) (A1 : Option Addr) (n1 c1 : Nat) (g : List Int) (w : World) (hf : Rd .i64 w A0 n0 c0 f) (hg : Rd .i64 w A1 n1 c1 g) (h0 : POk f) (h1 : POk g) :
    Calls Try.prog 101 #[.slice A0 n0 c0, .slice A1 n1 c1] w fun e w' => ∃ A c, e = .returned (.slice A (trimL (sumL f g)).length c) ∧ OwnI w' w.heap.size A (trimL (sumL f g)).length c (trimL (sumL f g)) ∧ Below w.heap.size w w' := by
  obtain ⟨i0, hi, hz0, hz1, hz2⟩ := info_parts infoI64
  have HI := Lib.hid hi
  have HZ0 := Lib.hid hz0
  have HZ1 := Lib.hid hz1
  have HZ2 := Lib.hid hz2
  clear hi hz0 hz1 hz2
  have HF := Lib.hid hf
  have HG := Lib.hid hg
  have H0 := Lib.hid h0
  have H1 := Lib.hid h1
  have L0 := Lib.hid hf.1
  have L1 := Lib.hid hg.1
  have hn0 : n0 ≤ 9 := by have := h0.1; have := hf.1; omega
  have hn1 : n1 ≤ 9 := by have := h1.1; have := hg.1; omega
  clear hf hg h0 h1

  obtain ⟨N, hNe⟩ : ∃ N, N = max n0 n1 := ⟨_, rfl⟩
  have hLN : (if n0 < n1 then (n1 : Int) else (n0 : Int)) = (N : Int) := by rw [hNe]; split <;> omega
  have hN : Hid (N = max f.length g.length) := Lib.hid (by rw [L0.out, L1.out]; exact hNe)
  have hN9 : N ≤ 9 := by omega
  have hNn : n0 ≤ N := by omega
  have hNm : n1 ≤ N := by omega
  clear hNe
  have hm1 : i0.bytes * N ≤ 281474976710656 := by rw [HZ2.out]; omega
  have hm2 : N ≤ maxLen := by unfold maxLen; omega
  go_enter Try.func101, Try.ntmps101
  go_wp2_with (at_make; refine wpList_make_full _ rfl _ _ _ rfl w.heap.size 2 i0 (.int .i64 0) 1 Try.underlying22 HI.out HZ0.out HZ1.out .i64 .i64 N N N rfl rfl rfl rfl hm1 hm2 (Nat.le_refl _) ?_; intro w1 hown hgrow)
  have HO := Lib.hid (own_tab hown)
  have HB := Lib.hid ((Below.refl w.heap.size w).grown hgrow (Nat.le_refl _) (by simp))
  clear hown hgrow hm1 hm2 hLN
  go_wp2
  go_loopw [6, 7, 18] (fun _ _ j wr => ∃ k : Nat, k ≤ n0 ∧ j = .int .i64 k ∧ Hid (OwnI wr w.heap.size (some ⟨w.heap.size, 0, none⟩) N N (tab N (fun i => if i < k then (fun i => f.getD i 0) i else (fun _ => (0 : Int)) i))) ∧ Hid (Below w.heap.size w wr)) (fun _ _ j _ => n0 - (intOf j).toNat)
  case atStart => exact ⟨0, Nat.zero_le _, rfl, Lib.hid (by rw [tab_ext (h' := (fun _ => (0 : Int))) (fun i _ => by simp)]; exact HO.out), HB⟩
  case round =>
    obtain ⟨k, hk, rfl, HW, HB2⟩ := hrel
    by_cases hlt : k < n0
    · obtain ⟨b, off, rfl, hb, hcell⟩ := HF.out.2.2.2 (by omega)
      have hx := keep_cell HB2.out (hcell k hlt)
      have ⟨ho, hfz⟩ := own_cell HW.out (show k < N by omega)
      rw [if_neg (Nat.lt_irrefl k)] at ho
      have hx0 := pok_at H0.out k
      obtain ⟨x, hxe⟩ : ∃ x, x = f.getD k 0 := ⟨_, rfl⟩
      rw [← hxe] at hx hx0
      have HX := Lib.hid hxe
      obtain ⟨x1, x2⟩ := hx0
      clear hxe hcell
      go_wp2
      go_roundw
      case rel => exact ⟨k + 1, by omega, by go_num, Lib.hid (by
          have := own_store HW.out k x
          rw [tab_ext (h' := fun i => if i < k + 1 then f.getD i 0 else 0) (fun i _ => by
            by_cases e : i = k
            · subst e; simp [HX.out]
            · by_cases h1 : i < k
              · rw [if_neg e, if_pos h1, if_pos (by omega)]
              · rw [if_neg e, if_neg h1, if_neg (by omega)])] at this
          exact this), Lib.hid (bl_set HB2.out _ _ (Nat.le_refl _) _)⟩
      case measure => simp [intOf]; omega
    · have HW2 : Hid (OwnI wr w.heap.size (some ⟨w.heap.size, 0, none⟩) N N (tab N (fun i => f.getD i 0))) := Lib.hid (by
        have := HW.out
        rw [tab_ext (h' := fun i => f.getD i 0) (fun i _ => by
          by_cases h1 : i < k
          · rw [if_pos h1]
          · rw [if_neg h1, getD_over (by have := L0.out; omega)])] at this
        exact this)
      obtain ⟨wo, rfl⟩ : ∃ wo : World, wo = wr := ⟨_, rfl⟩
      go_wp2
      go_loopw [8, 9, 33] (fun _ _ j wr => ∃ k : Nat, k ≤ n1 ∧ j = .int .i64 k ∧ Hid (OwnI wr w.heap.size (some ⟨w.heap.size, 0, none⟩) N N (tab N (fun i => if i < k then addF f g i else (fun i => f.getD i 0) i))) ∧ Hid (Below w.heap.size w wr)) (fun _ _ j _ => n1 - (intOf j).toNat)
      case atStart => exact ⟨0, Nat.zero_le _, rfl, Lib.hid (by rw [tab_ext (h' := (fun i => f.getD i 0)) (fun i _ => by simp)]; exact HW2.out), HB2⟩
      case round =>
        obtain ⟨k, hk, rfl, HW, HB2⟩ := hrel
        by_cases hlt : k < n1
        · obtain ⟨b, off, rfl, hb, hcell⟩ := HG.out.2.2.2 (by omega)
          have hx := keep_cell HB2.out (hcell k hlt)
          have ⟨ho, hfz⟩ := own_cell HW.out (show k < N by omega)
          rw [if_neg (Nat.lt_irrefl k)] at ho
          have hx0 := pok_at H1.out k
          obtain ⟨x, hxe⟩ : ∃ x, x = g.getD k 0 := ⟨_, rfl⟩
          rw [← hxe] at hx hx0
          have HX := Lib.hid hxe
          obtain ⟨x1, x2⟩ := hx0
          clear hxe hcell
          have hy0 := pok_at H0.out k
          obtain ⟨y, hye⟩ : ∃ y, y = f.getD k 0 := ⟨_, rfl⟩
          dsimp only at ho
          rw [← hye] at ho hy0
          have HY := Lib.hid hye
          obtain ⟨y1, y2⟩ := hy0
          clear hye
          go_wp2
          go_roundw
          case rel => exact ⟨k + 1, by omega, by go_num, Lib.hid (by
              have := own_store HW.out k (y + x)
              rw [tab_ext (h' := fun i => if i < k + 1 then addF f g i else f.getD i 0) (fun i _ => by
                by_cases e : i = k
                · subst e; rw [if_pos rfl, if_pos (by omega)]; unfold addF; rw [← HX.out, ← HY.out]
                · by_cases h1 : i < k
                  · rw [if_neg e, if_pos h1, if_pos (by omega)]
                  · rw [if_neg e, if_neg h1, if_neg (by omega)])] at this
              exact this), Lib.hid (bl_set HB2.out _ _ (Nat.le_refl _) _)⟩
          case measure => simp [intOf]; omega
        · have HS : Hid (tab N (fun i => if i < k then addF f g i else f.getD i 0) = sumL f g) := Lib.hid (by
            unfold sumL
            rw [← hN.out]
            apply tab_ext
            intro i hi
            by_cases h1 : i < k
            · rw [if_pos h1]
            · rw [if_neg h1]; unfold addF; rw [getD_over (xs := g) (by have := L1.out; omega)]; exact (Int.add_zero _).symm)
          have HR : Hid (Rd .i64 wr (some ⟨w.heap.size, 0, none⟩) N N (sumL f g)) := Lib.hid (by rw [← HS.out]; exact HW.out.rd)
          go_wp2_with (go_at_call 137; refine (trim_any _ _ _ _ _ HR.out (by omega)).mono ?_; rintro e w2 ⟨A', c', rfl, ho2, hb2⟩; have HO2 := Lib.hid ho2; have HB3 := Lib.hid hb2; clear ho2 hb2)
          go_ret
          exact ⟨A', c', rfl, own_lo HO2.out HB2.out.size, bl_trans HB2.out HB3.out⟩
end Go.Proofs.Ythdmanngjnfamaa