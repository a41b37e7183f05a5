/- The walks of the derivative, and of the law over DerivativeOf. -/
import Derived.Test.YtjipalcceflkfaaGiv
namespace Go.Proofs.Ytjipalcceflkfaa
open Go.RowKit

/-- the first k coefficients of the derivative -/
def dvP (xs : List Int) (k : Nat) : List Int := (List.range k).map fun (i : Nat) => ((i : Int) + 1) * xs.getD (i + 1) 0
def dvL (xs : List Int) : List Int := dvP xs (xs.length - 1)
theorem dvP_len (xs : List Int) (k : Nat) : (dvP xs k).length = k := by simp [dvP]
theorem dvP_succ (xs : List Int) (k : Nat) : dvP xs (k + 1) = dvP xs k ++ [((k : Int) + 1) * xs.getD (k + 1) 0] := by
  unfold dvP; rw [List.range_succ, List.map_append]; rfl
theorem dvP_at {xs : List Int} {k i : Nat} (h : i < k) : (dvP xs k).getD i 0 = ((i : Int) + 1) * xs.getD (i + 1) 0 := by
  unfold dvP; simp [List.getD, h]
theorem dv_trim {xs : List Int} (h : POk xs) : trimL (dvL xs) = dvL xs := by
  apply trimL_same
  intro h0
  unfold dvL at h0 ⊢
  rw [dvP_len] at h0 ⊢
  rw [dvP_at (by omega)]
  have h1 := h.2.2 (by omega)
  rw [show xs.length - 1 - 1 + 1 = xs.length - 1 by omega]
  exact Int.mul_ne_zero (by omega) h1
theorem prod_bd {k : Nat} {x : Int} (hk : k ≤ 9) (h1 : -1000000 ≤ x) (h2 : x ≤ 1000000) : -9000000 ≤ (k : Int) * x ∧ (k : Int) * x ≤ 9000000 := by
  have a : (k : Int) * x ≤ (k : Int) * 1000000 := Int.mul_le_mul_of_nonneg_left h2 (by omega)
  have b : (k : Int) * (-1000000) ≤ (k : Int) * x := Int.mul_le_mul_of_nonneg_left h1 (by omega)
  omega

set_option maxRecDepth 100000 in
set_option maxHeartbeats 800000 in
theorem l06Derivative_any (A : Option Addr) (n c : Nat) (xs : List Int) (w : World) (hr : Rd .i64 w A n c xs) (h : POk xs) :
    Calls Try.prog 121 #[.slice A n c] w fun e w' => ∃ A' c', e = .returned (.slice A' (dvL xs).length c') ∧ OwnI w' w.heap.size A' (dvL xs).length c' (dvL xs) ∧ Below w.heap.size w w' := by
  obtain ⟨i0, hi, hz0, hz1, hz2⟩ := info_parts infoI64
  have HI := Lib.hid hi
  have HZ0 := Lib.hid hz0
  have HZ1 := Lib.hid hz1
  have HZ2 := Lib.hid hz2
  clear hi hz0 hz1 hz2
  have HR := Lib.hid hr
  have HH := Lib.hid h
  have HL := Lib.hid hr.1
  have hn9 : n ≤ 9 := by have := h.1; have := hr.1; omega
  clear hr h
  go_enter Try.func121, Try.ntmps121
  go_wp2
  go_loopw [3, 4] (fun v i wr => ∃ (k : Nat) (L : List Int), k + 1 ≤ n + 1 ∧ i = .int .i64 (k + 1) ∧ k ≤ 9 ∧ (k = 0 ∨ k < n) ∧ L.length = k ∧ Hid (L = dvP xs k) ∧ Hid (wr.ownsRow w.heap.size 2 1 v L.length (L.map (Value.int .i64))) ∧ Hid (Below w.heap.size w wr)) (fun _ i _ => n + 1 - (intOf i).toNat)
  case atStart => exact ⟨0, [], by omega, rfl, by omega, .inl rfl, rfl, Lib.hid rfl, Lib.hid (own_made w), Lib.hid (bl_alloc (Below.refl _ _) _)⟩
  case round =>
    obtain ⟨k, L, hk, rfl, hk9, hk2, hkl, HE, HO, HB⟩ := hrel
    by_cases hlt : k + 1 < n
    · obtain ⟨b, off, rfl, hb, hcell⟩ := HR.out.2.2.2 (by omega)
      have hx := keep_cell HB.out (hcell (k + 1) hlt)
      have hbd := HH.out.2.1 (k + 1) (by have := HL.out; omega)
      obtain ⟨x, hxe⟩ : ∃ x, x = xs.getD (k + 1) 0 := ⟨_, rfl⟩
      rw [← hxe] at hx hbd
      have HX := Lib.hid hxe
      have hpr := prod_bd (k := k + 1) (by omega) hbd.1 hbd.2
      rw [show ((k + 1 : Nat) : Int) = (k : Int) + 1 by omega] at hpr
      obtain ⟨p1, p2⟩ := hpr
      have HK := Lib.hid hkl
      have hl1 : L.length + 1 ≤ maxLen := by unfold maxLen; omega
      have hl2 : (L.length + 1) * 8 ≤ 140737488355328 := by omega
      clear hxe hcell hbd hkl
      go_wp2_with (at_builtin; refine wpList_append_own _ rfl _ _ _ rfl w.heap.size 2 i0 (.int .i64 0) 1 8 Try.underlying22 HI.out HZ0.out HZ1.out HZ2.out rfl (by decide) _ L.length (L.map (Value.int .i64)) rfl (HO.out.alloc _) ⟨wr.heap.size, 0, none⟩ 1 1 [.int .i64 (((k : Int) + 1) * x)] rfl rfl (cell_one_new _ _ _) (ints_one [((k : Int) + 1) * x]) hl1 hl2 (base_alloc2 HB.out _) ?_; intro v' w1 hown' hgrow _)
      have HO2 := Lib.hid (own_snoc hown')
      have HE2 : Hid (L ++ [((k : Int) + 1) * x] = dvP xs (k + 1)) := Lib.hid (by rw [dvP_succ, ← HE.out, ← HX.out])
      have HB2 : Hid (Below w.heap.size w w1) := Lib.hid ((bl_alloc HB.out _).grown hgrow (base_alloc2 HB.out _) (fun k hk => (HO.out.lt k hk).1))
      clear hown' hgrow HO HB hl1 hl2 p1 p2
      go_wp2
      go_roundw
      case rel => exact ⟨k + 1, L ++ [((k : Int) + 1) * x], by omega, by go_num, by omega, .inr hlt, by have := HK.out; rw [List.length_append]; simp; omega, HE2, HO2, HB2⟩
      case measure => simp [intOf]; omega
    · obtain ⟨A', c', rfl, _⟩ := own_cells HO.out
      have HF : Hid (L = dvL xs) := Lib.hid (by rw [HE.out]; unfold dvL; rw [HL.out, show n - 1 = k by omega])
      clear hkl
      go_wp2
      go_ret
      exact ⟨A', c', by rw [← HF.out]; rfl, by rw [← HF.out]; exact OwnI.of_row HO.out, HB.out⟩

set_option maxRecDepth 100000 in
set_option maxHeartbeats 800000 in
theorem derivative_any (A : Option Addr) (n c : Nat) (xs : List Int) (w : World) (hr : Rd .i64 w A n c xs) (h : POk xs) :
    Calls Try.prog 84 #[.slice A n c] w fun e w' => ∃ A' c', e = .returned (.slice A' (dvL xs).length c') ∧ OwnI w' w.heap.size A' (dvL xs).length c' (dvL xs) ∧ Below w.heap.size w w' := by
  obtain ⟨i0, hi, hz0, hz1, hz2⟩ := info_parts infoI64
  have HI := Lib.hid hi
  have HZ0 := Lib.hid hz0
  have HZ1 := Lib.hid hz1
  have HZ2 := Lib.hid hz2
  clear hi hz0 hz1 hz2
  have HR := Lib.hid hr
  have HH := Lib.hid h
  have HL := Lib.hid hr.1
  have hn9 : n ≤ 9 := by have := h.1; have := hr.1; omega
  clear hr h
  go_enter Try.func84, Try.ntmps84
  go_wp2
  go_loopw [3, 4] (fun v i wr => ∃ (k : Nat) (L : List Int), k + 1 ≤ n + 1 ∧ i = .int .i64 (k + 1) ∧ k ≤ 9 ∧ (k = 0 ∨ k < n) ∧ L.length = k ∧ Hid (L = dvP xs k) ∧ Hid (wr.ownsRow w.heap.size 2 1 v L.length (L.map (Value.int .i64))) ∧ Hid (Below w.heap.size w wr)) (fun _ i _ => n + 1 - (intOf i).toNat)
  case atStart => exact ⟨0, [], by omega, rfl, by omega, .inl rfl, rfl, Lib.hid rfl, Lib.hid (World.ownsRow_nil _ _ _ _), Lib.hid (Below.refl _ _)⟩
  case round =>
    obtain ⟨k, L, hk, rfl, hk9, hk2, hkl, HE, HO, HB⟩ := hrel
    by_cases hlt : k + 1 < n
    · obtain ⟨b, off, rfl, hb, hcell⟩ := HR.out.2.2.2 (by omega)
      have hx := keep_cell HB.out (hcell (k + 1) hlt)
      have hbd := HH.out.2.1 (k + 1) (by have := HL.out; omega)
      obtain ⟨x, hxe⟩ : ∃ x, x = xs.getD (k + 1) 0 := ⟨_, rfl⟩
      rw [← hxe] at hx hbd
      have HX := Lib.hid hxe
      have hpr := prod_bd (k := k + 1) (by omega) hbd.1 hbd.2
      rw [show ((k + 1 : Nat) : Int) = (k : Int) + 1 by omega] at hpr
      obtain ⟨p1, p2⟩ := hpr
      have HK := Lib.hid hkl
      have hl1 : L.length + 1 ≤ maxLen := by unfold maxLen; omega
      have hl2 : (L.length + 1) * 8 ≤ 140737488355328 := by omega
      clear hxe hcell hbd hkl
      go_wp2_with (at_builtin; refine wpList_append_own _ rfl _ _ _ rfl w.heap.size 2 i0 (.int .i64 0) 1 8 Try.underlying22 HI.out HZ0.out HZ1.out HZ2.out rfl (by decide) _ L.length (L.map (Value.int .i64)) rfl (HO.out.alloc _) ⟨wr.heap.size, 0, none⟩ 1 1 [.int .i64 (((k : Int) + 1) * x)] rfl rfl (cell_one_new _ _ _) (ints_one [((k : Int) + 1) * x]) hl1 hl2 (base_alloc2 HB.out _) ?_; intro v' w1 hown' hgrow _)
      have HO2 := Lib.hid (own_snoc hown')
      have HE2 : Hid (L ++ [((k : Int) + 1) * x] = dvP xs (k + 1)) := Lib.hid (by rw [dvP_succ, ← HE.out, ← HX.out])
      have HB2 : Hid (Below w.heap.size w w1) := Lib.hid ((bl_alloc HB.out _).grown hgrow (base_alloc2 HB.out _) (fun k hk => (HO.out.lt k hk).1))
      clear hown' hgrow HO HB hl1 hl2 p1 p2
      go_wp2
      go_roundw
      case rel => exact ⟨k + 1, L ++ [((k : Int) + 1) * x], by omega, by go_num, by omega, .inr hlt, by have := HK.out; rw [List.length_append]; simp; omega, HE2, HO2, HB2⟩
      case measure => simp [intOf]; omega
    · obtain ⟨A', c', rfl, _⟩ := own_cells HO.out
      have HF : Hid (L = dvL xs) := Lib.hid (by rw [HE.out]; unfold dvL; rw [HL.out, show n - 1 = k by omega])
      clear hkl
      go_wp2
      go_ret
      exact ⟨A', c', by rw [← HF.out]; rfl, by rw [← HF.out]; exact OwnI.of_row HO.out, HB.out⟩

end Go.Proofs.Ytjipalcceflkfaa