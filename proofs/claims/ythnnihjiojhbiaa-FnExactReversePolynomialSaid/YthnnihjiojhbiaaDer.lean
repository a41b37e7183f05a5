/- The walks of the derivative, and of the law over DerivativeOf. -/
import Derived.Test.YthnnihjiojhbiaaRes
import Derived.Test.YthnnihjiojhbiaaAbsDerivativeOf
namespace Go.Proofs.Ythnnihjiojhbiaa
open Go.RowKit

/-- the first k coefficients of the derivative -/
def dvP (xs : List Int) (k : Nat) : List Int := (List.range k).map fun (i : Nat) => ((i : Int) + 1) * xs.getD (i + 1) 0
def dvL (xs : List Int) : List Int := dvP xs (xs.length - 1)
theorem dvP_len (xs : List Int) (k : Nat) : (dvP xs k).length = k := by simp [dvP]
theorem dvP_succ (xs : List Int) (k : Nat) : dvP xs (k + 1) = dvP xs k ++ [((k : Int) + 1) * xs.getD (k + 1) 0] := by
  unfold dvP; rw [List.range_succ, List.map_append]; rfl
theorem dvP_at {xs : List Int} {k i : Nat} (h : i < k) : (dvP xs k).getD i 0 = ((i : Int) + 1) * xs.getD (i + 1) 0 := by
  unfold dvP; simp [List.getD, h]
theorem dv_trim {xs : List Int} (h : POk xs) : trimL (dvL xs) = dvL xs := by
  apply trimL_same
  intro h0
  unfold dvL at h0 ⊢
  rw [dvP_len] at h0 ⊢
  rw [dvP_at (by omega)]
  have h1 := h.2.2 (by omega)
  rw [show xs.length - 1 - 1 + 1 = xs.length - 1 by omega]
  exact Int.mul_ne_zero (by omega) h1
theorem prod_bd {k : Nat} {x : Int} (hk : k ≤ 9) (h1 : -1000000 ≤ x) (h2 : x ≤ 1000000) : -9000000 ≤ (k : Int) * x ∧ (k : Int) * x ≤ 9000000 := by
  have a : (k : Int) * x ≤ (k : Int) * 1000000 := Int.mul_le_mul_of_nonneg_left h2 (by omega)
  have b : (k : Int) * (-1000000) ≤ (k : Int) * x := Int.mul_le_mul_of_nonneg_left h1 (by omega)
  omega
theorem own_snoc {w : World} {lo : Nat} {v : Value} {L : List Int} {x : Int} (h : w.ownsRow lo 2 1 v (L.length + 1) (L.map (Value.int .i64) ++ [.int .i64 x])) : w.ownsRow lo 2 1 v (L ++ [x]).length ((L ++ [x]).map (Value.int .i64)) := by
  rw [List.length_append, List.map_append]; exact h
theorem base_alloc2 {a w : World} (h : Below a.heap.size a w) (o : Obj) : a.heap.size ≤ (w.alloc o).heap.size := by have := h.size; simp; omega

set_option maxHeartbeats 800000 in
theorem l06Derivative_any (A : Option Addr) (n c : Nat) (xs : List Int) (w : World) (hr : Rd .i64 w A n c xs) (h : POk xs) :
    Calls Try.prog 75 #[.slice A n c] w fun e w' => ∃ A' c', e = .returned (.slice A' (dvL xs).length c') ∧ OwnI w' w.heap.size A' (dvL xs).length c' (dvL xs) ∧ Below w.heap.size w w' := by
  obtain ⟨i0, hi, hz0, hz1, hz2⟩ := info_parts infoI64
  have HI := Lib.hid hi
  have HZ0 := Lib.hid hz0
  have HZ1 := Lib.hid hz1
  have HZ2 := Lib.hid hz2
  clear hi hz0 hz1 hz2
  have HR := Lib.hid hr
  have HH := Lib.hid h
  have HL := Lib.hid hr.1
  have hn9 : n ≤ 9 := by have := h.1; have := hr.1; omega
  clear hr h
  go_enter Try.func75, Try.ntmps75
  go_wp2
  go_loopw [3, 4] (fun v i wr => ∃ (k : Nat) (L : List Int), k + 1 ≤ n + 1 ∧ i = .int .i64 (k + 1) ∧ k ≤ 9 ∧ (k = 0 ∨ k < n) ∧ L.length = k ∧ Hid (L = dvP xs k) ∧ Hid (wr.ownsRow w.heap.size 2 1 v L.length (L.map (Value.int .i64))) ∧ Hid (Below w.heap.size w wr)) (fun _ i _ => n + 1 - (intOf i).toNat)
  case atStart => exact ⟨0, [], by omega, rfl, by omega, .inl rfl, rfl, Lib.hid rfl, Lib.hid (own_made w), Lib.hid (bl_alloc (Below.refl _ _) _)⟩
  case round =>
    obtain ⟨k, L, hk, rfl, hk9, hk2, hkl, HE, HO, HB⟩ := hrel
    by_cases hlt : k + 1 < n
    · obtain ⟨b, off, rfl, hb, hcell⟩ := HR.out.2.2.2 (by omega)
      have hx := keep_cell HB.out (hcell (k + 1) hlt)
      have hbd := HH.out.2.1 (k + 1) (by have := HL.out; omega)
      obtain ⟨x, hxe⟩ : ∃ x, x = xs.getD (k + 1) 0 := ⟨_, rfl⟩
      rw [← hxe] at hx hbd
      have HX := Lib.hid hxe
      have hpr := prod_bd (k := k + 1) (by omega) hbd.1 hbd.2
      rw [show ((k + 1 : Nat) : Int) = (k : Int) + 1 by omega] at hpr
      obtain ⟨p1, p2⟩ := hpr
      have HK := Lib.hid hkl
      have hl1 : L.length + 1 ≤ maxLen := by unfold maxLen; omega
      have hl2 : (L.length + 1) * 8 ≤ 140737488355328 := by omega
      clear hxe hcell hbd hkl
      go_wp2_with (at_builtin; refine wpList_append_own _ rfl _ _ _ rfl w.heap.size 2 i0 (.int .i64 0) 1 8 Try.underlying22 HI.out HZ0.out HZ1.out HZ2.out rfl (by decide) _ L.length (L.map (Value.int .i64)) rfl (HO.out.alloc _) ⟨wr.heap.size, 0, none⟩ 1 1 [.int .i64 (((k : Int) + 1) * x)] rfl rfl (cell_one_new _ _ _) (ints_one [((k : Int) + 1) * x]) hl1 hl2 (base_alloc2 HB.out _) ?_; intro v' w1 hown' hgrow _)
      have HO2 := Lib.hid (own_snoc hown')
      have HE2 : Hid (L ++ [((k : Int) + 1) * x] = dvP xs (k + 1)) := Lib.hid (by rw [dvP_succ, ← HE.out, ← HX.out])
      have HB2 : Hid (Below w.heap.size w w1) := Lib.hid ((bl_alloc HB.out _).grown hgrow (base_alloc2 HB.out _) (fun k hk => (HO.out.lt k hk).1))
      clear hown' hgrow HO HB hl1 hl2 p1 p2
      go_wp2
      go_roundw
      case rel => exact ⟨k + 1, L ++ [((k : Int) + 1) * x], by omega, by go_num, by omega, .inr hlt, by have := HK.out; rw [List.length_append]; simp; omega, HE2, HO2, HB2⟩
      case measure => simp [intOf]; omega
    · obtain ⟨A', c', rfl, _⟩ := own_cells HO.out
      have HF : Hid (L = dvL xs) := Lib.hid (by rw [HE.out]; unfold dvL; rw [HL.out, show n - 1 = k by omega])
      clear hkl
      go_wp2
      go_ret
      exact ⟨A', c', by rw [← HF.out]; rfl, by rw [← HF.out]; exact OwnI.of_row HO.out, HB.out⟩

set_option maxHeartbeats 800000 in
theorem derivative_any (A : Option Addr) (n c : Nat) (xs : List Int) (w : World) (hr : Rd .i64 w A n c xs) (h : POk xs) :
    Calls Try.prog 77 #[.slice A n c] w fun e w' => ∃ A' c', e = .returned (.slice A' (dvL xs).length c') ∧ OwnI w' w.heap.size A' (dvL xs).length c' (dvL xs) ∧ Below w.heap.size w w' := by
  obtain ⟨i0, hi, hz0, hz1, hz2⟩ := info_parts infoI64
  have HI := Lib.hid hi
  have HZ0 := Lib.hid hz0
  have HZ1 := Lib.hid hz1
  have HZ2 := Lib.hid hz2
  clear hi hz0 hz1 hz2
  have HR := Lib.hid hr
  have HH := Lib.hid h
  have HL := Lib.hid hr.1
  have hn9 : n ≤ 9 := by have := h.1; have := hr.1; omega
  clear hr h
  go_enter Try.func77, Try.ntmps77
  go_wp2
  go_loopw [3, 4] (fun v i wr => ∃ (k : Nat) (L : List Int), k + 1 ≤ n + 1 ∧ i = .int .i64 (k + 1) ∧ k ≤ 9 ∧ (k = 0 ∨ k < n) ∧ L.length = k ∧ Hid (L = dvP xs k) ∧ Hid (wr.ownsRow w.heap.size 2 1 v L.length (L.map (Value.int .i64))) ∧ Hid (Below w.heap.size w wr)) (fun _ i _ => n + 1 - (intOf i).toNat)
  case atStart => exact ⟨0, [], by omega, rfl, by omega, .inl rfl, rfl, Lib.hid rfl, Lib.hid (World.ownsRow_nil _ _ _ _), Lib.hid (Below.refl _ _)⟩
  case round =>
    obtain ⟨k, L, hk, rfl, hk9, hk2, hkl, HE, HO, HB⟩ := hrel
    by_cases hlt : k + 1 < n
    · obtain ⟨b, off, rfl, hb, hcell⟩ := HR.out.2.2.2 (by omega)
      have hx := keep_cell HB.out (hcell (k + 1) hlt)
      have hbd := HH.out.2.1 (k + 1) (by have := HL.out; omega)
      obtain ⟨x, hxe⟩ : ∃ x, x = xs.getD (k + 1) 0 := ⟨_, rfl⟩
      rw [← hxe] at hx hbd
      have HX := Lib.hid hxe
      have hpr := prod_bd (k := k + 1) (by omega) hbd.1 hbd.2
      rw [show ((k + 1 : Nat) : Int) = (k : Int) + 1 by omega] at hpr
      obtain ⟨p1, p2⟩ := hpr
      have HK := Lib.hid hkl
      have hl1 : L.length + 1 ≤ maxLen := by unfold maxLen; omega
      have hl2 : (L.length + 1) * 8 ≤ 140737488355328 := by omega
      clear hxe hcell hbd hkl
      go_wp2_with (at_builtin; refine wpList_append_own _ rfl _ _ _ rfl w.heap.size 2 i0 (.int .i64 0) 1 8 Try.underlying22 HI.out HZ0.out HZ1.out HZ2.out rfl (by decide) _ L.length (L.map (Value.int .i64)) rfl (HO.out.alloc _) ⟨wr.heap.size, 0, none⟩ 1 1 [.int .i64 (((k : Int) + 1) * x)] rfl rfl (cell_one_new _ _ _) (ints_one [((k : Int) + 1) * x]) hl1 hl2 (base_alloc2 HB.out _) ?_; intro v' w1 hown' hgrow _)
      have HO2 := Lib.hid (own_snoc hown')
      have HE2 : Hid (L ++ [((k : Int) + 1) * x] = dvP xs (k + 1)) := Lib.hid (by rw [dvP_succ, ← HE.out, ← HX.out])
      have HB2 : Hid (Below w.heap.size w w1) := Lib.hid ((bl_alloc HB.out _).grown hgrow (base_alloc2 HB.out _) (fun k hk => (HO.out.lt k hk).1))
      clear hown' hgrow HO HB hl1 hl2 p1 p2
      go_wp2
      go_roundw
      case rel => exact ⟨k + 1, L ++ [((k : Int) + 1) * x], by omega, by go_num, by omega, .inr hlt, by have := HK.out; rw [List.length_append]; simp; omega, HE2, HO2, HB2⟩
      case measure => simp [intOf]; omega
    · obtain ⟨A', c', rfl, _⟩ := own_cells HO.out
      have HF : Hid (L = dvL xs) := Lib.hid (by rw [HE.out]; unfold dvL; rw [HL.out, show n - 1 = k by omega])
      clear hkl
      go_wp2
      go_ret
      exact ⟨A', c', by rw [← HF.out]; rfl, by rw [← HF.out]; exact OwnI.of_row HO.out, HB.out⟩

/-- what DerivativeOf gives -/
def derR (xs : List Int) : List Int × Int := if POk xs then resOf (dvL xs) else ([], 1)
set_option maxHeartbeats 800000 in
theorem specDerivativeOf_any (A : Option Addr) (n c : Nat) (xs : List Int) (w : World) (hr : Rd .i64 w A n c xs) :
    Calls Try.prog 40 #[.slice A n c] w (Gives (derR xs) w) := by
  have HR := Lib.hid hr
  have hl := hr.1
  clear hr
  by_cases h : POk xs
  · have H := Lib.hid h
    have HE : Hid (derR xs = resOf (dvL xs)) := Lib.hid (by unfold derR; rw [if_pos h])
    have hn : (dvL xs).length ≤ 1048576 := by have := h.1; unfold dvL; rw [dvP_len]; omega
    clear h hl
    go_enter Try.func40, Try.ntmps40
    go_wp2_with (first | (go_at_call 54; refine (specIsPolynomial_yes _ _ _ _ _ HR.out H.out).mono ?_; rintro e w' ⟨rfl, rfl⟩) | (go_at_call 75; refine (l06Derivative_any _ _ _ _ _ HR.out H.out).mono ?_; rintro e w1 ⟨A', c', rfl, ho, hb⟩; have HO := Lib.hid ho; have HB := Lib.hid hb; clear ho hb) | (go_at_call 74; refine (l06Result_any _ _ _ _ _ HO.out.rd hn).mono ?_; rintro e w2 ⟨A2, c2, rfl, ho2, hb2⟩; have HO2 := Lib.hid ho2; have HB2 := Lib.hid hb2; clear ho2 hb2))
    go_ret2
    exact ⟨A2, c2, by rw [HE.out]; rfl, by rw [HE.out]; exact own_lo HO2.out HB.out.size, bl_trans HB.out HB2.out⟩
  · have H := Lib.hid h
    have HE : Hid (derR xs = ([], 1)) := Lib.hid (by unfold derR; rw [if_neg h])
    clear h hl
    go_enter Try.func40, Try.ntmps40
    go_wp2_with (first | (go_at_call 54; refine (specIsPolynomial_no _ _ _ _ _ HR.out H.out).mono ?_; rintro e w' ⟨rfl, rfl⟩))
    go_ret2
    exact ⟨none, 0, by rw [HE.out]; rfl, by rw [HE.out]; exact OwnI.nil _ _, Below.refl _ _⟩

set_option maxHeartbeats 800000 in
theorem implDerivativeOf_any (A : Option Addr) (n c : Nat) (xs : List Int) (w : World) (hr : Rd .i64 w A n c xs) :
    Calls Try.prog 41 #[.slice A n c] w (Gives (derR xs) w) := by
  have HR := Lib.hid hr
  clear hr
  by_cases h : POk xs
  · have H := Lib.hid h
    by_cases h2 : POk (dvL xs)
    all_goals
      first | have HE : Hid (derR xs = (dvL xs, 0)) := Lib.hid (by unfold derR resOf; rw [if_pos h, dv_trim h, if_pos h2]) | have HE : Hid (derR xs = ([], 3)) := Lib.hid (by unfold derR resOf; rw [if_pos h, dv_trim h, if_neg h2])
      have H2 := Lib.hid h2
      clear h h2
      go_enter Try.func41, Try.ntmps41
      go_wp2_with (first | (go_at_call 56; refine (implIsPolynomial_yes _ _ _ _ _ HR.out H.out).mono ?_; rintro e w' ⟨rfl, rfl⟩) | (go_at_call 77; refine (derivative_any _ _ _ _ _ HR.out H.out).mono ?_; rintro e w1 ⟨A', c', rfl, ho, hb⟩; have HO := Lib.hid ho; have HB := Lib.hid hb; clear ho hb) | (go_at_call 76; (first | refine (orNo_yes _ _ _ _ _ HO.out.rd H2.out).mono ?_ | refine (orNo_no _ _ _ _ _ HO.out.rd H2.out).mono ?_); rintro e w' ⟨rfl, rfl⟩))
      go_ret2
      first | exact ⟨A', c', by rw [HE.out]; rfl, by rw [HE.out]; exact HO.out, HB.out⟩ | exact ⟨none, 0, by rw [HE.out]; rfl, by rw [HE.out]; exact OwnI.nil _ _, HB.out⟩
  · have H := Lib.hid h
    have HE : Hid (derR xs = ([], 1)) := Lib.hid (by unfold derR; rw [if_neg h])
    clear h
    go_enter Try.func41, Try.ntmps41
    go_wp2_with (first | (go_at_call 56; refine (implIsPolynomial_no _ _ _ _ _ HR.out H.out).mono ?_; rintro e w' ⟨rfl, rfl⟩))
    go_ret2
    exact ⟨none, 0, by rw [HE.out]; rfl, by rw [HE.out]; exact OwnI.nil _ _, Below.refl _ _⟩
theorem derR_len (xs : List Int) : (derR xs).1.length ≤ 1048576 := by
  unfold derR resOf
  by_cases h : POk xs
  · rw [if_pos h]
    by_cases h2 : POk (trimL (dvL xs))
    · rw [if_pos h2]; have := h2.1; show (trimL (dvL xs)).length ≤ _; omega
    · rw [if_neg h2]; simp
  · rw [if_neg h]; simp

theorem walkExactDerivativeOf (A0 : Option Addr) (n0 c0 : Nat) (xs0 : List Int) (w : World) (hr0 : IsRow .i64 w A0 n0 c0 xs0) :
    Calls Try.prog 11 #[.slice A0 n0 c0] w fun e w' => e = .returned (.bool true) ∧ Below w.heap.size w w' := by
  have hm0 := hr0.2.1
  have hc0 := hr0.1
  unfold maxLen at hm0
  have R0 := Lib.hid hr0.rd
  clear hr0
  by_cases hn0 : n0 ≤ 1048576
  · exact lawExactDerivativeOf A0 n0 c0 xs0 (derR xs0).1 (derR xs0).2 w R0.out hn0 (derR_len _)
      (fun _ _ _ h => specDerivativeOf_any _ _ _ _ _ h)
      (fun _ _ _ h => implDerivativeOf_any _ _ _ _ _ h)
  · go_enter Try.func11, Try.ntmps11
    go_wp2
    go_ret
    exact ⟨rfl, Below.refl _ _⟩

end Go.Proofs.Ythnnihjiojhbiaa