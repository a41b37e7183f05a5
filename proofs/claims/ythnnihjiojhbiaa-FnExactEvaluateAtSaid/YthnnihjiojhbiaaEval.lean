/- The walks of the value and of the content of a polynomial, and of the laws over EvaluateAt and ContentOf. -/
import Derived.Test.YthnnihjiojhbiaaOwn
import Derived.Test.YthnnihjiojhbiaaCopy
import Derived.Test.YthnnihjiojhbiaaTab
namespace Go.Proofs.Ythnnihjiojhbiaa
open Go.RowKit

/-- Horner's value of the coefficients -/
def hv (x : Int) : List Int → Int
  | [] => 0
  | c :: cs => hv x cs * x + c
theorem drop_cons {xs : List Int} {k : Nat} (h : k < xs.length) : xs.drop k = xs.getD k 0 :: xs.drop (k + 1) := by
  rw [List.drop_eq_getElem_cons h]
  simp [List.getD, h]
theorem hv_step {x : Int} {xs : List Int} {k : Nat} (h : k < xs.length) : hv x (xs.drop k) = hv x (xs.drop (k + 1)) * x + xs.getD k 0 := by
  rw [drop_cons h]; rfl
/-- what is no value stays none towards the front -/
theorem hv_grow {x : Int} {xs : List Int} (hp : ∀ i, i < xs.length → -1000000 ≤ xs.getD i 0 ∧ xs.getD i 0 ≤ 1000000) :
    ∀ (d k : Nat), k + d = xs.length → (x.natAbs ≤ 1 → (hv x (xs.drop k)).natAbs ≤ d * 1000000) := by
  intro d
  induction d with
  | zero => intro k hk _; rw [List.drop_of_length_le (by omega)]; simp [hv]
  | succ d ih =>
    intro k hk hx
    rw [hv_step (by omega)]
    have h1 := ih (k + 1) (by omega) hx
    have h2 := hp k (by omega)
    have h3 : (hv x (xs.drop (k + 1)) * x).natAbs ≤ d * 1000000 := by
      rw [Int.natAbs_mul]
      have : (hv x (xs.drop (k + 1))).natAbs * x.natAbs ≤ (d * 1000000) * 1 := Nat.mul_le_mul h1 hx
      omega
    generalize hv x (xs.drop (k + 1)) * x = z at *
    omega
theorem hv_far {x : Int} {xs : List Int} (hp : ∀ i, i < xs.length → -1000000 ≤ xs.getD i 0 ∧ xs.getD i 0 ≤ 1000000) (hl : xs.length ≤ 9) :
    ∀ k, k ≤ xs.length → ¬ V (hv x (xs.drop k)) → ¬ V (hv x xs) := by
  intro k
  induction k with
  | zero => intro _ h; exact h
  | succ k ih =>
    intro hk h
    apply ih (by omega)
    intro hv0
    apply h
    by_cases hx : x.natAbs ≤ 1
    · have := hv_grow hp (xs.length - (k + 1)) (k + 1) (by omega) hx
      unfold V
      omega
    · rw [hv_step (by omega)] at hv0
      have h2 := hp k (by omega)
      unfold V at hv0 ⊢
      have h3 : (hv x (xs.drop (k + 1)) * x).natAbs ≤ 1000001000000 := by
        generalize hv x (xs.drop (k + 1)) * x = z at *
        omega
      rw [Int.natAbs_mul] at h3
      have h4 : (hv x (xs.drop (k + 1))).natAbs * 2 ≤ (hv x (xs.drop (k + 1))).natAbs * x.natAbs := Nat.mul_le_mul_left _ (by omega)
      omega
instance (n : Int) : Decidable (V n) := by unfold V; infer_instance
/-- what EvaluateAt gives -/
def evV (xs : List Int) (x : Int) : Int := if POk xs ∧ (-1000 ≤ x ∧ x ≤ 1000) ∧ V (hv x xs) then hv x xs else 0
def evC (xs : List Int) (x : Int) : Int := if POk xs then (if -1000 ≤ x ∧ x ≤ 1000 then (if V (hv x xs) then 0 else 3) else 2) else 1
theorem mulx_bd {z x : Int} (z1 : -4000000000000 ≤ z) (z2 : z ≤ 4000000000000) (x1 : -1000 ≤ x) (x2 : x ≤ 1000) : -4000000000000000 ≤ z * x ∧ z * x ≤ 4000000000000000 := by
  have h : (z * x).natAbs ≤ 4000000000000 * 1000 := by
    rw [Int.natAbs_mul]
    exact Nat.mul_le_mul (by omega) (by omega)
  generalize z * x = y at *
  omega
theorem isArgument_any (n : Int) (w : World) :
    Calls Try.prog 57 #[.int .i64 n] w fun e w' => e = .returned (.bool (decide (-1000 ≤ n) && decide (n ≤ 1000))) ∧ w = w' := by
  go_enter Try.func57, Try.ntmps57
  go_wp2_with (first | (go_at_call 53; refine (within_any _ _ _ _).mono ?_; rintro e w' ⟨rfl, rfl⟩))
  go_ret
  exact ⟨rfl, rfl⟩

set_option maxHeartbeats 1600000 in
theorem specEvaluateAt_any (A : Option Addr) (n c : Nat) (xs : List Int) (x : Int) (w : World) (hr : Rd .i64 w A n c xs) :
    Calls Try.prog 23 #[.slice A n c, .int .i64 x] w fun e w' => e = .returned (.tuple #[.int .i64 (evV xs x), .int .i64 (evC xs x)]) ∧ Below w.heap.size w w' := by
  have HR := Lib.hid hr
  have HL := Lib.hid hr.1
  clear hr
  by_cases h : POk xs
  · have H := Lib.hid h
    by_cases hx : -1000 ≤ x ∧ x ≤ 1000
    · obtain ⟨x1, x2⟩ := hx
      have hn : n ≤ 9 := by have := h.1; have := HL.out; omega
      have HV : Hid (evV xs x = (if V (hv x xs) then hv x xs else 0) ∧ evC xs x = (if V (hv x xs) then 0 else 3)) := Lib.hid (by
        refine ⟨?_, by unfold evC; rw [if_pos h, if_pos ⟨x1, x2⟩]⟩
        unfold evV
        by_cases hv' : V (hv x xs)
        · rw [if_pos ⟨h, ⟨x1, x2⟩, hv'⟩, if_pos hv']
        · rw [if_neg (fun h' => hv' h'.2.2), if_neg hv'])
      clear h
      go_enter Try.func23, Try.ntmps23
      go_wp2_with (first | (go_at_call 54; refine (specIsPolynomial_yes _ _ _ _ _ HR.out H.out).mono ?_; rintro e w' ⟨rfl, rfl⟩) | (go_at_call 49; refine (l01In_any _ _ _ _).mono ?_; rintro e w' ⟨rfl, rfl⟩))
      go_loop [6, 7] (fun s i => ∃ (k : Nat) (z : Int), k ≤ n ∧ i = .int .i64 (k - 1) ∧ s = .int .i64 z ∧ -4000000000000 ≤ z ∧ z ≤ 4000000000000 ∧ Hid (z = hv x (xs.drop k))) (fun _ i => (intOf i + 1).toNat)
      case atStart => exact ⟨n, 0, Nat.le_refl _, by go_num, rfl, by omega, by omega, Lib.hid (by rw [List.drop_of_length_le (by have := HL.out; omega)]; rfl)⟩
      case round =>
        obtain ⟨k, z, hk, rfl, rfl, z1, z2, HZ⟩ := hrel
        rcases Nat.eq_zero_or_pos k with h0 | h0
        · subst h0
          have HZ2 : Hid (z = hv x xs) := HZ
          by_cases hv1 : V z
          · have HV1 := Lib.hid hv1
            obtain ⟨v1, v2⟩ := hv1
            go_wp2_with (first | (go_at_call 55; refine (l01Is_any _ _).mono ?_; rintro e w' ⟨rfl, rfl⟩))
            go_ret2
            exact ⟨by rw [HV.out.1, HV.out.2, ← HZ2.out, if_pos HV1.out, if_pos HV1.out]; rfl, Below.refl _ _⟩
          · have HV1 := Lib.hid hv1
            have hd := V_dec hv1
            clear hv1
            go_wp2_with (first | (go_at_call 55; refine (l01Is_any _ _).mono ?_; rintro e w' ⟨rfl, rfl⟩))
            go_ret2
            exact ⟨by rw [HV.out.1, HV.out.2, ← HZ2.out, if_neg HV1.out, if_neg HV1.out]; rfl, Below.refl _ _⟩
        · obtain ⟨j, hj⟩ : ∃ j, j = k - 1 := ⟨_, rfl⟩
          have hkj : (k : Int) - 1 = (j : Int) := by omega
          have hjn : j < n := by omega
          obtain ⟨b, off, rfl, hb, hcell⟩ := HR.out.2.2.2 (by omega)
          have hy := hcell j hjn
          have hy0 := H.out.2.1 j (by have := HL.out; omega)
          obtain ⟨y, hye⟩ : ∃ y, y = xs.getD j 0 := ⟨_, rfl⟩
          rw [← hye] at hy hy0
          obtain ⟨y1, y2⟩ := hy0
          have ⟨m1, m2⟩ := mulx_bd (z := z) (by omega) (by omega) x1 x2
          have HN : Hid (z * x + y = hv x (xs.drop j)) := Lib.hid (by rw [hv_step (by have := HL.out; omega), ← hye, ← show k = j + 1 by omega, ← HZ.out])
          have HJ := Lib.hid hj
          rw [hkj]
          clear hye hcell hj hkj
          by_cases hin : -4000000000000 ≤ z * x + y ∧ z * x + y ≤ 4000000000000
          · obtain ⟨i1, i2⟩ := hin
            go_wp2_with (first | (go_at_call 49; refine (l01In_any _ _ _ _).mono ?_; rintro e w' ⟨rfl, rfl⟩))
            go_round
            case rel => exact ⟨j, z * x + y, by omega, by go_num, rfl, i1, i2, HN⟩
            case measure => simp only [intOf]; omega
          · have hd : (decide (-4000000000000 ≤ z * x + y) && decide (z * x + y ≤ 4000000000000)) = false := by simp only [Bool.and_eq_false_iff, decide_eq_false_iff_not]; omega
            have HW : Hid (¬ V (hv x xs)) := Lib.hid (hv_far H.out.2.1 H.out.1 j (by have := HL.out; omega) (by rw [← HN.out]; unfold V; omega))
            clear hin
            go_wp2_with (first | (go_at_call 49; refine (l01In_any _ _ _ _).mono ?_; rintro e w' ⟨rfl, rfl⟩))
            go_ret2
            exact ⟨by rw [HV.out.1, HV.out.2, if_neg HW.out, if_neg HW.out]; rfl, Below.refl _ _⟩
    · have HE : Hid (evV xs x = 0 ∧ evC xs x = 2) := Lib.hid (by
        exact ⟨by unfold evV; rw [if_neg (fun h' => hx h'.2.1)], by unfold evC; rw [if_pos h, if_neg hx]⟩)
      have hd : (decide (-1000 ≤ x) && decide (x ≤ 1000)) = false := by simp only [Bool.and_eq_false_iff, decide_eq_false_iff_not]; omega
      clear hx h
      go_enter Try.func23, Try.ntmps23
      go_wp2_with (first | (go_at_call 54; refine (specIsPolynomial_yes _ _ _ _ _ HR.out H.out).mono ?_; rintro e w' ⟨rfl, rfl⟩) | (go_at_call 49; refine (l01In_any _ _ _ _).mono ?_; rintro e w' ⟨rfl, rfl⟩))
      go_ret2
      exact ⟨by rw [HE.out.1, HE.out.2]; rfl, Below.refl _ _⟩
  · have H := Lib.hid h
    have HE : Hid (evV xs x = 0 ∧ evC xs x = 1) := Lib.hid (by
      exact ⟨by unfold evV; rw [if_neg (fun h' => h h'.1)], by unfold evC; rw [if_neg h]⟩)
    clear h
    go_enter Try.func23, Try.ntmps23
    go_wp2_with (first | (go_at_call 54; refine (specIsPolynomial_no _ _ _ _ _ HR.out H.out).mono ?_; rintro e w' ⟨rfl, rfl⟩))
    go_ret2
    exact ⟨by rw [HE.out.1, HE.out.2]; rfl, Below.refl _ _⟩

set_option maxHeartbeats 1600000 in
theorem implEvaluateAt_any (A : Option Addr) (n c : Nat) (xs : List Int) (x : Int) (w : World) (hr : Rd .i64 w A n c xs) :
    Calls Try.prog 24 #[.slice A n c, .int .i64 x] w fun e w' => e = .returned (.tuple #[.int .i64 (evV xs x), .int .i64 (evC xs x)]) ∧ Below w.heap.size w w' := by
  have HR := Lib.hid hr
  have HL := Lib.hid hr.1
  clear hr
  by_cases h : POk xs
  · have H := Lib.hid h
    by_cases hx : -1000 ≤ x ∧ x ≤ 1000
    · obtain ⟨x1, x2⟩ := hx
      have hn : n ≤ 9 := by have := h.1; have := HL.out; omega
      have HV : Hid (evV xs x = (if V (hv x xs) then hv x xs else 0) ∧ evC xs x = (if V (hv x xs) then 0 else 3)) := Lib.hid (by
        refine ⟨?_, by unfold evC; rw [if_pos h, if_pos ⟨x1, x2⟩]⟩
        unfold evV
        by_cases hv' : V (hv x xs)
        · rw [if_pos ⟨h, ⟨x1, x2⟩, hv'⟩, if_pos hv']
        · rw [if_neg (fun h' => hv' h'.2.2), if_neg hv'])
      clear h
      go_enter Try.func24, Try.ntmps24
      go_wp2_with (first | (go_at_call 56; refine (implIsPolynomial_yes _ _ _ _ _ HR.out H.out).mono ?_; rintro e w' ⟨rfl, rfl⟩) | (go_at_call 57; refine (isArgument_any _ _).mono ?_; rintro e w' ⟨rfl, rfl⟩))
      go_loop [6, 7] (fun s i => ∃ (k : Nat) (z : Int), k ≤ n ∧ i = .int .i64 (k - 1) ∧ s = .int .i64 z ∧ -1000000000000 ≤ z ∧ z ≤ 1000000000000 ∧ Hid (z = hv x (xs.drop k))) (fun _ i => (intOf i + 1).toNat)
      case atStart => exact ⟨n, 0, Nat.le_refl _, by go_num, rfl, by omega, by omega, Lib.hid (by rw [List.drop_of_length_le (by have := HL.out; omega)]; rfl)⟩
      case round =>
        obtain ⟨k, z, hk, rfl, rfl, z1, z2, HZ⟩ := hrel
        rcases Nat.eq_zero_or_pos k with h0 | h0
        · subst h0
          have HZ2 : Hid (z = hv x xs) := HZ
          by_cases hv1 : V z
          · have HV1 := Lib.hid hv1
            obtain ⟨v1, v2⟩ := hv1
            go_wp2
            go_ret2
            exact ⟨by rw [HV.out.1, HV.out.2, ← HZ2.out, if_pos HV1.out, if_pos HV1.out]; rfl, Below.refl _ _⟩
          · exact absurd ⟨z1, z2⟩ hv1
        · obtain ⟨j, hj⟩ : ∃ j, j = k - 1 := ⟨_, rfl⟩
          have hkj : (k : Int) - 1 = (j : Int) := by omega
          have hjn : j < n := by omega
          obtain ⟨b, off, rfl, hb, hcell⟩ := HR.out.2.2.2 (by omega)
          have hy := hcell j hjn
          have hy0 := H.out.2.1 j (by have := HL.out; omega)
          obtain ⟨y, hye⟩ : ∃ y, y = xs.getD j 0 := ⟨_, rfl⟩
          rw [← hye] at hy hy0
          obtain ⟨y1, y2⟩ := hy0
          have ⟨m1, m2⟩ := mulx_bd (z := z) (by omega) (by omega) x1 x2
          have HN : Hid (z * x + y = hv x (xs.drop j)) := Lib.hid (by rw [hv_step (by have := HL.out; omega), ← hye, ← show k = j + 1 by omega, ← HZ.out])
          have HJ := Lib.hid hj
          rw [hkj]
          clear hye hcell hj hkj
          by_cases hin : -1000000000000 ≤ z * x + y ∧ z * x + y ≤ 1000000000000
          · obtain ⟨i1, i2⟩ := hin
            go_wp2_with (first | (go_at_call 58; refine (isValue_any _ _).mono ?_; rintro e w' ⟨rfl, rfl⟩))
            go_round
            case rel => exact ⟨j, z * x + y, by omega, by go_num, rfl, i1, i2, HN⟩
            case measure => simp only [intOf]; omega
          · have hd : (decide (-1000000000000 ≤ z * x + y) && decide (z * x + y ≤ 1000000000000)) = false := by simp only [Bool.and_eq_false_iff, decide_eq_false_iff_not]; omega
            have HW : Hid (¬ V (hv x xs)) := Lib.hid (hv_far H.out.2.1 H.out.1 j (by have := HL.out; omega) (by rw [← HN.out]; unfold V; omega))
            clear hin
            go_wp2_with (first | (go_at_call 58; refine (isValue_any _ _).mono ?_; rintro e w' ⟨rfl, rfl⟩))
            go_ret2
            exact ⟨by rw [HV.out.1, HV.out.2, if_neg HW.out, if_neg HW.out]; rfl, Below.refl _ _⟩
    · have HE : Hid (evV xs x = 0 ∧ evC xs x = 2) := Lib.hid (by
        exact ⟨by unfold evV; rw [if_neg (fun h' => hx h'.2.1)], by unfold evC; rw [if_pos h, if_neg hx]⟩)
      have hd : (decide (-1000 ≤ x) && decide (x ≤ 1000)) = false := by simp only [Bool.and_eq_false_iff, decide_eq_false_iff_not]; omega
      clear hx h
      go_enter Try.func24, Try.ntmps24
      go_wp2_with (first | (go_at_call 56; refine (implIsPolynomial_yes _ _ _ _ _ HR.out H.out).mono ?_; rintro e w' ⟨rfl, rfl⟩) | (go_at_call 57; refine (isArgument_any _ _).mono ?_; rintro e w' ⟨rfl, rfl⟩))
      go_ret2
      exact ⟨by rw [HE.out.1, HE.out.2]; rfl, Below.refl _ _⟩
  · have H := Lib.hid h
    have HE : Hid (evV xs x = 0 ∧ evC xs x = 1) := Lib.hid (by
      exact ⟨by unfold evV; rw [if_neg (fun h' => h h'.1)], by unfold evC; rw [if_neg h]⟩)
    clear h
    go_enter Try.func24, Try.ntmps24
    go_wp2_with (first | (go_at_call 56; refine (implIsPolynomial_no _ _ _ _ _ HR.out H.out).mono ?_; rintro e w' ⟨rfl, rfl⟩))
    go_ret2
    exact ⟨by rw [HE.out.1, HE.out.2]; rfl, Below.refl _ _⟩

set_option maxHeartbeats 4000000 in
theorem lawExactEvaluateAt (A0 : Option Addr) (n0 c0 : Nat) (xs0 : List Int) (a1 : Int) (v cd : Int) (w : World) (hr0 : Rd .i64 w A0 n0 c0 xs0) (hn0 : n0 ≤ 1048576)
    (hs : ∀ (B0 : Option Addr) (d0 : Nat) (w : World), Rd .i64 w B0 n0 d0 xs0 → Calls Try.prog 23 #[.slice B0 n0 d0, .int .i64 a1] w fun e w' => e = .returned (.tuple #[.int .i64 v, .int .i64 cd]) ∧ Below w.heap.size w w')
    (hi : ∀ (B0 : Option Addr) (d0 : Nat) (w : World), Rd .i64 w B0 n0 d0 xs0 → Calls Try.prog 24 #[.slice B0 n0 d0, .int .i64 a1] w fun e w' => e = .returned (.tuple #[.int .i64 v, .int .i64 cd]) ∧ Below w.heap.size w w') :
    Calls Try.prog 5 #[.slice A0 n0 c0, .int .i64 a1] w fun e w' => e = .returned (.bool true) ∧ Below w.heap.size w w' := by
  have HR0 := Lib.hid hr0
  have HS := Lib.hid hs
  have HI := Lib.hid hi
  have HB0 := Lib.hid (Below.refl w.heap.size w)
  clear hs hi hr0
  go_enter Try.func5, Try.ntmps5
  go_wp2_with fail
  refine (toInt64S_any _ _ _ _ _ (HR0.out.below HB0.out) hn0).mono ?_
  rintro e w1 ⟨rfl, ho0, hb⟩
  have HB1 := Lib.hid (bl_trans HB0.out hb)
  have G_s0 : Hid (∀ k, rowOf _ _ = some k → w.heap.size ≤ k) := Lib.hid (fun k hk => Nat.le_trans HB0.out.size ((OwnC.row_ge (OwnI.of_row ho0)) k hk).1)
  have O_s0_1 := Lib.hid (OwnI.of_row ho0)
  clear hb ho0
  go_wp2_with fail
  refine (HS.out _ _ _ O_s0_1.out.rd).mono ?_
  rintro e w2 ⟨rfl, hb⟩
  have HB2 := Lib.hid (bl_trans HB1.out hb)
  have O_s0_2 := Lib.hid (O_s0_1.out.below hb)
  clear hb HB1 O_s0_1
  clear O_s0_2
  go_wp2_with fail
  refine (toInt64S_any _ _ _ _ _ (HR0.out.below HB2.out) hn0).mono ?_
  rintro e w3 ⟨rfl, ho0, hb⟩
  have HB3 := Lib.hid (bl_trans HB2.out hb)
  have G_x0 : Hid (∀ k, rowOf _ _ = some k → w.heap.size ≤ k) := Lib.hid (fun k hk => Nat.le_trans HB2.out.size ((OwnC.row_ge (OwnI.of_row ho0)) k hk).1)
  have O_x0_3 := Lib.hid (OwnI.of_row ho0)
  clear hb HB2 ho0
  go_wp2_with fail
  refine (HI.out _ _ _ O_x0_3.out.rd).mono ?_
  rintro e w4 ⟨rfl, hb⟩
  have HB4 := Lib.hid (bl_trans HB3.out hb)
  have O_x0_4 := Lib.hid (O_x0_3.out.below hb)
  clear hb HB3 O_x0_3
  go_wp2_with fail
  refine (toInt64S_any _ _ _ _ _ (HR0.out.below HB4.out) hn0).mono ?_
  rintro e w5 ⟨rfl, ho0, hb⟩
  have HB5 := Lib.hid (bl_trans HB4.out hb)
  have S_x0_t0 := Lib.hid (own_sep O_x0_4.out (OwnI.of_row ho0) (Nat.le_refl _))
  have O_x0_5 := Lib.hid (O_x0_4.out.below hb)
  have G_t0 : Hid (∀ k, rowOf _ _ = some k → w.heap.size ≤ k) := Lib.hid (fun k hk => Nat.le_trans HB4.out.size ((OwnC.row_ge (OwnI.of_row ho0)) k hk).1)
  have O_t0_5 := Lib.hid (OwnI.of_row ho0)
  clear hb HB4 O_x0_4 ho0
  go_wp2_with fail
  refine ((eqInt64S_any _ _ _ _ _ _ _ O_x0_5.out.rd O_t0_5.out.rd).mono fun _ _ h => drawn_below h).mono ?_
  rintro e w6 ⟨rfl, hb⟩
  have HB6 := Lib.hid (bl_trans HB5.out hb)
  have O_x0_6 := Lib.hid (O_x0_5.out.below hb)
  have O_t0_6 := Lib.hid (O_t0_5.out.below hb)
  clear hb HB5 O_x0_5 O_t0_5
  clear O_t0_6
  go_wp2
  go_ret
  exact ⟨rfl, HB6.out⟩

theorem walkExactEvaluateAt (A0 : Option Addr) (n0 c0 : Nat) (xs0 : List Int) (a1 : Int) (w : World) (hr0 : IsRow .i64 w A0 n0 c0 xs0) (_ : (Lit.int .i64 a1).wf = true) :
    Calls Try.prog 5 #[.slice A0 n0 c0, .int .i64 a1] w fun e w' => e = .returned (.bool true) ∧ Below w.heap.size w w' := by
  have hm0 := hr0.2.1
  have hc0 := hr0.1
  unfold maxLen at hm0
  have R0 := Lib.hid hr0.rd
  clear hr0
  by_cases hn0 : n0 ≤ 1048576
  · exact lawExactEvaluateAt A0 n0 c0 xs0 a1 (evV xs0 a1) (evC xs0 a1)  w R0.out hn0 
      (fun _ _ _ h => specEvaluateAt_any _ _ _ _ _ _ h)
      (fun _ _ _ h => implEvaluateAt_any _ _ _ _ _ _ h)
  · go_enter Try.func5, Try.ntmps5
    go_wp2
    go_ret
    exact ⟨rfl, Below.refl _ _⟩

/-- the common divisor of the first k coefficients -/
def cont (xs : List Int) : Nat → Int
  | 0 => 0
  | k + 1 => (Int.gcd (cont xs k) (xs.getD k 0) : Nat)
theorem cont_v {xs : List Int} (h : POk xs) (k : Nat) (hk : k ≤ xs.length) : V (cont xs k) := by
  induction k with
  | zero => unfold cont V; omega
  | succ k ih =>
    unfold cont
    have h1 := ih (by omega)
    have h2 := h.2.1 k (by omega)
    have h3 := gcd_hi (cont xs k) (xs.getD k 0) h1 (by unfold V; omega)
    unfold V
    omega
def coV (xs : List Int) : Int := if POk xs then cont xs xs.length else 0
def coC (xs : List Int) : Int := if POk xs then 0 else 1

set_option maxHeartbeats 800000 in
theorem specContent_any (A : Option Addr) (n c : Nat) (xs : List Int) (w : World) (hr : Rd .i64 w A n c xs) (h : POk xs) :
    Calls Try.prog 59 #[.slice A n c] w fun e w' => e = .returned (.int .i64 (cont xs xs.length)) ∧ Below w.heap.size w w' := by
  have HR := Lib.hid hr
  have HL := Lib.hid hr.1
  have H := Lib.hid h
  have hn : n ≤ 9 := by have := h.1; have := hr.1; omega
  clear hr h
  go_enter Try.func59, Try.ntmps59
  go_wp2
  go_loopw [3, 4] (fun g j wr => ∃ (k m : Nat) (z : Int), k ≤ n ∧ j = .int .i64 k ∧ g = .int .i64 z ∧ Hid (z = cont xs k) ∧ wr = w.drewN m) (fun _ j _ => n - (intOf j).toNat)
  case atStart => exact ⟨0, 0, 0, Nat.zero_le _, rfl, rfl, Lib.hid rfl, rfl⟩
  case round =>
    obtain ⟨k, m, z, hk, rfl, rfl, HZ, rfl⟩ := hrel
    by_cases hlt : k < n
    · obtain ⟨b, off, rfl, hb, hcell⟩ := HR.out.2.2.2 (by omega)
      have hy := hcell k hlt
      have hy0 := H.out.2.1 k (by have := HL.out; omega)
      obtain ⟨y, hye⟩ : ∃ y, y = xs.getD k 0 := ⟨_, rfl⟩
      rw [← hye] at hy hy0
      have HVZ : Hid (Wd z) := Lib.hid (by rw [HZ.out]; exact (cont_v H.out k (by have := HL.out; omega)).wd)
      have HVY : Hid (Wd y) := Lib.hid (by unfold Wd; omega)
      have HN : Hid ((Int.gcd z y : Int) = cont xs (k + 1)) := Lib.hid (by rw [HZ.out, hye]; rfl)
      clear hye hcell hy0
      go_wp2_with (go_at_call 89; refine (l01Gcd_any _ _ HVZ.out HVY.out _).mono ?_; rintro e w' ⟨rfl, q, rfl⟩)
      go_roundw
      case rel => exact ⟨k + 1, m + q, _, by omega, by go_num, rfl, HN, rfl⟩
      case measure => simp [intOf]; omega
    · go_wp2
      go_ret
      exact ⟨ret_int (by rw [HZ.out, HL.out, show k = n by omega]), below_drewN (Below.refl _ _) _⟩

set_option maxHeartbeats 400000 in
theorem specContentOf_any (A : Option Addr) (n c : Nat) (xs : List Int) (w : World) (hr : Rd .i64 w A n c xs) :
    Calls Try.prog 25 #[.slice A n c] w fun e w' => e = .returned (.tuple #[.int .i64 (coV xs), .int .i64 (coC xs)]) ∧ Below w.heap.size w w' := by
  have HR := Lib.hid hr
  clear hr
  by_cases h : POk xs
  · have H := Lib.hid h
    have HE : Hid (coV xs = cont xs xs.length ∧ coC xs = 0) := Lib.hid (by unfold coV coC; rw [if_pos h, if_pos h]; exact ⟨rfl, rfl⟩)
    clear h
    go_enter Try.func25, Try.ntmps25
    go_wp2_with (first | (go_at_call 54; refine (specIsPolynomial_yes _ _ _ _ _ HR.out H.out).mono ?_; rintro e w' ⟨rfl, rfl⟩) | (go_at_call 59; refine (specContent_any _ _ _ _ _ HR.out H.out).mono ?_; rintro e w1 ⟨rfl, hb⟩; have HB := Lib.hid hb; clear hb))
    go_ret2
    exact ⟨by rw [HE.out.1, HE.out.2]; rfl, HB.out⟩
  · have H := Lib.hid h
    have HE : Hid (coV xs = 0 ∧ coC xs = 1) := Lib.hid (by unfold coV coC; rw [if_neg h, if_neg h]; exact ⟨rfl, rfl⟩)
    clear h
    go_enter Try.func25, Try.ntmps25
    go_wp2_with (first | (go_at_call 54; refine (specIsPolynomial_no _ _ _ _ _ HR.out H.out).mono ?_; rintro e w' ⟨rfl, rfl⟩))
    go_ret2
    exact ⟨by rw [HE.out.1, HE.out.2]; rfl, Below.refl _ _⟩

set_option maxHeartbeats 800000 in
theorem implContent_any (A : Option Addr) (n c : Nat) (xs : List Int) (w : World) (hr : Rd .i64 w A n c xs) (h : POk xs) :
    Calls Try.prog 60 #[.slice A n c] w fun e w' => e = .returned (.int .i64 (cont xs xs.length)) ∧ Below w.heap.size w w' := by
  have HR := Lib.hid hr
  have HL := Lib.hid hr.1
  have H := Lib.hid h
  have hn : n ≤ 9 := by have := h.1; have := hr.1; omega
  clear hr h
  go_enter Try.func60, Try.ntmps60
  go_wp2
  go_loopw [3, 8] (fun g j wr => ∃ (k m : Nat) (z : Int), k ≤ n ∧ j = .int .i64 k ∧ g = .int .i64 z ∧ Hid (z = cont xs k) ∧ wr = w.drewN m) (fun _ j _ => n - (intOf j).toNat)
  case atStart => exact ⟨0, 0, 0, Nat.zero_le _, rfl, rfl, Lib.hid rfl, rfl⟩
  case round =>
    obtain ⟨k, m, z, hk, rfl, rfl, HZ, rfl⟩ := hrel
    by_cases hlt : k < n
    · obtain ⟨b, off, rfl, hb, hcell⟩ := HR.out.2.2.2 (by omega)
      have hy := hcell k hlt
      have hy0 := H.out.2.1 k (by have := HL.out; omega)
      obtain ⟨y, hye⟩ : ∃ y, y = xs.getD k 0 := ⟨_, rfl⟩
      rw [← hye] at hy hy0
      have HVZ : Hid (Wd z) := Lib.hid (by rw [HZ.out]; exact (cont_v H.out k (by have := HL.out; omega)).wd)
      have HVY : Hid (Wd y) := Lib.hid (by unfold Wd; omega)
      have HN : Hid ((Int.gcd z y : Int) = cont xs (k + 1)) := Lib.hid (by rw [HZ.out, hye]; rfl)
      clear hye hcell hy0
      go_wp2_with (go_at_call 90; refine (gcd_any _ _ HVZ.out HVY.out _).mono ?_; rintro e w' ⟨rfl, q, rfl⟩)
      go_roundw
      case rel => exact ⟨k + 1, m + q, _, by omega, by go_num, rfl, HN, rfl⟩
      case measure => simp [intOf]; omega
    · go_wp2
      go_ret
      exact ⟨ret_int (by rw [HZ.out, HL.out, show k = n by omega]), below_drewN (Below.refl _ _) _⟩

set_option maxHeartbeats 400000 in
theorem implContentOf_any (A : Option Addr) (n c : Nat) (xs : List Int) (w : World) (hr : Rd .i64 w A n c xs) :
    Calls Try.prog 26 #[.slice A n c] w fun e w' => e = .returned (.tuple #[.int .i64 (coV xs), .int .i64 (coC xs)]) ∧ Below w.heap.size w w' := by
  have HR := Lib.hid hr
  clear hr
  by_cases h : POk xs
  · have H := Lib.hid h
    have HE : Hid (coV xs = cont xs xs.length ∧ coC xs = 0) := Lib.hid (by unfold coV coC; rw [if_pos h, if_pos h]; exact ⟨rfl, rfl⟩)
    clear h
    go_enter Try.func26, Try.ntmps26
    go_wp2_with (first | (go_at_call 56; refine (implIsPolynomial_yes _ _ _ _ _ HR.out H.out).mono ?_; rintro e w' ⟨rfl, rfl⟩) | (go_at_call 60; refine (implContent_any _ _ _ _ _ HR.out H.out).mono ?_; rintro e w1 ⟨rfl, hb⟩; have HB := Lib.hid hb; clear hb))
    go_ret2
    exact ⟨by rw [HE.out.1, HE.out.2]; rfl, HB.out⟩
  · have H := Lib.hid h
    have HE : Hid (coV xs = 0 ∧ coC xs = 1) := Lib.hid (by unfold coV coC; rw [if_neg h, if_neg h]; exact ⟨rfl, rfl⟩)
    clear h
    go_enter Try.func26, Try.ntmps26
    go_wp2_with (first | (go_at_call 56; refine (implIsPolynomial_no _ _ _ _ _ HR.out H.out).mono ?_; rintro e w' ⟨rfl, rfl⟩))
    go_ret2
    exact ⟨by rw [HE.out.1, HE.out.2]; rfl, Below.refl _ _⟩

set_option maxHeartbeats 4000000 in
theorem lawExactContentOf (A0 : Option Addr) (n0 c0 : Nat) (xs0 : List Int) (v cd : Int) (w : World) (hr0 : Rd .i64 w A0 n0 c0 xs0) (hn0 : n0 ≤ 1048576)
    (hs : ∀ (B0 : Option Addr) (d0 : Nat) (w : World), Rd .i64 w B0 n0 d0 xs0 → Calls Try.prog 25 #[.slice B0 n0 d0] w fun e w' => e = .returned (.tuple #[.int .i64 v, .int .i64 cd]) ∧ Below w.heap.size w w')
    (hi : ∀ (B0 : Option Addr) (d0 : Nat) (w : World), Rd .i64 w B0 n0 d0 xs0 → Calls Try.prog 26 #[.slice B0 n0 d0] w fun e w' => e = .returned (.tuple #[.int .i64 v, .int .i64 cd]) ∧ Below w.heap.size w w') :
    Calls Try.prog 6 #[.slice A0 n0 c0] w fun e w' => e = .returned (.bool true) ∧ Below w.heap.size w w' := by
  have HR0 := Lib.hid hr0
  have HS := Lib.hid hs
  have HI := Lib.hid hi
  have HB0 := Lib.hid (Below.refl w.heap.size w)
  clear hs hi hr0
  go_enter Try.func6, Try.ntmps6
  go_wp2_with fail
  refine (toInt64S_any _ _ _ _ _ (HR0.out.below HB0.out) hn0).mono ?_
  rintro e w1 ⟨rfl, ho0, hb⟩
  have HB1 := Lib.hid (bl_trans HB0.out hb)
  have G_s0 : Hid (∀ k, rowOf _ _ = some k → w.heap.size ≤ k) := Lib.hid (fun k hk => Nat.le_trans HB0.out.size ((OwnC.row_ge (OwnI.of_row ho0)) k hk).1)
  have O_s0_1 := Lib.hid (OwnI.of_row ho0)
  clear hb ho0
  go_wp2_with fail
  refine (HS.out _ _ _ O_s0_1.out.rd).mono ?_
  rintro e w2 ⟨rfl, hb⟩
  have HB2 := Lib.hid (bl_trans HB1.out hb)
  have O_s0_2 := Lib.hid (O_s0_1.out.below hb)
  clear hb HB1 O_s0_1
  clear O_s0_2
  go_wp2_with fail
  refine (toInt64S_any _ _ _ _ _ (HR0.out.below HB2.out) hn0).mono ?_
  rintro e w3 ⟨rfl, ho0, hb⟩
  have HB3 := Lib.hid (bl_trans HB2.out hb)
  have G_x0 : Hid (∀ k, rowOf _ _ = some k → w.heap.size ≤ k) := Lib.hid (fun k hk => Nat.le_trans HB2.out.size ((OwnC.row_ge (OwnI.of_row ho0)) k hk).1)
  have O_x0_3 := Lib.hid (OwnI.of_row ho0)
  clear hb HB2 ho0
  go_wp2_with fail
  refine (HI.out _ _ _ O_x0_3.out.rd).mono ?_
  rintro e w4 ⟨rfl, hb⟩
  have HB4 := Lib.hid (bl_trans HB3.out hb)
  have O_x0_4 := Lib.hid (O_x0_3.out.below hb)
  clear hb HB3 O_x0_3
  go_wp2_with fail
  refine (toInt64S_any _ _ _ _ _ (HR0.out.below HB4.out) hn0).mono ?_
  rintro e w5 ⟨rfl, ho0, hb⟩
  have HB5 := Lib.hid (bl_trans HB4.out hb)
  have S_x0_t0 := Lib.hid (own_sep O_x0_4.out (OwnI.of_row ho0) (Nat.le_refl _))
  have O_x0_5 := Lib.hid (O_x0_4.out.below hb)
  have G_t0 : Hid (∀ k, rowOf _ _ = some k → w.heap.size ≤ k) := Lib.hid (fun k hk => Nat.le_trans HB4.out.size ((OwnC.row_ge (OwnI.of_row ho0)) k hk).1)
  have O_t0_5 := Lib.hid (OwnI.of_row ho0)
  clear hb HB4 O_x0_4 ho0
  go_wp2_with fail
  refine ((eqInt64S_any _ _ _ _ _ _ _ O_x0_5.out.rd O_t0_5.out.rd).mono fun _ _ h => drawn_below h).mono ?_
  rintro e w6 ⟨rfl, hb⟩
  have HB6 := Lib.hid (bl_trans HB5.out hb)
  have O_x0_6 := Lib.hid (O_x0_5.out.below hb)
  have O_t0_6 := Lib.hid (O_t0_5.out.below hb)
  clear hb HB5 O_x0_5 O_t0_5
  clear O_t0_6
  go_wp2
  go_ret
  exact ⟨rfl, HB6.out⟩

theorem walkExactContentOf (A0 : Option Addr) (n0 c0 : Nat) (xs0 : List Int) (w : World) (hr0 : IsRow .i64 w A0 n0 c0 xs0) :
    Calls Try.prog 6 #[.slice A0 n0 c0] w fun e w' => e = .returned (.bool true) ∧ Below w.heap.size w w' := by
  have hm0 := hr0.2.1
  have hc0 := hr0.1
  unfold maxLen at hm0
  have R0 := Lib.hid hr0.rd
  clear hr0
  by_cases hn0 : n0 ≤ 1048576
  · exact lawExactContentOf A0 n0 c0 xs0 (coV xs0) (coC xs0)  w R0.out hn0 
      (fun _ _ _ h => specContentOf_any _ _ _ _ _ h)
      (fun _ _ _ h => implContentOf_any _ _ _ _ _ h)
  · go_enter Try.func6, Try.ntmps6
    go_wp2
    go_ret
    exact ⟨rfl, Below.refl _ _⟩

end Go.Proofs.Ythnnihjiojhbiaa