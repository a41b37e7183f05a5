
/- The walks of the value and of the content of a polynomial, and of the laws over EvaluateAt and ContentOf. -/
import Derived.Test.YthdmanngjnfamaaOwn
import Derived.Test.YthdmanngjnfamaaCopy
import Derived.Test.YthdmanngjnfamaaTab
namespace Go.Proofs.Ythdmanngjnfamaa
open Go.RowKit

/-- Horner's value of the coefficients -/
def hv (x : Int) : List Int → Int
  | [] => 0
  | c :: cs => hv x cs * x + c
theorem drop_cons {xs : List Int} {k : Nat} (h : k < xs.length) : xs.drop k = xs.getD k 0 :: xs.drop (k + 1) := by
  rw [List.drop_eq_getElem_cons h]
  simp [List.getD, h]
theorem hv_step {x : Int} {xs : List Int} {k : Nat} (h : k < xs.length) : hv x (xs.drop k) = hv x (xs.drop (k + 1)) * x + xs.getD k 0 := by
  rw [drop_cons h]; rfl
/-- what is no value stays none towards the front -/
theorem hv_grow {x : Int} {xs : List Int} (hp : ∀ i, i < xs.length → -1000000 ≤ xs.getD i 0 ∧ xs.getD i 0 ≤ 1000000) :
    ∀ (d k : Nat), k + d = xs.length → (x.natAbs ≤ 1 → (hv x (xs.drop k)).natAbs ≤ d * 1000000) := by
  intro d
  induction d with
  | zero => intro k hk _; rw [List.drop_of_length_le (by omega)]; simp [hv]
  | succ d ih =>
    intro k hk hx
    rw [hv_step (by omega)]
    have h1 := ih (k + 1) (by omega) hx
    have h2 := hp k (by omega)
    have h3 : (hv x (xs.drop (k + 1)) * x).natAbs ≤ d * 1000000 := by
      rw [Int.natAbs_mul]
      have : (hv x (xs.drop (k + 1))).natAbs * x.natAbs ≤ (d * 1000000) * 1 := Nat.mul_le_mul h1 hx
      omega
    generalize hv x (xs.drop (k + 1)) * x = z at *
    omega
theorem hv_far {x : Int} {xs : List Int} (hp : ∀ i, i < xs.length → -1000000 ≤ xs.getD i 0 ∧ xs.getD i 0 ≤ 1000000) (hl : xs.length ≤ 9) :
    ∀ k, k ≤ xs.length → ¬ V (hv x (xs.drop k)) → ¬ V (hv x xs) := by
  intro k
  induction k with
  | zero => intro _ h; exact h
  | succ k ih =>
    intro hk h
    apply ih (by omega)
    intro hv0
    apply h
    by_cases hx : x.natAbs ≤ 1
    · have := hv_grow hp (xs.length - (k + 1)) (k + 1) (by omega) hx
      unfold V
      omega
    · rw [hv_step (by omega)] at hv0
      have h2 := hp k (by omega)
      unfold V at hv0 ⊢
      have h3 : (hv x (xs.drop (k + 1)) * x).natAbs ≤ 1000001000000 := by
        generalize hv x (xs.drop (k + 1)) * x = z at *
        omega
      rw [Int.natAbs_mul] at h3
      have h4 : (hv x (xs.drop (k + 1))).natAbs * 2 ≤ (hv x (xs.drop (k + 1))).natAbs * x.natAbs := Nat.mul_le_mul_left _ (by omega)
      omega
instance (n : Int) : Decidable (V n) := by unfold V; infer_instance
/-- what EvaluateAt gives -/
def evV (xs : List Int) (x : Int) : Int := if POk xs ∧ (-1000 ≤ x ∧ x ≤ 1000) ∧ V (hv x xs) then hv x xs else 0
def evC (xs : List Int) (x : Int) : Int := if POk xs then (if -1000 ≤ x ∧ x ≤ 1000 then (if V (hv x xs) then 0 else 3) else 2) else 1
theorem mulx_bd {z x : Int} (z1 : -4000000000000 ≤ z) (z2 : z ≤ 4000000000000) (x1 : -1000 ≤ x) (x2 : x ≤ 1000) : -4000000000000000 ≤ z * x ∧ z * x ≤ 4000000000000000 := by
  have h : (z * x).natAbs ≤ 4000000000000 * 1000 := by
    rw [Int.natAbs_mul]
    exact Nat.mul_le_mul (by omega) (by omega)
  generalize z * x = y at *
  omega
theorem isArgument_any (n : Int) (w : World) :
    Calls Try.prog 104 #[.int .i64 n] w fun e w' => e = .returned (.bool (decide (-1000 ≤ n) && decide (n ≤ 1000))) ∧ w = w' := by
  go_enter Try.func104, Try.ntmps104
  go_wp2_with (first | (go_at_call 92; refine (within_any _ _ _ _).mono ?_; rintro e w' ⟨rfl, rfl⟩))
  go_ret
  exact ⟨rfl, rfl⟩

set_option maxHeartbeats 1600000 in
theorem specEvaluateAt_any (A : Option Addr) (n c : Nat) (xs : List Int) (x : Int) (w : World) (hr : Rd .i64 w A n c xs) :
    Calls Try.prog 38 #[.slice A n c, .int .i64 x] w fun e w' => e = .returned (.tuple #[.int .i64 (evV xs x), .int .i64 (evC xs x)]) ∧ Below w.heap.size w w' := by
  have HR := Lib.hid hr
  have HL := Lib.hid hr.1
  clear hr
  by_cases h : POk xs
  · have H := Lib.hid h
    by_cases hx : -1000 ≤ x ∧ x ≤ 1000
    · obtain ⟨x1, x2⟩ := hx
      have hn : n ≤ 9 := by have := h.1; have := HL.out; omega
      have HV : Hid (evV xs x = (if V (hv x xs) then hv x xs else 0) ∧ evC xs x = (if V (hv x xs) then 0 else 3)) := Lib.hid (by
        refine ⟨?_, by unfold evC; rw [if_pos h, if_pos ⟨x1, x2⟩]⟩
        unfold evV
        by_cases hv' : V (hv x xs)
        · rw [if_pos ⟨h, ⟨x1, x2⟩, hv'⟩, if_pos hv']
        · rw [if_neg (fun h' => hv' h'.2.2), if_neg hv'])
      clear h
      go_enter Try.func38, Try.ntmps38
      go_wp2_with (first | (go_at_call 41; refine (specIsPolynomial_yes _ _ _ _ _ HR.out H.out).mono ?_; rintro e w' ⟨rfl, rfl⟩) | (go_at_call 94; refine (l01In_any _ _ _ _).mono ?_; rintro e w' ⟨rfl, rfl⟩))
      go_loop [6, 7] (fun s i => ∃ (k : Nat) (z : Int), k ≤ n ∧ i = .int .i64 (k - 1) ∧ s = .int .i64 z ∧ -4000000000000 ≤ z ∧ z ≤ 4000000000000 ∧ Hid (z = hv x (xs.drop k))) (fun _ i => (intOf i + 1).toNat)
      case atStart => exact ⟨n, 0, Nat.le_refl _, by go_num, rfl, by omega, by omega, Lib.hid (by rw [List.drop_of_length_le (by have := HL.out; omega)]; rfl)⟩
      case round =>
        obtain ⟨k, z, hk, rfl, rfl, z1, z2, HZ⟩ := hrel
        rcases Nat.eq_zero_or_pos k with h0 | h0
        · subst h0
          have HZ2 : Hid (z = hv x xs) := HZ
          by_cases hv1 : V z
          · have HV1 := Lib.hid hv1
            obtain ⟨v1, v2⟩ := hv1
            go_wp2_with (first | (go_at_call 85; refine (l01Is_any _ _).mono ?_; rintro e w' ⟨rfl, rfl⟩))
            go_ret2
            exact ⟨by rw [HV.out.1, HV.out.2, ← HZ2.out, if_pos HV1.out, if_pos HV1.out]; rfl, Below.refl _ _⟩
          · have HV1 := Lib.hid hv1
            have hd := V_dec hv1
            clear hv1
            go_wp2_with (first | (go_at_call 85; refine (l01Is_any _ _).mono ?_; rintro e w' ⟨rfl, rfl⟩))
            go_ret2
            exact ⟨by rw [HV.out.1, HV.out.2, ← HZ2.out, if_neg HV1.out, if_neg HV1.out]; rfl, Below.refl _ _⟩
        · obtain ⟨j, hj⟩ : ∃ j, j = k - 1 := ⟨_, rfl⟩
          have hkj : (k : Int) - 1 = (j : Int) := by omega
          have hjn : j < n := by omega
          obtain ⟨b, off, rfl, hb, hcell⟩ := HR.out.2.2.2 (by omega)
          have hy := hcell j hjn
          have hy0 := H.out.2.1 j (by have := HL.out; omega)
          obtain ⟨y, hye⟩ : ∃ y, y = xs.getD j 0 := ⟨_, rfl⟩
          rw [← hye] at hy hy0
          obtain ⟨y1, y2⟩ := hy0
          have ⟨m1, m2⟩ := mulx_bd (z := z) (by omega) (by omega) x1 x2
          have HN : Hid (z * x + y = hv x (xs.drop j)) := Lib.hid (by rw [hv_step (by have := HL.out; omega), ← hye, ← show k = j + 1 by omega, ← HZ.out])
          have HJ := Lib.hid hj
          rw [hkj]
          clear hye hcell hj hkj
          by_cases hin : -4000000000000 ≤ z * x + y ∧ z * x + y ≤ 4000000000000
          · obtain ⟨i1, i2⟩ := hin
            go_wp2_with (first | (go_at_call 94; refine (l01In_any _ _ _ _).mono ?_; rintro e w' ⟨rfl, rfl⟩))
            go_round
            case rel => exact ⟨j, z * x + y, by omega, by go_num, rfl, i1, i2, HN⟩
            case measure => simp only [intOf]; omega
          · have hd : (decide (-4000000000000 ≤ z * x + y) && decide (z * x + y ≤ 4000000000000)) = false := by simp only [Bool.and_eq_false_iff, decide_eq_false_iff_not]; omega
            have HW : Hid (¬ V (hv x xs)) := Lib.hid (hv_far H.out.2.1 H.out.1 j (by have := HL.out; omega) (by rw [← HN.out]; unfold V; omega))
            clear hin
            go_wp2_with (first | (go_at_call 94; refine (l01In_any _ _ _ _).mono ?_; rintro e w' ⟨rfl, rfl⟩))
            go_ret2
            exact ⟨by rw [HV.out.1, HV.out.2, if_neg HW.out, if_neg HW.out]; rfl, Below.refl _ _⟩
    · have HE : Hid (evV xs x = 0 ∧ evC xs x = 2) := Lib.hid (by
        exact ⟨by unfold evV; rw [if_neg (fun h' => hx h'.2.1)], by unfold evC; rw [if_pos h, if_neg hx]⟩)
      have hd : (decide (-1000 ≤ x) && decide (x ≤ 1000)) = false := by simp only [Bool.and_eq_false_iff, decide_eq_false_iff_not]; omega
      clear hx h
      go_enter Try.func38, Try.ntmps38
      go_wp2_with (first | (go_at_call 41; refine (specIsPolynomial_yes _ _ _ _ _ HR.out H.out).mono ?_; rintro e w' ⟨rfl, rfl⟩) | (go_at_call 94; refine (l01In_any _ _ _ _).mono ?_; rintro e w' ⟨rfl, rfl⟩))
      go_ret2
      exact ⟨by rw [HE.out.1, HE.out.2]; rfl, Below.refl _ _⟩
  · have H := Lib.hid h
    have HE : Hid (evV xs x = 0 ∧ evC xs x = 1) := Lib.hid (by
      exact ⟨by unfold evV; rw [if_neg (fun h' => h h'.1)], by unfold evC; rw [if_neg h]⟩)
    clear h
    go_enter Try.func38, Try.ntmps38
    go_wp2_with (first | (go_at_call 41; refine (specIsPolynomial_no _ _ _ _ _ HR.out H.out).mono ?_; rintro e w' ⟨rfl, rfl⟩))
    go_ret2
    exact ⟨by rw [HE.out.1, HE.out.2]; rfl, Below.refl _ _⟩

set_option maxHeartbeats 1600000 in
theorem implEvaluateAt_any (A : Option Addr) (n c : Nat) (xs : List Int) (x : Int) (w : World) (hr : Rd .i64 w A n c xs) :
    Calls Try.prog 37 #[.slice A n c, .int .i64 x] w fun e w' => e = .returned (.tuple #[.int .i64 (evV xs x), .int .i64 (evC xs x)]) ∧ Below w.heap.size w w' := by
  have HR := Lib.hid hr
  have HL := Lib.hid hr.1
  clear hr
  by_cases h : POk xs
  · have H := Lib.hid h
    by_cases hx : -1000 ≤ x ∧ x ≤ 1000
    · obtain ⟨x1, x2⟩ := hx
      have hn : n ≤ 9 := by have := h.1; have := HL.out; omega
      have HV : Hid (evV xs x = (if V (hv x xs) then hv x xs else 0) ∧ evC xs x = (if V (hv x xs) then 0 else 3)) := Lib.hid (by
        refine ⟨?_, by unfold evC; rw [if_pos h, if_pos ⟨x1, x2⟩]⟩
        unfold evV
        by_cases hv' : V (hv x xs)
        · rw [if_pos ⟨h, ⟨x1, x2⟩, hv'⟩, if_pos hv']
        · rw [if_neg (fun h' => hv' h'.2.2), if_neg hv'])
      clear h
      go_enter Try.func37, Try.ntmps37
      go_wp2_with (first | (go_at_call 40; refine (implIsPolynomial_yes _ _ _ _ _ HR.out H.out).mono ?_; rintro e w' ⟨rfl, rfl⟩) | (go_at_call 104; refine (isArgument_any _ _).mono ?_; rintro e w' ⟨rfl, rfl⟩))
      go_loop [6, 7] (fun s i => ∃ (k : Nat) (z : Int), k ≤ n ∧ i = .int .i64 (k - 1) ∧ s = .int .i64 z ∧ -1000000000000 ≤ z ∧ z ≤ 1000000000000 ∧ Hid (z = hv x (xs.drop k))) (fun _ i => (intOf i + 1).toNat)
      case atStart => exact ⟨n, 0, Nat.le_refl _, by go_num, rfl, by omega, by omega, Lib.hid (by rw [List.drop_of_length_le (by have := HL.out; omega)]; rfl)⟩
      case round =>
        obtain ⟨k, z, hk, rfl, rfl, z1, z2, HZ⟩ := hrel
        rcases Nat.eq_zero_or_pos k with h0 | h0
        · subst h0
          have HZ2 : Hid (z = hv x xs) := HZ
          by_cases hv1 : V z
          · have HV1 := Lib.hid hv1
            obtain ⟨v1, v2⟩ := hv1
            go_wp2
            go_ret2
            exact ⟨by rw [HV.out.1, HV.out.2, ← HZ2.out, if_pos HV1.out, if_pos HV1.out]; rfl, Below.refl _ _⟩
          · exact absurd ⟨z1, z2⟩ hv1
        · obtain ⟨j, hj⟩ : ∃ j, j = k - 1 := ⟨_, rfl⟩
          have hkj : (k : Int) - 1 = (j : Int) := by omega
          have hjn : j < n := by omega
          obtain ⟨b, off, rfl, hb, hcell⟩ := HR.out.2.2.2 (by omega)
          have hy := hcell j hjn
          have hy0 := H.out.2.1 j (by have := HL.out; omega)
          obtain ⟨y, hye⟩ : ∃ y, y = xs.getD j 0 := ⟨_, rfl⟩
          rw [← hye] at hy hy0
          obtain ⟨y1, y2⟩ := hy0
          have ⟨m1, m2⟩ := mulx_bd (z := z) (by omega) (by omega) x1 x2
          have HN : Hid (z * x + y = hv x (xs.drop j)) := Lib.hid (by rw [hv_step (by have := HL.out; omega), ← hye, ← show k = j + 1 by omega, ← HZ.out])
          have HJ := Lib.hid hj
          rw [hkj]
          clear hye hcell hj hkj
          by_cases hin : -1000000000000 ≤ z * x + y ∧ z * x + y ≤ 1000000000000
          · obtain ⟨i1, i2⟩ := hin
            go_wp2_with (first | (go_at_call 84; refine (isValue_any _ _).mono ?_; rintro e w' ⟨rfl, rfl⟩))
            go_round
            case rel => exact ⟨j, z * x + y, by omega, by go_num, rfl, i1, i2, HN⟩
            case measure => simp only [intOf]; omega
          · have hd : (decide (-1000000000000 ≤ z * x + y) && decide (z * x + y ≤ 1000000000000)) = false := by simp only [Bool.and_eq_false_iff, decide_eq_false_iff_not]; omega
            have HW : Hid (¬ V (hv x xs)) := Lib.hid (hv_far H.out.2.1 H.out.1 j (by have := HL.out; omega) (by rw [← HN.out]; unfold V; omega))
            clear hin
            go_wp2_with (first | (go_at_call 84; refine (isValue_any _ _).mono ?_; rintro e w' ⟨rfl, rfl⟩))
            go_ret2
            exact ⟨by rw [HV.out.1, HV.out.2, if_neg HW.out, if_neg HW.out]; rfl, Below.refl _ _⟩
    · have HE : Hid (evV xs x = 0 ∧ evC xs x = 2) := Lib.hid (by
        exact ⟨by unfold evV; rw [if_neg (fun h' => hx h'.2.1)], by unfold evC; rw [if_pos h, if_neg hx]⟩)
      have hd : (decide (-1000 ≤ x) && decide (x ≤ 1000)) = false := by simp only [Bool.and_eq_false_iff, decide_eq_false_iff_not]; omega
      clear hx h
      go_enter Try.func37, Try.ntmps37
      go_wp2_with (first | (go_at_call 40; refine (implIsPolynomial_yes _ _ _ _ _ HR.out H.out).mono ?_; rintro e w' ⟨rfl, rfl⟩) | (go_at_call 104; refine (isArgument_any _ _).mono ?_; rintro e w' ⟨rfl, rfl⟩))
      go_ret2
      exact ⟨by rw [HE.out.1, HE.out.2]; rfl, Below.refl _ _⟩
  · have H := Lib.hid h
    have HE : Hid (evV xs x = 0 ∧ evC xs x = 1) := Lib.hid (by
      exact ⟨by unfold evV; rw [if_neg (fun h' => h h'.1)], by unfold evC; rw [if_neg h]⟩)
    clear h
    go_enter Try.func37, Try.ntmps37
    go_wp2_with (first | (go_at_call 40; refine (implIsPolynomial_no _ _ _ _ _ HR.out H.out).mono ?_; rintro e w' ⟨rfl, rfl⟩))
    go_ret2
    exact ⟨by rw [HE.out.1, HE.out.2]; rfl, Below.refl _ _⟩

/-- the common divisor of the first k coefficients -/
def cont (xs : List Int) : Nat → Int
  | 0 => 0
  | k + 1 => (Int.gcd (cont xs k) (xs.getD k 0) : Nat)
theorem cont_v {xs : List Int} (h : POk xs) (k : Nat) (hk : k ≤ xs.length) : V (cont xs k) := by
  induction k with
  | zero => unfold cont V; omega
  | succ k ih =>
    unfold cont
    have h1 := ih (by omega)
    have h2 := h.2.1 k (by omega)
    have h3 := gcd_hi (cont xs k) (xs.getD k 0) h1 (by unfold V; omega)
    unfold V
    omega
def coV (xs : List Int) : Int := if POk xs then cont xs xs.length else 0
def coC (xs : List Int) : Int := if POk xs then 0 else 1

end Go.Proofs.Ythdmanngjnfamaa