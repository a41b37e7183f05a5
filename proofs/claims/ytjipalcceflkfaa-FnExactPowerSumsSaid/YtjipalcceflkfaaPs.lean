
/- Sums of powers, plain. -/
namespace Go.Proofs.Ytjipalcceflkfaa

/-- c(1) s(k-1) + .. + c(i) s(k-i) -/
def psA (c s : Nat → Int) (k : Nat) : Nat → Int
  | 0 => 0
  | i + 1 => psA c s k i + c (i + 1) * s (k - (i + 1))
/-- the coefficient of x^(n-i) -/
def psC (xs : List Int) (n i : Nat) : Int := xs.getD (n - i) 0
/-- the sum of powers that follows the list L -/
def psN (xs : List Int) (n : Nat) (L : List Int) : Int := -(psA (psC xs n) (fun j => L.getD (j - 1) 0) (L.length + 1) (min L.length n) + if L.length + 1 ≤ n then (L.length + 1 : Int) * psC xs n (L.length + 1) else 0)
/-- the first k sums of powers -/
def psL (xs : List Int) (n : Nat) : Nat → List Int
  | 0 => []
  | k + 1 => psL xs n k ++ [psN xs n (psL xs n k)]
theorem psL_len (xs : List Int) (n k : Nat) : (psL xs n k).length = k := by
  induction k with
  | zero => rfl
  | succ k ih => unfold psL; rw [List.length_append, ih]; rfl
/-- the sum of absolute values -/
def sA : List Int → Nat
  | [] => 0
  | x :: l => x.natAbs + sA l
theorem sA_app (l m : List Int) : sA (l ++ m) = sA l + sA m := by
  induction l with
  | nil => simp [sA]
  | cons x l ih => simp only [List.cons_append, sA, ih]; omega
theorem sA_drop (L : List Int) (i : Nat) (h : i < L.length) : sA (L.drop i) = (L.getD i 0).natAbs + sA (L.drop (i + 1)) := by
  rw [List.drop_eq_getElem_cons h]
  simp [sA, List.getD, h]
theorem sA_le (L : List Int) (i : Nat) : sA (L.drop i) ≤ sA L := by
  have := sA_app (L.take i) (L.drop i)
  rw [List.take_append_drop] at this
  omega
theorem cs_bd {c s : Int} (h : c.natAbs ≤ 60) : (c * s).natAbs ≤ 60 * s.natAbs := by
  rw [Int.natAbs_mul]
  exact Nat.mul_le_mul_right _ h
theorem psA_bd {c : Nat → Int} (L : List Int) (hc : ∀ i, (c i).natAbs ≤ 60) : ∀ i, i ≤ L.length → (psA c (fun j => L.getD (j - 1) 0) (L.length + 1) i).natAbs ≤ 60 * sA (L.drop (L.length - i))
  | 0, _ => by simp [psA]
  | i + 1, h => by
    have h1 := psA_bd L hc i (by omega)
    have h2 := sA_drop L (L.length - (i + 1)) (by omega)
    rw [show L.length - (i + 1) + 1 = L.length - i by omega] at h2
    rw [h2]
    unfold psA
    have h3 := cs_bd (s := L.getD (L.length - (i + 1)) 0) (hc (i + 1))
    have e : L.length + 1 - (i + 1) - 1 = L.length - (i + 1) := by omega
    simp only [e]
    have h4 := Int.natAbs_add_le (psA c (fun j => L.getD (j - 1) 0) (L.length + 1) i) (c (i + 1) * L.getD (L.length - (i + 1)) 0)
    omega
theorem psA_bd' {c : Nat → Int} (L : List Int) (hc : ∀ i, (c i).natAbs ≤ 60) (i : Nat) (h : i ≤ L.length) : (psA c (fun j => L.getD (j - 1) 0) (L.length + 1) i).natAbs ≤ 60 * sA L :=
  Nat.le_trans (psA_bd L hc i h) (Nat.mul_le_mul_left _ (sA_le _ _))
theorem psN_bd {xs : List Int} {n : Nat} (L : List Int) (hc : ∀ i, (psC xs n i).natAbs ≤ 60) : (psN xs n L).natAbs ≤ 60 * sA L + 60 * (L.length + 1) := by
  unfold psN
  have h1 := psA_bd' L hc (min L.length n) (by omega)
  have h2 := Int.natAbs_mul (L.length + 1 : Int) (psC xs n (L.length + 1))
  have h3 := hc (L.length + 1)
  have h4 : (L.length + 1 : Int).natAbs * (psC xs n (L.length + 1)).natAbs ≤ (L.length + 1) * 60 := Nat.mul_le_mul (by omega) h3
  split <;> omega
/-- bounds of the sums of absolute values -/
def psB : Nat → Nat
  | 0 => 0
  | 1 => 60
  | 2 => 3780
  | 3 => 230760
  | 4 => 14076600
  | 5 => 858672900
  | _ => 52379047260
theorem psL_bd {xs : List Int} {n : Nat} (hc : ∀ i, (psC xs n i).natAbs ≤ 60) : ∀ k, k ≤ 6 → sA (psL xs n k) ≤ psB k
  | 0, _ => by simp [psL, sA]
  | k + 1, hk => by
    have h1 := psL_bd hc k (by omega)
    have h2 := psN_bd (psL xs n k) hc
    unfold psL
    rw [sA_app]
    rw [psL_len] at h2
    have e : sA [psN xs n (psL xs n k)] = (psN xs n (psL xs n k)).natAbs := rfl
    rw [e]
    rcases k with _ | _ | _ | _ | _ | _ | k <;> simp only [psB] at * <;> omega
theorem psB_le (k : Nat) (h : k ≤ 6) : psB k ≤ 52379047260 := by
  rcases k with _ | _ | _ | _ | _ | _ | k <;> simp [psB]
theorem sA_at (L : List Int) (i : Nat) : (L.getD i 0).natAbs ≤ sA L := by
  rcases Nat.lt_or_ge i L.length with h | h
  · have := sA_drop L i h
    have := sA_le L i
    omega
  · simp [List.getD, List.getElem?_eq_none h]
theorem psL_succ (xs : List Int) (n k : Nat) : psL xs n (k + 1) = psL xs n k ++ [psN xs n (psL xs n k)] := rfl
theorem psL_pre (xs : List Int) (n j : Nat) : ∀ d, (psL xs n (j + d)).take j = psL xs n j
  | 0 => by rw [Nat.add_zero, List.take_of_length_le (by rw [psL_len]; exact Nat.le_refl _)]
  | d + 1 => by
    rw [← Nat.add_assoc, psL_succ, List.take_append_of_le_length (by rw [psL_len]; omega)]
    exact psL_pre xs n j d
end Go.Proofs.Ytjipalcceflkfaa
