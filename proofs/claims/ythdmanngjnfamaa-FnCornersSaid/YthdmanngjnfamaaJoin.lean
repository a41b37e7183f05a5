
/- Joined slopes, plain. -/
namespace Go.Proofs.Ythdmanngjnfamaa

def sR (zs : List Int) (k : Nat) : Int := zs.getD (k * 3) 0
def sQ (zs : List Int) (k : Nat) : Int := zs.getD (k * 3 + 1) 0
def sT (zs : List Int) (k : Nat) : Int := zs.getD (k * 3 + 2) 0
/-- slope k is as described -/
def SlK (zs : List Int) (k : Nat) : Prop := (1 ≤ sQ zs k ∧ sQ zs k ≤ 8) ∧ (-60 ≤ sR zs k ∧ sR zs k ≤ 60) ∧ Int.gcd (sR zs k) (sQ zs k) = 1 ∧ (1 ≤ sT zs k ∧ sT zs k ≤ 8) ∧ sT zs k % sQ zs k = 0
/-- and greater than the one before it -/
def SlB (zs : List Int) (k : Nat) : Prop := 0 < k → sR zs (k - 1) * sQ zs k < sR zs k * sQ zs (k - 1)
/-- increasing slopes -/
def SlOk (zs : List Int) (n : Nat) : Prop := (∀ k, k < n → SlK zs k ∧ SlB zs k) ∧ n ≤ 8
/-- the joined slopes from i and k on, with fuel -/
def jnF (zs ys : List Int) (n m : Nat) : Nat → Nat → Nat → List Int
  | 0, _, _ => []
  | f + 1, i, k =>
    if i < n ∨ k < m then
      if k = m ∨ (i < n ∧ sR zs i * sQ ys k < sR ys k * sQ zs i) then [sR zs i, sQ zs i, sT zs i] ++ jnF zs ys n m f (i + 1) k
      else if i = n ∨ sR ys k * sQ zs i < sR zs i * sQ ys k then [sR ys k, sQ ys k, sT ys k] ++ jnF zs ys n m f i (k + 1)
      else [sR zs i, sQ zs i, sT zs i + sT ys k] ++ jnF zs ys n m f (i + 1) (k + 1)
    else []
def jnL (zs ys : List Int) (n m : Nat) : List Int := jnF zs ys n m (n + m) 0 0
section
variable {zs ys : List Int} {n m f i k : Nat}
theorem jn_a (hi : i < n) (h : k = m ∨ sR zs i * sQ ys k < sR ys k * sQ zs i) : jnF zs ys n m (f + 1) i k = [sR zs i, sQ zs i, sT zs i] ++ jnF zs ys n m f (i + 1) k := by
  show (if _ then _ else _) = _
  rw [if_pos (.inl hi), if_pos (h.imp id fun h => ⟨hi, h⟩)]
theorem jn_b (hk : k < m) (h : i = n ∨ sR ys k * sQ zs i < sR zs i * sQ ys k) : jnF zs ys n m (f + 1) i k = [sR ys k, sQ ys k, sT ys k] ++ jnF zs ys n m f i (k + 1) := by
  show (if _ then _ else _) = _
  rw [if_pos (.inr hk), if_neg (by omega), if_pos h]
theorem jn_c (hi : i < n) (hk : k < m) (h1 : ¬ sR zs i * sQ ys k < sR ys k * sQ zs i) (h2 : ¬ sR ys k * sQ zs i < sR zs i * sQ ys k) : jnF zs ys n m (f + 1) i k = [sR zs i, sQ zs i, sT zs i + sT ys k] ++ jnF zs ys n m f (i + 1) (k + 1) := by
  show (if _ then _ else _) = _
  rw [if_pos (.inl hi), if_neg (by omega), if_neg (by omega)]
theorem jn_end (hi : n ≤ i) (hk : m ≤ k) : jnF zs ys n m f i k = [] := by
  cases f with
  | zero => rfl
  | succ f =>
    show (if _ then _ else _) = _
    rw [if_neg (by omega)]
end
theorem jn_len (zs ys : List Int) (n m : Nat) : ∀ (f i k : Nat), ∃ c, c ≤ f ∧ (jnF zs ys n m f i k).length = c * 3
  | 0, _, _ => ⟨0, Nat.le_refl _, rfl⟩
  | f + 1, i, k => by
    obtain ⟨c1, h1, e1⟩ := jn_len zs ys n m f (i + 1) k
    obtain ⟨c2, h2, e2⟩ := jn_len zs ys n m f i (k + 1)
    obtain ⟨c3, h3, e3⟩ := jn_len zs ys n m f (i + 1) (k + 1)
    unfold jnF
    split
    · split
      · exact ⟨c1 + 1, by omega, by rw [List.length_append, e1]; simp; omega⟩
      · split
        · exact ⟨c2 + 1, by omega, by rw [List.length_append, e2]; simp; omega⟩
        · exact ⟨c3 + 1, by omega, by rw [List.length_append, e3]; simp; omega⟩
    · exact ⟨0, by omega, rfl⟩
theorem rq_bd {r q : Int} (h1 : -60 ≤ r) (h2 : r ≤ 60) (h3 : 1 ≤ q) (h4 : q ≤ 8) : -480 ≤ r * q ∧ r * q ≤ 480 := by
  have h : (r * q).natAbs ≤ 60 * 8 := by
    rw [Int.natAbs_mul]
    exact Nat.mul_le_mul (by omega) (by omega)
  generalize r * q = y at *
  omega
end Go.Proofs.Ythdmanngjnfamaa
