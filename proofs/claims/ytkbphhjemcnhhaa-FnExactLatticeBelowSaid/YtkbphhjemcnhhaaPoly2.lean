/- Newton polygons, plain: slopes and heights. -/
import Derived.Test.YtkbphhjemcnhhaaPoly
namespace Go.Proofs.Ytkbphhjemcnhhaa

/-- the piece from a to b: rise, run, length -/
def slP (a b : Int × Int) : List Int := [(b.2 - a.2).tdiv (Int.gcd (b.2 - a.2) (b.1 - a.1) : Int), (b.1 - a.1).tdiv (Int.gcd (b.2 - a.2) (b.1 - a.1) : Int), b.1 - a.1]
/-- the first k pieces -/
def slF (cs : List (Int × Int)) : Nat → List Int
  | 0 => []
  | k + 1 => slF cs k ++ slP (cs.getD k (0, 0)) (cs.getD (k + 1) (0, 0))
theorem slF_len (cs : List (Int × Int)) (k : Nat) : (slF cs k).length = k * 3 := by
  induction k with
  | zero => rfl
  | succ k ih => unfold slF; rw [List.length_append, ih]; simp [slP]; omega
/-- all pieces -/
def slL (cs : List (Int × Int)) : List Int := slF cs (cs.length - 1)
theorem slF_at (cs : List (Int × Int)) {k j : Nat} (h : j < k) :
    (slF cs k).getD (j * 3) 0 = (slP (cs.getD j (0, 0)) (cs.getD (j + 1) (0, 0))).getD 0 0 ∧
    (slF cs k).getD (j * 3 + 1) 0 = (slP (cs.getD j (0, 0)) (cs.getD (j + 1) (0, 0))).getD 1 0 ∧
    (slF cs k).getD (j * 3 + 2) 0 = (slP (cs.getD j (0, 0)) (cs.getD (j + 1) (0, 0))).getD 2 0 := by
  induction k with
  | zero => omega
  | succ k ih =>
    unfold slF
    have hl := slF_len cs k
    by_cases e : j = k
    · subst e
      simp only [List.getD]
      rw [List.getElem?_append_right (by omega), List.getElem?_append_right (by omega), List.getElem?_append_right (by omega), hl]
      rw [show j * 3 - j * 3 = 0 by omega, show j * 3 + 1 - j * 3 = 1 by omega, show j * 3 + 2 - j * 3 = 2 by omega]
      exact ⟨rfl, rfl, rfl⟩
    · have := ih (by omega)
      simp only [List.getD] at this ⊢
      rw [List.getElem?_append_left (by omega), List.getElem?_append_left (by omega), List.getElem?_append_left (by omega)]
      exact this

/-- the height at x of the pieces from here on: a numerator and a denominator -/
def htF (d : Int × Int) : List (Int × Int) → Int → Int × Int
  | a :: b :: r, x => if x ≤ b.1 then (a.2 * (b.1 - a.1) + (b.2 - a.2) * (x - a.1), b.1 - a.1) else htF d (b :: r) x
  | _, _ => d
def htL (cs : List (Int × Int)) (x : Int) : Int × Int := htF ((cs.getD 0 (0, 0)).2, 1) cs x
theorem drop_two {cs : List (Int × Int)} {k : Nat} (h : k + 1 < cs.length) : cs.drop k = cs.getD k (0, 0) :: cs.getD (k + 1) (0, 0) :: cs.drop (k + 2) := by
  rw [List.drop_eq_getElem_cons (by omega), List.drop_eq_getElem_cons h]
  simp [List.getD, List.getElem?_eq_getElem h, List.getElem?_eq_getElem (show k < cs.length by omega)]
theorem drop_one2 {cs : List (Int × Int)} {k : Nat} (h : k < cs.length) : cs.drop k = cs.getD k (0, 0) :: cs.drop (k + 1) := by
  rw [List.drop_eq_getElem_cons h]
  simp [List.getD, List.getElem?_eq_getElem h]
theorem htF_yes {d : Int × Int} {cs : List (Int × Int)} {k : Nat} {x : Int} (h : k + 1 < cs.length) (hx : x ≤ (cs.getD (k + 1) (0, 0)).1) :
    htF d (cs.drop k) x = ((cs.getD k (0, 0)).2 * ((cs.getD (k + 1) (0, 0)).1 - (cs.getD k (0, 0)).1) + ((cs.getD (k + 1) (0, 0)).2 - (cs.getD k (0, 0)).2) * (x - (cs.getD k (0, 0)).1), (cs.getD (k + 1) (0, 0)).1 - (cs.getD k (0, 0)).1) := by
  rw [drop_two h]
  show (if _ then _ else _) = _
  rw [if_pos hx]
theorem htF_no {d : Int × Int} {cs : List (Int × Int)} {k : Nat} {x : Int} (h : k + 1 < cs.length) (hx : ¬ x ≤ (cs.getD (k + 1) (0, 0)).1) : htF d (cs.drop k) x = htF d (cs.drop (k + 1)) x := by
  rw [drop_two h]
  show (if _ then _ else _) = _
  rw [if_neg hx, drop_one2 h]
theorem htF_end {d : Int × Int} {cs : List (Int × Int)} {k : Nat} {x : Int} (h : cs.length ≤ k + 1) : htF d (cs.drop k) x = d := by
  rcases Nat.lt_or_ge k cs.length with h1 | h1
  · rw [drop_one2 h1, List.drop_of_length_le h]
    rfl
  · rw [List.drop_of_length_le h1]
    rfl
theorem prod_le {u v U W : Int} (h0 : 0 ≤ u) (h1 : u ≤ U) (h2 : 0 ≤ v) (h3 : v ≤ W) : 0 ≤ u * v ∧ u * v ≤ U * W :=
  ⟨Int.mul_nonneg h0 h2, Int.mul_le_mul h1 h3 h2 (by omega)⟩
/-- the height between two corners: bounds -/
theorem ht_bd {a b : Int × Int} {x : Int} (h1 : 0 ≤ a.1) (h2 : b.1 ≤ 8) (h3 : a.1 < b.1) (h4 : a.1 ≤ x) (h5 : x ≤ b.1) (h6 : 0 ≤ a.2) (h7 : a.2 ≤ 39) (h8 : 0 ≤ b.2) (h9 : b.2 ≤ 39) :
    0 ≤ a.2 * (b.1 - a.1) + (b.2 - a.2) * (x - a.1) ∧ a.2 * (b.1 - a.1) + (b.2 - a.2) * (x - a.1) ≤ 624 := by
  have e : a.2 * (b.1 - a.1) + (b.2 - a.2) * (x - a.1) = a.2 * (b.1 - x) + b.2 * (x - a.1) := by grind
  have := prod_le h6 h7 (show 0 ≤ b.1 - x by omega) (show b.1 - x ≤ 8 by omega)
  have := prod_le h8 h9 (show 0 ≤ x - a.1 by omega) (show x - a.1 ≤ 8 by omega)
  rw [e]
  omega
/-- in lowest terms the floor stays -/
theorem tdiv_red {n d : Int} (hn : 0 ≤ n) (hd : 0 < d) : (n.tdiv (Int.gcd n d : Int)).tdiv (d.tdiv (Int.gcd n d : Int)) = n / d := by
  have hg : 0 < (Int.gcd n d : Int) := by
    have : 0 < Int.gcd n d := Int.gcd_pos_of_ne_zero_right _ (by omega)
    omega
  obtain ⟨a, ha⟩ : (Int.gcd n d : Int) ∣ n := Int.gcd_dvd_left ..
  obtain ⟨b, hb⟩ : (Int.gcd n d : Int) ∣ d := Int.gcd_dvd_right ..
  generalize (Int.gcd n d : Int) = g at *
  subst ha
  subst hb
  have ha : 0 ≤ a := by
    apply Int.not_lt.1
    intro h
    have := Int.mul_neg_of_pos_of_neg hg h
    omega
  have hb : 0 ≤ b := by
    apply Int.not_lt.1
    intro h
    have := Int.mul_neg_of_pos_of_neg hg h
    omega
  rw [Int.mul_tdiv_cancel_left _ (by omega), Int.mul_tdiv_cancel_left _ (by omega), Int.tdiv_eq_ediv_of_nonneg ha]
  rw [Int.mul_ediv_mul_of_pos _ _ hg]
/-- the lattice count: heights from x on, k of them -/
def latF (cs : List (Int × Int)) (x0 : Int) : Nat → Int
  | 0 => 0
  | k + 1 => latF cs x0 k + (htL cs (x0 + k)).1 / (htL cs (x0 + k)).2
end Go.Proofs.Ytkbphhjemcnhhaa
