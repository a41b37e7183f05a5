
/- Newton polygons, plain: points, corners, slopes, heights. -/
import Derived.Test.YthdmanngjnfamaaHull
namespace Go.Proofs.Ythdmanngjnfamaa

/-- the points of the first k coefficients; v: the valuation -/
def ptF (v : Int → Nat) (fs : List Int) : Nat → List (Int × Int)
  | 0 => []
  | k + 1 => ptF v fs k ++ (if fs.getD k 0 = 0 then [] else [((k : Int), (v (fs.getD k 0) : Int))])
theorem ptF_len (v : Int → Nat) (fs : List Int) (k : Nat) : (ptF v fs k).length ≤ k := by
  induction k with
  | zero => exact Nat.le_refl _
  | succ k ih =>
    unfold ptF
    by_cases h : fs.getD k 0 = 0
    · rw [if_pos h, List.append_nil]; omega
    · rw [if_neg h, List.length_append]; simp; exact ih
theorem ptF_mem {v : Int → Nat} {fs : List Int} {k : Nat} {x : Int × Int} (h : x ∈ ptF v fs k) : ∃ i : Nat, i < k ∧ ¬ fs.getD i 0 = 0 ∧ x = ((i : Int), (v (fs.getD i 0) : Int)) := by
  induction k with
  | zero => simp [ptF] at h
  | succ k ih =>
    unfold ptF at h
    by_cases h0 : fs.getD k 0 = 0
    · rw [if_pos h0, List.append_nil] at h
      obtain ⟨i, hi, h2⟩ := ih h
      exact ⟨i, by omega, h2⟩
    · rw [if_neg h0, List.mem_append] at h
      rcases h with h | h
      · obtain ⟨i, hi, h2⟩ := ih h
        exact ⟨i, by omega, h2⟩
      · simp at h
        exact ⟨k, by omega, h0, h⟩
theorem ptF_has {v : Int → Nat} {fs : List Int} {k i : Nat} (hi : i < k) (h0 : ¬ fs.getD i 0 = 0) : ((i : Int), (v (fs.getD i 0) : Int)) ∈ ptF v fs k := by
  induction k with
  | zero => omega
  | succ k ih =>
    unfold ptF
    rw [List.mem_append]
    by_cases e : i = k
    · subst e
      rw [if_neg h0]
      exact .inr (by simp)
    · exact .inl (ih (by omega))
theorem ptF_inc (v : Int → Nat) (fs : List Int) (k : Nat) : (ptF v fs k).Pairwise (fun a b => a.1 < b.1) := by
  induction k with
  | zero => exact List.Pairwise.nil
  | succ k ih =>
    unfold ptF
    by_cases h0 : fs.getD k 0 = 0
    · rw [if_pos h0, List.append_nil]; exact ih
    · rw [if_neg h0, List.pairwise_append]
      refine ⟨ih, List.pairwise_singleton _ _, fun a ha b hb => ?_⟩
      obtain ⟨i, hi, _, rfl⟩ := ptF_mem ha
      simp at hb
      subst hb
      show (i : Int) < (k : Int)
      omega
def pX (l : List (Int × Int)) (i : Nat) : Int := (l.getD i (0, 0)).1
def pY (l : List (Int × Int)) (i : Nat) : Int := (l.getD i (0, 0)).2
theorem pw_inc {l : List (Int × Int)} (h : l.Pairwise (fun a b => a.1 < b.1)) : Inc (pX l) l.length := by
  intro a b hab hb
  have := List.pairwise_iff_getElem.1 h a b (by omega) hb hab
  simpa [pX, List.getD, List.getElem?_eq_getElem hb, List.getElem?_eq_getElem (show a < l.length by omega)] using this
theorem inc_pw {l : List (Int × Int)} (h : Inc (pX l) l.length) : l.Pairwise (fun a b => a.1 < b.1) := by
  rw [List.pairwise_iff_getElem]
  intro a b ha hb hab
  have := h a b hab hb
  simpa [pX, List.getD, List.getElem?_eq_getElem hb, List.getElem?_eq_getElem ha] using this
theorem getD_mem2 {l : List (Int × Int)} {i : Nat} (h : i < l.length) : l.getD i (0, 0) ∈ l := by
  simp [List.getD, List.getElem?_eq_getElem h]

/-- bounds of points -/
def Bd (l : List (Int × Int)) : Prop := ∀ x ∈ l, 0 ≤ x.1 ∧ x.1 ≤ 8 ∧ 0 ≤ x.2 ∧ x.2 ≤ 39
theorem ptF_bd {v : Int → Nat} {fs : List Int} {k : Nat} (hk : k ≤ 9) (hv : ∀ i, i < k → ¬ fs.getD i 0 = 0 → v (fs.getD i 0) ≤ 39) : Bd (ptF v fs k) := by
  intro x hx
  obtain ⟨i, hi, h0, rfl⟩ := ptF_mem hx
  have := hv i hi h0
  show 0 ≤ (i : Int) ∧ (i : Int) ≤ 8 ∧ 0 ≤ (v (fs.getD i 0) : Int) ∧ (v (fs.getD i 0) : Int) ≤ 39
  omega

/-- the pairs as cells' numbers -/
def flatI (l : List (Int × Int)) : List Int := l.flatMap fun x => [x.1, x.2]
theorem flatI_nil : flatI [] = [] := rfl
theorem flatI_app (l m : List (Int × Int)) : flatI (l ++ m) = flatI l ++ flatI m := by unfold flatI; rw [List.flatMap_append]
theorem flatI_one (x : Int × Int) : flatI [x] = [x.1, x.2] := rfl
theorem flatI_len (l : List (Int × Int)) : (flatI l).length = l.length * 2 := by
  unfold flatI
  induction l with
  | nil => rfl
  | cons x l ih => rw [List.flatMap_cons, List.length_append, ih]; simp; omega
theorem flatI_at (l : List (Int × Int)) (i : Nat) (h : i < l.length) : (flatI l).getD (i * 2) 0 = (l.getD i (0, 0)).1 ∧ (flatI l).getD (i * 2 + 1) 0 = (l.getD i (0, 0)).2 := by
  induction l generalizing i with
  | nil => simp at h
  | cons x l ih =>
    unfold flatI
    rw [List.flatMap_cons]
    cases i with
    | zero => simp
    | succ i =>
      have e1 : (i + 1) * 2 = 2 + i * 2 := by omega
      have e2 : (i + 1) * 2 + 1 = 2 + (i * 2 + 1) := by omega
      rw [e2, e1]
      have := ih i (by simpa using h)
      simp only [List.getD, List.getElem?_append_right (show [x.1, x.2].length ≤ 2 + i * 2 by simp), List.getElem?_append_right (show [x.1, x.2].length ≤ 2 + (i * 2 + 1) by simp)]
      simp only [List.length_cons, List.length_nil, Nat.zero_add]
      rw [show 2 + i * 2 - (1 + 1) = i * 2 by omega, show 2 + (i * 2 + 1) - (1 + 1) = i * 2 + 1 by omega]
      simpa [List.getD, flatI] using this
theorem flatI_inj : ∀ {l m : List (Int × Int)}, flatI l = flatI m → l = m
  | [], [], _ => rfl
  | [], y :: m, h => by simp [flatI] at h
  | x :: l, [], h => by simp [flatI] at h
  | x :: l, y :: m, h => by
    have h1 : x.1 :: x.2 :: flatI l = y.1 :: y.2 :: flatI m := h
    injection h1 with a h1
    injection h1 with b h1
    rw [flatI_inj h1]
    obtain ⟨x1, x2⟩ := x
    obtain ⟨y1, y2⟩ := y
    simp at a b
    rw [a, b]

/-- a chain always exists -/
theorem st_add {X Y : Nat → Int} {n : Nat} (hn : 0 < n) (hX : Inc X (n + 1)) : ∀ (r : List Nat) (b : Nat), St X Y n (b :: r) → (∀ k, b < k → k < n → ¬ cr X Y b k n) → ∃ l, St X Y (n + 1) (n :: l)
  | [], b, h, hg => ⟨[b], st_push1 hn h hg⟩
  | a :: r, b, h, hg => by
    by_cases hc : cr X Y a b n
    · exact ⟨_, st_push hX h hg hc⟩
    · have h2 := st_pop hX h hc
      exact st_add hn hX r a h2.1 h2.2
theorem st_ex {X Y : Nat → Int} : ∀ (n : Nat), 0 < n → Inc X n → ∃ l, St X Y n ((n - 1) :: l)
  | 0, h, _ => absurd h (Nat.lt_irrefl _)
  | 1, _, _ => ⟨[], rfl⟩
  | n + 2, _, hX => by
    obtain ⟨l, hl⟩ := st_ex (Y := Y) (n + 1) (by omega) (hX.mono (by omega))
    exact st_add (by omega) hX l n hl (fun k k1 k2 => by omega)
theorem hull_st {X Y : Nat → Int} {n : Nat} (hn : 0 < n) (hX : Inc X n) : ∃ l, hullL X Y n = (n - 1) :: l ∧ St X Y n ((n - 1) :: l) := by
  obtain ⟨l, hl⟩ := st_ex (Y := Y) n hn hX
  exact ⟨l, hull_eq hn hl, hl⟩
theorem st_dec {X Y : Nat → Int} {n : Nat} : ∀ (r : List Nat) (j : Nat), St X Y n (j :: r) → (j :: r).Pairwise (· > ·)
  | [], _, _ => List.pairwise_singleton _ _
  | i :: r, j, h => by
    have h1 := st_dec r i h.2
    rw [List.pairwise_cons]
    refine ⟨fun a ha => ?_, h1⟩
    have hij := h.1.1
    rcases List.mem_cons.1 ha with rfl | ha
    · exact hij
    · have := (List.pairwise_cons.1 h1).1 a ha
      omega
theorem st_last {X Y : Nat → Int} {n : Nat} : ∀ (r : List Nat) (j : Nat), St X Y n (j :: r) → (j :: r).getLast? = some 0
  | [], j, h => by have : j = 0 := h; subst this; rfl
  | i :: r, j, h => by
    rw [List.getLast?_cons_cons]
    exact st_last r i h.2
theorem st_lt {X Y : Nat → Int} {n : Nat} (hn : 0 < n) {j : Nat} {r : List Nat} (h : St X Y n (j :: r)) : ∀ i ∈ j :: r, i < n := by
  have hj : j < n := by
    cases r with
    | nil => have : j = 0 := h; omega
    | cons i r => exact h.lt.2
  intro i hi
  rcases List.mem_cons.1 hi with rfl | hi
  · exact hj
  · have := (List.pairwise_cons.1 (st_dec r j h)).1 i hi
    omega

/-- the corners of points -/
noncomputable def hullP (l : List (Int × Int)) : List (Int × Int) := (hullL (pX l) (pY l) l.length).reverse.map fun i => l.getD i (0, 0)
/-- what a chain stands for -/
def ptsOf (l : List (Int × Int)) (s : List Nat) : List (Int × Int) := s.reverse.map fun i => l.getD i (0, 0)
theorem ptsOf_len (l : List (Int × Int)) (s : List Nat) : (ptsOf l s).length = s.length := by simp [ptsOf]
theorem ptsOf_cons (l : List (Int × Int)) (i : Nat) (s : List Nat) : ptsOf l (i :: s) = ptsOf l s ++ [l.getD i (0, 0)] := by simp [ptsOf]
theorem ptsOf_top (l : List (Int × Int)) (i : Nat) (s : List Nat) : (ptsOf l (i :: s)).getD s.length (0, 0) = l.getD i (0, 0) := by
  rw [ptsOf_cons]
  simp [List.getD, ptsOf]
theorem ptsOf_next (l : List (Int × Int)) (j i : Nat) (s : List Nat) : (ptsOf l (j :: i :: s)).getD s.length (0, 0) = l.getD i (0, 0) := by
  rw [ptsOf_cons]
  have h : s.length < (ptsOf l (i :: s)).length := by rw [ptsOf_len]; simp
  have := ptsOf_top l i s
  simp only [List.getD] at this ⊢
  rw [List.getElem?_append_left h]
  exact this
theorem hullP_eq {l : List (Int × Int)} {s : List Nat} (h0 : 0 < l.length) (h : St (pX l) (pY l) l.length ((l.length - 1) :: s)) : ptsOf l ((l.length - 1) :: s) = hullP l := by
  unfold hullP ptsOf
  rw [hull_eq h0 h]
theorem hullP_ex {l : List (Int × Int)} (h0 : 0 < l.length) (hi : l.Pairwise (fun a b => a.1 < b.1)) : ∃ s, hullP l = ptsOf l ((l.length - 1) :: s) ∧ St (pX l) (pY l) l.length ((l.length - 1) :: s) := by
  obtain ⟨s, e, h⟩ := hull_st (Y := pY l) h0 (pw_inc hi)
  exact ⟨s, (hullP_eq h0 h).symm, h⟩
theorem hullP_mem {l : List (Int × Int)} (h0 : 0 < l.length) (hi : l.Pairwise (fun a b => a.1 < b.1)) : ∀ x ∈ hullP l, x ∈ l := by
  intro x hx
  obtain ⟨s, e, h⟩ := hullP_ex h0 hi
  rw [e] at hx
  simp only [ptsOf, List.mem_map, List.mem_reverse] at hx
  obtain ⟨i, hi2, rfl⟩ := hx
  exact getD_mem2 (st_lt h0 h i hi2)
theorem hullP_bd {l : List (Int × Int)} (h0 : 0 < l.length) (hi : l.Pairwise (fun a b => a.1 < b.1)) (hb : Bd l) : Bd (hullP l) := fun x hx => hb x (hullP_mem h0 hi x hx)
theorem hullP_inc {l : List (Int × Int)} (h0 : 0 < l.length) (hi : l.Pairwise (fun a b => a.1 < b.1)) : (hullP l).Pairwise (fun a b => a.1 < b.1) := by
  obtain ⟨s, e, h⟩ := hullP_ex h0 hi
  rw [e]
  unfold ptsOf
  rw [List.pairwise_map, List.pairwise_reverse]
  refine List.Pairwise.imp_of_mem ?_ (st_dec _ _ h)
  intro a b ha _ hab
  exact pw_inc hi b a hab (st_lt h0 h a ha)
theorem hullP_len {l : List (Int × Int)} (h0 : 0 < l.length) (hi : l.Pairwise (fun a b => a.1 < b.1)) : 0 < (hullP l).length ∧ (hullP l).length ≤ l.length := by
  obtain ⟨s, e, h⟩ := hullP_ex h0 hi
  have := st_len _ _ h
  rw [e, ptsOf_len]
  simp
  omega
theorem hullP_first {l : List (Int × Int)} (h0 : 0 < l.length) (hi : l.Pairwise (fun a b => a.1 < b.1)) : (hullP l).getD 0 (0, 0) = l.getD 0 (0, 0) := by
  obtain ⟨s, e, h⟩ := hullP_ex h0 hi
  have h1 := st_last _ _ h
  rw [e]
  unfold ptsOf
  rw [List.getLast?_eq_head?_reverse] at h1
  cases hr : ((l.length - 1) :: s).reverse with
  | nil => simp at hr
  | cons a t =>
    rw [hr] at h1
    simp at h1
    subst h1
    rfl
theorem hullP_last {l : List (Int × Int)} (h0 : 0 < l.length) (hi : l.Pairwise (fun a b => a.1 < b.1)) : (hullP l).getD ((hullP l).length - 1) (0, 0) = l.getD (l.length - 1) (0, 0) := by
  obtain ⟨s, e, h⟩ := hullP_ex h0 hi
  have h1 := ptsOf_top l (l.length - 1) s
  rw [e, ptsOf_len]
  simpa using h1
end Go.Proofs.Ythdmanngjnfamaa

namespace Go.Proofs.Ythdmanngjnfamaa

/-- the piece from a to b: rise, run, length -/
def slP (a b : Int × Int) : List Int := [(b.2 - a.2).tdiv (Int.gcd (b.2 - a.2) (b.1 - a.1) : Int), (b.1 - a.1).tdiv (Int.gcd (b.2 - a.2) (b.1 - a.1) : Int), b.1 - a.1]
/-- the first k pieces -/
def slF (cs : List (Int × Int)) : Nat → List Int
  | 0 => []
  | k + 1 => slF cs k ++ slP (cs.getD k (0, 0)) (cs.getD (k + 1) (0, 0))
theorem slF_len (cs : List (Int × Int)) (k : Nat) : (slF cs k).length = k * 3 := by
  induction k with
  | zero => rfl
  | succ k ih => unfold slF; rw [List.length_append, ih]; simp [slP]; omega
/-- all pieces -/
def slL (cs : List (Int × Int)) : List Int := slF cs (cs.length - 1)
theorem slF_at (cs : List (Int × Int)) {k j : Nat} (h : j < k) :
    (slF cs k).getD (j * 3) 0 = (slP (cs.getD j (0, 0)) (cs.getD (j + 1) (0, 0))).getD 0 0 ∧
    (slF cs k).getD (j * 3 + 1) 0 = (slP (cs.getD j (0, 0)) (cs.getD (j + 1) (0, 0))).getD 1 0 ∧
    (slF cs k).getD (j * 3 + 2) 0 = (slP (cs.getD j (0, 0)) (cs.getD (j + 1) (0, 0))).getD 2 0 := by
  induction k with
  | zero => omega
  | succ k ih =>
    unfold slF
    have hl := slF_len cs k
    by_cases e : j = k
    · subst e
      simp only [List.getD]
      rw [List.getElem?_append_right (by omega), List.getElem?_append_right (by omega), List.getElem?_append_right (by omega), hl]
      rw [show j * 3 - j * 3 = 0 by omega, show j * 3 + 1 - j * 3 = 1 by omega, show j * 3 + 2 - j * 3 = 2 by omega]
      exact ⟨rfl, rfl, rfl⟩
    · have := ih (by omega)
      simp only [List.getD] at this ⊢
      rw [List.getElem?_append_left (by omega), List.getElem?_append_left (by omega), List.getElem?_append_left (by omega)]
      exact this

/-- the height at x of the pieces from here on: a numerator and a denominator -/
def htF (d : Int × Int) : List (Int × Int) → Int → Int × Int
  | a :: b :: r, x => if x ≤ b.1 then (a.2 * (b.1 - a.1) + (b.2 - a.2) * (x - a.1), b.1 - a.1) else htF d (b :: r) x
  | _, _ => d
def htL (cs : List (Int × Int)) (x : Int) : Int × Int := htF ((cs.getD 0 (0, 0)).2, 1) cs x
theorem drop_two {cs : List (Int × Int)} {k : Nat} (h : k + 1 < cs.length) : cs.drop k = cs.getD k (0, 0) :: cs.getD (k + 1) (0, 0) :: cs.drop (k + 2) := by
  rw [List.drop_eq_getElem_cons (by omega), List.drop_eq_getElem_cons h]
  simp [List.getD, List.getElem?_eq_getElem h, List.getElem?_eq_getElem (show k < cs.length by omega)]
theorem drop_one2 {cs : List (Int × Int)} {k : Nat} (h : k < cs.length) : cs.drop k = cs.getD k (0, 0) :: cs.drop (k + 1) := by
  rw [List.drop_eq_getElem_cons h]
  simp [List.getD, List.getElem?_eq_getElem h]
theorem htF_yes {d : Int × Int} {cs : List (Int × Int)} {k : Nat} {x : Int} (h : k + 1 < cs.length) (hx : x ≤ (cs.getD (k + 1) (0, 0)).1) :
    htF d (cs.drop k) x = ((cs.getD k (0, 0)).2 * ((cs.getD (k + 1) (0, 0)).1 - (cs.getD k (0, 0)).1) + ((cs.getD (k + 1) (0, 0)).2 - (cs.getD k (0, 0)).2) * (x - (cs.getD k (0, 0)).1), (cs.getD (k + 1) (0, 0)).1 - (cs.getD k (0, 0)).1) := by
  rw [drop_two h]
  show (if _ then _ else _) = _
  rw [if_pos hx]
theorem htF_no {d : Int × Int} {cs : List (Int × Int)} {k : Nat} {x : Int} (h : k + 1 < cs.length) (hx : ¬ x ≤ (cs.getD (k + 1) (0, 0)).1) : htF d (cs.drop k) x = htF d (cs.drop (k + 1)) x := by
  rw [drop_two h]
  show (if _ then _ else _) = _
  rw [if_neg hx, drop_one2 h]
theorem htF_end {d : Int × Int} {cs : List (Int × Int)} {k : Nat} {x : Int} (h : cs.length ≤ k + 1) : htF d (cs.drop k) x = d := by
  rcases Nat.lt_or_ge k cs.length with h1 | h1
  · rw [drop_one2 h1, List.drop_of_length_le h]
    rfl
  · rw [List.drop_of_length_le h1]
    rfl
theorem prod_le {u v U W : Int} (h0 : 0 ≤ u) (h1 : u ≤ U) (h2 : 0 ≤ v) (h3 : v ≤ W) : 0 ≤ u * v ∧ u * v ≤ U * W :=
  ⟨Int.mul_nonneg h0 h2, Int.mul_le_mul h1 h3 h2 (by omega)⟩
/-- the height between two corners: bounds -/
theorem ht_bd {a b : Int × Int} {x : Int} (h1 : 0 ≤ a.1) (h2 : b.1 ≤ 8) (h3 : a.1 < b.1) (h4 : a.1 ≤ x) (h5 : x ≤ b.1) (h6 : 0 ≤ a.2) (h7 : a.2 ≤ 39) (h8 : 0 ≤ b.2) (h9 : b.2 ≤ 39) :
    0 ≤ a.2 * (b.1 - a.1) + (b.2 - a.2) * (x - a.1) ∧ a.2 * (b.1 - a.1) + (b.2 - a.2) * (x - a.1) ≤ 624 := by
  have e : a.2 * (b.1 - a.1) + (b.2 - a.2) * (x - a.1) = a.2 * (b.1 - x) + b.2 * (x - a.1) := by grind
  have := prod_le h6 h7 (show 0 ≤ b.1 - x by omega) (show b.1 - x ≤ 8 by omega)
  have := prod_le h8 h9 (show 0 ≤ x - a.1 by omega) (show x - a.1 ≤ 8 by omega)
  rw [e]
  omega
/-- in lowest terms the floor stays -/
theorem tdiv_red {n d : Int} (hn : 0 ≤ n) (hd : 0 < d) : (n.tdiv (Int.gcd n d : Int)).tdiv (d.tdiv (Int.gcd n d : Int)) = n / d := by
  have hg : 0 < (Int.gcd n d : Int) := by
    have : 0 < Int.gcd n d := Int.gcd_pos_of_ne_zero_right _ (by omega)
    omega
  obtain ⟨a, ha⟩ : (Int.gcd n d : Int) ∣ n := Int.gcd_dvd_left ..
  obtain ⟨b, hb⟩ : (Int.gcd n d : Int) ∣ d := Int.gcd_dvd_right ..
  generalize (Int.gcd n d : Int) = g at *
  subst ha
  subst hb
  have ha : 0 ≤ a := by
    apply Int.not_lt.1
    intro h
    have := Int.mul_neg_of_pos_of_neg hg h
    omega
  have hb : 0 ≤ b := by
    apply Int.not_lt.1
    intro h
    have := Int.mul_neg_of_pos_of_neg hg h
    omega
  rw [Int.mul_tdiv_cancel_left _ (by omega), Int.mul_tdiv_cancel_left _ (by omega), Int.tdiv_eq_ediv_of_nonneg ha]
  rw [Int.mul_ediv_mul_of_pos _ _ hg]
/-- the lattice count: heights from x on, k of them -/
def latF (cs : List (Int × Int)) (x0 : Int) : Nat → Int
  | 0 => 0
  | k + 1 => latF cs x0 k + (htL cs (x0 + k)).1 / (htL cs (x0 + k)).2
end Go.Proofs.Ythdmanngjnfamaa
