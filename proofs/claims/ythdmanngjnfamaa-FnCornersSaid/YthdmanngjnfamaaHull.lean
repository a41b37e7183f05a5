
/- The lower hull of points: the chain of a stack and the chain of least slopes are one list. Plain. -/
namespace Go.Proofs.Ythdmanngjnfamaa

/-- the slope from a to b is less than the one from a to c -/
def cr (X Y : Nat → Int) (a b c : Nat) : Prop := (Y b - Y a) * (X c - X a) < (Y c - Y a) * (X b - X a)
/-- b is the last one with the least slope from a, of the first n -/
def Nx (X Y : Nat → Int) (n a b : Nat) : Prop := a < b ∧ b < n ∧ (∀ k, a < k → k < b → ¬ cr X Y a k b) ∧ (∀ k, b < k → k < n → cr X Y a b k)
/-- places increase -/
def Inc (X : Nat → Int) (n : Nat) : Prop := ∀ a b, a < b → b < n → X a < X b
theorem Inc.mono {X : Nat → Int} {n m : Nat} (h : Inc X n) (hm : m ≤ n) : Inc X m := fun a b h1 h2 => h a b h1 (Nat.lt_of_lt_of_le h2 hm)
/-- a chain, its end first, down to 0 -/
def St (X Y : Nat → Int) (n : Nat) : List Nat → Prop
  | [] => False
  | [i] => i = 0
  | j :: i :: r => Nx X Y n i j ∧ St X Y n (i :: r)

theorem mcan {a b q : Int} (hq : 0 < q) (h : q * a < q * b) : a < b := Int.lt_of_mul_lt_mul_left h (Int.le_of_lt hq)
theorem mcan' {a b q : Int} (hq : 0 < q) (h : q * a ≤ q * b) : a ≤ b := Int.le_of_mul_le_mul_left h hq
/-- slopes u/p, v/q, w/r -/
theorem sl_lt {u v w p q r : Int} (hp : 0 < p) (hq : 0 < q) (hr : 0 < r) (h1 : u * q < v * p) (h2 : v * r ≤ w * q) : u * r < w * p := by
  have e1 := Int.mul_lt_mul_of_pos_right h1 hr
  have e2 := Int.mul_le_mul_of_nonneg_right h2 (Int.le_of_lt hp)
  apply mcan hq
  have a1 : q * (u * r) = u * q * r := by rw [Int.mul_comm q, Int.mul_assoc, Int.mul_assoc, Int.mul_comm r q]
  have a2 : v * p * r = v * r * p := by rw [Int.mul_assoc, Int.mul_comm p r, ← Int.mul_assoc]
  have a3 : q * (w * p) = w * q * p := by rw [Int.mul_comm q, Int.mul_assoc, Int.mul_assoc, Int.mul_comm p q]
  omega
theorem sl_le {u v w p q r : Int} (hp : 0 < p) (hq : 0 < q) (hr : 0 < r) (h1 : u * q ≤ v * p) (h2 : v * r ≤ w * q) : u * r ≤ w * p := by
  have e1 := Int.mul_le_mul_of_nonneg_right h1 (Int.le_of_lt hr)
  have e2 := Int.mul_le_mul_of_nonneg_right h2 (Int.le_of_lt hp)
  apply mcan' hq
  have a1 : q * (u * r) = u * q * r := by rw [Int.mul_comm q, Int.mul_assoc, Int.mul_assoc, Int.mul_comm r q]
  have a2 : v * p * r = v * r * p := by rw [Int.mul_assoc, Int.mul_comm p r, ← Int.mul_assoc]
  have a3 : q * (w * p) = w * q * p := by rw [Int.mul_comm q, Int.mul_assoc, Int.mul_assoc, Int.mul_comm p q]
  omega
/-- a steeper piece behind: i, a, b with slope(i,a) < slope(i,b), and slope(a,b) < slope(a,c) -/
theorem cr_up {X Y : Nat → Int} {i a b c : Nat} (h1 : X i < X a) (h2 : X a < X b) (h3 : X b < X c) (c1 : cr X Y i a b) (c2 : cr X Y a b c) : cr X Y i a c := by
  unfold cr at *
  have d1 : 0 < X a - X i := by omega
  have d2 : 0 < X b - X a := by omega
  have d3 : 0 < X c - X a := by omega
  have e1 : (Y a - Y i) * (X b - X a) < (Y b - Y a) * (X a - X i) := by
    have r1 : X b - X i = (X b - X a) + (X a - X i) := by omega
    have r2 : Y b - Y i = (Y b - Y a) + (Y a - Y i) := by omega
    rw [r1, r2, Int.mul_add, Int.add_mul] at c1
    omega
  have e2 := sl_lt d1 d2 d3 e1 (Int.le_of_lt c2)
  have r1 : X c - X i = (X c - X a) + (X a - X i) := by omega
  have r2 : Y c - Y i = (Y c - Y a) + (Y a - Y i) := by omega
  rw [r1, r2, Int.mul_add, Int.add_mul]
  omega
theorem cr_le {X Y : Nat → Int} {a k b c : Nat} (h1 : X a < X k) (h2 : X a < X b) (h3 : X a < X c) (c1 : ¬ cr X Y a k b) (c2 : ¬ cr X Y a b c) : ¬ cr X Y a k c := by
  unfold cr at *
  have e1 := sl_le (u := Y c - Y a) (v := Y b - Y a) (w := Y k - Y a) (p := X c - X a) (q := X b - X a) (r := X k - X a) (by omega) (by omega) (by omega) (by omega) (by omega)
  omega
theorem cr_lt_le {X Y : Nat → Int} {a k b c : Nat} (h1 : X a < X k) (h2 : X a < X b) (h3 : X a < X c) (c1 : cr X Y a b k) (c2 : ¬ cr X Y a b c) : ¬ cr X Y a k c := by
  unfold cr at *
  have e1 := sl_lt (u := Y b - Y a) (v := Y k - Y a) (w := Y c - Y a) (p := X b - X a) (q := X k - X a) (r := X c - X a) (by omega) (by omega) (by omega) c1
  rcases Int.lt_or_le ((Y k - Y a) * (X c - X a)) ((Y c - Y a) * (X k - X a)) with h | h
  · have := e1 (Int.le_of_lt h); omega
  · omega
theorem St.lt {X Y : Nat → Int} {n j i : Nat} {r : List Nat} (h : St X Y n (j :: i :: r)) : i < j ∧ j < n := ⟨h.1.1, h.1.2.1⟩

/-- the new point n lies not below the line past the top b: b goes -/
theorem st_pop {X Y : Nat → Int} {n a b : Nat} {r : List Nat} (hX : Inc X (n + 1)) (h : St X Y n (b :: a :: r)) (hc : ¬ cr X Y a b n) :
    St X Y n (a :: r) ∧ ∀ k, a < k → k < n → ¬ cr X Y a k n := by
  refine ⟨h.2, fun k k1 k2 => ?_⟩
  obtain ⟨⟨h1, h2, h3, h4⟩, _⟩ := h
  have ik := hX a k k1 (by omega)
  have ib := hX a b h1 (by omega)
  have ic := hX a n (by omega) (by omega)
  rcases Nat.lt_trichotomy k b with hk | hk | hk
  · exact cr_le ik ib ic (h3 k k1 hk) hc
  · subst hk; exact hc
  · exact cr_lt_le ik ib ic (h4 k hk k2) hc
theorem st_up {X Y : Nat → Int} {n : Nat} (hX : Inc X (n + 1)) : ∀ (r : List Nat) (a b : Nat), St X Y n (b :: a :: r) → cr X Y a b n → St X Y (n + 1) (b :: a :: r)
  | r, a, b, ⟨⟨h1, h2, h3, h4⟩, h5⟩, hc => by
    refine ⟨⟨h1, by omega, h3, fun k k1 k2 => ?_⟩, ?_⟩
    · rcases Nat.lt_or_ge k n with hk | hk
      · exact h4 k k1 hk
      · obtain rfl : k = n := by omega
        exact hc
    · cases r with
      | nil => exact h5
      | cons i r =>
        refine st_up hX r i a h5 ?_
        have hi := h5.1
        exact cr_up (hX i a hi.1 (by omega)) (hX a b h1 (by omega)) (hX b n h2 (by omega)) (hi.2.2.2 b h1 h2) hc
/-- the top stays: the new point goes on it -/
theorem st_push {X Y : Nat → Int} {n a b : Nat} {r : List Nat} (hX : Inc X (n + 1)) (h : St X Y n (b :: a :: r)) (hg : ∀ k, b < k → k < n → ¬ cr X Y b k n) (hc : cr X Y a b n) :
    St X Y (n + 1) (n :: b :: a :: r) :=
  ⟨⟨h.lt.2, by omega, hg, fun k k1 k2 => by omega⟩, st_up hX r a b h hc⟩
theorem st_push1 {X Y : Nat → Int} {n b : Nat} (hn : 0 < n) (h : St X Y n [b]) (hg : ∀ k, b < k → k < n → ¬ cr X Y b k n) : St X Y (n + 1) [n, b] := by
  have hb : b = 0 := h
  exact ⟨⟨by omega, by omega, hg, fun k k1 k2 => by omega⟩, h⟩

/-- a chain from i to the last -/
def Ch (X Y : Nat → Int) (n : Nat) : Nat → List Nat → Prop
  | i, [] => i + 1 = n
  | i, j :: r => Nx X Y n i j ∧ Ch X Y n j r
theorem Nx.uniq {X Y : Nat → Int} {n a b c : Nat} (h : Nx X Y n a b) (h' : Nx X Y n a c) : b = c := by
  rcases Nat.lt_trichotomy b c with hl | hl | hl
  · exact absurd (h.2.2.2 c hl h'.2.1) (h'.2.2.1 b h.1 hl)
  · exact hl
  · exact absurd (h'.2.2.2 b hl h.2.1) (h.2.2.1 c h'.1 hl)
theorem Ch.uniq {X Y : Nat → Int} {n : Nat} : ∀ {i : Nat} {l l' : List Nat}, Ch X Y n i l → Ch X Y n i l' → l = l'
  | _, [], [], _, _ => rfl
  | i, [], j :: r, h, h' => by have h1 : i + 1 = n := h; have := h'.1.1; have := h'.1.2.1; omega
  | i, j :: r, [], h, h' => by have h1 : i + 1 = n := h'; have := h.1.1; have := h.1.2.1; omega
  | i, j :: r, j' :: r', h, h' => by
    have e := h.1.uniq h'.1
    subst e
    rw [Ch.uniq h.2 h'.2]
theorem st_ch {X Y : Nat → Int} {n : Nat} : ∀ (r : List Nat) (j : Nat) (s : List Nat), St X Y n (j :: r) → Ch X Y n j s → ∃ s', (j :: r).reverse ++ s = 0 :: s' ∧ Ch X Y n 0 s'
  | [], j, s, h, hc => by have h0 : j = 0 := h; subst h0; exact ⟨s, rfl, hc⟩
  | i :: r, j, s, h, hc => by
    obtain ⟨s', e, h'⟩ := st_ch r i (j :: s) h.2 ⟨h.1, hc⟩
    refine ⟨s', ?_, h'⟩
    rw [← e]
    simp
/-- the whole chain is one -/
theorem st_uniq {X Y : Nat → Int} {n t : Nat} {l l' : List Nat} (ht : t + 1 = n) (h : St X Y n (t :: l)) (h' : St X Y n (t :: l')) : t :: l = t :: l' := by
  obtain ⟨s, e, hc⟩ := st_ch l t [] h ht
  obtain ⟨s', e', hc'⟩ := st_ch l' t [] h' ht
  rw [hc.uniq hc'] at e
  rw [List.append_nil] at e e'
  exact List.reverse_inj.1 (e.trans e'.symm)
theorem st_len {X Y : Nat → Int} {n : Nat} : ∀ (r : List Nat) (j : Nat), St X Y n (j :: r) → r.length ≤ j
  | [], _, _ => Nat.zero_le _
  | i :: r, j, h => by
    have h1 := st_len r i h.2
    have := h.1.1
    simp
    omega
open Classical in
/-- the hull of the first n points, its end first -/
noncomputable def hullL (X Y : Nat → Int) (n : Nat) : List Nat := if h : ∃ l, St X Y n ((n - 1) :: l) then (n - 1) :: h.choose else []
theorem hull_eq {X Y : Nat → Int} {n : Nat} {l : List Nat} (hn : 0 < n) (h : St X Y n ((n - 1) :: l)) : hullL X Y n = (n - 1) :: l := by
  have he : ∃ l, St X Y n ((n - 1) :: l) := ⟨l, h⟩
  unfold hullL
  rw [dif_pos he]
  exact st_uniq (by omega) he.choose_spec h
end Go.Proofs.Ythdmanngjnfamaa
