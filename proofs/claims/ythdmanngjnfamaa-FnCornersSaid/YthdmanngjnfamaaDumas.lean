
/- Faces of a polygon, plain: its pieces are its faces. -/
import Derived.Test.YthdmanngjnfamaaPoly
import Derived.Test.YthdmanngjnfamaaJoin
namespace Go.Proofs.Ythdmanngjnfamaa

/-- the height over lines of slope a/b -/
def wt (a b : Int) (x : Int × Int) : Int := b * x.2 - a * x.1
/-- the points of l that lie lowest in the direction a/b: the first is p, the last q -/
structure Face (l : List (Int × Int)) (a b : Int) (p q : Int × Int) : Prop where
  hp : p ∈ l
  hq : q ∈ l
  le : p.1 ≤ q.1
  eq : wt a b p = wt a b q
  lo : ∀ x ∈ l, wt a b p ≤ wt a b x
  out : ∀ x ∈ l, x.1 < p.1 ∨ q.1 < x.1 → wt a b p < wt a b x

theorem sl_lt' {u v w p q r : Int} (hp : 0 < p) (hq : 0 < q) (hr : 0 < r) (h1 : u * q ≤ v * p) (h2 : v * r < w * q) : u * r < w * p := by
  have e1 := Int.mul_le_mul_of_nonneg_right h1 (Int.le_of_lt hr)
  have e2 := Int.mul_lt_mul_of_pos_right h2 hp
  apply mcan hq
  have a1 : q * (u * r) = u * q * r := by rw [Int.mul_comm q, Int.mul_assoc, Int.mul_assoc, Int.mul_comm r q]
  have a2 : v * p * r = v * r * p := by rw [Int.mul_assoc, Int.mul_comm p r, ← Int.mul_assoc]
  have a3 : q * (w * p) = w * q * p := by rw [Int.mul_comm q, Int.mul_assoc, Int.mul_assoc, Int.mul_comm p q]
  omega
theorem cr_mid {X Y : Nat → Int} {h i j : Nat} (hc : cr X Y h i j) : (Y i - Y h) * (X j - X i) < (Y j - Y i) * (X i - X h) := by
  unfold cr at hc
  have r1 : X j - X h = (X j - X i) + (X i - X h) := by omega
  have r2 : Y j - Y h = (Y j - Y i) + (Y i - Y h) := by omega
  rw [r1, r2, Int.mul_add, Int.add_mul] at hc
  omega
/-- all before i lie above the line through i and j -/
theorem st_left {X Y : Nat → Int} {n : Nat} (hX : Inc X n) : ∀ (r : List Nat) (i j : Nat), St X Y n (j :: i :: r) → ∀ k, k < i → (Y i - Y k) * (X j - X i) < (Y j - Y i) * (X i - X k)
  | [], i, j, h, k, hk => by have h0 : i = 0 := h.2; omega
  | g :: r, i, j, h, k, hk => by
    have hn := h.lt
    have hg := h.2.lt
    have e1 := cr_mid (h.2.1.2.2.2 j hn.1 hn.2)
    have d1 := hX i j hn.1 hn.2
    have d2 := hX g i hg.1 hg.2
    have d3 := hX k i hk hg.2
    rcases Nat.lt_trichotomy k g with hl | hl | hl
    · have ih := st_left hX r g i h.2 k hl
      have d4 := hX k g hl (by omega)
      have e2 := sl_lt (p := X g - X k) (q := X i - X g) (r := X j - X i) (by omega) (by omega) (by omega) ih (Int.le_of_lt e1)
      have r1 : Y i - Y k = (Y g - Y k) + (Y i - Y g) := by omega
      have r2 : X i - X k = (X g - X k) + (X i - X g) := by omega
      rw [r1, r2, Int.mul_add, Int.add_mul]
      omega
    · subst hl; exact e1
    · have e2 := h.2.1.2.2.1 k hl hk
      unfold cr at e2
      have e3 : (Y i - Y k) * (X i - X g) ≤ (Y i - Y g) * (X i - X k) := by
        have r1 : X i - X g = (X i - X k) + (X k - X g) := by omega
        have r2 : Y i - Y k = (Y i - Y g) - (Y k - Y g) := by omega
        rw [r2, Int.sub_mul]
        rw [r1] at e2 ⊢
        rw [Int.mul_add] at e2 ⊢
        rw [Int.mul_add]
        omega
      exact sl_lt' (by omega) (by omega) (by omega) e3 e1
theorem mem_idx {l : List (Int × Int)} {x : Int × Int} (h : x ∈ l) : ∃ k, k < l.length ∧ x = l.getD k (0, 0) := by
  obtain ⟨k, hk, rfl⟩ := List.getElem_of_mem h
  exact ⟨k, hk, by simp [List.getD, hk]⟩
theorem wt_idx (a b : Int) (l : List (Int × Int)) (k : Nat) : wt a b (l.getD k (0, 0)) = b * pY l k - a * pX l k := rfl

/-- a piece is a face -/
theorem piece_face {l : List (Int × Int)} {a b d : Int} {i j : Nat} {r : List Nat} (hi : l.Pairwise (fun a b => a.1 < b.1)) (h : St (pX l) (pY l) l.length (j :: i :: r)) (hd : 0 < d) (ha : pY l j - pY l i = a * d) (hb : pX l j - pX l i = b * d) :
    Face l a b (l.getD i (0, 0)) (l.getD j (0, 0)) := by
  have hX := pw_inc hi
  have hn := h.lt
  have dij := hX i j hn.1 hn.2
  have key : ∀ k, k < l.length → (i ≤ k → wt a b (l.getD i (0, 0)) ≤ wt a b (l.getD k (0, 0))) ∧ (j < k → wt a b (l.getD i (0, 0)) < wt a b (l.getD k (0, 0))) ∧ (k < i → wt a b (l.getD i (0, 0)) < wt a b (l.getD k (0, 0))) := by
    intro k hk
    rw [wt_idx, wt_idx]
    have hgt : j < k → b * pY l i - a * pX l i < b * pY l k - a * pX l k := fun h1 => by
      have e := h.1.2.2.2 k h1 hk
      unfold cr at e
      rw [ha, hb] at e
      have e2 : d * (a * (pX l k - pX l i)) < d * (b * (pY l k - pY l i)) := by
        have r1 : a * d * (pX l k - pX l i) = d * (a * (pX l k - pX l i)) := by grind
        have r2 : (pY l k - pY l i) * (b * d) = d * (b * (pY l k - pY l i)) := by grind
        omega
      have e3 := mcan hd e2
      rw [Int.mul_sub, Int.mul_sub] at e3
      omega
    refine ⟨fun h1 => ?_, hgt, fun h1 => ?_⟩
    · rcases Nat.lt_trichotomy k j with h2 | h2 | h2
      · by_cases hik : i = k
        · subst hik; exact Int.le_refl _
        · have e := h.1.2.2.1 k (by omega) h2
          unfold cr at e
          rw [ha, hb] at e
          have e2 : d * (a * (pX l k - pX l i)) ≤ d * (b * (pY l k - pY l i)) := by
            have r1 : a * d * (pX l k - pX l i) = d * (a * (pX l k - pX l i)) := by grind
            have r2 : (pY l k - pY l i) * (b * d) = d * (b * (pY l k - pY l i)) := by grind
            omega
          have e3 := mcan' hd e2
          rw [Int.mul_sub, Int.mul_sub] at e3
          omega
      · subst h2
        have e3 : b * (pY l k - pY l i) = a * (pX l k - pX l i) := by rw [ha, hb]; grind
        rw [Int.mul_sub, Int.mul_sub] at e3
        omega
      · exact Int.le_of_lt (hgt h2)
    · have e := st_left hX r i j h k h1
      rw [ha, hb] at e
      have e2 : d * (b * (pY l i - pY l k)) < d * (a * (pX l i - pX l k)) := by
        have r1 : (pY l i - pY l k) * (b * d) = d * (b * (pY l i - pY l k)) := by grind
        have r2 : a * d * (pX l i - pX l k) = d * (a * (pX l i - pX l k)) := by grind
        omega
      have e3 := mcan hd e2
      rw [Int.mul_sub, Int.mul_sub] at e3
      omega
  refine ⟨getD_mem2 (by omega), getD_mem2 hn.2, Int.le_of_lt dij, ?_, fun x hx => ?_, fun x hx ho => ?_⟩
  · rw [wt_idx, wt_idx]
    have e3 : b * (pY l j - pY l i) = a * (pX l j - pX l i) := by rw [ha, hb]; grind
    rw [Int.mul_sub, Int.mul_sub] at e3
    omega
  · obtain ⟨k, hk, rfl⟩ := mem_idx hx
    have ⟨k1, k2, k3⟩ := key k hk
    rcases Nat.lt_or_ge k i with h1 | h1
    · exact Int.le_of_lt (k3 h1)
    · exact k1 h1
  · obtain ⟨k, hk, rfl⟩ := mem_idx hx
    have ⟨k1, k2, k3⟩ := key k hk
    rcases ho with ho | ho
    · apply k3
      rcases Nat.lt_or_ge k i with h1 | h1
      · exact h1
      · exfalso
        rcases Nat.lt_or_ge i k with h2 | h2
        · have := hX i k h2 hk; unfold pX at this; omega
        · obtain rfl : i = k := by omega
          omega
    · apply k2
      rcases Nat.lt_or_ge j k with h1 | h1
      · exact h1
      · exfalso
        rcases Nat.lt_or_ge k j with h2 | h2
        · have := hX k j h2 hn.2; unfold pX at this; omega
        · obtain rfl : j = k := by omega
          omega
/-- where a place lies in a chain -/
theorem st_find {X Y : Nat → Int} {n : Nat} (t : Nat) : ∀ (r : List Nat) (j : Nat), St X Y n (j :: r) → t < j → ∃ pre c e post, j :: r = pre ++ e :: c :: post ∧ c ≤ t ∧ t < e ∧ Nx X Y n c e
  | [], j, h, ht => by have h0 : j = 0 := h; omega
  | i :: r, j, h, ht => by
    by_cases hi : i ≤ t
    · exact ⟨[], i, j, r, rfl, hi, ht, h.1⟩
    · obtain ⟨pre, c, e, post, h1, h2⟩ := st_find t r i h.2 (by omega)
      exact ⟨j :: pre, c, e, post, by rw [h1]; rfl, h2⟩
theorem ptsOf_app (l : List (Int × Int)) (s t : List Nat) : ptsOf l (s ++ t) = ptsOf l t ++ ptsOf l s := by simp [ptsOf]
/-- a face with two ends is a piece -/
theorem face_piece {l : List (Int × Int)} {a b : Int} {p q : Int × Int} (h0 : 0 < l.length) (hi : l.Pairwise (fun a b => a.1 < b.1)) (hb : 0 < b) (h : Face l a b p q) (hpq : p.1 < q.1) :
    ∃ t, t + 1 < (hullP l).length ∧ p = (hullP l).getD t (0, 0) ∧ q = (hullP l).getD (t + 1) (0, 0) := by
  obtain ⟨s, es, hs⟩ := hullP_ex h0 hi
  have hX := pw_inc hi
  obtain ⟨i, hil, rfl⟩ := mem_idx h.hp
  obtain ⟨j, hjl, rfl⟩ := mem_idx h.hq
  have hij : i < j := by
    rcases Nat.lt_trichotomy i j with h1 | h1 | h1
    · exact h1
    · subst h1; omega
    · have := hX j i h1 hil; unfold pX at this; omega
  have w0 : ∀ k, k < l.length → b * pY l i - a * pX l i ≤ b * pY l k - a * pX l k := fun k hk => h.lo _ (getD_mem2 hk)
  have wj : b * pY l i - a * pX l i = b * pY l j - a * pX l j := h.eq
  have dij := hX i j hij hjl
  have nx : Nx (pX l) (pY l) l.length i j := by
    have tr : ∀ (u v : Int), b * (u * (pX l j - pX l i)) - b * ((pY l j - pY l i) * v) = (b * u - a * v) * (pX l j - pX l i) := by
      intro u v
      have e : b * (pY l j - pY l i) = a * (pX l j - pX l i) := by rw [Int.mul_sub, Int.mul_sub]; omega
      have e2 : b * ((pY l j - pY l i) * v) = a * (pX l j - pX l i) * v := by rw [← Int.mul_assoc, e]
      rw [e2]
      grind
    refine ⟨hij, hjl, fun k k1 k2 => ?_, fun k k1 k2 => ?_⟩
    · unfold cr
      have e1 := w0 k (by omega)
      have e2 := tr (pY l k - pY l i) (pX l k - pX l i)
      have e3 : 0 ≤ (b * (pY l k - pY l i) - a * (pX l k - pX l i)) * (pX l j - pX l i) := Int.mul_nonneg (by rw [Int.mul_sub, Int.mul_sub]; omega) (by omega)
      intro hlt
      have := Int.mul_lt_mul_of_pos_left hlt hb
      omega
    · unfold cr
      have e1 : b * pY l i - a * pX l i < b * pY l k - a * pX l k := h.out _ (getD_mem2 k2) (.inr (hX j k k1 k2))
      have e2 := tr (pY l k - pY l i) (pX l k - pX l i)
      have e3 : 0 < (b * (pY l k - pY l i) - a * (pX l k - pX l i)) * (pX l j - pX l i) := Int.mul_pos (by rw [Int.mul_sub, Int.mul_sub]; omega) (by omega)
      exact mcan hb (by omega)
  obtain ⟨pre, c, e, post, e1, c1, c2, nce⟩ := st_find i s (l.length - 1) hs (by omega)
  have hce : c = i ∧ e = j := by
    by_cases hc : c = i
    · subst hc; exact ⟨rfl, nce.uniq nx⟩
    · exfalso
      have dci := hX c i (by omega) hil
      have die := hX i e c2 nce.2.1
      have e2 := nce.2.2.1 i (by omega) c2
      have w1 : b * pY l i - a * pX l i < b * pY l c - a * pX l c := h.out _ (getD_mem2 (by omega)) (.inl dci)
      have w2 := w0 e nce.2.1
      apply e2
      unfold cr
      -- slope(c,i) < a/b <= slope(i,e)
      have f1 : (pY l i - pY l c) * b < a * (pX l i - pX l c) := by rw [Int.mul_comm _ b, Int.mul_sub, Int.mul_sub]; omega
      have f2 : a * (pX l e - pX l i) ≤ (pY l e - pY l i) * b := by rw [Int.mul_comm _ b, Int.mul_sub, Int.mul_sub]; omega
      have f3 := sl_lt (p := pX l i - pX l c) (q := b) (r := pX l e - pX l i) (by omega) hb (by omega) f1 f2
      have r1 : pX l e - pX l c = (pX l e - pX l i) + (pX l i - pX l c) := by omega
      have r2 : pY l e - pY l c = (pY l e - pY l i) + (pY l i - pY l c) := by omega
      rw [r1, r2, Int.mul_add, Int.add_mul]
      omega
  obtain ⟨rfl, rfl⟩ := hce
  rw [es, e1, ptsOf_app]
  refine ⟨post.length, ?_, ?_, ?_⟩
  · rw [List.length_append, ptsOf_len, List.length_cons, List.length_cons]; omega
  · have := ptsOf_next l e c post
    have hl : post.length < (ptsOf l (e :: c :: post)).length := by rw [ptsOf_len]; simp; omega
    simp only [List.getD] at this ⊢
    rw [List.getElem?_append_left hl]
    exact this.symm
  · have := ptsOf_top l e (c :: post)
    have hl : post.length + 1 < (ptsOf l (e :: c :: post)).length := by rw [ptsOf_len]; simp
    simp only [List.getD] at this ⊢
    rw [List.getElem?_append_left hl]
    exact this.symm
/-- each piece is a face -/
theorem pieces_face {l : List (Int × Int)} (h0 : 0 < l.length) (hi : l.Pairwise (fun a b => a.1 < b.1)) {t : Nat} (ht : t + 1 < (hullP l).length) {a b d : Int} (hd : 0 < d)
    (ha : ((hullP l).getD (t + 1) (0, 0)).2 - ((hullP l).getD t (0, 0)).2 = a * d) (hb : ((hullP l).getD (t + 1) (0, 0)).1 - ((hullP l).getD t (0, 0)).1 = b * d) :
    Face l a b ((hullP l).getD t (0, 0)) ((hullP l).getD (t + 1) (0, 0)) := by
  obtain ⟨s, es, hs⟩ := hullP_ex h0 hi
  rw [es] at ht ha hb ⊢
  clear es
  generalize l.length - 1 = j at *
  induction s generalizing j with
  | nil => rw [ptsOf_len] at ht; simp at ht
  | cons i r ih =>
    rw [ptsOf_len] at ht
    simp only [List.length_cons] at ht
    by_cases e : t = r.length
    · subst e
      have e1 := ptsOf_next l j i r
      have e2 := ptsOf_top l j (i :: r)
      rw [List.length_cons] at e2
      rw [e1, e2] at ha hb ⊢
      exact piece_face hi hs hd ha hb
    · have hl : t + 1 < (ptsOf l (i :: r)).length := by rw [ptsOf_len]; simp; omega
      have e1 : ∀ k, k ≤ t + 1 → (ptsOf l (j :: i :: r)).getD k (0, 0) = (ptsOf l (i :: r)).getD k (0, 0) := by
        intro k hk
        rw [ptsOf_cons]
        simp only [List.getD]
        rw [List.getElem?_append_left (by omega)]
      rw [e1 t (by omega), e1 (t + 1) (by omega)] at ha hb ⊢
      apply ih i <;> first | exact hs.2 | exact hl | exact ha | exact hb
theorem Face.uniq {l : List (Int × Int)} {a b : Int} {p q p' q' : Int × Int} (hi : l.Pairwise (fun a b => a.1 < b.1)) (h : Face l a b p q) (h' : Face l a b p' q') : p = p' ∧ q = q' := by
  have e1 : p.1 = p'.1 := by
    rcases Int.lt_trichotomy p.1 p'.1 with h1 | h1 | h1
    · have := h'.out _ h.hp (.inl h1); have := h.lo _ h'.hp; omega
    · exact h1
    · have := h.out _ h'.hp (.inl h1); have := h'.lo _ h.hp; omega
  have e2 : q.1 = q'.1 := by
    have w1 := h.eq; have w2 := h'.eq
    rcases Int.lt_trichotomy q.1 q'.1 with h1 | h1 | h1
    · have := h.out _ h'.hq (.inr h1); have := h'.lo _ h.hp; omega
    · exact h1
    · have := h'.out _ h.hq (.inr h1); have := h.lo _ h'.hp; omega
  have inj : ∀ x ∈ l, ∀ y ∈ l, x.1 = y.1 → x = y := by
    intro x hx y hy e
    obtain ⟨i, hil, rfl⟩ := mem_idx hx
    obtain ⟨j, hjl, rfl⟩ := mem_idx hy
    have hX := pw_inc hi
    rcases Nat.lt_trichotomy i j with h1 | h1 | h1
    · have := hX i j h1 hjl; unfold pX at this; omega
    · rw [h1]
    · have := hX j i h1 hil; unfold pX at this; omega
  exact ⟨inj _ h.hp _ h'.hp e1, inj _ h.hq _ h'.hq e2⟩
end Go.Proofs.Ythdmanngjnfamaa

namespace Go.Proofs.Ythdmanngjnfamaa

abbrev T3 := Int × Int × Int
def sLt (x y : T3) : Prop := x.1 * y.2.1 < y.1 * x.2.1
instance (x y : T3) : Decidable (sLt x y) := by unfold sLt; infer_instance
/-- a slope in lowest terms with a length -/
def Sl1 (x : T3) : Prop := 0 < x.2.1 ∧ Int.gcd x.1 x.2.1 = 1 ∧ 0 < x.2.2
/-- increasing slopes -/
def SlG (l : List T3) : Prop := (∀ x ∈ l, Sl1 x) ∧ l.Pairwise sLt
/-- the length at slope a/b -/
def lk (a b : Int) : List T3 → Int
  | [] => 0
  | x :: r => if x.1 = a ∧ x.2.1 = b then x.2.2 else lk a b r
theorem lk_zero {a b : Int} : ∀ {l : List T3}, (∀ x ∈ l, ¬ (x.1 = a ∧ x.2.1 = b)) → lk a b l = 0
  | [], _ => rfl
  | x :: r, h => by
    unfold lk
    rw [if_neg (h x (by simp))]
    exact lk_zero fun y hy => h y (by simp [hy])
theorem sLt_irr {x y : T3} (h : sLt x y) : ¬ (x.1 = y.1 ∧ x.2.1 = y.2.1) := by
  rintro ⟨h1, h2⟩
  unfold sLt at h
  rw [h1, h2] at h
  omega
theorem sLt_trans {x y z : T3} (hx : Sl1 x) (hy : Sl1 y) (hz : Sl1 z) (h : sLt x y) (h2 : sLt y z) : sLt x z := sl_lt hx.1 hy.1 hz.1 h (Int.le_of_lt h2)
theorem cop_dvd {b a d : Int} (g : Int.gcd a b = 1) (h : b ∣ a * d) : b ∣ d := by
  rw [← Int.natAbs_dvd_natAbs] at h ⊢
  rw [Int.natAbs_mul] at h
  exact Nat.Coprime.dvd_of_dvd_mul_left (by rw [Nat.Coprime, Nat.gcd_comm]; exact g) h
/-- the same slope in lowest terms: the same numbers -/
theorem low_eq {a b c d : Int} (hb : 0 < b) (hd : 0 < d) (g1 : Int.gcd a b = 1) (g2 : Int.gcd c d = 1) (h : a * d = c * b) : a = c ∧ b = d := by
  have h1 : b ∣ d := cop_dvd g1 ⟨c, by rw [h, Int.mul_comm]⟩
  have h2 : d ∣ b := cop_dvd g2 ⟨a, by rw [← h, Int.mul_comm]⟩
  have e : b = d := Int.dvd_antisymm (by omega) (by omega) h1 h2
  subst e
  exact ⟨Int.eq_of_mul_eq_mul_right (by omega) h, rfl⟩
theorem lk_mem {l : List T3} (h : SlG l) {x : T3} (hx : x ∈ l) : lk x.1 x.2.1 l = x.2.2 := by
  induction l with
  | nil => simp at hx
  | cons y r ih =>
    have hp := List.pairwise_cons.1 h.2
    rcases List.mem_cons.1 hx with rfl | hx
    · unfold lk; rw [if_pos ⟨rfl, rfl⟩]
    · have := sLt_irr (hp.1 x hx)
      unfold lk
      rw [if_neg this]
      exact ih ⟨fun z hz => h.1 z (by simp [hz]), hp.2⟩ hx
theorem SlG.tail {x : T3} {r : List T3} (h : SlG (x :: r)) : SlG r := ⟨fun z hz => h.1 z (by simp [hz]), (List.pairwise_cons.1 h.2).2⟩
theorem SlG.head {x : T3} {r : List T3} (h : SlG (x :: r)) : lk x.1 x.2.1 r = 0 := lk_zero fun y hy e => sLt_irr ((List.pairwise_cons.1 h.2).1 y hy) ⟨e.1.symm, e.2.symm⟩
theorem lk_below {x y : T3} {r : List T3} (hx : Sl1 x) (h : SlG (y :: r)) (hl : sLt x y) : lk x.1 x.2.1 (y :: r) = 0 := by
  apply lk_zero
  intro z hz e
  rcases List.mem_cons.1 hz with rfl | hz
  · exact sLt_irr hl ⟨e.1.symm, e.2.symm⟩
  · have := sLt_trans hx (h.1 y (by simp)) (h.1 z (by simp [hz])) hl ((List.pairwise_cons.1 h.2).1 z hz)
    exact sLt_irr this ⟨e.1.symm, e.2.symm⟩
/-- the lengths tell the list -/
theorem lk_ext : ∀ {l m : List T3}, SlG l → SlG m → (∀ a b, 0 < b → Int.gcd a b = 1 → lk a b l = lk a b m) → l = m
  | [], [], _, _, _ => rfl
  | [], y :: m, _, hm, h => by
    have hy := hm.1 y (by simp)
    have := h y.1 y.2.1 hy.1 hy.2.1
    rw [lk_mem hm (by simp)] at this
    have h3 := hy.2.2
    simp [lk] at this
    omega
  | x :: l, [], hl, _, h => by
    have hx := hl.1 x (by simp)
    have := h x.1 x.2.1 hx.1 hx.2.1
    rw [lk_mem hl (by simp)] at this
    have h3 := hx.2.2
    simp [lk] at this
    omega
  | x :: l, y :: m, hl, hm, h => by
    have hx := hl.1 x (by simp)
    have hy := hm.1 y (by simp)
    have ex := h x.1 x.2.1 hx.1 hx.2.1
    have ey := h y.1 y.2.1 hy.1 hy.2.1
    rw [lk_mem hl (by simp)] at ex
    rw [lk_mem hm (by simp)] at ey
    have x3 := hx.2.2
    have y3 := hy.2.2
    have hxy : x.1 = y.1 ∧ x.2.1 = y.2.1 := by
      rcases Int.lt_trichotomy (x.1 * y.2.1) (y.1 * x.2.1) with h1 | h1 | h1
      · rw [lk_below hx hm h1] at ex; omega
      · exact low_eq hx.1 hy.1 hx.2.1 hy.2.1 h1
      · rw [lk_below hy hl h1] at ey; omega
    have e3 : x.2.2 = y.2.2 := by
      rw [ex, hxy.1, hxy.2, lk_mem hm (by simp)]
    have e : x = y := by
      obtain ⟨x1, x2, x4⟩ := x
      obtain ⟨y1, y2, y4⟩ := y
      simp at hxy e3
      rw [hxy.1, hxy.2, e3]
    subst e
    rw [lk_ext hl.tail hm.tail]
    intro a b hb hg
    by_cases e : x.1 = a ∧ x.2.1 = b
    · obtain ⟨rfl, rfl⟩ := e
      rw [hl.head, hm.head]
    · have := h a b hb hg
      unfold lk at this
      rw [if_neg e, if_neg e] at this
      exact this

/-- two lists joined -/
def mg : Nat → List T3 → List T3 → List T3
  | 0, _, _ => []
  | _ + 1, [], [] => []
  | f + 1, x :: r, [] => x :: mg f r []
  | f + 1, [], y :: s => y :: mg f [] s
  | f + 1, x :: r, y :: s => if sLt x y then x :: mg f r (y :: s) else if sLt y x then y :: mg f (x :: r) s else (x.1, x.2.1, x.2.2 + y.2.2) :: mg f r s
theorem mg_mem : ∀ (f : Nat) (l m : List T3), (∀ x ∈ l, Sl1 x) → (∀ x ∈ m, Sl1 x) → ∀ z ∈ mg f l m, Sl1 z ∧ ∃ e, (e ∈ l ∨ e ∈ m) ∧ e.1 = z.1 ∧ e.2.1 = z.2.1
  | 0, l, m, _, _, z, hz => by simp [mg] at hz
  | f + 1, [], [], _, _, z, hz => by simp [mg] at hz
  | f + 1, x :: r, [], h1, h2, z, hz => by
    simp only [mg, List.mem_cons] at hz
    rcases hz with rfl | hz
    · exact ⟨h1 z (by simp), z, by simp, rfl, rfl⟩
    · obtain ⟨a, e, he, b⟩ := mg_mem f r [] (fun x hx => h1 x (by simp [hx])) h2 z hz
      exact ⟨a, e, by rcases he with he | he <;> simp [he] at *, b⟩
  | f + 1, [], y :: s, h1, h2, z, hz => by
    simp only [mg, List.mem_cons] at hz
    rcases hz with rfl | hz
    · exact ⟨h2 z (by simp), z, by simp, rfl, rfl⟩
    · obtain ⟨a, e, he, b⟩ := mg_mem f [] s h1 (fun x hx => h2 x (by simp [hx])) z hz
      exact ⟨a, e, by rcases he with he | he <;> simp [he] at *, b⟩
  | f + 1, x :: r, y :: s, h1, h2, z, hz => by
    have k1 := h1 x (by simp)
    have k2 := h2 y (by simp)
    have q1 : ∀ x ∈ r, Sl1 x := fun x hx => h1 x (by simp [hx])
    have q2 : ∀ x ∈ s, Sl1 x := fun x hx => h2 x (by simp [hx])
    unfold mg at hz
    split at hz
    · rcases List.mem_cons.1 hz with rfl | hz
      · exact ⟨k1, z, by simp, rfl, rfl⟩
      · obtain ⟨a, e, he, b⟩ := mg_mem f r (y :: s) q1 h2 z hz
        exact ⟨a, e, he.imp (fun h => by simp [h]) id, b⟩
    · split at hz
      · rcases List.mem_cons.1 hz with rfl | hz
        · exact ⟨k2, z, by simp, rfl, rfl⟩
        · obtain ⟨a, e, he, b⟩ := mg_mem f (x :: r) s h1 q2 z hz
          exact ⟨a, e, he.imp id (fun h => by simp [h]), b⟩
      · rcases List.mem_cons.1 hz with rfl | hz
        · refine ⟨⟨k1.1, k1.2.1, ?_⟩, x, by simp, rfl, rfl⟩
          have := k1.2.2; have := k2.2.2
          show 0 < x.2.2 + y.2.2
          omega
        · obtain ⟨a, e, he, b⟩ := mg_mem f r s q1 q2 z hz
          exact ⟨a, e, he.imp (fun h => by simp [h]) (fun h => by simp [h]), b⟩
theorem sLt_congr {x y z : T3} (h : sLt x y) (e1 : y.1 = z.1) (e2 : y.2.1 = z.2.1) : sLt x z := by unfold sLt at *; rw [← e1, ← e2]; exact h
theorem mg_lt {f : Nat} {l m : List T3} (h1 : ∀ x ∈ l, Sl1 x) (h2 : ∀ x ∈ m, Sl1 x) {x : T3} (hl : ∀ e ∈ l, sLt x e) (hm : ∀ e ∈ m, sLt x e) : ∀ z ∈ mg f l m, sLt x z := by
  intro z hz
  obtain ⟨_, e, he, e1, e2⟩ := mg_mem f l m h1 h2 z hz
  rcases he with he | he
  · exact sLt_congr (hl e he) e1 e2
  · exact sLt_congr (hm e he) e1 e2
theorem mg_ok : ∀ (f : Nat) (l m : List T3), SlG l → SlG m → SlG (mg f l m)
  | 0, l, m, _, _ => ⟨by simp [mg], by simp [mg]⟩
  | f + 1, [], [], _, _ => ⟨by simp [mg], by simp [mg]⟩
  | f + 1, x :: r, [], h1, h2 => by
    refine ⟨fun z hz => (mg_mem _ _ _ h1.1 h2.1 z hz).1, ?_⟩
    show List.Pairwise sLt (x :: mg f r [])
    rw [List.pairwise_cons]
    exact ⟨mg_lt h1.tail.1 h2.1 (List.pairwise_cons.1 h1.2).1 (by simp), (mg_ok f r [] h1.tail h2).2⟩
  | f + 1, [], y :: s, h1, h2 => by
    refine ⟨fun z hz => (mg_mem _ _ _ h1.1 h2.1 z hz).1, ?_⟩
    show List.Pairwise sLt (y :: mg f [] s)
    rw [List.pairwise_cons]
    exact ⟨mg_lt h1.1 h2.tail.1 (by simp) (List.pairwise_cons.1 h2.2).1, (mg_ok f [] s h1 h2.tail).2⟩
  | f + 1, x :: r, y :: s, h1, h2 => by
    have k1 := h1.1 x (by simp)
    have k2 := h2.1 y (by simp)
    have p1 := (List.pairwise_cons.1 h1.2).1
    have p2 := (List.pairwise_cons.1 h2.2).1
    refine ⟨fun z hz => (mg_mem _ _ _ h1.1 h2.1 z hz).1, ?_⟩
    unfold mg
    split
    · rename_i hl
      rw [List.pairwise_cons]
      refine ⟨mg_lt h1.tail.1 h2.1 p1 ?_, (mg_ok f _ _ h1.tail h2).2⟩
      intro e he
      rcases List.mem_cons.1 he with rfl | he
      · exact hl
      · exact sLt_trans k1 k2 (h2.1 e (by simp [he])) hl (p2 e he)
    · split
      · rename_i _ hl
        rw [List.pairwise_cons]
        refine ⟨mg_lt h1.1 h2.tail.1 ?_ p2, (mg_ok f _ _ h1 h2.tail).2⟩
        intro e he
        rcases List.mem_cons.1 he with rfl | he
        · exact hl
        · exact sLt_trans k2 k1 (h1.1 e (by simp [he])) hl (p1 e he)
      · rename_i n1 n2
        have e : x.1 = y.1 ∧ x.2.1 = y.2.1 := by
          unfold sLt at n1 n2
          exact low_eq k1.1 k2.1 k1.2.1 k2.2.1 (by omega)
        rw [List.pairwise_cons]
        refine ⟨mg_lt h1.tail.1 h2.tail.1 ?_ ?_, (mg_ok f _ _ h1.tail h2.tail).2⟩
        · intro z hz
          exact p1 z hz
        · intro z hz
          have := p2 z hz
          unfold sLt at *
          simp only
          rw [e.1, e.2]
          exact this
theorem mg_lk : ∀ (f : Nat) (l m : List T3), SlG l → SlG m → l.length + m.length ≤ f → ∀ a b, lk a b (mg f l m) = lk a b l + lk a b m
  | 0, l, m, _, _, hf, a, b => by
    have e1 : l = [] := List.eq_nil_of_length_eq_zero (by omega)
    have e2 : m = [] := List.eq_nil_of_length_eq_zero (by omega)
    subst e1; subst e2; rfl
  | f + 1, [], [], _, _, _, a, b => rfl
  | f + 1, x :: r, [], h1, h2, hf, a, b => by
    have ih := mg_lk f r [] h1.tail h2 (by simp at hf ⊢; omega) a b
    show (if _ then _ else _) = (if _ then _ else _) + _
    split
    · simp [lk]
    · exact ih
  | f + 1, [], y :: s, h1, h2, hf, a, b => by
    have ih := mg_lk f [] s h1 h2.tail (by simp at hf ⊢; omega) a b
    show (if _ then _ else _) = _ + (if _ then _ else _)
    split
    · simp [lk]
    · exact ih
  | f + 1, x :: r, y :: s, h1, h2, hf, a, b => by
    have k1 := h1.1 x (by simp)
    have k2 := h2.1 y (by simp)
    simp only [List.length_cons] at hf
    unfold mg
    split
    · rename_i hl
      have ih := mg_lk f r (y :: s) h1.tail h2 (by simp; omega) a b
      by_cases e : x.1 = a ∧ x.2.1 = b
      · obtain ⟨rfl, rfl⟩ := e
        rw [lk_below k1 h2 hl]
        simp [lk]
      · have e1 : ∀ q, lk a b (x :: q) = lk a b q := fun q => by show (if _ then _ else _) = _; rw [if_neg e]
        rw [e1, e1, ih]
    · split
      · rename_i _ hl
        have ih := mg_lk f (x :: r) s h1 h2.tail (by simp; omega) a b
        by_cases e : y.1 = a ∧ y.2.1 = b
        · obtain ⟨rfl, rfl⟩ := e
          rw [lk_below k2 h1 hl]
          simp [lk]
        · have e1 : ∀ q, lk a b (y :: q) = lk a b q := fun q => by show (if _ then _ else _) = _; rw [if_neg e]
          rw [e1, e1, ih]
      · rename_i n1 n2
        have e : x.1 = y.1 ∧ x.2.1 = y.2.1 := by
          unfold sLt at n1 n2
          exact low_eq k1.1 k2.1 k1.2.1 k2.2.1 (by omega)
        have ih := mg_lk f r s h1.tail h2.tail (by omega) a b
        show (if x.1 = a ∧ x.2.1 = b then x.2.2 + y.2.2 else lk a b (mg f r s)) = (if _ then _ else _) + (if _ then _ else _)
        by_cases e2 : x.1 = a ∧ x.2.1 = b
        · rw [if_pos e2, if_pos e2, if_pos (by rw [← e.1, ← e.2]; exact e2)]
        · rw [if_neg e2, if_neg e2, if_neg (by rw [← e.1, ← e.2]; exact e2), ih]
end Go.Proofs.Ythdmanngjnfamaa

namespace Go.Proofs.Ythdmanngjnfamaa

/-! ### the pieces of a polygon as a list of slopes -/
def pcT (x y : Int × Int) : T3 := ((y.2 - x.2).tdiv (Int.gcd (y.2 - x.2) (y.1 - x.1) : Int), (y.1 - x.1).tdiv (Int.gcd (y.2 - x.2) (y.1 - x.1) : Int), y.1 - x.1)
def slT (cs : List (Int × Int)) : List T3 := (List.range (cs.length - 1)).map fun t => pcT (cs.getD t (0, 0)) (cs.getD (t + 1) (0, 0))
theorem pc_facts {x y : Int × Int} (h : x.1 < y.1) : ∃ d : Int, 0 < d ∧ y.2 - x.2 = (pcT x y).1 * d ∧ y.1 - x.1 = (pcT x y).2.1 * d ∧ Sl1 (pcT x y) := by
  have hg : 0 < (Int.gcd (y.2 - x.2) (y.1 - x.1) : Int) := by
    have : 0 < Int.gcd (y.2 - x.2) (y.1 - x.1) := Int.gcd_pos_of_ne_zero_right _ (by omega)
    omega
  have hgn : 0 < Int.gcd (y.2 - x.2) (y.1 - x.1) := by omega
  have e1 : (y.2 - x.2).tdiv (Int.gcd (y.2 - x.2) (y.1 - x.1) : Int) * (Int.gcd (y.2 - x.2) (y.1 - x.1) : Int) = y.2 - x.2 := Int.tdiv_mul_cancel (Int.gcd_dvd_left ..)
  have e2 : (y.1 - x.1).tdiv (Int.gcd (y.2 - x.2) (y.1 - x.1) : Int) * (Int.gcd (y.2 - x.2) (y.1 - x.1) : Int) = y.1 - x.1 := Int.tdiv_mul_cancel (Int.gcd_dvd_right ..)
  have e3 : Int.gcd (pcT x y).1 (pcT x y).2.1 = 1 := by
    have h1 := Int.gcd_mul_right (pcT x y).1 (Int.gcd (y.2 - x.2) (y.1 - x.1) : Int) (pcT x y).2.1
    have a1 : (pcT x y).1 * (Int.gcd (y.2 - x.2) (y.1 - x.1) : Int) = y.2 - x.2 := e1
    have a2 : (pcT x y).2.1 * (Int.gcd (y.2 - x.2) (y.1 - x.1) : Int) = y.1 - x.1 := e2
    rw [a1, a2, Int.natAbs_natCast] at h1
    exact Nat.eq_of_mul_eq_mul_right hgn (by rw [Nat.one_mul]; exact h1.symm)
  refine ⟨_, hg, e1.symm, e2.symm, ?_, e3, ?_⟩
  · rcases Int.lt_or_le 0 (pcT x y).2.1 with h1 | h1
    · exact h1
    · have h2 := Int.mul_nonpos_of_nonpos_of_nonneg h1 (Int.le_of_lt hg)
      have a2 : (pcT x y).2.1 * (Int.gcd (y.2 - x.2) (y.1 - x.1) : Int) = y.1 - x.1 := e2
      omega
  · show 0 < y.1 - x.1
    omega
section
variable {l : List (Int × Int)}
theorem hull_lt (h0 : 0 < l.length) (hi : l.Pairwise (fun a b => a.1 < b.1)) {s t : Nat} (h : s < t) (ht : t < (hullP l).length) : ((hullP l).getD s (0, 0)).1 < ((hullP l).getD t (0, 0)).1 :=
  pw_inc (hullP_inc h0 hi) s t h ht
theorem slT_len (cs : List (Int × Int)) : (slT cs).length = cs.length - 1 := by simp [slT]
theorem slT_mem {cs : List (Int × Int)} {x : T3} (h : x ∈ slT cs) : ∃ t, t + 1 < cs.length ∧ x = pcT (cs.getD t (0, 0)) (cs.getD (t + 1) (0, 0)) := by
  unfold slT at h
  obtain ⟨t, ht, rfl⟩ := List.mem_map.1 h
  have := List.mem_range.1 ht
  exact ⟨t, by omega, rfl⟩
theorem slT_has {cs : List (Int × Int)} {t : Nat} (h : t + 1 < cs.length) : pcT (cs.getD t (0, 0)) (cs.getD (t + 1) (0, 0)) ∈ slT cs :=
  List.mem_map.2 ⟨t, List.mem_range.2 (by omega), rfl⟩
theorem pc_face (h0 : 0 < l.length) (hi : l.Pairwise (fun a b => a.1 < b.1)) {t : Nat} (ht : t + 1 < (hullP l).length) :
    Face l (pcT ((hullP l).getD t (0, 0)) ((hullP l).getD (t + 1) (0, 0))).1 (pcT ((hullP l).getD t (0, 0)) ((hullP l).getD (t + 1) (0, 0))).2.1 ((hullP l).getD t (0, 0)) ((hullP l).getD (t + 1) (0, 0)) := by
  obtain ⟨d, hd, e1, e2, _⟩ := pc_facts (hull_lt h0 hi (Nat.lt_succ_self t) ht)
  exact pieces_face h0 hi ht hd e1 e2
theorem slT_lt (h0 : 0 < l.length) (hi : l.Pairwise (fun a b => a.1 < b.1)) {s t : Nat} (hst : s < t) (ht : t + 1 < (hullP l).length) :
    sLt (pcT ((hullP l).getD s (0, 0)) ((hullP l).getD (s + 1) (0, 0))) (pcT ((hullP l).getD t (0, 0)) ((hullP l).getD (t + 1) (0, 0))) := by
  have fs := pc_face h0 hi (t := s) (by omega)
  have ft := pc_face h0 hi ht
  obtain ⟨_, _, _, _, s1⟩ := pc_facts (hull_lt h0 hi (Nat.lt_succ_self s) (by omega))
  obtain ⟨_, _, _, _, t1⟩ := pc_facts (hull_lt h0 hi (Nat.lt_succ_self t) ht)
  have x1 := hull_lt h0 hi hst (by omega)
  have x2 := hull_lt h0 hi (show s + 1 < t + 1 by omega) ht
  have w1 := ft.out _ fs.hp (.inl x1)
  rw [ft.eq] at w1
  have w2 := fs.out _ ft.hq (.inr x2)
  have x3 := hull_lt h0 hi (show s < t + 1 by omega) ht
  generalize pcT ((hullP l).getD s (0, 0)) ((hullP l).getD (s + 1) (0, 0)) = u at *
  generalize pcT ((hullP l).getD t (0, 0)) ((hullP l).getD (t + 1) (0, 0)) = v at *
  generalize (hullP l).getD s (0, 0) = p at *
  generalize (hullP l).getD (t + 1) (0, 0) = q at *
  unfold wt at w1 w2
  unfold sLt
  refine sl_lt (u := u.1) (p := u.2.1) (v := q.2 - p.2) (q := q.1 - p.1) (w := v.1) (r := v.2.1) s1.1 (by omega) t1.1 ?_ ?_
  · rw [Int.mul_comm _ u.2.1, Int.mul_sub, Int.mul_sub]; omega
  · rw [Int.mul_comm _ v.2.1, Int.mul_sub, Int.mul_sub]; omega
theorem slT_ok (h0 : 0 < l.length) (hi : l.Pairwise (fun a b => a.1 < b.1)) : SlG (slT (hullP l)) := by
  refine ⟨fun x hx => ?_, ?_⟩
  · obtain ⟨t, ht, rfl⟩ := slT_mem hx
    obtain ⟨_, _, _, _, h⟩ := pc_facts (hull_lt h0 hi (Nat.lt_succ_self t) ht)
    exact h
  · unfold slT
    rw [List.pairwise_map]
    refine List.Pairwise.imp_of_mem ?_ (List.pairwise_lt_range (n := (hullP l).length - 1))
    intro s t hs ht hst
    have := List.mem_range.1 ht
    exact slT_lt h0 hi hst (by omega)
/-- the length at a slope is the length of its face -/
theorem lk_face (h0 : 0 < l.length) (hi : l.Pairwise (fun a b => a.1 < b.1)) {a b : Int} {p q : Int × Int} (hb : 0 < b) (hg : Int.gcd a b = 1) (h : Face l a b p q) : lk a b (slT (hullP l)) = q.1 - p.1 := by
  have hok := slT_ok h0 hi
  by_cases hpq : p.1 < q.1
  · obtain ⟨t, ht, rfl, rfl⟩ := face_piece h0 hi hb h hpq
    obtain ⟨d, hd, e1, e2, s1⟩ := pc_facts (hull_lt h0 hi (Nat.lt_succ_self t) ht)
    have hm := lk_mem hok (slT_has ht)
    have hw := h.eq
    have e : (pcT ((hullP l).getD t (0, 0)) ((hullP l).getD (t + 1) (0, 0))).1 = a ∧ (pcT ((hullP l).getD t (0, 0)) ((hullP l).getD (t + 1) (0, 0))).2.1 = b := by
      refine low_eq s1.1 hb s1.2.1 hg ?_
      generalize pcT ((hullP l).getD t (0, 0)) ((hullP l).getD (t + 1) (0, 0)) = u at *
      unfold wt at hw
      have e3 : b * (((hullP l).getD (t + 1) (0, 0)).2 - ((hullP l).getD t (0, 0)).2) = a * (((hullP l).getD (t + 1) (0, 0)).1 - ((hullP l).getD t (0, 0)).1) := by
        rw [Int.mul_sub, Int.mul_sub]; omega
      rw [e1, e2] at e3
      have e4 : (u.1 * b) * d = (a * u.2.1) * d := by grind
      exact Int.eq_of_mul_eq_mul_right (by omega) e4
    rw [e.1, e.2] at hm
    exact hm
  · have e : p.1 = q.1 := by have := h.le; omega
    rw [e, Int.sub_self]
    apply lk_zero
    rintro x hx ⟨rfl, rfl⟩
    obtain ⟨t, ht, rfl⟩ := slT_mem hx
    have ⟨u1, u2⟩ := h.uniq hi (pc_face h0 hi ht)
    have := hull_lt h0 hi (Nat.lt_succ_self t) ht
    rw [u1, u2] at hpq
    exact hpq this
end
theorem face_ex (a b : Int) : ∀ (l : List (Int × Int)), l ≠ [] → l.Pairwise (fun a b => a.1 < b.1) → ∃ p q, Face l a b p q
  | [], h, _ => absurd rfl h
  | [x], _, _ => ⟨x, x, by simp, by simp, Int.le_refl _, rfl, by simp, by simp⟩
  | x :: y :: r, _, hi => by
    have ⟨h1, h2⟩ := List.pairwise_cons.1 hi
    obtain ⟨p, q, h⟩ := face_ex a b (y :: r) (by simp) h2
    have xp := h1 p h.hp
    have xq := h1 q h.hq
    rcases Int.lt_trichotomy (wt a b x) (wt a b p) with hw | hw | hw
    · refine ⟨x, x, by simp, by simp, Int.le_refl _, rfl, fun z hz => ?_, fun z hz ho => ?_⟩
      · rcases List.mem_cons.1 hz with rfl | hz
        · exact Int.le_refl _
        · have := h.lo z hz; omega
      · rcases List.mem_cons.1 hz with rfl | hz
        · omega
        · have := h.lo z hz; omega
    · refine ⟨x, q, by simp, List.mem_cons_of_mem _ h.hq, by omega, hw.trans h.eq, fun z hz => ?_, fun z hz ho => ?_⟩
      · rcases List.mem_cons.1 hz with rfl | hz
        · exact Int.le_refl _
        · have := h.lo z hz; omega
      · rcases List.mem_cons.1 hz with rfl | hz
        · omega
        · have e1 := h1 z hz
          have := h.out z hz (.inr (by omega))
          omega
    · refine ⟨p, q, List.mem_cons_of_mem _ h.hp, List.mem_cons_of_mem _ h.hq, h.le, h.eq, fun z hz => ?_, fun z hz ho => ?_⟩
      · rcases List.mem_cons.1 hz with rfl | hz
        · omega
        · exact h.lo z hz
      · rcases List.mem_cons.1 hz with rfl | hz
        · exact hw
        · exact h.out z hz ho

/-! ### products -/
/-- a valuation -/
structure IsVal (v : Int → Nat) : Prop where
  mul : ∀ x y, ¬ x = 0 → ¬ y = 0 → v (x * y) = v x + v y
  add : ∀ x y, ¬ x = 0 → ¬ y = 0 → ¬ x + y = 0 → v x ≤ v (x + y) ∨ v y ≤ v (x + y)
  addl : ∀ x y, ¬ x = 0 → ¬ y = 0 → v x < v y → ¬ x + y = 0 ∧ v (x + y) = v x
/-- the coefficient c at place k lies at M or above -/
def Gd (v : Int → Nat) (a b : Int) (k : Nat) (M c : Int) : Prop := c = 0 ∨ M ≤ b * (v c : Int) - a * k
theorem Gd.add {v : Int → Nat} (hv : IsVal v) {a b : Int} (hb : 0 < b) {k : Nat} {M c d : Int} (h1 : Gd v a b k M c) (h2 : Gd v a b k M d) : Gd v a b k M (c + d) := by
  by_cases hc : c = 0
  · rw [hc, Int.zero_add]; exact h2
  · by_cases hd : d = 0
    · rw [hd, Int.add_zero]; exact h1
    · by_cases hs : c + d = 0
      · exact .inl hs
      · have e1 := h1.resolve_left hc
        have e2 := h2.resolve_left hd
        right
        rcases hv.add c d hc hd hs with h | h
        · have := Int.mul_le_mul_of_nonneg_left (show (v c : Int) ≤ (v (c + d) : Int) by omega) (Int.le_of_lt hb)
          omega
        · have := Int.mul_le_mul_of_nonneg_left (show (v d : Int) ≤ (v (c + d) : Int) by omega) (Int.le_of_lt hb)
          omega
theorem Gd.mono {v : Int → Nat} {a b : Int} {k : Nat} {M N c : Int} (h : Gd v a b k N c) (hM : M ≤ N) : Gd v a b k M c := h.imp id fun h => Int.le_trans hM h
/-- it lies at M just so -/
def Ex (v : Int → Nat) (a b : Int) (k : Nat) (M c : Int) : Prop := ¬ c = 0 ∧ b * (v c : Int) - a * k = M
theorem Ex.add {v : Int → Nat} (hv : IsVal v) {a b : Int} (hb : 0 < b) {k : Nat} {M c d : Int} (h1 : Ex v a b k M c) (h2 : Gd v a b k (M + 1) d) : Ex v a b k M (c + d) := by
  by_cases hd : d = 0
  · rw [hd, Int.add_zero]; exact h1
  · have e2 := h2.resolve_left hd
    have e1 := h1.2
    have hlt : v c < v d := by
      apply Decidable.byContradiction
      intro hn
      have := Int.mul_le_mul_of_nonneg_left (show (v d : Int) ≤ (v c : Int) by omega) (Int.le_of_lt hb)
      omega
    have ⟨h3, h4⟩ := hv.addl c d h1.1 hd hlt
    exact ⟨h3, by rw [h4]; exact e1⟩
/-- row i of a product at place m -/
def rwF (f g : List Int) (i m : Nat) : Int := if i ≤ m then f.getD i 0 * g.getD (m - i) 0 else 0
def cvP (f g : List Int) : Nat → Nat → Int
  | 0, _ => 0
  | i + 1, m => cvP f g i m + rwF f g i m
/-- all coefficients lie at M or above -/
def Lo (v : Int → Nat) (a b M : Int) (f : List Int) : Prop := ∀ i, Gd v a b i M (f.getD i 0)
section
variable {v : Int → Nat} {a b M N : Int} {f g : List Int}
theorem rw_gd (hv : IsVal v) {i j : Nat} {A B : Int} (h1 : Gd v a b i A (f.getD i 0)) (h2 : Gd v a b j B (g.getD j 0)) : Gd v a b (i + j) (A + B) (f.getD i 0 * g.getD j 0) := by
  by_cases hc : f.getD i 0 = 0
  · left; rw [hc, Int.zero_mul]
  · by_cases hd : g.getD j 0 = 0
    · left; rw [hd, Int.mul_zero]
    · right
      have e1 := h1.resolve_left hc
      have e2 := h2.resolve_left hd
      rw [hv.mul _ _ hc hd]
      have r1 : b * ((v (f.getD i 0) + v (g.getD j 0) : Nat) : Int) = b * (v (f.getD i 0) : Int) + b * (v (g.getD j 0) : Int) := by rw [Int.natCast_add, Int.mul_add]
      have r2 : a * ((i + j : Nat) : Int) = a * i + a * j := by rw [Int.natCast_add, Int.mul_add]
      rw [r1, r2]
      omega
theorem cv_gd (hv : IsVal v) (hb : 0 < b) {m : Nat} {C : Int} (n : Nat) (h : ∀ i, i < n → i ≤ m → Gd v a b m C (f.getD i 0 * g.getD (m - i) 0)) : Gd v a b m C (cvP f g n m) := by
  induction n with
  | zero => exact .inl rfl
  | succ n ih =>
    refine (ih fun i hi => h i (by omega)).add hv hb ?_
    unfold rwF
    split
    · exact h n (by omega) (by assumption)
    · exact .inl rfl
theorem cv_ex (hv : IsVal v) (hb : 0 < b) {m P : Nat} {C : Int} (n : Nat) (hP : P < n) (hPm : P ≤ m) (h0 : Ex v a b m C (f.getD P 0 * g.getD (m - P) 0))
    (h : ∀ i, i < n → i ≤ m → i ≠ P → Gd v a b m (C + 1) (f.getD i 0 * g.getD (m - i) 0)) : Ex v a b m C (cvP f g n m) := by
  induction n with
  | zero => omega
  | succ n ih =>
    by_cases e : P = n
    · subst e
      have h1 := cv_gd (f := f) (g := g) hv hb (m := m) (C := C + 1) P (fun i hi him => h i (by omega) him (by omega))
      have h2 : Ex v a b m C (rwF f g P m) := by unfold rwF; rw [if_pos hPm]; exact h0
      have := h2.add hv hb h1
      show Ex v a b m C (cvP f g P m + rwF f g P m)
      rw [Int.add_comm]
      exact this
    · refine (ih (by omega) fun i hi him hne => h i (by omega) him hne).add hv hb ?_
      unfold rwF
      split
      · exact h n (by omega) (by assumption) (by omega)
      · exact .inl rfl
end
theorem pt_iff {v : Int → Nat} {f : List Int} {x : Int × Int} : x ∈ ptF v f f.length ↔ ∃ i : Nat, ¬ f.getD i 0 = 0 ∧ x = ((i : Int), (v (f.getD i 0) : Int)) := by
  constructor
  · intro h
    obtain ⟨i, _, h1, h2⟩ := ptF_mem h
    exact ⟨i, h1, h2⟩
  · rintro ⟨i, h1, rfl⟩
    refine ptF_has ?_ h1
    rcases Nat.lt_or_ge i f.length with h | h
    · exact h
    · exact absurd (by simp [List.getD, List.getElem?_eq_none h]) h1
/-- a face in terms of coefficients -/
theorem face_gd {v : Int → Nat} {f : List Int} {a b : Int} {p q : Int × Int} (h : Face (ptF v f f.length) a b p q) :
    ∃ P Q : Nat, p.1 = P ∧ q.1 = Q ∧ P < f.length ∧ Q < f.length ∧ Ex v a b P (wt a b p) (f.getD P 0) ∧ Ex v a b Q (wt a b p) (f.getD Q 0) ∧ Lo v a b (wt a b p) f ∧ ∀ i, i < P ∨ Q < i → Gd v a b i (wt a b p + 1) (f.getD i 0) := by
  obtain ⟨P, P1, P2, rfl⟩ := ptF_mem h.hp
  obtain ⟨Q, Q1, Q2, rfl⟩ := ptF_mem h.hq
  refine ⟨P, Q, rfl, rfl, P1, Q1, ⟨P2, rfl⟩, ⟨Q2, h.eq.symm⟩, fun i => ?_, fun i hi => ?_⟩
  · by_cases h0 : f.getD i 0 = 0
    · exact .inl h0
    · exact .inr (h.lo _ (pt_iff.2 ⟨i, h0, rfl⟩))
  · by_cases h0 : f.getD i 0 = 0
    · exact .inl h0
    · have := h.out _ (pt_iff.2 ⟨i, h0, rfl⟩) (by simp; omega)
      exact .inr (by unfold wt at *; simp only at *; omega)
/-- the face of a product -/
theorem face_mul {v : Int → Nat} (hv : IsVal v) {f g h : List Int} {a b : Int} {p q p' q' : Int × Int} (hb : 0 < b) (hh : ∀ k, h.getD k 0 = cvP f g f.length k)
    (hf : Face (ptF v f f.length) a b p q) (hg : Face (ptF v g g.length) a b p' q') :
    ∃ s t, Face (ptF v h h.length) a b s t ∧ t.1 - s.1 = (q.1 - p.1) + (q'.1 - p'.1) := by
  obtain ⟨P, Q, eP, eQ, lP, lQ, exP, exQ, lof, outf⟩ := face_gd hf
  obtain ⟨P', Q', eP', eQ', lP', lQ', exP', exQ', log, outg⟩ := face_gd hg
  have hPQ : P ≤ Q := by have := hf.le; omega
  have hPQ' : P' ≤ Q' := by have := hg.le; omega
  generalize wt a b p = M at *
  generalize wt a b p' = N at *
  have exm : ∀ {i j : Nat}, Ex v a b i M (f.getD i 0) → Ex v a b j N (g.getD j 0) → Ex v a b (i + j) (M + N) (f.getD i 0 * g.getD j 0) := by
    intro i j h1 h2
    refine ⟨Int.mul_ne_zero h1.1 h2.1, ?_⟩
    rw [hv.mul _ _ h1.1 h2.1]
    have r1 : b * ((v (f.getD i 0) + v (g.getD j 0) : Nat) : Int) = b * (v (f.getD i 0) : Int) + b * (v (g.getD j 0) : Int) := by rw [Int.natCast_add, Int.mul_add]
    have r2 : a * ((i + j : Nat) : Int) = a * i + a * j := by rw [Int.natCast_add, Int.mul_add]
    have := h1.2; have := h2.2
    rw [r1, r2]
    omega
  have term : ∀ {m i : Nat}, i ≤ m → Gd v a b m (M + N) (f.getD i 0 * g.getD (m - i) 0) := by
    intro m i hi
    have := rw_gd hv (lof i) (log (m - i))
    rw [show i + (m - i) = m by omega] at this
    exact this
  have terml : ∀ {m i : Nat}, i ≤ m → (i < P ∨ Q < i) ∨ (m - i < P' ∨ Q' < m - i) → Gd v a b m (M + N + 1) (f.getD i 0 * g.getD (m - i) 0) := by
    intro m i hi ho
    rcases ho with ho | ho
    · have := rw_gd hv (outf i ho) (log (m - i))
      rw [show i + (m - i) = m by omega, show M + 1 + N = M + N + 1 by omega] at this
      exact this
    · have := rw_gd hv (lof i) (outg (m - i) ho)
      rw [show i + (m - i) = m by omega, show M + (N + 1) = M + N + 1 by omega] at this
      exact this
  have lo : ∀ m, Gd v a b m (M + N) (h.getD m 0) := fun m => by
    rw [hh]; exact cv_gd hv hb _ (fun i _ hi => term hi)
  have out : ∀ m, m < P + P' ∨ Q + Q' < m → Gd v a b m (M + N + 1) (h.getD m 0) := fun m hm => by
    rw [hh]; exact cv_gd hv hb _ (fun i _ hi => terml hi (by omega))
  have e1 : Ex v a b (P + P') (M + N) (h.getD (P + P') 0) := by
    rw [hh]
    refine cv_ex hv hb (P := P) _ lP (by omega) ?_ (fun i _ hi hne => terml hi (by omega))
    rw [show P + P' - P = P' by omega]
    exact exm exP exP'
  have e2 : Ex v a b (Q + Q') (M + N) (h.getD (Q + Q') 0) := by
    rw [hh]
    refine cv_ex hv hb (P := Q) _ lQ (by omega) ?_ (fun i _ hi hne => terml hi (by omega))
    rw [show Q + Q' - Q = Q' by omega]
    exact exm exQ exQ'
  refine ⟨(((P + P' : Nat) : Int), (v (h.getD (P + P') 0) : Int)), (((Q + Q' : Nat) : Int), (v (h.getD (Q + Q') 0) : Int)), ⟨pt_iff.2 ⟨_, e1.1, rfl⟩, pt_iff.2 ⟨_, e2.1, rfl⟩, by simp; omega, ?_, ?_, ?_⟩, by simp only [eP, eQ, eP', eQ']; omega⟩
  · exact e1.2.trans e2.2.symm
  · intro x hx
    obtain ⟨i, h0, rfl⟩ := pt_iff.1 hx
    have := (lo i).resolve_left h0
    have := e1.2
    unfold wt
    simp only at *
    omega
  · intro x hx ho
    obtain ⟨i, h0, rfl⟩ := pt_iff.1 hx
    have := (out i (by simp only at ho; omega)).resolve_left h0
    have := e1.2
    unfold wt
    simp only at *
    omega
/-- the slopes of a product -/
theorem slT_mul {v : Int → Nat} (hv : IsVal v) {f g h : List Int} (hh : ∀ k, h.getD k 0 = cvP f g f.length k) (hf : ptF v f f.length ≠ []) (hg : ptF v g g.length ≠ []) {fu : Nat}
    (hfu : (slT (hullP (ptF v f f.length))).length + (slT (hullP (ptF v g g.length))).length ≤ fu) :
    slT (hullP (ptF v h h.length)) = mg fu (slT (hullP (ptF v f f.length))) (slT (hullP (ptF v g g.length))) := by
  have pf := ptF_inc v f f.length
  have pg := ptF_inc v g g.length
  have ph := ptF_inc v h h.length
  have f0 := List.length_pos_iff.2 hf
  have g0 := List.length_pos_iff.2 hg
  have h0 : 0 < (ptF v h h.length).length := by
    obtain ⟨p, q, fp⟩ := face_ex 0 1 _ hf pf
    obtain ⟨p', q', gp⟩ := face_ex 0 1 _ hg pg
    obtain ⟨s, t, hp, _⟩ := face_mul hv (by omega) hh fp gp
    exact List.length_pos_of_mem hp.hp
  have of_ := slT_ok f0 pf
  have og := slT_ok g0 pg
  refine lk_ext (slT_ok h0 ph) (mg_ok _ _ _ of_ og) fun a b hb hgc => ?_
  rw [mg_lk fu _ _ of_ og hfu]
  obtain ⟨p, q, fp⟩ := face_ex a b _ hf pf
  obtain ⟨p', q', gp⟩ := face_ex a b _ hg pg
  obtain ⟨s, t, hp, e⟩ := face_mul hv hb hh fp gp
  rw [lk_face f0 pf hb hgc fp, lk_face g0 pg hb hgc gp, lk_face h0 ph hb hgc hp, e]
end Go.Proofs.Ythdmanngjnfamaa
