
/- The slopes of polygons: joined either way round, and those of a product. -/
import Derived.Test.YthdmanngjnfamaaPvl
import Derived.Test.YthdmanngjnfamaaVlm
import Derived.Test.YthdmanngjnfamaaCws
import Derived.Test.YthdmanngjnfamaaJn0
import Derived.Test.YthdmanngjnfamaaSlopesOf
namespace Go.Proofs.Ythdmanngjnfamaa

/-- joined the other way round -/
theorem jn_swap {zs ys : List Int} {n m : Nat} (hz : ∀ i, i < n → 0 < sQ zs i ∧ Int.gcd (sR zs i) (sQ zs i) = 1) (hy : ∀ k, k < m → 0 < sQ ys k ∧ Int.gcd (sR ys k) (sQ ys k) = 1) :
    ∀ f i k, i ≤ n → k ≤ m → jnF zs ys n m f i k = jnF ys zs m n f k i
  | 0, _, _, _, _ => rfl
  | f + 1, i, k, hi, hk => by
    by_cases h1 : i = n
    · by_cases h2 : k = m
      · rw [jn_end (zs := zs) (ys := ys) (n := n) (m := m) (i := i) (k := k) (by omega) (by omega), jn_end (zs := ys) (ys := zs) (n := m) (m := n) (i := k) (k := i) (by omega) (by omega)]
      · have hkm : k < m := by omega
        rw [jn_b (zs := zs) (ys := ys) (n := n) (f := f) (i := i) hkm (.inl h1), jn_a (zs := ys) (ys := zs) (m := n) (f := f) (k := i) hkm (.inl h1), jn_swap hz hy f i (k + 1) hi (by omega)]
    · have hin : i < n := by omega
      by_cases h2 : k = m
      · rw [jn_a (zs := zs) (ys := ys) (m := m) (f := f) (k := k) hin (.inl h2), jn_b (zs := ys) (ys := zs) (n := m) (f := f) (i := k) hin (.inl h2), jn_swap hz hy f (i + 1) k (by omega) hk]
      · have hkm : k < m := by omega
        by_cases h3 : sR zs i * sQ ys k < sR ys k * sQ zs i
        · rw [jn_a (zs := zs) (ys := ys) (m := m) (f := f) (k := k) hin (.inr h3), jn_b (zs := ys) (ys := zs) (n := m) (f := f) (i := k) hin (.inr h3), jn_swap hz hy f (i + 1) k (by omega) hk]
        · by_cases h4 : sR ys k * sQ zs i < sR zs i * sQ ys k
          · rw [jn_b (zs := zs) (ys := ys) (n := n) (f := f) (i := i) hkm (.inr h4), jn_a (zs := ys) (ys := zs) (m := n) (f := f) (k := i) hkm (.inr h4), jn_swap hz hy f i (k + 1) hi (by omega)]
          · have ⟨e1, e2⟩ := low_eq (hz i hin).1 (hy k hkm).1 (hz i hin).2 (hy k hkm).2 (show sR zs i * sQ ys k = sR ys k * sQ zs i by omega)
            rw [jn_c (zs := zs) (ys := ys) (f := f) hin hkm h3 h4, jn_c (zs := ys) (ys := zs) (f := f) hkm hin h4 h3, jn_swap hz hy f (i + 1) (k + 1) (by omega) (by omega), e1, e2, Int.add_comm]
theorem joR_swap (zs : List Int) (n : Nat) (ys : List Int) (m : Nat) : joR zs n ys m = joR ys m zs n := by
  unfold joR
  by_cases h : slB zs n = true ∧ slB ys m = true
  · have hz := slB_yes h.1
    have hy := slB_yes h.2
    rw [if_pos h, if_pos ⟨h.2, h.1⟩]
    have e : jnL zs ys n m = jnL ys zs m n := by
      unfold jnL
      rw [Nat.add_comm m n]
      exact jn_swap (fun i hi => by have := (hz.1 i hi).1; exact ⟨by have := this.1.1; omega, this.2.2.1⟩) (fun i hi => by have := (hy.1 i hi).1; exact ⟨by have := this.1.1; omega, this.2.2.1⟩) _ 0 0 (Nat.zero_le _) (Nat.zero_le _)
    rw [e]
  · rw [if_neg h, if_neg (fun h2 => h ⟨h2.2, h2.1⟩)]
/-- slopes laid flat -/
def fl3 (l : List T3) : List Int := l.flatMap fun x => [x.1, x.2.1, x.2.2]
theorem fl3_cons (x : T3) (l : List T3) : fl3 (x :: l) = [x.1, x.2.1, x.2.2] ++ fl3 l := rfl
theorem fl3_len : ∀ l : List T3, (fl3 l).length = l.length * 3
  | [] => rfl
  | x :: l => by
    rw [fl3_cons, List.length_append, fl3_len l, List.length_cons]
    simp only [List.length_cons, List.length_nil]
    omega
theorem fl3_at : ∀ (l : List T3) (i : Nat) (h : i < l.length), sR (fl3 l) i = l[i].1 ∧ sQ (fl3 l) i = l[i].2.1 ∧ sT (fl3 l) i = l[i].2.2
  | x :: l, 0, _ => ⟨rfl, rfl, rfl⟩
  | x :: l, i + 1, h => by
    have ih := fl3_at l i (by simpa using h)
    have e : fl3 (x :: l) = x.1 :: x.2.1 :: x.2.2 :: fl3 l := rfl
    unfold sR sQ sT at *
    rw [e, show (i + 1) * 3 = i * 3 + 1 + 1 + 1 by omega, show i * 3 + 1 + 1 + 1 + 1 = i * 3 + 1 + 1 + 1 + 1 from rfl, show i * 3 + 1 + 1 + 1 + 2 = i * 3 + 2 + 1 + 1 + 1 by omega]
    simp only [List.getD_cons_succ, List.getElem_cons_succ]
    exact ih
theorem jn_mg (l m : List T3) : ∀ f i k, i ≤ l.length → k ≤ m.length → jnF (fl3 l) (fl3 m) l.length m.length f i k = fl3 (mg f (l.drop i) (m.drop k))
  | 0, _, _, _, _ => rfl
  | f + 1, i, k, hi, hk => by
    by_cases h1 : i = l.length
    · by_cases h2 : k = m.length
      · rw [jn_end (zs := fl3 l) (ys := fl3 m) (n := l.length) (m := m.length) (i := i) (k := k) (by omega) (by omega), List.drop_of_length_le (show l.length ≤ i by omega), List.drop_of_length_le (show m.length ≤ k by omega)]; rfl
      · have hkm : k < m.length := by omega
        have ⟨k1, k2, k3⟩ := fl3_at m k hkm
        rw [jn_b (zs := fl3 l) (ys := fl3 m) (n := l.length) (f := f) (i := i) hkm (.inl h1), jn_mg l m f i (k + 1) hi (by omega), List.drop_of_length_le (show l.length ≤ i by omega), List.drop_eq_getElem_cons hkm, k1, k2, k3]
        rfl
    · have hin : i < l.length := by omega
      have ⟨i1, i2, i3⟩ := fl3_at l i hin
      by_cases h2 : k = m.length
      · rw [jn_a (zs := fl3 l) (ys := fl3 m) (m := m.length) (f := f) (k := k) hin (.inl h2), jn_mg l m f (i + 1) k (by omega) hk, List.drop_of_length_le (show m.length ≤ k by omega), List.drop_eq_getElem_cons hin, i1, i2, i3]
        rfl
      · have hkm : k < m.length := by omega
        have ⟨k1, k2, k3⟩ := fl3_at m k hkm
        rw [List.drop_eq_getElem_cons hin, List.drop_eq_getElem_cons hkm]
        show _ = fl3 (if sLt l[i] m[k] then l[i] :: mg f (l.drop (i + 1)) (m[k] :: m.drop (k + 1)) else if sLt m[k] l[i] then m[k] :: mg f (l[i] :: l.drop (i + 1)) (m.drop (k + 1)) else (l[i].1, l[i].2.1, l[i].2.2 + m[k].2.2) :: mg f (l.drop (i + 1)) (m.drop (k + 1)))
        rw [← List.drop_eq_getElem_cons hin, ← List.drop_eq_getElem_cons hkm]
        by_cases h3 : sLt l[i] m[k]
        · have h3' : sR (fl3 l) i * sQ (fl3 m) k < sR (fl3 m) k * sQ (fl3 l) i := by rw [i1, i2, k1, k2]; exact h3
          rw [if_pos h3, jn_a (zs := fl3 l) (ys := fl3 m) (m := m.length) (f := f) (k := k) hin (.inr h3'), jn_mg l m f (i + 1) k (by omega) hk, i1, i2, i3]
          rfl
        · have h3' : ¬ sR (fl3 l) i * sQ (fl3 m) k < sR (fl3 m) k * sQ (fl3 l) i := by rw [i1, i2, k1, k2]; exact h3
          by_cases h4 : sLt m[k] l[i]
          · have h4' : sR (fl3 m) k * sQ (fl3 l) i < sR (fl3 l) i * sQ (fl3 m) k := by rw [i1, i2, k1, k2]; exact h4
            rw [if_neg h3, if_pos h4, jn_b (zs := fl3 l) (ys := fl3 m) (n := l.length) (f := f) (i := i) hkm (.inr h4'), jn_mg l m f i (k + 1) hi (by omega), k1, k2, k3]
            rfl
          · have h4' : ¬ sR (fl3 m) k * sQ (fl3 l) i < sR (fl3 l) i * sQ (fl3 m) k := by rw [i1, i2, k1, k2]; exact h4
            rw [if_neg h3, if_neg h4, jn_c (zs := fl3 l) (ys := fl3 m) (f := f) hin hkm h3' h4', jn_mg l m f (i + 1) (k + 1) (by omega) (by omega), i1, i2, i3, k3]
            rfl
theorem slF_fl3 (cs : List (Int × Int)) : ∀ k, slF cs k = fl3 ((List.range k).map fun t => pcT (cs.getD t (0, 0)) (cs.getD (t + 1) (0, 0)))
  | 0 => rfl
  | k + 1 => by
    rw [List.range_succ, List.map_append]
    unfold fl3
    rw [List.flatMap_append]
    show slF cs k ++ slP _ _ = _
    rw [slF_fl3 cs k]
    rfl
theorem soL_fl3 (p : Int) (xs : List Int) : soL p xs = fl3 (slT (plL p xs)) := slF_fl3 _ _
theorem so_at {p : Int} {xs : List Int} {k : Nat} (hk : k < (plL p xs).length - 1) :
    sR (soL p xs) k = (pcT ((plL p xs).getD k (0, 0)) ((plL p xs).getD (k + 1) (0, 0))).1 ∧ sQ (soL p xs) k = (pcT ((plL p xs).getD k (0, 0)) ((plL p xs).getD (k + 1) (0, 0))).2.1 ∧ sT (soL p xs) k = (pcT ((plL p xs).getD k (0, 0)) ((plL p xs).getD (k + 1) (0, 0))).2.2 :=
  slF_at (plL p xs) hk
/-- the slopes of a polygon are a list that JoinSlopes takes -/
theorem so_ok {p : Int} {xs : List Int} (hp : SP p) (hx : POk xs) (h0 : 0 < xs.length) : slB (soL p xs) ((plL p xs).length - 1) = true := by
  refine decide_eq_true ⟨fun k hk => ⟨?_, fun hk0 => ?_⟩, by have := (plL_len (p := p) hx h0).2; omega⟩
  · have ⟨⟨b1, b2⟩, b3, b4⟩ := so_bd hp hx h0 hk
    have ⟨e1, e2, e3⟩ := so_at hk
    have hlt : ((plL p xs).getD k (0, 0)).1 < ((plL p xs).getD (k + 1) (0, 0)).1 := hull_lt (ptL_pos hx h0) (ptL_inc p xs) (Nat.lt_succ_self k) (by unfold plL at hk; omega)
    obtain ⟨d, d1, d2, d3, d4⟩ := pc_facts hlt
    have e4 : sT (soL p xs) k = sQ (soL p xs) k * d := by rw [e3, e2]; exact d3
    have q1 := d4.1
    have q2 := d4.2.1
    rw [← e2] at q1
    rw [← e1, ← e2] at q2
    exact ⟨by omega, by omega, q2, ⟨b3, b4⟩, by rw [e4]; exact Int.mul_emod_right _ _⟩
  · have ⟨e1, e2, _⟩ := so_at hk
    have ⟨f1, f2, _⟩ := so_at (p := p) (xs := xs) (k := k - 1) (by omega)
    have h := slT_lt (l := ptL p xs) (ptL_pos hx h0) (ptL_inc p xs) (s := k - 1) (t := k) (by omega) (by unfold plL at hk; omega)
    rw [e1, e2, f1, f2]
    exact h
theorem cv_conv (f g : List Int) : ∀ i m, cvP f g i m = convP f g i m
  | 0, _ => rfl
  | i + 1, m => by
    show cvP f g i m + rwF f g i m = convP f g i m + rowF f g i m
    rw [cv_conv f g i m]
    rfl
theorem conv_over {f g : List Int} {k : Nat} : ∀ i, i + g.length ≤ k + 1 → convP f g i k = 0
  | 0, _ => rfl
  | i + 1, h => by
    show convP f g i k + rowF f g i k = 0
    rw [conv_over i (by omega)]
    unfold rowF
    by_cases hi : i ≤ k
    · rw [if_pos hi, getD_over (xs := g) (by omega)]; omega
    · rw [if_neg hi]; rfl
theorem mul_at {f g : List Int} (hf : 0 < f.length) (hg : 0 < g.length) (k : Nat) : (trimL (mulL f g)).getD k 0 = cvP f g f.length k := by
  rw [trimL_getD, cv_conv]
  unfold mulL
  rw [if_neg (by omega)]
  rcases Nat.lt_or_ge k (f.length + g.length - 1) with h | h
  · exact tab_at h
  · rw [getD_over (by rw [tab_len]; exact h)]
    exact (conv_over _ (by omega)).symm
theorem fl3_inj_len {l : List T3} {n : Nat} (h : (fl3 l).length = n * 3) : l.length = n := by rw [fl3_len] at h; omega
theorem slT_plL (p : Int) (xs : List Int) : (slT (plL p xs)).length = (plL p xs).length - 1 := slT_len _
/-- the slopes of a product are those of both factors, joined -/
theorem pl_mul {p : Int} {f g : List Int} (hp : SP p) (hf : POk f) (hg : POk g) (f0 : 0 < f.length) (g0 : 0 < g.length) (h : (mulR f g).2 = 0) :
    (pgC p g = 0 ∧ pgC p (mulR f g).1 = 0) ∧
      joR (soL p f) ((plL p f).length - 1) (soL p g) ((plL p g).length - 1) = ((plL p (mulR f g).1).length - 1, soL p (mulR f g).1, 0) := by
  have em : (mulR f g).1 = trimL (mulL f g) ∧ POk (trimL (mulL f g)) := by
    unfold mulR at h ⊢
    rw [if_pos ⟨hf, hg⟩] at h ⊢
    have ⟨a, b⟩ := res_zero h
    exact ⟨b, a⟩
  rw [em.1]
  have hm := em.2
  have hv := vl_val hp.2
  have ef : ptF (fun c => vl c p) f f.length ≠ [] := fun e => by have := ptL_pos (p := p) hf f0; unfold ptL at this; rw [e] at this; simp at this
  have eg : ptF (fun c => vl c p) g g.length ≠ [] := fun e => by have := ptL_pos (p := p) hg g0; unfold ptL at this; rw [e] at this; simp at this
  have m0 : 0 < (trimL (mulL f g)).length := by
    obtain ⟨a, b, h1⟩ := face_ex 0 1 _ ef (ptF_inc _ _ _)
    obtain ⟨c, d, h2⟩ := face_ex 0 1 _ eg (ptF_inc _ _ _)
    obtain ⟨s, t, h3, _⟩ := face_mul hv (by omega) (mul_at f0 g0) h1 h2
    have := ptF_len (fun c => vl c p) (trimL (mulL f g)) (trimL (mulL f g)).length
    have := List.length_pos_of_mem h3.hp
    omega
  refine ⟨⟨by unfold pgC; rw [if_pos ⟨hp, hg⟩, if_pos g0], by unfold pgC; rw [if_pos ⟨hp, hm⟩, if_pos m0]⟩, ?_⟩
  unfold joR
  rw [if_pos ⟨so_ok hp hf f0, so_ok hp hg g0⟩]
  have e : jnL (soL p f) (soL p g) ((plL p f).length - 1) ((plL p g).length - 1) = soL p (trimL (mulL f g)) := by
    have h1 := slT_mul hv (mul_at f0 g0) ef eg (fu := (plL p f).length - 1 + ((plL p g).length - 1)) (by
      have := slT_plL p f
      have := slT_plL p g
      unfold plL ptL at *
      omega)
    have h2 := jn_mg (slT (plL p f)) (slT (plL p g)) ((plL p f).length - 1 + ((plL p g).length - 1)) 0 0 (Nat.zero_le _) (Nat.zero_le _)
    rw [slT_plL, slT_plL, List.drop_zero, List.drop_zero] at h2
    rw [soL_fl3 p f, soL_fl3 p g, soL_fl3 p (trimL (mulL f g))]
    unfold jnL
    rw [h2]
    exact congrArg fl3 h1.symm
  rw [e, soL_len, Nat.mul_div_cancel _ (by omega)]
end Go.Proofs.Ythdmanngjnfamaa
