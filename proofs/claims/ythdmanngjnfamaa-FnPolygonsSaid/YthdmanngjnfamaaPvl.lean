
/- Values of sums and products of polynomials. -/
import Derived.Test.YthdmanngjnfamaaEval
import Derived.Test.YthdmanngjnfamaaAddTop
import Derived.Test.YthdmanngjnfamaaMulTop
namespace Go.Proofs.Ythdmanngjnfamaa

/-- the sum of a 0, a 1 x, .. -/
def pvS (x : Int) (a : Nat → Int) : Nat → Int
  | 0 => 0
  | k + 1 => pvS x a k + a k * x ^ k
theorem pvS_ext {x : Int} {a b : Nat → Int} : ∀ {n : Nat}, (∀ i, i < n → a i = b i) → pvS x a n = pvS x b n
  | 0, _ => rfl
  | n + 1, h => by
    show pvS x a n + a n * x ^ n = pvS x b n + b n * x ^ n
    rw [pvS_ext (fun i hi => h i (by omega)), h n (by omega)]
theorem pvS_pad {x : Int} {a : Nat → Int} {m : Nat} (h : ∀ i, m ≤ i → a i = 0) : ∀ d, pvS x a (m + d) = pvS x a m
  | 0 => rfl
  | d + 1 => by
    show pvS x a (m + d) + a (m + d) * x ^ (m + d) = _
    rw [pvS_pad h d, h (m + d) (by omega), Int.zero_mul, Int.add_zero]
theorem pvS_shift {x : Int} {a : Nat → Int} : ∀ n, pvS x a (n + 1) = a 0 + x * pvS x (fun i => a (i + 1)) n
  | 0 => by simp [pvS]
  | n + 1 => by
    show pvS x a (n + 1) + a (n + 1) * x ^ (n + 1) = a 0 + x * (pvS x (fun i => a (i + 1)) n + a (n + 1) * x ^ n)
    rw [pvS_shift n, Int.pow_succ]
    grind
theorem hv_pvS (x : Int) : ∀ xs : List Int, hv x xs = pvS x (fun i => xs.getD i 0) xs.length
  | [] => rfl
  | c :: cs => by
    show hv x cs * x + c = pvS x _ (cs.length + 1)
    rw [pvS_shift, hv_pvS x cs]
    simp only [List.getD_cons_zero, List.getD_cons_succ]
    grind
theorem hv_at {x : Int} {xs : List Int} {n : Nat} (h : xs.length ≤ n) : hv x xs = pvS x (fun i => xs.getD i 0) n := by
  obtain ⟨d, rfl⟩ := Nat.le.dest h
  rw [pvS_pad (fun i hi => getD_over hi), hv_pvS]
theorem pvS_add {x : Int} {a b : Nat → Int} : ∀ n, pvS x (fun i => a i + b i) n = pvS x a n + pvS x b n
  | 0 => rfl
  | n + 1 => by
    show pvS x (fun i => a i + b i) n + (a n + b n) * x ^ n = (pvS x a n + a n * x ^ n) + (pvS x b n + b n * x ^ n)
    rw [pvS_add n]
    grind
theorem tlen_zero (xs : List Int) : ∀ n i, tlen xs n ≤ i → i < n → xs.getD i 0 = 0
  | 0, i, _, h => by omega
  | n + 1, i, h1, h2 => by
    unfold tlen at h1
    by_cases hz : xs.getD n 0 = 0
    · rw [if_pos hz] at h1
      rcases Nat.lt_or_ge i n with h | h
      · exact tlen_zero xs n i h1 h
      · obtain rfl : i = n := by omega
        exact hz
    · rw [if_neg hz] at h1
      omega
theorem trimL_getD (xs : List Int) (i : Nat) : (trimL xs).getD i 0 = xs.getD i 0 := by
  rcases Nat.lt_or_ge i (trimL xs).length with h | h
  · exact trimL_at xs i h
  · rw [getD_over h]
    rw [trimL_len] at h
    rcases Nat.lt_or_ge i xs.length with h2 | h2
    · exact (tlen_zero xs _ i h h2).symm
    · exact (getD_over h2).symm
theorem hv_trim (x : Int) (xs : List Int) : hv x (trimL xs) = hv x xs := by
  rw [hv_at (trimL_le xs), hv_pvS x xs]
  exact pvS_ext fun i _ => trimL_getD xs i
theorem hv_sum (x : Int) (f g : List Int) : hv x (sumL f g) = hv x f + hv x g := by
  rw [hv_pvS x (sumL f g), sumL_len, hv_at (xs := f) (n := max f.length g.length) (by omega), hv_at (xs := g) (n := max f.length g.length) (by omega), ← pvS_add]
  refine pvS_ext fun i hi => ?_
  unfold sumL
  rw [tab_at hi]
  rfl
theorem pvS_none {x : Int} {a : Nat → Int} : ∀ {n : Nat}, (∀ i, i < n → a i = 0) → pvS x a n = 0
  | 0, _ => rfl
  | n + 1, h => by
    show pvS x a n + a n * x ^ n = 0
    rw [pvS_none (fun i hi => h i (by omega)), h n (by omega), Int.zero_mul, Int.add_zero]
theorem pvS_row {x : Int} {a g : Nat → Int} {i : Nat} {c : Int} (h0 : ∀ m, m < i → a m = 0) (h1 : ∀ k, a (i + k) = c * g k) : ∀ L, pvS x a (i + L) = c * x ^ i * pvS x g L
  | 0 => by
    rw [Nat.add_zero, pvS_none h0]
    simp [pvS]
  | L + 1 => by
    show pvS x a (i + L) + a (i + L) * x ^ (i + L) = c * x ^ i * (pvS x g L + g L * x ^ L)
    rw [pvS_row h0 h1 L, h1 L, Int.pow_add]
    grind
theorem pvS_conv {x : Int} {f g : List Int} {M : Nat} : ∀ n, n + g.length ≤ M + 1 → pvS x (convP f g n) M = pvS x (fun i => f.getD i 0) n * pvS x (fun i => g.getD i 0) g.length
  | 0, _ => by
    rw [pvS_none (a := convP f g 0) (fun i _ => rfl)]
    simp [pvS]
  | n + 1, h => by
    have e : pvS x (convP f g (n + 1)) M = pvS x (convP f g n) M + pvS x (rowF f g n) M := pvS_add M
    have e2 : pvS x (rowF f g n) M = f.getD n 0 * x ^ n * pvS x (fun i => g.getD i 0) g.length := by
      obtain ⟨d, hd⟩ := Nat.le.dest (show n + g.length ≤ M by omega)
      rw [← hd, pvS_pad (m := n + g.length) (fun i hi => by
        unfold rowF
        rw [if_pos (by omega), getD_over (xs := g) (by omega), Int.mul_zero])]
      exact pvS_row (fun m hm => by unfold rowF; rw [if_neg (by omega)]) (fun k => by unfold rowF; rw [if_pos (by omega), Nat.add_sub_cancel_left]) _
    rw [e, e2, pvS_conv n (by omega)]
    show _ = (pvS x (fun i => f.getD i 0) n + f.getD n 0 * x ^ n) * _
    grind
theorem hv_mul (x : Int) (f g : List Int) : hv x (mulL f g) = hv x f * hv x g := by
  unfold mulL
  by_cases h : f.length = 0 ∨ g.length = 0
  · rw [if_pos h]
    rcases h with h | h
    · rw [List.eq_nil_of_length_eq_zero h]; simp [hv]
    · rw [List.eq_nil_of_length_eq_zero h]; simp [hv]
  · rw [if_neg h, hv_pvS x (tab _ _), tab_len, hv_pvS x f, hv_pvS x g, ← pvS_conv (M := f.length + g.length - 1) f.length (by omega)]
    exact pvS_ext fun i hi => tab_at hi
/-- the bound of Horner's value -/
def gB : Nat → Int
  | 0 => 0
  | n + 1 => 3 * gB n + 1000000
theorem hv_bd {x : Int} (h1 : -3 ≤ x) (h2 : x ≤ 3) : ∀ xs : List Int, (∀ i, i < xs.length → -1000000 ≤ xs.getD i 0 ∧ xs.getD i 0 ≤ 1000000) → -gB xs.length ≤ hv x xs ∧ hv x xs ≤ gB xs.length
  | [], _ => by simp [hv, gB]
  | c :: cs, h => by
    have ih := hv_bd h1 h2 cs (fun i hi => by have := h (i + 1) (by simp; omega); simpa using this)
    have hc := h 0 (by simp)
    simp only [List.getD_cons_zero] at hc
    show -(3 * gB cs.length + 1000000) ≤ hv x cs * x + c ∧ hv x cs * x + c ≤ 3 * gB cs.length + 1000000
    have hm : (hv x cs * x).natAbs ≤ (gB cs.length).natAbs * 3 := by
      rw [Int.natAbs_mul]
      exact Nat.mul_le_mul (by omega) (by omega)
    generalize hv x cs * x = z at *
    omega
theorem gB_le : ∀ n, n ≤ 9 → 0 ≤ gB n ∧ gB n ≤ 9841000000 := by decide
theorem ev_ok {xs : List Int} {x : Int} (h : POk xs) (h1 : -3 ≤ x) (h2 : x ≤ 3) : evV xs x = hv x xs ∧ evC xs x = 0 ∧ -9841000000 ≤ hv x xs ∧ hv x xs ≤ 9841000000 := by
  have hb := hv_bd h1 h2 xs h.2.1
  have hg := gB_le xs.length h.1
  have hV : V (hv x xs) := by unfold V; omega
  refine ⟨?_, ?_, by omega, by omega⟩
  · unfold evV; rw [if_pos ⟨h, ⟨by omega, by omega⟩, hV⟩]
  · unfold evC; rw [if_pos h, if_pos ⟨by omega, by omega⟩, if_pos hV]
theorem res_zero {xs : List Int} (h : (resOf xs).2 = 0) : POk (trimL xs) ∧ (resOf xs).1 = trimL xs := by
  unfold resOf at *
  by_cases hp : POk (trimL xs)
  · rw [if_pos hp]; exact ⟨hp, rfl⟩
  · rw [if_neg hp] at h; cases h
/-- the values of a product and of a sum -/
theorem val_both {f g : List Int} {x : Int} (hm : (mulR f g).2 = 0) (ha : (addR f g).2 = 0) (h1 : -3 ≤ x) (h2 : x ≤ 3) :
    evC f x = 0 ∧ evC g x = 0 ∧ evC (mulR f g).1 x = 0 ∧ evC (addR f g).1 x = 0 ∧ evV (mulR f g).1 x = evV f x * evV g x ∧ evV (addR f g).1 x = evV f x + evV g x ∧
      (-9841000000 ≤ evV f x ∧ evV f x ≤ 9841000000) ∧ (-9841000000 ≤ evV g x ∧ evV g x ≤ 9841000000) := by
  unfold mulR addR at *
  by_cases h : POk f ∧ POk g
  · rw [if_pos h] at hm ha ⊢
    rw [if_pos h]
    have ⟨m1, m2⟩ := res_zero hm
    have ⟨a1, a2⟩ := res_zero ha
    rw [m2, a2]
    have ef := ev_ok h.1 h1 h2
    have eg := ev_ok h.2 h1 h2
    have em := ev_ok m1 h1 h2
    have ea := ev_ok a1 h1 h2
    rw [hv_trim, hv_mul] at em
    rw [hv_trim, hv_sum] at ea
    rw [ef.1, eg.1, em.1, ea.1]
    exact ⟨ef.2.1, eg.2.1, em.2.1, ea.2.1, rfl, rfl, ef.2.2, eg.2.2⟩
  · rw [if_neg h] at hm; cases hm
end Go.Proofs.Ythdmanngjnfamaa
