
/- Fractions in lowest terms: what is taken out, and valuations of a product. -/
import Derived.Test.YthdmanngjnfamaaRatOps
import Derived.Test.YthdmanngjnfamaaRatVal
import Derived.Test.YthdmanngjnfamaaVlm
namespace Go.Proofs.Ythdmanngjnfamaa

theorem rd_split {N D : Int} (h0 : ¬ D = 0) : ∃ g : Int, ¬ g = 0 ∧ N = rdN N D * g ∧ D = rdD N D * g := by
  have hg := gcd_pos (a := N) h0
  have d1 : ((Int.gcd N D : Nat) : Int) ∣ N := Int.gcd_dvd_left ..
  have d2 : ((Int.gcd N D : Nat) : Int) ∣ D := Int.gcd_dvd_right ..
  have e1 := Int.tdiv_mul_cancel d1
  have e2 := Int.tdiv_mul_cancel d2
  unfold rdN rdD
  generalize ((Int.gcd N D : Nat) : Int) = g at *
  by_cases hn : D < 0
  · rw [if_pos hn, if_pos hn]
    exact ⟨-g, by omega, by rw [Int.neg_mul_neg]; exact e1.symm, by rw [Int.neg_mul_neg]; exact e2.symm⟩
  · rw [if_neg hn, if_neg hn]
    exact ⟨g, by omega, e1.symm, e2.symm⟩
theorem rd_back {N D : Int} (h0 : ¬ D = 0) : rdN N D * D.tdiv (rdD N D) = N := by
  obtain ⟨g, hg, h1, h2⟩ := rd_split (N := N) h0
  have hd := rdD_pos N D h0
  have e : D.tdiv (rdD N D) = g := by
    generalize rdD N D = d at *
    rw [h2, Int.mul_tdiv_cancel_left _ (by omega)]
  rw [e]
  exact h1.symm
theorem pr3Q : Pr 3 := ⟨by omega, fun d h1 h2 => by
  have : 2 * 2 ≤ d * d := Int.mul_le_mul h1 h1 (by omega) (by omega)
  omega⟩
theorem sp3 : SP 3 := ⟨by omega, pr3Q⟩
theorem rv_yes {n d : Int} (h : QOk n d) (h0 : ¬ n = 0) : rvR n d 3 = ((vl n 3 : Int) - vl d 3, 0) := by
  unfold rvR
  rw [if_pos ⟨h, sp3⟩, if_neg h0]
theorem rv_bd {n d : Int} (h : QOk n d) (h0 : ¬ n = 0) : -39 ≤ (vl n 3 : Int) - vl d 3 ∧ (vl n 3 : Int) - vl d 3 ≤ 39 := by
  have h1 := vl_39 h0 (show (2 : Int) ≤ 3 by omega) h.1
  have h2 := vl_39 (n := d) (by have := h.2.1; omega) (show (2 : Int) ≤ 3 by omega) (by unfold V; have := h.2.1; have := h.2.2.1; omega)
  omega
theorem two_ok {a b c d : Int} (h : twoR a b c d = 0) : QOk a b ∧ QOk c d := by
  unfold twoR at h
  by_cases hq : QOk a b ∧ QOk c d
  · exact hq
  · rw [if_neg hq] at h; omega
/-- valuations of a product add up -/
theorem rv_mul {a b c d : Int} (h : (ratR (twoR a b c d) (a * c) (b * d)).2 = 0) (ha : ¬ a = 0) (hc : ¬ c = 0) :
    QOk (ratR (twoR a b c d) (a * c) (b * d)).1.1 (ratR (twoR a b c d) (a * c) (b * d)).1.2 ∧
    rvR (ratR (twoR a b c d) (a * c) (b * d)).1.1 (ratR (twoR a b c d) (a * c) (b * d)).1.2 3 = (((vl a 3 : Int) - vl b 3) + ((vl c 3 : Int) - vl d 3), 0) ∧
    rvR a b 3 = ((vl a 3 : Int) - vl b 3, 0) ∧ rvR c d 3 = ((vl c 3 : Int) - vl d 3, 0) := by
  have ht : twoR a b c d = 0 := by
    unfold ratR at h
    by_cases ht : twoR a b c d = 0
    · exact ht
    · rw [if_neg ht] at h; exact h
  have ⟨q1, q2⟩ := two_ok ht
  unfold ratR at h ⊢
  rw [if_pos ht] at h ⊢
  have hb : ¬ b = 0 := by have := q1.2.1; omega
  have hd : ¬ d = 0 := by have := q2.2.1; omega
  have hbd : ¬ b * d = 0 := by rw [Int.mul_eq_zero]; omega
  have hac : ¬ a * c = 0 := by rw [Int.mul_eq_zero]; omega
  by_cases hq : QOk (rdN (a * c) (b * d)) (rdD (a * c) (b * d))
  · rw [if_pos hq]
    obtain ⟨g, hg, e1, e2⟩ := rd_split (N := a * c) hbd
    have hn : ¬ rdN (a * c) (b * d) = 0 := fun e => hac (by rw [e1, e, Int.zero_mul])
    have hn2 : ¬ rdD (a * c) (b * d) = 0 := fun e => hbd (by rw [e2, e, Int.zero_mul])
    refine ⟨hq, ?_, rv_yes q1 ha, rv_yes q2 hc⟩
    rw [rv_yes hq hn]
    have v1 := vl_mul pr3Q ha hc
    have v2 := vl_mul pr3Q hb hd
    have v3 := vl_mul pr3Q hn hg
    have v4 := vl_mul pr3Q hn2 hg
    rw [← e1] at v3
    rw [← e2] at v4
    have : ((vl (rdN (a * c) (b * d)) 3 : Int) - vl (rdD (a * c) (b * d)) 3) = ((vl a 3 : Int) - vl b 3) + ((vl c 3 : Int) - vl d 3) := by omega
    rw [this]
  · rw [if_neg hq] at h; cases h
end Go.Proofs.Ythdmanngjnfamaa
