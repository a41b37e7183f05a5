/- Bezout's identity by 2^64. -/
import Derived.Test.YtjipalcceflkfaaBez
namespace Go.Proofs.Ytjipalcceflkfaa
open Go.RowKit

/-- equal by 2^64 -/
def Cg (a b : Int) : Prop := ∃ k : Int, a = b + 18446744073709551616 * k
theorem cg_wrap (n : Int) : Cg (wrap64 n) n := ⟨-((n + 9223372036854775808) / 18446744073709551616), by unfold wrap64; omega⟩
theorem Cg.trans {a b c : Int} (h : Cg a b) (h2 : Cg b c) : Cg a c := by
  obtain ⟨k, h⟩ := h
  obtain ⟨l, h2⟩ := h2
  exact ⟨k + l, by omega⟩
theorem Cg.symm {a b : Int} (h : Cg a b) : Cg b a := by
  obtain ⟨k, h⟩ := h
  exact ⟨-k, by omega⟩
theorem Cg.wrap {a b : Int} (h : Cg a b) (h1 : -9223372036854775808 ≤ b) (h2 : b ≤ 9223372036854775807) : wrap64 a = b := by
  obtain ⟨k, rfl⟩ := h
  unfold wrap64
  omega
theorem Cg.add {a b c d : Int} (h : Cg a b) (h2 : Cg c d) : Cg (a + c) (b + d) := by
  obtain ⟨k, rfl⟩ := h
  obtain ⟨l, rfl⟩ := h2
  exact ⟨k + l, by omega⟩
theorem cg_step {a b r x y s u v q : Int} (h1 : Cg r (a * x + b * y)) (h2 : Cg s (a * u + b * v)) :
    Cg (r - q * s) (a * wrap64 (x - wrap64 (q * u)) + b * wrap64 (y - wrap64 (q * v))) := by
  obtain ⟨k, hk⟩ := h1
  obtain ⟨l, hl⟩ := h2
  obtain ⟨m1, e1⟩ := (cg_wrap (q * u))
  obtain ⟨m2, e2⟩ := (cg_wrap (q * v))
  obtain ⟨m3, e3⟩ := (cg_wrap (x - wrap64 (q * u)))
  obtain ⟨m4, e4⟩ := (cg_wrap (y - wrap64 (q * v)))
  rw [e3, e4, e1, e2]
  exact ⟨k - q * l - a * (m3 - m1) - b * (m4 - m2), by grind⟩
theorem bezF_cg (a b : Int) : ∀ (f : Nat) (r x y s u v : Int), Cg r (a * x + b * y) → Cg s (a * u + b * v) → s.natAbs < f →
    Cg (bezF f r x y s u v).1 (a * (bezF f r x y s u v).2.1 + b * (bezF f r x y s u v).2.2) ∧ (bezF f r x y s u v).1.natAbs = Int.gcd r s := by
  intro f
  induction f with
  | zero => intro r x y s u v _ _ h; omega
  | succ f ih =>
    intro r x y s u v h1 h2 hf
    unfold bezF
    by_cases hs : s = 0
    · rw [if_pos hs]
      subst hs
      exact ⟨h1, by simp⟩
    · rw [if_neg hs]
      have hd := tmod_dec r s hs
      have e : r.tmod s = r - r.tdiv s * s := by
        have := Int.tmod_add_mul_tdiv r s
        rw [Int.mul_comm] at this
        omega
      have h3 := cg_step (q := r.tdiv s) h1 h2
      rw [← e] at h3
      have h4 := ih s u v _ _ _ h2 h3 (by generalize (r.tmod s).natAbs = t at *; omega)
      rw [gcd_tmod r s] at h4
      exact h4
/-- the identity as the law reckons it -/
theorem bez_id (a b : Int) (ha : V a) (hb : V b) : wrap64 (wrap64 (a * bezX a b) + wrap64 (b * bezY a b)) = (Int.gcd a b : Int) := by
  have h := bezF_cg a b (b.natAbs + 1) a 1 0 b 0 1 ⟨0, by omega⟩ ⟨0, by omega⟩ (by omega)
  have hg := gcd_hi a b ha hb
  have h2 := ((cg_wrap (a * bezX a b)).add (cg_wrap (b * bezY a b)))
  refine (h2.trans ?_).wrap (by omega) (by omega)
  have e : bez a b = bezF (b.natAbs + 1) a 1 0 b 0 1 := rfl
  rw [← e] at h
  unfold bezX bezY
  generalize bez a b = t at *
  obtain ⟨r, x, y⟩ := t
  obtain ⟨h3, h4⟩ := h
  simp only at h3 h4 ⊢
  by_cases hr : r < 0
  · rw [if_pos hr, if_pos hr]
    obtain ⟨m1, e1⟩ := cg_wrap (-x)
    obtain ⟨m2, e2⟩ := cg_wrap (-y)
    obtain ⟨k, e3⟩ := h3
    have e4 : (Int.gcd a b : Int) = -r := by omega
    rw [e4, e1, e2]
    exact ⟨k + a * m1 + b * m2, by grind⟩
  · rw [if_neg hr, if_neg hr]
    have e4 : (Int.gcd a b : Int) = r := by omega
    rw [e4]
    exact h3.symm
theorem gcd_tmod0 (a b : Int) : a.tmod (Int.gcd a b : Int) = 0 ∧ b.tmod (Int.gcd a b : Int) = 0 :=
  ⟨Int.tmod_eq_zero_of_dvd (Int.gcd_dvd_left ..), Int.tmod_eq_zero_of_dvd (Int.gcd_dvd_right ..)⟩
end Go.Proofs.Ytjipalcceflkfaa
