
/- Plain laws on numbers: primes up to 1000000. -/
namespace Go.Proofs.Ythdmanngjnfamaa

/-- n is a prime number, as trial division sees it. -/
def Pr (n : Int) : Prop := 2 ≤ n ∧ ∀ d : Int, 2 ≤ d → d * d ≤ n → ¬ n % d = 0

/-- p is a prime number up to 97. -/
def SP (p : Int) : Prop := p ≤ 97 ∧ Pr p

theorem sq_bound {x b : Int} (hx : 0 ≤ x) (hb : 0 ≤ b) (h : x * x ≤ b * b) : x ≤ b := by
  apply Int.not_lt.1
  intro hlt
  have h1 : b * b < x * x := by
    have h2 : b * b ≤ b * x := Int.mul_le_mul_of_nonneg_left (by omega) hb
    have h3 : b * x < x * x := Int.mul_lt_mul_of_pos_right hlt (by omega)
    omega
  omega

theorem sq_lo {d : Int} (h1 : 2 ≤ d) : 0 ≤ d * d := Int.mul_nonneg (by omega) (by omega)

theorem sq_hi {d : Int} (h1 : 2 ≤ d) (h2 : d ≤ 1001) : d * d ≤ 1002001 := by
  have a : d * d ≤ d * 1001 := Int.mul_le_mul_of_nonneg_left h2 (by omega)
  omega

theorem sq_1000 {d n : Int} (h1 : 2 ≤ d) (hn : n ≤ 1000000) (h : d * d ≤ n) : d ≤ 1000 :=
  sq_bound (b := 1000) (by omega) (by omega) (by omega)

/-- no divisor below d, and d * d > n: prime -/
theorem pr_of_none {n d : Int} (hn : 2 ≤ n) (hlt : n < d * d) (hd : 0 ≤ d) (h : ∀ k : Int, 2 ≤ k → k < d → ¬ n % k = 0) : Pr n := by
  refine ⟨hn, fun k hk hkk => h k hk ?_⟩
  apply Int.not_le.1
  intro hdk
  have h2 : d * d ≤ d * k := Int.mul_le_mul_of_nonneg_left hdk hd
  have h3 : d * k ≤ k * k := Int.mul_le_mul_of_nonneg_right hdk (by omega)
  omega


def spB (p : Int) : Bool := decide (2 ≤ p) && decide (p ≤ 97) && (List.range 98).all (fun d : Nat => decide (d < 2) || decide (p < (d : Int) * d) || decide (¬ p % (d : Int) = 0))
theorem spB_iff (p : Int) : spB p = true ↔ SP p := by
  unfold spB SP Pr
  simp only [Bool.and_eq_true, decide_eq_true_eq, List.all_eq_true, List.mem_range, Bool.or_eq_true]
  constructor
  · rintro ⟨⟨h1, h2⟩, h3⟩
    refine ⟨h2, h1, fun d hd hdd hz => ?_⟩
    have hd2 : d ≤ 97 := sq_bound (b := 97) (by omega) (by omega) (by omega)
    obtain ⟨k, rfl⟩ : ∃ k : Nat, d = (k : Int) := ⟨d.toNat, by omega⟩
    rcases h3 k (by omega) with (h | h) | h
    · omega
    · omega
    · exact h hz
  · rintro ⟨h1, h2, h3⟩
    refine ⟨⟨h2, h1⟩, fun k hk => ?_⟩
    by_cases a : k < 2
    · exact .inl (.inl a)
    · by_cases b : p < (k : Int) * k
      · exact .inl (.inr b)
      · exact .inr (h3 k (by omega) (by omega))
instance (p : Int) : Decidable (SP p) := decidable_of_iff _ (spB_iff p)
end Go.Proofs.Ythdmanngjnfamaa
