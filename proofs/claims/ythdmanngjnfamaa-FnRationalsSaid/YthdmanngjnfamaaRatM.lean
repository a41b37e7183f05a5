
/- What sums, products, valuations of rational numbers return, alike in program and reference. -/
import Derived.Test.YthdmanngjnfamaaRtl
import Derived.Test.YthdmanngjnfamaaRat2
namespace Go.Proofs.Ythdmanngjnfamaa
open Go.RowKit

theorem madeQ (x y : Int) : ∃ N D k : Int, (∀ w : World, Calls Try.prog 25 #[.int .i64 x, .int .i64 y] w fun e w' => e = .returned (.tuple #[.agg #[.int .i64 N, .int .i64 D], .int .i64 k]) ∧ Below w.heap.size w w') ∧ (∀ w : World, Calls Try.prog 24 #[.int .i64 x, .int .i64 y] w fun e w' => e = .returned (.tuple #[.agg #[.int .i64 N, .int .i64 D], .int .i64 k]) ∧ Below w.heap.size w w') ∧ (k = 0 → QOk N D ∧ V x ∧ V y ∧ N * y.tdiv D = x) := by
  by_cases h : V x ∧ V y
  · by_cases hz : y = 0
    · subst hz
      exact ⟨0, 0, 5, fun w => specMakeRational_zero x h.1 w, fun w => implMakeRational_zero x h.1 w, fun e => by cases e⟩
    · exact ⟨_, _, 0, fun w => specMakeRational_yes x y h.1 h.2 hz w, fun w => implMakeRational_yes x y h.1 h.2 hz w, fun _ => ⟨rd_ok h.1 h.2 hz, h.1, h.2, rd_back hz⟩⟩
  · exact ⟨0, 0, 2, fun w => specMakeRational_no x y h w, fun w => implMakeRational_no x y h w, fun e => by cases e⟩
theorem addQ (a b c d : Int) : ∃ N D k : Int, (∀ w : World, Calls Try.prog 22 #[.agg #[.int .i64 a, .int .i64 b], .agg #[.int .i64 c, .int .i64 d]] w fun e w' => e = .returned (.tuple #[.agg #[.int .i64 N, .int .i64 D], .int .i64 k]) ∧ Below w.heap.size w w') ∧ (∀ w : World, Calls Try.prog 21 #[.agg #[.int .i64 a, .int .i64 b], .agg #[.int .i64 c, .int .i64 d]] w fun e w' => e = .returned (.tuple #[.agg #[.int .i64 N, .int .i64 D], .int .i64 k]) ∧ Below w.heap.size w w') :=
  ⟨_, _, _, fun w => specAdd_any a b c d w, fun w => implAdd_any a b c d w⟩
theorem mulQ (a b c d : Int) : ∃ N D k : Int, (∀ w : World, Calls Try.prog 19 #[.agg #[.int .i64 a, .int .i64 b], .agg #[.int .i64 c, .int .i64 d]] w fun e w' => e = .returned (.tuple #[.agg #[.int .i64 N, .int .i64 D], .int .i64 k]) ∧ Below w.heap.size w w') ∧ (∀ w : World, Calls Try.prog 18 #[.agg #[.int .i64 a, .int .i64 b], .agg #[.int .i64 c, .int .i64 d]] w fun e w' => e = .returned (.tuple #[.agg #[.int .i64 N, .int .i64 D], .int .i64 k]) ∧ Below w.heap.size w w') ∧
    (k = 0 → ¬ a = 0 → ¬ c = 0 → QOk N D ∧ ∃ u v : Int, (-39 ≤ u ∧ u ≤ 39 ∧ -39 ≤ v ∧ v ≤ 39) ∧ (∀ w : World, Calls Try.prog 27 #[.agg #[.int .i64 a, .int .i64 b], .int .i64 3] w fun e w' => e = .returned (.tuple #[.int .i64 u, .int .i64 0]) ∧ Below w.heap.size w w') ∧ (∀ w : World, Calls Try.prog 27 #[.agg #[.int .i64 c, .int .i64 d], .int .i64 3] w fun e w' => e = .returned (.tuple #[.int .i64 v, .int .i64 0]) ∧ Below w.heap.size w w') ∧ (∀ w : World, Calls Try.prog 27 #[.agg #[.int .i64 N, .int .i64 D], .int .i64 3] w fun e w' => e = .returned (.tuple #[.int .i64 (u + v), .int .i64 0]) ∧ Below w.heap.size w w')) := by
  refine ⟨_, _, _, fun w => specMultiply_any a b c d w, fun w => implMultiply_any a b c d w, fun hk ha hc => ?_⟩
  have ⟨q, r1, r2, r3⟩ := rv_mul hk ha hc
  have ⟨q1, q2⟩ : QOk a b ∧ QOk c d := by
    refine two_ok ?_
    unfold ratR at hk
    by_cases ht : twoR a b c d = 0
    · exact ht
    · rw [if_neg ht] at hk; exact hk
  have b1 := rv_bd q1 ha
  have b2 := rv_bd q2 hc
  refine ⟨q, (vl a 3 : Int) - vl b 3, (vl c 3 : Int) - vl d 3, ⟨b1.1, b1.2, b2.1, b2.2⟩, fun w => ?_, fun w => ?_, fun w => ?_⟩
  · have := implRationalValuation_any a b 3 w; rw [r2] at this; exact this
  · have := implRationalValuation_any c d 3 w; rw [r3] at this; exact this
  · have := implRationalValuation_any (ratR (twoR a b c d) (a * c) (b * d)).1.1 (ratR (twoR a b c d) (a * c) (b * d)).1.2 3 w; rw [r1] at this; exact this
theorem valQ (n d p : Int) : ∃ v k : Int, (∀ w : World, Calls Try.prog 28 #[.agg #[.int .i64 n, .int .i64 d], .int .i64 p] w fun e w' => e = .returned (.tuple #[.int .i64 v, .int .i64 k]) ∧ Below w.heap.size w w') ∧ (∀ w : World, Calls Try.prog 27 #[.agg #[.int .i64 n, .int .i64 d], .int .i64 p] w fun e w' => e = .returned (.tuple #[.int .i64 v, .int .i64 k]) ∧ Below w.heap.size w w') :=
  ⟨_, _, fun w => specRationalValuation_any n d p w, fun w => implRationalValuation_any n d p w⟩
theorem isQ (n d : Int) : ∃ v : Bool, (∀ w : World, Calls Try.prog 30 #[.agg #[.int .i64 n, .int .i64 d]] w fun e w' => e = .returned (.bool v) ∧ Below w.heap.size w w') ∧ (∀ w : World, Calls Try.prog 29 #[.agg #[.int .i64 n, .int .i64 d]] w fun e w' => e = .returned (.bool v) ∧ Below w.heap.size w w') := by
  by_cases h : QOk n d
  · exact ⟨true, fun w => specIsRational_yes n d h w, fun w => implIsRational_yes n d h w⟩
  · exact ⟨false, fun w => specIsRational_no n d h w, fun w => implIsRational_no n d h w⟩
theorem isQ_yes (n d : Int) (h : QOk n d) : (∀ w : World, Calls Try.prog 29 #[.agg #[.int .i64 n, .int .i64 d]] w fun e w' => e = .returned (.bool true) ∧ Below w.heap.size w w') := fun w => implIsRational_yes n d h w
end Go.Proofs.Ythdmanngjnfamaa
