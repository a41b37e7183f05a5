/- The walk of the law over CommonDivisor. -/
import Derived.Test.YtdkeonjckkjdhaaGcd
namespace Go.Proofs.Ytdkeonjckkjdhaa
open Go.RowKit
theorem walkExactCommonDivisor (a0 a1 : Int) (w : World) (_ : (Lit.int .i64 a0).wf = true) (_ : (Lit.int .i64 a1).wf = true) :
    Calls Try.prog 5 #[.int .i64 a0, .int .i64 a1] w fun e w' => e = .returned (.bool true) ∧ Below w.heap.size w w' := by
  by_cases h : V a0 ∧ V a1
  · have H := Lib.hid h
    clear h
    go_enter Try.func5, Try.ntmps5
    go_wp2_with (first | (go_at_call 17; refine (specCommonDivisor_yes _ _ H.out.1 H.out.2 _).mono ?_; rintro e w' ⟨rfl, n1, rfl⟩) | (go_at_call 18; refine (implCommonDivisor_yes _ _ H.out.1 H.out.2 _).mono ?_; rintro e w' ⟨rfl, n2, rfl⟩))
    go_ret
    exact ⟨rfl, below_drewN (Below.refl _ _) _⟩
  · have H := Lib.hid h
    clear h
    go_enter Try.func5, Try.ntmps5
    go_wp2_with (first | (go_at_call 17; refine (specCommonDivisor_no _ _ H.out _).mono ?_; rintro e w' ⟨rfl, rfl⟩) | (go_at_call 18; refine (implCommonDivisor_no _ _ H.out _).mono ?_; rintro e w' ⟨rfl, rfl⟩))
    go_ret
    exact ⟨rfl, Below.refl _ _⟩
end Go.Proofs.Ytdkeonjckkjdhaa
