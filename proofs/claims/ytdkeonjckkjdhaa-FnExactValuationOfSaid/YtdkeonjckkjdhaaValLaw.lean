/- The walk of the law over ValuationOf. -/
import Derived.Test.YtdkeonjckkjdhaaVal
namespace Go.Proofs.Ytdkeonjckkjdhaa
open Go.RowKit
set_option maxHeartbeats 400000 in
theorem walkExactValuationOf (n p : Int) (w : World) (_ : (Lit.int .i64 n).wf = true) (_ : (Lit.int .i64 p).wf = true) :
    Calls Try.prog 11 #[.int .i64 n, .int .i64 p] w fun e w' => e = .returned (.bool true) ∧ Below w.heap.size w w' := by
  by_cases hp : SP p
  · have HP := Lib.hid hp
    have hp1 := hp.2.1
    have hp2 := hp.1
    clear hp
    by_cases hv : V n
    · have HV := Lib.hid hv
      obtain ⟨v1, v2⟩ := hv
      by_cases hz : n = 0
      · subst hz
        go_enter Try.func11, Try.ntmps11
        go_wp2_with (first | (go_at_call 33; go_in) | (go_at_call 34; go_in) | (go_at_call 52; refine (l01Small_yes _ HP.out _).mono ?_; rintro e w' ⟨rfl, rfl⟩) | (go_at_call 54; refine (isSmallPrime_yes _ HP.out _).mono ?_; rintro e w' ⟨rfl, rfl⟩) | (go_at_call 45; refine (l01Is_any _ _).mono ?_; rintro e w' ⟨rfl, rfl⟩) | (go_at_call 47; refine (isValue_any _ _).mono ?_; rintro e w' ⟨rfl, rfl⟩))
        go_ret
        exact ⟨rfl, Below.refl _ _⟩
      · have HZ := Lib.hid hz
        have hz2 : (n == 0) = false := by simpa using hz
        clear hz
        go_enter Try.func11, Try.ntmps11
        go_wp2_with (first | (go_at_call 33; go_in) | (go_at_call 34; go_in) | (go_at_call 52; refine (l01Small_yes _ HP.out _).mono ?_; rintro e w' ⟨rfl, rfl⟩) | (go_at_call 54; refine (isSmallPrime_yes _ HP.out _).mono ?_; rintro e w' ⟨rfl, rfl⟩) | (go_at_call 45; refine (l01Is_any _ _).mono ?_; rintro e w' ⟨rfl, rfl⟩) | (go_at_call 47; refine (isValue_any _ _).mono ?_; rintro e w' ⟨rfl, rfl⟩) | (go_at_call 57; refine (l01Valuation_any _ _ HZ.out HV.out hp1 hp2 _).mono ?_; rintro e w' ⟨rfl, rfl⟩) | (go_at_call 58; refine (valuation_any _ _ HZ.out HV.out hp1 hp2 _).mono ?_; rintro e w' ⟨rfl, rfl⟩))
        go_ret
        exact ⟨rfl, Below.refl _ _⟩
    · have hd := V_dec hv
      clear hv
      go_enter Try.func11, Try.ntmps11
      go_wp2_with (first | (go_at_call 33; go_in) | (go_at_call 34; go_in) | (go_at_call 52; refine (l01Small_yes _ HP.out _).mono ?_; rintro e w' ⟨rfl, rfl⟩) | (go_at_call 54; refine (isSmallPrime_yes _ HP.out _).mono ?_; rintro e w' ⟨rfl, rfl⟩) | (go_at_call 45; refine (l01Is_any _ _).mono ?_; rintro e w' ⟨rfl, rfl⟩) | (go_at_call 47; refine (isValue_any _ _).mono ?_; rintro e w' ⟨rfl, rfl⟩))
      go_ret
      exact ⟨rfl, Below.refl _ _⟩
  · have HP := Lib.hid hp
    clear hp
    go_enter Try.func11, Try.ntmps11
    go_wp2_with (first | (go_at_call 33; go_in) | (go_at_call 34; go_in) | (go_at_call 52; refine (l01Small_no _ HP.out _).mono ?_; rintro e w' ⟨rfl, rfl⟩) | (go_at_call 54; refine (isSmallPrime_no _ HP.out _).mono ?_; rintro e w' ⟨rfl, rfl⟩))
    go_ret
    exact ⟨rfl, Below.refl _ _⟩
end Go.Proofs.Ytdkeonjckkjdhaa
