
/- The walks of the tests for a small prime. -/
import Derived.Test.YthdmanngjnfamaaGcd
namespace Go.Proofs.Ythdmanngjnfamaa
open Go.RowKit
theorem l01Small_yes (p : Int) (h : SP p) (w : World) :
    Calls Try.prog 90 #[.int .i64 p] w fun e w' => e = .returned (.bool true) ∧ w = w' := by
  have H := Lib.hid h.2
  have h1 := h.1
  have h2 := h.2.1
  clear h
  go_enter Try.func90, Try.ntmps90
  go_wp2_with (first | (go_at_call 94; refine (l01In_any _ _ _ _).mono ?_; rintro e w' ⟨rfl, rfl⟩) | (go_at_call 134; refine (l01Prime_yes _ H.out (by omega) _).mono ?_; rintro e w' ⟨rfl, rfl⟩))
  go_ret
  exact ⟨rfl, rfl⟩
theorem l01Small_no (p : Int) (h : ¬ SP p) (w : World) :
    Calls Try.prog 90 #[.int .i64 p] w fun e w' => e = .returned (.bool false) ∧ w = w' := by
  have H := Lib.hid h
  clear h
  by_cases h : 2 ≤ p ∧ p ≤ 97
  · obtain ⟨h1, h2⟩ := h
    have HN : Hid (¬ Pr p) := Lib.hid (fun hp => H.out ⟨h2, hp⟩)
    go_enter Try.func90, Try.ntmps90
    go_wp2_with (first | (go_at_call 94; refine (l01In_any _ _ _ _).mono ?_; rintro e w' ⟨rfl, rfl⟩) | (go_at_call 134; refine (l01Prime_no _ HN.out (by omega) _).mono ?_; rintro e w' ⟨rfl, rfl⟩))
    go_ret
    exact ⟨rfl, rfl⟩
  · have hd : (decide (2 ≤ p) && decide (p ≤ 97)) = false := by simp; omega
    clear h
    go_enter Try.func90, Try.ntmps90
    go_wp2_with (first | (go_at_call 94; refine (l01In_any _ _ _ _).mono ?_; rintro e w' ⟨rfl, rfl⟩))
    go_ret
    exact ⟨rfl, rfl⟩
theorem isSmallPrime_yes (p : Int) (h : SP p) (w : World) :
    Calls Try.prog 88 #[.int .i64 p] w fun e w' => e = .returned (.bool true) ∧ w = w' := by
  have H := Lib.hid h.2
  have h1 := h.1
  clear h
  go_enter Try.func88, Try.ntmps88
  go_wp2_with (first | (go_at_call 133; refine (implIsPrime_yes _ H.out (by omega) _).mono ?_; rintro e w' ⟨rfl, rfl⟩))
  go_ret
  exact ⟨rfl, rfl⟩
theorem isSmallPrime_no (p : Int) (h : ¬ SP p) (w : World) :
    Calls Try.prog 88 #[.int .i64 p] w fun e w' => e = .returned (.bool false) ∧ w = w' := by
  have H := Lib.hid h
  clear h
  by_cases h : p ≤ 97
  · have HN : Hid (¬ (Pr p ∧ p ≤ 1000000)) := Lib.hid (fun hp => H.out ⟨h, hp.1⟩)
    go_enter Try.func88, Try.ntmps88
    go_wp2_with (first | (go_at_call 133; refine (implIsPrime_no _ HN.out _).mono ?_; rintro e w' ⟨rfl, rfl⟩))
    go_ret
    exact ⟨rfl, rfl⟩
  · go_enter Try.func88, Try.ntmps88
    go_wp2
    go_ret
    exact ⟨rfl, rfl⟩
end Go.Proofs.Ythdmanngjnfamaa
