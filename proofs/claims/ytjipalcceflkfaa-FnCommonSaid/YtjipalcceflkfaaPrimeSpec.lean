/- The walk of the reference's IsPrime. -/
import Derived.Test.YtjipalcceflkfaaPrime
namespace Go.Proofs.Ytjipalcceflkfaa
open Go.RowKit
theorem specIsPrime_yes (n : Int) (h : Pr n) (hb : n ≤ 1000000) (w : World) :
    Calls Try.prog 57 #[.int .i64 n] w fun e w' => e = .returned (.bool true) ∧ w = w' := by
  have h2 := h.1
  have H := Lib.hid h
  clear h
  go_enter Try.func57, Try.ntmps57
  go_wp2_with (first | (go_at_call 86; refine (l01In_any _ _ _ _).mono ?_; rintro e w' ⟨rfl, rfl⟩) | (go_at_call 109; refine (l01Prime_yes _ H.out hb _).mono ?_; rintro e w' ⟨rfl, rfl⟩))
  go_ret
  exact ⟨rfl, rfl⟩

theorem specIsPrime_no (n : Int) (h : ¬ (Pr n ∧ n ≤ 1000000)) (w : World) :
    Calls Try.prog 57 #[.int .i64 n] w fun e w' => e = .returned (.bool false) ∧ w = w' := by
  have H := Lib.hid h
  clear h
  by_cases h : 2 ≤ n ∧ n ≤ 1000000
  · obtain ⟨h1, h2⟩ := h
    have HN : Hid (¬ Pr n) := Lib.hid (fun hp => H.out ⟨hp, h2⟩)
    go_enter Try.func57, Try.ntmps57
    go_wp2_with (first | (go_at_call 86; refine (l01In_any _ _ _ _).mono ?_; rintro e w' ⟨rfl, rfl⟩) | (go_at_call 109; refine (l01Prime_no _ HN.out h2 _).mono ?_; rintro e w' ⟨rfl, rfl⟩))
    go_ret
    exact ⟨rfl, rfl⟩
  · have hd : (decide (2 ≤ n) && decide (n ≤ 1000000)) = false := by simp; omega
    clear h
    go_enter Try.func57, Try.ntmps57
    go_wp2_with (first | (go_at_call 86; refine (l01In_any _ _ _ _).mono ?_; rintro e w' ⟨rfl, rfl⟩))
    go_ret
    exact ⟨rfl, rfl⟩
end Go.Proofs.Ytjipalcceflkfaa
