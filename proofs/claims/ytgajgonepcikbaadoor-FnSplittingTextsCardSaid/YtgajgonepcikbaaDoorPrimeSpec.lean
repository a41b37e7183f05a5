
/- The walk of the reference's IsPrime. -/
import Derived.Test.YtgajgonepcikbaaDoorPrime
namespace Go.Proofs.YtgajgonepcikbaaDoor
open Go.RowKit
theorem specIsPrime_yes (n : Int) (h : Pr n) (hb : n ≤ 1000000) (w : World) :
    Calls Tryd.prog 114 #[.int .i64 n] w fun e w' => e = .returned (.bool true) ∧ w = w' := by
  have h2 := h.1
  have H := Lib.hid h
  clear h
  go_enter Tryd.func114, Tryd.ntmps114
  go_wp2_with (first | (go_at_call 103; refine (l01In_any _ _ _ _).mono ?_; rintro e w' ⟨rfl, rfl⟩) | (go_at_call 131; refine (l01Prime_yes _ H.out hb _).mono ?_; rintro e w' ⟨rfl, rfl⟩))
  go_ret
  exact ⟨rfl, rfl⟩

theorem specIsPrime_no (n : Int) (h : ¬ (Pr n ∧ n ≤ 1000000)) (w : World) :
    Calls Tryd.prog 114 #[.int .i64 n] w fun e w' => e = .returned (.bool false) ∧ w = w' := by
  have H := Lib.hid h
  clear h
  by_cases h : 2 ≤ n ∧ n ≤ 1000000
  · obtain ⟨h1, h2⟩ := h
    have HN : Hid (¬ Pr n) := Lib.hid (fun hp => H.out ⟨hp, h2⟩)
    go_enter Tryd.func114, Tryd.ntmps114
    go_wp2_with (first | (go_at_call 103; refine (l01In_any _ _ _ _).mono ?_; rintro e w' ⟨rfl, rfl⟩) | (go_at_call 131; refine (l01Prime_no _ HN.out h2 _).mono ?_; rintro e w' ⟨rfl, rfl⟩))
    go_ret
    exact ⟨rfl, rfl⟩
  · have hd : (decide (2 ≤ n) && decide (n ≤ 1000000)) = false := by simp; omega
    clear h
    go_enter Tryd.func114, Tryd.ntmps114
    go_wp2_with (first | (go_at_call 103; refine (l01In_any _ _ _ _).mono ?_; rintro e w' ⟨rfl, rfl⟩))
    go_ret
    exact ⟨rfl, rfl⟩
end Go.Proofs.YtgajgonepcikbaaDoor
