
/- The walks of the two guards of results: a valid polynomial, or ErrLimit. -/
import Derived.Test.YthdmanngjnfamaaGiv
namespace Go.Proofs.Ythdmanngjnfamaa
open Go.RowKit

set_option maxHeartbeats 400000 in
theorem l06Result_any (A : Option Addr) (n c : Nat) (xs : List Int) (w : World) (hr : Rd .i64 w A n c xs) (hn : n ≤ 1048576) :
    Calls Try.prog 99 #[.slice A n c] w (Gives (resOf xs) w) := by
  have HR := Lib.hid hr
  clear hr
  go_enter Try.func99, Try.ntmps99
  go_wp2_with (go_at_call 138; refine (l06Trim_any _ _ _ _ _ HR.out hn).mono ?_; rintro e w1 ⟨A', c', rfl, ho, hb⟩; have HO := Lib.hid ho; have HB := Lib.hid hb; clear ho hb)
  by_cases h : POk (trimL xs)
  · have H := Lib.hid h
    have HE : Hid (resOf xs = (trimL xs, 0)) := Lib.hid (by unfold resOf; rw [if_pos h])
    clear h
    go_wp2_with (go_at_call 41; refine (specIsPolynomial_yes _ _ _ _ _ HO.out.rd H.out).mono ?_; rintro e w' ⟨rfl, rfl⟩)
    go_ret2
    exact ⟨A', c', by rw [HE.out]; rfl, by rw [HE.out]; exact HO.out, HB.out⟩
  · have H := Lib.hid h
    have HE : Hid (resOf xs = ([], 3)) := Lib.hid (by unfold resOf; rw [if_neg h])
    clear h
    go_wp2_with (go_at_call 41; refine (specIsPolynomial_no _ _ _ _ _ HO.out.rd H.out).mono ?_; rintro e w' ⟨rfl, rfl⟩)
    go_ret2
    exact ⟨none, 0, by rw [HE.out]; rfl, by rw [HE.out]; exact OwnI.nil _ _, HB.out⟩

theorem orNo_yes (A : Option Addr) (n c : Nat) (xs : List Int) (w : World) (hr : Rd .i64 w A n c xs) (h : POk xs) :
    Calls Try.prog 97 #[.slice A n c] w fun e w' => e = .returned (.tuple #[.slice A n c, .int .i64 0]) ∧ w = w' := by
  have HR := Lib.hid hr
  have H := Lib.hid h
  clear hr h
  go_enter Try.func97, Try.ntmps97
  go_wp2_with (go_at_call 40; refine (implIsPolynomial_yes _ _ _ _ _ HR.out H.out).mono ?_; rintro e w' ⟨rfl, rfl⟩)
  go_ret2
  exact ⟨rfl, rfl⟩
theorem orNo_no (A : Option Addr) (n c : Nat) (xs : List Int) (w : World) (hr : Rd .i64 w A n c xs) (h : ¬ POk xs) :
    Calls Try.prog 97 #[.slice A n c] w fun e w' => e = .returned (.tuple #[.slice none 0 0, .int .i64 3]) ∧ w = w' := by
  have HR := Lib.hid hr
  have H := Lib.hid h
  clear hr h
  go_enter Try.func97, Try.ntmps97
  go_wp2_with (go_at_call 40; refine (implIsPolynomial_no _ _ _ _ _ HR.out H.out).mono ?_; rintro e w' ⟨rfl, rfl⟩)
  go_ret2
  exact ⟨rfl, rfl⟩
end Go.Proofs.Ythdmanngjnfamaa
