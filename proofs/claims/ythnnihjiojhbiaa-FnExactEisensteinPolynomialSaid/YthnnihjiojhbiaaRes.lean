/- The walks of the two guards of results: a valid polynomial, or ErrLimit. -/
import Derived.Test.YthnnihjiojhbiaaTrim
namespace Go.Proofs.Ythnnihjiojhbiaa
open Go.RowKit

instance (xs : List Int) : Decidable (POk xs) := by unfold POk; infer_instance
/-- a result: the trimmed list, or ErrLimit -/
def resOf (xs : List Int) : List Int × Int := if POk (trimL xs) then (trimL xs, 0) else ([], 3)
theorem pok_last {xs : List Int} (h : POk xs) : trimL xs = xs := trimL_same h.2.2
theorem own_lo {e : TypeId} {sz : Nat} {w : World} {lo lo' : Nat} {A : Option Addr} {n c : Nat} {cs : List Value} (h : OwnC e sz w lo' A n c cs) (hl : lo ≤ lo') : OwnC e sz w lo A n c cs := by
  refine ⟨h.1, h.2.1, h.2.2.1, fun hn => ⟨(h.2.2.2 hn).1, ?_⟩⟩
  rcases (h.2.2.2 hn).2 with h1 | ⟨g, cap, cur, e1, h1, h2⟩
  · exact .inl h1
  · exact .inr ⟨g, cap, cur, e1, Nat.le_trans hl h1, h2⟩
theorem OwnI.nil (w : World) (lo : Nat) : OwnI w lo none 0 0 [] := OwnC.nil (by unfold maxLen; omega)

/-- the post of a call that returns a list and a code -/
def Gives (r : List Int × Int) (w : World) (e : Ending) (w' : World) : Prop :=
  ∃ A c, e = .returned (.tuple #[.slice A r.1.length c, .int .i64 r.2]) ∧ OwnI w' w.heap.size A r.1.length c r.1 ∧ Below w.heap.size w w'

set_option maxHeartbeats 400000 in
theorem l06Result_any (A : Option Addr) (n c : Nat) (xs : List Int) (w : World) (hr : Rd .i64 w A n c xs) (hn : n ≤ 1048576) :
    Calls Try.prog 74 #[.slice A n c] w (Gives (resOf xs) w) := by
  have HR := Lib.hid hr
  clear hr
  go_enter Try.func74, Try.ntmps74
  go_wp2_with (go_at_call 91; refine (l06Trim_any _ _ _ _ _ HR.out hn).mono ?_; rintro e w1 ⟨A', c', rfl, ho, hb⟩; have HO := Lib.hid ho; have HB := Lib.hid hb; clear ho hb)
  by_cases h : POk (trimL xs)
  · have H := Lib.hid h
    have HE : Hid (resOf xs = (trimL xs, 0)) := Lib.hid (by unfold resOf; rw [if_pos h])
    clear h
    go_wp2_with (go_at_call 54; refine (specIsPolynomial_yes _ _ _ _ _ HO.out.rd H.out).mono ?_; rintro e w' ⟨rfl, rfl⟩)
    go_ret2
    exact ⟨A', c', by rw [HE.out]; rfl, by rw [HE.out]; exact HO.out, HB.out⟩
  · have H := Lib.hid h
    have HE : Hid (resOf xs = ([], 3)) := Lib.hid (by unfold resOf; rw [if_neg h])
    clear h
    go_wp2_with (go_at_call 54; refine (specIsPolynomial_no _ _ _ _ _ HO.out.rd H.out).mono ?_; rintro e w' ⟨rfl, rfl⟩)
    go_ret2
    exact ⟨none, 0, by rw [HE.out]; rfl, by rw [HE.out]; exact OwnI.nil _ _, HB.out⟩

theorem orNo_yes (A : Option Addr) (n c : Nat) (xs : List Int) (w : World) (hr : Rd .i64 w A n c xs) (h : POk xs) :
    Calls Try.prog 76 #[.slice A n c] w fun e w' => e = .returned (.tuple #[.slice A n c, .int .i64 0]) ∧ w = w' := by
  have HR := Lib.hid hr
  have H := Lib.hid h
  clear hr h
  go_enter Try.func76, Try.ntmps76
  go_wp2_with (go_at_call 56; refine (implIsPolynomial_yes _ _ _ _ _ HR.out H.out).mono ?_; rintro e w' ⟨rfl, rfl⟩)
  go_ret2
  exact ⟨rfl, rfl⟩
theorem orNo_no (A : Option Addr) (n c : Nat) (xs : List Int) (w : World) (hr : Rd .i64 w A n c xs) (h : ¬ POk xs) :
    Calls Try.prog 76 #[.slice A n c] w fun e w' => e = .returned (.tuple #[.slice none 0 0, .int .i64 3]) ∧ w = w' := by
  have HR := Lib.hid hr
  have H := Lib.hid h
  clear hr h
  go_enter Try.func76, Try.ntmps76
  go_wp2_with (go_at_call 56; refine (implIsPolynomial_no _ _ _ _ _ HR.out H.out).mono ?_; rintro e w' ⟨rfl, rfl⟩)
  go_ret2
  exact ⟨rfl, rfl⟩
end Go.Proofs.Ythnnihjiojhbiaa
