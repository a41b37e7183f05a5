/- The walk of the law over JoinSlopes. -/
import Derived.Test.YtjipalcceflkfaaJn1
import Derived.Test.YtjipalcceflkfaaJn2
import Derived.Test.YtjipalcceflkfaaAbsJoinSlopes
namespace Go.Proofs.Ytjipalcceflkfaa
open Go.RowKit

theorem joR_len (zs : List Int) (n : Nat) (ys : List Int) (m : Nat) : (joR zs n ys m).1 ≤ 1048576 := by
  unfold joR
  by_cases h : slB zs n = true ∧ slB ys m = true
  · rw [if_pos h]
    have h1 := (slB_yes h.1).2
    have h2 := (slB_yes h.2).2
    obtain ⟨c, hc, e⟩ := jn_len zs ys n m (n + m) 0 0
    show (jnF zs ys n m (n + m) 0 0).length / 3 ≤ _
    rw [e]
    omega
  · rw [if_neg h]; simp

theorem walkExactJoinSlopes (A0 : Option Addr) (n0 c0 : Nat) (xs0 : List Int) (A1 : Option Addr) (n1 c1 : Nat) (xs1 : List Int) (w : World) (hr0 : IsRows 3 w A0 n0 c0 xs0) (hr1 : IsRows 3 w A1 n1 c1 xs1) :
    Calls Try.prog 13 #[.slice A0 n0 c0, .slice A1 n1 c1] w fun e w' => e = .returned (.bool true) ∧ Below w.heap.size w w' := by
  have hm0 := hr0.1.2.2.1
  have hc0 := hr0.1.2.1
  unfold maxLen at hm0
  have R0 := Lib.hid hr0.1
  clear hr0
  have hm1 := hr1.1.2.2.1
  have hc1 := hr1.1.2.1
  unfold maxLen at hm1
  have R1 := Lib.hid hr1.1
  clear hr1
  by_cases hn0 : n0 ≤ 1048576
  · by_cases hn1 : n0 + n1 ≤ 1048576
    · exact lawExactJoinSlopes A0 n0 c0 xs0 A1 n1 c1 xs1 (joR xs0 n0 xs1 n1).1 (joR xs0 n0 xs1 n1).2.1 (joR xs0 n0 xs1 n1).2.2 w R0.out (by omega) R1.out (by omega) (by omega) (joR_len _ _ _ _)
        (fun _ _ _ _ _ h h2 => specJoin_any _ _ _ _ _ _ _ _ _ h h2)
        (fun _ _ _ _ _ h h2 => implJoin_any _ _ _ _ _ _ _ _ _ h h2)
    · go_enter Try.func13, Try.ntmps13
      go_wp2_with fail
      refine (szSlopeS_yes A0 n0 c0 _ w (by omega) (by omega)).mono ?_
      rintro e w' ⟨rfl, rfl⟩
      go_wp2_with fail
      refine (szSlopeS_no A1 n1 c1 _ w (by omega) (by omega) (by omega)).mono ?_
      rintro e w' ⟨rfl, rfl⟩
      go_wp2
      go_ret
      exact ⟨rfl, Below.refl _ _⟩
  · go_enter Try.func13, Try.ntmps13

    go_wp2_with fail
    refine (szSlopeS_no A0 n0 c0 _ w (by omega) (by omega) (by omega)).mono ?_
    rintro e w' ⟨rfl, rfl⟩
    go_wp2
    go_ret
    exact ⟨rfl, Below.refl _ _⟩

end Go.Proofs.Ytjipalcceflkfaa