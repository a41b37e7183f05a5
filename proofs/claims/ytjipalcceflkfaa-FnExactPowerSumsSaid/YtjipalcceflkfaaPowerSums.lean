
/- The walk of the law over PowerSums. -/
import Derived.Test.YtjipalcceflkfaaPw2
import Derived.Test.YtjipalcceflkfaaAbsPowerSums
namespace Go.Proofs.Ytjipalcceflkfaa
open Go.RowKit

theorem pwR_len (xs : List Int) (cnt : Int) : (pwR xs cnt).1.length ≤ 1048576 := by
  unfold pwR
  by_cases h : pwC xs cnt = 0
  · rw [if_pos h]
    have hs0 : smC [xs] = 0 := by
      apply Decidable.byContradiction; intro h2; unfold pwC at h; rw [if_pos h2] at h; exact h2 h
    have hcr : 1 ≤ cnt ∧ cnt ≤ 6 := by
      apply Decidable.byContradiction; intro h2; unfold pwC at h; rw [if_neg (by simpa using hs0), if_pos h2] at h; omega
    show (psL xs (xs.length - 1) cnt.toNat).length ≤ _
    rw [psL_len]; omega
  · rw [if_neg h]; simp
theorem gives_x {r : List Int × Int} {w w' : World} {e : Ending} (h : Gives r w e w') : GivesX r w e w' := by
  obtain ⟨A, c, h1, h2, h3⟩ := h
  exact ⟨A, c, h1, .inl h2, h3⟩

theorem walkExactPowerSums (A0 : Option Addr) (n0 c0 : Nat) (xs0 : List Int) (a1 : Int) (w : World) (hr0 : IsRow .i64 w A0 n0 c0 xs0) (_ : (Lit.int .i64 a1).wf = true) :
    Calls Try.prog 11 #[.slice A0 n0 c0, .int .i64 a1] w fun e w' => e = .returned (.bool true) ∧ Below w.heap.size w w' := by
  have hm0 := hr0.2.1
  have hc0 := hr0.1
  unfold maxLen at hm0
  have R0 := Lib.hid hr0.rd
  clear hr0
  by_cases hn0 : n0 ≤ 1048576
  · exact lawExactPowerSums A0 n0 c0 xs0 a1 (pwR xs0 a1).1 (pwR xs0 a1).2 w R0.out (by omega) (pwR_len _ _)
      (fun _ _ _ h => (specPowerSums_any _ _ _ _ _ _ h).mono fun _ _ h => gives_x h)
      (fun _ _ _ h => implPowerSums_any _ _ _ _ _ _ h)
  · go_enter Try.func11, Try.ntmps11
    go_wp2
    go_ret
    exact ⟨rfl, Below.refl _ _⟩

end Go.Proofs.Ytjipalcceflkfaa