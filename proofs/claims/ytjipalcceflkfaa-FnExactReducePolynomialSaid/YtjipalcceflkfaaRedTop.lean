/- The walks of ReducePolynomial, and of the law over it. -/
import Derived.Test.YtjipalcceflkfaaRed
import Derived.Test.YtjipalcceflkfaaSmallP
import Derived.Test.YtjipalcceflkfaaAbsReducePolynomial
namespace Go.Proofs.Ytjipalcceflkfaa
open Go.RowKit

/-- what ReducePolynomial gives -/
def rpR (p : Int) (xs : List Int) : List Int × Int := if SP p then (if POk xs then (redL p xs, 0) else ([], 1)) else ([], 1)
theorem rpR_len (p : Int) (xs : List Int) : (rpR p xs).1.length ≤ 1048576 := by
  unfold rpR
  split
  · split
    · rename_i h; have := h.1; have := redL_len p xs; show (redL p xs).length ≤ _; omega
    · simp
  · simp

set_option maxHeartbeats 800000 in
theorem specReducePolynomial_any (p : Int) (A : Option Addr) (n c : Nat) (xs : List Int) (w : World) (hr : Rd .i64 w A n c xs) :
    Calls Try.prog 29 #[.int .i64 p, .slice A n c] w (Gives (rpR p xs) w) := by
  have HR := Lib.hid hr
  have HL := Lib.hid hr.1
  clear hr
  by_cases h0 : SP p
  · by_cases h1 : POk xs
    · have HE : Hid (rpR p xs = (redL p xs, 0)) := Lib.hid (by unfold rpR; rw [if_pos h0, if_pos h1])
      have H0 := Lib.hid h0
      have H1 := Lib.hid h1
      have hn : n ≤ 1000000 := by have := h1.1; have := HL.out; omega
      clear h0 h1
      go_enter Try.func29, Try.ntmps29
      go_wp2_with (first | (go_at_call 75; refine (l01Small_yes _ H0.out _).mono ?_; rintro e w' ⟨rfl, rfl⟩) | (go_at_call 76; refine (specIsPolynomial_yes _ _ _ _ _ HR.out H1.out).mono ?_; rintro e w' ⟨rfl, rfl⟩) | (go_at_call 77; refine (l08Reduce_any _ _ _ _ _ _ H0.out.2.1 H0.out.1 HR.out hn).mono ?_; rintro e w1 ⟨A', c', rfl, ho, hb⟩; have HO := Lib.hid ho; have HB := Lib.hid hb; clear ho hb))
      go_ret2
      exact ⟨A', c', by rw [HE.out]; rfl, by rw [HE.out]; exact HO.out, HB.out⟩
    · have HE : Hid (rpR p xs = ([], 1)) := Lib.hid (by unfold rpR; rw [if_pos h0, if_neg h1])
      have H0 := Lib.hid h0
      have H1 := Lib.hid h1
      clear h0 h1
      go_enter Try.func29, Try.ntmps29
      go_wp2_with (first | (go_at_call 75; refine (l01Small_yes _ H0.out _).mono ?_; rintro e w' ⟨rfl, rfl⟩) | (go_at_call 76; refine (specIsPolynomial_no _ _ _ _ _ HR.out H1.out).mono ?_; rintro e w' ⟨rfl, rfl⟩))
      go_ret2
      exact ⟨none, 0, by rw [HE.out]; rfl, by rw [HE.out]; exact OwnI.nil _ _, Below.refl _ _⟩
  · have HE : Hid (rpR p xs = ([], 1)) := Lib.hid (by unfold rpR; rw [if_neg h0])
    have H0 := Lib.hid h0
    clear h0
    go_enter Try.func29, Try.ntmps29
    go_wp2_with (first | (go_at_call 75; refine (l01Small_no _ H0.out _).mono ?_; rintro e w' ⟨rfl, rfl⟩))
    go_ret2
    exact ⟨none, 0, by rw [HE.out]; rfl, by rw [HE.out]; exact OwnI.nil _ _, Below.refl _ _⟩

set_option maxHeartbeats 800000 in
theorem implReducePolynomial_any (p : Int) (A : Option Addr) (n c : Nat) (xs : List Int) (w : World) (hr : Rd .i64 w A n c xs) :
    Calls Try.prog 30 #[.int .i64 p, .slice A n c] w (Gives (rpR p xs) w) := by
  have HR := Lib.hid hr
  have HL := Lib.hid hr.1
  clear hr
  by_cases h0 : SP p
  · by_cases h1 : POk xs
    · have HE : Hid (rpR p xs = (redL p xs, 0)) := Lib.hid (by unfold rpR; rw [if_pos h0, if_pos h1])
      have H0 := Lib.hid h0
      have H1 := Lib.hid h1
      have hn : n ≤ 1000000 := by have := h1.1; have := HL.out; omega
      clear h0 h1
      go_enter Try.func30, Try.ntmps30
      go_wp2_with (first | (go_at_call 78; refine (isSmallPrime_yes _ H0.out _).mono ?_; rintro e w' ⟨rfl, rfl⟩) | (go_at_call 79; refine (implIsPolynomial_yes _ _ _ _ _ HR.out H1.out).mono ?_; rintro e w' ⟨rfl, rfl⟩) | (go_at_call 80; refine (reduce_any _ _ _ _ _ _ H0.out.2.1 H0.out.1 HR.out hn).mono ?_; rintro e w1 ⟨A', c', rfl, ho, hb⟩; have HO := Lib.hid ho; have HB := Lib.hid hb; clear ho hb))
      go_ret2
      exact ⟨A', c', by rw [HE.out]; rfl, by rw [HE.out]; exact HO.out, HB.out⟩
    · have HE : Hid (rpR p xs = ([], 1)) := Lib.hid (by unfold rpR; rw [if_pos h0, if_neg h1])
      have H0 := Lib.hid h0
      have H1 := Lib.hid h1
      clear h0 h1
      go_enter Try.func30, Try.ntmps30
      go_wp2_with (first | (go_at_call 78; refine (isSmallPrime_yes _ H0.out _).mono ?_; rintro e w' ⟨rfl, rfl⟩) | (go_at_call 79; refine (implIsPolynomial_no _ _ _ _ _ HR.out H1.out).mono ?_; rintro e w' ⟨rfl, rfl⟩))
      go_ret2
      exact ⟨none, 0, by rw [HE.out]; rfl, by rw [HE.out]; exact OwnI.nil _ _, Below.refl _ _⟩
  · have HE : Hid (rpR p xs = ([], 1)) := Lib.hid (by unfold rpR; rw [if_neg h0])
    have H0 := Lib.hid h0
    clear h0
    go_enter Try.func30, Try.ntmps30
    go_wp2_with (first | (go_at_call 78; refine (isSmallPrime_no _ H0.out _).mono ?_; rintro e w' ⟨rfl, rfl⟩))
    go_ret2
    exact ⟨none, 0, by rw [HE.out]; rfl, by rw [HE.out]; exact OwnI.nil _ _, Below.refl _ _⟩

theorem walkExactReducePolynomial (a0 : Int) (A1 : Option Addr) (n1 c1 : Nat) (xs1 : List Int) (w : World) (_ : (Lit.int .i64 a0).wf = true) (hr1 : IsRow .i64 w A1 n1 c1 xs1) :
    Calls Try.prog 8 #[.int .i64 a0, .slice A1 n1 c1] w fun e w' => e = .returned (.bool true) ∧ Below w.heap.size w w' := by
  have hm1 := hr1.2.1
  have hc1 := hr1.1
  unfold maxLen at hm1
  have R1 := Lib.hid hr1.rd
  clear hr1
  by_cases hn1 : n1 ≤ 1048576
  · exact lawExactReducePolynomial a0 A1 n1 c1 xs1 (rpR a0 xs1).1 (rpR a0 xs1).2 w R1.out hn1 (rpR_len _ _)
      (fun _ _ _ h => specReducePolynomial_any _ _ _ _ _ _ h)
      (fun _ _ _ h => implReducePolynomial_any _ _ _ _ _ _ h)
  · go_enter Try.func8, Try.ntmps8
    go_wp2
    go_ret
    exact ⟨rfl, Below.refl _ _⟩

end Go.Proofs.Ytjipalcceflkfaa