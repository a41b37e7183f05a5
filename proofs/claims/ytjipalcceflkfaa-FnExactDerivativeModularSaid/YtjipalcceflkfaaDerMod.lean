/- The walks of DerivativeModular, and of the law over it. -/
import Derived.Test.YtjipalcceflkfaaRed
import Derived.Test.YtjipalcceflkfaaDer
import Derived.Test.YtjipalcceflkfaaModu
import Derived.Test.YtjipalcceflkfaaAbsDerivativeModular
namespace Go.Proofs.Ytjipalcceflkfaa
open Go.RowKit

theorem MOk.pok {p : Int} {xs : List Int} (h : MOk p xs) : POk xs :=
  ⟨h.2.1, fun i hi => by have h1 := h.2.2.1 i hi; have h2 := h.1.1; omega, h.2.2.2⟩
/-- what DerivativeModular gives -/
def dmR (p : Int) (xs : List Int) : List Int × Int := if MOk p xs then (redL p (dvL xs), 0) else ([], 1)
theorem dmR_len (p : Int) (xs : List Int) : (dmR p xs).1.length ≤ 1048576 := by
  unfold dmR
  split
  · rename_i h; have := h.2.1; have h2 := redL_len p (dvL xs); unfold dvL at h2; rw [dvP_len] at h2; show (redL p (dvL xs)).length ≤ _; unfold dvL; omega
  · simp
theorem dv_len9 {p : Int} {xs : List Int} (h : MOk p xs) : (dvL xs).length ≤ 9 := by have := h.2.1; unfold dvL; rw [dvP_len]; omega

set_option maxHeartbeats 800000 in
theorem l08Derivative_any (p : Int) (A : Option Addr) (n c : Nat) (xs : List Int) (w : World) (hr : Rd .i64 w A n c xs) (h : MOk p xs) :
    Calls Try.prog 83 #[.int .i64 p, .slice A n c] w fun e w' => ∃ A' c', e = .returned (.slice A' (redL p (dvL xs)).length c') ∧ OwnI w' w.heap.size A' (redL p (dvL xs)).length c' (redL p (dvL xs)) ∧ Below w.heap.size w w' := by
  have HR := Lib.hid hr
  have H0 := Lib.hid h
  have hn : (dvL xs).length ≤ 1000000 := by have := dv_len9 h; omega
  clear hr h
  go_enter Try.func83, Try.ntmps83
  go_wp2_with (first | (go_at_call 121; refine (l06Derivative_any _ _ _ _ _ HR.out H0.out.pok).mono ?_; rintro e w1 ⟨A1, c1, rfl, ho, hb⟩; have HO := Lib.hid ho; have HB := Lib.hid hb; clear ho hb) | (go_at_call 77; refine (l08Reduce_any _ _ _ _ _ _ H0.out.1.2.1 H0.out.1.1 HO.out.rd hn).mono ?_; rintro e w2 ⟨A2, c2, rfl, ho2, hb2⟩; have HO2 := Lib.hid ho2; have HB2 := Lib.hid hb2; clear ho2 hb2))
  go_ret
  exact ⟨A2, c2, rfl, own_lo HO2.out HB.out.size, bl_trans HB.out HB2.out⟩

set_option maxHeartbeats 800000 in
theorem specDerivativeModular_any (p : Int) (A : Option Addr) (n c : Nat) (xs : List Int) (w : World) (hr : Rd .i64 w A n c xs) :
    Calls Try.prog 33 #[.int .i64 p, .slice A n c] w (Gives (dmR p xs) w) := by
  have HR := Lib.hid hr
  clear hr
  by_cases h0 : MOk p xs
  · have HE : Hid (dmR p xs = (redL p (dvL xs), 0)) := Lib.hid (by unfold dmR; rw [if_pos h0])
    have H0 := Lib.hid h0
    clear h0
    go_enter Try.func33, Try.ntmps33
    go_wp2_with (first | (go_at_call 61; refine (specIsModular_yes _ _ _ _ _ _ HR.out H0.out).mono ?_; rintro e w' ⟨rfl, rfl⟩) | (go_at_call 83; refine (l08Derivative_any _ _ _ _ _ _ HR.out H0.out).mono ?_; rintro e w1 ⟨A1, c1, rfl, ho, hb⟩; have HO := Lib.hid ho; have HB := Lib.hid hb; clear ho hb))
    go_ret2
    exact ⟨A1, c1, by rw [HE.out]; rfl, by rw [HE.out]; exact HO.out, HB.out⟩
  · have HE : Hid (dmR p xs = ([], 1)) := Lib.hid (by unfold dmR; rw [if_neg h0])
    have H0 := Lib.hid h0
    clear h0
    go_enter Try.func33, Try.ntmps33
    go_wp2_with (first | (go_at_call 61; refine (specIsModular_no _ _ _ _ _ _ HR.out H0.out).mono ?_; rintro e w' ⟨rfl, rfl⟩))
    go_ret2
    exact ⟨none, 0, by rw [HE.out]; rfl, by rw [HE.out]; exact OwnI.nil _ _, by first | exact Below.refl _ _ | exact HB0.out⟩

set_option maxHeartbeats 800000 in
theorem implDerivativeModular_any (p : Int) (A : Option Addr) (n c : Nat) (xs : List Int) (w : World) (hr : Rd .i64 w A n c xs) :
    Calls Try.prog 34 #[.int .i64 p, .slice A n c] w (Gives (dmR p xs) w) := by
  have HR := Lib.hid hr
  clear hr
  by_cases h0 : MOk p xs
  · have HE : Hid (dmR p xs = (redL p (dvL xs), 0)) := Lib.hid (by unfold dmR; rw [if_pos h0])
    have H0 := Lib.hid h0
    have hn : (dvL xs).length ≤ 1000000 := by have := dv_len9 h0; omega
    clear h0
    go_enter Try.func34, Try.ntmps34
    go_wp2_with (first | (go_at_call 63; refine (implIsModular_yes _ _ _ _ _ _ HR.out H0.out).mono ?_; rintro e w0 ⟨rfl, hb0⟩; have HB0 := Lib.hid hb0; have HR0 := Lib.hid (HR.out.below hb0); clear hb0) | (go_at_call 84; refine (derivative_any _ _ _ _ _ HR0.out H0.out.pok).mono ?_; rintro e w1 ⟨A1, c1, rfl, ho, hb⟩; have HO := Lib.hid ho; have HB := Lib.hid hb; clear ho hb) | (go_at_call 80; refine (reduce_any _ _ _ _ _ _ H0.out.1.2.1 H0.out.1.1 HO.out.rd hn).mono ?_; rintro e w2 ⟨A2, c2, rfl, ho2, hb2⟩; have HO2 := Lib.hid ho2; have HB2 := Lib.hid hb2; clear ho2 hb2))
    go_ret2
    exact ⟨A2, c2, by rw [HE.out]; rfl, by rw [HE.out]; exact own_lo HO2.out (bl_trans HB0.out HB.out).size, bl_trans (bl_trans HB0.out HB.out) HB2.out⟩
  · have HE : Hid (dmR p xs = ([], 1)) := Lib.hid (by unfold dmR; rw [if_neg h0])
    have H0 := Lib.hid h0
    clear h0
    go_enter Try.func34, Try.ntmps34
    go_wp2_with (first | (go_at_call 63; refine (implIsModular_no _ _ _ _ _ _ HR.out H0.out).mono ?_; rintro e w0 ⟨rfl, hb0⟩; have HB0 := Lib.hid hb0; have HR0 := Lib.hid (HR.out.below hb0); clear hb0))
    go_ret2
    exact ⟨none, 0, by rw [HE.out]; rfl, by rw [HE.out]; exact OwnI.nil _ _, by first | exact Below.refl _ _ | exact HB0.out⟩

theorem walkExactDerivativeModular (a0 : Int) (A1 : Option Addr) (n1 c1 : Nat) (xs1 : List Int) (w : World) (_ : (Lit.int .i64 a0).wf = true) (hr1 : IsRow .i64 w A1 n1 c1 xs1) :
    Calls Try.prog 10 #[.int .i64 a0, .slice A1 n1 c1] w fun e w' => e = .returned (.bool true) ∧ Below w.heap.size w w' := by
  have hm1 := hr1.2.1
  have hc1 := hr1.1
  unfold maxLen at hm1
  have R1 := Lib.hid hr1.rd
  clear hr1
  by_cases hn1 : n1 ≤ 1048576
  · exact lawExactDerivativeModular a0 A1 n1 c1 xs1 (dmR a0 xs1).1 (dmR a0 xs1).2 w R1.out hn1 (dmR_len _ _)
      (fun _ _ _ h => specDerivativeModular_any _ _ _ _ _ _ h)
      (fun _ _ _ h => implDerivativeModular_any _ _ _ _ _ _ h)
  · go_enter Try.func10, Try.ntmps10
    go_wp2
    go_ret
    exact ⟨rfl, Below.refl _ _⟩

end Go.Proofs.Ytjipalcceflkfaa