
/- The walks of AddPolynomials, and of the law. -/
import Derived.Test.YthdmanngjnfamaaAdd
import Derived.Test.YthdmanngjnfamaaAbsAddPolynomials
namespace Go.Proofs.Ythdmanngjnfamaa
open Go.RowKit

/-- what AddPolynomials gives -/
def addR (f g : List Int) : List Int × Int := if POk f ∧ POk g then resOf (sumL f g) else ([], 1)
theorem addR_len (f g : List Int) : (addR f g).1.length ≤ 1048576 := by
  unfold addR resOf
  by_cases h : POk f ∧ POk g
  · rw [if_pos h]
    by_cases h2 : POk (trimL (sumL f g))
    · rw [if_pos h2]; have := h2.1; show (trimL (sumL f g)).length ≤ _; omega
    · rw [if_neg h2]; simp
  · rw [if_neg h]; simp

set_option maxHeartbeats 800000 in
theorem specAddPolynomials_any (A0 : Option Addr) (n0 c0 : Nat) (f : List Int) (A1 : Option Addr) (n1 c1 : Nat) (g : List Int) (w : World) (hf : Rd .i64 w A0 n0 c0 f) (hg : Rd .i64 w A1 n1 c1 g) :
    Calls Try.prog 35 #[.slice A0 n0 c0, .slice A1 n1 c1] w (Gives (addR f g) w) := by
  have HF := Lib.hid hf
  have HG := Lib.hid hg
  clear hf hg
  by_cases h0 : POk f
  · by_cases h1 : POk g
    · have HP0 := Lib.hid h0
      have HP1 := Lib.hid h1
      have HE : Hid (addR f g = resOf (sumL f g)) := Lib.hid (by unfold addR; rw [if_pos ⟨h0, h1⟩])
      have HE2 : Hid (resOf (trimL (sumL f g)) = resOf (sumL f g)) := Lib.hid (by unfold resOf; rw [trimL_trimL])
      have hb9 : (trimL (sumL f g)).length ≤ 1048576 := by have := trimL_le (sumL f g); rw [sumL_len] at this; have := h0.1; have := h1.1; omega
      clear h0 h1
      go_enter Try.func35, Try.ntmps35
      go_wp2_with (first | (go_at_call 41; ((with_reducible refine (specIsPolynomial_yes A0 n0 c0 f _ HF.out HP0.out).mono ?_); rintro e w' ⟨rfl, rfl⟩)) | (go_at_call 41; ((with_reducible refine (specIsPolynomial_yes A1 n1 c1 g _ HG.out HP1.out).mono ?_); rintro e w' ⟨rfl, rfl⟩)) | (go_at_call 102; refine (l06Add_any _ _ _ _ _ _ _ _ _ HF.out HG.out HP0.out HP1.out).mono ?_; rintro e w1 ⟨A', c', rfl, ho, hb⟩; have HO := Lib.hid ho; have HB := Lib.hid hb; clear ho hb) | (go_at_call 99; refine (l06Result_any _ _ _ _ _ HO.out.rd hb9).mono ?_; rintro e w2 ⟨A2, c2, rfl, ho2, hb2⟩; have HO2 := Lib.hid ho2; have HB2 := Lib.hid hb2; clear ho2 hb2))
      go_ret2
      exact ⟨A2, c2, by rw [HE.out, ← HE2.out]; rfl, by rw [HE.out, ← HE2.out]; exact own_lo HO2.out HB.out.size, bl_trans HB.out HB2.out⟩
    · have HE : Hid (addR f g = ([], 1)) := Lib.hid (by unfold addR; rw [if_neg (fun h => h1 h.2)])
      have HP0 := Lib.hid h0
      have HP1 := Lib.hid h1
      clear h0 h1
      go_enter Try.func35, Try.ntmps35
      go_wp2_with (first | (go_at_call 41; ((with_reducible refine (specIsPolynomial_yes A0 n0 c0 f _ HF.out HP0.out).mono ?_); rintro e w' ⟨rfl, rfl⟩)) | (go_at_call 41; ((with_reducible refine (specIsPolynomial_no A1 n1 c1 g _ HG.out HP1.out).mono ?_); rintro e w' ⟨rfl, rfl⟩)))
      go_ret2
      exact ⟨none, 0, by rw [HE.out]; rfl, by rw [HE.out]; exact OwnI.nil _ _, Below.refl _ _⟩
  · have HE : Hid (addR f g = ([], 1)) := Lib.hid (by unfold addR; rw [if_neg (fun h => h0 h.1)])
    have HP0 := Lib.hid h0
    clear h0
    go_enter Try.func35, Try.ntmps35
    go_wp2_with (first | (go_at_call 41; refine (specIsPolynomial_no _ _ _ _ _ HF.out HP0.out).mono ?_; rintro e w' ⟨rfl, rfl⟩))
    go_ret2
    exact ⟨none, 0, by rw [HE.out]; rfl, by rw [HE.out]; exact OwnI.nil _ _, Below.refl _ _⟩

set_option maxHeartbeats 800000 in
theorem implAddPolynomials_any (A0 : Option Addr) (n0 c0 : Nat) (f : List Int) (A1 : Option Addr) (n1 c1 : Nat) (g : List Int) (w : World) (hf : Rd .i64 w A0 n0 c0 f) (hg : Rd .i64 w A1 n1 c1 g) :
    Calls Try.prog 34 #[.slice A0 n0 c0, .slice A1 n1 c1] w (Gives (addR f g) w) := by
  have HF := Lib.hid hf
  have HG := Lib.hid hg
  clear hf hg
  by_cases h0 : POk f
  · by_cases h1 : POk g
    · by_cases h2 : POk (trimL (sumL f g))
      all_goals
        first | have HE : Hid (addR f g = (trimL (sumL f g), 0)) := Lib.hid (by unfold addR resOf; rw [if_pos ⟨h0, h1⟩, if_pos h2]) | have HE : Hid (addR f g = ([], 3)) := Lib.hid (by unfold addR resOf; rw [if_pos ⟨h0, h1⟩, if_neg h2])
        have HP0 := Lib.hid h0
        have HP1 := Lib.hid h1
        have HP2 := Lib.hid h2
        clear h0 h1 h2
        go_enter Try.func34, Try.ntmps34
        go_wp2_with (first | (go_at_call 40; ((with_reducible refine (implIsPolynomial_yes A0 n0 c0 f _ HF.out HP0.out).mono ?_); rintro e w' ⟨rfl, rfl⟩)) | (go_at_call 40; ((with_reducible refine (implIsPolynomial_yes A1 n1 c1 g _ HG.out HP1.out).mono ?_); rintro e w' ⟨rfl, rfl⟩)) | (go_at_call 101; refine (sumOf_any _ _ _ _ _ _ _ _ _ HF.out HG.out HP0.out HP1.out).mono ?_; rintro e w1 ⟨A', c', rfl, ho, hb⟩; have HO := Lib.hid ho; have HB := Lib.hid hb; clear ho hb) | (go_at_call 97; (first | refine (orNo_yes _ _ _ _ _ HO.out.rd HP2.out).mono ?_ | refine (orNo_no _ _ _ _ _ HO.out.rd HP2.out).mono ?_); rintro e w' ⟨rfl, rfl⟩))
        go_ret2
        first | exact ⟨A', c', by rw [HE.out]; rfl, by rw [HE.out]; exact HO.out, HB.out⟩ | exact ⟨none, 0, by rw [HE.out]; rfl, by rw [HE.out]; exact OwnI.nil _ _, HB.out⟩
    · have HE : Hid (addR f g = ([], 1)) := Lib.hid (by unfold addR; rw [if_neg (fun h => h1 h.2)])
      have HP0 := Lib.hid h0
      have HP1 := Lib.hid h1
      clear h0 h1
      go_enter Try.func34, Try.ntmps34
      go_wp2_with (first | (go_at_call 40; ((with_reducible refine (implIsPolynomial_yes A0 n0 c0 f _ HF.out HP0.out).mono ?_); rintro e w' ⟨rfl, rfl⟩)) | (go_at_call 40; ((with_reducible refine (implIsPolynomial_no A1 n1 c1 g _ HG.out HP1.out).mono ?_); rintro e w' ⟨rfl, rfl⟩)))
      go_ret2
      exact ⟨none, 0, by rw [HE.out]; rfl, by rw [HE.out]; exact OwnI.nil _ _, Below.refl _ _⟩
  · have HE : Hid (addR f g = ([], 1)) := Lib.hid (by unfold addR; rw [if_neg (fun h => h0 h.1)])
    have HP0 := Lib.hid h0
    clear h0
    go_enter Try.func34, Try.ntmps34
    go_wp2_with (first | (go_at_call 40; refine (implIsPolynomial_no _ _ _ _ _ HF.out HP0.out).mono ?_; rintro e w' ⟨rfl, rfl⟩))
    go_ret2
    exact ⟨none, 0, by rw [HE.out]; rfl, by rw [HE.out]; exact OwnI.nil _ _, Below.refl _ _⟩

end Go.Proofs.Ythdmanngjnfamaa