
/- The law over SplittingTexts, second part: the row. -/
import Derived.Test.YtgajgonepcikbaaDoorLawSplittingTextsA
namespace Go.Proofs.YtgajgonepcikbaaDoor.lawSplittingTexts
open Go.ChangeShapes Go.WideShapes Go.ChangeAt Go.RowKit Go.Deep Go.Joins
open Go.ChangeMaps (open_string shut_string)
set_option linter.unusedVariables false

theorem j1 : (Rows.fnSplittingTextsRow.inPlace == Tryd.prog.inPlace 14) = true := by kernel_rfl
theorem j2 : (Rows.fnSplittingTextsRow.unfollowed == Tryd.prog.unfollowed 14) = true := by kernel_rfl
theorem j3 : (Rows.fnSplittingTextsRow.recurses == Tryd.prog.recurses 14) = true := by kernel_rfl
theorem j4 : (Rows.fnSplittingTextsRow.named == Tryd.prog.varsNamed 14) = true := by kernel_rfl
theorem j5 : Tryd.prog.stopsHeard = true := by kernel_rfl
theorem j6 : Tryd.prog.mayEnter = true := by kernel_rfl
theorem j7 : (Rows.fnSplittingTextsRow.lifted == Tryd.prog.liftsFinal) = true := by kernel_rfl
theorem j8 : (Tryd.prog.make == some Rows.fnSplittingTextsRow.make) = true := by kernel_rfl
theorem j9 : laidOutB Tryd.prog = true := by kernel_rfl
theorem j10 : mapsRowed Tryd.prog = true := by kernel_rfl
theorem jf : joinedFacts Tryd.prog 14 Tryd.f14 Rows.fnSplittingTextsSpec Rows.fnSplittingTextsRow = true := by
  unfold joinedFacts
  rw [j1, j2, j3, j4, j5, j6, j7, j8, j9, j10]
  kernel_rfl
theorem over : Rows.fnSplittingTextsRow.holds Tryd.pinned (OpenSpec.ofChange Rows.fnSplittingTextsSpec) :=
  OpenClaim.holds_of_wide 14 Tryd.f14 rfl rfl rfl rfl rfl rfl rfl ⟨rfl, rfl, rfl, rfl, rfl⟩ rfl rfl rfl rfl rfl (by kernel_rfl) Tryd.func14 jf
    (of_decide_eq_true (by kernel_rfl)) (by unfold Func.isWrapper; first | (rw [if_pos (by decide +kernel)]; kernel_rfl) | (rw [if_neg (by decide +kernel)]; exact ⟨rfl, rfl⟩))
    (fun os started H enc _ => lifted os started H enc)
end Go.Proofs.YtgajgonepcikbaaDoor.lawSplittingTexts
