
/- The law over ReadRational, second part: the row. -/
import Derived.Test.YtgajgonepcikbaaDoorLawExactReadRationalA
namespace Go.Proofs.YtgajgonepcikbaaDoor.lawExactReadRational
open Go.ChangeShapes Go.WideShapes Go.ChangeAt Go.RowKit Go.Deep Go.Joins
open Go.ChangeMaps (open_string shut_string)
set_option linter.unusedVariables false

theorem over : Rows.fnExactReadRationalRow.holds Tryd.pinned (OpenSpec.ofChange Rows.fnExactReadRationalSpec) :=
  OpenClaim.holds_of_wide 7 Tryd.f7 rfl rfl rfl rfl rfl rfl rfl ⟨rfl, rfl, rfl, rfl, rfl⟩ rfl rfl rfl rfl rfl (by kernel_rfl) Tryd.func7 (by kernel_rfl)
    (of_decide_eq_true (by kernel_rfl)) (by unfold Func.isWrapper; first | (rw [if_pos (by decide +kernel)]; kernel_rfl) | (rw [if_neg (by decide +kernel)]; exact ⟨rfl, rfl⟩))
    (fun os started H enc _ => lifted os started H enc)
end Go.Proofs.YtgajgonepcikbaaDoor.lawExactReadRational
