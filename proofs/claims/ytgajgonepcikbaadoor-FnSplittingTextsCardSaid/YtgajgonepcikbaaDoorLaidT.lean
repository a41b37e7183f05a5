
/- From what a row lists of the package-level variables to what the walks of the texts are told. -/
import Derived.Test.YtgajgonepcikbaaDoorRows
import Derived.Test.YtgajgonepcikbaaDoorStr0
import Derived.Lib.LaidTab
import Derived.Stop.LaidErr
import Derived.LaidMore
namespace Go.Proofs.YtgajgonepcikbaaDoor
open Go.RowKit Go.Joins

theorem tPow : (Tryd.prog.globals[5]?).map (·.type) = some 180 := by kernel_rfl
theorem cPow : Tryd.prog.cellsOf 180 = 20 := by kernel_rfl
theorem cU64 : Tryd.prog.cellsOf 150 = 1 := by kernel_rfl
theorem tb_of_laid {W : World} {r : List (String × DataW Unit)} (h : laidMet Tryd.prog (("math/bits.deBruijn32tab", Rows.laid_math_bits_deBruijn32tab) :: ("math/bits.deBruijn64tab", Rows.laid_math_bits_deBruijn64tab) :: ("internal/strconv.uint64pow10", Rows.laid_internal_strconv_uint64pow10) :: r) W) : Tb W := by
  have h2 : laidMet Tryd.prog (("internal/strconv.uint64pow10", Lib.tabData .u64 Lib.pow10Tab) :: r) W := h.tail.tail
  exact Lib.tabIs_of_head gPow tPow Tryd.underlying180 Tryd.underlying150 cU64 cPow h2
end Go.Proofs.YtgajgonepcikbaaDoor
