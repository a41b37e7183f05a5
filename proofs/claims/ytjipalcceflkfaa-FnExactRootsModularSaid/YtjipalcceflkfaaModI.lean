/- The walk of the program's remainder. -/
import Derived.Test.YtjipalcceflkfaaMod
namespace Go.Proofs.Ytjipalcceflkfaa
open Go.RowKit
theorem mod_any (a m : Int) (hm : 1 ≤ m) (hm2 : m ≤ 1000000000000) (w : World) :
    Calls Try.prog 117 #[.int .i64 a, .int .i64 m] w fun e w' => e = .returned (.int .i64 (a % m)) ∧ w = w' := by
  have ⟨b1, b2⟩ := tmod_bd a m (by omega)
  have b3 : 0 ≤ a.tmod m + m := by omega
  have HE := Lib.hid (tmod_add_emod a m)
  go_enter Try.func117, Try.ntmps117
  go_wp2
  go_ret
  exact ⟨ret_int HE.out, rfl⟩
end Go.Proofs.Ytjipalcceflkfaa