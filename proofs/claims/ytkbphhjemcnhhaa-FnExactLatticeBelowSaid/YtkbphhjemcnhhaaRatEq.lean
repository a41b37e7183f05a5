/- The walks of the laws' helpers on rational numbers. -/
import Derived.Test.YtkbphhjemcnhhaaRat
namespace Go.Proofs.Ytkbphhjemcnhhaa
open Go.RowKit



theorem eqRational_any (a b : Int) (w : World) :
    Calls Try.prog 32 #[.agg #[.int .i64 a, .int .i64 b], .agg #[.int .i64 a, .int .i64 b]] w fun e w' => e = .returned (.bool true) ∧ Below w.heap.size w w' := by
  go_enter Try.func32, Try.ntmps32
  go_wp2
  go_ret
  exact ⟨rfl, bl_alloc (bl_alloc (Below.refl _ _) _) _⟩

end Go.Proofs.Ytkbphhjemcnhhaa