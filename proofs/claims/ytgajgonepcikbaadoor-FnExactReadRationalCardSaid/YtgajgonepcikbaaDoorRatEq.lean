
/- The walks of the laws' helpers on rational numbers. -/
import Derived.Test.YtgajgonepcikbaaDoorRat
namespace Go.Proofs.YtgajgonepcikbaaDoor
open Go.RowKit


theorem toRational_any (p n : Int) (w : World) :
    Calls Tryd.prog 16 #[.agg #[.int .i64 p, .int .i64 n]] w fun e w' => e = .returned (.agg #[.int .i64 p, .int .i64 n]) ∧ Below w.heap.size w w' := by
  go_enter Tryd.func16, Tryd.ntmps16
  go_wp2
  exact bodyPost_ret (v := .agg #[.int .i64 p, .int .i64 n]) (by simp [results, Tryd.results16, go_sem]) rfl ⟨rfl, bl_alloc (bl_alloc (bl_alloc (Below.refl _ _) _) _) _⟩

theorem eqRational_any (a b : Int) (w : World) :
    Calls Tryd.prog 34 #[.agg #[.int .i64 a, .int .i64 b], .agg #[.int .i64 a, .int .i64 b]] w fun e w' => e = .returned (.bool true) ∧ Below w.heap.size w w' := by
  go_enter Tryd.func34, Tryd.ntmps34
  go_wp2
  go_ret
  exact ⟨rfl, bl_alloc (bl_alloc (Below.refl _ _) _) _⟩

end Go.Proofs.YtgajgonepcikbaaDoor