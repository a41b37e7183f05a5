/- The walks of the laws' helpers on rational numbers. -/
import Derived.Test.YthnnihjiojhbiaaRat
namespace Go.Proofs.Ythnnihjiojhbiaa
open Go.RowKit


theorem toRational_any (p n : Int) (w : World) :
    Calls Try.prog 28 #[.agg #[.int .i64 p, .int .i64 n]] w fun e w' => e = .returned (.agg #[.int .i64 p, .int .i64 n]) ∧ Below w.heap.size w w' := by
  go_enter Try.func28, Try.ntmps28
  go_wp2
  exact bodyPost_ret (v := .agg #[.int .i64 p, .int .i64 n]) (by simp [results, Try.results28, go_sem]) rfl ⟨rfl, bl_alloc (bl_alloc (bl_alloc (Below.refl _ _) _) _) _⟩

theorem eqRational_any (a b : Int) (w : World) :
    Calls Try.prog 37 #[.agg #[.int .i64 a, .int .i64 b], .agg #[.int .i64 a, .int .i64 b]] w fun e w' => e = .returned (.bool true) ∧ Below w.heap.size w w' := by
  go_enter Try.func37, Try.ntmps37
  go_wp2
  go_ret
  exact ⟨rfl, bl_alloc (bl_alloc (Below.refl _ _) _) _⟩

end Go.Proofs.Ythnnihjiojhbiaa