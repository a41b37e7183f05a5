
/- The post of a call that returns a list of structs and a code. -/
import Derived.Test.YthdmanngjnfamaaGiv
namespace Go.Proofs.Ythdmanngjnfamaa
open Go.RowKit

/-- a result: how many, their numbers, a code -/
def GivesS (E : TypeId) (sz : Nat) (R : Nat × List Int × Int) (w : World) (e : Ending) (w' : World) : Prop :=
  ∃ A c, e = .returned (.tuple #[.slice A R.1 c, .int .i64 R.2.2]) ∧ OwnC E sz w' w.heap.size A R.1 c (R.2.1.map (Value.int .i64)) ∧ Below w.heap.size w w'
end Go.Proofs.Ythdmanngjnfamaa