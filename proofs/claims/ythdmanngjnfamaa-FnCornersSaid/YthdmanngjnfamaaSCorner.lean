
/- The walks of the laws' helpers on []Corner. -/
import Derived.Test.YthdmanngjnfamaaFlat
namespace Go.Proofs.Ythdmanngjnfamaa
open Go.RowKit

theorem mixedN_Corner {xs : List Int} {k K : Int} {j : Nat} (h : j * 2 + 1 < xs.length) (hK : K = k + ((j * 2 : Nat) : Int)) : ((mixed xs k (j * 2)).set (j * 2) (K)).set (j * 2 + 1) (K + 1) = mixed xs k (j * 2 + 2) := by
  subst hK
  rw [mixed_set (by omega)]
  rw [show k + ((j * 2 : Nat) : Int) + 1 = k + ((j * 2 + 1 : Nat) : Int) by omega, mixed_set (by omega)]

end Go.Proofs.Ythdmanngjnfamaa