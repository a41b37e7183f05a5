
/- The walks of the laws' helpers on []Slope. -/
import Derived.Test.YthdmanngjnfamaaFlat
namespace Go.Proofs.Ythdmanngjnfamaa
open Go.RowKit

theorem mixedN_Slope {xs : List Int} {k K : Int} {j : Nat} (h : j * 3 + 2 < xs.length) (hK : K = k + ((j * 3 : Nat) : Int)) : (((mixed xs k (j * 3)).set (j * 3) (K)).set (j * 3 + 1) (K + 1)).set (j * 3 + 2) (K + 1 + 1) = mixed xs k (j * 3 + 3) := by
  subst hK
  rw [mixed_set (by omega)]
  rw [show k + ((j * 3 : Nat) : Int) + 1 = k + ((j * 3 + 1 : Nat) : Int) by omega, mixed_set (by omega)]
  rw [show k + ((j * 3 + 1 : Nat) : Int) + 1 = k + ((j * 3 + 2 : Nat) : Int) by omega, mixed_set (by omega)]

end Go.Proofs.Ythdmanngjnfamaa