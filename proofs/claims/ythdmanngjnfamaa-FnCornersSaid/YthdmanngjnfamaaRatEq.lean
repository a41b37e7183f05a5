
/- The walks of the laws' helpers on rational numbers. -/
import Derived.Test.YthdmanngjnfamaaRat
namespace Go.Proofs.Ythdmanngjnfamaa
open Go.RowKit



end Go.Proofs.Ythdmanngjnfamaa