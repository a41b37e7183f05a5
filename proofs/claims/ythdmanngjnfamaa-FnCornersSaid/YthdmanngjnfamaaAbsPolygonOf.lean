
/- The abstract walk of the law over PolygonOf. -/
import Derived.Test.YthdmanngjnfamaaSCorner
namespace Go.Proofs.Ythdmanngjnfamaa
open Go.RowKit

end Go.Proofs.Ythdmanngjnfamaa