
/- The abstract walk of the law over SlopesOf. -/
import Derived.Test.YthdmanngjnfamaaSSlope
namespace Go.Proofs.Ythdmanngjnfamaa
open Go.RowKit

end Go.Proofs.Ythdmanngjnfamaa