
/- The abstract walk of the law over AddPolynomials. -/
import Derived.Test.YthdmanngjnfamaaMark
namespace Go.Proofs.Ythdmanngjnfamaa
open Go.RowKit

end Go.Proofs.Ythdmanngjnfamaa