
/- The walks of the two guards of results: a valid polynomial, or ErrLimit. -/
import Derived.Test.YtgajgonepcikbaaDoorGiv
namespace Go.Proofs.YtgajgonepcikbaaDoor
open Go.RowKit

end Go.Proofs.YtgajgonepcikbaaDoor
