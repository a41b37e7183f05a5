
/- The walks of the tests for a small prime. -/
import Derived.Test.YtgajgonepcikbaaDoorGcd
namespace Go.Proofs.YtgajgonepcikbaaDoor
open Go.RowKit
end Go.Proofs.YtgajgonepcikbaaDoor
