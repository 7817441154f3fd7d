/- The draws that only hand on a drawn list. Conditions: stated in each. -/
import Derived.Test.YtmggcfilkiklbaaDoorDL
namespace Go.Proofs.YtmggcfilkiklbaaDoor
open Go.RowKit

end Go.Proofs.YtmggcfilkiklbaaDoor
