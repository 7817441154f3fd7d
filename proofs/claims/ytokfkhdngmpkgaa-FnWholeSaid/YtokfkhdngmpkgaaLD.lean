/- The draws that only hand on a drawn list. Conditions: stated in each. -/
import Derived.Test.YtokfkhdngmpkgaaDL
namespace Go.Proofs.Ytokfkhdngmpkgaa
open Go.RowKit

end Go.Proofs.Ytokfkhdngmpkgaa
