/- The draws that only hand on a drawn list. Conditions: stated in each. -/
import Derived.Test.YtmggcfilkiklbaaDL
namespace Go.Proofs.Ytmggcfilkiklbaa
open Go.RowKit

end Go.Proofs.Ytmggcfilkiklbaa
