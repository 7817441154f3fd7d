/- The comparison of two lists. Conditions: the first list has at most 4000000 numbers. -/
import Derived.Test.YtokfkhdngmpkgaaW2
namespace Go.Proofs.Ytokfkhdngmpkgaa
open Go.RowKit

end Go.Proofs.Ytokfkhdngmpkgaa
