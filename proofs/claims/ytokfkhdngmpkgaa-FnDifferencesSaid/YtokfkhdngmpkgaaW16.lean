/- HalfCount of the reference. Conditions: the list is short enough to be counted. -/
import Derived.Test.YtokfkhdngmpkgaaIH
namespace Go.Proofs.Ytokfkhdngmpkgaa
open Go.RowKit

end Go.Proofs.Ytokfkhdngmpkgaa
