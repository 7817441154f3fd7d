/- SumCounts of the program. Conditions: the list is short enough to be counted. -/
import Derived.Test.YtmggcfilkiklbaaIC
import Derived.Test.YtmggcfilkiklbaaM10
namespace Go.Proofs.Ytmggcfilkiklbaa
open Go.RowKit Go.Shelf
attribute [local go_sem] Oper.semAt_some

end Go.Proofs.Ytmggcfilkiklbaa
