/- SumCounts of the program. Conditions: the list is short enough to be counted. -/
import Derived.Test.YtmggcfilkiklbaaDoorIC
import Derived.Test.YtmggcfilkiklbaaDoorM10
namespace Go.Proofs.YtmggcfilkiklbaaDoor
open Go.RowKit Go.Shelf
attribute [local go_sem] Oper.semAt_some

end Go.Proofs.YtmggcfilkiklbaaDoor
