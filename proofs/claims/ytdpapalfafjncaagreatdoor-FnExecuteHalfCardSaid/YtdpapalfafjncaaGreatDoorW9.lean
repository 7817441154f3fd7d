/- The comparison of two lists. Conditions: the first list has at most 4000000 numbers. -/
import Derived.Test.YtdpapalfafjncaaGreatDoorW2
namespace Go.Proofs.YtdpapalfafjncaaGreatDoor
open Go.RowKit

end Go.Proofs.YtdpapalfafjncaaGreatDoor
