/- HalfCount of the reference. Conditions: the list is short enough to be counted. -/
import Derived.Test.YtdpapalfafjncaaGreatDoorIH
namespace Go.Proofs.YtdpapalfafjncaaGreatDoor
open Go.RowKit

end Go.Proofs.YtdpapalfafjncaaGreatDoor
