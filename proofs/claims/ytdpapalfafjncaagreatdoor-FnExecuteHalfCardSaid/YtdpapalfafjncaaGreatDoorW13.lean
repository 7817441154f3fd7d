/- SumCounts of the reference. Conditions: the list is short enough to be counted. -/
import Derived.Test.YtdpapalfafjncaaGreatDoorW12
import Derived.Test.YtdpapalfafjncaaGreatDoorW4
namespace Go.Proofs.YtdpapalfafjncaaGreatDoor
open Go.RowKit

theorem sumCR_length (zs : List Int) : (if inL zs = true then sumC zs else []).length ≤ 601 := by
  by_cases hz : inL zs = true
  · have hzl := (inL_iff zs).1 hz
    have := tot_bd hzl.2
    rw [if_pos hz, sumC_length]; omega
  · rw [if_neg hz]; simp
end Go.Proofs.YtdpapalfafjncaaGreatDoor
