/- SumReach of both. Conditions: the list is short enough to be counted. -/
import Derived.Test.YtmggcfilkiklbaaW13
import Derived.Test.YtmggcfilkiklbaaW5
import Derived.Test.YtmggcfilkiklbaaM13
import Derived.Test.YtmggcfilkiklbaaIS
namespace Go.Proofs.Ytmggcfilkiklbaa
open Go.RowKit

/-- the answer of SumReach -/
def sumRR (zs : List Int) : List Int := if inL zs = true then reachL (sumC zs) else []

theorem sumRR_length (zs : List Int) : (sumRR zs).length ≤ 601 := by
  unfold sumRR
  split
  · rename_i hz
    have h2 := reachK_length (sumC zs) (sumC zs).length
    have := sumCR_length zs
    rw [if_pos hz] at this
    unfold reachL
    omega
  · simp
end Go.Proofs.Ytmggcfilkiklbaa
