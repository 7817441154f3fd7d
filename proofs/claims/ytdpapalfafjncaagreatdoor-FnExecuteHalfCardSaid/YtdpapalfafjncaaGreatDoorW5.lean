/- RestReach of both. Conditions: the list is short enough to be counted. -/
import Derived.Test.YtdpapalfafjncaaGreatDoorIC
namespace Go.Proofs.YtdpapalfafjncaaGreatDoor
open Go.RowKit

/-- the answer of RestReach -/
def restR (zs : List Int) (n : Int) : List Int := if restOk zs n = true then reachL (restC zs n) else []
theorem restC_length (zs : List Int) (n : Int) : (restC zs n).length = n.toNat := tally_length _ _ _

theorem restR_length (zs : List Int) (n : Int) : (restR zs n).length ≤ 6 := by
  unfold restR
  split
  · rename_i hz
    have h1 := ((restOk_iff zs n).1 hz).2
    have h2 := reachK_length (restC zs n) (restC zs n).length
    rw [restC_length] at h2
    unfold reachL
    rw [restC_length]
    omega
  · simp
theorem restCR_length (zs : List Int) (n : Int) : (if restOk zs n = true then restC zs n else []).length ≤ 6 := by
  by_cases hz : restOk zs n = true
  · rw [if_pos hz, restC_length]; have := ((restOk_iff zs n).1 hz).2; omega
  · rw [if_neg hz]; simp
end Go.Proofs.YtdpapalfafjncaaGreatDoor
