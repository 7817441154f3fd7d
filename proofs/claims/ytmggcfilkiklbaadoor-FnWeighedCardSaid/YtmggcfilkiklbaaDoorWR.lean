/- PanCounts of the reference. Conditions: the list is short enough to be counted. -/
import Derived.Test.YtmggcfilkiklbaaDoorWQ
namespace Go.Proofs.YtmggcfilkiklbaaDoor
open Go.RowKit

/-- the answer of PanCounts -/
def panR (zs : List Int) : List Int := if inL zs = true then panC zs else []
theorem panR_length (zs : List Int) : (panR zs).length ≤ 601 := by
  unfold panR
  split
  · rename_i hz
    have hzl := (inL_iff zs).1 hz
    have := tot_bd hzl.2
    rw [panC_length]; omega
  · simp
/-- a list that can be read, and a bool -/
def ListS (w : World) (ok : Bool) (L : List Int) (e : Ending) (w' : World) : Prop := ∃ ad cap, e = .returned (.tuple #[.slice ad L.length cap, .bool ok]) ∧ IntsAt w' ad L ∧ Below w.heap.size w w'
theorem panC_of {zs : List Int} (hg : good zs) {T : Nat} (hT : tot zs = T) {o : List Int} (ho : o.length = 2 * T + 1) (hp : IsPan zs T o) (v : Nat) (hv : v < T + 1) : o[T + v]?.getD 0 = (panC zs)[v]?.getD 0 := by
  rw [panC_get v (by omega), hp _ (by omega)]
  congr 2
  omega

end Go.Proofs.YtmggcfilkiklbaaDoor
