/- The draws that only hand on a drawn list. Conditions: stated in each. -/
import Derived.Test.YtdpapalfafjncaaGreatDoorDL
namespace Go.Proofs.YtdpapalfafjncaaGreatDoor
open Go.RowKit

theorem DrawHalfBest_any (a : Option Addr) (len cap : Nat) (w : World) (hl : len ≤ 1048576) (hcap : len ≤ cap) (hb : BytesAt w w.heap.size a len) :
    Calls Tryz.prog 5 #[.slice a len cap] w (DrawnPost w 9) := by
  go_enter Tryz.func5, Tryz.ntmps5
  go_wp2_with fail
  refine (l91Some_any a len cap w hl hcap hb).mono ?_
  rintro e w1 ⟨ad, cp, zs, rfl, h1, h2, h3, h4⟩
  go_wp2
  go_ret
  exact ⟨ad, cp, zs, rfl, h1, h2, h3, h4⟩

end Go.Proofs.YtdpapalfafjncaaGreatDoor
