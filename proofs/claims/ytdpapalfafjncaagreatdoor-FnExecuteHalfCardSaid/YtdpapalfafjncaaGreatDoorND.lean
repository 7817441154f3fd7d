/- A line of the script that does not fail: the deferred function finds nothing to recover. Conditions: none. -/
import Derived.Defers
import Derived.Recover
import Derived.Laws.Pointers
import Derived.Test.YtdpapalfafjncaaGreatDoorNC
namespace Go.Proofs.YtdpapalfafjncaaGreatDoor
open Go.RowKit

set_option maxRecDepth 100000 in
set_option maxHeartbeats 1600000 in
theorem caught_idle (p : Addr) (w : World) :
    CallsD Tryz.prog 41 #[.pointer (some p)] .returning w fun e u' w' => e = .returned (.tuple #[]) ∧ u' = .returning ∧ w' = w := by
  refine callsD_of_wpS Tryz.func41 rfl fun c₀ cs hu => ?_
  apply wpS_seq
  apply wpS_region
  simp [wpOpsS, go_sem, recoverD, hu, Tryz.ntmps41, Exit.thenS]
  refine wpS_of_wp ?_
  show Code.wp Tryz.prog _ _ ⟨#[.pointer (some p), undef, undef, undef, .nilIface, undef, undef, undef, undef, undef], []⟩ w
  have he : ∀ w : World, (binOp .eql 20 .nilIface .nilIface).run Tryz.prog w = .ok (.bool true) w := fun _ => rfl
  go_wp2
  cases c₀
  simp_all [bodyPostS, results, Tryz.results41]
end Go.Proofs.YtdpapalfafjncaaGreatDoor
