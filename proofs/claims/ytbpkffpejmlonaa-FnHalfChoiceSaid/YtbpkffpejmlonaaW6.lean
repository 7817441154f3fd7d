/- The number of places of a choice, by the library's OnesCount. Conditions: the choice is below 1024. -/
import Derived.Test.YtbpkffpejmlonaaW3
namespace Go.Proofs.Ytbpkffpejmlonaa
open Go.RowKit

set_option maxHeartbeats 1600000 in
theorem places_any (c : Nat) (w : World) (hc : c < 1024) :
    Calls Try.prog 114 #[.int .i64 c] w fun e w' => e = .returned (.int .i64 (popc c)) ∧ w = w' := by
  go_enter Try.func114, Try.ntmps114
  go_wp2
  go_ret
  refine ⟨ret_int ?_, rfl⟩
  clear w
  revert c
  decide +kernel
end Go.Proofs.Ytbpkffpejmlonaa
