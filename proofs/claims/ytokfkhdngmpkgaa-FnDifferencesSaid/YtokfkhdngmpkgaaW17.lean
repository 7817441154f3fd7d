/- greatest of the laws; rests and the first choice with the least one of the reference. Conditions: stated in each. -/
import Derived.Test.YtokfkhdngmpkgaaM17
import Derived.Test.YtokfkhdngmpkgaaW16
namespace Go.Proofs.Ytokfkhdngmpkgaa
open Go.RowKit

set_option maxHeartbeats 400000 in
theorem greatest_any (a : Option Addr) (cap : Nat) (zs : List Int) (w : World) (hl : zs.length ≤ 1000000) (hI : IntsAt w a zs) :
    Calls Try.prog 21 #[.slice a zs.length cap] w fun e w' => e = .returned (.int .i64 (gre zs)) ∧ w = w' := by
  go_enter Try.func21, Try.ntmps21
  go_wp2
  go_loop [3, 4] (fun s i => ∃ k : Nat, k ≤ zs.length ∧ i = .int .i64 k ∧ s = .int .i64 (gre (zs.take k))) (fun _ i => zs.length - (intOf i).toNat)
  case atStart => exact ⟨0, Nat.zero_le _, rfl, rfl⟩
  case round =>
    obtain ⟨k, hk, rfl, rfl⟩ := hrel
    by_cases hlt : k < zs.length
    · obtain ⟨b, off, rfl, hb, hcell⟩ := hI.at (by omega)
      have HS := Lib.hid (gre_take zs k hlt)
      have hx := hcell k hlt
      generalize zs[k]?.getD 0 = x at hx HS
      generalize gre (zs.take k) = s at HS
      clear hcell
      go_wp2
      all_goals
        go_round
        case rel => exact ⟨k + 1, by omega, by go_num, congrArg (Value.int .i64) (by rw [HS.out]; split <;> omega)⟩
        case measure => simp [intOf]; omega
    · go_wp2
      go_ret
      exact ⟨ret_int (by rw [List.take_of_length_le (by omega)]), rfl⟩

def BestPostD (w : World) (r : Int) (ok : Bool) (e : Ending) (w' : World) : Prop := e = .returned (.tuple #[.int .i64 r, .bool ok]) ∧ ∃ n, w' = w.drewN n
def lrR (zs : List Int) : Int := if inL zs = true then lr zs else 0
def lcR (zs : List Int) : Int := if inL zs = true then (lc zs : Int) else 0

end Go.Proofs.Ytokfkhdngmpkgaa
