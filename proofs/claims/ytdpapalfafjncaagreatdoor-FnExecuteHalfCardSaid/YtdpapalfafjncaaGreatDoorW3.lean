/- Chapter 8 of the reference: what is told, sizes, searches. Conditions: stated in each. -/
import Derived.Test.YtdpapalfafjncaaGreatDoorW1
import Derived.Test.YtdpapalfafjncaaGreatDoorM8
namespace Go.Proofs.YtdpapalfafjncaaGreatDoor
open Go.RowKit

theorem restsTold_any (a : Option Addr) (cap : Nat) (zs : List Int) (n : Int) (w : World) (hl : zs.length ≤ 4294967296) (hI : IntsAt w a zs) :
    Calls Tryz.prog 149 #[.slice a zs.length cap, .int .i64 n] w fun e w' => e = .returned (.bool (restOk zs n)) ∧ w = w' := by
  by_cases hz : inL zs = true
  case neg =>
    have hz' : inL zs = false := by simpa using hz
    have e : restOk zs n = false := by simp [restOk, hz']
    rw [e]
    have HZ := Lib.hid hz'
    clear hz hz' e
    go_enter Tryz.func149, Tryz.ntmps149
    go_wp2_with (go_at_call 16; refine (SumIn_any a cap zs w (by omega) hI).mono ?_; rw [HZ.out]; rintro e w' ⟨rfl, rfl⟩)
    go_ret
    exact ⟨rfl, rfl⟩
  have e : restOk zs n = (decide (1 ≤ n) && decide (n ≤ 6)) := by simp [restOk, hz]
  rw [e]
  have HZ := Lib.hid hz
  clear hz e
  by_cases h1 : 1 ≤ n
  all_goals
    go_enter Tryz.func149, Tryz.ntmps149
    go_wp2_with (go_at_call 16; refine (SumIn_any a cap zs w (by omega) hI).mono ?_; rw [HZ.out]; rintro e w' ⟨rfl, rfl⟩)
    go_ret
    exact ⟨ret_bool (by rw [Bool.eq_iff_iff]; simp; omega), rfl⟩

def FoundPostD (w : World) (p : Nat → Bool) (m : Nat) (e : Ending) (w' : World) : Prop := ∃ r ok, e = .returned (.tuple #[.int .i64 r, .bool ok]) ∧ FirstIs p m r ok ∧ ∃ n, w' = w.drewN n

end Go.Proofs.YtdpapalfafjncaaGreatDoor
