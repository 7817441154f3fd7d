/- SumCounts of the reference. Conditions: the list is short enough to be counted. -/
import Derived.Test.YtbpkffpejmlonaaW12
import Derived.Test.YtbpkffpejmlonaaW4
namespace Go.Proofs.Ytbpkffpejmlonaa
open Go.RowKit

set_option maxHeartbeats 1600000 in
theorem sSumCounts_any (a : Option Addr) (cap : Nat) (zs : List Int) (w : World) (hl : zs.length ≤ 4294967296) (hI : IntsAt w a zs) :
    Calls Try.prog 55 #[.slice a zs.length cap] w (ListR w (inL zs) (if inL zs = true then sumC zs else [])) := by
  by_cases hz : inL zs = true
  case neg =>
    have hz' : inL zs = false := by simpa using hz
    rw [if_neg hz, hz']
    have HZ := Lib.hid hz'
    clear hz hz'
    have HO := World.ownsRow_lit (base := w.heap.size) (e := 3) (size := 1) w #[] 0 (Nat.le_refl _) (by unfold maxLen; omega) (by simp)
    go_enter Try.func55, Try.ntmps55
    go_wp2_with (go_at_call 32; refine (sSumIn_any a cap zs w (by omega) hI).mono ?_; rw [HZ.out]; rintro e w' ⟨rfl, rfl⟩)
    go_ret2
    exact ⟨_, rfl, HO, (Below.refl _ _).alloc (Nat.le_refl _) _⟩
  rw [if_pos hz, hz]
  have hzl := (inL_iff zs).1 hz
  have HZ := Lib.hid hz
  clear hz
  go_enter Try.func55, Try.ntmps55
  go_wp2_with (first | (go_at_call 32; refine (sSumIn_any a cap zs w (by omega) hI).mono ?_; rw [HZ.out]; rintro e w' ⟨rfl, rfl⟩) | (go_at_call 112; refine (l1Counts_any a cap zs w hzl.1 hzl.2 hI).mono ?_; rintro e w1 ⟨v, rfl, hO, hB⟩))
  go_ret2
  exact ⟨v, rfl, hO, hB⟩
theorem sumCR_length (zs : List Int) : (if inL zs = true then sumC zs else []).length ≤ 601 := by
  by_cases hz : inL zs = true
  · have hzl := (inL_iff zs).1 hz
    have := tot_bd hzl.2
    rw [if_pos hz, sumC_length]; omega
  · rw [if_neg hz]; simp
end Go.Proofs.Ytbpkffpejmlonaa
