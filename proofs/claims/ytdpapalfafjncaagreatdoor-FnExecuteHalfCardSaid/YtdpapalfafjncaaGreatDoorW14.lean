/- SumReach of both. Conditions: the list is short enough to be counted. -/
import Derived.Test.YtdpapalfafjncaaGreatDoorW13
import Derived.Test.YtdpapalfafjncaaGreatDoorW5
import Derived.Test.YtdpapalfafjncaaGreatDoorM13
import Derived.Test.YtdpapalfafjncaaGreatDoorIS
namespace Go.Proofs.YtdpapalfafjncaaGreatDoor
open Go.RowKit

/-- the answer of SumReach -/
def sumRR (zs : List Int) : List Int := if inL zs = true then reachL (sumC zs) else []

set_option maxHeartbeats 1600000 in
theorem SumReach_any (a : Option Addr) (cap : Nat) (zs : List Int) (w : World) (hl : zs.length ≤ 4294967296) (hI : IntsAt w a zs) :
    Calls Tryz.prog 97 #[.slice a zs.length cap] w (ListR w (inL zs) (sumRR zs)) := by
  by_cases hz : inL zs = true
  case neg =>
    have hz' : inL zs = false := by simpa using hz
    have hr : sumRR zs = [] := by unfold sumRR; rw [if_neg hz]
    have hc := SumCounts_any a cap zs w hl hI
    rw [if_neg hz, hz'] at hc
    rw [hz', hr]
    clear hz hz' hr
    go_enter Tryz.func97, Tryz.ntmps97
    go_wp2_with fail
    refine hc.mono ?_
    rintro e w1 ⟨v1, rfl, hO1, hB1⟩
    have HO : OwnI (w1.alloc (.cells #[] 3)) w.heap.size (.slice (some ⟨w1.heap.size, 0, none⟩) 0 0) [] := World.ownsRow_lit w1 #[] 0 hB1.size (by unfold maxLen; omega) (by simp)
    clear hc hO1
    go_wp2
    go_ret2
    exact ⟨_, rfl, HO, hB1.alloc hB1.size _⟩
  have hr : sumRR zs = reachL (sumC zs) := by unfold sumRR; rw [if_pos hz]
  have hc := SumCounts_any a cap zs w hl hI
  rw [if_pos hz, hz] at hc
  rw [hz]
  have HR := Lib.hid hr
  have hcl : (sumC zs).length ≤ 601 := by have := sumCR_length zs; rw [if_pos hz] at this; exact this
  clear hz hr
  generalize sumC zs = cs at *
  go_enter Tryz.func97, Tryz.ntmps97
  go_wp2_with fail
  refine hc.mono ?_
  rintro e w1 ⟨v1, rfl, hO1, hB1⟩
  obtain ⟨a1, c1, rfl, hI1, hcap⟩ := hO1.shape
  clear hO1 hc
  go_wp2
  go_loopw [6, 20] (fun v i wr => ∃ k : Nat, k ≤ cs.length ∧ i = .int .i64 k ∧ OwnI wr w1.heap.size v (reachK cs k) ∧ Below w1.heap.size w1 wr) (fun _ i _ => cs.length - (intOf i).toNat)
  case atStart => exact ⟨0, Nat.zero_le _, rfl, World.ownsRow_lit w1 #[] 0 (Nat.le_refl _) (by unfold maxLen; omega) (by simp), (Below.refl _ _).alloc (Nat.le_refl _) _⟩
  case round =>
    obtain ⟨k, hk, rfl, hOr, hBr⟩ := hrel
    have hrl := reachK_length cs k
    by_cases hlt : k < cs.length
    · obtain ⟨b, off, rfl, hb, hcell⟩ := (hI1.below hBr).at (by omega)
      have hx := hcell k hlt
      have HY := Lib.hid (reachK_yes (cs := cs) (k := k))
      have HN := Lib.hid (reachK_no (cs := cs) (k := k))
      generalize cs[k]?.getD 0 = x at hx HY HN
      clear hcell
      by_cases h0 : 0 < x
      · go_wp2_with (at_builtin; refine append1 wr rfl _ _ rfl w1.heap.size u6 (reachK cs k) (k : Int) rfl rfl hOr ?_ hBr.size ?_; (omega); intro v' w' hO' hG')
        go_roundw
        case rel => exact ⟨k + 1, by omega, by go_num, by rw [HY.out h0]; exact hO', hBr.grown hG' hBr.size (fun j hj => (hOr.lt j hj).1)⟩
        case measure => simp [intOf]; omega
      · go_wp2
        go_roundw
        case rel => exact ⟨k + 1, by omega, by go_num, by rw [HN.out (by omega)]; exact hOr, hBr⟩
        case measure => simp [intOf]; omega
    · obtain rfl : k = cs.length := by omega
      go_wp2
      go_ret2
      exact ⟨_, rfl, by rw [HR.out]; exact hOr.mono hB1.size, hB1.trans (hBr.mono hB1.size)⟩
theorem sumRR_length (zs : List Int) : (sumRR zs).length ≤ 601 := by
  unfold sumRR
  split
  · rename_i hz
    have h2 := reachK_length (sumC zs) (sumC zs).length
    have := sumCR_length zs
    rw [if_pos hz] at this
    unfold reachL
    omega
  · simp
end Go.Proofs.YtdpapalfafjncaaGreatDoor
