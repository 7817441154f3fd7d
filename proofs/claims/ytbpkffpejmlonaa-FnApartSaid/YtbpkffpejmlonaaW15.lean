/- SumApart of both, and its draw. Conditions: stated in each. -/
import Derived.Test.YtbpkffpejmlonaaW14
namespace Go.Proofs.Ytbpkffpejmlonaa
open Go.RowKit

/-- the answer of SumApart -/
def apartB (zs : List Int) : Bool := inL zs && (sumC zs).all fun x => decide (x ≤ 1)
theorem apart_yes {zs : List Int} (hz : inL zs = true) (h : ∀ j, j < (sumC zs).length → (sumC zs)[j]?.getD 0 ≤ 1) : apartB zs = true := by
  simp only [apartB, hz, Bool.true_and, List.all_eq_true, decide_eq_true_eq]
  intro x hx
  obtain ⟨j, hj, rfl⟩ := List.mem_iff_getElem.1 hx
  have := h j hj
  rwa [List.getElem?_eq_getElem hj] at this
theorem apart_no {zs : List Int} (j : Nat) (hj : j < (sumC zs).length) (h : ¬ (sumC zs)[j]?.getD 0 ≤ 1) : apartB zs = false := by
  rw [Bool.eq_false_iff]
  intro hc
  simp only [apartB, Bool.and_eq_true, List.all_eq_true, decide_eq_true_eq] at hc
  apply h
  rw [List.getElem?_eq_getElem hj]
  exact hc.2 _ (List.getElem_mem hj)
theorem apart_none {zs : List Int} (hz : inL zs = false) : apartB zs = false := by simp [apartB, hz]
def ApartPost (w : World) (zs : List Int) (e : Ending) (w' : World) : Prop := e = .returned (.bool (apartB zs)) ∧ Below w.heap.size w w'

set_option maxHeartbeats 1600000 in
theorem sSumApart_any (a : Option Addr) (cap : Nat) (zs : List Int) (w : World) (hl : zs.length ≤ 4294967296) (hI : IntsAt w a zs) :
    Calls Try.prog 85 #[.slice a zs.length cap] w (ApartPost w zs) := by
  by_cases hz : inL zs = true
  case neg =>
    have hz' : inL zs = false := by simpa using hz
    have HZ := Lib.hid hz'
    have HN := Lib.hid (apart_none hz')
    clear hz hz'
    go_enter Try.func85, Try.ntmps85
    go_wp2_with (go_at_call 32; refine (sSumIn_any a cap zs _ (by omega) hI).mono ?_; rw [HZ.out]; rintro e w' ⟨rfl, rfl⟩)
    go_ret
    exact ⟨by rw [HN.out]; rfl, Below.refl _ _⟩
  have hzl := (inL_iff zs).1 hz
  have HZ := Lib.hid hz
  have HY := Lib.hid (apart_yes hz)
  have HN := Lib.hid (apart_no (zs := zs))
  have hcl : (sumC zs).length ≤ 601 := by have := sumCR_length zs; rw [if_pos hz] at this; exact this
  clear hz
  go_enter Try.func85, Try.ntmps85
  go_wp2_with (first | (go_at_call 32; refine (sSumIn_any a cap zs _ (by omega) hI).mono ?_; rw [HZ.out]; rintro e w' ⟨rfl, rfl⟩) | (go_at_call 112; refine (l1Counts_any a cap zs w hzl.1 hzl.2 hI).mono ?_; rintro e w1 ⟨v1, rfl, hO1, hB1⟩; obtain ⟨a1, c1, rfl, hI1, _⟩ := hO1.shape))
  clear hO1
  generalize sumC zs = cs at *
  go_loop [4] (fun i => ∃ k : Nat, k ≤ cs.length ∧ i = .int .i64 k ∧ ∀ j, j < k → cs[j]?.getD 0 ≤ 1) (fun i => cs.length - (intOf i).toNat)
  case atStart => exact ⟨0, Nat.zero_le _, rfl, fun j hj => by omega⟩
  case round =>
    obtain ⟨k, hk, rfl, hall⟩ := hrel
    by_cases hlt : k < cs.length
    · obtain ⟨b, off, rfl, hb, hcell⟩ := hI1.at (by omega)
      have hx := hcell k hlt
      have HNk := Lib.hid (HN.out k hlt)
      have HA := Lib.hid hall
      obtain ⟨x, hxv⟩ : ∃ x, cs[k]?.getD 0 = x := ⟨_, rfl⟩
      rw [hxv] at hx HNk
      have HX := Lib.hid hxv
      clear hcell hall hxv
      by_cases h1 : x ≤ 1
      · go_wp2
        go_round
        case rel => exact ⟨k + 1, by omega, by go_num, fun j hj => by
          rcases Nat.lt_or_ge j k with e | e
          · exact HA.out j e
          · obtain rfl : j = k := by omega
            rw [HX.out]; exact h1⟩
        case measure => simp [intOf]; omega
      · go_wp2
        go_ret
        exact ⟨by rw [HNk.out (by omega)]; rfl, hB1⟩
    · obtain rfl : k = cs.length := by omega
      have HA := Lib.hid hall
      clear hall
      go_wp2
      go_ret
      exact ⟨by rw [HY.out HA.out]; rfl, hB1⟩

set_option maxHeartbeats 1600000 in
theorem SumApart_any (a : Option Addr) (cap : Nat) (zs : List Int) (w : World) (hl : zs.length ≤ 4294967296) (hI : IntsAt w a zs) :
    Calls Try.prog 84 #[.slice a zs.length cap] w (ApartPost w zs) := by
  have hc := SumCounts_any a cap zs w hl hI
  by_cases hz : inL zs = true
  case neg =>
    have hz' : inL zs = false := by simpa using hz
    rw [if_neg hz, hz'] at hc
    have HN := Lib.hid (apart_none hz')
    clear hz hz'
    go_enter Try.func84, Try.ntmps84
    go_wp2_with fail
    refine hc.mono ?_
    rintro e w1 ⟨v1, rfl, hO1, hB1⟩
    clear hc hO1
    go_wp2
    go_ret
    exact ⟨by rw [HN.out]; rfl, hB1⟩
  have HY := Lib.hid (apart_yes hz)
  have HN := Lib.hid (apart_no (zs := zs))
  have hcl : (sumC zs).length ≤ 601 := by have := sumCR_length zs; rw [if_pos hz] at this; exact this
  rw [if_pos hz, hz] at hc
  clear hz
  go_enter Try.func84, Try.ntmps84
  go_wp2_with fail
  refine hc.mono ?_
  rintro e w1 ⟨v1, rfl, hO1, hB1⟩
  obtain ⟨a1, c1, rfl, hI1, _⟩ := hO1.shape
  clear hO1 hc
  generalize sumC zs = cs at *
  go_wp2
  go_loop [16] (fun i => ∃ k : Nat, k ≤ cs.length ∧ i = .int .i64 k ∧ ∀ j, j < k → cs[j]?.getD 0 ≤ 1) (fun i => cs.length - (intOf i).toNat)
  case atStart => exact ⟨0, Nat.zero_le _, rfl, fun j hj => by omega⟩
  case round =>
    obtain ⟨k, hk, rfl, hall⟩ := hrel
    by_cases hlt : k < cs.length
    · obtain ⟨b, off, rfl, hb, hcell⟩ := hI1.at (by omega)
      have hx := hcell k hlt
      have HNk := Lib.hid (HN.out k hlt)
      have HA := Lib.hid hall
      obtain ⟨x, hxv⟩ : ∃ x, cs[k]?.getD 0 = x := ⟨_, rfl⟩
      rw [hxv] at hx HNk
      have HX := Lib.hid hxv
      clear hcell hall hxv
      by_cases h1 : x ≤ 1
      · go_wp2
        go_round
        case rel => exact ⟨k + 1, by omega, by go_num, fun j hj => by
          rcases Nat.lt_or_ge j k with e | e
          · exact HA.out j e
          · obtain rfl : j = k := by omega
            rw [HX.out]; exact h1⟩
        case measure => simp [intOf]; omega
      · go_wp2
        go_ret
        exact ⟨by rw [HNk.out (by omega)]; rfl, hB1⟩
    · obtain rfl : k = cs.length := by omega
      have HA := Lib.hid hall
      clear hall
      go_wp2
      go_ret
      exact ⟨by rw [HY.out HA.out]; rfl, hB1⟩
end Go.Proofs.Ytbpkffpejmlonaa
