/- SumMissing of both. Conditions: the list is short enough to be counted. -/
import Derived.Test.YtokfkhdngmpkgaaMM
import Derived.Test.YtokfkhdngmpkgaaIH
namespace Go.Proofs.Ytokfkhdngmpkgaa
open Go.RowKit

set_option maxHeartbeats 1600000 in
theorem SumMissing_any (a : Option Addr) (cap : Nat) (zs : List Int) (w : World) (hl : zs.length ≤ 4294967296) (hI : IntsAt w a zs) :
    Calls Try.prog 8 #[.slice a zs.length cap] w (NumPost w (miR zs) (inL zs)) := by
  by_cases hz : inL zs = true
  case neg =>
    have hz' : inL zs = false := by simpa using hz
    have hc := SumCounts_any a cap zs w hl hI
    rw [if_neg hz, hz'] at hc
    rw [miR, if_neg hz, hz']
    clear hz hz'
    go_enter Try.func8, Try.ntmps8
    go_wp2_with fail
    refine hc.mono ?_
    rintro e w1 ⟨v1, rfl, hO1, hB1⟩
    go_wp2
    go_ret2
    exact ⟨rfl, hB1⟩
  have hc := SumCounts_any a cap zs w hl hI
  rw [if_pos hz, hz] at hc
  rw [miR, if_pos hz, hz]
  have hcl : (sumC zs).length ≤ 601 := by have := sumCR_length zs; rw [if_pos hz] at this; exact this
  clear hz
  generalize sumC zs = cs at *
  go_enter Try.func8, Try.ntmps8
  go_wp2_with fail
  refine hc.mono ?_
  rintro e w1 ⟨v1, rfl, hO1, hB1⟩
  obtain ⟨a1, c1, rfl, hI1, hcap⟩ := hO1.shape
  clear hO1 hc
  go_wp2
  go_loop [17] (fun i => ∃ k : Nat, k ≤ cs.length ∧ i = .int .i64 k ∧ Hid (∀ i, i < k → cs[i]?.getD 0 ≠ 0)) (fun i => cs.length - (intOf i).toNat)
  case atStart => exact ⟨0, Nat.zero_le _, rfl, fun i h => by omega⟩
  case round =>
    obtain ⟨k, hk, rfl, HK⟩ := hrel
    by_cases hlt : k < cs.length
    · obtain ⟨b, off, rfl, hb, hcell⟩ := hI1.at (by omega)
      have hx := hcell k hlt
      have HA : Hid (cs[k]?.getD 0 = 0 → fz cs = k) := fun h => fz_at HK.out h
      have HN : Hid (cs[k]?.getD 0 ≠ 0 → ∀ i, i < k + 1 → cs[i]?.getD 0 ≠ 0) := fun h i hi => by
        by_cases e : i = k
        · subst e; exact h
        · exact HK.out i (by omega)
      generalize cs[k]?.getD 0 = x at hx HA HN
      clear hcell
      by_cases h0 : x = 0
      · subst h0
        have HA2 := Lib.hid (HA.out rfl)
        go_wp2
        go_ret2
        exact ⟨by rw [HA2.out]; rfl, hB1⟩
      · have HN2 := Lib.hid (HN.out h0)
        go_wp2
        go_round
        case rel => exact ⟨k + 1, by omega, by go_num, HN2⟩
        case measure => simp [intOf]; omega
    · obtain rfl : k = cs.length := by omega
      have HE := Lib.hid (fz_end HK.out)
      go_wp2
      go_ret2
      exact ⟨by rw [HE.out]; rfl, hB1⟩

set_option maxHeartbeats 1600000 in
theorem sSumMissing_any (a : Option Addr) (cap : Nat) (zs : List Int) (w : World) (hl : zs.length ≤ 4294967296) (hI : IntsAt w a zs) :
    Calls Try.prog 9 #[.slice a zs.length cap] w (NumPost w (miR zs) (inL zs)) := by
  by_cases hz : inL zs = true
  case neg =>
    have hz' : inL zs = false := by simpa using hz
    rw [miR, if_neg hz, hz']
    have HZ := Lib.hid hz'
    clear hz hz'
    go_enter Try.func9, Try.ntmps9
    go_wp2_with (go_at_call 27; refine (sSumIn_any a cap zs _ hl hI).mono ?_; rw [HZ.out]; rintro e w' ⟨rfl, rfl⟩)
    go_ret2
    exact ⟨rfl, Below.refl _ _⟩
  have hzl := (inL_iff zs).1 hz
  have HZ := Lib.hid hz
  rw [miR, if_pos hz, hz]
  have hcl : (sumC zs).length ≤ 601 := by have := sumCR_length zs; rw [if_pos hz] at this; exact this
  have hc := l1Counts_any a cap zs w hzl.1 hzl.2 hI
  have HP : Hid (∀ k : Nat, 0 ≤ (sumC zs)[k]?.getD 0) := fun k => (tally_bd (sumKey zs) ((tot zs).toNat + 1) (2 ^ zs.length) k).1
  clear hz
  generalize sumC zs = cs at *
  go_enter Try.func9, Try.ntmps9
  go_wp2_with (first | (go_at_call 27; refine (sSumIn_any a cap zs _ hl hI).mono ?_; rw [HZ.out]; rintro e w' ⟨rfl, rfl⟩) | fail)
  refine hc.mono ?_
  rintro e w1 ⟨v1, rfl, hO1, hB1⟩
  obtain ⟨a1, c1, rfl, hI1, hcap⟩ := hO1.shape
  clear hO1 hc
  go_wp2
  go_loop [5] (fun i => ∃ k : Nat, k ≤ cs.length ∧ i = .int .i64 k ∧ Hid (∀ i, i < k → cs[i]?.getD 0 ≠ 0)) (fun i => cs.length - (intOf i).toNat)
  case atStart => exact ⟨0, Nat.zero_le _, rfl, fun i h => by omega⟩
  case round =>
    obtain ⟨k, hk, rfl, HK⟩ := hrel
    by_cases hlt : k < cs.length
    · obtain ⟨b, off, rfl, hb, hcell⟩ := hI1.at (by omega)
      have hx := hcell k hlt
      have hp := HP.out k
      have HA : Hid (cs[k]?.getD 0 = 0 → fz cs = k) := fun h => fz_at HK.out h
      have HN : Hid (cs[k]?.getD 0 ≠ 0 → ∀ i, i < k + 1 → cs[i]?.getD 0 ≠ 0) := fun h i hi => by
        by_cases e : i = k
        · subst e; exact h
        · exact HK.out i (by omega)
      generalize cs[k]?.getD 0 = x at hx HA HN hp
      clear hcell
      by_cases h0 : x = 0
      · subst h0
        have HA2 := Lib.hid (HA.out rfl)
        go_wp2
        go_ret2
        exact ⟨by rw [HA2.out]; rfl, hB1⟩
      · have HN2 := Lib.hid (HN.out h0)
        have hpos : 0 < x := by omega
        go_wp2
        go_round
        case rel => exact ⟨k + 1, by omega, by go_num, HN2⟩
        case measure => simp [intOf]; omega
    · obtain rfl : k = cs.length := by omega
      have HE := Lib.hid (fz_end HK.out)
      go_wp2
      go_ret2
      exact ⟨by rw [HE.out]; rfl, hB1⟩
end Go.Proofs.Ytokfkhdngmpkgaa
