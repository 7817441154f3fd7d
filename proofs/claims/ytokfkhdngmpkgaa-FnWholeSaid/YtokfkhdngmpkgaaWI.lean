/- SumGap of the program. Conditions: the list is short enough to be counted. -/
import Derived.BigRegion
import Derived.Test.YtokfkhdngmpkgaaMM
import Derived.Test.YtokfkhdngmpkgaaIH
namespace Go.Proofs.Ytokfkhdngmpkgaa
open Go.RowKit

/-- the answer of SumGap -/
def gapR (zs : List Int) : Int := gp (sumRR zs) ((sumRR zs).length - 1)
theorem sumRR_mem (zs : List Int) : ∀ x ∈ sumRR zs, 0 ≤ x ∧ x ≤ 601 := fun x hx => by
  unfold sumRR at hx
  split at hx
  · rename_i hz
    have h1 := reach_mem hx
    have := sumCR_length zs
    rw [if_pos hz] at this
    omega
  · simp at hx

set_option maxHeartbeats 1600000 in
theorem SumGap_any (a : Option Addr) (cap : Nat) (zs : List Int) (w : World) (hl : zs.length ≤ 4294967296) (hI : IntsAt w a zs) :
    Calls Try.prog 15 #[.slice a zs.length cap] w (NumPost w (if inL zs = true then gapR zs else 0) (inL zs)) := by
  have hR := SumReach_any a cap zs w hl hI
  by_cases hz : inL zs = true
  case neg =>
    have hz' : inL zs = false := by simpa using hz
    rw [hz'] at hR
    rw [if_neg hz, hz']
    clear hz hz'
    go_enter Try.func15, Try.ntmps15
    go_wp2_with fail
    refine hR.mono ?_
    rintro e w1 ⟨v1, rfl, hO1, hB1⟩
    go_wp2
    go_ret2
    exact ⟨rfl, hB1⟩
  rw [hz] at hR
  rw [if_pos hz, hz]
  have HG : Hid (gapR zs = gp (sumRR zs) ((sumRR zs).length - 1)) := rfl
  have hm := sumRR_mem zs
  have hlb := sumRR_length zs
  clear hz
  generalize sumRR zs = L at *
  go_enter Try.func15, Try.ntmps15
  go_wp2_with fail
  refine hR.mono ?_
  rintro e w1 ⟨v1, rfl, hO1, hB1⟩
  obtain ⟨a1, c1, rfl, hI1, _⟩ := hO1.shape
  clear hR hO1
  go_wp2
  go_loopw [6, 7] (fun s i wr => ∃ k m : Nat, (k + 1 ≤ L.length ∨ k = 0) ∧ i = .int .i64 ((k : Int) + 1) ∧ s = .int .i64 (gp L k) ∧ wr = w1.drewN m) (fun _ i _ => L.length - (intOf i).toNat)
  case atStart => exact ⟨0, 0, .inr rfl, rfl, rfl, rfl⟩
  case round =>
    obtain ⟨k, m, hk, rfl, rfl, rfl⟩ := hrel
    by_cases hlt : k + 1 < L.length
    · have hb := gp_bd (B := 601) (by omega) hm k (by omega)
      obtain ⟨b, off, rfl, hbl, hcell⟩ := hI1.at (by omega)
      have hx : (w1.drewN m).cell? ⟨b, off + (k + 1), none⟩ = some (.int .i64 (L[k + 1]?.getD 0)) := hcell (k + 1) hlt
      have hy : (w1.drewN m).cell? ⟨b, off + k, none⟩ = some (.int .i64 (L[k]?.getD 0)) := hcell k (by omega)
      have hxb : 0 ≤ L[k + 1]?.getD 0 ∧ L[k + 1]?.getD 0 ≤ 601 := by
        rw [List.getElem?_eq_getElem hlt]; exact hm _ (List.getElem_mem _)
      have hyb : 0 ≤ L[k]?.getD 0 ∧ L[k]?.getD 0 ≤ 601 := by
        rw [List.getElem?_eq_getElem (by omega)]; exact hm _ (List.getElem_mem _)
      have HS : Hid (gp L (k + 1) = max (gp L k) (L[k + 1]?.getD 0 - L[k]?.getD 0)) := rfl
      generalize L[k + 1]?.getD 0 = x at hx hxb HS
      generalize L[k]?.getD 0 = y at hy hyb HS
      generalize gp L k = s at *
      clear hcell
      go_wp2_with fail
      have hxq : ∀ q, (w1.drewN q).cell? ⟨b, off + (k + 1), none⟩ = some (.int .i64 x) := fun _ => hx
      have hyq : ∀ q, (w1.drewN q).cell? ⟨b, off + k, none⟩ = some (.int .i64 y) := fun _ => hy
      have hxd : (w1.drewN m).drew.cell? ⟨b, off + (k + 1), none⟩ = some (.int .i64 x) := hx
      have hyd : (w1.drewN m).drew.cell? ⟨b, off + k, none⟩ = some (.int .i64 y) := hy
      have hk0 : (0 : Int) ≤ (k : Int) + 1 := by omega
      go_region
      all_goals
        go_wp2
        go_roundw
        case rel => exact ⟨k + 1, _, .inl (by omega), by go_num, congrArg (Value.int .i64) (by rw [HS.out]; omega), rfl⟩
        case measure => simp [intOf]; omega
    · have HE : Hid (gapR zs = gp L k) := by
        show _ = _
        rw [HG.out]
        congr 1
        omega
      have hnl : ¬ (k : Int) + 1 < L.length := by omega
      go_wp2
      go_ret2
      exact ⟨by rw [HE.out]; rfl, belowDr hB1 m⟩
end Go.Proofs.Ytokfkhdngmpkgaa
