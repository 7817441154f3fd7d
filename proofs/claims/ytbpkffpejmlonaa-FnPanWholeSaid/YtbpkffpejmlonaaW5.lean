/- RestReach of both. Conditions: the list is short enough to be counted. -/
import Derived.Test.YtbpkffpejmlonaaIC
namespace Go.Proofs.Ytbpkffpejmlonaa
open Go.RowKit

/-- the answer of RestReach -/
def restR (zs : List Int) (n : Int) : List Int := if restOk zs n = true then reachL (restC zs n) else []
theorem restC_length (zs : List Int) (n : Int) : (restC zs n).length = n.toNat := tally_length _ _ _

set_option maxHeartbeats 1600000 in
theorem sRestReach_any (a : Option Addr) (cap : Nat) (zs : List Int) (n : Int) (w : World) (hl : zs.length ≤ 4294967296) (hI : IntsAt w a zs) :
    Calls Try.prog 51 #[.slice a zs.length cap, .int .i64 n] w (ListR w (restOk zs n) (restR zs n)) := by
  go_enter Try.func51, Try.ntmps51
  go_wp2_with fail
  refine (sRestCounts_any a cap zs n w hl hI).mono ?_
  rintro e w1 ⟨v1, rfl, hO1, hB1⟩
  obtain ⟨a1, c1, rfl, hI1, hcap⟩ := hO1.shape
  have hcl : (if restOk zs n = true then restC zs n else []).length ≤ 6 := by
    by_cases hz : restOk zs n = true
    · rw [if_pos hz, restC_length]; have := ((restOk_iff zs n).1 hz).2; omega
    · rw [if_neg hz]; simp
  have hres : restR zs n = reachL (if restOk zs n = true then restC zs n else []) := by
    unfold restR
    by_cases hz : restOk zs n = true
    · rw [if_pos hz, if_pos hz]
    · rw [if_neg hz, if_neg hz]; rfl
  have HR := Lib.hid hres
  clear hres
  generalize (if restOk zs n = true then restC zs n else []) = cs at *
  have hO : OwnI (w1.alloc (.cells #[] 3)) w.heap.size (.slice (some ⟨w1.heap.size, 0, none⟩) 0 0) [] := World.ownsRow_lit w1 #[] 0 hB1.size (by unfold maxLen; omega) (by simp)
  have hB2 : Below w.heap.size w (w1.alloc (.cells #[] 3)) := hB1.alloc hB1.size _
  have hlt1 := hO1.lt
  have hI2 : IntsAt (w1.alloc (.cells #[] 3)) a1 cs := hI1.below ((Below.refl _ _).alloc (Nat.le_refl _) _)
  clear hO1 hlt1
  go_wp2
  go_loopw [8, 9] (fun v i wr => ∃ k : Nat, k ≤ cs.length ∧ i = .int .i64 k ∧ OwnI wr w1.heap.size v (reachK cs k) ∧ Below w1.heap.size w1 wr) (fun _ i _ => cs.length - (intOf i).toNat)
  case atStart => exact ⟨0, Nat.zero_le _, rfl, World.ownsRow_lit w1 #[] 0 (Nat.le_refl _) (by unfold maxLen; omega) (by simp), (Below.refl _ _).alloc (Nat.le_refl _) _⟩
  case round =>
    obtain ⟨k, hk, rfl, hOr, hBr⟩ := hrel
    have hrl := reachK_length cs k
    by_cases hlt : k < cs.length
    · obtain ⟨b, off, rfl, hb, hcell⟩ := (hI1.below hBr).at (by omega)
      have hx := hcell k hlt
      have HY := Lib.hid (reachK_yes (cs := cs) (k := k))
      have HN := Lib.hid (reachK_no (cs := cs) (k := k))
      generalize cs[k]?.getD 0 = x at hx HY HN
      clear hcell
      by_cases h0 : 0 < x
      · go_wp2_with (at_builtin; refine append1 wr rfl _ _ rfl w1.heap.size u8 (reachK cs k) (k : Int) rfl rfl hOr ?_ hBr.size ?_; (omega); intro v' w' hO' hG')
        go_roundw
        case rel => exact ⟨k + 1, by omega, by go_num, by rw [HY.out h0]; exact hO', hBr.grown hG' hBr.size (fun j hj => (hOr.lt j hj).1)⟩
        case measure => simp [intOf]; omega
      · go_wp2
        go_roundw
        case rel => exact ⟨k + 1, by omega, by go_num, by rw [HN.out (by omega)]; exact hOr, hBr⟩
        case measure => simp [intOf]; omega
    · obtain rfl : k = cs.length := by omega
      go_wp2
      go_ret2
      exact ⟨_, rfl, by rw [HR.out]; exact hOr.mono hB1.size, hB1.trans (hBr.mono hB1.size)⟩

set_option maxHeartbeats 1600000 in
theorem RestReach_any (a : Option Addr) (cap : Nat) (zs : List Int) (n : Int) (w : World) (hl : zs.length ≤ 4294967296) (hI : IntsAt w a zs) :
    Calls Try.prog 52 #[.slice a zs.length cap, .int .i64 n] w (ListR w (restOk zs n) (restR zs n)) := by
  by_cases hz : restOk zs n = true
  case neg =>
    have hz' : restOk zs n = false := by simpa using hz
    have hr : restR zs n = [] := by unfold restR; rw [if_neg hz]
    have hc := RestCounts_any a cap zs n w hl hI
    rw [if_neg hz, hz'] at hc
    rw [hz', hr]
    clear hz hz' hr
    go_enter Try.func52, Try.ntmps52
    go_wp2_with fail
    refine hc.mono ?_
    rintro e w1 ⟨v1, rfl, hO1, hB1⟩
    have HO : OwnI (w1.alloc (.cells #[] 3)) w.heap.size (.slice (some ⟨w1.heap.size, 0, none⟩) 0 0) [] := World.ownsRow_lit w1 #[] 0 hB1.size (by unfold maxLen; omega) (by simp)
    clear hc hO1
    go_wp2
    go_ret2
    exact ⟨_, rfl, HO, hB1.alloc hB1.size _⟩
  have hr : restR zs n = reachL (restC zs n) := by unfold restR; rw [if_pos hz]
  have hc := RestCounts_any a cap zs n w hl hI
  rw [if_pos hz, hz] at hc
  rw [hz]
  have HR := Lib.hid hr
  have hcl : (restC zs n).length ≤ 6 := by rw [restC_length]; have := ((restOk_iff zs n).1 hz).2; omega
  clear hz hr
  generalize restC zs n = cs at *
  go_enter Try.func52, Try.ntmps52
  go_wp2_with fail
  refine hc.mono ?_
  rintro e w1 ⟨v1, rfl, hO1, hB1⟩
  obtain ⟨a1, c1, rfl, hI1, hcap⟩ := hO1.shape
  clear hO1 hc
  go_wp2
  go_loopw [8, 23] (fun v i wr => ∃ k : Nat, k ≤ cs.length ∧ i = .int .i64 k ∧ OwnI wr w1.heap.size v (reachK cs k) ∧ Below w1.heap.size w1 wr) (fun _ i _ => cs.length - (intOf i).toNat)
  case atStart => exact ⟨0, Nat.zero_le _, rfl, World.ownsRow_lit w1 #[] 0 (Nat.le_refl _) (by unfold maxLen; omega) (by simp), (Below.refl _ _).alloc (Nat.le_refl _) _⟩
  case round =>
    obtain ⟨k, hk, rfl, hOr, hBr⟩ := hrel
    have hrl := reachK_length cs k
    by_cases hlt : k < cs.length
    · obtain ⟨b, off, rfl, hb, hcell⟩ := (hI1.below hBr).at (by omega)
      have hx := hcell k hlt
      have HY := Lib.hid (reachK_yes (cs := cs) (k := k))
      have HN := Lib.hid (reachK_no (cs := cs) (k := k))
      generalize cs[k]?.getD 0 = x at hx HY HN
      clear hcell
      by_cases h0 : 0 < x
      · go_wp2_with (at_builtin; refine append1 wr rfl _ _ rfl w1.heap.size u8 (reachK cs k) (k : Int) rfl rfl hOr ?_ hBr.size ?_; (omega); intro v' w' hO' hG')
        go_roundw
        case rel => exact ⟨k + 1, by omega, by go_num, by rw [HY.out h0]; exact hO', hBr.grown hG' hBr.size (fun j hj => (hOr.lt j hj).1)⟩
        case measure => simp [intOf]; omega
      · go_wp2
        go_roundw
        case rel => exact ⟨k + 1, by omega, by go_num, by rw [HN.out (by omega)]; exact hOr, hBr⟩
        case measure => simp [intOf]; omega
    · obtain rfl : k = cs.length := by omega
      go_wp2
      go_ret2
      exact ⟨_, rfl, by rw [HR.out]; exact hOr.mono hB1.size, hB1.trans (hBr.mono hB1.size)⟩
theorem restR_length (zs : List Int) (n : Int) : (restR zs n).length ≤ 6 := by
  unfold restR
  split
  · rename_i hz
    have h1 := ((restOk_iff zs n).1 hz).2
    have h2 := reachK_length (restC zs n) (restC zs n).length
    rw [restC_length] at h2
    unfold reachL
    rw [restC_length]
    omega
  · simp
theorem restCR_length (zs : List Int) (n : Int) : (if restOk zs n = true then restC zs n else []).length ≤ 6 := by
  by_cases hz : restOk zs n = true
  · rw [if_pos hz, restC_length]; have := ((restOk_iff zs n).1 hz).2; omega
  · rw [if_neg hz]; simp
end Go.Proofs.Ytbpkffpejmlonaa
