/- SumReach of both. Conditions: the list is short enough to be counted. -/
import Derived.Test.YtbpkffpejmlonaaW13
import Derived.Test.YtbpkffpejmlonaaW5
import Derived.Test.YtbpkffpejmlonaaM13
import Derived.Test.YtbpkffpejmlonaaIS
namespace Go.Proofs.Ytbpkffpejmlonaa
open Go.RowKit

/-- the answer of SumReach -/
def sumRR (zs : List Int) : List Int := if inL zs = true then reachL (sumC zs) else []

set_option maxHeartbeats 1600000 in
theorem SumReach_any (a : Option Addr) (cap : Nat) (zs : List Int) (w : World) (hl : zs.length ≤ 4294967296) (hI : IntsAt w a zs) :
    Calls Try.prog 76 #[.slice a zs.length cap] w (ListR w (inL zs) (sumRR zs)) := by
  by_cases hz : inL zs = true
  case neg =>
    have hz' : inL zs = false := by simpa using hz
    have hr : sumRR zs = [] := by unfold sumRR; rw [if_neg hz]
    have hc := SumCounts_any a cap zs w hl hI
    rw [if_neg hz, hz'] at hc
    rw [hz', hr]
    clear hz hz' hr
    go_enter Try.func76, Try.ntmps76
    go_wp2_with fail
    refine hc.mono ?_
    rintro e w1 ⟨v1, rfl, hO1, hB1⟩
    have HO : OwnI (w1.alloc (.cells #[] 3)) w.heap.size (.slice (some ⟨w1.heap.size, 0, none⟩) 0 0) [] := World.ownsRow_lit w1 #[] 0 hB1.size (by unfold maxLen; omega) (by simp)
    clear hc hO1
    go_wp2
    go_ret2
    exact ⟨_, rfl, HO, hB1.alloc hB1.size _⟩
  have hr : sumRR zs = reachL (sumC zs) := by unfold sumRR; rw [if_pos hz]
  have hc := SumCounts_any a cap zs w hl hI
  rw [if_pos hz, hz] at hc
  rw [hz]
  have HR := Lib.hid hr
  have hcl : (sumC zs).length ≤ 601 := by have := sumCR_length zs; rw [if_pos hz] at this; exact this
  clear hz hr
  generalize sumC zs = cs at *
  go_enter Try.func76, Try.ntmps76
  go_wp2_with fail
  refine hc.mono ?_
  rintro e w1 ⟨v1, rfl, hO1, hB1⟩
  obtain ⟨a1, c1, rfl, hI1, hcap⟩ := hO1.shape
  clear hO1 hc
  go_wp2
  go_loopw [6, 20] (fun v i wr => ∃ k : Nat, k ≤ cs.length ∧ i = .int .i64 k ∧ OwnI wr w1.heap.size v (reachK cs k) ∧ Below w1.heap.size w1 wr) (fun _ i _ => cs.length - (intOf i).toNat)
  case atStart => exact ⟨0, Nat.zero_le _, rfl, World.ownsRow_lit w1 #[] 0 (Nat.le_refl _) (by unfold maxLen; omega) (by simp), (Below.refl _ _).alloc (Nat.le_refl _) _⟩
  case round =>
    obtain ⟨k, hk, rfl, hOr, hBr⟩ := hrel
    have hrl := reachK_length cs k
    by_cases hlt : k < cs.length
    · obtain ⟨b, off, rfl, hb, hcell⟩ := (hI1.below hBr).at (by omega)
      have hx := hcell k hlt
      have HY := Lib.hid (reachK_yes (cs := cs) (k := k))
      have HN := Lib.hid (reachK_no (cs := cs) (k := k))
      generalize cs[k]?.getD 0 = x at hx HY HN
      clear hcell
      by_cases h0 : 0 < x
      · go_wp2_with (at_builtin; refine append1 wr rfl _ _ rfl w1.heap.size u6 (reachK cs k) (k : Int) rfl rfl hOr ?_ hBr.size ?_; (omega); intro v' w' hO' hG')
        go_roundw
        case rel => exact ⟨k + 1, by omega, by go_num, by rw [HY.out h0]; exact hO', hBr.grown hG' hBr.size (fun j hj => (hOr.lt j hj).1)⟩
        case measure => simp [intOf]; omega
      · go_wp2
        go_roundw
        case rel => exact ⟨k + 1, by omega, by go_num, by rw [HN.out (by omega)]; exact hOr, hBr⟩
        case measure => simp [intOf]; omega
    · obtain rfl : k = cs.length := by omega
      go_wp2
      go_ret2
      exact ⟨_, rfl, by rw [HR.out]; exact hOr.mono hB1.size, hB1.trans (hBr.mono hB1.size)⟩
set_option maxHeartbeats 4000000 in
theorem sSumReach_any (a : Option Addr) (cap : Nat) (zs : List Int) (w : World) (hl : zs.length ≤ 4294967296) (hI : IntsAt w a zs) :
    Calls Try.prog 77 #[.slice a zs.length cap] w (ListR w (inL zs) (sumRR zs)) := by
  have HO : OwnI (w.alloc (.cells #[] 3)) w.heap.size (.slice (some ⟨w.heap.size, 0, none⟩) 0 0) [] := World.ownsRow_lit w #[] 0 (Nat.le_refl _) (by unfold maxLen; omega) (by simp)
  have hB0 : Below w.heap.size w (w.alloc (.cells #[] 3)) := (Below.refl _ _).alloc (Nat.le_refl _) _
  have hI0 := hI.below hB0
  have hs0 : (w.alloc (.cells #[] 3)).heap.size = w.heap.size + 1 := by simp
  by_cases hz : inL zs = true
  case neg =>
    have hz' : inL zs = false := by simpa using hz
    have hr : sumRR zs = [] := by unfold sumRR; rw [if_neg hz]
    rw [hz', hr]
    have HZ := Lib.hid hz'
    clear hz hz' hr
    go_enter Try.func77, Try.ntmps77
    go_wp2_with (go_at_call 32; refine (sSumIn_any a cap zs _ (by omega) hI0).mono ?_; rw [HZ.out]; rintro e w' ⟨rfl, rfl⟩)
    go_ret2
    exact ⟨_, rfl, HO, hB0⟩
  have hzl := (inL_iff zs).1 hz
  have hr : sumRR zs = reachL (sumC zs) := by unfold sumRR; rw [if_pos hz]
  have HR := Lib.hid hr
  have HZ := Lib.hid hz
  have hcl : (sumC zs).length ≤ 601 ∧ 1 ≤ (sumC zs).length := by
    have := sumCR_length zs
    rw [if_pos hz] at this
    rw [sumC_length] at this ⊢
    omega
  have hfirst := sumC_first hzl.2
  rw [hz]
  clear hz hr
  have hc := l1Counts_any a cap zs (w.alloc (.cells #[] 3)) hzl.1 hzl.2 hI0
  go_enter Try.func77, Try.ntmps77
  go_wp2_with (go_at_call 32; refine (sSumIn_any a cap zs _ (by omega) hI0).mono ?_; rw [HZ.out]; rintro e w' ⟨rfl, rfl⟩)
  refine hc.mono ?_
  rintro e w1 ⟨v1, rfl, hO1, hB1⟩
  generalize sumC zs = cs at *
  obtain ⟨g1, c1, rfl, hg1, hg1', _⟩ := hO1.at (by omega)
  have HO1 : OwnI w1 w.heap.size (.slice (some ⟨w.heap.size, 0, none⟩) 0 0) [] := HO.keptB hB1
  have hB01 : Below w.heap.size w w1 := hB0.trans (hB1.mono (by omega))
  have HF := Lib.hid hfirst
  clear HO hc hfirst hI0
  generalize (w.alloc (.cells #[] 3)) = w0 at *
  go_wp2
  go_loopw [4, 6] (fun v i wr => ∃ k : Nat, k ≤ cs.length ∧ i = .int .i64 k ∧ (k = 0 → v = .slice (some ⟨w.heap.size, 0, none⟩) 0 0) ∧ OwnI wr w.heap.size v (reachK cs k) ∧ OwnI wr w0.heap.size (.slice (some ⟨g1, 0, none⟩) cs.length c1) cs ∧ Below w.heap.size w wr) (fun _ i _ => cs.length - (intOf i).toNat)
  case atStart => exact ⟨0, Nat.zero_le _, rfl, fun _ => rfl, HO1, hO1, hB01⟩
  case round =>
    obtain ⟨k, hk, rfl, hk0, hOr, hOc, hBr⟩ := hrel
    have hrl := reachK_length cs k
    by_cases hlt : k < cs.length
    · obtain ⟨g', cp', he, _, _, hcell⟩ := hOc.at (by omega)
      simp only [Value.slice.injEq, Option.some.injEq, Addr.mk.injEq, and_true, true_and] at he
      obtain ⟨rfl, rfl⟩ := he
      have hne : u4.ownBlock ≠ some g1 := by
        rcases Nat.eq_zero_or_pos k with e | e
        · rw [hk0 e]; simp [Value.ownBlock]; omega
        · obtain ⟨m, rfl⟩ : ∃ m, k = m + 1 := ⟨k - 1, by omega⟩
          obtain ⟨t, ht⟩ := reachK_head (k := m) (cs := cs) (by rw [HF.out]; omega)
          obtain ⟨g2, cp2, he2, _, _, hcell2⟩ := hOr.at (by rw [ht]; simp)
          intro hcon
          rw [he2] at hcon
          simp [Value.ownBlock] at hcon
          subst hcon
          have q1 := (hcell2 0 (by rw [ht]; simp)).1
          have q2 := (hcell 0 (by omega)).1
          rw [q1, HF.out, ht] at q2
          simp at q2
      have hx := (hcell k hlt).1
      have HY := Lib.hid (reachK_yes (cs := cs) (k := k))
      have HN := Lib.hid (reachK_no (cs := cs) (k := k))
      generalize cs[k]?.getD 0 = x at hx HY HN
      clear hcell hk0
      by_cases h0 : 0 < x
      · go_wp2_with (at_builtin; refine append1 wr rfl _ _ rfl w.heap.size u4 (reachK cs k) (k : Int) rfl rfl hOr ?_ hBr.size ?_; (omega); intro v' w' hO' hG')
        go_roundw
        case rel => exact ⟨k + 1, by omega, by go_num, fun h => by omega, by rw [HY.out h0]; exact hO', hOc.kept hG' (.inr (by simpa [Value.ownBlock] using fun h => hne h.symm)), hBr.grown hG' hBr.size (fun j hj => (hOr.lt j hj).1)⟩
        case measure => simp [intOf]; omega
      · go_wp2
        go_roundw
        case rel => exact ⟨k + 1, by omega, by go_num, fun h => by omega, by rw [HN.out (by omega)]; exact hOr, hOc, hBr⟩
        case measure => simp [intOf]; omega
    · obtain rfl : k = cs.length := by omega
      go_wp2
      go_ret2
      exact ⟨_, rfl, by rw [HR.out]; exact hOr, hBr⟩
theorem sumRR_length (zs : List Int) : (sumRR zs).length ≤ 601 := by
  unfold sumRR
  split
  · rename_i hz
    have h2 := reachK_length (sumC zs) (sumC zs).length
    have := sumCR_length zs
    rw [if_pos hz] at this
    unfold reachL
    omega
  · simp
end Go.Proofs.Ytbpkffpejmlonaa
