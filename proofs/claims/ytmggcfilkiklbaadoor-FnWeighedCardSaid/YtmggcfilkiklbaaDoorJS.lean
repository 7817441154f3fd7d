/- PanSides of both. Conditions: stated in each. -/
import Derived.Test.YtmggcfilkiklbaaDoorJE
import Derived.Test.YtmggcfilkiklbaaDoorMF
import Derived.Test.YtmggcfilkiklbaaDoorAA
import Derived.Test.YtmggcfilkiklbaaDoorW1
namespace Go.Proofs.YtmggcfilkiklbaaDoor
open Go.RowKit

def isSg (s : Int) : Bool := decide (-1 ≤ s) && decide (s ≤ 1)
theorem isSg_iff (s : Int) : isSg s = true ↔ -1 ≤ s ∧ s ≤ 1 := by simp [isSg]
def sgOk (zs ss : List Int) : Bool := inL zs && (decide (ss.length = zs.length) && ss.all isSg)
theorem all_sg {ss : List Int} (h : ss.all isSg = true) : ∀ s ∈ ss, -1 ≤ s ∧ s ≤ 1 := fun s hs => (isSg_iff s).1 (List.all_eq_true.1 h s hs)

set_option maxHeartbeats 800000 in
theorem check_ok (a : Option Addr) (cap : Nat) (ss : List Int) (w : World) (hl : ss.length ≤ 1000000) (h : ss.all isSg = true) (hI : IntsAt w a ss) :
    Calls Tryd.prog 18 #[.slice a ss.length cap] w fun e w' => e = .returned .nilIface ∧ w = w' := by
  have HA := Lib.hid (all_sg h)
  clear h
  go_enter Tryd.func18, Tryd.ntmps18
  go_wp2
  go_loop [7] (fun i => ∃ k : Nat, k ≤ ss.length ∧ i = .int .i64 k) (fun i => ss.length - (intOf i).toNat)
  case atStart => exact ⟨0, Nat.zero_le _, rfl⟩
  case round =>
    obtain ⟨k, hk, rfl⟩ := hrel
    by_cases hlt : k < ss.length
    · obtain ⟨b, off, rfl, hb, hcell⟩ := hI.at (by omega)
      have hx := hcell k hlt
      have hs : -1 ≤ ss[k]?.getD 0 ∧ ss[k]?.getD 0 ≤ 1 := by rw [List.getElem?_eq_getElem hlt]; exact HA.out _ (List.getElem_mem _)
      generalize ss[k]?.getD 0 = x at hx hs
      clear hcell
      go_wp2
      go_round
      case rel => exact ⟨k + 1, by omega, by go_num⟩
      case measure => simp [intOf]; omega
    · go_wp2
      go_ret
      exact ⟨rfl, rfl⟩
set_option maxHeartbeats 800000 in
theorem check_bad (a : Option Addr) (cap : Nat) (ss : List Int) (w : World) (hl : ss.length ≤ 1000000) (h : ss.all isSg = false) (hI : IntsAt w a ss) :
    Calls Tryd.prog 18 #[.slice a ss.length cap] w fun e w' => (∃ p : Addr, e = .returned (.iface 53 (.pointer (some p)))) ∧ Below w.heap.size w w' := by
  have HB : Hid (¬ ∀ i, i < ss.length → isSg (ss[i]?.getD 0) = true) := fun hh => by
    have : ss.all isSg = true := List.all_eq_true.2 (fun s hs => by
      obtain ⟨i, hi, rfl⟩ := List.getElem_of_mem hs
      have := hh i hi
      rwa [List.getElem?_eq_getElem hi] at this)
    rw [h] at this; cases this
  clear h
  go_enter Tryd.func18, Tryd.ntmps18
  go_wp2
  go_loop [7] (fun i => ∃ k : Nat, k ≤ ss.length ∧ i = .int .i64 k ∧ Hid (∀ i, i < k → isSg (ss[i]?.getD 0) = true)) (fun i => ss.length - (intOf i).toNat)
  case atStart => exact ⟨0, Nat.zero_le _, rfl, fun i hi => by omega⟩
  case round =>
    obtain ⟨k, hk, rfl, HK⟩ := hrel
    by_cases hlt : k < ss.length
    · obtain ⟨b, off, rfl, hb, hcell⟩ := hI.at (by omega)
      have hx := hcell k hlt
      have HN : Hid (-1 ≤ ss[k]?.getD 0 ∧ ss[k]?.getD 0 ≤ 1 → ∀ i, i < k + 1 → isSg (ss[i]?.getD 0) = true) := fun h i hi => by
        by_cases e : i = k
        · subst e; exact (isSg_iff _).2 h
        · exact HK.out i (by omega)
      generalize ss[k]?.getD 0 = x at hx HN
      clear hcell
      by_cases h1 : x < -1
      · go_wp2
        go_ret
        exact ⟨⟨_, rfl⟩, (Below.refl _ _).alloc (Nat.le_refl _) _⟩
      · by_cases h2 : 1 < x
        · go_wp2
          go_ret
          exact ⟨⟨_, rfl⟩, (Below.refl _ _).alloc (Nat.le_refl _) _⟩
        · have HN2 := Lib.hid (HN.out (by omega))
          go_wp2
          go_round
          case rel => exact ⟨k + 1, by omega, by go_num, HN2⟩
          case measure => simp [intOf]; omega
    · exact (HB.out (fun i hi => HK.out i (by omega))).elim

def SidesR (w : World) (zs ss : List Int) (e : Ending) (w' : World) : Prop :=
  ∃ v1 v2, e = .returned (.tuple #[v1, v2, .bool (sgOk zs ss)]) ∧ OwnI w' w.heap.size v1 (if sgOk zs ss = true then sideL zs ss else []) ∧ OwnI w' w.heap.size v2 (if sgOk zs ss = true then sideR zs ss else []) ∧ Below w.heap.size w w'
theorem two_lits (w W : World) (hB : Below w.heap.size w W) : OwnI ((W.alloc (.cells #[] 3)).alloc (.cells #[] 3)) w.heap.size (.slice (some ⟨W.heap.size, 0, none⟩) 0 0) [] ∧ OwnI ((W.alloc (.cells #[] 3)).alloc (.cells #[] 3)) w.heap.size (.slice (some ⟨W.heap.size + 1, 0, none⟩) 0 0) [] ∧ Below w.heap.size w ((W.alloc (.cells #[] 3)).alloc (.cells #[] 3)) := by
  have h1 : OwnI (W.alloc (.cells #[] 3)) w.heap.size (.slice (some ⟨W.heap.size, 0, none⟩) 0 0) [] := World.ownsRow_lit W #[] 0 hB.size (by unfold maxLen; omega) (by simp)
  have h2 := World.ownsRow_lit (base := w.heap.size) (e := 3) (size := 1) (W.alloc (.cells #[] 3)) #[] 0 (by have := hB.size; simp; omega) (by unfold maxLen; omega) (by simp)
  refine ⟨h1.alloc _, ?_, (hB.alloc hB.size _).alloc (by have := hB.size; simp; omega) _⟩
  unfold OwnI
  simpa using h2

set_option maxHeartbeats 3200000 in
theorem PanSides_any (a a2 : Option Addr) (cap cap2 : Nat) (zs ss : List Int) (w : World) (hl : zs.length ≤ 1000000) (hl2 : ss.length ≤ 1000000) (hI : IntsAt w a zs) (hJ : IntsAt w a2 ss) (hg : ss.all isSg = false → w.cell? ⟨0, 0, none⟩ = some (.iface 72 (.agg #[.pointer (some ⟨1, 44, none⟩)]))) :
    Calls Tryd.prog 6 #[.slice a zs.length cap, .slice a2 ss.length cap2] w (SidesR w zs ss) := by
  unfold SidesR
  by_cases hok : sgOk zs ss = true
  case neg =>
    have hok' : sgOk zs ss = false := by simpa using hok
    rw [hok']
    by_cases hz : inL zs = true
    case neg =>
      have hz' : inL zs = false := by simpa using hz
      have HZ := Lib.hid hz'
      have HT := Lib.hid (two_lits w w (Below.refl _ _))
      clear hz hz' hok hok' hg
      go_enter Tryd.func6, Tryd.ntmps6
      go_wp2_with (first | (go_at_call 16; refine (SumIn_any a cap zs _ (by omega) hI).mono ?_; rw [HZ.out]; rintro e w' ⟨rfl, rfl⟩))
      refine bodyPost_ret (v := .tuple #[.slice (some ⟨w.heap.size, 0, none⟩) 0 0, .slice (some ⟨w.heap.size + 1, 0, none⟩) 0 0, .bool false]) (by simp [results, Tryd.f6, go_sem]) rfl ?_
      exact ⟨_, _, rfl, HT.out.1, HT.out.2.1, HT.out.2.2⟩
    have HZ := Lib.hid hz
    by_cases hlen : ss.length = zs.length
    case neg =>
      have HT := Lib.hid (two_lits w w (Below.refl _ _))
      have hd : ((ss.length : Int) != (zs.length : Int)) = true := by simp; omega
      clear hz hok hok' hg
      go_enter Tryd.func6, Tryd.ntmps6
      go_wp2_with (first | (go_at_call 16; refine (SumIn_any a cap zs _ (by omega) hI).mono ?_; rw [HZ.out]; rintro e w' ⟨rfl, rfl⟩))
      refine bodyPost_ret (v := .tuple #[.slice (some ⟨w.heap.size, 0, none⟩) 0 0, .slice (some ⟨w.heap.size + 1, 0, none⟩) 0 0, .bool false]) (by simp [results, Tryd.f6, go_sem]) rfl ?_
      exact ⟨_, _, rfl, HT.out.1, HT.out.2.1, HT.out.2.2⟩
    have hbad : ss.all isSg = false := by
      rw [sgOk, hz, Bool.true_and, decide_eq_true hlen, Bool.true_and] at hok'
      exact hok'
    have hgl := hg hbad
    have hlt0 : 0 < w.heap.size := by
      rcases Nat.eq_zero_or_pos w.heap.size with h0 | h
      · simp [World.cell?, h0] at hgl
      · exact h
    have hd : ((ss.length : Int) != (zs.length : Int)) = false := by simp; omega
    have HL := Lib.hid hlen
    have HC : Hid (∀ W, IntsAt W a2 ss → Calls Tryd.prog 18 #[.slice a2 ss.length cap2] W fun e w' => (∃ p : Addr, e = .returned (.iface 53 (.pointer (some p)))) ∧ Below W.heap.size W w') := fun W h => check_bad a2 cap2 ss W hl2 hbad h
    clear hz hok hok' hg hlen hbad
    go_enter Tryd.func6, Tryd.ntmps6
    go_wp2_with (first | (go_at_call 16; refine (SumIn_any a cap zs _ (by omega) hI).mono ?_; rw [HZ.out]; rintro e w' ⟨rfl, rfl⟩))
    refine (HC.out w hJ).mono ?_
    rintro e w1 ⟨⟨p, rfl⟩, hB1⟩
    have hg1 : w1.cell? ⟨0, 0, none⟩ = some (.iface 72 (.agg #[.pointer (some ⟨1, 44, none⟩)])) := (hB1.cell (p := ⟨0, 0, none⟩) hlt0).trans hgl
    go_wp2_with fail
    refine (refused_hit p w1 hg1).mono ?_
    rintro e w2 ⟨rfl, hB2⟩
    have hB3 := hB1.trans (hB2.mono hB1.size)
    have HT := Lib.hid (two_lits w w2 hB3)
    go_wp2
    refine bodyPost_ret (v := .tuple #[.slice (some ⟨w2.heap.size, 0, none⟩) 0 0, .slice (some ⟨w2.heap.size + 1, 0, none⟩) 0 0, .bool false]) (by simp [results, Tryd.f6, go_sem]) rfl ?_
    exact ⟨_, _, rfl, HT.out.1, HT.out.2.1, HT.out.2.2⟩
  have hh := hok
  rw [sgOk, Bool.and_eq_true, Bool.and_eq_true, decide_eq_true_iff] at hh
  obtain ⟨hz, hlen, hall⟩ := hh
  rw [hok]
  have hzl := (inL_iff zs).1 hz
  have HZ := Lib.hid hz
  have HA := Lib.hid (all_sg hall)
  have HL := Lib.hid hlen
  have HC : Hid (∀ W, IntsAt W a2 ss → Calls Tryd.prog 18 #[.slice a2 ss.length cap2] W fun e w' => e = .returned .nilIface ∧ W = w') := fun W h => check_ok a2 cap2 ss W hl2 hall h
  have hd : ((ss.length : Int) != (zs.length : Int)) = false := by simp; omega
  have hs10 : ss.length ≤ 10 := by rw [hlen]; exact hzl.1
  clear hz hok hg hlen hall hzl
  simp only [if_true]
  go_enter Tryd.func6, Tryd.ntmps6
  go_wp2_with (first | (go_at_call 16; refine (SumIn_any a cap zs _ (by omega) hI).mono ?_; rw [HZ.out]; rintro e w' ⟨rfl, rfl⟩))
  refine (HC.out w hJ).mono ?_
  rintro e w1 ⟨rfl, rfl⟩
  go_wp2_with fail
  refine (refused_nil w).mono ?_
  rintro e w2 ⟨rfl, hB2⟩
  have HT := Lib.hid (two_lits w w2 hB2)
  go_wp2
  go_loopw [7, 8, 32] (fun u v i wr => ∃ (k : Nat), k ≤ ss.length ∧ i = .int .i64 k ∧ OwnI wr w.heap.size u (sideL (zs.take k) (ss.take k)) ∧ OwnI wr w.heap.size v (sideR (zs.take k) (ss.take k)) ∧ (∃ g1 g2 : Nat, u.ownBlock = some g1 ∧ v.ownBlock = some g2 ∧ g1 ≠ g2) ∧ Below w.heap.size w wr) (fun _ _ i _ => ss.length - (intOf i).toNat)
  case atStart => exact ⟨0, Nat.zero_le _, rfl, HT.out.1, HT.out.2.1, ⟨_, _, rfl, rfl, by simp⟩, HT.out.2.2⟩
  case round =>
    clear HT
    obtain ⟨k, hk, rfl, hOu, hOv, ⟨g1, g2, hgu, hgv, hne⟩, hB⟩ := hrel
    have hlu := (side_length (zs.take k) (ss.take k)).1
    have hlv := (side_length (zs.take k) (ss.take k)).2
    have hlt2 : (zs.take k).length ≤ 10 := by rw [List.length_take]; omega
    have hu1 := (hOu.lt g1 hgu).2
    have hv1 := (hOv.lt g2 hgv).2
    by_cases hlt : k < ss.length
    · obtain ⟨b, off, rfl, hb, hcell⟩ := (hI.below hB).at (by have := HL.out; omega)
      obtain ⟨b2, off2, rfl, hb2, hcell2⟩ := (hJ.below hB).at (by omega)
      have hx := hcell k (by have := HL.out; omega)
      have hs := hcell2 k hlt
      have hsg : -1 ≤ ss[k]?.getD 0 ∧ ss[k]?.getD 0 ≤ 1 := by rw [List.getElem?_eq_getElem hlt]; exact HA.out _ (List.getElem_mem _)
      have hkz : k < zs.length := by have := HL.out; omega
      have HSL := Lib.hid (sideL_take zs ss k (by have := HL.out; omega) hlt)
      have HSR := Lib.hid (sideR_take zs ss k (by have := HL.out; omega) hlt)
      generalize zs[k]?.getD 0 = x at hx HSL HSR
      generalize ss[k]?.getD 0 = s at hs hsg HSL HSR
      clear hcell hcell2
      have hc : s = -1 ∨ s = 0 ∨ s = 1 := by omega
      rcases hc with rfl | rfl | rfl
      · have HL1 : Hid (sideL (zs.take (k + 1)) (ss.take (k + 1)) = sideL (zs.take k) (ss.take k) ++ [x]) := by show _ = _; rw [HSL.out]; rfl
        have HR1 : Hid (sideR (zs.take (k + 1)) (ss.take (k + 1)) = sideR (zs.take k) (ss.take k)) := by show _ = _; rw [HSR.out]; simp
        clear HSL HSR
        go_wp2_with (at_builtin; refine append1At wr rfl _ _ rfl w.heap.size u7 (sideL (zs.take k) (ss.take k)) x rfl rfl hOu ?_ hB.size ?_; (omega); intro v' w' hO' hG' hat)
        go_roundw
        case rel =>
          refine ⟨k + 1, by omega, by go_num, by rw [HL1.out]; exact hO', by rw [HR1.out]; exact hOv.kept hG' (.inr (by rw [hgu, hgv]; simp; omega)), ?_, hB.grown hG' hB.size (fun j hj => (hOu.lt j hj).1)⟩
          rcases hat with h | h
          · exact ⟨g1, g2, by rw [h, hgu], hgv, hne⟩
          · exact ⟨_, g2, h, hgv, by omega⟩
        case measure => simp [intOf]; omega
      · have HL1 : Hid (sideL (zs.take (k + 1)) (ss.take (k + 1)) = sideL (zs.take k) (ss.take k)) := by show _ = _; rw [HSL.out]; simp
        have HR1 : Hid (sideR (zs.take (k + 1)) (ss.take (k + 1)) = sideR (zs.take k) (ss.take k)) := by show _ = _; rw [HSR.out]; simp
        clear HSL HSR
        go_wp2
        go_roundw
        case rel => exact ⟨k + 1, by omega, by go_num, by rw [HL1.out]; exact hOu, by rw [HR1.out]; exact hOv, ⟨g1, g2, hgu, hgv, hne⟩, hB⟩
        case measure => simp [intOf]; omega
      · have HL1 : Hid (sideL (zs.take (k + 1)) (ss.take (k + 1)) = sideL (zs.take k) (ss.take k)) := by show _ = _; rw [HSL.out]; simp
        have HR1 : Hid (sideR (zs.take (k + 1)) (ss.take (k + 1)) = sideR (zs.take k) (ss.take k) ++ [x]) := by show _ = _; rw [HSR.out]; rfl
        clear HSL HSR
        go_wp2_with (at_builtin; refine append1At wr rfl _ _ rfl w.heap.size u8 (sideR (zs.take k) (ss.take k)) x rfl rfl hOv ?_ hB.size ?_; (omega); intro v' w' hO' hG' hat)
        go_roundw
        case rel =>
          refine ⟨k + 1, by omega, by go_num, by rw [HL1.out]; exact hOu.kept hG' (.inr (by rw [hgu, hgv]; simp; omega)), by rw [HR1.out]; exact hO', ?_, hB.grown hG' hB.size (fun j hj => (hOv.lt j hj).1)⟩
          rcases hat with h | h
          · exact ⟨g1, g2, hgu, by rw [h, hgv], hne⟩
          · exact ⟨g1, _, hgu, h, by omega⟩
        case measure => simp [intOf]; omega
    · obtain rfl : k = ss.length := by omega
      have HTL : Hid (zs.take ss.length = zs) := by show _ = _; rw [HL.out]; exact List.take_length
      rw [HTL.out, List.take_length] at hOu hOv
      go_wp2
      refine bodyPost_ret (v := .tuple #[u7, u8, .bool true]) (by simp [results, Tryd.f6, go_sem]) rfl ?_
      exact ⟨_, _, rfl, hOu, hOv, hB⟩
end Go.Proofs.YtmggcfilkiklbaaDoor
