/- PanSides of the reference. Conditions: stated in each. -/
import Derived.Test.YtmggcfilkiklbaaDoorJS
namespace Go.Proofs.YtmggcfilkiklbaaDoor
open Go.RowKit

set_option maxHeartbeats 3200000 in
theorem sPanSides_any (a a2 : Option Addr) (cap cap2 : Nat) (zs ss : List Int) (w : World) (hl : zs.length ≤ 1000000) (hl2 : ss.length ≤ 1000000) (hI : IntsAt w a zs) (hJ : IntsAt w a2 ss) :
    Calls Tryd.prog 7 #[.slice a zs.length cap, .slice a2 ss.length cap2] w (SidesR w zs ss) := by
  have HT := Lib.hid (two_lits w w (Below.refl _ _))
  by_cases hz : inL zs = true
  case neg =>
    have hz' : inL zs = false := by simpa using hz
    have hok' : sgOk zs ss = false := by rw [sgOk, hz']; rfl
    unfold SidesR
    rw [hok']
    have HZ := Lib.hid hz'
    clear hz hz' hok'
    go_enter Tryd.func7, Tryd.ntmps7
    go_wp2_with (first | (go_at_call 19; refine (sSumIn_any a cap zs _ (by omega) ((hI.below ((Below.refl _ _).alloc (Nat.le_refl _) _)).below ((Below.refl _ _).alloc (Nat.le_refl _) _))).mono ?_; rw [HZ.out]; rintro e w' ⟨rfl, rfl⟩))
    refine bodyPost_ret (v := .tuple #[.slice (some ⟨w.heap.size, 0, none⟩) 0 0, .slice (some ⟨w.heap.size + 1, 0, none⟩) 0 0, .bool false]) (by simp [results, Tryd.f7, go_sem]) rfl ?_
    exact ⟨_, _, rfl, HT.out.1, HT.out.2.1, HT.out.2.2⟩
  have HZ := Lib.hid hz
  by_cases hlen : ss.length = zs.length
  case neg =>
    have hok' : sgOk zs ss = false := by rw [sgOk, decide_eq_false hlen]; simp
    unfold SidesR
    rw [hok']
    have hd : ((ss.length : Int) != (zs.length : Int)) = true := by simp; omega
    clear hz hok'
    go_enter Tryd.func7, Tryd.ntmps7
    go_wp2_with (first | (go_at_call 19; refine (sSumIn_any a cap zs _ (by omega) ((hI.below ((Below.refl _ _).alloc (Nat.le_refl _) _)).below ((Below.refl _ _).alloc (Nat.le_refl _) _))).mono ?_; rw [HZ.out]; rintro e w' ⟨rfl, rfl⟩))
    refine bodyPost_ret (v := .tuple #[.slice (some ⟨w.heap.size, 0, none⟩) 0 0, .slice (some ⟨w.heap.size + 1, 0, none⟩) 0 0, .bool false]) (by simp [results, Tryd.f7, go_sem]) rfl ?_
    exact ⟨_, _, rfl, HT.out.1, HT.out.2.1, HT.out.2.2⟩
  have HEnd : Hid ((∀ i, i < zs.length → isSg (ss[i]?.getD 0) = true) → sgOk zs ss = true) := fun h => by
    rw [sgOk, hz, decide_eq_true hlen, Bool.true_and, Bool.true_and]
    exact List.all_eq_true.2 (fun s hs => by
      obtain ⟨i, hi, rfl⟩ := List.getElem_of_mem hs
      have := h i (by omega)
      rwa [List.getElem?_eq_getElem hi] at this)
  have HBad : Hid (∀ k, k < zs.length → isSg (ss[k]?.getD 0) = false → sgOk zs ss = false) := fun k hk h => by
    have : ss.all isSg = false := by
      rw [List.all_eq_false]
      refine ⟨ss[k]'(by omega), List.getElem_mem _, ?_⟩
      rw [List.getElem?_eq_getElem (by omega : k < ss.length)] at h
      simp only [Option.getD_some] at h
      rw [h]; simp
    rw [sgOk, this]; simp
  have HL := Lib.hid hlen
  have hd : ((ss.length : Int) != (zs.length : Int)) = false := by simp; omega
  have hs10 : zs.length ≤ 10 := ((inL_iff zs).1 hz).1
  clear hz hlen
  go_enter Tryd.func7, Tryd.ntmps7
  go_wp2_with (first | (go_at_call 19; refine (sSumIn_any a cap zs _ (by omega) ((hI.below ((Below.refl _ _).alloc (Nat.le_refl _) _)).below ((Below.refl _ _).alloc (Nat.le_refl _) _))).mono ?_; rw [HZ.out]; rintro e w' ⟨rfl, rfl⟩))
  go_loopw [7, 8, 9] (fun u v i wr => ∃ (k : Nat), k ≤ zs.length ∧ i = .int .i64 k ∧ Hid (∀ i, i < k → isSg (ss[i]?.getD 0) = true) ∧ OwnI wr w.heap.size u (sideL (zs.take k) (ss.take k)) ∧ OwnI wr w.heap.size v (sideR (zs.take k) (ss.take k)) ∧ (∃ g1 g2 : Nat, u.ownBlock = some g1 ∧ v.ownBlock = some g2 ∧ g1 ≠ g2) ∧ Below w.heap.size w wr) (fun _ _ i _ => zs.length - (intOf i).toNat)
  case atStart => exact ⟨0, Nat.zero_le _, rfl, fun i hi => by omega, HT.out.1, HT.out.2.1, ⟨_, _, rfl, rfl, by simp⟩, HT.out.2.2⟩
  case round =>
    clear HT
    obtain ⟨k, hk, rfl, HK, hOu, hOv, ⟨g1, g2, hgu, hgv, hne⟩, hB⟩ := hrel
    have hlu := (side_length (zs.take k) (ss.take k)).1
    have hlv := (side_length (zs.take k) (ss.take k)).2
    have hlt2 : (zs.take k).length ≤ 10 := by rw [List.length_take]; omega
    have hu1 := (hOu.lt g1 hgu).2
    have hv1 := (hOv.lt g2 hgv).2
    by_cases hlt : k < zs.length
    · obtain ⟨b, off, rfl, hb, hcell⟩ := hI.at (by omega)
      obtain ⟨b2, off2, rfl, hb2, hcell2⟩ := hJ.at (by have := HL.out; omega)
      have hx : ∀ W, Below w.heap.size w W → W.cell? ⟨b, off + k, none⟩ = some (.int .i64 (zs[k]?.getD 0)) := fun W hW => (hW.cell (p := ⟨b, off + k, none⟩) hb).trans (hcell k hlt)
      have hs : ∀ W, Below w.heap.size w W → W.cell? ⟨b2, off2 + k, none⟩ = some (.int .i64 (ss[k]?.getD 0)) := fun W hW => (hW.cell (p := ⟨b2, off2 + k, none⟩) hb2).trans (hcell2 k (by have := HL.out; omega))
      have HSL := Lib.hid (sideL_take zs ss k hlt (by have := HL.out; omega))
      have HSR := Lib.hid (sideR_take zs ss k hlt (by have := HL.out; omega))
      have HBk := Lib.hid (HBad.out k hlt)
      have HKn : Hid (isSg (ss[k]?.getD 0) = true → ∀ i, i < k + 1 → isSg (ss[i]?.getD 0) = true) := fun h i hi => by
        by_cases e : i = k
        · subst e; exact h
        · exact HK.out i (by omega)
      have hkl : k < ss.length := by have := HL.out; omega
      generalize zs[k]?.getD 0 = x at hx HSL HSR
      generalize ss[k]?.getD 0 = s at hs HSL HSR HBk HKn
      clear hcell hcell2 HK
      have hxr := hx wr hB
      have hsr := hs wr hB
      have HX := Lib.hid hx
      have HS := Lib.hid hs
      clear hx hs
      by_cases hsg : isSg s = true
      case neg =>
        have HOK : Hid (sgOk zs ss = false) := HBk.out (by simpa using hsg)
        have HD : Hid ((decide (-1 ≤ s) && decide (s ≤ 1)) = false) := by have : isSg s = false := by simpa using hsg
                                                                          exact this
        have HT := Lib.hid (two_lits w wr hB)
        clear hsg HBk HKn HSL HSR
        go_wp2_with (first | (go_at_call 20; refine (l6In_any _ _ _ _).mono ?_; rw [HD.out]; rintro e w' ⟨rfl, rfl⟩))
        refine bodyPost_ret (v := .tuple #[.slice (some ⟨wr.heap.size, 0, none⟩) 0 0, .slice (some ⟨wr.heap.size + 1, 0, none⟩) 0 0, .bool false]) (by simp [results, Tryd.f7, go_sem]) rfl ?_
        unfold SidesR; rw [HOK.out]
        exact ⟨_, _, rfl, HT.out.1, HT.out.2.1, HT.out.2.2⟩
      have HKN := Lib.hid (HKn.out hsg)
      have HD : Hid ((decide (-1 ≤ s) && decide (s ≤ 1)) = true) := hsg
      have hc : s = -1 ∨ s = 0 ∨ s = 1 := by have := (isSg_iff s).1 hsg; omega
      clear hsg HKn HBk
      rcases hc with rfl | rfl | rfl
      · have HL1 : Hid (sideL (zs.take (k + 1)) (ss.take (k + 1)) = sideL (zs.take k) (ss.take k) ++ [x]) := by show _ = _; rw [HSL.out]; rfl
        have HR1 : Hid (sideR (zs.take (k + 1)) (ss.take (k + 1)) = sideR (zs.take k) (ss.take k)) := by show _ = _; rw [HSR.out]; simp
        clear HSL HSR
        go_wp2_with (first | (go_at_call 20; refine (l6In_any _ _ _ _).mono ?_; rw [HD.out]; rintro e w' ⟨rfl, rfl⟩) | (at_builtin; refine append1At wr rfl _ _ rfl w.heap.size u7 (sideL (zs.take k) (ss.take k)) x rfl rfl hOu ?_ hB.size ?_; (omega); intro v' w' hO' hG' hat; have hB' := hB.grown hG' hB.size (fun j hj => (hOu.lt j hj).1); have hsr' := HS.out w' hB'))
        go_roundw
        case rel =>
          refine ⟨k + 1, by omega, by go_num, HKN, by rw [HL1.out]; exact hO', by rw [HR1.out]; exact hOv.kept hG' (.inr (by rw [hgu, hgv]; simp; omega)), ?_, hB'⟩
          rcases hat with h | h
          · exact ⟨g1, g2, by rw [h, hgu], hgv, hne⟩
          · exact ⟨_, g2, h, hgv, by omega⟩
        case measure => simp [intOf]; omega
      · have HL1 : Hid (sideL (zs.take (k + 1)) (ss.take (k + 1)) = sideL (zs.take k) (ss.take k)) := by show _ = _; rw [HSL.out]; simp
        have HR1 : Hid (sideR (zs.take (k + 1)) (ss.take (k + 1)) = sideR (zs.take k) (ss.take k)) := by show _ = _; rw [HSR.out]; simp
        clear HSL HSR
        go_wp2_with (first | (go_at_call 20; refine (l6In_any _ _ _ _).mono ?_; rw [HD.out]; rintro e w' ⟨rfl, rfl⟩))
        go_roundw
        case rel => exact ⟨k + 1, by omega, by go_num, HKN, by rw [HL1.out]; exact hOu, by rw [HR1.out]; exact hOv, ⟨g1, g2, hgu, hgv, hne⟩, hB⟩
        case measure => simp [intOf]; omega
      · have HL1 : Hid (sideL (zs.take (k + 1)) (ss.take (k + 1)) = sideL (zs.take k) (ss.take k)) := by show _ = _; rw [HSL.out]; simp
        have HR1 : Hid (sideR (zs.take (k + 1)) (ss.take (k + 1)) = sideR (zs.take k) (ss.take k) ++ [x]) := by show _ = _; rw [HSR.out]; rfl
        clear HSL HSR
        go_wp2_with (first | (go_at_call 20; refine (l6In_any _ _ _ _).mono ?_; rw [HD.out]; rintro e w' ⟨rfl, rfl⟩) | (at_builtin; refine append1At wr rfl _ _ rfl w.heap.size u8 (sideR (zs.take k) (ss.take k)) x rfl rfl hOv ?_ hB.size ?_; (omega); intro v' w' hO' hG' hat))
        go_roundw
        case rel =>
          refine ⟨k + 1, by omega, by go_num, HKN, by rw [HL1.out]; exact hOu.kept hG' (.inr (by rw [hgu, hgv]; simp; omega)), by rw [HR1.out]; exact hO', ?_, hB.grown hG' hB.size (fun j hj => (hOv.lt j hj).1)⟩
          rcases hat with h | h
          · exact ⟨g1, g2, hgu, by rw [h, hgv], hne⟩
          · exact ⟨g1, _, hgu, h, by omega⟩
        case measure => simp [intOf]; omega
    · obtain rfl : k = zs.length := by omega
      have HOK : Hid (sgOk zs ss = true) := HEnd.out HK.out
      have HTL : Hid (ss.take zs.length = ss) := by show _ = _; rw [← HL.out]; exact List.take_length
      rw [HTL.out, List.take_length] at hOu hOv
      clear HEnd HBad HK
      go_wp2
      refine bodyPost_ret (v := .tuple #[u7, u8, .bool true]) (by simp [results, Tryd.f7, go_sem]) rfl ?_
      unfold SidesR; rw [HOK.out]
      exact ⟨_, _, rfl, hOu, hOv, hB⟩
end Go.Proofs.YtmggcfilkiklbaaDoor
