/- LoadLeast and LoadEven of the reference. Conditions: none beyond the reading. -/
import Derived.Test.YtacedadenbinmaaZp
import Derived.Test.YtacedadenbinmaaZm
set_option linter.unusedVariables false
set_option linter.unusedSimpArgs false
set_option linter.unusedSectionVars false
namespace Go.Proofs.Ytacedadenbinmaa
open Go.RowKit

set_option maxRecDepth 100000 in
set_option maxHeartbeats 3200000 in
theorem sLoadLeast_any (a : Option Addr) (cap : Nat) (zs : List Int) (m : Int) (w : World) (hl : zs.length ≤ 2000000) (hI : IntsAt w a zs) :
    Calls Try.prog 11 #[.slice a zs.length cap, .int .i64 m] w fun e w' => e = .returned (twoV (llV zs m)) ∧ Below w.heap.size w w' := by
  by_cases hz : toldL zs m = true
  case neg =>
    have hz' : toldL zs m = false := by simpa using hz
    have hV : llV zs m = (0, false) := by rw [llV, if_neg fun h => hz h.1]
    rw [hV, twoV]
    have HZ := Lib.hid hz'
    clear hz hz' hV
    go_enter Try.func11, Try.ntmps11
    go_wp2_with (go_at_call 37; refine (l5Given_any a cap zs m _ (by omega) hI).mono ?_; rw [HZ.out]; rintro e w' ⟨rfl, rfl⟩)
    all_goals
      go_ret2
      exact ⟨rfl, Below.refl _ _⟩
  obtain ⟨⟨_, hg⟩, hm1, hm5⟩ := (toldL_iff zs m).1 hz
  have HZ := Lib.hid hz
  by_cases h8 : zs.length ≤ 8
  case neg =>
    have hV : llV zs m = (0, false) := by rw [llV, if_neg fun h => h8 h.2]
    rw [hV, twoV]
    clear hz hV hg
    go_enter Try.func11, Try.ntmps11
    go_wp2_with (go_at_call 37; refine (l5Given_any a cap zs m _ (by omega) hI).mono ?_; rw [HZ.out]; rintro e w' ⟨rfl, rfl⟩)
    all_goals
      go_ret2
      exact ⟨rfl, Below.refl _ _⟩
  obtain ⟨M, rfl⟩ := Int.eq_ofNat_of_zero_le (show 0 ≤ m by omega)
  have hV : llV zs M = (opt zs M, true) := by rw [llV, if_pos ⟨hz, h8⟩]; simp [tlV, tal, opt]
  rw [hV, twoV]
  have HSP := Lib.hid fun W hW => l5Least_any a cap zs M W h8 hg (by omega) hW
  clear hz hV hg
  generalize opt zs M = B at HSP ⊢
  go_enter Try.func11, Try.ntmps11
  go_wp2_with (go_at_call 37; refine (l5Given_any a cap zs M _ (by omega) hI).mono ?_; rw [HZ.out]; rintro e w' ⟨rfl, rfl⟩)
  all_goals
    refine (HSP.out _ hI).mono ?_
    rintro e w1 ⟨rfl, hB⟩
    go_wp2_with fail
    go_ret2
    exact ⟨rfl, hB⟩

@[local go_sem] theorem mkZ1 (w : World) : (Instr.makeSlice 22 (.int .i64 1) (.int .i64 1)).run Try.prog w = .ok (.slice (some ⟨w.heap.size, 0, none⟩) 1 1) (w.alloc (.cells #[.int .i64 0] 3)) := by kernel_rfl
@[local go_sem] theorem mkZ2 (w : World) : (Instr.makeSlice 22 (.int .i64 2) (.int .i64 2)).run Try.prog w = .ok (.slice (some ⟨w.heap.size, 0, none⟩) 2 2) (w.alloc (.cells #[.int .i64 0, .int .i64 0] 3)) := by kernel_rfl
@[local go_sem] theorem mkZ3 (w : World) : (Instr.makeSlice 22 (.int .i64 3) (.int .i64 3)).run Try.prog w = .ok (.slice (some ⟨w.heap.size, 0, none⟩) 3 3) (w.alloc (.cells #[.int .i64 0, .int .i64 0, .int .i64 0] 3)) := by kernel_rfl
@[local go_sem] theorem mkZ4 (w : World) : (Instr.makeSlice 22 (.int .i64 4) (.int .i64 4)).run Try.prog w = .ok (.slice (some ⟨w.heap.size, 0, none⟩) 4 4) (w.alloc (.cells #[.int .i64 0, .int .i64 0, .int .i64 0, .int .i64 0] 3)) := by kernel_rfl
@[local go_sem] theorem mkZ5 (w : World) : (Instr.makeSlice 22 (.int .i64 5) (.int .i64 5)).run Try.prog w = .ok (.slice (some ⟨w.heap.size, 0, none⟩) 5 5) (w.alloc (.cells #[.int .i64 0, .int .i64 0, .int .i64 0, .int .i64 0, .int .i64 0] 3)) := by kernel_rfl
theorem mkZ_ints (w : World) (M : Nat) (hM : M ≤ 5) : IntsAt (w.alloc (.cells ((List.replicate M (Value.int .i64 0)).toArray) 3)) (some ⟨w.heap.size, 0, none⟩) (List.replicate M 0) := by
  refine .inr ⟨w.heap.size, 0, rfl, by simp, fun j hj => ?_⟩
  rw [List.length_replicate] at hj
  rw [List.getElem?_replicate, if_pos hj]
  show (match (w.heap.push (Obj.cells ((List.replicate M (Value.int .i64 0)).toArray) 3))[w.heap.size]? with | some (.cells c _ _) => c[0 + j]? | _ => none) = _
  rw [Array.getElem?_push_size]
  simp [hj]
theorem mkZi1 (w : World) : IntsAt (w.alloc (.cells #[.int .i64 0] 3)) (some ⟨w.heap.size, 0, none⟩) (List.replicate 1 0) := mkZ_ints w 1 (by omega)
theorem mkZi2 (w : World) : IntsAt (w.alloc (.cells #[.int .i64 0, .int .i64 0] 3)) (some ⟨w.heap.size, 0, none⟩) (List.replicate 2 0) := mkZ_ints w 2 (by omega)
theorem mkZi3 (w : World) : IntsAt (w.alloc (.cells #[.int .i64 0, .int .i64 0, .int .i64 0] 3)) (some ⟨w.heap.size, 0, none⟩) (List.replicate 3 0) := mkZ_ints w 3 (by omega)
theorem mkZi4 (w : World) : IntsAt (w.alloc (.cells #[.int .i64 0, .int .i64 0, .int .i64 0, .int .i64 0] 3)) (some ⟨w.heap.size, 0, none⟩) (List.replicate 4 0) := mkZ_ints w 4 (by omega)
theorem mkZi5 (w : World) : IntsAt (w.alloc (.cells #[.int .i64 0, .int .i64 0, .int .i64 0, .int .i64 0, .int .i64 0] 3)) (some ⟨w.heap.size, 0, none⟩) (List.replicate 5 0) := mkZ_ints w 5 (by omega)

set_option maxRecDepth 100000 in
set_option maxHeartbeats 3200000 in
theorem sLoadEven_any (a : Option Addr) (cap : Nat) (zs : List Int) (m : Int) (w : World) (hl : zs.length ≤ 2000000) (hcap : zs.length ≤ cap) (hI : IntsAt w a zs) :
    Calls Try.prog 15 #[.slice a zs.length cap, .int .i64 m] w fun e w' => e = .returned (twoV (leV zs m)) ∧ Below w.heap.size w w' := by
  by_cases hz : toldL zs m = true
  case neg =>
    have hz' : toldL zs m = false := by simpa using hz
    have hV : leV zs m = (0, false) := by rw [leV, if_neg fun h => hz h.1]
    rw [hV, twoV]
    have HZ := Lib.hid hz'
    clear hz hz' hV
    go_enter Try.func15, Try.ntmps15
    go_wp2_with (go_at_call 37; refine (l5Given_any a cap zs m _ (by omega) hI).mono ?_; rw [HZ.out]; rintro e w' ⟨rfl, rfl⟩)
    all_goals
      go_ret2
      exact ⟨rfl, Below.refl _ _⟩
  obtain ⟨⟨_, hg⟩, hm1, hm5⟩ := (toldL_iff zs m).1 hz
  have HZ := Lib.hid hz
  by_cases h6 : zs.length ≤ 6
  case neg =>
    have hV : leV zs m = (0, false) := by rw [leV, if_neg fun h => h6 h.2]
    rw [hV, twoV]
    clear hz hV hg
    go_enter Try.func15, Try.ntmps15
    go_wp2_with (go_at_call 37; refine (l5Given_any a cap zs m _ (by omega) hI).mono ?_; rw [HZ.out]; rintro e w' ⟨rfl, rfl⟩)
    all_goals
      go_ret2
      exact ⟨rfl, Below.refl _ _⟩
  obtain ⟨M, rfl⟩ := Int.eq_ofNat_of_zero_le (show 0 ≤ m by omega)
  have hV : leV zs M = (evL (opt zs M) zs (List.replicate M 0), true) := by rw [leV, if_pos ⟨hz, h6⟩, ev_opt (good_nn hg) (by omega)]; simp [tlV]
  rw [hV, twoV]
  have hob := opt_bd hg (m := M) (by omega)
  have htb := tot_bd hg
  have HSP := Lib.hid fun W hW => l5Least_any a cap zs M W (by omega) hg (by omega) hW
  have HEV := Lib.hid fun sa sc W hW hS => l5Even_any zs a cap sa sc (List.replicate M 0) (opt zs M) W h6 hg (by rw [List.length_replicate]; omega) (fun y hy => by rw [List.eq_of_mem_replicate hy]; omega) (by omega) hcap hW hS
  rw [List.length_replicate] at HEV
  clear hz hV hg hob htb
  generalize evL (opt zs M) zs (List.replicate M 0) = E at HEV ⊢
  generalize opt zs M = B at HSP HEV
  have HGV : Hid (∀ W : World, IntsAt W a zs → Calls Try.prog 37 #[.slice a zs.length cap, .int .i64 M] W fun e w' => e = .returned (.bool true) ∧ W = w') := fun W hW => by
    have h := l5Given_any a cap zs M W (by omega) hW
    rwa [HZ.out] at h
  have hM : M = 1 ∨ M = 2 ∨ M = 3 ∨ M = 4 ∨ M = 5 := by omega
  clear hm1 hm5
  rcases hM with rfl | rfl | rfl | rfl | rfl
  · have HA1 : Hid (∀ W, Below (w.alloc (.cells #[.int .i64 0] 3)).drew.heap.size (w.alloc (.cells #[.int .i64 0] 3)).drew W → IntsAt W a zs ∧ IntsAt W (some ⟨w.heap.size, 0, none⟩) (List.replicate 1 0) ∧ Below w.heap.size w W) := fun W h => by
      have h0 : Below w.heap.size w (w.alloc (.cells #[.int .i64 0] 3)).drew := ((Below.refl _ w).alloc (Nat.le_refl _) _).drew
      have h1 := h0.trans (h.mono h0.size)
      exact ⟨hI.below h1, IntsAt.below (w := (w.alloc (.cells #[.int .i64 0] 3)).drew) (mkZi1 w) h, h1⟩
    have HB1 : Hid (∀ W, Below w.drew.heap.size w.drew W → IntsAt (W.alloc (.cells #[.int .i64 0] 3)) a zs ∧ IntsAt (W.alloc (.cells #[.int .i64 0] 3)) (some ⟨W.heap.size, 0, none⟩) (List.replicate 1 0) ∧ Below w.heap.size w (W.alloc (.cells #[.int .i64 0] 3))) := fun W h => by
      have h0 : Below w.heap.size w w.drew := (Below.refl _ w).drew
      have h1 := (h0.trans h).alloc (h0.trans h).size (.cells #[.int .i64 0] 3)
      exact ⟨hI.below h1, mkZi1 W, h1⟩
    go_enter Try.func15, Try.ntmps15
    go_wp2_with (go_at_call 37; refine (HGV.out _ hI).mono ?_; rintro e w' ⟨rfl, rfl⟩)
    go_region_with (first
      | (go_at_call 38; refine (HSP.out _ ?_).mono ?_; (first | exact hI | exact hI.below ((belowDr (Below.refl w.heap.size w) _).alloc (Nat.le_refl _) _)); rintro e w1 ⟨rfl, hBl⟩)
      | (go_at_call 41; have hA := HA1.out _ hBl; refine (HEV.out _ _ _ hA.1 hA.2.1).mono ?_; rintro e w2 ⟨rfl, hBe⟩; have hBZ := hA.2.2.trans (hBe.mono hA.2.2.size))
      | (go_at_call 41; have hA := HB1.out _ hBl; refine (HEV.out _ _ _ hA.1 hA.2.1).mono ?_; rintro e w2 ⟨rfl, hBe⟩; have hBZ := hA.2.2.trans (hBe.mono hA.2.2.size)))
    all_goals
      go_wp2_with fail
      go_ret2
      exact ⟨rfl, by first | exact hBZ | exact hBZ.drew | exact belowDr hBZ _⟩
  · have HA1 : Hid (∀ W, Below (w.alloc (.cells #[.int .i64 0, .int .i64 0] 3)).drew.heap.size (w.alloc (.cells #[.int .i64 0, .int .i64 0] 3)).drew W → IntsAt W a zs ∧ IntsAt W (some ⟨w.heap.size, 0, none⟩) (List.replicate 2 0) ∧ Below w.heap.size w W) := fun W h => by
      have h0 : Below w.heap.size w (w.alloc (.cells #[.int .i64 0, .int .i64 0] 3)).drew := ((Below.refl _ w).alloc (Nat.le_refl _) _).drew
      have h1 := h0.trans (h.mono h0.size)
      exact ⟨hI.below h1, IntsAt.below (w := (w.alloc (.cells #[.int .i64 0, .int .i64 0] 3)).drew) (mkZi2 w) h, h1⟩
    have HB1 : Hid (∀ W, Below w.drew.heap.size w.drew W → IntsAt (W.alloc (.cells #[.int .i64 0, .int .i64 0] 3)) a zs ∧ IntsAt (W.alloc (.cells #[.int .i64 0, .int .i64 0] 3)) (some ⟨W.heap.size, 0, none⟩) (List.replicate 2 0) ∧ Below w.heap.size w (W.alloc (.cells #[.int .i64 0, .int .i64 0] 3))) := fun W h => by
      have h0 : Below w.heap.size w w.drew := (Below.refl _ w).drew
      have h1 := (h0.trans h).alloc (h0.trans h).size (.cells #[.int .i64 0, .int .i64 0] 3)
      exact ⟨hI.below h1, mkZi2 W, h1⟩
    go_enter Try.func15, Try.ntmps15
    go_wp2_with (go_at_call 37; refine (HGV.out _ hI).mono ?_; rintro e w' ⟨rfl, rfl⟩)
    go_region_with (first
      | (go_at_call 38; refine (HSP.out _ ?_).mono ?_; (first | exact hI | exact hI.below ((belowDr (Below.refl w.heap.size w) _).alloc (Nat.le_refl _) _)); rintro e w1 ⟨rfl, hBl⟩)
      | (go_at_call 41; have hA := HA1.out _ hBl; refine (HEV.out _ _ _ hA.1 hA.2.1).mono ?_; rintro e w2 ⟨rfl, hBe⟩; have hBZ := hA.2.2.trans (hBe.mono hA.2.2.size))
      | (go_at_call 41; have hA := HB1.out _ hBl; refine (HEV.out _ _ _ hA.1 hA.2.1).mono ?_; rintro e w2 ⟨rfl, hBe⟩; have hBZ := hA.2.2.trans (hBe.mono hA.2.2.size)))
    all_goals
      go_wp2_with fail
      go_ret2
      exact ⟨rfl, by first | exact hBZ | exact hBZ.drew | exact belowDr hBZ _⟩
  · have HA1 : Hid (∀ W, Below (w.alloc (.cells #[.int .i64 0, .int .i64 0, .int .i64 0] 3)).drew.heap.size (w.alloc (.cells #[.int .i64 0, .int .i64 0, .int .i64 0] 3)).drew W → IntsAt W a zs ∧ IntsAt W (some ⟨w.heap.size, 0, none⟩) (List.replicate 3 0) ∧ Below w.heap.size w W) := fun W h => by
      have h0 : Below w.heap.size w (w.alloc (.cells #[.int .i64 0, .int .i64 0, .int .i64 0] 3)).drew := ((Below.refl _ w).alloc (Nat.le_refl _) _).drew
      have h1 := h0.trans (h.mono h0.size)
      exact ⟨hI.below h1, IntsAt.below (w := (w.alloc (.cells #[.int .i64 0, .int .i64 0, .int .i64 0] 3)).drew) (mkZi3 w) h, h1⟩
    have HB1 : Hid (∀ W, Below w.drew.heap.size w.drew W → IntsAt (W.alloc (.cells #[.int .i64 0, .int .i64 0, .int .i64 0] 3)) a zs ∧ IntsAt (W.alloc (.cells #[.int .i64 0, .int .i64 0, .int .i64 0] 3)) (some ⟨W.heap.size, 0, none⟩) (List.replicate 3 0) ∧ Below w.heap.size w (W.alloc (.cells #[.int .i64 0, .int .i64 0, .int .i64 0] 3))) := fun W h => by
      have h0 : Below w.heap.size w w.drew := (Below.refl _ w).drew
      have h1 := (h0.trans h).alloc (h0.trans h).size (.cells #[.int .i64 0, .int .i64 0, .int .i64 0] 3)
      exact ⟨hI.below h1, mkZi3 W, h1⟩
    go_enter Try.func15, Try.ntmps15
    go_wp2_with (go_at_call 37; refine (HGV.out _ hI).mono ?_; rintro e w' ⟨rfl, rfl⟩)
    go_region_with (first
      | (go_at_call 38; refine (HSP.out _ ?_).mono ?_; (first | exact hI | exact hI.below ((belowDr (Below.refl w.heap.size w) _).alloc (Nat.le_refl _) _)); rintro e w1 ⟨rfl, hBl⟩)
      | (go_at_call 41; have hA := HA1.out _ hBl; refine (HEV.out _ _ _ hA.1 hA.2.1).mono ?_; rintro e w2 ⟨rfl, hBe⟩; have hBZ := hA.2.2.trans (hBe.mono hA.2.2.size))
      | (go_at_call 41; have hA := HB1.out _ hBl; refine (HEV.out _ _ _ hA.1 hA.2.1).mono ?_; rintro e w2 ⟨rfl, hBe⟩; have hBZ := hA.2.2.trans (hBe.mono hA.2.2.size)))
    all_goals
      go_wp2_with fail
      go_ret2
      exact ⟨rfl, by first | exact hBZ | exact hBZ.drew | exact belowDr hBZ _⟩
  · have HA1 : Hid (∀ W, Below (w.alloc (.cells #[.int .i64 0, .int .i64 0, .int .i64 0, .int .i64 0] 3)).drew.heap.size (w.alloc (.cells #[.int .i64 0, .int .i64 0, .int .i64 0, .int .i64 0] 3)).drew W → IntsAt W a zs ∧ IntsAt W (some ⟨w.heap.size, 0, none⟩) (List.replicate 4 0) ∧ Below w.heap.size w W) := fun W h => by
      have h0 : Below w.heap.size w (w.alloc (.cells #[.int .i64 0, .int .i64 0, .int .i64 0, .int .i64 0] 3)).drew := ((Below.refl _ w).alloc (Nat.le_refl _) _).drew
      have h1 := h0.trans (h.mono h0.size)
      exact ⟨hI.below h1, IntsAt.below (w := (w.alloc (.cells #[.int .i64 0, .int .i64 0, .int .i64 0, .int .i64 0] 3)).drew) (mkZi4 w) h, h1⟩
    have HB1 : Hid (∀ W, Below w.drew.heap.size w.drew W → IntsAt (W.alloc (.cells #[.int .i64 0, .int .i64 0, .int .i64 0, .int .i64 0] 3)) a zs ∧ IntsAt (W.alloc (.cells #[.int .i64 0, .int .i64 0, .int .i64 0, .int .i64 0] 3)) (some ⟨W.heap.size, 0, none⟩) (List.replicate 4 0) ∧ Below w.heap.size w (W.alloc (.cells #[.int .i64 0, .int .i64 0, .int .i64 0, .int .i64 0] 3))) := fun W h => by
      have h0 : Below w.heap.size w w.drew := (Below.refl _ w).drew
      have h1 := (h0.trans h).alloc (h0.trans h).size (.cells #[.int .i64 0, .int .i64 0, .int .i64 0, .int .i64 0] 3)
      exact ⟨hI.below h1, mkZi4 W, h1⟩
    go_enter Try.func15, Try.ntmps15
    go_wp2_with (go_at_call 37; refine (HGV.out _ hI).mono ?_; rintro e w' ⟨rfl, rfl⟩)
    go_region_with (first
      | (go_at_call 38; refine (HSP.out _ ?_).mono ?_; (first | exact hI | exact hI.below ((belowDr (Below.refl w.heap.size w) _).alloc (Nat.le_refl _) _)); rintro e w1 ⟨rfl, hBl⟩)
      | (go_at_call 41; have hA := HA1.out _ hBl; refine (HEV.out _ _ _ hA.1 hA.2.1).mono ?_; rintro e w2 ⟨rfl, hBe⟩; have hBZ := hA.2.2.trans (hBe.mono hA.2.2.size))
      | (go_at_call 41; have hA := HB1.out _ hBl; refine (HEV.out _ _ _ hA.1 hA.2.1).mono ?_; rintro e w2 ⟨rfl, hBe⟩; have hBZ := hA.2.2.trans (hBe.mono hA.2.2.size)))
    all_goals
      go_wp2_with fail
      go_ret2
      exact ⟨rfl, by first | exact hBZ | exact hBZ.drew | exact belowDr hBZ _⟩
  · have HA1 : Hid (∀ W, Below (w.alloc (.cells #[.int .i64 0, .int .i64 0, .int .i64 0, .int .i64 0, .int .i64 0] 3)).drew.heap.size (w.alloc (.cells #[.int .i64 0, .int .i64 0, .int .i64 0, .int .i64 0, .int .i64 0] 3)).drew W → IntsAt W a zs ∧ IntsAt W (some ⟨w.heap.size, 0, none⟩) (List.replicate 5 0) ∧ Below w.heap.size w W) := fun W h => by
      have h0 : Below w.heap.size w (w.alloc (.cells #[.int .i64 0, .int .i64 0, .int .i64 0, .int .i64 0, .int .i64 0] 3)).drew := ((Below.refl _ w).alloc (Nat.le_refl _) _).drew
      have h1 := h0.trans (h.mono h0.size)
      exact ⟨hI.below h1, IntsAt.below (w := (w.alloc (.cells #[.int .i64 0, .int .i64 0, .int .i64 0, .int .i64 0, .int .i64 0] 3)).drew) (mkZi5 w) h, h1⟩
    have HB1 : Hid (∀ W, Below w.drew.heap.size w.drew W → IntsAt (W.alloc (.cells #[.int .i64 0, .int .i64 0, .int .i64 0, .int .i64 0, .int .i64 0] 3)) a zs ∧ IntsAt (W.alloc (.cells #[.int .i64 0, .int .i64 0, .int .i64 0, .int .i64 0, .int .i64 0] 3)) (some ⟨W.heap.size, 0, none⟩) (List.replicate 5 0) ∧ Below w.heap.size w (W.alloc (.cells #[.int .i64 0, .int .i64 0, .int .i64 0, .int .i64 0, .int .i64 0] 3))) := fun W h => by
      have h0 : Below w.heap.size w w.drew := (Below.refl _ w).drew
      have h1 := (h0.trans h).alloc (h0.trans h).size (.cells #[.int .i64 0, .int .i64 0, .int .i64 0, .int .i64 0, .int .i64 0] 3)
      exact ⟨hI.below h1, mkZi5 W, h1⟩
    go_enter Try.func15, Try.ntmps15
    go_wp2_with (go_at_call 37; refine (HGV.out _ hI).mono ?_; rintro e w' ⟨rfl, rfl⟩)
    go_region_with (first
      | (go_at_call 38; refine (HSP.out _ ?_).mono ?_; (first | exact hI | exact hI.below ((belowDr (Below.refl w.heap.size w) _).alloc (Nat.le_refl _) _)); rintro e w1 ⟨rfl, hBl⟩)
      | (go_at_call 41; have hA := HA1.out _ hBl; refine (HEV.out _ _ _ hA.1 hA.2.1).mono ?_; rintro e w2 ⟨rfl, hBe⟩; have hBZ := hA.2.2.trans (hBe.mono hA.2.2.size))
      | (go_at_call 41; have hA := HB1.out _ hBl; refine (HEV.out _ _ _ hA.1 hA.2.1).mono ?_; rintro e w2 ⟨rfl, hBe⟩; have hBZ := hA.2.2.trans (hBe.mono hA.2.2.size)))
    all_goals
      go_wp2_with fail
      go_ret2
      exact ⟨rfl, by first | exact hBZ | exact hBZ.drew | exact belowDr hBZ _⟩
end Go.Proofs.Ytacedadenbinmaa
