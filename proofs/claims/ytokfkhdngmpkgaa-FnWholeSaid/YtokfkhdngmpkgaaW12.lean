/- The counts of all sums, by the reference. Conditions: the list is as told. -/
import Derived.Test.YtokfkhdngmpkgaaW11
import Derived.BigRegion
namespace Go.Proofs.Ytokfkhdngmpkgaa
open Go.RowKit

def CountsPost (w : World) (zs : List Int) (e : Ending) (w' : World) : Prop := ∃ v, e = .returned v ∧ OwnI w' w.heap.size v zs ∧ Below w.heap.size w w'
theorem sumC_take (zs : List Int) (hg : good zs) (k : Nat) (hk : k < zs.length) : sumC (zs.take (k + 1)) = stepK (sumC (zs.take k)) (zs[k]?.getD 0).toNat (sumC (zs.take k)).length := by
  rw [take_snoc zs k hk, sumC_snoc _ _ (good_take hg k) (good_get hg k hk).1]
theorem sumC_mem {zs : List Int} (hl : zs.length ≤ 10) (j : Nat) : 0 ≤ (sumC zs)[j]?.getD 0 ∧ (sumC zs)[j]?.getD 0 ≤ 1024 := by
  have h1 := tally_bd (sumKey zs) ((tot zs).toNat + 1) (2 ^ zs.length) j
  have h2 : 2 ^ zs.length ≤ 2 ^ 10 := Nat.pow_le_pow_right (by omega) hl
  unfold sumC
  omega
theorem stepK_bd {O : List Int} {M : Int} (h : ∀ j : Nat, 0 ≤ O[j]?.getD 0 ∧ O[j]?.getD 0 ≤ M) (x v j : Nat) : 0 ≤ (stepK O x v)[j]?.getD 0 ∧ (stepK O x v)[j]?.getD 0 ≤ 2 * M := by
  have hM : 0 ≤ M := by have := h 0; omega
  by_cases e : j < O.length + x
  · rw [stepK_get O x v j e]
    have h1 := h j
    have h2 := h (j - x)
    split <;> split <;> omega
  · rw [List.getElem?_eq_none (by rw [stepK_length]; omega)]
    simp; omega

set_option maxHeartbeats 4000000 in
theorem l1Counts_any (a : Option Addr) (cap : Nat) (zs : List Int) (w : World) (hl : zs.length ≤ 10) (hg : good zs) (hI : IntsAt w a zs) :
    Calls Try.prog 28 #[.slice a zs.length cap] w (CountsPost w (sumC zs)) := by
  have HO1 : OwnI (w.alloc (.cells #[.int .i64 1] 3)) w.heap.size (.slice (some ⟨w.heap.size, 0, none⟩) 1 1) [1] :=
    World.ownsRow_lit (base := w.heap.size) (e := 3) (size := 1) w #[.int .i64 1] 1 (Nat.le_refl _) (by unfold maxLen; omega) (by simp)
  have hB1 : Below w.heap.size w (w.alloc (.cells #[.int .i64 1] 3)) := (Below.refl _ _).alloc (Nat.le_refl _) _
  go_enter Try.func28, Try.ntmps28
  go_wp2
  go_loopw [3, 4] (fun o i wr => ∃ k : Nat, k ≤ zs.length ∧ i = .int .i64 k ∧ OwnI wr w.heap.size o (sumC (zs.take k)) ∧ Below w.heap.size w wr) (fun _ i _ => zs.length - (intOf i).toNat)
  case atStart => exact ⟨0, Nat.zero_le _, rfl, by rw [List.take_zero, sumC_nil]; exact HO1, hB1⟩
  case round =>
    obtain ⟨k, hk, rfl, hO, hB⟩ := hrel
    clear HO1 hB1
    by_cases hlt : k < zs.length
    · obtain ⟨b, off, rfl, hbb, hcell⟩ := (hI.below hB).at (by omega)
      have hx := hcell k hlt
      have hgx := good_get hg k hlt
      have HT := Lib.hid (sumC_take zs hg k hlt)
      have hb0 : ∀ j : Nat, 0 ≤ (sumC (zs.take k))[j]?.getD 0 ∧ (sumC (zs.take k))[j]?.getD 0 ≤ 1024 := fun j => sumC_mem (zs := zs.take k) (by rw [List.length_take]; omega) j
      have hNl : 1 ≤ (sumC (zs.take k)).length ∧ (sumC (zs.take k)).length ≤ 601 := by
        have h1 := tot_bd (good_take hg k)
        have h2 : (zs.take k).length ≤ k := List.length_take_le _ _
        rw [sumC_length]; omega
      generalize sumC (zs.take k) = O at hO HT hb0 hNl
      obtain ⟨X, hxv⟩ : ∃ X : Nat, zs[k]?.getD 0 = X := ⟨(zs[k]?.getD 0).toNat, by omega⟩
      rw [hxv] at hx hgx HT
      have HX := Lib.hid hxv
      clear hxv
      rw [Int.toNat_natCast] at HT
      obtain ⟨g, cp, rfl, hg1, hg2, _⟩ := hO.at (by omega)
      clear hcell
      obtain ⟨W, rfl⟩ : ∃ W, W = wr := ⟨wr, rfl⟩
      go_wp2_with (at_make; refine makeI W rfl _ _ rfl (O.length + X) _ rfl rfl (by simp) (by omega) ?_; intro w1 hO1 hG1)
      have g1 : W.heap.size < w1.heap.size := (hO1.lt _ rfl).2
      go_loopw [6] (fun v w2 => ∃ j : Nat, j ≤ O.length ∧ v = .int .i64 j ∧ OwnI w2 W.heap.size (.slice (some ⟨W.heap.size, 0, none⟩) (O.length + X) (O.length + X)) (stepK O X j) ∧ Below W.heap.size W w2) (fun v _ => O.length - (intOf v).toNat)
      case atStart => exact ⟨0, Nat.zero_le _, rfl, by rw [stepK_zero]; exact hO1, (Below.refl _ W).grown hG1 (Nat.le_refl _) (fun k hk => by cases hk)⟩
      case round =>
        obtain ⟨j, hj, rfl, hN, hBj⟩ := hrel
        by_cases hlj : j < O.length
        · obtain ⟨b2, o2, he, hb2, hc2⟩ := (hI.below (hB.trans (hBj.mono hB.size))).at (by omega)
          simp only [Option.some.injEq, Addr.mk.injEq, and_true] at he
          obtain ⟨rfl, rfl⟩ := he
          have ha := hc2 k hlt
          rw [HX.out] at ha
          clear hc2
          have hO2 := hO.keptB hBj
          have hNl2 := stepK_length O X j
          obtain ⟨g', cp', he2, _, hgW, hcO⟩ := hO2.at (by omega)
          simp only [Value.slice.injEq, Option.some.injEq, Addr.mk.injEq, and_true, true_and] at he2
          obtain ⟨rfl, rfl⟩ := he2
          obtain ⟨gN, cpN, he3, _, hgN, hcN⟩ := hN.at (by omega)
          rw [hNl2] at he3 hcN
          simp only [Value.slice.injEq, Option.some.injEq, Addr.mk.injEq, and_true, true_and] at he3
          obtain ⟨rfl, rfl⟩ := he3
          have ho := (hcO j hlj).1
          have hn1 := (hcN j (by omega)).1
          have hf1 := (hcN j (by omega)).2
          have hn2 := (hcN (j + X) (by omega)).1
          have hf2 := (hcN (j + X) (by omega)).2
          have HS := Lib.hid (stepK_succ O X j (by omega) hlj)
          have HM := Lib.hid (stepK_mid O X j (by omega))
          have hy1 := stepK_bd hb0 X j j
          have hy2 := stepK_bd hb0 X j (j + X)
          have hz := hb0 j
          have HN := Lib.hid hN
          have HNl := Lib.hid hNl2
          clear hcO hcN hN hNl2
          generalize (stepK O X j)[j]?.getD 0 = y1 at hn1 hy1 HS HM
          generalize (stepK O X j)[j + X]?.getD 0 = y2 at hn2 hy2 HS HM
          obtain ⟨z, hzv⟩ : ∃ z, O[j]?.getD 0 = z := ⟨_, rfl⟩
          rw [hzv] at ho hz HS HM
          have HZv := Lib.hid hzv
          clear hzv
          go_wp2_with fail
          go_region
          have hN3 : OwnI (wr.setCell ⟨W.heap.size, j, none⟩ (.int .i64 (y1 + z))).drew W.heap.size (.slice (some ⟨W.heap.size, 0, none⟩) (O.length + X) (O.length + X)) ((stepK O X j).set j (y1 + z)) := (HN.out.put HNl.out j (y1 + z)).dr 1
          have hB3 : Below W.heap.size W (wr.setCell ⟨W.heap.size, j, none⟩ (.int .i64 (y1 + z))).drew := belowDr (hBj.setCell (p := ⟨_, _, none⟩) (Nat.le_refl _) _) 1
          generalize (wr.setCell ⟨W.heap.size, j, none⟩ (.int .i64 (y1 + z))).drew = w3 at hN3 hB3 ⊢
          clear ha ho hn1 hf1 hn2 hf2 HN hO2
          obtain ⟨b2, o2, he, hb2, hc2⟩ := (hI.below (hB.trans (hB3.mono hB.size))).at (by omega)
          simp only [Option.some.injEq, Addr.mk.injEq, and_true] at he
          obtain ⟨rfl, rfl⟩ := he
          have ha := hc2 k hlt
          rw [HX.out] at ha
          have hO2 := hO.keptB hB3
          have hNl2 : ((stepK O X j).set j (y1 + z)).length = O.length + X := by rw [List.length_set, HNl.out]
          obtain ⟨g', cp', he2, _, hgW, hcO⟩ := hO2.at (by omega)
          simp only [Value.slice.injEq, Option.some.injEq, Addr.mk.injEq, and_true, true_and] at he2
          obtain ⟨rfl, rfl⟩ := he2
          obtain ⟨gN, cpN, he3, _, hgN, hcN⟩ := hN3.at (by omega)
          rw [hNl2] at he3 hcN
          simp only [Value.slice.injEq, Option.some.injEq, Addr.mk.injEq, and_true, true_and] at he3
          obtain ⟨rfl, rfl⟩ := he3
          have ho := (hcO j hlj).1
          have hn2 := (hcN (j + X) (by omega)).1
          have hf2 := (hcN (j + X) (by omega)).2
          rw [HZv.out] at ho
          rw [HM.out] at hn2
          have HN3 := Lib.hid hN3
          have HNl3 := Lib.hid hNl2
          clear hc2 hcO hcN hN3 hNl2 hO2
          go_wp2_with fail
          go_region
          go_wp2
          go_roundw
          case rel => exact ⟨j + 1, by omega, by go_num, by rw [← HS.out]; exact (HN3.out.put HNl3.out (j + X) (y2 + z)).dr 1, belowDr (hB3.setCell (p := ⟨_, _, none⟩) (Nat.le_refl _) _) 1⟩
          case measure => simp [intOf]; omega
        · obtain rfl : j = O.length := by omega
          have HN := Lib.hid hN
          have hW := hB.size
          clear hN
          go_wp2
          go_roundw
          case rel => exact ⟨k + 1, by omega, by go_num, by rw [HT.out]; exact HN.out.mono hW, hB.trans (hBj.mono hW)⟩
          case measure => simp [intOf]; omega
    · obtain rfl : k = zs.length := by omega
      rw [List.take_length] at hO
      go_wp2
      go_ret
      exact ⟨_, rfl, hO, hB⟩
end Go.Proofs.Ytokfkhdngmpkgaa
