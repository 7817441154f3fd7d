/- BinFits of the program at bins that fit. Conditions: stated in each. -/
import Derived.Test.YtmggcfilkiklbaaBH
import Derived.Test.YtmggcfilkiklbaaAC
namespace Go.Proofs.Ytmggcfilkiklbaa
open Go.RowKit

set_option maxHeartbeats 1600000 in
theorem Equal_same (a b : Option Addr) (cap cap' : Nat) (xs : List Int) (w : World) (hl : xs.length ≤ 1000000) (hI : IntsAt w a xs) (hJ : IntsAt w b xs) :
    Calls Try.prog 24 #[.slice a xs.length cap, .slice b xs.length cap'] w fun e w' => e = .returned (.bool true) ∧ ∃ n, w' = w.drewN n := by
  go_enter Try.func24, Try.ntmps24
  go_wp2
  go_loopw [13] (fun i wr => ∃ k n : Nat, k ≤ xs.length ∧ i = .int .i64 k ∧ wr = w.drewN n) (fun i _ => xs.length - (intOf i).toNat)
  case atStart => exact ⟨0, 0, Nat.zero_le _, rfl, rfl⟩
  case round =>
    obtain ⟨k, n, hk, rfl, rfl⟩ := hrel
    by_cases hlt : k < xs.length
    · obtain ⟨b1, o1, rfl, _, hc1⟩ := hI.at (by omega)
      obtain ⟨b2, o2, rfl, _, hc2⟩ := hJ.at (by omega)
      have hx1 := hc1 k hlt
      have hx2 := hc2 k hlt
      generalize xs[k]?.getD 0 = x at hx1 hx2
      clear hc1 hc2
      go_wp2_with fail
      go_quiet (fail)
      go_wp2
      go_roundw
      case rel => exact ⟨k + 1, n + nq, by omega, by go_num, by simp⟩
      case measure => simp [intOf]; omega
    · go_wp2
      go_ret
      exact ⟨rfl, n, rfl⟩
theorem flat_take (rows : List (List Int)) (k : Nat) (h : k < rows.length) : (rows.take (k + 1)).flatten = (rows.take k).flatten ++ rows[k]?.getD [] := by
  rw [take_snocA rows k [] h]; simp
theorem flat_take_len (rows : List (List Int)) (k : Nat) : (rows.take k).flatten.length ≤ rows.flatten.length := by
  have := congrArg (fun l => (List.flatten l).length) (List.take_append_drop k rows)
  simp only [List.flatten_append, List.length_append] at this
  omega

set_option maxHeartbeats 6400000 in
theorem BinFits_ok (a b : Option Addr) (cap cap' : Nat) (zs : List Int) (size : Int) (rows : List (List Int)) (w : World) (ht : toldB zs size = true) (hp : rows.flatten.Perm zs) (hrl : rows.length ≤ 10) (hro : ∀ i, i < rows.length → good (rows[i]?.getD []) ∧ 0 < (rows[i]?.getD []).length ∧ tot (rows[i]?.getD []) ≤ size) (hI : IntsAt w a zs) (hJ : RowsAt w b rows) :
    Calls Try.prog 15 #[.slice a zs.length cap, .int .i64 size, .slice b rows.length cap'] w fun e w' => e = .returned (.bool true) ∧ Below w.heap.size w w' := by
  obtain ⟨hz, _, _, _⟩ := toldB_is ht
  have hzl := ((inL_iff zs).1 hz).1
  have hfl : rows.flatten.length = zs.length := hp.length_eq
  have HFL := Lib.hid hfl
  have HRL : Hid (rows.flatten.length ≤ 10) := by show _ ≤ _; omega
  have HRK : Hid (∀ k : Nat, (rows[k]?.getD []).length ≤ 60) := fun k => by have := flat_len rows k; have := HRL.out; omega
  have HSD : Hid (sortD rows.flatten = sortD zs) := sortD_congr hp
  have HZL : Hid ((sortD zs).length ≤ 10) := by show _ ≤ _; rw [sortD_length]; exact hzl
  have HT := Lib.hid ht
  have HRO := Lib.hid hro
  have HO : Hid (OwnI (w.alloc (.cells #[] 3)) w.heap.size (.slice (some ⟨w.heap.size, 0, none⟩) 0 0) []) := World.ownsRow_lit w #[] 0 (Nat.le_refl _) (by unfold maxLen; omega) (by simp)
  clear hz ht hp hro hfl
  go_enter Try.func15, Try.ntmps15
  go_wp2_with fail
  refine (binsTold_any a cap zs size w (by omega) hI).mono ?_
  rw [HT.out]
  rintro e w' ⟨rfl, rfl⟩
  go_wp2
  go_loopw [7, 19] (fun v i wr => ∃ (k : Nat), k ≤ rows.length ∧ i = .int .i64 k ∧ OwnI wr w.heap.size v (rows.take k).flatten ∧ Below w.heap.size w wr) (fun _ i _ => rows.length - (intOf i).toNat)
  case atStart => exact ⟨0, Nat.zero_le _, rfl, HO.out, (Below.refl _ _).alloc (Nat.le_refl _) _⟩
  case round =>
    clear HO
    obtain ⟨k, hk, rfl, hO, hB⟩ := hrel
    by_cases hlt : k < rows.length
    · obtain ⟨g, rfl, hg, hcell⟩ := (hJ.below hB).at (by omega)
      obtain ⟨ad, cp, hx, hIk⟩ := hcell k hlt
      obtain ⟨_, hpos, _⟩ := HRO.out k hlt
      obtain ⟨b1, o1, rfl, _, _⟩ := hIk.at hpos
      have HFT := Lib.hid (flat_take rows k hlt)
      have hl1 : (rows.take k).flatten.length ≤ 10 := by have := flat_take_len rows k; have := HFL.out; omega
      have hl2 : ((rows.take k).flatten ++ rows[k]?.getD []).length ≤ zs.length := by rw [← HFT.out]; have := flat_take_len rows (k + 1); have := HFL.out; omega
      have hlk : (rows[k]?.getD []).length ≤ 1000000 := by rw [List.length_append] at hl2; omega
      generalize rows[k]?.getD [] = zk at hx hIk HFT hl2 hlk
      generalize hlz : zk.length = lk at hx hlk
      have HLZ := Lib.hid hlz
      generalize (rows.take k).flatten = M at hO HFT hl1 hl2
      clear hcell hpos hlz
      go_wp2_with (at_builtin; refine appendSl wr rfl _ _ rfl w.heap.size u7 M zk ⟨b1, o1, none⟩ lk cp rfl rfl HLZ.out hO (by omega) (by rw [HLZ.out]; exact hlk) hIk hB.size ?_; intro v' w' hO' hG' hat; obtain ⟨a9, c9, hv9, _, _⟩ := hO'.shape; generalize hnn : List.length _ = n9 at hv9 hl2; clear hnn; subst hv9)
      go_roundw
      case rel => exact ⟨k + 1, by omega, by go_num, by rw [HFT.out]; exact hO', hB.grown hG' hB.size (fun j hj => (hO.lt j hj).1)⟩
      case measure => simp [intOf]; omega
    · obtain rfl : k = rows.length := by omega
      have hE : rows.take rows.length = rows := List.take_length
      rw [hE] at hO
      have hfl2 := HFL.out
      generalize rows.flatten = F at hO HSD hfl2 HFL HRL
      obtain ⟨aF, cF, rfl, hIF, _⟩ := hO.shape
      have hl19 : F.length ≤ 19 := by omega
      have hzI := hI.below hB
      have hJ2 := hJ.below hB
      have sB := hB.size
      clear hfl2 HFL hE hO
      go_wp2_with fail
      refine (inOrder_any aF cF F wr hl19 hIF).mono ?_
      rintro e w2 ⟨v2, rfl, hO2, hB2⟩
      rw [HSD.out] at hO2
      have hA2 := hB.trans (hB2.mono sB)
      have hzI2 := hzI.below hB2
      have hJ3 := hJ2.below hB2
      go_wp2_with fail
      refine (inOrder_any a cap zs w2 (by omega) hzI2).mono ?_
      rintro e w3 ⟨v3, rfl, hO3, hB3⟩
      have hA3 := hA2.trans (hB3.mono hA2.size)
      have hJ4 := hJ3.below hB3
      have hzz := HZL.out
      generalize sortD zs = S at *
      obtain ⟨a2, c2, rfl, hI2, _⟩ := hO2.shape
      obtain ⟨a3, c3, rfl, hI3, _⟩ := hO3.shape
      have hI23 := hI2.below hB3
      clear hO2 hO3 hI2 hzI hzI2 hJ2 hJ3 hB2 hB3 hA2
      go_wp2_with fail
      refine (Equal_same a2 a3 c2 c3 S w3 (by omega) hI23 hI3).mono ?_
      rintro e w4 ⟨rfl, n4, rfl⟩
      have hA4 := belowDr hA3 n4
      have hJ5 := hJ4.dr n4
      clear hI23 hI3 hA3 hJ4
      generalize w3.drewN n4 = w4 at *
      go_wp2
      go_loop [40] (fun i => ∃ k : Nat, k ≤ rows.length ∧ i = .int .i64 k) (fun i => rows.length - (intOf i).toNat)
      case atStart => exact ⟨0, Nat.zero_le _, rfl⟩
      case round =>
        obtain ⟨k, hk2, rfl⟩ := hrel
        by_cases hlt2 : k < rows.length
        · obtain ⟨g, rfl, hg, hcell⟩ := hJ5.at (by omega)
          obtain ⟨ad, cp, hx, hIk⟩ := hcell k hlt2
          obtain ⟨hgk, _, htk⟩ := HRO.out k hlt2
          have hT : Hid (∀ h : (rows[k]?.getD []).length ≤ 60, Calls Try.prog 27 #[.slice ad (rows[k]?.getD []).length cp] w4 fun e w' => e = .returned (.int .i64 (tot (rows[k]?.getD []))) ∧ w4 = w') := fun h => totalOf_any ad cp (rows[k]?.getD []) w4 (by omega) hgk hIk
          have hlk : (rows[k]?.getD []).length ≤ 60 := HRK.out k
          have hC := hT.out hlk
          generalize (rows[k]?.getD []).length = lk at hx hC
          generalize tot (rows[k]?.getD []) = tk at hC htk
          clear hcell hIk hT hgk hlk
          go_wp2_with fail
          refine hC.mono ?_
          rintro e w' ⟨rfl, rfl⟩
          go_wp2
          go_round
          case rel => exact ⟨k + 1, by omega, by go_num⟩
          case measure => simp [intOf]; omega
        · go_wp2
          go_ret
          exact ⟨rfl, hA4⟩
end Go.Proofs.Ytmggcfilkiklbaa
