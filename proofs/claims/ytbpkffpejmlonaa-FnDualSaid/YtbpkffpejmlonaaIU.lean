/- BinDual of both. Conditions: the list is short enough to be counted. -/
import Derived.Test.YtbpkffpejmlonaaW17
import Derived.Test.YtbpkffpejmlonaaMU
import Derived.BigRegion
namespace Go.Proofs.Ytbpkffpejmlonaa
open Go.RowKit

set_option maxHeartbeats 4000000 in
theorem sBinDual_any (a : Option Addr) (cap : Nat) (zs : List Int) (n : Int) (w : World) (hl : zs.length ≤ 1000000) (hI : IntsAt w a zs) :
    Calls Try.prog 46 #[.slice a zs.length cap, .int .i64 n] w (DualPost w zs n) := by
  by_cases hz : inL zs = true
  case neg =>
    have hz' : inL zs = false := by simpa using hz
    have hR : DualR zs n 0 false := .inr ⟨rfl, by simp [dualOk, hz'], rfl⟩
    have HZ := Lib.hid hz'
    clear hz hz'
    go_enter Try.func46, Try.ntmps46
    go_wp2_with (go_at_call 32; refine (sSumIn_any a cap zs _ (by omega) hI).mono ?_; rw [HZ.out]; rintro e w' ⟨rfl, rfl⟩)
    go_ret2
    exact ⟨0, false, rfl, hR, Below.refl _ _⟩
  have hzl := (inL_iff zs).1 hz
  have HZ := Lib.hid hz
  by_cases hl8 : zs.length ≤ 8
  case neg =>
    have hR : DualR zs n 0 false := .inr ⟨rfl, by simp [dualOk, hl8], rfl⟩
    clear hz
    go_enter Try.func46, Try.ntmps46
    go_wp2_with (go_at_call 32; refine (sSumIn_any a cap zs _ (by omega) hI).mono ?_; rw [HZ.out]; rintro e w' ⟨rfl, rfl⟩)
    go_ret2
    exact ⟨0, false, rfl, hR, Below.refl _ _⟩
  by_cases hn : 1 ≤ n ∧ n ≤ 100
  case neg =>
    have hd : (decide (1 ≤ n) && decide (n ≤ 100)) = false := by simp; omega
    have hR : DualR zs n 0 false := .inr ⟨rfl, by simp only [dualOk, hd, Bool.and_false], rfl⟩
    have HD := Lib.hid hd
    clear hz hd
    
    skip
    skip
    go_enter Try.func46, Try.ntmps46
    go_wp2_with (first | (go_at_call 32; refine (sSumIn_any a cap zs _ (by omega) hI).mono ?_; rw [HZ.out]; rintro e w' ⟨rfl, rfl⟩) | (go_at_call 98; refine (l6In_any n 1 100 _).mono ?_; rw [HD.out]; rintro e w' ⟨rfl, rfl⟩))
    go_ret2
    exact ⟨0, false, rfl, hR, Below.refl _ _⟩
  have hd : (decide (1 ≤ n) && decide (n ≤ 100)) = true := by simp [hn]
  have HD := Lib.hid hd
  have HOK : Hid (dualOk zs n = true) := (dualOk_iff zs n).2 ⟨hz, hl8, hn⟩
  have hg := hzl.2
  clear hz hd hzl
  obtain ⟨P, hP⟩ : ∃ P : Nat, 2 ^ zs.length = P := ⟨_, rfl⟩
  have hpp : (2 : Int) ^ zs.length = (P : Int) := by
    have : ((2 ^ zs.length : Nat) : Int) = 2 ^ zs.length := by simp
    rw [← hP]; exact this.symm
  have hPb : 1 ≤ P ∧ P ≤ 256 := by
    have h1 : 2 ^ zs.length ≤ 2 ^ 8 := Nat.pow_le_pow_right (by omega) hl8
    have h2 := Nat.two_pow_pos zs.length
    omega
  have HPF : Hid (2 ^ zs.length = P) := hP
  have HFL : Hid (∀ (Q : Nat → Prop) c k, c < P → Fam Q c k → k ≤ 8) := fun Q c k hc h => Nat.le_trans (fam_len h (m := zs.length) (by omega) (by omega)) hl8
  clear hP
  go_enter Try.func46, Try.ntmps46
  go_wp2_with (first | (go_at_call 32; refine (sSumIn_any a cap zs _ (by omega) hI).mono ?_; rw [HZ.out]; rintro e w' ⟨rfl, rfl⟩) | (go_at_call 98; refine (l6In_any n 1 100 _).mono ?_; rw [HD.out]; rintro e w' ⟨rfl, rfl⟩) | (at_make; refine makeI w rfl _ _ rfl P _ rfl rfl (by first | rfl | omega) (by omega) ?_; intro w1 hO hG))
  have hB : Below w.heap.size w w1 := (Below.refl _ w).grown hG (Nat.le_refl _) (fun k hk => by cases hk)
  clear hG
  go_loopw [7] (fun i wr => ∃ (c : Nat) (T : List Int), c ≤ P ∧ i = .int .i64 c ∧ Hid (T.length = P) ∧ Hid (Tab0 (sizeP zs n) T c) ∧ OwnI wr w.heap.size (.slice (some ⟨w.heap.size, 0, none⟩) P P) T ∧ Below w.heap.size w wr) (fun i _ => P - (intOf i).toNat)
  case atStart => exact ⟨1, _, by omega, rfl, List.length_replicate .., tab0_one _ _, hO, hB⟩
  case round =>
    obtain ⟨c, T, hc, rfl, HTl, HTab, hO, hB⟩ := hrel
    by_cases hlt : c < P
    · have HT1 := Lib.hid HTab.out.tab
      have HSS := Lib.hid (seen_start (sizeP zs n) c)
      go_wp2
      go_loopw [8] (fun i wr => ∃ (p v : Nat) (T : List Int), p ≤ c ∧ i = .int .i64 p ∧ Hid (T.length = P) ∧ Hid (Tab (sizeP zs n) T c v) ∧ Hid (Sub p c) ∧ Hid (Seen (sizeP zs n) c p v) ∧ OwnI wr w.heap.size (.slice (some ⟨w.heap.size, 0, none⟩) P P) T ∧ Below w.heap.size w wr) (fun i _ => (intOf i).toNat)
      case atStart => exact ⟨c, 0, T, by omega, rfl, HTl, HT1, Sub.refl _, HSS, hO, hB⟩
      case round =>
        clear hO hB HTl HTab HT1 HSS
        obtain ⟨p, v, T, hp, rfl, HTl, HTab, HSub, HSeen, hO, hBr⟩ := hrel
        by_cases hp0 : 0 < p
        · have hIr := hI.below hBr
          have hlt2 := pred_lt p c hp0
          have HS2 := Lib.hid (pred_sub p c)
          have HA : Hid (bits .and .i64 ((p : Int) - 1) (c : Int) = (((p - 1) &&& c : Nat) : Int)) := by
            show bits .and .i64 ((p : Int) - 1) (c : Int) = _
            rw [show (p : Int) - 1 = ((p - 1 : Nat) : Int) by omega, i64_and _ _ (by omega) (by omega)]
          have hs := csum_bd hg p
          have hs2 := tot_bd hg
          by_cases hge : n ≤ csum zs p
          · obtain ⟨d, hd⟩ : ∃ d, c - p = d := ⟨_, rfl⟩
            have hdc : d < c := by omega
            have han : bits .andNot .i64 (c : Int) (p : Int) = (d : Int) := by
              rw [i64_andNot _ _ (by omega) (by omega), andNot_sub HSub.out (by omega), hd]
            obtain ⟨t, ht, hmt⟩ := HTab.out.1 d hdc
            have hvb := HFL.out _ _ _ hlt HSeen.out.1
            have htb := HFL.out _ _ _ (show d < P by omega) hmt.1
            have HN : Hid (Seen (sizeP zs n) c ((p - 1) &&& c) (max v (1 + t))) := seen_hit HSeen.out (by omega) HSub.out hge (by rw [hd]; exact hmt)
            have HTP : Hid (∀ x : Nat, Tab (sizeP zs n) (T.set c (x : Int)) c x) := fun x => HTab.out.put (by have := HTl.out; omega) x
            have HTL2 : Hid (∀ x : Int, (T.set c x).length = P) := fun x => by rw [List.length_set]; exact HTl.out
            obtain ⟨g', cp', he, _, hgl, hcell⟩ := hO.at (by have := HTl.out; omega)
            simp only [Value.slice.injEq, Option.some.injEq, Addr.mk.injEq, and_true] at he
            obtain ⟨rfl, hq1, hq2⟩ := he
            clear hq1 hq2
            have hx1 := (hcell c (by have := HTl.out; omega)).1
            have hf1 := (hcell c (by have := HTl.out; omega)).2
            have hx2 := (hcell d (by have := HTl.out; omega)).1
            rw [HTab.out.2.2] at hx1
            rw [ht] at hx2
            have HO := Lib.hid hO
            clear hcell hd ht hO hmt HSeen HTab
            by_cases hm : (v : Int) < 1 + (t : Int)
            all_goals
              go_wp2_with (go_at_call 105; with_reducible refine (l1Sum_any p a cap zs _ (by omega) (by omega) hg hIr).mono ?_; rintro e w' ⟨rfl, m1, rfl⟩)
              go_region
              go_wp2
              go_roundw
              case rel => exact ⟨(p - 1) &&& c, max v (1 + t), _, by omega, by rw [HA.out], HTL2.out _, HTP.out _, HS2, HN, by first | exact ((HO.out.dr m1).put HTl.out c _).dr 1 | (have h := ((HO.out.dr m1).put HTl.out c ((max v (1 + t) : Nat) : Int)).dr 1; rw [show ((max v (1 + t) : Nat) : Int) = 1 + (t : Int) by omega] at h ⊢; exact h) | (have h := ((HO.out.dr m1).put HTl.out c ((max v (1 + t) : Nat) : Int)).dr 1; rw [show ((max v (1 + t) : Nat) : Int) = (v : Int) by omega] at h ⊢; exact h), by exact ((belowDr hBr m1).setCell (p := ⟨_, _, none⟩) (Nat.le_refl _) _).drew⟩
              case measure => rw [HA.out]; simp [intOf]; omega
          · have HN := Lib.hid (seen_miss HSeen.out HSub.out hge)
            go_wp2_with (go_at_call 105; with_reducible refine (l1Sum_any p a cap zs _ (by omega) (by omega) hg hIr).mono ?_; rintro e w' ⟨rfl, m1, rfl⟩)
            go_roundw
            case rel => exact ⟨(p - 1) &&& c, v, T, by omega, by rw [HA.out], HTl, HTab, HS2, HN, hO.dr m1, (belowDr hBr m1)⟩
            case measure => rw [HA.out]; simp [intOf]; omega
        · have HE : Hid (Tab0 (sizeP zs n) T (c + 1)) := HTab.out.next (seen_end (by have h := HSeen.out; rwa [show p = 0 by omega] at h))
          go_wp2
          go_roundw
          case rel => exact ⟨c + 1, T, by omega, by go_num, HTl, HE, hO, hBr⟩
          case measure => simp [intOf]; omega
    · obtain rfl : P = c := by omega
      obtain ⟨k, hk, hmost⟩ := HTab.out.1 (P - 1) (by omega)
      have HF : Hid (DualR zs n k true) := .inl ⟨rfl, HOK.out, k, rfl, by rw [HPF.out]; exact hmost⟩
      obtain ⟨g', cp', he, _, hgl, hcell⟩ := hO.at (by have := HTl.out; omega)
      simp only [Value.slice.injEq, Option.some.injEq, Addr.mk.injEq, and_true] at he
      obtain ⟨rfl, hq1, hq2⟩ := he
      clear hq1 hq2
      have hx1 := (hcell (P - 1) (by have := HTl.out; omega)).1
      rw [hk] at hx1
      have hx2 : wr.cell? ⟨w.heap.size, ((P : Int) - 1).toNat, none⟩ = some (.int .i64 k) := by rw [show ((P : Int) - 1).toNat = P - 1 by omega]; exact hx1
      clear hcell hk hmost
      go_wp2
      go_ret2
      exact ⟨k, true, rfl, HF.out, hB⟩

set_option maxHeartbeats 4000000 in
theorem BinDual_any (a : Option Addr) (cap : Nat) (zs : List Int) (n : Int) (w : World) (hl : zs.length ≤ 1000000) (hI : IntsAt w a zs) :
    Calls Try.prog 45 #[.slice a zs.length cap, .int .i64 n] w (DualPost w zs n) := by
  by_cases hz : inL zs = true
  case neg =>
    have hz' : inL zs = false := by simpa using hz
    have hR : DualR zs n 0 false := .inr ⟨rfl, by simp [dualOk, hz'], rfl⟩
    have HZ := Lib.hid hz'
    clear hz hz'
    go_enter Try.func45, Try.ntmps45
    go_wp2_with (go_at_call 31; refine (SumIn_any a cap zs _ (by omega) hI).mono ?_; rw [HZ.out]; rintro e w' ⟨rfl, rfl⟩)
    go_ret2
    exact ⟨0, false, rfl, hR, Below.refl _ _⟩
  have hzl := (inL_iff zs).1 hz
  have HZ := Lib.hid hz
  by_cases hl8 : zs.length ≤ 8
  case neg =>
    have hR : DualR zs n 0 false := .inr ⟨rfl, by simp [dualOk, hl8], rfl⟩
    clear hz
    go_enter Try.func45, Try.ntmps45
    go_wp2_with (go_at_call 31; refine (SumIn_any a cap zs _ (by omega) hI).mono ?_; rw [HZ.out]; rintro e w' ⟨rfl, rfl⟩)
    go_ret2
    exact ⟨0, false, rfl, hR, Below.refl _ _⟩
  by_cases hn : 1 ≤ n ∧ n ≤ 100
  case neg =>
    have hd : (decide (1 ≤ n) && decide (n ≤ 100)) = false := by simp; omega
    have hR : DualR zs n 0 false := .inr ⟨rfl, by simp only [dualOk, hd, Bool.and_false], rfl⟩
    have HD := Lib.hid hd
    clear hz hd
    by_cases hn1 : 1 ≤ n
    all_goals
      try have hn2 : ¬ n ≤ 100 := by omega
      go_enter Try.func45, Try.ntmps45
      go_wp2_with (first | (go_at_call 31; refine (SumIn_any a cap zs _ (by omega) hI).mono ?_; rw [HZ.out]; rintro e w' ⟨rfl, rfl⟩))
      go_ret2
      exact ⟨0, false, rfl, hR, Below.refl _ _⟩
  have hd : (decide (1 ≤ n) && decide (n ≤ 100)) = true := by simp [hn]
  have HD := Lib.hid hd
  have HOK : Hid (dualOk zs n = true) := (dualOk_iff zs n).2 ⟨hz, hl8, hn⟩
  have hg := hzl.2
  clear hz hd hzl
  obtain ⟨P, hP⟩ : ∃ P : Nat, 2 ^ zs.length = P := ⟨_, rfl⟩
  have hpp : (2 : Int) ^ zs.length = (P : Int) := by
    have : ((2 ^ zs.length : Nat) : Int) = 2 ^ zs.length := by simp
    rw [← hP]; exact this.symm
  have hPb : 1 ≤ P ∧ P ≤ 256 := by
    have h1 : 2 ^ zs.length ≤ 2 ^ 8 := Nat.pow_le_pow_right (by omega) hl8
    have h2 := Nat.two_pow_pos zs.length
    omega
  have HPF : Hid (2 ^ zs.length = P) := hP
  have HFL : Hid (∀ (Q : Nat → Prop) c k, c < P → Fam Q c k → k ≤ 8) := fun Q c k hc h => Nat.le_trans (fam_len h (m := zs.length) (by omega) (by omega)) hl8
  clear hP
  go_enter Try.func45, Try.ntmps45
  go_wp2_with (first | (go_at_call 31; refine (SumIn_any a cap zs _ (by omega) hI).mono ?_; rw [HZ.out]; rintro e w' ⟨rfl, rfl⟩) | (at_make; refine makeI w rfl _ _ rfl P _ rfl rfl (by first | rfl | omega) (by omega) ?_; intro w1 hO hG))
  have hB : Below w.heap.size w w1 := (Below.refl _ w).grown hG (Nat.le_refl _) (fun k hk => by cases hk)
  clear hG
  go_loopw [31] (fun i wr => ∃ (c : Nat) (T : List Int), c ≤ P ∧ i = .int .i64 c ∧ Hid (T.length = P) ∧ Hid (Tab0 (sizeP zs n) T c) ∧ OwnI wr w.heap.size (.slice (some ⟨w.heap.size, 0, none⟩) P P) T ∧ Below w.heap.size w wr) (fun i _ => P - (intOf i).toNat)
  case atStart => exact ⟨0, _, by omega, rfl, List.length_replicate .., tab0_start _ _, hO, hB⟩
  case round =>
    obtain ⟨c, T, hc, rfl, HTl, HTab, hO, hB⟩ := hrel
    by_cases hlt : c < P
    · have HT1 := Lib.hid HTab.out.tab
      have HSS := Lib.hid (seen_start (sizeP zs n) c)
      go_wp2
      go_loopw [8] (fun i wr => ∃ (p v : Nat) (T : List Int), p ≤ c ∧ i = .int .i64 p ∧ Hid (T.length = P) ∧ Hid (Tab (sizeP zs n) T c v) ∧ Hid (Sub p c) ∧ Hid (Seen (sizeP zs n) c p v) ∧ OwnI wr w.heap.size (.slice (some ⟨w.heap.size, 0, none⟩) P P) T ∧ Below w.heap.size w wr) (fun i _ => (intOf i).toNat)
      case atStart => exact ⟨c, 0, T, by omega, rfl, HTl, HT1, Sub.refl _, HSS, hO, hB⟩
      case round =>
        clear hO hB HTl HTab HT1 HSS
        obtain ⟨p, v, T, hp, rfl, HTl, HTab, HSub, HSeen, hO, hBr⟩ := hrel
        by_cases hp0 : 0 < p
        · have hIr := hI.below hBr
          have hlt2 := pred_lt p c hp0
          have HS2 := Lib.hid (pred_sub p c)
          have HA : Hid (bits .and .i64 ((p : Int) - 1) (c : Int) = (((p - 1) &&& c : Nat) : Int)) := by
            show bits .and .i64 ((p : Int) - 1) (c : Int) = _
            rw [show (p : Int) - 1 = ((p - 1 : Nat) : Int) by omega, i64_and _ _ (by omega) (by omega)]
          have hs := csum_bd hg p
          have hs2 := tot_bd hg
          by_cases hge : n ≤ csum zs p
          · obtain ⟨d, hd⟩ : ∃ d, c - p = d := ⟨_, rfl⟩
            have hdc : d < c := by omega
            have han : bits .andNot .i64 (c : Int) (p : Int) = (d : Int) := by
              rw [i64_andNot _ _ (by omega) (by omega), andNot_sub HSub.out (by omega), hd]
            obtain ⟨t, ht, hmt⟩ := HTab.out.1 d hdc
            have hvb := HFL.out _ _ _ hlt HSeen.out.1
            have htb := HFL.out _ _ _ (show d < P by omega) hmt.1
            have HN : Hid (Seen (sizeP zs n) c ((p - 1) &&& c) (max v (1 + t))) := seen_hit HSeen.out (by omega) HSub.out hge (by rw [hd]; exact hmt)
            have HTP : Hid (∀ x : Nat, Tab (sizeP zs n) (T.set c (x : Int)) c x) := fun x => HTab.out.put (by have := HTl.out; omega) x
            have HTL2 : Hid (∀ x : Int, (T.set c x).length = P) := fun x => by rw [List.length_set]; exact HTl.out
            obtain ⟨g', cp', he, _, hgl, hcell⟩ := hO.at (by have := HTl.out; omega)
            simp only [Value.slice.injEq, Option.some.injEq, Addr.mk.injEq, and_true] at he
            obtain ⟨rfl, hq1, hq2⟩ := he
            clear hq1 hq2
            have hx1 := (hcell c (by have := HTl.out; omega)).1
            have hf1 := (hcell c (by have := HTl.out; omega)).2
            have hx2 := (hcell d (by have := HTl.out; omega)).1
            rw [HTab.out.2.2] at hx1
            rw [ht] at hx2
            have HO := Lib.hid hO
            clear hcell hd ht hO hmt HSeen HTab
            by_cases hm : (v : Int) < 1 + (t : Int)
            all_goals
              go_wp2_with (go_at_call 99; with_reducible refine (csum_any p a cap zs _ (by omega) (by omega) hg hIr).mono ?_; rintro e w' ⟨rfl, rfl⟩)
              go_region
              go_wp2
              go_roundw
              case rel => exact ⟨(p - 1) &&& c, max v (1 + t), _, by omega, by rw [HA.out], HTL2.out _, HTP.out _, HS2, HN, by first | exact (HO.out.put HTl.out c _).dr 1 | (have h := (HO.out.put HTl.out c ((max v (1 + t) : Nat) : Int)).dr 1; rw [show ((max v (1 + t) : Nat) : Int) = 1 + (t : Int) by omega] at h ⊢; exact h) | (have h := (HO.out.put HTl.out c ((max v (1 + t) : Nat) : Int)).dr 1; rw [show ((max v (1 + t) : Nat) : Int) = (v : Int) by omega] at h ⊢; exact h), by exact (hBr.setCell (p := ⟨_, _, none⟩) (Nat.le_refl _) _).drew⟩
              case measure => rw [HA.out]; simp [intOf]; omega
          · have HN := Lib.hid (seen_miss HSeen.out HSub.out hge)
            go_wp2_with (go_at_call 99; with_reducible refine (csum_any p a cap zs _ (by omega) (by omega) hg hIr).mono ?_; rintro e w' ⟨rfl, rfl⟩)
            go_roundw
            case rel => exact ⟨(p - 1) &&& c, v, T, by omega, by rw [HA.out], HTl, HTab, HS2, HN, hO, hBr⟩
            case measure => rw [HA.out]; simp [intOf]; omega
        · have HE : Hid (Tab0 (sizeP zs n) T (c + 1)) := HTab.out.next (seen_end (by have h := HSeen.out; rwa [show p = 0 by omega] at h))
          go_wp2
          go_roundw
          case rel => exact ⟨c + 1, T, by omega, by go_num, HTl, HE, hO, hBr⟩
          case measure => simp [intOf]; omega
    · obtain rfl : P = c := by omega
      obtain ⟨k, hk, hmost⟩ := HTab.out.1 (P - 1) (by omega)
      have HF : Hid (DualR zs n k true) := .inl ⟨rfl, HOK.out, k, rfl, by rw [HPF.out]; exact hmost⟩
      obtain ⟨g', cp', he, _, hgl, hcell⟩ := hO.at (by have := HTl.out; omega)
      simp only [Value.slice.injEq, Option.some.injEq, Addr.mk.injEq, and_true] at he
      obtain ⟨rfl, hq1, hq2⟩ := he
      clear hq1 hq2
      have hx1 := (hcell (P - 1) (by have := HTl.out; omega)).1
      rw [hk] at hx1
      have hx2 : wr.cell? ⟨w.heap.size, ((P : Int) - 1).toNat, none⟩ = some (.int .i64 k) := by rw [show ((P : Int) - 1).toNat = P - 1 by omega]; exact hx1
      clear hcell hk hmost
      go_wp2
      go_ret2
      exact ⟨k, true, rfl, HF.out, hB⟩
end Go.Proofs.Ytbpkffpejmlonaa
