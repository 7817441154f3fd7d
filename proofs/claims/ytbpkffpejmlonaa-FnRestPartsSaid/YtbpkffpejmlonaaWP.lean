/- RestParts of the reference. Conditions: the list is short enough to be counted. -/
import Derived.Test.YtbpkffpejmlonaaW17
import Derived.Test.YtbpkffpejmlonaaME
import Derived.Test.YtbpkffpejmlonaaMV
import Derived.BigRegion
namespace Go.Proofs.Ytbpkffpejmlonaa
open Go.RowKit

set_option maxRecDepth 100000 in
set_option maxHeartbeats 6000000 in
theorem sRestParts_any (a : Option Addr) (cap : Nat) (zs : List Int) (n : Int) (w : World) (hl : zs.length ≤ 4294967296) (hI : IntsAt w a zs) :
    Calls Try.prog 49 #[.slice a zs.length cap, .int .i64 n] w (PartsPost w zs n) := by
  by_cases hz : restOk zs n = true
  case neg =>
    have hz' : restOk zs n = false := by simpa using hz
    have hR : PartsR zs n 0 false := .inr ⟨rfl, hz', rfl⟩
    have HZ := Lib.hid hz'
    clear hz hz'
    go_enter Try.func49, Try.ntmps49
    go_wp2_with (go_at_call 101; refine (l8Given_any a cap zs n w (by omega) hI).mono ?_; rw [HZ.out]; rintro e w' ⟨rfl, rfl⟩)
    go_ret2
    exact ⟨0, false, rfl, hR, Below.refl _ _⟩
  have hz' := (restOk_iff zs n).1 hz
  have hzl := (inL_iff zs).1 hz'.1
  have hn := hz'.2
  have hl10 := hzl.1
  have hg := hzl.2
  have HZ := Lib.hid hz
  clear hz hz' hzl
  obtain ⟨P, hP⟩ : ∃ P : Nat, 2 ^ zs.length = P := ⟨_, rfl⟩
  have hpp : (2 : Int) ^ zs.length = (P : Int) := by
    have : ((2 ^ zs.length : Nat) : Int) = 2 ^ zs.length := by simp
    rw [← hP]; exact this.symm
  have hPb : 1 ≤ P ∧ P ≤ 1024 := by
    have h1 : 2 ^ zs.length ≤ 2 ^ 10 := Nat.pow_le_pow_right (by omega) hl10
    have h2 := Nat.two_pow_pos zs.length
    omega
  have HPF : Hid (2 ^ zs.length = P) := hP
  have HFL : Hid (∀ (Q : Nat → Prop) c k, c < P → Fam Q c k → k ≤ 10) := fun Q c k hc h => Nat.le_trans (fam_len h (m := zs.length) (by omega) (by omega)) hl10
  clear hP
  go_enter Try.func49, Try.ntmps49
  go_wp2_with (first | (go_at_call 101; refine (l8Given_any a cap zs n w (by omega) hI).mono ?_; rw [HZ.out]; rintro e w' ⟨rfl, rfl⟩) | (at_make; refine makeI w rfl _ _ rfl P _ rfl rfl (by first | rfl | omega) (by omega) ?_; intro w1 hO hG))
  have hB : Below w.heap.size w w1 := (Below.refl _ w).grown hG (Nat.le_refl _) (fun k hk => by cases hk)
  clear hG
  go_loopw [7] (fun i wr => ∃ (c : Nat) (T : List Int), c ≤ P ∧ 1 ≤ c ∧ i = .int .i64 c ∧ Hid (T.length = P) ∧ Hid (Tab0 (mulP zs n) T c) ∧ OwnI wr w.heap.size (.slice (some ⟨w.heap.size, 0, none⟩) P P) T ∧ Below w.heap.size w wr) (fun i _ => P - (intOf i).toNat)
  case atStart => exact ⟨1, _, by omega, by omega, rfl, List.length_replicate .., tab0_one _ _, hO, hB⟩
  case round =>
    obtain ⟨c, T, hc, hc1, rfl, HTl, HTab, hO, hB⟩ := hrel
    by_cases hlt : c < P
    · have HT1 := Lib.hid HTab.out.tab
      have HSS := Lib.hid (seenB_start (mulP zs n) c)
      go_wp2
      go_loopw [8] (fun i wr => ∃ (j v : Nat) (T : List Int), j ≤ zs.length ∧ i = .int .i64 j ∧ Hid (T.length = P) ∧ Hid (Tab (mulP zs n) T c v) ∧ Hid (SeenB (mulP zs n) c j v) ∧ OwnI wr w.heap.size (.slice (some ⟨w.heap.size, 0, none⟩) P P) T ∧ Below w.heap.size w wr) (fun i _ => zs.length - (intOf i).toNat)
      case atStart => exact ⟨0, 0, T, by omega, rfl, HTl, HT1, HSS, hO, hB⟩
      case round =>
        clear hO hB HTl HTab HT1 HSS
        obtain ⟨j, v, T, hj, rfl, HTl, HTab, HSeen, hO, hBr⟩ := hrel
        by_cases hjl : j < zs.length
        · have hpj := pow_bd10 j (by omega)
          have hvb := HFL.out _ _ _ hlt HSeen.out.1
          rcases hbit : c.testBit j with _ | _
          · have hb : bits .and .i64 ((c : Int) / 2 ^ j) 1 = 0 := by
              rw [bit_at c j (by omega)]
              rw [Nat.testBit_eq_decide_div_mod_eq, decide_eq_false_iff_not] at hbit
              have := Nat.mod_two_eq_zero_or_one (c / 2 ^ j)
              omega
            have HN := Lib.hid (seenB_miss HSeen.out hbit)
            clear hbit
            go_wp2
            go_roundw
            case rel => exact ⟨j + 1, v, T, by omega, by go_num, HTl, HTab, HN, hO, hBr⟩
            case measure => simp [intOf]; omega
          · have hb : bits .and .i64 ((c : Int) / 2 ^ j) 1 = 1 := by
              rw [bit_at c j (by omega)]
              rw [Nat.testBit_eq_decide_div_mod_eq, decide_eq_true_eq] at hbit
              omega
            have hsb := sub_bit hbit
            have hle := hsb.le
            have hpj2 := Nat.two_pow_pos j
            obtain ⟨d, hd⟩ : ∃ d, c - 2 ^ j = d := ⟨_, rfl⟩
            have hdc : d < c := by omega
            have han : bits .andNot .i64 (c : Int) ((2 : Int) ^ j) = (d : Int) := by
              rw [show ((2 : Int) ^ j) = ((2 ^ j : Nat) : Int) by simp, i64_andNot _ _ (by omega) (by omega), andNot_sub hsb (by omega), hd]
            obtain ⟨t, ht, hmt⟩ := HTab.out.1 d hdc
            have htb := HFL.out _ _ _ (show d < P by omega) hmt.1
            have HN : Hid (SeenB (mulP zs n) c (j + 1) (max v t)) := seenB_hit HSeen.out hbit (by rw [hd]; exact hmt)
            have HTP : Hid (∀ x : Nat, Tab (mulP zs n) (T.set c (x : Int)) c x) := fun x => HTab.out.put (by have := HTl.out; omega) x
            have HTL2 : Hid (∀ x : Int, (T.set c x).length = P) := fun x => by rw [List.length_set]; exact HTl.out
            obtain ⟨g', cp', he, _, hgl, hcell⟩ := hO.at (by have := HTl.out; omega)
            simp only [Value.slice.injEq, Option.some.injEq, Addr.mk.injEq, and_true] at he
            obtain ⟨rfl, hq1, hq2⟩ := he
            clear hq1 hq2
            have hx1 := (hcell c (by have := HTl.out; omega)).1
            have hf1 := (hcell c (by have := HTl.out; omega)).2
            have hx2 := (hcell d (by have := HTl.out; omega)).1
            rw [HTab.out.2.2] at hx1
            rw [ht] at hx2
            have HO := Lib.hid hO
            clear hcell hd ht hO hmt HSeen HTab hbit hsb hle hpj2
            by_cases hm : (v : Int) < (t : Int)
            all_goals
              go_wp2_with fail
              go_region
              go_wp2
              go_roundw
              case rel => exact ⟨j + 1, max v t, _, by omega, by go_num, HTL2.out _, HTP.out _, HN, by first | exact (HO.out.put HTl.out c _).dr 1 | (have h := (HO.out.put HTl.out c ((max v t : Nat) : Int)).dr 1; rw [show ((max v t : Nat) : Int) = (t : Int) by omega] at h ⊢; exact h) | (have h := (HO.out.put HTl.out c ((max v t : Nat) : Int)).dr 1; rw [show ((max v t : Nat) : Int) = (v : Int) by omega] at h ⊢; exact h), by exact (hBr.setCell (p := ⟨_, _, none⟩) (Nat.le_refl _) _).drew⟩
              case measure => simp [intOf]; omega
        · have hIr := hI.below hBr
          have hs := csum_bd hg c
          have hs2 := tot_bd hg
          obtain rfl : j = zs.length := by omega
          by_cases hmc : csum zs c % n = 0
          · have HC : Hid (mulP zs n c) := hmc
            have HS0 := Lib.hid (seenS_start (by have := HPF.out; omega : c < 2 ^ zs.length) HSeen.out)
            have hlt2 := pred_lt c c (by omega)
            have HS2 := Lib.hid (pred_sub c c)
            have HA : Hid (bits .and .i64 ((c : Int) - 1) (c : Int) = (((c - 1) &&& c : Nat) : Int)) := by
              show bits .and .i64 ((c : Int) - 1) (c : Int) = _
              rw [show (c : Int) - 1 = ((c - 1 : Nat) : Int) by omega, i64_and _ _ (by omega) (by omega)]
            go_wp2_with (go_at_call 105; with_reducible refine (l1Sum_any c a cap zs _ (by omega) (by omega) hg hIr).mono ?_; rintro e w' ⟨rfl, m1, rfl⟩)
            rw [HA.out]
            have hO1 := hO.dr m1
            have hB1 := belowDr hBr m1
            generalize wr.drewN m1 = w2 at hO1 hB1 ⊢
            clear hO hBr hIr HSeen HA hmc
            generalize (c - 1) &&& c = p0 at *
            go_loopw [9] (fun i wr => ∃ (p v : Nat) (T : List Int), p < c ∧ i = .int .i64 p ∧ Hid (T.length = P) ∧ Hid (Tab (mulP zs n) T c v) ∧ Hid (Sub p c) ∧ Hid (SeenS (mulP zs n) c p v) ∧ OwnI wr w.heap.size (.slice (some ⟨w.heap.size, 0, none⟩) P P) T ∧ Below w.heap.size w wr) (fun i _ => (intOf i).toNat)
            case atStart => exact ⟨p0, v, T, by omega, rfl, HTl, HTab, HS2, HS0, hO1, hB1⟩
            case round =>
              clear hO1 hB1 HTl HTab HS2 HS0 hlt2
              obtain ⟨p, v, T, hp, rfl, HTl, HTab, HSub, HSeen, hO, hBr⟩ := hrel
              have hIr := hI.below hBr
              have hs := csum_bd hg p
              have hvb := HFL.out _ _ _ hlt HSeen.out.1
              have HS2 := Lib.hid (pred_sub p c)
              by_cases hmp : csum zs p % n = 0
              · obtain ⟨t, ht, hmt⟩ := HTab.out.1 p hp
                have htb := HFL.out _ _ _ (show p < P by omega) hmt.1
                have HTP : Hid (∀ x : Nat, Tab (mulP zs n) (T.set c (x : Int)) c x) := fun x => HTab.out.put (by have := HTl.out; omega) x
                have HTL2 : Hid (∀ x : Int, (T.set c x).length = P) := fun x => by rw [List.length_set]; exact HTl.out
                obtain ⟨g', cp', he, _, hgl, hcell⟩ := hO.at (by have := HTl.out; omega)
                simp only [Value.slice.injEq, Option.some.injEq, Addr.mk.injEq, and_true] at he
                obtain ⟨rfl, hq1, hq2⟩ := he
                clear hq1 hq2
                have hx1 := (hcell c (by have := HTl.out; omega)).1
                have hf1 := (hcell c (by have := HTl.out; omega)).2
                have hx2 := (hcell p (by have := HTl.out; omega)).1
                rw [HTab.out.2.2] at hx1
                rw [ht] at hx2
                have HO := Lib.hid hO
                have HMP := Lib.hid hmp
                have HMT := Lib.hid hmt
                clear hcell ht hO hmt HTab
                by_cases hp0 : p ≤ 0
                · have HN : Hid (Tab0 (mulP zs n) (T.set c ((max v (t + 1) : Nat) : Int)) (c + 1)) := (HTP.out (max v (t + 1))).next (by
                    obtain rfl : p = 0 := by omega
                    exact seenS_end mulP_add mulP_sub (mulP_zero _ _) HSeen.out HC.out (by omega) HMT.out)
                  by_cases hm : (v : Int) < (t : Int) + 1
                  all_goals
                    go_wp2_with (go_at_call 105; with_reducible refine (l1Sum_any p a cap zs _ (by omega) (by omega) hg hIr).mono ?_; rintro e w' ⟨rfl, m2, rfl⟩)
                    go_region
                    go_wp2
                    go_roundw
                    case rel => exact ⟨c + 1, _, by omega, by omega, by go_num, HTL2.out _, HN, by first | exact ((HO.out.dr m2).put HTl.out c _).dr 1 | (have h := ((HO.out.dr m2).put HTl.out c ((max v (t + 1) : Nat) : Int)).dr 1; rw [show ((max v (t + 1) : Nat) : Int) = (t : Int) + 1 by omega] at h ⊢; exact h) | (have h := ((HO.out.dr m2).put HTl.out c ((max v (t + 1) : Nat) : Int)).dr 1; rw [show ((max v (t + 1) : Nat) : Int) = (v : Int) by omega] at h ⊢; exact h), by exact ((belowDr hBr m2).setCell (p := ⟨_, _, none⟩) (Nat.le_refl _) _).drew⟩
                    case measure => simp [intOf]; omega
                · have HN := Lib.hid (seenS_hit mulP_sub HSeen.out HC.out HSub.out (by omega) HMP.out HMT.out)
                  have hlt2 := pred_lt p c (by omega)
                  have HA : Hid (bits .and .i64 ((p : Int) - 1) (c : Int) = (((p - 1) &&& c : Nat) : Int)) := by
                    show bits .and .i64 ((p : Int) - 1) (c : Int) = _
                    rw [show (p : Int) - 1 = ((p - 1 : Nat) : Int) by omega, i64_and _ _ (by omega) (by omega)]
                  by_cases hm : (v : Int) < (t : Int) + 1
                  all_goals
                    go_wp2_with (go_at_call 105; with_reducible refine (l1Sum_any p a cap zs _ (by omega) (by omega) hg hIr).mono ?_; rintro e w' ⟨rfl, m2, rfl⟩)
                    go_region
                    go_wp2
                    go_roundw
                    case rel => exact ⟨(p - 1) &&& c, max v (t + 1), _, by omega, by rw [HA.out], HTL2.out _, HTP.out _, HS2, HN, by first | exact ((HO.out.dr m2).put HTl.out c _).dr 1 | (have h := ((HO.out.dr m2).put HTl.out c ((max v (t + 1) : Nat) : Int)).dr 1; rw [show ((max v (t + 1) : Nat) : Int) = (t : Int) + 1 by omega] at h ⊢; exact h) | (have h := ((HO.out.dr m2).put HTl.out c ((max v (t + 1) : Nat) : Int)).dr 1; rw [show ((max v (t + 1) : Nat) : Int) = (v : Int) by omega] at h ⊢; exact h), by exact ((belowDr hBr m2).setCell (p := ⟨_, _, none⟩) (Nat.le_refl _) _).drew⟩
                    case measure => rw [HA.out]; simp [intOf]; omega
              · have hp0 : ¬ p ≤ 0 := fun h => by
                  obtain rfl : p = 0 := by omega
                  exact hmp (mulP_zero zs n)
                have HN := Lib.hid (seenS_miss HSeen.out HSub.out hmp)
                have hlt2 := pred_lt p c (by omega)
                have HA : Hid (bits .and .i64 ((p : Int) - 1) (c : Int) = (((p - 1) &&& c : Nat) : Int)) := by
                  show bits .and .i64 ((p : Int) - 1) (c : Int) = _
                  rw [show (p : Int) - 1 = ((p - 1 : Nat) : Int) by omega, i64_and _ _ (by omega) (by omega)]
                go_wp2_with (go_at_call 105; with_reducible refine (l1Sum_any p a cap zs _ (by omega) (by omega) hg hIr).mono ?_; rintro e w' ⟨rfl, m2, rfl⟩)
                go_roundw
                case rel => exact ⟨(p - 1) &&& c, v, T, by omega, by rw [HA.out], HTl, HTab, HS2, HN, hO.dr m2, belowDr hBr m2⟩
                case measure => rw [HA.out]; simp [intOf]; omega
          · have HE : Hid (Tab0 (mulP zs n) T (c + 1)) := HTab.out.next (seenB_end mulP_add (mulP_zero _ _) (by have := HPF.out; omega) HSeen.out hmc)
            go_wp2_with (go_at_call 105; with_reducible refine (l1Sum_any c a cap zs _ (by omega) (by omega) hg hIr).mono ?_; rintro e w' ⟨rfl, m1, rfl⟩)
            go_roundw
            case rel => exact ⟨c + 1, T, by omega, by omega, by go_num, HTl, HE, hO.dr m1, belowDr hBr m1⟩
            case measure => simp [intOf]; omega
    · obtain rfl : P = c := by omega
      obtain ⟨k, hk, hmost⟩ := HTab.out.1 (P - 1) (by omega)
      have HF : Hid (PartsR zs n k true) := .inl ⟨rfl, HZ.out, k, rfl, by rw [HPF.out]; exact hmost⟩
      obtain ⟨g', cp', he, _, hgl, hcell⟩ := hO.at (by have := HTl.out; omega)
      simp only [Value.slice.injEq, Option.some.injEq, Addr.mk.injEq, and_true] at he
      obtain ⟨rfl, hq1, hq2⟩ := he
      clear hq1 hq2
      have hx1 := (hcell (P - 1) (by have := HTl.out; omega)).1
      rw [hk] at hx1
      have hx2 : wr.cell? ⟨w.heap.size, ((P : Int) - 1).toNat, none⟩ = some (.int .i64 k) := by rw [show ((P : Int) - 1).toNat = P - 1 by omega]; exact hx1
      clear hcell hk hmost
      go_wp2
      go_ret2
      exact ⟨k, true, rfl, HF.out, hB⟩
end Go.Proofs.Ytbpkffpejmlonaa
