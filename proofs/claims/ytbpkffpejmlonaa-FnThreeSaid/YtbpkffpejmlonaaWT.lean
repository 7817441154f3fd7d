/- HalfThree of the reference. Conditions: the list is short enough to be counted. -/
import Derived.Test.YtbpkffpejmlonaaW17
import Derived.Test.YtbpkffpejmlonaaMT
import Derived.Test.YtbpkffpejmlonaaMX
namespace Go.Proofs.Ytbpkffpejmlonaa
open Go.RowKit
attribute [local go_sem] run_max3

set_option maxHeartbeats 4000000 in
theorem sHalfThree_any (a : Option Addr) (cap : Nat) (zs : List Int) (w : World) (hl : zs.length ≤ 4294967296) (hI : IntsAt w a zs) :
    Calls Try.prog 67 #[.slice a zs.length cap] w (BestPostD w (t3R zs) (inL zs)) := by
  by_cases hz : inL zs = true
  case neg =>
    have hz' : inL zs = false := by simpa using hz
    rw [t3R, if_neg hz, hz']
    have HZ := Lib.hid hz'
    clear hz hz'
    go_enter Try.func67, Try.ntmps67
    go_wp2_with (go_at_call 32; refine (sSumIn_any a cap zs w hl hI).mono ?_; rw [HZ.out]; rintro e w' ⟨rfl, rfl⟩)
    go_ret2
    exact ⟨rfl, 0, rfl⟩
  rw [t3R, if_pos hz, hz]
  have hzl := (inL_iff zs).1 hz
  have hl10 := hzl.1
  have hg := hzl.2
  have HZ := Lib.hid hz
  have htb := tot_bd hg
  have hpw := pow_bd10 zs.length hl10
  have hpp : ((2 ^ zs.length : Nat) : Int) = 2 ^ zs.length := by simp
  clear hz hzl
  have HST := Lib.hid (thOut_start hg)
  have HEND : Hid (∀ (c : Nat) (b : Int), (c : Int) = 2 ^ zs.length → ThOut zs c b → b = t3 zs) := fun c b hc h => by
    have e : c = 2 ^ zs.length := by exact_mod_cast hc
    subst e; exact thOut_t3 hg h
  have HLT : Hid (∀ c : Nat, (c : Int) < 2 ^ zs.length → c < 2 ^ zs.length) := fun c h => by exact_mod_cast h
  have HAN : Hid (∀ c : Nat, (c : Int) < 2 ^ zs.length → bits .andNot .i64 ((2 : Int) ^ zs.length - 1) (c : Int) = ((2 ^ zs.length - 1 - c : Nat) : Int)) := fun c h => by
    have hc : c < 2 ^ zs.length := by exact_mod_cast h
    have hP : 2 ^ zs.length ≤ 1024 := by omega
    have e : ((2 : Int) ^ zs.length - 1) = ((2 ^ zs.length - 1 : Nat) : Int) := by omega
    rw [e, i64_andNot _ _ (by omega) (by omega), andNot_sub (sub_full hc) (by omega)]
  have HRB : Hid (∀ c : Nat, 2 ^ zs.length - 1 - c ≤ 1023) := fun c => by omega
  clear hpp
  go_enter Try.func67, Try.ntmps67
  go_wp2_with (first | (go_at_call 32; refine (sSumIn_any a cap zs w hl hI).mono ?_; rw [HZ.out]; rintro e w' ⟨rfl, rfl⟩) | (go_at_call 104; refine (l1All_any a zs.length cap _ (by omega)).mono ?_; rintro e w' ⟨rfl, rfl⟩) | (go_at_call 105; with_reducible refine (l1SumAll_any a cap zs _ hl10 hg hI).mono ?_; rintro e w' ⟨rfl, m1, rfl⟩))
  go_loopw [6, 7] (fun v i wr => ∃ (c m : Nat) (b : Int), (c : Int) ≤ 2 ^ zs.length ∧ i = .int .i64 c ∧ v = .int .i64 b ∧ Hid (ThOut zs c b) ∧ (0 ≤ b ∧ b ≤ 600) ∧ wr = w.drewN m) (fun _ i _ => 1024 - (intOf i).toNat)
  case atStart => exact ⟨0, _, _, by omega, rfl, rfl, HST, by omega, rfl⟩
  case round =>
    obtain ⟨c, m, b, hc, rfl, rfl, HO, hb, rfl⟩ := hrel
    clear HST
    by_cases hlt : (c : Int) < 2 ^ zs.length
    · have hx := csum_bd hg c
      have HC := Lib.hid (HLT.out c hlt)
      by_cases hbx : b ≤ csum zs c
      · have HO2 := Lib.hid (thOut_skip HO.out hbx)
        go_wp2_with (first | (go_at_call 105; with_reducible refine (l1Sum_any c a cap zs _ (by omega) (by omega) hg (hI.dr _)).mono ?_; rintro e w' ⟨rfl, m1, rfl⟩))
        go_roundw
        case rel => exact ⟨c + 1, _, b, by omega, by go_num, rfl, HO2, hb, rfl⟩
        case measure => simp [intOf]; omega
      · have HS0 := Lib.hid (thSeen_start HO.out)
        have HR := Lib.hid (HAN.out c hlt)
        go_wp2_with (first | (go_at_call 105; with_reducible refine (l1Sum_any c a cap zs _ (by omega) (by omega) hg (hI.dr _)).mono ?_; rintro e w' ⟨rfl, m1, rfl⟩))
        rw [HR.out]
        obtain ⟨R, hRR⟩ : ∃ R : Nat, 2 ^ zs.length - 1 - c = R := ⟨_, rfl⟩
        have hR := HRB.out c
        have HRe := Lib.hid hRR
        rw [hRR] at hR HS0 ⊢
        clear hRR HO HR
        go_loopw [6, 10] (fun v i wr => ∃ (p m : Nat) (b : Int), p ≤ 1023 ∧ i = .int .i64 p ∧ v = .int .i64 b ∧ Hid (Sub p R) ∧ Hid (ThSeen zs c p b) ∧ (0 ≤ b ∧ b ≤ 600) ∧ wr = w.drewN m) (fun _ i _ => (intOf i).toNat)
        case atStart => exact ⟨R, _, b, hR, rfl, rfl, Sub.refl _, HS0, hb, rfl⟩
        case round =>
          obtain ⟨p, m2, b2, hp, rfl, rfl, HSub, HSn, hb2, rfl⟩ := hrel
          clear HS0 hbx hb
          have hy := csum_bd hg p
          have HM : Hid (0 ≤ m3 zs c p ∧ m3 zs c p ≤ tot zs) := m3_bd hg HC.out (by rw [HRe.out]; exact HSub.out)
          have HM3 : Hid (mx3 (csum zs c) (csum zs p) (tot zs - csum zs c - csum zs p) = m3 zs c p) := rfl
          by_cases hp0 : p ≤ 0
          · have HE : Hid (ThOut zs (c + 1) (min b2 (m3 zs c p))) := by
              have e : p = 0 := by omega
              subst e
              exact thSeen_end HSn.out HC.out
            go_wp2_with (first | (go_at_call 105; with_reducible refine (l1Sum_any p a cap zs _ (by omega) (by omega) hg (hI.dr _)).mono ?_; rintro e w' ⟨rfl, m1, rfl⟩))
            simp only [HM3.out]
            have hmb := HM.out
            generalize m3 zs c p = M at *
            go_wp2
            all_goals
              go_roundw
              case rel => exact ⟨c + 1, _, min b2 M, by omega, by go_num, congrArg (Value.int .i64) (by (repeat' split) <;> omega), HE, by omega, rfl⟩
              case measure => simp [intOf]; omega
          · have HNx := Lib.hid (thSeen_next HSn.out HC.out (by rw [HRe.out]; exact HSub.out))
            have HA : Hid (bits .and .i64 ((p : Int) - 1) (R : Int) = (((p - 1) &&& R : Nat) : Int)) := by
              show bits .and .i64 ((p : Int) - 1) (R : Int) = _
              rw [show (p : Int) - 1 = ((p - 1 : Nat) : Int) by omega, i64_and _ _ (by omega) (by omega)]
            have hlt2 := pred_lt p R (by omega)
            have HS2 := Lib.hid (pred_sub p R)
            rw [HRe.out] at HNx
            go_wp2_with (first | (go_at_call 105; with_reducible refine (l1Sum_any p a cap zs _ (by omega) (by omega) hg (hI.dr _)).mono ?_; rintro e w' ⟨rfl, m1, rfl⟩))
            simp only [HM3.out]
            have hmb := HM.out
            generalize m3 zs c p = M at *
            go_wp2
            all_goals
              go_roundw
              case rel => exact ⟨(p - 1) &&& R, _, min b2 M, by omega, by rw [HA.out], congrArg (Value.int .i64) (by (repeat' split) <;> omega), HS2, HNx, by omega, rfl⟩
              case measure => rw [HA.out]; simp [intOf]; omega
    · have HF := Lib.hid (HEND.out c b (by omega) HO.out)
      have hnl : ¬ (c : Int) ≤ 2 ^ zs.length - 1 := by omega
      clear HO
      go_wp2
      go_ret2
      exact ⟨by rw [← HF.out]; rfl, _, rfl⟩
end Go.Proofs.Ytbpkffpejmlonaa
