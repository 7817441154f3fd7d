/- greatest of the laws; rests and the first choice with the least one of the reference. Conditions: stated in each. -/
import Derived.Test.YtdpapalfafjncaaGreatDoorM17
import Derived.Test.YtdpapalfafjncaaGreatDoorW16
namespace Go.Proofs.YtdpapalfafjncaaGreatDoor
open Go.RowKit

theorem l1SumAll_any (a : Option Addr) (cap : Nat) (zs : List Int) (w : World) (hl : zs.length ≤ 10) (hg : good zs) (hI : IntsAt w a zs) :
    Calls Tryz.prog 50 #[.slice a zs.length cap, .int .i64 (2 ^ zs.length - 1)] w fun e w' => e = .returned (.int .i64 (tot zs)) ∧ ∃ n, w' = w.drewN n := by
  have hp := pow_bd10 zs.length hl
  have e : ((2 : Int) ^ zs.length - 1) = ((2 ^ zs.length - 1 : Nat) : Int) := by
    have : ((2 ^ zs.length : Nat) : Int) = 2 ^ zs.length := by simp
    omega
  have hc : 2 ^ zs.length - 1 < 1048576 := by
    have : ((2 ^ zs.length : Nat) : Int) = 2 ^ zs.length := by simp
    omega
  rw [e, ← csum_full]
  exact l1Sum_any _ a cap zs w hc (by omega) hg hI

set_option maxHeartbeats 400000 in
theorem l2Rest_any (c : Nat) (a : Option Addr) (cap : Nat) (zs : List Int) (w : World) (hc : c < 1048576) (hl : zs.length ≤ 10) (hg : good zs) (hI : IntsAt w a zs) :
    Calls Tryz.prog 38 #[.slice a zs.length cap, .int .i64 c] w fun e w' => e = .returned (.int .i64 (restOf zs c)) ∧ ∃ n, w' = w.drewN n := by
  have h1 := csum_bd hg c
  have h2 := tot_bd hg
  go_enter Tryz.func38, Tryz.ntmps38
  go_wp2_with (first | (go_at_call 37; refine (l1All_any a zs.length cap _ (by omega)).mono ?_; rintro e w' ⟨rfl, rfl⟩) | (go_at_call 50; with_reducible refine (l1SumAll_any a cap zs _ hl hg (by first | exact hI | exact hI.dr _)).mono ?_; rintro e w' ⟨rfl, m1, rfl⟩) | (go_at_call 50; with_reducible refine (l1Sum_any c a cap zs _ hc (by omega) hg (by first | exact hI | exact hI.dr _)).mono ?_; rintro e w' ⟨rfl, m2, rfl⟩))
  all_goals
    go_ret
    exact ⟨ret_int (by unfold restOf sz; omega), _, rfl⟩

theorem l2RestI_any (c : Nat) (i : Int) (hi : i = c) (a : Option Addr) (cap : Nat) (zs : List Int) (w : World) (hc : c < 1048576) (hl : zs.length ≤ 10) (hg : good zs) (hI : IntsAt w a zs) :
    Calls Tryz.prog 38 #[.slice a zs.length cap, .int .i64 i] w fun e w' => e = .returned (.int .i64 (restOf zs c)) ∧ ∃ n, w' = w.drewN n := by
  subst hi; exact l2Rest_any c a cap zs w hc hl hg hI

set_option maxHeartbeats 1600000 in
theorem l2Best_any (a : Option Addr) (cap : Nat) (zs : List Int) (w : World) (hl : zs.length ≤ 10) (hg : good zs) (hI : IntsAt w a zs) :
    Calls Tryz.prog 21 #[.slice a zs.length cap] w fun e w' => e = .returned (.tuple #[.int .i64 (lc zs), .int .i64 (lr zs)]) ∧ ∃ n, w' = w.drewN n := by
  have hp := pow_bd10 zs.length hl
  have hpp : ((2 ^ zs.length : Nat) : Int) = 2 ^ zs.length := by simp
  obtain ⟨P, hP⟩ : ∃ P : Nat, 2 ^ zs.length = P := ⟨_, rfl⟩
  rw [hP] at hpp
  have hPb : 1 ≤ P ∧ P ≤ 1024 := by omega
  have HLC : Hid (leastUp zs (P - 1) = lc zs) := by rw [lc, hP]; exact rfl
  have HLR := Lib.hid (lc_rest hg)
  clear hP
  go_enter Tryz.func21, Tryz.ntmps21
  go_wp2
  go_loopw [4, 5] (fun b i wr => ∃ k m : Nat, k + 1 ≤ P ∧ i = .int .i64 ((k : Int) + 1) ∧ b = .int .i64 (leastUp zs k) ∧ wr = w.drewN m) (fun _ i _ => P - (intOf i).toNat)
  case atStart => exact ⟨0, 0, by omega, rfl, rfl, rfl⟩
  case round =>
    obtain ⟨k, m, hk, rfl, rfl, rfl⟩ := hrel
    have hb := leastUp_le zs k
    have HU : Hid (leastUp zs (k + 1) = if restOf zs (k + 1) < restOf zs (leastUp zs k) then k + 1 else leastUp zs k) := rfl
    have HK : Hid (k + 1 = P → leastUp zs k = lc zs) := fun h => by rw [← HLC.out]; congr 1; omega
    generalize leastUp zs k = b at hb HU HK
    have hr1 := restOf_bd hg (k + 1)
    have hr2 := restOf_bd hg b
    have ht := tot_bd hg
    by_cases hlt : (k : Int) + 1 < 2 ^ zs.length
    · go_wp2_with (first | (go_at_call 37; refine (l1All_any a zs.length cap _ (by omega)).mono ?_; rintro e w' ⟨rfl, rfl⟩) | (go_at_call 38; with_reducible refine (l2RestI_any (k + 1) ((k : Int) + 1) (by omega) a cap zs _ (by omega) hl hg (hI.dr _)).mono ?_; rintro e w' ⟨rfl, m1, rfl⟩) | (go_at_call 38; with_reducible refine (l2RestI_any b (b : Int) rfl a cap zs _ (by omega) hl hg (hI.dr _)).mono ?_; rintro e w' ⟨rfl, m1, rfl⟩))
      all_goals
        go_roundw
        case rel => exact ⟨k + 1, _, by omega, by go_num, by rw [HU.out]; split <;> first | rfl | (exfalso; omega), rfl⟩
        case measure => simp [intOf]; omega
    · obtain rfl : b = lc zs := HK.out (by omega)
      have hnl : ¬ (k : Int) + 1 ≤ 2 ^ zs.length - 1 := by omega
      go_wp2_with (first | (go_at_call 37; refine (l1All_any a zs.length cap _ (by omega)).mono ?_; rintro e w' ⟨rfl, rfl⟩) | (go_at_call 38; with_reducible refine (l2RestI_any (lc zs) (lc zs : Int) rfl a cap zs _ (by omega) hl hg (hI.dr _)).mono ?_; rintro e w' ⟨rfl, m1, rfl⟩))
      go_ret2
      exact ⟨by rw [HLR.out]; rfl, _, rfl⟩

def BestPostD (w : World) (r : Int) (ok : Bool) (e : Ending) (w' : World) : Prop := e = .returned (.tuple #[.int .i64 r, .bool ok]) ∧ ∃ n, w' = w.drewN n
def lrR (zs : List Int) : Int := if inL zs = true then lr zs else 0
def lcR (zs : List Int) : Int := if inL zs = true then (lc zs : Int) else 0

theorem sHalfBest_any (a : Option Addr) (cap : Nat) (zs : List Int) (w : World) (hl : zs.length ≤ 4294967296) (hI : IntsAt w a zs) :
    Calls Tryz.prog 7 #[.slice a zs.length cap] w (BestPostD w (lrR zs) (inL zs)) := by
  by_cases hz : inL zs = true
  case neg =>
    have hz' : inL zs = false := by simpa using hz
    rw [lrR, if_neg hz, hz']
    have HZ := Lib.hid hz'
    clear hz hz'
    go_enter Tryz.func7, Tryz.ntmps7
    go_wp2_with (go_at_call 20; refine (sSumIn_any a cap zs w hl hI).mono ?_; rw [HZ.out]; rintro e w' ⟨rfl, rfl⟩)
    go_ret2
    exact ⟨rfl, 0, rfl⟩
  rw [lrR, if_pos hz, hz]
  have hzl := (inL_iff zs).1 hz
  have HZ := Lib.hid hz
  clear hz
  go_enter Tryz.func7, Tryz.ntmps7
  go_wp2_with (first | (go_at_call 20; refine (sSumIn_any a cap zs w hl hI).mono ?_; rw [HZ.out]; rintro e w' ⟨rfl, rfl⟩) | (go_at_call 21; refine (l2Best_any a cap zs w hzl.1 hzl.2 hI).mono ?_; rintro e w' ⟨rfl, m1, rfl⟩))
  go_ret2
  exact ⟨rfl, _, rfl⟩

end Go.Proofs.YtdpapalfafjncaaGreatDoor
