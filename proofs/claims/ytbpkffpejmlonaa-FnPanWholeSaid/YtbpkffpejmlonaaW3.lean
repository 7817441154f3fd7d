/- Chapter 8 of the reference: what is told, sizes, searches. Conditions: stated in each. -/
import Derived.Test.YtbpkffpejmlonaaW1
import Derived.Test.YtbpkffpejmlonaaM8
namespace Go.Proofs.Ytbpkffpejmlonaa
open Go.RowKit

theorem restsTold_any (a : Option Addr) (cap : Nat) (zs : List Int) (n : Int) (w : World) (hl : zs.length ≤ 4294967296) (hI : IntsAt w a zs) :
    Calls Try.prog 103 #[.slice a zs.length cap, .int .i64 n] w fun e w' => e = .returned (.bool (restOk zs n)) ∧ w = w' := by
  by_cases hz : inL zs = true
  case neg =>
    have hz' : inL zs = false := by simpa using hz
    have e : restOk zs n = false := by simp [restOk, hz']
    rw [e]
    have HZ := Lib.hid hz'
    clear hz hz' e
    go_enter Try.func103, Try.ntmps103
    go_wp2_with (go_at_call 31; refine (SumIn_any a cap zs w (by omega) hI).mono ?_; rw [HZ.out]; rintro e w' ⟨rfl, rfl⟩)
    go_ret
    exact ⟨rfl, rfl⟩
  have e : restOk zs n = (decide (1 ≤ n) && decide (n ≤ 6)) := by simp [restOk, hz]
  rw [e]
  have HZ := Lib.hid hz
  clear hz e
  by_cases h1 : 1 ≤ n
  all_goals
    go_enter Try.func103, Try.ntmps103
    go_wp2_with (go_at_call 31; refine (SumIn_any a cap zs w (by omega) hI).mono ?_; rw [HZ.out]; rintro e w' ⟨rfl, rfl⟩)
    go_ret
    exact ⟨ret_bool (by rw [Bool.eq_iff_iff]; simp; omega), rfl⟩

theorem l8Given_any (a : Option Addr) (cap : Nat) (zs : List Int) (n : Int) (w : World) (hl : zs.length ≤ 4294967296) (hI : IntsAt w a zs) :
    Calls Try.prog 101 #[.slice a zs.length cap, .int .i64 n] w fun e w' => e = .returned (.bool (restOk zs n)) ∧ w = w' := by
  by_cases hz : inL zs = true
  case neg =>
    have hz' : inL zs = false := by simpa using hz
    have e : restOk zs n = false := by simp [restOk, hz']
    rw [e]
    have HZ := Lib.hid hz'
    clear hz hz' e
    go_enter Try.func101, Try.ntmps101
    go_wp2_with (go_at_call 32; refine (sSumIn_any a cap zs w (by omega) hI).mono ?_; rw [HZ.out]; rintro e w' ⟨rfl, rfl⟩)
    go_ret
    exact ⟨rfl, rfl⟩
  have e : restOk zs n = (decide (1 ≤ n) && decide (n ≤ 6)) := by simp [restOk, hz]
  rw [e]
  have HZ := Lib.hid hz
  clear hz e
  go_enter Try.func101, Try.ntmps101
  go_wp2_with (first | (go_at_call 32; refine (sSumIn_any a cap zs w (by omega) hI).mono ?_; rw [HZ.out]; rintro e w' ⟨rfl, rfl⟩) | (go_at_call 98; refine (l6In_any n 1 6 w).mono ?_; rintro e w' ⟨rfl, rfl⟩))
  go_ret
  exact ⟨rfl, rfl⟩

theorem l8Size_any (c : Nat) (w : World) (hc : c < 1048576) :
    Calls Try.prog 126 #[.int .i64 c] w fun e w' => e = .returned (.int .i64 (popc c)) ∧ w = w' := by
  go_enter Try.func126, Try.ntmps126
  go_wp2
  go_loop [0, 3] (fun s n => ∃ (d f : Nat) (t : Int), s = .int .i64 d ∧ d < 2 ^ f ∧ f ≤ 20 ∧ n = .int .i64 t ∧ 0 ≤ t ∧ t + popN f d = popc c) (fun s _ => (intOf s).toNat)
  case atStart => exact ⟨c, 20, 0, rfl, hc, by omega, rfl, by omega, by rw [popc]; omega⟩
  case round =>
    obtain ⟨d, f, t, rfl, hd, hf, rfl, ht, hle⟩ := hrel
    have hb := popN_le 20 c
    have hc20 : popc c ≤ 20 := hb
    by_cases h0 : 0 < d
    · obtain ⟨g, rfl⟩ : ∃ g, f = g + 1 := by
        cases f with
        | zero => simp at hd; omega
        | succ g => exact ⟨g, rfl⟩
      have hp : 2 ^ (g + 1) ≤ 2 ^ 20 := Nat.pow_le_pow_right (by omega) hf
      have hd2 : d < 1048576 := by omega
      have ht20 : t ≤ 20 := by omega
      have HE : Hid (popN (g + 1) d = d % 2 + popN g (d / 2)) := rfl
      have HL := Lib.hid hle
      have HD := Lib.hid hd
      have HB := Lib.hid (i64_and1 d (by omega))
      have hbb : 0 ≤ bits .and .i64 (d : Int) 1 ∧ bits .and .i64 (d : Int) 1 ≤ 1 := by rw [HB.out]; omega
      clear hd hle hp hb
      go_wp2
      go_round
      case rel =>
        have h1 := HE.out
        have h2 := HL.out
        have h3 := HD.out
        have h4 := HB.out
        rw [Nat.pow_succ] at h3
        exact ⟨d / 2, g, _, by simp, by omega, by omega, rfl, by omega, by omega⟩
      case measure => simp [intOf]; omega
    · obtain rfl : d = 0 := by omega
      rw [popN_zero] at hle
      have HL := Lib.hid hle
      clear hle
      go_wp2
      go_ret
      exact ⟨ret_int (by have := HL.out; omega), rfl⟩

set_option maxHeartbeats 1600000 in
theorem l8Find_any (a : Option Addr) (cap : Nat) (zs : List Int) (n k : Int) (w : World) (hz : inL zs = true) (hn : 1 ≤ n ∧ n ≤ 6) (hI : IntsAt w a zs) :
    Calls Try.prog 102 #[.slice a zs.length cap, .int .i64 n, .int .i64 k] w fun e w' => (∃ r, e = .returned (.int .i64 r) ∧ FirstN (l8P zs n k) (2 ^ zs.length) r) ∧ ∃ m, w' = w.drewN m := by
  have hz' := (inL_iff zs).1 hz
  have hp := pow_bd zs.length (by omega)
  go_enter Try.func102, Try.ntmps102
  go_wp2
  go_loopw [7] (fun i wr => ∃ c m : Nat, c ≤ 2 ^ zs.length ∧ i = .int .i64 c ∧ (∀ d, d < c → l8P zs n k d = false) ∧ wr = w.drewN m) (fun i _ => 2 ^ zs.length - (intOf i).toNat)
  case atStart => exact ⟨0, 0, Nat.zero_le _, rfl, by simp, rfl⟩
  case round =>
    obtain ⟨c, m, hc, rfl, hno, rfl⟩ := hrel
    have hc2 : (c : Int) ≤ 2 ^ zs.length := by exact_mod_cast hc
    have HN := Lib.hid hno
    have HC := Lib.hid hc
    clear hno hc
    by_cases hlt : (c : Int) < 2 ^ zs.length
    · have hlt' : c < 2 ^ zs.length := by exact_mod_cast hlt
      have HT := Lib.hid hlt'
      clear hlt'
      have hs := csum_bd hz'.2 c
      have hs2 := tot_bd hz'.2
      have hs3 := Int.emod_nonneg (csum zs c) (show n ≠ 0 by omega)
      have HP : Hid (∀ b, (csum zs c % n == 0 && (decide (k < 0) && decide (0 < c) || decide (0 ≤ k) && (popc c : Int) == k)) = b → l8P zs n k c = b) := fun b h => h
      go_wp2_with (first | (go_at_call 104; refine (l1All_any a zs.length cap _ (by omega)).mono ?_; rintro e w' ⟨rfl, rfl⟩) | (go_at_call 105; refine (l1Sum_any c a cap zs _ (by omega) (by omega) hz'.2 (hI.dr _)).mono ?_; rintro e w' ⟨rfl, m', rfl⟩) | (go_at_call 126; refine (l8Size_any c _ (by omega)).mono ?_; rintro e w' ⟨rfl, rfl⟩))
      · have h0 : c = 0 := by assumption
        subst h0
        go_roundw
        case rel => exact ⟨1, _, by have := HT.out; omega, rfl, none_succ HN.out ((l8P_not _ _ _ _).2 (by omega)), rfl⟩
        case measure => have := HT.out; simp [intOf]; omega
      · have h1 : csum zs c % n = 0 := by assumption
        have h2 : ¬ c = 0 := by assumption
        go_ret
        exact ⟨⟨_, rfl, .inl ⟨c, rfl, HT.out, (l8P_of _ _ _ _).2 ⟨h1, .inl ⟨by omega, by omega⟩⟩, HN.out⟩⟩, _, rfl⟩
      · have h1 : csum zs c % n = 0 := by assumption
        have h2 : ((popc c : Int) == k) = true := by assumption
        go_ret
        exact ⟨⟨_, rfl, .inl ⟨c, rfl, HT.out, (l8P_of _ _ _ _).2 ⟨h1, .inr ⟨by omega, by simpa using h2⟩⟩, HN.out⟩⟩, _, rfl⟩
      · have h2 : ((popc c : Int) == k) = false := by assumption
        have h3 : (popc c : Int) ≠ k := by simpa using h2
        go_roundw
        case rel => exact ⟨c + 1, _, HT.out, by go_num, none_succ HN.out ((l8P_not _ _ _ _).2 (by omega)), rfl⟩
        case measure => have := HT.out; simp [intOf]; omega
      · have h1 : ¬ csum zs c % n = 0 := by assumption
        go_roundw
        case rel => exact ⟨c + 1, _, HT.out, by go_num, none_succ HN.out ((l8P_not _ _ _ _).2 (fun h => h1 h.1)), rfl⟩
        case measure => have := HT.out; simp [intOf]; omega
    · have hcc : (c : Int) = 2 ^ zs.length := by omega
      have hcc' : c = 2 ^ zs.length := by exact_mod_cast hcc
      have HCC := Lib.hid hcc'
      clear hcc hcc'
      go_wp2_with (go_at_call 104; refine (l1All_any a zs.length cap _ (by omega)).mono ?_; rintro e w' ⟨rfl, rfl⟩)
      go_ret
      exact ⟨⟨_, rfl, .inr ⟨rfl, by rw [← HCC.out]; exact HN.out⟩⟩, _, rfl⟩

def FoundPostD (w : World) (p : Nat → Bool) (m : Nat) (e : Ending) (w' : World) : Prop := ∃ r ok, e = .returned (.tuple #[.int .i64 r, .bool ok]) ∧ FirstIs p m r ok ∧ ∃ n, w' = w.drewN n

set_option maxHeartbeats 800000 in
theorem sRestFind_any (a : Option Addr) (cap : Nat) (zs : List Int) (n : Int) (w : World) (hl : zs.length ≤ 4294967296) (hI : IntsAt w a zs) :
    Calls Try.prog 36 #[.slice a zs.length cap, .int .i64 n] w (FoundPostD w (findP zs n) (2 ^ zs.length)) := by
  by_cases hz : restOk zs n = true
  case neg =>
    have hz' : restOk zs n = false := by simpa using hz
    have HZ := Lib.hid hz'
    clear hz hz'
    go_enter Try.func36, Try.ntmps36
    go_wp2_with (go_at_call 101; refine (l8Given_any a cap zs n w (by omega) hI).mono ?_; rw [HZ.out]; rintro e w' ⟨rfl, rfl⟩)
    go_ret2
    exact ⟨_, _, rfl, find_no HZ.out _, 0, rfl⟩
  have hz' := (restOk_iff zs n).1 hz
  have HZ := Lib.hid hz
  have HA := Lib.hid hz'.1
  have hn := hz'.2
  clear hz hz'
  go_enter Try.func36, Try.ntmps36
  go_wp2_with (first | (go_at_call 101; refine (l8Given_any a cap zs n w (by omega) hI).mono ?_; rw [HZ.out]; rintro e w' ⟨rfl, rfl⟩) | fail)
  refine (l8Find_any a cap zs n (-1) w HA.out hn hI).mono ?_
  rintro e w' ⟨⟨r, rfl, hF⟩, m, rfl⟩
  have hF2 := Lib.hid (hF.is.congr (fun c _ => l8_find HZ.out c))
  clear hF
  by_cases hr : r < 0
  · have he : (if r < 0 then (0 : Int) else r) = 0 ∧ decide (0 ≤ r) = false := by rw [if_pos hr]; simp; omega
    go_wp2
    go_ret2
    exact ⟨_, _, rfl, by have := hF2.out; rw [he.1, he.2] at this; exact this, m, rfl⟩
  · have he : (if r < 0 then (0 : Int) else r) = r ∧ decide (0 ≤ r) = true := by rw [if_neg hr]; simp; omega
    have hG := hF2.out
    rw [he.1, he.2] at hG
    have HG := Lib.hid hG
    clear he hG hF2
    by_cases hr0 : r = 0
    · subst hr0
      go_wp2
      go_ret2
      exact ⟨_, _, rfl, HG.out, m, rfl⟩
    · have hrp : 0 < r := by omega
      go_wp2
      go_ret2
      exact ⟨_, _, rfl, HG.out, m, rfl⟩

set_option maxHeartbeats 800000 in
theorem sRestJust_any (a : Option Addr) (cap : Nat) (zs : List Int) (n k : Int) (w : World) (hl : zs.length ≤ 4294967296) (hI : IntsAt w a zs) :
    Calls Try.prog 62 #[.slice a zs.length cap, .int .i64 n, .int .i64 k] w (FoundPostD w (justP zs n k) (2 ^ zs.length)) := by
  by_cases hz : restOk zs n = true
  case neg =>
    have hz' : restOk zs n = false := by simpa using hz
    have HZ := Lib.hid hz'
    clear hz hz'
    go_enter Try.func62, Try.ntmps62
    go_wp2_with (go_at_call 101; refine (l8Given_any a cap zs n w (by omega) hI).mono ?_; rw [HZ.out]; rintro e w' ⟨rfl, rfl⟩)
    go_ret2
    exact ⟨_, _, rfl, just_no k HZ.out _, 0, rfl⟩
  have hz' := (restOk_iff zs n).1 hz
  have HZ := Lib.hid hz
  have HA := Lib.hid hz'.1
  have hn := hz'.2
  clear hz hz'
  by_cases hk : 0 ≤ k
  case neg =>
    go_enter Try.func62, Try.ntmps62
    go_wp2_with (go_at_call 101; refine (l8Given_any a cap zs n w (by omega) hI).mono ?_; rw [HZ.out]; rintro e w' ⟨rfl, rfl⟩)
    go_ret2
    exact ⟨_, _, rfl, .inr ⟨rfl, rfl, fun d _ => by simp [justP]; intro _ h; omega⟩, 0, rfl⟩
  go_enter Try.func62, Try.ntmps62
  go_wp2_with (first | (go_at_call 101; refine (l8Given_any a cap zs n w (by omega) hI).mono ?_; rw [HZ.out]; rintro e w' ⟨rfl, rfl⟩) | fail)
  refine (l8Find_any a cap zs n k w HA.out hn hI).mono ?_
  rintro e w' ⟨⟨r, rfl, hF⟩, m, rfl⟩
  have hF2 := Lib.hid (hF.is.congr (fun c _ => l8_just hk HZ.out c))
  clear hF
  by_cases hr : r < 0
  · have he : (if r < 0 then (0 : Int) else r) = 0 ∧ decide (0 ≤ r) = false := by rw [if_pos hr]; simp; omega
    go_wp2
    go_ret2
    exact ⟨_, _, rfl, by have := hF2.out; rw [he.1, he.2] at this; exact this, m, rfl⟩
  · have he : (if r < 0 then (0 : Int) else r) = r ∧ decide (0 ≤ r) = true := by rw [if_neg hr]; simp; omega
    have hG := hF2.out
    rw [he.1, he.2] at hG
    have HG := Lib.hid hG
    clear he hG hF2
    by_cases hr0 : r = 0
    · subst hr0
      go_wp2
      go_ret2
      exact ⟨_, _, rfl, HG.out, m, rfl⟩
    · have hrp : 0 < r := by omega
      go_wp2
      go_ret2
      exact ⟨_, _, rfl, HG.out, m, rfl⟩
end Go.Proofs.Ytbpkffpejmlonaa
