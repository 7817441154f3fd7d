/- Walks of the functions that only read: has, sum, SumIn, l6In, l1Sum, l1All, totalOf, total. Conditions: numbers in range, lists short, stated in each. -/
import Derived.Test.YtdpapalfafjncaaGreatDoorBase
namespace Go.Proofs.YtdpapalfafjncaaGreatDoor
open Go.RowKit

theorem has_any (c p : Nat) (w : World) (hc : c < 1048576) (hp : p < 64) :
    Calls Tryz.prog 190 #[.int .i64 c, .int .i64 p] w fun e w' => e = .returned (.bool (decide (c / 2 ^ p % 2 = 1))) ∧ w = w' := by
  go_enter Tryz.func190, Tryz.ntmps190
  go_wp2
  go_ret
  exact ⟨ret_bool (by rw [bit_at c p (by omega)]; exact beq_cast _ 1), rfl⟩

theorem l6In_any (n lo hi : Int) (w : World) :
    Calls Tryz.prog 36 #[.int .i64 n, .int .i64 lo, .int .i64 hi] w fun e w' => e = .returned (.bool (decide (lo ≤ n) && decide (n ≤ hi))) ∧ w = w' := by
  go_enter Tryz.func36, Tryz.ntmps36
  by_cases h : lo ≤ n
  all_goals
    go_wp2
    go_ret
    exact ⟨ret_bool (by rw [Bool.eq_iff_iff]; simp; omega), rfl⟩

set_option maxHeartbeats 400000 in
theorem csum_any (c : Nat) (a : Option Addr) (cap : Nat) (zs : List Int) (w : World) (hc : c < 1048576) (hl : zs.length ≤ 60) (hg : good zs) (hI : IntsAt w a zs) :
    Calls Tryz.prog 164 #[.int .i64 c, .slice a zs.length cap] w fun e w' => e = .returned (.int .i64 (csum zs c)) ∧ w = w' := by
  go_enter Tryz.func164, Tryz.ntmps164
  go_wp2
  go_loop [5, 10] (fun s i => ∃ k : Nat, k ≤ zs.length ∧ i = .int .i64 k ∧ s = .int .i64 (csum (zs.take k) c)) (fun _ i => zs.length - (intOf i).toNat)
  case atStart => exact ⟨0, Nat.zero_le _, rfl, rfl⟩
  case round =>
    obtain ⟨k, hk, rfl, rfl⟩ := hrel
    by_cases hlt : k < zs.length
    · obtain ⟨b, off, rfl, hb, hcell⟩ := hI.at (by omega)
      have hg1 := csum_bd (good_take hg k) c
      have hg2 := tot_bd (good_take hg k)
      have hg3 : (zs.take k).length ≤ k := List.length_take_le _ _
      have hg4 := good_get hg k hlt
      have HS := Lib.hid (csum_take zs c k hlt)
      have hx := hcell k hlt
      generalize zs[k]?.getD 0 = x at hx hg4 HS
      generalize csum (zs.take k) c = s at hg1 HS
      clear hcell
      go_wp2_with (go_at_call 190; refine (has_any c k _ hc (by omega)).mono ?_; rintro e w' ⟨rfl, rfl⟩)
      all_goals
        go_round
        case rel => exact ⟨k + 1, by omega, by go_num, by rw [HS.out]; simp [*]⟩
        case measure => simp [intOf]; omega
    · go_wp2
      go_ret
      exact ⟨ret_int (by rw [List.take_of_length_le (by omega)]), rfl⟩


theorem SumIn_any (a : Option Addr) (cap : Nat) (zs : List Int) (w : World) (hl : zs.length ≤ 4294967296) (hI : IntsAt w a zs) :
    Calls Tryz.prog 16 #[.slice a zs.length cap] w fun e w' => e = .returned (.bool (inL zs)) ∧ w = w' := by
  by_cases h10 : zs.length ≤ 10
  case neg =>
    go_enter Tryz.func16, Tryz.ntmps16
    go_wp2
    go_ret
    exact ⟨ret_bool (by rw [eq_comm, inL_false]; omega), rfl⟩
  go_enter Tryz.func16, Tryz.ntmps16
  go_wp2
  go_loop [10] (fun i => ∃ k : Nat, k ≤ zs.length ∧ i = .int .i64 k ∧ good (zs.take k)) (fun i => zs.length - (intOf i).toNat)
  case atStart => exact ⟨0, Nat.zero_le _, rfl, by simp [good]⟩
  case round =>
    obtain ⟨k, hk, rfl, hgk⟩ := hrel
    by_cases hlt : k < zs.length
    · obtain ⟨b, off, rfl, hb, hcell⟩ := hI.at (by omega)
      have HB := Lib.hid (good_bad k hlt)
      have HS := Lib.hid (good_snoc zs k hlt)
      have hx := hcell k hlt
      generalize zs[k]?.getD 0 = x at hx HB HS
      clear hcell
      have HG := Lib.hid hgk
      clear hgk
      by_cases hx1 : 1 ≤ x
      · by_cases hx2 : x ≤ 60
        · go_wp2
          go_round
          case rel => exact ⟨k + 1, by omega, by go_num, HS.out.2 ⟨HG.out, hx1, hx2⟩⟩
          case measure => simp [intOf]; omega
        · go_wp2
          go_ret
          exact ⟨ret_bool (by rw [eq_comm, inL_false]; exact fun h => HB.out (fun h' => by omega) h.2), rfl⟩
      · go_wp2
        go_ret
        exact ⟨ret_bool (by rw [eq_comm, inL_false]; exact fun h => HB.out (fun h' => by omega) h.2), rfl⟩
    · have HG := Lib.hid hgk
      clear hgk
      go_wp2
      go_ret
      exact ⟨ret_bool (by rw [eq_comm, inL_iff]; refine ⟨h10, ?_⟩; have := HG.out; rwa [List.take_of_length_le (by omega)] at this), rfl⟩

set_option maxHeartbeats 400000 in
theorem l1Sum_any (c : Nat) (a : Option Addr) (cap : Nat) (zs : List Int) (w : World) (hc : c < 1048576) (hl : zs.length ≤ 60) (hg : good zs) (hI : IntsAt w a zs) :
    Calls Tryz.prog 50 #[.slice a zs.length cap, .int .i64 c] w fun e w' => e = .returned (.int .i64 (csum zs c)) ∧ ∃ n, w' = w.drewN n := by
  go_enter Tryz.func50, Tryz.ntmps50
  go_wp2
  go_loopw [5, 6] (fun s i wr => ∃ k n : Nat, k ≤ zs.length ∧ i = .int .i64 k ∧ s = .int .i64 (csum (zs.take k) c) ∧ wr = w.drewN n) (fun _ i _ => zs.length - (intOf i).toNat)
  case atStart => exact ⟨0, 0, Nat.zero_le _, rfl, rfl, rfl⟩
  case round =>
    obtain ⟨k, n, hk, rfl, rfl, rfl⟩ := hrel
    by_cases hlt : k < zs.length
    · obtain ⟨b, off, rfl, hb, hcell⟩ := hI.at (by omega)
      have hg1 := csum_bd (good_take hg k) c
      have hg2 := tot_bd (good_take hg k)
      have hg3 : (zs.take k).length ≤ k := List.length_take_le _ _
      have hg4 := good_get hg k hlt
      have HS := Lib.hid (csum_take zs c k hlt)
      have hx := hcell k hlt
      generalize zs[k]?.getD 0 = x at hx hg4 HS
      generalize csum (zs.take k) c = s at hg1 HS
      clear hcell
      go_wp2
      go_quiet (fail)
      go_wp2
      go_roundw
      case rel => exact ⟨k + 1, n + nq, by omega, by go_num, by rw [HS.out, bit_at c k (by omega), wstep _ _ _ (Nat.mod_lt _ (by omega)) (by omega) (by omega)], rfl⟩
      case measure => simp [intOf]; omega
    · go_wp2
      go_ret
      exact ⟨ret_int (by rw [List.take_of_length_le (by omega)]), _, rfl⟩

set_option maxHeartbeats 400000 in
theorem sSumIn_any (a : Option Addr) (cap : Nat) (zs : List Int) (w : World) (hl : zs.length ≤ 4294967296) (hI : IntsAt w a zs) :
    Calls Tryz.prog 20 #[.slice a zs.length cap] w fun e w' => e = .returned (.bool (inL zs)) ∧ w = w' := by
  go_enter Tryz.func20, Tryz.ntmps20
  go_wp2
  go_loop [3] (fun i => ∃ k : Nat, k ≤ zs.length ∧ i = .int .i64 k ∧ good (zs.take k)) (fun i => zs.length - (intOf i).toNat)
  case atStart => exact ⟨0, Nat.zero_le _, rfl, by simp [good]⟩
  case round =>
    obtain ⟨k, hk, rfl, hgk⟩ := hrel
    have HG := Lib.hid hgk
    clear hgk
    by_cases hlt : k < zs.length
    · obtain ⟨b, off, rfl, hb, hcell⟩ := hI.at (by omega)
      have HB := Lib.hid (good_bad k hlt)
      have HS := Lib.hid (good_snoc zs k hlt)
      have hx := hcell k hlt
      generalize zs[k]?.getD 0 = x at hx HB HS
      clear hcell
      by_cases hx12 : 1 ≤ x ∧ x ≤ 60
      · have hd : (decide (1 ≤ x) && decide (x ≤ 60)) = true := by simp [hx12]
        go_wp2_with (go_at_call 36; refine (l6In_any x 1 60 _).mono ?_; rw [hd]; rintro e w' ⟨rfl, rfl⟩)
        go_round
        case rel => exact ⟨k + 1, by omega, by go_num, HS.out.2 ⟨HG.out, hx12⟩⟩
        case measure => simp [intOf]; omega
      · have hd : (decide (1 ≤ x) && decide (x ≤ 60)) = false := by simp; omega
        go_wp2_with (go_at_call 36; refine (l6In_any x 1 60 _).mono ?_; rw [hd]; rintro e w' ⟨rfl, rfl⟩)
        go_ret
        exact ⟨ret_bool (by rw [eq_comm, inL_false]; exact fun h => HB.out (fun h' => by omega) h.2), rfl⟩
    · go_wp2
      go_ret
      have hg : good zs := by have := HG.out; rwa [List.take_of_length_le (by omega)] at this
      exact ⟨ret_bool (by rw [Bool.eq_iff_iff, inL_iff]; simp [hg]; omega), rfl⟩

theorem l1All_any (a : Option Addr) (n cap : Nat) (w : World) (hl : n ≤ 20) :
    Calls Tryz.prog 37 #[.slice a n cap] w fun e w' => e = .returned (.int .i64 (2 ^ n - 1)) ∧ w = w' := by
  have hp := pow_bd n hl
  go_enter Tryz.func37, Tryz.ntmps37
  go_wp2
  go_ret
  exact ⟨rfl, rfl⟩

theorem totalOf_any (a : Option Addr) (cap : Nat) (zs : List Int) (w : World) (hl : zs.length ≤ 60) (hg : good zs) (hI : IntsAt w a zs) :
    Calls Tryz.prog 17 #[.slice a zs.length cap] w fun e w' => e = .returned (.int .i64 (tot zs)) ∧ w = w' := by
  go_enter Tryz.func17, Tryz.ntmps17
  go_wp2
  go_loop [3, 8] (fun s i => ∃ k : Nat, k ≤ zs.length ∧ i = .int .i64 k ∧ s = .int .i64 (tot (zs.take k))) (fun _ i => zs.length - (intOf i).toNat)
  case atStart => exact ⟨0, Nat.zero_le _, rfl, rfl⟩
  case round =>
    obtain ⟨k, hk, rfl, rfl⟩ := hrel
    by_cases hlt : k < zs.length
    · obtain ⟨b, off, rfl, hb, hcell⟩ := hI.at (by omega)
      have hg2 := tot_bd (good_take hg k)
      have hg3 : (zs.take k).length ≤ k := List.length_take_le _ _
      have hg4 := good_get hg k hlt
      have HS := Lib.hid (tot_take zs k hlt)
      have hx := hcell k hlt
      generalize zs[k]?.getD 0 = x at hx hg4 HS
      generalize tot (zs.take k) = s at hg2 HS
      clear hcell
      go_wp2
      go_round
      case rel => exact ⟨k + 1, by omega, by go_num, by rw [HS.out]⟩
      case measure => simp [intOf]; omega
    · go_wp2
      go_ret
      exact ⟨ret_int (by rw [List.take_of_length_le (by omega)]), rfl⟩

/-- the sum of numbers that are neither negative nor great -/
theorem tot_bdM {a : List Int} {M : Int} (h : ∀ x ∈ a, 0 ≤ x ∧ x ≤ M) : 0 ≤ tot a ∧ tot a ≤ M * a.length := by
  induction a with
  | nil => simp [tot]
  | cons x xs ih =>
    have h1 := h x (List.mem_cons_self ..)
    have h2 := ih (fun y hy => h y (List.mem_cons_of_mem _ hy))
    rw [tot, List.length_cons, Int.natCast_add, Int.mul_add]; omega

set_option maxHeartbeats 400000 in
theorem total_any (a : Option Addr) (cap : Nat) (zs : List Int) (w : World) (hl : zs.length ≤ 1000000) (hg : ∀ x ∈ zs, 0 ≤ x ∧ x ≤ 1000000) (hI : IntsAt w a zs) :
    Calls Tryz.prog 11 #[.slice a zs.length cap] w fun e w' => e = .returned (.int .i64 (tot zs)) ∧ w = w' := by
  go_enter Tryz.func11, Tryz.ntmps11
  go_wp2
  go_loop [3, 4] (fun s i => ∃ k : Nat, k ≤ zs.length ∧ i = .int .i64 k ∧ s = .int .i64 (tot (zs.take k))) (fun _ i => zs.length - (intOf i).toNat)
  case atStart => exact ⟨0, Nat.zero_le _, rfl, rfl⟩
  case round =>
    obtain ⟨k, hk, rfl, rfl⟩ := hrel
    by_cases hlt : k < zs.length
    · obtain ⟨b, off, rfl, hb, hcell⟩ := hI.at (by omega)
      have hg2 := tot_bdM (a := zs.take k) (fun x hx => hg x (List.mem_of_mem_take hx))
      have hg3 : (zs.take k).length ≤ k := List.length_take_le _ _
      have hg4 : 0 ≤ zs[k]?.getD 0 ∧ zs[k]?.getD 0 ≤ 1000000 := by rw [List.getElem?_eq_getElem hlt]; exact hg _ (List.getElem_mem hlt)
      have HS := Lib.hid (tot_take zs k hlt)
      have hx := hcell k hlt
      generalize zs[k]?.getD 0 = x at hx hg4 HS
      generalize tot (zs.take k) = s at hg2 HS
      clear hcell
      go_wp2
      go_round
      case rel => exact ⟨k + 1, by omega, by go_num, by rw [HS.out]⟩
      case measure => simp [intOf]; omega
    · go_wp2
      go_ret
      exact ⟨ret_int (by rw [List.take_of_length_le (by omega)]), rfl⟩
end Go.Proofs.YtdpapalfafjncaaGreatDoor
