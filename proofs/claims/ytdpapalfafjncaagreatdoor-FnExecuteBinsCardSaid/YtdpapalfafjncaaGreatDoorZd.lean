/- Walks of the functions that only read: has, sum, SumIn, l6In, l1Sum, l1All, totalOf, total. Conditions: numbers in range, lists short, stated in each. Plain words of chapter 8: when a list and a number are told; bits of a choice; the first choice with a property. Conditions: none. The iterator choiceSums: its contract (a range over a function), for lists in range. Conditions: at most 20 numbers from 1 to 60. Chapter 8 of the reference: what is told, sizes, searches. Conditions: stated in each. Tallies: how many numbers below m have a key; as a list over all keys. Conditions: none. Chapter 8 of the reference: RestCounts; the checker's marks. Conditions: stated in each. RestCounts of the program. Conditions: the list is short enough to be counted. -/
import Derived.Test.YtdpapalfafjncaaGreatDoorZa
import Derived.RangeFuncNested
import Derived.RangeFuncBound
import Derived.RangeFuncCalls
import Derived.RangeFuncLeaves
import Derived.RangeFuncBox
import Derived.Shelf.Abstract
import Derived.Shelf.RegionOpen
import Derived.OwnWalkIn
import Derived.TacticsInMore
import Derived.LoopNIn
import Derived.LoopIn
import Derived.Sort.QuietIn
set_option linter.unusedVariables false
set_option linter.unusedSimpArgs false
set_option linter.unusedSectionVars false
namespace Go.Proofs.YtdpapalfafjncaaGreatDoor
open Go.RowKit

theorem has_any (c p : Nat) (w : World) (hc : c < 1048576) (hp : p < 64) :
    Calls Tryz.prog 190 #[.int .i64 c, .int .i64 p] w fun e w' => e = .returned (.bool (decide (c / 2 ^ p % 2 = 1))) ∧ w = w' := by
  go_enter Tryz.func190, Tryz.ntmps190
  go_wp2
  go_ret
  exact ⟨ret_bool (by rw [bit_at c p (by omega)]; exact beq_cast _ 1), rfl⟩

theorem l6In_any (n lo hi : Int) (w : World) :
    Calls Tryz.prog 36 #[.int .i64 n, .int .i64 lo, .int .i64 hi] w fun e w' => e = .returned (.bool (decide (lo ≤ n) && decide (n ≤ hi))) ∧ w = w' := by
  go_enter Tryz.func36, Tryz.ntmps36
  by_cases h : lo ≤ n
  all_goals
    go_wp2
    go_ret
    exact ⟨ret_bool (by rw [Bool.eq_iff_iff]; simp; omega), rfl⟩

set_option maxHeartbeats 400000 in
theorem csum_any (c : Nat) (a : Option Addr) (cap : Nat) (zs : List Int) (w : World) (hc : c < 1048576) (hl : zs.length ≤ 60) (hg : good zs) (hI : IntsAt w a zs) :
    Calls Tryz.prog 164 #[.int .i64 c, .slice a zs.length cap] w fun e w' => e = .returned (.int .i64 (csum zs c)) ∧ w = w' := by
  go_enter Tryz.func164, Tryz.ntmps164
  go_wp2
  go_loop [5, 10] (fun s i => ∃ k : Nat, k ≤ zs.length ∧ i = .int .i64 k ∧ s = .int .i64 (csum (zs.take k) c)) (fun _ i => zs.length - (intOf i).toNat)
  case atStart => exact ⟨0, Nat.zero_le _, rfl, rfl⟩
  case round =>
    obtain ⟨k, hk, rfl, rfl⟩ := hrel
    by_cases hlt : k < zs.length
    · obtain ⟨b, off, rfl, hb, hcell⟩ := hI.at (by omega)
      have hg1 := csum_bd (good_take hg k) c
      have hg2 := tot_bd (good_take hg k)
      have hg3 : (zs.take k).length ≤ k := List.length_take_le _ _
      have hg4 := good_get hg k hlt
      have HS := Lib.hid (csum_take zs c k hlt)
      have hx := hcell k hlt
      generalize zs[k]?.getD 0 = x at hx hg4 HS
      generalize csum (zs.take k) c = s at hg1 HS
      clear hcell
      go_wp2_with (go_at_call 190; refine (has_any c k _ hc (by omega)).mono ?_; rintro e w' ⟨rfl, rfl⟩)
      all_goals
        go_round
        case rel => exact ⟨k + 1, by omega, by go_num, by rw [HS.out]; simp [*]⟩
        case measure => simp [intOf]; omega
    · go_wp2
      go_ret
      exact ⟨ret_int (by rw [List.take_of_length_le (by omega)]), rfl⟩


theorem SumIn_any (a : Option Addr) (cap : Nat) (zs : List Int) (w : World) (hl : zs.length ≤ 4294967296) (hI : IntsAt w a zs) :
    Calls Tryz.prog 16 #[.slice a zs.length cap] w fun e w' => e = .returned (.bool (inL zs)) ∧ w = w' := by
  by_cases h10 : zs.length ≤ 10
  case neg =>
    go_enter Tryz.func16, Tryz.ntmps16
    go_wp2
    go_ret
    exact ⟨ret_bool (by rw [eq_comm, inL_false]; omega), rfl⟩
  go_enter Tryz.func16, Tryz.ntmps16
  go_wp2
  go_loop [10] (fun i => ∃ k : Nat, k ≤ zs.length ∧ i = .int .i64 k ∧ good (zs.take k)) (fun i => zs.length - (intOf i).toNat)
  case atStart => exact ⟨0, Nat.zero_le _, rfl, by simp [good]⟩
  case round =>
    obtain ⟨k, hk, rfl, hgk⟩ := hrel
    by_cases hlt : k < zs.length
    · obtain ⟨b, off, rfl, hb, hcell⟩ := hI.at (by omega)
      have HB := Lib.hid (good_bad k hlt)
      have HS := Lib.hid (good_snoc zs k hlt)
      have hx := hcell k hlt
      generalize zs[k]?.getD 0 = x at hx HB HS
      clear hcell
      have HG := Lib.hid hgk
      clear hgk
      by_cases hx1 : 1 ≤ x
      · by_cases hx2 : x ≤ 60
        · go_wp2
          go_round
          case rel => exact ⟨k + 1, by omega, by go_num, HS.out.2 ⟨HG.out, hx1, hx2⟩⟩
          case measure => simp [intOf]; omega
        · go_wp2
          go_ret
          exact ⟨ret_bool (by rw [eq_comm, inL_false]; exact fun h => HB.out (fun h' => by omega) h.2), rfl⟩
      · go_wp2
        go_ret
        exact ⟨ret_bool (by rw [eq_comm, inL_false]; exact fun h => HB.out (fun h' => by omega) h.2), rfl⟩
    · have HG := Lib.hid hgk
      clear hgk
      go_wp2
      go_ret
      exact ⟨ret_bool (by rw [eq_comm, inL_iff]; refine ⟨h10, ?_⟩; have := HG.out; rwa [List.take_of_length_le (by omega)] at this), rfl⟩

set_option maxHeartbeats 400000 in
theorem l1Sum_any (c : Nat) (a : Option Addr) (cap : Nat) (zs : List Int) (w : World) (hc : c < 1048576) (hl : zs.length ≤ 60) (hg : good zs) (hI : IntsAt w a zs) :
    Calls Tryz.prog 50 #[.slice a zs.length cap, .int .i64 c] w fun e w' => e = .returned (.int .i64 (csum zs c)) ∧ ∃ n, w' = w.drewN n := by
  go_enter Tryz.func50, Tryz.ntmps50
  go_wp2
  go_loopw [5, 6] (fun s i wr => ∃ k n : Nat, k ≤ zs.length ∧ i = .int .i64 k ∧ s = .int .i64 (csum (zs.take k) c) ∧ wr = w.drewN n) (fun _ i _ => zs.length - (intOf i).toNat)
  case atStart => exact ⟨0, 0, Nat.zero_le _, rfl, rfl, rfl⟩
  case round =>
    obtain ⟨k, n, hk, rfl, rfl, rfl⟩ := hrel
    by_cases hlt : k < zs.length
    · obtain ⟨b, off, rfl, hb, hcell⟩ := hI.at (by omega)
      have hg1 := csum_bd (good_take hg k) c
      have hg2 := tot_bd (good_take hg k)
      have hg3 : (zs.take k).length ≤ k := List.length_take_le _ _
      have hg4 := good_get hg k hlt
      have HS := Lib.hid (csum_take zs c k hlt)
      have hx := hcell k hlt
      generalize zs[k]?.getD 0 = x at hx hg4 HS
      generalize csum (zs.take k) c = s at hg1 HS
      clear hcell
      go_wp2
      go_quiet (fail)
      go_wp2
      go_roundw
      case rel => exact ⟨k + 1, n + nq, by omega, by go_num, by rw [HS.out, bit_at c k (by omega), wstep _ _ _ (Nat.mod_lt _ (by omega)) (by omega) (by omega)], rfl⟩
      case measure => simp [intOf]; omega
    · go_wp2
      go_ret
      exact ⟨ret_int (by rw [List.take_of_length_le (by omega)]), _, rfl⟩

set_option maxHeartbeats 400000 in
theorem sSumIn_any (a : Option Addr) (cap : Nat) (zs : List Int) (w : World) (hl : zs.length ≤ 4294967296) (hI : IntsAt w a zs) :
    Calls Tryz.prog 20 #[.slice a zs.length cap] w fun e w' => e = .returned (.bool (inL zs)) ∧ w = w' := by
  go_enter Tryz.func20, Tryz.ntmps20
  go_wp2
  go_loop [3] (fun i => ∃ k : Nat, k ≤ zs.length ∧ i = .int .i64 k ∧ good (zs.take k)) (fun i => zs.length - (intOf i).toNat)
  case atStart => exact ⟨0, Nat.zero_le _, rfl, by simp [good]⟩
  case round =>
    obtain ⟨k, hk, rfl, hgk⟩ := hrel
    have HG := Lib.hid hgk
    clear hgk
    by_cases hlt : k < zs.length
    · obtain ⟨b, off, rfl, hb, hcell⟩ := hI.at (by omega)
      have HB := Lib.hid (good_bad k hlt)
      have HS := Lib.hid (good_snoc zs k hlt)
      have hx := hcell k hlt
      generalize zs[k]?.getD 0 = x at hx HB HS
      clear hcell
      by_cases hx12 : 1 ≤ x ∧ x ≤ 60
      · have hd : (decide (1 ≤ x) && decide (x ≤ 60)) = true := by simp [hx12]
        go_wp2_with (go_at_call 36; refine (l6In_any x 1 60 _).mono ?_; rw [hd]; rintro e w' ⟨rfl, rfl⟩)
        go_round
        case rel => exact ⟨k + 1, by omega, by go_num, HS.out.2 ⟨HG.out, hx12⟩⟩
        case measure => simp [intOf]; omega
      · have hd : (decide (1 ≤ x) && decide (x ≤ 60)) = false := by simp; omega
        go_wp2_with (go_at_call 36; refine (l6In_any x 1 60 _).mono ?_; rw [hd]; rintro e w' ⟨rfl, rfl⟩)
        go_ret
        exact ⟨ret_bool (by rw [eq_comm, inL_false]; exact fun h => HB.out (fun h' => by omega) h.2), rfl⟩
    · go_wp2
      go_ret
      have hg : good zs := by have := HG.out; rwa [List.take_of_length_le (by omega)] at this
      exact ⟨ret_bool (by rw [Bool.eq_iff_iff, inL_iff]; simp [hg]; omega), rfl⟩

theorem l1All_any (a : Option Addr) (n cap : Nat) (w : World) (hl : n ≤ 20) :
    Calls Tryz.prog 37 #[.slice a n cap] w fun e w' => e = .returned (.int .i64 (2 ^ n - 1)) ∧ w = w' := by
  have hp := pow_bd n hl
  go_enter Tryz.func37, Tryz.ntmps37
  go_wp2
  go_ret
  exact ⟨rfl, rfl⟩

theorem totalOf_any (a : Option Addr) (cap : Nat) (zs : List Int) (w : World) (hl : zs.length ≤ 60) (hg : good zs) (hI : IntsAt w a zs) :
    Calls Tryz.prog 17 #[.slice a zs.length cap] w fun e w' => e = .returned (.int .i64 (tot zs)) ∧ w = w' := by
  go_enter Tryz.func17, Tryz.ntmps17
  go_wp2
  go_loop [3, 8] (fun s i => ∃ k : Nat, k ≤ zs.length ∧ i = .int .i64 k ∧ s = .int .i64 (tot (zs.take k))) (fun _ i => zs.length - (intOf i).toNat)
  case atStart => exact ⟨0, Nat.zero_le _, rfl, rfl⟩
  case round =>
    obtain ⟨k, hk, rfl, rfl⟩ := hrel
    by_cases hlt : k < zs.length
    · obtain ⟨b, off, rfl, hb, hcell⟩ := hI.at (by omega)
      have hg2 := tot_bd (good_take hg k)
      have hg3 : (zs.take k).length ≤ k := List.length_take_le _ _
      have hg4 := good_get hg k hlt
      have HS := Lib.hid (tot_take zs k hlt)
      have hx := hcell k hlt
      generalize zs[k]?.getD 0 = x at hx hg4 HS
      generalize tot (zs.take k) = s at hg2 HS
      clear hcell
      go_wp2
      go_round
      case rel => exact ⟨k + 1, by omega, by go_num, by rw [HS.out]⟩
      case measure => simp [intOf]; omega
    · go_wp2
      go_ret
      exact ⟨ret_int (by rw [List.take_of_length_le (by omega)]), rfl⟩

/-- the sum of numbers that are neither negative nor great -/
theorem tot_bdM {a : List Int} {M : Int} (h : ∀ x ∈ a, 0 ≤ x ∧ x ≤ M) : 0 ≤ tot a ∧ tot a ≤ M * a.length := by
  induction a with
  | nil => simp [tot]
  | cons x xs ih =>
    have h1 := h x (List.mem_cons_self ..)
    have h2 := ih (fun y hy => h y (List.mem_cons_of_mem _ hy))
    rw [tot, List.length_cons, Int.natCast_add, Int.mul_add]; omega

set_option maxHeartbeats 400000 in
theorem total_any (a : Option Addr) (cap : Nat) (zs : List Int) (w : World) (hl : zs.length ≤ 1000000) (hg : ∀ x ∈ zs, 0 ≤ x ∧ x ≤ 1000000) (hI : IntsAt w a zs) :
    Calls Tryz.prog 11 #[.slice a zs.length cap] w fun e w' => e = .returned (.int .i64 (tot zs)) ∧ w = w' := by
  go_enter Tryz.func11, Tryz.ntmps11
  go_wp2
  go_loop [3, 4] (fun s i => ∃ k : Nat, k ≤ zs.length ∧ i = .int .i64 k ∧ s = .int .i64 (tot (zs.take k))) (fun _ i => zs.length - (intOf i).toNat)
  case atStart => exact ⟨0, Nat.zero_le _, rfl, rfl⟩
  case round =>
    obtain ⟨k, hk, rfl, rfl⟩ := hrel
    by_cases hlt : k < zs.length
    · obtain ⟨b, off, rfl, hb, hcell⟩ := hI.at (by omega)
      have hg2 := tot_bdM (a := zs.take k) (fun x hx => hg x (List.mem_of_mem_take hx))
      have hg3 : (zs.take k).length ≤ k := List.length_take_le _ _
      have hg4 : 0 ≤ zs[k]?.getD 0 ∧ zs[k]?.getD 0 ≤ 1000000 := by rw [List.getElem?_eq_getElem hlt]; exact hg _ (List.getElem_mem hlt)
      have HS := Lib.hid (tot_take zs k hlt)
      have hx := hcell k hlt
      generalize zs[k]?.getD 0 = x at hx hg4 HS
      generalize tot (zs.take k) = s at hg2 HS
      clear hcell
      go_wp2
      go_round
      case rel => exact ⟨k + 1, by omega, by go_num, by rw [HS.out]⟩
      case measure => simp [intOf]; omega
    · go_wp2
      go_ret
      exact ⟨ret_int (by rw [List.take_of_length_le (by omega)]), rfl⟩
end Go.Proofs.YtdpapalfafjncaaGreatDoor
namespace Go.Proofs.YtdpapalfafjncaaGreatDoor
def restOk (zs : List Int) (n : Int) : Bool := inL zs && (decide (1 ≤ n) && decide (n ≤ 6))
theorem restOk_iff (zs : List Int) (n : Int) : restOk zs n = true ↔ inL zs = true ∧ 1 ≤ n ∧ n ≤ 6 := by simp [restOk]
def popN : Nat → Nat → Nat
  | 0, _ => 0
  | f + 1, c => c % 2 + popN f (c / 2)
/-- the number of bits of a choice -/
def popc (c : Nat) : Nat := popN 20 c
theorem popN_le (f c : Nat) : popN f c ≤ f := by
  induction f generalizing c with
  | zero => exact Nat.le_refl _
  | succ f ih => have := ih (c / 2); simp only [popN]; omega
theorem popN_zero (f : Nat) : popN f 0 = 0 := by
  induction f with
  | zero => rfl
  | succ f ih => simp only [popN, Nat.zero_div, ih]
theorem popN_more (f c : Nat) (h : c < 2 ^ f) : popN (f + 1) c = popN f c := by
  induction f generalizing c with
  | zero =>
    have : c = 0 := by simpa using h
    subst this; rfl
  | succ f ih =>
    rw [Nat.pow_succ] at h
    rw [popN, ih (c / 2) (by omega), popN]
/-- RestFind's test -/
def findP (zs : List Int) (n : Int) (c : Nat) : Bool := restOk zs n && ((c : Int) != 0 && csum zs c % n == 0)
/-- RestJust's test -/
def justP (zs : List Int) (n k : Int) (c : Nat) : Bool := restOk zs n && ((popc c : Int) == k && csum zs c % n == 0)
/-- l8Find's test -/
def l8P (zs : List Int) (n k : Int) (c : Nat) : Bool := csum zs c % n == 0 && (decide (k < 0) && decide (0 < c) || decide (0 ≤ k) && (popc c : Int) == k)
/-- the least number below m at which p holds, or none -/
def FirstIs (p : Nat → Bool) (m : Nat) (r : Int) (ok : Bool) : Prop :=
  (ok = true ∧ ∃ c : Nat, r = c ∧ c < m ∧ p c = true ∧ ∀ d, d < c → p d = false) ∨ (ok = false ∧ r = 0 ∧ ∀ d, d < m → p d = false)
theorem FirstIs.unique {p : Nat → Bool} {m : Nat} {r r' : Int} {ok ok' : Bool} (h : FirstIs p m r ok) (h' : FirstIs p m r' ok') : r = r' ∧ ok = ok' := by
  rcases h with ⟨rfl, c, rfl, h1, h2, h3⟩ | ⟨rfl, rfl, h3⟩ <;> rcases h' with ⟨rfl, d, rfl, k1, k2, k3⟩ | ⟨rfl, rfl, k3⟩
  · have : c = d := by
      rcases Nat.lt_trichotomy c d with e | e | e
      · rw [k3 c e] at h2; cases h2
      · exact e
      · rw [h3 d e] at k2; cases k2
    exact ⟨by rw [this], rfl⟩
  · rw [k3 c h1] at h2; cases h2
  · rw [h3 d k1] at k2; cases k2
  · exact ⟨rfl, rfl⟩
theorem FirstIs.congr {p q : Nat → Bool} {m : Nat} {r : Int} {ok : Bool} (h : FirstIs p m r ok) (e : ∀ c, c < m → p c = q c) : FirstIs q m r ok := by
  rcases h with ⟨rfl, c, rfl, h1, h2, h3⟩ | ⟨rfl, rfl, h3⟩
  · exact .inl ⟨rfl, c, rfl, h1, by rw [← e c h1]; exact h2, fun d hd => by rw [← e d (Nat.lt_trans hd h1)]; exact h3 d hd⟩
  · exact .inr ⟨rfl, rfl, fun d hd => by rw [← e d hd]; exact h3 d hd⟩
/-- the same as one number: -1 for none -/
def FirstN (p : Nat → Bool) (m : Nat) (r : Int) : Prop :=
  (∃ c : Nat, r = c ∧ c < m ∧ p c = true ∧ ∀ d, d < c → p d = false) ∨ (r = -1 ∧ ∀ d, d < m → p d = false)
theorem FirstN.is {p : Nat → Bool} {m : Nat} {r : Int} (h : FirstN p m r) : FirstIs p m (if r < 0 then 0 else r) (decide (0 ≤ r)) := by
  rcases h with ⟨c, rfl, h⟩ | ⟨rfl, h⟩
  · rw [if_neg (by omega)]
    exact .inl ⟨by simp, c, rfl, h⟩
  · exact .inr ⟨by simp, by simp, h⟩
theorem find_no {zs : List Int} {n : Int} (h : restOk zs n = false) (m : Nat) : FirstIs (findP zs n) m 0 false := .inr ⟨rfl, rfl, fun d _ => by simp [findP, h]⟩
theorem just_no {zs : List Int} {n : Int} (k : Int) (h : restOk zs n = false) (m : Nat) : FirstIs (justP zs n k) m 0 false := .inr ⟨rfl, rfl, fun d _ => by simp [justP, h]⟩
theorem l8_find {zs : List Int} {n : Int} (h : restOk zs n = true) (c : Nat) : l8P zs n (-1) c = findP zs n c := by
  rw [Bool.eq_iff_iff]
  simp [l8P, findP, h]
  omega
theorem l8_just {zs : List Int} {n k : Int} (hk : 0 ≤ k) (h : restOk zs n = true) (c : Nat) : l8P zs n k c = justP zs n k c := by
  rw [Bool.eq_iff_iff]
  simp [l8P, justP, h]
  omega
theorem none_succ {p : Nat → Bool} {c : Nat} (h : ∀ d, d < c → p d = false) (hc : p c = false) : ∀ d, d < c + 1 → p d = false := fun d hd => by
  rcases Nat.lt_or_ge d c with e | e
  · exact h d e
  · obtain rfl : d = c := by omega
    exact hc
theorem l8P_of (zs : List Int) (n k : Int) (c : Nat) : l8P zs n k c = true ↔ csum zs c % n = 0 ∧ ((k < 0 ∧ 0 < c) ∨ (0 ≤ k ∧ (popc c : Int) = k)) := by simp [l8P]
theorem l8P_not (zs : List Int) (n k : Int) (c : Nat) : l8P zs n k c = false ↔ ¬ (csum zs c % n = 0 ∧ ((k < 0 ∧ 0 < c) ∨ (0 ≤ k ∧ (popc c : Int) = k))) := by rw [← l8P_of]; simp
end Go.Proofs.YtdpapalfafjncaaGreatDoor
namespace Go.Proofs.YtdpapalfafjncaaGreatDoor
open Go.RowKit Go.Shelf
attribute [local go_sem] Oper.semAt_some

theorem makeIIn {F : Fence} {fu : Nat} (w : World) {ops : Array Oper} {rest : List Oper} {o : Oper} {a : Act} {Q : Exit → Act → World → Prop} (hgd : o.guard = none) (l c : Operand)
    (ho : o.op = Op.makeSlice 23 l c) (n : Nat) (N : Int) (hl : a.eval l = .int .i64 N) (hc : a.eval c = .int .i64 N) (hN : N = (n : Int)) (hn : n ≤ 4000000)
    (h : ∀ w', OwnI w' w.heap.size (.slice (some ⟨w.heap.size, 0, none⟩) n n) (List.replicate n 0) → w.grownBy w' none → wpListIn F fu Tryz.prog ops Q rest (a.put o.dst (.slice (some ⟨w.heap.size, 0, none⟩) n n)) w') :
    wpListIn F fu Tryz.prog ops Q (o :: rest) a w := by
  obtain ⟨i0, hi, hz0, hz1, hz2⟩ := info_parts Tryz.infoInt
  refine wpListIn_plain hgd fun K hK' => ?_
  obtain ⟨w', hrun, r1, r2⟩ := run_make_full (P := Tryz.prog) w w.heap.size 23 3 i0 (.int .i64 0) 1 Tryz.underlying23 hi hz0 hz1 .i64 .i64 n (by rw [hz2]; omega) (by unfold maxLen; omega) (Nat.le_refl _)
  subst hN
  unfold Oper.wpIn
  refine ⟨by simp [Oper.about, ho], ?_⟩
  rw [Oper.semAt_plain F _ _ (by rw [ho]; intro c hc'; cases hc')]
  simp [execOp, ho, hl, hc, hrun, Result.andThen]
  refine hK' _ _ (h w' ?_ r2)
  unfold OwnI
  rw [List.length_replicate, List.map_replicate]
  rw [Nat.mul_one] at r1
  have e : (madeCells (Value.cells (.int .i64 0)) n).toList = List.replicate n (.int .i64 0) := toList_madeCells_one _ _
  rw [e] at r1
  exact r1

/-- the first k choices -/
def upto (N k : Nat) : List (Fin N) := (List.finRange N).take k
theorem upto_succ {N k : Nat} (h : k < N) : upto N (k + 1) = upto N k ++ [⟨k, h⟩] := by
  unfold upto
  rw [List.take_add_one, List.getElem?_eq_getElem (by simpa using h)]
  simp
theorem upto_succ' {N : Nat} (x : Fin N) : upto N (x.val + 1) = upto N x.val ++ [x] := upto_succ x.isLt
theorem upto_vals (N : Nat) : (upto N N).map Fin.val = List.range N := by
  apply List.ext_getElem
  · simp [upto]
  · intro i h1 h2; simp [upto]
theorem upto_length {N k : Nat} (h : k ≤ N) : (upto N k).length = k := by simp [upto]; omega
theorem mem_upto {N k : Nat} {c : Fin N} : c ∈ upto N k ↔ c.val < k := by
  unfold upto
  rw [List.mem_take_iff_getElem]
  constructor
  · rintro ⟨i, hi, rfl⟩
    simp at hi ⊢; omega
  · intro h
    exact ⟨c.val, by simp only [List.length_finRange]; have := c.isLt; omega, by simp⟩
/-- what a round of the caller keeps: blocks below n₀, and the iterator's own box -/
def KpC (n₀ Bs : Nat) (A B : World) : Prop := Below n₀ A B ∧ B.cell? ⟨Bs, 0, none⟩ = A.cell? ⟨Bs, 0, none⟩
theorem KpC.trans {n₀ Bs : Nat} {A B C : World} (h : KpC n₀ Bs A B) (k : KpC n₀ Bs B C) : KpC n₀ Bs A C := ⟨h.1.trans k.1, k.2.trans h.2⟩
theorem KpC.put {n₀ Bs : Nat} {w : World} (hn : n₀ ≤ w.heap.size) (hB : Bs < w.heap.size) (W : World) (l : Nat) (o o' : Obj) (hl : w.heap.size ≤ l) (h : W.heap[l]? = some o) (h1 : o.isCells = false) (h2 : o.isWalk = false) : KpC n₀ Bs W (W.putObj l o') :=
  ⟨belowK_b hn W l o o' hl h h1 h2, World.cell?_of_block (World.putObj_heap_other (by show Bs ≠ l; omega))⟩
theorem KpC.refl (n₀ Bs : Nat) (W : World) : KpC n₀ Bs W W := ⟨Below.refl _ _, rfl⟩

set_option maxRecDepth 100000 in
set_option maxHeartbeats 2000000 in
/-- choiceSums's closure, for every loop body that keeps what lay below n₀. -/
theorem cs1_in (n l Bs n₀ : Nat) (a : Option Addr) (cap : Nat) (zs : List Int) (hl : zs.length ≤ 20) (hg : good zs) (J Jx : List (Fin (2 ^ zs.length)) → World → Prop)
    (hY : ∀ pre x W, J pre W → pre.length < 2 ^ zs.length → YieldAt Fence.wide (n - 1) Tryz.prog l #[.int .i64 (x.val : Int), .int .i64 (csum zs x.val)] W fun e W' =>
      (e = .returned (.bool true) ∧ J (pre ++ [x]) W' ∧ KpC n₀ Bs W W') ∨ (e = .returned (.bool false) ∧ Jx (pre ++ [x]) W'))
    (W : World) (hBs : W.cell? ⟨Bs, 0, none⟩ = some (.slice a zs.length cap)) (hI : ∀ W', Below n₀ W W' → IntsAt W' a zs) (h0 : J [] W) :
    CallsIn Fence.wide n Tryz.prog 163 #[.func (.yield l) #[] #[], .pointer (some ⟨Bs, 0, none⟩)] W fun e W' => (∃ v, e = .returned v) ∧
      (J (upto (2 ^ zs.length) (2 ^ zs.length)) W' ∨ (∃ k, k ≤ 2 ^ zs.length ∧ Jx (upto (2 ^ zs.length) k) W')) := by
  have hp := pow_bd zs.length hl
  refine callsIn_of_wp Tryz.func163 rfl trivial ?_ rfl
  simp only [Tryz.ntmps163, List.size_toArray, List.length_cons, List.length_nil, Nat.reduceAdd, Nat.reduceSub, Array.replicate_succ, Array.replicate_zero, List.push_toArray, List.append_toArray, List.nil_append, List.cons_append]
  gi_wp2
  gi_loopw [7] (fun i wr => ∃ k : Nat, k ≤ 2 ^ zs.length ∧ i = .int .i64 k ∧ J (upto (2 ^ zs.length) k) wr ∧ KpC n₀ Bs W wr)
    (fun i _ => 2 ^ zs.length - (intOf i).toNat)
  case atStart => exact ⟨0, Nat.zero_le _, rfl, h0, KpC.refl _ _ _⟩
  case round =>
    obtain ⟨k, hk, rfl, hJs, hnx⟩ := hrel
    have hk2 : (k : Int) ≤ 2 ^ zs.length := by exact_mod_cast hk
    have hcs : wr.cell? ⟨Bs, 0, none⟩ = some (.slice a zs.length cap) := hnx.2.trans hBs
    by_cases hlt : k < 2 ^ zs.length
    · obtain ⟨x, rfl⟩ : ∃ x : Fin (2 ^ zs.length), x.val = k := ⟨⟨k, hlt⟩, rfl⟩
      obtain ⟨fn, tmps, assign, body, hy, hR⟩ := hY _ x wr hJs (by rw [upto_length hk]; exact hlt)
      have hlt2 : (x.val : Int) < 2 ^ zs.length := by exact_mod_cast hlt
      have HL := Lib.hid hlt
      clear hlt hk
      gi_wp2_with (refine ⟨trivial, (fun h => by cases h), ?_⟩; gi_at_call 164; refine (callsIn_wide.2 (csum_any x.val a cap zs _ (by omega) (by omega) hg (hI _ hnx.1))).mono ?_; rintro e w' ⟨rfl, rfl⟩)
      refine ⟨(fun h => by cases h), hR.mono ?_⟩
      rintro e W3 (⟨rfl, hJ3, hk3⟩ | ⟨rfl, hJx3⟩)
      · gi_wp2
        go_roundw
        case rel => exact ⟨x.val + 1, HL.out, by go_num, by rw [upto_succ']; exact hJ3, hnx.trans hk3⟩
        case measure => have := HL.out; simp [intOf]; omega
      · gi_wp2
        refine bodyPost_ret (results_none rfl _ _ _) rfl ?_
        exact ⟨⟨_, rfl⟩,   .inr ⟨x.val + 1, HL.out, by rw [upto_succ']; exact hJx3⟩⟩
    · obtain rfl : k = 2 ^ zs.length := by omega
      gi_wp2
      go_end0
      exact ⟨⟨_, rfl⟩, .inl hJs⟩

/-- choiceSums(a) hands back a value that goes through all choices, or stops. -/
theorem cs_stops (n Bs n₀ : Nat) (a : Option Addr) (cap : Nat) (zs : List Int) (hl : zs.length ≤ 20) (hg : good zs) (w : World) (hBs : Bs < w.heap.size) (hn₀ : n₀ ≤ w.heap.size)
    (hc : w.cell? ⟨Bs, 0, none⟩ = some (.slice a zs.length cap)) (hI : ∀ W', Below n₀ w W' → IntsAt W' a zs) :
    SeqStopsK Fence.wide n Tryz.prog 163 #[.pointer (some ⟨Bs, 0, none⟩)] (fun c : Fin (2 ^ zs.length) => #[Value.int .i64 (c.val : Int), Value.int .i64 (csum zs c.val)]) (KpC n₀ Bs) (fun ys => ys = upto (2 ^ zs.length) (2 ^ zs.length)) (fun pre => ∃ k, k ≤ 2 ^ zs.length ∧ pre = upto (2 ^ zs.length) k) (2 ^ zs.length) w := fun l J Jx W hW _ _ hY h0 => by
  refine (cs1_in n l Bs n₀ a cap zs hl hg J Jx hY W ((hW.cell (p := ⟨Bs, 0, none⟩) hBs).trans hc) (fun W' h => hI W' ((hW.mono hn₀).trans h)) h0).mono ?_
  rintro e W' ⟨he, h | ⟨k, hk, h⟩⟩
  · exact ⟨he, .inl ⟨_, rfl, h⟩⟩
  · exact ⟨he, .inr ⟨_, ⟨k, hk, rfl⟩, h⟩⟩

theorem choiceSums_in (n : Nat) (a : Option Addr) (len cap : Nat) (w : World) :
    CallsIn Fence.wide n Tryz.prog 137 #[.slice a len cap] w fun e w' => e = .returned (.func (.func 163) #[] #[.pointer (some ⟨w.heap.size, 0, none⟩)]) ∧ w.alloc (.cells #[.slice a len cap] 23) = w' := by
  refine callsIn_of_wp Tryz.func137 rfl trivial ?_ rfl
  simp only [Tryz.ntmps137, List.size_toArray, List.length_cons, List.length_nil, Nat.reduceAdd, Nat.reduceSub, Array.replicate_succ, Array.replicate_zero, List.push_toArray, List.append_toArray, List.nil_append, List.cons_append]
  gi_wp2
  go_ret
  exact ⟨rfl, rfl⟩

theorem _root_.Go.Boxed.keptSet {W : World} {B g j : Nat} {t : TypeId} {v : Value} (h : Boxed W B t v) (hne : B ≠ g) (u : Value) : Boxed ((W.setCell ⟨g, j, none⟩ u).drew) B t v :=
  (h.kept (grownBy_set W g j u) (fun e => hne (by cases e; rfl)) : Boxed (W.setCell ⟨g, j, none⟩ u) B t v)
theorem _root_.Go.Boxed.keptSet' {W : World} {B g j : Nat} {t : TypeId} {v : Value} (h : Boxed W B t v) (hne : B ≠ g) (u : Value) : Boxed (W.setCell ⟨g, j, none⟩ u) B t v :=
  h.kept (grownBy_set W g j u) (fun e => hne (by cases e; rfl))
/-- several boxes at once -/
def BoxL (W : World) : List (Nat × TypeId × Value) → Prop
  | [] => True
  | p :: r => Boxed W p.1 p.2.1 p.2.2 ∧ BoxL W r
theorem BoxL.kept {W W' : World} {row : Option Nat} {l : List (Nat × TypeId × Value)} (h : BoxL W l) (hg : W.grownBy W' row) (hne : ∀ p ∈ l, some p.1 ≠ row) : BoxL W' l := by
  induction l with
  | nil => trivial
  | cons p r ih => exact ⟨h.1.kept hg (hne p (List.mem_cons_self ..)), ih h.2 (fun q hq => hne q (List.mem_cons_of_mem _ hq))⟩
theorem BoxL.isCells {W : World} {l : List (Nat × TypeId × Value)} (h : BoxL W l) : ∀ p ∈ l, ∃ o : Obj, W.heap[p.1]? = some o ∧ o.isCells = true := by
  induction l with
  | nil => intro p hp; cases hp
  | cons q r ih =>
    intro p hp
    rcases List.mem_cons.1 hp with rfl | hp
    · exact ⟨_, h.1, rfl⟩
    · exact ih h.2 p hp
theorem boxL_own {β : Type} (f : β → List (Nat × TypeId × Value)) : Own (fun s W => BoxL W (f s)) := fun s X Y row hs hg hrow =>
  hs.kept hg (fun p hp e' => by
    obtain ⟨o, ho, hc⟩ := hrow p.1 e'.symm
    obtain ⟨o', ho', hc'⟩ := hs.isCells p hp
    rw [ho] at ho'; cases ho'; rw [hc] at hc'; cases hc')
theorem BoxL.alloc {W : World} {l : List (Nat × TypeId × Value)} (h : BoxL W l) (o : Obj) : BoxL (W.alloc o) l := h.kept (World.grownBy_alloc W o none) (fun _ _ => by simp)

/-! a search through all choices: nothing found yet; found and left -/
def NoneYet {N : Nat} (p : Nat → Bool) (pre : List (Fin N)) : Prop := ∀ x ∈ pre, p x.val = false
theorem NoneYet.nil {N : Nat} (p : Nat → Bool) : NoneYet p ([] : List (Fin N)) := fun x hx => by cases hx
theorem NoneYet.snoc {N : Nat} {p : Nat → Bool} {pre : List (Fin N)} {x : Fin N} (h : NoneYet p pre) (hx : p x.val = false) : NoneYet p (pre ++ [x]) := fun y hy => by
  rcases List.mem_append.1 hy with hy | hy
  · exact h y hy
  · rw [List.mem_singleton.1 hy]; exact hx
def LastHit {N : Nat} (p : Nat → Bool) (pre : List (Fin N)) (last : Fin N) : Prop := ∃ ini, pre = ini ++ [last] ∧ NoneYet p ini ∧ p last.val = true
def SrchI {N : Nat} (bxs : List (Nat × TypeId × Value)) (p : Nat → Bool) (B : Nat) (w : World) (pre : List (Fin N)) (W : World) : Prop := (NoneYet p pre ∧ BoxL W bxs) ∧ Below B w W
def SrchX {N : Nat} (rb ob : Nat) (p : Nat → Bool) (B : Nat) (w : World) (c : Code) (pre : List (Fin N)) (W : World) : Prop :=
  (c = .ret ∧ ∃ last, LastHit p pre last ∧ BoxL W [(rb, 3, .int .i64 (last.val : Int)), (ob, 4, .bool true)]) ∧ Below B w W
theorem srchI_own {N : Nat} {bxs : List (Nat × TypeId × Value)} {p : Nat → Bool} {B n : Nat} {w : World} (h1 : B ≤ w.heap.size) (h2 : B ≤ n) : OwnFrom n (SrchI (N := N) bxs p B w) :=
  OwnFrom.and (OwnFrom.and (ownFrom_pure _ _) ((boxL_own _).from _)) (ownFrom_below h1 h2)
theorem srchX_own {N : Nat} {rb ob : Nat} {p : Nat → Bool} {B n : Nat} {w : World} (h1 : B ≤ w.heap.size) (h2 : B ≤ n) (c : Code) : OwnFrom n (SrchX (N := N) rb ob p B w c) :=
  OwnFrom.and (fun s X Y row hs hg hr => by
      obtain ⟨hc, last, e1, e4⟩ := hs
      exact ⟨hc, last, e1, boxL_own (fun (_ : Unit) => _) () X Y row e4 hg (fun r e => (hr r e).2)⟩) (ownFrom_below h1 h2)
def FoundPost (w : World) (p : Nat → Bool) (m : Nat) (e : Ending) (w' : World) : Prop := ∃ r ok, e = .returned (.tuple #[.int .i64 r, .bool ok]) ∧ FirstIs p m r ok ∧ Below w.heap.size w w'
theorem firstIs_none {N : Nat} {p : Nat → Bool} (h : NoneYet p (upto N N)) : FirstIs p N 0 false := .inr ⟨rfl, rfl, fun d hd => h ⟨d, hd⟩ (mem_upto.2 hd)⟩
theorem firstIs_hit {N k : Nat} {p : Nat → Bool} {last : Fin N} (hk : k ≤ N) (h : LastHit p (upto N k) last) : FirstIs p N (last.val : Int) true := by
  obtain ⟨ini, e1, e2, e3⟩ := h
  obtain ⟨k', rfl⟩ : ∃ k', k = k' + 1 := by
    cases k with
    | zero => simp [upto] at e1
    | succ k' => exact ⟨k', rfl⟩
  rw [upto_succ (by omega)] at e1
  obtain ⟨rfl, e5⟩ := List.append_inj' e1 rfl
  obtain rfl : (⟨k', by omega⟩ : Fin N) = last := by simpa using e5
  exact .inl ⟨rfl, k', rfl, by omega, e3, fun d hd => e2 ⟨d, by omega⟩ (mem_upto.2 hd)⟩

/-- the end of a function whose two results lie in boxes, behind a range over a function -/
theorem endCells {n : Nat} {fn : Func} {R : Ending → World → Prop} {tmps : Array Value} {W : World} {D rb ob : Nat} {r : Int} {ok : Bool} (s t : Tmp) (hres : fn.results = #[.cell s 3, .cell t 4])
    (h1 : tmps.getD s undef = .pointer (some ⟨rb, 0, none⟩)) (h2 : tmps.getD t undef = .pointer (some ⟨ob, 0, none⟩)) (hb1 : Boxed W rb 3 (.int .i64 r)) (hb2 : Boxed W ob 4 (.bool ok))
    (hK : W.heap[D]? = some (.deferred (some []))) (hR : R (.returned (.tuple #[.int .i64 r, .bool ok])) (W.putObj D (.deferred none))) :
    bodyPostM Fence.wide n Tryz.prog fn R .ret { tmps := tmps, defers := [{ target := .collected D, args := #[] }] } W := by
  refine ⟨by simp, .inl ⟨_, _, rfl, run_takeDeferred hK, ?_⟩⟩
  have c1 := cell_kept hb1.cell (grownBy_putObj' W D (.deferred none)) (fun r e => by cases e; exact ⟨_, hK, rfl⟩)
  have c2 := cell_kept hb2.cell (grownBy_putObj' W D (.deferred none)) (fun r e => by cases e; exact ⟨_, hK, rfl⟩)
  refine ⟨_, ?_, hR⟩
  simp only [Array.getD_eq_getD_getElem?] at h1 h2
  simp [results, hres, go_sem, h1, h2, c1, c2]
/-- the end of a function whose result lies in temporaries, behind a range over a function -/
theorem below_put {w W : World} {D : Nat} (hB : Below w.heap.size w W) (hD : w.heap.size ≤ D) (hK : W.heap[D]? = some (.deferred (some []))) : Below w.heap.size w (W.putObj D (.deferred none)) :=
  hB.trans (belowK_b (w := w) (Nat.le_refl _) W D _ _ hD hK rfl rfl)
end Go.Proofs.YtdpapalfafjncaaGreatDoor
namespace Go.Proofs.YtdpapalfafjncaaGreatDoor
open Go.RowKit

theorem restsTold_any (a : Option Addr) (cap : Nat) (zs : List Int) (n : Int) (w : World) (hl : zs.length ≤ 4294967296) (hI : IntsAt w a zs) :
    Calls Tryz.prog 149 #[.slice a zs.length cap, .int .i64 n] w fun e w' => e = .returned (.bool (restOk zs n)) ∧ w = w' := by
  by_cases hz : inL zs = true
  case neg =>
    have hz' : inL zs = false := by simpa using hz
    have e : restOk zs n = false := by simp [restOk, hz']
    rw [e]
    have HZ := Lib.hid hz'
    clear hz hz' e
    go_enter Tryz.func149, Tryz.ntmps149
    go_wp2_with (go_at_call 16; refine (SumIn_any a cap zs w (by omega) hI).mono ?_; rw [HZ.out]; rintro e w' ⟨rfl, rfl⟩)
    go_ret
    exact ⟨rfl, rfl⟩
  have e : restOk zs n = (decide (1 ≤ n) && decide (n ≤ 6)) := by simp [restOk, hz]
  rw [e]
  have HZ := Lib.hid hz
  clear hz e
  by_cases h1 : 1 ≤ n
  all_goals
    go_enter Tryz.func149, Tryz.ntmps149
    go_wp2_with (go_at_call 16; refine (SumIn_any a cap zs w (by omega) hI).mono ?_; rw [HZ.out]; rintro e w' ⟨rfl, rfl⟩)
    go_ret
    exact ⟨ret_bool (by rw [Bool.eq_iff_iff]; simp; omega), rfl⟩

def FoundPostD (w : World) (p : Nat → Bool) (m : Nat) (e : Ending) (w' : World) : Prop := ∃ r ok, e = .returned (.tuple #[.int .i64 r, .bool ok]) ∧ FirstIs p m r ok ∧ ∃ n, w' = w.drewN n

end Go.Proofs.YtdpapalfafjncaaGreatDoor
namespace Go.Proofs.YtdpapalfafjncaaGreatDoor
/-- how many c below m have p -/
def cntN (p : Nat → Bool) : Nat → Nat
  | 0 => 0
  | m + 1 => cntN p m + if p m then 1 else 0
theorem cntN_le (p : Nat → Bool) (m : Nat) : cntN p m ≤ m := by
  induction m with
  | zero => exact Nat.le_refl _
  | succ m ih => simp only [cntN]; split <;> omega
theorem cntN_congr {p q : Nat → Bool} {m : Nat} (h : ∀ c, c < m → p c = q c) : cntN p m = cntN q m := by
  induction m with
  | zero => rfl
  | succ m ih => rw [cntN, cntN, ih (fun c hc => h c (by omega)), h m (by omega)]
/-- for each key below N how many c below m have it -/
def tally (key : Nat → Option Nat) (N m : Nat) : List Int := (List.range N).map fun v => ((cntN (fun c => key c == some v) m : Nat) : Int)
theorem tally_length (key : Nat → Option Nat) (N m : Nat) : (tally key N m).length = N := by simp [tally]
theorem tally_get (key : Nat → Option Nat) (N m v : Nat) (h : v < N) : (tally key N m)[v]?.getD 0 = ((cntN (fun c => key c == some v) m : Nat) : Int) := by simp [tally, h]
theorem tally_zero (key : Nat → Option Nat) (N : Nat) : tally key N 0 = List.replicate N 0 := by
  apply List.ext_getElem
  · simp [tally]
  · intro i h1 h2; simp [tally, cntN]
theorem tally_none {key : Nat → Option Nat} {N m : Nat} (h : key m = none) : tally key N (m + 1) = tally key N m := by
  apply List.ext_getElem
  · simp [tally]
  · intro i h1 h2; simp [tally, cntN, h]
theorem tally_some {key : Nat → Option Nat} {N m v : Nat} (h : key m = some v) : (tally key N m).set v ((tally key N m)[v]?.getD 0 + 1) = tally key N (m + 1) := by
  apply List.ext_getElem
  · simp [tally]
  · intro i h1 h2
    have hi : i < N := by simpa [tally] using h1
    rw [List.getElem_set]
    by_cases e : v = i
    · subst e
      rw [if_pos rfl, tally_get _ _ _ _ hi]
      simp [tally, cntN, h]
    · rw [if_neg e]
      simp [tally, cntN, h, e]
theorem tally_bd (key : Nat → Option Nat) (N m v : Nat) : 0 ≤ (tally key N m)[v]?.getD 0 ∧ (tally key N m)[v]?.getD 0 ≤ m := by
  by_cases h : v < N
  · rw [tally_get _ _ _ _ h]
    have := cntN_le (fun c => key c == some v) m
    omega
  · simp [tally, h]
theorem tally_mem {key : Nat → Option Nat} {N m : Nat} {x : Int} (h : x ∈ tally key N m) : 0 ≤ x ∧ x ≤ m := by
  simp only [tally, List.mem_map, List.mem_range] at h
  obtain ⟨v, hv, rfl⟩ := h
  have := cntN_le (fun c => key c == some v) m
  omega
/-- the same over a list of numbers -/
def tallyL (key : Nat → Option Nat) (N : Nat) (l : List Nat) : List Int := (List.range N).map fun v => ((l.countP (fun c => key c == some v) : Nat) : Int)
theorem tallyL_length (key : Nat → Option Nat) (N : Nat) (l : List Nat) : (tallyL key N l).length = N := by simp [tallyL]
theorem tallyL_get (key : Nat → Option Nat) (N v : Nat) (l : List Nat) (h : v < N) : (tallyL key N l)[v]?.getD 0 = ((l.countP (fun c => key c == some v) : Nat) : Int) := by simp [tallyL, h]
theorem tallyL_nil (key : Nat → Option Nat) (N : Nat) : tallyL key N [] = List.replicate N 0 := by
  apply List.ext_getElem
  · simp [tallyL]
  · intro i h1 h2; simp [tallyL]
theorem tallyL_none {key : Nat → Option Nat} {N m : Nat} {l : List Nat} (h : key m = none) : tallyL key N (l ++ [m]) = tallyL key N l := by
  apply List.ext_getElem
  · simp [tallyL]
  · intro i h1 h2; simp [tallyL, List.countP_append, h]
theorem tallyL_some {key : Nat → Option Nat} {N m v : Nat} {l : List Nat} (h : key m = some v) : (tallyL key N l).set v ((tallyL key N l)[v]?.getD 0 + 1) = tallyL key N (l ++ [m]) := by
  apply List.ext_getElem
  · simp [tallyL]
  · intro i h1 h2
    have hi : i < N := by simpa [tallyL] using h1
    rw [List.getElem_set]
    by_cases e : v = i
    · subst e
      rw [if_pos rfl, tallyL_get _ _ _ _ hi]
      simp [tallyL, List.countP_append, h]
    · rw [if_neg e]
      simp [tallyL, List.countP_append, h, e]
theorem tallyL_bd (key : Nat → Option Nat) (N v : Nat) (l : List Nat) : 0 ≤ (tallyL key N l)[v]?.getD 0 ∧ (tallyL key N l)[v]?.getD 0 ≤ l.length := by
  by_cases h : v < N
  · rw [tallyL_get _ _ _ _ h]
    have := List.countP_le_length (p := fun c => key c == some v) (l := l)
    omega
  · simp [tallyL, h]
theorem countP_range (p : Nat → Bool) (m : Nat) : (List.range m).countP p = cntN p m := by
  induction m with
  | zero => rfl
  | succ m ih => rw [List.range_succ, List.countP_append, ih, cntN]; simp [List.countP_cons, List.countP_nil]
theorem tallyL_range (key : Nat → Option Nat) (N m : Nat) : tallyL key N (List.range m) = tally key N m := by
  unfold tallyL tally
  simp only [countP_range]
/-- the keys of chapter 8: the rest of a sum -/
def restKey (zs : List Int) (n : Int) (c : Nat) : Option Nat := some (csum zs c % n).toNat
/-- RestCounts's list -/
def restC (zs : List Int) (n : Int) : List Int := tally (restKey zs n) n.toNat (2 ^ zs.length)
/-- the places below k with a number greater than 0 -/
def reachK (cs : List Int) (k : Nat) : List Int := ((List.range k).filter (fun i => decide (0 < cs[i]?.getD 0))).map (fun i : Nat => (i : Int))
theorem reachK_yes {cs : List Int} {k : Nat} (h : 0 < cs[k]?.getD 0) : reachK cs (k + 1) = reachK cs k ++ [(k : Int)] := by
  simp [reachK, List.range_succ, List.filter_append, h]
theorem reachK_no {cs : List Int} {k : Nat} (h : ¬ 0 < cs[k]?.getD 0) : reachK cs (k + 1) = reachK cs k := by
  simp [reachK, List.range_succ, List.filter_append, h]
theorem reachK_length (cs : List Int) (k : Nat) : (reachK cs k).length ≤ k := by
  unfold reachK
  rw [List.length_map]
  exact Nat.le_trans (List.length_filter_le _ _) (by simp)
def reachL (cs : List Int) : List Int := reachK cs cs.length
end Go.Proofs.YtdpapalfafjncaaGreatDoor
namespace Go.Proofs.YtdpapalfafjncaaGreatDoor
open Go.RowKit

/-- a told list and true, or an empty one and false -/
def ListR (w : World) (ok : Bool) (zs : List Int) (e : Ending) (w' : World) : Prop :=
  ∃ v, e = .returned (.tuple #[v, .bool ok]) ∧ OwnI w' w.heap.size v zs ∧ Below w.heap.size w w'

/-- what a row of marks from k holds -/
def marks (k : Int) : Nat → List Int
  | 0 => []
  | n + 1 => k :: marks (k + 1) n
theorem marks_length (k : Int) (n : Nat) : (marks k n).length = n := by
  induction n generalizing k with
  | zero => rfl
  | succ n ih => simp [marks, ih]
theorem marks_get (k : Int) (n j : Nat) (h : j < n) : (marks k n)[j]?.getD 0 = k + j := by
  induction n generalizing k j with
  | zero => omega
  | succ n ih =>
    cases j with
    | zero => simp [marks]
    | succ j => simp only [marks, List.getElem?_cons_succ]; rw [ih (k + 1) j (by omega)]; omega
theorem marks_snoc (k : Int) (n : Nat) : marks k (n + 1) = marks k n ++ [k + n] := by
  induction n generalizing k with
  | zero => simp [marks]
  | succ n ih => rw [marks, ih (k + 1), marks, List.cons_append]; congr 2; congr 1; omega
theorem marks_fill (k : Int) (zs : List Int) (j : Nat) (h : j < zs.length) : (marks k j ++ zs.drop j).set j (k + j) = marks k (j + 1) ++ zs.drop (j + 1) := by
  rw [marks_snoc, List.set_append_right _ _ (by rw [marks_length]; omega), marks_length, Nat.sub_self]
  rw [List.drop_eq_getElem_cons h, List.set_cons_zero]
  simp
theorem fill_len (k : Int) (zs : List Int) (j : Nat) (h : j ≤ zs.length) : (marks k j ++ zs.drop j).length = zs.length := by simp [marks_length]; omega

def MarkPost (w : World) (B : Nat) (v : Value) (k : Int) (n : Nat) (e : Ending) (w' : World) : Prop := e = .returned (.int .i64 (k + n)) ∧ OwnI w' B v (marks k n) ∧ w.grownBy w' v.ownBlock

end Go.Proofs.YtdpapalfafjncaaGreatDoor
namespace Go.Proofs.YtdpapalfafjncaaGreatDoor
open Go.RowKit Go.Shelf
attribute [local go_sem] Oper.semAt_some

/-- a tally in a boxed slice, while the choices go by -/
def TalI (N B0 bx : Nat) (key : Nat → Option Nat) (L : Nat) (v : Value) (bxs : List (Nat × TypeId × Value)) (w : World) (pre : List (Fin N)) (W : World) : Prop :=
  (OwnI W B0 v (tallyL key L (pre.map Fin.val)) ∧ BoxL W ((bx, 23, v) :: bxs)) ∧ Below w.heap.size w W
theorem ownI_own {β : Type} (B0 : Nat) (v : Value) (f : β → List Int) : Own (fun s W => OwnI W B0 v (f s)) := fun s X Y row hs hg hrow =>
  hs.kept hg (by
    cases hv : v.ownBlock with
    | none => exact .inl rfl
    | some g =>
      refine .inr (fun e => ?_)
      obtain ⟨o, ho, hc⟩ := hrow g e.symm
      rcases hs.2 with ⟨rfl, _⟩ | ⟨g', cap, cur, rfl, _, hg', _⟩
      · simp [Value.ownBlock] at hv
      · simp [Value.ownBlock] at hv
        subst hv
        rw [ho] at hg'; cases hg'; cases hc)
theorem talI_own {N B0 bx L : Nat} {key : Nat → Option Nat} {v : Value} {bxs : List (Nat × TypeId × Value)} {w : World} {n : Nat} (h2 : w.heap.size ≤ n) : OwnFrom n (TalI N B0 bx key L v bxs w) :=
  OwnFrom.and (OwnFrom.and ((ownI_own _ _ _).from _) ((boxL_own _).from _)) (ownFrom_below (Nat.le_refl _) h2)

set_option maxRecDepth 100000 in
set_option maxHeartbeats 2000000 in
theorem RestCounts_in (n : Nat) (hn : 1 ≤ n) (a : Option Addr) (cap : Nat) (zs : List Int) (q : Int) (hz : restOk zs q = true) (w : World) (hI : IntsAt w a zs) :
    CallsIn Fence.wide n Tryz.prog 121 #[.slice a zs.length cap, .int .i64 q] w (ListR w true (restC zs q)) := by
  have hq := ((restOk_iff zs q).1 hz).2
  have hz' := (inL_iff zs).1 ((restOk_iff zs q).1 hz).1
  have HZ := Lib.hid hz
  clear hz
  obtain ⟨N, rfl⟩ := Int.eq_ofNat_of_zero_le (show 0 ≤ q by omega)
  refine callsIn_of_wp_marks Tryz.func121 rfl trivial ?_ rfl
  simp only [Tryz.ntmps121, List.size_toArray, List.length_cons, List.length_nil, Nat.reduceAdd, Nat.reduceSub, Array.replicate_succ, Array.replicate_zero, List.push_toArray, List.append_toArray, List.nil_append, List.cons_append]
  have hw1 : ∀ o1, IntsAt (w.alloc o1) a zs := fun o1 => hI.below ((Below.refl _ w).alloc (Nat.le_refl _) _)
  gi_wp2_with (first | (refine ⟨trivial, ?_⟩; gi_at_call 149; refine (callsIn_wide.2 (restsTold_any a cap zs _ _ (by omega) (hw1 _))).mono ?_; rw [HZ.out]; rintro e w' ⟨rfl, rfl⟩) | (gi_at_make; refine makeIIn _ rfl _ _ rfl N _ rfl rfl rfl (by omega) ?_; intro w1 hO hG) | (refine ⟨trivial, ?_⟩; gi_at_call 137; refine (choiceSums_in _ _ _ _ _).mono ?_; rintro e w' ⟨rfl, rfl⟩))
  have g1 : w.heap.size + 1 ≤ w1.heap.size := by have := hG.size; simpa using this
  rw [World.size_alloc] at hO
  have hg2 : w.heap.size + 1 < w1.heap.size := (hO.lt _ rfl).2
  have b1 : Boxed w1 w.heap.size 3 (.int .i64 N) := (Boxed.new w 3 (.int .i64 N)).kept hG (by simp)
  have b2 := Boxed.new w1 23 (.slice (some ⟨w.heap.size + 1, 0, none⟩) N N)
  have b3 := Boxed.new (w1.alloc (.cells #[.slice (some ⟨w.heap.size + 1, 0, none⟩) N N] 23)) 23 (.slice a zs.length cap)
  rw [World.size_alloc] at b3
  have hB1 : Below w.heap.size w w1 := ((Below.refl _ w).alloc (Nat.le_refl _) _).grown hG (by simp) (fun k hk => by cases hk)
  have hB0 : Below w.heap.size w ((w1.alloc (.cells #[.slice (some ⟨w.heap.size + 1, 0, none⟩) N N] 23)).alloc (.cells #[.slice a zs.length cap] 23)) := (hB1.alloc (by omega) _).alloc (by simp; omega) _
  have hbx : BoxL ((w1.alloc (.cells #[.slice (some ⟨w.heap.size + 1, 0, none⟩) N N] 23)).alloc (.cells #[.slice a zs.length cap] 23)) [(w1.heap.size, 23, .slice (some ⟨w.heap.size + 1, 0, none⟩) N N), (w.heap.size, 3, .int .i64 N)] :=
    ⟨b2.alloc _, (b1.alloc _).alloc _, trivial⟩
  have hOO : OwnI ((w1.alloc (.cells #[.slice (some ⟨w.heap.size + 1, 0, none⟩) N N] 23)).alloc (.cells #[.slice a zs.length cap] 23)) w.heap.size (.slice (some ⟨w.heap.size + 1, 0, none⟩) N N) (List.replicate N 0) :=
    OwnI.alloc (OwnI.alloc (hO.mono (by omega)) _) _
  have hIW : ∀ W', Below w.heap.size ((w1.alloc (.cells #[.slice (some ⟨w.heap.size + 1, 0, none⟩) N N] 23)).alloc (.cells #[.slice a zs.length cap] 23)) W' → IntsAt W' a zs := fun W' h => hI.below (hB0.trans h)
  have hsz : ((w1.alloc (.cells #[.slice (some ⟨w.heap.size + 1, 0, none⟩) N N] 23)).alloc (.cells #[.slice a zs.length cap] 23)).heap.size = w1.heap.size + 1 + 1 := by simp
  clear b1 b2 hw1 hO hG
  generalize ((w1.alloc (.cells #[.slice (some ⟨w.heap.size + 1, 0, none⟩) N N] 23)).alloc (.cells #[.slice a zs.length cap] 23)) = W0 at *
  refine wpIn_rangeFunc_ownG rfl hn (gf := 163) (lb := #[.pointer (some ⟨w1.heap.size + 1, 0, none⟩)]) rfl trivial (enters_of Tryz.func163 (by kernel_rfl) rfl)
    (cs_stops (n - 1) (w1.heap.size + 1) w.heap.size a cap zs (by omega) hz'.2 W0 (by omega) (by omega) b3.cell hIW) KpC.trans (KpC.put (by omega) (by omega)) (Below.refl _ _) (fun _ => rfl)
    (TalI (2 ^ zs.length) w.heap.size w1.heap.size (restKey zs N) N (.slice (some ⟨w.heap.size + 1, 0, none⟩) N N) [(w.heap.size, 3, .int .i64 N)] w)
    (fun _ _ _ => False)
    (talI_own (by omega)) (fun _ _ _ _ _ hs _ _ => hs) ⟨⟨by rw [List.map_nil, tallyL_nil]; exact hOO, hbx⟩, hB0⟩ ?a1 ?assign ?body ?done ?stop
  case assign =>
    intro l x W K hK
    gi_wp2
    exact hK
  case body =>
    rintro l pre ⟨c, hcN⟩ W ⟨⟨hOr, hbS, hbq, _⟩, hB⟩ hlen
    have hmx : Tryz.prog.follows .mixedOrders = true := by kernel_rfl
    have cS := hbS.cell
    have cq := hbq.cell
    have hs := csum_bd hz'.2 c
    have hs2 := tot_bd hz'.2
    have hm1 := Int.emod_nonneg (csum zs c) (show (N : Int) ≠ 0 by omega)
    have hm2 := Int.emod_lt_of_pos (csum zs c) (show 0 < (N : Int) by omega)
    have HK : Hid (restKey zs N c = some (csum zs c % N).toNat) := rfl
    have hbd := tallyL_bd (restKey zs N) N (csum zs c % N).toNat (pre.map Fin.val)
    have hlenL := tallyL_length (restKey zs N) N (pre.map Fin.val)
    obtain ⟨g, cp, he, hg3, hg4, hcf⟩ := hOr.at (by omega)
    rw [hlenL] at he
    simp only [Value.slice.injEq, Option.some.injEq, Addr.mk.injEq, and_true, true_and] at he
    obtain ⟨rfl, rfl⟩ := he
    have hc1 := (hcf (csum zs c % N).toNat (by omega)).1
    have hf1 := (hcf (csum zs c % N).toNat (by omega)).2
    have HO := Lib.hid hOr
    have HL := Lib.hid hlenL
    clear hcf hOr hlenL
    have HS := Lib.hid (tallyL_some (N := N) (l := pre.map Fin.val) HK.out)
    have hpl : pre.length ≤ 1048576 := by have := pow_bd zs.length (by omega); have h2 : ((2 ^ zs.length : Nat) : Int) = 2 ^ zs.length := by simp
                                          omega
    rw [List.length_map] at hbd
    generalize (tallyL (restKey zs N) N (pre.map Fin.val))[(csum zs c % N).toNat]?.getD 0 = y at hc1 hbd HS
    generalize hr : csum zs c % N = r at hc1 hf1 hm1 hm2 HS HK
    clear hlen
    gi_wp2
    have ht : (csum zs c).tmod N = r := by rw [Int.tmod_eq_emod_of_nonneg hs.1]; exact hr
    have hw : IntKind.i64.wrap (y + 1) = y + 1 := IntWalk.i64_in _ (by omega)
    clear hr
    gi_region
    all_goals gi_wp2
    all_goals
      refine ⟨((KeepsOthers.setCell _ _ _).trans (KeepsOthers.drew _)).from _, ⟨((Below.refl _ _).setCell (p := ⟨_, _, none⟩) (by simp) _).drew, (cell_drew_own _ _).trans (World.cell?_setCell_other _ _ _ _ (by simp <;> omega))⟩, ⟨?_, hbS.keptSet (by omega) _, hbq.keptSet (by omega) _, trivial⟩, (hB.setCell (p := ⟨_, _, none⟩) (by simp) _).drew⟩
      rw [List.map_append, List.map_cons, List.map_nil, ← HS.out]
      exact HO.out.put HL.out _ _
  case done =>
    rintro D ys W hD rfl ⟨⟨hOr, hbS, hbq, _⟩, hB⟩ hK
    have cS := hbS.cell
    gi_wp2
    refine ⟨by simp, .inl ⟨_, _, rfl, run_takeDeferred hK, ?_⟩⟩
    refine ⟨_, results_tmp2 rfl _ _ _, _, rfl, ?_, below_put hB (by omega) hK⟩
    have h1 : OwnI (W.putObj D (.deferred none)) w.heap.size (.slice (some ⟨w.heap.size + 1, 0, none⟩) N N) (tallyL (restKey zs N) N ((upto (2 ^ zs.length) (2 ^ zs.length)).map Fin.val)) :=
      ownsRow_putObj hOr _ hK rfl
    rw [upto_vals, tallyL_range] at h1
    exact h1
  case stop =>
    rintro D c pre W hD _ h _
    exact h.elim

theorem RestCounts_any (a : Option Addr) (cap : Nat) (zs : List Int) (q : Int) (w : World) (hl : zs.length ≤ 4294967296) (hI : IntsAt w a zs) :
    Calls Tryz.prog 121 #[.slice a zs.length cap, .int .i64 q] w (ListR w (restOk zs q) (if restOk zs q = true then restC zs q else [])) := by
  by_cases hz : restOk zs q = true
  case pos =>
    rw [if_pos hz, hz]
    exact (callsIn_wide (n := 10)).1 (RestCounts_in 10 (by omega) a cap zs q hz w hI)
  have hz' : restOk zs q = false := by simpa using hz
  rw [if_neg hz, hz']
  have HZ := Lib.hid hz'
  clear hz hz'
  have hB0 : ∀ o1, Below w.heap.size w (w.alloc o1) := fun o1 => (Below.refl _ w).alloc (Nat.le_refl _) _
  have HO := World.ownsRow_lit (base := w.heap.size) (e := 3) (size := 1) (w.alloc (.cells #[.int .i64 q] 3)) #[] 0 (by simp) (by unfold maxLen; omega) (by simp)
  rw [World.size_alloc] at HO
  go_enter Tryz.func121, Tryz.ntmps121
  go_wp2_with (go_at_call 149; refine (restsTold_any a cap zs q _ hl (hI.below (hB0 _))).mono ?_; rw [HZ.out]; rintro e w' ⟨rfl, rfl⟩)
  go_ret2
  exact ⟨_, rfl, HO, (hB0 _).alloc (by simp) _⟩
end Go.Proofs.YtdpapalfafjncaaGreatDoor
