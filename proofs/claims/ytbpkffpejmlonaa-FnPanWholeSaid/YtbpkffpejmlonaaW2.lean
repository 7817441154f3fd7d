/- Walks: copies and comparisons of slices, SumOf of both. Conditions: stated in each. -/
import Derived.Test.YtbpkffpejmlonaaW1
namespace Go.Proofs.Ytbpkffpejmlonaa
open Go.RowKit

theorem set_fill (zs : List Int) (k : Nat) (h : k < zs.length) : (zs.take k ++ List.replicate (zs.length - k) 0).set k (zs[k]?.getD 0) = zs.take (k + 1) ++ List.replicate (zs.length - (k + 1)) 0 := by
  rw [take_snoc zs k h, List.set_append_right _ _ (by simp; omega)]
  have e : zs.length - k = (zs.length - (k + 1)) + 1 := by omega
  rw [e, List.replicate_succ, List.length_take, Nat.min_eq_left (Nat.le_of_lt h), Nat.sub_self, List.set_cons_zero]
  simp
theorem fill_length (zs : List Int) (k : Nat) (h : k ≤ zs.length) : (zs.take k ++ List.replicate (zs.length - k) 0).length = zs.length := by simp; omega

def CopyPost (w : World) (zs : List Int) (e : Ending) (w' : World) : Prop := ∃ v, e = .returned v ∧ OwnI w' w.heap.size v zs ∧ Below w.heap.size w w'

set_option maxHeartbeats 800000 in
theorem toIntS_any (a : Option Addr) (cap : Nat) (zs : List Int) (w : World) (hl : zs.length ≤ 2000000) (hI : IntsAt w a zs) :
    Calls Try.prog 37 #[.slice a zs.length cap] w (CopyPost w zs) := by
  go_enter Try.func37, Try.ntmps37
  go_wp2_with (at_make; refine makeI w rfl _ _ rfl zs.length _ rfl rfl rfl (by omega) ?_; intro w1 hO hG)
  go_loopw [4] (fun i wr => ∃ k : Nat, k ≤ zs.length ∧ i = .int .i64 k ∧ OwnI wr w.heap.size (.slice (some ⟨w.heap.size, 0, none⟩) zs.length zs.length) (zs.take k ++ List.replicate (zs.length - k) 0) ∧ Below w.heap.size w wr) (fun i _ => zs.length - (intOf i).toNat)
  case atStart => exact ⟨0, Nat.zero_le _, rfl, by simpa using hO, (Below.refl _ _).grown hG (Nat.le_refl _) (fun k hk => by cases hk)⟩
  case round =>
    obtain ⟨k, hk, rfl, hOr, hB⟩ := hrel
    clear hO hG
    by_cases hlt : k < zs.length
    · obtain ⟨b, off, rfl, hb, hcell⟩ := (hI.below hB).at (by omega)
      have hfl := fill_length zs k hk
      obtain ⟨g, cp, he, hg1, hg2, hcf⟩ := hOr.at (by omega)
      rw [hfl] at he hcf
      simp only [Value.slice.injEq, Option.some.injEq, Addr.mk.injEq, and_true, true_and] at he
      obtain ⟨rfl, rfl⟩ := he
      have hx := hcell k hlt
      have hc1 := (hcf k hlt).1
      have hf1 := (hcf k hlt).2
      have HS := Lib.hid (set_fill zs k hlt)
      generalize zs[k]?.getD 0 = x at hx HS
      have HO := Lib.hid hOr
      clear hcell hcf hOr
      generalize (zs.take k ++ List.replicate (zs.length - k) 0)[k]?.getD 0 = y at hc1
      go_wp2
      go_roundw
      case rel =>
        have h2 := (show OwnI wr w.heap.size (.slice (some ⟨w.heap.size, 0, none⟩) (zs.take k ++ List.replicate (zs.length - k) 0).length zs.length) (zs.take k ++ List.replicate (zs.length - k) 0) by rw [hfl]; exact HO.out).stored k x
        rw [hfl, HS.out] at h2
        exact ⟨k + 1, by omega, by go_num, h2.1, hB.setCell (p := ⟨_, _, none⟩) (Nat.le_refl _) _⟩
      case measure => simp [intOf]; omega
    · obtain rfl : k = zs.length := by omega
      go_wp2
      go_ret
      exact ⟨_, rfl, by simpa using hOr, hB⟩

theorem eq_snoc {xs ys : List Int} (k : Nat) (h : xs.take k = ys.take k) (hk : k < xs.length) (hk' : k < ys.length) : (xs.take (k + 1) = ys.take (k + 1)) ↔ xs[k]?.getD 0 = ys[k]?.getD 0 := by
  rw [take_snoc xs k hk, take_snoc ys k hk', h]; simp
theorem ne_of_get {xs ys : List Int} (k : Nat) (h : xs[k]?.getD 0 ≠ ys[k]?.getD 0) : xs ≠ ys := fun e => h (by rw [e])
theorem ne_of_len {xs ys : List Int} (h : xs.length ≠ ys.length) : xs ≠ ys := fun e => h (by rw [e])

set_option maxHeartbeats 800000 in
theorem eqIntS_any (a b : Option Addr) (cap cap' : Nat) (xs ys : List Int) (w : World) (hl : xs.length ≤ 4000000) (hI : IntsAt w a xs) (hJ : IntsAt w b ys) :
    Calls Try.prog 39 #[.slice a xs.length cap, .slice b ys.length cap'] w fun e w' => e = .returned (.bool (decide (xs = ys))) ∧ ∃ n, w' = w.drewN n := by
  by_cases hlen : xs.length = ys.length
  case neg =>
    have hd : decide (xs = ys) = false := by simp; exact ne_of_len hlen
    rw [hd]
    clear hd
    go_enter Try.func39, Try.ntmps39
    go_wp2
    go_ret
    exact ⟨rfl, 0, rfl⟩
  have HLn := Lib.hid hlen
  have hl1 : xs.length ≤ ys.length := by omega
  have hl2 : ys.length ≤ xs.length := by omega
  clear hlen
  go_enter Try.func39, Try.ntmps39
  go_wp2
  go_loopw [5] (fun i wr => ∃ k n : Nat, k ≤ xs.length ∧ i = .int .i64 k ∧ xs.take k = ys.take k ∧ wr = w.drewN n) (fun i _ => xs.length - (intOf i).toNat)
  case atStart => exact ⟨0, 0, Nat.zero_le _, rfl, by simp, rfl⟩
  case round =>
    obtain ⟨k, n, hk, rfl, heq, rfl⟩ := hrel
    have HE := Lib.hid heq
    clear heq
    by_cases hlt : k < xs.length
    · obtain ⟨b1, o1, rfl, hb1, hc1⟩ := hI.at (by omega)
      obtain ⟨b2, o2, rfl, hb2, hc2⟩ := hJ.at (by omega)
      have hlt2 : k < ys.length := by omega
      have hx := hc1 k hlt
      have hy := hc2 k hlt2
      have HS := Lib.hid (eq_snoc k HE.out hlt hlt2)
      have HN := Lib.hid (ne_of_get (xs := xs) (ys := ys) k)
      generalize xs[k]?.getD 0 = x at hx HS HN
      generalize ys[k]?.getD 0 = y at hy HS HN
      clear hc1 hc2
      go_wp2
      go_quiet (fail)
      go_wp2
      · have hxy : (x != y) = true := by assumption
        go_ret
        exact ⟨ret_bool (by simp; exact HN.out (by simpa using hxy)), n + nq, by simp⟩
      · have hxy : (x != y) = false := by assumption
        go_roundw
        case rel => exact ⟨k + 1, n + nq, by omega, by go_num, HS.out.2 (by simpa using hxy), by simp⟩
        case measure => simp [intOf]; omega
    · go_wp2
      go_ret
      have h1 := HE.out
      rw [List.take_of_length_le (by omega), List.take_of_length_le (by omega)] at h1
      exact ⟨ret_bool (by simp [h1]), _, rfl⟩

/-- SumOf's answer -/
def sumOfR (zs : List Int) (set : Int) : Int × Bool := if inL zs = true ∧ 0 ≤ set ∧ set < 2 ^ zs.length then (csum zs set.toNat, true) else (0, false)
theorem sumOfR_yes {zs : List Int} {c : Nat} (hz : inL zs = true) (h : c < 2 ^ zs.length) : sumOfR zs c = (csum zs c, true) := by
  have h' : (c : Int) < 2 ^ zs.length := by exact_mod_cast h
  simp [sumOfR, hz, h']
theorem sumOfR_no {zs : List Int} {set : Int} (h : ¬ (inL zs = true ∧ 0 ≤ set ∧ set < 2 ^ zs.length)) : sumOfR zs set = (0, false) := by
  simp only [sumOfR, if_neg h]

set_option maxHeartbeats 800000 in
theorem SumOf_any (a : Option Addr) (cap : Nat) (zs : List Int) (set : Int) (w : World) (hl : zs.length ≤ 4000000) (hI : IntsAt w a zs) :
    Calls Try.prog 33 #[.slice a zs.length cap, .int .i64 set] w fun e w' => e = .returned (.tuple #[.int .i64 (sumOfR zs set).1, .bool (sumOfR zs set).2]) ∧ w = w' := by
  by_cases hz : inL zs = true
  case neg =>
    rw [sumOfR_no (by simp [hz])]
    have hz' : inL zs = false := by simpa using hz
    have HZ := Lib.hid hz'
    clear hz hz'
    go_enter Try.func33, Try.ntmps33
    go_wp2_with (go_at_call 31; refine (SumIn_any a cap zs w (by omega) hI).mono ?_; rw [HZ.out]; rintro e w' ⟨rfl, rfl⟩)
    go_ret2
    exact ⟨rfl, rfl⟩
  have hz' := (inL_iff zs).1 hz
  have hp := pow_bd zs.length (by omega)
  by_cases hs : 0 ≤ set
  case neg =>
    rw [sumOfR_no (by omega)]
    have HZ := Lib.hid hz
    clear hz
    go_enter Try.func33, Try.ntmps33
    go_wp2_with (go_at_call 31; refine (SumIn_any a cap zs w (by omega) hI).mono ?_; rw [HZ.out]; rintro e w' ⟨rfl, rfl⟩)
    go_ret2
    exact ⟨rfl, rfl⟩
  by_cases hs2 : set < 2 ^ zs.length
  case neg =>
    rw [sumOfR_no (by omega)]
    have HZ := Lib.hid hz
    clear hz
    go_enter Try.func33, Try.ntmps33
    go_wp2_with (go_at_call 31; refine (SumIn_any a cap zs w (by omega) hI).mono ?_; rw [HZ.out]; rintro e w' ⟨rfl, rfl⟩)
    go_ret2
    exact ⟨rfl, rfl⟩
  obtain ⟨c, rfl⟩ := Int.eq_ofNat_of_zero_le hs
  have hc : c < 2 ^ zs.length := by exact_mod_cast hs2
  rw [sumOfR_yes hz hc]
  have HZ := Lib.hid hz
  clear hz hc
  go_enter Try.func33, Try.ntmps33
  go_wp2_with (first | (go_at_call 31; refine (SumIn_any a cap zs w (by omega) hI).mono ?_; rw [HZ.out]; rintro e w' ⟨rfl, rfl⟩) | (go_at_call 99; refine (csum_any c a cap zs w (by omega) (by omega) hz'.2 hI).mono ?_; rintro e w' ⟨rfl, rfl⟩))
  go_ret2
  exact ⟨rfl, rfl⟩
end Go.Proofs.Ytbpkffpejmlonaa
