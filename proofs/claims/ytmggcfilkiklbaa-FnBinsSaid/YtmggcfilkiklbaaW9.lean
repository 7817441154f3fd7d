/- The comparison of two lists. Conditions: the first list has at most 4000000 numbers. -/
import Derived.Test.YtmggcfilkiklbaaW2
namespace Go.Proofs.Ytmggcfilkiklbaa
open Go.RowKit

set_option maxHeartbeats 800000 in
theorem sameInts_any (a b : Option Addr) (cap cap' : Nat) (xs ys : List Int) (w : World) (hl : xs.length ≤ 4000000) (hI : IntsAt w a xs) (hJ : IntsAt w b ys) :
    Calls Try.prog 8 #[.slice a xs.length cap, .slice b ys.length cap'] w fun e w' => e = .returned (.bool (decide (xs = ys))) ∧ ∃ n, w' = w.drewN n := by
  by_cases hlen : xs.length = ys.length
  case neg =>
    have hd : decide (xs = ys) = false := by simp; exact ne_of_len hlen
    rw [hd]
    clear hd
    go_enter Try.func8, Try.ntmps8
    go_wp2
    go_ret
    exact ⟨rfl, 0, rfl⟩
  have HLn := Lib.hid hlen
  have hl1 : xs.length ≤ ys.length := by omega
  have hl2 : ys.length ≤ xs.length := by omega
  clear hlen
  go_enter Try.func8, Try.ntmps8
  go_wp2
  go_loopw [5] (fun i wr => ∃ k n : Nat, k ≤ xs.length ∧ i = .int .i64 k ∧ xs.take k = ys.take k ∧ wr = w.drewN n) (fun i _ => xs.length - (intOf i).toNat)
  case atStart => exact ⟨0, 0, Nat.zero_le _, rfl, by simp, rfl⟩
  case round =>
    obtain ⟨k, n, hk, rfl, heq, rfl⟩ := hrel
    have HE := Lib.hid heq
    clear heq
    by_cases hlt : k < xs.length
    · obtain ⟨b1, o1, rfl, hb1, hc1⟩ := hI.at (by omega)
      obtain ⟨b2, o2, rfl, hb2, hc2⟩ := hJ.at (by omega)
      have hlt2 : k < ys.length := by omega
      have hx := hc1 k hlt
      have hy := hc2 k hlt2
      have HS := Lib.hid (eq_snoc k HE.out hlt hlt2)
      have HN := Lib.hid (ne_of_get (xs := xs) (ys := ys) k)
      generalize xs[k]?.getD 0 = x at hx HS HN
      generalize ys[k]?.getD 0 = y at hy HS HN
      clear hc1 hc2
      go_wp2
      go_quiet (fail)
      go_wp2
      · have hxy : (x != y) = true := by assumption
        go_ret
        exact ⟨ret_bool (by simp; exact HN.out (by simpa using hxy)), n + nq, by simp⟩
      · have hxy : (x != y) = false := by assumption
        go_roundw
        case rel => exact ⟨k + 1, n + nq, by omega, by go_num, HS.out.2 (by simpa using hxy), by simp⟩
        case measure => simp [intOf]; omega
    · go_wp2
      go_ret
      have h1 := HE.out
      rw [List.take_of_length_le (by omega), List.take_of_length_le (by omega)] at h1
      exact ⟨ret_bool (by simp [h1]), _, rfl⟩
end Go.Proofs.Ytmggcfilkiklbaa
