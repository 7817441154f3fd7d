/- The walk of the law FnPanWhole. Conditions: the code has at most 1048576 bytes, else the law answers at once. -/
import Derived.Test.YtbpkffpejmlonaaLQ
import Derived.Test.YtbpkffpejmlonaaIX
namespace Go.Proofs.Ytbpkffpejmlonaa
open Go.RowKit

set_option maxHeartbeats 4000000 in
theorem FnPanWhole_law (a : Option Addr) (len cap : Nat) (w : World) (hcap : len ≤ cap) (hb : BytesAt w w.heap.size a len) (hmax : len ≤ 9223372036854775807) :
    Calls Try.prog 29 #[.slice a len cap] w fun e w' => e = .returned (.bool true) ∧ Below w.heap.size w w' := by
  by_cases hl : len ≤ 1048576
  case neg =>
    go_enter Try.func29, Try.ntmps29
    go_wp2
    go_ret
    exact ⟨rfl, Below.refl _ _⟩
  go_enter Try.func29, Try.ntmps29
  go_wp2_with fail
  refine (DrawPanWhole_any a len cap w hl hcap hb).mono ?_
  rintro e w1 ⟨ad, cp, zs, rfl, hz1, hz2, hI, hB⟩
  have s1 := hB.size
  go_wp2_with fail
  refine (PanWhole_any ad cp zs w1 (by omega) hI).mono ?_
  rintro e w2 ⟨r, ok, rfl, hF, hB2⟩
  have s2 := hB2.size
  have hA2 := hB.trans (hB2.mono s1)
  have hz2' := hI.below hB2
  go_wp2_with fail
  refine (sPanWhole_any ad cp zs w2 (by omega) hz2').mono ?_
  rintro e w3 ⟨r', ok', rfl, hF', hB3⟩
  obtain ⟨rfl, rfl⟩ := hF.unique hF'
  clear hF'
  have hz3 := hz2'.below hB3
  have hA3 := hA2.trans (hB3.mono (by omega))
  have s3 := hB3.size
  clear hz2' hA2
  rcases hF with ⟨rfl, hz, W, rfl, hW⟩ | ⟨rfl, _, rfl⟩
  case inr =>
    go_wp2
    go_ret
    exact ⟨rfl, hA3⟩
  have hzl := (inL_iff zs).1 hz
  obtain ⟨hw1, hw2, hw3⟩ := panWhole_law hzl.2 hW
  have htb := tot_bd hzl.2
  have hp3 := pow3_bd zs.length hzl.1
  have hp3' : 2 * (W : Int) + 1 ≤ (3 : Int) ^ zs.length ∧ (3 : Int) ^ zs.length ≤ 59049 := by
    have : ((3 ^ zs.length : Nat) : Int) = 3 ^ zs.length := by simp
    omega
  have hPW := PanWeighed_told ad cp zs (W : Int) w3 hz ⟨by omega, hw2⟩ hz3
  rw [hw3] at hPW
  have HT : Hid (∀ w', IntsAt w' ad zs → Calls Try.prog 35 #[.slice ad zs.length cp] w' fun e w'' => e = .returned (.int .i64 (tot zs)) ∧ w' = w'') := fun w' h => total_any ad cp zs w' (by omega) (fun x hx => by have := hzl.2 x hx; omega) h
  have hzl1 := hzl.1
  clear hz hzl hw3 hW hw1
  generalize tot zs = T at *
  go_wp2
  go_loop [8, 9] (fun v i => ∃ k : Nat, k ≤ zs.length ∧ i = .int .i64 k ∧ v = .int .i64 ((3 : Int) ^ k)) (fun _ i => zs.length - (intOf i).toNat)
  case atStart => exact ⟨0, Nat.zero_le _, rfl, rfl⟩
  case round =>
    obtain ⟨k, hk, rfl, rfl⟩ := hrel
    by_cases hlt : k < zs.length
    · have hk3 : 1 ≤ (3 : Int) ^ k ∧ (3 : Int) ^ k ≤ 59049 := by
        have h1 := pow3_bd k (by omega)
        have h2 : ((3 ^ k : Nat) : Int) = 3 ^ k := by simp
        omega
      have HS : Hid ((3 : Int) ^ (k + 1) = 3 ^ k * 3) := Int.pow_succ 3 k
      clear hp3'
      generalize (3 : Int) ^ k = y at *
      go_wp2
      go_round
      case rel => exact ⟨k + 1, by omega, by go_num, by rw [HS.out]⟩
      case measure => simp [intOf]; omega
    · obtain rfl : k = zs.length := by omega
      generalize (3 : Int) ^ zs.length = y at *
      go_wp2_with fail
      refine hPW.mono ?_
      rintro e w4 ⟨⟨u, rfl⟩, hB4⟩
      have hA4 := hA3.trans (hB4.mono (by omega))
      have hI4 := hz3.below hB4
      clear hPW
      go_wp2_with (go_at_call 35; refine (HT.out _ hI4).mono ?_; rintro e w' ⟨rfl, rfl⟩)
      go_ret
      exact ⟨rfl, hA4⟩
end Go.Proofs.Ytbpkffpejmlonaa
