/- The walk of the law FnRestJust. Conditions: the code has at most 1048576 bytes, else the law answers at once. -/
import Derived.Test.YtbpkffpejmlonaaLE
import Derived.Test.YtbpkffpejmlonaaW8
import Derived.Test.YtbpkffpejmlonaaW9
import Derived.Test.YtbpkffpejmlonaaM12
import Derived.Test.YtbpkffpejmlonaaIJ
namespace Go.Proofs.Ytbpkffpejmlonaa
open Go.RowKit

set_option maxHeartbeats 4000000 in
theorem FnRestJust_law (a : Option Addr) (len cap : Nat) (w : World) (hcap : len ≤ cap) (hb : BytesAt w w.heap.size a len) (hmax : len ≤ 9223372036854775807) :
    Calls Try.prog 26 #[.slice a len cap] w fun e w' => e = .returned (.bool true) ∧ Below w.heap.size w w' := by
  by_cases hl : len ≤ 1048576
  case neg =>
    go_enter Try.func26, Try.ntmps26
    go_wp2
    go_ret
    exact ⟨rfl, Below.refl _ _⟩
  go_enter Try.func26, Try.ntmps26
  go_wp2_with fail
  refine (DrawRestJust_any a len cap w hl hcap hb).mono ?_
  rintro e w1 ⟨ad, cp, zs, q, k0, rfl, hz1, hz2, hI, hq1, hq2, hk1, hk2, hB⟩
  have s1 := hB.size
  go_wp2_with fail
  refine (RestJust_any ad cp zs q k0 w1 (by omega) hI).mono ?_
  rintro e w2 ⟨r, ok, rfl, hF, hB2⟩
  have s2 := hB2.size
  have hA2 := hB.trans (hB2.mono s1)
  have hz2' := hI.below hB2
  go_wp2_with fail
  refine (sRestJust_any ad cp zs q k0 w2 (by omega) hz2').mono ?_
  rintro e w3 ⟨r', ok', rfl, hF', n3, rfl⟩
  obtain ⟨rfl, rfl⟩ := hF.unique hF'
  clear hF'
  have hz3 := hz2'.dr n3
  have hA3 := belowDr hA2 n3
  have s3 : w2.heap.size = (w2.drewN n3).heap.size := rfl
  clear hz2' hA2
  generalize w2.drewN n3 = w3 at *
  rcases hF with ⟨rfl, c, rfl, hc1, hc2, hc3⟩ | ⟨rfl, rfl, _⟩
  case inr =>
    go_wp2
    go_ret
    exact ⟨rfl, hA3⟩
  simp only [justP, Bool.and_eq_true, beq_iff_eq] at hc2
  obtain ⟨hz, hk0, hcs⟩ := hc2
  have HK0 := Lib.hid hk0
  clear hk0
  have hq := ((restOk_iff zs q).1 hz).2
  have hzl := (inL_iff zs).1 ((restOk_iff zs q).1 hz).1
  have hpw : 2 ^ zs.length ≤ 2 ^ 10 := Nat.pow_le_pow_right (by omega) hzl.1
  have hc10 : c < 1024 := by omega
  have hsum : sumOfR zs c = (csum zs c, true) := sumOfR_yes ((restOk_iff zs q).1 hz).1 hc1
  have HSum := Lib.hid hsum
  have HCS := Lib.hid hcs
  have hcb := csum_bd hzl.2 c
  have htb := tot_bd hzl.2
  clear hsum hcs hc3 hc1 hpw hz
  go_wp2_with fail
  refine (SumOf_any ad cp zs _ w3 (by omega) hz3).mono ?_
  rw [HSum.out]
  rintro e w' ⟨rfl, rfl⟩
  have hgo : csum zs c % q = 0 := HCS.out
  generalize csum zs c = sm at *
  clear hzl HCS hB hI hz1 hz2
  go_wp2
  go_loop [12, 13] (fun s i => ∃ k : Nat, k ≤ 10 ∧ i = .int .i64 k ∧ s = .int .i64 (popN k c)) (fun _ i => 10 - (intOf i).toNat)
  case atStart => exact ⟨0, by omega, rfl, rfl⟩
  case round =>
    obtain ⟨k, hk, rfl, rfl⟩ := hrel
    by_cases hlt : k < 10
    · have HS := Lib.hid (popN_snoc k c)
      have hle := popN_le k c
      have HB := Lib.hid (bit_at c k (by omega))
      have hbb : 0 ≤ bits .and .i64 ((c : Int) / 2 ^ k) 1 ∧ bits .and .i64 ((c : Int) / 2 ^ k) 1 ≤ 1 := by rw [HB.out]; omega
      generalize popN k c = t at HS hle
      go_wp2
      go_round
      case rel => exact ⟨k + 1, by omega, by go_num, by rw [HB.out, HS.out]; simp⟩
      case measure => simp [intOf]; omega
    · obtain rfl : k = 10 := by omega
      rw [popc_ten c (by omega), HK0.out]
      go_wp2
      go_ret
      exact ⟨rfl, hA3⟩
end Go.Proofs.Ytbpkffpejmlonaa
