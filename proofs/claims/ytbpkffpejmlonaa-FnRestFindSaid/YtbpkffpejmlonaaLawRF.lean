/- The walk of the law FnRestFind. Conditions: the code has at most 1048576 bytes, else the law answers at once. -/
import Derived.Test.YtbpkffpejmlonaaLE
import Derived.Test.YtbpkffpejmlonaaW8
import Derived.Test.YtbpkffpejmlonaaW9
import Derived.Test.YtbpkffpejmlonaaM12
import Derived.Test.YtbpkffpejmlonaaIF
namespace Go.Proofs.Ytbpkffpejmlonaa
open Go.RowKit

set_option maxHeartbeats 4000000 in
theorem FnRestFind_law (a : Option Addr) (len cap : Nat) (w : World) (hcap : len ≤ cap) (hb : BytesAt w w.heap.size a len) (hmax : len ≤ 9223372036854775807) :
    Calls Try.prog 28 #[.slice a len cap] w fun e w' => e = .returned (.bool true) ∧ Below w.heap.size w w' := by
  by_cases hl : len ≤ 1048576
  case neg =>
    go_enter Try.func28, Try.ntmps28
    go_wp2
    go_ret
    exact ⟨rfl, Below.refl _ _⟩
  go_enter Try.func28, Try.ntmps28
  go_wp2_with fail
  refine (DrawRestFind_any a len cap w hl hcap hb).mono ?_
  rintro e w1 ⟨ad, cp, zs, q, rfl, hz1, hz2, hI, hq1, hq2, hB⟩
  have s1 := hB.size
  go_wp2_with fail
  refine (RestFind_any ad cp zs q w1 (by omega) hI).mono ?_
  rintro e w2 ⟨r, ok, rfl, hF, hB2⟩
  have s2 := hB2.size
  have hA2 := hB.trans (hB2.mono s1)
  have hz2' := hI.below hB2
  go_wp2_with fail
  refine (sRestFind_any ad cp zs q w2 (by omega) hz2').mono ?_
  rintro e w3 ⟨r', ok', rfl, hF', n3, rfl⟩
  obtain ⟨rfl, rfl⟩ := hF.unique hF'
  clear hF'
  have hz3 := hz2'.dr n3
  have hA3 := belowDr hA2 n3
  have s3 : w2.heap.size = (w2.drewN n3).heap.size := rfl
  clear hz2' hA2
  generalize w2.drewN n3 = w3 at *
  rcases hF with ⟨rfl, c, rfl, hc1, hc2, hc3⟩ | ⟨rfl, rfl, _⟩
  case inr =>
    go_wp2
    go_ret
    exact ⟨rfl, hA3⟩
  simp only [findP, Bool.and_eq_true, bne_iff_ne, ne_eq, beq_iff_eq] at hc2
  obtain ⟨hz, hc0, hcs⟩ := hc2
  have hq := ((restOk_iff zs q).1 hz).2
  have hzl := (inL_iff zs).1 ((restOk_iff zs q).1 hz).1
  have hpw : 2 ^ zs.length ≤ 2 ^ 10 := Nat.pow_le_pow_right (by omega) hzl.1
  have hc10 : c < 1024 := by omega
  have hsum : sumOfR zs c = (csum zs c, true) := sumOfR_yes ((restOk_iff zs q).1 hz).1 hc1
  have HSum := Lib.hid hsum
  have hp1 : 1 ≤ popc c := popN_pos 20 c (by omega) (by omega)
  have hp2 : popc c ≤ zs.length := popN_len _ _ c hc1
  have hsh : justP zs q (popc c) c = true := by simp [justP, hz, hcs]
  have HSh := Lib.hid hsh
  have HC1 := Lib.hid hc1
  have HCS := Lib.hid hcs
  have hcb := csum_bd hzl.2 c
  have htb := tot_bd hzl.2
  clear hsum hsh hcs hc3 hc1 hpw hz
  go_wp2_with fail
  refine (SumOf_any ad cp zs _ w3 (by omega) hz3).mono ?_
  rw [HSum.out]
  rintro e w' ⟨rfl, rfl⟩
  go_wp2_with fail
  refine (RestShort_any ad cp zs q w3 (by omega) hz3).mono ?_
  rintro e w4 ⟨k2, ok2, rfl, hF2, hB4⟩
  obtain ⟨rfl, kk, rfl, hk1⟩ : ok2 = true ∧ ∃ kk : Nat, k2 = kk ∧ kk ≤ popc c := by
    have hs : shortP zs q (popc c) = true := by
      simp only [shortP, Bool.and_eq_true, decide_eq_true_eq]
      exact ⟨hp1, List.any_eq_true.2 ⟨c, List.mem_range.2 HC1.out, HSh.out⟩⟩
    rcases hF2 with ⟨rfl, d, rfl, _, _, h3⟩ | ⟨rfl, rfl, h3⟩
    · refine ⟨rfl, d, rfl, ?_⟩
      by_cases hlt : popc c < d
      · have := h3 _ hlt; rw [hs] at this; cases this
      · omega
    · have := h3 (popc c) (by omega); rw [hs] at this; cases this
  have hA4 := hA3.trans (hB4.mono (by omega))
  clear hF2 hB4
  have hgo : csum zs c % q = 0 := HCS.out
  generalize csum zs c = sm at *
  have hcp : 0 < (c : Int) := by omega
  have hsm : 0 ≤ sm ∧ sm ≤ 1000 := by omega
  have HK1 := Lib.hid (show ∃ d : Nat, popc c = kk + d from ⟨popc c - kk, by omega⟩)
  clear hk1 hzl HCS hB hI hz1 hz2 HSh HC1 hc0 hp1 hp2 hcb htb hq1 hq2 s1 s2 s3 hB2
  go_wp2
  go_loop [13, 14] (fun s i => ∃ k : Nat, k ≤ 10 ∧ i = .int .i64 k ∧ s = .int .i64 (popN k c)) (fun _ i => 10 - (intOf i).toNat)
  case atStart => exact ⟨0, by omega, rfl, rfl⟩
  case round =>
    obtain ⟨k, hk, rfl, rfl⟩ := hrel
    by_cases hlt : k < 10
    · have HS := Lib.hid (popN_snoc k c)
      have hle := popN_le k c
      have HB := Lib.hid (bit_at c k (by omega))
      have hbb : 0 ≤ bits .and .i64 ((c : Int) / 2 ^ k) 1 ∧ bits .and .i64 ((c : Int) / 2 ^ k) 1 ≤ 1 := by rw [HB.out]; omega
      generalize popN k c = t at HS hle
      go_wp2
      go_round
      case rel => exact ⟨k + 1, by omega, by go_num, by rw [HB.out, HS.out]; simp⟩
      case measure => simp [intOf]; omega
    · obtain rfl : k = 10 := by omega
      rw [popc_ten c (by omega)]
      obtain ⟨d, hd⟩ := HK1.out
      rw [hd]
      clear hd
      clear HK1
      go_wp2
      go_ret
      exact ⟨ret_bool (by rw [decide_eq_true_eq]; omega), hA4⟩
end Go.Proofs.Ytbpkffpejmlonaa
