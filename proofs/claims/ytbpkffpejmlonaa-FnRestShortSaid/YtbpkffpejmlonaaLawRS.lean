/- The walk of the law FnRestShort. Conditions: the code has at most 1048576 bytes, else the law answers at once. -/
import Derived.Test.YtbpkffpejmlonaaLE
import Derived.Test.YtbpkffpejmlonaaW8
import Derived.Test.YtbpkffpejmlonaaW9
import Derived.Test.YtbpkffpejmlonaaM12
namespace Go.Proofs.Ytbpkffpejmlonaa
open Go.RowKit

set_option maxHeartbeats 4000000 in
theorem FnRestShort_law (a : Option Addr) (len cap : Nat) (w : World) (hcap : len ≤ cap) (hb : BytesAt w w.heap.size a len) (hmax : len ≤ 9223372036854775807) :
    Calls Try.prog 27 #[.slice a len cap] w fun e w' => e = .returned (.bool true) ∧ Below w.heap.size w w' := by
  by_cases hl : len ≤ 1048576
  case neg =>
    go_enter Try.func27, Try.ntmps27
    go_wp2
    go_ret
    exact ⟨rfl, Below.refl _ _⟩
  go_enter Try.func27, Try.ntmps27
  go_wp2_with fail
  refine (DrawRestShort_any a len cap w hl hcap hb).mono ?_
  rintro e w1 ⟨ad, cp, zs, q, rfl, hz1, hz2, hI, hq1, hq2, hB⟩
  have s1 := hB.size
  go_wp2_with fail
  refine (RestShort_any ad cp zs q w1 (by omega) hI).mono ?_
  rintro e w2 ⟨r, ok, rfl, hF, hB2⟩
  have s2 := hB2.size
  have hA2 := hB.trans (hB2.mono s1)
  have hz2' := hI.below hB2
  go_wp2_with fail
  refine (sRestShort_any ad cp zs q w2 (by omega) hz2').mono ?_
  rintro e w3 ⟨r', ok', rfl, hF', n3, rfl⟩
  obtain ⟨rfl, rfl⟩ := hF.unique hF'
  clear hF'
  have hz3 := hz2'.dr n3
  have hA3 := belowDr hA2 n3
  have s3 : w2.heap.size = (w2.drewN n3).heap.size := rfl
  clear hz2' hA2
  generalize w2.drewN n3 = w3 at *
  rcases hF with ⟨rfl, c, rfl, hc1, hc2, hc3⟩ | ⟨rfl, rfl, _⟩
  case inr =>
    go_wp2
    go_ret
    exact ⟨rfl, hA3⟩
  have hsp : shortP zs q c = true := hc2
  simp only [shortP, Bool.and_eq_true, decide_eq_true_eq] at hc2
  have hz : restOk zs q = true := by
    obtain ⟨d, _, hd⟩ := List.any_eq_true.1 hc2.2
    simp only [justP, Bool.and_eq_true] at hd
    exact hd.1
  have hq := ((restOk_iff zs q).1 hz).2
  have hzl := (inL_iff zs).1 ((restOk_iff zs q).1 hz).1
  have hcq : (c : Int) ≤ q := by
    obtain ⟨n, rfl⟩ : ∃ n : Nat, q = n := ⟨q.toNat, by omega⟩
    by_cases hlt : n ≤ zs.length
    · obtain ⟨d, d0, d1, d2, d3, d4⟩ := dav (n := n) (by omega) zs hlt
      by_cases hlt2 : popc d < c
      · have := hc3 _ hlt2
        have h2 : shortP zs n (popc d) = true := by
          simp only [shortP, Bool.and_eq_true, decide_eq_true_eq]
          exact ⟨d3, List.any_eq_true.2 ⟨d, List.mem_range.2 d1, by simp [justP, hz, d2]⟩⟩
        rw [h2] at this; cases this
      · omega
    · omega
  have HA := Lib.hid hc2.2
  have hc01 := hc2.1
  clear hsp hc2 hc3 hz
  go_wp2_with fail
  refine (RestJust_any ad cp zs q c w3 (by omega) hz3).mono ?_
  rintro e w4 ⟨r2, ok2, rfl, hF2, hB4⟩
  obtain rfl : ok2 = true := by rw [hF2.any, HA.out]
  have hA4 := hA3.trans (hB4.mono (by omega))
  clear hF2
  go_wp2
  go_ret
  exact ⟨rfl, hA4⟩
end Go.Proofs.Ytbpkffpejmlonaa
