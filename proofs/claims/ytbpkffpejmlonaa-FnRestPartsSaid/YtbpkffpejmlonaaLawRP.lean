/- The walk of the law FnRestParts. Conditions: the code has at most 1048576 bytes, else the law answers at once. -/
import Derived.Test.YtbpkffpejmlonaaLE
import Derived.Test.YtbpkffpejmlonaaIR
import Derived.Test.YtbpkffpejmlonaaWP
import Derived.Test.YtbpkffpejmlonaaIF
namespace Go.Proofs.Ytbpkffpejmlonaa
open Go.RowKit

set_option maxHeartbeats 4000000 in
theorem FnRestParts_law (a : Option Addr) (len cap : Nat) (w : World) (hcap : len ≤ cap) (hb : BytesAt w w.heap.size a len) (hmax : len ≤ 9223372036854775807) :
    Calls Try.prog 23 #[.slice a len cap] w fun e w' => e = .returned (.bool true) ∧ Below w.heap.size w w' := by
  by_cases hl : len ≤ 1048576
  case neg =>
    go_enter Try.func23, Try.ntmps23
    go_wp2
    go_ret
    exact ⟨rfl, Below.refl _ _⟩
  go_enter Try.func23, Try.ntmps23
  go_wp2_with fail
  refine (DrawRestParts_any a len cap w hl hcap hb).mono ?_
  rintro e w1 ⟨ad, cp, zs, q, rfl, hz1, hz2, hI, hq1, hq2, hB⟩
  have s1 := hB.size
  go_wp2_with fail
  refine (RestParts_any ad cp zs q w1 (by omega) hI).mono ?_
  rintro e w2 ⟨r, ok, rfl, hF, hB2⟩
  have s2 := hB2.size
  have hA2 := hB.trans (hB2.mono s1)
  have hz2' := hI.below hB2
  go_wp2_with fail
  refine (sRestParts_any ad cp zs q w2 (by omega) hz2').mono ?_
  rintro e w3 ⟨r', ok', rfl, hF', hB3⟩
  obtain ⟨rfl, rfl⟩ := hF.unique hF'
  clear hF'
  have hz3 := hz2'.below hB3
  have hA3 := hA2.trans (hB3.mono (by omega))
  have s3 := hB3.size
  clear hz2' hA2
  rcases hF with ⟨rfl, hz, k, rfl, hM⟩ | ⟨rfl, _, rfl⟩
  case inr =>
    go_wp2
    go_ret
    exact ⟨rfl, hA3⟩
  have hq := ((restOk_iff zs q).1 hz).2
  have hzl := (inL_iff zs).1 ((restOk_iff zs q).1 hz).1
  obtain ⟨m, rfl⟩ := Int.eq_ofNat_of_zero_le (show 0 ≤ q by omega)
  have hlaw := parts_law (n := m) (by omega) (by omega) hM
  have hpos := most_pos hM
  have hF := RestFind_any ad cp zs (m : Int) w3 (by omega) hz3
  have hfin : ∀ r ok, FirstIs (findP zs (m : Int)) (2 ^ zs.length) r ok → ok = decide (0 < k) := fun r ok h => by
    rcases h with ⟨rfl, c, rfl, h1, h2, h3⟩ | ⟨rfl, rfl, h3⟩
    · simp only [findP, Bool.and_eq_true, bne_iff_ne, ne_eq, beq_iff_eq] at h2
      symm
      rw [decide_eq_true_eq]
      exact hpos.2 ⟨c, by omega, sub_full h1, h2.2.2⟩
    · symm
      rw [decide_eq_false_iff_not]
      intro hk
      obtain ⟨p, hp0, hp1, hp2⟩ := hpos.1 hk
      have := h3 p (lt_of_sub hp1)
      have h4 : csum zs p % (m : Int) = 0 := hp2
      rw [findP, hz, h4] at this
      simp at this
      omega
  have HFI := Lib.hid hfin
  have hdiv : ((zs.length : Int) / (m : Int)) ≤ k ∧ 0 ≤ ((zs.length : Int) / (m : Int)) := by
    have e : ((zs.length : Int) / (m : Int)) = ((zs.length / m : Nat) : Int) := by simp
    rw [e]
    have h1 := hlaw.1
    generalize zs.length / m = q at *
    omega
  have hkl : (k : Int) ≤ zs.length := by omega
  have hzl1 := hzl.1
  clear hfin hpos hlaw hM hz hzl
  go_wp2_with fail
  refine hF.mono ?_
  rintro e w4 ⟨r2, ok2, rfl, hF2, hB4⟩
  obtain rfl := HFI.out _ _ hF2
  have hA4 := hA3.trans (hB4.mono (by omega))
  clear hF2 HFI hB4
  generalize zs.length = L at *
  by_cases h0 : 0 < k
  · have hd : decide (0 < k) = true := by simpa using h0
    rw [hd]
    clear hd
    go_wp2
    go_ret
    exact ⟨rfl, hA4⟩
  · have hd : decide (0 < k) = false := by simpa using h0
    rw [hd]
    clear hd
    go_wp2
    go_ret
    exact ⟨rfl, hA4⟩
end Go.Proofs.Ytbpkffpejmlonaa
