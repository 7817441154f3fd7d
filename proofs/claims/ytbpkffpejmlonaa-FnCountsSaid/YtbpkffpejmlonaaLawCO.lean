/- The walk of the law FnCounts. Conditions: the code has at most 1048576 bytes, else the law answers at once. -/
import Derived.Test.YtbpkffpejmlonaaW13
import Derived.Test.YtbpkffpejmlonaaM13
import Derived.Test.YtbpkffpejmlonaaIS
namespace Go.Proofs.Ytbpkffpejmlonaa
open Go.RowKit

set_option maxHeartbeats 4000000 in
theorem FnCounts_law (a : Option Addr) (len cap : Nat) (w : World) (hcap : len ≤ cap) (hb : BytesAt w w.heap.size a len) (hmax : len ≤ 9223372036854775807) :
    Calls Try.prog 10 #[.slice a len cap] w fun e w' => e = .returned (.bool true) ∧ Below w.heap.size w w' := by
  by_cases hl : len ≤ 1048576
  case neg =>
    go_enter Try.func10, Try.ntmps10
    go_wp2
    go_ret
    exact ⟨rfl, Below.refl _ _⟩
  go_enter Try.func10, Try.ntmps10
  go_wp2_with fail
  refine (DrawSumCounts_any a len cap w hl hcap hb).mono ?_
  rintro e w1 ⟨ad, cp, zs, rfl, hz1, hz2, hI, hB⟩
  have s1 := hB.size
  by_cases hz : inL zs = true
  case neg =>
    have hz' : inL zs = false := by simpa using hz
    obtain ⟨L, hL, hLl⟩ : ∃ L : List Int, (if inL zs = true then sumC zs else []) = L ∧ L.length ≤ 601 := ⟨_, rfl, sumCR_length zs⟩
    have hF : ∀ w', IntsAt w' ad zs → Calls Try.prog 54 #[.slice ad zs.length cp] w' (ListR w' false L) := fun w' h => by have := SumCounts_any ad cp zs w' (by omega) h; rw [hL, hz'] at this; exact this
    have hS : ∀ w', IntsAt w' ad zs → Calls Try.prog 55 #[.slice ad zs.length cp] w' (ListR w' false L) := fun w' h => by have := sSumCounts_any ad cp zs w' (by omega) h; rw [hL, hz'] at this; exact this
    clear hz hz' hL
    go_wp2_with fail
    refine (hF w1 hI).mono ?_
    rintro e w2 ⟨v2, rfl, hO2, hB2⟩
    obtain ⟨a2, c2, rfl, hI2, hcap2⟩ := hO2.shape
    have s2 := hB2.size
    have hA2 := hB.trans (hB2.mono s1)
    have hz2' := hI.below hB2
    go_wp2_with fail
    refine (hS w2 hz2').mono ?_
    rintro e w3 ⟨v3, rfl, hO3, hB3⟩
    obtain ⟨a3, c3, rfl, hI3, _⟩ := hO3.shape
    have s3 := hB3.size
    have hI23 := hI2.below hB3
    have hz3 := hz2'.below hB3
    have hA3 := hA2.trans (hB3.mono (by omega))
    clear hO2 hI2 hO3 hB2 hB3 hA2 hz2'
    go_wp2_with fail
    refine (sameInts_any a2 a3 c2 c3 L L w3 (by omega) hI23 hI3).mono ?_
    rintro e w4 ⟨rfl, n4, rfl⟩
    simp only [decide_true]
    have hI24 := hI23.dr n4
    have hI34 := hI3.dr n4
    have hz4 := hz3.dr n4
    have hA4 := belowDr hA3 n4
    have s4 : w3.heap.size = (w3.drewN n4).heap.size := rfl
    clear hI23 hI3 hz3 hA3
    generalize w3.drewN n4 = w4 at *
    go_wp2_with fail
    refine (sameInts_any a2 a3 c2 c3 L L w4 (by omega) hI24 hI34).mono ?_
    rintro e w5 ⟨rfl, n5, rfl⟩
    simp only [decide_true]
    have hA5 := belowDr hA4 n5
    go_wp2
    go_ret
    exact ⟨rfl, hA5⟩
  have hzl := (inL_iff zs).1 hz
  have hpw := pow_bd10 zs.length (by omega)
  have htb := tot_bd hzl.2
  obtain ⟨L, hL, hLl, hLt', hL0', hLx, hLr'⟩ : ∃ L : List Int, (if inL zs = true then sumC zs else []) = L ∧ (L.length : Int) = tot zs + 1 ∧ tot L = 2 ^ zs.length ∧ L[0]?.getD 0 = 1 ∧ (∀ x ∈ L, 0 ≤ x ∧ x ≤ 1000000) ∧ (∀ v, v < L.length → L[L.length - 1 - v]?.getD 0 = L[v]?.getD 0) := by
    refine ⟨_, rfl, ?_⟩
    rw [if_pos hz]
    refine ⟨by rw [sumC_length]; omega, by rw [sumC_tot hzl.2]; simp, sumC_first hzl.2, fun x hx => ?_, fun v hv => sumC_rev hzl.2 v hv⟩
    have h1 := tally_mem hx
    have h2 : ((2 ^ zs.length : Nat) : Int) = 2 ^ zs.length := by simp
    omega
  have hF : ∀ w', IntsAt w' ad zs → Calls Try.prog 54 #[.slice ad zs.length cp] w' (ListR w' true L) := fun w' h => by have := SumCounts_any ad cp zs w' (by omega) h; rw [hL, hz] at this; exact this
  have hS : ∀ w', IntsAt w' ad zs → Calls Try.prog 55 #[.slice ad zs.length cp] w' (ListR w' true L) := fun w' h => by have := sSumCounts_any ad cp zs w' (by omega) h; rw [hL, hz] at this; exact this
  have hLb : L.length ≤ 601 ∧ 1 ≤ L.length := by omega
  have htz : ∀ w', IntsAt w' ad zs → Calls Try.prog 35 #[.slice ad zs.length cp] w' fun e w'' => e = .returned (.int .i64 (L.length - 1)) ∧ w'' = w' := fun w' h => by
    rw [show (L.length : Int) - 1 = tot zs by omega]
    exact (total_any ad cp zs w' (by omega) (fun x hx => by have := hzl.2 x hx; omega) h).mono (fun e w'' h => ⟨h.1, h.2.symm⟩)
  have HT := Lib.hid hLt'
  have H0 := Lib.hid hL0'
  have HR := Lib.hid hLr'
  clear hz hL hLt' hL0' hLr' hLl
  go_wp2_with fail
  refine (hF w1 hI).mono ?_
  rintro e w2 ⟨v2, rfl, hO2, hB2⟩
  obtain ⟨a2, c2, rfl, hI2, hcap2⟩ := hO2.shape
  have s2 := hB2.size
  have hA2 := hB.trans (hB2.mono s1)
  have hz2' := hI.below hB2
  go_wp2_with fail
  refine (hS w2 hz2').mono ?_
  rintro e w3 ⟨v3, rfl, hO3, hB3⟩
  obtain ⟨a3, c3, rfl, hI3, _⟩ := hO3.shape
  have s3 := hB3.size
  have hI23 := hI2.below hB3
  have hz3 := hz2'.below hB3
  have hA3 := hA2.trans (hB3.mono (by omega))
  clear hO2 hI2 hO3 hB2 hB3 hA2 hz2'
  go_wp2_with fail
  refine (sameInts_any a2 a3 c2 c3 L L w3 (by omega) hI23 hI3).mono ?_
  rintro e w4 ⟨rfl, n4, rfl⟩
  simp only [decide_true]
  have hI24 := hI23.dr n4
  have hI34 := hI3.dr n4
  have hz4 := hz3.dr n4
  have hA4 := belowDr hA3 n4
  have s4 : w3.heap.size = (w3.drewN n4).heap.size := rfl
  clear hI23 hI3 hz3 hA3
  generalize w3.drewN n4 = w4 at *
  clear hF hS hcap2 hI34
  have HX := Lib.hid hLx
  clear hLx
  obtain ⟨b, off, rfl, hbb, hcell⟩ := hI24.at (by omega)
  go_wp2
  go_loopw [9] (fun i wr => ∃ k n : Nat, k ≤ L.length ∧ i = .int .i64 k ∧ wr = w4.drewN n) (fun i _ => L.length - (intOf i).toNat)
  case atStart => exact ⟨0, 0, Nat.zero_le _, rfl, rfl⟩
  case round =>
    obtain ⟨k, n, hk, rfl, rfl⟩ := hrel
    by_cases hlt : k < L.length
    · have hx := hcell k hlt
      have hy := hcell (L.length - 1 - k) (by omega)
      rw [HR.out k hlt] at hy
      generalize L[k]?.getD 0 = x at hx hy
      clear hcell
      go_wp2
      go_quiet (fail)
      go_wp2
      go_roundw
      case rel => exact ⟨k + 1, n + nq, by omega, by go_num, by simp⟩
      case measure => simp [intOf]; omega
    · obtain rfl : k = L.length := by omega
      have hx : (w4.drewN n).cell? ⟨b, off + 0, none⟩ = _ := hcell 0 (by omega)
      rw [H0.out] at hx
      simp only [Nat.add_zero] at hx
      have hA5 := belowDr hA4 n
      have hz5 := hz4.dr n
      have hI25 := hI24.dr n
      clear hcell hz4 hI24 hA4
      generalize w4.drewN n = w5 at hx hA5 hz5 hI25 ⊢
      have hz4' : ∀ n, Calls Try.prog 35 #[.slice ad zs.length cp] (w5.drewN n) fun e w' => e = .returned (.int .i64 (L.length - 1)) ∧ w' = w5.drewN n := fun n => htz (w5.drewN n) (hz5.dr n)
      have hlt4 : ∀ n, Calls Try.prog 35 #[.slice (some ⟨b, off, none⟩) L.length c2] (w5.drewN n) fun e w' => e = .returned (.int .i64 (2 ^ zs.length)) ∧ w' = w5.drewN n := fun n => by
        rw [← HT.out]
        exact (total_any (some ⟨b, off, none⟩) c2 L (w5.drewN n) (Nat.le_trans hLb.1 (by omega)) HX.out (hI25.dr n)).mono (fun e w' h => ⟨h.1, h.2.symm⟩)
      clear htz hI25 HX HT H0 HR hz5
      generalize L.length = N at *
      go_wp2_with fail
      go_quiet (first | (go_at_call 35; with_reducible refine Calls.quiet_of_same (hlt4 _)) | (go_at_call 35; with_reducible refine Calls.quiet_of_same (hz4' _)))
      go_wp2
      go_ret
      exact ⟨rfl, belowDr hA5 nq⟩
end Go.Proofs.Ytbpkffpejmlonaa
