/- The walk of the law FnSigned. Conditions: the code has at most 1048576 bytes, else the law answers at once. -/
import Derived.Test.YtbpkffpejmlonaaIG
import Derived.Test.YtbpkffpejmlonaaIM
import Derived.Test.YtbpkffpejmlonaaW9
import Derived.Test.YtbpkffpejmlonaaLD
namespace Go.Proofs.Ytbpkffpejmlonaa
open Go.RowKit

set_option maxHeartbeats 4000000 in
theorem FnSigned_law (a : Option Addr) (len cap : Nat) (w : World) (hcap : len ≤ cap) (hb : BytesAt w w.heap.size a len) (hmax : len ≤ 9223372036854775807) :
    Calls Try.prog 21 #[.slice a len cap] w fun e w' => e = .returned (.bool true) ∧ Below w.heap.size w w' := by
  by_cases hl : len ≤ 1048576
  case neg =>
    go_enter Try.func21, Try.ntmps21
    go_wp2
    go_ret
    exact ⟨rfl, Below.refl _ _⟩
  go_enter Try.func21, Try.ntmps21
  go_wp2_with fail
  refine (DrawHalfSigned_any a len cap w hl hcap hb).mono ?_
  rintro e w1 ⟨ad, cp, zs, rfl, hz1, hz2, hI, hB⟩
  have s1 := hB.size
  by_cases hz : inL zs = true
  case neg =>
    have hz' : inL zs = false := by simpa using hz
    obtain ⟨L, hL, hLl⟩ : ∃ L : List Int, sgnR zs = L ∧ L.length ≤ 601 := ⟨_, rfl, sgnR_length zs⟩
    have hF : ∀ w', IntsAt w' ad zs → Calls Try.prog 81 #[.slice ad zs.length cp] w' (ListR w' false L) := fun w' h => by have := HalfSigned_any ad cp zs w' (by omega) h; rw [hL, hz'] at this; exact this
    have hS : ∀ w', IntsAt w' ad zs → Calls Try.prog 82 #[.slice ad zs.length cp] w' (ListR w' false L) := fun w' h => by have := sHalfSigned_any ad cp zs w' (by omega) h; rw [hL, hz'] at this; exact this
    clear hz hz' hL
    go_wp2_with fail
    refine (hF w1 hI).mono ?_
    rintro e w2 ⟨v2, rfl, hO2, hB2⟩
    obtain ⟨a2, c2, rfl, hI2, hcap2⟩ := hO2.shape
    have s2 := hB2.size
    have hA2 := hB.trans (hB2.mono s1)
    have hz2' := hI.below hB2
    go_wp2_with fail
    refine (hS w2 hz2').mono ?_
    rintro e w3 ⟨v3, rfl, hO3, hB3⟩
    obtain ⟨a3, c3, rfl, hI3, _⟩ := hO3.shape
    have s3 := hB3.size
    have hI23 := hI2.below hB3
    have hz3 := hz2'.below hB3
    have hA3 := hA2.trans (hB3.mono (by omega))
    clear hO2 hI2 hO3 hB2 hB3 hA2 hz2'
    go_wp2_with fail
    refine (sameInts_any a2 a3 c2 c3 L L w3 (by omega) hI23 hI3).mono ?_
    rintro e w4 ⟨rfl, n4, rfl⟩
    simp only [decide_true]
    have hI24 := hI23.dr n4
    have hI34 := hI3.dr n4
    have hz4 := hz3.dr n4
    have hA4 := belowDr hA3 n4
    have s4 : w3.heap.size = (w3.drewN n4).heap.size := rfl
    clear hI23 hI3 hz3 hA3
    generalize w3.drewN n4 = w4 at *
    go_wp2_with fail
    refine (sameInts_any a2 a3 c2 c3 L L w4 (by omega) hI24 hI34).mono ?_
    rintro e w5 ⟨rfl, n5, rfl⟩
    simp only [decide_true]
    have hA5 := belowDr hA4 n5
    go_wp2
    go_ret
    exact ⟨rfl, hA5⟩
  have hzl := (inL_iff zs).1 hz
  have hpw := pow_bd10 zs.length (by omega)
  have htb := tot_bd hzl.2
  have hlb := lr_bd hzl.2
  obtain ⟨K, hK⟩ : ∃ K : Nat, lr zs = K := ⟨(lr zs).toNat, by omega⟩
  obtain ⟨L, hL, hLl, hLt', hLx, hLlow', hLat'⟩ : ∃ L : List Int, sgnR zs = L ∧ (L.length : Int) = tot zs + 1 ∧ 2 * tot L - L[0]?.getD 0 = 2 ^ zs.length ∧ (∀ x ∈ L, 0 ≤ x ∧ x ≤ 1000000) ∧ (∀ v, v < K → L[v]?.getD 0 = 0) ∧ 1 ≤ L[K]?.getD 0 := by
    refine ⟨_, rfl, ?_⟩
    rw [sgnR, if_pos hz]
    refine ⟨by rw [sgnC_length]; omega, by rw [sgnC_tot hzl.2]; simp, fun x hx => ?_, fun v hv => sgnC_low hzl.2 v (by omega), ?_⟩
    · have h1 := tally_mem hx
      have h2 : ((2 ^ zs.length : Nat) : Int) = 2 ^ zs.length := by simp
      omega
    · have := sgnC_at hzl.2
      rwa [hK, Int.toNat_natCast] at this
  have hF : ∀ w', IntsAt w' ad zs → Calls Try.prog 81 #[.slice ad zs.length cp] w' (ListR w' true L) := fun w' h => by have := HalfSigned_any ad cp zs w' (by omega) h; rw [hL, hz] at this; exact this
  have hS : ∀ w', IntsAt w' ad zs → Calls Try.prog 82 #[.slice ad zs.length cp] w' (ListR w' true L) := fun w' h => by have := sHalfSigned_any ad cp zs w' (by omega) h; rw [hL, hz] at this; exact this
  have hH : ∀ w', IntsAt w' ad zs → Calls Try.prog 68 #[.slice ad zs.length cp] w' (NumPost w' K true) := fun w' h => by have := HalfBest_any ad cp zs w' (by omega) h; rw [lrR, if_pos hz, hz, hK] at this; exact this
  have hLb : L.length ≤ 601 ∧ 1 ≤ L.length ∧ K < L.length := by omega
  have HT := Lib.hid hLt'
  have HLow := Lib.hid hLlow'
  have HAt := Lib.hid hLat'
  have hzl1 := hzl.1
  clear hz hL hLt' hLlow' hLat' hLl hK hlb htb hzl
  go_wp2_with fail
  refine (hF w1 hI).mono ?_
  rintro e w2 ⟨v2, rfl, hO2, hB2⟩
  obtain ⟨a2, c2, rfl, hI2, hcap2⟩ := hO2.shape
  have s2 := hB2.size
  have hA2 := hB.trans (hB2.mono s1)
  have hz2' := hI.below hB2
  go_wp2_with fail
  refine (hS w2 hz2').mono ?_
  rintro e w3 ⟨v3, rfl, hO3, hB3⟩
  obtain ⟨a3, c3, rfl, hI3, _⟩ := hO3.shape
  have s3 := hB3.size
  have hI23 := hI2.below hB3
  have hz3 := hz2'.below hB3
  have hA3 := hA2.trans (hB3.mono (by omega))
  clear hO2 hI2 hO3 hB2 hB3 hA2 hz2'
  go_wp2_with fail
  refine (sameInts_any a2 a3 c2 c3 L L w3 (by omega) hI23 hI3).mono ?_
  rintro e w4 ⟨rfl, n4, rfl⟩
  simp only [decide_true]
  have hI24 := hI23.dr n4
  have hz4 := hz3.dr n4
  have hA4 := belowDr hA3 n4
  have s4 : w3.heap.size = (w3.drewN n4).heap.size := rfl
  clear hI23 hI3 hz3 hA3
  generalize w3.drewN n4 = w4 at *
  clear hF hS hcap2
  go_wp2_with fail
  refine (hH w4 hz4).mono ?_
  rintro e w5 ⟨rfl, hB5⟩
  have hI25 := hI24.below hB5
  have hA5 := hA4.trans (hB5.mono (by omega))
  clear hH hI24 hz4 hA4 hB5
  have HX := Lib.hid hLx
  clear hLx
  obtain ⟨b, off, rfl, hbb, hcell⟩ := hI25.at (by omega)
  go_wp2
  go_loop [10] (fun i => ∃ k : Nat, k ≤ K ∧ i = .int .i64 k) (fun i => L.length - (intOf i).toNat)
  case atStart => exact ⟨0, Nat.zero_le _, rfl⟩
  case round =>
    obtain ⟨k, hk, rfl⟩ := hrel
    by_cases hlt : k < K
    · have hx := hcell k (by omega)
      rw [HLow.out k hlt] at hx
      clear hcell
      go_wp2
      go_round
      case rel => exact ⟨k + 1, by omega, by go_num⟩
      case measure => simp [intOf]; omega
    · obtain rfl : k = K := by omega
      have hy := hcell k (by omega)
      have hy1 := HAt.out
      have hx := hcell 0 (by omega)
      have HTT := HT
      clear HAt HT HLow hlt hk
      generalize L[k]?.getD 0 = y at hy hy1
      generalize L[0]?.getD 0 = x0 at hx HTT
      have hlt4 : ∀ n, Calls Try.prog 35 #[.slice (some ⟨b, off, none⟩) L.length c2] (w5.drewN n) fun e w' => e = .returned (.int .i64 (tot L)) ∧ w' = w5.drewN n := fun n =>
        (total_any (some ⟨b, off, none⟩) c2 L (w5.drewN n) (Nat.le_trans hLb.1 (by omega)) HX.out (hI25.dr n)).mono (fun e w' h => ⟨h.1, h.2.symm⟩)
      have htl := tot_bdM (M := 1000000) HX.out
      simp only [Nat.add_zero] at hx
      clear hcell HX hI25
      generalize tot L = t at *
      generalize L.length = N at *
      have hxb : -10000000000 ≤ x0 ∧ x0 ≤ 10000000000 := by have := HTT.out; omega
      go_wp2_with fail
      go_quiet (first | (go_at_call 35; with_reducible refine Calls.quiet_of_same (hlt4 _)))
      go_wp2
      go_ret
      exact ⟨ret_bool (by have := HTT.out; simp; omega), belowDr hA5 nq⟩
end Go.Proofs.Ytbpkffpejmlonaa
