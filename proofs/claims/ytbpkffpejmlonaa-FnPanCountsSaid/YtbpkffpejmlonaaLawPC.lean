/- The walk of the law FnPanCounts. Conditions: the code has at most 1048576 bytes, else the law answers at once. -/
import Derived.Test.YtbpkffpejmlonaaIV
import Derived.Test.YtbpkffpejmlonaaW9
import Derived.Test.YtbpkffpejmlonaaLQ
namespace Go.Proofs.Ytbpkffpejmlonaa
open Go.RowKit

set_option maxHeartbeats 4000000 in
theorem FnPanCounts_law (a : Option Addr) (len cap : Nat) (w : World) (hcap : len ≤ cap) (hb : BytesAt w w.heap.size a len) (hmax : len ≤ 9223372036854775807) :
    Calls Try.prog 24 #[.slice a len cap] w fun e w' => e = .returned (.bool true) ∧ Below w.heap.size w w' := by
  by_cases hl : len ≤ 1048576
  case neg =>
    go_enter Try.func24, Try.ntmps24
    go_wp2
    go_ret
    exact ⟨rfl, Below.refl _ _⟩
  go_enter Try.func24, Try.ntmps24
  go_wp2_with fail
  refine (DrawPanCounts_any a len cap w hl hcap hb).mono ?_
  rintro e w1 ⟨ad, cp, zs, rfl, hz1, hz2, hI, hB⟩
  have s1 := hB.size
  by_cases hz : inL zs = true
  case neg =>
    have hz' : inL zs = false := by simpa using hz
    obtain ⟨L, hL, hLl⟩ : ∃ L : List Int, panR zs = L ∧ L.length ≤ 601 := ⟨_, rfl, panR_length zs⟩
    have hF : ∀ w', IntsAt w' ad zs → Calls Try.prog 88 #[.slice ad zs.length cp] w' (ListR w' false L) := fun w' h => by have := PanCounts_any ad cp zs w' (by omega) h; rw [hL, hz'] at this; exact this
    have hS : ∀ w', IntsAt w' ad zs → Calls Try.prog 89 #[.slice ad zs.length cp] w' (ListS w' false L) := fun w' h => by have := sPanCounts_any ad cp zs w' (by omega) h; rw [hL, hz'] at this; exact this
    clear hz hz' hL
    go_wp2_with fail
    refine (hF w1 hI).mono ?_
    rintro e w2 ⟨v2, rfl, hO2, hB2⟩
    obtain ⟨a2, c2, rfl, hI2, hcap2⟩ := hO2.shape
    have s2 := hB2.size
    have hA2 := hB.trans (hB2.mono s1)
    have hz2' := hI.below hB2
    go_wp2_with fail
    refine (hS w2 hz2').mono ?_
    rintro e w3 ⟨a3, c3, rfl, hI3, hB3⟩
    have s3 := hB3.size
    have hI23 := hI2.below hB3
    have hz3 := hz2'.below hB3
    have hA3 := hA2.trans (hB3.mono (by omega))
    clear hO2 hI2 hB2 hB3 hA2 hz2'
    go_wp2_with fail
    refine (sameInts_any a2 a3 c2 c3 L L w3 (by omega) hI23 hI3).mono ?_
    rintro e w4 ⟨rfl, n4, rfl⟩
    simp only [decide_true]
    have hI24 := hI23.dr n4
    have hI34 := hI3.dr n4
    have hz4 := hz3.dr n4
    have hA4 := belowDr hA3 n4
    have s4 : w3.heap.size = (w3.drewN n4).heap.size := rfl
    clear hI23 hI3 hz3 hA3
    generalize w3.drewN n4 = w4 at *
    go_wp2_with fail
    refine (sameInts_any a2 a3 c2 c3 L L w4 (by omega) hI24 hI34).mono ?_
    rintro e w5 ⟨rfl, n5, rfl⟩
    simp only [decide_true]
    have hA5 := belowDr hA4 n5
    go_wp2
    go_ret
    exact ⟨rfl, hA5⟩
  have hzl := (inL_iff zs).1 hz
  have htb := tot_bd hzl.2
  have hp3 := pow3_bd zs.length hzl.1
  obtain ⟨L, hL, hLl, hLt', hLx, hLast'⟩ : ∃ L : List Int, panR zs = L ∧ (L.length : Int) = tot zs + 1 ∧ 2 * tot L - L[0]?.getD 0 = 3 ^ zs.length ∧ (∀ x ∈ L, 0 ≤ x ∧ x ≤ 1000000) ∧ L[L.length - 1]?.getD 0 = 1 := by
    refine ⟨_, rfl, ?_⟩
    rw [panR, if_pos hz]
    refine ⟨by rw [panC_length]; omega, by rw [panC_tot hzl.2]; simp, fun x hx => ?_, panC_last hzl.2⟩
    have h1 := tally_mem hx
    omega
  have hF : ∀ w', IntsAt w' ad zs → Calls Try.prog 88 #[.slice ad zs.length cp] w' (ListR w' true L) := fun w' h => by have := PanCounts_any ad cp zs w' (by omega) h; rw [hL, hz] at this; exact this
  have hS : ∀ w', IntsAt w' ad zs → Calls Try.prog 89 #[.slice ad zs.length cp] w' (ListS w' true L) := fun w' h => by have := sPanCounts_any ad cp zs w' (by omega) h; rw [hL, hz] at this; exact this
  have hLb : L.length ≤ 601 ∧ 1 ≤ L.length := by omega
  have htz : ∀ w', IntsAt w' ad zs → Calls Try.prog 35 #[.slice ad zs.length cp] w' fun e w'' => e = .returned (.int .i64 (L.length - 1)) ∧ w'' = w' := fun w' h => by
    rw [show (L.length : Int) - 1 = tot zs by omega]
    exact (total_any ad cp zs w' (by omega) (fun x hx => by have := hzl.2 x hx; omega) h).mono (fun e w'' h => ⟨h.1, h.2.symm⟩)
  have HT := Lib.hid hLt'
  have HLast := Lib.hid hLast'
  have hzl1 := hzl.1
  clear hz hL hLt' hLast' hLl htb hzl
  go_wp2_with fail
  refine (hF w1 hI).mono ?_
  rintro e w2 ⟨v2, rfl, hO2, hB2⟩
  obtain ⟨a2, c2, rfl, hI2, hcap2⟩ := hO2.shape
  have s2 := hB2.size
  have hA2 := hB.trans (hB2.mono s1)
  have hz2' := hI.below hB2
  go_wp2_with fail
  refine (hS w2 hz2').mono ?_
  rintro e w3 ⟨a3, c3, rfl, hI3, hB3⟩
  have s3 := hB3.size
  have hI23 := hI2.below hB3
  have hz3 := hz2'.below hB3
  have hA3 := hA2.trans (hB3.mono (by omega))
  clear hO2 hI2 hB2 hB3 hA2 hz2'
  go_wp2_with fail
  refine (sameInts_any a2 a3 c2 c3 L L w3 (by omega) hI23 hI3).mono ?_
  rintro e w4 ⟨rfl, n4, rfl⟩
  simp only [decide_true]
  have hI24 := hI23.dr n4
  have hz4 := hz3.dr n4
  have hA4 := belowDr hA3 n4
  have s4 : w3.heap.size = (w3.drewN n4).heap.size := rfl
  clear hI23 hI3 hz3 hA3
  generalize w3.drewN n4 = w4 at *
  clear hF hS hcap2
  have HX := Lib.hid hLx
  clear hLx
  obtain ⟨b, off, rfl, hbb, hcell⟩ := hI24.at (by omega)
  have hx := hcell 0 (by omega)
  have hx2 := hcell (L.length - 1) (by omega)
  rw [HLast.out] at hx2
  clear hcell HLast
  have hlt4 : ∀ n, Calls Try.prog 35 #[.slice (some ⟨b, off, none⟩) L.length c2] (w4.drewN n) fun e w' => e = .returned (.int .i64 (tot L)) ∧ w' = w4.drewN n := fun n =>
    (total_any (some ⟨b, off, none⟩) c2 L (w4.drewN n) (Nat.le_trans hLb.1 (by omega)) HX.out (hI24.dr n)).mono (fun e w' h => ⟨h.1, h.2.symm⟩)
  have htz4 : ∀ n, Calls Try.prog 35 #[.slice ad zs.length cp] (w4.drewN n) fun e w' => e = .returned (.int .i64 (L.length - 1)) ∧ w' = w4.drewN n := fun n => htz (w4.drewN n) (hz4.dr n)
  have htl := tot_bdM (M := 1000000) HX.out
  simp only [Nat.add_zero] at hx
  clear HX hI24 htz hz4
  generalize L[0]?.getD 0 = x0 at hx HT
  generalize tot L = t at *
  generalize L.length = N at *
  have hp3' : 1 ≤ (3 : Int) ^ zs.length ∧ (3 : Int) ^ zs.length ≤ 59049 := by
    have : ((3 ^ zs.length : Nat) : Int) = 3 ^ zs.length := by simp
    omega
  have hxb : -10000000000 ≤ x0 ∧ x0 ≤ 10000000000 := by have := HT.out; omega
  go_wp2
  go_loop [8, 9] (fun v i => ∃ k : Nat, k ≤ zs.length ∧ i = .int .i64 k ∧ v = .int .i64 ((3 : Int) ^ k)) (fun _ i => zs.length - (intOf i).toNat)
  case atStart => exact ⟨0, Nat.zero_le _, rfl, rfl⟩
  case round =>
    obtain ⟨k, hk, rfl, rfl⟩ := hrel
    by_cases hlt : k < zs.length
    · have hk3 : 1 ≤ (3 : Int) ^ k ∧ (3 : Int) ^ k ≤ 59049 := by
        have h1 := pow3_bd k (by omega)
        have h2 : ((3 ^ k : Nat) : Int) = 3 ^ k := by simp
        omega
      have HS : Hid ((3 : Int) ^ (k + 1) = 3 ^ k * 3) := Int.pow_succ 3 k
      generalize (3 : Int) ^ k = y at *
      go_wp2
      go_round
      case rel => exact ⟨k + 1, by omega, by go_num, by rw [HS.out]⟩
      case measure => simp [intOf]; omega
    · obtain rfl : k = zs.length := by omega
      generalize (3 : Int) ^ zs.length = y at *
      have hgd2 : (2 * t - x0 == y) = true := by have := HT.out; simp; omega
      go_wp2_with fail
      go_quiet (first | (go_at_call 35; with_reducible refine Calls.quiet_of_same (hlt4 _)) | (go_at_call 35; with_reducible refine Calls.quiet_of_same (htz4 _)))
      go_wp2
      go_ret
      exact ⟨rfl, belowDr hA4 nq⟩
end Go.Proofs.Ytbpkffpejmlonaa
