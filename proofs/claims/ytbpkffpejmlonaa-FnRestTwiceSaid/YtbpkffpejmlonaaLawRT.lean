/- The walk of the law FnRestTwice. Conditions: the code has at most 1048576 bytes, else the law answers at once. -/
import Derived.Test.YtbpkffpejmlonaaLE
import Derived.Test.YtbpkffpejmlonaaW5
import Derived.Test.YtbpkffpejmlonaaW9
import Derived.Test.YtbpkffpejmlonaaM12
import Derived.Test.YtbpkffpejmlonaaIJ
namespace Go.Proofs.Ytbpkffpejmlonaa
open Go.RowKit

set_option maxHeartbeats 4000000 in
theorem FnRestTwice_law (a : Option Addr) (len cap : Nat) (w : World) (hcap : len ≤ cap) (hb : BytesAt w w.heap.size a len) (hmax : len ≤ 9223372036854775807) :
    Calls Try.prog 25 #[.slice a len cap] w fun e w' => e = .returned (.bool true) ∧ Below w.heap.size w w' := by
  by_cases hl : len ≤ 1048576
  case neg =>
    go_enter Try.func25, Try.ntmps25
    go_wp2
    go_ret
    exact ⟨rfl, Below.refl _ _⟩
  go_enter Try.func25, Try.ntmps25
  go_wp2_with fail
  refine (DrawRestCounts_any a len cap w hl hcap hb).mono ?_
  rintro e w1 ⟨ad, cp, zs, q, rfl, hz1, hz2, hI, hq1, hq2, hB⟩
  have s1 := hB.size
  by_cases hz : restOk zs q = true
  case neg =>
    have hz' : restOk zs q = false := by simpa using hz
    obtain ⟨L, hL, hLl⟩ : ∃ L : List Int, (if restOk zs q = true then restC zs q else []) = L ∧ L.length ≤ 6 := ⟨_, rfl, restCR_length zs q⟩
    have hF : ∀ w', IntsAt w' ad zs → Calls Try.prog 41 #[.slice ad zs.length cp, .int .i64 q] w' (ListR w' false L) := fun w' h => by have := RestCounts_any ad cp zs q w' (by omega) h; rw [hL, hz'] at this; exact this
    have hS : ∀ w', IntsAt w' ad zs → Calls Try.prog 40 #[.slice ad zs.length cp, .int .i64 q] w' (ListR w' false L) := fun w' h => by have := sRestCounts_any ad cp zs q w' (by omega) h; rw [hL, hz'] at this; exact this
    clear hz hz'
    go_wp2_with fail
    refine (hF w1 hI).mono ?_
    rintro e w2 ⟨v2, rfl, hO2, hB2⟩
    obtain ⟨a2, c2, rfl, hI2, hcap2⟩ := hO2.shape
    have s2 := hB2.size
    have hA2 := hB.trans (hB2.mono s1)
    have hz2' := hI.below hB2
    go_wp2_with fail
    refine (hS w2 hz2').mono ?_
    rintro e w3 ⟨v3, rfl, hO3, hB3⟩
    obtain ⟨a3, c3, rfl, hI3, _⟩ := hO3.shape
    have s3 := hB3.size
    have hI23 := hI2.below hB3
    have hz3 := hz2'.below hB3
    have hA3 := hA2.trans (hB3.mono (by omega))
    clear hO2 hI2 hO3 hB2 hB3 hA2 hz2'
    go_wp2_with fail
    refine (sameInts_any a2 a3 c2 c3 L L w3 (by omega) hI23 hI3).mono ?_
    rintro e w4 ⟨rfl, n4, rfl⟩
    simp only [decide_true]
    have hI24 := hI23.dr n4
    have hI34 := hI3.dr n4
    have hz4 := hz3.dr n4
    have hA4 := belowDr hA3 n4
    have s4 : w3.heap.size = (w3.drewN n4).heap.size := rfl
    clear hI23 hI3 hz3 hA3
    generalize w3.drewN n4 = w4 at *
    go_wp2_with fail
    refine (sameInts_any a2 a3 c2 c3 L L w4 (by omega) hI24 hI34).mono ?_
    rintro e w5 ⟨rfl, n5, rfl⟩
    simp only [decide_true]
    have hA5 := belowDr hA4 n5
    go_wp2
    go_ret
    exact ⟨rfl, hA5⟩
  have hq := ((restOk_iff zs q).1 hz).2
  have hzl := (inL_iff zs).1 ((restOk_iff zs q).1 hz).1
  have hpw := pow_bd10 zs.length (by omega)
  obtain ⟨n, rfl⟩ : ∃ n : Nat, q = n := ⟨q.toNat, by omega⟩
  obtain ⟨L, hL, hLl, hLt', hL0, hLx⟩ : ∃ L : List Int, (if restOk zs (n : Int) = true then restC zs n else []) = L ∧ n = L.length ∧ tot L = 2 ^ zs.length ∧ (1 : Int) ≤ L[0]?.getD 0 ∧ (∀ x ∈ L, 0 ≤ x ∧ x ≤ 1000000) := by
    refine ⟨_, rfl, ?_⟩
    rw [if_pos hz]
    refine ⟨by rw [restC_length]; simp, by rw [restC_tot zs (by omega)]; simp, restC_first zs (by omega), fun x hx => ?_⟩
    have h1 := tally_mem hx
    have h2 : ((2 ^ zs.length : Nat) : Int) = 2 ^ zs.length := by simp
    omega
  have hF : ∀ w', IntsAt w' ad zs → Calls Try.prog 41 #[.slice ad zs.length cp, .int .i64 n] w' (ListR w' true L) := fun w' h => by have := RestCounts_any ad cp zs n w' (by omega) h; rw [hL, hz] at this; exact this
  have hS : ∀ w', IntsAt w' ad zs → Calls Try.prog 40 #[.slice ad zs.length cp, .int .i64 n] w' (ListR w' true L) := fun w' h => by have := sRestCounts_any ad cp zs n w' (by omega) h; rw [hL, hz] at this; exact this
  have HZ := Lib.hid hz
  clear hz hL
  have HT := Lib.hid hLt'
  subst hLl
  clear hLt'
  go_wp2_with fail
  refine (hF w1 hI).mono ?_
  rintro e w2 ⟨v2, rfl, hO2, hB2⟩
  obtain ⟨a2, c2, rfl, hI2, hcap2⟩ := hO2.shape
  have s2 := hB2.size
  have hA2 := hB.trans (hB2.mono s1)
  have hz2' := hI.below hB2
  go_wp2_with fail
  refine (hS w2 hz2').mono ?_
  rintro e w3 ⟨v3, rfl, hO3, hB3⟩
  obtain ⟨a3, c3, rfl, hI3, _⟩ := hO3.shape
  have s3 := hB3.size
  have hI23 := hI2.below hB3
  have hz3 := hz2'.below hB3
  have hA3 := hA2.trans (hB3.mono (by omega))
  clear hO2 hI2 hO3 hB2 hB3 hA2 hz2'
  go_wp2_with fail
  refine (sameInts_any a2 a3 c2 c3 L L w3 (by omega) hI23 hI3).mono ?_
  rintro e w4 ⟨rfl, n4, rfl⟩
  simp only [decide_true]
  have hI24 := hI23.dr n4
  have hI34 := hI3.dr n4
  have hz4 := hz3.dr n4
  have hA4 := belowDr hA3 n4
  have s4 : w3.heap.size = (w3.drewN n4).heap.size := rfl
  clear hI23 hI3 hz3 hA3
  generalize w3.drewN n4 = w4 at *
  go_wp2_with fail
  refine (RestJust_any ad cp zs L.length L.length w4 (by omega) hz4).mono ?_
  rintro e w5 ⟨r, ok, rfl, hFi, hB5⟩
  have hA5 := hA4.trans (hB5.mono (by omega))
  by_cases hlt : zs.length < 2 * L.length - 1
  · clear hFi
    go_wp2
    go_ret
    exact ⟨rfl, hA5⟩
  have hok : ok = true := by
    rcases hFi with ⟨rfl, _⟩ | ⟨rfl, rfl, h⟩
    · rfl
    · obtain ⟨c, h1, h2, h3⟩ := egz (n := L.length) (by omega) zs (by omega)
      have h4 := h c h1
      simp [justP, HZ.out, h2, h3] at h4
  subst hok
  clear hFi
  go_wp2
  go_ret
  exact ⟨rfl, hA5⟩
end Go.Proofs.Ytbpkffpejmlonaa
