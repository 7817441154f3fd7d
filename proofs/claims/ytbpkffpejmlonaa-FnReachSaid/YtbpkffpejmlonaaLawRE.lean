/- The walk of the law FnReach. Conditions: the code has at most 1048576 bytes, else the law answers at once. -/
import Derived.Test.YtbpkffpejmlonaaM14
import Derived.Test.YtbpkffpejmlonaaSF
namespace Go.Proofs.Ytbpkffpejmlonaa
open Go.RowKit

set_option maxHeartbeats 4000000 in
theorem FnReach_law (a : Option Addr) (len cap : Nat) (w : World) (hcap : len ≤ cap) (hb : BytesAt w w.heap.size a len) (hmax : len ≤ 9223372036854775807) :
    Calls Try.prog 19 #[.slice a len cap] w fun e w' => e = .returned (.bool true) ∧ Below w.heap.size w w' := by
  by_cases hl : len ≤ 1048576
  case neg =>
    go_enter Try.func19, Try.ntmps19
    go_wp2
    go_ret
    exact ⟨rfl, Below.refl _ _⟩
  go_enter Try.func19, Try.ntmps19
  go_wp2_with fail
  refine (DrawSumReach_any a len cap w hl hcap hb).mono ?_
  rintro e w1 ⟨ad, cp, zs, rfl, hz1, hz2, hI, hB⟩
  have s1 := hB.size
  by_cases hz : inL zs = true
  case neg =>
    have hz' : inL zs = false := by simpa using hz
    obtain ⟨L, hL, hLl⟩ : ∃ L : List Int, sumRR zs = L ∧ L.length ≤ 601 := ⟨_, rfl, sumRR_length zs⟩
    have hF : ∀ w', IntsAt w' ad zs → Calls Try.prog 76 #[.slice ad zs.length cp] w' (ListR w' false L) := fun w' h => by have := SumReach_any ad cp zs w' (by omega) h; rw [hL, hz'] at this; exact this
    have hS : ∀ w', IntsAt w' ad zs → Calls Try.prog 77 #[.slice ad zs.length cp] w' (ListR w' false L) := fun w' h => by have := sSumReach_any ad cp zs w' (by omega) h; rw [hL, hz'] at this; exact this
    clear hz hz' hL
    go_wp2_with fail
    refine (hF w1 hI).mono ?_
    rintro e w2 ⟨v2, rfl, hO2, hB2⟩
    obtain ⟨a2, c2, rfl, hI2, hcap2⟩ := hO2.shape
    have s2 := hB2.size
    have hA2 := hB.trans (hB2.mono s1)
    have hz2' := hI.below hB2
    go_wp2_with fail
    refine (hS w2 hz2').mono ?_
    rintro e w3 ⟨v3, rfl, hO3, hB3⟩
    obtain ⟨a3, c3, rfl, hI3, _⟩ := hO3.shape
    have s3 := hB3.size
    have hI23 := hI2.below hB3
    have hz3 := hz2'.below hB3
    have hA3 := hA2.trans (hB3.mono (by omega))
    clear hO2 hI2 hO3 hB2 hB3 hA2 hz2'
    go_wp2_with fail
    refine (sameInts_any a2 a3 c2 c3 L L w3 (by omega) hI23 hI3).mono ?_
    rintro e w4 ⟨rfl, n4, rfl⟩
    simp only [decide_true]
    have hI24 := hI23.dr n4
    have hI34 := hI3.dr n4
    have hz4 := hz3.dr n4
    have hA4 := belowDr hA3 n4
    have s4 : w3.heap.size = (w3.drewN n4).heap.size := rfl
    clear hI23 hI3 hz3 hA3
    generalize w3.drewN n4 = w4 at *
    go_wp2_with fail
    refine (sameInts_any a2 a3 c2 c3 L L w4 (by omega) hI24 hI34).mono ?_
    rintro e w5 ⟨rfl, n5, rfl⟩
    simp only [decide_true]
    have hA5 := belowDr hA4 n5
    go_wp2
    go_ret
    exact ⟨rfl, hA5⟩
  have hzl := (inL_iff zs).1 hz
  have htb := tot_bd hzl.2
  obtain ⟨L, hL, hfacts⟩ : ∃ L : List Int, sumRR zs = L ∧ reachFacts zs L := ⟨_, rfl, sumRR_facts hz⟩
  obtain ⟨hLb, hmem, hinc, hL0, hLe⟩ := hfacts
  have hF : ∀ w', IntsAt w' ad zs → Calls Try.prog 76 #[.slice ad zs.length cp] w' (ListR w' true L) := fun w' h => by have := SumReach_any ad cp zs w' (by omega) h; rw [hL, hz] at this; exact this
  have hS : ∀ w', IntsAt w' ad zs → Calls Try.prog 77 #[.slice ad zs.length cp] w' (ListR w' true L) := fun w' h => by have := sSumReach_any ad cp zs w' (by omega) h; rw [hL, hz] at this; exact this
  have hSF : ∀ (v : Int) (w' : World), 0 ≤ v → IntsAt w' ad zs → Calls Try.prog 34 #[.slice ad zs.length cp, .int .i64 v] w' (FoundPost w' (fun d => csum zs d == v) (2 ^ zs.length)) :=
    fun v w' hv h => SumFirst_any ad cp zs v hv hz w' h
  have HM := Lib.hid hmem
  have HI := Lib.hid hinc
  have H0 := Lib.hid hL0
  have HE := Lib.hid hLe
  have HSF := Lib.hid hSF
  have HG := Lib.hid hzl.2
  have hzl1 := hzl.1
  clear hz hL hmem hinc hL0 hLe hSF hzl
  go_wp2_with fail
  refine (hF w1 hI).mono ?_
  rintro e w2 ⟨v2, rfl, hO2, hB2⟩
  obtain ⟨a2, c2, rfl, hI2, hcap2⟩ := hO2.shape
  have s2 := hB2.size
  have hA2 := hB.trans (hB2.mono s1)
  have hz2' := hI.below hB2
  go_wp2_with fail
  refine (hS w2 hz2').mono ?_
  rintro e w3 ⟨v3, rfl, hO3, hB3⟩
  obtain ⟨a3, c3, rfl, hI3, _⟩ := hO3.shape
  have s3 := hB3.size
  have hI23 := hI2.below hB3
  have hz3 := hz2'.below hB3
  have hA3 := hA2.trans (hB3.mono (by omega))
  clear hO2 hI2 hO3 hB2 hB3 hA2 hz2'
  go_wp2_with fail
  refine (sameInts_any a2 a3 c2 c3 L L w3 (by omega) hI23 hI3).mono ?_
  rintro e w4 ⟨rfl, n4, rfl⟩
  simp only [decide_true]
  have hI24 := hI23.dr n4
  have hI34 := hI3.dr n4
  have hz4 := hz3.dr n4
  have hA4 := belowDr hA3 n4
  have s4 : w3.heap.size = (w3.drewN n4).heap.size := rfl
  clear hI23 hI3 hz3 hA3
  generalize w3.drewN n4 = w4 at *
  clear hF hS hcap2 hI34
  obtain ⟨b, off, rfl, _, _⟩ := hI24.at (by omega)
  go_wp2
  go_loopw [8] (fun i wr => ∃ k : Nat, k ≤ L.length ∧ i = .int .i64 k ∧ IntsAt wr (some ⟨b, off, none⟩) L ∧ IntsAt wr ad zs ∧ Below w.heap.size w wr) (fun i _ => L.length - (intOf i).toNat)
  case atStart => exact ⟨0, Nat.zero_le _, rfl, hI24, hz4, hA4⟩
  case round =>
    obtain ⟨k, hk, rfl, hIL, hIz, hBr⟩ := hrel
    clear hI24 hz4 hA4 s4
    by_cases hlt : k < L.length
    · obtain ⟨b2, o2, he, _, hcell⟩ := hIL.at (by omega)
      simp only [Option.some.injEq, Addr.mk.injEq, and_true] at he
      obtain ⟨rfl, rfl⟩ := he
      have hx := hcell k hlt
      have hm := HM.out k hlt
      have HP := Lib.hid (fun (m : Nat) (hm : k = m + 1) => (show L[m]?.getD 0 < L[k]?.getD 0 by subst hm; exact HI.out m hlt))
      obtain ⟨x, hxv⟩ : ∃ x, L[k]?.getD 0 = x := ⟨_, rfl⟩
      rw [hxv] at hx hm HP
      have HXV := Lib.hid hxv
      obtain ⟨hx0, hx6, c, hc1, hc2⟩ := hm
      have HC1 := Lib.hid hc1
      have HC2 := Lib.hid hc2
      clear hcell hxv hc1 hc2
      go_wp2_with fail
      refine (HSF.out x _ hx0 hIz).mono ?_
      rintro e w5 ⟨r, ok, rfl, hFi, hB5⟩
      obtain rfl : ok = true := by
        rcases hFi with ⟨rfl, _⟩ | ⟨rfl, rfl, h3⟩
        · rfl
        · have := h3 c HC1.out
          simp [HC2.out] at this
      have hIL5 := hIL.below hB5
      have hIz5 := hIz.below hB5
      have hA5 := hBr.trans (hB5.mono hBr.size)
      clear hFi hB5 hx
      obtain ⟨b2, o2, he, _, hcell⟩ := hIL5.at (by omega)
      simp only [Option.some.injEq, Addr.mk.injEq, and_true] at he
      obtain ⟨rfl, rfl⟩ := he
      rcases Nat.eq_zero_or_pos k with rfl | hpos
      · clear hcell
        go_wp2_with fail
        go_quiet (fail)
        go_wp2
        go_roundw
        case rel => exact ⟨1, by omega, by go_num, hIL5.dr _, hIz5.dr _, belowDr hA5 _⟩
        case measure => simp [intOf]; omega
      · obtain ⟨m, rfl⟩ : ∃ m, k = m + 1 := ⟨k - 1, by omega⟩
        have hx := hcell (m + 1) hlt
        rw [HXV.out] at hx
        have hy := hcell m (by omega)
        have hyx := HP.out m rfl
        generalize L[m]?.getD 0 = y at hy hyx
        clear hcell
        go_wp2_with fail
        go_quiet (fail)
        go_wp2
        go_roundw
        case rel => exact ⟨m + 1 + 1, by omega, by go_num, hIL5.dr _, hIz5.dr _, belowDr hA5 _⟩
        case measure => simp [intOf]; omega
    · obtain rfl : k = L.length := by omega
      obtain ⟨b2, o2, he, _, hcell⟩ := hIL.at (by omega)
      simp only [Option.some.injEq, Addr.mk.injEq, and_true] at he
      obtain ⟨rfl, rfl⟩ := he
      have hx := hcell 0 (by omega)
      have hy := hcell (L.length - 1) (by omega)
      rw [H0.out] at hx
      rw [HE.out] at hy
      simp only [Nat.add_zero] at hx
      clear hcell
      have htz : ∀ n, Calls Try.prog 35 #[.slice ad zs.length cp] (wr.drewN n) fun e w'' => e = .returned (.int .i64 (tot zs)) ∧ w'' = wr.drewN n := fun n =>
        (total_any ad cp zs (wr.drewN n) (by omega) (fun x hx => by have := HG.out x hx; omega) (hIz.dr n)).mono (fun e w'' h => ⟨h.1, h.2.symm⟩)
      generalize tot zs = T at *
      go_wp2_with fail
      go_quiet (first | (go_at_call 35; refine Calls.quiet_of_same (htz _)))
      go_wp2
      go_ret
      exact ⟨rfl, belowDr hBr nq⟩
end Go.Proofs.Ytbpkffpejmlonaa
