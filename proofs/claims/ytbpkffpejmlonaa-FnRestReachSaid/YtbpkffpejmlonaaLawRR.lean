/- The walk of the law FnRestReach. Conditions: the code has at most 1048576 bytes, else the law answers at once. -/
import Derived.Test.YtbpkffpejmlonaaLE
import Derived.Test.YtbpkffpejmlonaaW5
import Derived.Test.YtbpkffpejmlonaaW9
import Derived.Test.YtbpkffpejmlonaaM12
namespace Go.Proofs.Ytbpkffpejmlonaa
open Go.RowKit

set_option maxHeartbeats 4000000 in
theorem FnRestReach_law (a : Option Addr) (len cap : Nat) (w : World) (hcap : len ≤ cap) (hb : BytesAt w w.heap.size a len) (hmax : len ≤ 9223372036854775807) :
    Calls Try.prog 15 #[.slice a len cap] w fun e w' => e = .returned (.bool true) ∧ Below w.heap.size w w' := by
  by_cases hl : len ≤ 1048576
  case neg =>
    go_enter Try.func15, Try.ntmps15
    go_wp2
    go_ret
    exact ⟨rfl, Below.refl _ _⟩
  go_enter Try.func15, Try.ntmps15
  go_wp2_with fail
  refine (DrawRestReach_any a len cap w hl hcap hb).mono ?_
  rintro e w1 ⟨ad, cp, zs, q, rfl, hz1, hz2, hI, hq1, hq2, hB⟩
  have s1 := hB.size
  by_cases hz : restOk zs q = true
  case neg =>
    have hz' : restOk zs q = false := by simpa using hz
    obtain ⟨L, hL, hLl⟩ : ∃ L : List Int, (restR zs q) = L ∧ L.length ≤ 6 := ⟨_, rfl, restR_length zs q⟩
    have hF : ∀ w', IntsAt w' ad zs → Calls Try.prog 52 #[.slice ad zs.length cp, .int .i64 q] w' (ListR w' false L) := fun w' h => by have := RestReach_any ad cp zs q w' (by omega) h; rw [hL, hz'] at this; exact this
    have hS : ∀ w', IntsAt w' ad zs → Calls Try.prog 51 #[.slice ad zs.length cp, .int .i64 q] w' (ListR w' false L) := fun w' h => by have := sRestReach_any ad cp zs q w' (by omega) h; rw [hL, hz'] at this; exact this
    clear hz hz'
    go_wp2_with fail
    refine (hF w1 hI).mono ?_
    rintro e w2 ⟨v2, rfl, hO2, hB2⟩
    obtain ⟨a2, c2, rfl, hI2, hcap2⟩ := hO2.shape
    have s2 := hB2.size
    have hA2 := hB.trans (hB2.mono s1)
    have hz2' := hI.below hB2
    go_wp2_with fail
    refine (hS w2 hz2').mono ?_
    rintro e w3 ⟨v3, rfl, hO3, hB3⟩
    obtain ⟨a3, c3, rfl, hI3, _⟩ := hO3.shape
    have s3 := hB3.size
    have hI23 := hI2.below hB3
    have hz3 := hz2'.below hB3
    have hA3 := hA2.trans (hB3.mono (by omega))
    clear hO2 hI2 hO3 hB2 hB3 hA2 hz2'
    go_wp2_with fail
    refine (sameInts_any a2 a3 c2 c3 L L w3 (by omega) hI23 hI3).mono ?_
    rintro e w4 ⟨rfl, n4, rfl⟩
    simp only [decide_true]
    have hI24 := hI23.dr n4
    have hI34 := hI3.dr n4
    have hz4 := hz3.dr n4
    have hA4 := belowDr hA3 n4
    have s4 : w3.heap.size = (w3.drewN n4).heap.size := rfl
    clear hI23 hI3 hz3 hA3
    generalize w3.drewN n4 = w4 at *
    go_wp2_with fail
    refine (sameInts_any a2 a3 c2 c3 L L w4 (by omega) hI24 hI34).mono ?_
    rintro e w5 ⟨rfl, n5, rfl⟩
    simp only [decide_true]
    have hA5 := belowDr hA4 n5
    go_wp2
    go_ret
    exact ⟨rfl, hA5⟩
  have hq := ((restOk_iff zs q).1 hz).2
  have hzl := (inL_iff zs).1 ((restOk_iff zs q).1 hz).1
  have hpw := pow_bd10 zs.length (by omega)
  obtain ⟨n, rfl⟩ : ∃ n : Nat, q = n := ⟨q.toNat, by omega⟩
  obtain ⟨L, hL, hLl, hL1, hLk', hL0⟩ : ∃ L : List Int, restR zs (n : Int) = L ∧ L.length ≤ 6 ∧ 1 ≤ L.length ∧ ((n = 2 ∨ n = 3 ∨ n = 5) → n - 1 ≤ nonM n zs → L.length = n) ∧ (L[0]?.getD 0 = 0) := by
    refine ⟨_, rfl, restR_length _ _, ?_⟩
    have e : restR zs (n : Int) = reachK (restC zs n) n := by unfold restR; rw [if_pos hz, reachL, restC_length]; simp
    obtain ⟨t, ht⟩ := reachK_head (k := n - 1) (cs := restC zs n) (restC_first zs (by omega))
    rw [show n - 1 + 1 = n by omega] at ht
    rw [e]
    refine ⟨by rw [ht]; simp, fun h1 h2 => reachK_all (fun r hr => ?_), by rw [ht]; rfl⟩
    obtain ⟨c, c1, c2⟩ := reach h1 zs (by omega) h2 r hr
    have := restC_pos zs (n := n) (by omega) c c1
    rw [c2, Int.toNat_natCast] at this
    omega
  have hF : ∀ w', IntsAt w' ad zs → Calls Try.prog 52 #[.slice ad zs.length cp, .int .i64 n] w' (ListR w' true L) := fun w' h => by have := RestReach_any ad cp zs n w' (by omega) h; rw [hL, hz] at this; exact this
  have hS : ∀ w', IntsAt w' ad zs → Calls Try.prog 51 #[.slice ad zs.length cp, .int .i64 n] w' (ListR w' true L) := fun w' h => by have := sRestReach_any ad cp zs n w' (by omega) h; rw [hL, hz] at this; exact this
  have HZ := Lib.hid hz
  clear hz hL
  have HK := Lib.hid hLk'
  have H0 := Lib.hid hL0
  clear hLk' hL0
  go_wp2_with fail
  refine (hF w1 hI).mono ?_
  rintro e w2 ⟨v2, rfl, hO2, hB2⟩
  obtain ⟨a2, c2, rfl, hI2, hcap2⟩ := hO2.shape
  have s2 := hB2.size
  have hA2 := hB.trans (hB2.mono s1)
  have hz2' := hI.below hB2
  go_wp2_with fail
  refine (hS w2 hz2').mono ?_
  rintro e w3 ⟨v3, rfl, hO3, hB3⟩
  obtain ⟨a3, c3, rfl, hI3, _⟩ := hO3.shape
  have s3 := hB3.size
  have hI23 := hI2.below hB3
  have hz3 := hz2'.below hB3
  have hA3 := hA2.trans (hB3.mono (by omega))
  clear hO2 hI2 hO3 hB2 hB3 hA2 hz2'
  go_wp2_with fail
  refine (sameInts_any a2 a3 c2 c3 L L w3 (by omega) hI23 hI3).mono ?_
  rintro e w4 ⟨rfl, n4, rfl⟩
  simp only [decide_true]
  have hI24 := hI23.dr n4
  have hI34 := hI3.dr n4
  have hz4 := hz3.dr n4
  have hA4 := belowDr hA3 n4
  have s4 : w3.heap.size = (w3.drewN n4).heap.size := rfl
  clear hI23 hI3 hz3 hA3
  generalize w3.drewN n4 = w4 at *
  clear hF hS
  go_wp2
  go_loop [9, 10] (fun s i => ∃ k : Nat, k ≤ zs.length ∧ i = .int .i64 k ∧ s = .int .i64 (nonM n (zs.take k))) (fun _ i => zs.length - (intOf i).toNat)
  case atStart => exact ⟨0, Nat.zero_le _, rfl, rfl⟩
  case round =>
    obtain ⟨k, hk, rfl, rfl⟩ := hrel
    by_cases hlt : k < zs.length
    · obtain ⟨b, off, rfl, hb, hcell⟩ := hz4.at (by omega)
      have hx := hcell k hlt
      have HS := Lib.hid (show nonM n (zs.take (k + 1)) = nonM n (zs.take k) + if (zs[k]?.getD 0) % (n : Int) = 0 then 0 else 1 by rw [take_snoc zs k hlt, nonM_snoc])
      have hle := nonM_le n (zs.take k)
      have hlk : (zs.take k).length ≤ k := List.length_take_le _ _
      have hz2' := hzl.2 _ (show zs[k]?.getD 0 ∈ zs by rw [List.getElem?_eq_getElem hlt]; exact List.getElem_mem hlt)
      generalize zs[k]?.getD 0 = x at hx HS hz2'
      generalize nonM n (zs.take k) = s at HS hle
      clear hcell
      go_wp2
      · rename_i hm
        go_round
        case rel => exact ⟨k + 1, by omega, by go_num, by rw [HS.out, if_neg (by simpa using hm)]; simp⟩
        case measure => simp [intOf]; omega
      · rename_i hm
        go_round
        case rel => exact ⟨k + 1, by omega, by go_num, by rw [HS.out, if_pos (by simpa using hm)]; simp⟩
        case measure => simp [intOf]; omega
    · obtain rfl : k = zs.length := by omega
      rw [List.take_length]
      have hnm := nonM_le n zs
      obtain ⟨b, off, rfl, hb, hcell⟩ := hI24.at (by omega)
      have hx := hcell 0 (by omega)
      rw [H0.out] at hx
      simp only [Nat.add_zero] at hx
      clear hcell
      have hn6 : n = 1 ∨ n = 2 ∨ n = 3 ∨ n = 4 ∨ n = 5 ∨ n = 6 := by omega
      by_cases hkk : nonM n zs < n - 1
      · generalize nonM n zs = K at *
        rcases hn6 with rfl | rfl | rfl | rfl | rfl | rfl
        all_goals
          go_wp2
          go_ret
          exact ⟨rfl, hA4⟩
      · have HK2 : Hid ((n = 2 ∨ n = 3 ∨ n = 5) → L.length = n) := fun h => HK.out h (by omega)
        generalize nonM n zs = K at *
        rcases hn6 with rfl | rfl | rfl | rfl | rfl | rfl
        all_goals
          try rw [HK2.out (by omega)]
          go_wp2
          go_ret
          exact ⟨rfl, hA4⟩
end Go.Proofs.Ytbpkffpejmlonaa
