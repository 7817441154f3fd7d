/- The walk of the law FnHalfChoice. Conditions: the code has at most 1048576 bytes, else the law answers at once. -/
import Derived.Test.YtbpkffpejmlonaaIL
import Derived.Test.YtbpkffpejmlonaaLD
namespace Go.Proofs.Ytbpkffpejmlonaa
open Go.RowKit

set_option maxHeartbeats 4000000 in
theorem FnHalfChoice_law (a : Option Addr) (len cap : Nat) (w : World) (hcap : len ≤ cap) (hb : BytesAt w w.heap.size a len) (hmax : len ≤ 9223372036854775807) :
    Calls Try.prog 18 #[.slice a len cap] w fun e w' => e = .returned (.bool true) ∧ Below w.heap.size w w' := by
  by_cases hl : len ≤ 1048576
  case neg =>
    go_enter Try.func18, Try.ntmps18
    go_wp2
    go_ret
    exact ⟨rfl, Below.refl _ _⟩
  go_enter Try.func18, Try.ntmps18
  go_wp2_with fail
  refine (DrawHalfChoice_any a len cap w hl hcap hb).mono ?_
  rintro e w1 ⟨ad, cp, zs, rfl, hz1, hz2, hI, hB⟩
  have s1 := hB.size
  have hF := HalfChoice_any ad cp zs w1 (by omega) hI
  have hS : ∀ w', IntsAt w' ad zs → Calls Try.prog 74 #[.slice ad zs.length cp] w' (BestPostD w' (lcR zs) (inL zs)) := fun w' h => sHalfChoice_any ad cp zs w' (by omega) h
  obtain ⟨r, hr⟩ : ∃ r, inL zs = r := ⟨_, rfl⟩
  rw [hr] at hF
  rw [hr] at hS
  have HR := Lib.hid hr
  obtain ⟨R, hRR⟩ : ∃ R, lcR zs = R := ⟨_, rfl⟩
  rw [hRR] at hF
  rw [hRR] at hS
  have HRR := Lib.hid hRR
  clear hr hRR
  go_wp2_with fail
  refine hF.mono ?_
  rintro e w2 ⟨rfl, hB2⟩
  have s2 := hB2.size
  have hA2 := hB.trans (hB2.mono s1)
  have hI2 := hI.below hB2
  clear hF
  go_wp2_with fail
  refine (hS w2 hI2).mono ?_
  rintro e w3 ⟨rfl, n3, rfl⟩
  have hB3 := drewN_below w2 n3 w2.heap.size
  have hA3 := belowDr hA2 n3
  have hI3 := hI2.below hB3
  clear hS hB3
  cases r with
  | false =>
    clear HRR
    go_wp2
    go_ret
    exact ⟨rfl, hA3⟩
  | true =>
    have hz : inL zs = true := HR.out
    have hzl := (inL_iff zs).1 hz
    have htb := tot_bd hzl.2
    have hlb := lr_bd hzl.2
    have hrest := lc_rest hzl.2
    have hcb := csum_bd hzl.2 (lc zs)
    rw [restOf, sz] at hrest
    have hRe : R = (lc zs : Int) := by rw [← HRR.out, lcR, if_pos hz]
    have HT : Hid (∀ w', IntsAt w' ad zs → Calls Try.prog 35 #[.slice ad zs.length cp] w' fun e w'' => e = .returned (.int .i64 (tot zs)) ∧ w' = w'') := fun w' h => total_any ad cp zs w' (by omega) (fun x hx => by have := hzl.2 x hx; omega) h
    have HS : Hid (∀ w', IntsAt w' ad zs → Calls Try.prog 33 #[.slice ad zs.length cp, .int .i64 R] w' fun e w'' => e = .returned (.tuple #[.int .i64 (csum zs (lc zs)), .bool true]) ∧ w' = w'') := fun w' h => by
      have := SumOf_any ad cp zs R w' (by omega) h
      rw [hRe, sumOfR_yes hz (lc_lt zs)] at this
      rw [hRe]
      exact this
    have HB : Hid (∀ w', IntsAt w' ad zs → Calls Try.prog 68 #[.slice ad zs.length cp] w' (NumPost w' (lr zs) true)) := fun w' h => by
      have := HalfBest_any ad cp zs w' (by omega) h
      rw [lrR, if_pos hz, hz] at this
      exact this
    clear hz hzl HR HRR hRe
    generalize lr zs = M at *
    generalize tot zs = T at *
    generalize csum zs (lc zs) = S at *
    go_wp2_with (go_at_call 33; refine (HS.out _ hI3).mono ?_; rintro e w' ⟨rfl, rfl⟩)
    refine (HB.out _ hI3).mono ?_
    rintro e w4 ⟨rfl, hB4⟩
    have hA4 := hA3.trans (hB4.mono (by have := hA3.size; omega))
    have hI4 := hI3.below hB4
    clear HS HB
    have HM := Lib.hid hrest
    go_wp2_with (go_at_call 35; refine (HT.out _ hI4).mono ?_; rintro e w' ⟨rfl, rfl⟩)
    all_goals
      go_ret
      exact ⟨ret_bool (by have := HM.out; simp; omega), hA4⟩
end Go.Proofs.Ytbpkffpejmlonaa
