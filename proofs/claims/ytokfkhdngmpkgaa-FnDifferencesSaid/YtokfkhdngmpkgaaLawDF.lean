/- The walk of the law FnDifferences. Conditions: the code has at most 1048576 bytes, else the law answers at once. -/
import Derived.Test.YtokfkhdngmpkgaaWF
import Derived.Test.YtokfkhdngmpkgaaIA
import Derived.Test.YtokfkhdngmpkgaaIM
import Derived.Test.YtokfkhdngmpkgaaLB
namespace Go.Proofs.Ytokfkhdngmpkgaa
open Go.RowKit

set_option maxHeartbeats 4000000 in
theorem FnDifferences_law (a : Option Addr) (len cap : Nat) (w : World) (hcap : len ≤ cap) (hb : BytesAt w w.heap.size a len) (hmax : len ≤ 9223372036854775807) :
    Calls Try.prog 6 #[.slice a len cap] w fun e w' => e = .returned (.bool true) ∧ Below w.heap.size w w' := by
  by_cases hl : len ≤ 1048576
  case neg =>
    go_enter Try.func6, Try.ntmps6
    go_wp2
    go_ret
    exact ⟨rfl, Below.refl _ _⟩
  go_enter Try.func6, Try.ntmps6
  go_wp2_with fail
  refine (DrawHalfDifferences_any a len cap w hl hcap hb).mono ?_
  rintro e w1 ⟨ad, cp, zs, rfl, hz1, hz2, hI, hB⟩
  have s1 := hB.size
  have hF := HalfDifferences_any ad cp zs w1 (by omega) hI
  have hS : ∀ w', IntsAt w' ad zs → Calls Try.prog 24 #[.slice ad zs.length cp] w' (NumPost w' (dR zs) (inL zs)) := fun w' h => sHalfDifferences_any ad cp zs w' (by omega) h
  have hC : ∀ w', IntsAt w' ad zs → Calls Try.prog 20 #[.slice ad zs.length cp] w' (NumPost w' (lrR zs) (inL zs)) := fun w' h => HalfBest_any ad cp zs w' (by omega) h
  obtain ⟨r, hr⟩ : ∃ r, inL zs = r := ⟨_, rfl⟩
  rw [hr] at hF
  rw [hr] at hS
  rw [hr] at hC
  have HR := Lib.hid hr
  obtain ⟨R, hRR⟩ : ∃ R, dR zs = R := ⟨_, rfl⟩
  rw [hRR] at hF
  rw [hRR] at hS
  have HRR := Lib.hid hRR
  clear hr hRR
  go_wp2_with fail
  refine hF.mono ?_
  rintro e w2 ⟨rfl, hB2⟩
  have s2 := hB2.size
  have hA2 := hB.trans (hB2.mono s1)
  have hI2 := hI.below hB2
  clear hF
  go_wp2_with fail
  refine (hS w2 hI2).mono ?_
  rintro e w3 ⟨rfl, hB3⟩
  have hA3 := hA2.trans (hB3.mono (by have := hA2.size; omega))
  have hI3 := hI2.below hB3
  clear hS hB3
  cases r with
  | false =>
    clear HRR
    go_wp2
    go_ret
    exact ⟨rfl, hA3⟩
  | true =>
    have hz : inL zs = true := HR.out
    have hzl := (inL_iff zs).1 hz
    have htb := tot_bd hzl.2
    have hlb := lr_bd hzl.2
    have hlw := dfR_law hzl.2
    have hgg := gre_le_tot hzl.2
    have hRe : R = dfR zs := by rw [← HRR.out]; unfold dR; rw [if_pos hz]
    have hLe : lrR zs = lr zs := by rw [lrR, if_pos hz]
    rw [← hRe] at hlw
    rw [hLe] at hC
    have HT : Hid (∀ w', IntsAt w' ad zs → Calls Try.prog 11 #[.slice ad zs.length cp] w' fun e w'' => e = .returned (.int .i64 (tot zs)) ∧ w' = w'') := fun w' h => total_any ad cp zs w' (by omega) (fun x hx => by have := hzl.2 x hx; omega) h
    have HG : Hid (∀ w', IntsAt w' ad zs → Calls Try.prog 21 #[.slice ad zs.length cp] w' fun e w'' => e = .returned (.int .i64 (gre zs)) ∧ w' = w'') := fun w' h => greatest_any ad cp zs w' (by omega) h
    have hzl1 := hzl.1
    clear hz hzl HR HRR hRe hLe
    generalize lr zs = M at *
    generalize tot zs = T at *
    generalize gre zs = G at *
    go_wp2_with fail
    refine (hC _ hI3).mono ?_
    rintro e w4 ⟨rfl, hB4⟩
    have hA4 := hA3.trans (hB4.mono (by have := hA3.size; omega))
    have hI4 := hI3.below hB4
    clear hC
    obtain ⟨hl1, hl2, hl3, hl4, hl5⟩ := hlw
    go_wp2_with (first | (go_at_call 11; refine (HT.out _ hI4).mono ?_; rintro e w' ⟨rfl, rfl⟩) | (go_at_call 21; refine (HG.out _ hI4).mono ?_; rintro e w' ⟨rfl, rfl⟩))
    all_goals
      go_ret
      first | exact ⟨rfl, hA4⟩ | exact ⟨ret_bool (by simp; omega), hA4⟩
end Go.Proofs.Ytokfkhdngmpkgaa
