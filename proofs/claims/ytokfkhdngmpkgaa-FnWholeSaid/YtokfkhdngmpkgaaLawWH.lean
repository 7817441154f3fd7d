/- The walk of the law FnWhole. Conditions: the code has at most 1048576 bytes, else the law answers at once. -/
import Derived.Test.YtokfkhdngmpkgaaWH
import Derived.Test.YtokfkhdngmpkgaaWI
import Derived.Test.YtokfkhdngmpkgaaLB
namespace Go.Proofs.Ytokfkhdngmpkgaa
open Go.RowKit

set_option maxHeartbeats 4000000 in
theorem FnWhole_law (a : Option Addr) (len cap : Nat) (w : World) (hcap : len ≤ cap) (hb : BytesAt w w.heap.size a len) (hmax : len ≤ 9223372036854775807) :
    Calls Try.prog 4 #[.slice a len cap] w fun e w' => e = .returned (.bool true) ∧ Below w.heap.size w w' := by
  by_cases hl : len ≤ 1048576
  case neg =>
    go_enter Try.func4, Try.ntmps4
    go_wp2
    go_ret
    exact ⟨rfl, Below.refl _ _⟩
  go_enter Try.func4, Try.ntmps4
  go_wp2_with fail
  refine (DrawSumWhole_any a len cap w hl hcap hb).mono ?_
  rintro e w1 ⟨ad, cp, zs, rfl, hz1, hz2, hI, hB⟩
  have s1 := hB.size
  have hF := SumWhole_any ad cp zs w1 (by omega) hI
  have hS : ∀ w', IntsAt w' ad zs → Calls Try.prog 14 #[.slice ad zs.length cp] w' (BoolPost w' (whR zs)) := fun w' h => sSumWhole_any ad cp zs w' (by omega) h
  obtain ⟨r, hr⟩ : ∃ r, whR zs = r := ⟨_, rfl⟩
  rw [hr] at hF
  rw [hr] at hS
  have HR := Lib.hid hr
  clear hr
  go_wp2_with fail
  refine hF.mono ?_
  rintro e w2 ⟨rfl, hB2⟩
  have s2 := hB2.size
  have hA2 := hB.trans (hB2.mono s1)
  have hI2 := hI.below hB2
  clear hF
  go_wp2_with fail
  refine (hS w2 hI2).mono ?_
  rintro e w3 ⟨rfl, hB3⟩
  have hA3 := hA2.trans (hB3.mono (by have := hA2.size; omega))
  have hI3 := hI2.below hB3
  clear hS hB3
  cases r with
  | false =>
    go_wp2
    go_ret
    exact ⟨rfl, hA3⟩
  | true =>
    have hz : inL zs = true := by
      have := HR.out
      rw [whR, Bool.and_eq_true] at this
      exact this.1
    have hzl := (inL_iff zs).1 hz
    have htb := tot_bd hzl.2
    have hall := (whR_all hz).1 HR.out
    have hre : sumRR zs = (List.range ((tot zs).toNat + 1)).map (fun i : Nat => (i : Int)) := by unfold sumRR; rw [if_pos hz]; exact whole_reach hz hall
    have hrl : (sumRR zs).length = (tot zs).toNat + 1 := by rw [hre]; simp
    have hgl : gapR zs ≤ 1 := by
      rw [gapR, hre]
      exact gp_range _ _ (by simp)
    have hG : ∀ w', IntsAt w' ad zs → Calls Try.prog 15 #[.slice ad zs.length cp] w' (NumPost w' (gapR zs) true) := fun w' h => by
      have := SumGap_any ad cp zs w' (by omega) h
      rwa [if_pos hz, hz] at this
    have hC : ∀ w', IntsAt w' ad zs → Calls Try.prog 16 #[.slice ad zs.length cp] w' (ListR w' true (sumRR zs)) := fun w' h => by
      have := SumReach_any ad cp zs w' (by omega) h
      rwa [hz] at this
    have HT : Hid (∀ w', IntsAt w' ad zs → Calls Try.prog 11 #[.slice ad zs.length cp] w' fun e w'' => e = .returned (.int .i64 (tot zs)) ∧ w' = w'') := fun w' h => total_any ad cp zs w' (by omega) (fun x hx => by have := hzl.2 x hx; omega) h
    have HG := Lib.hid hG
    have HC := Lib.hid hC
    have hzl1 := hzl.1
    clear hz hzl HR hall hre hG hC
    generalize tot zs = T at *
    generalize gapR zs = G at *
    generalize sumRR zs = L at *
    go_wp2_with fail
    refine (HG.out _ hI3).mono ?_
    rintro e w4 ⟨rfl, hB4⟩
    have hA4 := hA3.trans (hB4.mono (by have := hA3.size; omega))
    have hI4 := hI3.below hB4
    clear hB4
    go_wp2_with fail
    refine (HC.out _ hI4).mono ?_
    rintro e w5 ⟨v5, rfl, hO5, hB5⟩
    have hA5 := hA4.trans (hB5.mono (by have := hA4.size; omega))
    have hI5 := hI4.below hB5
    obtain ⟨a5, c5, rfl, _, _⟩ := hO5.shape
    have hlt : (L.length : Int) = T + 1 := by omega
    clear hB5 hO5 hrl
    go_wp2_with (first | (go_at_call 11; refine (HT.out _ hI5).mono ?_; rintro e w' ⟨rfl, rfl⟩) | fail)
    go_ret
    exact ⟨ret_bool (by simp [hlt]), hA5⟩
end Go.Proofs.Ytokfkhdngmpkgaa
