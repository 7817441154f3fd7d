/- The walk of the law FnHalf. Conditions: the code has at most 1048576 bytes, else the law answers at once. -/
import Derived.Test.YtbpkffpejmlonaaIM
import Derived.Test.YtbpkffpejmlonaaM18
import Derived.Test.YtbpkffpejmlonaaIK
import Derived.Test.YtbpkffpejmlonaaLD
namespace Go.Proofs.Ytbpkffpejmlonaa
open Go.RowKit

theorem lr_zero {zs : List Int} (hz : inL zs = true) : lr zs = 0 ↔ 0 < halfC zs := by
  have hzl := (inL_iff zs).1 hz
  rw [halfC, if_pos hz]
  constructor
  · intro h
    obtain ⟨⟨c, hc, e⟩, _⟩ := lr_least hzl.2
    rw [h, restOf, sz] at e
    have := cntN_pos (p := halfP zs) c hc (by simp only [halfP, beq_iff_eq]; omega)
    omega
  · intro h
    obtain ⟨c, hc, hp⟩ := cntN_some (p := halfP zs) (m := 2 ^ zs.length) (by omega)
    simp only [halfP, beq_iff_eq] at hp
    have h1 := (lr_least hzl.2).2 c hc
    have h2 := lr_bd hzl.2
    rw [restOf, sz] at h1
    omega

set_option maxHeartbeats 4000000 in
theorem FnHalf_law (a : Option Addr) (len cap : Nat) (w : World) (hcap : len ≤ cap) (hb : BytesAt w w.heap.size a len) (hmax : len ≤ 9223372036854775807) :
    Calls Try.prog 20 #[.slice a len cap] w fun e w' => e = .returned (.bool true) ∧ Below w.heap.size w w' := by
  by_cases hl : len ≤ 1048576
  case neg =>
    go_enter Try.func20, Try.ntmps20
    go_wp2
    go_ret
    exact ⟨rfl, Below.refl _ _⟩
  go_enter Try.func20, Try.ntmps20
  go_wp2_with fail
  refine (DrawHalfBest_any a len cap w hl hcap hb).mono ?_
  rintro e w1 ⟨ad, cp, zs, rfl, hz1, hz2, hI, hB⟩
  have s1 := hB.size
  have hF := HalfBest_any ad cp zs w1 (by omega) hI
  have hS : ∀ w', IntsAt w' ad zs → Calls Try.prog 79 #[.slice ad zs.length cp] w' (BestPostD w' (lrR zs) (inL zs)) := fun w' h => sHalfBest_any ad cp zs w' (by omega) h
  have hC : ∀ w', IntsAt w' ad zs → Calls Try.prog 59 #[.slice ad zs.length cp] w' (NumPost w' (halfC zs) (inL zs)) := fun w' h => HalfCount_any ad cp zs w' (by omega) h
  obtain ⟨r, hr⟩ : ∃ r, inL zs = r := ⟨_, rfl⟩
  rw [hr] at hF
  rw [hr] at hS
  rw [hr] at hC
  have HR := Lib.hid hr
  obtain ⟨R, hRR⟩ : ∃ R, lrR zs = R := ⟨_, rfl⟩
  rw [hRR] at hF
  rw [hRR] at hS
  have HRR := Lib.hid hRR
  clear hr hRR
  go_wp2_with fail
  refine hF.mono ?_
  rintro e w2 ⟨rfl, hB2⟩
  have s2 := hB2.size
  have hA2 := hB.trans (hB2.mono s1)
  have hI2 := hI.below hB2
  clear hF
  go_wp2_with fail
  refine (hS w2 hI2).mono ?_
  rintro e w3 ⟨rfl, n3, rfl⟩
  have hB3 := drewN_below w2 n3 w2.heap.size
  have hA3 := belowDr hA2 n3
  have hI3 := hI2.below hB3
  clear hS hB3
  cases r with
  | false =>
    clear HRR
    go_wp2
    go_ret
    exact ⟨rfl, hA3⟩
  | true =>
    have hz : inL zs = true := HR.out
    have hzl := (inL_iff zs).1 hz
    have htb := tot_bd hzl.2
    have hlb := lr_bd hzl.2
    have hzero := lr_zero hz
    have hpar := lr_par hzl.2
    have hgr := lr_le_gre hzl.2
    have hgg := gre_le_tot hzl.2
    have hRe : R = lr zs := by rw [← HRR.out, lrR, if_pos hz]
    rw [← hRe] at hlb hzero hpar hgr
    have HT : Hid (∀ w', IntsAt w' ad zs → Calls Try.prog 35 #[.slice ad zs.length cp] w' fun e w'' => e = .returned (.int .i64 (tot zs)) ∧ w' = w'') := fun w' h => total_any ad cp zs w' (by omega) (fun x hx => by have := hzl.2 x hx; omega) h
    have HG : Hid (∀ w', IntsAt w' ad zs → Calls Try.prog 69 #[.slice ad zs.length cp] w' fun e w'' => e = .returned (.int .i64 (gre zs)) ∧ w' = w'') := fun w' h => greatest_any ad cp zs w' (by omega) h
    have hHb := halfC_bd hzl.1
    have hzl1 := hzl.1
    clear hz hzl HR HRR hRe
    generalize halfC zs = H at *
    generalize tot zs = T at *
    generalize gre zs = G at *
    go_wp2_with fail
    refine (hC _ hI3).mono ?_
    rintro e w4 ⟨rfl, hB4⟩
    have hA4 := hA3.trans (hB4.mono (by have := hA3.size; omega))
    have hI4 := hI3.below hB4
    clear hC
    by_cases h0 : R = 0
    · have hH : 0 < H := hzero.1 h0
      subst h0
      clear hzero
      go_wp2_with (first | (go_at_call 35; refine (HT.out _ hI4).mono ?_; rintro e w' ⟨rfl, rfl⟩) | (go_at_call 69; refine (HG.out _ hI4).mono ?_; rintro e w' ⟨rfl, rfl⟩))
      go_ret
      exact ⟨rfl, hA4⟩
    · have hH : ¬ 0 < H := fun h => h0 (hzero.2 h)
      clear hzero
      go_wp2_with (first | (go_at_call 35; refine (HT.out _ hI4).mono ?_; rintro e w' ⟨rfl, rfl⟩) | (go_at_call 69; refine (HG.out _ hI4).mono ?_; rintro e w' ⟨rfl, rfl⟩))
      go_ret
      exact ⟨ret_bool (by rw [show (R == 0) = false by simpa using h0, decide_eq_false (show ¬ 0 < H by omega)]; rfl), hA4⟩
end Go.Proofs.Ytbpkffpejmlonaa
