/- The walk of the law FnMissing. Conditions: the code has at most 1048576 bytes, else the law answers at once. -/
import Derived.Test.YtokfkhdngmpkgaaWM
import Derived.Test.YtokfkhdngmpkgaaWH
import Derived.Test.YtokfkhdngmpkgaaSF
import Derived.Test.YtokfkhdngmpkgaaLB
namespace Go.Proofs.Ytokfkhdngmpkgaa
open Go.RowKit

theorem first_no {zs : List Int} {v r : Int} {ok : Bool} (h : FirstIs (fun c => csum zs c == v) (2 ^ zs.length) r ok) (hn : ¬ SubS zs v) : ok = false := by
  rcases h with ⟨rfl, c, hc, _, hp, _⟩ | ⟨rfl, _⟩
  · simp only [beq_iff_eq] at hp
    have := subS_of zs c
    rw [hp] at this
    exact (hn this).elim
  · rfl
theorem first_yes {zs : List Int} {v r : Int} {ok : Bool} (h : FirstIs (fun c => csum zs c == v) (2 ^ zs.length) r ok) (hn : SubS zs v) : ok = true := by
  rcases h with ⟨rfl, _⟩ | ⟨_, _, hno⟩
  · rfl
  · obtain ⟨c, hc, hv⟩ := subS_is hn
    have := hno c hc
    simp [hv] at this
def FirstOk (w : World) (b : Bool) (e : Ending) (w' : World) : Prop := ∃ r : Int, e = .returned (.tuple #[.int .i64 r, .bool b]) ∧ Below w.heap.size w w'

set_option maxHeartbeats 4000000 in
theorem FnMissing_law (a : Option Addr) (len cap : Nat) (w : World) (hcap : len ≤ cap) (hb : BytesAt w w.heap.size a len) (hmax : len ≤ 9223372036854775807) :
    Calls Try.prog 3 #[.slice a len cap] w fun e w' => e = .returned (.bool true) ∧ Below w.heap.size w w' := by
  by_cases hl : len ≤ 1048576
  case neg =>
    go_enter Try.func3, Try.ntmps3
    go_wp2
    go_ret
    exact ⟨rfl, Below.refl _ _⟩
  go_enter Try.func3, Try.ntmps3
  go_wp2_with fail
  refine (DrawSumMissing_any a len cap w hl hcap hb).mono ?_
  rintro e w1 ⟨ad, cp, zs, rfl, hz1, hz2, hI, hB⟩
  have s1 := hB.size
  have hF := SumMissing_any ad cp zs w1 (by omega) hI
  have hS : ∀ w', IntsAt w' ad zs → Calls Try.prog 9 #[.slice ad zs.length cp] w' (NumPost w' (miR zs) (inL zs)) := fun w' h => sSumMissing_any ad cp zs w' (by omega) h
  have hW : ∀ w', IntsAt w' ad zs → Calls Try.prog 12 #[.slice ad zs.length cp] w' (BoolPost w' (whR zs)) := fun w' h => SumWhole_any ad cp zs w' (by omega) h
  obtain ⟨r, hr⟩ : ∃ r, inL zs = r := ⟨_, rfl⟩
  rw [hr] at hF
  rw [hr] at hS
  have HR := Lib.hid hr
  obtain ⟨R, hRR⟩ : ∃ R, miR zs = R := ⟨_, rfl⟩
  rw [hRR] at hF
  rw [hRR] at hS
  have HRR := Lib.hid hRR
  clear hr hRR
  go_wp2_with fail
  refine hF.mono ?_
  rintro e w2 ⟨rfl, hB2⟩
  have s2 := hB2.size
  have hA2 := hB.trans (hB2.mono s1)
  have hI2 := hI.below hB2
  clear hF
  go_wp2_with fail
  refine (hS w2 hI2).mono ?_
  rintro e w3 ⟨rfl, hB3⟩
  have hA3 := hA2.trans (hB3.mono (by have := hA2.size; omega))
  have hI3 := hI2.below hB3
  clear hS hB3
  cases r with
  | false =>
    clear HRR
    go_wp2
    go_ret
    exact ⟨rfl, hA3⟩
  | true =>
    have hz : inL zs = true := HR.out
    have hzl := (inL_iff zs).1 hz
    have htb := tot_bd hzl.2
    have hRe : R = (fz (sumC zs) : Nat) := by rw [← HRR.out, miR, if_pos hz]
    have hmi := fz_miss hzl.2
    rw [← hRe] at hmi
    have hmb := isMiss_bd hzl.2 hmi
    have hm1 := hmi.1
    have hwh : R = tot zs + 1 ↔ whR zs = true := (isMiss_whole hzl.2 hmi).trans (whR_all hz).symm
    have HF1 : Hid (∀ w', IntsAt w' ad zs → Calls Try.prog 10 #[.slice ad zs.length cp, .int .i64 R] w' (FirstOk w' false)) := fun w' h => (SumFirst_any ad cp zs R (by omega) hz w' h).mono (fun e w'' ⟨r, ok, h1, h2, h3⟩ => ⟨r, by rw [h1, first_no h2 hmi.2.2], h3⟩)
    have HF2 : Hid (∀ w', IntsAt w' ad zs → Calls Try.prog 10 #[.slice ad zs.length cp, .int .i64 (R - 1)] w' (FirstOk w' true)) := fun w' h => (SumFirst_any ad cp zs (R - 1) (by omega) hz w' h).mono (fun e w'' ⟨r, ok, h1, h2, h3⟩ => ⟨r, by rw [h1, first_yes h2 (hmi.2.1 (R - 1) (by omega) (by omega))], h3⟩)
    have HT : Hid (∀ w', IntsAt w' ad zs → Calls Try.prog 11 #[.slice ad zs.length cp] w' fun e w'' => e = .returned (.int .i64 (tot zs)) ∧ w' = w'') := fun w' h => total_any ad cp zs w' (by omega) (fun x hx => by have := hzl.2 x hx; omega) h
    have HW := Lib.hid hW
    have hzl1 := hzl.1
    clear hz hzl HR HRR hRe hmi hW
    generalize tot zs = T at *
    generalize whR zs = b at *
    go_wp2_with fail
    refine (HF1.out _ hI3).mono ?_
    rintro e w4 ⟨r1, rfl, hB4⟩
    have hA4 := hA3.trans (hB4.mono (by have := hA3.size; omega))
    have hI4 := hI3.below hB4
    clear hB4
    go_wp2_with fail
    refine (HF2.out _ hI4).mono ?_
    rintro e w5 ⟨r2, rfl, hB5⟩
    have hA5 := hA4.trans (hB5.mono (by have := hA4.size; omega))
    have hI5 := hI4.below hB5
    clear hB5
    go_wp2_with (first | (go_at_call 11; refine (HT.out _ hI5).mono ?_; rintro e w' ⟨rfl, rfl⟩) | fail)
    refine (HW.out _ hI5).mono ?_
    rintro e w6 ⟨rfl, hB6⟩
    have hA6 := hA5.trans (hB6.mono (by have := hA5.size; omega))
    have hbb : (R == T + 1) = b := by rw [Bool.eq_iff_iff, ← hwh]; simp
    clear hwh
    go_wp2
    go_ret
    exact ⟨ret_bool (by first | (rw [hbb]; simp) | simp [hbb]), hA6⟩
end Go.Proofs.Ytokfkhdngmpkgaa
