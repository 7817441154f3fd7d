/- The walk of the law FnApart. Conditions: the code has at most 1048576 bytes, else the law answers at once. -/
import Derived.Test.YtbpkffpejmlonaaM15
import Derived.Test.YtbpkffpejmlonaaDG
namespace Go.Proofs.Ytbpkffpejmlonaa
open Go.RowKit

set_option maxHeartbeats 4000000 in
theorem FnApart_law (a : Option Addr) (len cap : Nat) (w : World) (hcap : len ≤ cap) (hb : BytesAt w w.heap.size a len) (hmax : len ≤ 9223372036854775807) :
    Calls Try.prog 22 #[.slice a len cap] w fun e w' => e = .returned (.bool true) ∧ Below w.heap.size w w' := by
  by_cases hl : len ≤ 1048576
  case neg =>
    go_enter Try.func22, Try.ntmps22
    go_wp2
    go_ret
    exact ⟨rfl, Below.refl _ _⟩
  go_enter Try.func22, Try.ntmps22
  go_wp2_with fail
  refine (DrawSumApart_any a len cap w hl hcap hb).mono ?_
  rintro e w1 ⟨ad, cp, zs, rfl, hz1, hz2, hI, hB⟩
  have s1 := hB.size
  have hA := apart_len (zs := zs)
  have hF := SumApart_any ad cp zs w1 (by omega) hI
  have hS : ∀ w', IntsAt w' ad zs → Calls Try.prog 85 #[.slice ad zs.length cp] w' (ApartPost w' zs) := fun w' h => sSumApart_any ad cp zs w' (by omega) h
  unfold ApartPost at hF hS
  generalize apartB zs = r at hA hF hS
  have HA := Lib.hid hA
  clear hA
  go_wp2_with fail
  refine hF.mono ?_
  rintro e w2 ⟨rfl, hB2⟩
  have s2 := hB2.size
  have hA2 := hB.trans (hB2.mono s1)
  have hI2 := hI.below hB2
  clear hF
  go_wp2_with fail
  refine (hS w2 hI2).mono ?_
  rintro e w3 ⟨rfl, hB3⟩
  have s3 := hB3.size
  have hA3 := hA2.trans (hB3.mono (by omega))
  have hI3 := hI2.below hB3
  clear hS
  cases r with
  | false =>
    go_wp2
    go_ret
    exact ⟨rfl, hA3⟩
  | true =>
    obtain ⟨hz, hlen, hle⟩ := HA.out rfl
    have hzl := (inL_iff zs).1 hz
    have htb := tot_bd hzl.2
    have hpw := pow_bd10 zs.length (by omega)
    have hR : ∀ w', IntsAt w' ad zs → Calls Try.prog 76 #[.slice ad zs.length cp] w' (ListR w' true (sumRR zs)) := fun w' h => by have := SumReach_any ad cp zs w' (by omega) h; rw [hz] at this; exact this
    have HL := Lib.hid hlen
    have HG := Lib.hid hzl.2
    have hzl1 := hzl.1
    clear hz hlen HA hzl
    generalize sumRR zs = L at hR HL
    go_wp2_with fail
    refine (hR w3 hI3).mono ?_
    rintro e w4 ⟨v4, rfl, hO4, hB4⟩
    obtain ⟨a4, c4, rfl, _, _⟩ := hO4.shape
    have hA4 := hA3.trans (hB4.mono (by omega))
    have hI4 := hI3.below hB4
    clear hR hO4 hB4
    have htz : ∀ n, Calls Try.prog 35 #[.slice ad zs.length cp] (w4.drewN n) fun e w'' => e = .returned (.int .i64 (tot zs)) ∧ w'' = w4.drewN n := fun n =>
      (total_any ad cp zs (w4.drewN n) (by omega) (fun x hx => by have := HG.out x hx; omega) (hI4.dr n)).mono (fun e w'' h => ⟨h.1, h.2.symm⟩)
    generalize tot zs = T at *
    obtain ⟨M, hM⟩ : ∃ M : Nat, M = L.length := ⟨_, rfl⟩
    rw [← hM]
    have hMp : (M : Int) = 2 ^ zs.length := by rw [hM]; exact HL.out
    clear hM HL
    have hdd : ((M : Int) == 2 ^ zs.length) = true := by simpa using hMp
    clear hMp
    go_wp2_with fail
    go_quiet (first | (go_at_call 35; refine Calls.quiet_of_same (htz _)))
    go_wp2
    go_ret
    exact ⟨ret_bool (by rw [decide_eq_true_eq]; omega), belowDr hA4 nq⟩
end Go.Proofs.Ytbpkffpejmlonaa
