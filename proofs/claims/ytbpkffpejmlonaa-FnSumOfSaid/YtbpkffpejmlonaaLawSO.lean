/- The walk of the law FnSumOf. Conditions: the code has at most 1048576 bytes, else the law answers at once. -/
import Derived.Test.YtbpkffpejmlonaaW11
import Derived.Test.YtbpkffpejmlonaaSF
namespace Go.Proofs.Ytbpkffpejmlonaa
open Go.RowKit

set_option maxHeartbeats 4000000 in
theorem FnSumOf_law (a : Option Addr) (len cap : Nat) (w : World) (hcap : len ≤ cap) (hb : BytesAt w w.heap.size a len) (hmax : len ≤ 9223372036854775807) :
    Calls Try.prog 7 #[.slice a len cap] w fun e w' => e = .returned (.bool true) ∧ Below w.heap.size w w' := by
  by_cases hl : len ≤ 1048576
  case neg =>
    go_enter Try.func7, Try.ntmps7
    go_wp2
    go_ret
    exact ⟨rfl, Below.refl _ _⟩
  go_enter Try.func7, Try.ntmps7
  go_wp2_with fail
  refine (DrawSumOf_any a len cap w hl hcap hb).mono ?_
  rintro e w1 ⟨ad, cp, zs, q, rfl, hz1, hz2, hI, hq1, hq2, hB⟩
  have s1 := hB.size
  by_cases hz : inL zs = true ∧ 0 ≤ q ∧ q < 2 ^ zs.length
  case neg =>
    have HN := Lib.hid (sumOfR_no hz)
    clear hz
    go_wp2_with fail
    refine (SumOf_any ad cp zs q w1 (by omega) hI).mono ?_
    rw [HN.out]
    rintro e w' ⟨rfl, rfl⟩
    go_wp2_with fail
    refine (sSumOf_any ad cp zs q w1 (by omega) hI).mono ?_
    rw [HN.out]
    rintro e w' ⟨rfl, n, rfl⟩
    have hA := belowDr hB n
    go_wp2
    go_ret
    exact ⟨rfl, hA⟩
  obtain ⟨hzi, hin⟩ := hz
  have hzl := (inL_iff zs).1 hzi
  have hpw := pow_bd10 zs.length (by omega)
  obtain ⟨c, rfl⟩ : ∃ c : Nat, q = c := ⟨q.toNat, by omega⟩
  have hc : c < 2 ^ zs.length := by exact_mod_cast hin.2
  have HY := Lib.hid (sumOfR_yes hzi hc)
  have HY2 : Hid (sumOfR zs (2 ^ zs.length - 1 - c) = (tot zs - csum zs c, true)) := by
    have e : (2 : Int) ^ zs.length - 1 - c = ((2 ^ zs.length - 1 - c : Nat) : Int) := by
      have h3 : ((2 ^ zs.length : Nat) : Int) = 2 ^ zs.length := by simp
      omega
    show sumOfR zs (2 ^ zs.length - 1 - c) = _
    rw [e, sumOfR_yes hzi (by omega)]
    have := csum_compl zs c hc
    rw [show csum zs (2 ^ zs.length - 1 - c) = tot zs - csum zs c by omega]
  have hcb := csum_bd hzl.2 c
  have htb := tot_bd hzl.2
  have HZ := Lib.hid hzi
  have HC := Lib.hid hc
  have HT : Hid (∀ w', IntsAt w' ad zs → Calls Try.prog 35 #[.slice ad zs.length cp] w' fun e w'' => e = .returned (.int .i64 (tot zs)) ∧ w' = w'') :=
    fun w' h => total_any ad cp zs w' (by omega) (fun x hx => by have := hzl.2 x hx; omega) h
  have HSF : Hid (∀ w', IntsAt w' ad zs → Calls Try.prog 34 #[.slice ad zs.length cp, .int .i64 (csum zs c)] w' (FoundPost w' (fun d => csum zs d == csum zs c) (2 ^ zs.length))) :=
    fun w' h => SumFirst_any ad cp zs _ (by omega) hzi w' h
  have HCC : Hid (∀ d, (csum zs d == csum zs c) = false → d ≠ c) := fun d h e => by rw [e] at h; simp at h
  clear hzi hc hin
  go_wp2_with fail
  refine (SumOf_any ad cp zs _ w1 (by omega) hI).mono ?_
  rw [HY.out]
  rintro e w' ⟨rfl, rfl⟩
  go_wp2_with fail
  refine (sSumOf_any ad cp zs _ w1 (by omega) hI).mono ?_
  rw [HY.out]
  rintro e w2 ⟨rfl, n, rfl⟩
  have hA := belowDr hB n
  have hI2 := hI.dr n
  have s2 : w1.heap.size = (w1.drewN n).heap.size := rfl
  clear hI
  generalize w1.drewN n = w2 at *
  go_wp2_with fail
  refine (SumOf_any ad cp zs _ w2 (by omega) hI2).mono ?_
  rw [HY2.out]
  rintro e w' ⟨rfl, rfl⟩
  go_wp2_with fail
  refine (HSF.out w2 hI2).mono ?_
  rintro e w3 ⟨r, ok, rfl, hF, hB3⟩
  obtain ⟨rfl, d, rfl, hdc⟩ : ok = true ∧ ∃ d : Nat, r = d ∧ d ≤ c := by
    rcases hF with ⟨rfl, d, rfl, _, _, h3⟩ | ⟨rfl, rfl, h3⟩
    · refine ⟨rfl, d, rfl, ?_⟩
      by_cases hlt : c < d
      · exact absurd rfl (HCC.out c (h3 c hlt))
      · omega
    · exact absurd rfl (HCC.out c (h3 c HC.out))
  have hA3 := hA.trans (hB3.mono (by omega))
  have hI3 := hI2.below hB3
  clear hF
  generalize csum zs c = s at *
  generalize tot zs = T at *
  go_wp2_with (go_at_call 35; refine (HT.out _ hI3).mono ?_; rintro e w' ⟨rfl, rfl⟩)
  go_ret
  exact ⟨rfl, hA3⟩
end Go.Proofs.Ytbpkffpejmlonaa
