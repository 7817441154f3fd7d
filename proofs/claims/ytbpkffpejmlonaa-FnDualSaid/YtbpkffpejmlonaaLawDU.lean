/- The walk of the law FnDual. Conditions: the code has at most 1048576 bytes, else the law answers at once. -/
import Derived.Test.YtbpkffpejmlonaaLE
import Derived.Test.YtbpkffpejmlonaaIU
namespace Go.Proofs.Ytbpkffpejmlonaa
open Go.RowKit

set_option maxHeartbeats 4000000 in
theorem FnDual_law (a : Option Addr) (len cap : Nat) (w : World) (hcap : len ≤ cap) (hb : BytesAt w w.heap.size a len) (hmax : len ≤ 9223372036854775807) :
    Calls Try.prog 6 #[.slice a len cap] w fun e w' => e = .returned (.bool true) ∧ Below w.heap.size w w' := by
  by_cases hl : len ≤ 1048576
  case neg =>
    go_enter Try.func6, Try.ntmps6
    go_wp2
    go_ret
    exact ⟨rfl, Below.refl _ _⟩
  go_enter Try.func6, Try.ntmps6
  go_wp2_with fail
  refine (DrawBinDual_any a len cap w hl hcap hb).mono ?_
  rintro e w1 ⟨ad, cp, zs, q, rfl, hz1, hz2, hI, hq1, hq2, hB⟩
  have s1 := hB.size
  go_wp2_with fail
  refine (BinDual_any ad cp zs q w1 (by omega) hI).mono ?_
  rintro e w2 ⟨r, ok, rfl, hF, hB2⟩
  have s2 := hB2.size
  have hA2 := hB.trans (hB2.mono s1)
  have hz2' := hI.below hB2
  go_wp2_with fail
  refine (sBinDual_any ad cp zs q w2 (by omega) hz2').mono ?_
  rintro e w3 ⟨r', ok', rfl, hF', hB3⟩
  obtain ⟨rfl, rfl⟩ := hF.unique hF'
  clear hF'
  have hz3 := hz2'.below hB3
  have hA3 := hA2.trans (hB3.mono (by omega))
  have s3 := hB3.size
  clear hz2' hA2
  rcases hF with ⟨rfl, hz, k, rfl, hM⟩ | ⟨rfl, _, rfl⟩
  case inr =>
    go_wp2
    go_ret
    exact ⟨rfl, hA3⟩
  obtain ⟨hz0, hl8, hs1, hs2⟩ := (dualOk_iff zs q).1 hz
  have hzl := (inL_iff zs).1 hz0
  have hlaw := dual_law hz0 hs1 hM
  have htb := tot_bd hzl.2
  have hF := BinDual_any ad cp zs 1 w3 (by omega) hz3
  have hfin : ∀ r ok, DualR zs 1 r ok → r = (zs.length : Int) ∧ ok = true := fun r ok h => by
    rcases h with ⟨rfl, _, k, rfl, h1⟩ | ⟨_, h1, _⟩
    · exact ⟨by rw [dual_ones hz0 h1], rfl⟩
    · have : dualOk zs 1 = true := (dualOk_iff zs 1).2 ⟨hz0, hl8, by omega, by omega⟩
      rw [this] at h1; cases h1
  have HFI := Lib.hid hfin
  have HT : Hid (∀ w', IntsAt w' ad zs → Calls Try.prog 35 #[.slice ad zs.length cp] w' fun e w'' => e = .returned (.int .i64 (tot zs)) ∧ w' = w'') := fun w' h => total_any ad cp zs w' (by omega) (fun x hx => by have := hzl.2 x hx; omega) h
  clear hfin hM hz hz0 hzl
  go_wp2_with fail
  refine hF.mono ?_
  rintro e w4 ⟨r2, ok2, rfl, hF2, hB4⟩
  obtain ⟨rfl, rfl⟩ := HFI.out _ _ hF2
  have hA4 := hA3.trans (hB4.mono (by omega))
  have hI4 := hz3.below hB4
  clear hF2 HFI hB4 hF
  obtain ⟨hl1, hl2, hl3⟩ := hlaw
  generalize tot zs = T at *
  have hk8 : (k : Int) ≤ 8 := by omega
  have hkq : 0 ≤ (k : Int) * q ∧ (k : Int) * q ≤ 600 := ⟨Int.mul_nonneg (by omega) (by omega), by omega⟩
  by_cases h0 : 0 < k
  · have hT : q ≤ T := hl3.1 h0
    clear hl3
    go_wp2_with (go_at_call 35; refine (HT.out _ hI4).mono ?_; rintro e w' ⟨rfl, rfl⟩)
    go_ret
    exact ⟨rfl, hA4⟩
  · have hT : ¬ q ≤ T := fun h => h0 (hl3.2 h)
    clear hl3
    go_wp2_with (go_at_call 35; refine (HT.out _ hI4).mono ?_; rintro e w' ⟨rfl, rfl⟩)
    go_ret
    exact ⟨ret_bool (by rw [decide_eq_false (show ¬ q ≤ T by omega)]; rfl), hA4⟩
end Go.Proofs.Ytbpkffpejmlonaa
