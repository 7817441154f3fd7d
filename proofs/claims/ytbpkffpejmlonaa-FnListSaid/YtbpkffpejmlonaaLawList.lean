/- The walk of the law FnList, and its plain law. Conditions: the code has at most 1048576 bytes, else the law answers at once. -/
import Derived.Test.YtbpkffpejmlonaaLD
import Derived.Test.YtbpkffpejmlonaaW2
import Derived.Test.YtbpkffpejmlonaaSF
namespace Go.Proofs.Ytbpkffpejmlonaa
open Go.RowKit

theorem csum_all (zs : List Int) : csum zs (2 ^ zs.length - 1) = tot zs := by
  induction zs with
  | nil => rfl
  | cons x xs ih =>
    have h : 0 < 2 ^ xs.length := Nat.two_pow_pos _
    rw [csum_cons, tot, List.length_cons, Nat.pow_succ, if_pos (by omega), show (2 ^ xs.length * 2 - 1) / 2 = 2 ^ xs.length - 1 by omega, ih]
theorem firstIs_not {zs : List Int} (hg : good zs) {r : Int} {ok : Bool} (h : FirstIs (fun c => csum zs c == tot zs + 1) (2 ^ zs.length) r ok) : ok = false := by
  rcases h with ⟨rfl, c, _, _, h3, _⟩ | ⟨rfl, _⟩
  · have h4 := (csum_bd hg c).2
    have h5 : csum zs c = tot zs + 1 := by simpa using h3
    omega
  · rfl

set_option maxHeartbeats 1600000 in
theorem FnList_law (a : Option Addr) (len cap : Nat) (w : World) (hcap : len ≤ cap) (hb : BytesAt w w.heap.size a len) (hmax : len ≤ 9223372036854775807) :
    Calls Try.prog 3 #[.slice a len cap] w fun e w' => e = .returned (.bool true) ∧ Below w.heap.size w w' := by
  by_cases hl : len ≤ 1048576
  case neg =>
    go_enter Try.func3, Try.ntmps3
    go_wp2
    go_ret
    exact ⟨rfl, Below.refl _ _⟩
  go_enter Try.func3, Try.ntmps3
  go_wp2_with fail
  refine (DrawSumIn_any a len cap w hl hcap hb).mono ?_
  rintro e w1 ⟨ad, cp, zs, rfl, hz1, hz2, hI, hB⟩
  by_cases hz : inL zs = true
  case neg =>
    have hz' : inL zs = false := by simpa using hz
    have HZ := Lib.hid hz'
    clear hz hz'
    go_wp2_with (first | (go_at_call 31; refine (SumIn_any ad cp zs w1 (by omega) hI).mono ?_; rw [HZ.out]; rintro e w' ⟨rfl, rfl⟩) | (go_at_call 32; refine (sSumIn_any ad cp zs w1 (by omega) hI).mono ?_; rw [HZ.out]; rintro e w' ⟨rfl, rfl⟩))
    go_ret
    exact ⟨rfl, hB⟩
  have hz' := (inL_iff zs).1 hz
  have hp := pow_bd zs.length (by omega)
  have hall : sumOfR zs (2 ^ zs.length - 1) = (tot zs, true) := by
    have h0 : 0 < 2 ^ zs.length := Nat.two_pow_pos _
    have e : (2 : Int) ^ zs.length - 1 = ((2 ^ zs.length - 1 : Nat) : Int) := by rw [Int.ofNat_sub h0]; simp
    rw [e, sumOfR_yes hz (by omega), csum_all]
  have HA := Lib.hid hall
  have HZ := Lib.hid hz
  have ht := tot_bd hz'.2
  clear hz hall
  go_wp2_with (first | (go_at_call 31; refine (SumIn_any ad cp zs w1 (by omega) hI).mono ?_; rw [HZ.out]; rintro e w' ⟨rfl, rfl⟩) | (go_at_call 32; refine (sSumIn_any ad cp zs w1 (by omega) hI).mono ?_; rw [HZ.out]; rintro e w' ⟨rfl, rfl⟩) | (go_at_call 33; refine (SumOf_any ad cp zs _ w1 (by omega) hI).mono ?_; rw [HA.out]; rintro e w' ⟨rfl, rfl⟩) | fail)
  refine (SumFirst_any ad cp zs _ (by omega) HZ.out w1 hI).mono ?_
  rintro e w2 ⟨r, ok, rfl, hF, hB2⟩
  obtain rfl := firstIs_not hz'.2 hF
  have hI2 := hI.below hB2
  have hB3 := hB.trans (hB2.mono hB.size)
  clear hF
  go_wp2_with (go_at_call 35; refine (total_any ad cp zs w2 (by omega) (fun x hx => by have := hz'.2 x hx; omega) hI2).mono ?_; rintro e w' ⟨rfl, rfl⟩)
  go_ret
  exact ⟨rfl, hB3⟩
end Go.Proofs.Ytbpkffpejmlonaa
