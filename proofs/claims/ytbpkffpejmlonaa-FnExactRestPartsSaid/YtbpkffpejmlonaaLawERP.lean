/- The walk of the law FnExactRestParts. Conditions: none. -/
import Derived.Test.YtbpkffpejmlonaaIR
import Derived.Test.YtbpkffpejmlonaaWP
import Derived.Test.YtbpkffpejmlonaaW2
namespace Go.Proofs.Ytbpkffpejmlonaa
open Go.RowKit

set_option maxHeartbeats 1600000 in
theorem FnExactRestParts_law (a : Option Addr) (len cap : Nat) (q : Int) (w : World) (hx : ∃ ys : List Int, ys.length = len ∧ IntsAt w a ys) (hmax : len ≤ 9223372036854775807) (_hq : -9223372036854775808 ≤ q ∧ q ≤ 9223372036854775807) :
    Calls Try.prog 8 #[.slice a len cap, .int .i64 q] w fun e w' => e = .returned (.bool true) ∧ Below w.heap.size w w' := by
  obtain ⟨ys, rfl, hI⟩ := hx
  by_cases hl : ys.length ≤ 1048576
  case neg =>
    go_enter Try.func8, Try.ntmps8
    go_wp2
    go_ret
    exact ⟨rfl, Below.refl _ _⟩
  go_enter Try.func8, Try.ntmps8
  go_wp2_with fail
  refine (toIntS_any a cap ys w (by omega) hI).mono ?_
  rintro e w1 ⟨v1, rfl, hO1, hB1⟩
  obtain ⟨a1, c1, rfl, hI1, _⟩ := hO1.shape
  go_wp2_with fail
  refine (sRestParts_any a1 c1 ys q w1 (by omega) hI1).mono ?_
  rintro e w2 ⟨r, ok, rfl, hF, hB2⟩
  have hI2 : IntsAt w2 a ys := (hI.below hB1).below hB2
  go_wp2_with fail
  refine (toIntS_any a cap ys w2 (by omega) hI2).mono ?_
  rintro e w3 ⟨v3, rfl, hO3, hB3⟩
  obtain ⟨a3, c3, rfl, hI3, _⟩ := hO3.shape
  go_wp2_with fail
  refine (RestParts_any a3 c3 ys q w3 (by omega) hI3).mono ?_
  rintro e w4 ⟨r', ok', rfl, hF', hB4⟩
  obtain ⟨rfl, rfl⟩ := hF.unique hF'
  clear hF hF'
  have hIa4 : IntsAt w4 a ys := (hI2.below hB3).below hB4
  have hI4 : IntsAt w4 a3 ys := hI3.below hB4
  go_wp2_with fail
  refine (toIntS_any a cap ys w4 (by omega) hIa4).mono ?_
  rintro e w5 ⟨v5, rfl, hO5, hB5⟩
  obtain ⟨a5, c5, rfl, hI5, _⟩ := hO5.shape
  go_wp2_with fail
  refine (eqIntS_any a3 a5 c3 c5 ys ys w5 (by omega) (hI4.below hB5) hI5).mono ?_
  rintro e w6 ⟨rfl, n6, rfl⟩
  have hbel : Below w.heap.size w (w5.drewN n6) := by
    have s1 := hB1.size
    have s2 := hB2.size
    have s3 := hB3.size
    have s4 := hB4.size
    exact ((((hB1.trans (hB2.mono (by omega))).trans (hB3.mono (by omega))).trans (hB4.mono (by omega))).trans (hB5.mono (by omega))).trans (drewN_below w5 n6 _)
  go_wp2
  go_ret
  exact ⟨rfl, hbel⟩
end Go.Proofs.Ytbpkffpejmlonaa
