/- The walk of the law FnExactRestReach. Conditions: none. -/
import Derived.Test.YtbpkffpejmlonaaW5
import Derived.Test.YtbpkffpejmlonaaW2
namespace Go.Proofs.Ytbpkffpejmlonaa
open Go.RowKit

set_option maxHeartbeats 4000000 in
theorem FnExactRestReach_law (a : Option Addr) (len cap : Nat) (q : Int) (w : World) (hx : ∃ ys : List Int, ys.length = len ∧ IntsAt w a ys) (hmax : len ≤ 9223372036854775807) (_hq : -9223372036854775808 ≤ q ∧ q ≤ 9223372036854775807) :
    Calls Try.prog 9 #[.slice a len cap, .int .i64 q] w fun e w' => e = .returned (.bool true) ∧ Below w.heap.size w w' := by
  obtain ⟨ys, rfl, hI⟩ := hx
  by_cases hl : ys.length ≤ 1048576
  case neg =>
    go_enter Try.func9, Try.ntmps9
    go_wp2
    go_ret
    exact ⟨rfl, Below.refl _ _⟩
  have hLn : (restR ys q).length ≤ 1000000 := by have := restR_length ys q; omega
  have hS : ∀ (a' : Option Addr) (c' : Nat) (w' : World), IntsAt w' a' ys → Calls Try.prog 51 #[.slice a' ys.length c', .int .i64 q] w' (ListR w' (restOk ys q) (restR ys q)) := fun a' c' w' h => sRestReach_any a' c' ys q w' (by omega) h
  have hF : ∀ (a' : Option Addr) (c' : Nat) (w' : World), IntsAt w' a' ys → Calls Try.prog 52 #[.slice a' ys.length c', .int .i64 q] w' (ListR w' (restOk ys q) (restR ys q)) := fun a' c' w' h => RestReach_any a' c' ys q w' (by omega) h
  generalize restR ys q = L at hLn hS hF
  generalize restOk ys q = ok at hS hF
  go_enter Try.func9, Try.ntmps9
  go_wp2_with fail
  refine (toIntS_any a cap ys w (by omega) hI).mono ?_
  rintro e w1 ⟨v1, rfl, hO1, hB1⟩
  obtain ⟨a1, c1, rfl, hI1, _⟩ := hO1.shape
  clear hO1
  go_wp2_with fail
  refine (hS a1 c1 w1 hI1).mono ?_
  rintro e w2 ⟨v2, rfl, hO2, hB2⟩
  obtain ⟨a2, c2, rfl, hI2, _⟩ := hO2.shape
  have s1 := hB1.size
  have s2 := hB2.size
  have hA2 := hB1.trans (hB2.mono s1)
  clear hI1 hO2 hB1 hB2
  go_wp2_with fail
  refine (toIntS_any a cap ys w2 (by omega) (hI.below hA2)).mono ?_
  rintro e w3 ⟨v3, rfl, hO3, hB3⟩
  obtain ⟨a3, c3, rfl, hI3, _⟩ := hO3.shape
  have s3 := hB3.size
  have hA3 := hA2.trans (hB3.mono (by omega))
  go_wp2_with fail
  refine (hF a3 c3 w3 hI3).mono ?_
  rintro e w4 ⟨v4, rfl, hO4, hB4⟩
  obtain ⟨a4, c4, rfl, hI4, _⟩ := hO4.shape
  have s4 := hB4.size
  have hA4 := hA3.trans (hB4.mono (by omega))
  have hP4 := hB3.trans (hB4.mono s3)
  have hO34 : OwnI w4 w2.heap.size (.slice a3 ys.length c3) ys := hO3.keptB hB4
  have hI24 := hI2.below hP4
  have hI34 := hI3.below hB4
  have hr3 := hO3.lt
  clear hA2 hA3 hB3 hO3 hI3
  go_wp2_with fail
  refine (eqIntS_any a4 a2 c4 c2 L L w4 (by omega) hI4 hI24).mono ?_
  rintro e w5 ⟨rfl, n5, rfl⟩
  simp only [decide_true]
  go_wp2_with fail
  refine (toIntS_any a cap ys (w4.drewN n5) (by omega) ((hI.below hA4).dr n5)).mono ?_
  rintro e w6 ⟨v6, rfl, hO6, hB6'⟩
  obtain ⟨a6, c6, rfl, hI6, _⟩ := hO6.shape
  have hB6 : Below w4.heap.size w4 w6 := (drewN_below w4 n5 _).trans hB6'
  clear hO6 hB6'
  have s6 := hB6.size
  go_wp2_with fail
  refine (eqIntS_any a3 a6 c3 c6 ys ys w6 (by omega) (hI34.below hB6) hI6).mono ?_
  rintro e w7 ⟨rfl, n7, rfl⟩
  simp only [decide_true]
  have hB7 : Below w4.heap.size w4 (w6.drewN n7) := belowDr hB6 n7
  have hO37 : OwnI (w6.drewN n7) w2.heap.size (.slice a3 ys.length c3) ys := hO34.keptB hB7
  have hO47 : OwnI (w6.drewN n7) w3.heap.size (.slice a4 L.length c4) L := hO4.keptB hB7
  have hA7 := hA4.trans (hB7.mono (by omega))
  have hP7 := hP4.trans (hB7.mono (by omega))
  have s7 : w4.heap.size ≤ (w6.drewN n7).heap.size := s6
  clear hI6 hB6 hO34 hI34 hB7 hI24 hO4 hI4 hB4 hP4 hA4
  generalize w6.drewN n7 = w7 at *
  go_wp2_with fail
  refine (markIntS_any w2.heap.size a3 c3 ys 1 w7 (by omega) (by omega) hO37).mono ?_
  rintro e w8 ⟨rfl, hO38, hG8⟩
  have hO48 : OwnI w8 w3.heap.size (.slice a4 L.length c4) L := hO47.kept_below hG8 (fun r hr => (hr3 r hr).2)
  have hA8 : Below w.heap.size w w8 := hA7.grown hG8 (by omega) (fun r hr => by have := (hr3 r hr).1; omega)
  have hP8 : Below w2.heap.size w2 w8 := hP7.grown hG8 (by omega) (fun r hr => (hr3 r hr).1)
  have s8 := hG8.size
  have hI28 := hI2.below hP8
  obtain ⟨a8, c8, he8, hI8, _⟩ := hO48.shape
  simp only [Value.slice.injEq] at he8
  obtain ⟨rfl, _, rfl⟩ := he8
  clear hO37 hO47 hO38 hG8 hA7 hP7
  go_wp2_with fail
  refine (eqIntS_any a4 a2 c4 c2 L L w8 (by omega) hI8 hI28).mono ?_
  rintro e w9 ⟨rfl, n9, rfl⟩
  simp only [decide_true]
  have hO49 : OwnI (w8.drewN n9) w3.heap.size (.slice a4 L.length c4) L := hO48.dr n9
  have hA9 := belowDr hA8 n9
  have hP9 := belowDr hP8 n9
  have s9 : w8.heap.size ≤ (w8.drewN n9).heap.size := Nat.le_refl _
  have hr4 := hO49.lt
  clear hI28 hI8 hO48 hA8 hP8
  generalize w8.drewN n9 = w9 at *
  go_wp2_with fail
  refine (markIntS_any w3.heap.size a4 c4 L 1 w9 (by omega) (by omega) hO49).mono ?_
  rintro e w10 ⟨rfl, hO10, hG10⟩
  have hA10 : Below w.heap.size w w10 := hA9.grown hG10 (by omega) (fun r hr => by have := (hr4 r hr).1; omega)
  have hP10 : Below w2.heap.size w2 w10 := hP9.grown hG10 (by omega) (fun r hr => by have := (hr4 r hr).1; omega)
  have s10 := hG10.size
  have hI10 : IntsAt w10 a4 (marks 1 L.length) := hO10.ints
  clear hO49 hO10 hG10 hA9 hP9 hr4 hr3
  go_wp2_with fail
  refine (heldIntS_any a4 c4 L.length 1 w10 (by omega) (by omega) hI10).mono ?_
  rintro e w' ⟨rfl, rfl⟩
  go_wp2_with fail
  refine (toIntS_any a cap ys w10 (by omega) (hI.below hA10)).mono ?_
  rintro e w11 ⟨v11, rfl, hO11, hB11⟩
  obtain ⟨a11, c11, rfl, hI11, _⟩ := hO11.shape
  have s11 := hB11.size
  go_wp2_with fail
  refine (hF a11 c11 w11 hI11).mono ?_
  rintro e w12 ⟨v12, rfl, hO12, hB12⟩
  obtain ⟨a12, c12, rfl, hI12, _⟩ := hO12.shape
  have hB12' : Below w10.heap.size w10 w12 := hB11.trans (hB12.mono s11)
  have hI2c := hI2.below (hP10.trans (hB12'.mono (by omega)))
  have hI10c := hI10.below hB12'
  have hA12 := hA10.trans (hB12'.mono (by omega))
  clear hO11 hI11 hO12 hB12 hB11 hI10 hB12' hA10 hP10
  go_wp2_with fail
  refine (eqIntS_any a12 a2 c12 c2 L L w12 (by omega) hI12 hI2c).mono ?_
  rintro e w13 ⟨rfl, n13, rfl⟩
  simp only [decide_true]
  go_wp2_with fail
  refine (heldIntS_any a4 c4 L.length 1 (w12.drewN n13) (by omega) (by omega) (hI10c.dr n13)).mono ?_
  rintro e w' ⟨rfl, rfl⟩
  have hA13 := belowDr hA12 n13
  go_wp2
  go_ret
  exact ⟨rfl, hA13⟩
end Go.Proofs.Ytbpkffpejmlonaa
