/- The walk of the law FnExecuteHalf. Conditions: the code has at most 1048576 bytes, else the law answers at once; the library's table of powers of ten lies as the row says. -/
import Derived.Test.YtdpapalfafjncaaGreatDoorNQ
import Derived.Test.YtdpapalfafjncaaGreatDoorIK
import Derived.Test.YtdpapalfafjncaaGreatDoorLD
import Derived.Test.YtdpapalfafjncaaGreatDoorW17
namespace Go.Proofs.YtdpapalfafjncaaGreatDoor
open Go.RowKit

set_option maxRecDepth 100000 in
set_option maxHeartbeats 4000000 in
theorem FnExecuteHalf_law (a : Option Addr) (len cap : Nat) (w : World) (hcap : len ≤ cap) (hb : BytesAt w w.heap.size a len) (hmax : len ≤ 9223372036854775807) (ht : Pow10 w) :
    Calls Tryz.prog 3 #[.slice a len cap] w fun e w' => e = .returned (.bool true) ∧ Below w.heap.size w w' := by
  by_cases hl : len ≤ 1048576
  case neg =>
    go_enter Tryz.func3, Tryz.ntmps3
    go_wp2
    go_ret
    exact ⟨rfl, Below.refl _ _⟩
  have HT := Lib.hid ht
  clear ht
  go_enter Tryz.func3, Tryz.ntmps3
  go_wp2_with fail
  refine (DrawHalfBest_any a len cap w hl hcap hb).mono ?_
  rintro e w1 ⟨ad, cp, zs, rfl, hz1, hz2, hI, hB⟩
  have s1 := hB.size
  have hF := HalfBest_any ad cp zs w1 (by omega) hI
  have hS : ∀ w', IntsAt w' ad zs → Calls Tryz.prog 7 #[.slice ad zs.length cp] w' (BestPostD w' (lrR zs) (inL zs)) := fun w' h => sHalfBest_any ad cp zs w' (by omega) h
  obtain ⟨r, hr⟩ : ∃ r, inL zs = r := ⟨_, rfl⟩
  rw [hr] at hF
  rw [hr] at hS
  have HR := Lib.hid hr
  obtain ⟨R, hRR⟩ : ∃ R, lrR zs = R := ⟨_, rfl⟩
  rw [hRR] at hF
  rw [hRR] at hS
  have HRR := Lib.hid hRR
  clear hr hRR
  go_wp2_with fail
  refine hF.mono ?_
  rintro e w2 ⟨rfl, hB2⟩
  have s2 := hB2.size
  have hA2 := hB.trans (hB2.mono s1)
  have hI2 := hI.below hB2
  clear hF
  go_wp2_with fail
  refine (hS w2 hI2).mono ?_
  rintro e w3 ⟨rfl, n3, rfl⟩
  have hB3 := drewN_below w2 n3 w2.heap.size
  have hA3 := belowDr hA2 n3
  have hI3 := hI2.below hB3
  clear hS hB3
  cases r with
  | false =>
    clear HRR
    go_wp2
    go_ret
    exact ⟨rfl, hA3⟩
  | true =>
    have hz : inL zs = true := HR.out
    have hzl := (inL_iff zs).1 hz
    have hRe : R = lr zs := by rw [← HRR.out, lrR, if_pos hz]
    subst hRe
    by_cases h0 : zs.length = 0
    · clear HR HRR
      go_wp2_with fail
      go_ret
      exact ⟨rfl, hA3⟩
    have HSP := Lib.hid (fun w' h => spaced_any ad cp zs w' h (fun x hx => by have := hzl.2 x hx; omega) (by omega))
    have HTO : Hid (∀ w', IntsAt w' ad zs → Calls Tryz.prog 11 #[.slice ad zs.length cp] w' fun e w'' => e = .returned (.int .i64 (tot zs)) ∧ w' = w'') := fun w' h => total_any ad cp zs w' (by omega) (fun x hx => by have := hzl.2 x hx; omega) h
    have HX := Lib.hid (fun w' h => Execute_half zs w' hz (by omega) h)
    clear HR HRR
    go_wp2_with fail
    refine (HSP.out _ hI3).mono ?_
    rintro e w4 ⟨rfl, hB4⟩
    have hA4 := hA3.trans (hB4.mono (by have := hA3.size; simpa using this))
    have hI4 := hI3.below hB4
    have hle := spT_le zs fun x hx => by have := hzl.2 x hx; omega
    have htb := tot_bd hzl.2
    have hlb := lr_bd hzl.2
    have d1 := dgs_len (n := (lr zs).toNat) (by omega)
    have d2 := dgs_len (n := (tot zs).toNat) (by omega)
    have d3 := dgs_len (n := zs.length) (by omega)
    have HD1 : Hid (∀ W, Calls Tryz.prog 10 #[.int .i64 (lr zs)] W fun e w' => e = .returned (.string ⟨(dgs (lr zs).toNat).toArray⟩) ∧ Below W.heap.size W w') := fun W => by
      have := digits_any 5 (lr zs).toNat W (by simp only [Nat.reduceAdd, Nat.reducePow]; omega) (by omega)
      rwa [Int.toNat_of_nonneg (by omega)] at this
    have HD2 : Hid (∀ W, Calls Tryz.prog 10 #[.int .i64 (tot zs)] W fun e w' => e = .returned (.string ⟨(dgs (tot zs).toNat).toArray⟩) ∧ Below W.heap.size W w') := fun W => by
      have := digits_any 5 (tot zs).toNat W (by simp only [Nat.reduceAdd, Nat.reducePow]; omega) (by omega)
      rwa [Int.toNat_of_nonneg (by omega)] at this
    have HD3 : Hid (∀ W, Calls Tryz.prog 10 #[.int .i64 zs.length] W fun e w' => e = .returned (.string ⟨(dgs zs.length).toArray⟩) ∧ Below W.heap.size W w') := fun W => digits_any 5 zs.length W (by simp only [Nat.reduceAdd, Nat.reducePow]; omega) (by omega)
    have HE1 : Hid ((⟨#[108, 105, 115, 116, 32]⟩ : ByteArray) ++ ⟨(spT zs).toArray⟩ ++ ⟨#[10, 104, 97, 108, 102, 10, 116, 111, 116, 97, 108, 10]⟩ = ⟨(hRest zs 0).toArray⟩) := by
      show _ = _
      refine ((congrArg (fun z : ByteArray => z ++ _) (bytes_app [108, 105, 115, 116, 32] _)).trans (bytes_app _ [10, 104, 97, 108, 102, 10, 116, 111, 116, 97, 108, 10])).trans ?_
      simp [hRest, hLin]
    have hW1 : ¬ 9223372036854775807 < 5 + (spT zs).length := by omega
    have hW2 : ¬ 9223372036854775807 < 5 + (spT zs).length + 12 := by omega
    
    go_wp2_with fail
    rw [HE1.out]
    refine (HX.out w4 (HT.out.below hA4)).mono ?_
    rintro e w5 ⟨rfl, hB5⟩
    have hA5 := hA4.trans (hB5.mono hA4.size)
    have hI5 := hI4.below hB5
    clear hW1 hW2 hle htb hlb HSP HE1 hzl hz hz1 hz2
    have hto : toldTo (hOut zs) 3 ++ [110, 117, 109, 98, 101, 114, 115, 32] ++ dgs zs.length ++ [10] = [111, 107, 10] ++ dgs (lr zs).toNat ++ [10] ++ dgs (tot zs).toNat ++ [10, 110, 117, 109, 98, 101, 114, 115, 32] ++ dgs zs.length ++ [10] := by
      simp [toldTo, hOut]
    rw [hto]
    clear hto HX
    generalize dgs (lr zs).toNat = X at *
    generalize dgs (tot zs).toNat = Y at *
    generalize hZ : dgs zs.length = Z at *
    clear hZ
    obtain ⟨O, hO⟩ : ∃ O : ByteArray, ⟨([111, 107, 10] ++ X ++ [10] ++ Y ++ [10, 110, 117, 109, 98, 101, 114, 115, 32] ++ Z ++ [10]).toArray⟩ = O := ⟨_, rfl⟩
    rw [hO]
    have HO := Lib.hid hO
    clear hO
    have z1 : ¬ 9223372036854775807 < 3 + X.length := by omega
    have z2 : ¬ 9223372036854775807 < 3 + X.length + 1 := by omega
    have z3 : ¬ 9223372036854775807 < 3 + X.length + 1 + Y.length := by omega
    have z4 : ¬ 9223372036854775807 < 3 + X.length + 1 + Y.length + 9 := by omega
    have z5 : ¬ 9223372036854775807 < 3 + X.length + 1 + Y.length + 9 + Z.length := by omega
    have z6 : ¬ 9223372036854775807 < 3 + X.length + 1 + Y.length + 9 + Z.length + 1 := by omega
    clear d1 d2 d3
    go_wp2_with fail
    refine (HD1.out _).mono ?_
    rintro e w6 ⟨rfl, hB6⟩
    have hA6 := hA5.trans (hB6.mono hA5.size)
    have hI6 := hI5.below hB6
    go_wp2_with fail
    refine (HTO.out _ hI6).mono ?_
    rintro e w7 ⟨rfl, rfl⟩
    go_wp2_with fail
    refine (HD2.out _).mono ?_
    rintro e w8 ⟨rfl, hB8⟩
    have hA8 := hA6.trans (hB8.mono hA6.size)
    go_wp2_with fail
    refine (HD3.out _).mono ?_
    rintro e w9 ⟨rfl, hB9⟩
    have hA9 := hA8.trans (hB9.mono hA8.size)
    go_wp2_with fail
    go_ret
    have hEq : (⟨#[111, 107, 10]⟩ : ByteArray) ++ ⟨X.toArray⟩ ++ ⟨#[10]⟩ ++ ⟨Y.toArray⟩ ++ ⟨#[10, 110, 117, 109, 98, 101, 114, 115, 32]⟩ ++ ⟨Z.toArray⟩ ++ ⟨#[10]⟩ = O := by
      rw [← HO.out]
      have e1 := bytes_app [111, 107, 10] X
      have e2 := bytes_app ([111, 107, 10] ++ X) [10]
      have e3 := bytes_app ([111, 107, 10] ++ X ++ [10]) Y
      have e4 := bytes_app ([111, 107, 10] ++ X ++ [10] ++ Y) [10, 110, 117, 109, 98, 101, 114, 115, 32]
      have e5 := bytes_app ([111, 107, 10] ++ X ++ [10] ++ Y ++ [10, 110, 117, 109, 98, 101, 114, 115, 32]) Z
      have e6 := bytes_app ([111, 107, 10] ++ X ++ [10] ++ Y ++ [10, 110, 117, 109, 98, 101, 114, 115, 32] ++ Z) [10]
      rw [e1, e2, e3, e4, e5, e6]
    rw [hEq]
    exact ⟨ret_bool (by simp), hA9⟩
end Go.Proofs.YtdpapalfafjncaaGreatDoor
