/- The walk of the law FnExecuteBins. Conditions: the code has at most 1048576 bytes, else the law answers at once; the library's table of powers of ten lies as the row says. -/
import Derived.Test.YtdpapalfafjncaaGreatDoorZp
namespace Go.Proofs.YtdpapalfafjncaaGreatDoor
open Go.RowKit

theorem LeastR.same {zs : List Int} {n r r' : Int} {ok ok' : Bool} (h : LeastR zs n r ok) (h' : LeastR zs n r' ok') : r = r' ∧ ok = ok' := by
  rcases h with ⟨rfl, h1, k, rfl, h2⟩ | ⟨rfl, h1, rfl⟩ <;> rcases h' with ⟨rfl, k1, k', rfl, k2⟩ | ⟨rfl, k1, rfl⟩
  · exact ⟨by rw [few_unique h2 k2], rfl⟩
  · rw [h1] at k1; cases k1
  · rw [h1] at k1; cases k1
  · exact ⟨rfl, rfl⟩

set_option maxRecDepth 100000 in
set_option maxHeartbeats 4000000 in
theorem FnExecuteBins_law (a : Option Addr) (len cap : Nat) (w : World) (hcap : len ≤ cap) (hb : BytesAt w w.heap.size a len) (hmax : len ≤ 9223372036854775807) (ht : Pow10 w) :
    Calls Tryz.prog 4 #[.slice a len cap] w fun e w' => e = .returned (.bool true) ∧ Below w.heap.size w w' := by
  by_cases hl : len ≤ 1048576
  case neg =>
    go_enter Tryz.func4, Tryz.ntmps4
    go_wp2
    go_ret
    exact ⟨rfl, Below.refl _ _⟩
  have HT := Lib.hid ht
  clear ht
  go_enter Tryz.func4, Tryz.ntmps4
  go_wp2_with fail
  refine (DrawBinLeast_any a len cap w hl hcap hb).mono ?_
  rintro e w1 ⟨ad, cp, zs, n, rfl, hz1, hz2, hn0, hn1, hI, hB⟩
  have s1 := hB.size
  have hF := Lib.hid (BinLeast_any ad cp zs n w1 (by omega) hI)
  have hS := Lib.hid (fun w' h => sBinLeast_any ad cp zs n w' (by omega) h)
  go_wp2_with fail
  refine hF.out.mono ?_
  rintro e w2 ⟨r, ok, rfl, hR, hB2⟩
  have s2 := hB2.size
  have hA2 := hB.trans (hB2.mono s1)
  have hI2 := hI.below hB2
  have HR := Lib.hid hR
  clear hF hR
  go_wp2_with fail
  refine (hS.out w2 hI2).mono ?_
  rintro e w3 ⟨r', ok', rfl, hR', hB3⟩
  obtain ⟨rfl, rfl⟩ := HR.out.same hR'
  have hA3 := hA2.trans (hB3.mono hA2.size)
  have hI3 := hI2.below hB3
  clear hS hB3 hR'
  cases ok with
  | false =>
    clear HR
    go_wp2_with fail
    go_ret
    exact ⟨rfl, hA3⟩
  | true =>
    obtain ⟨_, ht, k, rfl, hk⟩ : true = true ∧ toldB zs n = true ∧ ∃ k : Nat, r = k ∧ IsFew (roomP zs n) (2 ^ zs.length - 1) k := by
      rcases HR.out with h | ⟨h, _⟩
      · exact h
      · cases h
    obtain ⟨hz, hs1, hs2, hle9⟩ := toldB_is ht
    have hzl := (inL_iff zs).1 hz
    have hpw := Nat.two_pow_pos zs.length
    have hk10 : k ≤ 10 := Nat.le_trans (few_le hle9 (by omega) hk) hzl.1
    by_cases h0 : zs.length = 0
    · clear HR hk
      go_wp2_with fail
      go_ret
      exact ⟨rfl, hA3⟩
    have HSP := Lib.hid (fun w' h => spaced_any ad cp zs w' h (fun x hx => by have := hzl.2 x hx; omega) (by omega))
    have HX := Lib.hid (fun w' h => Execute_bins zs n k w' ht hk (by omega) h)
    have hle := spT_le zs fun x hx => by have := hzl.2 x hx; omega
    have HD0 : Hid (∀ W, Calls Tryz.prog 10 #[.int .i64 n] W fun e w' => e = .returned (.string ⟨(dgs n.toNat).toArray⟩) ∧ Below W.heap.size W w') := fun W => by
      have := digits_any 5 n.toNat W (by simp only [Nat.reduceAdd, Nat.reducePow]; omega) (by omega)
      rwa [Int.toNat_of_nonneg (by omega)] at this
    have HD1 : Hid (∀ W, Calls Tryz.prog 10 #[.int .i64 k] W fun e w' => e = .returned (.string ⟨(dgs k).toArray⟩) ∧ Below W.heap.size W w') := fun W => digits_any 5 k W (by simp only [Nat.reduceAdd, Nat.reducePow]; omega) (by omega)
    have HD3 : Hid (∀ W, Calls Tryz.prog 10 #[.int .i64 zs.length] W fun e w' => e = .returned (.string ⟨(dgs zs.length).toArray⟩) ∧ Below W.heap.size W w') := fun W => digits_any 5 zs.length W (by simp only [Nat.reduceAdd, Nat.reducePow]; omega) (by omega)
    have d0 := dgs_len (n := n.toNat) (by omega)
    have d1 := dgs_len (n := k) (by omega)
    have d3 := dgs_len (n := zs.length) (by omega)
    have HE1 : Hid ((⟨#[108, 105, 115, 116, 32]⟩ : ByteArray) ++ ⟨(spT zs).toArray⟩ ++ ⟨#[10, 98, 105, 110, 115, 32]⟩ ++ ⟨(dgs n.toNat).toArray⟩ ++ ⟨#[10]⟩ = ⟨(bRest zs n 0).toArray⟩) := by
      show _ = _
      have e1 := bytes_app [108, 105, 115, 116, 32] (spT zs)
      have e2 := bytes_app ([108, 105, 115, 116, 32] ++ spT zs) [10, 98, 105, 110, 115, 32]
      have e3 := bytes_app ([108, 105, 115, 116, 32] ++ spT zs ++ [10, 98, 105, 110, 115, 32]) (dgs n.toNat)
      have e4 := bytes_app ([108, 105, 115, 116, 32] ++ spT zs ++ [10, 98, 105, 110, 115, 32] ++ dgs n.toNat) [10]
      rw [e1, e2, e3, e4]
      simp [bRest, bLin, spT]
    clear HR hk ht hz hle9
    have hto : toldTo (bOut k) 2 ++ [110, 117, 109, 98, 101, 114, 115, 32] ++ dgs zs.length ++ [10] = [111, 107, 10] ++ dgs k ++ [10, 110, 117, 109, 98, 101, 114, 115, 32] ++ dgs zs.length ++ [10] := by
      simp [toldTo, bOut]
    rw [hto] at HX
    clear hto
    go_wp2_with fail
    refine (HSP.out _ hI3).mono ?_
    rintro e w4 ⟨rfl, hB4⟩
    have hA4 := hA3.trans (hB4.mono hA3.size)
    have hI4 := hI3.below hB4
    generalize bRest zs n 0 = BR at *
    generalize spT zs = S at *
    generalize dgs n.toNat = N at *
    generalize dgs k = X at *
    generalize hZ : dgs zs.length = Z at *
    clear hZ
    have y1 : ¬ 9223372036854775807 < 5 + S.length := by omega
    have y2 : ¬ 9223372036854775807 < 5 + S.length + 6 := by omega
    have y3 : ¬ 9223372036854775807 < 5 + S.length + 6 + N.length := by omega
    have y4 : ¬ 9223372036854775807 < 5 + S.length + 6 + N.length + 1 := by omega
    have z1 : ¬ 9223372036854775807 < 3 + X.length := by omega
    have z2 : ¬ 9223372036854775807 < 3 + X.length + 9 := by omega
    have z3 : ¬ 9223372036854775807 < 3 + X.length + 9 + Z.length := by omega
    have z4 : ¬ 9223372036854775807 < 3 + X.length + 9 + Z.length + 1 := by omega
    clear hle d0 d1 d3 HSP
    go_wp2_with fail
    refine (HD0.out _).mono ?_
    rintro e w5 ⟨rfl, hB5⟩
    have hA5 := hA4.trans (hB5.mono hA4.size)
    have hI5 := hI4.below hB5
    go_wp2_with fail
    rw [HE1.out]
    refine (HX.out w5 (HT.out.below hA5)).mono ?_
    rintro e w6 ⟨rfl, hB6⟩
    have hA6 := hA5.trans (hB6.mono hA5.size)
    clear y1 y2 y3 y4 HE1 HX
    obtain ⟨O, hO⟩ : ∃ O : ByteArray, ⟨([111, 107, 10] ++ X ++ [10, 110, 117, 109, 98, 101, 114, 115, 32] ++ Z ++ [10]).toArray⟩ = O := ⟨_, rfl⟩
    rw [hO]
    have HO := Lib.hid hO
    clear hO
    go_wp2_with fail
    refine (HD1.out _).mono ?_
    rintro e w7 ⟨rfl, hB7⟩
    have hA7 := hA6.trans (hB7.mono hA6.size)
    go_wp2_with fail
    refine (HD3.out _).mono ?_
    rintro e w8 ⟨rfl, hB8⟩
    have hA8 := hA7.trans (hB8.mono hA7.size)
    go_wp2_with fail
    go_ret
    have hEq : (⟨#[111, 107, 10]⟩ : ByteArray) ++ ⟨X.toArray⟩ ++ ⟨#[10, 110, 117, 109, 98, 101, 114, 115, 32]⟩ ++ ⟨Z.toArray⟩ ++ ⟨#[10]⟩ = O := by
      rw [← HO.out]
      have e1 := bytes_app [111, 107, 10] X
      have e2 := bytes_app ([111, 107, 10] ++ X) [10, 110, 117, 109, 98, 101, 114, 115, 32]
      have e3 := bytes_app ([111, 107, 10] ++ X ++ [10, 110, 117, 109, 98, 101, 114, 115, 32]) Z
      have e4 := bytes_app ([111, 107, 10] ++ X ++ [10, 110, 117, 109, 98, 101, 114, 115, 32] ++ Z) [10]
      rw [e1, e2, e3, e4]
    rw [hEq]
    exact ⟨ret_bool (by simp), hA8⟩
end Go.Proofs.YtdpapalfafjncaaGreatDoor
