/- The walk of the law FnRoom. Conditions: the code has at most 1048576 bytes, else the law answers at once. -/
import Derived.Test.YtmggcfilkiklbaaBL
namespace Go.Proofs.Ytmggcfilkiklbaa
open Go.RowKit

set_option maxHeartbeats 6400000 in
theorem FnRoom_law (a : Option Addr) (len cap : Nat) (w : World) (hcap : len ≤ cap) (hb : BytesAt w w.heap.size a len) (hmax : len ≤ 9223372036854775807) :
    Calls Try.prog 3 #[.slice a len cap] w fun e w' => e = .returned (.bool true) ∧ Below w.heap.size w w' := by
  by_cases hl : len ≤ 1048576
  case neg =>
    go_enter Try.func3, Try.ntmps3
    go_wp2
    go_ret
    exact ⟨rfl, Below.refl _ _⟩
  go_enter Try.func3, Try.ntmps3
  go_wp2_with fail
  refine (DrawBinRoom_any a len cap w hl hcap hb).mono ?_
  rintro e w1 ⟨ad, cp, zs, size, lt, o, rfl, hz1, hz2, hq0, hq1, hL, hI, hB⟩
  have s1 := hB.size
  have hF := BinRoom_any lt o hL ad cp zs size w1 (by omega) hI
  have hS : ∀ W, IntsAt W ad zs → Calls Try.prog 7 #[.slice ad zs.length cp, .int .i64 size, .string lt] W (ListR W (binsO zs size o).isSome (((binsO zs size o).getD []).map (fun b => size - tot b))) := fun W h => sBinRoom_any lt o hL ad cp zs size W (by omega) (by omega) h
  have hN : ∀ W, IntsAt W ad zs → Calls Try.prog 9 #[.slice ad zs.length cp, .int .i64 size, .string lt] W (CntPost W (binsO zs size o).isSome ((binsO zs size o).getD []).length) := fun W h => BinCount_any lt o hL ad cp zs size W (by omega) h
  have hP : ∃ (ok : Bool) (L : List Int) (n : Nat), (binsO zs size o).isSome = ok ∧ ((binsO zs size o).getD []).map (fun b => size - tot b) = L ∧ ((binsO zs size o).getD []).length = n ∧ L.length = n ∧ n ≤ 10 ∧ (ok = true → good zs ∧ 1 ≤ size ∧ (∀ x ∈ L, 0 ≤ x ∧ x < size) ∧ tot L + tot zs = n * size) := by
    refine ⟨_, _, _, rfl, rfl, rfl, by rw [List.length_map], ?_, ?_⟩
    · cases h : binsO zs size o with
      | none => simp
      | some bs => obtain ⟨_, _, _, _, _, _, h1, _⟩ := binsO_is h; exact h1
    · intro hok
      cases h : binsO zs size o with
      | none => rw [h] at hok; cases hok
      | some bs =>
        obtain ⟨r, c, _, ht, hb, hp, h1, _⟩ := binsO_is h
        obtain ⟨hz, hs1, _, _⟩ := toldB_is ht
        refine ⟨((inL_iff zs).1 hz).2, hs1, fun x hx => ?_, ?_⟩
        · obtain ⟨b, hbm, rfl⟩ := List.mem_map.1 hx
          have k1 := hb.each b hbm
          have k2 := good_pos k1.2.1 k1.1
          omega
        · have k3 := rooms_sum size bs
          rw [perm_tot hp] at k3
          exact k3
  obtain ⟨ok, L, n, e1, e2, e3, hLn, hn10, hfact⟩ := hP
  rw [e1, e2] at hF
  simp only [e1, e2] at hS
  simp only [e1, e3] at hN
  have HS := Lib.hid hS
  have HN := Lib.hid hN
  have HFact := Lib.hid hfact
  have HLN := Lib.hid hLn
  have hLl : L.length ≤ 10 := by omega
  clear e1 e2 e3 hS hN hfact hL hLn
  go_wp2_with fail
  refine hF.mono ?_
  rintro e w2 ⟨v2, rfl, hO2, hB2⟩
  obtain ⟨a2, c2, rfl, hI2, _⟩ := hO2.shape
  have hA2 := hB.trans (hB2.mono s1)
  have hz2' := hI.below hB2
  clear hF hO2
  go_wp2_with fail
  refine (HS.out w2 hz2').mono ?_
  rintro e w3 ⟨v3, rfl, hO3, hB3⟩
  obtain ⟨a3, c3, rfl, hI3, _⟩ := hO3.shape
  have hA3 := hA2.trans (hB3.mono hA2.size)
  have hz3 := hz2'.below hB3
  have hI23 := hI2.below hB3
  clear HS hO3 hI2 hB2 hB3 hA2 hz2'
  go_wp2_with fail
  refine (sameInts_any a2 a3 c2 c3 L L w3 (by omega) hI23 hI3).mono ?_
  rintro e w4 ⟨rfl, n4, rfl⟩
  simp only [decide_true]
  have hz4 := hz3.dr n4
  have hI24 := hI23.dr n4
  have hI34 := hI3.dr n4
  have hA4 := belowDr hA3 n4
  clear hz3 hI23 hI3 hA3
  generalize w3.drewN n4 = w4 at *
  cases ok with
  | false =>
    go_wp2_with fail
    refine (sameInts_any a2 a3 c2 c3 L L w4 (by omega) hI24 hI34).mono ?_
    rintro e w5 ⟨rfl, n5, rfl⟩
    simp only [decide_true]
    have hA5 := belowDr hA4 n5
    go_wp2
    go_ret
    exact ⟨rfl, hA5⟩
  | true =>
    obtain ⟨hgz, hs1, hLx, hsum⟩ := HFact.out rfl
    have htz := tot_bd hgz
    have hLx2 : ∀ x ∈ L, 0 ≤ x ∧ x ≤ 1000000 := fun x hx => by have := hLx x hx; omega
    have htL := tot_bdM (M := 1000000) hLx2
    have htzb : 0 ≤ tot zs ∧ tot zs ≤ 600 := by omega
    have htLb : 0 ≤ tot L ∧ tot L ≤ 10000000 := by omega
    have HTz : Hid (∀ W, IntsAt W ad zs → Calls Try.prog 10 #[.slice ad zs.length cp] W fun e w' => e = .returned (.int .i64 (tot zs)) ∧ W = w') := fun W h => total_any ad cp zs W (by omega) (fun x hx => by have := hgz x hx; omega) h
    have HTL : Hid (∀ W, IntsAt W a2 L → Calls Try.prog 10 #[.slice a2 L.length c2] W fun e w' => e = .returned (.int .i64 (tot L)) ∧ W = w') := fun W h => total_any a2 c2 L W (by omega) hLx2 h
    have hgx : ∀ i : Nat, i < L.length → 0 ≤ L[i]?.getD 0 ∧ L[i]?.getD 0 < size := fun i hi => by rw [List.getElem?_eq_getElem hi]; exact hLx _ (List.getElem_mem hi)
    have HGX := Lib.hid hgx
    clear hgz htz hLx hLx2 htL HFact hgx
    generalize tot zs = tz at *
    generalize tot L = tl at *
    go_wp2_with fail
    refine (HN.out w4 hz4).mono ?_
    rintro e w5 ⟨rfl, hB5⟩
    have hz5 := hz4.below hB5
    have hI25 := hI24.below hB5
    have hA5 := hA4.trans (hB5.mono hA4.size)
    clear HN hB5 hz4 hI24 hI34 hA4
    go_wp2
    go_loop [12] (fun i => ∃ k : Nat, k ≤ L.length ∧ i = .int .i64 k) (fun i => L.length - (intOf i).toNat)
    case atStart => exact ⟨0, Nat.zero_le _, rfl⟩
    case round =>
      obtain ⟨k, hk, rfl⟩ := hrel
      by_cases hlt : k < L.length
      · obtain ⟨b, off, rfl, hbb, hcell⟩ := hI25.at (by omega)
        have hx := hcell k hlt
        obtain ⟨hx0, hx1⟩ := HGX.out k hlt
        generalize L[k]?.getD 0 = x at hx hx0 hx1
        clear hcell hsum
        go_wp2
        go_round
        case rel => exact ⟨k + 1, by omega, by go_num⟩
        case measure => simp [intOf]; omega
      · have hmb : 0 ≤ (n : Int) * size ∧ (n : Int) * size ≤ 10000 := by
          constructor
          · exact Int.mul_nonneg (by omega) (by omega)
          · have h1 : (n : Int) * size ≤ 10 * size := Int.mul_le_mul_of_nonneg_right (by omega) (by omega)
            omega
        have hgd1 : ((L.length : Int) == (n : Int)) = true := by have := HLN.out; simp; omega
        have hgd2 : (tl + tz == (n : Int) * size) = true := by rw [hsum]; simp
        have hw1 : IntKind.i64.wrap ((n : Int) * size) = n * size := IntWalk.i64_in _ (by omega)
        clear hsum
        go_wp2_with fail
        refine (HTL.out w5 hI25).mono ?_
        rintro e w' ⟨rfl, rfl⟩
        clear HTL
        go_wp2_with fail
        refine (HTz.out w5 hz5).mono ?_
        rintro e w' ⟨rfl, rfl⟩
        go_wp2
        go_ret
        exact ⟨rfl, hA5⟩
end Go.Proofs.Ytmggcfilkiklbaa
