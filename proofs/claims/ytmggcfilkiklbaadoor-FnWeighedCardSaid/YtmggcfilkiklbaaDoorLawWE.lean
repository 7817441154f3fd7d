/- The walk of the law FnWeighed. Conditions: the code has at most 1048576 bytes, else the law answers at once; the variable errors.errorType holds its type's handle. -/
import Derived.Test.YtmggcfilkiklbaaDoorLawPS
import Derived.Test.YtmggcfilkiklbaaDoorJW
import Derived.Test.YtmggcfilkiklbaaDoorIV
namespace Go.Proofs.YtmggcfilkiklbaaDoor
open Go.RowKit

set_option maxHeartbeats 4000000 in
theorem FnWeighed_law (a : Option Addr) (len cap : Nat) (w : World) (hcap : len ≤ cap) (hb : BytesAt w w.heap.size a len) (hmax : len ≤ 9223372036854775807) (hg : w.cell? ⟨0, 0, none⟩ = some (.iface 72 (.agg #[.pointer (some ⟨1, 44, none⟩)]))) :
    Calls Tryd.prog 4 #[.slice a len cap] w fun e w' => e = .returned (.bool true) ∧ Below w.heap.size w w' := by
  have hlt0 : 0 < w.heap.size := by
    rcases Nat.eq_zero_or_pos w.heap.size with h0 | h
    · simp [World.cell?, h0] at hg
    · exact h
  by_cases hl : len ≤ 1048576
  case neg =>
    go_enter Tryd.func4, Tryd.ntmps4
    go_wp2
    go_ret
    exact ⟨rfl, Below.refl _ _⟩
  go_enter Tryd.func4, Tryd.ntmps4
  go_wp2_with fail
  refine (DrawPanWeighedC_any a len cap w hl hcap hb).mono ?_
  rintro e w1 ⟨ad, cp, zs, q, rfl, hcp, hz1, hz2, hI, hq1, hq2, hB⟩
  have s1 := hB.size
  have HG : Hid (∀ W, Below w.heap.size w W → W.cell? ⟨0, 0, none⟩ = some (.iface 72 (.agg #[.pointer (some ⟨1, 44, none⟩)]))) := fun W hW => (hW.cell (p := ⟨0, 0, none⟩) hlt0).trans hg
  have hW9 := wgL_len (zs := zs) (v := q) (by omega)
  have hC := PanWeighed_any ad cp zs q w1 (by omega) hI
  have hS : ∀ W, IntsAt W ad zs → Calls Tryd.prog 12 #[.slice ad zs.length cp, .int .i64 q] W (ListRS W (wgO zs q).isSome (wgL (wgO zs q))) := fun W h => sPanWeighed_any ad cp zs q W (by omega) hcp (by omega) h
  have HP : Hid (∀ W (a2 : Option Addr) (cap2 : Nat) (ss : List Int), ss.length ≤ 1000000 → IntsAt W ad zs → IntsAt W a2 ss → Below w.heap.size w W → Calls Tryd.prog 6 #[.slice ad zs.length cp, .slice a2 ss.length cap2] W (SidesR W zs ss)) := fun W a2 cap2 ss h0 h1 h2 h3 => PanSides_any ad a2 cp cap2 zs ss W (by omega) h0 h1 h2 (fun _ => HG.out W h3)
  have HC : Hid (∀ W, IntsAt W ad zs → Calls Tryd.prog 13 #[.slice ad zs.length cp] W (ListR W (inL zs) (panR zs))) := fun W h => PanCounts_any ad cp zs W (by omega) h
  have HT : Hid (∀ V, wgO zs q = some V → sgOk zs V = true ∧ good zs ∧ inL zs = true ∧ V.length = zs.length ∧ (∀ s ∈ V, -1 ≤ s ∧ s ≤ 1) ∧ ssum zs V = q ∧ 0 ≤ q ∧ q ≤ tot zs ∧ 0 < wN zs q) := fun V hV => by
    rw [wgO] at hV
    split at hV
    · rename_i hh
      have h := fw_is hV
      have hz := (inL_iff zs).1 hh.1
      refine ⟨?_, hz.2, hh.1, h.1, h.2.1, h.2.2, hh.2.1, hh.2.2, fw_pos hV⟩
      rw [sgOk, hh.1, decide_eq_true h.1, Bool.true_and, Bool.true_and]
      exact List.all_eq_true.2 (fun s hs => (isSg_iff s).2 (h.2.1 s hs))
    · cases hV
  clear hg HG
  obtain ⟨o, ho⟩ : ∃ o, wgO zs q = o := ⟨_, rfl⟩
  rw [ho] at hC hW9
  simp only [ho] at hS
  have HO := Lib.hid ho
  have HS := Lib.hid hS
  clear ho hS
  go_wp2_with fail
  refine hC.mono ?_
  rintro e w2 ⟨v1, rfl, hO1, hB2⟩
  obtain ⟨a1, c1, rfl, hI1, _⟩ := hO1.shape
  have s2 := hB2.size
  have hA2 := hB.trans (hB2.mono s1)
  have hz2' := hI.below hB2
  clear hC hO1
  go_wp2_with fail
  refine (HS.out w2 hz2').mono ?_
  rintro e w3 ⟨g3, c3, rfl, hO3, hB3⟩
  have hI3 := hO3.ints
  have s3 := hB3.size
  have hA3 := hA2.trans (hB3.mono (by omega))
  have hz3 := hz2'.below hB3
  have hI13 := hI1.below hB3
  clear HS hO3 hI1 hB2 hB3 hA2 hz2'
  go_wp2_with fail
  refine (sameInts_any a1 (some ⟨g3, 0, none⟩) c1 c3 (wgL o) (wgL o) w3 (by omega) hI13 hI3).mono ?_
  rintro e w4 ⟨rfl, n4, rfl⟩
  simp only [decide_true]
  have hz4 := hz3.dr n4
  have hI14 := hI13.dr n4
  have hI34 := hI3.dr n4
  have hA4 := belowDr hA3 n4
  clear hz3 hI13 hI3 hA3
  generalize w3.drewN n4 = w4 at *
  cases o with
  | none =>
    go_wp2_with fail
    refine (sameInts_any a1 (some ⟨g3, 0, none⟩) c1 c3 (wgL none) (wgL none) w4 (by omega) hI14 hI34).mono ?_
    rintro e w5 ⟨rfl, n5, rfl⟩
    simp only [decide_true]
    have hA5 := belowDr hA4 n5
    go_wp2
    go_ret
    exact ⟨rfl, hA5⟩
  | some V =>
    obtain ⟨hok, hgz, hin, hVl, hVs, hsum, hq0, hqt, hwn⟩ := HT.out V HO.out
    have hss := side_sum zs V hVs
    have hP := HP.out w4 a1 c1 V (by omega) hz4 hI14 hA4
    have hgX : good (sideL zs V) := fun x hx => hgz x (side_mem zs V x (.inl hx))
    have hgY : good (sideR zs V) := fun x hx => hgz x (side_mem zs V x (.inr hx))
    have hlx := (side_length zs V).1
    have hly := (side_length zs V).2
    have htX := tot_bd hgX
    have htY := tot_bd hgY
    have htz := tot_bd hgz
    unfold SidesR at hP
    simp only [hok, if_true] at hP
    obtain ⟨W, hW, hWl, hWq⟩ : ∃ W : List Int, panR zs = W ∧ (W.length : Int) = tot zs + 1 ∧ W[q.toNat]?.getD 0 = (wN zs q : Int) := by
      refine ⟨_, rfl, ?_⟩
      rw [panR, if_pos hin]
      refine ⟨by rw [panC_length]; omega, ?_⟩
      have := panC_get (zs := zs) q.toNat (by omega)
      rw [show ((q.toNat : Nat) : Int) = q by omega] at this
      exact this
    have HCC : Hid (∀ W', IntsAt W' ad zs → Calls Tryd.prog 13 #[.slice ad zs.length cp] W' (ListR W' true W)) := fun W' h => by have := HC.out W' h; rw [hW, hin] at this; exact this
    have HTX : Hid (∀ W' (a : Option Addr) (c : Nat), IntsAt W' a (sideL zs V) → Calls Tryd.prog 9 #[.slice a (sideL zs V).length c] W' fun e w' => e = .returned (.int .i64 (tot (sideL zs V))) ∧ W' = w') := fun W' a c h => total_any a c (sideL zs V) W' (by omega) (fun x hx => by have := hgX x hx; omega) h
    have HTY : Hid (∀ W' (a : Option Addr) (c : Nat), IntsAt W' a (sideR zs V) → Calls Tryd.prog 9 #[.slice a (sideR zs V).length c] W' fun e w' => e = .returned (.int .i64 (tot (sideR zs V))) ∧ W' = w') := fun W' a c h => total_any a c (sideR zs V) W' (by omega) (fun x hx => by have := hgY x hx; omega) h
    have hxl : 0 ≤ tot (sideL zs V) ∧ tot (sideL zs V) ≤ 600 := by omega
    have hyl : 0 ≤ tot (sideR zs V) ∧ tot (sideR zs V) ≤ 600 := by omega
    have hdf : tot (sideR zs V) - tot (sideL zs V) = q := by omega
    have hqb : q < (W.length : Int) := by omega
    have hWl2 : W.length ≤ 601 := by omega
    have hlxb : (sideL zs V).length ≤ 8 := by omega
    have hlyb : (sideR zs V).length ≤ 8 := by omega
    clear HP HC HT HO hok hgz hin hVl hVs hsum hss hgX hgY htX htY htz hW hWl hqt hlx hly
    generalize sideL zs V = X at *
    generalize sideR zs V = Y at *
    go_wp2_with fail
    refine hP.mono ?_
    rintro e w5 ⟨v5, v6, rfl, hO5, hO6, hB5⟩
    obtain ⟨a5, c5, rfl, hI5, _⟩ := hO5.shape
    obtain ⟨a6, c6, rfl, hI6, _⟩ := hO6.shape
    have hz5 := hz4.below hB5
    have s5 := hB5.size
    have hA5 := hA4.trans (hB5.mono hA4.size)
    clear hP hO5 hO6 hB5 hz4 hI14 hI34 hA4
    go_wp2_with fail
    refine (HCC.out w5 hz5).mono ?_
    rintro e w7 ⟨v7, rfl, hO7, hB7⟩
    obtain ⟨a7, c7, rfl, hI7, _⟩ := hO7.shape
    have hI57 := hI5.below hB7
    have hI67 := hI6.below hB7
    have hA7 := hA5.trans (hB7.mono hA5.size)
    obtain ⟨b, off, rfl, hbb, hcell⟩ := hI7.at (by omega)
    have hx := hcell q.toNat (by omega)
    rw [hWq] at hx
    clear HCC hO7 hB7 hz5 hI5 hI6 hI7 hA5 hcell hWq
    generalize (wN zs q : Nat) = nw at *
    have hnb : (0 : Int) < nw := by omega
    generalize tot X = tx at *
    generalize tot Y = ty at *
    have hgd : (ty - tx == q) = true := by simp; omega
    go_wp2_with fail
    refine (HTY.out w7 a6 c6 hI67).mono ?_
    rintro e w' ⟨rfl, rfl⟩
    clear HTY hI67
    go_wp2_with fail
    refine (HTX.out w7 a5 c5 hI57).mono ?_
    rintro e w' ⟨rfl, rfl⟩
    clear HTX hI57
    go_wp2
    go_ret
    exact ⟨ret_bool (by simp), hA7⟩
end Go.Proofs.YtmggcfilkiklbaaDoor
