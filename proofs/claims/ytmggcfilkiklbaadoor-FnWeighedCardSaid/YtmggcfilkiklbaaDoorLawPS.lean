/- The walk of the law FnPanSides. Conditions: the code has at most 1048576 bytes, else the law answers at once; the variable errors.errorType holds its type's handle. -/
import Derived.Test.YtmggcfilkiklbaaDoorJD
import Derived.Test.YtmggcfilkiklbaaDoorW9
namespace Go.Proofs.YtmggcfilkiklbaaDoor
open Go.RowKit

theorem sq2_take (ss : List Int) : ∀ k, k < ss.length → sq2 (ss.take (k + 1)) = sq2 (ss.take k) + ss[k]?.getD 0 * ss[k]?.getD 0 := by
  induction ss with
  | nil => intro k h; simp at h
  | cons s r ih =>
    intro k h
    cases k with
    | zero => simp [sq2]
    | succ k =>
      have := ih k (by simpa using h)
      simp only [List.take_succ_cons, sq2, List.getElem?_cons_succ]
      rw [this]; omega
theorem sq2_bd : ∀ ss : List Int, (∀ s ∈ ss, -1 ≤ s ∧ s ≤ 1) → 0 ≤ sq2 ss ∧ sq2 ss ≤ ss.length
  | [], _ => by simp [sq2]
  | s :: r, h => by
    have ih := sq2_bd r (fun t ht => h t (List.mem_cons_of_mem _ ht))
    have h2 := h s (List.mem_cons_self ..)
    have hc3 : s = -1 ∨ s = 0 ∨ s = 1 := by omega
    rw [sq2, List.length_cons]
    rcases hc3 with rfl | rfl | rfl <;> omega

set_option maxHeartbeats 4000000 in
theorem FnPanSides_law (a : Option Addr) (len cap : Nat) (w : World) (hcap : len ≤ cap) (hb : BytesAt w w.heap.size a len) (hmax : len ≤ 9223372036854775807) (hg : w.cell? ⟨0, 0, none⟩ = some (.iface 72 (.agg #[.pointer (some ⟨1, 44, none⟩)]))) :
    Calls Tryd.prog 3 #[.slice a len cap] w fun e w' => e = .returned (.bool true) ∧ Below w.heap.size w w' := by
  have hlt0 : 0 < w.heap.size := by
    rcases Nat.eq_zero_or_pos w.heap.size with h0 | h
    · simp [World.cell?, h0] at hg
    · exact h
  by_cases hl : len ≤ 1048576
  case neg =>
    go_enter Tryd.func3, Tryd.ntmps3
    go_wp2
    go_ret
    exact ⟨rfl, Below.refl _ _⟩
  go_enter Tryd.func3, Tryd.ntmps3
  go_wp2_with fail
  refine (DrawPanSides_any a len cap w hl hcap hb).mono ?_
  rintro e w1 ⟨ad, cp, zs, ad2, cp2, ss, rfl, hz1, hz2, hI, hs1, hJ, hB⟩
  have s1 := hB.size
  have hg1 : w1.cell? ⟨0, 0, none⟩ = some (.iface 72 (.agg #[.pointer (some ⟨1, 44, none⟩)])) := (hB.cell (p := ⟨0, 0, none⟩) hlt0).trans hg
  have hC := PanSides_any ad ad2 cp cp2 zs ss w1 (by omega) (by omega) hI hJ (fun _ => hg1)
  have hS : ∀ W, IntsAt W ad zs → IntsAt W ad2 ss → Calls Tryd.prog 7 #[.slice ad zs.length cp, .slice ad2 ss.length cp2] W (SidesR W zs ss) := fun W h1 h2 => sPanSides_any ad ad2 cp cp2 zs ss W (by omega) (by omega) h1 h2
  clear hg1 hg
  obtain ⟨ok, hok⟩ : ∃ ok, sgOk zs ss = ok := ⟨_, rfl⟩
  have hlx := (side_length zs ss).1
  have hly := (side_length zs ss).2
  obtain ⟨X, hX, hXl⟩ : ∃ X : List Int, (if sgOk zs ss = true then sideL zs ss else []) = X ∧ X.length ≤ 9 := ⟨_, rfl, by split; omega; simp⟩
  obtain ⟨Y, hY, hYl⟩ : ∃ Y : List Int, (if sgOk zs ss = true then sideR zs ss else []) = Y ∧ Y.length ≤ 9 := ⟨_, rfl, by split; omega; simp⟩
  have hF : ok = true → good zs ∧ (X.length : Int) + Y.length = sq2 ss ∧ tot X + tot Y ≤ tot zs ∧ good X ∧ good Y ∧ (∀ s ∈ ss, -1 ≤ s ∧ s ≤ 1) := fun h => by
    rw [h] at hok
    rw [if_pos hok] at hX hY
    have hh := hok
    rw [sgOk, Bool.and_eq_true, Bool.and_eq_true, decide_eq_true_iff] at hh
    have hz := ((inL_iff zs).1 hh.1).2
    have hs := all_sg hh.2.2
    have := side_count zs ss hh.2.1.symm hs hz
    rw [hX, hY] at this
    exact ⟨hz, this.1, this.2, fun x hx => hz x (side_mem zs ss x (.inl (by rw [hX]; exact hx))), fun x hx => hz x (side_mem zs ss x (.inr (by rw [hY]; exact hx))), hs⟩
  have HF := Lib.hid hF
  unfold SidesR at hC hS
  rw [hok] at hC hX hY
  simp only [hok] at hS
  rw [hX, hY] at hC
  simp only [hX, hY] at hS
  have HS := Lib.hid hS
  clear hok hX hY hF hlx hly hS
  go_wp2_with fail
  refine hC.mono ?_
  rintro e w2 ⟨v1, v2, rfl, hO1, hO2, hB2⟩
  obtain ⟨a1, c1, rfl, hI1, _⟩ := hO1.shape
  obtain ⟨a2, c2, rfl, hI2, _⟩ := hO2.shape
  have s2 := hB2.size
  have hA2 := hB.trans (hB2.mono s1)
  have hz2' := hI.below hB2
  have hs2' := hJ.below hB2
  clear hC hO1 hO2
  go_wp2_with fail
  refine (HS.out w2 hz2' hs2').mono ?_
  rintro e w3 ⟨v3, v4, rfl, hO3, hO4, hB3⟩
  obtain ⟨a3, c3, rfl, hI3, _⟩ := hO3.shape
  obtain ⟨a4, c4, rfl, hI4, _⟩ := hO4.shape
  have s3 := hB3.size
  have hA3 := hA2.trans (hB3.mono (by omega))
  have hz3 := hz2'.below hB3
  have hs3 := hs2'.below hB3
  have hI13 := hI1.below hB3
  have hI23 := hI2.below hB3
  clear HS hO3 hO4 hI1 hI2 hB2 hB3 hA2 hz2' hs2'
  go_wp2_with fail
  refine (sameInts_any a1 a3 c1 c3 X X w3 (by omega) hI13 hI3).mono ?_
  rintro e w4 ⟨rfl, n4, rfl⟩
  simp only [decide_true]
  have hz4 := hz3.dr n4
  have hs4 := hs3.dr n4
  have hI14 := hI13.dr n4
  have hI24 := hI23.dr n4
  have hI34 := hI3.dr n4
  have hI44 := hI4.dr n4
  have hA4 := belowDr hA3 n4
  clear hz3 hs3 hI13 hI23 hI3 hI4 hA3
  generalize w3.drewN n4 = w4 at *
  go_wp2_with fail
  refine (sameInts_any a2 a4 c2 c4 Y Y w4 (by omega) hI24 hI44).mono ?_
  rintro e w5 ⟨rfl, n5, rfl⟩
  simp only [decide_true]
  have hz5 := hz4.dr n5
  have hs5 := hs4.dr n5
  have hI15 := hI14.dr n5
  have hI25 := hI24.dr n5
  have hI35 := hI34.dr n5
  have hI45 := hI44.dr n5
  have hA5 := belowDr hA4 n5
  clear hz4 hs4 hI14 hI24 hI34 hI44 hA4
  generalize w4.drewN n5 = w5 at *
  cases ok with
  | false =>
    go_wp2_with fail
    refine (sameInts_any a1 a3 c1 c3 X X w5 (by omega) hI15 hI35).mono ?_
    rintro e w6 ⟨rfl, n6, rfl⟩
    simp only [decide_true]
    have hI26 := hI25.dr n6
    have hI46 := hI45.dr n6
    have hA6 := belowDr hA5 n6
    clear hI15 hI35 hI25 hI45 hA5
    generalize w5.drewN n6 = w6 at *
    go_wp2_with fail
    refine (sameInts_any a2 a4 c2 c4 Y Y w6 (by omega) hI26 hI46).mono ?_
    rintro e w7 ⟨rfl, n7, rfl⟩
    simp only [decide_true]
    have hA7 := belowDr hA6 n7
    go_wp2
    go_ret
    exact ⟨rfl, hA7⟩
  | true =>
    obtain ⟨hgz, hn, ht, hgX, hgY, hsg⟩ := HF.out rfl
    have htz := tot_bd hgz
    have htX := tot_bd hgX
    have htY := tot_bd hgY
    have hTz : ∀ W, IntsAt W ad zs → Calls Tryd.prog 9 #[.slice ad zs.length cp] W fun e w' => e = .returned (.int .i64 (tot zs)) ∧ W = w' := fun W h => total_any ad cp zs W (by omega) (fun x hx => by have := hgz x hx; omega) h
    have hTX : ∀ W, IntsAt W a1 X → Calls Tryd.prog 9 #[.slice a1 X.length c1] W fun e w' => e = .returned (.int .i64 (tot X)) ∧ W = w' := fun W h => total_any a1 c1 X W (by omega) (fun x hx => by have := hgX x hx; omega) h
    have hTY : ∀ W, IntsAt W a2 Y → Calls Tryd.prog 9 #[.slice a2 Y.length c2] W fun e w' => e = .returned (.int .i64 (tot Y)) ∧ W = w' := fun W h => total_any a2 c2 Y W (by omega) (fun x hx => by have := hgY x hx; omega) h
    have HTZ := Lib.hid hTz
    have HTX := Lib.hid hTX
    have HTY := Lib.hid hTY
    have HN := Lib.hid hn
    have HSG := Lib.hid hsg
    have htzu : tot zs ≤ 600 := by omega
    have htXu : 0 ≤ tot X ∧ tot X ≤ 600 := by omega
    have htYu : 0 ≤ tot Y ∧ tot Y ≤ 600 := by omega
    clear hgz hgX hgY hsg hn HF hTz hTX hTY htz htX htY
    generalize tot zs = tz at *
    generalize tot X = tx at *
    generalize tot Y = ty at *
    go_wp2
    go_loopw [11, 12] (fun v i wr => ∃ (k n : Nat), k ≤ ss.length ∧ i = .int .i64 k ∧ v = .int .i64 (sq2 (ss.take k)) ∧ wr = w5.drewN n) (fun _ i _ => ss.length - (intOf i).toNat)
    case atStart => exact ⟨0, 0, Nat.zero_le _, rfl, rfl, rfl⟩
    case round =>
      obtain ⟨k, n, hk, rfl, rfl, rfl⟩ := hrel
      by_cases hlt : k < ss.length
      · obtain ⟨b, off, rfl, hbb, hcell⟩ := hs5.at (by omega)
        have hx := hcell k hlt
        have HQ := Lib.hid (sq2_take ss k hlt)
        have hq := sq2_bd (ss.take k) (fun s hs => HSG.out s (List.mem_of_mem_take hs))
        have hql : (ss.take k).length ≤ 20 := by rw [List.length_take]; omega
        have hxs : -1 ≤ ss[k]?.getD 0 ∧ ss[k]?.getD 0 ≤ 1 := by rw [List.getElem?_eq_getElem hlt]; exact HSG.out _ (List.getElem_mem hlt)
        generalize ss[k]?.getD 0 = x at hx HQ hxs
        have hqb : 0 ≤ sq2 (ss.take k) ∧ sq2 (ss.take k) ≤ 20 := by omega
        clear hq hql hcell
        generalize sq2 (ss.take k) = q at HQ hqb
        have hxx : 0 ≤ x * x ∧ x * x ≤ 1 := by
          have hc3 : x = -1 ∨ x = 0 ∨ x = 1 := by omega
          rcases hc3 with rfl | rfl | rfl <;> omega
        have hm1 : IntKind.i64.wrap (x * x) = x * x := IntWalk.i64_in _ (by omega)
        have hm2 : IntKind.i64.wrap (q + x * x) = q + x * x := IntWalk.i64_in _ (by omega)
        go_wp2_with fail
        go_quiet (fail)
        go_wp2
        go_roundw
        case rel => exact ⟨k + 1, n + nq, by omega, by go_num, by rw [HQ.out], by simp⟩
        case measure => simp [intOf]; omega
      · obtain rfl : k = ss.length := by omega
        rw [List.take_length]
        have hgd : ((X.length : Int) + Y.length == sq2 ss) = true := by rw [HN.out]; simp
        have hA6 := belowDr hA5 n
        have hz6 := hz5.dr n
        have hI16 := hI15.dr n
        have hI26 := hI25.dr n
        clear HN hA5 hz5 hI15 hI25 hs5 HSG hI35 hI45
        generalize sq2 ss = q at *
        generalize w5.drewN n = w6 at *
        go_wp2_with fail
        refine (HTX.out w6 hI16).mono ?_
        rintro e w' ⟨rfl, rfl⟩
        clear HTX hI16
        go_wp2_with fail
        refine (HTY.out w6 hI26).mono ?_
        rintro e w' ⟨rfl, rfl⟩
        clear HTY hI26
        go_wp2_with fail
        refine (HTZ.out w6 hz6).mono ?_
        rintro e w' ⟨rfl, rfl⟩
        clear HTZ hz6
        go_wp2
        go_ret
        exact ⟨ret_bool (by simp), hA6⟩
end Go.Proofs.YtmggcfilkiklbaaDoor
