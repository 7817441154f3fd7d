/- HalfDifferences of the reference. Conditions: stated in each. Ahead of it: HalfGreedy of the reference. Conditions: stated in each. Ahead of it: l1Sorted of the reference (under way). Conditions: the list has at most 12 numbers. -/
import Derived.Test.YtmggcfilkiklbaaAC
import Derived.Test.YtmggcfilkiklbaaMY
import Derived.Test.YtmggcfilkiklbaaW1
import Derived.Test.YtmggcfilkiklbaaIY
namespace Go.Proofs.Ytmggcfilkiklbaa
open Go.RowKit

theorem ints_new1 (W : World) (x : Int) : IntsAt (W.alloc (.cells #[.int .i64 x] 3)) (some ⟨W.heap.size, 0, none⟩) [x] := by
  refine .inr ⟨W.heap.size, 0, rfl, by simp, fun t ht => ?_⟩
  obtain rfl : t = 0 := by simp at ht; exact ht
  have h := heap_alloc_new W (.cells #[.int .i64 x] 3)
  simp only [World.cell?, h]
  rfl
theorem ints_grown {W W' : World} {row : Option Nat} {b : Nat} {x : Int} (h : IntsAt W (some ⟨b, 0, none⟩) [x]) (hG : W.grownBy W' row) (hr : row ≠ some b) : IntsAt W' (some ⟨b, 0, none⟩) [x] := by
  obtain ⟨b', o', he, hb, hc⟩ := h.at (by simp)
  simp only [Option.some.injEq, Addr.mk.injEq, and_true] at he
  obtain ⟨rfl, rfl⟩ := he
  refine .inr ⟨b, 0, rfl, Nat.lt_of_lt_of_le hb hG.size, fun t ht => ?_⟩
  have h1 := hc t ht
  simp only [World.cell?] at h1 ⊢
  rw [hG.block b hb (fun e => hr e.symm)]
  exact h1
theorem below_grown {B : Nat} {w W W' : World} {v : Value} {base : Nat} {zs : List Int} (h : Below B w W) (hO : OwnI W base v zs) (hb : B ≤ base) (hG : W.grownBy W' v.ownBlock) (hBW : B ≤ W.heap.size) : Below B w W' :=
  h.grown hG hBW (fun k hk => Nat.le_trans hb (hO.lt k hk).1)

set_option maxRecDepth 100000 in
set_option maxHeartbeats 3200000 in
theorem l1Sorted_any (a : Option Addr) (cap : Nat) (zs : List Int) (w : World) (hl : zs.length ≤ 12) (hI : IntsAt w a zs) :
    Calls Try.prog 42 #[.slice a zs.length cap] w fun e w' => ∃ v L, e = .returned v ∧ Hid (L.Perm zs) ∧ Hid (InOrd (fun a b => a ≤ b) L L.length) ∧ OwnI w' w.heap.size v L ∧ Below w.heap.size w w' := by
  have HO : OwnI (w.alloc (.cells #[] 3)) w.heap.size (.slice (some ⟨w.heap.size, 0, none⟩) 0 0) [] := World.ownsRow_lit w #[] 0 (Nat.le_refl _) (by unfold maxLen; omega) (by simp)
  go_enter Try.func42, Try.ntmps42
  go_wp2
  go_loopw [3, 4] (fun v i wr => ∃ (k g cp : Nat) (L : List Int), k ≤ zs.length ∧ i = .int .i64 k ∧ v = .slice (some ⟨g, 0, none⟩) k cp ∧ Hid (L.length = k) ∧ Hid (L.Perm (zs.take k)) ∧ Hid (InOrd (fun a b => a ≤ b) L k) ∧ OwnI wr w.heap.size (.slice (some ⟨g, 0, none⟩) k cp) L ∧ Below w.heap.size w wr) (fun _ i _ => zs.length - (intOf i).toNat)
  case atStart => exact ⟨0, w.heap.size, 0, [], Nat.zero_le _, rfl, rfl, rfl, List.Perm.refl _, (fun p q h1 h2 => by omega), HO, (Below.refl _ _).alloc (Nat.le_refl _) _⟩
  case round =>
    obtain ⟨k, g, cp, L, hk, rfl, rfl, HL, HP, HI, hO, hB⟩ := hrel
    clear HO
    by_cases hlt : k < zs.length
    · obtain ⟨b, off, rfl, hbb, hcell⟩ := (hI.below hB).at (by omega)
      have hx := hcell k hlt
      obtain ⟨x, hxv⟩ : ∃ x, zs[k]?.getD 0 = x := ⟨_, rfl⟩
      rw [hxv] at hx
      have HXV := Lib.hid hxv
      clear hcell hxv
      go_wp2
      go_loopw [5] (fun v wr' => ∃ (j m : Nat), j ≤ k ∧ v = .int .i64 j ∧ Hid (∀ t, j ≤ t → t < k → x < L[t]?.getD 0) ∧ wr' = wr.drewN m) (fun v _ => (intOf v).toNat)
      case atStart => exact ⟨k, 0, by omega, rfl, fun t h1 h2 => by omega, rfl⟩
      case round =>
        obtain ⟨j, m, hj, rfl, HG, rfl⟩ := hrel
        have hx' : (wr.drewN m).cell? ⟨b, off + k, none⟩ = some (.int .i64 x) := hx
        by_cases hj0 : 0 < j
        · obtain ⟨g', cp', he, _, hgl, hcell⟩ := hO.at (by have := HL.out; omega)
          simp only [Value.slice.injEq, Option.some.injEq, Addr.mk.injEq, and_true] at he
          obtain ⟨rfl, hq1, hq2⟩ := he
          clear hq1 hq2
          have hy := (hcell (j - 1) (by have := HL.out; omega)).1
          obtain ⟨y, hyv⟩ : ∃ y, L[j - 1]?.getD 0 = y := ⟨_, rfl⟩
          rw [hyv] at hy
          have HYV := Lib.hid hyv
          clear hcell hyv
          by_cases hxy : x < y
          · have HG2 : Hid (∀ t, j - 1 ≤ t → t < k → x < L[t]?.getD 0) := fun t h1 h2 => by
              by_cases e : t = j - 1
              · subst e; rw [HYV.out]; exact hxy
              · exact HG.out t (by omega) h2
            go_wp2_with fail
            go_quiet (fail)
            go_wp2
            go_roundw
            case rel => exact ⟨j - 1, m + nq, by omega, congrArg (Value.int .i64) (by omega), HG2, by simp⟩
            case measure => simp [intOf]; omega
          · have hxy2 : y ≤ x := by omega
            have HST : Hid (j = 0 ∨ L[j - 1]?.getD 0 ≤ x) := by show _ ∨ _; rw [HYV.out]; exact .inr hxy2
            have HPm : Hid ((insAt L j x).Perm (zs.take (k + 1))) := by
              show List.Perm _ _
              rw [take_snoc zs k hlt, HXV.out]
              exact insAt_perm HP.out j x
            go_wp2_with fail
            go_quiet (fail)
            go_wp2_with fail
            obtain ⟨g', cp', he, _, hgl, hcell⟩ := hO.at (by have := HL.out; omega)
            simp only [Value.slice.injEq, Option.some.injEq, Addr.mk.injEq, and_true] at he
            obtain ⟨rfl, hq1, hq2⟩ := he
            have hcap : k ≤ cp := by
              obtain ⟨a', c', he, _, hc⟩ := hO.shape
              simp only [Value.slice.injEq] at he
              have := HL.out
              omega
            clear hq1 hq2
            have hjc : j ≤ cp := by omega
            have HL1 : Hid ((L.take j).length = j) := by show _ = _; rw [List.length_take]; have := HL.out; omega
            have HL2 : Hid ((L.drop j).length = k - j) := by show _ = _; rw [List.length_drop, HL.out]
            have HIL : IntsAt wr (some ⟨g, 0, none⟩) L := hO.ints
            have HI1 : Hid (IntsAt wr (some ⟨g, 0, none⟩) (L.take j)) := .inr ⟨g, 0, rfl, hgl, fun t ht => by
              have := HL1.out
              rw [List.getElem?_take, if_pos (by omega), Nat.zero_add]
              exact (hcell t (by have := HL.out; omega)).1⟩
            obtain ⟨A, hA, hI2⟩ : ∃ A, (if cp = j then some (⟨g, 0, none⟩ : Addr) else some ⟨g, j, none⟩) = some A ∧ IntsAt wr (some A) (L.drop j) := by
              by_cases e : cp = j
              · refine ⟨⟨g, 0, none⟩, if_pos e, .inl (List.eq_nil_of_length_eq_zero ?_)⟩
                have := HL2.out; omega
              · refine ⟨⟨g, j, none⟩, if_neg e, .inr ⟨g, j, rfl, hgl, fun t ht => ?_⟩⟩
                rw [List.getElem?_drop]
                exact (hcell (j + t) (by have := HL.out; have := HL2.out; omega)).1
            have HI2 := Lib.hid hI2
            clear hI2 hcell
            have hjk : j ≤ k := hj
            have HLn := HL
            have hLz : (L.take j).length ≤ 1000000 := by rw [HL1.out]; omega
            have hLz2 : (L.take j ++ [x]).length ≤ 1000000 := by rw [List.length_append, HL1.out]; simp; omega
            have hLz3 : (L.drop j).length ≤ 1000000 := by rw [HL2.out]; omega
            have own0 : ∀ q, OwnI ((wr.drewN q).alloc (.cells #[] 3)) wr.heap.size (.slice (some ⟨wr.heap.size, 0, none⟩) 0 0) [] := fun q => World.ownsRow_lit (wr.drewN q) #[] 0 (Nat.le_refl _) (by unfold maxLen; omega) (by simp)
            have bel0 : ∀ q, Below wr.heap.size wr ((wr.drewN q).alloc (.cells #[] 3)) := fun q => (belowDr (Below.refl _ wr) q).alloc (Nat.le_refl _) _
            have OWN0 := Lib.hid own0
            have BEL0 := Lib.hid bel0
            clear own0 bel0
            have OWNX : Hid (∀ q, OwnI (((wr.drewN q).alloc (.cells #[.int .i64 x] 3)).alloc (.cells #[] 3)) wr.heap.size (.slice (some ⟨wr.heap.size + 1, 0, none⟩) 0 0) []) := fun q => by
              have := World.ownsRow_lit (base := wr.heap.size) (e := 3) (size := 1) ((wr.drewN q).alloc (.cells #[.int .i64 x] 3)) #[] 0 (by simp) (by unfold maxLen; omega) (by simp)
              unfold OwnI
              simpa using this
            have BELX : Hid (∀ q, Below wr.heap.size wr (((wr.drewN q).alloc (.cells #[.int .i64 x] 3)).alloc (.cells #[] 3))) := fun q => ((belowDr (Below.refl _ wr) q).alloc (Nat.le_refl _) _).alloc (by simp) _
            have HNX : Hid (∀ q, IntsAt (((wr.drewN q).alloc (.cells #[.int .i64 x] 3)).alloc (.cells #[] 3)) (some ⟨wr.heap.size, 0, none⟩) [x]) := fun q => (ints_new1 (wr.drewN q) x).below ((Below.refl _ _).alloc (Nat.le_refl _) _)
            have hx0 : ∀ q, ((wr.drewN q).alloc (.cells #[] 3)).cell? ⟨b, off + k, none⟩ = some (.int .i64 x) := fun q => ((BEL0.out q).cell (p := ⟨b, off + k, none⟩) hbb).trans hx
            have HN1 : Hid (∀ q, IntsAt (((wr.drewN q).alloc (.cells #[] 3)).alloc (.cells #[.int .i64 x] 3)) (some ⟨wr.heap.size + 1, 0, none⟩) [x]) := fun q => by have := ints_new1 ((wr.drewN q).alloc (.cells #[] 3)) x; simpa using this
            go_region_law (first
              | (refine stepSl rfl (.tmp 31) (.tmp 34) rfl wr.heap.size (.slice (some ⟨wr.heap.size, 0, none⟩) 0 0) [] (L.take j) ⟨g, 0, none⟩ j cp (by simp [Act.eval, Act.put]) (by simp [Act.eval, Act.put]) HL1.out (OWN0.out _) (by simp) hLz (HI1.out.below (BEL0.out _)) (BEL0.out _).size ?_; intro v1 W1 hO1 hG1 hat1; have hb1 : Below wr.heap.size wr W1 := below_grown (BEL0.out _) (OWN0.out _) (Nat.le_refl _) hG1 (BEL0.out _).size; have hx1 : W1.cell? ⟨b, off + k, none⟩ = some (.int .i64 x) := (hb1.cell (p := ⟨b, off + k, none⟩) hbb).trans hx)
              | (refine stepSl rfl (.tmp 35) (.tmp 40) rfl wr.heap.size v1 (L.take j) [x] ⟨W1.heap.size, 0, none⟩ 1 1 (by simp [Act.eval, Act.put]) (by simp [Act.eval, Act.put]) rfl (hO1.alloc _) hLz (by simp) (ints_new1 W1 x) (by have := hb1.size; simp; omega) ?_; intro v2 W2 hO2 hG2 hat2; have hb2 : Below wr.heap.size wr W2 := below_grown (hb1.alloc hb1.size _) (hO1.alloc _) (Nat.le_refl _) hG2 (by have := hb1.size; simp; omega))
              | (refine stepSl rfl (.tmp 31) (.tmp 34) rfl wr.heap.size (.slice (some ⟨wr.heap.size, 0, none⟩) 0 0) [] (L.take j) ⟨g, 0, none⟩ j cp (by simp [Act.eval, Act.put]) (by simp [Act.eval, Act.put]) HL1.out ((OWN0.out _).alloc _) (by simp) hLz (HI1.out.below ((BEL0.out _).alloc (BEL0.out _).size _)) ((BEL0.out _).alloc (BEL0.out _).size _).size ?_; intro v1 W1 hO1 hG1 hat1; have hb1 : Below wr.heap.size wr W1 := below_grown ((BEL0.out _).alloc (BEL0.out _).size _) ((OWN0.out _).alloc _) (Nat.le_refl _) hG1 ((BEL0.out _).alloc (BEL0.out _).size _).size; have hN : IntsAt W1 (some ⟨wr.heap.size + 1, 0, none⟩) [x] := ints_grown (HN1.out _) hG1 (by simp [Value.ownBlock]))
              | (refine stepSl rfl (.tmp 35) (.tmp 40) rfl wr.heap.size v1 (L.take j) [x] ⟨wr.heap.size + 1, 0, none⟩ 1 1 (by simp [Act.eval, Act.put]) (by simp [Act.eval, Act.put]) rfl hO1 hLz (by simp) hN hb1.size ?_; intro v2 W2 hO2 hG2 hat2; have hb2 : Below wr.heap.size wr W2 := below_grown hb1 hO1 (Nat.le_refl _) hG2 hb1.size)
              | (refine stepSl rfl (.tmp 31) (.tmp 34) rfl wr.heap.size (.slice (some ⟨wr.heap.size + 1, 0, none⟩) 0 0) [] (L.take j) ⟨g, 0, none⟩ j cp (by simp [Act.eval, Act.put]) (by simp [Act.eval, Act.put]) HL1.out (OWNX.out _) (by simp) hLz (HI1.out.below (BELX.out _)) (BELX.out _).size ?_; intro v1 W1 hO1 hG1 hat1; have hb1 : Below wr.heap.size wr W1 := below_grown (BELX.out _) (OWNX.out _) (Nat.le_refl _) hG1 (BELX.out _).size; have hN : IntsAt W1 (some ⟨wr.heap.size, 0, none⟩) [x] := ints_grown (HNX.out _) hG1 (by simp [Value.ownBlock]))
              | (refine stepSl rfl (.tmp 35) (.tmp 40) rfl wr.heap.size v1 (L.take j) [x] ⟨wr.heap.size, 0, none⟩ 1 1 (by simp [Act.eval, Act.put]) (by simp [Act.eval, Act.put]) rfl hO1 hLz (by simp) hN hb1.size ?_; intro v2 W2 hO2 hG2 hat2; have hb2 : Below wr.heap.size wr W2 := below_grown hb1 hO1 (Nat.le_refl _) hG2 hb1.size)
              | (refine stepSl rfl (.tmp 41) (.tmp 44) rfl wr.heap.size v2 (L.take j ++ [x]) (L.drop j) A (k - j) (cp - j) (by simp [Act.eval, Act.put]) (by simp [Act.eval, Act.put]) HL2.out hO2 hLz2 hLz3 (HI2.out.below hb2) hb2.size ?_; intro v3 W3 hO3 hG3 hat3; have hb3 : Below wr.heap.size wr W3 := below_grown hb2 hO2 (Nat.le_refl _) hG3 hb2.size))
            all_goals
              obtain ⟨g3, c3, rfl, _, _, _⟩ := hO3.at (by simp; omega)
              have hl3 : (L.take j ++ [x] ++ L.drop j).length = k + 1 := insAt_length HL.out hj x
              rw [hl3] at hO3 ⊢
              have HO3 := Lib.hid hO3
              clear hO3 hl3 hat1 hat2 hat3
              go_wp2
              go_roundw
              case rel => exact ⟨k + 1, g3, c3, insAt L j x, by omega, by go_num, rfl, insAt_length HL.out hj x, HPm.out, insAt_ord HL.out hj HI.out HG.out HST.out, HO3.out.mono hB.size, hB.trans (hb3.mono hB.size)⟩
              case measure => simp [intOf]; omega
        · have HST : Hid (j = 0 ∨ L[j - 1]?.getD 0 ≤ x) := .inl (by omega)
          have HPm : Hid ((insAt L j x).Perm (zs.take (k + 1))) := by
            show List.Perm _ _
            rw [take_snoc zs k hlt, HXV.out]
            exact insAt_perm HP.out j x
          go_wp2_with fail
          go_quiet (fail)
          go_wp2_with fail
          have hcap : k ≤ cp := by
            obtain ⟨a', c', he, _, hc⟩ := hO.shape
            simp only [Value.slice.injEq] at he
            have := HL.out
            omega
          have hjc : j ≤ cp := by omega
          have HL1 : Hid ((L.take j).length = j) := by show _ = _; rw [List.length_take]; have := HL.out; omega
          have HL2 : Hid ((L.drop j).length = k - j) := by show _ = _; rw [List.length_drop, HL.out]
          have HIL : IntsAt wr (some ⟨g, 0, none⟩) L := hO.ints
          have HI1 : Hid (IntsAt wr (some ⟨g, 0, none⟩) (L.take j)) := .inl (List.eq_nil_of_length_eq_zero (by have := HL1.out; omega))
          obtain ⟨A, hA, hI2⟩ : ∃ A, (if cp = j then some (⟨g, 0, none⟩ : Addr) else some ⟨g, j, none⟩) = some A ∧ IntsAt wr (some A) (L.drop j) := by
            by_cases e : cp = j
            · refine ⟨⟨g, 0, none⟩, if_pos e, .inl (List.eq_nil_of_length_eq_zero ?_)⟩
              have := HL2.out; omega
            · refine ⟨⟨g, j, none⟩, if_neg e, ?_⟩
              have e0 : j = 0 := by omega
              rw [e0, List.drop_zero]; exact HIL
          have HI2 := Lib.hid hI2
          clear hI2
          have hjk : j ≤ k := hj
          have HLn := HL
          have hLz : (L.take j).length ≤ 1000000 := by rw [HL1.out]; omega
          have hLz2 : (L.take j ++ [x]).length ≤ 1000000 := by rw [List.length_append, HL1.out]; simp; omega
          have hLz3 : (L.drop j).length ≤ 1000000 := by rw [HL2.out]; omega
          have own0 : ∀ q, OwnI ((wr.drewN q).alloc (.cells #[] 3)) wr.heap.size (.slice (some ⟨wr.heap.size, 0, none⟩) 0 0) [] := fun q => World.ownsRow_lit (wr.drewN q) #[] 0 (Nat.le_refl _) (by unfold maxLen; omega) (by simp)
          have bel0 : ∀ q, Below wr.heap.size wr ((wr.drewN q).alloc (.cells #[] 3)) := fun q => (belowDr (Below.refl _ wr) q).alloc (Nat.le_refl _) _
          have OWN0 := Lib.hid own0
          have BEL0 := Lib.hid bel0
          clear own0 bel0
          have OWNX : Hid (∀ q, OwnI (((wr.drewN q).alloc (.cells #[.int .i64 x] 3)).alloc (.cells #[] 3)) wr.heap.size (.slice (some ⟨wr.heap.size + 1, 0, none⟩) 0 0) []) := fun q => by
            have := World.ownsRow_lit (base := wr.heap.size) (e := 3) (size := 1) ((wr.drewN q).alloc (.cells #[.int .i64 x] 3)) #[] 0 (by simp) (by unfold maxLen; omega) (by simp)
            unfold OwnI
            simpa using this
          have BELX : Hid (∀ q, Below wr.heap.size wr (((wr.drewN q).alloc (.cells #[.int .i64 x] 3)).alloc (.cells #[] 3))) := fun q => ((belowDr (Below.refl _ wr) q).alloc (Nat.le_refl _) _).alloc (by simp) _
          have HNX : Hid (∀ q, IntsAt (((wr.drewN q).alloc (.cells #[.int .i64 x] 3)).alloc (.cells #[] 3)) (some ⟨wr.heap.size, 0, none⟩) [x]) := fun q => (ints_new1 (wr.drewN q) x).below ((Below.refl _ _).alloc (Nat.le_refl _) _)
          have hx0 : ∀ q, ((wr.drewN q).alloc (.cells #[] 3)).cell? ⟨b, off + k, none⟩ = some (.int .i64 x) := fun q => ((BEL0.out q).cell (p := ⟨b, off + k, none⟩) hbb).trans hx
          have HN1 : Hid (∀ q, IntsAt (((wr.drewN q).alloc (.cells #[] 3)).alloc (.cells #[.int .i64 x] 3)) (some ⟨wr.heap.size + 1, 0, none⟩) [x]) := fun q => by have := ints_new1 ((wr.drewN q).alloc (.cells #[] 3)) x; simpa using this
          go_region_law (first
            | (refine stepSl rfl (.tmp 31) (.tmp 34) rfl wr.heap.size (.slice (some ⟨wr.heap.size, 0, none⟩) 0 0) [] (L.take j) ⟨g, 0, none⟩ j cp (by simp [Act.eval, Act.put]) (by simp [Act.eval, Act.put]) HL1.out (OWN0.out _) (by simp) hLz (HI1.out.below (BEL0.out _)) (BEL0.out _).size ?_; intro v1 W1 hO1 hG1 hat1; have hb1 : Below wr.heap.size wr W1 := below_grown (BEL0.out _) (OWN0.out _) (Nat.le_refl _) hG1 (BEL0.out _).size; have hx1 : W1.cell? ⟨b, off + k, none⟩ = some (.int .i64 x) := (hb1.cell (p := ⟨b, off + k, none⟩) hbb).trans hx)
            | (refine stepSl rfl (.tmp 35) (.tmp 40) rfl wr.heap.size v1 (L.take j) [x] ⟨W1.heap.size, 0, none⟩ 1 1 (by simp [Act.eval, Act.put]) (by simp [Act.eval, Act.put]) rfl (hO1.alloc _) hLz (by simp) (ints_new1 W1 x) (by have := hb1.size; simp; omega) ?_; intro v2 W2 hO2 hG2 hat2; have hb2 : Below wr.heap.size wr W2 := below_grown (hb1.alloc hb1.size _) (hO1.alloc _) (Nat.le_refl _) hG2 (by have := hb1.size; simp; omega))
            | (refine stepSl rfl (.tmp 31) (.tmp 34) rfl wr.heap.size (.slice (some ⟨wr.heap.size, 0, none⟩) 0 0) [] (L.take j) ⟨g, 0, none⟩ j cp (by simp [Act.eval, Act.put]) (by simp [Act.eval, Act.put]) HL1.out ((OWN0.out _).alloc _) (by simp) hLz (HI1.out.below ((BEL0.out _).alloc (BEL0.out _).size _)) ((BEL0.out _).alloc (BEL0.out _).size _).size ?_; intro v1 W1 hO1 hG1 hat1; have hb1 : Below wr.heap.size wr W1 := below_grown ((BEL0.out _).alloc (BEL0.out _).size _) ((OWN0.out _).alloc _) (Nat.le_refl _) hG1 ((BEL0.out _).alloc (BEL0.out _).size _).size; have hN : IntsAt W1 (some ⟨wr.heap.size + 1, 0, none⟩) [x] := ints_grown (HN1.out _) hG1 (by simp [Value.ownBlock]))
            | (refine stepSl rfl (.tmp 35) (.tmp 40) rfl wr.heap.size v1 (L.take j) [x] ⟨wr.heap.size + 1, 0, none⟩ 1 1 (by simp [Act.eval, Act.put]) (by simp [Act.eval, Act.put]) rfl hO1 hLz (by simp) hN hb1.size ?_; intro v2 W2 hO2 hG2 hat2; have hb2 : Below wr.heap.size wr W2 := below_grown hb1 hO1 (Nat.le_refl _) hG2 hb1.size)
            | (refine stepSl rfl (.tmp 31) (.tmp 34) rfl wr.heap.size (.slice (some ⟨wr.heap.size + 1, 0, none⟩) 0 0) [] (L.take j) ⟨g, 0, none⟩ j cp (by simp [Act.eval, Act.put]) (by simp [Act.eval, Act.put]) HL1.out (OWNX.out _) (by simp) hLz (HI1.out.below (BELX.out _)) (BELX.out _).size ?_; intro v1 W1 hO1 hG1 hat1; have hb1 : Below wr.heap.size wr W1 := below_grown (BELX.out _) (OWNX.out _) (Nat.le_refl _) hG1 (BELX.out _).size; have hN : IntsAt W1 (some ⟨wr.heap.size, 0, none⟩) [x] := ints_grown (HNX.out _) hG1 (by simp [Value.ownBlock]))
            | (refine stepSl rfl (.tmp 35) (.tmp 40) rfl wr.heap.size v1 (L.take j) [x] ⟨wr.heap.size, 0, none⟩ 1 1 (by simp [Act.eval, Act.put]) (by simp [Act.eval, Act.put]) rfl hO1 hLz (by simp) hN hb1.size ?_; intro v2 W2 hO2 hG2 hat2; have hb2 : Below wr.heap.size wr W2 := below_grown hb1 hO1 (Nat.le_refl _) hG2 hb1.size)
            | (refine stepSl rfl (.tmp 41) (.tmp 44) rfl wr.heap.size v2 (L.take j ++ [x]) (L.drop j) A (k - j) (cp - j) (by simp [Act.eval, Act.put]) (by simp [Act.eval, Act.put]) HL2.out hO2 hLz2 hLz3 (HI2.out.below hb2) hb2.size ?_; intro v3 W3 hO3 hG3 hat3; have hb3 : Below wr.heap.size wr W3 := below_grown hb2 hO2 (Nat.le_refl _) hG3 hb2.size))
          all_goals
            obtain ⟨g3, c3, rfl, _, _, _⟩ := hO3.at (by simp; omega)
            have hl3 : (L.take j ++ [x] ++ L.drop j).length = k + 1 := insAt_length HL.out hj x
            rw [hl3] at hO3 ⊢
            have HO3 := Lib.hid hO3
            clear hO3 hl3 hat1 hat2 hat3
            go_wp2
            go_roundw
            case rel => exact ⟨k + 1, g3, c3, insAt L j x, by omega, by go_num, rfl, insAt_length HL.out hj x, HPm.out, insAt_ord HL.out hj HI.out HG.out HST.out, HO3.out.mono hB.size, hB.trans (hb3.mono hB.size)⟩
            case measure => simp [intOf]; omega
    · obtain rfl : k = zs.length := by omega
      have H1 : Hid (InOrd (fun a b => a ≤ b) L L.length) := by show InOrd _ L L.length; rw [HL.out]; exact HI.out
      have H2 : Hid (L.Perm zs) := by have := HP.out; rwa [List.take_length] at this
      go_wp2
      go_ret
      exact ⟨_, L, rfl, H2, H1, hO, hB⟩
end Go.Proofs.Ytmggcfilkiklbaa
namespace Go.Proofs.Ytmggcfilkiklbaa
open Go.RowKit

theorem ord_rev {zs L : List Int} (hp : L.Perm zs) (h : InOrd (fun a b => a ≤ b) L L.length) : L.reverse = sortD zs := by
  refine sortD_is ?_ ((List.reverse_perm L).trans hp)
  rw [List.pairwise_reverse]
  exact inOrd_pair h
theorem rev_get (L : List Int) (m : Nat) (hm : m < L.length) : L.reverse[L.length - (m + 1)]?.getD 0 = L[m]?.getD 0 := by
  rw [List.getElem?_reverse (by omega), show L.length - 1 - (L.length - (m + 1)) = m by omega]

end Go.Proofs.Ytmggcfilkiklbaa
namespace Go.Proofs.Ytmggcfilkiklbaa
open Go.RowKit

def slLenF : Value → Nat
  | .slice _ l _ => l
  | _ => 0

/-- the call of l1Sorted as one step of a region that draws -/
theorem stepSorted {ops : Array Oper} {o : Oper} {a : Act} {w : World} {K : Act → World → Prop} {Q : Exit → Act → World → Prop} {E : Prop}
    (hg : o.guard = none) (x : Operand) (hop : o.op = Op.call { callee := Callee.value (Operand.func 42), args := #[x], argTypes := #[23] })
    (v : Value) (hx : a.eval x = v) {R : Ending → World → Prop} (hC : Calls Try.prog 42 #[v] w R) (hR : ∀ e w', R e w' → ∃ u, e = .returned u ∧ K (a.put o.dst u) w') :
    if Region.wanted o (yielded ops a.tmps) = true then Oper.wp Try.prog o a w K Q else E := by
  have hw : Region.wanted o (yielded ops a.tmps) = true := by simp [Region.wanted, hg]
  rw [if_pos hw]
  unfold Oper.wp
  have hm : (#[x] : Array Operand).map a.eval = #[v] := by simp [hx]
  simp only [execOp, hop, resolve, hm]
  go_simp
  refine Calls.mono (R := R) hC fun e w' h => ?_
  obtain ⟨u, rfl, hK⟩ := hR e w' h
  exact hK

end Go.Proofs.Ytmggcfilkiklbaa
