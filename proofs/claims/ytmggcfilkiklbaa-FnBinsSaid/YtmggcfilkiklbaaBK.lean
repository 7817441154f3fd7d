/- The reference's bins by a capital rule. Conditions: stated in each. -/
import Derived.Deep.RegionLaw
import Derived.Test.YtmggcfilkiklbaaBJ
namespace Go.Proofs.Ytmggcfilkiklbaa
open Go.RowKit

set_option maxRecDepth 100000 in
set_option maxHeartbeats 12800000 in
theorem l4By_cap (a : Option Addr) (cap : Nat) (zs : List Int) (r : Nat) (hr3 : r ≤ 3) (size : Int) (w : World) (hs : 1 ≤ size ∧ size ≤ 100) (hzl : zs.length ≤ 10) (hzg : good (sortD zs)) (hzs : ∀ x ∈ sortD zs, x ≤ size) (hI0 : IntsAt w a zs) :
    Calls Try.prog 22 #[.slice a zs.length cap, .int .i64 size, .int .u8 (codeN r - 32)] w (RowsPost w (byB r size (sortD zs))) := by
  have hq : codeN r - 32 < 97 ∧ 66 ≤ codeN r - 32 := by
    have : r = 0 ∨ r = 1 ∨ r = 2 ∨ r = 3 := by omega
    rcases this with rfl | rfl | rfl | rfl <;> decide
  have hF := find_any (r := r) (hr := hr3) (size := size) (hs := hs)
  obtain ⟨q, hqq⟩ : ∃ q, codeN r - 32 = q := ⟨_, rfl⟩
  rw [show codeN r = q + 97 - 65 by omega] at hF
  rw [hqq] at hq ⊢
  have HF := Lib.hid hF
  have HSL : Hid ((sortD zs).length = zs.length) := sortD_length zs
  have HXG := Lib.hid hzg
  have HXS := Lib.hid hzs
  obtain ⟨hq1, hq2⟩ := hq
  clear hzg hzs hF hqq
  go_enter Try.func22, Try.ntmps22
  go_wp2_with fail
  refine (l4Down_any a cap zs w (by omega) hI0).mono ?_
  rintro e w1 ⟨v1, rfl, hO1, hB1⟩
  have s1 := hB1.size
  have hxl : (sortD zs).length ≤ 10 := by have := HSL.out; omega
  generalize sortD zs = xs at *
  obtain ⟨a1, c1, rfl, hI1, _⟩ := hO1.shape
  have HI := Lib.hid hI1
  have HR0 := Lib.hid (RowsR.lit w1 w1.heap.size (Nat.le_refl _))
  clear hI1 hO1 hI0
  go_wp2
  go_loopw [7, 8] (fun v i wr => ∃ (k : Nat), k ≤ xs.length ∧ i = .int .i64 k ∧ RowsR wr w1.heap.size v (byB r size (xs.take k)) ∧ Below w1.heap.size w1 wr) (fun _ i _ => xs.length - (intOf i).toNat)
  case atStart => exact ⟨0, Nat.zero_le _, rfl, HR0.out, (Below.refl _ _).alloc (Nat.le_refl _) _⟩
  case round =>
    clear HR0
    obtain ⟨k, hk, rfl, hR, hB⟩ := hrel
    obtain ⟨av, cv, rfl, hRA⟩ := hR.shape
    by_cases hlt : k < xs.length
    · have sr := hB.size
      have hx60 : 1 ≤ xs[k]?.getD 0 ∧ xs[k]?.getD 0 ≤ 60 := by rw [List.getElem?_eq_getElem hlt]; exact HXG.out _ (List.getElem_mem hlt)
      obtain ⟨b, off, hab, hb, hcell⟩ := HI.out.at (by omega)
      have hx : wr.cell? ⟨b, off + k, none⟩ = some (.int .i64 (xs[k]?.getD 0)) := (hB.cell (p := ⟨b, off + k, none⟩) hb).trans (hcell k hlt)
      have hbw : b < wr.heap.size := by omega
      have hok := byB_ok (r := r) (size := size) (xs := xs.take k) (fun y hy => HXG.out y (List.mem_of_mem_take hy)) (fun y hy => HXS.out y (List.mem_of_mem_take hy))
      have hbl : (byB r size (xs.take k)).length ≤ 10 := by have := hok.2.2; rw [List.length_take] at this; omega
      have hbf : (byB r size (xs.take k)).flatten.length ≤ 10 := by rw [hok.2.1.length_eq, List.length_take]; omega
      have hro := rowsOk_of hok.1 hs hbl hbf
      have HST := Lib.hid (byB_take r size xs k hlt)
      have HNE : Hid (∀ b ∈ byB r size (xs.take k), b ≠ []) := fun b hb => (hok.1.each b hb).1
      subst hab
      generalize byB r size (xs.take k) = rows at hR hRA hbl hbf hro HST HNE
      generalize xs[k]?.getD 0 = x at hx hx60 HST
      have hC := HF.out av cv rows x wr hx60 hro hRA
      clear hcell hok
      obtain ⟨c, hc⟩ : ∃ c, chs r (rm size rows) x rows.length = c := ⟨_, rfl⟩
      rw [hc] at hC
      cases c with
      | none =>
        have HSB : Hid (byB r size (xs.take (k + 1)) = rows ++ [[x]]) := by show _ = _; rw [HST.out, stepB, hc]
        rw [idxV_none] at hC
        clear hc HST hro hRA
        have hR1 := hR.keptB ((Below.refl _ wr).alloc (Nat.le_refl _) (.cells #[.int .i64 x] 3))
        have hB1 := hB.alloc sr (.cells #[.int .i64 x] 3)
        have hO1 : OwnI (wr.alloc (.cells #[.int .i64 x] 3)) w1.heap.size (.slice (some ⟨wr.heap.size, 0, none⟩) 1 1) [x] := World.ownsRow_lit wr #[.int .i64 x] 1 sr (by unfold maxLen; omega) (by simp)
        have hne : ∀ g, (Value.slice av rows.length cv).ownBlock = some g → (Value.slice (some ⟨wr.heap.size, 0, none⟩) 1 1).ownBlock ≠ some g := fun g hg e => by
          have h1 := (hR.lt g hg).2
          have h2 : wr.heap.size = g := Option.some.inj e
          omega
        clear hR
        go_wp2_with fail
        refine hC.mono ?_
        rintro e w' ⟨rfl, rfl⟩
        clear hC
        go_wp2_with (at_builtin; refine appendRow (wr.alloc (.cells #[.int .i64 x] 3)) (wr.heap.size + 1) (by simp) rfl _ _ rfl w1.heap.size (.slice av rows.length cv) rows (.slice (some ⟨wr.heap.size, 0, none⟩) 1 1) [x] rfl rfl hR1 hO1 hne (by omega) hB1.size ?_; intro v' w' hR' hG' hat)
        go_roundw
        case rel => exact ⟨k + 1, by omega, by go_num, by rw [HSB.out]; exact hR', hB1.grown hG' hB1.size (fun j hj => (hR1.lt j hj).1)⟩
        case measure => simp [intOf]; omega
      | some j =>
        have hj := (chs_some hc).1
        have HSB : Hid (byB r size (xs.take (k + 1)) = rows.set j (rows[j]?.getD [] ++ [x])) := HST.out.trans (stepB_some hc)
        rw [idxV_some] at hC
        obtain ⟨g, rfl, hg, hrow⟩ := hRA.at (by omega)
        obtain ⟨adj, cj, hy, hIj⟩ := hrow j hj
        have hzn : 0 < (rows[j]?.getD []).length := by
          have h1 := HNE.out (rows[j]?.getD []) (by rw [List.getElem?_eq_getElem hj]; exact List.getElem_mem _)
          exact List.length_pos_iff.2 h1
        have hzl := (hro.2 j).2.1
        have hfz := hR.cells j
        obtain ⟨bj, oj, rfl, _, _⟩ := hIj.at hzn
        generalize hzk : rows[j]?.getD [] = zk at hy hIj HSB hzn hzl
        generalize hlk : zk.length = lk at hy hzn hzl
        have HLK := Lib.hid hlk
        have HIJ := Lib.hid hIj
        have hLz : ([] : List Int).length ≤ 1000000 := by simp
        have hLz1 : zk.length ≤ 1000000 := by omega
        have HR := Lib.hid hR
        clear hc HST hro hRA hrow hzk hlk hIj HNE hR
        go_wp2_with fail
        refine hC.mono ?_
        rintro e w' ⟨rfl, rfl⟩
        clear hC
        go_wp2_with fail
        have own0 : ∀ q, OwnI ((wr.drewN q).alloc (.cells #[] 3)) wr.heap.size (.slice (some ⟨wr.heap.size, 0, none⟩) 0 0) [] := fun q => World.ownsRow_lit (wr.drewN q) #[] 0 (Nat.le_refl _) (by unfold maxLen; omega) (by simp)
        have bel0 : ∀ q, Below wr.heap.size wr ((wr.drewN q).alloc (.cells #[] 3)) := fun q => (belowDr (Below.refl _ wr) q).alloc (Nat.le_refl _) _
        have OWN0 := Lib.hid own0
        have BEL0 := Lib.hid bel0
        clear own0 bel0
        have OWNX : Hid (∀ q, OwnI (((wr.drewN q).alloc (.cells #[.int .i64 x] 3)).alloc (.cells #[] 3)) wr.heap.size (.slice (some ⟨wr.heap.size + 1, 0, none⟩) 0 0) []) := fun q => by
          have := World.ownsRow_lit (base := wr.heap.size) (e := 3) (size := 1) ((wr.drewN q).alloc (.cells #[.int .i64 x] 3)) #[] 0 (by simp) (by unfold maxLen; omega) (by simp)
          unfold OwnI
          simpa using this
        have BELX : Hid (∀ q, Below wr.heap.size wr (((wr.drewN q).alloc (.cells #[.int .i64 x] 3)).alloc (.cells #[] 3))) := fun q => ((belowDr (Below.refl _ wr) q).alloc (Nat.le_refl _) _).alloc (by simp) _
        have HNX : Hid (∀ q, IntsAt (((wr.drewN q).alloc (.cells #[.int .i64 x] 3)).alloc (.cells #[] 3)) (some ⟨wr.heap.size, 0, none⟩) [x]) := fun q => (ints_new1 (wr.drewN q) x).below ((Below.refl _ _).alloc (Nat.le_refl _) _)
        have hx0 : ∀ q, ((wr.drewN q).alloc (.cells #[] 3)).cell? ⟨b, off + k, none⟩ = some (.int .i64 x) := fun q => ((BEL0.out q).cell (p := ⟨b, off + k, none⟩) hbw).trans hx
        have hy0 : ∀ q, ((wr.drewN q).alloc (.cells #[] 3)).cell? ⟨g, j, none⟩ = some (.slice (some ⟨bj, oj, none⟩) lk cj) := fun q => ((BEL0.out q).cell (p := ⟨g, j, none⟩) hg).trans hy
        have hyx : ∀ q, ((wr.drewN q).alloc (.cells #[.int .i64 x] 3)).cell? ⟨g, j, none⟩ = some (.slice (some ⟨bj, oj, none⟩) lk cj) := fun q => (((belowDr (Below.refl _ wr) q).alloc (Nat.le_refl _) _).cell (p := ⟨g, j, none⟩) hg).trans hy
        have hyn : ∀ q, (((wr.drewN q).alloc (.cells #[] 3)).alloc (.cells #[.int .i64 x] 3)).cell? ⟨g, j, none⟩ = some (.slice (some ⟨bj, oj, none⟩) lk cj) := fun q => ((((belowDr (Below.refl _ wr) q).alloc (Nat.le_refl _) _).alloc (by simp) _).cell (p := ⟨g, j, none⟩) hg).trans hy
        have hym : ∀ q, (((wr.drewN q).alloc (.cells #[.int .i64 x] 3)).alloc (.cells #[] 3)).cell? ⟨g, j, none⟩ = some (.slice (some ⟨bj, oj, none⟩) lk cj) := fun q => ((BELX.out q).cell (p := ⟨g, j, none⟩) hg).trans hy
        have HN1 : Hid (∀ q, IntsAt (((wr.drewN q).alloc (.cells #[] 3)).alloc (.cells #[.int .i64 x] 3)) (some ⟨wr.heap.size + 1, 0, none⟩) [x]) := fun q => by have := ints_new1 ((wr.drewN q).alloc (.cells #[] 3)) x; simpa using this
        go_region_law (first
          | (refine stepSl rfl (.tmp 44) (.tmp 48) rfl wr.heap.size (.slice (some ⟨wr.heap.size, 0, none⟩) 0 0) [] zk ⟨bj, oj, none⟩ lk cj (by simp [Act.eval, Act.put]) (by simp [Act.eval, Act.put]) HLK.out (OWN0.out _) (by simp) hLz1 (HIJ.out.below (BEL0.out _)) (BEL0.out _).size ?_; intro v1 W1 hO1 hG1 hat1; have hb1 : Below wr.heap.size wr W1 := below_grown (BEL0.out _) (OWN0.out _) (Nat.le_refl _) hG1 (BEL0.out _).size; have hx1 : W1.cell? ⟨b, off + k, none⟩ = some (.int .i64 x) := (hb1.cell (p := ⟨b, off + k, none⟩) hbw).trans hx; have hy1 : W1.cell? ⟨g, j, none⟩ = some (.slice (some ⟨bj, oj, none⟩) lk cj) := (hb1.cell (p := ⟨g, j, none⟩) hg).trans hy)
          | (refine stepSl rfl (.tmp 49) (.tmp 54) rfl wr.heap.size v1 zk [x] ⟨W1.heap.size, 0, none⟩ 1 1 (by simp [Act.eval, Act.put]) (by simp [Act.eval, Act.put]) rfl (hO1.alloc _) hLz1 (by simp) (ints_new1 W1 x) (by have := hb1.size; simp; omega) ?_; intro v2 W2 hO2 hG2 hat2; have hb2 : Below wr.heap.size wr W2 := below_grown (hb1.alloc hb1.size _) (hO1.alloc _) (Nat.le_refl _) hG2 (by have := hb1.size; simp; omega); obtain ⟨a2, c2, hv2, _, _⟩ := hO2.shape; generalize hnn : List.length _ = n2 at hv2; clear hnn; subst hv2; have hs1 : W2.cell? ⟨g, j, none⟩ = some (.slice (some ⟨bj, oj, none⟩) lk cj) := (hb2.cell (p := ⟨g, j, none⟩) hg).trans hy; have hs2 : W2.frozen? ⟨g, j, none⟩ = false := (frozen_below hb2 hg).trans hfz)
          | (refine stepSl rfl (.tmp 44) (.tmp 48) rfl wr.heap.size (.slice (some ⟨wr.heap.size, 0, none⟩) 0 0) [] zk ⟨bj, oj, none⟩ lk cj (by simp [Act.eval, Act.put]) (by simp [Act.eval, Act.put]) HLK.out ((OWN0.out _).alloc _) (by simp) hLz1 (HIJ.out.below ((BEL0.out _).alloc (BEL0.out _).size _)) ((BEL0.out _).alloc (BEL0.out _).size _).size ?_; intro v1 W1 hO1 hG1 hat1; have hb1 : Below wr.heap.size wr W1 := below_grown ((BEL0.out _).alloc (BEL0.out _).size _) ((OWN0.out _).alloc _) (Nat.le_refl _) hG1 ((BEL0.out _).alloc (BEL0.out _).size _).size; have hN : IntsAt W1 (some ⟨wr.heap.size + 1, 0, none⟩) [x] := ints_grown (HN1.out _) hG1 (by simp [Value.ownBlock]))
          | (refine stepSl rfl (.tmp 49) (.tmp 54) rfl wr.heap.size v1 zk [x] ⟨wr.heap.size + 1, 0, none⟩ 1 1 (by simp [Act.eval, Act.put]) (by simp [Act.eval, Act.put]) rfl hO1 hLz1 (by simp) hN hb1.size ?_; intro v2 W2 hO2 hG2 hat2; have hb2 : Below wr.heap.size wr W2 := below_grown hb1 hO1 (Nat.le_refl _) hG2 hb1.size; obtain ⟨a2, c2, hv2, _, _⟩ := hO2.shape; generalize hnn : List.length _ = n2 at hv2; clear hnn; subst hv2; have hs1 : W2.cell? ⟨g, j, none⟩ = some (.slice (some ⟨bj, oj, none⟩) lk cj) := (hb2.cell (p := ⟨g, j, none⟩) hg).trans hy; have hs2 : W2.frozen? ⟨g, j, none⟩ = false := (frozen_below hb2 hg).trans hfz)
          | (refine stepSl rfl (.tmp 44) (.tmp 48) rfl wr.heap.size (.slice (some ⟨wr.heap.size + 1, 0, none⟩) 0 0) [] zk ⟨bj, oj, none⟩ lk cj (by simp [Act.eval, Act.put]) (by simp [Act.eval, Act.put]) HLK.out (OWNX.out _) (by simp) hLz1 (HIJ.out.below (BELX.out _)) (BELX.out _).size ?_; intro v1 W1 hO1 hG1 hat1; have hb1 : Below wr.heap.size wr W1 := below_grown (BELX.out _) (OWNX.out _) (Nat.le_refl _) hG1 (BELX.out _).size; have hN : IntsAt W1 (some ⟨wr.heap.size, 0, none⟩) [x] := ints_grown (HNX.out _) hG1 (by simp [Value.ownBlock]))
          | (refine stepSl rfl (.tmp 49) (.tmp 54) rfl wr.heap.size v1 zk [x] ⟨wr.heap.size, 0, none⟩ 1 1 (by simp [Act.eval, Act.put]) (by simp [Act.eval, Act.put]) rfl hO1 hLz1 (by simp) hN hb1.size ?_; intro v2 W2 hO2 hG2 hat2; have hb2 : Below wr.heap.size wr W2 := below_grown hb1 hO1 (Nat.le_refl _) hG2 hb1.size; obtain ⟨a2, c2, hv2, _, _⟩ := hO2.shape; generalize hnn : List.length _ = n2 at hv2; clear hnn; subst hv2; have hs1 : W2.cell? ⟨g, j, none⟩ = some (.slice (some ⟨bj, oj, none⟩) lk cj) := (hb2.cell (p := ⟨g, j, none⟩) hg).trans hy; have hs2 : W2.frozen? ⟨g, j, none⟩ = false := (frozen_below hb2 hg).trans hfz))
        all_goals
          have hRp := HR.out.put hb2 hj (hO2.mono sr) (fun e => by have := (hO2.lt g e).1; omega)
          have hB2 := hB.trans (hb2.mono sr)
          have hge := (HR.out.lt g rfl).1
          clear hat1 hat2 hG1 hG2
          go_wp2
          go_roundw
          case rel => exact ⟨k + 1, by omega, by go_num, by rw [HSB.out]; exact hRp, hB2.setCell (p := ⟨g, j, none⟩) hge _⟩
          case measure => simp [intOf]; omega
    · obtain rfl : k = xs.length := by omega
      have hE : xs.take xs.length = xs := List.take_length
      rw [hE] at hR ⊢
      have hR9 := Lib.hid (hR.mono s1)
      have hB9 := hB1.trans (hB.mono s1)
      clear hR hRA
      go_wp2
      go_ret
      exact ⟨_, rfl, hR9.out, hB9⟩
end Go.Proofs.Ytmggcfilkiklbaa
