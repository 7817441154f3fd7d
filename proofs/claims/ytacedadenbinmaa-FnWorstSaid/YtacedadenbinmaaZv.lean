/- l5Worst and LoadWorst of the reference. Conditions: stated in each. -/
import Derived.Deep.RegionLaw
import Derived.Test.YtacedadenbinmaaZu
import Derived.Test.YtacedadenbinmaaZo
set_option linter.unusedVariables false
set_option linter.unusedSimpArgs false
set_option linter.unusedSectionVars false
namespace Go.Proofs.Ytacedadenbinmaa
open Go.RowKit

theorem one_new (W : World) (x : Int) : IntsAt (W.alloc (.cells #[.int .i64 x] 3)) (some ⟨W.heap.size, 0, none⟩) [x] := by
  refine .inr ⟨W.heap.size, 0, rfl, by simp, fun t ht => ?_⟩
  obtain rfl : t = 0 := by simp at ht; exact ht
  have h := heap_alloc_new W (.cells #[.int .i64 x] 3)
  simp only [World.cell?, h]
  rfl
theorem one_grown {W W' : World} {row : Option Nat} {b : Nat} {x : Int} (h : IntsAt W (some ⟨b, 0, none⟩) [x]) (hG : W.grownBy W' row) (hr : row ≠ some b) : IntsAt W' (some ⟨b, 0, none⟩) [x] := by
  obtain ⟨b', o', he, hb, hc⟩ := h.at (by simp)
  simp only [Option.some.injEq, Addr.mk.injEq, and_true] at he
  obtain ⟨rfl, rfl⟩ := he
  refine .inr ⟨b, 0, rfl, Nat.lt_of_lt_of_le hb hG.size, fun t ht => ?_⟩
  have h1 := hc t ht
  simp only [World.cell?] at h1 ⊢
  rw [hG.block b hb (fun e => hr e.symm)]
  exact h1
theorem own_grown {B : Nat} {w W W' : World} {v : Value} {base : Nat} {zs : List Int} (h : Below B w W) (hO : OwnI W base v zs) (hb : B ≤ base) (hG : W.grownBy W' v.ownBlock) (hBW : B ≤ W.heap.size) : Below B w W' :=
  h.grown hG hBW (fun k hk => Nat.le_trans hb (hO.lt k hk).1)

def SWPost (M : Nat) (b r : List Int) (w : World) (e : Ending) (w' : World) : Prop :=
  ∃ v, e = .returned (.int .i64 v) ∧ Sup (spL M) b r 0 v ∧ 0 ≤ v ∧ v ≤ 600 ∧ Below w.heap.size w w'

set_option maxRecDepth 100000 in
set_option maxHeartbeats 8000000 in
theorem l5Worst_any (M : Nat) (hM : 1 ≤ M ∧ M ≤ 5) : ∀ (n : Nat) (b r : List Int) (ad : Addr) (ar : Option Addr) (cb cr : Nat) (w : World), r.length = n → b.length + n ≤ 6 → good b → good r → r.length ≤ cr → IntsAt w (some ad) b → IntsAt w ar r →
    Calls Try.prog 53 #[.slice (some ad) b.length cb, .slice ar r.length cr, .int .i64 M] w (SWPost M b r w) := by
  intro n
  induction n with
  | zero =>
    intro b r ad ar cb cr w hr hl hgb hgr hcr hb hi
    obtain rfl := List.eq_nil_of_length_eq_zero hr
    have HL := Lib.hid (l5List_any (some ad) cb b M w (by omega) hgb hM hb)
    have hbd := spL_bd (m := M) hgb (by omega) hM.1
    have HS : Hid (Sup (spL M) b [] 0 (spL M b)) := by
      have := sup_nil (spL M) b 0
      rwa [show max 0 (spL M b) = spL M b by omega] at this
    have hsl : (lstS b (List.replicate M 0)).length = M := by rw [lstS_length, List.length_replicate]
    have HSL := Lib.hid hsl
    have HF : Hid (gre (lstS b (List.replicate M 0)) = spL M b) := rfl
    clear hb hi hgb hgr hsl hr
    go_enter Try.func53, Try.ntmps53
    go_wp2_with fail
    refine HL.out.mono ?_
    rintro e w1 ⟨v1, v2, ps, rfl, _, _, hO, hB⟩
    obtain ⟨g, cp, rfl, _, _, _⟩ := hO.at (by rw [HSL.out]; omega)
    have HMx := Lib.hid (l5Most_any (some ⟨g, 0, none⟩) cp _ w1 (by rw [HSL.out]; omega) hO.ints)
    rw [HF.out] at HMx
    clear hO
    go_wp2_with fail
    refine HMx.out.mono ?_
    rintro e w2 ⟨rfl, q, rfl⟩
    go_wp2_with fail
    go_ret
    exact ⟨_, rfl, HS.out, hbd.1, hbd.2, belowDr hB q⟩
  | succ n ih =>
    intro b r ad ar cb cr w hr hl hgb hgr hcr hb hi
    have HR := Lib.hid hr
    have hr1 : 1 ≤ r.length := by omega
    have hr6 : r.length ≤ 6 := by omega
    have hb6 : b.length ≤ 6 := by omega
    have HBL : Hid (b.length + r.length ≤ 6) := by show _ ≤ _; omega
    have HGB := Lib.hid hgb
    have HGR := Lib.hid hgr
    have HB0 := Lib.hid hb
    have HI0 := Lib.hid hi
    have HIH := Lib.hid ih
    have hne : ((r.length : Int) == 0) = false := by rw [beq_eq_false_iff_ne]; omega
    clear hr hl hgb hgr hb hi ih
    go_enter Try.func53, Try.ntmps53
    go_wp2_with fail
    go_loopw [9, 10] (fun v i wr => ∃ (k : Nat) (u : Int), k ≤ r.length ∧ i = .int .i64 k ∧ v = .int .i64 u ∧ SupK (spL M) b r k 0 u ∧ 0 ≤ u ∧ u ≤ 600 ∧ Below w.heap.size w wr) (fun _ i _ => r.length - (intOf i).toNat)
    case atStart => exact ⟨0, 0, Nat.zero_le _, rfl, rfl, supK_start _ _ _ _, by omega, by omega, Below.refl _ _⟩
    case round =>
      obtain ⟨k, u, hk, rfl, rfl, hS, hu0, hu1, hB⟩ := hrel
      have HS := Lib.hid hS
      clear hS
      by_cases hlt : k < r.length
      · have hIr := HI0.out.below hB
        obtain ⟨b1, o1, rfl, hb1, hc1⟩ := hIr.at (by omega)
        have hb1w : b1 < w.heap.size := by
          obtain ⟨b', off', e, hb', _⟩ := HI0.out.at (by omega)
          cases e
          omega
        have hx := hc1 k hlt
        have HX := Lib.hid (rfl : r[k]?.getD 0 = r[k]?.getD 0)
        obtain ⟨x, hxx⟩ : ∃ x, r[k]?.getD 0 = x := ⟨_, rfl⟩
        have hgx := good_get HGR.out k hlt
        have HXX := Lib.hid hxx
        rw [hxx] at hx hgx
        clear hxx HX
        have HL1 : Hid ((r.take k).length = k) := by show _ = _; rw [List.length_take]; omega
        have HL2 : Hid ((r.drop (k + 1)).length = r.length - (k + 1)) := by show _ = _; rw [List.length_drop]
        have HI1 : Hid (IntsAt wr (some ⟨b1, o1, none⟩) (r.take k)) := .inr ⟨b1, o1, rfl, hb1, fun t ht => by
          have := HL1.out
          rw [List.getElem?_take, if_pos (by omega)]
          exact hc1 t (by omega)⟩
        obtain ⟨A, hA, hI2⟩ : ∃ A, (if cr = k + 1 then some (⟨b1, o1, none⟩ : Addr) else some ⟨b1, o1 + (k + 1), none⟩) = some A ∧ IntsAt wr (some A) (r.drop (k + 1)) := by
          by_cases e : cr = k + 1
          · refine ⟨⟨b1, o1, none⟩, if_pos e, .inl (List.eq_nil_of_length_eq_zero ?_)⟩
            have := HL2.out; omega
          · refine ⟨⟨b1, o1 + (k + 1), none⟩, if_neg e, .inr ⟨b1, o1 + (k + 1), rfl, hb1, fun t ht => ?_⟩⟩
            rw [List.getElem?_drop, Nat.add_assoc]
            exact hc1 (k + 1 + t) (by have := HL2.out; omega)
        have HI2 := Lib.hid hI2
        have hBA := HB0.out.below hB
        have HBA := Lib.hid hBA
        have HIR := Lib.hid hIr
        have hk1 : k + 1 ≤ r.length := by omega
        have hkc : k ≤ cr := by omega
        have hz1 : (0 : Int) ≤ (k : Int) + 1 := by omega
        have hz2 : (k : Int) + 1 ≤ r.length := by omega
        have hkc1 : k + 1 ≤ cr := by omega
        have hw1 : IntKind.i64.wrap ((k : Int) + 1) = ((k + 1 : Nat) : Int) := IntWalk.i64_in _ (by omega)
        have hLz : (r.take k).length ≤ 1000000 := by rw [HL1.out]; omega
        have hLz3 : (r.drop (k + 1)).length ≤ 1000000 := by rw [HL2.out]; omega
        have OWN0 : Hid (∀ q, OwnI ((wr.drewN q).alloc (.cells #[] 3)) wr.heap.size (.slice (some ⟨wr.heap.size, 0, none⟩) 0 0) []) := fun q => World.ownsRow_lit (wr.drewN q) #[] 0 (Nat.le_refl _) (by unfold maxLen; omega) (by simp)
        have BEL0 : Hid (∀ q, Below wr.heap.size wr ((wr.drewN q).alloc (.cells #[] 3))) := fun q => (belowDr (Below.refl _ wr) q).alloc (Nat.le_refl _) _
        clear hI2 hc1 hIr hBA hx
        go_wp2_with fail
        go_region_law (first
          | (refine stepSl rfl (.tmp 29) (.tmp 32) rfl wr.heap.size (.slice (some ⟨wr.heap.size, 0, none⟩) 0 0) [] (r.take k) ⟨b1, o1, none⟩ k cr (by simp [Act.eval, Act.put]) (by simp [Act.eval, Act.put]) HL1.out (OWN0.out _) (by simp) hLz (HI1.out.below (BEL0.out _)) (BEL0.out _).size ?_; intro v1 W1 hO1 hG1 hat1; have hb1 : Below wr.heap.size wr W1 := own_grown (BEL0.out _) (OWN0.out _) (Nat.le_refl _) hG1 (BEL0.out _).size)
          | (refine stepSl rfl (.tmp 33) (.tmp 37) rfl wr.heap.size v1 (r.take k) (r.drop (k + 1)) A (r.length - (k + 1)) (cr - (k + 1)) (by simp [Act.eval, Act.put]) (by simp [Act.eval, Act.put]) HL2.out hO1 hLz hLz3 (HI2.out.below hb1) hb1.size ?_; intro v2 W2 hO2 hG2 hat2; have hb2 : Below wr.heap.size wr W2 := own_grown hb1 hO1 (Nat.le_refl _) hG2 hb1.size))
        obtain ⟨a2, c2, rfl, hIl, hcl⟩ := hO2.shape
        have HLS : Hid ((r.take k ++ r.drop (k + 1)).Perm (r.eraseIdx k)) := by show List.Perm _ _; rw [erase_eq]
        have hgl : good (r.take k ++ r.drop (k + 1)) := fun y hy => by
          rcases List.mem_append.1 hy with h | h
          · exact HGR.out y (List.mem_of_mem_take h)
          · exact HGR.out y (List.mem_of_mem_drop h)
        have hll : (r.take k ++ r.drop (k + 1)).length + 1 = r.length := by rw [List.length_append, HL1.out, HL2.out]; omega
        have hbw : Below w.heap.size w W2 := hB.trans (hb2.mono hB.size)
        have hx2 : W2.cell? ⟨b1, o1 + k, none⟩ = some (.int .i64 x) := by
          obtain ⟨b', o', e, _, hc⟩ := (HI0.out.below hbw).at (by omega)
          simp only [Option.some.injEq, Addr.mk.injEq, and_true] at e
          obtain ⟨rfl, rfl⟩ := e
          rw [hc k hlt, HXX.out]
        have hbb : b1 < W2.heap.size := by have := hbw.size; omega
        have hBA2 := HB0.out.below hbw
        clear hO1 hG1 hat1 hO2 hG2 hat2 hb1 hb2 OWN0 BEL0 HI1 HI2 HL1 HL2 HBA HIR hA hLz hLz3 hkc1 hw1 hz1 hz2 hkc
        generalize r.take k ++ r.drop (k + 1) = ls at *
        have HBW := Lib.hid hbw
        have HIL := Lib.hid hIl
        have HBA := Lib.hid hBA2
        have HGL := Lib.hid hgl
        have HLL := Lib.hid hll
        clear hbw hIl hBA2 hgl hll
        have hlz : b.length ≤ 1000000 := by omega
        have OWN0 : Hid (∀ q, OwnI ((W2.drewN q).alloc (.cells #[] 3)) W2.heap.size (.slice (some ⟨W2.heap.size, 0, none⟩) 0 0) []) := fun q => World.ownsRow_lit (W2.drewN q) #[] 0 (Nat.le_refl _) (by unfold maxLen; omega) (by simp)
        have BEL0 : Hid (∀ q, Below W2.heap.size W2 ((W2.drewN q).alloc (.cells #[] 3))) := fun q => (belowDr (Below.refl _ W2) q).alloc (Nat.le_refl _) _
        have OWNX : Hid (∀ q, OwnI (((W2.drewN q).alloc (.cells #[.int .i64 x] 3)).alloc (.cells #[] 3)) W2.heap.size (.slice (some ⟨W2.heap.size + 1, 0, none⟩) 0 0) []) := fun q => by
          have := World.ownsRow_lit (base := W2.heap.size) (e := 3) (size := 1) ((W2.drewN q).alloc (.cells #[.int .i64 x] 3)) #[] 0 (by simp) (by unfold maxLen; omega) (by simp)
          unfold OwnI
          simpa using this
        have BELX : Hid (∀ q, Below W2.heap.size W2 (((W2.drewN q).alloc (.cells #[.int .i64 x] 3)).alloc (.cells #[] 3))) := fun q => ((belowDr (Below.refl _ W2) q).alloc (Nat.le_refl _) _).alloc (by simp) _
        have HNX : Hid (∀ q, IntsAt (((W2.drewN q).alloc (.cells #[.int .i64 x] 3)).alloc (.cells #[] 3)) (some ⟨W2.heap.size, 0, none⟩) [x]) := fun q => (one_new (W2.drewN q) x).below ((Below.refl _ _).alloc (Nat.le_refl _) _)
        have hx0 : ∀ q, ((W2.drewN q).alloc (.cells #[] 3)).cell? ⟨b1, o1 + k, none⟩ = some (.int .i64 x) := fun q => ((BEL0.out q).cell (p := ⟨b1, o1 + k, none⟩) hbb).trans hx2
        have HN1 : Hid (∀ q, IntsAt (((W2.drewN q).alloc (.cells #[] 3)).alloc (.cells #[.int .i64 x] 3)) (some ⟨W2.heap.size + 1, 0, none⟩) [x]) := fun q => by have := one_new ((W2.drewN q).alloc (.cells #[] 3)) x; simpa using this
        have HCALL : Hid (∀ (a4 : Addr) (c4 : Nat) (W : World), Below W2.heap.size W2 W → IntsAt W (some a4) (b ++ [x]) → Calls Try.prog 53 #[.slice (some a4) (b.length + 1) c4, .slice a2 ls.length c2, .int .i64 M] W (SWPost M (b ++ [x]) ls W)) := fun a4 c4 W hW h4 => by
          have h := HIH.out (b ++ [x]) ls a4 a2 c4 c2 W (by have := HLL.out; have := HR.out; omega) (by have := HBL.out; have := HR.out; simp; omega) (fun y hy => by
            rcases List.mem_append.1 hy with h | h
            · exact HGB.out y h
            · rw [List.mem_singleton.1 h]; exact hgx) HGL.out hcl h4 (HIL.out.below hW)
          rwa [List.length_append, List.length_singleton] at h
        go_wp2_with fail
        go_region_law (first
          | (refine stepSl rfl (.tmp 40) (.tmp 41) rfl W2.heap.size (.slice (some ⟨W2.heap.size, 0, none⟩) 0 0) [] b ad b.length cb (by simp [Act.eval, Act.put]) (by simp [Act.eval, Act.put]) rfl (OWN0.out _) (by simp) hlz (HBA.out.below (BEL0.out _)) (BEL0.out _).size ?_; intro v1 W1 hO1 hG1 hat1; have hb1 : Below W2.heap.size W2 W1 := own_grown (BEL0.out _) (OWN0.out _) (Nat.le_refl _) hG1 (BEL0.out _).size; have hx1 : W1.cell? ⟨b1, o1 + k, none⟩ = some (.int .i64 x) := (hb1.cell (p := ⟨b1, o1 + k, none⟩) hbb).trans hx2)
          | (refine stepSl rfl (.tmp 42) (.tmp 47) rfl W2.heap.size v1 b [x] ⟨W1.heap.size, 0, none⟩ 1 1 (by simp [Act.eval, Act.put]) (by simp [Act.eval, Act.put]) rfl (hO1.alloc _) hlz (by simp) (one_new W1 x) (by have := hb1.size; simp; omega) ?_; intro v4 W4 hO4 hG4 hat4; have hb4 : Below W2.heap.size W2 W4 := own_grown (hb1.alloc hb1.size _) (hO1.alloc _) (Nat.le_refl _) hG4 (by have := hb1.size; simp; omega); obtain ⟨g4, c4, rfl, _, _, _⟩ := hO4.at (by simp))
          | (refine stepSl rfl (.tmp 40) (.tmp 41) rfl W2.heap.size (.slice (some ⟨W2.heap.size, 0, none⟩) 0 0) [] b ad b.length cb (by simp [Act.eval, Act.put]) (by simp [Act.eval, Act.put]) rfl ((OWN0.out _).alloc _) (by simp) hlz (HBA.out.below ((BEL0.out _).alloc (BEL0.out _).size _)) ((BEL0.out _).alloc (BEL0.out _).size _).size ?_; intro v1 W1 hO1 hG1 hat1; have hb1 : Below W2.heap.size W2 W1 := own_grown ((BEL0.out _).alloc (BEL0.out _).size _) ((OWN0.out _).alloc _) (Nat.le_refl _) hG1 ((BEL0.out _).alloc (BEL0.out _).size _).size; have hN : IntsAt W1 (some ⟨W2.heap.size + 1, 0, none⟩) [x] := one_grown (HN1.out _) hG1 (by simp [Value.ownBlock]))
          | (refine stepSl rfl (.tmp 42) (.tmp 47) rfl W2.heap.size v1 b [x] ⟨W2.heap.size + 1, 0, none⟩ 1 1 (by simp [Act.eval, Act.put]) (by simp [Act.eval, Act.put]) rfl hO1 hlz (by simp) hN hb1.size ?_; intro v4 W4 hO4 hG4 hat4; have hb4 : Below W2.heap.size W2 W4 := own_grown hb1 hO1 (Nat.le_refl _) hG4 hb1.size; obtain ⟨g4, c4, rfl, _, _, _⟩ := hO4.at (by simp))
          | (refine stepSl rfl (.tmp 40) (.tmp 41) rfl W2.heap.size (.slice (some ⟨W2.heap.size + 1, 0, none⟩) 0 0) [] b ad b.length cb (by simp [Act.eval, Act.put]) (by simp [Act.eval, Act.put]) rfl (OWNX.out _) (by simp) hlz (HBA.out.below (BELX.out _)) (BELX.out _).size ?_; intro v1 W1 hO1 hG1 hat1; have hb1 : Below W2.heap.size W2 W1 := own_grown (BELX.out _) (OWNX.out _) (Nat.le_refl _) hG1 (BELX.out _).size; have hN : IntsAt W1 (some ⟨W2.heap.size, 0, none⟩) [x] := one_grown (HNX.out _) hG1 (by simp [Value.ownBlock]))
          | (refine stepSl rfl (.tmp 42) (.tmp 47) rfl W2.heap.size v1 b [x] ⟨W2.heap.size, 0, none⟩ 1 1 (by simp [Act.eval, Act.put]) (by simp [Act.eval, Act.put]) rfl hO1 hlz (by simp) hN hb1.size ?_; intro v4 W4 hO4 hG4 hat4; have hb4 : Below W2.heap.size W2 W4 := own_grown hb1 hO1 (Nat.le_refl _) hG4 hb1.size; obtain ⟨g4, c4, rfl, _, _, _⟩ := hO4.at (by simp))
          | (go_simp; go_at_call 53; refine (HCALL.out _ _ _ hb4 hO4.ints).mono ?_; rintro e W5 ⟨u5, rfl, hS5, hu5, hv5, hB5⟩; simp only []))
        all_goals
          have HB6 := Lib.hid (HBW.out.trans ((hb4.trans (hB5.mono hb4.size)).mono HBW.out.size))
          have HK6 := Lib.hid (supK_hit HS.out hlt HXX.out HLS.out (sup_max hS5 hu0))
          have HM : Hid ((if u < u5 then u5 else u) = max u u5) := by show _ = _; split <;> omega
          have hmb : 0 ≤ max u u5 ∧ max u u5 ≤ 600 := by omega
          obtain ⟨m6, hm6⟩ : ∃ m, max u u5 = m := ⟨_, rfl⟩
          rw [hm6] at HK6 HM hmb
          rw [HM.out]
          clear hS5 hB5 hb4 hO4 hG4 hat4 hO1 hG1 hat1 hb1 OWN0 BEL0 OWNX BELX HNX HN1 hx0 hm6
          go_wp2
          go_roundw
          case rel => exact ⟨k + 1, m6, by omega, by go_num, rfl, HK6.out, hmb.1, hmb.2, HB6.out⟩
          case measure => simp [intOf]; omega
      · have HE := Lib.hid (supK_end HS.out (by omega) (fun h => by rw [h] at hr1; simp at hr1))
        go_wp2_with fail
        go_ret
        exact ⟨u, rfl, HE.out, hu0, hu1, hB⟩

set_option maxRecDepth 100000 in
set_option maxHeartbeats 3200000 in
theorem sLoadWorst_any (a : Option Addr) (cap : Nat) (zs : List Int) (m : Int) (w : World) (hl : zs.length ≤ 1000000) (hcap : zs.length ≤ cap) (hI : IntsAt w a zs) :
    Calls Try.prog 30 #[.slice a zs.length cap, .int .i64 m] w (WorstPost zs m w) := by
  have hb : wrB zs m = (toldL zs m && decide (zs.length ≤ 6)) := rfl
  by_cases hz : toldL zs m = true
  case neg =>
    have hz' : toldL zs m = false := by simpa using hz
    rw [hz'] at hb
    simp at hb
    unfold WorstPost
    rw [hb]
    have HZ := Lib.hid hz'
    clear hz hz' hb
    go_enter Try.func30, Try.ntmps30
    go_wp2_with (go_at_call 37; refine (l5Given_any a cap zs m _ (by omega) hI).mono ?_; rw [HZ.out]; rintro e w' ⟨rfl, rfl⟩)
    go_ret2
    exact ⟨0, rfl, Below.refl _ _, by simp, by simp⟩
  by_cases h6 : zs.length ≤ 6
  case neg =>
    have hb : wrB zs m = false := by simp [wrB, h6]
    unfold WorstPost
    rw [hb]
    have HZ := Lib.hid hz
    clear hz hb
    go_enter Try.func30, Try.ntmps30
    go_wp2_with (go_at_call 37; refine (l5Given_any a cap zs m _ (by omega) hI).mono ?_; rw [HZ.out]; rintro e w' ⟨rfl, rfl⟩)
    go_ret2
    exact ⟨0, rfl, Below.refl _ _, by simp, by simp⟩
  have hb : wrB zs m = true := by simp [wrB, h6, hz]
  obtain ⟨⟨h10, hg⟩, hm1, hm5⟩ := (toldL_iff zs m).1 hz
  obtain ⟨M, rfl⟩ := Int.eq_ofNat_of_zero_le (show 0 ≤ m by omega)
  unfold WorstPost
  rw [hb]
  have HZ := Lib.hid hz
  have HC := Lib.hid (l5Worst_any M (by omega) zs.length [] zs ⟨w.heap.size, 0, none⟩ a 0 cap (w.alloc (.cells #[] 3)) rfl (by simpa using h6) (fun x hx => by cases hx) hg hcap (.inl rfl) (hI.below ((Below.refl _ _).alloc (Nat.le_refl _) _)))
  clear hz hb
  go_enter Try.func30, Try.ntmps30
  go_wp2_with (go_at_call 37; refine (l5Given_any a cap zs M _ (by omega) hI).mono ?_; rw [HZ.out]; rintro e w' ⟨rfl, rfl⟩)
  refine HC.out.mono ?_
  rintro e w2 ⟨u, rfl, hS, hu0, hu1, hB⟩
  rw [World.size_alloc] at hB
  have HB := Lib.hid (((Below.refl w.heap.size w).alloc (Nat.le_refl _) (.cells #[] 3)).trans (hB.mono (by omega)))
  have HS := Lib.hid hS
  clear hS hB
  go_wp2_with fail
  go_ret2
  exact ⟨u, rfl, HB.out, fun _ => ⟨by rw [Int.toNat_natCast]; exact HS.out, hu0, hu1⟩, by simp⟩
end Go.Proofs.Ytacedadenbinmaa
