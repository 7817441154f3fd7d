/- SumChoices of the program. Conditions: the list is short enough to be counted. -/
import Derived.Test.YtdpapalfafjncaaGreatDoorW16
namespace Go.Proofs.YtdpapalfafjncaaGreatDoor
open Go.RowKit Go.Shelf
attribute [local go_sem] Oper.semAt_some

theorem append1In {F : Fence} {fu : Nat} (w : World) {ops : Array Oper} {rest : List Oper} {o : Oper} {a : Act} {Q : Exit → Act → World → Prop} (hgd : o.guard = none) (s x : Operand)
    (ho : o.op = .call { callee := .builtin .append, args := #[s, x], argTypes := #[23, 23] }) (base : Nat) (v : Value) (zs : List Int) (z : Int)
    (hs : a.eval s = v) (hx : a.eval x = .slice (some ⟨w.heap.size, 0, none⟩) 1 1) (hown : OwnI w base v zs) (hl : zs.length ≤ 1000000) (hbase : base ≤ w.heap.size)
    (h : ∀ v' w', OwnI w' base v' (zs ++ [z]) → w.grownBy w' v.ownBlock → wpListIn F fu Tryz.prog ops Q rest (a.put o.dst v') w') :
    wpListIn F fu Tryz.prog ops Q (o :: rest) a (w.alloc (.cells #[.int .i64 z] 3)) := by
  obtain ⟨i0, hi, hz0, hz1, hz2⟩ := info_parts Tryz.infoInt
  have hown' := World.ownsRow.alloc hown (.cells #[.int .i64 z] 3)
  refine wpListIn_append_own _ hgd s x 23 ho base 3 i0 (.int .i64 0) 1 8 Tryz.underlying23 hi hz0 hz1 hz2 rfl (by decide) v zs.length _ hs hown' ⟨w.heap.size, 0, none⟩ 1 1 [.int .i64 z] hx rfl (cell_one_new' _ _ _) (by simp [Value.oneCell']) (by unfold maxLen; omega) (by omega) (by simp; omega) ?_
  intro v' w' h1 h2 _
  refine h v' w' ?_ ((World.grownBy_alloc w _ _).trans' h2)
  unfold OwnI
  simpa using h1

/-- the choices so far with the sum T -/
def foundL (zs : List Int) (T : Int) (l : List Nat) : List Int := (l.filter (fun c => csum zs c == T)).map (fun c : Nat => (c : Int))
theorem foundL_yes {zs : List Int} {T : Int} {l : List Nat} {c : Nat} (h : csum zs c = T) : foundL zs T (l ++ [c]) = foundL zs T l ++ [(c : Int)] := by simp [foundL, List.filter_append, h]
theorem foundL_no {zs : List Int} {T : Int} {l : List Nat} {c : Nat} (h : ¬ csum zs c = T) : foundL zs T (l ++ [c]) = foundL zs T l := by simp [foundL, List.filter_append, h]
theorem foundL_length (zs : List Int) (T : Int) (l : List Nat) : (foundL zs T l).length ≤ l.length := by
  unfold foundL; rw [List.length_map]; exact List.length_filter_le _ _

/-- a growing list in a box -/
def FndI (N : Nat) (zs : List Int) (T : Int) (B bq bS bc : Nat) (vc : Value) (w : World) (pre : List (Fin N)) (W : World) : Prop :=
  (∃ v, OwnI W (B + 1) v (foundL zs T (pre.map Fin.val)) ∧ BoxL W [(bq, 3, .int .i64 T), (bS, 23, v), (bc, 23, vc)]) ∧ Below B w W
theorem fndI_own {N : Nat} {zs : List Int} {T : Int} {B bq bS bc n : Nat} {vc : Value} {w : World} (h1 : B ≤ w.heap.size) (h2 : B ≤ n) : OwnFrom n (FndI N zs T B bq bS bc vc w) :=
  OwnFrom.and (fun s X Y row hs hg hr => by
    obtain ⟨v, e1, e4⟩ := hs
    exact ⟨v, ownI_own (B + 1) v (fun (_ : Unit) => _) () X Y row e1 hg (fun r e => (hr r e).2), boxL_own (fun (_ : Unit) => _) () X Y row e4 hg (fun r e => (hr r e).2)⟩) (ownFrom_below h1 h2)
theorem own_ne_box {W : World} {base b : Nat} {v x : Value} {zs : List Int} (h : OwnI W base v zs) (hb : Boxed W b 23 x) : some b ≠ v.ownBlock := by
  intro e
  rcases h.2 with ⟨rfl, _⟩ | ⟨g', cap, cur, rfl, _, hg', _⟩
  · simp [Value.ownBlock] at e
  · simp [Value.ownBlock] at e
    subst e
    have hb' : W.heap[b]? = some (.cells #[x] 23) := hb
    rw [hb'] at hg'
    cases hg'
theorem own_cells {W : World} {base : Nat} {v : Value} {zs : List Int} (h : OwnI W base v zs) : ∀ (j : Nat) (o : Obj), v.ownBlock = some j → W.heap[j]? = some o → o.isCells = true := by
  intro j o hj ho
  rcases h.2 with ⟨rfl, _⟩ | ⟨g', cap, cur, rfl, _, hg', _⟩
  · simp [Value.ownBlock] at hj
  · simp [Value.ownBlock] at hj
    subst hj
    rw [ho] at hg'
    cases hg'; rfl

set_option maxRecDepth 100000 in
set_option maxHeartbeats 2000000 in
theorem SumChoices_in (n : Nat) (hn : 1 ≤ n) (a : Option Addr) (cap : Nat) (zs : List Int) (T : Int) (hz : inL zs = true) (w : World) (hI : IntsAt w a zs) :
    CallsIn Fence.wide n Tryz.prog 110 #[.slice a zs.length cap, .int .i64 T] w (ListR w true (foundL zs T (List.range (2 ^ zs.length)))) := by
  have hz' := (inL_iff zs).1 hz
  have HZ := Lib.hid hz
  clear hz
  have hw1 : ∀ o, IntsAt (w.alloc o) a zs := fun o => hI.below ((Below.refl _ _).alloc (Nat.le_refl _) _)
  refine callsIn_of_wp_marks Tryz.func110 rfl trivial ?_ rfl
  simp only [Tryz.ntmps110, List.size_toArray, List.length_cons, List.length_nil, Nat.reduceAdd, Nat.reduceSub, Array.replicate_succ, Array.replicate_zero, List.push_toArray, List.append_toArray, List.nil_append, List.cons_append]
  gi_wp2_with (first | (refine ⟨trivial, ?_⟩; gi_at_call 16; refine (callsIn_wide.2 (SumIn_any a cap zs _ (by omega) (hw1 _))).mono ?_; rw [HZ.out]; rintro e w' ⟨rfl, rfl⟩) | (refine ⟨trivial, ?_⟩; gi_at_call 137; refine (choiceSums_in _ _ _ _ _).mono ?_; rintro e w' ⟨rfl, rfl⟩))
  have b1 := Boxed.new w 3 (.int .i64 T)
  have b2 := Boxed.new ((w.alloc (.cells #[.int .i64 T] 3)).alloc (.cells #[] 3)) 23 (.slice (some ⟨w.heap.size + 1, 0, none⟩) 0 0)
  have b3 := Boxed.new (((w.alloc (.cells #[.int .i64 T] 3)).alloc (.cells #[] 3)).alloc (.cells #[.slice (some ⟨w.heap.size + 1, 0, none⟩) 0 0] 23)) 23 (.slice a zs.length cap)
  have hO0 : OwnI ((w.alloc (.cells #[.int .i64 T] 3)).alloc (.cells #[] 3)) (w.heap.size + 1) (.slice (some ⟨w.heap.size + 1, 0, none⟩) 0 0) [] := by
    have := World.ownsRow_lit (base := w.heap.size + 1) (e := 3) (size := 1) (w.alloc (.cells #[.int .i64 T] 3)) #[] 0 (by simp) (by unfold maxLen; omega) (by simp)
    rw [World.size_alloc] at this
    exact this
  have hB0 : Below w.heap.size w ((((w.alloc (.cells #[.int .i64 T] 3)).alloc (.cells #[] 3)).alloc (.cells #[.slice (some ⟨w.heap.size + 1, 0, none⟩) 0 0] 23)).alloc (.cells #[.slice a zs.length cap] 23)) :=
    ((((Below.refl _ w).alloc (Nat.le_refl _) _).alloc (by simp) _).alloc (by simp; omega) _).alloc (by simp; omega) _
  simp only [World.size_alloc] at b2 b3
  have hbx : BoxL ((((w.alloc (.cells #[.int .i64 T] 3)).alloc (.cells #[] 3)).alloc (.cells #[.slice (some ⟨w.heap.size + 1, 0, none⟩) 0 0] 23)).alloc (.cells #[.slice a zs.length cap] 23)) [(w.heap.size, 3, .int .i64 T), (w.heap.size + 1 + 1, 23, .slice (some ⟨w.heap.size + 1, 0, none⟩) 0 0), (w.heap.size + 1 + 1 + 1, 23, .slice a zs.length cap)] :=
    ⟨((b1.alloc _).alloc _).alloc _, b2.alloc _, b3, trivial⟩
  have hOO : OwnI ((((w.alloc (.cells #[.int .i64 T] 3)).alloc (.cells #[] 3)).alloc (.cells #[.slice (some ⟨w.heap.size + 1, 0, none⟩) 0 0] 23)).alloc (.cells #[.slice a zs.length cap] 23)) (w.heap.size + 1) (.slice (some ⟨w.heap.size + 1, 0, none⟩) 0 0) (foundL zs T (([] : List (Fin (2 ^ zs.length))).map Fin.val)) := OwnI.alloc (OwnI.alloc hO0 _) _
  have hIW : ∀ W', Below w.heap.size ((((w.alloc (.cells #[.int .i64 T] 3)).alloc (.cells #[] 3)).alloc (.cells #[.slice (some ⟨w.heap.size + 1, 0, none⟩) 0 0] 23)).alloc (.cells #[.slice a zs.length cap] 23)) W' → IntsAt W' a zs := fun W' h => hI.below (hB0.trans h)
  have hsz : ((((w.alloc (.cells #[.int .i64 T] 3)).alloc (.cells #[] 3)).alloc (.cells #[.slice (some ⟨w.heap.size + 1, 0, none⟩) 0 0] 23)).alloc (.cells #[.slice a zs.length cap] 23)).heap.size = w.heap.size + 1 + 1 + 1 + 1 := by simp
  clear b1 b2 hw1 hO0
  generalize ((((w.alloc (.cells #[.int .i64 T] 3)).alloc (.cells #[] 3)).alloc (.cells #[.slice (some ⟨w.heap.size + 1, 0, none⟩) 0 0] 23)).alloc (.cells #[.slice a zs.length cap] 23)) = W0 at *
  refine wpIn_rangeFunc_ownG rfl hn (gf := 163) (lb := #[.pointer (some ⟨w.heap.size + 1 + 1 + 1, 0, none⟩)]) rfl trivial (enters_of Tryz.func163 (by kernel_rfl) rfl)
    (cs_stops (n - 1) (w.heap.size + 1 + 1 + 1) w.heap.size a cap zs (by omega) hz'.2 W0 (by omega) (by omega) b3.cell hIW) KpC.trans (KpC.put (by omega) (by omega)) (Below.refl _ _) (fun _ => rfl)
    (FndI (2 ^ zs.length) zs T w.heap.size w.heap.size (w.heap.size + 1 + 1) (w.heap.size + 1 + 1 + 1) (.slice a zs.length cap) w)
    (fun _ _ _ => False)
    (fndI_own (Nat.le_refl _) (by omega)) (fun _ _ _ _ _ hs _ _ => hs) ⟨⟨_, hOO, hbx⟩, hB0⟩ ?a1 ?assign ?body ?done ?stop
  case assign =>
    intro l x W K hK
    gi_wp2
    exact hK
  case body =>
    rintro l pre ⟨c, hcN⟩ W ⟨⟨v, hO, hb1, hb2, hb3, _⟩, hB⟩ hlen
    have hb1 : Boxed W w.heap.size 3 (.int .i64 T) := hb1
    have hb2 : Boxed W (w.heap.size + 1 + 1) 23 v := hb2
    have hb3 : Boxed W (w.heap.size + 1 + 1 + 1) 23 (.slice a zs.length cap) := hb3
    have c1 := hb1.cell
    have c2 := hb2.cell
    have f2 := hb2.frozen
    have n2 := own_ne_box hO hb2
    have n3 := own_ne_box hO hb3
    have hs := csum_bd hz'.2 c
    have hpl : pre.length ≤ 1000000 := by have := pow_bd10 zs.length (by omega); have h2 : ((2 ^ zs.length : Nat) : Int) = 2 ^ zs.length := by simp
                                          omega
    have hfl : (foundL zs T (pre.map Fin.val)).length ≤ 1000000 := Nat.le_trans (foundL_length _ _ _) (by rw [List.length_map]; exact hpl)
    have hWs : w.heap.size + 1 + 1 + 1 < W.heap.size := (Array.getElem?_eq_some_iff.1 hb3).1
    have HY : Hid (csum zs c = T → foundL zs T ((pre ++ [(⟨c, hcN⟩ : Fin (2 ^ zs.length))]).map Fin.val) = foundL zs T (pre.map Fin.val) ++ [(c : Int)]) := fun h => by rw [List.map_append, List.map_cons, List.map_nil]; exact foundL_yes h
    have HN : Hid (¬ csum zs c = T → foundL zs T ((pre ++ [(⟨c, hcN⟩ : Fin (2 ^ zs.length))]).map Fin.val) = foundL zs T (pre.map Fin.val)) := fun h => by rw [List.map_append, List.map_cons, List.map_nil]; exact foundL_no h
    clear hlen
    dsimp only
    by_cases hm : csum zs c = T
    · have hd : (csum zs c == T) = true := by simpa using hm
      have HE := Lib.hid (HY.out hm)
      clear hm HY HN
      gi_wp2_with (gi_at_builtin; refine append1In W rfl _ _ rfl (w.heap.size + 1) v _ (c : Int) rfl rfl hO hfl (by omega) ?_; intro v' w' hO' hG'; obtain ⟨a', c', rfl, _, _⟩ := hO'.shape; have hb1' := hb1.kept hG' (fun e => by have := (hO.lt _ e.symm).1; omega); have hb2' := hb2.kept hG' n2; have hb3' := hb3.kept hG' n3; have c2' := hb2'.cell; have f2' := hb2'.frozen; clear c1 c2 f2)
      have hgs := hG'.size
      have n2' := own_ne_box hO' hb2'
      refine ⟨((KeepsOthers.of_grownBy hG' (own_cells hO)).trans (KeepsOthers.setCell _ _ _)).from _, ⟨((Below.refl _ _).grown hG' (by omega) (fun r hr => by have := (hO.lt r hr).1; omega)).setCell (p := ⟨_, _, none⟩) (by simp; omega) _, ?_⟩, ⟨_, ?_, hb1'.other (by omega) _, hb2'.set _, hb3'.other (by omega) _, trivial⟩, (hB.grown hG' (by omega) (fun r hr => by have := (hO.lt r hr).1; omega)).setCell (p := ⟨_, _, none⟩) (by simp; omega) _⟩
      · rw [World.cell?_setCell_other _ _ _ _ (by simp), hb3'.cell, hb3.cell]
      · rw [HE.out]
        have h5 := fun x => hO'.kept (grownBy_set w' (w.heap.size + 1 + 1) 0 x) (.inr n2'.symm)
        rw [List.length_append, List.length_singleton] at h5
        exact h5 _
    · have hd : (csum zs c == T) = false := by simpa using hm
      have HE := Lib.hid (HN.out hm)
      clear hm HY HN
      gi_wp2
      refine ⟨KeepsFrom.refl _ _, KpC.refl _ _ _, ⟨v, by rw [HE.out]; exact hO, hb1, hb2, hb3, trivial⟩, hB⟩
  case done =>
    rintro D ys W hD rfl ⟨⟨v, hO, hb1, hb2, hb3, _⟩, hB⟩ hK
    have hb2 : Boxed W (w.heap.size + 1 + 1) 23 v := hb2
    have c2 := hb2.cell
    rw [upto_vals] at hO
    gi_wp2
    refine ⟨by simp, .inl ⟨_, _, rfl, run_takeDeferred hK, ?_⟩⟩
    refine ⟨_, results_tmp2 rfl _ _ _, _, rfl, ?_, below_put hB (by omega) hK⟩
    have h1 : OwnI (W.putObj D (.deferred none)) (w.heap.size + 1) v (foundL zs T (List.range (2 ^ zs.length))) := ownsRow_putObj hO _ hK rfl
    exact h1.mono (Nat.le_succ _)
  case stop =>
    rintro D c pre W hD _ h _
    exact h.elim

theorem SumChoices_told (a : Option Addr) (cap : Nat) (zs : List Int) (T : Int) (hz : inL zs = true) (w : World) (hI : IntsAt w a zs) :
    Calls Tryz.prog 110 #[.slice a zs.length cap, .int .i64 T] w (ListR w true (foundL zs T (List.range (2 ^ zs.length)))) :=
  (callsIn_wide (n := 10)).1 (SumChoices_in 10 (by omega) a cap zs T hz w hI)
theorem foundL_count (zs : List Int) (T : Int) (l : List Nat) : (foundL zs T l).length = l.countP (fun c => csum zs c == T) := by
  unfold foundL; rw [List.length_map, List.countP_eq_length_filter]
theorem halfC_list {zs : List Int} (hz : inL zs = true) (h : tot zs % 2 = 0) : ((foundL zs (tot zs / 2) (List.range (2 ^ zs.length))).length : Int) = halfC zs := by
  rw [foundL_count, countP_range, halfC, if_pos hz]
  congr 1
  apply cntN_congr
  intro c _
  rw [Bool.eq_iff_iff]
  simp only [halfP, beq_iff_eq]
  omega
theorem halfC_bd {zs : List Int} (hl : zs.length ≤ 10) : 0 ≤ halfC zs ∧ halfC zs ≤ 1024 := by
  unfold halfC
  split
  · have h1 := cntN_le (halfP zs) (2 ^ zs.length)
    have h2 : 2 ^ zs.length ≤ 2 ^ 10 := Nat.pow_le_pow_right (by omega) hl
    omega
  · omega
end Go.Proofs.YtdpapalfafjncaaGreatDoor
