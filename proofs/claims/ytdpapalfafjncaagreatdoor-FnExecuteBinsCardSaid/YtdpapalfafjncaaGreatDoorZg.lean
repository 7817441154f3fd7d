/- HalfCount of the program. Conditions: the list is short enough to be counted. HalfCount of the reference. Conditions: the list is short enough to be counted. SumChoices of the program. Conditions: the list is short enough to be counted. The least rest of two parts, in plain words. Conditions: none. HalfBest of the program: the closure that calls itself. Conditions: the list is as told. The least rest and the first choice with it, the greatest number of a list, in plain words. Conditions: none. greatest of the laws; rests and the first choice with the least one of the reference. Conditions: stated in each. HalfBest of the program. Conditions: the list is short enough to be counted. -/
import Derived.Test.YtdpapalfafjncaaGreatDoorZe
import Derived.Test.YtdpapalfafjncaaGreatDoorZf
import Derived.Laws.EntriesVeiled
set_option linter.unusedVariables false
set_option linter.unusedSimpArgs false
set_option linter.unusedSectionVars false
namespace Go.Proofs.YtdpapalfafjncaaGreatDoor
open Go.RowKit Go.Shelf
attribute [local go_sem] Oper.semAt_some

/-- a count in a box, while the choices go by -/
def CntI (N : Nat) (bt bc B : Nat) (T : Int) (p : Nat → Bool) (w : World) (pre : List (Fin N)) (W : World) : Prop :=
  BoxL W [(bt, 3, .int .i64 T), (bc, 3, .int .i64 ((pre.map Fin.val).countP p : Nat))] ∧ Below B w W
theorem cntI_own {N bt bc B n : Nat} {T : Int} {p : Nat → Bool} {w : World} (h1 : B ≤ w.heap.size) (h2 : B ≤ n) : OwnFrom n (CntI N bt bc B T p w) :=
  OwnFrom.and ((boxL_own _).from _) (ownFrom_below h1 h2)
def halfP (zs : List Int) (c : Nat) : Bool := 2 * csum zs c == tot zs
def NumPost (w : World) (r : Int) (ok : Bool) (e : Ending) (w' : World) : Prop := e = .returned (.tuple #[.int .i64 r, .bool ok]) ∧ Below w.heap.size w w'

set_option maxRecDepth 100000 in
set_option maxHeartbeats 2000000 in
theorem HalfCount_in (n : Nat) (hn : 1 ≤ n) (a : Option Addr) (cap : Nat) (zs : List Int) (hz : inL zs = true) (w : World) (hI : IntsAt w a zs) :
    CallsIn Fence.wide n Tryz.prog 107 #[.slice a zs.length cap] w (NumPost w (cntN (halfP zs) (2 ^ zs.length) : Nat) true) := by
  have hz' := (inL_iff zs).1 hz
  have HZ := Lib.hid hz
  clear hz
  have htb := tot_bd hz'.2
  refine callsIn_of_wp_marks Tryz.func107 rfl trivial ?_ rfl
  simp only [Tryz.ntmps107, List.size_toArray, List.length_cons, List.length_nil, Nat.reduceAdd, Nat.reduceSub, Array.replicate_succ, Array.replicate_zero, List.push_toArray, List.append_toArray, List.nil_append, List.cons_append]
  gi_wp2_with (first | (refine ⟨trivial, ?_⟩; gi_at_call 16; refine (callsIn_wide.2 (SumIn_any a cap zs _ (by omega) hI)).mono ?_; rw [HZ.out]; rintro e w' ⟨rfl, rfl⟩) | (refine ⟨trivial, ?_⟩; gi_at_call 17; refine (callsIn_wide.2 (totalOf_any a cap zs _ (by omega) hz'.2 hI)).mono ?_; rintro e w' ⟨rfl, rfl⟩) | (refine ⟨trivial, ?_⟩; gi_at_call 137; refine (choiceSums_in _ _ _ _ _).mono ?_; rintro e w' ⟨rfl, rfl⟩))
  have b1 := Boxed.new w 3 (.int .i64 (tot zs))
  have b2 := Boxed.new (w.alloc (.cells #[.int .i64 (tot zs)] 3)) 3 (.int .i64 0)
  have b3 := Boxed.new ((w.alloc (.cells #[.int .i64 (tot zs)] 3)).alloc (.cells #[.int .i64 0] 3)) 23 (.slice a zs.length cap)
  have hB0 : Below w.heap.size w (((w.alloc (.cells #[.int .i64 (tot zs)] 3)).alloc (.cells #[.int .i64 0] 3)).alloc (.cells #[.slice a zs.length cap] 23)) :=
    (((Below.refl _ w).alloc (Nat.le_refl _) _).alloc (by simp) _).alloc (by simp; omega) _
  simp only [World.size_alloc] at b2 b3
  have hbx : BoxL (((w.alloc (.cells #[.int .i64 (tot zs)] 3)).alloc (.cells #[.int .i64 0] 3)).alloc (.cells #[.slice a zs.length cap] 23)) [(w.heap.size, 3, .int .i64 (tot zs)), (w.heap.size + 1, 3, .int .i64 0)] :=
    ⟨(b1.alloc _).alloc _, b2.alloc _, trivial⟩
  have hIW : ∀ W', Below w.heap.size (((w.alloc (.cells #[.int .i64 (tot zs)] 3)).alloc (.cells #[.int .i64 0] 3)).alloc (.cells #[.slice a zs.length cap] 23)) W' → IntsAt W' a zs := fun W' h => hI.below (hB0.trans h)
  have hsz : (((w.alloc (.cells #[.int .i64 (tot zs)] 3)).alloc (.cells #[.int .i64 0] 3)).alloc (.cells #[.slice a zs.length cap] 23)).heap.size = w.heap.size + 1 + 1 + 1 := by simp
  clear b1 b2
  generalize (((w.alloc (.cells #[.int .i64 (tot zs)] 3)).alloc (.cells #[.int .i64 0] 3)).alloc (.cells #[.slice a zs.length cap] 23)) = W0 at *
  refine wpIn_rangeFunc_ownG rfl hn (gf := 163) (lb := #[.pointer (some ⟨w.heap.size + 1 + 1, 0, none⟩)]) rfl trivial (enters_of Tryz.func163 (by kernel_rfl) rfl)
    (cs_stops (n - 1) (w.heap.size + 1 + 1) w.heap.size a cap zs (by omega) hz'.2 W0 (by omega) (by omega) b3.cell hIW) KpC.trans (KpC.put (by omega) (by omega)) (Below.refl _ _) (fun _ => rfl)
    (CntI (2 ^ zs.length) w.heap.size (w.heap.size + 1) w.heap.size (tot zs) (halfP zs) w)
    (fun _ _ _ => False)
    (cntI_own (Nat.le_refl _) (by omega)) (fun _ _ _ _ _ hs _ _ => hs) ⟨hbx, hB0⟩ ?a1 ?assign ?body ?done ?stop
  case assign =>
    intro l x W K hK
    gi_wp2
    exact hK
  case body =>
    rintro l pre ⟨c, hcN⟩ W ⟨⟨hb1, hb2, _⟩, hB⟩ hlen
    have hb1 : Boxed W w.heap.size 3 (.int .i64 (tot zs)) := hb1
    have hb2 : Boxed W (w.heap.size + 1) 3 (.int .i64 ((pre.map Fin.val).countP (halfP zs) : Nat)) := hb2
    have c1 := hb1.cell
    have c2 := hb2.cell
    have f2 := hb2.frozen
    have hs := csum_bd hz'.2 c
    have hpl : pre.length ≤ 1048576 := by have := pow_bd zs.length (by omega); have h2 : ((2 ^ zs.length : Nat) : Int) = 2 ^ zs.length := by simp
                                          omega
    have hcp : (pre.map Fin.val).countP (halfP zs) ≤ pre.length := by have := List.countP_le_length (p := halfP zs) (l := pre.map Fin.val); rwa [List.length_map] at this
    have HCN : Hid (∀ b, (2 * csum zs c == tot zs) = b → ((pre ++ [(⟨c, hcN⟩ : Fin (2 ^ zs.length))]).map Fin.val).countP (halfP zs) = (pre.map Fin.val).countP (halfP zs) + if b = true then 1 else 0) := fun b h => by
      rw [List.map_append, List.countP_append, ← h]; simp [List.countP_cons, List.countP_nil, halfP]
    have HI2 := Lib.hid hb2
    generalize hcc : (pre.map Fin.val).countP (halfP zs) = m at *
    have HM := Lib.hid hcc
    clear hcc hlen
    dsimp only
    by_cases hm : 2 * csum zs c = tot zs
    · have hd : (2 * csum zs c == tot zs) = true := by simpa using hm
      have HE := Lib.hid (HCN.out _ hd)
      clear hm HCN
      gi_wp2
      refine ⟨(KeepsOthers.setCell _ _ _).from _, ⟨(Below.refl _ _).setCell (p := ⟨_, _, none⟩) (by simp) _, World.cell?_setCell_other _ _ _ _ (by simp <;> omega)⟩, ⟨hb1.other (by omega) _, ?_, trivial⟩, hB.setCell (p := ⟨_, _, none⟩) (by simp) _⟩
      show Boxed _ (w.heap.size + 1) 3 (.int .i64 _)
      rw [HE.out]
      simp only [if_true]
      exact HI2.out.set _
    · have hd : (2 * csum zs c == tot zs) = false := by simpa using hm
      have HE := Lib.hid (HCN.out _ hd)
      clear hm HCN
      gi_wp2
      refine ⟨KeepsFrom.refl _ _, KpC.refl _ _ _, ⟨hb1, ?_, trivial⟩, hB⟩
      show Boxed _ (w.heap.size + 1) 3 (.int .i64 _)
      rw [HE.out]
      exact HI2.out
  case done =>
    rintro D ys W hD rfl ⟨⟨hb1, hb2, _⟩, hB⟩ hK
    have hb2 : Boxed W (w.heap.size + 1) 3 (.int .i64 (((upto (2 ^ zs.length) (2 ^ zs.length)).map Fin.val).countP (halfP zs) : Nat)) := hb2
    rw [upto_vals, countP_range] at hb2
    generalize hcc : cntN (halfP zs) (2 ^ zs.length) = m at hb2
    have HM := Lib.hid hcc
    clear hcc
    have c2 := hb2.cell
    gi_wp2
    refine ⟨by simp, .inl ⟨_, _, rfl, run_takeDeferred hK, ?_⟩⟩
    refine ⟨_, results_tmp2 rfl _ _ _, ?_, below_put hB (by omega) hK⟩
    rw [HM.out]; rfl
  case stop =>
    rintro D c pre W hD _ h _
    exact h.elim

/-- how many choices have half the total -/
def halfC (zs : List Int) : Int := if inL zs = true then ((cntN (halfP zs) (2 ^ zs.length) : Nat) : Int) else 0
theorem HalfCount_any (a : Option Addr) (cap : Nat) (zs : List Int) (w : World) (hl : zs.length ≤ 4294967296) (hI : IntsAt w a zs) :
    Calls Tryz.prog 107 #[.slice a zs.length cap] w (NumPost w (halfC zs) (inL zs)) := by
  by_cases hz : inL zs = true
  case pos =>
    rw [halfC, if_pos hz, hz]
    exact (callsIn_wide (n := 10)).1 (HalfCount_in 10 (by omega) a cap zs hz w hI)
  have hz' : inL zs = false := by simpa using hz
  rw [halfC, if_neg hz, hz']
  have HZ := Lib.hid hz'
  clear hz hz'
  go_enter Tryz.func107, Tryz.ntmps107
  go_wp2_with (go_at_call 16; refine (SumIn_any a cap zs w hl hI).mono ?_; rw [HZ.out]; rintro e w' ⟨rfl, rfl⟩)
  go_ret2
  exact ⟨rfl, Below.refl _ _⟩
theorem halfC_even {zs : List Int} (hz : inL zs = true) (h : tot zs % 2 = 0) : halfC zs = (sumC zs)[(tot zs / 2).toNat]?.getD 0 := by
  have hzl := (inL_iff zs).1 hz
  have htb := tot_bd hzl.2
  rw [halfC, if_pos hz, sumC_get _ (by omega)]
  congr 1
  apply cntN_congr
  intro c hc
  have h2 := csum_bd hzl.2 c
  rw [Bool.eq_iff_iff]
  simp only [halfP, sumKey, beq_iff_eq, Option.some.injEq]
  omega
theorem cntN_none {p : Nat → Bool} {m : Nat} (h : ∀ c, c < m → p c = false) : cntN p m = 0 := by
  induction m with
  | zero => rfl
  | succ m ih => rw [cntN, ih (fun c hc => h c (by omega)), h m (by omega)]; rfl
theorem halfC_odd {zs : List Int} (h : tot zs % 2 = 1) : halfC zs = 0 := by
  unfold halfC
  split
  · rw [cntN_none]
    · rfl
    · intro c _
      simp only [halfP, beq_eq_false_iff_ne, ne_eq]
      omega
  · rfl
theorem cntN_split (p : Nat → Bool) (a b : Nat) : cntN p (a + b) = cntN p a + cntN (fun c => p (a + c)) b := cntN_add p a b
theorem cntN_shift_rev (p : Nat → Bool) (m : Nat) : cntN (fun c => p (m + c)) m = cntN (fun c => p (2 * m - 1 - c)) m := by
  rw [cntN_rev]
  exact cntN_congr (fun c hc => by rw [show m + (m - 1 - c) = 2 * m - 1 - c by omega])
theorem halfC_pairs {zs : List Int} (hl : 1 ≤ zs.length) : halfC zs % 2 = 0 := by
  unfold halfC
  split
  · obtain ⟨k, hk⟩ : ∃ k, zs.length = k + 1 := ⟨zs.length - 1, by omega⟩
    have e : 2 ^ zs.length = 2 ^ k + 2 ^ k := by rw [hk, Nat.pow_succ]; omega
    have h2 : cntN (fun c => halfP zs (2 ^ k + c)) (2 ^ k) = cntN (halfP zs) (2 ^ k) := by
      rw [cntN_shift_rev]
      apply cntN_congr
      intro c hc
      have := csum_compl zs c (by omega)
      rw [e] at this
      rw [Bool.eq_iff_iff]
      simp only [halfP, beq_iff_eq]
      rw [show 2 * 2 ^ k - 1 - c = 2 ^ k + 2 ^ k - 1 - c by omega]
      omega
    rw [e, cntN_add, h2]; omega
  · rfl
theorem halfC_nil : halfC [] = 1 := by decide
end Go.Proofs.YtdpapalfafjncaaGreatDoor
namespace Go.Proofs.YtdpapalfafjncaaGreatDoor
open Go.RowKit

end Go.Proofs.YtdpapalfafjncaaGreatDoor
namespace Go.Proofs.YtdpapalfafjncaaGreatDoor
open Go.RowKit Go.Shelf
attribute [local go_sem] Oper.semAt_some

theorem append1In {F : Fence} {fu : Nat} (w : World) {ops : Array Oper} {rest : List Oper} {o : Oper} {a : Act} {Q : Exit → Act → World → Prop} (hgd : o.guard = none) (s x : Operand)
    (ho : o.op = .call { callee := .builtin .append, args := #[s, x], argTypes := #[23, 23] }) (base : Nat) (v : Value) (zs : List Int) (z : Int)
    (hs : a.eval s = v) (hx : a.eval x = .slice (some ⟨w.heap.size, 0, none⟩) 1 1) (hown : OwnI w base v zs) (hl : zs.length ≤ 1000000) (hbase : base ≤ w.heap.size)
    (h : ∀ v' w', OwnI w' base v' (zs ++ [z]) → w.grownBy w' v.ownBlock → wpListIn F fu Tryz.prog ops Q rest (a.put o.dst v') w') :
    wpListIn F fu Tryz.prog ops Q (o :: rest) a (w.alloc (.cells #[.int .i64 z] 3)) := by
  obtain ⟨i0, hi, hz0, hz1, hz2⟩ := info_parts Tryz.infoInt
  have hown' := World.ownsRow.alloc hown (.cells #[.int .i64 z] 3)
  refine wpListIn_append_own _ hgd s x 23 ho base 3 i0 (.int .i64 0) 1 8 Tryz.underlying23 hi hz0 hz1 hz2 rfl (by decide) v zs.length _ hs hown' ⟨w.heap.size, 0, none⟩ 1 1 [.int .i64 z] hx rfl (cell_one_new' _ _ _) (by simp [Value.oneCell']) (by unfold maxLen; omega) (by omega) (by simp; omega) ?_
  intro v' w' h1 h2 _
  refine h v' w' ?_ ((World.grownBy_alloc w _ _).trans' h2)
  unfold OwnI
  simpa using h1

/-- the choices so far with the sum T -/
def foundL (zs : List Int) (T : Int) (l : List Nat) : List Int := (l.filter (fun c => csum zs c == T)).map (fun c : Nat => (c : Int))
theorem foundL_yes {zs : List Int} {T : Int} {l : List Nat} {c : Nat} (h : csum zs c = T) : foundL zs T (l ++ [c]) = foundL zs T l ++ [(c : Int)] := by simp [foundL, List.filter_append, h]
theorem foundL_no {zs : List Int} {T : Int} {l : List Nat} {c : Nat} (h : ¬ csum zs c = T) : foundL zs T (l ++ [c]) = foundL zs T l := by simp [foundL, List.filter_append, h]
theorem foundL_length (zs : List Int) (T : Int) (l : List Nat) : (foundL zs T l).length ≤ l.length := by
  unfold foundL; rw [List.length_map]; exact List.length_filter_le _ _

/-- a growing list in a box -/
def FndI (N : Nat) (zs : List Int) (T : Int) (B bq bS bc : Nat) (vc : Value) (w : World) (pre : List (Fin N)) (W : World) : Prop :=
  (∃ v, OwnI W (B + 1) v (foundL zs T (pre.map Fin.val)) ∧ BoxL W [(bq, 3, .int .i64 T), (bS, 23, v), (bc, 23, vc)]) ∧ Below B w W
theorem fndI_own {N : Nat} {zs : List Int} {T : Int} {B bq bS bc n : Nat} {vc : Value} {w : World} (h1 : B ≤ w.heap.size) (h2 : B ≤ n) : OwnFrom n (FndI N zs T B bq bS bc vc w) :=
  OwnFrom.and (fun s X Y row hs hg hr => by
    obtain ⟨v, e1, e4⟩ := hs
    exact ⟨v, ownI_own (B + 1) v (fun (_ : Unit) => _) () X Y row e1 hg (fun r e => (hr r e).2), boxL_own (fun (_ : Unit) => _) () X Y row e4 hg (fun r e => (hr r e).2)⟩) (ownFrom_below h1 h2)
theorem own_ne_box {W : World} {base b : Nat} {v x : Value} {zs : List Int} (h : OwnI W base v zs) (hb : Boxed W b 23 x) : some b ≠ v.ownBlock := by
  intro e
  rcases h.2 with ⟨rfl, _⟩ | ⟨g', cap, cur, rfl, _, hg', _⟩
  · simp [Value.ownBlock] at e
  · simp [Value.ownBlock] at e
    subst e
    have hb' : W.heap[b]? = some (.cells #[x] 23) := hb
    rw [hb'] at hg'
    cases hg'
theorem own_cells {W : World} {base : Nat} {v : Value} {zs : List Int} (h : OwnI W base v zs) : ∀ (j : Nat) (o : Obj), v.ownBlock = some j → W.heap[j]? = some o → o.isCells = true := by
  intro j o hj ho
  rcases h.2 with ⟨rfl, _⟩ | ⟨g', cap, cur, rfl, _, hg', _⟩
  · simp [Value.ownBlock] at hj
  · simp [Value.ownBlock] at hj
    subst hj
    rw [ho] at hg'
    cases hg'; rfl

set_option maxRecDepth 100000 in
set_option maxHeartbeats 2000000 in
theorem SumChoices_in (n : Nat) (hn : 1 ≤ n) (a : Option Addr) (cap : Nat) (zs : List Int) (T : Int) (hz : inL zs = true) (w : World) (hI : IntsAt w a zs) :
    CallsIn Fence.wide n Tryz.prog 110 #[.slice a zs.length cap, .int .i64 T] w (ListR w true (foundL zs T (List.range (2 ^ zs.length)))) := by
  have hz' := (inL_iff zs).1 hz
  have HZ := Lib.hid hz
  clear hz
  have hw1 : ∀ o, IntsAt (w.alloc o) a zs := fun o => hI.below ((Below.refl _ _).alloc (Nat.le_refl _) _)
  refine callsIn_of_wp_marks Tryz.func110 rfl trivial ?_ rfl
  simp only [Tryz.ntmps110, List.size_toArray, List.length_cons, List.length_nil, Nat.reduceAdd, Nat.reduceSub, Array.replicate_succ, Array.replicate_zero, List.push_toArray, List.append_toArray, List.nil_append, List.cons_append]
  gi_wp2_with (first | (refine ⟨trivial, ?_⟩; gi_at_call 16; refine (callsIn_wide.2 (SumIn_any a cap zs _ (by omega) (hw1 _))).mono ?_; rw [HZ.out]; rintro e w' ⟨rfl, rfl⟩) | (refine ⟨trivial, ?_⟩; gi_at_call 137; refine (choiceSums_in _ _ _ _ _).mono ?_; rintro e w' ⟨rfl, rfl⟩))
  have b1 := Boxed.new w 3 (.int .i64 T)
  have b2 := Boxed.new ((w.alloc (.cells #[.int .i64 T] 3)).alloc (.cells #[] 3)) 23 (.slice (some ⟨w.heap.size + 1, 0, none⟩) 0 0)
  have b3 := Boxed.new (((w.alloc (.cells #[.int .i64 T] 3)).alloc (.cells #[] 3)).alloc (.cells #[.slice (some ⟨w.heap.size + 1, 0, none⟩) 0 0] 23)) 23 (.slice a zs.length cap)
  have hO0 : OwnI ((w.alloc (.cells #[.int .i64 T] 3)).alloc (.cells #[] 3)) (w.heap.size + 1) (.slice (some ⟨w.heap.size + 1, 0, none⟩) 0 0) [] := by
    have := World.ownsRow_lit (base := w.heap.size + 1) (e := 3) (size := 1) (w.alloc (.cells #[.int .i64 T] 3)) #[] 0 (by simp) (by unfold maxLen; omega) (by simp)
    rw [World.size_alloc] at this
    exact this
  have hB0 : Below w.heap.size w ((((w.alloc (.cells #[.int .i64 T] 3)).alloc (.cells #[] 3)).alloc (.cells #[.slice (some ⟨w.heap.size + 1, 0, none⟩) 0 0] 23)).alloc (.cells #[.slice a zs.length cap] 23)) :=
    ((((Below.refl _ w).alloc (Nat.le_refl _) _).alloc (by simp) _).alloc (by simp; omega) _).alloc (by simp; omega) _
  simp only [World.size_alloc] at b2 b3
  have hbx : BoxL ((((w.alloc (.cells #[.int .i64 T] 3)).alloc (.cells #[] 3)).alloc (.cells #[.slice (some ⟨w.heap.size + 1, 0, none⟩) 0 0] 23)).alloc (.cells #[.slice a zs.length cap] 23)) [(w.heap.size, 3, .int .i64 T), (w.heap.size + 1 + 1, 23, .slice (some ⟨w.heap.size + 1, 0, none⟩) 0 0), (w.heap.size + 1 + 1 + 1, 23, .slice a zs.length cap)] :=
    ⟨((b1.alloc _).alloc _).alloc _, b2.alloc _, b3, trivial⟩
  have hOO : OwnI ((((w.alloc (.cells #[.int .i64 T] 3)).alloc (.cells #[] 3)).alloc (.cells #[.slice (some ⟨w.heap.size + 1, 0, none⟩) 0 0] 23)).alloc (.cells #[.slice a zs.length cap] 23)) (w.heap.size + 1) (.slice (some ⟨w.heap.size + 1, 0, none⟩) 0 0) (foundL zs T (([] : List (Fin (2 ^ zs.length))).map Fin.val)) := OwnI.alloc (OwnI.alloc hO0 _) _
  have hIW : ∀ W', Below w.heap.size ((((w.alloc (.cells #[.int .i64 T] 3)).alloc (.cells #[] 3)).alloc (.cells #[.slice (some ⟨w.heap.size + 1, 0, none⟩) 0 0] 23)).alloc (.cells #[.slice a zs.length cap] 23)) W' → IntsAt W' a zs := fun W' h => hI.below (hB0.trans h)
  have hsz : ((((w.alloc (.cells #[.int .i64 T] 3)).alloc (.cells #[] 3)).alloc (.cells #[.slice (some ⟨w.heap.size + 1, 0, none⟩) 0 0] 23)).alloc (.cells #[.slice a zs.length cap] 23)).heap.size = w.heap.size + 1 + 1 + 1 + 1 := by simp
  clear b1 b2 hw1 hO0
  generalize ((((w.alloc (.cells #[.int .i64 T] 3)).alloc (.cells #[] 3)).alloc (.cells #[.slice (some ⟨w.heap.size + 1, 0, none⟩) 0 0] 23)).alloc (.cells #[.slice a zs.length cap] 23)) = W0 at *
  refine wpIn_rangeFunc_ownG rfl hn (gf := 163) (lb := #[.pointer (some ⟨w.heap.size + 1 + 1 + 1, 0, none⟩)]) rfl trivial (enters_of Tryz.func163 (by kernel_rfl) rfl)
    (cs_stops (n - 1) (w.heap.size + 1 + 1 + 1) w.heap.size a cap zs (by omega) hz'.2 W0 (by omega) (by omega) b3.cell hIW) KpC.trans (KpC.put (by omega) (by omega)) (Below.refl _ _) (fun _ => rfl)
    (FndI (2 ^ zs.length) zs T w.heap.size w.heap.size (w.heap.size + 1 + 1) (w.heap.size + 1 + 1 + 1) (.slice a zs.length cap) w)
    (fun _ _ _ => False)
    (fndI_own (Nat.le_refl _) (by omega)) (fun _ _ _ _ _ hs _ _ => hs) ⟨⟨_, hOO, hbx⟩, hB0⟩ ?a1 ?assign ?body ?done ?stop
  case assign =>
    intro l x W K hK
    gi_wp2
    exact hK
  case body =>
    rintro l pre ⟨c, hcN⟩ W ⟨⟨v, hO, hb1, hb2, hb3, _⟩, hB⟩ hlen
    have hb1 : Boxed W w.heap.size 3 (.int .i64 T) := hb1
    have hb2 : Boxed W (w.heap.size + 1 + 1) 23 v := hb2
    have hb3 : Boxed W (w.heap.size + 1 + 1 + 1) 23 (.slice a zs.length cap) := hb3
    have c1 := hb1.cell
    have c2 := hb2.cell
    have f2 := hb2.frozen
    have n2 := own_ne_box hO hb2
    have n3 := own_ne_box hO hb3
    have hs := csum_bd hz'.2 c
    have hpl : pre.length ≤ 1000000 := by have := pow_bd10 zs.length (by omega); have h2 : ((2 ^ zs.length : Nat) : Int) = 2 ^ zs.length := by simp
                                          omega
    have hfl : (foundL zs T (pre.map Fin.val)).length ≤ 1000000 := Nat.le_trans (foundL_length _ _ _) (by rw [List.length_map]; exact hpl)
    have hWs : w.heap.size + 1 + 1 + 1 < W.heap.size := (Array.getElem?_eq_some_iff.1 hb3).1
    have HY : Hid (csum zs c = T → foundL zs T ((pre ++ [(⟨c, hcN⟩ : Fin (2 ^ zs.length))]).map Fin.val) = foundL zs T (pre.map Fin.val) ++ [(c : Int)]) := fun h => by rw [List.map_append, List.map_cons, List.map_nil]; exact foundL_yes h
    have HN : Hid (¬ csum zs c = T → foundL zs T ((pre ++ [(⟨c, hcN⟩ : Fin (2 ^ zs.length))]).map Fin.val) = foundL zs T (pre.map Fin.val)) := fun h => by rw [List.map_append, List.map_cons, List.map_nil]; exact foundL_no h
    clear hlen
    dsimp only
    by_cases hm : csum zs c = T
    · have hd : (csum zs c == T) = true := by simpa using hm
      have HE := Lib.hid (HY.out hm)
      clear hm HY HN
      gi_wp2_with (gi_at_builtin; refine append1In W rfl _ _ rfl (w.heap.size + 1) v _ (c : Int) rfl rfl hO hfl (by omega) ?_; intro v' w' hO' hG'; obtain ⟨a', c', rfl, _, _⟩ := hO'.shape; have hb1' := hb1.kept hG' (fun e => by have := (hO.lt _ e.symm).1; omega); have hb2' := hb2.kept hG' n2; have hb3' := hb3.kept hG' n3; have c2' := hb2'.cell; have f2' := hb2'.frozen; clear c1 c2 f2)
      have hgs := hG'.size
      have n2' := own_ne_box hO' hb2'
      refine ⟨((KeepsOthers.of_grownBy hG' (own_cells hO)).trans (KeepsOthers.setCell _ _ _)).from _, ⟨((Below.refl _ _).grown hG' (by omega) (fun r hr => by have := (hO.lt r hr).1; omega)).setCell (p := ⟨_, _, none⟩) (by simp; omega) _, ?_⟩, ⟨_, ?_, hb1'.other (by omega) _, hb2'.set _, hb3'.other (by omega) _, trivial⟩, (hB.grown hG' (by omega) (fun r hr => by have := (hO.lt r hr).1; omega)).setCell (p := ⟨_, _, none⟩) (by simp; omega) _⟩
      · rw [World.cell?_setCell_other _ _ _ _ (by simp), hb3'.cell, hb3.cell]
      · rw [HE.out]
        have h5 := fun x => hO'.kept (grownBy_set w' (w.heap.size + 1 + 1) 0 x) (.inr n2'.symm)
        rw [List.length_append, List.length_singleton] at h5
        exact h5 _
    · have hd : (csum zs c == T) = false := by simpa using hm
      have HE := Lib.hid (HN.out hm)
      clear hm HY HN
      gi_wp2
      refine ⟨KeepsFrom.refl _ _, KpC.refl _ _ _, ⟨v, by rw [HE.out]; exact hO, hb1, hb2, hb3, trivial⟩, hB⟩
  case done =>
    rintro D ys W hD rfl ⟨⟨v, hO, hb1, hb2, hb3, _⟩, hB⟩ hK
    have hb2 : Boxed W (w.heap.size + 1 + 1) 23 v := hb2
    have c2 := hb2.cell
    rw [upto_vals] at hO
    gi_wp2
    refine ⟨by simp, .inl ⟨_, _, rfl, run_takeDeferred hK, ?_⟩⟩
    refine ⟨_, results_tmp2 rfl _ _ _, _, rfl, ?_, below_put hB (by omega) hK⟩
    have h1 : OwnI (W.putObj D (.deferred none)) (w.heap.size + 1) v (foundL zs T (List.range (2 ^ zs.length))) := ownsRow_putObj hO _ hK rfl
    exact h1.mono (Nat.le_succ _)
  case stop =>
    rintro D c pre W hD _ h _
    exact h.elim

theorem SumChoices_told (a : Option Addr) (cap : Nat) (zs : List Int) (T : Int) (hz : inL zs = true) (w : World) (hI : IntsAt w a zs) :
    Calls Tryz.prog 110 #[.slice a zs.length cap, .int .i64 T] w (ListR w true (foundL zs T (List.range (2 ^ zs.length)))) :=
  (callsIn_wide (n := 10)).1 (SumChoices_in 10 (by omega) a cap zs T hz w hI)
theorem foundL_count (zs : List Int) (T : Int) (l : List Nat) : (foundL zs T l).length = l.countP (fun c => csum zs c == T) := by
  unfold foundL; rw [List.length_map, List.countP_eq_length_filter]
theorem halfC_list {zs : List Int} (hz : inL zs = true) (h : tot zs % 2 = 0) : ((foundL zs (tot zs / 2) (List.range (2 ^ zs.length))).length : Int) = halfC zs := by
  rw [foundL_count, countP_range, halfC, if_pos hz]
  congr 1
  apply cntN_congr
  intro c _
  rw [Bool.eq_iff_iff]
  simp only [halfP, beq_iff_eq]
  omega
theorem halfC_bd {zs : List Int} (hl : zs.length ≤ 10) : 0 ≤ halfC zs ∧ halfC zs ≤ 1024 := by
  unfold halfC
  split
  · have h1 := cntN_le (halfP zs) (2 ^ zs.length)
    have h2 : 2 ^ zs.length ≤ 2 ^ 10 := Nat.pow_le_pow_right (by omega) hl
    omega
  · omega
end Go.Proofs.YtdpapalfafjncaaGreatDoor
namespace Go.Proofs.YtdpapalfafjncaaGreatDoor
def sz (v : Int) : Int := max v (-v)
/-- what the program's closure leaves as the best: all signs before the numbers, + first -/
def sgnMin : List Int → Int → Int → Int
  | [], d, b => min b (sz d)
  | x :: xs, d, b => sgnMin xs (d - x) (sgnMin xs (d + x) b)
theorem sgnMin_b (zs : List Int) : ∀ d b, sgnMin zs d b ≤ b := by
  induction zs with
  | nil => intro d b; simp only [sgnMin]; omega
  | cons x xs ih => intro d b; simp only [sgnMin]; exact Int.le_trans (ih _ _) (ih _ _)
theorem sgnMin_le (zs : List Int) : ∀ (d b : Int) (c : Nat), c < 2 ^ zs.length → sgnMin zs d b ≤ sz (d + tot zs - 2 * csum zs c) := by
  induction zs with
  | nil => intro d b c _; simp only [sgnMin, tot, csum, sz]; omega
  | cons x xs ih =>
    intro d b c hc
    rw [List.length_cons, Nat.pow_succ] at hc
    simp only [sgnMin, tot, csum_cons]
    by_cases e : c % 2 = 1
    · rw [if_pos e]
      have := ih (d - x) (sgnMin xs (d + x) b) (c / 2) (by omega)
      rwa [show d + (x + tot xs) - 2 * (x + csum xs (c / 2)) = d - x + tot xs - 2 * csum xs (c / 2) by omega]
    · rw [if_neg e]
      have h1 := sgnMin_b xs (d - x) (sgnMin xs (d + x) b)
      have h2 := ih (d + x) b (c / 2) (by omega)
      rw [show d + (x + tot xs) - 2 * (0 + csum xs (c / 2)) = d + x + tot xs - 2 * csum xs (c / 2) by omega]
      omega
theorem sgnMin_is (zs : List Int) : ∀ (d b : Int), sgnMin zs d b = b ∨ ∃ c, c < 2 ^ zs.length ∧ sgnMin zs d b = sz (d + tot zs - 2 * csum zs c) := by
  induction zs with
  | nil =>
    intro d b
    simp only [sgnMin, tot, sz]
    by_cases h : b ≤ max d (-d)
    · exact .inl (by omega)
    · exact .inr ⟨0, by simp, by simp only [csum]; omega⟩
  | cons x xs ih =>
    intro d b
    simp only [sgnMin, tot]
    rcases ih (d - x) (sgnMin xs (d + x) b) with h | ⟨c, hc, h⟩
    · rw [h]
      rcases ih (d + x) b with h2 | ⟨c, hc, h2⟩
      · exact .inl h2
      · refine .inr ⟨2 * c, by rw [List.length_cons, Nat.pow_succ]; omega, ?_⟩
        rw [h2, csum_cons, if_neg (by omega), show 2 * c / 2 = c by omega, show d + (x + tot xs) - 2 * (0 + csum xs c) = d + x + tot xs - 2 * csum xs c by omega]
    · refine .inr ⟨2 * c + 1, by rw [List.length_cons, Nat.pow_succ]; omega, ?_⟩
      rw [h, csum_cons, if_pos (by omega), show (2 * c + 1) / 2 = c by omega, show d + (x + tot xs) - 2 * (x + csum xs c) = d - x + tot xs - 2 * csum xs c by omega]
/-- the rest of a choice -/
def restOf (zs : List Int) (c : Nat) : Int := sz (tot zs - 2 * csum zs c)
/-- r is the least rest -/
def IsLeast (zs : List Int) (r : Int) : Prop := (∃ c, c < 2 ^ zs.length ∧ restOf zs c = r) ∧ ∀ c, c < 2 ^ zs.length → r ≤ restOf zs c
theorem IsLeast.unique {zs : List Int} {r s : Int} (h : IsLeast zs r) (k : IsLeast zs s) : r = s := by
  obtain ⟨⟨c, hc, e⟩, h2⟩ := h
  obtain ⟨⟨d, hd, f⟩, k2⟩ := k
  have := h2 d hd
  have := k2 c hc
  omega
/-- the program's answer is the least rest -/
theorem sgnMin_least {zs : List Int} (hg : good zs) : IsLeast zs (sgnMin zs 0 (tot zs)) := by
  have ht := tot_bd hg
  have hle := sgnMin_le zs 0 (tot zs)
  refine ⟨?_, fun c hc => by have := hle c hc; simpa [restOf] using this⟩
  rcases sgnMin_is zs 0 (tot zs) with h | ⟨c, hc, h⟩
  · exact ⟨0, Nat.two_pow_pos _, by rw [h, restOf, csum_zero, sz]; omega⟩
  · exact ⟨c, hc, by rw [h, restOf]; congr 1; omega⟩
end Go.Proofs.YtdpapalfafjncaaGreatDoor
namespace Go.Proofs.YtdpapalfafjncaaGreatDoor
open Go.RowKit Go.Shelf

theorem sizeOf_any (v : Int) (w : World) (hv : -1000000 ≤ v ∧ v ≤ 1000000) :
    Calls Tryz.prog 19 #[.int .i64 v] w fun e w' => e = .returned (.int .i64 (sz v)) ∧ w = w' := by
  go_enter Tryz.func19, Tryz.ntmps19
  go_wp2
  all_goals
    go_ret
    exact ⟨ret_int (by unfold sz; omega), rfl⟩
/-- the closure's three boxes -/
def SgnBx (W : World) (bA bB bP : Nat) (a : Option Addr) (len cap : Nat) (b : Int) : Prop :=
  Boxed W bA 23 (.slice a len cap) ∧ Boxed W bB 3 (.int .i64 b) ∧ Boxed W bP 36 (.func (.func 18) #[] #[.pointer (some ⟨bA, 0, none⟩), .pointer (some ⟨bB, 0, none⟩), .pointer (some ⟨bP, 0, none⟩)])

theorem sgnMin_nn (zs : List Int) : ∀ d b, 0 ≤ b → 0 ≤ sgnMin zs d b := by
  induction zs with
  | nil => intro d b h; simp only [sgnMin, sz]; omega
  | cons x xs ih => intro d b h; simp only [sgnMin]; exact ih _ _ (ih _ _ h)
/-- what the closure leaves -/
def HB1Post (w0 : World) (bA bB bP : Nat) (a : Option Addr) (len cap : Nat) (r : Int) (e : Ending) (w' : World) : Prop :=
  e = .returned (.tuple #[]) ∧ SgnBx w' bA bB bP a len cap r ∧ Below w0.heap.size w0 w'

set_option maxHeartbeats 1600000 in
theorem HB1_any (a : Option Addr) (cap : Nat) (zs : List Int) (bA bB bP : Nat) (hne : bA ≠ bB ∧ bB ≠ bP ∧ bA ≠ bP) (hg : good zs) (hl : zs.length ≤ 10) (w0 : World) (h0 : w0.heap.size ≤ bB) (hI0 : IntsAt w0 a zs) : ∀ (k place : Nat) (p q d b : Int) (w : World), p = (place : Int) → q = d → place + k = zs.length → (-(60 * (place : Int)) ≤ d) → (d ≤ 60 * place) → 0 ≤ b ∧ b ≤ 10000 → SgnBx w bA bB bP a zs.length cap b → Below w0.heap.size w0 w →
    Calls Tryz.prog 18 #[.int .i64 p, .int .i64 q, .pointer (some ⟨bA, 0, none⟩), .pointer (some ⟨bB, 0, none⟩), .pointer (some ⟨bP, 0, none⟩)] w
      (HB1Post w0 bA bB bP a zs.length cap (sgnMin (zs.drop place) d b)) := by
  intro k
  induction k with
  | zero =>
    intro place p q d b w hpp hqq hp hd1 hd2 hb hx hB
    subst hpp hqq
    obtain ⟨h1, h2, h3⟩ := hx
    have c1 := h1.cell
    have c2 := h2.cell
    have f2 := h2.frozen
    have c3 := h3.cell
    obtain rfl : place = zs.length := by omega
    go_enter Tryz.func18, Tryz.ntmps18
    go_wp2
    go_region_with (go_at_call 19; refine (sizeOf_any q _ (by omega)).mono ?_; rintro e w' ⟨rfl, rfl⟩)
    all_goals
      go_wp2
      all_goals
        refine bodyPost_ret (v := .tuple #[]) (by simp [results, Tryz.f18, go_sem]) rfl ?_
        refine ⟨rfl, ⟨h1.other (by omega) _, ?_, h3.other (by omega) _⟩, by first | exact hB.setCell (p := ⟨_, 0, none⟩) h0 _ | exact (hB.setCell (p := ⟨_, 0, none⟩) h0 _).drew | exact (hB.drew.setCell (p := ⟨_, 0, none⟩) h0 _)⟩
        first
          | (have e : sgnMin [] q b = sz q := by simp only [sgnMin]; omega
             rw [e]; exact h2.set _)
          | (have e : sgnMin [] q b = b := by simp only [sgnMin]; omega
             rw [e]; exact h2.set _)
  | succ k ih =>
    intro place p q d b w hpp hqq hp hd1 hd2 hb hx hB
    subst hpp hqq
    have hsB : bB < w.heap.size := (Array.getElem?_eq_some_iff.1 hx.2.1).1
    obtain ⟨bb, off, rfl, hbb, hcell⟩ := (hI0.below hB).at (by omega)
    have hxc := hcell place (by omega)
    have hgx := good_get hg place (by omega)
    have hdr : zs.drop place = zs[place]?.getD 0 :: zs.drop (place + 1) := by
      rw [List.drop_eq_getElem_cons (by omega), List.getElem?_eq_getElem (by omega)]; rfl
    have HD := Lib.hid hdr
    clear hdr hcell
    obtain ⟨x, hxv⟩ : ∃ x, zs[place]?.getD 0 = x := ⟨_, rfl⟩
    rw [hxv] at hxc hgx HD
    have HXV := Lib.hid hxv
    obtain ⟨h1, h2, h3⟩ := hx
    have c1 := h1.cell
    have c3 := h3.cell
    have hpl : place ≤ 10 := by omega
    have HP := Lib.hid hp
    have hlt : place < zs.length := by omega
    clear hp hxv
    go_enter Tryz.func18, Tryz.ntmps18
    go_wp2_with fail
    go_region_with (go_at_call 18; refine (ih (place + 1) _ _ (q + x) b _ ((IntWalk.i64_in _ (by omega)).trans (by omega)) (IntWalk.i64_in _ (by omega)) (by have := HP.out; omega) (by omega) (by omega) hb ?_ ?_).mono ?_; (exact ⟨h1, h2, h3⟩); (first | exact hB | exact hB.drew); rintro e w1 ⟨rfl, hS1, hB1⟩)
    all_goals
      have hn1 := sgnMin_nn (zs.drop (place + 1)) (q + x) b hb.1
      have hn2 := sgnMin_b (zs.drop (place + 1)) (q + x) b
      have HR := Lib.hid (show sgnMin (zs.drop place) q b = sgnMin (zs.drop (place + 1)) (q - x) (sgnMin (zs.drop (place + 1)) (q + x) b) by rw [HD.out]; rfl)
      generalize sgnMin (zs.drop (place + 1)) (q + x) b = b1 at hS1 hn1 hn2 HR
      obtain ⟨k1, k2, k3⟩ := hS1
      clear h1 h2 h3 c1 c3 hxc
      have c1 := k1.cell
      have c3 := k3.cell
      obtain ⟨bb2, off2, he, _, hcell⟩ := (hI0.below hB1).at (by omega)
      simp only [Option.some.injEq, Addr.mk.injEq, and_true] at he
      obtain ⟨rfl, rfl⟩ := he
      have hxc := hcell place hlt
      rw [HXV.out] at hxc
      clear hcell
      go_wp2_with fail
      go_region_with (go_at_call 18; refine (ih (place + 1) _ _ (q - x) b1 _ ((IntWalk.i64_in _ (by omega)).trans (by omega)) (IntWalk.i64_in _ (by omega)) (by have := HP.out; omega) (by omega) (by omega) ⟨hn1, by omega⟩ ?_ ?_).mono ?_; (exact ⟨k1, k2, k3⟩); (first | exact hB1 | exact hB1.drew); rintro e w2 ⟨rfl, hS2, hB2⟩)
      all_goals
        go_wp2
        refine bodyPost_ret (v := .tuple #[]) (by simp [results, Tryz.f18, go_sem]) rfl ?_
        exact ⟨rfl, by rw [HR.out]; exact hS2, hB2⟩
end Go.Proofs.YtdpapalfafjncaaGreatDoor
namespace Go.Proofs.YtdpapalfafjncaaGreatDoor
/-- the greatest number of a list, 0 of none -/
def gre (zs : List Int) : Int := zs.foldl max 0
theorem gre_take (a : List Int) (k : Nat) (h : k < a.length) : gre (a.take (k + 1)) = max (gre (a.take k)) (a[k]?.getD 0) := by
  rw [take_snoc a k h, gre, List.foldl_append]; rfl
theorem foldl_max_ge (zs : List Int) : ∀ m : Int, m ≤ zs.foldl max m ∧ ∀ x ∈ zs, x ≤ zs.foldl max m := by
  induction zs with
  | nil => intro m; exact ⟨Int.le_refl _, by simp⟩
  | cons y ys ih =>
    intro m
    have h := ih (max m y)
    rw [List.foldl_cons]
    refine ⟨by omega, fun x hx => ?_⟩
    rcases List.mem_cons.1 hx with rfl | hx
    · omega
    · exact h.2 x hx
theorem gre_ge {zs : List Int} {x : Int} (h : x ∈ zs) : x ≤ gre zs := (foldl_max_ge zs 0).2 x h
theorem gre_nn (zs : List Int) : 0 ≤ gre zs := (foldl_max_ge zs 0).1
theorem foldl_max_le (zs : List Int) (M : Int) (h : ∀ x ∈ zs, x ≤ M) : ∀ m : Int, m ≤ M → zs.foldl max m ≤ M := by
  induction zs with
  | nil => intro m hm; exact hm
  | cons y ys ih =>
    intro m hm
    rw [List.foldl_cons]
    exact ih (fun x hx => h x (List.mem_cons_of_mem _ hx)) _ (by have := h y (List.mem_cons_self ..); omega)
theorem gre_le {zs : List Int} {M : Int} (h0 : 0 ≤ M) (h : ∀ x ∈ zs, x ≤ M) : gre zs ≤ M := foldl_max_le zs M h 0 h0
theorem gre_le_tot {zs : List Int} (h : good zs) : gre zs ≤ tot zs := by
  have key : ∀ ys : List Int, good ys → ∀ x ∈ ys, x ≤ tot ys := by
    intro ys
    induction ys with
    | nil => simp
    | cons y ys ih =>
      intro hg x hx
      have hy := hg y (List.mem_cons_self ..)
      have hg2 : good ys := fun z hz => hg z (List.mem_cons_of_mem _ hz)
      have ht := tot_bd hg2
      rw [tot]
      rcases List.mem_cons.1 hx with rfl | hx
      · omega
      · have := ih hg2 x hx; omega
  exact gre_le (tot_bd h).1 (key zs h)

theorem rest_small (zs : List Int) (M : Int) (hM : 0 ≤ M) (h : ∀ x ∈ zs, 0 ≤ x ∧ x ≤ M) : ∃ c, c < 2 ^ zs.length ∧ -M ≤ tot zs - 2 * csum zs c ∧ tot zs - 2 * csum zs c ≤ M := by
  induction zs with
  | nil => exact ⟨0, by simp, by simp [tot, csum]; omega, by simp [tot, csum]; omega⟩
  | cons x xs ih =>
    obtain ⟨c, hc, h1, h2⟩ := ih (fun y hy => h y (List.mem_cons_of_mem _ hy))
    have hx := h x (List.mem_cons_self ..)
    rw [List.length_cons, Nat.pow_succ]
    by_cases e : tot xs - 2 * csum xs c ≤ 0
    · refine ⟨2 * c, by omega, ?_⟩
      rw [csum_cons, if_neg (by omega), show 2 * c / 2 = c by omega, tot]; omega
    · refine ⟨2 * c + 1, by omega, ?_⟩
      rw [csum_cons, if_pos (by omega), show (2 * c + 1) / 2 = c by omega, tot]; omega
/-- the least rest -/
def lr (zs : List Int) : Int := sgnMin zs 0 (tot zs)
theorem lr_least {zs : List Int} (hg : good zs) : IsLeast zs (lr zs) := sgnMin_least hg
theorem lr_le_gre {zs : List Int} (hg : good zs) : lr zs ≤ gre zs := by
  obtain ⟨c, hc, h1, h2⟩ := rest_small zs (gre zs) (gre_nn zs) (fun x hx => ⟨by have := hg x hx; omega, gre_ge hx⟩)
  have := (lr_least hg).2 c hc
  rw [restOf, sz] at this
  omega
theorem lr_par {zs : List Int} (hg : good zs) : (tot zs - lr zs) % 2 = 0 := by
  obtain ⟨⟨c, hc, e⟩, _⟩ := lr_least hg
  rw [restOf, sz] at e
  omega
theorem lr_bd {zs : List Int} (hg : good zs) : 0 ≤ lr zs ∧ lr zs ≤ tot zs := by
  have h := (lr_least hg).2 0 (Nat.two_pow_pos _)
  have ht := tot_bd hg
  obtain ⟨⟨c, hc, e⟩, _⟩ := lr_least hg
  rw [restOf, csum_zero, sz] at h
  rw [restOf, sz] at e
  omega
/-- the first choice up to m with the least rest -/
def leastUp (zs : List Int) : Nat → Nat
  | 0 => 0
  | m + 1 => if restOf zs (m + 1) < restOf zs (leastUp zs m) then m + 1 else leastUp zs m
theorem leastUp_le (zs : List Int) : ∀ m, leastUp zs m ≤ m
  | 0 => Nat.le_refl _
  | m + 1 => by
    have := leastUp_le zs m
    rw [leastUp]; split <;> omega
theorem leastUp_least (zs : List Int) : ∀ m c, c ≤ m → restOf zs (leastUp zs m) ≤ restOf zs c
  | 0, c, h => by obtain rfl : c = 0 := by omega
                  exact Int.le_refl _
  | m + 1, c, h => by
    have ih := leastUp_least zs m
    rw [leastUp]
    split
    · rcases Nat.lt_or_ge c (m + 1) with e | e
      · have := ih c (by omega); omega
      · obtain rfl : c = m + 1 := by omega
        exact Int.le_refl _
    · rcases Nat.lt_or_ge c (m + 1) with e | e
      · exact ih c (by omega)
      · obtain rfl : c = m + 1 := by omega
        omega
theorem leastUp_first (zs : List Int) : ∀ m c, c < leastUp zs m → restOf zs (leastUp zs m) < restOf zs c
  | 0, c, h => by simp [leastUp] at h
  | m + 1, c, h => by
    have ih := leastUp_first zs m
    rw [leastUp] at h ⊢
    split
    · rename_i hlt
      rw [if_pos hlt] at h
      have := leastUp_least zs m c (by omega); omega
    · rename_i hlt
      rw [if_neg hlt] at h
      exact ih c h
/-- the first choice of all with the least rest -/
def lc (zs : List Int) : Nat := leastUp zs (2 ^ zs.length - 1)
theorem lc_lt (zs : List Int) : lc zs < 2 ^ zs.length := by
  have := leastUp_le zs (2 ^ zs.length - 1)
  have := Nat.two_pow_pos zs.length
  rw [lc]; omega
theorem lc_least (zs : List Int) : IsLeast zs (restOf zs (lc zs)) := by
  have := Nat.two_pow_pos zs.length
  exact ⟨⟨_, lc_lt zs, rfl⟩, fun c hc => leastUp_least zs _ c (by omega)⟩
theorem lc_rest {zs : List Int} (hg : good zs) : restOf zs (lc zs) = lr zs := (lc_least zs).unique (lr_least hg)
/-- the search for the least rest ends at lc -/
def leastP (zs : List Int) (c : Nat) : Bool := restOf zs c == lr zs
theorem lc_is {zs : List Int} (hg : good zs) : FirstIs (leastP zs) (2 ^ zs.length) (lc zs) true := by
  refine .inl ⟨rfl, lc zs, rfl, lc_lt zs, by rw [leastP, lc_rest hg]; simp, fun d hd => ?_⟩
  have := leastUp_first zs _ d hd
  have e := lc_rest hg
  rw [lc] at e
  rw [leastP, ← e]
  simp; omega
theorem csum_full (zs : List Int) : csum zs (2 ^ zs.length - 1) = tot zs := by
  have := csum_compl zs 0 (Nat.two_pow_pos _)
  rw [csum_zero] at this
  rw [Nat.sub_zero] at this
  omega
theorem restOf_bd {zs : List Int} (hg : good zs) (c : Nat) : 0 ≤ restOf zs c ∧ restOf zs c ≤ tot zs := by
  have := csum_bd hg c
  rw [restOf, sz]; omega
end Go.Proofs.YtdpapalfafjncaaGreatDoor
namespace Go.Proofs.YtdpapalfafjncaaGreatDoor
open Go.RowKit

theorem l1SumAll_any (a : Option Addr) (cap : Nat) (zs : List Int) (w : World) (hl : zs.length ≤ 10) (hg : good zs) (hI : IntsAt w a zs) :
    Calls Tryz.prog 50 #[.slice a zs.length cap, .int .i64 (2 ^ zs.length - 1)] w fun e w' => e = .returned (.int .i64 (tot zs)) ∧ ∃ n, w' = w.drewN n := by
  have hp := pow_bd10 zs.length hl
  have e : ((2 : Int) ^ zs.length - 1) = ((2 ^ zs.length - 1 : Nat) : Int) := by
    have : ((2 ^ zs.length : Nat) : Int) = 2 ^ zs.length := by simp
    omega
  have hc : 2 ^ zs.length - 1 < 1048576 := by
    have : ((2 ^ zs.length : Nat) : Int) = 2 ^ zs.length := by simp
    omega
  rw [e, ← csum_full]
  exact l1Sum_any _ a cap zs w hc (by omega) hg hI

set_option maxHeartbeats 400000 in
theorem l2Rest_any (c : Nat) (a : Option Addr) (cap : Nat) (zs : List Int) (w : World) (hc : c < 1048576) (hl : zs.length ≤ 10) (hg : good zs) (hI : IntsAt w a zs) :
    Calls Tryz.prog 38 #[.slice a zs.length cap, .int .i64 c] w fun e w' => e = .returned (.int .i64 (restOf zs c)) ∧ ∃ n, w' = w.drewN n := by
  have h1 := csum_bd hg c
  have h2 := tot_bd hg
  go_enter Tryz.func38, Tryz.ntmps38
  go_wp2_with (first | (go_at_call 37; refine (l1All_any a zs.length cap _ (by omega)).mono ?_; rintro e w' ⟨rfl, rfl⟩) | (go_at_call 50; with_reducible refine (l1SumAll_any a cap zs _ hl hg (by first | exact hI | exact hI.dr _)).mono ?_; rintro e w' ⟨rfl, m1, rfl⟩) | (go_at_call 50; with_reducible refine (l1Sum_any c a cap zs _ hc (by omega) hg (by first | exact hI | exact hI.dr _)).mono ?_; rintro e w' ⟨rfl, m2, rfl⟩))
  all_goals
    go_ret
    exact ⟨ret_int (by unfold restOf sz; omega), _, rfl⟩

theorem l2RestI_any (c : Nat) (i : Int) (hi : i = c) (a : Option Addr) (cap : Nat) (zs : List Int) (w : World) (hc : c < 1048576) (hl : zs.length ≤ 10) (hg : good zs) (hI : IntsAt w a zs) :
    Calls Tryz.prog 38 #[.slice a zs.length cap, .int .i64 i] w fun e w' => e = .returned (.int .i64 (restOf zs c)) ∧ ∃ n, w' = w.drewN n := by
  subst hi; exact l2Rest_any c a cap zs w hc hl hg hI

set_option maxHeartbeats 1600000 in
theorem l2Best_any (a : Option Addr) (cap : Nat) (zs : List Int) (w : World) (hl : zs.length ≤ 10) (hg : good zs) (hI : IntsAt w a zs) :
    Calls Tryz.prog 21 #[.slice a zs.length cap] w fun e w' => e = .returned (.tuple #[.int .i64 (lc zs), .int .i64 (lr zs)]) ∧ ∃ n, w' = w.drewN n := by
  have hp := pow_bd10 zs.length hl
  have hpp : ((2 ^ zs.length : Nat) : Int) = 2 ^ zs.length := by simp
  obtain ⟨P, hP⟩ : ∃ P : Nat, 2 ^ zs.length = P := ⟨_, rfl⟩
  rw [hP] at hpp
  have hPb : 1 ≤ P ∧ P ≤ 1024 := by omega
  have HLC : Hid (leastUp zs (P - 1) = lc zs) := by rw [lc, hP]; exact rfl
  have HLR := Lib.hid (lc_rest hg)
  clear hP
  go_enter Tryz.func21, Tryz.ntmps21
  go_wp2
  go_loopw [4, 5] (fun b i wr => ∃ k m : Nat, k + 1 ≤ P ∧ i = .int .i64 ((k : Int) + 1) ∧ b = .int .i64 (leastUp zs k) ∧ wr = w.drewN m) (fun _ i _ => P - (intOf i).toNat)
  case atStart => exact ⟨0, 0, by omega, rfl, rfl, rfl⟩
  case round =>
    obtain ⟨k, m, hk, rfl, rfl, rfl⟩ := hrel
    have hb := leastUp_le zs k
    have HU : Hid (leastUp zs (k + 1) = if restOf zs (k + 1) < restOf zs (leastUp zs k) then k + 1 else leastUp zs k) := rfl
    have HK : Hid (k + 1 = P → leastUp zs k = lc zs) := fun h => by rw [← HLC.out]; congr 1; omega
    generalize leastUp zs k = b at hb HU HK
    have hr1 := restOf_bd hg (k + 1)
    have hr2 := restOf_bd hg b
    have ht := tot_bd hg
    by_cases hlt : (k : Int) + 1 < 2 ^ zs.length
    · go_wp2_with (first | (go_at_call 37; refine (l1All_any a zs.length cap _ (by omega)).mono ?_; rintro e w' ⟨rfl, rfl⟩) | (go_at_call 38; with_reducible refine (l2RestI_any (k + 1) ((k : Int) + 1) (by omega) a cap zs _ (by omega) hl hg (hI.dr _)).mono ?_; rintro e w' ⟨rfl, m1, rfl⟩) | (go_at_call 38; with_reducible refine (l2RestI_any b (b : Int) rfl a cap zs _ (by omega) hl hg (hI.dr _)).mono ?_; rintro e w' ⟨rfl, m1, rfl⟩))
      all_goals
        go_roundw
        case rel => exact ⟨k + 1, _, by omega, by go_num, by rw [HU.out]; split <;> first | rfl | (exfalso; omega), rfl⟩
        case measure => simp [intOf]; omega
    · obtain rfl : b = lc zs := HK.out (by omega)
      have hnl : ¬ (k : Int) + 1 ≤ 2 ^ zs.length - 1 := by omega
      go_wp2_with (first | (go_at_call 37; refine (l1All_any a zs.length cap _ (by omega)).mono ?_; rintro e w' ⟨rfl, rfl⟩) | (go_at_call 38; with_reducible refine (l2RestI_any (lc zs) (lc zs : Int) rfl a cap zs _ (by omega) hl hg (hI.dr _)).mono ?_; rintro e w' ⟨rfl, m1, rfl⟩))
      go_ret2
      exact ⟨by rw [HLR.out]; rfl, _, rfl⟩

def BestPostD (w : World) (r : Int) (ok : Bool) (e : Ending) (w' : World) : Prop := e = .returned (.tuple #[.int .i64 r, .bool ok]) ∧ ∃ n, w' = w.drewN n
def lrR (zs : List Int) : Int := if inL zs = true then lr zs else 0
def lcR (zs : List Int) : Int := if inL zs = true then (lc zs : Int) else 0

theorem sHalfBest_any (a : Option Addr) (cap : Nat) (zs : List Int) (w : World) (hl : zs.length ≤ 4294967296) (hI : IntsAt w a zs) :
    Calls Tryz.prog 7 #[.slice a zs.length cap] w (BestPostD w (lrR zs) (inL zs)) := by
  by_cases hz : inL zs = true
  case neg =>
    have hz' : inL zs = false := by simpa using hz
    rw [lrR, if_neg hz, hz']
    have HZ := Lib.hid hz'
    clear hz hz'
    go_enter Tryz.func7, Tryz.ntmps7
    go_wp2_with (go_at_call 20; refine (sSumIn_any a cap zs w hl hI).mono ?_; rw [HZ.out]; rintro e w' ⟨rfl, rfl⟩)
    go_ret2
    exact ⟨rfl, 0, rfl⟩
  rw [lrR, if_pos hz, hz]
  have hzl := (inL_iff zs).1 hz
  have HZ := Lib.hid hz
  clear hz
  go_enter Tryz.func7, Tryz.ntmps7
  go_wp2_with (first | (go_at_call 20; refine (sSumIn_any a cap zs w hl hI).mono ?_; rw [HZ.out]; rintro e w' ⟨rfl, rfl⟩) | (go_at_call 21; refine (l2Best_any a cap zs w hzl.1 hzl.2 hI).mono ?_; rintro e w' ⟨rfl, m1, rfl⟩))
  go_ret2
  exact ⟨rfl, _, rfl⟩

end Go.Proofs.YtdpapalfafjncaaGreatDoor
namespace Go.Proofs.YtdpapalfafjncaaGreatDoor
open Go.RowKit Go.Shelf

set_option maxHeartbeats 1600000 in
theorem HalfBest_any (a : Option Addr) (cap : Nat) (zs : List Int) (w : World) (hl : zs.length ≤ 4294967296) (hI : IntsAt w a zs) :
    Calls Tryz.prog 6 #[.slice a zs.length cap] w (NumPost w (lrR zs) (inL zs)) := by
  have hB0 : ∀ o, Below w.heap.size w (w.alloc o) := fun o => (Below.refl _ w).alloc (Nat.le_refl _) _
  by_cases hz : inL zs = true
  case neg =>
    have hz' : inL zs = false := by simpa using hz
    rw [lrR, if_neg hz, hz']
    have HZ := Lib.hid hz'
    clear hz hz'
    go_enter Tryz.func6, Tryz.ntmps6
    go_wp2_with (go_at_call 16; refine (SumIn_any a cap zs _ hl (hI.below (hB0 _))).mono ?_; rw [HZ.out]; rintro e w' ⟨rfl, rfl⟩)
    go_ret2
    exact ⟨rfl, hB0 _⟩
  rw [lrR, if_pos hz, hz]
  have hzl := (inL_iff zs).1 hz
  have htb := tot_bd hzl.2
  have HZ := Lib.hid hz
  clear hz
  have hI1 := hI.below (hB0 (.cells #[.slice a zs.length cap] 23))
  go_enter Tryz.func6, Tryz.ntmps6
  go_wp2_with (first | (go_at_call 16; refine (SumIn_any a cap zs _ hl hI1).mono ?_; rw [HZ.out]; rintro e w' ⟨rfl, rfl⟩) | (go_at_call 17; refine (totalOf_any a cap zs _ (by omega) hzl.2 hI1).mono ?_; rintro e w' ⟨rfl, rfl⟩))
  have b1 := Boxed.new w 23 (.slice a zs.length cap)
  have b2 := Boxed.new (w.alloc (.cells #[.slice a zs.length cap] 23)) 3 (.int .i64 (tot zs))
  have b3 := Boxed.new ((w.alloc (.cells #[.slice a zs.length cap] 23)).alloc (.cells #[.int .i64 (tot zs)] 3)) 36 (.func (.func 18) #[] #[.pointer (some ⟨w.heap.size, 0, none⟩), .pointer (some ⟨w.heap.size + 1, 0, none⟩), .pointer (some ⟨w.heap.size + 1 + 1, 0, none⟩)])
  simp only [World.size_alloc] at b2 b3
  refine (HB1_any a cap zs w.heap.size (w.heap.size + 1) (w.heap.size + 1 + 1) (by omega) hzl.2 hzl.1 w (by omega) hI zs.length 0 0 0 0 (tot zs) _ rfl rfl (by omega) (by omega) (by omega) (by omega) ?_ ?_).mono ?_
  · exact ⟨(b1.alloc _).alloc _, b2.alloc _, b3⟩
  · exact ((hB0 _).alloc (by simp) _).alloc (by simp; omega) _
  · rintro e w1 ⟨rfl, hS, hB1⟩
    have c2 := hS.2.1.cell
    rw [List.drop_zero] at c2
    clear hS b1 b2 b3
    generalize hR : sgnMin zs 0 (tot zs) = R at c2
    have HRR : Hid (lr zs = R) := hR
    clear hR
    go_wp2
    go_ret2
    exact ⟨by rw [HRR.out]; rfl, hB1⟩
end Go.Proofs.YtdpapalfafjncaaGreatDoor
