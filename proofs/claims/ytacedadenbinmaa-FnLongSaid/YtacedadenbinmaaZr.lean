/- The iterator choiceSums: its contract (a range over a function), for lists in range. Conditions: at most 20 numbers from 1 to 60. Chapter 8 of the reference: what is told, sizes, searches. Conditions: stated in each. Chapter 8 of the reference: RestCounts; the checker's marks. Conditions: stated in each. RestCounts of the program. Conditions: the list is short enough to be counted. SumCounts of the program. Conditions: the list is short enough to be counted. The counts of all sums, by the reference. Conditions: the list is as told. SumCounts of the reference. Conditions: the list is short enough to be counted. RestReach of both. Conditions: the list is short enough to be counted. SumReach of both. Conditions: the list is short enough to be counted. HalfCount of the program. Conditions: the list is short enough to be counted. -/
import Derived.RangeFuncNested
import Derived.RangeFuncBound
import Derived.RangeFuncCalls
import Derived.RangeFuncLeaves
import Derived.RangeFuncBox
import Derived.Shelf.Abstract
import Derived.Shelf.RegionOpen
import Derived.OwnWalkIn
import Derived.TacticsInMore
import Derived.LoopNIn
import Derived.LoopIn
import Derived.Test.YtacedadenbinmaaZh
import Derived.Test.YtacedadenbinmaaZg
import Derived.Sort.QuietIn
import Derived.BigRegion
import Derived.Test.YtacedadenbinmaaZi
set_option linter.unusedVariables false
set_option linter.unusedSimpArgs false
set_option linter.unusedSectionVars false
namespace Go.Proofs.Ytacedadenbinmaa
open Go.RowKit Go.Shelf
attribute [local go_sem] Oper.semAt_some

theorem makeIIn {F : Fence} {fu : Nat} (w : World) {ops : Array Oper} {rest : List Oper} {o : Oper} {a : Act} {Q : Exit → Act → World → Prop} (hgd : o.guard = none) (l c : Operand)
    (ho : o.op = Op.makeSlice 22 l c) (n : Nat) (N : Int) (hl : a.eval l = .int .i64 N) (hc : a.eval c = .int .i64 N) (hN : N = (n : Int)) (hn : n ≤ 4000000)
    (h : ∀ w', OwnI w' w.heap.size (.slice (some ⟨w.heap.size, 0, none⟩) n n) (List.replicate n 0) → w.grownBy w' none → wpListIn F fu Try.prog ops Q rest (a.put o.dst (.slice (some ⟨w.heap.size, 0, none⟩) n n)) w') :
    wpListIn F fu Try.prog ops Q (o :: rest) a w := by
  obtain ⟨i0, hi, hz0, hz1, hz2⟩ := info_parts Try.infoInt
  refine wpListIn_plain hgd fun K hK' => ?_
  obtain ⟨w', hrun, r1, r2⟩ := run_make_full (P := Try.prog) w w.heap.size 22 3 i0 (.int .i64 0) 1 Try.underlying22 hi hz0 hz1 .i64 .i64 n (by rw [hz2]; omega) (by unfold maxLen; omega) (Nat.le_refl _)
  subst hN
  unfold Oper.wpIn
  refine ⟨by simp [Oper.about, ho], ?_⟩
  rw [Oper.semAt_plain F _ _ (by rw [ho]; intro c hc'; cases hc')]
  simp [execOp, ho, hl, hc, hrun, Result.andThen]
  refine hK' _ _ (h w' ?_ r2)
  unfold OwnI
  rw [List.length_replicate, List.map_replicate]
  rw [Nat.mul_one] at r1
  have e : (madeCells (Value.cells (.int .i64 0)) n).toList = List.replicate n (.int .i64 0) := toList_madeCells_one _ _
  rw [e] at r1
  exact r1

/-- the first k choices -/
def upto (N k : Nat) : List (Fin N) := (List.finRange N).take k
theorem upto_succ {N k : Nat} (h : k < N) : upto N (k + 1) = upto N k ++ [⟨k, h⟩] := by
  unfold upto
  rw [List.take_add_one, List.getElem?_eq_getElem (by simpa using h)]
  simp
theorem upto_succ' {N : Nat} (x : Fin N) : upto N (x.val + 1) = upto N x.val ++ [x] := upto_succ x.isLt
theorem upto_vals (N : Nat) : (upto N N).map Fin.val = List.range N := by
  apply List.ext_getElem
  · simp [upto]
  · intro i h1 h2; simp [upto]
theorem upto_length {N k : Nat} (h : k ≤ N) : (upto N k).length = k := by simp [upto]; omega
theorem mem_upto {N k : Nat} {c : Fin N} : c ∈ upto N k ↔ c.val < k := by
  unfold upto
  rw [List.mem_take_iff_getElem]
  constructor
  · rintro ⟨i, hi, rfl⟩
    simp at hi ⊢; omega
  · intro h
    exact ⟨c.val, by simp only [List.length_finRange]; have := c.isLt; omega, by simp⟩
/-- what a round of the caller keeps: blocks below n₀, and the iterator's own box -/
def KpC (n₀ Bs : Nat) (A B : World) : Prop := Below n₀ A B ∧ B.cell? ⟨Bs, 0, none⟩ = A.cell? ⟨Bs, 0, none⟩
theorem KpC.trans {n₀ Bs : Nat} {A B C : World} (h : KpC n₀ Bs A B) (k : KpC n₀ Bs B C) : KpC n₀ Bs A C := ⟨h.1.trans k.1, k.2.trans h.2⟩
theorem KpC.put {n₀ Bs : Nat} {w : World} (hn : n₀ ≤ w.heap.size) (hB : Bs < w.heap.size) (W : World) (l : Nat) (o o' : Obj) (hl : w.heap.size ≤ l) (h : W.heap[l]? = some o) (h1 : o.isCells = false) (h2 : o.isWalk = false) : KpC n₀ Bs W (W.putObj l o') :=
  ⟨belowK_b hn W l o o' hl h h1 h2, World.cell?_of_block (World.putObj_heap_other (by show Bs ≠ l; omega))⟩
theorem KpC.refl (n₀ Bs : Nat) (W : World) : KpC n₀ Bs W W := ⟨Below.refl _ _, rfl⟩

theorem _root_.Go.Boxed.keptSet {W : World} {B g j : Nat} {t : TypeId} {v : Value} (h : Boxed W B t v) (hne : B ≠ g) (u : Value) : Boxed ((W.setCell ⟨g, j, none⟩ u).drew) B t v :=
  (h.kept (grownBy_set W g j u) (fun e => hne (by cases e; rfl)) : Boxed (W.setCell ⟨g, j, none⟩ u) B t v)
theorem _root_.Go.Boxed.keptSet' {W : World} {B g j : Nat} {t : TypeId} {v : Value} (h : Boxed W B t v) (hne : B ≠ g) (u : Value) : Boxed (W.setCell ⟨g, j, none⟩ u) B t v :=
  h.kept (grownBy_set W g j u) (fun e => hne (by cases e; rfl))
/-- several boxes at once -/
def BoxL (W : World) : List (Nat × TypeId × Value) → Prop
  | [] => True
  | p :: r => Boxed W p.1 p.2.1 p.2.2 ∧ BoxL W r
theorem BoxL.kept {W W' : World} {row : Option Nat} {l : List (Nat × TypeId × Value)} (h : BoxL W l) (hg : W.grownBy W' row) (hne : ∀ p ∈ l, some p.1 ≠ row) : BoxL W' l := by
  induction l with
  | nil => trivial
  | cons p r ih => exact ⟨h.1.kept hg (hne p (List.mem_cons_self ..)), ih h.2 (fun q hq => hne q (List.mem_cons_of_mem _ hq))⟩
theorem BoxL.isCells {W : World} {l : List (Nat × TypeId × Value)} (h : BoxL W l) : ∀ p ∈ l, ∃ o : Obj, W.heap[p.1]? = some o ∧ o.isCells = true := by
  induction l with
  | nil => intro p hp; cases hp
  | cons q r ih =>
    intro p hp
    rcases List.mem_cons.1 hp with rfl | hp
    · exact ⟨_, h.1, rfl⟩
    · exact ih h.2 p hp
theorem boxL_own {β : Type} (f : β → List (Nat × TypeId × Value)) : Own (fun s W => BoxL W (f s)) := fun s X Y row hs hg hrow =>
  hs.kept hg (fun p hp e' => by
    obtain ⟨o, ho, hc⟩ := hrow p.1 e'.symm
    obtain ⟨o', ho', hc'⟩ := hs.isCells p hp
    rw [ho] at ho'; cases ho'; rw [hc] at hc'; cases hc')
theorem BoxL.alloc {W : World} {l : List (Nat × TypeId × Value)} (h : BoxL W l) (o : Obj) : BoxL (W.alloc o) l := h.kept (World.grownBy_alloc W o none) (fun _ _ => by simp)

/-! a search through all choices: nothing found yet; found and left -/
def NoneYet {N : Nat} (p : Nat → Bool) (pre : List (Fin N)) : Prop := ∀ x ∈ pre, p x.val = false
theorem NoneYet.nil {N : Nat} (p : Nat → Bool) : NoneYet p ([] : List (Fin N)) := fun x hx => by cases hx
theorem NoneYet.snoc {N : Nat} {p : Nat → Bool} {pre : List (Fin N)} {x : Fin N} (h : NoneYet p pre) (hx : p x.val = false) : NoneYet p (pre ++ [x]) := fun y hy => by
  rcases List.mem_append.1 hy with hy | hy
  · exact h y hy
  · rw [List.mem_singleton.1 hy]; exact hx
def LastHit {N : Nat} (p : Nat → Bool) (pre : List (Fin N)) (last : Fin N) : Prop := ∃ ini, pre = ini ++ [last] ∧ NoneYet p ini ∧ p last.val = true
def SrchI {N : Nat} (bxs : List (Nat × TypeId × Value)) (p : Nat → Bool) (B : Nat) (w : World) (pre : List (Fin N)) (W : World) : Prop := (NoneYet p pre ∧ BoxL W bxs) ∧ Below B w W
def SrchX {N : Nat} (rb ob : Nat) (p : Nat → Bool) (B : Nat) (w : World) (c : Code) (pre : List (Fin N)) (W : World) : Prop :=
  (c = .ret ∧ ∃ last, LastHit p pre last ∧ BoxL W [(rb, 3, .int .i64 (last.val : Int)), (ob, 4, .bool true)]) ∧ Below B w W
theorem srchI_own {N : Nat} {bxs : List (Nat × TypeId × Value)} {p : Nat → Bool} {B n : Nat} {w : World} (h1 : B ≤ w.heap.size) (h2 : B ≤ n) : OwnFrom n (SrchI (N := N) bxs p B w) :=
  OwnFrom.and (OwnFrom.and (ownFrom_pure _ _) ((boxL_own _).from _)) (ownFrom_below h1 h2)
theorem srchX_own {N : Nat} {rb ob : Nat} {p : Nat → Bool} {B n : Nat} {w : World} (h1 : B ≤ w.heap.size) (h2 : B ≤ n) (c : Code) : OwnFrom n (SrchX (N := N) rb ob p B w c) :=
  OwnFrom.and (fun s X Y row hs hg hr => by
      obtain ⟨hc, last, e1, e4⟩ := hs
      exact ⟨hc, last, e1, boxL_own (fun (_ : Unit) => _) () X Y row e4 hg (fun r e => (hr r e).2)⟩) (ownFrom_below h1 h2)
def FoundPost (w : World) (p : Nat → Bool) (m : Nat) (e : Ending) (w' : World) : Prop := ∃ r ok, e = .returned (.tuple #[.int .i64 r, .bool ok]) ∧ FirstIs p m r ok ∧ Below w.heap.size w w'
theorem firstIs_none {N : Nat} {p : Nat → Bool} (h : NoneYet p (upto N N)) : FirstIs p N 0 false := .inr ⟨rfl, rfl, fun d hd => h ⟨d, hd⟩ (mem_upto.2 hd)⟩
theorem firstIs_hit {N k : Nat} {p : Nat → Bool} {last : Fin N} (hk : k ≤ N) (h : LastHit p (upto N k) last) : FirstIs p N (last.val : Int) true := by
  obtain ⟨ini, e1, e2, e3⟩ := h
  obtain ⟨k', rfl⟩ : ∃ k', k = k' + 1 := by
    cases k with
    | zero => simp [upto] at e1
    | succ k' => exact ⟨k', rfl⟩
  rw [upto_succ (by omega)] at e1
  obtain ⟨rfl, e5⟩ := List.append_inj' e1 rfl
  obtain rfl : (⟨k', by omega⟩ : Fin N) = last := by simpa using e5
  exact .inl ⟨rfl, k', rfl, by omega, e3, fun d hd => e2 ⟨d, by omega⟩ (mem_upto.2 hd)⟩

/-- the end of a function whose two results lie in boxes, behind a range over a function -/
theorem endCells {n : Nat} {fn : Func} {R : Ending → World → Prop} {tmps : Array Value} {W : World} {D rb ob : Nat} {r : Int} {ok : Bool} (s t : Tmp) (hres : fn.results = #[.cell s 3, .cell t 4])
    (h1 : tmps.getD s undef = .pointer (some ⟨rb, 0, none⟩)) (h2 : tmps.getD t undef = .pointer (some ⟨ob, 0, none⟩)) (hb1 : Boxed W rb 3 (.int .i64 r)) (hb2 : Boxed W ob 4 (.bool ok))
    (hK : W.heap[D]? = some (.deferred (some []))) (hR : R (.returned (.tuple #[.int .i64 r, .bool ok])) (W.putObj D (.deferred none))) :
    bodyPostM Fence.wide n Try.prog fn R .ret { tmps := tmps, defers := [{ target := .collected D, args := #[] }] } W := by
  refine ⟨by simp, .inl ⟨_, _, rfl, run_takeDeferred hK, ?_⟩⟩
  have c1 := cell_kept hb1.cell (grownBy_putObj' W D (.deferred none)) (fun r e => by cases e; exact ⟨_, hK, rfl⟩)
  have c2 := cell_kept hb2.cell (grownBy_putObj' W D (.deferred none)) (fun r e => by cases e; exact ⟨_, hK, rfl⟩)
  refine ⟨_, ?_, hR⟩
  simp only [Array.getD_eq_getD_getElem?] at h1 h2
  simp [results, hres, go_sem, h1, h2, c1, c2]
/-- the end of a function whose result lies in temporaries, behind a range over a function -/
theorem below_put {w W : World} {D : Nat} (hB : Below w.heap.size w W) (hD : w.heap.size ≤ D) (hK : W.heap[D]? = some (.deferred (some []))) : Below w.heap.size w (W.putObj D (.deferred none)) :=
  hB.trans (belowK_b (w := w) (Nat.le_refl _) W D _ _ hD hK rfl rfl)
end Go.Proofs.Ytacedadenbinmaa
namespace Go.Proofs.Ytacedadenbinmaa
open Go.RowKit

def FoundPostD (w : World) (p : Nat → Bool) (m : Nat) (e : Ending) (w' : World) : Prop := ∃ r ok, e = .returned (.tuple #[.int .i64 r, .bool ok]) ∧ FirstIs p m r ok ∧ ∃ n, w' = w.drewN n

end Go.Proofs.Ytacedadenbinmaa
namespace Go.Proofs.Ytacedadenbinmaa
open Go.RowKit

/-- a told list and true, or an empty one and false -/
def ListR (w : World) (ok : Bool) (zs : List Int) (e : Ending) (w' : World) : Prop :=
  ∃ v, e = .returned (.tuple #[v, .bool ok]) ∧ OwnI w' w.heap.size v zs ∧ Below w.heap.size w w'

/-- what a row of marks from k holds -/
def marks (k : Int) : Nat → List Int
  | 0 => []
  | n + 1 => k :: marks (k + 1) n
theorem marks_length (k : Int) (n : Nat) : (marks k n).length = n := by
  induction n generalizing k with
  | zero => rfl
  | succ n ih => simp [marks, ih]
theorem marks_get (k : Int) (n j : Nat) (h : j < n) : (marks k n)[j]?.getD 0 = k + j := by
  induction n generalizing k j with
  | zero => omega
  | succ n ih =>
    cases j with
    | zero => simp [marks]
    | succ j => simp only [marks, List.getElem?_cons_succ]; rw [ih (k + 1) j (by omega)]; omega
theorem marks_snoc (k : Int) (n : Nat) : marks k (n + 1) = marks k n ++ [k + n] := by
  induction n generalizing k with
  | zero => simp [marks]
  | succ n ih => rw [marks, ih (k + 1), marks, List.cons_append]; congr 2; congr 1; omega
theorem marks_fill (k : Int) (zs : List Int) (j : Nat) (h : j < zs.length) : (marks k j ++ zs.drop j).set j (k + j) = marks k (j + 1) ++ zs.drop (j + 1) := by
  rw [marks_snoc, List.set_append_right _ _ (by rw [marks_length]; omega), marks_length, Nat.sub_self]
  rw [List.drop_eq_getElem_cons h, List.set_cons_zero]
  simp
theorem fill_len (k : Int) (zs : List Int) (j : Nat) (h : j ≤ zs.length) : (marks k j ++ zs.drop j).length = zs.length := by simp [marks_length]; omega

def MarkPost (w : World) (B : Nat) (v : Value) (k : Int) (n : Nat) (e : Ending) (w' : World) : Prop := e = .returned (.int .i64 (k + n)) ∧ OwnI w' B v (marks k n) ∧ w.grownBy w' v.ownBlock

end Go.Proofs.Ytacedadenbinmaa
namespace Go.Proofs.Ytacedadenbinmaa
open Go.RowKit Go.Shelf
attribute [local go_sem] Oper.semAt_some

/-- a tally in a boxed slice, while the choices go by -/
def TalI (N B0 bx : Nat) (key : Nat → Option Nat) (L : Nat) (v : Value) (bxs : List (Nat × TypeId × Value)) (w : World) (pre : List (Fin N)) (W : World) : Prop :=
  (OwnI W B0 v (tallyL key L (pre.map Fin.val)) ∧ BoxL W ((bx, 22, v) :: bxs)) ∧ Below w.heap.size w W
theorem ownI_own {β : Type} (B0 : Nat) (v : Value) (f : β → List Int) : Own (fun s W => OwnI W B0 v (f s)) := fun s X Y row hs hg hrow =>
  hs.kept hg (by
    cases hv : v.ownBlock with
    | none => exact .inl rfl
    | some g =>
      refine .inr (fun e => ?_)
      obtain ⟨o, ho, hc⟩ := hrow g e.symm
      rcases hs.2 with ⟨rfl, _⟩ | ⟨g', cap, cur, rfl, _, hg', _⟩
      · simp [Value.ownBlock] at hv
      · simp [Value.ownBlock] at hv
        subst hv
        rw [ho] at hg'; cases hg'; cases hc)
theorem talI_own {N B0 bx L : Nat} {key : Nat → Option Nat} {v : Value} {bxs : List (Nat × TypeId × Value)} {w : World} {n : Nat} (h2 : w.heap.size ≤ n) : OwnFrom n (TalI N B0 bx key L v bxs w) :=
  OwnFrom.and (OwnFrom.and ((ownI_own _ _ _).from _) ((boxL_own _).from _)) (ownFrom_below (Nat.le_refl _) h2)

end Go.Proofs.Ytacedadenbinmaa
namespace Go.Proofs.Ytacedadenbinmaa
open Go.RowKit Go.Shelf
attribute [local go_sem] Oper.semAt_some

end Go.Proofs.Ytacedadenbinmaa
namespace Go.Proofs.Ytacedadenbinmaa
open Go.RowKit

def CountsPost (w : World) (zs : List Int) (e : Ending) (w' : World) : Prop := ∃ v, e = .returned v ∧ OwnI w' w.heap.size v zs ∧ Below w.heap.size w w'
theorem sumC_take (zs : List Int) (hg : good zs) (k : Nat) (hk : k < zs.length) : sumC (zs.take (k + 1)) = stepK (sumC (zs.take k)) (zs[k]?.getD 0).toNat (sumC (zs.take k)).length := by
  rw [take_snoc zs k hk, sumC_snoc _ _ (good_take hg k) (good_get hg k hk).1]
theorem sumC_mem {zs : List Int} (hl : zs.length ≤ 10) (j : Nat) : 0 ≤ (sumC zs)[j]?.getD 0 ∧ (sumC zs)[j]?.getD 0 ≤ 1024 := by
  have h1 := tally_bd (sumKey zs) ((tot zs).toNat + 1) (2 ^ zs.length) j
  have h2 : 2 ^ zs.length ≤ 2 ^ 10 := Nat.pow_le_pow_right (by omega) hl
  unfold sumC
  omega
theorem stepK_bd {O : List Int} {M : Int} (h : ∀ j : Nat, 0 ≤ O[j]?.getD 0 ∧ O[j]?.getD 0 ≤ M) (x v j : Nat) : 0 ≤ (stepK O x v)[j]?.getD 0 ∧ (stepK O x v)[j]?.getD 0 ≤ 2 * M := by
  have hM : 0 ≤ M := by have := h 0; omega
  by_cases e : j < O.length + x
  · rw [stepK_get O x v j e]
    have h1 := h j
    have h2 := h (j - x)
    split <;> split <;> omega
  · rw [List.getElem?_eq_none (by rw [stepK_length]; omega)]
    simp; omega

end Go.Proofs.Ytacedadenbinmaa
namespace Go.Proofs.Ytacedadenbinmaa
open Go.RowKit

theorem sumCR_length (zs : List Int) : (if inL zs = true then sumC zs else []).length ≤ 601 := by
  by_cases hz : inL zs = true
  · have hzl := (inL_iff zs).1 hz
    have := tot_bd hzl.2
    rw [if_pos hz, sumC_length]; omega
  · rw [if_neg hz]; simp
end Go.Proofs.Ytacedadenbinmaa
namespace Go.Proofs.Ytacedadenbinmaa
open Go.RowKit

/-- the answer of RestReach -/
def restR (zs : List Int) (n : Int) : List Int := if restOk zs n = true then reachL (restC zs n) else []
theorem restC_length (zs : List Int) (n : Int) : (restC zs n).length = n.toNat := tally_length _ _ _

theorem restR_length (zs : List Int) (n : Int) : (restR zs n).length ≤ 6 := by
  unfold restR
  split
  · rename_i hz
    have h1 := ((restOk_iff zs n).1 hz).2
    have h2 := reachK_length (restC zs n) (restC zs n).length
    rw [restC_length] at h2
    unfold reachL
    rw [restC_length]
    omega
  · simp
theorem restCR_length (zs : List Int) (n : Int) : (if restOk zs n = true then restC zs n else []).length ≤ 6 := by
  by_cases hz : restOk zs n = true
  · rw [if_pos hz, restC_length]; have := ((restOk_iff zs n).1 hz).2; omega
  · rw [if_neg hz]; simp
end Go.Proofs.Ytacedadenbinmaa
namespace Go.Proofs.Ytacedadenbinmaa
open Go.RowKit

/-- the answer of SumReach -/
def sumRR (zs : List Int) : List Int := if inL zs = true then reachL (sumC zs) else []

theorem sumRR_length (zs : List Int) : (sumRR zs).length ≤ 601 := by
  unfold sumRR
  split
  · rename_i hz
    have h2 := reachK_length (sumC zs) (sumC zs).length
    have := sumCR_length zs
    rw [if_pos hz] at this
    unfold reachL
    omega
  · simp
end Go.Proofs.Ytacedadenbinmaa
namespace Go.Proofs.Ytacedadenbinmaa
open Go.RowKit Go.Shelf
attribute [local go_sem] Oper.semAt_some

/-- a count in a box, while the choices go by -/
def CntI (N : Nat) (bt bc B : Nat) (T : Int) (p : Nat → Bool) (w : World) (pre : List (Fin N)) (W : World) : Prop :=
  BoxL W [(bt, 3, .int .i64 T), (bc, 3, .int .i64 ((pre.map Fin.val).countP p : Nat))] ∧ Below B w W
theorem cntI_own {N bt bc B n : Nat} {T : Int} {p : Nat → Bool} {w : World} (h1 : B ≤ w.heap.size) (h2 : B ≤ n) : OwnFrom n (CntI N bt bc B T p w) :=
  OwnFrom.and ((boxL_own _).from _) (ownFrom_below h1 h2)
def halfP (zs : List Int) (c : Nat) : Bool := 2 * csum zs c == tot zs
def NumPost (w : World) (r : Int) (ok : Bool) (e : Ending) (w' : World) : Prop := e = .returned (.tuple #[.int .i64 r, .bool ok]) ∧ Below w.heap.size w w'

/-- how many choices have half the total -/
def halfC (zs : List Int) : Int := if inL zs = true then ((cntN (halfP zs) (2 ^ zs.length) : Nat) : Int) else 0
theorem halfC_even {zs : List Int} (hz : inL zs = true) (h : tot zs % 2 = 0) : halfC zs = (sumC zs)[(tot zs / 2).toNat]?.getD 0 := by
  have hzl := (inL_iff zs).1 hz
  have htb := tot_bd hzl.2
  rw [halfC, if_pos hz, sumC_get _ (by omega)]
  congr 1
  apply cntN_congr
  intro c hc
  have h2 := csum_bd hzl.2 c
  rw [Bool.eq_iff_iff]
  simp only [halfP, sumKey, beq_iff_eq, Option.some.injEq]
  omega
theorem cntN_none {p : Nat → Bool} {m : Nat} (h : ∀ c, c < m → p c = false) : cntN p m = 0 := by
  induction m with
  | zero => rfl
  | succ m ih => rw [cntN, ih (fun c hc => h c (by omega)), h m (by omega)]; rfl
theorem halfC_odd {zs : List Int} (h : tot zs % 2 = 1) : halfC zs = 0 := by
  unfold halfC
  split
  · rw [cntN_none]
    · rfl
    · intro c _
      simp only [halfP, beq_eq_false_iff_ne, ne_eq]
      omega
  · rfl
theorem cntN_split (p : Nat → Bool) (a b : Nat) : cntN p (a + b) = cntN p a + cntN (fun c => p (a + c)) b := cntN_add p a b
theorem cntN_shift_rev (p : Nat → Bool) (m : Nat) : cntN (fun c => p (m + c)) m = cntN (fun c => p (2 * m - 1 - c)) m := by
  rw [cntN_rev]
  exact cntN_congr (fun c hc => by rw [show m + (m - 1 - c) = 2 * m - 1 - c by omega])
theorem halfC_pairs {zs : List Int} (hl : 1 ≤ zs.length) : halfC zs % 2 = 0 := by
  unfold halfC
  split
  · obtain ⟨k, hk⟩ : ∃ k, zs.length = k + 1 := ⟨zs.length - 1, by omega⟩
    have e : 2 ^ zs.length = 2 ^ k + 2 ^ k := by rw [hk, Nat.pow_succ]; omega
    have h2 : cntN (fun c => halfP zs (2 ^ k + c)) (2 ^ k) = cntN (halfP zs) (2 ^ k) := by
      rw [cntN_shift_rev]
      apply cntN_congr
      intro c hc
      have := csum_compl zs c (by omega)
      rw [e] at this
      rw [Bool.eq_iff_iff]
      simp only [halfP, beq_iff_eq]
      rw [show 2 * 2 ^ k - 1 - c = 2 ^ k + 2 ^ k - 1 - c by omega]
      omega
    rw [e, cntN_add, h2]; omega
  · rfl
theorem halfC_nil : halfC [] = 1 := by decide
end Go.Proofs.Ytacedadenbinmaa
