/- The iterator choiceSums: its contract (a range over a function), for lists in range. Conditions: at most 20 numbers from 1 to 60. -/
import Derived.RangeFuncNested
import Derived.RangeFuncBound
import Derived.RangeFuncCalls
import Derived.RangeFuncLeaves
import Derived.RangeFuncBox
import Derived.Shelf.Abstract
import Derived.Shelf.RegionOpen
import Derived.OwnWalkIn
import Derived.TacticsInMore
import Derived.LoopNIn
import Derived.LoopIn
import Derived.Test.YtdpapalfafjncaaGreatDoorW1
import Derived.Test.YtdpapalfafjncaaGreatDoorM8
namespace Go.Proofs.YtdpapalfafjncaaGreatDoor
open Go.RowKit Go.Shelf
attribute [local go_sem] Oper.semAt_some

theorem makeIIn {F : Fence} {fu : Nat} (w : World) {ops : Array Oper} {rest : List Oper} {o : Oper} {a : Act} {Q : Exit → Act → World → Prop} (hgd : o.guard = none) (l c : Operand)
    (ho : o.op = Op.makeSlice 23 l c) (n : Nat) (N : Int) (hl : a.eval l = .int .i64 N) (hc : a.eval c = .int .i64 N) (hN : N = (n : Int)) (hn : n ≤ 4000000)
    (h : ∀ w', OwnI w' w.heap.size (.slice (some ⟨w.heap.size, 0, none⟩) n n) (List.replicate n 0) → w.grownBy w' none → wpListIn F fu Tryz.prog ops Q rest (a.put o.dst (.slice (some ⟨w.heap.size, 0, none⟩) n n)) w') :
    wpListIn F fu Tryz.prog ops Q (o :: rest) a w := by
  obtain ⟨i0, hi, hz0, hz1, hz2⟩ := info_parts Tryz.infoInt
  refine wpListIn_plain hgd fun K hK' => ?_
  obtain ⟨w', hrun, r1, r2⟩ := run_make_full (P := Tryz.prog) w w.heap.size 23 3 i0 (.int .i64 0) 1 Tryz.underlying23 hi hz0 hz1 .i64 .i64 n (by rw [hz2]; omega) (by unfold maxLen; omega) (Nat.le_refl _)
  subst hN
  unfold Oper.wpIn
  refine ⟨by simp [Oper.about, ho], ?_⟩
  rw [Oper.semAt_plain F _ _ (by rw [ho]; intro c hc'; cases hc')]
  simp [execOp, ho, hl, hc, hrun, Result.andThen]
  refine hK' _ _ (h w' ?_ r2)
  unfold OwnI
  rw [List.length_replicate, List.map_replicate]
  rw [Nat.mul_one] at r1
  have e : (madeCells (Value.cells (.int .i64 0)) n).toList = List.replicate n (.int .i64 0) := toList_madeCells_one _ _
  rw [e] at r1
  exact r1

/-- the first k choices -/
def upto (N k : Nat) : List (Fin N) := (List.finRange N).take k
theorem upto_succ {N k : Nat} (h : k < N) : upto N (k + 1) = upto N k ++ [⟨k, h⟩] := by
  unfold upto
  rw [List.take_add_one, List.getElem?_eq_getElem (by simpa using h)]
  simp
theorem upto_succ' {N : Nat} (x : Fin N) : upto N (x.val + 1) = upto N x.val ++ [x] := upto_succ x.isLt
theorem upto_vals (N : Nat) : (upto N N).map Fin.val = List.range N := by
  apply List.ext_getElem
  · simp [upto]
  · intro i h1 h2; simp [upto]
theorem upto_length {N k : Nat} (h : k ≤ N) : (upto N k).length = k := by simp [upto]; omega
theorem mem_upto {N k : Nat} {c : Fin N} : c ∈ upto N k ↔ c.val < k := by
  unfold upto
  rw [List.mem_take_iff_getElem]
  constructor
  · rintro ⟨i, hi, rfl⟩
    simp at hi ⊢; omega
  · intro h
    exact ⟨c.val, by simp only [List.length_finRange]; have := c.isLt; omega, by simp⟩
/-- what a round of the caller keeps: blocks below n₀, and the iterator's own box -/
def KpC (n₀ Bs : Nat) (A B : World) : Prop := Below n₀ A B ∧ B.cell? ⟨Bs, 0, none⟩ = A.cell? ⟨Bs, 0, none⟩
theorem KpC.trans {n₀ Bs : Nat} {A B C : World} (h : KpC n₀ Bs A B) (k : KpC n₀ Bs B C) : KpC n₀ Bs A C := ⟨h.1.trans k.1, k.2.trans h.2⟩
theorem KpC.put {n₀ Bs : Nat} {w : World} (hn : n₀ ≤ w.heap.size) (hB : Bs < w.heap.size) (W : World) (l : Nat) (o o' : Obj) (hl : w.heap.size ≤ l) (h : W.heap[l]? = some o) (h1 : o.isCells = false) (h2 : o.isWalk = false) : KpC n₀ Bs W (W.putObj l o') :=
  ⟨belowK_b hn W l o o' hl h h1 h2, World.cell?_of_block (World.putObj_heap_other (by show Bs ≠ l; omega))⟩
theorem KpC.refl (n₀ Bs : Nat) (W : World) : KpC n₀ Bs W W := ⟨Below.refl _ _, rfl⟩

set_option maxRecDepth 100000 in
set_option maxHeartbeats 2000000 in
/-- choiceSums's closure, for every loop body that keeps what lay below n₀. -/
theorem cs1_in (n l Bs n₀ : Nat) (a : Option Addr) (cap : Nat) (zs : List Int) (hl : zs.length ≤ 20) (hg : good zs) (J Jx : List (Fin (2 ^ zs.length)) → World → Prop)
    (hY : ∀ pre x W, J pre W → pre.length < 2 ^ zs.length → YieldAt Fence.wide (n - 1) Tryz.prog l #[.int .i64 (x.val : Int), .int .i64 (csum zs x.val)] W fun e W' =>
      (e = .returned (.bool true) ∧ J (pre ++ [x]) W' ∧ KpC n₀ Bs W W') ∨ (e = .returned (.bool false) ∧ Jx (pre ++ [x]) W'))
    (W : World) (hBs : W.cell? ⟨Bs, 0, none⟩ = some (.slice a zs.length cap)) (hI : ∀ W', Below n₀ W W' → IntsAt W' a zs) (h0 : J [] W) :
    CallsIn Fence.wide n Tryz.prog 163 #[.func (.yield l) #[] #[], .pointer (some ⟨Bs, 0, none⟩)] W fun e W' => (∃ v, e = .returned v) ∧
      (J (upto (2 ^ zs.length) (2 ^ zs.length)) W' ∨ (∃ k, k ≤ 2 ^ zs.length ∧ Jx (upto (2 ^ zs.length) k) W')) := by
  have hp := pow_bd zs.length hl
  refine callsIn_of_wp Tryz.func163 rfl trivial ?_ rfl
  simp only [Tryz.ntmps163, List.size_toArray, List.length_cons, List.length_nil, Nat.reduceAdd, Nat.reduceSub, Array.replicate_succ, Array.replicate_zero, List.push_toArray, List.append_toArray, List.nil_append, List.cons_append]
  gi_wp2
  gi_loopw [7] (fun i wr => ∃ k : Nat, k ≤ 2 ^ zs.length ∧ i = .int .i64 k ∧ J (upto (2 ^ zs.length) k) wr ∧ KpC n₀ Bs W wr)
    (fun i _ => 2 ^ zs.length - (intOf i).toNat)
  case atStart => exact ⟨0, Nat.zero_le _, rfl, h0, KpC.refl _ _ _⟩
  case round =>
    obtain ⟨k, hk, rfl, hJs, hnx⟩ := hrel
    have hk2 : (k : Int) ≤ 2 ^ zs.length := by exact_mod_cast hk
    have hcs : wr.cell? ⟨Bs, 0, none⟩ = some (.slice a zs.length cap) := hnx.2.trans hBs
    by_cases hlt : k < 2 ^ zs.length
    · obtain ⟨x, rfl⟩ : ∃ x : Fin (2 ^ zs.length), x.val = k := ⟨⟨k, hlt⟩, rfl⟩
      obtain ⟨fn, tmps, assign, body, hy, hR⟩ := hY _ x wr hJs (by rw [upto_length hk]; exact hlt)
      have hlt2 : (x.val : Int) < 2 ^ zs.length := by exact_mod_cast hlt
      have HL := Lib.hid hlt
      clear hlt hk
      gi_wp2_with (refine ⟨trivial, (fun h => by cases h), ?_⟩; gi_at_call 164; refine (callsIn_wide.2 (csum_any x.val a cap zs _ (by omega) (by omega) hg (hI _ hnx.1))).mono ?_; rintro e w' ⟨rfl, rfl⟩)
      refine ⟨(fun h => by cases h), hR.mono ?_⟩
      rintro e W3 (⟨rfl, hJ3, hk3⟩ | ⟨rfl, hJx3⟩)
      · gi_wp2
        go_roundw
        case rel => exact ⟨x.val + 1, HL.out, by go_num, by rw [upto_succ']; exact hJ3, hnx.trans hk3⟩
        case measure => have := HL.out; simp [intOf]; omega
      · gi_wp2
        refine bodyPost_ret (results_none rfl _ _ _) rfl ?_
        exact ⟨⟨_, rfl⟩,   .inr ⟨x.val + 1, HL.out, by rw [upto_succ']; exact hJx3⟩⟩
    · obtain rfl : k = 2 ^ zs.length := by omega
      gi_wp2
      go_end0
      exact ⟨⟨_, rfl⟩, .inl hJs⟩

/-- choiceSums(a) hands back a value that goes through all choices, or stops. -/
theorem cs_stops (n Bs n₀ : Nat) (a : Option Addr) (cap : Nat) (zs : List Int) (hl : zs.length ≤ 20) (hg : good zs) (w : World) (hBs : Bs < w.heap.size) (hn₀ : n₀ ≤ w.heap.size)
    (hc : w.cell? ⟨Bs, 0, none⟩ = some (.slice a zs.length cap)) (hI : ∀ W', Below n₀ w W' → IntsAt W' a zs) :
    SeqStopsK Fence.wide n Tryz.prog 163 #[.pointer (some ⟨Bs, 0, none⟩)] (fun c : Fin (2 ^ zs.length) => #[Value.int .i64 (c.val : Int), Value.int .i64 (csum zs c.val)]) (KpC n₀ Bs) (fun ys => ys = upto (2 ^ zs.length) (2 ^ zs.length)) (fun pre => ∃ k, k ≤ 2 ^ zs.length ∧ pre = upto (2 ^ zs.length) k) (2 ^ zs.length) w := fun l J Jx W hW _ _ hY h0 => by
  refine (cs1_in n l Bs n₀ a cap zs hl hg J Jx hY W ((hW.cell (p := ⟨Bs, 0, none⟩) hBs).trans hc) (fun W' h => hI W' ((hW.mono hn₀).trans h)) h0).mono ?_
  rintro e W' ⟨he, h | ⟨k, hk, h⟩⟩
  · exact ⟨he, .inl ⟨_, rfl, h⟩⟩
  · exact ⟨he, .inr ⟨_, ⟨k, hk, rfl⟩, h⟩⟩

theorem choiceSums_in (n : Nat) (a : Option Addr) (len cap : Nat) (w : World) :
    CallsIn Fence.wide n Tryz.prog 137 #[.slice a len cap] w fun e w' => e = .returned (.func (.func 163) #[] #[.pointer (some ⟨w.heap.size, 0, none⟩)]) ∧ w.alloc (.cells #[.slice a len cap] 23) = w' := by
  refine callsIn_of_wp Tryz.func137 rfl trivial ?_ rfl
  simp only [Tryz.ntmps137, List.size_toArray, List.length_cons, List.length_nil, Nat.reduceAdd, Nat.reduceSub, Array.replicate_succ, Array.replicate_zero, List.push_toArray, List.append_toArray, List.nil_append, List.cons_append]
  gi_wp2
  go_ret
  exact ⟨rfl, rfl⟩

theorem _root_.Go.Boxed.keptSet {W : World} {B g j : Nat} {t : TypeId} {v : Value} (h : Boxed W B t v) (hne : B ≠ g) (u : Value) : Boxed ((W.setCell ⟨g, j, none⟩ u).drew) B t v :=
  (h.kept (grownBy_set W g j u) (fun e => hne (by cases e; rfl)) : Boxed (W.setCell ⟨g, j, none⟩ u) B t v)
theorem _root_.Go.Boxed.keptSet' {W : World} {B g j : Nat} {t : TypeId} {v : Value} (h : Boxed W B t v) (hne : B ≠ g) (u : Value) : Boxed (W.setCell ⟨g, j, none⟩ u) B t v :=
  h.kept (grownBy_set W g j u) (fun e => hne (by cases e; rfl))
/-- several boxes at once -/
def BoxL (W : World) : List (Nat × TypeId × Value) → Prop
  | [] => True
  | p :: r => Boxed W p.1 p.2.1 p.2.2 ∧ BoxL W r
theorem BoxL.kept {W W' : World} {row : Option Nat} {l : List (Nat × TypeId × Value)} (h : BoxL W l) (hg : W.grownBy W' row) (hne : ∀ p ∈ l, some p.1 ≠ row) : BoxL W' l := by
  induction l with
  | nil => trivial
  | cons p r ih => exact ⟨h.1.kept hg (hne p (List.mem_cons_self ..)), ih h.2 (fun q hq => hne q (List.mem_cons_of_mem _ hq))⟩
theorem BoxL.isCells {W : World} {l : List (Nat × TypeId × Value)} (h : BoxL W l) : ∀ p ∈ l, ∃ o : Obj, W.heap[p.1]? = some o ∧ o.isCells = true := by
  induction l with
  | nil => intro p hp; cases hp
  | cons q r ih =>
    intro p hp
    rcases List.mem_cons.1 hp with rfl | hp
    · exact ⟨_, h.1, rfl⟩
    · exact ih h.2 p hp
theorem boxL_own {β : Type} (f : β → List (Nat × TypeId × Value)) : Own (fun s W => BoxL W (f s)) := fun s X Y row hs hg hrow =>
  hs.kept hg (fun p hp e' => by
    obtain ⟨o, ho, hc⟩ := hrow p.1 e'.symm
    obtain ⟨o', ho', hc'⟩ := hs.isCells p hp
    rw [ho] at ho'; cases ho'; rw [hc] at hc'; cases hc')
theorem BoxL.alloc {W : World} {l : List (Nat × TypeId × Value)} (h : BoxL W l) (o : Obj) : BoxL (W.alloc o) l := h.kept (World.grownBy_alloc W o none) (fun _ _ => by simp)

/-! a search through all choices: nothing found yet; found and left -/
def NoneYet {N : Nat} (p : Nat → Bool) (pre : List (Fin N)) : Prop := ∀ x ∈ pre, p x.val = false
theorem NoneYet.nil {N : Nat} (p : Nat → Bool) : NoneYet p ([] : List (Fin N)) := fun x hx => by cases hx
theorem NoneYet.snoc {N : Nat} {p : Nat → Bool} {pre : List (Fin N)} {x : Fin N} (h : NoneYet p pre) (hx : p x.val = false) : NoneYet p (pre ++ [x]) := fun y hy => by
  rcases List.mem_append.1 hy with hy | hy
  · exact h y hy
  · rw [List.mem_singleton.1 hy]; exact hx
def LastHit {N : Nat} (p : Nat → Bool) (pre : List (Fin N)) (last : Fin N) : Prop := ∃ ini, pre = ini ++ [last] ∧ NoneYet p ini ∧ p last.val = true
def SrchI {N : Nat} (bxs : List (Nat × TypeId × Value)) (p : Nat → Bool) (B : Nat) (w : World) (pre : List (Fin N)) (W : World) : Prop := (NoneYet p pre ∧ BoxL W bxs) ∧ Below B w W
def SrchX {N : Nat} (rb ob : Nat) (p : Nat → Bool) (B : Nat) (w : World) (c : Code) (pre : List (Fin N)) (W : World) : Prop :=
  (c = .ret ∧ ∃ last, LastHit p pre last ∧ BoxL W [(rb, 3, .int .i64 (last.val : Int)), (ob, 4, .bool true)]) ∧ Below B w W
theorem srchI_own {N : Nat} {bxs : List (Nat × TypeId × Value)} {p : Nat → Bool} {B n : Nat} {w : World} (h1 : B ≤ w.heap.size) (h2 : B ≤ n) : OwnFrom n (SrchI (N := N) bxs p B w) :=
  OwnFrom.and (OwnFrom.and (ownFrom_pure _ _) ((boxL_own _).from _)) (ownFrom_below h1 h2)
theorem srchX_own {N : Nat} {rb ob : Nat} {p : Nat → Bool} {B n : Nat} {w : World} (h1 : B ≤ w.heap.size) (h2 : B ≤ n) (c : Code) : OwnFrom n (SrchX (N := N) rb ob p B w c) :=
  OwnFrom.and (fun s X Y row hs hg hr => by
      obtain ⟨hc, last, e1, e4⟩ := hs
      exact ⟨hc, last, e1, boxL_own (fun (_ : Unit) => _) () X Y row e4 hg (fun r e => (hr r e).2)⟩) (ownFrom_below h1 h2)
def FoundPost (w : World) (p : Nat → Bool) (m : Nat) (e : Ending) (w' : World) : Prop := ∃ r ok, e = .returned (.tuple #[.int .i64 r, .bool ok]) ∧ FirstIs p m r ok ∧ Below w.heap.size w w'
theorem firstIs_none {N : Nat} {p : Nat → Bool} (h : NoneYet p (upto N N)) : FirstIs p N 0 false := .inr ⟨rfl, rfl, fun d hd => h ⟨d, hd⟩ (mem_upto.2 hd)⟩
theorem firstIs_hit {N k : Nat} {p : Nat → Bool} {last : Fin N} (hk : k ≤ N) (h : LastHit p (upto N k) last) : FirstIs p N (last.val : Int) true := by
  obtain ⟨ini, e1, e2, e3⟩ := h
  obtain ⟨k', rfl⟩ : ∃ k', k = k' + 1 := by
    cases k with
    | zero => simp [upto] at e1
    | succ k' => exact ⟨k', rfl⟩
  rw [upto_succ (by omega)] at e1
  obtain ⟨rfl, e5⟩ := List.append_inj' e1 rfl
  obtain rfl : (⟨k', by omega⟩ : Fin N) = last := by simpa using e5
  exact .inl ⟨rfl, k', rfl, by omega, e3, fun d hd => e2 ⟨d, by omega⟩ (mem_upto.2 hd)⟩

/-- the end of a function whose two results lie in boxes, behind a range over a function -/
theorem endCells {n : Nat} {fn : Func} {R : Ending → World → Prop} {tmps : Array Value} {W : World} {D rb ob : Nat} {r : Int} {ok : Bool} (s t : Tmp) (hres : fn.results = #[.cell s 3, .cell t 4])
    (h1 : tmps.getD s undef = .pointer (some ⟨rb, 0, none⟩)) (h2 : tmps.getD t undef = .pointer (some ⟨ob, 0, none⟩)) (hb1 : Boxed W rb 3 (.int .i64 r)) (hb2 : Boxed W ob 4 (.bool ok))
    (hK : W.heap[D]? = some (.deferred (some []))) (hR : R (.returned (.tuple #[.int .i64 r, .bool ok])) (W.putObj D (.deferred none))) :
    bodyPostM Fence.wide n Tryz.prog fn R .ret { tmps := tmps, defers := [{ target := .collected D, args := #[] }] } W := by
  refine ⟨by simp, .inl ⟨_, _, rfl, run_takeDeferred hK, ?_⟩⟩
  have c1 := cell_kept hb1.cell (grownBy_putObj' W D (.deferred none)) (fun r e => by cases e; exact ⟨_, hK, rfl⟩)
  have c2 := cell_kept hb2.cell (grownBy_putObj' W D (.deferred none)) (fun r e => by cases e; exact ⟨_, hK, rfl⟩)
  refine ⟨_, ?_, hR⟩
  simp only [Array.getD_eq_getD_getElem?] at h1 h2
  simp [results, hres, go_sem, h1, h2, c1, c2]
/-- the end of a function whose result lies in temporaries, behind a range over a function -/
theorem below_put {w W : World} {D : Nat} (hB : Below w.heap.size w W) (hD : w.heap.size ≤ D) (hK : W.heap[D]? = some (.deferred (some []))) : Below w.heap.size w (W.putObj D (.deferred none)) :=
  hB.trans (belowK_b (w := w) (Nat.le_refl _) W D _ _ hD hK rfl rfl)
end Go.Proofs.YtdpapalfafjncaaGreatDoor
