/- fill: numbers put into linked bins by a rule. Conditions: stated in each. Ahead of it: What lists and sizes are told of both; fill. Conditions: stated in each. Ahead of it: The linked bins: what lies where, opening a bin, putting a number. Conditions: stated in each. BinBy, BinCount and BinRoom of the program. Conditions: stated in each. Ahead of it: Lists of lists that a call owns, and those that are only read; append of a list. Conditions: stated in each. append of a slice as one step of a region that draws. Conditions: stated in the lemma. Ahead of it: append of a slice onto a slice that the call owns. Conditions: stated in the lemma. One step of the differences rule, in plain words. Conditions: none. Ahead of it: A number put into an ordered list, in plain words. Conditions: none. HalfDifferences of the reference. Conditions: stated in each. Ahead of it: HalfGreedy of the reference. Conditions: stated in each. Ahead of it: l1Sorted of the reference (under way). Conditions: the list has at most 12 numbers. The draws of weights. Conditions: stated in each. The reference's bins: what is told, descending order, the bin that is found. Conditions: stated in each. -/
import Derived.Test.YtdpapalfafjncaaGreatDoorZk
import Derived.Test.YtdpapalfafjncaaGreatDoorZe
import Derived.Test.YtdpapalfafjncaaGreatDoorZl
import Derived.Maps.AppendAt
import Derived.Test.YtdpapalfafjncaaGreatDoorZa
import Derived.Deep.RegionLaw
import Derived.Test.YtdpapalfafjncaaGreatDoorZj
import Derived.Test.YtdpapalfafjncaaGreatDoorZd
import Derived.Test.YtdpapalfafjncaaGreatDoorZf
set_option linter.unusedVariables false
set_option linter.unusedSimpArgs false
set_option linter.unusedSectionVars false
namespace Go.Proofs.YtdpapalfafjncaaGreatDoor
open Go.RowKit

def vA (vs : List Value) (i : Nat) : Value := vs[i]?.getD (.slice none 0 0)
/-- the linked bins: bin i lies in block bl[i], owns its numbers, knows its room and the next bin -/
structure Bins (w : World) (base : Nat) (size : Int) (bl : List Nat) (vs : List Value) (bs : List (List Int)) : Prop where
  l1 : bl.length = bs.length
  l2 : vs.length = bs.length
  blk : ∀ i (h : i < bl.length), w.heap[bl[i]]? = some (.cells #[vA vs i, .int .i64 (rm size bs i), ptrAt bl (i + 1)] 132 (0, 0))
  own : ∀ i, i < bs.length → OwnI w base (vA vs i) (bs[i]?.getD [])
  ge : ∀ i (h : i < bl.length), base ≤ bl[i]
  nd : ∀ i j (hi : i < bl.length) (hj : j < bl.length), bl[i] = bl[j] → i = j
  ap : ∀ i g, i < bs.length → (vA vs i).ownBlock = some g → (∀ j (h : j < bl.length), bl[j] ≠ g) ∧ ∀ j, j < bs.length → j ≠ i → (vA vs j).ownBlock ≠ some g
theorem bins_nil (w : World) (base : Nat) (size : Int) : Bins w base size [] [] [] :=
  ⟨rfl, rfl, fun i h => absurd h (Nat.not_lt_zero _), fun i h => absurd h (Nat.not_lt_zero _), fun i h => absurd h (Nat.not_lt_zero _), fun i j h => absurd h (Nat.not_lt_zero _), fun i g h => absurd h (Nat.not_lt_zero _)⟩
theorem Bins.dr {w : World} {base : Nat} {size : Int} {bl : List Nat} {vs : List Value} {bs : List (List Int)} (h : Bins w base size bl vs bs) (n : Nat) : Bins (w.drewN n) base size bl vs bs :=
  ⟨h.l1, h.l2, h.blk, fun i hi => (h.own i hi).dr n, h.ge, h.nd, h.ap⟩
theorem Bins.lt {w : World} {base : Nat} {size : Int} {bl : List Nat} {vs : List Value} {bs : List (List Int)} (h : Bins w base size bl vs bs) {i : Nat} (hi : i < bl.length) : bl[i] < w.heap.size := (Array.getElem?_eq_some_iff.1 (h.blk i hi)).1
theorem rooms_get (size : Int) (bs : List (List Int)) (i : Nat) (h : i < bs.length) : (bs.map (fun b => size - tot b))[i]?.getD 0 = rm size bs i := by
  rw [List.getElem?_map, List.getElem?_eq_getElem h, rm, List.getElem?_eq_getElem h]; rfl
theorem Bins.chain {w : World} {base : Nat} {size : Int} {bl : List Nat} {vs : List Value} {bs : List (List Int)} (h : Bins w base size bl vs bs) : Chain w bl (bs.map (fun b => size - tot b)) := by
  refine ⟨by rw [List.length_map]; exact h.l1, fun i hi => ?_⟩
  have hb := h.blk i hi
  rw [rooms_get size bs i (by rw [← h.l1]; exact hi)]
  exact ⟨by simp [World.cell?, hb], by simp [World.cell?, hb]⟩
theorem chs_rooms (r : Nat) (size : Int) (bs : List (List Int)) (x : Int) (n : Nat) (hn : n = bs.length) : chs r (fun i : Nat => (bs.map (fun b => size - tot b))[i]?.getD 0) x n = chs r (rm size bs) x bs.length := by
  subst hn
  exact chs_congr (fun j hj => rooms_get size bs j hj)
theorem grownBy_setA (w : World) (p : Addr) (v : Value) : w.grownBy (w.setCell p v) (some p.block) :=
  ⟨rfl, rfl, rfl, by simp, fun k _ hk => Below.heap_setCell w p v k (fun e => hk (by rw [e]))⟩
/-- bins under a change that leaves their blocks and their rows as they were -/
theorem Bins.keep {w w' : World} {base : Nat} {size : Int} {bl : List Nat} {vs : List Value} {bs : List (List Int)} {row : Option Nat} (h : Bins w base size bl vs bs) (hg : w.grownBy w' row)
    (h1 : ∀ i (hi : i < bl.length), row ≠ some bl[i]) (h2 : ∀ i, i < bs.length → (vA vs i).ownBlock = none ∨ (vA vs i).ownBlock ≠ row) : Bins w' base size bl vs bs :=
  ⟨h.l1, h.l2, fun i hi => (hg.block _ (h.lt hi) (fun e => h1 i hi e.symm)).trans (h.blk i hi), fun i hi => (h.own i hi).kept hg (h2 i hi), h.ge, h.nd, h.ap⟩
theorem Bins.keepB {w w' : World} {base : Nat} {size : Int} {bl : List Nat} {vs : List Value} {bs : List (List Int)} (h : Bins w base size bl vs bs) (hb : Below w.heap.size w w') : Bins w' base size bl vs bs :=
  ⟨h.l1, h.l2, fun i hi => (hb.block _ (h.lt hi)).trans (h.blk i hi), fun i hi => (h.own i hi).keptB hb, h.ge, h.nd, h.ap⟩

/-- a bin is opened: the first one -/
theorem bins_open0 (w : World) (base : Nat) (size : Int) (hb : base ≤ w.heap.size) :
    Bins (w.alloc (.cells #[.slice none 0 0, .int .i64 size, .pointer none] 132)) base size [w.heap.size] [.slice none 0 0] [[]] := by
  refine ⟨rfl, rfl, fun i hi => ?_, fun i hi => ?_, fun i hi => ?_, fun i j hi hj _ => ?_, fun i g hi hg => ?_⟩
  · obtain rfl : i = 0 := by simp at hi; omega
    show (w.alloc _).heap[w.heap.size]? = _
    rw [heap_alloc_new]
    simp [vA, rm, tot, ptrAt]
  · obtain rfl : i = 0 := by simp at hi; omega
    exact OwnI.nil _ _
  · obtain rfl : i = 0 := by simp at hi; omega
    exact hb
  · simp at hi hj; omega
  · obtain rfl : i = 0 := by simp at hi; omega
    cases hg
theorem ptrAt_app {bl : List Nat} {b i : Nat} (h : i < bl.length) : ptrAt (bl ++ [b]) i = ptrAt bl i := by
  unfold ptrAt; rw [List.getElem?_append_left h]
theorem ptrAt_new (bl : List Nat) (b : Nat) : ptrAt (bl ++ [b]) bl.length = .pointer (some ⟨b, 0, none⟩) := by
  unfold ptrAt; simp
theorem vA_app {vs : List Value} {v : Value} {i : Nat} (h : i < vs.length) : vA (vs ++ [v]) i = vA vs i := by
  unfold vA; rw [List.getElem?_append_left h]
theorem vA_new (vs : List Value) (v : Value) : vA (vs ++ [v]) vs.length = v := by
  unfold vA; simp
theorem rm_app {size : Int} {bs : List (List Int)} {b : List Int} {i : Nat} (h : i < bs.length) : rm size (bs ++ [b]) i = rm size bs i := by
  unfold rm; rw [List.getElem?_append_left h]
/-- a bin is opened behind others -/
theorem Bins.open1 {w : World} {base : Nat} {size : Int} {bl : List Nat} {vs : List Value} {bs : List (List Int)} (h : Bins w base size bl vs bs) (hb : base ≤ w.heap.size) (hn : 0 < bl.length) {l : Nat} (hl : bl[bl.length - 1] = l) :
    Bins ((w.alloc (.cells #[.slice none 0 0, .int .i64 size, .pointer none] 132)).setCell ⟨l, 2, none⟩ (.pointer (some ⟨w.heap.size, 0, none⟩))) base size (bl ++ [w.heap.size]) (vs ++ [.slice none 0 0]) (bs ++ [[]]) := by
  have hll : l < w.heap.size := by rw [← hl]; exact h.lt _
  have l1 := h.l1
  have l2 := h.l2
  have hA : Bins (w.alloc (.cells #[.slice none 0 0, .int .i64 size, .pointer none] 132)) base size bl vs bs := h.keepB ((Below.refl _ w).alloc (Nat.le_refl _) _)
  have hG := grownBy_setA (w.alloc (.cells #[.slice none 0 0, .int .i64 size, .pointer none] 132)) ⟨l, 2, none⟩ (.pointer (some ⟨w.heap.size, 0, none⟩))
  refine ⟨by simp [h.l1], by simp [h.l2], fun i hi => ?_, fun i hi => ?_, fun i hi => ?_, fun i j hi hj e => ?_, fun i g hi hg => ?_⟩
  · rw [List.length_append, List.length_singleton] at hi
    by_cases hi2 : i < bl.length
    · rw [List.getElem_append_left hi2, vA_app (by omega), rm_app (by omega)]
      by_cases hi3 : i + 1 < bl.length
      · have hne : bl[i] ≠ l := fun e => by
          have := h.nd i (bl.length - 1) hi2 (by omega) (e.trans hl.symm)
          omega
        rw [ptrAt_app hi3]
        refine (hG.block _ (by simp; have := h.lt hi2; omega) (fun e => hne (Option.some.inj e))).trans ?_
        exact hA.blk i hi2
      · obtain rfl : i = bl.length - 1 := by omega
        rw [hl, show bl.length - 1 + 1 = bl.length by omega, ptrAt_new]
        have hbk := hA.blk (bl.length - 1) hi2
        rw [hl] at hbk
        show ((w.alloc _).heap.modify l _)[l]? = _
        rw [Array.getElem?_modify, if_pos rfl, hbk]
        rfl
    · obtain rfl : i = bl.length := by omega
      rw [List.getElem_concat_length (by rfl)]
      refine (hG.block _ (by simp) (fun e => by have := Option.some.inj e; simp at this; omega)).trans ?_
      rw [heap_alloc_new, show vA (vs ++ [Value.slice none 0 0]) bl.length = .slice none 0 0 by rw [show bl.length = vs.length by omega]; exact vA_new _ _, ptrAt_ge (by simp)]
      congr 3
      unfold rm
      rw [l1, List.getElem?_append_right (Nat.le_refl _), Nat.sub_self]
      simp [tot]
  · rw [List.length_append, List.length_singleton] at hi
    by_cases hi2 : i < bs.length
    · rw [vA_app (by omega), List.getElem?_append_left hi2]
      refine (hA.own i hi2).kept hG ?_
      cases hv : (vA vs i).ownBlock with
      | none => exact .inl rfl
      | some g => exact .inr (fun e => by
          have := (h.ap i g hi2 hv).1 (bl.length - 1) (by omega)
          exact this (hl.trans (Option.some.inj e).symm))
    · obtain rfl : i = bs.length := by omega
      rw [show vA (vs ++ [Value.slice none 0 0]) bs.length = .slice none 0 0 by rw [← l2]; exact vA_new _ _, List.getElem?_append_right (Nat.le_refl _), Nat.sub_self]
      exact OwnI.nil _ _
  · rw [List.length_append, List.length_singleton] at hi
    by_cases hi2 : i < bl.length
    · rw [List.getElem_append_left hi2]; exact h.ge i hi2
    · obtain rfl : i = bl.length := by omega
      rw [List.getElem_concat_length (by rfl)]; exact hb
  · rw [List.length_append, List.length_singleton] at hi hj
    by_cases hi2 : i < bl.length
    · by_cases hj2 : j < bl.length
      · rw [List.getElem_append_left hi2, List.getElem_append_left hj2] at e
        exact h.nd i j hi2 hj2 e
      · obtain rfl : j = bl.length := by omega
        rw [List.getElem_append_left hi2, List.getElem_concat_length (by rfl)] at e
        have := h.lt hi2
        omega
    · obtain rfl : i = bl.length := by omega
      by_cases hj2 : j < bl.length
      · rw [List.getElem_append_left hj2, List.getElem_concat_length (by rfl)] at e
        have := h.lt hj2
        omega
      · omega
  · rw [List.length_append, List.length_singleton] at hi
    by_cases hi2 : i < bs.length
    · rw [vA_app (by omega)] at hg
      have hlt := ((h.own i hi2).lt g hg).2
      refine ⟨fun j hj => ?_, fun j hj hji => ?_⟩
      · rw [List.length_append, List.length_singleton] at hj
        by_cases hj2 : j < bl.length
        · rw [List.getElem_append_left hj2]; exact (h.ap i g hi2 hg).1 j hj2
        · obtain rfl : j = bl.length := by omega
          rw [List.getElem_concat_length (by rfl)]; omega
      · rw [List.length_append, List.length_singleton] at hj
        by_cases hj2 : j < bs.length
        · rw [vA_app (by omega)]; exact (h.ap i g hi2 hg).2 j hj2 hji
        · obtain rfl : j = bs.length := by omega
          rw [show vA (vs ++ [Value.slice none 0 0]) bs.length = .slice none 0 0 by rw [← l2]; exact vA_new _ _]
          exact fun e => by cases e
    · obtain rfl : i = bs.length := by omega
      rw [show vA (vs ++ [Value.slice none 0 0]) bs.length = .slice none 0 0 by rw [← l2]; exact vA_new _ _] at hg
      cases hg
theorem vA_set {vs : List Value} {v : Value} {k i : Nat} (h : k < vs.length) : vA (vs.set k v) i = if k = i then v else vA vs i := by
  unfold vA
  rw [List.getElem?_set]
  by_cases e : k = i
  · subst e; simp [h]
  · rw [if_neg e, if_neg e]
theorem bs_set {bs : List (List Int)} {b : List Int} {k i : Nat} (h : k < bs.length) : (bs.set k b)[i]?.getD [] = if k = i then b else bs[i]?.getD [] := by
  rw [List.getElem?_set]
  by_cases e : k = i
  · subst e; simp [h]
  · rw [if_neg e, if_neg e]
/-- what the walk reads and writes of bin k once its numbers are appended to -/
theorem Bins.facts {w w' : World} {base : Nat} {size : Int} {bl : List Nat} {vs : List Value} {bs : List (List Int)} (h : Bins w base size bl vs bs) {k : Nat} (hk : k < bl.length) {b : Nat} (hb : bl[k] = b) (hG : w.grownBy w' (vA vs k).ownBlock) :
    w'.heap[b]? = some (.cells #[vA vs k, .int .i64 (rm size bs k), ptrAt bl (k + 1)] 132 (0, 0)) := by
  subst hb
  refine (hG.block _ (h.lt hk) (fun e => ?_)).trans (h.blk k hk)
  exact (h.ap k bl[k] (by rw [← h.l1]; exact hk) e.symm).1 k hk rfl
theorem bin_cells {w : World} {b : Nat} {v n : Value} {r : Int} (h : w.heap[b]? = some (.cells #[v, .int .i64 r, n] 132 (0, 0))) :
    w.cell? ⟨b, 0, none⟩ = some v ∧ w.frozen? ⟨b, 0, none⟩ = false ∧ w.cell? ⟨b, 1, none⟩ = some (.int .i64 r) ∧ w.frozen? ⟨b, 1, none⟩ = false ∧ w.cell? ⟨b, 2, none⟩ = some n ∧ w.frozen? ⟨b, 2, none⟩ = false := by
  refine ⟨?_, ?_, ?_, ?_, ?_, ?_⟩ <;> simp [World.cell?, World.frozen?, h]
theorem bin_set0 {w : World} {b : Nat} {v n : Value} {r : Int} (h : w.heap[b]? = some (.cells #[v, .int .i64 r, n] 132 (0, 0))) (u : Value) :
    (w.setCell ⟨b, 0, none⟩ u).heap[b]? = some (.cells #[u, .int .i64 r, n] 132 (0, 0)) := by
  show (w.heap.modify b _)[b]? = _
  rw [Array.getElem?_modify, if_pos rfl, h]
  rfl
theorem bin_set1 {w : World} {b : Nat} {v n : Value} {r : Int} (h : w.heap[b]? = some (.cells #[v, .int .i64 r, n] 132 (0, 0))) (u : Value) :
    (w.setCell ⟨b, 1, none⟩ u).heap[b]? = some (.cells #[v, u, n] 132 (0, 0)) := by
  show (w.heap.modify b _)[b]? = _
  rw [Array.getElem?_modify, if_pos rfl, h]
  rfl
/-- a number is put into bin k -/
theorem Bins.put {w w' : World} {base : Nat} {size : Int} {bl : List Nat} {vs : List Value} {bs : List (List Int)} (h : Bins w base size bl vs bs) {k : Nat} (hk : k < bl.length) {b : Nat} (hb : bl[k] = b) {v' : Value} {x : Int} (hO : OwnI w' base v' (bs[k]?.getD [] ++ [x])) (hG : w.grownBy w' (vA vs k).ownBlock)
    (hat : v'.ownBlock = (vA vs k).ownBlock ∨ v'.ownBlock = some (w.heap.size + 1)) :
    Bins ((w'.setCell ⟨b, 0, none⟩ v').setCell ⟨b, 1, none⟩ (.int .i64 (rm size bs k - x))) base size bl (vs.set k v') (bs.set k (bs[k]?.getD [] ++ [x])) := by
  have l1 := h.l1
  have l2 := h.l2
  have hb' := h.facts hk hb hG
  have hbb := bin_set1 (bin_set0 hb' v') (.int .i64 (rm size bs k - x))
  have hG1 := grownBy_setA w' ⟨b, 0, none⟩ v'
  have hG2 := grownBy_setA (w'.setCell ⟨b, 0, none⟩ v') ⟨b, 1, none⟩ (.int .i64 (rm size bs k - x))
  have hbl : b < w.heap.size := by rw [← hb]; exact h.lt hk
  -- the row of bin k is none of the bins' blocks, and no other bin's row
  have hrow : ∀ i, i < bs.length → i ≠ k → (vA vs i).ownBlock = none ∨ (vA vs i).ownBlock ≠ (vA vs k).ownBlock := fun i hi hik => by
    cases hv : (vA vs k).ownBlock with
    | none => cases hvi : (vA vs i).ownBlock with
      | none => exact .inl rfl
      | some g => exact .inr (fun e => by cases e)
    | some g => exact .inr ((h.ap k g (by omega) hv).2 i hi hik)
  have hv'b : v'.ownBlock ≠ some b := fun e => by
    rcases hat with hat | hat
    · rw [e] at hat
      exact (h.ap k b (by omega) hat.symm).1 k hk hb
    · rw [e] at hat
      have := Option.some.inj hat
      omega
  have hkeep : ∀ u zs, OwnI w' base u zs → u.ownBlock ≠ some b → OwnI ((w'.setCell ⟨b, 0, none⟩ v').setCell ⟨b, 1, none⟩ (.int .i64 (rm size bs k - x))) base u zs := fun u zs hu hne => (hu.kept hG1 (.inr hne)).kept hG2 (.inr hne)
  refine ⟨by simp [h.l1], by simp [h.l2], fun i hi => ?_, fun i hi => ?_, h.ge, h.nd, fun i g hi hg => ?_⟩
  · rw [vA_set (by omega)]
    by_cases e : k = i
    · subst e
      have hrm : rm size (bs.set k (bs[k]?.getD [] ++ [x])) k = rm size bs k - x := by
        unfold rm
        rw [bs_set (by omega), if_pos rfl, tot_app, tot_one]
        omega
      rw [if_pos rfl, hb, hrm]
      exact hbb
    · rw [if_neg e]
      have hne : bl[i] ≠ b := fun e2 => e (h.nd k i hk hi (hb.trans e2.symm))
      have h1 := h.blk i hi
      have h2 : w'.heap[bl[i]]? = w.heap[bl[i]]? := hG.block _ (h.lt hi) (fun e2 => (h.ap k bl[i] (by omega) e2.symm).1 i hi rfl)
      have h3 := hG1.block bl[i] (by have := h.lt hi; have := hG.size; omega) (fun e2 => hne (Option.some.inj e2))
      have h4 := hG2.block bl[i] (by have := h.lt hi; have := hG.size; simp; omega) (fun e2 => hne (Option.some.inj e2))
      rw [h4, h3, h2, h1]
      congr 3
      unfold rm
      rw [bs_set (by omega), if_neg e]
  · rw [List.length_set] at hi
    rw [vA_set (by omega), bs_set (by omega)]
    by_cases e : k = i
    · subst e
      rw [if_pos rfl, if_pos rfl]
      exact hkeep _ _ hO hv'b
    · rw [if_neg e, if_neg e]
      refine hkeep _ _ ((h.own i hi).kept hG (hrow i hi (fun e2 => e e2.symm))) (fun e2 => ?_)
      exact (h.ap i b hi e2).1 k hk hb
  · rw [List.length_set] at hi
    rw [vA_set (by omega)] at hg
    by_cases e : k = i
    · subst e
      rw [if_pos rfl] at hg
      have key : (∀ j (hj : j < bl.length), bl[j] ≠ g) ∧ ∀ j, j < bs.length → j ≠ k → (vA vs j).ownBlock ≠ some g := by
        rcases hat with hat | hat
        · exact h.ap k g (by omega) (hat.symm.trans hg)
        · obtain rfl : w.heap.size + 1 = g := Option.some.inj (hat.symm.trans hg)
          refine ⟨fun j hj e2 => by have := h.lt hj; omega, fun j hj _ e2 => by have := ((h.own j hj).lt _ e2).2; omega⟩
      refine ⟨key.1, fun j hj hjk => ?_⟩
      rw [List.length_set] at hj
      rw [vA_set (by omega), if_neg (fun e2 => hjk e2.symm)]
      exact key.2 j hj hjk
    · rw [if_neg e] at hg
      refine ⟨(h.ap i g hi hg).1, fun j hj hji => ?_⟩
      rw [List.length_set] at hj
      rw [vA_set (by omega)]
      by_cases e3 : k = j
      · rw [if_pos e3]
        intro e4
        rcases hat with hat | hat
        · exact (h.ap i g hi hg).2 k (by omega) e (hat.symm.trans e4)
        · obtain rfl : w.heap.size + 1 = g := Option.some.inj (hat.symm.trans e4)
          have := ((h.own i hi).lt _ hg).2
          omega
      · rw [if_neg e3]; exact (h.ap i g hi hg).2 j hj hji
end Go.Proofs.YtdpapalfafjncaaGreatDoor
namespace Go.Proofs.YtdpapalfafjncaaGreatDoor
open Go.RowKit

def allLe (size : Int) (zs : List Int) : Bool := zs.all (fun x => decide (x ≤ size))
def toldB (zs : List Int) (size : Int) : Bool := inL zs && (decide (1 ≤ size) && decide (size ≤ 100)) && allLe size zs
def ordB (c : Bool) (zs : List Int) : List Int := if c = true then sortD zs else zs
def binsO (zs : List Int) (size : Int) (o : Option (Nat × Bool)) : Option (List (List Int)) := match o with
  | some (r, c) => if toldB zs size = true then some (byB r size (ordB c zs)) else none
  | none => none
theorem binsO_some {zs : List Int} {size : Int} {r : Nat} {c : Bool} (h : toldB zs size = true) : binsO zs size (some (r, c)) = some (byB r size (ordB c zs)) := by unfold binsO; exact if_pos h
theorem binsO_no {zs : List Int} {size : Int} {o : Option (Nat × Bool)} (h : toldB zs size = false) : binsO zs size o = none := by
  cases o with
  | none => rfl
  | some p => obtain ⟨r, c⟩ := p; unfold binsO; exact if_neg (by rw [h]; decide)
theorem binsO_none (zs : List Int) (size : Int) : binsO zs size none = none := rfl
theorem allLe_iff {size : Int} {zs : List Int} : allLe size zs = true ↔ ∀ x ∈ zs, x ≤ size := by
  unfold allLe; rw [List.all_eq_true]; simp
theorem allLe_get {size : Int} {zs : List Int} (h : ∀ i, i < zs.length → zs[i]?.getD 0 ≤ size) : allLe size zs = true := allLe_iff.2 (fun x hx => by
  obtain ⟨i, hi, rfl⟩ := List.getElem_of_mem hx
  have := h i hi
  rwa [List.getElem?_eq_getElem hi] at this)
theorem allLe_not {size : Int} {zs : List Int} {i : Nat} (hi : i < zs.length) (h : size < zs[i]?.getD 0) : allLe size zs = false := by
  rw [Bool.eq_false_iff]
  intro hh
  have := allLe_iff.1 hh (zs[i]'hi) (List.getElem_mem hi)
  rw [List.getElem?_eq_getElem hi] at h
  simp at h
  omega
theorem toldB_is {zs : List Int} {size : Int} (h : toldB zs size = true) : inL zs = true ∧ 1 ≤ size ∧ size ≤ 100 ∧ ∀ x ∈ zs, x ≤ size := by
  unfold toldB at h
  rw [Bool.and_eq_true, Bool.and_eq_true, Bool.and_eq_true, decide_eq_true_iff, decide_eq_true_iff] at h
  exact ⟨h.1.1, h.1.2.1, h.1.2.2, allLe_iff.1 h.2⟩
theorem ordB_perm (c : Bool) (zs : List Int) : (ordB c zs).Perm zs := by
  unfold ordB
  split
  · exact sortD_perm zs
  · exact List.Perm.refl _

set_option maxHeartbeats 1600000 in
theorem binsTold_any (a : Option Addr) (cap : Nat) (zs : List Int) (size : Int) (w : World) (hl : zs.length ≤ 1000000) (hI : IntsAt w a zs) :
    Calls Tryz.prog 29 #[.slice a zs.length cap, .int .i64 size] w fun e w' => e = .returned (.bool (toldB zs size)) ∧ w = w' := by
  by_cases hz : inL zs = true
  case neg =>
    have hz' : inL zs = false := by simpa using hz
    have hR : toldB zs size = false := by rw [toldB, hz']; rfl
    rw [hR]
    have HZ := Lib.hid hz'
    clear hz hz' hR
    go_enter Tryz.func29, Tryz.ntmps29
    go_wp2_with (first | (go_at_call 16; refine (SumIn_any a cap zs _ (by omega) hI).mono ?_; rw [HZ.out]; rintro e w' ⟨rfl, rfl⟩))
    go_ret
    exact ⟨rfl, rfl⟩
  have HZ := Lib.hid hz
  by_cases hs : 1 ≤ size ∧ size ≤ 100
  case neg =>
    have hR : toldB zs size = false := by
      rw [toldB, show (decide (1 ≤ size) && decide (size ≤ 100)) = false by simp; omega]; simp
    rw [hR]
    clear hz hR
    by_cases h1 : size < 1
    · go_enter Tryz.func29, Tryz.ntmps29
      go_wp2_with (first | (go_at_call 16; refine (SumIn_any a cap zs _ (by omega) hI).mono ?_; rw [HZ.out]; rintro e w' ⟨rfl, rfl⟩))
      go_ret
      exact ⟨rfl, rfl⟩
    · have h2 : 100 < size := by omega
      clear hs
      go_enter Tryz.func29, Tryz.ntmps29
      go_wp2_with (first | (go_at_call 16; refine (SumIn_any a cap zs _ (by omega) hI).mono ?_; rw [HZ.out]; rintro e w' ⟨rfl, rfl⟩))
      go_ret
      exact ⟨rfl, rfl⟩
  have hd : toldB zs size = allLe size zs := by rw [toldB, hz, show (decide (1 ≤ size) && decide (size ≤ 100)) = true by simp; omega]; rfl
  have HD := Lib.hid hd
  have HBad : Hid (∀ i, i < zs.length → size < zs[i]?.getD 0 → allLe size zs = false) := fun i h1 h2 => allLe_not h1 h2
  have HOk : Hid ((∀ i, i < zs.length → zs[i]?.getD 0 ≤ size) → allLe size zs = true) := fun h => allLe_get h
  obtain ⟨R, hR⟩ : ∃ R, toldB zs size = R := ⟨_, rfl⟩
  have HR := Lib.hid hR
  rw [hR]
  clear hz hd hR
  go_enter Tryz.func29, Tryz.ntmps29
  go_wp2_with (first | (go_at_call 16; refine (SumIn_any a cap zs _ (by omega) hI).mono ?_; rw [HZ.out]; rintro e w' ⟨rfl, rfl⟩))
  go_loop [20] (fun i => ∃ k : Nat, k ≤ zs.length ∧ i = .int .i64 k ∧ Hid (∀ i, i < k → zs[i]?.getD 0 ≤ size)) (fun i => zs.length - (intOf i).toNat)
  case atStart => exact ⟨0, Nat.zero_le _, rfl, fun i hi => by omega⟩
  case round =>
    obtain ⟨k, hk, rfl, HK⟩ := hrel
    by_cases hlt : k < zs.length
    · obtain ⟨b, off, rfl, hb, hcell⟩ := hI.at (by omega)
      have hx := hcell k hlt
      have HKn : Hid (zs[k]?.getD 0 ≤ size → ∀ i, i < k + 1 → zs[i]?.getD 0 ≤ size) := fun h i hi => by
        by_cases e : i = k
        · subst e; exact h
        · exact HK.out i (by omega)
      have HBk := Lib.hid (HBad.out k hlt)
      generalize zs[k]?.getD 0 = x at hx HKn HBk
      clear hcell HK
      by_cases hxs : x ≤ size
      · have HN := Lib.hid (HKn.out hxs)
        go_wp2
        go_round
        case rel => exact ⟨k + 1, by omega, by go_num, HN⟩
        case measure => simp [intOf]; omega
      · have HF := Lib.hid (HBk.out (by omega))
        have hxs2 : size < x := by omega
        clear hxs HKn HBk
        go_wp2
        go_ret
        exact ⟨ret_bool (by rw [← HR.out, HD.out, HF.out]), rfl⟩
    · have HF := Lib.hid (HOk.out (fun i hi => HK.out i (by omega)))
      go_wp2
      go_ret
      exact ⟨ret_bool (by rw [← HR.out, HD.out, HF.out]), rfl⟩

/-- append of one number, the literal's block named by the walk's own words -/
theorem append1B (w : World) {ops : Array Oper} {rest : List Oper} {o : Oper} {a : Act} {Q : Exit → Act → World → Prop} (B : Nat) (hBs : w.heap.size = B) (hgd : o.guard = none) (s x : Operand)
    (ho : o.op = .call { callee := .builtin .append, args := #[s, x], argTypes := #[23, 23] }) (base : Nat) (v : Value) (zs : List Int) (z : Int)
    (hs : a.eval s = v) (hx : a.eval x = .slice (some ⟨B, 0, none⟩) 1 1) (hown : OwnI w base v zs) (hl : zs.length ≤ 1000000) (hbase : base ≤ w.heap.size)
    (h : ∀ v' w', OwnI w' base v' (zs ++ [z]) → w.grownBy w' v.ownBlock → (v'.ownBlock = v.ownBlock ∨ v'.ownBlock = some (w.heap.size + 1)) → wpList Tryz.prog ops Q rest (a.put o.dst v') w') :
    wpList Tryz.prog ops Q (o :: rest) a (w.alloc (.cells #[.int .i64 z] 3)) := by
  subst hBs
  exact append1At w hgd s x ho base v zs z hs hx hown hl hbase h
/-- the last bin, nil where there is none -/
def lastV (bl : List Nat) : Value := if bl.length = 0 then .pointer none else ptrAt bl (bl.length - 1)
theorem choose_any (bl : List Nat) (rs : List Int) (r : Nat) (hr3 : r ≤ 3) (x : Int) (w : World) (hr : ∀ i : Nat, 0 ≤ rs[i]?.getD 0 ∧ rs[i]?.getD 0 ≤ 100) (hx : 1 ≤ x ∧ x ≤ 100) (hC : Chain w bl rs) :
    Calls Tryz.prog 167 #[ruleV r, ptrAt bl 0, .int .i64 x] w (ChoosePost w bl (chs r (fun i : Nat => rs[i]?.getD 0) x bl.length)) := by
  have : r = 0 ∨ r = 1 ∨ r = 2 ∨ r = 3 := by omega
  rcases this with rfl | rfl | rfl | rfl
  · exact choose0 bl rs x w hr hx hC
  · exact choose1 bl rs x w hr hx hC
  · exact choose2 bl rs x w hr hx hC
  · exact choose3 bl rs x w hr hx hC
/-- the rooms stay between 0 and the size -/
theorem rooms_bd {r : Nat} {size : Int} {bs : List (List Int)} (h : BinsOk r size bs) (hs : 1 ≤ size ∧ size ≤ 100) : ∀ i : Nat, 0 ≤ (bs.map (fun b => size - tot b))[i]?.getD 0 ∧ (bs.map (fun b => size - tot b))[i]?.getD 0 ≤ 100 := fun i => by
  by_cases hi : i < bs.length
  · rw [rooms_get size bs i hi, rm, List.getElem?_eq_getElem hi]
    have h1 := h.each _ (List.getElem_mem hi)
    have h2 := good_tot h1.2.1
    simp only [Option.getD_some]
    omega
  · rw [List.getElem?_eq_none (by rw [List.length_map]; omega)]
    simp
theorem stepB_none {r : Nat} {size : Int} {bs : List (List Int)} {x : Int} (h : chs r (rm size bs) x bs.length = none) : stepB r size bs x = (bs ++ [[]]).set bs.length ((bs ++ [[]])[bs.length]?.getD [] ++ [x]) := by
  rw [stepB, h]; simp
theorem stepB_some {r : Nat} {size : Int} {bs : List (List Int)} {x : Int} {k : Nat} (h : chs r (rm size bs) x bs.length = some k) : stepB r size bs x = bs.set k (bs[k]?.getD [] ++ [x]) := by
  rw [stepB, h]
/-- what one round of filling makes -/
theorem fill_put {w w' : World} {base : Nat} {size : Int} {bl : List Nat} {vs : List Value} {bs : List (List Int)} (h : Bins w base size bl vs bs) {k : Nat} (hk : k < bl.length) {b : Nat} (hb : bl[k] = b) {v' : Value} {x : Int} (hO : OwnI w' base v' (bs[k]?.getD [] ++ [x])) (hG : w.grownBy w' (vA vs k).ownBlock) :
    w'.cell? ⟨b, 0, none⟩ = some (vA vs k) ∧ w'.frozen? ⟨b, 0, none⟩ = false ∧ (w'.setCell ⟨b, 0, none⟩ v').cell? ⟨b, 1, none⟩ = some (.int .i64 (rm size bs k)) ∧ (w'.setCell ⟨b, 0, none⟩ v').frozen? ⟨b, 1, none⟩ = false := by
  have hb' := h.facts hk hb hG
  have h1 := bin_cells hb'
  have h2 := bin_cells (bin_set0 hb' v')
  exact ⟨h1.1, h1.2.1, h2.2.2.1, h2.2.2.2.1⟩

/-- what fill answers -/
def FillPost (w : World) (zs : List Int) (size : Int) (o : Option (Nat × Bool)) (e : Ending) (w' : World) : Prop :=
  ∃ bl vs, e = .returned (.tuple #[ptrAt bl 0, .bool (binsO zs size o).isSome]) ∧ Bins w' w.heap.size size bl vs ((binsO zs size o).getD []) ∧ Below w.heap.size w w'
theorem fill_no {w w' : World} {zs : List Int} {size : Int} {o : Option (Nat × Bool)} {e : Ending} (h : binsO zs size o = none) (he : e = .returned (.tuple #[.pointer none, .bool false])) (hB : Below w.heap.size w w') : FillPost w zs size o e w' := by
  unfold FillPost
  rw [h]
  exact ⟨[], [], he, bins_nil _ _ _, hB⟩

end Go.Proofs.YtdpapalfafjncaaGreatDoor
namespace Go.Proofs.YtdpapalfafjncaaGreatDoor
open Go.RowKit

theorem Bins.mono {w : World} {base base' : Nat} {size : Int} {bl : List Nat} {vs : List Value} {bs : List (List Int)} (h : Bins w base size bl vs bs) (hb : base' ≤ base) : Bins w base' size bl vs bs :=
  ⟨h.l1, h.l2, h.blk, fun i hi => (h.own i hi).mono hb, fun i hi => Nat.le_trans hb (h.ge i hi), h.nd, h.ap⟩

end Go.Proofs.YtdpapalfafjncaaGreatDoor
namespace Go.Proofs.YtdpapalfafjncaaGreatDoor
open Go.RowKit

theorem Tryz.infoRow : (Tryz.prog.info? 23).map (fun i => (i.zero, i.size, i.bytes)) = some (some (.slice none 0 0), 1, 24) := by kernel_rfl
/-- a row of slices that the call owns -/
def OwnR (w : World) (base : Nat) (v : Value) (us : List Value) : Prop := w.ownsRow base 23 1 v us.length us
theorem OwnR.lt {w : World} {base : Nat} {v : Value} {us : List Value} (h : OwnR w base v us) : ∀ k, v.ownBlock = some k → base ≤ k ∧ k < w.heap.size := World.ownsRow.lt h
theorem OwnR.kept {w w' : World} {base : Nat} {v : Value} {us : List Value} {row : Option Nat} (h : OwnR w base v us) (hg : w.grownBy w' row) (hne : v.ownBlock = none ∨ v.ownBlock ≠ row) : OwnR w' base v us := World.ownsRow.kept h hg hne
theorem OwnR.lit (w : World) (base : Nat) (hb : base ≤ w.heap.size) : OwnR (w.alloc (.cells #[] 23)) base (.slice (some ⟨w.heap.size, 0, none⟩) 0 0) [] := World.ownsRow_lit w #[] 0 hb (by unfold maxLen; omega) (by simp)
theorem cell_one_newB (w : World) (B : Nat) (hB : w.heap.size = B) (x : Value) (t : TypeId) : ∀ j u, [x][j]? = some u → (w.alloc (.cells #[x] t)).cell? ((⟨B, 0, none⟩ : Addr).add j) = some u := by
  subst hB; exact cell_one_new w x t
/-- append of one slice: the new row lies where the old one lay, or in a new block -/
theorem append1R (w : World) {ops : Array Oper} {rest : List Oper} {o : Oper} {a : Act} {Q : Exit → Act → World → Prop} (B : Nat) (hBs : w.heap.size = B) (hgd : o.guard = none) (s x : Operand)
    (ho : o.op = .call { callee := .builtin .append, args := #[s, x], argTypes := #[101, 101] }) (base : Nat) (v : Value) (us : List Value) (u : Value) (hu1 : u.oneCell' = true)
    (hs : a.eval s = v) (hx : a.eval x = .slice (some ⟨B, 0, none⟩) 1 1) (hown : OwnR w base v us) (hl : us.length ≤ 1000000) (hbase : base ≤ w.heap.size)
    (h : ∀ v' w', OwnR w' base v' (us ++ [u]) → w.grownBy w' v.ownBlock → (v'.ownBlock = v.ownBlock ∨ v'.ownBlock = some (w.heap.size + 1)) → wpList Tryz.prog ops Q rest (a.put o.dst v') w') :
    wpList Tryz.prog ops Q (o :: rest) a (w.alloc (.cells #[u] 23)) := by
  obtain ⟨i0, hi, hz0, hz1, hz2⟩ := info_parts Tryz.infoRow
  have hown' := World.ownsRow.alloc hown (.cells #[u] 23)
  refine wpList_append_own_at _ hgd s x 101 ho base 23 i0 (.slice none 0 0) 1 24 Tryz.underlying101 hi hz0 hz1 hz2 rfl (by decide) v us.length _ hs hown' ⟨B, 0, none⟩ 1 1 [u] hx rfl (cell_one_newB w B hBs _ _) (by simpa using hu1) (by unfold maxLen; omega) (by omega) (by simp; omega) ?_
  intro v' w' h1 h2 _ h4
  refine h v' w' ?_ ((World.grownBy_alloc w _ _).trans' h2) (by simpa using h4)
  unfold OwnR
  simpa using h1
/-- a list of lists that the call owns: each list is its own, and none lies where the outer one lies -/
def RowsR (w : World) (base : Nat) (v : Value) (rows : List (List Int)) : Prop :=
  ∃ us : List Value, OwnR w base v us ∧ us.length = rows.length ∧ ∀ i, i < rows.length → OwnI w base (us[i]?.getD (.slice none 0 0)) (rows[i]?.getD []) ∧ ∀ g, v.ownBlock = some g → (us[i]?.getD (.slice none 0 0)).ownBlock ≠ some g
theorem RowsR.lt {w : World} {base : Nat} {v : Value} {rows : List (List Int)} (h : RowsR w base v rows) : ∀ k, v.ownBlock = some k → base ≤ k ∧ k < w.heap.size := h.choose_spec.1.lt
theorem RowsR.lit (w : World) (base : Nat) (hb : base ≤ w.heap.size) : RowsR (w.alloc (.cells #[] 23)) base (.slice (some ⟨w.heap.size, 0, none⟩) 0 0) [] :=
  ⟨[], OwnR.lit w base hb, rfl, fun i h => absurd h (Nat.not_lt_zero _)⟩
theorem RowsR.keptB {w w' : World} {base : Nat} {v : Value} {rows : List (List Int)} (h : RowsR w base v rows) (hb : Below w.heap.size w w') : RowsR w' base v rows := by
  obtain ⟨us, h1, h2, h3⟩ := h
  refine ⟨us, ?_, h2, fun i hi => ⟨(h3 i hi).1.keptB hb, (h3 i hi).2⟩⟩
  unfold OwnR World.ownsRow at h1 ⊢
  refine ⟨h1.1, h1.2.imp id ?_⟩
  rintro ⟨g, cap, cur, e1, e2, e3, e4⟩
  exact ⟨g, cap, cur, e1, e2, (hb.block g (Array.getElem?_eq_some_iff.1 e3).1).trans e3, e4⟩
theorem RowsR.mono {w : World} {base base' : Nat} {v : Value} {rows : List (List Int)} (h : RowsR w base v rows) (hb : base' ≤ base) : RowsR w base' v rows := by
  obtain ⟨us, h1, h2, h3⟩ := h
  refine ⟨us, ?_, h2, fun i hi => ⟨(h3 i hi).1.mono hb, (h3 i hi).2⟩⟩
  unfold OwnR World.ownsRow at h1 ⊢
  refine ⟨h1.1, h1.2.imp id ?_⟩
  rintro ⟨g, cap, cur, e1, e2, e3, e4⟩
  exact ⟨g, cap, cur, e1, Nat.le_trans hb e2, e3, e4⟩
theorem OwnI.one {w : World} {base : Nat} {v : Value} {zs : List Int} (h : OwnI w base v zs) : v.oneCell' = true := by
  obtain ⟨a, c, rfl, _, _⟩ := h.shape
  rfl
/-- append of one list onto a list of lists -/
theorem appendRow (w : World) {ops : Array Oper} {rest : List Oper} {o : Oper} {a : Act} {Q : Exit → Act → World → Prop} (B : Nat) (hBs : w.heap.size = B) (hgd : o.guard = none) (s x : Operand)
    (ho : o.op = .call { callee := .builtin .append, args := #[s, x], argTypes := #[101, 101] }) (base : Nat) (v : Value) (rows : List (List Int)) (u : Value) (zs : List Int)
    (hs : a.eval s = v) (hx : a.eval x = .slice (some ⟨B, 0, none⟩) 1 1) (hown : RowsR w base v rows) (hu : OwnI w base u zs) (hne : ∀ g, v.ownBlock = some g → u.ownBlock ≠ some g) (hl : rows.length ≤ 1000000) (hbase : base ≤ w.heap.size)
    (h : ∀ v' w', RowsR w' base v' (rows ++ [zs]) → w.grownBy w' v.ownBlock → (v'.ownBlock = v.ownBlock ∨ v'.ownBlock = some (w.heap.size + 1)) → wpList Tryz.prog ops Q rest (a.put o.dst v') w') :
    wpList Tryz.prog ops Q (o :: rest) a (w.alloc (.cells #[u] 23)) := by
  obtain ⟨us, h1, h2, h3⟩ := hown
  refine append1R w B hBs hgd s x ho base v us u hu.one hs hx h1 (by omega) hbase ?_
  intro v' w' g1 g2 g3
  have key : ∀ (u2 : Value) (ys : List Int), OwnI w base u2 ys → (∀ g, v.ownBlock = some g → u2.ownBlock ≠ some g) → OwnI w' base u2 ys ∧ ∀ g, v'.ownBlock = some g → u2.ownBlock ≠ some g := fun u2 ys k1 k2 => by
    refine ⟨k1.kept g2 ?_, fun g hg => ?_⟩
    · cases hv : v.ownBlock with
      | none => cases h2 : u2.ownBlock with
        | none => exact .inl rfl
        | some g => exact .inr (fun e => by cases e)
      | some g => exact .inr (k2 g hv)
    · rcases g3 with g3 | g3
      · exact k2 g (g3.symm.trans hg)
      · intro e
        have h4 := (k1.lt g e).2
        rw [hg] at g3
        have := Option.some.inj g3
        omega
  refine h v' w' ⟨us ++ [u], g1, by simp [h2], fun i hi => ?_⟩ g2 g3
  rw [List.length_append, List.length_singleton] at hi
  by_cases hi2 : i < rows.length
  · rw [List.getElem?_append_left (by omega), List.getElem?_append_left hi2]
    exact key _ _ (h3 i hi2).1 (h3 i hi2).2
  · obtain rfl : i = rows.length := by omega
    rw [List.getElem?_append_right (by omega), List.getElem?_append_right (Nat.le_refl _), h2, Nat.sub_self]
    exact key u zs hu hne

/-- a list of lists that is read -/
def RowsAt (w : World) (a : Option Addr) (rows : List (List Int)) : Prop :=
  rows = [] ∨ ∃ b, a = some ⟨b, 0, none⟩ ∧ b < w.heap.size ∧ ∀ i, i < rows.length → ∃ ad cp, w.cell? ⟨b, i, none⟩ = some (.slice ad (rows[i]?.getD []).length cp) ∧ IntsAt w ad (rows[i]?.getD [])
theorem RowsAt.below {w w' : World} {a : Option Addr} {rows : List (List Int)} (h : RowsAt w a rows) (hb : Below w.heap.size w w') : RowsAt w' a rows := by
  rcases h with h | ⟨b, h1, h2, h3⟩
  · exact .inl h
  · refine .inr ⟨b, h1, Nat.lt_of_lt_of_le h2 hb.size, fun i hi => ?_⟩
    obtain ⟨ad, cp, e1, e2⟩ := h3 i hi
    exact ⟨ad, cp, (hb.cell (p := ⟨b, i, none⟩) h2).trans e1, e2.below hb⟩
theorem RowsAt.dr {w : World} {a : Option Addr} {rows : List (List Int)} (h : RowsAt w a rows) (n : Nat) : RowsAt (w.drewN n) a rows := h.below (drewN_below w n _)
theorem RowsAt.at {w : World} {a : Option Addr} {rows : List (List Int)} (h : RowsAt w a rows) (hn : 0 < rows.length) : ∃ b, a = some ⟨b, 0, none⟩ ∧ b < w.heap.size ∧ ∀ i, i < rows.length → ∃ ad cp, w.cell? ⟨b, i, none⟩ = some (.slice ad (rows[i]?.getD []).length cp) ∧ IntsAt w ad (rows[i]?.getD []) := by
  rcases h with rfl | h
  · simp at hn
  · exact h
theorem RowsR.shape {w : World} {base : Nat} {v : Value} {rows : List (List Int)} (h : RowsR w base v rows) : ∃ a cp, v = .slice a rows.length cp ∧ RowsAt w a rows := by
  obtain ⟨us, h1, h2, h3⟩ := h
  have h1' := h1
  unfold OwnR World.ownsRow at h1'
  rcases h1'.2 with ⟨rfl, h4⟩ | ⟨g, cap, cur, e1, e2, e3, e4, e5, e6, e7⟩
  · have : rows = [] := List.eq_nil_of_length_eq_zero (by omega)
    subst this
    exact ⟨none, 0, rfl, .inl rfl⟩
  · subst e1
    refine ⟨_, cap, by rw [h2], .inr ⟨g, rfl, (Array.getElem?_eq_some_iff.1 e3).1, fun i hi => ?_⟩⟩
    obtain ⟨k1, k2⟩ := h3 i hi
    obtain ⟨ad, cp, hv, hI, _⟩ := k1.shape
    have hc := World.ownsRow.cellAt h1 i (by omega)
    rw [List.getElem?_eq_getElem (by omega)] at hc
    rw [List.getElem?_eq_getElem (by omega : i < us.length)] at hv
    simp only [Option.getD_some] at hv
    exact ⟨ad, cp, by rw [hc, hv], hI⟩
end Go.Proofs.YtdpapalfafjncaaGreatDoor
namespace Go.Proofs.YtdpapalfafjncaaGreatDoor
open Go.RowKit

theorem binsO_is {zs : List Int} {size : Int} {o : Option (Nat × Bool)} {bs : List (List Int)} (h : binsO zs size o = some bs) :
    ∃ r c, o = some (r, c) ∧ toldB zs size = true ∧ BinsOk r size bs ∧ bs.flatten.Perm zs ∧ bs.length ≤ 10 ∧ bs.flatten.length ≤ 10 := by
  cases o with
  | none => cases h
  | some p =>
    obtain ⟨r, c⟩ := p
    by_cases ht : toldB zs size = true
    · rw [binsO_some ht] at h
      obtain rfl := Option.some.inj h
      obtain ⟨hz, h1, h2, hle⟩ := toldB_is ht
      have hzl := (inL_iff zs).1 hz
      have hp := ordB_perm c zs
      have hb := byB_ok (r := r) (size := size) (xs := ordB c zs) (perm_good hp hzl.2) (fun x hx => hle x (hp.subset hx))
      have hl := hp.length_eq
      have hf := hb.2.1.length_eq
      exact ⟨r, c, rfl, ht, hb.1, hb.2.1.trans hp, by have := hb.2.2; omega, by omega⟩
    · rw [binsO_no (by simpa using ht)] at h
      cases h
theorem take_snocA {α : Type} (l : List α) (i : Nat) (d : α) (h : i < l.length) : l.take (i + 1) = l.take i ++ [l[i]?.getD d] := by
  rw [List.take_add_one, List.getElem?_eq_getElem h]; rfl
def ByPost (w : World) (ok : Bool) (rows : List (List Int)) (e : Ending) (w' : World) : Prop :=
  ∃ v, e = .returned (.tuple #[v, .bool ok]) ∧ RowsR w' w.heap.size v rows ∧ Below w.heap.size w w'

def CntPost (w : World) (ok : Bool) (n : Nat) (e : Ending) (w' : World) : Prop := e = .returned (.tuple #[.int .i64 n, .bool ok]) ∧ Below w.heap.size w w'
theorem rooms_take (size : Int) (bs : List (List Int)) (i : Nat) (h : i < bs.length) : (bs.take (i + 1)).map (fun b => size - tot b) = (bs.take i).map (fun b => size - tot b) ++ [rm size bs i] := by
  rw [take_snocA bs i [] h, List.map_append]
  rfl
end Go.Proofs.YtdpapalfafjncaaGreatDoor
namespace Go.Proofs.YtdpapalfafjncaaGreatDoor
open Go.RowKit
theorem ints_cells {w : World} {ad : Addr} {zs : List Int} (hI : IntsAt w (some ad) zs) : ∀ j u, (zs.map (fun x => Value.int .i64 x))[j]? = some u → w.cell? (ad.add j) = some u := by
  intro j u hu
  rw [List.getElem?_map] at hu
  rcases Nat.lt_or_ge j zs.length with h | h
  · obtain ⟨b, off, he, _, hc⟩ := hI.at (by omega)
    simp only [Option.some.injEq] at he
    subst he
    have this : w.cell? (Addr.add ⟨b, off, none⟩ j) = some (.int .i64 (zs[j]?.getD 0)) := by
      rcases Nat.eq_zero_or_pos j with e | e
      · subst e; simpa [Addr.add] using hc 0 h
      · have e0 : j ≠ 0 := by omega
        simpa [Addr.add, e0] using hc j h
    simp only [List.getElem?_eq_getElem h, Option.map_some, Option.some.injEq, Option.getD_some] at hu this
    rw [← hu]
    exact this
  · rw [List.getElem?_eq_none h] at hu; cases hu
/-- append of a slice: the new slice lies where the old one lay, or in a new block -/
theorem appendSl (w : World) {ops : Array Oper} {rest : List Oper} {o : Oper} {a : Act} {Q : Exit → Act → World → Prop} (hgd : o.guard = none) (s x : Operand)
    (ho : o.op = .call { callee := .builtin .append, args := #[s, x], argTypes := #[23, 23] }) (base : Nat) (v : Value) (zs ys : List Int) (ad : Addr) (m c : Nat)
    (hs : a.eval s = v) (hx : a.eval x = .slice (some ad) m c) (hm : ys.length = m) (hown : OwnI w base v zs) (hl : zs.length ≤ 1000000) (hl2 : ys.length ≤ 1000000) (hI : IntsAt w (some ad) ys) (hbase : base ≤ w.heap.size)
    (h : ∀ v' w', OwnI w' base v' (zs ++ ys) → w.grownBy w' v.ownBlock → (v'.ownBlock = v.ownBlock ∨ v'.ownBlock = some w.heap.size) → wpList Tryz.prog ops Q rest (a.put o.dst v') w') :
    wpList Tryz.prog ops Q (o :: rest) a w := by
  subst hm
  obtain ⟨i0, hi, hz0, hz1, hz2⟩ := info_parts Tryz.infoInt
  refine wpList_append_own_at _ hgd s x 23 ho base 3 i0 (.int .i64 0) 1 8 Tryz.underlying23 hi hz0 hz1 hz2 rfl (by decide) v zs.length _ hs hown ad ys.length c (ys.map (fun x => Value.int .i64 x)) hx (by simp) (ints_cells hI) (fun u hu => by obtain ⟨x, _, rfl⟩ := List.mem_map.1 hu; rfl) (by unfold maxLen; omega) (by omega) hbase ?_
  intro v' w' h1 h2 _ h4
  refine h v' w' ?_ h2 h4
  unfold OwnI
  simpa using h1
end Go.Proofs.YtdpapalfafjncaaGreatDoor
namespace Go.Proofs.YtdpapalfafjncaaGreatDoor
open Go.RowKit
theorem stepSl {ops : Array Oper} {o : Oper} {a : Act} {w : World} {K : Act → World → Prop} {Q : Exit → Act → World → Prop} {E : Prop}
    (hg : o.guard = none) (s x : Operand) (hop : o.op = Op.call { callee := Callee.builtin Builtin.append, args := #[s, x], argTypes := #[23, 23] })
    (base : Nat) (v : Value) (zs ys : List Int) (ad : Addr) (m c : Nat)
    (hs : a.eval s = v) (hx : a.eval x = .slice (some ad) m c) (hm : ys.length = m) (hown : OwnI w base v zs) (hl : zs.length ≤ 1000000) (hl2 : ys.length ≤ 1000000) (hI : IntsAt w (some ad) ys) (hbase : base ≤ w.heap.size)
    (hK : ∀ v' w', OwnI w' base v' (zs ++ ys) → w.grownBy w' v.ownBlock → (v'.ownBlock = v.ownBlock ∨ v'.ownBlock = some w.heap.size) → K (a.put o.dst v') w') :
    if Region.wanted o (yielded ops a.tmps) = true then Oper.wp Tryz.prog o a w K Q else E := by
  subst hm
  have hw : Region.wanted o (yielded ops a.tmps) = true := by simp [Region.wanted, hg]
  rw [if_pos hw]
  obtain ⟨i0, hi, hz0, hz1, hz2⟩ := info_parts Tryz.infoInt
  obtain ⟨v', w', hrun, h2, h3, _, h5⟩ := run_append_own_at (P := Tryz.prog) w base 23 o.type 3 i0 (.int .i64 0) 1 8 Tryz.underlying23 hi hz0 hz1 hz2 rfl (by decide) v zs.length _ hown ad ys.length c (ys.map (fun x => Value.int .i64 x)) (by simp) (ints_cells hI) (fun u hu => by obtain ⟨x, _, rfl⟩ := List.mem_map.1 hu; rfl) (by unfold maxLen; omega) (by omega) hbase
  unfold Oper.wp
  simp [execOp, hop, resolve, invoke, builtin, hs, hx, hrun, Result.andThen]
  refine hK v' w' ?_ h3 h5
  unfold OwnI
  simpa using h2
end Go.Proofs.YtdpapalfafjncaaGreatDoor
namespace Go.Proofs.YtdpapalfafjncaaGreatDoor
def insAt (L : List Int) (j : Nat) (x : Int) : List Int := L.take j ++ [x] ++ L.drop j
theorem insAt_length {L : List Int} {j k : Nat} (hL : L.length = k) (hj : j ≤ k) (x : Int) : (insAt L j x).length = k + 1 := by
  simp [insAt]; omega
theorem insAt_perm {L M : List Int} (h : L.Perm M) (j : Nat) (x : Int) : (insAt L j x).Perm (M ++ [x]) := by
  have h1 : (insAt L j x).Perm (x :: L) := by
    rw [insAt, List.append_assoc]
    have := List.perm_middle (a := x) (l₁ := L.take j) (l₂ := L.drop j)
    rwa [List.take_append_drop] at this
  exact (h1.trans (.cons x h)).trans (List.perm_append_singleton x M).symm
theorem insAt_get {L : List Int} {j k : Nat} (hL : L.length = k) (hj : j ≤ k) (x : Int) (t : Nat) (ht : t < k + 1) : (insAt L j x)[t]?.getD 0 = if t < j then L[t]?.getD 0 else if t = j then x else L[t - 1]?.getD 0 := by
  have hl : (L.take j).length = j := by rw [List.length_take]; omega
  rw [insAt, List.append_assoc]
  by_cases h1 : t < j
  · rw [if_pos h1, List.getElem?_append_left (by omega), List.getElem?_take, if_pos h1]
  · rw [if_neg h1, List.getElem?_append_right (by omega), hl]
    by_cases h2 : t = j
    · subst h2; rw [if_pos rfl, Nat.sub_self]; rfl
    · obtain ⟨d, hd⟩ : ∃ d, t - j = d + 1 := ⟨t - j - 1, by omega⟩
      rw [if_neg h2, hd]
      show (L.drop j)[d]?.getD 0 = _
      rw [List.getElem?_drop]
      congr 2
      omega
theorem insAt_ord {L : List Int} {j k : Nat} {x : Int} (hL : L.length = k) (hj : j ≤ k) (h : InOrd (fun a b => a ≤ b) L k) (h1 : ∀ t, j ≤ t → t < k → x < L[t]?.getD 0) (h2 : j = 0 ∨ L[j - 1]?.getD 0 ≤ x) : InOrd (fun a b => a ≤ b) (insAt L j x) (k + 1) := fun p q hpq hq => by
  show (insAt L j x)[p]?.getD 0 ≤ (insAt L j x)[q]?.getD 0
  rw [insAt_get hL hj x p (by omega), insAt_get hL hj x q (by omega)]
  have hlow : ∀ t, t < j → L[t]?.getD 0 ≤ x := fun t ht => by
    rcases h2 with h2 | h2
    · omega
    · by_cases e : t = j - 1
      · subst e; exact h2
      · have : L[t]?.getD 0 ≤ L[j - 1]?.getD 0 := h t (j - 1) (by omega) (by omega)
        omega
  have hh : ∀ a b, a < b → b < k → L[a]?.getD 0 ≤ L[b]?.getD 0 := fun a b hab hb => h a b hab hb
  by_cases a1 : p < j
  · rw [if_pos a1]
    by_cases b1 : q < j
    · rw [if_pos b1]; exact hh _ _ hpq (by omega)
    · rw [if_neg b1]
      by_cases b2 : q = j
      · rw [if_pos b2]; exact hlow p a1
      · rw [if_neg b2]; exact hh _ _ (by omega) (by omega)
  · rw [if_neg a1, if_neg (show ¬ q < j by omega)]
    by_cases a2 : p = j
    · rw [if_pos a2, if_neg (show ¬ q = j by omega)]
      have := h1 (q - 1) (by omega) (by omega); omega
    · rw [if_neg a2, if_neg (show ¬ q = j by omega)]
      exact hh _ _ (by omega) (by omega)
end Go.Proofs.YtdpapalfafjncaaGreatDoor
namespace Go.Proofs.YtdpapalfafjncaaGreatDoor
theorem ord_rev2 {zs L : List Int} (hp : L.Perm zs) (h : InOrd (fun a b => a ≤ b) L L.length) : L.reverse = sortD zs := by
  refine sortD_is ?_ ((List.reverse_perm L).trans hp)
  rw [List.pairwise_reverse]
  exact inOrd_pair h
theorem last2 {L : List Int} {n : Nat} (hn : L.length = n) (h2 : 2 ≤ n) : L = L.take (n - 2) ++ [L[n - 2]?.getD 0, L[n - 1]?.getD 0] := by
  have h := List.take_append_drop (n - 2) L
  have hd : L.drop (n - 2) = [L[n - 2]?.getD 0, L[n - 1]?.getD 0] := by
    rw [List.drop_eq_getElem_cons (by omega), List.drop_eq_getElem_cons (by omega), List.drop_of_length_le (by omega), List.getElem?_eq_getElem (by omega), List.getElem?_eq_getElem (by omega)]
    simp only [Option.getD_some]
    congr 2
    simp [show n - 2 + 1 = n - 1 by omega]
  rw [← hd]; exact h.symm
/-- the reference's step, from a rising list's end -/
theorem df_step {L M : List Int} {n : Nat} {x y : Int} (hn : L.length = n) (h2 : 2 ≤ n) (hx : L[n - 1]?.getD 0 = x) (hy : L[n - 2]?.getD 0 = y) (hM : M.Perm (L.take (n - 2) ++ [x - y])) (hO : InOrd (fun a b => a ≤ b) M M.length) : diffs n L.reverse = diffs (n - 1) M.reverse := by
  have hl := last2 hn h2
  rw [hx, hy] at hl
  rw [ord_rev2 hM hO]
  have h3 : L.reverse = x :: y :: (L.take (n - 2)).reverse := by
    conv => lhs; rw [hl]
    simp
  obtain ⟨m, rfl⟩ : ∃ m, n = m + 1 := ⟨n - 1, by omega⟩
  rw [h3, diffs, Nat.add_sub_cancel]
  congr 1
  refine sortD_congr ?_
  refine (List.Perm.cons _ (List.reverse_perm _)).trans ?_
  exact (List.perm_append_comm (l₁ := [x - y]))
theorem df_mem {L M : List Int} {n : Nat} {x y : Int} (hn : L.length = n) (h2 : 2 ≤ n) (hx : L[n - 1]?.getD 0 = x) (hy : L[n - 2]?.getD 0 = y) (hL : InOrd (fun a b => a ≤ b) L n) (hb : ∀ z ∈ L, 0 ≤ z ∧ z ≤ 60) (hM : M.Perm (L.take (n - 2) ++ [x - y])) : (0 ≤ y ∧ y ≤ x ∧ x ≤ 60) ∧ M.length = n - 1 ∧ ∀ z ∈ M, 0 ≤ z ∧ z ≤ 60 := by
  have h1 : y ≤ x := by rw [← hx, ← hy]; exact hL (n - 2) (n - 1) (by omega) (by omega)
  have hxm : x ∈ L := by rw [← hx, List.getElem?_eq_getElem (by omega)]; exact List.getElem_mem _
  have hym : y ∈ L := by rw [← hy, List.getElem?_eq_getElem (by omega)]; exact List.getElem_mem _
  have b1 := hb x hxm
  have b2 := hb y hym
  refine ⟨⟨b2.1, h1, b1.2⟩, ?_, fun z hz => ?_⟩
  · rw [hM.length_eq, List.length_append, List.length_take]; simp; omega
  · rcases List.mem_append.1 (hM.subset hz) with h | h
    · exact hb z (List.mem_of_mem_take h)
    · simp at h; omega
/-- the program's step, from a falling list's head -/
theorem df_stepD {L : List Int} {n : Nat} {x y : Int} (hn : L.length = n) (h2 : 2 ≤ n) (hx : L[0]?.getD 0 = x) (hy : L[1]?.getD 0 = y) : diffs n L = diffs (n - 1) (sortD (L.drop 2 ++ [x - y])) := by
  match L, hn, hx, hy with
  | [], hn, _, _ => simp at hn; omega
  | [_], hn, _, _ => simp at hn; omega
  | u :: v :: r, hn, hx, hy =>
    simp at hx hy
    subst hx; subst hy
    obtain ⟨m, rfl⟩ : ∃ m, n = m + 1 := ⟨n - 1, by omega⟩
    rw [diffs, Nat.add_sub_cancel]
    congr 1
    exact sortD_congr (List.perm_append_comm (l₁ := [u - v]))
theorem df_memD {L : List Int} {n : Nat} {x y : Int} (hn : L.length = n) (h2 : 2 ≤ n) (hx : L[0]?.getD 0 = x) (hy : L[1]?.getD 0 = y) (hL : L.Pairwise (fun a b => b ≤ a)) (hb : ∀ z ∈ L, 0 ≤ z ∧ z ≤ 60) : (0 ≤ y ∧ y ≤ x ∧ x ≤ 60) ∧ (L.drop 2 ++ [x - y]).length = n - 1 ∧ ∀ z ∈ sortD (L.drop 2 ++ [x - y]), 0 ≤ z ∧ z ≤ 60 := by
  match L, hn, hx, hy with
  | [], hn, _, _ => simp at hn; omega
  | [_], hn, _, _ => simp at hn; omega
  | u :: v :: r, hn, hx, hy =>
    simp at hx hy
    subst hx; subst hy
    have h1 := (List.pairwise_cons.1 hL).1 v (List.mem_cons_self ..)
    have b1 := hb u (List.mem_cons_self ..)
    have b2 := hb v (List.mem_cons_of_mem _ (List.mem_cons_self ..))
    refine ⟨⟨b2.1, h1, b1.2⟩, by simp at hn ⊢; omega, fun z hz => ?_⟩
    have := (sortD_perm _).subset hz
    rcases List.mem_append.1 this with h | h
    · exact hb z (List.mem_of_mem_drop h)
    · simp at h; omega
/-- the answer of HalfDifferences -/
def dR (zs : List Int) : Int := if inL zs = true then dfR zs else 0
theorem diffs_nil : diffs 0 [] = 0 := rfl
theorem diffs_one (x : Int) : diffs 1 [x] = x := rfl
end Go.Proofs.YtdpapalfafjncaaGreatDoor
namespace Go.Proofs.YtdpapalfafjncaaGreatDoor
open Go.RowKit

theorem ints_new1 (W : World) (x : Int) : IntsAt (W.alloc (.cells #[.int .i64 x] 3)) (some ⟨W.heap.size, 0, none⟩) [x] := by
  refine .inr ⟨W.heap.size, 0, rfl, by simp, fun t ht => ?_⟩
  obtain rfl : t = 0 := by simp at ht; exact ht
  have h := heap_alloc_new W (.cells #[.int .i64 x] 3)
  simp only [World.cell?, h]
  rfl
theorem ints_grownW {W W' : World} {row : Option Nat} {b : Nat} {x : Int} (h : IntsAt W (some ⟨b, 0, none⟩) [x]) (hG : W.grownBy W' row) (hr : row ≠ some b) : IntsAt W' (some ⟨b, 0, none⟩) [x] := by
  obtain ⟨b', o', he, hb, hc⟩ := h.at (by simp)
  simp only [Option.some.injEq, Addr.mk.injEq, and_true] at he
  obtain ⟨rfl, rfl⟩ := he
  refine .inr ⟨b, 0, rfl, Nat.lt_of_lt_of_le hb hG.size, fun t ht => ?_⟩
  have h1 := hc t ht
  simp only [World.cell?] at h1 ⊢
  rw [hG.block b hb (fun e => hr e.symm)]
  exact h1
theorem below_grown {B : Nat} {w W W' : World} {v : Value} {base : Nat} {zs : List Int} (h : Below B w W) (hO : OwnI W base v zs) (hb : B ≤ base) (hG : W.grownBy W' v.ownBlock) (hBW : B ≤ W.heap.size) : Below B w W' :=
  h.grown hG hBW (fun k hk => Nat.le_trans hb (hO.lt k hk).1)

end Go.Proofs.YtdpapalfafjncaaGreatDoor
namespace Go.Proofs.YtdpapalfafjncaaGreatDoor
open Go.RowKit

theorem ord_rev {zs L : List Int} (hp : L.Perm zs) (h : InOrd (fun a b => a ≤ b) L L.length) : L.reverse = sortD zs := by
  refine sortD_is ?_ ((List.reverse_perm L).trans hp)
  rw [List.pairwise_reverse]
  exact inOrd_pair h
theorem rev_get (L : List Int) (m : Nat) (hm : m < L.length) : L.reverse[L.length - (m + 1)]?.getD 0 = L[m]?.getD 0 := by
  rw [List.getElem?_reverse (by omega), show L.length - 1 - (L.length - (m + 1)) = m by omega]

end Go.Proofs.YtdpapalfafjncaaGreatDoor
namespace Go.Proofs.YtdpapalfafjncaaGreatDoor
open Go.RowKit

def slLenF : Value → Nat
  | .slice _ l _ => l
  | _ => 0

end Go.Proofs.YtdpapalfafjncaaGreatDoor
namespace Go.Proofs.YtdpapalfafjncaaGreatDoor
open Go.RowKit

def GoodPost (w : World) (n : Nat) (e : Ending) (w' : World) : Prop := ∃ v ys, e = .returned v ∧ OwnI w' w.heap.size v ys ∧ good ys ∧ ys.length ≤ n ∧ Below w.heap.size w w'
theorem good.snoc {ys : List Int} {x : Int} (h : good ys) (hx : 1 ≤ x ∧ x ≤ 60) : good (ys ++ [x]) := fun y hy => by
  rcases List.mem_append.1 hy with hy | hy
  · exact h y hy
  · rw [List.mem_singleton.1 hy]; exact hx

def GoodPost2 (w : World) (n : Nat) (e : Ending) (w' : World) : Prop := ∃ v ys ok, e = .returned (.tuple #[v, .bool ok]) ∧ OwnI w' w.heap.size v ys ∧ good ys ∧ ys.length ≤ n ∧ Below w.heap.size w w'

end Go.Proofs.YtdpapalfafjncaaGreatDoor
namespace Go.Proofs.YtdpapalfafjncaaGreatDoor
open Go.RowKit

theorem get_bd {zs : List Int} {M : Int} (h : ∀ x ∈ zs, -M ≤ x ∧ x ≤ M) (hM : 0 ≤ M) (i : Nat) : -M ≤ zs[i]?.getD 0 ∧ zs[i]?.getD 0 ≤ M := by
  by_cases hi : i < zs.length
  · rw [List.getElem?_eq_getElem hi]; exact h _ (List.getElem_mem hi)
  · rw [List.getElem?_eq_none (by omega)]; simp; omega
set_option maxHeartbeats 1600000 in
theorem l4Given_any (a : Option Addr) (cap : Nat) (zs : List Int) (size : Int) (w : World) (hl : zs.length ≤ 1000000) (hI : IntsAt w a zs) :
    Calls Tryz.prog 33 #[.slice a zs.length cap, .int .i64 size] w fun e w' => e = .returned (.bool (toldB zs size)) ∧ w = w' := by
  have HBad : Hid (∀ i, i < zs.length → size < zs[i]?.getD 0 → toldB zs size = false) := fun i h1 h2 => by rw [toldB, allLe_not h1 h2]; simp
  have HOk : Hid ((∀ i, i < zs.length → zs[i]?.getD 0 ≤ size) → toldB zs size = (inL zs && (decide (1 ≤ size) && decide (size ≤ 100)))) := fun h => by rw [toldB, allLe_get h]; simp
  obtain ⟨R, hR⟩ : ∃ R, toldB zs size = R := ⟨_, rfl⟩
  have HR := Lib.hid hR
  rw [hR]
  clear hR
  go_enter Tryz.func33, Tryz.ntmps33
  go_wp2
  go_loop [5] (fun i => ∃ k : Nat, k ≤ zs.length ∧ i = .int .i64 k ∧ Hid (∀ i, i < k → zs[i]?.getD 0 ≤ size)) (fun i => zs.length - (intOf i).toNat)
  case atStart => exact ⟨0, Nat.zero_le _, rfl, fun i hi => by omega⟩
  case round =>
    obtain ⟨k, hk, rfl, HK⟩ := hrel
    by_cases hlt : k < zs.length
    · obtain ⟨b, off, rfl, hb, hcell⟩ := hI.at (by omega)
      have hx := hcell k hlt
      have HKn : Hid (zs[k]?.getD 0 ≤ size → ∀ i, i < k + 1 → zs[i]?.getD 0 ≤ size) := fun h i hi => by
        by_cases e : i = k
        · subst e; exact h
        · exact HK.out i (by omega)
      have HBk := Lib.hid (HBad.out k hlt)
      generalize zs[k]?.getD 0 = x at hx HKn HBk
      clear hcell HK
      by_cases hxs : x ≤ size
      · have HN := Lib.hid (HKn.out hxs)
        go_wp2
        go_round
        case rel => exact ⟨k + 1, by omega, by go_num, HN⟩
        case measure => simp [intOf]; omega
      · have HF := Lib.hid (HBk.out (by omega))
        have hxs2 : size < x := by omega
        clear hxs HKn HBk
        go_wp2
        go_ret
        exact ⟨ret_bool (by rw [← HR.out, HF.out]), rfl⟩
    · have HF := Lib.hid (HOk.out (fun i hi => HK.out i (by omega)))
      obtain ⟨iz, hiz⟩ : ∃ iz, inL zs = iz := ⟨_, rfl⟩
      have HZ := Lib.hid hiz
      clear hiz
      cases iz with
      | false =>
        go_wp2_with (first | (go_at_call 20; refine (sSumIn_any a cap zs _ (by omega) hI).mono ?_; rw [HZ.out]; rintro e w' ⟨rfl, rfl⟩))
        go_ret
        exact ⟨ret_bool (by rw [← HR.out, HF.out, HZ.out]; rfl), rfl⟩
      | true =>
        go_wp2_with (first | (go_at_call 20; refine (sSumIn_any a cap zs _ (by omega) hI).mono ?_; rw [HZ.out]; rintro e w' ⟨rfl, rfl⟩) | (go_at_call 36; refine (l6In_any size 1 100 _).mono ?_; rintro e w' ⟨rfl, rfl⟩))
        go_ret
        exact ⟨ret_bool (by rw [← HR.out, HF.out, HZ.out]; rfl), rfl⟩

def idxV (c : Option Nat) : Int := match c with
  | none => -1
  | some k => k
theorem idxV_none : idxV none = -1 := rfl
theorem idxV_some (k : Nat) : idxV (some k) = k := rfl
theorem sch_next {r : Nat} {f : Nat → Int} {v : Int} {n k : Nat} (hr : r ≠ 0) : sch r f v n (k + 1) = chStep r f v k (sch r f v n k) := by
  unfold sch
  rw [if_neg (by omega), if_neg (by omega), chs]
theorem sch_end (r : Nat) (f : Nat → Int) (v : Int) (n : Nat) : sch r f v n n = chs r f v n := by
  unfold sch
  rw [if_neg (by omega)]
theorem sch_start (r : Nat) (f : Nat → Int) (v : Int) (n : Nat) : sch r f v n 0 = none := by
  unfold sch
  split <;> rfl
theorem sch_bd {r : Nat} {f : Nat → Int} {v : Int} {n k j : Nat} (h : sch r f v n k = some j) : j < k := by
  unfold sch at h
  split at h
  · cases h
  · exact (chs_some h).1
theorem sch0_mid {f : Nat → Int} {v : Int} {n k : Nat} (h : k < n) : sch 0 f v n k = none := by
  unfold sch
  rw [if_pos ⟨rfl, h⟩]
/-- what is known of the lists in bins ahead of a search -/
def RowsOk (size : Int) (rows : List (List Int)) : Prop := rows.length ≤ 10 ∧ ∀ i : Nat, good (rows[i]?.getD []) ∧ (rows[i]?.getD []).length ≤ 10 ∧ 0 ≤ rm size rows i ∧ rm size rows i ≤ 100

end Go.Proofs.YtdpapalfafjncaaGreatDoor
