/- fill: numbers put into linked bins by a rule. Conditions: stated in each. Ahead of it: What lists and sizes are told of both; fill. Conditions: stated in each. Ahead of it: The linked bins: what lies where, opening a bin, putting a number. Conditions: stated in each. -/
import Derived.Test.YtmggcfilkiklbaaBB
import Derived.Test.YtmggcfilkiklbaaAA
import Derived.Test.YtmggcfilkiklbaaDR
import Derived.Test.YtmggcfilkiklbaaIY
namespace Go.Proofs.Ytmggcfilkiklbaa
open Go.RowKit

def vA (vs : List Value) (i : Nat) : Value := vs[i]?.getD (.slice none 0 0)
/-- the linked bins: bin i lies in block bl[i], owns its numbers, knows its room and the next bin -/
structure Bins (w : World) (base : Nat) (size : Int) (bl : List Nat) (vs : List Value) (bs : List (List Int)) : Prop where
  l1 : bl.length = bs.length
  l2 : vs.length = bs.length
  blk : ∀ i (h : i < bl.length), w.heap[bl[i]]? = some (.cells #[vA vs i, .int .i64 (rm size bs i), ptrAt bl (i + 1)] 42 (0, 0))
  own : ∀ i, i < bs.length → OwnI w base (vA vs i) (bs[i]?.getD [])
  ge : ∀ i (h : i < bl.length), base ≤ bl[i]
  nd : ∀ i j (hi : i < bl.length) (hj : j < bl.length), bl[i] = bl[j] → i = j
  ap : ∀ i g, i < bs.length → (vA vs i).ownBlock = some g → (∀ j (h : j < bl.length), bl[j] ≠ g) ∧ ∀ j, j < bs.length → j ≠ i → (vA vs j).ownBlock ≠ some g
theorem bins_nil (w : World) (base : Nat) (size : Int) : Bins w base size [] [] [] :=
  ⟨rfl, rfl, fun i h => absurd h (Nat.not_lt_zero _), fun i h => absurd h (Nat.not_lt_zero _), fun i h => absurd h (Nat.not_lt_zero _), fun i j h => absurd h (Nat.not_lt_zero _), fun i g h => absurd h (Nat.not_lt_zero _)⟩
theorem Bins.dr {w : World} {base : Nat} {size : Int} {bl : List Nat} {vs : List Value} {bs : List (List Int)} (h : Bins w base size bl vs bs) (n : Nat) : Bins (w.drewN n) base size bl vs bs :=
  ⟨h.l1, h.l2, h.blk, fun i hi => (h.own i hi).dr n, h.ge, h.nd, h.ap⟩
theorem Bins.lt {w : World} {base : Nat} {size : Int} {bl : List Nat} {vs : List Value} {bs : List (List Int)} (h : Bins w base size bl vs bs) {i : Nat} (hi : i < bl.length) : bl[i] < w.heap.size := (Array.getElem?_eq_some_iff.1 (h.blk i hi)).1
theorem rooms_get (size : Int) (bs : List (List Int)) (i : Nat) (h : i < bs.length) : (bs.map (fun b => size - tot b))[i]?.getD 0 = rm size bs i := by
  rw [List.getElem?_map, List.getElem?_eq_getElem h, rm, List.getElem?_eq_getElem h]; rfl
theorem Bins.chain {w : World} {base : Nat} {size : Int} {bl : List Nat} {vs : List Value} {bs : List (List Int)} (h : Bins w base size bl vs bs) : Chain w bl (bs.map (fun b => size - tot b)) := by
  refine ⟨by rw [List.length_map]; exact h.l1, fun i hi => ?_⟩
  have hb := h.blk i hi
  rw [rooms_get size bs i (by rw [← h.l1]; exact hi)]
  exact ⟨by simp [World.cell?, hb], by simp [World.cell?, hb]⟩
theorem chs_rooms (r : Nat) (size : Int) (bs : List (List Int)) (x : Int) (n : Nat) (hn : n = bs.length) : chs r (fun i : Nat => (bs.map (fun b => size - tot b))[i]?.getD 0) x n = chs r (rm size bs) x bs.length := by
  subst hn
  exact chs_congr (fun j hj => rooms_get size bs j hj)
theorem grownBy_setA (w : World) (p : Addr) (v : Value) : w.grownBy (w.setCell p v) (some p.block) :=
  ⟨rfl, rfl, rfl, by simp, fun k _ hk => Below.heap_setCell w p v k (fun e => hk (by rw [e]))⟩
/-- bins under a change that leaves their blocks and their rows as they were -/
theorem Bins.keep {w w' : World} {base : Nat} {size : Int} {bl : List Nat} {vs : List Value} {bs : List (List Int)} {row : Option Nat} (h : Bins w base size bl vs bs) (hg : w.grownBy w' row)
    (h1 : ∀ i (hi : i < bl.length), row ≠ some bl[i]) (h2 : ∀ i, i < bs.length → (vA vs i).ownBlock = none ∨ (vA vs i).ownBlock ≠ row) : Bins w' base size bl vs bs :=
  ⟨h.l1, h.l2, fun i hi => (hg.block _ (h.lt hi) (fun e => h1 i hi e.symm)).trans (h.blk i hi), fun i hi => (h.own i hi).kept hg (h2 i hi), h.ge, h.nd, h.ap⟩
theorem Bins.keepB {w w' : World} {base : Nat} {size : Int} {bl : List Nat} {vs : List Value} {bs : List (List Int)} (h : Bins w base size bl vs bs) (hb : Below w.heap.size w w') : Bins w' base size bl vs bs :=
  ⟨h.l1, h.l2, fun i hi => (hb.block _ (h.lt hi)).trans (h.blk i hi), fun i hi => (h.own i hi).keptB hb, h.ge, h.nd, h.ap⟩

/-- a bin is opened: the first one -/
theorem bins_open0 (w : World) (base : Nat) (size : Int) (hb : base ≤ w.heap.size) :
    Bins (w.alloc (.cells #[.slice none 0 0, .int .i64 size, .pointer none] 42)) base size [w.heap.size] [.slice none 0 0] [[]] := by
  refine ⟨rfl, rfl, fun i hi => ?_, fun i hi => ?_, fun i hi => ?_, fun i j hi hj _ => ?_, fun i g hi hg => ?_⟩
  · obtain rfl : i = 0 := by simp at hi; omega
    show (w.alloc _).heap[w.heap.size]? = _
    rw [heap_alloc_new]
    simp [vA, rm, tot, ptrAt]
  · obtain rfl : i = 0 := by simp at hi; omega
    exact OwnI.nil _ _
  · obtain rfl : i = 0 := by simp at hi; omega
    exact hb
  · simp at hi hj; omega
  · obtain rfl : i = 0 := by simp at hi; omega
    cases hg
theorem ptrAt_app {bl : List Nat} {b i : Nat} (h : i < bl.length) : ptrAt (bl ++ [b]) i = ptrAt bl i := by
  unfold ptrAt; rw [List.getElem?_append_left h]
theorem ptrAt_new (bl : List Nat) (b : Nat) : ptrAt (bl ++ [b]) bl.length = .pointer (some ⟨b, 0, none⟩) := by
  unfold ptrAt; simp
theorem vA_app {vs : List Value} {v : Value} {i : Nat} (h : i < vs.length) : vA (vs ++ [v]) i = vA vs i := by
  unfold vA; rw [List.getElem?_append_left h]
theorem vA_new (vs : List Value) (v : Value) : vA (vs ++ [v]) vs.length = v := by
  unfold vA; simp
theorem rm_app {size : Int} {bs : List (List Int)} {b : List Int} {i : Nat} (h : i < bs.length) : rm size (bs ++ [b]) i = rm size bs i := by
  unfold rm; rw [List.getElem?_append_left h]
/-- a bin is opened behind others -/
theorem Bins.open1 {w : World} {base : Nat} {size : Int} {bl : List Nat} {vs : List Value} {bs : List (List Int)} (h : Bins w base size bl vs bs) (hb : base ≤ w.heap.size) (hn : 0 < bl.length) {l : Nat} (hl : bl[bl.length - 1] = l) :
    Bins ((w.alloc (.cells #[.slice none 0 0, .int .i64 size, .pointer none] 42)).setCell ⟨l, 2, none⟩ (.pointer (some ⟨w.heap.size, 0, none⟩))) base size (bl ++ [w.heap.size]) (vs ++ [.slice none 0 0]) (bs ++ [[]]) := by
  have hll : l < w.heap.size := by rw [← hl]; exact h.lt _
  have l1 := h.l1
  have l2 := h.l2
  have hA : Bins (w.alloc (.cells #[.slice none 0 0, .int .i64 size, .pointer none] 42)) base size bl vs bs := h.keepB ((Below.refl _ w).alloc (Nat.le_refl _) _)
  have hG := grownBy_setA (w.alloc (.cells #[.slice none 0 0, .int .i64 size, .pointer none] 42)) ⟨l, 2, none⟩ (.pointer (some ⟨w.heap.size, 0, none⟩))
  refine ⟨by simp [h.l1], by simp [h.l2], fun i hi => ?_, fun i hi => ?_, fun i hi => ?_, fun i j hi hj e => ?_, fun i g hi hg => ?_⟩
  · rw [List.length_append, List.length_singleton] at hi
    by_cases hi2 : i < bl.length
    · rw [List.getElem_append_left hi2, vA_app (by omega), rm_app (by omega)]
      by_cases hi3 : i + 1 < bl.length
      · have hne : bl[i] ≠ l := fun e => by
          have := h.nd i (bl.length - 1) hi2 (by omega) (e.trans hl.symm)
          omega
        rw [ptrAt_app hi3]
        refine (hG.block _ (by simp; have := h.lt hi2; omega) (fun e => hne (Option.some.inj e))).trans ?_
        exact hA.blk i hi2
      · obtain rfl : i = bl.length - 1 := by omega
        rw [hl, show bl.length - 1 + 1 = bl.length by omega, ptrAt_new]
        have hbk := hA.blk (bl.length - 1) hi2
        rw [hl] at hbk
        show ((w.alloc _).heap.modify l _)[l]? = _
        rw [Array.getElem?_modify, if_pos rfl, hbk]
        rfl
    · obtain rfl : i = bl.length := by omega
      rw [List.getElem_concat_length (by rfl)]
      refine (hG.block _ (by simp) (fun e => by have := Option.some.inj e; simp at this; omega)).trans ?_
      rw [heap_alloc_new, show vA (vs ++ [Value.slice none 0 0]) bl.length = .slice none 0 0 by rw [show bl.length = vs.length by omega]; exact vA_new _ _, ptrAt_ge (by simp)]
      congr 3
      unfold rm
      rw [l1, List.getElem?_append_right (Nat.le_refl _), Nat.sub_self]
      simp [tot]
  · rw [List.length_append, List.length_singleton] at hi
    by_cases hi2 : i < bs.length
    · rw [vA_app (by omega), List.getElem?_append_left hi2]
      refine (hA.own i hi2).kept hG ?_
      cases hv : (vA vs i).ownBlock with
      | none => exact .inl rfl
      | some g => exact .inr (fun e => by
          have := (h.ap i g hi2 hv).1 (bl.length - 1) (by omega)
          exact this (hl.trans (Option.some.inj e).symm))
    · obtain rfl : i = bs.length := by omega
      rw [show vA (vs ++ [Value.slice none 0 0]) bs.length = .slice none 0 0 by rw [← l2]; exact vA_new _ _, List.getElem?_append_right (Nat.le_refl _), Nat.sub_self]
      exact OwnI.nil _ _
  · rw [List.length_append, List.length_singleton] at hi
    by_cases hi2 : i < bl.length
    · rw [List.getElem_append_left hi2]; exact h.ge i hi2
    · obtain rfl : i = bl.length := by omega
      rw [List.getElem_concat_length (by rfl)]; exact hb
  · rw [List.length_append, List.length_singleton] at hi hj
    by_cases hi2 : i < bl.length
    · by_cases hj2 : j < bl.length
      · rw [List.getElem_append_left hi2, List.getElem_append_left hj2] at e
        exact h.nd i j hi2 hj2 e
      · obtain rfl : j = bl.length := by omega
        rw [List.getElem_append_left hi2, List.getElem_concat_length (by rfl)] at e
        have := h.lt hi2
        omega
    · obtain rfl : i = bl.length := by omega
      by_cases hj2 : j < bl.length
      · rw [List.getElem_append_left hj2, List.getElem_concat_length (by rfl)] at e
        have := h.lt hj2
        omega
      · omega
  · rw [List.length_append, List.length_singleton] at hi
    by_cases hi2 : i < bs.length
    · rw [vA_app (by omega)] at hg
      have hlt := ((h.own i hi2).lt g hg).2
      refine ⟨fun j hj => ?_, fun j hj hji => ?_⟩
      · rw [List.length_append, List.length_singleton] at hj
        by_cases hj2 : j < bl.length
        · rw [List.getElem_append_left hj2]; exact (h.ap i g hi2 hg).1 j hj2
        · obtain rfl : j = bl.length := by omega
          rw [List.getElem_concat_length (by rfl)]; omega
      · rw [List.length_append, List.length_singleton] at hj
        by_cases hj2 : j < bs.length
        · rw [vA_app (by omega)]; exact (h.ap i g hi2 hg).2 j hj2 hji
        · obtain rfl : j = bs.length := by omega
          rw [show vA (vs ++ [Value.slice none 0 0]) bs.length = .slice none 0 0 by rw [← l2]; exact vA_new _ _]
          exact fun e => by cases e
    · obtain rfl : i = bs.length := by omega
      rw [show vA (vs ++ [Value.slice none 0 0]) bs.length = .slice none 0 0 by rw [← l2]; exact vA_new _ _] at hg
      cases hg
theorem vA_set {vs : List Value} {v : Value} {k i : Nat} (h : k < vs.length) : vA (vs.set k v) i = if k = i then v else vA vs i := by
  unfold vA
  rw [List.getElem?_set]
  by_cases e : k = i
  · subst e; simp [h]
  · rw [if_neg e, if_neg e]
theorem bs_set {bs : List (List Int)} {b : List Int} {k i : Nat} (h : k < bs.length) : (bs.set k b)[i]?.getD [] = if k = i then b else bs[i]?.getD [] := by
  rw [List.getElem?_set]
  by_cases e : k = i
  · subst e; simp [h]
  · rw [if_neg e, if_neg e]
/-- what the walk reads and writes of bin k once its numbers are appended to -/
theorem Bins.facts {w w' : World} {base : Nat} {size : Int} {bl : List Nat} {vs : List Value} {bs : List (List Int)} (h : Bins w base size bl vs bs) {k : Nat} (hk : k < bl.length) {b : Nat} (hb : bl[k] = b) (hG : w.grownBy w' (vA vs k).ownBlock) :
    w'.heap[b]? = some (.cells #[vA vs k, .int .i64 (rm size bs k), ptrAt bl (k + 1)] 42 (0, 0)) := by
  subst hb
  refine (hG.block _ (h.lt hk) (fun e => ?_)).trans (h.blk k hk)
  exact (h.ap k bl[k] (by rw [← h.l1]; exact hk) e.symm).1 k hk rfl
theorem bin_cells {w : World} {b : Nat} {v n : Value} {r : Int} (h : w.heap[b]? = some (.cells #[v, .int .i64 r, n] 42 (0, 0))) :
    w.cell? ⟨b, 0, none⟩ = some v ∧ w.frozen? ⟨b, 0, none⟩ = false ∧ w.cell? ⟨b, 1, none⟩ = some (.int .i64 r) ∧ w.frozen? ⟨b, 1, none⟩ = false ∧ w.cell? ⟨b, 2, none⟩ = some n ∧ w.frozen? ⟨b, 2, none⟩ = false := by
  refine ⟨?_, ?_, ?_, ?_, ?_, ?_⟩ <;> simp [World.cell?, World.frozen?, h]
theorem bin_set0 {w : World} {b : Nat} {v n : Value} {r : Int} (h : w.heap[b]? = some (.cells #[v, .int .i64 r, n] 42 (0, 0))) (u : Value) :
    (w.setCell ⟨b, 0, none⟩ u).heap[b]? = some (.cells #[u, .int .i64 r, n] 42 (0, 0)) := by
  show (w.heap.modify b _)[b]? = _
  rw [Array.getElem?_modify, if_pos rfl, h]
  rfl
theorem bin_set1 {w : World} {b : Nat} {v n : Value} {r : Int} (h : w.heap[b]? = some (.cells #[v, .int .i64 r, n] 42 (0, 0))) (u : Value) :
    (w.setCell ⟨b, 1, none⟩ u).heap[b]? = some (.cells #[v, u, n] 42 (0, 0)) := by
  show (w.heap.modify b _)[b]? = _
  rw [Array.getElem?_modify, if_pos rfl, h]
  rfl
/-- a number is put into bin k -/
theorem Bins.put {w w' : World} {base : Nat} {size : Int} {bl : List Nat} {vs : List Value} {bs : List (List Int)} (h : Bins w base size bl vs bs) {k : Nat} (hk : k < bl.length) {b : Nat} (hb : bl[k] = b) {v' : Value} {x : Int} (hO : OwnI w' base v' (bs[k]?.getD [] ++ [x])) (hG : w.grownBy w' (vA vs k).ownBlock)
    (hat : v'.ownBlock = (vA vs k).ownBlock ∨ v'.ownBlock = some (w.heap.size + 1)) :
    Bins ((w'.setCell ⟨b, 0, none⟩ v').setCell ⟨b, 1, none⟩ (.int .i64 (rm size bs k - x))) base size bl (vs.set k v') (bs.set k (bs[k]?.getD [] ++ [x])) := by
  have l1 := h.l1
  have l2 := h.l2
  have hb' := h.facts hk hb hG
  have hbb := bin_set1 (bin_set0 hb' v') (.int .i64 (rm size bs k - x))
  have hG1 := grownBy_setA w' ⟨b, 0, none⟩ v'
  have hG2 := grownBy_setA (w'.setCell ⟨b, 0, none⟩ v') ⟨b, 1, none⟩ (.int .i64 (rm size bs k - x))
  have hbl : b < w.heap.size := by rw [← hb]; exact h.lt hk
  -- the row of bin k is none of the bins' blocks, and no other bin's row
  have hrow : ∀ i, i < bs.length → i ≠ k → (vA vs i).ownBlock = none ∨ (vA vs i).ownBlock ≠ (vA vs k).ownBlock := fun i hi hik => by
    cases hv : (vA vs k).ownBlock with
    | none => cases hvi : (vA vs i).ownBlock with
      | none => exact .inl rfl
      | some g => exact .inr (fun e => by cases e)
    | some g => exact .inr ((h.ap k g (by omega) hv).2 i hi hik)
  have hv'b : v'.ownBlock ≠ some b := fun e => by
    rcases hat with hat | hat
    · rw [e] at hat
      exact (h.ap k b (by omega) hat.symm).1 k hk hb
    · rw [e] at hat
      have := Option.some.inj hat
      omega
  have hkeep : ∀ u zs, OwnI w' base u zs → u.ownBlock ≠ some b → OwnI ((w'.setCell ⟨b, 0, none⟩ v').setCell ⟨b, 1, none⟩ (.int .i64 (rm size bs k - x))) base u zs := fun u zs hu hne => (hu.kept hG1 (.inr hne)).kept hG2 (.inr hne)
  refine ⟨by simp [h.l1], by simp [h.l2], fun i hi => ?_, fun i hi => ?_, h.ge, h.nd, fun i g hi hg => ?_⟩
  · rw [vA_set (by omega)]
    by_cases e : k = i
    · subst e
      have hrm : rm size (bs.set k (bs[k]?.getD [] ++ [x])) k = rm size bs k - x := by
        unfold rm
        rw [bs_set (by omega), if_pos rfl, tot_app, tot_one]
        omega
      rw [if_pos rfl, hb, hrm]
      exact hbb
    · rw [if_neg e]
      have hne : bl[i] ≠ b := fun e2 => e (h.nd k i hk hi (hb.trans e2.symm))
      have h1 := h.blk i hi
      have h2 : w'.heap[bl[i]]? = w.heap[bl[i]]? := hG.block _ (h.lt hi) (fun e2 => (h.ap k bl[i] (by omega) e2.symm).1 i hi rfl)
      have h3 := hG1.block bl[i] (by have := h.lt hi; have := hG.size; omega) (fun e2 => hne (Option.some.inj e2))
      have h4 := hG2.block bl[i] (by have := h.lt hi; have := hG.size; simp; omega) (fun e2 => hne (Option.some.inj e2))
      rw [h4, h3, h2, h1]
      congr 3
      unfold rm
      rw [bs_set (by omega), if_neg e]
  · rw [List.length_set] at hi
    rw [vA_set (by omega), bs_set (by omega)]
    by_cases e : k = i
    · subst e
      rw [if_pos rfl, if_pos rfl]
      exact hkeep _ _ hO hv'b
    · rw [if_neg e, if_neg e]
      refine hkeep _ _ ((h.own i hi).kept hG (hrow i hi (fun e2 => e e2.symm))) (fun e2 => ?_)
      exact (h.ap i b hi e2).1 k hk hb
  · rw [List.length_set] at hi
    rw [vA_set (by omega)] at hg
    by_cases e : k = i
    · subst e
      rw [if_pos rfl] at hg
      have key : (∀ j (hj : j < bl.length), bl[j] ≠ g) ∧ ∀ j, j < bs.length → j ≠ k → (vA vs j).ownBlock ≠ some g := by
        rcases hat with hat | hat
        · exact h.ap k g (by omega) (hat.symm.trans hg)
        · obtain rfl : w.heap.size + 1 = g := Option.some.inj (hat.symm.trans hg)
          refine ⟨fun j hj e2 => by have := h.lt hj; omega, fun j hj _ e2 => by have := ((h.own j hj).lt _ e2).2; omega⟩
      refine ⟨key.1, fun j hj hjk => ?_⟩
      rw [List.length_set] at hj
      rw [vA_set (by omega), if_neg (fun e2 => hjk e2.symm)]
      exact key.2 j hj hjk
    · rw [if_neg e] at hg
      refine ⟨(h.ap i g hi hg).1, fun j hj hji => ?_⟩
      rw [List.length_set] at hj
      rw [vA_set (by omega)]
      by_cases e3 : k = j
      · rw [if_pos e3]
        intro e4
        rcases hat with hat | hat
        · exact (h.ap i g hi hg).2 k (by omega) e (hat.symm.trans e4)
        · obtain rfl : w.heap.size + 1 = g := Option.some.inj (hat.symm.trans e4)
          have := ((h.own i hi).lt _ hg).2
          omega
      · rw [if_neg e3]; exact (h.ap i g hi hg).2 j hj hji
end Go.Proofs.Ytmggcfilkiklbaa
namespace Go.Proofs.Ytmggcfilkiklbaa
open Go.RowKit

def allLe (size : Int) (zs : List Int) : Bool := zs.all (fun x => decide (x ≤ size))
def toldB (zs : List Int) (size : Int) : Bool := inL zs && (decide (1 ≤ size) && decide (size ≤ 100)) && allLe size zs
def ordB (c : Bool) (zs : List Int) : List Int := if c = true then sortD zs else zs
def binsO (zs : List Int) (size : Int) (o : Option (Nat × Bool)) : Option (List (List Int)) := match o with
  | some (r, c) => if toldB zs size = true then some (byB r size (ordB c zs)) else none
  | none => none
theorem binsO_some {zs : List Int} {size : Int} {r : Nat} {c : Bool} (h : toldB zs size = true) : binsO zs size (some (r, c)) = some (byB r size (ordB c zs)) := by unfold binsO; exact if_pos h
theorem binsO_no {zs : List Int} {size : Int} {o : Option (Nat × Bool)} (h : toldB zs size = false) : binsO zs size o = none := by
  cases o with
  | none => rfl
  | some p => obtain ⟨r, c⟩ := p; unfold binsO; exact if_neg (by rw [h]; decide)
theorem binsO_none (zs : List Int) (size : Int) : binsO zs size none = none := rfl
theorem allLe_iff {size : Int} {zs : List Int} : allLe size zs = true ↔ ∀ x ∈ zs, x ≤ size := by
  unfold allLe; rw [List.all_eq_true]; simp
theorem allLe_get {size : Int} {zs : List Int} (h : ∀ i, i < zs.length → zs[i]?.getD 0 ≤ size) : allLe size zs = true := allLe_iff.2 (fun x hx => by
  obtain ⟨i, hi, rfl⟩ := List.getElem_of_mem hx
  have := h i hi
  rwa [List.getElem?_eq_getElem hi] at this)
theorem allLe_not {size : Int} {zs : List Int} {i : Nat} (hi : i < zs.length) (h : size < zs[i]?.getD 0) : allLe size zs = false := by
  rw [Bool.eq_false_iff]
  intro hh
  have := allLe_iff.1 hh (zs[i]'hi) (List.getElem_mem hi)
  rw [List.getElem?_eq_getElem hi] at h
  simp at h
  omega
theorem toldB_is {zs : List Int} {size : Int} (h : toldB zs size = true) : inL zs = true ∧ 1 ≤ size ∧ size ≤ 100 ∧ ∀ x ∈ zs, x ≤ size := by
  unfold toldB at h
  rw [Bool.and_eq_true, Bool.and_eq_true, Bool.and_eq_true, decide_eq_true_iff, decide_eq_true_iff] at h
  exact ⟨h.1.1, h.1.2.1, h.1.2.2, allLe_iff.1 h.2⟩
theorem ordB_perm (c : Bool) (zs : List Int) : (ordB c zs).Perm zs := by
  unfold ordB
  split
  · exact sortD_perm zs
  · exact List.Perm.refl _

set_option maxHeartbeats 1600000 in
theorem binsTold_any (a : Option Addr) (cap : Nat) (zs : List Int) (size : Int) (w : World) (hl : zs.length ≤ 1000000) (hI : IntsAt w a zs) :
    Calls Try.prog 23 #[.slice a zs.length cap, .int .i64 size] w fun e w' => e = .returned (.bool (toldB zs size)) ∧ w = w' := by
  by_cases hz : inL zs = true
  case neg =>
    have hz' : inL zs = false := by simpa using hz
    have hR : toldB zs size = false := by rw [toldB, hz']; rfl
    rw [hR]
    have HZ := Lib.hid hz'
    clear hz hz' hR
    go_enter Try.func23, Try.ntmps23
    go_wp2_with (first | (go_at_call 37; refine (SumIn_any a cap zs _ (by omega) hI).mono ?_; rw [HZ.out]; rintro e w' ⟨rfl, rfl⟩))
    go_ret
    exact ⟨rfl, rfl⟩
  have HZ := Lib.hid hz
  by_cases hs : 1 ≤ size ∧ size ≤ 100
  case neg =>
    have hR : toldB zs size = false := by
      rw [toldB, show (decide (1 ≤ size) && decide (size ≤ 100)) = false by simp; omega]; simp
    rw [hR]
    clear hz hR
    by_cases h1 : size < 1
    · go_enter Try.func23, Try.ntmps23
      go_wp2_with (first | (go_at_call 37; refine (SumIn_any a cap zs _ (by omega) hI).mono ?_; rw [HZ.out]; rintro e w' ⟨rfl, rfl⟩))
      go_ret
      exact ⟨rfl, rfl⟩
    · have h2 : 100 < size := by omega
      clear hs
      go_enter Try.func23, Try.ntmps23
      go_wp2_with (first | (go_at_call 37; refine (SumIn_any a cap zs _ (by omega) hI).mono ?_; rw [HZ.out]; rintro e w' ⟨rfl, rfl⟩))
      go_ret
      exact ⟨rfl, rfl⟩
  have hd : toldB zs size = allLe size zs := by rw [toldB, hz, show (decide (1 ≤ size) && decide (size ≤ 100)) = true by simp; omega]; rfl
  have HD := Lib.hid hd
  have HBad : Hid (∀ i, i < zs.length → size < zs[i]?.getD 0 → allLe size zs = false) := fun i h1 h2 => allLe_not h1 h2
  have HOk : Hid ((∀ i, i < zs.length → zs[i]?.getD 0 ≤ size) → allLe size zs = true) := fun h => allLe_get h
  obtain ⟨R, hR⟩ : ∃ R, toldB zs size = R := ⟨_, rfl⟩
  have HR := Lib.hid hR
  rw [hR]
  clear hz hd hR
  go_enter Try.func23, Try.ntmps23
  go_wp2_with (first | (go_at_call 37; refine (SumIn_any a cap zs _ (by omega) hI).mono ?_; rw [HZ.out]; rintro e w' ⟨rfl, rfl⟩))
  go_loop [20] (fun i => ∃ k : Nat, k ≤ zs.length ∧ i = .int .i64 k ∧ Hid (∀ i, i < k → zs[i]?.getD 0 ≤ size)) (fun i => zs.length - (intOf i).toNat)
  case atStart => exact ⟨0, Nat.zero_le _, rfl, fun i hi => by omega⟩
  case round =>
    obtain ⟨k, hk, rfl, HK⟩ := hrel
    by_cases hlt : k < zs.length
    · obtain ⟨b, off, rfl, hb, hcell⟩ := hI.at (by omega)
      have hx := hcell k hlt
      have HKn : Hid (zs[k]?.getD 0 ≤ size → ∀ i, i < k + 1 → zs[i]?.getD 0 ≤ size) := fun h i hi => by
        by_cases e : i = k
        · subst e; exact h
        · exact HK.out i (by omega)
      have HBk := Lib.hid (HBad.out k hlt)
      generalize zs[k]?.getD 0 = x at hx HKn HBk
      clear hcell HK
      by_cases hxs : x ≤ size
      · have HN := Lib.hid (HKn.out hxs)
        go_wp2
        go_round
        case rel => exact ⟨k + 1, by omega, by go_num, HN⟩
        case measure => simp [intOf]; omega
      · have HF := Lib.hid (HBk.out (by omega))
        have hxs2 : size < x := by omega
        clear hxs HKn HBk
        go_wp2
        go_ret
        exact ⟨ret_bool (by rw [← HR.out, HD.out, HF.out]), rfl⟩
    · have HF := Lib.hid (HOk.out (fun i hi => HK.out i (by omega)))
      go_wp2
      go_ret
      exact ⟨ret_bool (by rw [← HR.out, HD.out, HF.out]), rfl⟩

/-- append of one number, the literal's block named by the walk's own words -/
theorem append1B (w : World) {ops : Array Oper} {rest : List Oper} {o : Oper} {a : Act} {Q : Exit → Act → World → Prop} (B : Nat) (hBs : w.heap.size = B) (hgd : o.guard = none) (s x : Operand)
    (ho : o.op = .call { callee := .builtin .append, args := #[s, x], argTypes := #[23, 23] }) (base : Nat) (v : Value) (zs : List Int) (z : Int)
    (hs : a.eval s = v) (hx : a.eval x = .slice (some ⟨B, 0, none⟩) 1 1) (hown : OwnI w base v zs) (hl : zs.length ≤ 1000000) (hbase : base ≤ w.heap.size)
    (h : ∀ v' w', OwnI w' base v' (zs ++ [z]) → w.grownBy w' v.ownBlock → (v'.ownBlock = v.ownBlock ∨ v'.ownBlock = some (w.heap.size + 1)) → wpList Try.prog ops Q rest (a.put o.dst v') w') :
    wpList Try.prog ops Q (o :: rest) a (w.alloc (.cells #[.int .i64 z] 3)) := by
  subst hBs
  exact append1At w hgd s x ho base v zs z hs hx hown hl hbase h
/-- the last bin, nil where there is none -/
def lastV (bl : List Nat) : Value := if bl.length = 0 then .pointer none else ptrAt bl (bl.length - 1)
theorem choose_any (bl : List Nat) (rs : List Int) (r : Nat) (hr3 : r ≤ 3) (x : Int) (w : World) (hr : ∀ i : Nat, 0 ≤ rs[i]?.getD 0 ∧ rs[i]?.getD 0 ≤ 100) (hx : 1 ≤ x ∧ x ≤ 100) (hC : Chain w bl rs) :
    Calls Try.prog 32 #[ruleV r, ptrAt bl 0, .int .i64 x] w (ChoosePost w bl (chs r (fun i : Nat => rs[i]?.getD 0) x bl.length)) := by
  have : r = 0 ∨ r = 1 ∨ r = 2 ∨ r = 3 := by omega
  rcases this with rfl | rfl | rfl | rfl
  · exact choose0 bl rs x w hr hx hC
  · exact choose1 bl rs x w hr hx hC
  · exact choose2 bl rs x w hr hx hC
  · exact choose3 bl rs x w hr hx hC
/-- the rooms stay between 0 and the size -/
theorem rooms_bd {r : Nat} {size : Int} {bs : List (List Int)} (h : BinsOk r size bs) (hs : 1 ≤ size ∧ size ≤ 100) : ∀ i : Nat, 0 ≤ (bs.map (fun b => size - tot b))[i]?.getD 0 ∧ (bs.map (fun b => size - tot b))[i]?.getD 0 ≤ 100 := fun i => by
  by_cases hi : i < bs.length
  · rw [rooms_get size bs i hi, rm, List.getElem?_eq_getElem hi]
    have h1 := h.each _ (List.getElem_mem hi)
    have h2 := good_tot h1.2.1
    simp only [Option.getD_some]
    omega
  · rw [List.getElem?_eq_none (by rw [List.length_map]; omega)]
    simp
theorem stepB_none {r : Nat} {size : Int} {bs : List (List Int)} {x : Int} (h : chs r (rm size bs) x bs.length = none) : stepB r size bs x = (bs ++ [[]]).set bs.length ((bs ++ [[]])[bs.length]?.getD [] ++ [x]) := by
  rw [stepB, h]; simp
theorem stepB_some {r : Nat} {size : Int} {bs : List (List Int)} {x : Int} {k : Nat} (h : chs r (rm size bs) x bs.length = some k) : stepB r size bs x = bs.set k (bs[k]?.getD [] ++ [x]) := by
  rw [stepB, h]
/-- what one round of filling makes -/
theorem fill_put {w w' : World} {base : Nat} {size : Int} {bl : List Nat} {vs : List Value} {bs : List (List Int)} (h : Bins w base size bl vs bs) {k : Nat} (hk : k < bl.length) {b : Nat} (hb : bl[k] = b) {v' : Value} {x : Int} (hO : OwnI w' base v' (bs[k]?.getD [] ++ [x])) (hG : w.grownBy w' (vA vs k).ownBlock) :
    w'.cell? ⟨b, 0, none⟩ = some (vA vs k) ∧ w'.frozen? ⟨b, 0, none⟩ = false ∧ (w'.setCell ⟨b, 0, none⟩ v').cell? ⟨b, 1, none⟩ = some (.int .i64 (rm size bs k)) ∧ (w'.setCell ⟨b, 0, none⟩ v').frozen? ⟨b, 1, none⟩ = false := by
  have hb' := h.facts hk hb hG
  have h1 := bin_cells hb'
  have h2 := bin_cells (bin_set0 hb' v')
  exact ⟨h1.1, h1.2.1, h2.2.2.1, h2.2.2.2.1⟩

/-- what fill answers -/
def FillPost (w : World) (zs : List Int) (size : Int) (o : Option (Nat × Bool)) (e : Ending) (w' : World) : Prop :=
  ∃ bl vs, e = .returned (.tuple #[ptrAt bl 0, .bool (binsO zs size o).isSome]) ∧ Bins w' w.heap.size size bl vs ((binsO zs size o).getD []) ∧ Below w.heap.size w w'
theorem fill_no {w w' : World} {zs : List Int} {size : Int} {o : Option (Nat × Bool)} {e : Ending} (h : binsO zs size o = none) (he : e = .returned (.tuple #[.pointer none, .bool false])) (hB : Below w.heap.size w w') : FillPost w zs size o e w' := by
  unfold FillPost
  rw [h]
  exact ⟨[], [], he, bins_nil _ _ _, hB⟩

set_option maxHeartbeats 6400000 in
theorem fill_no1 (lt : ByteArray) (o : Option (Nat × Bool)) (hL : Ltr lt o) (ho : o.isSome = false) (a : Option Addr) (cap : Nat) (zs : List Int) (size : Int) (w : World) (hl : zs.length ≤ 19) (hI : IntsAt w a zs) :
    Calls Try.prog 17 #[.slice a zs.length cap, .int .i64 size, .string lt] w (FillPost w zs size o) := by
  have hn : o = none := by cases o with
    | none => rfl
    | some p => cases ho
  subst hn
  go_enter Try.func17, Try.ntmps17
  go_wp2_with fail
  refine (hL.rule w).mono ?_
  rintro e w1 ⟨rfl, hB1⟩
  unfold ruleO capO
  go_wp2
  refine bodyPost_ret (v := .tuple #[.pointer none, .bool false]) (by simp [results, Try.f17, go_sem]) rfl ?_
  exact fill_no rfl rfl hB1
set_option maxHeartbeats 6400000 in
theorem fill_no2 (lt : ByteArray) (r : Nat) (c : Bool) (hL : Ltr lt (some (r, c))) (a : Option Addr) (cap : Nat) (zs : List Int) (size : Int) (w : World) (hl : zs.length ≤ 19) (ht : toldB zs size = false) (hI : IntsAt w a zs) :
    Calls Try.prog 17 #[.slice a zs.length cap, .int .i64 size, .string lt] w (FillPost w zs size (some (r, c))) := by
  have HT := Lib.hid ht
  clear ht
  go_enter Try.func17, Try.ntmps17
  go_wp2_with fail
  refine (hL.rule w).mono ?_
  rintro e w1 ⟨rfl, hB1⟩
  have hI1 := hI.below hB1
  unfold ruleO capO
  go_wp2_with fail
  refine (binsTold_any a cap zs size w1 (by omega) hI1).mono ?_
  rw [HT.out]
  rintro e w' ⟨rfl, rfl⟩
  go_wp2
  refine bodyPost_ret (v := .tuple #[.pointer none, .bool false]) (by simp [results, Try.f17, go_sem]) rfl ?_
  exact fill_no (binsO_no HT.out) rfl hB1
end Go.Proofs.Ytmggcfilkiklbaa
namespace Go.Proofs.Ytmggcfilkiklbaa
open Go.RowKit

theorem Bins.mono {w : World} {base base' : Nat} {size : Int} {bl : List Nat} {vs : List Value} {bs : List (List Int)} (h : Bins w base size bl vs bs) (hb : base' ≤ base) : Bins w base' size bl vs bs :=
  ⟨h.l1, h.l2, h.blk, fun i hi => (h.own i hi).mono hb, fun i hi => Nat.le_trans hb (h.ge i hi), h.nd, h.ap⟩

set_option maxHeartbeats 12800000 in
theorem fill_true (lt : ByteArray) (r : Nat) (hL : Ltr lt (some (r, true))) (a : Option Addr) (cap : Nat) (zs : List Int) (size : Int) (w : World) (ht : toldB zs size = true) (hI : IntsAt w a zs) :
    Calls Try.prog 17 #[.slice a zs.length cap, .int .i64 size, .string lt] w (FillPost w zs size (some (r, true))) := by
  obtain ⟨hz, hs1, hs2, hle⟩ := toldB_is ht
  have hzl := (inL_iff zs).1 hz
  have hr3 := hL.small r true rfl
  have HT := Lib.hid ht
  have hperm := ordB_perm true zs
  have hxg : good (ordB true zs) := perm_good hperm hzl.2
  have hxs : ∀ x ∈ ordB true zs, x ≤ size := fun x hx => hle x (hperm.subset hx)
  have HXL : Hid (zs.length = (ordB true zs).length) := hperm.length_eq.symm
  have hzl1 : zs.length ≤ 10 := hzl.1
  have HRes : Hid (binsO zs size (some (r, true)) = some (byB r size (ordB true zs))) := binsO_some ht
  clear hz hle ht hzl hperm
  go_enter Try.func17, Try.ntmps17
  go_wp2_with fail
  refine (hL.rule w).mono ?_
  rintro e w1 ⟨rfl, hB1⟩
  have s1 := hB1.size
  have hI1 := hI.below hB1
  unfold ruleO capO
  go_wp2_with fail
  refine (binsTold_any a cap zs size w1 (by omega) hI1).mono ?_
  rw [HT.out]
  rintro e w' ⟨rfl, rfl⟩
  go_wp2_with fail
  refine (inOrder_any a cap zs w1 (by omega) hI1).mono ?_
  rintro e w2 ⟨v2, rfl, hO2, hB2⟩
  have hO3 : OwnI w2 w1.heap.size v2 (ordB true zs) := hO2
  generalize ordB true zs = xs at *
  obtain ⟨a2, c2, rfl, hI2, _⟩ := hO3.shape
  have hB3 := hB1.trans (hB2.mono s1)
  clear hI1 hO2 hO3 hB2 hB1 s1
  have hxl : xs.length ≤ 10 := by have := HXL.out; omega
  have HXG := Lib.hid hxg
  have HXS := Lib.hid hxs
  have HI2 := Lib.hid hI2
  have HI := Lib.hid hI
  clear hxg hxs HT hI2 hI
  go_wp2
  go_loopw [11, 12, 35] (fun h l i wr => ∃ (k : Nat) (bl : List Nat) (vs : List Value), k ≤ xs.length ∧ i = .int .i64 k ∧ Hid (h = ptrAt bl 0) ∧ Hid (l = lastV bl) ∧ Bins wr w2.heap.size size bl vs (byB r size (xs.take k)) ∧ Below w2.heap.size w2 wr) (fun _ _ i _ => xs.length - (intOf i).toNat)
  case atStart => exact ⟨0, [], [], Nat.zero_le _, rfl, rfl, rfl, bins_nil _ _ _, Below.refl _ _⟩
  case round =>
    obtain ⟨k, bl, vs, hk, rfl, HH, HLL, hBn, hBr⟩ := hrel
    by_cases hlt : k < xs.length
    · have sr := hBr.size
      have hx60 : 1 ≤ xs[k]?.getD 0 ∧ xs[k]?.getD 0 ≤ 60 := by rw [List.getElem?_eq_getElem hlt]; exact HXG.out _ (List.getElem_mem hlt)
      obtain ⟨b, off, hab, hb, hcell⟩ := HI2.out.at (by omega)
      have hx : wr.cell? ⟨b, off + k, none⟩ = some (.int .i64 (xs[k]?.getD 0)) := (hBr.cell (p := ⟨b, off + k, none⟩) hb).trans (hcell k hlt)
      have hok := byB_ok (r := r) (size := size) (xs := xs.take k) (fun y hy => HXG.out y (List.mem_of_mem_take hy)) (fun y hy => HXS.out y (List.mem_of_mem_take hy))
      have hbs : (byB r size (xs.take k)).flatten.length ≤ 10 := by rw [hok.2.1.length_eq, List.length_take]; omega
      have HST := Lib.hid (byB_take r size xs k hlt)
      have HRB := Lib.hid (rooms_bd hok.1 ⟨hs1, hs2⟩)
      subst hab
      generalize byB r size (xs.take k) = bs at hBn hbs HST HRB
      generalize xs[k]?.getD 0 = x at hx hx60 HST
      have hC := choose_any bl (bs.map (fun b => size - tot b)) r hr3 x wr HRB.out (by omega) hBn.chain
      rw [chs_rooms r size bs x bl.length hBn.l1, ← HH.out] at hC
      clear hcell hok
      obtain ⟨c, hc⟩ : ∃ c, chs r (rm size bs) x bs.length = c := ⟨_, rfl⟩
      rw [hc] at hC
      have hl1 := hBn.l1
      have hl2 := hBn.l2
      unfold ChoosePost at hC
      cases c with
      | some j =>
        have hj := (chs_some hc).1
        have HSB := Lib.hid (HST.out.trans (stepB_some hc))
        have hjl : j < bl.length := by omega
        have hfl := flat_len bs j
        have hrb : 0 ≤ rm size bs j ∧ rm size bs j ≤ 100 := by rw [← rooms_get size bs j hj]; exact HRB.out j
        have hbl : (bs[j]?.getD []).length ≤ 1000000 := by omega
        rw [chV_some, ptrAt_lt hjl] at hC
        generalize hbj : bl[j] = bb at hC
        have HBJ := Lib.hid hbj
        have hge : w2.heap.size ≤ bb := by rw [← hbj]; exact hBn.ge j hjl
        clear hc hbj HST hl1 hl2 hbs hfl
        go_wp2_with fail
        refine hC.mono ?_
        rintro e w5 ⟨rfl, n, rfl⟩
        have hBn5 := hBn.dr n
        have hBr5 := belowDr hBr n
        clear hC hBn hBr hx sr
        generalize wr.drewN n = W5 at *
        have hown := hBn5.own j hj
        have f0 : W5.cell? ⟨bb, 0, none⟩ = some (vA vs j) := (bin_cells ((by have := hBn5.blk j hjl; rw [HBJ.out] at this; exact this : W5.heap[bb]? = some (.cells #[vA vs j, .int .i64 (rm size bs j), ptrAt bl (j + 1)] 42 (0, 0))))).1
        have HP : Hid (∀ v' w', OwnI w' w2.heap.size v' (bs[j]?.getD [] ++ [x]) → W5.grownBy w' (vA vs j).ownBlock → (v'.ownBlock = (vA vs j).ownBlock ∨ v'.ownBlock = some (W5.heap.size + 1)) → Bins ((w'.setCell ⟨bb, 0, none⟩ v').setCell ⟨bb, 1, none⟩ (.int .i64 (rm size bs j - x))) w2.heap.size size bl (vs.set j v') (byB r size (xs.take (k + 1)))) := fun v' w' h1 h2 h3 => by
          rw [HSB.out]; exact hBn5.put hjl HBJ.out h1 h2 h3
        have HF : Hid (∀ v' w', OwnI w' w2.heap.size v' (bs[j]?.getD [] ++ [x]) → W5.grownBy w' (vA vs j).ownBlock → w'.cell? ⟨bb, 0, none⟩ = some (vA vs j) ∧ w'.frozen? ⟨bb, 0, none⟩ = false ∧ (w'.setCell ⟨bb, 0, none⟩ v').cell? ⟨bb, 1, none⟩ = some (.int .i64 (rm size bs j)) ∧ (w'.setCell ⟨bb, 0, none⟩ v').frozen? ⟨bb, 1, none⟩ = false) := fun v' w' h1 h2 => fill_put hBn5 hjl HBJ.out h1 h2
        clear hBn5 HSB HBJ HRB
        generalize rm size bs j = rj at *
        generalize bs[j]?.getD [] = bj at *
        generalize vA vs j = vj at *
        have s5 := hBr5.size
        go_wp2_with (at_builtin; refine append1At W5 rfl _ _ rfl w2.heap.size vj bj x rfl rfl hown hbl hBr5.size ?_; intro v' w' hO' hG' hat; obtain ⟨ad', cp', hv', _, _⟩ := hO'.shape; generalize hnn : List.length _ = n' at hv'; clear hnn; subst hv'; obtain ⟨f1, f2, f3, f4⟩ := HF.out _ w' hO' hG')
        go_roundw
        case rel => exact ⟨k + 1, bl, vs.set j _, by omega, by go_num, HH, HLL, HP.out _ w' hO' hG' hat, ((hBr5.grown hG' hBr5.size (fun j hj => (hown.lt j hj).1)).setCell (p := ⟨bb, 0, none⟩) hge _).setCell (p := ⟨bb, 1, none⟩) hge _⟩
        case measure => simp [intOf]; omega
      | none =>
        have HSB := Lib.hid (HST.out.trans (stepB_none hc))
        rw [chV_none] at hC
        clear hc HST HRB
        by_cases hbl : bl.length = 0
        · obtain rfl : bl = [] := List.eq_nil_of_length_eq_zero hbl
          obtain rfl : bs = [] := List.eq_nil_of_length_eq_zero (by simpa using hl1.symm)
          obtain rfl : vs = [] := List.eq_nil_of_length_eq_zero (by simpa using hl2)
          have hhv := HH.out
          have hlv := HLL.out
          change _ = Value.pointer none at hhv
          change _ = Value.pointer none at hlv
          subst hhv
          subst hlv
          clear HH HLL hl1 hl2 hbl hbs
          go_wp2_with fail
          refine hC.mono ?_
          rintro e w5 ⟨rfl, n, rfl⟩
          have hBr5 := belowDr hBr n
          clear hC hBn hBr hx sr
          generalize wr.drewN n = W5 at *
          have s5 := hBr5.size
          have hBo := bins_open0 W5 w2.heap.size size hBr5.size
          have hBr6 := hBr5.alloc hBr5.size (.cells #[.slice none 0 0, .int .i64 size, .pointer none] 42)
          have hrm : rm size [[]] 0 = size := by simp [rm, tot]
          have HP : Hid (∀ v' w', OwnI w' w2.heap.size v' ([] ++ [x]) → (W5.alloc (.cells #[.slice none 0 0, .int .i64 size, .pointer none] 42)).grownBy w' (Value.slice none 0 0).ownBlock → (v'.ownBlock = (Value.slice none 0 0).ownBlock ∨ v'.ownBlock = some ((W5.alloc (.cells #[.slice none 0 0, .int .i64 size, .pointer none] 42)).heap.size + 1)) → Bins ((w'.setCell ⟨W5.heap.size, 0, none⟩ v').setCell ⟨W5.heap.size, 1, none⟩ (.int .i64 (size - x))) w2.heap.size size [W5.heap.size] [v'] (byB r size (xs.take (k + 1)))) := fun v' w' h1 h2 h3 => by
            have := hBo.put (k := 0) (by simp) rfl (v' := v') (x := x) h1 h2 h3
            rw [hrm] at this
            rw [HSB.out]; exact this
          have HF : Hid (∀ v' w', OwnI w' w2.heap.size v' ([] ++ [x]) → (W5.alloc (.cells #[.slice none 0 0, .int .i64 size, .pointer none] 42)).grownBy w' (Value.slice none 0 0).ownBlock → w'.cell? ⟨W5.heap.size, 0, none⟩ = some (.slice none 0 0) ∧ w'.frozen? ⟨W5.heap.size, 0, none⟩ = false ∧ (w'.setCell ⟨W5.heap.size, 0, none⟩ v').cell? ⟨W5.heap.size, 1, none⟩ = some (.int .i64 size) ∧ (w'.setCell ⟨W5.heap.size, 0, none⟩ v').frozen? ⟨W5.heap.size, 1, none⟩ = false) := fun v' w' h1 h2 => by
            have := fill_put hBo (k := 0) (by simp) rfl (v' := v') (x := x) h1 h2
            rw [hrm] at this
            exact this
          clear hBo hrm
          go_wp2_with (at_builtin; refine append1B (W5.alloc (.cells #[.slice none 0 0, .int .i64 size, .pointer none] 42)) (W5.heap.size + 1) (by simp) rfl _ _ rfl w2.heap.size (.slice none 0 0) [] x rfl rfl (OwnI.nil _ _) (by simp) hBr6.size ?_; intro v' w' hO' hG' hat; obtain ⟨ad', cp', hv', _, _⟩ := hO'.shape; generalize hnn : List.length _ = n' at hv'; clear hnn; subst hv'; obtain ⟨f1, f2, f3, f4⟩ := HF.out _ w' hO' hG')
          go_roundw
          case rel => exact ⟨k + 1, [W5.heap.size], [_], by omega, by go_num, rfl, rfl, HP.out _ w' hO' hG' hat, ((hBr6.grown hG' hBr6.size (fun j hj => by cases hj)).setCell (p := ⟨W5.heap.size, 0, none⟩) s5 _).setCell (p := ⟨W5.heap.size, 1, none⟩) s5 _⟩
          case measure => simp [intOf]; omega
        · have hpos : 0 < bl.length := by omega
          have hlv := HLL.out
          rw [lastV, if_neg hbl, ptrAt_lt (by omega)] at hlv
          generalize hlb : bl[bl.length - 1] = lb at hlv
          subst hlv
          have HLB := Lib.hid hlb
          have HH2 : Hid (_ = ptrAt (bl ++ [wr.heap.size]) 0) := HH.out.trans (ptrAt_app hpos).symm
          have hgl : w2.heap.size ≤ lb := by rw [← hlb]; exact hBn.ge _ _
          clear HH HLL hbl hbs hlb
          go_wp2_with fail
          refine hC.mono ?_
          rintro e w5 ⟨rfl, n, rfl⟩
          have hBn5 := hBn.dr n
          have hBr5 := belowDr hBr n
          have hsz : wr.heap.size = (wr.drewN n).heap.size := rfl
          rw [hsz] at HH2
          clear hC hBn hBr hx sr hsz
          generalize wr.drewN n = W5 at *
          have s5 := hBr5.size
          have hA := hBn5.keepB ((Below.refl _ W5).alloc (Nat.le_refl _) (.cells #[.slice none 0 0, .int .i64 size, .pointer none] 42))
          have hlk := bin_cells (by have := hA.blk (bl.length - 1) (by omega); rw [HLB.out] at this; exact this : (W5.alloc (.cells #[.slice none 0 0, .int .i64 size, .pointer none] 42)).heap[lb]? = some (.cells #[vA vs (bl.length - 1), .int .i64 (rm size bs (bl.length - 1)), ptrAt bl (bl.length - 1 + 1)] 42 (0, 0)))
          have g1 := hlk.2.2.2.2.1
          have g2 := hlk.2.2.2.2.2
          have hBo := hBn5.open1 hBr5.size hpos HLB.out
          have hBr6 := (hBr5.alloc hBr5.size (.cells #[.slice none 0 0, .int .i64 size, .pointer none] 42)).setCell (p := ⟨lb, 2, none⟩) hgl (.pointer (some ⟨W5.heap.size, 0, none⟩))
          have hrm : rm size (bs ++ [[]]) bl.length = size := by unfold rm; rw [hl1, List.getElem?_append_right (Nat.le_refl _), Nat.sub_self]; simp [tot]
          have hva : vA (vs ++ [Value.slice none 0 0]) bl.length = .slice none 0 0 := by rw [show bl.length = vs.length by omega]; exact vA_new _ _
          have hgb : (bs ++ [[]])[bl.length]?.getD [] = ([] : List Int) := by rw [hl1, List.getElem?_append_right (Nat.le_refl _), Nat.sub_self]; rfl
          have hkk : bl.length < (bl ++ [W5.heap.size]).length := by simp
          have hnb : (bl ++ [W5.heap.size])[bl.length] = W5.heap.size := List.getElem_concat_length (by rfl) _
          generalize hWn : (W5.alloc (.cells #[.slice none 0 0, .int .i64 size, .pointer none] 42)).setCell ⟨lb, 2, none⟩ (.pointer (some ⟨W5.heap.size, 0, none⟩)) = Wn at hBo hBr6
          have hg0 : Wn.cell? ⟨W5.heap.size, 0, none⟩ = some (.slice none 0 0) := by
            have := hBo.blk bl.length hkk
            rw [hnb, hva] at this
            exact (bin_cells this).1
          have HP : Hid (∀ v' w', OwnI w' w2.heap.size v' ([] ++ [x]) → Wn.grownBy w' (Value.slice none 0 0).ownBlock → (v'.ownBlock = (Value.slice none 0 0).ownBlock ∨ v'.ownBlock = some (Wn.heap.size + 1)) → Bins ((w'.setCell ⟨W5.heap.size, 0, none⟩ v').setCell ⟨W5.heap.size, 1, none⟩ (.int .i64 (size - x))) w2.heap.size size (bl ++ [W5.heap.size]) ((vs ++ [Value.slice none 0 0]).set bl.length v') (byB r size (xs.take (k + 1)))) := fun v' w' h1 h2 h3 => by
            have := hBo.put (k := bl.length) hkk hnb (v' := v') (x := x) (by rw [hgb]; exact h1) (by rw [hva]; exact h2) (by rw [hva]; exact h3)
            rw [hrm, hl1] at this
            rw [HSB.out, hl1]; exact this
          have HF : Hid (∀ v' w', OwnI w' w2.heap.size v' ([] ++ [x]) → Wn.grownBy w' (Value.slice none 0 0).ownBlock → w'.cell? ⟨W5.heap.size, 0, none⟩ = some (.slice none 0 0) ∧ w'.frozen? ⟨W5.heap.size, 0, none⟩ = false ∧ (w'.setCell ⟨W5.heap.size, 0, none⟩ v').cell? ⟨W5.heap.size, 1, none⟩ = some (.int .i64 size) ∧ (w'.setCell ⟨W5.heap.size, 0, none⟩ v').frozen? ⟨W5.heap.size, 1, none⟩ = false) := fun v' w' h1 h2 => by
            have := fill_put hBo (k := bl.length) hkk hnb (v' := v') (x := x) (by rw [hgb]; exact h1) (by rw [hva]; exact h2)
            rw [hrm, hva] at this
            exact this
          have HLS : Hid (Value.pointer (some ⟨W5.heap.size, 0, none⟩) = lastV (bl ++ [W5.heap.size])) := by
            show _ = _
            rw [lastV, if_neg (by simp), List.length_append, List.length_singleton, Nat.add_sub_cancel, ptrAt_new]
          have sWn := hBr6.size
          rw [← hWn] at hg0
          have HWn := Lib.hid hWn
          clear hBo hrm hva hgb hkk hnb hBn5 hA hlk HSB hWn
          go_wp2_with (at_builtin; rw [HWn.out]; refine append1B Wn (W5.heap.size + 1) (by rw [← HWn.out]; simp) rfl _ _ rfl w2.heap.size (.slice none 0 0) [] x rfl rfl (OwnI.nil _ _) (by simp) hBr6.size ?_; intro v' w' hO' hG' hat; obtain ⟨ad', cp', hv', _, _⟩ := hO'.shape; generalize hnn : List.length _ = n' at hv'; clear hnn; subst hv'; obtain ⟨f1, f2, f3, f4⟩ := HF.out _ w' hO' hG')
          go_roundw
          case rel => exact ⟨k + 1, bl ++ [W5.heap.size], (vs ++ [Value.slice none 0 0]).set bl.length _, by omega, by go_num, HH2, HLS, HP.out _ w' hO' hG' hat, ((hBr6.grown hG' hBr6.size (fun j hj => by cases hj)).setCell (p := ⟨W5.heap.size, 0, none⟩) s5 _).setCell (p := ⟨W5.heap.size, 1, none⟩) s5 _⟩
          case measure => simp [intOf]; omega
    · obtain rfl : k = xs.length := by omega
      rw [List.take_length] at hBn
      have hhv := HH.out
      subst hhv
      have hB9 := hB3.trans (hBr.mono hB3.size)
      have HB9 := Lib.hid (hBn.mono hB3.size)
      clear hBn
      go_wp2
      refine bodyPost_ret (v := .tuple #[ptrAt bl 0, .bool true]) (by simp [results, Try.f17, go_sem]) rfl ?_
      unfold FillPost
      rw [HRes.out]
      exact ⟨bl, vs, rfl, HB9.out, hB9⟩

set_option maxHeartbeats 12800000 in
theorem fill_false (lt : ByteArray) (r : Nat) (hL : Ltr lt (some (r, false))) (a : Option Addr) (cap : Nat) (zs : List Int) (size : Int) (w : World) (ht : toldB zs size = true) (hI : IntsAt w a zs) :
    Calls Try.prog 17 #[.slice a zs.length cap, .int .i64 size, .string lt] w (FillPost w zs size (some (r, false))) := by
  obtain ⟨hz, hs1, hs2, hle⟩ := toldB_is ht
  have hzl := (inL_iff zs).1 hz
  have hr3 := hL.small r false rfl
  have HT := Lib.hid ht
  have hperm := ordB_perm false zs
  have hxg : good (ordB false zs) := perm_good hperm hzl.2
  have hxs : ∀ x ∈ ordB false zs, x ≤ size := fun x hx => hle x (hperm.subset hx)
  have HXL : Hid (zs.length = (ordB false zs).length) := hperm.length_eq.symm
  have hzl1 : zs.length ≤ 10 := hzl.1
  have HRes : Hid (binsO zs size (some (r, false)) = some (byB r size (ordB false zs))) := binsO_some ht
  clear hz hle ht hzl hperm
  go_enter Try.func17, Try.ntmps17
  go_wp2_with fail
  refine (hL.rule w).mono ?_
  rintro e w1 ⟨rfl, hB1⟩
  have s1 := hB1.size
  have hI1 := hI.below hB1
  unfold ruleO capO
  go_wp2_with fail
  refine (binsTold_any a cap zs size w1 (by omega) hI1).mono ?_
  rw [HT.out]
  rintro e w' ⟨rfl, rfl⟩
  have hI2 : IntsAt w1 a (ordB false zs) := hI1
  have hB3 := hB1
  have hln : zs.length = (ordB false zs).length := HXL.out
  generalize ordB false zs = xs at *
  generalize zs.length = N at *
  subst hln
  clear hI1 hB1
  have hxl : xs.length ≤ 10 := by have := HXL.out; omega
  have HXG := Lib.hid hxg
  have HXS := Lib.hid hxs
  have HI2 := Lib.hid hI2
  have HI := Lib.hid hI
  clear hxg hxs HT hI2 hI
  go_wp2
  go_loopw [11, 12, 35] (fun h l i wr => ∃ (k : Nat) (bl : List Nat) (vs : List Value), k ≤ xs.length ∧ i = .int .i64 k ∧ Hid (h = ptrAt bl 0) ∧ Hid (l = lastV bl) ∧ Bins wr w1.heap.size size bl vs (byB r size (xs.take k)) ∧ Below w1.heap.size w1 wr) (fun _ _ i _ => xs.length - (intOf i).toNat)
  case atStart => exact ⟨0, [], [], Nat.zero_le _, rfl, rfl, rfl, bins_nil _ _ _, Below.refl _ _⟩
  case round =>
    obtain ⟨k, bl, vs, hk, rfl, HH, HLL, hBn, hBr⟩ := hrel
    by_cases hlt : k < xs.length
    · have sr := hBr.size
      have hx60 : 1 ≤ xs[k]?.getD 0 ∧ xs[k]?.getD 0 ≤ 60 := by rw [List.getElem?_eq_getElem hlt]; exact HXG.out _ (List.getElem_mem hlt)
      obtain ⟨b, off, hab, hb, hcell⟩ := HI2.out.at (by omega)
      have hx : wr.cell? ⟨b, off + k, none⟩ = some (.int .i64 (xs[k]?.getD 0)) := (hBr.cell (p := ⟨b, off + k, none⟩) hb).trans (hcell k hlt)
      have hok := byB_ok (r := r) (size := size) (xs := xs.take k) (fun y hy => HXG.out y (List.mem_of_mem_take hy)) (fun y hy => HXS.out y (List.mem_of_mem_take hy))
      have hbs : (byB r size (xs.take k)).flatten.length ≤ 10 := by rw [hok.2.1.length_eq, List.length_take]; omega
      have HST := Lib.hid (byB_take r size xs k hlt)
      have HRB := Lib.hid (rooms_bd hok.1 ⟨hs1, hs2⟩)
      subst hab
      generalize byB r size (xs.take k) = bs at hBn hbs HST HRB
      generalize xs[k]?.getD 0 = x at hx hx60 HST
      have hC := choose_any bl (bs.map (fun b => size - tot b)) r hr3 x wr HRB.out (by omega) hBn.chain
      rw [chs_rooms r size bs x bl.length hBn.l1, ← HH.out] at hC
      clear hcell hok
      obtain ⟨c, hc⟩ : ∃ c, chs r (rm size bs) x bs.length = c := ⟨_, rfl⟩
      rw [hc] at hC
      have hl1 := hBn.l1
      have hl2 := hBn.l2
      unfold ChoosePost at hC
      cases c with
      | some j =>
        have hj := (chs_some hc).1
        have HSB := Lib.hid (HST.out.trans (stepB_some hc))
        have hjl : j < bl.length := by omega
        have hfl := flat_len bs j
        have hrb : 0 ≤ rm size bs j ∧ rm size bs j ≤ 100 := by rw [← rooms_get size bs j hj]; exact HRB.out j
        have hbl : (bs[j]?.getD []).length ≤ 1000000 := by omega
        rw [chV_some, ptrAt_lt hjl] at hC
        generalize hbj : bl[j] = bb at hC
        have HBJ := Lib.hid hbj
        have hge : w1.heap.size ≤ bb := by rw [← hbj]; exact hBn.ge j hjl
        clear hc hbj HST hl1 hl2 hbs hfl
        go_wp2_with fail
        refine hC.mono ?_
        rintro e w5 ⟨rfl, n, rfl⟩
        have hBn5 := hBn.dr n
        have hBr5 := belowDr hBr n
        clear hC hBn hBr hx sr
        generalize wr.drewN n = W5 at *
        have hown := hBn5.own j hj
        have f0 : W5.cell? ⟨bb, 0, none⟩ = some (vA vs j) := (bin_cells ((by have := hBn5.blk j hjl; rw [HBJ.out] at this; exact this : W5.heap[bb]? = some (.cells #[vA vs j, .int .i64 (rm size bs j), ptrAt bl (j + 1)] 42 (0, 0))))).1
        have HP : Hid (∀ v' w', OwnI w' w1.heap.size v' (bs[j]?.getD [] ++ [x]) → W5.grownBy w' (vA vs j).ownBlock → (v'.ownBlock = (vA vs j).ownBlock ∨ v'.ownBlock = some (W5.heap.size + 1)) → Bins ((w'.setCell ⟨bb, 0, none⟩ v').setCell ⟨bb, 1, none⟩ (.int .i64 (rm size bs j - x))) w1.heap.size size bl (vs.set j v') (byB r size (xs.take (k + 1)))) := fun v' w' h1 h2 h3 => by
          rw [HSB.out]; exact hBn5.put hjl HBJ.out h1 h2 h3
        have HF : Hid (∀ v' w', OwnI w' w1.heap.size v' (bs[j]?.getD [] ++ [x]) → W5.grownBy w' (vA vs j).ownBlock → w'.cell? ⟨bb, 0, none⟩ = some (vA vs j) ∧ w'.frozen? ⟨bb, 0, none⟩ = false ∧ (w'.setCell ⟨bb, 0, none⟩ v').cell? ⟨bb, 1, none⟩ = some (.int .i64 (rm size bs j)) ∧ (w'.setCell ⟨bb, 0, none⟩ v').frozen? ⟨bb, 1, none⟩ = false) := fun v' w' h1 h2 => fill_put hBn5 hjl HBJ.out h1 h2
        clear hBn5 HSB HBJ HRB
        generalize rm size bs j = rj at *
        generalize bs[j]?.getD [] = bj at *
        generalize vA vs j = vj at *
        have s5 := hBr5.size
        go_wp2_with (at_builtin; refine append1At W5 rfl _ _ rfl w1.heap.size vj bj x rfl rfl hown hbl hBr5.size ?_; intro v' w' hO' hG' hat; obtain ⟨ad', cp', hv', _, _⟩ := hO'.shape; generalize hnn : List.length _ = n' at hv'; clear hnn; subst hv'; obtain ⟨f1, f2, f3, f4⟩ := HF.out _ w' hO' hG')
        go_roundw
        case rel => exact ⟨k + 1, bl, vs.set j _, by omega, by go_num, HH, HLL, HP.out _ w' hO' hG' hat, ((hBr5.grown hG' hBr5.size (fun j hj => (hown.lt j hj).1)).setCell (p := ⟨bb, 0, none⟩) hge _).setCell (p := ⟨bb, 1, none⟩) hge _⟩
        case measure => simp [intOf]; omega
      | none =>
        have HSB := Lib.hid (HST.out.trans (stepB_none hc))
        rw [chV_none] at hC
        clear hc HST HRB
        by_cases hbl : bl.length = 0
        · obtain rfl : bl = [] := List.eq_nil_of_length_eq_zero hbl
          obtain rfl : bs = [] := List.eq_nil_of_length_eq_zero (by simpa using hl1.symm)
          obtain rfl : vs = [] := List.eq_nil_of_length_eq_zero (by simpa using hl2)
          have hhv := HH.out
          have hlv := HLL.out
          change _ = Value.pointer none at hhv
          change _ = Value.pointer none at hlv
          subst hhv
          subst hlv
          clear HH HLL hl1 hl2 hbl hbs
          go_wp2_with fail
          refine hC.mono ?_
          rintro e w5 ⟨rfl, n, rfl⟩
          have hBr5 := belowDr hBr n
          clear hC hBn hBr hx sr
          generalize wr.drewN n = W5 at *
          have s5 := hBr5.size
          have hBo := bins_open0 W5 w1.heap.size size hBr5.size
          have hBr6 := hBr5.alloc hBr5.size (.cells #[.slice none 0 0, .int .i64 size, .pointer none] 42)
          have hrm : rm size [[]] 0 = size := by simp [rm, tot]
          have HP : Hid (∀ v' w', OwnI w' w1.heap.size v' ([] ++ [x]) → (W5.alloc (.cells #[.slice none 0 0, .int .i64 size, .pointer none] 42)).grownBy w' (Value.slice none 0 0).ownBlock → (v'.ownBlock = (Value.slice none 0 0).ownBlock ∨ v'.ownBlock = some ((W5.alloc (.cells #[.slice none 0 0, .int .i64 size, .pointer none] 42)).heap.size + 1)) → Bins ((w'.setCell ⟨W5.heap.size, 0, none⟩ v').setCell ⟨W5.heap.size, 1, none⟩ (.int .i64 (size - x))) w1.heap.size size [W5.heap.size] [v'] (byB r size (xs.take (k + 1)))) := fun v' w' h1 h2 h3 => by
            have := hBo.put (k := 0) (by simp) rfl (v' := v') (x := x) h1 h2 h3
            rw [hrm] at this
            rw [HSB.out]; exact this
          have HF : Hid (∀ v' w', OwnI w' w1.heap.size v' ([] ++ [x]) → (W5.alloc (.cells #[.slice none 0 0, .int .i64 size, .pointer none] 42)).grownBy w' (Value.slice none 0 0).ownBlock → w'.cell? ⟨W5.heap.size, 0, none⟩ = some (.slice none 0 0) ∧ w'.frozen? ⟨W5.heap.size, 0, none⟩ = false ∧ (w'.setCell ⟨W5.heap.size, 0, none⟩ v').cell? ⟨W5.heap.size, 1, none⟩ = some (.int .i64 size) ∧ (w'.setCell ⟨W5.heap.size, 0, none⟩ v').frozen? ⟨W5.heap.size, 1, none⟩ = false) := fun v' w' h1 h2 => by
            have := fill_put hBo (k := 0) (by simp) rfl (v' := v') (x := x) h1 h2
            rw [hrm] at this
            exact this
          clear hBo hrm
          go_wp2_with (at_builtin; refine append1B (W5.alloc (.cells #[.slice none 0 0, .int .i64 size, .pointer none] 42)) (W5.heap.size + 1) (by simp) rfl _ _ rfl w1.heap.size (.slice none 0 0) [] x rfl rfl (OwnI.nil _ _) (by simp) hBr6.size ?_; intro v' w' hO' hG' hat; obtain ⟨ad', cp', hv', _, _⟩ := hO'.shape; generalize hnn : List.length _ = n' at hv'; clear hnn; subst hv'; obtain ⟨f1, f2, f3, f4⟩ := HF.out _ w' hO' hG')
          go_roundw
          case rel => exact ⟨k + 1, [W5.heap.size], [_], by omega, by go_num, rfl, rfl, HP.out _ w' hO' hG' hat, ((hBr6.grown hG' hBr6.size (fun j hj => by cases hj)).setCell (p := ⟨W5.heap.size, 0, none⟩) s5 _).setCell (p := ⟨W5.heap.size, 1, none⟩) s5 _⟩
          case measure => simp [intOf]; omega
        · have hpos : 0 < bl.length := by omega
          have hlv := HLL.out
          rw [lastV, if_neg hbl, ptrAt_lt (by omega)] at hlv
          generalize hlb : bl[bl.length - 1] = lb at hlv
          subst hlv
          have HLB := Lib.hid hlb
          have HH2 : Hid (_ = ptrAt (bl ++ [wr.heap.size]) 0) := HH.out.trans (ptrAt_app hpos).symm
          have hgl : w1.heap.size ≤ lb := by rw [← hlb]; exact hBn.ge _ _
          clear HH HLL hbl hbs hlb
          go_wp2_with fail
          refine hC.mono ?_
          rintro e w5 ⟨rfl, n, rfl⟩
          have hBn5 := hBn.dr n
          have hBr5 := belowDr hBr n
          have hsz : wr.heap.size = (wr.drewN n).heap.size := rfl
          rw [hsz] at HH2
          clear hC hBn hBr hx sr hsz
          generalize wr.drewN n = W5 at *
          have s5 := hBr5.size
          have hA := hBn5.keepB ((Below.refl _ W5).alloc (Nat.le_refl _) (.cells #[.slice none 0 0, .int .i64 size, .pointer none] 42))
          have hlk := bin_cells (by have := hA.blk (bl.length - 1) (by omega); rw [HLB.out] at this; exact this : (W5.alloc (.cells #[.slice none 0 0, .int .i64 size, .pointer none] 42)).heap[lb]? = some (.cells #[vA vs (bl.length - 1), .int .i64 (rm size bs (bl.length - 1)), ptrAt bl (bl.length - 1 + 1)] 42 (0, 0)))
          have g1 := hlk.2.2.2.2.1
          have g2 := hlk.2.2.2.2.2
          have hBo := hBn5.open1 hBr5.size hpos HLB.out
          have hBr6 := (hBr5.alloc hBr5.size (.cells #[.slice none 0 0, .int .i64 size, .pointer none] 42)).setCell (p := ⟨lb, 2, none⟩) hgl (.pointer (some ⟨W5.heap.size, 0, none⟩))
          have hrm : rm size (bs ++ [[]]) bl.length = size := by unfold rm; rw [hl1, List.getElem?_append_right (Nat.le_refl _), Nat.sub_self]; simp [tot]
          have hva : vA (vs ++ [Value.slice none 0 0]) bl.length = .slice none 0 0 := by rw [show bl.length = vs.length by omega]; exact vA_new _ _
          have hgb : (bs ++ [[]])[bl.length]?.getD [] = ([] : List Int) := by rw [hl1, List.getElem?_append_right (Nat.le_refl _), Nat.sub_self]; rfl
          have hkk : bl.length < (bl ++ [W5.heap.size]).length := by simp
          have hnb : (bl ++ [W5.heap.size])[bl.length] = W5.heap.size := List.getElem_concat_length (by rfl) _
          generalize hWn : (W5.alloc (.cells #[.slice none 0 0, .int .i64 size, .pointer none] 42)).setCell ⟨lb, 2, none⟩ (.pointer (some ⟨W5.heap.size, 0, none⟩)) = Wn at hBo hBr6
          have hg0 : Wn.cell? ⟨W5.heap.size, 0, none⟩ = some (.slice none 0 0) := by
            have := hBo.blk bl.length hkk
            rw [hnb, hva] at this
            exact (bin_cells this).1
          have HP : Hid (∀ v' w', OwnI w' w1.heap.size v' ([] ++ [x]) → Wn.grownBy w' (Value.slice none 0 0).ownBlock → (v'.ownBlock = (Value.slice none 0 0).ownBlock ∨ v'.ownBlock = some (Wn.heap.size + 1)) → Bins ((w'.setCell ⟨W5.heap.size, 0, none⟩ v').setCell ⟨W5.heap.size, 1, none⟩ (.int .i64 (size - x))) w1.heap.size size (bl ++ [W5.heap.size]) ((vs ++ [Value.slice none 0 0]).set bl.length v') (byB r size (xs.take (k + 1)))) := fun v' w' h1 h2 h3 => by
            have := hBo.put (k := bl.length) hkk hnb (v' := v') (x := x) (by rw [hgb]; exact h1) (by rw [hva]; exact h2) (by rw [hva]; exact h3)
            rw [hrm, hl1] at this
            rw [HSB.out, hl1]; exact this
          have HF : Hid (∀ v' w', OwnI w' w1.heap.size v' ([] ++ [x]) → Wn.grownBy w' (Value.slice none 0 0).ownBlock → w'.cell? ⟨W5.heap.size, 0, none⟩ = some (.slice none 0 0) ∧ w'.frozen? ⟨W5.heap.size, 0, none⟩ = false ∧ (w'.setCell ⟨W5.heap.size, 0, none⟩ v').cell? ⟨W5.heap.size, 1, none⟩ = some (.int .i64 size) ∧ (w'.setCell ⟨W5.heap.size, 0, none⟩ v').frozen? ⟨W5.heap.size, 1, none⟩ = false) := fun v' w' h1 h2 => by
            have := fill_put hBo (k := bl.length) hkk hnb (v' := v') (x := x) (by rw [hgb]; exact h1) (by rw [hva]; exact h2)
            rw [hrm, hva] at this
            exact this
          have HLS : Hid (Value.pointer (some ⟨W5.heap.size, 0, none⟩) = lastV (bl ++ [W5.heap.size])) := by
            show _ = _
            rw [lastV, if_neg (by simp), List.length_append, List.length_singleton, Nat.add_sub_cancel, ptrAt_new]
          have sWn := hBr6.size
          rw [← hWn] at hg0
          have HWn := Lib.hid hWn
          clear hBo hrm hva hgb hkk hnb hBn5 hA hlk HSB hWn
          go_wp2_with (at_builtin; rw [HWn.out]; refine append1B Wn (W5.heap.size + 1) (by rw [← HWn.out]; simp) rfl _ _ rfl w1.heap.size (.slice none 0 0) [] x rfl rfl (OwnI.nil _ _) (by simp) hBr6.size ?_; intro v' w' hO' hG' hat; obtain ⟨ad', cp', hv', _, _⟩ := hO'.shape; generalize hnn : List.length _ = n' at hv'; clear hnn; subst hv'; obtain ⟨f1, f2, f3, f4⟩ := HF.out _ w' hO' hG')
          go_roundw
          case rel => exact ⟨k + 1, bl ++ [W5.heap.size], (vs ++ [Value.slice none 0 0]).set bl.length _, by omega, by go_num, HH2, HLS, HP.out _ w' hO' hG' hat, ((hBr6.grown hG' hBr6.size (fun j hj => by cases hj)).setCell (p := ⟨W5.heap.size, 0, none⟩) s5 _).setCell (p := ⟨W5.heap.size, 1, none⟩) s5 _⟩
          case measure => simp [intOf]; omega
    · obtain rfl : k = xs.length := by omega
      rw [List.take_length] at hBn
      have hhv := HH.out
      subst hhv
      have hB9 := hB3.trans (hBr.mono hB3.size)
      have HB9 := Lib.hid (hBn.mono hB3.size)
      clear hBn
      go_wp2
      refine bodyPost_ret (v := .tuple #[ptrAt bl 0, .bool true]) (by simp [results, Try.f17, go_sem]) rfl ?_
      unfold FillPost
      rw [HRes.out]
      exact ⟨bl, vs, rfl, HB9.out, hB9⟩

theorem fill_any (lt : ByteArray) (o : Option (Nat × Bool)) (hL : Ltr lt o) (a : Option Addr) (cap : Nat) (zs : List Int) (size : Int) (w : World) (hl : zs.length ≤ 19) (hI : IntsAt w a zs) :
    Calls Try.prog 17 #[.slice a zs.length cap, .int .i64 size, .string lt] w (FillPost w zs size o) := by
  cases o with
  | none => exact fill_no1 lt none hL rfl a cap zs size w hl hI
  | some p =>
    obtain ⟨r, c⟩ := p
    by_cases ht : toldB zs size = true
    · cases c with
      | true => exact fill_true lt r hL a cap zs size w ht hI
      | false => exact fill_false lt r hL a cap zs size w ht hI
    · exact fill_no2 lt r c hL a cap zs size w hl (by simpa using ht) hI
end Go.Proofs.Ytmggcfilkiklbaa
