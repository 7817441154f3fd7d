/- SumChoices of the program. Conditions: the list is short enough to be counted. -/
import Derived.Test.YtokfkhdngmpkgaaW16
namespace Go.Proofs.Ytokfkhdngmpkgaa
open Go.RowKit Go.Shelf
attribute [local go_sem] Oper.semAt_some

theorem append1In {F : Fence} {fu : Nat} (w : World) {ops : Array Oper} {rest : List Oper} {o : Oper} {a : Act} {Q : Exit → Act → World → Prop} (hgd : o.guard = none) (s x : Operand)
    (ho : o.op = .call { callee := .builtin .append, args := #[s, x], argTypes := #[23, 23] }) (base : Nat) (v : Value) (zs : List Int) (z : Int)
    (hs : a.eval s = v) (hx : a.eval x = .slice (some ⟨w.heap.size, 0, none⟩) 1 1) (hown : OwnI w base v zs) (hl : zs.length ≤ 1000000) (hbase : base ≤ w.heap.size)
    (h : ∀ v' w', OwnI w' base v' (zs ++ [z]) → w.grownBy w' v.ownBlock → wpListIn F fu Try.prog ops Q rest (a.put o.dst v') w') :
    wpListIn F fu Try.prog ops Q (o :: rest) a (w.alloc (.cells #[.int .i64 z] 3)) := by
  obtain ⟨i0, hi, hz0, hz1, hz2⟩ := info_parts Try.infoInt
  have hown' := World.ownsRow.alloc hown (.cells #[.int .i64 z] 3)
  refine wpListIn_append_own _ hgd s x 23 ho base 3 i0 (.int .i64 0) 1 8 Try.underlying23 hi hz0 hz1 hz2 rfl (by decide) v zs.length _ hs hown' ⟨w.heap.size, 0, none⟩ 1 1 [.int .i64 z] hx rfl (cell_one_new' _ _ _) (by simp [Value.oneCell']) (by unfold maxLen; omega) (by omega) (by simp; omega) ?_
  intro v' w' h1 h2 _
  refine h v' w' ?_ ((World.grownBy_alloc w _ _).trans' h2)
  unfold OwnI
  simpa using h1

/-- the choices so far with the sum T -/
def foundL (zs : List Int) (T : Int) (l : List Nat) : List Int := (l.filter (fun c => csum zs c == T)).map (fun c : Nat => (c : Int))
theorem foundL_yes {zs : List Int} {T : Int} {l : List Nat} {c : Nat} (h : csum zs c = T) : foundL zs T (l ++ [c]) = foundL zs T l ++ [(c : Int)] := by simp [foundL, List.filter_append, h]
theorem foundL_no {zs : List Int} {T : Int} {l : List Nat} {c : Nat} (h : ¬ csum zs c = T) : foundL zs T (l ++ [c]) = foundL zs T l := by simp [foundL, List.filter_append, h]
theorem foundL_length (zs : List Int) (T : Int) (l : List Nat) : (foundL zs T l).length ≤ l.length := by
  unfold foundL; rw [List.length_map]; exact List.length_filter_le _ _

/-- a growing list in a box -/
def FndI (N : Nat) (zs : List Int) (T : Int) (B bq bS bc : Nat) (vc : Value) (w : World) (pre : List (Fin N)) (W : World) : Prop :=
  (∃ v, OwnI W (B + 1) v (foundL zs T (pre.map Fin.val)) ∧ BoxL W [(bq, 3, .int .i64 T), (bS, 23, v), (bc, 23, vc)]) ∧ Below B w W
theorem fndI_own {N : Nat} {zs : List Int} {T : Int} {B bq bS bc n : Nat} {vc : Value} {w : World} (h1 : B ≤ w.heap.size) (h2 : B ≤ n) : OwnFrom n (FndI N zs T B bq bS bc vc w) :=
  OwnFrom.and (fun s X Y row hs hg hr => by
    obtain ⟨v, e1, e4⟩ := hs
    exact ⟨v, ownI_own (B + 1) v (fun (_ : Unit) => _) () X Y row e1 hg (fun r e => (hr r e).2), boxL_own (fun (_ : Unit) => _) () X Y row e4 hg (fun r e => (hr r e).2)⟩) (ownFrom_below h1 h2)
theorem own_ne_box {W : World} {base b : Nat} {v x : Value} {zs : List Int} (h : OwnI W base v zs) (hb : Boxed W b 23 x) : some b ≠ v.ownBlock := by
  intro e
  rcases h.2 with ⟨rfl, _⟩ | ⟨g', cap, cur, rfl, _, hg', _⟩
  · simp [Value.ownBlock] at e
  · simp [Value.ownBlock] at e
    subst e
    have hb' : W.heap[b]? = some (.cells #[x] 23) := hb
    rw [hb'] at hg'
    cases hg'
theorem own_cells {W : World} {base : Nat} {v : Value} {zs : List Int} (h : OwnI W base v zs) : ∀ (j : Nat) (o : Obj), v.ownBlock = some j → W.heap[j]? = some o → o.isCells = true := by
  intro j o hj ho
  rcases h.2 with ⟨rfl, _⟩ | ⟨g', cap, cur, rfl, _, hg', _⟩
  · simp [Value.ownBlock] at hj
  · simp [Value.ownBlock] at hj
    subst hj
    rw [ho] at hg'
    cases hg'; rfl

theorem foundL_count (zs : List Int) (T : Int) (l : List Nat) : (foundL zs T l).length = l.countP (fun c => csum zs c == T) := by
  unfold foundL; rw [List.length_map, List.countP_eq_length_filter]
theorem halfC_list {zs : List Int} (hz : inL zs = true) (h : tot zs % 2 = 0) : ((foundL zs (tot zs / 2) (List.range (2 ^ zs.length))).length : Int) = halfC zs := by
  rw [foundL_count, countP_range, halfC, if_pos hz]
  congr 1
  apply cntN_congr
  intro c _
  rw [Bool.eq_iff_iff]
  simp only [halfP, beq_iff_eq]
  omega
theorem halfC_bd {zs : List Int} (hl : zs.length ≤ 10) : 0 ≤ halfC zs ∧ halfC zs ≤ 1024 := by
  unfold halfC
  split
  · have h1 := cntN_le (halfP zs) (2 ^ zs.length)
    have h2 : 2 ^ zs.length ≤ 2 ^ 10 := Nat.pow_le_pow_right (by omega) hl
    omega
  · omega
end Go.Proofs.Ytokfkhdngmpkgaa
