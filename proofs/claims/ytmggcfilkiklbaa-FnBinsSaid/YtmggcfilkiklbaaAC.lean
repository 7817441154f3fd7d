/- append of a slice as one step of a region that draws. Conditions: stated in the lemma. Ahead of it: append of a slice onto a slice that the call owns. Conditions: stated in the lemma. -/
import Derived.Maps.AppendAt
import Derived.Test.YtmggcfilkiklbaaBase
import Derived.Deep.RegionLaw
namespace Go.Proofs.Ytmggcfilkiklbaa
open Go.RowKit
theorem ints_cells {w : World} {ad : Addr} {zs : List Int} (hI : IntsAt w (some ad) zs) : ∀ j u, (zs.map (fun x => Value.int .i64 x))[j]? = some u → w.cell? (ad.add j) = some u := by
  intro j u hu
  rw [List.getElem?_map] at hu
  rcases Nat.lt_or_ge j zs.length with h | h
  · obtain ⟨b, off, he, _, hc⟩ := hI.at (by omega)
    simp only [Option.some.injEq] at he
    subst he
    have this : w.cell? (Addr.add ⟨b, off, none⟩ j) = some (.int .i64 (zs[j]?.getD 0)) := by
      rcases Nat.eq_zero_or_pos j with e | e
      · subst e; simpa [Addr.add] using hc 0 h
      · have e0 : j ≠ 0 := by omega
        simpa [Addr.add, e0] using hc j h
    simp only [List.getElem?_eq_getElem h, Option.map_some, Option.some.injEq, Option.getD_some] at hu this
    rw [← hu]
    exact this
  · rw [List.getElem?_eq_none h] at hu; cases hu
/-- append of a slice: the new slice lies where the old one lay, or in a new block -/
theorem appendSl (w : World) {ops : Array Oper} {rest : List Oper} {o : Oper} {a : Act} {Q : Exit → Act → World → Prop} (hgd : o.guard = none) (s x : Operand)
    (ho : o.op = .call { callee := .builtin .append, args := #[s, x], argTypes := #[23, 23] }) (base : Nat) (v : Value) (zs ys : List Int) (ad : Addr) (m c : Nat)
    (hs : a.eval s = v) (hx : a.eval x = .slice (some ad) m c) (hm : ys.length = m) (hown : OwnI w base v zs) (hl : zs.length ≤ 1000000) (hl2 : ys.length ≤ 1000000) (hI : IntsAt w (some ad) ys) (hbase : base ≤ w.heap.size)
    (h : ∀ v' w', OwnI w' base v' (zs ++ ys) → w.grownBy w' v.ownBlock → (v'.ownBlock = v.ownBlock ∨ v'.ownBlock = some w.heap.size) → wpList Try.prog ops Q rest (a.put o.dst v') w') :
    wpList Try.prog ops Q (o :: rest) a w := by
  subst hm
  obtain ⟨i0, hi, hz0, hz1, hz2⟩ := info_parts Try.infoInt
  refine wpList_append_own_at _ hgd s x 23 ho base 3 i0 (.int .i64 0) 1 8 Try.underlying23 hi hz0 hz1 hz2 rfl (by decide) v zs.length _ hs hown ad ys.length c (ys.map (fun x => Value.int .i64 x)) hx (by simp) (ints_cells hI) (fun u hu => by obtain ⟨x, _, rfl⟩ := List.mem_map.1 hu; rfl) (by unfold maxLen; omega) (by omega) hbase ?_
  intro v' w' h1 h2 _ h4
  refine h v' w' ?_ h2 h4
  unfold OwnI
  simpa using h1
end Go.Proofs.Ytmggcfilkiklbaa
namespace Go.Proofs.Ytmggcfilkiklbaa
open Go.RowKit
theorem stepSl {ops : Array Oper} {o : Oper} {a : Act} {w : World} {K : Act → World → Prop} {Q : Exit → Act → World → Prop} {E : Prop}
    (hg : o.guard = none) (s x : Operand) (hop : o.op = Op.call { callee := Callee.builtin Builtin.append, args := #[s, x], argTypes := #[23, 23] })
    (base : Nat) (v : Value) (zs ys : List Int) (ad : Addr) (m c : Nat)
    (hs : a.eval s = v) (hx : a.eval x = .slice (some ad) m c) (hm : ys.length = m) (hown : OwnI w base v zs) (hl : zs.length ≤ 1000000) (hl2 : ys.length ≤ 1000000) (hI : IntsAt w (some ad) ys) (hbase : base ≤ w.heap.size)
    (hK : ∀ v' w', OwnI w' base v' (zs ++ ys) → w.grownBy w' v.ownBlock → (v'.ownBlock = v.ownBlock ∨ v'.ownBlock = some w.heap.size) → K (a.put o.dst v') w') :
    if Region.wanted o (yielded ops a.tmps) = true then Oper.wp Try.prog o a w K Q else E := by
  subst hm
  have hw : Region.wanted o (yielded ops a.tmps) = true := by simp [Region.wanted, hg]
  rw [if_pos hw]
  obtain ⟨i0, hi, hz0, hz1, hz2⟩ := info_parts Try.infoInt
  obtain ⟨v', w', hrun, h2, h3, _, h5⟩ := run_append_own_at (P := Try.prog) w base 23 o.type 3 i0 (.int .i64 0) 1 8 Try.underlying23 hi hz0 hz1 hz2 rfl (by decide) v zs.length _ hown ad ys.length c (ys.map (fun x => Value.int .i64 x)) (by simp) (ints_cells hI) (fun u hu => by obtain ⟨x, _, rfl⟩ := List.mem_map.1 hu; rfl) (by unfold maxLen; omega) (by omega) hbase
  unfold Oper.wp
  simp [execOp, hop, resolve, invoke, builtin, hs, hx, hrun, Result.andThen]
  refine hK v' w' ?_ h3 h5
  unfold OwnI
  simpa using h2
end Go.Proofs.Ytmggcfilkiklbaa
