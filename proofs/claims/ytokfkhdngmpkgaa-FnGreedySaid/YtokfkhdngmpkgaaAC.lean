/- append of a slice as one step of a region that draws. Conditions: stated in the lemma. -/
import Derived.Deep.RegionLaw
import Derived.Test.YtokfkhdngmpkgaaAB
namespace Go.Proofs.Ytokfkhdngmpkgaa
open Go.RowKit
theorem stepSl {ops : Array Oper} {o : Oper} {a : Act} {w : World} {K : Act → World → Prop} {Q : Exit → Act → World → Prop} {E : Prop}
    (hg : o.guard = none) (s x : Operand) (hop : o.op = Op.call { callee := Callee.builtin Builtin.append, args := #[s, x], argTypes := #[23, 23] })
    (base : Nat) (v : Value) (zs ys : List Int) (ad : Addr) (m c : Nat)
    (hs : a.eval s = v) (hx : a.eval x = .slice (some ad) m c) (hm : ys.length = m) (hown : OwnI w base v zs) (hl : zs.length ≤ 1000000) (hl2 : ys.length ≤ 1000000) (hI : IntsAt w (some ad) ys) (hbase : base ≤ w.heap.size)
    (hK : ∀ v' w', OwnI w' base v' (zs ++ ys) → w.grownBy w' v.ownBlock → (v'.ownBlock = v.ownBlock ∨ v'.ownBlock = some w.heap.size) → K (a.put o.dst v') w') :
    if Region.wanted o (yielded ops a.tmps) = true then Oper.wp Try.prog o a w K Q else E := by
  subst hm
  have hw : Region.wanted o (yielded ops a.tmps) = true := by simp [Region.wanted, hg]
  rw [if_pos hw]
  obtain ⟨i0, hi, hz0, hz1, hz2⟩ := info_parts Try.infoInt
  obtain ⟨v', w', hrun, h2, h3, _, h5⟩ := run_append_own_at (P := Try.prog) w base 23 o.type 3 i0 (.int .i64 0) 1 8 Try.underlying23 hi hz0 hz1 hz2 rfl (by decide) v zs.length _ hown ad ys.length c (ys.map (fun x => Value.int .i64 x)) (by simp) (ints_cells hI) (fun u hu => by obtain ⟨x, _, rfl⟩ := List.mem_map.1 hu; rfl) (by unfold maxLen; omega) (by omega) hbase
  unfold Oper.wp
  simp [execOp, hop, resolve, invoke, builtin, hs, hx, hrun, Result.andThen]
  refine hK v' w' ?_ h3 h5
  unfold OwnI
  simpa using h2
end Go.Proofs.Ytokfkhdngmpkgaa
