/- What RestParts of both answers. Conditions: none. -/
import Derived.Test.YtbpkffpejmlonaaW3
import Derived.Test.YtbpkffpejmlonaaMD
namespace Go.Proofs.Ytbpkffpejmlonaa
open Go.RowKit
/-- RestParts' answer -/
def PartsR (zs : List Int) (n r : Int) (ok : Bool) : Prop :=
  (ok = true ∧ restOk zs n = true ∧ ∃ k : Nat, r = k ∧ IsMost (mulP zs n) (2 ^ zs.length - 1) k) ∨ (ok = false ∧ restOk zs n = false ∧ r = 0)
theorem PartsR.unique {zs : List Int} {n r r' : Int} {ok ok' : Bool} (h : PartsR zs n r ok) (h' : PartsR zs n r' ok') : r = r' ∧ ok = ok' := by
  rcases h with ⟨rfl, h1, k, rfl, h2⟩ | ⟨rfl, h1, rfl⟩ <;> rcases h' with ⟨rfl, k1, k', rfl, k2⟩ | ⟨rfl, k1, rfl⟩
  · exact ⟨by rw [h2.unique k2], rfl⟩
  · rw [h1] at k1; cases k1
  · rw [h1] at k1; cases k1
  · exact ⟨rfl, rfl⟩
def PartsPost (w : World) (zs : List Int) (n : Int) (e : Ending) (w' : World) : Prop := ∃ r ok, e = .returned (.tuple #[.int .i64 r, .bool ok]) ∧ PartsR zs n r ok ∧ Below w.heap.size w w'
end Go.Proofs.Ytbpkffpejmlonaa
