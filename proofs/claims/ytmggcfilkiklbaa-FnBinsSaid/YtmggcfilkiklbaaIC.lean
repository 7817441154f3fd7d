/- RestCounts of the program. Conditions: the list is short enough to be counted. -/
import Derived.Sort.QuietIn
import Derived.Test.YtmggcfilkiklbaaRF
import Derived.Test.YtmggcfilkiklbaaW4
namespace Go.Proofs.Ytmggcfilkiklbaa
open Go.RowKit Go.Shelf
attribute [local go_sem] Oper.semAt_some

/-- a tally in a boxed slice, while the choices go by -/
def TalI (N B0 bx : Nat) (key : Nat → Option Nat) (L : Nat) (v : Value) (bxs : List (Nat × TypeId × Value)) (w : World) (pre : List (Fin N)) (W : World) : Prop :=
  (OwnI W B0 v (tallyL key L (pre.map Fin.val)) ∧ BoxL W ((bx, 23, v) :: bxs)) ∧ Below w.heap.size w W
theorem ownI_own {β : Type} (B0 : Nat) (v : Value) (f : β → List Int) : Own (fun s W => OwnI W B0 v (f s)) := fun s X Y row hs hg hrow =>
  hs.kept hg (by
    cases hv : v.ownBlock with
    | none => exact .inl rfl
    | some g =>
      refine .inr (fun e => ?_)
      obtain ⟨o, ho, hc⟩ := hrow g e.symm
      rcases hs.2 with ⟨rfl, _⟩ | ⟨g', cap, cur, rfl, _, hg', _⟩
      · simp [Value.ownBlock] at hv
      · simp [Value.ownBlock] at hv
        subst hv
        rw [ho] at hg'; cases hg'; cases hc)
theorem talI_own {N B0 bx L : Nat} {key : Nat → Option Nat} {v : Value} {bxs : List (Nat × TypeId × Value)} {w : World} {n : Nat} (h2 : w.heap.size ≤ n) : OwnFrom n (TalI N B0 bx key L v bxs w) :=
  OwnFrom.and (OwnFrom.and ((ownI_own _ _ _).from _) ((boxL_own _).from _)) (ownFrom_below (Nat.le_refl _) h2)

end Go.Proofs.Ytmggcfilkiklbaa
