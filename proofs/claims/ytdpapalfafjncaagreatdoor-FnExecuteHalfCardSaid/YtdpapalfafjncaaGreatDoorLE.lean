/- The draws of a list and numbers. Conditions: stated in each. -/
import Derived.Test.YtdpapalfafjncaaGreatDoorLD
namespace Go.Proofs.YtdpapalfafjncaaGreatDoor
open Go.RowKit

theorem BytesAt.mono {w : World} {B B' : Nat} {a : Option Addr} {len : Nat} (h : BytesAt w B a len) (hB : B ≤ B') : BytesAt w B' a len := by
  rcases h with h | ⟨b, off, h1, h2, h3⟩
  · exact .inl h
  · exact .inr ⟨b, off, h1, Nat.lt_of_lt_of_le h2 hB, h3⟩
/-- a drawn list and a number -/
def Drawn2 (w : World) (most : Nat) (lo hi : Int) (e : Ending) (w' : World) : Prop :=
  ∃ ad cap zs q, e = .returned (.tuple #[.slice ad zs.length cap, .int .i64 q]) ∧ zs.length ≤ most ∧ okDrawn zs ∧ IntsAt w' ad zs ∧ lo ≤ q ∧ q ≤ hi ∧ Below w.heap.size w w'

/-- a drawn list and two numbers -/
def Drawn3 (w : World) (most : Nat) (lo hi : Int) (e : Ending) (w' : World) : Prop :=
  ∃ ad cap zs q k, e = .returned (.tuple #[.slice ad zs.length cap, .int .i64 q, .int .i64 k]) ∧ zs.length ≤ most ∧ okDrawn zs ∧ IntsAt w' ad zs ∧ lo ≤ q ∧ q ≤ hi ∧ lo ≤ k ∧ k ≤ hi ∧ Below w.heap.size w w'

end Go.Proofs.YtdpapalfafjncaaGreatDoor
