/- Chapter 8 of the reference: RestCounts; the checker's marks. Conditions: stated in each. -/
import Derived.Test.YtdpapalfafjncaaGreatDoorW3
import Derived.Test.YtdpapalfafjncaaGreatDoorM9
namespace Go.Proofs.YtdpapalfafjncaaGreatDoor
open Go.RowKit

/-- a told list and true, or an empty one and false -/
def ListR (w : World) (ok : Bool) (zs : List Int) (e : Ending) (w' : World) : Prop :=
  ∃ v, e = .returned (.tuple #[v, .bool ok]) ∧ OwnI w' w.heap.size v zs ∧ Below w.heap.size w w'

/-- what a row of marks from k holds -/
def marks (k : Int) : Nat → List Int
  | 0 => []
  | n + 1 => k :: marks (k + 1) n
theorem marks_length (k : Int) (n : Nat) : (marks k n).length = n := by
  induction n generalizing k with
  | zero => rfl
  | succ n ih => simp [marks, ih]
theorem marks_get (k : Int) (n j : Nat) (h : j < n) : (marks k n)[j]?.getD 0 = k + j := by
  induction n generalizing k j with
  | zero => omega
  | succ n ih =>
    cases j with
    | zero => simp [marks]
    | succ j => simp only [marks, List.getElem?_cons_succ]; rw [ih (k + 1) j (by omega)]; omega
theorem marks_snoc (k : Int) (n : Nat) : marks k (n + 1) = marks k n ++ [k + n] := by
  induction n generalizing k with
  | zero => simp [marks]
  | succ n ih => rw [marks, ih (k + 1), marks, List.cons_append]; congr 2; congr 1; omega
theorem marks_fill (k : Int) (zs : List Int) (j : Nat) (h : j < zs.length) : (marks k j ++ zs.drop j).set j (k + j) = marks k (j + 1) ++ zs.drop (j + 1) := by
  rw [marks_snoc, List.set_append_right _ _ (by rw [marks_length]; omega), marks_length, Nat.sub_self]
  rw [List.drop_eq_getElem_cons h, List.set_cons_zero]
  simp
theorem fill_len (k : Int) (zs : List Int) (j : Nat) (h : j ≤ zs.length) : (marks k j ++ zs.drop j).length = zs.length := by simp [marks_length]; omega

def MarkPost (w : World) (B : Nat) (v : Value) (k : Int) (n : Nat) (e : Ending) (w' : World) : Prop := e = .returned (.int .i64 (k + n)) ∧ OwnI w' B v (marks k n) ∧ w.grownBy w' v.ownBlock

end Go.Proofs.YtdpapalfafjncaaGreatDoor
