/- Walks: copies and comparisons of slices, SumOf of both. Conditions: stated in each. -/
import Derived.Test.YtdpapalfafjncaaGreatDoorW1
namespace Go.Proofs.YtdpapalfafjncaaGreatDoor
open Go.RowKit

theorem set_fill (zs : List Int) (k : Nat) (h : k < zs.length) : (zs.take k ++ List.replicate (zs.length - k) 0).set k (zs[k]?.getD 0) = zs.take (k + 1) ++ List.replicate (zs.length - (k + 1)) 0 := by
  rw [take_snoc zs k h, List.set_append_right _ _ (by simp; omega)]
  have e : zs.length - k = (zs.length - (k + 1)) + 1 := by omega
  rw [e, List.replicate_succ, List.length_take, Nat.min_eq_left (Nat.le_of_lt h), Nat.sub_self, List.set_cons_zero]
  simp
theorem fill_length (zs : List Int) (k : Nat) (h : k ≤ zs.length) : (zs.take k ++ List.replicate (zs.length - k) 0).length = zs.length := by simp; omega

def CopyPost (w : World) (zs : List Int) (e : Ending) (w' : World) : Prop := ∃ v, e = .returned v ∧ OwnI w' w.heap.size v zs ∧ Below w.heap.size w w'

theorem eq_snoc {xs ys : List Int} (k : Nat) (h : xs.take k = ys.take k) (hk : k < xs.length) (hk' : k < ys.length) : (xs.take (k + 1) = ys.take (k + 1)) ↔ xs[k]?.getD 0 = ys[k]?.getD 0 := by
  rw [take_snoc xs k hk, take_snoc ys k hk', h]; simp
theorem ne_of_get {xs ys : List Int} (k : Nat) (h : xs[k]?.getD 0 ≠ ys[k]?.getD 0) : xs ≠ ys := fun e => h (by rw [e])
theorem ne_of_len {xs ys : List Int} (h : xs.length ≠ ys.length) : xs ≠ ys := fun e => h (by rw [e])

/-- SumOf's answer -/
def sumOfR (zs : List Int) (set : Int) : Int × Bool := if inL zs = true ∧ 0 ≤ set ∧ set < 2 ^ zs.length then (csum zs set.toNat, true) else (0, false)
theorem sumOfR_yes {zs : List Int} {c : Nat} (hz : inL zs = true) (h : c < 2 ^ zs.length) : sumOfR zs c = (csum zs c, true) := by
  have h' : (c : Int) < 2 ^ zs.length := by exact_mod_cast h
  simp [sumOfR, hz, h']
theorem sumOfR_no {zs : List Int} {set : Int} (h : ¬ (inL zs = true ∧ 0 ≤ set ∧ set < 2 ^ zs.length)) : sumOfR zs set = (0, false) := by
  simp only [sumOfR, if_neg h]

end Go.Proofs.YtdpapalfafjncaaGreatDoor
