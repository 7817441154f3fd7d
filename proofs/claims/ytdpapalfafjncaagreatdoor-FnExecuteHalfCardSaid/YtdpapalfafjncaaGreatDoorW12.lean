/- The counts of all sums, by the reference. Conditions: the list is as told. -/
import Derived.Test.YtdpapalfafjncaaGreatDoorW11
import Derived.BigRegion
namespace Go.Proofs.YtdpapalfafjncaaGreatDoor
open Go.RowKit

def CountsPost (w : World) (zs : List Int) (e : Ending) (w' : World) : Prop := ∃ v, e = .returned v ∧ OwnI w' w.heap.size v zs ∧ Below w.heap.size w w'
theorem sumC_take (zs : List Int) (hg : good zs) (k : Nat) (hk : k < zs.length) : sumC (zs.take (k + 1)) = stepK (sumC (zs.take k)) (zs[k]?.getD 0).toNat (sumC (zs.take k)).length := by
  rw [take_snoc zs k hk, sumC_snoc _ _ (good_take hg k) (good_get hg k hk).1]
theorem sumC_mem {zs : List Int} (hl : zs.length ≤ 10) (j : Nat) : 0 ≤ (sumC zs)[j]?.getD 0 ∧ (sumC zs)[j]?.getD 0 ≤ 1024 := by
  have h1 := tally_bd (sumKey zs) ((tot zs).toNat + 1) (2 ^ zs.length) j
  have h2 : 2 ^ zs.length ≤ 2 ^ 10 := Nat.pow_le_pow_right (by omega) hl
  unfold sumC
  omega
theorem stepK_bd {O : List Int} {M : Int} (h : ∀ j : Nat, 0 ≤ O[j]?.getD 0 ∧ O[j]?.getD 0 ≤ M) (x v j : Nat) : 0 ≤ (stepK O x v)[j]?.getD 0 ∧ (stepK O x v)[j]?.getD 0 ≤ 2 * M := by
  have hM : 0 ≤ M := by have := h 0; omega
  by_cases e : j < O.length + x
  · rw [stepK_get O x v j e]
    have h1 := h j
    have h2 := h (j - x)
    split <;> split <;> omega
  · rw [List.getElem?_eq_none (by rw [stepK_length]; omega)]
    simp; omega

end Go.Proofs.YtdpapalfafjncaaGreatDoor
