/- What BinDual of both answers. Conditions: none. -/
import Derived.Test.YtbpkffpejmlonaaBase
import Derived.Test.YtbpkffpejmlonaaM17
import Derived.Test.YtbpkffpejmlonaaMV
namespace Go.Proofs.Ytbpkffpejmlonaa
open Go.RowKit
def sizeP (zs : List Int) (size : Int) (p : Nat) : Prop := size ≤ csum zs p
def dualOk (zs : List Int) (size : Int) : Bool := inL zs && (decide (zs.length ≤ 8) && (decide (1 ≤ size) && decide (size ≤ 100)))
theorem dualOk_iff (zs : List Int) (size : Int) : dualOk zs size = true ↔ inL zs = true ∧ zs.length ≤ 8 ∧ 1 ≤ size ∧ size ≤ 100 := by simp [dualOk]
/-- BinDual's answer -/
def DualR (zs : List Int) (n r : Int) (ok : Bool) : Prop :=
  (ok = true ∧ dualOk zs n = true ∧ ∃ k : Nat, r = k ∧ IsMost (sizeP zs n) (2 ^ zs.length - 1) k) ∨ (ok = false ∧ dualOk zs n = false ∧ r = 0)
theorem DualR.unique {zs : List Int} {n r r' : Int} {ok ok' : Bool} (h : DualR zs n r ok) (h' : DualR zs n r' ok') : r = r' ∧ ok = ok' := by
  rcases h with ⟨rfl, h1, k, rfl, h2⟩ | ⟨rfl, h1, rfl⟩ <;> rcases h' with ⟨rfl, k1, k', rfl, k2⟩ | ⟨rfl, k1, rfl⟩
  · exact ⟨by rw [h2.unique k2], rfl⟩
  · rw [h1] at k1; cases k1
  · rw [h1] at k1; cases k1
  · exact ⟨rfl, rfl⟩
def DualPost (w : World) (zs : List Int) (n : Int) (e : Ending) (w' : World) : Prop := ∃ r ok, e = .returned (.tuple #[.int .i64 r, .bool ok]) ∧ DualR zs n r ok ∧ Below w.heap.size w w'
/-- what the law says -/
theorem dual_law {zs : List Int} {size : Int} {k : Nat} (hz : inL zs = true) (h1 : 1 ≤ size) (h : IsMost (sizeP zs size) (2 ^ zs.length - 1) k) :
    (k : Int) * size ≤ tot zs ∧ (k : Int) ≤ zs.length ∧ (0 < k ↔ size ≤ tot zs) := by
  have hzl := (inL_iff zs).1 hz
  have hp := Nat.two_pow_pos zs.length
  have hs := fam_size hzl.2 h.1
  rw [csum_full] at hs
  have hl := fam_len h.1 (m := zs.length) (by omega) (by omega)
  refine ⟨hs, by omega, ?_⟩
  constructor
  · intro hk
    have : (1 : Int) * size ≤ (k : Int) * size := Int.mul_le_mul_of_nonneg_right (by omega) (by omega)
    omega
  · intro hle
    refine (most_pos h).2 ⟨2 ^ zs.length - 1, ?_, Sub.refl _, ?_⟩
    · intro e
      have h2 := csum_full zs
      rw [e, csum_zero] at h2
      omega
    · rw [sizeP, csum_full]; exact hle
theorem dual_ones {zs : List Int} {k : Nat} (hz : inL zs = true) (h : IsMost (sizeP zs 1) (2 ^ zs.length - 1) k) : k = zs.length := by
  have hzl := (inL_iff zs).1 hz
  have hp := Nat.two_pow_pos zs.length
  have hl := fam_len h.1 (m := zs.length) (by omega) (by omega)
  have := h.2 _ (fam_ones hzl.2 zs.length (Nat.le_refl _))
  omega
end Go.Proofs.Ytbpkffpejmlonaa
