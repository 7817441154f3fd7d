/- HalfCount of the program. Conditions: the list is short enough to be counted. -/
import Derived.Test.YtmggcfilkiklbaaIS
import Derived.Test.YtmggcfilkiklbaaW14
namespace Go.Proofs.Ytmggcfilkiklbaa
open Go.RowKit Go.Shelf
attribute [local go_sem] Oper.semAt_some

/-- a count in a box, while the choices go by -/
def CntI (N : Nat) (bt bc B : Nat) (T : Int) (p : Nat → Bool) (w : World) (pre : List (Fin N)) (W : World) : Prop :=
  BoxL W [(bt, 3, .int .i64 T), (bc, 3, .int .i64 ((pre.map Fin.val).countP p : Nat))] ∧ Below B w W
theorem cntI_own {N bt bc B n : Nat} {T : Int} {p : Nat → Bool} {w : World} (h1 : B ≤ w.heap.size) (h2 : B ≤ n) : OwnFrom n (CntI N bt bc B T p w) :=
  OwnFrom.and ((boxL_own _).from _) (ownFrom_below h1 h2)
def halfP (zs : List Int) (c : Nat) : Bool := 2 * csum zs c == tot zs
def NumPost (w : World) (r : Int) (ok : Bool) (e : Ending) (w' : World) : Prop := e = .returned (.tuple #[.int .i64 r, .bool ok]) ∧ Below w.heap.size w w'

/-- how many choices have half the total -/
def halfC (zs : List Int) : Int := if inL zs = true then ((cntN (halfP zs) (2 ^ zs.length) : Nat) : Int) else 0
theorem halfC_even {zs : List Int} (hz : inL zs = true) (h : tot zs % 2 = 0) : halfC zs = (sumC zs)[(tot zs / 2).toNat]?.getD 0 := by
  have hzl := (inL_iff zs).1 hz
  have htb := tot_bd hzl.2
  rw [halfC, if_pos hz, sumC_get _ (by omega)]
  congr 1
  apply cntN_congr
  intro c hc
  have h2 := csum_bd hzl.2 c
  rw [Bool.eq_iff_iff]
  simp only [halfP, sumKey, beq_iff_eq, Option.some.injEq]
  omega
theorem cntN_none {p : Nat → Bool} {m : Nat} (h : ∀ c, c < m → p c = false) : cntN p m = 0 := by
  induction m with
  | zero => rfl
  | succ m ih => rw [cntN, ih (fun c hc => h c (by omega)), h m (by omega)]; rfl
theorem halfC_odd {zs : List Int} (h : tot zs % 2 = 1) : halfC zs = 0 := by
  unfold halfC
  split
  · rw [cntN_none]
    · rfl
    · intro c _
      simp only [halfP, beq_eq_false_iff_ne, ne_eq]
      omega
  · rfl
theorem cntN_split (p : Nat → Bool) (a b : Nat) : cntN p (a + b) = cntN p a + cntN (fun c => p (a + c)) b := cntN_add p a b
theorem cntN_shift_rev (p : Nat → Bool) (m : Nat) : cntN (fun c => p (m + c)) m = cntN (fun c => p (2 * m - 1 - c)) m := by
  rw [cntN_rev]
  exact cntN_congr (fun c hc => by rw [show m + (m - 1 - c) = 2 * m - 1 - c by omega])
theorem halfC_pairs {zs : List Int} (hl : 1 ≤ zs.length) : halfC zs % 2 = 0 := by
  unfold halfC
  split
  · obtain ⟨k, hk⟩ : ∃ k, zs.length = k + 1 := ⟨zs.length - 1, by omega⟩
    have e : 2 ^ zs.length = 2 ^ k + 2 ^ k := by rw [hk, Nat.pow_succ]; omega
    have h2 : cntN (fun c => halfP zs (2 ^ k + c)) (2 ^ k) = cntN (halfP zs) (2 ^ k) := by
      rw [cntN_shift_rev]
      apply cntN_congr
      intro c hc
      have := csum_compl zs c (by omega)
      rw [e] at this
      rw [Bool.eq_iff_iff]
      simp only [halfP, beq_iff_eq]
      rw [show 2 * 2 ^ k - 1 - c = 2 ^ k + 2 ^ k - 1 - c by omega]
      omega
    rw [e, cntN_add, h2]; omega
  · rfl
theorem halfC_nil : halfC [] = 1 := by decide
end Go.Proofs.Ytmggcfilkiklbaa
