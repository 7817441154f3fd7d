/- Ways to give signs, in plain words. Conditions: the list's numbers are told. -/
import Derived.Test.YtmggcfilkiklbaaDoorM17
import Derived.Test.YtmggcfilkiklbaaDoorM14
namespace Go.Proofs.YtmggcfilkiklbaaDoor
theorem tot_tally_some (key : Nat → Option Nat) (N m : Nat) (h : ∀ c, c < m → ∀ v, key c = some v → v < N) : tot (tally key N m) = ((cntN (fun c => (key c).isSome) m : Nat) : Int) := by
  induction m with
  | zero => rw [tally_zero, tot_zeros]; rfl
  | succ m ih =>
    have ih' := ih (fun c hc => h c (by omega))
    rcases hk : key m with _ | v
    · rw [tally_none hk, ih', cntN, hk]; simp
    · rw [← tally_some hk, tot_set _ _ (by rw [tally_length]; exact h m (by omega) v hk), ih', cntN, hk]; simp
theorem cntN_incl {p q r : Nat → Bool} {m : Nat} (h : ∀ c, c < m → (if p c then 1 else 0) + (if q c then 1 else 0) = 1 + (if r c then 1 else 0)) : cntN p m + cntN q m = m + cntN r m := by
  induction m with
  | zero => rfl
  | succ m ih =>
    have h1 := ih (fun c hc => h c (by omega))
    have h2 := h m (by omega)
    simp only [cntN]
    omega
def sgnKey (zs : List Int) (c : Nat) : Option Nat := if tot zs ≤ 2 * csum zs c then some (2 * csum zs c - tot zs).toNat else none
/-- for each number from 0 on the ways to give signs -/
def sgnC (zs : List Int) : List Int := tally (sgnKey zs) ((tot zs).toNat + 1) (2 ^ zs.length)
theorem sgnC_length (zs : List Int) : (sgnC zs).length = (tot zs).toNat + 1 := tally_length _ _ _
theorem sgnC_get {zs : List Int} (v : Nat) (hv : v < (tot zs).toNat + 1) : (sgnC zs)[v]?.getD 0 = ((cntN (fun c => sgnKey zs c == some v) (2 ^ zs.length) : Nat) : Int) := tally_get _ _ _ _ hv
theorem sgnKey_is (zs : List Int) (c v : Nat) : (sgnKey zs c == some v) = decide (2 * csum zs c - tot zs = v) := by
  rw [Bool.eq_iff_iff]
  simp only [sgnKey, beq_iff_eq, decide_eq_true_eq]
  split
  · simp only [Option.some.injEq]; omega
  · constructor
    · intro h; cases h
    · intro h; omega
theorem cntN_zero {p : Nat → Bool} {m : Nat} (h : ∀ c, c < m → p c = false) : cntN p m = 0 := by
  induction m with
  | zero => rfl
  | succ m ih => rw [cntN, ih (fun c hc => h c (by omega)), h m (by omega)]; rfl
theorem sgnC_even {zs : List Int} (hg : good zs) (v : Nat) (hv : v < (tot zs).toNat + 1) (h : (tot zs + v) % 2 = 0) : (sgnC zs)[v]?.getD 0 = (sumC zs)[((tot zs + v) / 2).toNat]?.getD 0 := by
  have ht := tot_bd hg
  rw [sgnC_get v hv, sumC_get _ (by omega)]
  congr 1
  apply cntN_congr
  intro c hc
  have h2 := csum_bd hg c
  rw [sgnKey_is, Bool.eq_iff_iff]
  simp only [sumKey, beq_iff_eq, Option.some.injEq, decide_eq_true_eq]
  omega
theorem sgnC_odd {zs : List Int} (v : Nat) (hv : v < (tot zs).toNat + 1) (h : ¬ (tot zs + v) % 2 = 0) : (sgnC zs)[v]?.getD 0 = 0 := by
  rw [sgnC_get v hv, cntN_zero]
  · rfl
  · intro c _
    rw [sgnKey_is, decide_eq_false_iff_not]
    omega
theorem sgnC_low {zs : List Int} (hg : good zs) (v : Nat) (hv : (v : Int) < lr zs) : (sgnC zs)[v]?.getD 0 = 0 := by
  have hl := lr_bd hg
  rw [sgnC_get v (by omega), cntN_zero]
  · rfl
  · intro c hc
    have := (lr_least hg).2 c hc
    rw [restOf, sz] at this
    rw [sgnKey_is, decide_eq_false_iff_not]
    omega
theorem sgnC_at {zs : List Int} (hg : good zs) : 1 ≤ (sgnC zs)[(lr zs).toNat]?.getD 0 := by
  have hl := lr_bd hg
  rw [sgnC_get _ (by omega)]
  obtain ⟨⟨c, hc, e⟩, _⟩ := lr_least hg
  have hcc := csum_compl zs c hc
  rw [restOf, sz] at e
  have key : ∃ d, d < 2 ^ zs.length ∧ 2 * csum zs d - tot zs = lr zs := by
    by_cases h : tot zs - 2 * csum zs c ≤ 0
    · exact ⟨c, hc, by omega⟩
    · exact ⟨2 ^ zs.length - 1 - c, by omega, by omega⟩
  obtain ⟨d, hd, hd2⟩ := key
  have := cntN_pos (p := fun c => sgnKey zs c == some (lr zs).toNat) d hd (by simp only [sgnKey_is, decide_eq_true_eq]; omega)
  exact_mod_cast this
theorem sgnC_tot {zs : List Int} (hg : good zs) : 2 * tot (sgnC zs) - (sgnC zs)[0]?.getD 0 = ((2 ^ zs.length : Nat) : Int) := by
  have ht := tot_bd hg
  have h1 : tot (sgnC zs) = ((cntN (fun c => (sgnKey zs c).isSome) (2 ^ zs.length) : Nat) : Int) := by
    refine tot_tally_some _ _ _ (fun c hc v hv => ?_)
    have := csum_bd hg c
    unfold sgnKey at hv
    split at hv
    · simp only [Option.some.injEq] at hv; omega
    · cases hv
  have h2 : cntN (fun c => (sgnKey zs c).isSome) (2 ^ zs.length) = cntN (fun c => decide (tot zs ≤ 2 * csum zs c)) (2 ^ zs.length) := by
    apply cntN_congr
    intro c _
    unfold sgnKey
    split
    · simp [*]
    · simp [*]
  have h3 : cntN (fun c => decide (tot zs ≤ 2 * csum zs c)) (2 ^ zs.length) = cntN (fun c => decide (2 * csum zs c ≤ tot zs)) (2 ^ zs.length) := by
    rw [cntN_rev]
    apply cntN_congr
    intro c hc
    have := csum_compl zs c hc
    rw [Bool.eq_iff_iff]
    simp only [decide_eq_true_eq]
    omega
  have h4 : cntN (fun c => decide (tot zs ≤ 2 * csum zs c)) (2 ^ zs.length) + cntN (fun c => decide (2 * csum zs c ≤ tot zs)) (2 ^ zs.length) = 2 ^ zs.length + cntN (fun c => decide (2 * csum zs c = tot zs)) (2 ^ zs.length) := by
    apply cntN_incl
    intro c _
    simp only [decide_eq_true_eq]
    split <;> split <;> split <;> omega
  have h5 : cntN (fun c => sgnKey zs c == some 0) (2 ^ zs.length) = cntN (fun c => decide (2 * csum zs c = tot zs)) (2 ^ zs.length) := by
    apply cntN_congr
    intro c _
    rw [sgnKey_is, Bool.eq_iff_iff]
    simp only [decide_eq_true_eq]
    omega
  rw [h1, sgnC_get 0 (by omega), h5, h2]
  omega
end Go.Proofs.YtmggcfilkiklbaaDoor
