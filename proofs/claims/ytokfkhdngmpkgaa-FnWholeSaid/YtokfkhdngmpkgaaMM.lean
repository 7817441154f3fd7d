/- The least number that is no sum, whole lists, gaps, in plain words. Conditions: stated in each. -/
import Derived.Test.YtokfkhdngmpkgaaMG
import Derived.Test.YtokfkhdngmpkgaaMY
import Derived.Test.YtokfkhdngmpkgaaM13
import Derived.Test.YtokfkhdngmpkgaaM14
namespace Go.Proofs.Ytokfkhdngmpkgaa
/-- the first place of a list that holds 0, else its length -/
def fz : List Int → Nat
  | [] => 0
  | x :: xs => if x = 0 then 0 else fz xs + 1
theorem fz_le (L : List Int) : fz L ≤ L.length := by
  induction L with
  | nil => exact Nat.le_refl _
  | cons x xs ih => rw [fz]; split <;> simp <;> omega
theorem fz_before (L : List Int) : ∀ i, i < fz L → L[i]?.getD 0 ≠ 0 := by
  induction L with
  | nil => intro i h; simp [fz] at h
  | cons x xs ih =>
    intro i h
    rw [fz] at h
    split at h
    · omega
    · rename_i hx
      cases i with
      | zero => simpa using hx
      | succ i => simpa using ih i (by omega)
theorem fz_zero (L : List Int) : L[fz L]?.getD 0 = 0 := by
  induction L with
  | nil => rfl
  | cons x xs ih =>
    rw [fz]
    split
    · rename_i hx; simpa using hx
    · simpa using ih
theorem fz_at {L : List Int} {k : Nat} (h : ∀ i, i < k → L[i]?.getD 0 ≠ 0) (hk : L[k]?.getD 0 = 0) : fz L = k := by
  rcases Nat.lt_trichotomy (fz L) k with h1 | h1 | h1
  · exact (h _ h1 (fz_zero L)).elim
  · exact h1
  · exact (fz_before L k h1 hk).elim
theorem fz_end {L : List Int} (h : ∀ i, i < L.length → L[i]?.getD 0 ≠ 0) : fz L = L.length := fz_at h (by simp)
theorem cntN_pos' {p : Nat → Bool} {m : Nat} (c : Nat) (hc : c < m) (hp : p c = true) : 0 < cntN p m := by
  induction m with
  | zero => omega
  | succ m ih =>
    rw [cntN]
    by_cases e : c = m
    · subst e; rw [hp]; simp
    · have := ih (by omega); omega
theorem cntN_some' {p : Nat → Bool} {m : Nat} (h : 0 < cntN p m) : ∃ c, c < m ∧ p c = true := by
  induction m with
  | zero => simp [cntN] at h
  | succ m ih =>
    rw [cntN] at h
    by_cases e : p m = true
    · exact ⟨m, by omega, e⟩
    · rw [if_neg e] at h
      obtain ⟨c, h1, h2⟩ := ih (by omega)
      exact ⟨c, by omega, h2⟩
/-- the counts tell which numbers are sums -/
theorem sumC_sub {zs : List Int} (hg : good zs) (v : Nat) (hv : v < (sumC zs).length) : (sumC zs)[v]?.getD 0 ≠ 0 ↔ SubS zs v := by
  rw [sumC_length] at hv
  rw [sumC_get v hv]
  constructor
  · intro h
    obtain ⟨c, h1, h2⟩ := cntN_some' (p := fun c => sumKey zs c == some v) (m := 2 ^ zs.length) (by omega)
    have h3 := csum_bd hg c
    simp only [sumKey, beq_iff_eq, Option.some.injEq] at h2
    have := subS_of zs c
    rwa [show csum zs c = (v : Int) by omega] at this
  · intro h
    obtain ⟨c, h1, h2⟩ := subS_is h
    have := cntN_pos' (p := fun c => sumKey zs c == some v) c h1 (by simp only [sumKey, beq_iff_eq, Option.some.injEq]; omega)
    omega
theorem fz_miss {zs : List Int} (hg : good zs) : IsMiss zs (fz (sumC zs) : Nat) := by
  have hl := sumC_length zs
  have ht := tot_bd hg
  have h1 : fz (sumC zs) ≠ 0 := fun e => by
    have := fz_zero (sumC zs)
    rw [e, sumC_first hg] at this
    omega
  have hle := fz_le (sumC zs)
  refine ⟨by omega, fun v h2 h3 => ?_, fun h => ?_⟩
  · obtain ⟨n, rfl⟩ := Int.eq_ofNat_of_zero_le h2
    exact (sumC_sub hg n (by omega)).1 (fz_before _ n (by omega))
  · have hb := subS_bd hg h
    exact (sumC_sub hg _ (by omega)).2 h (fz_zero _)
/-- the list in rising order -/
def sortU (zs : List Int) : List Int := (sortD zs).reverse
theorem sortU_is {zs L : List Int} (hp : L.Perm zs) (h : InOrd (fun a b => a ≤ b) L L.length) : L = sortU zs := by
  have h1 : L.reverse = sortD zs := sortD_is (by rw [List.pairwise_reverse]; exact inOrd_pair h) ((List.reverse_perm L).trans hp)
  rw [sortU, ← h1, List.reverse_reverse]
theorem sortU_perm (zs : List Int) : (sortU zs).Perm zs := (List.reverse_perm _).trans (sortD_perm zs)
theorem sortU_length (zs : List Int) : (sortU zs).length = zs.length := (sortU_perm zs).length_eq
theorem sortU_pair (zs : List Int) : (sortU zs).Pairwise (· ≤ ·) := by
  rw [sortU, List.pairwise_reverse]; exact sortD_pair zs
instance (L : List Int) (k : Nat) : Decidable (stepOk L k) := inferInstanceAs (Decidable (∀ i, i < k → _))
/-- the answer of SumWhole -/
def whR (zs : List Int) : Bool := inL zs && decide (stepOk (sortU zs) zs.length)
theorem whR_all {zs : List Int} (hz : inL zs = true) : whR zs = true ↔ AllS zs := by
  have hg := ((inL_iff zs).1 hz).2
  have hgs := perm_good (sortU_perm zs) hg
  have e : (sortU zs).length = zs.length := sortU_length zs
  rw [whR, hz, Bool.true_and, decide_eq_true_iff]
  constructor
  · intro h; exact allS_perm (sortU_perm zs) (stepOk_all hgs (by rw [e]; exact h))
  · intro h
    have := all_stepOk hgs (sortU_pair zs) (allS_perm (sortU_perm zs).symm h)
    rwa [e] at this
theorem stepOk_succ {L : List Int} {k : Nat} (h : stepOk L k) (hk : L[k]?.getD 0 ≤ tot (L.take k) + 1) : stepOk L (k + 1) := fun i hi => by
  by_cases e : i = k
  · subst e; exact hk
  · exact h i (by omega)
/-- the answer of SumMissing -/
def miR (zs : List Int) : Int := if inL zs = true then (fz (sumC zs) : Nat) else 0
/-- the greatest gap of a list's first places -/
def gp (L : List Int) : Nat → Int
  | 0 => 0
  | k + 1 => max (gp L k) (L[k + 1]?.getD 0 - L[k]?.getD 0)
theorem gp_bd {L : List Int} {B : Int} (hB : 0 ≤ B) (h : ∀ x ∈ L, 0 ≤ x ∧ x ≤ B) (k : Nat) (hk : k + 1 ≤ L.length) : 0 ≤ gp L k ∧ gp L k ≤ B := by
  induction k with
  | zero => exact ⟨Int.le_refl _, hB⟩
  | succ k ih =>
    have := ih (by omega)
    have h1 := h _ (List.getElem_mem (l := L) (n := k + 1) (by omega))
    have h2 := h _ (List.getElem_mem (l := L) (n := k) (by omega))
    rw [gp, List.getElem?_eq_getElem (by omega), List.getElem?_eq_getElem (by omega)]
    simp only [Option.getD_some]
    omega
theorem reachK_full {cs : List Int} : ∀ k, (∀ i, i < k → 0 < cs[i]?.getD 0) → reachK cs k = (List.range k).map (fun i : Nat => (i : Int))
  | 0, _ => rfl
  | k + 1, h => by
    rw [reachK_yes (h k (by omega)), reachK_full k (fun i hi => h i (by omega)), List.range_succ, List.map_append]
    rfl
theorem gp_range (n k : Nat) (hk : k + 1 ≤ n) : gp ((List.range n).map (fun i : Nat => (i : Int))) k ≤ 1 := by
  induction k with
  | zero => show (0 : Int) ≤ 1; omega
  | succ k ih =>
    have := ih (by omega)
    rw [gp]
    have e1 : ((List.range n).map (fun i : Nat => (i : Int)))[k + 1]?.getD 0 = ((k + 1 : Nat) : Int) := by simp [List.getElem?_range, show k + 1 < n by omega]
    have e2 : ((List.range n).map (fun i : Nat => (i : Int)))[k]?.getD 0 = (k : Int) := by simp [List.getElem?_range, show k < n by omega]
    rw [e1, e2]; omega
theorem whole_reach {zs : List Int} (hz : inL zs = true) (h : AllS zs) : reachL (sumC zs) = (List.range ((tot zs).toNat + 1)).map (fun i : Nat => (i : Int)) := by
  have hg := ((inL_iff zs).1 hz).2
  have hl := sumC_length zs
  have ht := tot_bd hg
  rw [reachL, reachK_full _ (fun i hi => ?_), hl]
  have h1 := (sumC_sub hg i hi).2 (h i (by omega) (by omega))
  have h2 := tally_bd (sumKey zs) ((tot zs).toNat + 1) (2 ^ zs.length) i
  have h3 : (sumC zs)[i]?.getD 0 = (tally (sumKey zs) ((tot zs).toNat + 1) (2 ^ zs.length))[i]?.getD 0 := rfl
  omega
theorem reach_mem {cs : List Int} {x : Int} {k : Nat} (h : x ∈ reachK cs k) : 0 ≤ x ∧ x < k := by
  rw [reachK] at h
  obtain ⟨i, hi, rfl⟩ := List.mem_map.1 h
  have := List.mem_range.1 (List.mem_filter.1 hi).1
  omega
end Go.Proofs.Ytokfkhdngmpkgaa
