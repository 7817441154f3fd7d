/- The list of the sums that are reached, in plain words. Conditions: the list is as told. -/
import Derived.Test.YtmggcfilkiklbaaDoorM13
import Derived.Test.YtmggcfilkiklbaaDoorW14
namespace Go.Proofs.YtmggcfilkiklbaaDoor
theorem reachK_mem {cs : List Int} {k : Nat} {x : Int} (h : x ∈ reachK cs k) : ∃ i : Nat, x = i ∧ i < k ∧ 0 < cs[i]?.getD 0 := by
  simp only [reachK, List.mem_map, List.mem_filter, List.mem_range, decide_eq_true_eq] at h
  obtain ⟨i, ⟨h1, h2⟩, rfl⟩ := h
  exact ⟨i, rfl, h1, h2⟩
theorem reachK_pair (cs : List Int) (k : Nat) : (reachK cs k).Pairwise (· < ·) := by
  induction k with
  | zero => exact List.Pairwise.nil
  | succ k ih =>
    by_cases h : 0 < cs[k]?.getD 0
    · rw [reachK_yes h, List.pairwise_append]
      refine ⟨ih, List.pairwise_singleton _ _, fun x hx y hy => ?_⟩
      obtain ⟨i, rfl, hi, _⟩ := reachK_mem hx
      rw [List.mem_singleton.1 hy]; omega
    · rw [reachK_no h]; exact ih
theorem cntN_some {p : Nat → Bool} {m : Nat} (h : 0 < cntN p m) : ∃ c, c < m ∧ p c = true := by
  induction m with
  | zero => simp [cntN] at h
  | succ m ih =>
    rw [cntN] at h
    by_cases e : p m = true
    · exact ⟨m, by omega, e⟩
    · rw [if_neg e] at h
      obtain ⟨c, h1, h2⟩ := ih (by omega)
      exact ⟨c, by omega, h2⟩
def reachFacts (zs L : List Int) : Prop :=
  (1 ≤ L.length ∧ L.length ≤ 601) ∧ (∀ k, k < L.length → 0 ≤ L[k]?.getD 0 ∧ L[k]?.getD 0 ≤ 600 ∧ ∃ c, c < 2 ^ zs.length ∧ csum zs c = L[k]?.getD 0) ∧
    (∀ k, k + 1 < L.length → L[k]?.getD 0 < L[k + 1]?.getD 0) ∧ L[0]?.getD 0 = 0 ∧ L[L.length - 1]?.getD 0 = tot zs
theorem sumRR_facts {zs : List Int} (hz : inL zs = true) : reachFacts zs (sumRR zs) := by
  have hzl := (inL_iff zs).1 hz
  have htb := tot_bd hzl.2
  have e : sumRR zs = reachK (sumC zs) ((tot zs).toNat + 1) := by unfold sumRR; rw [if_pos hz, reachL, sumC_length]
  have hfirst := sumC_first hzl.2
  have hlast : (sumC zs)[(tot zs).toNat]?.getD 0 = 1 := by
    have := sumC_rev hzl.2 0 (by rw [sumC_length]; omega)
    rw [sumC_length, hfirst] at this
    exact this
  obtain ⟨t, ht⟩ := reachK_head (k := (tot zs).toNat) (cs := sumC zs) (by omega)
  have hy := reachK_yes (cs := sumC zs) (k := (tot zs).toNat) (by omega)
  have hle := sumRR_length zs
  have hmem : ∀ x ∈ sumRR zs, 0 ≤ x ∧ x ≤ 600 ∧ ∃ c, c < 2 ^ zs.length ∧ csum zs c = x := by
    intro x hx
    rw [e] at hx
    obtain ⟨i, rfl, h1, h2⟩ := reachK_mem hx
    rw [sumC_get i h1] at h2
    obtain ⟨c, h3, h4⟩ := cntN_some (p := fun c => sumKey zs c == some i) (m := 2 ^ zs.length) (by omega)
    have h5 := csum_bd hzl.2 c
    simp only [sumKey, beq_iff_eq, Option.some.injEq] at h4
    exact ⟨by omega, by omega, c, h3, by omega⟩
  refine ⟨⟨by rw [e, ht]; simp, hle⟩, fun k hk => hmem _ (by rw [List.getElem?_eq_getElem hk]; exact List.getElem_mem hk), fun k hk => ?_, by rw [e, ht]; rfl, ?_⟩
  · have hp := reachK_pair (sumC zs) ((tot zs).toNat + 1)
    rw [← e, List.pairwise_iff_getElem] at hp
    have := hp k (k + 1) (by omega) hk (by omega)
    rw [List.getElem?_eq_getElem (by omega), List.getElem?_eq_getElem hk]
    exact this
  · rw [e, hy]
    simp
    omega
end Go.Proofs.YtmggcfilkiklbaaDoor
