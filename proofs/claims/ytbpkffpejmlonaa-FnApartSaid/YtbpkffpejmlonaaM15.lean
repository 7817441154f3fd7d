/- Lists whose sums are apart, in plain words. Conditions: stated in each. -/
import Derived.Test.YtbpkffpejmlonaaM14
import Derived.Test.YtbpkffpejmlonaaW15
namespace Go.Proofs.Ytbpkffpejmlonaa
theorem reachK_ones {cs : List Int} {k : Nat} (hk : k ≤ cs.length) (h : ∀ j, j < cs.length → 0 ≤ cs[j]?.getD 0 ∧ cs[j]?.getD 0 ≤ 1) : ((reachK cs k).length : Int) = tot (cs.take k) := by
  induction k with
  | zero => rfl
  | succ k ih =>
    have ih' := ih (by omega)
    have hj := h k (by omega)
    rw [tot_take cs k (by omega)]
    by_cases e : 0 < cs[k]?.getD 0
    · rw [reachK_yes e, List.length_append, List.length_singleton]; omega
    · rw [reachK_no e]; omega
/-- as many sums as choices -/
theorem apart_len {zs : List Int} (h : apartB zs = true) : inL zs = true ∧ ((sumRR zs).length : Int) = 2 ^ zs.length ∧ (2 : Int) ^ zs.length ≤ tot zs + 1 := by
  simp only [apartB, Bool.and_eq_true, List.all_eq_true, decide_eq_true_eq] at h
  obtain ⟨hz, h⟩ := h
  have hzl := (inL_iff zs).1 hz
  have htb := tot_bd hzl.2
  have e : sumRR zs = reachK (sumC zs) (sumC zs).length := by unfold sumRR; rw [if_pos hz, reachL]
  have hb : ∀ j, j < (sumC zs).length → 0 ≤ (sumC zs)[j]?.getD 0 ∧ (sumC zs)[j]?.getD 0 ≤ 1 := fun j hj => by
    refine ⟨(sumC_mem hzl.1 j).1, ?_⟩
    rw [List.getElem?_eq_getElem hj]
    exact h _ (List.getElem_mem hj)
  have h1 := reachK_ones (Nat.le_refl _) hb
  have h2 := sumC_tot hzl.2
  have h3 := reachK_length (sumC zs) (sumC zs).length
  have h4 := sumC_length zs
  rw [List.take_length, h2] at h1
  have h5 : ((2 ^ zs.length : Nat) : Int) = 2 ^ zs.length := by simp
  rw [e]
  exact ⟨hz, by omega, by omega⟩
end Go.Proofs.Ytbpkffpejmlonaa
