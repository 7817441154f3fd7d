/- A number put into an ordered list, in plain words. Conditions: none. -/
import Derived.Test.YtokfkhdngmpkgaaMS
namespace Go.Proofs.Ytokfkhdngmpkgaa
def insAt (L : List Int) (j : Nat) (x : Int) : List Int := L.take j ++ [x] ++ L.drop j
theorem insAt_length {L : List Int} {j k : Nat} (hL : L.length = k) (hj : j ≤ k) (x : Int) : (insAt L j x).length = k + 1 := by
  simp [insAt]; omega
theorem insAt_perm {L M : List Int} (h : L.Perm M) (j : Nat) (x : Int) : (insAt L j x).Perm (M ++ [x]) := by
  have h1 : (insAt L j x).Perm (x :: L) := by
    rw [insAt, List.append_assoc]
    have := List.perm_middle (a := x) (l₁ := L.take j) (l₂ := L.drop j)
    rwa [List.take_append_drop] at this
  exact (h1.trans (.cons x h)).trans (List.perm_append_singleton x M).symm
theorem insAt_get {L : List Int} {j k : Nat} (hL : L.length = k) (hj : j ≤ k) (x : Int) (t : Nat) (ht : t < k + 1) : (insAt L j x)[t]?.getD 0 = if t < j then L[t]?.getD 0 else if t = j then x else L[t - 1]?.getD 0 := by
  have hl : (L.take j).length = j := by rw [List.length_take]; omega
  rw [insAt, List.append_assoc]
  by_cases h1 : t < j
  · rw [if_pos h1, List.getElem?_append_left (by omega), List.getElem?_take, if_pos h1]
  · rw [if_neg h1, List.getElem?_append_right (by omega), hl]
    by_cases h2 : t = j
    · subst h2; rw [if_pos rfl, Nat.sub_self]; rfl
    · obtain ⟨d, hd⟩ : ∃ d, t - j = d + 1 := ⟨t - j - 1, by omega⟩
      rw [if_neg h2, hd]
      show (L.drop j)[d]?.getD 0 = _
      rw [List.getElem?_drop]
      congr 2
      omega
theorem insAt_ord {L : List Int} {j k : Nat} {x : Int} (hL : L.length = k) (hj : j ≤ k) (h : InOrd (fun a b => a ≤ b) L k) (h1 : ∀ t, j ≤ t → t < k → x < L[t]?.getD 0) (h2 : j = 0 ∨ L[j - 1]?.getD 0 ≤ x) : InOrd (fun a b => a ≤ b) (insAt L j x) (k + 1) := fun p q hpq hq => by
  show (insAt L j x)[p]?.getD 0 ≤ (insAt L j x)[q]?.getD 0
  rw [insAt_get hL hj x p (by omega), insAt_get hL hj x q (by omega)]
  have hlow : ∀ t, t < j → L[t]?.getD 0 ≤ x := fun t ht => by
    rcases h2 with h2 | h2
    · omega
    · by_cases e : t = j - 1
      · subst e; exact h2
      · have : L[t]?.getD 0 ≤ L[j - 1]?.getD 0 := h t (j - 1) (by omega) (by omega)
        omega
  have hh : ∀ a b, a < b → b < k → L[a]?.getD 0 ≤ L[b]?.getD 0 := fun a b hab hb => h a b hab hb
  by_cases a1 : p < j
  · rw [if_pos a1]
    by_cases b1 : q < j
    · rw [if_pos b1]; exact hh _ _ hpq (by omega)
    · rw [if_neg b1]
      by_cases b2 : q = j
      · rw [if_pos b2]; exact hlow p a1
      · rw [if_neg b2]; exact hh _ _ (by omega) (by omega)
  · rw [if_neg a1, if_neg (show ¬ q < j by omega)]
    by_cases a2 : p = j
    · rw [if_pos a2, if_neg (show ¬ q = j by omega)]
      have := h1 (q - 1) (by omega) (by omega); omega
    · rw [if_neg a2, if_neg (show ¬ q = j by omega)]
      exact hh _ _ (by omega) (by omega)
end Go.Proofs.Ytokfkhdngmpkgaa
