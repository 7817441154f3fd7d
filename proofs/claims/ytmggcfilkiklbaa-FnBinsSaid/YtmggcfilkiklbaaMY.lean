/- One step of the differences rule, in plain words. Conditions: none. Ahead of it: A number put into an ordered list, in plain words. Conditions: none. -/
import Derived.Test.YtmggcfilkiklbaaMS
import Derived.Test.YtmggcfilkiklbaaMG
namespace Go.Proofs.Ytmggcfilkiklbaa
def insAt (L : List Int) (j : Nat) (x : Int) : List Int := L.take j ++ [x] ++ L.drop j
theorem insAt_length {L : List Int} {j k : Nat} (hL : L.length = k) (hj : j ≤ k) (x : Int) : (insAt L j x).length = k + 1 := by
  simp [insAt]; omega
theorem insAt_perm {L M : List Int} (h : L.Perm M) (j : Nat) (x : Int) : (insAt L j x).Perm (M ++ [x]) := by
  have h1 : (insAt L j x).Perm (x :: L) := by
    rw [insAt, List.append_assoc]
    have := List.perm_middle (a := x) (l₁ := L.take j) (l₂ := L.drop j)
    rwa [List.take_append_drop] at this
  exact (h1.trans (.cons x h)).trans (List.perm_append_singleton x M).symm
theorem insAt_get {L : List Int} {j k : Nat} (hL : L.length = k) (hj : j ≤ k) (x : Int) (t : Nat) (ht : t < k + 1) : (insAt L j x)[t]?.getD 0 = if t < j then L[t]?.getD 0 else if t = j then x else L[t - 1]?.getD 0 := by
  have hl : (L.take j).length = j := by rw [List.length_take]; omega
  rw [insAt, List.append_assoc]
  by_cases h1 : t < j
  · rw [if_pos h1, List.getElem?_append_left (by omega), List.getElem?_take, if_pos h1]
  · rw [if_neg h1, List.getElem?_append_right (by omega), hl]
    by_cases h2 : t = j
    · subst h2; rw [if_pos rfl, Nat.sub_self]; rfl
    · obtain ⟨d, hd⟩ : ∃ d, t - j = d + 1 := ⟨t - j - 1, by omega⟩
      rw [if_neg h2, hd]
      show (L.drop j)[d]?.getD 0 = _
      rw [List.getElem?_drop]
      congr 2
      omega
theorem insAt_ord {L : List Int} {j k : Nat} {x : Int} (hL : L.length = k) (hj : j ≤ k) (h : InOrd (fun a b => a ≤ b) L k) (h1 : ∀ t, j ≤ t → t < k → x < L[t]?.getD 0) (h2 : j = 0 ∨ L[j - 1]?.getD 0 ≤ x) : InOrd (fun a b => a ≤ b) (insAt L j x) (k + 1) := fun p q hpq hq => by
  show (insAt L j x)[p]?.getD 0 ≤ (insAt L j x)[q]?.getD 0
  rw [insAt_get hL hj x p (by omega), insAt_get hL hj x q (by omega)]
  have hlow : ∀ t, t < j → L[t]?.getD 0 ≤ x := fun t ht => by
    rcases h2 with h2 | h2
    · omega
    · by_cases e : t = j - 1
      · subst e; exact h2
      · have : L[t]?.getD 0 ≤ L[j - 1]?.getD 0 := h t (j - 1) (by omega) (by omega)
        omega
  have hh : ∀ a b, a < b → b < k → L[a]?.getD 0 ≤ L[b]?.getD 0 := fun a b hab hb => h a b hab hb
  by_cases a1 : p < j
  · rw [if_pos a1]
    by_cases b1 : q < j
    · rw [if_pos b1]; exact hh _ _ hpq (by omega)
    · rw [if_neg b1]
      by_cases b2 : q = j
      · rw [if_pos b2]; exact hlow p a1
      · rw [if_neg b2]; exact hh _ _ (by omega) (by omega)
  · rw [if_neg a1, if_neg (show ¬ q < j by omega)]
    by_cases a2 : p = j
    · rw [if_pos a2, if_neg (show ¬ q = j by omega)]
      have := h1 (q - 1) (by omega) (by omega); omega
    · rw [if_neg a2, if_neg (show ¬ q = j by omega)]
      exact hh _ _ (by omega) (by omega)
end Go.Proofs.Ytmggcfilkiklbaa
namespace Go.Proofs.Ytmggcfilkiklbaa
theorem ord_rev2 {zs L : List Int} (hp : L.Perm zs) (h : InOrd (fun a b => a ≤ b) L L.length) : L.reverse = sortD zs := by
  refine sortD_is ?_ ((List.reverse_perm L).trans hp)
  rw [List.pairwise_reverse]
  exact inOrd_pair h
theorem last2 {L : List Int} {n : Nat} (hn : L.length = n) (h2 : 2 ≤ n) : L = L.take (n - 2) ++ [L[n - 2]?.getD 0, L[n - 1]?.getD 0] := by
  have h := List.take_append_drop (n - 2) L
  have hd : L.drop (n - 2) = [L[n - 2]?.getD 0, L[n - 1]?.getD 0] := by
    rw [List.drop_eq_getElem_cons (by omega), List.drop_eq_getElem_cons (by omega), List.drop_of_length_le (by omega), List.getElem?_eq_getElem (by omega), List.getElem?_eq_getElem (by omega)]
    simp only [Option.getD_some]
    congr 2
    simp [show n - 2 + 1 = n - 1 by omega]
  rw [← hd]; exact h.symm
/-- the reference's step, from a rising list's end -/
theorem df_step {L M : List Int} {n : Nat} {x y : Int} (hn : L.length = n) (h2 : 2 ≤ n) (hx : L[n - 1]?.getD 0 = x) (hy : L[n - 2]?.getD 0 = y) (hM : M.Perm (L.take (n - 2) ++ [x - y])) (hO : InOrd (fun a b => a ≤ b) M M.length) : diffs n L.reverse = diffs (n - 1) M.reverse := by
  have hl := last2 hn h2
  rw [hx, hy] at hl
  rw [ord_rev2 hM hO]
  have h3 : L.reverse = x :: y :: (L.take (n - 2)).reverse := by
    conv => lhs; rw [hl]
    simp
  obtain ⟨m, rfl⟩ : ∃ m, n = m + 1 := ⟨n - 1, by omega⟩
  rw [h3, diffs, Nat.add_sub_cancel]
  congr 1
  refine sortD_congr ?_
  refine (List.Perm.cons _ (List.reverse_perm _)).trans ?_
  exact (List.perm_append_comm (l₁ := [x - y]))
theorem df_mem {L M : List Int} {n : Nat} {x y : Int} (hn : L.length = n) (h2 : 2 ≤ n) (hx : L[n - 1]?.getD 0 = x) (hy : L[n - 2]?.getD 0 = y) (hL : InOrd (fun a b => a ≤ b) L n) (hb : ∀ z ∈ L, 0 ≤ z ∧ z ≤ 60) (hM : M.Perm (L.take (n - 2) ++ [x - y])) : (0 ≤ y ∧ y ≤ x ∧ x ≤ 60) ∧ M.length = n - 1 ∧ ∀ z ∈ M, 0 ≤ z ∧ z ≤ 60 := by
  have h1 : y ≤ x := by rw [← hx, ← hy]; exact hL (n - 2) (n - 1) (by omega) (by omega)
  have hxm : x ∈ L := by rw [← hx, List.getElem?_eq_getElem (by omega)]; exact List.getElem_mem _
  have hym : y ∈ L := by rw [← hy, List.getElem?_eq_getElem (by omega)]; exact List.getElem_mem _
  have b1 := hb x hxm
  have b2 := hb y hym
  refine ⟨⟨b2.1, h1, b1.2⟩, ?_, fun z hz => ?_⟩
  · rw [hM.length_eq, List.length_append, List.length_take]; simp; omega
  · rcases List.mem_append.1 (hM.subset hz) with h | h
    · exact hb z (List.mem_of_mem_take h)
    · simp at h; omega
/-- the program's step, from a falling list's head -/
theorem df_stepD {L : List Int} {n : Nat} {x y : Int} (hn : L.length = n) (h2 : 2 ≤ n) (hx : L[0]?.getD 0 = x) (hy : L[1]?.getD 0 = y) : diffs n L = diffs (n - 1) (sortD (L.drop 2 ++ [x - y])) := by
  match L, hn, hx, hy with
  | [], hn, _, _ => simp at hn; omega
  | [_], hn, _, _ => simp at hn; omega
  | u :: v :: r, hn, hx, hy =>
    simp at hx hy
    subst hx; subst hy
    obtain ⟨m, rfl⟩ : ∃ m, n = m + 1 := ⟨n - 1, by omega⟩
    rw [diffs, Nat.add_sub_cancel]
    congr 1
    exact sortD_congr (List.perm_append_comm (l₁ := [u - v]))
theorem df_memD {L : List Int} {n : Nat} {x y : Int} (hn : L.length = n) (h2 : 2 ≤ n) (hx : L[0]?.getD 0 = x) (hy : L[1]?.getD 0 = y) (hL : L.Pairwise (fun a b => b ≤ a)) (hb : ∀ z ∈ L, 0 ≤ z ∧ z ≤ 60) : (0 ≤ y ∧ y ≤ x ∧ x ≤ 60) ∧ (L.drop 2 ++ [x - y]).length = n - 1 ∧ ∀ z ∈ sortD (L.drop 2 ++ [x - y]), 0 ≤ z ∧ z ≤ 60 := by
  match L, hn, hx, hy with
  | [], hn, _, _ => simp at hn; omega
  | [_], hn, _, _ => simp at hn; omega
  | u :: v :: r, hn, hx, hy =>
    simp at hx hy
    subst hx; subst hy
    have h1 := (List.pairwise_cons.1 hL).1 v (List.mem_cons_self ..)
    have b1 := hb u (List.mem_cons_self ..)
    have b2 := hb v (List.mem_cons_of_mem _ (List.mem_cons_self ..))
    refine ⟨⟨b2.1, h1, b1.2⟩, by simp at hn ⊢; omega, fun z hz => ?_⟩
    have := (sortD_perm _).subset hz
    rcases List.mem_append.1 this with h | h
    · exact hb z (List.mem_of_mem_drop h)
    · simp at h; omega
/-- the answer of HalfDifferences -/
def dR (zs : List Int) : Int := if inL zs = true then dfR zs else 0
theorem diffs_nil : diffs 0 [] = 0 := rfl
theorem diffs_one (x : Int) : diffs 1 [x] = x := rfl
end Go.Proofs.Ytmggcfilkiklbaa
