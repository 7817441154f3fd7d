/- Lists put in order by exchanges, in plain words. Conditions: none. Ahead of it: Tables of the most, filled choice by choice. Conditions: none. -/
import Derived.Test.YtmggcfilkiklbaaMD
namespace Go.Proofs.Ytmggcfilkiklbaa
theorem getD_set' (L : List Int) (j t : Nat) (y : Int) (h : j < L.length) : (L.set j y)[t]?.getD 0 = if t = j then y else L[t]?.getD 0 := by
  rw [List.getElem?_set]
  by_cases e : j = t
  · subst e; simp [h]
  · rw [if_neg e, if_neg (fun e' => e e'.symm)]
/-- below c all is found, from c on nothing -/
def Tab0 (Q : Nat → Prop) (T : List Int) (c : Nat) : Prop := (∀ d, d < c → ∃ k : Nat, T[d]?.getD 0 = k ∧ IsMost Q d k) ∧ ∀ d, c ≤ d → T[d]?.getD 0 = 0
/-- below c all is found, behind c nothing, at c v -/
def Tab (Q : Nat → Prop) (T : List Int) (c v : Nat) : Prop := (∀ d, d < c → ∃ k : Nat, T[d]?.getD 0 = k ∧ IsMost Q d k) ∧ (∀ d, c < d → T[d]?.getD 0 = 0) ∧ T[c]?.getD 0 = v
theorem tab0_start (Q : Nat → Prop) (P : Nat) : Tab0 Q (List.replicate P 0) 0 := ⟨fun d hd => by omega, fun d _ => by
  by_cases h : d < P
  · simp [h]
  · simp [h]⟩
theorem tab0_one (Q : Nat → Prop) (P : Nat) : Tab0 Q (List.replicate P 0) 1 := ⟨fun d hd => by
  obtain rfl : d = 0 := by omega
  exact ⟨0, by have := (tab0_start Q P).2 0 (by omega); simpa using this, most_zero Q⟩, fun d _ => (tab0_start Q P).2 d (by omega)⟩
theorem Tab0.tab {Q : Nat → Prop} {T : List Int} {c : Nat} (h : Tab0 Q T c) : Tab Q T c 0 := ⟨h.1, fun d hd => h.2 d (by omega), by have := h.2 c (by omega); simpa using this⟩
theorem Tab.put {Q : Nat → Prop} {T : List Int} {c v : Nat} (h : Tab Q T c v) (hc : c < T.length) (x : Nat) : Tab Q (T.set c (x : Int)) c x :=
  ⟨fun d hd => by rw [getD_set' _ _ _ _ hc, if_neg (by omega)]; exact h.1 d hd, fun d hd => by rw [getD_set' _ _ _ _ hc, if_neg (by omega)]; exact h.2.1 d hd, by rw [getD_set' _ _ _ _ hc, if_pos rfl]⟩
theorem Tab.next {Q : Nat → Prop} {T : List Int} {c v : Nat} (h : Tab Q T c v) (hm : IsMost Q c v) : Tab0 Q T (c + 1) :=
  ⟨fun d hd => by
    by_cases e : d = c
    · subst e; exact ⟨v, h.2.2, hm⟩
    · exact h.1 d (by omega), fun d hd => h.2.1 d (by omega)⟩
end Go.Proofs.Ytmggcfilkiklbaa
namespace Go.Proofs.Ytmggcfilkiklbaa
/-- the numbers up to place i are in order, but the one at place j may stand too far behind -/
def Almost (le : Int → Int → Prop) (L : List Int) (i j : Nat) : Prop := ∀ p q, p < q → q ≤ i → q ≠ j → le (L[p]?.getD 0) (L[q]?.getD 0)
/-- the numbers before place i are in order -/
def InOrd (le : Int → Int → Prop) (L : List Int) (i : Nat) : Prop := ∀ p q, p < q → q < i → le (L[p]?.getD 0) (L[q]?.getD 0)
theorem inOrd_one (le : Int → Int → Prop) (L : List Int) : InOrd le L 1 := fun p q h1 h2 => by omega
theorem InOrd.start {le : Int → Int → Prop} {L : List Int} {i : Nat} (h : InOrd le L i) : Almost le L i i := fun p q h1 h2 h3 => h p q h1 (by omega)
theorem Almost.done {le : Int → Int → Prop} (ht : ∀ a b c, le a b → le b c → le a c) {L : List Int} {i j : Nat} (h : Almost le L i j) (hj : j = 0 ∨ le (L[j - 1]?.getD 0) (L[j]?.getD 0)) : InOrd le L (i + 1) := fun p q h1 h2 => by
  by_cases e : q = j
  · subst e
    rcases hj with h0 | hle
    · omega
    · by_cases e2 : p = q - 1
      · subst e2; exact hle
      · exact ht _ _ _ (h p (q - 1) (by omega) (by omega) (by omega)) hle
  · exact h p q h1 (by omega) e
/-- the exchange of places j and j - 1 -/
def swapJ (L : List Int) (j : Nat) : List Int := (L.set j (L[j - 1]?.getD 0)).set (j - 1) (L[j]?.getD 0)
theorem swapJ_length (L : List Int) (j : Nat) : (swapJ L j).length = L.length := by simp [swapJ]
theorem swapJ_get {L : List Int} {j : Nat} (hj : 1 ≤ j) (hl : j < L.length) (t : Nat) : (swapJ L j)[t]?.getD 0 = if t = j - 1 then L[j]?.getD 0 else if t = j then L[j - 1]?.getD 0 else L[t]?.getD 0 := by
  rw [swapJ, getD_set' _ _ _ _ (by rw [List.length_set]; omega), getD_set' _ _ _ _ hl]
theorem Almost.swap {le : Int → Int → Prop} {L : List Int} {i j : Nat} (h : Almost le L i j) (hj : 1 ≤ j) (hji : j ≤ i) (hl : j < L.length) (hle : le (L[j]?.getD 0) (L[j - 1]?.getD 0)) : Almost le (swapJ L j) i (j - 1) := fun p q h1 h2 h3 => by
  rw [swapJ_get hj hl, swapJ_get hj hl]
  by_cases e1 : q = j
  · subst e1
    rw [if_neg h3, if_pos rfl]
    by_cases e2 : p = q - 1
    · rw [if_pos e2]; exact hle
    · rw [if_neg e2, if_neg (by omega)]
      exact h p (q - 1) (by omega) (by omega) (by omega)
  · rw [if_neg h3, if_neg e1]
    by_cases e2 : p = j - 1
    · rw [if_pos e2]; exact h j q (by omega) h2 e1
    · rw [if_neg e2]
      by_cases e3 : p = j
      · rw [if_pos e3]; exact h (j - 1) q (by omega) h2 e1
      · rw [if_neg e3]; exact h p q h1 h2 e1
theorem swapJ_perm {L : List Int} {j : Nat} (hj : 1 ≤ j) (hl : j < L.length) : (swapJ L j).Perm L := by
  have h1 : j - 1 < L.length := by omega
  have e1 : L[j - 1]?.getD 0 = L[j - 1] := by simp [List.getElem?_eq_getElem h1]
  have e2 : L[j]?.getD 0 = L[j] := by simp [List.getElem?_eq_getElem hl]
  rw [swapJ, e1, e2]
  exact List.set_set_perm hl h1
/-- in order, as a whole -/
theorem inOrd_pair {le : Int → Int → Prop} {L : List Int} (h : InOrd le L L.length) : L.Pairwise le := by
  rw [List.pairwise_iff_getElem]
  intro p q hp hq hlt
  have := h p q hlt hq
  simpa [List.getElem?_eq_getElem hp, List.getElem?_eq_getElem hq] using this
theorem perm_eq {le : Int → Int → Prop} (ha : ∀ a b, le a b → le b a → a = b) : ∀ {L M : List Int}, L.Pairwise le → M.Pairwise le → L.Perm M → L = M
  | [], M, _, _, h => by rw [List.nil_perm.1 h]
  | x :: xs, [], _, _, h => by simp at h
  | x :: xs, y :: ys, h1, h2, h => by
    have hxy : x = y := by
      by_cases e : x = y
      · exact e
      · have m1 : y ∈ xs := by
          have : y ∈ x :: xs := h.symm.subset (List.mem_cons_self ..)
          rcases List.mem_cons.1 this with e2 | e2
          · exact (e e2.symm).elim
          · exact e2
        have m2 : x ∈ ys := by
          have : x ∈ y :: ys := h.subset (List.mem_cons_self ..)
          rcases List.mem_cons.1 this with e2 | e2
          · exact (e e2).elim
          · exact e2
        exact ha _ _ ((List.pairwise_cons.1 h1).1 y m1) ((List.pairwise_cons.1 h2).1 x m2)
    subst hxy
    rw [perm_eq ha (List.pairwise_cons.1 h1).2 (List.pairwise_cons.1 h2).2 (List.Perm.cons_inv h)]
theorem perm_good {L M : List Int} (h : L.Perm M) (hg : good M) : good L := fun x hx => hg x (h.subset hx)
theorem perm_tot {L M : List Int} (h : L.Perm M) : tot L = tot M := by
  induction h with
  | nil => rfl
  | cons x _ ih => rw [tot, tot, ih]
  | swap x y l => simp only [tot]; omega
  | trans _ _ ih1 ih2 => rw [ih1, ih2]
end Go.Proofs.Ytmggcfilkiklbaa
