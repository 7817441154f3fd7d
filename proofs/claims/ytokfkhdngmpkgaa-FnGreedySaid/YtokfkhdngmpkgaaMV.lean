/- Tables of the most, filled choice by choice. Conditions: none. -/
import Derived.Test.YtokfkhdngmpkgaaMD
namespace Go.Proofs.Ytokfkhdngmpkgaa
theorem getD_set' (L : List Int) (j t : Nat) (y : Int) (h : j < L.length) : (L.set j y)[t]?.getD 0 = if t = j then y else L[t]?.getD 0 := by
  rw [List.getElem?_set]
  by_cases e : j = t
  · subst e; simp [h]
  · rw [if_neg e, if_neg (fun e' => e e'.symm)]
/-- below c all is found, from c on nothing -/
def Tab0 (Q : Nat → Prop) (T : List Int) (c : Nat) : Prop := (∀ d, d < c → ∃ k : Nat, T[d]?.getD 0 = k ∧ IsMost Q d k) ∧ ∀ d, c ≤ d → T[d]?.getD 0 = 0
/-- below c all is found, behind c nothing, at c v -/
def Tab (Q : Nat → Prop) (T : List Int) (c v : Nat) : Prop := (∀ d, d < c → ∃ k : Nat, T[d]?.getD 0 = k ∧ IsMost Q d k) ∧ (∀ d, c < d → T[d]?.getD 0 = 0) ∧ T[c]?.getD 0 = v
theorem tab0_start (Q : Nat → Prop) (P : Nat) : Tab0 Q (List.replicate P 0) 0 := ⟨fun d hd => by omega, fun d _ => by
  by_cases h : d < P
  · simp [h]
  · simp [h]⟩
theorem tab0_one (Q : Nat → Prop) (P : Nat) : Tab0 Q (List.replicate P 0) 1 := ⟨fun d hd => by
  obtain rfl : d = 0 := by omega
  exact ⟨0, by have := (tab0_start Q P).2 0 (by omega); simpa using this, most_zero Q⟩, fun d _ => (tab0_start Q P).2 d (by omega)⟩
theorem Tab0.tab {Q : Nat → Prop} {T : List Int} {c : Nat} (h : Tab0 Q T c) : Tab Q T c 0 := ⟨h.1, fun d hd => h.2 d (by omega), by have := h.2 c (by omega); simpa using this⟩
theorem Tab.put {Q : Nat → Prop} {T : List Int} {c v : Nat} (h : Tab Q T c v) (hc : c < T.length) (x : Nat) : Tab Q (T.set c (x : Int)) c x :=
  ⟨fun d hd => by rw [getD_set' _ _ _ _ hc, if_neg (by omega)]; exact h.1 d hd, fun d hd => by rw [getD_set' _ _ _ _ hc, if_neg (by omega)]; exact h.2.1 d hd, by rw [getD_set' _ _ _ _ hc, if_pos rfl]⟩
theorem Tab.next {Q : Nat → Prop} {T : List Int} {c v : Nat} (h : Tab Q T c v) (hm : IsMost Q c v) : Tab0 Q T (c + 1) :=
  ⟨fun d hd => by
    by_cases e : d = c
    · subst e; exact ⟨v, h.2.2, hm⟩
    · exact h.1 d (by omega), fun d hd => h.2.1 d (by omega)⟩
end Go.Proofs.Ytokfkhdngmpkgaa
