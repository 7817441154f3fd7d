/- Plain words of chapter 8: when a list and a number are told; bits of a choice; the first choice with a property. Conditions: none. -/
import Derived.Test.YtdpapalfafjncaaGreatDoorM1
namespace Go.Proofs.YtdpapalfafjncaaGreatDoor
def restOk (zs : List Int) (n : Int) : Bool := inL zs && (decide (1 ≤ n) && decide (n ≤ 6))
theorem restOk_iff (zs : List Int) (n : Int) : restOk zs n = true ↔ inL zs = true ∧ 1 ≤ n ∧ n ≤ 6 := by simp [restOk]
def popN : Nat → Nat → Nat
  | 0, _ => 0
  | f + 1, c => c % 2 + popN f (c / 2)
/-- the number of bits of a choice -/
def popc (c : Nat) : Nat := popN 20 c
theorem popN_le (f c : Nat) : popN f c ≤ f := by
  induction f generalizing c with
  | zero => exact Nat.le_refl _
  | succ f ih => have := ih (c / 2); simp only [popN]; omega
theorem popN_zero (f : Nat) : popN f 0 = 0 := by
  induction f with
  | zero => rfl
  | succ f ih => simp only [popN, Nat.zero_div, ih]
theorem popN_more (f c : Nat) (h : c < 2 ^ f) : popN (f + 1) c = popN f c := by
  induction f generalizing c with
  | zero =>
    have : c = 0 := by simpa using h
    subst this; rfl
  | succ f ih =>
    rw [Nat.pow_succ] at h
    rw [popN, ih (c / 2) (by omega), popN]
/-- RestFind's test -/
def findP (zs : List Int) (n : Int) (c : Nat) : Bool := restOk zs n && ((c : Int) != 0 && csum zs c % n == 0)
/-- RestJust's test -/
def justP (zs : List Int) (n k : Int) (c : Nat) : Bool := restOk zs n && ((popc c : Int) == k && csum zs c % n == 0)
/-- l8Find's test -/
def l8P (zs : List Int) (n k : Int) (c : Nat) : Bool := csum zs c % n == 0 && (decide (k < 0) && decide (0 < c) || decide (0 ≤ k) && (popc c : Int) == k)
/-- the least number below m at which p holds, or none -/
def FirstIs (p : Nat → Bool) (m : Nat) (r : Int) (ok : Bool) : Prop :=
  (ok = true ∧ ∃ c : Nat, r = c ∧ c < m ∧ p c = true ∧ ∀ d, d < c → p d = false) ∨ (ok = false ∧ r = 0 ∧ ∀ d, d < m → p d = false)
theorem FirstIs.unique {p : Nat → Bool} {m : Nat} {r r' : Int} {ok ok' : Bool} (h : FirstIs p m r ok) (h' : FirstIs p m r' ok') : r = r' ∧ ok = ok' := by
  rcases h with ⟨rfl, c, rfl, h1, h2, h3⟩ | ⟨rfl, rfl, h3⟩ <;> rcases h' with ⟨rfl, d, rfl, k1, k2, k3⟩ | ⟨rfl, rfl, k3⟩
  · have : c = d := by
      rcases Nat.lt_trichotomy c d with e | e | e
      · rw [k3 c e] at h2; cases h2
      · exact e
      · rw [h3 d e] at k2; cases k2
    exact ⟨by rw [this], rfl⟩
  · rw [k3 c h1] at h2; cases h2
  · rw [h3 d k1] at k2; cases k2
  · exact ⟨rfl, rfl⟩
theorem FirstIs.congr {p q : Nat → Bool} {m : Nat} {r : Int} {ok : Bool} (h : FirstIs p m r ok) (e : ∀ c, c < m → p c = q c) : FirstIs q m r ok := by
  rcases h with ⟨rfl, c, rfl, h1, h2, h3⟩ | ⟨rfl, rfl, h3⟩
  · exact .inl ⟨rfl, c, rfl, h1, by rw [← e c h1]; exact h2, fun d hd => by rw [← e d (Nat.lt_trans hd h1)]; exact h3 d hd⟩
  · exact .inr ⟨rfl, rfl, fun d hd => by rw [← e d hd]; exact h3 d hd⟩
/-- the same as one number: -1 for none -/
def FirstN (p : Nat → Bool) (m : Nat) (r : Int) : Prop :=
  (∃ c : Nat, r = c ∧ c < m ∧ p c = true ∧ ∀ d, d < c → p d = false) ∨ (r = -1 ∧ ∀ d, d < m → p d = false)
theorem FirstN.is {p : Nat → Bool} {m : Nat} {r : Int} (h : FirstN p m r) : FirstIs p m (if r < 0 then 0 else r) (decide (0 ≤ r)) := by
  rcases h with ⟨c, rfl, h⟩ | ⟨rfl, h⟩
  · rw [if_neg (by omega)]
    exact .inl ⟨by simp, c, rfl, h⟩
  · exact .inr ⟨by simp, by simp, h⟩
theorem find_no {zs : List Int} {n : Int} (h : restOk zs n = false) (m : Nat) : FirstIs (findP zs n) m 0 false := .inr ⟨rfl, rfl, fun d _ => by simp [findP, h]⟩
theorem just_no {zs : List Int} {n : Int} (k : Int) (h : restOk zs n = false) (m : Nat) : FirstIs (justP zs n k) m 0 false := .inr ⟨rfl, rfl, fun d _ => by simp [justP, h]⟩
theorem l8_find {zs : List Int} {n : Int} (h : restOk zs n = true) (c : Nat) : l8P zs n (-1) c = findP zs n c := by
  rw [Bool.eq_iff_iff]
  simp [l8P, findP, h]
  omega
theorem l8_just {zs : List Int} {n k : Int} (hk : 0 ≤ k) (h : restOk zs n = true) (c : Nat) : l8P zs n k c = justP zs n k c := by
  rw [Bool.eq_iff_iff]
  simp [l8P, justP, h]
  omega
theorem none_succ {p : Nat → Bool} {c : Nat} (h : ∀ d, d < c → p d = false) (hc : p c = false) : ∀ d, d < c + 1 → p d = false := fun d hd => by
  rcases Nat.lt_or_ge d c with e | e
  · exact h d e
  · obtain rfl : d = c := by omega
    exact hc
theorem l8P_of (zs : List Int) (n k : Int) (c : Nat) : l8P zs n k c = true ↔ csum zs c % n = 0 ∧ ((k < 0 ∧ 0 < c) ∨ (0 ≤ k ∧ (popc c : Int) = k)) := by simp [l8P]
theorem l8P_not (zs : List Int) (n k : Int) (c : Nat) : l8P zs n k c = false ↔ ¬ (csum zs c % n = 0 ∧ ((k < 0 ∧ 0 < c) ∨ (0 ≤ k ∧ (popc c : Int) = k))) := by rw [← l8P_of]; simp
end Go.Proofs.YtdpapalfafjncaaGreatDoor
