/- Parts of a choice, and families of parts no two of which have a common place, in plain words. Conditions: none. -/
import Derived.Test.YtmggcfilkiklbaaM12
namespace Go.Proofs.Ytmggcfilkiklbaa
/-- p is a part of c -/
def Sub (p c : Nat) : Prop := ∀ i, p.testBit i = true → c.testBit i = true
theorem Sub.refl (c : Nat) : Sub c c := fun _ h => h
theorem Sub.trans {a b c : Nat} (h : Sub a b) (k : Sub b c) : Sub a c := fun i hi => k i (h i hi)
theorem Sub.zero (c : Nat) : Sub 0 c := fun i h => by simp at h
theorem sub_iff (p c : Nat) : Sub p c ↔ p &&& c = p := by
  constructor
  · intro h
    apply Nat.eq_of_testBit_eq
    intro i
    rw [Nat.testBit_and]
    rcases e : p.testBit i with _ | _
    · simp
    · simp [h i e]
  · intro h i hi
    have : (p &&& c).testBit i = true := by rw [h]; exact hi
    rw [Nat.testBit_and] at this
    simp at this
    exact this.2
theorem Sub.half {p c : Nat} (h : Sub p c) : Sub (p / 2) (c / 2) := fun i hi => by
  rw [← Nat.testBit_succ] at hi ⊢
  exact h _ hi
theorem Sub.low {p c : Nat} (h : Sub p c) : p % 2 ≤ c % 2 := by
  have := h 0
  rw [Nat.testBit_zero, Nat.testBit_zero, decide_eq_true_eq, decide_eq_true_eq] at this
  omega
theorem Sub.of {p c : Nat} (h1 : p % 2 ≤ c % 2) (h2 : Sub (p / 2) (c / 2)) : Sub p c := fun i hi => by
  cases i with
  | zero =>
    rw [Nat.testBit_zero, decide_eq_true_eq] at hi ⊢
    omega
  | succ i =>
    rw [Nat.testBit_succ] at hi ⊢
    exact h2 i hi
theorem Sub.le : ∀ {c p : Nat}, Sub p c → p ≤ c
  | 0, p, h => by
    have : p = 0 := by
      have h1 := (sub_iff p 0).1 h
      rw [Nat.and_zero] at h1
      exact h1.symm
    omega
  | c + 1, p, h => by
    have h1 := h.low
    have h2 : p / 2 ≤ (c + 1) / 2 := Sub.le h.half
    omega
theorem sub_tb : ∀ {c p : Nat}, Sub p c → ∀ i, (c - p).testBit i = (c.testBit i && !p.testBit i)
  | 0, p, h, i => by
    have : p = 0 := by have := h.le; omega
    subst this; simp
  | c + 1, p, h, i => by
    have h1 := h.low
    have h2 := h.half.le
    cases i with
    | zero =>
      rw [Nat.testBit_zero, Nat.testBit_zero, Nat.testBit_zero, Bool.eq_iff_iff]
      simp only [decide_eq_true_eq, Bool.and_eq_true, Bool.not_eq_true', decide_eq_false_iff_not]
      omega
    | succ i =>
      rw [Nat.testBit_succ, Nat.testBit_succ, Nat.testBit_succ, show (c + 1 - p) / 2 = (c + 1) / 2 - p / 2 by omega]
      exact sub_tb h.half i
theorem and_half (a b : Nat) : (a &&& b) / 2 = a / 2 &&& b / 2 := by
  apply Nat.eq_of_testBit_eq
  intro i
  rw [← Nat.testBit_succ, Nat.testBit_and, Nat.testBit_and, Nat.testBit_succ, Nat.testBit_succ]
theorem sub_pred : ∀ {m p s : Nat}, Sub p m → Sub s m → s < p → s ≤ (p - 1) &&& m
  | 0, p, s, h, _, h3 => by have := h.le; omega
  | m + 1, p, s, h1, h2, h3 => by
    have a1 := h1.low
    have a2 := h2.low
    have b1 : ((p - 1) &&& (m + 1)) / 2 = (p - 1) / 2 &&& (m + 1) / 2 := and_half _ _
    have b2 : ((p - 1) &&& (m + 1)) % 2 = ((p - 1) % 2) &&& ((m + 1) % 2) := by
      have := Nat.and_mod_two_pow (a := p - 1) (b := m + 1) (n := 1)
      simpa using this
    rcases Nat.mod_two_eq_zero_or_one p with e | e
    · have ih := sub_pred h1.half h2.half (show s / 2 < p / 2 by omega)
      have c1 : (p - 1) % 2 = 1 := by omega
      have c2 : (p - 1) / 2 = p / 2 - 1 := by omega
      rw [c1] at b2
      rw [c2] at b1
      have b3 : 1 &&& (m + 1) % 2 = (m + 1) % 2 := by
        rcases Nat.mod_two_eq_zero_or_one (m + 1) with e | e <;> rw [e] <;> rfl
      omega
    · have c1 : (p - 1) % 2 = 0 := by omega
      have c2 : (p - 1) / 2 = p / 2 := by omega
      have c3 : p / 2 &&& (m + 1) / 2 = p / 2 := (sub_iff _ _).1 h1.half
      rw [c1, Nat.zero_and] at b2
      rw [c2, c3] at b1
      omega
theorem pred_sub (p m : Nat) : Sub ((p - 1) &&& m) m := fun i h => by
  rw [Nat.testBit_and] at h; simp at h; exact h.2
theorem pred_lt (p m : Nat) (h : 0 < p) : (p - 1) &&& m < p := by
  have := Nat.and_le_left (n := p - 1) (m := m)
  omega
/-- c without p, as the machine computes it -/
theorem andNot_sub {p c : Nat} (h : Sub p c) (hc : c < 18446744073709551616) : c &&& (18446744073709551615 - p) = c - p := by
  have hs : Sub p (18446744073709551616 - 1) := fun i hi => by
    have : p < 2 ^ 64 := Nat.lt_of_le_of_lt h.le (by omega)
    have e : (18446744073709551616 - 1 : Nat) = 2 ^ 64 - 1 := rfl
    rw [e, Nat.testBit_two_pow_sub_one, decide_eq_true_eq]
    refine Nat.lt_of_not_le fun hle => ?_
    have hf := Nat.testBit_lt_two_pow (x := p) (i := i) (Nat.lt_of_lt_of_le this (Nat.pow_le_pow_right (by omega) hle))
    rw [hf] at hi; cases hi
  apply Nat.eq_of_testBit_eq
  intro i
  rw [Nat.testBit_and, sub_tb h, show (18446744073709551615 : Nat) = 18446744073709551616 - 1 from rfl, sub_tb hs]
  rcases e : c.testBit i with _ | _
  · simp
  · have : i < 64 := by
      refine Nat.lt_of_not_le fun hle => ?_
      have hf := Nat.testBit_lt_two_pow (x := c) (i := i) (Nat.lt_of_lt_of_le (show c < 2 ^ 64 from hc) (Nat.pow_le_pow_right (by omega) hle))
      rw [hf] at e; cases e
    rw [show (18446744073709551616 - 1 : Nat) = 2 ^ 64 - 1 from rfl, Nat.testBit_two_pow_sub_one]
    simp [this]
theorem csum_sub (zs : List Int) : ∀ {p c : Nat}, Sub p c → csum zs c = csum zs p + csum zs (c - p) := by
  induction zs with
  | nil => intro p c _; simp [csum]
  | cons x xs ih =>
    intro p c h
    have h1 := h.low
    have h2 := h.half.le
    rw [csum_cons, csum_cons, csum_cons, ih h.half, show (c - p) / 2 = c / 2 - p / 2 by omega]
    have e : (c - p) % 2 = c % 2 - p % 2 := by omega
    generalize csum xs (p / 2) = A
    generalize csum xs (c / 2 - p / 2) = B
    rcases Nat.mod_two_eq_zero_or_one c with e1 | e1 <;> rcases Nat.mod_two_eq_zero_or_one p with e2 | e2 <;> simp [e, e1, e2] <;> omega
theorem Sub.compl {p c : Nat} (h : Sub p c) : Sub (c - p) c := fun i hi => by
  rw [sub_tb h] at hi; simp at hi; exact hi.1
theorem Sub.sub_of {p c d : Nat} (h : Sub p c) (k : Sub c d) : Sub (c - p) (d - p) := fun i hi => by
  rw [sub_tb h] at hi
  rw [sub_tb (h.trans k)]
  simp at hi ⊢
  exact ⟨k i hi.1, hi.2⟩
/-- k parts of c with Q, no two with a common place -/
inductive Fam (Q : Nat → Prop) : Nat → Nat → Prop
  | zero (c : Nat) : Fam Q c 0
  | step {c p k : Nat} : p ≠ 0 → Sub p c → Q p → Fam Q (c - p) k → Fam Q c (k + 1)
theorem Fam.mono {Q : Nat → Prop} {c k : Nat} (h : Fam Q c k) : ∀ {d : Nat}, Sub c d → Fam Q d k := by
  induction h with
  | zero c => intro d _; exact .zero d
  | step h0 h1 h2 _ ih => intro d hd; exact .step h0 (h1.trans hd) h2 (ih (h1.sub_of hd))
/-- k is the most -/
def IsMost (Q : Nat → Prop) (c k : Nat) : Prop := Fam Q c k ∧ ∀ j, Fam Q c j → j ≤ k
theorem IsMost.unique {Q : Nat → Prop} {c k l : Nat} (h : IsMost Q c k) (h' : IsMost Q c l) : k = l := by
  have := h.2 l h'.1
  have := h'.2 k h.1
  omega
end Go.Proofs.Ytmggcfilkiklbaa
