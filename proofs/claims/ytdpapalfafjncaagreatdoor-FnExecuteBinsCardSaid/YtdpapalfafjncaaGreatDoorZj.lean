/- Parts of a choice, and families of parts no two of which have a common place, in plain words. Conditions: none. What the loops over parts have found so far, in plain words. Conditions: none. Ahead of it: Families of parts: how both programs find the most, and what the laws say, in plain words. Conditions: none. Lists put in order by exchanges, in plain words. Conditions: none. Ahead of it: Tables of the most, filled choice by choice. Conditions: none. Sums of choices, whatever the order; lists whose sums have no gap; in plain words. Conditions: none. The greedy rest and the rest of differences, in plain words. Conditions: stated in each. Bins filled by a rule, in plain words: which bin is chosen, what the bins hold, and what holds of them. Conditions: stated in each. The least number of bins, in plain words: over parts of a choice, over numbers put one by one, and that both are the same. Conditions: stated in each. -/
import Derived.Test.YtdpapalfafjncaaGreatDoorZf
import Derived.Test.YtdpapalfafjncaaGreatDoorZg
set_option linter.unusedVariables false
set_option linter.unusedSimpArgs false
set_option linter.unusedSectionVars false
namespace Go.Proofs.YtdpapalfafjncaaGreatDoor
/-- p is a part of c -/
def Sub (p c : Nat) : Prop := ∀ i, p.testBit i = true → c.testBit i = true
theorem Sub.refl (c : Nat) : Sub c c := fun _ h => h
theorem Sub.trans {a b c : Nat} (h : Sub a b) (k : Sub b c) : Sub a c := fun i hi => k i (h i hi)
theorem Sub.zero (c : Nat) : Sub 0 c := fun i h => by simp at h
theorem sub_iff (p c : Nat) : Sub p c ↔ p &&& c = p := by
  constructor
  · intro h
    apply Nat.eq_of_testBit_eq
    intro i
    rw [Nat.testBit_and]
    rcases e : p.testBit i with _ | _
    · simp
    · simp [h i e]
  · intro h i hi
    have : (p &&& c).testBit i = true := by rw [h]; exact hi
    rw [Nat.testBit_and] at this
    simp at this
    exact this.2
theorem Sub.half {p c : Nat} (h : Sub p c) : Sub (p / 2) (c / 2) := fun i hi => by
  rw [← Nat.testBit_succ] at hi ⊢
  exact h _ hi
theorem Sub.low {p c : Nat} (h : Sub p c) : p % 2 ≤ c % 2 := by
  have := h 0
  rw [Nat.testBit_zero, Nat.testBit_zero, decide_eq_true_eq, decide_eq_true_eq] at this
  omega
theorem Sub.of {p c : Nat} (h1 : p % 2 ≤ c % 2) (h2 : Sub (p / 2) (c / 2)) : Sub p c := fun i hi => by
  cases i with
  | zero =>
    rw [Nat.testBit_zero, decide_eq_true_eq] at hi ⊢
    omega
  | succ i =>
    rw [Nat.testBit_succ] at hi ⊢
    exact h2 i hi
theorem Sub.le : ∀ {c p : Nat}, Sub p c → p ≤ c
  | 0, p, h => by
    have : p = 0 := by
      have h1 := (sub_iff p 0).1 h
      rw [Nat.and_zero] at h1
      exact h1.symm
    omega
  | c + 1, p, h => by
    have h1 := h.low
    have h2 : p / 2 ≤ (c + 1) / 2 := Sub.le h.half
    omega
theorem sub_tb : ∀ {c p : Nat}, Sub p c → ∀ i, (c - p).testBit i = (c.testBit i && !p.testBit i)
  | 0, p, h, i => by
    have : p = 0 := by have := h.le; omega
    subst this; simp
  | c + 1, p, h, i => by
    have h1 := h.low
    have h2 := h.half.le
    cases i with
    | zero =>
      rw [Nat.testBit_zero, Nat.testBit_zero, Nat.testBit_zero, Bool.eq_iff_iff]
      simp only [decide_eq_true_eq, Bool.and_eq_true, Bool.not_eq_true', decide_eq_false_iff_not]
      omega
    | succ i =>
      rw [Nat.testBit_succ, Nat.testBit_succ, Nat.testBit_succ, show (c + 1 - p) / 2 = (c + 1) / 2 - p / 2 by omega]
      exact sub_tb h.half i
theorem and_half (a b : Nat) : (a &&& b) / 2 = a / 2 &&& b / 2 := by
  apply Nat.eq_of_testBit_eq
  intro i
  rw [← Nat.testBit_succ, Nat.testBit_and, Nat.testBit_and, Nat.testBit_succ, Nat.testBit_succ]
theorem sub_pred : ∀ {m p s : Nat}, Sub p m → Sub s m → s < p → s ≤ (p - 1) &&& m
  | 0, p, s, h, _, h3 => by have := h.le; omega
  | m + 1, p, s, h1, h2, h3 => by
    have a1 := h1.low
    have a2 := h2.low
    have b1 : ((p - 1) &&& (m + 1)) / 2 = (p - 1) / 2 &&& (m + 1) / 2 := and_half _ _
    have b2 : ((p - 1) &&& (m + 1)) % 2 = ((p - 1) % 2) &&& ((m + 1) % 2) := by
      have := Nat.and_mod_two_pow (a := p - 1) (b := m + 1) (n := 1)
      simpa using this
    rcases Nat.mod_two_eq_zero_or_one p with e | e
    · have ih := sub_pred h1.half h2.half (show s / 2 < p / 2 by omega)
      have c1 : (p - 1) % 2 = 1 := by omega
      have c2 : (p - 1) / 2 = p / 2 - 1 := by omega
      rw [c1] at b2
      rw [c2] at b1
      have b3 : 1 &&& (m + 1) % 2 = (m + 1) % 2 := by
        rcases Nat.mod_two_eq_zero_or_one (m + 1) with e | e <;> rw [e] <;> rfl
      omega
    · have c1 : (p - 1) % 2 = 0 := by omega
      have c2 : (p - 1) / 2 = p / 2 := by omega
      have c3 : p / 2 &&& (m + 1) / 2 = p / 2 := (sub_iff _ _).1 h1.half
      rw [c1, Nat.zero_and] at b2
      rw [c2, c3] at b1
      omega
theorem pred_sub (p m : Nat) : Sub ((p - 1) &&& m) m := fun i h => by
  rw [Nat.testBit_and] at h; simp at h; exact h.2
theorem pred_lt (p m : Nat) (h : 0 < p) : (p - 1) &&& m < p := by
  have := Nat.and_le_left (n := p - 1) (m := m)
  omega
/-- c without p, as the machine computes it -/
theorem andNot_sub {p c : Nat} (h : Sub p c) (hc : c < 18446744073709551616) : c &&& (18446744073709551615 - p) = c - p := by
  have hs : Sub p (18446744073709551616 - 1) := fun i hi => by
    have : p < 2 ^ 64 := Nat.lt_of_le_of_lt h.le (by omega)
    have e : (18446744073709551616 - 1 : Nat) = 2 ^ 64 - 1 := rfl
    rw [e, Nat.testBit_two_pow_sub_one, decide_eq_true_eq]
    refine Nat.lt_of_not_le fun hle => ?_
    have hf := Nat.testBit_lt_two_pow (x := p) (i := i) (Nat.lt_of_lt_of_le this (Nat.pow_le_pow_right (by omega) hle))
    rw [hf] at hi; cases hi
  apply Nat.eq_of_testBit_eq
  intro i
  rw [Nat.testBit_and, sub_tb h, show (18446744073709551615 : Nat) = 18446744073709551616 - 1 from rfl, sub_tb hs]
  rcases e : c.testBit i with _ | _
  · simp
  · have : i < 64 := by
      refine Nat.lt_of_not_le fun hle => ?_
      have hf := Nat.testBit_lt_two_pow (x := c) (i := i) (Nat.lt_of_lt_of_le (show c < 2 ^ 64 from hc) (Nat.pow_le_pow_right (by omega) hle))
      rw [hf] at e; cases e
    rw [show (18446744073709551616 - 1 : Nat) = 2 ^ 64 - 1 from rfl, Nat.testBit_two_pow_sub_one]
    simp [this]
theorem csum_sub (zs : List Int) : ∀ {p c : Nat}, Sub p c → csum zs c = csum zs p + csum zs (c - p) := by
  induction zs with
  | nil => intro p c _; simp [csum]
  | cons x xs ih =>
    intro p c h
    have h1 := h.low
    have h2 := h.half.le
    rw [csum_cons, csum_cons, csum_cons, ih h.half, show (c - p) / 2 = c / 2 - p / 2 by omega]
    have e : (c - p) % 2 = c % 2 - p % 2 := by omega
    generalize csum xs (p / 2) = A
    generalize csum xs (c / 2 - p / 2) = B
    rcases Nat.mod_two_eq_zero_or_one c with e1 | e1 <;> rcases Nat.mod_two_eq_zero_or_one p with e2 | e2 <;> simp [e, e1, e2] <;> omega
theorem Sub.compl {p c : Nat} (h : Sub p c) : Sub (c - p) c := fun i hi => by
  rw [sub_tb h] at hi; simp at hi; exact hi.1
theorem Sub.sub_of {p c d : Nat} (h : Sub p c) (k : Sub c d) : Sub (c - p) (d - p) := fun i hi => by
  rw [sub_tb h] at hi
  rw [sub_tb (h.trans k)]
  simp at hi ⊢
  exact ⟨k i hi.1, hi.2⟩
/-- k parts of c with Q, no two with a common place -/
inductive Fam (Q : Nat → Prop) : Nat → Nat → Prop
  | zero (c : Nat) : Fam Q c 0
  | step {c p k : Nat} : p ≠ 0 → Sub p c → Q p → Fam Q (c - p) k → Fam Q c (k + 1)
theorem Fam.mono {Q : Nat → Prop} {c k : Nat} (h : Fam Q c k) : ∀ {d : Nat}, Sub c d → Fam Q d k := by
  induction h with
  | zero c => intro d _; exact .zero d
  | step h0 h1 h2 _ ih => intro d hd; exact .step h0 (h1.trans hd) h2 (ih (h1.sub_of hd))
/-- k is the most -/
def IsMost (Q : Nat → Prop) (c k : Nat) : Prop := Fam Q c k ∧ ∀ j, Fam Q c j → j ≤ k
theorem IsMost.unique {Q : Nat → Prop} {c k l : Nat} (h : IsMost Q c k) (h' : IsMost Q c l) : k = l := by
  have := h.2 l h'.1
  have := h'.2 k h.1
  omega
end Go.Proofs.YtdpapalfafjncaaGreatDoor
namespace Go.Proofs.YtdpapalfafjncaaGreatDoor
theorem most_of {Q : Nat → Prop} {c v : Nat} (h0 : Fam Q c v) (h : ∀ p, p ≠ 0 → Sub p c → Q p → ∀ k, Fam Q (c - p) k → k + 1 ≤ v) : IsMost Q c v :=
  ⟨h0, fun j hj => by
    cases hj with
    | zero => omega
    | step a b d e => exact h _ a b d _ e⟩
theorem tb_bit (j i : Nat) : (2 ^ j).testBit i = true ↔ i = j := by
  rw [Nat.testBit_two_pow, decide_eq_true_eq]; exact eq_comm
theorem sub_bit {j c : Nat} (h : c.testBit j = true) : Sub (2 ^ j) c := fun i hi => by
  rw [tb_bit] at hi; subst hi; exact h
theorem has_bit {c : Nat} (h : c ≠ 0) : ∃ i, c.testBit i = true := Nat.exists_testBit_of_ne_zero h
theorem sub_minus {p l c : Nat} (h : Sub p c) (hl : Sub l c) (hd : ∀ i, p.testBit i = true → l.testBit i = true → False) : Sub p (c - l) := fun i hi => by
  rw [sub_tb hl]
  have := h i hi
  rcases e : l.testBit i with _ | _
  · simp [this]
  · exact (hd i hi e).elim
/-- the reference's way: leave a place out, or all places are used -/
theorem fam_spec {Q : Nat → Prop} (hQ : ∀ p c, Sub p c → Q p → Q (c - p) → Q c) (hQ0 : Q 0) {c k : Nat} (h : Fam Q c k) :
    k = 0 ∨ (∃ i, c.testBit i = true ∧ Fam Q (c - 2 ^ i) k) ∨ (Q c ∧ ∃ s, Sub s c ∧ s ≠ c ∧ Q s ∧ Fam Q s (k - 1)) := by
  induction h with
  | zero c => exact .inl rfl
  | @step c p k h0 h1 h2 hk ih =>
    refine .inr ?_
    rcases ih with rfl | ⟨i, hi, hf⟩ | ⟨hq, s, hs, hne, hqs, hf⟩
    · by_cases e : p = c
      · subst e; exact .inr ⟨h2, 0, Sub.zero _, fun e => h0 e.symm, hQ0, .zero _⟩
      · obtain ⟨i, hi⟩ := has_bit (c := c - p) (by have := h1.le; omega)
        rw [sub_tb h1] at hi
        simp at hi
        exact .inl ⟨i, hi.1, .step h0 (sub_minus h1 (sub_bit hi.1) (fun t ht hl => by rw [tb_bit] at hl; subst hl; rw [hi.2] at ht; cases ht)) h2 (.zero _)⟩
    · rw [sub_tb h1] at hi
      simp at hi
      exact .inl ⟨i, hi.1, .step h0 (sub_minus h1 (sub_bit hi.1) (fun t ht hl => by rw [tb_bit] at hl; subst hl; rw [hi.2] at ht; cases ht)) h2 (by rw [Nat.sub_right_comm]; exact hf)⟩
    · exact .inr ⟨hQ p c h1 h2 hq, c - p, h1.compl, by have := h1.le; omega, hq, hk⟩
/-- the program's way: the last place is left out, or stands in a part -/
theorem fam_impl {Q : Nat → Prop} {j : Nat} {c k : Nat} (h : Fam Q c k) (hj : c.testBit j = true) :
    Fam Q (c - 2 ^ j) k ∨ (∃ s, Sub s (c - 2 ^ j) ∧ Q (s + 2 ^ j) ∧ 1 ≤ k ∧ Fam Q (c - 2 ^ j - s) (k - 1)) := by
  induction h with
  | zero c => exact .inl (.zero _)
  | @step c p k h0 h1 h2 hk ih =>
    have hl := sub_bit hj
    rcases e : p.testBit j with _ | _
    · have hd : ∀ i, p.testBit i = true → (2 ^ j).testBit i = true → False := fun i hi hl => by
        rw [tb_bit] at hl; subst hl; rw [e] at hi; cases hi
      have hj2 : (c - p).testBit j = true := by rw [sub_tb h1, hj, e]; rfl
      rcases ih hj2 with hf | ⟨s, hs, hq, hk1, hf⟩
      · exact .inl (.step h0 (sub_minus h1 hl hd) h2 (by rw [Nat.sub_right_comm]; exact hf))
      · have hs2 : Sub s (c - 2 ^ j) := hs.trans (by rw [Nat.sub_right_comm]; exact (sub_minus h1 hl hd).compl)
        refine .inr ⟨s, hs2, hq, by omega, ?_⟩
        obtain ⟨k', rfl⟩ : ∃ k', k = k' + 1 := ⟨k - 1, by omega⟩
        refine .step h0 (sub_minus (sub_minus h1 hl hd) hs2 (fun i hi hsi => ?_)) h2 ?_
        · have := hs i hsi
          rw [sub_tb (sub_bit hj2), sub_tb h1] at this
          simp at this
          rw [this.1.2] at hi; cases hi
        · have e2 : c - 2 ^ j - s - p = c - p - 2 ^ j - s := by omega
          rw [e2]; exact hf
    · have hp := sub_bit e
      have h3 := hp.le
      have h4 := h1.le
      refine .inr ⟨p - 2 ^ j, hp.sub_of h1, by rw [Nat.sub_add_cancel h3]; exact h2, by omega, ?_⟩
      have e2 : c - 2 ^ j - (p - 2 ^ j) = c - p := by omega
      rw [e2]; exact hk
theorem popN_sub : ∀ (f : Nat) {p c : Nat}, Sub p c → popN f c = popN f p + popN f (c - p)
  | 0, _, _, _ => rfl
  | f + 1, p, c, h => by
    have h1 := h.low
    have h2 := h.half.le
    rw [popN, popN, popN, popN_sub f h.half, show (c - p) / 2 = c / 2 - p / 2 by omega]
    omega
theorem fam_pop {Q : Nat → Prop} {c k : Nat} (h : Fam Q c k) (hc : c < 2 ^ 20) : k ≤ popc c := by
  induction h with
  | zero c => omega
  | @step c p k h0 h1 h2 hk ih =>
    have a := h1.le
    have b := ih (by omega)
    have d := popN_sub 20 h1
    have e := popN_pos 20 p (by omega) (by omega)
    unfold popc at *
    omega
theorem fam_len {Q : Nat → Prop} {c k m : Nat} (h : Fam Q c k) (hc : c < 2 ^ m) (hm : m ≤ 20) : k ≤ m :=
  Nat.le_trans (fam_pop h (Nat.lt_of_lt_of_le hc (Nat.pow_le_pow_right (by omega) hm))) (popN_len _ _ _ hc)
/-- k parts of at least a size have k times the size -/
theorem fam_size {zs : List Int} {size : Int} {c k : Nat} (hg : good zs) (h : Fam (fun p => size ≤ csum zs p) c k) : (k : Int) * size ≤ csum zs c := by
  induction h with
  | zero c => have := csum_bd hg c; simp; omega
  | @step c p k h0 h1 h2 hk ih =>
    have a := csum_sub zs h1
    have e : ((k + 1 : Nat) : Int) * size = k * size + size := by rw [Int.natCast_add, Int.add_mul]; simp
    rw [e]
    have h2 : size ≤ csum zs p := h2
    omega
/-- the numbers themselves fill bins of size 1 -/
theorem fam_ones {zs : List Int} (hg : good zs) : ∀ m, m ≤ zs.length → Fam (fun p => 1 ≤ csum zs p) (2 ^ m - 1) m
  | 0, _ => .zero _
  | m + 1, h => by
    have hp := Nat.two_pow_pos m
    have e : 2 ^ (m + 1) - 1 - 2 ^ m = 2 ^ m - 1 := by rw [Nat.pow_succ]; omega
    refine .step (p := 2 ^ m) (by omega) (sub_bit ?_) ?_ (by rw [e]; exact fam_ones hg m (by omega))
    · rw [Nat.testBit_two_pow_sub_one, decide_eq_true_eq]; omega
    · have : 2 ^ m < 2 ^ zs.length := Nat.pow_lt_pow_right (by omega) (by omega)
      exact csum_pos hg _ hp this
end Go.Proofs.YtdpapalfafjncaaGreatDoor
namespace Go.Proofs.YtdpapalfafjncaaGreatDoor
theorem sub_full {p m : Nat} (h : p < 2 ^ m) : Sub p (2 ^ m - 1) := fun i hi => by
  rw [Nat.testBit_two_pow_sub_one, decide_eq_true_eq]
  refine Nat.lt_of_not_le fun hle => ?_
  have hf := Nat.testBit_lt_two_pow (x := p) (i := i) (Nat.lt_of_lt_of_le h (Nat.pow_le_pow_right (by omega) hle))
  rw [hf] at hi; cases hi
theorem lt_of_sub {p m : Nat} (h : Sub p (2 ^ m - 1)) : p < 2 ^ m := by
  have := h.le
  have := Nat.two_pow_pos m
  omega
theorem after_pred {c p s : Nat} (hp : Sub p c) (hs : Sub s c) (h : (p - 1) &&& c < s) : s = p ∨ p < s := by
  rcases Nat.lt_trichotomy s p with e | e | e
  · have := sub_pred hp hs e; omega
  · exact .inl e
  · exact .inr e
/-- parts above p have been tried -/
def Seen (Q : Nat → Prop) (c p v : Nat) : Prop := Fam Q c v ∧ ∀ s, s ≠ 0 → Sub s c → p < s → Q s → ∀ k, Fam Q (c - s) k → k + 1 ≤ v
theorem seen_start (Q : Nat → Prop) (c : Nat) : Seen Q c c 0 := ⟨.zero _, fun s _ hs hlt => by have := hs.le; omega⟩
theorem seen_hit {Q : Nat → Prop} {c p v t : Nat} (h : Seen Q c p v) (h0 : p ≠ 0) (hp : Sub p c) (hq : Q p) (ht : IsMost Q (c - p) t) : Seen Q c ((p - 1) &&& c) (max v (1 + t)) := by
  refine ⟨?_, fun s hs0 hs hlt hqs k hk => ?_⟩
  · rcases Nat.le_total v (1 + t) with e | e
    · rw [Nat.max_eq_right e, Nat.add_comm]; exact .step h0 hp hq ht.1
    · rw [Nat.max_eq_left e]; exact h.1
  · rcases after_pred hp hs hlt with rfl | hlt
    · have := ht.2 k hk; omega
    · have := h.2 s hs0 hs hlt hqs k hk; omega
theorem seen_miss {Q : Nat → Prop} {c p v : Nat} (h : Seen Q c p v) (hp : Sub p c) (hq : ¬ Q p) : Seen Q c ((p - 1) &&& c) v :=
  ⟨h.1, fun s hs0 hs hlt hqs k hk => by
    rcases after_pred hp hs hlt with rfl | hlt
    · exact (hq hqs).elim
    · exact h.2 s hs0 hs hlt hqs k hk⟩
theorem seen_end {Q : Nat → Prop} {c v : Nat} (h : Seen Q c 0 v) : IsMost Q c v := most_of h.1 (fun p h0 hp hq k hk => h.2 p h0 hp (by omega) hq k hk)
/-- the same for the parts before the last place -/
def SeenI (Q : Nat → Prop) (c l p v : Nat) : Prop := Fam Q c v ∧ (∀ k, Fam Q (c - l) k → k ≤ v) ∧ ∀ s, Sub s (c - l) → p < s → Q (s + l) → ∀ k, Fam Q (c - l - s) k → k + 1 ≤ v
theorem seenI_start {Q : Nat → Prop} {c l v : Nat} (hl : Sub l c) (h : IsMost Q (c - l) v) : SeenI Q c l (c - l) v :=
  ⟨h.1.mono hl.compl, h.2, fun s hs hlt => by have := hs.le; omega⟩
theorem seenI_fam {Q : Nat → Prop} {c l p t : Nat} (hl : Sub l c) (hl0 : l ≠ 0) (hp : Sub p (c - l)) (hq : Q (p + l)) (ht : Fam Q (c - l - p) t) : Fam Q c (t + 1) := by
  have h1 := hl.le
  have h2 := hp.le
  have h3 : Sub (c - l - p) c := hp.compl.trans hl.compl
  have h4 := h3.compl
  rw [show c - (c - l - p) = p + l by omega] at h4
  exact .step (by omega) h4 hq (by rw [show c - (p + l) = c - l - p by omega]; exact ht)
theorem seenI_hit {Q : Nat → Prop} {c l p v t : Nat} (h : SeenI Q c l p v) (hl : Sub l c) (hl0 : l ≠ 0) (hp : Sub p (c - l)) (hq : Q (p + l)) (ht : IsMost Q (c - l - p) t) : SeenI Q c l ((p - 1) &&& (c - l)) (max v (1 + t)) := by
  refine ⟨?_, fun k hk => by have := h.2.1 k hk; omega, fun s hs hlt hqs k hk => ?_⟩
  · rcases Nat.le_total v (1 + t) with e | e
    · rw [Nat.max_eq_right e, Nat.add_comm]; exact seenI_fam hl hl0 hp hq ht.1
    · rw [Nat.max_eq_left e]; exact h.1
  · rcases after_pred hp hs hlt with rfl | hlt
    · have := ht.2 k hk; omega
    · have := h.2.2 s hs hlt hqs k hk; omega
theorem seenI_miss {Q : Nat → Prop} {c l p v : Nat} (h : SeenI Q c l p v) (hp : Sub p (c - l)) (hq : ¬ Q (p + l)) : SeenI Q c l ((p - 1) &&& (c - l)) v :=
  ⟨h.1, h.2.1, fun s hs hlt hqs k hk => by
    rcases after_pred hp hs hlt with rfl | hlt
    · exact (hq hqs).elim
    · exact h.2.2 s hs hlt hqs k hk⟩
/-- after the part 0 all parts have been tried -/
theorem seenI_end_hit {Q : Nat → Prop} {c j v t : Nat} (h : SeenI Q c (2 ^ j) 0 v) (hj : c.testBit j = true) (hq : Q (0 + 2 ^ j)) (ht : IsMost Q (c - 2 ^ j) t) : IsMost Q c (max v (1 + t)) := by
  have hl := sub_bit hj
  have hl0 : 2 ^ j ≠ 0 := by have := Nat.two_pow_pos j; omega
  refine ⟨?_, fun k hk => ?_⟩
  · rcases Nat.le_total v (1 + t) with e | e
    · rw [Nat.max_eq_right e, Nat.add_comm]; exact seenI_fam hl hl0 (Sub.zero _) hq (by simpa using ht.1)
    · rw [Nat.max_eq_left e]; exact h.1
  · rcases fam_impl hk hj with hf | ⟨s, hs, hqs, hk1, hf⟩
    · have := h.2.1 k hf; omega
    · by_cases e : s = 0
      · subst e
        have := ht.2 _ hf; omega
      · have := h.2.2 s hs (by omega) hqs _ hf; omega
theorem seenI_end_miss {Q : Nat → Prop} {c j v : Nat} (h : SeenI Q c (2 ^ j) 0 v) (hj : c.testBit j = true) (hq : ¬ Q (0 + 2 ^ j)) : IsMost Q c v := by
  refine ⟨h.1, fun k hk => ?_⟩
  rcases fam_impl hk hj with hf | ⟨s, hs, hqs, hk1, hf⟩
  · exact h.2.1 k hf
  · by_cases e : s = 0
    · subst e; exact (hq hqs).elim
    · have := h.2.2 s hs (by omega) hqs _ hf; omega
/-- the reference: places below i have been left out -/
def SeenB (Q : Nat → Prop) (c i v : Nat) : Prop := Fam Q c v ∧ ∀ j, j < i → c.testBit j = true → ∀ k, Fam Q (c - 2 ^ j) k → k ≤ v
theorem seenB_start (Q : Nat → Prop) (c : Nat) : SeenB Q c 0 0 := ⟨.zero _, fun j hj => by omega⟩
theorem seenB_hit {Q : Nat → Prop} {c i v t : Nat} (h : SeenB Q c i v) (hi : c.testBit i = true) (ht : IsMost Q (c - 2 ^ i) t) : SeenB Q c (i + 1) (max v t) := by
  refine ⟨?_, fun j hj hb k hk => ?_⟩
  · rcases Nat.le_total v t with e | e
    · rw [Nat.max_eq_right e]; exact ht.1.mono (sub_bit hi).compl
    · rw [Nat.max_eq_left e]; exact h.1
  · by_cases e : j = i
    · subst e; have := ht.2 k hk; omega
    · have := h.2 j (by omega) hb k hk; omega
theorem seenB_miss {Q : Nat → Prop} {c i v : Nat} (h : SeenB Q c i v) (hi : c.testBit i = false) : SeenB Q c (i + 1) v :=
  ⟨h.1, fun j hj hb k hk => by
    by_cases e : j = i
    · subst e; rw [hi] at hb; cases hb
    · exact h.2 j (by omega) hb k hk⟩
/-- the reference: parts above p have been tried as what is left -/
def SeenS (Q : Nat → Prop) (c p v : Nat) : Prop := Fam Q c v ∧ (∀ j, c.testBit j = true → ∀ k, Fam Q (c - 2 ^ j) k → k ≤ v) ∧ ∀ s, Sub s c → s ≠ c → p < s → Q s → ∀ k, Fam Q s k → k + 1 ≤ v
theorem seenB_all {Q : Nat → Prop} {c m v : Nat} (hc : c < 2 ^ m) (h : SeenB Q c m v) : ∀ j, c.testBit j = true → ∀ k, Fam Q (c - 2 ^ j) k → k ≤ v := fun j hj k hk => by
  refine h.2 j (Nat.lt_of_not_le fun hle => ?_) hj k hk
  have hf := Nat.testBit_lt_two_pow (x := c) (i := j) (Nat.lt_of_lt_of_le hc (Nat.pow_le_pow_right (by omega) hle))
  rw [hf] at hj; cases hj
theorem seenS_start {Q : Nat → Prop} {c m v : Nat} (hc : c < 2 ^ m) (h : SeenB Q c m v) : SeenS Q c ((c - 1) &&& c) v :=
  ⟨h.1, seenB_all hc h, fun s hs hne hlt => by
    rcases after_pred (Sub.refl c) hs hlt with e | e
    · exact (hne e).elim
    · have := hs.le; omega⟩
theorem seenS_fam {Q : Nat → Prop} (hQ2 : ∀ p c, Sub p c → Q p → Q c → Q (c - p)) {c p t : Nat} (hc : Q c) (hp : Sub p c) (hne : p ≠ c) (hq : Q p) (ht : Fam Q p t) : Fam Q c (t + 1) := by
  have := hp.le
  refine .step (p := c - p) (by omega) hp.compl (hQ2 p c hp hq hc) ?_
  rw [show c - (c - p) = p by omega]; exact ht
theorem seenS_hit {Q : Nat → Prop} (hQ2 : ∀ p c, Sub p c → Q p → Q c → Q (c - p)) {c p v t : Nat} (h : SeenS Q c p v) (hc : Q c) (hp : Sub p c) (hne : p ≠ c) (hq : Q p) (ht : IsMost Q p t) : SeenS Q c ((p - 1) &&& c) (max v (t + 1)) := by
  refine ⟨?_, fun j hj k hk => by have := h.2.1 j hj k hk; omega, fun s hs hse hlt hqs k hk => ?_⟩
  · rcases Nat.le_total v (t + 1) with e | e
    · rw [Nat.max_eq_right e]; exact seenS_fam hQ2 hc hp hne hq ht.1
    · rw [Nat.max_eq_left e]; exact h.1
  · rcases after_pred hp hs hlt with rfl | hlt
    · have := ht.2 k hk; omega
    · have := h.2.2 s hs hse hlt hqs k hk; omega
theorem seenS_miss {Q : Nat → Prop} {c p v : Nat} (h : SeenS Q c p v) (hp : Sub p c) (hq : ¬ Q p) : SeenS Q c ((p - 1) &&& c) v :=
  ⟨h.1, h.2.1, fun s hs hse hlt hqs k hk => by
    rcases after_pred hp hs hlt with rfl | hlt
    · exact (hq hqs).elim
    · exact h.2.2 s hs hse hlt hqs k hk⟩
/-- after the part 0, which always is a multiple -/
theorem seenS_end {Q : Nat → Prop} (hQ : ∀ p c, Sub p c → Q p → Q (c - p) → Q c) (hQ2 : ∀ p c, Sub p c → Q p → Q c → Q (c - p)) (hQ0 : Q 0) {c v t : Nat} (h : SeenS Q c 0 v) (hc : Q c) (hne : c ≠ 0) (ht : IsMost Q 0 t) : IsMost Q c (max v (t + 1)) := by
  refine ⟨?_, fun k hk => ?_⟩
  · rcases Nat.le_total v (t + 1) with e | e
    · rw [Nat.max_eq_right e]; exact seenS_fam hQ2 hc (Sub.zero _) (fun e => hne e.symm) hQ0 ht.1
    · rw [Nat.max_eq_left e]; exact h.1
  · rcases fam_spec hQ hQ0 hk with e | ⟨i, hi, hf⟩ | ⟨_, s, hs, hse, hqs, hf⟩
    · omega
    · have := h.2.1 i hi k hf; omega
    · by_cases e : s = 0
      · subst e
        have := ht.2 _ hf; omega
      · have := h.2.2 s hs hse (by omega) hqs _ hf; omega
theorem seenB_end {Q : Nat → Prop} (hQ : ∀ p c, Sub p c → Q p → Q (c - p) → Q c) (hQ0 : Q 0) {c m v : Nat} (hc : c < 2 ^ m) (h : SeenB Q c m v) (hq : ¬ Q c) : IsMost Q c v := by
  refine ⟨h.1, fun k hk => ?_⟩
  rcases fam_spec hQ hQ0 hk with e | ⟨i, hi, hf⟩ | ⟨hqc, _⟩
  · omega
  · exact seenB_all hc h i hi k hf
  · exact (hq hqc).elim
theorem most_zero (Q : Nat → Prop) : IsMost Q 0 0 := ⟨.zero _, fun j hj => by
  cases hj with
  | zero => omega
  | step h0 h1 _ _ => have := h1.le; omega⟩
theorem most_pos {Q : Nat → Prop} {c k : Nat} (h : IsMost Q c k) : 0 < k ↔ ∃ p, p ≠ 0 ∧ Sub p c ∧ Q p := by
  constructor
  · intro hk
    have h1 := h.1
    cases h1 with
    | zero => omega
    | step a b d _ => exact ⟨_, a, b, d⟩
  · rintro ⟨p, h0, h1, h2⟩
    have := h.2 1 (.step h0 h1 h2 (.zero _))
    omega
/-- the property of RestParts -/
def mulP (zs : List Int) (n : Int) (p : Nat) : Prop := csum zs p % n = 0
theorem mulP_zero (zs : List Int) (n : Int) : mulP zs n 0 := by rw [mulP, csum_zero]; exact Int.zero_emod _
theorem mulP_add {zs : List Int} {n : Int} : ∀ p c, Sub p c → mulP zs n p → mulP zs n (c - p) → mulP zs n c := fun p c h h1 h2 => by
  unfold mulP at *
  rw [csum_sub zs h, Int.add_emod, h1, h2]; simp
theorem mulP_sub {zs : List Int} {n : Int} : ∀ p c, Sub p c → mulP zs n p → mulP zs n c → mulP zs n (c - p) := fun p c h h1 h2 => by
  unfold mulP at *
  have e := csum_sub zs h
  rw [show csum zs (c - p) = csum zs c - csum zs p by omega, Int.sub_emod, h1, h2]; simp
theorem csum_shift : ∀ (m : Nat) (zs : List Int) (q : Nat), csum zs (q * 2 ^ m) = csum (zs.drop m) q
  | 0, zs, q => by simp
  | m + 1, [], q => by simp [csum]
  | m + 1, x :: xs, q => by
    have e : q * 2 ^ (m + 1) = 2 * (q * 2 ^ m) := by rw [Nat.pow_succ, ← Nat.mul_assoc, Nat.mul_comm]
    rw [e, csum_cons, if_neg (by omega), show 2 * (q * 2 ^ m) / 2 = q * 2 ^ m by omega, csum_shift m xs q, List.drop_succ_cons, Int.zero_add]
theorem high_bits : ∀ (m q i : Nat), (q * 2 ^ m).testBit i = true → m ≤ i
  | 0, _, _, _ => Nat.zero_le _
  | m + 1, q, i, h => by
    have e : q * 2 ^ (m + 1) = 2 * (q * 2 ^ m) := by rw [Nat.pow_succ, ← Nat.mul_assoc, Nat.mul_comm]
    rw [e] at h
    cases i with
    | zero => rw [Nat.testBit_zero, decide_eq_true_eq] at h; omega
    | succ i =>
      rw [Nat.testBit_succ, show 2 * (q * 2 ^ m) / 2 = q * 2 ^ m by omega] at h
      have := high_bits m q i h
      omega
theorem fam_blocks {n : Nat} (hn : 1 ≤ n ∧ n ≤ 6) (zs : List Int) : ∀ j, j * n ≤ zs.length → Fam (mulP zs n) (2 ^ (j * n) - 1) j
  | 0, _ => .zero _
  | j + 1, h => by
    have e : (j + 1) * n = j * n + n := Nat.succ_mul j n
    have ih := fam_blocks hn zs j (by omega)
    rw [e]
    generalize j * n = m at *
    have hbl : ((zs.drop m).take n).length = n := by rw [List.length_take, List.length_drop]; omega
    obtain ⟨q, hq0, hq1, hq2, _⟩ := dav hn ((zs.drop m).take n) (by omega)
    rw [hbl] at hq1
    have hs : csum zs (q * 2 ^ m) = csum ((zs.drop m).take n) q := by
      rw [csum_shift, csum_take_low (zs.drop m) n q (by rw [List.length_drop]; omega) hq1]
    have hp := Nat.two_pow_pos m
    have hlt : q * 2 ^ m < 2 ^ (m + n) := by
      rw [Nat.pow_add, Nat.mul_comm]
      exact Nat.mul_lt_mul_of_pos_left hq1 hp
    have hsf := sub_full hlt
    refine .step (p := q * 2 ^ m) (by have := Nat.mul_pos hq0 hp; omega) hsf (by rw [mulP, hs]; exact hq2) (ih.mono (sub_minus (sub_full ?_) hsf (fun i hi hqi => ?_)))
    · have : 2 ^ m ≤ 2 ^ (m + n) := Nat.pow_le_pow_right (by omega) (by omega)
      omega
    · have := high_bits m q i hqi
      rw [Nat.testBit_two_pow_sub_one, decide_eq_true_eq] at hi
      omega
theorem full_mono {m l : Nat} (h : m ≤ l) : Sub (2 ^ m - 1) (2 ^ l - 1) := by
  refine sub_full ?_
  have : 2 ^ m ≤ 2 ^ l := Nat.pow_le_pow_right (by omega) h
  have := Nat.two_pow_pos m
  omega
/-- what RestParts says -/
theorem parts_law {n : Nat} (hn : 1 ≤ n ∧ n ≤ 6) {zs : List Int} (hl : zs.length ≤ 20) {k : Nat} (h : IsMost (mulP zs n) (2 ^ zs.length - 1) k) : zs.length / n ≤ k ∧ k ≤ zs.length := by
  have hp := Nat.two_pow_pos zs.length
  refine ⟨h.2 _ ((fam_blocks hn zs _ (Nat.div_mul_le_self _ _)).mono (full_mono (Nat.div_mul_le_self _ _))), fam_len h.1 (by omega) hl⟩
end Go.Proofs.YtdpapalfafjncaaGreatDoor
namespace Go.Proofs.YtdpapalfafjncaaGreatDoor
theorem getD_set' (L : List Int) (j t : Nat) (y : Int) (h : j < L.length) : (L.set j y)[t]?.getD 0 = if t = j then y else L[t]?.getD 0 := by
  rw [List.getElem?_set]
  by_cases e : j = t
  · subst e; simp [h]
  · rw [if_neg e, if_neg (fun e' => e e'.symm)]
/-- below c all is found, from c on nothing -/
def Tab0 (Q : Nat → Prop) (T : List Int) (c : Nat) : Prop := (∀ d, d < c → ∃ k : Nat, T[d]?.getD 0 = k ∧ IsMost Q d k) ∧ ∀ d, c ≤ d → T[d]?.getD 0 = 0
/-- below c all is found, behind c nothing, at c v -/
def Tab (Q : Nat → Prop) (T : List Int) (c v : Nat) : Prop := (∀ d, d < c → ∃ k : Nat, T[d]?.getD 0 = k ∧ IsMost Q d k) ∧ (∀ d, c < d → T[d]?.getD 0 = 0) ∧ T[c]?.getD 0 = v
theorem tab0_start (Q : Nat → Prop) (P : Nat) : Tab0 Q (List.replicate P 0) 0 := ⟨fun d hd => by omega, fun d _ => by
  by_cases h : d < P
  · simp [h]
  · simp [h]⟩
theorem tab0_one (Q : Nat → Prop) (P : Nat) : Tab0 Q (List.replicate P 0) 1 := ⟨fun d hd => by
  obtain rfl : d = 0 := by omega
  exact ⟨0, by have := (tab0_start Q P).2 0 (by omega); simpa using this, most_zero Q⟩, fun d _ => (tab0_start Q P).2 d (by omega)⟩
theorem Tab0.tab {Q : Nat → Prop} {T : List Int} {c : Nat} (h : Tab0 Q T c) : Tab Q T c 0 := ⟨h.1, fun d hd => h.2 d (by omega), by have := h.2 c (by omega); simpa using this⟩
theorem Tab.put {Q : Nat → Prop} {T : List Int} {c v : Nat} (h : Tab Q T c v) (hc : c < T.length) (x : Nat) : Tab Q (T.set c (x : Int)) c x :=
  ⟨fun d hd => by rw [getD_set' _ _ _ _ hc, if_neg (by omega)]; exact h.1 d hd, fun d hd => by rw [getD_set' _ _ _ _ hc, if_neg (by omega)]; exact h.2.1 d hd, by rw [getD_set' _ _ _ _ hc, if_pos rfl]⟩
theorem Tab.next {Q : Nat → Prop} {T : List Int} {c v : Nat} (h : Tab Q T c v) (hm : IsMost Q c v) : Tab0 Q T (c + 1) :=
  ⟨fun d hd => by
    by_cases e : d = c
    · subst e; exact ⟨v, h.2.2, hm⟩
    · exact h.1 d (by omega), fun d hd => h.2.1 d (by omega)⟩
end Go.Proofs.YtdpapalfafjncaaGreatDoor
namespace Go.Proofs.YtdpapalfafjncaaGreatDoor
/-- the numbers up to place i are in order, but the one at place j may stand too far behind -/
def Almost (le : Int → Int → Prop) (L : List Int) (i j : Nat) : Prop := ∀ p q, p < q → q ≤ i → q ≠ j → le (L[p]?.getD 0) (L[q]?.getD 0)
/-- the numbers before place i are in order -/
def InOrd (le : Int → Int → Prop) (L : List Int) (i : Nat) : Prop := ∀ p q, p < q → q < i → le (L[p]?.getD 0) (L[q]?.getD 0)
theorem inOrd_one (le : Int → Int → Prop) (L : List Int) : InOrd le L 1 := fun p q h1 h2 => by omega
theorem InOrd.start {le : Int → Int → Prop} {L : List Int} {i : Nat} (h : InOrd le L i) : Almost le L i i := fun p q h1 h2 h3 => h p q h1 (by omega)
theorem Almost.done {le : Int → Int → Prop} (ht : ∀ a b c, le a b → le b c → le a c) {L : List Int} {i j : Nat} (h : Almost le L i j) (hj : j = 0 ∨ le (L[j - 1]?.getD 0) (L[j]?.getD 0)) : InOrd le L (i + 1) := fun p q h1 h2 => by
  by_cases e : q = j
  · subst e
    rcases hj with h0 | hle
    · omega
    · by_cases e2 : p = q - 1
      · subst e2; exact hle
      · exact ht _ _ _ (h p (q - 1) (by omega) (by omega) (by omega)) hle
  · exact h p q h1 (by omega) e
/-- the exchange of places j and j - 1 -/
def swapJ (L : List Int) (j : Nat) : List Int := (L.set j (L[j - 1]?.getD 0)).set (j - 1) (L[j]?.getD 0)
theorem swapJ_length (L : List Int) (j : Nat) : (swapJ L j).length = L.length := by simp [swapJ]
theorem swapJ_get {L : List Int} {j : Nat} (hj : 1 ≤ j) (hl : j < L.length) (t : Nat) : (swapJ L j)[t]?.getD 0 = if t = j - 1 then L[j]?.getD 0 else if t = j then L[j - 1]?.getD 0 else L[t]?.getD 0 := by
  rw [swapJ, getD_set' _ _ _ _ (by rw [List.length_set]; omega), getD_set' _ _ _ _ hl]
theorem Almost.swap {le : Int → Int → Prop} {L : List Int} {i j : Nat} (h : Almost le L i j) (hj : 1 ≤ j) (hji : j ≤ i) (hl : j < L.length) (hle : le (L[j]?.getD 0) (L[j - 1]?.getD 0)) : Almost le (swapJ L j) i (j - 1) := fun p q h1 h2 h3 => by
  rw [swapJ_get hj hl, swapJ_get hj hl]
  by_cases e1 : q = j
  · subst e1
    rw [if_neg h3, if_pos rfl]
    by_cases e2 : p = q - 1
    · rw [if_pos e2]; exact hle
    · rw [if_neg e2, if_neg (by omega)]
      exact h p (q - 1) (by omega) (by omega) (by omega)
  · rw [if_neg h3, if_neg e1]
    by_cases e2 : p = j - 1
    · rw [if_pos e2]; exact h j q (by omega) h2 e1
    · rw [if_neg e2]
      by_cases e3 : p = j
      · rw [if_pos e3]; exact h (j - 1) q (by omega) h2 e1
      · rw [if_neg e3]; exact h p q h1 h2 e1
theorem swapJ_perm {L : List Int} {j : Nat} (hj : 1 ≤ j) (hl : j < L.length) : (swapJ L j).Perm L := by
  have h1 : j - 1 < L.length := by omega
  have e1 : L[j - 1]?.getD 0 = L[j - 1] := by simp [List.getElem?_eq_getElem h1]
  have e2 : L[j]?.getD 0 = L[j] := by simp [List.getElem?_eq_getElem hl]
  rw [swapJ, e1, e2]
  exact List.set_set_perm hl h1
/-- in order, as a whole -/
theorem inOrd_pair {le : Int → Int → Prop} {L : List Int} (h : InOrd le L L.length) : L.Pairwise le := by
  rw [List.pairwise_iff_getElem]
  intro p q hp hq hlt
  have := h p q hlt hq
  simpa [List.getElem?_eq_getElem hp, List.getElem?_eq_getElem hq] using this
theorem perm_eq {le : Int → Int → Prop} (ha : ∀ a b, le a b → le b a → a = b) : ∀ {L M : List Int}, L.Pairwise le → M.Pairwise le → L.Perm M → L = M
  | [], M, _, _, h => by rw [List.nil_perm.1 h]
  | x :: xs, [], _, _, h => by simp at h
  | x :: xs, y :: ys, h1, h2, h => by
    have hxy : x = y := by
      by_cases e : x = y
      · exact e
      · have m1 : y ∈ xs := by
          have : y ∈ x :: xs := h.symm.subset (List.mem_cons_self ..)
          rcases List.mem_cons.1 this with e2 | e2
          · exact (e e2.symm).elim
          · exact e2
        have m2 : x ∈ ys := by
          have : x ∈ y :: ys := h.subset (List.mem_cons_self ..)
          rcases List.mem_cons.1 this with e2 | e2
          · exact (e e2).elim
          · exact e2
        exact ha _ _ ((List.pairwise_cons.1 h1).1 y m1) ((List.pairwise_cons.1 h2).1 x m2)
    subst hxy
    rw [perm_eq ha (List.pairwise_cons.1 h1).2 (List.pairwise_cons.1 h2).2 (List.Perm.cons_inv h)]
theorem perm_good {L M : List Int} (h : L.Perm M) (hg : good M) : good L := fun x hx => hg x (h.subset hx)
theorem perm_tot {L M : List Int} (h : L.Perm M) : tot L = tot M := by
  induction h with
  | nil => rfl
  | cons x _ ih => rw [tot, tot, ih]
  | swap x y l => simp only [tot]; omega
  | trans _ _ ih1 ih2 => rw [ih1, ih2]
end Go.Proofs.YtdpapalfafjncaaGreatDoor
namespace Go.Proofs.YtdpapalfafjncaaGreatDoor
/-- v is a sum of a choice -/
inductive SubS : List Int → Int → Prop
  | nil : SubS [] 0
  | skip {x : Int} {xs : List Int} {v : Int} : SubS xs v → SubS (x :: xs) v
  | take {x : Int} {xs : List Int} {v : Int} : SubS xs v → SubS (x :: xs) (x + v)
theorem subS_of (zs : List Int) : ∀ c, SubS zs (csum zs c) := by
  induction zs with
  | nil => intro c; exact .nil
  | cons x xs ih =>
    intro c
    rw [csum_cons]
    by_cases e : c % 2 = 1
    · rw [if_pos e]; exact .take (ih _)
    · rw [if_neg e, Int.zero_add]; exact .skip (ih _)
theorem subS_is {zs : List Int} {v : Int} (h : SubS zs v) : ∃ c, c < 2 ^ zs.length ∧ csum zs c = v := by
  induction h with
  | nil => exact ⟨0, by simp, rfl⟩
  | @skip x xs v _ ih =>
    obtain ⟨c, hc, rfl⟩ := ih
    exact ⟨2 * c, by rw [List.length_cons, Nat.pow_succ]; omega, by rw [csum_cons, if_neg (by omega), show 2 * c / 2 = c by omega, Int.zero_add]⟩
  | @take x xs v _ ih =>
    obtain ⟨c, hc, rfl⟩ := ih
    exact ⟨2 * c + 1, by rw [List.length_cons, Nat.pow_succ]; omega, by rw [csum_cons, if_pos (by omega), show (2 * c + 1) / 2 = c by omega]⟩
theorem subS_perm {L M : List Int} (h : L.Perm M) : ∀ {v}, SubS L v → SubS M v := by
  induction h with
  | nil => intro v h; exact h
  | cons x _ ih =>
    intro v h
    cases h with
    | skip h => exact .skip (ih h)
    | take h => exact .take (ih h)
  | swap x y l =>
    intro v h
    cases h with
    | skip h =>
      cases h with
      | skip h => exact .skip (.skip h)
      | take h => exact .take (.skip h)
    | take h =>
      cases h with
      | skip h => exact .skip (.take h)
      | @take _ _ u h => rw [show y + (x + u) = x + (y + u) by omega]; exact .take (.take h)
  | trans _ _ ih1 ih2 => intro v h; exact ih2 (ih1 h)
theorem subS_append {A B : List Int} {v : Int} : SubS (A ++ B) v ↔ ∃ p q, SubS A p ∧ SubS B q ∧ v = p + q := by
  induction A generalizing v with
  | nil =>
    constructor
    · intro h; exact ⟨0, v, .nil, h, by omega⟩
    · rintro ⟨p, q, hp, hq, rfl⟩; cases hp; rw [Int.zero_add]; exact hq
  | cons x xs ih =>
    rw [List.cons_append]
    constructor
    · intro h
      cases h with
      | skip h => obtain ⟨p, q, hp, hq, rfl⟩ := ih.1 h; exact ⟨p, q, .skip hp, hq, rfl⟩
      | take h => obtain ⟨p, q, hp, hq, rfl⟩ := ih.1 h; exact ⟨x + p, q, .take hp, hq, by omega⟩
    · rintro ⟨p, q, hp, hq, rfl⟩
      cases hp with
      | skip hp => exact .skip (ih.2 ⟨_, q, hp, hq, rfl⟩)
      | @take _ _ u hp => rw [show x + u + q = x + (u + q) by omega]; exact .take (ih.2 ⟨u, q, hp, hq, rfl⟩)
theorem subS_bd {A : List Int} (hg : good A) {v : Int} (h : SubS A v) : 0 ≤ v ∧ v ≤ tot A := by
  obtain ⟨c, _, rfl⟩ := subS_is h
  exact csum_bd hg c
theorem subS_zero (A : List Int) : SubS A 0 := by
  have := subS_of A 0
  rwa [csum_zero] at this
theorem subS_tot (A : List Int) : SubS A (tot A) := by
  have := subS_of A (2 ^ A.length - 1)
  rwa [csum_full] at this
/-- a sum that is not 0 is at least each number's lower bound -/
theorem subS_min {B : List Int} {m v : Int} (hm : ∀ x ∈ B, m ≤ x) (hg : good B) (h : SubS B v) (hv : v ≠ 0) : m ≤ v := by
  induction h with
  | nil => exact (hv rfl).elim
  | skip _ ih => exact ih (fun x hx => hm x (List.mem_cons_of_mem _ hx)) (fun x hx => hg x (List.mem_cons_of_mem _ hx)) hv
  | take h _ =>
    have h1 := hm _ (List.mem_cons_self ..)
    have h2 := subS_bd (fun x hx => hg x (List.mem_cons_of_mem _ hx)) h
    omega
/-- all numbers up to the total are sums -/
def AllS (zs : List Int) : Prop := ∀ v, 0 ≤ v → v ≤ tot zs → SubS zs v
/-- no number is greater than all ahead of it and one -/
def stepOk (L : List Int) (k : Nat) : Prop := ∀ i, i < k → L[i]?.getD 0 ≤ tot (L.take i) + 1
theorem stepOk_all {L : List Int} (hg : good L) (h : stepOk L L.length) : AllS L := by
  have key : ∀ k, k ≤ L.length → AllS (L.take k) := by
    intro k
    induction k with
    | zero => intro _ v h1 h2; simp [tot] at h2; obtain rfl : v = 0 := by omega
              exact .nil
    | succ k ih =>
      intro hk v h1 h2
      have h3 := h k (by omega)
      have h4 := tot_take L k (by omega)
      have h5 := good_get hg k (by omega)
      have h6 := tot_bd (good_take hg k)
      rw [take_snoc L k (by omega), subS_append]
      by_cases e : v ≤ tot (L.take k)
      · exact ⟨v, 0, ih (by omega) v h1 e, .skip .nil, by omega⟩
      · have hx : SubS [L[k]?.getD 0] (L[k]?.getD 0 + 0) := .take .nil
        exact ⟨v - L[k]?.getD 0, _, ih (by omega) _ (by omega) (by omega), hx, by omega⟩
  have := key L.length (Nat.le_refl _)
  rwa [List.take_length] at this
theorem all_stepOk {L : List Int} (hg : good L) (hs : L.Pairwise (· ≤ ·)) (h : AllS L) : stepOk L L.length := by
  intro i hi
  refine Int.not_lt.1 fun hlt => ?_
  have hgt := good_take hg i
  have hgd : good (L.drop i) := fun x hx => hg x (List.mem_of_mem_drop hx)
  have h1 := tot_bd hgt
  have hsplit : tot (L.take i) + tot (L.drop i) = tot L := by rw [← tot_append, List.take_append_drop]
  have hd : L.drop i = L[i]?.getD 0 :: L.drop (i + 1) := by rw [List.drop_eq_getElem_cons hi, List.getElem?_eq_getElem hi]; rfl
  have hmin : ∀ x ∈ L.drop i, L[i]?.getD 0 ≤ x := by
    intro x hx
    have hp : (L.drop i).Pairwise (· ≤ ·) := hs.sublist (List.drop_sublist i L)
    rw [hd] at hx hp
    rcases List.mem_cons.1 hx with rfl | hx
    · exact Int.le_refl _
    · exact (List.pairwise_cons.1 hp).1 x hx
  have h2 : L[i]?.getD 0 ≤ tot (L.drop i) := by
    rw [hd, tot]
    have := tot_bd (a := L.drop (i + 1)) (fun x hx => hg x (List.mem_of_mem_drop hx))
    omega
  have h3 := h (tot (L.take i) + 1) (by omega) (by omega)
  rw [← List.take_append_drop i L, subS_append, List.take_append_drop] at h3
  obtain ⟨p, q, hp, hq, e⟩ := h3
  have h4 := subS_bd hgt hp
  have h5 : q ≠ 0 := by omega
  have h6 := subS_min hmin hgd hq h5
  omega
theorem allS_perm {L M : List Int} (h : L.Perm M) (ha : AllS L) : AllS M := fun v h1 h2 => subS_perm h (ha v h1 (by rw [perm_tot h]; exact h2))
/-- m is the least number that is no sum -/
def IsMiss (zs : List Int) (m : Int) : Prop := 1 ≤ m ∧ (∀ v, 0 ≤ v → v < m → SubS zs v) ∧ ¬ SubS zs m
theorem isMiss_bd {zs : List Int} (hg : good zs) {m : Int} (h : IsMiss zs m) : m ≤ tot zs + 1 := by
  refine Int.not_lt.1 fun hlt => ?_
  have h1 := h.2.1 (tot zs + 1) (by have := tot_bd hg; omega) hlt
  have := subS_bd hg h1
  omega
theorem isMiss_whole {zs : List Int} (hg : good zs) {m : Int} (h : IsMiss zs m) : m = tot zs + 1 ↔ AllS zs := by
  have hb := isMiss_bd hg h
  constructor
  · intro e v h1 h2; exact h.2.1 v h1 (by omega)
  · intro ha
    refine Int.le_antisymm hb (Int.not_lt.1 fun hlt => ?_)
    exact h.2.2 (ha m (by have := h.1; omega) (by omega))
end Go.Proofs.YtdpapalfafjncaaGreatDoor
namespace Go.Proofs.YtdpapalfafjncaaGreatDoor
/-- the greedy rule's two sums -/
def gl : List Int → Int → Int → Int × Int
  | [], f, s => (f, s)
  | x :: xs, f, s => if f ≤ s then gl xs (f + x) s else gl xs f (s + x)
def greedy (L : List Int) : Int := sz ((gl L 0 0).1 - (gl L 0 0).2)
theorem gl_sub (L : List Int) : ∀ f s, ∃ p, SubS L p ∧ (gl L f s).1 = f + p ∧ (gl L f s).2 = s + (tot L - p) := by
  induction L with
  | nil => intro f s; exact ⟨0, .nil, by simp [gl], by simp [gl, tot]⟩
  | cons x xs ih =>
    intro f s
    rw [gl]
    split
    · obtain ⟨p, h1, h2, h3⟩ := ih (f + x) s
      exact ⟨x + p, .take h1, by rw [h2]; omega, by rw [h3, tot]; omega⟩
    · obtain ⟨p, h1, h2, h3⟩ := ih f (s + x)
      exact ⟨p, .skip h1, h2, by rw [h3, tot]; omega⟩
theorem gl_bd (L : List Int) (M : Int) (hM : ∀ x ∈ L, 0 ≤ x ∧ x ≤ M) : ∀ f s, -M ≤ f - s ∧ f - s ≤ M → -M ≤ (gl L f s).1 - (gl L f s).2 ∧ (gl L f s).1 - (gl L f s).2 ≤ M := by
  induction L with
  | nil => intro f s h; exact h
  | cons x xs ih =>
    intro f s h
    have hx := hM x (List.mem_cons_self ..)
    have ih' := ih (fun y hy => hM y (List.mem_cons_of_mem _ hy))
    rw [gl]
    split
    · exact ih' _ _ (by omega)
    · exact ih' _ _ (by omega)
/-- what the laws say of a rest that signs have -/
theorem rest_law {zs : List Int} (hg : good zs) {p d : Int} (hp : SubS zs p) (hd : d = sz (tot zs - 2 * p)) : lr zs ≤ d ∧ (tot zs - d) % 2 = 0 ∧ 0 ≤ d ∧ d ≤ tot zs := by
  obtain ⟨c, hc, rfl⟩ := subS_is hp
  have h1 := (lr_least hg).2 c hc
  have h2 := restOf_bd hg c
  rw [restOf] at h1 h2
  rw [← hd] at h1 h2
  refine ⟨h1, ?_, h2.1, h2.2⟩
  rw [hd, sz]; omega
theorem greedy_law {zs L : List Int} (hg : good zs) (h : L.Perm zs) : lr zs ≤ greedy L ∧ (tot zs - greedy L) % 2 = 0 ∧ 0 ≤ greedy L ∧ greedy L ≤ tot zs ∧ greedy L ≤ gre zs := by
  obtain ⟨p, h1, h2, h3⟩ := gl_sub L 0 0
  have ht := perm_tot h
  have hl := rest_law hg (subS_perm h h1) (d := greedy L) (by rw [greedy, h2, h3, ht, sz, sz]; omega)
  have hb := gl_bd L (gre zs) (fun x hx => ⟨by have := hg x (h.subset hx); omega, gre_ge (h.subset hx)⟩) 0 0 (by have := gre_nn zs; omega)
  refine ⟨hl.1, hl.2.1, hl.2.2.1, hl.2.2.2, ?_⟩
  rw [greedy, sz]; omega
/-- v is a sum of all numbers with signs -/
inductive Sg : List Int → Int → Prop
  | nil : Sg [] 0
  | pos {x : Int} {xs : List Int} {v : Int} : Sg xs v → Sg (x :: xs) (x + v)
  | neg {x : Int} {xs : List Int} {v : Int} : Sg xs v → Sg (x :: xs) (v - x)
theorem sg_sub {L : List Int} {v : Int} (h : Sg L v) : ∃ p, SubS L p ∧ v = tot L - 2 * p := by
  induction h with
  | nil => exact ⟨0, .nil, rfl⟩
  | pos _ ih => obtain ⟨p, hp, rfl⟩ := ih; exact ⟨p, .skip hp, by rw [tot]; omega⟩
  | @neg x xs v _ ih => obtain ⟨p, hp, rfl⟩ := ih; exact ⟨x + p, .take hp, by rw [tot]; omega⟩
theorem sg_perm {L M : List Int} (h : L.Perm M) : ∀ {v}, Sg L v → Sg M v := by
  induction h with
  | nil => intro v h; exact h
  | cons x _ ih =>
    intro v h
    cases h with
    | pos h => exact .pos (ih h)
    | neg h => exact .neg (ih h)
  | swap x y l =>
    intro v h
    cases h with
    | pos h =>
      cases h with
      | @pos _ _ u h => rw [show y + (x + u) = x + (y + u) by omega]; exact .pos (.pos h)
      | @neg _ _ u h => rw [show y + (u - x) = y + u - x by omega]; exact .neg (.pos h)
    | neg h =>
      cases h with
      | @pos _ _ u h => rw [show x + u - y = x + (u - y) by omega]; exact .pos (.neg h)
      | @neg _ _ u h => rw [show u - x - y = u - y - x by omega]; exact .neg (.neg h)
  | trans _ _ ih1 ih2 => intro v h; exact ih2 (ih1 h)
theorem sg_step {x y : Int} {r M : List Int} (h : M.Perm ((x - y) :: r)) {v : Int} (hv : Sg M v) : Sg (x :: y :: r) v := by
  have h1 := sg_perm h hv
  cases h1 with
  | @pos _ _ u h => rw [show x - y + u = x + (u - y) by omega]; exact .pos (.neg h)
  | @neg _ _ u h => rw [show u - (x - y) = y + u - x by omega]; exact .neg (.pos h)
/-- numbers in falling order -/
def insD (x : Int) : List Int → List Int
  | [] => [x]
  | y :: ys => if y ≤ x then x :: y :: ys else y :: insD x ys
def sortD : List Int → List Int
  | [] => []
  | x :: xs => insD x (sortD xs)
theorem insD_perm (x : Int) (L : List Int) : (insD x L).Perm (x :: L) := by
  induction L with
  | nil => exact .refl _
  | cons y ys ih =>
    rw [insD]
    split
    · exact .refl _
    · exact (List.Perm.cons y ih).trans (.swap x y ys)
theorem sortD_perm (L : List Int) : (sortD L).Perm L := by
  induction L with
  | nil => exact .refl _
  | cons x xs ih => exact (insD_perm x _).trans (.cons x ih)
theorem insD_pair (x : Int) (L : List Int) (h : L.Pairwise (fun a b => b ≤ a)) : (insD x L).Pairwise (fun a b => b ≤ a) := by
  induction L with
  | nil => simp [insD]
  | cons y ys ih =>
    have h1 := List.pairwise_cons.1 h
    rw [insD]
    split
    · rename_i hle
      refine List.pairwise_cons.2 ⟨fun z hz => ?_, h⟩
      rcases List.mem_cons.1 hz with rfl | hz
      · exact hle
      · have := h1.1 z hz; omega
    · rename_i hlt
      refine List.pairwise_cons.2 ⟨fun z hz => ?_, ih h1.2⟩
      have := (insD_perm x ys).subset hz
      rcases List.mem_cons.1 this with rfl | hz
      · omega
      · exact h1.1 z hz
theorem sortD_pair (L : List Int) : (sortD L).Pairwise (fun a b => b ≤ a) := by
  induction L with
  | nil => exact .nil
  | cons x xs ih => exact insD_pair x _ ih
theorem sortD_is {L M : List Int} (h : M.Pairwise (fun a b => b ≤ a)) (hp : M.Perm L) : M = sortD L :=
  perm_eq (fun a b h1 h2 => by omega) h (sortD_pair L) (hp.trans (sortD_perm L).symm)
theorem sortD_congr {L M : List Int} (h : L.Perm M) : sortD L = sortD M := sortD_is (sortD_pair L) ((sortD_perm L).trans h)
theorem sortD_length (L : List Int) : (sortD L).length = L.length := (sortD_perm L).length_eq
/-- the rest of differences of a falling list -/
def diffs : Nat → List Int → Int
  | 0, _ => 0
  | _ + 1, [] => 0
  | _ + 1, [x] => x
  | n + 1, x :: y :: r => diffs n (sortD ((x - y) :: r))
theorem diffs_law : ∀ (n : Nat) (L : List Int) (M : Int), L.length ≤ n → L.Pairwise (fun a b => b ≤ a) → 0 ≤ M → (∀ x ∈ L, 0 ≤ x ∧ x ≤ M) → Sg L (diffs n L) ∧ 0 ≤ diffs n L ∧ diffs n L ≤ M
  | 0, L, M, h, _, hM, _ => by
    have : L = [] := List.eq_nil_of_length_eq_zero (by omega)
    subst this
    exact ⟨.nil, by simp [diffs], by simpa [diffs] using hM⟩
  | n + 1, [], M, _, _, hM, _ => ⟨.nil, by simp [diffs], by simpa [diffs] using hM⟩
  | n + 1, [x], M, _, _, _, hx => by
    have h1 := hx x (List.mem_cons_self ..)
    refine ⟨?_, by simpa [diffs] using h1.1, by simpa [diffs] using h1.2⟩
    have h2 : Sg [x] (x + 0) := .pos .nil
    simpa [diffs] using h2
  | n + 1, x :: y :: r, M, hl, hs, hM, hx => by
    have h1 := hx x (List.mem_cons_self ..)
    have h2 := hx y (List.mem_cons_of_mem _ (List.mem_cons_self ..))
    have h3 := (List.pairwise_cons.1 hs).1 y (List.mem_cons_self ..)
    have hp := sortD_perm ((x - y) :: r)
    have ih := diffs_law n (sortD ((x - y) :: r)) M (by rw [sortD_length]; simp at hl ⊢; omega) (sortD_pair _) hM (fun z hz => by
      have := hp.subset hz
      rcases List.mem_cons.1 this with rfl | hz
      · omega
      · exact hx z (List.mem_cons_of_mem _ (List.mem_cons_of_mem _ hz)))
    rw [diffs]
    exact ⟨sg_step hp ih.1, ih.2.1, ih.2.2⟩
/-- the answer of HalfDifferences -/
def dfR (zs : List Int) : Int := diffs zs.length (sortD zs)
theorem diffs_more {n : Nat} {L : List Int} (h : L.length ≤ n) : diffs (n + 1) L = diffs n L := by
  induction n generalizing L with
  | zero =>
    have : L = [] := List.eq_nil_of_length_eq_zero (by omega)
    subst this; rfl
  | succ n ih =>
    match L with
    | [] => rfl
    | [x] => rfl
    | x :: y :: r =>
      rw [diffs, diffs]
      exact ih (by rw [sortD_length]; simp at h ⊢; omega)
theorem dfR_law {zs : List Int} (hg : good zs) : lr zs ≤ dfR zs ∧ (tot zs - dfR zs) % 2 = 0 ∧ 0 ≤ dfR zs ∧ dfR zs ≤ tot zs ∧ dfR zs ≤ gre zs := by
  have hp := sortD_perm zs
  have h := diffs_law zs.length (sortD zs) (gre zs) (by rw [sortD_length]; exact Nat.le_refl _) (sortD_pair zs) (gre_nn zs) (fun x hx => ⟨by have := hg x (hp.subset hx); omega, gre_ge (hp.subset hx)⟩)
  obtain ⟨p, hps, e⟩ := sg_sub (sg_perm hp h.1)
  have hl := rest_law hg hps (d := dfR zs) (by rw [dfR, sz]; have := h.2.1; omega)
  exact ⟨hl.1, hl.2.1, hl.2.2.1, hl.2.2.2, h.2.2⟩
end Go.Proofs.YtdpapalfafjncaaGreatDoor
namespace Go.Proofs.YtdpapalfafjncaaGreatDoor

/-- one bin more is looked at: rule 0 takes the last one, 1 the first one, 2 the one with the least room, 3 the one with the greatest room -/
def chStep (r : Nat) (f : Nat → Int) (v : Int) (k : Nat) (c : Option Nat) : Option Nat :=
  if r = 0 then (if v ≤ f k then some k else none)
  else if v ≤ f k then
    match c with
    | none => some k
    | some j => if (r = 2 ∧ f k < f j) ∨ (r = 3 ∧ f j < f k) then some k else some j
  else c
def chs (r : Nat) (f : Nat → Int) (v : Int) : Nat → Option Nat
  | 0 => none
  | k + 1 => chStep r f v k (chs r f v k)
/-- what the reference has seen: by rule 0 nothing ahead of the last bin -/
def sch (r : Nat) (f : Nat → Int) (v : Int) (n k : Nat) : Option Nat := if r = 0 ∧ k < n then none else chs r f v k
theorem chs_some {r : Nat} {f : Nat → Int} {v : Int} : ∀ {k j : Nat}, chs r f v k = some j → j < k ∧ v ≤ f j := by
  intro k
  induction k with
  | zero => intro j h; cases h
  | succ k ih =>
    intro j h
    rw [chs] at h
    unfold chStep at h
    by_cases h0 : r = 0
    · rw [if_pos h0] at h
      by_cases h1 : v ≤ f k
      · rw [if_pos h1] at h; cases h; exact ⟨by omega, h1⟩
      · rw [if_neg h1] at h; cases h
    · rw [if_neg h0] at h
      by_cases h1 : v ≤ f k
      · rw [if_pos h1] at h
        cases hc : chs r f v k with
        | none => rw [hc] at h; cases h; exact ⟨by omega, h1⟩
        | some i =>
          rw [hc] at h
          simp only at h
          have := ih hc
          by_cases h2 : (r = 2 ∧ f k < f i) ∨ (r = 3 ∧ f i < f k)
          · rw [if_pos h2] at h; cases h; exact ⟨by omega, h1⟩
          · rw [if_neg h2] at h; cases h; exact ⟨by omega, this.2⟩
      · rw [if_neg h1] at h
        have := ih h
        exact ⟨by omega, this.2⟩
theorem chs_none {r : Nat} {f : Nat → Int} {v : Int} : ∀ {k : Nat}, chs r f v k = none → ∀ j, j < k → (r ≠ 0 ∨ j + 1 = k) → f j < v := by
  intro k
  induction k with
  | zero => intro _ j hj; omega
  | succ k ih =>
    intro h j hj hr
    rw [chs] at h
    unfold chStep at h
    by_cases h0 : r = 0
    · rw [if_pos h0] at h
      by_cases h1 : v ≤ f k
      · rw [if_pos h1] at h; cases h
      · obtain rfl : j = k := by omega
        omega
    · rw [if_neg h0] at h
      by_cases h1 : v ≤ f k
      · rw [if_pos h1] at h
        cases hc : chs r f v k with
        | none => rw [hc] at h; cases h
        | some i =>
          rw [hc] at h
          simp only at h
          by_cases h2 : (r = 2 ∧ f k < f i) ∨ (r = 3 ∧ f i < f k)
          · rw [if_pos h2] at h; cases h
          · rw [if_neg h2] at h; cases h
      · rw [if_neg h1] at h
        by_cases e : j = k
        · subst e; omega
        · exact ih h j (by omega) (.inl h0)
theorem chs_congr {r : Nat} {f g : Nat → Int} {v : Int} : ∀ {k : Nat}, (∀ j, j < k → f j = g j) → chs r f v k = chs r g v k := by
  intro k
  induction k with
  | zero => intro _; rfl
  | succ k ih =>
    intro h
    have hi := ih (fun j hj => h j (by omega))
    have hk := h k (by omega)
    rw [chs, chs, hi]
    cases hc : chs r g v k with
    | none => simp only [chStep, hk]
    | some i =>
      have := (chs_some hc).1
      simp only [chStep, hk, h i (by omega)]

/-- the room of bin k -/
def rm (size : Int) (bs : List (List Int)) (k : Nat) : Int := size - tot (bs[k]?.getD [])
/-- a number is put -/
def stepB (r : Nat) (size : Int) (bs : List (List Int)) (x : Int) : List (List Int) :=
  match chs r (rm size bs) x bs.length with
  | none => bs ++ [[x]]
  | some k => bs.set k (bs[k]?.getD [] ++ [x])
def byB (r : Nat) (size : Int) (xs : List Int) : List (List Int) := xs.foldl (stepB r size) []
theorem byB_nil (r : Nat) (size : Int) : byB r size [] = [] := rfl
theorem byB_take (r : Nat) (size : Int) (xs : List Int) (k : Nat) (hk : k < xs.length) : byB r size (xs.take (k + 1)) = stepB r size (byB r size (xs.take k)) (xs[k]?.getD 0) := by
  rw [byB, byB, List.take_add_one, List.getElem?_eq_getElem hk, List.foldl_append]
  rfl

theorem tot_app (a b : List Int) : tot (a ++ b) = tot a + tot b := by
  induction a with
  | nil => show tot b = 0 + tot b; omega
  | cons x xs ih => show x + tot (xs ++ b) = x + tot xs + tot b; omega
theorem tot_one (x : Int) : tot [x] = x := by show x + 0 = x; omega
/-- what holds of the bins -/
structure BinsOk (r : Nat) (size : Int) (bs : List (List Int)) : Prop where
  each : ∀ b ∈ bs, b ≠ [] ∧ good b ∧ tot b ≤ size
  pair : ∀ i k, k < i → i < bs.length → (r ≠ 0 ∨ k + 1 = i) → size < tot (bs[i]?.getD []) + tot (bs[k]?.getD [])
theorem good_tot {b : List Int} (h : good b) : 0 ≤ tot b := by
  induction b with
  | nil => exact Int.le_refl _
  | cons x xs ih =>
    have h1 := h x (List.mem_cons_self ..)
    have h2 := ih (fun y hy => h y (List.mem_cons_of_mem _ hy))
    show 0 ≤ x + tot xs
    omega
theorem good_pos {b : List Int} (h : good b) (hn : b ≠ []) : 1 ≤ tot b := by
  cases b with
  | nil => exact absurd rfl hn
  | cons x xs =>
    have h1 := h x (List.mem_cons_self ..)
    have h2 := good_tot (b := xs) (fun y hy => h y (List.mem_cons_of_mem _ hy))
    show 1 ≤ x + tot xs
    omega
theorem binsOk_nil (r : Nat) (size : Int) : BinsOk r size [] := ⟨(fun b hb => by cases hb), (fun i k _ h => absurd h (Nat.not_lt_zero _))⟩
theorem BinsOk.step {r : Nat} {size : Int} {bs : List (List Int)} (h : BinsOk r size bs) {x : Int} (hx : 1 ≤ x ∧ x ≤ 60) (hs : x ≤ size) : BinsOk r size (stepB r size bs x) := by
  have hgx : good [x] := fun y hy => by rw [List.mem_singleton.1 hy]; exact hx
  rw [stepB]
  cases hc : chs r (rm size bs) x bs.length with
  | none =>
    have hn := chs_none hc
    refine ⟨fun b hb => ?_, fun i k hki hi hr => ?_⟩
    · rcases List.mem_append.1 hb with hb | hb
      · exact h.each b hb
      · rw [List.mem_singleton.1 hb]
        exact ⟨by simp, hgx, by rw [tot_one]; exact hs⟩
    · show size < tot ((bs ++ [[x]])[i]?.getD []) + tot ((bs ++ [[x]])[k]?.getD [])
      change i < (bs ++ [[x]]).length at hi
      rw [List.length_append, List.length_singleton] at hi
      by_cases hi2 : i < bs.length
      · rw [List.getElem?_append_left hi2, List.getElem?_append_left (by omega)]
        exact h.pair i k hki hi2 hr
      · obtain rfl : i = bs.length := by omega
        have hk := hn k hki (by omega)
        rw [List.getElem?_append_right (Nat.le_refl _), List.getElem?_append_left hki, Nat.sub_self]
        show size < tot [x] + _
        rw [tot_one]
        rw [rm] at hk
        omega
  | some j =>
    obtain ⟨hj, hv⟩ := chs_some hc
    rw [rm] at hv
    have hmem : bs[j]?.getD [] ∈ bs := by rw [List.getElem?_eq_getElem hj]; exact List.getElem_mem _
    have hbj := h.each _ hmem
    have hge : ∀ t, t < bs.length → tot (bs[t]?.getD []) ≤ tot ((bs.set j (bs[j]?.getD [] ++ [x]))[t]?.getD []) := fun t ht => by
      by_cases e : j = t
      · subst e
        rw [List.getElem?_set_self hj]
        show _ ≤ tot (bs[j]?.getD [] ++ [x])
        rw [tot_app, tot_one]; omega
      · rw [List.getElem?_set_ne e]; exact Int.le_refl _
    refine ⟨fun b hb => ?_, fun i k hki hi hr => ?_⟩
    · change b ∈ bs.set j (bs[j]?.getD [] ++ [x]) at hb
      rcases List.mem_or_eq_of_mem_set hb with hb | rfl
      · exact h.each b hb
      · refine ⟨by simp, fun y hy => ?_, by rw [tot_app, tot_one]; omega⟩
        rcases List.mem_append.1 hy with hy | hy
        · exact hbj.2.1 y hy
        · exact hgx y hy
    · show size < tot ((bs.set j (bs[j]?.getD [] ++ [x]))[i]?.getD []) + tot ((bs.set j (bs[j]?.getD [] ++ [x]))[k]?.getD [])
      change i < (bs.set j (bs[j]?.getD [] ++ [x])).length at hi
      rw [List.length_set] at hi
      have h1 := h.pair i k hki hi hr
      have h2 := hge i hi
      have h3 := hge k (by omega)
      omega
theorem flat_set : ∀ (bs : List (List Int)) (k : Nat) (x : Int), k < bs.length → (bs.set k (bs[k]?.getD [] ++ [x])).flatten.Perm (bs.flatten ++ [x]) := by
  intro bs
  induction bs with
  | nil => intro k x h; simp at h
  | cons b bs ih =>
    intro k x h
    cases k with
    | zero =>
      show ((b ++ [x]) ++ bs.flatten).Perm (b ++ bs.flatten ++ [x])
      rw [List.append_assoc, List.append_assoc]
      exact List.Perm.append_left _ List.perm_append_comm
    | succ k =>
      have := ih k x (by simpa using h)
      show (b ++ (bs.set k (bs[k]?.getD [] ++ [x])).flatten).Perm (b ++ bs.flatten ++ [x])
      rw [List.append_assoc]
      exact List.Perm.append_left _ this
theorem stepB_flat (r : Nat) (size : Int) (bs : List (List Int)) (x : Int) : (stepB r size bs x).flatten.Perm (bs.flatten ++ [x]) := by
  rw [stepB]
  cases hc : chs r (rm size bs) x bs.length with
  | none => show (bs ++ [[x]]).flatten.Perm _; simp
  | some j => exact flat_set bs j x (chs_some hc).1
theorem stepB_len (r : Nat) (size : Int) (bs : List (List Int)) (x : Int) : bs.length ≤ (stepB r size bs x).length ∧ (stepB r size bs x).length ≤ bs.length + 1 := by
  rw [stepB]
  cases hc : chs r (rm size bs) x bs.length with
  | none => show _ ≤ (bs ++ [[x]]).length ∧ (bs ++ [[x]]).length ≤ _; simp
  | some j => show _ ≤ (bs.set j _).length ∧ (bs.set j _).length ≤ _; simp
theorem foldB {r : Nat} {size : Int} : ∀ (xs : List Int) (bs : List (List Int)), BinsOk r size bs → good xs → (∀ x ∈ xs, x ≤ size) →
    BinsOk r size (xs.foldl (stepB r size) bs) ∧ (xs.foldl (stepB r size) bs).flatten.Perm (bs.flatten ++ xs) ∧ (xs.foldl (stepB r size) bs).length ≤ bs.length + xs.length := by
  intro xs
  induction xs with
  | nil => intro bs h _ _; exact ⟨h, by simp, by simp⟩
  | cons x xs ih =>
    intro bs h hg hs
    have hx := hg x (List.mem_cons_self ..)
    obtain ⟨h1, h2, h3⟩ := ih (stepB r size bs x) (h.step hx (hs x (List.mem_cons_self ..))) (fun y hy => hg y (List.mem_cons_of_mem _ hy)) (fun y hy => hs y (List.mem_cons_of_mem _ hy))
    refine ⟨h1, ?_, ?_⟩
    · refine h2.trans ?_
      have := (stepB_flat r size bs x).append_right xs
      rw [List.append_assoc] at this
      exact this
    · have := (stepB_len r size bs x).2
      simp only [List.foldl_cons, List.length_cons] at *
      omega
theorem byB_ok {r : Nat} {size : Int} {xs : List Int} (hg : good xs) (hs : ∀ x ∈ xs, x ≤ size) : BinsOk r size (byB r size xs) ∧ (byB r size xs).flatten.Perm xs ∧ (byB r size xs).length ≤ xs.length := by
  have := foldB xs [] (binsOk_nil r size) hg hs
  refine ⟨this.1, by simpa [byB] using this.2.1, by simpa [byB] using this.2.2⟩
theorem rooms_sum (size : Int) : ∀ bs : List (List Int), tot (bs.map (fun b => size - tot b)) + tot bs.flatten = bs.length * size := by
  intro bs
  induction bs with
  | nil => simp [tot]
  | cons b bs ih =>
    show (size - tot b) + tot (bs.map (fun b => size - tot b)) + tot (b ++ bs.flatten) = ((bs.length + 1 : Nat) : Int) * size
    rw [tot_app, Int.natCast_add, Int.add_mul]
    omega
theorem flat_len : ∀ (bs : List (List Int)) (k : Nat), (bs[k]?.getD []).length ≤ bs.flatten.length := by
  intro bs
  induction bs with
  | nil => intro k; simp
  | cons b bs ih =>
    intro k
    cases k with
    | zero => simp
    | succ k => have := ih k; simp at this ⊢; omega
end Go.Proofs.YtdpapalfafjncaaGreatDoor
namespace Go.Proofs.YtdpapalfafjncaaGreatDoor

/-- a choice falls into so many parts, none empty, each with the property -/
inductive Cov (Q : Nat → Prop) : Nat → Nat → Prop
  | zero : Cov Q 0 0
  | step {c p k : Nat} : p ≠ 0 → Sub p c → Q p → Cov Q (c - p) k → Cov Q c (k + 1)
def IsFew (Q : Nat → Prop) (c k : Nat) : Prop := Cov Q c k ∧ ∀ j, Cov Q c j → k ≤ j
theorem cov_ones {Q : Nat → Prop} : ∀ (N c : Nat), c < 2 ^ N → (∀ j, c.testBit j = true → Q (2 ^ j)) → ∃ k, k ≤ N ∧ Cov Q c k
  | 0, c, h, _ => ⟨0, Nat.le_refl _, by obtain rfl : c = 0 := by simpa using h
                                        exact .zero⟩
  | N + 1, c, h, hQ => by
    by_cases hb : c.testBit N = true
    · have hs := sub_bit hb
      have hle := hs.le
      have hlt : c - 2 ^ N < 2 ^ N := by rw [Nat.pow_succ] at h; omega
      obtain ⟨k, hk, hC⟩ := cov_ones N (c - 2 ^ N) hlt (fun j hj => hQ j (hs.compl j hj))
      exact ⟨k + 1, by omega, .step (Nat.ne_of_gt (Nat.two_pow_pos N)) hs (hQ N hb) hC⟩
    · have hlt : c < 2 ^ N := by
        rcases Nat.lt_or_ge c (2 ^ N) with h1 | h1
        · exact h1
        · refine absurd ?_ hb
          rw [Nat.testBit_eq_decide_div_mod_eq]
          have h2 : c / 2 ^ N = 1 := by
            rw [Nat.pow_succ] at h
            have h3 : c < 2 * 2 ^ N := by omega
            have h4 : c / 2 ^ N < 2 := Nat.div_lt_of_lt_mul (by omega)
            have h5 : 1 ≤ c / 2 ^ N := (Nat.le_div_iff_mul_le (Nat.two_pow_pos N)).2 (by omega)
            omega
          rw [h2]; rfl
      obtain ⟨k, hk, hC⟩ := cov_ones N c hlt hQ
      exact ⟨k, by omega, hC⟩
/-- what the reference's loop has seen: the parts above p -/
def SeenF (Q : Nat → Prop) (N c p v : Nat) : Prop := (Cov Q c v ∨ v = N) ∧ v ≤ N ∧ ∀ s, s ≠ 0 → Sub s c → p < s → Q s → ∀ k, Cov Q (c - s) k → v ≤ k + 1
theorem seenF_start (Q : Nat → Prop) (N c : Nat) : SeenF Q N c c N := ⟨.inr rfl, Nat.le_refl _, fun s _ hs h => by have := hs.le; omega⟩
theorem seenF_hit {Q : Nat → Prop} {N c p v t : Nat} (h : SeenF Q N c p v) (h0 : p ≠ 0) (hp : Sub p c) (hq : Q p) (ht : IsFew Q (c - p) t) : SeenF Q N c ((p - 1) &&& c) (min v (1 + t)) := by
  obtain ⟨h1, h2, h3⟩ := h
  refine ⟨?_, by omega, fun s hs0 hs hlt hqs k hk => ?_⟩
  · by_cases e : v ≤ 1 + t
    · rw [Nat.min_eq_left e]; exact h1
    · rw [Nat.min_eq_right (by omega), Nat.add_comm]
      exact .inl (.step h0 hp hq ht.1)
  · rcases after_pred hp hs hlt with rfl | hps
    · have := ht.2 k hk; omega
    · have := h3 s hs0 hs hps hqs k hk; omega
theorem seenF_miss {Q : Nat → Prop} {N c p v : Nat} (h : SeenF Q N c p v) (hp : Sub p c) (hq : ¬ Q p) : SeenF Q N c ((p - 1) &&& c) v := by
  obtain ⟨h1, h2, h3⟩ := h
  refine ⟨h1, h2, fun s hs0 hs hlt hqs k hk => ?_⟩
  rcases after_pred hp hs hlt with rfl | hps
  · exact absurd hqs hq
  · exact h3 s hs0 hs hps hqs k hk
theorem seenF_end {Q : Nat → Prop} {N c v : Nat} (hc0 : c ≠ 0) (hc : c < 2 ^ N) (hQ : ∀ j, c.testBit j = true → Q (2 ^ j)) (h : SeenF Q N c 0 v) : IsFew Q c v := by
  obtain ⟨h1, h2, h3⟩ := h
  have hmin : ∀ j, Cov Q c j → v ≤ j := fun j hj => by
    cases hj with
    | zero => exact absurd rfl hc0
    | step hp0 hs hq hk => exact h3 _ hp0 hs (by omega) hq _ hk
  refine ⟨?_, hmin⟩
  rcases h1 with h1 | h1
  · exact h1
  · obtain ⟨k, hk, hC⟩ := cov_ones N c hc hQ
    have := hmin k hC
    obtain rfl : v = k := by omega
    exact hC
theorem few_zero (Q : Nat → Prop) : IsFew Q 0 0 := ⟨.zero, fun j _ => Nat.zero_le _⟩

/-- numbers are put one by one: into a bin with room, or into a new one; so many bins at the end -/
inductive Pk (size : Int) : List Int → List Int → Nat → Prop
  | nil {rooms : List Int} : Pk size [] rooms rooms.length
  | old {x : Int} {xs rooms : List Int} {i n : Nat} : i < rooms.length → x ≤ rooms[i]?.getD 0 → Pk size xs (rooms.set i (rooms[i]?.getD 0 - x)) n → Pk size (x :: xs) rooms n
  | new {x : Int} {xs rooms : List Int} {n : Nat} : Pk size xs (rooms ++ [size - x]) n → Pk size (x :: xs) rooms n
theorem pk_ge {size : Int} {xs rooms : List Int} {n : Nat} (h : Pk size xs rooms n) : rooms.length ≤ n := by
  induction h with
  | nil => exact Nat.le_refl _
  | old _ _ _ ih => rw [List.length_set] at ih; exact ih
  | new _ ih => rw [List.length_append, List.length_singleton] at ih; omega
/-- the least of what was had and what can be reached -/
def IsCut (S : Nat → Prop) (l l' : Nat) : Prop := l' ≤ l ∧ (l' = l ∨ S l') ∧ ∀ n, S n → l' ≤ n
theorem cut_skip {size : Int} {xs rooms : List Int} {l : Nat} (h : l ≤ rooms.length) : IsCut (Pk size xs rooms) l l := ⟨Nat.le_refl _, .inl rfl, fun n hn => Nat.le_trans h (pk_ge hn)⟩
theorem cut_nil {size : Int} {rooms : List Int} {l : Nat} (h : rooms.length < l) : IsCut (Pk size [] rooms) l rooms.length := ⟨by omega, .inr .nil, fun n hn => pk_ge hn⟩
/-- what has been tried: the bins ahead of i -/
def Old (size : Int) (x : Int) (xs rooms : List Int) (i n : Nat) : Prop := ∃ j, j < i ∧ j < rooms.length ∧ x ≤ rooms[j]?.getD 0 ∧ Pk size xs (rooms.set j (rooms[j]?.getD 0 - x)) n
theorem cut_start {size x : Int} {xs rooms : List Int} {l : Nat} : IsCut (Old size x xs rooms 0) l l := ⟨Nat.le_refl _, .inl rfl, fun n ⟨j, h, _⟩ => by omega⟩
theorem cut_hit {size x : Int} {xs rooms : List Int} {l l1 l2 i : Nat} (h : IsCut (Old size x xs rooms i) l l1) (hi : i < rooms.length) (hx : x ≤ rooms[i]?.getD 0) (h2 : IsCut (Pk size xs (rooms.set i (rooms[i]?.getD 0 - x))) l1 l2) : IsCut (Old size x xs rooms (i + 1)) l l2 := by
  obtain ⟨a1, a2, a3⟩ := h
  obtain ⟨b1, b2, b3⟩ := h2
  refine ⟨by omega, ?_, fun n ⟨j, h1, h2, h3, h4⟩ => ?_⟩
  · rcases b2 with rfl | b2
    · exact a2.imp id (fun ⟨j, h1, h2⟩ => ⟨j, by omega, h2⟩)
    · exact .inr ⟨i, by omega, hi, hx, b2⟩
  · by_cases e : j = i
    · subst e; exact b3 n h4
    · have := a3 n ⟨j, by omega, h2, h3, h4⟩; omega
theorem cut_miss {size x : Int} {xs rooms : List Int} {l l1 i : Nat} (h : IsCut (Old size x xs rooms i) l l1) (hx : ¬ x ≤ rooms[i]?.getD 0) : IsCut (Old size x xs rooms (i + 1)) l l1 := by
  obtain ⟨a1, a2, a3⟩ := h
  refine ⟨a1, a2.imp id (fun ⟨j, h1, h2⟩ => ⟨j, by omega, h2⟩), fun n ⟨j, h1, h2, h3, h4⟩ => ?_⟩
  by_cases e : j = i
  · subst e; exact absurd h3 hx
  · exact a3 n ⟨j, by omega, h2, h3, h4⟩
theorem cut_end {size x : Int} {xs rooms : List Int} {l l1 l2 : Nat} (h : IsCut (Old size x xs rooms rooms.length) l l1) (h2 : IsCut (Pk size xs (rooms ++ [size - x])) l1 l2) : IsCut (Pk size (x :: xs) rooms) l l2 := by
  obtain ⟨a1, a2, a3⟩ := h
  obtain ⟨b1, b2, b3⟩ := h2
  refine ⟨by omega, ?_, fun n hn => ?_⟩
  · rcases b2 with rfl | b2
    · exact a2.imp id (fun ⟨j, _, h2, h3, h4⟩ => .old h2 h3 h4)
    · exact .inr (.new b2)
  · cases hn with
    | old h1 h2 h3 => have := a3 n ⟨_, h1, h1, h2, h3⟩; omega
    | new h1 => exact b3 n h1

theorem rooms_at (size : Int) (bs : List (List Int)) (i : Nat) (h : i < bs.length) : (bs.map (fun b => size - tot b))[i]?.getD 0 = size - tot (bs[i]?.getD []) := by
  rw [List.getElem?_map, List.getElem?_eq_getElem h]; rfl
/-- so many lists, none empty, none too great, hold the numbers -/
def Bp (size : Int) (zs : List Int) (n : Nat) : Prop := ∃ bins : List (List Int), bins.length = n ∧ (∀ b ∈ bins, b ≠ [] ∧ tot b ≤ size) ∧ bins.flatten.Perm zs
theorem pk_bp {size : Int} {xs rooms : List Int} {n : Nat} (h : Pk size xs rooms n) : ∀ bins : List (List Int), bins.map (fun b => size - tot b) = rooms → (∀ b ∈ bins, b ≠ [] ∧ tot b ≤ size) → (∀ x ∈ xs, x ≤ size) →
    ∃ bs : List (List Int), bs.length = n ∧ (∀ b ∈ bs, b ≠ [] ∧ tot b ≤ size) ∧ bs.flatten.Perm (bins.flatten ++ xs) := by
  induction h with
  | nil => intro bins hb hok _; exact ⟨bins, by rw [← hb]; simp, hok, by simp⟩
  | @old x xs rooms i n hi hx _ ih =>
    intro bins hb hok hxs
    subst hb
    have hil : i < bins.length := by simpa using hi
    rw [rooms_at size bins i hil] at hx ih
    have hm : bins[i]?.getD [] ∈ bins := by rw [List.getElem?_eq_getElem hil]; exact List.getElem_mem _
    obtain ⟨bs, h1, h2, h3⟩ := ih (bins.set i (bins[i]?.getD [] ++ [x])) (by
      rw [List.map_set]
      congr 1
      rw [tot_app, tot_one]; omega) (fun b hb => by
        rcases List.mem_or_eq_of_mem_set hb with hb | rfl
        · exact hok b hb
        · exact ⟨by simp, by rw [tot_app, tot_one]; omega⟩) (fun y hy => hxs y (List.mem_cons_of_mem _ hy))
    refine ⟨bs, h1, h2, h3.trans ?_⟩
    refine ((flat_set bins i x hil).append_right xs).trans ?_
    rw [List.append_assoc]; rfl
  | @new x xs rooms n _ ih =>
    intro bins hb hok hxs
    subst hb
    obtain ⟨bs, h1, h2, h3⟩ := ih (bins ++ [[x]]) (by rw [List.map_append]; simp [tot]) (fun b hb => by
      rcases List.mem_append.1 hb with hb | hb
      · exact hok b hb
      · rw [List.mem_singleton.1 hb]
        exact ⟨by simp, by rw [tot_one]; exact hxs x (List.mem_cons_self ..)⟩) (fun y hy => hxs y (List.mem_cons_of_mem _ hy))
    refine ⟨bs, h1, h2, h3.trans ?_⟩
    rw [List.flatten_append]
    simp

theorem flat_erase : ∀ (rs : List (List Int)) (i : Nat) (x : Int), i < rs.length → x ∈ rs[i]?.getD [] → (x :: (rs.set i ((rs[i]?.getD []).erase x)).flatten).Perm rs.flatten := by
  intro rs
  induction rs with
  | nil => intro i x h; simp at h
  | cons b bs ih =>
    intro i x h hx
    cases i with
    | zero =>
      have := (List.perm_cons_erase (l := b) (a := x) (by simpa using hx)).symm.append_right bs.flatten
      simpa using this
    | succ i =>
      have := ih i x (by simpa using h) (by simpa using hx)
      show (x :: (b ++ (bs.set i ((bs[i]?.getD []).erase x)).flatten)).Perm (b ++ bs.flatten)
      exact (List.perm_middle.symm).trans (List.Perm.append_left b this)
theorem flat_out : ∀ (us : List (List Int)) (j : Nat), j < us.length → (us[j]?.getD [] ++ (us.eraseIdx j).flatten).Perm us.flatten := by
  intro us
  induction us with
  | nil => intro j h; simp at h
  | cons b bs ih =>
    intro j h
    cases j with
    | zero => simp
    | succ j =>
      have := ih j (by simpa using h)
      show (bs[j]?.getD [] ++ (b ++ (bs.eraseIdx j).flatten)).Perm (b ++ bs.flatten)
      refine List.Perm.trans ?_ (List.Perm.append_left b this)
      rw [← List.append_assoc, ← List.append_assoc]
      exact List.Perm.append_right _ List.perm_append_comm
theorem mem_flat {rs : List (List Int)} {x : Int} (h : x ∈ rs.flatten) : ∃ i, i < rs.length ∧ x ∈ rs[i]?.getD [] := by
  obtain ⟨b, hb, hx⟩ := List.mem_flatten.1 h
  obtain ⟨i, hi, rfl⟩ := List.getElem_of_mem hb
  exact ⟨i, hi, by rw [List.getElem?_eq_getElem hi]; exact hx⟩
theorem erase_tot {b : List Int} {x : Int} (h : x ∈ b) : tot b = x + tot (b.erase x) := perm_tot (List.perm_cons_erase h)
theorem pk_of {size : Int} : ∀ (xs rooms : List Int) (rs us : List (List Int)), rs.length = rooms.length → (∀ i, i < rs.length → tot (rs[i]?.getD []) ≤ rooms[i]?.getD 0) → (∀ b ∈ us, b ≠ [] ∧ tot b ≤ size) → good xs → (rs.flatten ++ us.flatten).Perm xs →
    Pk size xs rooms (rooms.length + us.length) := by
  intro xs
  induction xs with
  | nil =>
    intro rooms rs us _ _ hus _ hp
    have h0 := hp.eq_nil
    have h1 : us = [] := by
      cases us with
      | nil => rfl
      | cons b bs =>
        have h2 := (List.append_eq_nil_iff.1 h0).2
        rw [List.flatten_cons] at h2
        exact absurd (List.append_eq_nil_iff.1 h2).1 (hus b (List.mem_cons_self ..)).1
    subst h1
    exact .nil
  | cons x xs ih =>
    intro rooms rs us hl hr hus hg hp
    have hx := hg x (List.mem_cons_self ..)
    have hg' : good xs := fun y hy => hg y (List.mem_cons_of_mem _ hy)
    have hga : good (rs.flatten ++ us.flatten) := perm_good hp hg
    have hxm : x ∈ rs.flatten ++ us.flatten := hp.symm.subset (List.mem_cons_self ..)
    rcases List.mem_append.1 hxm with hxr | hxu
    · obtain ⟨i, hi, hxi⟩ := mem_flat hxr
      have hfe := flat_erase rs i x hi hxi
      have hte := erase_tot hxi
      have hge : good ((rs[i]?.getD []).erase x) := fun y hy => hga y (List.mem_append_left _ (List.mem_flatten.2 ⟨rs[i]?.getD [], by rw [List.getElem?_eq_getElem hi]; exact List.getElem_mem _, List.mem_of_mem_erase hy⟩))
      have ht0 := good_tot hge
      have hri := hr i hi
      have := ih (rooms.set i (rooms[i]?.getD 0 - x)) (rs.set i ((rs[i]?.getD []).erase x)) us (by simp [hl]) (fun j hj => by
        rw [List.length_set] at hj
        by_cases e : i = j
        · subst e
          rw [List.getElem?_set_self hi, List.getElem?_set_self (by omega)]
          show tot ((rs[i]?.getD []).erase x) ≤ rooms[i]?.getD 0 - x
          omega
        · rw [List.getElem?_set_ne e, List.getElem?_set_ne e]; exact hr j hj) hus hg' ((List.perm_cons x).1 (List.Perm.trans (hfe.append_right us.flatten) hp))
      rw [List.length_set] at this
      exact .old (by omega) (by omega) this
    · obtain ⟨j, hj, hxj⟩ := mem_flat hxu
      have hfo := flat_out us j hj
      have hte := erase_tot hxj
      have hmj : us[j]?.getD [] ∈ us := by rw [List.getElem?_eq_getElem hj]; exact List.getElem_mem _
      have huj := (hus _ hmj).2
      have hlen : (us.eraseIdx j).length = us.length - 1 := List.length_eraseIdx_of_lt hj
      have := ih (rooms ++ [size - x]) (rs ++ [(us[j]?.getD []).erase x]) (us.eraseIdx j) (by simp [hl]) (fun i hi => by
        rw [List.length_append, List.length_singleton] at hi
        by_cases e : i < rs.length
        · rw [List.getElem?_append_left e, List.getElem?_append_left (by omega)]; exact hr i e
        · obtain rfl : i = rs.length := by omega
          rw [List.getElem?_append_right (Nat.le_refl _), Nat.sub_self, hl, List.getElem?_append_right (Nat.le_refl _), Nat.sub_self]
          show tot ((us[j]?.getD []).erase x) ≤ size - x
          omega) (fun b hb => hus b (List.mem_of_mem_eraseIdx hb)) hg' ((List.perm_cons x).1 (by
            refine List.Perm.trans ?_ hp
            have h1 : (x :: ((us[j]?.getD []).erase x ++ (us.eraseIdx j).flatten)).Perm us.flatten := ((List.perm_cons_erase hxj).symm.append_right _).trans hfo
            have h2 : (rs.flatten ++ (x :: ((us[j]?.getD []).erase x ++ (us.eraseIdx j).flatten))).Perm (rs.flatten ++ us.flatten) := List.Perm.append_left _ h1
            refine List.Perm.trans ?_ h2
            rw [List.flatten_append, List.append_assoc]
            simpa using (List.perm_middle (l₁ := rs.flatten) (a := x) (l₂ := (us[j]?.getD []).erase x ++ (us.eraseIdx j).flatten)).symm))
      rw [List.length_append, List.length_singleton, hlen] at this
      rw [show rooms.length + us.length = rooms.length + 1 + (us.length - 1) by omega]
      exact .new this
theorem bp_pk {size : Int} {zs xs : List Int} {n : Nat} (hg : good xs) (hp : xs.Perm zs) (h : Bp size zs n) : Pk size xs [] n := by
  obtain ⟨bins, h1, h2, h3⟩ := h
  have := pk_of (size := size) xs [] [] bins rfl (fun i hi => by simp at hi) h2 hg (by simpa using h3.trans hp.symm)
  rw [List.length_nil, Nat.zero_add, h1] at this
  exact this

/-- the numbers at the places of a choice -/
def sel : List Int → Nat → List Int
  | [], _ => []
  | x :: xs, c => if c % 2 = 1 then x :: sel xs (c / 2) else sel xs (c / 2)
theorem sel_cons (x : Int) (xs : List Int) (c : Nat) : sel (x :: xs) c = if c % 2 = 1 then x :: sel xs (c / 2) else sel xs (c / 2) := rfl
theorem tot_sel : ∀ (zs : List Int) (c : Nat), tot (sel zs c) = csum zs c
  | [], c => rfl
  | x :: xs, c => by
    have ih := tot_sel xs (c / 2)
    rw [sel_cons, csum_cons]
    split
    · rw [tot, ih]
    · rw [ih]; omega
theorem sel_full : ∀ (zs : List Int), sel zs (2 ^ zs.length - 1) = zs
  | [] => rfl
  | x :: xs => by
    have h := Nat.two_pow_pos xs.length
    rw [sel_cons, List.length_cons, Nat.pow_succ, if_pos (by omega), show (2 ^ xs.length * 2 - 1) / 2 = 2 ^ xs.length - 1 by omega, sel_full xs]
theorem sel_zero : ∀ (zs : List Int), sel zs 0 = []
  | [] => rfl
  | x :: xs => by rw [sel_cons, if_neg (by decide)]; exact sel_zero xs
theorem sel_ne : ∀ (zs : List Int) (c : Nat), c < 2 ^ zs.length → c ≠ 0 → sel zs c ≠ []
  | [], c, h, h0 => by simp at h; omega
  | x :: xs, c, h, h0 => by
    rw [List.length_cons, Nat.pow_succ] at h
    rw [sel_cons]
    split
    · simp
    · exact sel_ne xs (c / 2) (by omega) (by omega)
theorem sub_minus_half {p c : Nat} (h : Sub p c) : (c - p) / 2 = c / 2 - p / 2 ∧ (c - p) % 2 = c % 2 - p % 2 := by
  have h1 := h.low
  have h2 := h.half.le
  omega
theorem sel_sub : ∀ (zs : List Int) {p c : Nat}, Sub p c → (sel zs p ++ sel zs (c - p)).Perm (sel zs c)
  | [], p, c, _ => by simp [sel]
  | x :: xs, p, c, h => by
    have ih := sel_sub xs h.half
    obtain ⟨h1, h2⟩ := sub_minus_half h
    have h3 := h.low
    rw [sel_cons, sel_cons, sel_cons, h1, h2]
    by_cases hp : p % 2 = 1
    · rw [if_pos hp, if_neg (by omega), if_pos (by omega)]
      exact List.Perm.cons x ih
    · rw [if_neg hp]
      by_cases hc : c % 2 = 1
      · rw [if_pos (by omega), if_pos hc]
        exact List.perm_middle.trans (List.Perm.cons x ih)
      · rw [if_neg (by omega), if_neg hc]; exact ih
theorem cov_bp {size : Int} {zs : List Int} {c k : Nat} (h : Cov (fun p => csum zs p ≤ size) c k) (hc : c < 2 ^ zs.length) :
    ∃ bins : List (List Int), bins.length = k ∧ (∀ b ∈ bins, b ≠ [] ∧ tot b ≤ size) ∧ bins.flatten.Perm (sel zs c) := by
  induction h with
  | zero => exact ⟨[], rfl, (fun b hb => by cases hb), by rw [sel_zero]; exact List.Perm.refl _⟩
  | @step c p k hp0 hs hq _ ih =>
    have hle := hs.le
    obtain ⟨bins, h1, h2, h3⟩ := ih (by omega)
    refine ⟨sel zs p :: bins, by simp [h1], fun b hb => ?_, ?_⟩
    · rcases List.mem_cons.1 hb with rfl | hb
      · exact ⟨sel_ne zs p (by omega) hp0, by rw [tot_sel]; exact hq⟩
      · exact h2 b hb
    · rw [List.flatten_cons]
      exact (List.Perm.append_left _ h3).trans (sel_sub zs hs)
theorem sel_pick : ∀ (zs : List Int) (c : Nat) (b r : List Int), (b ++ r).Perm (sel zs c) → ∃ p, Sub p c ∧ (sel zs p).Perm b ∧ (sel zs (c - p)).Perm r
  | [], c, b, r, h => by
    have h0 := h.eq_nil
    obtain ⟨rfl, rfl⟩ := List.append_eq_nil_iff.1 h0
    exact ⟨0, Sub.zero c, List.Perm.refl _, List.Perm.refl _⟩
  | x :: xs, c, b, r, h => by
    rw [sel_cons] at h
    by_cases hc : c % 2 = 1
    · rw [if_pos hc] at h
      have hm : x ∈ b ++ r := h.symm.subset (List.mem_cons_self ..)
      by_cases hb : x ∈ b
      · have h1 : (x :: (b.erase x ++ r)).Perm (x :: sel xs (c / 2)) := ((List.perm_cons_erase hb).symm.append_right r).trans h
        obtain ⟨p, hp, h2, h3⟩ := sel_pick xs (c / 2) (b.erase x) r ((List.perm_cons x).1 h1)
        have hS : Sub (2 * p + 1) c := Sub.of (by omega) (by rw [show (2 * p + 1) / 2 = p by omega]; exact hp)
        obtain ⟨k1, k2⟩ := sub_minus_half hS
        refine ⟨2 * p + 1, hS, ?_, ?_⟩
        · rw [sel_cons, if_pos (by omega), show (2 * p + 1) / 2 = p by omega]
          exact (List.Perm.cons x h2).trans (List.perm_cons_erase hb).symm
        · rw [sel_cons, k1, k2, if_neg (by omega), show (2 * p + 1) / 2 = p by omega]; exact h3
      · have hr : x ∈ r := (List.mem_append.1 hm).resolve_left hb
        have h1 : (x :: (b ++ r.erase x)).Perm (x :: sel xs (c / 2)) := (List.perm_middle.symm.trans (List.Perm.append_left b (List.perm_cons_erase hr).symm)).trans h
        obtain ⟨p, hp, h2, h3⟩ := sel_pick xs (c / 2) b (r.erase x) ((List.perm_cons x).1 h1)
        have hS : Sub (2 * p) c := Sub.of (by omega) (by rw [show (2 * p) / 2 = p by omega]; exact hp)
        obtain ⟨k1, k2⟩ := sub_minus_half hS
        refine ⟨2 * p, hS, ?_, ?_⟩
        · rw [sel_cons, if_neg (by omega), show (2 * p) / 2 = p by omega]; exact h2
        · rw [sel_cons, k1, k2, if_pos (by omega), show (2 * p) / 2 = p by omega]
          exact (List.Perm.cons x h3).trans (List.perm_cons_erase hr).symm
    · rw [if_neg hc] at h
      obtain ⟨p, hp, h2, h3⟩ := sel_pick xs (c / 2) b r h
      have hS : Sub (2 * p) c := Sub.of (by omega) (by rw [show (2 * p) / 2 = p by omega]; exact hp)
      obtain ⟨k1, k2⟩ := sub_minus_half hS
      refine ⟨2 * p, hS, ?_, ?_⟩
      · rw [sel_cons, if_neg (by omega), show (2 * p) / 2 = p by omega]; exact h2
      · rw [sel_cons, k1, k2, if_neg (by omega), show (2 * p) / 2 = p by omega]; exact h3
theorem bp_cov {size : Int} {zs : List Int} : ∀ (bins : List (List Int)) (c : Nat), c < 2 ^ zs.length → (∀ b ∈ bins, b ≠ [] ∧ tot b ≤ size) → bins.flatten.Perm (sel zs c) → Cov (fun p => csum zs p ≤ size) c bins.length
  | [], c, hc, _, h => by
    have h0 : sel zs c = [] := h.symm.eq_nil
    have : c = 0 := by
      by_cases e : c = 0
      · exact e
      · exact absurd h0 (sel_ne zs c hc e)
    subst this
    exact .zero
  | b :: bs, c, hc, hok, h => by
    obtain ⟨p, hp, h2, h3⟩ := sel_pick zs c b bs.flatten h
    have hb := hok b (List.mem_cons_self ..)
    have hp0 : p ≠ 0 := fun e => by
      subst e
      rw [sel_zero] at h2
      exact hb.1 h2.symm.eq_nil
    refine .step hp0 hp ?_ (bp_cov bs (c - p) (by omega) (fun b' hb' => hok b' (List.mem_cons_of_mem _ hb')) h3.symm)
    show csum zs p ≤ size
    rw [← tot_sel, perm_tot h2]
    exact hb.2
theorem csum_bit : ∀ {zs : List Int} {size : Int} {j : Nat}, (∀ x ∈ zs, x ≤ size) → 2 ^ j < 2 ^ zs.length → csum zs (2 ^ j) ≤ size
  | [], size, j, _, h => by
    have := Nat.two_pow_pos j
    simp at h
  | x :: xs, size, j, hs, h => by
    cases j with
    | zero =>
      rw [csum_cons, if_pos (by decide), show 2 ^ 0 / 2 = 0 by decide, csum_zero]
      have := hs x (List.mem_cons_self ..)
      omega
    | succ j =>
      rw [List.length_cons, Nat.pow_succ, Nat.pow_succ] at h
      rw [csum_cons, Nat.pow_succ, if_neg (by omega), show 2 ^ j * 2 / 2 = 2 ^ j by omega]
      have := csum_bit (zs := xs) (size := size) (j := j) (fun y hy => hs y (List.mem_cons_of_mem _ hy)) (by omega)
      omega
/-- the least number of bins is told by both ways -/
theorem least_same {zs : List Int} {size : Int} {k k' : Nat} (hg : good zs) (hs : ∀ x ∈ zs, x ≤ size) (h : IsFew (fun p => csum zs p ≤ size) (2 ^ zs.length - 1) k) (h' : IsCut (Pk size (sortD zs) []) zs.length k') : k = k' := by
  have hpw := Nat.two_pow_pos zs.length
  have hsp := sortD_perm zs
  have hfull : ∀ n, Cov (fun p => csum zs p ≤ size) (2 ^ zs.length - 1) n ↔ Bp size zs n := fun n => by
    constructor
    · intro hC
      obtain ⟨bins, h1, h2, h3⟩ := cov_bp hC (by omega)
      rw [sel_full] at h3
      exact ⟨bins, h1, h2, h3⟩
    · rintro ⟨bins, rfl, h2, h3⟩
      exact bp_cov bins _ (by omega) h2 (by rw [sel_full]; exact h3)
  have hpk : ∀ n, Pk size (sortD zs) [] n ↔ Bp size zs n := fun n => by
    constructor
    · intro hP
      obtain ⟨bs, h1, h2, h3⟩ := pk_bp hP [] rfl (fun b hb => by cases hb) (fun x hx => hs x (hsp.subset hx))
      exact ⟨bs, h1, h2, by simpa using h3.trans hsp⟩
    · intro hB
      exact bp_pk (perm_good hsp hg) hsp hB
  obtain ⟨h1, h2⟩ := h
  obtain ⟨g1, g2, g3⟩ := h'
  have a1 := g3 k ((hpk k).2 ((hfull k).1 h1))
  obtain ⟨m, hm, hC⟩ := cov_ones (Q := fun p => csum zs p ≤ size) zs.length (2 ^ zs.length - 1) (by omega) (fun j hj => by
    show csum zs (2 ^ j) ≤ size
    have hlt : 2 ^ j < 2 ^ zs.length := by have := (sub_bit hj).le; omega
    exact csum_bit hs hlt)
  have a2 := h2 m hC
  rcases g2 with g2 | g2
  · omega
  · have := h2 k' ((hfull k').2 ((hpk k').1 g2)); omega
end Go.Proofs.YtdpapalfafjncaaGreatDoor
