/- Families of parts: how both programs find the most, and what the laws say, in plain words. Conditions: none. -/
import Derived.Test.YtokfkhdngmpkgaaMB
import Derived.Test.YtokfkhdngmpkgaaM13
namespace Go.Proofs.Ytokfkhdngmpkgaa
theorem most_of {Q : Nat → Prop} {c v : Nat} (h0 : Fam Q c v) (h : ∀ p, p ≠ 0 → Sub p c → Q p → ∀ k, Fam Q (c - p) k → k + 1 ≤ v) : IsMost Q c v :=
  ⟨h0, fun j hj => by
    cases hj with
    | zero => omega
    | step a b d e => exact h _ a b d _ e⟩
theorem tb_bit (j i : Nat) : (2 ^ j).testBit i = true ↔ i = j := by
  rw [Nat.testBit_two_pow, decide_eq_true_eq]; exact eq_comm
theorem sub_bit {j c : Nat} (h : c.testBit j = true) : Sub (2 ^ j) c := fun i hi => by
  rw [tb_bit] at hi; subst hi; exact h
theorem has_bit {c : Nat} (h : c ≠ 0) : ∃ i, c.testBit i = true := Nat.exists_testBit_of_ne_zero h
theorem sub_minus {p l c : Nat} (h : Sub p c) (hl : Sub l c) (hd : ∀ i, p.testBit i = true → l.testBit i = true → False) : Sub p (c - l) := fun i hi => by
  rw [sub_tb hl]
  have := h i hi
  rcases e : l.testBit i with _ | _
  · simp [this]
  · exact (hd i hi e).elim
/-- the reference's way: leave a place out, or all places are used -/
theorem fam_spec {Q : Nat → Prop} (hQ : ∀ p c, Sub p c → Q p → Q (c - p) → Q c) (hQ0 : Q 0) {c k : Nat} (h : Fam Q c k) :
    k = 0 ∨ (∃ i, c.testBit i = true ∧ Fam Q (c - 2 ^ i) k) ∨ (Q c ∧ ∃ s, Sub s c ∧ s ≠ c ∧ Q s ∧ Fam Q s (k - 1)) := by
  induction h with
  | zero c => exact .inl rfl
  | @step c p k h0 h1 h2 hk ih =>
    refine .inr ?_
    rcases ih with rfl | ⟨i, hi, hf⟩ | ⟨hq, s, hs, hne, hqs, hf⟩
    · by_cases e : p = c
      · subst e; exact .inr ⟨h2, 0, Sub.zero _, fun e => h0 e.symm, hQ0, .zero _⟩
      · obtain ⟨i, hi⟩ := has_bit (c := c - p) (by have := h1.le; omega)
        rw [sub_tb h1] at hi
        simp at hi
        exact .inl ⟨i, hi.1, .step h0 (sub_minus h1 (sub_bit hi.1) (fun t ht hl => by rw [tb_bit] at hl; subst hl; rw [hi.2] at ht; cases ht)) h2 (.zero _)⟩
    · rw [sub_tb h1] at hi
      simp at hi
      exact .inl ⟨i, hi.1, .step h0 (sub_minus h1 (sub_bit hi.1) (fun t ht hl => by rw [tb_bit] at hl; subst hl; rw [hi.2] at ht; cases ht)) h2 (by rw [Nat.sub_right_comm]; exact hf)⟩
    · exact .inr ⟨hQ p c h1 h2 hq, c - p, h1.compl, by have := h1.le; omega, hq, hk⟩
/-- the program's way: the last place is left out, or stands in a part -/
theorem fam_impl {Q : Nat → Prop} {j : Nat} {c k : Nat} (h : Fam Q c k) (hj : c.testBit j = true) :
    Fam Q (c - 2 ^ j) k ∨ (∃ s, Sub s (c - 2 ^ j) ∧ Q (s + 2 ^ j) ∧ 1 ≤ k ∧ Fam Q (c - 2 ^ j - s) (k - 1)) := by
  induction h with
  | zero c => exact .inl (.zero _)
  | @step c p k h0 h1 h2 hk ih =>
    have hl := sub_bit hj
    rcases e : p.testBit j with _ | _
    · have hd : ∀ i, p.testBit i = true → (2 ^ j).testBit i = true → False := fun i hi hl => by
        rw [tb_bit] at hl; subst hl; rw [e] at hi; cases hi
      have hj2 : (c - p).testBit j = true := by rw [sub_tb h1, hj, e]; rfl
      rcases ih hj2 with hf | ⟨s, hs, hq, hk1, hf⟩
      · exact .inl (.step h0 (sub_minus h1 hl hd) h2 (by rw [Nat.sub_right_comm]; exact hf))
      · have hs2 : Sub s (c - 2 ^ j) := hs.trans (by rw [Nat.sub_right_comm]; exact (sub_minus h1 hl hd).compl)
        refine .inr ⟨s, hs2, hq, by omega, ?_⟩
        obtain ⟨k', rfl⟩ : ∃ k', k = k' + 1 := ⟨k - 1, by omega⟩
        refine .step h0 (sub_minus (sub_minus h1 hl hd) hs2 (fun i hi hsi => ?_)) h2 ?_
        · have := hs i hsi
          rw [sub_tb (sub_bit hj2), sub_tb h1] at this
          simp at this
          rw [this.1.2] at hi; cases hi
        · have e2 : c - 2 ^ j - s - p = c - p - 2 ^ j - s := by omega
          rw [e2]; exact hf
    · have hp := sub_bit e
      have h3 := hp.le
      have h4 := h1.le
      refine .inr ⟨p - 2 ^ j, hp.sub_of h1, by rw [Nat.sub_add_cancel h3]; exact h2, by omega, ?_⟩
      have e2 : c - 2 ^ j - (p - 2 ^ j) = c - p := by omega
      rw [e2]; exact hk
theorem popN_sub : ∀ (f : Nat) {p c : Nat}, Sub p c → popN f c = popN f p + popN f (c - p)
  | 0, _, _, _ => rfl
  | f + 1, p, c, h => by
    have h1 := h.low
    have h2 := h.half.le
    rw [popN, popN, popN, popN_sub f h.half, show (c - p) / 2 = c / 2 - p / 2 by omega]
    omega
theorem fam_pop {Q : Nat → Prop} {c k : Nat} (h : Fam Q c k) (hc : c < 2 ^ 20) : k ≤ popc c := by
  induction h with
  | zero c => omega
  | @step c p k h0 h1 h2 hk ih =>
    have a := h1.le
    have b := ih (by omega)
    have d := popN_sub 20 h1
    have e := popN_pos 20 p (by omega) (by omega)
    unfold popc at *
    omega
theorem fam_len {Q : Nat → Prop} {c k m : Nat} (h : Fam Q c k) (hc : c < 2 ^ m) (hm : m ≤ 20) : k ≤ m :=
  Nat.le_trans (fam_pop h (Nat.lt_of_lt_of_le hc (Nat.pow_le_pow_right (by omega) hm))) (popN_len _ _ _ hc)
/-- k parts of at least a size have k times the size -/
theorem fam_size {zs : List Int} {size : Int} {c k : Nat} (hg : good zs) (h : Fam (fun p => size ≤ csum zs p) c k) : (k : Int) * size ≤ csum zs c := by
  induction h with
  | zero c => have := csum_bd hg c; simp; omega
  | @step c p k h0 h1 h2 hk ih =>
    have a := csum_sub zs h1
    have e : ((k + 1 : Nat) : Int) * size = k * size + size := by rw [Int.natCast_add, Int.add_mul]; simp
    rw [e]
    have h2 : size ≤ csum zs p := h2
    omega
/-- the numbers themselves fill bins of size 1 -/
theorem fam_ones {zs : List Int} (hg : good zs) : ∀ m, m ≤ zs.length → Fam (fun p => 1 ≤ csum zs p) (2 ^ m - 1) m
  | 0, _ => .zero _
  | m + 1, h => by
    have hp := Nat.two_pow_pos m
    have e : 2 ^ (m + 1) - 1 - 2 ^ m = 2 ^ m - 1 := by rw [Nat.pow_succ]; omega
    refine .step (p := 2 ^ m) (by omega) (sub_bit ?_) ?_ (by rw [e]; exact fam_ones hg m (by omega))
    · rw [Nat.testBit_two_pow_sub_one, decide_eq_true_eq]; omega
    · have : 2 ^ m < 2 ^ zs.length := Nat.pow_lt_pow_right (by omega) (by omega)
      exact csum_pos hg _ hp this
end Go.Proofs.Ytokfkhdngmpkgaa
