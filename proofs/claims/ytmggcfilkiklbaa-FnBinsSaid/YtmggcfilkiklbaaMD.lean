/- What the loops over parts have found so far, in plain words. Conditions: none. Ahead of it: Families of parts: how both programs find the most, and what the laws say, in plain words. Conditions: none. -/
import Derived.Test.YtmggcfilkiklbaaMB
import Derived.Test.YtmggcfilkiklbaaM13
namespace Go.Proofs.Ytmggcfilkiklbaa
theorem most_of {Q : Nat → Prop} {c v : Nat} (h0 : Fam Q c v) (h : ∀ p, p ≠ 0 → Sub p c → Q p → ∀ k, Fam Q (c - p) k → k + 1 ≤ v) : IsMost Q c v :=
  ⟨h0, fun j hj => by
    cases hj with
    | zero => omega
    | step a b d e => exact h _ a b d _ e⟩
theorem tb_bit (j i : Nat) : (2 ^ j).testBit i = true ↔ i = j := by
  rw [Nat.testBit_two_pow, decide_eq_true_eq]; exact eq_comm
theorem sub_bit {j c : Nat} (h : c.testBit j = true) : Sub (2 ^ j) c := fun i hi => by
  rw [tb_bit] at hi; subst hi; exact h
theorem has_bit {c : Nat} (h : c ≠ 0) : ∃ i, c.testBit i = true := Nat.exists_testBit_of_ne_zero h
theorem sub_minus {p l c : Nat} (h : Sub p c) (hl : Sub l c) (hd : ∀ i, p.testBit i = true → l.testBit i = true → False) : Sub p (c - l) := fun i hi => by
  rw [sub_tb hl]
  have := h i hi
  rcases e : l.testBit i with _ | _
  · simp [this]
  · exact (hd i hi e).elim
/-- the reference's way: leave a place out, or all places are used -/
theorem fam_spec {Q : Nat → Prop} (hQ : ∀ p c, Sub p c → Q p → Q (c - p) → Q c) (hQ0 : Q 0) {c k : Nat} (h : Fam Q c k) :
    k = 0 ∨ (∃ i, c.testBit i = true ∧ Fam Q (c - 2 ^ i) k) ∨ (Q c ∧ ∃ s, Sub s c ∧ s ≠ c ∧ Q s ∧ Fam Q s (k - 1)) := by
  induction h with
  | zero c => exact .inl rfl
  | @step c p k h0 h1 h2 hk ih =>
    refine .inr ?_
    rcases ih with rfl | ⟨i, hi, hf⟩ | ⟨hq, s, hs, hne, hqs, hf⟩
    · by_cases e : p = c
      · subst e; exact .inr ⟨h2, 0, Sub.zero _, fun e => h0 e.symm, hQ0, .zero _⟩
      · obtain ⟨i, hi⟩ := has_bit (c := c - p) (by have := h1.le; omega)
        rw [sub_tb h1] at hi
        simp at hi
        exact .inl ⟨i, hi.1, .step h0 (sub_minus h1 (sub_bit hi.1) (fun t ht hl => by rw [tb_bit] at hl; subst hl; rw [hi.2] at ht; cases ht)) h2 (.zero _)⟩
    · rw [sub_tb h1] at hi
      simp at hi
      exact .inl ⟨i, hi.1, .step h0 (sub_minus h1 (sub_bit hi.1) (fun t ht hl => by rw [tb_bit] at hl; subst hl; rw [hi.2] at ht; cases ht)) h2 (by rw [Nat.sub_right_comm]; exact hf)⟩
    · exact .inr ⟨hQ p c h1 h2 hq, c - p, h1.compl, by have := h1.le; omega, hq, hk⟩
/-- the program's way: the last place is left out, or stands in a part -/
theorem fam_impl {Q : Nat → Prop} {j : Nat} {c k : Nat} (h : Fam Q c k) (hj : c.testBit j = true) :
    Fam Q (c - 2 ^ j) k ∨ (∃ s, Sub s (c - 2 ^ j) ∧ Q (s + 2 ^ j) ∧ 1 ≤ k ∧ Fam Q (c - 2 ^ j - s) (k - 1)) := by
  induction h with
  | zero c => exact .inl (.zero _)
  | @step c p k h0 h1 h2 hk ih =>
    have hl := sub_bit hj
    rcases e : p.testBit j with _ | _
    · have hd : ∀ i, p.testBit i = true → (2 ^ j).testBit i = true → False := fun i hi hl => by
        rw [tb_bit] at hl; subst hl; rw [e] at hi; cases hi
      have hj2 : (c - p).testBit j = true := by rw [sub_tb h1, hj, e]; rfl
      rcases ih hj2 with hf | ⟨s, hs, hq, hk1, hf⟩
      · exact .inl (.step h0 (sub_minus h1 hl hd) h2 (by rw [Nat.sub_right_comm]; exact hf))
      · have hs2 : Sub s (c - 2 ^ j) := hs.trans (by rw [Nat.sub_right_comm]; exact (sub_minus h1 hl hd).compl)
        refine .inr ⟨s, hs2, hq, by omega, ?_⟩
        obtain ⟨k', rfl⟩ : ∃ k', k = k' + 1 := ⟨k - 1, by omega⟩
        refine .step h0 (sub_minus (sub_minus h1 hl hd) hs2 (fun i hi hsi => ?_)) h2 ?_
        · have := hs i hsi
          rw [sub_tb (sub_bit hj2), sub_tb h1] at this
          simp at this
          rw [this.1.2] at hi; cases hi
        · have e2 : c - 2 ^ j - s - p = c - p - 2 ^ j - s := by omega
          rw [e2]; exact hf
    · have hp := sub_bit e
      have h3 := hp.le
      have h4 := h1.le
      refine .inr ⟨p - 2 ^ j, hp.sub_of h1, by rw [Nat.sub_add_cancel h3]; exact h2, by omega, ?_⟩
      have e2 : c - 2 ^ j - (p - 2 ^ j) = c - p := by omega
      rw [e2]; exact hk
theorem popN_sub : ∀ (f : Nat) {p c : Nat}, Sub p c → popN f c = popN f p + popN f (c - p)
  | 0, _, _, _ => rfl
  | f + 1, p, c, h => by
    have h1 := h.low
    have h2 := h.half.le
    rw [popN, popN, popN, popN_sub f h.half, show (c - p) / 2 = c / 2 - p / 2 by omega]
    omega
theorem fam_pop {Q : Nat → Prop} {c k : Nat} (h : Fam Q c k) (hc : c < 2 ^ 20) : k ≤ popc c := by
  induction h with
  | zero c => omega
  | @step c p k h0 h1 h2 hk ih =>
    have a := h1.le
    have b := ih (by omega)
    have d := popN_sub 20 h1
    have e := popN_pos 20 p (by omega) (by omega)
    unfold popc at *
    omega
theorem fam_len {Q : Nat → Prop} {c k m : Nat} (h : Fam Q c k) (hc : c < 2 ^ m) (hm : m ≤ 20) : k ≤ m :=
  Nat.le_trans (fam_pop h (Nat.lt_of_lt_of_le hc (Nat.pow_le_pow_right (by omega) hm))) (popN_len _ _ _ hc)
/-- k parts of at least a size have k times the size -/
theorem fam_size {zs : List Int} {size : Int} {c k : Nat} (hg : good zs) (h : Fam (fun p => size ≤ csum zs p) c k) : (k : Int) * size ≤ csum zs c := by
  induction h with
  | zero c => have := csum_bd hg c; simp; omega
  | @step c p k h0 h1 h2 hk ih =>
    have a := csum_sub zs h1
    have e : ((k + 1 : Nat) : Int) * size = k * size + size := by rw [Int.natCast_add, Int.add_mul]; simp
    rw [e]
    have h2 : size ≤ csum zs p := h2
    omega
/-- the numbers themselves fill bins of size 1 -/
theorem fam_ones {zs : List Int} (hg : good zs) : ∀ m, m ≤ zs.length → Fam (fun p => 1 ≤ csum zs p) (2 ^ m - 1) m
  | 0, _ => .zero _
  | m + 1, h => by
    have hp := Nat.two_pow_pos m
    have e : 2 ^ (m + 1) - 1 - 2 ^ m = 2 ^ m - 1 := by rw [Nat.pow_succ]; omega
    refine .step (p := 2 ^ m) (by omega) (sub_bit ?_) ?_ (by rw [e]; exact fam_ones hg m (by omega))
    · rw [Nat.testBit_two_pow_sub_one, decide_eq_true_eq]; omega
    · have : 2 ^ m < 2 ^ zs.length := Nat.pow_lt_pow_right (by omega) (by omega)
      exact csum_pos hg _ hp this
end Go.Proofs.Ytmggcfilkiklbaa
namespace Go.Proofs.Ytmggcfilkiklbaa
theorem sub_full {p m : Nat} (h : p < 2 ^ m) : Sub p (2 ^ m - 1) := fun i hi => by
  rw [Nat.testBit_two_pow_sub_one, decide_eq_true_eq]
  refine Nat.lt_of_not_le fun hle => ?_
  have hf := Nat.testBit_lt_two_pow (x := p) (i := i) (Nat.lt_of_lt_of_le h (Nat.pow_le_pow_right (by omega) hle))
  rw [hf] at hi; cases hi
theorem lt_of_sub {p m : Nat} (h : Sub p (2 ^ m - 1)) : p < 2 ^ m := by
  have := h.le
  have := Nat.two_pow_pos m
  omega
theorem after_pred {c p s : Nat} (hp : Sub p c) (hs : Sub s c) (h : (p - 1) &&& c < s) : s = p ∨ p < s := by
  rcases Nat.lt_trichotomy s p with e | e | e
  · have := sub_pred hp hs e; omega
  · exact .inl e
  · exact .inr e
/-- parts above p have been tried -/
def Seen (Q : Nat → Prop) (c p v : Nat) : Prop := Fam Q c v ∧ ∀ s, s ≠ 0 → Sub s c → p < s → Q s → ∀ k, Fam Q (c - s) k → k + 1 ≤ v
theorem seen_start (Q : Nat → Prop) (c : Nat) : Seen Q c c 0 := ⟨.zero _, fun s _ hs hlt => by have := hs.le; omega⟩
theorem seen_hit {Q : Nat → Prop} {c p v t : Nat} (h : Seen Q c p v) (h0 : p ≠ 0) (hp : Sub p c) (hq : Q p) (ht : IsMost Q (c - p) t) : Seen Q c ((p - 1) &&& c) (max v (1 + t)) := by
  refine ⟨?_, fun s hs0 hs hlt hqs k hk => ?_⟩
  · rcases Nat.le_total v (1 + t) with e | e
    · rw [Nat.max_eq_right e, Nat.add_comm]; exact .step h0 hp hq ht.1
    · rw [Nat.max_eq_left e]; exact h.1
  · rcases after_pred hp hs hlt with rfl | hlt
    · have := ht.2 k hk; omega
    · have := h.2 s hs0 hs hlt hqs k hk; omega
theorem seen_miss {Q : Nat → Prop} {c p v : Nat} (h : Seen Q c p v) (hp : Sub p c) (hq : ¬ Q p) : Seen Q c ((p - 1) &&& c) v :=
  ⟨h.1, fun s hs0 hs hlt hqs k hk => by
    rcases after_pred hp hs hlt with rfl | hlt
    · exact (hq hqs).elim
    · exact h.2 s hs0 hs hlt hqs k hk⟩
theorem seen_end {Q : Nat → Prop} {c v : Nat} (h : Seen Q c 0 v) : IsMost Q c v := most_of h.1 (fun p h0 hp hq k hk => h.2 p h0 hp (by omega) hq k hk)
/-- the same for the parts before the last place -/
def SeenI (Q : Nat → Prop) (c l p v : Nat) : Prop := Fam Q c v ∧ (∀ k, Fam Q (c - l) k → k ≤ v) ∧ ∀ s, Sub s (c - l) → p < s → Q (s + l) → ∀ k, Fam Q (c - l - s) k → k + 1 ≤ v
theorem seenI_start {Q : Nat → Prop} {c l v : Nat} (hl : Sub l c) (h : IsMost Q (c - l) v) : SeenI Q c l (c - l) v :=
  ⟨h.1.mono hl.compl, h.2, fun s hs hlt => by have := hs.le; omega⟩
theorem seenI_fam {Q : Nat → Prop} {c l p t : Nat} (hl : Sub l c) (hl0 : l ≠ 0) (hp : Sub p (c - l)) (hq : Q (p + l)) (ht : Fam Q (c - l - p) t) : Fam Q c (t + 1) := by
  have h1 := hl.le
  have h2 := hp.le
  have h3 : Sub (c - l - p) c := hp.compl.trans hl.compl
  have h4 := h3.compl
  rw [show c - (c - l - p) = p + l by omega] at h4
  exact .step (by omega) h4 hq (by rw [show c - (p + l) = c - l - p by omega]; exact ht)
theorem seenI_hit {Q : Nat → Prop} {c l p v t : Nat} (h : SeenI Q c l p v) (hl : Sub l c) (hl0 : l ≠ 0) (hp : Sub p (c - l)) (hq : Q (p + l)) (ht : IsMost Q (c - l - p) t) : SeenI Q c l ((p - 1) &&& (c - l)) (max v (1 + t)) := by
  refine ⟨?_, fun k hk => by have := h.2.1 k hk; omega, fun s hs hlt hqs k hk => ?_⟩
  · rcases Nat.le_total v (1 + t) with e | e
    · rw [Nat.max_eq_right e, Nat.add_comm]; exact seenI_fam hl hl0 hp hq ht.1
    · rw [Nat.max_eq_left e]; exact h.1
  · rcases after_pred hp hs hlt with rfl | hlt
    · have := ht.2 k hk; omega
    · have := h.2.2 s hs hlt hqs k hk; omega
theorem seenI_miss {Q : Nat → Prop} {c l p v : Nat} (h : SeenI Q c l p v) (hp : Sub p (c - l)) (hq : ¬ Q (p + l)) : SeenI Q c l ((p - 1) &&& (c - l)) v :=
  ⟨h.1, h.2.1, fun s hs hlt hqs k hk => by
    rcases after_pred hp hs hlt with rfl | hlt
    · exact (hq hqs).elim
    · exact h.2.2 s hs hlt hqs k hk⟩
/-- after the part 0 all parts have been tried -/
theorem seenI_end_hit {Q : Nat → Prop} {c j v t : Nat} (h : SeenI Q c (2 ^ j) 0 v) (hj : c.testBit j = true) (hq : Q (0 + 2 ^ j)) (ht : IsMost Q (c - 2 ^ j) t) : IsMost Q c (max v (1 + t)) := by
  have hl := sub_bit hj
  have hl0 : 2 ^ j ≠ 0 := by have := Nat.two_pow_pos j; omega
  refine ⟨?_, fun k hk => ?_⟩
  · rcases Nat.le_total v (1 + t) with e | e
    · rw [Nat.max_eq_right e, Nat.add_comm]; exact seenI_fam hl hl0 (Sub.zero _) hq (by simpa using ht.1)
    · rw [Nat.max_eq_left e]; exact h.1
  · rcases fam_impl hk hj with hf | ⟨s, hs, hqs, hk1, hf⟩
    · have := h.2.1 k hf; omega
    · by_cases e : s = 0
      · subst e
        have := ht.2 _ hf; omega
      · have := h.2.2 s hs (by omega) hqs _ hf; omega
theorem seenI_end_miss {Q : Nat → Prop} {c j v : Nat} (h : SeenI Q c (2 ^ j) 0 v) (hj : c.testBit j = true) (hq : ¬ Q (0 + 2 ^ j)) : IsMost Q c v := by
  refine ⟨h.1, fun k hk => ?_⟩
  rcases fam_impl hk hj with hf | ⟨s, hs, hqs, hk1, hf⟩
  · exact h.2.1 k hf
  · by_cases e : s = 0
    · subst e; exact (hq hqs).elim
    · have := h.2.2 s hs (by omega) hqs _ hf; omega
/-- the reference: places below i have been left out -/
def SeenB (Q : Nat → Prop) (c i v : Nat) : Prop := Fam Q c v ∧ ∀ j, j < i → c.testBit j = true → ∀ k, Fam Q (c - 2 ^ j) k → k ≤ v
theorem seenB_start (Q : Nat → Prop) (c : Nat) : SeenB Q c 0 0 := ⟨.zero _, fun j hj => by omega⟩
theorem seenB_hit {Q : Nat → Prop} {c i v t : Nat} (h : SeenB Q c i v) (hi : c.testBit i = true) (ht : IsMost Q (c - 2 ^ i) t) : SeenB Q c (i + 1) (max v t) := by
  refine ⟨?_, fun j hj hb k hk => ?_⟩
  · rcases Nat.le_total v t with e | e
    · rw [Nat.max_eq_right e]; exact ht.1.mono (sub_bit hi).compl
    · rw [Nat.max_eq_left e]; exact h.1
  · by_cases e : j = i
    · subst e; have := ht.2 k hk; omega
    · have := h.2 j (by omega) hb k hk; omega
theorem seenB_miss {Q : Nat → Prop} {c i v : Nat} (h : SeenB Q c i v) (hi : c.testBit i = false) : SeenB Q c (i + 1) v :=
  ⟨h.1, fun j hj hb k hk => by
    by_cases e : j = i
    · subst e; rw [hi] at hb; cases hb
    · exact h.2 j (by omega) hb k hk⟩
/-- the reference: parts above p have been tried as what is left -/
def SeenS (Q : Nat → Prop) (c p v : Nat) : Prop := Fam Q c v ∧ (∀ j, c.testBit j = true → ∀ k, Fam Q (c - 2 ^ j) k → k ≤ v) ∧ ∀ s, Sub s c → s ≠ c → p < s → Q s → ∀ k, Fam Q s k → k + 1 ≤ v
theorem seenB_all {Q : Nat → Prop} {c m v : Nat} (hc : c < 2 ^ m) (h : SeenB Q c m v) : ∀ j, c.testBit j = true → ∀ k, Fam Q (c - 2 ^ j) k → k ≤ v := fun j hj k hk => by
  refine h.2 j (Nat.lt_of_not_le fun hle => ?_) hj k hk
  have hf := Nat.testBit_lt_two_pow (x := c) (i := j) (Nat.lt_of_lt_of_le hc (Nat.pow_le_pow_right (by omega) hle))
  rw [hf] at hj; cases hj
theorem seenS_start {Q : Nat → Prop} {c m v : Nat} (hc : c < 2 ^ m) (h : SeenB Q c m v) : SeenS Q c ((c - 1) &&& c) v :=
  ⟨h.1, seenB_all hc h, fun s hs hne hlt => by
    rcases after_pred (Sub.refl c) hs hlt with e | e
    · exact (hne e).elim
    · have := hs.le; omega⟩
theorem seenS_fam {Q : Nat → Prop} (hQ2 : ∀ p c, Sub p c → Q p → Q c → Q (c - p)) {c p t : Nat} (hc : Q c) (hp : Sub p c) (hne : p ≠ c) (hq : Q p) (ht : Fam Q p t) : Fam Q c (t + 1) := by
  have := hp.le
  refine .step (p := c - p) (by omega) hp.compl (hQ2 p c hp hq hc) ?_
  rw [show c - (c - p) = p by omega]; exact ht
theorem seenS_hit {Q : Nat → Prop} (hQ2 : ∀ p c, Sub p c → Q p → Q c → Q (c - p)) {c p v t : Nat} (h : SeenS Q c p v) (hc : Q c) (hp : Sub p c) (hne : p ≠ c) (hq : Q p) (ht : IsMost Q p t) : SeenS Q c ((p - 1) &&& c) (max v (t + 1)) := by
  refine ⟨?_, fun j hj k hk => by have := h.2.1 j hj k hk; omega, fun s hs hse hlt hqs k hk => ?_⟩
  · rcases Nat.le_total v (t + 1) with e | e
    · rw [Nat.max_eq_right e]; exact seenS_fam hQ2 hc hp hne hq ht.1
    · rw [Nat.max_eq_left e]; exact h.1
  · rcases after_pred hp hs hlt with rfl | hlt
    · have := ht.2 k hk; omega
    · have := h.2.2 s hs hse hlt hqs k hk; omega
theorem seenS_miss {Q : Nat → Prop} {c p v : Nat} (h : SeenS Q c p v) (hp : Sub p c) (hq : ¬ Q p) : SeenS Q c ((p - 1) &&& c) v :=
  ⟨h.1, h.2.1, fun s hs hse hlt hqs k hk => by
    rcases after_pred hp hs hlt with rfl | hlt
    · exact (hq hqs).elim
    · exact h.2.2 s hs hse hlt hqs k hk⟩
/-- after the part 0, which always is a multiple -/
theorem seenS_end {Q : Nat → Prop} (hQ : ∀ p c, Sub p c → Q p → Q (c - p) → Q c) (hQ2 : ∀ p c, Sub p c → Q p → Q c → Q (c - p)) (hQ0 : Q 0) {c v t : Nat} (h : SeenS Q c 0 v) (hc : Q c) (hne : c ≠ 0) (ht : IsMost Q 0 t) : IsMost Q c (max v (t + 1)) := by
  refine ⟨?_, fun k hk => ?_⟩
  · rcases Nat.le_total v (t + 1) with e | e
    · rw [Nat.max_eq_right e]; exact seenS_fam hQ2 hc (Sub.zero _) (fun e => hne e.symm) hQ0 ht.1
    · rw [Nat.max_eq_left e]; exact h.1
  · rcases fam_spec hQ hQ0 hk with e | ⟨i, hi, hf⟩ | ⟨_, s, hs, hse, hqs, hf⟩
    · omega
    · have := h.2.1 i hi k hf; omega
    · by_cases e : s = 0
      · subst e
        have := ht.2 _ hf; omega
      · have := h.2.2 s hs hse (by omega) hqs _ hf; omega
theorem seenB_end {Q : Nat → Prop} (hQ : ∀ p c, Sub p c → Q p → Q (c - p) → Q c) (hQ0 : Q 0) {c m v : Nat} (hc : c < 2 ^ m) (h : SeenB Q c m v) (hq : ¬ Q c) : IsMost Q c v := by
  refine ⟨h.1, fun k hk => ?_⟩
  rcases fam_spec hQ hQ0 hk with e | ⟨i, hi, hf⟩ | ⟨hqc, _⟩
  · omega
  · exact seenB_all hc h i hi k hf
  · exact (hq hqc).elim
theorem most_zero (Q : Nat → Prop) : IsMost Q 0 0 := ⟨.zero _, fun j hj => by
  cases hj with
  | zero => omega
  | step h0 h1 _ _ => have := h1.le; omega⟩
theorem most_pos {Q : Nat → Prop} {c k : Nat} (h : IsMost Q c k) : 0 < k ↔ ∃ p, p ≠ 0 ∧ Sub p c ∧ Q p := by
  constructor
  · intro hk
    have h1 := h.1
    cases h1 with
    | zero => omega
    | step a b d _ => exact ⟨_, a, b, d⟩
  · rintro ⟨p, h0, h1, h2⟩
    have := h.2 1 (.step h0 h1 h2 (.zero _))
    omega
/-- the property of RestParts -/
def mulP (zs : List Int) (n : Int) (p : Nat) : Prop := csum zs p % n = 0
theorem mulP_zero (zs : List Int) (n : Int) : mulP zs n 0 := by rw [mulP, csum_zero]; exact Int.zero_emod _
theorem mulP_add {zs : List Int} {n : Int} : ∀ p c, Sub p c → mulP zs n p → mulP zs n (c - p) → mulP zs n c := fun p c h h1 h2 => by
  unfold mulP at *
  rw [csum_sub zs h, Int.add_emod, h1, h2]; simp
theorem mulP_sub {zs : List Int} {n : Int} : ∀ p c, Sub p c → mulP zs n p → mulP zs n c → mulP zs n (c - p) := fun p c h h1 h2 => by
  unfold mulP at *
  have e := csum_sub zs h
  rw [show csum zs (c - p) = csum zs c - csum zs p by omega, Int.sub_emod, h1, h2]; simp
theorem csum_shift : ∀ (m : Nat) (zs : List Int) (q : Nat), csum zs (q * 2 ^ m) = csum (zs.drop m) q
  | 0, zs, q => by simp
  | m + 1, [], q => by simp [csum]
  | m + 1, x :: xs, q => by
    have e : q * 2 ^ (m + 1) = 2 * (q * 2 ^ m) := by rw [Nat.pow_succ, ← Nat.mul_assoc, Nat.mul_comm]
    rw [e, csum_cons, if_neg (by omega), show 2 * (q * 2 ^ m) / 2 = q * 2 ^ m by omega, csum_shift m xs q, List.drop_succ_cons, Int.zero_add]
theorem high_bits : ∀ (m q i : Nat), (q * 2 ^ m).testBit i = true → m ≤ i
  | 0, _, _, _ => Nat.zero_le _
  | m + 1, q, i, h => by
    have e : q * 2 ^ (m + 1) = 2 * (q * 2 ^ m) := by rw [Nat.pow_succ, ← Nat.mul_assoc, Nat.mul_comm]
    rw [e] at h
    cases i with
    | zero => rw [Nat.testBit_zero, decide_eq_true_eq] at h; omega
    | succ i =>
      rw [Nat.testBit_succ, show 2 * (q * 2 ^ m) / 2 = q * 2 ^ m by omega] at h
      have := high_bits m q i h
      omega
theorem fam_blocks {n : Nat} (hn : 1 ≤ n ∧ n ≤ 6) (zs : List Int) : ∀ j, j * n ≤ zs.length → Fam (mulP zs n) (2 ^ (j * n) - 1) j
  | 0, _ => .zero _
  | j + 1, h => by
    have e : (j + 1) * n = j * n + n := Nat.succ_mul j n
    have ih := fam_blocks hn zs j (by omega)
    rw [e]
    generalize j * n = m at *
    have hbl : ((zs.drop m).take n).length = n := by rw [List.length_take, List.length_drop]; omega
    obtain ⟨q, hq0, hq1, hq2, _⟩ := dav hn ((zs.drop m).take n) (by omega)
    rw [hbl] at hq1
    have hs : csum zs (q * 2 ^ m) = csum ((zs.drop m).take n) q := by
      rw [csum_shift, csum_take_low (zs.drop m) n q (by rw [List.length_drop]; omega) hq1]
    have hp := Nat.two_pow_pos m
    have hlt : q * 2 ^ m < 2 ^ (m + n) := by
      rw [Nat.pow_add, Nat.mul_comm]
      exact Nat.mul_lt_mul_of_pos_left hq1 hp
    have hsf := sub_full hlt
    refine .step (p := q * 2 ^ m) (by have := Nat.mul_pos hq0 hp; omega) hsf (by rw [mulP, hs]; exact hq2) (ih.mono (sub_minus (sub_full ?_) hsf (fun i hi hqi => ?_)))
    · have : 2 ^ m ≤ 2 ^ (m + n) := Nat.pow_le_pow_right (by omega) (by omega)
      omega
    · have := high_bits m q i hqi
      rw [Nat.testBit_two_pow_sub_one, decide_eq_true_eq] at hi
      omega
theorem full_mono {m l : Nat} (h : m ≤ l) : Sub (2 ^ m - 1) (2 ^ l - 1) := by
  refine sub_full ?_
  have : 2 ^ m ≤ 2 ^ l := Nat.pow_le_pow_right (by omega) h
  have := Nat.two_pow_pos m
  omega
/-- what RestParts says -/
theorem parts_law {n : Nat} (hn : 1 ≤ n ∧ n ≤ 6) {zs : List Int} (hl : zs.length ≤ 20) {k : Nat} (h : IsMost (mulP zs n) (2 ^ zs.length - 1) k) : zs.length / n ≤ k ∧ k ≤ zs.length := by
  have hp := Nat.two_pow_pos zs.length
  refine ⟨h.2 _ ((fam_blocks hn zs _ (Nat.div_mul_le_self _ _)).mono (full_mono (Nat.div_mul_le_self _ _))), fam_len h.1 (by omega) hl⟩
end Go.Proofs.Ytmggcfilkiklbaa
