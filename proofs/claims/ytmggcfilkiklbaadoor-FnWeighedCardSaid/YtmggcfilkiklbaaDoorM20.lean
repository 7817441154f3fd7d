/- Weighings on two pans, counted, in plain words. Conditions: the list's numbers are told. -/
import Derived.Test.YtmggcfilkiklbaaDoorM18
namespace Go.Proofs.YtmggcfilkiklbaaDoor
def dig (d : Nat) (x : Int) : Int := if d % 3 = 0 then -x else if d % 3 = 1 then 0 else x
/-- the sum of the numbers with the signs that c's digits by 3 say -/
def tsum : List Int → Nat → Int
  | [], _ => 0
  | x :: xs, c => dig c x + tsum xs (c / 3)
theorem dig_cases (d : Nat) (x : Int) : (d % 3 = 0 ∧ dig d x = -x) ∨ (d % 3 = 1 ∧ dig d x = 0) ∨ (d % 3 = 2 ∧ dig d x = x) := by
  unfold dig
  have : d % 3 < 3 := Nat.mod_lt _ (by omega)
  split
  · exact .inl ⟨by assumption, rfl⟩
  · split
    · exact .inr (.inl ⟨by assumption, rfl⟩)
    · exact .inr (.inr ⟨by omega, rfl⟩)
theorem dig_mod {d e : Nat} (x : Int) (h : d % 3 = e % 3) : dig d x = dig e x := by unfold dig; rw [h]
theorem tsum_snoc (xs : List Int) (x : Int) : ∀ c : Nat, tsum (xs ++ [x]) c = tsum xs c + dig (c / 3 ^ xs.length) x := by
  induction xs with
  | nil => intro c; simp [tsum]
  | cons y ys ih =>
    intro c
    rw [List.cons_append, tsum, tsum, ih, List.length_cons, Nat.pow_succ, Nat.mul_comm, ← Nat.div_div_eq_div_mul]
    omega
theorem tsum_low (xs : List Int) : ∀ c d : Nat, tsum xs (c + d * 3 ^ xs.length) = tsum xs c := by
  induction xs with
  | nil => intro c d; rfl
  | cons y ys ih =>
    intro c d
    have e : c + d * 3 ^ (y :: ys).length = c + 3 * (d * 3 ^ ys.length) := by
      rw [List.length_cons, Nat.pow_succ, ← Nat.mul_assoc, Nat.mul_comm]
    rw [e, tsum, tsum, show (c + 3 * (d * 3 ^ ys.length)) / 3 = c / 3 + d * 3 ^ ys.length by omega, ih]
    rw [dig_mod y (show (c + 3 * (d * 3 ^ ys.length)) % 3 = c % 3 by omega)]
theorem tsum_neg (xs : List Int) : ∀ c : Nat, c < 3 ^ xs.length → tsum xs (3 ^ xs.length - 1 - c) = -tsum xs c := by
  induction xs with
  | nil => intro c _; rfl
  | cons y ys ih =>
    intro c hc
    rw [List.length_cons, Nat.pow_succ] at hc ⊢
    have hp : 0 < 3 ^ ys.length := Nat.pow_pos (by omega)
    rw [tsum, tsum, show (3 ^ ys.length * 3 - 1 - c) / 3 = 3 ^ ys.length - 1 - c / 3 by omega, ih _ (by omega)]
    have h1 := dig_cases c y
    have h2 := dig_cases (3 ^ ys.length * 3 - 1 - c) y
    omega
theorem tsum_bd {zs : List Int} (hg : good zs) : ∀ c, -tot zs ≤ tsum zs c ∧ tsum zs c ≤ tot zs := by
  induction zs with
  | nil => intro c; simp [tsum, tot]
  | cons x xs ih =>
    intro c
    have hx := hg x (List.mem_cons_self ..)
    have h1 := dig_cases c x
    have h2 := ih (fun y hy => hg y (List.mem_cons_of_mem _ hy)) (c / 3)
    rw [tsum, tot]
    omega
theorem tsum_least {zs : List Int} (hg : good zs) : ∀ c, 1 ≤ c → c < 3 ^ zs.length → -tot zs < tsum zs c := by
  induction zs with
  | nil => intro c h1 h2; simp at h2; omega
  | cons x xs ih =>
    intro c h1 h2
    have hx := hg x (List.mem_cons_self ..)
    have hg2 : good xs := fun y hy => hg y (List.mem_cons_of_mem _ hy)
    have h3 := dig_cases c x
    have h4 := tsum_bd hg2 (c / 3)
    rw [List.length_cons, Nat.pow_succ] at h2
    rw [tsum, tot]
    by_cases e : c / 3 = 0
    · omega
    · have := ih hg2 (c / 3) (by omega) (by omega)
      omega
theorem tsum_zero (zs : List Int) : tsum zs 0 = -tot zs := by
  induction zs with
  | nil => rfl
  | cons x xs ih =>
    have h := dig_cases 0 x
    rw [tsum, tot, show 0 / 3 = 0 from rfl, ih]
    omega
/-- the number of weighings of v -/
def wN (zs : List Int) (v : Int) : Nat := cntN (fun c => decide (tsum zs c = v)) (3 ^ zs.length)
theorem wN_nil (v : Int) : wN [] v = if v = 0 then 1 else 0 := by
  unfold wN
  by_cases h : v = 0
  · subst h; rfl
  · have h2 : ¬ (0 : Int) = v := fun e => h e.symm
    simp [cntN, tsum, h, h2]
theorem wN_snoc (zs : List Int) (x v : Int) : wN (zs ++ [x]) v = wN zs (v + x) + wN zs v + wN zs (v - x) := by
  have hp : 0 < 3 ^ zs.length := Nat.pow_pos (by omega)
  have e : 3 ^ (zs ++ [x]).length = 3 ^ zs.length + 3 ^ zs.length + 3 ^ zs.length := by
    rw [List.length_append, List.length_singleton, Nat.pow_succ]; omega
  have key : ∀ d c, d < 3 → c < 3 ^ zs.length → tsum (zs ++ [x]) (c + d * 3 ^ zs.length) = tsum zs c + dig d x := by
    intro d c hd hc
    rw [tsum_snoc, tsum_low, Nat.add_mul_div_right _ _ hp, Nat.div_eq_of_lt hc, Nat.zero_add]
  unfold wN
  rw [e, cntN_add, cntN_add]
  have h0 := dig_cases 0 x
  have h1 := dig_cases 1 x
  have h2 := dig_cases 2 x
  congr 1
  · congr 1
    · apply cntN_congr
      intro c hc
      have := key 0 c (by omega) hc
      rw [Nat.zero_mul, Nat.add_zero] at this
      rw [this, Bool.eq_iff_iff, decide_eq_true_eq, decide_eq_true_eq]; omega
    · apply cntN_congr
      intro c hc
      have := key 1 c (by omega) hc
      rw [Nat.one_mul] at this
      rw [show 3 ^ zs.length + c = c + 3 ^ zs.length by omega, this, Bool.eq_iff_iff, decide_eq_true_eq, decide_eq_true_eq]; omega
  · apply cntN_congr
    intro c hc
    have := key 2 c (by omega) hc
    rw [show 3 ^ zs.length + 3 ^ zs.length + c = c + 2 * 3 ^ zs.length by omega, this, Bool.eq_iff_iff, decide_eq_true_eq, decide_eq_true_eq]; omega
theorem wN_out {zs : List Int} (hg : good zs) (v : Int) (h : v < -tot zs ∨ tot zs < v) : wN zs v = 0 := by
  unfold wN
  apply cntN_zero
  intro c _
  have := tsum_bd hg c
  rw [decide_eq_false_iff_not]; omega
theorem wN_sym (zs : List Int) (v : Int) : wN zs (-v) = wN zs v := by
  unfold wN
  rw [cntN_rev]
  apply cntN_congr
  intro c hc
  have := tsum_neg zs c hc
  rw [Bool.eq_iff_iff, decide_eq_true_eq, decide_eq_true_eq]; omega
theorem wN_top {zs : List Int} (hg : good zs) : wN zs (tot zs) = 1 := by
  rw [← wN_sym]
  unfold wN
  refine cntN_one (Nat.pow_pos (by omega)) (by simp [tsum_zero]) (fun c h1 h2 => ?_)
  have := tsum_least hg c h1 h2
  rw [decide_eq_false_iff_not]; omega
theorem wN_le (zs : List Int) (v : Int) : wN zs v ≤ 3 ^ zs.length := cntN_le _ _
theorem pow3_bd (n : Nat) (h : n ≤ 10) : 1 ≤ 3 ^ n ∧ 3 ^ n ≤ 59049 := ⟨Nat.pow_pos (by omega), Nat.pow_le_pow_right (by omega) h⟩
def panKey (zs : List Int) (c : Nat) : Option Nat := if 0 ≤ tsum zs c then some (tsum zs c).toNat else none
/-- weighings of all numbers from 0 to the total -/
def panC (zs : List Int) : List Int := tally (panKey zs) ((tot zs).toNat + 1) (3 ^ zs.length)
theorem panC_length (zs : List Int) : (panC zs).length = (tot zs).toNat + 1 := tally_length _ _ _
theorem panKey_is (zs : List Int) (c v : Nat) : (panKey zs c == some v) = decide (tsum zs c = v) := by
  rw [Bool.eq_iff_iff]
  simp only [panKey, beq_iff_eq, decide_eq_true_eq]
  split
  · simp only [Option.some.injEq]; omega
  · constructor
    · intro h; cases h
    · intro h; omega
theorem panC_get {zs : List Int} (v : Nat) (hv : v < (tot zs).toNat + 1) : (panC zs)[v]?.getD 0 = (wN zs v : Int) := by
  rw [panC, tally_get _ _ _ _ hv, wN]
  congr 1
  exact cntN_congr (fun c _ => panKey_is zs c v)
theorem panC_last {zs : List Int} (hg : good zs) : (panC zs)[(panC zs).length - 1]?.getD 0 = 1 := by
  have ht := tot_bd hg
  rw [panC_length, panC_get _ (by omega), show (((tot zs).toNat + 1 - 1 : Nat) : Int) = tot zs by omega, wN_top hg]; rfl
theorem panC_tot {zs : List Int} (hg : good zs) : 2 * tot (panC zs) - (panC zs)[0]?.getD 0 = ((3 ^ zs.length : Nat) : Int) := by
  have ht := tot_bd hg
  have h1 : tot (panC zs) = ((cntN (fun c => (panKey zs c).isSome) (3 ^ zs.length) : Nat) : Int) := by
    refine tot_tally_some _ _ _ (fun c hc v hv => ?_)
    have := tsum_bd hg c
    unfold panKey at hv
    split at hv
    · simp only [Option.some.injEq] at hv; omega
    · cases hv
  have h2 : cntN (fun c => (panKey zs c).isSome) (3 ^ zs.length) = cntN (fun c => decide (0 ≤ tsum zs c)) (3 ^ zs.length) := by
    apply cntN_congr
    intro c _
    unfold panKey
    split
    · simp [*]
    · simp [*]
  have h3 : cntN (fun c => decide (0 ≤ tsum zs c)) (3 ^ zs.length) = cntN (fun c => decide (tsum zs c ≤ 0)) (3 ^ zs.length) := by
    rw [cntN_rev]
    apply cntN_congr
    intro c hc
    have := tsum_neg zs c hc
    rw [Bool.eq_iff_iff]
    simp only [decide_eq_true_eq]
    omega
  have h4 : cntN (fun c => decide (0 ≤ tsum zs c)) (3 ^ zs.length) + cntN (fun c => decide (tsum zs c ≤ 0)) (3 ^ zs.length) = 3 ^ zs.length + cntN (fun c => decide (tsum zs c = 0)) (3 ^ zs.length) := by
    apply cntN_incl
    intro c _
    simp only [decide_eq_true_eq]
    split <;> split <;> split <;> omega
  have h5 : (panC zs)[0]?.getD 0 = ((cntN (fun c => decide (tsum zs c = 0)) (3 ^ zs.length) : Nat) : Int) := panC_get 0 (by omega)
  rw [h1, h5, h2]
  omega
theorem tot_ge : ∀ {l : List Int} {k : Nat}, (∀ x ∈ l, 0 ≤ x) → k ≤ l.length → (∀ v, v < k → 1 ≤ l[v]?.getD 0) → (k : Int) ≤ tot l
  | l, 0, h, _, _ => by
    induction l with
    | nil => simp [tot]
    | cons x xs ih =>
      have h1 := h x (List.mem_cons_self ..)
      have h2 := ih (fun y hy => h y (List.mem_cons_of_mem _ hy)) (by omega) (fun v hv => by omega)
      rw [tot]; omega
  | [], k + 1, _, h, _ => by simp at h
  | x :: xs, k + 1, h, hk, hv => by
    have h1 := hv 0 (by omega)
    have h2 := tot_ge (l := xs) (k := k) (fun y hy => h y (List.mem_cons_of_mem _ hy)) (by simpa using hk) (fun v hvk => by have h3 := hv (v + 1) (by omega); simpa using h3)
    rw [tot]
    simp at h1
    omega
/-- what PanWhole says -/
theorem whole_law {zs : List Int} (hg : good zs) {k : Nat} (hk : k < (panC zs).length) (h : ∀ v : Nat, 1 ≤ v → v ≤ k → (0 : Int) < (panC zs)[v]?.getD 0) (h0 : (1 : Int) ≤ (panC zs)[0]?.getD 0) :
    2 * (k : Int) + 1 ≤ ((3 ^ zs.length : Nat) : Int) ∧ (k : Int) ≤ tot zs := by
  have ht := tot_bd hg
  have hl := panC_length zs
  refine ⟨?_, by omega⟩
  rw [← panC_tot hg]
  have hpos : ∀ x ∈ panC zs, 0 ≤ x := fun x hx => (tally_mem hx).1
  obtain ⟨y, ys, e⟩ : ∃ y ys, panC zs = y :: ys := by
    cases h : panC zs with
    | nil => rw [h] at hl; simp at hl
    | cons y ys => exact ⟨y, ys, rfl⟩
  rw [e] at h h0 hk hpos ⊢
  have h1 := tot_ge (l := ys) (k := k) (fun x hx => hpos x (List.mem_cons_of_mem _ hx)) (by simp at hk; omega) (fun v hv => by have h3 := h (v + 1) (by omega) (by omega); simp at h3; omega)
  rw [tot]
  simp at h0 ⊢
  omega
end Go.Proofs.YtmggcfilkiklbaaDoor
