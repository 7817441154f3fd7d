/- Plain words of chapter 8: when a list and a number are told; bits of a choice; the first choice with a property. Conditions: none. Tallies: how many numbers below m have a key; as a list over all keys. Conditions: none. Counting sums number by number: the reference's way gives the same list. Conditions: numbers from 1 on. Sums that are multiples: choices by their rests; the small cases of the laws of chapter 8 by the kernel. Conditions: the number by which rests are asked for is from 1 to 6. The laws of chapter 8, in plain words: totals of tallies, zero sums among n and 2n-1 numbers, all rests by n-1 numbers. Conditions: n from 1 to 6. -/
import Derived.Test.YtacedadenbinmaaZa
set_option linter.unusedVariables false
set_option linter.unusedSimpArgs false
set_option linter.unusedSectionVars false
namespace Go.Proofs.Ytacedadenbinmaa
def restOk (zs : List Int) (n : Int) : Bool := inL zs && (decide (1 ≤ n) && decide (n ≤ 6))
theorem restOk_iff (zs : List Int) (n : Int) : restOk zs n = true ↔ inL zs = true ∧ 1 ≤ n ∧ n ≤ 6 := by simp [restOk]
def popN : Nat → Nat → Nat
  | 0, _ => 0
  | f + 1, c => c % 2 + popN f (c / 2)
/-- the number of bits of a choice -/
def popc (c : Nat) : Nat := popN 20 c
theorem popN_le (f c : Nat) : popN f c ≤ f := by
  induction f generalizing c with
  | zero => exact Nat.le_refl _
  | succ f ih => have := ih (c / 2); simp only [popN]; omega
theorem popN_zero (f : Nat) : popN f 0 = 0 := by
  induction f with
  | zero => rfl
  | succ f ih => simp only [popN, Nat.zero_div, ih]
theorem popN_more (f c : Nat) (h : c < 2 ^ f) : popN (f + 1) c = popN f c := by
  induction f generalizing c with
  | zero =>
    have : c = 0 := by simpa using h
    subst this; rfl
  | succ f ih =>
    rw [Nat.pow_succ] at h
    rw [popN, ih (c / 2) (by omega), popN]
/-- RestFind's test -/
def findP (zs : List Int) (n : Int) (c : Nat) : Bool := restOk zs n && ((c : Int) != 0 && csum zs c % n == 0)
/-- RestJust's test -/
def justP (zs : List Int) (n k : Int) (c : Nat) : Bool := restOk zs n && ((popc c : Int) == k && csum zs c % n == 0)
/-- l8Find's test -/
def l8P (zs : List Int) (n k : Int) (c : Nat) : Bool := csum zs c % n == 0 && (decide (k < 0) && decide (0 < c) || decide (0 ≤ k) && (popc c : Int) == k)
/-- the least number below m at which p holds, or none -/
def FirstIs (p : Nat → Bool) (m : Nat) (r : Int) (ok : Bool) : Prop :=
  (ok = true ∧ ∃ c : Nat, r = c ∧ c < m ∧ p c = true ∧ ∀ d, d < c → p d = false) ∨ (ok = false ∧ r = 0 ∧ ∀ d, d < m → p d = false)
theorem FirstIs.unique {p : Nat → Bool} {m : Nat} {r r' : Int} {ok ok' : Bool} (h : FirstIs p m r ok) (h' : FirstIs p m r' ok') : r = r' ∧ ok = ok' := by
  rcases h with ⟨rfl, c, rfl, h1, h2, h3⟩ | ⟨rfl, rfl, h3⟩ <;> rcases h' with ⟨rfl, d, rfl, k1, k2, k3⟩ | ⟨rfl, rfl, k3⟩
  · have : c = d := by
      rcases Nat.lt_trichotomy c d with e | e | e
      · rw [k3 c e] at h2; cases h2
      · exact e
      · rw [h3 d e] at k2; cases k2
    exact ⟨by rw [this], rfl⟩
  · rw [k3 c h1] at h2; cases h2
  · rw [h3 d k1] at k2; cases k2
  · exact ⟨rfl, rfl⟩
theorem FirstIs.congr {p q : Nat → Bool} {m : Nat} {r : Int} {ok : Bool} (h : FirstIs p m r ok) (e : ∀ c, c < m → p c = q c) : FirstIs q m r ok := by
  rcases h with ⟨rfl, c, rfl, h1, h2, h3⟩ | ⟨rfl, rfl, h3⟩
  · exact .inl ⟨rfl, c, rfl, h1, by rw [← e c h1]; exact h2, fun d hd => by rw [← e d (Nat.lt_trans hd h1)]; exact h3 d hd⟩
  · exact .inr ⟨rfl, rfl, fun d hd => by rw [← e d hd]; exact h3 d hd⟩
/-- the same as one number: -1 for none -/
def FirstN (p : Nat → Bool) (m : Nat) (r : Int) : Prop :=
  (∃ c : Nat, r = c ∧ c < m ∧ p c = true ∧ ∀ d, d < c → p d = false) ∨ (r = -1 ∧ ∀ d, d < m → p d = false)
theorem FirstN.is {p : Nat → Bool} {m : Nat} {r : Int} (h : FirstN p m r) : FirstIs p m (if r < 0 then 0 else r) (decide (0 ≤ r)) := by
  rcases h with ⟨c, rfl, h⟩ | ⟨rfl, h⟩
  · rw [if_neg (by omega)]
    exact .inl ⟨by simp, c, rfl, h⟩
  · exact .inr ⟨by simp, by simp, h⟩
theorem find_no {zs : List Int} {n : Int} (h : restOk zs n = false) (m : Nat) : FirstIs (findP zs n) m 0 false := .inr ⟨rfl, rfl, fun d _ => by simp [findP, h]⟩
theorem just_no {zs : List Int} {n : Int} (k : Int) (h : restOk zs n = false) (m : Nat) : FirstIs (justP zs n k) m 0 false := .inr ⟨rfl, rfl, fun d _ => by simp [justP, h]⟩
theorem l8_find {zs : List Int} {n : Int} (h : restOk zs n = true) (c : Nat) : l8P zs n (-1) c = findP zs n c := by
  rw [Bool.eq_iff_iff]
  simp [l8P, findP, h]
  omega
theorem l8_just {zs : List Int} {n k : Int} (hk : 0 ≤ k) (h : restOk zs n = true) (c : Nat) : l8P zs n k c = justP zs n k c := by
  rw [Bool.eq_iff_iff]
  simp [l8P, justP, h]
  omega
theorem none_succ {p : Nat → Bool} {c : Nat} (h : ∀ d, d < c → p d = false) (hc : p c = false) : ∀ d, d < c + 1 → p d = false := fun d hd => by
  rcases Nat.lt_or_ge d c with e | e
  · exact h d e
  · obtain rfl : d = c := by omega
    exact hc
theorem l8P_of (zs : List Int) (n k : Int) (c : Nat) : l8P zs n k c = true ↔ csum zs c % n = 0 ∧ ((k < 0 ∧ 0 < c) ∨ (0 ≤ k ∧ (popc c : Int) = k)) := by simp [l8P]
theorem l8P_not (zs : List Int) (n k : Int) (c : Nat) : l8P zs n k c = false ↔ ¬ (csum zs c % n = 0 ∧ ((k < 0 ∧ 0 < c) ∨ (0 ≤ k ∧ (popc c : Int) = k))) := by rw [← l8P_of]; simp
end Go.Proofs.Ytacedadenbinmaa
namespace Go.Proofs.Ytacedadenbinmaa
/-- how many c below m have p -/
def cntN (p : Nat → Bool) : Nat → Nat
  | 0 => 0
  | m + 1 => cntN p m + if p m then 1 else 0
theorem cntN_le (p : Nat → Bool) (m : Nat) : cntN p m ≤ m := by
  induction m with
  | zero => exact Nat.le_refl _
  | succ m ih => simp only [cntN]; split <;> omega
theorem cntN_congr {p q : Nat → Bool} {m : Nat} (h : ∀ c, c < m → p c = q c) : cntN p m = cntN q m := by
  induction m with
  | zero => rfl
  | succ m ih => rw [cntN, cntN, ih (fun c hc => h c (by omega)), h m (by omega)]
/-- for each key below N how many c below m have it -/
def tally (key : Nat → Option Nat) (N m : Nat) : List Int := (List.range N).map fun v => ((cntN (fun c => key c == some v) m : Nat) : Int)
theorem tally_length (key : Nat → Option Nat) (N m : Nat) : (tally key N m).length = N := by simp [tally]
theorem tally_get (key : Nat → Option Nat) (N m v : Nat) (h : v < N) : (tally key N m)[v]?.getD 0 = ((cntN (fun c => key c == some v) m : Nat) : Int) := by simp [tally, h]
theorem tally_zero (key : Nat → Option Nat) (N : Nat) : tally key N 0 = List.replicate N 0 := by
  apply List.ext_getElem
  · simp [tally]
  · intro i h1 h2; simp [tally, cntN]
theorem tally_none {key : Nat → Option Nat} {N m : Nat} (h : key m = none) : tally key N (m + 1) = tally key N m := by
  apply List.ext_getElem
  · simp [tally]
  · intro i h1 h2; simp [tally, cntN, h]
theorem tally_some {key : Nat → Option Nat} {N m v : Nat} (h : key m = some v) : (tally key N m).set v ((tally key N m)[v]?.getD 0 + 1) = tally key N (m + 1) := by
  apply List.ext_getElem
  · simp [tally]
  · intro i h1 h2
    have hi : i < N := by simpa [tally] using h1
    rw [List.getElem_set]
    by_cases e : v = i
    · subst e
      rw [if_pos rfl, tally_get _ _ _ _ hi]
      simp [tally, cntN, h]
    · rw [if_neg e]
      simp [tally, cntN, h, e]
theorem tally_bd (key : Nat → Option Nat) (N m v : Nat) : 0 ≤ (tally key N m)[v]?.getD 0 ∧ (tally key N m)[v]?.getD 0 ≤ m := by
  by_cases h : v < N
  · rw [tally_get _ _ _ _ h]
    have := cntN_le (fun c => key c == some v) m
    omega
  · simp [tally, h]
theorem tally_mem {key : Nat → Option Nat} {N m : Nat} {x : Int} (h : x ∈ tally key N m) : 0 ≤ x ∧ x ≤ m := by
  simp only [tally, List.mem_map, List.mem_range] at h
  obtain ⟨v, hv, rfl⟩ := h
  have := cntN_le (fun c => key c == some v) m
  omega
/-- the same over a list of numbers -/
def tallyL (key : Nat → Option Nat) (N : Nat) (l : List Nat) : List Int := (List.range N).map fun v => ((l.countP (fun c => key c == some v) : Nat) : Int)
theorem tallyL_length (key : Nat → Option Nat) (N : Nat) (l : List Nat) : (tallyL key N l).length = N := by simp [tallyL]
theorem tallyL_get (key : Nat → Option Nat) (N v : Nat) (l : List Nat) (h : v < N) : (tallyL key N l)[v]?.getD 0 = ((l.countP (fun c => key c == some v) : Nat) : Int) := by simp [tallyL, h]
theorem tallyL_nil (key : Nat → Option Nat) (N : Nat) : tallyL key N [] = List.replicate N 0 := by
  apply List.ext_getElem
  · simp [tallyL]
  · intro i h1 h2; simp [tallyL]
theorem tallyL_none {key : Nat → Option Nat} {N m : Nat} {l : List Nat} (h : key m = none) : tallyL key N (l ++ [m]) = tallyL key N l := by
  apply List.ext_getElem
  · simp [tallyL]
  · intro i h1 h2; simp [tallyL, List.countP_append, h]
theorem tallyL_some {key : Nat → Option Nat} {N m v : Nat} {l : List Nat} (h : key m = some v) : (tallyL key N l).set v ((tallyL key N l)[v]?.getD 0 + 1) = tallyL key N (l ++ [m]) := by
  apply List.ext_getElem
  · simp [tallyL]
  · intro i h1 h2
    have hi : i < N := by simpa [tallyL] using h1
    rw [List.getElem_set]
    by_cases e : v = i
    · subst e
      rw [if_pos rfl, tallyL_get _ _ _ _ hi]
      simp [tallyL, List.countP_append, h]
    · rw [if_neg e]
      simp [tallyL, List.countP_append, h, e]
theorem tallyL_bd (key : Nat → Option Nat) (N v : Nat) (l : List Nat) : 0 ≤ (tallyL key N l)[v]?.getD 0 ∧ (tallyL key N l)[v]?.getD 0 ≤ l.length := by
  by_cases h : v < N
  · rw [tallyL_get _ _ _ _ h]
    have := List.countP_le_length (p := fun c => key c == some v) (l := l)
    omega
  · simp [tallyL, h]
theorem countP_range (p : Nat → Bool) (m : Nat) : (List.range m).countP p = cntN p m := by
  induction m with
  | zero => rfl
  | succ m ih => rw [List.range_succ, List.countP_append, ih, cntN]; simp [List.countP_cons, List.countP_nil]
theorem tallyL_range (key : Nat → Option Nat) (N m : Nat) : tallyL key N (List.range m) = tally key N m := by
  unfold tallyL tally
  simp only [countP_range]
/-- the keys of chapter 8: the rest of a sum -/
def restKey (zs : List Int) (n : Int) (c : Nat) : Option Nat := some (csum zs c % n).toNat
/-- RestCounts's list -/
def restC (zs : List Int) (n : Int) : List Int := tally (restKey zs n) n.toNat (2 ^ zs.length)
/-- the places below k with a number greater than 0 -/
def reachK (cs : List Int) (k : Nat) : List Int := ((List.range k).filter (fun i => decide (0 < cs[i]?.getD 0))).map (fun i : Nat => (i : Int))
theorem reachK_yes {cs : List Int} {k : Nat} (h : 0 < cs[k]?.getD 0) : reachK cs (k + 1) = reachK cs k ++ [(k : Int)] := by
  simp [reachK, List.range_succ, List.filter_append, h]
theorem reachK_no {cs : List Int} {k : Nat} (h : ¬ 0 < cs[k]?.getD 0) : reachK cs (k + 1) = reachK cs k := by
  simp [reachK, List.range_succ, List.filter_append, h]
theorem reachK_length (cs : List Int) (k : Nat) : (reachK cs k).length ≤ k := by
  unfold reachK
  rw [List.length_map]
  exact Nat.le_trans (List.length_filter_le _ _) (by simp)
def reachL (cs : List Int) : List Int := reachK cs cs.length
end Go.Proofs.Ytacedadenbinmaa
namespace Go.Proofs.Ytacedadenbinmaa
/-- the keys of chapter 1: the sum itself -/
def sumKey (zs : List Int) (c : Nat) : Option Nat := some (csum zs c).toNat
/-- SumCounts's list -/
def sumC (zs : List Int) : List Int := tally (sumKey zs) ((tot zs).toNat + 1) (2 ^ zs.length)
theorem sumC_length (zs : List Int) : (sumC zs).length = (tot zs).toNat + 1 := tally_length _ _ _

theorem cntN_add (p : Nat → Bool) (a b : Nat) : cntN p (a + b) = cntN p a + cntN (fun c => p (a + c)) b := by
  induction b with
  | zero => simp [cntN]
  | succ b ih => rw [← Nat.add_assoc, cntN, cntN, ih]; omega
theorem csum_low (xs : List Int) : ∀ c k : Nat, csum xs (c + 2 ^ xs.length * k) = csum xs c := by
  induction xs with
  | nil => intro c k; rfl
  | cons x xs ih =>
    intro c k
    have e : c + 2 ^ (xs.length + 1) * k = c + 2 * (2 ^ xs.length * k) := by rw [Nat.pow_succ, Nat.mul_comm (2 ^ xs.length) 2, Nat.mul_assoc]
    rw [csum_cons, csum_cons, List.length_cons, e, show (c + 2 * (2 ^ xs.length * k)) % 2 = c % 2 by omega, show (c + 2 * (2 ^ xs.length * k)) / 2 = c / 2 + 2 ^ xs.length * k by omega, ih]
theorem csum_snoc_lo (xs : List Int) (x : Int) (c : Nat) (h : c < 2 ^ xs.length) : csum (xs ++ [x]) c = csum xs c := by
  rw [csum_snoc, Nat.div_eq_of_lt h]; simp
theorem csum_snoc_hi (xs : List Int) (x : Int) (c : Nat) (h : c < 2 ^ xs.length) : csum (xs ++ [x]) (2 ^ xs.length + c) = csum xs c + x := by
  have h2 := csum_low xs c 1
  rw [Nat.mul_one, Nat.add_comm] at h2
  have e : (2 ^ xs.length + c) / 2 ^ xs.length % 2 = 1 := by
    rw [Nat.add_div_left _ (Nat.two_pow_pos _), Nat.div_eq_of_lt h]
  rw [csum_snoc, h2, if_pos e]

/-- one number more, v places of the old list done -/
def stepK (O : List Int) (x v : Nat) : List Int := (List.range (O.length + x)).map fun j => (if j < v then O[j]?.getD 0 else 0) + (if x ≤ j ∧ j - x < v then O[j - x]?.getD 0 else 0)
theorem stepK_length (O : List Int) (x v : Nat) : (stepK O x v).length = O.length + x := by simp [stepK]
theorem stepK_get (O : List Int) (x v j : Nat) (h : j < O.length + x) : (stepK O x v)[j]?.getD 0 = (if j < v then O[j]?.getD 0 else 0) + (if x ≤ j ∧ j - x < v then O[j - x]?.getD 0 else 0) := by simp [stepK, h]
theorem stepK_zero (O : List Int) (x : Nat) : stepK O x 0 = List.replicate (O.length + x) 0 := by
  apply List.ext_getElem
  · simp [stepK]
  · intro i h1 h2; simp [stepK]
theorem stepK_succ (O : List Int) (x v : Nat) (hx : 1 ≤ x) (hv : v < O.length) :
    (((stepK O x v).set v ((stepK O x v)[v]?.getD 0 + O[v]?.getD 0)).set (v + x) ((stepK O x v)[v + x]?.getD 0 + O[v]?.getD 0)) = stepK O x (v + 1) := by
  apply List.ext_getElem
  · simp [stepK]
  · intro i h1 h2
    have hi : i < O.length + x := by simpa [stepK] using h2
    rw [List.getElem_set, List.getElem_set]
    simp only [stepK_get O x v (v + x) (by omega), stepK_get O x v v (by omega)]
    have e : (stepK O x (v + 1))[i] = (if i < v + 1 then O[i]?.getD 0 else 0) + (if x ≤ i ∧ i - x < v + 1 then O[i - x]?.getD 0 else 0) := by simp [stepK]
    have e0 : (stepK O x v)[i]'(by simpa [stepK] using hi) = (if i < v then O[i]?.getD 0 else 0) + (if x ≤ i ∧ i - x < v then O[i - x]?.getD 0 else 0) := by simp [stepK]
    rw [e]
    by_cases h3 : v + x = i
    · subst h3
      rw [if_pos rfl, if_neg (show ¬ v + x < v by omega), if_neg (show ¬ v + x < v + 1 by omega), show v + x - x = v by omega, if_neg (show ¬ (x ≤ v + x ∧ v < v) by omega), if_pos (show x ≤ v + x ∧ v < v + 1 by omega)]
      omega
    · rw [if_neg h3]
      by_cases h4 : v = i
      · subst h4
        rw [if_pos rfl, if_neg (show ¬ v < v by omega), if_pos (show v < v + 1 by omega)]
        by_cases h5 : x ≤ v
        · rw [if_pos (show x ≤ v ∧ v - x < v by omega), if_pos (show x ≤ v ∧ v - x < v + 1 by omega)]; omega
        · rw [if_neg (by omega), if_neg (by omega)]; omega
      · rw [if_neg h4, e0]
        have c1 : (i < v) ↔ (i < v + 1) := by omega
        have c2 : (x ≤ i ∧ i - x < v) ↔ (x ≤ i ∧ i - x < v + 1) := by omega
        simp only [c1, c2]
theorem stepK_mid (O : List Int) (x v : Nat) (hx : 1 ≤ x) : ((stepK O x v).set v ((stepK O x v)[v]?.getD 0 + O[v]?.getD 0))[v + x]?.getD 0 = (stepK O x v)[v + x]?.getD 0 := by
  rw [List.getElem?_set_ne (by omega)]
/-- the counts of a list with one number more -/
theorem sumC_snoc (xs : List Int) (x : Int) (h : good xs) (hx : 1 ≤ x) : sumC (xs ++ [x]) = stepK (sumC xs) x.toNat (sumC xs).length := by
  have ht := tot_bd h
  have e1 : tot (xs ++ [x]) = tot xs + x := by rw [tot_append]; simp [tot]
  have e2 : (tot (xs ++ [x])).toNat + 1 = (tot xs).toNat + 1 + x.toNat := by omega
  have hl := sumC_length xs
  apply List.ext_getElem
  · rw [sumC_length, stepK_length, sumC_length]; omega
  · intro j h1 h2
    rw [sumC_length, e2] at h1
    have hg : (stepK (sumC xs) x.toNat (sumC xs).length)[j] = (stepK (sumC xs) x.toNat (sumC xs).length)[j]?.getD 0 := by rw [List.getElem?_eq_getElem h2]; rfl
    rw [hg, stepK_get _ _ _ _ (by omega)]
    have hs : ∀ i, (if i < (sumC xs).length then (sumC xs)[i]?.getD 0 else 0) = ((cntN (fun c => csum xs c == (i : Int)) (2 ^ xs.length) : Nat) : Int) := by
      intro i
      by_cases hi : i < (sumC xs).length
      · rw [if_pos hi]
        unfold sumC
        rw [tally_get _ _ _ _ (by omega)]
        congr 1
        apply cntN_congr
        intro c _
        have := csum_bd h c
        rw [Bool.eq_iff_iff]
        simp [sumKey]
        omega
      · rw [if_neg hi, cntN_congr (q := fun _ => false)]
        · have : ∀ m, cntN (fun _ => false) m = 0 := by intro m; induction m with | zero => rfl | succ m ih => simp [cntN, ih]
          rw [this]; rfl
        · intro c _
          have := csum_bd h c
          simp; omega
    have hL : (sumC (xs ++ [x]))[j]'(by rw [sumC_length, e2]; exact h1) = ((cntN (fun c => csum (xs ++ [x]) c == (j : Int)) (2 ^ xs.length + 2 ^ xs.length) : Nat) : Int) := by
      simp only [sumC, tally, List.getElem_map, List.getElem_range, List.length_append, List.length_cons, List.length_nil]
      rw [show 2 ^ (xs.length + (0 + 1)) = 2 ^ xs.length + 2 ^ xs.length by rw [Nat.zero_add, Nat.pow_succ]; omega]
      congr 1
      apply cntN_congr
      intro c _
      have hgd : good (xs ++ [x]) ∨ True := .inr trivial
      have h0 : 0 ≤ csum (xs ++ [x]) c := by
        rw [csum_snoc]
        have := csum_bd h c
        split <;> omega
      rw [Bool.eq_iff_iff]
      simp [sumKey]
      omega
    rw [hL, cntN_add, hs j]
    rw [cntN_congr (q := fun c => csum xs c == (j : Int)) (fun c hc => by rw [csum_snoc_lo xs x c hc]), cntN_congr (p := fun c => csum (xs ++ [x]) (2 ^ xs.length + c) == (j : Int)) (q := fun c => csum xs c == (j : Int) - x) (fun c hc => by
      rw [csum_snoc_hi xs x c hc, Bool.eq_iff_iff]; simp; omega)]
    by_cases hxj : x.toNat ≤ j
    · have := hs (j - x.toNat)
      rw [show ((j - x.toNat : Nat) : Int) = (j : Int) - x by omega] at this
      rw [Int.natCast_add, ← this]
      simp only [hxj, true_and]
    · rw [if_neg (by omega), cntN_congr (p := fun c => csum xs c == (j : Int) - x) (q := fun _ => false)]
      · have : ∀ m, cntN (fun _ => false) m = 0 := by intro m; induction m with | zero => rfl | succ m ih => simp [cntN, ih]
        rw [this]; simp
      · intro c _
        have := csum_bd h c
        simp; omega
theorem sumC_nil : sumC [] = [1] := by decide
end Go.Proofs.Ytacedadenbinmaa
namespace Go.Proofs.Ytacedadenbinmaa
/-- f 0 + .. + f (n - 1) -/
def sumF : Nat → (Nat → Nat) → Nat
  | 0, _ => 0
  | n + 1, f => sumF n f + f n
theorem sumF_congr {n : Nat} {f g : Nat → Nat} (h : ∀ r, r < n → f r = g r) : sumF n f = sumF n g := by
  induction n with
  | zero => rfl
  | succ n ih => rw [sumF, sumF, ih (fun r hr => h r (by omega)), h n (by omega)]
theorem sumF_zero {n : Nat} {f : Nat → Nat} (h : ∀ r, r < n → f r = 0) : sumF n f = 0 := by
  induction n with
  | zero => rfl
  | succ n ih => rw [sumF, ih (fun r hr => h r (by omega)), h n (by omega)]
/-- f with one less at r0 -/
def less (f : Nat → Nat) (r0 : Nat) : Nat → Nat := fun r => if r = r0 then f r - 1 else f r
theorem sumF_less {n r0 : Nat} {f : Nat → Nat} (g : Nat → Nat) (hr : r0 < n) (h : 1 ≤ f r0) : sumF n (fun r => g r * f r) = sumF n (fun r => g r * less f r0 r) + g r0 := by
  induction n with
  | zero => omega
  | succ n ih =>
    rw [sumF, sumF]
    by_cases e : r0 = n
    · subst e
      have e1 : sumF r0 (fun r => g r * f r) = sumF r0 (fun r => g r * less f r0 r) := sumF_congr (fun r hr => by rw [less, if_neg (by omega)])
      have e2 : g r0 * f r0 = g r0 * less f r0 r0 + g r0 := by
        rw [less, if_pos rfl]
        obtain ⟨q, hq⟩ : ∃ q, f r0 = q + 1 := ⟨f r0 - 1, by omega⟩
        rw [hq, Nat.add_sub_cancel, Nat.mul_add, Nat.mul_one]
      rw [e1, e2]; omega
    · have e2 : g n * f n = g n * less f r0 n := by rw [less, if_neg (by omega)]
      rw [ih (by omega), e2]; omega
/-- how many numbers have the rest r -/
def cntR (n : Int) : List Int → Nat → Nat
  | [], _ => 0
  | z :: zs, r => cntR n zs r + if (z % n).toNat = r then 1 else 0
theorem cntR_sum {n : Nat} (hn : 1 ≤ n) (zs : List Int) : sumF n (cntR n zs) = zs.length := by
  induction zs with
  | nil => exact sumF_zero (fun _ _ => rfl)
  | cons z zs ih =>
    have h1 := Int.emod_nonneg z (show (n : Int) ≠ 0 by omega)
    have h2 := Int.emod_lt_of_pos z (show 0 < (n : Int) by omega)
    have h3 := sumF_less (n := n) (r0 := (z % n).toNat) (f := cntR n (z :: zs)) (fun _ => 1) (by omega) (by simp [cntR])
    simp only [Nat.one_mul] at h3
    rw [h3, sumF_congr (g := cntR n zs), ih, List.length_cons]
    intro r _
    rw [less, cntR]
    by_cases e : r = (z % n).toNat
    · rw [if_pos e, if_pos e.symm]; omega
    · rw [if_neg e, if_neg (fun h => e h.symm)]; rfl
theorem popc_double (c b : Nat) (hb : b < 2) (hc : c < 2 ^ 19) : popc (b + 2 * c) = b + popc c := by
  have h : popc (b + 2 * c) = (b + 2 * c) % 2 + popN 19 ((b + 2 * c) / 2) := rfl
  rw [h, show (b + 2 * c) % 2 = b by omega, show (b + 2 * c) / 2 = c by omega]
  unfold popc
  rw [popN_more 19 c hc]
theorem emod_mix (a b n : Int) : (a + b % n) % n = (a % n + b % n) % n := by rw [Int.add_emod, Int.emod_emod]
/-- a choice with given numbers of each rest -/
theorem pick_rests {n : Nat} (hn : 1 ≤ n) (zs : List Int) : ∀ j : Nat → Nat, zs.length ≤ 18 → (∀ r, r < n → j r ≤ cntR n zs r) →
    ∃ c, c < 2 ^ zs.length ∧ popc c = sumF n j ∧ csum zs c % (n : Int) = ((sumF n (fun r => r * j r) : Nat) : Int) % n := by
  induction zs with
  | nil =>
    intro j _ h
    have h0 : ∀ r, r < n → j r = 0 := fun r hr => by have := h r hr; simp [cntR] at this; exact this
    exact ⟨0, by simp, by rw [sumF_zero h0]; decide, by rw [sumF_zero (fun r hr => by rw [h0 r hr, Nat.mul_zero])]; rfl⟩
  | cons z zs ih =>
    intro j hl h
    rw [List.length_cons] at hl
    have h1 := Int.emod_nonneg z (show (n : Int) ≠ 0 by omega)
    have h2 := Int.emod_lt_of_pos z (show 0 < (n : Int) by omega)
    have hp : 2 ^ zs.length < 2 ^ 19 := Nat.pow_lt_pow_right (by omega) (by omega)
    by_cases hj : j (z % n).toNat ≤ cntR n zs (z % n).toNat
    · obtain ⟨c, c1, c2, c3⟩ := ih j (by omega) (fun r hr => by
        have := h r hr
        rw [cntR] at this
        by_cases e : (z % n).toNat = r
        · rw [← e]; exact hj
        · rw [if_neg e] at this; exact this)
      refine ⟨0 + 2 * c, by rw [List.length_cons, Nat.pow_succ]; omega, by rw [popc_double c 0 (by omega) (by omega), c2]; omega, ?_⟩
      rw [csum_cons, if_neg (by omega), show (0 + 2 * c) / 2 = c by omega, Int.zero_add, c3]
    · have hb := h (z % n).toNat (by omega)
      rw [cntR, if_pos rfl] at hb
      obtain ⟨c, c1, c2, c3⟩ := ih (less j (z % n).toNat) (by omega) (fun r hr => by
        rw [less]
        have := h r hr
        rw [cntR] at this
        by_cases e : r = (z % n).toNat
        · subst e; rw [if_pos rfl]; omega
        · rw [if_neg e]; rw [if_neg (fun h => e h.symm)] at this; exact this)
      have s1 := sumF_less (n := n) (r0 := (z % n).toNat) (f := j) (fun _ => 1) (by omega) (by omega)
      have s2 := sumF_less (n := n) (r0 := (z % n).toNat) (f := j) (fun r => r) (by omega) (by omega)
      simp only [Nat.one_mul] at s1
      have s1' : sumF n j = sumF n (less j (z % n).toNat) + 1 := s1
      have e : (((z % n).toNat : Nat) : Int) = z % n := Int.toNat_of_nonneg h1
      refine ⟨1 + 2 * c, by rw [List.length_cons, Nat.pow_succ]; omega, by rw [popc_double c 1 (by omega) (by omega), c2, s1']; omega, ?_⟩
      rw [csum_cons, if_pos (by omega), show (1 + 2 * c) / 2 = c by omega, s2, Int.natCast_add, e, Int.add_comm z, Int.add_emod (csum zs c) z, c3]
      exact (emod_mix _ _ _).symm
/-- all lists of n numbers with the sum m -/
def vecs : Nat → Nat → List (List Nat)
  | 0, 0 => [[]]
  | 0, _ + 1 => []
  | n + 1, m => (List.range (m + 1)).flatMap fun x => (vecs n (m - x)).map fun v => x :: v
theorem vecs_all : ∀ (n m : Nat) (v : List Nat), v.length = n → v.sum = m → v ∈ vecs n m := by
  intro n
  induction n with
  | zero =>
    intro m v hl hs
    obtain rfl := List.eq_nil_of_length_eq_zero hl
    simp at hs; subst hs; simp [vecs]
  | succ n ih =>
    intro m v hl hs
    cases v with
    | nil => simp at hl
    | cons x v =>
      simp only [List.sum_cons] at hs
      simp only [vecs, List.mem_flatMap, List.mem_range, List.mem_map]
      exact ⟨x, by omega, v, ih (m - x) v (by simpa using hl) (by omega), rfl⟩
/-- u is at most v, place by place -/
def leqV : List Nat → List Nat → Bool
  | [], _ => true
  | _ :: _, [] => false
  | x :: u, y :: v => decide (x ≤ y) && leqV u v
/-- the sum of r times the number at place r, from place i on -/
def wsum : Nat → List Nat → Nat
  | _, [] => 0
  | i, x :: v => i * x + wsum (i + 1) v
/-- all lists of n numbers with a sum from 1 to m, whose weighted sum has the rest 0 -/
def zeros (n m : Nat) : List (List Nat) := ((List.range m).flatMap fun k => vecs n (k + 1)).filter fun v => wsum 0 v % n == 0
def zerosAt (n m : Nat) : List (List Nat) := (vecs n m).filter fun v => wsum 0 v % n == 0
theorem dav_all : ((List.range 6).all fun i => (vecs (i + 1) (i + 1)).all fun v => (zeros (i + 1) (i + 1)).any fun u => leqV u v) = true := by decide +kernel
theorem egz_all : ((List.range 6).all fun i => (vecs (i + 1) (2 * i + 1)).all fun v => (zerosAt (i + 1) (i + 1)).any fun u => leqV u v) = true := by decide +kernel
end Go.Proofs.Ytacedadenbinmaa
namespace Go.Proofs.Ytacedadenbinmaa
theorem tot_set (l : List Int) : ∀ v : Nat, v < l.length → tot (l.set v (l[v]?.getD 0 + 1)) = tot l + 1 := by
  induction l with
  | nil => intro v h; simp at h
  | cons x xs ih =>
    intro v h
    cases v with
    | zero => simp [tot]; omega
    | succ v =>
      simp only [List.set_cons_succ, tot, List.getElem?_cons_succ]
      rw [ih v (by simpa using h)]; omega
theorem tot_zeros (n : Nat) : tot (List.replicate n 0) = 0 := by
  induction n with
  | zero => rfl
  | succ n ih => rw [List.replicate_succ, tot, ih]; rfl
theorem tot_tally (key : Nat → Option Nat) (N m : Nat) (h : ∀ c, c < m → ∃ v, key c = some v ∧ v < N) : tot (tally key N m) = m := by
  induction m with
  | zero => rw [tally_zero, tot_zeros]; rfl
  | succ m ih =>
    obtain ⟨v, h1, h2⟩ := h m (by omega)
    rw [← tally_some h1, tot_set _ _ (by rw [tally_length]; exact h2), ih (fun c hc => h c (by omega))]
    omega
theorem cntN_pos {p : Nat → Bool} {m : Nat} (c : Nat) (h : c < m) (hp : p c = true) : 1 ≤ cntN p m := by
  induction m with
  | zero => omega
  | succ m ih =>
    rw [cntN]
    by_cases e : c = m
    · subst e; rw [if_pos hp]; omega
    · have := ih (by omega); omega
theorem csum_zero (zs : List Int) : csum zs 0 = 0 := by
  induction zs with
  | nil => rfl
  | cons x xs ih => simp [csum, ih]
theorem pow_bd10 (n : Nat) (h : n ≤ 10) : 1 ≤ (2 : Int) ^ n ∧ (2 : Int) ^ n ≤ 1024 := by
  have h1 : 2 ^ n ≤ 2 ^ 10 := Nat.pow_le_pow_right (by omega) h
  have h2 : 0 < 2 ^ n := Nat.two_pow_pos n
  have h3 : ((2 ^ n : Nat) : Int) = 2 ^ n := by simp
  omega
theorem restKey_lt (zs : List Int) {n : Int} (hn : 1 ≤ n) (c : Nat) : ∃ v, restKey zs n c = some v ∧ v < n.toNat := by
  have h1 := Int.emod_nonneg (csum zs c) (show n ≠ 0 by omega)
  have h2 := Int.emod_lt_of_pos (csum zs c) (show 0 < n by omega)
  exact ⟨_, rfl, by omega⟩
theorem restC_tot (zs : List Int) {n : Int} (hn : 1 ≤ n) : tot (restC zs n) = ((2 ^ zs.length : Nat) : Int) := tot_tally _ _ _ (fun c _ => restKey_lt zs hn c)
theorem restC_pos (zs : List Int) {n : Int} (hn : 1 ≤ n) (c : Nat) (hc : c < 2 ^ zs.length) : (1 : Int) ≤ (restC zs n)[(csum zs c % n).toNat]?.getD 0 := by
  have h1 := Int.emod_nonneg (csum zs c) (show n ≠ 0 by omega)
  have h2 := Int.emod_lt_of_pos (csum zs c) (show 0 < n by omega)
  rw [restC, tally_get _ _ _ _ (by omega)]
  have := cntN_pos (p := fun d => restKey zs n d == some (csum zs c % n).toNat) c hc (by simp [restKey])
  omega
theorem restC_first (zs : List Int) {n : Int} (hn : 1 ≤ n) : (1 : Int) ≤ (restC zs n)[0]?.getD 0 := by
  have := restC_pos zs hn 0 (Nat.two_pow_pos _)
  rw [csum_zero] at this
  simpa using this
theorem sumF_shift (n : Nat) (f : Nat → Nat) : sumF (n + 1) f = f 0 + sumF n (fun r => f (r + 1)) := by
  induction n with
  | zero => simp [sumF]
  | succ n ih => rw [sumF, ih, sumF]; omega
theorem sum_list (u : List Nat) : sumF u.length (fun r => u[r]?.getD 0) = u.sum := by
  induction u with
  | nil => rfl
  | cons x u ih =>
    rw [List.length_cons, sumF_shift, List.sum_cons]
    simp only [List.getElem?_cons_zero, Option.getD_some, List.getElem?_cons_succ]
    rw [ih]
theorem wsum_list (u : List Nat) : ∀ i : Nat, sumF u.length (fun r => (i + r) * u[r]?.getD 0) = wsum i u := by
  induction u with
  | nil => intro i; rfl
  | cons x u ih =>
    intro i
    rw [List.length_cons, sumF_shift, wsum, ← ih (i + 1)]
    simp only [List.getElem?_cons_zero, Option.getD_some, List.getElem?_cons_succ, Nat.add_zero]
    congr 1
    exact sumF_congr (fun r _ => by rw [show i + (r + 1) = i + 1 + r by omega])
theorem vecs_is : ∀ (n m : Nat) (v : List Nat), v ∈ vecs n m → v.length = n ∧ v.sum = m := by
  intro n
  induction n with
  | zero =>
    intro m v h
    cases m with
    | zero => simp [vecs] at h; subst h; exact ⟨rfl, rfl⟩
    | succ m => simp [vecs] at h
  | succ n ih =>
    intro m v h
    simp only [vecs, List.mem_flatMap, List.mem_range, List.mem_map] at h
    obtain ⟨x, hx, u, hu, rfl⟩ := h
    obtain ⟨h1, h2⟩ := ih _ _ hu
    refine ⟨by rw [List.length_cons, h1], ?_⟩
    rw [List.sum_cons, h2]; omega
theorem leqV_get : ∀ (u v : List Nat) (r : Nat), leqV u v = true → u[r]?.getD 0 ≤ v[r]?.getD 0 := by
  intro u
  induction u with
  | nil => intro v r _; simp
  | cons x u ih =>
    intro v r h
    cases v with
    | nil => simp [leqV] at h
    | cons y v =>
      simp only [leqV, Bool.and_eq_true, decide_eq_true_eq] at h
      cases r with
      | zero => simpa using h.1
      | succ r => simpa using ih v r h.2
/-- the numbers of each rest as a list -/
def restV (n : Nat) (zs : List Int) : List Nat := (List.range n).map (cntR n zs)
theorem restV_length (n : Nat) (zs : List Int) : (restV n zs).length = n := by simp [restV]
theorem restV_get (n : Nat) (zs : List Int) (r : Nat) (h : r < n) : (restV n zs)[r]?.getD 0 = cntR n zs r := by simp [restV, h]
theorem restV_sum {n : Nat} (hn : 1 ≤ n) (zs : List Int) : (restV n zs).sum = zs.length := by
  rw [← sum_list, restV_length, sumF_congr (g := cntR n zs) (fun r hr => restV_get n zs r hr), cntR_sum hn]
theorem csum_take_low (zs : List Int) (m c : Nat) (hm : m ≤ zs.length) (hc : c < 2 ^ m) : csum zs c = csum (zs.take m) c := by
  induction zs generalizing m c with
  | nil => simp
  | cons x xs ih =>
    cases m with
    | zero =>
      have : c = 0 := by simpa using hc
      subst this
      rw [csum_zero, csum_zero]
    | succ m =>
      rw [Nat.pow_succ] at hc
      rw [List.take_succ_cons, csum_cons, csum_cons, ih m (c / 2) (by simpa using hm) (by omega)]
/-- a choice of the first m numbers with as many of each rest as u tells -/
theorem pick_vec {n : Nat} (hn : 1 ≤ n) (zs : List Int) (m : Nat) (hm : m ≤ zs.length) (hl : m ≤ 18) (u : List Nat) (hu : u.length = n) (h : ∀ r, r < n → u[r]?.getD 0 ≤ cntR n (zs.take m) r) :
    ∃ c, c < 2 ^ m ∧ popc c = u.sum ∧ csum zs c % (n : Int) = ((wsum 0 u : Nat) : Int) % n := by
  have hlen : (zs.take m).length = m := by simp; omega
  obtain ⟨c, h1, h2, h3⟩ := pick_rests hn (zs.take m) (fun r => u[r]?.getD 0) (by omega) h
  rw [hlen] at h1
  subst hu
  refine ⟨c, h1, by rw [h2, sum_list], ?_⟩
  rw [csum_take_low zs m c hm h1, h3, ← wsum_list u 0]
  simp only [Nat.zero_add]
theorem dav {n : Nat} (hn : 1 ≤ n ∧ n ≤ 6) (zs : List Int) (hl : n ≤ zs.length) : ∃ c, 0 < c ∧ c < 2 ^ zs.length ∧ csum zs c % (n : Int) = 0 ∧ 1 ≤ popc c ∧ popc c ≤ n := by
  have hv : restV n (zs.take n) ∈ vecs n n := vecs_all _ _ _ (restV_length _ _) (by rw [restV_sum hn.1]; simp; omega)
  have hd := List.all_eq_true.1 (List.all_eq_true.1 dav_all (n - 1) (List.mem_range.2 (by omega)))
  rw [show n - 1 + 1 = n by omega] at hd
  obtain ⟨u, hu, hle⟩ := List.any_eq_true.1 (hd _ hv)
  simp only [zeros, List.mem_filter, List.mem_flatMap, List.mem_range, beq_iff_eq] at hu
  obtain ⟨⟨k, hk, hu⟩, hz⟩ := hu
  obtain ⟨h1, h2⟩ := vecs_is _ _ _ hu
  obtain ⟨c, c1, c2, c3⟩ := pick_vec hn.1 zs n hl (by omega) u h1 (fun r hr => by rw [← restV_get n _ r hr]; exact leqV_get u _ r hle)
  have hp : 2 ^ n ≤ 2 ^ zs.length := Nat.pow_le_pow_right (by omega) hl
  refine ⟨c, ?_, by omega, ?_, by omega, by omega⟩
  · rcases Nat.eq_zero_or_pos c with e | e
    · subst e
      have : popc 0 = 0 := popN_zero 20
      omega
    · exact e
  · rw [c3]
    have : ((wsum 0 u : Nat) : Int) % (n : Int) = ((wsum 0 u % n : Nat) : Int) := by simp
    rw [this, hz]; rfl
theorem egz {n : Nat} (hn : 1 ≤ n ∧ n ≤ 6) (zs : List Int) (hl : 2 * n - 1 ≤ zs.length) : ∃ c, c < 2 ^ zs.length ∧ csum zs c % (n : Int) = 0 ∧ popc c = n := by
  have hv : restV n (zs.take (2 * n - 1)) ∈ vecs n (2 * n - 1) := vecs_all _ _ _ (restV_length _ _) (by rw [restV_sum hn.1]; simp; omega)
  have hd := List.all_eq_true.1 (List.all_eq_true.1 egz_all (n - 1) (List.mem_range.2 (by omega)))
  rw [show n - 1 + 1 = n by omega, show 2 * (n - 1) + 1 = 2 * n - 1 by omega] at hd
  obtain ⟨u, hu, hle⟩ := List.any_eq_true.1 (hd _ hv)
  simp only [zerosAt, List.mem_filter, beq_iff_eq] at hu
  obtain ⟨hu, hz⟩ := hu
  obtain ⟨h1, h2⟩ := vecs_is _ _ _ hu
  obtain ⟨c, c1, c2, c3⟩ := pick_vec hn.1 zs (2 * n - 1) hl (by omega) u h1 (fun r hr => by rw [← restV_get n _ r hr]; exact leqV_get u _ r hle)
  have hp : 2 ^ (2 * n - 1) ≤ 2 ^ zs.length := Nat.pow_le_pow_right (by omega) hl
  refine ⟨c, by omega, ?_, by omega⟩
  rw [c3]
  have : ((wsum 0 u : Nat) : Int) % (n : Int) = ((wsum 0 u % n : Nat) : Int) := by simp
  rw [this, hz]; rfl
/-- how many numbers are no multiples -/
def nonM (n : Int) : List Int → Nat
  | [] => 0
  | z :: zs => nonM n zs + if z % n = 0 then 0 else 1
theorem nonM_snoc (n : Int) (zs : List Int) (z : Int) : nonM n (zs ++ [z]) = nonM n zs + if z % n = 0 then 0 else 1 := by
  induction zs with
  | nil => simp [nonM]
  | cons x xs ih => rw [List.cons_append, nonM, ih, nonM]; omega
theorem nonM_le (n : Int) (zs : List Int) : nonM n zs ≤ zs.length := by
  induction zs with
  | nil => exact Nat.le_refl _
  | cons x xs ih => rw [nonM, List.length_cons]; split <;> omega
theorem nonM_cnt {n : Nat} (hn : 1 ≤ n) (zs : List Int) : cntR n zs 0 + nonM n zs = zs.length := by
  induction zs with
  | nil => rfl
  | cons z zs ih =>
    have h1 := Int.emod_nonneg z (show (n : Int) ≠ 0 by omega)
    rw [cntR, nonM, List.length_cons]
    by_cases e : z % (n : Int) = 0
    · rw [if_pos (by omega), if_pos e]; omega
    · rw [if_neg (by omega), if_neg e]; omega
theorem reach_all : ([2, 3, 5].all fun n => (vecs (n - 1) (n - 1)).all fun v => (List.range n).all fun r => ((List.range n).flatMap fun k => vecs n k).any fun u => wsum 0 u % n == r && leqV u (0 :: v)) = true := by decide +kernel
theorem below_sum : ∀ (v : List Nat) (m : Nat), m ≤ v.sum → ∃ u, leqV u v = true ∧ u.length = v.length ∧ u.sum = m := by
  intro v
  induction v with
  | nil => intro m h; exact ⟨[], rfl, rfl, by simp at h; simp [h]⟩
  | cons x v ih =>
    intro m h
    rw [List.sum_cons] at h
    obtain ⟨u, h1, h2, h3⟩ := ih (m - min x m) (by omega)
    exact ⟨min x m :: u, by simp [leqV, h1]; omega, by simp [h2], by rw [List.sum_cons, h3]; omega⟩
theorem reach {n : Nat} (hn : n = 2 ∨ n = 3 ∨ n = 5) (zs : List Int) (hl : zs.length ≤ 18) (hk : n - 1 ≤ nonM n zs) (r : Nat) (hr : r < n) : ∃ c, c < 2 ^ zs.length ∧ csum zs c % (n : Int) = r := by
  have hn1 : 1 ≤ n := by omega
  obtain ⟨x, v, hxv⟩ : ∃ x v, restV n zs = x :: v := by
    have := restV_length n zs
    cases h : restV n zs with
    | nil => rw [h] at this; simp at this; omega
    | cons x v => exact ⟨x, v, rfl⟩
  have hvl : v.length = n - 1 := by have := restV_length n zs; rw [hxv] at this; simp at this; omega
  have hx : x = cntR n zs 0 := by have := restV_get n zs 0 (by omega); rw [hxv] at this; simpa using this
  have hvs : n - 1 ≤ v.sum := by
    have h1 := restV_sum hn1 zs
    rw [hxv, List.sum_cons] at h1
    have h2 := nonM_cnt hn1 zs
    omega
  obtain ⟨v', e1, e2, e3⟩ := below_sum v (n - 1) hvs
  have hv' : v' ∈ vecs (n - 1) (n - 1) := vecs_all _ _ _ (by omega) e3
  have hd := List.all_eq_true.1 (List.all_eq_true.1 (List.all_eq_true.1 reach_all n (by simp; omega)) v' hv') r (List.mem_range.2 hr)
  obtain ⟨u, hu, hle⟩ := List.any_eq_true.1 hd
  simp only [List.mem_flatMap, List.mem_range] at hu
  obtain ⟨k, hk, hu⟩ := hu
  simp only [Bool.and_eq_true, beq_iff_eq] at hle
  obtain ⟨h1, h2⟩ := vecs_is _ _ _ hu
  obtain ⟨c, c1, c2, c3⟩ := pick_vec hn1 zs zs.length (Nat.le_refl _) hl u h1 (fun i hi => by
    rw [List.take_length, ← restV_get n zs i hi, hxv]
    have a1 := leqV_get u _ i hle.2
    cases i with
    | zero => simp at a1; omega
    | succ i =>
      have a2 := leqV_get v' v i e1
      simp at a1 a2 ⊢
      omega)
  refine ⟨c, c1, ?_⟩
  rw [c3]
  have : ((wsum 0 u : Nat) : Int) % (n : Int) = ((wsum 0 u % n : Nat) : Int) := by simp
  rw [this, hle.1]
theorem popN_snoc (k : Nat) : ∀ c : Nat, popN (k + 1) c = popN k c + c / 2 ^ k % 2 := by
  induction k with
  | zero => intro c; simp [popN]
  | succ k ih =>
    intro c
    rw [popN, ih (c / 2), popN, Nat.div_div_eq_div_mul, Nat.pow_succ, Nat.mul_comm 2]
    omega
theorem popc_ten (c : Nat) (h : c < 1024) : popN 10 c = popc c := by
  have h' : ∀ j : Nat, popN (10 + j) c = popN 10 c := by
    intro j
    induction j with
    | zero => rfl
    | succ j ih =>
      have hp : 2 ^ 10 ≤ 2 ^ (10 + j) := Nat.pow_le_pow_right (by omega) (by omega)
      rw [← Nat.add_assoc, popN_more (10 + j) c (by omega), ih]
  exact (h' 10).symm
theorem popN_pos : ∀ (f c : Nat), 0 < c → c < 2 ^ f → 1 ≤ popN f c := by
  intro f
  induction f with
  | zero => intro c h1 h2; simp at h2; omega
  | succ f ih =>
    intro c h1 h2
    rw [Nat.pow_succ] at h2
    rw [popN]
    by_cases e : c % 2 = 1
    · omega
    · have := ih (c / 2) (by omega) (by omega); omega
theorem popN_len : ∀ (m f c : Nat), c < 2 ^ m → popN f c ≤ m := by
  intro m
  induction m with
  | zero =>
    intro f c h
    have : c = 0 := by simpa using h
    subst this
    rw [popN_zero]; exact Nat.le_refl _
  | succ m ih =>
    intro f c h
    cases f with
    | zero => simp [popN]
    | succ f =>
      rw [Nat.pow_succ] at h
      rw [popN]
      have := ih f (c / 2) (by omega)
      omega
theorem reachK_all {cs : List Int} {k : Nat} (h : ∀ r, r < k → (0 : Int) < cs[r]?.getD 0) : (reachK cs k).length = k := by
  induction k with
  | zero => rfl
  | succ k ih => rw [reachK_yes (h k (by omega)), List.length_append, ih (fun r hr => h r (by omega))]; rfl
theorem reachK_head {cs : List Int} {k : Nat} (h : (0 : Int) < cs[0]?.getD 0) : ∃ t, reachK cs (k + 1) = 0 :: t := by
  induction k with
  | zero => exact ⟨[], by rw [reachK_yes h]; rfl⟩
  | succ k ih =>
    obtain ⟨t, ht⟩ := ih
    by_cases e : (0 : Int) < cs[k + 1]?.getD 0
    · exact ⟨_, by rw [reachK_yes e, ht, List.cons_append]⟩
    · exact ⟨t, by rw [reachK_no e, ht]⟩
end Go.Proofs.Ytacedadenbinmaa
