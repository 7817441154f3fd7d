/- Counting sums number by number: the reference's way gives the same list. Conditions: numbers from 1 on. -/
import Derived.Test.YtdpapalfafjncaaGreatDoorM9
namespace Go.Proofs.YtdpapalfafjncaaGreatDoor
/-- the keys of chapter 1: the sum itself -/
def sumKey (zs : List Int) (c : Nat) : Option Nat := some (csum zs c).toNat
/-- SumCounts's list -/
def sumC (zs : List Int) : List Int := tally (sumKey zs) ((tot zs).toNat + 1) (2 ^ zs.length)
theorem sumC_length (zs : List Int) : (sumC zs).length = (tot zs).toNat + 1 := tally_length _ _ _

theorem cntN_add (p : Nat → Bool) (a b : Nat) : cntN p (a + b) = cntN p a + cntN (fun c => p (a + c)) b := by
  induction b with
  | zero => simp [cntN]
  | succ b ih => rw [← Nat.add_assoc, cntN, cntN, ih]; omega
theorem csum_low (xs : List Int) : ∀ c k : Nat, csum xs (c + 2 ^ xs.length * k) = csum xs c := by
  induction xs with
  | nil => intro c k; rfl
  | cons x xs ih =>
    intro c k
    have e : c + 2 ^ (xs.length + 1) * k = c + 2 * (2 ^ xs.length * k) := by rw [Nat.pow_succ, Nat.mul_comm (2 ^ xs.length) 2, Nat.mul_assoc]
    rw [csum_cons, csum_cons, List.length_cons, e, show (c + 2 * (2 ^ xs.length * k)) % 2 = c % 2 by omega, show (c + 2 * (2 ^ xs.length * k)) / 2 = c / 2 + 2 ^ xs.length * k by omega, ih]
theorem csum_snoc_lo (xs : List Int) (x : Int) (c : Nat) (h : c < 2 ^ xs.length) : csum (xs ++ [x]) c = csum xs c := by
  rw [csum_snoc, Nat.div_eq_of_lt h]; simp
theorem csum_snoc_hi (xs : List Int) (x : Int) (c : Nat) (h : c < 2 ^ xs.length) : csum (xs ++ [x]) (2 ^ xs.length + c) = csum xs c + x := by
  have h2 := csum_low xs c 1
  rw [Nat.mul_one, Nat.add_comm] at h2
  have e : (2 ^ xs.length + c) / 2 ^ xs.length % 2 = 1 := by
    rw [Nat.add_div_left _ (Nat.two_pow_pos _), Nat.div_eq_of_lt h]
  rw [csum_snoc, h2, if_pos e]

/-- one number more, v places of the old list done -/
def stepK (O : List Int) (x v : Nat) : List Int := (List.range (O.length + x)).map fun j => (if j < v then O[j]?.getD 0 else 0) + (if x ≤ j ∧ j - x < v then O[j - x]?.getD 0 else 0)
theorem stepK_length (O : List Int) (x v : Nat) : (stepK O x v).length = O.length + x := by simp [stepK]
theorem stepK_get (O : List Int) (x v j : Nat) (h : j < O.length + x) : (stepK O x v)[j]?.getD 0 = (if j < v then O[j]?.getD 0 else 0) + (if x ≤ j ∧ j - x < v then O[j - x]?.getD 0 else 0) := by simp [stepK, h]
theorem stepK_zero (O : List Int) (x : Nat) : stepK O x 0 = List.replicate (O.length + x) 0 := by
  apply List.ext_getElem
  · simp [stepK]
  · intro i h1 h2; simp [stepK]
theorem stepK_succ (O : List Int) (x v : Nat) (hx : 1 ≤ x) (hv : v < O.length) :
    (((stepK O x v).set v ((stepK O x v)[v]?.getD 0 + O[v]?.getD 0)).set (v + x) ((stepK O x v)[v + x]?.getD 0 + O[v]?.getD 0)) = stepK O x (v + 1) := by
  apply List.ext_getElem
  · simp [stepK]
  · intro i h1 h2
    have hi : i < O.length + x := by simpa [stepK] using h2
    rw [List.getElem_set, List.getElem_set]
    simp only [stepK_get O x v (v + x) (by omega), stepK_get O x v v (by omega)]
    have e : (stepK O x (v + 1))[i] = (if i < v + 1 then O[i]?.getD 0 else 0) + (if x ≤ i ∧ i - x < v + 1 then O[i - x]?.getD 0 else 0) := by simp [stepK]
    have e0 : (stepK O x v)[i]'(by simpa [stepK] using hi) = (if i < v then O[i]?.getD 0 else 0) + (if x ≤ i ∧ i - x < v then O[i - x]?.getD 0 else 0) := by simp [stepK]
    rw [e]
    by_cases h3 : v + x = i
    · subst h3
      rw [if_pos rfl, if_neg (show ¬ v + x < v by omega), if_neg (show ¬ v + x < v + 1 by omega), show v + x - x = v by omega, if_neg (show ¬ (x ≤ v + x ∧ v < v) by omega), if_pos (show x ≤ v + x ∧ v < v + 1 by omega)]
      omega
    · rw [if_neg h3]
      by_cases h4 : v = i
      · subst h4
        rw [if_pos rfl, if_neg (show ¬ v < v by omega), if_pos (show v < v + 1 by omega)]
        by_cases h5 : x ≤ v
        · rw [if_pos (show x ≤ v ∧ v - x < v by omega), if_pos (show x ≤ v ∧ v - x < v + 1 by omega)]; omega
        · rw [if_neg (by omega), if_neg (by omega)]; omega
      · rw [if_neg h4, e0]
        have c1 : (i < v) ↔ (i < v + 1) := by omega
        have c2 : (x ≤ i ∧ i - x < v) ↔ (x ≤ i ∧ i - x < v + 1) := by omega
        simp only [c1, c2]
theorem stepK_mid (O : List Int) (x v : Nat) (hx : 1 ≤ x) : ((stepK O x v).set v ((stepK O x v)[v]?.getD 0 + O[v]?.getD 0))[v + x]?.getD 0 = (stepK O x v)[v + x]?.getD 0 := by
  rw [List.getElem?_set_ne (by omega)]
/-- the counts of a list with one number more -/
theorem sumC_snoc (xs : List Int) (x : Int) (h : good xs) (hx : 1 ≤ x) : sumC (xs ++ [x]) = stepK (sumC xs) x.toNat (sumC xs).length := by
  have ht := tot_bd h
  have e1 : tot (xs ++ [x]) = tot xs + x := by rw [tot_append]; simp [tot]
  have e2 : (tot (xs ++ [x])).toNat + 1 = (tot xs).toNat + 1 + x.toNat := by omega
  have hl := sumC_length xs
  apply List.ext_getElem
  · rw [sumC_length, stepK_length, sumC_length]; omega
  · intro j h1 h2
    rw [sumC_length, e2] at h1
    have hg : (stepK (sumC xs) x.toNat (sumC xs).length)[j] = (stepK (sumC xs) x.toNat (sumC xs).length)[j]?.getD 0 := by rw [List.getElem?_eq_getElem h2]; rfl
    rw [hg, stepK_get _ _ _ _ (by omega)]
    have hs : ∀ i, (if i < (sumC xs).length then (sumC xs)[i]?.getD 0 else 0) = ((cntN (fun c => csum xs c == (i : Int)) (2 ^ xs.length) : Nat) : Int) := by
      intro i
      by_cases hi : i < (sumC xs).length
      · rw [if_pos hi]
        unfold sumC
        rw [tally_get _ _ _ _ (by omega)]
        congr 1
        apply cntN_congr
        intro c _
        have := csum_bd h c
        rw [Bool.eq_iff_iff]
        simp [sumKey]
        omega
      · rw [if_neg hi, cntN_congr (q := fun _ => false)]
        · have : ∀ m, cntN (fun _ => false) m = 0 := by intro m; induction m with | zero => rfl | succ m ih => simp [cntN, ih]
          rw [this]; rfl
        · intro c _
          have := csum_bd h c
          simp; omega
    have hL : (sumC (xs ++ [x]))[j]'(by rw [sumC_length, e2]; exact h1) = ((cntN (fun c => csum (xs ++ [x]) c == (j : Int)) (2 ^ xs.length + 2 ^ xs.length) : Nat) : Int) := by
      simp only [sumC, tally, List.getElem_map, List.getElem_range, List.length_append, List.length_cons, List.length_nil]
      rw [show 2 ^ (xs.length + (0 + 1)) = 2 ^ xs.length + 2 ^ xs.length by rw [Nat.zero_add, Nat.pow_succ]; omega]
      congr 1
      apply cntN_congr
      intro c _
      have hgd : good (xs ++ [x]) ∨ True := .inr trivial
      have h0 : 0 ≤ csum (xs ++ [x]) c := by
        rw [csum_snoc]
        have := csum_bd h c
        split <;> omega
      rw [Bool.eq_iff_iff]
      simp [sumKey]
      omega
    rw [hL, cntN_add, hs j]
    rw [cntN_congr (q := fun c => csum xs c == (j : Int)) (fun c hc => by rw [csum_snoc_lo xs x c hc]), cntN_congr (p := fun c => csum (xs ++ [x]) (2 ^ xs.length + c) == (j : Int)) (q := fun c => csum xs c == (j : Int) - x) (fun c hc => by
      rw [csum_snoc_hi xs x c hc, Bool.eq_iff_iff]; simp; omega)]
    by_cases hxj : x.toNat ≤ j
    · have := hs (j - x.toNat)
      rw [show ((j - x.toNat : Nat) : Int) = (j : Int) - x by omega] at this
      rw [Int.natCast_add, ← this]
      simp only [hxj, true_and]
    · rw [if_neg (by omega), cntN_congr (p := fun c => csum xs c == (j : Int) - x) (q := fun _ => false)]
      · have : ∀ m, cntN (fun _ => false) m = 0 := by intro m; induction m with | zero => rfl | succ m ih => simp [cntN, ih]
        rw [this]; simp
      · intro c _
        have := csum_bd h c
        simp; omega
theorem sumC_nil : sumC [] = [1] := by decide
end Go.Proofs.YtdpapalfafjncaaGreatDoor
