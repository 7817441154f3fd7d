/- Tallies: how many numbers below m have a key; as a list over all keys. Conditions: none. -/
import Derived.Test.YtdpapalfafjncaaGreatDoorM8
namespace Go.Proofs.YtdpapalfafjncaaGreatDoor
/-- how many c below m have p -/
def cntN (p : Nat → Bool) : Nat → Nat
  | 0 => 0
  | m + 1 => cntN p m + if p m then 1 else 0
theorem cntN_le (p : Nat → Bool) (m : Nat) : cntN p m ≤ m := by
  induction m with
  | zero => exact Nat.le_refl _
  | succ m ih => simp only [cntN]; split <;> omega
theorem cntN_congr {p q : Nat → Bool} {m : Nat} (h : ∀ c, c < m → p c = q c) : cntN p m = cntN q m := by
  induction m with
  | zero => rfl
  | succ m ih => rw [cntN, cntN, ih (fun c hc => h c (by omega)), h m (by omega)]
/-- for each key below N how many c below m have it -/
def tally (key : Nat → Option Nat) (N m : Nat) : List Int := (List.range N).map fun v => ((cntN (fun c => key c == some v) m : Nat) : Int)
theorem tally_length (key : Nat → Option Nat) (N m : Nat) : (tally key N m).length = N := by simp [tally]
theorem tally_get (key : Nat → Option Nat) (N m v : Nat) (h : v < N) : (tally key N m)[v]?.getD 0 = ((cntN (fun c => key c == some v) m : Nat) : Int) := by simp [tally, h]
theorem tally_zero (key : Nat → Option Nat) (N : Nat) : tally key N 0 = List.replicate N 0 := by
  apply List.ext_getElem
  · simp [tally]
  · intro i h1 h2; simp [tally, cntN]
theorem tally_none {key : Nat → Option Nat} {N m : Nat} (h : key m = none) : tally key N (m + 1) = tally key N m := by
  apply List.ext_getElem
  · simp [tally]
  · intro i h1 h2; simp [tally, cntN, h]
theorem tally_some {key : Nat → Option Nat} {N m v : Nat} (h : key m = some v) : (tally key N m).set v ((tally key N m)[v]?.getD 0 + 1) = tally key N (m + 1) := by
  apply List.ext_getElem
  · simp [tally]
  · intro i h1 h2
    have hi : i < N := by simpa [tally] using h1
    rw [List.getElem_set]
    by_cases e : v = i
    · subst e
      rw [if_pos rfl, tally_get _ _ _ _ hi]
      simp [tally, cntN, h]
    · rw [if_neg e]
      simp [tally, cntN, h, e]
theorem tally_bd (key : Nat → Option Nat) (N m v : Nat) : 0 ≤ (tally key N m)[v]?.getD 0 ∧ (tally key N m)[v]?.getD 0 ≤ m := by
  by_cases h : v < N
  · rw [tally_get _ _ _ _ h]
    have := cntN_le (fun c => key c == some v) m
    omega
  · simp [tally, h]
theorem tally_mem {key : Nat → Option Nat} {N m : Nat} {x : Int} (h : x ∈ tally key N m) : 0 ≤ x ∧ x ≤ m := by
  simp only [tally, List.mem_map, List.mem_range] at h
  obtain ⟨v, hv, rfl⟩ := h
  have := cntN_le (fun c => key c == some v) m
  omega
/-- the same over a list of numbers -/
def tallyL (key : Nat → Option Nat) (N : Nat) (l : List Nat) : List Int := (List.range N).map fun v => ((l.countP (fun c => key c == some v) : Nat) : Int)
theorem tallyL_length (key : Nat → Option Nat) (N : Nat) (l : List Nat) : (tallyL key N l).length = N := by simp [tallyL]
theorem tallyL_get (key : Nat → Option Nat) (N v : Nat) (l : List Nat) (h : v < N) : (tallyL key N l)[v]?.getD 0 = ((l.countP (fun c => key c == some v) : Nat) : Int) := by simp [tallyL, h]
theorem tallyL_nil (key : Nat → Option Nat) (N : Nat) : tallyL key N [] = List.replicate N 0 := by
  apply List.ext_getElem
  · simp [tallyL]
  · intro i h1 h2; simp [tallyL]
theorem tallyL_none {key : Nat → Option Nat} {N m : Nat} {l : List Nat} (h : key m = none) : tallyL key N (l ++ [m]) = tallyL key N l := by
  apply List.ext_getElem
  · simp [tallyL]
  · intro i h1 h2; simp [tallyL, List.countP_append, h]
theorem tallyL_some {key : Nat → Option Nat} {N m v : Nat} {l : List Nat} (h : key m = some v) : (tallyL key N l).set v ((tallyL key N l)[v]?.getD 0 + 1) = tallyL key N (l ++ [m]) := by
  apply List.ext_getElem
  · simp [tallyL]
  · intro i h1 h2
    have hi : i < N := by simpa [tallyL] using h1
    rw [List.getElem_set]
    by_cases e : v = i
    · subst e
      rw [if_pos rfl, tallyL_get _ _ _ _ hi]
      simp [tallyL, List.countP_append, h]
    · rw [if_neg e]
      simp [tallyL, List.countP_append, h, e]
theorem tallyL_bd (key : Nat → Option Nat) (N v : Nat) (l : List Nat) : 0 ≤ (tallyL key N l)[v]?.getD 0 ∧ (tallyL key N l)[v]?.getD 0 ≤ l.length := by
  by_cases h : v < N
  · rw [tallyL_get _ _ _ _ h]
    have := List.countP_le_length (p := fun c => key c == some v) (l := l)
    omega
  · simp [tallyL, h]
theorem countP_range (p : Nat → Bool) (m : Nat) : (List.range m).countP p = cntN p m := by
  induction m with
  | zero => rfl
  | succ m ih => rw [List.range_succ, List.countP_append, ih, cntN]; simp [List.countP_cons, List.countP_nil]
theorem tallyL_range (key : Nat → Option Nat) (N m : Nat) : tallyL key N (List.range m) = tally key N m := by
  unfold tallyL tally
  simp only [countP_range]
/-- the keys of chapter 8: the rest of a sum -/
def restKey (zs : List Int) (n : Int) (c : Nat) : Option Nat := some (csum zs c % n).toNat
/-- RestCounts's list -/
def restC (zs : List Int) (n : Int) : List Int := tally (restKey zs n) n.toNat (2 ^ zs.length)
/-- the places below k with a number greater than 0 -/
def reachK (cs : List Int) (k : Nat) : List Int := ((List.range k).filter (fun i => decide (0 < cs[i]?.getD 0))).map (fun i : Nat => (i : Int))
theorem reachK_yes {cs : List Int} {k : Nat} (h : 0 < cs[k]?.getD 0) : reachK cs (k + 1) = reachK cs k ++ [(k : Int)] := by
  simp [reachK, List.range_succ, List.filter_append, h]
theorem reachK_no {cs : List Int} {k : Nat} (h : ¬ 0 < cs[k]?.getD 0) : reachK cs (k + 1) = reachK cs k := by
  simp [reachK, List.range_succ, List.filter_append, h]
theorem reachK_length (cs : List Int) (k : Nat) : (reachK cs k).length ≤ k := by
  unfold reachK
  rw [List.length_map]
  exact Nat.le_trans (List.length_filter_le _ _) (by simp)
def reachL (cs : List Int) : List Int := reachK cs cs.length
end Go.Proofs.YtdpapalfafjncaaGreatDoor
