/- One number more on the pans: how both programs build the next counts, in plain words. Conditions: none. -/
import Derived.Test.YtmggcfilkiklbaaDoorM20
namespace Go.Proofs.YtmggcfilkiklbaaDoor
theorem getD_set (L : List Int) (j t : Nat) (y : Int) (h : j < L.length) : (L.set j y)[t]?.getD 0 = if t = j then y else L[t]?.getD 0 := by
  rw [List.getElem?_set]
  by_cases e : j = t
  · subst e; simp [h]
  · rw [if_neg e, if_neg (fun e' => e e'.symm)]
theorem getD_out (L : List Int) (t : Nat) (h : L.length ≤ t) : L[t]?.getD 0 = 0 := by simp [h]
/-- the reference's next counts while number k's part s goes on -/
def gS (o : List Int) (x k s t : Nat) : Int :=
  (if t < k ∨ (t = k ∧ 0 < s) then o[t]?.getD 0 else 0) + (if x ≤ t ∧ (t - x < k ∨ (t - x = k ∧ 1 < s)) then o[t - x]?.getD 0 else 0)
    + (if 2 * x ≤ t ∧ (t - 2 * x < k ∨ (t - 2 * x = k ∧ 2 < s)) then o[t - 2 * x]?.getD 0 else 0)
theorem gS_start (o : List Int) (x t : Nat) : gS o x 0 0 t = 0 := by
  unfold gS
  rw [if_neg (by omega), if_neg (by omega), if_neg (by omega)]; rfl
theorem gS_next (o : List Int) (x k t : Nat) : gS o x k 3 t = gS o x (k + 1) 0 t := by
  unfold gS
  congr 1
  · congr 1
    · exact ite_congr (propext (by omega)) (fun _ => rfl) (fun _ => rfl)
    · exact ite_congr (propext (by omega)) (fun _ => rfl) (fun _ => rfl)
  · exact ite_congr (propext (by omega)) (fun _ => rfl) (fun _ => rfl)
theorem gS_step (o : List Int) {x k s t : Nat} (hx : 1 ≤ x) (hs : s < 3) : gS o x k (s + 1) t = gS o x k s t + if t = k + s * x then o[k]?.getD 0 else 0 := by
  have hc : s = 0 ∨ s = 1 ∨ s = 2 := by omega
  unfold gS
  rcases hc with rfl | rfl | rfl
  · by_cases e : t = k
    · subst e
      generalize o[t]?.getD 0 = u
      generalize o[t - x]?.getD 0 = v
      generalize o[t - 2 * x]?.getD 0 = r
      rw [if_pos (by omega : t < t ∨ t = t ∧ 0 < 0 + 1), if_neg (by omega : ¬ (t < t ∨ t = t ∧ 0 < 0)), if_pos (by omega : t = t + 0 * x)]
      rw [ite_congr (propext (by omega : (x ≤ t ∧ (t - x < t ∨ t - x = t ∧ 1 < 0 + 1)) ↔ (x ≤ t ∧ (t - x < t ∨ t - x = t ∧ 1 < 0)))) (fun _ => rfl) (fun _ => rfl)]
      rw [ite_congr (propext (by omega : (2 * x ≤ t ∧ (t - 2 * x < t ∨ t - 2 * x = t ∧ 2 < 0 + 1)) ↔ (2 * x ≤ t ∧ (t - 2 * x < t ∨ t - 2 * x = t ∧ 2 < 0)))) (fun _ => rfl) (fun _ => rfl)]
      omega
    · rw [if_neg (by omega : ¬ t = k + 0 * x), Int.add_zero]
      congr 1
      · congr 1
        · exact ite_congr (propext (by omega)) (fun _ => rfl) (fun _ => rfl)
        · exact ite_congr (propext (by omega)) (fun _ => rfl) (fun _ => rfl)
      · exact ite_congr (propext (by omega)) (fun _ => rfl) (fun _ => rfl)
  · by_cases e : t = k + x
    · subst e
      rw [show k + x - x = k by omega]
      generalize o[k + x]?.getD 0 = u
      generalize o[k]?.getD 0 = v
      generalize o[k + x - 2 * x]?.getD 0 = r
      rw [if_pos (by omega : x ≤ k + x ∧ (k < k ∨ k = k ∧ 1 < 1 + 1)), if_neg (by omega : ¬ (x ≤ k + x ∧ (k < k ∨ k = k ∧ 1 < 1))), if_pos (by omega : k + x = k + 1 * x)]
      rw [ite_congr (propext (by omega : (k + x < k ∨ k + x = k ∧ 0 < 1 + 1) ↔ (k + x < k ∨ k + x = k ∧ 0 < 1))) (fun _ => rfl) (fun _ => rfl)]
      rw [ite_congr (propext (by omega : (2 * x ≤ k + x ∧ (k + x - 2 * x < k ∨ k + x - 2 * x = k ∧ 2 < 1 + 1)) ↔ (2 * x ≤ k + x ∧ (k + x - 2 * x < k ∨ k + x - 2 * x = k ∧ 2 < 1)))) (fun _ => rfl) (fun _ => rfl)]
      omega
    · rw [if_neg (by omega : ¬ t = k + 1 * x), Int.add_zero]
      congr 1
      · congr 1
        · exact ite_congr (propext (by omega)) (fun _ => rfl) (fun _ => rfl)
        · exact ite_congr (propext (by omega)) (fun _ => rfl) (fun _ => rfl)
      · exact ite_congr (propext (by omega)) (fun _ => rfl) (fun _ => rfl)
  · by_cases e : t = k + 2 * x
    · subst e
      rw [show k + 2 * x - 2 * x = k by omega]
      generalize o[k + 2 * x]?.getD 0 = u
      generalize o[k]?.getD 0 = v
      generalize o[k + 2 * x - x]?.getD 0 = r
      rw [if_pos (by omega : 2 * x ≤ k + 2 * x ∧ (k < k ∨ k = k ∧ 2 < 2 + 1)), if_neg (by omega : ¬ (2 * x ≤ k + 2 * x ∧ (k < k ∨ k = k ∧ 2 < 2))), if_pos (by omega : k + 2 * x = k + 2 * x)]
      rw [ite_congr (propext (by omega : (k + 2 * x < k ∨ k + 2 * x = k ∧ 0 < 2 + 1) ↔ (k + 2 * x < k ∨ k + 2 * x = k ∧ 0 < 2))) (fun _ => rfl) (fun _ => rfl)]
      rw [ite_congr (propext (by omega : (x ≤ k + 2 * x ∧ (k + 2 * x - x < k ∨ k + 2 * x - x = k ∧ 1 < 2 + 1)) ↔ (x ≤ k + 2 * x ∧ (k + 2 * x - x < k ∨ k + 2 * x - x = k ∧ 1 < 2)))) (fun _ => rfl) (fun _ => rfl)]
      omega
    · rw [if_neg (by omega : ¬ t = k + 2 * x), Int.add_zero]
      congr 1
      · congr 1
        · exact ite_congr (propext (by omega)) (fun _ => rfl) (fun _ => rfl)
        · exact ite_congr (propext (by omega)) (fun _ => rfl) (fun _ => rfl)
      · exact ite_congr (propext (by omega)) (fun _ => rfl) (fun _ => rfl)
/-- the counts of all weighings of a list, T being the place of 0 -/
def IsPan (zs : List Int) (T : Nat) (o : List Int) : Prop := ∀ t, t < o.length → o[t]?.getD 0 = (wN zs ((t : Int) - T) : Int)
theorem gS_end {zs : List Int} {T x : Nat} {o : List Int} (hg : good zs) (hT : tot zs = (T : Int)) (ho : o.length = 2 * T + 1) (hp : IsPan zs T o) (t : Nat) (ht : t < o.length + 2 * x) :
    gS o x o.length 0 t = (wN (zs ++ [(x : Int)]) ((t : Int) - (T + x : Nat)) : Int) := by
  have h1 : (if t < o.length ∨ (t = o.length ∧ 0 < 0) then o[t]?.getD 0 else 0) = (wN zs ((t : Int) - T) : Int) := by
    by_cases h : t < o.length
    · rw [if_pos (.inl h), hp t h]
    · rw [if_neg (by omega), wN_out hg _ (by omega)]; rfl
  have h2 : (if x ≤ t ∧ (t - x < o.length ∨ (t - x = o.length ∧ 1 < 0)) then o[t - x]?.getD 0 else 0) = (wN zs ((t : Int) - x - T) : Int) := by
    by_cases h : x ≤ t ∧ t - x < o.length
    · rw [if_pos ⟨h.1, .inl h.2⟩, hp _ h.2, show ((t - x : Nat) : Int) - T = (t : Int) - x - T by omega]
    · rw [if_neg (by omega), wN_out hg _ (by omega)]; rfl
  have h3 : (if 2 * x ≤ t ∧ (t - 2 * x < o.length ∨ (t - 2 * x = o.length ∧ 2 < 0)) then o[t - 2 * x]?.getD 0 else 0) = (wN zs ((t : Int) - 2 * x - T) : Int) := by
    by_cases h : 2 * x ≤ t ∧ t - 2 * x < o.length
    · rw [if_pos ⟨h.1, .inl h.2⟩, hp _ h.2, show ((t - 2 * x : Nat) : Int) - T = (t : Int) - 2 * x - T by omega]
    · rw [if_neg (by omega), wN_out hg _ (by omega)]; rfl
  unfold gS
  rw [h1, h2, h3, wN_snoc, show (t : Int) - (T + x : Nat) + x = (t : Int) - T by omega, show (t : Int) - (T + x : Nat) = (t : Int) - x - T by omega, show (t : Int) - x - T - x = (t : Int) - 2 * x - T by omega]
  omega
/-- the program's next counts while the first k counts have been shared out -/
def gI (o : List Int) (x k t : Nat) : Int :=
  (if t + x < k then o[t + x]?.getD 0 else 0) + (if t < k then o[t]?.getD 0 else 0) + (if x ≤ t ∧ t - x < k then o[t - x]?.getD 0 else 0)
theorem gI_start (o : List Int) (x t : Nat) : gI o x 0 t = 0 := by
  unfold gI
  rw [if_neg (by omega), if_neg (by omega), if_neg (by omega)]; rfl
theorem gI_zero (o : List Int) {x k t : Nat} (h : o[k]?.getD 0 = 0) : gI o x (k + 1) t = gI o x k t := by
  unfold gI
  congr 1
  · congr 1
    · by_cases e : t + x = k
      · rw [e, h]; simp
      · exact ite_congr (propext (by omega)) (fun _ => rfl) (fun _ => rfl)
    · by_cases e : t = k
      · rw [e, h]; simp
      · exact ite_congr (propext (by omega)) (fun _ => rfl) (fun _ => rfl)
  · by_cases e : t - x = k
    · rw [e, h]; simp
    · exact ite_congr (propext (by omega)) (fun _ => rfl) (fun _ => rfl)
theorem gI_step (o : List Int) {x k t : Nat} (hx : 1 ≤ x) (hk : x ≤ k) : gI o x (k + 1) t = gI o x k t + (if t = k - x then o[k]?.getD 0 else 0) + (if t = k then o[k]?.getD 0 else 0) + (if t = k + x then o[k]?.getD 0 else 0) := by
  unfold gI
  by_cases e1 : t = k - x
  · subst e1
    rw [show k - x + x = k by omega, if_pos (by omega : k < k + 1), if_neg (by omega : ¬ k < k), if_pos rfl, if_neg (by omega : ¬ k - x = k), if_neg (by omega : ¬ k - x = k + x)]
    rw [ite_congr (propext (by omega : k - x < k + 1 ↔ k - x < k)) (fun _ => rfl) (fun _ => rfl), ite_congr (propext (by omega : (x ≤ k - x ∧ k - x - x < k + 1) ↔ (x ≤ k - x ∧ k - x - x < k))) (fun _ => rfl) (fun _ => rfl)]
    omega
  · by_cases e2 : t = k
    · subst e2
      rw [if_neg e1, if_pos (by omega : t < t + 1), if_neg (by omega : ¬ t < t), if_pos rfl, if_neg (by omega : ¬ t = t + x)]
      rw [ite_congr (propext (by omega : t + x < t + 1 ↔ t + x < t)) (fun _ => rfl) (fun _ => rfl), ite_congr (propext (by omega : (x ≤ t ∧ t - x < t + 1) ↔ (x ≤ t ∧ t - x < t))) (fun _ => rfl) (fun _ => rfl)]
      omega
    · by_cases e3 : t = k + x
      · subst e3
        rw [if_neg e1, if_neg e2, if_pos rfl, show k + x - x = k by omega, if_pos (by omega : x ≤ k + x ∧ k < k + 1), if_neg (by omega : ¬ (x ≤ k + x ∧ k < k))]
        rw [ite_congr (propext (by omega : k + x + x < k + 1 ↔ k + x + x < k)) (fun _ => rfl) (fun _ => rfl), ite_congr (propext (by omega : k + x < k + 1 ↔ k + x < k)) (fun _ => rfl) (fun _ => rfl)]
        omega
      · rw [if_neg e1, if_neg e2, if_neg e3, Int.add_zero, Int.add_zero, Int.add_zero]
        rw [ite_congr (propext (by omega : t + x < k + 1 ↔ t + x < k)) (fun _ => rfl) (fun _ => rfl), ite_congr (propext (by omega : t < k + 1 ↔ t < k)) (fun _ => rfl) (fun _ => rfl), ite_congr (propext (by omega : (x ≤ t ∧ t - x < k + 1) ↔ (x ≤ t ∧ t - x < k))) (fun _ => rfl) (fun _ => rfl)]
theorem gI_end {zs : List Int} {T x : Nat} {o : List Int} (hg : good zs) (hT : tot zs + x ≤ (T : Int)) (ho : o.length = 2 * T + 1) (hp : IsPan zs T o) (t : Nat) (ht : t < o.length) :
    gI o x o.length t = (wN (zs ++ [(x : Int)]) ((t : Int) - T) : Int) := by
  have h1 : (if t + x < o.length then o[t + x]?.getD 0 else 0) = (wN zs ((t : Int) - T + x) : Int) := by
    by_cases h : t + x < o.length
    · rw [if_pos h, hp _ h, show ((t + x : Nat) : Int) - T = (t : Int) - T + x by omega]
    · rw [if_neg h, wN_out hg _ (by omega)]; rfl
  have h2 : (if t < o.length then o[t]?.getD 0 else 0) = (wN zs ((t : Int) - T) : Int) := by rw [if_pos ht, hp t ht]
  have h3 : (if x ≤ t ∧ t - x < o.length then o[t - x]?.getD 0 else 0) = (wN zs ((t : Int) - T - x) : Int) := by
    by_cases h : x ≤ t ∧ t - x < o.length
    · rw [if_pos h, hp _ h.2, show ((t - x : Nat) : Int) - T = (t : Int) - T - x by omega]
    · rw [if_neg h, wN_out hg _ (by omega)]; rfl
  unfold gI
  rw [h1, h2, h3, wN_snoc]
  omega
end Go.Proofs.YtmggcfilkiklbaaDoor
