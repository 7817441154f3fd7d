/- Sums of choices, whatever the order; lists whose sums have no gap; in plain words. Conditions: none. -/
import Derived.Test.YtmggcfilkiklbaaMS
import Derived.Test.YtmggcfilkiklbaaM17
namespace Go.Proofs.Ytmggcfilkiklbaa
/-- v is a sum of a choice -/
inductive SubS : List Int → Int → Prop
  | nil : SubS [] 0
  | skip {x : Int} {xs : List Int} {v : Int} : SubS xs v → SubS (x :: xs) v
  | take {x : Int} {xs : List Int} {v : Int} : SubS xs v → SubS (x :: xs) (x + v)
theorem subS_of (zs : List Int) : ∀ c, SubS zs (csum zs c) := by
  induction zs with
  | nil => intro c; exact .nil
  | cons x xs ih =>
    intro c
    rw [csum_cons]
    by_cases e : c % 2 = 1
    · rw [if_pos e]; exact .take (ih _)
    · rw [if_neg e, Int.zero_add]; exact .skip (ih _)
theorem subS_is {zs : List Int} {v : Int} (h : SubS zs v) : ∃ c, c < 2 ^ zs.length ∧ csum zs c = v := by
  induction h with
  | nil => exact ⟨0, by simp, rfl⟩
  | @skip x xs v _ ih =>
    obtain ⟨c, hc, rfl⟩ := ih
    exact ⟨2 * c, by rw [List.length_cons, Nat.pow_succ]; omega, by rw [csum_cons, if_neg (by omega), show 2 * c / 2 = c by omega, Int.zero_add]⟩
  | @take x xs v _ ih =>
    obtain ⟨c, hc, rfl⟩ := ih
    exact ⟨2 * c + 1, by rw [List.length_cons, Nat.pow_succ]; omega, by rw [csum_cons, if_pos (by omega), show (2 * c + 1) / 2 = c by omega]⟩
theorem subS_perm {L M : List Int} (h : L.Perm M) : ∀ {v}, SubS L v → SubS M v := by
  induction h with
  | nil => intro v h; exact h
  | cons x _ ih =>
    intro v h
    cases h with
    | skip h => exact .skip (ih h)
    | take h => exact .take (ih h)
  | swap x y l =>
    intro v h
    cases h with
    | skip h =>
      cases h with
      | skip h => exact .skip (.skip h)
      | take h => exact .take (.skip h)
    | take h =>
      cases h with
      | skip h => exact .skip (.take h)
      | @take _ _ u h => rw [show y + (x + u) = x + (y + u) by omega]; exact .take (.take h)
  | trans _ _ ih1 ih2 => intro v h; exact ih2 (ih1 h)
theorem subS_append {A B : List Int} {v : Int} : SubS (A ++ B) v ↔ ∃ p q, SubS A p ∧ SubS B q ∧ v = p + q := by
  induction A generalizing v with
  | nil =>
    constructor
    · intro h; exact ⟨0, v, .nil, h, by omega⟩
    · rintro ⟨p, q, hp, hq, rfl⟩; cases hp; rw [Int.zero_add]; exact hq
  | cons x xs ih =>
    rw [List.cons_append]
    constructor
    · intro h
      cases h with
      | skip h => obtain ⟨p, q, hp, hq, rfl⟩ := ih.1 h; exact ⟨p, q, .skip hp, hq, rfl⟩
      | take h => obtain ⟨p, q, hp, hq, rfl⟩ := ih.1 h; exact ⟨x + p, q, .take hp, hq, by omega⟩
    · rintro ⟨p, q, hp, hq, rfl⟩
      cases hp with
      | skip hp => exact .skip (ih.2 ⟨_, q, hp, hq, rfl⟩)
      | @take _ _ u hp => rw [show x + u + q = x + (u + q) by omega]; exact .take (ih.2 ⟨u, q, hp, hq, rfl⟩)
theorem subS_bd {A : List Int} (hg : good A) {v : Int} (h : SubS A v) : 0 ≤ v ∧ v ≤ tot A := by
  obtain ⟨c, _, rfl⟩ := subS_is h
  exact csum_bd hg c
theorem subS_zero (A : List Int) : SubS A 0 := by
  have := subS_of A 0
  rwa [csum_zero] at this
theorem subS_tot (A : List Int) : SubS A (tot A) := by
  have := subS_of A (2 ^ A.length - 1)
  rwa [csum_full] at this
/-- a sum that is not 0 is at least each number's lower bound -/
theorem subS_min {B : List Int} {m v : Int} (hm : ∀ x ∈ B, m ≤ x) (hg : good B) (h : SubS B v) (hv : v ≠ 0) : m ≤ v := by
  induction h with
  | nil => exact (hv rfl).elim
  | skip _ ih => exact ih (fun x hx => hm x (List.mem_cons_of_mem _ hx)) (fun x hx => hg x (List.mem_cons_of_mem _ hx)) hv
  | take h _ =>
    have h1 := hm _ (List.mem_cons_self ..)
    have h2 := subS_bd (fun x hx => hg x (List.mem_cons_of_mem _ hx)) h
    omega
/-- all numbers up to the total are sums -/
def AllS (zs : List Int) : Prop := ∀ v, 0 ≤ v → v ≤ tot zs → SubS zs v
/-- no number is greater than all ahead of it and one -/
def stepOk (L : List Int) (k : Nat) : Prop := ∀ i, i < k → L[i]?.getD 0 ≤ tot (L.take i) + 1
theorem stepOk_all {L : List Int} (hg : good L) (h : stepOk L L.length) : AllS L := by
  have key : ∀ k, k ≤ L.length → AllS (L.take k) := by
    intro k
    induction k with
    | zero => intro _ v h1 h2; simp [tot] at h2; obtain rfl : v = 0 := by omega
              exact .nil
    | succ k ih =>
      intro hk v h1 h2
      have h3 := h k (by omega)
      have h4 := tot_take L k (by omega)
      have h5 := good_get hg k (by omega)
      have h6 := tot_bd (good_take hg k)
      rw [take_snoc L k (by omega), subS_append]
      by_cases e : v ≤ tot (L.take k)
      · exact ⟨v, 0, ih (by omega) v h1 e, .skip .nil, by omega⟩
      · have hx : SubS [L[k]?.getD 0] (L[k]?.getD 0 + 0) := .take .nil
        exact ⟨v - L[k]?.getD 0, _, ih (by omega) _ (by omega) (by omega), hx, by omega⟩
  have := key L.length (Nat.le_refl _)
  rwa [List.take_length] at this
theorem all_stepOk {L : List Int} (hg : good L) (hs : L.Pairwise (· ≤ ·)) (h : AllS L) : stepOk L L.length := by
  intro i hi
  refine Int.not_lt.1 fun hlt => ?_
  have hgt := good_take hg i
  have hgd : good (L.drop i) := fun x hx => hg x (List.mem_of_mem_drop hx)
  have h1 := tot_bd hgt
  have hsplit : tot (L.take i) + tot (L.drop i) = tot L := by rw [← tot_append, List.take_append_drop]
  have hd : L.drop i = L[i]?.getD 0 :: L.drop (i + 1) := by rw [List.drop_eq_getElem_cons hi, List.getElem?_eq_getElem hi]; rfl
  have hmin : ∀ x ∈ L.drop i, L[i]?.getD 0 ≤ x := by
    intro x hx
    have hp : (L.drop i).Pairwise (· ≤ ·) := hs.sublist (List.drop_sublist i L)
    rw [hd] at hx hp
    rcases List.mem_cons.1 hx with rfl | hx
    · exact Int.le_refl _
    · exact (List.pairwise_cons.1 hp).1 x hx
  have h2 : L[i]?.getD 0 ≤ tot (L.drop i) := by
    rw [hd, tot]
    have := tot_bd (a := L.drop (i + 1)) (fun x hx => hg x (List.mem_of_mem_drop hx))
    omega
  have h3 := h (tot (L.take i) + 1) (by omega) (by omega)
  rw [← List.take_append_drop i L, subS_append, List.take_append_drop] at h3
  obtain ⟨p, q, hp, hq, e⟩ := h3
  have h4 := subS_bd hgt hp
  have h5 : q ≠ 0 := by omega
  have h6 := subS_min hmin hgd hq h5
  omega
theorem allS_perm {L M : List Int} (h : L.Perm M) (ha : AllS L) : AllS M := fun v h1 h2 => subS_perm h (ha v h1 (by rw [perm_tot h]; exact h2))
/-- m is the least number that is no sum -/
def IsMiss (zs : List Int) (m : Int) : Prop := 1 ≤ m ∧ (∀ v, 0 ≤ v → v < m → SubS zs v) ∧ ¬ SubS zs m
theorem isMiss_bd {zs : List Int} (hg : good zs) {m : Int} (h : IsMiss zs m) : m ≤ tot zs + 1 := by
  refine Int.not_lt.1 fun hlt => ?_
  have h1 := h.2.1 (tot zs + 1) (by have := tot_bd hg; omega) hlt
  have := subS_bd hg h1
  omega
theorem isMiss_whole {zs : List Int} (hg : good zs) {m : Int} (h : IsMiss zs m) : m = tot zs + 1 ↔ AllS zs := by
  have hb := isMiss_bd hg h
  constructor
  · intro e v h1 h2; exact h.2.1 v h1 (by omega)
  · intro ha
    refine Int.le_antisymm hb (Int.not_lt.1 fun hlt => ?_)
    exact h.2.2 (ha m (by have := h.1; omega) (by omega))
end Go.Proofs.Ytmggcfilkiklbaa
