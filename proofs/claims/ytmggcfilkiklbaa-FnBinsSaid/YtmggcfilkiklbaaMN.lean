/- Bins filled by a rule, in plain words: which bin is chosen, what the bins hold, and what holds of them. Conditions: stated in each. -/
import Derived.Test.YtmggcfilkiklbaaMG
namespace Go.Proofs.Ytmggcfilkiklbaa

/-- one bin more is looked at: rule 0 takes the last one, 1 the first one, 2 the one with the least room, 3 the one with the greatest room -/
def chStep (r : Nat) (f : Nat → Int) (v : Int) (k : Nat) (c : Option Nat) : Option Nat :=
  if r = 0 then (if v ≤ f k then some k else none)
  else if v ≤ f k then
    match c with
    | none => some k
    | some j => if (r = 2 ∧ f k < f j) ∨ (r = 3 ∧ f j < f k) then some k else some j
  else c
def chs (r : Nat) (f : Nat → Int) (v : Int) : Nat → Option Nat
  | 0 => none
  | k + 1 => chStep r f v k (chs r f v k)
/-- what the reference has seen: by rule 0 nothing ahead of the last bin -/
def sch (r : Nat) (f : Nat → Int) (v : Int) (n k : Nat) : Option Nat := if r = 0 ∧ k < n then none else chs r f v k
theorem chs_some {r : Nat} {f : Nat → Int} {v : Int} : ∀ {k j : Nat}, chs r f v k = some j → j < k ∧ v ≤ f j := by
  intro k
  induction k with
  | zero => intro j h; cases h
  | succ k ih =>
    intro j h
    rw [chs] at h
    unfold chStep at h
    by_cases h0 : r = 0
    · rw [if_pos h0] at h
      by_cases h1 : v ≤ f k
      · rw [if_pos h1] at h; cases h; exact ⟨by omega, h1⟩
      · rw [if_neg h1] at h; cases h
    · rw [if_neg h0] at h
      by_cases h1 : v ≤ f k
      · rw [if_pos h1] at h
        cases hc : chs r f v k with
        | none => rw [hc] at h; cases h; exact ⟨by omega, h1⟩
        | some i =>
          rw [hc] at h
          simp only at h
          have := ih hc
          by_cases h2 : (r = 2 ∧ f k < f i) ∨ (r = 3 ∧ f i < f k)
          · rw [if_pos h2] at h; cases h; exact ⟨by omega, h1⟩
          · rw [if_neg h2] at h; cases h; exact ⟨by omega, this.2⟩
      · rw [if_neg h1] at h
        have := ih h
        exact ⟨by omega, this.2⟩
theorem chs_none {r : Nat} {f : Nat → Int} {v : Int} : ∀ {k : Nat}, chs r f v k = none → ∀ j, j < k → (r ≠ 0 ∨ j + 1 = k) → f j < v := by
  intro k
  induction k with
  | zero => intro _ j hj; omega
  | succ k ih =>
    intro h j hj hr
    rw [chs] at h
    unfold chStep at h
    by_cases h0 : r = 0
    · rw [if_pos h0] at h
      by_cases h1 : v ≤ f k
      · rw [if_pos h1] at h; cases h
      · obtain rfl : j = k := by omega
        omega
    · rw [if_neg h0] at h
      by_cases h1 : v ≤ f k
      · rw [if_pos h1] at h
        cases hc : chs r f v k with
        | none => rw [hc] at h; cases h
        | some i =>
          rw [hc] at h
          simp only at h
          by_cases h2 : (r = 2 ∧ f k < f i) ∨ (r = 3 ∧ f i < f k)
          · rw [if_pos h2] at h; cases h
          · rw [if_neg h2] at h; cases h
      · rw [if_neg h1] at h
        by_cases e : j = k
        · subst e; omega
        · exact ih h j (by omega) (.inl h0)
theorem chs_congr {r : Nat} {f g : Nat → Int} {v : Int} : ∀ {k : Nat}, (∀ j, j < k → f j = g j) → chs r f v k = chs r g v k := by
  intro k
  induction k with
  | zero => intro _; rfl
  | succ k ih =>
    intro h
    have hi := ih (fun j hj => h j (by omega))
    have hk := h k (by omega)
    rw [chs, chs, hi]
    cases hc : chs r g v k with
    | none => simp only [chStep, hk]
    | some i =>
      have := (chs_some hc).1
      simp only [chStep, hk, h i (by omega)]

/-- the room of bin k -/
def rm (size : Int) (bs : List (List Int)) (k : Nat) : Int := size - tot (bs[k]?.getD [])
/-- a number is put -/
def stepB (r : Nat) (size : Int) (bs : List (List Int)) (x : Int) : List (List Int) :=
  match chs r (rm size bs) x bs.length with
  | none => bs ++ [[x]]
  | some k => bs.set k (bs[k]?.getD [] ++ [x])
def byB (r : Nat) (size : Int) (xs : List Int) : List (List Int) := xs.foldl (stepB r size) []
theorem byB_nil (r : Nat) (size : Int) : byB r size [] = [] := rfl
theorem byB_take (r : Nat) (size : Int) (xs : List Int) (k : Nat) (hk : k < xs.length) : byB r size (xs.take (k + 1)) = stepB r size (byB r size (xs.take k)) (xs[k]?.getD 0) := by
  rw [byB, byB, List.take_add_one, List.getElem?_eq_getElem hk, List.foldl_append]
  rfl

theorem tot_app (a b : List Int) : tot (a ++ b) = tot a + tot b := by
  induction a with
  | nil => show tot b = 0 + tot b; omega
  | cons x xs ih => show x + tot (xs ++ b) = x + tot xs + tot b; omega
theorem tot_one (x : Int) : tot [x] = x := by show x + 0 = x; omega
/-- what holds of the bins -/
structure BinsOk (r : Nat) (size : Int) (bs : List (List Int)) : Prop where
  each : ∀ b ∈ bs, b ≠ [] ∧ good b ∧ tot b ≤ size
  pair : ∀ i k, k < i → i < bs.length → (r ≠ 0 ∨ k + 1 = i) → size < tot (bs[i]?.getD []) + tot (bs[k]?.getD [])
theorem good_tot {b : List Int} (h : good b) : 0 ≤ tot b := by
  induction b with
  | nil => exact Int.le_refl _
  | cons x xs ih =>
    have h1 := h x (List.mem_cons_self ..)
    have h2 := ih (fun y hy => h y (List.mem_cons_of_mem _ hy))
    show 0 ≤ x + tot xs
    omega
theorem good_pos {b : List Int} (h : good b) (hn : b ≠ []) : 1 ≤ tot b := by
  cases b with
  | nil => exact absurd rfl hn
  | cons x xs =>
    have h1 := h x (List.mem_cons_self ..)
    have h2 := good_tot (b := xs) (fun y hy => h y (List.mem_cons_of_mem _ hy))
    show 1 ≤ x + tot xs
    omega
theorem binsOk_nil (r : Nat) (size : Int) : BinsOk r size [] := ⟨(fun b hb => by cases hb), (fun i k _ h => absurd h (Nat.not_lt_zero _))⟩
theorem BinsOk.step {r : Nat} {size : Int} {bs : List (List Int)} (h : BinsOk r size bs) {x : Int} (hx : 1 ≤ x ∧ x ≤ 60) (hs : x ≤ size) : BinsOk r size (stepB r size bs x) := by
  have hgx : good [x] := fun y hy => by rw [List.mem_singleton.1 hy]; exact hx
  rw [stepB]
  cases hc : chs r (rm size bs) x bs.length with
  | none =>
    have hn := chs_none hc
    refine ⟨fun b hb => ?_, fun i k hki hi hr => ?_⟩
    · rcases List.mem_append.1 hb with hb | hb
      · exact h.each b hb
      · rw [List.mem_singleton.1 hb]
        exact ⟨by simp, hgx, by rw [tot_one]; exact hs⟩
    · show size < tot ((bs ++ [[x]])[i]?.getD []) + tot ((bs ++ [[x]])[k]?.getD [])
      change i < (bs ++ [[x]]).length at hi
      rw [List.length_append, List.length_singleton] at hi
      by_cases hi2 : i < bs.length
      · rw [List.getElem?_append_left hi2, List.getElem?_append_left (by omega)]
        exact h.pair i k hki hi2 hr
      · obtain rfl : i = bs.length := by omega
        have hk := hn k hki (by omega)
        rw [List.getElem?_append_right (Nat.le_refl _), List.getElem?_append_left hki, Nat.sub_self]
        show size < tot [x] + _
        rw [tot_one]
        rw [rm] at hk
        omega
  | some j =>
    obtain ⟨hj, hv⟩ := chs_some hc
    rw [rm] at hv
    have hmem : bs[j]?.getD [] ∈ bs := by rw [List.getElem?_eq_getElem hj]; exact List.getElem_mem _
    have hbj := h.each _ hmem
    have hge : ∀ t, t < bs.length → tot (bs[t]?.getD []) ≤ tot ((bs.set j (bs[j]?.getD [] ++ [x]))[t]?.getD []) := fun t ht => by
      by_cases e : j = t
      · subst e
        rw [List.getElem?_set_self hj]
        show _ ≤ tot (bs[j]?.getD [] ++ [x])
        rw [tot_app, tot_one]; omega
      · rw [List.getElem?_set_ne e]; exact Int.le_refl _
    refine ⟨fun b hb => ?_, fun i k hki hi hr => ?_⟩
    · change b ∈ bs.set j (bs[j]?.getD [] ++ [x]) at hb
      rcases List.mem_or_eq_of_mem_set hb with hb | rfl
      · exact h.each b hb
      · refine ⟨by simp, fun y hy => ?_, by rw [tot_app, tot_one]; omega⟩
        rcases List.mem_append.1 hy with hy | hy
        · exact hbj.2.1 y hy
        · exact hgx y hy
    · show size < tot ((bs.set j (bs[j]?.getD [] ++ [x]))[i]?.getD []) + tot ((bs.set j (bs[j]?.getD [] ++ [x]))[k]?.getD [])
      change i < (bs.set j (bs[j]?.getD [] ++ [x])).length at hi
      rw [List.length_set] at hi
      have h1 := h.pair i k hki hi hr
      have h2 := hge i hi
      have h3 := hge k (by omega)
      omega
theorem flat_set : ∀ (bs : List (List Int)) (k : Nat) (x : Int), k < bs.length → (bs.set k (bs[k]?.getD [] ++ [x])).flatten.Perm (bs.flatten ++ [x]) := by
  intro bs
  induction bs with
  | nil => intro k x h; simp at h
  | cons b bs ih =>
    intro k x h
    cases k with
    | zero =>
      show ((b ++ [x]) ++ bs.flatten).Perm (b ++ bs.flatten ++ [x])
      rw [List.append_assoc, List.append_assoc]
      exact List.Perm.append_left _ List.perm_append_comm
    | succ k =>
      have := ih k x (by simpa using h)
      show (b ++ (bs.set k (bs[k]?.getD [] ++ [x])).flatten).Perm (b ++ bs.flatten ++ [x])
      rw [List.append_assoc]
      exact List.Perm.append_left _ this
theorem stepB_flat (r : Nat) (size : Int) (bs : List (List Int)) (x : Int) : (stepB r size bs x).flatten.Perm (bs.flatten ++ [x]) := by
  rw [stepB]
  cases hc : chs r (rm size bs) x bs.length with
  | none => show (bs ++ [[x]]).flatten.Perm _; simp
  | some j => exact flat_set bs j x (chs_some hc).1
theorem stepB_len (r : Nat) (size : Int) (bs : List (List Int)) (x : Int) : bs.length ≤ (stepB r size bs x).length ∧ (stepB r size bs x).length ≤ bs.length + 1 := by
  rw [stepB]
  cases hc : chs r (rm size bs) x bs.length with
  | none => show _ ≤ (bs ++ [[x]]).length ∧ (bs ++ [[x]]).length ≤ _; simp
  | some j => show _ ≤ (bs.set j _).length ∧ (bs.set j _).length ≤ _; simp
theorem foldB {r : Nat} {size : Int} : ∀ (xs : List Int) (bs : List (List Int)), BinsOk r size bs → good xs → (∀ x ∈ xs, x ≤ size) →
    BinsOk r size (xs.foldl (stepB r size) bs) ∧ (xs.foldl (stepB r size) bs).flatten.Perm (bs.flatten ++ xs) ∧ (xs.foldl (stepB r size) bs).length ≤ bs.length + xs.length := by
  intro xs
  induction xs with
  | nil => intro bs h _ _; exact ⟨h, by simp, by simp⟩
  | cons x xs ih =>
    intro bs h hg hs
    have hx := hg x (List.mem_cons_self ..)
    obtain ⟨h1, h2, h3⟩ := ih (stepB r size bs x) (h.step hx (hs x (List.mem_cons_self ..))) (fun y hy => hg y (List.mem_cons_of_mem _ hy)) (fun y hy => hs y (List.mem_cons_of_mem _ hy))
    refine ⟨h1, ?_, ?_⟩
    · refine h2.trans ?_
      have := (stepB_flat r size bs x).append_right xs
      rw [List.append_assoc] at this
      exact this
    · have := (stepB_len r size bs x).2
      simp only [List.foldl_cons, List.length_cons] at *
      omega
theorem byB_ok {r : Nat} {size : Int} {xs : List Int} (hg : good xs) (hs : ∀ x ∈ xs, x ≤ size) : BinsOk r size (byB r size xs) ∧ (byB r size xs).flatten.Perm xs ∧ (byB r size xs).length ≤ xs.length := by
  have := foldB xs [] (binsOk_nil r size) hg hs
  refine ⟨this.1, by simpa [byB] using this.2.1, by simpa [byB] using this.2.2⟩
theorem rooms_sum (size : Int) : ∀ bs : List (List Int), tot (bs.map (fun b => size - tot b)) + tot bs.flatten = bs.length * size := by
  intro bs
  induction bs with
  | nil => simp [tot]
  | cons b bs ih =>
    show (size - tot b) + tot (bs.map (fun b => size - tot b)) + tot (b ++ bs.flatten) = ((bs.length + 1 : Nat) : Int) * size
    rw [tot_app, Int.natCast_add, Int.add_mul]
    omega
theorem flat_len : ∀ (bs : List (List Int)) (k : Nat), (bs[k]?.getD []).length ≤ bs.flatten.length := by
  intro bs
  induction bs with
  | nil => intro k; simp
  | cons b bs ih =>
    intro k
    cases k with
    | zero => simp
    | succ k => have := ih k; simp at this ⊢; omega
end Go.Proofs.Ytmggcfilkiklbaa
