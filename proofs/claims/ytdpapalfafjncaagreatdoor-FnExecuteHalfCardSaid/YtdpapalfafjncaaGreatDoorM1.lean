/- Plain mathematics: the sum of a choice, the total, and what a list is. Conditions: none; no program in sight. -/
namespace Go.Proofs.YtdpapalfafjncaaGreatDoor

/-- the sum of the numbers at the places of choice c -/
def csum : List Int → Nat → Int
  | [], _ => 0
  | x :: xs, c => (if c % 2 = 1 then x else 0) + csum xs (c / 2)

/-- the sum of all numbers -/
def tot : List Int → Int
  | [] => 0
  | x :: xs => x + tot xs

def okNum (x : Int) : Bool := decide (1 ≤ x) && decide (x ≤ 60)
/-- the list is as told -/
def inL (a : List Int) : Bool := decide (a.length ≤ 10) && a.all okNum

theorem csum_nil (c : Nat) : csum [] c = 0 := rfl
theorem csum_cons (x : Int) (xs : List Int) (c : Nat) : csum (x :: xs) c = (if c % 2 = 1 then x else 0) + csum xs (c / 2) := rfl
theorem csum_snoc (xs : List Int) (x : Int) : ∀ c : Nat, csum (xs ++ [x]) c = csum xs c + (if c / 2 ^ xs.length % 2 = 1 then x else 0) := by
  induction xs with
  | nil => intro c; simp [csum]
  | cons y ys ih =>
    intro c
    rw [List.cons_append, csum_cons, csum_cons, ih (c / 2), Nat.div_div_eq_div_mul, List.length_cons, Nat.pow_succ, Nat.mul_comm 2]
    omega

theorem take_snoc (a : List Int) (k : Nat) (h : k < a.length) : a.take (k + 1) = a.take k ++ [a[k]?.getD 0] := by
  rw [List.take_add_one, List.getElem?_eq_getElem h]; rfl
theorem csum_take (a : List Int) (c k : Nat) (h : k < a.length) : csum (a.take (k + 1)) c = csum (a.take k) c + (if c / 2 ^ k % 2 = 1 then a[k]?.getD 0 else 0) := by
  rw [take_snoc a k h, csum_snoc, List.length_take, Nat.min_eq_left (Nat.le_of_lt h)]

theorem tot_append (xs ys : List Int) : tot (xs ++ ys) = tot xs + tot ys := by
  induction xs with
  | nil => simp [tot]
  | cons x xs ih => rw [List.cons_append, tot, tot, ih]; omega
theorem tot_take (a : List Int) (k : Nat) (h : k < a.length) : tot (a.take (k + 1)) = tot (a.take k) + a[k]?.getD 0 := by
  rw [take_snoc a k h, tot_append]; simp [tot]

/-- all numbers from 1 to 60 -/
def good (a : List Int) : Prop := ∀ x ∈ a, 1 ≤ x ∧ x ≤ 60
theorem inL_iff (a : List Int) : inL a = true ↔ a.length ≤ 10 ∧ good a := by
  simp [inL, good, okNum]
theorem inL_false (a : List Int) : inL a = false ↔ ¬ (a.length ≤ 10 ∧ good a) := by
  rw [← inL_iff]; simp
theorem good_take {a : List Int} (h : good a) (k : Nat) : good (a.take k) := fun x hx => h x (List.mem_of_mem_take hx)
theorem good_get {a : List Int} (h : good a) (k : Nat) (hk : k < a.length) : 1 ≤ a[k]?.getD 0 ∧ a[k]?.getD 0 ≤ 60 := by
  rw [List.getElem?_eq_getElem hk]; exact h _ (List.getElem_mem hk)
theorem good_snoc (a : List Int) (k : Nat) (hk : k < a.length) : good (a.take (k + 1)) ↔ good (a.take k) ∧ 1 ≤ a[k]?.getD 0 ∧ a[k]?.getD 0 ≤ 60 := by
  rw [take_snoc a k hk]
  simp only [good, List.mem_append, List.mem_singleton]
  constructor
  · intro h; exact ⟨fun x hx => h x (.inl hx), h _ (.inr rfl)⟩
  · rintro ⟨h1, h2⟩ x (hx | rfl)
    · exact h1 x hx
    · exact h2
theorem good_bad {a : List Int} (k : Nat) (hk : k < a.length) (h : ¬ (1 ≤ a[k]?.getD 0 ∧ a[k]?.getD 0 ≤ 60)) : ¬ good a := fun hg => h (good_get hg k hk)

theorem tot_bd {a : List Int} (h : good a) : 0 ≤ tot a ∧ tot a ≤ 60 * a.length := by
  induction a with
  | nil => simp [tot]
  | cons x xs ih =>
    have h1 := h x (List.mem_cons_self ..)
    have h2 := ih (fun y hy => h y (List.mem_cons_of_mem _ hy))
    simp only [tot, List.length_cons]; omega
theorem csum_bd {a : List Int} (h : good a) : ∀ c, 0 ≤ csum a c ∧ csum a c ≤ tot a := by
  induction a with
  | nil => intro c; simp [csum, tot]
  | cons x xs ih =>
    intro c
    have h1 := h x (List.mem_cons_self ..)
    have h2 := ih (fun y hy => h y (List.mem_cons_of_mem _ hy)) (c / 2)
    simp only [tot, csum]; split <;> omega
end Go.Proofs.YtdpapalfafjncaaGreatDoor
