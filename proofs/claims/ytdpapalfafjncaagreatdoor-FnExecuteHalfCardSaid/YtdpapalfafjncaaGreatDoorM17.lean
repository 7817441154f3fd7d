/- The least rest and the first choice with it, the greatest number of a list, in plain words. Conditions: none. -/
import Derived.Test.YtdpapalfafjncaaGreatDoorM16
import Derived.Test.YtdpapalfafjncaaGreatDoorW11
namespace Go.Proofs.YtdpapalfafjncaaGreatDoor
/-- the greatest number of a list, 0 of none -/
def gre (zs : List Int) : Int := zs.foldl max 0
theorem gre_take (a : List Int) (k : Nat) (h : k < a.length) : gre (a.take (k + 1)) = max (gre (a.take k)) (a[k]?.getD 0) := by
  rw [take_snoc a k h, gre, List.foldl_append]; rfl
theorem foldl_max_ge (zs : List Int) : ∀ m : Int, m ≤ zs.foldl max m ∧ ∀ x ∈ zs, x ≤ zs.foldl max m := by
  induction zs with
  | nil => intro m; exact ⟨Int.le_refl _, by simp⟩
  | cons y ys ih =>
    intro m
    have h := ih (max m y)
    rw [List.foldl_cons]
    refine ⟨by omega, fun x hx => ?_⟩
    rcases List.mem_cons.1 hx with rfl | hx
    · omega
    · exact h.2 x hx
theorem gre_ge {zs : List Int} {x : Int} (h : x ∈ zs) : x ≤ gre zs := (foldl_max_ge zs 0).2 x h
theorem gre_nn (zs : List Int) : 0 ≤ gre zs := (foldl_max_ge zs 0).1
theorem foldl_max_le (zs : List Int) (M : Int) (h : ∀ x ∈ zs, x ≤ M) : ∀ m : Int, m ≤ M → zs.foldl max m ≤ M := by
  induction zs with
  | nil => intro m hm; exact hm
  | cons y ys ih =>
    intro m hm
    rw [List.foldl_cons]
    exact ih (fun x hx => h x (List.mem_cons_of_mem _ hx)) _ (by have := h y (List.mem_cons_self ..); omega)
theorem gre_le {zs : List Int} {M : Int} (h0 : 0 ≤ M) (h : ∀ x ∈ zs, x ≤ M) : gre zs ≤ M := foldl_max_le zs M h 0 h0
theorem gre_le_tot {zs : List Int} (h : good zs) : gre zs ≤ tot zs := by
  have key : ∀ ys : List Int, good ys → ∀ x ∈ ys, x ≤ tot ys := by
    intro ys
    induction ys with
    | nil => simp
    | cons y ys ih =>
      intro hg x hx
      have hy := hg y (List.mem_cons_self ..)
      have hg2 : good ys := fun z hz => hg z (List.mem_cons_of_mem _ hz)
      have ht := tot_bd hg2
      rw [tot]
      rcases List.mem_cons.1 hx with rfl | hx
      · omega
      · have := ih hg2 x hx; omega
  exact gre_le (tot_bd h).1 (key zs h)

theorem rest_small (zs : List Int) (M : Int) (hM : 0 ≤ M) (h : ∀ x ∈ zs, 0 ≤ x ∧ x ≤ M) : ∃ c, c < 2 ^ zs.length ∧ -M ≤ tot zs - 2 * csum zs c ∧ tot zs - 2 * csum zs c ≤ M := by
  induction zs with
  | nil => exact ⟨0, by simp, by simp [tot, csum]; omega, by simp [tot, csum]; omega⟩
  | cons x xs ih =>
    obtain ⟨c, hc, h1, h2⟩ := ih (fun y hy => h y (List.mem_cons_of_mem _ hy))
    have hx := h x (List.mem_cons_self ..)
    rw [List.length_cons, Nat.pow_succ]
    by_cases e : tot xs - 2 * csum xs c ≤ 0
    · refine ⟨2 * c, by omega, ?_⟩
      rw [csum_cons, if_neg (by omega), show 2 * c / 2 = c by omega, tot]; omega
    · refine ⟨2 * c + 1, by omega, ?_⟩
      rw [csum_cons, if_pos (by omega), show (2 * c + 1) / 2 = c by omega, tot]; omega
/-- the least rest -/
def lr (zs : List Int) : Int := sgnMin zs 0 (tot zs)
theorem lr_least {zs : List Int} (hg : good zs) : IsLeast zs (lr zs) := sgnMin_least hg
theorem lr_le_gre {zs : List Int} (hg : good zs) : lr zs ≤ gre zs := by
  obtain ⟨c, hc, h1, h2⟩ := rest_small zs (gre zs) (gre_nn zs) (fun x hx => ⟨by have := hg x hx; omega, gre_ge hx⟩)
  have := (lr_least hg).2 c hc
  rw [restOf, sz] at this
  omega
theorem lr_par {zs : List Int} (hg : good zs) : (tot zs - lr zs) % 2 = 0 := by
  obtain ⟨⟨c, hc, e⟩, _⟩ := lr_least hg
  rw [restOf, sz] at e
  omega
theorem lr_bd {zs : List Int} (hg : good zs) : 0 ≤ lr zs ∧ lr zs ≤ tot zs := by
  have h := (lr_least hg).2 0 (Nat.two_pow_pos _)
  have ht := tot_bd hg
  obtain ⟨⟨c, hc, e⟩, _⟩ := lr_least hg
  rw [restOf, csum_zero, sz] at h
  rw [restOf, sz] at e
  omega
/-- the first choice up to m with the least rest -/
def leastUp (zs : List Int) : Nat → Nat
  | 0 => 0
  | m + 1 => if restOf zs (m + 1) < restOf zs (leastUp zs m) then m + 1 else leastUp zs m
theorem leastUp_le (zs : List Int) : ∀ m, leastUp zs m ≤ m
  | 0 => Nat.le_refl _
  | m + 1 => by
    have := leastUp_le zs m
    rw [leastUp]; split <;> omega
theorem leastUp_least (zs : List Int) : ∀ m c, c ≤ m → restOf zs (leastUp zs m) ≤ restOf zs c
  | 0, c, h => by obtain rfl : c = 0 := by omega
                  exact Int.le_refl _
  | m + 1, c, h => by
    have ih := leastUp_least zs m
    rw [leastUp]
    split
    · rcases Nat.lt_or_ge c (m + 1) with e | e
      · have := ih c (by omega); omega
      · obtain rfl : c = m + 1 := by omega
        exact Int.le_refl _
    · rcases Nat.lt_or_ge c (m + 1) with e | e
      · exact ih c (by omega)
      · obtain rfl : c = m + 1 := by omega
        omega
theorem leastUp_first (zs : List Int) : ∀ m c, c < leastUp zs m → restOf zs (leastUp zs m) < restOf zs c
  | 0, c, h => by simp [leastUp] at h
  | m + 1, c, h => by
    have ih := leastUp_first zs m
    rw [leastUp] at h ⊢
    split
    · rename_i hlt
      rw [if_pos hlt] at h
      have := leastUp_least zs m c (by omega); omega
    · rename_i hlt
      rw [if_neg hlt] at h
      exact ih c h
/-- the first choice of all with the least rest -/
def lc (zs : List Int) : Nat := leastUp zs (2 ^ zs.length - 1)
theorem lc_lt (zs : List Int) : lc zs < 2 ^ zs.length := by
  have := leastUp_le zs (2 ^ zs.length - 1)
  have := Nat.two_pow_pos zs.length
  rw [lc]; omega
theorem lc_least (zs : List Int) : IsLeast zs (restOf zs (lc zs)) := by
  have := Nat.two_pow_pos zs.length
  exact ⟨⟨_, lc_lt zs, rfl⟩, fun c hc => leastUp_least zs _ c (by omega)⟩
theorem lc_rest {zs : List Int} (hg : good zs) : restOf zs (lc zs) = lr zs := (lc_least zs).unique (lr_least hg)
/-- the search for the least rest ends at lc -/
def leastP (zs : List Int) (c : Nat) : Bool := restOf zs c == lr zs
theorem lc_is {zs : List Int} (hg : good zs) : FirstIs (leastP zs) (2 ^ zs.length) (lc zs) true := by
  refine .inl ⟨rfl, lc zs, rfl, lc_lt zs, by rw [leastP, lc_rest hg]; simp, fun d hd => ?_⟩
  have := leastUp_first zs _ d hd
  have e := lc_rest hg
  rw [lc] at e
  rw [leastP, ← e]
  simp; omega
theorem csum_full (zs : List Int) : csum zs (2 ^ zs.length - 1) = tot zs := by
  have := csum_compl zs 0 (Nat.two_pow_pos _)
  rw [csum_zero] at this
  rw [Nat.sub_zero] at this
  omega
theorem restOf_bd {zs : List Int} (hg : good zs) (c : Nat) : 0 ≤ restOf zs c ∧ restOf zs c ≤ tot zs := by
  have := csum_bd hg c
  rw [restOf, sz]; omega
end Go.Proofs.YtdpapalfafjncaaGreatDoor
