/- Weighings found sign by sign; the greatest number up to which all are weighed; in plain words. Conditions: none. -/
import Derived.Test.YtmggcfilkiklbaaDoorM20
namespace Go.Proofs.YtmggcfilkiklbaaDoor
/-- there are signs with a sum of m -/
def wfind : List Int → Int → Bool
  | [], m => m == 0
  | x :: xs, m => wfind xs (m + x) || (wfind xs m || wfind xs (m - x))
theorem wfind_of (zs : List Int) : ∀ c, wfind zs (tsum zs c) = true := by
  induction zs with
  | nil => intro c; rfl
  | cons x xs ih =>
    intro c
    have h := dig_cases c x
    have h2 := ih (c / 3)
    rw [wfind, tsum]
    rcases h with ⟨_, e⟩ | ⟨_, e⟩ | ⟨_, e⟩
    · rw [e, show -x + tsum xs (c / 3) + x = tsum xs (c / 3) by omega, h2]; simp
    · rw [e, show 0 + tsum xs (c / 3) = tsum xs (c / 3) by omega, h2]; simp
    · rw [e, show x + tsum xs (c / 3) - x = tsum xs (c / 3) by omega, h2]; simp
theorem wfind_pos {zs : List Int} {v : Int} (h : 0 < wN zs v) : wfind zs v = true := by
  unfold wN at h
  obtain ⟨c, _, hc⟩ := cntN_some h
  rw [decide_eq_true_eq] at hc
  rw [← hc]
  exact wfind_of zs c
theorem wfind_zero (zs : List Int) : wfind zs 0 = true := by
  induction zs with
  | nil => rfl
  | cons x xs ih => rw [wfind, ih]; simp
/-- no sign below s has been found to do -/
def NotYet (xs : List Int) (x m s : Int) : Prop := ∀ r, -1 ≤ r → r < s → wfind xs (m - r * x) = false
theorem notYet_start (xs : List Int) (x m : Int) : NotYet xs x m (-1) := fun r h1 h2 => by omega
theorem NotYet.next {xs : List Int} {x m s : Int} (h : NotYet xs x m s) (hs : wfind xs (m - s * x) = false) : NotYet xs x m (s + 1) := fun r h1 h2 => by
  by_cases e : r = s
  · subst e; exact hs
  · exact h r h1 (by omega)
theorem notYet_end {xs : List Int} {x m : Int} (h : NotYet xs x m 2) : wfind (x :: xs) m = false := by
  have h1 := h (-1) (by omega) (by omega)
  have h2 := h 0 (by omega) (by omega)
  have h3 := h 1 (by omega) (by omega)
  rw [show m - -1 * x = m + x by omega] at h1
  rw [show m - 0 * x = m by omega] at h2
  rw [show m - 1 * x = m - x by omega] at h3
  rw [wfind, h1, h2, h3]; rfl
theorem wfind_hit {xs : List Int} {x m s : Int} (hs : -1 ≤ s ∧ s ≤ 1) (h : wfind xs (m - s * x) = true) : wfind (x :: xs) m = true := by
  have hc : s = -1 ∨ s = 0 ∨ s = 1 := by omega
  rw [wfind]
  rcases hc with rfl | rfl | rfl
  · rw [show m - -1 * x = m + x by omega] at h; rw [h]; simp
  · rw [show m - 0 * x = m by omega] at h; rw [h]; simp
  · rw [show m - 1 * x = m - x by omega] at h; rw [h]; simp
/-- all up to W have counts, and W + 1 has none -/
def IsWhole (L : List Int) (W : Nat) : Prop := W < L.length ∧ (∀ v : Nat, 1 ≤ v → v ≤ W → (0 : Int) < L[v]?.getD 0) ∧ ¬ (W + 1 < L.length ∧ (0 : Int) < L[W + 1]?.getD 0)
theorem IsWhole.unique {L : List Int} {W V : Nat} (h : IsWhole L W) (k : IsWhole L V) : W = V := by
  rcases Nat.lt_trichotomy W V with e | e | e
  · exact (h.2.2 ⟨by have := k.1; omega, k.2.1 _ (by omega) (by omega)⟩).elim
  · exact e
  · exact (k.2.2 ⟨by have := h.1; omega, h.2.1 _ (by omega) (by omega)⟩).elim
theorem wN_zero (zs : List Int) : 1 ≤ wN zs 0 := by
  unfold wN
  obtain ⟨c, hc, h⟩ : ∃ c, c < 3 ^ zs.length ∧ tsum zs c = 0 := by
    induction zs with
    | nil => exact ⟨0, by simp, rfl⟩
    | cons x xs ih =>
      obtain ⟨c, hc, h⟩ := ih
      refine ⟨3 * c + 1, by rw [List.length_cons, Nat.pow_succ]; omega, ?_⟩
      have hd := dig_cases (3 * c + 1) x
      rw [tsum, show (3 * c + 1) / 3 = c by omega, h]
      omega
  exact cntN_pos c hc (by rw [decide_eq_true_eq]; exact h)
/-- what the law FnPanWhole says -/
theorem panWhole_law {zs : List Int} (hg : good zs) {W : Nat} (h : IsWhole (panC zs) W) : 2 * (W : Int) + 1 ≤ ((3 ^ zs.length : Nat) : Int) ∧ (W : Int) ≤ tot zs ∧ wfind zs W = true := by
  have ht := tot_bd hg
  have hl := panC_length zs
  have h0 : (1 : Int) ≤ (panC zs)[0]?.getD 0 := by
    rw [panC_get 0 (by omega)]
    have := wN_zero zs
    exact_mod_cast this
  obtain ⟨h1, h2⟩ := whole_law hg h.1 h.2.1 h0
  refine ⟨h1, h2, ?_⟩
  by_cases e : W = 0
  · subst e; exact wfind_zero zs
  · have h3 := h.2.1 W (by omega) (Nat.le_refl _)
    rw [panC_get W (by have := h.1; omega)] at h3
    exact wfind_pos (by exact_mod_cast h3)
end Go.Proofs.YtmggcfilkiklbaaDoor
