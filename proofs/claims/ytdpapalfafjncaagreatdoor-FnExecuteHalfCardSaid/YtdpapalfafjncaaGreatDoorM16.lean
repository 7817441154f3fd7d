/- The least rest of two parts, in plain words. Conditions: none. -/
import Derived.Test.YtdpapalfafjncaaGreatDoorM13
namespace Go.Proofs.YtdpapalfafjncaaGreatDoor
def sz (v : Int) : Int := max v (-v)
/-- what the program's closure leaves as the best: all signs before the numbers, + first -/
def sgnMin : List Int → Int → Int → Int
  | [], d, b => min b (sz d)
  | x :: xs, d, b => sgnMin xs (d - x) (sgnMin xs (d + x) b)
theorem sgnMin_b (zs : List Int) : ∀ d b, sgnMin zs d b ≤ b := by
  induction zs with
  | nil => intro d b; simp only [sgnMin]; omega
  | cons x xs ih => intro d b; simp only [sgnMin]; exact Int.le_trans (ih _ _) (ih _ _)
theorem sgnMin_le (zs : List Int) : ∀ (d b : Int) (c : Nat), c < 2 ^ zs.length → sgnMin zs d b ≤ sz (d + tot zs - 2 * csum zs c) := by
  induction zs with
  | nil => intro d b c _; simp only [sgnMin, tot, csum, sz]; omega
  | cons x xs ih =>
    intro d b c hc
    rw [List.length_cons, Nat.pow_succ] at hc
    simp only [sgnMin, tot, csum_cons]
    by_cases e : c % 2 = 1
    · rw [if_pos e]
      have := ih (d - x) (sgnMin xs (d + x) b) (c / 2) (by omega)
      rwa [show d + (x + tot xs) - 2 * (x + csum xs (c / 2)) = d - x + tot xs - 2 * csum xs (c / 2) by omega]
    · rw [if_neg e]
      have h1 := sgnMin_b xs (d - x) (sgnMin xs (d + x) b)
      have h2 := ih (d + x) b (c / 2) (by omega)
      rw [show d + (x + tot xs) - 2 * (0 + csum xs (c / 2)) = d + x + tot xs - 2 * csum xs (c / 2) by omega]
      omega
theorem sgnMin_is (zs : List Int) : ∀ (d b : Int), sgnMin zs d b = b ∨ ∃ c, c < 2 ^ zs.length ∧ sgnMin zs d b = sz (d + tot zs - 2 * csum zs c) := by
  induction zs with
  | nil =>
    intro d b
    simp only [sgnMin, tot, sz]
    by_cases h : b ≤ max d (-d)
    · exact .inl (by omega)
    · exact .inr ⟨0, by simp, by simp only [csum]; omega⟩
  | cons x xs ih =>
    intro d b
    simp only [sgnMin, tot]
    rcases ih (d - x) (sgnMin xs (d + x) b) with h | ⟨c, hc, h⟩
    · rw [h]
      rcases ih (d + x) b with h2 | ⟨c, hc, h2⟩
      · exact .inl h2
      · refine .inr ⟨2 * c, by rw [List.length_cons, Nat.pow_succ]; omega, ?_⟩
        rw [h2, csum_cons, if_neg (by omega), show 2 * c / 2 = c by omega, show d + (x + tot xs) - 2 * (0 + csum xs c) = d + x + tot xs - 2 * csum xs c by omega]
    · refine .inr ⟨2 * c + 1, by rw [List.length_cons, Nat.pow_succ]; omega, ?_⟩
      rw [h, csum_cons, if_pos (by omega), show (2 * c + 1) / 2 = c by omega, show d + (x + tot xs) - 2 * (x + csum xs c) = d - x + tot xs - 2 * csum xs c by omega]
/-- the rest of a choice -/
def restOf (zs : List Int) (c : Nat) : Int := sz (tot zs - 2 * csum zs c)
/-- r is the least rest -/
def IsLeast (zs : List Int) (r : Int) : Prop := (∃ c, c < 2 ^ zs.length ∧ restOf zs c = r) ∧ ∀ c, c < 2 ^ zs.length → r ≤ restOf zs c
theorem IsLeast.unique {zs : List Int} {r s : Int} (h : IsLeast zs r) (k : IsLeast zs s) : r = s := by
  obtain ⟨⟨c, hc, e⟩, h2⟩ := h
  obtain ⟨⟨d, hd, f⟩, k2⟩ := k
  have := h2 d hd
  have := k2 c hc
  omega
/-- the program's answer is the least rest -/
theorem sgnMin_least {zs : List Int} (hg : good zs) : IsLeast zs (sgnMin zs 0 (tot zs)) := by
  have ht := tot_bd hg
  have hle := sgnMin_le zs 0 (tot zs)
  refine ⟨?_, fun c hc => by have := hle c hc; simpa [restOf] using this⟩
  rcases sgnMin_is zs 0 (tot zs) with h | ⟨c, hc, h⟩
  · exact ⟨0, Nat.two_pow_pos _, by rw [h, restOf, csum_zero, sz]; omega⟩
  · exact ⟨c, hc, by rw [h, restOf]; congr 1; omega⟩
end Go.Proofs.YtdpapalfafjncaaGreatDoor
