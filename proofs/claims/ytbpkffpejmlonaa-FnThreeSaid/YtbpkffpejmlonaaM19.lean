/- Lists parted into three, in plain words. Conditions: none. -/
import Derived.Test.YtbpkffpejmlonaaM17
import Derived.Test.YtbpkffpejmlonaaMB
namespace Go.Proofs.Ytbpkffpejmlonaa
/-- the sums of three parts of a list -/
inductive Split : List Int → Int → Int → Int → Prop
  | nil : Split [] 0 0 0
  | fst {v : Int} {vs : List Int} {x y z : Int} : Split vs x y z → Split (v :: vs) (v + x) y z
  | snd {v : Int} {vs : List Int} {x y z : Int} : Split vs x y z → Split (v :: vs) x (v + y) z
  | thd {v : Int} {vs : List Int} {x y z : Int} : Split vs x y z → Split (v :: vs) x y (v + z)
def mx3 (x y z : Int) : Int := max (max x y) z
/-- what the program's closure leaves as the best -/
def th : List Int → Int → Int → Int → Int → Int
  | [], x, y, z, b => min b (mx3 x y z)
  | v :: vs, x, y, z, b => th vs x y (z + v) (th vs x (y + v) z (th vs (x + v) y z b))
theorem th_b (zs : List Int) : ∀ x y z b, th zs x y z b ≤ b := by
  induction zs with
  | nil => intro x y z b; simp only [th]; omega
  | cons v vs ih => intro x y z b; simp only [th]; exact Int.le_trans (ih _ _ _ _) (Int.le_trans (ih _ _ _ _) (ih _ _ _ _))
theorem th_le {zs : List Int} {p q r : Int} (h : Split zs p q r) : ∀ x y z b, th zs x y z b ≤ mx3 (x + p) (y + q) (z + r) := by
  induction h with
  | nil => intro x y z b; simp only [th, mx3]; omega
  | @fst v vs p q r _ ih =>
    intro x y z b
    have h1 := ih (x + v) y z b
    rw [show x + (v + p) = x + v + p by omega]
    simp only [th]
    exact Int.le_trans (th_b _ _ _ _ _) (Int.le_trans (th_b _ _ _ _ _) h1)
  | @snd v vs p q r _ ih =>
    intro x y z b
    have h1 := ih x (y + v) z (th vs (x + v) y z b)
    rw [show y + (v + q) = y + v + q by omega]
    simp only [th]
    exact Int.le_trans (th_b _ _ _ _ _) h1
  | @thd v vs p q r _ ih =>
    intro x y z b
    have h1 := ih x y (z + v) (th vs x (y + v) z (th vs (x + v) y z b))
    rw [show z + (v + r) = z + v + r by omega]
    simp only [th]
    exact h1
theorem th_is (zs : List Int) : ∀ x y z b, th zs x y z b = b ∨ ∃ p q r, Split zs p q r ∧ th zs x y z b = mx3 (x + p) (y + q) (z + r) := by
  induction zs with
  | nil =>
    intro x y z b
    simp only [th]
    by_cases h : b ≤ mx3 x y z
    · exact .inl (by omega)
    · exact .inr ⟨0, 0, 0, .nil, by rw [Int.add_zero, Int.add_zero, Int.add_zero]; omega⟩
  | cons v vs ih =>
    intro x y z b
    simp only [th]
    rcases ih x y (z + v) (th vs x (y + v) z (th vs (x + v) y z b)) with h | ⟨p, q, r, hs, h⟩
    · rw [h]
      rcases ih x (y + v) z (th vs (x + v) y z b) with h | ⟨p, q, r, hs, h⟩
      · rw [h]
        rcases ih (x + v) y z b with h | ⟨p, q, r, hs, h⟩
        · exact .inl h
        · exact .inr ⟨_, _, _, .fst hs, by rw [h]; congr 1; omega⟩
      · exact .inr ⟨_, _, _, .snd hs, by rw [h]; congr 1; omega⟩
    · exact .inr ⟨_, _, _, .thd hs, by rw [h]; congr 1; omega⟩
theorem split_tot {zs : List Int} {x y z : Int} (h : Split zs x y z) : x + y + z = tot zs := by
  induction h with
  | nil => rfl
  | fst _ ih => rw [tot]; omega
  | snd _ ih => rw [tot]; omega
  | thd _ ih => rw [tot]; omega
theorem split_nn {zs : List Int} (hg : good zs) {x y z : Int} (h : Split zs x y z) : 0 ≤ x ∧ 0 ≤ y ∧ 0 ≤ z := by
  induction h with
  | nil => omega
  | fst _ ih => have := hg _ (List.mem_cons_self ..); have := ih (fun u hu => hg u (List.mem_cons_of_mem _ hu)); omega
  | snd _ ih => have := hg _ (List.mem_cons_self ..); have := ih (fun u hu => hg u (List.mem_cons_of_mem _ hu)); omega
  | thd _ ih => have := hg _ (List.mem_cons_self ..); have := ih (fun u hu => hg u (List.mem_cons_of_mem _ hu)); omega
theorem split_has {zs : List Int} (hg : good zs) {x y z : Int} (h : Split zs x y z) : ∀ u ∈ zs, u ≤ mx3 x y z := by
  induction h with
  | nil => simp
  | fst hs ih =>
    have h1 := hg _ (List.mem_cons_self ..)
    have hg2 : good _ := fun u hu => hg u (List.mem_cons_of_mem _ hu)
    have h2 := split_nn hg2 hs
    intro u hu
    rcases List.mem_cons.1 hu with rfl | hu
    · simp only [mx3]; omega
    · have := ih hg2 u hu; simp only [mx3] at *; omega
  | snd hs ih =>
    have h1 := hg _ (List.mem_cons_self ..)
    have hg2 : good _ := fun u hu => hg u (List.mem_cons_of_mem _ hu)
    have h2 := split_nn hg2 hs
    intro u hu
    rcases List.mem_cons.1 hu with rfl | hu
    · simp only [mx3]; omega
    · have := ih hg2 u hu; simp only [mx3] at *; omega
  | thd hs ih =>
    have h1 := hg _ (List.mem_cons_self ..)
    have hg2 : good _ := fun u hu => hg u (List.mem_cons_of_mem _ hu)
    have h2 := split_nn hg2 hs
    intro u hu
    rcases List.mem_cons.1 hu with rfl | hu
    · simp only [mx3]; omega
    · have := ih hg2 u hu; simp only [mx3] at *; omega
/-- a choice and a part of what it leaves -/
theorem split_of (zs : List Int) : ∀ {c p : Nat}, c < 2 ^ zs.length → Sub p (2 ^ zs.length - 1 - c) → Split zs (csum zs c) (csum zs p) (tot zs - csum zs c - csum zs p) := by
  induction zs with
  | nil =>
    intro c p h1 h2
    exact .nil
  | cons v vs ih =>
    intro c p h1 h2
    rw [List.length_cons, Nat.pow_succ] at h1 h2
    have h3 := h2.low
    have hp := Nat.two_pow_pos vs.length
    have h4 : Sub (p / 2) (2 ^ vs.length - 1 - c / 2) := by
      have := h2.half
      rwa [show (2 ^ vs.length * 2 - 1 - c) / 2 = 2 ^ vs.length - 1 - c / 2 by omega] at this
    have hs := ih (show c / 2 < 2 ^ vs.length by omega) h4
    rw [csum_cons, csum_cons, tot]
    by_cases e1 : c % 2 = 1
    · have e2 : ¬ p % 2 = 1 := by omega
      rw [if_pos e1, if_neg e2, Int.zero_add, show v + tot vs - (v + csum vs (c / 2)) - csum vs (p / 2) = tot vs - csum vs (c / 2) - csum vs (p / 2) by omega]
      exact .fst hs
    · by_cases e2 : p % 2 = 1
      · rw [if_neg e1, if_pos e2, Int.zero_add, show v + tot vs - csum vs (c / 2) - (v + csum vs (p / 2)) = tot vs - csum vs (c / 2) - csum vs (p / 2) by omega]
        exact .snd hs
      · rw [if_neg e1, if_neg e2, Int.zero_add, Int.zero_add, show v + tot vs - csum vs (c / 2) - csum vs (p / 2) = v + (tot vs - csum vs (c / 2) - csum vs (p / 2)) by omega]
        exact .thd hs
theorem split_is {zs : List Int} {x y z : Int} (h : Split zs x y z) : ∃ c p, c < 2 ^ zs.length ∧ Sub p (2 ^ zs.length - 1 - c) ∧ x = csum zs c ∧ y = csum zs p := by
  induction h with
  | nil => exact ⟨0, 0, by simp, Sub.zero _, rfl, rfl⟩
  | @fst v vs x y z _ ih =>
    obtain ⟨c, p, h1, h2, rfl, rfl⟩ := ih
    have hp := Nat.two_pow_pos vs.length
    refine ⟨2 * c + 1, 2 * p, by rw [List.length_cons, Nat.pow_succ]; omega, Sub.of (by omega) ?_, ?_, ?_⟩
    · rw [List.length_cons, Nat.pow_succ, show 2 * p / 2 = p by omega, show (2 ^ vs.length * 2 - 1 - (2 * c + 1)) / 2 = 2 ^ vs.length - 1 - c by omega]; exact h2
    · rw [csum_cons, if_pos (by omega), show (2 * c + 1) / 2 = c by omega]
    · rw [csum_cons, if_neg (by omega), show 2 * p / 2 = p by omega, Int.zero_add]
  | @snd v vs x y z _ ih =>
    obtain ⟨c, p, h1, h2, rfl, rfl⟩ := ih
    have hp := Nat.two_pow_pos vs.length
    refine ⟨2 * c, 2 * p + 1, by rw [List.length_cons, Nat.pow_succ]; omega, Sub.of (by rw [List.length_cons, Nat.pow_succ]; omega) ?_, ?_, ?_⟩
    · rw [List.length_cons, Nat.pow_succ, show (2 * p + 1) / 2 = p by omega, show (2 ^ vs.length * 2 - 1 - 2 * c) / 2 = 2 ^ vs.length - 1 - c by omega]; exact h2
    · rw [csum_cons, if_neg (by omega), show 2 * c / 2 = c by omega, Int.zero_add]
    · rw [csum_cons, if_pos (by omega), show (2 * p + 1) / 2 = p by omega]
  | @thd v vs x y z _ ih =>
    obtain ⟨c, p, h1, h2, rfl, rfl⟩ := ih
    have hp := Nat.two_pow_pos vs.length
    refine ⟨2 * c, 2 * p, by rw [List.length_cons, Nat.pow_succ]; omega, Sub.of (by omega) ?_, ?_, ?_⟩
    · rw [List.length_cons, Nat.pow_succ, show 2 * p / 2 = p by omega, show (2 ^ vs.length * 2 - 1 - 2 * c) / 2 = 2 ^ vs.length - 1 - c by omega]; exact h2
    · rw [csum_cons, if_neg (by omega), show 2 * c / 2 = c by omega, Int.zero_add]
    · rw [csum_cons, if_neg (by omega), show 2 * p / 2 = p by omega, Int.zero_add]
/-- r is the least v for three parts -/
def IsThree (zs : List Int) (r : Int) : Prop := (∃ x y z, Split zs x y z ∧ mx3 x y z = r) ∧ ∀ x y z, Split zs x y z → r ≤ mx3 x y z
theorem IsThree.unique {zs : List Int} {r s : Int} (h : IsThree zs r) (k : IsThree zs s) : r = s := by
  obtain ⟨⟨x, y, z, hs, e⟩, h2⟩ := h
  obtain ⟨⟨x', y', z', hs', e'⟩, k2⟩ := k
  have := h2 _ _ _ hs'
  have := k2 _ _ _ hs
  omega
theorem split_all {zs : List Int} : ∃ x y z, Split zs x y z ∧ x = 0 ∧ y = 0 ∧ z = tot zs :=
  ⟨_, _, _, split_of zs (c := 0) (p := 0) (Nat.two_pow_pos _) (Sub.zero _), csum_zero _, csum_zero _, by rw [csum_zero]; omega⟩
theorem th_three {zs : List Int} (hg : good zs) : IsThree zs (th zs 0 0 0 (tot zs)) := by
  have ht := tot_bd hg
  refine ⟨?_, fun x y z h => by have := th_le h 0 0 0 (tot zs); simpa using this⟩
  rcases th_is zs 0 0 0 (tot zs) with h | ⟨p, q, r, hs, h⟩
  · obtain ⟨x, y, z, hs, rfl, rfl, rfl⟩ := split_all (zs := zs)
    exact ⟨_, _, _, hs, by rw [h, mx3]; omega⟩
  · exact ⟨p, q, r, hs, by rw [h]; simp⟩
/-- the answer of HalfThree -/
def t3 (zs : List Int) : Int := th zs 0 0 0 (tot zs)
def t3R (zs : List Int) : Int := if inL zs = true then t3 zs else 0
theorem three_law {zs : List Int} (hg : good zs) {r : Int} (h : IsThree zs r) : tot zs ≤ 3 * r ∧ gre zs ≤ r ∧ 2 * r ≤ tot zs + lr zs ∧ 0 ≤ r ∧ r ≤ tot zs := by
  obtain ⟨⟨x, y, z, hs, rfl⟩, h2⟩ := h
  have h3 := split_tot hs
  have h4 := split_nn hg hs
  obtain ⟨⟨c, hc, e⟩, _⟩ := lr_least hg
  have h5 := h2 _ _ _ (split_of zs hc (p := 2 ^ zs.length - 1 - c) (Sub.refl _))
  have h6 := csum_compl zs c hc
  have h7 := csum_bd hg c
  rw [restOf, sz] at e
  have h8 : gre zs ≤ mx3 x y z := gre_le (by simp only [mx3]; omega) (split_has hg hs)
  simp only [mx3] at *
  omega
end Go.Proofs.Ytbpkffpejmlonaa
