/- Lists parted into three, in plain words. Conditions: none. The greatest of three numbers, as the machine finds it. Conditions: none. HalfThree of the program: the closure that calls itself. Conditions: the list is as told. HalfThree of the program. Conditions: the list is short enough to be counted. The least span on one, two and three machines: the total, half of the total with the least rest, the least greatest part of three. Conditions: the loads are good. -/
import Derived.Test.YtacedadenbinmaaZi
import Derived.Test.YtacedadenbinmaaZn
import Derived.Test.YtacedadenbinmaaZa
import Derived.Laws.EntriesVeiled
import Derived.Test.YtacedadenbinmaaZr
set_option linter.unusedVariables false
set_option linter.unusedSimpArgs false
set_option linter.unusedSectionVars false
namespace Go.Proofs.Ytacedadenbinmaa
/-- the sums of three parts of a list -/
inductive Split : List Int → Int → Int → Int → Prop
  | nil : Split [] 0 0 0
  | fst {v : Int} {vs : List Int} {x y z : Int} : Split vs x y z → Split (v :: vs) (v + x) y z
  | snd {v : Int} {vs : List Int} {x y z : Int} : Split vs x y z → Split (v :: vs) x (v + y) z
  | thd {v : Int} {vs : List Int} {x y z : Int} : Split vs x y z → Split (v :: vs) x y (v + z)
def mx3 (x y z : Int) : Int := max (max x y) z
/-- what the program's closure leaves as the best -/
def th : List Int → Int → Int → Int → Int → Int
  | [], x, y, z, b => min b (mx3 x y z)
  | v :: vs, x, y, z, b => th vs x y (z + v) (th vs x (y + v) z (th vs (x + v) y z b))
theorem th_b (zs : List Int) : ∀ x y z b, th zs x y z b ≤ b := by
  induction zs with
  | nil => intro x y z b; simp only [th]; omega
  | cons v vs ih => intro x y z b; simp only [th]; exact Int.le_trans (ih _ _ _ _) (Int.le_trans (ih _ _ _ _) (ih _ _ _ _))
theorem th_le {zs : List Int} {p q r : Int} (h : Split zs p q r) : ∀ x y z b, th zs x y z b ≤ mx3 (x + p) (y + q) (z + r) := by
  induction h with
  | nil => intro x y z b; simp only [th, mx3]; omega
  | @fst v vs p q r _ ih =>
    intro x y z b
    have h1 := ih (x + v) y z b
    rw [show x + (v + p) = x + v + p by omega]
    simp only [th]
    exact Int.le_trans (th_b _ _ _ _ _) (Int.le_trans (th_b _ _ _ _ _) h1)
  | @snd v vs p q r _ ih =>
    intro x y z b
    have h1 := ih x (y + v) z (th vs (x + v) y z b)
    rw [show y + (v + q) = y + v + q by omega]
    simp only [th]
    exact Int.le_trans (th_b _ _ _ _ _) h1
  | @thd v vs p q r _ ih =>
    intro x y z b
    have h1 := ih x y (z + v) (th vs x (y + v) z (th vs (x + v) y z b))
    rw [show z + (v + r) = z + v + r by omega]
    simp only [th]
    exact h1
theorem th_is (zs : List Int) : ∀ x y z b, th zs x y z b = b ∨ ∃ p q r, Split zs p q r ∧ th zs x y z b = mx3 (x + p) (y + q) (z + r) := by
  induction zs with
  | nil =>
    intro x y z b
    simp only [th]
    by_cases h : b ≤ mx3 x y z
    · exact .inl (by omega)
    · exact .inr ⟨0, 0, 0, .nil, by rw [Int.add_zero, Int.add_zero, Int.add_zero]; omega⟩
  | cons v vs ih =>
    intro x y z b
    simp only [th]
    rcases ih x y (z + v) (th vs x (y + v) z (th vs (x + v) y z b)) with h | ⟨p, q, r, hs, h⟩
    · rw [h]
      rcases ih x (y + v) z (th vs (x + v) y z b) with h | ⟨p, q, r, hs, h⟩
      · rw [h]
        rcases ih (x + v) y z b with h | ⟨p, q, r, hs, h⟩
        · exact .inl h
        · exact .inr ⟨_, _, _, .fst hs, by rw [h]; congr 1; omega⟩
      · exact .inr ⟨_, _, _, .snd hs, by rw [h]; congr 1; omega⟩
    · exact .inr ⟨_, _, _, .thd hs, by rw [h]; congr 1; omega⟩
theorem split_tot {zs : List Int} {x y z : Int} (h : Split zs x y z) : x + y + z = tot zs := by
  induction h with
  | nil => rfl
  | fst _ ih => rw [tot]; omega
  | snd _ ih => rw [tot]; omega
  | thd _ ih => rw [tot]; omega
theorem split_nn {zs : List Int} (hg : good zs) {x y z : Int} (h : Split zs x y z) : 0 ≤ x ∧ 0 ≤ y ∧ 0 ≤ z := by
  induction h with
  | nil => omega
  | fst _ ih => have := hg _ (List.mem_cons_self ..); have := ih (fun u hu => hg u (List.mem_cons_of_mem _ hu)); omega
  | snd _ ih => have := hg _ (List.mem_cons_self ..); have := ih (fun u hu => hg u (List.mem_cons_of_mem _ hu)); omega
  | thd _ ih => have := hg _ (List.mem_cons_self ..); have := ih (fun u hu => hg u (List.mem_cons_of_mem _ hu)); omega
theorem split_has {zs : List Int} (hg : good zs) {x y z : Int} (h : Split zs x y z) : ∀ u ∈ zs, u ≤ mx3 x y z := by
  induction h with
  | nil => simp
  | fst hs ih =>
    have h1 := hg _ (List.mem_cons_self ..)
    have hg2 : good _ := fun u hu => hg u (List.mem_cons_of_mem _ hu)
    have h2 := split_nn hg2 hs
    intro u hu
    rcases List.mem_cons.1 hu with rfl | hu
    · simp only [mx3]; omega
    · have := ih hg2 u hu; simp only [mx3] at *; omega
  | snd hs ih =>
    have h1 := hg _ (List.mem_cons_self ..)
    have hg2 : good _ := fun u hu => hg u (List.mem_cons_of_mem _ hu)
    have h2 := split_nn hg2 hs
    intro u hu
    rcases List.mem_cons.1 hu with rfl | hu
    · simp only [mx3]; omega
    · have := ih hg2 u hu; simp only [mx3] at *; omega
  | thd hs ih =>
    have h1 := hg _ (List.mem_cons_self ..)
    have hg2 : good _ := fun u hu => hg u (List.mem_cons_of_mem _ hu)
    have h2 := split_nn hg2 hs
    intro u hu
    rcases List.mem_cons.1 hu with rfl | hu
    · simp only [mx3]; omega
    · have := ih hg2 u hu; simp only [mx3] at *; omega
/-- a choice and a part of what it leaves -/
theorem split_of (zs : List Int) : ∀ {c p : Nat}, c < 2 ^ zs.length → Sub p (2 ^ zs.length - 1 - c) → Split zs (csum zs c) (csum zs p) (tot zs - csum zs c - csum zs p) := by
  induction zs with
  | nil =>
    intro c p h1 h2
    exact .nil
  | cons v vs ih =>
    intro c p h1 h2
    rw [List.length_cons, Nat.pow_succ] at h1 h2
    have h3 := h2.low
    have hp := Nat.two_pow_pos vs.length
    have h4 : Sub (p / 2) (2 ^ vs.length - 1 - c / 2) := by
      have := h2.half
      rwa [show (2 ^ vs.length * 2 - 1 - c) / 2 = 2 ^ vs.length - 1 - c / 2 by omega] at this
    have hs := ih (show c / 2 < 2 ^ vs.length by omega) h4
    rw [csum_cons, csum_cons, tot]
    by_cases e1 : c % 2 = 1
    · have e2 : ¬ p % 2 = 1 := by omega
      rw [if_pos e1, if_neg e2, Int.zero_add, show v + tot vs - (v + csum vs (c / 2)) - csum vs (p / 2) = tot vs - csum vs (c / 2) - csum vs (p / 2) by omega]
      exact .fst hs
    · by_cases e2 : p % 2 = 1
      · rw [if_neg e1, if_pos e2, Int.zero_add, show v + tot vs - csum vs (c / 2) - (v + csum vs (p / 2)) = tot vs - csum vs (c / 2) - csum vs (p / 2) by omega]
        exact .snd hs
      · rw [if_neg e1, if_neg e2, Int.zero_add, Int.zero_add, show v + tot vs - csum vs (c / 2) - csum vs (p / 2) = v + (tot vs - csum vs (c / 2) - csum vs (p / 2)) by omega]
        exact .thd hs
theorem split_is {zs : List Int} {x y z : Int} (h : Split zs x y z) : ∃ c p, c < 2 ^ zs.length ∧ Sub p (2 ^ zs.length - 1 - c) ∧ x = csum zs c ∧ y = csum zs p := by
  induction h with
  | nil => exact ⟨0, 0, by simp, Sub.zero _, rfl, rfl⟩
  | @fst v vs x y z _ ih =>
    obtain ⟨c, p, h1, h2, rfl, rfl⟩ := ih
    have hp := Nat.two_pow_pos vs.length
    refine ⟨2 * c + 1, 2 * p, by rw [List.length_cons, Nat.pow_succ]; omega, Sub.of (by omega) ?_, ?_, ?_⟩
    · rw [List.length_cons, Nat.pow_succ, show 2 * p / 2 = p by omega, show (2 ^ vs.length * 2 - 1 - (2 * c + 1)) / 2 = 2 ^ vs.length - 1 - c by omega]; exact h2
    · rw [csum_cons, if_pos (by omega), show (2 * c + 1) / 2 = c by omega]
    · rw [csum_cons, if_neg (by omega), show 2 * p / 2 = p by omega, Int.zero_add]
  | @snd v vs x y z _ ih =>
    obtain ⟨c, p, h1, h2, rfl, rfl⟩ := ih
    have hp := Nat.two_pow_pos vs.length
    refine ⟨2 * c, 2 * p + 1, by rw [List.length_cons, Nat.pow_succ]; omega, Sub.of (by rw [List.length_cons, Nat.pow_succ]; omega) ?_, ?_, ?_⟩
    · rw [List.length_cons, Nat.pow_succ, show (2 * p + 1) / 2 = p by omega, show (2 ^ vs.length * 2 - 1 - 2 * c) / 2 = 2 ^ vs.length - 1 - c by omega]; exact h2
    · rw [csum_cons, if_neg (by omega), show 2 * c / 2 = c by omega, Int.zero_add]
    · rw [csum_cons, if_pos (by omega), show (2 * p + 1) / 2 = p by omega]
  | @thd v vs x y z _ ih =>
    obtain ⟨c, p, h1, h2, rfl, rfl⟩ := ih
    have hp := Nat.two_pow_pos vs.length
    refine ⟨2 * c, 2 * p, by rw [List.length_cons, Nat.pow_succ]; omega, Sub.of (by omega) ?_, ?_, ?_⟩
    · rw [List.length_cons, Nat.pow_succ, show 2 * p / 2 = p by omega, show (2 ^ vs.length * 2 - 1 - 2 * c) / 2 = 2 ^ vs.length - 1 - c by omega]; exact h2
    · rw [csum_cons, if_neg (by omega), show 2 * c / 2 = c by omega, Int.zero_add]
    · rw [csum_cons, if_neg (by omega), show 2 * p / 2 = p by omega, Int.zero_add]
/-- r is the least v for three parts -/
def IsThree (zs : List Int) (r : Int) : Prop := (∃ x y z, Split zs x y z ∧ mx3 x y z = r) ∧ ∀ x y z, Split zs x y z → r ≤ mx3 x y z
theorem IsThree.unique {zs : List Int} {r s : Int} (h : IsThree zs r) (k : IsThree zs s) : r = s := by
  obtain ⟨⟨x, y, z, hs, e⟩, h2⟩ := h
  obtain ⟨⟨x', y', z', hs', e'⟩, k2⟩ := k
  have := h2 _ _ _ hs'
  have := k2 _ _ _ hs
  omega
theorem split_all {zs : List Int} : ∃ x y z, Split zs x y z ∧ x = 0 ∧ y = 0 ∧ z = tot zs :=
  ⟨_, _, _, split_of zs (c := 0) (p := 0) (Nat.two_pow_pos _) (Sub.zero _), csum_zero _, csum_zero _, by rw [csum_zero]; omega⟩
theorem th_three {zs : List Int} (hg : good zs) : IsThree zs (th zs 0 0 0 (tot zs)) := by
  have ht := tot_bd hg
  refine ⟨?_, fun x y z h => by have := th_le h 0 0 0 (tot zs); simpa using this⟩
  rcases th_is zs 0 0 0 (tot zs) with h | ⟨p, q, r, hs, h⟩
  · obtain ⟨x, y, z, hs, rfl, rfl, rfl⟩ := split_all (zs := zs)
    exact ⟨_, _, _, hs, by rw [h, mx3]; omega⟩
  · exact ⟨p, q, r, hs, by rw [h]; simp⟩
/-- the answer of HalfThree -/
def t3 (zs : List Int) : Int := th zs 0 0 0 (tot zs)
def t3R (zs : List Int) : Int := if inL zs = true then t3 zs else 0
theorem three_law {zs : List Int} (hg : good zs) {r : Int} (h : IsThree zs r) : tot zs ≤ 3 * r ∧ gre zs ≤ r ∧ 2 * r ≤ tot zs + lr zs ∧ 0 ≤ r ∧ r ≤ tot zs := by
  obtain ⟨⟨x, y, z, hs, rfl⟩, h2⟩ := h
  have h3 := split_tot hs
  have h4 := split_nn hg hs
  obtain ⟨⟨c, hc, e⟩, _⟩ := lr_least hg
  have h5 := h2 _ _ _ (split_of zs hc (p := 2 ^ zs.length - 1 - c) (Sub.refl _))
  have h6 := csum_compl zs c hc
  have h7 := csum_bd hg c
  rw [restOf, sz] at e
  have h8 : gre zs ≤ mx3 x y z := gre_le (by simp only [mx3]; omega) (split_has hg hs)
  simp only [mx3] at *
  omega
end Go.Proofs.Ytacedadenbinmaa
namespace Go.Proofs.Ytacedadenbinmaa
open Go.RowKit
theorem run_max3' (a b c : Int) (w : World) : (Builtin.max_ #[3, 3, 3] 3 #[.int .i64 a, .int .i64 b, .int .i64 c]).run Try.prog w = .ok (.int .i64 (if c > (if b > a then b else a) then c else if b > a then b else a)) w := rfl
theorem run_max3 (a b c : Int) (w : World) : (Builtin.max_ #[3, 3, 3] 3 #[.int .i64 a, .int .i64 b, .int .i64 c]).run Try.prog w = .ok (.int .i64 (mx3 a b c)) w := by
  rw [run_max3']
  congr 2
  unfold mx3
  (repeat' split) <;> omega
end Go.Proofs.Ytacedadenbinmaa
namespace Go.Proofs.Ytacedadenbinmaa
open Go.RowKit Go.Shelf
attribute [local go_sem] run_max3

/-- three sums in their box -/
def Box3 (W : World) (B : Nat) (x y z : Int) : Prop := W.heap[B]? = some (.cells #[.int .i64 x, .int .i64 y, .int .i64 z] 55 (0, 0))
theorem Box3.c0 {W : World} {B : Nat} {x y z : Int} (h : Box3 W B x y z) : W.cell? ⟨B, 0, none⟩ = some (.int .i64 x) := by simp [World.cell?, show W.heap[B]? = _ from h]
theorem Box3.c1 {W : World} {B : Nat} {x y z : Int} (h : Box3 W B x y z) : W.cell? ⟨B, 1, none⟩ = some (.int .i64 y) := by simp [World.cell?, show W.heap[B]? = _ from h]
theorem Box3.c2 {W : World} {B : Nat} {x y z : Int} (h : Box3 W B x y z) : W.cell? ⟨B, 2, none⟩ = some (.int .i64 z) := by simp [World.cell?, show W.heap[B]? = _ from h]
theorem Box3.f0 {W : World} {B : Nat} {x y z : Int} (h : Box3 W B x y z) : W.frozen? ⟨B, 0, none⟩ = false := by simp [World.frozen?, show W.heap[B]? = _ from h]
theorem Box3.f1 {W : World} {B : Nat} {x y z : Int} (h : Box3 W B x y z) : W.frozen? ⟨B, 1, none⟩ = false := by simp [World.frozen?, show W.heap[B]? = _ from h]
theorem Box3.f2 {W : World} {B : Nat} {x y z : Int} (h : Box3 W B x y z) : W.frozen? ⟨B, 2, none⟩ = false := by simp [World.frozen?, show W.heap[B]? = _ from h]
theorem Box3.other {W : World} {B g j : Nat} {x y z : Int} (h : Box3 W B x y z) (hne : B ≠ g) (v : Value) : Box3 (W.setCell ⟨g, j, none⟩ v) B x y z :=
  (Below.heap_setCell W ⟨g, j, none⟩ v B hne).trans h
theorem Box3.s0 {W : World} {B : Nat} {x y z : Int} (h : Box3 W B x y z) (u : Int) : Box3 (W.setCell ⟨B, 0, none⟩ (.int .i64 u)) B u y z := by
  obtain ⟨hlt, hk⟩ := Array.getElem?_eq_some_iff.1 h
  show (W.heap.modify B _)[B]? = _
  rw [Array.getElem?_eq_getElem (by rw [Array.size_modify]; exact hlt), Array.getElem_modify_self, hk]
  rfl
theorem Box3.s1 {W : World} {B : Nat} {x y z : Int} (h : Box3 W B x y z) (u : Int) : Box3 (W.setCell ⟨B, 1, none⟩ (.int .i64 u)) B x u z := by
  obtain ⟨hlt, hk⟩ := Array.getElem?_eq_some_iff.1 h
  show (W.heap.modify B _)[B]? = _
  rw [Array.getElem?_eq_getElem (by rw [Array.size_modify]; exact hlt), Array.getElem_modify_self, hk]
  rfl
theorem Box3.s2 {W : World} {B : Nat} {x y z : Int} (h : Box3 W B x y z) (u : Int) : Box3 (W.setCell ⟨B, 2, none⟩ (.int .i64 u)) B x y u := by
  obtain ⟨hlt, hk⟩ := Array.getElem?_eq_some_iff.1 h
  show (W.heap.modify B _)[B]? = _
  rw [Array.getElem?_eq_getElem (by rw [Array.size_modify]; exact hlt), Array.getElem_modify_self, hk]
  rfl
/-- the closure's four boxes -/
def ThBx (W : World) (bA bB bS bP : Nat) (a : Option Addr) (len cap : Nat) (b x y z : Int) : Prop :=
  Boxed W bA 22 (.slice a len cap) ∧ Boxed W bB 3 (.int .i64 b) ∧ Box3 W bS x y z ∧ Boxed W bP 52 (.func (.func 57) #[] #[.pointer (some ⟨bA, 0, none⟩), .pointer (some ⟨bB, 0, none⟩), .pointer (some ⟨bS, 0, none⟩), .pointer (some ⟨bP, 0, none⟩)])
def HT1Post (w0 : World) (bA bB bS bP : Nat) (a : Option Addr) (len cap : Nat) (r x y z : Int) (e : Ending) (w' : World) : Prop :=
  e = .returned (.tuple #[]) ∧ ThBx w' bA bB bS bP a len cap r x y z ∧ Below w0.heap.size w0 w'
/-- what is left as the best behind so many sides -/
def thS (vs : List Int) (v x y z b : Int) : Nat → Int
  | 0 => b
  | 1 => th vs (x + v) y z b
  | 2 => th vs x (y + v) z (th vs (x + v) y z b)
  | _ + 3 => th (v :: vs) x y z b
theorem th_nn (zs : List Int) : ∀ x y z b, 0 ≤ x → 0 ≤ y → 0 ≤ z → 0 ≤ b → good zs → 0 ≤ th zs x y z b := by
  induction zs with
  | nil => intro x y z b h1 h2 h3 h4 _; simp only [th, mx3]; omega
  | cons v vs ih =>
    intro x y z b h1 h2 h3 h4 hg
    have hv := hg v (List.mem_cons_self ..)
    have hg2 : good vs := fun u hu => hg u (List.mem_cons_of_mem _ hu)
    simp only [th]
    exact ih _ _ _ _ h1 h2 (by omega) (ih _ _ _ _ h1 (by omega) h3 (ih _ _ _ _ (by omega) h2 h3 h4 hg2) hg2) hg2

set_option maxHeartbeats 3200000 in
theorem HT1_any (a : Option Addr) (cap : Nat) (zs : List Int) (bA bB bS bP : Nat) (hne : bA ≠ bB ∧ bA ≠ bS ∧ bA ≠ bP ∧ bB ≠ bS ∧ bB ≠ bP ∧ bS ≠ bP) (hg : good zs) (hl : zs.length ≤ 10) (w0 : World) (h0 : w0.heap.size ≤ bB) (h0S : w0.heap.size ≤ bS) (hI0 : IntsAt w0 a zs) : ∀ (k place : Nat) (p x y z b : Int) (w : World), p = (place : Int) → place + k = zs.length → (0 ≤ x ∧ x ≤ 60 * place) → (0 ≤ y ∧ y ≤ 60 * place) → (0 ≤ z ∧ z ≤ 60 * place) → 0 ≤ b ∧ b ≤ 10000 → ThBx w bA bB bS bP a zs.length cap b x y z → Below w0.heap.size w0 w →
    Calls Try.prog 57 #[.int .i64 p, .pointer (some ⟨bA, 0, none⟩), .pointer (some ⟨bB, 0, none⟩), .pointer (some ⟨bS, 0, none⟩), .pointer (some ⟨bP, 0, none⟩)] w
      (HT1Post w0 bA bB bS bP a zs.length cap (th (zs.drop place) x y z b) x y z) := by
  intro k
  induction k with
  | zero =>
    intro place p x y z b w hpp hp hx1 hy1 hz1 hb hx hB
    subst hpp
    obtain ⟨h1, h2, h3, h4⟩ := hx
    have cA := h1.cell
    have cB := h2.cell
    have fB := h2.frozen
    have q0 := h3.c0
    have q1 := h3.c1
    have q2 := h3.c2
    obtain rfl : place = zs.length := by omega
    rw [List.drop_length]
    go_enter Try.func57, Try.ntmps57
    go_wp2
    all_goals
      refine bodyPost_ret (v := .tuple #[]) (by simp [results, Try.f57, go_sem]) rfl ?_
      refine ⟨rfl, ⟨h1.other (by omega) _, ?_, h3.other (by omega) _, h4.other (by omega) _⟩, hB.setCell (p := ⟨_, 0, none⟩) h0 _⟩
      refine Eq.mp (congrArg (fun r => Boxed _ bB 3 (.int .i64 r)) ?_) (h2.set _)
      simp only [th]
      (repeat' split) <;> omega
  | succ k ih =>
    intro place p x y z b w hpp hp hx1 hy1 hz1 hb hx hB
    subst hpp
    obtain ⟨bb, off, rfl, hbb, hcell⟩ := (hI0.below hB).at (by omega)
    have hgx := good_get hg place (by omega)
    have hgd : good (zs.drop (place + 1)) := fun u hu => hg u (List.mem_of_mem_drop hu)
    have hdr : zs.drop place = zs[place]?.getD 0 :: zs.drop (place + 1) := by
      rw [List.drop_eq_getElem_cons (by omega), List.getElem?_eq_getElem (by omega)]; rfl
    have HD := Lib.hid hdr
    clear hdr hcell
    obtain ⟨v, hxv⟩ : ∃ v, zs[place]?.getD 0 = v := ⟨_, rfl⟩
    rw [hxv] at hgx HD
    have HXV := Lib.hid hxv
    have cA := hx.1.cell
    have HX := Lib.hid hx
    have hpl : place ≤ 10 := by omega
    have HP := Lib.hid hp
    have hlt : place < zs.length := by omega
    have HN : Hid (∀ x y z b, 0 ≤ x → 0 ≤ y → 0 ≤ z → 0 ≤ b → 0 ≤ th (zs.drop (place + 1)) x y z b) := fun x y z b h1 h2 h3 h4 => th_nn _ x y z b h1 h2 h3 h4 hgd
    have HBd : Hid (∀ x y z b, th (zs.drop (place + 1)) x y z b ≤ b) := fun x y z b => th_b _ x y z b
    have HS : Hid (th (zs.drop place) x y z b = thS (zs.drop (place + 1)) v x y z b 3) := by rw [HD.out]; exact rfl
    have hrd : ∀ W, Below w0.heap.size w0 W → W.cell? ⟨bb, off + place, none⟩ = some (.int .i64 v) := fun W hW => by
      obtain ⟨bb2, off2, he, _, hcell⟩ := (hI0.below hW).at (by omega)
      simp only [Option.some.injEq, Addr.mk.injEq, and_true] at he
      obtain ⟨rfl, rfl⟩ := he
      rw [hcell place hlt, hxv]
    have HRD := Lib.hid hrd
    have hpl2 : ((place : Int) == (zs.length : Int)) = false := by simp; omega
    clear hp hxv hx hgd hrd
    go_enter Try.func57, Try.ntmps57
    go_wp2_with fail
    go_loopw [20] (fun i wr => ∃ (s : Nat) (b' : Int), s ≤ 3 ∧ i = .int .i64 s ∧ Hid (b' = thS (zs.drop (place + 1)) v x y z b s) ∧ (0 ≤ b' ∧ b' ≤ 10000) ∧ ThBx wr bA bB bS bP (some ⟨bb, off, none⟩) zs.length cap b' x y z ∧ Below w0.heap.size w0 wr) (fun i _ => 3 - (intOf i).toNat)
    case atStart => exact ⟨0, b, by omega, rfl, rfl, hb, HX.out, hB⟩
    case round =>
      obtain ⟨s, b', hs, rfl, HB', hb', hX, hBr⟩ := hrel
      clear HX cA hB
      by_cases hs3 : s < 3
      · have HV : Hid (∀ x' y' z' : Int, (0 ≤ x' ∧ x' ≤ 60 * ((place + 1 : Nat) : Int)) → (0 ≤ y' ∧ y' ≤ 60 * ((place + 1 : Nat) : Int)) → (0 ≤ z' ∧ z' ≤ 60 * ((place + 1 : Nat) : Int)) → ∀ W, ThBx W bA bB bS bP (some ⟨bb, off, none⟩) zs.length cap b' x' y' z' → Below w0.heap.size w0 W →
            Calls Try.prog 57 #[.int .i64 ((place : Int) + 1), .pointer (some ⟨bA, 0, none⟩), .pointer (some ⟨bB, 0, none⟩), .pointer (some ⟨bS, 0, none⟩), .pointer (some ⟨bP, 0, none⟩)] W (HT1Post w0 bA bB bS bP (some ⟨bb, off, none⟩) zs.length cap (th (zs.drop (place + 1)) x' y' z' b') x' y' z')) :=
          fun x' y' z' hx' hy' hz' W hW hBW => ih (place + 1) _ x' y' z' b' W (by omega) (by have := HP.out; omega) hx' hy' hz' hb' hW hBW
        obtain ⟨h1, h2, h3, h4⟩ := hX
        have cA := h1.cell
        have cP := h4.cell
        have hxc := HRD.out _ hBr
        have hcases : s = 0 ∨ s = 1 ∨ s = 2 := by omega
        rcases hcases with rfl | rfl | rfl
        · have q := h3.c0
          have qf := h3.f0
          go_wp2_with fail
          go_region
          have k1 : ThBx (wr.setCell ⟨bS, 0, none⟩ (.int .i64 (x + v))).drew bA bB bS bP (some ⟨bb, off, none⟩) zs.length cap b' (x + v) y z :=
            ⟨h1.keptSet (by omega) _, h2.keptSet (by omega) _, h3.s0 _, h4.keptSet (by omega) _⟩
          have kB : Below w0.heap.size w0 (wr.setCell ⟨bS, 0, none⟩ (.int .i64 (x + v))).drew := (hBr.setCell (p := ⟨_, _, none⟩) h0S _).drew
          generalize (wr.setCell ⟨bS, 0, none⟩ (.int .i64 (x + v))).drew = w3 at k1 kB ⊢
          clear cA cP hxc q qf h1 h2 h3 h4
          have cP := k1.2.2.2.cell
          have K1 := Lib.hid k1
          clear k1
          go_wp2_with (go_at_call 57; refine (HV.out (x + v) y z (by omega) (by omega) (by omega) _ K1.out kB).mono ?_; rintro e w4 ⟨rfl, k2, kB4⟩)
          have hn1 := HN.out (x + v) y z b' (by omega) (by omega) (by omega) hb'.1
          have hn2 := HBd.out (x + v) y z b'
          have HB2 : Hid (th (zs.drop (place + 1)) (x + v) y z b' = thS (zs.drop (place + 1)) v x y z b 1) := by rw [HB'.out]; exact rfl
          generalize th (zs.drop (place + 1)) (x + v) y z b' = b2 at *
          obtain ⟨j1, j2, j3, j4⟩ := k2
          have cA := j1.cell
          have hxc := HRD.out _ kB4
          have q := j3.c0
          have qf := j3.f0
          clear cP K1
          go_wp2_with fail
          go_region
          go_wp2
          go_roundw
          case rel => exact ⟨1, b2, by omega, by go_num, HB2, by omega, ⟨j1.keptSet (by omega) _, j2.keptSet (by omega) _, by first | exact j3.s0 _ | (have := j3.s0 (x + v - v); rw [show x + v - v = x by omega] at this ⊢; exact this), j4.keptSet (by omega) _⟩, (kB4.setCell (p := ⟨_, _, none⟩) h0S _).drew⟩
          case measure => simp [intOf]
        · have q := h3.c1
          have qf := h3.f1
          go_wp2_with fail
          go_region
          have k1 : ThBx (wr.setCell ⟨bS, 1, none⟩ (.int .i64 (y + v))).drew bA bB bS bP (some ⟨bb, off, none⟩) zs.length cap b' x (y + v) z :=
            ⟨h1.keptSet (by omega) _, h2.keptSet (by omega) _, h3.s1 _, h4.keptSet (by omega) _⟩
          have kB : Below w0.heap.size w0 (wr.setCell ⟨bS, 1, none⟩ (.int .i64 (y + v))).drew := (hBr.setCell (p := ⟨_, _, none⟩) h0S _).drew
          generalize (wr.setCell ⟨bS, 1, none⟩ (.int .i64 (y + v))).drew = w3 at k1 kB ⊢
          clear cA cP hxc q qf h1 h2 h3 h4
          have cP := k1.2.2.2.cell
          have K1 := Lib.hid k1
          clear k1
          go_wp2_with (go_at_call 57; refine (HV.out x (y + v) z (by omega) (by omega) (by omega) _ K1.out kB).mono ?_; rintro e w4 ⟨rfl, k2, kB4⟩)
          have hn1 := HN.out x (y + v) z b' (by omega) (by omega) (by omega) hb'.1
          have hn2 := HBd.out x (y + v) z b'
          have HB2 : Hid (th (zs.drop (place + 1)) x (y + v) z b' = thS (zs.drop (place + 1)) v x y z b 2) := by rw [HB'.out]; exact rfl
          generalize th (zs.drop (place + 1)) x (y + v) z b' = b2 at *
          obtain ⟨j1, j2, j3, j4⟩ := k2
          have cA := j1.cell
          have hxc := HRD.out _ kB4
          have q := j3.c1
          have qf := j3.f1
          clear cP K1
          go_wp2_with fail
          go_region
          go_wp2
          go_roundw
          case rel => exact ⟨2, b2, by omega, by go_num, HB2, by omega, ⟨j1.keptSet (by omega) _, j2.keptSet (by omega) _, by first | exact j3.s1 _ | (have := j3.s1 (y + v - v); rw [show y + v - v = y by omega] at this ⊢; exact this), j4.keptSet (by omega) _⟩, (kB4.setCell (p := ⟨_, _, none⟩) h0S _).drew⟩
          case measure => simp [intOf]
        · have q := h3.c2
          have qf := h3.f2
          go_wp2_with fail
          go_region
          have k1 : ThBx (wr.setCell ⟨bS, 2, none⟩ (.int .i64 (z + v))).drew bA bB bS bP (some ⟨bb, off, none⟩) zs.length cap b' x y (z + v) :=
            ⟨h1.keptSet (by omega) _, h2.keptSet (by omega) _, h3.s2 _, h4.keptSet (by omega) _⟩
          have kB : Below w0.heap.size w0 (wr.setCell ⟨bS, 2, none⟩ (.int .i64 (z + v))).drew := (hBr.setCell (p := ⟨_, _, none⟩) h0S _).drew
          generalize (wr.setCell ⟨bS, 2, none⟩ (.int .i64 (z + v))).drew = w3 at k1 kB ⊢
          clear cA cP hxc q qf h1 h2 h3 h4
          have cP := k1.2.2.2.cell
          have K1 := Lib.hid k1
          clear k1
          go_wp2_with (go_at_call 57; refine (HV.out x y (z + v) (by omega) (by omega) (by omega) _ K1.out kB).mono ?_; rintro e w4 ⟨rfl, k2, kB4⟩)
          have hn1 := HN.out x y (z + v) b' (by omega) (by omega) (by omega) hb'.1
          have hn2 := HBd.out x y (z + v) b'
          have HB2 : Hid (th (zs.drop (place + 1)) x y (z + v) b' = thS (zs.drop (place + 1)) v x y z b 3) := by rw [HB'.out]; exact rfl
          generalize th (zs.drop (place + 1)) x y (z + v) b' = b2 at *
          obtain ⟨j1, j2, j3, j4⟩ := k2
          have cA := j1.cell
          have hxc := HRD.out _ kB4
          have q := j3.c2
          have qf := j3.f2
          clear cP K1
          go_wp2_with fail
          go_region
          go_wp2
          go_roundw
          case rel => exact ⟨3, b2, by omega, by go_num, HB2, by omega, ⟨j1.keptSet (by omega) _, j2.keptSet (by omega) _, by first | exact j3.s2 _ | (have := j3.s2 (z + v - v); rw [show z + v - v = z by omega] at this ⊢; exact this), j4.keptSet (by omega) _⟩, (kB4.setCell (p := ⟨_, _, none⟩) h0S _).drew⟩
          case measure => simp [intOf]
      · obtain rfl : s = 3 := by omega
        have HXX := Lib.hid hX
        clear hX
        go_wp2
        refine bodyPost_ret (v := .tuple #[]) (by simp [results, Try.f57, go_sem]) rfl ?_
        exact ⟨rfl, by rw [HS.out, ← HB'.out]; exact HXX.out, hBr⟩
end Go.Proofs.Ytacedadenbinmaa
namespace Go.Proofs.Ytacedadenbinmaa
open Go.RowKit Go.Shelf

theorem Box3.new (W : World) : Box3 (W.alloc (.cells #[.int .i64 0, .int .i64 0, .int .i64 0] 55)) W.heap.size 0 0 0 := World.alloc_heap_new W _
theorem Box3.alloc {W : World} {B : Nat} {x y z : Int} (h : Box3 W B x y z) (o : Obj) : Box3 (W.alloc o) B x y z :=
  ((World.grownBy_alloc W o none).block B (Array.getElem?_eq_some_iff.1 h).1 (by simp)).trans h

set_option maxHeartbeats 1600000 in
theorem HalfThree_any (a : Option Addr) (cap : Nat) (zs : List Int) (w : World) (hl : zs.length ≤ 4294967296) (hI : IntsAt w a zs) :
    Calls Try.prog 33 #[.slice a zs.length cap] w (NumPost w (t3R zs) (inL zs)) := by
  have hB0 : ∀ o, Below w.heap.size w (w.alloc o) := fun o => (Below.refl _ w).alloc (Nat.le_refl _) _
  by_cases hz : inL zs = true
  case neg =>
    have hz' : inL zs = false := by simpa using hz
    rw [t3R, if_neg hz, hz']
    have HZ := Lib.hid hz'
    clear hz hz'
    go_enter Try.func33, Try.ntmps33
    go_wp2_with (go_at_call 54; refine (SumIn_any a cap zs _ hl (hI.below (hB0 _))).mono ?_; rw [HZ.out]; rintro e w' ⟨rfl, rfl⟩)
    go_ret2
    exact ⟨rfl, hB0 _⟩
  rw [t3R, if_pos hz, hz]
  have hzl := (inL_iff zs).1 hz
  have htb := tot_bd hzl.2
  have HZ := Lib.hid hz
  clear hz
  have hI1 := hI.below (hB0 (.cells #[.slice a zs.length cap] 22))
  go_enter Try.func33, Try.ntmps33
  go_wp2_with (first | (go_at_call 54; refine (SumIn_any a cap zs _ hl hI1).mono ?_; rw [HZ.out]; rintro e w' ⟨rfl, rfl⟩) | (go_at_call 50; refine (totalOf_any a cap zs _ (by omega) hzl.2 hI1).mono ?_; rintro e w' ⟨rfl, rfl⟩))
  have b1 := Boxed.new w 22 (.slice a zs.length cap)
  have b2 := Boxed.new (w.alloc (.cells #[.slice a zs.length cap] 22)) 3 (.int .i64 (tot zs))
  have b3 := Box3.new ((w.alloc (.cells #[.slice a zs.length cap] 22)).alloc (.cells #[.int .i64 (tot zs)] 3))
  have b4 := Boxed.new (((w.alloc (.cells #[.slice a zs.length cap] 22)).alloc (.cells #[.int .i64 (tot zs)] 3)).alloc (.cells #[.int .i64 0, .int .i64 0, .int .i64 0] 55)) 52 (.func (.func 57) #[] #[.pointer (some ⟨w.heap.size, 0, none⟩), .pointer (some ⟨w.heap.size + 1, 0, none⟩), .pointer (some ⟨w.heap.size + 1 + 1, 0, none⟩), .pointer (some ⟨w.heap.size + 1 + 1 + 1, 0, none⟩)])
  simp only [World.size_alloc] at b2 b3 b4
  refine (HT1_any a cap zs w.heap.size (w.heap.size + 1) (w.heap.size + 1 + 1) (w.heap.size + 1 + 1 + 1) (by omega) hzl.2 hzl.1 w (by omega) (by omega) hI zs.length 0 0 0 0 0 (tot zs) _ rfl (by omega) (by omega) (by omega) (by omega) (by omega) ?_ ?_).mono ?_
  · exact ⟨((b1.alloc _).alloc _).alloc _, (b2.alloc _).alloc _, b3.alloc _, b4⟩
  · exact (((hB0 _).alloc (by simp) _).alloc (by simp; omega) _).alloc (by simp; omega) _
  · rintro e w1 ⟨rfl, hS, hB1⟩
    have c2 := hS.2.1.cell
    rw [List.drop_zero] at c2
    clear hS b1 b2 b3 b4
    have HRR : Hid (t3 zs = th zs 0 0 0 (tot zs)) := rfl
    generalize th zs 0 0 0 (tot zs) = R at c2 HRR
    go_wp2
    go_ret2
    exact ⟨by rw [HRR.out]; rfl, hB1⟩
end Go.Proofs.Ytacedadenbinmaa
namespace Go.Proofs.Ytacedadenbinmaa

theorem opt_one {zs : List Int} (hg : good zs) : opt zs 1 = tot zs := by
  have h1 := opt_sum zs (m := 1) (by omega) (good_nn hg)
  have h2 := opt_bd hg (m := 1) (by omega)
  rw [tot_sum] at h1
  have h3 : ((1 : Nat) : Int) * opt zs 1 = opt zs 1 := by omega
  omega

theorem opt_two {zs : List Int} (hg : good zs) : 2 * opt zs 2 = tot zs + lr zs := by
  obtain ⟨⟨c, hc, e⟩, h2⟩ := lr_least hg
  have hcc := csum_compl zs c hc
  obtain ⟨v, hv⟩ : ∃ v, max (csum zs c) (csum zs (2 ^ zs.length - 1 - c)) = v := ⟨_, rfl⟩
  have hvv : 2 * v = tot zs + lr zs := by rw [restOf, sz] at e; omega
  have hb : IsBst zs 1 (2 ^ zs.length - 1) v := fun t => by
    constructor
    · intro h
      exact ⟨c, sub_full hc, by omega, by show csum zs _ ≤ t; omega⟩
    · rintro ⟨p, hp, h3, h4⟩
      have hlt : p < 2 ^ zs.length := by have := hp.le; have := Nat.two_pow_pos zs.length; omega
      have h5 : csum zs (2 ^ zs.length - 1 - p) ≤ t := h4
      have h6 := csum_compl zs p hlt
      have h7 := h2 p hlt
      rw [restOf, sz] at h7
      omega
  rw [← bst_opt (good_nn hg) hb, hvv]

theorem opt_three {zs : List Int} (hg : good zs) : opt zs 3 = t3 zs := by
  obtain ⟨⟨x, y, z, hs, e⟩, h2⟩ := th_three hg
  have hb : IsBst zs 2 (2 ^ zs.length - 1) (t3 zs) := fun t => by
    constructor
    · intro h
      obtain ⟨c, p, hc, hp, rfl, rfl⟩ := split_is hs
      have h3 := split_tot hs
      have h4 := csum_compl zs c hc
      have h5 := csum_sub zs hp
      have h6 : mx3 (csum zs c) (csum zs p) z = t3 zs := e
      rw [mx3] at h6
      exact ⟨c, sub_full hc, by omega, p, hp, by omega, by show csum zs _ ≤ t; omega⟩
    · rintro ⟨c, hc, h3, p, hp, h4, h5⟩
      have hlt : c < 2 ^ zs.length := by have := hc.le; have := Nat.two_pow_pos zs.length; omega
      have h6 := h2 _ _ _ (split_of zs hlt hp)
      have h7 := csum_compl zs c hlt
      have h8 := csum_sub zs hp
      have h9 : csum zs (2 ^ zs.length - 1 - c - p) ≤ t := h5
      have h10 : t3 zs ≤ mx3 (csum zs c) (csum zs p) (tot zs - csum zs c - csum zs p) := h6
      rw [mx3] at h10
      omega
  rw [← bst_opt (good_nn hg) hb]
end Go.Proofs.Ytacedadenbinmaa
