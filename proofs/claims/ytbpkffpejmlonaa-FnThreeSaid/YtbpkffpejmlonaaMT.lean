/- The reference's search for three parts, in plain words. Conditions: none. -/
import Derived.Test.YtbpkffpejmlonaaM19
import Derived.Test.YtbpkffpejmlonaaMD
namespace Go.Proofs.Ytbpkffpejmlonaa
def m3 (zs : List Int) (d s : Nat) : Int := mx3 (csum zs d) (csum zs s) (tot zs - csum zs d - csum zs s)
/-- choices below c have been tried -/
def ThOut (zs : List Int) (c : Nat) (b : Int) : Prop :=
  (∃ x y z, Split zs x y z ∧ mx3 x y z = b) ∧ ∀ d, d < c → ∀ s, Sub s (2 ^ zs.length - 1 - d) → b ≤ m3 zs d s
/-- and of c's others the parts above p -/
def ThSeen (zs : List Int) (c p : Nat) (b : Int) : Prop := ThOut zs c b ∧ ∀ s, Sub s (2 ^ zs.length - 1 - c) → p < s → b ≤ m3 zs c s
theorem thOut_start {zs : List Int} (hg : good zs) : ThOut zs 0 (tot zs) := by
  have ht := tot_bd hg
  refine ⟨?_, fun d hd => by omega⟩
  obtain ⟨x, y, z, hs, rfl, rfl, rfl⟩ := split_all (zs := zs)
  exact ⟨_, _, _, hs, by rw [mx3]; omega⟩
theorem thSeen_start {zs : List Int} {c : Nat} {b : Int} (h : ThOut zs c b) : ThSeen zs c (2 ^ zs.length - 1 - c) b :=
  ⟨h, fun s hs hlt => by have := hs.le; omega⟩
theorem thReal {zs : List Int} {c p : Nat} {b : Int} (h : ∃ x y z, Split zs x y z ∧ mx3 x y z = b) (hc : c < 2 ^ zs.length) (hp : Sub p (2 ^ zs.length - 1 - c)) : ∃ x y z, Split zs x y z ∧ mx3 x y z = min b (m3 zs c p) := by
  by_cases e : b ≤ m3 zs c p
  · rw [Int.min_eq_left e]; exact h
  · rw [Int.min_eq_right (by omega)]
    exact ⟨_, _, _, split_of zs hc hp, rfl⟩
theorem thSeen_next {zs : List Int} {c p : Nat} {b : Int} (h : ThSeen zs c p b) (hc : c < 2 ^ zs.length) (hp : Sub p (2 ^ zs.length - 1 - c)) : ThSeen zs c ((p - 1) &&& (2 ^ zs.length - 1 - c)) (min b (m3 zs c p)) := by
  refine ⟨⟨thReal h.1.1 hc hp, fun d hd s hs => by have := h.1.2 d hd s hs; omega⟩, fun s hs hlt => ?_⟩
  rcases after_pred hp hs hlt with rfl | hlt
  · omega
  · have := h.2 s hs hlt; omega
theorem thSeen_end {zs : List Int} {c : Nat} {b : Int} (h : ThSeen zs c 0 b) (hc : c < 2 ^ zs.length) : ThOut zs (c + 1) (min b (m3 zs c 0)) := by
  refine ⟨thReal h.1.1 hc (Sub.zero _), fun d hd s hs => ?_⟩
  by_cases e : d = c
  · subst e
    by_cases e0 : s = 0
    · subst e0; omega
    · have := h.2 s hs (by omega); omega
  · have := h.1.2 d (by omega) s hs; omega
theorem thOut_skip {zs : List Int} {c : Nat} {b : Int} (h : ThOut zs c b) (hb : b ≤ csum zs c) : ThOut zs (c + 1) b :=
  ⟨h.1, fun d hd s hs => by
    by_cases e : d = c
    · subst e; unfold m3 mx3; omega
    · exact h.2 d (by omega) s hs⟩
theorem thOut_end {zs : List Int} {b : Int} (h : ThOut zs (2 ^ zs.length) b) : IsThree zs b := by
  refine ⟨h.1, fun x y z hs => ?_⟩
  obtain ⟨c, p, hc, hp, rfl, rfl⟩ := split_is hs
  have := h.2 c hc p hp
  have e := split_tot hs
  unfold m3 at this
  rwa [show tot zs - csum zs c - csum zs p = z by omega] at this
theorem thOut_t3 {zs : List Int} (hg : good zs) {b : Int} (h : ThOut zs (2 ^ zs.length) b) : b = t3 zs := (thOut_end h).unique (th_three hg)
theorem m3_bd {zs : List Int} (hg : good zs) {c p : Nat} (hc : c < 2 ^ zs.length) (hp : Sub p (2 ^ zs.length - 1 - c)) : 0 ≤ m3 zs c p ∧ m3 zs c p ≤ tot zs := by
  have h1 := split_nn hg (split_of zs hc hp)
  have h2 := split_tot (split_of zs hc hp)
  unfold m3 mx3; omega
end Go.Proofs.Ytbpkffpejmlonaa
