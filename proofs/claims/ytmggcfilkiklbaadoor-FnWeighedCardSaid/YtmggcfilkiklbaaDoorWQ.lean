/- The counts of all weighings, by the reference. Conditions: the list is as told. -/
import Derived.Test.YtmggcfilkiklbaaDoorM21
import Derived.Test.YtmggcfilkiklbaaDoorLP
import Derived.BigRegion
namespace Go.Proofs.YtmggcfilkiklbaaDoor
open Go.RowKit

def PanPost (w : World) (zs : List Int) (e : Ending) (w' : World) : Prop :=
  ∃ g cap o, e = .returned (.slice (some ⟨g, 0, none⟩) o.length cap) ∧ OwnI w' w.heap.size (.slice (some ⟨g, 0, none⟩) o.length cap) o ∧ o.length = 2 * (tot zs).toNat + 1 ∧ IsPan zs (tot zs).toNat o ∧ Below w.heap.size w w'
theorem isPan_bd {zs : List Int} {T : Nat} {o : List Int} (hl : zs.length ≤ 10) (h : IsPan zs T o) (j : Nat) : 0 ≤ o[j]?.getD 0 ∧ o[j]?.getD 0 ≤ 59049 := by
  by_cases e : j < o.length
  · have h1 := h j e
    have h2 := wN_le zs ((j : Int) - T)
    have h3 := pow3_bd zs.length hl
    omega
  · rw [getD_out _ _ (by omega)]; omega
theorem gS_bd {o : List Int} {M : Int} (h : ∀ j : Nat, 0 ≤ o[j]?.getD 0 ∧ o[j]?.getD 0 ≤ M) (x k s t : Nat) : 0 ≤ gS o x k s t ∧ gS o x k s t ≤ 3 * M := by
  have h1 := h t
  have h2 := h (t - x)
  have h3 := h (t - 2 * x)
  unfold gS
  split <;> split <;> split <;> omega
theorem isPan_nil : IsPan [] 0 [1] := fun t ht => by
  have : t = 0 := by simp at ht; exact ht
  subst this
  rw [wN_nil]; rfl
theorem isPan_next {zs : List Int} (hg : good zs) (k : Nat) (hk : k < zs.length) {X : Nat} (hX : zs[k]?.getD 0 = (X : Int)) {o L : List Int} (ho : o.length = 2 * (tot (zs.take k)).toNat + 1) (hp : IsPan (zs.take k) (tot (zs.take k)).toNat o)
    (hL : L.length = o.length + 2 * X) (h : ∀ t, t < L.length → L[t]?.getD 0 = gS o X o.length 0 t) : L.length = 2 * (tot (zs.take (k + 1))).toNat + 1 ∧ IsPan (zs.take (k + 1)) (tot (zs.take (k + 1))).toNat L := by
  have ht := tot_bd (good_take hg k)
  have e : tot (zs.take (k + 1)) = tot (zs.take k) + X := by rw [tot_take zs k hk, hX]
  have e2 : (tot (zs.take (k + 1))).toNat = (tot (zs.take k)).toNat + X := by omega
  rw [e2]
  refine ⟨by omega, fun t htL => ?_⟩
  rw [h t htL, take_snoc zs k hk, hX]
  exact gS_end (good_take hg k) (by omega) ho hp t (by omega)
theorem gS_put {o L : List Int} {X j s : Nat} (hX : 1 ≤ X) (hs : s < 3) (hj : j < o.length) (hL : L.length = o.length + 2 * X) (h : ∀ t, t < L.length → L[t]?.getD 0 = gS o X j s t) :
    ∀ t, t < (L.set (j + s * X) (gS o X j s (j + s * X) + o[j]?.getD 0)).length → (L.set (j + s * X) (gS o X j s (j + s * X) + o[j]?.getD 0))[t]?.getD 0 = gS o X j (s + 1) t := by
  intro t ht
  rw [List.length_set] at ht
  have hb : j + s * X < L.length := by
    have hc : s = 0 ∨ s = 1 ∨ s = 2 := by omega
    rcases hc with rfl | rfl | rfl <;> omega
  rw [getD_set _ _ _ _ hb, gS_step o hX hs]
  by_cases e : t = j + s * X
  · rw [if_pos e, if_pos e, e]
  · rw [if_neg e, if_neg e, h t ht]; omega

end Go.Proofs.YtmggcfilkiklbaaDoor
