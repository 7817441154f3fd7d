/- The counts of all weighings, by the reference. Conditions: the list is as told. -/
import Derived.Test.YtbpkffpejmlonaaM21
import Derived.Test.YtbpkffpejmlonaaLP
import Derived.BigRegion
namespace Go.Proofs.Ytbpkffpejmlonaa
open Go.RowKit

def PanPost (w : World) (zs : List Int) (e : Ending) (w' : World) : Prop :=
  ∃ g cap o, e = .returned (.slice (some ⟨g, 0, none⟩) o.length cap) ∧ OwnI w' w.heap.size (.slice (some ⟨g, 0, none⟩) o.length cap) o ∧ o.length = 2 * (tot zs).toNat + 1 ∧ IsPan zs (tot zs).toNat o ∧ Below w.heap.size w w'
theorem isPan_bd {zs : List Int} {T : Nat} {o : List Int} (hl : zs.length ≤ 10) (h : IsPan zs T o) (j : Nat) : 0 ≤ o[j]?.getD 0 ∧ o[j]?.getD 0 ≤ 59049 := by
  by_cases e : j < o.length
  · have h1 := h j e
    have h2 := wN_le zs ((j : Int) - T)
    have h3 := pow3_bd zs.length hl
    omega
  · rw [getD_out _ _ (by omega)]; omega
theorem gS_bd {o : List Int} {M : Int} (h : ∀ j : Nat, 0 ≤ o[j]?.getD 0 ∧ o[j]?.getD 0 ≤ M) (x k s t : Nat) : 0 ≤ gS o x k s t ∧ gS o x k s t ≤ 3 * M := by
  have h1 := h t
  have h2 := h (t - x)
  have h3 := h (t - 2 * x)
  unfold gS
  split <;> split <;> split <;> omega
theorem isPan_nil : IsPan [] 0 [1] := fun t ht => by
  have : t = 0 := by simp at ht; exact ht
  subst this
  rw [wN_nil]; rfl
theorem isPan_next {zs : List Int} (hg : good zs) (k : Nat) (hk : k < zs.length) {X : Nat} (hX : zs[k]?.getD 0 = (X : Int)) {o L : List Int} (ho : o.length = 2 * (tot (zs.take k)).toNat + 1) (hp : IsPan (zs.take k) (tot (zs.take k)).toNat o)
    (hL : L.length = o.length + 2 * X) (h : ∀ t, t < L.length → L[t]?.getD 0 = gS o X o.length 0 t) : L.length = 2 * (tot (zs.take (k + 1))).toNat + 1 ∧ IsPan (zs.take (k + 1)) (tot (zs.take (k + 1))).toNat L := by
  have ht := tot_bd (good_take hg k)
  have e : tot (zs.take (k + 1)) = tot (zs.take k) + X := by rw [tot_take zs k hk, hX]
  have e2 : (tot (zs.take (k + 1))).toNat = (tot (zs.take k)).toNat + X := by omega
  rw [e2]
  refine ⟨by omega, fun t htL => ?_⟩
  rw [h t htL, take_snoc zs k hk, hX]
  exact gS_end (good_take hg k) (by omega) ho hp t (by omega)
theorem gS_put {o L : List Int} {X j s : Nat} (hX : 1 ≤ X) (hs : s < 3) (hj : j < o.length) (hL : L.length = o.length + 2 * X) (h : ∀ t, t < L.length → L[t]?.getD 0 = gS o X j s t) :
    ∀ t, t < (L.set (j + s * X) (gS o X j s (j + s * X) + o[j]?.getD 0)).length → (L.set (j + s * X) (gS o X j s (j + s * X) + o[j]?.getD 0))[t]?.getD 0 = gS o X j (s + 1) t := by
  intro t ht
  rw [List.length_set] at ht
  have hb : j + s * X < L.length := by
    have hc : s = 0 ∨ s = 1 ∨ s = 2 := by omega
    rcases hc with rfl | rfl | rfl <;> omega
  rw [getD_set _ _ _ _ hb, gS_step o hX hs]
  by_cases e : t = j + s * X
  · rw [if_pos e, if_pos e, e]
  · rw [if_neg e, if_neg e, h t ht]; omega

set_option maxHeartbeats 4000000 in
theorem l7Counts_any (a : Option Addr) (cap : Nat) (zs : List Int) (w : World) (hl : zs.length ≤ 10) (hg : good zs) (hI : IntsAt w a zs) :
    Calls Try.prog 121 #[.slice a zs.length cap] w (PanPost w zs) := by
  have HO1 : OwnI (w.alloc (.cells #[.int .i64 1] 3)) w.heap.size (.slice (some ⟨w.heap.size, 0, none⟩) 1 1) [1] :=
    World.ownsRow_lit (base := w.heap.size) (e := 3) (size := 1) w #[.int .i64 1] 1 (Nat.le_refl _) (by unfold maxLen; omega) (by simp)
  have hB1 : Below w.heap.size w (w.alloc (.cells #[.int .i64 1] 3)) := (Below.refl _ _).alloc (Nat.le_refl _) _
  go_enter Try.func121, Try.ntmps121
  go_wp2
  go_loopw [3, 4] (fun v i wr => ∃ (k g cp : Nat) (o : List Int), k ≤ zs.length ∧ i = .int .i64 k ∧ v = .slice (some ⟨g, 0, none⟩) o.length cp ∧ OwnI wr w.heap.size (.slice (some ⟨g, 0, none⟩) o.length cp) o ∧ Hid (o.length = 2 * (tot (zs.take k)).toNat + 1) ∧ IsPan (zs.take k) (tot (zs.take k)).toNat o ∧ Below w.heap.size w wr) (fun _ i _ => zs.length - (intOf i).toNat)
  case atStart => exact ⟨0, _, _, [1], Nat.zero_le _, rfl, rfl, HO1, rfl, isPan_nil, hB1⟩
  case round =>
    obtain ⟨k, g, cp, o, hk, rfl, rfl, hO, hol, hop, hB⟩ := hrel
    clear HO1 hB1
    by_cases hlt : k < zs.length
    · obtain ⟨b, off, rfl, hbb, hcell⟩ := (hI.below hB).at (by omega)
      have hx := hcell k hlt
      have hgx := good_get hg k hlt
      have hb0 : ∀ j : Nat, 0 ≤ o[j]?.getD 0 ∧ o[j]?.getD 0 ≤ 59049 := fun j => isPan_bd (by rw [List.length_take]; omega) hop j
      have hNl : 1 ≤ o.length ∧ o.length ≤ 1201 := by
        have h1 := tot_bd (good_take hg k)
        have h2 : (zs.take k).length ≤ k := List.length_take_le _ _
        have := hol.out
        omega
      obtain ⟨X, hxv⟩ : ∃ X : Nat, zs[k]?.getD 0 = X := ⟨(zs[k]?.getD 0).toNat, by omega⟩
      rw [hxv] at hx hgx
      have HX := Lib.hid hxv
      have HE : Hid (∀ L : List Int, L.length = o.length + 2 * X → (∀ t, t < L.length → L[t]?.getD 0 = gS o X o.length 0 t) → L.length = 2 * (tot (zs.take (k + 1))).toNat + 1 ∧ IsPan (zs.take (k + 1)) (tot (zs.take (k + 1))).toNat L) := fun L h1 h2 => isPan_next hg k hlt hxv hol.out hop h1 h2
      clear hxv hcell hop hol
      obtain ⟨W, rfl⟩ : ∃ W, W = wr := ⟨wr, rfl⟩
      go_wp2_with (at_make; refine makeI W rfl _ _ rfl (o.length + 2 * X) _ rfl rfl (by simp) (by omega) ?_; intro w1 hO1 hG1)
      have g1 : W.heap.size < w1.heap.size := (hO1.lt _ rfl).2
      go_loopw [6, 7] (fun v _ w2 => ∃ (j : Nat) (L : List Int), j ≤ o.length ∧ v = .int .i64 j ∧ Hid (L.length = o.length + 2 * X) ∧ Hid (∀ t, t < L.length → L[t]?.getD 0 = gS o X j 0 t) ∧ OwnI w2 W.heap.size (.slice (some ⟨W.heap.size, 0, none⟩) (o.length + 2 * X) (o.length + 2 * X)) L ∧ Below W.heap.size W w2) (fun v _ _ => o.length - (intOf v).toNat)
      case atStart => exact ⟨0, _, Nat.zero_le _, rfl, (List.length_replicate .. : (List.replicate (o.length + 2 * X) (0 : Int)).length = _), (fun t ht => by rw [gS_start]; rw [List.length_replicate] at ht; simp [ht]), hO1, (Below.refl _ W).grown hG1 (Nat.le_refl _) (fun k hk => by cases hk)⟩
      case round =>
        obtain ⟨j, L, hj, rfl, hLl, hLg, hN, hBj⟩ := hrel
        by_cases hlj : j < o.length
        · obtain ⟨W2, rfl⟩ : ∃ W2, W2 = wr := ⟨wr, rfl⟩
          have HJN : Hid (∀ L : List Int, (∀ t, t < L.length → L[t]?.getD 0 = gS o X j 3 t) → ∀ t, t < L.length → L[t]?.getD 0 = gS o X (j + 1) 0 t) := fun L h t ht => by rw [h t ht, gS_next]
          go_wp2
          go_loopw [7] (fun v w3 => ∃ (s : Nat) (L : List Int), s ≤ 3 ∧ v = .int .i64 s ∧ Hid (L.length = o.length + 2 * X) ∧ Hid (∀ t, t < L.length → L[t]?.getD 0 = gS o X j s t) ∧ OwnI w3 W.heap.size (.slice (some ⟨W.heap.size, 0, none⟩) (o.length + 2 * X) (o.length + 2 * X)) L ∧ Below W.heap.size W w3) (fun v _ => 3 - (intOf v).toNat)
          case atStart => exact ⟨0, L, by omega, rfl, hLl, hLg, hN, hBj⟩
          case round =>
            clear hLl hLg hN hBj
            obtain ⟨s, L, hs, rfl, hLl, hLg, hN, hBj⟩ := hrel
            by_cases hs3 : s < 3
            · obtain ⟨b2, o2, he, hb2, hc2⟩ := (hI.below (hB.trans (hBj.mono hB.size))).at (by omega)
              simp only [Option.some.injEq, Addr.mk.injEq, and_true] at he
              obtain ⟨rfl, rfl⟩ := he
              have ha := hc2 k hlt
              rw [HX.out] at ha
              obtain ⟨g', cp', he2, _, hgW, hcO⟩ := (hO.keptB hBj).at (by omega)
              simp only [Value.slice.injEq, Option.some.injEq, Addr.mk.injEq, and_true, true_and] at he2
              obtain ⟨rfl, rfl⟩ := he2
              obtain ⟨gN, cpN, he3, _, hgN, hcN⟩ := hN.at (by have := hLl.out; omega)
              simp only [Value.slice.injEq, Option.some.injEq, Addr.mk.injEq, and_true] at he3
              obtain ⟨rfl, hq1, hq2⟩ := he3
              clear hq1 hq2
              have ho := (hcO j hlj).1
              have hcases : s = 0 ∨ s = 1 ∨ s = 2 := by omega
              have HN := Lib.hid hN
              have HPut : Hid (∀ t, t < (L.set (j + s * X) (gS o X j s (j + s * X) + o[j]?.getD 0)).length → (L.set (j + s * X) (gS o X j s (j + s * X) + o[j]?.getD 0))[t]?.getD 0 = gS o X j (s + 1) t) := gS_put (by omega) hs3 hlj hLl.out hLg.out
              have hz := hb0 j
              have HLG := hLg
              have HCN := Lib.hid hcN
              clear hc2 hcO hcN hN hLg
              generalize o[j]?.getD 0 = z at ho hz HPut
              rcases hcases with rfl | rfl | rfl
              · have hn1 := (HCN.out (j + 0 * X) (by have := hLl.out; omega)).1
                have hf1 := (HCN.out (j + 0 * X) (by have := hLl.out; omega)).2
                rw [HLG.out _ (by have := hLl.out; omega)] at hn1
                have hyb := gS_bd hb0 X j 0 (j + 0 * X)
                rw [Nat.zero_mul, Nat.add_zero] at hn1 hf1 hyb HPut
                generalize gS o X j 0 j = y at hn1 hyb HPut
                clear HCN HLG
                go_wp2_with fail
                go_region
                go_wp2
                go_roundw
                case rel => exact ⟨1, L.set j (y + z), by omega, by go_num, by rw [List.length_set]; exact hLl.out, HPut.out, (HN.out.put hLl.out j (y + z)).dr 1, belowDr (hBj.setCell (p := ⟨_, _, none⟩) (Nat.le_refl _) _) 1⟩
                case measure => simp [intOf]
              · have hn1 := (HCN.out (j + 1 * X) (by have := hLl.out; omega)).1
                have hf1 := (HCN.out (j + 1 * X) (by have := hLl.out; omega)).2
                rw [HLG.out _ (by have := hLl.out; omega)] at hn1
                have hyb := gS_bd hb0 X j 1 (j + 1 * X)
                rw [Nat.one_mul] at hn1 hf1 hyb HPut
                generalize gS o X j 1 (j + X) = y at hn1 hyb HPut
                clear HCN HLG
                go_wp2_with fail
                go_region
                go_wp2
                go_roundw
                case rel => exact ⟨2, L.set (j + X) (y + z), by omega, by go_num, by rw [List.length_set]; exact hLl.out, HPut.out, (HN.out.put hLl.out (j + X) (y + z)).dr 1, belowDr (hBj.setCell (p := ⟨_, _, none⟩) (Nat.le_refl _) _) 1⟩
                case measure => simp [intOf]
              · have hn1 := (HCN.out (j + 2 * X) (by have := hLl.out; omega)).1
                have hf1 := (HCN.out (j + 2 * X) (by have := hLl.out; omega)).2
                rw [HLG.out _ (by have := hLl.out; omega)] at hn1
                have hyb := gS_bd hb0 X j 2 (j + 2 * X)
                generalize gS o X j 2 (j + 2 * X) = y at hn1 hyb HPut
                clear HCN HLG
                go_wp2_with fail
                go_region
                go_wp2
                go_roundw
                case rel => exact ⟨3, L.set (j + 2 * X) (y + z), by omega, by go_num, by rw [List.length_set]; exact hLl.out, HPut.out, (HN.out.put hLl.out (j + 2 * X) (y + z)).dr 1, belowDr (hBj.setCell (p := ⟨_, _, none⟩) (Nat.le_refl _) _) 1⟩
                case measure => simp [intOf]
            · obtain rfl : s = 3 := by omega
              have HG := Lib.hid (HJN.out L hLg.out)
              clear hLg
              go_wp2
              go_roundw
              case rel => exact ⟨j + 1, L, by omega, by go_num, hLl, HG, hN, hBj⟩
              case measure => simp [intOf]; omega
        · obtain rfl : j = o.length := by omega
          have HN := Lib.hid hN
          have hW := hB.size
          clear hN
          have hE := HE.out L hLl.out hLg.out
          have HEE := Lib.hid hE
          have hLl2 := hLl.out
          clear hE
          go_wp2
          go_roundw
          case rel => exact ⟨k + 1, W.heap.size, o.length + 2 * X, L, by omega, by go_num, by rw [hLl.out], by rw [hLl.out]; exact HN.out.mono hW, HEE.out.1, HEE.out.2, hB.trans (hBj.mono hW)⟩
          case measure => simp [intOf]; omega
    · obtain rfl : k = zs.length := by omega
      have h1 := hol.out
      rw [List.take_length] at h1 hop
      have H1 := Lib.hid h1
      clear h1 hol
      go_wp2
      go_ret
      exact ⟨g, cp, o, rfl, hO, H1.out, hop, hB⟩
end Go.Proofs.Ytbpkffpejmlonaa
