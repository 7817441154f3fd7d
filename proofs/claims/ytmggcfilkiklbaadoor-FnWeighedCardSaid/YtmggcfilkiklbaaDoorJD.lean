/- The draw of weights and signs. Conditions: stated in each. -/
import Derived.Test.YtmggcfilkiklbaaDoorJX
import Derived.Test.YtmggcfilkiklbaaDoorWX
import Derived.Test.YtmggcfilkiklbaaDoorLQ
import Derived.Test.YtmggcfilkiklbaaDoorW11
namespace Go.Proofs.YtmggcfilkiklbaaDoor
open Go.RowKit

/-- two lists are drawn -/
def DrawnLL (w : World) (e : Ending) (w' : World) : Prop :=
  ∃ ad cap zs ad2 cap2 ss, e = .returned (.tuple #[.slice ad zs.length cap, .slice ad2 ss.length cap2]) ∧ zs.length ≤ 9 ∧ okDrawn zs ∧ IntsAt w' ad zs ∧ ss.length ≤ 20 ∧ IntsAt w' ad2 ss ∧ Below w.heap.size w w'
theorem wgL_len {zs : List Int} {v : Int} (h : zs.length ≤ 9) : (wgL (wgO zs v)).length ≤ 9 := by
  rw [wgO]
  split
  · cases hf : fw zs v with
    | none => simp [wgL]
    | some W => rw [wgL_some, (fw_is hf).1]; exact h
  · simp [wgL]

set_option maxHeartbeats 3200000 in
theorem DrawPanSides_any (a : Option Addr) (len cap : Nat) (w : World) (hl : len ≤ 1048576) (hcap : len ≤ cap) (hb : BytesAt w w.heap.size a len) :
    Calls Tryd.prog 5 #[.slice a len cap] w (DrawnLL w) := by
  go_enter Tryd.func5, Tryd.ntmps5
  go_wp2_with fail
  refine (DrawPanWeighedC_any a len cap w hl hcap hb).mono ?_
  rintro e w1 ⟨ad, cp, zs, q, rfl, hcp, hz1, hz2, hI1, hq1, hq2, hB1⟩
  have s1 := hB1.size
  have HW := wgL_len (zs := zs) (v := q) (by omega)
  have hC := sPanWeighed_any ad cp zs q w1 (by omega) hcp (by omega) hI1
  generalize wgL (wgO zs q) = ss at HW hC
  generalize (wgO zs q).isSome = ok at hC
  go_wp2_with fail
  refine hC.mono ?_
  rintro e w2 ⟨g, c, rfl, hO2, hB2⟩
  clear hC
  have s2 := hB2.size
  have hJ2 := hO2.ints
  have hI2 := hI1.below hB2
  have hA2 := hB1.trans (hB2.mono s1)
  have hb2 : BytesAt w2 w2.heap.size a len := (hb.same hA2).mono (by omega)
  clear hO2 hI1 hB2
  go_wp2_with fail
  refine (l6Open_any a len cap w2 hl hcap hb2).mono ?_
  rintro e w3 ⟨l, cc, rfl, hl2, hR3, hB3⟩
  have s3 := hB3.size
  have hR4 := hR3.stepped 61 0
  have hB4 : Below w2.heap.size w2 (w3.setCell ⟨w2.heap.size, 1, none⟩ (.int .i64 61)) := hB3.setCell (p := ⟨w2.heap.size, 1, none⟩) (Nat.le_refl _) _
  have hc1 := hR3.c1
  have hf1 := hR3.f1
  clear hR3 hB3 hb2
  have hst : RdAt (w3.setCell ⟨w2.heap.size, 1, none⟩ (.int .i64 61)) w2.heap.size a l cc 61 := hR4
  clear hR4
  cases ok with
  | false =>
    have HD0 : DrI (w3.setCell ⟨w2.heap.size, 1, none⟩ (.int .i64 61)) ((w3.setCell ⟨w2.heap.size, 1, none⟩ (.int .i64 61)).alloc (.cells #[] 3)) w2.heap.size a l cc 61 (.slice (some ⟨w3.heap.size, 0, none⟩) 0 0) [] := by
      rw [show w3.heap.size = (w3.setCell ⟨w2.heap.size, 1, none⟩ (.int .i64 61)).heap.size by simp]
      exact
      ⟨hst.kept (World.grownBy_alloc _ _ none) (fun r hr => by cases hr), World.ownsRow_lit _ #[] 0 (Nat.le_refl _) (by unfold maxLen; omega) (by simp), (Below.refl _ _).alloc (Nat.le_of_lt hst.lt) _, hst.lt⟩
    go_wp2
    go_loopw [9, 10] (fun v i wr => ∃ (k : Nat) (ys : List Int) (p' : Int), k ≤ zs.length + 1 ∧ i = .int .i64 k ∧ ys.length = k ∧ DrI (w3.setCell ⟨w2.heap.size, 1, none⟩ (.int .i64 61)) wr w2.heap.size a l cc p' v ys ∧ 61 ≤ p' ∧ p' ≤ 62 + 3 * k) (fun _ i _ => zs.length + 2 - (intOf i).toNat)
    case atStart => exact ⟨0, [], 61, by omega, rfl, rfl, HD0, by omega, by omega⟩
    case round =>
      obtain ⟨k, ys, p', hk, rfl, hyl, hDr, hp1, hp2⟩ := hrel
      subst hyl
      go_wp2_with fail
      refine (pickD w2.heap.size l cc a _ _ (w3.setCell ⟨w2.heap.size, 1, none⟩ (.int .i64 61)) _ _ _ (by omega) hl2 (by omega) hDr).mono ?_
      rintro e w7 ⟨x, rfl, hx0, hx1, hD7, _⟩
      have htd := tdiv23 hx0 hx1
      have htw : IntKind.i64.wrap (x.tdiv 23) ≤ 1 := by rw [kwrap _ (by omega)]; omega
      clear hDr
      go_wp2_with fail
      · refine (pickD w2.heap.size l cc a _ _ (w3.setCell ⟨w2.heap.size, 1, none⟩ (.int .i64 61)) _ _ _ (by omega) hl2 (by omega) hD7).mono ?_
        rintro e w8 ⟨y, rfl, hy0, hy1, hD8, _⟩
        clear hD7
        go_wp2_with fail
        refine (pickD w2.heap.size l cc a _ _ (w3.setCell ⟨w2.heap.size, 1, none⟩ (.int .i64 61)) _ _ _ (by omega) hl2 (by omega) hD8).mono ?_
        rintro e w9 ⟨z, rfl, hz0, hz1, hD9, _⟩
        clear hD8
        go_wp2_with (at_builtin; refine appendD (w3.setCell ⟨w2.heap.size, 1, none⟩ (.int .i64 61)) _ rfl _ _ rfl _ _ _ rfl rfl ?_ hD9 ?_; (omega); intro v' w' hD')
        go_roundw
        case rel => exact ⟨ys.length + 1, _, _, by omega, by go_num, by simp, hD', by omega, by omega⟩
        case measure => simp [intOf]; omega
      · obtain ⟨ad3, cp3, rfl, hI7, _⟩ := hD7.2.1.shape
        have hB8 : Below w2.heap.size w2 w7 := hB4.trans (hD7.2.2.1)
        have hI8 := hI2.below hB8
        have hA8 := hA2.trans (hB8.mono (by omega))
        clear hD7
        go_wp2
        refine bodyPost_ret (v := .tuple #[.slice ad zs.length cp, .slice ad3 ys.length cp3]) (by simp [results, Tryd.f5, go_sem]) rfl ?_
        exact ⟨ad, cp, zs, ad3, cp3, ys, rfl, by omega, hz2, hI8, by omega, hI7, hA8⟩
  | true =>
    go_wp2_with fail
    refine (pick_any w2.heap.size l cc a 61 6 _ (by omega) hl2 (by omega) hst).mono ?_
    rintro e w5 ⟨x0, rfl, hx00, hx01, hR5, hG5⟩
    have hB5 : Below w2.heap.size w2 w5 := hB4.grown hG5 (Nat.le_of_lt hst.lt) (fun k hk => by cases hk; exact Nat.le_refl _)
    have s5 := hB5.size
    clear hst hB4 hG5 hc1 hf1
    have HD0 : DrI w5 (w5.alloc (.cells #[] 3)) w2.heap.size a l cc 62 (.slice (some ⟨w5.heap.size, 0, none⟩) 0 0) [] :=
      ⟨hR5.kept (World.grownBy_alloc _ _ none) (fun r hr => by cases hr), World.ownsRow_lit _ #[] 0 (Nat.le_refl _) (by unfold maxLen; omega) (by simp), (Below.refl _ _).alloc (Nat.le_of_lt hR5.lt) _, hR5.lt⟩
    go_wp2
    · have hI8 := hI2.below hB5
      have hJ8 := hJ2.below hB5
      have hA8 := hA2.trans (hB5.mono (by omega))
      refine bodyPost_ret (v := .tuple #[.slice ad zs.length cp, .slice (some ⟨g, 0, none⟩) ss.length c]) (by simp [results, Tryd.f5, go_sem]) rfl ?_
      exact ⟨ad, cp, zs, _, c, ss, rfl, by omega, hz2, hI8, by omega, hJ8, hA8⟩
    go_loopw [9, 10] (fun v i wr => ∃ (k : Nat) (ys : List Int) (p' : Int), k ≤ zs.length + 1 ∧ i = .int .i64 k ∧ ys.length = k ∧ DrI w5 wr w2.heap.size a l cc p' v ys ∧ 61 ≤ p' ∧ p' ≤ 62 + 3 * k) (fun _ i _ => zs.length + 2 - (intOf i).toNat)
    case atStart => exact ⟨0, [], 62, by omega, rfl, rfl, HD0, by omega, by omega⟩
    case round =>
      obtain ⟨k, ys, p', hk, rfl, hyl, hDr, hp1, hp2⟩ := hrel
      subst hyl
      go_wp2_with fail
      refine (pickD w2.heap.size l cc a _ _ w5 _ _ _ (by omega) hl2 (by omega) hDr).mono ?_
      rintro e w7 ⟨x, rfl, hx0, hx1, hD7, _⟩
      have htd := tdiv23 hx0 hx1
      have htw : IntKind.i64.wrap (x.tdiv 23) ≤ 1 := by rw [kwrap _ (by omega)]; omega
      clear hDr
      go_wp2_with fail
      · refine (pickD w2.heap.size l cc a _ _ w5 _ _ _ (by omega) hl2 (by omega) hD7).mono ?_
        rintro e w8 ⟨y, rfl, hy0, hy1, hD8, _⟩
        clear hD7
        go_wp2_with fail
        refine (pickD w2.heap.size l cc a _ _ w5 _ _ _ (by omega) hl2 (by omega) hD8).mono ?_
        rintro e w9 ⟨z, rfl, hz0, hz1, hD9, _⟩
        clear hD8
        go_wp2_with (at_builtin; refine appendD w5 _ rfl _ _ rfl _ _ _ rfl rfl ?_ hD9 ?_; (omega); intro v' w' hD')
        go_roundw
        case rel => exact ⟨ys.length + 1, _, _, by omega, by go_num, by simp, hD', by omega, by omega⟩
        case measure => simp [intOf]; omega
      · obtain ⟨ad3, cp3, rfl, hI7, _⟩ := hD7.2.1.shape
        have hB8 : Below w2.heap.size w2 w7 := hB5.trans (hD7.2.2.1)
        have hI8 := hI2.below hB8
        have hA8 := hA2.trans (hB8.mono (by omega))
        clear hD7
        go_wp2
        refine bodyPost_ret (v := .tuple #[.slice ad zs.length cp, .slice ad3 ys.length cp3]) (by simp [results, Tryd.f5, go_sem]) rfl ?_
        exact ⟨ad, cp, zs, ad3, cp3, ys, rfl, by omega, hz2, hI8, by omega, hI7, hA8⟩
end Go.Proofs.YtmggcfilkiklbaaDoor
