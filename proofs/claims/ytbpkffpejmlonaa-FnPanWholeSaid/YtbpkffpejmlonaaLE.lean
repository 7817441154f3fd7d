/- The draws of a list and numbers. Conditions: stated in each. -/
import Derived.Test.YtbpkffpejmlonaaLD
namespace Go.Proofs.Ytbpkffpejmlonaa
open Go.RowKit

theorem BytesAt.mono {w : World} {B B' : Nat} {a : Option Addr} {len : Nat} (h : BytesAt w B a len) (hB : B ≤ B') : BytesAt w B' a len := by
  rcases h with h | ⟨b, off, h1, h2, h3⟩
  · exact .inl h
  · exact .inr ⟨b, off, h1, Nat.lt_of_lt_of_le h2 hB, h3⟩
/-- a drawn list and a number -/
def Drawn2 (w : World) (most : Nat) (lo hi : Int) (e : Ending) (w' : World) : Prop :=
  ∃ ad cap zs q, e = .returned (.tuple #[.slice ad zs.length cap, .int .i64 q]) ∧ zs.length ≤ most ∧ okDrawn zs ∧ IntsAt w' ad zs ∧ lo ≤ q ∧ q ≤ hi ∧ Below w.heap.size w w'

set_option maxHeartbeats 1600000 in
theorem l92Rest_any (a : Option Addr) (len cap : Nat) (w : World) (hl : len ≤ 1048576) (hcap : len ≤ cap) (hb : BytesAt w w.heap.size a len) :
    Calls Try.prog 113 #[.slice a len cap] w (Drawn2 w 10 (-10) 100) := by
  go_enter Try.func113, Try.ntmps113
  go_wp2_with fail
  refine (l6Open_any a len cap w hl hcap hb).mono ?_
  rintro e w1 ⟨l, c, rfl, hl2, hR, hB⟩
  go_wp2_with fail
  refine (l91List_any w.heap.size l c a 0 20 9 w1 (by omega) hl2 (by omega) (by omega) hR).mono ?_
  rintro e w2 ⟨v, zs, p', rfl, hD, hz1, hz2, _, _⟩
  obtain ⟨ad, cp, rfl, _, _⟩ := hD.2.1.shape
  clear hR
  go_wp2_with fail
  refine (pickD w.heap.size l c a _ _ w1 _ _ _ (by omega) hl2 (by omega) hD).mono ?_
  rintro e w3 ⟨x, rfl, hx0, hx1, hD3, _⟩
  clear hD
  go_wp2_with fail
  refine (pickD w.heap.size l c a _ _ w1 _ _ _ (by omega) hl2 (by omega) hD3).mono ?_
  rintro e w4 ⟨y, rfl, hy0, hy1, hD4, _⟩
  clear hD3
  go_wp2_with fail
  refine (pickD w.heap.size l c a _ _ w1 _ _ _ (by omega) hl2 (by omega) hD4).mono ?_
  rintro e w5 ⟨z, rfl, hz0, hz3, hD5, _⟩
  have hI5 := hD5.2.1.ints
  have hB5 := hB.trans hD5.2.2.1
  clear hD4 hD5
  go_wp2
  go_ret2
  exact ⟨ad, cp, zs, _, rfl, by omega, hz2, hI5, by omega, by omega, hB5⟩

set_option maxHeartbeats 1600000 in
theorem DrawRestParts_any (a : Option Addr) (len cap : Nat) (w : World) (hl : len ≤ 1048576) (hcap : len ≤ cap) (hb : BytesAt w w.heap.size a len) :
    Calls Try.prog 86 #[.slice a len cap] w (Drawn2 w 8 (-10) 100) := by
  go_enter Try.func86, Try.ntmps86
  go_wp2_with fail
  refine (l6Open_any a len cap w hl hcap hb).mono ?_
  rintro e w1 ⟨l, c, rfl, hl2, hR, hB⟩
  go_wp2_with fail
  refine (l91List_any w.heap.size l c a 0 20 7 w1 (by omega) hl2 (by omega) (by omega) hR).mono ?_
  rintro e w2 ⟨v, zs, p', rfl, hD, hz1, hz2, _, _⟩
  obtain ⟨ad, cp, rfl, _, _⟩ := hD.2.1.shape
  clear hR
  go_wp2_with fail
  refine (pickD w.heap.size l c a _ _ w1 _ _ _ (by omega) hl2 (by omega) hD).mono ?_
  rintro e w3 ⟨x, rfl, hx0, hx1, hD3, _⟩
  have hI5 := hD3.2.1.ints
  have hB5 := hB.trans hD3.2.2.1
  clear hD hD3
  go_wp2
  go_ret2
  exact ⟨ad, cp, zs, _, rfl, by omega, hz2, hI5, by omega, by omega, hB5⟩

set_option maxHeartbeats 1600000 in
theorem DrawBinDual_any (a : Option Addr) (len cap : Nat) (w : World) (hl : len ≤ 1048576) (hcap : len ≤ cap) (hb : BytesAt w w.heap.size a len) :
    Calls Try.prog 44 #[.slice a len cap] w (Drawn2 w 8 (-10) 200) := by
  go_enter Try.func44, Try.ntmps44
  go_wp2_with fail
  refine (l6Open_any a len cap w hl hcap hb).mono ?_
  rintro e w1 ⟨l, c, rfl, hl2, hR, hB⟩
  go_wp2_with fail
  refine (l91List_any w.heap.size l c a 0 20 7 w1 (by omega) hl2 (by omega) (by omega) hR).mono ?_
  rintro e w2 ⟨v, zs, p', rfl, hD, hz1, hz2, _, _⟩
  obtain ⟨ad, cp, rfl, _, _⟩ := hD.2.1.shape
  clear hR
  go_wp2_with fail
  refine (pickD w.heap.size l c a _ _ w1 _ _ _ (by omega) hl2 (by omega) hD).mono ?_
  rintro e w3 ⟨x, rfl, hx0, hx1, hD3, _⟩
  clear hD
  go_wp2_with fail
  refine (pickD w.heap.size l c a _ _ w1 _ _ _ (by omega) hl2 (by omega) hD3).mono ?_
  rintro e w4 ⟨y, rfl, hy0, hy1, hD4, _⟩
  have hI5 := hD4.2.1.ints
  have hB5 := hB.trans hD4.2.2.1
  clear hD3 hD4
  go_wp2
  go_ret2
  exact ⟨ad, cp, zs, _, rfl, by omega, hz2, hI5, by omega, by omega, hB5⟩

theorem DrawRestFind_any (a : Option Addr) (len cap : Nat) (w : World) (hl : len ≤ 1048576) (hcap : len ≤ cap) (hb : BytesAt w w.heap.size a len) :
    Calls Try.prog 92 #[.slice a len cap] w (Drawn2 w 10 (-10) 100) := by
  go_enter Try.func92, Try.ntmps92
  go_wp2_with fail
  refine (l92Rest_any a len cap w hl hcap hb).mono ?_
  rintro e w1 ⟨ad, cp, zs, q, rfl, h1, h2, h3, h4, h5, h6⟩
  go_wp2
  go_ret2
  exact ⟨ad, cp, zs, q, rfl, h1, h2, h3, h4, h5, h6⟩

theorem DrawRestShort_any (a : Option Addr) (len cap : Nat) (w : World) (hl : len ≤ 1048576) (hcap : len ≤ cap) (hb : BytesAt w w.heap.size a len) :
    Calls Try.prog 91 #[.slice a len cap] w (Drawn2 w 10 (-10) 100) := by
  go_enter Try.func91, Try.ntmps91
  go_wp2_with fail
  refine (l92Rest_any a len cap w hl hcap hb).mono ?_
  rintro e w1 ⟨ad, cp, zs, q, rfl, h1, h2, h3, h4, h5, h6⟩
  go_wp2
  go_ret2
  exact ⟨ad, cp, zs, q, rfl, h1, h2, h3, h4, h5, h6⟩

theorem DrawRestCounts_any (a : Option Addr) (len cap : Nat) (w : World) (hl : len ≤ 1048576) (hcap : len ≤ cap) (hb : BytesAt w w.heap.size a len) :
    Calls Try.prog 57 #[.slice a len cap] w (Drawn2 w 10 (-10) 100) := by
  go_enter Try.func57, Try.ntmps57
  go_wp2_with fail
  refine (l92Rest_any a len cap w hl hcap hb).mono ?_
  rintro e w1 ⟨ad, cp, zs, q, rfl, h1, h2, h3, h4, h5, h6⟩
  go_wp2
  go_ret2
  exact ⟨ad, cp, zs, q, rfl, h1, h2, h3, h4, h5, h6⟩

theorem DrawRestReach_any (a : Option Addr) (len cap : Nat) (w : World) (hl : len ≤ 1048576) (hcap : len ≤ cap) (hb : BytesAt w w.heap.size a len) :
    Calls Try.prog 64 #[.slice a len cap] w (Drawn2 w 10 (-10) 100) := by
  go_enter Try.func64, Try.ntmps64
  go_wp2_with fail
  refine (l92Rest_any a len cap w hl hcap hb).mono ?_
  rintro e w1 ⟨ad, cp, zs, q, rfl, h1, h2, h3, h4, h5, h6⟩
  go_wp2
  go_ret2
  exact ⟨ad, cp, zs, q, rfl, h1, h2, h3, h4, h5, h6⟩

/-- a drawn list and two numbers -/
def Drawn3 (w : World) (most : Nat) (lo hi : Int) (e : Ending) (w' : World) : Prop :=
  ∃ ad cap zs q k, e = .returned (.tuple #[.slice ad zs.length cap, .int .i64 q, .int .i64 k]) ∧ zs.length ≤ most ∧ okDrawn zs ∧ IntsAt w' ad zs ∧ lo ≤ q ∧ q ≤ hi ∧ lo ≤ k ∧ k ≤ hi ∧ Below w.heap.size w w'

set_option maxHeartbeats 1600000 in
theorem DrawRestJust_any (a : Option Addr) (len cap : Nat) (w : World) (hl : len ≤ 1048576) (hcap : len ≤ cap) (hb : BytesAt w w.heap.size a len) :
    Calls Try.prog 90 #[.slice a len cap] w (Drawn3 w 10 (-10) 100) := by
  go_enter Try.func90, Try.ntmps90
  go_wp2_with fail
  refine (l92Rest_any a len cap w hl hcap hb).mono ?_
  rintro e w1 ⟨ad, cp, zs, q, rfl, h1, h2, h3, h4, h5, h6⟩
  have s1 := h6.size
  have hb1 : BytesAt w1 w1.heap.size a len := (hb.same h6).mono s1
  go_wp2_with fail
  refine (l6Open_any a len cap w1 hl hcap hb1).mono ?_
  rintro e w2 ⟨l, c, rfl, hl2, hR, hB⟩
  have s2 := hB.size
  have c1 := hR.c1
  have f1 := hR.f1
  have hR61 : RdAt (w2.setCell ⟨w1.heap.size, 1, none⟩ (.int .i64 61)) w1.heap.size a l c 61 := hR.stepped 61 0
  have hB61 : Below w1.heap.size w1 (w2.setCell ⟨w1.heap.size, 1, none⟩ (.int .i64 61)) := hB.setCell (p := ⟨_, 1, none⟩) (Nat.le_refl _) _
  have hO61 : IntsAt (w2.setCell ⟨w1.heap.size, 1, none⟩ (.int .i64 61)) ad zs := h3.below hB61
  clear hR hB
  go_wp2_with fail
  refine (pick_any w1.heap.size l c a 61 2 _ (by omega) hl2 (by omega) hR61).mono ?_
  rintro e w3 ⟨x, rfl, hx0, hx1, hR3, hG3⟩
  have hB3 : Below w1.heap.size w1 w3 := hB61.grown hG3 (by have := hR61.lt; omega) (fun k hk => by cases hk; exact Nat.le_refl _)
  have hI3 := h3.below hB3
  have hT3 := h6.trans (hB3.mono s1)
  clear hR61 hB61 hO61 hG3 c1 f1
  go_wp2_with fail
  · go_ret3
    exact ⟨ad, cp, zs, q, q, rfl, h1, h2, hI3, h4, h5, h4, h5, hT3⟩
  · refine (pick_any w1.heap.size l c a _ 7 _ (by omega) hl2 (by omega) hR3).mono ?_
    rintro e w4 ⟨y, rfl, hy0, hy1, hR4, hG4⟩
    have hB4 : Below w1.heap.size w1 w4 := hB3.grown hG4 (by have := hR3.lt; omega) (fun k hk => by cases hk; exact Nat.le_refl _)
    clear hR3 hG4 hI3 hT3
    go_wp2_with fail
    refine (pick_any w1.heap.size l c a _ 24 _ (by omega) hl2 (by omega) hR4).mono ?_
    rintro e w5 ⟨z, rfl, hz0, hz1, hR5, hG5⟩
    have hB5 : Below w1.heap.size w1 w5 := hB4.grown hG5 (by have := hR4.lt; omega) (fun k hk => by cases hk; exact Nat.le_refl _)
    have hI5 := h3.below hB5
    have hT5 := h6.trans (hB5.mono s1)
    clear hR4 hR5 hG5 hB3 hB4 hB5
    go_wp2
    go_ret3
    exact ⟨ad, cp, zs, q, _, rfl, h1, h2, hI5, h4, h5, by omega, by omega, hT5⟩
end Go.Proofs.Ytbpkffpejmlonaa
