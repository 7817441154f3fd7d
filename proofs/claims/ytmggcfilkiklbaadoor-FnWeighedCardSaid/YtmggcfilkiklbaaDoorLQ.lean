/- The draws of weights and numbers. Conditions: stated in each. -/
import Derived.Test.YtmggcfilkiklbaaDoorLP
namespace Go.Proofs.YtmggcfilkiklbaaDoor
open Go.RowKit

theorem RdAt.below {w w' : World} {Br len cap : Nat} {a : Option Addr} {p : Int} (h : RdAt w Br a len cap p) (hb : Below w.heap.size w w') : RdAt w' Br a len cap p :=
  ⟨(hb.block Br h.lt).trans h.1, h.2.same (hb.mono (Nat.le_of_lt h.lt))⟩
theorem DrI.below {w0 w w' : World} {Br len cap : Nat} {a : Option Addr} {p : Int} {v : Value} {zs : List Int} (h : DrI w0 w Br a len cap p v zs) (hb : Below w.heap.size w w') : DrI w0 w' Br a len cap p v zs :=
  ⟨h.1.below hb, h.2.1.keptB hb, h.2.2.1.trans (hb.mono (Nat.le_of_lt h.1.lt)), h.2.2.2⟩
theorem good.drawn {ys : List Int} (h : good ys) : okDrawn ys := fun z hz => by have := h z hz; omega

/-- the end of the draw, for each list -/
theorem drawEnd (Br len cap : Nat) (a : Option Addr) (p : Int) (w0 w : World) (v : Value) (zs : List Int) (hp : 0 ≤ p ∧ p ≤ 100000) (hlen : len ≤ 2000) (hz : zs.length ≤ 8) (hD : DrI w0 w Br a len cap p v zs) :
    ∃ ad cp, v = .slice ad zs.length cp ∧ IntsAt w ad zs := by
  obtain ⟨ad, cp, rfl, hI, _⟩ := hD.2.1.shape
  exact ⟨ad, cp, rfl, hI⟩

/-- two are drawn, the list's capacity with it -/
def Drawn2C (w : World) (most : Nat) (lo hi : Int) (e : Ending) (w' : World) : Prop :=
  ∃ ad cap zs q, e = .returned (.tuple #[.slice ad zs.length cap, .int .i64 q]) ∧ zs.length ≤ cap ∧ zs.length ≤ most ∧ okDrawn zs ∧ IntsAt w' ad zs ∧ lo ≤ q ∧ q ≤ hi ∧ Below w.heap.size w w'
theorem OwnI.capB {w : World} {base L cap : Nat} {a : Option Addr} {zs : List Int} (h : OwnI w base (.slice a L cap) zs) : L ≤ cap := by
  have hn := h.isLen
  obtain ⟨a', c', e, _, hc⟩ := h.shape
  simp only [Value.slice.injEq] at e
  omega

set_option maxHeartbeats 3200000 in
theorem DrawPanWeighedC_any (a : Option Addr) (len cap : Nat) (w : World) (hl : len ≤ 1048576) (hcap : len ≤ cap) (hb : BytesAt w w.heap.size a len) :
    Calls Tryd.prog 10 #[.slice a len cap] w (Drawn2C w 8 (-1) 1000) := by
  go_enter Tryd.func10, Tryd.ntmps10
  go_wp2_with fail
  refine (l6Open_any a len cap w hl hcap hb).mono ?_
  rintro e w1 ⟨l, c, rfl, hl2, hR, hB⟩
  go_wp2_with fail
  refine (l91List_any w.heap.size l c a 0 12 6 w1 (by omega) hl2 (by omega) (by omega) hR).mono ?_
  rintro e w2 ⟨v, zs, p', rfl, hD, hz1, hz2, hp1, hp2⟩
  clear hR
  go_wp2_with fail
  refine (pickD w.heap.size l c a _ _ w1 _ _ _ (by omega) hl2 (by omega) hD).mono ?_
  rintro e w3 ⟨x, rfl, hx0, hx1, hD3, _⟩
  clear hD
  go_wp2_with fail
  · refine (pickD w.heap.size l c a _ _ w1 _ _ _ (by omega) hl2 (by omega) hD3).mono ?_
    rintro e w4 ⟨y, rfl, hy0, hy1, hD4, _⟩
    clear hD3
    go_wp2_with fail
    refine (PanBest_any y w4 (by omega)).mono ?_
    rintro e w5 ⟨v5, ys, ok, rfl, hO5, hg5, hl5, hB5⟩
    have hD5 : DrI w1 w5 w.heap.size a l c (p' + 1 + 1) v5 ys :=
      ⟨hD4.1.below hB5, hO5.mono hD4.2.2.1.size, hD4.2.2.1.trans (hB5.mono (Nat.le_of_lt hD4.1.lt)), hD4.2.2.2⟩
    obtain ⟨ad, cp, rfl, hI5⟩ := drawEnd _ _ _ _ _ _ _ _ _ (by omega) hl2 (by omega) hD5
    clear hD4 hO5 hB5
    go_wp2_with fail
    refine (l92Whole_any ad cp ys w5 (by omega) hI5).mono ?_
    rintro e w6 ⟨v6, us, rfl, hO6, hg6, hl6, hB6⟩
    have hD6 := hD5.below hB6
    obtain ⟨a6, c6, rfl, hI6, _⟩ := hO6.shape
    have ht := tot_bd hg6
    go_wp2_with fail
    refine (l4Total_any a6 c6 us w6 (by omega) (fun x hx => by have := hg6 x hx; omega) hI6).mono ?_
    rintro e w' ⟨rfl, rfl⟩
    clear hD5 hO6 hI6 hI5
    go_wp2_with fail
    refine (pickD w.heap.size l c a _ _ w1 _ _ _ (by omega) hl2 (by omega) hD6).mono ?_
    rintro e w7 ⟨x1, rfl, hx10, hx11, hD7, _⟩
    clear hD6
    go_wp2_with fail
    refine (pickD w.heap.size l c a _ _ w1 _ _ _ (by omega) hl2 (by omega) hD7).mono ?_
    rintro e w8 ⟨x2, rfl, hx20, hx21, hD8, _⟩
    clear hD7
    go_wp2_with fail
    refine (pickD w.heap.size l c a _ _ w1 _ _ _ (by omega) hl2 (by omega) hD8).mono ?_
    rintro e w9 ⟨x3, rfl, hx30, hx31, hD9, _⟩
    have hI9 := hD9.2.1.ints
    have hcp9 := hD9.2.1.capB
    have hB9 := hB.trans hD9.2.2.1
    clear hD8 hD9
    go_wp2
    go_ret2
    exact ⟨ad, cp, ys, _, rfl, hcp9, by omega, hg5.drawn, hI9, by omega, by omega, hB9⟩
  · obtain ⟨ad, cp, rfl, hI5⟩ := drawEnd _ _ _ _ _ _ _ _ _ (by omega) hl2 (by omega) hD3
    go_wp2_with fail
    refine (l92Whole_any ad cp zs w3 (by omega) hI5).mono ?_
    rintro e w6 ⟨v6, us, rfl, hO6, hg6, hl6, hB6⟩
    have hD6 := hD3.below hB6
    obtain ⟨a6, c6, rfl, hI6, _⟩ := hO6.shape
    have ht := tot_bd hg6
    go_wp2_with fail
    refine (l4Total_any a6 c6 us w6 (by omega) (fun x hx => by have := hg6 x hx; omega) hI6).mono ?_
    rintro e w' ⟨rfl, rfl⟩
    clear hD3 hO6 hI6 hI5
    go_wp2_with fail
    refine (pickD w.heap.size l c a _ _ w1 _ _ _ (by omega) hl2 (by omega) hD6).mono ?_
    rintro e w7 ⟨x1, rfl, hx10, hx11, hD7, _⟩
    clear hD6
    go_wp2_with fail
    refine (pickD w.heap.size l c a _ _ w1 _ _ _ (by omega) hl2 (by omega) hD7).mono ?_
    rintro e w8 ⟨x2, rfl, hx20, hx21, hD8, _⟩
    clear hD7
    go_wp2_with fail
    refine (pickD w.heap.size l c a _ _ w1 _ _ _ (by omega) hl2 (by omega) hD8).mono ?_
    rintro e w9 ⟨x3, rfl, hx30, hx31, hD9, _⟩
    have hI9 := hD9.2.1.ints
    have hcp9 := hD9.2.1.capB
    have hB9 := hB.trans hD9.2.2.1
    clear hD8 hD9
    go_wp2
    go_ret2
    exact ⟨ad, cp, zs, _, rfl, hcp9, by omega, hz2, hI9, by omega, by omega, hB9⟩

theorem DrawPanWeighed_any (a : Option Addr) (len cap : Nat) (w : World) (hl : len ≤ 1048576) (hcap : len ≤ cap) (hb : BytesAt w w.heap.size a len) :
    Calls Tryd.prog 10 #[.slice a len cap] w (Drawn2 w 8 (-1) 1000) :=
  (DrawPanWeighedC_any a len cap w hl hcap hb).mono (fun _ _ ⟨ad, cp, zs, q, h1, _, h2⟩ => ⟨ad, cp, zs, q, h1, h2⟩)
end Go.Proofs.YtmggcfilkiklbaaDoor
