/- The draws of weights and numbers. Conditions: stated in each. -/
import Derived.Test.YtmggcfilkiklbaaLP
namespace Go.Proofs.Ytmggcfilkiklbaa
open Go.RowKit

theorem RdAt.below {w w' : World} {Br len cap : Nat} {a : Option Addr} {p : Int} (h : RdAt w Br a len cap p) (hb : Below w.heap.size w w') : RdAt w' Br a len cap p :=
  ⟨(hb.block Br h.lt).trans h.1, h.2.same (hb.mono (Nat.le_of_lt h.lt))⟩
theorem DrI.below {w0 w w' : World} {Br len cap : Nat} {a : Option Addr} {p : Int} {v : Value} {zs : List Int} (h : DrI w0 w Br a len cap p v zs) (hb : Below w.heap.size w w') : DrI w0 w' Br a len cap p v zs :=
  ⟨h.1.below hb, h.2.1.keptB hb, h.2.2.1.trans (hb.mono (Nat.le_of_lt h.1.lt)), h.2.2.2⟩
theorem good.drawn {ys : List Int} (h : good ys) : okDrawn ys := fun z hz => by have := h z hz; omega

/-- the end of the draw, for each list -/
theorem drawEnd (Br len cap : Nat) (a : Option Addr) (p : Int) (w0 w : World) (v : Value) (zs : List Int) (hp : 0 ≤ p ∧ p ≤ 100000) (hlen : len ≤ 2000) (hz : zs.length ≤ 8) (hD : DrI w0 w Br a len cap p v zs) :
    ∃ ad cp, v = .slice ad zs.length cp ∧ IntsAt w ad zs := by
  obtain ⟨ad, cp, rfl, hI, _⟩ := hD.2.1.shape
  exact ⟨ad, cp, rfl, hI⟩

/-- two are drawn, the list's capacity with it -/
def Drawn2C (w : World) (most : Nat) (lo hi : Int) (e : Ending) (w' : World) : Prop :=
  ∃ ad cap zs q, e = .returned (.tuple #[.slice ad zs.length cap, .int .i64 q]) ∧ zs.length ≤ cap ∧ zs.length ≤ most ∧ okDrawn zs ∧ IntsAt w' ad zs ∧ lo ≤ q ∧ q ≤ hi ∧ Below w.heap.size w w'
theorem OwnI.capB {w : World} {base L cap : Nat} {a : Option Addr} {zs : List Int} (h : OwnI w base (.slice a L cap) zs) : L ≤ cap := by
  have hn := h.isLen
  obtain ⟨a', c', e, _, hc⟩ := h.shape
  simp only [Value.slice.injEq] at e
  omega

end Go.Proofs.Ytmggcfilkiklbaa
