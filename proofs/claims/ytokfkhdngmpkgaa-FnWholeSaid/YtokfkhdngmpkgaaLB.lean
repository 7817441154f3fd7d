/- The draws of lists for sorted lists. Conditions: stated in each. -/
import Derived.Test.YtokfkhdngmpkgaaDL
namespace Go.Proofs.Ytokfkhdngmpkgaa
open Go.RowKit

theorem DrawSumMissing_any (a : Option Addr) (len cap : Nat) (w : World) (hl : len ≤ 1048576) (hcap : len ≤ cap) (hb : BytesAt w w.heap.size a len) :
    Calls Try.prog 7 #[.slice a len cap] w (DrawnPost w 9) := by
  go_enter Try.func7, Try.ntmps7
  go_wp2_with fail
  refine (l91Some_any a len cap w hl hcap hb).mono ?_
  rintro e w1 ⟨ad, cp, zs, rfl, h1, h2, h3, h4⟩
  go_wp2
  go_ret
  exact ⟨ad, cp, zs, rfl, h1, h2, h3, h4⟩

theorem DrawHalfGreedy_any (a : Option Addr) (len cap : Nat) (w : World) (hl : len ≤ 1048576) (hcap : len ≤ cap) (hb : BytesAt w w.heap.size a len) :
    Calls Try.prog 17 #[.slice a len cap] w (DrawnPost w 9) := by
  go_enter Try.func17, Try.ntmps17
  go_wp2_with fail
  refine (l91Some_any a len cap w hl hcap hb).mono ?_
  rintro e w1 ⟨ad, cp, zs, rfl, h1, h2, h3, h4⟩
  go_wp2
  go_ret
  exact ⟨ad, cp, zs, rfl, h1, h2, h3, h4⟩

theorem DrawHalfDifferences_any (a : Option Addr) (len cap : Nat) (w : World) (hl : len ≤ 1048576) (hcap : len ≤ cap) (hb : BytesAt w w.heap.size a len) :
    Calls Try.prog 22 #[.slice a len cap] w (DrawnPost w 9) := by
  go_enter Try.func22, Try.ntmps22
  go_wp2_with fail
  refine (l91Some_any a len cap w hl hcap hb).mono ?_
  rintro e w1 ⟨ad, cp, zs, rfl, h1, h2, h3, h4⟩
  go_wp2
  go_ret
  exact ⟨ad, cp, zs, rfl, h1, h2, h3, h4⟩

theorem DrawSumWhole_any (a : Option Addr) (len cap : Nat) (w : World) (hl : len ≤ 1048576) (hcap : len ≤ cap) (hb : BytesAt w w.heap.size a len) :
    Calls Try.prog 13 #[.slice a len cap] w (DrawnPost w 9) := by
  go_enter Try.func13, Try.ntmps13
  go_wp2_with fail
  refine (l6Open_any a len cap w hl hcap hb).mono ?_
  rintro e w1 ⟨l, c, rfl, hl2, hR, hB⟩
  go_wp2_with fail
  refine (l91List_any w.heap.size l c a 0 6 8 w1 (by omega) hl2 (by omega) (by omega) hR).mono ?_
  rintro e w2 ⟨v, zs, p', rfl, hD, hz1, hz2, _, _⟩
  obtain ⟨ad, cp, rfl, hI, _⟩ := hD.2.1.shape
  have hB2 := hB.trans hD.2.2.1
  clear hD hR
  go_wp2
  go_ret
  exact ⟨ad, cp, zs, rfl, by omega, hz2, hI, hB2⟩
end Go.Proofs.Ytokfkhdngmpkgaa
