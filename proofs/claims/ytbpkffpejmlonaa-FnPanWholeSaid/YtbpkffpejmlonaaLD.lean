/- The draws that only hand on a drawn list. Conditions: stated in each. -/
import Derived.Test.YtbpkffpejmlonaaDL
namespace Go.Proofs.Ytbpkffpejmlonaa
open Go.RowKit

theorem DrawSumIn_any (a : Option Addr) (len cap : Nat) (w : World) (hl : len ≤ 1048576) (hcap : len ≤ cap) (hb : BytesAt w w.heap.size a len) :
    Calls Try.prog 30 #[.slice a len cap] w (DrawnPost w 9) := by
  go_enter Try.func30, Try.ntmps30
  go_wp2_with fail
  refine (l91Some_any a len cap w hl hcap hb).mono ?_
  rintro e w1 ⟨ad, cp, zs, rfl, h1, h2, h3, h4⟩
  go_wp2
  go_ret
  exact ⟨ad, cp, zs, rfl, h1, h2, h3, h4⟩

theorem DrawSumCounts_any (a : Option Addr) (len cap : Nat) (w : World) (hl : len ≤ 1048576) (hcap : len ≤ cap) (hb : BytesAt w w.heap.size a len) :
    Calls Try.prog 53 #[.slice a len cap] w (DrawnPost w 9) := by
  go_enter Try.func53, Try.ntmps53
  go_wp2_with fail
  refine (l91Some_any a len cap w hl hcap hb).mono ?_
  rintro e w1 ⟨ad, cp, zs, rfl, h1, h2, h3, h4⟩
  go_wp2
  go_ret
  exact ⟨ad, cp, zs, rfl, h1, h2, h3, h4⟩

theorem DrawHalfCount_any (a : Option Addr) (len cap : Nat) (w : World) (hl : len ≤ 1048576) (hcap : len ≤ cap) (hb : BytesAt w w.heap.size a len) :
    Calls Try.prog 58 #[.slice a len cap] w (DrawnPost w 9) := by
  go_enter Try.func58, Try.ntmps58
  go_wp2_with fail
  refine (l91Some_any a len cap w hl hcap hb).mono ?_
  rintro e w1 ⟨ad, cp, zs, rfl, h1, h2, h3, h4⟩
  go_wp2
  go_ret
  exact ⟨ad, cp, zs, rfl, h1, h2, h3, h4⟩

theorem DrawHalfThree_any (a : Option Addr) (len cap : Nat) (w : World) (hl : len ≤ 1048576) (hcap : len ≤ cap) (hb : BytesAt w w.heap.size a len) :
    Calls Try.prog 65 #[.slice a len cap] w (DrawnPost w 9) := by
  go_enter Try.func65, Try.ntmps65
  go_wp2_with fail
  refine (l91Some_any a len cap w hl hcap hb).mono ?_
  rintro e w1 ⟨ad, cp, zs, rfl, h1, h2, h3, h4⟩
  go_wp2
  go_ret
  exact ⟨ad, cp, zs, rfl, h1, h2, h3, h4⟩

theorem DrawHalfChoice_any (a : Option Addr) (len cap : Nat) (w : World) (hl : len ≤ 1048576) (hcap : len ≤ cap) (hb : BytesAt w w.heap.size a len) :
    Calls Try.prog 72 #[.slice a len cap] w (DrawnPost w 9) := by
  go_enter Try.func72, Try.ntmps72
  go_wp2_with fail
  refine (l91Some_any a len cap w hl hcap hb).mono ?_
  rintro e w1 ⟨ad, cp, zs, rfl, h1, h2, h3, h4⟩
  go_wp2
  go_ret
  exact ⟨ad, cp, zs, rfl, h1, h2, h3, h4⟩

theorem DrawSumReach_any (a : Option Addr) (len cap : Nat) (w : World) (hl : len ≤ 1048576) (hcap : len ≤ cap) (hb : BytesAt w w.heap.size a len) :
    Calls Try.prog 75 #[.slice a len cap] w (DrawnPost w 9) := by
  go_enter Try.func75, Try.ntmps75
  go_wp2_with fail
  refine (l91Some_any a len cap w hl hcap hb).mono ?_
  rintro e w1 ⟨ad, cp, zs, rfl, h1, h2, h3, h4⟩
  go_wp2
  go_ret
  exact ⟨ad, cp, zs, rfl, h1, h2, h3, h4⟩

theorem DrawHalfBest_any (a : Option Addr) (len cap : Nat) (w : World) (hl : len ≤ 1048576) (hcap : len ≤ cap) (hb : BytesAt w w.heap.size a len) :
    Calls Try.prog 78 #[.slice a len cap] w (DrawnPost w 9) := by
  go_enter Try.func78, Try.ntmps78
  go_wp2_with fail
  refine (l91Some_any a len cap w hl hcap hb).mono ?_
  rintro e w1 ⟨ad, cp, zs, rfl, h1, h2, h3, h4⟩
  go_wp2
  go_ret
  exact ⟨ad, cp, zs, rfl, h1, h2, h3, h4⟩

theorem DrawHalfSigned_any (a : Option Addr) (len cap : Nat) (w : World) (hl : len ≤ 1048576) (hcap : len ≤ cap) (hb : BytesAt w w.heap.size a len) :
    Calls Try.prog 80 #[.slice a len cap] w (DrawnPost w 9) := by
  go_enter Try.func80, Try.ntmps80
  go_wp2_with fail
  refine (l91Some_any a len cap w hl hcap hb).mono ?_
  rintro e w1 ⟨ad, cp, zs, rfl, h1, h2, h3, h4⟩
  go_wp2
  go_ret
  exact ⟨ad, cp, zs, rfl, h1, h2, h3, h4⟩

end Go.Proofs.Ytbpkffpejmlonaa
