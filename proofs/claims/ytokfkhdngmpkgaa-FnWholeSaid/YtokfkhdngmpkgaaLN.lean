/- math/bits.Len of numbers up to 12, and slices.Sort of at most 12 ints. Conditions: stated in each. -/
import Derived.Test.YtokfkhdngmpkgaaIZ
namespace Go.Proofs.Ytokfkhdngmpkgaa
open Go.RowKit

def SomeInt (w : World) (e : Ending) (w' : World) : Prop := (∃ r : Int, e = .returned (.int .i64 r)) ∧ w = w'
set_option maxRecDepth 100000 in
set_option maxHeartbeats 3200000 in
theorem len64_any (x : Nat) (hx : x ≤ 12) (w : World) : Calls Try.prog 63 #[.int .u64 x] w (SomeInt w) := by
  have hc : x = 0 ∨ x = 1 ∨ x = 2 ∨ x = 3 ∨ x = 4 ∨ x = 5 ∨ x = 6 ∨ x = 7 ∨ x = 8 ∨ x = 9 ∨ x = 10 ∨ x = 11 ∨ x = 12 := by omega
  clear hx
  rcases hc with rfl | rfl | rfl | rfl | rfl | rfl | rfl | rfl | rfl | rfl | rfl | rfl | rfl
  all_goals
    go_enter Try.func63, Try.ntmps63
    go_wp2
    go_ret
    exact ⟨⟨_, rfl⟩, rfl⟩

theorem len_any (x : Nat) (hx : x ≤ 12) (w : World) : Calls Try.prog 50 #[.int .u64 x] w (SomeInt w) := by
  go_enter Try.func50, Try.ntmps50
  go_wp2_with (go_at_call 63; refine (len64_any x hx _).mono ?_; rintro e w' ⟨⟨r, rfl⟩, rfl⟩)
  go_ret
  exact ⟨⟨_, rfl⟩, rfl⟩

set_option maxRecDepth 100000 in
theorem sort_any (g n cp base : Nat) (zs : List Int) (w : World) (hn : n ≤ 12) (hb : base ≤ g) (hzl : zs.length = n) (hO : OwnI w base (.slice (some ⟨g, 0, none⟩) n cp) zs) :
    Calls Try.prog 44 #[.slice (some ⟨g, 0, none⟩) n cp] w (SortPost w base g n cp zs (fun a b => a ≤ b)) := by
  have hI : ∀ lim : Int, Calls Try.prog 49 #[.slice (some ⟨g, 0, none⟩) n cp, .int .i64 0, .int .i64 n, .int .i64 lim] w (SortPost w base g n cp zs (fun a b => a ≤ b)) := fun lim => pdq_any g n cp base lim zs w hn hb hzl hO
  clear hzl hO
  go_enter Try.func44, Try.ntmps44
  go_wp2_with (first | (go_at_call 50; refine (len_any n hn _).mono ?_; rintro e w' ⟨⟨r, rfl⟩, rfl⟩) | (go_at_call 49; refine (hI _).mono ?_; rintro e w1 ⟨rfl, L, h1, h2, h3, h4, h5⟩))
  refine bodyPost_ret (v := .tuple #[]) (by simp [results, Try.f44, go_sem]) rfl ?_
  exact ⟨rfl, L, h1, h2, h3, h4, h5⟩
end Go.Proofs.Ytokfkhdngmpkgaa
