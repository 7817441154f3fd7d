/- slices.SortStableFunc by falling numbers, of at most 19 numbers: the outer functions. Conditions: stated in each. -/
import Derived.Test.YtmggcfilkiklbaaIO
namespace Go.Proofs.Ytmggcfilkiklbaa
open Go.RowKit

set_option maxRecDepth 100000 in
set_option maxHeartbeats 1600000 in
theorem stable_any (g n cp base : Nat) (zs : List Int) (w : World) (hn : n ≤ 19) (hb : base ≤ g) (hzl : zs.length = n) (hO : OwnI w base (.slice (some ⟨g, 0, none⟩) n cp) zs) :
    Calls Try.prog 43 #[.slice (some ⟨g, 0, none⟩) n cp, .int .i64 n, .func (.func 26) #[] #[]] w (SortPost w base g n cp zs (fun a b => b ≤ a)) := by
  have hI := insCmp_any g n cp base zs w (by omega) hb hzl hO
  clear hzl hO
  go_enter Try.func43, Try.ntmps43
  go_wp2
  go_loopw [7, 8] (fun u v wr => u = .int .i64 0 ∧ v = .int .i64 20 ∧ wr = w) (fun _ _ _ => 0)
  case atStart => exact ⟨rfl, rfl, rfl⟩
  case round =>
    obtain ⟨rfl, rfl, rfl⟩ := hrel
    go_wp2_with (go_at_call 45; refine hI.mono ?_; rintro e w1 ⟨rfl, L, h1, h2, h3, h4, h5⟩)
    go_loopw [6] (fun v wr => v = .int .i64 20 ∧ wr = w1) (fun _ _ => 0)
    case atStart => exact ⟨rfl, rfl⟩
    case round =>
      obtain ⟨rfl, rfl⟩ := hrel
      go_wp2
      refine bodyPost_ret (v := .tuple #[]) (by simp [results, Try.f43, go_sem]) rfl ?_
      exact ⟨rfl, L, h1, h2, h3, h4, h5⟩

theorem sortStable_any (g n cp base : Nat) (zs : List Int) (w : World) (hn : n ≤ 19) (hb : base ≤ g) (hzl : zs.length = n) (hO : OwnI w base (.slice (some ⟨g, 0, none⟩) n cp) zs) :
    Calls Try.prog 38 #[.slice (some ⟨g, 0, none⟩) n cp, .func (.func 26) #[] #[]] w (SortPost w base g n cp zs (fun a b => b ≤ a)) := by
  have hI := stable_any g n cp base zs w hn hb hzl hO
  clear hzl hO
  go_enter Try.func38, Try.ntmps38
  go_wp2_with (go_at_call 43; refine hI.mono ?_; rintro e w1 ⟨rfl, L, h1, h2, h3, h4, h5⟩)
  refine bodyPost_ret (v := .tuple #[]) (by simp [results, Try.f38, go_sem]) rfl ?_
  exact ⟨rfl, L, h1, h2, h3, h4, h5⟩
end Go.Proofs.Ytmggcfilkiklbaa
