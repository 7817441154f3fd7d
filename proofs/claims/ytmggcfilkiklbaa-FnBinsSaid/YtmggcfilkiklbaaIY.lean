/- inOrder by falling numbers, and HalfGreedy of the program. Conditions: stated in each. -/
import Derived.Test.YtmggcfilkiklbaaIQ
import Derived.Test.YtmggcfilkiklbaaIH
import Derived.Test.YtmggcfilkiklbaaMG
namespace Go.Proofs.Ytmggcfilkiklbaa
open Go.RowKit

def NilPost (w : World) (e : Ending) (w' : World) : Prop := e = .returned (.tuple #[]) ∧ w = w'
theorem ins0 (a0 : Option Addr) (cp : Nat) (w : World) : Calls Try.prog 45 #[.slice a0 0 cp, .int .i64 0, .int .i64 0, .func (.func 26) #[] #[]] w (NilPost w) := by
  go_enter Try.func45, Try.ntmps45
  go_wp2
  go_loopw [8] (fun v wr => v = .int .i64 1 ∧ wr = w) (fun _ _ => 0)
  case atStart => exact ⟨rfl, rfl⟩
  case round =>
    obtain ⟨rfl, rfl⟩ := hrel
    go_wp2
    refine bodyPost_ret (v := .tuple #[]) (by simp [results, Try.f45, go_sem]) rfl ?_
    exact ⟨rfl, rfl⟩
theorem stable0 (a0 : Option Addr) (cp : Nat) (w : World) : Calls Try.prog 43 #[.slice a0 0 cp, .int .i64 0, .func (.func 26) #[] #[]] w (NilPost w) := by
  go_enter Try.func43, Try.ntmps43
  go_wp2
  go_loopw [7, 8] (fun u v wr => u = .int .i64 0 ∧ v = .int .i64 20 ∧ wr = w) (fun _ _ _ => 0)
  case atStart => exact ⟨rfl, rfl, rfl⟩
  case round =>
    obtain ⟨rfl, rfl, rfl⟩ := hrel
    go_wp2_with (go_at_call 45; refine (ins0 a0 cp _).mono ?_; rintro e w1 ⟨rfl, rfl⟩)
    go_loopw [6] (fun v wr' => v = .int .i64 20 ∧ wr' = wr) (fun _ _ => 0)
    case atStart => exact ⟨rfl, rfl⟩
    case round =>
      obtain ⟨rfl, rfl⟩ := hrel
      go_wp2
      refine bodyPost_ret (v := .tuple #[]) (by simp [results, Try.f43, go_sem]) rfl ?_
      exact ⟨rfl, rfl⟩
theorem sortStable0 (a0 : Option Addr) (cp : Nat) (w : World) : Calls Try.prog 38 #[.slice a0 0 cp, .func (.func 26) #[] #[]] w (NilPost w) := by
  go_enter Try.func38, Try.ntmps38
  go_wp2_with (go_at_call 43; refine (stable0 a0 cp _).mono ?_; rintro e w1 ⟨rfl, rfl⟩)
  refine bodyPost_ret (v := .tuple #[]) (by simp [results, Try.f38, go_sem]) rfl ?_
  exact ⟨rfl, rfl⟩

def OrdPost (w : World) (zs : List Int) (e : Ending) (w' : World) : Prop := ∃ v, e = .returned v ∧ OwnI w' w.heap.size v (sortD zs) ∧ Below w.heap.size w w'

set_option maxHeartbeats 800000 in
theorem inOrder_any (a : Option Addr) (cap : Nat) (zs : List Int) (w : World) (hl : zs.length ≤ 19) (hI : IntsAt w a zs) :
    Calls Try.prog 25 #[.slice a zs.length cap, .func (.func 26) #[] #[]] w (OrdPost w zs) := by
  go_enter Try.func25, Try.ntmps25
  go_wp2_with fail
  refine (Clone_all a cap zs w (by omega) hI).mono ?_
  rintro e w1 ⟨v1, rfl, hO1, hB1⟩
  rcases Nat.eq_zero_or_pos zs.length with h0 | h0
  · obtain ⟨a1, c1, rfl, _, _⟩ := hO1.shape
    obtain rfl := List.eq_nil_of_length_eq_zero h0
    clear h0
    go_wp2_with (go_at_call 38; refine (sortStable0 a1 c1 _).mono ?_; rintro e w2 ⟨rfl, rfl⟩)
    go_ret
    exact ⟨_, rfl, hO1, hB1⟩
  · obtain ⟨g, c1, rfl, hg, _, _⟩ := hO1.at h0
    have hS := sortStable_any g zs.length c1 w.heap.size zs w1 hl hg rfl hO1
    clear hO1
    go_wp2_with (go_at_call 38; refine hS.mono ?_; rintro e w2 ⟨rfl, L, h1, h2, h3, h4, h5⟩)
    go_ret
    have hL : L = sortD zs := by
      refine sortD_is (inOrd_pair ?_) h1.out
      rw [h3.out]; exact h2.out
    exact ⟨_, rfl, by rw [← hL]; exact h4, hB1.trans h5⟩

theorem gl_take (L : List Int) : ∀ (k : Nat), k < L.length → gl (L.take (k + 1)) 0 0 = (if (gl (L.take k) 0 0).1 ≤ (gl (L.take k) 0 0).2 then ((gl (L.take k) 0 0).1 + L[k]?.getD 0, (gl (L.take k) 0 0).2) else ((gl (L.take k) 0 0).1, (gl (L.take k) 0 0).2 + L[k]?.getD 0)) := by
  have key : ∀ (xs : List Int) (x f s : Int), gl (xs ++ [x]) f s = (if (gl xs f s).1 ≤ (gl xs f s).2 then ((gl xs f s).1 + x, (gl xs f s).2) else ((gl xs f s).1, (gl xs f s).2 + x)) := by
    intro xs
    induction xs with
    | nil => intro x f s; simp only [List.nil_append, gl]; first | rfl | (split <;> rfl)
    | cons y ys ih =>
      intro x f s
      rw [List.cons_append, gl, gl]
      split
      · exact ih _ _ _
      · exact ih _ _ _
  intro k hk
  rw [take_snoc L k hk, key]
/-- the answer of HalfGreedy -/
def grR (zs : List Int) : Int := if inL zs = true then greedy (sortD zs) else 0
theorem gl_range {L : List Int} (hg : good L) (k : Nat) : 0 ≤ (gl (L.take k) 0 0).1 ∧ 0 ≤ (gl (L.take k) 0 0).2 ∧ (gl (L.take k) 0 0).1 + (gl (L.take k) 0 0).2 ≤ 60 * L.length := by
  obtain ⟨p, h1, h2, h3⟩ := gl_sub (L.take k) 0 0
  have h4 := subS_bd (good_take hg k) h1
  have h5 := tot_bd (good_take hg k)
  have h6 : (L.take k).length ≤ L.length := by rw [List.length_take]; omega
  rw [h2, h3]; omega

end Go.Proofs.Ytmggcfilkiklbaa
