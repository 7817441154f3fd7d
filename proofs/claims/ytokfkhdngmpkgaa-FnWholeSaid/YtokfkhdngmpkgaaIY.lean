/- inOrder by falling numbers, and HalfGreedy of the program. Conditions: stated in each. -/
import Derived.Test.YtokfkhdngmpkgaaIQ
import Derived.Test.YtokfkhdngmpkgaaIH
import Derived.Test.YtokfkhdngmpkgaaMG
namespace Go.Proofs.Ytokfkhdngmpkgaa
open Go.RowKit

def NilPost (w : World) (e : Ending) (w' : World) : Prop := e = .returned (.tuple #[]) ∧ w = w'
theorem ins0 (a0 : Option Addr) (cp : Nat) (w : World) : Calls Try.prog 64 #[.slice a0 0 cp, .int .i64 0, .int .i64 0, .func (.func 36) #[] #[]] w (NilPost w) := by
  go_enter Try.func64, Try.ntmps64
  go_wp2
  go_loopw [8] (fun v wr => v = .int .i64 1 ∧ wr = w) (fun _ _ => 0)
  case atStart => exact ⟨rfl, rfl⟩
  case round =>
    obtain ⟨rfl, rfl⟩ := hrel
    go_wp2
    refine bodyPost_ret (v := .tuple #[]) (by simp [results, Try.f64, go_sem]) rfl ?_
    exact ⟨rfl, rfl⟩
theorem stable0 (a0 : Option Addr) (cp : Nat) (w : World) : Calls Try.prog 51 #[.slice a0 0 cp, .int .i64 0, .func (.func 36) #[] #[]] w (NilPost w) := by
  go_enter Try.func51, Try.ntmps51
  go_wp2
  go_loopw [7, 8] (fun u v wr => u = .int .i64 0 ∧ v = .int .i64 20 ∧ wr = w) (fun _ _ _ => 0)
  case atStart => exact ⟨rfl, rfl, rfl⟩
  case round =>
    obtain ⟨rfl, rfl, rfl⟩ := hrel
    go_wp2_with (go_at_call 64; refine (ins0 a0 cp _).mono ?_; rintro e w1 ⟨rfl, rfl⟩)
    go_loopw [6] (fun v wr' => v = .int .i64 20 ∧ wr' = wr) (fun _ _ => 0)
    case atStart => exact ⟨rfl, rfl⟩
    case round =>
      obtain ⟨rfl, rfl⟩ := hrel
      go_wp2
      refine bodyPost_ret (v := .tuple #[]) (by simp [results, Try.f51, go_sem]) rfl ?_
      exact ⟨rfl, rfl⟩
theorem sortStable0 (a0 : Option Addr) (cp : Nat) (w : World) : Calls Try.prog 46 #[.slice a0 0 cp, .func (.func 36) #[] #[]] w (NilPost w) := by
  go_enter Try.func46, Try.ntmps46
  go_wp2_with (go_at_call 51; refine (stable0 a0 cp _).mono ?_; rintro e w1 ⟨rfl, rfl⟩)
  refine bodyPost_ret (v := .tuple #[]) (by simp [results, Try.f46, go_sem]) rfl ?_
  exact ⟨rfl, rfl⟩

def OrdPost (w : World) (zs : List Int) (e : Ending) (w' : World) : Prop := ∃ v, e = .returned v ∧ OwnI w' w.heap.size v (sortD zs) ∧ Below w.heap.size w w'

set_option maxHeartbeats 800000 in
theorem inOrder_any (a : Option Addr) (cap : Nat) (zs : List Int) (w : World) (hl : zs.length ≤ 19) (hI : IntsAt w a zs) :
    Calls Try.prog 35 #[.slice a zs.length cap, .func (.func 36) #[] #[]] w (OrdPost w zs) := by
  go_enter Try.func35, Try.ntmps35
  go_wp2_with fail
  refine (Clone_all a cap zs w (by omega) hI).mono ?_
  rintro e w1 ⟨v1, rfl, hO1, hB1⟩
  rcases Nat.eq_zero_or_pos zs.length with h0 | h0
  · obtain ⟨a1, c1, rfl, _, _⟩ := hO1.shape
    obtain rfl := List.eq_nil_of_length_eq_zero h0
    clear h0
    go_wp2_with (go_at_call 46; refine (sortStable0 a1 c1 _).mono ?_; rintro e w2 ⟨rfl, rfl⟩)
    go_ret
    exact ⟨_, rfl, hO1, hB1⟩
  · obtain ⟨g, c1, rfl, hg, _, _⟩ := hO1.at h0
    have hS := sortStable_any g zs.length c1 w.heap.size zs w1 hl hg rfl hO1
    clear hO1
    go_wp2_with (go_at_call 46; refine hS.mono ?_; rintro e w2 ⟨rfl, L, h1, h2, h3, h4, h5⟩)
    go_ret
    have hL : L = sortD zs := by
      refine sortD_is (inOrd_pair ?_) h1.out
      rw [h3.out]; exact h2.out
    exact ⟨_, rfl, by rw [← hL]; exact h4, hB1.trans h5⟩

theorem gl_take (L : List Int) : ∀ (k : Nat), k < L.length → gl (L.take (k + 1)) 0 0 = (if (gl (L.take k) 0 0).1 ≤ (gl (L.take k) 0 0).2 then ((gl (L.take k) 0 0).1 + L[k]?.getD 0, (gl (L.take k) 0 0).2) else ((gl (L.take k) 0 0).1, (gl (L.take k) 0 0).2 + L[k]?.getD 0)) := by
  have key : ∀ (xs : List Int) (x f s : Int), gl (xs ++ [x]) f s = (if (gl xs f s).1 ≤ (gl xs f s).2 then ((gl xs f s).1 + x, (gl xs f s).2) else ((gl xs f s).1, (gl xs f s).2 + x)) := by
    intro xs
    induction xs with
    | nil => intro x f s; simp only [List.nil_append, gl]; first | rfl | (split <;> rfl)
    | cons y ys ih =>
      intro x f s
      rw [List.cons_append, gl, gl]
      split
      · exact ih _ _ _
      · exact ih _ _ _
  intro k hk
  rw [take_snoc L k hk, key]
theorem sizeOf_any (v : Int) (w : World) (hv : -1000000 ≤ v ∧ v ≤ 1000000) :
    Calls Try.prog 37 #[.int .i64 v] w fun e w' => e = .returned (.int .i64 (sz v)) ∧ w = w' := by
  go_enter Try.func37, Try.ntmps37
  go_wp2
  all_goals
    go_ret
    exact ⟨ret_int (by unfold sz; omega), rfl⟩
/-- the answer of HalfGreedy -/
def grR (zs : List Int) : Int := if inL zs = true then greedy (sortD zs) else 0
theorem gl_range {L : List Int} (hg : good L) (k : Nat) : 0 ≤ (gl (L.take k) 0 0).1 ∧ 0 ≤ (gl (L.take k) 0 0).2 ∧ (gl (L.take k) 0 0).1 + (gl (L.take k) 0 0).2 ≤ 60 * L.length := by
  obtain ⟨p, h1, h2, h3⟩ := gl_sub (L.take k) 0 0
  have h4 := subS_bd (good_take hg k) h1
  have h5 := tot_bd (good_take hg k)
  have h6 : (L.take k).length ≤ L.length := by rw [List.length_take]; omega
  rw [h2, h3]; omega

set_option maxHeartbeats 800000 in
theorem HalfGreedy_any (a : Option Addr) (cap : Nat) (zs : List Int) (w : World) (hl : zs.length ≤ 4294967296) (hI : IntsAt w a zs) :
    Calls Try.prog 18 #[.slice a zs.length cap] w (NumPost w (grR zs) (inL zs)) := by
  by_cases hz : inL zs = true
  case neg =>
    have hz' : inL zs = false := by simpa using hz
    rw [grR, if_neg hz, hz']
    have HZ := Lib.hid hz'
    clear hz hz'
    go_enter Try.func18, Try.ntmps18
    go_wp2_with (go_at_call 29; refine (SumIn_any a cap zs _ hl hI).mono ?_; rw [HZ.out]; rintro e w' ⟨rfl, rfl⟩)
    go_ret2
    exact ⟨rfl, Below.refl _ _⟩
  rw [grR, if_pos hz, hz]
  have hzl := (inL_iff zs).1 hz
  have HZ := Lib.hid hz
  have hgL : good (sortD zs) := perm_good (sortD_perm zs) hzl.2
  have hlen : (sortD zs).length ≤ 10 := by rw [sortD_length]; exact hzl.1
  have hO := inOrder_any a cap zs w (by omega) hI
  clear hz
  have HGr : Hid (greedy (sortD zs) = sz ((gl (sortD zs) 0 0).1 - (gl (sortD zs) 0 0).2)) := rfl
  unfold OrdPost at hO
  generalize sortD zs = L at *
  go_enter Try.func18, Try.ntmps18
  go_wp2_with (first | (go_at_call 29; refine (SumIn_any a cap zs _ hl hI).mono ?_; rw [HZ.out]; rintro e w' ⟨rfl, rfl⟩) | fail)
  refine hO.mono ?_
  rintro e w1 ⟨v1, rfl, hO1, hB1⟩
  obtain ⟨a1, c1, rfl, hI1, _⟩ := hO1.shape
  clear hO hO1
  go_wp2
  go_loop [4, 5, 14] (fun f s i => ∃ k : Nat, k ≤ L.length ∧ i = .int .i64 k ∧ f = .int .i64 (gl (L.take k) 0 0).1 ∧ s = .int .i64 (gl (L.take k) 0 0).2) (fun _ _ i => L.length - (intOf i).toNat)
  case atStart => exact ⟨0, Nat.zero_le _, rfl, rfl, rfl⟩
  case round =>
    obtain ⟨k, hk, rfl, rfl, rfl⟩ := hrel
    have hr := gl_range hgL k
    by_cases hlt : k < L.length
    · obtain ⟨b, off, rfl, hb, hcell⟩ := hI1.at (by omega)
      have hx := hcell k hlt
      have hgx := good_get hgL k hlt
      have HT := Lib.hid (gl_take L k hlt)
      generalize L[k]?.getD 0 = x at hx hgx HT
      generalize gl (L.take k) 0 0 = fs at *
      obtain ⟨f, s⟩ := fs
      simp only at hr HT ⊢
      clear hcell
      by_cases hfs : f ≤ s
      · have H1 : Hid (gl (L.take (k + 1)) 0 0 = (f + x, s)) := by show _ = _; rw [HT.out, if_pos hfs]
        go_wp2
        go_round
        case rel => exact ⟨k + 1, by omega, by go_num, by rw [H1.out], by rw [H1.out]⟩
        case measure => simp [intOf]; omega
      · have H1 : Hid (gl (L.take (k + 1)) 0 0 = (f, s + x)) := by show _ = _; rw [HT.out, if_neg hfs]
        go_wp2
        go_round
        case rel => exact ⟨k + 1, by omega, by go_num, by rw [H1.out], by rw [H1.out]⟩
        case measure => simp [intOf]; omega
    · obtain rfl : k = L.length := by omega
      rw [List.take_length] at hr ⊢
      generalize gl L 0 0 = fs at *
      obtain ⟨f, s⟩ := fs
      simp only at hr HGr ⊢
      go_wp2_with (go_at_call 37; refine (sizeOf_any (f - s) _ (by omega)).mono ?_; rintro e w' ⟨rfl, rfl⟩)
      go_ret2
      exact ⟨by rw [HGr.out]; rfl, hB1⟩
end Go.Proofs.Ytokfkhdngmpkgaa
