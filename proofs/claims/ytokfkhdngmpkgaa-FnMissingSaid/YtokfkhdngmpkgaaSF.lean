/- SumFirst of the program. -/
import Derived.Test.YtokfkhdngmpkgaaRF
namespace Go.Proofs.Ytokfkhdngmpkgaa
open Go.RowKit Go.Shelf
attribute [local go_sem] Oper.semAt_some

set_option maxRecDepth 100000 in
set_option maxHeartbeats 2000000 in
theorem SumFirst_in (n : Nat) (hn : 1 ≤ n) (a : Option Addr) (cap : Nat) (zs : List Int) (v : Int) (hv : 0 ≤ v) (hz : inL zs = true) (w : World) (hI : IntsAt w a zs) :
    CallsIn Fence.wide n Try.prog 10 #[.slice a zs.length cap, .int .i64 v] w (FoundPost w (fun c => csum zs c == v) (2 ^ zs.length)) := by
  have hz' := (inL_iff zs).1 hz
  have HZ := Lib.hid hz
  clear hz
  refine callsIn_of_wp_marks Try.func10 rfl trivial ?_ rfl
  simp only [Try.ntmps10, List.size_toArray, List.length_cons, List.length_nil, Nat.reduceAdd, Nat.reduceSub, Array.replicate_succ, Array.replicate_zero, List.push_toArray, List.append_toArray, List.nil_append, List.cons_append]
  have hw3 : ∀ o1 o2 o3, IntsAt (((w.alloc o1).alloc o2).alloc o3) a zs := fun o1 o2 o3 => hI.below ((((Below.refl _ w).alloc (Nat.le_refl _) _).alloc (by simp) _).alloc (by simp; omega) _)
  gi_wp2_with (first | (refine ⟨trivial, ?_⟩; gi_at_call 29; refine (callsIn_wide.2 (SumIn_any a cap zs _ (by omega) (hw3 _ _ _))).mono ?_; rw [HZ.out]; rintro e w' ⟨rfl, rfl⟩) | (refine ⟨trivial, ?_⟩; gi_at_call 30; refine (choiceSums_in _ _ _ _ _).mono ?_; rintro e w' ⟨rfl, rfl⟩))
  have b1 := Boxed.new w 3 (.int .i64 v)
  have b2 := Boxed.new (w.alloc (.cells #[.int .i64 v] 3)) 3 (.int .i64 0)
  have b3 := Boxed.new ((w.alloc (.cells #[.int .i64 v] 3)).alloc (.cells #[.int .i64 0] 3)) 4 (.bool false)
  have b4 := Boxed.new (((w.alloc (.cells #[.int .i64 v] 3)).alloc (.cells #[.int .i64 0] 3)).alloc (.cells #[.bool false] 4)) 23 (.slice a zs.length cap)
  have hB0 : Below w.heap.size w ((((w.alloc (.cells #[.int .i64 v] 3)).alloc (.cells #[.int .i64 0] 3)).alloc (.cells #[.bool false] 4)).alloc (.cells #[.slice a zs.length cap] 23)) :=
    ((((Below.refl _ w).alloc (Nat.le_refl _) _).alloc (by simp) _).alloc (by simp; omega) _).alloc (by simp; omega) _
  simp only [World.size_alloc] at b2 b3 b4
  have hbx : BoxL ((((w.alloc (.cells #[.int .i64 v] 3)).alloc (.cells #[.int .i64 0] 3)).alloc (.cells #[.bool false] 4)).alloc (.cells #[.slice a zs.length cap] 23)) [(w.heap.size, 3, .int .i64 v), (w.heap.size + 1, 3, .int .i64 0), (w.heap.size + 1 + 1, 4, .bool false)] :=
    ⟨((b1.alloc _).alloc _).alloc _, (b2.alloc _).alloc _, b3.alloc _, trivial⟩
  have hIW : ∀ W', Below w.heap.size ((((w.alloc (.cells #[.int .i64 v] 3)).alloc (.cells #[.int .i64 0] 3)).alloc (.cells #[.bool false] 4)).alloc (.cells #[.slice a zs.length cap] 23)) W' → IntsAt W' a zs := fun W' h => hI.below (hB0.trans h)
  have hsz : ((((w.alloc (.cells #[.int .i64 v] 3)).alloc (.cells #[.int .i64 0] 3)).alloc (.cells #[.bool false] 4)).alloc (.cells #[.slice a zs.length cap] 23)).heap.size = w.heap.size + 1 + 1 + 1 + 1 := by simp
  clear b1 b2 b3 hw3
  generalize ((((w.alloc (.cells #[.int .i64 v] 3)).alloc (.cells #[.int .i64 0] 3)).alloc (.cells #[.bool false] 4)).alloc (.cells #[.slice a zs.length cap] 23)) = W0 at *
  refine wpIn_rangeFunc_ownG rfl hn (gf := 41) (lb := #[.pointer (some ⟨w.heap.size + 1 + 1 + 1, 0, none⟩)]) rfl trivial (enters_of Try.func41 (by kernel_rfl) rfl)
    (cs_stops (n - 1) (w.heap.size + 1 + 1 + 1) w.heap.size a cap zs (by omega) hz'.2 W0 (by omega) (by omega) b4.cell hIW) KpC.trans (KpC.put (by omega) (by omega)) (Below.refl _ _) (fun _ => rfl)
    (SrchI [(w.heap.size, 3, .int .i64 v), (w.heap.size + 1, 3, .int .i64 0), (w.heap.size + 1 + 1, 4, .bool false)] (fun c => csum zs c == v) w.heap.size w)
    (SrchX (w.heap.size + 1) (w.heap.size + 1 + 1) (fun c => csum zs c == v) w.heap.size w)
    (srchI_own (Nat.le_refl _) (by omega)) (srchX_own (Nat.le_refl _) (by omega)) ⟨⟨NoneYet.nil _, hbx⟩, hB0⟩ ?a1 ?assign ?body ?done ?stop
  case assign =>
    intro l x W K hK
    gi_wp2
    exact hK
  case body =>
    rintro l pre x W ⟨⟨hp, hb1, hb2, hb3, _⟩, hB⟩ _
    have c1 := hb1.cell
    have c2 := hb2.cell
    have c3 := hb3.cell
    have f2 := hb2.frozen
    have f3 := hb3.frozen
    gi_wp2
    · have hx : (csum zs x.val == v) = true := by assumption
      exact ⟨((KeepsOthers.setCell _ _ _).from _).trans ((KeepsOthers.setCell _ _ _).from _), ⟨rfl, x, ⟨pre, rfl, hp, hx⟩, (hb2.set _).other (by omega) _, (hb3.other (by omega) _).set _, trivial⟩, (hB.setCell (p := ⟨_, 0, none⟩) (by simp) _).setCell (p := ⟨_, 0, none⟩) (by simp; omega) _⟩
    · have hx : (csum zs x.val == v) = false := by assumption
      exact ⟨KeepsFrom.refl _ _, KpC.refl _ _ _, ⟨hp.snoc hx, hb1, hb2, hb3, trivial⟩, hB⟩
  case done =>
    rintro D ys W hD rfl ⟨⟨hp, hb1, hb2, hb3, _⟩, hB⟩ hK
    have c2 := hb2.cell
    have c3 := hb3.cell
    have f2 := hb2.frozen
    have f3 := hb3.frozen
    gi_wp2
    refine endCells 4 5 rfl rfl rfl ((hb2.set _).other (by omega) _) ((hb3.other (by omega) _).set _) ((KeepsOthers.setCell _ _ _).same D _ ((KeepsOthers.setCell _ _ _).same D _ hK rfl) rfl) ?_
    exact ⟨0, false, rfl, firstIs_none hp, below_put ((hB.setCell (p := ⟨_, 0, none⟩) (by simp) _).setCell (p := ⟨_, 0, none⟩) (by simp; omega) _) (by omega) ((KeepsOthers.setCell _ _ _).same D _ ((KeepsOthers.setCell _ _ _).same D _ hK rfl) rfl)⟩
  case stop =>
    rintro D c pre W hD ⟨k, hk, rfl⟩ ⟨⟨rfl, last, hh, hb2, hb3, _⟩, hB⟩ hK
    gi_wp2
    refine endCells 4 5 rfl rfl rfl hb2 hb3 hK ?_
    exact ⟨_, true, rfl, firstIs_hit hk hh, below_put hB (by omega) hK⟩

theorem SumFirst_any (a : Option Addr) (cap : Nat) (zs : List Int) (v : Int) (hv : 0 ≤ v) (hz : inL zs = true) (w : World) (hI : IntsAt w a zs) :
    Calls Try.prog 10 #[.slice a zs.length cap, .int .i64 v] w (FoundPost w (fun c => csum zs c == v) (2 ^ zs.length)) :=
  (callsIn_wide (n := 10)).1 (SumFirst_in 10 (by omega) a cap zs v hv hz w hI)
end Go.Proofs.Ytokfkhdngmpkgaa
