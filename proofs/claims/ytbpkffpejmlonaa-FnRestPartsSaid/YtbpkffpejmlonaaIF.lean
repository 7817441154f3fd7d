/- RestFind of the program. Conditions: the list is short enough to be counted. -/
import Derived.Test.YtbpkffpejmlonaaRF
import Derived.Test.YtbpkffpejmlonaaW3
namespace Go.Proofs.Ytbpkffpejmlonaa
open Go.RowKit Go.Shelf
attribute [local go_sem] Oper.semAt_some

set_option maxRecDepth 100000 in
set_option maxHeartbeats 2000000 in
theorem RestFind_in (n : Nat) (hn : 1 ≤ n) (a : Option Addr) (cap : Nat) (zs : List Int) (q : Int) (hz : restOk zs q = true) (w : World) (hI : IntsAt w a zs) :
    CallsIn Fence.wide n Try.prog 38 #[.slice a zs.length cap, .int .i64 q] w (FoundPost w (findP zs q) (2 ^ zs.length)) := by
  have hq := ((restOk_iff zs q).1 hz).2
  have hz' := (inL_iff zs).1 ((restOk_iff zs q).1 hz).1
  have HZ := Lib.hid hz
  clear hz
  refine callsIn_of_wp_marks Try.func38 rfl trivial ?_ rfl
  simp only [Try.ntmps38, List.size_toArray, List.length_cons, List.length_nil, Nat.reduceAdd, Nat.reduceSub, Array.replicate_succ, Array.replicate_zero, List.push_toArray, List.append_toArray, List.nil_append, List.cons_append]
  have hw3 : ∀ o1 o2 o3, IntsAt (((w.alloc o1).alloc o2).alloc o3) a zs := fun o1 o2 o3 => hI.below ((((Below.refl _ w).alloc (Nat.le_refl _) _).alloc (by simp) _).alloc (by simp; omega) _)
  gi_wp2_with (first | (refine ⟨trivial, ?_⟩; gi_at_call 103; refine (callsIn_wide.2 (restsTold_any a cap zs q _ (by omega) (hw3 _ _ _))).mono ?_; rw [HZ.out]; rintro e w' ⟨rfl, rfl⟩) | (refine ⟨trivial, ?_⟩; gi_at_call 100; refine (choiceSums_in _ _ _ _ _).mono ?_; rintro e w' ⟨rfl, rfl⟩))
  have b1 := Boxed.new w 3 (.int .i64 q)
  have b2 := Boxed.new (w.alloc (.cells #[.int .i64 q] 3)) 3 (.int .i64 0)
  have b3 := Boxed.new ((w.alloc (.cells #[.int .i64 q] 3)).alloc (.cells #[.int .i64 0] 3)) 4 (.bool false)
  have b4 := Boxed.new (((w.alloc (.cells #[.int .i64 q] 3)).alloc (.cells #[.int .i64 0] 3)).alloc (.cells #[.bool false] 4)) 23 (.slice a zs.length cap)
  have hB0 : Below w.heap.size w ((((w.alloc (.cells #[.int .i64 q] 3)).alloc (.cells #[.int .i64 0] 3)).alloc (.cells #[.bool false] 4)).alloc (.cells #[.slice a zs.length cap] 23)) :=
    ((((Below.refl _ w).alloc (Nat.le_refl _) _).alloc (by simp) _).alloc (by simp; omega) _).alloc (by simp; omega) _
  simp only [World.size_alloc] at b2 b3 b4
  have hbx : BoxL ((((w.alloc (.cells #[.int .i64 q] 3)).alloc (.cells #[.int .i64 0] 3)).alloc (.cells #[.bool false] 4)).alloc (.cells #[.slice a zs.length cap] 23)) [(w.heap.size, 3, .int .i64 q), (w.heap.size + 1, 3, .int .i64 0), (w.heap.size + 1 + 1, 4, .bool false)] :=
    ⟨((b1.alloc _).alloc _).alloc _, (b2.alloc _).alloc _, b3.alloc _, trivial⟩
  have hIW : ∀ W', Below w.heap.size ((((w.alloc (.cells #[.int .i64 q] 3)).alloc (.cells #[.int .i64 0] 3)).alloc (.cells #[.bool false] 4)).alloc (.cells #[.slice a zs.length cap] 23)) W' → IntsAt W' a zs := fun W' h => hI.below (hB0.trans h)
  have hsz : ((((w.alloc (.cells #[.int .i64 q] 3)).alloc (.cells #[.int .i64 0] 3)).alloc (.cells #[.bool false] 4)).alloc (.cells #[.slice a zs.length cap] 23)).heap.size = w.heap.size + 1 + 1 + 1 + 1 := by simp
  clear b1 b2 b3 hw3
  generalize ((((w.alloc (.cells #[.int .i64 q] 3)).alloc (.cells #[.int .i64 0] 3)).alloc (.cells #[.bool false] 4)).alloc (.cells #[.slice a zs.length cap] 23)) = W0 at *
  refine wpIn_rangeFunc_ownG rfl hn (gf := 125) (lb := #[.pointer (some ⟨w.heap.size + 1 + 1 + 1, 0, none⟩)]) rfl trivial (enters_of Try.func125 (by kernel_rfl) rfl)
    (cs_stops (n - 1) (w.heap.size + 1 + 1 + 1) w.heap.size a cap zs (by omega) hz'.2 W0 (by omega) (by omega) b4.cell hIW) KpC.trans (KpC.put (by omega) (by omega)) (Below.refl _ _) (fun _ => rfl)
    (SrchI [(w.heap.size, 3, .int .i64 q), (w.heap.size + 1, 3, .int .i64 0), (w.heap.size + 1 + 1, 4, .bool false)] (findP zs q) w.heap.size w)
    (SrchX (w.heap.size + 1) (w.heap.size + 1 + 1) (findP zs q) w.heap.size w)
    (srchI_own (Nat.le_refl _) (by omega)) (srchX_own (Nat.le_refl _) (by omega)) ⟨⟨NoneYet.nil _, hbx⟩, hB0⟩ ?a1 ?assign ?body ?done ?stop
  case assign =>
    intro l x W K hK
    gi_wp2
    exact hK
  case body =>
    rintro l pre ⟨c, hcN⟩ W ⟨⟨hp, hb1, hb2, hb3, _⟩, hB⟩ _
    have c1 := hb1.cell
    have c2 := hb2.cell
    have c3 := hb3.cell
    have f2 := hb2.frozen
    have f3 := hb3.frozen
    have hs := csum_bd hz'.2 c
    have HP : Hid (∀ b, (((c : Int) != 0) && csum zs c % q == 0) = b → findP zs q c = b) := fun b h => by rw [findP, HZ.out]; exact h
    have HN := Lib.hid hcN
    dsimp only
    by_cases hc0 : (c : Int) = 0
    · have hpc : findP zs q c = false := HP.out _ (by simp [hc0])
      have HF := Lib.hid hpc
      have hd : ((c : Int) != 0) = false := by simp [hc0]
      clear hc0 hpc
      gi_wp2
      exact ⟨KeepsFrom.refl _ _, KpC.refl _ _ _, ⟨hp.snoc HF.out, hb1, hb2, hb3, trivial⟩, hB⟩
    · have hd : ((c : Int) != 0) = true := by simpa using hc0
      clear hc0
      by_cases hm : csum zs c % q = 0
      · have hpc : findP zs q c = true := HP.out _ (by rw [hd]; simp [hm])
        have HF := Lib.hid hpc
        have hd2 : (csum zs c % q == 0) = true := by simpa using hm
        clear hm hpc
        gi_wp2
        exact ⟨((KeepsOthers.setCell _ _ _).from _).trans ((KeepsOthers.setCell _ _ _).from _), ⟨rfl, ⟨c, hcN⟩, ⟨pre, rfl, hp, HF.out⟩, (hb2.set _).other (by omega) _, (hb3.other (by omega) _).set _, trivial⟩, (hB.setCell (p := ⟨_, 0, none⟩) (by simp) _).setCell (p := ⟨_, 0, none⟩) (by simp; omega) _⟩
      · have hpc : findP zs q c = false := HP.out _ (by rw [hd]; simp [hm])
        have HF := Lib.hid hpc
        have hd2 : (csum zs c % q == 0) = false := by simpa using hm
        clear hm hpc
        gi_wp2
        exact ⟨KeepsFrom.refl _ _, KpC.refl _ _ _, ⟨hp.snoc HF.out, hb1, hb2, hb3, trivial⟩, hB⟩
  case done =>
    rintro D ys W hD rfl ⟨⟨hp, hb1, hb2, hb3, _⟩, hB⟩ hK
    have c2 := hb2.cell
    have c3 := hb3.cell
    have f2 := hb2.frozen
    have f3 := hb3.frozen
    gi_wp2
    refine endCells 4 5 rfl rfl rfl ((hb2.set _).other (by omega) _) ((hb3.other (by omega) _).set _) ((KeepsOthers.setCell _ _ _).same D _ ((KeepsOthers.setCell _ _ _).same D _ hK rfl) rfl) ?_
    exact ⟨0, false, rfl, firstIs_none hp, below_put ((hB.setCell (p := ⟨_, 0, none⟩) (by simp) _).setCell (p := ⟨_, 0, none⟩) (by simp; omega) _) (by omega) ((KeepsOthers.setCell _ _ _).same D _ ((KeepsOthers.setCell _ _ _).same D _ hK rfl) rfl)⟩
  case stop =>
    rintro D c pre W hD ⟨k, hk, rfl⟩ ⟨⟨rfl, last, hh, hb2, hb3, _⟩, hB⟩ hK
    gi_wp2
    refine endCells 4 5 rfl rfl rfl hb2 hb3 hK ?_
    exact ⟨_, true, rfl, firstIs_hit hk hh, below_put hB (by omega) hK⟩

theorem RestFind_any (a : Option Addr) (cap : Nat) (zs : List Int) (q : Int) (w : World) (hl : zs.length ≤ 4294967296) (hI : IntsAt w a zs) :
    Calls Try.prog 38 #[.slice a zs.length cap, .int .i64 q] w (FoundPost w (findP zs q) (2 ^ zs.length)) := by
  by_cases hz : restOk zs q = true
  case pos => exact (callsIn_wide (n := 10)).1 (RestFind_in 10 (by omega) a cap zs q hz w hI)
  have hz' : restOk zs q = false := by simpa using hz
  have HZ := Lib.hid hz'
  clear hz hz'
  have hB0 : ∀ o1 o2 o3, Below w.heap.size w (((w.alloc o1).alloc o2).alloc o3) := fun o1 o2 o3 => (((Below.refl _ w).alloc (Nat.le_refl _) _).alloc (by simp) _).alloc (by simp; omega) _
  go_enter Try.func38, Try.ntmps38
  go_wp2_with (go_at_call 103; refine (restsTold_any a cap zs q _ hl (hI.below (hB0 _ _ _))).mono ?_; rw [HZ.out]; rintro e w' ⟨rfl, rfl⟩)
  refine bodyPost_ret (v := .tuple #[.int .i64 0, .bool false]) (by simp [results, Try.f38, go_sem]) rfl ⟨0, false, rfl, find_no HZ.out _, hB0 _ _ _⟩
end Go.Proofs.Ytbpkffpejmlonaa
