/- RestJust of the program. Conditions: the list is short enough to be counted. -/
import Derived.Sort.QuietIn
import Derived.Test.YtbpkffpejmlonaaRF
import Derived.Test.YtbpkffpejmlonaaW6
import Derived.Test.YtbpkffpejmlonaaW3
namespace Go.Proofs.Ytbpkffpejmlonaa
open Go.RowKit Go.Shelf
attribute [local go_sem] Oper.semAt_some

set_option maxRecDepth 100000 in
set_option maxHeartbeats 2000000 in
theorem RestJust_in (n : Nat) (hn : 4 ≤ n) (a : Option Addr) (cap : Nat) (zs : List Int) (q k : Int) (hz : restOk zs q = true) (w : World) (hI : IntsAt w a zs) :
    CallsIn Fence.wide n Try.prog 63 #[.slice a zs.length cap, .int .i64 q, .int .i64 k] w (FoundPost w (justP zs q k) (2 ^ zs.length)) := by
  have hq := ((restOk_iff zs q).1 hz).2
  have hz' := (inL_iff zs).1 ((restOk_iff zs q).1 hz).1
  have HZ := Lib.hid hz
  clear hz
  have hn1 : 1 ≤ n := by omega
  refine callsIn_of_wp_marks Try.func63 rfl trivial ?_ rfl
  simp only [Try.ntmps63, List.size_toArray, List.length_cons, List.length_nil, Nat.reduceAdd, Nat.reduceSub, Array.replicate_succ, Array.replicate_zero, List.push_toArray, List.append_toArray, List.nil_append, List.cons_append]
  have hw3 : ∀ o1 o2 o3 o4, IntsAt ((((w.alloc o1).alloc o2).alloc o3).alloc o4) a zs := fun o1 o2 o3 o4 => hI.below (((((Below.refl _ w).alloc (Nat.le_refl _) _).alloc (by simp) _).alloc (by simp; omega) _).alloc (by simp; omega) _)
  gi_wp2_with (first | (refine ⟨trivial, ?_⟩; gi_at_call 103; refine (callsIn_wide.2 (restsTold_any a cap zs q _ (by omega) (hw3 _ _ _ _))).mono ?_; rw [HZ.out]; rintro e w' ⟨rfl, rfl⟩) | (refine ⟨trivial, ?_⟩; gi_at_call 100; refine (choiceSums_in _ _ _ _ _).mono ?_; rintro e w' ⟨rfl, rfl⟩))
  have b1 := Boxed.new w 3 (.int .i64 q)
  have b1' := Boxed.new (w.alloc (.cells #[.int .i64 q] 3)) 3 (.int .i64 k)
  have b2 := Boxed.new ((w.alloc (.cells #[.int .i64 q] 3)).alloc (.cells #[.int .i64 k] 3)) 3 (.int .i64 0)
  have b3 := Boxed.new (((w.alloc (.cells #[.int .i64 q] 3)).alloc (.cells #[.int .i64 k] 3)).alloc (.cells #[.int .i64 0] 3)) 4 (.bool false)
  have b4 := Boxed.new ((((w.alloc (.cells #[.int .i64 q] 3)).alloc (.cells #[.int .i64 k] 3)).alloc (.cells #[.int .i64 0] 3)).alloc (.cells #[.bool false] 4)) 23 (.slice a zs.length cap)
  have hB0 : Below w.heap.size w (((((w.alloc (.cells #[.int .i64 q] 3)).alloc (.cells #[.int .i64 k] 3)).alloc (.cells #[.int .i64 0] 3)).alloc (.cells #[.bool false] 4)).alloc (.cells #[.slice a zs.length cap] 23)) :=
    (((((Below.refl _ w).alloc (Nat.le_refl _) _).alloc (by simp) _).alloc (by simp; omega) _).alloc (by simp; omega) _).alloc (by simp; omega) _
  simp only [World.size_alloc] at b1' b2 b3 b4
  have hbx : BoxL (((((w.alloc (.cells #[.int .i64 q] 3)).alloc (.cells #[.int .i64 k] 3)).alloc (.cells #[.int .i64 0] 3)).alloc (.cells #[.bool false] 4)).alloc (.cells #[.slice a zs.length cap] 23)) [(w.heap.size, 3, .int .i64 q), (w.heap.size + 1, 3, .int .i64 k), (w.heap.size + 1 + 1, 3, .int .i64 0), (w.heap.size + 1 + 1 + 1, 4, .bool false)] :=
    ⟨(((b1.alloc _).alloc _).alloc _).alloc _, ((b1'.alloc _).alloc _).alloc _, (b2.alloc _).alloc _, b3.alloc _, trivial⟩
  have hIW : ∀ W', Below w.heap.size (((((w.alloc (.cells #[.int .i64 q] 3)).alloc (.cells #[.int .i64 k] 3)).alloc (.cells #[.int .i64 0] 3)).alloc (.cells #[.bool false] 4)).alloc (.cells #[.slice a zs.length cap] 23)) W' → IntsAt W' a zs := fun W' h => hI.below (hB0.trans h)
  have hsz : (((((w.alloc (.cells #[.int .i64 q] 3)).alloc (.cells #[.int .i64 k] 3)).alloc (.cells #[.int .i64 0] 3)).alloc (.cells #[.bool false] 4)).alloc (.cells #[.slice a zs.length cap] 23)).heap.size = w.heap.size + 1 + 1 + 1 + 1 + 1 := by simp
  clear b1 b1' b2 b3 hw3
  generalize (((((w.alloc (.cells #[.int .i64 q] 3)).alloc (.cells #[.int .i64 k] 3)).alloc (.cells #[.int .i64 0] 3)).alloc (.cells #[.bool false] 4)).alloc (.cells #[.slice a zs.length cap] 23)) = W0 at *
  refine wpIn_rangeFunc_ownG rfl hn1 (gf := 125) (lb := #[.pointer (some ⟨w.heap.size + 1 + 1 + 1 + 1, 0, none⟩)]) rfl trivial (enters_of Try.func125 (by kernel_rfl) rfl)
    (cs_stops (n - 1) (w.heap.size + 1 + 1 + 1 + 1) w.heap.size a cap zs (by omega) hz'.2 W0 (by omega) (by omega) b4.cell hIW) KpC.trans (KpC.put (by omega) (by omega)) (Below.refl _ _) (fun _ => rfl)
    (SrchI [(w.heap.size, 3, .int .i64 q), (w.heap.size + 1, 3, .int .i64 k), (w.heap.size + 1 + 1, 3, .int .i64 0), (w.heap.size + 1 + 1 + 1, 4, .bool false)] (justP zs q k) w.heap.size w)
    (SrchX (w.heap.size + 1 + 1) (w.heap.size + 1 + 1 + 1) (justP zs q k) w.heap.size w)
    (srchI_own (Nat.le_refl _) (by omega)) (srchX_own (Nat.le_refl _) (by omega)) ⟨⟨NoneYet.nil _, hbx⟩, hB0⟩ ?a1 ?assign ?body ?done ?stop
  case assign =>
    intro l x W K hK
    gi_wp2
    exact hK
  case body =>
    rintro l pre ⟨c, hcN⟩ W ⟨⟨hp, hb1, hbk, hb2, hb3, _⟩, hB⟩ _
    have c1 := hb1.cell
    have ck := hbk.cell
    have c2 := hb2.cell
    have c3 := hb3.cell
    have f2 := hb2.frozen
    have f3 := hb3.frozen
    have hs := csum_bd hz'.2 c
    have hc1024 : c < 1024 := Nat.lt_of_lt_of_le hcN (Nat.pow_le_pow_right (by omega) hz'.1 : 2 ^ zs.length ≤ 2 ^ 10)
    have hmx : Try.prog.follows .mixedOrders = true := by kernel_rfl
    have ht : (csum zs c).tmod q = csum zs c % q := Int.tmod_eq_emod_of_nonneg hs.1
    have hq0 : (q == 0) = false := by simp; omega
    have HP : Hid (∀ b, (((popc c : Int) == k) && csum zs c % q == 0) = b → justP zs q k c = b) := fun b h => by rw [justP, HZ.out]; exact h
    dsimp only
    gi_wp2
    have hn2 : 1 ≤ n - 1 - 1 := by omega
    by_cases hc0 : (popc c : Int) = k
    · have hd : ((popc c : Int) == k) = true := by simpa using hc0
      clear hc0
      by_cases hm : csum zs c % q = 0
      · have HF := Lib.hid (HP.out true (by rw [hd]; simp [hm]))
        have hd2 : (csum zs c % q == 0) = true := by simpa using hm
        clear hm
        gi_region_with_o (first | (refine ⟨trivial, ?_⟩; gi_at_call 114; refine (CallsIn.inRound l (callsIn_wide.2 (places_any c _ hc1024))).mono ?_; rintro e w' ⟨rfl, rfl⟩) | (gi_at_call 114; refine (CallsIn.inRound l (callsIn_wide.2 (places_any c _ hc1024))).mono ?_; rintro e w' ⟨rfl, rfl⟩))
        all_goals gi_wp2
        all_goals exact ⟨(((KeepsOthers.setCell _ _ _).trans (KeepsOthers.setCell _ _ _)).trans (KeepsOthers.drew _)).from _, ⟨rfl, ⟨c, hcN⟩, ⟨pre, rfl, hp, HF.out⟩, (hb2.set _).other (by omega) _, (hb3.other (by omega) _).set _, trivial⟩, ((hB.setCell (p := ⟨_, 0, none⟩) (by simp; omega) _).setCell (p := ⟨_, 0, none⟩) (by simp; omega) _).drew⟩
      · have HF := Lib.hid (HP.out false (by rw [hd]; simp [hm]))
        have hd2 : (csum zs c % q == 0) = false := by simpa using hm
        clear hm
        gi_region_with_o (first | (refine ⟨trivial, ?_⟩; gi_at_call 114; refine (CallsIn.inRound l (callsIn_wide.2 (places_any c _ hc1024))).mono ?_; rintro e w' ⟨rfl, rfl⟩) | (gi_at_call 114; refine (CallsIn.inRound l (callsIn_wide.2 (places_any c _ hc1024))).mono ?_; rintro e w' ⟨rfl, rfl⟩))
        all_goals gi_wp2
        all_goals exact ⟨(KeepsOthers.drew _).from _, ⟨(Below.refl _ _).drew, rfl⟩, ⟨hp.snoc HF.out, hb1, hbk, hb2, hb3, trivial⟩, hB.drew⟩
    · have HF := Lib.hid (HP.out false (by simp [hc0]))
      have hd : ((popc c : Int) == k) = false := by simpa using hc0
      clear hc0
      · gi_region_with_o (first | (refine ⟨trivial, ?_⟩; gi_at_call 114; refine (CallsIn.inRound l (callsIn_wide.2 (places_any c _ hc1024))).mono ?_; rintro e w' ⟨rfl, rfl⟩) | (gi_at_call 114; refine (CallsIn.inRound l (callsIn_wide.2 (places_any c _ hc1024))).mono ?_; rintro e w' ⟨rfl, rfl⟩))
        all_goals gi_wp2
        all_goals exact ⟨(KeepsOthers.drew _).from _, ⟨(Below.refl _ _).drew, rfl⟩, ⟨hp.snoc HF.out, hb1, hbk, hb2, hb3, trivial⟩, hB.drew⟩
  case done =>
    rintro D ys W hD rfl ⟨⟨hp, hb1, _, hb2, hb3, _⟩, hB⟩ hK
    have c2 := hb2.cell
    have c3 := hb3.cell
    have f2 := hb2.frozen
    have f3 := hb3.frozen
    gi_wp2
    refine endCells 6 7 rfl rfl rfl ((hb2.set _).other (by omega) _) ((hb3.other (by omega) _).set _) ((KeepsOthers.setCell _ _ _).same D _ ((KeepsOthers.setCell _ _ _).same D _ hK rfl) rfl) ?_
    exact ⟨0, false, rfl, firstIs_none hp, below_put ((hB.setCell (p := ⟨_, 0, none⟩) (by simp; omega) _).setCell (p := ⟨_, 0, none⟩) (by simp; omega) _) (by omega) ((KeepsOthers.setCell _ _ _).same D _ ((KeepsOthers.setCell _ _ _).same D _ hK rfl) rfl)⟩
  case stop =>
    rintro D c pre W hD ⟨k, hk, rfl⟩ ⟨⟨rfl, last, hh, hb2, hb3, _⟩, hB⟩ hK
    gi_wp2
    refine endCells 6 7 rfl rfl rfl hb2 hb3 hK ?_
    exact ⟨_, true, rfl, firstIs_hit hk hh, below_put hB (by omega) hK⟩

theorem RestJust_any (a : Option Addr) (cap : Nat) (zs : List Int) (q k : Int) (w : World) (hl : zs.length ≤ 4294967296) (hI : IntsAt w a zs) :
    Calls Try.prog 63 #[.slice a zs.length cap, .int .i64 q, .int .i64 k] w (FoundPost w (justP zs q k) (2 ^ zs.length)) := by
  by_cases hz : restOk zs q = true
  case pos => exact (callsIn_wide (n := 10)).1 (RestJust_in 10 (by omega) a cap zs q k hz w hI)
  have hz' : restOk zs q = false := by simpa using hz
  have HZ := Lib.hid hz'
  clear hz hz'
  have hB0 : ∀ o1 o2 o3 o4, Below w.heap.size w ((((w.alloc o1).alloc o2).alloc o3).alloc o4) := fun o1 o2 o3 o4 => ((((Below.refl _ w).alloc (Nat.le_refl _) _).alloc (by simp) _).alloc (by simp; omega) _).alloc (by simp; omega) _
  go_enter Try.func63, Try.ntmps63
  go_wp2_with (go_at_call 103; refine (restsTold_any a cap zs q _ hl (hI.below (hB0 _ _ _ _))).mono ?_; rw [HZ.out]; rintro e w' ⟨rfl, rfl⟩)
  refine bodyPost_ret (v := .tuple #[.int .i64 0, .bool false]) (by simp [results, Try.f63, go_sem]) rfl ⟨0, false, rfl, just_no k HZ.out _, hB0 _ _ _ _⟩
end Go.Proofs.Ytbpkffpejmlonaa
