/- HalfChoice of the program. Conditions: the list is short enough to be counted. -/
import Derived.Sort.QuietIn
import Derived.Test.YtbpkffpejmlonaaRF
import Derived.Test.YtbpkffpejmlonaaW6
import Derived.Test.YtbpkffpejmlonaaIM
namespace Go.Proofs.Ytbpkffpejmlonaa
open Go.RowKit Go.Shelf
attribute [local go_sem] Oper.semAt_some

theorem sizeOfI_any (u v : Int) (w : World) (hu : u = v) (hv : -1000000 ≤ v ∧ v ≤ 1000000) :
    Calls Try.prog 117 #[.int .i64 u] w fun e w' => e = .returned (.int .i64 (sz v)) ∧ w = w' := by
  subst hu; exact sizeOf_any u w hv
theorem wrap_two {T c : Int} (hT : 0 ≤ T ∧ T ≤ 600) (hc : 0 ≤ c ∧ c ≤ T) : IntKind.i64.wrap (T - IntKind.i64.wrap (2 * c)) = T - 2 * c := by
  rw [IntWalk.i64_in (2 * c) (by omega), IntWalk.i64_in _ (by omega)]
theorem _root_.Go.Boxed.belowB {W W' : World} {B : Nat} {t : TypeId} {v : Value} (h : Boxed W B t v) (hb : Below W.heap.size W W') : Boxed W' B t v := (hb.block B h.lt).trans h

set_option maxRecDepth 100000 in
set_option maxHeartbeats 2000000 in
theorem HalfChoice_in (n : Nat) (hn : 4 ≤ n) (a : Option Addr) (cap : Nat) (zs : List Int) (hz : inL zs = true) (w : World) (hI : IntsAt w a zs) :
    CallsIn Fence.wide n Try.prog 73 #[.slice a zs.length cap] w (FoundPost w (leastP zs) (2 ^ zs.length)) := by
  have hz' := (inL_iff zs).1 hz
  have htb := tot_bd hz'.2
  have hlb := lr_bd hz'.2
  have hHB : ∀ w', IntsAt w' a zs → Calls Try.prog 68 #[.slice a zs.length cap] w' (NumPost w' (lr zs) true) := fun w' h => by
    have := HalfBest_any a cap zs w' (by omega) h
    rw [lrR, if_pos hz, hz] at this
    exact this
  clear hz
  have hn1 : 1 ≤ n := by omega
  refine callsIn_of_wp_marks Try.func73 rfl trivial ?_ rfl
  simp only [Try.ntmps73, List.size_toArray, List.length_cons, List.length_nil, Nat.reduceAdd, Nat.reduceSub, Array.replicate_succ, Array.replicate_zero, List.push_toArray, List.append_toArray, List.nil_append, List.cons_append]
  have hB2 : Below w.heap.size w ((w.alloc (.cells #[.int .i64 0] 3)).alloc (.cells #[.bool false] 4)) := ((Below.refl _ w).alloc (Nat.le_refl _) _).alloc (by simp) _
  have b1 := Boxed.new w 3 (.int .i64 0)
  have b2 := Boxed.new (w.alloc (.cells #[.int .i64 0] 3)) 4 (.bool false)
  simp only [World.size_alloc] at b2
  have hI2 := hI.below hB2
  have hs2 : ((w.alloc (.cells #[.int .i64 0] 3)).alloc (.cells #[.bool false] 4)).heap.size = w.heap.size + 1 + 1 := by simp
  have b1' := b1.alloc (.cells #[.bool false] 4)
  clear b1
  gi_wp2_with fail
  refine ⟨trivial, ?_⟩
  refine (callsIn_wide.2 (hHB _ hI2)).mono ?_
  rintro e w1 ⟨rfl, hB1⟩
  have hsz1 := hB1.size
  rw [hs2] at hsz1
  have hA1 : Below w.heap.size w w1 := hB2.trans (hB1.mono (by omega))
  have hI3 : IntsAt (w1.alloc (.cells #[.int .i64 (lr zs)] 3)) a zs := hI.below (hA1.alloc (by omega) _)
  have e1 := b1'.belowB hB1
  have e2 := b2.belowB hB1
  clear b1' b2 hB1 hB2 hI2 hs2 hHB
  gi_wp2_with (first | (refine ⟨trivial, ?_⟩; gi_at_call 111; refine (callsIn_wide.2 (totalOf_any a cap zs _ (by omega) hz'.2 hI3)).mono ?_; rintro e w' ⟨rfl, rfl⟩) | (refine ⟨trivial, ?_⟩; gi_at_call 100; refine (choiceSums_in _ _ _ _ _).mono ?_; rintro e w' ⟨rfl, rfl⟩))
  have b3 := Boxed.new w1 3 (.int .i64 (lr zs))
  have b4 := Boxed.new (w1.alloc (.cells #[.int .i64 (lr zs)] 3)) 3 (.int .i64 (tot zs))
  have b5 := Boxed.new ((w1.alloc (.cells #[.int .i64 (lr zs)] 3)).alloc (.cells #[.int .i64 (tot zs)] 3)) 23 (.slice a zs.length cap)
  simp only [World.size_alloc] at b4 b5
  have hB0 : Below w.heap.size w (((w1.alloc (.cells #[.int .i64 (lr zs)] 3)).alloc (.cells #[.int .i64 (tot zs)] 3)).alloc (.cells #[.slice a zs.length cap] 23)) :=
    ((hA1.alloc (by omega) _).alloc (by simp; omega) _).alloc (by simp; omega) _
  have hbx : BoxL (((w1.alloc (.cells #[.int .i64 (lr zs)] 3)).alloc (.cells #[.int .i64 (tot zs)] 3)).alloc (.cells #[.slice a zs.length cap] 23)) [(w.heap.size, 3, .int .i64 0), (w.heap.size + 1, 4, .bool false), (w1.heap.size, 3, .int .i64 (lr zs)), (w1.heap.size + 1, 3, .int .i64 (tot zs))] :=
    ⟨((e1.alloc _).alloc _).alloc _, ((e2.alloc _).alloc _).alloc _, (b3.alloc _).alloc _, b4.alloc _, trivial⟩
  have hIW : ∀ W', Below w.heap.size (((w1.alloc (.cells #[.int .i64 (lr zs)] 3)).alloc (.cells #[.int .i64 (tot zs)] 3)).alloc (.cells #[.slice a zs.length cap] 23)) W' → IntsAt W' a zs := fun W' h => hI.below (hB0.trans h)
  have hsz : (((w1.alloc (.cells #[.int .i64 (lr zs)] 3)).alloc (.cells #[.int .i64 (tot zs)] 3)).alloc (.cells #[.slice a zs.length cap] 23)).heap.size = w1.heap.size + 1 + 1 + 1 := by simp
  clear b3 b4 e1 e2 hI3
  generalize (((w1.alloc (.cells #[.int .i64 (lr zs)] 3)).alloc (.cells #[.int .i64 (tot zs)] 3)).alloc (.cells #[.slice a zs.length cap] 23)) = W0 at *
  refine wpIn_rangeFunc_ownG rfl hn1 (gf := 125) (lb := #[.pointer (some ⟨w1.heap.size + 1 + 1, 0, none⟩)]) rfl trivial (enters_of Try.func125 (by kernel_rfl) rfl)
    (cs_stops (n - 1) (w1.heap.size + 1 + 1) w.heap.size a cap zs (by omega) hz'.2 W0 (by omega) (by omega) b5.cell hIW) KpC.trans (KpC.put (by omega) (by omega)) (Below.refl _ _) (fun _ => rfl)
    (SrchI [(w.heap.size, 3, .int .i64 0), (w.heap.size + 1, 4, .bool false), (w1.heap.size, 3, .int .i64 (lr zs)), (w1.heap.size + 1, 3, .int .i64 (tot zs))] (leastP zs) w.heap.size w)
    (SrchX w.heap.size (w.heap.size + 1) (leastP zs) w.heap.size w)
    (srchI_own (Nat.le_refl _) (by omega)) (srchX_own (Nat.le_refl _) (by omega)) ⟨⟨NoneYet.nil _, hbx⟩, hB0⟩ ?a1 ?assign ?body ?done ?stop
  case assign =>
    intro l x W K hK
    gi_wp2
    exact hK
  case body =>
    rintro l pre ⟨c, hcN⟩ W ⟨⟨hp, hb2, hb3, hbl, hbt, _⟩, hB⟩ _
    have cl := hbl.cell
    have ct := hbt.cell
    have c2 := hb2.cell
    have c3 := hb3.cell
    have f2 := hb2.frozen
    have f3 := hb3.frozen
    have hs := csum_bd hz'.2 c
    have hT : 0 ≤ tot zs ∧ tot zs ≤ 600 := by omega
    have HP : Hid (∀ b, (sz (tot zs - 2 * csum zs c) == lr zs) = b → leastP zs c = b) := fun b h => h
    dsimp only
    gi_wp2
    have hn2 : 1 ≤ n - 1 - 1 := by omega
    have hmx : Try.prog.follows .mixedOrders = true := by kernel_rfl
    by_cases hm : sz (tot zs - 2 * csum zs c) = lr zs
    · have hd : (sz (tot zs - 2 * csum zs c) == lr zs) = true := by simpa using hm
      have HF := Lib.hid (HP.out true hd)
      clear hm
      gi_region_with_o (first | (refine ⟨trivial, ?_⟩; gi_at_call 117; refine (CallsIn.inRound l (callsIn_wide.2 (sizeOfI_any _ (tot zs - 2 * csum zs c) _ (wrap_two hT hs) (by omega)))).mono ?_; rintro e w' ⟨rfl, rfl⟩) | (gi_at_call 117; refine (CallsIn.inRound l (callsIn_wide.2 (sizeOfI_any _ (tot zs - 2 * csum zs c) _ (wrap_two hT hs) (by omega)))).mono ?_; rintro e w' ⟨rfl, rfl⟩))
      all_goals gi_wp2
      all_goals exact ⟨(((KeepsOthers.setCell _ _ _).trans (KeepsOthers.setCell _ _ _)).trans (KeepsOthers.drew _)).from _, ⟨rfl, ⟨c, hcN⟩, ⟨pre, rfl, hp, HF.out⟩, (hb2.set _).other (by omega) _, (hb3.other (by omega) _).set _, trivial⟩, ((hB.setCell (p := ⟨_, 0, none⟩) (by simp) _).setCell (p := ⟨_, 0, none⟩) (by simp <;> omega) _).drew⟩
    · have hd : (sz (tot zs - 2 * csum zs c) == lr zs) = false := by simpa using hm
      have HF := Lib.hid (HP.out false hd)
      clear hm
      gi_region_with_o (first | (refine ⟨trivial, ?_⟩; gi_at_call 117; refine (CallsIn.inRound l (callsIn_wide.2 (sizeOfI_any _ (tot zs - 2 * csum zs c) _ (wrap_two hT hs) (by omega)))).mono ?_; rintro e w' ⟨rfl, rfl⟩) | (gi_at_call 117; refine (CallsIn.inRound l (callsIn_wide.2 (sizeOfI_any _ (tot zs - 2 * csum zs c) _ (wrap_two hT hs) (by omega)))).mono ?_; rintro e w' ⟨rfl, rfl⟩))
      all_goals gi_wp2
      all_goals exact ⟨(KeepsOthers.drew _).from _, ⟨(Below.refl _ _).drew, rfl⟩, ⟨hp.snoc HF.out, hb2, hb3, hbl, hbt, trivial⟩, hB.drew⟩
  case done =>
    rintro D ys W hD rfl ⟨⟨hp, hb2, hb3, _, _, _⟩, hB⟩ hK
    have c2 := hb2.cell
    have c3 := hb3.cell
    have f2 := hb2.frozen
    have f3 := hb3.frozen
    gi_wp2
    refine endCells 2 3 rfl rfl rfl ((hb2.set _).other (by omega) _) ((hb3.other (by omega) _).set _) ((KeepsOthers.setCell _ _ _).same D _ ((KeepsOthers.setCell _ _ _).same D _ hK rfl) rfl) ?_
    exact ⟨0, false, rfl, firstIs_none hp, below_put ((hB.setCell (p := ⟨_, 0, none⟩) (by simp) _).setCell (p := ⟨_, 0, none⟩) (by simp <;> omega) _) (by omega) ((KeepsOthers.setCell _ _ _).same D _ ((KeepsOthers.setCell _ _ _).same D _ hK rfl) rfl)⟩
  case stop =>
    rintro D c pre W hD ⟨k, hk, rfl⟩ ⟨⟨rfl, last, hh, hb2, hb3, _⟩, hB⟩ hK
    gi_wp2
    refine endCells 2 3 rfl rfl rfl hb2 hb3 hK ?_
    exact ⟨_, true, rfl, firstIs_hit hk hh, below_put hB (by omega) hK⟩

theorem HalfChoice_any (a : Option Addr) (cap : Nat) (zs : List Int) (w : World) (hl : zs.length ≤ 4294967296) (hI : IntsAt w a zs) :
    Calls Try.prog 73 #[.slice a zs.length cap] w (NumPost w (lcR zs) (inL zs)) := by
  have hB2 : ∀ o1 o2, Below w.heap.size w ((w.alloc o1).alloc o2) := fun o1 o2 => ((Below.refl _ w).alloc (Nat.le_refl _) _).alloc (by simp) _
  by_cases hz : inL zs = true
  case pos =>
    have hzl := (inL_iff zs).1 hz
    rw [lcR, if_pos hz, hz]
    refine ((callsIn_wide (n := 10)).1 (HalfChoice_in 10 (by omega) a cap zs hz w hI)).mono ?_
    rintro e w' ⟨r, ok, rfl, hF, hB⟩
    obtain ⟨rfl, rfl⟩ := hF.unique (lc_is hzl.2)
    exact ⟨rfl, hB⟩
  have hz' : inL zs = false := by simpa using hz
  rw [lcR, if_neg hz, hz']
  have hHB : ∀ o1 o2, Calls Try.prog 68 #[.slice a zs.length cap] ((w.alloc o1).alloc o2) (NumPost ((w.alloc o1).alloc o2) 0 false) := fun o1 o2 => by
    have := HalfBest_any a cap zs ((w.alloc o1).alloc o2) hl (hI.below (hB2 o1 o2))
    rw [lrR, if_neg hz, hz'] at this
    exact this
  clear hz hz'
  go_enter Try.func73, Try.ntmps73
  go_wp2_with fail
  refine (hHB _ _).mono ?_
  rintro e w1 ⟨rfl, hB1⟩
  have hsz1 := hB1.size
  have e1 := (((Boxed.new w 3 (.int .i64 0)).alloc (.cells #[.bool false] 4)).belowB hB1).alloc (.cells #[.int .i64 0] 3)
  have e2 := ((Boxed.new (w.alloc (.cells #[.int .i64 0] 3)) 4 (.bool false)).belowB hB1).alloc (.cells #[.int .i64 0] 3)
  simp only [World.size_alloc] at e2 hsz1
  have hA : Below w.heap.size w (w1.alloc (.cells #[.int .i64 0] 3)) := ((hB2 _ _).trans (hB1.mono (by simp; omega))).alloc (by omega) _
  have c1 := e1.cell
  have f1 := e1.frozen
  have c2 := e2.cell
  have f2 := e2.frozen
  go_wp2
  have g1 := (e1.set (.int .i64 0)).other (B' := w.heap.size + 1) (by omega) (.bool false)
  have g2 := (e2.other (B' := w.heap.size) (by omega) (.int .i64 0)).set (.bool false)
  have d1 := g1.cell
  have d2 := g2.cell
  refine bodyPost_ret (v := .tuple #[.int .i64 0, .bool false]) (by simp [results, Try.f73, go_sem, d1, d2]) rfl ⟨rfl, ?_⟩
  exact (hA.setCell (p := ⟨_, 0, none⟩) (by simp) _).setCell (p := ⟨_, 0, none⟩) (by simp) _
end Go.Proofs.Ytbpkffpejmlonaa
