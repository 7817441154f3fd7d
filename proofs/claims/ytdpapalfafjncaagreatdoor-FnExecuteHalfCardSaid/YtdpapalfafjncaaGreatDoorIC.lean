/- RestCounts of the program. Conditions: the list is short enough to be counted. -/
import Derived.Sort.QuietIn
import Derived.Test.YtdpapalfafjncaaGreatDoorRF
import Derived.Test.YtdpapalfafjncaaGreatDoorW4
namespace Go.Proofs.YtdpapalfafjncaaGreatDoor
open Go.RowKit Go.Shelf
attribute [local go_sem] Oper.semAt_some

/-- a tally in a boxed slice, while the choices go by -/
def TalI (N B0 bx : Nat) (key : Nat → Option Nat) (L : Nat) (v : Value) (bxs : List (Nat × TypeId × Value)) (w : World) (pre : List (Fin N)) (W : World) : Prop :=
  (OwnI W B0 v (tallyL key L (pre.map Fin.val)) ∧ BoxL W ((bx, 23, v) :: bxs)) ∧ Below w.heap.size w W
theorem ownI_own {β : Type} (B0 : Nat) (v : Value) (f : β → List Int) : Own (fun s W => OwnI W B0 v (f s)) := fun s X Y row hs hg hrow =>
  hs.kept hg (by
    cases hv : v.ownBlock with
    | none => exact .inl rfl
    | some g =>
      refine .inr (fun e => ?_)
      obtain ⟨o, ho, hc⟩ := hrow g e.symm
      rcases hs.2 with ⟨rfl, _⟩ | ⟨g', cap, cur, rfl, _, hg', _⟩
      · simp [Value.ownBlock] at hv
      · simp [Value.ownBlock] at hv
        subst hv
        rw [ho] at hg'; cases hg'; cases hc)
theorem talI_own {N B0 bx L : Nat} {key : Nat → Option Nat} {v : Value} {bxs : List (Nat × TypeId × Value)} {w : World} {n : Nat} (h2 : w.heap.size ≤ n) : OwnFrom n (TalI N B0 bx key L v bxs w) :=
  OwnFrom.and (OwnFrom.and ((ownI_own _ _ _).from _) ((boxL_own _).from _)) (ownFrom_below (Nat.le_refl _) h2)

set_option maxRecDepth 100000 in
set_option maxHeartbeats 2000000 in
theorem RestCounts_in (n : Nat) (hn : 1 ≤ n) (a : Option Addr) (cap : Nat) (zs : List Int) (q : Int) (hz : restOk zs q = true) (w : World) (hI : IntsAt w a zs) :
    CallsIn Fence.wide n Tryz.prog 121 #[.slice a zs.length cap, .int .i64 q] w (ListR w true (restC zs q)) := by
  have hq := ((restOk_iff zs q).1 hz).2
  have hz' := (inL_iff zs).1 ((restOk_iff zs q).1 hz).1
  have HZ := Lib.hid hz
  clear hz
  obtain ⟨N, rfl⟩ := Int.eq_ofNat_of_zero_le (show 0 ≤ q by omega)
  refine callsIn_of_wp_marks Tryz.func121 rfl trivial ?_ rfl
  simp only [Tryz.ntmps121, List.size_toArray, List.length_cons, List.length_nil, Nat.reduceAdd, Nat.reduceSub, Array.replicate_succ, Array.replicate_zero, List.push_toArray, List.append_toArray, List.nil_append, List.cons_append]
  have hw1 : ∀ o1, IntsAt (w.alloc o1) a zs := fun o1 => hI.below ((Below.refl _ w).alloc (Nat.le_refl _) _)
  gi_wp2_with (first | (refine ⟨trivial, ?_⟩; gi_at_call 149; refine (callsIn_wide.2 (restsTold_any a cap zs _ _ (by omega) (hw1 _))).mono ?_; rw [HZ.out]; rintro e w' ⟨rfl, rfl⟩) | (gi_at_make; refine makeIIn _ rfl _ _ rfl N _ rfl rfl rfl (by omega) ?_; intro w1 hO hG) | (refine ⟨trivial, ?_⟩; gi_at_call 137; refine (choiceSums_in _ _ _ _ _).mono ?_; rintro e w' ⟨rfl, rfl⟩))
  have g1 : w.heap.size + 1 ≤ w1.heap.size := by have := hG.size; simpa using this
  rw [World.size_alloc] at hO
  have hg2 : w.heap.size + 1 < w1.heap.size := (hO.lt _ rfl).2
  have b1 : Boxed w1 w.heap.size 3 (.int .i64 N) := (Boxed.new w 3 (.int .i64 N)).kept hG (by simp)
  have b2 := Boxed.new w1 23 (.slice (some ⟨w.heap.size + 1, 0, none⟩) N N)
  have b3 := Boxed.new (w1.alloc (.cells #[.slice (some ⟨w.heap.size + 1, 0, none⟩) N N] 23)) 23 (.slice a zs.length cap)
  rw [World.size_alloc] at b3
  have hB1 : Below w.heap.size w w1 := ((Below.refl _ w).alloc (Nat.le_refl _) _).grown hG (by simp) (fun k hk => by cases hk)
  have hB0 : Below w.heap.size w ((w1.alloc (.cells #[.slice (some ⟨w.heap.size + 1, 0, none⟩) N N] 23)).alloc (.cells #[.slice a zs.length cap] 23)) := (hB1.alloc (by omega) _).alloc (by simp; omega) _
  have hbx : BoxL ((w1.alloc (.cells #[.slice (some ⟨w.heap.size + 1, 0, none⟩) N N] 23)).alloc (.cells #[.slice a zs.length cap] 23)) [(w1.heap.size, 23, .slice (some ⟨w.heap.size + 1, 0, none⟩) N N), (w.heap.size, 3, .int .i64 N)] :=
    ⟨b2.alloc _, (b1.alloc _).alloc _, trivial⟩
  have hOO : OwnI ((w1.alloc (.cells #[.slice (some ⟨w.heap.size + 1, 0, none⟩) N N] 23)).alloc (.cells #[.slice a zs.length cap] 23)) w.heap.size (.slice (some ⟨w.heap.size + 1, 0, none⟩) N N) (List.replicate N 0) :=
    OwnI.alloc (OwnI.alloc (hO.mono (by omega)) _) _
  have hIW : ∀ W', Below w.heap.size ((w1.alloc (.cells #[.slice (some ⟨w.heap.size + 1, 0, none⟩) N N] 23)).alloc (.cells #[.slice a zs.length cap] 23)) W' → IntsAt W' a zs := fun W' h => hI.below (hB0.trans h)
  have hsz : ((w1.alloc (.cells #[.slice (some ⟨w.heap.size + 1, 0, none⟩) N N] 23)).alloc (.cells #[.slice a zs.length cap] 23)).heap.size = w1.heap.size + 1 + 1 := by simp
  clear b1 b2 hw1 hO hG
  generalize ((w1.alloc (.cells #[.slice (some ⟨w.heap.size + 1, 0, none⟩) N N] 23)).alloc (.cells #[.slice a zs.length cap] 23)) = W0 at *
  refine wpIn_rangeFunc_ownG rfl hn (gf := 163) (lb := #[.pointer (some ⟨w1.heap.size + 1, 0, none⟩)]) rfl trivial (enters_of Tryz.func163 (by kernel_rfl) rfl)
    (cs_stops (n - 1) (w1.heap.size + 1) w.heap.size a cap zs (by omega) hz'.2 W0 (by omega) (by omega) b3.cell hIW) KpC.trans (KpC.put (by omega) (by omega)) (Below.refl _ _) (fun _ => rfl)
    (TalI (2 ^ zs.length) w.heap.size w1.heap.size (restKey zs N) N (.slice (some ⟨w.heap.size + 1, 0, none⟩) N N) [(w.heap.size, 3, .int .i64 N)] w)
    (fun _ _ _ => False)
    (talI_own (by omega)) (fun _ _ _ _ _ hs _ _ => hs) ⟨⟨by rw [List.map_nil, tallyL_nil]; exact hOO, hbx⟩, hB0⟩ ?a1 ?assign ?body ?done ?stop
  case assign =>
    intro l x W K hK
    gi_wp2
    exact hK
  case body =>
    rintro l pre ⟨c, hcN⟩ W ⟨⟨hOr, hbS, hbq, _⟩, hB⟩ hlen
    have hmx : Tryz.prog.follows .mixedOrders = true := by kernel_rfl
    have cS := hbS.cell
    have cq := hbq.cell
    have hs := csum_bd hz'.2 c
    have hs2 := tot_bd hz'.2
    have hm1 := Int.emod_nonneg (csum zs c) (show (N : Int) ≠ 0 by omega)
    have hm2 := Int.emod_lt_of_pos (csum zs c) (show 0 < (N : Int) by omega)
    have HK : Hid (restKey zs N c = some (csum zs c % N).toNat) := rfl
    have hbd := tallyL_bd (restKey zs N) N (csum zs c % N).toNat (pre.map Fin.val)
    have hlenL := tallyL_length (restKey zs N) N (pre.map Fin.val)
    obtain ⟨g, cp, he, hg3, hg4, hcf⟩ := hOr.at (by omega)
    rw [hlenL] at he
    simp only [Value.slice.injEq, Option.some.injEq, Addr.mk.injEq, and_true, true_and] at he
    obtain ⟨rfl, rfl⟩ := he
    have hc1 := (hcf (csum zs c % N).toNat (by omega)).1
    have hf1 := (hcf (csum zs c % N).toNat (by omega)).2
    have HO := Lib.hid hOr
    have HL := Lib.hid hlenL
    clear hcf hOr hlenL
    have HS := Lib.hid (tallyL_some (N := N) (l := pre.map Fin.val) HK.out)
    have hpl : pre.length ≤ 1048576 := by have := pow_bd zs.length (by omega); have h2 : ((2 ^ zs.length : Nat) : Int) = 2 ^ zs.length := by simp
                                          omega
    rw [List.length_map] at hbd
    generalize (tallyL (restKey zs N) N (pre.map Fin.val))[(csum zs c % N).toNat]?.getD 0 = y at hc1 hbd HS
    generalize hr : csum zs c % N = r at hc1 hf1 hm1 hm2 HS HK
    clear hlen
    gi_wp2
    have ht : (csum zs c).tmod N = r := by rw [Int.tmod_eq_emod_of_nonneg hs.1]; exact hr
    have hw : IntKind.i64.wrap (y + 1) = y + 1 := IntWalk.i64_in _ (by omega)
    clear hr
    gi_region
    all_goals gi_wp2
    all_goals
      refine ⟨((KeepsOthers.setCell _ _ _).trans (KeepsOthers.drew _)).from _, ⟨((Below.refl _ _).setCell (p := ⟨_, _, none⟩) (by simp) _).drew, (cell_drew_own _ _).trans (World.cell?_setCell_other _ _ _ _ (by simp <;> omega))⟩, ⟨?_, hbS.keptSet (by omega) _, hbq.keptSet (by omega) _, trivial⟩, (hB.setCell (p := ⟨_, _, none⟩) (by simp) _).drew⟩
      rw [List.map_append, List.map_cons, List.map_nil, ← HS.out]
      exact HO.out.put HL.out _ _
  case done =>
    rintro D ys W hD rfl ⟨⟨hOr, hbS, hbq, _⟩, hB⟩ hK
    have cS := hbS.cell
    gi_wp2
    refine ⟨by simp, .inl ⟨_, _, rfl, run_takeDeferred hK, ?_⟩⟩
    refine ⟨_, results_tmp2 rfl _ _ _, _, rfl, ?_, below_put hB (by omega) hK⟩
    have h1 : OwnI (W.putObj D (.deferred none)) w.heap.size (.slice (some ⟨w.heap.size + 1, 0, none⟩) N N) (tallyL (restKey zs N) N ((upto (2 ^ zs.length) (2 ^ zs.length)).map Fin.val)) :=
      ownsRow_putObj hOr _ hK rfl
    rw [upto_vals, tallyL_range] at h1
    exact h1
  case stop =>
    rintro D c pre W hD _ h _
    exact h.elim

theorem RestCounts_any (a : Option Addr) (cap : Nat) (zs : List Int) (q : Int) (w : World) (hl : zs.length ≤ 4294967296) (hI : IntsAt w a zs) :
    Calls Tryz.prog 121 #[.slice a zs.length cap, .int .i64 q] w (ListR w (restOk zs q) (if restOk zs q = true then restC zs q else [])) := by
  by_cases hz : restOk zs q = true
  case pos =>
    rw [if_pos hz, hz]
    exact (callsIn_wide (n := 10)).1 (RestCounts_in 10 (by omega) a cap zs q hz w hI)
  have hz' : restOk zs q = false := by simpa using hz
  rw [if_neg hz, hz']
  have HZ := Lib.hid hz'
  clear hz hz'
  have hB0 : ∀ o1, Below w.heap.size w (w.alloc o1) := fun o1 => (Below.refl _ w).alloc (Nat.le_refl _) _
  have HO := World.ownsRow_lit (base := w.heap.size) (e := 3) (size := 1) (w.alloc (.cells #[.int .i64 q] 3)) #[] 0 (by simp) (by unfold maxLen; omega) (by simp)
  rw [World.size_alloc] at HO
  go_enter Tryz.func121, Tryz.ntmps121
  go_wp2_with (go_at_call 149; refine (restsTold_any a cap zs q _ hl (hI.below (hB0 _))).mono ?_; rw [HZ.out]; rintro e w' ⟨rfl, rfl⟩)
  go_ret2
  exact ⟨_, rfl, HO, (hB0 _).alloc (by simp) _⟩
end Go.Proofs.YtdpapalfafjncaaGreatDoor
