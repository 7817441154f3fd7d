/- SumCounts of the program. Conditions: the list is short enough to be counted. -/
import Derived.Test.YtdpapalfafjncaaGreatDoorIC
import Derived.Test.YtdpapalfafjncaaGreatDoorM10
namespace Go.Proofs.YtdpapalfafjncaaGreatDoor
open Go.RowKit Go.Shelf
attribute [local go_sem] Oper.semAt_some

set_option maxRecDepth 100000 in
set_option maxHeartbeats 2000000 in
theorem SumCounts_in (n : Nat) (hn : 1 ≤ n) (a : Option Addr) (cap : Nat) (zs : List Int) (hz : inL zs = true) (w : World) (hI : IntsAt w a zs) :
    CallsIn Fence.wide n Tryz.prog 136 #[.slice a zs.length cap] w (ListR w true (sumC zs)) := by
  have hz' := (inL_iff zs).1 hz
  have HZ := Lib.hid hz
  clear hz
  have htb := tot_bd hz'.2
  obtain ⟨N, hN⟩ : ∃ N : Nat, N = (tot zs).toNat + 1 := ⟨_, rfl⟩
  have hN2 : tot zs + 1 = (N : Int) := by omega
  have HSC : Hid (sumC zs = tally (sumKey zs) N (2 ^ zs.length)) := by rw [hN]; rfl
  have HN2 := Lib.hid hN2
  have hNb : N ≤ 601 ∧ 1 ≤ N ∧ tot zs < N := by omega
  clear hN hN2
  refine callsIn_of_wp_marks Tryz.func136 rfl trivial ?_ rfl
  simp only [Tryz.ntmps136, List.size_toArray, List.length_cons, List.length_nil, Nat.reduceAdd, Nat.reduceSub, Array.replicate_succ, Array.replicate_zero, List.push_toArray, List.append_toArray, List.nil_append, List.cons_append]
  gi_wp2_with (first | (refine ⟨trivial, ?_⟩; gi_at_call 16; refine (callsIn_wide.2 (SumIn_any a cap zs _ (by omega) hI)).mono ?_; rw [HZ.out]; rintro e w' ⟨rfl, rfl⟩) | (refine ⟨trivial, ?_⟩; gi_at_call 17; refine (callsIn_wide.2 (totalOf_any a cap zs _ (by omega) hz'.2 hI)).mono ?_; rintro e w' ⟨rfl, rfl⟩) | (gi_at_make; refine makeIIn _ rfl _ _ rfl N _ rfl rfl HN2.out (by omega) ?_; intro w1 hO hG) | (refine ⟨trivial, ?_⟩; gi_at_call 137; refine (choiceSums_in _ _ _ _ _).mono ?_; rintro e w' ⟨rfl, rfl⟩))
  have g1 : w.heap.size ≤ w1.heap.size := hG.size
  have hg2 : w.heap.size < w1.heap.size := (hO.lt _ rfl).2
  have b2 := Boxed.new w1 23 (.slice (some ⟨w.heap.size, 0, none⟩) N N)
  have b3 := Boxed.new (w1.alloc (.cells #[.slice (some ⟨w.heap.size, 0, none⟩) N N] 23)) 23 (.slice a zs.length cap)
  rw [World.size_alloc] at b3
  have hB1 : Below w.heap.size w w1 := (Below.refl _ w).grown hG (Nat.le_refl _) (fun k hk => by cases hk)
  have hB0 : Below w.heap.size w ((w1.alloc (.cells #[.slice (some ⟨w.heap.size, 0, none⟩) N N] 23)).alloc (.cells #[.slice a zs.length cap] 23)) := (hB1.alloc (by omega) _).alloc (by simp; omega) _
  have hbx : BoxL ((w1.alloc (.cells #[.slice (some ⟨w.heap.size, 0, none⟩) N N] 23)).alloc (.cells #[.slice a zs.length cap] 23)) [(w1.heap.size, 23, .slice (some ⟨w.heap.size, 0, none⟩) N N)] := ⟨b2.alloc _, trivial⟩
  have hOO : OwnI ((w1.alloc (.cells #[.slice (some ⟨w.heap.size, 0, none⟩) N N] 23)).alloc (.cells #[.slice a zs.length cap] 23)) w.heap.size (.slice (some ⟨w.heap.size, 0, none⟩) N N) (List.replicate N 0) := OwnI.alloc (OwnI.alloc hO _) _
  have hIW : ∀ W', Below w.heap.size ((w1.alloc (.cells #[.slice (some ⟨w.heap.size, 0, none⟩) N N] 23)).alloc (.cells #[.slice a zs.length cap] 23)) W' → IntsAt W' a zs := fun W' h => hI.below (hB0.trans h)
  have hsz : ((w1.alloc (.cells #[.slice (some ⟨w.heap.size, 0, none⟩) N N] 23)).alloc (.cells #[.slice a zs.length cap] 23)).heap.size = w1.heap.size + 1 + 1 := by simp
  clear b2 hO hG
  generalize ((w1.alloc (.cells #[.slice (some ⟨w.heap.size, 0, none⟩) N N] 23)).alloc (.cells #[.slice a zs.length cap] 23)) = W0 at *
  refine wpIn_rangeFunc_ownG rfl hn (gf := 163) (lb := #[.pointer (some ⟨w1.heap.size + 1, 0, none⟩)]) rfl trivial (enters_of Tryz.func163 (by kernel_rfl) rfl)
    (cs_stops (n - 1) (w1.heap.size + 1) w.heap.size a cap zs (by omega) hz'.2 W0 (by omega) (by omega) b3.cell hIW) KpC.trans (KpC.put (by omega) (by omega)) (Below.refl _ _) (fun _ => rfl)
    (TalI (2 ^ zs.length) w.heap.size w1.heap.size (sumKey zs) N (.slice (some ⟨w.heap.size, 0, none⟩) N N) [] w)
    (fun _ _ _ => False)
    (talI_own (by omega)) (fun _ _ _ _ _ hs _ _ => hs) ⟨⟨by rw [List.map_nil, tallyL_nil]; exact hOO, hbx⟩, hB0⟩ ?a1 ?assign ?body ?done ?stop
  case assign =>
    intro l x W K hK
    gi_wp2
    exact hK
  case body =>
    rintro l pre ⟨c, hcN⟩ W ⟨⟨hOr, hbS, _⟩, hB⟩ hlen
    have cS := hbS.cell
    have hs := csum_bd hz'.2 c
    have HK : Hid (sumKey zs c = some (csum zs c).toNat) := rfl
    have hbd := tallyL_bd (sumKey zs) N (csum zs c).toNat (pre.map Fin.val)
    have hlenL := tallyL_length (sumKey zs) N (pre.map Fin.val)
    obtain ⟨g, cp, he, hg3, hg4, hcf⟩ := hOr.at (by omega)
    rw [hlenL] at he
    simp only [Value.slice.injEq, Option.some.injEq, Addr.mk.injEq, and_true, true_and] at he
    obtain ⟨rfl, rfl⟩ := he
    have hc1 := (hcf (csum zs c).toNat (by omega)).1
    have hf1 := (hcf (csum zs c).toNat (by omega)).2
    have HO := Lib.hid hOr
    have HL := Lib.hid hlenL
    clear hcf hOr hlenL
    have HS := Lib.hid (tallyL_some (N := N) (l := pre.map Fin.val) HK.out)
    have hpl : pre.length ≤ 1048576 := by have := pow_bd zs.length (by omega); have h2 : ((2 ^ zs.length : Nat) : Int) = 2 ^ zs.length := by simp
                                          omega
    rw [List.length_map] at hbd
    generalize (tallyL (sumKey zs) N (pre.map Fin.val))[(csum zs c).toNat]?.getD 0 = y at hc1 hbd HS
    clear hlen
    gi_wp2
    refine ⟨(KeepsOthers.setCell _ _ _).from _, ⟨(Below.refl _ _).setCell (p := ⟨_, _, none⟩) (by simp) _, World.cell?_setCell_other _ _ _ _ (by simp <;> omega)⟩, ⟨?_, hbS.keptSet' (by omega) _, trivial⟩, hB.setCell (p := ⟨_, _, none⟩) (by simp) _⟩
    rw [List.map_append, List.map_cons, List.map_nil, ← HS.out]
    exact HO.out.put HL.out _ _
  case done =>
    rintro D ys W hD rfl ⟨⟨hOr, hbS, _⟩, hB⟩ hK
    have cS := hbS.cell
    gi_wp2
    refine ⟨by simp, .inl ⟨_, _, rfl, run_takeDeferred hK, ?_⟩⟩
    refine ⟨_, results_tmp2 rfl _ _ _, _, rfl, ?_, below_put hB (by omega) hK⟩
    have h1 : OwnI (W.putObj D (.deferred none)) w.heap.size (.slice (some ⟨w.heap.size, 0, none⟩) N N) (tallyL (sumKey zs) N ((upto (2 ^ zs.length) (2 ^ zs.length)).map Fin.val)) :=
      ownsRow_putObj hOr _ hK rfl
    rw [upto_vals, tallyL_range, ← HSC.out] at h1
    exact h1
  case stop =>
    rintro D c pre W hD _ h _
    exact h.elim

theorem SumCounts_any (a : Option Addr) (cap : Nat) (zs : List Int) (w : World) (hl : zs.length ≤ 4294967296) (hI : IntsAt w a zs) :
    Calls Tryz.prog 136 #[.slice a zs.length cap] w (ListR w (inL zs) (if inL zs = true then sumC zs else [])) := by
  by_cases hz : inL zs = true
  case pos =>
    rw [if_pos hz, hz]
    exact (callsIn_wide (n := 10)).1 (SumCounts_in 10 (by omega) a cap zs hz w hI)
  have hz' : inL zs = false := by simpa using hz
  rw [if_neg hz, hz']
  have HZ := Lib.hid hz'
  clear hz hz'
  have HO := World.ownsRow_lit (base := w.heap.size) (e := 3) (size := 1) w #[] 0 (Nat.le_refl _) (by unfold maxLen; omega) (by simp)
  go_enter Tryz.func136, Tryz.ntmps136
  go_wp2_with (go_at_call 16; refine (SumIn_any a cap zs w hl hI).mono ?_; rw [HZ.out]; rintro e w' ⟨rfl, rfl⟩)
  go_ret2
  exact ⟨_, rfl, HO, (Below.refl _ _).alloc (Nat.le_refl _) _⟩
end Go.Proofs.YtdpapalfafjncaaGreatDoor
