/- HalfCount of the program. Conditions: the list is short enough to be counted. -/
import Derived.Test.YtdpapalfafjncaaGreatDoorIS
import Derived.Test.YtdpapalfafjncaaGreatDoorW14
namespace Go.Proofs.YtdpapalfafjncaaGreatDoor
open Go.RowKit Go.Shelf
attribute [local go_sem] Oper.semAt_some

/-- a count in a box, while the choices go by -/
def CntI (N : Nat) (bt bc B : Nat) (T : Int) (p : Nat → Bool) (w : World) (pre : List (Fin N)) (W : World) : Prop :=
  BoxL W [(bt, 3, .int .i64 T), (bc, 3, .int .i64 ((pre.map Fin.val).countP p : Nat))] ∧ Below B w W
theorem cntI_own {N bt bc B n : Nat} {T : Int} {p : Nat → Bool} {w : World} (h1 : B ≤ w.heap.size) (h2 : B ≤ n) : OwnFrom n (CntI N bt bc B T p w) :=
  OwnFrom.and ((boxL_own _).from _) (ownFrom_below h1 h2)
def halfP (zs : List Int) (c : Nat) : Bool := 2 * csum zs c == tot zs
def NumPost (w : World) (r : Int) (ok : Bool) (e : Ending) (w' : World) : Prop := e = .returned (.tuple #[.int .i64 r, .bool ok]) ∧ Below w.heap.size w w'

set_option maxRecDepth 100000 in
set_option maxHeartbeats 2000000 in
theorem HalfCount_in (n : Nat) (hn : 1 ≤ n) (a : Option Addr) (cap : Nat) (zs : List Int) (hz : inL zs = true) (w : World) (hI : IntsAt w a zs) :
    CallsIn Fence.wide n Tryz.prog 107 #[.slice a zs.length cap] w (NumPost w (cntN (halfP zs) (2 ^ zs.length) : Nat) true) := by
  have hz' := (inL_iff zs).1 hz
  have HZ := Lib.hid hz
  clear hz
  have htb := tot_bd hz'.2
  refine callsIn_of_wp_marks Tryz.func107 rfl trivial ?_ rfl
  simp only [Tryz.ntmps107, List.size_toArray, List.length_cons, List.length_nil, Nat.reduceAdd, Nat.reduceSub, Array.replicate_succ, Array.replicate_zero, List.push_toArray, List.append_toArray, List.nil_append, List.cons_append]
  gi_wp2_with (first | (refine ⟨trivial, ?_⟩; gi_at_call 16; refine (callsIn_wide.2 (SumIn_any a cap zs _ (by omega) hI)).mono ?_; rw [HZ.out]; rintro e w' ⟨rfl, rfl⟩) | (refine ⟨trivial, ?_⟩; gi_at_call 17; refine (callsIn_wide.2 (totalOf_any a cap zs _ (by omega) hz'.2 hI)).mono ?_; rintro e w' ⟨rfl, rfl⟩) | (refine ⟨trivial, ?_⟩; gi_at_call 137; refine (choiceSums_in _ _ _ _ _).mono ?_; rintro e w' ⟨rfl, rfl⟩))
  have b1 := Boxed.new w 3 (.int .i64 (tot zs))
  have b2 := Boxed.new (w.alloc (.cells #[.int .i64 (tot zs)] 3)) 3 (.int .i64 0)
  have b3 := Boxed.new ((w.alloc (.cells #[.int .i64 (tot zs)] 3)).alloc (.cells #[.int .i64 0] 3)) 23 (.slice a zs.length cap)
  have hB0 : Below w.heap.size w (((w.alloc (.cells #[.int .i64 (tot zs)] 3)).alloc (.cells #[.int .i64 0] 3)).alloc (.cells #[.slice a zs.length cap] 23)) :=
    (((Below.refl _ w).alloc (Nat.le_refl _) _).alloc (by simp) _).alloc (by simp; omega) _
  simp only [World.size_alloc] at b2 b3
  have hbx : BoxL (((w.alloc (.cells #[.int .i64 (tot zs)] 3)).alloc (.cells #[.int .i64 0] 3)).alloc (.cells #[.slice a zs.length cap] 23)) [(w.heap.size, 3, .int .i64 (tot zs)), (w.heap.size + 1, 3, .int .i64 0)] :=
    ⟨(b1.alloc _).alloc _, b2.alloc _, trivial⟩
  have hIW : ∀ W', Below w.heap.size (((w.alloc (.cells #[.int .i64 (tot zs)] 3)).alloc (.cells #[.int .i64 0] 3)).alloc (.cells #[.slice a zs.length cap] 23)) W' → IntsAt W' a zs := fun W' h => hI.below (hB0.trans h)
  have hsz : (((w.alloc (.cells #[.int .i64 (tot zs)] 3)).alloc (.cells #[.int .i64 0] 3)).alloc (.cells #[.slice a zs.length cap] 23)).heap.size = w.heap.size + 1 + 1 + 1 := by simp
  clear b1 b2
  generalize (((w.alloc (.cells #[.int .i64 (tot zs)] 3)).alloc (.cells #[.int .i64 0] 3)).alloc (.cells #[.slice a zs.length cap] 23)) = W0 at *
  refine wpIn_rangeFunc_ownG rfl hn (gf := 163) (lb := #[.pointer (some ⟨w.heap.size + 1 + 1, 0, none⟩)]) rfl trivial (enters_of Tryz.func163 (by kernel_rfl) rfl)
    (cs_stops (n - 1) (w.heap.size + 1 + 1) w.heap.size a cap zs (by omega) hz'.2 W0 (by omega) (by omega) b3.cell hIW) KpC.trans (KpC.put (by omega) (by omega)) (Below.refl _ _) (fun _ => rfl)
    (CntI (2 ^ zs.length) w.heap.size (w.heap.size + 1) w.heap.size (tot zs) (halfP zs) w)
    (fun _ _ _ => False)
    (cntI_own (Nat.le_refl _) (by omega)) (fun _ _ _ _ _ hs _ _ => hs) ⟨hbx, hB0⟩ ?a1 ?assign ?body ?done ?stop
  case assign =>
    intro l x W K hK
    gi_wp2
    exact hK
  case body =>
    rintro l pre ⟨c, hcN⟩ W ⟨⟨hb1, hb2, _⟩, hB⟩ hlen
    have hb1 : Boxed W w.heap.size 3 (.int .i64 (tot zs)) := hb1
    have hb2 : Boxed W (w.heap.size + 1) 3 (.int .i64 ((pre.map Fin.val).countP (halfP zs) : Nat)) := hb2
    have c1 := hb1.cell
    have c2 := hb2.cell
    have f2 := hb2.frozen
    have hs := csum_bd hz'.2 c
    have hpl : pre.length ≤ 1048576 := by have := pow_bd zs.length (by omega); have h2 : ((2 ^ zs.length : Nat) : Int) = 2 ^ zs.length := by simp
                                          omega
    have hcp : (pre.map Fin.val).countP (halfP zs) ≤ pre.length := by have := List.countP_le_length (p := halfP zs) (l := pre.map Fin.val); rwa [List.length_map] at this
    have HCN : Hid (∀ b, (2 * csum zs c == tot zs) = b → ((pre ++ [(⟨c, hcN⟩ : Fin (2 ^ zs.length))]).map Fin.val).countP (halfP zs) = (pre.map Fin.val).countP (halfP zs) + if b = true then 1 else 0) := fun b h => by
      rw [List.map_append, List.countP_append, ← h]; simp [List.countP_cons, List.countP_nil, halfP]
    have HI2 := Lib.hid hb2
    generalize hcc : (pre.map Fin.val).countP (halfP zs) = m at *
    have HM := Lib.hid hcc
    clear hcc hlen
    dsimp only
    by_cases hm : 2 * csum zs c = tot zs
    · have hd : (2 * csum zs c == tot zs) = true := by simpa using hm
      have HE := Lib.hid (HCN.out _ hd)
      clear hm HCN
      gi_wp2
      refine ⟨(KeepsOthers.setCell _ _ _).from _, ⟨(Below.refl _ _).setCell (p := ⟨_, _, none⟩) (by simp) _, World.cell?_setCell_other _ _ _ _ (by simp <;> omega)⟩, ⟨hb1.other (by omega) _, ?_, trivial⟩, hB.setCell (p := ⟨_, _, none⟩) (by simp) _⟩
      show Boxed _ (w.heap.size + 1) 3 (.int .i64 _)
      rw [HE.out]
      simp only [if_true]
      exact HI2.out.set _
    · have hd : (2 * csum zs c == tot zs) = false := by simpa using hm
      have HE := Lib.hid (HCN.out _ hd)
      clear hm HCN
      gi_wp2
      refine ⟨KeepsFrom.refl _ _, KpC.refl _ _ _, ⟨hb1, ?_, trivial⟩, hB⟩
      show Boxed _ (w.heap.size + 1) 3 (.int .i64 _)
      rw [HE.out]
      exact HI2.out
  case done =>
    rintro D ys W hD rfl ⟨⟨hb1, hb2, _⟩, hB⟩ hK
    have hb2 : Boxed W (w.heap.size + 1) 3 (.int .i64 (((upto (2 ^ zs.length) (2 ^ zs.length)).map Fin.val).countP (halfP zs) : Nat)) := hb2
    rw [upto_vals, countP_range] at hb2
    generalize hcc : cntN (halfP zs) (2 ^ zs.length) = m at hb2
    have HM := Lib.hid hcc
    clear hcc
    have c2 := hb2.cell
    gi_wp2
    refine ⟨by simp, .inl ⟨_, _, rfl, run_takeDeferred hK, ?_⟩⟩
    refine ⟨_, results_tmp2 rfl _ _ _, ?_, below_put hB (by omega) hK⟩
    rw [HM.out]; rfl
  case stop =>
    rintro D c pre W hD _ h _
    exact h.elim

/-- how many choices have half the total -/
def halfC (zs : List Int) : Int := if inL zs = true then ((cntN (halfP zs) (2 ^ zs.length) : Nat) : Int) else 0
theorem HalfCount_any (a : Option Addr) (cap : Nat) (zs : List Int) (w : World) (hl : zs.length ≤ 4294967296) (hI : IntsAt w a zs) :
    Calls Tryz.prog 107 #[.slice a zs.length cap] w (NumPost w (halfC zs) (inL zs)) := by
  by_cases hz : inL zs = true
  case pos =>
    rw [halfC, if_pos hz, hz]
    exact (callsIn_wide (n := 10)).1 (HalfCount_in 10 (by omega) a cap zs hz w hI)
  have hz' : inL zs = false := by simpa using hz
  rw [halfC, if_neg hz, hz']
  have HZ := Lib.hid hz'
  clear hz hz'
  go_enter Tryz.func107, Tryz.ntmps107
  go_wp2_with (go_at_call 16; refine (SumIn_any a cap zs w hl hI).mono ?_; rw [HZ.out]; rintro e w' ⟨rfl, rfl⟩)
  go_ret2
  exact ⟨rfl, Below.refl _ _⟩
theorem halfC_even {zs : List Int} (hz : inL zs = true) (h : tot zs % 2 = 0) : halfC zs = (sumC zs)[(tot zs / 2).toNat]?.getD 0 := by
  have hzl := (inL_iff zs).1 hz
  have htb := tot_bd hzl.2
  rw [halfC, if_pos hz, sumC_get _ (by omega)]
  congr 1
  apply cntN_congr
  intro c hc
  have h2 := csum_bd hzl.2 c
  rw [Bool.eq_iff_iff]
  simp only [halfP, sumKey, beq_iff_eq, Option.some.injEq]
  omega
theorem cntN_none {p : Nat → Bool} {m : Nat} (h : ∀ c, c < m → p c = false) : cntN p m = 0 := by
  induction m with
  | zero => rfl
  | succ m ih => rw [cntN, ih (fun c hc => h c (by omega)), h m (by omega)]; rfl
theorem halfC_odd {zs : List Int} (h : tot zs % 2 = 1) : halfC zs = 0 := by
  unfold halfC
  split
  · rw [cntN_none]
    · rfl
    · intro c _
      simp only [halfP, beq_eq_false_iff_ne, ne_eq]
      omega
  · rfl
theorem cntN_split (p : Nat → Bool) (a b : Nat) : cntN p (a + b) = cntN p a + cntN (fun c => p (a + c)) b := cntN_add p a b
theorem cntN_shift_rev (p : Nat → Bool) (m : Nat) : cntN (fun c => p (m + c)) m = cntN (fun c => p (2 * m - 1 - c)) m := by
  rw [cntN_rev]
  exact cntN_congr (fun c hc => by rw [show m + (m - 1 - c) = 2 * m - 1 - c by omega])
theorem halfC_pairs {zs : List Int} (hl : 1 ≤ zs.length) : halfC zs % 2 = 0 := by
  unfold halfC
  split
  · obtain ⟨k, hk⟩ : ∃ k, zs.length = k + 1 := ⟨zs.length - 1, by omega⟩
    have e : 2 ^ zs.length = 2 ^ k + 2 ^ k := by rw [hk, Nat.pow_succ]; omega
    have h2 : cntN (fun c => halfP zs (2 ^ k + c)) (2 ^ k) = cntN (halfP zs) (2 ^ k) := by
      rw [cntN_shift_rev]
      apply cntN_congr
      intro c hc
      have := csum_compl zs c (by omega)
      rw [e] at this
      rw [Bool.eq_iff_iff]
      simp only [halfP, beq_iff_eq]
      rw [show 2 * 2 ^ k - 1 - c = 2 ^ k + 2 ^ k - 1 - c by omega]
      omega
    rw [e, cntN_add, h2]; omega
  · rfl
theorem halfC_nil : halfC [] = 1 := by decide
end Go.Proofs.YtdpapalfafjncaaGreatDoor
