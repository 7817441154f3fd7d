/- l4Least and BinLeast of the reference. Conditions: stated in each. BinLeast of the program: the closure that puts the numbers one by one. Conditions: stated in each. BinLeast of the program, and its draw. Conditions: the list is short enough to be counted. -/
import Derived.Test.YtdpapalfafjncaaGreatDoorZj
import Derived.Test.YtdpapalfafjncaaGreatDoorZm
import Derived.Test.YtdpapalfafjncaaGreatDoorZg
import Derived.BigRegion
import Derived.RangeFuncNested
import Derived.Laws.EntriesVeiled
import Derived.Test.YtdpapalfafjncaaGreatDoorZl
set_option linter.unusedVariables false
set_option linter.unusedSimpArgs false
set_option linter.unusedSectionVars false
namespace Go.Proofs.YtdpapalfafjncaaGreatDoor
open Go.RowKit

/-- a choice whose numbers have room in one bin -/
def roomP (zs : List Int) (size : Int) (p : Nat) : Prop := csum zs p ≤ size
def TabL (zs : List Int) (size : Int) (T : List Int) (c : Nat) : Prop := ∀ d, d < c → ∃ k : Nat, T[d]?.getD 0 = k ∧ IsFew (roomP zs size) d k
theorem tabL_one (zs : List Int) (size : Int) (P : Nat) : TabL zs size (List.replicate P 0) 1 := fun d hd => by
  obtain rfl : d = 0 := by omega
  refine ⟨0, ?_, few_zero _⟩
  by_cases h : 0 < P
  · simp [h]
  · simp [h]
theorem TabL.put {zs : List Int} {size : Int} {T : List Int} {c : Nat} (h : TabL zs size T c) (x : Int) : TabL zs size (T.set c x) c := fun d hd => by
  obtain ⟨k, h1, h2⟩ := h d hd
  exact ⟨k, by rw [List.getElem?_set_ne (by omega)]; exact h1, h2⟩
theorem TabL.next {zs : List Int} {size : Int} {T : List Int} {c v : Nat} (h : TabL zs size T c) (hv : T[c]?.getD 0 = v) (hf : IsFew (roomP zs size) c v) : TabL zs size T (c + 1) := fun d hd => by
  by_cases e : d = c
  · subst e; exact ⟨v, hv, hf⟩
  · exact h d (by omega)
theorem bit_room {zs : List Int} {size : Int} (hs : ∀ x ∈ zs, x ≤ size) {c : Nat} (hc : c < 2 ^ zs.length) : ∀ j, c.testBit j = true → roomP zs size (2 ^ j) := fun j hj =>
  csum_bit hs (by have := (sub_bit hj).le; omega)
theorem few_le {zs : List Int} {size : Int} (hs : ∀ x ∈ zs, x ≤ size) {c k : Nat} (hc : c < 2 ^ zs.length) (h : IsFew (roomP zs size) c k) : k ≤ zs.length := by
  obtain ⟨m, hm, hC⟩ := cov_ones zs.length c hc (bit_room hs hc)
  exact Nat.le_trans (h.2 m hC) hm

set_option maxHeartbeats 4000000 in
theorem l4Least_any (a : Option Addr) (cap : Nat) (zs : List Int) (size : Int) (w : World) (ht : toldB zs size = true) (hI : IntsAt w a zs) :
    Calls Tryz.prog 34 #[.slice a zs.length cap, .int .i64 size] w fun e w' => ∃ k : Nat, e = .returned (.int .i64 k) ∧ IsFew (roomP zs size) (2 ^ zs.length - 1) k ∧ Below w.heap.size w w' := by
  obtain ⟨hz, hs1, hs2, hle⟩ := toldB_is ht
  have hzl := (inL_iff zs).1 hz
  have hg := hzl.2
  have hl := hzl.1
  obtain ⟨P, hP⟩ : ∃ P : Nat, 2 ^ zs.length = P := ⟨_, rfl⟩
  have hpp : (2 : Int) ^ zs.length = (P : Int) := by
    have : ((2 ^ zs.length : Nat) : Int) = 2 ^ zs.length := by simp
    rw [← hP]; exact this.symm
  have hPb : 1 ≤ P ∧ P ≤ 1024 := by
    have h1 : 2 ^ zs.length ≤ 2 ^ 10 := Nat.pow_le_pow_right (by omega) hl
    have h2 := Nat.two_pow_pos zs.length
    omega
  have HPF : Hid (2 ^ zs.length = P) := hP
  have HFL : Hid (∀ c k, c < P → IsFew (roomP zs size) c k → k ≤ 10) := fun c k hc h => Nat.le_trans (few_le hle (by omega) h) hl
  have HEnd : Hid (∀ c v, c ≠ 0 → c < P → SeenF (roomP zs size) zs.length c 0 v → IsFew (roomP zs size) c v) := fun c v h0 hc h => seenF_end h0 (by omega) (bit_room hle (by omega)) h
  clear hP hz hzl hle ht
  go_enter Tryz.func34, Tryz.ntmps34
  go_wp2_with (at_make; refine makeI w rfl _ _ rfl P _ rfl rfl (by first | rfl | omega) (by omega) ?_; intro w1 hO hG)
  have hB : Below w.heap.size w w1 := (Below.refl _ w).grown hG (Nat.le_refl _) (fun k hk => by cases hk)
  clear hG
  go_loopw [6] (fun i wr => ∃ (c : Nat) (T : List Int), 1 ≤ c ∧ c ≤ P ∧ i = .int .i64 c ∧ Hid (T.length = P) ∧ Hid (TabL zs size T c) ∧ OwnI wr w.heap.size (.slice (some ⟨w.heap.size, 0, none⟩) P P) T ∧ Below w.heap.size w wr) (fun i _ => P - (intOf i).toNat)
  case atStart => exact ⟨1, _, by omega, by omega, rfl, List.length_replicate .., tabL_one _ _ _, hO, hB⟩
  case round =>
    obtain ⟨c, T, hc1, hc, rfl, HTl, HTab, hO, hB⟩ := hrel
    by_cases hlt : c < P
    · have HSS := Lib.hid (seenF_start (roomP zs size) zs.length c)
      have HT1 : Hid (TabL zs size (T.set c (zs.length : Int)) c) := HTab.out.put _
      have HTL1 : Hid ((T.set c (zs.length : Int)).length = P) := by show _ = _; rw [List.length_set]; exact HTl.out
      have HTV1 : Hid ((T.set c (zs.length : Int))[c]?.getD 0 = (zs.length : Nat)) := by show _ = _; rw [List.getElem?_set_self (by have := HTl.out; omega)]; rfl
      obtain ⟨g', cp', he, _, hgl, hcell⟩ := hO.at (by have := HTl.out; omega)
      simp only [Value.slice.injEq, Option.some.injEq, Addr.mk.injEq, and_true] at he
      obtain ⟨rfl, hq1, hq2⟩ := he
      clear hq1 hq2
      have hx0 := (hcell c (by have := HTl.out; omega)).1
      have hf0 := (hcell c (by have := HTl.out; omega)).2
      have HO1 := Lib.hid (hO.put HTl.out c (zs.length : Int))
      have HB1 := Lib.hid (hB.setCell (p := ⟨w.heap.size, c, none⟩) (Nat.le_refl _) (.int .i64 (zs.length : Int)))
      clear hcell hO hB
      go_wp2
      go_loopw [7] (fun i wr => ∃ (p v : Nat) (T : List Int), p ≤ c ∧ i = .int .i64 p ∧ Hid (T.length = P) ∧ Hid (TabL zs size T c) ∧ Hid (T[c]?.getD 0 = v) ∧ Hid (Sub p c) ∧ Hid (SeenF (roomP zs size) zs.length c p v) ∧ OwnI wr w.heap.size (.slice (some ⟨w.heap.size, 0, none⟩) P P) T ∧ Below w.heap.size w wr) (fun i _ => (intOf i).toNat)
      case atStart => exact ⟨c, zs.length, _, by omega, rfl, HTL1, HT1, HTV1, Sub.refl _, HSS, HO1.out, HB1.out⟩
      case round =>
        clear HTl HTab HT1 HSS HTL1 HTV1 HO1 HB1 hx0 hf0
        obtain ⟨p, v, T, hp, rfl, HTl, HTab, HTV, HSub, HSeen, hO, hBr⟩ := hrel
        by_cases hp0 : 0 < p
        · have hIr := hI.below hBr
          have hlt2 := pred_lt p c hp0
          have HS2 := Lib.hid (pred_sub p c)
          have HA : Hid (bits .and .i64 ((p : Int) - 1) (c : Int) = (((p - 1) &&& c : Nat) : Int)) := by
            show bits .and .i64 ((p : Int) - 1) (c : Int) = _
            rw [show (p : Int) - 1 = ((p - 1 : Nat) : Int) by omega, i64_and _ _ (by omega) (by omega)]
          have hsb := csum_bd hg p
          have hsb2 := tot_bd hg
          by_cases hge : csum zs p ≤ size
          · obtain ⟨d, hd⟩ : ∃ d, c - p = d := ⟨_, rfl⟩
            have hdc : d < c := by omega
            have han : bits .andNot .i64 (c : Int) (p : Int) = (d : Int) := by
              rw [i64_andNot _ _ (by omega) (by omega), andNot_sub HSub.out (by omega), hd]
            obtain ⟨t, ht, hmt⟩ := HTab.out d hdc
            have hvb : v ≤ 10 := by have := HSeen.out.2.1; omega
            have htb := HFL.out _ _ (show d < P by omega) hmt
            have HN : Hid (SeenF (roomP zs size) zs.length c ((p - 1) &&& c) (min v (1 + t))) := seenF_hit HSeen.out (by omega) HSub.out hge (by rw [hd]; exact hmt)
            have HTP : Hid (∀ x : Int, TabL zs size (T.set c x) c) := fun x => HTab.out.put x
            have HTL2 : Hid (∀ x : Int, (T.set c x).length = P) := fun x => by rw [List.length_set]; exact HTl.out
            have HTV2 : Hid (∀ x : Nat, (T.set c (x : Int))[c]?.getD 0 = x) := fun x => by rw [List.getElem?_set_self (by have := HTl.out; omega)]; rfl
            obtain ⟨g', cp', he, _, hgl, hcell⟩ := hO.at (by have := HTl.out; omega)
            simp only [Value.slice.injEq, Option.some.injEq, Addr.mk.injEq, and_true] at he
            obtain ⟨rfl, hq1, hq2⟩ := he
            clear hq1 hq2
            have hx1 := (hcell c (by have := HTl.out; omega)).1
            have hf1 := (hcell c (by have := HTl.out; omega)).2
            have hx2 := (hcell d (by have := HTl.out; omega)).1
            rw [HTV.out] at hx1
            rw [ht] at hx2
            have HO := Lib.hid hO
            clear hcell hd ht hO hmt HSeen HTab HTV
            by_cases hm : 1 + (t : Int) < (v : Int)
            all_goals
              go_wp2_with (go_at_call 50; with_reducible refine (l1Sum_any p a cap zs _ (by omega) (by omega) hg hIr).mono ?_; rintro e w' ⟨rfl, m1, rfl⟩)
              go_region
              go_wp2
              go_roundw
              case rel => exact ⟨(p - 1) &&& c, min v (1 + t), T.set c ((min v (1 + t) : Nat) : Int), by omega, by rw [HA.out], HTL2.out _, HTP.out _, HTV2.out _, HS2, HN, by first | exact ((HO.out.dr m1).put HTl.out c _).dr 1 | (have h := ((HO.out.dr m1).put HTl.out c ((min v (1 + t) : Nat) : Int)).dr 1; rw [show ((min v (1 + t) : Nat) : Int) = 1 + (t : Int) by omega] at h ⊢; exact h) | (have h := ((HO.out.dr m1).put HTl.out c ((min v (1 + t) : Nat) : Int)).dr 1; rw [show ((min v (1 + t) : Nat) : Int) = (v : Int) by omega] at h ⊢; exact h), by exact ((belowDr hBr m1).setCell (p := ⟨_, _, none⟩) (Nat.le_refl _) _).drew⟩
              case measure => rw [HA.out]; simp [intOf]; omega
          · have HN := Lib.hid (seenF_miss HSeen.out HSub.out hge)
            go_wp2_with (go_at_call 50; with_reducible refine (l1Sum_any p a cap zs _ (by omega) (by omega) hg hIr).mono ?_; rintro e w' ⟨rfl, m1, rfl⟩)
            go_roundw
            case rel => exact ⟨(p - 1) &&& c, v, T, by omega, by rw [HA.out], HTl, HTab, HTV, HS2, HN, hO.dr m1, (belowDr hBr m1)⟩
            case measure => rw [HA.out]; simp [intOf]; omega
        · have HE : Hid (TabL zs size T (c + 1)) := HTab.out.next HTV.out (HEnd.out c v (by omega) hlt (by have h := HSeen.out; rwa [show p = 0 by omega] at h))
          go_wp2
          go_roundw
          case rel => exact ⟨c + 1, T, by omega, by omega, by go_num, HTl, HE, hO, hBr⟩
          case measure => simp [intOf]; omega
    · obtain rfl : P = c := by omega
      obtain ⟨k, hk, hmost⟩ := HTab.out (P - 1) (by omega)
      have HF : Hid (IsFew (roomP zs size) (2 ^ zs.length - 1) k) := by show IsFew _ _ _; rw [HPF.out]; exact hmost
      obtain ⟨g', cp', he, _, hgl, hcell⟩ := hO.at (by have := HTl.out; omega)
      simp only [Value.slice.injEq, Option.some.injEq, Addr.mk.injEq, and_true] at he
      obtain ⟨rfl, hq1, hq2⟩ := he
      clear hq1 hq2
      have hx1 := (hcell (P - 1) (by have := HTl.out; omega)).1
      rw [hk] at hx1
      have hx2 : wr.cell? ⟨w.heap.size, ((P : Int) - 1).toNat, none⟩ = some (.int .i64 k) := by rw [show ((P : Int) - 1).toNat = P - 1 by omega]; exact hx1
      clear hcell hk hmost
      go_wp2
      go_ret
      exact ⟨k, rfl, HF.out, hB⟩

/-- BinLeast's answer -/
def LeastR (zs : List Int) (size r : Int) (ok : Bool) : Prop :=
  (ok = true ∧ toldB zs size = true ∧ ∃ k : Nat, r = k ∧ IsFew (roomP zs size) (2 ^ zs.length - 1) k) ∨ (ok = false ∧ toldB zs size = false ∧ r = 0)
def LeastPost (w : World) (zs : List Int) (size : Int) (e : Ending) (w' : World) : Prop := ∃ r ok, e = .returned (.tuple #[.int .i64 r, .bool ok]) ∧ LeastR zs size r ok ∧ Below w.heap.size w w'

set_option maxHeartbeats 1600000 in
theorem sBinLeast_any (a : Option Addr) (cap : Nat) (zs : List Int) (size : Int) (w : World) (hl : zs.length ≤ 1000000) (hI : IntsAt w a zs) :
    Calls Tryz.prog 14 #[.slice a zs.length cap, .int .i64 size] w (LeastPost w zs size) := by
  have HG := Lib.hid (l4Given_any a cap zs size w hl hI)
  by_cases ht : toldB zs size = true
  · have HL := Lib.hid (l4Least_any a cap zs size w ht hI)
    have HT := Lib.hid ht
    rw [ht] at HG
    clear ht
    go_enter Tryz.func14, Tryz.ntmps14
    go_wp2_with fail
    refine HG.out.mono ?_
    rintro e w1 ⟨rfl, rfl⟩
    go_wp2_with fail
    refine HL.out.mono ?_
    rintro e w1 ⟨k, rfl, hk, hB⟩
    have HK := Lib.hid hk
    clear hk
    go_wp2_with fail
    go_ret2
    exact ⟨k, true, rfl, .inl ⟨rfl, HT.out, k, rfl, HK.out⟩, hB⟩
  · have ht' : toldB zs size = false := by simpa using ht
    have HT := Lib.hid ht'
    rw [ht'] at HG
    clear ht ht'
    go_enter Tryz.func14, Tryz.ntmps14
    go_wp2_with fail
    refine HG.out.mono ?_
    rintro e w1 ⟨rfl, rfl⟩
    go_wp2_with fail
    go_ret2
    exact ⟨0, false, rfl, .inr ⟨rfl, HT.out, rfl⟩, Below.refl _ _⟩
end Go.Proofs.YtdpapalfafjncaaGreatDoor
namespace Go.Proofs.YtdpapalfafjncaaGreatDoor
open Go.RowKit Go.Shelf

theorem OwnI.capC {w : World} {base L cap : Nat} {a : Option Addr} {zs : List Int} (h : OwnI w base (.slice a L cap) zs) : L ≤ cap := by
  obtain ⟨a', c', he, _, hc⟩ := h.shape
  simp only [Value.slice.injEq] at he
  obtain ⟨_, rfl, rfl⟩ := he
  exact hc
/-- a row without its last number -/
theorem OwnI.front {w : World} {base g cap n : Nat} {zs : List Int} {z : Int} (h : OwnI w base (.slice (some ⟨g, 0, none⟩) n cap) (zs ++ [z])) (_hn : n = zs.length + 1) : OwnI w base (.slice (some ⟨g, 0, none⟩) zs.length cap) zs := by
  obtain ⟨h1, h2⟩ := h
  refine ⟨by simp, .inr ?_⟩
  rcases h2 with ⟨h2, _⟩ | ⟨g', cap', cur, h2, h3, h4, h5, h6, h7, h8⟩
  · cases h2
  · simp only [Value.slice.injEq, Option.some.injEq, Addr.mk.injEq, and_true] at h2
    obtain ⟨rfl, _, rfl⟩ := h2
    rw [List.length_append, List.length_singleton] at h5 h8
    refine ⟨g, cap, cur, rfl, h3, h4, by omega, h6, h7, ?_⟩
    have := congrArg (List.take zs.length) h8
    rw [List.take_take] at this
    simp at this
    simpa using this

theorem _root_.Go.Boxed.kb3 {W W' : World} {B : Nat} {t : TypeId} {v : Value} (h : Boxed W B t v) (hb : Below W.heap.size W W') : Boxed W' B t v := (hb.block B h.lt).trans h
/-- the row is none of the two boxes -/
def Off (w0 : World) (v : Value) : Prop := ∀ g, v.ownBlock = some g → g ≠ w0.heap.size + 1 + 1 ∧ g ≠ w0.heap.size + 1 + 1 + 1
theorem OwnI.keptOff {W : World} {base g j : Nat} {v u : Value} {zs : List Int} (h : OwnI W base v zs) (hne : ∀ r, v.ownBlock = some r → r ≠ g) : OwnI (W.setCell ⟨g, j, none⟩ u) base v zs :=
  h.kept (grownBy_set W g j u) (by
    cases hv : v.ownBlock with
    | none => exact .inl rfl
    | some r => exact .inr (fun e => hne r hv (by cases e; rfl)))
/-- the closure's boxes behind block B: the least number, the rooms, the closure; the rooms lie in a row of its own -/
def PBx (w0 W : World) (bS bN : Nat) (rooms : List Int) (l : Nat) : Prop :=
  ∃ ar cr, Boxed W (w0.heap.size + 1 + 1) 23 (.slice ar rooms.length cr) ∧ Boxed W w0.heap.size 3 (.int .i64 l) ∧
    Boxed W (w0.heap.size + 1 + 1 + 1) 58 (.func (.func 32) #[] #[.pointer (some ⟨w0.heap.size + 1 + 1, 0, none⟩), .pointer (some ⟨w0.heap.size, 0, none⟩), .pointer (some ⟨bN, 0, none⟩), .pointer (some ⟨w0.heap.size + 1 + 1 + 1, 0, none⟩), .pointer (some ⟨bS, 0, none⟩)]) ∧
    OwnI W (w0.heap.size + 1) (.slice ar rooms.length cr) rooms ∧ Below w0.heap.size w0 W ∧ w0.heap.size + 4 ≤ W.heap.size ∧ Off w0 (.slice ar rooms.length cr)
def PL1Post (w0 : World) (bS bN : Nat) (size : Int) (xs rooms : List Int) (l : Nat) (e : Ending) (w' : World) : Prop :=
  e = .returned (.tuple #[]) ∧ ∃ l', IsCut (Pk size xs rooms) l l' ∧ PBx w0 w' bS bN rooms l'
theorem PBx.setL {w0 W : World} {bS bN : Nat} {rooms : List Int} {l : Nat} (h : PBx w0 W bS bN rooms l) (l' : Nat) : PBx w0 (W.setCell ⟨w0.heap.size, 0, none⟩ (.int .i64 l')) bS bN rooms l' := by
  obtain ⟨ar, cr, h1, h2, h3, h4, h5, h6, h7⟩ := h
  exact ⟨ar, cr, h1.other (by omega) _, h2.set _, h3.other (by omega) _, h4.kept_below (grownBy_set _ _ _ _) (fun r e => by cases e; omega), h5.setCell (p := ⟨_, _, none⟩) (Nat.le_refl _) _, by simpa using h6, h7⟩

theorem put_rooms {w0 W : World} {bS bN g cr q : Nat} {rooms : List Int} {l : Nat} (h1 : Boxed W (w0.heap.size + 1 + 1) 23 (.slice (some ⟨g, 0, none⟩) rooms.length cr)) (h2 : Boxed W w0.heap.size 3 (.int .i64 l))
    (h3 : Boxed W (w0.heap.size + 1 + 1 + 1) 58 (.func (.func 32) #[] #[.pointer (some ⟨w0.heap.size + 1 + 1, 0, none⟩), .pointer (some ⟨w0.heap.size, 0, none⟩), .pointer (some ⟨bN, 0, none⟩), .pointer (some ⟨w0.heap.size + 1 + 1 + 1, 0, none⟩), .pointer (some ⟨bS, 0, none⟩)]))
    (h4 : OwnI W (w0.heap.size + 1) (.slice (some ⟨g, 0, none⟩) rooms.length cr) rooms) (h5 : Below w0.heap.size w0 W) (h6 : w0.heap.size + 4 ≤ W.heap.size) (h7 : Off w0 (.slice (some ⟨g, 0, none⟩) rooms.length cr)) (y : Int) : PBx w0 (W.setCell ⟨g, q, none⟩ (.int .i64 y)) bS bN (rooms.set q y) l := by
  have hg := (h4.lt g rfl).1
  have ho := h7 g rfl
  refine ⟨some ⟨g, 0, none⟩, cr, ?_, h2.kept (grownBy_set W g q _) (fun e => by cases e; omega), h3.kept (grownBy_set W g q _) (fun e => by cases e; omega), ?_, h5.setCell (p := ⟨_, _, none⟩) (by show w0.heap.size ≤ g; omega) _, by simpa using h6, fun r e => by cases e; exact ho⟩
  · rw [List.length_set]; exact h1.kept (grownBy_set W g q _) (fun e => by cases e; omega)
  · rw [List.length_set]; exact h4.put rfl q y
theorem app_rooms {w0 wr w' : World} {bS bN n c' : Nat} {a' : Option Addr} {v0 : Value} {rooms L : List Int} {l : Nat} (h1 : Boxed wr (w0.heap.size + 1 + 1) 23 v0) (h2 : Boxed wr w0.heap.size 3 (.int .i64 l))
    (h3 : Boxed wr (w0.heap.size + 1 + 1 + 1) 58 (.func (.func 32) #[] #[.pointer (some ⟨w0.heap.size + 1 + 1, 0, none⟩), .pointer (some ⟨w0.heap.size, 0, none⟩), .pointer (some ⟨bN, 0, none⟩), .pointer (some ⟨w0.heap.size + 1 + 1 + 1, 0, none⟩), .pointer (some ⟨bS, 0, none⟩)]))
    (h4 : OwnI wr (w0.heap.size + 1) v0 rooms) (h5 : Below w0.heap.size w0 wr) (h6 : w0.heap.size + 4 ≤ wr.heap.size) (h7 : Off w0 v0) (hO : OwnI w' (w0.heap.size + 1) (.slice a' n c') L) (hG : wr.grownBy w' v0.ownBlock) (hq : (Value.slice a' n c').ownBlock = v0.ownBlock ∨ (Value.slice a' n c').ownBlock = some (wr.heap.size + 1)) (hn : L.length = n) :
    w'.cell? ⟨w0.heap.size + 1 + 1, 0, none⟩ = some v0 ∧ w'.frozen? ⟨w0.heap.size + 1 + 1, 0, none⟩ = false ∧ PBx w0 (w'.setCell ⟨w0.heap.size + 1 + 1, 0, none⟩ (.slice a' n c')) bS bN L l := by
  have hlo := h4.lt
  have k1 := h1.kept hG (fun e => (h7 _ e.symm).1 rfl)
  have k2 := h2.kept hG (fun e => by have := (hlo _ e.symm).1; omega)
  have k3 := h3.kept hG (fun e => (h7 _ e.symm).2 rfl)
  have k7 : Off w0 (.slice a' n c') := fun g e => by
    rcases hq with hq | hq
    · exact h7 g (hq.symm.trans e)
    · have := Option.some.inj (hq.symm.trans e); omega
  subst hn
  exact ⟨k1.cell, k1.frozen, a', c', k1.set _, k2.other (by omega) _, k3.other (by omega) _, hO.keptOff (fun r e => (k7 r e).1), (h5.grown hG (by omega) (fun k hk => by have := (hlo k hk).1; omega)).setCell (p := ⟨_, _, none⟩) (by show w0.heap.size ≤ w0.heap.size + 1 + 1; omega) _, by have := hG.size; simp; omega, k7⟩
def roomsOk (rooms : List Int) : Prop := ∀ i : Nat, 0 ≤ rooms[i]?.getD 0 ∧ rooms[i]?.getD 0 ≤ 100
theorem roomsOk.set {rooms : List Int} (h : roomsOk rooms) (j : Nat) {x : Int} (hx : 0 ≤ x ∧ x ≤ 100) : roomsOk (rooms.set j x) := fun i => by
  by_cases e : j = i
  · subst e
    by_cases hj : j < rooms.length
    · rw [List.getElem?_set_self hj]; exact hx
    · rw [List.getElem?_eq_none (by simp; omega)]; simp
  · rw [List.getElem?_set_ne e]; exact h i
theorem roomsOk.app {rooms : List Int} (h : roomsOk rooms) {x : Int} (hx : 0 ≤ x ∧ x ≤ 100) : roomsOk (rooms ++ [x]) := fun i => by
  by_cases e : i < rooms.length
  · rw [List.getElem?_append_left e]; exact h i
  · rw [List.getElem?_append_right (by omega)]
    by_cases e2 : i - rooms.length = 0
    · rw [e2]; exact hx
    · rw [List.getElem?_eq_none (by simp; omega)]; simp

set_option maxRecDepth 100000 in
set_option maxHeartbeats 3200000 in
theorem PL1_any (w0 : World) (bS bN : Nat) (an : Option Addr) (cn : Nat) (ns : List Int) (size : Int) (hs : 1 ≤ size ∧ size ≤ 100) (hn : ns.length ≤ 10) (hx : ∀ i : Nat, i < ns.length → 1 ≤ ns[i]?.getD 0 ∧ ns[i]?.getD 0 ≤ size)
    (hS : Boxed w0 bS 3 (.int .i64 size)) (hN : Boxed w0 bN 23 (.slice an ns.length cn)) (hI : IntsAt w0 an ns) :
    ∀ (k place : Nat) (rooms : List Int) (l : Nat) (w : World), place + k = ns.length → l ≤ 10 → roomsOk rooms → PBx w0 w bS bN rooms l →
    Calls Tryz.prog 32 #[.int .i64 place, .pointer (some ⟨w0.heap.size + 1 + 1, 0, none⟩), .pointer (some ⟨w0.heap.size, 0, none⟩), .pointer (some ⟨bN, 0, none⟩), .pointer (some ⟨w0.heap.size + 1 + 1 + 1, 0, none⟩), .pointer (some ⟨bS, 0, none⟩)] w
      (PL1Post w0 bS bN size (ns.drop place) rooms l) := by
  intro k
  induction k with
  | zero =>
    intro place rooms l w hp hl hr hP
    obtain rfl : place = ns.length := by omega
    rw [List.drop_length]
    have HP := Lib.hid hP
    obtain ⟨ar, cr, h1, h2, h3, h4, h5, h6, h7⟩ := hP
    have c1 := h1.cell
    have c2 := h2.cell
    have f2 := h2.frozen
    have cN := (hN.kb3 h5).cell
    clear h1 h2 h3 h4 h5 hS hN hI hr hp
    by_cases hlt : l ≤ rooms.length
    · clear hx
      go_enter Tryz.func32, Tryz.ntmps32
      go_wp2_with fail
      refine bodyPost_ret (v := .tuple #[]) (by simp [results, Tryz.f32, go_sem]) rfl ?_
      exact ⟨rfl, l, cut_skip hlt, HP.out⟩
    · clear hx
      go_enter Tryz.func32, Tryz.ntmps32
      go_wp2_with fail
      refine bodyPost_ret (v := .tuple #[]) (by simp [results, Tryz.f32, go_sem]) rfl ?_
      exact ⟨rfl, rooms.length, cut_nil (by omega), HP.out.setL _⟩
  | succ k ih =>
    intro place rooms l w hp hl hr hP
    have hplt : place < ns.length := by omega
    have HP := Lib.hid hP
    have HIX := Lib.hid (hx place hplt)
    have hdr : ns.drop place = (ns[place]?.getD 0) :: ns.drop (place + 1) := by rw [List.getElem?_eq_getElem hplt]; exact List.drop_eq_getElem_cons hplt
    obtain ⟨ar, cr, h1, h2, h3, h4, h5, h6, h7⟩ := hP
    have c1 := h1.cell
    have c2 := h2.cell
    have hBS := hS.kb3 h5
    have hBN := hN.kb3 h5
    have cN := hBN.cell
    have cS := hBS.cell
    obtain ⟨gn, on, rfl, hgn, hcn⟩ := (hI.below h5).at (by omega)
    have cx := hcn place hplt
    rw [hdr]
    have HDR := Lib.hid hdr
    obtain ⟨x, hxx⟩ : ∃ x, ns[place]?.getD 0 = x := ⟨_, rfl⟩
    rw [hxx] at cx HIX
    rw [hxx]
    clear hdr hxx hcn
    by_cases hlt : l ≤ rooms.length
    · clear hx h1 h2 h3 h4 h5 hS hN hI hr hBS hBN ih
      go_enter Tryz.func32, Tryz.ntmps32
      go_wp2_with fail
      refine bodyPost_ret (v := .tuple #[]) (by simp [results, Tryz.f32, go_sem]) rfl ?_
      exact ⟨rfl, l, cut_skip hlt, HP.out⟩
    have hpe : ((place : Int) == ns.length) = false := by rw [beq_eq_false_iff_ne]; omega
    have HR := Lib.hid hr
    have HK := Lib.hid hp
    have HH := Lib.hid h5
    clear h1 h2 h3 h4 h5 hBS hBN hr hp
    go_enter Tryz.func32, Tryz.ntmps32
    go_wp2_with fail
    go_loopw [25] (fun i wr => ∃ (q l1 : Nat), q ≤ rooms.length ∧ i = .int .i64 q ∧ IsCut (Old size x (ns.drop (place + 1)) rooms q) l l1 ∧ PBx w0 wr bS bN rooms l1) (fun i _ => rooms.length - (intOf i).toNat)
    case atStart => exact ⟨0, l, Nat.zero_le _, rfl, cut_start, HP.out⟩
    case round =>
      obtain ⟨q, l1, hq, rfl, hC, hP⟩ := hrel
      clear c1 c2 cN cS cx
      have hxb := HIX.out
      have HC := Lib.hid hC
      have hl1 : l1 ≤ l := hC.1
      have HPq := Lib.hid hP
      obtain ⟨ar, cr, h1, h2, h3, h4, h5, h6, h7⟩ := hP
      have c1 := h1.cell
      have c3 := h3.cell
      by_cases hlq : q < rooms.length
      · obtain ⟨g, cp, he, hgb, hgs, hcf⟩ := h4.at (by omega)
        simp only [Value.slice.injEq, true_and] at he
        obtain ⟨rfl, rfl⟩ := he
        obtain ⟨cq, fq⟩ := hcf q hlq
        have hrq := HR.out q
        obtain ⟨r, hrr⟩ : ∃ r, rooms[q]?.getD 0 = r := ⟨_, rfl⟩
        have HRR := Lib.hid hrr
        rw [hrr] at cq hrq
        clear hcf hC hrr
        by_cases hge : x ≤ r
        · have ho7 := h7 g rfl
          have HX2 := put_rooms h1 h2 h3 h4 h5 h6 h7 (q := q) (r - x)
          have hIH := ih (place + 1) (rooms.set q (r - x)) l1 _ (by have := HK.out; omega) (by omega) (HR.out.set q (by have := HIX.out; omega)) HX2
          rw [show ((place + 1 : Nat) : Int) = (place : Int) + 1 from rfl] at hIH
          have HIH := Lib.hid hIH
          have c3' : (wr.setCell ⟨g, q, none⟩ (.int .i64 (r - x))).cell? ⟨w0.heap.size + 1 + 1 + 1, 0, none⟩ = _ := (h3.kept (grownBy_set wr g q _) (fun e => ho7.2 (Option.some.inj e).symm)).cell
          clear h1 h2 h3 h4 h5 h7 hIH HX2 ih
          go_wp2_with fail
          refine HIH.out.mono ?_
          rintro e w3 ⟨rfl, l2, hC2, hP3⟩
          have HN := Lib.hid (cut_hit HC.out hlq (by rw [HRR.out]; exact hge) (by rw [HRR.out]; exact hC2))
          clear c1 c3 cq fq c3' HIH hC2
          obtain ⟨ar, cr3, h1, h2, h3, h4, h5, h6, h7⟩ := hP3
          obtain ⟨g3, cp3, he, hgb3, hgs3, hcf⟩ := h4.at (by rw [List.length_set]; omega)
          simp only [Value.slice.injEq, true_and] at he
          obtain ⟨rfl, rfl⟩ := he
          obtain ⟨cq, fq⟩ := hcf q (by rw [List.length_set]; exact hlq)
          rw [List.getElem?_set_self hlq] at cq
          have c1 := h1.cell
          rw [List.length_set] at c1
          have HX4 := put_rooms h1 h2 h3 h4 h5 h6 h7 (q := q) r
          rw [List.set_set, show rooms.set q r = rooms from by rw [← HRR.out, List.getElem?_eq_getElem hlq]; exact List.set_getElem_self hlq] at HX4
          have HX5 := Lib.hid HX4
          clear h1 h2 h3 h4 h5 h7 hcf HX4
          go_wp2_with fail
          go_roundw
          case rel => exact ⟨q + 1, l2, hlq, by go_num, HN.out, HX5.out⟩
          case measure => simp [intOf]; omega
        · have HN := Lib.hid (cut_miss HC.out (by rw [HRR.out]; exact hge))
          clear h1 h2 h3 h4 h5 h7 ih
          go_wp2_with fail
          go_roundw
          case rel => exact ⟨q + 1, l1, hlq, by go_num, HN.out, HPq.out⟩
          case measure => simp [intOf]; omega
      · obtain rfl : q = rooms.length := by omega
        have hBS := hS.kb3 h5
        have cS := hBS.cell
        have f1 := h1.frozen
        have hlen : rooms.length ≤ 1000000 := by omega
        have h6' : w0.heap.size + 1 ≤ wr.heap.size := by omega
        have HSB := Lib.hid hBS
        obtain ⟨v0, hv0⟩ : ∃ v0, Value.slice ar rooms.length cr = v0 := ⟨_, rfl⟩
        have hlo := h4.lt
        rw [hv0] at h4 hlo h7
        have h1' := h1
        rw [hv0] at c1 h1'
        clear HPq hC
        have HA := Lib.hid (fun (w' : World) (a' : Option Addr) (n c' : Nat) (hO' : OwnI w' (w0.heap.size + 1) (.slice a' n c') (rooms ++ [size - x])) (hG' : wr.grownBy w' v0.ownBlock) (hq : (Value.slice a' n c').ownBlock = v0.ownBlock ∨ (Value.slice a' n c').ownBlock = some (wr.heap.size + 1)) (hn : (rooms ++ [size - x]).length = n) => app_rooms (bS := bS) (bN := bN) (l := l1) h1' h2 h3 h4 h5 h6 h7 hO' hG' hq hn)
        have hRA := Lib.hid (HR.out.app (x := size - x) (by omega))
        clear h1 h1' h2 h3 h5
        go_wp2_with (at_builtin; refine append1B wr _ rfl rfl _ _ rfl (w0.heap.size + 1) v0 rooms (size - x) rfl rfl h4 hlen h6' ?_; intro v' w' hO' hG' hq'; obtain ⟨a', c', rfl, _, _⟩ := hO'.shape; have hne : (rooms ++ [size - x]).length = rooms.length + 1 := (by simp); rw [hne] at hO' hq'; obtain ⟨c1', f1', hP4⟩ := HA.out w' a' _ c' hO' hG' hq' hne; have c3' : (w'.setCell ⟨w0.heap.size + 1 + 1, 0, none⟩ (.slice a' (rooms.length + 1) c')).cell? ⟨w0.heap.size + 1 + 1 + 1, 0, none⟩ = _ := (by obtain ⟨_, _, _, _, k3, _⟩ := hP4; exact k3.cell); clear c1 f1 c3)
        have hIH := ih (place + 1) (rooms ++ [size - x]) l1 _ (by have := HK.out; omega) (by omega) hRA.out hP4
        rw [show ((place + 1 : Nat) : Int) = (place : Int) + 1 from rfl] at hIH
        refine hIH.mono ?_
        rintro e w5 ⟨rfl, l2, hC2, hP5⟩
        have HN := Lib.hid (cut_end HC.out hC2)
        clear hIH ih hC2 hP4 hO' hG' hq' c1' f1' c3' HA h4 h7
        obtain ⟨a5, c5, h1, h2, h3, h4, h5, h6, h7⟩ := hP5
        obtain ⟨g5, cp5, he, hgb5, hgs5, hcf⟩ := h4.at (by simp)
        simp only [Value.slice.injEq, true_and] at he
        obtain ⟨rfl, rfl⟩ := he
        have c1 := h1.cell
        have f1 := h1.frozen
        rw [List.length_append, List.length_singleton] at c1
        have HX := Lib.hid (show PBx w0 (w5.setCell ⟨w0.heap.size + 1 + 1, 0, none⟩ (.slice (some ⟨g5, 0, none⟩) rooms.length c5)) bS bN rooms l2 from
          ⟨_, c5, h1.set _, h2.other (by omega) _, h3.other (by omega) _, (h4.front (by simp)).keptOff (fun r e => by cases e; exact (h7 g5 rfl).1), h5.setCell (p := ⟨_, _, none⟩) (by show w0.heap.size ≤ w0.heap.size + 1 + 1; omega) _, by simpa using h6, fun r e => by cases e; exact h7 g5 rfl⟩)
        have hcap := h4.capC
        rw [List.length_append, List.length_singleton] at hcap
        clear h1 h2 h3 h4 h5 hcf
        go_wp2_with fail
        go_end0
        exact ⟨rfl, l2, HN.out, HX.out⟩
end Go.Proofs.YtdpapalfafjncaaGreatDoor
namespace Go.Proofs.YtdpapalfafjncaaGreatDoor
open Go.RowKit Go.Shelf

theorem least_some {p : Nat → Prop} : ∀ (n : Nat), p n → ∃ m, p m ∧ ∀ j, p j → m ≤ j := fun n => by
  induction n using Nat.strongRecOn with
  | ind n ih =>
    intro hn
    by_cases h : ∃ j, j < n ∧ p j
    · obtain ⟨j, hj, hp⟩ := h
      exact ih j hj hp
    · exact ⟨n, hn, fun j hj => Nat.le_of_not_lt fun hlt => h ⟨j, hlt, hj⟩⟩
theorem least_is {zs : List Int} {size : Int} {l : Nat} (ht : toldB zs size = true) (h : IsCut (Pk size (sortD zs) []) zs.length l) : IsFew (roomP zs size) (2 ^ zs.length - 1) l := by
  obtain ⟨hz, hs1, hs2, hle⟩ := toldB_is ht
  have hg := ((inL_iff zs).1 hz).2
  have hp := Nat.two_pow_pos zs.length
  obtain ⟨m, hm, hC⟩ := cov_ones zs.length (2 ^ zs.length - 1) (by omega) (bit_room hle (by omega))
  obtain ⟨k, hk1, hk2⟩ := least_some m hC
  have hF : IsFew (roomP zs size) (2 ^ zs.length - 1) k := ⟨hk1, hk2⟩
  rwa [← least_same hg hle hF h]

set_option maxRecDepth 100000 in
set_option maxHeartbeats 3200000 in
theorem BinLeast_any (a : Option Addr) (cap : Nat) (zs : List Int) (size : Int) (w : World) (hl : zs.length ≤ 1000000) (hI : IntsAt w a zs) :
    Calls Tryz.prog 13 #[.slice a zs.length cap, .int .i64 size] w (LeastPost w zs size) := by
  have hB0 : Below w.heap.size w (w.alloc (.cells #[.int .i64 size] 3)) := (Below.refl _ w).alloc (Nat.le_refl _) _
  have hbS := Boxed.new w 3 (.int .i64 size)
  have HG := Lib.hid (binsTold_any a cap zs size (w.alloc (.cells #[.int .i64 size] 3)) hl (hI.below hB0))
  by_cases ht : toldB zs size = true
  case neg =>
    have ht' : toldB zs size = false := by simpa using ht
    have HT := Lib.hid ht'
    rw [ht'] at HG
    clear ht ht'
    go_enter Tryz.func13, Tryz.ntmps13
    go_wp2_with fail
    refine HG.out.mono ?_
    rintro e w1 ⟨rfl, rfl⟩
    go_wp2_with fail
    go_ret2
    exact ⟨0, false, rfl, .inr ⟨rfl, HT.out, rfl⟩, hB0⟩
  obtain ⟨hz, hs1, hs2, hle⟩ := toldB_is ht
  have hzl := (inL_iff zs).1 hz
  have hpm := sortD_perm zs
  have hln : (sortD zs).length = zs.length := sortD_length zs
  have HT := Lib.hid ht
  have HO := Lib.hid (inOrder_any a cap zs (w.alloc (.cells #[.int .i64 size] 3)) (by omega) (hI.below hB0))
  rw [ht] at HG
  have HX : Hid (∀ i : Nat, i < (sortD zs).length → 1 ≤ (sortD zs)[i]?.getD 0 ∧ (sortD zs)[i]?.getD 0 ≤ size) := fun i hi => by
    rw [List.getElem?_eq_getElem hi]
    have hm := hpm.subset (List.getElem_mem hi)
    exact ⟨(hzl.2 _ hm).1, hle _ hm⟩
  have hl10 := hzl.1
  clear ht hz hle hzl hpm
  go_enter Tryz.func13, Tryz.ntmps13
  go_wp2_with fail
  refine HG.out.mono ?_
  rintro e w1 ⟨rfl, rfl⟩
  go_wp2_with fail
  refine HO.out.mono ?_
  rintro e w1 ⟨v, rfl, hO, hB1⟩
  obtain ⟨an, cn, rfl, hIn, _⟩ := hO.shape
  have hbS1 := hbS.kb3 hB1
  rw [hln] at hO ⊢
  have hPL : Hid (∀ w0, w1.alloc (.cells #[.slice an zs.length cn] 23) = w0 → ∀ W, ((((w0.alloc (.cells #[.int .i64 zs.length] 3)).alloc (.cells #[] 3)).alloc (.cells #[.slice (some ⟨w0.heap.size + 1, 0, none⟩) 0 0] 23)).alloc (.cells #[.func (.func 32) #[] #[.pointer (some ⟨w0.heap.size + 1 + 1, 0, none⟩), .pointer (some ⟨w0.heap.size, 0, none⟩), .pointer (some ⟨w1.heap.size, 0, none⟩), .pointer (some ⟨w0.heap.size + 1 + 1 + 1, 0, none⟩), .pointer (some ⟨w.heap.size, 0, none⟩)]] 58)) = W →
      Calls Tryz.prog 32 #[.int .i64 (0 : Nat), .pointer (some ⟨w0.heap.size + 1 + 1, 0, none⟩), .pointer (some ⟨w0.heap.size, 0, none⟩), .pointer (some ⟨w1.heap.size, 0, none⟩), .pointer (some ⟨w0.heap.size + 1 + 1 + 1, 0, none⟩), .pointer (some ⟨w.heap.size, 0, none⟩)] W (PL1Post w0 w.heap.size w1.heap.size size ((sortD zs).drop 0) [] zs.length)) := by
    intro w0 hw0 W hW
    have hsz0 : w0.heap.size = w1.heap.size + 1 := by rw [← hw0]; simp
    have hN0 : Boxed w0 w1.heap.size 23 (.slice an (sortD zs).length cn) := by rw [hln, ← hw0]; exact Boxed.new w1 _ _
    have hS0 : Boxed w0 w.heap.size 3 (.int .i64 size) := by rw [← hw0]; exact hbS1.alloc _
    have hI0 : IntsAt w0 an (sortD zs) := by rw [← hw0]; exact hIn.below ((Below.refl _ w1).alloc (Nat.le_refl _) _)
    refine PL1_any w0 w.heap.size w1.heap.size an cn (sortD zs) size ⟨hs1, hs2⟩ (by omega) HX.out hS0 hN0 hI0 zs.length 0 [] zs.length W (by omega) hl10 (fun i => by simp) ?_
    have b1 := Boxed.new w0 3 (.int .i64 zs.length)
    have b2 := Boxed.new ((w0.alloc (.cells #[.int .i64 zs.length] 3)).alloc (.cells #[] 3)) 23 (.slice (some ⟨w0.heap.size + 1, 0, none⟩) 0 0)
    have b3 := Boxed.new (((w0.alloc (.cells #[.int .i64 zs.length] 3)).alloc (.cells #[] 3)).alloc (.cells #[.slice (some ⟨w0.heap.size + 1, 0, none⟩) 0 0] 23)) 58 (.func (.func 32) #[] #[.pointer (some ⟨w0.heap.size + 1 + 1, 0, none⟩), .pointer (some ⟨w0.heap.size, 0, none⟩), .pointer (some ⟨w1.heap.size, 0, none⟩), .pointer (some ⟨w0.heap.size + 1 + 1 + 1, 0, none⟩), .pointer (some ⟨w.heap.size, 0, none⟩)])
    have hO2 := World.ownsRow_lit (base := w0.heap.size + 1) (e := 3) (size := 1) (w0.alloc (.cells #[.int .i64 zs.length] 3)) #[] 0 (by simp) (by unfold maxLen; omega) (by simp)
    have hO3 : OwnI ((w0.alloc (.cells #[.int .i64 zs.length] 3)).alloc (.cells #[] 3)) (w0.heap.size + 1) (.slice (some ⟨w0.heap.size + 1, 0, none⟩) 0 0) [] := by unfold OwnI; simpa using hO2
    simp only [World.size_alloc] at b2 b3
    rw [← hW]
    exact ⟨some ⟨w0.heap.size + 1, 0, none⟩, 0, b2.alloc _, ((b1.alloc _).alloc _).alloc _, b3, (hO3.alloc _).alloc _, (((((Below.refl _ w0).alloc (Nat.le_refl _) _).alloc (by simp) _).alloc (by simp; omega) _).alloc (by simp; omega) _), by simp, fun g e => by simp only [Value.ownBlock, Option.some.injEq] at e; omega⟩
  clear hbS hO HG HO hbS1 HX
  go_wp2_with fail
  have HC := hPL.out _ rfl _ rfl
  simp only [World.size_alloc] at HC
  refine HC.mono ?_
  rintro e w5 ⟨rfl, l', hC, hP⟩
  rw [List.drop_zero] at hC
  obtain ⟨ar, cr, h1, h2, h3, h4, h5, h6, h7⟩ := hP
  rw [World.size_alloc] at h2
  have c2 := h2.cell
  have hF := Lib.hid (least_is HT.out hC)
  have hB5 : Hid (Below w.heap.size w w5) := hB0.trans ((hB1.mono (by simp)).trans (((Below.refl w.heap.size w1).alloc (by have := hB1.size; simp at this; omega) _).trans (h5.mono (by have := hB1.size; simp at this ⊢; omega))))
  clear h1 h2 h3 h4 h5 h6 h7 HC hPL hC
  go_wp2_with fail
  go_ret2
  exact ⟨l', true, rfl, .inl ⟨rfl, HT.out, l', rfl, hF.out⟩, hB5.out⟩
end Go.Proofs.YtdpapalfafjncaaGreatDoor
