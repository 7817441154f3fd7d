/- Loads put where a list tells: their sums. Conditions: stated in each. LoadOf of both, and its draw. Conditions: none but that the lists are short enough to be counted. -/
import Derived.Test.YtacedadenbinmaaZn
import Derived.Test.YtacedadenbinmaaZo
import Derived.Test.YtacedadenbinmaaZi
import Derived.OwnWalk
set_option linter.unusedVariables false
set_option linter.unusedSimpArgs false
set_option linter.unusedSectionVars false
namespace Go.Proofs.Ytacedadenbinmaa

/-- the sums when each load is put on the machine that is told -/
def putS : List Int → List Int → List Int → List Int
  | x :: xs, p :: ps, ss => putS xs ps (putAt ss p.toNat x)
  | _, _, ss => ss
/-- all machines are there -/
def inR (m : Int) (ps : List Int) : Prop := ∀ p ∈ ps, 0 ≤ p ∧ p < m
theorem putS_length : ∀ (zs ps ss : List Int), (putS zs ps ss).length = ss.length
  | [], ps, ss => by simp [putS]
  | x :: xs, [], ss => by simp [putS]
  | x :: xs, p :: ps, ss => by rw [putS, putS_length, putAt_length]
theorem putS_snoc : ∀ (xs ps ss : List Int) (x p : Int), xs.length = ps.length → putS (xs ++ [x]) (ps ++ [p]) ss = putAt (putS xs ps ss) p.toNat x
  | [], [], ss, x, p, _ => by simp [putS]
  | y :: ys, q :: qs, ss, x, p, h => by
    simp only [List.cons_append, putS]
    exact putS_snoc ys qs _ x p (by simpa using h)
theorem putS_mem : ∀ (zs ps ss : List Int), zs.length = ps.length → inR ss.length ps → gre (putS zs ps ss) ∈ spans zs ss
  | [], [], ss, _, _ => by simp [putS, spans]
  | x :: xs, p :: ps, ss, h, hr => by
    have h0 := hr p (by simp)
    rw [putS]
    refine mem_spans.2 ⟨p.toNat, by omega, putS_mem xs ps _ (by simpa using h) ?_⟩
    rw [putAt_length]
    exact fun q hq => hr q (by simp [hq])
theorem putS_sum : ∀ (zs ps ss : List Int), zs.length = ps.length → inR ss.length ps → (putS zs ps ss).sum = ss.sum + zs.sum
  | [], [], ss, _, _ => by simp [putS]
  | x :: xs, p :: ps, ss, h, hr => by
    have h0 := hr p (by simp)
    rw [putS, putS_sum xs ps _ (by simpa using h) (by rw [putAt_length]; exact fun q hq => hr q (by simp [hq])), sum_putAt _ _ _ (by omega), List.sum_cons]
    omega
theorem putS_in : ∀ (zs ps ss : List Int) (b : Int), good zs → zs.length = ps.length → inR ss.length ps → (∀ y ∈ ss, 0 ≤ y ∧ y ≤ b) → ∀ y ∈ putS zs ps ss, 0 ≤ y ∧ y ≤ b + 60 * zs.length
  | [], [], ss, b, _, _, _, h => fun y hy => by have := h y hy; simp only [List.length_nil]; omega
  | x :: xs, p :: ps, ss, b, hz, hl, hr, h => fun y hy => by
    have h0 := hr p (by simp)
    have h1 : ∀ y ∈ putAt ss p.toNat x, 0 ≤ y ∧ y ≤ b + 60 := fun y hy => by
      obtain ⟨i, hi, rfl⟩ := List.getElem_of_mem hy
      rw [putAt_length] at hi
      have hx := hz x (by simp)
      have hk := h (ss[p.toNat]?.getD 0) (by rw [List.getElem?_eq_getElem (by omega)]; exact List.getElem_mem _)
      have hi' := h (ss[i]) (List.getElem_mem _)
      simp only [putAt, List.getElem_set]
      split <;> omega
    have := putS_in xs ps (putAt ss p.toNat x) (b + 60) (fun u hu => hz u (by simp [hu])) (by simpa using hl) (by rw [putAt_length]; exact fun q hq => hr q (by simp [hq])) h1 y hy
    simp only [List.length_cons]
    omega
/-- what the law asks -/
theorem of_law {zs ps : List Int} {m : Nat} (hg : good zs) (hl : zs.length ≤ 10) (hm : 1 ≤ m) (hp : zs.length = ps.length) (hr : inR m ps) :
    (putS zs ps (List.replicate m 0)).length = m ∧ tot (putS zs ps (List.replicate m 0)) = tot zs ∧ opt zs m ≤ gre (putS zs ps (List.replicate m 0)) := by
  have hr' : inR (List.replicate m (0 : Int)).length ps := by rw [List.length_replicate]; exact hr
  refine ⟨by rw [putS_length, List.length_replicate], ?_, opt_le (putS_mem zs ps _ hp hr')⟩
  rw [← tot_sum, ← tot_sum, putS_sum zs ps _ hp hr', zeros_sum]
  omega
end Go.Proofs.Ytacedadenbinmaa
namespace Go.Proofs.Ytacedadenbinmaa
open Go.RowKit

def inRb (m : Int) (ps : List Int) : Bool := ps.all fun p => decide (0 ≤ p) && decide (p < m)
theorem inRb_iff (m : Int) (ps : List Int) : inRb m ps = true ↔ inR m ps := by simp [inRb, inR]
/-- the loads and where they are put are as told -/
def ofB (zs : List Int) (m : Int) (ps : List Int) : Bool := toldL zs m && (decide (ps.length = zs.length) && inRb m ps)
def ofL (zs : List Int) (m : Int) (ps : List Int) : List Int := if ofB zs m ps = true then putS zs ps (List.replicate m.toNat 0) else []
def OfPost (zs : List Int) (m : Int) (ps : List Int) (w : World) (e : Ending) (w' : World) : Prop :=
  ∃ v, e = .returned (.tuple #[v, .bool (ofB zs m ps)]) ∧ OwnI w' w.heap.size v (ofL zs m ps) ∧ Below w.heap.size w w'
theorem inR_snoc {m : Int} {ps : List Int} {k : Nat} (h : inR m (ps.take k)) (hk : k < ps.length) (hp : 0 ≤ ps[k]?.getD 0 ∧ ps[k]?.getD 0 < m) : inR m (ps.take (k + 1)) := fun p hm => by
  rw [take_snoc ps k hk] at hm
  rcases List.mem_append.1 hm with h1 | h1
  · exact h p h1
  · rw [List.mem_singleton.1 h1]; exact hp
theorem ofB_bad {zs : List Int} {m : Int} {ps : List Int} {k : Nat} (hk : k < ps.length) (hp : ¬ (0 ≤ ps[k]?.getD 0 ∧ ps[k]?.getD 0 < m)) : ofB zs m ps = false := by
  have : inRb m ps = false := by
    rw [Bool.eq_false_iff]
    intro h
    exact hp ((inRb_iff m ps).1 h _ (by rw [List.getElem?_eq_getElem hk]; exact List.getElem_mem hk))
  simp [ofB, this]
theorem putS_step {zs ps ss : List Int} {k : Nat} (h1 : k < zs.length) (h2 : k < ps.length) : putS (zs.take (k + 1)) (ps.take (k + 1)) ss = putAt (putS (zs.take k) (ps.take k) ss) (ps[k]?.getD 0).toNat (zs[k]?.getD 0) := by
  rw [take_snoc zs k h1, take_snoc ps k h2, putS_snoc]
  rw [List.length_take, List.length_take]; omega

set_option maxRecDepth 100000 in
set_option maxHeartbeats 3200000 in
theorem LoadOf_any (a b : Option Addr) (cap cap' : Nat) (zs ps : List Int) (m : Int) (w : World) (hl : zs.length ≤ 2000000) (_hlp : ps.length ≤ 2000000) (hI : IntsAt w a zs) (hJ : IntsAt w b ps) :
    Calls Try.prog 19 #[.slice a zs.length cap, .int .i64 m, .slice b ps.length cap'] w (OfPost zs m ps w) := by
  have HO : Hid (∀ W : World, w.heap.size ≤ W.heap.size → OwnI (W.alloc (.cells #[] 3)) w.heap.size (.slice (some ⟨W.heap.size, 0, none⟩) 0 0) []) := fun W h => World.ownsRow_lit W #[] 0 h (by unfold maxLen; omega) (by simp)
  by_cases hz : toldL zs m = true
  case neg =>
    have hz' : toldL zs m = false := by simpa using hz
    have hb : ofB zs m ps = false := by simp [ofB, hz']
    unfold OfPost
    rw [ofL, hb, if_neg (by simp)]
    have HZ := Lib.hid hz'
    clear hz hz' hb
    go_enter Try.func19, Try.ntmps19
    go_wp2_with (go_at_call 39; refine (loadsTold_any a cap zs m _ (by omega) hI).mono ?_; rw [HZ.out]; rintro e w' ⟨rfl, rfl⟩)
    all_goals
      go_ret2
      exact ⟨_, rfl, HO.out _ (Nat.le_refl _), (Below.refl _ _).alloc (Nat.le_refl _) _⟩
  by_cases hlen : ps.length = zs.length
  case neg =>
    have hb : ofB zs m ps = false := by simp [ofB, hlen]
    unfold OfPost
    rw [ofL, hb, if_neg (by simp)]
    have HZ := Lib.hid hz
    clear hz hb
    have hne : ((ps.length : Int) == zs.length) = false := by rw [beq_eq_false_iff_ne]; omega
    clear hlen
    go_enter Try.func19, Try.ntmps19
    go_wp2_with (go_at_call 39; refine (loadsTold_any a cap zs m _ (by omega) hI).mono ?_; rw [HZ.out]; rintro e w' ⟨rfl, rfl⟩)
    all_goals
      go_ret2
      exact ⟨_, rfl, HO.out _ (Nat.le_refl _), (Below.refl _ _).alloc (Nat.le_refl _) _⟩
  obtain ⟨⟨h10, hg⟩, hm1, hm5⟩ := (toldL_iff zs m).1 hz
  obtain ⟨M, rfl⟩ := Int.eq_ofNat_of_zero_le (show 0 ≤ m by omega)
  have HZ := Lib.hid hz
  have HLn := Lib.hid hlen
  have hne : ((ps.length : Int) == zs.length) = true := by rw [beq_iff_eq]; omega
  have hl1 : zs.length ≤ ps.length := by omega
  have hl2 : ps.length ≤ zs.length := by omega
  clear hz hlen
  go_enter Try.func19, Try.ntmps19
  go_wp2_with (first | (go_at_call 39; refine (loadsTold_any a cap zs M _ (by omega) hI).mono ?_; rw [HZ.out]; rintro e w' ⟨rfl, rfl⟩) | (at_make; refine makeI _ rfl _ _ rfl M _ rfl rfl rfl (by omega) ?_; intro w2 hO2 hG2))
  have hB : Below w.heap.size w w2 := ⟨hG2.os, hG2.tape, hG2.output, hG2.size, fun k hk => hG2.block k hk (by simp)⟩
  obtain ⟨g1, hg1⟩ : ∃ g, w.heap.size = g := ⟨_, rfl⟩
  have HG1 := Lib.hid hg1
  rw [hg1] at hB hO2 ⊢
  clear hG2 hne
  go_loopw [27] (fun i wr => ∃ k : Nat, k ≤ ps.length ∧ i = .int .i64 k ∧ inR M (ps.take k) ∧ OwnI wr g1 (.slice (some ⟨g1, 0, none⟩) M M) (putS (zs.take k) (ps.take k) (List.replicate M 0)) ∧ Below g1 w wr) (fun i _ => ps.length - (intOf i).toNat)
  case atStart => exact ⟨0, Nat.zero_le _, rfl, (fun p hp => by simp at hp), hO2, hB⟩
  case round =>
    obtain ⟨k, hk, rfl, hR, hQ, hBr⟩ := hrel
    clear hB hO2
    have hsl : (putS (zs.take k) (ps.take k) (List.replicate M 0)).length = M := by rw [putS_length, List.length_replicate]
    have hbd := putS_in (zs.take k) (ps.take k) (List.replicate M 0) 0 (fun u hu => hg u (List.mem_of_mem_take hu)) (by rw [List.length_take, List.length_take]; omega) (by rw [List.length_replicate]; exact hR) (fun y hy => by have := List.eq_of_mem_replicate hy; omega)
    rw [List.length_take] at hbd
    by_cases hlt : k < ps.length
    · have HN := Lib.hid (putS_step (ss := List.replicate M 0) (show k < zs.length by omega) hlt)
      have HBad := Lib.hid (ofB_bad (zs := zs) (m := M) hlt)
      have HRn := Lib.hid (inR_snoc hR hlt)
      generalize hss : putS (zs.take k) (ps.take k) (List.replicate M 0) = ss at hQ hsl hbd HN
      clear hss hR
      obtain ⟨b1, o1, rfl, hb1, hc1⟩ := (hI.below (w' := wr) (by rw [hg1]; exact hBr)).at (by omega)
      obtain ⟨b2, o2, rfl, hb2, hc2⟩ := (hJ.below (w' := wr) (by rw [hg1]; exact hBr)).at (by omega)
      have hx := hc1 k (by omega)
      have hp := hc2 k hlt
      have hgx := good_get hg k (by omega)
      generalize zs[k]?.getD 0 = x at hx hgx HN
      generalize ps[k]?.getD 0 = p at hp HN HBad HRn
      clear hc1 hc2
      by_cases hpr : 0 ≤ p ∧ p < M
      · obtain ⟨P, rfl⟩ := Int.eq_ofNat_of_zero_le hpr.1
        have hPM : P < M := by omega
        obtain ⟨gq, cpq, heQ, _, _, hqf⟩ := hQ.at (by omega)
        simp only [Value.slice.injEq, Option.some.injEq, Addr.mk.injEq, and_true] at heQ
        obtain ⟨rfl, heQ2⟩ := heQ
        clear heQ2
        obtain ⟨cs1, fs1⟩ := hqf P (by omega)
        have HST : Hid (putAt ss P x = ss.set P (ss[P]?.getD 0 + x)) := rfl
        have hyb := hbd (ss[P]?.getD 0) (by rw [List.getElem?_eq_getElem (by omega)]; exact List.getElem_mem _)
        generalize ss[P]?.getD 0 = y at cs1 HST hyb
        have hw1 : IntKind.i64.wrap (y + x) = y + x := IntWalk.i64_in _ (by omega)
        have HQ := Lib.hid hQ
        have HSL := Lib.hid hsl
        have HBr := Lib.hid hBr
        clear hbd hQ hsl hI hJ hg hqf hBr HBad
        go_wp2_with fail
        go_region
        go_wp2_with fail
        refine ⟨⟨k + 1, by omega, by go_num, HRn.out ⟨by omega, by omega⟩, ?_, ?_⟩, by simp [intOf]; omega⟩
        · rw [HN.out, Int.toNat_natCast, HST.out]
          exact (HQ.out.dr _).put HSL.out P (y + x)
        · exact (belowDr HBr.out _).setCell (p := ⟨_, _, none⟩) (Nat.le_refl _) _
      · have hb := HBad.out hpr
        have HQ := Lib.hid hQ
        have HBr := Lib.hid hBr
        unfold OfPost
        rw [ofL, hb, if_neg (by simp)]
        clear hbd hQ hsl hI hJ hg hBr HBad HRn HN hb
        by_cases hp0 : p < 0
        all_goals
          go_wp2_with fail
          go_ret2
          have hq1 := HG1.out
          have hq2 := HBr.out.size
          exact ⟨_, rfl, by first | exact HO.out _ hq2 | (rw [← hq1]; exact HO.out _ hq2), by first | exact HBr.out.alloc (by omega) _ | (rw [hq1]; exact HBr.out.alloc (by omega) _)⟩
    · have hb : ofB zs M ps = true := by
        rw [List.take_of_length_le (by omega)] at hR
        simp [ofB, HZ.out, HLn.out, (inRb_iff M ps).2 hR]
      rw [List.take_of_length_le (by omega), List.take_of_length_le (by omega)] at hQ
      have HQ := Lib.hid hQ
      have HBt := Lib.hid hb
      clear hb hQ hsl hbd hR
      go_wp2
      go_ret2
      exact ⟨_, by rw [HBt.out]; rfl, by rw [HG1.out, ofL, HBt.out, if_pos rfl, Int.toNat_natCast]; exact HQ.out, by rw [HG1.out]; exact hBr⟩

set_option maxRecDepth 100000 in
set_option maxHeartbeats 3200000 in
theorem sLoadOf_any (a b : Option Addr) (cap cap' : Nat) (zs ps : List Int) (m : Int) (w : World) (hl : zs.length ≤ 2000000) (_hlp : ps.length ≤ 2000000) (hI : IntsAt w a zs) (hJ : IntsAt w b ps) :
    Calls Try.prog 20 #[.slice a zs.length cap, .int .i64 m, .slice b ps.length cap'] w (OfPost zs m ps w) := by
  have HO : Hid (∀ W : World, w.heap.size ≤ W.heap.size → OwnI (W.alloc (.cells #[] 3)) w.heap.size (.slice (some ⟨W.heap.size, 0, none⟩) 0 0) []) := fun W h => World.ownsRow_lit W #[] 0 h (by unfold maxLen; omega) (by simp)
  by_cases hz : toldL zs m = true
  case neg =>
    have hz' : toldL zs m = false := by simpa using hz
    have hb : ofB zs m ps = false := by simp [ofB, hz']
    unfold OfPost
    rw [ofL, hb, if_neg (by simp)]
    have HZ := Lib.hid hz'
    clear hz hz' hb
    go_enter Try.func20, Try.ntmps20
    go_wp2_with (go_at_call 37; refine (l5Given_any a cap zs m _ (by omega) hI).mono ?_; rw [HZ.out]; rintro e w' ⟨rfl, rfl⟩)
    all_goals
      go_ret2
      exact ⟨_, rfl, HO.out _ (Nat.le_refl _), (Below.refl _ _).alloc (Nat.le_refl _) _⟩
  by_cases hlen : ps.length = zs.length
  case neg =>
    have hb : ofB zs m ps = false := by simp [ofB, hlen]
    unfold OfPost
    rw [ofL, hb, if_neg (by simp)]
    have HZ := Lib.hid hz
    clear hz hb
    have hne : ((ps.length : Int) == zs.length) = false := by rw [beq_eq_false_iff_ne]; omega
    clear hlen
    go_enter Try.func20, Try.ntmps20
    go_wp2_with (go_at_call 37; refine (l5Given_any a cap zs m _ (by omega) hI).mono ?_; rw [HZ.out]; rintro e w' ⟨rfl, rfl⟩)
    all_goals
      go_ret2
      exact ⟨_, rfl, HO.out _ (Nat.le_refl _), (Below.refl _ _).alloc (Nat.le_refl _) _⟩
  obtain ⟨⟨h10, hg⟩, hm1, hm5⟩ := (toldL_iff zs m).1 hz
  obtain ⟨M, rfl⟩ := Int.eq_ofNat_of_zero_le (show 0 ≤ m by omega)
  have HZ := Lib.hid hz
  have HLn := Lib.hid hlen
  have hne : ((ps.length : Int) == zs.length) = true := by rw [beq_iff_eq]; omega
  have hl1 : zs.length ≤ ps.length := by omega
  have hl2 : ps.length ≤ zs.length := by omega
  clear hz hlen
  go_enter Try.func20, Try.ntmps20
  go_wp2_with (first | (go_at_call 37; refine (l5Given_any a cap zs M _ (by omega) hI).mono ?_; rw [HZ.out]; rintro e w' ⟨rfl, rfl⟩) | (at_make; refine makeI _ rfl _ _ rfl M _ rfl rfl rfl (by omega) ?_; intro w2 hO2 hG2))
  have hB : Below w.heap.size w w2 := ⟨hG2.os, hG2.tape, hG2.output, hG2.size, fun k hk => hG2.block k hk (by simp)⟩
  obtain ⟨g1, hg1⟩ : ∃ g, w.heap.size = g := ⟨_, rfl⟩
  have HG1 := Lib.hid hg1
  rw [hg1] at hB hO2 ⊢
  clear hG2 hne
  go_loopw [9] (fun i wr => ∃ k : Nat, k ≤ zs.length ∧ i = .int .i64 k ∧ inR M (ps.take k) ∧ OwnI wr g1 (.slice (some ⟨g1, 0, none⟩) M M) (putS (zs.take k) (ps.take k) (List.replicate M 0)) ∧ Below g1 w wr) (fun i _ => zs.length - (intOf i).toNat)
  case atStart => exact ⟨0, Nat.zero_le _, rfl, (fun p hp => by simp at hp), hO2, hB⟩
  case round =>
    obtain ⟨k, hk, rfl, hR, hQ, hBr⟩ := hrel
    clear hB hO2
    have hsl : (putS (zs.take k) (ps.take k) (List.replicate M 0)).length = M := by rw [putS_length, List.length_replicate]
    have hbd := putS_in (zs.take k) (ps.take k) (List.replicate M 0) 0 (fun u hu => hg u (List.mem_of_mem_take hu)) (by rw [List.length_take, List.length_take]; omega) (by rw [List.length_replicate]; exact hR) (fun y hy => by have := List.eq_of_mem_replicate hy; omega)
    rw [List.length_take] at hbd
    by_cases hlt : k < zs.length
    · have hkp : k < ps.length := by omega
      have HN := Lib.hid (putS_step (ss := List.replicate M 0) hlt hkp)
      have HBad := Lib.hid (ofB_bad (zs := zs) (m := M) hkp)
      have HRn := Lib.hid (inR_snoc hR hkp)
      generalize hss : putS (zs.take k) (ps.take k) (List.replicate M 0) = ss at hQ hsl hbd HN
      clear hss hR
      obtain ⟨b1, o1, rfl, hb1, hc1⟩ := (hI.below (w' := wr) (by rw [hg1]; exact hBr)).at (by omega)
      obtain ⟨b2, o2, rfl, hb2, hc2⟩ := (hJ.below (w' := wr) (by rw [hg1]; exact hBr)).at (by omega)
      have hx := hc1 k hlt
      have hp := hc2 k hkp
      have hgx := good_get hg k hlt
      generalize zs[k]?.getD 0 = x at hx hgx HN
      generalize ps[k]?.getD 0 = p at hp HN HBad HRn
      clear hc1 hc2
      by_cases hpr : 0 ≤ p ∧ p < M
      · obtain ⟨P, rfl⟩ := Int.eq_ofNat_of_zero_le hpr.1
        have hPM : P < M := by omega
        obtain ⟨gq, cpq, heQ, _, _, hqf⟩ := hQ.at (by omega)
        simp only [Value.slice.injEq, Option.some.injEq, Addr.mk.injEq, and_true] at heQ
        obtain ⟨rfl, heQ2⟩ := heQ
        clear heQ2
        obtain ⟨cs1, fs1⟩ := hqf P (by omega)
        have HST : Hid (putAt ss P x = ss.set P (ss[P]?.getD 0 + x)) := rfl
        have hyb := hbd (ss[P]?.getD 0) (by rw [List.getElem?_eq_getElem (by omega)]; exact List.getElem_mem _)
        generalize ss[P]?.getD 0 = y at cs1 HST hyb
        have hw1 : IntKind.i64.wrap (y + x) = y + x := IntWalk.i64_in _ (by omega)
        have hin : (decide ((0 : Int) ≤ P) && decide ((P : Int) ≤ M - 1)) = true := by simp; omega
        have HQ := Lib.hid hQ
        have HSL := Lib.hid hsl
        have HBr := Lib.hid hBr
        clear hbd hQ hsl hI hJ hg hqf hBr HBad
        go_wp2_with (go_at_call 46; refine (l6In_any P 0 _ _).mono ?_; rw [hin]; rintro e w' ⟨rfl, rfl⟩)
        go_region
        go_wp2_with fail
        refine ⟨⟨k + 1, by omega, by go_num, HRn.out ⟨by omega, by omega⟩, ?_, ?_⟩, by simp [intOf]; omega⟩
        · rw [HN.out, Int.toNat_natCast, HST.out]
          exact (HQ.out.dr _).put HSL.out P (y + x)
        · exact (belowDr HBr.out _).setCell (p := ⟨_, _, none⟩) (Nat.le_refl _) _
      · have hb := HBad.out hpr
        have hin : (decide (0 ≤ p) && decide (p ≤ M - 1)) = false := by
          rw [Bool.eq_false_iff]; intro h; simp at h; omega
        have HQ := Lib.hid hQ
        have HBr := Lib.hid hBr
        unfold OfPost
        rw [ofL, hb, if_neg (by simp)]
        clear hbd hQ hsl hI hJ hg hBr HBad HRn HN hb hpr
        go_wp2_with (go_at_call 46; refine (l6In_any p 0 _ _).mono ?_; rw [hin]; rintro e w' ⟨rfl, rfl⟩)
        go_ret2
        have hq1 := HG1.out
        have hq2 := HBr.out.size
        exact ⟨_, rfl, by first | exact HO.out _ hq2 | (rw [← hq1]; exact HO.out _ hq2), by first | exact HBr.out.alloc (by omega) _ | (rw [hq1]; exact HBr.out.alloc (by omega) _)⟩
    · have hb : ofB zs M ps = true := by
        rw [List.take_of_length_le (by omega)] at hR
        simp [ofB, HZ.out, HLn.out, (inRb_iff M ps).2 hR]
      rw [List.take_of_length_le (by omega), List.take_of_length_le (by omega)] at hQ
      have HQ := Lib.hid hQ
      have HBt := Lib.hid hb
      clear hb hQ hsl hbd hR
      go_wp2
      go_ret2
      exact ⟨_, by rw [HBt.out]; rfl, by rw [HG1.out, ofL, HBt.out, if_pos rfl, Int.toNat_natCast]; exact HQ.out, by rw [HG1.out]; exact hBr⟩

/-- what DrawLoadOf hands back -/
def OfDrawn (w : World) (e : Ending) (w' : World) : Prop :=
  ∃ ad cp zs m pd pc ps, e = .returned (.tuple #[.slice ad (List.length zs) cp, .int .i64 m, .slice pd (List.length ps) pc]) ∧ zs.length ≤ 8 ∧ okDrawn zs ∧ IntsAt w' ad zs ∧ ps.length ≤ 9 ∧ IntsAt w' pd ps ∧ 0 ≤ m ∧ m ≤ 6 ∧ Below w.heap.size w w'

set_option maxRecDepth 100000 in
set_option maxHeartbeats 3200000 in
theorem DrawLoadOf_any (a : Option Addr) (len cap : Nat) (w : World) (hl : len ≤ 1048576) (hcap : len ≤ cap) (hb : BytesAt w w.heap.size a len) :
    Calls Try.prog 18 #[.slice a len cap] w (OfDrawn w) := by
  go_enter Try.func18, Try.ntmps18
  go_wp2_with fail
  refine (l92Some_any a len cap w hl hcap hb).mono ?_
  rintro e w1 ⟨ad, cp, zs, m, rfl, hz, hd, hI, hm0, hm6, hB⟩
  go_wp2_with fail
  refine (l6Open_any a len cap w1 hl hcap ((hb.same hB).mono hB.size)).mono ?_
  rintro e w2 ⟨l, c, rfl, hl2, hR, hB2⟩
  have hf1 := hR.f1
  have hc1 := hR.c1
  have hR3 : RdAt (w2.setCell ⟨w1.heap.size, 1, none⟩ (.int .i64 61)) w1.heap.size a l c 61 := hR.stepped 61 0
  have hB3 : Below w1.heap.size w1 (w2.setCell ⟨w1.heap.size, 1, none⟩ (.int .i64 61)) := hB2.setCell (p := ⟨w1.heap.size, 1, none⟩) (Nat.le_refl _) _
  have hI3 := hI.below hB3
  have hB4 := hB.trans (hB3.mono hB.size)
  obtain ⟨Br, hBr⟩ : ∃ b, w1.heap.size = b := ⟨_, rfl⟩
  have hsz := hB.size
  rw [hBr] at hR3 hB3 hf1 hc1 hI3 hB4 hsz ⊢
  have hIB : ∀ W, Below Br (w2.setCell ⟨Br, 1, none⟩ (.int .i64 61)) W → IntsAt W ad zs := fun W h => hI.below (by rw [hBr]; exact hB3.trans h)
  clear hR hB2 hI hB hb hBr
  go_wp2
  have hD0 : DrI (w2.setCell ⟨Br, 1, none⟩ (.int .i64 61)) ((w2.setCell ⟨Br, 1, none⟩ (.int .i64 61)).alloc (.cells #[] 3)) Br a l c 61 (.slice (some ⟨w2.heap.size, 0, none⟩) 0 0) [] := by
    have h := World.ownsRow_lit (base := (w2.setCell ⟨Br, 1, none⟩ (.int .i64 61)).heap.size) (e := 3) (size := 1) (w2.setCell ⟨Br, 1, none⟩ (.int .i64 61)) #[] 0 (Nat.le_refl _) (by unfold maxLen; omega) (by simp)
    refine ⟨hR3.kept (World.grownBy_alloc _ _ none) (fun r hr => by cases hr), ?_, (Below.refl _ _).alloc (Nat.le_of_lt hR3.lt) _, hR3.lt⟩
    unfold OwnI
    simpa using h
  generalize w2.setCell ⟨Br, 1, none⟩ (.int .i64 61) = w3 at *
  have HIB := Lib.hid hIB
  have HB4 := Lib.hid hB4
  have HB3 := Lib.hid hB3
  have HD := Lib.hid hd
  have HR3 := Lib.hid hR3
  clear hR3 hB3 hf1 hc1 hI3 hB4 hd hIB
  go_loopw [8, 9] (fun v i wr => ∃ (k : Nat) (ps : List Int) (p' : Int), k ≤ zs.length + 1 ∧ i = .int .i64 k ∧ ps.length = k ∧ DrI w3 wr Br a l c p' v ps ∧ 61 ≤ p' ∧ p' ≤ 61 + 3 * k) (fun _ i _ => zs.length + 1 - (intOf i).toNat)
  case atStart => exact ⟨0, [], 61, by omega, rfl, rfl, hD0, by omega, by omega⟩
  case round =>
    obtain ⟨k, ps, p', hk, rfl, hpl, hDr, hp1, hp2⟩ := hrel
    clear hD0
    have HPL := Lib.hid hpl
    clear hpl
    go_wp2_with fail
    refine (pickD Br l c a _ _ w3 _ _ _ (by omega) hl2 (by omega) hDr).mono ?_
    rintro e w4 ⟨x, rfl, hx0, hx4, hD4, _⟩
    clear hDr
    go_wp2_with (first
        | (go_at_call 44; refine (pickD Br l c a _ _ w3 _ _ _ ?_ hl2 ?_ ‹DrI w3 _ Br a l c _ _ _›).mono ?_; (omega); (omega); rintro e w' ⟨x, rfl, hx0, hx1, hD', _⟩)
        | (at_builtin; refine appendD w3 _ rfl _ _ rfl _ _ _ rfl rfl ?_ ‹DrI w3 _ Br a l c _ _ _› ?_; (have := HPL.out; omega); intro v' w' hD'))
    · exact ⟨⟨k + 1, _, _, by omega, by go_num, by simp [HPL.out], hD', by omega, by omega⟩, by simp [intOf]; omega⟩
    · obtain ⟨pd, pc, rfl, hIp, _⟩ := hD4.2.1.shape
      go_ret3
      exact ⟨ad, cp, zs, m, pd, pc, ps, rfl, hz, HD.out, HIB.out _ hD4.2.2.1, by have := HPL.out; omega, hIp, hm0, hm6, HB4.out.trans (hD4.2.2.1.mono hsz)⟩
end Go.Proofs.Ytacedadenbinmaa
