/- Counting sums number by number: the reference's way gives the same list. Conditions: numbers from 1 on. SumCounts of the program. Conditions: the list is short enough to be counted. The generator's reader: pick, and the lists that are drawn. Conditions: stated in each. The lists that the generator draws: at most so many numbers and one, each from -1 to 61. Conditions: stated in each. The draws that only hand on a drawn list. Conditions: stated in each. The draws of a list and numbers. Conditions: stated in each. Walks: copies and comparisons of slices, SumOf of both. Conditions: stated in each. The comparison of two lists. Conditions: the first list has at most 4000000 numbers. -/
import Derived.Test.YtdpapalfafjncaaGreatDoorZd
import Derived.WalkSmall
set_option linter.unusedVariables false
set_option linter.unusedSimpArgs false
set_option linter.unusedSectionVars false
namespace Go.Proofs.YtdpapalfafjncaaGreatDoor
/-- the keys of chapter 1: the sum itself -/
def sumKey (zs : List Int) (c : Nat) : Option Nat := some (csum zs c).toNat
/-- SumCounts's list -/
def sumC (zs : List Int) : List Int := tally (sumKey zs) ((tot zs).toNat + 1) (2 ^ zs.length)
theorem sumC_length (zs : List Int) : (sumC zs).length = (tot zs).toNat + 1 := tally_length _ _ _

theorem cntN_add (p : Nat → Bool) (a b : Nat) : cntN p (a + b) = cntN p a + cntN (fun c => p (a + c)) b := by
  induction b with
  | zero => simp [cntN]
  | succ b ih => rw [← Nat.add_assoc, cntN, cntN, ih]; omega
theorem csum_low (xs : List Int) : ∀ c k : Nat, csum xs (c + 2 ^ xs.length * k) = csum xs c := by
  induction xs with
  | nil => intro c k; rfl
  | cons x xs ih =>
    intro c k
    have e : c + 2 ^ (xs.length + 1) * k = c + 2 * (2 ^ xs.length * k) := by rw [Nat.pow_succ, Nat.mul_comm (2 ^ xs.length) 2, Nat.mul_assoc]
    rw [csum_cons, csum_cons, List.length_cons, e, show (c + 2 * (2 ^ xs.length * k)) % 2 = c % 2 by omega, show (c + 2 * (2 ^ xs.length * k)) / 2 = c / 2 + 2 ^ xs.length * k by omega, ih]
theorem csum_snoc_lo (xs : List Int) (x : Int) (c : Nat) (h : c < 2 ^ xs.length) : csum (xs ++ [x]) c = csum xs c := by
  rw [csum_snoc, Nat.div_eq_of_lt h]; simp
theorem csum_snoc_hi (xs : List Int) (x : Int) (c : Nat) (h : c < 2 ^ xs.length) : csum (xs ++ [x]) (2 ^ xs.length + c) = csum xs c + x := by
  have h2 := csum_low xs c 1
  rw [Nat.mul_one, Nat.add_comm] at h2
  have e : (2 ^ xs.length + c) / 2 ^ xs.length % 2 = 1 := by
    rw [Nat.add_div_left _ (Nat.two_pow_pos _), Nat.div_eq_of_lt h]
  rw [csum_snoc, h2, if_pos e]

/-- one number more, v places of the old list done -/
def stepK (O : List Int) (x v : Nat) : List Int := (List.range (O.length + x)).map fun j => (if j < v then O[j]?.getD 0 else 0) + (if x ≤ j ∧ j - x < v then O[j - x]?.getD 0 else 0)
theorem stepK_length (O : List Int) (x v : Nat) : (stepK O x v).length = O.length + x := by simp [stepK]
theorem stepK_get (O : List Int) (x v j : Nat) (h : j < O.length + x) : (stepK O x v)[j]?.getD 0 = (if j < v then O[j]?.getD 0 else 0) + (if x ≤ j ∧ j - x < v then O[j - x]?.getD 0 else 0) := by simp [stepK, h]
theorem stepK_zero (O : List Int) (x : Nat) : stepK O x 0 = List.replicate (O.length + x) 0 := by
  apply List.ext_getElem
  · simp [stepK]
  · intro i h1 h2; simp [stepK]
theorem stepK_succ (O : List Int) (x v : Nat) (hx : 1 ≤ x) (hv : v < O.length) :
    (((stepK O x v).set v ((stepK O x v)[v]?.getD 0 + O[v]?.getD 0)).set (v + x) ((stepK O x v)[v + x]?.getD 0 + O[v]?.getD 0)) = stepK O x (v + 1) := by
  apply List.ext_getElem
  · simp [stepK]
  · intro i h1 h2
    have hi : i < O.length + x := by simpa [stepK] using h2
    rw [List.getElem_set, List.getElem_set]
    simp only [stepK_get O x v (v + x) (by omega), stepK_get O x v v (by omega)]
    have e : (stepK O x (v + 1))[i] = (if i < v + 1 then O[i]?.getD 0 else 0) + (if x ≤ i ∧ i - x < v + 1 then O[i - x]?.getD 0 else 0) := by simp [stepK]
    have e0 : (stepK O x v)[i]'(by simpa [stepK] using hi) = (if i < v then O[i]?.getD 0 else 0) + (if x ≤ i ∧ i - x < v then O[i - x]?.getD 0 else 0) := by simp [stepK]
    rw [e]
    by_cases h3 : v + x = i
    · subst h3
      rw [if_pos rfl, if_neg (show ¬ v + x < v by omega), if_neg (show ¬ v + x < v + 1 by omega), show v + x - x = v by omega, if_neg (show ¬ (x ≤ v + x ∧ v < v) by omega), if_pos (show x ≤ v + x ∧ v < v + 1 by omega)]
      omega
    · rw [if_neg h3]
      by_cases h4 : v = i
      · subst h4
        rw [if_pos rfl, if_neg (show ¬ v < v by omega), if_pos (show v < v + 1 by omega)]
        by_cases h5 : x ≤ v
        · rw [if_pos (show x ≤ v ∧ v - x < v by omega), if_pos (show x ≤ v ∧ v - x < v + 1 by omega)]; omega
        · rw [if_neg (by omega), if_neg (by omega)]; omega
      · rw [if_neg h4, e0]
        have c1 : (i < v) ↔ (i < v + 1) := by omega
        have c2 : (x ≤ i ∧ i - x < v) ↔ (x ≤ i ∧ i - x < v + 1) := by omega
        simp only [c1, c2]
theorem stepK_mid (O : List Int) (x v : Nat) (hx : 1 ≤ x) : ((stepK O x v).set v ((stepK O x v)[v]?.getD 0 + O[v]?.getD 0))[v + x]?.getD 0 = (stepK O x v)[v + x]?.getD 0 := by
  rw [List.getElem?_set_ne (by omega)]
/-- the counts of a list with one number more -/
theorem sumC_snoc (xs : List Int) (x : Int) (h : good xs) (hx : 1 ≤ x) : sumC (xs ++ [x]) = stepK (sumC xs) x.toNat (sumC xs).length := by
  have ht := tot_bd h
  have e1 : tot (xs ++ [x]) = tot xs + x := by rw [tot_append]; simp [tot]
  have e2 : (tot (xs ++ [x])).toNat + 1 = (tot xs).toNat + 1 + x.toNat := by omega
  have hl := sumC_length xs
  apply List.ext_getElem
  · rw [sumC_length, stepK_length, sumC_length]; omega
  · intro j h1 h2
    rw [sumC_length, e2] at h1
    have hg : (stepK (sumC xs) x.toNat (sumC xs).length)[j] = (stepK (sumC xs) x.toNat (sumC xs).length)[j]?.getD 0 := by rw [List.getElem?_eq_getElem h2]; rfl
    rw [hg, stepK_get _ _ _ _ (by omega)]
    have hs : ∀ i, (if i < (sumC xs).length then (sumC xs)[i]?.getD 0 else 0) = ((cntN (fun c => csum xs c == (i : Int)) (2 ^ xs.length) : Nat) : Int) := by
      intro i
      by_cases hi : i < (sumC xs).length
      · rw [if_pos hi]
        unfold sumC
        rw [tally_get _ _ _ _ (by omega)]
        congr 1
        apply cntN_congr
        intro c _
        have := csum_bd h c
        rw [Bool.eq_iff_iff]
        simp [sumKey]
        omega
      · rw [if_neg hi, cntN_congr (q := fun _ => false)]
        · have : ∀ m, cntN (fun _ => false) m = 0 := by intro m; induction m with | zero => rfl | succ m ih => simp [cntN, ih]
          rw [this]; rfl
        · intro c _
          have := csum_bd h c
          simp; omega
    have hL : (sumC (xs ++ [x]))[j]'(by rw [sumC_length, e2]; exact h1) = ((cntN (fun c => csum (xs ++ [x]) c == (j : Int)) (2 ^ xs.length + 2 ^ xs.length) : Nat) : Int) := by
      simp only [sumC, tally, List.getElem_map, List.getElem_range, List.length_append, List.length_cons, List.length_nil]
      rw [show 2 ^ (xs.length + (0 + 1)) = 2 ^ xs.length + 2 ^ xs.length by rw [Nat.zero_add, Nat.pow_succ]; omega]
      congr 1
      apply cntN_congr
      intro c _
      have hgd : good (xs ++ [x]) ∨ True := .inr trivial
      have h0 : 0 ≤ csum (xs ++ [x]) c := by
        rw [csum_snoc]
        have := csum_bd h c
        split <;> omega
      rw [Bool.eq_iff_iff]
      simp [sumKey]
      omega
    rw [hL, cntN_add, hs j]
    rw [cntN_congr (q := fun c => csum xs c == (j : Int)) (fun c hc => by rw [csum_snoc_lo xs x c hc]), cntN_congr (p := fun c => csum (xs ++ [x]) (2 ^ xs.length + c) == (j : Int)) (q := fun c => csum xs c == (j : Int) - x) (fun c hc => by
      rw [csum_snoc_hi xs x c hc, Bool.eq_iff_iff]; simp; omega)]
    by_cases hxj : x.toNat ≤ j
    · have := hs (j - x.toNat)
      rw [show ((j - x.toNat : Nat) : Int) = (j : Int) - x by omega] at this
      rw [Int.natCast_add, ← this]
      simp only [hxj, true_and]
    · rw [if_neg (by omega), cntN_congr (p := fun c => csum xs c == (j : Int) - x) (q := fun _ => false)]
      · have : ∀ m, cntN (fun _ => false) m = 0 := by intro m; induction m with | zero => rfl | succ m ih => simp [cntN, ih]
        rw [this]; simp
      · intro c _
        have := csum_bd h c
        simp; omega
theorem sumC_nil : sumC [] = [1] := by decide
end Go.Proofs.YtdpapalfafjncaaGreatDoor
namespace Go.Proofs.YtdpapalfafjncaaGreatDoor
open Go.RowKit Go.Shelf
attribute [local go_sem] Oper.semAt_some

set_option maxRecDepth 100000 in
set_option maxHeartbeats 2000000 in
theorem SumCounts_in (n : Nat) (hn : 1 ≤ n) (a : Option Addr) (cap : Nat) (zs : List Int) (hz : inL zs = true) (w : World) (hI : IntsAt w a zs) :
    CallsIn Fence.wide n Tryz.prog 136 #[.slice a zs.length cap] w (ListR w true (sumC zs)) := by
  have hz' := (inL_iff zs).1 hz
  have HZ := Lib.hid hz
  clear hz
  have htb := tot_bd hz'.2
  obtain ⟨N, hN⟩ : ∃ N : Nat, N = (tot zs).toNat + 1 := ⟨_, rfl⟩
  have hN2 : tot zs + 1 = (N : Int) := by omega
  have HSC : Hid (sumC zs = tally (sumKey zs) N (2 ^ zs.length)) := by rw [hN]; rfl
  have HN2 := Lib.hid hN2
  have hNb : N ≤ 601 ∧ 1 ≤ N ∧ tot zs < N := by omega
  clear hN hN2
  refine callsIn_of_wp_marks Tryz.func136 rfl trivial ?_ rfl
  simp only [Tryz.ntmps136, List.size_toArray, List.length_cons, List.length_nil, Nat.reduceAdd, Nat.reduceSub, Array.replicate_succ, Array.replicate_zero, List.push_toArray, List.append_toArray, List.nil_append, List.cons_append]
  gi_wp2_with (first | (refine ⟨trivial, ?_⟩; gi_at_call 16; refine (callsIn_wide.2 (SumIn_any a cap zs _ (by omega) hI)).mono ?_; rw [HZ.out]; rintro e w' ⟨rfl, rfl⟩) | (refine ⟨trivial, ?_⟩; gi_at_call 17; refine (callsIn_wide.2 (totalOf_any a cap zs _ (by omega) hz'.2 hI)).mono ?_; rintro e w' ⟨rfl, rfl⟩) | (gi_at_make; refine makeIIn _ rfl _ _ rfl N _ rfl rfl HN2.out (by omega) ?_; intro w1 hO hG) | (refine ⟨trivial, ?_⟩; gi_at_call 137; refine (choiceSums_in _ _ _ _ _).mono ?_; rintro e w' ⟨rfl, rfl⟩))
  have g1 : w.heap.size ≤ w1.heap.size := hG.size
  have hg2 : w.heap.size < w1.heap.size := (hO.lt _ rfl).2
  have b2 := Boxed.new w1 23 (.slice (some ⟨w.heap.size, 0, none⟩) N N)
  have b3 := Boxed.new (w1.alloc (.cells #[.slice (some ⟨w.heap.size, 0, none⟩) N N] 23)) 23 (.slice a zs.length cap)
  rw [World.size_alloc] at b3
  have hB1 : Below w.heap.size w w1 := (Below.refl _ w).grown hG (Nat.le_refl _) (fun k hk => by cases hk)
  have hB0 : Below w.heap.size w ((w1.alloc (.cells #[.slice (some ⟨w.heap.size, 0, none⟩) N N] 23)).alloc (.cells #[.slice a zs.length cap] 23)) := (hB1.alloc (by omega) _).alloc (by simp; omega) _
  have hbx : BoxL ((w1.alloc (.cells #[.slice (some ⟨w.heap.size, 0, none⟩) N N] 23)).alloc (.cells #[.slice a zs.length cap] 23)) [(w1.heap.size, 23, .slice (some ⟨w.heap.size, 0, none⟩) N N)] := ⟨b2.alloc _, trivial⟩
  have hOO : OwnI ((w1.alloc (.cells #[.slice (some ⟨w.heap.size, 0, none⟩) N N] 23)).alloc (.cells #[.slice a zs.length cap] 23)) w.heap.size (.slice (some ⟨w.heap.size, 0, none⟩) N N) (List.replicate N 0) := OwnI.alloc (OwnI.alloc hO _) _
  have hIW : ∀ W', Below w.heap.size ((w1.alloc (.cells #[.slice (some ⟨w.heap.size, 0, none⟩) N N] 23)).alloc (.cells #[.slice a zs.length cap] 23)) W' → IntsAt W' a zs := fun W' h => hI.below (hB0.trans h)
  have hsz : ((w1.alloc (.cells #[.slice (some ⟨w.heap.size, 0, none⟩) N N] 23)).alloc (.cells #[.slice a zs.length cap] 23)).heap.size = w1.heap.size + 1 + 1 := by simp
  clear b2 hO hG
  generalize ((w1.alloc (.cells #[.slice (some ⟨w.heap.size, 0, none⟩) N N] 23)).alloc (.cells #[.slice a zs.length cap] 23)) = W0 at *
  refine wpIn_rangeFunc_ownG rfl hn (gf := 163) (lb := #[.pointer (some ⟨w1.heap.size + 1, 0, none⟩)]) rfl trivial (enters_of Tryz.func163 (by kernel_rfl) rfl)
    (cs_stops (n - 1) (w1.heap.size + 1) w.heap.size a cap zs (by omega) hz'.2 W0 (by omega) (by omega) b3.cell hIW) KpC.trans (KpC.put (by omega) (by omega)) (Below.refl _ _) (fun _ => rfl)
    (TalI (2 ^ zs.length) w.heap.size w1.heap.size (sumKey zs) N (.slice (some ⟨w.heap.size, 0, none⟩) N N) [] w)
    (fun _ _ _ => False)
    (talI_own (by omega)) (fun _ _ _ _ _ hs _ _ => hs) ⟨⟨by rw [List.map_nil, tallyL_nil]; exact hOO, hbx⟩, hB0⟩ ?a1 ?assign ?body ?done ?stop
  case assign =>
    intro l x W K hK
    gi_wp2
    exact hK
  case body =>
    rintro l pre ⟨c, hcN⟩ W ⟨⟨hOr, hbS, _⟩, hB⟩ hlen
    have cS := hbS.cell
    have hs := csum_bd hz'.2 c
    have HK : Hid (sumKey zs c = some (csum zs c).toNat) := rfl
    have hbd := tallyL_bd (sumKey zs) N (csum zs c).toNat (pre.map Fin.val)
    have hlenL := tallyL_length (sumKey zs) N (pre.map Fin.val)
    obtain ⟨g, cp, he, hg3, hg4, hcf⟩ := hOr.at (by omega)
    rw [hlenL] at he
    simp only [Value.slice.injEq, Option.some.injEq, Addr.mk.injEq, and_true, true_and] at he
    obtain ⟨rfl, rfl⟩ := he
    have hc1 := (hcf (csum zs c).toNat (by omega)).1
    have hf1 := (hcf (csum zs c).toNat (by omega)).2
    have HO := Lib.hid hOr
    have HL := Lib.hid hlenL
    clear hcf hOr hlenL
    have HS := Lib.hid (tallyL_some (N := N) (l := pre.map Fin.val) HK.out)
    have hpl : pre.length ≤ 1048576 := by have := pow_bd zs.length (by omega); have h2 : ((2 ^ zs.length : Nat) : Int) = 2 ^ zs.length := by simp
                                          omega
    rw [List.length_map] at hbd
    generalize (tallyL (sumKey zs) N (pre.map Fin.val))[(csum zs c).toNat]?.getD 0 = y at hc1 hbd HS
    clear hlen
    gi_wp2
    refine ⟨(KeepsOthers.setCell _ _ _).from _, ⟨(Below.refl _ _).setCell (p := ⟨_, _, none⟩) (by simp) _, World.cell?_setCell_other _ _ _ _ (by simp <;> omega)⟩, ⟨?_, hbS.keptSet' (by omega) _, trivial⟩, hB.setCell (p := ⟨_, _, none⟩) (by simp) _⟩
    rw [List.map_append, List.map_cons, List.map_nil, ← HS.out]
    exact HO.out.put HL.out _ _
  case done =>
    rintro D ys W hD rfl ⟨⟨hOr, hbS, _⟩, hB⟩ hK
    have cS := hbS.cell
    gi_wp2
    refine ⟨by simp, .inl ⟨_, _, rfl, run_takeDeferred hK, ?_⟩⟩
    refine ⟨_, results_tmp2 rfl _ _ _, _, rfl, ?_, below_put hB (by omega) hK⟩
    have h1 : OwnI (W.putObj D (.deferred none)) w.heap.size (.slice (some ⟨w.heap.size, 0, none⟩) N N) (tallyL (sumKey zs) N ((upto (2 ^ zs.length) (2 ^ zs.length)).map Fin.val)) :=
      ownsRow_putObj hOr _ hK rfl
    rw [upto_vals, tallyL_range, ← HSC.out] at h1
    exact h1
  case stop =>
    rintro D c pre W hD _ h _
    exact h.elim

theorem SumCounts_any (a : Option Addr) (cap : Nat) (zs : List Int) (w : World) (hl : zs.length ≤ 4294967296) (hI : IntsAt w a zs) :
    Calls Tryz.prog 136 #[.slice a zs.length cap] w (ListR w (inL zs) (if inL zs = true then sumC zs else [])) := by
  by_cases hz : inL zs = true
  case pos =>
    rw [if_pos hz, hz]
    exact (callsIn_wide (n := 10)).1 (SumCounts_in 10 (by omega) a cap zs hz w hI)
  have hz' : inL zs = false := by simpa using hz
  rw [if_neg hz, hz']
  have HZ := Lib.hid hz'
  clear hz hz'
  have HO := World.ownsRow_lit (base := w.heap.size) (e := 3) (size := 1) w #[] 0 (Nat.le_refl _) (by unfold maxLen; omega) (by simp)
  go_enter Tryz.func136, Tryz.ntmps136
  go_wp2_with (go_at_call 16; refine (SumIn_any a cap zs w hl hI).mono ?_; rw [HZ.out]; rintro e w' ⟨rfl, rfl⟩)
  go_ret2
  exact ⟨_, rfl, HO, (Below.refl _ _).alloc (Nat.le_refl _) _⟩
end Go.Proofs.YtdpapalfafjncaaGreatDoor
namespace Go.Proofs.YtdpapalfafjncaaGreatDoor
open Go.RowKit

/-- a reader of bytes lies in block Br, p bytes read -/
def RdAt (w : World) (Br : Nat) (a : Option Addr) (len cap : Nat) (p : Int) : Prop :=
  w.heap[Br]? = some (.cells #[.slice a len cap, .int .i64 p] 76 (0, 0)) ∧ BytesAt w Br a len
theorem RdAt.c0 {w : World} {Br : Nat} {a : Option Addr} {len cap : Nat} {p : Int} (h : RdAt w Br a len cap p) : w.cell? ⟨Br, 0, none⟩ = some (.slice a len cap) := by simp [World.cell?, h.1]
theorem RdAt.c1 {w : World} {Br : Nat} {a : Option Addr} {len cap : Nat} {p : Int} (h : RdAt w Br a len cap p) : w.cell? ⟨Br, 1, none⟩ = some (.int .i64 p) := by simp [World.cell?, h.1]
theorem RdAt.f1 {w : World} {Br : Nat} {a : Option Addr} {len cap : Nat} {p : Int} (h : RdAt w Br a len cap p) : w.frozen? ⟨Br, 1, none⟩ = false := by simp [World.frozen?, h.1]
theorem RdAt.lt {w : World} {Br : Nat} {a : Option Addr} {len cap : Nat} {p : Int} (h : RdAt w Br a len cap p) : Br < w.heap.size := (Array.getElem?_eq_some_iff.1 h.1).1
theorem RdAt.kept {w w' : World} {row : Option Nat} {Br : Nat} {a : Option Addr} {len cap : Nat} {p : Int} (h : RdAt w Br a len cap p) (hg : w.grownBy w' row) (hr : ∀ r, row = some r → Br < r) : RdAt w' Br a len cap p := by
  refine ⟨(hg.block Br h.lt (fun e => by have := hr Br e.symm; omega)).trans h.1, h.2.same ⟨hg.os, hg.tape, hg.output, hg.size, fun k hk => hg.block k (Nat.lt_trans hk h.lt) (fun e => by have := hr k e.symm; omega)⟩⟩
theorem RdAt.stepped {w : World} {Br : Nat} {a : Option Addr} {len cap : Nat} {p : Int} (h : RdAt w Br a len cap p) (q : Int) (n : Nat) : RdAt ((w.setCell ⟨Br, 1, none⟩ (.int .i64 q)).drewN n) Br a len cap q := by
  refine ⟨?_, h.2.same ?_⟩
  · have h' := h.1
    have hlt := h.lt
    show (w.heap.modify Br _)[Br]? = _
    rw [Array.getElem?_modify, if_pos rfl, h']
    rfl
  · exact below_drewN ((Below.refl _ _).setCell (p := ⟨Br, 1, none⟩) (Nat.le_refl _) _) n
theorem grownBy_step (w : World) (Br : Nat) (v : Value) (n : Nat) : w.grownBy ((w.setCell ⟨Br, 1, none⟩ v).drewN n) (some Br) :=
  ⟨rfl, rfl, rfl, by simp, fun k _ hk => Below.heap_setCell w ⟨Br, 1, none⟩ v k (fun e => hk (by rw [e]))⟩

/-- what pick answers: a number from 0 to m - 1, or 0; it has read one byte -/
def PickPost (w : World) (Br : Nat) (a : Option Addr) (len cap : Nat) (p m : Int) (e : Ending) (w' : World) : Prop :=
  ∃ v : Int, e = .returned (.int .i64 v) ∧ 0 ≤ v ∧ (v < m ∨ v = 0) ∧ RdAt w' Br a len cap (p + 1) ∧ w.grownBy w' (some Br)

set_option maxHeartbeats 800000 in
theorem pick_any (Br len cap : Nat) (a : Option Addr) (p m : Int) (w : World) (hp : 0 ≤ p ∧ p ≤ 1000000) (hlen : len ≤ 2000) (hm : m ≤ 1000000) (hR : RdAt w Br a len cap p) :
    Calls Tryz.prog 46 #[.pointer (some ⟨Br, 0, none⟩), .int .i64 m] w (PickPost w Br a len cap p m) := by
  have hc0 := hR.c0
  have hc1 := hR.c1
  have hf1 := hR.f1
  have hb := hR.2
  have HR := Lib.hid hR
  clear hR
  by_cases hm1 : m < 1
  case pos =>
    go_enter Tryz.func46, Tryz.ntmps46
    go_wp2
    go_ret
    exact ⟨0, rfl, by omega, .inr rfl, HR.out.stepped _ 0, grownBy_step _ _ _ 0⟩
  by_cases hl0 : len = 0
  case pos =>
    subst hl0
    go_enter Tryz.func46, Tryz.ntmps46
    go_wp2
    go_ret
    exact ⟨0, rfl, by omega, .inr rfl, HR.out.stepped _ 0, grownBy_step _ _ _ 0⟩
  obtain ⟨b, off, rfl, hbs, hcell⟩ := hb.at (by omega)
  by_cases hpl : p < len
  case pos =>
    obtain ⟨x, hx1, hx2, hx⟩ := hcell p.toNat (by omega)
    go_enter Tryz.func46, Tryz.ntmps46
    go_wp2
    go_ret
    exact ⟨_, rfl, Int.emod_nonneg _ (by omega), .inl (Int.emod_lt_of_pos _ (by omega)), HR.out.stepped _ 0, grownBy_step _ _ _ 0⟩
  have e1 : 0 ≤ p % len := Int.emod_nonneg _ (by omega)
  have e2 : p % len < len := Int.emod_lt_of_pos _ (by omega)
  have e3 : 0 ≤ (p * 7 + 3) % len := Int.emod_nonneg _ (by omega)
  have e4 : (p * 7 + 3) % len < len := Int.emod_lt_of_pos _ (by omega)
  have e5 : 0 ≤ p / len := Int.ediv_nonneg hp.1 (by omega)
  have e6 : p / len ≤ p := Int.ediv_le_self _ hp.1
  obtain ⟨x, hx1, hx2, hx⟩ := hcell (p % len).toNat (by omega)
  obtain ⟨y, hy1, hy2, hy⟩ := hcell ((p * 7 + 3) % len).toNat (by omega)
  have hx' : (w.setCell ⟨Br, 1, none⟩ (.int .i64 (p + 1))).cell? ⟨b, off + (p % len).toNat, none⟩ = some (.int .u8 x) := (World.cell?_setCell_other _ _ _ _ (by simp)).trans hx
  have hy' : (w.setCell ⟨Br, 1, none⟩ (.int .i64 (p + 1))).cell? ⟨b, off + ((p * 7 + 3) % len).toNat, none⟩ = some (.int .u8 y) := (World.cell?_setCell_other _ _ _ _ (by simp)).trans hy
  clear hcell
  go_enter Tryz.func46, Tryz.ntmps46
  go_wp2
  go_quiet (fail)
  go_wp2
  go_ret
  have hq := xor_bd (x * 131 + y * 1117 + p * 29 + p / len * 53) ((x * 131 + y * 1117 + p * 29 + p / len * 53) / 64) (by omega) (by omega)
  exact ⟨_, rfl, Int.tmod_nonneg _ hq.1, .inl (Int.tmod_lt_of_pos _ (by omega)), HR.out.stepped _ _, grownBy_step _ _ _ _⟩

end Go.Proofs.YtdpapalfafjncaaGreatDoor
namespace Go.Proofs.YtdpapalfafjncaaGreatDoor
open Go.RowKit

def okDrawn (zs : List Int) : Prop := ∀ z ∈ zs, -1 ≤ z ∧ z ≤ 61
theorem okDrawn.snoc {zs : List Int} {z : Int} (h : okDrawn zs) (hz : -1 ≤ z ∧ z ≤ 61) : okDrawn (zs ++ [z]) := fun y hy => by
  rcases List.mem_append.1 hy with hy | hy
  · exact h y hy
  · rw [List.mem_singleton.1 hy]; exact hz
/-- a list is being drawn: the reader, and what is owned so far -/
def DrI (w0 w : World) (Br : Nat) (a : Option Addr) (len cap : Nat) (p : Int) (v : Value) (zs : List Int) : Prop :=
  RdAt w Br a len cap p ∧ OwnI w w0.heap.size v zs ∧ Below Br w0 w ∧ Br < w0.heap.size
theorem pickD (Br len cap : Nat) (a : Option Addr) (p m : Int) (w0 w : World) (v : Value) (zs : List Int) (hp : 0 ≤ p ∧ p ≤ 1000000) (hlen : len ≤ 2000) (hm : m ≤ 1000000) (hD : DrI w0 w Br a len cap p v zs) :
    Calls Tryz.prog 46 #[.pointer (some ⟨Br, 0, none⟩), .int .i64 m] w fun e w' => ∃ x : Int, e = .returned (.int .i64 x) ∧ 0 ≤ x ∧ (x < m ∨ x = 0) ∧ DrI w0 w' Br a len cap (p + 1) v zs ∧ w.grownBy w' (some Br) := by
  obtain ⟨hR, hO, hB, hlt⟩ := hD
  refine (pick_any Br len cap a p m w hp hlen hm hR).mono ?_
  rintro e w' ⟨x, rfl, h0, h1, hR2, hG⟩
  exact ⟨x, rfl, h0, h1, ⟨hR2, hO.kept_below hG (fun r hr => by cases hr; exact hlt), hB.grown hG (Nat.le_of_lt hR.lt) (fun k hk => by cases hk; exact Nat.le_refl _), hlt⟩, hG⟩
theorem DrI.alloc {w0 w : World} {Br len cap : Nat} {a : Option Addr} {p : Int} {v : Value} {zs : List Int} (h : DrI w0 w Br a len cap p v zs) (o : Obj) : DrI w0 (w.alloc o) Br a len cap p v zs :=
  ⟨h.1.kept (World.grownBy_alloc w o none) (fun r hr => by cases hr), World.ownsRow.alloc h.2.1 o, h.2.2.1.alloc (Nat.le_of_lt h.1.lt) o, h.2.2.2⟩
theorem appendD (w0 w : World) {ops : Array Oper} {rest : List Oper} {o : Oper} {a : Act} {Q : Exit → Act → World → Prop} (hgd : o.guard = none) (s x : Operand)
    (ho : o.op = .call { callee := .builtin .append, args := #[s, x], argTypes := #[23, 23] }) (v : Value) (zs : List Int) (z : Int)
    (hs : a.eval s = v) (hx : a.eval x = .slice (some ⟨w.heap.size, 0, none⟩) 1 1) {Br len cap : Nat} {ad : Option Addr} {p : Int} (hl : zs.length ≤ 1000000) (hD : DrI w0 w Br ad len cap p v zs)
    (h : ∀ v' w', DrI w0 w' Br ad len cap p v' (zs ++ [z]) → wpList Tryz.prog ops Q rest (a.put o.dst v') w') :
    wpList Tryz.prog ops Q (o :: rest) a (w.alloc (.cells #[.int .i64 z] 3)) := by
  obtain ⟨hR, hO, hB, hlt⟩ := hD
  refine append1 w hgd s x ho w0.heap.size v zs z hs hx hO hl hB.size ?_
  intro v' w' hO' hG
  exact h v' w' ⟨hR.kept hG (fun r hr => Nat.lt_of_lt_of_le hlt (hO.lt r hr).1), hO', hB.grown hG (Nat.le_of_lt hR.lt) (fun k hk => Nat.le_trans (Nat.le_of_lt hlt) (hO.lt k hk).1), hlt⟩

def ListPost (w : World) (Br : Nat) (a : Option Addr) (len cap : Nat) (p : Int) (most : Nat) (e : Ending) (w' : World) : Prop :=
  ∃ v zs p', e = .returned v ∧ DrI w w' Br a len cap p' v zs ∧ zs.length ≤ most + 1 ∧ okDrawn zs ∧ p ≤ p' ∧ p' ≤ p + 2 * most + 10

set_option maxHeartbeats 1600000 in
theorem l91List_any (Br len cap : Nat) (a : Option Addr) (p g : Int) (most : Nat) (w : World) (hp : 0 ≤ p ∧ p ≤ 100000) (hlen : len ≤ 2000) (hm : most ≤ 100) (hg : 1 ≤ g ∧ g ≤ 60) (hR : RdAt w Br a len cap p) :
    Calls Tryz.prog 35 #[.pointer (some ⟨Br, 0, none⟩), .int .i64 most, .int .i64 g] w (ListPost w Br a len cap p most) := by
  have hD0 : DrI w (w.alloc (.cells #[] 3)) Br a len cap p (.slice (some ⟨w.heap.size, 0, none⟩) 0 0) [] :=
    ⟨hR.kept (World.grownBy_alloc w _ none) (fun r hr => by cases hr), World.ownsRow_lit w #[] 0 (Nat.le_refl _) (by unfold maxLen; omega) (by simp), (Below.refl _ _).alloc (Nat.le_of_lt hR.lt) _, hR.lt⟩
  go_enter Tryz.func35, Tryz.ntmps35
  go_wp2_with fail
  refine (pickD Br len cap a _ _ w _ _ _ (by omega) hlen (by omega) hD0).mono ?_
  rintro e w1 ⟨n, rfl, hn0, hn1, hD1, _⟩
  clear hD0
  go_wp2_with fail
  refine (pickD Br len cap a _ _ w _ _ _ (by omega) hlen (by omega) hD1).mono ?_
  rintro e w2 ⟨kind, rfl, hk0, hk1, hD2, _⟩
  clear hD1
  go_wp2_with fail
  go_loopw [7, 10] (fun v i wr => ∃ (k : Nat) (zs : List Int) (p' : Int), k ≤ n ∧ i = .int .i64 k ∧ zs.length = k ∧ okDrawn zs ∧ DrI w wr Br a len cap p' v zs ∧ p ≤ p' ∧ p' ≤ p + 2 + 2 * k) (fun _ i _ => n.toNat - (intOf i).toNat)
  case atStart => exact ⟨0, [], _, by omega, rfl, rfl, (fun z hz => by cases hz), hD2, by omega, by omega⟩
  case round =>
    obtain ⟨k, zs, p', hk, rfl, hzl, hzs, hDr, hp1, hp2⟩ := hrel
    have hpw := pow_bd (k % 6) (by omega)
    by_cases hlt : (k : Int) < n
    · go_wp2_with (first
        | (go_at_call 46; refine (pickD Br len cap a _ _ w _ _ _ ?_ hlen ?_ ‹DrI w _ Br a len cap _ _ _›).mono ?_; (omega); (omega); rintro e w' ⟨x, rfl, hx0, hx1, hD', _⟩)
        | (at_builtin; refine appendD w _ rfl _ _ rfl _ _ _ rfl rfl ?_ ‹DrI w _ Br a len cap _ _ _› ?_; (omega); intro v' w' hD'))
      all_goals
        go_roundw
        case rel => exact ⟨k + 1, _, _, by omega, by go_num, by simp [hzl], hzs.snoc (by first | omega | (split <;> omega)), hD', by omega, by omega⟩
        case measure => simp [intOf]; omega
    · go_wp2_with fail
      refine (pickD Br len cap a _ _ w _ _ _ (by omega) hlen (by omega) hDr).mono ?_
      rintro e w3 ⟨x, rfl, hx0, hx1, hD3, _⟩
      clear hDr hD2
      go_wp2_with fail
      · refine (pickD Br len cap a _ _ w _ _ _ (by omega) hlen (by omega) (hD3.alloc _)).mono ?_
        rintro e w4 ⟨y, rfl, hy0, hy1, hD4, hG⟩
        have hbr := hD3.1.lt
        have hblk := hG.block w3.heap.size (by simp) (fun e => by cases e; omega)
        rw [heap_alloc_new] at hblk
        have q0 : w4.cell? ⟨w3.heap.size, 0, none⟩ = some (.int .i64 0) := by simp [World.cell?, hblk]
        have q1 : w4.cell? ⟨w3.heap.size, 1, none⟩ = some (.int .i64 61) := by simp [World.cell?, hblk]
        have q2 : w4.cell? ⟨w3.heap.size, 2, none⟩ = some (.int .i64 (-1)) := by simp [World.cell?, hblk]
        clear hblk hG hD3
        have hy : y = 0 ∨ y = 1 ∨ y = 2 := by omega
        rcases hy with rfl | rfl | rfl
        all_goals
          go_wp2_with (at_builtin; refine appendD w _ rfl _ _ rfl _ _ _ rfl rfl ?_ hD4 ?_; (omega); intro v' w' hD')
          go_ret
          exact ⟨_, _, _, rfl, hD', by simp; omega, hzs.snoc (by omega), by omega, by omega⟩
      · go_wp2
        go_ret
        exact ⟨_, _, _, rfl, hD3, by omega, hzs, by omega, by omega⟩

theorem BytesAt.le {w : World} {B : Nat} {a : Option Addr} {len l : Nat} (h : BytesAt w B a len) (hl : l ≤ len) : BytesAt w B a l := by
  rcases h with h | ⟨b, off, h1, h2, h3⟩
  · exact .inl (by omega)
  · exact .inr ⟨b, off, h1, h2, fun j hj => h3 j (by omega)⟩
theorem rdAt_new (w : World) (a : Option Addr) (l c : Nat) (h : BytesAt w w.heap.size a l) : RdAt (w.alloc (.cells #[.slice a l c, .int .i64 0] 76)) w.heap.size a l c 0 :=
  ⟨heap_alloc_new w _, h.same ((Below.refl _ _).alloc (Nat.le_refl _) _)⟩

theorem l6Open_any (a : Option Addr) (len cap : Nat) (w : World) (hl : len ≤ 1048576) (hcap : len ≤ cap) (hb : BytesAt w w.heap.size a len) :
    Calls Tryz.prog 28 #[.slice a len cap] w fun e w' => ∃ l c, e = .returned (.pointer (some ⟨w.heap.size, 0, none⟩)) ∧ l ≤ 2000 ∧ RdAt w' w.heap.size a l c 0 ∧ Below w.heap.size w w' := by
  go_enter Tryz.func28, Tryz.ntmps28
  go_wp2
  · go_ret
    exact ⟨2000, cap, rfl, by omega, rdAt_new _ _ _ _ (hb.le (by omega)), (Below.refl _ _).alloc (Nat.le_refl _) _⟩
  · go_ret
    exact ⟨len, cap, rfl, by omega, rdAt_new _ _ _ _ hb, (Below.refl _ _).alloc (Nat.le_refl _) _⟩

/-- a drawn list -/
def DrawnPost (w : World) (most : Nat) (e : Ending) (w' : World) : Prop :=
  ∃ ad cap zs, e = .returned (.slice ad zs.length cap) ∧ zs.length ≤ most ∧ okDrawn zs ∧ IntsAt w' ad zs ∧ Below w.heap.size w w'

theorem l91Some_any (a : Option Addr) (len cap : Nat) (w : World) (hl : len ≤ 1048576) (hcap : len ≤ cap) (hb : BytesAt w w.heap.size a len) :
    Calls Tryz.prog 15 #[.slice a len cap] w (DrawnPost w 9) := by
  go_enter Tryz.func15, Tryz.ntmps15
  go_wp2_with fail
  refine (l6Open_any a len cap w hl hcap hb).mono ?_
  rintro e w1 ⟨l, c, rfl, hl2, hR, hB⟩
  go_wp2_with fail
  refine (l91List_any w.heap.size l c a 0 20 8 w1 (by omega) hl2 (by omega) (by omega) hR).mono ?_
  rintro e w2 ⟨v, zs, p', rfl, hD, hz1, hz2, _, _⟩
  obtain ⟨ad, cp, rfl, hI, _⟩ := hD.2.1.shape
  have hB2 := hB.trans hD.2.2.1
  clear hD hR
  go_wp2
  go_ret
  exact ⟨ad, cp, zs, rfl, by omega, hz2, hI, hB2⟩
end Go.Proofs.YtdpapalfafjncaaGreatDoor
namespace Go.Proofs.YtdpapalfafjncaaGreatDoor
open Go.RowKit

theorem DrawHalfBest_any (a : Option Addr) (len cap : Nat) (w : World) (hl : len ≤ 1048576) (hcap : len ≤ cap) (hb : BytesAt w w.heap.size a len) :
    Calls Tryz.prog 5 #[.slice a len cap] w (DrawnPost w 9) := by
  go_enter Tryz.func5, Tryz.ntmps5
  go_wp2_with fail
  refine (l91Some_any a len cap w hl hcap hb).mono ?_
  rintro e w1 ⟨ad, cp, zs, rfl, h1, h2, h3, h4⟩
  go_wp2
  go_ret
  exact ⟨ad, cp, zs, rfl, h1, h2, h3, h4⟩

end Go.Proofs.YtdpapalfafjncaaGreatDoor
namespace Go.Proofs.YtdpapalfafjncaaGreatDoor
open Go.RowKit

theorem BytesAt.mono {w : World} {B B' : Nat} {a : Option Addr} {len : Nat} (h : BytesAt w B a len) (hB : B ≤ B') : BytesAt w B' a len := by
  rcases h with h | ⟨b, off, h1, h2, h3⟩
  · exact .inl h
  · exact .inr ⟨b, off, h1, Nat.lt_of_lt_of_le h2 hB, h3⟩
/-- a drawn list and a number -/
def Drawn2 (w : World) (most : Nat) (lo hi : Int) (e : Ending) (w' : World) : Prop :=
  ∃ ad cap zs q, e = .returned (.tuple #[.slice ad zs.length cap, .int .i64 q]) ∧ zs.length ≤ most ∧ okDrawn zs ∧ IntsAt w' ad zs ∧ lo ≤ q ∧ q ≤ hi ∧ Below w.heap.size w w'

/-- a drawn list and two numbers -/
def Drawn3 (w : World) (most : Nat) (lo hi : Int) (e : Ending) (w' : World) : Prop :=
  ∃ ad cap zs q k, e = .returned (.tuple #[.slice ad zs.length cap, .int .i64 q, .int .i64 k]) ∧ zs.length ≤ most ∧ okDrawn zs ∧ IntsAt w' ad zs ∧ lo ≤ q ∧ q ≤ hi ∧ lo ≤ k ∧ k ≤ hi ∧ Below w.heap.size w w'

end Go.Proofs.YtdpapalfafjncaaGreatDoor
namespace Go.Proofs.YtdpapalfafjncaaGreatDoor
open Go.RowKit

theorem set_fill (zs : List Int) (k : Nat) (h : k < zs.length) : (zs.take k ++ List.replicate (zs.length - k) 0).set k (zs[k]?.getD 0) = zs.take (k + 1) ++ List.replicate (zs.length - (k + 1)) 0 := by
  rw [take_snoc zs k h, List.set_append_right _ _ (by simp; omega)]
  have e : zs.length - k = (zs.length - (k + 1)) + 1 := by omega
  rw [e, List.replicate_succ, List.length_take, Nat.min_eq_left (Nat.le_of_lt h), Nat.sub_self, List.set_cons_zero]
  simp
theorem fill_length (zs : List Int) (k : Nat) (h : k ≤ zs.length) : (zs.take k ++ List.replicate (zs.length - k) 0).length = zs.length := by simp; omega

def CopyPost (w : World) (zs : List Int) (e : Ending) (w' : World) : Prop := ∃ v, e = .returned v ∧ OwnI w' w.heap.size v zs ∧ Below w.heap.size w w'

theorem eq_snoc {xs ys : List Int} (k : Nat) (h : xs.take k = ys.take k) (hk : k < xs.length) (hk' : k < ys.length) : (xs.take (k + 1) = ys.take (k + 1)) ↔ xs[k]?.getD 0 = ys[k]?.getD 0 := by
  rw [take_snoc xs k hk, take_snoc ys k hk', h]; simp
theorem ne_of_get {xs ys : List Int} (k : Nat) (h : xs[k]?.getD 0 ≠ ys[k]?.getD 0) : xs ≠ ys := fun e => h (by rw [e])
theorem ne_of_len {xs ys : List Int} (h : xs.length ≠ ys.length) : xs ≠ ys := fun e => h (by rw [e])

/-- SumOf's answer -/
def sumOfR (zs : List Int) (set : Int) : Int × Bool := if inL zs = true ∧ 0 ≤ set ∧ set < 2 ^ zs.length then (csum zs set.toNat, true) else (0, false)
theorem sumOfR_yes {zs : List Int} {c : Nat} (hz : inL zs = true) (h : c < 2 ^ zs.length) : sumOfR zs c = (csum zs c, true) := by
  have h' : (c : Int) < 2 ^ zs.length := by exact_mod_cast h
  simp [sumOfR, hz, h']
theorem sumOfR_no {zs : List Int} {set : Int} (h : ¬ (inL zs = true ∧ 0 ≤ set ∧ set < 2 ^ zs.length)) : sumOfR zs set = (0, false) := by
  simp only [sumOfR, if_neg h]

end Go.Proofs.YtdpapalfafjncaaGreatDoor
namespace Go.Proofs.YtdpapalfafjncaaGreatDoor
open Go.RowKit

end Go.Proofs.YtdpapalfafjncaaGreatDoor
