/- Chapter 8 of the reference: RestCounts; the checker's marks. Conditions: stated in each. -/
import Derived.Test.YtbpkffpejmlonaaW3
import Derived.Test.YtbpkffpejmlonaaM9
namespace Go.Proofs.Ytbpkffpejmlonaa
open Go.RowKit

/-- a told list and true, or an empty one and false -/
def ListR (w : World) (ok : Bool) (zs : List Int) (e : Ending) (w' : World) : Prop :=
  ∃ v, e = .returned (.tuple #[v, .bool ok]) ∧ OwnI w' w.heap.size v zs ∧ Below w.heap.size w w'

set_option maxHeartbeats 1600000 in
theorem sRestCounts_any (a : Option Addr) (cap : Nat) (zs : List Int) (n : Int) (w : World) (hl : zs.length ≤ 4294967296) (hI : IntsAt w a zs) :
    Calls Try.prog 40 #[.slice a zs.length cap, .int .i64 n] w (ListR w (restOk zs n) (if restOk zs n = true then restC zs n else [])) := by
  by_cases hz : restOk zs n = true
  case neg =>
    have hz' : restOk zs n = false := by simpa using hz
    rw [if_neg hz, hz']
    have HZ := Lib.hid hz'
    clear hz hz'
    have HO := World.ownsRow_lit (base := w.heap.size) (e := 3) (size := 1) w #[] 0 (Nat.le_refl _) (by unfold maxLen; omega) (by simp)
    go_enter Try.func40, Try.ntmps40
    go_wp2_with (go_at_call 101; refine (l8Given_any a cap zs n w (by omega) hI).mono ?_; rw [HZ.out]; rintro e w' ⟨rfl, rfl⟩)
    go_ret2
    exact ⟨_, rfl, HO, (Below.refl _ _).alloc (Nat.le_refl _) _⟩
  rw [if_pos hz, hz]
  have hz' := (restOk_iff zs n).1 hz
  have hzz := (inL_iff zs).1 hz'.1
  have hp := pow_bd zs.length (by omega)
  have HZ := Lib.hid hz
  have hn := hz'.2
  clear hz hz'
  obtain ⟨N, rfl⟩ := Int.eq_ofNat_of_zero_le (show 0 ≤ n by omega)
  go_enter Try.func40, Try.ntmps40
  go_wp2_with (first | (go_at_call 101; refine (l8Given_any a cap zs _ w (by omega) hI).mono ?_; rw [HZ.out]; rintro e w' ⟨rfl, rfl⟩) | (at_make; refine makeI w rfl _ _ rfl N _ rfl rfl rfl (by omega) ?_; intro w1 hO hG))
  go_loopw [7] (fun i wr => ∃ c : Nat, c ≤ 2 ^ zs.length ∧ i = .int .i64 c ∧ OwnI wr w.heap.size (.slice (some ⟨w.heap.size, 0, none⟩) N N) (tally (restKey zs N) N c) ∧ Below w.heap.size w wr) (fun i _ => 2 ^ zs.length - (intOf i).toNat)
  case atStart => exact ⟨0, Nat.zero_le _, rfl, by rw [tally_zero]; exact hO, (Below.refl _ _).grown hG (Nat.le_refl _) (fun k hk => by cases hk)⟩
  case round =>
    obtain ⟨c, hc, rfl, hOr, hB⟩ := hrel
    clear hO hG
    have hIr := hI.below hB
    have hc2 : (c : Int) ≤ 2 ^ zs.length := by exact_mod_cast hc
    have HC := Lib.hid hc
    clear hc
    by_cases hlt : (c : Int) < 2 ^ zs.length
    · have hlt' : c < 2 ^ zs.length := by exact_mod_cast hlt
      have HT := Lib.hid hlt'
      clear hlt'
      have hs := csum_bd hzz.2 c
      have hs2 := tot_bd hzz.2
      have hm1 := Int.emod_nonneg (csum zs c) (show (N : Int) ≠ 0 by omega)
      have hm2 := Int.emod_lt_of_pos (csum zs c) (show 0 < (N : Int) by omega)
      have HK : Hid (restKey zs N c = some (csum zs c % N).toNat) := rfl
      have hbd := tally_bd (restKey zs N) N c (csum zs c % N).toNat
      have hlen := tally_length (restKey zs N) N c
      obtain ⟨g, cp, he, hg1, hg2, hcf⟩ := hOr.at (by omega)
      rw [hlen] at he
      simp only [Value.slice.injEq, Option.some.injEq, Addr.mk.injEq, and_true, true_and] at he
      obtain ⟨rfl, rfl⟩ := he
      have hc1 := (hcf (csum zs c % N).toNat (by omega)).1
      have hf1 := (hcf (csum zs c % N).toNat (by omega)).2
      have HO := Lib.hid hOr
      have HL := Lib.hid hlen
      clear hcf hOr hlen
      have HS := Lib.hid (tally_some (N := N) HK.out)
      generalize (tally (restKey zs N) N c)[(csum zs c % N).toNat]?.getD 0 = y at hc1 hbd HS
      generalize hr : csum zs c % N = r at hc1 hf1 hm1 hm2 HS HK
      go_wp2_with (first | (go_at_call 104; refine (l1All_any a zs.length cap _ (by omega)).mono ?_; rintro e w' ⟨rfl, rfl⟩) | (go_at_call 105; refine (l1Sum_any c a cap zs _ (by omega) (by omega) hzz.2 hIr).mono ?_; rintro e w' ⟨rfl, m', rfl⟩))
      go_roundw
      case rel =>
        refine ⟨c + 1, HT.out, by go_num, ?_, (belowDr hB m').setCell (p := ⟨_, _, none⟩) (Nat.le_refl _) _⟩
        rw [← HS.out]
        exact (HO.out.dr m').put HL.out _ _
      case measure => have := HT.out; simp [intOf]; omega
    · have hcc : (c : Int) = 2 ^ zs.length := by omega
      have hcc' : c = 2 ^ zs.length := by exact_mod_cast hcc
      have HO := Lib.hid hOr
      clear hcc hOr
      have HCC := Lib.hid hcc'
      clear hcc'
      go_wp2_with (go_at_call 104; refine (l1All_any a zs.length cap _ (by omega)).mono ?_; rintro e w' ⟨rfl, rfl⟩)
      go_ret2
      exact ⟨_, rfl, by have := HO.out; rw [HCC.out] at this; exact this, hB⟩

/-- what a row of marks from k holds -/
def marks (k : Int) : Nat → List Int
  | 0 => []
  | n + 1 => k :: marks (k + 1) n
theorem marks_length (k : Int) (n : Nat) : (marks k n).length = n := by
  induction n generalizing k with
  | zero => rfl
  | succ n ih => simp [marks, ih]
theorem marks_get (k : Int) (n j : Nat) (h : j < n) : (marks k n)[j]?.getD 0 = k + j := by
  induction n generalizing k j with
  | zero => omega
  | succ n ih =>
    cases j with
    | zero => simp [marks]
    | succ j => simp only [marks, List.getElem?_cons_succ]; rw [ih (k + 1) j (by omega)]; omega
theorem marks_snoc (k : Int) (n : Nat) : marks k (n + 1) = marks k n ++ [k + n] := by
  induction n generalizing k with
  | zero => simp [marks]
  | succ n ih => rw [marks, ih (k + 1), marks, List.cons_append]; congr 2; congr 1; omega
theorem marks_fill (k : Int) (zs : List Int) (j : Nat) (h : j < zs.length) : (marks k j ++ zs.drop j).set j (k + j) = marks k (j + 1) ++ zs.drop (j + 1) := by
  rw [marks_snoc, List.set_append_right _ _ (by rw [marks_length]; omega), marks_length, Nat.sub_self]
  rw [List.drop_eq_getElem_cons h, List.set_cons_zero]
  simp
theorem fill_len (k : Int) (zs : List Int) (j : Nat) (h : j ≤ zs.length) : (marks k j ++ zs.drop j).length = zs.length := by simp [marks_length]; omega

def MarkPost (w : World) (B : Nat) (v : Value) (k : Int) (n : Nat) (e : Ending) (w' : World) : Prop := e = .returned (.int .i64 (k + n)) ∧ OwnI w' B v (marks k n) ∧ w.grownBy w' v.ownBlock

set_option maxHeartbeats 800000 in
theorem markIntS_any (B : Nat) (a : Option Addr) (cap : Nat) (zs : List Int) (k : Int) (w : World) (hl : zs.length ≤ 2000000) (hk : 0 ≤ k ∧ k ≤ 1000000000) (hO : OwnI w B (.slice a zs.length cap) zs) :
    Calls Try.prog 42 #[.slice a zs.length cap, .int .i64 k] w (MarkPost w B (.slice a zs.length cap) k zs.length) := by
  go_enter Try.func42, Try.ntmps42
  go_wp2
  go_loopw [1, 5] (fun t i wr => ∃ j : Nat, j ≤ zs.length ∧ i = .int .i64 j ∧ t = .int .i64 (k + j) ∧ OwnI wr B (.slice a zs.length cap) (marks k j ++ zs.drop j) ∧ w.grownBy wr (Value.slice a zs.length cap).ownBlock) (fun _ i _ => zs.length - (intOf i).toNat)
  case atStart => exact ⟨0, Nat.zero_le _, rfl, by go_num, by simpa [marks] using hO, World.grownBy.refl _ _⟩
  case round =>
    obtain ⟨j, hj, rfl, rfl, hOr, hG⟩ := hrel
    by_cases hlt : j < zs.length
    · have hfl := fill_len k zs j hj
      obtain ⟨g, cp, he, hg1, hg2, hcf⟩ := hOr.at (by omega)
      rw [hfl] at he hcf
      simp only [Value.slice.injEq] at he
      obtain ⟨rfl, _, rfl⟩ := he
      have hc1 := (hcf j hlt).1
      have hf1 := (hcf j hlt).2
      have HS := Lib.hid (marks_fill k zs j hlt)
      have HO := Lib.hid hOr
      have HFL := Lib.hid hfl
      clear hcf hOr hfl hO
      generalize (marks k j ++ zs.drop j)[j]?.getD 0 = y at hc1
      go_wp2
      go_roundw
      case rel => exact ⟨j + 1, by omega, by go_num, by go_num, by rw [← HS.out]; exact HO.out.put HFL.out _ _, hG.trans' (by simpa [Value.ownBlock] using grownBy_set wr g j _)⟩
      case measure => simp [intOf]; omega
    · obtain rfl : j = zs.length := by omega
      have HO := Lib.hid hOr
      clear hOr hO
      go_wp2
      go_ret
      exact ⟨rfl, by have := HO.out; rwa [List.drop_length, List.append_nil] at this, hG⟩

set_option maxHeartbeats 800000 in
theorem heldIntS_any (a : Option Addr) (cap n : Nat) (k : Int) (w : World) (hl : n ≤ 2000000) (hk : 0 ≤ k ∧ k ≤ 1000000000) (hI : IntsAt w a (marks k n)) :
    Calls Try.prog 43 #[.slice a n cap, .int .i64 k] w fun e w' => e = .returned (.int .i64 (k + n)) ∧ w = w' := by
  have hml := marks_length k n
  go_enter Try.func43, Try.ntmps43
  go_wp2
  go_loop [1, 5] (fun t i => ∃ j : Nat, j ≤ n ∧ i = .int .i64 j ∧ t = .int .i64 (k + j)) (fun _ i => n - (intOf i).toNat)
  case atStart => exact ⟨0, Nat.zero_le _, rfl, by go_num⟩
  case round =>
    obtain ⟨j, hj, rfl, rfl⟩ := hrel
    by_cases hlt : j < n
    · obtain ⟨b, off, rfl, hb, hcell⟩ := hI.at (by omega)
      have hx := hcell j (by omega)
      rw [marks_get k n j hlt] at hx
      clear hcell hml
      go_wp2
      go_round
      case rel => exact ⟨j + 1, by omega, by go_num, by go_num⟩
      case measure => simp [intOf]; omega
    · obtain rfl : j = n := by omega
      clear hml
      go_wp2
      go_ret
      exact ⟨rfl, rfl⟩
end Go.Proofs.Ytbpkffpejmlonaa
