/- A script whose lines are known: what Execute answers. Conditions: the lines run as told. -/
import Derived.Test.YtdpapalfafjncaaGreatDoorNG
namespace Go.Proofs.YtdpapalfafjncaaGreatDoor
open Go.RowKit Go.Shelf

theorem builder_kept {B b D : Nat} {bs : List Value} {w w' : World} (h : Lib.IsBuilder 44 5 B b bs w) (hg : w.grownBy w' (some D)) (hD : D < B) : Lib.IsBuilder 44 5 B b bs w' := by
  have key : ∀ {p : Value}, Lib.BuilderAt 44 5 B b p bs w → Lib.BuilderAt 44 5 B b p bs w' := fun {p} h => by
    have hlt := h.lt
    obtain ⟨hB, v, hb, hown, hne⟩ := h
    refine ⟨hB, v, (hg.block b hlt (fun e => by cases e; omega)).trans hb, hown.kept hg (.inr fun e => ?_), hne⟩
    have := (World.ownsRow.lt hown D e).1
    omega
  exact h.elim (fun x => .inl (key x)) (fun x => .inr (key x))
theorem strC (l : List UInt8) : Lib.strCells ⟨l.toArray⟩ = Lib.byteCells l := by rw [Lib.strCells_eq]
def strSz : Value → Nat
  | .string b => b.size
  | _ => 0
/-- what has been told of the lines ahead of k -/
def toldTo (out : Nat → List UInt8) : Nat → List UInt8
  | 0 => []
  | k + 1 => toldTo out k ++ (out k ++ [10])

set_option maxRecDepth 100000 in
set_option maxHeartbeats 6400000 in
theorem Execute_lines (n : Nat) (lin out rest : Nat → List UInt8) (len : Nat) (w : World) (St : Nat → World → Prop)
    (hrest : ∀ k, k < n → rest k = lin k ++ 10 :: rest (k + 1)) (hend : rest n = []) (h10 : ∀ k, k < n → (10 : UInt8) ∉ lin k) (hsz : (rest 0).length ≤ 600) (hszk : ∀ k, k ≤ n → (rest k).length ≤ 600) (hout : ∀ k, k < n → (out k).length ≤ 600) (htold : ∀ k, k ≤ n → (toldTo out k).length ≤ 100000) (hlen : len < 100)
    (hst0 : ∀ W, Boxed W w.heap.size 41 (.slice none 0 0) → Below w.heap.size w W → St 0 W)
    (hkeep : ∀ k W W', St k W → Others (w.heap.size + 1) W W' → Below (w.heap.size + 1) W W' → W.heap.size ≤ W'.heap.size → St k W')
    (hrun : ∀ k, k < n → ∀ W, Below w.heap.size w W → w.heap.size + 2 ≤ W.heap.size → St k W → Calls Tryz.prog 24 #[.pointer (some ⟨w.heap.size, 0, none⟩), .string ⟨(lin k).toArray⟩] W fun e w' => e = .returned (.string ⟨(out k).toArray⟩) ∧ St (k + 1) w' ∧ W.grownBy w' (some w.heap.size))
    (hfin : ∀ W, St n W → ∃ a cap, Boxed W w.heap.size 41 (.slice a len cap)) :
    Calls Tryz.prog 8 #[.string ⟨(rest 0).toArray⟩] w fun e w' => e = .returned (.string ⟨(toldTo out n ++ [110, 117, 109, 98, 101, 114, 115, 32] ++ dgs len ++ [10]).toArray⟩) ∧ Below w.heap.size w w' := by
  have hs0 : (⟨(rest 0).toArray⟩ : ByteArray).size = (rest 0).length := by simp [ByteArray.size]
  have b0 := Boxed.new w 41 (.slice none 0 0)
  have hB0 : Below w.heap.size w (w.alloc (.cells #[.slice none 0 0] 41)) := (Below.refl _ w).alloc (Nat.le_refl _) _
  have hb1 := Lib.fresh_isBuilder 44 5 (w.alloc (.cells #[.slice none 0 0] 41))
  rw [World.size_alloc] at hb1
  have hS0 := hst0 _ (b0.alloc (.cells #[.pointer none, .slice none 0 0] 44)) (hB0.alloc (by simp) _)
  have hB1 := hB0.alloc (by simp) (.cells #[.pointer none, .slice none 0 0] 44)
  have HK := Lib.hid hkeep
  have HR := Lib.hid hrun
  have HF := Lib.hid hfin
  have HRS := Lib.hid hrest
  have HE := Lib.hid hend
  have H10 := Lib.hid h10
  have HOU := Lib.hid hout
  have HTO := Lib.hid htold
  have HSZ := Lib.hid hszk
  clear hkeep hrun hfin hst0 b0 hB0 hrest hend h10 hout htold hszk
  go_enter Tryz.func8, Tryz.ntmps8
  go_wp2_with fail
  go_loopw [0] (fun t wr => ∃ k : Nat, k ≤ n ∧ t = .string ⟨(rest k).toArray⟩ ∧ Hid (St k wr) ∧ Hid (Lib.IsBuilder 44 5 (w.heap.size + 1) (w.heap.size + 1) (Lib.byteCells (toldTo out k)) wr) ∧ Below w.heap.size w wr ∧ w.heap.size + 2 ≤ wr.heap.size) (fun t _ => strSz t)
  case atStart => exact ⟨0, Nat.zero_le _, rfl, hS0, hb1, hB1, by simp⟩
  case round =>
    obtain ⟨k, hk, rfl, hS, hBd, hB, hsz2⟩ := hrel
    clear hS0 hb1 hB1
    by_cases hlt : k < n
    · have hr := HRS.out k hlt
      have hl1 := HSZ.out k hk
      have hl2 : (lin k).length + (rest (k + 1)).length ≤ 1000000 := by rw [hr] at hl1; simp at hl1; omega
      have HC := Lib.hid (Cut_hit (lin k) (rest (k + 1)) 10 wr (H10.out k hlt) hl2)
      rw [← hr] at HC
      have HLT : Hid ((rest (k + 1)).length < (rest k).length) := by show _ < _; rw [hr]; simp; omega
      clear hr hl1 hl2
      go_wp2_with fail
      refine HC.out.mono ?_
      rintro e w1 ⟨rfl, q, rfl⟩
      have hg1 : Others (w.heap.size + 1) wr (wr.drewN q) := fun _ _ _ _ => rfl
      have hS1 := HK.out k wr (wr.drewN q) hS.out hg1 (drewN_below wr q _) (by simp)
      have HRN := Lib.hid (HR.out k hlt (wr.drewN q) (belowDr hB q) (by simpa using hsz2) hS1)
      have hBd1 : Lib.IsBuilder 44 5 (w.heap.size + 1) (w.heap.size + 1) (Lib.byteCells (toldTo out k)) (wr.drewN q) := hBd.out
      have HBD1 := Lib.hid hBd1
      clear hS1 hg1 hBd1 HC
      go_wp2_with fail
      refine HRN.out.mono ?_
      rintro e w2 ⟨rfl, hS2, hG2⟩
      have hBd2 := builder_kept HBD1.out hG2 (Nat.lt_succ_self _)
      have hB2 := (belowDr hB q).grown hG2 (by simp; omega) (fun j hj => by cases hj; exact Nat.le_refl _)
      have hsz3 : w.heap.size + 2 ≤ w2.heap.size := by have := hG2.size; simp at this; omega
      have ht1 := HTO.out k hk
      have ho1 := HOU.out k hlt
      have HW1 := Lib.hid (WriteString_any (w.heap.size + 1) (w.heap.size + 1) _ ⟨(out k).toArray⟩ w2 hBd2 (by rw [Lib.byteCells_length]; simp [ByteArray.size]; omega) (by omega))
      rw [strC, ← Lib.byteCells_append] at HW1
      have HS2 := Lib.hid hS2
      clear hS2 hG2 hBd2
      go_wp2_with fail
      refine HW1.out.mono ?_
      rintro e w3 ⟨rfl, hBd3, hB3, hO3⟩
      have hz3 := hB3.size
      have hS3 := HK.out (k + 1) w2 w3 HS2.out hO3 hB3 hz3
      have HS3 := Lib.hid hS3
      have hB33 := hB2.trans (hB3.mono (by omega))
      have HW2 := Lib.hid (WriteString_any (w.heap.size + 1) (w.heap.size + 1) _ ⟨#[10]⟩ w3 hBd3 (by rw [Lib.byteCells_length, List.length_append]; simp [ByteArray.size]; omega) (by omega))
      have e10 : Lib.strCells ⟨#[10]⟩ = Lib.byteCells [10] := strC [10]
      rw [e10, ← Lib.byteCells_append, List.append_assoc] at HW2
      clear hBd3 hB3 hO3 hS3 HW1 e10
      go_wp2_with fail
      refine HW2.out.mono ?_
      rintro e w4 ⟨rfl, hBd4, hB4, hO4⟩
      have hz4 := hB4.size
      have HS4 := Lib.hid (HK.out (k + 1) w3 w4 HS3.out hO4 hB4 hz4)
      have HBD4 := Lib.hid hBd4
      have hB44 := hB33.trans (hB4.mono (by omega))
      clear hBd4 hB4 hO4 HW2
      go_wp2_with fail
      go_roundw
      case rel => exact ⟨k + 1, by omega, rfl, HS4, HBD4, hB44, by omega⟩
      case measure => simp only [strSz]; have := HLT.out; simpa [ByteArray.size] using this
    · obtain rfl : k = n := by omega
      have he := HE.out
      rw [he]
      have HC := Lib.hid (Cut_none [] 10 wr (by simp))
      clear he
      go_wp2_with fail
      refine HC.out.mono ?_
      rintro e w1 ⟨rfl, rfl⟩
      have ht1 := HTO.out k hk
      have hz1 : w.heap.size + 1 ≤ w1.heap.size := by omega
      have HW1 := Lib.hid (WriteString_any (w.heap.size + 1) (w.heap.size + 1) _ ⟨[110, 117, 109, 98, 101, 114, 115, 32].toArray⟩ w1 hBd.out (by rw [Lib.byteCells_length]; simp [ByteArray.size]; omega) hz1)
      rw [strC, ← Lib.byteCells_append] at HW1
      clear HC
      go_wp2_with fail
      refine HW1.out.mono ?_
      rintro e w2 ⟨rfl, hBd2, hB2, hO2⟩
      have hS2 := HK.out k w1 w2 hS.out hO2 hB2 hB2.size
      obtain ⟨a, cap, hbx⟩ := HF.out w2 hS2
      have c2 := hbx.cell
      have hB22 := hB.trans (hB2.mono (by omega))
      have hz2 : w.heap.size + 1 ≤ w2.heap.size := by have := hB2.size; omega
      have HIT := Lib.hid (Tryz.strconv_Itoa_small len hlen w2)
      rw [dgs_dec] at HIT
      have HW2 := Lib.hid (WriteString_any (w.heap.size + 1) (w.heap.size + 1) _ ⟨(dgs len).toArray⟩ w2 hBd2 (by rw [Lib.byteCells_length]; have := dgs_len (n := len) (by omega); simp [ByteArray.size]; omega) hz2)
      rw [strC, ← Lib.byteCells_append] at HW2
      clear hBd2 hB2 hO2 hS2 hbx HW1
      go_wp2_with fail
      refine HIT.out.mono ?_
      rintro e w3 ⟨rfl, rfl⟩
      go_wp2_with fail
      refine HW2.out.mono ?_
      rintro e w4 ⟨rfl, hBd4, hB4, _⟩
      have hB44 := hB22.trans (hB4.mono (by omega))
      have hz4 : w.heap.size + 1 ≤ w4.heap.size := by have := hB4.size; omega
      have HW3 := Lib.hid (WriteString_any (w.heap.size + 1) (w.heap.size + 1) _ ⟨[10].toArray⟩ w4 hBd4 (by rw [Lib.byteCells_length]; have := dgs_len (n := len) (by omega); simp [ByteArray.size]; omega) hz4)
      rw [strC, ← Lib.byteCells_append] at HW3
      clear hBd4 hB4 HW2 HIT c2
      go_wp2_with fail
      refine HW3.out.mono ?_
      rintro e w5 ⟨rfl, hBd5, hB5, _⟩
      have hB55 := hB44.trans (hB5.mono (by omega))
      have hz5 : w.heap.size + 1 ≤ w5.heap.size := by have := hB5.size; omega
      have HST := Lib.hid (Tryz.Builder_String_any (w.heap.size + 1) (w.heap.size + 1) _ w5 hBd5 hz5)
      obtain ⟨TX, hTX⟩ : ∃ TX, toldTo out k ++ [110, 117, 109, 98, 101, 114, 115, 32] ++ dgs len ++ [10] = TX := ⟨_, rfl⟩
      have HTX := Lib.hid hTX
      rw [hTX] at HST
      clear hBd5 hB5 HW3 hTX
      go_wp2_with fail
      refine HST.out.mono ?_
      rintro e w6 ⟨rfl, hB6⟩
      go_wp2_with fail
      go_ret
      exact ⟨by rw [HTX.out]; rfl, hB55.trans (hB6.mono (by omega))⟩
end Go.Proofs.YtdpapalfafjncaaGreatDoor
