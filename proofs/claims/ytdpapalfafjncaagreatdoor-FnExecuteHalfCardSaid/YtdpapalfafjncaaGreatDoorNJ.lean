/- The text of numbers with blanks that the law makes: spaced. Conditions: stated in each. -/
import Derived.Test.YtdpapalfafjncaaGreatDoorNI
namespace Go.Proofs.YtdpapalfafjncaaGreatDoor
open Go.RowKit

theorem spT_le : ∀ (zs : List Int), (∀ x ∈ zs, x.toNat < 1000000) → (spT zs).length ≤ 7 * zs.length
  | [], _ => by simp [spT]
  | [x], h => by
    have := dgs_le 5 x.toNat (by simpa using h x (by simp))
    simp only [spT, List.length_singleton]
    omega
  | x :: y :: r, h => by
    have h1 := dgs_le 5 x.toNat (by simpa using h x (by simp))
    have h2 := spT_le (y :: r) fun z hz => h z (List.mem_cons_of_mem _ hz)
    simp only [spT, List.length_append, List.length_cons] at h2 ⊢
    omega

theorem bytes_app (l m : List UInt8) : (⟨l.toArray⟩ : ByteArray) ++ ⟨m.toArray⟩ = ⟨(l ++ m).toArray⟩ := by
  apply ByteArray.ext
  simp

theorem take_next {zs : List Int} {k : Nat} (hk : k < zs.length) : zs.take (k + 1) = zs.take k ++ [zs[k]?.getD 0] := by
  rw [List.take_add_one, List.getElem?_eq_getElem hk]; simp

set_option maxRecDepth 100000 in
set_option maxHeartbeats 3200000 in
theorem spaced_any (q : Option Addr) (cap : Nat) (zs : List Int) (w : World) (hI : IntsAt w q zs) (hz : ∀ x ∈ zs, 0 ≤ x ∧ x < 1000000) (hl : zs.length ≤ 1000) :
    Calls Tryz.prog 9 #[.slice q zs.length cap] w fun e w' => e = .returned (.string ⟨(spT zs).toArray⟩) ∧ Below w.heap.size w w' := by
  have HL : Hid (∀ k, (spT (zs.take k)).length ≤ 7000) := fun k => by
    have := spT_le (zs.take k) fun x hx => by have := hz x (List.mem_of_mem_take hx); omega
    have h2 : (zs.take k).length ≤ zs.length := by simp; omega
    omega
  have HZ : Hid (∀ k, k < zs.length → 0 ≤ zs[k]?.getD 0 ∧ zs[k]?.getD 0 < 1000000) := fun k hk => by
    rw [List.getElem?_eq_getElem hk]; exact hz _ (List.getElem_mem hk)
  have HI := Lib.hid hI
  have HB0 := Lib.hid (Below.refl w.heap.size w)
  clear hz hI
  go_enter Tryz.func9, Tryz.ntmps9
  go_wp2_with fail
  go_loopw [3, 4] (fun t i wr => ∃ k : Nat, k ≤ zs.length ∧ i = .int .i64 k ∧ t = .string ⟨(spT (zs.take k)).toArray⟩ ∧ Hid (Below w.heap.size w wr)) (fun _ i _ => zs.length - (intOf i).toNat)
  case atStart => exact ⟨0, Nat.zero_le _, rfl, by simp [spT], HB0⟩
  case round =>
    obtain ⟨k, hk, rfl, rfl, hB⟩ := hrel
    by_cases hlt : k < zs.length
    · have hIw : IntsAt wr q zs := HI.out.below hB.out
      obtain ⟨b, off, rfl, hbb, hcell⟩ := hIw.at (by omega)
      have hx := hcell k hlt
      obtain ⟨x, hxv⟩ : ∃ x, zs[k]?.getD 0 = x := ⟨_, rfl⟩
      have hzk := HZ.out k hlt
      have htk := take_next hlt
      rw [hxv] at hx hzk htk
      have HSN : Hid (spT (zs.take (k + 1)) = spT (zs.take k) ++ (if k = 0 then [] else [32]) ++ dgs x.toNat) := by
        show _ = _
        rw [htk, spT_snoc]
        have : (zs.take k = []) ↔ k = 0 := by
          rw [List.take_eq_nil_iff]
          constructor
          · rintro (h | h)
            · exact h
            · subst h; simp at hlt
          · exact .inl
        simp only [this]
      have hl0 := HL.out k
      have hd0 := dgs_le 5 x.toNat (by simp only [Nat.reduceAdd, Nat.reducePow]; omega)
      obtain ⟨n, rfl⟩ : ∃ n : Nat, x = (n : Int) := ⟨x.toNat, by omega⟩
      have HD : Hid (∀ W, Calls Tryz.prog 10 #[.int .i64 (n : Int)] W fun e w' => e = .returned (.string ⟨(dgs n).toArray⟩) ∧ Below W.heap.size W w') := fun W => digits_any 5 n W (by simp only [Nat.reduceAdd, Nat.reducePow]; omega) (by omega)
      rw [Int.toNat_natCast] at hd0 HSN
      clear hxv htk hcell
      generalize hA : spT (zs.take k) = A at *
      clear hA
      have hle2 : ¬ 9223372036854775807 < A.length + 1 := by omega
      have hle3 : ¬ 9223372036854775807 < A.length + (dgs n).length := by omega
      have hle4 : ¬ 9223372036854775807 < A.length + 1 + (dgs n).length := by omega
      rcases Nat.eq_zero_or_pos k with hk0 | hk0
      · subst hk0
        rw [Nat.add_zero] at hx
        go_wp2_with fail
        refine (HD.out _).mono ?_
        rintro e w1 ⟨rfl, hB1⟩
        go_wp2_with fail
        go_roundw
        case rel =>
          refine ⟨1, by omega, rfl, ?_, hB.out.trans (hB1.mono hB.out.size)⟩
          have := HSN.out
          simp only [Nat.zero_add, if_pos, List.append_nil] at this
          rw [this]
          exact congrArg Value.string (bytes_app _ _)
        case measure => simp [intOf]; omega
      · go_wp2_with fail
        refine (HD.out _).mono ?_
        rintro e w1 ⟨rfl, hB1⟩
        go_wp2_with fail
        go_roundw
        case rel =>
          refine ⟨k + 1, by omega, by go_num, ?_, hB.out.trans (hB1.mono hB.out.size)⟩
          have := HSN.out
          rw [if_neg (by omega)] at this
          rw [this]
          exact congrArg Value.string ((congrArg (fun z : ByteArray => z ++ _) (bytes_snoc _ _)).trans (bytes_app _ _))
        case measure => simp [intOf]; omega
    · obtain rfl : k = zs.length := by omega
      go_wp2_with fail
      go_ret
      exact ⟨by rw [List.take_length]; rfl, hB.out⟩
end Go.Proofs.YtdpapalfafjncaaGreatDoor
