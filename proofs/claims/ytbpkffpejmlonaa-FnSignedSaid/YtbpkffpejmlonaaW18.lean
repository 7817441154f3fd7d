/- HalfSigned of the reference. Conditions: the list is short enough to be counted. -/
import Derived.Test.YtbpkffpejmlonaaW13
import Derived.Test.YtbpkffpejmlonaaW5
import Derived.Test.YtbpkffpejmlonaaM18
import Derived.Test.YtbpkffpejmlonaaIS
import Derived.Test.YtbpkffpejmlonaaAA
namespace Go.Proofs.Ytbpkffpejmlonaa
open Go.RowKit

/-- the answer of HalfSigned -/
def sgnR (zs : List Int) : List Int := if inL zs = true then sgnC zs else []
theorem sgnR_length (zs : List Int) : (sgnR zs).length ≤ 601 := by
  unfold sgnR
  split
  · rename_i hz
    have hzl := (inL_iff zs).1 hz
    have := tot_bd hzl.2
    rw [sgnC_length]; omega
  · simp

set_option maxHeartbeats 4000000 in
theorem sHalfSigned_any (a : Option Addr) (cap : Nat) (zs : List Int) (w : World) (hl : zs.length ≤ 4294967296) (hI : IntsAt w a zs) :
    Calls Try.prog 82 #[.slice a zs.length cap] w (ListR w (inL zs) (sgnR zs)) := by
  have HO : OwnI (w.alloc (.cells #[] 3)) w.heap.size (.slice (some ⟨w.heap.size, 0, none⟩) 0 0) [] := World.ownsRow_lit w #[] 0 (Nat.le_refl _) (by unfold maxLen; omega) (by simp)
  have hB0 : Below w.heap.size w (w.alloc (.cells #[] 3)) := (Below.refl _ _).alloc (Nat.le_refl _) _
  have hI0 := hI.below hB0
  have hs0 : (w.alloc (.cells #[] 3)).heap.size = w.heap.size + 1 := by simp
  by_cases hz : inL zs = true
  case neg =>
    have hz' : inL zs = false := by simpa using hz
    have hr : sgnR zs = [] := by unfold sgnR; rw [if_neg hz]
    rw [hz', hr]
    have HZ := Lib.hid hz'
    clear hz hz' hr
    go_enter Try.func82, Try.ntmps82
    go_wp2_with (go_at_call 32; refine (sSumIn_any a cap zs _ (by omega) hI0).mono ?_; rw [HZ.out]; rintro e w' ⟨rfl, rfl⟩)
    go_ret2
    exact ⟨_, rfl, HO, hB0⟩
  have hzl := (inL_iff zs).1 hz
  have htb := tot_bd hzl.2
  have hr : sgnR zs = sgnC zs := by unfold sgnR; rw [if_pos hz]
  rw [hr]
  have HZ := Lib.hid hz
  obtain ⟨T, hT⟩ : ∃ T : Nat, tot zs = T := ⟨(tot zs).toNat, by omega⟩
  have hcl : (sumC zs).length = T + 1 := by rw [sumC_length]; omega
  have hsl : (sgnC zs).length = T + 1 := by rw [sgnC_length]; omega
  have HE : Hid (∀ k, k < T + 1 → (T + k) % 2 = 0 → (sgnC zs)[k]?.getD 0 = (sumC zs)[(T + k) / 2]?.getD 0) := fun k hk h => by
    rw [sgnC_even hzl.2 k (by omega) (by omega)]; congr 2; omega
  have HD : Hid (∀ k, k < T + 1 → ¬ (T + k) % 2 = 0 → (sgnC zs)[k]?.getD 0 = 0) := fun k hk h => sgnC_odd k (by omega) (by omega)
  rw [hz]
  clear hz hr
  have hTb : T ≤ 600 := by omega
  have hc := l1Counts_any a cap zs (w.alloc (.cells #[] 3)) hzl.1 hzl.2 hI0
  go_enter Try.func82, Try.ntmps82
  go_wp2_with (go_at_call 32; refine (sSumIn_any a cap zs _ (by omega) hI0).mono ?_; rw [HZ.out]; rintro e w' ⟨rfl, rfl⟩)
  refine hc.mono ?_
  rintro e w1 ⟨v1, rfl, hO1, hB1⟩
  have hbdc := sumC_mem hzl.1
  generalize sumC zs = cs at *
  generalize sgnC zs = S at *
  obtain ⟨g1, c1, rfl, hg1, hg1', _⟩ := hO1.at (by omega)
  rw [hcl] at hO1
  rw [hcl]
  have HO1 : OwnI w1 w.heap.size (.slice (some ⟨w.heap.size, 0, none⟩) 0 0) [] := HO.keptB hB1
  have hB01 : Below w.heap.size w w1 := hB0.trans (hB1.mono (by omega))
  clear HO hc hI0
  generalize (w.alloc (.cells #[] 3)) = w0 at *
  have HCL := Lib.hid hcl
  have HSL := Lib.hid hsl
  clear hcl hsl hT htb
  go_wp2
  go_loopw [4, 7] (fun v i wr => ∃ k : Nat, k ≤ T + 1 ∧ i = .int .i64 k ∧ v.ownBlock ≠ some g1 ∧ OwnI wr w.heap.size v (S.take k) ∧ OwnI wr w0.heap.size (.slice (some ⟨g1, 0, none⟩) (T + 1) c1) cs ∧ Below w.heap.size w wr) (fun _ i _ => T + 1 - (intOf i).toNat)
  case atStart => exact ⟨0, Nat.zero_le _, rfl, by simp [Value.ownBlock]; omega, HO1, hO1, hB01⟩
  case round =>
    obtain ⟨k, hk, rfl, hne, hOr, hOc, hBr⟩ := hrel
    have hrl : (S.take k).length ≤ 601 := by rw [List.length_take]; have := HSL.out; omega
    by_cases hlt : k < T + 1
    · obtain ⟨g', cp', he, _, hgl, hcell⟩ := hOc.at (by have := HCL.out; omega)
      simp only [Value.slice.injEq, Option.some.injEq, Addr.mk.injEq, and_true, true_and] at he
      obtain ⟨rfl, heq, rfl⟩ := he
      clear heq
      have HTK : Hid (S.take (k + 1) = S.take k ++ [S[k]?.getD 0]) := take_snoc S k (by have := HSL.out; omega)
      by_cases hpar : (T + k) % 2 = 0
      · have hx := (hcell ((T + k) / 2) (by have := HCL.out; omega)).1
        have HY := Lib.hid (HE.out k hlt hpar)
        generalize cs[(T + k) / 2]?.getD 0 = x at hx HY
        clear hcell
        go_wp2_with (at_builtin; refine append1At wr rfl _ _ rfl w.heap.size u4 (S.take k) x rfl rfl hOr ?_ hBr.size ?_; (omega); intro v' w' hO' hG' hat)
        go_roundw
        case rel => exact ⟨k + 1, by omega, by go_num, by rcases hat with h | h <;> rw [h]; exact hne; simp; omega, by rw [HTK.out, HY.out]; exact hO', hOc.kept hG' (.inr (by simpa [Value.ownBlock] using fun h => hne h.symm)), hBr.grown hG' hBr.size (fun j hj => (hOr.lt j hj).1)⟩
        case measure => simp [intOf]; omega
      · have HY := Lib.hid (HD.out k hlt hpar)
        clear hcell
        go_wp2_with (at_builtin; refine append1At wr rfl _ _ rfl w.heap.size u4 (S.take k) 0 rfl rfl hOr ?_ hBr.size ?_; (omega); intro v' w' hO' hG' hat)
        go_roundw
        case rel => exact ⟨k + 1, by omega, by go_num, by rcases hat with h | h <;> rw [h]; exact hne; simp; omega, by rw [HTK.out, HY.out]; exact hO', hOc.kept hG' (.inr (by simpa [Value.ownBlock] using fun h => hne h.symm)), hBr.grown hG' hBr.size (fun j hj => (hOr.lt j hj).1)⟩
        case measure => simp [intOf]; omega
    · obtain rfl : k = T + 1 := by omega
      have hS : S.take (T + 1) = S := List.take_of_length_le (by have := HSL.out; omega)
      rw [hS] at hOr
      clear hS
      go_wp2
      go_ret2
      exact ⟨_, rfl, hOr, hBr⟩
end Go.Proofs.Ytbpkffpejmlonaa
