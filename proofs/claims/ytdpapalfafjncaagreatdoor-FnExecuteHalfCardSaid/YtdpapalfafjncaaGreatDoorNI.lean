/- The texts that the law makes itself: digits, spaced. Conditions: stated in each. -/
import Derived.Deep.RegionWith
import Derived.Laws.IdiomStrings
import Derived.Laws.IdiomCopy
import Derived.Test.YtdpapalfafjncaaGreatDoorNF
namespace Go.Proofs.YtdpapalfafjncaaGreatDoor
open Go.RowKit

/-- a text of one digit, made of the byte that lies in a block -/
theorem one_digit (W : World) (B d : Nat) (b : UInt8) (hb : UInt8.ofNat (48 + d) = b) (h : d < 10) (hc : W.cell? ⟨B, 0, none⟩ = some (.int .u8 (48 + (d : Int)))) :
    (convert 22 9 (.slice (some ⟨B, 0, none⟩) 1 1)).run Tryz.prog W = .ok (.string ⟨#[b]⟩) W := by
  subst hb
  have e : ((UInt8.ofNat (48 + d)).toNat : Int) = 48 + (d : Int) := by simp only [UInt8.toNat_ofNat']; omega
  refine run_convert_bytes_back W 22 9 5 ⟨B, 0, none⟩ 1 [UInt8.ofNat (48 + d)] Tryz.underlying22 Tryz.underlying5 Tryz.underlying9 fun j hj => ?_
  obtain rfl : j = 0 := by simp at hj; omega
  show W.cell? (Addr.add ⟨B, 0, none⟩ 0) = some (.int .u8 ((UInt8.ofNat (48 + d)).toNat : Int))
  rw [e]
  simpa [Addr.add] using hc

theorem bytes_snoc (l : List UInt8) (b : UInt8) : (⟨l.toArray⟩ : ByteArray) ++ ⟨#[b]⟩ = ⟨(l ++ [b]).toArray⟩ := by
  apply ByteArray.ext
  simp

theorem dgs_le : ∀ (k n : Nat), n < 10 ^ (k + 1) → (dgs n).length ≤ k + 1 := by
  intro k
  induction k with
  | zero => intro n h; rw [dgs_lt (by simpa using h)]; simp
  | succ k ih =>
    intro n h
    by_cases h1 : n < 10
    · rw [dgs_lt h1]; simp
    · have := ih (n / 10) (by rw [Nat.pow_succ] at h; omega)
      rw [dgs_ge h1]
      simp only [List.length_append, List.length_singleton]
      omega

theorem cell_new (w : World) (v : Value) (t : Nat) : (w.alloc (.cells #[v] t)).cell? ⟨w.heap.size, 0, none⟩ = some v := by
  unfold World.cell?
  simp only []
  rw [heap_alloc_new]
  rfl

set_option maxRecDepth 100000 in
set_option maxHeartbeats 3200000 in
theorem digits_any : ∀ (k n : Nat) (w : World), n < 10 ^ (k + 1) → n < 1000000 →
    Calls Tryz.prog 10 #[.int .i64 n] w fun e w' => e = .returned (.string ⟨(dgs n).toArray⟩) ∧ Below w.heap.size w w' := by
  intro k
  induction k with
  | zero =>
    intro n w hn _
    have hn10 : n < 10 := by simpa using hn
    have HD := Lib.hid (dgs_lt hn10)
    obtain ⟨b, hb⟩ : ∃ b, UInt8.ofNat (48 + n) = b := ⟨_, rfl⟩
    rw [hb] at HD
    have hcv := one_digit (w.alloc (.cells #[.int .u8 (48 + (n : Int))] 5)) w.heap.size n b hb hn10 (cell_new w _ _)
    clear hb
    clear hn
    go_enter Tryz.func10, Tryz.ntmps10
    go_wp2
    go_ret
    exact ⟨by rw [HD.out]; rfl, (Below.refl _ _).alloc (Nat.le_refl _) _⟩
  | succ k ih =>
    intro n w hn hm
    by_cases hn10 : n < 10
    · have HD := Lib.hid (dgs_lt hn10)
      obtain ⟨b, hb⟩ : ∃ b, UInt8.ofNat (48 + n) = b := ⟨_, rfl⟩
      rw [hb] at HD
      have hcv := one_digit (w.alloc (.cells #[.int .u8 (48 + (n : Int))] 5)) w.heap.size n b hb hn10 (cell_new w _ _)
      clear hb
      clear hn ih
      go_enter Tryz.func10, Tryz.ntmps10
      go_wp2
      go_ret
      exact ⟨by rw [HD.out]; rfl, (Below.refl _ _).alloc (Nat.le_refl _) _⟩
    · have HD := Lib.hid (dgs_ge hn10)
      have hdiv : n / 10 < 10 ^ (k + 1) := by rw [Nat.pow_succ] at hn; omega
      have HIH : Hid (∀ W, Calls Tryz.prog 10 #[.int .i64 ((n : Int) / 10)] W fun e w' => e = .returned (.string ⟨(dgs (n / 10)).toArray⟩) ∧ Below W.heap.size W w') := fun W => by
        have := ih (n / 10) W hdiv (by omega)
        rwa [show (((n / 10 : Nat)) : Int) = (n : Int) / 10 by omega] at this
      have e1 : (n : Int).tmod 10 = ((n % 10 : Nat) : Int) := by rw [Int.tmod_eq_emod_of_nonneg (by omega)]; omega
      have hr : n % 10 < 10 := Nat.mod_lt _ (by omega)
      revert e1 hr HD
      generalize n % 10 = r
      intro HD e1 hr
      obtain ⟨b, hb⟩ : ∃ b, UInt8.ofNat (48 + r) = b := ⟨_, rfl⟩
      rw [hb] at HD
      have HCV : Hid (∀ W B, W.cell? ⟨B, 0, none⟩ = some (.int .u8 (48 + (r : Int))) → (convert 22 9 (.slice (some ⟨B, 0, none⟩) 1 1)).run Tryz.prog W = .ok (.string ⟨#[b]⟩) W) := fun W B h => one_digit W B r b hb hr h
      clear hb hn ih hdiv
      go_enter Tryz.func10, Tryz.ntmps10
      go_wp2_with fail
      have e2 : (n : Int).tdiv 10 = (n : Int) / 10 := Int.tdiv_eq_ediv_of_nonneg (by omega)
      have e3 : IntKind.i64.wrap ((n : Int) / 10) = (n : Int) / 10 := IntWalk.i64_in _ (by omega)
      have e4 : IntKind.i64.wrap ((r : Int)) = (r : Int) := IntWalk.i64_in _ (by omega)
      have e5 : IntKind.i64.wrap (48 + (r : Int)) = 48 + (r : Int) := IntWalk.i64_in _ (by omega)
      have e6 : IntKind.u8.wrap (48 + (r : Int)) = 48 + (r : Int) := by unfold IntKind.wrap; simp [IntKind.bits, IntKind.signed]; omega
      have hcvA : ∀ (W : World) (B : Nat), W.heap.size = B → (convert 22 9 (.slice (some ⟨B, 0, none⟩) 1 1)).run Tryz.prog (W.alloc (.cells #[.int .u8 (48 + (r : Int))] 5)) = .ok (.string ⟨#[b]⟩) (W.alloc (.cells #[.int .u8 (48 + (r : Int))] 5)) := fun W B h => by subst h; exact HCV.out _ _ (cell_new W _ _)
      have hcvB : ∀ (W : World) (B : Nat), W.heap.size = B → (convert 22 9 (.slice (some ⟨B, 0, none⟩) 1 1)).run Tryz.prog (W.alloc (.cells #[.int .u8 (48 + (r : Int))] 5)).drew = .ok (.string ⟨#[b]⟩) (W.alloc (.cells #[.int .u8 (48 + (r : Int))] 5)).drew := fun W B h => by subst h; exact HCV.out _ _ (cell_new W _ _)
      have hle : ¬ 9223372036854775807 < (dgs (n / 10)).length + 1 := by have := dgs_le 5 (n / 10) (by simp only [Nat.reduceAdd, Nat.reducePow]; omega); omega
      go_region_law (first
        | (go_simp; go_at_call 10; refine (HIH.out _).mono ?_; rintro e w1 ⟨rfl, hB1⟩; have hc0 := hB1.cell (p := ⟨w.heap.size, 0, none⟩) (by simp); have hc := HCV.out w1 w.heap.size (hc0.trans (cell_new w _ _)); simp only [])
        | (go_simp; go_at_call 10; refine (HIH.out _).mono ?_; rintro e w1 ⟨rfl, hB1⟩; simp only []))
      all_goals
        go_wp2
        go_ret
        refine ⟨?_, ?_⟩
        · rw [HD.out]
          exact congrArg (fun s => Ending.returned (Value.string s)) (bytes_snoc _ _)
        · first
          | exact (((Below.refl w.heap.size w).drew).trans hB1).alloc (((Below.refl w.heap.size w).drew).trans hB1).size _
          | (have hB0 : Below w.heap.size w (w.alloc (.cells #[.int .u8 (48 + (r : Int))] 5)).drew := ((Below.refl w.heap.size w).alloc (Nat.le_refl _) _).drew
             exact hB0.trans (hB1.mono (by simp)))
end Go.Proofs.YtdpapalfafjncaaGreatDoor
