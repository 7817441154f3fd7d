/- Texts of numbers, in plain words: digits, numbers with a blank between. Conditions: stated in each. -/
import Derived.Lib.ItoaNum
import Derived.Lib.IndexMore
import Derived.Test.YtdpapalfafjncaaGreatDoorM1
namespace Go.Proofs.YtdpapalfafjncaaGreatDoor

/-- the digits of a number -/
def dgs (n : Nat) : List UInt8 :=
  if h : n < 10 then [UInt8.ofNat (48 + n)] else dgs (n / 10) ++ [UInt8.ofNat (48 + n % 10)]
termination_by n
decreasing_by omega
theorem dgs_lt {n : Nat} (h : n < 10) : dgs n = [UInt8.ofNat (48 + n)] := by rw [dgs, dif_pos h]
theorem dgs_ge {n : Nat} (h : ¬ n < 10) : dgs n = dgs (n / 10) ++ [UInt8.ofNat (48 + n % 10)] := by rw [dgs, dif_neg h]
/-- numbers with a blank between -/
def spT : List Int → List UInt8
  | [] => []
  | [x] => dgs x.toNat
  | x :: y :: r => dgs x.toNat ++ 32 :: spT (y :: r)
theorem spT_cons {x : Int} {r : List Int} (h : r ≠ []) : spT (x :: r) = dgs x.toNat ++ 32 :: spT r := by
  cases r with
  | nil => exact absurd rfl h
  | cons y r => rfl
theorem spT_snoc : ∀ (zs : List Int) (x : Int), spT (zs ++ [x]) = spT zs ++ (if zs = [] then [] else [32]) ++ dgs x.toNat
  | [], x => by simp [spT]
  | [y], x => by simp [spT]
  | y :: z :: r, x => by
    have h := spT_snoc (z :: r) x
    rw [List.cons_append, spT_cons (by simp), h]
    simp [spT]
/-- a digit is no blank and no newline -/
theorem dgs_mem : ∀ (n : Nat), ∀ b ∈ dgs n, 48 ≤ b.toNat ∧ b.toNat ≤ 57 := fun n => by
  induction n using Nat.strongRecOn with
  | ind n ih =>
    intro b hb
    by_cases h : n < 10
    · rw [dgs_lt h, List.mem_singleton] at hb
      subst hb
      simp only [UInt8.toNat_ofNat']
      omega
    · rw [dgs_ge h, List.mem_append, List.mem_singleton] at hb
      rcases hb with hb | rfl
      · exact ih (n / 10) (by omega) b hb
      · simp only [UInt8.toNat_ofNat']
        omega
theorem dgs_len {n : Nat} (h : n < 1000) : 1 ≤ (dgs n).length ∧ (dgs n).length ≤ 3 := by
  by_cases h1 : n < 10
  · rw [dgs_lt h1]; simp
  · rw [dgs_ge h1]
    by_cases h2 : n / 10 < 10
    · rw [dgs_lt h2]; simp
    · rw [dgs_ge h2, dgs_lt (by omega)]; simp
/-- what the digits tell -/
def undg : List UInt8 → Nat → Nat
  | [], v => v
  | b :: l, v => undg l (10 * v + (b.toNat - 48))
theorem undg_app : ∀ (l : List UInt8) (b : UInt8) (v : Nat), undg (l ++ [b]) v = 10 * undg l v + (b.toNat - 48)
  | [], b, v => rfl
  | c :: l, b, v => by rw [List.cons_append, undg, undg, undg_app l b]
theorem undg_dgs (n : Nat) : undg (dgs n) 0 = n := by
  induction n using Nat.strongRecOn with
  | ind n ih =>
    by_cases h : n < 10
    · rw [dgs_lt h]
      simp only [undg, UInt8.toNat_ofNat']
      omega
    · rw [dgs_ge h, undg_app, ih (n / 10) (by omega)]
      simp only [UInt8.toNat_ofNat']
      omega
end Go.Proofs.YtdpapalfafjncaaGreatDoor
