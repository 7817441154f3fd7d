/- Sums that are multiples: choices by their rests; the small cases of the laws of chapter 8 by the kernel. Conditions: the number by which rests are asked for is from 1 to 6. -/
import Derived.Test.YtdpapalfafjncaaGreatDoorM9
namespace Go.Proofs.YtdpapalfafjncaaGreatDoor
/-- f 0 + .. + f (n - 1) -/
def sumF : Nat → (Nat → Nat) → Nat
  | 0, _ => 0
  | n + 1, f => sumF n f + f n
theorem sumF_congr {n : Nat} {f g : Nat → Nat} (h : ∀ r, r < n → f r = g r) : sumF n f = sumF n g := by
  induction n with
  | zero => rfl
  | succ n ih => rw [sumF, sumF, ih (fun r hr => h r (by omega)), h n (by omega)]
theorem sumF_zero {n : Nat} {f : Nat → Nat} (h : ∀ r, r < n → f r = 0) : sumF n f = 0 := by
  induction n with
  | zero => rfl
  | succ n ih => rw [sumF, ih (fun r hr => h r (by omega)), h n (by omega)]
/-- f with one less at r0 -/
def less (f : Nat → Nat) (r0 : Nat) : Nat → Nat := fun r => if r = r0 then f r - 1 else f r
theorem sumF_less {n r0 : Nat} {f : Nat → Nat} (g : Nat → Nat) (hr : r0 < n) (h : 1 ≤ f r0) : sumF n (fun r => g r * f r) = sumF n (fun r => g r * less f r0 r) + g r0 := by
  induction n with
  | zero => omega
  | succ n ih =>
    rw [sumF, sumF]
    by_cases e : r0 = n
    · subst e
      have e1 : sumF r0 (fun r => g r * f r) = sumF r0 (fun r => g r * less f r0 r) := sumF_congr (fun r hr => by rw [less, if_neg (by omega)])
      have e2 : g r0 * f r0 = g r0 * less f r0 r0 + g r0 := by
        rw [less, if_pos rfl]
        obtain ⟨q, hq⟩ : ∃ q, f r0 = q + 1 := ⟨f r0 - 1, by omega⟩
        rw [hq, Nat.add_sub_cancel, Nat.mul_add, Nat.mul_one]
      rw [e1, e2]; omega
    · have e2 : g n * f n = g n * less f r0 n := by rw [less, if_neg (by omega)]
      rw [ih (by omega), e2]; omega
/-- how many numbers have the rest r -/
def cntR (n : Int) : List Int → Nat → Nat
  | [], _ => 0
  | z :: zs, r => cntR n zs r + if (z % n).toNat = r then 1 else 0
theorem cntR_sum {n : Nat} (hn : 1 ≤ n) (zs : List Int) : sumF n (cntR n zs) = zs.length := by
  induction zs with
  | nil => exact sumF_zero (fun _ _ => rfl)
  | cons z zs ih =>
    have h1 := Int.emod_nonneg z (show (n : Int) ≠ 0 by omega)
    have h2 := Int.emod_lt_of_pos z (show 0 < (n : Int) by omega)
    have h3 := sumF_less (n := n) (r0 := (z % n).toNat) (f := cntR n (z :: zs)) (fun _ => 1) (by omega) (by simp [cntR])
    simp only [Nat.one_mul] at h3
    rw [h3, sumF_congr (g := cntR n zs), ih, List.length_cons]
    intro r _
    rw [less, cntR]
    by_cases e : r = (z % n).toNat
    · rw [if_pos e, if_pos e.symm]; omega
    · rw [if_neg e, if_neg (fun h => e h.symm)]; rfl
theorem popc_double (c b : Nat) (hb : b < 2) (hc : c < 2 ^ 19) : popc (b + 2 * c) = b + popc c := by
  have h : popc (b + 2 * c) = (b + 2 * c) % 2 + popN 19 ((b + 2 * c) / 2) := rfl
  rw [h, show (b + 2 * c) % 2 = b by omega, show (b + 2 * c) / 2 = c by omega]
  unfold popc
  rw [popN_more 19 c hc]
theorem emod_mix (a b n : Int) : (a + b % n) % n = (a % n + b % n) % n := by rw [Int.add_emod, Int.emod_emod]
/-- a choice with given numbers of each rest -/
theorem pick_rests {n : Nat} (hn : 1 ≤ n) (zs : List Int) : ∀ j : Nat → Nat, zs.length ≤ 18 → (∀ r, r < n → j r ≤ cntR n zs r) →
    ∃ c, c < 2 ^ zs.length ∧ popc c = sumF n j ∧ csum zs c % (n : Int) = ((sumF n (fun r => r * j r) : Nat) : Int) % n := by
  induction zs with
  | nil =>
    intro j _ h
    have h0 : ∀ r, r < n → j r = 0 := fun r hr => by have := h r hr; simp [cntR] at this; exact this
    exact ⟨0, by simp, by rw [sumF_zero h0]; decide, by rw [sumF_zero (fun r hr => by rw [h0 r hr, Nat.mul_zero])]; rfl⟩
  | cons z zs ih =>
    intro j hl h
    rw [List.length_cons] at hl
    have h1 := Int.emod_nonneg z (show (n : Int) ≠ 0 by omega)
    have h2 := Int.emod_lt_of_pos z (show 0 < (n : Int) by omega)
    have hp : 2 ^ zs.length < 2 ^ 19 := Nat.pow_lt_pow_right (by omega) (by omega)
    by_cases hj : j (z % n).toNat ≤ cntR n zs (z % n).toNat
    · obtain ⟨c, c1, c2, c3⟩ := ih j (by omega) (fun r hr => by
        have := h r hr
        rw [cntR] at this
        by_cases e : (z % n).toNat = r
        · rw [← e]; exact hj
        · rw [if_neg e] at this; exact this)
      refine ⟨0 + 2 * c, by rw [List.length_cons, Nat.pow_succ]; omega, by rw [popc_double c 0 (by omega) (by omega), c2]; omega, ?_⟩
      rw [csum_cons, if_neg (by omega), show (0 + 2 * c) / 2 = c by omega, Int.zero_add, c3]
    · have hb := h (z % n).toNat (by omega)
      rw [cntR, if_pos rfl] at hb
      obtain ⟨c, c1, c2, c3⟩ := ih (less j (z % n).toNat) (by omega) (fun r hr => by
        rw [less]
        have := h r hr
        rw [cntR] at this
        by_cases e : r = (z % n).toNat
        · subst e; rw [if_pos rfl]; omega
        · rw [if_neg e]; rw [if_neg (fun h => e h.symm)] at this; exact this)
      have s1 := sumF_less (n := n) (r0 := (z % n).toNat) (f := j) (fun _ => 1) (by omega) (by omega)
      have s2 := sumF_less (n := n) (r0 := (z % n).toNat) (f := j) (fun r => r) (by omega) (by omega)
      simp only [Nat.one_mul] at s1
      have s1' : sumF n j = sumF n (less j (z % n).toNat) + 1 := s1
      have e : (((z % n).toNat : Nat) : Int) = z % n := Int.toNat_of_nonneg h1
      refine ⟨1 + 2 * c, by rw [List.length_cons, Nat.pow_succ]; omega, by rw [popc_double c 1 (by omega) (by omega), c2, s1']; omega, ?_⟩
      rw [csum_cons, if_pos (by omega), show (1 + 2 * c) / 2 = c by omega, s2, Int.natCast_add, e, Int.add_comm z, Int.add_emod (csum zs c) z, c3]
      exact (emod_mix _ _ _).symm
/-- all lists of n numbers with the sum m -/
def vecs : Nat → Nat → List (List Nat)
  | 0, 0 => [[]]
  | 0, _ + 1 => []
  | n + 1, m => (List.range (m + 1)).flatMap fun x => (vecs n (m - x)).map fun v => x :: v
theorem vecs_all : ∀ (n m : Nat) (v : List Nat), v.length = n → v.sum = m → v ∈ vecs n m := by
  intro n
  induction n with
  | zero =>
    intro m v hl hs
    obtain rfl := List.eq_nil_of_length_eq_zero hl
    simp at hs; subst hs; simp [vecs]
  | succ n ih =>
    intro m v hl hs
    cases v with
    | nil => simp at hl
    | cons x v =>
      simp only [List.sum_cons] at hs
      simp only [vecs, List.mem_flatMap, List.mem_range, List.mem_map]
      exact ⟨x, by omega, v, ih (m - x) v (by simpa using hl) (by omega), rfl⟩
/-- u is at most v, place by place -/
def leqV : List Nat → List Nat → Bool
  | [], _ => true
  | _ :: _, [] => false
  | x :: u, y :: v => decide (x ≤ y) && leqV u v
/-- the sum of r times the number at place r, from place i on -/
def wsum : Nat → List Nat → Nat
  | _, [] => 0
  | i, x :: v => i * x + wsum (i + 1) v
/-- all lists of n numbers with a sum from 1 to m, whose weighted sum has the rest 0 -/
def zeros (n m : Nat) : List (List Nat) := ((List.range m).flatMap fun k => vecs n (k + 1)).filter fun v => wsum 0 v % n == 0
def zerosAt (n m : Nat) : List (List Nat) := (vecs n m).filter fun v => wsum 0 v % n == 0
theorem dav_all : ((List.range 6).all fun i => (vecs (i + 1) (i + 1)).all fun v => (zeros (i + 1) (i + 1)).any fun u => leqV u v) = true := by decide +kernel
theorem egz_all : ((List.range 6).all fun i => (vecs (i + 1) (2 * i + 1)).all fun v => (zerosAt (i + 1) (i + 1)).any fun u => leqV u v) = true := by decide +kernel
end Go.Proofs.YtdpapalfafjncaaGreatDoor
