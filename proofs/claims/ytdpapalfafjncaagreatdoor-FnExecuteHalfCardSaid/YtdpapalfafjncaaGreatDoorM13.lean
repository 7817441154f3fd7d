/- The laws of the counts of sums, in plain words. Conditions: the list is as told. -/
import Derived.Test.YtdpapalfafjncaaGreatDoorM12
import Derived.Test.YtdpapalfafjncaaGreatDoorW11
namespace Go.Proofs.YtdpapalfafjncaaGreatDoor
theorem cntN_head (p : Nat → Bool) (m : Nat) : cntN p (m + 1) = (if p 0 then 1 else 0) + cntN (fun c => p (c + 1)) m := by
  induction m with
  | zero => simp [cntN]
  | succ m ih => rw [cntN, ih, cntN]; omega
theorem cntN_rev (p : Nat → Bool) (m : Nat) : cntN p m = cntN (fun c => p (m - 1 - c)) m := by
  induction m with
  | zero => rfl
  | succ m ih =>
    rw [cntN_head (fun c => p (m + 1 - 1 - c)) m, cntN, ih]
    have e : cntN (fun c => p (m + 1 - 1 - (c + 1))) m = cntN (fun c => p (m - 1 - c)) m := cntN_congr (fun c _ => by rw [show m + 1 - 1 - (c + 1) = m - 1 - c by omega])
    rw [e, show m + 1 - 1 - 0 = m by omega]
    omega
theorem cntN_one {p : Nat → Bool} {m : Nat} (hm : 1 ≤ m) (h0 : p 0 = true) (h : ∀ c, 1 ≤ c → c < m → p c = false) : cntN p m = 1 := by
  obtain ⟨k, rfl⟩ : ∃ k, m = k + 1 := ⟨m - 1, by omega⟩
  rw [cntN_head, h0]
  have : cntN (fun c => p (c + 1)) k = 0 := by
    rw [cntN_congr (q := fun _ => false) (fun c hc => h (c + 1) (by omega) (by omega))]
    clear h h0 hm
    induction k with
    | zero => rfl
    | succ k ih => rw [cntN, ih]; rfl
  rw [this]; rfl
theorem csum_pos {zs : List Int} (hg : good zs) : ∀ c, 1 ≤ c → c < 2 ^ zs.length → 1 ≤ csum zs c := by
  induction zs with
  | nil => intro c h1 h2; simp at h2; omega
  | cons x xs ih =>
    intro c h1 h2
    have hx := hg x (List.mem_cons_self ..)
    have hgx : good xs := fun y hy => hg y (List.mem_cons_of_mem _ hy)
    rw [List.length_cons, Nat.pow_succ] at h2
    rw [csum_cons]
    have hb := csum_bd hgx (c / 2)
    by_cases e : c % 2 = 1
    · rw [if_pos e]; omega
    · rw [if_neg e]
      have := ih hgx (c / 2) (by omega) (by omega)
      omega
theorem sumC_get {zs : List Int} (v : Nat) (hv : v < (tot zs).toNat + 1) : (sumC zs)[v]?.getD 0 = ((cntN (fun c => sumKey zs c == some v) (2 ^ zs.length) : Nat) : Int) := tally_get _ _ _ _ hv
theorem sumC_rev {zs : List Int} (hg : good zs) (v : Nat) (hv : v < (sumC zs).length) : (sumC zs)[(sumC zs).length - 1 - v]?.getD 0 = (sumC zs)[v]?.getD 0 := by
  rw [sumC_length] at hv ⊢
  have ht := tot_bd hg
  rw [sumC_get _ (by omega), sumC_get _ hv, cntN_rev]
  congr 1
  apply cntN_congr
  intro c hc
  have h1 := csum_compl zs c hc
  have h2 := csum_bd hg c
  have h3 := csum_bd hg (2 ^ zs.length - 1 - c)
  rw [Bool.eq_iff_iff]
  simp only [sumKey, beq_iff_eq, Option.some.injEq]
  omega
theorem sumC_first {zs : List Int} (hg : good zs) : (sumC zs)[0]?.getD 0 = 1 := by
  rw [sumC_get _ (by omega), cntN_one (Nat.two_pow_pos _)]
  · rfl
  · simp [sumKey, csum_zero]
  · intro c h1 h2
    have := csum_pos hg c h1 h2
    simp only [sumKey, beq_eq_false_iff_ne, ne_eq, Option.some.injEq]
    omega
theorem sumC_tot {zs : List Int} (hg : good zs) : tot (sumC zs) = ((2 ^ zs.length : Nat) : Int) := tot_tally _ _ _ (fun c _ => ⟨_, rfl, by have := csum_bd hg c; have := tot_bd hg; omega⟩)
end Go.Proofs.YtdpapalfafjncaaGreatDoor
