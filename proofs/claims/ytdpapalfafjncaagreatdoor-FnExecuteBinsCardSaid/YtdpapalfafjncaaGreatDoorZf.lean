/- Sums that are multiples: choices by their rests; the small cases of the laws of chapter 8 by the kernel. Conditions: the number by which rests are asked for is from 1 to 6. The laws of chapter 8, in plain words: totals of tallies, zero sums among n and 2n-1 numbers, all rests by n-1 numbers. Conditions: n from 1 to 6. SumOf of the reference; the choice of all others; the draw of a list and a choice. Conditions: stated in each. The counts of all sums, by the reference. Conditions: the list is as told. SumCounts of the reference. Conditions: the list is short enough to be counted. RestReach of both. Conditions: the list is short enough to be counted. The laws of the counts of sums, in plain words. Conditions: the list is as told. SumReach of both. Conditions: the list is short enough to be counted. -/
import Derived.Test.YtdpapalfafjncaaGreatDoorZd
import Derived.Test.YtdpapalfafjncaaGreatDoorZe
import Derived.Deep.RegionWith
import Derived.BigRegion
set_option linter.unusedVariables false
set_option linter.unusedSimpArgs false
set_option linter.unusedSectionVars false
namespace Go.Proofs.YtdpapalfafjncaaGreatDoor
/-- f 0 + .. + f (n - 1) -/
def sumF : Nat → (Nat → Nat) → Nat
  | 0, _ => 0
  | n + 1, f => sumF n f + f n
theorem sumF_congr {n : Nat} {f g : Nat → Nat} (h : ∀ r, r < n → f r = g r) : sumF n f = sumF n g := by
  induction n with
  | zero => rfl
  | succ n ih => rw [sumF, sumF, ih (fun r hr => h r (by omega)), h n (by omega)]
theorem sumF_zero {n : Nat} {f : Nat → Nat} (h : ∀ r, r < n → f r = 0) : sumF n f = 0 := by
  induction n with
  | zero => rfl
  | succ n ih => rw [sumF, ih (fun r hr => h r (by omega)), h n (by omega)]
/-- f with one less at r0 -/
def less (f : Nat → Nat) (r0 : Nat) : Nat → Nat := fun r => if r = r0 then f r - 1 else f r
theorem sumF_less {n r0 : Nat} {f : Nat → Nat} (g : Nat → Nat) (hr : r0 < n) (h : 1 ≤ f r0) : sumF n (fun r => g r * f r) = sumF n (fun r => g r * less f r0 r) + g r0 := by
  induction n with
  | zero => omega
  | succ n ih =>
    rw [sumF, sumF]
    by_cases e : r0 = n
    · subst e
      have e1 : sumF r0 (fun r => g r * f r) = sumF r0 (fun r => g r * less f r0 r) := sumF_congr (fun r hr => by rw [less, if_neg (by omega)])
      have e2 : g r0 * f r0 = g r0 * less f r0 r0 + g r0 := by
        rw [less, if_pos rfl]
        obtain ⟨q, hq⟩ : ∃ q, f r0 = q + 1 := ⟨f r0 - 1, by omega⟩
        rw [hq, Nat.add_sub_cancel, Nat.mul_add, Nat.mul_one]
      rw [e1, e2]; omega
    · have e2 : g n * f n = g n * less f r0 n := by rw [less, if_neg (by omega)]
      rw [ih (by omega), e2]; omega
/-- how many numbers have the rest r -/
def cntR (n : Int) : List Int → Nat → Nat
  | [], _ => 0
  | z :: zs, r => cntR n zs r + if (z % n).toNat = r then 1 else 0
theorem cntR_sum {n : Nat} (hn : 1 ≤ n) (zs : List Int) : sumF n (cntR n zs) = zs.length := by
  induction zs with
  | nil => exact sumF_zero (fun _ _ => rfl)
  | cons z zs ih =>
    have h1 := Int.emod_nonneg z (show (n : Int) ≠ 0 by omega)
    have h2 := Int.emod_lt_of_pos z (show 0 < (n : Int) by omega)
    have h3 := sumF_less (n := n) (r0 := (z % n).toNat) (f := cntR n (z :: zs)) (fun _ => 1) (by omega) (by simp [cntR])
    simp only [Nat.one_mul] at h3
    rw [h3, sumF_congr (g := cntR n zs), ih, List.length_cons]
    intro r _
    rw [less, cntR]
    by_cases e : r = (z % n).toNat
    · rw [if_pos e, if_pos e.symm]; omega
    · rw [if_neg e, if_neg (fun h => e h.symm)]; rfl
theorem popc_double (c b : Nat) (hb : b < 2) (hc : c < 2 ^ 19) : popc (b + 2 * c) = b + popc c := by
  have h : popc (b + 2 * c) = (b + 2 * c) % 2 + popN 19 ((b + 2 * c) / 2) := rfl
  rw [h, show (b + 2 * c) % 2 = b by omega, show (b + 2 * c) / 2 = c by omega]
  unfold popc
  rw [popN_more 19 c hc]
theorem emod_mix (a b n : Int) : (a + b % n) % n = (a % n + b % n) % n := by rw [Int.add_emod, Int.emod_emod]
/-- a choice with given numbers of each rest -/
theorem pick_rests {n : Nat} (hn : 1 ≤ n) (zs : List Int) : ∀ j : Nat → Nat, zs.length ≤ 18 → (∀ r, r < n → j r ≤ cntR n zs r) →
    ∃ c, c < 2 ^ zs.length ∧ popc c = sumF n j ∧ csum zs c % (n : Int) = ((sumF n (fun r => r * j r) : Nat) : Int) % n := by
  induction zs with
  | nil =>
    intro j _ h
    have h0 : ∀ r, r < n → j r = 0 := fun r hr => by have := h r hr; simp [cntR] at this; exact this
    exact ⟨0, by simp, by rw [sumF_zero h0]; decide, by rw [sumF_zero (fun r hr => by rw [h0 r hr, Nat.mul_zero])]; rfl⟩
  | cons z zs ih =>
    intro j hl h
    rw [List.length_cons] at hl
    have h1 := Int.emod_nonneg z (show (n : Int) ≠ 0 by omega)
    have h2 := Int.emod_lt_of_pos z (show 0 < (n : Int) by omega)
    have hp : 2 ^ zs.length < 2 ^ 19 := Nat.pow_lt_pow_right (by omega) (by omega)
    by_cases hj : j (z % n).toNat ≤ cntR n zs (z % n).toNat
    · obtain ⟨c, c1, c2, c3⟩ := ih j (by omega) (fun r hr => by
        have := h r hr
        rw [cntR] at this
        by_cases e : (z % n).toNat = r
        · rw [← e]; exact hj
        · rw [if_neg e] at this; exact this)
      refine ⟨0 + 2 * c, by rw [List.length_cons, Nat.pow_succ]; omega, by rw [popc_double c 0 (by omega) (by omega), c2]; omega, ?_⟩
      rw [csum_cons, if_neg (by omega), show (0 + 2 * c) / 2 = c by omega, Int.zero_add, c3]
    · have hb := h (z % n).toNat (by omega)
      rw [cntR, if_pos rfl] at hb
      obtain ⟨c, c1, c2, c3⟩ := ih (less j (z % n).toNat) (by omega) (fun r hr => by
        rw [less]
        have := h r hr
        rw [cntR] at this
        by_cases e : r = (z % n).toNat
        · subst e; rw [if_pos rfl]; omega
        · rw [if_neg e]; rw [if_neg (fun h => e h.symm)] at this; exact this)
      have s1 := sumF_less (n := n) (r0 := (z % n).toNat) (f := j) (fun _ => 1) (by omega) (by omega)
      have s2 := sumF_less (n := n) (r0 := (z % n).toNat) (f := j) (fun r => r) (by omega) (by omega)
      simp only [Nat.one_mul] at s1
      have s1' : sumF n j = sumF n (less j (z % n).toNat) + 1 := s1
      have e : (((z % n).toNat : Nat) : Int) = z % n := Int.toNat_of_nonneg h1
      refine ⟨1 + 2 * c, by rw [List.length_cons, Nat.pow_succ]; omega, by rw [popc_double c 1 (by omega) (by omega), c2, s1']; omega, ?_⟩
      rw [csum_cons, if_pos (by omega), show (1 + 2 * c) / 2 = c by omega, s2, Int.natCast_add, e, Int.add_comm z, Int.add_emod (csum zs c) z, c3]
      exact (emod_mix _ _ _).symm
/-- all lists of n numbers with the sum m -/
def vecs : Nat → Nat → List (List Nat)
  | 0, 0 => [[]]
  | 0, _ + 1 => []
  | n + 1, m => (List.range (m + 1)).flatMap fun x => (vecs n (m - x)).map fun v => x :: v
theorem vecs_all : ∀ (n m : Nat) (v : List Nat), v.length = n → v.sum = m → v ∈ vecs n m := by
  intro n
  induction n with
  | zero =>
    intro m v hl hs
    obtain rfl := List.eq_nil_of_length_eq_zero hl
    simp at hs; subst hs; simp [vecs]
  | succ n ih =>
    intro m v hl hs
    cases v with
    | nil => simp at hl
    | cons x v =>
      simp only [List.sum_cons] at hs
      simp only [vecs, List.mem_flatMap, List.mem_range, List.mem_map]
      exact ⟨x, by omega, v, ih (m - x) v (by simpa using hl) (by omega), rfl⟩
/-- u is at most v, place by place -/
def leqV : List Nat → List Nat → Bool
  | [], _ => true
  | _ :: _, [] => false
  | x :: u, y :: v => decide (x ≤ y) && leqV u v
/-- the sum of r times the number at place r, from place i on -/
def wsum : Nat → List Nat → Nat
  | _, [] => 0
  | i, x :: v => i * x + wsum (i + 1) v
/-- all lists of n numbers with a sum from 1 to m, whose weighted sum has the rest 0 -/
def zeros (n m : Nat) : List (List Nat) := ((List.range m).flatMap fun k => vecs n (k + 1)).filter fun v => wsum 0 v % n == 0
def zerosAt (n m : Nat) : List (List Nat) := (vecs n m).filter fun v => wsum 0 v % n == 0
theorem dav_all : ((List.range 6).all fun i => (vecs (i + 1) (i + 1)).all fun v => (zeros (i + 1) (i + 1)).any fun u => leqV u v) = true := by decide +kernel
theorem egz_all : ((List.range 6).all fun i => (vecs (i + 1) (2 * i + 1)).all fun v => (zerosAt (i + 1) (i + 1)).any fun u => leqV u v) = true := by decide +kernel
end Go.Proofs.YtdpapalfafjncaaGreatDoor
namespace Go.Proofs.YtdpapalfafjncaaGreatDoor
theorem tot_set (l : List Int) : ∀ v : Nat, v < l.length → tot (l.set v (l[v]?.getD 0 + 1)) = tot l + 1 := by
  induction l with
  | nil => intro v h; simp at h
  | cons x xs ih =>
    intro v h
    cases v with
    | zero => simp [tot]; omega
    | succ v =>
      simp only [List.set_cons_succ, tot, List.getElem?_cons_succ]
      rw [ih v (by simpa using h)]; omega
theorem tot_zeros (n : Nat) : tot (List.replicate n 0) = 0 := by
  induction n with
  | zero => rfl
  | succ n ih => rw [List.replicate_succ, tot, ih]; rfl
theorem tot_tally (key : Nat → Option Nat) (N m : Nat) (h : ∀ c, c < m → ∃ v, key c = some v ∧ v < N) : tot (tally key N m) = m := by
  induction m with
  | zero => rw [tally_zero, tot_zeros]; rfl
  | succ m ih =>
    obtain ⟨v, h1, h2⟩ := h m (by omega)
    rw [← tally_some h1, tot_set _ _ (by rw [tally_length]; exact h2), ih (fun c hc => h c (by omega))]
    omega
theorem cntN_pos {p : Nat → Bool} {m : Nat} (c : Nat) (h : c < m) (hp : p c = true) : 1 ≤ cntN p m := by
  induction m with
  | zero => omega
  | succ m ih =>
    rw [cntN]
    by_cases e : c = m
    · subst e; rw [if_pos hp]; omega
    · have := ih (by omega); omega
theorem csum_zero (zs : List Int) : csum zs 0 = 0 := by
  induction zs with
  | nil => rfl
  | cons x xs ih => simp [csum, ih]
theorem pow_bd10 (n : Nat) (h : n ≤ 10) : 1 ≤ (2 : Int) ^ n ∧ (2 : Int) ^ n ≤ 1024 := by
  have h1 : 2 ^ n ≤ 2 ^ 10 := Nat.pow_le_pow_right (by omega) h
  have h2 : 0 < 2 ^ n := Nat.two_pow_pos n
  have h3 : ((2 ^ n : Nat) : Int) = 2 ^ n := by simp
  omega
theorem restKey_lt (zs : List Int) {n : Int} (hn : 1 ≤ n) (c : Nat) : ∃ v, restKey zs n c = some v ∧ v < n.toNat := by
  have h1 := Int.emod_nonneg (csum zs c) (show n ≠ 0 by omega)
  have h2 := Int.emod_lt_of_pos (csum zs c) (show 0 < n by omega)
  exact ⟨_, rfl, by omega⟩
theorem restC_tot (zs : List Int) {n : Int} (hn : 1 ≤ n) : tot (restC zs n) = ((2 ^ zs.length : Nat) : Int) := tot_tally _ _ _ (fun c _ => restKey_lt zs hn c)
theorem restC_pos (zs : List Int) {n : Int} (hn : 1 ≤ n) (c : Nat) (hc : c < 2 ^ zs.length) : (1 : Int) ≤ (restC zs n)[(csum zs c % n).toNat]?.getD 0 := by
  have h1 := Int.emod_nonneg (csum zs c) (show n ≠ 0 by omega)
  have h2 := Int.emod_lt_of_pos (csum zs c) (show 0 < n by omega)
  rw [restC, tally_get _ _ _ _ (by omega)]
  have := cntN_pos (p := fun d => restKey zs n d == some (csum zs c % n).toNat) c hc (by simp [restKey])
  omega
theorem restC_first (zs : List Int) {n : Int} (hn : 1 ≤ n) : (1 : Int) ≤ (restC zs n)[0]?.getD 0 := by
  have := restC_pos zs hn 0 (Nat.two_pow_pos _)
  rw [csum_zero] at this
  simpa using this
theorem sumF_shift (n : Nat) (f : Nat → Nat) : sumF (n + 1) f = f 0 + sumF n (fun r => f (r + 1)) := by
  induction n with
  | zero => simp [sumF]
  | succ n ih => rw [sumF, ih, sumF]; omega
theorem sum_list (u : List Nat) : sumF u.length (fun r => u[r]?.getD 0) = u.sum := by
  induction u with
  | nil => rfl
  | cons x u ih =>
    rw [List.length_cons, sumF_shift, List.sum_cons]
    simp only [List.getElem?_cons_zero, Option.getD_some, List.getElem?_cons_succ]
    rw [ih]
theorem wsum_list (u : List Nat) : ∀ i : Nat, sumF u.length (fun r => (i + r) * u[r]?.getD 0) = wsum i u := by
  induction u with
  | nil => intro i; rfl
  | cons x u ih =>
    intro i
    rw [List.length_cons, sumF_shift, wsum, ← ih (i + 1)]
    simp only [List.getElem?_cons_zero, Option.getD_some, List.getElem?_cons_succ, Nat.add_zero]
    congr 1
    exact sumF_congr (fun r _ => by rw [show i + (r + 1) = i + 1 + r by omega])
theorem vecs_is : ∀ (n m : Nat) (v : List Nat), v ∈ vecs n m → v.length = n ∧ v.sum = m := by
  intro n
  induction n with
  | zero =>
    intro m v h
    cases m with
    | zero => simp [vecs] at h; subst h; exact ⟨rfl, rfl⟩
    | succ m => simp [vecs] at h
  | succ n ih =>
    intro m v h
    simp only [vecs, List.mem_flatMap, List.mem_range, List.mem_map] at h
    obtain ⟨x, hx, u, hu, rfl⟩ := h
    obtain ⟨h1, h2⟩ := ih _ _ hu
    refine ⟨by rw [List.length_cons, h1], ?_⟩
    rw [List.sum_cons, h2]; omega
theorem leqV_get : ∀ (u v : List Nat) (r : Nat), leqV u v = true → u[r]?.getD 0 ≤ v[r]?.getD 0 := by
  intro u
  induction u with
  | nil => intro v r _; simp
  | cons x u ih =>
    intro v r h
    cases v with
    | nil => simp [leqV] at h
    | cons y v =>
      simp only [leqV, Bool.and_eq_true, decide_eq_true_eq] at h
      cases r with
      | zero => simpa using h.1
      | succ r => simpa using ih v r h.2
/-- the numbers of each rest as a list -/
def restV (n : Nat) (zs : List Int) : List Nat := (List.range n).map (cntR n zs)
theorem restV_length (n : Nat) (zs : List Int) : (restV n zs).length = n := by simp [restV]
theorem restV_get (n : Nat) (zs : List Int) (r : Nat) (h : r < n) : (restV n zs)[r]?.getD 0 = cntR n zs r := by simp [restV, h]
theorem restV_sum {n : Nat} (hn : 1 ≤ n) (zs : List Int) : (restV n zs).sum = zs.length := by
  rw [← sum_list, restV_length, sumF_congr (g := cntR n zs) (fun r hr => restV_get n zs r hr), cntR_sum hn]
theorem csum_take_low (zs : List Int) (m c : Nat) (hm : m ≤ zs.length) (hc : c < 2 ^ m) : csum zs c = csum (zs.take m) c := by
  induction zs generalizing m c with
  | nil => simp
  | cons x xs ih =>
    cases m with
    | zero =>
      have : c = 0 := by simpa using hc
      subst this
      rw [csum_zero, csum_zero]
    | succ m =>
      rw [Nat.pow_succ] at hc
      rw [List.take_succ_cons, csum_cons, csum_cons, ih m (c / 2) (by simpa using hm) (by omega)]
/-- a choice of the first m numbers with as many of each rest as u tells -/
theorem pick_vec {n : Nat} (hn : 1 ≤ n) (zs : List Int) (m : Nat) (hm : m ≤ zs.length) (hl : m ≤ 18) (u : List Nat) (hu : u.length = n) (h : ∀ r, r < n → u[r]?.getD 0 ≤ cntR n (zs.take m) r) :
    ∃ c, c < 2 ^ m ∧ popc c = u.sum ∧ csum zs c % (n : Int) = ((wsum 0 u : Nat) : Int) % n := by
  have hlen : (zs.take m).length = m := by simp; omega
  obtain ⟨c, h1, h2, h3⟩ := pick_rests hn (zs.take m) (fun r => u[r]?.getD 0) (by omega) h
  rw [hlen] at h1
  subst hu
  refine ⟨c, h1, by rw [h2, sum_list], ?_⟩
  rw [csum_take_low zs m c hm h1, h3, ← wsum_list u 0]
  simp only [Nat.zero_add]
theorem dav {n : Nat} (hn : 1 ≤ n ∧ n ≤ 6) (zs : List Int) (hl : n ≤ zs.length) : ∃ c, 0 < c ∧ c < 2 ^ zs.length ∧ csum zs c % (n : Int) = 0 ∧ 1 ≤ popc c ∧ popc c ≤ n := by
  have hv : restV n (zs.take n) ∈ vecs n n := vecs_all _ _ _ (restV_length _ _) (by rw [restV_sum hn.1]; simp; omega)
  have hd := List.all_eq_true.1 (List.all_eq_true.1 dav_all (n - 1) (List.mem_range.2 (by omega)))
  rw [show n - 1 + 1 = n by omega] at hd
  obtain ⟨u, hu, hle⟩ := List.any_eq_true.1 (hd _ hv)
  simp only [zeros, List.mem_filter, List.mem_flatMap, List.mem_range, beq_iff_eq] at hu
  obtain ⟨⟨k, hk, hu⟩, hz⟩ := hu
  obtain ⟨h1, h2⟩ := vecs_is _ _ _ hu
  obtain ⟨c, c1, c2, c3⟩ := pick_vec hn.1 zs n hl (by omega) u h1 (fun r hr => by rw [← restV_get n _ r hr]; exact leqV_get u _ r hle)
  have hp : 2 ^ n ≤ 2 ^ zs.length := Nat.pow_le_pow_right (by omega) hl
  refine ⟨c, ?_, by omega, ?_, by omega, by omega⟩
  · rcases Nat.eq_zero_or_pos c with e | e
    · subst e
      have : popc 0 = 0 := popN_zero 20
      omega
    · exact e
  · rw [c3]
    have : ((wsum 0 u : Nat) : Int) % (n : Int) = ((wsum 0 u % n : Nat) : Int) := by simp
    rw [this, hz]; rfl
theorem egz {n : Nat} (hn : 1 ≤ n ∧ n ≤ 6) (zs : List Int) (hl : 2 * n - 1 ≤ zs.length) : ∃ c, c < 2 ^ zs.length ∧ csum zs c % (n : Int) = 0 ∧ popc c = n := by
  have hv : restV n (zs.take (2 * n - 1)) ∈ vecs n (2 * n - 1) := vecs_all _ _ _ (restV_length _ _) (by rw [restV_sum hn.1]; simp; omega)
  have hd := List.all_eq_true.1 (List.all_eq_true.1 egz_all (n - 1) (List.mem_range.2 (by omega)))
  rw [show n - 1 + 1 = n by omega, show 2 * (n - 1) + 1 = 2 * n - 1 by omega] at hd
  obtain ⟨u, hu, hle⟩ := List.any_eq_true.1 (hd _ hv)
  simp only [zerosAt, List.mem_filter, beq_iff_eq] at hu
  obtain ⟨hu, hz⟩ := hu
  obtain ⟨h1, h2⟩ := vecs_is _ _ _ hu
  obtain ⟨c, c1, c2, c3⟩ := pick_vec hn.1 zs (2 * n - 1) hl (by omega) u h1 (fun r hr => by rw [← restV_get n _ r hr]; exact leqV_get u _ r hle)
  have hp : 2 ^ (2 * n - 1) ≤ 2 ^ zs.length := Nat.pow_le_pow_right (by omega) hl
  refine ⟨c, by omega, ?_, by omega⟩
  rw [c3]
  have : ((wsum 0 u : Nat) : Int) % (n : Int) = ((wsum 0 u % n : Nat) : Int) := by simp
  rw [this, hz]; rfl
/-- how many numbers are no multiples -/
def nonM (n : Int) : List Int → Nat
  | [] => 0
  | z :: zs => nonM n zs + if z % n = 0 then 0 else 1
theorem nonM_snoc (n : Int) (zs : List Int) (z : Int) : nonM n (zs ++ [z]) = nonM n zs + if z % n = 0 then 0 else 1 := by
  induction zs with
  | nil => simp [nonM]
  | cons x xs ih => rw [List.cons_append, nonM, ih, nonM]; omega
theorem nonM_le (n : Int) (zs : List Int) : nonM n zs ≤ zs.length := by
  induction zs with
  | nil => exact Nat.le_refl _
  | cons x xs ih => rw [nonM, List.length_cons]; split <;> omega
theorem nonM_cnt {n : Nat} (hn : 1 ≤ n) (zs : List Int) : cntR n zs 0 + nonM n zs = zs.length := by
  induction zs with
  | nil => rfl
  | cons z zs ih =>
    have h1 := Int.emod_nonneg z (show (n : Int) ≠ 0 by omega)
    rw [cntR, nonM, List.length_cons]
    by_cases e : z % (n : Int) = 0
    · rw [if_pos (by omega), if_pos e]; omega
    · rw [if_neg (by omega), if_neg e]; omega
theorem reach_all : ([2, 3, 5].all fun n => (vecs (n - 1) (n - 1)).all fun v => (List.range n).all fun r => ((List.range n).flatMap fun k => vecs n k).any fun u => wsum 0 u % n == r && leqV u (0 :: v)) = true := by decide +kernel
theorem below_sum : ∀ (v : List Nat) (m : Nat), m ≤ v.sum → ∃ u, leqV u v = true ∧ u.length = v.length ∧ u.sum = m := by
  intro v
  induction v with
  | nil => intro m h; exact ⟨[], rfl, rfl, by simp at h; simp [h]⟩
  | cons x v ih =>
    intro m h
    rw [List.sum_cons] at h
    obtain ⟨u, h1, h2, h3⟩ := ih (m - min x m) (by omega)
    exact ⟨min x m :: u, by simp [leqV, h1]; omega, by simp [h2], by rw [List.sum_cons, h3]; omega⟩
theorem reach {n : Nat} (hn : n = 2 ∨ n = 3 ∨ n = 5) (zs : List Int) (hl : zs.length ≤ 18) (hk : n - 1 ≤ nonM n zs) (r : Nat) (hr : r < n) : ∃ c, c < 2 ^ zs.length ∧ csum zs c % (n : Int) = r := by
  have hn1 : 1 ≤ n := by omega
  obtain ⟨x, v, hxv⟩ : ∃ x v, restV n zs = x :: v := by
    have := restV_length n zs
    cases h : restV n zs with
    | nil => rw [h] at this; simp at this; omega
    | cons x v => exact ⟨x, v, rfl⟩
  have hvl : v.length = n - 1 := by have := restV_length n zs; rw [hxv] at this; simp at this; omega
  have hx : x = cntR n zs 0 := by have := restV_get n zs 0 (by omega); rw [hxv] at this; simpa using this
  have hvs : n - 1 ≤ v.sum := by
    have h1 := restV_sum hn1 zs
    rw [hxv, List.sum_cons] at h1
    have h2 := nonM_cnt hn1 zs
    omega
  obtain ⟨v', e1, e2, e3⟩ := below_sum v (n - 1) hvs
  have hv' : v' ∈ vecs (n - 1) (n - 1) := vecs_all _ _ _ (by omega) e3
  have hd := List.all_eq_true.1 (List.all_eq_true.1 (List.all_eq_true.1 reach_all n (by simp; omega)) v' hv') r (List.mem_range.2 hr)
  obtain ⟨u, hu, hle⟩ := List.any_eq_true.1 hd
  simp only [List.mem_flatMap, List.mem_range] at hu
  obtain ⟨k, hk, hu⟩ := hu
  simp only [Bool.and_eq_true, beq_iff_eq] at hle
  obtain ⟨h1, h2⟩ := vecs_is _ _ _ hu
  obtain ⟨c, c1, c2, c3⟩ := pick_vec hn1 zs zs.length (Nat.le_refl _) hl u h1 (fun i hi => by
    rw [List.take_length, ← restV_get n zs i hi, hxv]
    have a1 := leqV_get u _ i hle.2
    cases i with
    | zero => simp at a1; omega
    | succ i =>
      have a2 := leqV_get v' v i e1
      simp at a1 a2 ⊢
      omega)
  refine ⟨c, c1, ?_⟩
  rw [c3]
  have : ((wsum 0 u : Nat) : Int) % (n : Int) = ((wsum 0 u % n : Nat) : Int) := by simp
  rw [this, hle.1]
theorem popN_snoc (k : Nat) : ∀ c : Nat, popN (k + 1) c = popN k c + c / 2 ^ k % 2 := by
  induction k with
  | zero => intro c; simp [popN]
  | succ k ih =>
    intro c
    rw [popN, ih (c / 2), popN, Nat.div_div_eq_div_mul, Nat.pow_succ, Nat.mul_comm 2]
    omega
theorem popc_ten (c : Nat) (h : c < 1024) : popN 10 c = popc c := by
  have h' : ∀ j : Nat, popN (10 + j) c = popN 10 c := by
    intro j
    induction j with
    | zero => rfl
    | succ j ih =>
      have hp : 2 ^ 10 ≤ 2 ^ (10 + j) := Nat.pow_le_pow_right (by omega) (by omega)
      rw [← Nat.add_assoc, popN_more (10 + j) c (by omega), ih]
  exact (h' 10).symm
theorem popN_pos : ∀ (f c : Nat), 0 < c → c < 2 ^ f → 1 ≤ popN f c := by
  intro f
  induction f with
  | zero => intro c h1 h2; simp at h2; omega
  | succ f ih =>
    intro c h1 h2
    rw [Nat.pow_succ] at h2
    rw [popN]
    by_cases e : c % 2 = 1
    · omega
    · have := ih (c / 2) (by omega) (by omega); omega
theorem popN_len : ∀ (m f c : Nat), c < 2 ^ m → popN f c ≤ m := by
  intro m
  induction m with
  | zero =>
    intro f c h
    have : c = 0 := by simpa using h
    subst this
    rw [popN_zero]; exact Nat.le_refl _
  | succ m ih =>
    intro f c h
    cases f with
    | zero => simp [popN]
    | succ f =>
      rw [Nat.pow_succ] at h
      rw [popN]
      have := ih f (c / 2) (by omega)
      omega
theorem reachK_all {cs : List Int} {k : Nat} (h : ∀ r, r < k → (0 : Int) < cs[r]?.getD 0) : (reachK cs k).length = k := by
  induction k with
  | zero => rfl
  | succ k ih => rw [reachK_yes (h k (by omega)), List.length_append, ih (fun r hr => h r (by omega))]; rfl
theorem reachK_head {cs : List Int} {k : Nat} (h : (0 : Int) < cs[0]?.getD 0) : ∃ t, reachK cs (k + 1) = 0 :: t := by
  induction k with
  | zero => exact ⟨[], by rw [reachK_yes h]; rfl⟩
  | succ k ih =>
    obtain ⟨t, ht⟩ := ih
    by_cases e : (0 : Int) < cs[k + 1]?.getD 0
    · exact ⟨_, by rw [reachK_yes e, ht, List.cons_append]⟩
    · exact ⟨t, by rw [reachK_no e, ht]⟩
end Go.Proofs.YtdpapalfafjncaaGreatDoor
namespace Go.Proofs.YtdpapalfafjncaaGreatDoor
open Go.RowKit

theorem csum_compl (zs : List Int) : ∀ c : Nat, c < 2 ^ zs.length → csum zs c + csum zs (2 ^ zs.length - 1 - c) = tot zs := by
  induction zs with
  | nil => intro c _; rfl
  | cons x xs ih =>
    intro c h
    rw [List.length_cons, Nat.pow_succ] at h ⊢
    have h1 := ih (c / 2) (by omega)
    rw [csum_cons, csum_cons, tot, show (2 ^ xs.length * 2 - 1 - c) / 2 = 2 ^ xs.length - 1 - c / 2 by omega]
    by_cases e : c % 2 = 1
    · rw [if_pos e, if_neg (by omega)]; omega
    · rw [if_neg e, if_pos (by omega)]; omega

theorem DrI.drew {w0 w : World} {Br len cap : Nat} {a : Option Addr} {p : Int} {v : Value} {zs : List Int} (h : DrI w0 w Br a len cap p v zs) : DrI w0 w.drew Br a len cap p v zs :=
  ⟨h.1, h.2.1.dr 1, belowDr h.2.2.1 1, h.2.2.2⟩
theorem pickDd {Br len cap : Nat} {a : Option Addr} {p m : Int} {w0 w : World} {v : Value} {zs : List Int} (hD : DrI w0 w Br a len cap p v zs) (hp : 0 ≤ p ∧ p ≤ 1000000) (hlen : len ≤ 2000) (hm : m ≤ 1000000) :
    Calls Tryz.prog 46 #[.pointer (some ⟨Br, 0, none⟩), .int .i64 m] w fun e w' => ∃ x : Int, e = .returned (.int .i64 x) ∧ 0 ≤ x ∧ (x < m ∨ x = 0) ∧ DrI w0 w' Br a len cap (p + 1) v zs ∧ w.grownBy w' (some Br) := pickD Br len cap a p m w0 w v zs hp hlen hm hD

theorem kwrap (x : Int) (h : -1000000 ≤ x ∧ x ≤ 1000000) : IntKind.i64.wrap x = x := IntWalk.i64_in x (by omega)
theorem tdiv23 {x : Int} (h0 : 0 ≤ x) (h1 : x < 24 ∨ x = 0) : 0 ≤ x.tdiv 23 ∧ x.tdiv 23 ≤ 1 := by rw [Int.tdiv_eq_ediv_of_nonneg h0]; omega
theorem mBd {x : Int} {n : Nat} (h0 : 0 ≤ x) (h1 : x < 24 ∨ x = 0) (hp : 1 ≤ (2 : Int) ^ n ∧ (2 : Int) ^ n ≤ 256) : IntKind.i64.wrap (IntKind.i64.wrap (2 ^ n) + IntKind.i64.wrap (x.tdiv 23)) ≤ 300 := by
  have := tdiv23 h0 h1
  rw [kwrap (2 ^ n) (by omega), kwrap (x.tdiv 23) (by omega), kwrap _ (by omega)]
  omega
theorem qBd {x y m : Int} (h0 : 0 ≤ x) (h1 : x < 24 ∨ x = 0) (h2 : 0 ≤ y) (h3 : y < m ∨ y = 0) (h4 : m ≤ 300) : -1 ≤ IntKind.i64.wrap (y - IntKind.i64.wrap (x.tdiv 23)) ∧ IntKind.i64.wrap (y - IntKind.i64.wrap (x.tdiv 23)) ≤ 300 := by
  have := tdiv23 h0 h1
  rw [kwrap (x.tdiv 23) (by omega), kwrap _ (by omega)]
  omega

end Go.Proofs.YtdpapalfafjncaaGreatDoor
namespace Go.Proofs.YtdpapalfafjncaaGreatDoor
open Go.RowKit

def CountsPost (w : World) (zs : List Int) (e : Ending) (w' : World) : Prop := ∃ v, e = .returned v ∧ OwnI w' w.heap.size v zs ∧ Below w.heap.size w w'
theorem sumC_take (zs : List Int) (hg : good zs) (k : Nat) (hk : k < zs.length) : sumC (zs.take (k + 1)) = stepK (sumC (zs.take k)) (zs[k]?.getD 0).toNat (sumC (zs.take k)).length := by
  rw [take_snoc zs k hk, sumC_snoc _ _ (good_take hg k) (good_get hg k hk).1]
theorem sumC_mem {zs : List Int} (hl : zs.length ≤ 10) (j : Nat) : 0 ≤ (sumC zs)[j]?.getD 0 ∧ (sumC zs)[j]?.getD 0 ≤ 1024 := by
  have h1 := tally_bd (sumKey zs) ((tot zs).toNat + 1) (2 ^ zs.length) j
  have h2 : 2 ^ zs.length ≤ 2 ^ 10 := Nat.pow_le_pow_right (by omega) hl
  unfold sumC
  omega
theorem stepK_bd {O : List Int} {M : Int} (h : ∀ j : Nat, 0 ≤ O[j]?.getD 0 ∧ O[j]?.getD 0 ≤ M) (x v j : Nat) : 0 ≤ (stepK O x v)[j]?.getD 0 ∧ (stepK O x v)[j]?.getD 0 ≤ 2 * M := by
  have hM : 0 ≤ M := by have := h 0; omega
  by_cases e : j < O.length + x
  · rw [stepK_get O x v j e]
    have h1 := h j
    have h2 := h (j - x)
    split <;> split <;> omega
  · rw [List.getElem?_eq_none (by rw [stepK_length]; omega)]
    simp; omega

end Go.Proofs.YtdpapalfafjncaaGreatDoor
namespace Go.Proofs.YtdpapalfafjncaaGreatDoor
open Go.RowKit

theorem sumCR_length (zs : List Int) : (if inL zs = true then sumC zs else []).length ≤ 601 := by
  by_cases hz : inL zs = true
  · have hzl := (inL_iff zs).1 hz
    have := tot_bd hzl.2
    rw [if_pos hz, sumC_length]; omega
  · rw [if_neg hz]; simp
end Go.Proofs.YtdpapalfafjncaaGreatDoor
namespace Go.Proofs.YtdpapalfafjncaaGreatDoor
open Go.RowKit

/-- the answer of RestReach -/
def restR (zs : List Int) (n : Int) : List Int := if restOk zs n = true then reachL (restC zs n) else []
theorem restC_length (zs : List Int) (n : Int) : (restC zs n).length = n.toNat := tally_length _ _ _

theorem restR_length (zs : List Int) (n : Int) : (restR zs n).length ≤ 6 := by
  unfold restR
  split
  · rename_i hz
    have h1 := ((restOk_iff zs n).1 hz).2
    have h2 := reachK_length (restC zs n) (restC zs n).length
    rw [restC_length] at h2
    unfold reachL
    rw [restC_length]
    omega
  · simp
theorem restCR_length (zs : List Int) (n : Int) : (if restOk zs n = true then restC zs n else []).length ≤ 6 := by
  by_cases hz : restOk zs n = true
  · rw [if_pos hz, restC_length]; have := ((restOk_iff zs n).1 hz).2; omega
  · rw [if_neg hz]; simp
end Go.Proofs.YtdpapalfafjncaaGreatDoor
namespace Go.Proofs.YtdpapalfafjncaaGreatDoor
theorem cntN_head (p : Nat → Bool) (m : Nat) : cntN p (m + 1) = (if p 0 then 1 else 0) + cntN (fun c => p (c + 1)) m := by
  induction m with
  | zero => simp [cntN]
  | succ m ih => rw [cntN, ih, cntN]; omega
theorem cntN_rev (p : Nat → Bool) (m : Nat) : cntN p m = cntN (fun c => p (m - 1 - c)) m := by
  induction m with
  | zero => rfl
  | succ m ih =>
    rw [cntN_head (fun c => p (m + 1 - 1 - c)) m, cntN, ih]
    have e : cntN (fun c => p (m + 1 - 1 - (c + 1))) m = cntN (fun c => p (m - 1 - c)) m := cntN_congr (fun c _ => by rw [show m + 1 - 1 - (c + 1) = m - 1 - c by omega])
    rw [e, show m + 1 - 1 - 0 = m by omega]
    omega
theorem cntN_one {p : Nat → Bool} {m : Nat} (hm : 1 ≤ m) (h0 : p 0 = true) (h : ∀ c, 1 ≤ c → c < m → p c = false) : cntN p m = 1 := by
  obtain ⟨k, rfl⟩ : ∃ k, m = k + 1 := ⟨m - 1, by omega⟩
  rw [cntN_head, h0]
  have : cntN (fun c => p (c + 1)) k = 0 := by
    rw [cntN_congr (q := fun _ => false) (fun c hc => h (c + 1) (by omega) (by omega))]
    clear h h0 hm
    induction k with
    | zero => rfl
    | succ k ih => rw [cntN, ih]; rfl
  rw [this]; rfl
theorem csum_pos {zs : List Int} (hg : good zs) : ∀ c, 1 ≤ c → c < 2 ^ zs.length → 1 ≤ csum zs c := by
  induction zs with
  | nil => intro c h1 h2; simp at h2; omega
  | cons x xs ih =>
    intro c h1 h2
    have hx := hg x (List.mem_cons_self ..)
    have hgx : good xs := fun y hy => hg y (List.mem_cons_of_mem _ hy)
    rw [List.length_cons, Nat.pow_succ] at h2
    rw [csum_cons]
    have hb := csum_bd hgx (c / 2)
    by_cases e : c % 2 = 1
    · rw [if_pos e]; omega
    · rw [if_neg e]
      have := ih hgx (c / 2) (by omega) (by omega)
      omega
theorem sumC_get {zs : List Int} (v : Nat) (hv : v < (tot zs).toNat + 1) : (sumC zs)[v]?.getD 0 = ((cntN (fun c => sumKey zs c == some v) (2 ^ zs.length) : Nat) : Int) := tally_get _ _ _ _ hv
theorem sumC_rev {zs : List Int} (hg : good zs) (v : Nat) (hv : v < (sumC zs).length) : (sumC zs)[(sumC zs).length - 1 - v]?.getD 0 = (sumC zs)[v]?.getD 0 := by
  rw [sumC_length] at hv ⊢
  have ht := tot_bd hg
  rw [sumC_get _ (by omega), sumC_get _ hv, cntN_rev]
  congr 1
  apply cntN_congr
  intro c hc
  have h1 := csum_compl zs c hc
  have h2 := csum_bd hg c
  have h3 := csum_bd hg (2 ^ zs.length - 1 - c)
  rw [Bool.eq_iff_iff]
  simp only [sumKey, beq_iff_eq, Option.some.injEq]
  omega
theorem sumC_first {zs : List Int} (hg : good zs) : (sumC zs)[0]?.getD 0 = 1 := by
  rw [sumC_get _ (by omega), cntN_one (Nat.two_pow_pos _)]
  · rfl
  · simp [sumKey, csum_zero]
  · intro c h1 h2
    have := csum_pos hg c h1 h2
    simp only [sumKey, beq_eq_false_iff_ne, ne_eq, Option.some.injEq]
    omega
theorem sumC_tot {zs : List Int} (hg : good zs) : tot (sumC zs) = ((2 ^ zs.length : Nat) : Int) := tot_tally _ _ _ (fun c _ => ⟨_, rfl, by have := csum_bd hg c; have := tot_bd hg; omega⟩)
end Go.Proofs.YtdpapalfafjncaaGreatDoor
namespace Go.Proofs.YtdpapalfafjncaaGreatDoor
open Go.RowKit

/-- the answer of SumReach -/
def sumRR (zs : List Int) : List Int := if inL zs = true then reachL (sumC zs) else []

set_option maxHeartbeats 1600000 in
theorem SumReach_any (a : Option Addr) (cap : Nat) (zs : List Int) (w : World) (hl : zs.length ≤ 4294967296) (hI : IntsAt w a zs) :
    Calls Tryz.prog 97 #[.slice a zs.length cap] w (ListR w (inL zs) (sumRR zs)) := by
  by_cases hz : inL zs = true
  case neg =>
    have hz' : inL zs = false := by simpa using hz
    have hr : sumRR zs = [] := by unfold sumRR; rw [if_neg hz]
    have hc := SumCounts_any a cap zs w hl hI
    rw [if_neg hz, hz'] at hc
    rw [hz', hr]
    clear hz hz' hr
    go_enter Tryz.func97, Tryz.ntmps97
    go_wp2_with fail
    refine hc.mono ?_
    rintro e w1 ⟨v1, rfl, hO1, hB1⟩
    have HO : OwnI (w1.alloc (.cells #[] 3)) w.heap.size (.slice (some ⟨w1.heap.size, 0, none⟩) 0 0) [] := World.ownsRow_lit w1 #[] 0 hB1.size (by unfold maxLen; omega) (by simp)
    clear hc hO1
    go_wp2
    go_ret2
    exact ⟨_, rfl, HO, hB1.alloc hB1.size _⟩
  have hr : sumRR zs = reachL (sumC zs) := by unfold sumRR; rw [if_pos hz]
  have hc := SumCounts_any a cap zs w hl hI
  rw [if_pos hz, hz] at hc
  rw [hz]
  have HR := Lib.hid hr
  have hcl : (sumC zs).length ≤ 601 := by have := sumCR_length zs; rw [if_pos hz] at this; exact this
  clear hz hr
  generalize sumC zs = cs at *
  go_enter Tryz.func97, Tryz.ntmps97
  go_wp2_with fail
  refine hc.mono ?_
  rintro e w1 ⟨v1, rfl, hO1, hB1⟩
  obtain ⟨a1, c1, rfl, hI1, hcap⟩ := hO1.shape
  clear hO1 hc
  go_wp2
  go_loopw [6, 20] (fun v i wr => ∃ k : Nat, k ≤ cs.length ∧ i = .int .i64 k ∧ OwnI wr w1.heap.size v (reachK cs k) ∧ Below w1.heap.size w1 wr) (fun _ i _ => cs.length - (intOf i).toNat)
  case atStart => exact ⟨0, Nat.zero_le _, rfl, World.ownsRow_lit w1 #[] 0 (Nat.le_refl _) (by unfold maxLen; omega) (by simp), (Below.refl _ _).alloc (Nat.le_refl _) _⟩
  case round =>
    obtain ⟨k, hk, rfl, hOr, hBr⟩ := hrel
    have hrl := reachK_length cs k
    by_cases hlt : k < cs.length
    · obtain ⟨b, off, rfl, hb, hcell⟩ := (hI1.below hBr).at (by omega)
      have hx := hcell k hlt
      have HY := Lib.hid (reachK_yes (cs := cs) (k := k))
      have HN := Lib.hid (reachK_no (cs := cs) (k := k))
      generalize cs[k]?.getD 0 = x at hx HY HN
      clear hcell
      by_cases h0 : 0 < x
      · go_wp2_with (at_builtin; refine append1 wr rfl _ _ rfl w1.heap.size u6 (reachK cs k) (k : Int) rfl rfl hOr ?_ hBr.size ?_; (omega); intro v' w' hO' hG')
        go_roundw
        case rel => exact ⟨k + 1, by omega, by go_num, by rw [HY.out h0]; exact hO', hBr.grown hG' hBr.size (fun j hj => (hOr.lt j hj).1)⟩
        case measure => simp [intOf]; omega
      · go_wp2
        go_roundw
        case rel => exact ⟨k + 1, by omega, by go_num, by rw [HN.out (by omega)]; exact hOr, hBr⟩
        case measure => simp [intOf]; omega
    · obtain rfl : k = cs.length := by omega
      go_wp2
      go_ret2
      exact ⟨_, rfl, by rw [HR.out]; exact hOr.mono hB1.size, hB1.trans (hBr.mono hB1.size)⟩
theorem sumRR_length (zs : List Int) : (sumRR zs).length ≤ 601 := by
  unfold sumRR
  split
  · rename_i hz
    have h2 := reachK_length (sumC zs) (sumC zs).length
    have := sumCR_length zs
    rw [if_pos hz] at this
    unfold reachL
    omega
  · simp
end Go.Proofs.YtdpapalfafjncaaGreatDoor
