/- The laws of chapter 8, in plain words: totals of tallies, zero sums among n and 2n-1 numbers, all rests by n-1 numbers. Conditions: n from 1 to 6. -/
import Derived.Test.YtdpapalfafjncaaGreatDoorM10
import Derived.Test.YtdpapalfafjncaaGreatDoorM11
namespace Go.Proofs.YtdpapalfafjncaaGreatDoor
theorem tot_set (l : List Int) : ∀ v : Nat, v < l.length → tot (l.set v (l[v]?.getD 0 + 1)) = tot l + 1 := by
  induction l with
  | nil => intro v h; simp at h
  | cons x xs ih =>
    intro v h
    cases v with
    | zero => simp [tot]; omega
    | succ v =>
      simp only [List.set_cons_succ, tot, List.getElem?_cons_succ]
      rw [ih v (by simpa using h)]; omega
theorem tot_zeros (n : Nat) : tot (List.replicate n 0) = 0 := by
  induction n with
  | zero => rfl
  | succ n ih => rw [List.replicate_succ, tot, ih]; rfl
theorem tot_tally (key : Nat → Option Nat) (N m : Nat) (h : ∀ c, c < m → ∃ v, key c = some v ∧ v < N) : tot (tally key N m) = m := by
  induction m with
  | zero => rw [tally_zero, tot_zeros]; rfl
  | succ m ih =>
    obtain ⟨v, h1, h2⟩ := h m (by omega)
    rw [← tally_some h1, tot_set _ _ (by rw [tally_length]; exact h2), ih (fun c hc => h c (by omega))]
    omega
theorem cntN_pos {p : Nat → Bool} {m : Nat} (c : Nat) (h : c < m) (hp : p c = true) : 1 ≤ cntN p m := by
  induction m with
  | zero => omega
  | succ m ih =>
    rw [cntN]
    by_cases e : c = m
    · subst e; rw [if_pos hp]; omega
    · have := ih (by omega); omega
theorem csum_zero (zs : List Int) : csum zs 0 = 0 := by
  induction zs with
  | nil => rfl
  | cons x xs ih => simp [csum, ih]
theorem pow_bd10 (n : Nat) (h : n ≤ 10) : 1 ≤ (2 : Int) ^ n ∧ (2 : Int) ^ n ≤ 1024 := by
  have h1 : 2 ^ n ≤ 2 ^ 10 := Nat.pow_le_pow_right (by omega) h
  have h2 : 0 < 2 ^ n := Nat.two_pow_pos n
  have h3 : ((2 ^ n : Nat) : Int) = 2 ^ n := by simp
  omega
theorem restKey_lt (zs : List Int) {n : Int} (hn : 1 ≤ n) (c : Nat) : ∃ v, restKey zs n c = some v ∧ v < n.toNat := by
  have h1 := Int.emod_nonneg (csum zs c) (show n ≠ 0 by omega)
  have h2 := Int.emod_lt_of_pos (csum zs c) (show 0 < n by omega)
  exact ⟨_, rfl, by omega⟩
theorem restC_tot (zs : List Int) {n : Int} (hn : 1 ≤ n) : tot (restC zs n) = ((2 ^ zs.length : Nat) : Int) := tot_tally _ _ _ (fun c _ => restKey_lt zs hn c)
theorem restC_pos (zs : List Int) {n : Int} (hn : 1 ≤ n) (c : Nat) (hc : c < 2 ^ zs.length) : (1 : Int) ≤ (restC zs n)[(csum zs c % n).toNat]?.getD 0 := by
  have h1 := Int.emod_nonneg (csum zs c) (show n ≠ 0 by omega)
  have h2 := Int.emod_lt_of_pos (csum zs c) (show 0 < n by omega)
  rw [restC, tally_get _ _ _ _ (by omega)]
  have := cntN_pos (p := fun d => restKey zs n d == some (csum zs c % n).toNat) c hc (by simp [restKey])
  omega
theorem restC_first (zs : List Int) {n : Int} (hn : 1 ≤ n) : (1 : Int) ≤ (restC zs n)[0]?.getD 0 := by
  have := restC_pos zs hn 0 (Nat.two_pow_pos _)
  rw [csum_zero] at this
  simpa using this
theorem sumF_shift (n : Nat) (f : Nat → Nat) : sumF (n + 1) f = f 0 + sumF n (fun r => f (r + 1)) := by
  induction n with
  | zero => simp [sumF]
  | succ n ih => rw [sumF, ih, sumF]; omega
theorem sum_list (u : List Nat) : sumF u.length (fun r => u[r]?.getD 0) = u.sum := by
  induction u with
  | nil => rfl
  | cons x u ih =>
    rw [List.length_cons, sumF_shift, List.sum_cons]
    simp only [List.getElem?_cons_zero, Option.getD_some, List.getElem?_cons_succ]
    rw [ih]
theorem wsum_list (u : List Nat) : ∀ i : Nat, sumF u.length (fun r => (i + r) * u[r]?.getD 0) = wsum i u := by
  induction u with
  | nil => intro i; rfl
  | cons x u ih =>
    intro i
    rw [List.length_cons, sumF_shift, wsum, ← ih (i + 1)]
    simp only [List.getElem?_cons_zero, Option.getD_some, List.getElem?_cons_succ, Nat.add_zero]
    congr 1
    exact sumF_congr (fun r _ => by rw [show i + (r + 1) = i + 1 + r by omega])
theorem vecs_is : ∀ (n m : Nat) (v : List Nat), v ∈ vecs n m → v.length = n ∧ v.sum = m := by
  intro n
  induction n with
  | zero =>
    intro m v h
    cases m with
    | zero => simp [vecs] at h; subst h; exact ⟨rfl, rfl⟩
    | succ m => simp [vecs] at h
  | succ n ih =>
    intro m v h
    simp only [vecs, List.mem_flatMap, List.mem_range, List.mem_map] at h
    obtain ⟨x, hx, u, hu, rfl⟩ := h
    obtain ⟨h1, h2⟩ := ih _ _ hu
    refine ⟨by rw [List.length_cons, h1], ?_⟩
    rw [List.sum_cons, h2]; omega
theorem leqV_get : ∀ (u v : List Nat) (r : Nat), leqV u v = true → u[r]?.getD 0 ≤ v[r]?.getD 0 := by
  intro u
  induction u with
  | nil => intro v r _; simp
  | cons x u ih =>
    intro v r h
    cases v with
    | nil => simp [leqV] at h
    | cons y v =>
      simp only [leqV, Bool.and_eq_true, decide_eq_true_eq] at h
      cases r with
      | zero => simpa using h.1
      | succ r => simpa using ih v r h.2
/-- the numbers of each rest as a list -/
def restV (n : Nat) (zs : List Int) : List Nat := (List.range n).map (cntR n zs)
theorem restV_length (n : Nat) (zs : List Int) : (restV n zs).length = n := by simp [restV]
theorem restV_get (n : Nat) (zs : List Int) (r : Nat) (h : r < n) : (restV n zs)[r]?.getD 0 = cntR n zs r := by simp [restV, h]
theorem restV_sum {n : Nat} (hn : 1 ≤ n) (zs : List Int) : (restV n zs).sum = zs.length := by
  rw [← sum_list, restV_length, sumF_congr (g := cntR n zs) (fun r hr => restV_get n zs r hr), cntR_sum hn]
theorem csum_take_low (zs : List Int) (m c : Nat) (hm : m ≤ zs.length) (hc : c < 2 ^ m) : csum zs c = csum (zs.take m) c := by
  induction zs generalizing m c with
  | nil => simp
  | cons x xs ih =>
    cases m with
    | zero =>
      have : c = 0 := by simpa using hc
      subst this
      rw [csum_zero, csum_zero]
    | succ m =>
      rw [Nat.pow_succ] at hc
      rw [List.take_succ_cons, csum_cons, csum_cons, ih m (c / 2) (by simpa using hm) (by omega)]
/-- a choice of the first m numbers with as many of each rest as u tells -/
theorem pick_vec {n : Nat} (hn : 1 ≤ n) (zs : List Int) (m : Nat) (hm : m ≤ zs.length) (hl : m ≤ 18) (u : List Nat) (hu : u.length = n) (h : ∀ r, r < n → u[r]?.getD 0 ≤ cntR n (zs.take m) r) :
    ∃ c, c < 2 ^ m ∧ popc c = u.sum ∧ csum zs c % (n : Int) = ((wsum 0 u : Nat) : Int) % n := by
  have hlen : (zs.take m).length = m := by simp; omega
  obtain ⟨c, h1, h2, h3⟩ := pick_rests hn (zs.take m) (fun r => u[r]?.getD 0) (by omega) h
  rw [hlen] at h1
  subst hu
  refine ⟨c, h1, by rw [h2, sum_list], ?_⟩
  rw [csum_take_low zs m c hm h1, h3, ← wsum_list u 0]
  simp only [Nat.zero_add]
theorem dav {n : Nat} (hn : 1 ≤ n ∧ n ≤ 6) (zs : List Int) (hl : n ≤ zs.length) : ∃ c, 0 < c ∧ c < 2 ^ zs.length ∧ csum zs c % (n : Int) = 0 ∧ 1 ≤ popc c ∧ popc c ≤ n := by
  have hv : restV n (zs.take n) ∈ vecs n n := vecs_all _ _ _ (restV_length _ _) (by rw [restV_sum hn.1]; simp; omega)
  have hd := List.all_eq_true.1 (List.all_eq_true.1 dav_all (n - 1) (List.mem_range.2 (by omega)))
  rw [show n - 1 + 1 = n by omega] at hd
  obtain ⟨u, hu, hle⟩ := List.any_eq_true.1 (hd _ hv)
  simp only [zeros, List.mem_filter, List.mem_flatMap, List.mem_range, beq_iff_eq] at hu
  obtain ⟨⟨k, hk, hu⟩, hz⟩ := hu
  obtain ⟨h1, h2⟩ := vecs_is _ _ _ hu
  obtain ⟨c, c1, c2, c3⟩ := pick_vec hn.1 zs n hl (by omega) u h1 (fun r hr => by rw [← restV_get n _ r hr]; exact leqV_get u _ r hle)
  have hp : 2 ^ n ≤ 2 ^ zs.length := Nat.pow_le_pow_right (by omega) hl
  refine ⟨c, ?_, by omega, ?_, by omega, by omega⟩
  · rcases Nat.eq_zero_or_pos c with e | e
    · subst e
      have : popc 0 = 0 := popN_zero 20
      omega
    · exact e
  · rw [c3]
    have : ((wsum 0 u : Nat) : Int) % (n : Int) = ((wsum 0 u % n : Nat) : Int) := by simp
    rw [this, hz]; rfl
theorem egz {n : Nat} (hn : 1 ≤ n ∧ n ≤ 6) (zs : List Int) (hl : 2 * n - 1 ≤ zs.length) : ∃ c, c < 2 ^ zs.length ∧ csum zs c % (n : Int) = 0 ∧ popc c = n := by
  have hv : restV n (zs.take (2 * n - 1)) ∈ vecs n (2 * n - 1) := vecs_all _ _ _ (restV_length _ _) (by rw [restV_sum hn.1]; simp; omega)
  have hd := List.all_eq_true.1 (List.all_eq_true.1 egz_all (n - 1) (List.mem_range.2 (by omega)))
  rw [show n - 1 + 1 = n by omega, show 2 * (n - 1) + 1 = 2 * n - 1 by omega] at hd
  obtain ⟨u, hu, hle⟩ := List.any_eq_true.1 (hd _ hv)
  simp only [zerosAt, List.mem_filter, beq_iff_eq] at hu
  obtain ⟨hu, hz⟩ := hu
  obtain ⟨h1, h2⟩ := vecs_is _ _ _ hu
  obtain ⟨c, c1, c2, c3⟩ := pick_vec hn.1 zs (2 * n - 1) hl (by omega) u h1 (fun r hr => by rw [← restV_get n _ r hr]; exact leqV_get u _ r hle)
  have hp : 2 ^ (2 * n - 1) ≤ 2 ^ zs.length := Nat.pow_le_pow_right (by omega) hl
  refine ⟨c, by omega, ?_, by omega⟩
  rw [c3]
  have : ((wsum 0 u : Nat) : Int) % (n : Int) = ((wsum 0 u % n : Nat) : Int) := by simp
  rw [this, hz]; rfl
/-- how many numbers are no multiples -/
def nonM (n : Int) : List Int → Nat
  | [] => 0
  | z :: zs => nonM n zs + if z % n = 0 then 0 else 1
theorem nonM_snoc (n : Int) (zs : List Int) (z : Int) : nonM n (zs ++ [z]) = nonM n zs + if z % n = 0 then 0 else 1 := by
  induction zs with
  | nil => simp [nonM]
  | cons x xs ih => rw [List.cons_append, nonM, ih, nonM]; omega
theorem nonM_le (n : Int) (zs : List Int) : nonM n zs ≤ zs.length := by
  induction zs with
  | nil => exact Nat.le_refl _
  | cons x xs ih => rw [nonM, List.length_cons]; split <;> omega
theorem nonM_cnt {n : Nat} (hn : 1 ≤ n) (zs : List Int) : cntR n zs 0 + nonM n zs = zs.length := by
  induction zs with
  | nil => rfl
  | cons z zs ih =>
    have h1 := Int.emod_nonneg z (show (n : Int) ≠ 0 by omega)
    rw [cntR, nonM, List.length_cons]
    by_cases e : z % (n : Int) = 0
    · rw [if_pos (by omega), if_pos e]; omega
    · rw [if_neg (by omega), if_neg e]; omega
theorem reach_all : ([2, 3, 5].all fun n => (vecs (n - 1) (n - 1)).all fun v => (List.range n).all fun r => ((List.range n).flatMap fun k => vecs n k).any fun u => wsum 0 u % n == r && leqV u (0 :: v)) = true := by decide +kernel
theorem below_sum : ∀ (v : List Nat) (m : Nat), m ≤ v.sum → ∃ u, leqV u v = true ∧ u.length = v.length ∧ u.sum = m := by
  intro v
  induction v with
  | nil => intro m h; exact ⟨[], rfl, rfl, by simp at h; simp [h]⟩
  | cons x v ih =>
    intro m h
    rw [List.sum_cons] at h
    obtain ⟨u, h1, h2, h3⟩ := ih (m - min x m) (by omega)
    exact ⟨min x m :: u, by simp [leqV, h1]; omega, by simp [h2], by rw [List.sum_cons, h3]; omega⟩
theorem reach {n : Nat} (hn : n = 2 ∨ n = 3 ∨ n = 5) (zs : List Int) (hl : zs.length ≤ 18) (hk : n - 1 ≤ nonM n zs) (r : Nat) (hr : r < n) : ∃ c, c < 2 ^ zs.length ∧ csum zs c % (n : Int) = r := by
  have hn1 : 1 ≤ n := by omega
  obtain ⟨x, v, hxv⟩ : ∃ x v, restV n zs = x :: v := by
    have := restV_length n zs
    cases h : restV n zs with
    | nil => rw [h] at this; simp at this; omega
    | cons x v => exact ⟨x, v, rfl⟩
  have hvl : v.length = n - 1 := by have := restV_length n zs; rw [hxv] at this; simp at this; omega
  have hx : x = cntR n zs 0 := by have := restV_get n zs 0 (by omega); rw [hxv] at this; simpa using this
  have hvs : n - 1 ≤ v.sum := by
    have h1 := restV_sum hn1 zs
    rw [hxv, List.sum_cons] at h1
    have h2 := nonM_cnt hn1 zs
    omega
  obtain ⟨v', e1, e2, e3⟩ := below_sum v (n - 1) hvs
  have hv' : v' ∈ vecs (n - 1) (n - 1) := vecs_all _ _ _ (by omega) e3
  have hd := List.all_eq_true.1 (List.all_eq_true.1 (List.all_eq_true.1 reach_all n (by simp; omega)) v' hv') r (List.mem_range.2 hr)
  obtain ⟨u, hu, hle⟩ := List.any_eq_true.1 hd
  simp only [List.mem_flatMap, List.mem_range] at hu
  obtain ⟨k, hk, hu⟩ := hu
  simp only [Bool.and_eq_true, beq_iff_eq] at hle
  obtain ⟨h1, h2⟩ := vecs_is _ _ _ hu
  obtain ⟨c, c1, c2, c3⟩ := pick_vec hn1 zs zs.length (Nat.le_refl _) hl u h1 (fun i hi => by
    rw [List.take_length, ← restV_get n zs i hi, hxv]
    have a1 := leqV_get u _ i hle.2
    cases i with
    | zero => simp at a1; omega
    | succ i =>
      have a2 := leqV_get v' v i e1
      simp at a1 a2 ⊢
      omega)
  refine ⟨c, c1, ?_⟩
  rw [c3]
  have : ((wsum 0 u : Nat) : Int) % (n : Int) = ((wsum 0 u % n : Nat) : Int) := by simp
  rw [this, hle.1]
theorem popN_snoc (k : Nat) : ∀ c : Nat, popN (k + 1) c = popN k c + c / 2 ^ k % 2 := by
  induction k with
  | zero => intro c; simp [popN]
  | succ k ih =>
    intro c
    rw [popN, ih (c / 2), popN, Nat.div_div_eq_div_mul, Nat.pow_succ, Nat.mul_comm 2]
    omega
theorem popc_ten (c : Nat) (h : c < 1024) : popN 10 c = popc c := by
  have h' : ∀ j : Nat, popN (10 + j) c = popN 10 c := by
    intro j
    induction j with
    | zero => rfl
    | succ j ih =>
      have hp : 2 ^ 10 ≤ 2 ^ (10 + j) := Nat.pow_le_pow_right (by omega) (by omega)
      rw [← Nat.add_assoc, popN_more (10 + j) c (by omega), ih]
  exact (h' 10).symm
theorem popN_pos : ∀ (f c : Nat), 0 < c → c < 2 ^ f → 1 ≤ popN f c := by
  intro f
  induction f with
  | zero => intro c h1 h2; simp at h2; omega
  | succ f ih =>
    intro c h1 h2
    rw [Nat.pow_succ] at h2
    rw [popN]
    by_cases e : c % 2 = 1
    · omega
    · have := ih (c / 2) (by omega) (by omega); omega
theorem popN_len : ∀ (m f c : Nat), c < 2 ^ m → popN f c ≤ m := by
  intro m
  induction m with
  | zero =>
    intro f c h
    have : c = 0 := by simpa using h
    subst this
    rw [popN_zero]; exact Nat.le_refl _
  | succ m ih =>
    intro f c h
    cases f with
    | zero => simp [popN]
    | succ f =>
      rw [Nat.pow_succ] at h
      rw [popN]
      have := ih f (c / 2) (by omega)
      omega
theorem reachK_all {cs : List Int} {k : Nat} (h : ∀ r, r < k → (0 : Int) < cs[r]?.getD 0) : (reachK cs k).length = k := by
  induction k with
  | zero => rfl
  | succ k ih => rw [reachK_yes (h k (by omega)), List.length_append, ih (fun r hr => h r (by omega))]; rfl
theorem reachK_head {cs : List Int} {k : Nat} (h : (0 : Int) < cs[0]?.getD 0) : ∃ t, reachK cs (k + 1) = 0 :: t := by
  induction k with
  | zero => exact ⟨[], by rw [reachK_yes h]; rfl⟩
  | succ k ih =>
    obtain ⟨t, ht⟩ := ih
    by_cases e : (0 : Int) < cs[k + 1]?.getD 0
    · exact ⟨_, by rw [reachK_yes e, ht, List.cons_append]⟩
    · exact ⟨t, by rw [reachK_no e, ht]⟩
end Go.Proofs.YtdpapalfafjncaaGreatDoor
