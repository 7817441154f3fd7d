/- The long rule: its span is at most 4/3 - 1/(3m) of the least one. Conditions: the loads are positive and descend. -/
import Derived.Test.YtacedadenbinmaaZy
set_option linter.unusedVariables false
set_option linter.unusedSimpArgs false
set_option linter.unusedSectionVars false
namespace Go.Proofs.Ytacedadenbinmaa

/-- the weight of a load: 2 where no load x goes with it -/
def wt (x T y : Int) : Int := if T < y + x then 2 else 1
def wts (x T : Int) : List Int → Int
  | [] => 0
  | y :: b => wt x T y + wts x T b
theorem wt_bd (x T y : Int) : 1 ≤ wt x T y ∧ wt x T y ≤ 2 := by unfold wt; split <;> omega
theorem wts_nn (x T : Int) : ∀ b, 0 ≤ wts x T b
  | [] => Int.le_refl _
  | y :: b => by have := wts_nn x T b; have := wt_bd x T y; rw [wts]; omega
theorem wts_app (x T : Int) : ∀ a b, wts x T (a ++ b) = wts x T a + wts x T b
  | [], b => by simp [wts]
  | y :: a, b => by rw [List.cons_append, wts, wts, wts_app x T a b]; omega
theorem wts_perm {x T : Int} {a b : List Int} (h : a.Perm b) : wts x T a = wts x T b := by
  induction h with
  | nil => rfl
  | cons y _ ih => rw [wts, wts, ih]
  | swap y z l => simp only [wts]; omega
  | trans _ _ h1 h2 => rw [h1, h2]
theorem wts_le {x T : Int} : ∀ {bs : List (List Int)}, (∀ b ∈ bs, wts x T b ≤ 2) → wts x T bs.flatten ≤ 2 * bs.length
  | [], _ => by simp [wts]
  | b :: bs, h => by
    have h1 := h b (by simp)
    have h2 := wts_le (bs := bs) fun c hc => h c (by simp [hc])
    rw [List.flatten_cons, wts_app, List.length_cons]
    omega
theorem wts_ge {x T : Int} : ∀ {bs : List (List Int)}, (∀ b ∈ bs, 2 ≤ wts x T b) → 2 * bs.length ≤ wts x T bs.flatten
  | [], _ => by simp [wts]
  | b :: bs, h => by
    have h1 := h b (by simp)
    have h2 := wts_ge (bs := bs) fun c hc => h c (by simp [hc])
    rw [List.flatten_cons, wts_app, List.length_cons]
    omega
theorem tot_nn : ∀ {b : List Int}, (∀ y ∈ b, 0 ≤ y) → 0 ≤ tot b
  | [], _ => Int.le_refl _
  | y :: b, h => by have := tot_nn (b := b) fun z hz => h z (by simp [hz]); have := h y (by simp); rw [tot]; omega
theorem wts_opt {x T : Int} {b : List Int} (hx : ∀ y ∈ b, x ≤ y) (h0 : 0 < x) (h3 : T < 3 * x) (ht : tot b ≤ T) : wts x T b ≤ 2 := by
  match b with
  | [] => simp [wts]
  | [y] => have := wt_bd x T y; simp only [wts]; omega
  | [y, z] =>
    have h1 := hx y (by simp)
    have h2 := hx z (by simp)
    simp only [tot] at ht
    simp only [wts, wt]
    rw [if_neg (by omega), if_neg (by omega)]
    omega
  | y :: z :: u :: r =>
    have h1 := hx y (by simp)
    have h2 := hx z (by simp)
    have h4 := hx u (by simp)
    have h5 := tot_nn (b := r) fun v hv => by have := hx v (by simp [hv]); omega
    simp only [tot] at ht
    omega
theorem wts_lst {x T : Int} {b : List Int} (h0 : x ≤ T) (ht : T - x < tot b) : 2 ≤ wts x T b := by
  match b with
  | [] => simp only [tot] at ht; omega
  | [y] => simp only [tot] at ht; simp only [wts, wt]; rw [if_pos (by omega)]; omega
  | y :: z :: r =>
    have h1 := wt_bd x T y
    have h2 := wt_bd x T z
    have h3 := wts_nn x T r
    simp only [wts]
    omega

/-- the loads of each machine by the list rule -/
theorem lst_bins : ∀ (xs ss : List Int), 0 < ss.length → ∃ bs : List (List Int), bs.length = ss.length ∧ (∀ i, i < ss.length → ss[i]?.getD 0 + tot (bs[i]?.getD []) = (lstS xs ss)[i]?.getD 0) ∧ bs.flatten.Perm xs
  | [], ss, _ => by
    refine ⟨List.replicate ss.length [], by simp, fun i hi => ?_, by simp⟩
    have : (List.replicate ss.length ([] : List Int))[i]?.getD [] = [] := by rw [List.getElem?_replicate, if_pos hi]; rfl
    rw [this, tot]
    simp [lstS]
  | x :: xs, ss, h0 => by
    have hk := aiU_lt ss h0 ss.length (Nat.le_refl _)
    obtain ⟨bs, h1, h2, h3⟩ := lst_bins xs (stepL ss x) (by rw [stepL_length]; exact h0)
    rw [stepL_length] at h1 h2
    have e0 : lstS (x :: xs) ss = lstS xs (stepL ss x) := rfl
    rw [e0]
    obtain ⟨k, hkk⟩ : ∃ k, aiU ss ss.length = k := ⟨_, rfl⟩
    rw [hkk] at hk
    refine ⟨bs.set k (bs[k]?.getD [] ++ [x]), by simp [h1], fun i hi => ?_, ?_⟩
    · have := h2 i hi
      rw [stepL, hkk] at this
      rw [stepL, hkk]
      by_cases e : k = i
      · subst e
        rw [List.getElem?_set_self (by omega)]
        show ss[k]?.getD 0 + tot (bs[k]?.getD [] ++ [x]) = _
        rw [tot_app, tot_one]
        have e1 : (putAt ss k x)[k]?.getD 0 = ss[k]?.getD 0 + x := by simp [putAt, hk]
        omega
      · rw [List.getElem?_set_ne e]
        have e1 : (putAt ss k x)[i]?.getD 0 = ss[i]?.getD 0 := by simp [putAt, List.getElem?_set_ne e]
        omega
    · exact (flat_set bs k x (by omega)).trans ((h3.append_right [x]).trans List.perm_append_comm)

theorem lst_sum : ∀ (L ss : List Int), 0 < ss.length → (lstS L ss).sum = ss.sum + L.sum
  | [], ss, _ => by simp [lstS]
  | x :: L, ss, h => by
    have e0 : lstS (x :: L) ss = lstS L (stepL ss x) := rfl
    rw [e0, lst_sum L _ (by rw [stepL_length]; exact h), stepL, sum_putAt _ _ _ (aiU_lt ss h _ (Nat.le_refl _)), List.sum_cons]
    omega
theorem opt_more {L : List Int} {x : Int} {m : Nat} (hm : 0 < m) (hx : 0 ≤ x) (hL : ∀ y ∈ L, 0 ≤ y) : opt L m ≤ opt (L ++ [x]) m := by
  have hp : (x :: L).Perm (L ++ [x]) := (List.perm_append_comm (l₁ := [x]) (l₂ := L))
  have hz : ∀ y ∈ x :: L, 0 ≤ y := fun y hy => by rcases List.mem_cons.1 hy with rfl | h; exact hx; exact hL y h
  rw [opt_perm_eq hp hm hz]
  obtain ⟨k, hk, hs⟩ := mem_spans.1 (opt_mem (x :: L) hm)
  obtain ⟨bs, h1, h2, h3⟩ := fit_of_span L _ _ hs (Int.le_refl _)
  rw [putAt_length] at h1 h2
  obtain ⟨s, hs', hle⟩ := span_of_fit (opt_nn (x :: L) hm hz) L (List.replicate m 0) ⟨bs, h1, fun i hi => by
    have := h2 i hi
    have e1 : (List.replicate m (0 : Int))[i]?.getD 0 ≤ (putAt (List.replicate m 0) k x)[i]?.getD 0 := by
      by_cases e : k = i
      · subst e
        have e2 : (putAt (List.replicate m (0 : Int)) k x)[k]?.getD 0 = (List.replicate m (0 : Int))[k]?.getD 0 + x := by simp only [putAt]; rw [List.getElem?_set_self hk]; rfl
        omega
      · have e2 : (putAt (List.replicate m (0 : Int)) k x)[i]?.getD 0 = (List.replicate m (0 : Int))[i]?.getD 0 := by simp only [putAt]; rw [List.getElem?_set_ne e]
        omega
    omega, h3⟩
  exact Int.le_trans (opt_le hs') hle

theorem mem_bin {bs : List (List Int)} {b : List Int} {y : Int} (hb : b ∈ bs) (hy : y ∈ b) : y ∈ bs.flatten := List.mem_flatten.2 ⟨b, hb, hy⟩

/-- where the last load is more than a third of the least span, the list rule keeps to the least span -/
theorem last_big {L : List Int} {x : Int} {m : Nat} (hm : 0 < m) (h0 : 0 < x) (hL : ∀ y ∈ L, x ≤ y) (h3 : opt (L ++ [x]) m < 3 * x) {c : Int} (hc : ∀ i, i < m → c ≤ (lstS L (List.replicate m 0))[i]?.getD 0) : c + x ≤ opt (L ++ [x]) m := by
  have hz : ∀ y ∈ L ++ [x], x ≤ y := fun y hy => by
    rcases List.mem_append.1 hy with h | h
    · exact hL y h
    · rw [List.mem_singleton.1 h]; exact Int.le_refl _
  have hz0 : ∀ y ∈ L ++ [x], 0 ≤ y := fun y hy => by have := hz y hy; omega
  have hxT := opt_each (L ++ [x]) hm hz0 x (by simp)
  obtain ⟨cs, g1, g2, g3⟩ := fit_of_span (L ++ [x]) _ _ (opt_mem (L ++ [x]) hm) (Int.le_refl _)
  generalize opt (L ++ [x]) m = T at *
  apply Classical.byContradiction
  intro hn
  obtain ⟨bs, h1, h2, h4⟩ := lst_bins L (List.replicate m 0) (by simpa using hm)
  rw [List.length_replicate] at h1 h2 g1 g2
  have k1 : 2 * bs.length ≤ wts x T bs.flatten := by
    have := wts_ge (x := x) (T := T) (bs := bs) fun b hb => by
      obtain ⟨i, hi, rfl⟩ := List.getElem_of_mem hb
      have e1 := h2 i (by omega)
      have e2 := hc i (by omega)
      rw [List.getElem?_replicate, if_pos (by omega), List.getElem?_eq_getElem hi] at e1
      simp only [Option.getD_some] at e1
      exact wts_lst hxT (by omega)
    exact_mod_cast this
  have k2 : wts x T cs.flatten ≤ 2 * cs.length := by
    refine wts_le fun b hb => ?_
    obtain ⟨i, hi, rfl⟩ := List.getElem_of_mem hb
    have e1 := g2 i (by omega)
    rw [List.getElem?_replicate, if_pos (by omega), List.getElem?_eq_getElem hi] at e1
    simp only [Option.getD_some] at e1
    exact wts_opt (fun y hy => hz y (g3.subset (mem_bin hb hy))) h0 h3 (by omega)
  rw [wts_perm h4] at k1
  rw [wts_perm g3, wts_app] at k2
  have := wt_bd x T x
  simp only [wts] at k2
  omega

theorem snoc_ind {P : List Int → Prop} (h0 : P []) (h1 : ∀ L x, P L → P (L ++ [x])) : ∀ L, P L := fun L => by
  have : ∀ R : List Int, P R.reverse := fun R => by
    induction R with
    | nil => exact h0
    | cons x R ih => rw [List.reverse_cons]; exact h1 _ _ ih
  have := this L.reverse
  rwa [List.reverse_reverse] at this

/-- THE LONG RULE. -/
theorem long_rule {m : Nat} (hm : 0 < m) : ∀ zs : List Int, zs.Pairwise (fun a b => b ≤ a) → (∀ x ∈ zs, 0 < x) → 3 * (m : Int) * gre (lstS zs (List.replicate m 0)) ≤ (4 * m - 1) * opt zs m := by
  refine snoc_ind (fun _ _ => ?_) (fun L x ih hp hx => ?_)
  · have h1 : gre (lstS [] (List.replicate m 0)) = 0 := by
      have := gre_nn (List.replicate m (0 : Int))
      have := gre_le (zs := List.replicate m (0 : Int)) (Int.le_refl 0) (fun y hy => by have := List.eq_of_mem_replicate hy; omega)
      show gre (List.replicate m 0) = 0
      omega
    have h2 := opt_nn [] hm (by simp)
    rw [h1, Int.mul_zero]
    exact Int.mul_nonneg (by omega) h2
  · rw [List.pairwise_append] at hp
    obtain ⟨hp1, _, hp2⟩ := hp
    have h0 := hx x (by simp)
    have hL : ∀ y ∈ L, x ≤ y := fun y hy => hp2 y hy x (by simp)
    have hLx : ∀ y ∈ L, 0 < y := fun y hy => hx y (by simp [hy])
    have ih := ih hp1 hLx
    have hz0 : ∀ y ∈ L ++ [x], 0 ≤ y := fun y hy => by have := hx y hy; omega
    have hmore := opt_more (L := L) (x := x) hm (by omega) (fun y hy => by have := hLx y hy; omega)
    have hT0 := opt_nn (L ++ [x]) hm hz0
    have hTs := opt_sum (L ++ [x]) hm hz0
    have hbig := fun h3 c hc => last_big (L := L) (x := x) hm h0 hL h3 (c := c) hc
    have hSs : (lstS L (List.replicate m 0)).sum = L.sum := by
      have := lst_sum L (List.replicate m 0) (by simpa using hm)
      rw [this, zeros_sum]; omega
    have hSl : (lstS L (List.replicate m 0)).length = m := by rw [lstS_length, List.length_replicate]
    have e0 : lstS (L ++ [x]) (List.replicate m 0) = stepL (lstS L (List.replicate m 0)) x := by simp [lstS, List.foldl_append]
    rw [e0]
    generalize lstS L (List.replicate m 0) = S at *
    generalize opt (L ++ [x]) m = T at *
    have hq := aiU_lt S (by omega) S.length (Nat.le_refl _)
    have hmin := aiU_le S S.length
    have hgre : gre (stepL S x) ≤ max (gre S) (S[aiU S S.length]?.getD 0 + x) := by
      have h5 := gre_nn S
      refine gre_le (by omega) fun y hy => ?_
      obtain ⟨i, hi, rfl⟩ := List.getElem_of_mem hy
      rw [stepL_length] at hi
      simp only [stepL, putAt, List.getElem_set]
      split
      · omega
      · have := gre_ge (zs := S) (List.getElem_mem hi); omega
    generalize S[aiU S S.length]?.getD 0 = c at *
    have hMT : 3 * (m : Int) * T ≤ (4 * m - 1) * T := Int.mul_le_mul_of_nonneg_right (by omega) hT0
    by_cases hcase : gre (stepL S x) ≤ gre S
    · have h6 : 3 * (m : Int) * gre (stepL S x) ≤ 3 * m * gre S := Int.mul_le_mul_of_nonneg_left hcase (by omega)
      have h7 : (4 * (m : Int) - 1) * opt L m ≤ (4 * m - 1) * T := Int.mul_le_mul_of_nonneg_left hmore (by omega)
      omega
    · have hv : gre (stepL S x) ≤ c + x := by omega
      have h6 : 3 * (m : Int) * gre (stepL S x) ≤ 3 * m * (c + x) := Int.mul_le_mul_of_nonneg_left hv (by omega)
      by_cases h3 : T < 3 * x
      · have h8 := hbig h3 c fun i hi => hmin i (by omega)
        have h9 : 3 * (m : Int) * (c + x) ≤ 3 * m * T := Int.mul_le_mul_of_nonneg_left h8 (by omega)
        omega
      · have h8 := mul_le_sum S c fun i hi => hmin i hi
        rw [hSl, hSs] at h8
        have h9 : (L ++ [x]).sum = L.sum + x := by simp
        rw [h9] at hTs
        have h10 : ((m : Int) - 1) * (3 * x) ≤ (m - 1) * T := Int.mul_le_mul_of_nonneg_left (by omega) (by omega)
        have e1 : 3 * (m : Int) * (c + x) = 3 * (m * c) + 3 * (m * x) := by rw [Int.mul_add, Int.mul_assoc, Int.mul_assoc]
        have e2 : ((m : Int) - 1) * (3 * x) = 3 * (m * x) - 3 * x := by rw [Int.sub_mul, Int.one_mul, Int.mul_left_comm]
        have e3 : ((m : Int) - 1) * T = m * T - T := by rw [Int.sub_mul, Int.one_mul]
        have e4 : (4 * (m : Int) - 1) * T = 4 * (m * T) - T := by rw [Int.sub_mul, Int.one_mul, Int.mul_assoc]
        omega
end Go.Proofs.Ytacedadenbinmaa
