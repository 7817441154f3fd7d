/- The laws of the counts of sums, in plain words. Conditions: the list is as told. The least rest of two parts, in plain words. Conditions: none. The least rest and the first choice with it, the greatest number of a list, in plain words. Conditions: none. Tallies: a least span with the number of ways that have it; all ways to put loads on machines. Conditions: none. Tallies joined: the program's (tally).joined. Conditions: none on the numbers but that the ways' sum is an int. slices.Max of numbers that are not below 0. Conditions: the list is not empty. tallyFrom of the program: the tally of all ways from a place on. Conditions: at most ten good loads, at most five machines. The list rule: each load is put on the first machine with the least sum; its span is at most 2 - 1/m of the least one. Conditions: stated in each. Whether loads and the number of machines are as told: loadsTold and l5Given. Conditions: none but that the list is short enough to be counted. -/
import Derived.Test.YtacedadenbinmaaZg
import Derived.Test.YtacedadenbinmaaZh
import Derived.Handy
import Derived.Test.YtacedadenbinmaaZa
import Derived.Deep.RegionWith
set_option linter.unusedVariables false
set_option linter.unusedSimpArgs false
set_option linter.unusedSectionVars false
namespace Go.Proofs.Ytacedadenbinmaa
theorem cntN_head (p : Nat → Bool) (m : Nat) : cntN p (m + 1) = (if p 0 then 1 else 0) + cntN (fun c => p (c + 1)) m := by
  induction m with
  | zero => simp [cntN]
  | succ m ih => rw [cntN, ih, cntN]; omega
theorem cntN_rev (p : Nat → Bool) (m : Nat) : cntN p m = cntN (fun c => p (m - 1 - c)) m := by
  induction m with
  | zero => rfl
  | succ m ih =>
    rw [cntN_head (fun c => p (m + 1 - 1 - c)) m, cntN, ih]
    have e : cntN (fun c => p (m + 1 - 1 - (c + 1))) m = cntN (fun c => p (m - 1 - c)) m := cntN_congr (fun c _ => by rw [show m + 1 - 1 - (c + 1) = m - 1 - c by omega])
    rw [e, show m + 1 - 1 - 0 = m by omega]
    omega
theorem cntN_one {p : Nat → Bool} {m : Nat} (hm : 1 ≤ m) (h0 : p 0 = true) (h : ∀ c, 1 ≤ c → c < m → p c = false) : cntN p m = 1 := by
  obtain ⟨k, rfl⟩ : ∃ k, m = k + 1 := ⟨m - 1, by omega⟩
  rw [cntN_head, h0]
  have : cntN (fun c => p (c + 1)) k = 0 := by
    rw [cntN_congr (q := fun _ => false) (fun c hc => h (c + 1) (by omega) (by omega))]
    clear h h0 hm
    induction k with
    | zero => rfl
    | succ k ih => rw [cntN, ih]; rfl
  rw [this]; rfl
theorem csum_pos {zs : List Int} (hg : good zs) : ∀ c, 1 ≤ c → c < 2 ^ zs.length → 1 ≤ csum zs c := by
  induction zs with
  | nil => intro c h1 h2; simp at h2; omega
  | cons x xs ih =>
    intro c h1 h2
    have hx := hg x (List.mem_cons_self ..)
    have hgx : good xs := fun y hy => hg y (List.mem_cons_of_mem _ hy)
    rw [List.length_cons, Nat.pow_succ] at h2
    rw [csum_cons]
    have hb := csum_bd hgx (c / 2)
    by_cases e : c % 2 = 1
    · rw [if_pos e]; omega
    · rw [if_neg e]
      have := ih hgx (c / 2) (by omega) (by omega)
      omega
theorem sumC_get {zs : List Int} (v : Nat) (hv : v < (tot zs).toNat + 1) : (sumC zs)[v]?.getD 0 = ((cntN (fun c => sumKey zs c == some v) (2 ^ zs.length) : Nat) : Int) := tally_get _ _ _ _ hv
theorem sumC_rev {zs : List Int} (hg : good zs) (v : Nat) (hv : v < (sumC zs).length) : (sumC zs)[(sumC zs).length - 1 - v]?.getD 0 = (sumC zs)[v]?.getD 0 := by
  rw [sumC_length] at hv ⊢
  have ht := tot_bd hg
  rw [sumC_get _ (by omega), sumC_get _ hv, cntN_rev]
  congr 1
  apply cntN_congr
  intro c hc
  have h1 := csum_compl zs c hc
  have h2 := csum_bd hg c
  have h3 := csum_bd hg (2 ^ zs.length - 1 - c)
  rw [Bool.eq_iff_iff]
  simp only [sumKey, beq_iff_eq, Option.some.injEq]
  omega
theorem sumC_first {zs : List Int} (hg : good zs) : (sumC zs)[0]?.getD 0 = 1 := by
  rw [sumC_get _ (by omega), cntN_one (Nat.two_pow_pos _)]
  · rfl
  · simp [sumKey, csum_zero]
  · intro c h1 h2
    have := csum_pos hg c h1 h2
    simp only [sumKey, beq_eq_false_iff_ne, ne_eq, Option.some.injEq]
    omega
theorem sumC_tot {zs : List Int} (hg : good zs) : tot (sumC zs) = ((2 ^ zs.length : Nat) : Int) := tot_tally _ _ _ (fun c _ => ⟨_, rfl, by have := csum_bd hg c; have := tot_bd hg; omega⟩)
end Go.Proofs.Ytacedadenbinmaa
namespace Go.Proofs.Ytacedadenbinmaa
def sz (v : Int) : Int := max v (-v)
/-- what the program's closure leaves as the best: all signs before the numbers, + first -/
def sgnMin : List Int → Int → Int → Int
  | [], d, b => min b (sz d)
  | x :: xs, d, b => sgnMin xs (d - x) (sgnMin xs (d + x) b)
theorem sgnMin_b (zs : List Int) : ∀ d b, sgnMin zs d b ≤ b := by
  induction zs with
  | nil => intro d b; simp only [sgnMin]; omega
  | cons x xs ih => intro d b; simp only [sgnMin]; exact Int.le_trans (ih _ _) (ih _ _)
theorem sgnMin_le (zs : List Int) : ∀ (d b : Int) (c : Nat), c < 2 ^ zs.length → sgnMin zs d b ≤ sz (d + tot zs - 2 * csum zs c) := by
  induction zs with
  | nil => intro d b c _; simp only [sgnMin, tot, csum, sz]; omega
  | cons x xs ih =>
    intro d b c hc
    rw [List.length_cons, Nat.pow_succ] at hc
    simp only [sgnMin, tot, csum_cons]
    by_cases e : c % 2 = 1
    · rw [if_pos e]
      have := ih (d - x) (sgnMin xs (d + x) b) (c / 2) (by omega)
      rwa [show d + (x + tot xs) - 2 * (x + csum xs (c / 2)) = d - x + tot xs - 2 * csum xs (c / 2) by omega]
    · rw [if_neg e]
      have h1 := sgnMin_b xs (d - x) (sgnMin xs (d + x) b)
      have h2 := ih (d + x) b (c / 2) (by omega)
      rw [show d + (x + tot xs) - 2 * (0 + csum xs (c / 2)) = d + x + tot xs - 2 * csum xs (c / 2) by omega]
      omega
theorem sgnMin_is (zs : List Int) : ∀ (d b : Int), sgnMin zs d b = b ∨ ∃ c, c < 2 ^ zs.length ∧ sgnMin zs d b = sz (d + tot zs - 2 * csum zs c) := by
  induction zs with
  | nil =>
    intro d b
    simp only [sgnMin, tot, sz]
    by_cases h : b ≤ max d (-d)
    · exact .inl (by omega)
    · exact .inr ⟨0, by simp, by simp only [csum]; omega⟩
  | cons x xs ih =>
    intro d b
    simp only [sgnMin, tot]
    rcases ih (d - x) (sgnMin xs (d + x) b) with h | ⟨c, hc, h⟩
    · rw [h]
      rcases ih (d + x) b with h2 | ⟨c, hc, h2⟩
      · exact .inl h2
      · refine .inr ⟨2 * c, by rw [List.length_cons, Nat.pow_succ]; omega, ?_⟩
        rw [h2, csum_cons, if_neg (by omega), show 2 * c / 2 = c by omega, show d + (x + tot xs) - 2 * (0 + csum xs c) = d + x + tot xs - 2 * csum xs c by omega]
    · refine .inr ⟨2 * c + 1, by rw [List.length_cons, Nat.pow_succ]; omega, ?_⟩
      rw [h, csum_cons, if_pos (by omega), show (2 * c + 1) / 2 = c by omega, show d + (x + tot xs) - 2 * (x + csum xs c) = d - x + tot xs - 2 * csum xs c by omega]
/-- the rest of a choice -/
def restOf (zs : List Int) (c : Nat) : Int := sz (tot zs - 2 * csum zs c)
/-- r is the least rest -/
def IsLeast (zs : List Int) (r : Int) : Prop := (∃ c, c < 2 ^ zs.length ∧ restOf zs c = r) ∧ ∀ c, c < 2 ^ zs.length → r ≤ restOf zs c
theorem IsLeast.unique {zs : List Int} {r s : Int} (h : IsLeast zs r) (k : IsLeast zs s) : r = s := by
  obtain ⟨⟨c, hc, e⟩, h2⟩ := h
  obtain ⟨⟨d, hd, f⟩, k2⟩ := k
  have := h2 d hd
  have := k2 c hc
  omega
/-- the program's answer is the least rest -/
theorem sgnMin_least {zs : List Int} (hg : good zs) : IsLeast zs (sgnMin zs 0 (tot zs)) := by
  have ht := tot_bd hg
  have hle := sgnMin_le zs 0 (tot zs)
  refine ⟨?_, fun c hc => by have := hle c hc; simpa [restOf] using this⟩
  rcases sgnMin_is zs 0 (tot zs) with h | ⟨c, hc, h⟩
  · exact ⟨0, Nat.two_pow_pos _, by rw [h, restOf, csum_zero, sz]; omega⟩
  · exact ⟨c, hc, by rw [h, restOf]; congr 1; omega⟩
end Go.Proofs.Ytacedadenbinmaa
namespace Go.Proofs.Ytacedadenbinmaa
/-- the greatest number of a list, 0 of none -/
def gre (zs : List Int) : Int := zs.foldl max 0
theorem gre_take (a : List Int) (k : Nat) (h : k < a.length) : gre (a.take (k + 1)) = max (gre (a.take k)) (a[k]?.getD 0) := by
  rw [take_snoc a k h, gre, List.foldl_append]; rfl
theorem foldl_max_ge (zs : List Int) : ∀ m : Int, m ≤ zs.foldl max m ∧ ∀ x ∈ zs, x ≤ zs.foldl max m := by
  induction zs with
  | nil => intro m; exact ⟨Int.le_refl _, by simp⟩
  | cons y ys ih =>
    intro m
    have h := ih (max m y)
    rw [List.foldl_cons]
    refine ⟨by omega, fun x hx => ?_⟩
    rcases List.mem_cons.1 hx with rfl | hx
    · omega
    · exact h.2 x hx
theorem gre_ge {zs : List Int} {x : Int} (h : x ∈ zs) : x ≤ gre zs := (foldl_max_ge zs 0).2 x h
theorem gre_nn (zs : List Int) : 0 ≤ gre zs := (foldl_max_ge zs 0).1
theorem foldl_max_le (zs : List Int) (M : Int) (h : ∀ x ∈ zs, x ≤ M) : ∀ m : Int, m ≤ M → zs.foldl max m ≤ M := by
  induction zs with
  | nil => intro m hm; exact hm
  | cons y ys ih =>
    intro m hm
    rw [List.foldl_cons]
    exact ih (fun x hx => h x (List.mem_cons_of_mem _ hx)) _ (by have := h y (List.mem_cons_self ..); omega)
theorem gre_le {zs : List Int} {M : Int} (h0 : 0 ≤ M) (h : ∀ x ∈ zs, x ≤ M) : gre zs ≤ M := foldl_max_le zs M h 0 h0
theorem gre_le_tot {zs : List Int} (h : good zs) : gre zs ≤ tot zs := by
  have key : ∀ ys : List Int, good ys → ∀ x ∈ ys, x ≤ tot ys := by
    intro ys
    induction ys with
    | nil => simp
    | cons y ys ih =>
      intro hg x hx
      have hy := hg y (List.mem_cons_self ..)
      have hg2 : good ys := fun z hz => hg z (List.mem_cons_of_mem _ hz)
      have ht := tot_bd hg2
      rw [tot]
      rcases List.mem_cons.1 hx with rfl | hx
      · omega
      · have := ih hg2 x hx; omega
  exact gre_le (tot_bd h).1 (key zs h)

theorem rest_small (zs : List Int) (M : Int) (hM : 0 ≤ M) (h : ∀ x ∈ zs, 0 ≤ x ∧ x ≤ M) : ∃ c, c < 2 ^ zs.length ∧ -M ≤ tot zs - 2 * csum zs c ∧ tot zs - 2 * csum zs c ≤ M := by
  induction zs with
  | nil => exact ⟨0, by simp, by simp [tot, csum]; omega, by simp [tot, csum]; omega⟩
  | cons x xs ih =>
    obtain ⟨c, hc, h1, h2⟩ := ih (fun y hy => h y (List.mem_cons_of_mem _ hy))
    have hx := h x (List.mem_cons_self ..)
    rw [List.length_cons, Nat.pow_succ]
    by_cases e : tot xs - 2 * csum xs c ≤ 0
    · refine ⟨2 * c, by omega, ?_⟩
      rw [csum_cons, if_neg (by omega), show 2 * c / 2 = c by omega, tot]; omega
    · refine ⟨2 * c + 1, by omega, ?_⟩
      rw [csum_cons, if_pos (by omega), show (2 * c + 1) / 2 = c by omega, tot]; omega
/-- the least rest -/
def lr (zs : List Int) : Int := sgnMin zs 0 (tot zs)
theorem lr_least {zs : List Int} (hg : good zs) : IsLeast zs (lr zs) := sgnMin_least hg
theorem lr_le_gre {zs : List Int} (hg : good zs) : lr zs ≤ gre zs := by
  obtain ⟨c, hc, h1, h2⟩ := rest_small zs (gre zs) (gre_nn zs) (fun x hx => ⟨by have := hg x hx; omega, gre_ge hx⟩)
  have := (lr_least hg).2 c hc
  rw [restOf, sz] at this
  omega
theorem lr_par {zs : List Int} (hg : good zs) : (tot zs - lr zs) % 2 = 0 := by
  obtain ⟨⟨c, hc, e⟩, _⟩ := lr_least hg
  rw [restOf, sz] at e
  omega
theorem lr_bd {zs : List Int} (hg : good zs) : 0 ≤ lr zs ∧ lr zs ≤ tot zs := by
  have h := (lr_least hg).2 0 (Nat.two_pow_pos _)
  have ht := tot_bd hg
  obtain ⟨⟨c, hc, e⟩, _⟩ := lr_least hg
  rw [restOf, csum_zero, sz] at h
  rw [restOf, sz] at e
  omega
/-- the first choice up to m with the least rest -/
def leastUp (zs : List Int) : Nat → Nat
  | 0 => 0
  | m + 1 => if restOf zs (m + 1) < restOf zs (leastUp zs m) then m + 1 else leastUp zs m
theorem leastUp_le (zs : List Int) : ∀ m, leastUp zs m ≤ m
  | 0 => Nat.le_refl _
  | m + 1 => by
    have := leastUp_le zs m
    rw [leastUp]; split <;> omega
theorem leastUp_least (zs : List Int) : ∀ m c, c ≤ m → restOf zs (leastUp zs m) ≤ restOf zs c
  | 0, c, h => by obtain rfl : c = 0 := by omega
                  exact Int.le_refl _
  | m + 1, c, h => by
    have ih := leastUp_least zs m
    rw [leastUp]
    split
    · rcases Nat.lt_or_ge c (m + 1) with e | e
      · have := ih c (by omega); omega
      · obtain rfl : c = m + 1 := by omega
        exact Int.le_refl _
    · rcases Nat.lt_or_ge c (m + 1) with e | e
      · exact ih c (by omega)
      · obtain rfl : c = m + 1 := by omega
        omega
theorem leastUp_first (zs : List Int) : ∀ m c, c < leastUp zs m → restOf zs (leastUp zs m) < restOf zs c
  | 0, c, h => by simp [leastUp] at h
  | m + 1, c, h => by
    have ih := leastUp_first zs m
    rw [leastUp] at h ⊢
    split
    · rename_i hlt
      rw [if_pos hlt] at h
      have := leastUp_least zs m c (by omega); omega
    · rename_i hlt
      rw [if_neg hlt] at h
      exact ih c h
/-- the first choice of all with the least rest -/
def lc (zs : List Int) : Nat := leastUp zs (2 ^ zs.length - 1)
theorem lc_lt (zs : List Int) : lc zs < 2 ^ zs.length := by
  have := leastUp_le zs (2 ^ zs.length - 1)
  have := Nat.two_pow_pos zs.length
  rw [lc]; omega
theorem lc_least (zs : List Int) : IsLeast zs (restOf zs (lc zs)) := by
  have := Nat.two_pow_pos zs.length
  exact ⟨⟨_, lc_lt zs, rfl⟩, fun c hc => leastUp_least zs _ c (by omega)⟩
theorem lc_rest {zs : List Int} (hg : good zs) : restOf zs (lc zs) = lr zs := (lc_least zs).unique (lr_least hg)
/-- the search for the least rest ends at lc -/
def leastP (zs : List Int) (c : Nat) : Bool := restOf zs c == lr zs
theorem lc_is {zs : List Int} (hg : good zs) : FirstIs (leastP zs) (2 ^ zs.length) (lc zs) true := by
  refine .inl ⟨rfl, lc zs, rfl, lc_lt zs, by rw [leastP, lc_rest hg]; simp, fun d hd => ?_⟩
  have := leastUp_first zs _ d hd
  have e := lc_rest hg
  rw [lc] at e
  rw [leastP, ← e]
  simp; omega
theorem csum_full (zs : List Int) : csum zs (2 ^ zs.length - 1) = tot zs := by
  have := csum_compl zs 0 (Nat.two_pow_pos _)
  rw [csum_zero] at this
  rw [Nat.sub_zero] at this
  omega
theorem restOf_bd {zs : List Int} (hg : good zs) (c : Nat) : 0 ≤ restOf zs c ∧ restOf zs c ≤ tot zs := by
  have := csum_bd hg c
  rw [restOf, sz]; omega
end Go.Proofs.Ytacedadenbinmaa
namespace Go.Proofs.Ytacedadenbinmaa

/-- Two tallies joined. -/
def joinT (t u : Int × Int) : Int × Int := if t.2 = 0 then u else if u.2 = 0 ∨ t.1 < u.1 then t else if u.1 < t.1 then u else (t.1, t.2 + u.2)

/-- The least number of a list, 0 of none. -/
def mn : List Int → Int
  | [] => 0
  | x :: xs => if xs = [] then x else min x (mn xs)
theorem mn_mem : ∀ {l : List Int}, l ≠ [] → mn l ∈ l
  | [], h => absurd rfl h
  | x :: xs, _ => by
    simp only [mn]
    split
    · simp
    · rename_i hx
      have := mn_mem hx
      rcases Int.le_total x (mn xs) with h | h
      · rw [Int.min_eq_left h]; simp
      · rw [Int.min_eq_right h]; simp [this]
theorem mn_le : ∀ {l : List Int} {x : Int}, x ∈ l → mn l ≤ x
  | [], _, h => by cases h
  | y :: ys, x, h => by
    simp only [mn]
    split
    · rename_i hy
      subst hy
      simp at h
      omega
    · rcases List.mem_cons.1 h with rfl | h
      · exact Int.min_le_left _ _
      · exact Int.le_trans (Int.min_le_right _ _) (mn_le h)
theorem mn_eq {l : List Int} {m : Int} (h1 : m ∈ l) (h2 : ∀ x ∈ l, m ≤ x) : mn l = m := by
  have hne : l ≠ [] := fun e => by rw [e] at h1; cases h1
  have := h2 _ (mn_mem hne)
  have := mn_le h1
  omega

def cnt1 (m : Int) (l : List Int) : Int := (l.countP (· == m) : Int)
/-- A tally of spans. -/
def tal (l : List Int) : Int × Int := (mn l, cnt1 (mn l) l)
theorem cnt1_nil (m : Int) : cnt1 m [] = 0 := rfl
theorem cnt1_app (m : Int) (l k : List Int) : cnt1 m (l ++ k) = cnt1 m l + cnt1 m k := by simp [cnt1, List.countP_append]
theorem cnt1_nn (m : Int) (l : List Int) : 0 ≤ cnt1 m l := by simp [cnt1]
theorem cnt1_le (m : Int) (l : List Int) : cnt1 m l ≤ l.length := by have := List.countP_le_length (p := (· == m)) (l := l); simp only [cnt1]; omega
theorem cnt1_pos {m : Int} {l : List Int} (h : m ∈ l) : 0 < cnt1 m l := by
  have := List.countP_pos_iff (p := (· == m)) (l := l) |>.2 ⟨m, h, by simp⟩
  simp only [cnt1]; omega
theorem cnt1_zero {m : Int} {l : List Int} (h : m ∉ l) : cnt1 m l = 0 := by
  have := List.countP_eq_zero (p := (· == m)) (l := l) |>.2 fun x hx e => h (by simp at e; exact e ▸ hx)
  simp only [cnt1]; omega
theorem tal_nil : tal [] = (0, 0) := rfl
theorem tal_pos {l : List Int} (h : l ≠ []) : 0 < (tal l).2 := cnt1_pos (mn_mem h)
theorem tal_one (x : Int) : tal [x] = (x, 1) := by simp [tal, mn, cnt1]

theorem joinT_z {t u : Int × Int} (h : t.2 = 0) : joinT t u = u := by simp only [joinT, if_pos h]
theorem joinT_l {t u : Int × Int} (h : t.2 ≠ 0) (h1 : u.2 = 0 ∨ t.1 < u.1) : joinT t u = t := by simp only [joinT, if_neg h, if_pos h1]
theorem joinT_r {t u : Int × Int} (h : t.2 ≠ 0) (h1 : u.2 ≠ 0) (h2 : u.1 < t.1) : joinT t u = u := by
  have h3 : ¬ (u.2 = 0 ∨ t.1 < u.1) := by omega
  simp only [joinT, if_neg h, if_neg h3, if_pos h2]
theorem joinT_e {t u : Int × Int} (h : t.2 ≠ 0) (h1 : u.2 ≠ 0) (h2 : u.1 = t.1) : joinT t u = (t.1, t.2 + u.2) := by
  have h3 : ¬ (u.2 = 0 ∨ t.1 < u.1) := by omega
  have h4 : ¬ u.1 < t.1 := by omega
  simp only [joinT, if_neg h, if_neg h3, if_neg h4]

theorem joinT_tal (l k : List Int) : joinT (tal l) (tal k) = tal (l ++ k) := by
  by_cases hl : l = []
  · subst hl; exact joinT_z rfl
  have p1 := tal_pos hl
  by_cases hk : k = []
  · subst hk
    rw [List.append_nil]
    exact joinT_l (by omega) (.inl rfl)
  have p2 := tal_pos hk
  have m1 := mn_mem hl
  have m2 := mn_mem hk
  rcases Int.lt_trichotomy (mn l) (mn k) with h | h | h
  · have e : mn (l ++ k) = mn l := mn_eq (by simp [m1]) fun x hx => by
      rcases List.mem_append.1 hx with hx | hx
      · exact mn_le hx
      · have := mn_le hx; omega
    rw [joinT_l (by omega) (.inr h)]
    simp only [tal]
    rw [e, cnt1_app, cnt1_zero (m := mn l) (l := k) fun hx => by have := mn_le hx; omega]
    simp
  · have e : mn (l ++ k) = mn l := mn_eq (by simp [m1]) fun x hx => by
      rcases List.mem_append.1 hx with hx | hx
      · exact mn_le hx
      · have := mn_le hx; omega
    rw [joinT_e (by omega) (by omega) h.symm]
    simp only [tal]
    rw [e, cnt1_app, h]
  · have e : mn (l ++ k) = mn k := mn_eq (by simp [m2]) fun x hx => by
      rcases List.mem_append.1 hx with hx | hx
      · have := mn_le hx; omega
      · exact mn_le hx
    rw [joinT_r (by omega) (by omega) h]
    simp only [tal]
    rw [e, cnt1_app, cnt1_zero (m := mn k) (l := l) fun hx => by have := mn_le hx; omega]
    simp

theorem tal_perm {l k : List Int} (h : l.Perm k) : tal l = tal k := by
  by_cases hl : l = []
  · subst hl
    have := h.length_eq
    have hk : k = [] := List.eq_nil_of_length_eq_zero (by simpa using this.symm)
    rw [hk]
  · have e : mn k = mn l := mn_eq (h.mem_iff.1 (mn_mem hl)) fun x hx => mn_le (h.mem_iff.2 hx)
    simp only [tal, cnt1, e, h.countP_eq]

/-- A load is put on machine k. -/
def putAt (ss : List Int) (k : Nat) (x : Int) : List Int := ss.set k (ss[k]?.getD 0 + x)
theorem putAt_length (ss : List Int) (k : Nat) (x : Int) : (putAt ss k x).length = ss.length := by simp [putAt]
/-- The spans of all ways to put loads on machines that have sums already. -/
def spans : List Int → List Int → List Int
  | [], ss => [gre ss]
  | x :: xs, ss => (List.range ss.length).flatMap fun k => spans xs (putAt ss k x)

/-- The tally as the program reckons it: the machines up to k. -/
def tfS (f : Nat → Int × Int) : Nat → Int × Int
  | 0 => (0, 0)
  | k + 1 => joinT (tfS f k) (f k)
def tf : List Int → List Int → Int × Int
  | [], ss => (gre ss, 1)
  | x :: xs, ss => tfS (fun k => tf xs (putAt ss k x)) ss.length
theorem tfS_tal (f : Nat → List Int) : ∀ k, tfS (fun i => tal (f i)) k = tal ((List.range k).flatMap f)
  | 0 => rfl
  | k + 1 => by rw [tfS, tfS_tal f k, joinT_tal, List.range_succ, List.flatMap_append]; simp
theorem tf_tal : ∀ (xs ss : List Int), tf xs ss = tal (spans xs ss)
  | [], ss => (tal_one _).symm
  | x :: xs, ss => by
    rw [tf, spans, ← tfS_tal]
    congr 1
    funext k
    exact tf_tal xs _
theorem spans_length : ∀ (xs ss : List Int), (spans xs ss).length = ss.length ^ xs.length
  | [], ss => by simp [spans]
  | x :: xs, ss => by
    rw [spans, List.length_flatMap]
    have : ((List.range ss.length).map fun k => (spans xs (putAt ss k x)).length) = List.replicate ss.length (ss.length ^ xs.length) := by
      apply List.ext_getElem
      · simp
      · intro i h1 h2
        simp [spans_length, putAt_length]
    rw [this, List.sum_replicate_nat, List.length_cons, Nat.pow_succ, Nat.mul_comm]
theorem tal_bd (l : List Int) : 0 ≤ (tal l).2 ∧ (tal l).2 ≤ l.length := ⟨cnt1_nn _ _, cnt1_le _ _⟩
/-- The ways are no more than there are. -/
theorem tfS_bd (x : Int) (xs ss : List Int) (k : Nat) : 0 ≤ (tfS (fun k => tf xs (putAt ss k x)) k).2 ∧ (tfS (fun k => tf xs (putAt ss k x)) k).2 ≤ (k * ss.length ^ xs.length : Nat) := by
  have e : (fun k => tf xs (putAt ss k x)) = fun k => tal (spans xs (putAt ss k x)) := funext fun k => tf_tal _ _
  rw [e, tfS_tal]
  have h := tal_bd ((List.range k).flatMap fun k => spans xs (putAt ss k x))
  refine ⟨h.1, Int.le_trans h.2 ?_⟩
  rw [List.length_flatMap]
  have : ((List.range k).map fun k => (spans xs (putAt ss k x)).length) = List.replicate k (ss.length ^ xs.length) := by
    apply List.ext_getElem
    · simp
    · intro i h1 h2
      simp [spans_length, putAt_length]
  rw [this, List.sum_replicate_nat]
  exact Int.le_refl _
theorem tf_bd (xs ss : List Int) : 0 ≤ (tf xs ss).2 ∧ (tf xs ss).2 ≤ (ss.length ^ xs.length : Nat) := by
  rw [tf_tal, ← spans_length]
  exact tal_bd _
end Go.Proofs.Ytacedadenbinmaa
namespace Go.Proofs.Ytacedadenbinmaa
open Go.RowKit

def tv (p : Int × Int) : Value := .agg #[.int .i64 p.1, .int .i64 p.2]
set_option maxHeartbeats 3200000 in
theorem joined_any (t u : Int × Int) (w : World) (hs : -9223372036854775808 ≤ t.2 + u.2 ∧ t.2 + u.2 ≤ 9223372036854775807) :
    Calls Try.prog 69 #[tv t, tv u] w fun e w' => e = .returned (tv (joinT t u)) ∧ Below w.heap.size w w' := by
  obtain ⟨a, b⟩ := t
  obtain ⟨c, d⟩ := u
  obtain ⟨⟨r, s⟩, hr⟩ : ∃ r, joinT (a, b) (c, d) = r := ⟨_, rfl⟩
  rw [hr]
  simp only at hs
  simp only [tv]
  go_enter Try.func69, Try.ntmps69
  go_wp2
  all_goals go_returns
  all_goals (
    refine ⟨?_, by go_grown⟩
    simp only [joinT] at hr
    (repeat' split at hr) <;> (simp only [Prod.mk.injEq] at hr; obtain ⟨rfl, rfl⟩ := hr; first | rfl | (exfalso; simp_all; done) | (exfalso; simp_all; omega)))
end Go.Proofs.Ytacedadenbinmaa
namespace Go.Proofs.Ytacedadenbinmaa
open Go.RowKit

set_option maxHeartbeats 400000 in
theorem slicesMax_any (a : Option Addr) (cap : Nat) (zs : List Int) (w : World) (h0 : 0 < zs.length) (hl : zs.length ≤ 1000000) (hnn : ∀ x ∈ zs, 0 ≤ x) (hI : IntsAt w a zs) :
    Calls Try.prog 72 #[.slice a zs.length cap] w fun e w' => e = .returned (.int .i64 (gre zs)) ∧ w = w' := by
  obtain ⟨b, off, rfl, hb, hcell⟩ := hI.at h0
  have hx0 := hcell 0 h0
  simp only [Nat.add_zero] at hx0
  have hz0 : gre (zs.take 1) = zs[0]?.getD 0 := by
    have := gre_take zs 0 h0
    rw [this]
    have h1 : (0 : Int) ≤ zs[0]?.getD 0 := by rw [List.getElem?_eq_getElem h0]; exact hnn _ (List.getElem_mem h0)
    have h2 : gre (zs.take 0) = 0 := rfl
    rw [h2]; omega
  generalize zs[0]?.getD 0 = x0 at hx0 hz0
  go_enter Try.func72, Try.ntmps72
  go_wp2
  go_loop [3, 4] (fun s i => ∃ k : Nat, 1 ≤ k ∧ k ≤ zs.length ∧ i = .int .i64 k ∧ s = .int .i64 (gre (zs.take k))) (fun _ i => zs.length - (intOf i).toNat)
  case atStart => exact ⟨1, by omega, by omega, rfl, by rw [hz0]⟩
  case round =>
    obtain ⟨k, hk1, hk, rfl, rfl⟩ := hrel
    by_cases hlt : k < zs.length
    · have HS := Lib.hid (gre_take zs k hlt)
      have hx := hcell k hlt
      generalize zs[k]?.getD 0 = x at hx HS
      generalize gre (zs.take k) = s at HS
      clear hcell hz0 hx0
      go_wp2
      all_goals
        go_round
        case rel => exact ⟨k + 1, by omega, by omega, by go_num, congrArg (Value.int .i64) (by rw [HS.out]; split <;> omega)⟩
        case measure => simp [intOf]; omega
    · go_wp2
      go_ret
      exact ⟨ret_int (by rw [List.take_of_length_le (by omega)]), rfl⟩
end Go.Proofs.Ytacedadenbinmaa
namespace Go.Proofs.Ytacedadenbinmaa
open Go.RowKit

/-- a tally in its box -/
def Bx2 (W : World) (D : Nat) (p : Int × Int) : Prop := W.heap[D]? = some (.cells #[.int .i64 p.1, .int .i64 p.2] 40 (0, 0))
theorem Bx2.c0 {W : World} {D : Nat} {p : Int × Int} (h : Bx2 W D p) : W.cell? ⟨D, 0, none⟩ = some (.int .i64 p.1) := by simp [World.cell?, show W.heap[D]? = _ from h]
theorem Bx2.c1 {W : World} {D : Nat} {p : Int × Int} (h : Bx2 W D p) : W.cell? ⟨D, 1, none⟩ = some (.int .i64 p.2) := by simp [World.cell?, show W.heap[D]? = _ from h]
theorem Bx2.f0 {W : World} {D : Nat} {p : Int × Int} (h : Bx2 W D p) (i : Nat) : W.frozen? ⟨D, i, none⟩ = false := by simp [World.frozen?, show W.heap[D]? = _ from h]
theorem Bx2.lt {W : World} {D : Nat} {p : Int × Int} (h : Bx2 W D p) : D < W.heap.size := (Array.getElem?_eq_some_iff.1 h).1
theorem Bx2.kept {W W' : World} {D : Nat} {p : Int × Int} {row : Option Nat} (h : Bx2 W D p) (hg : W.grownBy W' row) (hne : some D ≠ row) : Bx2 W' D p := (hg.block D h.lt hne).trans h
theorem Bx2.other {W : World} {D : Nat} {p : Int × Int} (h : Bx2 W D p) {q : Addr} (hne : q.block ≠ D) (v : Value) : Bx2 (W.setCell q v) D p := (Below.heap_setCell W q v D (Ne.symm hne)).trans h
theorem Bx2.s0 {W : World} {D : Nat} {a b : Int} (h : Bx2 W D (a, b)) (x : Int) : Bx2 (W.setCell ⟨D, 0, none⟩ (.int .i64 x)) D (x, b) := by
  obtain ⟨hlt, hk⟩ := Array.getElem?_eq_some_iff.1 h
  show (W.heap.modify D _)[D]? = _
  rw [Array.getElem?_eq_getElem (by rw [Array.size_modify]; exact hlt), Array.getElem_modify_self, hk]
  rfl
theorem Bx2.s1 {W : World} {D : Nat} {a b : Int} (h : Bx2 W D (a, b)) (y : Int) : Bx2 (W.setCell ⟨D, 1, none⟩ (.int .i64 y)) D (a, y) := by
  obtain ⟨hlt, hk⟩ := Array.getElem?_eq_some_iff.1 h
  show (W.heap.modify D _)[D]? = _
  rw [Array.getElem?_eq_getElem (by rw [Array.size_modify]; exact hlt), Array.getElem_modify_self, hk]
  rfl
theorem Bx2.set {W : World} {D : Nat} {p : Int × Int} (h : Bx2 W D p) (x y : Int) : Bx2 ((W.setCell ⟨D, 0, none⟩ (.int .i64 x)).setCell ⟨D, 1, none⟩ (.int .i64 y)) D (x, y) := (Bx2.s0 (a := p.1) (b := p.2) h x).s1 y

theorem Bx2.new (W : World) (x y : Int) : Bx2 (W.alloc (.cells #[.int .i64 x, .int .i64 y] 40)) W.heap.size (x, y) := (MapKept.heap_alloc W _).1
theorem Bx2.alloc {W : World} {D : Nat} {p : Int × Int} (h : Bx2 W D p) (o : Obj) : Bx2 (W.alloc o) D p := h.kept (World.grownBy_alloc W o none) (by simp)

theorem gb_set {w W : World} {g : Nat} (h : w.grownBy W (some g)) {p : Addr} (hp : p.block = g ∨ w.heap.size ≤ p.block) (v : Value) : w.grownBy (W.setCell p v) (some g) :=
  ⟨by rw [← h.os]; rfl, by rw [← h.tape]; rfl, by rw [← h.output]; rfl, by simpa [World.setCell] using h.size, fun k hk hne => by
    rw [Below.heap_setCell W p v k (fun e => by
      subst e
      rcases hp with hp | hp
      · exact hne (by rw [hp])
      · omega)]
    exact h.block k hk hne⟩
theorem gb_alloc {w W : World} {g : Nat} (h : w.grownBy W (some g)) (o : Obj) : w.grownBy (W.alloc o) (some g) :=
  ⟨h.os, h.tape, h.output, Nat.le_trans h.size (by simp), fun k hk hne => by
    have := World.grownBy_alloc W o none
    exact (this.block k (Nat.lt_of_lt_of_le hk h.size) (by simp)).trans (h.block k hk hne)⟩
theorem gb_drew {w W : World} {g : Nat} (h : w.grownBy W (some g)) : w.grownBy W.drew (some g) := ⟨h.os, h.tape, h.output, h.size, h.block⟩
theorem gb_trans {w W W' : World} {g : Nat} (h : w.grownBy W (some g)) (k : W.grownBy W' (some g)) : w.grownBy W' (some g) :=
  ⟨k.os.trans h.os, k.tape.trans h.tape, k.output.trans h.output, Nat.le_trans h.size k.size, fun b hb hne => (k.block b (Nat.lt_of_lt_of_le hb h.size) hne).trans (h.block b hb hne)⟩

def TFPost (w : World) (g sc B : Nat) (ss : List Int) (r : Int × Int) (e : Ending) (w' : World) : Prop :=
  e = .returned (tv r) ∧ OwnI w' B (.slice (some ⟨g, 0, none⟩) ss.length sc) ss ∧ w.grownBy w' (some g)

/-- what stands while the machines are tried: the sums, the result's box, the tally's box -/
def TFB (w : World) (g sc B L : Nat) (ss : List Int) (p : Int × Int) (W : World) : Prop :=
  OwnI W B (.slice (some ⟨g, 0, none⟩) L sc) ss ∧ Bx2 W w.heap.size (0, 0) ∧ Bx2 W (w.heap.size + 1) p ∧ w.grownBy W (some g)
theorem TFB.drew {w W : World} {g sc B L : Nat} {ss : List Int} {p : Int × Int} (h : TFB w g sc B L ss p W) : TFB w g sc B L ss p W.drew := ⟨h.1, h.2.1, h.2.2.1, gb_drew h.2.2.2⟩
theorem ints_grown {w W : World} {bb off g : Nat} {zs : List Int} (h : IntsAt w (some ⟨bb, off, none⟩) zs) (hne : bb ≠ g) (hg : w.grownBy W (some g)) : IntsAt W (some ⟨bb, off, none⟩) zs := by
  rcases h with h | ⟨b, o, e, hb, hc⟩
  · exact .inl h
  · simp only [Option.some.injEq, Addr.mk.injEq, and_true] at e
    obtain ⟨rfl, rfl⟩ := e
    refine .inr ⟨bb, off, rfl, Nat.lt_of_lt_of_le hb hg.size, fun j hj => ?_⟩
    have : W.heap[bb]? = w.heap[bb]? := hg.block bb hb (by simp [hne])
    rw [← hc j hj]
    simp only [World.cell?, this]

theorem OwnI.setO {W : World} {B g D L sc : Nat} {ss : List Int} (h : OwnI W B (.slice (some ⟨g, 0, none⟩) L sc) ss) (hne : g ≠ D) (j : Nat) (v : Value) : OwnI (W.setCell ⟨D, j, none⟩ v) B (.slice (some ⟨g, 0, none⟩) L sc) ss :=
  h.kept (row := some D) (gb_set (World.grownBy.refl W (some D)) (.inl rfl) v) (.inr (by simp [Value.ownBlock, hne]))
theorem pow5 {m n : Nat} (h : m ≤ 5) (hn : n ≤ 10) : m ^ n ≤ 9765625 := Nat.le_trans (Nat.pow_le_pow_left h n) (Nat.le_trans (Nat.pow_le_pow_right (by omega) hn) (by decide))
theorem putAt_bd {ss : List Int} {s : Nat} {v b : Int} (h : ∀ x ∈ ss, 0 ≤ x ∧ x ≤ b) (hv : 1 ≤ v ∧ v ≤ 60) (hs : s < ss.length) : ∀ x ∈ putAt ss s v, 0 ≤ x ∧ x ≤ b + 60 := by
  intro x hx
  have hy := h _ (List.getElem_mem hs)
  rcases List.mem_or_eq_of_mem_set hx with hx | rfl
  · have := h x hx; omega
  · rw [List.getElem?_eq_getElem hs]
    simp only [Option.getD_some]
    omega

set_option maxRecDepth 100000 in
set_option maxHeartbeats 6400000 in
theorem tallyFrom_any (a : Option Addr) (cap : Nat) (zs : List Int) (g sc B : Nat) (hne : ∀ b off, a = some ⟨b, off, none⟩ → b ≠ g) (hg : good zs) (hl : zs.length ≤ 10) : ∀ (k place : Nat) (p : Int) (ss : List Int) (w : World), p = (place : Int) → place + k = zs.length → 0 < ss.length → ss.length ≤ 5 → (∀ x ∈ ss, 0 ≤ x ∧ x ≤ 60 * place) → IntsAt w a zs → OwnI w B (.slice (some ⟨g, 0, none⟩) ss.length sc) ss →
    Calls Try.prog 67 #[.slice a zs.length cap, .int .i64 p, .slice (some ⟨g, 0, none⟩) ss.length sc] w (TFPost w g sc B ss (tf (zs.drop place) ss)) := by
  intro k
  induction k with
  | zero =>
    intro place p ss w hpp hp h0 h5 hss hI hO
    subst hpp
    obtain rfl : place = zs.length := by omega
    rw [List.drop_length]
    obtain ⟨mx, hmx⟩ : ∃ m, gre ss = m := ⟨_, rfl⟩
    have HM : Hid (∀ W, OwnI W B (.slice (some ⟨g, 0, none⟩) ss.length sc) ss → Calls Try.prog 72 #[.slice (some ⟨g, 0, none⟩) ss.length sc] W fun e w' => e = .returned (.int .i64 mx) ∧ W = w') := fun W hW => by
      rw [← hmx]; exact slicesMax_any _ sc ss W h0 (by omega) (fun x hx => (hss x hx).1) hW.ints
    have HO := Lib.hid hO
    have hgl : g < w.heap.size := (hO.lt g rfl).2
    simp only [tf, hmx]
    clear hO hI hss
    go_enter Try.func67, Try.ntmps67
    go_wp2_with (go_at_call 72; refine (HM.out _ (OwnI.alloc HO.out _)).mono ?_; rintro e w' ⟨rfl, rfl⟩)
    all_goals go_returns
    exact ⟨rfl, OwnI.alloc HO.out _, gb_alloc (World.grownBy.refl w _) _⟩
  | succ k ih =>
    intro place p ss w hpp hp h0 h5 hss hI hO
    subst hpp
    obtain ⟨bb, off, rfl, hbb, hcell⟩ := hI.at (by omega)
    have hbg : bb ≠ g := hne bb off rfl
    have hgx := good_get hg place (by omega)
    have hxc := hcell place (by omega)
    have hdr : zs.drop place = zs[place]?.getD 0 :: zs.drop (place + 1) := by
      rw [List.drop_eq_getElem_cons (by omega), List.getElem?_eq_getElem (by omega)]; rfl
    rw [hdr, tf]
    clear hcell hdr
    obtain ⟨v, hzv⟩ : ∃ v, zs[place]?.getD 0 = v := ⟨_, rfl⟩
    rw [hzv] at hgx hxc ⊢
    have hgl : g < w.heap.size := (hO.lt g rfl).2
    have hpl : place < zs.length := by omega
    have hpl2 : ((place : Int) == (zs.length : Int)) = false := by simp; omega
    have HSS := Lib.hid hss
    have HI := Lib.hid hI
    have HO := Lib.hid hO
    have HP := Lib.hid hp
    clear hss hI hO hp
    go_enter Try.func67, Try.ntmps67
    go_wp2_with fail
    go_loopw [18] (fun i wr => ∃ s : Nat, s ≤ ss.length ∧ i = .int .i64 s ∧ TFB w g sc B ss.length ss (tfS (fun k => tf (zs.drop (place + 1)) (putAt ss k v)) s) wr) (fun i _ => ss.length - (intOf i).toNat)
    case atStart => exact ⟨0, Nat.zero_le _, rfl, OwnI.alloc (OwnI.alloc HO.out _) _, (Bx2.new w 0 0).alloc _, by have := Bx2.new (w.alloc (.cells #[.int .i64 0, .int .i64 0] 40)) 0 0; rwa [World.size_alloc] at this, gb_alloc (gb_alloc (World.grownBy.refl w _) _) _⟩
    case round =>
      obtain ⟨s, hs, rfl, hT⟩ := hrel
      clear HO
      have hpb := tfS_bd v (zs.drop (place + 1)) ss s
      have HF : Hid (tfS (fun k => tf (zs.drop (place + 1)) (putAt ss k v)) (s + 1) = joinT (tfS (fun k => tf (zs.drop (place + 1)) (putAt ss k v)) s) (tf (zs.drop (place + 1)) (putAt ss s v))) := rfl
      generalize hp0 : tfS (fun k => tf (zs.drop (place + 1)) (putAt ss k v)) s = p at hT hpb HF
      obtain ⟨p1, p2⟩ := p
      by_cases hlt : s < ss.length
      · have hrb := tf_bd (zs.drop (place + 1)) (putAt ss s v)
        obtain ⟨⟨r1, r2⟩, hr⟩ : ∃ r, tf (zs.drop (place + 1)) (putAt ss s v) = r := ⟨_, rfl⟩
        obtain ⟨⟨q1, q2⟩, hq⟩ : ∃ q, joinT (p1, p2) (r1, r2) = q := ⟨_, rfl⟩
        rw [hr] at hrb HF
        rw [hq] at HF
        obtain ⟨g', cp, he, _, _, hcf⟩ := hT.1.at (by omega)
        simp only [Value.slice.injEq, Option.some.injEq, Addr.mk.injEq, and_true, true_and] at he
        obtain ⟨rfl, rfl⟩ := he
        obtain ⟨hcs, hfs⟩ := hcf s hlt
        obtain ⟨y, hy⟩ : ∃ y, ss[s]?.getD 0 = y := ⟨_, rfl⟩
        rw [hy] at hcs
        have hyb := HSS.out y (by rw [← hy, List.getElem?_eq_getElem hlt]; exact List.getElem_mem hlt)
        have hxc' : wr.cell? ⟨bb, off + place, none⟩ = some (.int .i64 v) := by
          have : wr.heap[bb]? = w.heap[bb]? := hT.2.2.2.block bb hbb (by simp [hbg])
          rw [← hxc]
          simp only [World.cell?, this]
        have hw1 : IntKind.i64.wrap (y + v) = y + v := IntWalk.i64_in _ (by omega)
        have HT := Lib.hid hT
        clear hT hcf hxc hp0
        go_wp2_with fail
        go_region
        have hps : putAt ss s v = ss.set s (y + v) := by rw [putAt, hy]
        have k1 : TFB w g sc B ss.length (putAt ss s v) (p1, p2) (wr.setCell ⟨g, s, none⟩ (.int .i64 (y + v))).drew := by
          rw [hps]
          exact ⟨HT.out.1.put rfl s (y + v), HT.out.2.1.other (q := ⟨g, s, none⟩) (by simp; omega) _, HT.out.2.2.1.other (q := ⟨g, s, none⟩) (by simp; omega) _, gb_drew (gb_set HT.out.2.2.2 (.inl rfl) _)⟩
        generalize (wr.setCell ⟨g, s, none⟩ (.int .i64 (y + v))).drew = w3 at k1 ⊢
        clear hcs hfs hxc' HT
        have hn10 : (zs.drop (place + 1)).length ≤ 10 := by rw [List.length_drop]; omega
        have hp5 := pow5 h5 hn10
        rw [putAt_length] at hrb
        have hsm : s * ss.length ^ (zs.drop (place + 1)).length ≤ 5 * 9765625 := Nat.mul_le_mul (by omega) hp5
        have HB2 : Hid (∀ W, TFB w g sc B ss.length (putAt ss s v) (p1, p2) W → W.cell? ⟨w.heap.size + 1, 0, none⟩ = some (.int .i64 p1) ∧ W.cell? ⟨w.heap.size + 1, 1, none⟩ = some (.int .i64 p2) ∧ W.frozen? ⟨w.heap.size + 1, 0, none⟩ = false ∧ W.frozen? ⟨w.heap.size + 1, 1, none⟩ = false) := fun W h => ⟨h.2.2.1.c0, h.2.2.1.c1, h.2.2.1.f0 0, h.2.2.1.f0 1⟩
        have HV : Hid (∀ W, TFB w g sc B ss.length (putAt ss s v) (p1, p2) W → Calls Try.prog 67 #[.slice (some ⟨bb, off, none⟩) zs.length cap, .int .i64 ((place : Int) + 1), .slice (some ⟨g, 0, none⟩) ss.length sc] W fun e w4 => e = .returned (.agg #[.int .i64 r1, .int .i64 r2]) ∧ (w4.cell? ⟨w.heap.size + 1, 0, none⟩ = some (.int .i64 p1) ∧ w4.cell? ⟨w.heap.size + 1, 1, none⟩ = some (.int .i64 p2)) ∧ Hid (TFB w g sc B ss.length (putAt ss s v) (p1, p2) w4)) := fun W hW => by
          have h1 := ih (place + 1) _ (putAt ss s v) W rfl (by have := HP.out; omega) (by rw [putAt_length]; exact h0) (by rw [putAt_length]; exact h5) (fun x hx => by have := putAt_bd HSS.out hgx hlt x hx; omega) (ints_grown HI.out hbg hW.2.2.2) (by rw [putAt_length]; exact hW.1)
          rw [hr] at h1
          simp only [putAt_length] at h1
          refine h1.mono ?_
          rintro e w4 ⟨rfl, hO4, hG4⟩
          rw [putAt_length] at hO4
          have hB4 : TFB w g sc B ss.length (putAt ss s v) (p1, p2) w4 := ⟨hO4, hW.2.1.kept hG4 (by simp; omega), hW.2.2.1.kept hG4 (by simp; omega), gb_trans hW.2.2.2 hG4⟩
          exact ⟨rfl, ⟨hB4.2.2.1.c0, hB4.2.2.1.c1⟩, hB4⟩
        have HJ : Hid (∀ W, TFB w g sc B ss.length (putAt ss s v) (p1, p2) W → Calls Try.prog 69 #[.agg #[.int .i64 p1, .int .i64 p2], .agg #[.int .i64 r1, .int .i64 r2]] W fun e w5 => e = .returned (.agg #[.int .i64 q1, .int .i64 q2]) ∧ (w5.cell? ⟨w.heap.size + 1, 0, none⟩ = some (.int .i64 p1) ∧ w5.cell? ⟨w.heap.size + 1, 1, none⟩ = some (.int .i64 p2) ∧ w5.frozen? ⟨w.heap.size + 1, 0, none⟩ = false ∧ w5.frozen? ⟨w.heap.size + 1, 1, none⟩ = false) ∧ Hid (TFB w g sc B ss.length (putAt ss s v) (p1, p2) w5)) := fun W hW => by
          refine (joined_any (p1, p2) (r1, r2) W (by simp only at hpb hrb ⊢; omega)).mono ?_
          rintro e w5 ⟨rfl, hB⟩
          have hG : W.grownBy w5 (some g) := ⟨hB.os, hB.tape, hB.output, hB.size, fun k hk _ => hB.block k hk⟩
          have hB5 : TFB w g sc B ss.length (putAt ss s v) (p1, p2) w5 := ⟨hW.1.keptB hB, hW.2.1.kept hG (by simp; omega), hW.2.2.1.kept hG (by simp; omega), gb_trans hW.2.2.2 hG⟩
          rw [hq]
          exact ⟨rfl, ⟨hB5.2.2.1.c0, hB5.2.2.1.c1, hB5.2.2.1.f0 0, hB5.2.2.1.f0 1⟩, hB5⟩
        obtain ⟨hd0, hd1, _, _⟩ := HB2.out _ k1
        have K1 := Lib.hid k1
        have hw2 : IntKind.i64.wrap ((place : Int) + 1) = (place : Int) + 1 := IntWalk.i64_in _ (by omega)
        clear k1 hpb hrb
        go_wp2_with fail
        go_region_with (first | (go_at_call 67; refine (HV.out _ ?_).mono ?_; (first | exact K1.out | exact K1.out.drew); rintro e w4 ⟨rfl, ⟨hd2, hd3⟩, K4⟩) | (go_at_call 69; refine (HJ.out _ ?_).mono ?_; (first | exact K4.out | exact K4.out.drew); rintro e w5 ⟨rfl, ⟨hd4, hd5, hf4, hf5⟩, K5⟩))
        all_goals
          have k2 : TFB w g sc B ss.length (putAt ss s v) (q1, q2) ((w5.setCell ⟨w.heap.size + 1, 0, none⟩ (.int .i64 q1)).setCell ⟨w.heap.size + 1, 1, none⟩ (.int .i64 q2)) :=
            ⟨(K5.out.1.setO (by omega) _ _).setO (by omega) _ _, (K5.out.2.1.other (q := ⟨_, _, none⟩) (by simp) _).other (q := ⟨_, _, none⟩) (by simp) _, K5.out.2.2.1.set q1 q2, gb_set (gb_set K5.out.2.2.2 (.inr (by simp)) _) (.inr (by simp)) _⟩
          generalize (w5.setCell ⟨w.heap.size + 1, 0, none⟩ (.int .i64 q1)).setCell ⟨w.heap.size + 1, 1, none⟩ (.int .i64 q2) = w6 at k2 ⊢
          clear hd0 hd1 hd2 hd3 hd4 hd5 hf4 hf5 HV HJ HB2 K1 K4 K5
          obtain ⟨g2, cp2, he2, _, _, hcf2⟩ := k2.1.at (by rw [putAt_length]; omega)
          simp only [Value.slice.injEq, Option.some.injEq, Addr.mk.injEq, and_true, true_and] at he2
          obtain ⟨rfl, _⟩ := he2
          obtain ⟨hc2, hf2⟩ := hcf2 s (by rw [putAt_length]; exact hlt)
          have hv2 : (putAt ss s v)[s]?.getD 0 = y + v := by rw [hps]; simp [hlt]
          rw [hv2] at hc2
          have hxc2 : w6.cell? ⟨bb, off + place, none⟩ = some (.int .i64 v) := by
            obtain ⟨b3, o3, e3, _, hc3⟩ := (ints_grown HI.out hbg k2.2.2.2).at (by omega)
            simp only [Option.some.injEq, Addr.mk.injEq, and_true] at e3
            obtain ⟨rfl, rfl⟩ := e3
            rw [hc3 place hpl, hzv]
          have hw3 : IntKind.i64.wrap (y + v - v) = y := (IntWalk.i64_in _ (by omega)).trans (by omega)
          have K2 := Lib.hid k2
          have HPS := Lib.hid hps
          have HY := Lib.hid hy
          clear k2 hcf2 hps hy hv2 hn10 hp5 hsm hr hq hzv hw1 hw2
          go_wp2_with fail
          go_region
          go_wp2_with fail
          refine ⟨⟨s + 1, by omega, by go_num, ?_⟩, by simp [intOf]; omega⟩
          rw [HF.out]
          have hO := K2.out.1.put (by rw [putAt_length]) s y
          rw [HPS.out, List.set_set, show ss.set s y = ss by rw [← HY.out, List.getElem?_eq_getElem hlt, Option.getD_some, List.set_getElem_self]] at hO
          exact ⟨hO, K2.out.2.1.other (q := ⟨_, _, none⟩) (by simp; omega) _, K2.out.2.2.1.other (q := ⟨_, _, none⟩) (by simp; omega) _, gb_drew (gb_set K2.out.2.2.2 (.inl rfl) _)⟩
      · obtain rfl : s = ss.length := by omega
        have HP0 := Lib.hid hp0
        have d0 := hT.2.2.1.c0
        have d1 := hT.2.2.1.c1
        have e0 := hT.2.1.c0
        have e1 := hT.2.1.c1
        have f0 := hT.2.1.f0 0
        have f1 := hT.2.1.f0 1
        have HT := Lib.hid hT
        clear hT hp0 hpb HF hxc
        go_wp2_with fail
        have kR := HT.out.2.1.set p1 p2
        have kO := (HT.out.1.setO (D := w.heap.size) (by omega) 0 (.int .i64 p1)).setO (D := w.heap.size) (by omega) 1 (.int .i64 p2)
        have kG := gb_set (gb_set HT.out.2.2.2 (p := ⟨w.heap.size, 0, none⟩) (.inr (by simp)) (.int .i64 p1)) (p := ⟨w.heap.size, 1, none⟩) (.inr (by simp)) (.int .i64 p2)
        generalize (wr.setCell ⟨w.heap.size, 0, none⟩ (.int .i64 p1)).setCell ⟨w.heap.size, 1, none⟩ (.int .i64 p2) = wf at kR kO kG ⊢
        clear d0 d1 e0 e1 f0 f1
        have c0 := kR.c0
        have c1 := kR.c1
        (try simp only [Exit.inBlock, Exit.then])
        refine bodyPost_ret (v := .agg #[.int .i64 p1, .int .i64 p2]) (by simp [results, Try.results67, go_sem, c0, c1]) rfl ?_
        exact ⟨by rw [HP0.out]; rfl, kO, kG⟩
end Go.Proofs.Ytacedadenbinmaa
namespace Go.Proofs.Ytacedadenbinmaa

/-- The first of the least sums among the first j. -/
def aiU (ss : List Int) : Nat → Nat
  | 0 => 0
  | j + 1 => if ss[j]?.getD 0 < ss[aiU ss j]?.getD 0 then j else aiU ss j
theorem aiU_lt (ss : List Int) (h : 0 < ss.length) : ∀ j, j ≤ ss.length → aiU ss j < ss.length
  | 0, _ => h
  | j + 1, hj => by
    simp only [aiU]
    split
    · omega
    · exact aiU_lt ss h j (by omega)
theorem aiU_le (ss : List Int) : ∀ j i, i < j → ss[aiU ss j]?.getD 0 ≤ ss[i]?.getD 0
  | 0, i, h => by omega
  | j + 1, i, h => by
    simp only [aiU]
    split
    · rename_i hlt
      rcases Nat.lt_or_ge i j with h1 | h1
      · have := aiU_le ss j i h1; omega
      · obtain rfl : i = j := by omega
        exact Int.le_refl _
    · rename_i hlt
      rcases Nat.lt_or_ge i j with h1 | h1
      · exact aiU_le ss j i h1
      · obtain rfl : i = j := by omega
        omega
def stepL (ss : List Int) (x : Int) : List Int := putAt ss (aiU ss ss.length) x
/-- The sums of the machines by the list rule. -/
def lstS (zs ss : List Int) : List Int := zs.foldl stepL ss
theorem stepL_length (ss : List Int) (x : Int) : (stepL ss x).length = ss.length := putAt_length _ _ _
theorem lstS_length (zs : List Int) : ∀ ss, (lstS zs ss).length = ss.length := by
  induction zs with
  | nil => intro ss; rfl
  | cons x xs ih => intro ss; rw [lstS, List.foldl_cons, ← lstS, ih, stepL_length]

theorem sum_putAt (ss : List Int) : ∀ (k : Nat) (x : Int), k < ss.length → (putAt ss k x).sum = ss.sum + x := by
  induction ss with
  | nil => intro k x h; simp at h
  | cons y ys ih =>
    intro k x h
    cases k with
    | zero => simp [putAt]; omega
    | succ k =>
      have := ih k x (by simpa using h)
      simp only [putAt, List.getElem?_cons_succ, List.set_cons_succ, List.sum_cons] at this ⊢
      omega
/-- A number that is no more than each of them is no more than their share. -/
theorem mul_le_sum (ss : List Int) (c : Int) (h : ∀ i, i < ss.length → c ≤ ss[i]?.getD 0) : ss.length * c ≤ ss.sum := by
  induction ss with
  | nil => simp
  | cons y ys ih =>
    have h0 := h 0 (by simp)
    simp at h0
    have := ih fun i hi => by have := h (i + 1) (by simpa using hi); simpa using this
    simp only [List.length_cons, List.sum_cons]
    have e : ((ys.length + 1 : Nat) : Int) * c = ys.length * c + c := by rw [Int.natCast_add, Int.add_mul]; simp
    omega
theorem sum_le_mul (ss : List Int) (c : Int) (h : ∀ x ∈ ss, x ≤ c) : ss.sum ≤ ss.length * c := by
  induction ss with
  | nil => simp
  | cons y ys ih =>
    have := h y (by simp)
    have := ih fun x hx => h x (by simp [hx])
    simp only [List.length_cons, List.sum_cons]
    have e : ((ys.length + 1 : Nat) : Int) * c = ys.length * c + c := by rw [Int.natCast_add, Int.add_mul]; simp
    omega

/-- THE LIST RULE's BOUND, sum by sum. -/
theorem lstS_bd (X : Int) : ∀ (zs ss : List Int), (∀ x ∈ zs, 0 ≤ x ∧ x ≤ X) → 0 < ss.length → (∀ i, i < ss.length → ss.length * (ss[i]?.getD 0) ≤ ss.sum + (ss.length - 1) * X) →
    ∀ i, i < ss.length → ss.length * ((lstS zs ss)[i]?.getD 0) ≤ ss.sum + zs.sum + (ss.length - 1) * X
  | [], ss, _, _, h => fun i hi => by have := h i hi; simp only [lstS, List.foldl_nil, List.sum_nil]; omega
  | x :: xs, ss, hz, h0, h => by
    have hx := hz x (by simp)
    have ha := aiU_lt ss h0 ss.length (Nat.le_refl _)
    have hs := sum_putAt ss (aiU ss ss.length) x ha
    have hm := mul_le_sum ss _ fun i hi => aiU_le ss ss.length i hi
    have key := lstS_bd X xs (stepL ss x) (fun y hy => hz y (by simp [hy])) (by rw [stepL_length]; exact h0) fun i hi => by
      rw [stepL_length] at hi ⊢
      rw [stepL, hs]
      by_cases e : i = aiU ss ss.length
      · subst e
        have ev : (putAt ss (aiU ss ss.length) x)[aiU ss ss.length]?.getD 0 = ss[aiU ss ss.length]?.getD 0 + x := by simp [putAt, ha]
        rw [ev, Int.mul_add]
        have h1 : (ss.length : Int) * x = x + (ss.length - 1) * x := by rw [Int.sub_mul]; omega
        have h2 : ((ss.length : Int) - 1) * x ≤ (ss.length - 1) * X := Int.mul_le_mul_of_nonneg_left hx.2 (by omega)
        omega
      · have ev : (putAt ss (aiU ss ss.length) x)[i]?.getD 0 = ss[i]?.getD 0 := by simp [putAt, List.getElem?_set_ne (Ne.symm e)]
        rw [ev]
        have := h i hi
        omega
    intro i hi
    have := key i (by rw [stepL_length]; exact hi)
    rw [stepL_length] at this
    rw [stepL, hs] at this
    rw [lstS, List.foldl_cons, ← lstS, List.sum_cons]
    simp only [stepL] at this ⊢
    omega
end Go.Proofs.Ytacedadenbinmaa
namespace Go.Proofs.Ytacedadenbinmaa
open Go.RowKit

def toldL (zs : List Int) (m : Int) : Bool := inL zs && (decide (1 ≤ m) && decide (m ≤ 5))
theorem toldL_iff (zs : List Int) (m : Int) : toldL zs m = true ↔ (zs.length ≤ 10 ∧ good zs) ∧ 1 ≤ m ∧ m ≤ 5 := by
  simp [toldL, inL_iff]

theorem loadsTold_any (a : Option Addr) (cap : Nat) (zs : List Int) (m : Int) (w : World) (hl : zs.length ≤ 2000000) (hI : IntsAt w a zs) :
    Calls Try.prog 39 #[.slice a zs.length cap, .int .i64 m] w fun e w' => e = .returned (.bool (toldL zs m)) ∧ w = w' := by
  obtain ⟨iz, hiz⟩ : ∃ iz, inL zs = iz := ⟨_, rfl⟩
  rw [toldL, hiz]
  have HZ := Lib.hid hiz
  clear hiz
  go_enter Try.func39, Try.ntmps39
  cases iz with
  | false =>
    go_wp2_with (go_at_call 54; refine (SumIn_any a cap zs _ (by omega) hI).mono ?_; rw [HZ.out]; rintro e w' ⟨rfl, rfl⟩)
    all_goals
      go_ret
      exact ⟨ret_bool (by simp), rfl⟩
  | true =>
    by_cases h1 : 1 ≤ m
    · by_cases h2 : m ≤ 5
      · go_wp2_with (go_at_call 54; refine (SumIn_any a cap zs _ (by omega) hI).mono ?_; rw [HZ.out]; rintro e w' ⟨rfl, rfl⟩)
        all_goals
          go_ret
          exact ⟨ret_bool (by simp [h1, h2]), rfl⟩
      · go_wp2_with (go_at_call 54; refine (SumIn_any a cap zs _ (by omega) hI).mono ?_; rw [HZ.out]; rintro e w' ⟨rfl, rfl⟩)
        all_goals
          go_ret
          exact ⟨ret_bool (by simp [h1, h2]), rfl⟩
    · go_wp2_with (go_at_call 54; refine (SumIn_any a cap zs _ (by omega) hI).mono ?_; rw [HZ.out]; rintro e w' ⟨rfl, rfl⟩)
      all_goals
        go_ret
        exact ⟨ret_bool (by simp; omega), rfl⟩

theorem l5Given_any (a : Option Addr) (cap : Nat) (zs : List Int) (m : Int) (w : World) (hl : zs.length ≤ 2000000) (hI : IntsAt w a zs) :
    Calls Try.prog 37 #[.slice a zs.length cap, .int .i64 m] w fun e w' => e = .returned (.bool (toldL zs m)) ∧ w = w' := by
  obtain ⟨iz, hiz⟩ : ∃ iz, inL zs = iz := ⟨_, rfl⟩
  rw [toldL, hiz]
  have HZ := Lib.hid hiz
  clear hiz
  go_enter Try.func37, Try.ntmps37
  cases iz with
  | false =>
    go_wp2_with (first | (go_at_call 61; refine (sSumIn_any a cap zs _ (by omega) hI).mono ?_; rw [HZ.out]; rintro e w' ⟨rfl, rfl⟩))
    all_goals
      go_ret
      exact ⟨ret_bool (by simp), rfl⟩
  | true =>
    go_wp2_with (first | (go_at_call 61; refine (sSumIn_any a cap zs _ (by omega) hI).mono ?_; rw [HZ.out]; rintro e w' ⟨rfl, rfl⟩) | (go_at_call 46; refine (l6In_any m 1 5 _).mono ?_; rintro e w' ⟨rfl, rfl⟩))
    all_goals
      go_ret
      exact ⟨ret_bool (by simp), rfl⟩
end Go.Proofs.Ytacedadenbinmaa
