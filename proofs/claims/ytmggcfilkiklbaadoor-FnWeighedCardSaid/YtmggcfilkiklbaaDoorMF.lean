/- The first weighing in order, in plain words. Conditions: none. -/
import Derived.Test.YtmggcfilkiklbaaDoorM22
import Derived.Test.YtmggcfilkiklbaaDoorM21
namespace Go.Proofs.YtmggcfilkiklbaaDoor
/-- the first list of signs with a sum of m -/
def fw : List Int → Int → Option (List Int)
  | [], m => if m = 0 then some [] else none
  | x :: xs, m =>
    match fw xs (m + x) with
    | some r => some (-1 :: r)
    | none =>
      match fw xs m with
      | some r => some (0 :: r)
      | none => (fw xs (m - x)).map (1 :: ·)
/-- no sign below s has been found to do -/
def NoneW (xs : List Int) (x m s : Int) : Prop := ∀ r, -1 ≤ r → r < s → fw xs (m - r * x) = none
theorem noneW_start (xs : List Int) (x m : Int) : NoneW xs x m (-1) := fun r h1 h2 => by omega
theorem NoneW.next {xs : List Int} {x m s : Int} (h : NoneW xs x m s) (hs : fw xs (m - s * x) = none) : NoneW xs x m (s + 1) := fun r h1 h2 => by
  by_cases e : r = s
  · subst e; exact hs
  · exact h r h1 (by omega)
theorem noneW_end {xs : List Int} {x m : Int} (h : NoneW xs x m 2) : fw (x :: xs) m = none := by
  have h1 := h (-1) (by omega) (by omega)
  have h2 := h 0 (by omega) (by omega)
  have h3 := h 1 (by omega) (by omega)
  rw [show m - -1 * x = m + x by omega] at h1
  rw [show m - 0 * x = m by omega] at h2
  rw [show m - 1 * x = m - x by omega] at h3
  rw [fw, h1, h2, h3]; rfl
theorem noneW_hit {xs : List Int} {x m s : Int} {r : List Int} (hs : -1 ≤ s ∧ s ≤ 1) (hn : NoneW xs x m s) (h : fw xs (m - s * x) = some r) : fw (x :: xs) m = some (s :: r) := by
  have hc : s = -1 ∨ s = 0 ∨ s = 1 := by omega
  rcases hc with rfl | rfl | rfl
  · rw [show m - -1 * x = m + x by omega] at h; rw [fw, h]
  · have h1 := hn (-1) (by omega) (by omega)
    rw [show m - -1 * x = m + x by omega] at h1
    rw [show m - 0 * x = m by omega] at h; rw [fw, h1, h]
  · have h1 := hn (-1) (by omega) (by omega)
    have h2 := hn 0 (by omega) (by omega)
    rw [show m - -1 * x = m + x by omega] at h1
    rw [show m - 0 * x = m by omega] at h2
    rw [show m - 1 * x = m - x by omega] at h; rw [fw, h1, h2, h]; rfl
/-- the sum of numbers with signs -/
def ssum : List Int → List Int → Int
  | x :: xs, s :: ss => s * x + ssum xs ss
  | _, _ => 0
theorem fw_is {zs : List Int} : ∀ {m : Int} {W : List Int}, fw zs m = some W → W.length = zs.length ∧ (∀ s ∈ W, -1 ≤ s ∧ s ≤ 1) ∧ ssum zs W = m := by
  induction zs with
  | nil =>
    intro m W h
    rw [fw] at h
    split at h
    · rename_i hm
      simp only [Option.some.injEq] at h
      subst h; subst hm
      exact ⟨rfl, (fun s hs => by simp at hs), rfl⟩
    · cases h
  | cons x xs ih =>
    intro m W h
    have key : ∀ (s : Int) (r : List Int), -1 ≤ s → s ≤ 1 → fw xs (m - s * x) = some r → W = s :: r → W.length = (x :: xs).length ∧ (∀ s ∈ W, -1 ≤ s ∧ s ≤ 1) ∧ ssum (x :: xs) W = m := by
      intro s r h1 h2 h3 h4
      obtain ⟨k1, k2, k3⟩ := ih h3
      subst h4
      refine ⟨by simp [k1], fun t ht => ?_, by rw [ssum, k3]; omega⟩
      rcases List.mem_cons.1 ht with rfl | ht
      · exact ⟨h1, h2⟩
      · exact k2 t ht
    rw [fw] at h
    split at h
    · rename_i r hr
      simp only [Option.some.injEq] at h
      exact key (-1) r (by omega) (by omega) (by rw [show m - -1 * x = m + x by omega]; exact hr) h.symm
    · split at h
      · rename_i r hr
        simp only [Option.some.injEq] at h
        exact key 0 r (by omega) (by omega) (by rw [show m - 0 * x = m by omega]; exact hr) h.symm
      · cases hr : fw xs (m - x) with
        | none => rw [hr] at h; cases h
        | some r =>
          rw [hr] at h
          simp only [Option.map_some, Option.some.injEq] at h
          exact key 1 r (by omega) (by omega) (by rw [show m - 1 * x = m - x by omega]; exact hr) h.symm
theorem ssum_bd {zs : List Int} (hg : good zs) : ∀ (W : List Int), (∀ s ∈ W, -1 ≤ s ∧ s ≤ 1) → -tot zs ≤ ssum zs W ∧ ssum zs W ≤ tot zs := by
  induction zs with
  | nil => intro W _; cases W <;> simp [ssum, tot]
  | cons x xs ih =>
    intro W hW
    have hx := hg x (List.mem_cons_self ..)
    have hgx : good xs := fun y hy => hg y (List.mem_cons_of_mem _ hy)
    have ht := tot_bd hgx
    cases W with
    | nil => simp [ssum, tot]; omega
    | cons s ss =>
      have h1 := ih hgx ss (fun t ht => hW t (List.mem_cons_of_mem _ ht))
      have h2 := hW s (List.mem_cons_self ..)
      have hc : s = -1 ∨ s = 0 ∨ s = 1 := by omega
      rw [ssum, tot]
      rcases hc with rfl | rfl | rfl <;> omega
/-- a number that is too great isn't weighed -/
theorem fw_far {zs : List Int} (hg : good zs) {m : Int} (h : tot zs < m ∨ m < -tot zs) : fw zs m = none := by
  cases hW : fw zs m with
  | none => rfl
  | some W =>
    obtain ⟨h1, h2, h3⟩ := fw_is hW
    have := ssum_bd hg W h2
    omega
/-- the answer of PanWeighed: the list, and whether it is told -/
def wgO (zs : List Int) (v : Int) : Option (List Int) := if inL zs = true ∧ 0 ≤ v ∧ v ≤ tot zs then fw zs v else none
def wgL (o : Option (List Int)) : List Int := o.getD []
/-- what is weighed has a count -/
theorem fw_tsum {zs : List Int} : ∀ {W : List Int}, W.length = zs.length → (∀ s ∈ W, -1 ≤ s ∧ s ≤ 1) → ∃ c, c < 3 ^ zs.length ∧ tsum zs c = ssum zs W := by
  induction zs with
  | nil => intro W h _; exact ⟨0, by simp, by cases W <;> rfl⟩
  | cons x xs ih =>
    intro W h hW
    cases W with
    | nil => simp at h
    | cons s ss =>
      obtain ⟨c, hc, e⟩ := ih (W := ss) (by simpa using h) (fun t ht => hW t (List.mem_cons_of_mem _ ht))
      have h2 := hW s (List.mem_cons_self ..)
      have hc3 : s = -1 ∨ s = 0 ∨ s = 1 := by omega
      rw [List.length_cons, Nat.pow_succ]
      rcases hc3 with rfl | rfl | rfl
      · have hd := dig_cases (3 * c) x
        exact ⟨3 * c, by omega, by rw [tsum, show 3 * c / 3 = c by omega, e, ssum]; omega⟩
      · have hd := dig_cases (3 * c + 1) x
        exact ⟨3 * c + 1, by omega, by rw [tsum, show (3 * c + 1) / 3 = c by omega, e, ssum]; omega⟩
      · have hd := dig_cases (3 * c + 2) x
        exact ⟨3 * c + 2, by omega, by rw [tsum, show (3 * c + 2) / 3 = c by omega, e, ssum]; omega⟩
theorem fw_pos {zs W : List Int} {v : Int} (h : fw zs v = some W) : 0 < wN zs v := by
  obtain ⟨h1, h2, h3⟩ := fw_is h
  obtain ⟨c, hc, e⟩ := fw_tsum h1 h2
  unfold wN
  exact cntN_pos c hc (by rw [decide_eq_true_eq, e, h3])
/-- the weights on the left, and those on the right -/
def sideL : List Int → List Int → List Int
  | x :: xs, s :: ss => if s < 0 then x :: sideL xs ss else sideL xs ss
  | _, _ => []
def sideR : List Int → List Int → List Int
  | x :: xs, s :: ss => if 0 < s then x :: sideR xs ss else sideR xs ss
  | _, _ => []
theorem side_sum : ∀ (zs W : List Int), (∀ s ∈ W, -1 ≤ s ∧ s ≤ 1) → tot (sideR zs W) - tot (sideL zs W) = ssum zs W
  | [], W, _ => by cases W <;> rfl
  | x :: xs, [], _ => rfl
  | x :: xs, s :: ss, h => by
    have ih := side_sum xs ss (fun t ht => h t (List.mem_cons_of_mem _ ht))
    have h2 := h s (List.mem_cons_self ..)
    have hc3 : s = -1 ∨ s = 0 ∨ s = 1 := by omega
    rw [sideR, sideL, ssum]
    rcases hc3 with rfl | rfl | rfl
    · rw [if_neg (by omega), if_pos (by omega), tot]; omega
    · rw [if_neg (by omega), if_neg (by omega)]; omega
    · rw [if_pos (by omega), if_neg (by omega), tot]; omega
theorem sideL_take : ∀ (zs W : List Int) (k : Nat), k < zs.length → k < W.length → sideL (zs.take (k + 1)) (W.take (k + 1)) = sideL (zs.take k) (W.take k) ++ (if W[k]?.getD 0 < 0 then [zs[k]?.getD 0] else [])
  | [], W, k, h, _ => by simp at h
  | x :: xs, [], k, _, h => by simp at h
  | x :: xs, s :: ss, 0, _, _ => by simp [sideL]
  | x :: xs, s :: ss, k + 1, h1, h2 => by
    have ih := sideL_take xs ss k (by simpa using h1) (by simpa using h2)
    simp only [List.take_succ_cons, sideL, List.getElem?_cons_succ] at ih ⊢
    rw [ih]
    split <;> simp
theorem sideR_take : ∀ (zs W : List Int) (k : Nat), k < zs.length → k < W.length → sideR (zs.take (k + 1)) (W.take (k + 1)) = sideR (zs.take k) (W.take k) ++ (if 0 < W[k]?.getD 0 then [zs[k]?.getD 0] else [])
  | [], W, k, h, _ => by simp at h
  | x :: xs, [], k, _, h => by simp at h
  | x :: xs, s :: ss, 0, _, _ => by simp [sideR]
  | x :: xs, s :: ss, k + 1, h1, h2 => by
    have ih := sideR_take xs ss k (by simpa using h1) (by simpa using h2)
    simp only [List.take_succ_cons, sideR, List.getElem?_cons_succ] at ih ⊢
    rw [ih]
    split <;> simp
theorem side_length : ∀ (zs W : List Int), (sideL zs W).length ≤ zs.length ∧ (sideR zs W).length ≤ zs.length
  | [], W => by cases W <;> simp [sideL, sideR]
  | x :: xs, [] => by simp [sideL, sideR]
  | x :: xs, s :: ss => by
    have ih := side_length xs ss
    rw [sideL, sideR]
    constructor <;> split <;> simp <;> omega
theorem side_mem : ∀ (zs W : List Int) (x : Int), x ∈ sideL zs W ∨ x ∈ sideR zs W → x ∈ zs
  | [], W, x, h => by cases W <;> simp [sideL, sideR] at h
  | y :: ys, [], x, h => by simp [sideL, sideR] at h
  | y :: ys, s :: ss, x, h => by
    have ih := side_mem ys ss x
    rw [sideL, sideR] at h
    rcases h with h | h
    · split at h
      · rcases List.mem_cons.1 h with rfl | h
        · exact List.mem_cons_self ..
        · exact List.mem_cons_of_mem _ (ih (.inl h))
      · exact List.mem_cons_of_mem _ (ih (.inl h))
    · split at h
      · rcases List.mem_cons.1 h with rfl | h
        · exact List.mem_cons_self ..
        · exact List.mem_cons_of_mem _ (ih (.inr h))
      · exact List.mem_cons_of_mem _ (ih (.inr h))
/-- the sum of squares -/
def sq2 : List Int → Int
  | [] => 0
  | s :: ss => s * s + sq2 ss
theorem side_count : ∀ (zs W : List Int), zs.length = W.length → (∀ s ∈ W, -1 ≤ s ∧ s ≤ 1) → good zs → ((sideL zs W).length : Int) + (sideR zs W).length = sq2 W ∧ tot (sideL zs W) + tot (sideR zs W) ≤ tot zs
  | [], [], _, _, _ => by simp [sideL, sideR, sq2, tot]
  | [], _ :: _, h, _, _ => by simp at h
  | _ :: _, [], h, _, _ => by simp at h
  | x :: xs, s :: ss, h, hW, hg => by
    have ih := side_count xs ss (by simpa using h) (fun t ht => hW t (List.mem_cons_of_mem _ ht)) (fun t ht => hg t (List.mem_cons_of_mem _ ht))
    have hx := hg x (List.mem_cons_self ..)
    have h2 := hW s (List.mem_cons_self ..)
    have hc3 : s = -1 ∨ s = 0 ∨ s = 1 := by omega
    rw [sideR, sideL, sq2, tot]
    rcases hc3 with rfl | rfl | rfl
    · rw [if_pos (by omega), if_neg (by omega), tot, List.length_cons]; omega
    · rw [if_neg (by omega), if_neg (by omega)]; omega
    · rw [if_neg (by omega), if_pos (by omega), tot, List.length_cons]; omega
end Go.Proofs.YtmggcfilkiklbaaDoor
