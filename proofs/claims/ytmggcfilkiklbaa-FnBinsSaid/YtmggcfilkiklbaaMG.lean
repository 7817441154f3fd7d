/- The greedy rest and the rest of differences, in plain words. Conditions: stated in each. -/
import Derived.Test.YtmggcfilkiklbaaMW
namespace Go.Proofs.Ytmggcfilkiklbaa
/-- the greedy rule's two sums -/
def gl : List Int → Int → Int → Int × Int
  | [], f, s => (f, s)
  | x :: xs, f, s => if f ≤ s then gl xs (f + x) s else gl xs f (s + x)
def greedy (L : List Int) : Int := sz ((gl L 0 0).1 - (gl L 0 0).2)
theorem gl_sub (L : List Int) : ∀ f s, ∃ p, SubS L p ∧ (gl L f s).1 = f + p ∧ (gl L f s).2 = s + (tot L - p) := by
  induction L with
  | nil => intro f s; exact ⟨0, .nil, by simp [gl], by simp [gl, tot]⟩
  | cons x xs ih =>
    intro f s
    rw [gl]
    split
    · obtain ⟨p, h1, h2, h3⟩ := ih (f + x) s
      exact ⟨x + p, .take h1, by rw [h2]; omega, by rw [h3, tot]; omega⟩
    · obtain ⟨p, h1, h2, h3⟩ := ih f (s + x)
      exact ⟨p, .skip h1, h2, by rw [h3, tot]; omega⟩
theorem gl_bd (L : List Int) (M : Int) (hM : ∀ x ∈ L, 0 ≤ x ∧ x ≤ M) : ∀ f s, -M ≤ f - s ∧ f - s ≤ M → -M ≤ (gl L f s).1 - (gl L f s).2 ∧ (gl L f s).1 - (gl L f s).2 ≤ M := by
  induction L with
  | nil => intro f s h; exact h
  | cons x xs ih =>
    intro f s h
    have hx := hM x (List.mem_cons_self ..)
    have ih' := ih (fun y hy => hM y (List.mem_cons_of_mem _ hy))
    rw [gl]
    split
    · exact ih' _ _ (by omega)
    · exact ih' _ _ (by omega)
/-- what the laws say of a rest that signs have -/
theorem rest_law {zs : List Int} (hg : good zs) {p d : Int} (hp : SubS zs p) (hd : d = sz (tot zs - 2 * p)) : lr zs ≤ d ∧ (tot zs - d) % 2 = 0 ∧ 0 ≤ d ∧ d ≤ tot zs := by
  obtain ⟨c, hc, rfl⟩ := subS_is hp
  have h1 := (lr_least hg).2 c hc
  have h2 := restOf_bd hg c
  rw [restOf] at h1 h2
  rw [← hd] at h1 h2
  refine ⟨h1, ?_, h2.1, h2.2⟩
  rw [hd, sz]; omega
theorem greedy_law {zs L : List Int} (hg : good zs) (h : L.Perm zs) : lr zs ≤ greedy L ∧ (tot zs - greedy L) % 2 = 0 ∧ 0 ≤ greedy L ∧ greedy L ≤ tot zs ∧ greedy L ≤ gre zs := by
  obtain ⟨p, h1, h2, h3⟩ := gl_sub L 0 0
  have ht := perm_tot h
  have hl := rest_law hg (subS_perm h h1) (d := greedy L) (by rw [greedy, h2, h3, ht, sz, sz]; omega)
  have hb := gl_bd L (gre zs) (fun x hx => ⟨by have := hg x (h.subset hx); omega, gre_ge (h.subset hx)⟩) 0 0 (by have := gre_nn zs; omega)
  refine ⟨hl.1, hl.2.1, hl.2.2.1, hl.2.2.2, ?_⟩
  rw [greedy, sz]; omega
/-- v is a sum of all numbers with signs -/
inductive Sg : List Int → Int → Prop
  | nil : Sg [] 0
  | pos {x : Int} {xs : List Int} {v : Int} : Sg xs v → Sg (x :: xs) (x + v)
  | neg {x : Int} {xs : List Int} {v : Int} : Sg xs v → Sg (x :: xs) (v - x)
theorem sg_sub {L : List Int} {v : Int} (h : Sg L v) : ∃ p, SubS L p ∧ v = tot L - 2 * p := by
  induction h with
  | nil => exact ⟨0, .nil, rfl⟩
  | pos _ ih => obtain ⟨p, hp, rfl⟩ := ih; exact ⟨p, .skip hp, by rw [tot]; omega⟩
  | @neg x xs v _ ih => obtain ⟨p, hp, rfl⟩ := ih; exact ⟨x + p, .take hp, by rw [tot]; omega⟩
theorem sg_perm {L M : List Int} (h : L.Perm M) : ∀ {v}, Sg L v → Sg M v := by
  induction h with
  | nil => intro v h; exact h
  | cons x _ ih =>
    intro v h
    cases h with
    | pos h => exact .pos (ih h)
    | neg h => exact .neg (ih h)
  | swap x y l =>
    intro v h
    cases h with
    | pos h =>
      cases h with
      | @pos _ _ u h => rw [show y + (x + u) = x + (y + u) by omega]; exact .pos (.pos h)
      | @neg _ _ u h => rw [show y + (u - x) = y + u - x by omega]; exact .neg (.pos h)
    | neg h =>
      cases h with
      | @pos _ _ u h => rw [show x + u - y = x + (u - y) by omega]; exact .pos (.neg h)
      | @neg _ _ u h => rw [show u - x - y = u - y - x by omega]; exact .neg (.neg h)
  | trans _ _ ih1 ih2 => intro v h; exact ih2 (ih1 h)
theorem sg_step {x y : Int} {r M : List Int} (h : M.Perm ((x - y) :: r)) {v : Int} (hv : Sg M v) : Sg (x :: y :: r) v := by
  have h1 := sg_perm h hv
  cases h1 with
  | @pos _ _ u h => rw [show x - y + u = x + (u - y) by omega]; exact .pos (.neg h)
  | @neg _ _ u h => rw [show u - (x - y) = y + u - x by omega]; exact .neg (.pos h)
/-- numbers in falling order -/
def insD (x : Int) : List Int → List Int
  | [] => [x]
  | y :: ys => if y ≤ x then x :: y :: ys else y :: insD x ys
def sortD : List Int → List Int
  | [] => []
  | x :: xs => insD x (sortD xs)
theorem insD_perm (x : Int) (L : List Int) : (insD x L).Perm (x :: L) := by
  induction L with
  | nil => exact .refl _
  | cons y ys ih =>
    rw [insD]
    split
    · exact .refl _
    · exact (List.Perm.cons y ih).trans (.swap x y ys)
theorem sortD_perm (L : List Int) : (sortD L).Perm L := by
  induction L with
  | nil => exact .refl _
  | cons x xs ih => exact (insD_perm x _).trans (.cons x ih)
theorem insD_pair (x : Int) (L : List Int) (h : L.Pairwise (fun a b => b ≤ a)) : (insD x L).Pairwise (fun a b => b ≤ a) := by
  induction L with
  | nil => simp [insD]
  | cons y ys ih =>
    have h1 := List.pairwise_cons.1 h
    rw [insD]
    split
    · rename_i hle
      refine List.pairwise_cons.2 ⟨fun z hz => ?_, h⟩
      rcases List.mem_cons.1 hz with rfl | hz
      · exact hle
      · have := h1.1 z hz; omega
    · rename_i hlt
      refine List.pairwise_cons.2 ⟨fun z hz => ?_, ih h1.2⟩
      have := (insD_perm x ys).subset hz
      rcases List.mem_cons.1 this with rfl | hz
      · omega
      · exact h1.1 z hz
theorem sortD_pair (L : List Int) : (sortD L).Pairwise (fun a b => b ≤ a) := by
  induction L with
  | nil => exact .nil
  | cons x xs ih => exact insD_pair x _ ih
theorem sortD_is {L M : List Int} (h : M.Pairwise (fun a b => b ≤ a)) (hp : M.Perm L) : M = sortD L :=
  perm_eq (fun a b h1 h2 => by omega) h (sortD_pair L) (hp.trans (sortD_perm L).symm)
theorem sortD_congr {L M : List Int} (h : L.Perm M) : sortD L = sortD M := sortD_is (sortD_pair L) ((sortD_perm L).trans h)
theorem sortD_length (L : List Int) : (sortD L).length = L.length := (sortD_perm L).length_eq
/-- the rest of differences of a falling list -/
def diffs : Nat → List Int → Int
  | 0, _ => 0
  | _ + 1, [] => 0
  | _ + 1, [x] => x
  | n + 1, x :: y :: r => diffs n (sortD ((x - y) :: r))
theorem diffs_law : ∀ (n : Nat) (L : List Int) (M : Int), L.length ≤ n → L.Pairwise (fun a b => b ≤ a) → 0 ≤ M → (∀ x ∈ L, 0 ≤ x ∧ x ≤ M) → Sg L (diffs n L) ∧ 0 ≤ diffs n L ∧ diffs n L ≤ M
  | 0, L, M, h, _, hM, _ => by
    have : L = [] := List.eq_nil_of_length_eq_zero (by omega)
    subst this
    exact ⟨.nil, by simp [diffs], by simpa [diffs] using hM⟩
  | n + 1, [], M, _, _, hM, _ => ⟨.nil, by simp [diffs], by simpa [diffs] using hM⟩
  | n + 1, [x], M, _, _, _, hx => by
    have h1 := hx x (List.mem_cons_self ..)
    refine ⟨?_, by simpa [diffs] using h1.1, by simpa [diffs] using h1.2⟩
    have h2 : Sg [x] (x + 0) := .pos .nil
    simpa [diffs] using h2
  | n + 1, x :: y :: r, M, hl, hs, hM, hx => by
    have h1 := hx x (List.mem_cons_self ..)
    have h2 := hx y (List.mem_cons_of_mem _ (List.mem_cons_self ..))
    have h3 := (List.pairwise_cons.1 hs).1 y (List.mem_cons_self ..)
    have hp := sortD_perm ((x - y) :: r)
    have ih := diffs_law n (sortD ((x - y) :: r)) M (by rw [sortD_length]; simp at hl ⊢; omega) (sortD_pair _) hM (fun z hz => by
      have := hp.subset hz
      rcases List.mem_cons.1 this with rfl | hz
      · omega
      · exact hx z (List.mem_cons_of_mem _ (List.mem_cons_of_mem _ hz)))
    rw [diffs]
    exact ⟨sg_step hp ih.1, ih.2.1, ih.2.2⟩
/-- the answer of HalfDifferences -/
def dfR (zs : List Int) : Int := diffs zs.length (sortD zs)
theorem diffs_more {n : Nat} {L : List Int} (h : L.length ≤ n) : diffs (n + 1) L = diffs n L := by
  induction n generalizing L with
  | zero =>
    have : L = [] := List.eq_nil_of_length_eq_zero (by omega)
    subst this; rfl
  | succ n ih =>
    match L with
    | [] => rfl
    | [x] => rfl
    | x :: y :: r =>
      rw [diffs, diffs]
      exact ih (by rw [sortD_length]; simp at h ⊢; omega)
theorem dfR_law {zs : List Int} (hg : good zs) : lr zs ≤ dfR zs ∧ (tot zs - dfR zs) % 2 = 0 ∧ 0 ≤ dfR zs ∧ dfR zs ≤ tot zs ∧ dfR zs ≤ gre zs := by
  have hp := sortD_perm zs
  have h := diffs_law zs.length (sortD zs) (gre zs) (by rw [sortD_length]; exact Nat.le_refl _) (sortD_pair zs) (gre_nn zs) (fun x hx => ⟨by have := hg x (hp.subset hx); omega, gre_ge (hp.subset hx)⟩)
  obtain ⟨p, hps, e⟩ := sg_sub (sg_perm hp h.1)
  have hl := rest_law hg hps (d := dfR zs) (by rw [dfR, sz]; have := h.2.1; omega)
  exact ⟨hl.1, hl.2.1, hl.2.2.1, hl.2.2.2, h.2.2⟩
end Go.Proofs.Ytmggcfilkiklbaa
