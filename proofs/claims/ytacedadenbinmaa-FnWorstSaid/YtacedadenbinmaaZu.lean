/- slices.Clone of ints. Conditions: the list has at most 1000000 numbers. The greatest answer over all orders of a list; the least span does not hang on the order. Conditions: stated in each. Two numbers of a list exchanged. Conditions: stated in each. LoadWorst of the program: the closure that arranges, at an order that is whole. Conditions: stated in each. The second exchange of the closure of LoadWorst, as a piece of code of its own. Conditions: the cells are there. LoadWorst of the program: the closure that arranges. Conditions: stated in each. LoadWorst of the program. Conditions: the list is short enough to be counted. -/
import Derived.Test.YtacedadenbinmaaZa
import Derived.Test.YtacedadenbinmaaZn
import Derived.Test.YtacedadenbinmaaZo
import Derived.RangeFuncNested
import Derived.Shelf.RegionOpen
import Derived.Laws.EntriesVeiled
set_option linter.unusedVariables false
set_option linter.unusedSimpArgs false
set_option linter.unusedSectionVars false
namespace Go.Proofs.Ytacedadenbinmaa
open Go.RowKit

def ClonePost (w : World) (zs : List Int) (e : Ending) (w' : World) : Prop := ∃ v, e = .returned v ∧ OwnI w' w.heap.size v zs ∧ Below w.heap.size w w'

set_option maxHeartbeats 800000 in
theorem Clone_any (ad : Addr) (cap : Nat) (zs : List Int) (w : World) (hl : zs.length ≤ 1000000) (hI : IntsAt w (some ad) zs) :
    Calls Try.prog 51 #[.slice (some ad) zs.length cap] w (ClonePost w zs) := by
  have HO : OwnI (w.alloc (.cells #[] 3)) w.heap.size (.slice (some ⟨w.heap.size, 0, none⟩) 0 0) [] := World.ownsRow_lit w #[] 0 (Nat.le_refl _) (by unfold maxLen; omega) (by simp)
  have hB0 : Below w.heap.size w (w.alloc (.cells #[] 3)) := (Below.refl _ _).alloc (Nat.le_refl _) _
  have hnews : ∀ j u, (zs.map (fun x => Value.int .i64 x))[j]? = some u → (w.alloc (.cells #[] 3)).cell? (ad.add j) = some u := by
    intro j u hu
    rw [List.getElem?_map] at hu
    rcases Nat.lt_or_ge j zs.length with h | h
    · obtain ⟨b, off, he, _, hc⟩ := (hI.below hB0).at (by omega)
      simp only [Option.some.injEq] at he
      subst he
      have this : (w.alloc (.cells #[] 3)).cell? (Addr.add ⟨b, off, none⟩ j) = some (.int .i64 (zs[j]?.getD 0)) := by
        rcases Nat.eq_zero_or_pos j with e | e
        · subst e; simpa [Addr.add] using hc 0 h
        · have e0 : j ≠ 0 := by omega
          simpa [Addr.add, e0] using hc j h
      simp only [List.getElem?_eq_getElem h, Option.map_some, Option.some.injEq, Option.getD_some] at hu this
      rw [← hu]
      exact this
    · rw [List.getElem?_eq_none h] at hu; cases hu
  have he : ∀ w : World, (binOp .eql 22 (.slice (some ad) zs.length cap) (.slice none 0 0)).run Try.prog w = .ok (.bool false) w := fun _ => rfl
  go_enter Try.func51, Try.ntmps51
  obtain ⟨i0, hi, hz0, hz1, hz2⟩ := info_parts Try.infoInt
  go_wp2_with (at_builtin; refine wpList_append_own _ rfl _ _ 22 rfl w.heap.size 3 i0 (.int .i64 0) 1 8 Try.underlying22 hi hz0 hz1 hz2 rfl (by decide) (.slice (some ⟨w.heap.size, 0, none⟩) 0 0) 0 [] rfl HO ad zs.length cap (zs.map (fun x => Value.int .i64 x)) rfl (by simp) hnews ?_ (by unfold maxLen; omega) (by omega) (by simp) ?_; (intro u hu; obtain ⟨x, _, rfl⟩ := List.mem_map.1 hu; rfl); intro v' w' h1 h2 _)
  go_ret
  refine ⟨v', rfl, ?_, hB0.grown h2 (by simp) (fun k hk => by simp [Value.ownBlock] at hk; omega)⟩
  unfold OwnI
  simpa using h1

theorem Clone_none (cap : Nat) (w : World) :
    Calls Try.prog 51 #[.slice none 0 cap] w (ClonePost w []) := by
  have he : ∀ w : World, (binOp .eql 22 (.slice none 0 cap) (.slice none 0 0)).run Try.prog w = .ok (.bool true) w := fun _ => rfl
  go_enter Try.func51, Try.ntmps51
  go_wp2
  go_ret
  exact ⟨_, rfl, World.ownsRow_nil w _ _ _, Below.refl _ _⟩
theorem Clone_all (a : Option Addr) (cap : Nat) (zs : List Int) (w : World) (hl : zs.length ≤ 1000000) (hI : IntsAt w a zs) :
    Calls Try.prog 51 #[.slice a zs.length cap] w (ClonePost w zs) := by
  cases a with
  | some ad => exact Clone_any ad cap zs w hl hI
  | none =>
    rcases hI with rfl | ⟨b, off, h, _⟩
    · exact Clone_none cap w
    · cases h
end Go.Proofs.Ytacedadenbinmaa
namespace Go.Proofs.Ytacedadenbinmaa

theorem fit_perm {t : Int} {xs ys ss : List Int} (h : Fit t xs ss) (hp : xs.Perm ys) : Fit t ys ss := by
  obtain ⟨bs, h1, h2, h3⟩ := h
  exact ⟨bs, h1, h2, h3.trans hp⟩
theorem opt_perm {xs ys : List Int} (hp : xs.Perm ys) {m : Nat} (hm : 0 < m) (hx : ∀ x ∈ xs, 0 ≤ x) : opt ys m ≤ opt xs m := by
  have h1 := fit_perm (fit_of_span xs _ _ (opt_mem xs hm) (Int.le_refl _)) hp
  obtain ⟨s, hs, hle⟩ := span_of_fit (opt_nn xs hm hx) ys _ h1
  exact Int.le_trans (opt_le hs) hle
theorem opt_perm_eq {xs ys : List Int} (hp : xs.Perm ys) {m : Nat} (hm : 0 < m) (hx : ∀ x ∈ xs, 0 ≤ x) : opt ys m = opt xs m :=
  Int.le_antisymm (opt_perm hp hm hx) (opt_perm hp.symm hm fun y hy => hx y (hp.symm.subset hy))

/-- v is the greater of v0 and the answers over all orders of r behind b -/
def Sup (f : List Int → Int) (b r : List Int) (v0 v : Int) : Prop :=
  v0 ≤ v ∧ (v = v0 ∨ ∃ q, q.Perm r ∧ f (b ++ q) = v) ∧ ∀ q : List Int, q.Perm r → f (b ++ q) ≤ v
/-- the same over the orders that begin with one of the first k -/
def SupK (f : List Int → Int) (b r : List Int) (k : Nat) (v0 v : Int) : Prop :=
  v0 ≤ v ∧ (v = v0 ∨ ∃ q, q.Perm r ∧ f (b ++ q) = v) ∧ ∀ i, i < k → ∀ q : List Int, q.Perm (r.eraseIdx i) → f (b ++ (r[i]?.getD 0 :: q)) ≤ v
theorem sup_nil (f : List Int → Int) (b : List Int) (v : Int) : Sup f b [] v (max v (f b)) := by
  refine ⟨by omega, ?_, fun q hq => ?_⟩
  · by_cases h : f b ≤ v
    · exact .inl (by omega)
    · exact .inr ⟨[], List.Perm.refl _, by simp; omega⟩
  · obtain rfl := List.Perm.eq_nil hq
    simp only [List.append_nil]
    omega
theorem sup_max {f : List Int → Int} {b r : List Int} {n u : Int} (h : Sup f b r 0 u) (hn : 0 ≤ n) : Sup f b r n (max n u) := by
  obtain ⟨h1, h2, h3⟩ := h
  refine ⟨by omega, ?_, fun q hq => by have := h3 q hq; omega⟩
  by_cases hu : u ≤ n
  · exact .inl (by omega)
  · rcases h2 with rfl | ⟨q, hq, e⟩
    · omega
    · exact .inr ⟨q, hq, by omega⟩
theorem supK_start (f : List Int → Int) (b r : List Int) (v : Int) : SupK f b r 0 v v := ⟨Int.le_refl _, .inl rfl, fun i hi => by omega⟩
theorem erase_perm : ∀ (r : List Int) (k : Nat), k < r.length → (r[k]?.getD 0 :: r.eraseIdx k).Perm r
  | x :: xs, 0, _ => by simp
  | x :: xs, k + 1, h => by
    have := erase_perm xs k (by simpa using h)
    simp only [List.getElem?_cons_succ, List.eraseIdx_cons_succ]
    exact (List.Perm.swap ..).trans (this.cons x)
theorem supK_hit {f : List Int → Int} {b r r' : List Int} {k : Nat} {v0 v u x : Int} (h : SupK f b r k v0 v) (hk : k < r.length) (hx : r[k]?.getD 0 = x) (hr : r'.Perm (r.eraseIdx k)) (hu : Sup f (b ++ [x]) r' v u) : SupK f b r (k + 1) v0 u := by
  obtain ⟨h1, h2, h3⟩ := h
  obtain ⟨g1, g2, g3⟩ := hu
  subst hx
  refine ⟨by omega, ?_, fun i hi q hq => ?_⟩
  · rcases g2 with rfl | ⟨q, hq, e⟩
    · exact h2
    · refine .inr ⟨r[k]?.getD 0 :: q, ((hq.trans hr).cons _).trans (erase_perm r k hk), ?_⟩
      rw [← e]; simp
  · by_cases e : i = k
    · subst e
      have := g3 q (hq.trans hr.symm)
      simpa using this
    · have := h3 i (by omega) q hq
      omega
theorem get_of_mem {r : List Int} {x : Int} (h : x ∈ r) : ∃ i, i < r.length ∧ r[i]?.getD 0 = x := by
  obtain ⟨i, hi, rfl⟩ := List.getElem_of_mem h
  exact ⟨i, hi, by rw [List.getElem?_eq_getElem hi]; rfl⟩
theorem supK_end {f : List Int → Int} {b r : List Int} {k : Nat} {v0 v : Int} (h : SupK f b r k v0 v) (hk : r.length ≤ k) (h0 : r ≠ []) : Sup f b r v0 v := by
  obtain ⟨h1, h2, h3⟩ := h
  refine ⟨h1, h2, fun q hq => ?_⟩
  match q with
  | [] => exact absurd (List.Perm.eq_nil hq.symm) h0
  | x :: q =>
    obtain ⟨i, hi, hx⟩ := get_of_mem (hq.subset (List.mem_cons_self ..))
    have h4 := erase_perm r i hi
    rw [hx] at h4
    have h5 := h3 i (by omega) q ((List.perm_cons x).1 (hq.trans h4.symm))
    rwa [hx] at h5
theorem Sup.unique {f : List Int → Int} {b r : List Int} {u v : Int} (hu : Sup f b r 0 u) (hv : Sup f b r 0 v) : u = v := by
  have key : ∀ {u v : Int}, Sup f b r 0 u → Sup f b r 0 v → u ≤ v := fun {u v} hu hv => by
    rcases hu.2.1 with rfl | ⟨q, hq, e⟩
    · exact hv.1
    · have := hv.2.2 q hq; omega
  exact Int.le_antisymm (key hu hv) (key hv hu)

/-- the span by the list rule -/
def spL (m : Nat) (zs : List Int) : Int := gre (lstS zs (List.replicate m 0))
/-- what the law asks -/
theorem worst_law {zs : List Int} {m : Nat} {v : Int} (hz : ∀ x ∈ zs, 0 ≤ x) (hm : 0 < m) (h : Sup (spL m) [] zs 0 v) : spL m zs ≤ v ∧ (m : Int) * v ≤ (2 * m - 1) * opt zs m := by
  obtain ⟨h1, h2, h3⟩ := h
  refine ⟨by simpa using h3 zs (List.Perm.refl _), ?_⟩
  rcases h2 with rfl | ⟨q, hq, rfl⟩
  · have := opt_nn zs hm hz
    rw [Int.mul_zero]
    exact Int.mul_nonneg (by omega) this
  · have := graham q hm fun x hx => hz x (hq.subset hx)
    rw [opt_perm_eq hq.symm hm hz] at this
    simpa [spL] using this
end Go.Proofs.Ytacedadenbinmaa
namespace Go.Proofs.Ytacedadenbinmaa

def swp (L : List Int) (p i : Nat) : List Int := (L.set p (L[i]?.getD 0)).set i (L[p]?.getD 0)
theorem swp_length (L : List Int) (p i : Nat) : (swp L p i).length = L.length := by simp [swp]
theorem getD_set2 (L : List Int) (i k : Nat) (x : Int) (hi : i < L.length) : (L.set i x)[k]?.getD 0 = if k = i then x else L[k]?.getD 0 := by
  by_cases e : k = i
  · subst e; rw [if_pos rfl, List.getElem?_set_self hi]; rfl
  · rw [if_neg e, List.getElem?_set_ne (fun h => e h.symm)]
theorem swp_get {L : List Int} {p i : Nat} (hp : p < L.length) (hi : i < L.length) (k : Nat) : (swp L p i)[k]?.getD 0 = if k = i then L[p]?.getD 0 else if k = p then L[i]?.getD 0 else L[k]?.getD 0 := by
  rw [swp, getD_set2 _ _ _ _ (by simpa using hi), getD_set2 _ _ _ _ hp]
theorem ext_getD {L M : List Int} (h : L.length = M.length) (hk : ∀ k, k < L.length → L[k]?.getD 0 = M[k]?.getD 0) : L = M := by
  refine List.ext_getElem h fun k h1 h2 => ?_
  have := hk k h1
  rw [List.getElem?_eq_getElem h1, List.getElem?_eq_getElem h2] at this
  exact this
theorem swp_swp {L : List Int} {p i : Nat} (hp : p < L.length) (hi : i < L.length) : swp (swp L p i) p i = L := by
  refine ext_getD (by rw [swp_length, swp_length]) fun k hk => ?_
  rw [swp_get (by rw [swp_length]; exact hp) (by rw [swp_length]; exact hi), swp_get hp hi, swp_get hp hi, swp_get hp hi]
  by_cases e1 : k = i
  · subst e1; simp
    intro e; rw [e]
  · by_cases e2 : k = p
    · subst e2; simp [e1]
    · simp [e1, e2]
theorem swp_take {L : List Int} {p i : Nat} (hp : p ≤ i) (hi : i < L.length) : (swp L p i).take (p + 1) = L.take p ++ [L[i]?.getD 0] := by
  have h1 := take_snoc (swp L p i) p (by rw [swp_length]; omega)
  rw [h1, swp_get (by omega) hi]
  have h2 : (swp L p i).take p = L.take p := by
    simp only [swp, List.take_set]
    rw [List.set_eq_of_length_le, List.set_eq_of_length_le]
    · simp; omega
    · simp; omega
  rw [h2]
  by_cases e : p = i
  · rw [if_pos e, e]
  · rw [if_neg e, if_pos rfl]
theorem set_perm : ∀ (R : List Int) (j : Nat) (x : Int), j < R.length → (R.set j x).Perm (x :: R.eraseIdx j)
  | y :: R, 0, x, _ => by simp
  | y :: R, j + 1, x, h => by
    simp only [List.set_cons_succ, List.eraseIdx_cons_succ]
    exact ((set_perm R j x (by simpa using h)).cons y).trans (List.Perm.swap ..)
theorem swp_drop {L : List Int} {p i : Nat} (hp : p ≤ i) (hi : i < L.length) : ((swp L p i).drop (p + 1)).Perm ((L.drop p).eraseIdx (i - p)) := by
  have hd : L.drop p = L[p]?.getD 0 :: L.drop (p + 1) := by
    rw [List.drop_eq_getElem_cons (by omega), List.getElem?_eq_getElem (by omega)]; rfl
  by_cases e : p = i
  · subst e
    have : swp L p p = L := ext_getD (swp_length ..) fun k _ => by
      rw [swp_get (by omega) (by omega)]
      by_cases e : k = p
      · rw [if_pos e, e]
      · rw [if_neg e, if_neg e]
    rw [this, hd, Nat.sub_self, List.eraseIdx_cons_zero]
  · obtain ⟨j, hj⟩ : ∃ j, i = p + 1 + j := ⟨i - p - 1, by omega⟩
    have e1 : (swp L p i).drop (p + 1) = (L.drop (p + 1)).set j (L[p]?.getD 0) := by
      refine ext_getD (by simp [swp_length]) fun k hk => ?_
      rw [List.length_drop, swp_length] at hk
      rw [List.getElem?_drop, swp_get (by omega) hi, getD_set2 _ _ _ _ (by rw [List.length_drop]; omega), List.getElem?_drop]
      by_cases e2 : k = j
      · rw [if_pos (by omega), if_pos e2]
      · rw [if_neg (by omega), if_neg (by omega), if_neg e2]
    rw [e1, hd, show i - p = j + 1 by omega, List.eraseIdx_cons_succ]
    exact set_perm _ _ _ (by rw [List.length_drop]; omega)
theorem swp_good {L : List Int} {p i : Nat} (hg : good L) (hp : p < L.length) (hi : i < L.length) : good (swp L p i) := fun x hx => by
  obtain ⟨k, hk, rfl⟩ := List.getElem_of_mem hx
  have h := swp_get hp hi k
  rw [List.getElem?_eq_getElem hk] at h
  simp only [Option.getD_some] at h
  rw [h]
  rw [swp_length] at hk
  split
  · exact good_get hg p hp
  · split
    · exact good_get hg i hi
    · exact good_get hg k hk
/-- one round of the program's loop -/
theorem sup_round {f : List Int → Int} {L : List Int} {p i : Nat} {v0 v u : Int} (h : SupK f (L.take p) (L.drop p) (i - p) v0 v) (hp : p ≤ i) (hi : i < L.length) (hu : Sup f ((swp L p i).take (p + 1)) ((swp L p i).drop (p + 1)) v u) : SupK f (L.take p) (L.drop p) (i + 1 - p) v0 u := by
  rw [swp_take hp hi] at hu
  rw [show i + 1 - p = i - p + 1 by omega]
  exact supK_hit h (by rw [List.length_drop]; omega) (by rw [List.getElem?_drop, show p + (i - p) = i by omega]) (swp_drop hp hi) hu
/-- the span by the list rule keeps to 600 -/
theorem spL_bd {zs : List Int} {m : Nat} (hg : good zs) (hl : zs.length ≤ 10) (hm : 1 ≤ m) : 0 ≤ spL m zs ∧ spL m zs ≤ 600 := by
  have h1 := lstS_in zs (List.replicate m 0) 0 hg (fun y hy => by have := List.eq_of_mem_replicate hy; omega) (by simp; omega)
  exact ⟨gre_nn _, gre_le (by omega) fun y hy => by have := h1 y hy; omega⟩
theorem sup_bd {b r : List Int} {m : Nat} {v0 v : Int} (h : Sup (spL m) b r v0 v) (hv : 0 ≤ v0 ∧ v0 ≤ 600) (hg : good (b ++ r)) (hl : (b ++ r).length ≤ 10) (hm : 1 ≤ m) : 0 ≤ v ∧ v ≤ 600 := by
  obtain ⟨h1, h2, _⟩ := h
  refine ⟨by omega, ?_⟩
  rcases h2 with rfl | ⟨q, hq, rfl⟩
  · exact hv.2
  · have hp : (b ++ q).Perm (b ++ r) := hq.append_left b
    exact (spL_bd (fun x hx => hg x (hp.subset hx)) (by rw [hp.length_eq]; exact hl) hm).2
theorem erase_eq (r : List Int) (k : Nat) : r.take k ++ r.drop (k + 1) = r.eraseIdx k := (List.eraseIdx_eq_take_drop_succ r k).symm
end Go.Proofs.Ytacedadenbinmaa
namespace Go.Proofs.Ytacedadenbinmaa
open Go.RowKit Go.Shelf

/-- the closure's four boxes, and the list that it arranges -/
def WBx (W : World) (M bM bO bW bA base : Nat) (ao : Option Addr) (n co : Nat) (L : List Int) (v : Int) : Prop :=
  Boxed W bO 22 (.slice ao n co) ∧ Boxed W bW 3 (.int .i64 v) ∧ Boxed W bM 3 (.int .i64 M) ∧ Boxed W bA 52 (.func (.func 52) #[] #[.pointer (some ⟨bO, 0, none⟩), .pointer (some ⟨bW, 0, none⟩), .pointer (some ⟨bM, 0, none⟩), .pointer (some ⟨bA, 0, none⟩)]) ∧ OwnI W base (.slice ao n co) L
def LW1Post (w0 : World) (M bM bO bW bA base : Nat) (ao : Option Addr) (n co : Nat) (L : List Int) (place : Nat) (v : Int) (e : Ending) (w' : World) : Prop :=
  e = .returned (.tuple #[]) ∧ ∃ u, Sup (spL M) (L.take place) (L.drop place) v u ∧ WBx w' M bM bO bW bA base ao n co L u ∧ Below w0.heap.size w0 w'

theorem _root_.Go.Boxed.kb {W W' : World} {B : Nat} {t : TypeId} {v : Value} (h : Boxed W B t v) (hb : Below W.heap.size W W') : Boxed W' B t v := (hb.block B h.lt).trans h
theorem _root_.Go.Boxed.row {W : World} {B g j : Nat} {t : TypeId} {v u : Value} (h : Boxed W B t v) (hne : B ≠ g) : Boxed (W.setCell ⟨g, j, none⟩ u) B t v := h.kept (grownBy_set W g j u) (fun e => hne (Option.some.inj e))

set_option maxRecDepth 100000 in
set_option maxHeartbeats 3200000 in
theorem LW1_zero (M bM bO bW bA : Nat) (ao : Option Addr) (co : Nat) (hM : 1 ≤ M ∧ M ≤ 5) (w0 : World) (h0 : w0.heap.size ≤ bM) (hne : bM < bO ∧ bO < bW ∧ bW < bA) (hao : ∀ ad, ao = some ad → ad.block < bO) (L : List Int) (v : Int) (w : World) (hn : L.length ≤ 6) (hg : good L) (hv : 0 ≤ v ∧ v ≤ 600) (hx : WBx w M bM bO bW bA (bM + 1) ao L.length co L v) (hB : Below w0.heap.size w0 w) :
    Calls Try.prog 52 #[.int .i64 L.length, .pointer (some ⟨bO, 0, none⟩), .pointer (some ⟨bW, 0, none⟩), .pointer (some ⟨bM, 0, none⟩), .pointer (some ⟨bA, 0, none⟩)] w
      (LW1Post w0 M bM bO bW bA (bM + 1) ao L.length co L L.length v) := by
  obtain ⟨h1, h2, h3, h4, h5⟩ := hx
  have c1 := h1.cell
  have c2 := h2.cell
  have f2 := h2.frozen
  have c3 := h3.cell
  have HSP := Lib.hid (spanByList_any ao co L M w (by omega) hg hM h5.ints)
  have HSPd := Lib.hid (spanByList_any ao co L M w.drew (by omega) hg hM (h5.dr 1).ints)
  have HS : Hid (Sup (spL M) (L.take L.length) (L.drop L.length) v (max v (gre (lstS L (List.replicate M 0))))) := by
    show Sup _ _ _ _ _
    rw [List.take_length, List.drop_length]
    exact sup_nil _ _ _
  generalize gre (lstS L (List.replicate M 0)) = G at *
  have HV : Hid (∀ W u, Below w.heap.size w W → WBx (W.setCell ⟨bW, 0, none⟩ (.int .i64 u)) M bM bO bW bA (bM + 1) ao L.length co L u ∧ Below w0.heap.size w0 (W.setCell ⟨bW, 0, none⟩ (.int .i64 u))) := fun W u hW =>
    ⟨⟨(h1.kb hW).other (by omega) _, (h2.kb hW).set _, (h3.kb hW).other (by omega) _, (h4.kb hW).other (by omega) _, (h5.keptB hW).kept (grownBy_set W bW 0 _) (by
      cases ao with
      | none => exact .inl rfl
      | some ad => exact .inr (by simp [Value.ownBlock]; have := hao ad rfl; omega))⟩, (hB.trans (hW.mono hB.size)).setCell (p := ⟨bW, 0, none⟩) (by show w0.heap.size ≤ bW; omega) _⟩
  have HB2 : Hid (∀ W, Below w.heap.size w W → W.cell? ⟨bW, 0, none⟩ = some (.int .i64 v) ∧ W.frozen? ⟨bW, 0, none⟩ = false) := fun W hW => ⟨(h2.kb hW).cell, (h2.kb hW).frozen⟩
  clear h1 h2 h3 h4 h5 hB hg
  have HE9 : Hid ((if v < G then G else v) = max v G) := by show _ = _; split <;> omega
  obtain ⟨r, hr⟩ : ∃ r, max v G = r := ⟨_, rfl⟩
  rw [hr] at HE9 HS
  clear hr
  go_enter Try.func52, Try.ntmps52
  go_wp2_with fail
  go_region_with (go_at_call 47; first
    | (refine HSP.out.mono ?_; rintro e w' ⟨rfl, hW⟩; obtain ⟨c2', f2'⟩ := HB2.out _ hW)
    | (refine HSPd.out.mono ?_; rintro e w' ⟨rfl, hW'⟩; have hW := (Below.refl w.heap.size w).drew.trans hW'; clear hW'; obtain ⟨c2', f2'⟩ := HB2.out _ hW))
  all_goals
    rw [HE9.out]
    obtain ⟨hX9, hB9⟩ := HV.out _ r hW
    go_wp2
    refine bodyPost_ret (v := .tuple #[]) (by simp [results, Try.f52, go_sem]) rfl ?_
    exact ⟨rfl, _, HS.out, hX9, hB9⟩

end Go.Proofs.Ytacedadenbinmaa
namespace Go.Proofs.Ytacedadenbinmaa
open Go.RowKit Go.Shelf

theorem wp_calm {P : Program} {c : Code} {Q : Exit → Act → World → Prop} {a : Act} {w : World} (h : ∀ K : Act → World → Prop, (∀ a w, Q .normal a w → K a w) → Code.wp P c (Exit.then K fun _ _ _ => False) a w) : Code.wp P c Q a w :=
  wp_mono (h (Q .normal) fun _ _ h => h) fun e _ _ h => by cases e <;> first | exact h | exact h.elim
noncomputable def W7 : Code := match Try.f52.body.getD .skip with | .seq _ (.seq _ (.block _ (.loop (.seq _ (.seq (.block _ (.seq _ (.seq _ r))) _))))) => r | _ => .skip

set_option maxRecDepth 100000 in
set_option maxHeartbeats 3200000 in
theorem swap7 (K : Act → World → Prop) (place q n co bO g : Nat) (x y z : Int) (w : World) (hpl : place < n) (hq : q < n) (_hn : n ≤ 6) (_hgO : bO ≠ g)
    (c1 : w.cell? ⟨bO, 0, none⟩ = some (.slice (some ⟨g, 0, none⟩) n co)) (cq : w.cell? ⟨g, q, none⟩ = some (.int .i64 x)) (_fq : w.frozen? ⟨g, q, none⟩ = false) (cp : w.cell? ⟨g, place, none⟩ = some (.int .i64 y)) (fp : w.frozen? ⟨g, place, none⟩ = false)
    (c1d : (w.setCell ⟨g, place, none⟩ (.int .i64 x)).drew.cell? ⟨bO, 0, none⟩ = some (.slice (some ⟨g, 0, none⟩) n co))
    (cz : (w.setCell ⟨g, place, none⟩ (.int .i64 x)).drew.cell? ⟨g, q, none⟩ = some (.int .i64 z)) (fz : (w.setCell ⟨g, place, none⟩ (.int .i64 x)).drew.frozen? ⟨g, q, none⟩ = false)
    (v2 v3 v4 v5 v7 v8 v9 v10 v11 v12 v13 v14 v15 v16 v17 v18 v19 v20 v21 v22 v23 v24 v25 v26 v27 v28 v29 v30 v31 v32 v33 v34 v35 v36 v37 v38 v39 v40 v41 v42 v43 v44 v45 v46 v47 v48 v49 v50 v51 v52 v53 v54 : Value)
    (h : ∀ u41 u42 u43 u44 u45 u46 u47 u48 u49 u50 u51 u52 u53 u54 : Value, K ⟨#[.int .i64 place, .pointer (some ⟨bO, 0, none⟩), v2, v3, v4, v5, .int .i64 q, v7, v8, v9, v10, v11, v12, v13, v14, v15, v16, v17, v18, v19, v20, v21, v22, v23, v24, v25, v26, v27, v28, v29, v30, v31, v32, v33, v34, v35, v36, v37, v38, v39, v40, u41, u42, u43, u44, u45, u46, u47, u48, u49, u50, u51, u52, u53, u54], []⟩ ((w.setCell ⟨g, place, none⟩ (.int .i64 x)).setCell ⟨g, q, none⟩ (.int .i64 y)).drew) :
    Code.wp Try.prog W7 (Exit.then K fun _ _ _ => False) ⟨#[.int .i64 place, .pointer (some ⟨bO, 0, none⟩), v2, v3, v4, v5, .int .i64 q, v7, v8, v9, v10, v11, v12, v13, v14, v15, v16, v17, v18, v19, v20, v21, v22, v23, v24, v25, v26, v27, v28, v29, v30, v31, v32, v33, v34, v35, v36, v37, v38, v39, v40, v41, v42, v43, v44, v45, v46, v47, v48, v49, v50, v51, v52, v53, v54], []⟩ w := by
  have H := Lib.hid h
  clear h
  have c1t : (w.setCell ⟨g, place, none⟩ (.int .i64 x)).cell? ⟨bO, 0, none⟩ = some (.slice (some ⟨g, 0, none⟩) n co) := c1d
  simp only [W7, Try.f52, Option.getD_some]
  go_region
  exact H.out _ _ _ _ _ _ _ _ _ _ _ _ _ _
end Go.Proofs.Ytacedadenbinmaa
namespace Go.Proofs.Ytacedadenbinmaa
open Go.RowKit Go.Shelf

set_option maxRecDepth 100000 in
set_option maxHeartbeats 3200000 in
theorem LW1_any (M bM bO bW bA : Nat) (ao : Option Addr) (co n : Nat) (hM : 1 ≤ M ∧ M ≤ 5) (hn : n ≤ 6) (w0 : World) (h0 : w0.heap.size ≤ bM) (hne : bM < bO ∧ bO < bW ∧ bW < bA) (hao : ∀ ad, ao = some ad → ad.block < bO) : ∀ (k place : Nat) (L : List Int) (v : Int) (w : World), L.length = n → good L → place + k = n → 0 ≤ v ∧ v ≤ 600 → WBx w M bM bO bW bA (bM + 1) ao n co L v → Below w0.heap.size w0 w →
    Calls Try.prog 52 #[.int .i64 place, .pointer (some ⟨bO, 0, none⟩), .pointer (some ⟨bW, 0, none⟩), .pointer (some ⟨bM, 0, none⟩), .pointer (some ⟨bA, 0, none⟩)] w
      (LW1Post w0 M bM bO bW bA (bM + 1) ao n co L place v) := by
  intro k
  induction k with
  | zero =>
    intro place L v w hL hg hp hv hx hB
    subst hL
    obtain rfl : place = L.length := by omega
    exact LW1_zero M bM bO bW bA ao co hM w0 h0 hne hao L v w hn hg hv hx hB
  | succ k ih =>
    intro place L v w hL hg hp hv hx hB
    subst hL
    have hlt : place < L.length := by omega
    have hle : place ≤ 6 := by omega
    have HP : Hid (∀ i, i ≤ L.length → i - place ≤ L.length) := fun i hi => by omega
    have HK := Lib.hid hp
    have HG := Lib.hid hg
    have HV := Lib.hid hv
    have HX := Lib.hid hx
    have HB := Lib.hid hB
    have c1 := hx.1.cell
    have hpe : ((place : Int) == L.length) = false := by rw [beq_eq_false_iff_ne]; omega
    clear hg hx hB hp
    go_enter Try.func52, Try.ntmps52
    go_wp2_with fail
    go_loopw [6] (fun i wr => ∃ (q : Nat) (u : Int), place ≤ q ∧ q ≤ L.length ∧ i = .int .i64 q ∧ SupK (spL M) (L.take place) (L.drop place) (q - place) v u ∧ 0 ≤ u ∧ u ≤ 600 ∧ WBx wr M bM bO bW bA (bM + 1) ao L.length co L u ∧ Below w0.heap.size w0 wr) (fun i _ => L.length - (intOf i).toNat)
    case atStart => exact ⟨place, v, Nat.le_refl _, by omega, rfl, by rw [Nat.sub_self]; exact supK_start _ _ _ _, hv.1, hv.2, HX.out, HB.out⟩
    case round =>
      obtain ⟨q, u, hq1, hq2, rfl, hS, hu0, hu1, hx, hB⟩ := hrel
      clear c1
      have HS := Lib.hid hS
      have HBr := Lib.hid hB
      have HXr := Lib.hid hx
      obtain ⟨h1, h2, h3, h4, h5⟩ := hx
      have c1 := h1.cell
      have c4 := h4.cell
      by_cases hlq : q < L.length
      · obtain ⟨g, cp, he, hgb, hgs, hcf⟩ := h5.at (by omega)
        simp only [Value.slice.injEq, true_and] at he
        obtain ⟨rfl, rfl⟩ := he
        obtain ⟨cq, fq⟩ := hcf q hlq
        obtain ⟨cp, fp⟩ := hcf place hlt
        have HSW : Hid (swp L place q = (L.set place (L[q]?.getD 0)).set q (L[place]?.getD 0)) := rfl
        obtain ⟨x, hxx⟩ : ∃ x, L[q]?.getD 0 = x := ⟨_, rfl⟩
        obtain ⟨y, hyy⟩ : ∃ y, L[place]?.getD 0 = y := ⟨_, rfl⟩
        rw [hxx] at cq HSW
        rw [hyy] at cp HSW
        clear hxx hyy hcf
        obtain ⟨z, cz, fz⟩ : ∃ z, (wr.setCell ⟨g, place, none⟩ (.int .i64 x)).drew.cell? ⟨g, q, none⟩ = some (.int .i64 z) ∧ (wr.setCell ⟨g, place, none⟩ (.int .i64 x)).drew.frozen? ⟨g, q, none⟩ = false := by
          obtain ⟨g', cp', he, _, _, hcf⟩ := ((h5.put rfl place x).dr 1).at (by rw [List.length_set]; omega)
          simp only [Value.slice.injEq, Option.some.injEq, Addr.mk.injEq, and_true] at he
          obtain ⟨rfl, _⟩ := he
          exact ⟨_, hcf q (by rw [List.length_set]; exact hlq)⟩
        have hgO : bO ≠ g := by have := hao _ rfl; simp at this; omega
        have c1s : ∀ u, (wr.setCell ⟨g, place, none⟩ u).cell? ⟨bO, 0, none⟩ = some (.slice (some ⟨g, 0, none⟩) L.length co) := fun u => (h1.row hgO).cell
        have c1t := c1s (.int .i64 x)
        have c1d : (wr.setCell ⟨g, place, none⟩ (.int .i64 x)).drew.cell? ⟨bO, 0, none⟩ = some (.slice (some ⟨g, 0, none⟩) L.length co) := c1t
        have hgA : bA ≠ g ∧ bW ≠ g ∧ bM ≠ g := by have := hao _ rfl; simp at this; omega
        have hgs0 : w0.heap.size ≤ g := by omega
        have hX2 : WBx ((wr.setCell ⟨g, place, none⟩ (.int .i64 x)).setCell ⟨g, q, none⟩ (.int .i64 y)).drew M bM bO bW bA (bM + 1) (some ⟨g, 0, none⟩) L.length co (swp L place q) u :=
          ⟨(h1.row hgO).row hgO, (h2.row hgA.2.1).row hgA.2.1, (h3.row hgA.2.2).row hgA.2.2, (h4.row hgA.1).row hgA.1, by rw [HSW.out]; exact ((h5.put rfl place x).put (by simp) q y).dr 1⟩
        have hB2 : Below w0.heap.size w0 ((wr.setCell ⟨g, place, none⟩ (.int .i64 x)).setCell ⟨g, q, none⟩ (.int .i64 y)).drew :=
          ((HBr.out.setCell (p := ⟨g, place, none⟩) hgs0 _).setCell (p := ⟨g, q, none⟩) hgs0 _).drew
        have hIH := ih (place + 1) (swp L place q) u _ (swp_length _ _ _) (swp_good HG.out hlt hlq) (by have := HK.out; omega) ⟨hu0, hu1⟩ hX2 hB2
        rw [show ((place + 1 : Nat) : Int) = (place : Int) + 1 from rfl] at hIH
        have HIH := Lib.hid hIH
        have c4' := hX2.2.2.2.1.cell
        clear h1 h2 h3 h4 h5 c1s hX2 hB2 hIH ih
        go_wp2_with fail
        go_region
        clear c1 c1t c1d cz fz cq cp fq fp c4
        generalize ((wr.setCell ⟨g, place, none⟩ (.int .i64 x)).setCell ⟨g, q, none⟩ (.int .i64 y)).drew = W2 at *
        go_wp2_with fail
        refine HIH.out.mono ?_
        rintro e w3 ⟨rfl, u3, hS3, hx3, hB3⟩
        have HR := Lib.hid (sup_round HS.out hq1 hlq hS3)
        have HU := Lib.hid (sup_bd hS3 ⟨hu0, hu1⟩ (by rw [List.take_append_drop]; exact swp_good HG.out hlt hlq) (by rw [List.take_append_drop, swp_length]; omega) hM.1)
        have HSS := Lib.hid (swp_swp hlt hlq)
        have hll : (swp L place q).length = L.length := swp_length _ _ _
        generalize swp L place q = L' at hx3 HSS hll
        clear HSW HIH hS3 c4' hu0 hu1
        obtain ⟨h1, h2, h3, h4, h5⟩ := hx3
        have c1 := h1.cell
        obtain ⟨g', cp', he, _, hgs3, hcf⟩ := h5.at (by omega)
        simp only [Value.slice.injEq, Option.some.injEq, Addr.mk.injEq, and_true] at he
        obtain ⟨rfl, hco⟩ := he
        clear hco
        obtain ⟨cq, fq⟩ := hcf q (by omega)
        obtain ⟨cp, fp⟩ := hcf place (by omega)
        have HSW : Hid (swp L' place q = (L'.set place (L'[q]?.getD 0)).set q (L'[place]?.getD 0)) := rfl
        obtain ⟨x', hxx⟩ : ∃ x, L'[q]?.getD 0 = x := ⟨_, rfl⟩
        obtain ⟨y', hyy⟩ : ∃ y, L'[place]?.getD 0 = y := ⟨_, rfl⟩
        rw [hxx] at cq HSW
        rw [hyy] at cp HSW
        rw [HSS.out] at HSW
        clear hxx hyy hcf
        obtain ⟨z, cz, fz⟩ : ∃ z, (w3.setCell ⟨g, place, none⟩ (.int .i64 x')).drew.cell? ⟨g, q, none⟩ = some (.int .i64 z) ∧ (w3.setCell ⟨g, place, none⟩ (.int .i64 x')).drew.frozen? ⟨g, q, none⟩ = false := by
          obtain ⟨g', cp', he, _, _, hcf⟩ := ((h5.put hll place x').dr 1).at (by rw [List.length_set]; omega)
          simp only [Value.slice.injEq, Option.some.injEq, Addr.mk.injEq, and_true] at he
          obtain ⟨rfl, _⟩ := he
          exact ⟨_, hcf q (by rw [List.length_set]; omega)⟩
        have c1t : (w3.setCell ⟨g, place, none⟩ (.int .i64 x')).cell? ⟨bO, 0, none⟩ = some (.slice (some ⟨g, 0, none⟩) L.length co) := (h1.row hgO).cell
        have c1d : (w3.setCell ⟨g, place, none⟩ (.int .i64 x')).drew.cell? ⟨bO, 0, none⟩ = some (.slice (some ⟨g, 0, none⟩) L.length co) := c1t
        have hO4 : OwnI ((w3.setCell ⟨g, place, none⟩ (.int .i64 x')).setCell ⟨g, q, none⟩ (.int .i64 y')).drew (bM + 1) (.slice (some ⟨g, 0, none⟩) L.length co) ((L'.set place x').set q y') := ((h5.put hll place x').put (by simp [hll]) q y').dr 1
        rw [← HSW.out] at hO4
        have hX4 : WBx ((w3.setCell ⟨g, place, none⟩ (.int .i64 x')).setCell ⟨g, q, none⟩ (.int .i64 y')).drew M bM bO bW bA (bM + 1) (some ⟨g, 0, none⟩) L.length co L u3 :=
          ⟨(h1.row hgO).row hgO, (h2.row hgA.2.1).row hgA.2.1, (h3.row hgA.2.2).row hgA.2.2, (h4.row hgA.1).row hgA.1, hO4⟩
        have hB4 : Below w0.heap.size w0 ((w3.setCell ⟨g, place, none⟩ (.int .i64 x')).setCell ⟨g, q, none⟩ (.int .i64 y')).drew :=
          ((hB3.setCell (p := ⟨g, place, none⟩) hgs0 _).setCell (p := ⟨g, q, none⟩) hgs0 _).drew
        have HX4 := Lib.hid hX4
        have HB4 := Lib.hid hB4
        clear h1 h2 h3 h4 h5 hX4 hB4 hB3 hll HSW HSS hO4
        go_wp2_with fail
        refine wp_calm fun KK hKK => ?_
        refine swap7 KK place q L.length co bO g x' y' z w3 hlt hlq hn hgO c1 cq fq cp fp c1d cz fz _ _ _ _ _ _ _ _ _ _ _ _ _ _ _ _ _ _ _ _ _ _ _ _ _ _ _ _ _ _ _ _ _ _ _ _ _ _ _ _ _ _ _ _ _ _ _ _ _ _ _ _ fun u41 u42 u43 u44 u45 u46 u47 u48 u49 u50 u51 u52 u53 u54 => ?_
        refine hKK _ _ ?_
        clear c1 c1t c1d cz fz cq cp fq fp
        generalize ((w3.setCell ⟨g, place, none⟩ (.int .i64 x')).setCell ⟨g, q, none⟩ (.int .i64 y')).drew = W4 at *
        go_wp2_with fail
        go_roundw
        case rel => exact ⟨q + 1, u3, by omega, by omega, by go_num, HR.out, HU.out.1, HU.out.2, HX4.out, HB4.out⟩
        case measure => simp [intOf]; omega
      · have HE := Lib.hid (supK_end HS.out (by rw [List.length_drop]; omega) (fun h => by have := congrArg List.length h; rw [List.length_drop, List.length_nil] at this; omega))
        clear h1 h2 h3 h4 h5 c4
        go_wp2_with fail
        refine bodyPost_ret (v := .tuple #[]) (by simp [results, Try.f52, go_sem]) rfl ?_
        exact ⟨rfl, u, HE.out, HXr.out, HBr.out⟩

end Go.Proofs.Ytacedadenbinmaa
namespace Go.Proofs.Ytacedadenbinmaa
open Go.RowKit Go.Shelf

/-- what LoadWorst answers -/
def wrB (zs : List Int) (m : Int) : Bool := toldL zs m && decide (zs.length ≤ 6)
def WorstPost (zs : List Int) (m : Int) (w : World) (e : Ending) (w' : World) : Prop :=
  ∃ v, e = .returned (.tuple #[.int .i64 v, .bool (wrB zs m)]) ∧ Below w.heap.size w w' ∧ (wrB zs m = true → Sup (spL m.toNat) [] zs 0 v ∧ 0 ≤ v ∧ v ≤ 600) ∧ (wrB zs m = false → v = 0)

set_option maxRecDepth 100000 in
set_option maxHeartbeats 3200000 in
theorem LoadWorst_any (a : Option Addr) (cap : Nat) (zs : List Int) (m : Int) (w : World) (hl : zs.length ≤ 1000000) (hI : IntsAt w a zs) :
    Calls Try.prog 29 #[.slice a zs.length cap, .int .i64 m] w (WorstPost zs m w) := by
  have hB0 : Below w.heap.size w (w.alloc (.cells #[.int .i64 m] 3)) := (Below.refl _ w).alloc (Nat.le_refl _) _
  have hI1 := hI.below hB0
  have hb : wrB zs m = (toldL zs m && decide (zs.length ≤ 6)) := rfl
  by_cases hz : toldL zs m = true
  case neg =>
    have hz' : toldL zs m = false := by simpa using hz
    rw [hz'] at hb
    simp at hb
    unfold WorstPost
    rw [hb]
    have HZ := Lib.hid hz'
    clear hz hz' hb
    go_enter Try.func29, Try.ntmps29
    go_wp2_with (go_at_call 39; refine (loadsTold_any a cap zs m _ (by omega) hI1).mono ?_; rw [HZ.out]; rintro e w' ⟨rfl, rfl⟩)
    go_ret2
    exact ⟨0, rfl, hB0, by simp, by simp⟩
  by_cases h6 : zs.length ≤ 6
  case neg =>
    have hb : wrB zs m = false := by simp [wrB, h6]
    unfold WorstPost
    rw [hb]
    have HZ := Lib.hid hz
    clear hz hb
    go_enter Try.func29, Try.ntmps29
    go_wp2_with (go_at_call 39; refine (loadsTold_any a cap zs m _ (by omega) hI1).mono ?_; rw [HZ.out]; rintro e w' ⟨rfl, rfl⟩)
    go_ret2
    exact ⟨0, rfl, hB0, by simp, by simp⟩
  have hb : wrB zs m = true := by simp [wrB, h6, hz]
  obtain ⟨⟨h10, hg⟩, hm1, hm5⟩ := (toldL_iff zs m).1 hz
  obtain ⟨M, rfl⟩ := Int.eq_ofNat_of_zero_le (show 0 ≤ m by omega)
  unfold WorstPost
  rw [hb]
  have HZ := Lib.hid hz
  clear hz hb
  go_enter Try.func29, Try.ntmps29
  go_wp2_with (go_at_call 39; refine (loadsTold_any a cap zs M _ (by omega) hI1).mono ?_; rw [HZ.out]; rintro e w' ⟨rfl, rfl⟩)
  refine (Clone_all a cap zs _ (by omega) hI1).mono ?_
  rintro e w2 ⟨v, rfl, hO, hB⟩
  obtain ⟨ao, co, rfl, _, _⟩ := hO.shape
  have hbM := (Boxed.new w 3 (.int .i64 M)).kb hB
  have hB2 := hB0.trans (hB.mono (by simp))
  have hlt := hO.lt
  rw [World.size_alloc] at hO hlt
  have hsz : w.heap.size + 1 ≤ w2.heap.size := by have := hB.size; simpa using this
  have hao : ∀ ad, ao = some ad → ad.block < w2.heap.size := fun ad h => by
    subst h
    exact (hlt ad.block rfl).2
  clear hB hlt
  go_wp2_with fail
  have b1 := Boxed.new w2 22 (.slice ao zs.length co)
  have b2 := Boxed.new (w2.alloc (.cells #[.slice ao zs.length co] 22)) 3 (.int .i64 0)
  have b3 := Boxed.new ((w2.alloc (.cells #[.slice ao zs.length co] 22)).alloc (.cells #[.int .i64 0] 3)) 52 (.func (.func 52) #[] #[.pointer (some ⟨w2.heap.size, 0, none⟩), .pointer (some ⟨w2.heap.size + 1, 0, none⟩), .pointer (some ⟨w.heap.size, 0, none⟩), .pointer (some ⟨w2.heap.size + 1 + 1, 0, none⟩)])
  simp only [World.size_alloc] at b2 b3
  refine (LW1_any M w.heap.size w2.heap.size (w2.heap.size + 1) (w2.heap.size + 1 + 1) ao co zs.length (by omega) h6 w (Nat.le_refl _) (by omega) hao zs.length 0 zs 0 _ rfl hg (by omega) (by omega) ?_ ?_).mono ?_
  · exact ⟨(b1.alloc _).alloc _, b2.alloc _, ((hbM.alloc _).alloc _).alloc _, b3, ((hO.alloc _).alloc _).alloc _⟩
  · exact ((hB2.alloc (by omega) _).alloc (by simp; omega) _).alloc (by simp; omega) _
  · rintro e w3 ⟨rfl, u, hS, hx, hB3⟩
    rw [List.take_zero, List.drop_zero] at hS
    have HU := Lib.hid (sup_bd hS (by omega) (by simpa using hg) (by simpa using h10) (by omega))
    have HS := Lib.hid hS
    have c2 := hx.2.1.cell
    clear hS hx b1 b2 b3 hbM hO hB2
    go_wp2
    go_ret2
    exact ⟨u, rfl, hB3, fun _ => ⟨by rw [Int.toNat_natCast]; exact HS.out, HU.out⟩, by simp⟩
end Go.Proofs.Ytacedadenbinmaa
