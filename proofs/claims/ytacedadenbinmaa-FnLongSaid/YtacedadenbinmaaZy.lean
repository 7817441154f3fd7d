/- slices.Clone of ints. Conditions: the list has at most 1000000 numbers. The greatest answer over all orders of a list; the least span does not hang on the order. Conditions: stated in each. -/
import Derived.Test.YtacedadenbinmaaZa
import Derived.Test.YtacedadenbinmaaZn
set_option linter.unusedVariables false
set_option linter.unusedSimpArgs false
set_option linter.unusedSectionVars false
namespace Go.Proofs.Ytacedadenbinmaa
open Go.RowKit

def ClonePost (w : World) (zs : List Int) (e : Ending) (w' : World) : Prop := ∃ v, e = .returned v ∧ OwnI w' w.heap.size v zs ∧ Below w.heap.size w w'

set_option maxHeartbeats 800000 in
theorem Clone_any (ad : Addr) (cap : Nat) (zs : List Int) (w : World) (hl : zs.length ≤ 1000000) (hI : IntsAt w (some ad) zs) :
    Calls Try.prog 51 #[.slice (some ad) zs.length cap] w (ClonePost w zs) := by
  have HO : OwnI (w.alloc (.cells #[] 3)) w.heap.size (.slice (some ⟨w.heap.size, 0, none⟩) 0 0) [] := World.ownsRow_lit w #[] 0 (Nat.le_refl _) (by unfold maxLen; omega) (by simp)
  have hB0 : Below w.heap.size w (w.alloc (.cells #[] 3)) := (Below.refl _ _).alloc (Nat.le_refl _) _
  have hnews : ∀ j u, (zs.map (fun x => Value.int .i64 x))[j]? = some u → (w.alloc (.cells #[] 3)).cell? (ad.add j) = some u := by
    intro j u hu
    rw [List.getElem?_map] at hu
    rcases Nat.lt_or_ge j zs.length with h | h
    · obtain ⟨b, off, he, _, hc⟩ := (hI.below hB0).at (by omega)
      simp only [Option.some.injEq] at he
      subst he
      have this : (w.alloc (.cells #[] 3)).cell? (Addr.add ⟨b, off, none⟩ j) = some (.int .i64 (zs[j]?.getD 0)) := by
        rcases Nat.eq_zero_or_pos j with e | e
        · subst e; simpa [Addr.add] using hc 0 h
        · have e0 : j ≠ 0 := by omega
          simpa [Addr.add, e0] using hc j h
      simp only [List.getElem?_eq_getElem h, Option.map_some, Option.some.injEq, Option.getD_some] at hu this
      rw [← hu]
      exact this
    · rw [List.getElem?_eq_none h] at hu; cases hu
  have he : ∀ w : World, (binOp .eql 22 (.slice (some ad) zs.length cap) (.slice none 0 0)).run Try.prog w = .ok (.bool false) w := fun _ => rfl
  go_enter Try.func51, Try.ntmps51
  obtain ⟨i0, hi, hz0, hz1, hz2⟩ := info_parts Try.infoInt
  go_wp2_with (at_builtin; refine wpList_append_own _ rfl _ _ 22 rfl w.heap.size 3 i0 (.int .i64 0) 1 8 Try.underlying22 hi hz0 hz1 hz2 rfl (by decide) (.slice (some ⟨w.heap.size, 0, none⟩) 0 0) 0 [] rfl HO ad zs.length cap (zs.map (fun x => Value.int .i64 x)) rfl (by simp) hnews ?_ (by unfold maxLen; omega) (by omega) (by simp) ?_; (intro u hu; obtain ⟨x, _, rfl⟩ := List.mem_map.1 hu; rfl); intro v' w' h1 h2 _)
  go_ret
  refine ⟨v', rfl, ?_, hB0.grown h2 (by simp) (fun k hk => by simp [Value.ownBlock] at hk; omega)⟩
  unfold OwnI
  simpa using h1

theorem Clone_none (cap : Nat) (w : World) :
    Calls Try.prog 51 #[.slice none 0 cap] w (ClonePost w []) := by
  have he : ∀ w : World, (binOp .eql 22 (.slice none 0 cap) (.slice none 0 0)).run Try.prog w = .ok (.bool true) w := fun _ => rfl
  go_enter Try.func51, Try.ntmps51
  go_wp2
  go_ret
  exact ⟨_, rfl, World.ownsRow_nil w _ _ _, Below.refl _ _⟩
theorem Clone_all (a : Option Addr) (cap : Nat) (zs : List Int) (w : World) (hl : zs.length ≤ 1000000) (hI : IntsAt w a zs) :
    Calls Try.prog 51 #[.slice a zs.length cap] w (ClonePost w zs) := by
  cases a with
  | some ad => exact Clone_any ad cap zs w hl hI
  | none =>
    rcases hI with rfl | ⟨b, off, h, _⟩
    · exact Clone_none cap w
    · cases h
end Go.Proofs.Ytacedadenbinmaa
namespace Go.Proofs.Ytacedadenbinmaa

theorem fit_perm {t : Int} {xs ys ss : List Int} (h : Fit t xs ss) (hp : xs.Perm ys) : Fit t ys ss := by
  obtain ⟨bs, h1, h2, h3⟩ := h
  exact ⟨bs, h1, h2, h3.trans hp⟩
theorem opt_perm {xs ys : List Int} (hp : xs.Perm ys) {m : Nat} (hm : 0 < m) (hx : ∀ x ∈ xs, 0 ≤ x) : opt ys m ≤ opt xs m := by
  have h1 := fit_perm (fit_of_span xs _ _ (opt_mem xs hm) (Int.le_refl _)) hp
  obtain ⟨s, hs, hle⟩ := span_of_fit (opt_nn xs hm hx) ys _ h1
  exact Int.le_trans (opt_le hs) hle
theorem opt_perm_eq {xs ys : List Int} (hp : xs.Perm ys) {m : Nat} (hm : 0 < m) (hx : ∀ x ∈ xs, 0 ≤ x) : opt ys m = opt xs m :=
  Int.le_antisymm (opt_perm hp hm hx) (opt_perm hp.symm hm fun y hy => hx y (hp.symm.subset hy))

/-- v is the greater of v0 and the answers over all orders of r behind b -/
def Sup (f : List Int → Int) (b r : List Int) (v0 v : Int) : Prop :=
  v0 ≤ v ∧ (v = v0 ∨ ∃ q, q.Perm r ∧ f (b ++ q) = v) ∧ ∀ q : List Int, q.Perm r → f (b ++ q) ≤ v
/-- the same over the orders that begin with one of the first k -/
def SupK (f : List Int → Int) (b r : List Int) (k : Nat) (v0 v : Int) : Prop :=
  v0 ≤ v ∧ (v = v0 ∨ ∃ q, q.Perm r ∧ f (b ++ q) = v) ∧ ∀ i, i < k → ∀ q : List Int, q.Perm (r.eraseIdx i) → f (b ++ (r[i]?.getD 0 :: q)) ≤ v
theorem sup_nil (f : List Int → Int) (b : List Int) (v : Int) : Sup f b [] v (max v (f b)) := by
  refine ⟨by omega, ?_, fun q hq => ?_⟩
  · by_cases h : f b ≤ v
    · exact .inl (by omega)
    · exact .inr ⟨[], List.Perm.refl _, by simp; omega⟩
  · obtain rfl := List.Perm.eq_nil hq
    simp only [List.append_nil]
    omega
theorem sup_max {f : List Int → Int} {b r : List Int} {n u : Int} (h : Sup f b r 0 u) (hn : 0 ≤ n) : Sup f b r n (max n u) := by
  obtain ⟨h1, h2, h3⟩ := h
  refine ⟨by omega, ?_, fun q hq => by have := h3 q hq; omega⟩
  by_cases hu : u ≤ n
  · exact .inl (by omega)
  · rcases h2 with rfl | ⟨q, hq, e⟩
    · omega
    · exact .inr ⟨q, hq, by omega⟩
theorem supK_start (f : List Int → Int) (b r : List Int) (v : Int) : SupK f b r 0 v v := ⟨Int.le_refl _, .inl rfl, fun i hi => by omega⟩
theorem erase_perm : ∀ (r : List Int) (k : Nat), k < r.length → (r[k]?.getD 0 :: r.eraseIdx k).Perm r
  | x :: xs, 0, _ => by simp
  | x :: xs, k + 1, h => by
    have := erase_perm xs k (by simpa using h)
    simp only [List.getElem?_cons_succ, List.eraseIdx_cons_succ]
    exact (List.Perm.swap ..).trans (this.cons x)
theorem supK_hit {f : List Int → Int} {b r r' : List Int} {k : Nat} {v0 v u x : Int} (h : SupK f b r k v0 v) (hk : k < r.length) (hx : r[k]?.getD 0 = x) (hr : r'.Perm (r.eraseIdx k)) (hu : Sup f (b ++ [x]) r' v u) : SupK f b r (k + 1) v0 u := by
  obtain ⟨h1, h2, h3⟩ := h
  obtain ⟨g1, g2, g3⟩ := hu
  subst hx
  refine ⟨by omega, ?_, fun i hi q hq => ?_⟩
  · rcases g2 with rfl | ⟨q, hq, e⟩
    · exact h2
    · refine .inr ⟨r[k]?.getD 0 :: q, ((hq.trans hr).cons _).trans (erase_perm r k hk), ?_⟩
      rw [← e]; simp
  · by_cases e : i = k
    · subst e
      have := g3 q (hq.trans hr.symm)
      simpa using this
    · have := h3 i (by omega) q hq
      omega
theorem get_of_mem {r : List Int} {x : Int} (h : x ∈ r) : ∃ i, i < r.length ∧ r[i]?.getD 0 = x := by
  obtain ⟨i, hi, rfl⟩ := List.getElem_of_mem h
  exact ⟨i, hi, by rw [List.getElem?_eq_getElem hi]; rfl⟩
theorem supK_end {f : List Int → Int} {b r : List Int} {k : Nat} {v0 v : Int} (h : SupK f b r k v0 v) (hk : r.length ≤ k) (h0 : r ≠ []) : Sup f b r v0 v := by
  obtain ⟨h1, h2, h3⟩ := h
  refine ⟨h1, h2, fun q hq => ?_⟩
  match q with
  | [] => exact absurd (List.Perm.eq_nil hq.symm) h0
  | x :: q =>
    obtain ⟨i, hi, hx⟩ := get_of_mem (hq.subset (List.mem_cons_self ..))
    have h4 := erase_perm r i hi
    rw [hx] at h4
    have h5 := h3 i (by omega) q ((List.perm_cons x).1 (hq.trans h4.symm))
    rwa [hx] at h5
theorem Sup.unique {f : List Int → Int} {b r : List Int} {u v : Int} (hu : Sup f b r 0 u) (hv : Sup f b r 0 v) : u = v := by
  have key : ∀ {u v : Int}, Sup f b r 0 u → Sup f b r 0 v → u ≤ v := fun {u v} hu hv => by
    rcases hu.2.1 with rfl | ⟨q, hq, e⟩
    · exact hv.1
    · have := hv.2.2 q hq; omega
  exact Int.le_antisymm (key hu hv) (key hv hu)

/-- the span by the list rule -/
def spL (m : Nat) (zs : List Int) : Int := gre (lstS zs (List.replicate m 0))
/-- what the law asks -/
theorem worst_law {zs : List Int} {m : Nat} {v : Int} (hz : ∀ x ∈ zs, 0 ≤ x) (hm : 0 < m) (h : Sup (spL m) [] zs 0 v) : spL m zs ≤ v ∧ (m : Int) * v ≤ (2 * m - 1) * opt zs m := by
  obtain ⟨h1, h2, h3⟩ := h
  refine ⟨by simpa using h3 zs (List.Perm.refl _), ?_⟩
  rcases h2 with rfl | ⟨q, hq, rfl⟩
  · have := opt_nn zs hm hz
    rw [Int.mul_zero]
    exact Int.mul_nonneg (by omega) this
  · have := graham q hm fun x hx => hz x (hq.subset hx)
    rw [opt_perm_eq hq.symm hm hz] at this
    simpa [spL] using this
end Go.Proofs.Ytacedadenbinmaa
