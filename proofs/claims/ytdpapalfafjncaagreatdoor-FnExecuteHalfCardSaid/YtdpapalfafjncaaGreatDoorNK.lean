/- A range over a function whose iterator writes a variable that it has captured (block Bs): a body that always goes on. Conditions: stated in each. -/
import Derived.RangeFuncNested
import Derived.RangeFuncLeaves
import Derived.Test.YtdpapalfafjncaaGreatDoorNJ
namespace Go.Proofs.YtdpapalfafjncaaGreatDoor
open Go.RowKit

/-- the iterator's own cells lie as they lay -/
def SameAt (l : List Nat) (A B : World) : Prop := ∀ b ∈ l, B.heap[b]? = A.heap[b]?
theorem SameAt.trans {l : List Nat} {A B C : World} (h : SameAt l A B) (k : SameAt l B C) : SameAt l A C := fun b hb => (k b hb).trans (h b hb)
theorem SameAt.put {l : List Nat} (W : World) (D : Nat) (o : Obj) (h : ∀ b ∈ l, b ≠ D) : SameAt l W (W.putObj D o) := fun b hb => World.putObj_heap_other (h b hb)

/-- what an iterator that writes block Bs owes to a loop whose body always goes on -/
def Feeds {α : Type} (F : Fence) (n : Nat) (P : Program) (g : Nat) (lb : Array Value) (encs : α → Array Value) (Bs N : Nat) (own : List Nat) (I : List α → World → Prop) (S : List α → Prop) (W : World) : Prop :=
  ∀ (l : Nat) (G : World → Prop), (∀ X v, G X → G (X.setCell ⟨Bs, 0, none⟩ v)) → (∀ X q, G X → G (World.drewN X q)) →
    (∀ pre x X, pre.length < N → I pre X → G X → YieldAt F (n - 1) P l (encs x) X fun e X' => e = .returned (.bool true) ∧ I (pre ++ [x]) X' ∧ G X' ∧ SameAt own X X') →
    ∀ X, SameAt own W X → I [] X → G X → CallsIn F n P g (#[.func (.yield l) #[] #[]] ++ lb) X fun e X' => (∃ v, e = .returned v) ∧ ∃ xs, S xs ∧ I xs X' ∧ G X'

theorem heap_setCell_other (W : World) (b k : Nat) (v : Value) (h : k ≠ b) : (W.setCell ⟨b, 0, none⟩ v).heap[k]? = W.heap[k]? := Below.heap_setCell _ _ _ k h

set_option maxHeartbeats 1600000 in
theorem range_goes {F : Fence} {n : Nat} {P : Program} {α : Type} {g : Operand} {ps : Array Tmp} {assign body : Code} {Q : Exit → Act → World → Prop} {a : Act} {w : World}
    (hro : F.round = none) (h1 : 1 ≤ n) {gf : Nat} {lb : Array Value} (hg : a.eval g = .func (.func gf) #[] lb) (hFg : F.fn gf) (eg : ∀ args w, (callFunc gf args).run P w = .ok (.enter gf args) w)
    {encs : α → Array Value} {Bs N : Nat} {own : List Nat} (hBs : Bs < w.heap.size) (hown : ∀ b ∈ own, b < w.heap.size) (hps : ∀ x, (encs x).size = ps.size) (I : List α → World → Prop) {S : List α → Prop}
    (hseq : Feeds F (n - 1) P gf lb encs Bs N own I S w)
    (hput : ∀ pre W l o o', w.heap.size ≤ l → W.heap[l]? = some o → o.isCells = false → I pre W → I pre (W.putObj l o')) (h0 : ∀ o o', I [] ((w.alloc o).alloc o'))
    (a₁ : α → Act)
    (hassign : ∀ (l : Nat) (x : α) (W : World) (K : Act → World → Prop), K (a₁ x) W →
      assign.wpIn (F.inRound l) (n - 1 - 1) P (Exit.then K (fun _ _ _ => False)) { tmps := (ps.zip (encs x)).foldl (fun t (p, v) => t.setIfInBounds p v) a.tmps, defers := [] } W)
    (hbody : ∀ (l : Nat) (pre : List α) (x : α) (W : World), w.heap.size ≤ l → pre.length < N → I pre W →
      body.wpIn (F.inRound l) (n - 1 - 1) P (fun e _ W'' => e = .normal ∧ I (pre ++ [x]) W'' ∧ SameAt own W W'' ∧ KeepsFrom w.heap.size W W'') (a₁ x) W)
    (hdone : ∀ (D : Nat) (xs : List α) (W : World), w.heap.size ≤ D → S xs → I xs W → W.heap[D]? = some (.deferred (some [])) → Q .normal { a with defers := { target := .collected D, args := #[] } :: a.defers } W) :
    (Code.rangeFunc g ps assign body).wpIn F n P Q a w := by
  refine wpIn_rangeFunc ?_
  intro fn hfn
  rw [hro]
  obtain ⟨rec, hrec⟩ : ∃ rec : LoopState → Option Code → Loop, rec = fun st pe => { state := st, pending := pe, fn, tmps := a.tmps, params := ps, assign, body, defers := w.heap.size } := ⟨_, rfl⟩
  obtain ⟨W1, hW1⟩ : ∃ W1, (w.alloc (.deferred (some []))).alloc (.loop (rec .ready none)) = W1 := ⟨_, rfl⟩
  have hL1 : W1.heap[w.heap.size + 1]? = some (.loop (rec .ready none)) := by
    rw [← hW1]; have := World.alloc_heap_new (w.alloc (.deferred (some []))) (.loop (rec .ready none)); rwa [World.size_alloc] at this
  have hK1 : W1.heap[w.heap.size]? = some (.deferred (some [])) := by
    rw [← hW1]; exact (Below.heap_alloc _ _ _ (by simp)).trans (World.alloc_heap_new w _)
  have hI1 : I [] W1 := by rw [← hW1]; exact h0 _ _
  have hS1 : SameAt own w W1 := fun b hb => by
    have := hown b hb
    rw [← hW1]; exact (Below.heap_alloc _ _ _ (by simp; omega)).trans (Below.heap_alloc _ _ _ this)
  refine ⟨w.heap.size + 1, [{ target := .collected w.heap.size, args := #[] }], W1, { target := .fn (.func gf) lb, args := #[.func (.yield (w.heap.size + 1)) #[] #[]] }, W1, gf,
    #[.func (.yield (w.heap.size + 1)) #[] #[]] ++ lb, W1, ?_, ?_, ?_, ?_, fun _ => h1, ?_⟩
  · rw [← hW1, hrec]; exact run_enterLoop_outer _ _ _ _ _
  · simp only [resolve, hg]
    simp [go_sem]
  · intro f' hf'; simp [Target.leads] at hf'; subst hf'; exact hFg
  · simp [invoke, go_sem, eg]
  · refine (hseq (w.heap.size + 1) (fun X => X.heap[w.heap.size + 1]? = some (.loop (rec .ready none)) ∧ X.heap[w.heap.size]? = some (.deferred (some [])))
      (fun X v h => ⟨(heap_setCell_other X Bs _ v (by omega)).trans h.1, (heap_setCell_other X Bs _ v (by omega)).trans h.2⟩) (fun X q h => h) ?_ W1 hS1 hI1 ⟨hL1, hK1⟩).mono ?_
    · rintro pre x W hN hi ⟨hl, hk⟩
      have hlt : w.heap.size + 1 < W.heap.size := (Array.getElem?_eq_some_iff.1 hl).1
      have hy := run_yield (P := P) (args := encs x) hl (by rw [hrec]; exact hps x)
      rw [hrec] at hy
      refine ⟨fn, _, assign, body, hy, roundIn_of_wpIn hfn (hassign _ x W _ ?_)⟩
      refine ⟨_, run_beginRound hl (by rw [hrec]), ?_⟩
      obtain ⟨Wb, hWb⟩ : ∃ Wb, W.putObj (w.heap.size + 1) (.loop { rec .ready none with state := .busy }) = Wb := ⟨_, rfl⟩
      have hl2 : Wb.heap[w.heap.size + 1]? = some (.loop { rec .ready none with state := .busy }) := by rw [← hWb]; exact World.putObj_heap_same hlt
      have hk2 : Wb.heap[w.heap.size]? = some (.deferred (some [])) := by rw [← hWb]; exact (World.putObj_heap_other (by omega)).trans hk
      have hs2 : SameAt own W Wb := by rw [← hWb]; exact SameAt.put W _ _ fun b hb => by have := hown b hb; omega
      have hi2 : I pre Wb := by rw [← hWb]; exact hput _ _ _ _ _ (by omega) hl rfl hi
      rw [hWb]
      refine wpIn_mono (hbody _ pre x Wb (by omega) hN hi2) ?_
      rintro e a3 W3 ⟨rfl, hi3, hs3, hk3⟩
      have hl3 := hk3.same _ _ (by omega) hl2 rfl
      have hk4 := hk3.same _ _ (Nat.le_refl _) hk2 rfl
      have hr := run_endRound (P := P) none hl3
      rw [hrec] at hr
      refine ⟨_, _, hr, rfl, hput _ _ _ _ _ (by omega) hl3 rfl hi3, ⟨?_, (World.putObj_heap_other (by omega)).trans hk4⟩, hs2.trans (hs3.trans (SameAt.put W3 _ _ fun b hb => by have := hown b hb; omega))⟩
      rw [hrec]
      exact World.putObj_heap_same (Array.getElem?_eq_some_iff.1 hl3).1
    · rintro e W2 ⟨⟨v, rfl⟩, xs, hS, hi, hl, hk⟩
      exact ⟨none, _, by have := run_endLoop (P := P) hl (by rw [hrec]; simp); rw [hrec] at this; exact this, hdone _ xs _ (Nat.le_refl _) hS (hput _ _ _ _ _ (by omega) hl rfl hi) ((World.putObj_heap_other (by omega)).trans hk)⟩
end Go.Proofs.YtdpapalfafjncaaGreatDoor
