/- A range over a function whose iterator writes a variable that it has captured (block Bs): a body that always goes on. Conditions: stated in each. strings.SplitSeq at a blank: what its iterator hands out. Conditions: stated in each. strings.SplitSeq: the iterator's value and its three boxes. orderOf: a line's word and its numbers. Conditions: the numbers are below 1000, and few. A line of the script on the desk: a word with numbers as its rest. Conditions: stated in each. A script that lists numbers and asks for their halves and their total. Conditions: the numbers are in range, one at least. -/
import Derived.RangeFuncNested
import Derived.RangeFuncLeaves
import Derived.Test.YtdpapalfafjncaaGreatDoorZh
import Derived.TacticsInMore
import Derived.LoopNIn
import Derived.LoopIn
import Derived.Shelf.Abstract
import Derived.Test.YtdpapalfafjncaaGreatDoorZg
set_option linter.unusedVariables false
set_option linter.unusedSimpArgs false
set_option linter.unusedSectionVars false
namespace Go.Proofs.YtdpapalfafjncaaGreatDoor
open Go.RowKit

/-- the iterator's own cells lie as they lay -/
def SameAt (l : List Nat) (A B : World) : Prop := ∀ b ∈ l, B.heap[b]? = A.heap[b]?
theorem SameAt.trans {l : List Nat} {A B C : World} (h : SameAt l A B) (k : SameAt l B C) : SameAt l A C := fun b hb => (k b hb).trans (h b hb)
theorem SameAt.put {l : List Nat} (W : World) (D : Nat) (o : Obj) (h : ∀ b ∈ l, b ≠ D) : SameAt l W (W.putObj D o) := fun b hb => World.putObj_heap_other (h b hb)

/-- what an iterator that writes block Bs owes to a loop whose body always goes on -/
def Feeds {α : Type} (F : Fence) (n : Nat) (P : Program) (g : Nat) (lb : Array Value) (encs : α → Array Value) (Bs N : Nat) (own : List Nat) (I : List α → World → Prop) (S : List α → Prop) (W : World) : Prop :=
  ∀ (l : Nat) (G : World → Prop), (∀ X v, G X → G (X.setCell ⟨Bs, 0, none⟩ v)) → (∀ X q, G X → G (World.drewN X q)) →
    (∀ pre x X, pre.length < N → I pre X → G X → YieldAt F (n - 1) P l (encs x) X fun e X' => e = .returned (.bool true) ∧ I (pre ++ [x]) X' ∧ G X' ∧ SameAt own X X') →
    ∀ X, SameAt own W X → I [] X → G X → CallsIn F n P g (#[.func (.yield l) #[] #[]] ++ lb) X fun e X' => (∃ v, e = .returned v) ∧ ∃ xs, S xs ∧ I xs X' ∧ G X'

theorem heap_setCell_other (W : World) (b k : Nat) (v : Value) (h : k ≠ b) : (W.setCell ⟨b, 0, none⟩ v).heap[k]? = W.heap[k]? := Below.heap_setCell _ _ _ k h

set_option maxHeartbeats 1600000 in
theorem range_goes {F : Fence} {n : Nat} {P : Program} {α : Type} {g : Operand} {ps : Array Tmp} {assign body : Code} {Q : Exit → Act → World → Prop} {a : Act} {w : World}
    (hro : F.round = none) (h1 : 1 ≤ n) {gf : Nat} {lb : Array Value} (hg : a.eval g = .func (.func gf) #[] lb) (hFg : F.fn gf) (eg : ∀ args w, (callFunc gf args).run P w = .ok (.enter gf args) w)
    {encs : α → Array Value} {Bs N : Nat} {own : List Nat} (hBs : Bs < w.heap.size) (hown : ∀ b ∈ own, b < w.heap.size) (hps : ∀ x, (encs x).size = ps.size) (I : List α → World → Prop) {S : List α → Prop}
    (hseq : Feeds F (n - 1) P gf lb encs Bs N own I S w)
    (hput : ∀ pre W l o o', w.heap.size ≤ l → W.heap[l]? = some o → o.isCells = false → I pre W → I pre (W.putObj l o')) (h0 : ∀ o o', I [] ((w.alloc o).alloc o'))
    (a₁ : α → Act)
    (hassign : ∀ (l : Nat) (x : α) (W : World) (K : Act → World → Prop), K (a₁ x) W →
      assign.wpIn (F.inRound l) (n - 1 - 1) P (Exit.then K (fun _ _ _ => False)) { tmps := (ps.zip (encs x)).foldl (fun t (p, v) => t.setIfInBounds p v) a.tmps, defers := [] } W)
    (hbody : ∀ (l : Nat) (pre : List α) (x : α) (W : World), w.heap.size ≤ l → pre.length < N → I pre W →
      body.wpIn (F.inRound l) (n - 1 - 1) P (fun e _ W'' => e = .normal ∧ I (pre ++ [x]) W'' ∧ SameAt own W W'' ∧ KeepsFrom w.heap.size W W'') (a₁ x) W)
    (hdone : ∀ (D : Nat) (xs : List α) (W : World), w.heap.size ≤ D → S xs → I xs W → W.heap[D]? = some (.deferred (some [])) → Q .normal { a with defers := { target := .collected D, args := #[] } :: a.defers } W) :
    (Code.rangeFunc g ps assign body).wpIn F n P Q a w := by
  refine wpIn_rangeFunc ?_
  intro fn hfn
  rw [hro]
  obtain ⟨rec, hrec⟩ : ∃ rec : LoopState → Option Code → Loop, rec = fun st pe => { state := st, pending := pe, fn, tmps := a.tmps, params := ps, assign, body, defers := w.heap.size } := ⟨_, rfl⟩
  obtain ⟨W1, hW1⟩ : ∃ W1, (w.alloc (.deferred (some []))).alloc (.loop (rec .ready none)) = W1 := ⟨_, rfl⟩
  have hL1 : W1.heap[w.heap.size + 1]? = some (.loop (rec .ready none)) := by
    rw [← hW1]; have := World.alloc_heap_new (w.alloc (.deferred (some []))) (.loop (rec .ready none)); rwa [World.size_alloc] at this
  have hK1 : W1.heap[w.heap.size]? = some (.deferred (some [])) := by
    rw [← hW1]; exact (Below.heap_alloc _ _ _ (by simp)).trans (World.alloc_heap_new w _)
  have hI1 : I [] W1 := by rw [← hW1]; exact h0 _ _
  have hS1 : SameAt own w W1 := fun b hb => by
    have := hown b hb
    rw [← hW1]; exact (Below.heap_alloc _ _ _ (by simp; omega)).trans (Below.heap_alloc _ _ _ this)
  refine ⟨w.heap.size + 1, [{ target := .collected w.heap.size, args := #[] }], W1, { target := .fn (.func gf) lb, args := #[.func (.yield (w.heap.size + 1)) #[] #[]] }, W1, gf,
    #[.func (.yield (w.heap.size + 1)) #[] #[]] ++ lb, W1, ?_, ?_, ?_, ?_, fun _ => h1, ?_⟩
  · rw [← hW1, hrec]; exact run_enterLoop_outer _ _ _ _ _
  · simp only [resolve, hg]
    simp [go_sem]
  · intro f' hf'; simp [Target.leads] at hf'; subst hf'; exact hFg
  · simp [invoke, go_sem, eg]
  · refine (hseq (w.heap.size + 1) (fun X => X.heap[w.heap.size + 1]? = some (.loop (rec .ready none)) ∧ X.heap[w.heap.size]? = some (.deferred (some [])))
      (fun X v h => ⟨(heap_setCell_other X Bs _ v (by omega)).trans h.1, (heap_setCell_other X Bs _ v (by omega)).trans h.2⟩) (fun X q h => h) ?_ W1 hS1 hI1 ⟨hL1, hK1⟩).mono ?_
    · rintro pre x W hN hi ⟨hl, hk⟩
      have hlt : w.heap.size + 1 < W.heap.size := (Array.getElem?_eq_some_iff.1 hl).1
      have hy := run_yield (P := P) (args := encs x) hl (by rw [hrec]; exact hps x)
      rw [hrec] at hy
      refine ⟨fn, _, assign, body, hy, roundIn_of_wpIn hfn (hassign _ x W _ ?_)⟩
      refine ⟨_, run_beginRound hl (by rw [hrec]), ?_⟩
      obtain ⟨Wb, hWb⟩ : ∃ Wb, W.putObj (w.heap.size + 1) (.loop { rec .ready none with state := .busy }) = Wb := ⟨_, rfl⟩
      have hl2 : Wb.heap[w.heap.size + 1]? = some (.loop { rec .ready none with state := .busy }) := by rw [← hWb]; exact World.putObj_heap_same hlt
      have hk2 : Wb.heap[w.heap.size]? = some (.deferred (some [])) := by rw [← hWb]; exact (World.putObj_heap_other (by omega)).trans hk
      have hs2 : SameAt own W Wb := by rw [← hWb]; exact SameAt.put W _ _ fun b hb => by have := hown b hb; omega
      have hi2 : I pre Wb := by rw [← hWb]; exact hput _ _ _ _ _ (by omega) hl rfl hi
      rw [hWb]
      refine wpIn_mono (hbody _ pre x Wb (by omega) hN hi2) ?_
      rintro e a3 W3 ⟨rfl, hi3, hs3, hk3⟩
      have hl3 := hk3.same _ _ (by omega) hl2 rfl
      have hk4 := hk3.same _ _ (Nat.le_refl _) hk2 rfl
      have hr := run_endRound (P := P) none hl3
      rw [hrec] at hr
      refine ⟨_, _, hr, rfl, hput _ _ _ _ _ (by omega) hl3 rfl hi3, ⟨?_, (World.putObj_heap_other (by omega)).trans hk4⟩, hs2.trans (hs3.trans (SameAt.put W3 _ _ fun b hb => by have := hown b hb; omega))⟩
      rw [hrec]
      exact World.putObj_heap_same (Array.getElem?_eq_some_iff.1 hl3).1
    · rintro e W2 ⟨⟨v, rfl⟩, xs, hS, hi, hl, hk⟩
      exact ⟨none, _, by have := run_endLoop (P := P) hl (by rw [hrec]; simp); rw [hrec] at this; exact this, hdone _ xs _ (Nat.le_refl _) hS (hput _ _ _ _ _ (by omega) hl rfl hi) ((World.putObj_heap_other (by omega)).trans hk)⟩
end Go.Proofs.YtdpapalfafjncaaGreatDoor
namespace Go.Proofs.YtdpapalfafjncaaGreatDoor
open Go.RowKit Go.Shelf
attribute [local go_sem] Oper.semAt_some

/-- what is left of the text when k numbers have been handed out -/
def leftT (zs : List (Fin 1000)) (k : Nat) : List UInt8 := spT ((zs.drop k).map fun x => (x.val : Int))
theorem dgs_no32 (n : Nat) (_h : n < 1000) : (32 : UInt8) ∉ dgs n := fun hm => by
  have := dgs_mem n 32 hm
  simp at this
theorem left_last (zs : List (Fin 1000)) (x : Fin 1000) (k : Nat) (h : zs.drop k = [x]) : leftT zs k = dgs x.val := by
  unfold leftT; rw [h]; simp [spT]
theorem left_more (zs : List (Fin 1000)) (x : Fin 1000) (k : Nat) (hk : k + 1 < zs.length) (hx : zs[k]'(by omega) = x) : leftT zs k = dgs x.val ++ 32 :: leftT zs (k + 1) := by
  unfold leftT
  rw [List.drop_eq_getElem_cons (show k < zs.length by omega), hx, List.map_cons, spT_cons (by simp; omega)]
  simp

theorem left_le (zs : List (Fin 1000)) (k : Nat) (hl : zs.length ≤ 1000) : (leftT zs k).length ≤ 7000 := by
  have := spT_le ((zs.drop k).map fun x => (x.val : Int)) fun y hy => by
    obtain ⟨x, _, rfl⟩ := List.mem_map.1 hy
    have := x.isLt
    omega
  have h2 : ((zs.drop k).map fun x => (x.val : Int)).length ≤ zs.length := by simp
  unfold leftT
  omega

/-- the three boxes of the iterator: the separator, what is left, and how much of the separator is kept -/
def SeqBoxes (B : Nat) (s : List UInt8) (W : World) : Prop := Boxed W B 9 (.string ⟨s.toArray⟩) ∧ Boxed W (B + 1) 9 (.string ⟨#[32]⟩) ∧ Boxed W (B + 2) 3 (.int .i64 0)
theorem SeqBoxes.same {B : Nat} {s : List UInt8} {W W' : World} (h : SeqBoxes B s W) (k : SameAt [B, B + 1, B + 2] W W') : SeqBoxes B s W' :=
  ⟨(k B (by simp)).trans h.1, (k (B + 1) (by simp)).trans h.2.1, (k (B + 2) (by simp)).trans h.2.2⟩
theorem SeqBoxes.set {B : Nat} {s s' : List UInt8} {W : World} (h : SeqBoxes B s W) : SeqBoxes B s' (W.setCell ⟨B, 0, none⟩ (.string ⟨s'.toArray⟩)) :=
  ⟨h.1.set _, h.2.1.other (by omega) _, h.2.2.other (by omega) _⟩

def lenAt (B : Nat) (W : World) : Nat := match W.cell? ⟨B, 0, none⟩ with | some (.string s) => s.size | _ => 0

theorem lenAt_of {B : Nat} {W : World} {s : ByteArray} (h : W.cell? ⟨B, 0, none⟩ = some (.string s)) : lenAt B W = s.size := by simp [lenAt, h]

set_option maxRecDepth 100000 in
set_option maxHeartbeats 2000000 in
theorem seq_feeds (n B : Nat) (zs : List (Fin 1000)) (hz : 0 < zs.length) (hl : zs.length ≤ 1000) (I : List (Fin 1000) → World → Prop) (W : World) (hB : SeqBoxes B (leftT zs 0) W)
    (hset : ∀ pre X v, I pre X → I pre (X.setCell ⟨B, 0, none⟩ v)) :
    Feeds Fence.wide n Tryz.prog 152 #[.pointer (some ⟨B + 1, 0, none⟩), .pointer (some ⟨B, 0, none⟩), .pointer (some ⟨B + 2, 0, none⟩)] (fun x : Fin 1000 => #[.string ⟨(dgs x.val).toArray⟩]) B zs.length [B, B + 1, B + 2] I (fun xs => xs = zs) W := by
  intro l G hGs hGd hY X hSame hI0 hG0
  have hBX := hB.same hSame
  have c1 := hBX.1.cell
  have c2 := hBX.2.1.cell
  have c3 := hBX.2.2.cell
  refine callsIn_of_wp Tryz.func152 rfl trivial ?_ rfl
  simp only [Tryz.ntmps152, List.size_toArray, List.length_cons, List.length_nil, Nat.reduceAdd, Nat.reduceSub, Array.replicate_succ, Array.replicate_zero, List.push_toArray, List.append_toArray, List.nil_append, List.cons_append]
  gi_wp2
  gi_loopw [7] (fun _ wr => ∃ k : Nat, k < zs.length ∧ I (zs.take k) wr ∧ G wr ∧ SeqBoxes B (leftT zs k) wr) (fun _ wr => lenAt B wr)
  case atStart => exact ⟨0, hz, hI0, hG0, hBX⟩
  case round =>
    obtain ⟨k, hk, hI, hG, hB2⟩ := hrel
    obtain ⟨x, hx⟩ : ∃ x, zs[k]'hk = x := ⟨_, rfl⟩
    have d1 := hB2.1.cell
    have d2 := hB2.2.1.cell
    have d3 := hB2.2.2.cell
    have hdl := dgs_len x.isLt
    have HB2 := Lib.hid hB2
    have htk : zs.take (k + 1) = zs.take k ++ [x] := by rw [List.take_add_one, List.getElem?_eq_getElem hk, hx]; rfl
    clear c1 c2 c3 hBX hI0 hG0 hSame hB hB2
    obtain ⟨fn, tmps, assign, body, hy, hR⟩ := hY _ x wr (by rw [List.length_take]; omega) hI hG
    have HR := Lib.hid hR
    rw [← htk] at HR
    clear hR hY
    by_cases hlt : k + 1 < zs.length
    · have hm := left_more zs x k hlt hx
      have HX := Lib.hid (Tryz.strings_Index_one ⟨(dgs x.val ++ 32 :: leftT zs (k + 1)).toArray⟩ 32 wr)
      have hi : Lib.indexByte (dgs x.val ++ 32 :: leftT zs (k + 1)) 32 = (dgs x.val).length := indexByte_at (dgs_no32 _ x.isLt)
      simp only [hi] at HX
      rw [hm] at d1
      have HM := Lib.hid hm
      clear hi hm
      have hcl := cutL (dgs x.val) (leftT zs (k + 1)) 32
      have hcr := cutR (dgs x.val) (leftT zs (k + 1)) 32
      have hsz : (⟨(dgs x.val ++ 32 :: leftT zs (k + 1)).toArray⟩ : ByteArray).size = (dgs x.val).length + (leftT zs (k + 1)).length + 1 := by simp [ByteArray.size]; omega
      have hll : (leftT zs (k + 1)).length ≤ 7000 := left_le zs (k + 1) hl
      have HCR := Lib.hid hcr
      gi_wp2_with (refine ⟨trivial, (fun h => by cases h), ?_⟩; gi_at_call 154; refine (callsIn_wide.2 HX.out).mono ?_; rintro e w' ⟨rfl, rfl⟩)
      refine ⟨(fun h => by cases h), HR.out.mono ?_⟩
      rintro e W3 ⟨rfl, hI3, hG3, hS3⟩
      have hB3 := HB2.out.same hS3
      rw [HM.out] at hB3
      have g1 := hB3.1.cell
      have gf := hB3.1.frozen
      have g2 := hB3.2.1.cell
      have g3 := hB3.2.2.cell
      have HB3 := Lib.hid hB3
      clear d1 d2 d3 hB3
      gi_wp2
      have q1 := lenAt_of (HB3.out.set (s' := leftT zs (k + 1))).1.cell
      have q2 := lenAt_of HB2.out.1.cell
      rw [HM.out] at q2
      refine ⟨⟨k + 1, hlt, hset _ _ _ hI3, hGs _ _ hG3, HB3.out.set⟩, ?_⟩
      rw [q1, q2]
      simp [ByteArray.size]
      omega
    · have hm := left_last zs x k (by rw [List.drop_eq_getElem_cons hk, hx, List.drop_eq_nil_of_le (by omega)])
      have HX := Lib.hid (Tryz.strings_Index_one ⟨(dgs x.val).toArray⟩ 32 wr)
      have hi : Lib.indexByte (dgs x.val) 32 = -1 := indexByte_none (dgs_no32 _ x.isLt)
      simp only [hi] at HX
      rw [hm] at d1
      have HM := Lib.hid hm
      clear hi hm
      gi_wp2_with (refine ⟨trivial, (fun h => by cases h), ?_⟩; gi_at_call 154; refine (callsIn_wide.2 HX.out).mono ?_; rintro e w' ⟨rfl, rfl⟩)
      refine ⟨(fun h => by cases h), HR.out.mono ?_⟩
      rintro e W3 ⟨rfl, hI3, hG3, hS3⟩
      gi_wp2
      go_end0
      refine ⟨⟨_, rfl⟩, zs, rfl, ?_, hG3⟩
      rwa [List.take_of_length_le (by omega)] at hI3
end Go.Proofs.YtdpapalfafjncaaGreatDoor
namespace Go.Proofs.YtdpapalfafjncaaGreatDoor
open Go.RowKit Go.Shelf
attribute [local go_sem] Oper.semAt_some

/-- the world with the iterator's three boxes -/
def seqWorld (s : ByteArray) (w : World) : World := ((w.alloc (.cells #[.string s] 9)).alloc (.cells #[.string ⟨#[32]⟩] 9)).alloc (.cells #[.int .i64 0] 3)
def seqEnd (B : Nat) : Ending := .returned (.func (.func 152) #[] #[.pointer (some ⟨B + 1, 0, none⟩), .pointer (some ⟨B, 0, none⟩), .pointer (some ⟨B + 2, 0, none⟩)])

theorem splitSeq_any (s : ByteArray) (w : World) :
    Calls Tryz.prog 125 #[.string s, .string ⟨#[32]⟩, .int .i64 0] w fun e w' => e = seqEnd w.heap.size ∧ w' = seqWorld s w := by
  go_enter Tryz.func125, Tryz.ntmps125
  go_wp2_with fail
  go_ret
  exact ⟨rfl, rfl⟩

theorem SplitSeq_any (s : ByteArray) (w : World) :
    Calls Tryz.prog 85 #[.string s, .string ⟨#[32]⟩] w fun e w' => e = seqEnd w.heap.size ∧ w' = seqWorld s w := by
  have HS := Lib.hid (splitSeq_any s w)
  go_enter Tryz.func85, Tryz.ntmps85
  go_wp2_with fail
  refine HS.out.mono ?_
  rintro e w1 ⟨rfl, rfl⟩
  unfold seqEnd
  simp only []
  go_wp2_with fail
  go_ret
  exact ⟨rfl, rfl⟩

theorem seqWorld_boxes (s : List UInt8) (w : World) : SeqBoxes w.heap.size s (seqWorld ⟨s.toArray⟩ w) := by
  have b1 := Boxed.new w 9 (.string ⟨s.toArray⟩)
  have b2 := Boxed.new (w.alloc (.cells #[.string ⟨s.toArray⟩] 9)) 9 (.string ⟨#[32]⟩)
  have b3 := Boxed.new ((w.alloc (.cells #[.string ⟨s.toArray⟩] 9)).alloc (.cells #[.string ⟨#[32]⟩] 9)) 3 (.int .i64 0)
  simp only [World.size_alloc] at b2 b3
  exact ⟨(b1.alloc _).alloc _, b2.alloc _, b3⟩
theorem seqWorld_size (s : ByteArray) (w : World) : (seqWorld s w).heap.size = w.heap.size + 3 := by simp [seqWorld]
theorem seqWorld_below (s : ByteArray) (w : World) : Below w.heap.size w (seqWorld s w) :=
  (((Below.refl _ w).alloc (Nat.le_refl _) _).alloc (by simp) _).alloc (by simp; omega) _
end Go.Proofs.YtdpapalfafjncaaGreatDoor
namespace Go.Proofs.YtdpapalfafjncaaGreatDoor
open Go.RowKit Go.Shelf
attribute [local go_sem] Oper.semAt_some

/-- the order while its numbers come in: block o holds the line, the word and the numbers put so far -/
def OrdAt (o base : Nat) (ln wd : ByteArray) (ns : List Int) (W : World) : Prop :=
  ∃ v, W.heap[o]? = some (.cells #[.string ln, .string wd, v] 72 (0, 0)) ∧ OwnI W base v ns
def ResB (b : Nat) (W : World) : Prop := W.heap[b]? = some (.cells #[.string ⟨#[]⟩, .string ⟨#[]⟩, .slice none 0 0] 72 (0, 0))
def OrdI (r o base Bl : Nat) (ln wd : ByteArray) (w0 : World) (pre : List (Fin 1000)) (W : World) : Prop :=
  OrdAt o base ln wd (pre.map fun x => (x.val : Int)) W ∧ Below w0.heap.size w0 W ∧ Bl ≤ W.heap.size ∧ ResB r W
theorem put3 {W : World} {b j : Nat} {t : TypeId} {cs : Array Value} {u : Value} (_hj : j < 3) (h : W.heap[b]? = some (.cells cs t (0, 0))) : (W.setCell ⟨b, j, none⟩ u).heap[b]? = some (.cells (cs.setIfInBounds j u) t (0, 0)) := by
  obtain ⟨hlt, hk⟩ := Array.getElem?_eq_some_iff.1 h
  show (W.heap.modify b _)[b]? = _
  rw [Array.getElem?_eq_getElem (by rw [Array.size_modify]; exact hlt), Array.getElem_modify_self, hk]
  rfl
theorem set_field {W : World} {b : Nat} {t : TypeId} {x y v u : Value} (h : W.heap[b]? = some (.cells #[x, y, v] t (0, 0))) : (W.setCell ⟨b, 2, none⟩ u).heap[b]? = some (.cells #[x, y, u] t (0, 0)) := by
  obtain ⟨hlt, hk⟩ := Array.getElem?_eq_some_iff.1 h
  show (W.heap.modify b _)[b]? = _
  rw [Array.getElem?_eq_getElem (by rw [Array.size_modify]; exact hlt), Array.getElem_modify_self, hk]
  rfl
theorem ResB.grown {b : Nat} {W W' : World} {row : Option Nat} (h : ResB b W) (hg : W.grownBy W' row) (hb : row ≠ some b) : ResB b W' := (hg.block b (Array.getElem?_eq_some_iff.1 h).1 (fun e => hb e.symm)).trans h
theorem OrdAt.grown {o base : Nat} {ln wd : ByteArray} {ns : List Int} {W W' : World} {row : Option Nat} (h : OrdAt o base ln wd ns W) (hg : W.grownBy W' row) (ho : row ≠ some o) (hb : ∀ r, row = some r → r < base ∨ ∃ x, W.heap[r]? = some x ∧ x.isCells = false) : OrdAt o base ln wd ns W' := by
  obtain ⟨v, h1, h2⟩ := h
  refine ⟨v, (hg.block o (Array.getElem?_eq_some_iff.1 h1).1 (fun e => ho e.symm)).trans h1, h2.kept hg ?_⟩
  cases hv : v.ownBlock with
  | none => exact .inl rfl
  | some g =>
    refine .inr fun e => ?_
    subst e
    obtain ⟨h3, h4⟩ := h2.lt g hv
    rcases hb g rfl with h | ⟨x, hx, hc⟩
    · omega
    · rcases h2.2 with ⟨rfl, _⟩ | ⟨g', cap, cur, rfl, _, hg', _⟩
      · cases hv
      · cases hv
        rw [hg'] at hx; cases hx; cases hc

theorem undg_bd : ∀ (l : List UInt8) (v : Nat), (∀ b ∈ l, b.toNat ≤ 57) → undg l v + 1 ≤ 10 ^ l.length * (v + 1)
  | [], v, _ => by simp [undg]
  | b :: l, v, h => by
    have h1 := undg_bd l (10 * v + (b.toNat - 48)) fun c hc => h c (List.mem_cons_of_mem _ hc)
    have h2 := h b (by simp)
    rw [undg]
    refine Nat.le_trans h1 ?_
    rw [List.length_cons, Nat.pow_succ, Nat.mul_assoc]
    exact Nat.mul_le_mul_left _ (by omega)

set_option maxRecDepth 100000 in
set_option maxHeartbeats 2000000 in
theorem orderOf_in (n : Nat) (hn : 1 ≤ n) (ln wd : ByteArray) (zs : List (Fin 1000)) (hz : 0 < zs.length) (hl : zs.length ≤ 1000) (w : World) :
    CallsIn Fence.wide n Tryz.prog 44 #[.string ln, .string wd, .string ⟨(leftT zs 0).toArray⟩] w fun e w' => ∃ a cap, e = .returned (.agg #[.string ln, .string wd, .slice a zs.length cap]) ∧ OwnI w' w.heap.size (.slice a zs.length cap) (zs.map fun x => (x.val : Int)) ∧ Below w.heap.size w w' := by
  have HQ := Lib.hid (fun W => SplitSeq_any ⟨(leftT zs 0).toArray⟩ W)
  refine callsIn_of_wp_marks Tryz.func44 rfl trivial ?_ rfl
  simp only [Tryz.ntmps44, List.size_toArray, List.length_cons, List.length_nil, Nat.reduceAdd, Nat.reduceSub, Array.replicate_succ, Array.replicate_zero, List.push_toArray, List.append_toArray, List.nil_append, List.cons_append]
  gi_wp2_with (refine ⟨trivial, ?_⟩; gi_at_call 85; refine (callsIn_wide.2 (HQ.out _)).mono ?_; rintro e w' ⟨rfl, rfl⟩; unfold seqEnd; simp only [])
  obtain ⟨Wc, hWc⟩ : ∃ Wc, ((w.alloc (.cells #[.string ln] 9)).alloc (.cells #[.string ⟨#[]⟩, .string ⟨#[]⟩, .slice none 0 0] 72)).alloc (.cells #[.string ln, .string wd, .slice none 0 0] 72) = Wc := ⟨_, rfl⟩
  have hsz : Wc.heap.size = w.heap.size + 3 := by rw [← hWc]; simp
  have hBel : Below w.heap.size w Wc := by rw [← hWc]; exact (((Below.refl _ w).alloc (Nat.le_refl _) _).alloc (by simp) _).alloc (by simp; omega) _
  have hord : Wc.heap[w.heap.size + 2]? = some (.cells #[.string ln, .string wd, .slice none 0 0] 72 (0, 0)) := by
    rw [← hWc]
    have := World.alloc_heap_new ((w.alloc (.cells #[.string ln] 9)).alloc (.cells #[.string ⟨#[]⟩, .string ⟨#[]⟩, .slice none 0 0] 72)) (.cells #[.string ln, .string wd, .slice none 0 0] 72)
    simpa using this
  have hresb : ResB (w.heap.size + 1) Wc := by
    rw [← hWc]
    have := World.alloc_heap_new (w.alloc (.cells #[.string ln] 9)) (.cells #[.string ⟨#[]⟩, .string ⟨#[]⟩, .slice none 0 0] 72)
    exact (Below.heap_alloc _ _ _ (by simp)).trans (by simpa using this)
  rw [hWc]
  have hbx := seqWorld_boxes (leftT zs 0) Wc
  have hsw := seqWorld_size ⟨(leftT zs 0).toArray⟩ Wc
  have hbw := seqWorld_below ⟨(leftT zs 0).toArray⟩ Wc
  rw [hsz] at hbx hsw
  simp only [hsz]
  generalize seqWorld ⟨(leftT zs 0).toArray⟩ Wc = Ws at *
  refine range_goes rfl hn (gf := 152) (lb := #[.pointer (some ⟨w.heap.size + 3 + 1, 0, none⟩), .pointer (some ⟨w.heap.size + 3, 0, none⟩), .pointer (some ⟨w.heap.size + 3 + 2, 0, none⟩)]) rfl trivial (enters_of Tryz.func152 (by kernel_rfl) rfl)
    (encs := fun x : Fin 1000 => #[.string ⟨(dgs x.val).toArray⟩]) (Bs := w.heap.size + 3) (own := [w.heap.size + 3, w.heap.size + 3 + 1, w.heap.size + 3 + 2]) (by omega) (by intro b hb; simp at hb; omega) (fun _ => rfl)
    (OrdI (w.heap.size + 1) (w.heap.size + 2) (w.heap.size + 6) (w.heap.size + 6) ln wd w) (S := fun xs => xs = zs)
    (seq_feeds (n - 1) (w.heap.size + 3) zs hz hl _ Ws hbx ?hset) ?put ?h0 ?a1 ?assign ?body ?done
  case assign =>
    intro l x W K hK
    gi_wp2
    exact hK
  case hset =>
    rintro pre X v ⟨h1, h2, h3, h4⟩
    exact ⟨h1.grown (grownBy_set X (w.heap.size + 3) 0 v) (by simp) (fun r e => by cases e; exact .inl (by omega)), h2.setCell (p := ⟨_, _, none⟩) (by simp) _, by simpa using h3, h4.grown (grownBy_set X (w.heap.size + 3) 0 v) (by simp)⟩
  case put =>
    rintro pre W l o o' hl ho hc ⟨h1, h2, h3, h4⟩
    exact ⟨h1.grown (grownBy_putObj' W l o') (by simp; omega) (fun r e => by cases e; exact .inr ⟨o, ho, hc⟩), h2.grown (grownBy_putObj' W l o') (by omega) (fun j hj => by cases hj; omega), by simpa using h3, h4.grown (grownBy_putObj' W l o') (by simp; omega)⟩
  case h0 =>
    intro o o'
    have h1 : Ws.heap[w.heap.size + 2]? = some (.cells #[.string ln, .string wd, .slice none 0 0] 72 (0, 0)) := (hbw.block _ (by rw [hsz]; omega)).trans hord
    have h2 : ((Ws.alloc o).alloc o').heap[w.heap.size + 2]? = some (.cells #[.string ln, .string wd, .slice none 0 0] 72 (0, 0)) := (Below.heap_alloc _ _ _ (by simp; omega)).trans ((Below.heap_alloc _ _ _ (by omega)).trans h1)
    exact ⟨⟨_, h2, World.ownsRow_nil _ _ _ _⟩, ((hBel.trans (hbw.mono (by omega))).alloc (by omega) _).alloc (by simp; omega) _, by simp; omega, (Below.heap_alloc _ _ _ (by simp; omega)).trans ((Below.heap_alloc _ _ _ (by omega)).trans ((hbw.block _ (by rw [hsz]; omega)).trans hresb))⟩
  case body =>
    rintro l pre x W hlW hpl ⟨⟨vo, hv, hO⟩, hB, hszW, hRB⟩
    have hdl := dgs_len x.isLt
    have hcv := run_bytes_of_string (P := Tryz.prog) W 9 22 5 ⟨(dgs x.val).toArray⟩ Tryz.underlying9 Tryz.underlying22 Tryz.underlying5
    obtain ⟨Cp, hCp⟩ : ∃ Cp, grownCap W (ByteArray.size ⟨(dgs x.val).toArray⟩) 0 5 = Cp := ⟨_, rfl⟩
    obtain ⟨Wd, hWd⟩ : ∃ Wd, W.drew.alloc (.cells (bytesRow ⟨(dgs x.val).toArray⟩ Cp) 5 ((bytesRow ⟨(dgs x.val).toArray⟩ Cp).size, (bytesRow ⟨(dgs x.val).toArray⟩ Cp).size + 1)) = Wd := ⟨_, rfl⟩
    have hcl : ∀ j (hj : j < (dgs x.val).length), Wd.cell? ⟨W.heap.size, j, none⟩ = some (.int .u8 (((dgs x.val)[j]'hj).toNat : Int)) := fun j hj => by
      rw [← hWd]
      have := World.cell?_alloc_mark W.drew (bytesRow ⟨(dgs x.val).toArray⟩ Cp) 5 ((bytesRow ⟨(dgs x.val).toArray⟩ Cp).size, (bytesRow ⟨(dgs x.val).toArray⟩ Cp).size + 1) j
      refine this.trans ((bytesRow_at ⟨(dgs x.val).toArray⟩ Cp j (by simpa using hj)).trans ?_)
      simp
    rw [hCp, hWd] at hcv
    have hsz2 : (ByteArray.size ⟨(dgs x.val).toArray⟩) = (dgs x.val).length := by simp [ByteArray.size]
    rw [hsz2] at hcv
    have HC := Lib.hid hcl
    have HCV := Lib.hid hCp
    have HV := Lib.hid hv
    have HO := Lib.hid hO
    have hgr : W.grownBy Wd none := by rw [← hWd]; have g := World.grownBy_alloc W.drew (.cells (bytesRow ⟨(dgs x.val).toArray⟩ Cp) 5 ((bytesRow ⟨(dgs x.val).toArray⟩ Cp).size, (bytesRow ⟨(dgs x.val).toArray⟩ Cp).size + 1)) none; exact ⟨g.os, g.tape, g.output, g.size, g.block⟩
    have hvd : Wd.heap[w.heap.size + 1 + 1]? = some (.cells #[.string ln, .string wd, vo] 72 (0, 0)) := (hgr.block _ (Array.getElem?_eq_some_iff.1 hv).1 (by simp)).trans hv
    have k2 : Wd.cell? ⟨w.heap.size + 1 + 1, 2, none⟩ = some vo := by simp [World.cell?, hvd]
    have kf : Wd.frozen? ⟨w.heap.size + 1 + 1, 2, none⟩ = false := by simp [World.frozen?, hvd]
    have HOd := Lib.hid (hO.kept hgr (by cases vo.ownBlock <;> simp))
    clear hcl hCp hv hO
    gi_wp2
    gi_loopw [9, 32] (fun v i wr => ∃ j : Nat, j ≤ (dgs x.val).length ∧ i = .int .i64 j ∧ v = .int .i64 (undg ((dgs x.val).take j) 0 : Nat) ∧ wr = Wd) (fun _ i _ => (dgs x.val).length - (intOf i).toNat)
    case atStart => exact ⟨0, by omega, rfl, rfl, rfl⟩
    case round =>
      obtain ⟨j, hj, rfl, rfl, rfl⟩ := hrel
      by_cases hlt : j < (dgs x.val).length
      · have hb := HC.out j hlt
        obtain ⟨b, hbd⟩ : ∃ b, (dgs x.val)[j]'hlt = b := ⟨_, rfl⟩
        have hb2 := dgs_mem x.val b (by rw [← hbd]; exact List.getElem_mem hlt)
        have htk : (dgs x.val).take (j + 1) = (dgs x.val).take j ++ [b] := by rw [List.take_add_one, List.getElem?_eq_getElem hlt, hbd]; rfl
        have HN : Hid (undg ((dgs x.val).take (j + 1)) 0 = 10 * undg ((dgs x.val).take j) 0 + (b.toNat - 48)) := by show _ = _; rw [htk, undg_app]
        have hbv : undg ((dgs x.val).take j) 0 < 1000 := by
          have := undg_bd ((dgs x.val).take j) 0 fun c hc => (dgs_mem x.val c (List.mem_of_mem_take hc)).2
          have h3 : ((dgs x.val).take j).length ≤ 3 := by simp; omega
          have h4 : 10 ^ ((dgs x.val).take j).length ≤ 10 ^ 3 := Nat.pow_le_pow_right (by omega) h3
          omega
        rw [hbd] at hb
        generalize undg ((dgs x.val).take j) 0 = V at *
        obtain ⟨m, hm⟩ : ∃ m, b.toNat = m := ⟨_, rfl⟩
        rw [hm] at hb hb2
        have HM := Lib.hid hm
        clear htk hbd hm
        have f1 : IntKind.u8.wrap ((m : Int) - 48) = (m : Int) - 48 := by unfold IntKind.wrap; simp [IntKind.bits, IntKind.signed]; omega
        have f2 : IntKind.i64.wrap ((m : Int) - 48) = (m : Int) - 48 := IntWalk.i64_in _ (by omega)
        have f3 : IntKind.i64.wrap (10 * (V : Int)) = 10 * (V : Int) := IntWalk.i64_in _ (by omega)
        have f4 : IntKind.i64.wrap (10 * (V : Int) + ((m : Int) - 48)) = 10 * (V : Int) + ((m : Int) - 48) := IntWalk.i64_in _ (by omega)
        gi_wp2
        refine ⟨⟨j + 1, hlt, by go_num, ?_, trivial⟩, by simp [intOf]; omega⟩
        rw [HN.out, HM.out]
        refine congrArg (Value.int .i64) ?_
        omega
      · obtain rfl : j = (dgs x.val).length := by omega
        rw [List.take_length, undg_dgs]
        have hOw := HOd.out
        have hlw := hOw.lt
        have hszr := hgr.size
        have hln : (pre.map fun x => (x.val : Int)).length ≤ 1000000 := by simp; omega
        have hbs : w.heap.size + 6 ≤ wr.heap.size := by omega
        gi_wp2_with (gi_at_builtin; refine append1In wr rfl _ _ rfl (w.heap.size + 6) vo _ (x.val : Int) rfl rfl hOw hln hbs ?_; intro v' w' hO' hG'; obtain ⟨a', c', rfl, _, _⟩ := hO'.shape; go_loud (have hv' : w'.heap[w.heap.size + 1 + 1]? = some (.cells #[.string ln, .string wd, vo] 72 (0, 0)) := (hG'.block _ (Array.getElem?_eq_some_iff.1 hvd).1 (fun e => by have := (hlw _ e.symm).1; omega)).trans hvd); go_loud (have k2' : w'.cell? ⟨w.heap.size + 1 + 1, 2, none⟩ = some vo := by simp [World.cell?, hv']); go_loud (have kf' : w'.frozen? ⟨w.heap.size + 1 + 1, 2, none⟩ = false := by simp [World.frozen?, hv']); go_loud (clear k2 kf))
        have HG := Lib.hid hgr
        refine ⟨⟨⟨_, set_field hv', ?_⟩, ?_, ?_, ?_⟩, ?_, ?_⟩
        · have h := hO'.kept_below (grownBy_set w' (w.heap.size + 1 + 1) 2 (.slice a' (pre.length + 1) c')) (fun r e => by cases e; omega)
          simpa using h
        · exact ((hB.grown HG.out (by omega) (by simp)).grown hG' (by omega) (fun k hk => by have := (hlw k hk).1; omega)).setCell (p := ⟨_, _, none⟩) (by simp; omega) _
        · have := hG'.size; simp; omega
        · exact ((hRB.grown HG.out (by simp)).grown hG' (fun e => by have := (hlw _ e).1; omega)).grown (grownBy_set w' _ 2 _) (by simp)
        · intro b hb
          simp at hb
          refine (Below.heap_setCell _ _ _ _ (by simp; omega)).trans ((hG'.block b (by omega) (fun e => by have := (hlw _ e.symm).1; omega)).trans (HG.out.block b (by omega) (by simp)))
        · refine ⟨by have := hG'.size; simp; omega, fun k o _ hk ho => ?_⟩
          have h1 : wr.heap[k]? = some o := (HG.out.block k (Array.getElem?_eq_some_iff.1 hk).1 (by simp)).trans hk
          refine (KeepsOthers.setCell _ _ _).same k o ((hG'.block k (Array.getElem?_eq_some_iff.1 h1).1 (fun e => ?_)).trans h1) ho
          rcases hOw.2 with ⟨rfl, _⟩ | ⟨g', cap, cur, rfl, _, hg', _⟩
          · cases e
          · cases e
            rw [h1] at hg'; cases hg'; cases ho
  case done =>
    rintro D xs W hD rfl ⟨⟨v, hv, hO⟩, hB, hszW, hRB⟩ hK
    obtain ⟨a', c', rfl, hI, _⟩ := hO.shape
    have d0 : W.cell? ⟨w.heap.size + 1 + 1, 0, none⟩ = some (.string ln) := by simp [World.cell?, hv]
    have d1 : W.cell? ⟨w.heap.size + 1 + 1, 1, none⟩ = some (.string wd) := by simp [World.cell?, hv]
    have d2 : W.cell? ⟨w.heap.size + 1 + 1, 2, none⟩ = some (.slice a' (xs.map fun x => (x.val : Int)).length c') := by simp [World.cell?, hv]
    have e0 : W.heap[w.heap.size + 1]? = some (.cells #[.string ⟨#[]⟩, .string ⟨#[]⟩, .slice none 0 0] 72 (0, 0)) := hRB
    have e1 := put3 (j := 0) (u := .string ln) (by decide) e0
    have e2 := put3 (j := 1) (u := .string wd) (by decide) e1
    have e3 := put3 (j := 2) (u := .slice a' (xs.map fun x => (x.val : Int)).length c') (by decide) e2
    have c0 : W.cell? ⟨w.heap.size + 1, 0, none⟩ = some (.string ⟨#[]⟩) := by simp [World.cell?, e0]
    have f0 : W.frozen? ⟨w.heap.size + 1, 0, none⟩ = false := by simp [World.frozen?, e0]
    have c1 : (W.setCell ⟨w.heap.size + 1, 0, none⟩ (.string ln)).cell? ⟨w.heap.size + 1, 1, none⟩ = some (.string ⟨#[]⟩) := by simp [World.cell?, e1]
    have f1 : (W.setCell ⟨w.heap.size + 1, 0, none⟩ (.string ln)).frozen? ⟨w.heap.size + 1, 1, none⟩ = false := by simp [World.frozen?, e1]
    have c2 : ((W.setCell ⟨w.heap.size + 1, 0, none⟩ (.string ln)).setCell ⟨w.heap.size + 1, 1, none⟩ (.string wd)).cell? ⟨w.heap.size + 1, 2, none⟩ = some (.slice none 0 0) := by simp [World.cell?, e2]
    have f2 : ((W.setCell ⟨w.heap.size + 1, 0, none⟩ (.string ln)).setCell ⟨w.heap.size + 1, 1, none⟩ (.string wd)).frozen? ⟨w.heap.size + 1, 2, none⟩ = false := by simp [World.frozen?, e2]
    gi_wp2
    have hk3 : (((W.setCell ⟨w.heap.size + 1, 0, none⟩ (.string ln)).setCell ⟨w.heap.size + 1, 1, none⟩ (.string wd)).setCell ⟨w.heap.size + 1, 2, none⟩ (.slice a' xs.length c')).heap[D]? = some (.deferred (some [])) :=
      (KeepsOthers.setCell _ _ _).same D _ ((KeepsOthers.setCell _ _ _).same D _ ((KeepsOthers.setCell _ _ _).same D _ hK rfl) rfl) rfl
    rw [List.length_map] at e3
    have hO3 : OwnI (((W.setCell ⟨w.heap.size + 1, 0, none⟩ (.string ln)).setCell ⟨w.heap.size + 1, 1, none⟩ (.string wd)).setCell ⟨w.heap.size + 1, 2, none⟩ (.slice a' xs.length c')) w.heap.size (.slice a' xs.length c') (xs.map fun x => (x.val : Int)) := by
      rw [List.length_map] at hO
      exact (((hO.kept_below (grownBy_set _ _ _ _) (fun r e => by cases e; omega)).kept_below (grownBy_set _ _ _ _) (fun r e => by cases e; omega)).kept_below (grownBy_set _ _ _ _) (fun r e => by cases e; omega)).mono (by omega)
    have hB3 : Below w.heap.size w (((W.setCell ⟨w.heap.size + 1, 0, none⟩ (.string ln)).setCell ⟨w.heap.size + 1, 1, none⟩ (.string wd)).setCell ⟨w.heap.size + 1, 2, none⟩ (.slice a' xs.length c')) :=
      ((hB.setCell (p := ⟨_, _, none⟩) (by simp) _).setCell (p := ⟨_, _, none⟩) (by simp) _).setCell (p := ⟨_, _, none⟩) (by simp) _
    generalize (((W.setCell ⟨w.heap.size + 1, 0, none⟩ (.string ln)).setCell ⟨w.heap.size + 1, 1, none⟩ (.string wd)).setCell ⟨w.heap.size + 1, 2, none⟩ (.slice a' xs.length c')) = W3 at *
    refine ⟨by simp, .inl ⟨_, _, rfl, run_takeDeferred hk3, ?_⟩⟩
    have g0 : (W3.putObj D (.deferred none)).heap[w.heap.size + 1]? = _ := (World.putObj_heap_other (by omega)).trans e3
    have c0 : (W3.putObj D (.deferred none)).cell? ⟨w.heap.size + 1, 0, none⟩ = some (.string ln) := by simp [World.cell?, g0]
    have c1 : (W3.putObj D (.deferred none)).cell? ⟨w.heap.size + 1, 1, none⟩ = some (.string wd) := by simp [World.cell?, g0]
    have c2 : (W3.putObj D (.deferred none)).cell? ⟨w.heap.size + 1, 2, none⟩ = some (.slice a' xs.length c') := by simp [World.cell?, g0]
    refine ⟨_, ?_, a', c', rfl, ownsRow_putObj hO3 _ hk3 rfl, below_put hB3 (by omega) hk3⟩
    simp [results, Tryz.results44, go_sem, c0, c1, c2]

theorem fins {zs : List Int} (h : ∀ x ∈ zs, 0 ≤ x ∧ x < 1000) : ∃ fs : List (Fin 1000), fs.map (fun x => (x.val : Int)) = zs := by
  induction zs with
  | nil => exact ⟨[], rfl⟩
  | cons z r ih =>
    obtain ⟨fs, hf⟩ := ih fun x hx => h x (List.mem_cons_of_mem _ hx)
    have hz := h z (by simp)
    exact ⟨⟨z.toNat, by omega⟩ :: fs, by rw [List.map_cons, hf]; simp; omega⟩
/-- what an order of a line is: the line, its word, and the numbers in a row of the call's own -/
def Ordered (ln wd : ByteArray) (zs : List Int) (w : World) (e : Ending) (w' : World) : Prop :=
  ∃ a cap, e = .returned (.agg #[.string ln, .string wd, .slice a zs.length cap]) ∧ OwnI w' w.heap.size (.slice a zs.length cap) zs ∧ Below w.heap.size w w'
theorem orderOf_any (ln wd : ByteArray) (zs : List Int) (h : ∀ x ∈ zs, 0 ≤ x ∧ x < 1000) (hz : 0 < zs.length) (hl : zs.length ≤ 1000) (w : World) :
    Calls Tryz.prog 44 #[.string ln, .string wd, .string ⟨(spT zs).toArray⟩] w (Ordered ln wd zs w) := by
  obtain ⟨fs, rfl⟩ := fins h
  rw [List.length_map] at hz hl
  have := (callsIn_wide (n := 10)).1 (orderOf_in 10 (by omega) ln wd fs hz hl w)
  unfold leftT at this
  rw [List.drop_zero] at this
  refine this.mono ?_
  rintro e w' ⟨a, cap, rfl, h1, h2⟩
  refine ⟨a, cap, by rw [List.length_map], ?_, h2⟩
  rwa [List.length_map]
end Go.Proofs.YtdpapalfafjncaaGreatDoor
namespace Go.Proofs.YtdpapalfafjncaaGreatDoor
open Go.RowKit Go.Shelf

set_option maxRecDepth 100000 in
set_option maxHeartbeats 3200000 in
/-- a word with a rest that is there -/
theorem run_rest (D n : Nat) (wd rs L : List UInt8) (f : Nat) (w : World) (h32 : (32 : UInt8) ∉ wd) (hl : wd.length + rs.length ≤ 1000000) (hent : ∀ args w, (callFunc f args).run Tryz.prog w = .ok (.enter f args) w) (R : Option Addr → Nat → World → Prop) (Q : World → Prop)
    (hrw : ∀ w, Calls Tryz.prog 43 #[.string ⟨wd.toArray⟩] w fun e w' => e = .returned (.tuple #[.func (.func f) #[] #[], .bool true]) ∧ Below w.heap.size w w')
    (hord : ∀ W, Below w.heap.size w W → w.heap.size < W.heap.size → Calls Tryz.prog 44 #[.string ⟨(wd ++ 32 :: rs).toArray⟩, .string ⟨wd.toArray⟩, .string ⟨rs.toArray⟩] W fun e w' => ∃ a cap, e = .returned (.agg #[.string ⟨(wd ++ 32 :: rs).toArray⟩, .string ⟨wd.toArray⟩, .slice a n cap]) ∧ R a cap w' ∧ Below W.heap.size W w')
    (hcall : ∀ W a cap, Below w.heap.size w W → R a cap W → w.heap.size < W.heap.size → Calls Tryz.prog f #[.pointer (some ⟨D, 0, none⟩), .agg #[.string ⟨(wd ++ 32 :: rs).toArray⟩, .string ⟨wd.toArray⟩, .slice a n cap]] W fun e w' => e = .returned (.string ⟨L.toArray⟩) ∧ Q w' ∧ w'.heap[w.heap.size]? = W.heap[w.heap.size]?)
    (hQ : ∀ w' v, Q w' → Q (w'.setCell ⟨w.heap.size, 0, none⟩ v)) :
    Calls Tryz.prog 24 #[.pointer (some ⟨D, 0, none⟩), .string ⟨(wd ++ 32 :: rs).toArray⟩] w fun e w' => e = .returned (.string ⟨L.toArray⟩) ∧ Q w' := by
  have hmf : ∀ (fn : Fn) (first cap : Array Value) (w : World), (Instr.makeFunc fn first cap).run Tryz.prog w = .ok (.func fn first cap) w := fun _ _ _ _ => rfl
  have b0 := Boxed.new w 9 (.string ⟨#[]⟩)
  have hB0 : Below w.heap.size w (w.alloc (.cells #[.string ⟨#[]⟩] 9)) := (Below.refl _ w).alloc (Nat.le_refl _) _
  have HCut := Lib.hid (Cut_hit wd rs 32 (w.alloc (.cells #[.string ⟨#[]⟩] 9)) h32 hl)
  have HRW := Lib.hid hrw
  have HOR := Lib.hid hord
  have HCA := Lib.hid hcall
  have HQ := Lib.hid hQ
  clear hrw hord hcall hQ
  generalize hln : (⟨(wd ++ 32 :: rs).toArray⟩ : ByteArray) = LN at *
  generalize hwd : (⟨wd.toArray⟩ : ByteArray) = W0 at *
  generalize hrs : (⟨rs.toArray⟩ : ByteArray) = RS at *
  clear hln hwd hrs
  go_enter_defers Tryz.func24, Tryz.ntmps24
  go_wp2_with fail
  refine HCut.out.mono ?_
  rintro e w1 ⟨rfl, q, rfl⟩
  go_wp2_with fail
  refine (HRW.out _).mono ?_
  rintro e w2 ⟨rfl, hB2⟩
  have b1 : Boxed ((w.alloc (.cells #[.string ⟨#[]⟩] 9)).drewN q) w.heap.size 9 (.string ⟨#[]⟩) := b0
  have b2 := b1.kb2 hB2
  have hB02 := (belowDr hB0 q).trans (hB2.mono (by simp))
  have HH := Lib.hid (HOR.out w2 hB02 b2.lt)
  clear hB2 b0 hB0 b1
  go_wp2_with fail
  refine HH.out.mono ?_
  rintro e w3 ⟨a, cap, rfl, hR, hB3⟩
  have b3 := b2.kb2 hB3
  have hB03 := hB02.trans (hB3.mono hB02.size)
  have HC := Lib.hid (HCA.out w3 a cap hB03 hR b3.lt)
  clear HH b2 hB3 hB02 hR
  go_wp2_with fail
  refine HC.out.mono ?_
  rintro e w4 ⟨rfl, hq, hk⟩
  have b4 : Boxed w4 w.heap.size 9 (.string ⟨#[]⟩) := hk.trans b3
  have c4 := b4.cell
  have f4 := b4.frozen
  have b5 := b4.set (.string ⟨L.toArray⟩)
  have c5 := b5.cell
  have HQQ := Lib.hid (HQ.out w4 (.string ⟨L.toArray⟩) hq)
  clear HC hq hk
  go_wp2_with fail
  refine leaves_cons (f := 41) (args := #[.pointer (some ⟨w.heap.size, 0, none⟩)]) (by simp) (by simp [go_sem]) ?_
  refine (caught_idle ⟨w.heap.size, 0, none⟩ _).mono ?_
  rintro e u' w'' ⟨rfl, rfl, rfl⟩
  simp [Leaves, settle, results, Tryz.results24, go_sem, c5]
  exact HQQ.out
end Go.Proofs.YtdpapalfafjncaaGreatDoor
namespace Go.Proofs.YtdpapalfafjncaaGreatDoor
open Go.RowKit Go.Shelf

/-- the desk D has the list L, in a row of the script's own -/
def DeskAt (D : Nat) (L : List Int) (W : World) : Prop := ∃ a cap, Boxed W D 41 (.slice a L.length cap) ∧ OwnI W (D + 2) (.slice a L.length cap) L
theorem DeskAt.keep {D : Nat} {L : List Int} {W W' : World} (h : DeskAt D L W) (ho : Others (D + 1) W W') : DeskAt D L W' := by
  obtain ⟨a, cap, h1, h2⟩ := h
  refine ⟨a, cap, (ho D h1.lt (by omega) (fun cs fr e => by rw [show W.heap[D]? = _ from h1] at e; cases e)).trans h1, h2.1, ?_⟩
  rcases h2.2 with h3 | ⟨g, cp, cur, h3, hb, hg, hr⟩
  · exact .inl h3
  · exact .inr ⟨g, cp, cur, h3, hb, (ho g (Array.getElem?_eq_some_iff.1 hg).1 (by omega) (fun cs fr e => by rw [hg] at e; cases e)).trans hg, hr⟩
theorem DeskAt.nil {D : Nat} {W : World} (h : Boxed W D 41 (.slice none 0 0)) : DeskAt D [] W := ⟨none, 0, h, OwnI.nil _ _⟩
theorem DeskAt.below {D : Nat} {L : List Int} {W W' : World} (h : DeskAt D L W) (ho : Below W.heap.size W W') : DeskAt D L W' := by
  obtain ⟨a, cap, h1, h2⟩ := h
  exact ⟨a, cap, h1.kb2 ho, h2.keptB ho⟩

/-- what the line 'list ..' leaves -/
def Listed (D : Nat) (zs : List Int) (w : World) (w' : World) : Prop := ∃ a cap, Boxed w' D 41 (.slice a zs.length cap) ∧ OwnI w' (w.heap.size + 1) (.slice a zs.length cap) zs ∧ w.grownBy w' (some D)
theorem run_list (D : Nat) (zs : List Int) (v : Value) (w : World) (hz : inL zs = true) (h0 : 0 < zs.length) (hD : Boxed w D 41 v) :
    Calls Tryz.prog 24 #[.pointer (some ⟨D, 0, none⟩), .string ⟨([108, 105, 115, 116] ++ 32 :: spT zs).toArray⟩] w fun e w' => e = .returned (.string ⟨[111, 107].toArray⟩) ∧ Listed D zs w w' := by
  have hzl := (inL_iff zs).1 hz
  have hlt := hD.lt
  have hle := spT_le zs fun x hx => by have := hzl.2 x hx; omega
  refine run_rest D zs.length [108, 105, 115, 116] (spT zs) [111, 107] 70 w (by decide) (by simp; omega) (enters_of Tryz.func70 (by kernel_rfl) rfl)
    (fun a cap W => OwnI W (w.heap.size + 1) (.slice a zs.length cap) zs) (Listed D zs w) restWord_list ?_ ?_ ?_
  · intro W hB hlt
    refine (orderOf_any _ _ zs (fun x hx => by have := hzl.2 x hx; omega) h0 (by omega) W).mono ?_
    rintro e w' ⟨a, cap, rfl, h1, h2⟩
    exact ⟨a, cap, rfl, h1.mono hlt, h2⟩
  · intro W a cap hB hO hltW
    refine (renew_any D _ _ a cap zs v W hz (hD.kb2 hB) hO.ints).mono ?_
    rintro e w' ⟨rfl, hbx, w1, rfl, hB1⟩
    refine ⟨rfl, ⟨a, cap, hbx, (hO.keptB hB1).kept_below (grownBy_set _ _ _ _) (fun r e => by cases e; omega), ?_⟩, ?_⟩
    · have hB2 : Below w.heap.size w w1 := hB.trans (hB1.mono (by omega))
      exact ⟨hB2.os, hB2.tape, hB2.output, by have := hB2.size; simpa using this, fun k hk hne => (Below.heap_setCell _ _ _ _ (fun e => hne (by rw [e]))).trans (hB2.block k hk)⟩
    · exact (Below.heap_setCell _ _ _ _ (by simp; omega)).trans (hB1.block _ hltW)
  · rintro w' u ⟨a, cap, h1, h2, h3⟩
    exact ⟨a, cap, h1.other (by omega) _, h2.kept_below (grownBy_set _ _ _ _) (fun r e => by cases e; omega), h3.os, h3.tape, h3.output, by have := h3.size; simpa using this, fun k hk hne => (Below.heap_setCell _ _ _ _ (by simp; omega)).trans (h3.block k hk hne)⟩

theorem DeskAt.told {D : Nat} {L : List Int} {s : List UInt8} {w : World} {e : Ending} {w' : World} (h : DeskAt D L w) (ht : Tells s w e w') (_hD : D < w.heap.size) :
    e = .returned (.string ⟨s.toArray⟩) ∧ DeskAt D L w' ∧ w.grownBy w' (some D) :=
  ⟨ht.1, h.below ht.2, ht.2.os, ht.2.tape, ht.2.output, ht.2.size, fun k hk _ => ht.2.block k hk⟩

def hLin (zs : List Int) : Nat → List UInt8
  | 0 => [108, 105, 115, 116] ++ 32 :: spT zs
  | 1 => [104, 97, 108, 102]
  | _ => [116, 111, 116, 97, 108]
def hOut (zs : List Int) : Nat → List UInt8
  | 0 => [111, 107]
  | 1 => dgs (lr zs).toNat
  | _ => dgs (tot zs).toNat
def hRest (zs : List Int) : Nat → List UInt8
  | 0 => hLin zs 0 ++ 10 :: (hLin zs 1 ++ 10 :: (hLin zs 2 ++ 10 :: []))
  | 1 => hLin zs 1 ++ 10 :: (hLin zs 2 ++ 10 :: [])
  | 2 => hLin zs 2 ++ 10 :: []
  | _ => []
theorem spT_no10 : ∀ (zs : List Int), (10 : UInt8) ∉ spT zs
  | [] => by simp [spT]
  | [x] => fun h => by have := dgs_mem x.toNat 10 h; simp at this
  | x :: y :: r => fun h => by
    rw [spT_cons (by simp), List.mem_append, List.mem_cons] at h
    rcases h with h | h | h
    · have := dgs_mem x.toNat 10 h; simp at this
    · cases h
    · exact spT_no10 (y :: r) h

theorem Execute_half (zs : List Int) (w : World) (hz : inL zs = true) (h0 : 0 < zs.length) (ht : Pow10 w) :
    Calls Tryz.prog 8 #[.string ⟨(hRest zs 0).toArray⟩] w fun e w' => e = .returned (.string ⟨(toldTo (hOut zs) 3 ++ [110, 117, 109, 98, 101, 114, 115, 32] ++ dgs zs.length ++ [10]).toArray⟩) ∧ Below w.heap.size w w' := by
  have hzl := (inL_iff zs).1 hz
  have hle := spT_le zs fun x hx => by have := hzl.2 x hx; omega
  have htb := tot_bd hzl.2
  have hlb := lr_bd hzl.2
  have d1 := dgs_len (n := (lr zs).toNat) (by omega)
  have d2 := dgs_len (n := (tot zs).toNat) (by omega)
  refine Execute_lines 3 (hLin zs) (hOut zs) (hRest zs) zs.length w (fun k W => DeskAt w.heap.size (if k = 0 then [] else zs) W) ?_ rfl ?_ ?_ ?_ ?_ ?_ (by omega) ?_ ?_ ?_ ?_
  · intro k hk
    rcases k with _ | _ | _ | k
    · rfl
    · rfl
    · rfl
    · omega
  · intro k hk
    rcases k with _ | _ | _ | k
    · have := spT_no10 zs
      simp [hLin, this]
    · simp [hLin]
    · simp [hLin]
    · omega
  · simp [hRest, hLin]; omega
  · intro k hk
    rcases k with _ | _ | _ | _ | k
    · simp [hRest, hLin]; omega
    · simp [hRest, hLin]
    · simp [hRest, hLin]
    · simp [hRest]
    · omega
  · intro k hk
    rcases k with _ | _ | _ | k
    · simp [hOut]
    · simp [hOut]; omega
    · simp [hOut]; omega
    · omega
  · intro k hk
    rcases k with _ | _ | _ | _ | k
    · simp [toldTo]
    · simp [toldTo, hOut]
    · simp [toldTo, hOut]; omega
    · simp [toldTo, hOut]; omega
    · omega
  · intro W hb hB
    exact DeskAt.nil hb
  · intro k W W' hS ho _ _
    exact hS.keep ho
  · intro k hk W hB hsz hS
    have htW := ht.below hB
    rcases k with _ | _ | _ | k
    · obtain ⟨a, cap, h1, h2⟩ := hS
      refine (run_list w.heap.size zs _ W hz h0 h1).mono ?_
      rintro e w' ⟨rfl, a', cap', g1, g2, g3⟩
      exact ⟨rfl, ⟨a', cap', g1, g2.mono (by omega)⟩, g3⟩
    · have hS' : DeskAt w.heap.size zs W := hS
      obtain ⟨a, cap, h1, h2⟩ := hS
      exact (run_half w.heap.size a cap zs W hz h1 h2.ints htW).mono fun e w' h => hS'.told h (by omega)
    · have hS' : DeskAt w.heap.size zs W := hS
      obtain ⟨a, cap, h1, h2⟩ := hS
      exact (run_total w.heap.size a cap zs W hz h1 h2.ints htW).mono fun e w' h => hS'.told h (by omega)
    · omega
  · rintro W ⟨a, cap, h1, _⟩
    exact ⟨a, cap, h1⟩
end Go.Proofs.YtdpapalfafjncaaGreatDoor
