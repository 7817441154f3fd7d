/- tallyOf: from its entry to the loop that starts the workers. Conditions: at least one load. tallyOf: the group is made; on to the loop's head. Conditions: none. tallyOf: behind the join: the channel is closed; the first receive. Conditions: none. tallyOf: a receive and its round; the end. Conditions: the counts are small. tallyOf: from its entry to its return into its caller, on whatever tape: the crew's theorem joined with the walks. Conditions: at least one and at most ten good loads, one to five machines. TALLYOF, from its entry to its return into its caller, on whatever tape. Conditions: at least one and at most ten good loads, one to five machines. -/
import Derived.Test.YtacedadenbinmaaZk
import Derived.Conc.SmallLaws
import Derived.Test.YtacedadenbinmaaZf
import Derived.Conc.CrowdComm
set_option linter.unusedVariables false
set_option linter.unusedSimpArgs false
set_option linter.unusedSectionVars false
namespace Go.Proofs.Ytacedadenbinmaa
open Go.Par Go.Conc Go.ConcN Go.RowKit Go.Conc.Lib Go.ConcR.Gen Go.ConcN.Gen
open Go.ConcR (KK wgBlock WgAt stA smA rd wr mk DC0 Payload)

noncomputable def S0T : Code := match bodyT with | .seq a _ => a | _ => .skip
noncomputable def S1T : Code := match bodyT with | .seq _ (.seq a _) => a | _ => .skip
noncomputable def S3T : Code := match bodyT with | .seq _ (.seq _ (.seq a _)) => a | _ => .skip
noncomputable def S4 : Code := match bodyT with | .seq _ (.seq _ (.seq _ c)) => c | _ => .skip

/-- the blocks that were made since -/
structure PA (N : Nat) (w0 : World) (L : List Obj) (w : World) : Prop where
  size : w.heap.size = N + L.length
  keep : ∀ b, b < N → w.heap[b]? = w0.heap[b]?
  new : ∀ i o, L[i]? = some o → w.heap[N + i]? = some o
section
variable {N : Nat} {w0 w w₁ : World} {L : List Obj} {own own0 : Nat → Prop}
theorem PA.refl (w : World) : PA w.heap.size w [] w := ⟨rfl, fun _ _ => rfl, fun i o h => by cases h⟩
theorem PA.ry (h : PA N w0 L w) (hr : Ry AtRel own w w₁) : PA N w0 L w₁ := by
  obtain ⟨d, rfl⟩ := hr.st
  exact ⟨h.size, h.keep, h.new⟩
theorem PA.alloc (h : PA N w0 L w) (o : Obj) : PA N w0 (L ++ [o]) (w.alloc o) := by
  refine ⟨by simp [h.size]; omega, fun b hb => (Below.heap_alloc _ _ _ (by have := h.size; omega)).trans (h.keep b hb), fun i o' ho => ?_⟩
  rcases Nat.lt_trichotomy i L.length with hi | rfl | hi
  · rw [List.getElem?_append_left hi] at ho
    exact (Below.heap_alloc _ _ _ (by have := h.size; omega)).trans (h.new i o' ho)
  · rw [List.getElem?_append_right (Nat.le_refl _)] at ho
    simp only [Nat.sub_self, List.getElem?_cons_zero, Option.some.injEq] at ho
    subst ho
    rw [← h.size]; exact heap_alloc_new w o
  · rw [List.getElem?_append_right (by omega), List.getElem?_eq_none (by simp; omega)] at ho
    cases ho
theorem PA.set (h : PA N w0 L w) (i : Nat) (j : Nat) (v : Value) {c : Array Value} {e : TypeId} (ho : L[i]? = some (.cells c e (0, 0))) : PA N w0 (L.set i (.cells (c.setIfInBounds j v) e (0, 0))) (w.setCell ⟨N + i, j, none⟩ v) := by
  refine ⟨by simp [World.setCell, h.size], fun b hb => (Below.heap_setCell w ⟨N + i, j, none⟩ v b (by show b ≠ N + i; omega)).trans (h.keep b hb), fun k o' hk => ?_⟩
  by_cases e : k = i
  · subst e
    have hlt : k < L.length := (List.getElem?_eq_some_iff.1 ho).1
    rw [List.getElem?_set_self hlt] at hk
    cases hk
    obtain ⟨hl, hq⟩ := Array.getElem?_eq_some_iff.1 (h.new k _ ho)
    show (w.heap.modify (N + k) _)[N + k]? = _
    rw [Array.getElem?_eq_getElem (by rw [Array.size_modify]; exact hl), Array.getElem_modify_self, hq]
    rfl
  · rw [List.getElem?_set_ne (Ne.symm e)] at hk
    exact (Below.heap_setCell w ⟨N + i, j, none⟩ v (N + k) (by show N + k ≠ N + i; omega)).trans (h.new k _ hk)
theorem PA.cell (h : PA N w0 L w) (i j : Nat) {c : Array Value} {e : TypeId} {v : Value} (ho : L[i]? = some (.cells c e (0, 0))) (hv : c[j]? = some v) : w.cell? ⟨N + i, j, none⟩ = some v := by
  simp [World.cell?, h.new i _ ho, hv]
theorem PA.thaw (h : PA N w0 L w) (i j : Nat) {c : Array Value} {e : TypeId} (ho : L[i]? = some (.cells c e (0, 0))) : w.frozen? ⟨N + i, j, none⟩ = false := by
  simp [World.frozen?, h.new i _ ho]
theorem own_alloc (hP : PA N w0 L w) (h : ∀ b, own b ↔ own0 b ∨ (N ≤ b ∧ b < N + L.length)) (o : Obj) : ∀ b, More own w (w.alloc o) b ↔ own0 b ∨ (N ≤ b ∧ b < N + (L ++ [o]).length) := fun b => by
  have hs := hP.size
  simp only [More, h, World.size_alloc, List.length_append, List.length_cons, List.length_nil]
  constructor
  · rintro ((h | h) | h)
    · exact .inl h
    · exact .inr (by omega)
    · exact .inr (by omega)
  · rintro (h | h)
    · exact .inl (.inl h)
    · by_cases hb : b < N + L.length
      · exact .inl (.inr ⟨h.1, hb⟩)
      · exact .inr (by omega)
end
theorem infoTal : (Try.prog.info? 40).map (fun i => i.bytes) = some 16 := by kernel_rfl
theorem mkChan (m : Nat) (hm : m ≤ 5) (w : World) : (Instr.makeChan 58 (.int .i64 m)).run Try.prog w = .ok (.chan (some w.heap.size)) (w.alloc (.chan m #[] false 0 0 false)) := by
  obtain ⟨i, hi, hb⟩ := Option.map_eq_some_iff.1 infoTal
  exact run_makeChan (P := Try.prog) (w := w) Try.underlying58 hi .i64 m (by omega) (by rw [hb]; omega)
theorem mkChanE (m : Nat) (hm : m ≤ 5) (w : World) (es : Array Event) : (Instr.makeChan 58 (.int .i64 m)).events Try.prog w es = es := by
  obtain ⟨i, hi, hb⟩ := Option.map_eq_some_iff.1 infoTal
  exact events_makeChan (P := Try.prog) (w := w) Try.underlying58 hi .i64 m (by omega) (by rw [hb]; omega) es

/-- where the group is about to be made -/
structure P1 (N ab off cap m n : Nat) (w0 w : World) : Prop where
  size : w.heap.size = N + 5
  keep : ∀ b, b < N → w.heap[b]? = w0.heap[b]?
  a : w.cell? ⟨N, 0, none⟩ = some (.slice (some ⟨ab, off, none⟩) n cap)
  mm : w.cell? ⟨N + 1, 0, none⟩ = some (.int .i64 m)
  r : w.heap[N + 2]? = some (.cells #[.int .i64 0, .int .i64 0] 40 (0, 0))
  ch : w.heap[N + 3]? = some (.chan m #[] false 0 0 false)
  c : w.cell? ⟨N + 4, 0, none⟩ = some (.chan (some (N + 3)))
structure TS (N : Nat) (T : Array Value) : Prop where
  size : T.size = 33
  t2 : T[2]? = some (.pointer (some ⟨N, 0, none⟩))
  t3 : T[3]? = some (.pointer (some ⟨N + 1, 0, none⟩))
  t4 : T[4]? = some (.pointer (some ⟨N + 2, 0, none⟩))
  t5 : T[5]? = some (.pointer (some ⟨N + 4, 0, none⟩))

section
variable {ab off cap m n : Nat} {cs : List Frame} {RO own : Nat → Prop} {Stop : (Nat → Prop) → Goroutine → World → Prop}

set_option maxRecDepth 100000 in
set_option maxHeartbeats 8000000 in
theorem start_T (w0 : World) (h0 : 0 < n) (hm : m ≤ 5) (hn : n ≤ 10)
    (hk : ∀ own' w' T, (∀ b, own' b ↔ own b ∨ (w0.heap.size ≤ b ∧ b < w0.heap.size + 5)) → P1 w0.heap.size ab off cap m n w0 w' → TS w0.heap.size T → ∃ t, GoesO Try.prog true AtRel (DL RO) Stop t own' (G ((base 40).at ⟨T, []⟩ [.code S4]) cs) w') :
    ∃ t, GoesO Try.prog true AtRel (DL RO) Stop t own (G (Frame.enter Try.prog 40 #[.slice (some ⟨ab, off, none⟩) n cap, .int .i64 m] .normal) cs) w0 := by
  obtain ⟨own0, ho0⟩ : ∃ o, o = own := ⟨_, rfl⟩
  rw [← ho0] at hk
  obtain ⟨N, hN⟩ : ∃ N, w0.heap.size = N := ⟨_, rfl⟩
  have hP0 : PA N w0 [] w0 := hN ▸ PA.refl w0
  rw [hN] at hk
  have hO : ∀ b, own b ↔ own0 b ∨ (N ≤ b ∧ b < N + ([] : List Obj).length) := fun b => by
    subst ho0
    exact ⟨.inl, fun h => h.elim id fun h => by have : b < N := h.2; omega⟩
  clear ho0
  have key : ∀ w, PA N w0 [] w → ∃ t, GoesO Try.prog true AtRel (DL RO) Stop t own (G (Frame.enter Try.prog 40 #[.slice (some ⟨ab, off, none⟩) n cap, .int .i64 m] .normal) cs) w := by
    intro w hP
    rw [enter_at (c := .seq S0T (.seq S1T (.seq S3T S4))) _ Try.func40 rfl]
    walk_nrmf Try.f40
    clear hP0 hN
    refine GoesO.any rfl (fun w h₁ => ?_)
    replace hP := hP.ry h₁
    clear h₁
    rw [stepG_seq]
    simp only [goes_go]
    refine ⟨DL.refl _ _ _, ?_⟩
    rw [more_same rfl]
    simp only [S0T, bodyT, Try.f40, Option.getD_some]
    refine GoesO.any rfl (fun w h₁ => ?_)
    replace hP := hP.ry h₁
    clear h₁
    rw [stepG_region]
    simp only [goes_go, List.size_toArray, List.length_cons, List.length_nil, Nat.reduceAdd, Nat.zero_add, List.range, List.range.loop]
    refine ⟨DL.refl _ _ _, ?_⟩
    rw [more_same rfl]
    refine GoesO.any rfl (fun w h₁ => ?_)
    replace hP := hP.ry h₁
    clear h₁
    refine goes_oper_k rfl rfl (by decide) (fun K hK => ?_)
    have hsz := hP.size
    simp only [List.length_cons, List.length_nil, Nat.zero_add, Nat.reduceAdd, Nat.add_zero] at hsz
    go_simp
    refine hK _ _ ⟨?_, ?_⟩
    · refine dl_new fun e he => ?_
      have hm := mem_listed he
      simp [go_sem, *] at hm
    replace hO := own_alloc hP hO (.cells #[.slice (some ⟨ab, off, none⟩) n cap] 22)
    replace hP := hP.alloc (.cells #[.slice (some ⟨ab, off, none⟩) n cap] 22)
    simp only [List.cons_append, List.nil_append] at hP
    try simp only [hsz]
    generalize w.alloc (.cells #[.slice (some ⟨ab, off, none⟩) n cap] 22) = w at hP hO ⊢
    generalize More own _ w = own at hO ⊢
    clear hK K hsz 
    refine GoesO.any rfl (fun w h₁ => ?_)
    replace hP := hP.ry h₁
    clear h₁
    refine goes_oper_k rfl rfl (by decide) (fun K hK => ?_)
    have hsz := hP.size
    simp only [List.length_cons, List.length_nil, Nat.zero_add, Nat.reduceAdd, Nat.add_zero] at hsz
    go_simp
    refine hK _ _ ⟨?_, ?_⟩
    · refine dl_new fun e he => ?_
      have hm := mem_listed he
      simp [go_sem, *] at hm
    replace hO := own_alloc hP hO (.cells #[.int .i64 m] 3)
    replace hP := hP.alloc (.cells #[.int .i64 m] 3)
    simp only [List.cons_append, List.nil_append] at hP
    try simp only [hsz]
    generalize w.alloc (.cells #[.int .i64 m] 3) = w at hP hO ⊢
    generalize More own _ w = own at hO ⊢
    clear hK K hsz 
    refine GoesO.any rfl (fun w h₁ => ?_)
    replace hP := hP.ry h₁
    clear h₁
    refine goes_oper_k rfl rfl (by decide) (fun K hK => ?_)
    have hsz := hP.size
    simp only [List.length_cons, List.length_nil, Nat.zero_add, Nat.reduceAdd, Nat.add_zero] at hsz
    go_simp
    refine hK _ _ ⟨?_, ?_⟩
    · refine dl_new fun e he => ?_
      have hm := mem_listed he
      simp [go_sem, *] at hm
    replace hO := own_alloc hP hO (.cells #[.int .i64 0, .int .i64 0] 40)
    replace hP := hP.alloc (.cells #[.int .i64 0, .int .i64 0] 40)
    simp only [List.cons_append, List.nil_append] at hP
    try simp only [hsz]
    generalize w.alloc (.cells #[.int .i64 0, .int .i64 0] 40) = w at hP hO ⊢
    generalize More own _ w = own at hO ⊢
    clear hK K hsz 
    refine GoesO.any rfl (fun w h₁ => ?_)
    replace hP := hP.ry h₁
    clear h₁
    rw [stepG_region_end]
    simp only [goes_go]
    refine ⟨DL.refl _ _ _, ?_⟩
    rw [more_same rfl]
    refine GoesO.any rfl (fun w h₁ => ?_)
    replace hP := hP.ry h₁
    clear h₁
    rw [stepG_seq]
    simp only [goes_go]
    refine ⟨DL.refl _ _ _, ?_⟩
    rw [more_same rfl]
    simp only [S1T, bodyT, Try.f40, Option.getD_some]
    refine GoesO.any rfl (fun w h₁ => ?_)
    replace hP := hP.ry h₁
    clear h₁
    rw [stepG_seq]
    simp only [goes_go]
    refine ⟨DL.refl _ _ _, ?_⟩
    rw [more_same rfl]
    refine GoesO.any rfl (fun w h₁ => ?_)
    replace hP := hP.ry h₁
    clear h₁
    rw [stepG_region]
    simp only [goes_go, List.size_toArray, List.length_cons, List.length_nil, Nat.reduceAdd, Nat.zero_add, List.range, List.range.loop]
    refine ⟨DL.refl _ _ _, ?_⟩
    rw [more_same rfl]
    refine GoesO.any rfl (fun w h₁ => ?_)
    replace hP := hP.ry h₁
    clear h₁
    refine goes_oper_k rfl rfl (by decide) (fun K hK => ?_)
    have hz0 := (show w.cell? ⟨N, 0, none⟩ = _ from hP.cell 0 0 rfl rfl)
    go_simp
    refine hK _ _ ⟨?_, ?_⟩
    · refine dl_look fun e he => ?_
      have hm := mem_listed he
      simp [go_sem, *] at hm
      subst hm
      exact ⟨_, rfl, .inl ((hO _).2 (.inr ⟨Nat.le_refl _, by simp⟩))⟩
    rw [more_same rfl]
    clear hK K hz0
    have h0' : (((n : Int) == 0) = false) := by simp; omega
    refine GoesO.any rfl (fun w h₁ => ?_)
    replace hP := hP.ry h₁
    clear h₁
    refine goes_oper_k rfl rfl (by decide) (fun K hK => ?_)
    go_simp
    refine hK _ _ ⟨?_, ?_⟩
    · refine dl_look fun e he => ?_
      have hm := mem_listed he
      simp [go_sem, *] at hm
    rw [more_same rfl]
    clear hK K 
    refine GoesO.any rfl (fun w h₁ => ?_)
    replace hP := hP.ry h₁
    clear h₁
    refine goes_oper_k rfl rfl (by decide) (fun K hK => ?_)
    go_simp
    refine hK _ _ ⟨?_, ?_⟩
    · refine dl_look fun e he => ?_
      have hm := mem_listed he
      simp [go_sem, *] at hm
    rw [more_same rfl]
    clear hK K 
    refine GoesO.any rfl (fun w h₁ => ?_)
    replace hP := hP.ry h₁
    clear h₁
    rw [stepG_region_end]
    simp only [goes_go]
    refine ⟨DL.refl _ _ _, ?_⟩
    rw [more_same rfl]
    refine GoesO.any rfl (fun w h₁ => ?_)
    replace hP := hP.ry h₁
    clear h₁
    rw [stepG_cond (t := false) rfl]
    simp only [goes_go, if_true, if_false, Bool.false_eq_true, ↓reduceIte]
    refine ⟨DL.refl _ _ _, ?_⟩
    rw [more_same rfl]
    refine GoesO.any rfl (fun w h₁ => ?_)
    replace hP := hP.ry h₁
    clear h₁
    rw [stepG_skip]
    simp only [goes_go]
    refine ⟨DL.refl _ _ _, ?_⟩
    rw [more_same rfl]
    refine GoesO.any rfl (fun w h₁ => ?_)
    replace hP := hP.ry h₁
    clear h₁
    rw [stepG_seq]
    simp only [goes_go]
    refine ⟨DL.refl _ _ _, ?_⟩
    rw [more_same rfl]
    simp only [S3T, bodyT, Try.f40, Option.getD_some]
    refine GoesO.any rfl (fun w h₁ => ?_)
    replace hP := hP.ry h₁
    clear h₁
    rw [stepG_region]
    simp only [goes_go, List.size_toArray, List.length_cons, List.length_nil, Nat.reduceAdd, Nat.zero_add, List.range, List.range.loop]
    refine ⟨DL.refl _ _ _, ?_⟩
    rw [more_same rfl]
    refine GoesO.any rfl (fun w h₁ => ?_)
    replace hP := hP.ry h₁
    clear h₁
    refine goes_oper_k rfl rfl (by decide) (fun K hK => ?_)
    have hz0 := hP.cell 1 0 rfl rfl
    go_simp
    refine hK _ _ ⟨?_, ?_⟩
    · refine dl_look fun e he => ?_
      have hm := mem_listed he
      simp [go_sem, *] at hm
      subst hm
      exact ⟨_, rfl, .inl ((hO _).2 (.inr ⟨by simp, by simp⟩))⟩
    rw [more_same rfl]
    clear hK K hz0
    refine GoesO.any rfl (fun w h₁ => ?_)
    replace hP := hP.ry h₁
    clear h₁
    refine goes_oper_k rfl rfl (by decide) (fun K hK => ?_)
    have hsz := hP.size
    simp only [List.length_cons, List.length_nil, Nat.zero_add, Nat.reduceAdd, Nat.add_zero] at hsz
    have hz0 := mkChan m hm w
    have hz1 := fun es => mkChanE m hm w es
    go_simp
    refine hK _ _ ⟨?_, ?_⟩
    · refine dl_new fun e he => ?_
      have hm := mem_listed he
      simp [go_sem, *] at hm
    replace hO := own_alloc hP hO (.chan m #[] false 0 0 false)
    replace hP := hP.alloc (.chan m #[] false 0 0 false)
    simp only [List.cons_append, List.nil_append] at hP
    try simp only [hsz]
    generalize w.alloc (.chan m #[] false 0 0 false) = w at hP hO ⊢
    generalize More own _ w = own at hO ⊢
    clear hK K hsz hz0 hz1
    refine GoesO.any rfl (fun w h₁ => ?_)
    replace hP := hP.ry h₁
    clear h₁
    refine goes_oper_k rfl rfl (by decide) (fun K hK => ?_)
    have hsz := hP.size
    simp only [List.length_cons, List.length_nil, Nat.zero_add, Nat.reduceAdd, Nat.add_zero] at hsz
    go_simp
    refine hK _ _ ⟨?_, ?_⟩
    · refine dl_new fun e he => ?_
      have hm := mem_listed he
      simp [go_sem, *] at hm
    replace hO := own_alloc hP hO (.cells #[.chan none] 58)
    replace hP := hP.alloc (.cells #[.chan none] 58)
    simp only [List.cons_append, List.nil_append] at hP
    try simp only [hsz]
    generalize w.alloc (.cells #[.chan none] 58) = w at hP hO ⊢
    generalize More own _ w = own at hO ⊢
    clear hK K hsz 
    -- the store
    refine GoesO.any rfl (fun w h₁ => ?_)
    replace hP := hP.ry h₁
    clear h₁
    refine goes_oper_k rfl rfl (by decide) (fun K hK => ?_)
    have hz0 := hP.cell 4 0 rfl rfl
    have hz1 := hP.thaw 4 0 rfl
    have hPs := hP.set 4 0 (.chan (some (N + 3))) rfl
    have hMo : own (N + 4) := (hO _).2 (.inr ⟨by simp, by simp⟩)
    go_simp
    refine hK _ _ ⟨?_, ?_⟩
    · refine dl_set hMo fun e he => ?_
      have hm := mem_listed he
      simp [go_sem, *] at hm
      subst hm
      exact ⟨_, _, rfl, .inl hMo⟩
    rw [more_same (by simp [World.setCell])]
    clear hK K hz0 hz1 hP
    generalize w.setCell ⟨N + 4, 0, none⟩ (.chan (some (N + 3))) = w at hPs ⊢
    have hP := hPs
    clear hPs
    simp only [List.set_cons_succ, List.set_cons_zero, List.setIfInBounds_toArray] at hP
    refine GoesO.any rfl (fun w h₁ => ?_)
    replace hP := hP.ry h₁
    clear h₁
    rw [stepG_region_end]
    simp only [goes_go]
    refine ⟨DL.refl _ _ _, ?_⟩
    rw [more_same rfl]
    refine hk own w _ (fun b => hO b) ⟨hP.size, hP.keep, hP.cell 0 0 rfl rfl, hP.cell 1 0 rfl rfl, hP.new 2 _ rfl, hP.new 3 _ rfl, hP.cell 4 0 rfl rfl⟩ ⟨rfl, rfl, rfl, rfl, rfl⟩
  exact key w0 hP0
end
end Go.Proofs.Ytacedadenbinmaa
namespace Go.Proofs.Ytacedadenbinmaa
open Go.Par Go.Conc Go.ConcN Go.RowKit Go.Conc.Lib Go.ConcR.Gen Go.ConcN.Gen
open Go.ConcR (KK wgBlock WgAt stA smA rd wr mk DC0 Payload)

/-- where the loop begins -/
structure P2 (N : Nat) (w0 w : World) : Prop where
  size : w.heap.size = N + 6
  keep : ∀ b, b < N + 5 → w.heap[b]? = w0.heap[b]?
  wg : w.heap[N + 5]? = some (.cells #[.int .u64 0, .int .u32 0] 68 (0, 0))

noncomputable def S4a : Code := match S4 with | .seq a _ => a | _ => .skip
noncomputable def S5a : Code := match S4 with | .seq _ (.seq (.seq a _) _) => a | _ => .skip
theorem S4_eq : S4 = .seq S4a (.seq (.seq S5a (.block 0 (.loop LT))) RT) := rfl

section
variable {ab off cap m n N : Nat} {cs : List Frame} {RO own : Nat → Prop} {Stop : (Nat → Prop) → Goroutine → World → Prop}

noncomputable def ops4 : Array Oper := match S4a with | .region _ ops _ => ops | _ => #[]
noncomputable def S5R : Code := .seq (.seq S5a (.block 0 (.loop LT))) RT
theorem S4a_eq : S4a = .region 4 ops4 false := rfl
set_option maxRecDepth 100000 in
set_option maxHeartbeats 4000000 in
/-- the group is made -/
theorem alloc4_T (T : Array Value) (w : World) (hT : T.size = 33) : stepG Try.prog true (G ((base 40).at ⟨T, []⟩ [.inRegion ops4 [0], .code S5R]) cs) w =
    .go (G ((base 40).at ⟨T.setIfInBounds 6 (.pointer (some ⟨w.heap.size, 0, none⟩)), []⟩ [.inRegion ops4 [], .code S5R]) cs) (w.alloc (.cells #[.int .u64 0, .int .u32 0] 68)) #[] := by
  obtain ⟨v0, v1, v2, v3, v4, v5, v6, v7, v8, v9, v10, v11, v12, v13, v14, v15, v16, v17, v18, v19, v20, v21, v22, v23, v24, v25, v26, v27, v28, v29, v30, v31, v32, rfl⟩ := size33 T hT
  simp only [ops4, S4a, S4, bodyT, Try.f40, Option.getD_some]
  rw [stepG_value (v := .pointer (some ⟨w.heap.size, 0, none⟩)) (w' := w.alloc (.cells #[.int .u64 0, .int .u32 0] 68)) rfl rfl (by decide) (by go_simp)]
  generalize hL : listed _ _ _ _ _ = Lx
  have hLx : Lx = #[] := by
    rw [← hL]
    refine Array.eq_empty_iff_forall_not_mem.2 fun e he => ?_
    have hm := mem_listed he
    simp [go_sem] at hm
  rw [hLx]
  walk_nrm

set_option maxRecDepth 100000 in
set_option maxHeartbeats 8000000 in
theorem start3_T (T : Array Value) (w : World) (hT : TS N T) (h6 : T[6]? = some (.pointer (some ⟨N + 5, 0, none⟩))) (hcm : w.cell? ⟨N + 1, 0, none⟩ = some (.int .i64 m)) (hom : own (N + 1))
    (hk : ∀ d g, AnS (N + 5) N (N + 4) (N + 1) (N + 2) m cs 0 g → ∃ t, GoesO Try.prog true AtRel (DL RO) Stop t own g (w.at d)) :
    ∃ t, GoesO Try.prog true AtRel (DL RO) Stop t own (G ((base 40).at ⟨T, []⟩ [.inRegion ops4 [], .code S5R]) cs) w := by
  have hF := Ry.refl atRel_tr own w
  obtain ⟨v0, v1, v2, v3, v4, v5, v6, v7, v8, v9, v10, v11, v12, v13, v14, v15, v16, v17, v18, v19, v20, v21, v22, v23, v24, v25, v26, v27, v28, v29, v30, v31, v32, rfl⟩ := size33 T hT.size
  have h2 := hT.t2
  have h3 := hT.t3
  have h4 := hT.t4
  have h5 := hT.t5
  simp only [List.getElem?_toArray, List.getElem?_cons_succ, List.getElem?_cons_zero, Option.some.injEq] at h2 h3 h4 h5 h6
  subst h2 h3 h4 h5 h6
  clear hT
  have hcm' : ∀ {w₁ : World}, Ry AtRel own w w₁ → w₁.cell? ⟨N + 1, 0, none⟩ = some (.int .i64 m) := fun h => by
    obtain ⟨d, rfl⟩ := h.st
    exact hcm
  unfold S5R
  refine GoesO.any rfl (fun w h₁ => ?_)
  replace hF := hF.trans atRel_tr h₁
  clear h₁
  rw [stepG_region_end]
  simp only [goes_go]
  refine ⟨DL.refl _ _ _, ?_⟩
  rw [more_same rfl]
  refine GoesO.any rfl (fun w h₁ => ?_)
  replace hF := hF.trans atRel_tr h₁
  clear h₁
  rw [stepG_seq]
  simp only [goes_go]
  refine ⟨DL.refl _ _ _, ?_⟩
  rw [more_same rfl]
  refine GoesO.any rfl (fun w h₁ => ?_)
  replace hF := hF.trans atRel_tr h₁
  clear h₁
  rw [stepG_seq]
  simp only [goes_go]
  refine ⟨DL.refl _ _ _, ?_⟩
  rw [more_same rfl]
  simp only [S5a, S4, bodyT, Try.f40, Option.getD_some]
  refine GoesO.any rfl (fun w h₁ => ?_)
  replace hF := hF.trans atRel_tr h₁
  clear h₁
  rw [stepG_region]
  simp only [goes_go, List.size_toArray, List.length_cons, List.length_nil, Nat.reduceAdd, Nat.zero_add, List.range, List.range.loop]
  refine ⟨DL.refl _ _ _, ?_⟩
  rw [more_same rfl]
  refine GoesO.any rfl (fun w h₁ => ?_)
  replace hF := hF.trans atRel_tr h₁
  clear h₁
  refine goes_oper_k rfl rfl (by decide) (fun K hK => ?_)
  have hz0 := hcm' hF
  go_simp
  refine hK _ _ ⟨?_, ?_⟩
  · refine dl_look fun e he => ?_
    have hm := mem_listed he
    simp [go_sem, *] at hm
    subst hm
    exact ⟨_, rfl, .inl hom⟩
  rw [more_same rfl]
  clear hK K hz0
  refine GoesO.any rfl (fun w h₁ => ?_)
  replace hF := hF.trans atRel_tr h₁
  clear h₁
  refine goes_oper_k rfl rfl (by decide) (fun K hK => ?_)
  go_simp
  refine hK _ _ ⟨?_, ?_⟩
  · refine dl_look fun e he => ?_
    have hm := mem_listed he
    simp [go_sem, *] at hm
  rw [more_same rfl]
  clear hK K 
  refine GoesO.any rfl (fun w h₁ => ?_)
  replace hF := hF.trans atRel_tr h₁
  clear h₁
  rw [stepG_region_end]
  simp only [goes_go]
  refine ⟨DL.refl _ _ _, ?_⟩
  rw [more_same rfl]
  refine GoesO.any rfl (fun w h₁ => ?_)
  replace hF := hF.trans atRel_tr h₁
  clear h₁
  rw [stepG_block]
  simp only [goes_go]
  refine ⟨DL.refl _ _ _, ?_⟩
  rw [more_same rfl]
  refine GoesO.any rfl (fun w h₁ => ?_)
  replace hF := hF.trans atRel_tr h₁
  clear h₁
  rw [stepG_loop]
  simp only [goes_go]
  refine ⟨DL.refl _ _ _, ?_⟩
  rw [more_same rfl]
  obtain ⟨d, rfl⟩ := hF.st
  exact hk d _ ⟨_, rfl, ⟨rfl, rfl, rfl⟩, rfl, rfl, rfl, rfl, rfl⟩
end
end Go.Proofs.Ytacedadenbinmaa
namespace Go.Proofs.Ytacedadenbinmaa
open Go.Par Go.Conc Go.ConcN Go.RowKit Go.Conc.Lib Go.ConcR.Gen Go.ConcN.Gen
open Go.ConcR (KK wgBlock WgAt stA smA rd wr mk DC0 Payload)

noncomputable def ops12 : Array Oper := match tailW with | .seq (.region _ ops _) _ => ops | _ => #[]
noncomputable def R12 : Code := match tailW with | .seq _ r => r | _ => .skip
noncomputable def S13 : Code := match R12 with | .seq a _ => a | _ => .skip
noncomputable def S14 : Code := match R12 with | .seq _ (.seq (.seq a _) _) => a | _ => .skip
noncomputable def L2 : Code := match R12 with | .seq _ (.seq (.seq _ (.block _ (.loop c))) _) => c | _ => .skip
noncomputable def R18 : Code := match R12 with | .seq _ (.seq _ c) => c | _ => .skip
noncomputable def ops15 : Array Oper := match L2 with | .seq (.region _ ops _) _ => ops | _ => #[]
noncomputable def R15 : Code := match L2 with | .seq _ r => r | _ => .skip
theorem tailW_eq : tailW = .seq (.region 12 ops12 false) R12 := rfl
theorem R12_eq : R12 = .seq S13 (.seq (.seq S14 (.block 2 (.loop L2))) R18) := rfl
theorem L2_eq : L2 = .seq (.region 15 ops15 false) R15 := rfl

/-- what stands behind the join -/
structure JF (N : Nat) (wS w : World) : Prop where
  keep : ∀ b, b < N → w.heap[b]? = wS.heap[b]?
  c : w.cell? ⟨N + 4, 0, none⟩ = some (.chan (some (N + 3)))
  r : w.heap[N + 2]? = some (.cells #[.int .i64 0, .int .i64 0] 40 (0, 0))
  low : N + 6 ≤ w.heap.size
  tape : w.tape = wS.tape
  os : w.os = wS.os
  output : w.output = wS.output
/-- .. and the channel -/
structure JC (N m : Nat) (wS : World) (buf : Array Value) (cl : Bool) (s r : Nat) (w : World) : Prop where
  j : JF N wS w
  ch : w.heap[N + 3]? = some (.chan m buf cl s r false)

section
variable {N m : Nat} {wS w w₁ : World} {buf : Array Value} {cl : Bool} {s r : Nat} {own : Nat → Prop} {cs : List Frame}
theorem JC.ry (h : JC N m wS buf cl s r w) (hr : Ry AtRel own w w₁) : JC N m wS buf cl s r w₁ := by
  obtain ⟨d, rfl⟩ := hr.st
  exact ⟨⟨h.j.keep, h.j.c, h.j.r, h.j.low, h.j.tape, h.j.os, h.j.output⟩, h.ch⟩
theorem JC.at (h : JC N m wS buf cl s r w) (d : Nat) : JC N m wS buf cl s r (w.at d) := ⟨⟨h.j.keep, h.j.c, h.j.r, h.j.low, h.j.tape, h.j.os, h.j.output⟩, h.ch⟩
theorem JC.moved (h : JC N m wS buf cl s r w) (hk : ∀ b, b < N + 6 → w₁.heap[b]? = w.heap[b]?) (hz : w.heap.size ≤ w₁.heap.size) (h1 : w₁.tape = w.tape) (h2 : w₁.os = w.os) (h3 : w₁.output = w.output) : JC N m wS buf cl s r w₁ :=
  ⟨⟨fun b hb => (hk b (by omega)).trans (h.j.keep b hb), (show w₁.cell? ⟨N + 4, 0, none⟩ = w.cell? ⟨N + 4, 0, none⟩ by simp only [World.cell?, hk (N + 4) (by omega)]).trans h.j.c, (hk _ (by omega)).trans h.j.r, Nat.le_trans h.j.low hz, h1.trans h.j.tape, h2.trans h.j.os, h3.trans h.j.output⟩, (hk _ (by omega)).trans h.ch⟩
theorem JC.alloc (h : JC N m wS buf cl s r w) (o : Obj) : JC N m wS buf cl s r (w.alloc o) :=
  h.moved (fun b hb => Below.heap_alloc _ _ _ (by have := h.j.low; omega)) (by simp) rfl rfl rfl
theorem JC.put (h : JC N m wS buf cl s r w) (p : Addr) (hp : N + 6 ≤ p.block) (v : Value) : JC N m wS buf cl s r (w.setCell p v) :=
  h.moved (fun b hb => Below.heap_setCell w p v b (by omega)) (by simp [World.setCell]) rfl rfl rfl
theorem JC.chan (h : JC N m wS buf cl s r w) (buf' : Array Value) (cl' : Bool) (s' r' : Nat) : JC N m wS buf' cl' s' r' (w.setChan (N + 3) m buf' cl' s' r' false) := by
  have k : ∀ b, b ≠ N + 3 → (w.setChan (N + 3) m buf' cl' s' r' false).heap[b]? = w.heap[b]? := fun b hb => by
    simp only [World.setChan]
    rw [Array.getElem?_setIfInBounds_ne (Ne.symm hb)]
  refine ⟨⟨fun b hb => (k b (by omega)).trans (h.j.keep b hb), ?_, (k _ (by omega)).trans h.j.r, by rw [size_setChan]; exact h.j.low, h.j.tape, h.j.os, h.j.output⟩, ?_⟩
  · rw [← h.j.c]
    simp only [World.cell?, k (N + 4) (by omega)]
  · have hlt : N + 3 < w.heap.size := by have := h.j.low; omega
    simp only [World.setChan]
    rw [Array.getElem?_setIfInBounds_self_of_lt hlt]

section
variable {RO : Nat → Prop} {Stop : (Nat → Prop) → Goroutine → World → Prop}
set_option maxRecDepth 100000 in
set_option maxHeartbeats 4000000 in
/-- from the join to the close -/
theorem toClose (T : Array Value) (w : World) (hT : TW (N + 4) (N + 2) T) (hP : JC N m wS buf cl s r w) (hR : RO (N + 4))
    (hk : ∀ T w', TW (N + 4) (N + 2) T → T[24]? = some (.chan (some (N + 3))) → JC N m wS buf cl s r w' → ∃ t, GoesO Try.prog true AtRel (DL RO) Stop t own (G ((base 40).at ⟨T, []⟩ [.inRegion ops12 [1], .code R12]) cs) w') :
    ∃ t, GoesO Try.prog true AtRel (DL RO) Stop t own (G ((base 40).at ⟨T, []⟩ [.inRegion opsW [], .code tailW]) cs) w := by
  obtain ⟨v0, v1, v2, v3, v4, v5, v6, v7, v8, v9, v10, v11, v12, v13, v14, v15, v16, v17, v18, v19, v20, v21, v22, v23, v24, v25, v26, v27, v28, v29, v30, v31, v32, rfl⟩ := size33 T hT.size
  have h4 := hT.r
  have h5 := hT.c
  simp only [List.getElem?_toArray, List.getElem?_cons_succ, List.getElem?_cons_zero, Option.some.injEq] at h4 h5
  subst h4 h5
  clear hT
  rw [tailW_eq]
  refine GoesO.any rfl (fun w h₁ => ?_)
  replace hP := hP.ry h₁
  clear h₁
  rw [stepG_region_end]
  simp only [goes_go]
  refine ⟨DL.refl _ _ _, ?_⟩
  rw [more_same rfl]
  refine GoesO.any rfl (fun w h₁ => ?_)
  replace hP := hP.ry h₁
  clear h₁
  rw [stepG_seq]
  simp only [goes_go]
  refine ⟨DL.refl _ _ _, ?_⟩
  rw [more_same rfl]
  simp only [ops12, tailW, RT, bodyT, Try.f40, Option.getD_some] at hk ⊢
  refine GoesO.any rfl (fun w h₁ => ?_)
  replace hP := hP.ry h₁
  clear h₁
  rw [stepG_region]
  simp only [goes_go, List.size_toArray, List.length_cons, List.length_nil, Nat.reduceAdd, Nat.zero_add, List.range, List.range.loop]
  refine ⟨DL.refl _ _ _, ?_⟩
  rw [more_same rfl]
  refine GoesO.any rfl (fun w h₁ => ?_)
  replace hP := hP.ry h₁
  clear h₁
  refine goes_oper_k rfl rfl (by decide) (fun K hK => ?_)
  have hz0 := hP.j.c
  go_simp
  refine hK _ _ ⟨?_, ?_⟩
  · refine dl_look fun e he => ?_
    have hm := mem_listed he
    simp [go_sem, *] at hm
    subst hm
    exact ⟨_, rfl, .inr hR⟩
  rw [more_same rfl]
  clear hK K hz0
  exact hk _ w ⟨rfl, rfl, rfl⟩ rfl hP

theorem loudT : (Try.prog.funcs[(base 40).fn]?).any (·.norace) = false := by kernel_rfl
set_option maxRecDepth 100000 in
set_option maxHeartbeats 4000000 in
/-- the close -/
theorem atClose (T : Array Value) (w : World) (hT : T.size = 33) (h24 : T[24]? = some (.chan (some (N + 3)))) (hP : JC N m wS buf false s r w) :
    stepG Try.prog true (G ((base 40).at ⟨T, []⟩ [.inRegion ops12 [1], .code R12]) cs) w = .go (G ((base 40).at ⟨T, []⟩ [.inRegion ops12 [], .code R12]) cs) (w.setChan (N + 3) m buf true s r false) #[⟨.obj (N + 3), false, true⟩, ⟨.obj (N + 3), true, true⟩] := by
  obtain ⟨v0, v1, v2, v3, v4, v5, v6, v7, v8, v9, v10, v11, v12, v13, v14, v15, v16, v17, v18, v19, v20, v21, v22, v23, v24, v25, v26, v27, v28, v29, v30, v31, v32, rfl⟩ := size33 T hT
  simp only [List.getElem?_toArray, List.getElem?_cons_succ, List.getElem?_cons_zero, Option.some.injEq] at h24
  subst h24
  simp only [ops12, tailW, RT, bodyT, Try.f40, Option.getD_some]
  have hr := run_close_open (P := Try.prog) #[58] 0 hP.ch
  have he := events_close_open (P := Try.prog) (es := #[]) #[58] 0 hP.ch
  rw [stepG_value (v := .tuple #[]) (w' := w.setChan (N + 3) m buf true s r false) rfl rfl (by decide) (by simp [go_sem, hr, World.setChan])]
  have hl : ∀ a o, (execOp a.eval o).events Try.prog w #[] = #[⟨.obj (N + 3), false, true⟩, ⟨.obj (N + 3), true, true⟩] → listed Try.prog (base 40).fn a o w = #[⟨.obj (N + 3), false, true⟩, ⟨.obj (N + 3), true, true⟩] := by
    intro a o h
    unfold listed
    rw [h]
    exact seen_eq loudT (by simp)
  rw [hl _ _ (by simp [go_sem, he])]
  rfl

/-- its slots at the receive -/
structure TR (N Z : Nat) (T : Array Value) : Prop where
  size : T.size = 33
  r : T[4]? = some (.pointer (some ⟨N + 2, 0, none⟩))
  a : T[8]? = some (.pointer (some ⟨Z, 0, none⟩))
  c : T[25]? = some (.chan (some (N + 3)))
noncomputable def RecvG (cs : List Frame) (T : Array Value) (rest : List Nat) : Goroutine := G ((base 40).at ⟨T, []⟩ [.inRegion ops15 rest, .code R15, .inLoop L2, .inBlock 2, .code R18]) cs

section
variable {RO : Nat → Prop} {Stop : (Nat → Prop) → Goroutine → World → Prop}
set_option maxRecDepth 100000 in
set_option maxHeartbeats 4000000 in
/-- from the close to the first receive -/
theorem toRecv (T : Array Value) (w : World) (hT : TW (N + 4) (N + 2) T) (hP : JC N m wS buf cl s r w) (hR : RO (N + 4))
    (hk : ∀ own' T w' Z, N + 6 ≤ Z → (∀ b, own' b ↔ own b ∨ b = Z) → Z < w'.heap.size → TR N Z T → JC N m wS buf cl s r w' → Bx2 w' Z (0, 0) → ∃ t, GoesO Try.prog true AtRel (DL RO) Stop t own' (RecvG cs T [0, 1]) w') :
    ∃ t, GoesO Try.prog true AtRel (DL RO) Stop t own (G ((base 40).at ⟨T, []⟩ [.inRegion ops12 [], .code R12]) cs) w := by
  obtain ⟨v0, v1, v2, v3, v4, v5, v6, v7, v8, v9, v10, v11, v12, v13, v14, v15, v16, v17, v18, v19, v20, v21, v22, v23, v24, v25, v26, v27, v28, v29, v30, v31, v32, rfl⟩ := size33 T hT.size
  have h4 := hT.r
  have h5 := hT.c
  simp only [List.getElem?_toArray, List.getElem?_cons_succ, List.getElem?_cons_zero, Option.some.injEq] at h4 h5
  subst h4 h5
  clear hT
  rw [R12_eq]
  refine GoesO.any rfl (fun w h₁ => ?_)
  replace hP := hP.ry h₁
  clear h₁
  rw [stepG_region_end]
  simp only [goes_go]
  refine ⟨DL.refl _ _ _, ?_⟩
  rw [more_same rfl]
  refine GoesO.any rfl (fun w h₁ => ?_)
  replace hP := hP.ry h₁
  clear h₁
  rw [stepG_seq]
  simp only [goes_go]
  refine ⟨DL.refl _ _ _, ?_⟩
  rw [more_same rfl]
  simp only [S13, R12, tailW, RT, bodyT, Try.f40, Option.getD_some]
  refine GoesO.any rfl (fun w h₁ => ?_)
  replace hP := hP.ry h₁
  clear h₁
  rw [stepG_region]
  simp only [goes_go, List.size_toArray, List.length_cons, List.length_nil, Nat.reduceAdd, Nat.zero_add, List.range, List.range.loop]
  refine ⟨DL.refl _ _ _, ?_⟩
  rw [more_same rfl]
  refine GoesO.any rfl (fun w h₁ => ?_)
  replace hP := hP.ry h₁
  clear h₁
  refine goes_oper_k rfl rfl (by decide) (fun K hK => ?_)
  go_simp
  refine hK _ _ ⟨?_, ?_⟩
  · refine dl_new fun e he => ?_
    have hm := mem_listed he
    simp [go_sem, *] at hm
  have hZ : N + 6 ≤ w.heap.size := hP.j.low
  have hB := Bx2.new w 0 0
  have hO : ∀ b, More own w (w.alloc (.cells #[.int .i64 0, .int .i64 0] 40)) b ↔ own b ∨ b = w.heap.size := fun b => by
    simp only [More, World.size_alloc]
    exact ⟨fun h => h.imp id fun h => by omega, fun h => h.imp id fun h => by omega⟩
  replace hP := hP.alloc (.cells #[.int .i64 0, .int .i64 0] 40)
  generalize w.alloc (.cells #[.int .i64 0, .int .i64 0] 40) = w1 at hP hB hO ⊢
  generalize w.heap.size = Z at hB hZ hO ⊢
  generalize More own w w1 = own1 at hO ⊢
  clear hK K
  have hQ : JC N m wS buf cl s r w1 ∧ Bx2 w1 Z (0, 0) := ⟨hP, hB⟩
  clear hP hB
  have hry : ∀ {w w₁ : World} {own : Nat → Prop}, JC N m wS buf cl s r w ∧ Bx2 w Z (0, 0) → Ry AtRel own w w₁ → JC N m wS buf cl s r w₁ ∧ Bx2 w₁ Z (0, 0) := fun h hr => ⟨h.1.ry hr, by obtain ⟨d, rfl⟩ := hr.st; exact h.2⟩
  refine GoesO.any rfl (fun w h₁ => ?_)
  replace hQ := hry hQ h₁
  clear h₁
  rw [stepG_region_end]
  simp only [goes_go]
  refine ⟨DL.refl _ _ _, ?_⟩
  rw [more_same rfl]
  refine GoesO.any rfl (fun w h₁ => ?_)
  replace hQ := hry hQ h₁
  clear h₁
  rw [stepG_seq]
  simp only [goes_go]
  refine ⟨DL.refl _ _ _, ?_⟩
  rw [more_same rfl]
  refine GoesO.any rfl (fun w h₁ => ?_)
  replace hQ := hry hQ h₁
  clear h₁
  rw [stepG_seq]
  simp only [goes_go]
  refine ⟨DL.refl _ _ _, ?_⟩
  rw [more_same rfl]
  simp only [S14, R12, tailW, RT, bodyT, Try.f40, Option.getD_some]
  refine GoesO.any rfl (fun w h₁ => ?_)
  replace hQ := hry hQ h₁
  clear h₁
  rw [stepG_region]
  simp only [goes_go, List.size_toArray, List.length_cons, List.length_nil, Nat.reduceAdd, Nat.zero_add, List.range, List.range.loop]
  refine ⟨DL.refl _ _ _, ?_⟩
  rw [more_same rfl]
  refine GoesO.any rfl (fun w h₁ => ?_)
  replace hQ := hry hQ h₁
  clear h₁
  refine goes_oper_k rfl rfl (by decide) (fun K hK => ?_)
  have hz0 := hQ.1.j.c
  go_simp
  refine hK _ _ ⟨?_, ?_⟩
  · refine dl_look fun e he => ?_
    have hm := mem_listed he
    simp [go_sem, *] at hm
    subst hm
    exact ⟨_, rfl, .inr hR⟩
  rw [more_same rfl]
  clear hK K hz0
  refine GoesO.any rfl (fun w h₁ => ?_)
  replace hQ := hry hQ h₁
  clear h₁
  rw [stepG_region_end]
  simp only [goes_go]
  refine ⟨DL.refl _ _ _, ?_⟩
  rw [more_same rfl]
  refine GoesO.any rfl (fun w h₁ => ?_)
  replace hQ := hry hQ h₁
  clear h₁
  rw [stepG_block]
  simp only [goes_go]
  refine ⟨DL.refl _ _ _, ?_⟩
  rw [more_same rfl]
  refine GoesO.any rfl (fun w h₁ => ?_)
  replace hQ := hry hQ h₁
  clear h₁
  rw [stepG_loop]
  simp only [goes_go]
  refine ⟨DL.refl _ _ _, ?_⟩
  rw [more_same rfl]
  rw [L2_eq]
  refine GoesO.any rfl (fun w h₁ => ?_)
  replace hQ := hry hQ h₁
  clear h₁
  rw [stepG_seq]
  simp only [goes_go]
  refine ⟨DL.refl _ _ _, ?_⟩
  rw [more_same rfl]
  have el : L2 = .seq (.region 15 ops15 false) R15 := L2_eq
  rw [← el]
  refine GoesO.any rfl (fun w h₁ => ?_)
  replace hQ := hry hQ h₁
  clear h₁
  rw [stepG_region]
  have es : List.range ops15.size = [0, 1] := rfl
  rw [es]
  simp only [goes_go]
  refine ⟨DL.refl _ _ _, ?_⟩
  rw [more_same rfl]
  exact hk own1 _ w Z hZ hO hQ.2.lt ⟨rfl, rfl, rfl, rfl⟩ hQ.1 hQ.2
end
end
end
end Go.Proofs.Ytacedadenbinmaa
namespace Go.Proofs.Ytacedadenbinmaa
open Go.Par Go.Conc Go.ConcN Go.RowKit Go.Conc.Lib Go.ConcR.Gen Go.ConcN.Gen
open Go.ConcR (KK wgBlock WgAt stA smA rd wr mk DC0 Payload)

noncomputable def S16 : Code := match R15 with | .seq _ (.block _ (.seq a _)) => a | _ => .skip
noncomputable def ops17 : Array Oper := match R15 with | .seq _ (.block _ (.seq _ (.region _ ops _))) => ops | _ => #[]
noncomputable def S18 : Code := match R18 with | .seq a _ => a | _ => .skip
theorem R15_eq : R15 = .seq (.cond (.tmp 27) .skip (.exit 2)) (.block 3 (.seq S16 (.region 17 ops17 false))) := rfl
theorem R18_eq : R18 = .seq S18 .ret := rfl
theorem infoTal2 : (Try.prog.info? 40).map (fun i => i.zero) = some (some (.agg #[.int .i64 0, .int .i64 0])) := by kernel_rfl

section
variable {N m Z : Nat} {wS w w₁ : World} {buf : Array Value} {cl : Bool} {s r : Nat} {own : Nat → Prop} {cs : List Frame}

set_option maxRecDepth 100000 in
set_option maxHeartbeats 4000000 in
theorem atRecvT (T : Array Value) (w : World) (hT : TR N Z T) : stepG Try.prog true (RecvG cs T [0, 1]) w = .comm (RecvG cs T [0, 1]) #[rcase (N + 3) (tv (0, 0))] true (.recv true) w #[] := by
  obtain ⟨v0, v1, v2, v3, v4, v5, v6, v7, v8, v9, v10, v11, v12, v13, v14, v15, v16, v17, v18, v19, v20, v21, v22, v23, v24, v25, v26, v27, v28, v29, v30, v31, v32, rfl⟩ := size33 T hT.size
  have h25 := hT.c
  simp only [List.getElem?_toArray, List.getElem?_cons_succ, List.getElem?_cons_zero, Option.some.injEq] at h25
  subst h25
  obtain ⟨i, hi, hz⟩ := Option.map_eq_some_iff.1 infoTal2
  simp only [RecvG, ops15, L2, R12, tailW, RT, bodyT, Try.f40, Option.getD_some]
  rw [stepG_comm (cases := #[rcase (N + 3) (tv (0, 0))]) (blocking := true) (shape := .recv true) (w' := w) rfl rfl (by decide) (by simp [go_sem, rcase, hi, hz, tv])]
  simp [listed, go_sem, seen, hi, hz]

theorem servedT (T : Array Value) (v : Value) : Conc.served (RecvG cs T [0, 1]) v = RecvG cs (T.setIfInBounds 26 v) [1] := by
  simp only [RecvG, served_G]
  rfl
theorem TR.set26 {T : Array Value} (h : TR N Z T) (v : Value) : TR N Z (T.setIfInBounds 26 v) := by
  refine ⟨by simp [h.size], ?_, ?_, ?_⟩
  · rw [Array.getElem?_setIfInBounds_ne (by decide)]; exact h.r
  · rw [Array.getElem?_setIfInBounds_ne (by decide)]; exact h.a
  · rw [Array.getElem?_setIfInBounds_ne (by decide)]; exact h.c
theorem at26 {T : Array Value} (h : TR N Z T) (v : Value) : (T.setIfInBounds 26 v)[26]? = some v := by
  rw [Array.getElem?_setIfInBounds_self_of_lt (by rw [h.size]; decide)]

/-- what stands in a round -/
structure JR (B N m Z : Nat) (wS : World) (buf : Array Value) (cl : Bool) (s r : Nat) (p : Int × Int) (w : World) : Prop where
  j : JC N m wS buf cl s r w
  b : Bx2 w Z p
  z : N + 6 ≤ Z
  sz : B ≤ w.heap.size
theorem JR.ry {B : Nat} {p : Int × Int} (h : JR B N m Z wS buf cl s r p w) (hr : Ry AtRel own w w₁) : JR B N m Z wS buf cl s r p w₁ := ⟨h.j.ry hr, by obtain ⟨d, rfl⟩ := hr.st; exact h.b, h.z, Nat.le_trans h.sz hr.size⟩

theorem dl_set2 {RO own : Nat → Prop} {w : World} {es : Array Event} {a b : Addr} {v u : Value} (ha : own a.block) (hb : own b.block) (h : ∀ e ∈ es, ∃ p wr, e = ⟨.cell p, wr, false⟩ ∧ (own p.block ∨ (RO p.block ∧ wr = false))) : DL RO own w ((w.setCell a v).setCell b u) es :=
  ⟨by simp [World.setCell], fun x _ hx => (Below.heap_setCell _ b u x (fun e => hx (e ▸ hb))).trans (Below.heap_setCell w a v x (fun e => hx (e ▸ ha))), rfl, rfl, rfl, fun e he => by
    obtain ⟨p, wr, rfl, h⟩ := h e he
    exact .inl ⟨p, wr, rfl, h.imp .inl id⟩⟩
theorem JC.put2 (h : JC N m wS buf cl s r w) (p q : Addr) (hp : N + 6 ≤ p.block) (hq : N + 6 ≤ q.block) (v u : Value) : JC N m wS buf cl s r ((w.setCell p v).setCell q u) := (h.put p hp v).put q hq u
theorem Bx2.far {W : World} {D : Nat} {p : Int × Int} (h : Bx2 W D p) {E : Nat} (hne : E ≠ D) (v u : Value) : Bx2 ((W.setCell ⟨E, 0, none⟩ v).setCell ⟨E, 1, none⟩ u) D p := (h.other (q := ⟨E, 0, none⟩) hne v).other (q := ⟨E, 1, none⟩) hne u

section
variable {LB : FuncId → Bool} {RO : Nat → Prop} {Stop : (Nat → Prop) → Goroutine → World → Prop}
set_option maxRecDepth 100000 in
set_option maxHeartbeats 8000000 in
/-- a round -/
theorem roundT {B : Nat} (HC : Closed Try.prog (fun f => LB f = true) LB) (hLj : LB 69 = true) (hglob : Try.prog.globals.size ≤ N) (T : Array Value) (w : World) (p q j : Int × Int) (hT : TR N Z T) (h26 : T[26]? = some (.tuple #[tv q, .bool true])) (hj : joinT p q = j) (hs : -9223372036854775808 ≤ p.2 + q.2 ∧ p.2 + q.2 ≤ 9223372036854775807) (hP : JR B N m Z wS buf cl s r p w) (hZo : own Z) (hol : ∀ b, own b → b < B)
    (hk : ∀ B' own' T w', (∀ b, own b → own' b) → (∀ b, own' b → b < B') → TR N Z T → JR B' N m Z wS buf cl s r j w' → ∃ t, GoesO Try.prog true AtRel (DL RO) Stop t own' (RecvG cs T [0, 1]) w') :
    ∃ t, GoesO Try.prog true AtRel (DL RO) Stop t own (RecvG cs T [1]) w := by
  obtain ⟨v0, v1, v2, v3, v4, v5, v6, v7, v8, v9, v10, v11, v12, v13, v14, v15, v16, v17, v18, v19, v20, v21, v22, v23, v24, v25, v26, v27, v28, v29, v30, v31, v32, rfl⟩ := size33 T hT.size
  have h4 := hT.r
  have h8 := hT.a
  have h25 := hT.c
  simp only [List.getElem?_toArray, List.getElem?_cons_succ, List.getElem?_cons_zero, Option.some.injEq] at h4 h8 h25 h26
  subst h4 h8 h25 h26
  clear hT
  obtain ⟨p1, p2⟩ := p
  obtain ⟨q1, q2⟩ := q
  obtain ⟨j1, j2⟩ := j
  simp only [tv] at *
  unfold RecvG
  simp only [ops15, L2, R12, tailW, RT, bodyT, Try.f40, Option.getD_some]
  refine GoesO.any rfl (fun w h₁ => ?_)
  replace hP := hP.ry h₁
  clear h₁
  refine goes_oper_k rfl rfl (by decide) (fun K hK => ?_)
  go_simp
  refine hK _ _ ⟨?_, ?_⟩
  · refine dl_look fun e he => ?_
    have hm := mem_listed he
    simp [go_sem, *] at hm
  rw [more_same rfl]
  clear hK K 
  refine GoesO.any rfl (fun w h₁ => ?_)
  replace hP := hP.ry h₁
  clear h₁
  rw [stepG_region_end]
  simp only [goes_go]
  refine ⟨DL.refl _ _ _, ?_⟩
  rw [more_same rfl]
  rw [R15_eq]
  refine GoesO.any rfl (fun w h₁ => ?_)
  replace hP := hP.ry h₁
  clear h₁
  rw [stepG_seq]
  simp only [goes_go]
  refine ⟨DL.refl _ _ _, ?_⟩
  rw [more_same rfl]
  refine GoesO.any rfl (fun w h₁ => ?_)
  replace hP := hP.ry h₁
  clear h₁
  rw [stepG_cond (t := true) rfl]
  simp only [goes_go, if_true, if_false, Bool.false_eq_true, ↓reduceIte]
  refine ⟨DL.refl _ _ _, ?_⟩
  rw [more_same rfl]
  refine GoesO.any rfl (fun w h₁ => ?_)
  replace hP := hP.ry h₁
  clear h₁
  rw [stepG_skip]
  simp only [goes_go]
  refine ⟨DL.refl _ _ _, ?_⟩
  rw [more_same rfl]
  refine GoesO.any rfl (fun w h₁ => ?_)
  replace hP := hP.ry h₁
  clear h₁
  rw [stepG_block]
  simp only [goes_go]
  refine ⟨DL.refl _ _ _, ?_⟩
  rw [more_same rfl]
  refine GoesO.any rfl (fun w h₁ => ?_)
  replace hP := hP.ry h₁
  clear h₁
  rw [stepG_seq]
  simp only [goes_go]
  refine ⟨DL.refl _ _ _, ?_⟩
  rw [more_same rfl]
  simp only [S16, R15, L2, R12, tailW, RT, bodyT, Try.f40, Option.getD_some]
  refine GoesO.any rfl (fun w h₁ => ?_)
  replace hP := hP.ry h₁
  clear h₁
  rw [stepG_region]
  simp only [goes_go, List.size_toArray, List.length_cons, List.length_nil, Nat.reduceAdd, Nat.zero_add, List.range, List.range.loop]
  refine ⟨DL.refl _ _ _, ?_⟩
  rw [more_same rfl]
  refine GoesO.any rfl (fun w h₁ => ?_)
  replace hP := hP.ry h₁
  clear h₁
  refine goes_oper_k rfl rfl (by decide) (fun K hK => ?_)
  go_simp
  refine hK _ _ ⟨?_, ?_⟩
  · refine dl_look fun e he => ?_
    have hm := mem_listed he
    simp [go_sem, *] at hm
  rw [more_same rfl]
  clear hK K 
  -- t
  refine GoesO.any rfl (fun w h₁ => ?_)
  replace hP := hP.ry h₁
  clear h₁
  refine goes_oper_k rfl rfl (by decide) (fun K hK => ?_)
  go_simp
  refine hK _ _ ⟨?_, ?_⟩
  · refine dl_new fun e he => ?_
    have hm := mem_listed he
    simp [go_sem, *] at hm
  have hY : Z < w.heap.size := hP.b.lt
  have hO : ∀ b, More own w (w.alloc (.cells #[.int .i64 0, .int .i64 0] 40)) b ↔ own b ∨ b = w.heap.size := fun b => by
    simp only [More, World.size_alloc]
    exact ⟨fun h => h.imp id fun h => by omega, fun h => h.imp id fun h => by omega⟩
  have hQ : JR (w.heap.size + 1) N m Z wS buf cl s r (p1, p2) (w.alloc (.cells #[.int .i64 0, .int .i64 0] 40)) ∧ Bx2 (w.alloc (.cells #[.int .i64 0, .int .i64 0] 40)) w.heap.size (0, 0) := ⟨⟨hP.j.alloc _, hP.b.alloc _, hP.z, by simp⟩, Bx2.new w 0 0⟩
  have hol' : ∀ b, own b ∨ b = w.heap.size → b < w.heap.size + 1 := fun b hb => by
    rcases hb with hb | hb
    · have := hol b hb; have := hP.sz; omega
    · omega
  have hYN : N + 6 ≤ w.heap.size := hP.j.j.low
  generalize w.alloc (.cells #[.int .i64 0, .int .i64 0] 40) = w1 at hQ hO hol' ⊢
  generalize w.heap.size = Y at hQ hO hY hYN hol' ⊢
  generalize More own w w1 = own1 at hO ⊢
  clear hK K hP
  have hry : ∀ {w w₁ : World} {own : Nat → Prop} {p q : Int × Int}, JR (Y + 1) N m Z wS buf cl s r p w ∧ Bx2 w Y q → Ry AtRel own w w₁ → JR (Y + 1) N m Z wS buf cl s r p w₁ ∧ Bx2 w₁ Y q := fun h hr => ⟨h.1.ry hr, by obtain ⟨d, rfl⟩ := hr.st; exact h.2⟩
  have hZ1 : own1 Z := (hO _).2 (.inl hZo)
  have hY1 : own1 Y := (hO _).2 (.inr rfl)
  -- t is written
  refine GoesO.any rfl (fun w h₁ => ?_)
  replace hQ := hry hQ h₁
  clear h₁
  refine goes_oper_k rfl rfl (by decide) (fun K hK => ?_)
  have hc0 := hQ.2.c0
  have hc1 := hQ.2.c1
  have hf0 := hQ.2.f0 0
  have hf1 := hQ.2.f0 1
  have hQ2 : JR (Y + 1) N m Z wS buf cl s r (p1, p2) ((w.setCell ⟨Y, 0, none⟩ (.int .i64 q1)).setCell ⟨Y, 1, none⟩ (.int .i64 q2)) ∧ Bx2 ((w.setCell ⟨Y, 0, none⟩ (.int .i64 q1)).setCell ⟨Y, 1, none⟩ (.int .i64 q2)) Y (q1, q2) :=
    ⟨⟨hQ.1.j.put2 ⟨Y, 0, none⟩ ⟨Y, 1, none⟩ hYN hYN _ _, hQ.1.b.far (by omega) _ _, hQ.1.z, by simpa [World.setCell] using hQ.1.sz⟩, hQ.2.set q1 q2⟩
  go_simp
  refine hK _ _ ⟨?_, ?_⟩
  · refine dl_set2 hY1 hY1 fun e he => ?_
    have hm := mem_listed he
    simp [go_sem, *] at hm
    rcases hm with rfl | rfl <;> exact ⟨_, _, rfl, .inl hY1⟩
  rw [more_same (by simp [World.setCell])]
  clear hK K hc0 hc1 hf0 hf1 hQ
  generalize (w.setCell ⟨Y, 0, none⟩ (.int .i64 q1)).setCell ⟨Y, 1, none⟩ (.int .i64 q2) = w2 at hQ2 ⊢
  have hQ := hQ2
  clear hQ2
  refine GoesO.any rfl (fun w h₁ => ?_)
  replace hQ := hry hQ h₁
  clear h₁
  rw [stepG_region_end]
  simp only [goes_go]
  refine ⟨DL.refl _ _ _, ?_⟩
  rw [more_same rfl]
  simp only [ops17, R15, L2, R12, tailW, RT, bodyT, Try.f40, Option.getD_some]
  refine GoesO.any rfl (fun w h₁ => ?_)
  replace hQ := hry hQ h₁
  clear h₁
  rw [stepG_region]
  simp only [goes_go, List.size_toArray, List.length_cons, List.length_nil, Nat.reduceAdd, Nat.zero_add, List.range, List.range.loop]
  refine ⟨DL.refl _ _ _, ?_⟩
  rw [more_same rfl]
  refine GoesO.any rfl (fun w h₁ => ?_)
  replace hQ := hry hQ h₁
  clear h₁
  refine goes_oper_k rfl rfl (by decide) (fun K hK => ?_)
  have hz0 := hQ.1.b.c0
  have hz1 := hQ.1.b.c1
  go_simp
  refine hK _ _ ⟨?_, ?_⟩
  · refine dl_look fun e he => ?_
    have hm := mem_listed he
    simp [go_sem, *] at hm
    rcases hm with rfl | rfl <;> exact ⟨_, rfl, .inl hZ1⟩
  rw [more_same rfl]
  clear hK K hz0 hz1
  refine GoesO.any rfl (fun w h₁ => ?_)
  replace hQ := hry hQ h₁
  clear h₁
  refine goes_oper_k rfl rfl (by decide) (fun K hK => ?_)
  have hz0 := hQ.2.c0
  have hz1 := hQ.2.c1
  go_simp
  refine hK _ _ ⟨?_, ?_⟩
  · refine dl_look fun e he => ?_
    have hm := mem_listed he
    simp [go_sem, *] at hm
    rcases hm with rfl | rfl <;> exact ⟨_, rfl, .inl hY1⟩
  rw [more_same rfl]
  clear hK K hz0 hz1
  -- joined
  refine GoesO.any rfl (fun w h₁ => ?_)
  replace hQ := hry hQ h₁
  clear h₁
  refine goes_call rfl rfl (by decide) rfl Try.func69 rfl rfl ⟨DL.refl _ _ _, ?_⟩
  rw [more_same rfl, ← enter_at _ Try.func69 rfl]
  walk_nrm
  have hgl : Try.prog.globals.size ≤ w.heap.size := by have := hQ.1.j.j.low; omega
  have hsz0 : Y + 1 ≤ w.heap.size := hQ.1.sz
  have hsim : Sim Try.prog (fun f => LB f = true) (fun _ _ => False) w w := ⟨⟨fun a b b' h => h.elim, fun a a' b h => h.elim, fun a b h => h.elim, fun a b h => h.elim, fun a b h => h.elim, fun b h => h.elim, fun _ _ => rfl⟩, hgl, hgl⟩
  have hself : ∀ (ρ : Rn) (a b : Int), VR (fun f => LB f = true) ρ (.agg #[.int .i64 a, .int .i64 b]) (.agg #[.int .i64 a, .int .i64 b]) := fun ρ a b => AR.agg ⟨rfl, fun i x y hx hy => by
    rw [hx] at hy; cases hy
    match i, hx with
    | 0, hx => cases hx; exact .int _ _
    | 1, hx => cases hx; exact .int _ _⟩
  refine call_pure (L := fun f => LB f = true) (LB := LB) (own := own1) (args0 := #[.agg #[.int .i64 p1, .int .i64 p2], .agg #[.int .i64 q1, .int .i64 q2]]) (Post := fun v _ => v = tv (joinT (p1, p2) (q1, q2))) HC hLj hsim (fun b ⟨_, h⟩ => h.elim) (fun b hb => by have := hol' b ((hO b).1 hb); omega) ⟨rfl, fun k x y hx hy => ?_⟩ (fun W _ _ _ => (joined_any (p1, p2) (q1, q2) W hs).mono fun e w' h => ⟨_, h.1, rfl⟩) _ _ fun own2 v v' w' ρ wA hv hvr hpu => ?_
  · rw [hx] at hy; cases hy
    match k, hx with
    | 0, hx => cases hx; exact hself _ _ _
    | 1, hx => cases hx; exact hself _ _ _
  subst hv
  have hv' := tv_of hvr
  subst hv'
  rw [hj]
  have hQ2 : JR w'.heap.size N m Z wS buf cl s r (p1, p2) w' ∧ Bx2 w' Y (q1, q2) :=
    ⟨⟨hQ.1.j.moved (fun b hb => hpu.keep b (by have := hQ.1.j.j.low; omega)) hpu.size hpu.std.tape hpu.std.os hpu.std.output, (hpu.keep Z hQ.1.b.lt).trans hQ.1.b, hQ.1.z, Nat.le_refl _⟩, (hpu.keep Y hQ.2.lt).trans hQ.2⟩
  have hol2 : ∀ b, own2 b → b < w'.heap.size := fun b hb => by
    rcases (hpu.own b).1 hb with h | ⟨h, _⟩
    · have := hol' b ((hO b).1 h); have := hpu.size; omega
    · rcases hpu.fresh h with ⟨_, h⟩ | h
      · exact h.elim
      · exact h.2
  have hZ2 : own2 Z := (hpu.own _).2 (.inl hZ1)
  have hsub : ∀ b, own b → own2 b := fun b hb => (hpu.own _).2 (.inl ((hO b).2 (.inl hb)))
  generalize w'.heap.size = B2 at hQ2 hol2
  clear hQ hpu hvr hol hol' hry
  have hP := hQ2.1
  clear hQ2 hZ1 hY1 hO
  rw [Frame.finish_at]
  simp only [tv]
  walk_nrm
  refine GoesO.any rfl (fun w h₁ => ?_)
  replace hP := hP.ry h₁
  clear h₁
  refine goes_oper_k rfl rfl (by decide) (fun K hK => ?_)
  have hc0 := hP.b.c0
  have hc1 := hP.b.c1
  have hf0 := hP.b.f0 0
  have hf1 := hP.b.f0 1
  have hP2 : JR B2 N m Z wS buf cl s r (j1, j2) ((w.setCell ⟨Z, 0, none⟩ (.int .i64 j1)).setCell ⟨Z, 1, none⟩ (.int .i64 j2)) :=
    ⟨hP.j.put2 ⟨Z, 0, none⟩ ⟨Z, 1, none⟩ hP.z hP.z _ _, hP.b.set j1 j2, hP.z, by simpa [World.setCell] using hP.sz⟩
  go_simp
  refine hK _ _ ⟨?_, ?_⟩
  · refine dl_set2 hZ2 hZ2 fun e he => ?_
    have hm := mem_listed he
    simp [go_sem, *] at hm
    rcases hm with rfl | rfl <;> exact ⟨_, _, rfl, .inl hZ2⟩
  rw [more_same (by simp [World.setCell])]
  clear hK K hc0 hc1 hf0 hf1 hP
  generalize (w.setCell ⟨Z, 0, none⟩ (.int .i64 j1)).setCell ⟨Z, 1, none⟩ (.int .i64 j2) = w4 at hP2 ⊢
  have hP := hP2
  clear hP2
  refine GoesO.any rfl (fun w h₁ => ?_)
  replace hP := hP.ry h₁
  clear h₁
  rw [stepG_region_end]
  simp only [goes_go]
  refine ⟨DL.refl _ _ _, ?_⟩
  rw [more_same rfl]
  refine GoesO.any rfl (fun w h₁ => ?_)
  replace hP := hP.ry h₁
  clear h₁
  rw [stepG_inBlock]
  simp only [goes_go]
  refine ⟨DL.refl _ _ _, ?_⟩
  rw [more_same rfl]
  refine GoesO.any rfl (fun w h₁ => ?_)
  replace hP := hP.ry h₁
  clear h₁
  rw [stepG_inLoop]
  simp only [goes_go]
  refine ⟨DL.refl _ _ _, ?_⟩
  rw [more_same rfl]
  refine GoesO.any rfl (fun w h₁ => ?_)
  replace hP := hP.ry h₁
  clear h₁
  rw [stepG_seq]
  simp only [goes_go]
  refine ⟨DL.refl _ _ _, ?_⟩
  rw [more_same rfl]
  refine GoesO.any rfl (fun w h₁ => ?_)
  replace hP := hP.ry h₁
  clear h₁
  rw [stepG_region]
  simp only [goes_go, List.size_toArray, List.length_cons, List.length_nil, Nat.reduceAdd, Nat.zero_add, List.range, List.range.loop]
  refine ⟨DL.refl _ _ _, ?_⟩
  rw [more_same rfl]
  have hk' := fun T w => hk B2 own2 T w hsub hol2
  unfold RecvG at hk'
  simp only [ops15, R15, L2, R12, tailW, RT, bodyT, Try.f40, Option.getD_some] at hk'
  exact hk' _ w ⟨rfl, rfl, rfl, rfl⟩ hP

set_option maxRecDepth 100000 in
set_option maxHeartbeats 4000000 in
/-- the channel is empty: to the return -/
theorem endT (T : Array Value) (w : World) {B : Nat} (z : Value) (p : Int × Int) (hT : TR N Z T) (h26 : T[26]? = some (.tuple #[z, .bool false])) (hP : JR B N m Z wS buf cl s r p w) (hro : own (N + 2)) (hZo : own Z)
    (hk : ∀ T w' todo, T[4]? = some (.pointer (some ⟨N + 2, 0, none⟩)) → w.heap.size ≤ w'.heap.size → (∀ b, b < N → w'.heap[b]? = wS.heap[b]?) → Bx2 w' (N + 2) p → Std wS w' → ∃ t, GoesO Try.prog true AtRel (DL RO) Stop t own (G { (base 40).at ⟨T, []⟩ todo with mode := .returning } cs) w') :
    ∃ t, GoesO Try.prog true AtRel (DL RO) Stop t own (RecvG cs T [1]) w := by
  obtain ⟨v0, v1, v2, v3, v4, v5, v6, v7, v8, v9, v10, v11, v12, v13, v14, v15, v16, v17, v18, v19, v20, v21, v22, v23, v24, v25, v26, v27, v28, v29, v30, v31, v32, rfl⟩ := size33 T hT.size
  have h4 := hT.r
  have h8 := hT.a
  have h25 := hT.c
  simp only [List.getElem?_toArray, List.getElem?_cons_succ, List.getElem?_cons_zero, Option.some.injEq] at h4 h8 h25 h26
  subst h4 h8 h25 h26
  clear hT
  obtain ⟨p1, p2⟩ := p
  have hsz0 : w.heap.size ≤ w.heap.size := Nat.le_refl _
  obtain ⟨W0, hW0⟩ : ∃ n, w.heap.size = n := ⟨_, rfl⟩
  rw [hW0] at hk
  have hP' : JR W0 N m Z wS buf cl s r (p1, p2) w := ⟨hP.j, hP.b, hP.z, by omega⟩
  clear hP hsz0 hW0
  have hP := hP'
  clear hP'
  unfold RecvG
  simp only [ops15, L2, R12, tailW, RT, bodyT, Try.f40, Option.getD_some]
  refine GoesO.any rfl (fun w h₁ => ?_)
  replace hP := hP.ry h₁
  clear h₁
  refine goes_oper_k rfl rfl (by decide) (fun K hK => ?_)
  go_simp
  refine hK _ _ ⟨?_, ?_⟩
  · refine dl_look fun e he => ?_
    have hm := mem_listed he
    simp [go_sem, *] at hm
  rw [more_same rfl]
  clear hK K 
  refine GoesO.any rfl (fun w h₁ => ?_)
  replace hP := hP.ry h₁
  clear h₁
  rw [stepG_region_end]
  simp only [goes_go]
  refine ⟨DL.refl _ _ _, ?_⟩
  rw [more_same rfl]
  rw [R15_eq]
  refine GoesO.any rfl (fun w h₁ => ?_)
  replace hP := hP.ry h₁
  clear h₁
  rw [stepG_seq]
  simp only [goes_go]
  refine ⟨DL.refl _ _ _, ?_⟩
  rw [more_same rfl]
  refine GoesO.any rfl (fun w h₁ => ?_)
  replace hP := hP.ry h₁
  clear h₁
  rw [stepG_cond (t := false) rfl]
  simp only [goes_go, if_true, if_false, Bool.false_eq_true, ↓reduceIte]
  refine ⟨DL.refl _ _ _, ?_⟩
  rw [more_same rfl]
  refine GoesO.any rfl (fun w h₁ => ?_)
  replace hP := hP.ry h₁
  clear h₁
  refine goes_exit rfl ?_
  refine ⟨DL.refl _ _ _, ?_⟩
  rw [more_same rfl]
  rw [R18_eq]
  refine GoesO.any rfl (fun w h₁ => ?_)
  replace hP := hP.ry h₁
  clear h₁
  rw [stepG_seq]
  simp only [goes_go]
  refine ⟨DL.refl _ _ _, ?_⟩
  rw [more_same rfl]
  simp only [S18, R18, R12, tailW, RT, bodyT, Try.f40, Option.getD_some]
  refine GoesO.any rfl (fun w h₁ => ?_)
  replace hP := hP.ry h₁
  clear h₁
  rw [stepG_region]
  simp only [goes_go, List.size_toArray, List.length_cons, List.length_nil, Nat.reduceAdd, Nat.zero_add, List.range, List.range.loop]
  refine ⟨DL.refl _ _ _, ?_⟩
  rw [more_same rfl]
  refine GoesO.any rfl (fun w h₁ => ?_)
  replace hP := hP.ry h₁
  clear h₁
  refine goes_oper_k rfl rfl (by decide) (fun K hK => ?_)
  have hz0 := hP.b.c0
  have hz1 := hP.b.c1
  go_simp
  refine hK _ _ ⟨?_, ?_⟩
  · refine dl_look fun e he => ?_
    have hm := mem_listed he
    simp [go_sem, *] at hm
    rcases hm with rfl | rfl <;> exact ⟨_, rfl, .inl hZo⟩
  rw [more_same rfl]
  clear hK K hz0 hz1
  refine GoesO.any rfl (fun w h₁ => ?_)
  replace hP := hP.ry h₁
  clear h₁
  refine goes_oper_k rfl rfl (by decide) (fun K hK => ?_)
  have hrr : Bx2 w (N + 2) (0, 0) := hP.j.j.r
  have hc0 := hrr.c0
  have hc1 := hrr.c1
  have hf0 := hrr.f0 0
  have hf1 := hrr.f0 1
  have hb2 := hrr.set p1 p2
  have hkeep : ∀ b, b < N → ((w.setCell ⟨N + 2, 0, none⟩ (.int .i64 p1)).setCell ⟨N + 2, 1, none⟩ (.int .i64 p2)).heap[b]? = wS.heap[b]? := fun b hb =>
    (Below.heap_setCell _ ⟨N + 2, 1, none⟩ _ b (by show b ≠ N + 2; omega)).trans ((Below.heap_setCell w ⟨N + 2, 0, none⟩ _ b (by show b ≠ N + 2; omega)).trans (hP.j.j.keep b hb))
  have hstd : Std wS ((w.setCell ⟨N + 2, 0, none⟩ (.int .i64 p1)).setCell ⟨N + 2, 1, none⟩ (.int .i64 p2)) := ⟨hP.j.j.tape, hP.j.j.os, hP.j.j.output⟩
  have hsz : W0 ≤ ((w.setCell ⟨N + 2, 0, none⟩ (.int .i64 p1)).setCell ⟨N + 2, 1, none⟩ (.int .i64 p2)).heap.size := by simpa [World.setCell] using hP.sz
  go_simp
  refine hK _ _ ⟨?_, ?_⟩
  · refine dl_set2 hro hro fun e he => ?_
    have hm := mem_listed he
    simp [go_sem, *] at hm
    rcases hm with rfl | rfl <;> exact ⟨_, _, rfl, .inl hro⟩
  rw [more_same (by simp [World.setCell])]
  clear hK K hc0 hc1 hf0 hf1 hP hrr
  generalize (w.setCell ⟨N + 2, 0, none⟩ (.int .i64 p1)).setCell ⟨N + 2, 1, none⟩ (.int .i64 p2) = w4 at hb2 hkeep hstd hsz ⊢
  have hQ : W0 ≤ w4.heap.size ∧ (∀ b, b < N → w4.heap[b]? = wS.heap[b]?) ∧ Bx2 w4 (N + 2) (p1, p2) ∧ Std wS w4 := ⟨hsz, hkeep, hb2, hstd⟩
  clear hb2 hkeep hstd hsz
  have hry : ∀ {w w₁ : World} {own : Nat → Prop}, (W0 ≤ w.heap.size ∧ (∀ b, b < N → w.heap[b]? = wS.heap[b]?) ∧ Bx2 w (N + 2) (p1, p2) ∧ Std wS w) → Ry AtRel own w w₁ → (W0 ≤ w₁.heap.size ∧ (∀ b, b < N → w₁.heap[b]? = wS.heap[b]?) ∧ Bx2 w₁ (N + 2) (p1, p2) ∧ Std wS w₁) := fun h hr => by
    obtain ⟨d, rfl⟩ := hr.st
    exact ⟨h.1, h.2.1, h.2.2.1, ⟨h.2.2.2.tape, h.2.2.2.os, h.2.2.2.output⟩⟩
  refine GoesO.any rfl (fun w h₁ => ?_)
  replace hQ := hry hQ h₁
  clear h₁
  rw [stepG_region_end]
  simp only [goes_go]
  refine ⟨DL.refl _ _ _, ?_⟩
  rw [more_same rfl]
  refine GoesO.any rfl (fun w h₁ => ?_)
  replace hQ := hry hQ h₁
  clear h₁
  rw [stepG_ret']
  simp only [goes_go]
  refine ⟨DL.refl _ _ _, ?_⟩
  rw [more_same rfl]
  exact hk _ w _ rfl hQ.1 hQ.2.1 hQ.2.2.1 hQ.2.2.2
end
end
end Go.Proofs.Ytacedadenbinmaa
namespace Go.Proofs.Ytacedadenbinmaa
open Go.Par Go.Conc Go.ConcN Go.RowKit Go.Conc.Lib Go.ConcR.Gen Go.ConcN.Gen
open Go.ConcR (KK wgBlock WgAt stA smA rd wr mk DC0 Payload)

section
variable {N m Z : Nat} {wS w w₁ : World} {cs : List Frame}

theorem leaveD {cs : List Frame} {c : Frame} {todo : List Item} {T : Array Value} {D : Nat} {p : Int × Int} {K : Goroutine → World → Array Event → Prop} (h4 : T[4]? = some (.pointer (some ⟨D, 0, none⟩))) (c0 : w.cell? ⟨D, 0, none⟩ = some (.int .i64 p.1)) (c1 : w.cell? ⟨D, 1, none⟩ = some (.int .i64 p.2))
    (hk : ∀ es, (∀ e ∈ es, ∃ a, e = (⟨.cell a, false, false⟩ : Event) ∧ a.block = D) → K (G (c.finish (tv p)) cs) w es) : (stepG Try.prog true (G { (base 40).at ⟨T, []⟩ todo with mode := .returning } (c :: cs)) w).goes K := by
  have hT4 : T[4]?.getD undef = .pointer (some ⟨D, 0, none⟩) := by rw [h4]; rfl
  have hr : (results Try.f40 T).run Try.prog w = .ok (tv p) w := by
    simp [results, Try.f40, go_sem, hT4, c0, c1, tv]
  have he : ∀ e ∈ (results Try.f40 T).events Try.prog w #[], ∃ a, e = (⟨.cell a, false, false⟩ : Event) ∧ a.block = D := fun e he => by
    simp [results, Try.f40, go_sem, hT4, c0, c1] at he
    rcases he with rfl | rfl
    · exact ⟨_, rfl, rfl⟩
    · exact ⟨_, rfl, rfl⟩
  have e2 : (results Try.f40 T).runT Try.prog w #[] = (.ok (tv p) w, (results Try.f40 T).events Try.prog w #[]) := by rw [Sem.runT_eq, hr]
  generalize (results Try.f40 T).events Try.prog w #[] = es at he e2
  have hst : stepG Try.prog true (G { (base 40).at ⟨T, []⟩ todo with mode := .returning } (c :: cs)) w = .go (G (c.finish (tv p)) cs) w (seen Try.prog 40 es) := by
    simp only [stepG, unwind, G, Frame.at, base, Try.func40, e2, doReturn]
    simp [GStep.after]
  rw [hst]
  exact hk _ fun e hee => he e (mem_seen hee)

/-- tallies joined one behind the other -/
def joinAll : Int × Int → List (Int × Int) → Int × Int := List.foldl joinT

/-- at a receive -/
def AtR (N m Z : Nat) (wS : World) (cs : List Frame) (l : List (Int × Int)) (p : Int × Int) (g : Goroutine) (w : World) : Prop :=
  ∃ T s r, g = RecvG cs T [0, 1] ∧ TR N Z T ∧ JR 0 N m Z wS (l.map tv).toArray true s r p w
/-- back in its caller -/
def Bk (N : Nat) (wS : World) (c : Frame) (cs : List Frame) (p : Int × Int) (g : Goroutine) (w : World) : Prop :=
  g = G (c.finish (tv p)) cs ∧ N + 6 ≤ w.heap.size ∧ (∀ b, b < N → w.heap[b]? = wS.heap[b]?) ∧ Std wS w

theorem joinT_nn {p q : Int × Int} (hp : 0 ≤ p.2) (hq : 0 ≤ q.2) : 0 ≤ (joinT p q).2 ∧ (joinT p q).2 ≤ p.2 + q.2 := by
  simp only [joinT]
  split
  · omega
  · split
    · omega
    · split
      · omega
      · simp only; omega

section
variable {LB : FuncId → Bool} {mach : Machine} {t : Trace} {n : Nat} {c : Frame}
theorem ownNZ (hw : N + 6 ≤ w.heap.size) (hz : N + 6 ≤ Z ∧ Z < w.heap.size) : OwJ (N + 5) (fun b => b = N + 2 ∨ b = Z) w := by
  rintro b (rfl | rfl)
  · exact ⟨by omega, by omega⟩
  · exact ⟨by omega, by omega⟩

set_option maxRecDepth 100000 in
set_option maxHeartbeats 4000000 in
/-- ALL RECEIVES, AND THE RETURN -/
theorem recvAll (HC : Closed Try.prog (fun f => LB f = true) LB) (hLj : LB 69 = true) (hglob : Try.prog.globals.size ≤ N) : ∀ (l : List (Int × Int)) (p : Int × Int) (mach : Machine) (t : Trace), 0 ≤ p.2 → (∀ q ∈ l, 0 ≤ q.2) → p.2 + (l.map (·.2)).sum ≤ 1000000000 →
    BSt Try.prog (ShN (N + 5)) n (AtR N m Z wS (c :: cs) l p) mach t → Leads Try.prog (BSt Try.prog (ShN (N + 5)) n (Bk N wS c cs (joinAll p l))) mach t := by
  intro l
  induction l with
  | nil =>
    intro p mach t _ _ _ h
    obtain ⟨gs, a, w, sl, q0, e, h1, h2, h3, h4, T, s, r, rfl, hT, hP⟩ := h
    refine (recv_closedX (P := Try.prog) (Shun := ShN (N + 5)) (n := n) (c := N + 3) (cap := m) (s := s) (r := r) (z := tv (0, 0)) (tm := false) (X := fun g w => ∃ T, g = RecvG (c :: cs) T [1] ∧ TR N Z T ∧ T[26]? = some (.tuple #[tv (0, 0), .bool false]) ∧ JR 0 N m Z wS #[] true s r p w)
      ⟨gs, _, w, sl, q0, e, h1, h2, h3, h4, ⟨rfl, fun d => atRecvT T _ hT⟩, hP.j.ch, fun d => ⟨T.setIfInBounds 26 (.tuple #[tv (0, 0), .bool false]), servedT T _, hT.set26 _, at26 hT _, hP.j.at d, hP.b, hP.z, hP.sz⟩⟩).trans fun m1 t1 hh => ?_
    refine (walkJ (Stop := fun _ g w => Bk N wS c cs p g w) hh fun g w ⟨T, hg, hT, h26, hP⟩ => ?_).trans fun m2 t2 ⟨gs, a, w, sl, q0, e, h1, h2, h3, h4, own, _, hs⟩ => .refl ⟨gs, a, w, sl, q0, e, h1, h2, h3, h4, hs⟩
    subst hg
    have hlow := hP.j.j.low
    refine ⟨by omega, fun b => b = N + 2 ∨ b = Z, ownNZ hlow ⟨hP.z, hP.b.lt⟩, ?_⟩
    refine endT T w _ p hT h26 hP (.inl rfl) (.inr rfl) fun T' w' todo h4 hsz hk hb hst => ?_
    refine GoesO.any rfl fun w₁ hr => ?_
    obtain ⟨d, rfl⟩ := hr.st
    refine leaveD (w := w'.at d) h4 (hb.c0 : w'.cell? _ = _) (hb.c1 : w'.cell? _ = _) fun es he => ⟨dl_look fun e hee => ?_, .leaf, fun w₂ hr2 => ?_⟩
    · obtain ⟨a, rfl, ha⟩ := he e hee
      exact ⟨a, rfl, .inl (.inl ha)⟩
    · obtain ⟨d2, rfl⟩ := hr2.st
      exact ⟨rfl, Nat.le_trans hlow hsz, hk, hst.tape, hst.os, hst.output⟩
  | cons q l ih =>
    intro p mach t hp hl hs h
    obtain ⟨gs, a, w, sl, q0, e, h1, h2, h3, h4, T, s, r, rfl, hT, hP⟩ := h
    have hq : 0 ≤ q.2 := hl q (by simp)
    have hnn : ∀ l : List (Int × Int), (∀ q ∈ l, 0 ≤ q.2) → 0 ≤ (l.map (·.2)).sum := fun l => by
      induction l with
      | nil => intro _; simp
      | cons a l ih => intro h; have := ih fun q hq => h q (by simp [hq]); have := h a (by simp); simp; omega
    have hl' : ∀ q ∈ l, 0 ≤ q.2 := fun q hq => hl q (by simp [hq])
    have hsum := hnn l hl'
    simp only [List.map_cons, List.sum_cons] at hs
    have hj := joinT_nn hp hq
    refine (recv_bufX (P := Try.prog) (Shun := ShN (N + 5)) (n := n) (c := N + 3) (cap := m) (s := s) (r := r) (z := tv (0, 0)) (tm := false) (buf := ((q :: l).map tv).toArray) (closed := true) (X := fun g w => ∃ T, g = RecvG (c :: cs) T [1] ∧ TR N Z T ∧ T[26]? = some (.tuple #[tv q, .bool true]) ∧ JR 0 N m Z wS (l.map tv).toArray true s (r + 1) p w)
      ⟨gs, _, w, sl, q0, e, h1, h2, h3, h4, ⟨rfl, fun d => atRecvT T _ hT⟩, hP.j.ch, fun d => ⟨T.setIfInBounds 26 (.tuple #[tv q, .bool true]), servedT T _, hT.set26 _, at26 hT _, ?_, ?_, hP.z, by simp⟩⟩ (by simp)).trans fun m1 t1 hh => ?_
    · have := (hP.j.at d).chan (((q :: l).map tv).toArray.extract 1 ((q :: l).map tv).toArray.size) true s (r + 1)
      rwa [show ((q :: l).map tv).toArray.extract 1 ((q :: l).map tv).toArray.size = (l.map tv).toArray by simp; exact List.take_of_length_le (by simp)] at this ⊢
    · have hz := hP.z
      have : ((w.at d).setChan (N + 3) m (((q :: l).map tv).toArray.extract 1 ((q :: l).map tv).toArray.size) true s (r + 1) false).heap[Z]? = (w.at d).heap[Z]? := by
        simp only [World.setChan]
        rw [Array.getElem?_setIfInBounds_ne (by omega)]
      exact this.trans hP.b
    refine (walkJ (Stop := fun _ g w => AtR N m Z wS (c :: cs) l (joinT p q) g w) hh fun g w ⟨T, hg, hT, h26, hP⟩ => ?_).trans fun m2 t2 ⟨gs, a, w, sl, q0, e, h1, h2, h3, h4, own, _, hst⟩ => ih (joinT p q) m2 t2 hj.1 hl' (by omega) ⟨gs, a, w, sl, q0, e, h1, h2, h3, h4, hst⟩
    subst hg
    have hlow := hP.j.j.low
    have hzl := hP.b.lt
    refine ⟨by omega, fun b => b = N + 2 ∨ b = Z, ownNZ hlow ⟨hP.z, hzl⟩, ?_⟩
    refine roundT (B := w.heap.size) HC hLj hglob T w p q _ hT h26 rfl (by omega) ⟨hP.j, hP.b, hP.z, Nat.le_refl _⟩ (.inr rfl) (fun b hb => (ownNZ hlow ⟨hP.z, hzl⟩ b hb).1) fun B' own' T' w' _ _ hT' hP' => ⟨.leaf, fun w₂ hr2 => ?_⟩
    obtain ⟨d2, rfl⟩ := hr2.st
    exact ⟨T', s, r + 1, rfl, hT', hP'.j.at d2, hP'.b, hP'.z, Nat.zero_le _⟩
end
end
end Go.Proofs.Ytacedadenbinmaa
namespace Go.Proofs.Ytacedadenbinmaa
open Go.Par Go.Conc Go.ConcN Go.RowKit Go.Conc.Lib Go.ConcR.Gen Go.ConcN.Gen
open Go.ConcR (KK wgBlock WgAt stA smA rd wr mk DC0 Payload)

/-- what worker i found -/
def valP (m : Nat) (zs : List Int) (i : Nat) : Int × Int := tf (zs.drop 1) ((List.replicate m 0).set i (zs[0]?.getD 0))
theorem flatMap_congr' {l : List Nat} {f g : Nat → List Int} (h : ∀ i ∈ l, f i = g i) : l.flatMap f = l.flatMap g := by
  induction l with
  | nil => rfl
  | cons a l ih => rw [List.flatMap_cons, List.flatMap_cons, h a (by simp), ih fun i hi => h i (by simp [hi])]
theorem joinAll_perm (f : Nat → List Int) : ∀ (L : List Nat) (l : List Int), joinAll (tal l) (L.map fun i => tal (f i)) = tal (l ++ L.flatMap f)
  | [], l => by simp [joinAll]
  | i :: L, l => by
    have := joinAll_perm f L (l ++ f i)
    simp only [joinAll, List.map_cons, List.foldl_cons, joinT_tal] at this ⊢
    rw [this, List.flatMap_cons, List.append_assoc]
theorem sum_perm {m : Nat} {zs : List Int} (h : 1 ≤ zs.length) {L : List Nat} (hL : L.Nodup) (hm : ∀ i, i ∈ L ↔ i < m) : joinAll (0, 0) (L.map (valP m zs)) = tal (spans zs (List.replicate m 0)) := by
  obtain ⟨x, xs, rfl⟩ : ∃ x xs, zs = x :: xs := by
    cases zs with
    | nil => simp at h
    | cons x xs => exact ⟨x, xs, rfl⟩
  have e : valP m (x :: xs) = fun i => tal (spans xs ((List.replicate m 0).set i x)) := by
    funext i
    simp [valP, tf_tal]
  rw [e, show ((0, 0) : Int × Int) = tal [] from tal_nil.symm, joinAll_perm, List.nil_append]
  have hp : L.Perm (List.range m) := (List.perm_ext_iff_of_nodup hL List.nodup_range).2 fun i => by rw [hm, List.mem_range]
  refine (tal_perm (hp.flatMap_right _)).trans ?_
  congr 1
  rw [spans, List.length_replicate]
  refine flatMap_congr' fun i hi => ?_
  rw [List.mem_range] at hi
  simp [putAt, hi]

section
variable {LB : FuncId → Bool} {m ab off cap : Nat} {zs : List Int} {cs : List Frame} {c : Frame} {wS : World} {mach : Machine} {t : Trace}

/-- what tallyOf is given -/
structure TIn (LB : FuncId → Bool) (m ab off cap : Nat) (zs : List Int) (w : World) : Prop where
  el : ∀ j, j < zs.length → w.cell? ⟨ab, off + j, none⟩ = some (.int .i64 (zs[j]?.getD 0))
  me : ∃ (ρ : Rn) (A : World) (a0 : Nat), Sim Try.prog (fun f => LB f = true) ρ A w ∧ ρ a0 ab ∧ ∀ j, j < zs.length → A.cell? ⟨a0, off + j, none⟩ = some (.int .i64 (zs[j]?.getD 0))
  g : good zs
  len : 1 ≤ zs.length ∧ zs.length ≤ 10
  m : 1 ≤ m ∧ m ≤ 5

theorem valP_nn (m : Nat) (zs : List Int) (i : Nat) : 0 ≤ (valP m zs i).2 := (tf_bd _ _).1
theorem valP_le {m : Nat} {zs : List Int} (hm : m ≤ 5) (hl : zs.length ≤ 10) (i : Nat) : (valP m zs i).2 ≤ 9765625 := by
  have h := (tf_bd (zs.drop 1) ((List.replicate m 0).set i (zs[0]?.getD 0))).2
  rw [List.length_set, List.length_replicate, List.length_drop] at h
  have := pow5 (m := m) (n := zs.length - 1) hm (by omega)
  unfold valP
  omega
theorem valP_sum {m : Nat} {zs : List Int} (hm : m ≤ 5) (hl : zs.length ≤ 10) : ∀ L : List Nat, ((L.map (valP m zs)).map (·.2)).sum ≤ L.length * 9765625
  | [] => by simp
  | i :: L => by
    have h1 := valP_sum hm hl L
    have h2 := valP_le hm hl i
    simp only [List.map_cons, List.sum_cons, List.length_cons] at h1 ⊢
    omega

set_option maxRecDepth 100000 in
set_option maxHeartbeats 8000000 in
/-- THE PHASE -/
theorem tally_phase (HC : Closed Try.prog (fun f => LB f = true) LB) (hLj : LB 69 = true) (hLf : LB 67 = true) (hI : TIn LB m ab off cap zs wS)
    (h : LSt (fun _ => False) (fun g w => g = G (Frame.enter Try.prog 40 #[.slice (some ⟨ab, off, none⟩) zs.length cap, .int .i64 m] .normal) (c :: cs) ∧ w = wS) mach t) :
    Leads Try.prog (BSt Try.prog (ShN (wS.heap.size + 5)) (m + 1) (Bk wS.heap.size wS c cs (tal (spans zs (List.replicate m 0))))) mach t := by
  obtain ⟨N, hN⟩ : ∃ N, wS.heap.size = N := ⟨_, rfl⟩
  obtain ⟨ρ0, A0, a0, hSim, hab, hA⟩ := hI.me
  have hglob := hSim.gB
  have hlt : ∀ b, ran ρ0 b → b < N := fun b hb => hN ▸ (hSim.wr.lt hb).2
  have hR0 : ran ρ0 ab := ⟨a0, hab⟩
  -- to the making of the group
  have hs := start_T (ab := ab) (off := off) (cap := cap) (m := m) (n := zs.length) (cs := c :: cs) (RO := fun b => b < N) (own := fun _ => False)
    (Stop := fun _ g w => ∃ T, TS N T ∧ g = G ((base 40).at ⟨T, []⟩ [.code S4]) (c :: cs) ∧ P1 N ab off cap m zs.length wS w) wS (by have := hI.len; omega) hI.m.2 hI.len.2
    (fun own' w' T hO hP hT => ⟨.leaf, GoesO.stop fun w₁ hr => by
      rw [hN] at hT hP
      obtain ⟨d, rfl⟩ := hr.st
      exact ⟨T, hT, rfl, hP.size, hP.keep, hP.a, hP.mm, hP.r, hP.ch, hP.c⟩⟩)
  have hs' : ∃ tr, GoesO Try.prog true AtRel (DL fun b => b < N) (fun own g w => (∃ T, TS N T ∧ g = G ((base 40).at ⟨T, []⟩ [.code S4]) (c :: cs) ∧ P1 N ab off cap m zs.length wS w) ∧ N ≤ w.heap.size ∧ (∀ b, b < N → w.heap[b]? = wS.heap[b]?) ∧ Std wS w) tr (fun _ => False) _ wS :=
    let ⟨tr, h⟩ := hs; ⟨tr, h.keepB (fun b hb => hb.elim) (by omega) (fun _ _ => rfl) ⟨rfl, rfl, rfl⟩⟩
  refine (walkA (X := fun _ => False) (B := N) (w0 := wS) (fun b hb => hb.elim) (by omega) (fun _ _ h => h) (fun b hb => hb.elim) hs' h).trans fun m1 t1 h1 => ?_
  clear hs hs' h
  obtain ⟨a, w1, sl, rfl, hT1, _, _, _, ⟨T, hT, rfl, hP1⟩, _, hk1, hst1⟩ := h1
  have hsz1 := hP1.size
  -- the group is made
  have k0 : LSt (fun b => b = N + 5) (fun g w => g = G ((base 40).at ⟨T, []⟩ [.code S4]) (c :: cs) ∧ w = w1) (crowd #[G ((base 40).at ⟨T, []⟩ [.code S4]) (c :: cs)] w1 sl) t1 :=
    ⟨_, w1, sl, rfl, hT1.more fun b hb => .inr (by omega), rfl, rfl⟩
  refine (Go.Par.stepL (P := Try.prog) (Q' := fun g w => g = G ((base 40).at ⟨T, []⟩ [.code S4a, .code S5R]) (c :: cs) ∧ ∃ d, w = w1.at d) k0 ?_).trans fun m2 t2 k1 => ?_
  · rintro g w ⟨rfl, rfl⟩
    refine ⟨rfl, fun d => ⟨_, w.at d, #[], by rw [S4_eq, stepG_seq]; rfl, Nat.le_refl _, by simp, rfl, d, rfl⟩⟩
  refine (Go.Par.stepL (P := Try.prog) (Q' := fun g w => g = G ((base 40).at ⟨T, []⟩ [.inRegion ops4 [0], .code S5R]) (c :: cs) ∧ ∃ d, w = w1.at d) k1 ?_).trans fun m3 t3 k2 => ?_
  · rintro g w ⟨rfl, d0, rfl⟩
    refine ⟨rfl, fun d => ⟨_, (w1.at d0).at d, #[], by rw [S4a_eq, stepG_region]; rfl, Nat.le_refl _, by simp, rfl, d, rfl⟩⟩
  refine (Go.Par.stepL (P := Try.prog) (Q' := fun g w => g = G ((base 40).at ⟨T.setIfInBounds 6 (.pointer (some ⟨N + 5, 0, none⟩)), []⟩ [.inRegion ops4 [], .code S5R]) (c :: cs) ∧ P2 N w1 w ∧ Std wS w) k2 ?_).trans fun m4 t4 k3 => ?_
  · rintro g w ⟨rfl, d0, rfl⟩
    refine ⟨rfl, fun d => ⟨_, _, #[], alloc4_T T _ hT.size, by rw [World.size_alloc]; exact Nat.le_succ _, by simp, ?_, ⟨?_, fun b hb => ?_, ?_⟩, hst1.tape, hst1.os, hst1.output⟩⟩
    · rw [show ((w1.at d0).at d).heap.size = N + 5 from hsz1]
    · rw [World.size_alloc]; exact congrArg (· + 1) hsz1
    · exact Below.heap_alloc _ _ _ (by show b < w1.heap.size; omega)
    · have := heap_alloc_new ((w1.at d0).at d) (.cells #[.int .u64 0, .int .u32 0] 68)
      rwa [show ((w1.at d0).at d).heap.size = N + 5 from hsz1] at this
  -- to the loop's head
  obtain ⟨a, w2, sl2, rfl, hT2, rfl, hP2, hst2⟩ := k3
  have hsz2 := hP2.size
  have hTS : TS N (T.setIfInBounds 6 (.pointer (some ⟨N + 5, 0, none⟩))) := ⟨by simp [hT.size], by rw [Array.getElem?_setIfInBounds_ne (by decide)]; exact hT.t2, by rw [Array.getElem?_setIfInBounds_ne (by decide)]; exact hT.t3, by rw [Array.getElem?_setIfInBounds_ne (by decide)]; exact hT.t4, by rw [Array.getElem?_setIfInBounds_ne (by decide)]; exact hT.t5⟩
  have cell2 : ∀ b o, b < N + 5 → w2.cell? ⟨b, o, none⟩ = w1.cell? ⟨b, o, none⟩ := fun b o hb => by simp only [World.cell?, hP2.keep b hb]
  have cell1 : ∀ b o, b < N → w1.cell? ⟨b, o, none⟩ = wS.cell? ⟨b, o, none⟩ := fun b o hb => by simp only [World.cell?, hk1 b hb]
  have hs2 := start3_T (m := m) (cs := c :: cs) (N := N) (RO := fun b => b < N) (own := fun b => N ≤ b ∧ b < N + 5) (Stop := fun _ g w => AnS (N + 5) N (N + 4) (N + 1) (N + 2) m (c :: cs) 0 g ∧ ∃ d, w = w2.at d)
    (T.setIfInBounds 6 (.pointer (some ⟨N + 5, 0, none⟩))) w2 hTS (by rw [Array.getElem?_setIfInBounds_self_of_lt (by rw [hT.size]; decide)]) ((cell2 _ _ (by omega)).trans hP1.mm) ⟨by omega, by omega⟩
    (fun d g hg => ⟨.leaf, GoesO.stop fun w₁ hr => by obtain ⟨d', rfl⟩ := hr.st; exact ⟨hg, d', rfl⟩⟩)
  refine (walkA (X := fun b => b = N + 5) (B := N) (w0 := w2) (fun b hb => by omega) (by omega) (fun b hb => by omega) (fun b hb => ⟨by omega, by omega⟩) hs2 ⟨_, w2, sl2, rfl, hT2, rfl, rfl⟩).trans fun m5 t5 k5 => ?_
  clear hs2
  obtain ⟨a, w3, sl3, rfl, hT3, own3, _, _, hAn, d, rfl⟩ := k5
  -- the crew
  have sha : ∀ b, b < N + 5 → b ≠ N + 3 → Sha (N + 6) (N + 5) (N + 3) b := fun b h1 h2 => ⟨by omega, by omega, h2⟩
  have hBF : BF LB (N + 6) (N + 5) (N + 3) N (N + 4) (N + 1) ab off cap m zs (w2.at d) :=
    ⟨(cell2 _ _ (by omega)).trans hP1.mm, (cell2 _ _ (by omega)).trans hP1.a, (cell2 _ _ (by omega)).trans hP1.c, fun j hj => (cell2 _ _ (by have := hlt _ hR0; omega)).trans ((cell1 _ _ (hlt _ hR0)).trans (hI.el j hj)), by omega, by show N + 6 ≤ w2.heap.size; omega, sha _ (by omega) (by omega), sha _ (by omega) (by omega), sha _ (by omega) (by omega), sha _ (by have := hlt _ hR0; omega) (by have := hlt _ hR0; omega),
      (let ⟨t, h⟩ := hSim.keep (w₁ := w2.at d) (fun b hb => (hP2.keep b (by have := hlt b hb; omega)).trans (hk1 b (hlt b hb))) (by show wS.heap.size ≤ w2.heap.size; omega); ⟨ρ0, re A0 t, a0, h, hab, fun b hb => sha b (by have := hlt b hb; omega) (by have := hlt b hb; omega), hA⟩)⟩
  have hwg : WgAt wgl.tWg (N + 5) (w2.at d) 0 0 := by
    unfold WgAt wgBlock
    exact hP2.wg
  have hsp := fromHead (rB := N + 2) (cs := c :: cs) HC hLf (by omega) hI.m.2 hI.g hI.len m 0 (by omega) (fun _ => False) a (w2.at d) (fun _ h => h) hAn hBF ⟨_, _, hwg⟩
  obtain ⟨μ, hinv⟩ := crew_start (Cont := CoT LB (N + 6) (N + 5) (N + 3) N (N + 4) (N + 1) (N + 2) ab off cap m zs (c :: cs)) (sl := sl3) hsp hwg ((hP2.keep (N + 3) (by omega)).trans hP1.ch) hT3 (fun b hb => hb.elim) (by show N + 6 ≤ w2.heap.size; omega)
  refine (crew_leads (fun own g w h => anT_run own g w h) (fun own g w h => anT_round own g w h) (by omega) (by omega) (by omega) (by have := hI.m.2; omega) μ _ _ hinv).trans fun m6 t6 k6 => ?_
  clear hinv hsp hAn hTS hT3 hT2 hT1
  obtain ⟨gs, a, w, sl, q, rfl, g1, g2, g3, g4, om, ⟨mm, hgo⟩, hJ, hlive⟩ := k6
  obtain ⟨L, hLn, hLm, hLc⟩ := hJ.chan
  have hJC : JC N m wS (L.map (valT m zs)).toArray false L.length 0 w := by
    have kk : ∀ b, b < N + 5 → b ≠ N + 3 → w.heap[b]? = w1.heap[b]? := fun b h1 h2 => (hJ.shared b (sha b h1 h2)).trans (hP2.keep b h1)
    have kc : ∀ b o, b < N + 5 → b ≠ N + 3 → w.cell? ⟨b, o, none⟩ = w1.cell? ⟨b, o, none⟩ := fun b o h1 h2 => by simp only [World.cell?, kk b h1 h2]
    exact ⟨⟨fun b hb => (kk b (by omega) (by omega)).trans (hk1 b hb), (kc _ _ (by omega) (by omega)).trans hP1.c, (kk _ (by omega) (by omega)).trans hP1.r, hJ.loS, hJ.tape.trans hst2.tape, hJ.os.trans hst2.os, hJ.output.trans hst2.output⟩, hLc⟩
  have hWz : N + 5 < w.heap.size := by have := hJ.loS; omega
  have hs4 : ∃ tr, GoesO Try.prog true AtRel (DL fun b => b < w.heap.size ∧ b ≠ N + 5) (fun _ g w' => ∃ T, TW (N + 4) (N + 2) T ∧ T[24]? = some (.chan (some (N + 3))) ∧ g = G ((base 40).at ⟨T, []⟩ [.inRegion ops12 [1], .code R12]) (c :: cs) ∧ JC N m wS (L.map (valT m zs)).toArray false L.length 0 w') tr (fun _ => False) a w := by
    have h0 := GoesO.of_goes (S := AtRel) (D := DL fun b => b < w.heap.size ∧ b ≠ N + 5) (Stop := fun _ g w => CoT LB (N + 6) (N + 5) (N + 3) N (N + 4) (N + 1) (N + 2) ab off cap m zs (c :: cs) om g w) (own := fun _ => False)
      (fun w w₁ hr => by obtain ⟨d, rfl⟩ := hr.st; exact ry_at' om w d) (fun w w' es h => dc0_dl w w' es h) (fun g w h => h) hgo
    refine (h0.keepB (B := w.heap.size) (w0 := w) (fun b hb => hb.elim) (Nat.le_refl _) (fun _ _ => rfl) ⟨rfl, rfl, rfl⟩).seq fun own' g' w' hst => ?_
    obtain ⟨⟨T, hT, rfl, _⟩, hz, hk, hsd⟩ := hst w' (.refl atRel_tr own' w')
    refine toClose T w' hT (hJC.moved (fun b hb => hk b (by have := hJ.loS; omega)) hz hsd.tape hsd.os hsd.output) ⟨by omega, by omega⟩ fun T w'' hT h24 hP => ⟨.leaf, GoesO.stop fun w₁ hr => ?_⟩
    obtain ⟨d, rfl⟩ := hr.st
    exact ⟨T, hT, h24, rfl, hP.at d⟩
  refine (walkJ (Q := fun g w' => g = a ∧ w' = w) (Stop := fun _ g w' => ∃ T, TW (N + 4) (N + 2) T ∧ T[24]? = some (.chan (some (N + 3))) ∧ g = G ((base 40).at ⟨T, []⟩ [.inRegion ops12 [1], .code R12]) (c :: cs) ∧ JC N m wS (L.map (valT m zs)).toArray false L.length 0 w') ⟨gs, a, w, sl, q, rfl, g1, g2, g3, g4, rfl, rfl⟩ ?_).trans fun m7 t7 k7 => ?_
  · rintro g w' ⟨rfl, rfl⟩
    exact ⟨hWz, _, fun b hb => hb.elim, hs4⟩
  -- the close
  refine (stepX (Q' := fun g w' => ∃ T, TW (N + 4) (N + 2) T ∧ g = G ((base 40).at ⟨T, []⟩ [.inRegion ops12 [], .code R12]) (c :: cs) ∧ JC N m wS (L.map (valT m zs)).toArray true L.length 0 w') k7 ?_).trans fun m8 t8 k8 => ?_
  · rintro g w' ⟨own, _, T, hT, h24, rfl, hP⟩
    refine ⟨rfl, fun d => ⟨_, _, _, atClose T (w'.at d) hT.size h24 (hP.at d), by rw [size_setChan]; exact Nat.le_refl _, fun e he => ?_, fun d' => ⟨T, hT, rfl, ((hP.at d).chan _ _ _ _).at d'⟩⟩⟩
    have hl := hP.j.low
    simp only [Array.mem_toList_iff, List.mem_toArray, List.mem_cons, List.not_mem_nil, or_false] at he
    rcases he with rfl | rfl <;>
    · refine ⟨fun x hx => ?_, by simp, by simp⟩
      simp only [MemAct.ofEvent, MemAct.touch?, if_true, Option.some.injEq, reduceCtorEq] at hx
      try (subst hx; exact ⟨fun ⟨y, hy, _⟩ => (by cases hy), (by show N + 3 < _; rw [size_setChan]; show N + 3 < w'.heap.size; omega)⟩)
  -- to the first receive, and all of them
  have hsum := valP_sum (m := m) (zs := zs) hI.m.2 hI.len.2 L
  have hLl : L.length = m := by
    have := ((List.perm_ext_iff_of_nodup hLn List.nodup_range).2 fun i => by rw [hLm, List.mem_range]).length_eq
    simpa using this
  refine (walkJ (Stop := fun _ g w => ∃ Z, AtR N m Z wS (c :: cs) (L.map (valP m zs)) (0, 0) g w) k8 ?_).trans fun m9 t9 k9 => ?_
  · rintro g w' ⟨T, hT, rfl, hP⟩
    have hl := hP.j.low
    refine ⟨by omega, fun _ => False, fun b hb => hb.elim, ?_⟩
    refine toRecv T w' hT hP ⟨by omega, by omega⟩ fun own' T' w'' Z hZ _ _ hT' hP' hB => ⟨.leaf, GoesO.stop fun w₁ hr => ?_⟩
    obtain ⟨d, rfl⟩ := hr.st
    have el : (L.map (valT m zs)).toArray = ((L.map (valP m zs)).map tv).toArray := by rw [List.map_map]; rfl
    rw [el] at hP'
    exact ⟨Z, T', _, _, rfl, hT', hP'.at d, hB, hZ, Nat.zero_le _⟩
  obtain ⟨gs, a, w, sl, q, rfl, g1, g2, g3, g4, own, _, Z, hR⟩ := k9
  have hend := recvAll (wS := wS) (c := c) (cs := cs) (n := m + 1) HC hLj (by omega) (L.map (valP m zs)) (0, 0) (crowd gs w sl) t9 (by simp) (fun q hq => by
    obtain ⟨i, _, rfl⟩ := List.mem_map.1 hq
    exact valP_nn _ _ _) (by
    have h5 := hI.m.2
    have : (L.length : Int) * 9765625 ≤ 5 * 9765625 := by omega
    simp only at hsum ⊢
    omega) ⟨gs, a, w, sl, q, rfl, g1, g2, g3, g4, hR⟩
  rw [sum_perm hI.len.1 hLn hLm] at hend
  rw [hN]
  exact hend
end
end Go.Proofs.Ytacedadenbinmaa
