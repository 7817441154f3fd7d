/- A worker of tallyOf: from its birth to its send, and behind it. Conditions: at least one and at most ten good loads, at most five machines. -/
import Derived.Test.YtacedadenbinmaaZd
import Derived.Test.YtacedadenbinmaaZf
import Derived.Test.YtacedadenbinmaaZi
import Derived.Conc.WgWords
import Derived.Laws.MakeOwn
set_option linter.unusedVariables false
set_option linter.unusedSimpArgs false
set_option linter.unusedSectionVars false
namespace Go.Proofs.Ytacedadenbinmaa
open Go.Par Go.Conc Go.ConcN Go.RowKit Go.Conc.Lib Go.ConcR.Gen Go.ConcN.Gen
open Go.ConcR (KK wgBlock WgAt stA smA rd wr mk DC0 Payload)

noncomputable def bodyC : Code := Try.f65.body.getD .skip
def bC : Frame := { (default : Frame) with fn := 65, kind := .deferred }
noncomputable def botC : Frame := { (default : Frame) with fn := Try.prog.funcs.size, defers := [], mode := .panicking [goexitEntry] }
def ptrV (b : Nat) : Value := .pointer (some ⟨b, 0, none⟩)
def callC (Wg aB cB mB Mb : Nat) : Deferred := { target := .fn (.func 65) #[.pointer (some ⟨Wg, 0, none⟩), .pointer (some ⟨mB, 0, none⟩), .pointer (some ⟨aB, 0, none⟩), .pointer (some ⟨Mb, 0, none⟩), .pointer (some ⟨cB, 0, none⟩)], args := #[] }

/-- a look at blocks that stand -/
theorem dl_look {RO own : Nat → Prop} {w : World} {es : Array Event} (h : ∀ e ∈ es, ∃ a, e = ⟨.cell a, false, false⟩ ∧ (own a.block ∨ RO a.block)) : DL RO own w w es :=
  ⟨Nat.le_refl _, fun _ _ _ => rfl, rfl, rfl, rfl, fun e he => by
    obtain ⟨a, rfl, h⟩ := h e he
    exact .inl ⟨a, false, rfl, h.imp .inl fun h => ⟨h, rfl⟩⟩⟩

/-- the loads have fellows in a lone world -/
def PlK (LB : FuncId → Bool) (Low Wg Ch ab off : Nat) (zs : List Int) (w : World) : Prop :=
  ∃ (ρ : Rn) (A : World) (a0 : Nat), Sim Try.prog (fun f => LB f = true) ρ A w ∧ ρ a0 ab ∧ (∀ b, ran ρ b → Sha Low Wg Ch b) ∧ ∀ j, j < zs.length → A.cell? ⟨a0, off + j, none⟩ = some (.int .i64 (zs[j]?.getD 0))
theorem PlK.keep {LB : FuncId → Bool} {Low Wg Ch ab off : Nat} {zs : List Int} {w w₁ : World} (h : PlK LB Low Wg Ch ab off zs w) (hk : ∀ b, Sha Low Wg Ch b → w₁.heap[b]? = w.heap[b]?) (hz : w.heap.size ≤ w₁.heap.size) : PlK LB Low Wg Ch ab off zs w₁ := by
  obtain ⟨ρ, A, a0, h1, h2, h3, h4⟩ := h
  obtain ⟨t, h1'⟩ := h1.keep (w₁ := w₁) (fun b hb => hk b (h3 b hb)) hz
  exact ⟨ρ, re A t, a0, h1', h2, h3, h4⟩

/-- what a worker finds -/
structure CF (LB : FuncId → Bool) (Low Wg Ch aB cB mB Mb ab off cap m i : Nat) (zs : List Int) (w : World) : Prop where
  m : w.cell? ⟨mB, 0, none⟩ = some (.int .i64 m)
  a : w.cell? ⟨aB, 0, none⟩ = some (.slice (some ⟨ab, off, none⟩) zs.length cap)
  c : w.cell? ⟨cB, 0, none⟩ = some (.chan (some Ch))
  i : w.cell? ⟨Mb, 0, none⟩ = some (.int .i64 i)
  el : ∀ j, j < zs.length → w.cell? ⟨ab, off + j, none⟩ = some (.int .i64 (zs[j]?.getD 0))
  glob : Try.prog.globals.size ≤ Low
  low : Low ≤ w.heap.size
  live : WgLive wgl.tWg Wg w
  sm : Sha Low Wg Ch mB
  sa : Sha Low Wg Ch aB
  sc : Sha Low Wg Ch cB
  sab : Sha Low Wg Ch ab
  pl : PlK LB Low Wg Ch ab off zs w
  lo : Low ≤ Mb ∧ Mb < w.heap.size

section
variable {LB : FuncId → Bool} {Low Wg Ch aB cB mB Mb ab off cap m i : Nat} {zs : List Int} {w0 w : World} {own : Nat → Prop}
theorem CF.ry (h : CF LB Low Wg Ch aB cB mB Mb ab off cap m i zs w0) (hM : own Mb) (hF : Ry (SB wgl.tWg Low Wg Ch) own w0 w) : CF LB Low Wg Ch aB cB mB Mb ab off cap m i zs w := by
  have k : ∀ b o, w.heap[b]? = w0.heap[b]? → w.cell? ⟨b, o, none⟩ = w0.cell? ⟨b, o, none⟩ := fun b o e => by simp only [World.cell?, e]
  exact ⟨(k _ _ (hF.st.low _ h.sm)).trans h.m, (k _ _ (hF.st.low _ h.sa)).trans h.a, (k _ _ (hF.st.low _ h.sc)).trans h.c, (k _ _ (hF.own _ hM)).trans h.i, fun j hj => (k _ _ (hF.st.low _ h.sab)).trans (h.el j hj), h.glob, Nat.le_trans h.low hF.size, hF.st.live h.live, h.sm, h.sa, h.sc, h.sab, h.pl.keep hF.st.low hF.size, h.lo.1, Nat.lt_of_lt_of_le h.lo.2 hF.size⟩

theorem born_C (w : World) : stepG Try.prog false (born Try.prog (callC Wg aB cB mB Mb)) w =
    .go (G (bC.at ⟨#[.pointer (some ⟨Wg, 0, none⟩), .pointer (some ⟨mB, 0, none⟩), .pointer (some ⟨aB, 0, none⟩), .pointer (some ⟨Mb, 0, none⟩), .pointer (some ⟨cB, 0, none⟩), undef, undef, undef, undef, undef, undef, undef, undef, undef, undef, undef, undef, undef], []⟩ [.code bodyC]) [botC]) w #[] := by
  simp [born, callC, stepG, unwind, callDeferred, invoke, callFunc, Try.func65, Try.f65, seen, GStep.after, G, Frame.enter, Frame.at, bC, botC, bodyC]

noncomputable def opsC3 : Array Oper := match Try.f65.body.getD .skip with | .seq _ (.seq _ (.seq _ (.region _ ops _))) => ops | _ => #[]

/-- its own way out -/
theorem quits_C (T : Array Value) : QuitsD Try.prog 2 0 (G { bC.at ⟨T, []⟩ [] with mode := .returning } [botC]) := by
  refine QuitsD.ctl (g' := G botC []) rfl (fun w => ?_) ?_
  · simp [G, stepG, unwind, doReturn, results, Frame.at, bC, botC, Try.func65, Try.f65, seen, GStep.after, goexitEntry]
  refine QuitsD.ctl (g' := { G botC [] with status := .finished }) rfl (fun w => ?_) ⟨rfl, rfl⟩
  simp [G, stepG, unwind, botC, goexitEntry, Frame.catches]
  rfl

set_option maxRecDepth 100000 in
set_option maxHeartbeats 2000000 in
/-- behind the send -/
theorem after_C (T : Array Value) (w : World) (hC : CF LB Low Wg Ch aB cB mB Mb ab off cap m i zs w) :
    ∃ n, Goes Try.prog false (RW wgl.tWg Wg Mb 1 0 0) (DWs Wg No No Mb 1 1) (AtR0 Try.prog wgl.tWg Wg Mb 1 0 1 (.int .i64 i)) n (G (bC.at ⟨T, [dcall 66 #[.pointer (some ⟨Wg, 0, none⟩)]]⟩ [.inRegion opsC3 []]) [botC]) w := by
  have hF : WgLive wgl.tWg Wg w ∧ Has Mb (1 - 1) (.int .i64 i) w := ⟨hC.live, hC.i⟩
  refine ⟨23 + 3, ?_⟩
  u_c stepG_region_end kn_rely hF
  u_c stepG_end kn_rely hF
  g_unwB kn_rely hF Try.func66 (nm_done wgl) Try.f66
  have hA := @doneN _ wgl Try.prog wgLib No No Wg Mb 1 0 1 (.int .i64 i)
  simp only [body_done, doneFn, Option.getD_some] at hA
  exact hA rfl (quits_C _) _ hF

theorem size18 (T : Array Value) (h : T.size = 18) : ∃ v0 v1 v2 v3 v4 v5 v6 v7 v8 v9 v10 v11 v12 v13 v14 v15 v16 v17 : Value, T = #[v0, v1, v2, v3, v4, v5, v6, v7, v8, v9, v10, v11, v12, v13, v14, v15, v16, v17] := by
  obtain ⟨l⟩ := T
  simp only [List.size_toArray] at h
  match l, h with
  | [v0, v1, v2, v3, v4, v5, v6, v7, v8, v9, v10, v11, v12, v13, v14, v15, v16, v17], _ => exact ⟨v0, v1, v2, v3, v4, v5, v6, v7, v8, v9, v10, v11, v12, v13, v14, v15, v16, v17, rfl⟩

set_option maxRecDepth 100000 in
set_option maxHeartbeats 2000000 in
/-- at the send -/
theorem send_C (T : Array Value) (r : Int × Int) (w : World) (hT : T.size = 18) (h14 : T[14]? = some (.chan (some Ch))) (h17 : T[17]? = some (tv r)) (hM : own Mb) (hC : CF LB Low Wg Ch aB cB mB Mb ab off cap m i zs w) :
    AtSend Try.prog wgl.tWg Wg Ch (.tuple #[]) (tv r) own (G (bC.at ⟨T, [dcall 66 #[.pointer (some ⟨Wg, 0, none⟩)]]⟩ [.inRegion opsC3 [4]]) [botC]) w := by
  obtain ⟨n, hn⟩ := after_C T w hC
  obtain ⟨v0, v1, v2, v3, v4, v5, v6, v7, v8, v9, v10, v11, v12, v13, v14, v15, v16, v17, rfl⟩ := size18 T hT
  simp only [List.getElem?_toArray, List.getElem?_cons_succ, List.getElem?_cons_zero, Option.some.injEq] at h14 h17
  subst h14 h17
  refine ⟨rfl, G (bC.at ⟨#[v0, v1, v2, v3, v4, v5, v6, v7, v8, v9, v10, v11, v12, v13, .chan (some Ch), v15, v16, tv r], [dcall 66 #[.pointer (some ⟨Wg, 0, none⟩)]]⟩ [.inRegion opsC3 [4]]) [botC], ?_, Mb, .int .i64 i, n, hM, ?_⟩
  · simp only [opsC3, Try.f65, Option.getD_some]
    rw [stepG_comm (cases := #[scase Ch (tv r) (.tuple #[])]) (blocking := true) (shape := .send) (w' := w) rfl rfl (by decide) (by simp [execOp, scase, Act.eval])]
    simp [listed, execOp, seen]
  · have e : Goroutine.finishComm Try.prog (G (bC.at ⟨#[v0, v1, v2, v3, v4, v5, v6, v7, v8, v9, v10, v11, v12, v13, .chan (some Ch), v15, v16, tv r], [dcall 66 #[.pointer (some ⟨Wg, 0, none⟩)]]⟩ [.inRegion opsC3 [4]]) [botC]) #[scase Ch (tv r) (.tuple #[])] .send 0 undef false = G (bC.at ⟨#[v0, v1, v2, v3, v4, v5, v6, v7, v8, v9, v10, v11, v12, v13, .chan (some Ch), v15, v16, tv r], [dcall 66 #[.pointer (some ⟨Wg, 0, none⟩)]]⟩ [.inRegion opsC3 []]) [botC] := by
      simp only [opsC3, Try.f65, Option.getD_some]
      rfl
    rw [e]; exact hn

abbrev GsC (Low Wg Ch : Nat) (r : Int × Int) (own : Nat → Prop) (g : Goroutine) (w : World) : Prop :=
  ∃ t, GoesO Try.prog false (SB wgl.tWg Low Wg Ch) (DL (Sha Low Wg Ch)) (AtSend Try.prog wgl.tWg Wg Ch (.tuple #[]) (tv r)) t own g w

set_option maxRecDepth 100000 in
set_option maxHeartbeats 2000000 in
/-- the loads and the move of the last statement -/
theorem load0_C (T : Array Value) (r : Int × Int) (rest : List Nat) (w0 : World) (hT : T.size = 18) (h4 : T[4]? = some (.pointer (some ⟨cB, 0, none⟩))) (hM : own Mb) (hC : CF LB Low Wg Ch aB cB mB Mb ab off cap m i zs w0)
    (hk : ∀ w, Ry (SB wgl.tWg Low Wg Ch) own w0 w → GsC Low Wg Ch r own (G (bC.at ⟨T.setIfInBounds 14 (.chan (some Ch)), [dcall 66 #[.pointer (some ⟨Wg, 0, none⟩)]]⟩ [.inRegion opsC3 rest]) [botC]) w) :
    GsC Low Wg Ch r own (G (bC.at ⟨T, [dcall 66 #[.pointer (some ⟨Wg, 0, none⟩)]]⟩ [.inRegion opsC3 (0 :: rest)]) [botC]) w0 := by
  have hF := Ry.refl SB.tr (S := SB wgl.tWg Low Wg Ch) own w0
  obtain ⟨v0, v1, v2, v3, v4, v5, v6, v7, v8, v9, v10, v11, v12, v13, v14, v15, v16, v17, rfl⟩ := size18 T hT
  simp only [List.getElem?_toArray, List.getElem?_cons_succ, List.getElem?_cons_zero, Option.some.injEq] at h4
  subst h4
  simp only [opsC3, Try.f65, Option.getD_some] at hk ⊢
  refine GoesO.any rfl (fun w h₁ => ?_)
  replace hF := hF.trans SB.tr h₁
  clear h₁
  refine goes_oper_k rfl rfl (by decide) (fun K hK => ?_)
  have hz0 := (hC.ry hM hF).c
  go_simp
  refine hK _ _ ⟨?_, ?_⟩
  · refine dl_look fun e he => ?_
    have hm := mem_listed he
    simp [go_sem, *] at hm
    subst hm
    exact ⟨_, rfl, .inr hC.sc⟩
  rw [more_same rfl]
  clear hK K hz0
  exact hk _ hF

set_option maxRecDepth 100000 in
set_option maxHeartbeats 2000000 in
theorem load1_C (T : Array Value) (r : Int × Int) (rest : List Nat) (w0 : World) (hT : T.size = 18) (h2 : T[2]? = some (.pointer (some ⟨aB, 0, none⟩))) (hM : own Mb) (hC : CF LB Low Wg Ch aB cB mB Mb ab off cap m i zs w0)
    (hk : ∀ w, Ry (SB wgl.tWg Low Wg Ch) own w0 w → GsC Low Wg Ch r own (G (bC.at ⟨T.setIfInBounds 15 (.slice (some ⟨ab, off, none⟩) zs.length cap), [dcall 66 #[.pointer (some ⟨Wg, 0, none⟩)]]⟩ [.inRegion opsC3 rest]) [botC]) w) :
    GsC Low Wg Ch r own (G (bC.at ⟨T, [dcall 66 #[.pointer (some ⟨Wg, 0, none⟩)]]⟩ [.inRegion opsC3 (1 :: rest)]) [botC]) w0 := by
  have hF := Ry.refl SB.tr (S := SB wgl.tWg Low Wg Ch) own w0
  obtain ⟨v0, v1, v2, v3, v4, v5, v6, v7, v8, v9, v10, v11, v12, v13, v14, v15, v16, v17, rfl⟩ := size18 T hT
  simp only [List.getElem?_toArray, List.getElem?_cons_succ, List.getElem?_cons_zero, Option.some.injEq] at h2
  subst h2
  simp only [opsC3, Try.f65, Option.getD_some] at hk ⊢
  refine GoesO.any rfl (fun w h₁ => ?_)
  replace hF := hF.trans SB.tr h₁
  clear h₁
  refine goes_oper_k rfl rfl (by decide) (fun K hK => ?_)
  have hz0 := (hC.ry hM hF).a
  go_simp
  refine hK _ _ ⟨?_, ?_⟩
  · refine dl_look fun e he => ?_
    have hm := mem_listed he
    simp [go_sem, *] at hm
    subst hm
    exact ⟨_, rfl, .inr hC.sa⟩
  rw [more_same rfl]
  clear hK K hz0
  exact hk _ hF

set_option maxRecDepth 100000 in
set_option maxHeartbeats 2000000 in
theorem move2_C (T : Array Value) (r : Int × Int) (rest : List Nat) (w0 : World) (v : Value) (hT : T.size = 18) (h5 : T[5]? = some v)
    (hk : ∀ w, Ry (SB wgl.tWg Low Wg Ch) own w0 w → GsC Low Wg Ch r own (G (bC.at ⟨T.setIfInBounds 16 v, [dcall 66 #[.pointer (some ⟨Wg, 0, none⟩)]]⟩ [.inRegion opsC3 rest]) [botC]) w) :
    GsC Low Wg Ch r own (G (bC.at ⟨T, [dcall 66 #[.pointer (some ⟨Wg, 0, none⟩)]]⟩ [.inRegion opsC3 (2 :: rest)]) [botC]) w0 := by
  have hF := Ry.refl SB.tr (S := SB wgl.tWg Low Wg Ch) own w0
  obtain ⟨v0, v1, v2, v3, v4, v5, v6, v7, v8, v9, v10, v11, v12, v13, v14, v15, v16, v17, rfl⟩ := size18 T hT
  simp only [List.getElem?_toArray, List.getElem?_cons_succ, List.getElem?_cons_zero, Option.some.injEq] at h5
  subst h5
  simp only [opsC3, Try.f65, Option.getD_some] at hk ⊢
  refine GoesO.any rfl (fun w h₁ => ?_)
  replace hF := hF.trans SB.tr h₁
  clear h₁
  refine goes_oper_k rfl rfl (by decide) (fun K hK => ?_)
  go_simp
  refine hK _ _ ⟨?_, ?_⟩
  · refine dl_look fun e he => ?_
    have hm := mem_listed he
    simp [go_sem, *] at hm
  rw [more_same rfl]
  clear hK K 
  exact hk _ hF

theorem ownI_block {W : World} {B g : Nat} {ss : List Int} (h : W.heap[g]? = some (.cells (ss.map (Value.int .i64)).toArray 3 (0, 0))) (hb : B ≤ g) (hl : ss.length ≤ 1000) : OwnI W B (.slice (some ⟨g, 0, none⟩) ss.length ss.length) ss := by
  refine ⟨by simp, .inr ⟨g, ss.length, _, rfl, hb, h, Nat.le_refl _, by unfold maxLen; omega, by simp, ?_⟩⟩
  rw [Nat.mul_one, List.take_of_length_le (by simp)]
theorem tv_of {L : FuncId → Prop} {ρ : Rn} {r : Int × Int} {v : Value} (h : VR L ρ (tv r) v) : v = tv r := by
  cases h with
  | agg h1 h2 =>
    rename_i x'
    obtain ⟨l⟩ := x'
    simp only [List.size_toArray, List.length_cons, List.length_nil] at h1
    match l, h1 with
    | [a, b], _ =>
      have ea := h2 0 _ a rfl rfl
      have eb := h2 1 _ b rfl rfl
      cases ea; cases eb
      rfl

set_option maxRecDepth 100000 in
set_option maxHeartbeats 2000000 in
/-- the call -/
theorem call3_C (HC : Closed Try.prog (fun f => LB f = true) LB) (hLf : LB 67 = true) (T : Array Value) (rest : List Nat) (w0 : World) (S : Nat) (ss : List Int) (hT : T.size = 18) (h15 : T[15]? = some (.slice (some ⟨ab, off, none⟩) zs.length cap)) (h16 : T[16]? = some (.slice (some ⟨S, 0, none⟩) ss.length ss.length)) (hC : CF LB Low Wg Ch aB cB mB Mb ab off cap m i zs w0)
    (hW : Wg < Low) (hO : ∀ b, own b ↔ b = Mb ∨ b = S) (hS : Low ≤ S) (hSM : S ≠ Mb) (hSb : w0.heap[S]? = some (.cells (ss.map (Value.int .i64)).toArray 3 (0, 0)))
    (hg : good zs) (hl : 1 ≤ zs.length ∧ zs.length ≤ 10) (hss : 0 < ss.length ∧ ss.length ≤ 5) (hsb : ∀ x ∈ ss, 0 ≤ x ∧ x ≤ 60)
    (hk : ∀ own' w, own' Mb → CF LB Low Wg Ch aB cB mB Mb ab off cap m i zs w → GsC Low Wg Ch (tf (zs.drop 1) ss) own' (G (bC.at ⟨T.setIfInBounds 17 (tv (tf (zs.drop 1) ss)), [dcall 66 #[.pointer (some ⟨Wg, 0, none⟩)]]⟩ [.inRegion opsC3 rest]) [botC]) w) :
    GsC Low Wg Ch (tf (zs.drop 1) ss) own (G (bC.at ⟨T, [dcall 66 #[.pointer (some ⟨Wg, 0, none⟩)]]⟩ [.inRegion opsC3 (3 :: rest)]) [botC]) w0 := by
  have hF := Ry.refl SB.tr (S := SB wgl.tWg Low Wg Ch) own w0
  obtain ⟨v0, v1, v2, v3, v4, v5, v6, v7, v8, v9, v10, v11, v12, v13, v14, v15, v16, v17, rfl⟩ := size18 T hT
  simp only [List.getElem?_toArray, List.getElem?_cons_succ, List.getElem?_cons_zero, Option.some.injEq] at h15 h16
  subst h15 h16
  have hc : ∀ v, (bC.at ⟨#[v0, v1, v2, v3, v4, v5, v6, v7, v8, v9, v10, v11, v12, v13, v14, .slice (some ⟨ab, off, none⟩) zs.length cap, .slice (some ⟨S, 0, none⟩) ss.length ss.length, v17], [dcall 66 #[.pointer (some ⟨Wg, 0, none⟩)]]⟩ [.inRegion opsC3 (3 :: rest)]).finish v =
      bC.at ⟨#[v0, v1, v2, v3, v4, v5, v6, v7, v8, v9, v10, v11, v12, v13, v14, .slice (some ⟨ab, off, none⟩) zs.length cap, .slice (some ⟨S, 0, none⟩) ss.length ss.length, v], [dcall 66 #[.pointer (some ⟨Wg, 0, none⟩)]]⟩ [.inRegion opsC3 rest] := fun v => by
    rw [Frame.finish_at]
    simp only [opsC3, Try.f65, Option.getD_some]
    rfl
  refine GoesO.any rfl (fun w h₁ => ?_)
  replace hF := hF.trans SB.tr h₁
  clear h₁
  have hM : own Mb := (hO _).2 (.inl rfl)
  have hC1 := hC.ry hM hF
  have hSb1 := (hF.own S ((hO _).2 (.inr rfl))).trans hSb
  have hSlt : S < w.heap.size := (Array.getElem?_eq_some_iff.1 hSb1).1
  rw [show stepG Try.prog false (G (bC.at ⟨#[v0, v1, v2, v3, v4, v5, v6, v7, v8, v9, v10, v11, v12, v13, v14, .slice (some ⟨ab, off, none⟩) zs.length cap, .slice (some ⟨S, 0, none⟩) ss.length ss.length, v17], [dcall 66 #[.pointer (some ⟨Wg, 0, none⟩)]]⟩ [.inRegion opsC3 (3 :: rest)]) [botC]) w = .go (G (Frame.enter Try.prog 67 #[.slice (some ⟨ab, off, none⟩) zs.length cap, .int .i64 1, .slice (some ⟨S, 0, none⟩) ss.length ss.length] .normal) [bC.at ⟨#[v0, v1, v2, v3, v4, v5, v6, v7, v8, v9, v10, v11, v12, v13, v14, .slice (some ⟨ab, off, none⟩) zs.length cap, .slice (some ⟨S, 0, none⟩) ss.length ss.length, v17], [dcall 66 #[.pointer (some ⟨Wg, 0, none⟩)]]⟩ [.inRegion opsC3 (3 :: rest)], botC]) w #[] by
    simp only [opsC3, Try.f65, Option.getD_some]
    rw [stepG_enter rfl rfl (by decide) (run_call_body (f := 67) rfl Try.func67 rfl rfl)]
    have hl : ∀ (a : Act) (o : Oper) (xs : Array Operand) (ats : Array TypeId), o.op = .call { callee := .value (.func 67), args := xs, argTypes := ats } → listed Try.prog bC.fn a o w = #[] := fun a o xs ats ho => by unfold listed; rw [events_call_body ho Try.func67 rfl rfl]; exact seen_none Try.prog _
    rw [hl _ _ _ _ rfl]
    walk_nrm]
  simp only [goes_go]
  refine ⟨DL.refl _ _ _, ?_⟩
  rw [more_same rfl]
  have hsab := hC.sab
  have habS : ab ≠ S := by have := hsab.1; omega
  obtain ⟨ρ, A, a0, hSim, hab, hran, hA⟩ := hC1.pl
  have hnoS : ¬ ran ρ S := fun h => by have := (hran S h).1; omega
  have ha0 : a0 < A.heap.size := (hSim.wr.size hab).1
  have hW1 := hSim.wr.own hSb1 hnoS ⟨hSim.gA, by have := hC1.glob; omega⟩ (fun i v hv => by
    simp only [List.getElem?_toArray, List.getElem?_map, Option.map_eq_some_iff] at hv
    obtain ⟨x, _, rfl⟩ := hv
    exact ⟨_, _, rfl⟩)
  have hranS : ∀ b, ran (ρ.ext A.heap.size S) b ↔ ran ρ b ∨ b = S := fun b =>
    ⟨fun ⟨a, h⟩ => h.elim (fun h => .inl ⟨a, h⟩) fun h => .inr h.2, fun h => h.elim (fun ⟨a, h⟩ => ⟨a, .inl h⟩) fun h => ⟨A.heap.size, .inr ⟨rfl, h⟩⟩⟩
  refine call_inJ (m := false) (S := SB wgl.tWg Low Wg Ch) (Stop := AtSend Try.prog wgl.tWg Wg Ch (.tuple #[]) (tv (tf (zs.drop 1) ss))) (own := own) (f := 67) (args := #[.slice (some ⟨ab, off, none⟩) zs.length cap, .int .i64 1, .slice (some ⟨S, 0, none⟩) ss.length ss.length]) (L := fun f => LB f = true) (LB := LB) (RO := Sha Low Wg Ch) (ρ0 := ρ.ext A.heap.size S) (A0 := A.alloc (.cells (ss.map (Value.int .i64)).toArray 3)) (args0 := #[.slice (some ⟨a0, off, none⟩) zs.length cap, .int .i64 1, .slice (some ⟨A.heap.size, 0, none⟩) ss.length ss.length]) (E1 := fun b => b = Mb) (E2 := Sha Low Wg Ch) (J := WgLive wgl.tWg Wg) (bJ := Wg) (w := w)
    (Post := fun v _ => v = tv (tf (zs.drop 1) ss)) (fun _ _ h => h.live) (fun w w' h ⟨x, y, hl⟩ => ⟨x, y, hl.of_block h⟩) hC1.live (fun h => by have := hC.lo.1; rcases (hO _).1 h with h | h <;> omega) (by have := hC1.low; omega) HC SB.tr (fun _ _ h => h.low) (fun b hb _ _ h => h.low b hb)
    hLf hW1 (fun b hb => by have := hb.1; have := hC1.low; omega) ⟨by have := hSim.gA; rw [World.size_alloc]; omega, hSim.gB⟩ ⟨rfl, ?_⟩ ?_ _ _ ?_ ?_ ?_
  · intro k x y hx hy
    match k, hx, hy with
    | 0, hx, hy => cases hx; cases hy; exact .slice _ _ ⟨.inl hab, rfl, rfl⟩
    | 1, hx, hy => cases hx; cases hy; exact .int _ _
    | 2, hx, hy => cases hx; cases hy; exact .slice _ _ ⟨.inr ⟨rfl, rfl⟩, rfl, rfl⟩
  · intro t
    have hfS : (frz (pre (ρ.ext A.heap.size S) (Sha Low Wg Ch)) (A.alloc (.cells (ss.map (Value.int .i64)).toArray 3))).heap[A.heap.size]? = some (.cells (ss.map (Value.int .i64)).toArray 3 (0, 0)) := by
      rw [frz_get, heap_alloc_new]
      have : ¬ pre (ρ.ext A.heap.size S) (Sha Low Wg Ch) A.heap.size := by
        rintro ⟨b, hb | ⟨_, rfl⟩, hs⟩
        · have := (hSim.wr.size hb).1; omega
        · have := hs.1; omega
      simp [this]
    refine (tallyFrom_any (some ⟨a0, off, none⟩) cap zs A.heap.size ss.length A.heap.size (fun b o e => by cases e; omega) hg hl.2 (zs.length - 1) 1 1 ss (re (frz (pre (ρ.ext A.heap.size S) (Sha Low Wg Ch)) (A.alloc (.cells (ss.map (Value.int .i64)).toArray 3))) t) rfl (by omega) hss.1 hss.2 (fun x hx => by have := hsb x hx; omega) (.inr ⟨a0, off, rfl, ?_, fun j hj => ?_⟩) (ownI_block hfS (Nat.le_refl _) (by omega))).mono fun e w' h => ⟨_, h.1, rfl⟩
    · show a0 < (frz _ _).heap.size
      rw [frz_size, World.size_alloc]
      omega
    · show (frz _ _).cell? _ = _
      rw [frz_cell]
      have : (A.alloc (.cells (ss.map (Value.int .i64)).toArray 3)).heap[a0]? = A.heap[a0]? := Below.heap_alloc _ _ _ ha0
      rw [← hA j hj]
      simp only [World.cell?, this]
  · intro b
    rw [hO, hranS]
    constructor
    · rintro (rfl | rfl)
      · exact .inr rfl
      · exact .inl ⟨.inr rfl, fun h => by have := h.1; omega⟩
    · rintro (⟨h0 | rfl, h⟩ | rfl)
      · exact absurd (hran _ h0) h
      · exact .inr rfl
      · exact .inl rfl
  · rintro b (rfl | hb)
    · refine ⟨?_, hC1.lo.2⟩
      rintro ⟨h0, h⟩
      rcases (hranS _).1 h0 with h0 | h0
      · exact h (hran _ h0)
      · exact hSM h0.symm
    · exact ⟨fun h => h.2 hb, by have := hb.1; have := hC1.low; omega⟩
  · intro own1 v' w1 hgot hJ1 _ hsz hkeep hlt1
    obtain ⟨v, wA, ρ', rfl, hv, _⟩ := hgot.got
    have hv' := tv_of hv
    subst hv'
    rw [hc]
    refine hk _ w1 (.inr rfl) ?_
    have kk : ∀ b o, (b = Mb ∨ Sha Low Wg Ch b) → w1.cell? ⟨b, o, none⟩ = w.cell? ⟨b, o, none⟩ := fun b o hb => by simp only [World.cell?, (hkeep b hb).2]
    exact ⟨(kk _ _ (.inr hC.sm)).trans hC1.m, (kk _ _ (.inr hC.sa)).trans hC1.a, (kk _ _ (.inr hC.sc)).trans hC1.c, (kk _ _ (.inl rfl)).trans hC1.i, fun j hj => (kk _ _ (.inr hC.sab)).trans (hC1.el j hj), hC.glob, Nat.le_trans hC1.low hsz, hJ1, hC.sm, hC.sa, hC.sc, hC.sab, hC1.pl.keep (fun b hb => (hkeep b (.inr hb)).2) hsz, hC.lo.1, Nat.lt_of_lt_of_le hC1.lo.2 hsz⟩

noncomputable def opsC2 : Array Oper := match Try.f65.body.getD .skip with | .seq _ (.seq _ (.seq (.region _ ops _) _)) => ops | _ => #[]
/-- looks and writes of its own -/
theorem dl_set {RO own : Nat → Prop} {w : World} {es : Array Event} {a : Addr} {v : Value} (ha : own a.block) (h : ∀ e ∈ es, ∃ p wr, e = ⟨.cell p, wr, false⟩ ∧ (own p.block ∨ (RO p.block ∧ wr = false))) : DL RO own w (w.setCell a v) es :=
  ⟨by simp [World.setCell], fun b _ hb => Below.heap_setCell w a v b (fun e => hb (e ▸ ha)), rfl, rfl, rfl, fun e he => by
    obtain ⟨p, wr, rfl, h⟩ := h e he
    exact .inl ⟨p, wr, rfl, h.imp .inl id⟩⟩
theorem dl_new {RO own : Nat → Prop} {w : World} {es : Array Event} {o : Obj} (h : ∀ e ∈ es, ∃ p wr, e = ⟨.cell p, wr, false⟩ ∧ (own p.block ∨ (RO p.block ∧ wr = false))) : DL RO own w (w.alloc o) es :=
  ⟨by simp, fun b hb _ => Below.heap_alloc _ _ _ hb, rfl, rfl, rfl, fun e he => by
    obtain ⟨p, wr, rfl, h⟩ := h e he
    exact .inl ⟨p, wr, rfl, h.imp .inl id⟩⟩

set_option maxRecDepth 100000 in
set_option maxHeartbeats 2000000 in
theorem p0_C (T : Array Value) (r : Int × Int) (v : Value) (rest : List Nat) (kk : List Item) (w0 : World) (hT : T.size = 18) (h : T[5]? = some v) 
    (hk : ∀ w, Ry (SB wgl.tWg Low Wg Ch) own w0 w → GsC Low Wg Ch r own (G (bC.at ⟨T.setIfInBounds 8 v, [dcall 66 #[.pointer (some ⟨Wg, 0, none⟩)]]⟩ (.inRegion opsC2 rest :: kk)) [botC]) w) :
    GsC Low Wg Ch r own (G (bC.at ⟨T, [dcall 66 #[.pointer (some ⟨Wg, 0, none⟩)]]⟩ (.inRegion opsC2 (0 :: rest) :: kk)) [botC]) w0 := by
  have hF := Ry.refl SB.tr (S := SB wgl.tWg Low Wg Ch) own w0
  obtain ⟨v0, v1, v2, v3, v4, v5, v6, v7, v8, v9, v10, v11, v12, v13, v14, v15, v16, v17, rfl⟩ := size18 T hT
  simp only [List.getElem?_toArray, List.getElem?_cons_succ, List.getElem?_cons_zero, Option.some.injEq] at h
  subst h
  simp only [opsC2, Try.f65, Option.getD_some] at hk ⊢
  refine GoesO.any rfl (fun w h₁ => ?_)
  replace hF := hF.trans SB.tr h₁
  clear h₁
  refine goes_oper_k rfl rfl (by decide) (fun K hK => ?_)
  go_simp
  refine hK _ _ ⟨?_, ?_⟩
  · refine dl_look fun e he => ?_
    have hm := mem_listed he
    simp [go_sem, *] at hm
  rw [more_same rfl]
  clear hK K 
  exact hk _ hF

set_option maxRecDepth 100000 in
set_option maxHeartbeats 2000000 in
theorem p1_C (T : Array Value) (r : Int × Int) (rest : List Nat) (kk : List Item) (w0 : World) (hT : T.size = 18) (h : T[3]? = some (.pointer (some ⟨Mb, 0, none⟩))) (hM : own Mb) (hC : CF LB Low Wg Ch aB cB mB Mb ab off cap m i zs w0) 
    (hk : ∀ w, Ry (SB wgl.tWg Low Wg Ch) own w0 w → GsC Low Wg Ch r own (G (bC.at ⟨T.setIfInBounds 9 (.int .i64 i), [dcall 66 #[.pointer (some ⟨Wg, 0, none⟩)]]⟩ (.inRegion opsC2 rest :: kk)) [botC]) w) :
    GsC Low Wg Ch r own (G (bC.at ⟨T, [dcall 66 #[.pointer (some ⟨Wg, 0, none⟩)]]⟩ (.inRegion opsC2 (1 :: rest) :: kk)) [botC]) w0 := by
  have hF := Ry.refl SB.tr (S := SB wgl.tWg Low Wg Ch) own w0
  obtain ⟨v0, v1, v2, v3, v4, v5, v6, v7, v8, v9, v10, v11, v12, v13, v14, v15, v16, v17, rfl⟩ := size18 T hT
  simp only [List.getElem?_toArray, List.getElem?_cons_succ, List.getElem?_cons_zero, Option.some.injEq] at h
  subst h
  simp only [opsC2, Try.f65, Option.getD_some] at hk ⊢
  refine GoesO.any rfl (fun w h₁ => ?_)
  replace hF := hF.trans SB.tr h₁
  clear h₁
  refine goes_oper_k rfl rfl (by decide) (fun K hK => ?_)
  have hz0 := (hC.ry hM hF).i
  go_simp
  refine hK _ _ ⟨?_, ?_⟩
  · refine dl_look fun e he => ?_
    have hm := mem_listed he
    simp [go_sem, *] at hm
    subst hm
    exact ⟨_, rfl, .inl hM⟩
  rw [more_same rfl]
  clear hK K hz0
  exact hk _ hF

set_option maxRecDepth 100000 in
set_option maxHeartbeats 2000000 in
theorem p2_C (T : Array Value) (r : Int × Int) (rest : List Nat) (kk : List Item) (w0 : World) (hT : T.size = 18) (h : T[2]? = some (.pointer (some ⟨aB, 0, none⟩))) (hM : own Mb) (hC : CF LB Low Wg Ch aB cB mB Mb ab off cap m i zs w0) 
    (hk : ∀ w, Ry (SB wgl.tWg Low Wg Ch) own w0 w → GsC Low Wg Ch r own (G (bC.at ⟨T.setIfInBounds 10 (.slice (some ⟨ab, off, none⟩) zs.length cap), [dcall 66 #[.pointer (some ⟨Wg, 0, none⟩)]]⟩ (.inRegion opsC2 rest :: kk)) [botC]) w) :
    GsC Low Wg Ch r own (G (bC.at ⟨T, [dcall 66 #[.pointer (some ⟨Wg, 0, none⟩)]]⟩ (.inRegion opsC2 (2 :: rest) :: kk)) [botC]) w0 := by
  have hF := Ry.refl SB.tr (S := SB wgl.tWg Low Wg Ch) own w0
  obtain ⟨v0, v1, v2, v3, v4, v5, v6, v7, v8, v9, v10, v11, v12, v13, v14, v15, v16, v17, rfl⟩ := size18 T hT
  simp only [List.getElem?_toArray, List.getElem?_cons_succ, List.getElem?_cons_zero, Option.some.injEq] at h
  subst h
  simp only [opsC2, Try.f65, Option.getD_some] at hk ⊢
  refine GoesO.any rfl (fun w h₁ => ?_)
  replace hF := hF.trans SB.tr h₁
  clear h₁
  refine goes_oper_k rfl rfl (by decide) (fun K hK => ?_)
  have hz0 := (hC.ry hM hF).a
  go_simp
  refine hK _ _ ⟨?_, ?_⟩
  · refine dl_look fun e he => ?_
    have hm := mem_listed he
    simp [go_sem, *] at hm
    subst hm
    exact ⟨_, rfl, .inr hC.sa⟩
  rw [more_same rfl]
  clear hK K hz0
  exact hk _ hF

set_option maxRecDepth 100000 in
set_option maxHeartbeats 2000000 in
theorem p3_C (T : Array Value) (r : Int × Int) (rest : List Nat) (kk : List Item) (w0 : World) (hT : T.size = 18) (hl : 0 < zs.length) (h : T[10]? = some (.slice (some ⟨ab, off, none⟩) zs.length cap)) 
    (hk : ∀ w, Ry (SB wgl.tWg Low Wg Ch) own w0 w → GsC Low Wg Ch r own (G (bC.at ⟨T.setIfInBounds 11 (.pointer (some ⟨ab, off, none⟩)), [dcall 66 #[.pointer (some ⟨Wg, 0, none⟩)]]⟩ (.inRegion opsC2 rest :: kk)) [botC]) w) :
    GsC Low Wg Ch r own (G (bC.at ⟨T, [dcall 66 #[.pointer (some ⟨Wg, 0, none⟩)]]⟩ (.inRegion opsC2 (3 :: rest) :: kk)) [botC]) w0 := by
  have hF := Ry.refl SB.tr (S := SB wgl.tWg Low Wg Ch) own w0
  obtain ⟨v0, v1, v2, v3, v4, v5, v6, v7, v8, v9, v10, v11, v12, v13, v14, v15, v16, v17, rfl⟩ := size18 T hT
  simp only [List.getElem?_toArray, List.getElem?_cons_succ, List.getElem?_cons_zero, Option.some.injEq] at h
  subst h
  simp only [opsC2, Try.f65, Option.getD_some] at hk ⊢
  have hl0 : (0 : Nat) < zs.length := hl
  refine GoesO.any rfl (fun w h₁ => ?_)
  replace hF := hF.trans SB.tr h₁
  clear h₁
  refine goes_oper_k rfl rfl (by decide) (fun K hK => ?_)
  go_simp
  refine hK _ _ ⟨?_, ?_⟩
  · refine dl_look fun e he => ?_
    have hm := mem_listed he
    simp [go_sem, *] at hm
  rw [more_same rfl]
  clear hK K 
  exact hk _ hF

set_option maxRecDepth 100000 in
set_option maxHeartbeats 2000000 in
theorem p4_C (T : Array Value) (r : Int × Int) (rest : List Nat) (kk : List Item) (w0 : World) (x : Int) (hx : zs[0]?.getD 0 = x) (hT : T.size = 18) (hl : 0 < zs.length) (h : T[11]? = some (.pointer (some ⟨ab, off, none⟩))) (hM : own Mb) (hC : CF LB Low Wg Ch aB cB mB Mb ab off cap m i zs w0) 
    (hk : ∀ w, Ry (SB wgl.tWg Low Wg Ch) own w0 w → GsC Low Wg Ch r own (G (bC.at ⟨T.setIfInBounds 12 (.int .i64 x), [dcall 66 #[.pointer (some ⟨Wg, 0, none⟩)]]⟩ (.inRegion opsC2 rest :: kk)) [botC]) w) :
    GsC Low Wg Ch r own (G (bC.at ⟨T, [dcall 66 #[.pointer (some ⟨Wg, 0, none⟩)]]⟩ (.inRegion opsC2 (4 :: rest) :: kk)) [botC]) w0 := by
  have hF := Ry.refl SB.tr (S := SB wgl.tWg Low Wg Ch) own w0
  obtain ⟨v0, v1, v2, v3, v4, v5, v6, v7, v8, v9, v10, v11, v12, v13, v14, v15, v16, v17, rfl⟩ := size18 T hT
  simp only [List.getElem?_toArray, List.getElem?_cons_succ, List.getElem?_cons_zero, Option.some.injEq] at h
  subst h
  simp only [opsC2, Try.f65, Option.getD_some] at hk ⊢
  refine GoesO.any rfl (fun w h₁ => ?_)
  replace hF := hF.trans SB.tr h₁
  clear h₁
  refine goes_oper_k rfl rfl (by decide) (fun K hK => ?_)
  have hz0 := (show w.cell? ⟨ab, off, none⟩ = some (.int .i64 x) from hx ▸ (hC.ry hM hF).el 0 hl)
  go_simp
  refine hK _ _ ⟨?_, ?_⟩
  · refine dl_look fun e he => ?_
    have hm := mem_listed he
    simp [go_sem, *] at hm
    subst hm
    exact ⟨_, rfl, .inr hC.sab⟩
  rw [more_same rfl]
  clear hK K hz0
  exact hk _ hF

set_option maxRecDepth 100000 in
set_option maxHeartbeats 2000000 in
theorem p5_C (T : Array Value) (r : Int × Int) (rest : List Nat) (kk : List Item) (w0 : World) (S : Nat) (him : i < m) (hT : T.size = 18) (h : T[8]? = some (.slice (some ⟨S, 0, none⟩) m m)) (h' : T[9]? = some (.int .i64 i)) 
    (hk : ∀ w, Ry (SB wgl.tWg Low Wg Ch) own w0 w → GsC Low Wg Ch r own (G (bC.at ⟨T.setIfInBounds 13 (.pointer (some ⟨S, i, none⟩)), [dcall 66 #[.pointer (some ⟨Wg, 0, none⟩)]]⟩ (.inRegion opsC2 rest :: kk)) [botC]) w) :
    GsC Low Wg Ch r own (G (bC.at ⟨T, [dcall 66 #[.pointer (some ⟨Wg, 0, none⟩)]]⟩ (.inRegion opsC2 (5 :: rest) :: kk)) [botC]) w0 := by
  have hF := Ry.refl SB.tr (S := SB wgl.tWg Low Wg Ch) own w0
  obtain ⟨v0, v1, v2, v3, v4, v5, v6, v7, v8, v9, v10, v11, v12, v13, v14, v15, v16, v17, rfl⟩ := size18 T hT
  simp only [List.getElem?_toArray, List.getElem?_cons_succ, List.getElem?_cons_zero, Option.some.injEq] at h h'
  subst h h'
  simp only [opsC2, Try.f65, Option.getD_some] at hk ⊢
  have hi0 : (i : Int) < (m : Int) := by omega
  refine GoesO.any rfl (fun w h₁ => ?_)
  replace hF := hF.trans SB.tr h₁
  clear h₁
  refine goes_oper_k rfl rfl (by decide) (fun K hK => ?_)
  go_simp
  refine hK _ _ ⟨?_, ?_⟩
  · refine dl_look fun e he => ?_
    have hm := mem_listed he
    simp [go_sem, *] at hm
  rw [more_same rfl]
  clear hK K 
  exact hk _ hF

theorem heap_setRow1 {w : World} {S : Nat} {ss : List Int} (h : w.heap[S]? = some (.cells (ss.map (Value.int .i64)).toArray 3 (0, 0))) (j : Nat) (x : Int) :
    (w.setCell ⟨S, j, none⟩ (.int .i64 x)).heap[S]? = some (.cells ((ss.set j x).map (Value.int .i64)).toArray 3 (0, 0)) := by
  obtain ⟨hlt, hk⟩ := Array.getElem?_eq_some_iff.1 h
  show (w.heap.modify S _)[S]? = _
  rw [Array.getElem?_eq_getElem (by rw [Array.size_modify]; exact hlt), Array.getElem_modify_self, hk]
  simp [List.map_set]

theorem CF.set (hC : CF LB Low Wg Ch aB cB mB Mb ab off cap m i zs w) {S : Nat} (hS : Low ≤ S) (hSM : S ≠ Mb) (hWg : Wg < Low) (j : Nat) (v : Value) : CF LB Low Wg Ch aB cB mB Mb ab off cap m i zs (w.setCell ⟨S, j, none⟩ v) := by
  have k : ∀ b, b ≠ S → (w.setCell ⟨S, j, none⟩ v).heap[b]? = w.heap[b]? := fun b hb => Below.heap_setCell w _ v b (fun e => hb e)
  have kc : ∀ b o, b ≠ S → (w.setCell ⟨S, j, none⟩ v).cell? ⟨b, o, none⟩ = w.cell? ⟨b, o, none⟩ := fun b o hb => by simp only [World.cell?, k b hb]
  have lt : ∀ b, Sha Low Wg Ch b → b ≠ S := fun b hb => by have := hb.1; omega
  obtain ⟨x, y, hl⟩ := hC.live
  exact ⟨(kc _ _ (lt _ hC.sm)).trans hC.m, (kc _ _ (lt _ hC.sa)).trans hC.a, (kc _ _ (lt _ hC.sc)).trans hC.c, (kc _ _ (Ne.symm hSM)).trans hC.i, fun j hj => (kc _ _ (lt _ hC.sab)).trans (hC.el j hj), hC.glob, by simpa [World.setCell] using hC.low, ⟨x, y, hl.of_block (k Wg (by omega))⟩, hC.sm, hC.sa, hC.sc, hC.sab, hC.pl.keep (fun b hb => k b (lt b hb)) (by simp [World.setCell]), hC.lo.1, by simpa [World.setCell] using hC.lo.2⟩
theorem CF.new (hC : CF LB Low Wg Ch aB cB mB Mb ab off cap m i zs w) (hWg : Wg < Low) (o : Obj) : CF LB Low Wg Ch aB cB mB Mb ab off cap m i zs (w.alloc o) := by
  have k : ∀ b, b < w.heap.size → (w.alloc o).heap[b]? = w.heap[b]? := fun b hb => Below.heap_alloc _ _ _ hb
  have kc : ∀ b q, b < w.heap.size → (w.alloc o).cell? ⟨b, q, none⟩ = w.cell? ⟨b, q, none⟩ := fun b q hb => by simp only [World.cell?, k b hb]
  have lt : ∀ b, Sha Low Wg Ch b → b < w.heap.size := fun b hb => by have := hb.1; have := hC.low; omega
  obtain ⟨x, y, hl⟩ := hC.live
  exact ⟨(kc _ _ (lt _ hC.sm)).trans hC.m, (kc _ _ (lt _ hC.sa)).trans hC.a, (kc _ _ (lt _ hC.sc)).trans hC.c, (kc _ _ hC.lo.2).trans hC.i, fun j hj => (kc _ _ (lt _ hC.sab)).trans (hC.el j hj), hC.glob, by have := hC.low; simp; omega, ⟨x, y, hl.of_block (k Wg (by have := hC.low; omega))⟩, hC.sm, hC.sa, hC.sc, hC.sab, hC.pl.keep (fun b hb => k b (lt b hb)) (by simp), hC.lo.1, by have := hC.lo.2; simp; omega⟩

set_option maxRecDepth 100000 in
set_option maxHeartbeats 2000000 in
theorem p6_C (T : Array Value) (r : Int × Int) (rest : List Nat) (kk : List Item) (w0 : World) (S : Nat) (ss : List Int) (x : Int) (hT : T.size = 18) (h : T[13]? = some (.pointer (some ⟨S, i, none⟩))) (h' : T[12]? = some (.int .i64 x)) (him : i < ss.length) (hM : own Mb) (hSo : own S) (hSb : w0.heap[S]? = some (.cells (ss.map (Value.int .i64)).toArray 3 (0, 0)))
    (hS : Low ≤ S) (hSM : S ≠ Mb) (hWg : Wg < Low) (hC : CF LB Low Wg Ch aB cB mB Mb ab off cap m i zs w0)
    (hk : ∀ w, CF LB Low Wg Ch aB cB mB Mb ab off cap m i zs w → w.heap[S]? = some (.cells ((ss.set i x).map (Value.int .i64)).toArray 3 (0, 0)) → GsC Low Wg Ch r own (G (bC.at ⟨T, [dcall 66 #[.pointer (some ⟨Wg, 0, none⟩)]]⟩ (.inRegion opsC2 rest :: kk)) [botC]) w) :
    GsC Low Wg Ch r own (G (bC.at ⟨T, [dcall 66 #[.pointer (some ⟨Wg, 0, none⟩)]]⟩ (.inRegion opsC2 (6 :: rest) :: kk)) [botC]) w0 := by
  have hF := Ry.refl SB.tr (S := SB wgl.tWg Low Wg Ch) own w0
  obtain ⟨v0, v1, v2, v3, v4, v5, v6, v7, v8, v9, v10, v11, v12, v13, v14, v15, v16, v17, rfl⟩ := size18 T hT
  simp only [List.getElem?_toArray, List.getElem?_cons_succ, List.getElem?_cons_zero, Option.some.injEq] at h h'
  subst h h'
  simp only [opsC2, Try.f65, Option.getD_some] at hk ⊢
  refine GoesO.any rfl (fun w h₁ => ?_)
  replace hF := hF.trans SB.tr h₁
  clear h₁
  refine goes_oper_k rfl rfl (by decide) (fun K hK => ?_)
  have hC1 := hC.ry hM hF
  have hb1 := (hF.own S hSo).trans hSb
  have hzc : ∃ u, w.cell? ⟨S, i, none⟩ = some u := ⟨.int .i64 ss[i], by simp only [World.cell?, hb1]; simp [List.getElem?_eq_getElem him]⟩
  obtain ⟨u, hu⟩ := hzc
  have hzf : w.frozen? ⟨S, i, none⟩ = false := by simp [World.frozen?, hb1]
  have hk1 := hk _ (hC1.set hS hSM hWg i (.int .i64 x)) (heap_setRow1 hb1 i x)
  clear hk hb1 hC1
  go_simp
  refine hK _ _ ⟨?_, ?_⟩
  · refine dl_set hSo fun e he => ?_
    have hm := mem_listed he
    simp [go_sem, *] at hm
    subst hm
    exact ⟨_, _, rfl, .inl hSo⟩
  rw [more_same (by simp [World.setCell])]
  clear hK K hu hzf
  exact hk1

theorem ry_drew {w : World} (h : Ry (SB wgl.tWg Low Wg Ch) own w0 w) : Ry (SB wgl.tWg Low Wg Ch) own w0 { w with drawn := w.drawn + 1 } := h.trans SB.tr (ry_at' own w (w.drawn + 1))

noncomputable def regC3 : Code := match Try.f65.body.getD .skip with | .seq _ (.seq _ (.seq _ c)) => c | _ => .skip
theorem regC3_eq : regC3 = .region 3 opsC3 true := rfl
theorem mixC : Try.prog.follows .mixedOrders = true := by kernel_rfl
theorem ordC3 : allS .any opsC3 opsC3.size (Array.replicate opsC3.size false) = [[0, 1, 2, 3, 4], [0, 2, 1, 3, 4], [1, 0, 2, 3, 4], [1, 2, 0, 3, 4], [1, 2, 3, 0, 4], [2, 0, 1, 3, 4], [2, 1, 0, 3, 4], [2, 1, 3, 0, 4]] := by kernel_rfl

set_option maxRecDepth 100000 in
set_option maxHeartbeats 4000000 in
/-- the last statement -/
theorem r3_C (HC : Closed Try.prog (fun f => LB f = true) LB) (hLf : LB 67 = true) (T : Array Value) (w0 : World) (S : Nat) (ss : List Int) (hT : T.size = 18) (h2 : T[2]? = some (.pointer (some ⟨aB, 0, none⟩))) (h4 : T[4]? = some (.pointer (some ⟨cB, 0, none⟩))) (h5 : T[5]? = some (.slice (some ⟨S, 0, none⟩) ss.length ss.length)) (hC : CF LB Low Wg Ch aB cB mB Mb ab off cap m i zs w0)
    (hW : Wg < Low) (hO : ∀ b, own b ↔ b = Mb ∨ b = S) (hS : Low ≤ S) (hSM : S ≠ Mb) (hSb : w0.heap[S]? = some (.cells (ss.map (Value.int .i64)).toArray 3 (0, 0)))
    (hg : good zs) (hl : 1 ≤ zs.length ∧ zs.length ≤ 10) (hss : 0 < ss.length ∧ ss.length ≤ 5) (hsb : ∀ x ∈ ss, 0 ≤ x ∧ x ≤ 60) :
    GsC Low Wg Ch (tf (zs.drop 1) ss) own (G (bC.at ⟨T, [dcall 66 #[.pointer (some ⟨Wg, 0, none⟩)]]⟩ [.code regC3]) [botC]) w0 := by
  have hM : own Mb := (hO _).2 (.inl rfl)
  have hSo : own S := (hO _).2 (.inr rfl)
  obtain ⟨v0, v1, v2, v3, v4, v5, v6, v7, v8, v9, v10, v11, v12, v13, v14, v15, v16, v17, rfl⟩ := size18 T hT
  simp only [List.getElem?_toArray, List.getElem?_cons_succ, List.getElem?_cons_zero, Option.some.injEq] at h2 h4 h5
  subst h2 h4 h5
  clear hT
  rw [regC3_eq]
  refine W_draw (F := fun w => Ry (SB wgl.tWg Low Wg Ch) own w0 w) mixC ordC3 (fun _ _ h h' => h.trans SB.tr h') (fun _ h => ry_drew h) (.refl SB.tr own w0) fun s hs w hF => ?_
  replace hC := hC.ry hM hF
  replace hSb := (hF.own S hSo).trans hSb
  clear hF
  simp only [List.mem_cons, List.not_mem_nil, or_false] at hs
  rcases hs with rfl | rfl | rfl | rfl | rfl | rfl | rfl | rfl
  · refine load0_C _ _ _ _ (by rfl) (by rfl) hM hC fun w1 hF1 => ?_; replace hC := hC.ry hM hF1; replace hSb := (hF1.own S hSo).trans hSb; clear hF1
    refine load1_C _ _ _ _ (by rfl) (by rfl) hM hC fun w1 hF1 => ?_; replace hC := hC.ry hM hF1; replace hSb := (hF1.own S hSo).trans hSb; clear hF1
    refine move2_C _ _ _ _ _ (by rfl) (by rfl) fun w1 hF1 => ?_; replace hC := hC.ry hM hF1; replace hSb := (hF1.own S hSo).trans hSb; clear hF1
    refine call3_C HC hLf _ _ _ S ss (by rfl) (by rfl) (by rfl) hC hW hO hS hSM hSb hg hl hss hsb fun own' w1 hM hC => ?_
    exact ⟨.leaf, GoesO.stop fun w1 hr => send_C _ _ _ (by rfl) (by rfl) (by rfl) hM (hC.ry hM hr)⟩
  · refine load0_C _ _ _ _ (by rfl) (by rfl) hM hC fun w1 hF1 => ?_; replace hC := hC.ry hM hF1; replace hSb := (hF1.own S hSo).trans hSb; clear hF1
    refine move2_C _ _ _ _ _ (by rfl) (by rfl) fun w1 hF1 => ?_; replace hC := hC.ry hM hF1; replace hSb := (hF1.own S hSo).trans hSb; clear hF1
    refine load1_C _ _ _ _ (by rfl) (by rfl) hM hC fun w1 hF1 => ?_; replace hC := hC.ry hM hF1; replace hSb := (hF1.own S hSo).trans hSb; clear hF1
    refine call3_C HC hLf _ _ _ S ss (by rfl) (by rfl) (by rfl) hC hW hO hS hSM hSb hg hl hss hsb fun own' w1 hM hC => ?_
    exact ⟨.leaf, GoesO.stop fun w1 hr => send_C _ _ _ (by rfl) (by rfl) (by rfl) hM (hC.ry hM hr)⟩
  · refine load1_C _ _ _ _ (by rfl) (by rfl) hM hC fun w1 hF1 => ?_; replace hC := hC.ry hM hF1; replace hSb := (hF1.own S hSo).trans hSb; clear hF1
    refine load0_C _ _ _ _ (by rfl) (by rfl) hM hC fun w1 hF1 => ?_; replace hC := hC.ry hM hF1; replace hSb := (hF1.own S hSo).trans hSb; clear hF1
    refine move2_C _ _ _ _ _ (by rfl) (by rfl) fun w1 hF1 => ?_; replace hC := hC.ry hM hF1; replace hSb := (hF1.own S hSo).trans hSb; clear hF1
    refine call3_C HC hLf _ _ _ S ss (by rfl) (by rfl) (by rfl) hC hW hO hS hSM hSb hg hl hss hsb fun own' w1 hM hC => ?_
    exact ⟨.leaf, GoesO.stop fun w1 hr => send_C _ _ _ (by rfl) (by rfl) (by rfl) hM (hC.ry hM hr)⟩
  · refine load1_C _ _ _ _ (by rfl) (by rfl) hM hC fun w1 hF1 => ?_; replace hC := hC.ry hM hF1; replace hSb := (hF1.own S hSo).trans hSb; clear hF1
    refine move2_C _ _ _ _ _ (by rfl) (by rfl) fun w1 hF1 => ?_; replace hC := hC.ry hM hF1; replace hSb := (hF1.own S hSo).trans hSb; clear hF1
    refine load0_C _ _ _ _ (by rfl) (by rfl) hM hC fun w1 hF1 => ?_; replace hC := hC.ry hM hF1; replace hSb := (hF1.own S hSo).trans hSb; clear hF1
    refine call3_C HC hLf _ _ _ S ss (by rfl) (by rfl) (by rfl) hC hW hO hS hSM hSb hg hl hss hsb fun own' w1 hM hC => ?_
    exact ⟨.leaf, GoesO.stop fun w1 hr => send_C _ _ _ (by rfl) (by rfl) (by rfl) hM (hC.ry hM hr)⟩
  · refine load1_C _ _ _ _ (by rfl) (by rfl) hM hC fun w1 hF1 => ?_; replace hC := hC.ry hM hF1; replace hSb := (hF1.own S hSo).trans hSb; clear hF1
    refine move2_C _ _ _ _ _ (by rfl) (by rfl) fun w1 hF1 => ?_; replace hC := hC.ry hM hF1; replace hSb := (hF1.own S hSo).trans hSb; clear hF1
    refine call3_C HC hLf _ _ _ S ss (by rfl) (by rfl) (by rfl) hC hW hO hS hSM hSb hg hl hss hsb fun own' w1 hM hC => ?_
    refine load0_C _ _ _ _ (by rfl) (by rfl) hM hC fun w1 hF1 => ?_; replace hC := hC.ry hM hF1; clear hF1
    exact ⟨.leaf, GoesO.stop fun w1 hr => send_C _ _ _ (by rfl) (by rfl) (by rfl) hM (hC.ry hM hr)⟩
  · refine move2_C _ _ _ _ _ (by rfl) (by rfl) fun w1 hF1 => ?_; replace hC := hC.ry hM hF1; replace hSb := (hF1.own S hSo).trans hSb; clear hF1
    refine load0_C _ _ _ _ (by rfl) (by rfl) hM hC fun w1 hF1 => ?_; replace hC := hC.ry hM hF1; replace hSb := (hF1.own S hSo).trans hSb; clear hF1
    refine load1_C _ _ _ _ (by rfl) (by rfl) hM hC fun w1 hF1 => ?_; replace hC := hC.ry hM hF1; replace hSb := (hF1.own S hSo).trans hSb; clear hF1
    refine call3_C HC hLf _ _ _ S ss (by rfl) (by rfl) (by rfl) hC hW hO hS hSM hSb hg hl hss hsb fun own' w1 hM hC => ?_
    exact ⟨.leaf, GoesO.stop fun w1 hr => send_C _ _ _ (by rfl) (by rfl) (by rfl) hM (hC.ry hM hr)⟩
  · refine move2_C _ _ _ _ _ (by rfl) (by rfl) fun w1 hF1 => ?_; replace hC := hC.ry hM hF1; replace hSb := (hF1.own S hSo).trans hSb; clear hF1
    refine load1_C _ _ _ _ (by rfl) (by rfl) hM hC fun w1 hF1 => ?_; replace hC := hC.ry hM hF1; replace hSb := (hF1.own S hSo).trans hSb; clear hF1
    refine load0_C _ _ _ _ (by rfl) (by rfl) hM hC fun w1 hF1 => ?_; replace hC := hC.ry hM hF1; replace hSb := (hF1.own S hSo).trans hSb; clear hF1
    refine call3_C HC hLf _ _ _ S ss (by rfl) (by rfl) (by rfl) hC hW hO hS hSM hSb hg hl hss hsb fun own' w1 hM hC => ?_
    exact ⟨.leaf, GoesO.stop fun w1 hr => send_C _ _ _ (by rfl) (by rfl) (by rfl) hM (hC.ry hM hr)⟩
  · refine move2_C _ _ _ _ _ (by rfl) (by rfl) fun w1 hF1 => ?_; replace hC := hC.ry hM hF1; replace hSb := (hF1.own S hSo).trans hSb; clear hF1
    refine load1_C _ _ _ _ (by rfl) (by rfl) hM hC fun w1 hF1 => ?_; replace hC := hC.ry hM hF1; replace hSb := (hF1.own S hSo).trans hSb; clear hF1
    refine call3_C HC hLf _ _ _ S ss (by rfl) (by rfl) (by rfl) hC hW hO hS hSM hSb hg hl hss hsb fun own' w1 hM hC => ?_
    refine load0_C _ _ _ _ (by rfl) (by rfl) hM hC fun w1 hF1 => ?_; replace hC := hC.ry hM hF1; clear hF1
    exact ⟨.leaf, GoesO.stop fun w1 hr => send_C _ _ _ (by rfl) (by rfl) (by rfl) hM (hC.ry hM hr)⟩
end
end Go.Proofs.Ytacedadenbinmaa
