/- A worker of tallyOf: its first statements; from its birth. Conditions: at least one and at most ten good loads, at most five machines. tallyOf: the loop that starts the workers; into Wait. Conditions: at least one and at most ten good loads, at most five machines. tallyOf: the loop that starts the workers, from its head into Wait. Conditions: at least one and at most ten good loads, at most five machines. -/
import Derived.Test.YtacedadenbinmaaZj
import Derived.Conc.CrowdMono
set_option linter.unusedVariables false
set_option linter.unusedSimpArgs false
set_option linter.unusedSectionVars false
namespace Go.Proofs.Ytacedadenbinmaa
open Go.Par Go.Conc Go.ConcN Go.RowKit Go.Conc.Lib Go.ConcR.Gen Go.ConcN.Gen
open Go.ConcR (KK wgBlock WgAt stA smA rd wr mk DC0 Payload)

section
variable {LB : FuncId → Bool} {Low Wg Ch aB cB mB Mb ab off cap m i : Nat} {zs : List Int} {w0 w : World} {own : Nat → Prop}
noncomputable def regC2 : Code := match Try.f65.body.getD .skip with | .seq _ (.seq _ (.seq c _)) => c | _ => .skip
theorem regC2_eq : regC2 = .region 2 opsC2 true := rfl
theorem ordC2 : allS .any opsC2 opsC2.size (Array.replicate opsC2.size false) = [[0, 1, 2, 3, 4, 5, 6], [0, 2, 1, 3, 4, 5, 6], [0, 2, 3, 1, 4, 5, 6], [0, 2, 3, 4, 1, 5, 6], [1, 0, 2, 3, 4, 5, 6], [1, 2, 0, 3, 4, 5, 6], [1, 2, 3, 0, 4, 5, 6], [1, 2, 3, 4, 0, 5, 6], [2, 0, 1, 3, 4, 5, 6], [2, 0, 3, 1, 4, 5, 6], [2, 0, 3, 4, 1, 5, 6], [2, 1, 0, 3, 4, 5, 6], [2, 1, 3, 0, 4, 5, 6], [2, 1, 3, 4, 0, 5, 6], [2, 3, 0, 1, 4, 5, 6], [2, 3, 0, 4, 1, 5, 6], [2, 3, 1, 0, 4, 5, 6], [2, 3, 1, 4, 0, 5, 6], [2, 3, 4, 0, 1, 5, 6], [2, 3, 4, 1, 0, 5, 6]] := by kernel_rfl

set_option maxRecDepth 100000 in
set_option maxHeartbeats 8000000 in
/-- the second statement and the last -/
theorem r2_C (HC : Closed Try.prog (fun f => LB f = true) LB) (hLf : LB 67 = true) (T : Array Value) (w0 : World) (S : Nat) (x : Int) (hT : T.size = 18) (h2 : T[2]? = some (.pointer (some ⟨aB, 0, none⟩))) (h3 : T[3]? = some (.pointer (some ⟨Mb, 0, none⟩))) (h4 : T[4]? = some (.pointer (some ⟨cB, 0, none⟩))) (h5 : T[5]? = some (.slice (some ⟨S, 0, none⟩) m m)) (hC : CF LB Low Wg Ch aB cB mB Mb ab off cap m i zs w0)
    (hW : Wg < Low) (hO : ∀ b, own b ↔ b = Mb ∨ b = S) (hS : Low ≤ S) (hSM : S ≠ Mb) (hSb : w0.heap[S]? = some (.cells ((List.replicate m (0 : Int)).map (Value.int .i64)).toArray 3 (0, 0)))
    (hg : good zs) (hl : 1 ≤ zs.length ∧ zs.length ≤ 10) (hx : zs[0]?.getD 0 = x) (him : i < m) (hm : m ≤ 5) :
    GsC Low Wg Ch (tf (zs.drop 1) ((List.replicate m 0).set i x)) own (G (bC.at ⟨T, [dcall 66 #[.pointer (some ⟨Wg, 0, none⟩)]]⟩ [.code regC2, .code regC3]) [botC]) w0 := by
  have hM : own Mb := (hO _).2 (.inl rfl)
  have hSo : own S := (hO _).2 (.inr rfl)
  have hl0 : 0 < zs.length := hl.1
  have hxb : 1 ≤ x ∧ x ≤ 60 := hx ▸ good_get hg 0 hl0
  have hlen : ((List.replicate m (0 : Int)).set i x).length = m := by simp
  have hsb : ∀ y ∈ (List.replicate m (0 : Int)).set i x, 0 ≤ y ∧ y ≤ 60 := fun y hy => by
    rcases List.mem_or_eq_of_mem_set hy with hy | rfl
    · obtain ⟨_, rfl⟩ := List.mem_replicate.1 hy; omega
    · omega
  obtain ⟨v0, v1, v2, v3, v4, v5, v6, v7, v8, v9, v10, v11, v12, v13, v14, v15, v16, v17, rfl⟩ := size18 T hT
  simp only [List.getElem?_toArray, List.getElem?_cons_succ, List.getElem?_cons_zero, Option.some.injEq] at h2 h3 h4 h5
  subst h2 h3 h4 h5
  clear hT
  rw [regC2_eq]
  have last : ∀ (w : World) (T : Array Value), CF LB Low Wg Ch aB cB mB Mb ab off cap m i zs w → w.heap[S]? = some (.cells (((List.replicate m (0 : Int)).set i x).map (Value.int .i64)).toArray 3 (0, 0)) → T.size = 18 → T[2]? = some (.pointer (some ⟨aB, 0, none⟩)) → T[4]? = some (.pointer (some ⟨cB, 0, none⟩)) → T[5]? = some (.slice (some ⟨S, 0, none⟩) m m) →
      GsC Low Wg Ch (tf (zs.drop 1) ((List.replicate m 0).set i x)) own (G (bC.at ⟨T, [dcall 66 #[.pointer (some ⟨Wg, 0, none⟩)]]⟩ [.inRegion opsC2 [], .code regC3]) [botC]) w := by
    intro w0 T hC hb hT h2 h4 h5
    have hF := Ry.refl SB.tr (S := SB wgl.tWg Low Wg Ch) own w0
    refine GoesO.any rfl (fun w h₁ => ?_)
    replace hF := hF.trans SB.tr h₁
    clear h₁
    rw [stepG_region_end]
    simp only [goes_go]
    refine ⟨DL.refl _ _ _, ?_⟩
    rw [more_same rfl]
    exact r3_C HC hLf T w S ((List.replicate m 0).set i x) hT h2 h4 (by rw [hlen]; exact h5) (hC.ry hM hF) hW hO hS hSM ((hF.own S hSo).trans hb) hg hl (by rw [hlen]; omega) hsb
  refine W_draw (F := fun w => Ry (SB wgl.tWg Low Wg Ch) own w0 w) mixC ordC2 (fun _ _ h h' => h.trans SB.tr h') (fun _ h => ry_drew h) (.refl SB.tr own w0) fun s hs w hF => ?_
  replace hC := hC.ry hM hF
  replace hSb := (hF.own S hSo).trans hSb
  clear hF
  simp only [List.mem_cons, List.not_mem_nil, or_false] at hs
  rcases hs with rfl | rfl | rfl | rfl | rfl | rfl | rfl | rfl | rfl | rfl | rfl | rfl | rfl | rfl | rfl | rfl | rfl | rfl | rfl | rfl
  · refine p0_C _ _ _ _ _ _ (by rfl) (by rfl) fun w1 hF1 => ?_; replace hC := hC.ry hM hF1; replace hSb := (hF1.own S hSo).trans hSb; clear hF1; simp only [List.setIfInBounds_toArray, List.set_cons_succ, List.set_cons_zero]
    refine p1_C _ _ _ _ _ (by rfl) (by rfl) hM hC fun w1 hF1 => ?_; replace hC := hC.ry hM hF1; replace hSb := (hF1.own S hSo).trans hSb; clear hF1; simp only [List.setIfInBounds_toArray, List.set_cons_succ, List.set_cons_zero]
    refine p2_C _ _ _ _ _ (by rfl) (by rfl) hM hC fun w1 hF1 => ?_; replace hC := hC.ry hM hF1; replace hSb := (hF1.own S hSo).trans hSb; clear hF1; simp only [List.setIfInBounds_toArray, List.set_cons_succ, List.set_cons_zero]
    refine p3_C (ab := ab) (off := off) (cap := cap) (zs := zs) _ _ _ _ _ (by rfl) hl0 (by rfl) fun w1 hF1 => ?_; replace hC := hC.ry hM hF1; replace hSb := (hF1.own S hSo).trans hSb; clear hF1; simp only [List.setIfInBounds_toArray, List.set_cons_succ, List.set_cons_zero]
    refine p4_C _ _ _ _ _ x hx (by rfl) hl0 (by rfl) hM hC fun w1 hF1 => ?_; replace hC := hC.ry hM hF1; replace hSb := (hF1.own S hSo).trans hSb; clear hF1; simp only [List.setIfInBounds_toArray, List.set_cons_succ, List.set_cons_zero]
    refine p5_C (m := m) (i := i) _ _ _ _ _ S him (by rfl) (by rfl) (by rfl) fun w1 hF1 => ?_; replace hC := hC.ry hM hF1; replace hSb := (hF1.own S hSo).trans hSb; clear hF1; simp only [List.setIfInBounds_toArray, List.set_cons_succ, List.set_cons_zero]
    exact p6_C (i := i) (m := m) (Mb := Mb) (aB := aB) (cB := cB) (mB := mB) (ab := ab) (off := off) (cap := cap) (zs := zs) _ _ _ _ _ S (List.replicate m 0) x (by rfl) (by rfl) (by rfl) (by simpa using him) hM hSo hSb hS hSM hW hC fun w2 hC2 hb2 => last w2 _ hC2 hb2 (by rfl) (by rfl) (by rfl) (by rfl)
  · refine p0_C _ _ _ _ _ _ (by rfl) (by rfl) fun w1 hF1 => ?_; replace hC := hC.ry hM hF1; replace hSb := (hF1.own S hSo).trans hSb; clear hF1; simp only [List.setIfInBounds_toArray, List.set_cons_succ, List.set_cons_zero]
    refine p2_C _ _ _ _ _ (by rfl) (by rfl) hM hC fun w1 hF1 => ?_; replace hC := hC.ry hM hF1; replace hSb := (hF1.own S hSo).trans hSb; clear hF1; simp only [List.setIfInBounds_toArray, List.set_cons_succ, List.set_cons_zero]
    refine p1_C _ _ _ _ _ (by rfl) (by rfl) hM hC fun w1 hF1 => ?_; replace hC := hC.ry hM hF1; replace hSb := (hF1.own S hSo).trans hSb; clear hF1; simp only [List.setIfInBounds_toArray, List.set_cons_succ, List.set_cons_zero]
    refine p3_C (ab := ab) (off := off) (cap := cap) (zs := zs) _ _ _ _ _ (by rfl) hl0 (by rfl) fun w1 hF1 => ?_; replace hC := hC.ry hM hF1; replace hSb := (hF1.own S hSo).trans hSb; clear hF1; simp only [List.setIfInBounds_toArray, List.set_cons_succ, List.set_cons_zero]
    refine p4_C _ _ _ _ _ x hx (by rfl) hl0 (by rfl) hM hC fun w1 hF1 => ?_; replace hC := hC.ry hM hF1; replace hSb := (hF1.own S hSo).trans hSb; clear hF1; simp only [List.setIfInBounds_toArray, List.set_cons_succ, List.set_cons_zero]
    refine p5_C (m := m) (i := i) _ _ _ _ _ S him (by rfl) (by rfl) (by rfl) fun w1 hF1 => ?_; replace hC := hC.ry hM hF1; replace hSb := (hF1.own S hSo).trans hSb; clear hF1; simp only [List.setIfInBounds_toArray, List.set_cons_succ, List.set_cons_zero]
    exact p6_C (i := i) (m := m) (Mb := Mb) (aB := aB) (cB := cB) (mB := mB) (ab := ab) (off := off) (cap := cap) (zs := zs) _ _ _ _ _ S (List.replicate m 0) x (by rfl) (by rfl) (by rfl) (by simpa using him) hM hSo hSb hS hSM hW hC fun w2 hC2 hb2 => last w2 _ hC2 hb2 (by rfl) (by rfl) (by rfl) (by rfl)
  · refine p0_C _ _ _ _ _ _ (by rfl) (by rfl) fun w1 hF1 => ?_; replace hC := hC.ry hM hF1; replace hSb := (hF1.own S hSo).trans hSb; clear hF1; simp only [List.setIfInBounds_toArray, List.set_cons_succ, List.set_cons_zero]
    refine p2_C _ _ _ _ _ (by rfl) (by rfl) hM hC fun w1 hF1 => ?_; replace hC := hC.ry hM hF1; replace hSb := (hF1.own S hSo).trans hSb; clear hF1; simp only [List.setIfInBounds_toArray, List.set_cons_succ, List.set_cons_zero]
    refine p3_C (ab := ab) (off := off) (cap := cap) (zs := zs) _ _ _ _ _ (by rfl) hl0 (by rfl) fun w1 hF1 => ?_; replace hC := hC.ry hM hF1; replace hSb := (hF1.own S hSo).trans hSb; clear hF1; simp only [List.setIfInBounds_toArray, List.set_cons_succ, List.set_cons_zero]
    refine p1_C _ _ _ _ _ (by rfl) (by rfl) hM hC fun w1 hF1 => ?_; replace hC := hC.ry hM hF1; replace hSb := (hF1.own S hSo).trans hSb; clear hF1; simp only [List.setIfInBounds_toArray, List.set_cons_succ, List.set_cons_zero]
    refine p4_C _ _ _ _ _ x hx (by rfl) hl0 (by rfl) hM hC fun w1 hF1 => ?_; replace hC := hC.ry hM hF1; replace hSb := (hF1.own S hSo).trans hSb; clear hF1; simp only [List.setIfInBounds_toArray, List.set_cons_succ, List.set_cons_zero]
    refine p5_C (m := m) (i := i) _ _ _ _ _ S him (by rfl) (by rfl) (by rfl) fun w1 hF1 => ?_; replace hC := hC.ry hM hF1; replace hSb := (hF1.own S hSo).trans hSb; clear hF1; simp only [List.setIfInBounds_toArray, List.set_cons_succ, List.set_cons_zero]
    exact p6_C (i := i) (m := m) (Mb := Mb) (aB := aB) (cB := cB) (mB := mB) (ab := ab) (off := off) (cap := cap) (zs := zs) _ _ _ _ _ S (List.replicate m 0) x (by rfl) (by rfl) (by rfl) (by simpa using him) hM hSo hSb hS hSM hW hC fun w2 hC2 hb2 => last w2 _ hC2 hb2 (by rfl) (by rfl) (by rfl) (by rfl)
  · refine p0_C _ _ _ _ _ _ (by rfl) (by rfl) fun w1 hF1 => ?_; replace hC := hC.ry hM hF1; replace hSb := (hF1.own S hSo).trans hSb; clear hF1; simp only [List.setIfInBounds_toArray, List.set_cons_succ, List.set_cons_zero]
    refine p2_C _ _ _ _ _ (by rfl) (by rfl) hM hC fun w1 hF1 => ?_; replace hC := hC.ry hM hF1; replace hSb := (hF1.own S hSo).trans hSb; clear hF1; simp only [List.setIfInBounds_toArray, List.set_cons_succ, List.set_cons_zero]
    refine p3_C (ab := ab) (off := off) (cap := cap) (zs := zs) _ _ _ _ _ (by rfl) hl0 (by rfl) fun w1 hF1 => ?_; replace hC := hC.ry hM hF1; replace hSb := (hF1.own S hSo).trans hSb; clear hF1; simp only [List.setIfInBounds_toArray, List.set_cons_succ, List.set_cons_zero]
    refine p4_C _ _ _ _ _ x hx (by rfl) hl0 (by rfl) hM hC fun w1 hF1 => ?_; replace hC := hC.ry hM hF1; replace hSb := (hF1.own S hSo).trans hSb; clear hF1; simp only [List.setIfInBounds_toArray, List.set_cons_succ, List.set_cons_zero]
    refine p1_C _ _ _ _ _ (by rfl) (by rfl) hM hC fun w1 hF1 => ?_; replace hC := hC.ry hM hF1; replace hSb := (hF1.own S hSo).trans hSb; clear hF1; simp only [List.setIfInBounds_toArray, List.set_cons_succ, List.set_cons_zero]
    refine p5_C (m := m) (i := i) _ _ _ _ _ S him (by rfl) (by rfl) (by rfl) fun w1 hF1 => ?_; replace hC := hC.ry hM hF1; replace hSb := (hF1.own S hSo).trans hSb; clear hF1; simp only [List.setIfInBounds_toArray, List.set_cons_succ, List.set_cons_zero]
    exact p6_C (i := i) (m := m) (Mb := Mb) (aB := aB) (cB := cB) (mB := mB) (ab := ab) (off := off) (cap := cap) (zs := zs) _ _ _ _ _ S (List.replicate m 0) x (by rfl) (by rfl) (by rfl) (by simpa using him) hM hSo hSb hS hSM hW hC fun w2 hC2 hb2 => last w2 _ hC2 hb2 (by rfl) (by rfl) (by rfl) (by rfl)
  · refine p1_C _ _ _ _ _ (by rfl) (by rfl) hM hC fun w1 hF1 => ?_; replace hC := hC.ry hM hF1; replace hSb := (hF1.own S hSo).trans hSb; clear hF1; simp only [List.setIfInBounds_toArray, List.set_cons_succ, List.set_cons_zero]
    refine p0_C _ _ _ _ _ _ (by rfl) (by rfl) fun w1 hF1 => ?_; replace hC := hC.ry hM hF1; replace hSb := (hF1.own S hSo).trans hSb; clear hF1; simp only [List.setIfInBounds_toArray, List.set_cons_succ, List.set_cons_zero]
    refine p2_C _ _ _ _ _ (by rfl) (by rfl) hM hC fun w1 hF1 => ?_; replace hC := hC.ry hM hF1; replace hSb := (hF1.own S hSo).trans hSb; clear hF1; simp only [List.setIfInBounds_toArray, List.set_cons_succ, List.set_cons_zero]
    refine p3_C (ab := ab) (off := off) (cap := cap) (zs := zs) _ _ _ _ _ (by rfl) hl0 (by rfl) fun w1 hF1 => ?_; replace hC := hC.ry hM hF1; replace hSb := (hF1.own S hSo).trans hSb; clear hF1; simp only [List.setIfInBounds_toArray, List.set_cons_succ, List.set_cons_zero]
    refine p4_C _ _ _ _ _ x hx (by rfl) hl0 (by rfl) hM hC fun w1 hF1 => ?_; replace hC := hC.ry hM hF1; replace hSb := (hF1.own S hSo).trans hSb; clear hF1; simp only [List.setIfInBounds_toArray, List.set_cons_succ, List.set_cons_zero]
    refine p5_C (m := m) (i := i) _ _ _ _ _ S him (by rfl) (by rfl) (by rfl) fun w1 hF1 => ?_; replace hC := hC.ry hM hF1; replace hSb := (hF1.own S hSo).trans hSb; clear hF1; simp only [List.setIfInBounds_toArray, List.set_cons_succ, List.set_cons_zero]
    exact p6_C (i := i) (m := m) (Mb := Mb) (aB := aB) (cB := cB) (mB := mB) (ab := ab) (off := off) (cap := cap) (zs := zs) _ _ _ _ _ S (List.replicate m 0) x (by rfl) (by rfl) (by rfl) (by simpa using him) hM hSo hSb hS hSM hW hC fun w2 hC2 hb2 => last w2 _ hC2 hb2 (by rfl) (by rfl) (by rfl) (by rfl)
  · refine p1_C _ _ _ _ _ (by rfl) (by rfl) hM hC fun w1 hF1 => ?_; replace hC := hC.ry hM hF1; replace hSb := (hF1.own S hSo).trans hSb; clear hF1; simp only [List.setIfInBounds_toArray, List.set_cons_succ, List.set_cons_zero]
    refine p2_C _ _ _ _ _ (by rfl) (by rfl) hM hC fun w1 hF1 => ?_; replace hC := hC.ry hM hF1; replace hSb := (hF1.own S hSo).trans hSb; clear hF1; simp only [List.setIfInBounds_toArray, List.set_cons_succ, List.set_cons_zero]
    refine p0_C _ _ _ _ _ _ (by rfl) (by rfl) fun w1 hF1 => ?_; replace hC := hC.ry hM hF1; replace hSb := (hF1.own S hSo).trans hSb; clear hF1; simp only [List.setIfInBounds_toArray, List.set_cons_succ, List.set_cons_zero]
    refine p3_C (ab := ab) (off := off) (cap := cap) (zs := zs) _ _ _ _ _ (by rfl) hl0 (by rfl) fun w1 hF1 => ?_; replace hC := hC.ry hM hF1; replace hSb := (hF1.own S hSo).trans hSb; clear hF1; simp only [List.setIfInBounds_toArray, List.set_cons_succ, List.set_cons_zero]
    refine p4_C _ _ _ _ _ x hx (by rfl) hl0 (by rfl) hM hC fun w1 hF1 => ?_; replace hC := hC.ry hM hF1; replace hSb := (hF1.own S hSo).trans hSb; clear hF1; simp only [List.setIfInBounds_toArray, List.set_cons_succ, List.set_cons_zero]
    refine p5_C (m := m) (i := i) _ _ _ _ _ S him (by rfl) (by rfl) (by rfl) fun w1 hF1 => ?_; replace hC := hC.ry hM hF1; replace hSb := (hF1.own S hSo).trans hSb; clear hF1; simp only [List.setIfInBounds_toArray, List.set_cons_succ, List.set_cons_zero]
    exact p6_C (i := i) (m := m) (Mb := Mb) (aB := aB) (cB := cB) (mB := mB) (ab := ab) (off := off) (cap := cap) (zs := zs) _ _ _ _ _ S (List.replicate m 0) x (by rfl) (by rfl) (by rfl) (by simpa using him) hM hSo hSb hS hSM hW hC fun w2 hC2 hb2 => last w2 _ hC2 hb2 (by rfl) (by rfl) (by rfl) (by rfl)
  · refine p1_C _ _ _ _ _ (by rfl) (by rfl) hM hC fun w1 hF1 => ?_; replace hC := hC.ry hM hF1; replace hSb := (hF1.own S hSo).trans hSb; clear hF1; simp only [List.setIfInBounds_toArray, List.set_cons_succ, List.set_cons_zero]
    refine p2_C _ _ _ _ _ (by rfl) (by rfl) hM hC fun w1 hF1 => ?_; replace hC := hC.ry hM hF1; replace hSb := (hF1.own S hSo).trans hSb; clear hF1; simp only [List.setIfInBounds_toArray, List.set_cons_succ, List.set_cons_zero]
    refine p3_C (ab := ab) (off := off) (cap := cap) (zs := zs) _ _ _ _ _ (by rfl) hl0 (by rfl) fun w1 hF1 => ?_; replace hC := hC.ry hM hF1; replace hSb := (hF1.own S hSo).trans hSb; clear hF1; simp only [List.setIfInBounds_toArray, List.set_cons_succ, List.set_cons_zero]
    refine p0_C _ _ _ _ _ _ (by rfl) (by rfl) fun w1 hF1 => ?_; replace hC := hC.ry hM hF1; replace hSb := (hF1.own S hSo).trans hSb; clear hF1; simp only [List.setIfInBounds_toArray, List.set_cons_succ, List.set_cons_zero]
    refine p4_C _ _ _ _ _ x hx (by rfl) hl0 (by rfl) hM hC fun w1 hF1 => ?_; replace hC := hC.ry hM hF1; replace hSb := (hF1.own S hSo).trans hSb; clear hF1; simp only [List.setIfInBounds_toArray, List.set_cons_succ, List.set_cons_zero]
    refine p5_C (m := m) (i := i) _ _ _ _ _ S him (by rfl) (by rfl) (by rfl) fun w1 hF1 => ?_; replace hC := hC.ry hM hF1; replace hSb := (hF1.own S hSo).trans hSb; clear hF1; simp only [List.setIfInBounds_toArray, List.set_cons_succ, List.set_cons_zero]
    exact p6_C (i := i) (m := m) (Mb := Mb) (aB := aB) (cB := cB) (mB := mB) (ab := ab) (off := off) (cap := cap) (zs := zs) _ _ _ _ _ S (List.replicate m 0) x (by rfl) (by rfl) (by rfl) (by simpa using him) hM hSo hSb hS hSM hW hC fun w2 hC2 hb2 => last w2 _ hC2 hb2 (by rfl) (by rfl) (by rfl) (by rfl)
  · refine p1_C _ _ _ _ _ (by rfl) (by rfl) hM hC fun w1 hF1 => ?_; replace hC := hC.ry hM hF1; replace hSb := (hF1.own S hSo).trans hSb; clear hF1; simp only [List.setIfInBounds_toArray, List.set_cons_succ, List.set_cons_zero]
    refine p2_C _ _ _ _ _ (by rfl) (by rfl) hM hC fun w1 hF1 => ?_; replace hC := hC.ry hM hF1; replace hSb := (hF1.own S hSo).trans hSb; clear hF1; simp only [List.setIfInBounds_toArray, List.set_cons_succ, List.set_cons_zero]
    refine p3_C (ab := ab) (off := off) (cap := cap) (zs := zs) _ _ _ _ _ (by rfl) hl0 (by rfl) fun w1 hF1 => ?_; replace hC := hC.ry hM hF1; replace hSb := (hF1.own S hSo).trans hSb; clear hF1; simp only [List.setIfInBounds_toArray, List.set_cons_succ, List.set_cons_zero]
    refine p4_C _ _ _ _ _ x hx (by rfl) hl0 (by rfl) hM hC fun w1 hF1 => ?_; replace hC := hC.ry hM hF1; replace hSb := (hF1.own S hSo).trans hSb; clear hF1; simp only [List.setIfInBounds_toArray, List.set_cons_succ, List.set_cons_zero]
    refine p0_C _ _ _ _ _ _ (by rfl) (by rfl) fun w1 hF1 => ?_; replace hC := hC.ry hM hF1; replace hSb := (hF1.own S hSo).trans hSb; clear hF1; simp only [List.setIfInBounds_toArray, List.set_cons_succ, List.set_cons_zero]
    refine p5_C (m := m) (i := i) _ _ _ _ _ S him (by rfl) (by rfl) (by rfl) fun w1 hF1 => ?_; replace hC := hC.ry hM hF1; replace hSb := (hF1.own S hSo).trans hSb; clear hF1; simp only [List.setIfInBounds_toArray, List.set_cons_succ, List.set_cons_zero]
    exact p6_C (i := i) (m := m) (Mb := Mb) (aB := aB) (cB := cB) (mB := mB) (ab := ab) (off := off) (cap := cap) (zs := zs) _ _ _ _ _ S (List.replicate m 0) x (by rfl) (by rfl) (by rfl) (by simpa using him) hM hSo hSb hS hSM hW hC fun w2 hC2 hb2 => last w2 _ hC2 hb2 (by rfl) (by rfl) (by rfl) (by rfl)
  · refine p2_C _ _ _ _ _ (by rfl) (by rfl) hM hC fun w1 hF1 => ?_; replace hC := hC.ry hM hF1; replace hSb := (hF1.own S hSo).trans hSb; clear hF1; simp only [List.setIfInBounds_toArray, List.set_cons_succ, List.set_cons_zero]
    refine p0_C _ _ _ _ _ _ (by rfl) (by rfl) fun w1 hF1 => ?_; replace hC := hC.ry hM hF1; replace hSb := (hF1.own S hSo).trans hSb; clear hF1; simp only [List.setIfInBounds_toArray, List.set_cons_succ, List.set_cons_zero]
    refine p1_C _ _ _ _ _ (by rfl) (by rfl) hM hC fun w1 hF1 => ?_; replace hC := hC.ry hM hF1; replace hSb := (hF1.own S hSo).trans hSb; clear hF1; simp only [List.setIfInBounds_toArray, List.set_cons_succ, List.set_cons_zero]
    refine p3_C (ab := ab) (off := off) (cap := cap) (zs := zs) _ _ _ _ _ (by rfl) hl0 (by rfl) fun w1 hF1 => ?_; replace hC := hC.ry hM hF1; replace hSb := (hF1.own S hSo).trans hSb; clear hF1; simp only [List.setIfInBounds_toArray, List.set_cons_succ, List.set_cons_zero]
    refine p4_C _ _ _ _ _ x hx (by rfl) hl0 (by rfl) hM hC fun w1 hF1 => ?_; replace hC := hC.ry hM hF1; replace hSb := (hF1.own S hSo).trans hSb; clear hF1; simp only [List.setIfInBounds_toArray, List.set_cons_succ, List.set_cons_zero]
    refine p5_C (m := m) (i := i) _ _ _ _ _ S him (by rfl) (by rfl) (by rfl) fun w1 hF1 => ?_; replace hC := hC.ry hM hF1; replace hSb := (hF1.own S hSo).trans hSb; clear hF1; simp only [List.setIfInBounds_toArray, List.set_cons_succ, List.set_cons_zero]
    exact p6_C (i := i) (m := m) (Mb := Mb) (aB := aB) (cB := cB) (mB := mB) (ab := ab) (off := off) (cap := cap) (zs := zs) _ _ _ _ _ S (List.replicate m 0) x (by rfl) (by rfl) (by rfl) (by simpa using him) hM hSo hSb hS hSM hW hC fun w2 hC2 hb2 => last w2 _ hC2 hb2 (by rfl) (by rfl) (by rfl) (by rfl)
  · refine p2_C _ _ _ _ _ (by rfl) (by rfl) hM hC fun w1 hF1 => ?_; replace hC := hC.ry hM hF1; replace hSb := (hF1.own S hSo).trans hSb; clear hF1; simp only [List.setIfInBounds_toArray, List.set_cons_succ, List.set_cons_zero]
    refine p0_C _ _ _ _ _ _ (by rfl) (by rfl) fun w1 hF1 => ?_; replace hC := hC.ry hM hF1; replace hSb := (hF1.own S hSo).trans hSb; clear hF1; simp only [List.setIfInBounds_toArray, List.set_cons_succ, List.set_cons_zero]
    refine p3_C (ab := ab) (off := off) (cap := cap) (zs := zs) _ _ _ _ _ (by rfl) hl0 (by rfl) fun w1 hF1 => ?_; replace hC := hC.ry hM hF1; replace hSb := (hF1.own S hSo).trans hSb; clear hF1; simp only [List.setIfInBounds_toArray, List.set_cons_succ, List.set_cons_zero]
    refine p1_C _ _ _ _ _ (by rfl) (by rfl) hM hC fun w1 hF1 => ?_; replace hC := hC.ry hM hF1; replace hSb := (hF1.own S hSo).trans hSb; clear hF1; simp only [List.setIfInBounds_toArray, List.set_cons_succ, List.set_cons_zero]
    refine p4_C _ _ _ _ _ x hx (by rfl) hl0 (by rfl) hM hC fun w1 hF1 => ?_; replace hC := hC.ry hM hF1; replace hSb := (hF1.own S hSo).trans hSb; clear hF1; simp only [List.setIfInBounds_toArray, List.set_cons_succ, List.set_cons_zero]
    refine p5_C (m := m) (i := i) _ _ _ _ _ S him (by rfl) (by rfl) (by rfl) fun w1 hF1 => ?_; replace hC := hC.ry hM hF1; replace hSb := (hF1.own S hSo).trans hSb; clear hF1; simp only [List.setIfInBounds_toArray, List.set_cons_succ, List.set_cons_zero]
    exact p6_C (i := i) (m := m) (Mb := Mb) (aB := aB) (cB := cB) (mB := mB) (ab := ab) (off := off) (cap := cap) (zs := zs) _ _ _ _ _ S (List.replicate m 0) x (by rfl) (by rfl) (by rfl) (by simpa using him) hM hSo hSb hS hSM hW hC fun w2 hC2 hb2 => last w2 _ hC2 hb2 (by rfl) (by rfl) (by rfl) (by rfl)
  · refine p2_C _ _ _ _ _ (by rfl) (by rfl) hM hC fun w1 hF1 => ?_; replace hC := hC.ry hM hF1; replace hSb := (hF1.own S hSo).trans hSb; clear hF1; simp only [List.setIfInBounds_toArray, List.set_cons_succ, List.set_cons_zero]
    refine p0_C _ _ _ _ _ _ (by rfl) (by rfl) fun w1 hF1 => ?_; replace hC := hC.ry hM hF1; replace hSb := (hF1.own S hSo).trans hSb; clear hF1; simp only [List.setIfInBounds_toArray, List.set_cons_succ, List.set_cons_zero]
    refine p3_C (ab := ab) (off := off) (cap := cap) (zs := zs) _ _ _ _ _ (by rfl) hl0 (by rfl) fun w1 hF1 => ?_; replace hC := hC.ry hM hF1; replace hSb := (hF1.own S hSo).trans hSb; clear hF1; simp only [List.setIfInBounds_toArray, List.set_cons_succ, List.set_cons_zero]
    refine p4_C _ _ _ _ _ x hx (by rfl) hl0 (by rfl) hM hC fun w1 hF1 => ?_; replace hC := hC.ry hM hF1; replace hSb := (hF1.own S hSo).trans hSb; clear hF1; simp only [List.setIfInBounds_toArray, List.set_cons_succ, List.set_cons_zero]
    refine p1_C _ _ _ _ _ (by rfl) (by rfl) hM hC fun w1 hF1 => ?_; replace hC := hC.ry hM hF1; replace hSb := (hF1.own S hSo).trans hSb; clear hF1; simp only [List.setIfInBounds_toArray, List.set_cons_succ, List.set_cons_zero]
    refine p5_C (m := m) (i := i) _ _ _ _ _ S him (by rfl) (by rfl) (by rfl) fun w1 hF1 => ?_; replace hC := hC.ry hM hF1; replace hSb := (hF1.own S hSo).trans hSb; clear hF1; simp only [List.setIfInBounds_toArray, List.set_cons_succ, List.set_cons_zero]
    exact p6_C (i := i) (m := m) (Mb := Mb) (aB := aB) (cB := cB) (mB := mB) (ab := ab) (off := off) (cap := cap) (zs := zs) _ _ _ _ _ S (List.replicate m 0) x (by rfl) (by rfl) (by rfl) (by simpa using him) hM hSo hSb hS hSM hW hC fun w2 hC2 hb2 => last w2 _ hC2 hb2 (by rfl) (by rfl) (by rfl) (by rfl)
  · refine p2_C _ _ _ _ _ (by rfl) (by rfl) hM hC fun w1 hF1 => ?_; replace hC := hC.ry hM hF1; replace hSb := (hF1.own S hSo).trans hSb; clear hF1; simp only [List.setIfInBounds_toArray, List.set_cons_succ, List.set_cons_zero]
    refine p1_C _ _ _ _ _ (by rfl) (by rfl) hM hC fun w1 hF1 => ?_; replace hC := hC.ry hM hF1; replace hSb := (hF1.own S hSo).trans hSb; clear hF1; simp only [List.setIfInBounds_toArray, List.set_cons_succ, List.set_cons_zero]
    refine p0_C _ _ _ _ _ _ (by rfl) (by rfl) fun w1 hF1 => ?_; replace hC := hC.ry hM hF1; replace hSb := (hF1.own S hSo).trans hSb; clear hF1; simp only [List.setIfInBounds_toArray, List.set_cons_succ, List.set_cons_zero]
    refine p3_C (ab := ab) (off := off) (cap := cap) (zs := zs) _ _ _ _ _ (by rfl) hl0 (by rfl) fun w1 hF1 => ?_; replace hC := hC.ry hM hF1; replace hSb := (hF1.own S hSo).trans hSb; clear hF1; simp only [List.setIfInBounds_toArray, List.set_cons_succ, List.set_cons_zero]
    refine p4_C _ _ _ _ _ x hx (by rfl) hl0 (by rfl) hM hC fun w1 hF1 => ?_; replace hC := hC.ry hM hF1; replace hSb := (hF1.own S hSo).trans hSb; clear hF1; simp only [List.setIfInBounds_toArray, List.set_cons_succ, List.set_cons_zero]
    refine p5_C (m := m) (i := i) _ _ _ _ _ S him (by rfl) (by rfl) (by rfl) fun w1 hF1 => ?_; replace hC := hC.ry hM hF1; replace hSb := (hF1.own S hSo).trans hSb; clear hF1; simp only [List.setIfInBounds_toArray, List.set_cons_succ, List.set_cons_zero]
    exact p6_C (i := i) (m := m) (Mb := Mb) (aB := aB) (cB := cB) (mB := mB) (ab := ab) (off := off) (cap := cap) (zs := zs) _ _ _ _ _ S (List.replicate m 0) x (by rfl) (by rfl) (by rfl) (by simpa using him) hM hSo hSb hS hSM hW hC fun w2 hC2 hb2 => last w2 _ hC2 hb2 (by rfl) (by rfl) (by rfl) (by rfl)
  · refine p2_C _ _ _ _ _ (by rfl) (by rfl) hM hC fun w1 hF1 => ?_; replace hC := hC.ry hM hF1; replace hSb := (hF1.own S hSo).trans hSb; clear hF1; simp only [List.setIfInBounds_toArray, List.set_cons_succ, List.set_cons_zero]
    refine p1_C _ _ _ _ _ (by rfl) (by rfl) hM hC fun w1 hF1 => ?_; replace hC := hC.ry hM hF1; replace hSb := (hF1.own S hSo).trans hSb; clear hF1; simp only [List.setIfInBounds_toArray, List.set_cons_succ, List.set_cons_zero]
    refine p3_C (ab := ab) (off := off) (cap := cap) (zs := zs) _ _ _ _ _ (by rfl) hl0 (by rfl) fun w1 hF1 => ?_; replace hC := hC.ry hM hF1; replace hSb := (hF1.own S hSo).trans hSb; clear hF1; simp only [List.setIfInBounds_toArray, List.set_cons_succ, List.set_cons_zero]
    refine p0_C _ _ _ _ _ _ (by rfl) (by rfl) fun w1 hF1 => ?_; replace hC := hC.ry hM hF1; replace hSb := (hF1.own S hSo).trans hSb; clear hF1; simp only [List.setIfInBounds_toArray, List.set_cons_succ, List.set_cons_zero]
    refine p4_C _ _ _ _ _ x hx (by rfl) hl0 (by rfl) hM hC fun w1 hF1 => ?_; replace hC := hC.ry hM hF1; replace hSb := (hF1.own S hSo).trans hSb; clear hF1; simp only [List.setIfInBounds_toArray, List.set_cons_succ, List.set_cons_zero]
    refine p5_C (m := m) (i := i) _ _ _ _ _ S him (by rfl) (by rfl) (by rfl) fun w1 hF1 => ?_; replace hC := hC.ry hM hF1; replace hSb := (hF1.own S hSo).trans hSb; clear hF1; simp only [List.setIfInBounds_toArray, List.set_cons_succ, List.set_cons_zero]
    exact p6_C (i := i) (m := m) (Mb := Mb) (aB := aB) (cB := cB) (mB := mB) (ab := ab) (off := off) (cap := cap) (zs := zs) _ _ _ _ _ S (List.replicate m 0) x (by rfl) (by rfl) (by rfl) (by simpa using him) hM hSo hSb hS hSM hW hC fun w2 hC2 hb2 => last w2 _ hC2 hb2 (by rfl) (by rfl) (by rfl) (by rfl)
  · refine p2_C _ _ _ _ _ (by rfl) (by rfl) hM hC fun w1 hF1 => ?_; replace hC := hC.ry hM hF1; replace hSb := (hF1.own S hSo).trans hSb; clear hF1; simp only [List.setIfInBounds_toArray, List.set_cons_succ, List.set_cons_zero]
    refine p1_C _ _ _ _ _ (by rfl) (by rfl) hM hC fun w1 hF1 => ?_; replace hC := hC.ry hM hF1; replace hSb := (hF1.own S hSo).trans hSb; clear hF1; simp only [List.setIfInBounds_toArray, List.set_cons_succ, List.set_cons_zero]
    refine p3_C (ab := ab) (off := off) (cap := cap) (zs := zs) _ _ _ _ _ (by rfl) hl0 (by rfl) fun w1 hF1 => ?_; replace hC := hC.ry hM hF1; replace hSb := (hF1.own S hSo).trans hSb; clear hF1; simp only [List.setIfInBounds_toArray, List.set_cons_succ, List.set_cons_zero]
    refine p4_C _ _ _ _ _ x hx (by rfl) hl0 (by rfl) hM hC fun w1 hF1 => ?_; replace hC := hC.ry hM hF1; replace hSb := (hF1.own S hSo).trans hSb; clear hF1; simp only [List.setIfInBounds_toArray, List.set_cons_succ, List.set_cons_zero]
    refine p0_C _ _ _ _ _ _ (by rfl) (by rfl) fun w1 hF1 => ?_; replace hC := hC.ry hM hF1; replace hSb := (hF1.own S hSo).trans hSb; clear hF1; simp only [List.setIfInBounds_toArray, List.set_cons_succ, List.set_cons_zero]
    refine p5_C (m := m) (i := i) _ _ _ _ _ S him (by rfl) (by rfl) (by rfl) fun w1 hF1 => ?_; replace hC := hC.ry hM hF1; replace hSb := (hF1.own S hSo).trans hSb; clear hF1; simp only [List.setIfInBounds_toArray, List.set_cons_succ, List.set_cons_zero]
    exact p6_C (i := i) (m := m) (Mb := Mb) (aB := aB) (cB := cB) (mB := mB) (ab := ab) (off := off) (cap := cap) (zs := zs) _ _ _ _ _ S (List.replicate m 0) x (by rfl) (by rfl) (by rfl) (by simpa using him) hM hSo hSb hS hSM hW hC fun w2 hC2 hb2 => last w2 _ hC2 hb2 (by rfl) (by rfl) (by rfl) (by rfl)
  · refine p2_C _ _ _ _ _ (by rfl) (by rfl) hM hC fun w1 hF1 => ?_; replace hC := hC.ry hM hF1; replace hSb := (hF1.own S hSo).trans hSb; clear hF1; simp only [List.setIfInBounds_toArray, List.set_cons_succ, List.set_cons_zero]
    refine p3_C (ab := ab) (off := off) (cap := cap) (zs := zs) _ _ _ _ _ (by rfl) hl0 (by rfl) fun w1 hF1 => ?_; replace hC := hC.ry hM hF1; replace hSb := (hF1.own S hSo).trans hSb; clear hF1; simp only [List.setIfInBounds_toArray, List.set_cons_succ, List.set_cons_zero]
    refine p0_C _ _ _ _ _ _ (by rfl) (by rfl) fun w1 hF1 => ?_; replace hC := hC.ry hM hF1; replace hSb := (hF1.own S hSo).trans hSb; clear hF1; simp only [List.setIfInBounds_toArray, List.set_cons_succ, List.set_cons_zero]
    refine p1_C _ _ _ _ _ (by rfl) (by rfl) hM hC fun w1 hF1 => ?_; replace hC := hC.ry hM hF1; replace hSb := (hF1.own S hSo).trans hSb; clear hF1; simp only [List.setIfInBounds_toArray, List.set_cons_succ, List.set_cons_zero]
    refine p4_C _ _ _ _ _ x hx (by rfl) hl0 (by rfl) hM hC fun w1 hF1 => ?_; replace hC := hC.ry hM hF1; replace hSb := (hF1.own S hSo).trans hSb; clear hF1; simp only [List.setIfInBounds_toArray, List.set_cons_succ, List.set_cons_zero]
    refine p5_C (m := m) (i := i) _ _ _ _ _ S him (by rfl) (by rfl) (by rfl) fun w1 hF1 => ?_; replace hC := hC.ry hM hF1; replace hSb := (hF1.own S hSo).trans hSb; clear hF1; simp only [List.setIfInBounds_toArray, List.set_cons_succ, List.set_cons_zero]
    exact p6_C (i := i) (m := m) (Mb := Mb) (aB := aB) (cB := cB) (mB := mB) (ab := ab) (off := off) (cap := cap) (zs := zs) _ _ _ _ _ S (List.replicate m 0) x (by rfl) (by rfl) (by rfl) (by simpa using him) hM hSo hSb hS hSM hW hC fun w2 hC2 hb2 => last w2 _ hC2 hb2 (by rfl) (by rfl) (by rfl) (by rfl)
  · refine p2_C _ _ _ _ _ (by rfl) (by rfl) hM hC fun w1 hF1 => ?_; replace hC := hC.ry hM hF1; replace hSb := (hF1.own S hSo).trans hSb; clear hF1; simp only [List.setIfInBounds_toArray, List.set_cons_succ, List.set_cons_zero]
    refine p3_C (ab := ab) (off := off) (cap := cap) (zs := zs) _ _ _ _ _ (by rfl) hl0 (by rfl) fun w1 hF1 => ?_; replace hC := hC.ry hM hF1; replace hSb := (hF1.own S hSo).trans hSb; clear hF1; simp only [List.setIfInBounds_toArray, List.set_cons_succ, List.set_cons_zero]
    refine p0_C _ _ _ _ _ _ (by rfl) (by rfl) fun w1 hF1 => ?_; replace hC := hC.ry hM hF1; replace hSb := (hF1.own S hSo).trans hSb; clear hF1; simp only [List.setIfInBounds_toArray, List.set_cons_succ, List.set_cons_zero]
    refine p4_C _ _ _ _ _ x hx (by rfl) hl0 (by rfl) hM hC fun w1 hF1 => ?_; replace hC := hC.ry hM hF1; replace hSb := (hF1.own S hSo).trans hSb; clear hF1; simp only [List.setIfInBounds_toArray, List.set_cons_succ, List.set_cons_zero]
    refine p1_C _ _ _ _ _ (by rfl) (by rfl) hM hC fun w1 hF1 => ?_; replace hC := hC.ry hM hF1; replace hSb := (hF1.own S hSo).trans hSb; clear hF1; simp only [List.setIfInBounds_toArray, List.set_cons_succ, List.set_cons_zero]
    refine p5_C (m := m) (i := i) _ _ _ _ _ S him (by rfl) (by rfl) (by rfl) fun w1 hF1 => ?_; replace hC := hC.ry hM hF1; replace hSb := (hF1.own S hSo).trans hSb; clear hF1; simp only [List.setIfInBounds_toArray, List.set_cons_succ, List.set_cons_zero]
    exact p6_C (i := i) (m := m) (Mb := Mb) (aB := aB) (cB := cB) (mB := mB) (ab := ab) (off := off) (cap := cap) (zs := zs) _ _ _ _ _ S (List.replicate m 0) x (by rfl) (by rfl) (by rfl) (by simpa using him) hM hSo hSb hS hSM hW hC fun w2 hC2 hb2 => last w2 _ hC2 hb2 (by rfl) (by rfl) (by rfl) (by rfl)
  · refine p2_C _ _ _ _ _ (by rfl) (by rfl) hM hC fun w1 hF1 => ?_; replace hC := hC.ry hM hF1; replace hSb := (hF1.own S hSo).trans hSb; clear hF1; simp only [List.setIfInBounds_toArray, List.set_cons_succ, List.set_cons_zero]
    refine p3_C (ab := ab) (off := off) (cap := cap) (zs := zs) _ _ _ _ _ (by rfl) hl0 (by rfl) fun w1 hF1 => ?_; replace hC := hC.ry hM hF1; replace hSb := (hF1.own S hSo).trans hSb; clear hF1; simp only [List.setIfInBounds_toArray, List.set_cons_succ, List.set_cons_zero]
    refine p1_C _ _ _ _ _ (by rfl) (by rfl) hM hC fun w1 hF1 => ?_; replace hC := hC.ry hM hF1; replace hSb := (hF1.own S hSo).trans hSb; clear hF1; simp only [List.setIfInBounds_toArray, List.set_cons_succ, List.set_cons_zero]
    refine p0_C _ _ _ _ _ _ (by rfl) (by rfl) fun w1 hF1 => ?_; replace hC := hC.ry hM hF1; replace hSb := (hF1.own S hSo).trans hSb; clear hF1; simp only [List.setIfInBounds_toArray, List.set_cons_succ, List.set_cons_zero]
    refine p4_C _ _ _ _ _ x hx (by rfl) hl0 (by rfl) hM hC fun w1 hF1 => ?_; replace hC := hC.ry hM hF1; replace hSb := (hF1.own S hSo).trans hSb; clear hF1; simp only [List.setIfInBounds_toArray, List.set_cons_succ, List.set_cons_zero]
    refine p5_C (m := m) (i := i) _ _ _ _ _ S him (by rfl) (by rfl) (by rfl) fun w1 hF1 => ?_; replace hC := hC.ry hM hF1; replace hSb := (hF1.own S hSo).trans hSb; clear hF1; simp only [List.setIfInBounds_toArray, List.set_cons_succ, List.set_cons_zero]
    exact p6_C (i := i) (m := m) (Mb := Mb) (aB := aB) (cB := cB) (mB := mB) (ab := ab) (off := off) (cap := cap) (zs := zs) _ _ _ _ _ S (List.replicate m 0) x (by rfl) (by rfl) (by rfl) (by simpa using him) hM hSo hSb hS hSM hW hC fun w2 hC2 hb2 => last w2 _ hC2 hb2 (by rfl) (by rfl) (by rfl) (by rfl)
  · refine p2_C _ _ _ _ _ (by rfl) (by rfl) hM hC fun w1 hF1 => ?_; replace hC := hC.ry hM hF1; replace hSb := (hF1.own S hSo).trans hSb; clear hF1; simp only [List.setIfInBounds_toArray, List.set_cons_succ, List.set_cons_zero]
    refine p3_C (ab := ab) (off := off) (cap := cap) (zs := zs) _ _ _ _ _ (by rfl) hl0 (by rfl) fun w1 hF1 => ?_; replace hC := hC.ry hM hF1; replace hSb := (hF1.own S hSo).trans hSb; clear hF1; simp only [List.setIfInBounds_toArray, List.set_cons_succ, List.set_cons_zero]
    refine p1_C _ _ _ _ _ (by rfl) (by rfl) hM hC fun w1 hF1 => ?_; replace hC := hC.ry hM hF1; replace hSb := (hF1.own S hSo).trans hSb; clear hF1; simp only [List.setIfInBounds_toArray, List.set_cons_succ, List.set_cons_zero]
    refine p4_C _ _ _ _ _ x hx (by rfl) hl0 (by rfl) hM hC fun w1 hF1 => ?_; replace hC := hC.ry hM hF1; replace hSb := (hF1.own S hSo).trans hSb; clear hF1; simp only [List.setIfInBounds_toArray, List.set_cons_succ, List.set_cons_zero]
    refine p0_C _ _ _ _ _ _ (by rfl) (by rfl) fun w1 hF1 => ?_; replace hC := hC.ry hM hF1; replace hSb := (hF1.own S hSo).trans hSb; clear hF1; simp only [List.setIfInBounds_toArray, List.set_cons_succ, List.set_cons_zero]
    refine p5_C (m := m) (i := i) _ _ _ _ _ S him (by rfl) (by rfl) (by rfl) fun w1 hF1 => ?_; replace hC := hC.ry hM hF1; replace hSb := (hF1.own S hSo).trans hSb; clear hF1; simp only [List.setIfInBounds_toArray, List.set_cons_succ, List.set_cons_zero]
    exact p6_C (i := i) (m := m) (Mb := Mb) (aB := aB) (cB := cB) (mB := mB) (ab := ab) (off := off) (cap := cap) (zs := zs) _ _ _ _ _ S (List.replicate m 0) x (by rfl) (by rfl) (by rfl) (by simpa using him) hM hSo hSb hS hSM hW hC fun w2 hC2 hb2 => last w2 _ hC2 hb2 (by rfl) (by rfl) (by rfl) (by rfl)
  · refine p2_C _ _ _ _ _ (by rfl) (by rfl) hM hC fun w1 hF1 => ?_; replace hC := hC.ry hM hF1; replace hSb := (hF1.own S hSo).trans hSb; clear hF1; simp only [List.setIfInBounds_toArray, List.set_cons_succ, List.set_cons_zero]
    refine p3_C (ab := ab) (off := off) (cap := cap) (zs := zs) _ _ _ _ _ (by rfl) hl0 (by rfl) fun w1 hF1 => ?_; replace hC := hC.ry hM hF1; replace hSb := (hF1.own S hSo).trans hSb; clear hF1; simp only [List.setIfInBounds_toArray, List.set_cons_succ, List.set_cons_zero]
    refine p4_C _ _ _ _ _ x hx (by rfl) hl0 (by rfl) hM hC fun w1 hF1 => ?_; replace hC := hC.ry hM hF1; replace hSb := (hF1.own S hSo).trans hSb; clear hF1; simp only [List.setIfInBounds_toArray, List.set_cons_succ, List.set_cons_zero]
    refine p0_C _ _ _ _ _ _ (by rfl) (by rfl) fun w1 hF1 => ?_; replace hC := hC.ry hM hF1; replace hSb := (hF1.own S hSo).trans hSb; clear hF1; simp only [List.setIfInBounds_toArray, List.set_cons_succ, List.set_cons_zero]
    refine p1_C _ _ _ _ _ (by rfl) (by rfl) hM hC fun w1 hF1 => ?_; replace hC := hC.ry hM hF1; replace hSb := (hF1.own S hSo).trans hSb; clear hF1; simp only [List.setIfInBounds_toArray, List.set_cons_succ, List.set_cons_zero]
    refine p5_C (m := m) (i := i) _ _ _ _ _ S him (by rfl) (by rfl) (by rfl) fun w1 hF1 => ?_; replace hC := hC.ry hM hF1; replace hSb := (hF1.own S hSo).trans hSb; clear hF1; simp only [List.setIfInBounds_toArray, List.set_cons_succ, List.set_cons_zero]
    exact p6_C (i := i) (m := m) (Mb := Mb) (aB := aB) (cB := cB) (mB := mB) (ab := ab) (off := off) (cap := cap) (zs := zs) _ _ _ _ _ S (List.replicate m 0) x (by rfl) (by rfl) (by rfl) (by simpa using him) hM hSo hSb hS hSM hW hC fun w2 hC2 hb2 => last w2 _ hC2 hb2 (by rfl) (by rfl) (by rfl) (by rfl)
  · refine p2_C _ _ _ _ _ (by rfl) (by rfl) hM hC fun w1 hF1 => ?_; replace hC := hC.ry hM hF1; replace hSb := (hF1.own S hSo).trans hSb; clear hF1; simp only [List.setIfInBounds_toArray, List.set_cons_succ, List.set_cons_zero]
    refine p3_C (ab := ab) (off := off) (cap := cap) (zs := zs) _ _ _ _ _ (by rfl) hl0 (by rfl) fun w1 hF1 => ?_; replace hC := hC.ry hM hF1; replace hSb := (hF1.own S hSo).trans hSb; clear hF1; simp only [List.setIfInBounds_toArray, List.set_cons_succ, List.set_cons_zero]
    refine p4_C _ _ _ _ _ x hx (by rfl) hl0 (by rfl) hM hC fun w1 hF1 => ?_; replace hC := hC.ry hM hF1; replace hSb := (hF1.own S hSo).trans hSb; clear hF1; simp only [List.setIfInBounds_toArray, List.set_cons_succ, List.set_cons_zero]
    refine p1_C _ _ _ _ _ (by rfl) (by rfl) hM hC fun w1 hF1 => ?_; replace hC := hC.ry hM hF1; replace hSb := (hF1.own S hSo).trans hSb; clear hF1; simp only [List.setIfInBounds_toArray, List.set_cons_succ, List.set_cons_zero]
    refine p0_C _ _ _ _ _ _ (by rfl) (by rfl) fun w1 hF1 => ?_; replace hC := hC.ry hM hF1; replace hSb := (hF1.own S hSo).trans hSb; clear hF1; simp only [List.setIfInBounds_toArray, List.set_cons_succ, List.set_cons_zero]
    refine p5_C (m := m) (i := i) _ _ _ _ _ S him (by rfl) (by rfl) (by rfl) fun w1 hF1 => ?_; replace hC := hC.ry hM hF1; replace hSb := (hF1.own S hSo).trans hSb; clear hF1; simp only [List.setIfInBounds_toArray, List.set_cons_succ, List.set_cons_zero]
    exact p6_C (i := i) (m := m) (Mb := Mb) (aB := aB) (cB := cB) (mB := mB) (ab := ab) (off := off) (cap := cap) (zs := zs) _ _ _ _ _ S (List.replicate m 0) x (by rfl) (by rfl) (by rfl) (by simpa using him) hM hSo hSb hS hSM hW hC fun w2 hC2 hb2 => last w2 _ hC2 hb2 (by rfl) (by rfl) (by rfl) (by rfl)

theorem madeC (m : Nat) : madeCells #[Value.int .i64 0] m = ((List.replicate m (0 : Int)).map (Value.int .i64)).toArray := by
  have e : (madeCells (Value.cells (.int .i64 0)) m).toList = List.replicate m (.int .i64 0) := toList_madeCells_one _ _
  rw [List.map_replicate, ← e]
  simp [Value.cells]

set_option maxRecDepth 100000 in
set_option maxHeartbeats 8000000 in
/-- A WORKER, FROM ITS BIRTH TO ITS SEND -/
theorem work_C (HC : Closed Try.prog (fun f => LB f = true) LB) (hLf : LB 67 = true) (w0 : World) (x : Int) (hC : CF LB Low Wg Ch aB cB mB Mb ab off cap m i zs w0) (hW : Wg < Low) (hg : good zs) (hl : 1 ≤ zs.length ∧ zs.length ≤ 10) (hx : zs[0]?.getD 0 = x) (him : i < m) (hm : m ≤ 5) (hO : ∀ b, own b ↔ b = Mb) :
    GsC Low Wg Ch (tf (zs.drop 1) ((List.replicate m 0).set i x)) own (born Try.prog (callC Wg aB cB mB Mb)) w0 := by
  have hF := Ry.refl SB.tr (S := SB wgl.tWg Low Wg Ch) own w0
  have hM : own Mb := (hO _).2 rfl
  obtain ⟨i0, hi, hz0, hz1, hz2⟩ := info_parts Try.infoInt
  have hmk := fun w => run_make (P := Try.prog) w 22 3 i0 (.int .i64 0) Try.underlying22 hi hz0 .i64 .i64 m m (by omega) (by omega) (by rw [hz2]; omega) (by omega)
  have hme := fun w es => events_make (P := Try.prog) w 22 3 i0 (.int .i64 0) Try.underlying22 hi hz0 .i64 .i64 m m (by omega) (by omega) (by rw [hz2]; omega) (by omega) (by rw [hz2]; simp; omega) es
  rw [hz1, Nat.mul_one, Int.toNat_natCast] at hmk
  simp only [Value.cells, madeC] at hmk
  clear hi hz0 hz1 hz2
  refine GoesO.any rfl (fun w h₁ => ?_)
  replace hF := hF.trans SB.tr h₁
  clear h₁
  rw [born_C]
  simp only [goes_go]
  refine ⟨DL.refl _ _ _, ?_⟩
  rw [more_same rfl]
  have eb : bodyC = .seq (.region 0 (match Try.f65.body.getD .skip with | .seq (.region _ ops _) _ => ops | _ => #[]) false) (.seq (.region 1 (match Try.f65.body.getD .skip with | .seq _ (.seq (.region _ ops _) _) => ops | _ => #[]) false) (.seq regC2 regC3)) := rfl
  rw [eb]
  refine GoesO.any rfl (fun w h₁ => ?_)
  replace hF := hF.trans SB.tr h₁
  clear h₁
  rw [stepG_seq]
  simp only [goes_go]
  refine ⟨DL.refl _ _ _, ?_⟩
  rw [more_same rfl]
  simp only [Try.f65, Option.getD_some]
  refine GoesO.any rfl (fun w h₁ => ?_)
  replace hF := hF.trans SB.tr h₁
  clear h₁
  rw [stepG_region]
  simp only [goes_go, List.size_toArray, List.length_cons, List.length_nil, Nat.reduceAdd, Nat.zero_add, List.range, List.range.loop]
  refine ⟨DL.refl _ _ _, ?_⟩
  rw [more_same rfl]
  refine GoesO.any rfl (fun w h₁ => ?_)
  replace hF := hF.trans SB.tr h₁
  clear h₁
  rw [stepG_defer rfl rfl (by decide) rfl]
  simp only [goes_go]
  refine ⟨DL.refl _ _ _, ?_⟩
  walk_nrm
  rw [more_same rfl]
  refine GoesO.any rfl (fun w h₁ => ?_)
  replace hF := hF.trans SB.tr h₁
  clear h₁
  rw [stepG_region_end]
  simp only [goes_go]
  refine ⟨DL.refl _ _ _, ?_⟩
  rw [more_same rfl]
  refine GoesO.any rfl (fun w h₁ => ?_)
  replace hF := hF.trans SB.tr h₁
  clear h₁
  rw [stepG_seq]
  simp only [goes_go]
  refine ⟨DL.refl _ _ _, ?_⟩
  rw [more_same rfl]
  refine GoesO.any rfl (fun w h₁ => ?_)
  replace hF := hF.trans SB.tr h₁
  clear h₁
  rw [stepG_region]
  simp only [goes_go, List.size_toArray, List.length_cons, List.length_nil, Nat.reduceAdd, Nat.zero_add, List.range, List.range.loop]
  refine ⟨DL.refl _ _ _, ?_⟩
  rw [more_same rfl]
  refine GoesO.any rfl (fun w h₁ => ?_)
  replace hF := hF.trans SB.tr h₁
  clear h₁
  refine goes_oper_k rfl rfl (by decide) (fun K hK => ?_)
  have hz0 := (hC.ry hM hF).m
  go_simp
  refine hK _ _ ⟨?_, ?_⟩
  · refine dl_look fun e he => ?_
    have hm := mem_listed he
    simp [go_sem, *] at hm
    subst hm
    exact ⟨_, rfl, .inr hC.sm⟩
  rw [more_same rfl]
  clear hK K hz0
  refine GoesO.any rfl (fun w h₁ => ?_)
  replace hF := hF.trans SB.tr h₁
  clear h₁
  refine goes_oper_k rfl rfl (by decide) (fun K hK => ?_)
  go_simp
  have hC1 := hC.ry hM hF
  refine hK _ _ ⟨?_, ?_⟩
  · refine dl_new fun e he => ?_
    have hm := mem_listed he
    simp [go_sem, *] at hm
  have hO1 : ∀ b, More own w (w.alloc (.cells (Array.replicate m (Value.int .i64 0)) 3)) b ↔ b = Mb ∨ b = w.heap.size := fun b => by
    simp only [More, hO, World.size_alloc]
    constructor
    · rintro (h | h)
      · exact .inl h
      · exact .inr (by omega)
    · rintro (h | h)
      · exact .inl h
      · exact .inr (by omega)
  have hC2 := hC1.new hW (.cells (Array.replicate m (Value.int .i64 0)) 3)
  have hb2 : (w.alloc (.cells (Array.replicate m (Value.int .i64 0)) 3)).heap[w.heap.size]? = some (.cells ((List.replicate m (0 : Int)).map (Value.int .i64)).toArray 3 (0, 0)) := by
    rw [heap_alloc_new]; simp
  have hSL : Low ≤ w.heap.size := hC1.low
  have hSM : w.heap.size ≠ Mb := by have := hC1.lo.2; omega
  generalize w.alloc (.cells (Array.replicate m (Value.int .i64 0)) 3) = w1 at hO1 hC2 hb2 ⊢
  generalize w.heap.size = S at hO1 hb2 hSL hSM ⊢
  generalize More own w w1 = own1 at hO1 ⊢
  clear hK K hF hC1 hmk hme hM hO hC
  have hM1 : own1 Mb := (hO1 _).2 (.inl rfl)
  have hF := Ry.refl SB.tr (S := SB wgl.tWg Low Wg Ch) own1 w1
  refine GoesO.any rfl (fun w h₁ => ?_)
  replace hF := hF.trans SB.tr h₁
  clear h₁
  refine goes_oper_k rfl rfl (by decide) (fun K hK => ?_)
  go_simp
  refine hK _ _ ⟨?_, ?_⟩
  · refine dl_look fun e he => ?_
    have hm := mem_listed he
    simp [go_sem, *] at hm
  rw [more_same rfl]
  clear hK K 
  refine GoesO.any rfl (fun w h₁ => ?_)
  replace hF := hF.trans SB.tr h₁
  clear h₁
  rw [stepG_region_end]
  simp only [goes_go]
  refine ⟨DL.refl _ _ _, ?_⟩
  rw [more_same rfl]
  refine GoesO.any rfl (fun w h₁ => ?_)
  replace hF := hF.trans SB.tr h₁
  clear h₁
  rw [stepG_seq]
  simp only [goes_go]
  refine ⟨DL.refl _ _ _, ?_⟩
  rw [more_same rfl]
  exact r2_C HC hLf _ _ S x (by rfl) (by rfl) (by rfl) (by rfl) (by rfl) (hC2.ry hM1 hF) hW hO1 hSL hSM ((hF.own S ((hO1 _).2 (.inr rfl))).trans hb2) hg hl hx him hm
end
end Go.Proofs.Ytacedadenbinmaa
namespace Go.Proofs.Ytacedadenbinmaa
open Go.Par Go.Conc Go.ConcN Go.RowKit Go.Conc.Lib Go.ConcR.Gen Go.ConcN.Gen
open Go.ConcR (KK wgBlock WgAt stA smA rd wr mk DC0 Payload)

noncomputable def bodyT : Code := Try.f40.body.getD .skip
noncomputable def LT : Code := match bodyT with | .seq _ (.seq _ (.seq _ (.seq _ (.seq (.seq _ (.block _ (.loop c))) _)))) => c | _ => .skip
noncomputable def RT : Code := match bodyT with | .seq _ (.seq _ (.seq _ (.seq _ (.seq _ r)))) => r | _ => .skip
noncomputable def opsW : Array Oper := match RT with | .seq (.region _ ops _) _ => ops | _ => #[]
noncomputable def tailW : Code := match RT with | .seq _ r => r | _ => .skip

/-- what the starter knows -/
structure BF (LB : FuncId → Bool) (Low Wg Ch aB cB mB ab off cap m : Nat) (zs : List Int) (w : World) : Prop where
  m : w.cell? ⟨mB, 0, none⟩ = some (.int .i64 m)
  a : w.cell? ⟨aB, 0, none⟩ = some (.slice (some ⟨ab, off, none⟩) zs.length cap)
  c : w.cell? ⟨cB, 0, none⟩ = some (.chan (some Ch))
  el : ∀ j, j < zs.length → w.cell? ⟨ab, off + j, none⟩ = some (.int .i64 (zs[j]?.getD 0))
  glob : Try.prog.globals.size ≤ Low
  low : Low ≤ w.heap.size
  sm : Sha Low Wg Ch mB
  sa : Sha Low Wg Ch aB
  sc : Sha Low Wg Ch cB
  sab : Sha Low Wg Ch ab
  pl : PlK LB Low Wg Ch ab off zs w

section
variable {LB : FuncId → Bool} {Low Wg Ch aB cB mB Mb ab off cap m i : Nat} {zs : List Int} {w0 w : World} {own : Nat → Prop}
theorem BF.keep (h : BF LB Low Wg Ch aB cB mB ab off cap m zs w0) (k' : ∀ b, Sha Low Wg Ch b → w.heap[b]? = w0.heap[b]?) (hz : w0.heap.size ≤ w.heap.size) : BF LB Low Wg Ch aB cB mB ab off cap m zs w := by
  have k : ∀ b o, w.heap[b]? = w0.heap[b]? → w.cell? ⟨b, o, none⟩ = w0.cell? ⟨b, o, none⟩ := fun b o e => by simp only [World.cell?, e]
  exact ⟨(k _ _ (k' _ h.sm)).trans h.m, (k _ _ (k' _ h.sa)).trans h.a, (k _ _ (k' _ h.sc)).trans h.c, fun j hj => (k _ _ (k' _ h.sab)).trans (h.el j hj), h.glob, Nat.le_trans h.low hz, h.sm, h.sa, h.sc, h.sab, h.pl.keep k' hz⟩
theorem BF.ry (h : BF LB Low Wg Ch aB cB mB ab off cap m zs w0) (hF : Ry (SB wgl.tWg Low Wg Ch) own w0 w) : BF LB Low Wg Ch aB cB mB ab off cap m zs w := h.keep hF.st.low hF.size
theorem BF.put (h : BF LB Low Wg Ch aB cB mB ab off cap m zs w) (p : Addr) (hp : ¬ Sha Low Wg Ch p.block) (v : Value) : BF LB Low Wg Ch aB cB mB ab off cap m zs (w.setCell p v) :=
  h.keep (fun b hb => Below.heap_setCell w p v b (fun e => hp (e ▸ hb))) (by simp [World.setCell])
theorem BF.new (h : BF LB Low Wg Ch aB cB mB ab off cap m zs w) (o : Obj) : BF LB Low Wg Ch aB cB mB ab off cap m zs (w.alloc o) :=
  h.keep (fun b hb => Below.heap_alloc _ _ _ (by have := hb.1; have := h.low; omega)) (by simp)
theorem BF.cf (h : BF LB Low Wg Ch aB cB mB ab off cap m zs w) (hl : WgLive wgl.tWg Wg w) (hi : w.cell? ⟨Mb, 0, none⟩ = some (.int .i64 i)) (hM : Low ≤ Mb ∧ Mb < w.heap.size) : CF LB Low Wg Ch aB cB mB Mb ab off cap m i zs w :=
  ⟨h.m, h.a, h.c, hi, h.el, h.glob, h.low, hl, h.sm, h.sa, h.sc, h.sab, h.pl, hM⟩
theorem live_put (h : WgLive wgl.tWg Wg w) (p : Addr) (hp : p.block ≠ Wg) (v : Value) : WgLive wgl.tWg Wg (w.setCell p v) := by
  obtain ⟨x, y, hl⟩ := h
  exact ⟨x, y, hl.of_block (Below.heap_setCell w p v Wg (Ne.symm hp))⟩
theorem live_new (h : WgLive wgl.tWg Wg w) (hW : Wg < w.heap.size) (o : Obj) : WgLive wgl.tWg Wg (w.alloc o) := by
  obtain ⟨x, y, hl⟩ := h
  exact ⟨x, y, hl.of_block (Below.heap_alloc _ _ _ hW)⟩

theorem size33 (T : Array Value) (h : T.size = 33) : ∃ v0 v1 v2 v3 v4 v5 v6 v7 v8 v9 v10 v11 v12 v13 v14 v15 v16 v17 v18 v19 v20 v21 v22 v23 v24 v25 v26 v27 v28 v29 v30 v31 v32 : Value, T = #[v0, v1, v2, v3, v4, v5, v6, v7, v8, v9, v10, v11, v12, v13, v14, v15, v16, v17, v18, v19, v20, v21, v22, v23, v24, v25, v26, v27, v28, v29, v30, v31, v32] := by
  obtain ⟨l⟩ := T
  simp only [List.size_toArray] at h
  match l, h with
  | v0 :: v1 :: v2 :: v3 :: v4 :: v5 :: v6 :: v7 :: v8 :: v9 :: v10 :: v11 :: v12 :: v13 :: v14 :: v15 :: v16 :: v17 :: v18 :: v19 :: v20 :: v21 :: v22 :: v23 :: v24 :: v25 :: v26 :: v27 :: v28 :: v29 :: v30 :: v31 :: v32 :: [], _ => exact ⟨v0, v1, v2, v3, v4, v5, v6, v7, v8, v9, v10, v11, v12, v13, v14, v15, v16, v17, v18, v19, v20, v21, v22, v23, v24, v25, v26, v27, v28, v29, v30, v31, v32, rfl⟩

section
variable {P : Program} {ty : TypeId} {R : World → World → Prop} {Cont Anch Anch' : Goroutine → World → Prop} {g : Goroutine}
theorem MW2.mono {vs : Nat} (h : ∀ g w, Anch g w → Anch' g w) (k : MW2 P ty Wg R Cont Anch vs g w) : MW2 P ty Wg R Cont Anch' vs g w :=
  ⟨k.1, fun v hv hw => ⟨(k.2 v hv hw).1, fun hne => let ⟨g', h1, m, h2⟩ := (k.2 v hv hw).2 hne; ⟨g', h1, m, goes_mono h h2⟩⟩⟩
theorem MW1.mono (h : ∀ g w, Anch g w → Anch' g w) (k : MW1 P ty Wg R Cont Anch g w) : MW1 P ty Wg R Cont Anch' g w :=
  ⟨k.1, fun v hv hw => let ⟨g', h1, h2, h3⟩ := k.2 v hv hw; ⟨g', h1, h2, fun hne => let ⟨m, h4⟩ := h3 hne; ⟨m, goes_mono (fun _ _ y => MW2.mono h y) h4⟩⟩⟩
theorem MWd.mono (h : ∀ g w, Anch g w → Anch' g w) (k : MWd P R Anch g w) : MWd P R Anch' g w :=
  ⟨k.1, let ⟨g', h1, m, h2⟩ := k.2; ⟨g', h1, m, goes_mono h h2⟩⟩
end

/-- what worker i sends -/
def valT (m : Nat) (zs : List Int) (i : Nat) : Value := tv (tf (zs.drop 1) ((List.replicate m 0).set i (zs[0]?.getD 0)))

section
variable (LB : FuncId → Bool) (Low Wg Ch aB cB mB rB ab off cap m : Nat) (zs : List Int) (cs : List Frame)
noncomputable def cW (T : Array Value) : Frame := (base 40).at ⟨T, []⟩ [.inRegion opsW [0], .code tailW]
/-- what is known of its slots behind the loop -/
structure TW (T : Array Value) : Prop where
  size : T.size = 33
  r : T[4]? = some (.pointer (some ⟨rB, 0, none⟩))
  c : T[5]? = some (.pointer (some ⟨cB, 0, none⟩))
/-- at the head of Wait's loop -/
def AnT (_ : Nat → Prop) (g : Goroutine) (w : World) : Prop := ∃ T : Array Value, TW cB rB T ∧ AnchM wgl (BF LB Low Wg Ch aB cB mB ab off cap m zs) Wg (cW T) cs g w
/-- back from Wait -/
def CoT (_ : Nat → Prop) (g : Goroutine) (w : World) : Prop := ∃ T : Array Value, TW cB rB T ∧ g = G ((base 40).at ⟨T, []⟩ [.inRegion opsW [], .code tailW]) cs ∧ BF LB Low Wg Ch aB cB mB ab off cap m zs w
/-- at the head of the loop that starts: j are started -/
def AnS (j : Nat) (g : Goroutine) : Prop :=
  ∃ T : Array Value, g = G ((base 40).at ⟨T, []⟩ [.code LT, .inLoop LT, .inBlock 0, .code RT]) cs ∧ TW cB rB T ∧ T[2]? = some (.pointer (some ⟨aB, 0, none⟩)) ∧ T[3]? = some (.pointer (some ⟨mB, 0, none⟩)) ∧ T[6]? = some (.pointer (some ⟨Wg, 0, none⟩)) ∧
    T[16]? = some (.int .i64 m) ∧ T[17]? = some (.int .i64 j)
end

section
variable {rB : Nat} {cs : List Frame}
theorem anT_run (own : Nat → Prop) (g : Goroutine) (w : World) (h : AnT LB Low Wg Ch aB cB mB rB ab off cap m zs cs own g w) : g.status = .running := by
  obtain ⟨T, _, T', rfl, _⟩ := h
  rfl

theorem rm_live {own : Nat → Prop} {w w₁ : World} (hF : BF LB Low Wg Ch aB cB mB ab off cap m zs w ∧ WgLive wgl.tWg Wg w) (hr : RM wgl.tWg Low Wg Ch own w w₁) : BF LB Low Wg Ch aB cB mB ab off cap m zs w₁ ∧ WgLive wgl.tWg Wg w₁ :=
  ⟨hF.1.ry hr, hr.st.live hF.2⟩
theorem not_sha_wg : ¬ Sha Low Wg Ch Wg := fun h => h.2.1 rfl

set_option maxRecDepth 100000 in
set_option maxHeartbeats 4000000 in
theorem anT_round (own : Nat → Prop) (g : Goroutine) (w : World) (h : AnT LB Low Wg Ch aB cB mB rB ab off cap m zs cs own g w) :
    ∃ n, Goes Try.prog true (RM wgl.tWg Low Wg Ch own) DC0 (MW1 Try.prog wgl.tWg Wg (RM wgl.tWg Low Wg Ch own) (CoT LB Low Wg Ch aB cB mB rB ab off cap m zs cs own) (AnT LB Low Wg Ch aB cB mB rB ab off cap m zs cs own)) n g w := by
  obtain ⟨T, hT, hA⟩ := h
  have := waitRoundM (L := wgl) (P := Try.prog) (Wg := Wg) (R := RM wgl.tWg Low Wg Ch own) (F := BF LB Low Wg Ch aB cB mB ab off cap m zs) (Cont := CoT LB Low Wg Ch aB cB mB rB ab off cap m zs cs own) (b₀ := base 40) (a₀ := ⟨T, []⟩) (ops₀ := opsW) (i₀ := 0) (rest₀ := []) (k₀ := [.code tailW]) (cs := cs) wgLib rm_live
    (fun w v h _ => h.put _ not_sha_wg v) (fun w v h _ => h.put _ not_sha_wg v) ⟨0, fun w hb hl => Goes.stop fun w₁ hr => ?_⟩ g w hA
  · exact ⟨40, goes_mono (fun _ _ y => MW1.mono (fun _ _ z => ⟨T, hT, z⟩) y) this⟩
  · refine ⟨T.setIfInBounds 23 (.tuple #[]), ⟨by simp [hT.size], ?_, ?_⟩, ?_, hb.ry hr⟩
    · rw [Array.getElem?_setIfInBounds_ne (by decide)]; exact hT.r
    · rw [Array.getElem?_setIfInBounds_ne (by decide)]; exact hT.c
    · simp only [opsW, RT, bodyT, Try.f40, Option.getD_some]
      rfl
end
end
end Go.Proofs.Ytacedadenbinmaa
namespace Go.Proofs.Ytacedadenbinmaa
open Go.Par Go.Conc Go.ConcN Go.RowKit Go.Conc.Lib Go.ConcR.Gen Go.ConcN.Gen
open Go.ConcR (KK wgBlock WgAt stA smA rd wr mk DC0 Payload)

@[local go_sem] theorem run_makeFunc' (P : Program) (fn : Fn) (first cap : Array Value) (w : World) : (Instr.makeFunc fn first cap).run P w = .ok (.func fn first cap) w := rfl
@[local go_sem] theorem events_makeFunc' (P : Program) (fn : Fn) (first cap : Array Value) (w : World) (es : Array Event) : (Instr.makeFunc fn first cap).events P w es = es := rfl

section
variable {LB : FuncId → Bool} {Low Wg Ch aB cB mB rB ab off cap m : Nat} {zs : List Int} {cs : List Frame}

theorem dc0_dl {RO own : Nat → Prop} (w w' : World) (es : Array Event) (h : DC0 w w' es) : w'.heap.size = w.heap.size ∧ DL RO own w w' es := by
  obtain ⟨rfl, rfl⟩ := h
  exact ⟨rfl, DL.refl _ _ _⟩

set_option maxRecDepth 100000 in
set_option maxHeartbeats 8000000 in
/-- all are started: into Wait -/
theorem fromHead0 (own : Nat → Prop) (g : Goroutine) (w0 : World) (hg : AnS Wg aB cB mB rB m cs m g) (hB : BF LB Low Wg Ch aB cB mB ab off cap m zs w0) (hl : WgLive wgl.tWg Wg w0) :
    GM Try.prog wgl.tWg Low Wg Ch (WaitSt Try.prog wgl.tWg Low Wg Ch (AnT LB Low Wg Ch aB cB mB rB ab off cap m zs cs)) own g w0 := by
  have hF := Ry.refl SB.tr (S := SB wgl.tWg Low Wg Ch) own w0
  obtain ⟨T, rfl, hT, h2, h3, h6, h16, h17⟩ := hg
  obtain ⟨v0, v1, v2, v3, v4, v5, v6, v7, v8, v9, v10, v11, v12, v13, v14, v15, v16, v17, v18, v19, v20, v21, v22, v23, v24, v25, v26, v27, v28, v29, v30, v31, v32, rfl⟩ := size33 T hT.size
  have h4 := hT.r
  have h5 := hT.c
  simp only [List.getElem?_toArray, List.getElem?_cons_succ, List.getElem?_cons_zero, Option.some.injEq] at h2 h3 h4 h5 h6 h16 h17
  subst h2 h3 h4 h5 h6 h16 h17
  clear hT
  have hnl : ¬ ((m : Int) < (m : Int)) := by omega
  have hA := fun (a₀ : Act) (ops₀ : Array Oper) (i₀ : Nat) (rest₀ : List Nat) (k₀ : List Item) => waitStartM (L := wgl) (P := Try.prog) (Wg := Wg) (R := RM wgl.tWg Low Wg Ch own) (F := BF LB Low Wg Ch aB cB mB ab off cap m zs) (b₀ := base 40) (a₀ := a₀) (ops₀ := ops₀) (i₀ := i₀) (rest₀ := rest₀) (k₀ := k₀) (cs := cs) wgLib rm_live
  simp only [GM, LT, RT, bodyT, body_wait, Try.f40, waitFn, Option.getD_some] at hA ⊢
  refine GoesO.any rfl (fun w h₁ => ?_)
  replace hF := hF.trans SB.tr h₁
  clear h₁
  rw [stepG_seq]
  simp only [goes_go]
  refine ⟨DL.refl _ _ _, ?_⟩
  rw [more_same rfl]
  refine GoesO.any rfl (fun w h₁ => ?_)
  replace hF := hF.trans SB.tr h₁
  clear h₁
  rw [stepG_region]
  simp only [goes_go, List.size_toArray, List.length_cons, List.length_nil, Nat.reduceAdd, Nat.zero_add, List.range, List.range.loop]
  refine ⟨DL.refl _ _ _, ?_⟩
  rw [more_same rfl]
  refine GoesO.any rfl (fun w h₁ => ?_)
  replace hF := hF.trans SB.tr h₁
  clear h₁
  refine goes_oper_k rfl rfl (by decide) (fun K hK => ?_)
  go_simp
  refine hK _ _ ⟨?_, ?_⟩
  · refine dl_look fun e he => ?_
    have hm := mem_listed he
    simp [go_sem, *] at hm
  rw [more_same rfl]
  clear hK K 
  refine GoesO.any rfl (fun w h₁ => ?_)
  replace hF := hF.trans SB.tr h₁
  clear h₁
  rw [stepG_region_end]
  simp only [goes_go]
  refine ⟨DL.refl _ _ _, ?_⟩
  rw [more_same rfl]
  refine GoesO.any rfl (fun w h₁ => ?_)
  replace hF := hF.trans SB.tr h₁
  clear h₁
  rw [stepG_seq]
  simp only [goes_go]
  refine ⟨DL.refl _ _ _, ?_⟩
  rw [more_same rfl]
  refine GoesO.any rfl (fun w h₁ => ?_)
  replace hF := hF.trans SB.tr h₁
  clear h₁
  rw [stepG_cond (t := false) rfl]
  simp only [goes_go, if_true, if_false, Bool.false_eq_true, ↓reduceIte]
  refine ⟨DL.refl _ _ _, ?_⟩
  rw [more_same rfl]
  refine GoesO.any rfl (fun w h₁ => ?_)
  replace hF := hF.trans SB.tr h₁
  clear h₁
  refine goes_exit rfl ?_
  refine ⟨DL.refl _ _ _, ?_⟩
  rw [more_same rfl]
  refine GoesO.any rfl (fun w h₁ => ?_)
  replace hF := hF.trans SB.tr h₁
  clear h₁
  rw [stepG_seq]
  simp only [goes_go]
  refine ⟨DL.refl _ _ _, ?_⟩
  rw [more_same rfl]
  refine GoesO.any rfl (fun w h₁ => ?_)
  replace hF := hF.trans SB.tr h₁
  clear h₁
  rw [stepG_region]
  simp only [goes_go, List.size_toArray, List.length_cons, List.length_nil, Nat.reduceAdd, Nat.zero_add, List.range, List.range.loop]
  refine ⟨DL.refl _ _ _, ?_⟩
  rw [more_same rfl]
  refine GoesO.any rfl (fun w h₁ => ?_)
  replace hF := hF.trans SB.tr h₁
  clear h₁
  refine goes_call rfl rfl (by decide) rfl Try.func68 (nm_wait wgl) rfl ⟨DL.refl _ _ _, ?_⟩
  walk_nrmf Try.f68
  rw [more_same rfl]
  refine ⟨_, GoesO.of_goes (fun _ _ h => h) (fun w w' es h => dc0_dl w w' es h) (fun g w y => MWd.mono (fun _ _ z => ⟨_, ?_, z⟩) y) (hA _ _ _ _ _ _ ⟨hB.ry hF, hF.st.live hl⟩)⟩
  exact ⟨rfl, rfl, rfl⟩

/-- this iteration's variable and what else is known -/
structure BM (LB : FuncId → Bool) (Low Wg Ch aB cB mB ab off cap m : Nat) (zs : List Int) (Mb j : Nat) (w : World) : Prop where
  b : BF LB Low Wg Ch aB cB mB ab off cap m zs w
  i : w.cell? ⟨Mb, 0, none⟩ = some (.int .i64 j)
  lo : Low ≤ Mb ∧ Mb < w.heap.size
theorem BM.ry {own : Nat → Prop} {Mb j : Nat} {w w₁ : World} (h : BM LB Low Wg Ch aB cB mB ab off cap m zs Mb j w) (hM : own Mb) (hF : Ry (SB wgl.tWg Low Wg Ch) own w w₁) : BM LB Low Wg Ch aB cB mB ab off cap m zs Mb j w₁ :=
  ⟨h.b.ry hF, (show w₁.cell? ⟨Mb, 0, none⟩ = w.cell? ⟨Mb, 0, none⟩ by simp only [World.cell?, hF.own _ hM]).trans h.i, h.lo.1, Nat.lt_of_lt_of_le h.lo.2 hF.size⟩
theorem BM.wg {Mb j : Nat} {w : World} (hW : Wg < Low) (h : BM LB Low Wg Ch aB cB mB ab off cap m zs Mb j w) (v : Value) : BM LB Low Wg Ch aB cB mB ab off cap m zs Mb j (w.setCell (stA Wg) v) :=
  ⟨h.b.put _ not_sha_wg v, (show (w.setCell (stA Wg) v).cell? ⟨Mb, 0, none⟩ = w.cell? ⟨Mb, 0, none⟩ by
    have : (w.setCell (stA Wg) v).heap[Mb]? = w.heap[Mb]? := Below.heap_setCell w _ v Mb (fun e => by have := h.lo.1; have e' : Mb = Wg := e; omega)
    simp only [World.cell?, this]).trans h.i, h.lo.1, by simpa [World.setCell] using h.lo.2⟩

set_option maxRecDepth 100000 in
set_option maxHeartbeats 16000000 in
/-- THE LOOP THAT STARTS: j are started, r to start -/
theorem fromHead (HC : Closed Try.prog (fun f => LB f = true) LB) (hLf : LB 67 = true) (hW : Wg < Low) (hm : m ≤ 5) (hg : good zs) (hz : 1 ≤ zs.length ∧ zs.length ≤ 10) : ∀ (r j : Nat), j + r = m → ∀ (own : Nat → Prop) (g : Goroutine) (w0 : World), (∀ b, ¬ own b) → AnS Wg aB cB mB rB m cs j g → BF LB Low Wg Ch aB cB mB ab off cap m zs w0 → WgLive wgl.tWg Wg w0 →
    Sp Try.prog wgl.tWg Low Wg Ch m (.tuple #[]) (valT m zs) (AnT LB Low Wg Ch aB cB mB rB ab off cap m zs cs) r own g w0 := by
  intro r
  induction r with
  | zero =>
    intro j hj own g w0 _ hA hB hl
    obtain rfl : j = m := by omega
    exact fromHead0 own g w0 hA hB hl
  | succ r ih =>
    intro j hj own g w0 hno hAn hB hl
    have hF := Ry.refl SB.tr (S := SB wgl.tWg Low Wg Ch) own w0
    obtain ⟨T, rfl, hT, h2, h3, h6, h16, h17⟩ := hAn
    obtain ⟨v0, v1, v2, v3, v4, v5, v6, v7, v8, v9, v10, v11, v12, v13, v14, v15, v16, v17, v18, v19, v20, v21, v22, v23, v24, v25, v26, v27, v28, v29, v30, v31, v32, rfl⟩ := size33 T hT.size
    have h4 := hT.r
    have h5 := hT.c
    simp only [List.getElem?_toArray, List.getElem?_cons_succ, List.getElem?_cons_zero, Option.some.injEq] at h2 h3 h4 h5 h6 h16 h17
    subst h2 h3 h4 h5 h6 h16 h17
    clear hT
    have hlt : (j : Int) < (m : Int) := by omega
    have ej : m - (r + 1) = j := by omega
    have hwrap : IntKind.i64.wrap ((j : Int) + 1) = ((j + 1 : Nat) : Int) := by rw [IntKind.wrap_i64]; omega
    simp only [Sp, GM, ej, LT, bodyT, Try.f40, Option.getD_some] at ih ⊢
    refine GoesO.any rfl (fun w h₁ => ?_)
    replace hF := hF.trans SB.tr h₁
    clear h₁
    rw [stepG_seq]
    simp only [goes_go]
    refine ⟨DL.refl _ _ _, ?_⟩
    rw [more_same rfl]
    refine GoesO.any rfl (fun w h₁ => ?_)
    replace hF := hF.trans SB.tr h₁
    clear h₁
    rw [stepG_region]
    simp only [goes_go, List.size_toArray, List.length_cons, List.length_nil, Nat.reduceAdd, Nat.zero_add, List.range, List.range.loop]
    refine ⟨DL.refl _ _ _, ?_⟩
    rw [more_same rfl]
    refine GoesO.any rfl (fun w h₁ => ?_)
    replace hF := hF.trans SB.tr h₁
    clear h₁
    refine goes_oper_k rfl rfl (by decide) (fun K hK => ?_)
    go_simp
    refine hK _ _ ⟨?_, ?_⟩
    · refine dl_look fun e he => ?_
      have hm := mem_listed he
      simp [go_sem, *] at hm
    rw [more_same rfl]
    clear hK K 
    refine GoesO.any rfl (fun w h₁ => ?_)
    replace hF := hF.trans SB.tr h₁
    clear h₁
    rw [stepG_region_end]
    simp only [goes_go]
    refine ⟨DL.refl _ _ _, ?_⟩
    rw [more_same rfl]
    refine GoesO.any rfl (fun w h₁ => ?_)
    replace hF := hF.trans SB.tr h₁
    clear h₁
    rw [stepG_seq]
    simp only [goes_go]
    refine ⟨DL.refl _ _ _, ?_⟩
    rw [more_same rfl]
    refine GoesO.any rfl (fun w h₁ => ?_)
    replace hF := hF.trans SB.tr h₁
    clear h₁
    rw [stepG_cond (t := true) rfl]
    simp only [goes_go, if_true, if_false, Bool.false_eq_true, ↓reduceIte]
    refine ⟨DL.refl _ _ _, ?_⟩
    rw [more_same rfl]
    refine GoesO.any rfl (fun w h₁ => ?_)
    replace hF := hF.trans SB.tr h₁
    clear h₁
    rw [stepG_skip]
    simp only [goes_go]
    refine ⟨DL.refl _ _ _, ?_⟩
    rw [more_same rfl]
    refine GoesO.any rfl (fun w h₁ => ?_)
    replace hF := hF.trans SB.tr h₁
    clear h₁
    rw [stepG_seq]
    simp only [goes_go]
    refine ⟨DL.refl _ _ _, ?_⟩
    rw [more_same rfl]
    refine GoesO.any rfl (fun w h₁ => ?_)
    replace hF := hF.trans SB.tr h₁
    clear h₁
    rw [stepG_block]
    simp only [goes_go]
    refine ⟨DL.refl _ _ _, ?_⟩
    rw [more_same rfl]
    refine GoesO.any rfl (fun w h₁ => ?_)
    replace hF := hF.trans SB.tr h₁
    clear h₁
    rw [stepG_seq]
    simp only [goes_go]
    refine ⟨DL.refl _ _ _, ?_⟩
    rw [more_same rfl]
    refine GoesO.any rfl (fun w h₁ => ?_)
    replace hF := hF.trans SB.tr h₁
    clear h₁
    rw [stepG_region]
    simp only [goes_go, List.size_toArray, List.length_cons, List.length_nil, Nat.reduceAdd, Nat.zero_add, List.range, List.range.loop]
    refine ⟨DL.refl _ _ _, ?_⟩
    rw [more_same rfl]
    refine GoesO.any rfl (fun w h₁ => ?_)
    replace hF := hF.trans SB.tr h₁
    clear h₁
    refine goes_oper_k rfl rfl (by decide) (fun K hK => ?_)
    go_simp
    refine hK _ _ ⟨?_, ?_⟩
    · refine dl_look fun e he => ?_
      have hm := mem_listed he
      simp [go_sem, *] at hm
    rw [more_same rfl]
    clear hK K 
    -- this iteration's variable
    refine GoesO.any rfl (fun w h₁ => ?_)
    replace hF := hF.trans SB.tr h₁
    clear h₁
    refine goes_oper_k rfl rfl (by decide) (fun K hK => ?_)
    go_simp
    refine hK _ _ ⟨?_, ?_⟩
    · refine dl_new fun e he => ?_
      have hm := mem_listed he
      simp [go_sem, *] at hm
    have hB1 := hB.ry hF
    have hl1 := hF.st.live hl
    have hO1 : ∀ b, More own w (w.alloc (.cells #[.int .i64 0] 3)) b ↔ b = w.heap.size := fun b => by
      simp only [More, World.size_alloc]
      exact ⟨fun h => h.elim (fun h => absurd h (hno b)) (fun h => by omega), fun h => .inr (by omega)⟩
    have hB2 := hB1.new (.cells #[.int .i64 0] 3)
    have hl2 := live_new hl1 (by have := hB1.low; omega) (.cells #[.int .i64 0] 3)
    have hb2 : (w.alloc (.cells #[.int .i64 0] 3)).heap[w.heap.size]? = some (.cells #[.int .i64 0] 3 (0, 0)) := heap_alloc_new _ _
    have hML : Low ≤ w.heap.size ∧ w.heap.size < (w.alloc (.cells #[.int .i64 0] 3)).heap.size := ⟨hB1.low, by simp⟩
    generalize w.alloc (.cells #[.int .i64 0] 3) = w1 at hO1 hB2 hl2 hb2 hML ⊢
    generalize w.heap.size = Mb at hO1 hb2 hML ⊢
    generalize More own w w1 = own1 at hO1 ⊢
    clear hK K hF hB hB1 hl hl1
    have hM1 : own1 Mb := (hO1 _).2 rfl
    have hF := Ry.refl SB.tr (S := SB wgl.tWg Low Wg Ch) own1 w1
    -- .. written
    refine GoesO.any rfl (fun w h₁ => ?_)
    replace hF := hF.trans SB.tr h₁
    clear h₁
    refine goes_oper_k rfl rfl (by decide) (fun K hK => ?_)
    have hb3 := (hF.own Mb hM1).trans hb2
    have hzc : w.cell? ⟨Mb, 0, none⟩ = some (.int .i64 0) := by simp [World.cell?, hb3]
    have hzf : w.frozen? ⟨Mb, 0, none⟩ = false := by simp [World.frozen?, hb3]
    have hB3 : BM LB Low Wg Ch aB cB mB ab off cap m zs Mb j (w.setCell ⟨Mb, 0, none⟩ (.int .i64 j)) :=
      ⟨(hB2.ry hF).put _ (fun h => by have := h.1; have e : (⟨Mb, 0, none⟩ : Addr).block = Mb := rfl; omega) _, by
        have hb4 := heap_setRow1 (w := w) (S := Mb) (ss := [0]) hb3 0 j
        simp [World.cell?, hb4], hML.1, by have := hF.size; simp [World.setCell]; omega⟩
    have hl3 := live_put (hF.st.live hl2) ⟨Mb, 0, none⟩ (by have := hML.1; show Mb ≠ Wg; omega) (.int .i64 j)
    go_simp
    refine hK _ _ ⟨?_, ?_⟩
    · refine dl_set hM1 fun e he => ?_
      have hm := mem_listed he
      simp [go_sem, *] at hm
      subst hm
      exact ⟨_, _, rfl, .inl hM1⟩
    rw [more_same (by simp [World.setCell])]
    generalize w.setCell ⟨Mb, 0, none⟩ (.int .i64 j) = w2 at hB3 hl3 ⊢
    clear hK K hzf hzc hb3 hF hB2 hb2 hl2 hML
    have hF := Ry.refl SB.tr (S := SB wgl.tWg Low Wg Ch) own1 w2
    refine GoesO.any rfl (fun w h₁ => ?_)
    replace hF := hF.trans SB.tr h₁
    clear h₁
    rw [stepG_region_end]
    simp only [goes_go]
    refine ⟨DL.refl _ _ _, ?_⟩
    rw [more_same rfl]
    refine GoesO.any rfl (fun w h₁ => ?_)
    replace hF := hF.trans SB.tr h₁
    clear h₁
    rw [stepG_seq]
    simp only [goes_go]
    refine ⟨DL.refl _ _ _, ?_⟩
    rw [more_same rfl]
    refine GoesO.any rfl (fun w h₁ => ?_)
    replace hF := hF.trans SB.tr h₁
    clear h₁
    rw [stepG_region]
    simp only [goes_go, List.size_toArray, List.length_cons, List.length_nil, Nat.reduceAdd, Nat.zero_add, List.range, List.range.loop]
    refine ⟨DL.refl _ _ _, ?_⟩
    rw [more_same rfl]
    -- Add
    have hA := fun (b₀ : Frame) (a₀ : Act) (ops₀ : Array Oper) (i₀ : Nat) (rest₀ : List Nat) (k₀ : List Item) (cs : List Frame) (Cont : Goroutine → World → Prop) => addPosM (L := wgl) (P := Try.prog) (Wg := Wg) (R := RM wgl.tWg Low Wg Ch own1) (F := BM LB Low Wg Ch aB cB mB ab off cap m zs Mb j) (Cont := Cont) (b₀ := b₀) (a₀ := a₀) (ops₀ := ops₀) (i₀ := i₀) (rest₀ := rest₀) (k₀ := k₀) (cs := cs) wgLib (fun a b c h k => RM.trans own1 a b c h k) (fun h hr => ⟨h.1.ry hM1 hr, hr.st.live h.2⟩) (fun w v h _ => h.wg hW v)
    simp only [body_add, addFn, Option.getD_some] at hA
    refine GoesO.any rfl (fun w h₁ => ?_)
    replace hF := hF.trans SB.tr h₁
    clear h₁
    refine goes_call rfl rfl (by decide) rfl Try.func64 (nm_add wgl) rfl ⟨DL.refl _ _ _, ?_⟩
    walk_nrmf Try.f64
    rw [more_same rfl]
    refine ⟨_, GoesO.of_goes (fun _ _ h => h) (fun w w' es h => dc0_dl w w' es h) (fun g w y => y) (hA _ _ _ _ _ _ _ _ ?_ _ ⟨hB3.ry hM1 hF, hF.st.live hl3⟩)⟩
    clear hA hF hB3 hl3
    intro w3 hB4 hl4
    refine ⟨0, Goes.stop fun w4 hr4 => ?_⟩
    replace hB4 := hB4.ry hM1 hr4
    replace hl4 := hr4.st.live hl4
    clear hr4
    walk_nrm
    have hF := Ry.refl SB.tr (S := SB wgl.tWg Low Wg Ch) own1 w4
    refine GoesO.any rfl (fun w h₁ => ?_)
    replace hF := hF.trans SB.tr h₁
    clear h₁
    rw [stepG_region_end]
    simp only [goes_go]
    refine ⟨DL.refl _ _ _, ?_⟩
    rw [more_same rfl]
    refine GoesO.any rfl (fun w h₁ => ?_)
    replace hF := hF.trans SB.tr h₁
    clear h₁
    rw [stepG_region]
    simp only [goes_go, List.size_toArray, List.length_cons, List.length_nil, Nat.reduceAdd, Nat.zero_add, List.range, List.range.loop]
    refine ⟨DL.refl _ _ _, ?_⟩
    rw [more_same rfl]
    refine GoesO.any rfl (fun w h₁ => ?_)
    replace hF := hF.trans SB.tr h₁
    clear h₁
    refine goes_oper_k rfl rfl (by decide) (fun K hK => ?_)
    go_simp
    refine hK _ _ ⟨?_, ?_⟩
    · refine dl_look fun e he => ?_
      have hm := mem_listed he
      simp [go_sem, *] at hm
    rw [more_same rfl]
    clear hK K 
    -- the go statement
    refine ⟨.leaf, GoesO.stop fun w5 hr5 => ?_⟩
    replace hF := hF.trans SB.tr hr5
    have hB5 := hB4.ry hM1 hF
    have hl5 := hF.st.live hl4
    refine ⟨rfl, ?_⟩
    rw [stepG_spawn (d := callC Wg aB cB mB Mb) (w' := w5) (f := .func 65) (c := #[.pointer (some ⟨Wg, 0, none⟩), .pointer (some ⟨mB, 0, none⟩), .pointer (some ⟨aB, 0, none⟩), .pointer (some ⟨Mb, 0, none⟩), .pointer (some ⟨cB, 0, none⟩)]) rfl rfl (by decide) (by simp [go_sem, callC, Deferred.ofValue]) rfl]
    generalize hL : listed _ _ _ _ _ = Lx
    have hLx : Lx = #[] := by
      rw [← hL]
      simp [listed, go_sem, seen, Deferred.ofValue]
      rfl
    subst hLx
    clear hL
    refine ⟨_, _, fun b => b = Mb, rfl, fun b hb => hb ▸ hM1, work_C HC hLf w5 _ (hB5.b.cf hl5 hB5.i hB5.lo) hW hg hz rfl (by omega) hm (fun b => Iff.rfl), ?_⟩
    -- on to the loop's head
    have hno' : ∀ b, ¬ (own1 b ∧ ¬ b = Mb) := fun b h => h.2 ((hO1 b).1 h.1)
    obtain ⟨own2, ho2⟩ : ∃ o : Nat → Prop, o = fun b => own1 b ∧ ¬ b = Mb := ⟨_, rfl⟩
    rw [← ho2]
    replace hno' : ∀ b, ¬ own2 b := by rw [ho2]; exact hno'
    clear ho2
    have hsp : ∀ g w, Sp Try.prog wgl.tWg Low Wg Ch m (.tuple #[]) (valT m zs) (AnT LB Low Wg Ch aB cB mB rB ab off cap m zs cs) r own2 g w ↔ ∃ t, GoesO Try.prog true (SB wgl.tWg Low Wg Ch) (DL (Sha Low Wg Ch)) (match r with
        | 0 => WaitSt Try.prog wgl.tWg Low Wg Ch (AnT LB Low Wg Ch aB cB mB rB ab off cap m zs cs)
        | r' + 1 => fun own g w => MKd Try.prog wgl.tWg Wg (RM wgl.tWg Low Wg Ch own) (GM Try.prog wgl.tWg Low Wg Ch (AtGo Try.prog wgl.tWg Low Wg Ch (.tuple #[]) (valT m zs) (m - (r' + 1)) (Sp Try.prog wgl.tWg Low Wg Ch m (.tuple #[]) (valT m zs) (AnT LB Low Wg Ch aB cB mB rB ab off cap m zs cs) r')) own) g w) t own2 g w := fun g w => by cases r <;> exact Iff.rfl
    refine (hsp _ _).2 ?_
    replace ih := fun g w h1 h2 h3 => (hsp g w).1 (ih (j + 1) (by omega) own2 g w hno' h1 h2 h3)
    clear hsp hF hM1 hO1
    walk_nrm
    have hF := Ry.refl SB.tr (S := SB wgl.tWg Low Wg Ch) own2 w5
    refine GoesO.any rfl (fun w h₁ => ?_)
    replace hF := hF.trans SB.tr h₁
    clear h₁
    rw [stepG_region_end]
    simp only [goes_go]
    refine ⟨DL.refl _ _ _, ?_⟩
    rw [more_same rfl]
    refine GoesO.any rfl (fun w h₁ => ?_)
    replace hF := hF.trans SB.tr h₁
    clear h₁
    rw [stepG_inBlock]
    simp only [goes_go]
    refine ⟨DL.refl _ _ _, ?_⟩
    rw [more_same rfl]
    refine GoesO.any rfl (fun w h₁ => ?_)
    replace hF := hF.trans SB.tr h₁
    clear h₁
    rw [stepG_region]
    simp only [goes_go, List.size_toArray, List.length_cons, List.length_nil, Nat.reduceAdd, Nat.zero_add, List.range, List.range.loop]
    refine ⟨DL.refl _ _ _, ?_⟩
    rw [more_same rfl]
    refine GoesO.any rfl (fun w h₁ => ?_)
    replace hF := hF.trans SB.tr h₁
    clear h₁
    refine goes_oper_k rfl rfl (by decide) (fun K hK => ?_)
    go_simp
    refine hK _ _ ⟨?_, ?_⟩
    · refine dl_look fun e he => ?_
      have hm := mem_listed he
      simp [go_sem, *] at hm
    rw [more_same rfl]
    clear hK K 
    refine GoesO.any rfl (fun w h₁ => ?_)
    replace hF := hF.trans SB.tr h₁
    clear h₁
    refine goes_oper_k rfl rfl (by decide) (fun K hK => ?_)
    go_simp
    refine hK _ _ ⟨?_, ?_⟩
    · refine dl_look fun e he => ?_
      have hm := mem_listed he
      simp [go_sem, *] at hm
    rw [more_same rfl]
    clear hK K 
    refine GoesO.any rfl (fun w h₁ => ?_)
    replace hF := hF.trans SB.tr h₁
    clear h₁
    rw [stepG_region_end]
    simp only [goes_go]
    refine ⟨DL.refl _ _ _, ?_⟩
    rw [more_same rfl]
    refine GoesO.any rfl (fun w h₁ => ?_)
    replace hF := hF.trans SB.tr h₁
    clear h₁
    rw [stepG_inLoop]
    simp only [goes_go]
    refine ⟨DL.refl _ _ _, ?_⟩
    rw [more_same rfl]
    exact ih _ _ ⟨_, rfl, ⟨rfl, rfl, rfl⟩, rfl, rfl, rfl, rfl, rfl⟩ (hB5.b.ry hF) (hF.st.live hl5)
end
end Go.Proofs.Ytacedadenbinmaa
