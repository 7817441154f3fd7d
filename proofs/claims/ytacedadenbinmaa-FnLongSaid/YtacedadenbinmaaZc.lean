/- Proved: the rest of the operations that are let by, as pairs of 'Sem's that do the same but for the blocks' numbers. Conditions: the operands are each other's. Proved: an operation that is let by, carried out with operands that are each other's, as a pair of 'Sem's that do the same but for the blocks' numbers. Conditions: the operation is let by ('okOp'). Proved: append and the calls, as pairs of 'Sem's that do the same but for the blocks' numbers. Conditions: the operation is let by ('okOp'). Proved: a step of a goroutine is followed by the step of a related one in a related world. Conditions: the code that it runs is let by. Proved: a step of a goroutine is followed by the step of a related one in a related world. Conditions: the code that it runs is let by; it does not stand at its last return. -/
import Derived.Test.YtacedadenbinmaaZb
import Derived.Conc.Own
import Derived.Conc.Listed
set_option linter.unusedVariables false
set_option linter.unusedSimpArgs false
set_option linter.unusedSectionVars false
namespace Go.Par

section
variable {P : Program} {L : FuncId → Prop} {ρ : Rn}

theorem okEq_under {t : TypeId} (hk : okEq P t = true) : ∃ d, P.underlying t = some d ∧ (d = .bool ∨ (∃ k, d = .int k) ∨ ∃ e, d = .slice e) := by
  simp only [okEq, Bool.and_eq_true] at hk
  have h1 := hk.1
  split at h1
  · exact ⟨_, by assumption, .inl rfl⟩
  · exact ⟨_, by assumption, .inr (.inl ⟨_, rfl⟩)⟩
  · exact ⟨_, by assumption, .inr (.inr ⟨_, rfl⟩)⟩
  · cases h1

theorem SR.guardNil {t : TypeId} (hk : okEq P t = true) : SR P L EqR ρ (Op.eqGuardIn Op.maxDepth t .nilIface .nilIface) (Op.eqGuardIn Op.maxDepth t .nilIface .nilIface) := by
  obtain ⟨d, hd, hcase⟩ := okEq_under hk
  unfold Op.maxDepth
  rw [show (10000 : Nat) = 9999 + 1 from rfl]
  refine .mbind (.underlying t) fun ρ' d' d'' _ h => ?_
  obtain ⟨rfl, h⟩ := h
  rw [hd] at h; cases h
  rcases hcase with rfl | ⟨k, rfl⟩ | ⟨e, rfl⟩ <;> exact .ret rfl

theorem runT_guardNil {t : TypeId} (hk : okEq P t = true) (w : World) (es : Array Event) : (Op.eqGuardIn Op.maxDepth t .nilIface .nilIface).runT P w es = (.ok false w, es) := by
  obtain ⟨d, hd, hcase⟩ := okEq_under hk
  unfold Op.maxDepth
  rw [show (10000 : Nat) = 9999 + 1 from rfl]
  show (Sem.bind (Go.underlying t) _).runT P w es = _
  rw [runT_under hd]
  rcases hcase with rfl | ⟨k, rfl⟩ | ⟨e, rfl⟩ <;> rfl
theorem guardPure {op : BinOp} (ho : op = .eql ∨ op = .neq) {t : TypeId} (hk : okEq P t = true) (x y : Operand) (a b : Value) (w : World) (es : Array Event) : (Go.eqGuard op t x y a b).runT P w es = (.ok () w, es) := by
  have hf : P.eqGuardType P.depth t = false := by
    obtain ⟨d, hd, hcase⟩ := okEq_under hk
    show Program.eqGuardType P (2 * (P.types.size + Made.depth) + 1 + 1) t = false
    simp only [Program.eqGuardType, hd]
    rcases hcase with rfl | ⟨k, rfl⟩ | ⟨e, rfl⟩ <;> rfl
  rcases ho with rfl | rfl <;>
  (cases a <;> first
    | rfl
    | (cases b <;> first
        | rfl
        | (cases x <;> cases y <;> first
            | rfl
            | (show (Sem.bind (Op.eqGuardIn Op.maxDepth t .nilIface .nilIface) _).runT P w es = _
               rw [runT_bind, runT_guardNil hk]
               rfl))
        | (show (if !(P.eqGuardType P.depth t) then Sem.pure () else _ : Sem Unit).runT P w es = _
           rw [hf]
           rfl)))
theorem SR.guardEq {op : BinOp} (ho : op = .eql ∨ op = .neq) {t : TypeId} (hk : okEq P t = true) (x y : Operand) {a a' b b' : Value} (_ha : VR L ρ a a') (_hb : VR L ρ b b') : SR P L EqR ρ (Go.eqGuard op t x y a b) (Go.eqGuard op t x y a' b') :=
  .cong (t := Sem.pure ()) (t' := Sem.pure ()) (guardPure ho hk x y a b) (guardPure ho hk x y a' b') (.pure rfl)

theorem SR.eqGuard {op : BinOp} {t : TypeId} (ht : okBin P op t = true) (x y : Operand) {a a' b b' : Value} (ha : VR L ρ a a') (hb : VR L ρ b b') : SR P L EqR ρ (Go.eqGuard op t x y a b) (Go.eqGuard op t x y a' b') := by
  by_cases he : op = .eql ∨ op = .neq
  · exact .guardEq he (by rcases he with rfl | rfl <;> exact ht) x y ha hb
  · cases op <;> first
      | exact absurd (.inl rfl) he
      | exact absurd (.inr rfl) he
      | exact .ret rfl

theorem SR.unary (op : UnOp) {x x' : Value} (h : VR L ρ x x') : SR P L (VR L) ρ (Op.unary op x) (Op.unary op x') := by
  cases op <;> cases h <;> first
    | exact .stuck _ _
    | exact .unsup (by simp) _
    | exact .ret (.bool _)
    | (simp only [Op.unary]; exact .intArith _ _ _ _)
    | (simp only [Op.unary]; exact .intBits _ _ _ _)

/-- A conversion between integers. -/
def okConv (P : Program) (s d : TypeId) : Bool :=
  (match P.underlying s with | some (.int _) => true | _ => false) && (match P.underlying d with | some (.int _) => true | _ => false)
theorem SR.convert {s d : TypeId} (ht : okConv P s d = true) {x x' : Value} (h : VR L ρ x x') : SR P L (VR L) ρ (Go.convert s d x) (Go.convert s d x') := by
  simp only [okConv, Bool.and_eq_true] at ht
  refine .mbind (.underlying s) fun ρ' a a' hle h1 => ?_
  obtain ⟨rfl, h1⟩ := h1
  refine .mbind (.underlying d) fun ρ'' b b' hle' h2 => ?_
  obtain ⟨rfl, h2⟩ := h2
  rw [h1, h2] at ht
  cases a <;> simp only [Bool.false_eq_true, false_and] at ht
  cases b <;> simp only [Bool.false_eq_true, and_false] at ht
  cases h <;> first | exact .ret (.int _ _) | exact .unsup (by simp) _

/-! ### rows -/
theorem AR.self {x : Array Value} (h : ∀ (i : Nat) (a : Value), x[i]? = some a → VR L ρ a a) : AR L ρ x x :=
  ⟨rfl, fun i a b ha hb => by rw [ha] at hb; cases hb; exact h i a ha⟩
theorem defaultR : VR L ρ (default : Value) (default : Value) := .bool _
theorem AR.spread {x : Array Value} (h : AR L ρ x x) (n : Nat) : AR L ρ ((Array.range n).map fun i => x[i % x.size]!) ((Array.range n).map fun i => x[i % x.size]!) := by
  refine .self fun i a ha => ?_
  simp only [Array.getElem?_map] at ha
  obtain ⟨j, _, rfl⟩ := Option.map_eq_some_iff.1 ha
  simp only [getElem!_def]
  cases e : x[j % x.size]? with
  | none => exact defaultR
  | some v => exact h.at_ _ _ _ e e

theorem foldl_cells {off : Nat} : ∀ {v v' : List Value} (i : Nat) {c c' : Array Value}, LR L ρ v v' → AR L ρ c c' →
    AR L ρ ((v.zipIdx i).foldl (fun cs (x : Value × Nat) => cs.setIfInBounds (off + x.2) x.1) c) ((v'.zipIdx i).foldl (fun cs (x : Value × Nat) => cs.setIfInBounds (off + x.2) x.1) c')
  | [], _, _, _, _, h, hc => by cases h; exact hc
  | v :: vs, _, i, _, _, h, hc => by
    cases h with
    | cons h1 h2 =>
      simp only [List.zipIdx_cons, List.foldl_cons]
      exact foldl_cells (i + 1) h2 (hc.set _ h1)

/-- Two lists of parts. -/
inductive PR (L : FuncId → Prop) (ρ : Rn) : List (Nat × Value) → List (Nat × Value) → Prop
  | nil : PR L ρ [] []
  | cons {i : Nat} {v v' : Value} {x x' : List (Nat × Value)} : VR L ρ v v' → PR L ρ x x' → PR L ρ ((i, v) :: x) ((i, v') :: x')
theorem PR.mono {ρ ρ' : Rn} (hle : Rn.Le ρ ρ') {x x' : List (Nat × Value)} (h : PR L ρ x x') : PR L ρ' x x' := by
  induction h with
  | nil => exact .nil
  | cons h1 _ ih => exact .cons (h1.mono hle) ih

theorem fillR (place : Nat → Option (Nat × Nat)) : ∀ {x x' : List (Nat × Value)} {c c' : Array Value}, PR L ρ x x' → AR L ρ c c' →
    (∃ d d', Instr.fill place c x = some d ∧ Instr.fill place c' x' = some d' ∧ AR L ρ d d') ∨ (Instr.fill place c x = none ∧ Instr.fill place c' x' = none)
  | [], _, _, _, h, hc => by cases h; exact .inl ⟨_, _, rfl, rfl, hc⟩
  | (i, v) :: x, _, _, _, h, hc => by
    cases h with
    | cons hv hx =>
      simp only [Instr.fill]
      cases place i with
      | none => exact .inr ⟨rfl, rfl⟩
      | some p =>
        obtain ⟨off, size⟩ := p
        have hcell := hv.cells
        simp only [← hcell.size, ← hc.size]
        split
        · exact .inr ⟨rfl, rfl⟩
        · refine fillR place hx ?_
          have := foldl_cells (off := off) 0 hcell.list hc
          simpa only [← Array.foldl_toList, Array.toList_zipIdx] using this

theorem SR.mapSizes (fs : Array Field) : SR P L EqR ρ (fs.mapM fun f => do Pure.pure (f.offset, ← Go.sizeOf f.type)) (fs.mapM fun f => do Pure.pure (f.offset, ← Go.sizeOf f.type)) := by
  rw [Array.mapM_eq_mapM_toList]
  refine .eqbind (s := fs.toList.mapM _) (s' := fs.toList.mapM _) ?_ fun _ _ _ => .ret rfl
  generalize fs.toList = l
  induction l generalizing ρ with
  | nil => rw [List.mapM_nil]; exact .ret rfl
  | cons f l ih =>
    rw [List.mapM_cons]
    refine .eqbind (.eqbind (.sizeOf _) fun _ _ _ => .ret rfl) fun ρ' x _ => ?_
    exact .eqbind ih fun _ _ _ => .ret rfl

theorem SR.build {t : TypeId} (hz : zeroB P t = true) {x x' : Array (Nat × Value)} (h : PR L ρ x.toList x'.toList) : SR P L (VR L) ρ (Instr.build t x) (Instr.build t x') := by
  refine .mbind (.zeroValue hz) fun ρ1 z z' hle1 hzz => ?_
  obtain ⟨rfl, hzz⟩ := hzz
  refine .mbind (.underlying t) fun ρ2 d d' hle2 hd => ?_
  obtain ⟨rfl, hd⟩ := hd
  cases d <;> first | exact .stuck _ _ | skip
  · rename_i n e
    refine .eqbind (.sizeOf e) fun ρ3 m hle3 => ?_
    rcases fillR (fun i => some (i * m, m)) (((h.mono hle1).mono hle2).mono hle3) (((hzz.mono hle2).mono hle3).cells) with ⟨c, c', e1, e2, hc⟩ | ⟨e1, e2⟩
    · simp only [e1, e2]; exact .ret hc.agg
    · simp only [e1]; exact .stuck _ _
  · rename_i fs
    refine .eqbind (.mapSizes fs) fun ρ3 pl hle3 => ?_
    rcases fillR (pl[·]?) (((h.mono hle1).mono hle2).mono hle3) (((hzz.mono hle2).mono hle3).cells) with ⟨c, c', e1, e2, hc⟩ | ⟨e1, e2⟩
    · simp only [e1, e2]; exact .ret hc.agg
    · simp only [e1]; exact .stuck _ _

/-- The zero value of the elements of a slice's type. -/
def zeroE (P : Program) (t : TypeId) : Bool := match P.underlying t with | some (.slice e) => zeroB P e | _ => true
theorem SR.buildSlice {t : TypeId} (hz : zeroE P t = true) (n : Nat) {x x' : Array (Nat × Value)} (h : PR L ρ x.toList x'.toList) : SR P L (VR L) ρ (Instr.buildSlice t n x) (Instr.buildSlice t n x') := by
  refine .mbind (.underlying t) fun ρ1 d d' hle1 hd => ?_
  obtain ⟨rfl, hd⟩ := hd
  simp only [zeroE, hd] at hz
  cases d <;> first | exact .stuck _ _ | skip
  rename_i e
  simp only at hz
  refine .eqbind (.sizeOf e) fun ρ2 m hle2 => ?_
  simp only
  by_cases hbig : n * m > 2 ^ 24
  · simp only [hbig, if_true]
    exact .bad fun w es => ⟨_, w, es, rfl, .unsupported _ (by simp)⟩
  simp only [hbig, if_false]
  have hk : ∀ {S : String} (ρ3 : Rn) (z : Array Value), Rn.Le ρ2 ρ3 → AR L ρ3 z z → SR P L (VR L) ρ3
      (match Instr.fill (fun i => some (i * m, m)) ((Array.range (n * m)).map (fun i => z[i % z.size]!)) x.toList with | some cs => (do Pure.pure (Value.slice (some (← Go.newRow e cs)) n n)) | _ => Go.stuck S)
      (match Instr.fill (fun i => some (i * m, m)) ((Array.range (n * m)).map (fun i => z[i % z.size]!)) x'.toList with | some cs => (do Pure.pure (Value.slice (some (← Go.newRow e cs)) n n)) | _ => Go.stuck S) := by
    intro S ρ3 z hle3 hzz
    rcases fillR (fun i => some (i * m, m)) (((h.mono hle1).mono hle2).mono hle3) (hzz.spread (n * m)) with ⟨c, c', e1, e2, hc⟩ | ⟨e1, e2⟩
    · simp only [e1, e2]
      exact .mbind (.newRow e hc) fun _ a b _ hab => .ret (.slice _ _ hab)
    · simp only [e1]; exact .stuck _ _
  by_cases h0 : n * m = 0
  · simp only [if_pos h0]
    exact .mbind (R := fun ρ a b => a = b ∧ AR L ρ a a) (.ret ⟨rfl, .nil⟩) fun _ a b hle h => by obtain ⟨rfl, h⟩ := h; exact hk _ a hle h
  · simp only [if_neg h0]
    refine .mbind (.zeroValue hz) fun ρ3 a b hle3 hab => ?_
    obtain ⟨rfl, hab⟩ := hab
    exact .mbind (R := fun ρ a b => a = b ∧ AR L ρ a a) (.ret ⟨rfl, hab.cells⟩) fun _ a b hle h => by obtain ⟨rfl, h⟩ := h; exact hk _ a (hle3.trans hle) h

theorem SR.askRoom (n : Nat) : SR P L EqR ρ (Go.askRoom n) (Go.askRoom n) := by
  unfold Go.askRoom
  split
  · exact .mark (.pure rfl)
  · exact .ret rfl
end
end Go.Par
namespace Go.Par

section
variable {P : Program} {L : FuncId → Prop} {ρ : Rn}

theorem makeSliceR {t : TypeId} (hz : zeroE P t = true) {l l' c c' : Value} (hl : VR L ρ l l') (hc : VR L ρ c c') : SR P L (VR L) ρ (Instr.makeSlice t l c) (Instr.makeSlice t l' c') := by
  refine SR.mbind (.underlying t) fun ρ1 d d' hle1 hd => ?_
  obtain ⟨rfl, hd⟩ := hd
  simp only [zeroE, hd] at hz
  cases d <;> first | exact .stuck _ _ | skip
  rename_i e
  simp only at hz
  refine SR.eqbind (.asInt (hl.mono hle1)) fun ρ2 ln hle2 => ?_
  refine SR.eqbind (.asInt ((hc.mono hle1).mono hle2)) fun ρ3 cp hle3 => ?_
  refine SR.eqbind (.typeInfo e) fun ρ4 i hle4 => ?_
  simp only
  split
  · split
    · exact .bad fun w es => ⟨_, w, es, rfl, .panic _⟩
    · split
      · exact .bad fun w es => ⟨_, w, es, rfl, .panic _⟩
      · exact .bad fun w es => ⟨_, _, es, rfl, .panic _⟩
  · refine SR.eqbind (.askRoom _) fun ρ5 _ hle5 => ?_
    refine SR.eqbind (.sizeOf e) fun ρ6 m hle6 => ?_
    split
    · refine SR.mbind (R := fun ρ a b => a = b ∧ AR L ρ a a) (.ret ⟨rfl, .nil⟩) fun ρ7 z z' _ hzz => ?_
      obtain ⟨rfl, hzz⟩ := hzz
      exact SR.mbind (.newRow e (hzz.spread _)) fun _ a b _ hab => .ret (.slice _ _ hab)
    · refine SR.mbind (.zeroValue hz) fun ρ7 z z' _ hzz => ?_
      obtain ⟨rfl, hzz⟩ := hzz
      refine SR.mbind (R := fun ρ a b => a = b ∧ AR L ρ a a) (.ret ⟨rfl, hzz.cells⟩) fun ρ8 z z' _ hzz => ?_
      obtain ⟨rfl, hzz⟩ := hzz
      exact SR.mbind (.newRow e (hzz.spread _)) fun _ a b _ hab => .ret (.slice _ _ hab)

/-- Two options. -/
inductive OpR (L : FuncId → Prop) (ρ : Rn) : Option Value → Option Value → Prop
  | none : OpR L ρ none none
  | some {v v' : Value} : VR L ρ v v' → OpR L ρ (some v) (some v')
theorem OpR.mono {ρ ρ' : Rn} (hle : Rn.Le ρ ρ') {x x' : Option Value} (h : OpR L ρ x x') : OpR L ρ' x x' := by
  cases h with
  | none => exact .none
  | some h => exact .some (h.mono hle)

theorem sliceBoundR {x x' : Value} (h : VR L ρ x x') (y : Nat) (c : BoundsCode) : SR P L EqR ρ (Instr.sliceBound x y c) (Instr.sliceBound x' y c) := by
  refine SR.eqbind (.asIntOf h) fun ρ1 r _ => ?_
  obtain ⟨k, i⟩ := r
  simp only
  split
  · exact .ret rfl
  · exact .bounds _ _ _ _ _

theorem sliceBoundsR (b : Bool) (len cap : Nat) {l l' h h' m m' : Option Value} (hl : OpR L ρ l l') (hh : OpR L ρ h h') (hm : OpR L ρ m m') :
    SR P L EqR ρ (Instr.sliceBounds b len cap l h m) (Instr.sliceBounds b len cap l' h' m') := by
  cases hm with
  | none =>
    refine SR.eqbind (.ret rfl) fun ρ1 x hle1 => ?_
    cases hh with
    | none =>
      refine SR.eqbind (.ret rfl) fun ρ2 y hle2 => ?_
      exact (by cases hl with
        | none => exact SR.eqbind (.ret rfl) fun _ _ _ => .ret rfl
        | some hl => exact SR.eqbind (sliceBoundR ((hl.mono hle1).mono hle2) _ _) fun _ _ _ => .ret rfl)
    | some hh =>
      refine SR.eqbind (sliceBoundR (hh.mono hle1) _ _) fun ρ2 y hle2 => ?_
      exact (by cases hl with
        | none => exact SR.eqbind (.ret rfl) fun _ _ _ => .ret rfl
        | some hl => exact SR.eqbind (sliceBoundR ((hl.mono hle1).mono hle2) _ _) fun _ _ _ => .ret rfl)
  | some hm =>
    refine SR.eqbind (sliceBoundR hm _ _) fun ρ1 x hle1 => ?_
    cases hh with
    | none => exact SR.bad fun w es => ⟨_, w, es, rfl, .stuck _⟩
    | some hh =>
      refine SR.eqbind (sliceBoundR (hh.mono hle1) _ _) fun ρ2 y hle2 => ?_
      exact (by cases hl with
        | none => exact SR.eqbind (.ret rfl) fun _ _ _ => .ret rfl
        | some hl => exact SR.eqbind (sliceBoundR ((hl.mono hle1).mono hle2) _ _) fun _ _ _ => .ret rfl)

theorem sliceR (t : TypeId) {x x' : Value} {l l' h h' m m' : Option Value} (hx : VR L ρ x x') (hl : OpR L ρ l l') (hh : OpR L ρ h h') (hm : OpR L ρ m m') :
    SR P L (VR L) ρ (Instr.slice t x l h m) (Instr.slice t x' l' h' m') := by
  refine SR.mbind (.underlying t) fun ρ1 d d' hle1 hd => ?_
  obtain ⟨rfl, hd⟩ := hd
  replace hl := hl.mono hle1
  replace hh := hh.mono hle1
  replace hm := hm.mono hle1
  cases d with
  | string =>
    cases hx with
    | string s =>
      simp only
      cases hm with
      | none =>
        simp only [Option.isSome_none, Bool.false_eq_true, ↓reduceIte]
        refine SR.eqbind (sliceBoundsR _ _ _ hl hh .none) fun ρ2 r _ => ?_
        exact .ret (.string _)
      | some hm => exact SR.bad fun w es => ⟨_, w, es, rfl, .stuck _⟩
    | _ => exact .stuck _ _
  | slice e =>
    cases hx with
    | slice0 n c =>
      refine SR.eqbind (sliceBoundsR _ _ _ hl hh hm) fun ρ2 r hle2 => ?_
      refine SR.eqbind (.sizeOf e) fun ρ3 sz hle3 => ?_
      obtain ⟨a, b, c⟩ := r
      simp only
      split
      · exact .ret (.slice0 _ _)
      · exact .ret (.slice0 _ _)
    | slice n c hab =>
      refine SR.eqbind (sliceBoundsR _ _ _ hl hh hm) fun ρ2 r hle2 => ?_
      refine SR.eqbind (.sizeOf e) fun ρ3 sz hle3 => ?_
      obtain ⟨a, b, c⟩ := r
      have := ((hab.mono hle1).mono hle2).mono hle3
      simp only
      split
      · exact .ret (.slice _ _ this)
      · exact .ret (.slice _ _ (this.add _))
    | _ => exact .stuck _ _
  | pointer arr =>
    cases hx with
    | ptr0 => exact SR.bad fun w es => ⟨_, w, es, rfl, .panic _⟩
    | ptr hab =>
      refine SR.mbind (R := AdR) (.ret (hab.mono hle1)) fun ρ2 a a' hle2 ha => ?_
      refine SR.mbind (.underlying arr) fun ρ3 d d' hle3 hd => ?_
      obtain ⟨rfl, hd⟩ := hd
      cases d <;> first | exact .stuck _ _ | skip
      rename_i n e
      refine SR.eqbind (sliceBoundsR _ _ _ ((hl.mono hle2).mono hle3) ((hh.mono hle2).mono hle3) ((hm.mono hle2).mono hle3)) fun ρ4 r hle4 => ?_
      refine SR.eqbind (.sizeOf e) fun ρ5 sz hle5 => ?_
      obtain ⟨a, b, c⟩ := r
      have := ((ha.mono hle3).mono hle4).mono hle5
      simp only
      split
      · exact .ret (.slice _ _ this)
      · exact .ret (.slice _ _ (this.add _))
    | _ => exact SR.bad fun w es => ⟨_, w, es, rfl, .stuck _⟩
  | _ => cases hx <;> exact .stuck _ _

theorem sliceAtR (t : TypeId) {x x' : Value} {l l' h h' m m' : Option Value} (hx : VR L ρ x x') (hl : OpR L ρ l l') (hh : OpR L ρ h h') (hm : OpR L ρ m m') :
    SR P L (VR L) ρ (Instr.sliceAt t x l h m) (Instr.sliceAt t x' l' h' m') := by
  refine SR.mbind (.underlying t) fun ρ1 d d' hle1 hd => ?_
  obtain ⟨rfl, hd⟩ := hd
  replace hl := hl.mono hle1
  replace hh := hh.mono hle1
  replace hm := hm.mono hle1
  cases d <;> first | exact sliceR t (hx.mono hle1) hl hh hm | skip
  rename_i n e
  refine SR.mbind (.sureAddr (hx.mono hle1)) fun ρ2 a a' hle2 ha => ?_
  refine SR.eqbind (sliceBoundsR _ _ _ (hl.mono hle2) (hh.mono hle2) (hm.mono hle2)) fun ρ4 r hle4 => ?_
  refine SR.eqbind (.sizeOf e) fun ρ5 sz hle5 => ?_
  obtain ⟨a, b, c⟩ := r
  have := (ha.mono hle4).mono hle5
  simp only
  split
  · exact .ret (.slice _ _ this)
  · exact .ret (.slice _ _ (this.add _))

theorem partAtR {a a' : Addr} (h : AdR ρ a a') (c b : Nat) : SR P L AdR ρ (partAt a c b) (partAt a' c b) := by
  refine SR.eqbind (.byteOf h) fun ρ1 x hle1 => ?_
  have h1 : AdR ρ1 { block := a.block, off := a.off + c } { block := a'.block, off := a'.off + c } := ⟨hle1 _ _ h.blk, by simp [h.off], rfl⟩
  refine SR.eqbind (.byteOf h1) fun ρ2 y hle2 => ?_
  split
  · exact .ret (h1.mono hle2)
  · exact .ret ⟨hle2 _ _ h1.blk, h1.off, rfl⟩
theorem fieldPlaceR {a a' : Addr} (h : AdR ρ a a') (f : Field) : SR P L AdR ρ (fieldPlace a f) (fieldPlace a' f) := by
  refine SR.eqbind (.sizeOf _) fun ρ1 x hle1 => ?_
  split
  · exact partAtR (h.mono hle1) _ _
  · exact .ret ((h.mono hle1).add _)
theorem fieldAtR (s : TypeId) {x x' : Value} (f : Nat) (h : VR L ρ x x') : SR P L (VR L) ρ (Instr.fieldAt s x f) (Instr.fieldAt s x' f) := by
  refine SR.mbind (.underlying s) fun ρ1 d d' hle1 hd => ?_
  obtain ⟨rfl, hd⟩ := hd
  cases d <;> first | exact .stuck _ _ | skip
  rename_i fs
  simp only
  cases fs[f]? with
  | none => exact .stuck _ _
  | some fl =>
    simp only
    refine SR.mbind (.sureAddr (h.mono hle1)) fun ρ2 a a' hle2 ha => ?_
    exact SR.mbind (fieldPlaceR ha fl) fun _ b b' _ hb => .ret (.ptr hb)
theorem fieldR (t : TypeId) {x x' : Value} (f : Nat) (h : VR L ρ x x') : SR P L (VR L) ρ (Instr.field t x f) (Instr.field t x' f) := by
  refine SR.mbind (.underlying t) fun ρ1 d d' hle1 hd => ?_
  obtain ⟨rfl, hd⟩ := hd
  cases d <;> first | exact .stuck _ _ | skip
  rename_i fs
  simp only
  cases fs[f]? with
  | none => exact .stuck _ _
  | some fl =>
    simp only
    refine SR.mbind (.asAgg (h.mono hle1)) fun ρ2 a a' hle2 ha => ?_
    exact .part _ _ ha
theorem indexAtR (t : TypeId) {x x' i i' : Value} (h : VR L ρ x x') (hi : VR L ρ i i') : SR P L (VR L) ρ (Instr.indexAt t x i) (Instr.indexAt t x' i') := by
  refine SR.eqbind (.asIntOf hi) fun ρ1 r hle1 => ?_
  obtain ⟨k, n⟩ := r
  simp only
  refine SR.mbind (.underlying t) fun ρ2 d d' hle2 hd => ?_
  obtain ⟨rfl, hd⟩ := hd
  cases d with
  | array len e =>
    refine SR.mbind (.sureAddr ((h.mono hle1).mono hle2)) fun ρ3 a a' hle3 ha => ?_
    refine SR.mbind (R := fun ρ p q => ∃ a a', p = (some a, len, e) ∧ q = (some a', len, e) ∧ AdR ρ a a') (.ret ⟨a, a', rfl, rfl, ha⟩) fun ρ4 p q hle4 hpq => ?_
    obtain ⟨a, a', rfl, rfl, ha⟩ := hpq
    refine SR.mbind (.underlying t) fun ρ5 d d' hle5 hd => ?_
    obtain ⟨rfl, hd⟩ := hd
    simp only
    split
    · exact SR.eqbind (.sizeOf _) fun ρ6 sz hle6 => .ret (.ptr (((ha.mono hle5).mono hle6).add _))
    · (repeat' split) <;> first | exact .bounds _ _ _ _ _ | exact SR.unsup (u := .noEntry _) (by simp) _
  | slice e =>
    cases (h.mono hle1).mono hle2 with
    | slice0 ln cp =>
      refine SR.mbind (R := fun ρ p q => p = (none, ln, e) ∧ q = (none, ln, e)) (.ret ⟨rfl, rfl⟩) fun ρ4 p q hle4 hpq => ?_
      obtain ⟨rfl, rfl⟩ := hpq
      refine SR.mbind (.underlying t) fun ρ5 d d' hle5 hd => ?_
      exact .bounds _ _ _ _ _
    | slice ln cp ha =>
      refine SR.mbind (R := fun ρ p q => ∃ a a', p = (some a, ln, e) ∧ q = (some a', ln, e) ∧ AdR ρ a a') (.ret ⟨_, _, rfl, rfl, ha⟩) fun ρ4 p q hle4 hpq => ?_
      obtain ⟨a, a', rfl, rfl, ha⟩ := hpq
      refine SR.mbind (.underlying t) fun ρ5 d d' hle5 hd => ?_
      obtain ⟨rfl, hd⟩ := hd
      simp only
      split
      · exact SR.eqbind (.sizeOf _) fun ρ6 sz hle6 => .ret (.ptr (((ha.mono hle5).mono hle6).add _))
      · (repeat' split) <;> first | exact .bounds _ _ _ _ _ | exact SR.unsup (u := .noEntry _) (by simp) _
    | _ => exact SR.bad fun w es => ⟨_, w, es, rfl, .stuck _⟩
  | _ => exact SR.bad fun w es => ⟨_, w, es, rfl, .stuck _⟩

theorem extractR {x x' : Value} (i : Nat) (h : VR L ρ x x') : SR P L (VR L) ρ (Instr.extract x i) (Instr.extract x' i) := by
  cases h <;> first | exact .stuck _ _ | skip
  rename_i h1 h2
  have hA : AR L ρ _ _ := ⟨h1, h2⟩
  unfold Instr.extract
  simp only
  split
  · rename_i v hv
    obtain ⟨v', hv', hr⟩ := hA.get hv
    simp only [hv']
    exact .ret hr
  · exact .stuck _ _

theorem makeInterfaceR (t : TypeId) {x x' : Value} (h : VR L ρ x x') : SR P L (VR L) ρ (Instr.makeInterface t x) (Instr.makeInterface t x') := by
  refine SR.mbind (.underlying t) fun ρ1 d d' hle1 hd => ?_
  obtain ⟨rfl, hd⟩ := hd
  cases d <;> first | exact .stuck _ _ | exact .ret (.iface _ (h.mono hle1))

theorem runT_mbind {α β : Type} (s : Sem α) (f : α → Sem β) (w : World) (es : Array Event) : (s >>= f).runT P w es = match s.runT P w es with
    | (.ok a w', es') => (f a).runT P w' es'
    | (.halt h w', es') => (.halt h w', es') := runT_bind P s f w es
theorem runT_underlying (t : TypeId) (w : World) (es : Array Event) : (underlying t).runT P w es = match P.underlying t with
    | some d => (.ok d w, es)
    | none => (.halt (.stuck "no such type") w, es) := by
  show (match P.underlying t with | some d => Sem.pure d | none => Sem.halt (.stuck "no such type") : Sem TypeDesc).runT P w es = _
  cases P.underlying t <;> rfl

theorem panicNilBad {α : Type} (w : World) (es : Array Event) : ∃ h w' es', (runtimePanic .panicNil : Sem α).runT P w es = (.halt h w', es') ∧ Bad h := by
  show ∃ h w' es', (elemOf P.rt.panicNilError >>= fun e => newVar e (.agg #[]) >>= fun r => goPanic (.iface P.rt.panicNilError (.pointer (some r))) : Sem α).runT P w es = (.halt h w', es') ∧ Bad h
  rw [runT_mbind]
  unfold elemOf
  rw [runT_mbind, runT_underlying]
  cases P.underlying P.rt.panicNilError with
  | none => exact ⟨_, _, _, rfl, .stuck _⟩
  | some d => cases d <;> first | exact ⟨_, _, _, rfl, .stuck _⟩ | exact ⟨_, _, _, rfl, .panic _⟩

theorem panicBad (x : Value) {β : Type} {R : Rn → Value → β → Prop} (s' : Sem β) : SR P L R ρ (Instr.panic x) s' := by
  refine .bad fun w es => ?_
  cases x with
  | iface t v => exact ⟨_, w, es, rfl, .panic _⟩
  | nilIface =>
    show ∃ h w' es', (Sem.bind (Sem.bind (Sem.sys .env .pure) _) _).runT P w es = (.halt h w', es') ∧ Bad h
    simp only [runT_bind, Sem.runT]
    cases (w.sys .env).1 with
    | strings env =>
      simp only [runT_mbind]
      show ∃ h w' es', ((if (_ == (1 : Int)) = true then goPanic Value.nilIface else runtimePanic RuntimeError.panicNil : Sem Value)).runT P _ _ = (.halt h w', es') ∧ Bad h
      split
      · exact ⟨_, _, _, rfl, .panic _⟩
      · exact panicNilBad _ _
    | _ => exact ⟨_, _, _, rfl, .stuck _⟩
  | _ => exact ⟨_, w, es, rfl, .stuck _⟩

/-! ### builtins -/
theorem lenR (ts : Array TypeId) (t : TypeId) {x x' : Array Value} (h : AR L ρ x x') : SR P L (VR L) ρ (Builtin.len_ ts t x) (Builtin.len_ ts t x') := by
  unfold Builtin.len_
  cases e0 : ts[0]? with
  | none => exact .stuck _ _
  | some tt =>
    cases e1 : x[0]? with
    | none => exact .stuck _ _
    | some v =>
      obtain ⟨v', e1', hv⟩ := h.get e1
      simp only [e1']
      refine SR.mbind (.underlying tt) fun ρ1 d d' hle1 hd => ?_
      obtain ⟨rfl, hd⟩ := hd
      cases d <;> (cases hv <;> first
        | exact .stuck _ _
        | exact .ret (.int _ _)
        | (refine SR.mbind (.underlying _) fun ρ2 d d' hle2 hd => ?_
           obtain ⟨rfl, hd⟩ := hd
           cases d <;> first | exact .stuck _ _ | exact .ret (.int _ _)))

theorem max2R {x x' y y' : Value} (hx : VR L ρ x x') (hy : VR L ρ y y') : SR P L (VR L) ρ (Builtin.max2 x y) (Builtin.max2 x' y') := by
  cases hx <;> cases hy <;> first
    | exact .stuck _ _
    | exact .unsup (by simp) _
    | exact .ret (.int _ _)
    | (refine SR.mbind (.stringOp _ _ _) fun ρ1 a a' _ ha => ?_
       refine SR.eqbind (.asBool ha) fun ρ2 b _ => ?_
       exact .ret (by split <;> exact .string _))
theorem min2R {x x' y y' : Value} (hx : VR L ρ x x') (hy : VR L ρ y y') : SR P L (VR L) ρ (Builtin.min2 x y) (Builtin.min2 x' y') := by
  cases hx <;> cases hy <;> first
    | exact .stuck _ _
    | exact .unsup (by simp) _
    | exact .ret (.int _ _)
    | (refine SR.mbind (.stringOp _ _ _) fun ρ1 a a' _ ha => ?_
       refine SR.eqbind (.asBool ha) fun ρ2 b _ => ?_
       exact .ret (by split <;> exact .string _))
theorem foldlMR {f : Value → Value → Sem Value} (hf : ∀ {ρ : Rn} {x x' y y' : Value}, VR L ρ x x' → VR L ρ y y' → SR P L (VR L) ρ (f x y) (f x' y')) :
    ∀ {l l' : List Value} {ρ : Rn} {x x' : Value}, LR L ρ l l' → VR L ρ x x' → SR P L (VR L) ρ (l.foldlM f x) (l'.foldlM f x')
  | [], _, _, _, _, h, hx => by cases h; exact .ret hx
  | v :: l, _, _, _, _, h, hx => by
    cases h with
    | cons hv hl =>
      simp only [List.foldlM_cons]
      exact SR.mbind (hf hx hv) fun ρ1 a a' hle ha => foldlMR hf (hl.mono hle) ha
theorem maxR (ts : Array TypeId) (t : TypeId) {x x' : Array Value} (h : AR L ρ x x') : SR P L (VR L) ρ (Builtin.max_ ts t x) (Builtin.max_ ts t x') := by
  unfold Builtin.max_
  have hl := h.list
  revert hl
  generalize x.toList = l
  generalize x'.toList = l'
  intro hl
  cases hl with
  | nil => exact .stuck _ _
  | cons hv hl => exact foldlMR max2R hl hv
theorem minR (ts : Array TypeId) (t : TypeId) {x x' : Array Value} (h : AR L ρ x x') : SR P L (VR L) ρ (Builtin.min_ ts t x) (Builtin.min_ ts t x') := by
  unfold Builtin.min_
  have hl := h.list
  revert hl
  generalize x.toList = l
  generalize x'.toList = l'
  intro hl
  cases hl with
  | nil => exact .stuck _ _
  | cons hv hl => exact foldlMR min2R hl hv
end
end Go.Par
namespace Go.Par

section
variable {P : Program} {L : FuncId → Prop} {ρ : Rn}

theorem lenOfR {x x' : Value} (h : VR L ρ x x') : SR P L EqR ρ (Builtin.lenOf x) (Builtin.lenOf x') := by
  cases h <;> first | exact .stuck _ _ | exact .ret rfl
theorem bytesR (b : ByteArray) (n : Nat) : AR L ρ ((b.extract 0 n).data.map fun c => (.int .u8 c.toNat : Value)) ((b.extract 0 n).data.map fun c => (.int .u8 c.toNat : Value)) := by
  refine .self fun i a ha => ?_
  simp only [Array.getElem?_map] at ha
  obtain ⟨c, _, rfl⟩ := Option.map_eq_some_iff.1 ha
  exact .int _ _
theorem firstCellsR (s n : Nat) {x x' : Value} (h : VR L ρ x x') : SR P L (AR L) ρ (Builtin.firstCells s n x) (Builtin.firstCells s n x') := by
  cases h <;> first | exact .stuck _ _ | exact .ret .nil | exact .ret (bytesR _ _) | (rename_i h; exact .loadCells _ h)

theorem runT_holds (a : Addr) (n : Nat) (w : World) (es : Array Event) : ∃ b, (Builtin.holdsCells a n).runT P w es = (.ok b w, es) := by
  show ∃ b, (match w.shape? a.block with | some (_, m) => Sem.pure (a.spot.isNone && decide (a.off + n ≤ m)) | none => Sem.pure false : Sem Bool).runT P w es = (.ok b w, es)
  cases w.shape? a.block with
  | none => exact ⟨_, rfl⟩
  | some x => exact ⟨_, rfl⟩
theorem runT_mayShare (size l n : Nat) (base : Option Addr) (x : Value) (w : World) (es : Array Event) : ∃ b, (Builtin.mayShare size l n base x).runT P w es = (.ok b w, es) := by
  have key : ∀ th : Bool, ∃ b, (if !th then pure true else match x with
      | .slice (some b) _ _ => do pure (!(← Builtin.holdsCells b (n * size)) || base.any (·.block == b.block))
      | _ => pure false : Sem Bool).runT P w es = (.ok b w, es) := by
    intro th
    cases th with
    | false => exact ⟨_, rfl⟩
    | true =>
      simp only [Bool.not_true, Bool.false_eq_true, if_false]
      split
      · rename_i b _ _
        obtain ⟨r, hr⟩ := runT_holds (P := P) b (n * size) w es
        rw [runT_mbind, hr]
        exact ⟨_, rfl⟩
      · exact ⟨_, rfl⟩
  cases base with
  | none => exact key true
  | some a =>
    obtain ⟨r, hr⟩ := runT_holds (P := P) a (l * size) w es
    show ∃ b, (Sem.bind (Builtin.holdsCells a (l * size)) _).runT P w es = (.ok b w, es)
    simp only [runT_bind, hr]
    exact key _

/-- An append that is let by: not 'append(s, make(..)...)'. -/
def okAppend (P : Program) (ts : Array TypeId) : Bool :=
  (match ts[0]? with | some t => zeroE P t | none => true) && (match ts[1]? with | some t => (match P.underlying t with | some (.int _) => false | _ => true) | none => true)

theorem appGrowR {e : TypeId} (hz : zeroB P e = true) (size l c n : Nat) {s s' y y' : Value} (hs : VR L ρ s s') (hy : VR L ρ y y') : SR P L (VR L) ρ
    (do let newCap ← choose (.appendCap (l + n) c e); askRoom (newCap * (← typeInfo e).bytes); let old ← Builtin.firstCells size l s; let new ← Builtin.firstCells size n y
        let rest := Builtin.zeroCells (← zeroValue e).cells (newCap - (l + n)); pure (.slice (some (← newRow e (old ++ new ++ rest))) (l + n) newCap))
    (do let newCap ← choose (.appendCap (l + n) c e); askRoom (newCap * (← typeInfo e).bytes); let old ← Builtin.firstCells size l s'; let new ← Builtin.firstCells size n y'
        let rest := Builtin.zeroCells (← zeroValue e).cells (newCap - (l + n)); pure (.slice (some (← newRow e (old ++ new ++ rest))) (l + n) newCap)) := by
  refine SR.eqbind (.choose fun n => .pure rfl) fun ρ1 cp hle1 => ?_
  refine SR.eqbind (.typeInfo e) fun ρ2 i hle2 => ?_
  refine SR.eqbind (.askRoom _) fun ρ3 _ hle3 => ?_
  refine SR.mbind (firstCellsR _ _ (((hs.mono hle1).mono hle2).mono hle3)) fun ρ4 o o' hle4 ho => ?_
  refine SR.mbind (firstCellsR _ _ ((((hy.mono hle1).mono hle2).mono hle3).mono hle4)) fun ρ5 m m' hle5 hm => ?_
  refine SR.mbind (.zeroValue hz) fun ρ6 z z' hle6 hzz => ?_
  obtain ⟨rfl, hzz⟩ := hzz
  refine SR.mbind (.newRow e (((ho.mono hle5).append hm).mono hle6 |>.append (hzz.cells.spread _))) fun ρ7 a a' _ ha => ?_
  exact .ret (.slice _ _ ha)

theorem appendR {ts : Array TypeId} (ht : okAppend P ts = true) (t : TypeId) {x x' : Array Value} (h : AR L ρ x x') : SR P L (VR L) ρ (Builtin.append_ ts t x) (Builtin.append_ ts t x') := by
  simp only [okAppend, Bool.and_eq_true] at ht
  unfold Builtin.append_
  cases e0 : ts[0]? with
  | none => exact .stuck _ _
  | some t0 =>
    simp only [e0] at ht
    cases e1 : x[0]? with
    | none => exact .stuck _ _
    | some s =>
      obtain ⟨s', e1', hs⟩ := h.get e1
      cases e2 : x[1]? with
      | none => exact .stuck _ _
      | some y =>
        obtain ⟨y', e2', hy⟩ := h.get e2
        rw [e1', e2']
        refine SR.mbind (.underlying t0) fun ρ1 d d' hle1 hd => ?_
        obtain ⟨rfl, hd⟩ := hd
        simp only [zeroE, hd] at ht
        cases d <;> first | exact .stuck _ _ | skip
        rename_i e
        replace hs := hs.mono hle1
        replace hy := hy.mono hle1
        have main : ∀ {S1 S2 : String} (b b' : Option Addr) (l c : Nat), VR L ρ1 (.slice b l c) (.slice b' l c) → ∀ (ρ2 : Rn) (size n : Nat), Rn.Le ρ1 ρ2 → SR P L (VR L) ρ2
            (if l + n ≤ c then (do
                let new ← Builtin.firstCells size n y
                match b with
                | some a => (do storeCells (a.add (l * size)) new.toList; pure (.slice b (l + n) c))
                | _ => pure (.slice b (l + n) c))
              else (do
                if ((l + n : Nat) : Int) > IntKind.i64.max ∧ (false = true ∨ (← typeInfo e).bytes = 0) then runtimePanic (.error S1)
                if Builtin.nextslicecap (l + n) c * (← typeInfo e).bytes > 2 ^ 48 then (do
                  if !(← Builtin.mayShare size l n b y) then mark .noRoom
                  unsupported (.resourceLimit S2))
                let newCap ← choose (.appendCap (l + n) c e); askRoom (newCap * (← typeInfo e).bytes); let old ← Builtin.firstCells size l (.slice b l c); let new ← Builtin.firstCells size n y
                let rest := Builtin.zeroCells (← zeroValue e).cells (newCap - (l + n)); pure (.slice (some (← newRow e (old ++ new ++ rest))) (l + n) newCap)))
            (if l + n ≤ c then (do
                let new ← Builtin.firstCells size n y'
                match b' with
                | some a => (do storeCells (a.add (l * size)) new.toList; pure (.slice b' (l + n) c))
                | _ => pure (.slice b' (l + n) c))
              else (do
                if ((l + n : Nat) : Int) > IntKind.i64.max ∧ (false = true ∨ (← typeInfo e).bytes = 0) then runtimePanic (.error S1)
                if Builtin.nextslicecap (l + n) c * (← typeInfo e).bytes > 2 ^ 48 then (do
                  if !(← Builtin.mayShare size l n b' y') then mark .noRoom
                  unsupported (.resourceLimit S2))
                let newCap ← choose (.appendCap (l + n) c e); askRoom (newCap * (← typeInfo e).bytes); let old ← Builtin.firstCells size l (.slice b' l c); let new ← Builtin.firstCells size n y'
                let rest := Builtin.zeroCells (← zeroValue e).cells (newCap - (l + n)); pure (.slice (some (← newRow e (old ++ new ++ rest))) (l + n) newCap))) := by
          intro S1 S2 b b' l c hb ρ2 size n hle2
          split
          · refine SR.mbind (firstCellsR _ _ (hy.mono hle2)) fun ρ3 m m' hle3 hm => ?_
            cases hb with
            | slice0 => exact .ret (.slice0 _ _)
            | slice _ _ hab =>
              have hab' := (hab.mono hle2).mono hle3
              exact SR.eqbind (.storeCells 0 (hab'.add _) hm.list) fun ρ4 _ hle4 => .ret (.slice _ _ (hab'.mono hle4))
          · refine SR.eqbind (.typeInfo e) fun ρ3 i hle3 => ?_
            split
            · exact .bad fun w es => ⟨_, w, es, rfl, .panic _⟩
            · refine SR.eqbind (.typeInfo e) fun ρ4 i' hle4 => ?_
              split
              · refine .bad fun w es => ?_
                obtain ⟨r, hr⟩ := runT_mayShare (P := P) size l n b y w es
                simp only [runT_mbind, hr]
                cases r
                · exact ⟨_, _, _, rfl, .unsupported _ (by simp)⟩
                · exact ⟨_, _, _, rfl, .unsupported _ (by simp)⟩
              · exact appGrowR ht.1 size l c n (((hb.mono hle2).mono hle3).mono hle4) (((hy.mono hle2).mono hle3).mono hle4)
        cases hs with
        | slice0 l c =>
          refine SR.eqbind (.sizeOf e) fun ρ2 size hle2 => ?_
          cases e3 : ts[1]? with
          | none =>
            refine SR.mbind (R := fun _ a b => a = false ∧ b = false) (.ret ⟨rfl, rfl⟩) fun ρ3 a b hle3 hab => ?_
            obtain ⟨rfl, rfl⟩ := hab
            exact SR.eqbind (lenOfR ((hy.mono hle2).mono hle3)) fun ρ4 n hle4 => main _ _ _ _ (.slice0 l c) ρ4 size n ((hle2.trans hle3).trans hle4)
          | some tt =>
            rw [e3] at ht
            refine SR.mbind (.underlying tt) fun ρ3 d d' hle3 hd => ?_
            obtain ⟨rfl, hd⟩ := hd
            simp only [hd] at ht
            cases d <;> first
              | (exfalso; simp at ht; done)
              | (refine SR.mbind (R := fun _ a b => a = false ∧ b = false) (.ret ⟨rfl, rfl⟩) fun ρ4 a b hle4 hab => ?_
                 obtain ⟨rfl, rfl⟩ := hab
                 exact SR.eqbind (lenOfR (((hy.mono hle2).mono hle3).mono hle4)) fun ρ5 n hle5 => main _ _ _ _ (.slice0 l c) ρ5 size n (((hle2.trans hle3).trans hle4).trans hle5))
        | slice l c hab0 =>
          refine SR.eqbind (.sizeOf e) fun ρ2 size hle2 => ?_
          cases e3 : ts[1]? with
          | none =>
            refine SR.mbind (R := fun _ a b => a = false ∧ b = false) (.ret ⟨rfl, rfl⟩) fun ρ3 a b hle3 hab => ?_
            obtain ⟨rfl, rfl⟩ := hab
            exact SR.eqbind (lenOfR ((hy.mono hle2).mono hle3)) fun ρ4 n hle4 => main _ _ _ _ (.slice l c hab0) ρ4 size n ((hle2.trans hle3).trans hle4)
          | some tt =>
            rw [e3] at ht
            refine SR.mbind (.underlying tt) fun ρ3 d d' hle3 hd => ?_
            obtain ⟨rfl, hd⟩ := hd
            simp only [hd] at ht
            cases d <;> first
              | (exfalso; simp at ht; done)
              | (refine SR.mbind (R := fun _ a b => a = false ∧ b = false) (.ret ⟨rfl, rfl⟩) fun ρ4 a b hle4 hab => ?_
                 obtain ⟨rfl, rfl⟩ := hab
                 exact SR.eqbind (lenOfR (((hy.mono hle2).mono hle3).mono hle4)) fun ρ5 n hle5 => main _ _ _ _ (.slice l c hab0) ρ5 size n (((hle2.trans hle3).trans hle4).trans hle5))
        | _ => exact .stuck _ _

/-! ### the calls -/
/-- What an operation hands on. -/
inductive NR (L : FuncId → Prop) (ρ : Rn) : Next → Next → Prop
  | value {v v' : Value} : VR L ρ v v' → NR L ρ (.value v) (.value v')
  | skip : NR L ρ .skip .skip
  | enter {f : FuncId} {x x' : Array Value} : L f → AR L ρ x x' → NR L ρ (.enter f x) (.enter f x')

/-- The functions that may be entered have Go bodies. -/
def Bodied (P : Program) (L : FuncId → Prop) : Prop := ∀ f, L f → ∃ fn, P.funcs[f]? = some fn ∧ fn.body.isNone = false ∧ (fn.name == "runtime.NumGoroutine") = false

theorem callFuncR (HL : Bodied P L) {f : FuncId} (hf : L f) {x x' : Array Value} (h : AR L ρ x x') : SR P L (NR L) ρ (callFunc f x) (callFunc f x') := by
  obtain ⟨fn, h1, h2, h3⟩ := HL f hf
  refine SR.prog ?_
  rw [h1]
  simp only [h2, h3, Bool.false_eq_true, if_false]
  exact .ret (.enter hf h)

theorem valR {s s' : Sem Value} (h : SR P L (VR L) ρ s s') : SR P L (NR L) ρ (do pure (.value (← s))) (do pure (.value (← s'))) := SR.mbind h fun _ _ _ _ hv => .ret (.value hv)
theorem unitR {s s' : Sem Unit} (h : SR P L EqR ρ s s') : SR P L (NR L) ρ (do s; pure .skip) (do s'; pure .skip) := SR.eqbind h fun _ _ _ => .ret .skip

theorem callValueR (HL : Bodied P L) {v v' : Value} (hv : VR L ρ v v') {x x' : Array Value} (h : AR L ρ x x') :
    SR P L (NR L) ρ (do let d ← Deferred.ofValue v x; invoke d.target d.args) (do let d ← Deferred.ofValue v' x'; invoke d.target d.args) := by
  cases hv with
  | func hf h1 h2 h3 h4 =>
    have hA : AR L ρ _ _ := ⟨h1, h2⟩
    have hB : AR L ρ _ _ := ⟨h3, h4⟩
    exact callFuncR HL hf ((hA.append h).append hB)
  | nilFunc => exact SR.bad fun w es => ⟨_, w, es, rfl, .panic _⟩
  | func0 => exact SR.bad fun w es => ⟨_, w, es, rfl, .panic _⟩
  | _ => exact SR.bad fun w es => ⟨_, w, es, rfl, .stuck _⟩

/-! ### what is let by -/
def okOd (LB : FuncId → Bool) : Operand → Bool
  | .tmp _ => true
  | .const v => plainV 8 v
  | .global _ => false
  | .func f => LB f
def okOp? (LB : FuncId → Bool) : Option Operand → Bool
  | some x => okOd LB x
  | none => true
def okFn (LB : FuncId → Bool) : Fn → Bool
  | .func f => LB f
  | _ => false
def okCall (P : Program) (LB : FuncId → Bool) (c : Call) : Bool :=
  c.args.all (okOd LB) && match c.callee with
    | .value f => okOd LB f
    | .invoke _ _ => false
    | .builtin b => match b with
      | .len | .max | .min => true
      | .append => okAppend P c.argTypes
      | _ => false
def okOp (P : Program) (LB : FuncId → Bool) : Op → Bool
  | .move x | .assign x | .load _ x | .unOp _ _ x | .makeInterface _ x | .extract x _ | .panic x | .field _ x _ | .fieldAddr _ x _ | .box _ x | .nilCheck x => okOd LB x
  | .pick c a b => okOd LB c && okOd LB a && okOd LB b
  | .alloc t => zeroB P t
  | .build t ps => zeroB P t && ps.all fun p => okOd LB p.2
  | .buildSlice t _ ps => zeroE P t && ps.all fun p => okOd LB p.2
  | .store _ a v | .indexAddr _ a v => okOd LB a && okOd LB v
  | .binOp op t x y _ => okBin P op t && okOd LB x && okOd LB y
  | .convert s d x => okConv P s d && okOd LB x
  | .makeFunc fn a b => okFn LB fn && a.all (okOd LB) && b.all (okOd LB)
  | .makeSlice t l c => zeroE P t && okOd LB l && okOd LB c
  | .slice _ x l h m => okOd LB x && okOp? LB l && okOp? LB h && okOp? LB m
  | .call c => okCall P LB c
  | _ => false

/-- Two ways to read the operands. -/
def ER (L : FuncId → Prop) (LB : FuncId → Bool) (ρ : Rn) (e e' : Operand → Value) : Prop := ∀ x, okOd LB x = true → VR L ρ (e x) (e' x)

theorem mapR {LB : FuncId → Bool} {e e' : Operand → Value} (he : ER L LB ρ e e') {x : Array Operand} (h : x.all (okOd LB) = true) : AR L ρ (x.map e) (x.map e') := by
  refine ⟨by simp, fun i a b ha hb => ?_⟩
  rw [Array.getElem?_map] at ha hb
  obtain ⟨o, ho, rfl⟩ := Option.map_eq_some_iff.1 ha
  rw [ho] at hb
  cases hb
  obtain ⟨hlt, rfl⟩ := Array.getElem?_eq_some_iff.1 ho
  exact he _ (Array.all_eq_true.1 h i hlt)
theorem partsR {LB : FuncId → Bool} {e e' : Operand → Value} (he : ER L LB ρ e e') {x : Array (Nat × Operand)} (h : (x.all fun p => okOd LB p.2) = true) :
    PR L ρ (x.map fun (i, y) => (i, e y)).toList (x.map fun (i, y) => (i, e' y)).toList := by
  rw [Array.toList_map, Array.toList_map]
  rw [← Array.all_toList] at h
  revert h
  generalize x.toList = l
  intro h
  induction l with
  | nil => exact .nil
  | cons p l ih =>
    simp only [List.all_cons, Bool.and_eq_true] at h
    exact .cons (he _ h.1) (ih h.2)
theorem optR {LB : FuncId → Bool} {e e' : Operand → Value} (he : ER L LB ρ e e') {x : Option Operand} (h : okOp? LB x = true) : OpR L ρ (x.map e) (x.map e') := by
  cases x with
  | none => exact .none
  | some x => exact .some (he _ h)

/-- AN OPERATION THAT IS LET BY. -/
theorem execOpR {LB : FuncId → Bool} (HL : Bodied P L) (hLB : ∀ f, LB f = true → L f) {e e' : Operand → Value} (he : ER L LB ρ e e') (o : Oper) (h : okOp P LB o.op = true) : SR P L (NR L) ρ (execOp e o) (execOp e' o) := by
  unfold execOp
  cases ho : o.op <;> (rw [ho] at h; simp only [okOp, Bool.and_eq_true, Bool.false_eq_true] at h)
  case move x => exact .ret (.value (he _ h))
  case nilCheck x =>
    have hv := he _ h
    dsimp only
    revert hv
    generalize e x = v
    generalize e' x = v'
    intro hv
    cases hv with
    | ptr0 => exact .bad fun w es => ⟨_, w, es, rfl, .panic _⟩
    | nilIface => exact .bad fun w es => ⟨_, w, es, rfl, .panic _⟩
    | nilFunc => exact .bad fun w es => ⟨_, w, es, rfl, .panic _⟩
    | func0 => exact .bad fun w es => ⟨_, w, es, rfl, .panic _⟩
    | func h1 h2 h3 h4 h5 => exact .ret (.value (.func h1 h2 h3 h4 h5))
    | @junk v' h1 h2 =>
      cases v' with
      | pointer a =>
        cases a with
        | none => cases h2
        | some a => exact .ret (.value (.junk h1 h2))
      | func fn x y => cases h2
      | _ => first | exact .ret (.value (.junk h1 h2)) | cases h2
    | bool b => exact .ret (.value (.bool b))
    | int k n => exact .ret (.value (.int k n))
    | string s => exact .ret (.value (.string s))
    | ptr h => exact .ret (.value (.ptr h))
    | slice0 l c => exact .ret (.value (.slice0 l c))
    | slice l c h => exact .ret (.value (.slice l c h))
    | iface t h => exact .ret (.value (.iface t h))
    | agg h1 h2 => exact .ret (.value (.agg h1 h2))
    | tuple h1 h2 => exact .ret (.value (.tuple h1 h2))
  case assign x => exact .ret (.value (he _ h))
  case pick c a b =>
    refine SR.eqbind (.asBool (he _ h.1.1)) fun ρ1 q hle => .ret (.value ?_)
    split
    · exact (he _ h.1.2).mono hle
    · exact (he _ h.2).mono hle
  case alloc t =>
    refine valR (SR.mbind (.zeroValue h) fun ρ1 z z' _ hz => ?_)
    obtain ⟨rfl, hz⟩ := hz
    exact SR.mbind (.newVar t hz) fun ρ2 a a' _ ha => .ret (.ptr ha)
  case box t x => exact valR (SR.mbind (.newVar t (he _ h)) fun ρ2 a a' _ ha => .ret (.ptr ha))
  case build t ps => exact valR (.build h.1 (partsR he h.2))
  case buildSlice t n ps => exact valR (.buildSlice h.1 n (partsR he h.2))
  case load t a => exact valR (SR.mbind (.sureAddr (he _ h)) fun ρ1 x y _ hxy => .loadVar t hxy)
  case store t a v => exact unitR (SR.mbind (.sureAddr (he _ h.1)) fun ρ1 x y hle hxy => .storeVar t hxy ((he _ h.2).mono hle))
  case binOp op t x y yt =>
    exact valR (SR.eqbind (.eqGuard h.1.1 x y (he _ h.1.2) (he _ h.2)) fun ρ1 _ hle => .bin h.1.1 ((he _ h.1.2).mono hle) ((he _ h.2).mono hle))
  case unOp op t x => exact valR (.unary op (he _ h))
  case convert s d x => exact valR (.convert h.1 (he _ h.2))
  case makeInterface t x => exact valR (makeInterfaceR t (he _ h))
  case makeFunc fn a b =>
    cases fn <;> simp only [okFn, Bool.false_eq_true, false_and] at h
    exact valR (.ret (.func (hLB _ h.1.1) (mapR he h.1.2).size (mapR he h.1.2).at_ (mapR he h.2).size (mapR he h.2).at_))
  case makeSlice t l c => exact valR (makeSliceR h.1.1 (he _ h.1.2) (he _ h.2))
  case slice t x l hh m => exact valR (sliceAtR t (he _ h.1.1.1) (optR he h.1.1.2) (optR he h.1.2) (optR he h.2))
  case fieldAddr s x f => exact valR (fieldAtR s f (he _ h))
  case field t x f => exact valR (fieldR t f (he _ h))
  case indexAddr t x i => exact valR (indexAtR t (he _ h.1) (he _ h.2))
  case extract x i => exact valR (extractR i (he _ h))
  case panic x => exact SR.mbind (R := fun _ _ _ => False) (panicBad _ _) fun _ _ _ _ hf => hf.elim
  case call c =>
    obtain ⟨cal, args, ats⟩ := c
    simp only [okCall, Bool.and_eq_true] at h
    obtain ⟨h1, h2⟩ := h
    cases cal with
    | value f => exact callValueR HL (he _ h2) (mapR he h1)
    | invoke r n => simp at h2
    | builtin b =>
      cases b <;> simp only [Bool.false_eq_true] at h2
      · exact valR (appendR h2 _ (mapR he h1))
      · exact valR (lenR _ _ (mapR he h1))
      · exact valR (maxR _ _ (mapR he h1))
      · exact valR (minR _ _ (mapR he h1))
end
end Go.Par
namespace Go.Par
open Go.Conc

/-! ### the code that is let by -/
def okCode (P : Program) (LB : FuncId → Bool) : Code → Bool
  | .skip | .exit _ | .ret | .label _ => true
  | .region _ ops _ => ops.all fun o => okOp P LB o.op
  | .seq a b => okCode P LB a && okCode P LB b
  | .cond c a b => okOd LB c && okCode P LB a && okCode P LB b
  | .block _ b | .loop b => okCode P LB b
  | _ => false
def okItem (P : Program) (LB : FuncId → Bool) : Item → Bool
  | .code c => okCode P LB c
  | .inBlock _ => true
  | .inLoop b => okCode P LB b
  | .inRegion ops l => l.all fun i => (ops[i]?).all fun o => okOp P LB o.op
  | _ => false
theorem okItem_region {P : Program} {LB : FuncId → Bool} {ops : Array Oper} (h : (ops.all fun o => okOp P LB o.op) = true) (l : List Nat) : okItem P LB (.inRegion ops l) = true := by
  simp only [okItem, List.all_eq_true]
  intro i _
  cases e : ops[i]? with
  | none => rfl
  | some o =>
    obtain ⟨hlt, rfl⟩ := Array.getElem?_eq_some_iff.1 e
    exact Array.all_eq_true.1 h i hlt

/-- The functions that may be entered have Go bodies that are let by. -/
def Closed (P : Program) (L : FuncId → Prop) (LB : FuncId → Bool) : Prop :=
  (∀ f, LB f = true → L f) ∧ ∀ f, L f → ∃ fn c, P.funcs[f]? = some fn ∧ fn.body = some c ∧ (fn.name == "runtime.NumGoroutine") = false ∧ okCode P LB c = true
theorem Closed.bodied {P : Program} {L : FuncId → Prop} {LB : FuncId → Bool} (h : Closed P L LB) : Bodied P L := fun f hf => by
  obtain ⟨fn, c, h1, h2, h3, _⟩ := h.2 f hf
  exact ⟨fn, h1, by simp [h2], h3⟩

/-- What the second's frame has yet to do behind the first's. -/
structure BX where
  kx : List Item
  dx : List Deferred
  kd : CallKind
  pr : Option Code := none
/-- Where the first's code ends: it goes no further. -/
def stopC : Code := .exit 0
/-- The second's code: the first's, with r in the place of the mark at its end. -/
inductive Ext (r : Code) : Code → Code → Prop
  | mark : Ext r stopC r
  | seq (a : Code) {b b' : Code} : Ext r b b' → Ext r (.seq a b) (.seq a b')
def tl (x : BX) (st : Bool) : List Item := if st then [] else x.kx
/-- What both have yet to do. 'pr': behind the first's last piece of code the second's has r to do, too. -/
def TodoR (X : BX) (st : Bool) (l l' : List Item) : Prop :=
  match st, X.pr with
  | true, _ => l' = l
  | false, none => l' = l ++ X.kx
  | false, some r => ∃ k c c', l = k ++ [.code c] ∧ l' = k ++ .code c' :: X.kx ∧ Ext r c c'
section
variable {X : BX} {st : Bool} {l l' : List Item}
theorem TodoR.cons (x : Item) (h : TodoR X st l l') : TodoR X st (x :: l) (x :: l') := by
  unfold TodoR at h ⊢
  cases st with
  | true => subst h; rfl
  | false =>
    cases hp : X.pr with
    | none => rw [hp] at h; simp only at h ⊢; rw [h]; rfl
    | some r =>
      rw [hp] at h
      obtain ⟨k, c, c', rfl, rfl, he⟩ := h
      exact ⟨x :: k, c, c', rfl, rfl, he⟩
theorem TodoR.inv {it : Item} {k : List Item} (h : TodoR X st (it :: k) l') : (∃ k', l' = it :: k' ∧ TodoR X st k k') ∨ (∃ r c c', st = false ∧ X.pr = some r ∧ k = [] ∧ it = .code c ∧ l' = .code c' :: X.kx ∧ Ext r c c') := by
  unfold TodoR at h ⊢
  cases st with
  | true => exact .inl ⟨k, h, rfl⟩
  | false =>
    cases hp : X.pr with
    | none => rw [hp] at h; exact .inl ⟨k ++ X.kx, h, rfl⟩
    | some r =>
      rw [hp] at h
      obtain ⟨q, c, c', e, rfl, he⟩ := h
      cases q with
      | nil =>
        simp only [List.nil_append, List.cons.injEq] at e
        exact .inr ⟨r, c, c', rfl, rfl, e.2, e.1, rfl, he⟩
      | cons x q =>
        simp only [List.cons_append, List.cons.injEq] at e
        exact .inl ⟨q ++ .code c' :: X.kx, by rw [e.1]; rfl, q, c, c', e.2, rfl, he⟩
theorem TodoR.last {r c c' : Code} (hs : st = false) (hp : X.pr = some r) (he : Ext r c c') : TodoR X st [.code c] (.code c' :: X.kx) := by
  unfold TodoR
  rw [hs, hp]
  exact ⟨[], c, c', rfl, rfl, he⟩
theorem TodoR.true_ : TodoR X true l l := rfl
theorem TodoR.nil (h : TodoR X st [] l') : l' = tl X st ∧ (st = false → X.pr = none) := by
  unfold TodoR at h
  cases st with
  | true => exact ⟨h, fun e => by cases e⟩
  | false =>
    cases hp : X.pr with
    | none => rw [hp] at h; exact ⟨h, fun _ => rfl⟩
    | some r =>
      rw [hp] at h
      obtain ⟨k, c, c', e, _⟩ := h
      simp at e
end
def dfl (x : BX) (st : Bool) : List Deferred := if st then [] else x.dx
def kdl (x : BX) (st : Bool) : CallKind := if st then .normal else x.kd
/-- Two frames. The first's has nothing deferred. 'st': nor has the second's ('false': whatever it has deferred, and however it was called: it is not left by its return while the pair walks). -/
structure FR (P : Program) (L : FuncId → Prop) (LB : FuncId → Bool) (kx : BX) (ρ : Rn) (st : Bool) (f f' : Frame) : Prop where
  fn : f.fn = f'.fn
  todo : TodoR kx st f.todo f'.todo
  ok : ∀ it ∈ f.todo, okItem P LB it = true
  tmps : AR L ρ f.tmps f'.tmps
  def1 : f.defers = []
  def2 : f'.defers = dfl kx st
  mode : f.mode = f'.mode
  runs : f.mode = .run ∨ f.mode = .returning
  kind1 : f.kind = .normal
  kind2 : f'.kind = kdl kx st
  early2 : f'.kind ≠ .early
  round1 : f.roundOf = none
  round2 : f'.roundOf = none
  bod : ∃ fn, P.funcs[f.fn]? = some fn

/-- The frame is the bottom's last call, or the second's has nothing deferred. -/
def HS (st str : Bool) (cs b : List Frame) : Prop := (st = true ∨ (cs = b ∧ str = false)) ∧ (cs = b → st = str)
inductive CR (P : Program) (L : FuncId → Prop) (LB : FuncId → Bool) (kx : BX) (str : Bool) (ρ : Rn) (b b' : List Frame) : List Frame → List Frame → Prop
  | nil : CR P L LB kx str ρ b b' b b'
  | cons {st : Bool} {f f' : Frame} {cs cs' : List Frame} : FR P L LB kx ρ st f f' → HS st str cs b → f.mode = .run → f.todo ≠ [] → CR P L LB kx str ρ b b' cs cs' → CR P L LB kx str ρ b b' (f :: cs) (f' :: cs')

section
variable {P : Program} {L : FuncId → Prop} {LB : FuncId → Bool} {kx : BX} {str st : Bool} {ρ ρ' : Rn}
theorem FR.mono (hle : Rn.Le ρ ρ') {st : Bool} {f f' : Frame} (h : FR P L LB kx ρ st f f') : FR P L LB kx ρ' st f f' := { h with tmps := h.tmps.mono hle }
theorem CR.mono (hle : Rn.Le ρ ρ') {b b' cs cs' : List Frame} (h : CR P L LB kx str ρ b b' cs cs') : CR P L LB kx str ρ' b b' cs cs' := by
  induction h with
  | nil => exact .nil
  | cons hf hs hm hne _ ih => exact .cons (hf.mono hle) hs hm hne ih

theorem CR.len {b b' cs cs' : List Frame} (h : CR P L LB kx str ρ b b' cs cs') : b.length ≤ cs.length := by
  induction h with
  | nil => exact Nat.le_refl _
  | cons _ _ _ _ _ ih => simp only [List.length_cons]; omega
theorem CR.above {b b' cs cs' : List Frame} (h : CR P L LB kx str ρ b b' cs cs') (f : Frame) : HS true str (f :: cs) b := ⟨.inl rfl, fun e => by have := h.len; rw [← e] at this; simp only [List.length_cons] at this; omega⟩

theorem FR.eval {st : Bool} {f f' : Frame} (hLB : ∀ f, LB f = true → L f) (h : FR P L LB kx ρ st f f') : ER L LB ρ f.eval f'.eval := by
  intro x hx
  cases x with
  | tmp t => exact h.tmps.getD t undefR
  | const v => exact plainV_VR 8 v hx
  | global g => cases hx
  | func g => exact .func (hLB g hx) rfl (fun i a b ha => by simp at ha) rfl (fun i a b ha => by simp at ha)

theorem FR.finish {st : Bool} {f f' : Frame} (h : FR P L LB kx ρ st f f') (hne : f.todo ≠ []) {v v' : Value} (hv : VR L ρ v v') : FR P L LB kx ρ st (f.finish v) (f'.finish v') := by
  obtain ⟨fn, tmps, todo, defers, mode, kind, roundOf⟩ := f
  obtain ⟨fn', tmps', todo', defers', mode', kind', roundOf'⟩ := f'
  obtain ⟨h1, h2, h3, h4, h5, h6, h7, h8, h9, h10, h10e, h11, h12, h13⟩ := h
  simp only at h1 h2 h3 h4 h5 h6 h7 h8 h9 h10 h10e h11 h12 h13
  subst h1 h5 h7 h9 h11 h12
  cases todo with
  | nil => exact absurd rfl hne
  | cons it k =>
    have hit := h3 it (by simp)
    have hk : ∀ x ∈ k, okItem P LB x = true := fun x hx => h3 x (by simp [hx])
    rcases h2.inv with ⟨k', rfl, h2'⟩ | ⟨r, c, c', hs, hp, rfl, rfl, rfl, he⟩
    · cases it with
      | inRegion ops l =>
        cases l with
        | nil => exact ⟨rfl, h2, h3, h4, rfl, h6, rfl, h8, rfl, h10, h10e, rfl, rfl, h13⟩
        | cons i rest =>
          refine ⟨rfl, h2'.cons _, ?_, ?_, rfl, h6, rfl, h8, rfl, h10, h10e, rfl, rfl, h13⟩
          · intro x hx
            simp only [Frame.finish, List.mem_cons] at hx
            rcases hx with rfl | hx
            · simp only [okItem, List.all_cons, Bool.and_eq_true] at hit ⊢
              exact hit.2
            · exact hk x hx
          · simp only [Frame.finish]
            split
            · exact h4.set _ hv
            · exact h4
      | _ => first | exact ⟨rfl, h2, h3, h4, rfl, h6, rfl, h8, rfl, h10, h10e, rfl, rfl, h13⟩ | cases hit
    · exact ⟨rfl, h2, h3, h4, rfl, h6, rfl, h8, rfl, h10, h10e, rfl, rfl, h13⟩

theorem enterR (HC : Closed P L LB) {f : FuncId} (hf : L f) {x x' : Array Value} (hx : AR L ρ x x') : FR P L LB kx ρ true (Frame.enter P f x .normal) (Frame.enter P f x' .normal) ∧ (Frame.enter P f x .normal).mode = .run := by
  obtain ⟨fn, c, h1, h2, h3, h4⟩ := HC.2 f hf
  refine ⟨⟨rfl, .true_, ?_, ?_, rfl, rfl, rfl, .inl rfl, rfl, rfl, by simp [Frame.enter], rfl, rfl, fn, h1⟩, rfl⟩
  · intro it hit
    simp only [Frame.enter, h1, Option.bind_some, h2, Option.getD_some, List.mem_singleton] at hit
    subst hit
    exact h4
  · simp only [Frame.enter]
    rw [← hx.size]
    exact hx.append (.replicate _ undefR)

theorem exitTo_sub {id : Nat} : ∀ {k k' : List Item}, exitTo id k = some k' → ∀ x ∈ k', x ∈ k
  | [], _, h => by cases h
  | it :: k, k', h => by
    intro x hx
    cases it with
    | inBlock j =>
      simp only [exitTo] at h
      split at h
      · cases h; simp [hx]
      · have := exitTo_sub h x hx; simp [this]
    | _ => have := exitTo_sub (k := k) h x hx; simp [this]

theorem exitTo_append {id : Nat} : ∀ {k k' : List Item} (e : List Item), exitTo id k = some k' → exitTo id (k ++ e) = some (k' ++ e)
  | [], _, _, h => by cases h
  | it :: k, k', e, h => by
    cases it with
    | inBlock j =>
      simp only [exitTo] at h
      simp only [List.cons_append, exitTo]
      split at h
      · rename_i hj
        cases h
        rw [if_pos hj]
      · rename_i hj
        rw [if_neg hj]
        exact exitTo_append e h
    | _ => exact exitTo_append (k := k) e h

theorem exitTo_R {id : Nat} : ∀ {k k1 k' : List Item}, exitTo id k = some k1 → TodoR kx st k k' → ∃ k1', exitTo id k' = some k1' ∧ TodoR kx st k1 k1'
  | [], _, _, h, _ => by cases h
  | it :: k, k1, k', h, hR => by
    rcases hR.inv with ⟨k2, rfl, hR2⟩ | ⟨r, c, c', _, _, rfl, rfl, _, _⟩
    · cases it with
      | inBlock j =>
        simp only [exitTo] at h ⊢
        split at h
        · rename_i hj
          cases h
          rw [if_pos hj]
          exact ⟨k2, rfl, hR2⟩
        · rename_i hj
          rw [if_neg hj]
          exact exitTo_R h hR2
      | _ => simp only [exitTo] at h ⊢; exact exitTo_R h hR2
    · simp [exitTo] at h

theorem yieldedR {x x' : Array Value} (h : AR L ρ x x') (ops : Array Oper) : yielded ops x = yielded ops x' := by
  funext j
  unfold yielded
  cases ((ops[j]?).bind (·.dst)) with
  | none => rfl
  | some d =>
    simp only [Option.bind_some]
    cases e : x[d]? with
    | none => rw [h.none e]
    | some v =>
      obtain ⟨v', e', hv⟩ := h.get e
      rw [e']
      cases hv <;> first | rfl | (rename_i hb; cases v' <;> first | rfl | cases hb)

theorem resultsR (fn : Func) {x x' : Array Value} (h : AR L ρ x x') : SR P L (VR L) ρ (results fn x) (results fn x') := by
  unfold results
  rw [Array.mapM_eq_mapM_toList, Array.mapM_eq_mapM_toList]
  have key : ∀ (l : List ResultVar) (ρ' : Rn), Rn.Le ρ ρ' → SR P L (LR L) ρ'
      (l.mapM fun | .tmp t => pure (x.getD t undef) | .cell a t => do loadVar t (← asAddr (x.getD a undef)))
      (l.mapM fun | .tmp t => pure (x'.getD t undef) | .cell a t => do loadVar t (← asAddr (x'.getD a undef))) := by
    intro l
    induction l with
    | nil => intro ρ' _; rw [List.mapM_nil, List.mapM_nil]; exact .ret .nil
    | cons r l ih =>
      intro ρ' hle
      rw [List.mapM_cons, List.mapM_cons]
      refine SR.mbind (R := VR L) ?_ fun ρ1 v v' hle1 hv => ?_
      · cases r with
        | tmp t => exact .ret ((h.mono hle).getD t undefR)
        | cell a t =>
          refine SR.mbind (R := AdR) ?_ fun ρ1 b b' _ hb => .loadVar t hb
          have hv := (h.mono hle).getD a (undefR (L := L))
          revert hv
          generalize x.getD a undef = v
          generalize x'.getD a undef = v'
          intro hv
          cases hv with
          | ptr0 => exact SR.bad fun w es => ⟨_, w, es, rfl, .panic _⟩
          | ptr hab => exact .ret hab
          | _ => exact .stuck _ _
      · exact SR.mbind (ih ρ1 (hle.trans hle1)) fun ρ2 l l' hle2 hl => .ret (.cons (hv.mono hle2) hl)
  refine SR.mbind (R := AR L) (SR.mbind (R := LR L) (key fn.results.toList ρ (.refl _)) fun ρ1 l l' _ hl => .ret ?_) fun ρ1 v v' _ hv => .ret ?_
  · refine ⟨?_, fun i a b ha hb => ?_⟩
    · induction hl with
      | nil => rfl
      | cons _ _ ih => simpa using ih
    · simp only [List.getElem?_toArray] at ha hb
      induction hl generalizing i with
      | nil => simp at ha
      | cons hv _ ih =>
        cases i with
        | zero => simp at ha hb; subst ha hb; exact hv
        | succ i => exact ih i (by simpa using ha) (by simpa using hb)
  · by_cases e : v.size = 1
    · have e' : v'.size = 1 := hv.size ▸ e
      simp only [e, e', dite_true]
      exact hv.at_ 0 _ _ (Array.getElem?_eq_getElem (by omega)) (Array.getElem?_eq_getElem (by omega))
    · have e' : ¬ v'.size = 1 := hv.size ▸ e
      simp only [e, e', dite_false]
      exact hv.tuple

/-- Nobody returns from here: the run ends, or the frame is left by a panic. -/
def Dead (f : Frame) (cs : List Frame) (s : GStep) : Prop := (∃ o w es, s = .ended o w es) ∨ ∃ f' chain w es, s = .go (G f' cs) w es ∧ f'.mode = .panicking chain ∧ f'.defers = [] ∧ f'.kind = .normal ∧ f'.fn = f.fn

/-- What becomes of two goroutines by a step. 'F': the first's step, in whatever world: it looks at the tape where it draws, and nowhere else. -/
inductive Stp (P : Program) (L : FuncId → Prop) (LB : FuncId → Bool) (kx : BX) (str : Bool) (RO : Nat → Prop) (ρ : Rn) (b b' : List Frame) (A B : World) (F : World → GStep) : GStep → GStep → Prop
  | go {ρ' : Rn} {A' B' : World} {st : Bool} {f f' : Frame} {cs cs' : List Frame} {es es' : Array Event} : Grow RO ρ ρ' A B A' B' → WR L RO P.globals.size ρ' A' B' → FR P L LB kx ρ' st f f' → HS st str cs b → CR P L LB kx str ρ' b b' cs cs' →
      (∀ e ∈ es', EvOK RO ρ' e) → (∀ t, (∀ m q, A.drawn ≤ m → m < A'.drawn → t m q = A.tape m q) → F (re A t) = .go (G f cs) (re A' t) es) →
      Stp P L LB kx str RO ρ b b' A B F (.go (G f cs) A' es) (.go (G f' cs') B' es')
end
end Go.Par
namespace Go.Par
open Go.Conc
section
variable {P : Program} {L : FuncId → Prop} {LB : FuncId → Bool} {kx : BX} {str : Bool} {RO : Nat → Prop} {ρ : Rn} {A B : World} {b b' : List Frame}

/-- A step of control: both worlds stand. -/
theorem Stp.still (hW : WR L RO P.globals.size ρ A B) {st : Bool} {f f' : Frame} {cs cs' : List Frame} (hf : FR P L LB kx ρ st f f') (hst : HS st str cs b) (hc : CR P L LB kx str ρ b b' cs cs') {F : World → GStep} (hF : ∀ w, F w = .go (G f cs) w #[]) :
    Stp P L LB kx str RO ρ b b' A B F (.go (G f cs) A #[]) (.go (G f' cs') B #[]) :=
  .go .refl hW hf hst hc (fun e he => by simp at he) (fun t _ => hF _)

/-- What is asked of an operation that has been carried out. -/
theorem applyR (HC : Closed P L LB) (hW : WR L RO P.globals.size ρ A B) (hG : P.globals.size ≤ A.heap.size ∧ P.globals.size ≤ B.heap.size) {st : Bool} {f f' : Frame} {cs cs' : List Frame}
    (hf : FR P L LB kx ρ st f f') (hst : HS st str cs b) (hc : CR P L LB kx str ρ b b' cs cs') (hm : f.mode = .run) {ops : Array Oper} {l : List Nat} {k : List Item} (ht : f.todo = .inRegion ops l :: k) {s s' : Sem Next} (hs : SR P L (NR L) ρ s s') :
    Dead f cs (stepG.apply P true f cs none s A) ∨ Stp P L LB kx str RO ρ b b' A B (fun w => stepG.apply P true f cs none s w) (stepG.apply P true f cs none s A) (stepG.apply P true f' cs' none s' B) := by
  obtain ⟨kk', ht'⟩ : ∃ kk', f'.todo = .inRegion ops l :: kk' := by
    have h := hf.todo
    rw [ht] at h
    rcases h.inv with ⟨k', h', _⟩ | ⟨_, _, _, _, _, _, e, _⟩
    · exact ⟨k', h'⟩
    · cases e
  have hne : f.todo ≠ [] := by rw [ht]; simp
  have hk1 : (f.kind == CallKind.early) = false := by rw [hf.kind1]; rfl
  have hk2 : (f'.kind == CallKind.early) = false := by have := hf.early2; simpa using this
  rcases SR.run hs A B #[] #[] hW hG with ⟨hh, w', es', e, hb⟩ | ⟨x, y, xs, es, e1, e2, hr, hl⟩
  · left
    unfold stepG.apply
    simp only [if_true, e]
    cases hb with
    | stuck s => exact .inl ⟨_, _, _, rfl⟩
    | panic v =>
      refine .inr ⟨f.raise [{ v, recovered := false }], [{ v, recovered := false }], w', _, rfl, ?_, ?_, ?_, ?_⟩ <;> simp [Frame.raise, hm, hf.def1, hf.kind1]
    | unsupported u hu =>
      cases u with
      | initOrder g => exact absurd rfl (hu g)
      | _ => exact .inl ⟨_, _, _, rfl⟩
  · right
    simp only [Array.empty_append] at e2
    cases hr with
    | @ok ρ' A' B' a c _ hg hW' he hR =>
      have hev : ∀ z, z ∈ seen P f'.fn es → EvOK RO ρ' z := fun z hz => he z (mem_seen hz)
      have hl' : ∀ t, (∀ m q, A.drawn ≤ m → m < A'.drawn → t m q = A.tape m q) → s.runT P (re A t) #[] = (.ok a (re A' t), xs) := fun t h => hl t fun m q hm hx => h m q hm (hx _ _ rfl)
      generalize eF : (fun w => stepG.apply P true f cs none s w) = F
      have hF : ∀ w, F w = stepG.apply P true f cs none s w := fun w => by rw [← eF]
      clear eF
      unfold stepG.apply
      simp only [if_true, e1, e2, ht, ht', hk1, hk2, Bool.false_eq_true, if_false]
      cases hR with
      | value hv =>
        refine .go hg hW' ((hf.mono hg.le).finish hne hv) hst (hc.mono hg.le) (fun z hz => hev z (by simpa [GStep.after] using hz)) (fun t h => ?_)
        rw [hF]; unfold stepG.apply; simp only [if_true, hl' t h, hk1, Bool.false_eq_true, if_false]; rfl
      | skip =>
        refine .go hg hW' ((hf.mono hg.le).finish hne undefR) hst (hc.mono hg.le) (fun z hz => hev z (by simpa [GStep.after] using hz)) (fun t h => ?_)
        rw [hF]; unfold stepG.apply; simp only [if_true, hl' t h, hk1, Bool.false_eq_true, if_false]; rfl
      | enter hlf hx =>
        refine .go hg hW' (enterR HC hlf hx).1 ((hc.mono hg.le).above f) (.cons (hf.mono hg.le) hst hm hne (hc.mono hg.le)) (fun z hz => hev z (by simpa [GStep.after] using hz)) (fun t h => ?_)
        rw [hF]; unfold stepG.apply; simp only [if_true, hl' t h, ht, hk1, Bool.false_eq_true, if_false]; rfl

theorem stepR (HC : Closed P L LB) (m : Bool) (hW : WR L RO P.globals.size ρ A B) (hG : P.globals.size ≤ A.heap.size ∧ P.globals.size ≤ B.heap.size) {st : Bool} {f f' : Frame} {cs cs' : List Frame}
    (hf : FR P L LB kx ρ st f f') (hst : HS st str cs b) (hc : CR P L LB kx str ρ b b' cs cs') (hnb : ¬ (f.mode = .returning ∧ cs = b)) (hnl : st = false → kx.pr = none → ¬ (f.todo = [] ∧ f.mode = .run)) (hns : st = false → kx.pr ≠ none → ¬ (f.todo = [.code stopC] ∧ f.mode = .run)) :
    Dead f cs (stepG P true (G f cs) A) ∨ Stp P L LB kx str RO ρ b b' A B (fun w => stepG P true (G f cs) w) (stepG P true (G f cs) A) (stepG P m (G f' cs') B) := by
  generalize eF : (fun w => stepG P true (G f cs) w) = F
  have hF : ∀ w, F w = stepG P true (G f cs) w := fun w => by rw [← eF]
  clear eF
  have hev := hf.eval HC.1
  obtain ⟨fn, tmps, todo, defers, mode, kind, roundOf⟩ := f
  obtain ⟨fn', tmps', todo', defers', mode', kind', roundOf'⟩ := f'
  have hf0 := hf
  obtain ⟨h1, h2, h3, h4, h5, h6, h7, h8, h9, h10, h10e, h11, h12, h13⟩ := hf
  simp only at h1 h2 h3 h4 h5 h6 h7 h8 h9 h10 h10e h11 h12 h13
  subst h1 h5 h7 h9 h11 h12
  have rf : ∀ (todo2 todo2' : List Item) (mode2 : FrameMode), TodoR kx st todo2 todo2' → (∀ x ∈ todo2, okItem P LB x = true) → (mode2 = .run ∨ mode2 = .returning) →
      FR P L LB kx ρ st ⟨fn, tmps, todo2, [], mode2, .normal, none⟩ ⟨fn, tmps', todo2', defers', mode2, kind', none⟩ := fun t t' m2 hR ht hm => ⟨rfl, hR, ht, h4, rfl, h6, rfl, hm, rfl, h10, h10e, rfl, rfl, h13⟩
  rcases h8 with rfl | rfl
  · -- it runs
    cases todo with
    | nil =>
      right
      have hst1 : st = true := by
        cases st with
        | true => rfl
        | false => exact absurd ⟨rfl, rfl⟩ (hnl rfl (h2.nil.2 rfl))
      subst hst1
      have e2 : todo' = [] := h2
      subst e2
      have rf' := rf [] [] .returning h2 h3 (.inr rfl)
      simp only [stepG, stepG.exec, G]
      exact .still hW rf' hst hc (F := F) (fun w => by rw [hF]; simp [stepG, stepG.exec, G])
    | cons it k =>
      have hit := h3 it (by simp)
      have hk : ∀ x ∈ k, okItem P LB x = true := fun x hx => h3 x (by simp [hx])
      have hk2 : ∀ {x y : Item}, okItem P LB x = true → okItem P LB y = true → ∀ z ∈ x :: y :: k, okItem P LB z = true := by
        intro x y hx hy z hz
        simp only [List.mem_cons] at hz
        rcases hz with rfl | rfl | hz
        · exact hx
        · exact hy
        · exact hk z hz
      have hk1 : ∀ {x : Item}, okItem P LB x = true → ∀ z ∈ x :: k, okItem P LB z = true := by
        intro x hx z hz
        simp only [List.mem_cons] at hz
        rcases hz with rfl | hz
        · exact hx
        · exact hk z hz
      rcases h2.inv with ⟨k', rfl, h2'⟩ | ⟨r, c, c', hs, hp, rfl, rfl, rfl, he⟩
      case inr =>
        right
        cases he with
        | mark => exact absurd ⟨rfl, rfl⟩ (hns hs (by rw [hp]; simp))
        | @seq x y y' he =>
          simp only [stepG, stepG.exec, G]
          simp only [okItem, okCode, Bool.and_eq_true] at hit
          exact .still hW (rf [.code x, .code y] _ .run ((TodoR.last hs hp he).cons _) (hk2 (x := .code x) (y := .code y) hit.1 hit.2) (.inl rfl)) hst hc (F := F) (fun w => by rw [hF]; simp [stepG, stepG.exec, G])
      cases it with
      | inBlock id => right; simp only [stepG, stepG.exec, G]; exact .still hW (rf k _ .run h2' hk (.inl rfl)) hst hc (F := F) (fun w => by rw [hF]; simp [stepG, stepG.exec, G])
      | inLoop body => right; simp only [stepG, stepG.exec, G]; exact .still hW (rf (.code body :: .inLoop body :: k) _ .run ((h2'.cons _).cons _) (hk2 (x := .code body) (y := .inLoop body) hit hit) (.inl rfl)) hst hc (F := F) (fun w => by rw [hF]; simp [stepG, stepG.exec, G])
      | inRegion ops l =>
        cases l with
        | nil => right; simp only [stepG, stepG.exec, G]; exact .still hW (rf k _ .run h2' hk (.inl rfl)) hst hc (F := F) (fun w => by rw [hF]; simp [stepG, stepG.exec, G])
        | cons i rest =>
          have hy := yieldedR h4 ops
          cases ew : ((ops[i]?).map (Region.wanted · (yielded ops tmps))).getD false with
          | false =>
            right
            have ew' : ((ops[i]?).map (Region.wanted · (yielded ops tmps'))).getD false = false := by rw [← hy]; exact ew
            simp only [stepG, stepG.exec, G, ew, ew', Bool.false_eq_true, if_false]
            exact .still hW (hf0.finish (by simp) undefR) hst hc (F := F) (fun w => by rw [hF]; simp only [stepG, stepG.exec, G, ew, Bool.false_eq_true, if_false])
          | true =>
            have ew' : ((ops[i]?).map (Region.wanted · (yielded ops tmps'))).getD false = true := by rw [← hy]; exact ew
            cases eo : ops[i]? with
            | none => rw [eo] at ew; cases ew
            | some o =>
              have hop : okOp P LB o.op = true := by
                simp only [okItem, List.all_cons, Bool.and_eq_true, eo] at hit
                exact hit.1
              have := applyR HC hW hG hf0 hst hc rfl rfl (execOpR HC.bodied HC.1 hev o hop)
              rw [eo] at ew ew'
              have eFa : F = fun w => stepG.apply P true ⟨fn, tmps, .inRegion ops (i :: rest) :: k, [], .run, .normal, none⟩ cs none (execOp (Frame.eval ⟨fn, tmps, .inRegion ops (i :: rest) :: k, [], .run, .normal, none⟩) o) w := by
                funext w
                rw [hF]
                simp only [stepG, stepG.exec, G, stepG.oper, Frame.oper?, eo, ew, if_true]
              rw [eFa]
              simp only [stepG, stepG.exec, G, stepG.oper, Frame.oper?, eo, ew, ew', if_true]
              exact this
      | code c =>
        cases c with
        | skip => right; simp only [stepG, stepG.exec, G]; exact .still hW (rf k _ .run h2' hk (.inl rfl)) hst hc (F := F) (fun w => by rw [hF]; simp [stepG, stepG.exec, G])
        | label l => right; simp only [stepG, stepG.exec, G]; exact .still hW (rf k _ .run h2' hk (.inl rfl)) hst hc (F := F) (fun w => by rw [hF]; simp [stepG, stepG.exec, G])
        | ret => right; simp only [stepG, stepG.exec, G]; exact .still hW (rf _ _ .returning h2 h3 (.inr rfl)) hst hc (F := F) (fun w => by rw [hF]; simp [stepG, stepG.exec, G])
        | seq x y =>
          right; simp only [stepG, stepG.exec, G]
          simp only [okItem, okCode, Bool.and_eq_true] at hit
          exact .still hW (rf (.code x :: .code y :: k) _ .run ((h2'.cons _).cons _) (hk2 (x := .code x) (y := .code y) hit.1 hit.2) (.inl rfl)) hst hc (F := F) (fun w => by rw [hF]; simp [stepG, stepG.exec, G])
        | block id body =>
          right; simp only [stepG, stepG.exec, G]
          exact .still hW (rf (.code body :: .inBlock id :: k) _ .run ((h2'.cons _).cons _) (hk2 (x := .code body) (y := .inBlock id) hit rfl) (.inl rfl)) hst hc (F := F) (fun w => by rw [hF]; simp [stepG, stepG.exec, G])
        | loop body =>
          right; simp only [stepG, stepG.exec, G]
          exact .still hW (rf (.code body :: .inLoop body :: k) _ .run ((h2'.cons _).cons _) (hk2 (x := .code body) (y := .inLoop body) hit hit) (.inl rfl)) hst hc (F := F) (fun w => by rw [hF]; simp [stepG, stepG.exec, G])
        | cond x c1 c2 =>
          simp only [okItem, okCode, Bool.and_eq_true] at hit
          have hv := hev x hit.1.1
          generalize e1 : Frame.eval _ x = v at hv
          generalize e2 : Frame.eval _ x = v' at hv
          simp only [stepG, stepG.exec, G]
          rw [e1, e2]
          cases hv with
          | bool t =>
            right
            simp only
            exact .still hW (rf (.code (if t then c1 else c2) :: k) _ .run (h2'.cons _) (hk1 (x := .code (if t then c1 else c2)) (by cases t; exact hit.2; exact hit.1.2)) (.inl rfl)) hst hc (F := F) (fun w => by rw [hF]; simp only [stepG, stepG.exec, G]; rw [e1])
          | _ => left; exact .inl ⟨_, _, _, rfl⟩
        | exit id =>
          simp only [stepG, stepG.exec, G]
          cases e : exitTo id k with
          | none => left; exact .inl ⟨_, _, _, rfl⟩
          | some k1 =>
            right
            obtain ⟨k1', e', h2e⟩ := exitTo_R e h2'
            rw [e']
            exact .still hW (rf k1 _ .run h2e (fun x hx => hk x (exitTo_sub e x hx)) (.inl rfl)) hst hc (F := F) (fun w => by rw [hF]; simp only [stepG, stepG.exec, G, e]; rfl)
        | region id ops draw =>
          cases draw with
          | false =>
            right; simp only [stepG, stepG.exec, G]
            exact .still hW (rf (.inRegion ops (List.range ops.size) :: k) _ .run (h2'.cons _) (hk1 (x := .inRegion ops (List.range ops.size)) (okItem_region hit _)) (.inl rfl)) hst hc (F := F) (fun w => by rw [hF]; simp [stepG, stepG.exec, G])
          | true =>
            right
            obtain ⟨hW', hg⟩ := hW.draw
            have et : B.tape B.drawn (.order fn id) = A.tape A.drawn (.order fn id) := by have := hW.tape 0 (.order fn id); simpa using this.symm
            simp only [stepG, stepG.exec, G, choose, Sem.run, Question.forced, Question.cut, Bool.not_true, Bool.false_eq_true, if_false, et]
            refine .go hg hW' (rf (.inRegion ops (Region.schedule (P.follows .mixedOrders) ops (A.tape A.drawn (.order fn id))) :: k) _ .run (h2'.cons _) (hk1 (x := .inRegion ops _) (okItem_region hit _)) (.inl rfl)) hst hc (fun e he => by simp at he) (fun t ht => ?_)
            have et' : t A.drawn (.order fn id) = A.tape A.drawn (.order fn id) := ht _ _ (Nat.le_refl _) (Nat.lt_succ_self _)
            rw [hF]
            simp only [stepG, stepG.exec, G, choose, Sem.run, Question.forced, Question.cut, Bool.not_true, Bool.false_eq_true, if_false, Go.Par.re, et']
        | _ => cases hit
      | _ => cases hit
  · -- it returns
    cases hc with
    | nil => exact absurd ⟨rfl, rfl⟩ hnb
    | @cons sc c c' cs cs' hcf hcst hcm hcne hcs =>
      have hst' : st = true := hst.1.elim id fun e => absurd ⟨rfl, e.1⟩ hnb
      have e6 : defers' = [] := by rw [h6, hst']; rfl
      have e10 : kind' = .normal := by rw [h10, hst']; rfl
      subst e6 e10
      obtain ⟨fv, hfv⟩ := h13
      rcases SR.run (resultsR (P := P) fv h4) A B #[] #[] hW hG with ⟨hh, w', es', e, hb⟩ | ⟨x, y, xs, es, e1, e2, hr, hl⟩
      · left
        simp only [stepG, unwind, G, hfv, e]
        cases hb <;> exact .inl ⟨_, _, _, rfl⟩
      · right
        simp only [Array.empty_append] at e2
        cases hr with
        | @ok ρ' A' B' a c _ hg hW' he hR =>
          simp only [stepG, unwind, G, hfv, e1, e2, doReturn]
          refine .go hg hW' ((hcf.mono hg.le).finish hcne hR) hcst (hcs.mono hg.le) (fun z hz => he z (mem_seen (by simpa [GStep.after] using hz))) (fun t ht => ?_)
          have hl' := hl t fun m q hm hx => ht m q hm (hx _ _ rfl)
          rw [hF]
          simp only [stepG, unwind, G, hfv, hl', reR, doReturn]
          rfl
end
end Go.Par
