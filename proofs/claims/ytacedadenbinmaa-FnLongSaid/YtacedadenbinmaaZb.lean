/- Proved: a run of a 'Sem' in one world is followed, step for step, by the run of a related 'Sem' in a related world, where the two worlds' blocks are numbered otherwise. Conditions: the relations that are named. Proved: the run of the second 'Sem' follows the first's. Conditions: the worlds and the 'Sem's are related. Proved: the operations' parts, each as a pair of 'Sem's that do the same but for the blocks' numbers. Conditions: the operands are each other's. Proved: each kind of operation that is let by, as a pair of 'Sem's that do the same but for the blocks' numbers. Conditions: the operands are each other's. -/
import Derived.Calls
import Derived.Control
import Derived.Laws.Sem
set_option linter.unusedVariables false
set_option linter.unusedSimpArgs false
set_option linter.unusedSectionVars false
namespace Go.Par

abbrev Rn := Nat → Nat → Prop
def Rn.Le (ρ ρ' : Rn) : Prop := ∀ a b, ρ a b → ρ' a b
theorem Rn.Le.refl (ρ : Rn) : Rn.Le ρ ρ := fun _ _ h => h
theorem Rn.Le.trans {ρ ρ' ρ'' : Rn} (h : Rn.Le ρ ρ') (h' : Rn.Le ρ' ρ'') : Rn.Le ρ ρ'' := fun a b x => h' a b (h a b x)
def Rn.ext (ρ : Rn) (n n' : Nat) : Rn := fun a b => ρ a b ∨ (a = n ∧ b = n')
theorem Rn.le_ext (ρ : Rn) (n n' : Nat) : Rn.Le ρ (ρ.ext n n') := fun _ _ h => .inl h

/-- Two addresses: the blocks are each other's, the places within them are the same. -/
structure AdR (ρ : Rn) (a b : Addr) : Prop where
  blk : ρ a.block b.block
  off : a.off = b.off
  spot : a.spot = b.spot

/-- Neither a truth value nor what a check for nil looks at. -/
def mute : Value → Bool
  | .bool _ | .pointer none | .nilIface | .nilFunc | .func _ _ _ => false
  | _ => true
/-- Two values: the same but for the blocks' numbers. 'L': which functions a function value may name. -/
inductive VR (L : FuncId → Prop) (ρ : Rn) : Value → Value → Prop
  | bool (b : Bool) : VR L ρ (.bool b) (.bool b)
  | int (k : IntKind) (n : Int) : VR L ρ (.int k n) (.int k n)
  | string (s : ByteArray) : VR L ρ (.string s) (.string s)
  | ptr0 : VR L ρ (.pointer none) (.pointer none)
  | ptr {a b : Addr} : AdR ρ a b → VR L ρ (.pointer (some a)) (.pointer (some b))
  | slice0 (l c : Nat) : VR L ρ (.slice none l c) (.slice none l c)
  | slice {a b : Addr} (l c : Nat) : AdR ρ a b → VR L ρ (.slice (some a) l c) (.slice (some b) l c)
  | func {f : FuncId} {x y x' y' : Array Value} : L f → x.size = x'.size → (∀ (i : Nat) (a b : Value), x[i]? = some a → x'[i]? = some b → VR L ρ a b) →
      y.size = y'.size → (∀ (i : Nat) (a b : Value), y[i]? = some a → y'[i]? = some b → VR L ρ a b) → VR L ρ (.func (.func f) x y) (.func (.func f) x' y')
  | nilFunc : VR L ρ .nilFunc .nilFunc
  | iface (t : TypeId) {v v' : Value} : VR L ρ v v' → VR L ρ (.iface t v) (.iface t v')
  | nilIface : VR L ρ .nilIface .nilIface
  | func0 (fn : Fn) (x y : Array Value) : VR L ρ .nilFunc (.func fn x y)
  | junk {v' : Value} : v'.cells = #[v'] → mute v' = true → VR L ρ undef v'
  | agg {x x' : Array Value} : x.size = x'.size → (∀ (i : Nat) (a b : Value), x[i]? = some a → x'[i]? = some b → VR L ρ a b) → VR L ρ (.agg x) (.agg x')
  | tuple {x x' : Array Value} : x.size = x'.size → (∀ (i : Nat) (a b : Value), x[i]? = some a → x'[i]? = some b → VR L ρ a b) → VR L ρ (.tuple x) (.tuple x')

/-- Two rows of values. -/
structure AR (L : FuncId → Prop) (ρ : Rn) (x x' : Array Value) : Prop where
  size : x.size = x'.size
  at_ : ∀ (i : Nat) (a b : Value), x[i]? = some a → x'[i]? = some b → VR L ρ a b

section
variable {L : FuncId → Prop} {ρ ρ' : Rn}
theorem AdR.mono {a b : Addr} (hle : Rn.Le ρ ρ') (h : AdR ρ a b) : AdR ρ' a b := ⟨hle _ _ h.blk, h.off, h.spot⟩
theorem VR.mono (hle : Rn.Le ρ ρ') {v v' : Value} (h : VR L ρ v v') : VR L ρ' v v' := by
  induction h with
  | bool b => exact .bool b
  | int k n => exact .int k n
  | string s => exact .string s
  | ptr0 => exact .ptr0
  | ptr h => exact .ptr (h.mono hle)
  | slice0 l c => exact .slice0 l c
  | slice l c h => exact .slice l c (h.mono hle)
  | func hf h1 _ h3 _ i1 i2 => exact .func hf h1 i1 h3 i2
  | nilFunc => exact .nilFunc
  | iface t _ ih => exact .iface t ih
  | nilIface => exact .nilIface
  | agg h1 _ ih => exact .agg h1 ih
  | tuple h1 _ ih => exact .tuple h1 ih
  | junk h hb => exact .junk h hb
  | func0 fn x y => exact .func0 fn x y
theorem AR.mono (hle : Rn.Le ρ ρ') {x x' : Array Value} (h : AR L ρ x x') : AR L ρ' x x' := ⟨h.size, fun i a b ha hb => (h.at_ i a b ha hb).mono hle⟩
theorem AR.agg {x x' : Array Value} (h : AR L ρ x x') : VR L ρ (.agg x) (.agg x') := .agg h.size h.at_
theorem AR.tuple {x x' : Array Value} (h : AR L ρ x x') : VR L ρ (.tuple x) (.tuple x') := .tuple h.size h.at_
theorem AR.get {x x' : Array Value} (h : AR L ρ x x') {i : Nat} {a : Value} (ha : x[i]? = some a) : ∃ b, x'[i]? = some b ∧ VR L ρ a b := by
  have hlt : i < x.size := (Array.getElem?_eq_some_iff.1 ha).1
  have hlt' : i < x'.size := h.size ▸ hlt
  exact ⟨x'[i], Array.getElem?_eq_getElem hlt', h.at_ i a _ ha (Array.getElem?_eq_getElem hlt')⟩
theorem AR.none {x x' : Array Value} (h : AR L ρ x x') {i : Nat} (ha : x[i]? = none) : x'[i]? = none := by
  rw [Array.getElem?_eq_none_iff] at *
  rw [← h.size]; exact ha
theorem AR.getD {x x' : Array Value} (h : AR L ρ x x') (i : Nat) {d d' : Value} (hd : VR L ρ d d') : VR L ρ (x.getD i d) (x'.getD i d') := by
  cases e : x[i]? with
  | some a =>
    obtain ⟨b, hb, hr⟩ := h.get e
    simp only [Array.getD_eq_getD_getElem?, e, hb, Option.getD_some]; exact hr
  | none => simp only [Array.getD_eq_getD_getElem?, e, h.none e, Option.getD_none]; exact hd
theorem AR.set {x x' : Array Value} (h : AR L ρ x x') (i : Nat) {v v' : Value} (hv : VR L ρ v v') : AR L ρ (x.setIfInBounds i v) (x'.setIfInBounds i v') := by
  refine ⟨by simp [h.size], fun j a b ha hb => ?_⟩
  rw [Array.getElem?_setIfInBounds] at ha hb
  by_cases e : i = j
  · subst e
    simp only [if_true] at ha hb
    split at ha
    · split at hb
      · cases ha; cases hb; exact hv
      · cases hb
    · cases ha
  · simp only [e, if_false] at ha hb
    exact h.at_ j a b ha hb
theorem AR.nil : AR L ρ #[] #[] := ⟨rfl, fun i a b ha => by simp at ha⟩
theorem AR.push {x x' : Array Value} (h : AR L ρ x x') {v v' : Value} (hv : VR L ρ v v') : AR L ρ (x.push v) (x'.push v') := by
  refine ⟨by simp [h.size], fun j a b ha hb => ?_⟩
  rw [Array.getElem?_push] at ha hb
  rw [h.size] at ha
  split at ha
  · rename_i e
    rw [if_pos e] at hb
    cases ha; cases hb; exact hv
  · rename_i e
    rw [if_neg e] at hb
    exact h.at_ j a b ha hb
theorem AR.append {x x' y y' : Array Value} (h : AR L ρ x x') (k : AR L ρ y y') : AR L ρ (x ++ y) (x' ++ y') := by
  refine ⟨by simp [h.size, k.size], fun j a b ha hb => ?_⟩
  rw [Array.getElem?_append] at ha hb
  rw [h.size] at ha
  split at ha
  · rename_i e
    rw [if_pos e] at hb
    exact h.at_ j a b ha hb
  · rename_i e
    rw [if_neg e] at hb
    exact k.at_ _ a b ha hb
theorem AR.one {v v' : Value} (hv : VR L ρ v v') : AR L ρ #[v] #[v'] := by
  have := AR.push (L := L) (ρ := ρ) .nil hv
  simpa using this
theorem AR.extract {x x' : Array Value} (h : AR L ρ x x') (i j : Nat) : AR L ρ (x.extract i j) (x'.extract i j) := by
  refine ⟨by simp [h.size], fun k a b ha hb => ?_⟩
  rw [Array.getElem?_extract] at ha hb
  rw [h.size] at ha
  split at ha
  · rename_i e
    rw [if_pos e] at hb
    exact h.at_ _ a b ha hb
  · cases ha
/-- A value without addresses is its own. -/
theorem AR.replicate (n : Nat) {v v' : Value} (hv : VR L ρ v v') : AR L ρ (Array.replicate n v) (Array.replicate n v') := by
  refine ⟨by simp, fun j a b ha hb => ?_⟩
  rw [Array.getElem?_replicate] at ha hb
  split at ha
  · rename_i e
    rw [if_pos e] at hb
    cases ha; cases hb; exact hv
  · cases ha
theorem VR.cells {v v' : Value} (h : VR L ρ v v') : AR L ρ v.cells v'.cells := by
  cases h with
  | agg h1 h2 => exact ⟨h1, h2⟩
  | bool b => exact .one (.bool b)
  | int k n => exact .one (.int k n)
  | string s => exact .one (.string s)
  | ptr0 => exact .one .ptr0
  | ptr h => exact .one (.ptr h)
  | slice0 l c => exact .one (.slice0 l c)
  | slice l c h => exact .one (.slice l c h)
  | func hf h1 h2 h3 h4 => exact .one (.func hf h1 h2 h3 h4)
  | nilFunc => exact .one .nilFunc
  | iface t h => exact .one (.iface t h)
  | nilIface => exact .one .nilIface
  | tuple h1 h2 => exact .one (.tuple h1 h2)
  | junk h hb => rw [h]; exact .one (.junk h hb)
  | func0 fn x y => exact .one (.func0 fn x y)
theorem AdR.add {a b : Addr} (h : AdR ρ a b) (n : Nat) : AdR ρ (a.add n) (b.add n) := by
  unfold Addr.add
  split
  · exact h
  · exact ⟨h.blk, by simp [h.off], rfl⟩
theorem undefR : VR L ρ undef undef := .tuple rfl fun i a b ha => by simp at ha
end

/-- Halts behind which nobody returns (where nothing is deferred): the run ends, or the frames are left by a panic. -/
inductive Bad : Halt → Prop
  | stuck (s : String) : Bad (.stuck s)
  | unsupported (u : Unsupported) : (∀ g, u ≠ .initOrder g) → Bad (.unsupported u)
  | panic (v : Value) : Bad (.panic v)

/-- Two objects. -/
inductive OR (L : FuncId → Prop) (ρ : Rn) : Obj → Obj → Prop
  | cells {c c' : Array Value} (e : TypeId) {fr fr' : Nat × Nat} : AR L ρ c c' → OR L ρ (.cells c e fr) (.cells c' e fr')
  | number {a b : Addr} (l : Bool) : AdR ρ a b → OR L ρ (.number a l) (.number b l)

/-- Two 'Sem's that do the same, but for the blocks' numbers. 'R': how their results lie to each other. WHERE THE FIRST ENDS BADLY whatever the world, nothing is asked of the second. -/
inductive SR (P : Program) (L : FuncId → Prop) {α β : Type} (R : Rn → α → β → Prop) : Rn → Sem α → Sem β → Prop
  | pure {ρ : Rn} {a : α} {b : β} : R ρ a b → SR P L R ρ (.pure a) (.pure b)
  | load {ρ : Rn} {a b : Addr} {k : Value → Sem α} {k' : Value → Sem β} : AdR ρ a b → (∀ v v', VR L ρ v v' → SR P L R ρ (k v) (k' v')) → SR P L R ρ (.load .plain a k) (.load .plain b k')
  | store {ρ : Rn} {a b : Addr} {v v' : Value} {k : Sem α} {k' : Sem β} : AdR ρ a b → VR L ρ v v' → SR P L R ρ k k' → SR P L R ρ (.store .plain a v k) (.store .plain b v' k')
  | cells {ρ : Rn} {c c' : Array Value} {e : TypeId} {k : Nat → Sem α} {k' : Nat → Sem β} : AR L ρ c c' → (∀ n n', SR P L R (ρ.ext n n') (k n) (k' n')) → SR P L R ρ (.new (.cells c e) k) (.new (.cells c' e) k')
  | number {ρ : Rn} {a b : Addr} {l : Bool} {k : Nat → Sem α} {k' : Nat → Sem β} : AdR ρ a b → (∀ n n', SR P L R (ρ.ext n n') (k n) (k' n')) → SR P L R ρ (.new (.number a l) k) (.new (.number b l) k')
  | shape {ρ : Rn} {r r' : Nat} {k : Option (TypeId × Nat) → Sem α} {k' : Option (TypeId × Nat) → Sem β} : ρ r r' → (∀ s, SR P L R ρ (k s) (k' s)) → SR P L R ρ (.shape r k) (.shape r' k')
  | getObj {ρ : Rn} {r r' : Nat} {k : Obj → Sem α} {k' : Obj → Sem β} : ρ r r' → (∀ a b l, AdR ρ a b → SR P L R ρ (k (.number a l)) (k' (.number b l))) → SR P L R ρ (.getObj r k) (.getObj r' k')
  | choose {ρ : Rn} {q : Question} {k : Nat → Sem α} {k' : Nat → Sem β} : (∀ n, SR P L R ρ (k n) (k' n)) → SR P L R ρ (.choose q k) (.choose q k')
  | program {ρ : Rn} {k : Program → Sem α} {k' : Program → Sem β} : SR P L R ρ (k P) (k' P) → SR P L R ρ (.program k) (.program k')
  | mark {ρ : Rn} {k : Sem α} {k' : Sem β} : SR P L R ρ k k' → SR P L R ρ (.mark .noRoom k) (.mark .noRoom k')
  | cong {ρ : Rn} {s t : Sem α} {s' t' : Sem β} : (∀ w es, s.runT P w es = t.runT P w es) → (∀ w es, s'.runT P w es = t'.runT P w es) → SR P L R ρ t t' → SR P L R ρ s s'
  | low {ρ : Rn} {s : Sem α} {s' : Sem β} : ((∀ a b, ρ a b → P.globals.size ≤ a ∧ P.globals.size ≤ b) → SR P L R ρ s s') → SR P L R ρ s s'
  | bad {ρ : Rn} {s : Sem α} {s' : Sem β} : (∀ w es, ∃ h w' es', s.runT P w es = (.halt h w', es') ∧ Bad h) → SR P L R ρ s s'

theorem runT_bind {α β : Type} (P : Program) (s : Sem α) (f : α → Sem β) : ∀ (w : World) (es : Array Event), (s.bind f).runT P w es = match s.runT P w es with
    | (.ok a w', es') => (f a).runT P w' es'
    | (.halt h w', es') => (.halt h w', es') := by
  induction s with
  | pure a => intro w es; simp [Sem.bind, Sem.runT]
  | load m a k ih =>
    intro w es
    simp only [Sem.bind, Sem.runT]
    cases w.cell? a with
    | some v => exact ih v w _
    | none =>
      cases w.farLoad P a (m == .atomic) with
      | ok r => obtain ⟨v, t⟩ := r; exact ih v w _
      | error h => rfl
  | store m a v k ih =>
    intro w es
    cases v <;> simp only [Sem.bind, Sem.runT] <;>
      (cases w.cell? a with
       | some _ =>
        simp only
        split
        · rfl
        · exact ih _ _
       | none =>
        simp only
        split
        · exact ih _ _
        · rfl)
  | new o k ih => intro w es; simp only [Sem.bind, Sem.runT]; exact ih _ _ _
  | shape r k ih => intro w es; simp only [Sem.bind, Sem.runT]; exact ih _ _ _
  | freeze a n k ih => intro w es; simp only [Sem.bind, Sem.runT]; exact ih _ _
  | frozen a k ih => intro w es; simp only [Sem.bind, Sem.runT]; exact ih _ _ _
  | getObj r k ih =>
    intro w es
    simp only [Sem.bind, Sem.runT]
    split
    · rfl
    · exact ih _ _ _
    · rfl
  | setObj r o k ih =>
    intro w es
    simp only [Sem.bind, Sem.runT]
    split
    · rfl
    · exact ih _ _
    · rfl
  | choose q k ih =>
    intro w es
    simp only [Sem.bind, Sem.runT]
    split
    · exact ih _ _ _
    · exact ih _ _ _
  | sys c k ih => intro w es; simp only [Sem.bind, Sem.runT]; exact ih _ _ _
  | program k ih => intro w es; simp only [Sem.bind, Sem.runT]; exact ih _ _ _
  | mark m k ih => intro w es; simp only [Sem.bind, Sem.runT]; exact ih _ _
  | halt h => intro w es; rfl

section
variable {P : Program} {L : FuncId → Prop}

/-- A relation of results that is kept where more blocks are each other's. -/
theorem SR.le {α β : Type} {R R' : Rn → α → β → Prop} {ρ : Rn} {s : Sem α} {s' : Sem β} (h : SR P L R ρ s s') (hR : ∀ ρ' a b, Rn.Le ρ ρ' → R ρ' a b → R' ρ' a b) : SR P L R' ρ s s' := by
  induction h with
  | pure h => exact .pure (hR _ _ _ (.refl _) h)
  | load ha _ ih => exact .load ha fun v v' hv => ih v v' hv hR
  | store ha hv _ ih => exact .store ha hv (ih hR)
  | cells hc _ ih => exact .cells hc fun n n' => ih n n' fun ρ' a b hle => hR ρ' a b ((Rn.le_ext _ n n').trans hle)
  | number hc _ ih => exact .number hc fun n n' => ih n n' fun ρ' a b hle => hR ρ' a b ((Rn.le_ext _ n n').trans hle)
  | shape hr _ ih => exact .shape hr fun s => ih s hR
  | getObj hr _ ih => exact .getObj hr fun a b l hab => ih a b l hab hR
  | choose _ ih => exact .choose fun n => ih n hR
  | program _ ih => exact .program (ih hR)
  | mark _ ih => exact .mark (ih hR)
  | cong h1 h2 _ ih => exact .cong h1 h2 (ih hR)
  | low _ ih => exact .low fun h => ih h hR
  | bad h => exact .bad h

theorem SR.bind {α β γ δ : Type} {R : Rn → α → β → Prop} {S : Rn → γ → δ → Prop} {ρ : Rn} {s : Sem α} {s' : Sem β} {f : α → Sem γ} {f' : β → Sem δ}
    (h : SR P L R ρ s s') (hf : ∀ ρ' a b, Rn.Le ρ ρ' → R ρ' a b → SR P L S ρ' (f a) (f' b)) : SR P L S ρ (s.bind f) (s'.bind f') := by
  induction h with
  | pure h => exact hf _ _ _ (.refl _) h
  | load ha _ ih => exact .load ha fun v v' hv => ih v v' hv hf
  | store ha hv _ ih => exact .store ha hv (ih hf)
  | cells hc _ ih => exact .cells hc fun n n' => ih n n' fun ρ' a b hle => hf ρ' a b ((Rn.le_ext _ n n').trans hle)
  | number hc _ ih => exact .number hc fun n n' => ih n n' fun ρ' a b hle => hf ρ' a b ((Rn.le_ext _ n n').trans hle)
  | shape hr _ ih => exact .shape hr fun s => ih s hf
  | getObj hr _ ih => exact .getObj hr fun a b l hab => ih a b l hab hf
  | choose _ ih => exact .choose fun n => ih n hf
  | program _ ih => exact .program (ih hf)
  | mark _ ih => exact .mark (ih hf)
  | cong h1 h2 _ ih => exact .cong (fun w es => by rw [runT_bind, runT_bind, h1]) (fun w es => by rw [runT_bind, runT_bind, h2]) (ih hf)
  | low _ ih => exact .low fun h => ih h hf
  | bad h =>
    refine .bad fun w es => ?_
    obtain ⟨hh, w', es', e, hb⟩ := h w es
    exact ⟨hh, w', es', by rw [runT_bind, e], hb⟩
end

/-- Two worlds. 'RO': blocks of the second that are not to be written: where the first's run writes, its own twin is frozen. 'G': the number of package-level variables. -/
structure WR (L : FuncId → Prop) (RO : Nat → Prop) (G : Nat) (ρ : Rn) (A B : World) : Prop where
  fn : ∀ a b b', ρ a b → ρ a b' → b = b'
  inj : ∀ a a' b, ρ a b → ρ a' b → a = a'
  lo : ∀ a b, ρ a b → G ≤ a ∧ G ≤ b
  obj : ∀ a b, ρ a b → ∃ o o', A.heap[a]? = some o ∧ B.heap[b]? = some o' ∧ OR L ρ o o'
  thaw : ∀ a b, ρ a b → ∀ off v, A.cell? ⟨a, off, none⟩ = some v → A.frozen? ⟨a, off, none⟩ = false → ¬ RO b ∧ B.frozen? ⟨b, off, none⟩ = false
  rolt : ∀ b, RO b → b < B.heap.size
  tape : ∀ i q, A.tape (A.drawn + i) q = B.tape (B.drawn + i) q

/-- What has become of the pair behind the run. -/
structure Grow (RO : Nat → Prop) (ρ ρ' : Rn) (A B A' B' : World) : Prop where
  le : Rn.Le ρ ρ'
  new : ∀ a b, ρ' a b → ρ a b ∨ (A.heap.size ≤ a ∧ B.heap.size ≤ b)
  all : ∀ b, B.heap.size ≤ b → b < B'.heap.size → ∃ a, ρ' a b
  sizeA : A.heap.size ≤ A'.heap.size
  sizeB : B.heap.size ≤ B'.heap.size
  aside : ∀ b, b < B.heap.size → ((∀ a, ¬ ρ a b) ∨ RO b) → B'.heap[b]? = B.heap[b]?
  tape : B'.tape = B.tape
  os : B'.os = B.os
  output : B'.output = B.output
  tapeA : A'.tape = A.tape
  drA : A.drawn ≤ A'.drawn

/-- What the second's run may list. -/
def EvOK (RO : Nat → Prop) (ρ : Rn) (e : Event) : Prop :=
  (∃ a w, e = ⟨.cell a, w, false⟩ ∧ (∃ n, ρ n a.block) ∧ (w = true → ¬ RO a.block)) ∨ (∃ r n, e = ⟨.obj r, false, false⟩ ∧ ρ n r) ∨ e = ⟨.mark .noRoom, false, true⟩
theorem EvOK.mono {RO : Nat → Prop} {ρ ρ' : Rn} (hle : Rn.Le ρ ρ') {e : Event} (h : EvOK RO ρ e) : EvOK RO ρ' e := by
  rcases h with ⟨a, w, e, ⟨n, hn⟩, hw⟩ | ⟨r, n, e, hn⟩ | h
  · exact .inl ⟨a, w, e, ⟨n, hle _ _ hn⟩, hw⟩
  · exact .inr (.inl ⟨r, n, e, hle _ _ hn⟩)
  · exact .inr (.inr h)

section
variable {P : Program} {L : FuncId → Prop} {RO : Nat → Prop} {G : Nat} {ρ ρ' ρ'' : Rn} {A B A' B' A'' B'' : World}
theorem Grow.refl : Grow RO ρ ρ A B A B := ⟨.refl ρ, fun _ _ h => .inl h, fun b h h' => absurd h' (by omega), Nat.le_refl _, Nat.le_refl _, fun _ _ _ => rfl, rfl, rfl, rfl, rfl, Nat.le_refl _⟩
theorem Grow.trans (h : Grow RO ρ ρ' A B A' B') (h' : Grow RO ρ' ρ'' A' B' A'' B'') : Grow RO ρ ρ'' A B A'' B'' := by
  refine ⟨h.le.trans h'.le, fun a b hab => ?_, fun b h1 h2 => ?_, Nat.le_trans h.sizeA h'.sizeA, Nat.le_trans h.sizeB h'.sizeB, fun b h1 h2 => ?_, h'.tape.trans h.tape, h'.os.trans h.os, h'.output.trans h.output, h'.tapeA.trans h.tapeA, Nat.le_trans h.drA h'.drA⟩
  · rcases h'.new a b hab with h1 | ⟨h1, h2⟩
    · exact h.new a b h1
    · exact .inr ⟨Nat.le_trans h.sizeA h1, Nat.le_trans h.sizeB h2⟩
  · by_cases hb : b < B'.heap.size
    · obtain ⟨a, ha⟩ := h.all b h1 hb
      exact ⟨a, h'.le _ _ ha⟩
    · exact h'.all b (by omega) h2
  · refine (h'.aside b (by have := h.sizeB; omega) ?_).trans (h.aside b h1 h2)
    rcases h2 with h2 | h2
    · refine .inl fun a ha => ?_
      rcases h.new a b ha with h3 | ⟨_, h3⟩
      · exact h2 a h3
      · omega
    · exact .inr h2
end
end Go.Par
namespace Go.Par

section
variable {P : Program} {L : FuncId → Prop} {RO : Nat → Prop} {G : Nat}

theorem WR.cell {ρ : Rn} {A B : World} (h : WR L RO G ρ A B) {a b : Addr} (ha : AdR ρ a b) {v : Value} (hv : A.cell? a = some v) : ∃ v', B.cell? b = some v' ∧ VR L ρ v v' := by
  obtain ⟨o, o', h1, h2, ho⟩ := h.obj _ _ ha.blk
  cases ho with
  | cells e hc =>
    simp only [World.cell?, h1] at hv
    simp only [World.cell?, h2, ← ha.spot]
    split at hv
    · cases hv
    · rename_i hs
      rw [if_neg hs, ← ha.off]
      exact hc.get hv
  | number l hab => simp only [World.cell?, h1] at hv; cases hv

theorem WR.nocell {ρ : Rn} {A B : World} (h : WR L RO G ρ A B) {a b : Addr} (ha : AdR ρ a b) (P : Program) (m : Bool) : ∃ s, A.farLoad P a m = .error (.stuck s) := by
  obtain ⟨o, o', h1, h2, ho⟩ := h.obj _ _ ha.blk
  cases ho with
  | cells e hc => exact ⟨_, by simp [World.farLoad, World.noCell, h1]; rfl⟩
  | number l hab => exact ⟨_, by simp [World.farLoad, World.noCell, h1]; rfl⟩

theorem WR.nostore {ρ : Rn} {A B : World} (h : WR L RO G ρ A B) {a b : Addr} (ha : AdR ρ a b) (P : Program) (v : Value) (m : Bool) : ∃ s, A.farStore P a v m = .error (.stuck s) := by
  obtain ⟨o, o', h1, h2, ho⟩ := h.obj _ _ ha.blk
  cases ho with
  | cells e hc => exact ⟨_, by simp [World.farStore, World.noCell, h1]; rfl⟩
  | number l hab => exact ⟨_, by simp [World.farStore, World.noCell, h1]; rfl⟩

theorem WR.shape {ρ : Rn} {A B : World} (h : WR L RO G ρ A B) {r r' : Nat} (hr : ρ r r') : A.shape? r = B.shape? r' := by
  obtain ⟨o, o', h1, h2, ho⟩ := h.obj _ _ hr
  cases ho with
  | cells e hc => simp [World.shape?, h1, h2, hc.size]
  | number l hab => simp [World.shape?, h1, h2]

theorem OR.mono {ρ ρ' : Rn} (hle : Rn.Le ρ ρ') {o o' : Obj} (h : OR L ρ o o') : OR L ρ' o o' := by
  cases h with
  | cells e hc => exact .cells e (hc.mono hle)
  | number l hab => exact .number l (hab.mono hle)

theorem getElem?_push_old {α : Type} {x : Array α} {y a : α} {i : Nat} (h : x[i]? = some a) : (x.push y)[i]? = some a := by
  have hlt := (Array.getElem?_eq_some_iff.1 h).1
  rw [Array.getElem?_push_lt hlt]
  obtain ⟨_, rfl⟩ := Array.getElem?_eq_some_iff.1 h
  rfl

theorem WR.size {ρ : Rn} {A B : World} (h : WR L RO G ρ A B) {a b : Nat} (hab : ρ a b) : a < A.heap.size ∧ b < B.heap.size := by
  obtain ⟨o, o', h1, h2, _⟩ := h.obj _ _ hab
  exact ⟨(Array.getElem?_eq_some_iff.1 h1).1, (Array.getElem?_eq_some_iff.1 h2).1⟩

/-- Each makes a new object. -/
theorem WR.push {ρ : Rn} {A B : World} (h : WR L RO G ρ A B) {o o' : Obj} (hG : G ≤ A.heap.size ∧ G ≤ B.heap.size) (ho : OR L ρ o o')
    (hfr' : ∀ c e fr, o' = .cells c e fr → fr = (0, 0)) :
    WR L RO G (ρ.ext A.heap.size B.heap.size) { A with heap := A.heap.push o } { B with heap := B.heap.push o' } ∧
    Grow RO ρ (ρ.ext A.heap.size B.heap.size) A B { A with heap := A.heap.push o } { B with heap := B.heap.push o' } := by
  refine ⟨⟨fun a b b' h1 h2 => ?_, fun a a' b h1 h2 => ?_, fun a b h1 => ?_, fun a b h1 => ?_, fun a b h1 off v hv hf => ?_, fun b hb => by have := h.rolt b hb; simp; omega, h.tape⟩,
    ⟨Rn.le_ext _ _ _, fun a b h1 => ?_, fun b h1 h2 => ?_, by simp, by simp, fun b h1 _ => Array.getElem?_push_lt h1 |>.trans (by rw [Array.getElem?_eq_getElem h1]), rfl, rfl, rfl, rfl, Nat.le_refl _⟩⟩
  · rcases h1 with h1 | ⟨rfl, rfl⟩ <;> rcases h2 with h2 | ⟨h3, rfl⟩
    · exact h.fn _ _ _ h1 h2
    · have := (h.size h1).1; omega
    · have := (h.size h2).1; omega
    · rfl
  · rcases h1 with h1 | ⟨rfl, rfl⟩ <;> rcases h2 with h2 | ⟨rfl, h3⟩
    · exact h.inj _ _ _ h1 h2
    · have := (h.size h1).2; omega
    · have := (h.size h2).2; omega
    · rfl
  · rcases h1 with h1 | ⟨rfl, rfl⟩
    · exact h.lo _ _ h1
    · exact hG
  · rcases h1 with h1 | ⟨rfl, rfl⟩
    · obtain ⟨x, x', e1, e2, e3⟩ := h.obj _ _ h1
      exact ⟨x, x', getElem?_push_old e1, getElem?_push_old e2, e3.mono (Rn.le_ext _ _ _)⟩
    · exact ⟨o, o', by simp, by simp, ho.mono (Rn.le_ext _ _ _)⟩
  · rcases h1 with h1 | ⟨rfl, rfl⟩
    · have hs := h.size h1
      have e1 : A.cell? ⟨a, off, none⟩ = some v := by
        simpa [World.cell?, Array.getElem?_push_lt hs.1, Array.getElem?_eq_getElem hs.1] using hv
      have e2 : A.frozen? ⟨a, off, none⟩ = false := by
        simpa [World.frozen?, Array.getElem?_push_lt hs.1, Array.getElem?_eq_getElem hs.1] using hf
      obtain ⟨f1, f2⟩ := h.thaw _ _ h1 off v e1 e2
      exact ⟨f1, by simpa [World.frozen?, Array.getElem?_push_lt hs.2, Array.getElem?_eq_getElem hs.2] using f2⟩
    · refine ⟨fun hb => by have := h.rolt _ hb; omega, ?_⟩
      simp only [World.frozen?, Array.getElem?_push_size]
      cases o' with
      | cells c e fr => have := hfr' c e fr rfl; subst this; simp
      | _ => rfl
  · rcases h1 with h1 | ⟨rfl, rfl⟩
    · exact .inl h1
    · exact .inr ⟨Nat.le_refl _, Nat.le_refl _⟩
  · simp at h2
    exact ⟨A.heap.size, .inr ⟨rfl, by omega⟩⟩

theorem heap_setCell (w : World) (a : Addr) (v : Value) (b : Nat) : (w.setCell a v).heap[b]? = if a.block = b then (w.heap[b]?).map fun
      | .cells c elem frozen => .cells (if a.spot.isSome then c else c.setIfInBounds a.off v) elem frozen
      | o => o else w.heap[b]? := by
  simp only [World.setCell, Array.getElem?_modify]
  split <;> rfl

/-- Each writes a cell. -/
theorem WR.set {ρ : Rn} {A B : World} (h : WR L RO G ρ A B) {a b : Addr} (hab : AdR ρ a b) {v v' old : Value} (hv : VR L ρ v v') (ha : A.cell? a = some old) (hf : A.frozen? a = false) :
    (¬ RO b.block ∧ B.frozen? b = false) ∧ WR L RO G ρ (A.setCell a v) (B.setCell b v') ∧ Grow RO ρ ρ A B (A.setCell a v) (B.setCell b v') := by
  obtain ⟨o, o', h1, h2, ho⟩ := h.obj _ _ hab.blk
  obtain ⟨ab, ao, as⟩ := a
  obtain ⟨bb, bo, bs⟩ := b
  obtain ⟨hblk, hoff, hspot⟩ := hab
  simp only at hblk hoff hspot h1 h2
  subst hoff hspot
  cases ho with
  | number l hx => simp [World.cell?, h1] at ha
  | @cells c c' e fr fr' hc =>
  have hs : as = none := by
    cases as with
    | none => rfl
    | some x => simp [World.cell?, h1] at ha
  subst hs
  have hcell : c[ao]? = some old := by simpa [World.cell?, h1] using ha
  obtain ⟨hro, hfz⟩ := h.thaw _ _ hblk ao old ha hf
  have keyA : ∀ x, (A.setCell ⟨ab, ao, none⟩ v).heap[x]? = if ab = x then some (.cells (c.setIfInBounds ao v) e fr) else A.heap[x]? := by
    intro x
    rw [heap_setCell]
    by_cases ex : ab = x
    · subst ex; simp [h1]
    · simp [ex]
  have keyB : ∀ x, (B.setCell ⟨bb, ao, none⟩ v').heap[x]? = if bb = x then some (.cells (c'.setIfInBounds ao v') e fr') else B.heap[x]? := by
    intro x
    rw [heap_setCell]
    by_cases ex : bb = x
    · subst ex; simp [h2]
    · simp [ex]
  refine ⟨⟨hro, hfz⟩, ⟨h.fn, h.inj, h.lo, fun x y hxy => ?_, fun x y hxy off z hz hzf => ?_, fun x hx => by simpa [World.setCell] using h.rolt x hx, h.tape⟩,
    ⟨.refl _, fun _ _ hx => .inl hx, fun x h1 h2 => ?_, by simp [World.setCell], by simp [World.setCell], fun x _ hx => ?_, rfl, rfl, rfl, rfl, Nat.le_refl _⟩⟩
  · rw [keyA, keyB]
    by_cases ex : ab = x
    · subst ex
      obtain rfl : bb = y := h.fn _ _ _ hblk hxy
      exact ⟨.cells (c.setIfInBounds ao v) e fr, .cells (c'.setIfInBounds ao v') e fr', by simp, by simp, .cells e (hc.set ao hv)⟩
    · have ey : bb ≠ y := fun e => ex (h.inj _ _ _ hblk (e ▸ hxy))
      simp only [ex, ey, if_false]
      exact h.obj _ _ hxy
  · have e1 : ∃ z', A.cell? ⟨x, off, none⟩ = some z' := by
      simp only [World.cell?, keyA] at hz
      by_cases ex : ab = x
      · subst ex
        simp only [if_true, Option.isSome_none, Bool.false_eq_true, if_false] at hz
        have : off < c.size := by
          have := (Array.getElem?_eq_some_iff.1 hz).1
          simpa using this
        exact ⟨c[off], by simp [World.cell?, h1, Array.getElem?_eq_getElem this]⟩
      · simp only [ex, if_false] at hz
        exact ⟨z, by simpa [World.cell?] using hz⟩
    have e2 : A.frozen? ⟨x, off, none⟩ = false := by
      simp only [World.frozen?, keyA] at hzf
      by_cases ex : ab = x
      · subst ex; simpa [World.frozen?, h1] using hzf
      · simpa [World.frozen?, ex] using hzf
    obtain ⟨z', hz'⟩ := e1
    obtain ⟨f1, f2⟩ := h.thaw _ _ hxy off z' hz' e2
    refine ⟨f1, ?_⟩
    simp only [World.frozen?, keyB]
    by_cases ey : bb = y
    · subst ey; simpa [World.frozen?, h2] using f2
    · simpa [World.frozen?, ey] using f2
  · simp [World.setCell] at h2; omega
  · rw [keyB]
    split
    · rename_i ex
      subst ex
      rcases hx with hx | hx
      · exact absurd hblk (hx _)
      · exact absurd hx hro
    · rfl

theorem WR.draw {ρ : Rn} {A B : World} (h : WR L RO G ρ A B) : WR L RO G ρ { A with drawn := A.drawn + 1 } { B with drawn := B.drawn + 1 } ∧ Grow RO ρ ρ A B { A with drawn := A.drawn + 1 } { B with drawn := B.drawn + 1 } := by
  refine ⟨⟨h.fn, h.inj, h.lo, h.obj, h.thaw, h.rolt, fun i q => ?_⟩, ⟨.refl _, fun _ _ hx => .inl hx, fun x h1 h2 => absurd h2 (by simp only; omega), Nat.le_refl _, Nat.le_refl _, fun _ _ _ => rfl, rfl, rfl, rfl, rfl, Nat.le_succ _⟩⟩
  have := h.tape (i + 1) q
  simp only
  rw [show A.drawn + 1 + i = A.drawn + (i + 1) by omega, show B.drawn + 1 + i = B.drawn + (i + 1) by omega]
  exact this
end

/-- What a run of the second owes. -/
inductive Ran {α β : Type} (L : FuncId → Prop) (RO : Nat → Prop) (G : Nat) (R : Rn → α → β → Prop) (ρ : Rn) (A B : World) : Result α → Result β → Array Event → Prop
  | ok {ρ' : Rn} {A' B' : World} {a : α} {b : β} {es : Array Event} : Grow RO ρ ρ' A B A' B' → WR L RO G ρ' A' B' → (∀ e ∈ es, EvOK RO ρ' e) → R ρ' a b → Ran L RO G R ρ A B (.ok a A') (.ok b B') es

section
variable {P : Program} {L : FuncId → Prop} {RO : Nat → Prop} {G : Nat} {α β : Type} {R : Rn → α → β → Prop}

theorem Ran.behind {ρ ρ' : Rn} {A B A' B' : World} (hg : Grow RO ρ ρ' A B A' B') {x : Result α} {y : Result β} {es es0 : Array Event} (h0 : ∀ e ∈ es0, EvOK RO ρ' e)
    (h : Ran L RO G R ρ' A' B' x y es) : Ran L RO G R ρ A B x y (es0 ++ es) := by
  cases h with
  | ok hg' hW he hR => exact .ok (hg.trans hg') hW (fun e he' => (Array.mem_append.1 he').elim (fun x => (h0 e x).mono hg'.le) (he e)) hR

theorem ne_agg_of_cell {ρ : Rn} {v v' : Value} (h : VR L ρ v v') : ((∃ x, v' = .agg x) ∨ ∃ x, v' = .tuple x) → ((∃ x, v = .agg x) ∨ ∃ x, v = .tuple x) := by
  cases h <;> simp [undef]

theorem runT_store (P : Program) (m : Mode) (a : Addr) (v : Value) (k : Sem α) (w : World) (es : Array Event) (h : ¬ ((∃ x, v = .agg x) ∨ ∃ x, v = .tuple x)) :
    (Sem.store m a v k).runT P w es = match w.cell? a with
    | some _ =>
      if w.frozen? a then (.halt (.unsupported (.unsafePointer "a write to bytes that a string shares")) w, es)
      else k.runT P (w.setCell a v) (es.push ⟨.cell a, true, m == .atomic⟩)
    | none => match w.farStore P a v (m == .atomic) with
      | .ok (w, touched) => k.runT P w (es ++ touched.toArray.map (⟨.cell ·, true, m == .atomic⟩))
      | .error h => (.halt h w, es) := by
  cases v <;> first | rfl | (exfalso; simp at h)

theorem runT_store_bad (P : Program) (m : Mode) (a : Addr) (v : Value) (k : Sem α) (w : World) (es : Array Event) (h : (∃ x, v = .agg x) ∨ ∃ x, v = .tuple x) :
    ∃ s, (Sem.store m a v k).runT P w es = (.halt (.stuck s) w, es) := by
  rcases h with ⟨x, rfl⟩ | ⟨x, rfl⟩ <;> exact ⟨_, rfl⟩

/-- The world with another tape. -/
def re (w : World) (t : Nat → Question → Nat) : World := { w with tape := t }
def reR {α : Type} (t : Nat → Question → Nat) : Result α → Result α
  | .ok a w => .ok a (re w t)
  | .halt h w => .halt h (re w t)
/-- The first's run looks at the tape where it draws, and nowhere else. -/
def LocT {α : Type} (P : Program) (s : Sem α) (A : World) (ea : Array Event) (x : Result α) (xs : Array Event) : Prop :=
  ∀ t : Nat → Question → Nat, (∀ m q, A.drawn ≤ m → (∀ a w, x = .ok a w → m < w.drawn) → t m q = A.tape m q) → s.runT P (re A t) ea = (reR t x, xs)

/-- THE SECOND FOLLOWS. -/
theorem SR.run {ρ : Rn} {s : Sem α} {s' : Sem β} (h : SR P L R ρ s s') : ∀ (A B : World) (ea eb : Array Event), WR L RO P.globals.size ρ A B → (P.globals.size ≤ A.heap.size ∧ P.globals.size ≤ B.heap.size) →
    (∃ hh w' es', s.runT P A ea = (.halt hh w', es') ∧ Bad hh) ∨
    ∃ x y xs es, s.runT P A ea = (x, xs) ∧ s'.runT P B eb = (y, eb ++ es) ∧ Ran L RO P.globals.size R ρ A B x y es ∧ LocT P s A ea x xs := by
  induction h with
  | pure h => intro A B ea eb hW hG; exact .inr ⟨_, _, _, #[], rfl, by simp only [Array.append_empty]; rfl, .ok .refl hW (fun e he => by simp at he) h, fun t ht => rfl⟩
  | @load ρ a b k k' hab _ ih =>
    intro A B ea eb hW hG
    cases hc : A.cell? a with
    | none =>
      obtain ⟨s, hs⟩ := hW.nocell hab P (Mode.plain == .atomic)
      exact .inl ⟨.stuck s, A, ea, by simp only [Sem.runT, hc, hs], .stuck _⟩
    | some v =>
      obtain ⟨v', hv', hvr⟩ := hW.cell hab hc
      rcases ih v v' hvr A B (ea.push ⟨.cell a, false, Mode.plain == .atomic⟩) (eb.push ⟨.cell b, false, Mode.plain == .atomic⟩) hW hG with ⟨hh, w', es', e, hb⟩ | ⟨x, y, xs, es, e1, e2, hr, hl⟩
      · exact .inl ⟨hh, w', es', by simp only [Sem.runT, hc]; exact e, hb⟩
      · refine .inr ⟨x, y, xs, #[⟨.cell b, false, false⟩] ++ es, by simp only [Sem.runT, hc]; exact e1, ?_, hr.behind .refl (fun e he => ?_), fun t ht => ?_⟩
        · simp only [Sem.runT, hv']; rw [e2, Array.push_eq_append, Array.append_assoc]; rfl
        · simp only [List.mem_toArray, List.mem_singleton] at he
          subst he
          exact .inl ⟨b, false, rfl, ⟨_, hab.blk⟩, by simp⟩
        · have hc' : (re A t).cell? a = some v := hc
          simp only [Sem.runT, hc']
          exact hl t ht
  | @store ρ a b v v' k k' hab hv _ ih =>
    intro A B ea eb hW hG
    by_cases hag : (∃ x, v = .agg x) ∨ ∃ x, v = .tuple x
    · obtain ⟨s, hs⟩ := runT_store_bad P .plain a v k A ea hag
      exact .inl ⟨_, _, _, hs, .stuck _⟩
    have hag' := fun x => hag (ne_agg_of_cell hv x)
    cases hc : A.cell? a with
    | none =>
      obtain ⟨s, hs⟩ := hW.nostore hab P v (Mode.plain == .atomic)
      exact .inl ⟨.stuck s, A, ea, by rw [runT_store P _ _ _ _ _ _ hag]; simp only [hc, hs], .stuck _⟩
    | some old =>
      cases hf : A.frozen? a with
      | true => exact .inl ⟨.unsupported (.unsafePointer "a write to bytes that a string shares"), A, ea, by rw [runT_store P _ _ _ _ _ _ hag]; simp only [hc, hf, if_true], .unsupported _ (fun g => by simp)⟩
      | false =>
        obtain ⟨⟨hro, hfz⟩, hW', hg'⟩ := hW.set hab hv hc hf
        obtain ⟨old', hc', _⟩ := hW.cell hab hc
        rcases ih (A.setCell a v) (B.setCell b v') (ea.push ⟨.cell a, true, Mode.plain == .atomic⟩) (eb.push ⟨.cell b, true, Mode.plain == .atomic⟩) hW' (by simpa [World.setCell] using hG) with ⟨hh, w', es', e, hb⟩ | ⟨x, y, xs, es, e1, e2, hr, hl⟩
        · exact .inl ⟨hh, w', es', by rw [runT_store P _ _ _ _ _ _ hag]; simp only [hc, hf, Bool.false_eq_true, if_false]; exact e, hb⟩
        · refine .inr ⟨x, y, xs, #[⟨.cell b, true, false⟩] ++ es, by rw [runT_store P _ _ _ _ _ _ hag]; simp only [hc, hf, Bool.false_eq_true, if_false]; exact e1, ?_, hr.behind hg' (fun e he => ?_), fun t ht => ?_⟩
          · rw [runT_store P _ _ _ _ _ _ hag']; simp only [hc', hfz, Bool.false_eq_true, if_false]; rw [e2, Array.push_eq_append, Array.append_assoc]; rfl
          · simp only [List.mem_toArray, List.mem_singleton] at he
            subst he
            exact .inl ⟨b, true, rfl, ⟨_, hab.blk⟩, fun _ => hro⟩
          · have hc' : (re A t).cell? a = some old := hc
            have hf' : (re A t).frozen? a = false := hf
            rw [runT_store P _ _ _ _ _ _ hag]
            simp only [hc', hf', Bool.false_eq_true, if_false]
            exact hl t ht
  | @cells ρ c c' e k k' hc _ ih =>
    intro A B ea eb hW hG
    obtain ⟨hW', hg'⟩ := hW.push (o := .cells c e) (o' := .cells c' e) hG (.cells e hc) (fun c e fr h => by injection h with _ _ h; exact h.symm)
    rcases ih A.heap.size B.heap.size _ _ ea eb hW' (by simp; omega) with ⟨hh, w', es', e, hb⟩ | ⟨x, y, xs, es, e1, e2, hr, hl⟩
    · exact .inl ⟨hh, w', es', by simp only [Sem.runT]; exact e, hb⟩
    · refine .inr ⟨x, y, xs, es, by simp only [Sem.runT]; exact e1, by simp only [Sem.runT]; exact e2, ?_, fun t ht => by simp only [Sem.runT]; exact hl t ht⟩
      have := hr.behind (es0 := #[]) hg' (fun e he => by simp at he)
      simpa using this
  | @number ρ a b l k k' hab _ ih =>
    intro A B ea eb hW hG
    obtain ⟨hW', hg'⟩ := hW.push (o := .number a l) (o' := .number b l) hG (.number l hab) (fun c e fr h => by cases h)
    rcases ih A.heap.size B.heap.size _ _ ea eb hW' (by simp; omega) with ⟨hh, w', es', e, hb⟩ | ⟨x, y, xs, es, e1, e2, hr, hl⟩
    · exact .inl ⟨hh, w', es', by simp only [Sem.runT]; exact e, hb⟩
    · refine .inr ⟨x, y, xs, es, by simp only [Sem.runT]; exact e1, by simp only [Sem.runT]; exact e2, ?_, fun t ht => by simp only [Sem.runT]; exact hl t ht⟩
      have := hr.behind (es0 := #[]) hg' (fun e he => by simp at he)
      simpa using this
  | @shape ρ r r' k k' hr _ ih =>
    intro A B ea eb hW hG
    have e := hW.shape hr
    rcases ih (A.shape? r) A B ea eb hW hG with ⟨hh, w', es', e, hb⟩ | ⟨x, y, xs, es, e1, e2, hr, hl⟩
    · exact .inl ⟨hh, w', es', by simp only [Sem.runT]; exact e, hb⟩
    · exact .inr ⟨x, y, xs, es, by simp only [Sem.runT]; exact e1, by simp only [Sem.runT, ← e]; exact e2, hr, fun t ht => by simp only [Sem.runT]; exact hl t ht⟩
  | @getObj ρ r r' k k' hr _ ih =>
    intro A B ea eb hW hG
    obtain ⟨o, o', h1, h2, ho⟩ := hW.obj _ _ hr
    cases ho with
    | cells e hc => exact .inl ⟨.stuck "getObj: a row of cells", A, ea, by simp only [Sem.runT, h1], .stuck _⟩
    | @number a b l hab =>
      rcases ih a b l hab A B (ea.push ⟨.obj r, false, Obj.isChan (.number a l)⟩) (eb.push ⟨.obj r', false, Obj.isChan (.number b l)⟩) hW hG with ⟨hh, w', es', e, hb⟩ | ⟨x, y, xs, es, e1, e2, hr', hl⟩
      · exact .inl ⟨hh, w', es', by simp only [Sem.runT, h1]; exact e, hb⟩
      · refine .inr ⟨x, y, xs, #[⟨.obj r', false, false⟩] ++ es, by simp only [Sem.runT, h1]; exact e1, ?_, hr'.behind .refl (fun e he => ?_), fun t ht => ?_⟩
        · simp only [Sem.runT, h2]; rw [e2, Array.push_eq_append, Array.append_assoc]; rfl
        · simp only [List.mem_toArray, List.mem_singleton] at he
          subst he
          exact .inr (.inl ⟨r', r, rfl, hr⟩)
        · have h1' : (re A t).heap[r]? = some (.number a l) := h1
          simp only [Sem.runT, h1']
          exact hl t ht
  | @choose ρ q k k' _ ih =>
    intro A B ea eb hW hG
    cases hq : q.forced with
    | true =>
      rcases ih 0 A B ea eb hW hG with ⟨hh, w', es', e, hb⟩ | ⟨x, y, xs, es, e1, e2, hr, hl⟩
      · exact .inl ⟨hh, w', es', by simp only [Sem.runT, hq, if_true]; exact e, hb⟩
      · exact .inr ⟨x, y, xs, es, by simp only [Sem.runT, hq, if_true]; exact e1, by simp only [Sem.runT, hq, if_true]; exact e2, hr, fun t ht => by simp only [Sem.runT, hq, if_true]; exact hl t ht⟩
    | false =>
      obtain ⟨hW', hg'⟩ := hW.draw
      have et : B.tape B.drawn q = A.tape A.drawn q := by have := hW.tape 0 q; simpa using this.symm
      rcases ih (q.cut (A.tape A.drawn q)) { A with drawn := A.drawn + 1 } { B with drawn := B.drawn + 1 } ea eb hW' hG with ⟨hh, w', es', e, hb⟩ | ⟨x, y, xs, es, e1, e2, hr, hl⟩
      · exact .inl ⟨hh, w', es', by simp only [Sem.runT, hq, Bool.false_eq_true, if_false]; exact e, hb⟩
      · refine .inr ⟨x, y, xs, es, by simp only [Sem.runT, hq, Bool.false_eq_true, if_false]; exact e1, by simp only [Sem.runT, hq, Bool.false_eq_true, if_false, et]; exact e2, ?_, fun t ht => ?_⟩
        · have := hr.behind (es0 := #[]) hg' (fun e he => by simp at he)
          simpa using this
        · have ed : t A.drawn q = A.tape A.drawn q := ht _ _ (Nat.le_refl _) fun a w hx => by
            subst hx
            cases hr with
            | ok hg _ _ _ => exact hg.drA
          simp only [Sem.runT, hq, Bool.false_eq_true, if_false]
          show (k (q.cut (t A.drawn q))).runT P (re { A with drawn := A.drawn + 1 } t) ea = _
          rw [ed]
          exact hl t fun m q hm hx => ht m q (by simp only at hm; omega) hx
  | @program ρ k k' _ ih =>
    intro A B ea eb hW hG
    rcases ih A B ea eb hW hG with ⟨hh, w', es', e, hb⟩ | ⟨x, y, xs, es, e1, e2, hr, hl⟩
    · exact .inl ⟨hh, w', es', by simp only [Sem.runT]; exact e, hb⟩
    · exact .inr ⟨x, y, xs, es, by simp only [Sem.runT]; exact e1, by simp only [Sem.runT]; exact e2, hr, fun t ht => by simp only [Sem.runT]; exact hl t ht⟩
  | @mark ρ k k' _ ih =>
    intro A B ea eb hW hG
    rcases ih A B (ea.push ⟨.mark .noRoom, false, true⟩) (eb.push ⟨.mark .noRoom, false, true⟩) hW hG with ⟨hh, w', es', e, hb⟩ | ⟨x, y, xs, es, e1, e2, hr, hl⟩
    · exact .inl ⟨hh, w', es', by simp only [Sem.runT]; exact e, hb⟩
    · refine .inr ⟨x, y, xs, #[⟨.mark .noRoom, false, true⟩] ++ es, by simp only [Sem.runT]; exact e1, ?_, hr.behind .refl (fun e he => ?_), fun t ht => by simp only [Sem.runT]; exact hl t ht⟩
      · simp only [Sem.runT]; rw [e2, Array.push_eq_append, Array.append_assoc]
      · simp only [List.mem_toArray, List.mem_singleton] at he
        subst he
        exact .inr (.inr rfl)
  | cong h1 h2 _ ih =>
    intro A B ea eb hW hG
    rw [h1, h2]
    rcases ih A B ea eb hW hG with h | ⟨x, y, xs, es, e1, e2, hr, hl⟩
    · exact .inl h
    · exact .inr ⟨x, y, xs, es, e1, e2, hr, fun t ht => (h1 _ _).trans (hl t ht)⟩
  | low _ ih =>
    intro A B ea eb hW hG
    exact ih hW.lo A B ea eb hW hG
  | bad h => intro A B ea eb hW hG; exact .inl (h A ea)
end

end Go.Par
namespace Go.Par

def EqR {α : Type} : Rn → α → α → Prop := fun _ a b => a = b
section
variable {P : Program} {L : FuncId → Prop} {ρ : Rn}

theorem SR.mbind {α β γ δ : Type} {R : Rn → α → β → Prop} {S : Rn → γ → δ → Prop} {s : Sem α} {s' : Sem β} {f : α → Sem γ} {f' : β → Sem δ}
    (h : SR P L R ρ s s') (hf : ∀ ρ' a b, Rn.Le ρ ρ' → R ρ' a b → SR P L S ρ' (f a) (f' b)) : SR P L S ρ (s >>= f) (s' >>= f') := SR.bind h hf
theorem SR.eqbind {α γ δ : Type} {S : Rn → γ → δ → Prop} {s s' : Sem α} {f : α → Sem γ} {f' : α → Sem δ}
    (h : SR P L EqR ρ s s') (hf : ∀ ρ' a, Rn.Le ρ ρ' → SR P L S ρ' (f a) (f' a)) : SR P L S ρ (s >>= f) (s' >>= f') := SR.bind h fun ρ' a b hle e => by cases e; exact hf ρ' a hle
theorem SR.ret {α β : Type} {R : Rn → α → β → Prop} {a : α} {b : β} (h : R ρ a b) : SR P L R ρ (Pure.pure a : Sem α) (Pure.pure b : Sem β) := .pure h
theorem SR.stuck {α β : Type} {R : Rn → α → β → Prop} (why : String) (s' : Sem β) : SR P L R ρ (Go.stuck why : Sem α) s' := .bad fun w es => ⟨_, w, es, rfl, .stuck _⟩
theorem SR.unsup {α β : Type} {R : Rn → α → β → Prop} {u : Unsupported} (hu : ∀ g, u ≠ .initOrder g) (s' : Sem β) : SR P L R ρ (Go.unsupported u : Sem α) s' := .bad fun w es => ⟨_, w, es, rfl, .unsupported _ hu⟩
theorem SR.gopanic {α β : Type} {R : Rn → α → β → Prop} (v : Value) (s' : Sem β) : SR P L R ρ (Go.goPanic v : Sem α) s' := .bad fun w es => ⟨_, w, es, rfl, .panic _⟩
theorem SR.rtpanic {α β : Type} {R : Rn → α → β → Prop} {e : RuntimeError} (he : (∃ x y s c, e = .bounds x y s c) ∨ (∃ m, e = .error m) ∨ (∃ m, e = .plain m) ∨ e = .nilDeref) (s' : Sem β) : SR P L R ρ (runtimePanic e : Sem α) s' := by
  rcases he with ⟨x, y, s, c, rfl⟩ | ⟨m, rfl⟩ | ⟨m, rfl⟩ | rfl <;> exact .bad fun w es => ⟨_, w, es, rfl, .panic _⟩
theorem SR.bounds {α β : Type} {R : Rn → α → β → Prop} (k : IntKind) (x y : Int) (c : BoundsCode) (s' : Sem β) : SR P L R ρ (boundsPanic k x y c : Sem α) s' := by
  refine .bad fun w es => ?_
  unfold boundsPanic
  split
  · refine ⟨_, _, _, rfl, .panic _⟩
  · refine ⟨_, _, _, rfl, .panic _⟩

theorem SR.prog {α β : Type} {R : Rn → α → β → Prop} {f : Program → Sem α} {f' : Program → Sem β} (h : SR P L R ρ (f P) (f' P)) : SR P L R ρ (Go.program >>= f) (Go.program >>= f') := .program h

theorem SR.typeInfo (t : TypeId) : SR P L EqR ρ (Go.typeInfo t) (Go.typeInfo t) := by
  refine .program ?_
  show SR P L EqR ρ (match P.info? t with | some i => Pure.pure i | none => Go.stuck _) (match P.info? t with | some i => Pure.pure i | none => Go.stuck _)
  cases P.info? t with
  | none => exact .stuck _ _
  | some i => exact SR.ret (R := EqR) rfl
theorem SR.typeInfo' (t : TypeId) : SR P L (fun _ a b => a = b ∧ P.info? t = some a) ρ (Go.typeInfo t) (Go.typeInfo t) := by
  refine .program ?_
  show SR P L _ ρ (match P.info? t with | some i => Pure.pure i | none => Go.stuck _) (match P.info? t with | some i => Pure.pure i | none => Go.stuck _)
  cases P.info? t with
  | none => exact .stuck _ _
  | some i => exact .ret ⟨rfl, rfl⟩
theorem SR.underlying (t : TypeId) : SR P L (fun _ a b => a = b ∧ P.underlying t = some a) ρ (Go.underlying t) (Go.underlying t) := by
  refine .program ?_
  show SR P L _ ρ (match P.underlying t with | some i => Pure.pure i | none => Go.stuck _) (match P.underlying t with | some i => Pure.pure i | none => Go.stuck _)
  cases P.underlying t with
  | none => exact .stuck _ _
  | some i => exact .ret ⟨rfl, rfl⟩
theorem SR.sizeOf (t : TypeId) : SR P L EqR ρ (Go.sizeOf t) (Go.sizeOf t) := .eqbind (.typeInfo t) fun _ _ _ => .ret rfl
theorem SR.isAgg (t : TypeId) : SR P L EqR ρ (Go.isAgg t) (Go.isAgg t) := by
  refine .mbind (.underlying t) fun ρ' a b _ h => ?_
  obtain ⟨rfl, _⟩ := h
  cases a <;> exact .ret rfl

/-! ### values without addresses -/
def plainV : Nat → Value → Bool
  | 0, _ => false
  | d + 1, .iface _ v => plainV d v
  | d + 1, .agg xs => xs.all (plainV d)
  | d + 1, .tuple xs => xs.all (plainV d)
  | _ + 1, .bool _ => true
  | _ + 1, .int _ _ => true
  | _ + 1, .string _ => true
  | _ + 1, .pointer none => true
  | _ + 1, .slice none _ _ => true
  | _ + 1, .nilFunc => true
  | _ + 1, .nilIface => true
  | _ + 1, _ => false
theorem plainV_all {d : Nat} (ih : ∀ v, plainV d v = true → VR L ρ v v) {xs : Array Value} (h : xs.all (plainV d) = true) : AR L ρ xs xs := by
  refine ⟨rfl, fun i a b ha hb => ?_⟩
  rw [ha] at hb; cases hb
  obtain ⟨hlt, rfl⟩ := Array.getElem?_eq_some_iff.1 ha
  exact ih _ (Array.all_eq_true.1 h i hlt)
theorem plainV_VR : ∀ (d : Nat) (v : Value), plainV d v = true → VR L ρ v v
  | 0, _, h => by simp [plainV] at h
  | d + 1, v, h => by
    cases v with
    | bool b => exact .bool b
    | int k n => exact .int k n
    | float k n => simp [plainV] at h
    | complex k n m => simp [plainV] at h
    | string s => exact .string s
    | pointer a => cases a with
      | none => exact .ptr0
      | some a => simp [plainV] at h
    | slice a l c => cases a with
      | none => exact .slice0 l c
      | some a => simp [plainV] at h
    | map r => simp [plainV] at h
    | chan r => simp [plainV] at h
    | func f x y => simp [plainV] at h
    | nilFunc => exact .nilFunc
    | iface t v => exact .iface t (plainV_VR d v (by simpa [plainV] using h))
    | nilIface => exact .nilIface
    | agg xs => exact (plainV_all (plainV_VR d) (by simpa [plainV] using h)).agg
    | tuple xs => exact (plainV_all (plainV_VR d) (by simpa [plainV] using h)).tuple

/-- The zero value of a type bears no address. -/
def zeroB (P : Program) (t : TypeId) : Bool := match P.info? t with
  | some i => match i.zero with
    | some v => plainV 12 v
    | none => true
  | none => true
theorem SR.zeroValue {t : TypeId} (h : zeroB P t = true) : SR P L (fun ρ a b => a = b ∧ VR L ρ a a) ρ (Go.zeroValue t) (Go.zeroValue t) := by
  refine .mbind (.typeInfo' t) fun ρ' a b _ hab => ?_
  obtain ⟨rfl, hi⟩ := hab
  simp only [zeroB, hi] at h
  cases hz : a.zero with
  | none => simp only; exact .unsup (by simp) _
  | some v => simp only [hz] at h; simp only; exact .ret ⟨rfl, plainV_VR 12 v h⟩

/-! ### memory -/
theorem SR.ld {a b : Addr} (h : AdR ρ a b) : SR P L (VR L) ρ (Go.load a) (Go.load b) := .load h fun _ _ hv => .ret hv
theorem SR.st {a b : Addr} {v v' : Value} (h : AdR ρ a b) (hv : VR L ρ v v') : SR P L EqR ρ (Go.store a v) (Go.store b v') := .store h hv (.ret rfl)
theorem SR.loadCellsFrom {a b : Addr} : ∀ (n i : Nat) {ρ : Rn} {x x' : Array Value}, AdR ρ a b → AR L ρ x x' → SR P L (AR L) ρ (Go.loadCellsFrom a i n x) (Go.loadCellsFrom b i n x')
  | 0, _, _, _, _, _, hx => .ret hx
  | n + 1, i, _, _, _, h, hx => .mbind (.ld (h.add i)) fun _ _ _ hle hv => SR.loadCellsFrom n (i + 1) (h.mono hle) ((hx.mono hle).push hv)
theorem SR.loadCells {a b : Addr} (n : Nat) (h : AdR ρ a b) : SR P L (AR L) ρ (Go.loadCells a n) (Go.loadCells b n) := SR.loadCellsFrom n 0 h .nil
/-- Two lists of values. -/
inductive LR (L : FuncId → Prop) (ρ : Rn) : List Value → List Value → Prop
  | nil : LR L ρ [] []
  | cons {v v' : Value} {x x' : List Value} : VR L ρ v v' → LR L ρ x x' → LR L ρ (v :: x) (v' :: x')
theorem LR.mono {ρ ρ' : Rn} (hle : Rn.Le ρ ρ') {x x' : List Value} (h : LR L ρ x x') : LR L ρ' x x' := by
  induction h with
  | nil => exact .nil
  | cons h1 _ ih => exact .cons (h1.mono hle) ih
theorem SR.storeCells {a b : Addr} : ∀ {x x' : List Value} (i : Nat) {ρ : Rn}, AdR ρ a b → LR L ρ x x' → SR P L EqR ρ (Go.storeCells a x i) (Go.storeCells b x' i)
  | [], _, _, _, _, hx => by cases hx; exact .ret rfl
  | v :: x, _, i, ρ, h, hx => by
    cases hx with
    | cons hv hx =>
      refine .eqbind (.st (h.add i) hv) fun ρ' _ hle => ?_
      exact SR.storeCells (i + 1) (h.mono hle) (hx.mono hle)
theorem AR.list {x x' : Array Value} (h : AR L ρ x x') : LR L ρ x.toList x'.toList := by
  obtain ⟨x⟩ := x
  obtain ⟨x'⟩ := x'
  obtain ⟨hs, ha⟩ := h
  simp only [List.size_toArray] at hs
  simp only [List.getElem?_toArray] at ha
  simp only
  induction x generalizing x' with
  | nil => cases x' with
    | nil => exact .nil
    | cons => simp at hs
  | cons v x ih =>
    cases x' with
    | nil => simp at hs
    | cons v' x' => exact .cons (ha 0 v v' rfl rfl) (ih x' (by simpa using hs) fun i a b h1 h2 => ha (i + 1) a b (by simpa using h1) (by simpa using h2))
theorem SR.loadVar (t : TypeId) {a b : Addr} (h : AdR ρ a b) : SR P L (VR L) ρ (Go.loadVar t a) (Go.loadVar t b) := by
  refine .eqbind (.isAgg t) fun ρ' x hle => ?_
  cases x with
  | true =>
    simp only [if_true]
    refine .eqbind (.sizeOf t) fun ρ'' n hle' => ?_
    exact .mbind (.loadCells n ((h.mono hle).mono hle')) fun _ _ _ _ hx => .ret hx.agg
  | false => simp only [Bool.false_eq_true, if_false]; exact .ld (h.mono hle)
theorem SR.storeVar (t : TypeId) {a b : Addr} {v v' : Value} (h : AdR ρ a b) (hv : VR L ρ v v') : SR P L EqR ρ (Go.storeVar t a v) (Go.storeVar t b v') := by
  refine .eqbind (.sizeOf t) fun ρ' n hle => ?_
  have hc := (hv.mono hle).cells
  rw [hc.size]
  split
  · exact .eqbind (.stuck _ _) fun _ _ _ => .storeCells 0 ((h.mono hle).mono ‹_›) ((hc.mono ‹_›).list)
  · exact .storeCells 0 (h.mono hle) hc.list
theorem SR.newRow (e : TypeId) {c c' : Array Value} (h : AR L ρ c c') : SR P L AdR ρ (Go.newRow e c) (Go.newRow e c') := by
  refine .cells h fun n n' => .pure ⟨.inr ⟨rfl, rfl⟩, rfl, rfl⟩
theorem SR.newVar (t : TypeId) {v v' : Value} (h : VR L ρ v v') : SR P L AdR ρ (Go.newVar t v) (Go.newVar t v') := .newRow t h.cells
theorem SR.part (t : TypeId) {c c' : Array Value} (off : Nat) (h : AR L ρ c c') : SR P L (VR L) ρ (Go.part t c off) (Go.part t c' off) := by
  refine .eqbind (.isAgg t) fun ρ' x hle => ?_
  cases x with
  | true =>
    simp only [if_true]
    exact .eqbind (.sizeOf t) fun ρ'' n hle' => .ret (((h.mono hle).mono hle').extract _ _).agg
  | false =>
    simp only [Bool.false_eq_true, if_false]
    cases e : c[off]? with
    | none => exact .stuck _ _
    | some v =>
      obtain ⟨v', e', hv⟩ := h.get e
      simp only [e']
      exact .ret (hv.mono hle)

/-! ### what is asked of a value -/
theorem SR.asIntOf {v v' : Value} (h : VR L ρ v v') : SR P L EqR ρ (Go.asIntOf v) (Go.asIntOf v') := by
  cases h <;> first | exact .ret rfl | exact .stuck _ _ | exact .unsup (by simp) _
theorem SR.asInt {v v' : Value} (h : VR L ρ v v') : SR P L EqR ρ (Go.asInt v) (Go.asInt v') := .eqbind (.asIntOf h) fun _ _ _ => .ret rfl
theorem SR.asBool {v v' : Value} (h : VR L ρ v v') : SR P L EqR ρ (Go.asBool v) (Go.asBool v') := by
  cases h <;> first | exact .ret rfl | exact .stuck _ _
theorem SR.asAgg {v v' : Value} (h : VR L ρ v v') : SR P L (AR L) ρ (Go.asAgg v) (Go.asAgg v') := by
  cases h <;> first | exact .stuck _ _ | (rename_i h1 h2; exact .ret ⟨h1, h2⟩)
theorem SR.sureAddr {v v' : Value} (h : VR L ρ v v') : SR P L AdR ρ (Instr.sureAddr v) (Instr.sureAddr v') := by
  cases h <;> first | exact .stuck _ _ | (rename_i h1; exact .ret h1)

/-! ### places -/
theorem SR.viewAt {r r' : Nat} (h : ρ r r') : SR P L (fun _ a b => a = none ∧ b = none) ρ (Go.viewAt r) (Go.viewAt r') := by
  refine .shape h fun s => ?_
  cases s with
  | some x => exact .pure ⟨rfl, rfl⟩
  | none => exact .getObj h fun a b l _ => .pure ⟨rfl, rfl⟩
theorem SR.numberAt {r r' : Nat} (h : ρ r r') : SR P L (fun ρ a b => (a = none ∧ b = none) ∨ ∃ x y l, a = some (x, l) ∧ b = some (y, l) ∧ AdR ρ x y) ρ (Go.numberAt r) (Go.numberAt r') := by
  refine .shape h fun s => ?_
  cases s with
  | some x => exact .pure (.inl ⟨rfl, rfl⟩)
  | none => exact .getObj h fun a b l hab => .pure (.inr ⟨a, b, l, rfl, rfl, hab⟩)
theorem SR.behindNumber {a b : Addr} (h : AdR ρ a b) : SR P L (fun ρ x y => AdR ρ x.1 y.1 ∧ x.2 = y.2) ρ (Go.behindNumber a) (Go.behindNumber b) := by
  refine .mbind (.numberAt h.blk) fun ρ' x y hle hxy => ?_
  rcases hxy with ⟨rfl, rfl⟩ | ⟨x, y, l, rfl, rfl, hxy⟩
  · exact .ret ⟨h.mono hle, rfl⟩
  · exact .ret ⟨hxy, rfl⟩
theorem SR.asNumber {a b : Addr} (l : Bool) (h : AdR ρ a b) : SR P L (VR L) ρ (Go.asNumber a l) (Go.asNumber b l) :=
  .number h fun _ _ => .pure (.ptr ⟨.inr ⟨rfl, rfl⟩, rfl, rfl⟩)
theorem SR.noView {a b : Addr} (h : AdR ρ a b) : SR P L EqR ρ (Go.noView a) (Go.noView b) := by
  refine .mbind (.viewAt h.blk) fun ρ' x y _ hxy => ?_
  obtain ⟨rfl, rfl⟩ := hxy
  exact .ret rfl
theorem SR.unsafeAdd (ts : Array TypeId) (t : TypeId) {x x' : Option Addr} {y y' : Value} (hx : VR L ρ (.pointer x) (.pointer x')) (hy : VR L ρ y y') :
    SR P L (fun ρ v v' => ∃ a b, v = .pointer (some a) ∧ v' = .pointer (some b) ∧ AdR ρ a b) ρ (Builtin.unsafeAdd_ ts t #[.pointer x, y]) (Builtin.unsafeAdd_ ts t #[.pointer x', y']) := by
  refine .eqbind (.asInt hy) fun ρ' n hle => ?_
  by_cases h0 : n = 0
  · simp only [h0, if_true]
    cases hx with
    | ptr0 => exact .unsup (by simp) _
    | ptr hab =>
      refine .mbind (.viewAt (hle _ _ hab.blk)) fun ρ'' u u' hle' hu => ?_
      obtain ⟨rfl, rfl⟩ := hu
      exact .ret ⟨_, _, rfl, rfl, (hab.mono hle).mono hle'⟩
  · simp only [h0, if_false]
    by_cases h1 : n < 0
    · simp only [h1, if_true]
      exact .bad fun w es => ⟨_, w, es, rfl, .unsupported _ (by simp)⟩
    · simp only [h1, if_false]
      cases hx with
      | ptr0 => exact .unsup (by simp) _
      | @ptr a b hab =>
        refine .mbind (R := EqR) (.shape (hle _ _ hab.blk) fun s => .pure rfl) fun ρ'' u u' hle' hu => ?_
        cases hu
        cases u with
        | none => exact .unsup (by simp) _
        | some u =>
          obtain ⟨e, cells⟩ := u
          refine .program ?_
          have hab' := (hab.mono hle).mono hle'
          show SR P L _ ρ'' (match cellAtBytes P P.depth e (cells / P.cellsOf e) a.off n with | some off => _ | none => _) (match cellAtBytes P P.depth e (cells / P.cellsOf e) b.off n with | some off => _ | none => _)
          rw [← hab'.off]
          cases hc : cellAtBytes P P.depth e (cells / P.cellsOf e) a.off n with
          | none => exact .unsup (by simp) _
          | some off => exact .ret ⟨_, _, rfl, rfl, hab'.blk, rfl, hab'.spot⟩
end
end Go.Par
namespace Go.Par

section
variable {P : Program} {L : FuncId → Prop} {ρ : Rn}

/-- Types at which '==' is let by: a bool, an integer, a slice (held against nil). -/
def okEq (P : Program) (t : TypeId) : Bool :=
  (match P.underlying t with | some .bool => true | some (.int _) => true | some (.slice _) => true | _ => false) &&
  (match (P.info? t).map (·.desc) with | some (TypeDesc.named n _) => n != "sync.copyChecker" | _ => true)

theorem SR.equalSmall {t : TypeId} {x x' y y' : Value} (ht : okEq P t = true) (hx : VR L ρ x x') (hy : VR L ρ y y') : SR P L EqR ρ (Op.equal t x y) (Op.equal t x' y') := by
  unfold Op.equal Op.maxDepth
  rw [show (10000 : Nat) = 9999 + 1 from rfl]
  refine .mbind (.underlying t) fun ρ' d d' hle hd => ?_
  obtain ⟨rfl, hd⟩ := hd
  simp only [okEq, hd, Bool.and_eq_true] at ht
  obtain ⟨h1, h2⟩ := ht
  cases d <;> simp only [Bool.false_eq_true] at h1
  · cases hx <;> first | exact .stuck _ _ | (cases hy <;> first | exact .stuck _ _ | exact .ret rfl)
  · cases hx with
    | int j n =>
      cases hy with
      | int j' n' =>
        simp only
        split
        · exact .ret rfl
        · exact .stuck _ _
      | ptr hab =>
        simp only
        by_cases h0 : n = 0
        · subst h0; exact .ret rfl
        · exact .bad fun w es => by
            refine ⟨.unsupported .addressObserved, w, es, ?_, .unsupported _ (by simp)⟩
            split <;> first | rfl | (exfalso; simp_all)
      | _ => first | exact .stuck _ _ | exact .unsup (by simp) _
    | ptr hab =>
      cases hy with
      | int j n =>
        by_cases h0 : n = 0
        · subst h0; exact .ret rfl
        · exact .bad fun w es => by
            refine ⟨.unsupported .addressObserved, w, es, ?_, .unsupported _ (by simp)⟩
            split <;> first | rfl | (exfalso; simp_all)
      | ptr hcd =>
        refine .mbind (.behindNumber (hab.mono hle)) fun ρ1 u u' hle1 hu => ?_
        refine .mbind (.behindNumber ((hcd.mono hle).mono hle1)) fun ρ2 v v' hle2 hv => ?_
        refine .program ?_
        refine .low fun hlo => ?_
        have hn : ¬ u.1.block < P.globals.size := by have := (hlo _ _ (hu.1.mono hle2).blk).1; omega
        have hn' : ¬ u'.1.block < P.globals.size := by have := (hlo _ _ (hu.1.mono hle2).blk).2; omega
        simp only [Sem.bind, hn, hn', decide_false, Bool.and_false, Bool.false_eq_true, if_false]
        refine .mbind (.typeInfo' t) fun ρ3 i i' _ hi => ?_
        obtain ⟨rfl, hi⟩ := hi
        rw [hi] at h2
        simp only [Option.map_some] at h2
        split
        · rename_i he
          rw [he] at h2
          simp at h2
        · exact .unsup (by simp) _
      | _ => first | exact .stuck _ _ | exact .unsup (by simp) _
    | _ => cases hy <;> first | exact .stuck _ _ | exact .unsup (by simp) _
  · cases hx <;> first | exact .stuck _ _ | (cases hy <;> first | exact .stuck _ _ | exact .ret rfl)

theorem SR.intArith (op : BinOp) (k : IntKind) (a b : Int) : SR P L (VR L) ρ (Op.intArith op k a b) (Op.intArith op k a b) := by
  cases op <;> first | exact .ret (.int _ _) | exact .stuck _ _
theorem SR.intDiv (op : BinOp) (k : IntKind) (a b : Int) : SR P L (VR L) ρ (Op.intDiv op k a b) (Op.intDiv op k a b) := by
  unfold Op.intDiv
  split
  · exact .rtpanic (.inr (.inl ⟨_, rfl⟩)) _
  · cases op <;> first | exact .ret (.int _ _) | exact .stuck _ _
theorem SR.intBits (op : BinOp) (k : IntKind) (a b : Int) : SR P L (VR L) ρ (Op.intBits op k a b) (Op.intBits op k a b) := by
  cases op <;> first | exact .ret (.int _ _) | exact .stuck _ _
theorem SR.shift (op : BinOp) (k : IntKind) (a : Int) (j : IntKind) (b : Int) : SR P L (VR L) ρ (Op.shift op k a j b) (Op.shift op k a j b) := by
  unfold Op.shift
  split
  · exact .rtpanic (.inr (.inl ⟨_, rfl⟩)) _
  · cases op <;> first | exact .ret (.int _ _) | exact .stuck _ _
theorem SR.intCmp (op : BinOp) (a b : Int) : SR P L (VR L) ρ (Op.intCmp op a b) (Op.intCmp op a b) := by
  cases op <;> first | exact .ret (.bool _) | exact .stuck _ _

/-- Which operators are let by, at which types. -/
def okBin (P : Program) (op : BinOp) (t : TypeId) : Bool :=
  match op with
  | .eql | .neq => okEq P t
  | _ => (match P.underlying t with | some (.int _) => true | _ => false)

theorem SR.movedNumber {t : TypeId} {k : IntKind} (ht : P.underlying t = some (.int k)) {x x' y y' : Value} (hx : VR L ρ x x') (hy : VR L ρ y y') (hp : ∃ a, x = .pointer a) :
    SR P L (VR L) ρ (Go.movedNumber t x y) (Go.movedNumber t x' y') := by
  refine .mbind (.underlying t) fun ρ' d d' hle hd => ?_
  obtain ⟨rfl, hd⟩ := hd
  rw [ht] at hd; cases hd
  simp only [Bool.false_eq_true, if_false]
  cases hx with
  | ptr0 => exact (SR.unsafeAdd _ _ .ptr0 (hy.mono hle)).le fun _ _ _ _ ⟨_, _, e1, e2, h⟩ => e1 ▸ e2 ▸ .ptr h
  | ptr hab =>
    refine .mbind (.behindNumber (hab.mono hle)) fun ρ'' u u' hle' hu => ?_
    obtain ⟨a, l⟩ := u
    obtain ⟨a', l'⟩ := u'
    obtain ⟨hu, hl⟩ := hu
    simp only at hu hl
    subst hl
    refine .mbind (.unsafeAdd _ _ (.ptr hu) ((hy.mono hle).mono hle')) fun ρ3 v v' _ hv => ?_
    obtain ⟨a1, b1, rfl, rfl, hb⟩ := hv
    first | exact .asNumber _ hb | (simp only []; split <;> first | exact .ret (.ptr hb) | exact .asNumber _ hb)
  | _ => obtain ⟨_, h⟩ := hp; cases h

theorem SR.nomove {t : TypeId} {k : IntKind} (ht : P.underlying t = some (.int k)) {x x' y y' : Value} (hx : VR L ρ x x') (hy : VR L ρ y y') (hp : ∃ a, x = .pointer a) :
    SR P L (VR L) ρ (do if (← Go.underlying t) matches .unsafePointer then Go.movedPointer t x y else Go.movedNumber t x y) (do if (← Go.underlying t) matches .unsafePointer then Go.movedPointer t x' y' else Go.movedNumber t x' y') := by
  refine .mbind (.underlying t) fun ρ' d d' hle hd => ?_
  obtain ⟨rfl, hd⟩ := hd
  rw [ht] at hd; cases hd
  simp only [Bool.false_eq_true, if_false]
  exact .movedNumber ht (hx.mono hle) (hy.mono hle) hp

theorem runT_twoPlaces {a b : Addr} (hn : P.globals.size ≤ a.block) (w : World) (es : Array Event) : (Op.twoPlaces a b).runT P w es = (.halt (.unsupported .addressObserved) w, es) := by
  unfold Op.twoPlaces
  by_cases hq : (a.block != b.block) = true
  · simp only [hq]
    rfl
  · simp only [hq]
    show ((if (false || decide (a.block ≥ P.globals.size)) = true then _ else _ : Sem (Nat × Nat))).runT P w es = _
    have : decide (a.block ≥ P.globals.size) = true := by simpa using hn
    rw [this]
    rfl
theorem SR.addrSub {β : Type} {R : Rn → Value → β → Prop} {a a' b : Addr} (k : IntKind) {s' : Sem β} (ha : AdR ρ a a') : SR P L R ρ (Op.addrSub k a b) s' := by
  refine .low fun hlo => .bad fun w es => ⟨.unsupported .addressObserved, w, es, ?_, .unsupported _ (by simp)⟩
  show (Sem.bind (Op.twoPlaces a b) _).runT P w es = _
  rw [runT_bind, runT_twoPlaces (hlo _ _ ha.blk).1]
theorem SR.addrCmp {β : Type} {R : Rn → Value → β → Prop} {a a' b : Addr} (op : BinOp) {s' : Sem β} (ha : AdR ρ a a') : SR P L R ρ (Op.addrCmp op a b) s' := by
  refine .low fun hlo => .bad fun w es => ⟨.unsupported .addressObserved, w, es, ?_, .unsupported _ (by simp)⟩
  show (Sem.bind (Op.twoPlaces a b) _).runT P w es = _
  rw [runT_bind, runT_twoPlaces (hlo _ _ ha.blk).1]

theorem SR.stringOp (op : BinOp) (a b : ByteArray) : SR P L (VR L) ρ (Op.stringOp op a b) (Op.stringOp op a b) := by
  cases op <;> first
    | exact .ret (.bool _)
    | exact .stuck _ _
    | (unfold Op.stringOp; simp only; split <;> first | exact .unsup (by simp) _ | exact .ret (.string _))

theorem SR.shapeAt {r r' : Nat} (h : ρ r r') : SR P L EqR ρ (Go.shape r) (Go.shape r') := .shape h fun _ => .pure rfl

theorem SR.byteOf {a a' : Addr} (h : AdR ρ a a') : SR P L EqR ρ (Go.byteOf a) (Go.byteOf a') := by
  unfold Go.byteOf
  rw [← h.spot, ← h.off]
  cases a.spot with
  | some s => exact .ret rfl
  | none =>
    refine .prog ?_
    refine .eqbind (.noView h) fun ρ' _ hle => ?_
    refine .eqbind (.shapeAt (hle _ _ h.blk)) fun ρ'' sh hle' => ?_
    cases sh with
    | none => exact .stuck _ _
    | some x =>
      obtain ⟨e, n⟩ := x
      simp only
      split
      · exact .ret rfl
      · split
        · exact .ret rfl
        · exact .stuck _ _

theorem SR.addrMod (k : IntKind) (n : Int) {a a' : Addr} (h : AdR ρ a a') : SR P L (VR L) ρ (Op.addrMod k a n) (Op.addrMod k a' n) := by
  refine .eqbind (.shapeAt h.blk) fun ρ' sh hle => ?_
  cases sh with
  | none => exact .unsup (by simp) _
  | some x =>
    obtain ⟨e, m⟩ := x
    refine .eqbind (.typeInfo e) fun ρ'' i hle' => ?_
    simp only
    split
    · exact .bad fun w es => ⟨_, w, es, rfl, .unsupported _ (by simp)⟩
    · exact .eqbind (.byteOf ((h.mono hle).mono hle')) fun _ _ _ => .ret (.int _ _)

/-- a value that is none is compared with none -/
theorem okEq_desc {t : TypeId} (ht : okEq P t = true) : ∃ d, P.underlying t = some d ∧ (d = .bool ∨ (∃ k, d = .int k) ∨ ∃ e, d = .slice e) := by
  simp only [okEq, Bool.and_eq_true] at ht
  cases hd : P.underlying t with
  | none => rw [hd] at ht; simp at ht
  | some d => rw [hd] at ht; cases d <;> simp at ht <;> exact ⟨_, rfl, by simp⟩
theorem runT_under {α : Type} {t : TypeId} {d : TypeDesc} (hd : P.underlying t = some d) (f : TypeDesc → Sem α) (w : World) (es : Array Event) : (Sem.bind (Go.underlying t) f).runT P w es = (f d).runT P w es := by
  rw [runT_bind]
  have : (Go.underlying t).runT P w es = (.ok d w, es) := by
    show (match P.underlying t with | some d => Sem.pure d | none => Sem.halt (.stuck "no such type") : Sem TypeDesc).runT P w es = _
    rw [hd]; rfl
  rw [this]
theorem junkL {t : TypeId} (y : Value) (ht : okEq P t = true) (w : World) (es : Array Event) : ∃ h w' es', (Op.equal t undef y).runT P w es = (.halt h w', es') ∧ Bad h := by
  obtain ⟨d, hd, h⟩ := okEq_desc ht
  unfold Op.equal Op.maxDepth
  rw [show (10000 : Nat) = 9999 + 1 from rfl]
  show ∃ h w' es', (Sem.bind (Go.underlying t) _).runT P w es = (.halt h w', es') ∧ Bad h
  rw [runT_under hd]
  rcases h with rfl | ⟨k, rfl⟩ | ⟨e, rfl⟩
  · exact ⟨_, w, es, rfl, .stuck _⟩
  · cases y with
    | pointer a => cases a <;> exact ⟨_, w, es, rfl, .unsupported _ (by simp)⟩
    | _ => exact ⟨_, w, es, rfl, .stuck _⟩
  · exact ⟨_, w, es, rfl, .stuck _⟩
theorem junkR {t : TypeId} (x : Value) (ht : okEq P t = true) (w : World) (es : Array Event) : ∃ h w' es', (Op.equal t x undef).runT P w es = (.halt h w', es') ∧ Bad h := by
  obtain ⟨d, hd, h⟩ := okEq_desc ht
  unfold Op.equal Op.maxDepth
  rw [show (10000 : Nat) = 9999 + 1 from rfl]
  show ∃ h w' es', (Sem.bind (Go.underlying t) _).runT P w es = (.halt h w', es') ∧ Bad h
  rw [runT_under hd]
  rcases h with rfl | ⟨k, rfl⟩ | ⟨e, rfl⟩
  · cases x <;> exact ⟨_, w, es, rfl, .stuck _⟩
  · cases x with
    | pointer a => cases a <;> exact ⟨_, w, es, rfl, .unsupported _ (by simp)⟩
    | _ => exact ⟨_, w, es, rfl, .stuck _⟩
  · cases x with
    | slice a l c => cases a <;> exact ⟨_, w, es, rfl, .stuck _⟩
    | _ => exact ⟨_, w, es, rfl, .stuck _⟩
theorem SR.badL {α β γ : Type} {R : Rn → β → γ → Prop} {s : Sem α} {f : α → Sem β} {s' : Sem γ} (h : ∀ w es, ∃ h w' es', s.runT P w es = (.halt h w', es') ∧ Bad h) : SR P L R ρ (s >>= f) s' :=
  .bad fun w es => by
    obtain ⟨hh, w', es', e, hb⟩ := h w es
    exact ⟨hh, w', es', by show (Sem.bind s f).runT P w es = _; rw [runT_bind, e], hb⟩

set_option maxHeartbeats 2000000 in
theorem SR.bin {op : BinOp} {t : TypeId} (ht : okBin P op t = true) {x x' y y' : Value} (hx : VR L ρ x x') (hy : VR L ρ y y') : SR P L (VR L) ρ (Go.binOp op t x y) (Go.binOp op t x' y') := by
  have hx0 := hx
  have hy0 := hy
  by_cases he : op = .eql ∨ op = .neq
  · rcases he with rfl | rfl <;>
    (cases hx <;> cases hy <;> first
      | exact .stuck _ _
      | exact SR.eqbind (.equalSmall ht hx0 hy0) fun _ _ _ => .ret (.bool _)
      | exact SR.badL (junkL _ ht)
      | exact SR.badL (junkR _ ht)
      | (simp only [Go.binOp]; exact .stringOp _ _ _)
      | (simp only [Go.binOp]; split <;> first | exact .stuck _ _ | exact .intCmp _ _ _))
  · have hk : ∃ k, P.underlying t = some (.int k) := by
      cases op <;> simp only [okBin] at ht <;> first
        | exact absurd (.inl rfl) he
        | exact absurd (.inr rfl) he
        | (split at ht <;> first | exact ⟨_, by assumption⟩ | cases ht)
    obtain ⟨k, hk⟩ := hk
    cases op <;> first
      | exact absurd (.inl rfl) he
      | exact absurd (.inr rfl) he
      | (cases hx <;> cases hy <;> first
          | exact .stuck _ _
          | exact .unsup (by simp) _
          | (simp only [Go.binOp]; exact .stringOp _ _ _)
          | (simp only [Go.binOp]; exact .shift _ _ _ _ _)
          | (simp only [Go.binOp]; split <;> first | exact .stuck _ _ | exact .intArith _ _ _ _ | exact .intDiv _ _ _ _ | exact .intBits _ _ _ _ | exact .intCmp _ _ _)
          | exact SR.nomove hk hx0 hy0 ⟨_, rfl⟩
          | exact SR.movedNumber hk hy0 hx0 ⟨_, rfl⟩
          | exact SR.movedNumber hk hx0 (.int _ _) ⟨_, rfl⟩
          | (rename_i h1 _ _ h2; exact SR.mbind (.behindNumber h1) fun _ _ _ hle hu => SR.mbind (.behindNumber (h2.mono hle)) fun _ _ _ hle' _ => SR.addrSub _ (hu.1.mono hle'))
          | (rename_i h1 _ _ h2; exact SR.mbind (.behindNumber h1) fun _ _ _ hle hu => SR.mbind (.behindNumber (h2.mono hle)) fun _ _ _ hle' _ => SR.addrCmp _ (hu.1.mono hle'))
          | (rename_i h1 _ _; exact SR.mbind (.behindNumber h1) fun _ _ _ hle hu => SR.addrMod _ _ hu.1)
          | (rename_i h1; exact SR.mbind (.behindNumber h1) fun _ _ _ hle hu => SR.addrMod _ _ hu.1)
          | trace_state)
end
end Go.Par
