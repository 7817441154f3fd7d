/- Proved: a machine of one goroutine whose frames hang over a bottom that nobody returns from comes back to the bottom once at most. Conditions: none. Proved: A CONTRACT OF A LONE CALL HOLDS IN COMPANY: where a call comes to its return in a machine of its own, whatever the tape, it comes to its return beside other goroutines too, within a tree of steps of its own, touching its own blocks alone. Conditions: its code is let by; the others keep its blocks. Proved: A CONTRACT OF A LONE CALL HOLDS IN COMPANY. Conditions: the call's code is let by; in a machine of its own it returns, whatever the tape; the others keep its blocks. Proved: A CONTRACT OF A LONE CALL HOLDS IN COMPANY, as a walk of the goroutine's own. Conditions: the call's code is let by; in a machine of its own it returns, whatever the tape; the others keep its blocks. Proved: A CALL IN COMPANY by its lone contract, from its entry to its return into its caller. Conditions: its code is let by; in a machine of its own it returns, whatever the tape; the others keep its blocks. Proved: A PIECE OF CODE IN COMPANY by its lone contract (Code.wp), in whatever frame. Conditions: the code is let by; in a machine of its own it comes to its end or to a return, whatever the tape; the others keep its blocks. Proved: A PIECE OF CODE IN COMPANY by its lone contract (Code.wp), in whatever frame: the walk. Conditions: the code is let by; in a machine of its own it comes to its end or to a return, whatever the tape; the others keep its blocks. Proved: steps of a walk in company, laid one by one; a walk that needs fewer blocks than its goroutine has. Conditions: none. Proved: a call in company; blocks that are not to be written are frozen ahead in the lone world. Conditions: none. Proved: a piece of code in company, the lone contract being asked of the world as it stands; what is read of cells behind it. Conditions: none. Proved: every order that the tape can pick of a region that draws lies in a list that the kernel reckons. Conditions: none. Proved: a block of ints has a fellow in the lone world. Conditions: none. Proved: goroutine 0's walk is carried out by the machine beside goroutines that only leave, on whatever tape. Conditions: the walk lists nothing that is shunned. Proved: pieces of code and calls that write no old block, where nobody else turns the memory; sets of plain blocks joined. Conditions: none. Proved: beside goroutines that only leave, goroutine 0's turn comes; its receives from a channel with a buffer; its return. Conditions: none but the stops'. -/
import Derived.Test.YtacedadenbinmaaZc
import Derived.Conc.Walk
import Derived.Orders
import Derived.Conc.CompanyDraw
import Derived.Below
import Derived.Conc.WgWords
import Derived.Conc.Beside
import Derived.Conc.CrowdComm
import Derived.Conc.CrowdCom2
set_option linter.unusedVariables false
set_option linter.unusedSimpArgs false
set_option linter.unusedSectionVars false
namespace Go.Par
open Go.Conc

def dn : Deferred := { target := .nil, args := #[] }
/-- The bottom: whoever comes to it, by a return or by a panic, ends badly. -/
def c0 (P : Program) : Frame := { fn := P.funcs.size, tmps := #[], todo := [], defers := [dn, dn], mode := .run, kind := .normal }

section
variable {P : Program}
/-- From here nobody comes to the bottom's last call but by a panic. -/
def Lost (P : Program) (m : Machine) : Prop := ∀ n fr w, runN P n m = .next (lone fr [c0 P] w) → ∃ chain, fr.mode = .panicking chain

theorem lost_ended {m : Machine} {o : Outcome} {w : World} (h : step P m = .ended o w) (h0 : ∀ fr w, m = lone fr [c0 P] w → ∃ chain, fr.mode = .panicking chain) : Lost P m := by
  intro n fr w hn
  cases n with
  | zero => simp only [runN, Stepped.next.injEq] at hn; exact h0 fr w hn
  | succ n => simp only [runN, h] at hn; cases hn
theorem lost_next {m m' : Machine} (h : step P m = .next m') (h0 : ∀ fr w, m = lone fr [c0 P] w → ∃ chain, fr.mode = .panicking chain) (h1 : Lost P m') : Lost P m := by
  intro n fr w hn
  cases n with
  | zero => simp only [runN, Stepped.next.injEq] at hn; exact h0 fr w hn
  | succ n => simp only [runN, h] at hn; exact h1 n fr w hn

theorem lone_inj {fr fr' : Frame} {cs cs' : List Frame} {w w' : World} (h : lone fr cs w = lone fr' cs' w') : fr = fr' ∧ cs = cs' ∧ w = w' := by
  simp only [lone, Machine.mk.injEq, Array.mk.injEq, List.cons.injEq, Goroutine.mk.injEq, and_true] at h
  exact ⟨h.2.1, h.2.2, h.1⟩

theorem step_go {f f' : Frame} {cs cs' : List Frame} {w w' : World} {es : Array Event} (h : stepG P true (G f cs) w = .go (G f' cs') w' es) : step P (lone f cs w) = .next (lone f' cs' w') :=
  step_lone_go (by rw [show ({ frame := f, callers := cs, status := .running, dying := none } : Goroutine) = G f cs from rfl, h]; rfl)
theorem step_ended {f : Frame} {cs : List Frame} {w w' : World} {o : Outcome} {es : Array Event} (h : stepG P true (G f cs) w = .ended o w' es) : step P (lone f cs w) = .ended o w' :=
  step_lone_ended (by rw [show ({ frame := f, callers := cs, status := .running, dying := none } : Goroutine) = G f cs from rfl, h]; rfl)

theorem lost_c0_panic (chain : List PanicEntry) (ds : List Deferred) (w : World) : Lost P (lone { c0 P with mode := .panicking chain, defers := dn :: ds } [] w) := by
  refine lost_ended (P := P) (o := _) (w := _) (step_ended (es := _) (by simp only [stepG, unwind, G, callDeferred, dn, Bool.and_self, if_true]; rfl)) fun fr w' h => ?_
  have := (lone_inj h).2.1
  cases this

theorem lost_c0 (w : World) : Lost P (lone (c0 P) [] w) := by
  have no : ∀ (f : Frame) (w : World) fr w', lone f [] w = lone fr [c0 P] w' → ∃ chain, fr.mode = .panicking chain := fun f w fr w' h => by have := (lone_inj h).2.1; cases this
  refine lost_next (m' := lone { c0 P with mode := .returning } [] w) (step_go (es := #[]) (by simp [stepG, stepG.exec, G, c0])) (no _ _) ?_
  refine lost_next (m' := lone { c0 P with mode := .panicking [⟨.iface P.rt.errorString (strVal "invalid memory address or nil pointer dereference"), false, false⟩], defers := [dn] } [] w) (step_go (es := seen P P.funcs.size #[] ++ #[]) ?_) (no _ _) (lost_c0_panic _ _ _)
  simp only [stepG, unwind, G, c0, callDeferred, dn]
  rfl

theorem lost_panic {L : FuncId → Prop} {LB : FuncId → Bool} {kx : BX} {str : Bool} {ρ : Rn} {b' cs cs' : List Frame} (hc : CR P L LB kx str ρ [c0 P] b' cs cs') : ∀ {f : Frame} {chain : List PanicEntry} {w : World}, f.mode = .panicking chain → f.defers = [] → (∃ fn, P.funcs[f.fn]? = some fn) → Lost P (lone f cs w) := by
  induction hc with
  | nil =>
    intro f chain w hm hd ⟨fn, hf⟩
    have hcat : f.catches P = false := by simp [Frame.catches, hf]
    refine lost_next (m' := lone { c0 P with mode := .panicking chain, defers := [dn, dn] } [] w) (step_go (es := #[]) ?_) (fun fr w' h => ?_) (lost_c0_panic _ _ _)
    · simp [stepG, unwind, G, hm, hd, hcat, Frame.raise, c0]
    · exact ⟨chain, by rw [← (lone_inj h).1, hm]⟩
  | @cons st c c' cs cs' hcf _ hcm _ _ ih =>
    intro f chain w hm hd ⟨fn, hf⟩
    have hcat : f.catches P = false := by simp [Frame.catches, hf]
    refine lost_next (m' := lone (c.raise chain) cs w) (step_go (es := #[]) ?_) (fun fr w' h => ?_) (ih (chain := chain) ?_ ?_ ?_)
    · simp [stepG, unwind, G, hm, hd, hcat]
    · exact ⟨chain, by rw [← (lone_inj h).1, hm]⟩
    · simp [Frame.raise, hcm]
    · simp [Frame.raise, hcm, hcf.def1]
    · obtain ⟨fn, h⟩ := hcf.bod
      exact ⟨fn, by simpa [Frame.raise, hcm] using h⟩

/-- Behind the bottom's last call's return. -/
theorem lost_behind {f : Frame} {w : World} (hm : f.mode = .returning) (hd : f.defers = []) (hk : f.kind = .normal) (hf : ∃ fn, P.funcs[f.fn]? = some fn) {n : Nat} {fr : Frame} {w' : World}
    (h : runN P (n + 1) (lone f [c0 P] w) = .next (lone fr [c0 P] w')) : ∃ chain, fr.mode = .panicking chain := by
  obtain ⟨fn, hfn⟩ := hf
  cases hr : (results fn f.tmps).runT P w #[] with
  | mk r es =>
    cases r with
    | ok v w1 =>
      have hs : step P (lone f [c0 P] w) = .next (lone (c0 P) [] w1) := step_go (es := seen P f.fn es ++ #[]) (by simp only [stepG, unwind, G, hm, hd, hk, hfn, hr, doReturn]; rfl)
      simp only [runN, hs] at h
      exact lost_c0 w1 n fr w' h
    | halt hh w1 =>
      have hs : ∃ o w2, step P (lone f [c0 P] w) = .ended o w2 := by
        cases hh <;> exact ⟨_, _, step_ended (es := _) (by simp only [stepG, unwind, G, hm, hd, hfn, hr]; rfl)⟩
      obtain ⟨o, w2, hs⟩ := hs
      simp only [runN, hs] at h
      cases h
end
end Go.Par
namespace Go.Par
open Go.Conc

/-! ### a walk in company that is measured by a tree -/
inductive T where
  | leaf
  | node (f : World → T)
inductive T.Lt : T → T → Prop
  | mk (f : World → T) (w : World) : T.Lt (f w) (.node f)
theorem T.wf : WellFounded T.Lt := ⟨fun t => by
  induction t with
  | leaf => exact ⟨_, fun y h => by cases h⟩
  | node f ih => exact ⟨_, fun y h => by cases h with | mk _ w => exact ih w⟩⟩
/-- A tree of n steps. -/
def T.chain : Nat → T
  | 0 => .leaf
  | n + 1 => .node fun _ => T.chain n

/-- What the others may do to the world: 'S' is asked of them; a goroutine's own blocks they keep; they take no block away. -/
structure Ry (S : World → World → Prop) (own : Nat → Prop) (w w₁ : World) : Prop where
  st : S w w₁
  own : ∀ b, own b → w₁.heap[b]? = w.heap[b]?
  size : w.heap.size ≤ w₁.heap.size
/-- The blocks that have come to be belong to whoever made them. -/
def More (own : Nat → Prop) (w w' : World) : Nat → Prop := fun b => own b ∨ (w.heap.size ≤ b ∧ b < w'.heap.size)

/-- ON ITS WAY TO A STOP, within the tree's steps; ahead of each step the others may have turned the world; 'own': its own blocks. -/
def GoesO (P : Program) (m : Bool) (S : World → World → Prop) (D : (Nat → Prop) → World → World → Array Event → Prop) (Stop : (Nat → Prop) → Goroutine → World → Prop) : T → (Nat → Prop) → Goroutine → World → Prop
  | .leaf, own, g, w => ∀ w₁, Ry S own w w₁ → Stop own g w₁
  | .node f, own, g, w => (∀ w₁, Ry S own w w₁ → Stop own g w₁) ∨
      (g.status = .running ∧ ∀ w₁, Ry S own w w₁ → ∃ g' w' es, stepG P m g w₁ = .go g' w' es ∧ D own w₁ w' es ∧ GoesO P m S D Stop (f w₁) (More own w₁ w') g' w')

structure Tr (S : World → World → Prop) : Prop where
  refl : ∀ w, S w w
  trans : ∀ a b c, S a b → S b c → S a c

section
variable {P : Program} {m : Bool} {S : World → World → Prop} {D D' : (Nat → Prop) → World → World → Array Event → Prop} {Stop Stop' : (Nat → Prop) → Goroutine → World → Prop}

theorem Ry.refl (hS : Tr S) (own : Nat → Prop) (w : World) : Ry S own w w := ⟨hS.refl w, fun _ _ => rfl, Nat.le_refl _⟩
theorem Ry.trans (hS : Tr S) {own : Nat → Prop} {a b c : World} (h : Ry S own a b) (k : Ry S own b c) : Ry S own a c :=
  ⟨hS.trans _ _ _ h.st k.st, fun x hx => (k.own x hx).trans (h.own x hx), Nat.le_trans h.size k.size⟩

theorem GoesO.rely (hS : Tr S) {t : T} {own : Nat → Prop} {g : Goroutine} {w w₁ : World} (h : GoesO P m S D Stop t own g w) (hr : Ry S own w w₁) : GoesO P m S D Stop t own g w₁ := by
  cases t with
  | leaf => exact fun w₂ h₂ => h w₂ (hr.trans hS h₂)
  | node f =>
    rcases h with h | ⟨hs, h⟩
    · exact .inl fun w₂ h₂ => h w₂ (hr.trans hS h₂)
    · exact .inr ⟨hs, fun w₂ h₂ => h w₂ (hr.trans hS h₂)⟩

theorem GoesO.stop {t : T} {own : Nat → Prop} {g : Goroutine} {w : World} (h : ∀ w₁, Ry S own w w₁ → Stop own g w₁) : GoesO P m S D Stop t own g w := by
  cases t with
  | leaf => exact h
  | node f => exact .inl h

/-- WHAT COMES BEHIND A STOP. -/
theorem GoesO.seq {t : T} : ∀ {own : Nat → Prop} {g : Goroutine} {w : World}, GoesO P m S D Stop t own g w →
    (∀ own g w, (∀ w₁, Ry S own w w₁ → Stop own g w₁) → ∃ t', GoesO P m S D Stop' t' own g w) → ∃ t', GoesO P m S D Stop' t' own g w := by
  induction t with
  | leaf => intro own g w h hk; exact hk _ _ _ h
  | node f ih =>
    intro own g w h hk
    rcases h with h | ⟨hs, h⟩
    · exact hk _ _ _ h
    · have key : ∀ w₁, ∃ t', Ry S own w w₁ → ∃ g' w' es, stepG P m g w₁ = .go g' w' es ∧ D own w₁ w' es ∧ GoesO P m S D Stop' t' (More own w₁ w') g' w' := by
        intro w₁
        by_cases hr : Ry S own w w₁
        · obtain ⟨g', w', es, h1, h2, h3⟩ := h w₁ hr
          obtain ⟨t', ht'⟩ := ih w₁ h3 hk
          exact ⟨t', fun _ => ⟨g', w', es, h1, h2, ht'⟩⟩
        · exact ⟨.leaf, fun h => absurd h hr⟩
      exact ⟨.node fun w₁ => Classical.choose (key w₁), .inr ⟨hs, fun w₁ hr => Classical.choose_spec (key w₁) hr⟩⟩

theorem GoesO.mono {t : T} (hD : ∀ own w w' es, D own w w' es → D' own w w' es) (hst : ∀ own g w, Stop own g w → Stop' own g w) : ∀ {own : Nat → Prop} {g : Goroutine} {w : World}, GoesO P m S D Stop t own g w → GoesO P m S D' Stop' t own g w := by
  induction t with
  | leaf => intro own g w h w₁ hr; exact hst _ _ _ (h w₁ hr)
  | node f ih =>
    intro own g w h
    rcases h with h | ⟨hs, h⟩
    · exact .inl fun w₁ hr => hst _ _ _ (h w₁ hr)
    · refine .inr ⟨hs, fun w₁ hr => ?_⟩
      obtain ⟨g', w', es, h1, h2, h3⟩ := h w₁ hr
      exact ⟨g', w', es, h1, hD _ _ _ _ h2, ih w₁ h3⟩

/-- One step. -/
theorem GoesO.step {own : Nat → Prop} {g : Goroutine} {w : World} (hs : g.status = .running)
    (h : ∀ w₁, Ry S own w w₁ → ∃ g' w' es, stepG P m g w₁ = .go g' w' es ∧ D own w₁ w' es ∧ ∃ t, GoesO P m S D Stop t (More own w₁ w') g' w') : ∃ t, GoesO P m S D Stop t own g w := by
  have key : ∀ w₁, ∃ t', Ry S own w w₁ → ∃ g' w' es, stepG P m g w₁ = .go g' w' es ∧ D own w₁ w' es ∧ GoesO P m S D Stop t' (More own w₁ w') g' w' := by
    intro w₁
    by_cases hr : Ry S own w w₁
    · obtain ⟨g', w', es, h1, h2, t', h3⟩ := h w₁ hr
      exact ⟨t', fun _ => ⟨g', w', es, h1, h2, h3⟩⟩
    · exact ⟨.leaf, fun h => absurd h hr⟩
  exact ⟨.node fun w₁ => Classical.choose (key w₁), .inr ⟨hs, fun w₁ hr => Classical.choose_spec (key w₁) hr⟩⟩

/-- The library's judgement, where nothing is made and nothing is listed. -/
theorem GoesO.of_goes {R : World → World → Prop} {Dl : World → World → Array Event → Prop} {St : Goroutine → World → Prop} {own : Nat → Prop}
    (hR : ∀ w w₁, Ry S own w w₁ → R w w₁) (hD : ∀ w w' es, Dl w w' es → w'.heap.size = w.heap.size ∧ D own w w' es) (hst : ∀ g w, St g w → Stop own g w) :
    ∀ {n : Nat} {g : Goroutine} {w : World}, Goes P m R Dl St n g w → GoesO P m S D Stop (T.chain n) own g w := by
  intro n
  induction n with
  | zero => intro g w h w₁ hr; exact hst _ _ (h w₁ (hR _ _ hr))
  | succ n ih =>
    intro g w h
    rcases h with h | ⟨hs, h⟩
    · exact .inl fun w₁ hr => hst _ _ (h w₁ (hR _ _ hr))
    · refine .inr ⟨hs, fun w₁ hr => ?_⟩
      have := h w₁ (hR _ _ hr)
      cases e : stepG P m g w₁ with
      | go g' w' es =>
        rw [e] at this
        obtain ⟨hd, hg⟩ := this
        obtain ⟨hz, hd'⟩ := hD _ _ _ hd
        refine ⟨g', w', es, rfl, hd', ?_⟩
        have eo : More own w₁ w' = own := by
          funext b
          simp only [More, hz, eq_iff_iff]
          exact ⟨fun h => h.elim id fun h => by omega, .inl⟩
        rw [eo]
        exact ih hg
      | _ => rw [e] at this; exact this.elim
end
end Go.Par
namespace Go.Par
open Go.Conc

structure St where
  f : Frame
  cs : List Frame
  A : World
  f' : Frame
  cs' : List Frame
  B : World
  ρ : Rn

/-- Which frames a walk stops at: none that is left by a panic; each that is about to return. -/
structure Halts (Q : Frame → Prop) : Prop where
  runs : ∀ f, Q f → f.mode = .run ∨ f.mode = .returning
  ret : ∀ f, f.mode = .returning → Q f
theorem Halts.nopanic {Q : Frame → Prop} (h : Halts Q) {f : Frame} (hf : Q f) {chain : List PanicEntry} (e : f.mode = .panicking chain) : False := by
  rcases h.runs f hf with h | h <;> (rw [e] at h; cases h)

def St.done (P : Program) (Q : Frame → Prop) (s : St) : Prop := Q s.f ∧ s.cs = [c0 P]

structure Inv (P : Program) (L : FuncId → Prop) (LB : FuncId → Bool) (kx : BX) (str : Bool) (RO : Nat → Prop) (b' : List Frame) (s : St) : Prop where
  wr : WR L RO P.globals.size s.ρ s.A s.B
  gl : P.globals.size ≤ s.A.heap.size ∧ P.globals.size ≤ s.B.heap.size
  fr : ∃ st, FR P L LB kx s.ρ st s.f s.f' ∧ HS st str s.cs [c0 P]
  cr : CR P L LB kx str s.ρ [c0 P] b' s.cs s.cs'

/-- How the first has come here: on each tape that agrees with 't0' as far as it has drawn. -/
def Hist (P : Program) (Q : Frame → Prop) (f0 : Frame) (A0 : World) (s : St) : Prop :=
  A0.drawn ≤ s.A.drawn ∧ ∃ (k : Nat) (t0 : Nat → Question → Nat), ∀ t : Nat → Question → Nat, (∀ m q, A0.drawn ≤ m → m < s.A.drawn → t m q = t0 m q) →
    runN P k (lone f0 [c0 P] (re A0 t)) = .next (lone s.f s.cs (re s.A t)) ∧ ∀ j, j < k → ∀ fr w, runN P j (lone f0 [c0 P] (re A0 t)) = .next (lone fr [c0 P] w) → ¬ Q fr

/-- What is known of the walk in a machine of its own: it comes to a stop, and what holds there. -/
def Comes1 (P : Program) (Q : Frame → Prop) (f0 : Frame) (A0 : World) (Fin : Frame → World → Prop) : Prop :=
  ∀ t : Nat → Question → Nat, ∃ n fr w', runN P n (lone f0 [c0 P] (re A0 t)) = .next (lone fr [c0 P] w') ∧ Q fr ∧ Fin fr w' ∧
    ∀ j, j < n → ∀ fr w, runN P j (lone f0 [c0 P] (re A0 t)) = .next (lone fr [c0 P] w) → fr.defers = [] → fr.kind = .normal → fr.roundOf = none → (∃ fn, P.funcs[fr.fn]? = some fn) → ¬ Q fr

/-- A step of the pair. -/
def Nxt (P : Program) (Q : Frame → Prop) (s' s : St) : Prop :=
  ¬ s.done P Q ∧ s.A.drawn ≤ s'.A.drawn ∧ ∃ (t0 : Nat → Question → Nat) (es : Array Event), ∀ t : Nat → Question → Nat, (∀ m q, s.A.drawn ≤ m → m < s'.A.drawn → t m q = t0 m q) →
    stepG P true (G s.f s.cs) (re s.A t) = .go (G s'.f s'.cs) (re s'.A t) es

section
variable {P : Program} {L : FuncId → Prop} {LB : FuncId → Bool} {kx : BX} {str : Bool} {RO : Nat → Prop} {b' : List Frame} {f0 : Frame} {A0 : World} {Q : Frame → Prop} {Fin : Frame → World → Prop}

theorem Hist.next {s s' : St} (h : Hist P Q f0 A0 s) (hn : Nxt P Q s' s) : Hist P Q f0 A0 s' := by
  obtain ⟨hd, k, t0, hk⟩ := h
  obtain ⟨hnd, hdr, t1, es, hs⟩ := hn
  refine ⟨Nat.le_trans hd hdr, k + 1, fun m q => if m < s.A.drawn then t0 m q else t1 m q, fun t ht => ?_⟩
  have h1 : ∀ m q, A0.drawn ≤ m → m < s.A.drawn → t m q = t0 m q := fun m q hm1 hm2 => (ht m q hm1 (by omega)).trans (if_pos hm2)
  have h2 : ∀ m q, s.A.drawn ≤ m → m < s'.A.drawn → t m q = t1 m q := fun m q hm1 hm2 => (ht m q (by omega) hm2).trans (if_neg (by omega))
  obtain ⟨e1, e2⟩ := hk t h1
  have e3 := step_go (hs t h2)
  refine ⟨?_, fun j hj fr w hr => ?_⟩
  · rw [runN_add, e1]
    simp only [runN, e3]
  · by_cases hjk : j < k
    · exact e2 j hjk fr w hr
    · obtain rfl : j = k := by omega
      rw [e1] at hr
      simp only [Stepped.next.injEq] at hr
      obtain ⟨r1, r2, _⟩ := lone_inj hr
      intro hm
      exact hnd ⟨by rw [r1]; exact hm, r2⟩

/-- The tape that the first is handed: its own past, and behind it what the second's will answer. -/
noncomputable def tau (t0 : Nat → Question → Nat) (A w₁ : World) : Nat → Question → Nat := fun m q => if m < A.drawn then t0 m q else w₁.tape (w₁.drawn + (m - A.drawn)) q

theorem WR.retape {ρ : Rn} {A B w₁ : World} (h : WR L RO P.globals.size ρ A B) (hk : ∀ b, (∃ a, ρ a b) → w₁.heap[b]? = B.heap[b]?) (hz : B.heap.size ≤ w₁.heap.size) (t0 : Nat → Question → Nat) :
    WR L RO P.globals.size ρ (re A (tau t0 A w₁)) w₁ := by
  refine ⟨h.fn, h.inj, h.lo, fun a b hab => ?_, fun a b hab off v hv hf => ?_, fun b hb => Nat.lt_of_lt_of_le (h.rolt b hb) hz, fun i q => ?_⟩
  · obtain ⟨o, o', h1, h2, h3⟩ := h.obj a b hab
    exact ⟨o, o', h1, (hk b ⟨a, hab⟩).trans h2, h3⟩
  · obtain ⟨h1, h2⟩ := h.thaw a b hab off v hv hf
    refine ⟨h1, ?_⟩
    simp only [World.frozen?, hk b ⟨a, hab⟩]
    simpa only [World.frozen?] using h2
  · show tau t0 A w₁ (A.drawn + i) q = _
    unfold tau
    rw [if_neg (by omega), show A.drawn + i - A.drawn = i by omega]

/-- The history on the tape that is handed. -/
theorem Hist.on {s : St} {k : Nat} {t0 : Nat → Question → Nat} (w₁ : World) (hk : ∀ t : Nat → Question → Nat, (∀ m q, A0.drawn ≤ m → m < s.A.drawn → t m q = t0 m q) →
    runN P k (lone f0 [c0 P] (re A0 t)) = .next (lone s.f s.cs (re s.A t)) ∧ ∀ j, j < k → ∀ fr w, runN P j (lone f0 [c0 P] (re A0 t)) = .next (lone fr [c0 P] w) → ¬ Q fr) :
    runN P k (lone f0 [c0 P] (re A0 (tau t0 s.A w₁))) = .next (lone s.f s.cs (re s.A (tau t0 s.A w₁))) ∧
    ∀ j, j < k → ∀ fr w, runN P j (lone f0 [c0 P] (re A0 (tau t0 s.A w₁))) = .next (lone fr [c0 P] w) → ¬ Q fr :=
  hk _ fun m q _ hm => by unfold tau; rw [if_pos hm]

theorem runN_split {k n : Nat} {m m' : Machine} {r : Stepped} (h1 : runN P k m = .next m') (h2 : runN P (k + n) m = r) : runN P n m' = r := by
  rw [runN_add, h1] at h2
  exact h2

/-- THE PAIR GOES ON, OR IT IS DONE. -/
theorem lift_step (HC : Closed P L LB) (mb : Bool) (hQ : Halts Q) (hfin : str = false → ∀ f : Frame, ((kx.pr = none ∧ f.todo = []) ∨ (kx.pr ≠ none ∧ f.todo = [.code stopC])) → f.mode = .run → Q f) (hcon : Comes1 P Q f0 A0 Fin) {s : St} (hI : Inv P L LB kx str RO b' s) (hH : Hist P Q f0 A0 s) (hnd : ¬ s.done P Q) {w₁ : World}
    (hk : ∀ b, (∃ a, s.ρ a b) → w₁.heap[b]? = s.B.heap[b]?) (hz : s.B.heap.size ≤ w₁.heap.size) :
    ∃ s' es t, Inv P L LB kx str RO b' s' ∧ Nxt P Q s' s ∧ stepG P mb (G s.f' s.cs') w₁ = .go (G s'.f' s'.cs') s'.B es ∧ Grow RO s.ρ s'.ρ (re s.A t) w₁ s'.A s'.B ∧ ∀ e ∈ es, EvOK RO s'.ρ e := by
  obtain ⟨hd, k, t0, hk0⟩ := hH
  obtain ⟨e1, e2⟩ := Hist.on (s := s) w₁ hk0
  obtain ⟨st, hfr, hst⟩ := hI.fr
  have hW := hI.wr.retape hk hz t0
  have hG : P.globals.size ≤ (re s.A (tau t0 s.A w₁)).heap.size ∧ P.globals.size ≤ w₁.heap.size := ⟨hI.gl.1, Nat.le_trans hI.gl.2 hz⟩
  rcases stepR HC mb hW hG hfr hst hI.cr (fun h => hnd ⟨hQ.ret _ h.1, h.2⟩) (fun e hp h => by
    rcases hst.1 with h1 | ⟨h1, h2⟩
    · rw [h1] at e; cases e
    · exact hnd ⟨hfin h2 _ (.inl ⟨hp, h.1⟩) h.2, h1⟩) (fun e hp h => by
    rcases hst.1 with h1 | ⟨h1, h2⟩
    · rw [h1] at e; cases e
    · exact hnd ⟨hfin h2 _ (.inr ⟨hp, h.1⟩) h.2, h1⟩) with hdead | hgo
  · exfalso
    obtain ⟨n, fr, w', hn, hq, _, _⟩ := hcon (tau t0 s.A w₁)
    have hnk : k ≤ n := Nat.le_of_not_lt fun hlt => e2 n hlt fr w' hn hq
    obtain ⟨j, rfl⟩ := Nat.exists_eq_add_of_le hnk
    have hj := runN_split e1 hn
    cases j with
    | zero =>
      simp only [runN, Stepped.next.injEq] at hj
      obtain ⟨r1, r2, _⟩ := lone_inj hj
      exact hnd ⟨by rw [r1]; exact hq, r2⟩
    | succ j =>
      rcases hdead with ⟨o, w, es, h⟩ | ⟨f', chain, w, es, h, hm, hdf, _, hfn⟩
      · simp only [runN, step_ended h] at hj; cases hj
      · simp only [runN, step_go h] at hj
        obtain ⟨ch, hch⟩ := lost_panic hI.cr hm hdf (by rw [hfn]; exact hfr.bod) j fr w' hj
        exact hQ.nopanic hq hch
  · generalize ea : stepG P true (G s.f s.cs) (re s.A (tau t0 s.A w₁)) = sa at hgo
    generalize eb : stepG P mb (G s.f' s.cs') w₁ = sb at hgo
    cases hgo with
    | @go ρ' A' B' st' f f' cs cs' es es' hg hW' hf hst' hc he hloc =>
      refine ⟨⟨f, cs, A', f', cs', B', ρ'⟩, es', tau t0 s.A w₁, ⟨hW', ⟨Nat.le_trans hG.1 hg.sizeA, Nat.le_trans hG.2 hg.sizeB⟩, ⟨st', hf, hst'⟩, hc⟩, ⟨hnd, hg.drA, tau t0 s.A w₁, es, fun t ht => ?_⟩, rfl, hg, he⟩
      exact hloc t fun m q h1 h2 => ht m q h1 h2

/-- THE PAIR IS DONE: so is the walk. -/
theorem lift_done (hcon : Comes1 P Q f0 A0 Fin) {s : St} (hI : Inv P L LB kx str RO b' s) (hH : Hist P Q f0 A0 s) (hd : s.done P Q) (w₁ : World) : ∃ t0, Fin s.f (re s.A (tau t0 s.A w₁)) := by
  obtain ⟨_, k, t0, hk0⟩ := hH
  obtain ⟨e1, e2⟩ := Hist.on (s := s) w₁ hk0
  obtain ⟨n, fr, w', hn, hq, hfin, hfirst⟩ := hcon (tau t0 s.A w₁)
  rw [hd.2] at e1
  rcases Nat.lt_trichotomy n k with h | rfl | h
  · exact absurd hq (e2 n h fr w' hn)
  · rw [e1, Stepped.next.injEq] at hn
    obtain ⟨r1, _, r3⟩ := lone_inj hn
    exact ⟨t0, by rw [r1, r3]; exact hfin⟩
  · obtain ⟨st, hfr, _⟩ := hI.fr
    exact absurd hd.1 (hfirst k h _ _ e1 hfr.def1 hfr.kind1 hfr.round1 hfr.bod)

/-- NO PAIR GOES ON FOR EVER. -/
theorem lift_acc (hcon : Comes1 P Q f0 A0 Fin) {s : St} (hf : s.f = f0) (hc : s.cs = [c0 P]) (hA : s.A = A0) : Acc (Nxt P Q) s := by
  classical
  apply Classical.byContradiction
  intro hna
  have hstep : ∀ x : {x : St // ¬ Acc (Nxt P Q) x}, ∃ y : {x : St // ¬ Acc (Nxt P Q) x}, Nxt P Q y.1 x.1 := by
    rintro ⟨x, hx⟩
    apply Classical.byContradiction
    intro h
    refine hx ⟨_, fun y hy => Classical.byContradiction fun hay => h ⟨⟨y, hay⟩, hy⟩⟩
  let seq : Nat → {x : St // ¬ Acc (Nxt P Q) x} := fun n => Nat.rec ⟨s, hna⟩ (fun _ x => Classical.choose (hstep x)) n
  have hseq : ∀ n, Nxt P Q (seq (n + 1)).1 (seq n).1 := fun n => Classical.choose_spec (hstep (seq n))
  have hmono1 : ∀ n, (seq n).1.A.drawn ≤ (seq (n + 1)).1.A.drawn := fun n => (hseq n).2.1
  have hmono : ∀ a c, a ≤ c → (seq a).1.A.drawn ≤ (seq c).1.A.drawn := by
    intro a c hac
    induction hac with
    | refl => exact Nat.le_refl _
    | step _ ih => exact Nat.le_trans ih (hmono1 _)
  let tn : Nat → Nat → Question → Nat := fun n => Classical.choose (hseq n).2.2
  let tt : Nat → Question → Nat := fun m q => if h : ∃ n, (seq n).1.A.drawn ≤ m ∧ m < (seq (n + 1)).1.A.drawn then tn (Classical.choose h) m q else 0
  have htt : ∀ n m q, (seq n).1.A.drawn ≤ m → m < (seq (n + 1)).1.A.drawn → tt m q = tn n m q := by
    intro n m q h1 h2
    have hex : ∃ n, (seq n).1.A.drawn ≤ m ∧ m < (seq (n + 1)).1.A.drawn := ⟨n, h1, h2⟩
    have hsp := Classical.choose_spec hex
    have hn : Classical.choose hex = n := by
      rcases Nat.lt_trichotomy (Classical.choose hex) n with h | h | h
      · have := hmono _ _ (show Classical.choose hex + 1 ≤ n from h); omega
      · exact h
      · have := hmono _ _ (show n + 1 ≤ Classical.choose hex from h); omega
    show (if h : ∃ n, (seq n).1.A.drawn ≤ m ∧ m < (seq (n + 1)).1.A.drawn then tn (Classical.choose h) m q else 0) = _
    rw [dif_pos hex, hn]
  have hgo : ∀ n, step P (lone (seq n).1.f (seq n).1.cs (re (seq n).1.A tt)) = .next (lone (seq (n + 1)).1.f (seq (n + 1)).1.cs (re (seq (n + 1)).1.A tt)) := by
    intro n
    obtain ⟨es, hs⟩ := Classical.choose_spec (hseq n).2.2
    exact step_go (hs tt fun m q h1 h2 => htt n m q h1 h2)
  have hrun : ∀ n, runN P n (lone f0 [c0 P] (re A0 tt)) = .next (lone (seq n).1.f (seq n).1.cs (re (seq n).1.A tt)) := by
    intro n
    induction n with
    | zero =>
      show Stepped.next _ = _
      rw [show (seq 0).1 = s from rfl, hf, hc, hA]
    | succ n ih =>
      rw [runN_add, ih]
      simp only [runN, hgo n]
  obtain ⟨n, fr, w', hn, hq, _, _⟩ := hcon tt
  rw [hrun n, Stepped.next.injEq] at hn
  obtain ⟨r1, r2, _⟩ := lone_inj hn
  exact (hseq n).1 ⟨by rw [r1]; exact hq, r2⟩
end
end Go.Par
namespace Go.Par
open Go.Conc

section
variable {P : Program}
/-- A 'Sem' that leaves the world as it is. -/
def Still {α : Type} (P : Program) (s : Sem α) : Prop := ∀ w es a w' es', s.runT P w es = (.ok a w', es') → w' = w
theorem Still.bind {α β : Type} {s : Sem α} {f : α → Sem β} (h : Still P s) (hf : ∀ a, Still P (f a)) : Still P (s >>= f) := by
  intro w es a w' es' e
  rw [runT_mbind] at e
  cases hs : s.runT P w es with
  | mk r es1 =>
    rw [hs] at e
    cases r with
    | ok b w1 => have := h _ _ _ _ _ hs; subst this; exact hf b _ _ _ _ _ e
    | halt hh w1 => cases e
theorem Still.ret {α : Type} (a : α) : Still P (pure a : Sem α) := fun w es b w' es' e => by cases e; rfl
theorem Still.stuck {α : Type} (s : String) : Still P (stuck s : Sem α) := fun w es b w' es' e => by cases e
theorem Still.ld (a : Addr) : Still P (load a) := by
  intro w es b w' es' e
  show w' = w
  simp only [load, Sem.runT] at e
  split at e
  · cases e; rfl
  · split at e
    · cases e; rfl
    · cases e
theorem Still.typeInfo (t : TypeId) : Still P (typeInfo t) := by
  intro w es b w' es' e
  have e' : (match P.info? t with | some i => Sem.pure i | none => Sem.halt (.stuck "no such type") : Sem TypeInfo).runT P w es = (.ok b w', es') := e
  cases h : P.info? t <;> (rw [h] at e'; cases e'); rfl
theorem Still.underlying (t : TypeId) : Still P (underlying t) := by
  intro w es b w' es' e
  rw [runT_underlying] at e
  cases h : P.underlying t <;> (rw [h] at e; cases e); rfl
theorem Still.loadCellsFrom (a : Addr) : ∀ (n i : Nat) (x : Array Value), Still P (loadCellsFrom a i n x)
  | 0, _, _ => .ret _
  | n + 1, i, _ => .bind (.ld _) fun _ => Still.loadCellsFrom a n (i + 1) _
theorem Still.loadVar (t : TypeId) (a : Addr) : Still P (loadVar t a) := by
  refine .bind (.bind (.underlying t) fun d => by cases d <;> exact .ret _) fun b => ?_
  cases b
  · exact .ld a
  · exact .bind (.bind (.typeInfo t) fun _ => .ret _) fun n => .bind (Still.loadCellsFrom a n 0 #[]) fun _ => .ret _
theorem Still.asAddr (v : Value) : Still P (asAddr v) := by
  intro w es b w' es' e
  cases v with
  | pointer a => cases a <;> (cases e); rfl
  | _ => cases e
theorem Still.results (fn : Func) (x : Array Value) : Still P (results fn x) := by
  unfold Go.results
  rw [Array.mapM_eq_mapM_toList]
  refine .bind (.bind (s := fn.results.toList.mapM _) ?_ fun _ => .ret _) fun _ => .ret _
  generalize fn.results.toList = l
  induction l with
  | nil => rw [List.mapM_nil]; exact .ret _
  | cons r l ih =>
    rw [List.mapM_cons]
    refine .bind ?_ fun _ => .bind ih fun _ => .ret _
    cases r with
    | tmp t => exact .ret _
    | cell a t => exact .bind (.asAddr _) fun _ => .loadVar t _
end

/-- What a step of a lifted walk does: its own blocks alone turn; new ones are its own; it lists plain accesses of its own blocks, and reads of blocks that are not to be written. -/
structure DL (RO : Nat → Prop) (own : Nat → Prop) (w w' : World) (es : Array Event) : Prop where
  size : w.heap.size ≤ w'.heap.size
  aside : ∀ b, b < w.heap.size → ¬ own b → w'.heap[b]? = w.heap[b]?
  tape : w'.tape = w.tape
  os : w'.os = w.os
  output : w'.output = w.output
  evs : ∀ e ∈ es, (∃ a wr, e = ⟨.cell a, wr, false⟩ ∧ (More own w w' a.block ∨ (RO a.block ∧ wr = false))) ∨ (∃ r, e = ⟨.obj r, false, false⟩ ∧ (More own w w' r ∨ RO r)) ∨ e = ⟨.mark .noRoom, false, true⟩

/-- Where it stands at its stop: what the lone walk's stop is, but for the blocks' numbers. -/
def StopL (P : Program) (L : FuncId → Prop) (LB : FuncId → Bool) (kx : BX) (str : Bool) (RO : Nat → Prop) (b' : List Frame) (Q : Frame → Prop) (ρ0 : Rn) (A0 B0 : World) (Fin : Frame → World → Prop) (own : Nat → Prop) (g : Goroutine) (w : World) : Prop :=
  ∃ f f' wA ρ st, g = G f' b' ∧ Q f ∧ Fin f wA ∧ FR P L LB kx ρ st f f' ∧ st = str ∧ WR L RO P.globals.size ρ wA w ∧ (∀ b, own b ↔ (∃ a, ρ a b) ∧ ¬ RO b) ∧ Rn.Le ρ0 ρ ∧
    (∀ a b, ρ a b → ρ0 a b ∨ (A0.heap.size ≤ a ∧ B0.heap.size ≤ b)) ∧ P.globals.size ≤ wA.heap.size ∧ P.globals.size ≤ w.heap.size

section
variable {P : Program} {L : FuncId → Prop} {LB : FuncId → Bool} {kx : BX} {str : Bool} {RO : Nat → Prop} {b' : List Frame} {f0 : Frame} {A0 B0 : World} {Q : Frame → Prop} {Fin : Frame → World → Prop} {S : World → World → Prop}

theorem cr_base {ρ : Rn} {b' cs' : List Frame} (h : CR P L LB kx str ρ [c0 P] b' [c0 P] cs') : cs' = b' := by
  cases h with
  | nil => rfl
  | cons hf _ _ _ _ => have := hf.def1; simp [c0] at this

/-- A LONE WALK GOES IN COMPANY. -/
theorem lift (HC : Closed P L LB) (mb : Bool) (hQ : Halts Q) (hfin : str = false → ∀ f : Frame, ((kx.pr = none ∧ f.todo = []) ∨ (kx.pr ≠ none ∧ f.todo = [.code stopC])) → f.mode = .run → Q f) (hRO : ∀ w w₁, S w w₁ → ∀ b, RO b → w₁.heap[b]? = w.heap[b]?) (hcon : Comes1 P Q f0 A0 Fin) {s0 : St} (hI0 : Inv P L LB kx str RO b' s0)
    (hf : s0.f = f0) (hc : s0.cs = [c0 P]) (hA : s0.A = A0) (hB : s0.B = B0) :
    ∃ t, GoesO P mb S (DL RO) (StopL P L LB kx str RO b' Q s0.ρ A0 B0 Fin) t (fun b => (∃ a, s0.ρ a b) ∧ ¬ RO b) (G s0.f' s0.cs') s0.B := by
  have hacc := lift_acc (s := s0) hcon hf hc hA
  have hH0 : Hist P Q f0 A0 s0 := ⟨by rw [hA]; exact Nat.le_refl _, 0, fun _ _ => 0, fun t _ => ⟨by simp only [runN, hf, hc, hA], fun j hj => absurd hj (Nat.not_lt_zero _)⟩⟩
  have key : ∀ s, Acc (Nxt P Q) s → Inv P L LB kx str RO b' s → Hist P Q f0 A0 s → Rn.Le s0.ρ s.ρ → (∀ a b, s.ρ a b → s0.ρ a b ∨ (A0.heap.size ≤ a ∧ B0.heap.size ≤ b)) → A0.heap.size ≤ s.A.heap.size → B0.heap.size ≤ s.B.heap.size →
      ∃ t, GoesO P mb S (DL RO) (StopL P L LB kx str RO b' Q s0.ρ A0 B0 Fin) t (fun b => (∃ a, s.ρ a b) ∧ ¬ RO b) (G s.f' s.cs') s.B := by
    intro s hs
    induction hs with
    | intro s _ ih =>
      intro hI hH hle hnew hzA hzB
      have hkeep : ∀ w₁, Ry S (fun b => (∃ a, s.ρ a b) ∧ ¬ RO b) s.B w₁ → ∀ b, (∃ a, s.ρ a b) → w₁.heap[b]? = s.B.heap[b]? := by
        intro w₁ hr b hb
        by_cases hro : RO b
        · exact hRO _ _ hr.st b hro
        · exact hr.own b ⟨hb, hro⟩
      by_cases hd : s.done P Q
      · refine ⟨.leaf, GoesO.stop fun w₁ hr => ?_⟩
        obtain ⟨t0, hfin⟩ := lift_done hcon hI hH hd w₁
        obtain ⟨st, hfr, hst⟩ := hI.fr
        have hcr := hI.cr
        rw [hd.2] at hcr
        exact ⟨s.f, s.f', re s.A (tau t0 s.A w₁), s.ρ, st, by rw [cr_base hcr], hd.1, hfin, hfr, hst.2 hd.2, hI.wr.retape (hkeep w₁ hr) hr.size t0, fun b => Iff.rfl, hle, hnew, hI.gl.1, Nat.le_trans hI.gl.2 hr.size⟩
      · refine GoesO.step rfl fun w₁ hr => ?_
        obtain ⟨s', es, t, hI', hN, hst, hg, he⟩ := lift_step HC mb hQ hfin hcon hI hH hd (hkeep w₁ hr) hr.size
        have hrolt : ∀ b, RO b → b < w₁.heap.size := fun b hb => Nat.lt_of_lt_of_le (hI.wr.rolt b hb) hr.size
        have hmore : More (fun b => (∃ a, s.ρ a b) ∧ ¬ RO b) w₁ s'.B = fun b => (∃ a, s'.ρ a b) ∧ ¬ RO b := by
          funext b
          simp only [More, eq_iff_iff]
          constructor
          · rintro (⟨⟨a, ha⟩, hro⟩ | ⟨h1, h2⟩)
            · exact ⟨⟨a, hg.le _ _ ha⟩, hro⟩
            · exact ⟨hg.all b h1 h2, fun hro => by have := hrolt b hro; omega⟩
          · rintro ⟨⟨a, ha⟩, hro⟩
            rcases hg.new a b ha with h | ⟨_, h⟩
            · exact .inl ⟨⟨a, h⟩, hro⟩
            · exact .inr ⟨h, (hI'.wr.size ha).2⟩
        refine ⟨G s'.f' s'.cs', s'.B, es, hst, ⟨hg.sizeB, fun b hb hno => ?_, hg.tape, hg.os, hg.output, fun e hee => ?_⟩, ?_⟩
        · refine hg.aside b hb ?_
          by_cases hro : RO b
          · exact .inr hro
          · exact .inl fun a ha => hno ⟨⟨a, ha⟩, hro⟩
        · rw [hmore]
          rcases he e hee with ⟨a, wr, rfl, hn, hw⟩ | ⟨r, n, rfl, hn⟩ | rfl
          · refine .inl ⟨a, wr, rfl, ?_⟩
            by_cases hro : RO a.block
            · refine .inr ⟨hro, ?_⟩
              cases wr
              · rfl
              · exact absurd hro (hw rfl)
            · exact .inl ⟨hn, hro⟩
          · refine .inr (.inl ⟨r, rfl, ?_⟩)
            by_cases hro : RO r
            · exact .inr hro
            · exact .inl ⟨⟨n, hn⟩, hro⟩
          · exact .inr (.inr rfl)
        · rw [hmore]
          refine ih s' hN hI' (hH.next hN) (hle.trans hg.le) (fun a b hab => ?_) (Nat.le_trans hzA hg.sizeA) (Nat.le_trans hzB (Nat.le_trans hr.size hg.sizeB))
          rcases hg.new a b hab with h | ⟨h1, h2⟩
          · exact hnew a b h
          · exact .inr ⟨Nat.le_trans hzA h1, Nat.le_trans hzB (Nat.le_trans hr.size h2)⟩
  exact key s0 hacc hI0 hH0 (.refl _) (fun a b h => .inl h) (by rw [hA]; exact Nat.le_refl _) (by rw [hB]; exact Nat.le_refl _)

/-! ### a whole call -/
/-- It stops where it is about to return. -/
def QRet (f : Frame) : Prop := f.mode = .returning
theorem QRet.halts : Halts QRet := ⟨fun _ h => .inr h, fun _ h => h⟩

theorem comes_of_calls {f : FuncId} {args : Array Value} {Post : Value → World → Prop} (h : ∀ t, Calls P f args (re A0 t) fun e w' => ∃ v, e = .returned v ∧ Post v w') :
    Comes1 P QRet (Frame.enter P f args .normal) A0 fun fr w' => ∃ v, fr.leaving P w' (.returned v) ∧ Post v w' := by
  intro t
  obtain ⟨e, w', fr, ⟨v, rfl, hp⟩, ⟨n, hn⟩, _, hl⟩ := h t [c0 P]
  refine ⟨n, fr, w', hn, hl.1, ⟨v, hl, hp⟩, fun j hj fr' w hr hd hk _ hb hq => ?_⟩
  obtain ⟨k, rfl⟩ := Nat.exists_eq_add_of_lt hj
  have := runN_split (n := k + 1) hr hn
  obtain ⟨ch, hch⟩ := lost_behind hq hd hk hb this
  have hm := hl.1
  rw [hch] at hm
  cases hm
end
end Go.Par
namespace Go.Par
open Go.Conc

section
variable {P : Program} {L : FuncId → Prop} {LB : FuncId → Bool} {RO : Nat → Prop} {S : World → World → Prop}

/-- Where a call has come back: its caller holds what it returned. -/
def Back (P : Program) (L : FuncId → Prop) (RO : Nat → Prop) (c : Frame) (rest : List Frame) (ρ0 : Rn) (A0 B0 : World) (Post : Value → World → Prop) (own : Nat → Prop) (g : Goroutine) (w : World) : Prop :=
  ∃ v v' wA ρ, g = G (c.finish v') rest ∧ Post v wA ∧ VR L ρ v v' ∧ (∃ t, WR L RO P.globals.size ρ (re wA t) w) ∧ (∀ b, own b ↔ (∃ a, ρ a b) ∧ ¬ RO b) ∧ Rn.Le ρ0 ρ ∧
    (∀ a b, ρ a b → ρ0 a b ∨ (A0.heap.size ≤ a ∧ B0.heap.size ≤ b)) ∧ P.globals.size ≤ wA.heap.size ∧ P.globals.size ≤ w.heap.size

theorem lift_call (HC : Closed P L LB) (mb : Bool) (hS : Tr S) (hRO : ∀ w w₁, S w w₁ → ∀ b, RO b → w₁.heap[b]? = w.heap[b]?) {f : FuncId} (hL : L f) {args args' : Array Value} {ρ0 : Rn} {A0 B0 : World}
    (hW : WR L RO P.globals.size ρ0 A0 B0) (hG : P.globals.size ≤ A0.heap.size ∧ P.globals.size ≤ B0.heap.size) (hargs : AR L ρ0 args args') {Post : Value → World → Prop}
    (hcon : ∀ t, Calls P f args (re A0 t) fun e w' => ∃ v, e = .returned v ∧ Post v w') (c : Frame) (rest : List Frame) :
    ∃ t, GoesO P mb S (DL RO) (Back P L RO c rest ρ0 A0 B0 Post) t (fun b => (∃ a, ρ0 a b) ∧ ¬ RO b) (G (Frame.enter P f args' .normal) (c :: rest)) B0 := by
  obtain ⟨t, ht⟩ := lift (LB := LB) (kx := ⟨[], [], .normal, none⟩) (str := true) (RO := RO) (S := S) (b' := c :: rest) (B0 := B0) HC mb QRet.halts (fun h => by cases h) hRO (comes_of_calls hcon) (s0 := ⟨Frame.enter P f args .normal, [c0 P], A0, Frame.enter P f args' .normal, c :: rest, B0, ρ0⟩)
    ⟨hW, hG, ⟨true, (enterR HC hL hargs).1, .inl rfl, fun _ => rfl⟩, .nil⟩ rfl rfl rfl rfl
  refine ht.seq fun own g w hstop => ?_
  obtain ⟨_, _, _, _, _, hg, _⟩ := hstop w (.refl hS own w)
  · subst hg
    refine GoesO.step rfl fun w₁ hr => ?_
    obtain ⟨f1, f1', wA, ρ, st, hg, hq, ⟨v, ⟨hm, hdef, hkind, fn, hfn, hrun⟩, hp⟩, hfr, hst, hW1, hown, hle, hnew, hGa, hGb⟩ := hstop w₁ hr
    have hg2 : f1' = _ := (by simpa [G] using hg.symm)
    subst hg2
    have hrT : (results fn f1.tmps).runT P wA #[] = (.ok v wA, ((results fn f1.tmps).runT P wA #[]).2) := by simp only [Sem.runT_eq, hrun]
    rcases SR.run (resultsR (P := P) fn hfr.tmps) wA w₁ #[] #[] hW1 ⟨hGa, hGb⟩ with ⟨hh, w', es', e, hb⟩ | ⟨x, y, xs, es, e1, e2, hran, _⟩
    · rw [hrT] at e; cases e
    · rw [hrT] at e1
      cases hran with
      | @ok ρ' A' B' a d _ hgr hW' he hR =>
        cases e1
        have hB := Still.results fn _ _ _ _ _ _ e2
        subst hB
        simp only [Array.empty_append] at e2
        have hfn' : P.funcs[f1'.fn]? = some fn := hfr.fn ▸ hfn
        have hVR : VR L ρ v d := by
          refine VR.mono (fun p q hpq => ?_) hR
          rcases hgr.new p q hpq with h | ⟨_, h⟩
          · exact h
          · have := (hW'.size hpq).2; omega
        refine ⟨G (c.finish d) rest, B', seen P f1'.fn es ++ #[], ?_, ⟨Nat.le_refl _, fun _ _ _ => rfl, rfl, rfl, rfl, fun e hee => ?_⟩, .leaf, fun w₂ hr2 => ?_⟩
        · have h1 : f1'.mode = .returning := hfr.mode ▸ hm
          have h2 : f1'.defers = [] := by rw [hfr.def2, hst]; rfl
          have h3 : f1'.kind = .normal := by rw [hfr.kind2, hst]; rfl
          simp only [stepG, unwind, G, h1, h2, h3, hfn', e2, doReturn]
          rfl
        · have hback : ∀ p q, ρ' p q → ρ p q := fun p q hpq => by
            rcases hgr.new p q hpq with h | ⟨_, h⟩
            · exact h
            · have := (hW'.size hpq).2; omega
          rcases he e (mem_seen (by simpa using hee)) with ⟨a, wr, rfl, ⟨n, hn⟩, hw⟩ | ⟨r, n, rfl, hn⟩ | rfl
          · refine .inl ⟨a, wr, rfl, ?_⟩
            by_cases hro : RO a.block
            · refine .inr ⟨hro, ?_⟩
              cases wr
              · rfl
              · exact absurd hro (hw rfl)
            · exact .inl (.inl ((hown _).2 ⟨⟨n, hback _ _ hn⟩, hro⟩))
          · refine .inr (.inl ⟨r, rfl, ?_⟩)
            by_cases hro : RO r
            · exact .inr hro
            · exact .inl (.inl ((hown _).2 ⟨⟨n, hback _ _ hn⟩, hro⟩))
          · exact .inr (.inr rfl)
        · have hmore : More own B' B' = own := by
            funext b
            simp only [More, eq_iff_iff]
            exact ⟨fun h => h.elim id fun h => by omega, .inl⟩
          rw [hmore] at hr2 ⊢
          have hk : ∀ b, (∃ a, ρ a b) → w₂.heap[b]? = B'.heap[b]? := by
            intro b hb
            by_cases hro : RO b
            · exact hRO _ _ hr2.st b hro
            · exact hr2.own b ((hown b).2 ⟨hb, hro⟩)
          exact ⟨v, d, wA, ρ, rfl, hp, hVR, ⟨_, hW1.retape hk hr2.size (fun _ _ => 0)⟩, hown, hle, hnew, hGa, Nat.le_trans hGb hr2.size⟩
end
end Go.Par
namespace Go.Par
open Go.Conc

section
variable {P : Program} {L : FuncId → Prop} {LB : FuncId → Bool} {RO : Nat → Prop} {S : World → World → Prop}

/-- It stops at the piece's end, or where it is about to return. -/
def QSeg (f : Frame) : Prop := f.mode = .returning ∨ (f.todo = [] ∧ f.mode = .run)
theorem QSeg.halts : Halts QSeg := ⟨fun _ h => h.elim .inr fun h => .inl h.2, fun _ h => .inl h⟩

def FinSeg (fn : FuncId) (Post : Exit → Act → World → Prop) (fr : Frame) (w : World) : Prop :=
  ∃ e a, Post e a w ∧ fr.fn = fn ∧ fr.tmps = a.tmps ∧ ((e = .normal ∧ fr.todo = [] ∧ fr.mode = .run) ∨ (e = .ret ∧ QSeg fr))

theorem hit_last {m : Machine} {n j : Nat} {fr fr1 : Frame} {w w1 : World} (hn : runN P n m = .next (lone fr1 [c0 P] w1)) (hm1 : fr1.mode = .run ∨ fr1.mode = .returning) (hj : j < n) (hrj : runN P j m = .next (lone fr [c0 P] w)) (hd : fr.defers = []) (hk : fr.kind = .normal) (hro : fr.roundOf = none) (hb : ∃ fn, P.funcs[fr.fn]? = some fn) (hq : QSeg fr) :
    n = j + 1 ∧ fr.todo = [] ∧ fr.mode = .run ∧ fr1 = { fr with mode := .returning } ∧ w1 = w := by
  have nop : ∀ chain, fr1.mode ≠ .panicking chain := fun chain e => by rcases hm1 with h | h <;> (rw [h] at e; cases e)
  obtain ⟨k, rfl⟩ := Nat.exists_eq_add_of_lt hj
  have h1 := runN_split (n := k + 1) hrj hn
  rcases hq with hq | ⟨ht, hq⟩
  · obtain ⟨ch, hch⟩ := lost_behind hq hd hk hb h1
    exact absurd hch (nop ch)
  · have hs : step P (lone fr [c0 P] w) = .next (lone { fr with mode := .returning } [c0 P] w) := step_go (es := #[]) (by simp [stepG, stepG.exec, G, hq, ht, hro])
    simp only [runN, hs] at h1
    cases k with
    | zero =>
      simp only [runN, Stepped.next.injEq] at h1
      obtain ⟨r1, _, r3⟩ := lone_inj h1
      exact ⟨rfl, ht, hq, r1.symm, r3.symm⟩
    | succ k =>
      obtain ⟨ch, hch⟩ := lost_behind (f := { fr with mode := .returning }) rfl hd hk hb h1
      exact absurd hch (nop ch)

theorem comes_of_wp {c : Code} {b : Frame} {T : Array Value} {A0 : World} {Post : Exit → Act → World → Prop} (hcon : ∀ t, c.wp P (fun e a w => (e = .normal ∨ e = .ret) ∧ a.defers = [] ∧ Post e a w) ⟨T, []⟩ (re A0 t)) :
    Comes1 P QSeg (b.at ⟨T, []⟩ [.code c]) A0 (FinSeg b.fn Post) := by
  intro t
  obtain ⟨e, a, w', ⟨he, hd, hp⟩, har⟩ := hcon t b [] [c0 P]
  have main : ∀ n fr1, runN P n (lone (b.at ⟨T, []⟩ [.code c]) [c0 P] (re A0 t)) = .next (lone fr1 [c0 P] w') → (fr1.mode = .run ∨ fr1.mode = .returning) → QSeg fr1 → fr1.fn = b.fn → fr1.tmps = a.tmps → ((e = .normal ∧ fr1.todo = [] ∧ fr1.mode = .run) ∨ (e = .ret ∧ fr1.mode = .returning)) →
      ∃ n fr w', runN P n (lone (b.at ⟨T, []⟩ [.code c]) [c0 P] (re A0 t)) = .next (lone fr [c0 P] w') ∧ QSeg fr ∧ FinSeg b.fn Post fr w' ∧
        ∀ j, j < n → ∀ fr w, runN P j (lone (b.at ⟨T, []⟩ [.code c]) [c0 P] (re A0 t)) = .next (lone fr [c0 P] w) → fr.defers = [] → fr.kind = .normal → fr.roundOf = none → (∃ fn, P.funcs[fr.fn]? = some fn) → ¬ QSeg fr := by
    intro n fr1 hn hm1 hq1 hf1 ht1 hcase
    by_cases hex : ∃ j fr w, j < n ∧ runN P j (lone (b.at ⟨T, []⟩ [.code c]) [c0 P] (re A0 t)) = .next (lone fr [c0 P] w) ∧ fr.defers = [] ∧ fr.kind = .normal ∧ fr.roundOf = none ∧ (∃ fn, P.funcs[fr.fn]? = some fn) ∧ QSeg fr
    · obtain ⟨j, fr, w, hj, hrj, h1, h2, h2r, h3, h4⟩ := hex
      obtain ⟨e1, e2, e3, e4, e5⟩ := hit_last hn hm1 hj hrj h1 h2 h2r h3 h4
      have he' : e = .ret := by
        rcases hcase with ⟨_, _, h⟩ | ⟨h, _⟩
        · rw [e4] at h; cases h
        · exact h
      refine ⟨j, fr, w', ?_, h4, ⟨e, a, ?_, ?_, ?_, .inr ⟨he', h4⟩⟩, fun j' hj' fr' w'' hr' g1 g2 gr g3 g4 => ?_⟩
      · rw [e5]; exact hrj
      · exact hp
      · rw [← hf1, e4]
      · rw [← ht1, e4]
      · have := (hit_last hn hm1 (Nat.lt_trans hj' hj) hr' g1 g2 gr g3 g4).1
        omega
    · refine ⟨n, fr1, w', hn, hq1, ⟨e, a, hp, hf1, ht1, ?_⟩, fun j hj fr w hr g1 g2 gr g3 g4 => hex ⟨j, fr, w, hj, hr, g1, g2, gr, g3, g4⟩⟩
      rcases hcase with h | ⟨h, _⟩
      · exact .inl h
      · exact .inr ⟨h, hq1⟩
  rcases he with rfl | rfl
  · obtain ⟨n, hn⟩ := har
    exact main n _ hn (.inl rfl) (.inr ⟨rfl, rfl⟩) rfl rfl (.inl ⟨rfl, rfl, rfl⟩)
  · obtain ⟨todo, n, hn⟩ := har
    exact main n _ hn (.inr rfl) (.inl rfl) rfl rfl (.inr ⟨rfl, rfl⟩)
end
end Go.Par
namespace Go.Par
open Go.Conc

section
variable {P : Program} {L : FuncId → Prop} {LB : FuncId → Bool} {RO : Nat → Prop} {S : World → World → Prop}

/-- Where a piece of code has come to its end ('normal': what is behind it is to be done; 'ret': its frame is about to return). -/
def SegEnd (P : Program) (L : FuncId → Prop) (RO : Nat → Prop) (X : BX) (fn : FuncId) (cs' : List Frame) (ρ0 : Rn) (A0 B0 : World) (Post : Exit → Act → World → Prop) (own : Nat → Prop) (g : Goroutine) (w : World) : Prop :=
  ∃ e a T' wA ρ, Post e a wA ∧ AR L ρ a.tmps T' ∧ ((e = .normal ∧ g = G ⟨fn, T', X.kx, X.dx, .run, X.kd, none⟩ cs') ∨ (e = .ret ∧ ∃ todo mode, (mode = .returning ∨ (mode = .run ∧ todo = [])) ∧ g = G ⟨fn, T', todo, X.dx, mode, X.kd, none⟩ cs')) ∧
    (∃ t, WR L RO P.globals.size ρ (re wA t) w) ∧ (∀ b, own b ↔ (∃ a, ρ a b) ∧ ¬ RO b) ∧ Rn.Le ρ0 ρ ∧ (∀ a b, ρ a b → ρ0 a b ∨ (A0.heap.size ≤ a ∧ B0.heap.size ≤ b)) ∧ P.globals.size ≤ wA.heap.size ∧ P.globals.size ≤ w.heap.size

theorem re_self (w : World) : re w w.tape = w := rfl

theorem lift_wp (HC : Closed P L LB) (mb : Bool) (hRO : ∀ w w₁, S w w₁ → ∀ b, RO b → w₁.heap[b]? = w.heap[b]?) {c : Code} (hc : okCode P LB c = true) (X : BX) (hXp : X.pr = none) (hX : X.kd ≠ .early) {fn : FuncId} (hfn : ∃ g, P.funcs[fn]? = some g) {T T' : Array Value} {ρ0 : Rn} {A0 B0 : World}
    (hW : WR L RO P.globals.size ρ0 A0 B0) (hG : P.globals.size ≤ A0.heap.size ∧ P.globals.size ≤ B0.heap.size) (hT : AR L ρ0 T T') {Post : Exit → Act → World → Prop} (hret : ∀ a w, Post .ret a w → X.kx = [])
    (hcon : ∀ t, c.wp P (fun e a w => (e = .normal ∨ e = .ret) ∧ a.defers = [] ∧ Post e a w) ⟨T, []⟩ (re A0 t)) (cs' : List Frame) :
    ∃ t, GoesO P mb S (DL RO) (SegEnd P L RO X fn cs' ρ0 A0 B0 Post) t (fun b => (∃ a, ρ0 a b) ∧ ¬ RO b) (G ⟨fn, T', .code c :: X.kx, X.dx, .run, X.kd, none⟩ cs') B0 := by
  obtain ⟨t, ht⟩ := lift (LB := LB) (kx := X) (str := false) (RO := RO) (S := S) (b' := cs') HC mb QSeg.halts (fun _ f h1 h2 => .inr ⟨h1.elim (fun h => h.2) fun h => absurd hXp h.1, h2⟩) hRO (comes_of_wp (b := { (default : Frame) with fn := fn, kind := .normal }) hcon)
    (s0 := ⟨⟨fn, T, [.code c], [], .run, .normal, none⟩, [c0 P], A0, ⟨fn, T', .code c :: X.kx, X.dx, .run, X.kd, none⟩, cs', B0, ρ0⟩)
    ⟨hW, hG, ⟨false, ⟨rfl, by unfold TodoR; rw [hXp]; rfl, (fun it hit => by simp only [List.mem_singleton] at hit; subst hit; exact hc), hT, rfl, rfl, rfl, .inl rfl, rfl, rfl, hX, rfl, rfl, hfn⟩, .inr ⟨rfl, rfl⟩, fun _ => rfl⟩, .nil⟩ rfl rfl rfl rfl
  refine ⟨t, ht.mono (fun _ _ _ _ h => h) fun own g w hstop => ?_⟩
  obtain ⟨f, f', wA, ρ, st, rfl, hq, ⟨e, a, hp, hfe, hta, hcase⟩, hfr, rfl, hW1, hown, hle, hnew, hGa, hGb⟩ := hstop
  obtain ⟨fnB, TB, todoB, dB, mB, kB, rB⟩ := f'
  have h0 := hfr.fn
  have h1 := hfr.todo
  have h2 := hfr.mode
  have h3 := hfr.def2
  have h4 := hfr.kind2
  have h5 := hfr.round2
  have h6 := hfr.tmps
  simp only at h0 h1 h2 h3 h4 h5 h6 hfe
  have e0 : fnB = fn := h0.symm.trans hfe
  have e3 : dB = X.dx := h3
  have e4 : kB = X.kd := h4
  subst e0 e3 e4 h5
  rw [hta] at h6
  have e1 : todoB = f.todo ++ X.kx := by unfold TodoR at h1; rw [hXp] at h1; exact h1
  have e2 : mB = f.mode := h2.symm
  refine ⟨e, a, TB, wA, ρ, hp, h6, ?_, ⟨wA.tape, hW1⟩, hown, hle, hnew, hGa, hGb⟩
  rcases hcase with ⟨he, ht, hm⟩ | ⟨he, hq⟩
  · refine .inl ⟨he, ?_⟩
    rw [e1, e2, ht, hm]; rfl
  · refine .inr ⟨he, todoB, mB, ?_, rfl⟩
    rcases hq with hm | ⟨ht, hm⟩
    · exact .inl (e2.trans hm)
    · refine .inr ⟨e2.trans hm, ?_⟩
      subst he
      rw [e1, ht, hret a wA hp]; rfl

/-! ### statements one behind the other, and no further -/
/-- The statements of l, and behind them the mark. -/
def seqs (e : Code) : List Code → Code
  | [] => e
  | c :: l => .seq c (seqs e l)
def preWp (P : Program) : List Code → (Exit → Act → World → Prop) → Act → World → Prop
  | [], Q, a, w => Q .normal a w
  | c :: l, Q, a, w => c.wp P (Exit.then (preWp P l Q) Q) a w
theorem pre_cons {c : Code} {l : List Code} {Q : Exit → Act → World → Prop} {a : Act} {w : World} (h : c.wp P (Exit.then (preWp P l Q) Q) a w) : preWp P (c :: l) Q a w := h
theorem preWp_mono {l : List Code} {Q Q' : Exit → Act → World → Prop} (hq : ∀ e a w, Q e a w → Q' e a w) : ∀ {a : Act} {w : World}, preWp P l Q a w → preWp P l Q' a w := by
  induction l with
  | nil => exact fun h => hq _ _ _ h
  | cons c l ih => exact fun h => wp_mono h fun e a w h => by cases e <;> first | exact ih h | exact hq _ _ _ h
theorem ext_seqs (r : Code) : ∀ l : List Code, Ext r (seqs stopC l) (seqs r l)
  | [] => .mark
  | c :: l => .seq c (ext_seqs r l)
theorem ok_seqs {l : List Code} (h : l.all (okCode P LB) = true) : okCode P LB (seqs stopC l) = true := by
  induction l with
  | nil => rfl
  | cons c l ih =>
    simp only [List.all_cons, Bool.and_eq_true] at h
    simp only [seqs, okCode, Bool.and_eq_true]
    exact ⟨h.1, ih h.2⟩

def QPre (f : Frame) : Prop := f.mode = .returning ∨ (f.todo = [.code stopC] ∧ f.mode = .run)
theorem QPre.halts : Halts QPre := ⟨fun _ h => h.elim .inr fun h => .inl h.2, fun _ h => .inl h⟩
def FinPre (fn : FuncId) (Post : Exit → Act → World → Prop) (fr : Frame) (w : World) : Prop :=
  ∃ e a, Post e a w ∧ fr.fn = fn ∧ fr.tmps = a.tmps ∧ ((e = .normal ∧ fr.todo = [.code stopC] ∧ fr.mode = .run) ∨ (e = .ret ∧ fr.mode = .returning))

theorem run_pre {Q : Exit → Act → World → Prop} (b : Frame) (cs : List Frame) : ∀ (l : List Code) (a : Act) (w : World), preWp P l (fun e a w => (e = .normal ∨ e = .ret) ∧ Q e a w) a w →
    ∃ e a' w', Q e a' w' ∧ ((e = .normal ∧ Steps P (lone (b.at a [.code (seqs stopC l)]) cs w) (lone (b.at a' [.code stopC]) cs w')) ∨ (e = .ret ∧ ∃ todo, Steps P (lone (b.at a [.code (seqs stopC l)]) cs w) (lone { b.at a' todo with mode := .returning } cs w'))) := by
  intro l
  induction l with
  | nil => exact fun a w h => ⟨.normal, a, w, h.2, .inl ⟨rfl, .refl _ _⟩⟩
  | cons c l ih =>
    intro a w h
    obtain ⟨e, a1, w1, hq, har⟩ := h b [.code (seqs stopC l)] cs
    have h0 : Steps P (lone (b.at a [.code (seqs stopC (c :: l))]) cs w) (lone (b.at a (.code c :: [.code (seqs stopC l)])) cs w) := .one step_seq
    cases e with
    | normal =>
      obtain ⟨e, a2, w2, hq2, hr⟩ := ih a1 w1 hq
      refine ⟨e, a2, w2, hq2, ?_⟩
      rcases hr with ⟨rfl, hr⟩ | ⟨rfl, todo, hr⟩
      · exact .inl ⟨rfl, h0.trans (Steps.trans har hr)⟩
      · exact .inr ⟨rfl, todo, h0.trans (Steps.trans har hr)⟩
    | ret =>
      obtain ⟨todo, hr⟩ := har
      exact ⟨.ret, a1, w1, hq.2, .inr ⟨rfl, todo, h0.trans hr⟩⟩
    | _ => exact absurd hq.1 (by simp)

theorem comes_of_pre {l : List Code} {b : Frame} {T : Array Value} {A0 : World} {Post : Exit → Act → World → Prop} (hcon : ∀ t, preWp P l (fun e a w => (e = .normal ∨ e = .ret) ∧ a.defers = [] ∧ Post e a w) ⟨T, []⟩ (re A0 t)) :
    Comes1 P QPre (b.at ⟨T, []⟩ [.code (seqs stopC l)]) A0 (FinPre b.fn Post) := by
  intro t
  obtain ⟨e, a, w', ⟨hd, hp⟩, har⟩ := run_pre b [c0 P] l _ _ (hcon t)
  have first : ∀ n fr1, runN P n (lone (b.at ⟨T, []⟩ [.code (seqs stopC l)]) [c0 P] (re A0 t)) = .next (lone fr1 [c0 P] w') → (fr1.mode = .run ∨ fr1.mode = .returning) → ∀ j, j < n → ∀ fr w, runN P j (lone (b.at ⟨T, []⟩ [.code (seqs stopC l)]) [c0 P] (re A0 t)) = .next (lone fr [c0 P] w) → fr.defers = [] → fr.kind = .normal → fr.roundOf = none → (∃ fn, P.funcs[fr.fn]? = some fn) → ¬ QPre fr := by
    intro n fr1 hn hm1 j hj fr w hr hd hk hro hb hq
    obtain ⟨k, rfl⟩ := Nat.exists_eq_add_of_lt hj
    have h1 := runN_split (n := k + 1) hr hn
    rcases hq with hq | ⟨ht, hq⟩
    · obtain ⟨ch, hch⟩ := lost_behind hq hd hk hb h1
      rcases hm1 with h | h <;> (rw [hch] at h; cases h)
    · have hs : ∃ o w2, step P (lone fr [c0 P] w) = .ended o w2 := ⟨_, _, step_ended (es := #[]) (by simp only [stepG, stepG.exec, G, hq, ht, hro, stopC, exitTo]; rfl)⟩
      obtain ⟨o, w2, hs⟩ := hs
      simp only [runN, hs] at h1
      cases h1
  rcases har with ⟨rfl, n, hn⟩ | ⟨rfl, todo, n, hn⟩
  · exact ⟨n, _, w', hn, .inr ⟨rfl, rfl⟩, ⟨.normal, a, hp, rfl, rfl, .inl ⟨rfl, rfl, rfl⟩⟩, first n _ hn (.inl rfl)⟩
  · exact ⟨n, _, w', hn, .inl rfl, ⟨.ret, a, hp, rfl, rfl, .inr ⟨rfl, rfl⟩⟩, first n _ hn (.inr rfl)⟩

/-- STATEMENTS IN COMPANY, by their lone contract: r is what comes behind them. -/
theorem lift_pre (HC : Closed P L LB) (mb : Bool) (hRO : ∀ w w₁, S w w₁ → ∀ b, RO b → w₁.heap[b]? = w.heap[b]?) {l : List Code} {r : Code} (hc : l.all (okCode P LB) = true) (kx : List Item) (dx : List Deferred) {kd : CallKind} (hX : kd ≠ .early) {fn : FuncId} (hfn : ∃ g, P.funcs[fn]? = some g) {T T' : Array Value} {ρ0 : Rn} {A0 B0 : World}
    (hW : WR L RO P.globals.size ρ0 A0 B0) (hG : P.globals.size ≤ A0.heap.size ∧ P.globals.size ≤ B0.heap.size) (hT : AR L ρ0 T T') {Post : Exit → Act → World → Prop}
    (hcon : ∀ t, preWp P l (fun e a w => (e = .normal ∨ e = .ret) ∧ a.defers = [] ∧ Post e a w) ⟨T, []⟩ (re A0 t)) (cs' : List Frame) :
    ∃ t, GoesO P mb S (DL RO) (SegEnd P L RO ⟨.code r :: kx, dx, kd, none⟩ fn cs' ρ0 A0 B0 Post) t (fun b => (∃ a, ρ0 a b) ∧ ¬ RO b) (G ⟨fn, T', .code (seqs r l) :: kx, dx, .run, kd, none⟩ cs') B0 := by
  obtain ⟨t, ht⟩ := lift (LB := LB) (kx := ⟨kx, dx, kd, some r⟩) (str := false) (RO := RO) (S := S) (b' := cs') HC mb QPre.halts (fun _ f h1 h2 => h1.elim (fun h => by cases h.1) fun h => .inr ⟨h.2, h2⟩) hRO (comes_of_pre (b := { (default : Frame) with fn := fn, kind := .normal }) hcon)
    (s0 := ⟨⟨fn, T, [.code (seqs stopC l)], [], .run, .normal, none⟩, [c0 P], A0, ⟨fn, T', .code (seqs r l) :: kx, dx, .run, kd, none⟩, cs', B0, ρ0⟩)
    ⟨hW, hG, ⟨false, ⟨rfl, .last rfl rfl (ext_seqs r l), (fun it hit => by simp only [List.mem_singleton] at hit; subst hit; exact ok_seqs hc), hT, rfl, rfl, rfl, .inl rfl, rfl, rfl, hX, rfl, rfl, hfn⟩, .inr ⟨rfl, rfl⟩, fun _ => rfl⟩, .nil⟩ rfl rfl rfl rfl
  refine ⟨t, ht.mono (fun _ _ _ _ h => h) fun own g w hstop => ?_⟩
  obtain ⟨f, f', wA, ρ, st, rfl, hq, ⟨e, a, hp, hfe, hta, hcase⟩, hfr, rfl, hW1, hown, hle, hnew, hGa, hGb⟩ := hstop
  obtain ⟨fnB, TB, todoB, dB, mB, kB, rB⟩ := f'
  have h0 := hfr.fn
  have h1 := hfr.todo
  have h2 := hfr.mode
  have h3 := hfr.def2
  have h4 := hfr.kind2
  have h5 := hfr.round2
  have h6 := hfr.tmps
  simp only at h0 h1 h2 h3 h4 h5 h6 hfe
  have e0 : fnB = fn := h0.symm.trans hfe
  have e3 : dB = dx := h3
  have e4 : kB = kd := h4
  subst e0 e3 e4 h5
  rw [hta] at h6
  have e2 : mB = f.mode := h2.symm
  refine ⟨e, a, TB, wA, ρ, hp, h6, ?_, ⟨wA.tape, hW1⟩, hown, hle, hnew, hGa, hGb⟩
  rcases hcase with ⟨he, ht, hm⟩ | ⟨he, hm⟩
  · refine .inl ⟨he, ?_⟩
    rw [ht] at h1
    rcases h1.inv with ⟨k', _, h1⟩ | ⟨r', c, c', _, hp', _, hc', rfl, hx⟩
    · have := h1.nil.2 rfl
      cases this
    · cases hp'
      cases hc'
      have : c' = r := by
        unfold stopC at hx
        cases hx
        rfl
      rw [this, e2, hm]
  · exact .inr ⟨he, todoB, mB, .inl (e2.trans hm), rfl⟩
end
end Go.Par
namespace Go.Par
open Go.Conc

section
variable {P : Program} {m : Bool} {S : World → World → Prop} {RO : Nat → Prop} {Stop Stop' : (Nat → Prop) → Goroutine → World → Prop} {own : Nat → Prop} {w : World}

theorem DL.refl (RO own : Nat → Prop) (w : World) : DL RO own w w #[] := ⟨Nat.le_refl _, fun _ _ _ => rfl, rfl, rfl, rfl, by simp⟩

/-- A step that turns and lists nothing. -/
theorem GoesO.ctl {g : Goroutine} (hs : g.status = .running) (h : ∀ w₁, Ry S own w w₁ → (stepG P m g w₁).goes fun g' w' es => w' = w₁ ∧ es = #[] ∧ ∃ t, GoesO P m S (DL RO) Stop t own g' w₁) : ∃ t, GoesO P m S (DL RO) Stop t own g w := by
  refine GoesO.step hs fun w₁ hr => ?_
  have := h w₁ hr
  cases e : stepG P m g w₁ with
  | go g' w' es =>
    rw [e] at this
    obtain ⟨rfl, rfl, t, ht⟩ := this
    refine ⟨g', w', #[], rfl, DL.refl _ _ _, t, ?_⟩
    have hm : More own w' w' = own := by
      funext b
      simp only [More, eq_iff_iff]
      exact ⟨fun h => h.elim id fun h => by omega, .inl⟩
    rw [hm]
    exact ht
  | _ => rw [e] at this; exact this.elim

/-- A step. -/
theorem GoesO.any {g : Goroutine} (hs : g.status = .running) (h : ∀ w₁, Ry S own w w₁ → (stepG P m g w₁).goes fun g' w' es => DL RO own w₁ w' es ∧ ∃ t, GoesO P m S (DL RO) Stop t (More own w₁ w') g' w') : ∃ t, GoesO P m S (DL RO) Stop t own g w := by
  refine GoesO.step hs fun w₁ hr => ?_
  have := h w₁ hr
  cases e : stepG P m g w₁ with
  | go g' w' es =>
    rw [e] at this
    exact ⟨g', w', es, rfl, this.1, this.2⟩
  | _ => rw [e] at this; exact this.elim

/-- WITH FEWER BLOCKS: E1: the goroutine's, unused by the walk; E2: blocks that the others keep. -/
theorem GoesO.frame {E1 E2 : Nat → Prop} {w0 : World} (hE2 : ∀ b, E2 b → ∀ w w₁, S w w₁ → w₁.heap[b]? = w.heap[b]?) {t : T} : ∀ {own : Nat → Prop} {g : Goroutine} {w : World}, GoesO P m S (DL RO) Stop t own g w → w0.heap.size ≤ w.heap.size →
    (∀ b, E1 b ∨ E2 b → ¬ own b ∧ b < w.heap.size ∧ w.heap[b]? = w0.heap[b]?) →
    GoesO P m S (DL RO) (fun own' g w => ∃ own1, (∀ b, own' b ↔ own1 b ∨ E1 b) ∧ Stop own1 g w ∧ w0.heap.size ≤ w.heap.size ∧ ∀ b, E1 b ∨ E2 b → ¬ own1 b ∧ b < w.heap.size ∧ w.heap[b]? = w0.heap[b]?) t (fun b => own b ∨ E1 b) g w := by
  have ry : ∀ {own : Nat → Prop} {w w₁ : World}, Ry S (fun b => own b ∨ E1 b) w w₁ → Ry S own w w₁ := fun h => ⟨h.st, fun b hb => h.own b (.inl hb), h.size⟩
  have ke : ∀ {own : Nat → Prop} {w w₁ : World}, Ry S (fun b => own b ∨ E1 b) w w₁ → (∀ b, E1 b ∨ E2 b → ¬ own b ∧ b < w.heap.size ∧ w.heap[b]? = w0.heap[b]?) → ∀ b, E1 b ∨ E2 b → ¬ own b ∧ b < w₁.heap.size ∧ w₁.heap[b]? = w0.heap[b]? := by
    intro own w w₁ h hE b hb
    obtain ⟨h1, h2, h3⟩ := hE b hb
    refine ⟨h1, Nat.lt_of_lt_of_le h2 h.size, ?_⟩
    rw [← h3]
    rcases hb with hb | hb
    · exact h.own b (.inr hb)
    · exact hE2 b hb _ _ h.st
  induction t with
  | leaf => exact fun h hz hE w₁ hr => ⟨_, fun b => Iff.rfl, h w₁ (ry hr), Nat.le_trans hz hr.size, ke hr hE⟩
  | node f ih =>
    intro own g w h hz hE
    rcases h with h | ⟨hs, h⟩
    · exact .inl fun w₁ hr => ⟨_, fun b => Iff.rfl, h w₁ (ry hr), Nat.le_trans hz hr.size, ke hr hE⟩
    · refine .inr ⟨hs, fun w₁ hr => ?_⟩
      obtain ⟨g', w', es, h1, h2, h3⟩ := h w₁ (ry hr)
      have hE1 := ke hr hE
      refine ⟨g', w', es, h1, ⟨h2.size, fun b hb hno => h2.aside b hb fun hb' => hno (.inl hb'), h2.tape, h2.os, h2.output, fun e he => ?_⟩, ?_⟩
      · have mo : ∀ b, More own w₁ w' b → More (fun b => own b ∨ E1 b) w₁ w' b := fun b hb => hb.imp .inl id
        rcases h2.evs e he with ⟨a, wr, rfl, hb⟩ | ⟨r, rfl, hb⟩ | rfl
        · exact .inl ⟨a, wr, rfl, hb.imp (mo _) id⟩
        · exact .inr (.inl ⟨r, rfl, hb.imp (mo _) id⟩)
        · exact .inr (.inr rfl)
      · have hm : More (fun b => own b ∨ E1 b) w₁ w' = fun b => More own w₁ w' b ∨ E1 b := by
          funext b
          simp only [More, eq_iff_iff]
          constructor
          · rintro ((h | h) | h)
            · exact .inl (.inl h)
            · exact .inr h
            · exact .inl (.inr h)
          · rintro ((h | h) | h)
            · exact .inl (.inl h)
            · exact .inr h
            · exact .inl (.inr h)
        rw [hm]
        refine ih w₁ h3 (Nat.le_trans hz (Nat.le_trans hr.size h2.size)) fun b hb => ?_
        obtain ⟨k1, k2, k3⟩ := hE1 b hb
        refine ⟨fun hb' => ?_, Nat.lt_of_lt_of_le k2 h2.size, (h2.aside b k2 k1).trans k3⟩
        rcases hb' with hb' | hb'
        · exact k1 hb'
        · omega

variable {b : Frame} {a : Act} {k : List Item} {cs : List Frame} {F : World → Prop}

/-- A move of control. -/
theorem W_go {g' : World → Goroutine} {g : Goroutine} (hs : g.status = .running) (rl : ∀ w w₁, F w → Ry S own w w₁ → F w₁) (hF : F w) (hg : ∀ w, F w → stepG P m g w = .go (g' w) w) (h : ∀ w, F w → ∃ t, GoesO P m S (DL RO) Stop t own (g' w) w) : ∃ t, GoesO P m S (DL RO) Stop t own g w :=
  GoesO.ctl hs fun w₁ hr => by
    have hF1 := rl _ _ hF hr
    rw [hg w₁ hF1]
    exact ⟨rfl, rfl, h w₁ hF1⟩

/-- An operation. -/
theorem W_op {ops : Array Oper} {i : Nat} {rest : List Nat} {o : Oper} (ho : ops[i]? = some o) (hw : Region.wanted o (yielded ops a.tmps) = true) (hk : b.kind ≠ .early) (rl : ∀ w w₁, F w → Ry S own w w₁ → F w₁) (hF : F w)
    (h : ∀ w, F w → ∀ K : Act → World → Prop, (∀ a' w', DL RO own w w' (listed P b.fn a o w) → (∃ t, GoesO P m S (DL RO) Stop t (More own w w') (G (b.at a' (.inRegion ops rest :: k)) cs) w') → K a' w') → uponK o a K ((execOp a.eval o).run P w)) :
    ∃ t, GoesO P m S (DL RO) Stop t own (G (b.at a (.inRegion ops (i :: rest) :: k)) cs) w :=
  GoesO.any rfl fun w₁ hr => goes_oper_k ho hw hk fun K hK => h w₁ (rl _ _ hF hr) K fun a' w' h1 h2 => hK a' w' ⟨h1, h2⟩

/-- An operation that looks at no memory, or reads alone: the world stands. -/
theorem W_val {ops : Array Oper} {i : Nat} {rest : List Nat} {o : Oper} (v : Value) (ho : ops[i]? = some o) (hw : Region.wanted o (yielded ops a.tmps) = true) (hk : b.kind ≠ .early) (rl : ∀ w w₁, F w → Ry S own w w₁ → F w₁) (hF : F w)
    (hrun : ∀ w, F w → (execOp a.eval o).run P w = .ok (.value v) w) (hev : ∀ w, F w → DL RO own w w (listed P b.fn a o w))
    (h : ∀ w, F w → ∃ t, GoesO P m S (DL RO) Stop t own (G (b.at (a.put o.dst v) (.inRegion ops rest :: k)) cs) w) :
    ∃ t, GoesO P m S (DL RO) Stop t own (G (b.at a (.inRegion ops (i :: rest) :: k)) cs) w :=
  W_op ho hw hk rl hF fun w hF K hK => by
    rw [hrun w hF]
    refine hK _ w (hev w hF) ?_
    have hm : More own w w = own := by
      funext b
      simp only [More, eq_iff_iff]
      exact ⟨fun h => h.elim id fun h => by omega, .inl⟩
    rw [hm]
    exact h w hF
end
end Go.Par
namespace Go.Par
open Go.Conc

def ran (ρ : Rn) : Nat → Prop := fun b => ∃ a, ρ a b
/-- Blocks of the first whose fellows are these. -/
def pre (ρ : Rn) (RO : Nat → Prop) : Nat → Prop := fun a => ∃ b, ρ a b ∧ RO b

/-- Blocks that may not be written. -/
noncomputable def frz (RO : Nat → Prop) (w : World) : World :=
  open Classical in { w with heap := w.heap.mapIdx fun i o => if RO i then (match o with | .cells c e _ => .cells c e (0, c.size) | o => o) else o }

section
variable {P : Program} {RO R : Nat → Prop} {w : World}
theorem frz_size : (frz RO w).heap.size = w.heap.size := by simp [frz]
theorem frz_get (b : Nat) : (frz RO w).heap[b]? = (w.heap[b]?).map fun o => open Classical in if RO b then (match o with | .cells c e _ => .cells c e (0, c.size) | o => o) else o := by
  simp [frz, Array.getElem?_mapIdx]
theorem frz_cell (p : Addr) : (frz RO w).cell? p = w.cell? p := by
  simp only [World.cell?, frz_get]
  cases h : w.heap[p.block]? with
  | none => rfl
  | some o =>
    simp only [Option.map_some]
    by_cases hr : RO p.block
    · simp only [hr, if_true]
      cases o <;> rfl
    · simp only [hr, if_false]
theorem WR.frz {L : FuncId → Prop} {ρ : Rn} {A : World} {RO0 : Nat → Prop} (h : WR L RO0 P.globals.size ρ A w) (hlt : ∀ b, RO b → b < w.heap.size) : WR L RO P.globals.size ρ (frz (pre ρ RO) A) w := by
  refine ⟨h.fn, h.inj, h.lo, fun a b hab => ?_, fun a b hab off v hv hf => ?_, hlt, h.tape⟩
  · obtain ⟨o, o', e1, e2, e3⟩ := h.obj a b hab
    refine ⟨_, o', by rw [frz_get, e1]; rfl, e2, ?_⟩
    by_cases hr : pre ρ RO a
    · simp only [hr, if_true]
      cases e3 with
      | cells e h => exact .cells e h
      | number l h => exact .number l h
    · simp only [hr, if_false]; exact e3
  · rw [frz_cell] at hv
    have hro : ¬ pre ρ RO a := by
      intro hr
      simp only [World.frozen?, frz_get] at hf
      simp only [World.cell?] at hv
      cases e : A.heap[a]? with
      | none => rw [e] at hv; cases hv
      | some o =>
        rw [e] at hv hf
        cases o with
        | cells c e fr =>
          simp only [Option.isSome_none, Bool.false_eq_true, if_false] at hv
          have := (Array.getElem?_eq_some_iff.1 hv).1
          simp [hr, this] at hf
        | _ => cases hv
    have hf' : A.frozen? ⟨a, off, none⟩ = false := by
      simp only [World.frozen?, frz_get] at hf ⊢
      cases e : A.heap[a]? with
      | none => rfl
      | some o => rw [e] at hf; simpa [hro] using hf
    exact ⟨fun hb => hro ⟨b, hab, hb⟩, (h.thaw a b hab off v hv hf').2⟩
theorem WR.free {L : FuncId → Prop} {ρ : Rn} {A : World} {RO0 : Nat → Prop} (h : WR L RO0 P.globals.size ρ A w) : WR L (fun _ => False) P.globals.size ρ A w :=
  ⟨h.fn, h.inj, h.lo, h.obj, fun a b hab off v hv hf => ⟨id, (h.thaw a b hab off v hv hf).2⟩, fun b hb => hb.elim, h.tape⟩
theorem WR.lt {L : FuncId → Prop} {ρ : Rn} {A : World} {RO0 : Nat → Prop} (h : WR L RO0 P.globals.size ρ A w) {b : Nat} (hb : ran ρ b) : P.globals.size ≤ b ∧ b < w.heap.size := let ⟨a, hab⟩ := hb; ⟨(h.lo a b hab).2, (h.size hab).2⟩
end

section
variable {P : Program} {m : Bool} {S : World → World → Prop} {RO : Nat → Prop} {Stop : (Nat → Prop) → Goroutine → World → Prop}
theorem GoesO.keepJ {J : World → Prop} {bJ : Nat} (hJS : ∀ w w₁, S w w₁ → J w → J w₁) (hJD : ∀ w w' : World, w'.heap[bJ]? = w.heap[bJ]? → J w → J w') {t : T} : ∀ {own : Nat → Prop} {g : Goroutine} {w : World}, GoesO P m S (DL RO) Stop t own g w → J w → ¬ own bJ → bJ < w.heap.size →
    GoesO P m S (DL RO) (fun own g w => Stop own g w ∧ J w ∧ ¬ own bJ) t own g w := by
  induction t with
  | leaf => exact fun h hj ho hb w₁ hr => ⟨h w₁ hr, hJS _ _ hr.st hj, ho⟩
  | node f ih =>
    intro own g w h hj ho hb
    rcases h with h | ⟨hs, h⟩
    · exact .inl fun w₁ hr => ⟨h w₁ hr, hJS _ _ hr.st hj, ho⟩
    · refine .inr ⟨hs, fun w₁ hr => ?_⟩
      obtain ⟨g', w', es, h1, h2, h3⟩ := h w₁ hr
      have hb1 := Nat.lt_of_lt_of_le hb hr.size
      exact ⟨g', w', es, h1, h2, ih w₁ h3 (hJD _ _ (h2.aside bJ hb1 ho) (hJS _ _ hr.st hj)) (fun hm => hm.elim ho fun hm => by omega) (Nat.lt_of_lt_of_le hb1 h2.size)⟩
end

section
variable {P : Program} {L : FuncId → Prop} {LB : FuncId → Bool} {RO : Nat → Prop} {S : World → World → Prop}

/-- What is known where a call has come back. -/
structure Got (P : Program) (L : FuncId → Prop) (RO : Nat → Prop) (ρ0 : Rn) (A0 w0 : World) (Post : Value → World → Prop) (own1 : Nat → Prop) (v' : Value) (w : World) : Prop where
  got : ∃ (v : Value) (wA : World) (ρ : Rn), Post v wA ∧ VR L ρ v v' ∧ (∃ t, WR L RO P.globals.size ρ (re wA t) w) ∧ Rn.Le ρ0 ρ ∧ (∀ a b, ρ a b → ρ0 a b ∨ (A0.heap.size ≤ a ∧ w0.heap.size ≤ b)) ∧ (∀ b, own1 b ↔ ran ρ b ∧ ¬ RO b) ∧ P.globals.size ≤ wA.heap.size
  glob : P.globals.size ≤ w.heap.size

/-- A CALL IN COMPANY, J being told of the block bJ. RO: blocks that it may not write; E1: the goroutine's others; E2: blocks that the others keep. -/
theorem call_inJ {m : Bool} {Stop : (Nat → Prop) → Goroutine → World → Prop} {E1 E2 own : Nat → Prop} {ρ0 : Rn} {A0 w : World} {J : World → Prop} {bJ : Nat} (hJS : ∀ w w₁, S w w₁ → J w → J w₁) (hJD : ∀ w w' : World, w'.heap[bJ]? = w.heap[bJ]? → J w → J w') (hJ : J w) (hJo : ¬ own bJ) (hJb : bJ < w.heap.size)
    (HC : Closed P L LB) (hS : Tr S) (hRO : ∀ w w₁, S w w₁ → ∀ b, RO b → w₁.heap[b]? = w.heap[b]?) (hE2 : ∀ b, E2 b → ∀ w w₁, S w w₁ → w₁.heap[b]? = w.heap[b]?)
    {f : FuncId} (hL : L f) {args0 args : Array Value} (hW : WR L (fun _ => False) P.globals.size ρ0 A0 w) (hlt : ∀ b, RO b → b < w.heap.size) (hglob : P.globals.size ≤ A0.heap.size ∧ P.globals.size ≤ w.heap.size) (hargs : AR L ρ0 args0 args) {Post : Value → World → Prop}
    (hcon : ∀ t, Calls P f args0 (re (frz (pre ρ0 RO) A0) t) fun e w' => ∃ v, e = .returned v ∧ Post v w') (c : Frame) (rest : List Frame)
    (hown : ∀ b, own b ↔ (ran ρ0 b ∧ ¬ RO b) ∨ E1 b) (hE : ∀ b, E1 b ∨ E2 b → ¬ (ran ρ0 b ∧ ¬ RO b) ∧ b < w.heap.size)
    (hk : ∀ own1 v' w1, Got P L RO ρ0 A0 w Post own1 v' w1 → J w1 → ¬ own1 bJ → w.heap.size ≤ w1.heap.size → (∀ b, E1 b ∨ E2 b → ¬ own1 b ∧ w1.heap[b]? = w.heap[b]?) → (∀ b, own1 b → b < w1.heap.size) →
      ∃ t, GoesO P m S (DL RO) Stop t (fun b => own1 b ∨ E1 b) (G (c.finish v') rest) w1) :
    ∃ t, GoesO P m S (DL RO) Stop t own (G (Frame.enter P f args .normal) (c :: rest)) w := by
  obtain ⟨t, ht⟩ := lift_call (LB := LB) (RO := RO) (S := S) HC m hS hRO hL (hW.frz hlt) ⟨by rw [frz_size]; exact hglob.1, hglob.2⟩ hargs hcon c rest
  have hno : ¬ (ran ρ0 bJ ∧ ¬ RO bJ) := fun h => hJo ((hown bJ).2 (.inl h))
  have htJ := GoesO.keepJ hJS hJD ht hJ hno hJb
  have hfr := GoesO.frame (E1 := E1) (E2 := E2) (w0 := w) hE2 htJ (Nat.le_refl _) fun b hb => ⟨(hE b hb).1, (hE b hb).2, rfl⟩
  rw [show own = fun b => (ran ρ0 b ∧ ¬ RO b) ∨ E1 b by funext b; exact propext (hown b)]
  refine hfr.seq fun own' g w1 hstop => ?_
  obtain ⟨own1, ho, ⟨⟨v, v', wA, ρ, rfl, hp, hv, ⟨t', hW1⟩, hb, hle, hnew, hgA, hg⟩, hj1, hjo1⟩, hzz, hkeep⟩ := hstop w1 (.refl hS _ w1)
  rw [show own' = fun b => own1 b ∨ E1 b by funext b; exact propext (ho b)]
  refine hk own1 v' w1 ⟨⟨v, wA, ρ, hp, hv, ⟨t', hW1⟩, hle, fun a b hab => ?_, hb, hgA⟩, hg⟩ hj1 hjo1 ?_ (fun b hb => ⟨(hkeep b hb).1, (hkeep b hb).2.2⟩) fun b hb' => ?_
  · have := hnew a b hab
    rwa [frz_size] at this
  · exact hzz
  · obtain ⟨⟨a, ha⟩, _⟩ := (hb b).1 hb'
    exact (hW1.size ha).2

/-- A CALL IN COMPANY. RO: blocks that it may not write; E1: the goroutine's others; E2: blocks that the others keep. -/
theorem call_in {m : Bool} {Stop : (Nat → Prop) → Goroutine → World → Prop} {E1 E2 own : Nat → Prop} {ρ0 : Rn} {A0 w : World}
    (HC : Closed P L LB) (hS : Tr S) (hRO : ∀ w w₁, S w w₁ → ∀ b, RO b → w₁.heap[b]? = w.heap[b]?) (hE2 : ∀ b, E2 b → ∀ w w₁, S w w₁ → w₁.heap[b]? = w.heap[b]?)
    {f : FuncId} (hL : L f) {args0 args : Array Value} (hW : WR L (fun _ => False) P.globals.size ρ0 A0 w) (hlt : ∀ b, RO b → b < w.heap.size) (hglob : P.globals.size ≤ A0.heap.size ∧ P.globals.size ≤ w.heap.size) (hargs : AR L ρ0 args0 args) {Post : Value → World → Prop}
    (hcon : ∀ t, Calls P f args0 (re (frz (pre ρ0 RO) A0) t) fun e w' => ∃ v, e = .returned v ∧ Post v w') (c : Frame) (rest : List Frame)
    (hown : ∀ b, own b ↔ (ran ρ0 b ∧ ¬ RO b) ∨ E1 b) (hE : ∀ b, E1 b ∨ E2 b → ¬ (ran ρ0 b ∧ ¬ RO b) ∧ b < w.heap.size)
    (hk : ∀ own1 v' w1, Got P L RO ρ0 A0 w Post own1 v' w1 → w.heap.size ≤ w1.heap.size → (∀ b, E1 b ∨ E2 b → ¬ own1 b ∧ w1.heap[b]? = w.heap[b]?) → (∀ b, own1 b → b < w1.heap.size) →
      ∃ t, GoesO P m S (DL RO) Stop t (fun b => own1 b ∨ E1 b) (G (c.finish v') rest) w1) :
    ∃ t, GoesO P m S (DL RO) Stop t own (G (Frame.enter P f args .normal) (c :: rest)) w := by
  obtain ⟨t, ht⟩ := lift_call (LB := LB) (RO := RO) (S := S) HC m hS hRO hL (hW.frz hlt) ⟨by rw [frz_size]; exact hglob.1, hglob.2⟩ hargs hcon c rest
  have hfr := GoesO.frame (E1 := E1) (E2 := E2) (w0 := w) hE2 ht (Nat.le_refl _) fun b hb => ⟨(hE b hb).1, (hE b hb).2, rfl⟩
  rw [show own = fun b => (ran ρ0 b ∧ ¬ RO b) ∨ E1 b by funext b; exact propext (hown b)]
  refine hfr.seq fun own' g w1 hstop => ?_
  obtain ⟨own1, ho, ⟨v, v', wA, ρ, rfl, hp, hv, ⟨t', hW1⟩, hb, hle, hnew, hgA, hg⟩, hzz, hkeep⟩ := hstop w1 (.refl hS _ w1)
  rw [show own' = fun b => own1 b ∨ E1 b by funext b; exact propext (ho b)]
  refine hk own1 v' w1 ⟨⟨v, wA, ρ, hp, hv, ⟨t', hW1⟩, hle, fun a b hab => ?_, hb, hgA⟩, hg⟩ ?_ (fun b hb => ⟨(hkeep b hb).1, (hkeep b hb).2.2⟩) fun b hb' => ?_
  · have := hnew a b hab
    rwa [frz_size] at this
  · exact hzz
  · obtain ⟨⟨a, ha⟩, _⟩ := (hb b).1 hb'
    exact (hW1.size ha).2
end
end Go.Par
namespace Go.Par
open Go.Conc

section
variable {P : Program} {L : FuncId → Prop} {LB : FuncId → Bool} {RO : Nat → Prop} {S : World → World → Prop}

/-- What is known where a piece of code has come to its end. -/
structure GotS (P : Program) (L : FuncId → Prop) (RO : Nat → Prop) (ρ0 : Rn) (A0 w0 : World) (Post : Act → World → Prop) (own1 : Nat → Prop) (T' : Array Value) (w : World) : Prop where
  got : ∃ (a : Act) (wA : World) (ρ : Rn), Post a wA ∧ AR L ρ a.tmps T' ∧ (∃ t, WR L RO P.globals.size ρ (re wA t) w) ∧ Rn.Le ρ0 ρ ∧ (∀ a b, ρ a b → ρ0 a b ∨ (A0.heap.size ≤ a ∧ w0.heap.size ≤ b)) ∧ (∀ b, own1 b ↔ ran ρ b ∧ ¬ RO b) ∧ P.globals.size ≤ wA.heap.size
  glob : P.globals.size ≤ w.heap.size

theorem seg_in_of {m : Bool} {Stop : (Nat → Prop) → Goroutine → World → Prop} {E1 E2 own : Nat → Prop} {ρ0 : Rn} {A0 w : World} {g0 : Goroutine} (hS : Tr S) (hE2 : ∀ b, E2 b → ∀ w w₁, S w w₁ → w₁.heap[b]? = w.heap[b]?)
    (X : BX) {fn : FuncId} {Post : Exit → Act → World → Prop} (cs : List Frame)
    (hl : ∃ t, GoesO P m S (DL RO) (SegEnd P L RO X fn cs ρ0 (frz (pre ρ0 RO) A0) w Post) t (fun b => (∃ a, ρ0 a b) ∧ ¬ RO b) g0 w)
    (hown : ∀ b, own b ↔ (ran ρ0 b ∧ ¬ RO b) ∨ E1 b) (hE : ∀ b, E1 b ∨ E2 b → ¬ (ran ρ0 b ∧ ¬ RO b) ∧ b < w.heap.size)
    (hkN : ∀ own1 T' w1, GotS P L RO ρ0 A0 w (Post .normal) own1 T' w1 → w.heap.size ≤ w1.heap.size → (∀ b, E1 b ∨ E2 b → ¬ own1 b ∧ w1.heap[b]? = w.heap[b]?) → (∀ b, own1 b → b < w1.heap.size) →
      ∃ t, GoesO P m S (DL RO) Stop t (fun b => own1 b ∨ E1 b) (G ⟨fn, T', X.kx, X.dx, .run, X.kd, none⟩ cs) w1)
    (hkR : ∀ own1 T' w1 todo mode, (mode = .returning ∨ (mode = .run ∧ todo = [])) → GotS P L RO ρ0 A0 w (Post .ret) own1 T' w1 → w.heap.size ≤ w1.heap.size → (∀ b, E1 b ∨ E2 b → ¬ own1 b ∧ w1.heap[b]? = w.heap[b]?) → (∀ b, own1 b → b < w1.heap.size) →
      ∃ t, GoesO P m S (DL RO) Stop t (fun b => own1 b ∨ E1 b) (G ⟨fn, T', todo, X.dx, mode, X.kd, none⟩ cs) w1) :
    ∃ t, GoesO P m S (DL RO) Stop t own g0 w := by
  obtain ⟨t, ht⟩ := hl
  have hfr := GoesO.frame (E1 := E1) (E2 := E2) (w0 := w) hE2 ht (Nat.le_refl _) fun b hb => ⟨(hE b hb).1, (hE b hb).2, rfl⟩
  rw [show own = fun b => (ran ρ0 b ∧ ¬ RO b) ∨ E1 b by funext b; exact propext (hown b)]
  refine hfr.seq fun own' g w1 hstop => ?_
  obtain ⟨own1, ho, ⟨e, a, T', wA, ρ, hp, hv, hcase, ⟨t', hW1⟩, hb, hle, hnew, hgA, hg⟩, hzz, hkeep⟩ := hstop w1 (.refl hS _ w1)
  rw [show own' = fun b => own1 b ∨ E1 b by funext b; exact propext (ho b)]
  have hnew' : ∀ a b, ρ a b → ρ0 a b ∨ (A0.heap.size ≤ a ∧ w.heap.size ≤ b) := fun a b hab => by
    have := hnew a b hab
    rwa [frz_size] at this
  have hlt1 : ∀ b, own1 b → b < w1.heap.size := fun b hb' => by
    obtain ⟨⟨a, ha⟩, _⟩ := (hb b).1 hb'
    exact (hW1.size ha).2
  rcases hcase with ⟨rfl, rfl⟩ | ⟨rfl, todo, mode, hm, rfl⟩
  · exact hkN own1 T' w1 ⟨⟨a, wA, ρ, hp, hv, ⟨t', hW1⟩, hle, hnew', hb, hgA⟩, hg⟩ hzz (fun b hb => ⟨(hkeep b hb).1, (hkeep b hb).2.2⟩) hlt1
  · exact hkR own1 T' w1 todo mode hm ⟨⟨a, wA, ρ, hp, hv, ⟨t', hW1⟩, hle, hnew', hb, hgA⟩, hg⟩ hzz (fun b hb => ⟨(hkeep b hb).1, (hkeep b hb).2.2⟩) hlt1

theorem seg_in {m : Bool} {Stop : (Nat → Prop) → Goroutine → World → Prop} {E1 E2 own : Nat → Prop} {ρ0 : Rn} {A0 w : World} (HC : Closed P L LB) (hS : Tr S) (hRO : ∀ w w₁, S w w₁ → ∀ b, RO b → w₁.heap[b]? = w.heap[b]?) (hE2 : ∀ b, E2 b → ∀ w w₁, S w w₁ → w₁.heap[b]? = w.heap[b]?)
    {c : Code} (hc : okCode P LB c = true) (X : BX) (hXp : X.pr = none) (hX : X.kd ≠ .early) {fn : FuncId} (hfn : ∃ g, P.funcs[fn]? = some g) {T0 T : Array Value} (hW : WR L (fun _ => False) P.globals.size ρ0 A0 w) (hlt : ∀ b, RO b → b < w.heap.size) (hglob : P.globals.size ≤ A0.heap.size ∧ P.globals.size ≤ w.heap.size) (hT : AR L ρ0 T0 T) {Post : Exit → Act → World → Prop}
    (hret : ∀ a w, Post .ret a w → X.kx = []) (hcon : ∀ t, c.wp P (fun e a w => (e = .normal ∨ e = .ret) ∧ a.defers = [] ∧ Post e a w) ⟨T0, []⟩ (re (frz (pre ρ0 RO) A0) t)) (cs : List Frame)
    (hown : ∀ b, own b ↔ (ran ρ0 b ∧ ¬ RO b) ∨ E1 b) (hE : ∀ b, E1 b ∨ E2 b → ¬ (ran ρ0 b ∧ ¬ RO b) ∧ b < w.heap.size)
    (hkN : ∀ own1 T' w1, GotS P L RO ρ0 A0 w (Post .normal) own1 T' w1 → w.heap.size ≤ w1.heap.size → (∀ b, E1 b ∨ E2 b → ¬ own1 b ∧ w1.heap[b]? = w.heap[b]?) → (∀ b, own1 b → b < w1.heap.size) →
      ∃ t, GoesO P m S (DL RO) Stop t (fun b => own1 b ∨ E1 b) (G ⟨fn, T', X.kx, X.dx, .run, X.kd, none⟩ cs) w1)
    (hkR : ∀ own1 T' w1 todo mode, (mode = .returning ∨ (mode = .run ∧ todo = [])) → GotS P L RO ρ0 A0 w (Post .ret) own1 T' w1 → w.heap.size ≤ w1.heap.size → (∀ b, E1 b ∨ E2 b → ¬ own1 b ∧ w1.heap[b]? = w.heap[b]?) → (∀ b, own1 b → b < w1.heap.size) →
      ∃ t, GoesO P m S (DL RO) Stop t (fun b => own1 b ∨ E1 b) (G ⟨fn, T', todo, X.dx, mode, X.kd, none⟩ cs) w1) :
    ∃ t, GoesO P m S (DL RO) Stop t own (G ⟨fn, T, .code c :: X.kx, X.dx, .run, X.kd, none⟩ cs) w :=
  seg_in_of hS hE2 X cs (lift_wp (LB := LB) (RO := RO) (S := S) HC m hRO hc X hXp hX hfn (hW.frz hlt) ⟨by rw [frz_size]; exact hglob.1, hglob.2⟩ hT hret hcon cs) hown hE hkN hkR

/-- Statements one behind the other; r is what comes behind them. -/
theorem pre_in {m : Bool} {Stop : (Nat → Prop) → Goroutine → World → Prop} {E1 E2 own : Nat → Prop} {ρ0 : Rn} {A0 w : World} (HC : Closed P L LB) (hS : Tr S) (hRO : ∀ w w₁, S w w₁ → ∀ b, RO b → w₁.heap[b]? = w.heap[b]?) (hE2 : ∀ b, E2 b → ∀ w w₁, S w w₁ → w₁.heap[b]? = w.heap[b]?)
    {l : List Code} {r : Code} (hc : l.all (okCode P LB) = true) (kx : List Item) (dx : List Deferred) {kd : CallKind} (hX : kd ≠ .early) {fn : FuncId} (hfn : ∃ g, P.funcs[fn]? = some g) {T0 T : Array Value} (hW : WR L (fun _ => False) P.globals.size ρ0 A0 w) (hlt : ∀ b, RO b → b < w.heap.size) (hglob : P.globals.size ≤ A0.heap.size ∧ P.globals.size ≤ w.heap.size) (hT : AR L ρ0 T0 T) {Post : Exit → Act → World → Prop}
    (hcon : ∀ t, preWp P l (fun e a w => (e = .normal ∨ e = .ret) ∧ a.defers = [] ∧ Post e a w) ⟨T0, []⟩ (re (frz (pre ρ0 RO) A0) t)) (cs : List Frame)
    (hown : ∀ b, own b ↔ (ran ρ0 b ∧ ¬ RO b) ∨ E1 b) (hE : ∀ b, E1 b ∨ E2 b → ¬ (ran ρ0 b ∧ ¬ RO b) ∧ b < w.heap.size)
    (hkN : ∀ own1 T' w1, GotS P L RO ρ0 A0 w (Post .normal) own1 T' w1 → w.heap.size ≤ w1.heap.size → (∀ b, E1 b ∨ E2 b → ¬ own1 b ∧ w1.heap[b]? = w.heap[b]?) → (∀ b, own1 b → b < w1.heap.size) →
      ∃ t, GoesO P m S (DL RO) Stop t (fun b => own1 b ∨ E1 b) (G ⟨fn, T', .code r :: kx, dx, .run, kd, none⟩ cs) w1)
    (hkR : ∀ own1 T' w1 todo mode, (mode = .returning ∨ (mode = .run ∧ todo = [])) → GotS P L RO ρ0 A0 w (Post .ret) own1 T' w1 → w.heap.size ≤ w1.heap.size → (∀ b, E1 b ∨ E2 b → ¬ own1 b ∧ w1.heap[b]? = w.heap[b]?) → (∀ b, own1 b → b < w1.heap.size) →
      ∃ t, GoesO P m S (DL RO) Stop t (fun b => own1 b ∨ E1 b) (G ⟨fn, T', todo, dx, mode, kd, none⟩ cs) w1) :
    ∃ t, GoesO P m S (DL RO) Stop t own (G ⟨fn, T, .code (seqs r l) :: kx, dx, .run, kd, none⟩ cs) w :=
  seg_in_of hS hE2 ⟨.code r :: kx, dx, kd, none⟩ cs (lift_pre (LB := LB) (RO := RO) (S := S) HC m hRO hc kx dx hX hfn (hW.frz hlt) ⟨by rw [frz_size]; exact hglob.1, hglob.2⟩ hT hcon cs) hown hE hkN hkR

/-! ### what is read of cells behind it -/
variable {ρ : Rn} {A B : World}
theorem WR.cellRe {t : Nat → Question → Nat} (h : WR L RO P.globals.size ρ (re A t) B) {a b : Addr} (ha : AdR ρ a b) {v : Value} (hv : A.cell? a = some v) : ∃ v', B.cell? b = some v' ∧ VR L ρ v v' := h.cell ha hv
theorem VR.int_eq {k : IntKind} {n : Int} {v : Value} (h : VR L ρ (.int k n) v) : v = .int k n := by cases h; rfl
theorem VR.bool_eq {b : Bool} {v : Value} (h : VR L ρ (.bool b) v) : v = .bool b := by cases h; rfl
/-- A row of ints lies where its slice points now. -/
theorem WR.ints {t : Nat → Question → Nat} (h : WR L RO P.globals.size ρ (re A t) B) {a : Nat} {off : Nat} {q : Addr} (ha : AdR ρ ⟨a, off, none⟩ q) {n : Nat} {f : Nat → Int} (hv : ∀ j, j < n → A.cell? ⟨a, off + j, none⟩ = some (.int .i64 (f j))) :
    q.spot = none ∧ q.off = off ∧ ∀ j, j < n → B.cell? ⟨q.block, off + j, none⟩ = some (.int .i64 (f j)) := by
  have hs : q.spot = none := ha.spot.symm
  refine ⟨hs, ha.off.symm, fun j hj => ?_⟩
  obtain ⟨v', h1, h2⟩ := h.cellRe (a := ⟨a, off + j, none⟩) (b := ⟨q.block, off + j, none⟩) ⟨ha.blk, rfl, rfl⟩ (hv j hj)
  rw [h1, h2.int_eq]
end
end Go.Par
namespace Go.Par
open Go.Conc

def readyL (m : Region.Mode) (ops : Array Oper) (listed : Array Bool) : List Nat :=
  (List.range ops.size).filter fun i => !listed.getD i true && ((ops[i]?).map (·.after.all fun e => !Region.binds m e || listed.getD e.on false)).getD false
/-- All orders. -/
def allS (m : Region.Mode) (ops : Array Oper) : Nat → Array Bool → List (List Nat)
  | 0, _ => [[]]
  | fuel + 1, listed => if (readyL m ops listed).isEmpty then [[]] else (readyL m ops listed).flatMap fun i => (allS m ops fuel (listed.setIfInBounds i true)).map (i :: ·)

theorem allS_go (m : Region.Mode) (ops : Array Oper) : ∀ (fuel t : Nat) (listed : Array Bool), Region.linearise.go m ops fuel t listed [] ∈ allS m ops fuel listed
  | 0, t, listed => by simp [Region.linearise.go, allS]
  | fuel + 1, t, listed => by
    simp only [Region.linearise.go, allS]
    change (match (readyL m ops listed)[t % (readyL m ops listed).length]? with
      | some i => Region.linearise.go m ops fuel (t / (readyL m ops listed).length) (listed.setIfInBounds i true) [i]
      | none => [].reverse) ∈ _
    cases hi : (readyL m ops listed)[t % (readyL m ops listed).length]? with
    | none =>
      have hnil : readyL m ops listed = [] := by
        cases hr : readyL m ops listed with
        | nil => rfl
        | cons x xs =>
          rw [hr] at hi
          have hlt : t % (x :: xs).length < (x :: xs).length := Nat.mod_lt _ (by simp)
          simp at hi
          simp at hlt
          omega
      simp [hnil]
    | some i =>
      have hm := List.mem_of_getElem? hi
      have hne : (readyL m ops listed).isEmpty = false := by
        cases hr : readyL m ops listed with
        | nil => rw [hr] at hm; cases hm
        | cons x xs => rfl
      rw [if_neg (by rw [hne]; simp)]
      simp only []
      rw [linearise_go_acc, List.reverse_singleton, List.singleton_append]
      exact List.mem_flatMap.2 ⟨i, hm, List.mem_map.2 ⟨_, allS_go m ops fuel _ _, rfl⟩⟩

theorem allS_schedule {ops : Array Oper} {l : List (List Nat)} (h : allS .any ops ops.size (Array.replicate ops.size false) = l) (t : Nat) : Region.schedule true ops t ∈ l := by
  rw [← h]
  simp only [Region.schedule, Bool.true_or, if_true]
  exact allS_go _ _ _ _ _

section
variable {P : Program} {m : Bool} {S : World → World → Prop} {RO : Nat → Prop} {Stop : (Nat → Prop) → Goroutine → World → Prop} {own : Nat → Prop} {w : World} {b : Frame} {a : Act} {k : List Item} {cs : List Frame} {F : World → Prop}
/-- A region that draws: each order. -/
theorem W_draw {id : Nat} {ops : Array Oper} {l : List (List Nat)} (hf : P.follows .mixedOrders = true) (h : allS .any ops ops.size (Array.replicate ops.size false) = l) (rl : ∀ w w₁, F w → Ry S own w w₁ → F w₁) (hd : ∀ w : World, F w → F { w with drawn := w.drawn + 1 }) (hF : F w)
    (hk : ∀ s ∈ l, ∀ w, F w → ∃ t, GoesO P m S (DL RO) Stop t own (G (b.at a (.inRegion ops s :: k)) cs) w) : ∃ t, GoesO P m S (DL RO) Stop t own (G (b.at a (.code (.region id ops true) :: k)) cs) w := by
  refine GoesO.any rfl fun w₁ hr => ?_
  rw [stepG_region_draw]
  refine ⟨⟨Nat.le_refl _, fun _ _ _ => rfl, rfl, rfl, rfl, by simp⟩, ?_⟩
  have hm : More own w₁ ({ w₁ with drawn := w₁.drawn + 1 } : World) = own := by
    funext b
    simp only [More, eq_iff_iff]
    exact ⟨fun h => h.elim (fun h => h) fun h => by have : w₁.heap.size ≤ b ∧ b < w₁.heap.size := h; omega, .inl⟩
  rw [hm, hf]
  exact hk _ (allS_schedule h _) _ (hd _ (rl _ _ hF hr))
end
end Go.Par
namespace Go.Par
open Go.Conc

section
variable {P : Program} {L : FuncId → Prop} {ρ : Rn} {A w : World}
/-- A new block of the lone world, of plain values, for a block that has no fellow yet. -/
theorem WR.own (h : WR L (fun _ => False) P.globals.size ρ A w) {S : Nat} {c : Array Value} {e : TypeId} (hS : w.heap[S]? = some (.cells c e (0, 0))) (hno : ¬ ran ρ S) (hG : P.globals.size ≤ A.heap.size ∧ P.globals.size ≤ S) (hp : ∀ (i : Nat) (v : Value), c[i]? = some v → ∃ k n, v = .int k n) :
    WR L (fun _ => False) P.globals.size (ρ.ext A.heap.size S) (A.alloc (.cells c e)) w := by
  have hA : ∀ b, b < A.heap.size → (A.alloc (.cells c e)).heap[b]? = A.heap[b]? := fun b hb => Go.RowKit.Below.heap_alloc _ _ _ hb
  have hle := Rn.le_ext ρ A.heap.size S
  have hlt : ∀ a b, ρ a b → a < A.heap.size := fun a b hab => (h.size hab).1
  refine ⟨fun a b b' h1 h2 => ?_, fun a a' b h1 h2 => ?_, fun a b h1 => ?_, fun a b h1 => ?_, fun a b h1 off v hv hf => ?_, fun b hb => hb.elim, h.tape⟩
  · rcases h1 with h1 | ⟨rfl, rfl⟩ <;> rcases h2 with h2 | ⟨h3, rfl⟩
    · exact h.fn a b b' h1 h2
    · have := hlt _ _ h1; omega
    · have := hlt _ _ h2; omega
    · rfl
  · rcases h1 with h1 | ⟨rfl, rfl⟩ <;> rcases h2 with h2 | ⟨h3, h4⟩
    · exact h.inj a a' b h1 h2
    · subst h4; exact absurd ⟨a, h1⟩ hno
    · exact absurd ⟨a', h2⟩ hno
    · exact h3.symm
  · rcases h1 with h1 | ⟨rfl, rfl⟩
    · exact h.lo a b h1
    · exact hG
  · rcases h1 with h1 | ⟨rfl, rfl⟩
    · obtain ⟨o, o', e1, e2, ho⟩ := h.obj a b h1
      refine ⟨o, o', (hA a (hlt a b h1)).trans e1, e2, ?_⟩
      cases ho with
      | cells e h => exact .cells e (h.mono hle)
      | number l h => exact .number l (h.mono hle)
    · refine ⟨_, _, heap_alloc_new A (.cells c e), hS, .cells e ⟨rfl, fun i a b ha hb => ?_⟩⟩
      rw [ha] at hb; cases hb
      obtain ⟨k, n, rfl⟩ := hp i a ha
      exact .int k n
  · rcases h1 with h1 | ⟨rfl, rfl⟩
    · have e := hA a (hlt a b h1)
      exact ⟨id, (h.thaw a b h1 off v (by simpa only [World.cell?, e] using hv) (by simpa only [World.frozen?, e] using hf)).2⟩
    · exact ⟨id, by simp [World.frozen?, hS]⟩
end
end Go.Par
namespace Go.Par
open Go.Conc
open Go.ConcN (sumTo upd sumTo_upd upd_ne upd_same)

/-- WHAT IS HELD OF THE TRACE: no data race; goroutine 0 knows every touch of memory but atomic ones of shunned places; all is handed over; goroutine 0 hears; every place that is touched lies in a block below B. -/
structure PastX (Shun : Loc → Prop) (B : Nat) (t : Trace) : Prop where
  clean : ∀ said, ¬ Race said t
  known : ∀ i a, touchAt t i = some a → a.loc.isMemory = true → Knows t 0 i ∨ (Shun a.loc ∧ a.kind = .atomic)
  over : t.HandedOver
  hears : Deaf t 0 = 0
  low : ∀ i a, touchAt t i = some a → a.loc.low B

/-- What a step of goroutine 0's may list. -/
def EvX (Shun : Loc → Prop) (B : Nat) (e : Event) : Prop := (∀ x, (MemAct.ofEvent e).touch? = some x → (Shun x.loc → x.kind ≠ .plain) ∧ x.loc.low B) ∧ e.loc ≠ .mark .disable ∧ e.loc ≠ .mark .enable

section
variable {Shun : Loc → Prop} {B : Nat} {t u : Trace}

theorem PastX.mono {B' : Nat} (h : PastX Shun B t) (hB : B ≤ B') : PastX Shun B' t := ⟨h.clean, h.known, h.over, h.hears, fun i a ha => Loc.low_mono hB (h.low i a ha)⟩

theorem low_app (h : ∀ i a, touchAt t i = some a → a.loc.low B) (hu : ∀ op ∈ u, ∀ x, op.act.touch? = some x → x.loc.low B) : ∀ i a, touchAt (t ++ u) i = some a → a.loc.low B := by
  intro i a ha
  obtain ⟨x, hx, hxa⟩ := touch_of ha
  rcases getElem?_append_cases hx with ⟨_, hx'⟩ | ⟨_, hxu⟩
  · exact h i a (by rw [touchAt_of hx']; exact hxa)
  · exact hu x hxu a hxa

/-- Goroutine 0's own operations. -/
theorem PastX.app0 (h : PastX Shun B t) (hu : ∀ op ∈ u, op.g = 0) (hs : ∀ op ∈ u, ∀ b, op.act.touch? = some b → (Shun b.loc → b.kind ≠ .plain) ∧ b.loc.low B) (hd : Deaf (t ++ u) 0 = 0) : PastX Shun B (t ++ u) := by
  refine ⟨fun said => noRace_append (h.clean said) hu fun i a ha op hop b hb hc => ?_, fun i a ha hm => ?_, handedOver_app h.over fun op hop => .inl (hu op hop), hd, low_app h.low fun op hop x hx => (hs op hop x hx).2⟩
  · rcases h.known i a ha hc.2.1 with hk | ⟨hsa, hka⟩
    · exact hk
    · have hkb := (hs op hop b hb).1 (hc.1 ▸ hsa)
      obtain ⟨_, _, _, hcase⟩ := hc
      rw [hka] at hcase
      rcases hcase with x | x | ⟨_, x, _⟩
      · cases x
      · exact absurd x hkb
      · cases x
  · obtain ⟨x, hx, hxa⟩ := touch_of ha
    rcases getElem?_append_cases hx with ⟨_, hx'⟩ | ⟨_, hxu⟩
    · exact (h.known i a (by rw [touchAt_of hx']; exact hxa) hm).imp (·.app u) id
    · have := knows_own hx
      rw [hu x hxu] at this
      exact .inl this

/-- Operations of one goroutine other than 0 that touch nothing. -/
theorem PastX.appMute {g : Nat} (h : PastX Shun B t) (hg : g ≠ 0) (hu : ∀ op ∈ u, op.g = g) (hn : ∀ op ∈ u, op.act.touch? = none) : PastX Shun B (t ++ u) := by
  refine ⟨fun said => noRace_append (h.clean said) hu fun i a _ op hop b hb _ => (by rw [hn op hop] at hb; cases hb), fun i a ha hm => ?_, handedOver_app h.over fun op hop => .inr (hn op hop), (Deaf_other t hg u hu).trans h.hears,
    low_app h.low fun op hop x hx => by rw [hn op hop] at hx; cases hx⟩
  obtain ⟨x, hx, hxa⟩ := touch_of ha
  rcases getElem?_append_cases hx with ⟨_, hx'⟩ | ⟨_, hxu⟩
  · exact (h.known i a (by rw [touchAt_of hx']; exact hxa) hm).imp (·.app u) id
  · rw [hn x hxu] at hxa; cases hxa

theorem PastX.own (h : PastX Shun B t) {fn : FuncId} {pos : String} {es : Array Event} (hes : ∀ e ∈ es, EvX Shun B e) : PastX Shun B (t ++ MemOp.ofEvents 0 fn pos es) := by
  refine h.app0 (fun op hop => by obtain ⟨e, _, rfl⟩ := Conc.mem_ofEvents hop; rfl) (fun op hop b hb => by obtain ⟨e, he, rfl⟩ := Conc.mem_ofEvents hop; exact (hes e he).1 b hb) ?_
  rw [Deaf_own, h.hears]
  exact deafBehind_still (fun e he => ⟨(hes e he).2.1, (hes e he).2.2⟩) _

theorem PastX.mute (h : PastX Shun B t) {g : Nat} (hg : g ≠ 0) {fn : FuncId} {pos : String} {es : Array Event} (hm : ∀ e ∈ es, e.mute = true) : PastX Shun B (t ++ MemOp.ofEvents g fn pos es) :=
  h.appMute hg (fun op hop => by obtain ⟨e, _, rfl⟩ := Conc.mem_ofEvents hop; rfl) (fun op hop => by obtain ⟨e, he, rfl⟩ := Conc.mem_ofEvents hop; exact touch_mute (hm e he))

theorem pastX_nil : PastX Shun B #[] :=
  ⟨fun said => by rintro ⟨i, j, _, ⟨a, b, ha, _⟩, _⟩; simp [Trace.act?] at ha, fun i a ha => by simp [touchAt, Trace.act?] at ha, fun i g hg => by simp [Trace.g?] at hg, rfl, fun i a ha => by simp [touchAt, Trace.act?] at ha⟩
end

theorem atRel_tr : Tr AtRel := ⟨atRel_refl, atRel_trans⟩
theorem ry_at (own : Nat → Prop) (w : World) (d : Nat) : Ry AtRel own w (w.at d) := ⟨⟨d, rfl⟩, fun _ _ => rfl, Nat.le_refl _⟩

section
variable {P : Program} {Shun : Loc → Prop} {D : (Nat → Prop) → World → World → Array Event → Prop} {OK : (Nat → Prop) → World → Prop} {Stop : (Nat → Prop) → Goroutine → World → Prop}

/-- THE WALK BESIDE LEAVERS, ON WHATEVER TAPE. -/
theorem walk_besideX (hOK : ∀ own w d, OK own w → OK own (w.at d)) (hD : ∀ own w w' es, OK own w → D own w w' es → w.heap.size ≤ w'.heap.size ∧ OK (More own w w') w' ∧ ∀ e ∈ es, EvX Shun w'.heap.size e) (tr : T) :
    ∀ (own : Nat → Prop) (gs : Array Goroutine) (a : Goroutine) (w : World) (sl : Option (Nat × Nat)) (t : Trace) (q : Nat → Nat), gs[0]? = some a → Leavers P t gs q → PastX Shun w.heap.size t → OK own w →
      GoesO P true AtRel D Stop tr own a w →
      ∃ (N : Nat) (own' : Nat → Prop) (gs' : Array Goroutine) (a' : Goroutine) (w' : World) (sl' : Option (Nat × Nat)) (t' : Trace) (q' : Nat → Nat),
        runNT P N (crowd gs w sl) t = (.next (crowd gs' w' sl'), t') ∧ gs'.size = gs.size ∧ gs'[0]? = some a' ∧ Stop own' a' w' ∧ Leavers P t' gs' q' ∧ PastX Shun w'.heap.size t' ∧ OK own' w' := by
  induction tr with
  | leaf => intro own gs a w sl t q h0 hL hP hO hG; exact ⟨0, own, gs, a, w, sl, t, q, rfl, rfl, h0, hG w (.refl atRel_tr own w), hL, hP, hO⟩
  | node f ihf =>
    intro own gs a w sl t q
    generalize hM : sumTo gs.size q = M
    induction M using Nat.strongRecOn generalizing own gs a w sl t q with
    | ind M ih =>
      intro h0 hL hP hO hG
      rcases hG with hstop | ⟨hrun, hstep⟩
      · exact ⟨0, own, gs, a, w, sl, t, q, rfl, rfl, h0, hstop w (.refl atRel_tr own w), hL, hP, hO⟩
      have haw : ∀ g ∈ gs, awake g := by
        intro g hg
        obtain ⟨i, hi, rfl⟩ := Array.mem_iff_getElem.1 hg
        rcases Nat.eq_zero_or_pos i with rfl | hpos
        · have : gs[0] = a := by simpa [Array.getElem?_eq_getElem hi] using h0
          rw [this]; exact awake_of (.inl hrun)
        · exact awake_of ((hL.old i _ hpos (Array.getElem?_eq_getElem hi)).status.elim .inl fun x => .inr (.inr x))
      obtain ⟨i, g, d, sl', hi, hg, hst⟩ := crowd_pick (P := P) (w := w) (sl := sl) haw ⟨0, a, h0, hrun⟩
      rcases Nat.eq_zero_or_pos i with rfl | hpos
      · obtain rfl : g = a := by rw [h0] at hi; exact (Option.some.inj hi).symm
        obtain ⟨a', w', es, hgo, hd, hG'⟩ := hstep (w.at d) (ry_at own w d)
        obtain ⟨hz, hO', hev⟩ := hD _ _ _ _ (hOK _ _ d hO) hd
        have hrunT := runT_crowd_go (P := P) (sl := sl') (i := 0) hi (show stepG P (0 == 0) g (w.at d) = _ from hgo)
        have hlt : 0 < gs.size := (Array.getElem?_eq_some_iff.1 h0).1
        obtain ⟨N, own', gs', a'', w'', sl'', t', q', hr, hs', h0', hS, hL', hP', hOf⟩ := ihf (w.at d) (More own (w.at d) w') ((gs.map (woken P g a' w')).setIfInBounds 0 a') a' w' sl' (t ++ MemOp.ofEvents 0 g.frame.fn g.frame.place es) q (by simp [hlt])
          ⟨fun j x hj hx => by
            have hne : 0 ≠ j := by omega
            rw [Array.getElem?_setIfInBounds_ne hne, Array.getElem?_map] at hx
            obtain ⟨y, hy, rfl⟩ := Option.map_eq_some_iff.1 hx
            have hq := hL.old j y hj hy
            rw [woken_quitsD hq, Deaf_other t (by omega) _ (fun op hop => by obtain ⟨e, _, rfl⟩ := Conc.mem_ofEvents hop; rfl)]
            exact hq, fun j hj => by
            rw [Deaf_other t (g' := 0) (by simp at hj; omega) _ (fun op hop => by obtain ⟨e, _, rfl⟩ := Conc.mem_ofEvents hop; rfl)]
            exact hL.above j (by simpa using hj)⟩
          ((hP.mono hz).own hev) hO' hG'
        exact ⟨N + 1, own', gs', a'', w'', sl'', t', q', by simp only [runNT, hst, hrunT]; exact hr, hs'.trans (by simp), h0', hS, hL', hP', hOf⟩
      · have hq := hL.old i g hpos hi
        have hi0 : (i == 0) = false := by simp; omega
        have hlt : i < gs.size := (Array.getElem?_eq_some_iff.1 hi).1
        cases hqi : q i with
        | zero => rw [hqi] at hq; rw [hq.1] at hg; cases hg
        | succ k =>
          rw [hqi] at hq
          rcases hq with ⟨hf, _⟩ | ⟨_, g', es, hm, hstp, hq'⟩
          · rw [hf] at hg; cases hg
          have hrunT := runT_crowd_go (P := P) (sl := sl') (i := i) hi (by rw [hi0]; exact hstp (w.at d))
          have hsz : ((gs.map (woken P g g' (w.at d))).setIfInBounds i g').size = gs.size := by simp
          have hsum : sumTo gs.size (upd q i k) + (k + 1) = sumTo gs.size q + k := by
            have := sumTo_upd q k id hlt
            simpa [hqi] using this
          obtain ⟨N, own', gs', a'', w'', sl'', t', q', hr, hs', h0', hS, hL', hP', hOf⟩ := ih (sumTo gs.size (upd q i k)) (by omega) own ((gs.map (woken P g g' (w.at d))).setIfInBounds i g') a (w.at d) sl' (t ++ MemOp.ofEvents i g.frame.fn g.frame.place es) (upd q i k) (by rw [hsz])
            (by
              have hne : i ≠ 0 := by omega
              rw [Array.getElem?_setIfInBounds_ne hne, Array.getElem?_map, h0]
              simp [woken_run hrun])
            ⟨fun j x hj hx => by
              by_cases hji : i = j
              · subst hji
                rw [Array.getElem?_setIfInBounds_self_of_lt (by simpa using hlt)] at hx
                obtain rfl := Option.some.inj hx
                rw [upd_same, Deaf_own]
                exact hq'
              · rw [Array.getElem?_setIfInBounds_ne hji, Array.getElem?_map] at hx
                obtain ⟨y, hy, rfl⟩ := Option.map_eq_some_iff.1 hx
                have hqj := hL.old j y hj hy
                rw [woken_quitsD hqj, upd_ne q k (Ne.symm hji), Deaf_other t hji _ (fun op hop => by obtain ⟨e, _, rfl⟩ := Conc.mem_ofEvents hop; rfl)]
                exact hqj, fun j hj => by
              rw [Deaf_other t (g' := i) (by simp at hj; omega) _ (fun op hop => by obtain ⟨e, _, rfl⟩ := Conc.mem_ofEvents hop; rfl)]
              exact hL.above j (by simpa using hj)⟩
            (hP.mute (by omega) hm) (hOK _ _ d hO) (GoesO.rely atRel_tr (.inr ⟨hrun, hstep⟩) (ry_at own w d))
          exact ⟨N + 1, own', gs', a'', w'', sl'', t', q', by simp only [runNT, hst, hrunT]; exact hr, hs'.trans hsz, h0', hS, hL', hP', hOf⟩
end
end Go.Par
namespace Go.Par
open Go.Conc

section
variable {P : Program} {L : FuncId → Prop}

theorem DL.monoRO {RO RO' own : Nat → Prop} (hR : ∀ b, RO b → RO' b) {w w' : World} {es : Array Event} (h : DL RO own w w' es) : DL RO' own w w' es :=
  ⟨h.size, h.aside, h.tape, h.os, h.output, fun e he => (h.evs e he).imp (fun ⟨a, wr, e1, h1⟩ => ⟨a, wr, e1, h1.imp id fun ⟨h2, h3⟩ => ⟨hR _ h2, h3⟩⟩) (Or.imp (fun ⟨r, e1, h1⟩ => ⟨r, e1, h1.imp id (hR _)⟩) id)⟩

theorem DL.monoRO' {RO RO' own0 own : Nat → Prop} (hR : ∀ b, RO b → RO' b ∨ own0 b) (ho : ∀ b, own0 b → own b) {w w' : World} {es : Array Event} (h : DL RO own w w' es) : DL RO' own w w' es :=
  ⟨h.size, h.aside, h.tape, h.os, h.output, fun e he => by
    rcases h.evs e he with ⟨a, wr, e1, h1⟩ | ⟨r, e1, h1⟩ | e1
    · refine .inl ⟨a, wr, e1, ?_⟩
      rcases h1 with h1 | ⟨h1, h2⟩
      · exact .inl h1
      · exact (hR _ h1).elim (fun h => .inr ⟨h, h2⟩) fun h => .inl (.inl (ho _ h))
    · refine .inr (.inl ⟨r, e1, ?_⟩)
      rcases h1 with h1 | h1
      · exact .inl h1
      · exact (hR _ h1).elim .inr fun h => .inl (.inl (ho _ h))
    · exact .inr (.inr e1)⟩
theorem GoesO.monoOwn {m : Bool} {S : World → World → Prop} {D D' : (Nat → Prop) → World → World → Array Event → Prop} {Stop : (Nat → Prop) → Goroutine → World → Prop} {own0 : Nat → Prop} (hD : ∀ own w w' es, (∀ b, own0 b → own b) → D own w w' es → D' own w w' es) {t : T} : ∀ {own : Nat → Prop} {g : Goroutine} {w : World}, (∀ b, own0 b → own b) → GoesO P m S D Stop t own g w → GoesO P m S D' Stop t own g w := by
  induction t with
  | leaf => intro own g w _ h; exact h
  | node f ih =>
    intro own g w ho h
    rcases h with h | ⟨hs, h⟩
    · exact .inl h
    · refine .inr ⟨hs, fun w₁ hr => ?_⟩
      obtain ⟨g', w', es, h1, h2, h3⟩ := h w₁ hr
      exact ⟨g', w', es, h1, hD _ _ _ _ ho h2, ih w₁ (fun b hb => .inl (ho b hb)) h3⟩

/-- Tape, operating system and output stand. -/
structure Std (w0 w : World) : Prop where
  tape : w.tape = w0.tape
  os : w.os = w0.os
  output : w.output = w0.output
theorem GoesO.keepT {m : Bool} {RO : Nat → Prop} {Stop : (Nat → Prop) → Goroutine → World → Prop} {w0 : World} {t : T} : ∀ {own : Nat → Prop} {g : Goroutine} {w : World}, GoesO P m AtRel (DL RO) Stop t own g w → Std w0 w → GoesO P m AtRel (DL RO) (fun own g w => Stop own g w ∧ Std w0 w) t own g w := by
  have ry : ∀ {own : Nat → Prop} {w w₁ : World}, Ry AtRel own w w₁ → Std w0 w → Std w0 w₁ := fun h k => by obtain ⟨d, rfl⟩ := h.st; exact ⟨k.tape, k.os, k.output⟩
  induction t with
  | leaf => exact fun h hj w₁ hr => ⟨h w₁ hr, ry hr hj⟩
  | node f ih =>
    intro own g w h hj
    rcases h with h | ⟨hs, h⟩
    · exact .inl fun w₁ hr => ⟨h w₁ hr, ry hr hj⟩
    · refine .inr ⟨hs, fun w₁ hr => ?_⟩
      obtain ⟨g', w', es, h1, h2, h3⟩ := h w₁ hr
      have k := ry hr hj
      exact ⟨g', w', es, h1, h2, ih w₁ h3 ⟨h2.tape.trans k.tape, h2.os.trans k.os, h2.output.trans k.output⟩⟩

/-- What is held of the lone world and the true one. -/
structure Sim (P : Program) (L : FuncId → Prop) (ρ : Rn) (A w : World) : Prop where
  wr : WR L (fun _ => False) P.globals.size ρ A w
  gA : P.globals.size ≤ A.heap.size
  gB : P.globals.size ≤ w.heap.size
theorem Sim.at {ρ : Rn} {A w : World} (h : Sim P L ρ A w) (d : Nat) : ∃ t, Sim P L ρ (re A t) (w.at d) :=
  ⟨_, h.wr.retape (w₁ := w.at d) (fun _ _ => rfl) (Nat.le_refl _) (fun _ _ => 0), h.gA, h.gB⟩
theorem Sim.keep {ρ : Rn} {A w w₁ : World} (h : Sim P L ρ A w) (hk : ∀ b, ran ρ b → w₁.heap[b]? = w.heap[b]?) (hz : w.heap.size ≤ w₁.heap.size) : ∃ t, Sim P L ρ (re A t) w₁ :=
  ⟨_, h.wr.retape (w₁ := w₁) (fun b hb => hk b hb) hz (fun _ _ => 0), h.gA, Nat.le_trans h.gB hz⟩

/-- Where a pure piece has ended: what is known. -/
structure Pu (P : Program) (L : FuncId → Prop) (ρ0 : Rn) (A0 w0 : World) (own own' : Nat → Prop) (ρ : Rn) (wA w : World) : Prop where
  sim : ∃ t, Sim P L ρ (re wA t) w
  le : Rn.Le ρ0 ρ
  new : ∀ a b, ρ a b → ρ0 a b ∨ (A0.heap.size ≤ a ∧ w0.heap.size ≤ b)
  own : ∀ b, own' b ↔ own b ∨ (ran ρ b ∧ ¬ ran ρ0 b)
  keep : ∀ b, b < w0.heap.size → w.heap[b]? = w0.heap[b]?
  size : w0.heap.size ≤ w.heap.size
  std : Std w0 w

section
variable {ρ0 ρ : Rn} {A0 w0 w wA : World} {own own' : Nat → Prop}
theorem Pu.fresh (h : Pu P L ρ0 A0 w0 own own' ρ wA w) {b : Nat} (hb : ran ρ b) : ran ρ0 b ∨ (w0.heap.size ≤ b ∧ b < w.heap.size) := by
  obtain ⟨a, hab⟩ := hb
  rcases h.new a b hab with h0 | ⟨_, hb⟩
  · exact .inl ⟨a, h0⟩
  · obtain ⟨_, hw⟩ := h.sim
    exact .inr ⟨hb, (hw.wr.size hab).2⟩
theorem Pu.lt (h : Pu P L ρ0 A0 w0 own own' ρ wA w) (ho : ∀ b, own b → b < w0.heap.size) {b : Nat} (hb : own' b) : b < w.heap.size := by
  rcases (h.own b).1 hb with h1 | ⟨h1, h2⟩
  · exact Nat.lt_of_lt_of_le (ho b h1) h.size
  · exact (h.fresh h1).elim (fun h => absurd h h2) fun h => h.2
end

section
variable {LB : FuncId → Bool} {RO own : Nat → Prop} {ρ0 : Rn} {A0 w : World} {m : Bool} {Stop : (Nat → Prop) → Goroutine → World → Prop}

/-- A PIECE OF CODE that writes no old block. -/
theorem seg_pure (HC : Closed P L LB) {c : Code} (hc : okCode P LB c = true) (kx : List Item) (dx : List Deferred) {kd : CallKind} (hX : kd ≠ .early) {fn : FuncId} (hfn : ∃ g, P.funcs[fn]? = some g) {T0 T : Array Value} (hW : Sim P L ρ0 A0 w) (hR : ∀ b, ran ρ0 b → RO b ∨ own b) (hown : ∀ b, own b → b < w.heap.size) (hT : AR L ρ0 T0 T) {Post : Exit → Act → World → Prop}
    (hret : ∀ a w, Post .ret a w → kx = []) (hcon : ∀ W : World, W.heap.size = A0.heap.size → (∀ p, W.cell? p = A0.cell? p) → W.os = A0.os → c.wp P (fun e a w' => (e = .normal ∨ e = .ret) ∧ a.defers = [] ∧ Post e a w') ⟨T0, []⟩ W) (cs : List Frame)
    (hkN : ∀ own' T' w' ρ a wA, Post .normal a wA → AR L ρ a.tmps T' → Pu P L ρ0 A0 w own own' ρ wA w' → ∃ t, GoesO P m AtRel (DL RO) Stop t own' (G ⟨fn, T', kx, dx, .run, kd, none⟩ cs) w')
    (hkR : ∀ own' T' w' ρ a wA todo mode, (mode = .returning ∨ (mode = .run ∧ todo = [])) → Post .ret a wA → AR L ρ a.tmps T' → Pu P L ρ0 A0 w own own' ρ wA w' → ∃ t, GoesO P m AtRel (DL RO) Stop t own' (G ⟨fn, T', todo, dx, mode, kd, none⟩ cs) w') :
    ∃ t, GoesO P m AtRel (DL RO) Stop t own (G ⟨fn, T, .code c :: kx, dx, .run, kd, none⟩ cs) w := by
  have hlt : ∀ b, ran ρ0 b → b < w.heap.size := fun b hb => (hW.wr.lt hb).2
  obtain ⟨t, ht⟩ := seg_in (m := m) (LB := LB) (RO := ran ρ0) (S := AtRel) (ρ0 := ρ0) (A0 := A0) (E1 := own) (E2 := fun b => b < w.heap.size) (own := own) (w := w)
    (Stop := fun own' g w' => ∃ ρ a wA T', AR L ρ a.tmps T' ∧ (Std w w' → Pu P L ρ0 A0 w own own' ρ wA w') ∧ ((Post .normal a wA ∧ g = G ⟨fn, T', kx, dx, .run, kd, none⟩ cs) ∨ (Post .ret a wA ∧ ∃ todo mode, (mode = .returning ∨ (mode = .run ∧ todo = [])) ∧ g = G ⟨fn, T', todo, dx, mode, kd, none⟩ cs)))
    HC atRel_tr (fun w w₁ ⟨d, e⟩ b _ => by subst e; rfl) (fun b _ w w₁ ⟨d, e⟩ => by subst e; rfl) hc ⟨kx, dx, kd, none⟩ rfl hX hfn hW.wr hlt ⟨hW.gA, hW.gB⟩ hT hret (fun t => hcon (re (frz (pre ρ0 (ran ρ0)) A0) t) frz_size (fun p => frz_cell p) rfl) cs
    (fun b => ⟨.inr, fun h => h.elim (fun ⟨h, k⟩ => absurd h k) id⟩) (fun b hb => ⟨fun ⟨h, k⟩ => k h, hb.elim (hown b) id⟩)
    (fun own1 T' w1 hgot hsz hk hlt1 => ⟨.leaf, fun w₂ hr => by
      obtain ⟨a, wA, ρ, hp, hv, ⟨t, hW1⟩, hle, hnew, hb, hgA⟩ := hgot.got
      obtain ⟨d, rfl⟩ := hr.st
      exact ⟨ρ, a, wA, T', hv, fun hst => ⟨⟨_, (hW1.retape (w₁ := w1.at d) (fun _ _ => rfl) (Nat.le_refl _) (fun _ _ => 0)).free, hgA, hgot.glob⟩, hle, hnew, fun b => by rw [hb]; exact or_comm, fun b hb' => (hk b (.inr hb')).2, hsz, hst⟩, .inl ⟨hp, rfl⟩⟩⟩)
    (fun own1 T' w1 todo mode hm hgot hsz hk hlt1 => ⟨.leaf, fun w₂ hr => by
      obtain ⟨a, wA, ρ, hp, hv, ⟨t, hW1⟩, hle, hnew, hb, hgA⟩ := hgot.got
      obtain ⟨d, rfl⟩ := hr.st
      exact ⟨ρ, a, wA, T', hv, fun hst => ⟨⟨_, (hW1.retape (w₁ := w1.at d) (fun _ _ => rfl) (Nat.le_refl _) (fun _ _ => 0)).free, hgA, hgot.glob⟩, hle, hnew, fun b => by rw [hb]; exact or_comm, fun b hb' => (hk b (.inr hb')).2, hsz, hst⟩, .inr ⟨hp, todo, mode, hm, rfl⟩⟩⟩)
  refine (GoesO.monoOwn (D' := DL RO) (own0 := own) (fun _ _ _ _ ho h => h.monoRO' hR ho) (fun _ h => h) (ht.keepT (w0 := w) ⟨rfl, rfl, rfl⟩)).seq fun own' g w' hst => ?_
  obtain ⟨⟨ρ, a, wA, T', hv, hpu, ⟨hp, rfl⟩ | ⟨hp, todo, mode, hm, rfl⟩⟩, hsd⟩ := hst w' (.refl atRel_tr own' w')
  all_goals replace hpu := hpu hsd
  · exact hkN own' T' w' ρ a wA hp hv hpu
  · exact hkR own' T' w' ρ a wA todo mode hm hp hv hpu

/-- STATEMENTS that write no old block; r is what comes behind them. -/
theorem pre_pure (HC : Closed P L LB) {l : List Code} {r : Code} (hc : l.all (okCode P LB) = true) (kx : List Item) (dx : List Deferred) {kd : CallKind} (hX : kd ≠ .early) {fn : FuncId} (hfn : ∃ g, P.funcs[fn]? = some g) {T0 T : Array Value} (hW : Sim P L ρ0 A0 w) (hR : ∀ b, ran ρ0 b → RO b ∨ own b) (hown : ∀ b, own b → b < w.heap.size) (hT : AR L ρ0 T0 T) {Post : Exit → Act → World → Prop}
    (hcon : ∀ W : World, W.heap.size = A0.heap.size → (∀ p, W.cell? p = A0.cell? p) → W.os = A0.os → preWp P l (fun e a w' => (e = .normal ∨ e = .ret) ∧ a.defers = [] ∧ Post e a w') ⟨T0, []⟩ W) (cs : List Frame)
    (hkN : ∀ own' T' w' ρ a wA, Post .normal a wA → AR L ρ a.tmps T' → Pu P L ρ0 A0 w own own' ρ wA w' → ∃ t, GoesO P m AtRel (DL RO) Stop t own' (G ⟨fn, T', .code r :: kx, dx, .run, kd, none⟩ cs) w')
    (hkR : ∀ own' T' w' ρ a wA todo mode, (mode = .returning ∨ (mode = .run ∧ todo = [])) → Post .ret a wA → AR L ρ a.tmps T' → Pu P L ρ0 A0 w own own' ρ wA w' → ∃ t, GoesO P m AtRel (DL RO) Stop t own' (G ⟨fn, T', todo, dx, mode, kd, none⟩ cs) w') :
    ∃ t, GoesO P m AtRel (DL RO) Stop t own (G ⟨fn, T, .code (seqs r l) :: kx, dx, .run, kd, none⟩ cs) w := by
  have hlt : ∀ b, ran ρ0 b → b < w.heap.size := fun b hb => (hW.wr.lt hb).2
  obtain ⟨t, ht⟩ := pre_in (r := r) (m := m) (LB := LB) (RO := ran ρ0) (S := AtRel) (ρ0 := ρ0) (A0 := A0) (E1 := own) (E2 := fun b => b < w.heap.size) (own := own) (w := w)
    (Stop := fun own' g w' => ∃ ρ a wA T', AR L ρ a.tmps T' ∧ (Std w w' → Pu P L ρ0 A0 w own own' ρ wA w') ∧ ((Post .normal a wA ∧ g = G ⟨fn, T', .code r :: kx, dx, .run, kd, none⟩ cs) ∨ (Post .ret a wA ∧ ∃ todo mode, (mode = .returning ∨ (mode = .run ∧ todo = [])) ∧ g = G ⟨fn, T', todo, dx, mode, kd, none⟩ cs)))
    HC atRel_tr (fun w w₁ ⟨d, e⟩ b _ => by subst e; rfl) (fun b _ w w₁ ⟨d, e⟩ => by subst e; rfl) hc kx dx hX hfn hW.wr hlt ⟨hW.gA, hW.gB⟩ hT (fun t => hcon (re (frz (pre ρ0 (ran ρ0)) A0) t) frz_size (fun p => frz_cell p) rfl) cs
    (fun b => ⟨.inr, fun h => h.elim (fun ⟨h, k⟩ => absurd h k) id⟩) (fun b hb => ⟨fun ⟨h, k⟩ => k h, hb.elim (hown b) id⟩)
    (fun own1 T' w1 hgot hsz hk hlt1 => ⟨.leaf, fun w₂ hr => by
      obtain ⟨a, wA, ρ, hp, hv, ⟨t, hW1⟩, hle, hnew, hb, hgA⟩ := hgot.got
      obtain ⟨d, rfl⟩ := hr.st
      exact ⟨ρ, a, wA, T', hv, fun hst => ⟨⟨_, (hW1.retape (w₁ := w1.at d) (fun _ _ => rfl) (Nat.le_refl _) (fun _ _ => 0)).free, hgA, hgot.glob⟩, hle, hnew, fun b => by rw [hb]; exact or_comm, fun b hb' => (hk b (.inr hb')).2, hsz, hst⟩, .inl ⟨hp, rfl⟩⟩⟩)
    (fun own1 T' w1 todo mode hm hgot hsz hk hlt1 => ⟨.leaf, fun w₂ hr => by
      obtain ⟨a, wA, ρ, hp, hv, ⟨t, hW1⟩, hle, hnew, hb, hgA⟩ := hgot.got
      obtain ⟨d, rfl⟩ := hr.st
      exact ⟨ρ, a, wA, T', hv, fun hst => ⟨⟨_, (hW1.retape (w₁ := w1.at d) (fun _ _ => rfl) (Nat.le_refl _) (fun _ _ => 0)).free, hgA, hgot.glob⟩, hle, hnew, fun b => by rw [hb]; exact or_comm, fun b hb' => (hk b (.inr hb')).2, hsz, hst⟩, .inr ⟨hp, todo, mode, hm, rfl⟩⟩⟩)
  refine (GoesO.monoOwn (D' := DL RO) (own0 := own) (fun _ _ _ _ ho h => h.monoRO' hR ho) (fun _ h => h) (ht.keepT (w0 := w) ⟨rfl, rfl, rfl⟩)).seq fun own' g w' hst => ?_
  obtain ⟨⟨ρ, a, wA, T', hv, hpu, ⟨hp, rfl⟩ | ⟨hp, todo, mode, hm, rfl⟩⟩, hsd⟩ := hst w' (.refl atRel_tr own' w')
  all_goals replace hpu := hpu hsd
  · exact hkN own' T' w' ρ a wA hp hv hpu
  · exact hkR own' T' w' ρ a wA todo mode hm hp hv hpu

/-- A CALL that writes no old block. -/
theorem call_pure (HC : Closed P L LB) {f : FuncId} (hL : L f) {args0 args : Array Value} (hW : Sim P L ρ0 A0 w) (hR : ∀ b, ran ρ0 b → RO b ∨ own b) (hown : ∀ b, own b → b < w.heap.size) (hargs : AR L ρ0 args0 args) {Post : Value → World → Prop}
    (hcon : ∀ W : World, W.heap.size = A0.heap.size → (∀ p, W.cell? p = A0.cell? p) → W.os = A0.os → Calls P f args0 W fun e w' => ∃ v, e = .returned v ∧ Post v w') (c : Frame) (rest : List Frame)
    (hk : ∀ own' v v' w' ρ wA, Post v wA → VR L ρ v v' → Pu P L ρ0 A0 w own own' ρ wA w' → ∃ t, GoesO P m AtRel (DL RO) Stop t own' (G (c.finish v') rest) w') :
    ∃ t, GoesO P m AtRel (DL RO) Stop t own (G (Frame.enter P f args .normal) (c :: rest)) w := by
  have hlt : ∀ b, ran ρ0 b → b < w.heap.size := fun b hb => (hW.wr.lt hb).2
  obtain ⟨t, ht⟩ := call_in (m := m) (LB := LB) (RO := ran ρ0) (S := AtRel) (ρ0 := ρ0) (A0 := A0) (E1 := own) (E2 := fun b => b < w.heap.size) (own := own) (w := w)
    (Stop := fun own' g w' => ∃ ρ v v' wA, Post v wA ∧ VR L ρ v v' ∧ (Std w w' → Pu P L ρ0 A0 w own own' ρ wA w') ∧ g = G (c.finish v') rest)
    HC atRel_tr (fun w w₁ ⟨d, e⟩ b _ => by subst e; rfl) (fun b _ w w₁ ⟨d, e⟩ => by subst e; rfl) hL hW.wr hlt ⟨hW.gA, hW.gB⟩ hargs (fun t => hcon (re (frz (pre ρ0 (ran ρ0)) A0) t) frz_size (fun p => frz_cell p) rfl) c rest
    (fun b => ⟨.inr, fun h => h.elim (fun ⟨h, k⟩ => absurd h k) id⟩) (fun b hb => ⟨fun ⟨h, k⟩ => k h, hb.elim (hown b) id⟩)
    (fun own1 v' w1 hgot hsz hk hlt1 => ⟨.leaf, fun w₂ hr => by
      obtain ⟨v, wA, ρ, hp, hv, ⟨t, hW1⟩, hle, hnew, hb, hgA⟩ := hgot.got
      obtain ⟨d, rfl⟩ := hr.st
      exact ⟨ρ, v, v', wA, hp, hv, fun hst => ⟨⟨_, (hW1.retape (w₁ := w1.at d) (fun _ _ => rfl) (Nat.le_refl _) (fun _ _ => 0)).free, hgA, hgot.glob⟩, hle, hnew, fun b => by rw [hb]; exact or_comm, fun b hb' => (hk b (.inr hb')).2, hsz, hst⟩, rfl⟩⟩)
  refine (GoesO.monoOwn (D' := DL RO) (own0 := own) (fun _ _ _ _ ho h => h.monoRO' hR ho) (fun _ h => h) (ht.keepT (w0 := w) ⟨rfl, rfl, rfl⟩)).seq fun own' g w' hst => ?_
  obtain ⟨⟨ρ, v, v', wA, hp, hv, hpu, rfl⟩, hsd⟩ := hst w' (.refl atRel_tr own' w')
  replace hpu := hpu hsd
  exact hk own' v v' w' ρ wA hp hv hpu
end
end
end Go.Par
namespace Go.Par
open Go.Conc
open Go.ConcN (sumTo upd sumTo_upd upd_ne upd_same)

section
variable {P : Program} {Shun : Loc → Prop}

theorem quits_not_blocked {n d : Nat} {g : Goroutine} (h : QuitsD P n d g) : g.status ≠ .blocked := by
  rcases h.status with h | h <;> rw [h] <;> simp

/-- ITS TURN COMES. -/
theorem turn_besideX : ∀ (M : Nat) (gs : Array Goroutine) (a : Goroutine) (w : World) (sl : Option (Nat × Nat)) (t : Trace) (q : Nat → Nat) (B : Nat), sumTo gs.size q = M → gs[0]? = some a → a.status = .running → Leavers P t gs q → PastX Shun B t →
      ∃ (N : Nat) (gs' : Array Goroutine) (d0 : Nat) (sl' : Option (Nat × Nat)) (t' : Trace) (q' : Nat → Nat) (d : Nat) (sl'' : Option (Nat × Nat)),
        runNT P N (crowd gs w sl) t = (.next (crowd gs' (w.at d0) sl'), t') ∧ gs'.size = gs.size ∧ gs'[0]? = some a ∧ Leavers P t' gs' q' ∧ PastX Shun B t' ∧
        stepT P (crowd gs' (w.at d0) sl') = runT P (crowd gs' (w.at d) sl'') 0 := by
  intro M
  induction M using Nat.strongRecOn with
  | ind M ih =>
    intro gs a w sl t q B hM h0 hrun hL hP
    have haw : ∀ g ∈ gs, awake g := by
      intro g hg
      obtain ⟨i, hi, rfl⟩ := Array.mem_iff_getElem.1 hg
      rcases Nat.eq_zero_or_pos i with rfl | hpos
      · have : gs[0] = a := by simpa [Array.getElem?_eq_getElem hi] using h0
        rw [this]; exact awake_of (.inl hrun)
      · exact awake_of ((hL.old i _ hpos (Array.getElem?_eq_getElem hi)).status.elim .inl fun x => .inr (.inr x))
    obtain ⟨i, g, d, sl', hi, hg, hst⟩ := crowd_pick (P := P) (w := w) (sl := sl) haw ⟨0, a, h0, hrun⟩
    rcases Nat.eq_zero_or_pos i with rfl | hpos
    · exact ⟨0, gs, w.drawn, sl, t, q, d, sl', rfl, rfl, h0, hL, hP, hst⟩
    · have hq := hL.old i g hpos hi
      have hi0 : (i == 0) = false := by simp; omega
      have hlt : i < gs.size := (Array.getElem?_eq_some_iff.1 hi).1
      cases hqi : q i with
      | zero => rw [hqi] at hq; rw [hq.1] at hg; cases hg
      | succ k =>
        rw [hqi] at hq
        rcases hq with ⟨hf, _⟩ | ⟨_, g', es, hm, hstp, hq'⟩
        · rw [hf] at hg; cases hg
        have hrunT := runT_crowd_go (P := P) (sl := sl') (i := i) hi (by rw [hi0]; exact hstp (w.at d))
        have hsz : ((gs.map (woken P g g' (w.at d))).setIfInBounds i g').size = gs.size := by simp
        have hsum : sumTo gs.size (upd q i k) + (k + 1) = sumTo gs.size q + k := by
          have := sumTo_upd q k id hlt
          simpa [hqi] using this
        obtain ⟨N, gs', d0, sl1, t', q', d1, sl2, hr, hs', h0', hL', hP', hlast⟩ := ih (sumTo gs.size (upd q i k)) (by omega) ((gs.map (woken P g g' (w.at d))).setIfInBounds i g') a (w.at d) sl' (t ++ MemOp.ofEvents i g.frame.fn g.frame.place es) (upd q i k) B (by rw [hsz])
          (by
            have hne : i ≠ 0 := by omega
            rw [Array.getElem?_setIfInBounds_ne hne, Array.getElem?_map, h0]
            simp [woken_run hrun]) hrun
          ⟨fun j x hj hx => by
            by_cases hji : i = j
            · subst hji
              rw [Array.getElem?_setIfInBounds_self_of_lt (by simpa using hlt)] at hx
              obtain rfl := Option.some.inj hx
              rw [upd_same, Deaf_own]
              exact hq'
            · rw [Array.getElem?_setIfInBounds_ne hji, Array.getElem?_map] at hx
              obtain ⟨y, hy, rfl⟩ := Option.map_eq_some_iff.1 hx
              have hqj := hL.old j y hj hy
              rw [woken_quitsD hqj, upd_ne q k (Ne.symm hji), Deaf_other t hji _ (fun op hop => by obtain ⟨e, _, rfl⟩ := Conc.mem_ofEvents hop; rfl)]
              exact hqj, fun j hj => by
            rw [Deaf_other t (g' := i) (by simp at hj; omega) _ (fun op hop => by obtain ⟨e, _, rfl⟩ := Conc.mem_ofEvents hop; rfl)]
            exact hL.above j (by simpa using hj)⟩
          (hP.mute (by omega) hm)
        exact ⟨N + 1, gs', d0, sl1, t', q', d1, sl2, by simp only [runNT, hst, hrunT]; exact hr, hs'.trans hsz, h0', hL', hP', hlast⟩

theorem runNT_snoc {N : Nat} {m m' m'' : Machine} {t t' : Trace} {ops : Trace} (h : runNT P N m t = (.next m', t')) (hs : stepT P m' = (.next m'', ops)) : runNT P (N + 1) m t = (.next m'', t' ++ ops) := by
  rw [runNT_add, h]
  simp only [runNT, hs]

/-- Nobody is a partner. -/
theorem no_partners {gs : Array Goroutine} {t : Trace} {q : Nat → Nat} (hL : Leavers P t gs q) (c : Nat) (b : Bool) : partners (gs.setIfInBounds 0 ph) c b = [] := by
  refine partners_nil fun j g hj => offersAt_of_not_blocked ?_ c b
  rcases getElem?_stand gs 0 j g hj with ⟨_, rfl⟩ | ⟨hne, hg⟩
  · simp [ph]
  · exact quits_not_blocked (hL.old j g (by omega) hg)

/-- What stands beside goroutine 0. -/
def BSt (P : Program) (Shun : Loc → Prop) (n : Nat) (X : Goroutine → World → Prop) (m : Machine) (t : Trace) : Prop :=
  ∃ (gs : Array Goroutine) (a : Goroutine) (w : World) (sl : Option (Nat × Nat)) (q : Nat → Nat), m = crowd gs w sl ∧ gs.size = n ∧ gs[0]? = some a ∧ Leavers P t gs q ∧ PastX Shun w.heap.size t ∧ X a w
def Leads (P : Program) (X : Machine → Trace → Prop) (m : Machine) (t : Trace) : Prop := ∃ N m' t', runNT P N m t = (.next m', t') ∧ X m' t'
theorem Leads.refl {X : Machine → Trace → Prop} {m : Machine} {t : Trace} (h : X m t) : Leads P X m t := ⟨0, m, t, rfl, h⟩
theorem Leads.trans {X Y : Machine → Trace → Prop} {m : Machine} {t : Trace} (h : Leads P X m t) (hk : ∀ m t, X m t → Leads P Y m t) : Leads P Y m t := by
  obtain ⟨N, m', t', h1, h2⟩ := h
  obtain ⟨N', m'', t'', h3, h4⟩ := hk m' t' h2
  exact ⟨N + N', m'', t'', by rw [runNT_add, h1]; exact h3, h4⟩

/-- It stands at a receive (of one channel; 'range' or comma-ok), in whatever world that differs in the count of draws. -/
def AtRecv (P : Program) (c : Nat) (z : Value) (g : Goroutine) (w : World) : Prop :=
  g.status = .running ∧ ∀ d, stepG P true g (w.at d) = .comm g #[rcase c z] true (.recv true) (w.at d) #[]

theorem leavers_set {gs : Array Goroutine} {t : Trace} {q : Nat → Nat} (hL : Leavers P t gs q) {a0 : Goroutine} (h0 : gs[0]? = some a0) (a : Goroutine) {u : Trace} (hu : ∀ op ∈ u, op.g = 0) : Leavers P (t ++ u) (gs.setIfInBounds 0 a) q := by
  have hlt : 0 < gs.size := (Array.getElem?_eq_some_iff.1 h0).1
  refine ⟨fun j x hj hx => ?_, fun j hj => ?_⟩
  · rw [Array.getElem?_setIfInBounds_ne (by omega)] at hx
    rw [Deaf_other t (by omega) u hu]
    exact hL.old j x hj hx
  · rw [Deaf_other t (g' := 0) (by simp at hj; omega) u hu]
    exact hL.above j (by simpa using hj)

/-- Operations of goroutine 0's that touch nothing and say no word. -/
theorem pastX_silent {B : Nat} {t u : Trace} (h : PastX Shun B t) (hu : ∀ op ∈ u, op.g = 0) (hn : ∀ op ∈ u, op.act.touch? = none) (hd : ∀ op ∈ u, op.act ≠ .mark .disable ∧ op.act ≠ .mark .enable) : PastX Shun B (t ++ u) :=
  h.app0 hu (fun op hop b hb => by rw [hn op hop] at hb; cases hb) (by rw [ConcN.Deaf_still t 0 u hd]; exact h.hears)

theorem size_setChan (w : World) (c cap : Nat) (buf : Array Value) (cl : Bool) (s r : Nat) (tm : Bool) : (w.setChan c cap buf cl s r tm).heap.size = w.heap.size := by simp [World.setChan]

/-- A RECEIVE TAKES FROM THE BUFFER. -/
theorem recv_bufX {n c cap s r : Nat} {z : Value} {buf : Array Value} {closed tm : Bool} {X : Goroutine → World → Prop} {m : Machine} {t : Trace}
    (h : BSt P Shun n (fun g w => AtRecv P c z g w ∧ w.heap[c]? = some (.chan cap buf closed s r tm) ∧ ∀ d, X (Conc.served g (recvd true (buf.getD 0 undef) true)) ((w.at d).setChan c cap (buf.extract 1 buf.size) closed s (r + 1) tm)) m t) (hsome : 0 < buf.size) :
    Leads P (BSt P Shun n X) m t := by
  obtain ⟨gs, a, w, sl, q, rfl, hn, h0, hL, hP, ⟨hrun, hcomm⟩, hc, hX⟩ := h
  obtain ⟨N, gs', d0, sl', t', q', d, sl'', hr, hs', h0', hL', hP', hlast⟩ := turn_besideX _ gs a w sl t q w.heap.size rfl h0 hrun hL hP
  have hstep := crowd_recv_buf (P := P) (sl := sl'') (i := 0) h0' (show stepG P (0 == 0) a (w.at d) = _ from hcomm d) (show (w.at d).heap[c]? = _ from hc) hsome (no_partners hL' c true)
  rw [finishComm_recv] at hstep
  refine ⟨N + 1, _, _, runNT_snoc hr (hlast.trans hstep), _, _, _, _, q', rfl, by simp [hs', hn], Array.getElem?_setIfInBounds_self_of_lt (Array.getElem?_eq_some_iff.1 h0').1, leavers_set hL' h0' _ ?_, ?_, hX d⟩
  · intro op hop
    simp [MemOp.ofEvents] at hop
    rcases hop with rfl | rfl <;> rfl
  · rw [size_setChan]
    refine pastX_silent hP' ?_ ?_ ?_ <;>
    · intro op hop
      simp [MemOp.ofEvents] at hop
      rcases hop with rfl | rfl <;> first | rfl | simp

/-- A RECEIVE FINDS ITS CHANNEL CLOSED AND EMPTY. -/
theorem recv_closedX {n c cap s r : Nat} {z : Value} {tm : Bool} {X : Goroutine → World → Prop} {m : Machine} {t : Trace}
    (h : BSt P Shun n (fun g w => AtRecv P c z g w ∧ w.heap[c]? = some (.chan cap #[] true s r tm) ∧ ∀ d, X (Conc.served g (recvd true z false)) (w.at d)) m t) :
    Leads P (BSt P Shun n X) m t := by
  obtain ⟨gs, a, w, sl, q, rfl, hn, h0, hL, hP, ⟨hrun, hcomm⟩, hc, hX⟩ := h
  obtain ⟨N, gs', d0, sl', t', q', d, sl'', hr, hs', h0', hL', hP', hlast⟩ := turn_besideX _ gs a w sl t q w.heap.size rfl h0 hrun hL hP
  have hstep := crowd_recv_closed (P := P) (sl := sl'') (i := 0) h0' (show stepG P (0 == 0) a (w.at d) = _ from hcomm d) (show (w.at d).heap[c]? = _ from hc) (no_partners hL' c true)
  rw [finishComm_recv] at hstep
  refine ⟨N + 1, _, _, runNT_snoc hr (hlast.trans hstep), _, _, _, _, q', rfl, by simp [hs', hn], Array.getElem?_setIfInBounds_self_of_lt (Array.getElem?_eq_some_iff.1 h0').1, leavers_set hL' h0' _ ?_, ?_, hX d⟩
  · intro op hop
    simp [MemOp.ofEvents] at hop
    rw [hop]
  · refine pastX_silent hP' ?_ ?_ ?_ <;>
    · intro op hop
      simp [MemOp.ofEvents] at hop
      rw [hop]
      try first | rfl | simp

/-- A WALK. -/
theorem walkX {n : Nat} {D : (Nat → Prop) → World → World → Array Event → Prop} {OK : (Nat → Prop) → World → Prop} {Stop : (Nat → Prop) → Goroutine → World → Prop} {m : Machine} {t : Trace}
    (hOK : ∀ own w d, OK own w → OK own (w.at d)) (hD : ∀ own w w' es, OK own w → D own w w' es → w.heap.size ≤ w'.heap.size ∧ OK (More own w w') w' ∧ ∀ e ∈ es, EvX Shun w'.heap.size e)
    (h : BSt P Shun n (fun g w => ∃ own, OK own w ∧ ∃ tr, GoesO P true AtRel D Stop tr own g w) m t) :
    Leads P (BSt P Shun n (fun g w => ∃ own, OK own w ∧ Stop own g w)) m t := by
  obtain ⟨gs, a, w, sl, q, rfl, hn, h0, hL, hP, own, hO, tr, hG⟩ := h
  obtain ⟨N, own', gs', a', w', sl', t', q', hr, hs', h0', hS, hL', hP', hO'⟩ := walk_besideX hOK hD tr own gs a w sl t q h0 hL hP hO hG
  exact ⟨N, _, _, hr, gs', a', w', sl', q', rfl, hs'.trans hn, h0', hL', hP', own', hO', hS⟩

/-- It stands at the step that ends the run. -/
def AtEndX (P : Program) (Shun : Loc → Prop) (Post : Value → World → Prop) (g : Goroutine) (w : World) : Prop :=
  g.status = .running ∧ ∀ d, ∃ v w' es, stepG P true g (w.at d) = .ended (.done v) w' es ∧ (∀ e ∈ es, EvX Shun w.heap.size e) ∧ Post v w'

/-- THE RETURN: the run ends, and all is well. -/
theorem endX {n : Nat} {Post : Value → World → Prop} {m : Machine} {t : Trace} (h : BSt P Shun n (AtEndX P Shun Post) m t) :
    ∃ N last o w' t', runNT P (N + 1) m t = (.ended o w', t') ∧ runN P N m = .next last ∧ step P last = .ended o w' ∧ Good P Post last o w' t' := by
  obtain ⟨gs, a, w, sl, q, rfl, hn, h0, hL, hP, hrun, hend⟩ := h
  obtain ⟨N, gs', d0, sl', t', q', d, sl'', hr, hs', h0', hL', hP', hlast⟩ := turn_besideX _ gs a w sl t q w.heap.size rfl h0 hrun hL hP
  obtain ⟨v, w', es, he, hev, hpost⟩ := hend d
  have hrunT := runT_many_ended (P := P) (sl := sl'') (i := 0) h0' (show stepG P (0 == 0) a (w.at d) = _ from he)
  have hP2 := hP'.own (fn := a.frame.fn) (pos := a.frame.place) hev
  refine ⟨N, crowd gs' (w.at d0) sl', .done v, w', _, ?_, by rw [← runNT_fst P _ _ t, hr], by simp [step, hlast, hrunT], v, rfl, hpost, hP2.clean, hP2.over, ⟨fun x hx => ?_, rfl⟩, fun j x hx hj => ?_⟩
  · rw [runNT_add, hr]
    simp only [runNT, hlast, hrunT]
  · obtain ⟨j, hj⟩ := List.mem_iff_getElem?.1 hx
    rw [List.getElem?_drop] at hj
    exact ⟨_, (hL'.old (1 + j) x (by omega) (by simpa [crowd] using hj)).leaves⟩
  · have hq := hL'.old j x (by omega) hx
    refine ⟨q' j, ?_⟩
    have e : (t' ++ MemOp.ofEvents 0 a.frame.fn a.frame.place es).deaf j (t' ++ MemOp.ofEvents 0 a.frame.fn a.frame.place es).size = Deaf t' j :=
      Deaf_other t' (g := j) (g' := 0) (by omega) _ (fun op hop => by obtain ⟨e, _, rfl⟩ := Conc.mem_ofEvents hop; rfl)
    rw [e]
    exact hq.hears _
end
end Go.Par
