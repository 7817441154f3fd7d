/- Proved: a worker's step keeps the invariant and lowers the measure, in each of its eight situations. Conditions: none. Proved: a starter's step keeps the invariant and lowers the measure, or it is the join. Conditions: none. Proved: a starter of n workers, each of which sends into a channel of n places and is done, comes to the join, on whatever tape. Conditions: none but what is asked of each goroutine. Proved: A CREW COMES TO ITS JOIN, on whatever tape, from the starter alone; the starter's way alone ahead of that. Conditions: what is asked of each goroutine. Proved: the starter's way through sync.WaitGroup's Wait, beside workers, whatever the others do to other blocks. Conditions: the library's functions are the program's; the group's block stays one. Proved: beside leavers: a walk that minds a group's block; one step; from a lone goroutine. Conditions: none. Proved: every value of the true world has a fellow; the first relation: the block that came in; walks beside whoever leaves. Conditions: none. Proved: what is left of a region, and the statement behind it, in company by their lone contract; steps to a call, out of a call. Conditions: none. Proved: the first relation of a lone world to the true one; a walk beside whoever leaves, with a group's block that is shunned or with none. Conditions: none. The library's functions and types under this program's numbers. Conditions: none. -/
import Derived.Test.YtacedadenbinmaaZe
import Derived.Test.YtacedadenbinmaaZd
import Derived.Test.YtacedadenbinmaaChecked
import Derived.Conc.WgGenN3
set_option linter.unusedVariables false
set_option linter.unusedSimpArgs false
set_option linter.unusedSectionVars false
namespace Go.Par
open Go.Conc Go.ConcN
open Go.ConcR (KK wgBlock WgAt stA smA rd wr mk DC0 Bk g_of_ofEvents loc_of_ofEvent Payload bk_of_mute ofEvent_loc_mark again_blocked)

section
variable [Payload] {P : Program} {ty : TypeId} {Low Wg Ch n : Nat} {z : Value} {val : Nat → Value} {Cont Anch : (Nat → Prop) → Goroutine → World → Prop} {w0 : World}
  {j : Nat} {gs : Array Goroutine} {w w' : World} {sl : Option (Nat × Nat)} {t : Trace} {ow : Nat → Nat → Prop} {om : Nat → Prop} {st df : Nat → Nat} {tr : Nat → T} {tag : CTag} {sub d0 : Nat} {trm : T} {a : Goroutine} {s1 s2 : Int}

omit [Payload] in
theorem GoesO.cases {m : Bool} {S : World → World → Prop} {D : (Nat → Prop) → World → World → Array Event → Prop} {Stop : (Nat → Prop) → Goroutine → World → Prop} {tr : T} {own : Nat → Prop} {g : Goroutine} (hS : Tr S) (h : GoesO P m S D Stop tr own g w) :
    (∀ w₁, Ry S own w w₁ → Stop own g w₁) ∨ ∃ f g' w' es, tr = .node f ∧ stepG P m g w = .go g' w' es ∧ D own w w' es ∧ GoesO P m S D Stop (f w) (More own w w') g' w' := by
  cases tr with
  | leaf => exact .inl h
  | node f =>
    rcases h with h | ⟨_, h⟩
    · exact .inl h
    · obtain ⟨g', w', es, h1, h2, h3⟩ := h w (.refl hS own w)
      exact .inr ⟨f, g', w', es, rfl, h1, h2, h3⟩

omit [Payload] in
theorem touches_bk {B : Nat} (hW : Wg < B) {g : Nat} {fn : FuncId} {pos : String} {es : Array Event} (h : ∀ e ∈ es, Bk Wg e) : Touches Wg B (MemOp.ofEvents g fn pos es) := by
  intro op hop x hx
  obtain ⟨e, he, rfl⟩ := Conc.mem_ofEvents hop
  rcases h e he with h1 | h1 | ⟨a, wr, rfl, ha⟩
  · simp only [ofEvent_loc_mark h1] at hx; cases hx
  · simp only [ofEvent_loc_mark h1] at hx; cases hx
  · simp only [MemAct.ofEvent, MemAct.touch?, if_true, Option.some.injEq] at hx
    subst hx
    exact ⟨by show a.block < B; omega, fun _ => ⟨a, rfl, ha⟩⟩
omit [Payload] in
theorem touches_dl {own : Nat → Prop} {g : Nat} {fn : FuncId} {pos : String} {es : Array Event} (h : DL (Sha Low Wg Ch) own w w' es) (ho : ∀ b, own b → b < w.heap.size) (hL : Low ≤ w.heap.size) : Touches Wg w'.heap.size (MemOp.ofEvents g fn pos es) := by
  intro op hop x hx
  obtain ⟨e, he, rfl⟩ := Conc.mem_ofEvents hop
  refine ⟨dl_low h ho hL he hx, fun hk => ?_⟩
  rw [(dl_touch h he hx).1] at hk; cases hk
omit [Payload] in
theorem touches_none {B : Nat} {u : Trace} (h : ∀ op ∈ u, op.act.touch? = none) : Touches Wg B u := fun op hop x hx => by rw [h op hop] at hx; cases hx

omit [Payload] in
/-- A library's event of a worker's, whichever its number. -/
theorem okW_lib {Own Rd : Nat → Loc → Prop} {k : Nat} {fn : FuncId} {pos : String} {es : Array Event} (h : ∀ e ∈ es, EvW Wg No No 1 e) : (∀ op ∈ MemOp.ofEvents k fn pos es, OkW (ShN Wg) Own Rd k op) ∧ ∀ B, Wg < B → Touches Wg B (MemOp.ofEvents k fn pos es) := by
  have key : ∀ e ∈ es, ∀ x, (MemAct.ofEvent e).touch? = some x → ShN Wg x.loc ∧ x.kind ≠ .plain ∧ x.kind ≠ .said := by
    intro e he x hx
    rcases ((h e he).1 0 "").2 x hx with h1 | h1 | ⟨h1, _⟩
    · exact h1
    · exact h1.elim
    · exact h1.elim
  constructor
  · intro op hop
    obtain ⟨e, he, rfl⟩ := Conc.mem_ofEvents hop
    exact ⟨rfl, fun x hx => .inl (key e he x hx)⟩
  · intro B hB op hop x hx
    obtain ⟨e, he, rfl⟩ := Conc.mem_ofEvents hop
    obtain ⟨⟨a, hl, ha⟩, _⟩ := key e he x hx
    exact ⟨by rw [hl]; show a.block < B; omega, fun _ => ⟨a, hl, ha⟩⟩

omit [Payload] in
theorem lt_chain (m : Nat) (w : World) : T.Lt (T.chain m) (T.chain (m + 1)) := .mk (fun _ => T.chain m) w
omit [Payload] in
theorem md_stage (st : Nat → Nat) (i : Nat) : (md st i).stage = min (st i) 7 := rfl
omit [Payload] in
/-- A worker's stage stands: so does the mode. -/
theorem mode_same {i : Nat} (hm : ConcN.Mode j (md st) tag s1 s2) : ConcN.Mode j (md (upd st i (st i))) tag s1 s2 := by
  have : upd st i (st i) = st := by
    funext b
    by_cases e : b = i
    · subst e; rw [upd_same]
    · rw [upd_ne _ _ e]
  rw [this]; exact hm
omit [Payload] in
theorem mode_move {i s' : Nat} (h : ∀ x y, ConcN.Mode j (upd (md st) i ⟨min s' 7, x, y⟩) tag s1 s2) : ConcN.Mode j (md (upd st i s')) tag s1 s2 := by rw [md_upd]; exact h 0 0

set_option maxHeartbeats 1600000 in
theorem stepWk (hAr : ∀ own g w, Anch own g w → g.status = .running) (hW : Wg < Low) (hCh : Ch < Low) (hWC : Wg ≠ Ch) (hn : n < 2147483648) (ha : gs[0]? = some a) (hcs : CS P ty Low Wg Ch n z val Cont Anch tag sub j trm d0 om a w) (hcom : Crew P ty Low Wg Ch n z val w0 j gs w t ow om st df tr d0)
    (hwg : WgAt ty Wg w s1 s2) (hmode : ConcN.Mode j (md st) tag s1 s2) {i : Nat} (hi : i < j) {g : Goroutine} (hg : gs[i + 1]? = some g) (hrun : g.status = .running) :
    ∃ m₁ ops μ', runT P (crowd gs w sl) (i + 1) = (.next m₁, ops) ∧ Lt3 μ' (rk n j st tag sub, (List.range j).map tr, trm) ∧ InvC P ty Low Wg Ch n z val Cont Anch w0 μ' m₁ (t ++ ops) := by
  obtain ⟨g₁, hg₁, hs⟩ := hcom.wk i hi
  obtain rfl : g = g₁ := by rw [hg] at hg₁; exact Option.some.inj hg₁
  generalize hst : st i = s at hs
  generalize htr : tr i = tri at hs
  generalize hde : df i = dd at hs
  generalize how : ow i = own at hs
  have hb := hcs.bound
  have hVj := Vc_le j (md st)
  have hdk : Deaf t (i + 1) = dd := by rw [hcom.deafW i hi, hde]
  have hlo : ∀ b, own b → Low ≤ b ∧ b < w.heap.size := fun b hb => by rw [← how] at hb; exact hcom.loW i b hi hb
  have hlive : WgLive ty Wg w := ⟨_, _, hwg⟩
  have hWz : Wg < w.heap.size := by have := hcom.loS; omega
  cases hs with
  | run h =>
    rcases GoesO.cases SB.tr h with hstop | ⟨f, g', w', es, rfl, hgo, hD, hg'⟩
    · -- the send
      obtain ⟨_, g₂, hcomm, C, vv, m, hC, hk⟩ := hstop w (.refl SB.tr _ w)
      obtain ⟨L, hL1, hL2, hL3⟩ := hcom.chan
      have hiL : i ∉ L := fun hh => by have := ((hL2 i).1 hh).2; omega
      have hlen : L.length < n := by
        have := nodup_lt j (i :: L) (by rw [List.nodup_cons]; exact ⟨hiL, hL1⟩) fun x hx => by
          rcases List.mem_cons.1 hx with rfl | hx
          · exact hi
          · exact ((hL2 x).1 hx).1
        simp at this
        omega
      have hnp : partners (gs.setIfInBounds (i + 1) ph) Ch false = [] := partners_nil fun k x hk => by
        rcases getElem?_stand gs (i + 1) k x hk with ⟨_, rfl⟩ | ⟨hne, hx⟩
        · exact offersAt_of_not_blocked (by simp [ph]) _ _
        · cases k with
          | zero =>
            rw [ha] at hx; cases hx
            rcases hcs.status hAr with ⟨hs, _⟩ | ⟨_, ho, _⟩
            · exact offersAt_of_not_blocked (by rw [hs]; simp) _ _
            · unfold offersAt; rw [ho]; split <;> first | rfl | simp_all
          | succ k =>
            have hkj : k < j := by have := (Array.getElem?_eq_some_iff.1 hx).1; rw [hcom.size] at this; omega
            obtain ⟨y, hy, hsy⟩ := hcom.wk k hkj
            rw [hx] at hy; cases hy
            exact offersAt_of_not_blocked (by rcases hsy.status with hq | hq <;> rw [hq] <;> simp) _ _
      have hstep := crowd_send_room (P := P) (sl := sl) (i := i + 1) hg (show stepG P ((i + 1) == 0) g w = _ by simpa using hcomm) hL3 (by simpa using hlen) hnp
      have hheap : ∀ b, b ≠ Ch → (w.setChan Ch n ((L.map val).toArray.push (val i)) false (L.length + 1) 0 false).heap[b]? = w.heap[b]? := fun b hb => by
        simp only [World.setChan]
        rw [Array.getElem?_setIfInBounds_ne (Ne.symm hb)]
      have hsz := size_setChan w Ch n ((L.map val).toArray.push (val i)) false (L.length + 1) 0 false
      have hmv : Mv ty Wg Ch (ow i) w (w.setChan Ch n ((L.map val).toArray.push (val i)) false (L.length + 1) 0 false) :=
        ⟨by rw [hsz]; exact Nat.le_refl _, fun b _ _ _ hb => hheap b hb, ⟨_, _, hwg.of_block (hheap Wg hWC)⟩, rfl, rfl, rfl⟩
      have hgz : i + 1 < gs.size := by rw [hcom.size]; omega
      have hrm : RM ty Low Wg Ch om w (w.setChan Ch n ((L.map val).toArray.push (val i)) false (L.length + 1) 0 false) := hmv.ry (fun b hb => (hcom.loW i b hi hb).1) hcom.loS fun b hb => by
        have := hcom.loM b hb
        exact ⟨this.2, fun hb' => hcom.main i b hi hb' hb, by omega, by omega⟩
      have hry : Ry (SB ty Low Wg Ch) own w (w.setChan Ch n ((L.map val).toArray.push (val i)) false (L.length + 1) 0 false) :=
        ⟨⟨fun b hb => hheap b hb.2.2, fun _ => hmv.live⟩, fun b hb => hheap b (by have := hlo b hb; omega), hmv.size⟩
      refine workerAny hW hCh hcom hi (s' := 7) (dd' := 0) (tr' := T.chain m) (tag' := tag) (trm' := trm) hstep hmv (by rw [Array.getElem?_setIfInBounds_ne (by omega)]; exact ha) (hcs.rely hrm) (.inl rfl)
        (g' := g₂.finishComm P #[scase Ch (val i) z] .send 0 undef false) ?_ ?_ ?_ ?_ ?_ (fun h => by omega) ?_ (by simp) (Array.getElem?_setIfInBounds_self_of_lt hgz) (fun k x _ hk hx _ => by rw [Array.getElem?_setIfInBounds_ne (by omega)]; exact hx) (hwg.of_block (hheap Wg hWC)) ?_ (.inl (by omega))
      · rw [how, more_same hsz]
        exact (WK.lib (Ch := Ch) (Low := Low) (z := z) (v := val i) hC (.r0 hk)).rely hry
      · intro op hop
        simp [MemOp.ofEvents] at hop
        rcases hop with rfl | rfl <;> exact ⟨rfl, fun x hx => by simp [MemAct.touch?] at hx⟩
      · refine touches_none fun op hop => ?_
        simp [MemOp.ofEvents] at hop
        rcases hop with rfl | rfl <;> rfl
      · intro op hop
        simp [MemOp.ofEvents] at hop
        rcases hop with rfl | rfl <;> simp
      · rw [Deaf_still t _ _ (fun op hop => by
          simp [MemOp.ofEvents] at hop
          rcases hop with rfl | rfl <;> simp)]
        exact hdk
      · refine ⟨L ++ [i], ?_, fun x => ?_, ?_⟩
        · rw [List.nodup_append]
          exact ⟨hL1, by simp, fun x hx y hy => by simp at hy; subst hy; exact fun e => hiL (e ▸ hx)⟩
        · rw [List.mem_append, List.mem_singleton, hL2]
          by_cases e : x = i
          · subst e; rw [upd_same]; simp [hi]
          · rw [upd_ne st _ e]; simp [e]
        · have hlt : Ch < w.heap.size := (Array.getElem?_eq_some_iff.1 hL3).1
          simp only [World.setChan]
          rw [Array.getElem?_setIfInBounds_self_of_lt hlt]
          simp
      · refine mode_move fun x y => hmode.congr fun b hb => ?_
        by_cases e : b = i
        · subst e; rw [upd_same]; simp only [md, hst]; rfl
        · rw [upd_ne _ _ e]
    · -- its own work
      have how' : ∀ b, own b → b < w.heap.size := fun b hb => (hlo b hb).2
      subst how
      exact workerGo hAr hW hCh ha hcs hcom hi hg hgo (.of_DL hD hlive fun hx => by have := hlo _ hx; omega) (.run hg') (okW_of_DL hi hD) (touches_dl hD how' hcom.loS) (fun e he => (dl_still hD he).2.2 _)
        (by rw [hde]; exact deafBehind_idle (fun e he => ⟨(dl_still hD he).1, (dl_still hD he).2.1⟩) 0) (fun h => by omega) (hD.aside Ch (by have := hcom.loS; omega) fun hx => by have := hlo _ hx; omega) (by rw [hst])
        (hwg.of_block (hD.aside Wg hWz fun hx => by have := hlo _ hx; omega)) (fun _ ht _ => by rw [← hst]; exact ConcN.Mode.retag (mode_same hmode) ht) (.inr ⟨hst.symm, by rw [htr]; exact .mk f w⟩)
  | @lib C s m _ vv own g w hC h =>
    have hC' := hlo C hC
    have hCW : C ≠ Wg := by omega
    have hCCh : C ≠ Ch := by omega
    subst how
    have h8 : s ≤ 7 := by cases h <;> omega
    have lib' : ∀ {s' m' dd' : Nat} {g' : Goroutine} {w' : World}, w'.heap.size = w.heap.size → WSit P ty Wg C 1 No No 0 1 vv s' m' dd' g' w' → WK P ty Low Wg Ch z (val i) s' (T.chain m') dd' (More (ow i) w w') g' w' := fun hz hk => by
      rw [more_same hz]; exact .lib hC hk
    have same : ∀ {w' : World}, w'.heap.size = w.heap.size → upd ow i (More (ow i) w w') = ow := fun hz => by
      rw [more_same hz]
      funext b
      by_cases e : b = i
      · subst e; rw [upd_same]
      · rw [upd_ne _ _ e]
    -- a step of the library's bookkeeping: at most the group's block turns
    have bookG : ∀ {g' : Goroutine} {w' : World} {es : Array Event} {s' m' dd' : Nat} {st' sm' : Int}, stepG P false g w = .go g' w' es → Aside Wg w w' → WgAt ty Wg w' st' sm' → (∀ e ∈ es, Bk Wg e) →
        (∀ jx e, es[jx]? = some e → (MemAct.ofEvent e).touch? = none ∨ 0 < deafBehind dd (es.extract 0 jx)) → WSit P ty Wg C 1 No No 0 1 vv s' m' dd' g' w' → deafBehind dd es = dd' → s ≤ 6 → s' ≤ s →
        (∀ tag', (tag' = tag ∨ (tag = .blk ∧ tag' = .w3)) → (mayWake P g = true → g'.status = .running → tag' ≠ .blk) → ∀ x y, ConcN.Mode j (upd (md st) i ⟨s', x, y⟩) tag' st' sm') → ((s' < s) ∨ (s' = s ∧ m' + 1 = m)) →
        ∃ m₁ ops μ', runT P (crowd gs w sl) (i + 1) = (.next m₁, ops) ∧ Lt3 μ' (rk n j st tag sub, (List.range j).map tr, trm) ∧ InvC P ty Low Wg Ch n z val Cont Anch w0 μ' m₁ (t ++ ops) := by
      intro g' w' es s' m' dd' st' sm' hgo hAs hwg' hbk hd hs' hdd h6 hss hmode' hlt
      refine workerGo hAr hW hCh ha hcs hcom hi hg hgo (.of_wg hAs ⟨_, _, hwg'⟩) (lib' hAs.size hs') (by rw [same hAs.size]; exact okW_of_Bk hbk) (touches_bk (by rw [hAs.size]; exact hWz) hbk) (norel_of_Bk hbk) (by rw [hde]; exact hdd)
        (fun _ => let ⟨r, hr⟩ := hcom.rel i hi (by omega); ⟨r, hr.book hdk _ _ hbk hd⟩) (hAs.block Ch (Ne.symm hWC)) (by constructor <;> intro _ <;> omega) hwg' (fun tag' ht hw => mode_move fun x y => ?_) ?_
      · rw [show min s' 7 = s' by omega]
        exact hmode' tag' ht hw x y
      · rcases hlt with h1 | ⟨h1, h2⟩
        · exact .inl (by omega)
        · refine .inr ⟨by omega, ?_⟩
          rw [htr, ← h2]
          exact lt_chain _ w
    have book : ∀ {g' : Goroutine} {w' : World} {es : Array Event} {s' m' dd' : Nat} {st' sm' : Int}, stepG P false g w = .go g' w' es → Aside Wg w w' → WgAt ty Wg w' st' sm' → (∀ e ∈ es, Bk Wg e) →
        (∀ jx e, es[jx]? = some e → (MemAct.ofEvent e).touch? = none ∨ 0 < deafBehind dd (es.extract 0 jx)) → WSit P ty Wg C 1 No No 0 1 vv s' m' dd' g' w' → deafBehind dd es = dd' → s ≤ 6 → s' ≤ s →
        (∀ x y, ConcN.Mode j (upd (md st) i ⟨s', x, y⟩) tag st' sm') → ((s' < s) ∨ (s' = s ∧ m' + 1 = m)) →
        ∃ m₁ ops μ', runT P (crowd gs w sl) (i + 1) = (.next m₁, ops) ∧ Lt3 μ' (rk n j st tag sub, (List.range j).map tr, trm) ∧ InvC P ty Low Wg Ch n z val Cont Anch w0 μ' m₁ (t ++ ops) :=
      fun hgo hAs hwg' hbk hd hs' hdd h6 hss hmode' hlt => bookG hgo hAs hwg' hbk hd hs' hdd h6 hss (fun _ ht _ x y => (hmode' x y).retag ht) hlt
    have hsm : (md st i).stage = s := by rw [md_stage, hst]; omega
    have msame : ∀ x y, ConcN.Mode j (upd (md st) i ⟨s, x, y⟩) tag s1 s2 := fun x y => by have := hmode.same (i := i) x y; rwa [hsm] at this
    have idle : ∀ {g' : Goroutine} {m' : Nat}, stepG P false g w = .go g' w #[] → WSit P ty Wg C 1 No No 0 1 vv s m' dd g' w → m' + 1 = m → s ≤ 6 →
        ∃ m₁ ops μ', runT P (crowd gs w sl) (i + 1) = (.next m₁, ops) ∧ Lt3 μ' (rk n j st tag sub, (List.range j).map tr, trm) ∧ InvC P ty Low Wg Ch n z val Cont Anch w0 μ' m₁ (t ++ ops) :=
      fun hgo hs' hm h6 => book hgo (.refl Wg w) hwg (by simp) (by simp) hs' rfl h6 (Nat.le_refl _) msame (.inr ⟨rfl, hm⟩)
    cases h with
    | r0 h =>
      rcases Goes.cases h with hstop | ⟨m', rfl, hstep⟩
      · obtain ⟨_, _, g', hgo, m₂, hk⟩ := hstop w (RW.refl w)
        refine workerGo hAr hW hCh ha hcs hcom hi hg hgo (.of_wg (.refl Wg w) hlive) (lib' rfl (.k1 hk)) (okW_none (by intro e he; simp at he; subst he; rfl)) (touches_none fun op hop => ?_) (by intro e he; simp at he; subst he; simp [mk]) (by rw [hde]; rfl)
          (fun _ => ⟨t.size, RelBy.new hdk _ _⟩) rfl (by constructor <;> intro _ <;> omega) hwg (fun tag' ht _ => mode_move fun x y => (hmode.counted hi (by omega) (.inl rfl) x y).retag ht) (.inl (by omega))
        obtain ⟨e, he, rfl⟩ := Conc.mem_ofEvents hop
        simp at he; subst he; rfl
      · obtain ⟨g', w', es, hgo, ⟨hac, hev⟩, hg'⟩ := hstep w (RW.refl w)
        have hmv : Mv ty Wg Ch (ow i) w w' := .of_cell hac hC hlive hCW
        refine workerGo hAr hW hCh ha hcs hcom hi hg hgo hmv (lib' hac.size (.r0 hg')) (okW_lib hev).1 ((okW_lib (Own := No) (Rd := No) hev).2 _ (by rw [hac.size]; exact hWz)) (fun e he => (hev e he).2.2.2)
          (by rw [hde]; exact deafBehind_idle (fun e he => ⟨(hev e he).2.1, (hev e he).2.2.1⟩) 0) (fun h => by omega) (hac.block Ch (Ne.symm hCCh)) (by constructor <;> intro _ <;> omega) (hwg.of_block (hac.block Wg (Ne.symm hCW))) (fun tag' ht _ => mode_move fun x y => (msame x y).retag ht) (.inr ⟨hst.symm, ?_⟩)
        rw [htr]
        exact lt_chain _ w
    | k1 h =>
      rcases Goes.cases h with hstop | ⟨m', rfl, hstep⟩
      · obtain ⟨_, g', hgo, m₂, hk⟩ := hstop w (RW.refl w)
        exact book hgo (.refl Wg w) hwg (by intro e he; simp at he; subst he; exact .inl rfl) (by intro jx e he; exact .inl (by have := Array.mem_of_getElem? he; simp at this; subst this; rfl)) (.d1 hk) rfl (by omega) (by omega)
          (fun x y => hmode.counted hi (by omega) (.inr rfl) x y) (.inl (by omega))
      · obtain ⟨g', w', es, hgo, ⟨rfl, rfl⟩, hg'⟩ := hstep w (RW.refl w)
        exact idle hgo (.k1 hg') rfl (by omega)
    | d1 h =>
      rcases Goes.cases h with hstop | ⟨m', rfl, hstep⟩
      · obtain ⟨_, hall⟩ := hstop w (RW.refl w)
        have hc1 : cnt (md st i) = 1 := by simp [cnt, hsm]
        have hV1 : 1 ≤ Vc j (md st) := by have := le_sumTo (f := fun x => cnt (md st x)) hi; simp only [Vc]; omega
        have bk2 : ∀ e ∈ #[rd (stA Wg), wr (stA Wg)], Bk Wg e := by intro e he; simp at he; rcases he with rfl | rfl <;> exact bk_cell _ _ rfl
        have df2 : ∀ jx e, (#[rd (stA Wg), wr (stA Wg)] : Array Event)[jx]? = some e → (MemAct.ofEvent e).touch? = none ∨ 0 < deafBehind 1 ((#[rd (stA Wg), wr (stA Wg)] : Array Event).extract 0 jx) := by
          intro jx e he
          match jx, he with
          | 0, _ => exact .inr (by simp [deafBehind])
          | 1, _ => exact .inr (by simp [deafBehind, rd])
          | jx + 2, he => simp at he
        have hq0 : ∀ x y, cnt (⟨1, x, y⟩ : WD) = 0 := fun _ _ => rfl
        have opq : ∀ x y, OpenSt j (md st) → OpenSt j (upd (md st) i ⟨1, x, y⟩) := fun x y h a ha => by
          by_cases e : a = i
          · subst e; rw [upd_same]; simp
          · rw [upd_ne _ _ e]; exact h a ha
        cases hmode with
        | opn h1 h2 h3 =>
          obtain ⟨v, hv⟩ : ∃ v, Vc j (md st) + pend tag = v + 1 := ⟨Vc j (md st) + pend tag - 1, by omega⟩
          rw [hv] at hwg
          have hw1 : WgAt ty Wg w (((v : Nat) + 1) * KK + ((0 : Nat) : Int)) 0 := by simpa using hwg
          obtain ⟨g', hgo, _, hq⟩ := hall v 0 (by omega) (by omega) hw1
          obtain ⟨q, hq⟩ := hq (by omega)
          refine book hgo (aside_setCell w (stA Wg) _) (hwg.setSt _) bk2 df2 (.quit hq) rfl (by omega) (by omega) (fun x y => ?_) (.inl (by omega))
          have hv' : Vc j (upd (md st) i ⟨1, x, y⟩) + pend tag = v := by have := Vc_upd (md st) (⟨1, x, y⟩ : WD) hi; have := hq0 x y; omega
          have e : ((v : Nat) : Int) * KK + ((0 : Nat) : Int) = ((Vc j (upd (md st) i ⟨1, x, y⟩) + pend tag : Nat) : Int) * KK := by rw [hv']; simp
          rw [e]
          exact .opn h1 (opq x y h2) (fun vs ev => by have := h3 vs ev; omega)
        | reg h1 h2 h3 =>
          obtain ⟨v, hv⟩ : ∃ v, Vc j (md st) = v + 1 := ⟨Vc j (md st) - 1, by omega⟩
          rw [hv] at hwg
          have hp : pend tag = 0 := by cases tag <;> first | rfl | exact h1.elim
          have hw1 : WgAt ty Wg w (((v : Nat) + 1) * KK + ((1 : Nat) : Int)) 0 := by simpa using hwg
          obtain ⟨g', hgo, hl, hq⟩ := hall v 1 (by omega) (by omega) hw1
          by_cases hv0 : v = 0
          · subst hv0
            obtain ⟨m₂, hk⟩ := hl ⟨rfl, rfl⟩
            refine book hgo (aside_setCell w (stA Wg) _) (hwg.setSt _) bk2 df2 (.d2 hk) rfl (by omega) (by omega) (fun x y => ?_) (.inl (by omega))
            have hoth : ∀ a, a < j → a ≠ i → (md st a).stage = 1 := fun a ha e => by
              have c0 := others_uncounted hi hv hc1 a ha e
              have := h2 a ha
              simp only [cnt] at c0
              split at c0 <;> omega
            have := ConcN.Mode.last (j := j) (D := upd (md st) i ⟨4, x, y⟩) (tag := tag) i h1 hi (by rw [upd_same]; simp) (fun a ha e => by rw [upd_ne _ _ e]; exact hoth a ha e)
            rw [upd_same] at this
            simpa using this
          · obtain ⟨q, hq⟩ := hq (by omega)
            refine book hgo (aside_setCell w (stA Wg) _) (hwg.setSt _) bk2 df2 (.quit hq) rfl (by omega) (by omega) (fun x y => ?_) (.inl (by omega))
            have hv' : Vc j (upd (md st) i ⟨1, x, y⟩) = v := by have := Vc_upd (md st) (⟨1, x, y⟩ : WD) hi; have := hq0 x y; omega
            have e : ((v : Nat) : Int) * KK + ((1 : Nat) : Int) = ((Vc j (upd (md st) i ⟨1, x, y⟩) : Nat) : Int) * KK + 1 := by rw [hv']; simp
            rw [e]
            exact .reg h1 (opq x y h2) (by omega)
        | last L _ h2 h3 h4 =>
          by_cases e : i = L
          · subst e; omega
          · have := h4 i hi e; omega
        | sema h2 => have := h2 i hi; omega
        | fin _ h2 => have := h2 i hi; omega
      · obtain ⟨g', w', es, hgo, ⟨rfl, rfl⟩, hg'⟩ := hstep w (RW.refl w)
        exact idle hgo (.d1 hg') rfl (by omega)
    | d2 h =>
      rcases Goes.cases h with hstop | ⟨m', rfl, hstep⟩
      · obtain ⟨_, hx⟩ := hstop w (RW.refl w)
        obtain ⟨hW3, hoth, rfl, rfl⟩ := hmode.isLast hi (by omega)
        simp only [hsm] at hwg
        obtain ⟨g', hgo, m₂, hk⟩ := hx (by simpa using hwg)
        refine book hgo (.refl Wg w) hwg (by intro e he; simp at he; subst he; exact bk_cell _ _ rfl) (by intro jx e he; match jx, he with | 0, _ => exact .inr (by simp [deafBehind]) | jx + 1, he => simp at he) (.d3 hk) rfl (by omega) (by omega) (fun x y => ?_) (.inl (by omega))
        have := ConcN.Mode.last (j := j) (D := upd (md st) i ⟨3, x, y⟩) (tag := tag) i hW3 hi (by rw [upd_same]; simp) (fun a ha e => by rw [upd_ne _ _ e]; exact hoth a ha e)
        rw [upd_same] at this
        simpa using this
      · obtain ⟨g', w', es, hgo, ⟨rfl, rfl⟩, hg'⟩ := hstep w (RW.refl w)
        exact idle hgo (.d2 hg') rfl (by omega)
    | d3 h =>
      rcases Goes.cases h with hstop | ⟨m', rfl, hstep⟩
      · obtain ⟨_, hx⟩ := hstop w (RW.refl w)
        obtain ⟨hW3, hoth, rfl, rfl⟩ := hmode.isLast hi (by omega)
        simp only [hsm] at hwg
        obtain ⟨g', hgo, m₂, hk⟩ := hx (by simpa using hwg)
        refine book hgo (aside_setCell w (stA Wg) _) (hwg.setSt 0) (by intro e he; simp at he; subst he; exact bk_cell _ _ rfl) (by intro jx e he; match jx, he with | 0, _ => exact .inr (by simp [deafBehind]) | jx + 1, he => simp at he) (.d4 hk) rfl (by omega) (by omega) (fun x y => ?_) (.inl (by omega))
        have := ConcN.Mode.last (j := j) (D := upd (md st) i ⟨2, x, y⟩) (tag := tag) i hW3 hi (by rw [upd_same]; simp) (fun a ha e => by rw [upd_ne _ _ e]; exact hoth a ha e)
        rw [upd_same] at this
        simpa using this
      · obtain ⟨g', w', es, hgo, ⟨rfl, rfl⟩, hg'⟩ := hstep w (RW.refl w)
        exact idle hgo (.d3 hg') rfl (by omega)
    | d4 h =>
      rcases Goes.cases h with hstop | ⟨m', rfl, hstep⟩
      · obtain ⟨_, hmw, hx⟩ := hstop w (RW.refl w)
        obtain ⟨hW3, hoth, rfl, rfl⟩ := hmode.isLast hi (by omega)
        simp only [hsm] at hwg
        obtain ⟨g', hgo, q, hq⟩ := hx (by simpa using hwg)
        have hrun' : g'.status = .running := by
          cases q with
          | zero => exact absurd hq.2 (by decide)
          | succ q => exact hq.elim (fun x => absurd x.2 (by decide)) (fun x => x.1)
        refine bookG hgo (aside_setCell w (smA Wg) _) (hwg.setSm 1) (es := semEvents (smA Wg)) ?_ ?_ (.quit hq) (by simp [deafBehind, semEvents]) (by omega) (by omega) ?_ (.inl (by omega))
        · intro e he
          simp [semEvents] at he
          rcases he with rfl | rfl | rfl | rfl
          · exact .inl rfl
          · exact bk_cell _ _ rfl
          · exact bk_cell _ _ rfl
          · exact .inr (.inl rfl)
        · intro jx e he
          match jx, he with
          | 0, he => simp [semEvents] at he; subst he; exact .inl rfl
          | 1, _ => exact .inr (by simp [deafBehind, semEvents])
          | 2, _ => exact .inr (by simp [deafBehind, semEvents])
          | 3, he => simp [semEvents] at he; subst he; exact .inl rfl
          | jx + 4, he => simp [semEvents] at he
        · intro tag' ht hw x y
          have hnb := hw hmw hrun'
          have e3 : tag' = .w3 := by
            rcases ht with rfl | ⟨_, rfl⟩
            · cases tag' <;> first | rfl | exact hW3.elim | exact absurd rfl hnb
            · rfl
          subst e3
          simp only [if_true]
          exact .sema fun a ha => by
            by_cases e : a = i
            · subst e; rw [upd_same]
            · rw [upd_ne _ _ e]; exact hoth a ha e
      · obtain ⟨g', w', es, hgo, ⟨rfl, rfl⟩, hg'⟩ := hstep w (RW.refl w)
        exact idle hgo (.d4 hg') rfl (by omega)
    | quit h =>
      cases m with
      | zero => rw [h.1] at hrun; cases hrun
      | succ q =>
        rcases h with ⟨hf, _⟩ | ⟨_, g', es, hmute, hstep, hq⟩
        · rw [hf] at hrun; cases hrun
        · have hbk : ∀ e ∈ es, Bk Wg e := fun e he => bk_of_mute (hmute e he)
          have hno : ∀ jx e, es[jx]? = some e → (MemAct.ofEvent e).touch? = none ∨ 0 < deafBehind dd (es.extract 0 jx) := fun jx e he => .inl (by
            rcases bk_of_mute (Wg := Wg) (hmute e (Array.mem_of_getElem? he)) with h1 | h1 | ⟨a, wr, rfl, _⟩
            · rw [ofEvent_loc_mark h1]; rfl
            · rw [ofEvent_loc_mark h1]; rfl
            · have := hmute _ (Array.mem_of_getElem? he); simp [Event.mute] at this)
          exact book (hstep w) (.refl Wg w) hwg hbk hno (.quit hq) rfl (by omega) (Nat.le_refl _) msame (.inr ⟨rfl, rfl⟩)
end
end Go.Par
namespace Go.Par
open Go.Conc Go.ConcN
open Go.ConcR (KK wgBlock WgAt stA smA rd wr mk DC0 Bk g_of_ofEvents loc_of_ofEvent Payload bk_of_mute ofEvent_loc_mark again_blocked ofEvent_mk)

/-- What stands behind the join: all that was sent lies in the channel. -/
structure JW (Low Wg Ch n : Nat) (val : Nat → Value) (w0 : World) (om : Nat → Prop) (w : World) : Prop where
  chan : ∃ L : List Nat, L.Nodup ∧ (∀ i, i ∈ L ↔ i < n) ∧ w.heap[Ch]? = some (.chan n (L.map val).toArray false L.length 0 false)
  loM : ∀ b, om b → Low ≤ b ∧ b < w.heap.size
  loS : Low ≤ w.heap.size
  shared : ∀ b, Sha Low Wg Ch b → w.heap[b]? = w0.heap[b]?
  tape : w.tape = w0.tape
  os : w.os = w0.os
  output : w.output = w0.output

section
variable [Payload] {P : Program} {ty : TypeId} {Low Wg Ch n : Nat} {z : Value} {val : Nat → Value} {Cont Anch : (Nat → Prop) → Goroutine → World → Prop} {w0 : World}
  {j : Nat} {gs : Array Goroutine} {w w' : World} {sl : Option (Nat × Nat)} {t : Trace} {ow : Nat → Nat → Prop} {om : Nat → Prop} {st df : Nat → Nat} {tr : Nat → T} {tag tag' : CTag} {sub sub' d0 : Nat} {trm trm' : T} {a a' : Goroutine} {s1 s2 s1' s2' : Int} {es : Array Event}

/-- The join is made. -/
def XJ (P : Program) (ty : TypeId) (Low Wg Ch n : Nat) (val : Nat → Value) (Cont : (Nat → Prop) → Goroutine → World → Prop) (w0 : World) (m : Machine) (t : Trace) : Prop :=
  BSt P (ShN Wg) (n + 1) (fun g w => ∃ om, (∃ m, Goes P true (RM ty Low Wg Ch om) DC0 (Cont om) m g w) ∧ JW Low Wg Ch n val w0 om w ∧ WgLive ty Wg w) m t

/-- WHATEVER STEP OF THE STARTER's THAT IS NEITHER A go STATEMENT NOR THE JOIN. -/
theorem callerGo (hW : Wg < Low) (hCh : Ch < Low) (ha : gs[0]? = some a) (hcom : Crew P ty Low Wg Ch n z val w0 j gs w t ow om st df tr d0) (hgo : stepG P true a w = .go a' w' es) (hm : Mv ty Wg Ch om w w')
    (hok : ∀ op ∈ MemOp.ofEvents 0 a.frame.fn a.frame.place es, Ok0 (ShN Wg) (OwnL j ow) (RdL Low Wg Ch) j op) (hto : Touches Wg w'.heap.size (MemOp.ofEvents 0 a.frame.fn a.frame.place es)) (hnr : ∀ e ∈ es, e.loc ≠ .mark (.release (stA Wg)))
    (hchan : w'.heap[Ch]? = w.heap[Ch]?) (hcs' : CS P ty Low Wg Ch n z val Cont Anch tag' sub' j trm' (deafBehind d0 es) (More om w w') a' w') (hwg : WgAt ty Wg w' s1' s2') (hmode : ConcN.Mode j (md st) tag' s1' s2')
    (hlt : phi n (Vc j (md st)) tag' + sub' < phi n (Vc j (md st)) tag + sub ∨ (phi n (Vc j (md st)) tag' = phi n (Vc j (md st)) tag ∧ sub' = sub ∧ T.Lt trm' trm)) :
    ∃ m₁ ops μ', runT P (crowd gs w sl) 0 = (.next m₁, ops) ∧ Lt3 μ' (rk n j st tag sub, (List.range j).map tr, trm) ∧ InvC P ty Low Wg Ch n z val Cont Anch w0 μ' m₁ (t ++ ops) := by
  have hrun := runT_crowd_go (P := P) (sl := sl) (i := 0) ha (by simpa using hgo)
  refine ⟨_, _, (rk n j st tag' sub', (List.range j).map tr, trm'), hrun, ?_, _, w', sl, j, ow, _, st, df, tr, tag', sub', trm', _, a', s1', s2', rfl, get_map_set_same _ _ _ (by rw [hcom.size]; omega), hcs',
    hcom.step0 hW hCh hm hok hto (fun op hop => norel_of hnr op hop) (by rw [Deaf_own, hcom.deaf0]) hchan (by simp) (fun k x _ hx hb => ?_), hwg, hmode, rfl⟩
  · rcases hlt with h | ⟨h1, rfl, h3⟩
    · exact Prod.Lex.left _ _ (by simp only [rk]; omega)
    · rw [show rk n j st tag' sub' = rk n j st tag sub' by simp only [rk, h1]]
      exact Prod.Lex.right _ (Prod.Lex.right _ h3)
  · rw [get_map_set _ _ _ _ (by omega), hx, Option.map_some]
    unfold Go.Conc.woken
    split
    · rw [again_running _ hb]
    · rfl

/-- A step of the library's bookkeeping. -/
theorem callerBook (hW : Wg < Low) (hCh : Ch < Low) (hWC : Wg ≠ Ch) (ha : gs[0]? = some a) (hcom : Crew P ty Low Wg Ch n z val w0 j gs w t ow om st df tr d0) (hgo : stepG P true a w = .go a' w' es) (hAs : Aside Wg w w') (hwg : WgAt ty Wg w' s1' s2')
    (hok : ∀ op ∈ MemOp.ofEvents 0 a.frame.fn a.frame.place es, Ok0 (ShN Wg) (OwnL j ow) (RdL Low Wg Ch) j op) (hto : Touches Wg w.heap.size (MemOp.ofEvents 0 a.frame.fn a.frame.place es)) (hnr : ∀ e ∈ es, e.loc ≠ .mark (.release (stA Wg)))
    (hcs' : CS P ty Low Wg Ch n z val Cont Anch tag' sub' j trm' (deafBehind d0 es) om a' w') (hmode : ConcN.Mode j (md st) tag' s1' s2')
    (hlt : phi n (Vc j (md st)) tag' + sub' < phi n (Vc j (md st)) tag + sub ∨ (phi n (Vc j (md st)) tag' = phi n (Vc j (md st)) tag ∧ sub' = sub ∧ T.Lt trm' trm)) :
    ∃ m₁ ops μ', runT P (crowd gs w sl) 0 = (.next m₁, ops) ∧ Lt3 μ' (rk n j st tag sub, (List.range j).map tr, trm) ∧ InvC P ty Low Wg Ch n z val Cont Anch w0 μ' m₁ (t ++ ops) :=
  callerGo hW hCh ha hcom hgo (.of_wg hAs ⟨_, _, hwg⟩) hok (by rw [hAs.size]; exact hto) hnr (hAs.block Ch (Ne.symm hWC)) (by rw [more_same hAs.size]; exact hcs') hwg hmode hlt

/-- By events of the group's cells. -/
theorem callerBk (hW : Wg < Low) (hCh : Ch < Low) (hWC : Wg ≠ Ch) (ha : gs[0]? = some a) (hcom : Crew P ty Low Wg Ch n z val w0 j gs w t ow om st df tr d0) (hgo : stepG P true a w = .go a' w' es) (hAs : Aside Wg w w') (hwg : WgAt ty Wg w' s1' s2') (hbk : ∀ e ∈ es, Bk Wg e)
    (hcs' : CS P ty Low Wg Ch n z val Cont Anch tag' sub' j trm' (deafBehind d0 es) om a' w') (hmode : ConcN.Mode j (md st) tag' s1' s2')
    (hlt : phi n (Vc j (md st)) tag' + sub' < phi n (Vc j (md st)) tag + sub ∨ (phi n (Vc j (md st)) tag' = phi n (Vc j (md st)) tag ∧ sub' = sub ∧ T.Lt trm' trm)) :
    ∃ m₁ ops μ', runT P (crowd gs w sl) 0 = (.next m₁, ops) ∧ Lt3 μ' (rk n j st tag sub, (List.range j).map tr, trm) ∧ InvC P ty Low Wg Ch n z val Cont Anch w0 μ' m₁ (t ++ ops) :=
  callerBook hW hCh hWC ha hcom hgo hAs hwg (ok0_of_Bk hbk) (touches_bk (by have := hcom.loS; omega) hbk) (norel_of_Bk hbk) hcs' hmode hlt

/-- A step that lists and turns nothing. -/
theorem callerIdle (hW : Wg < Low) (hCh : Ch < Low) (hWC : Wg ≠ Ch) (ha : gs[0]? = some a) (hcom : Crew P ty Low Wg Ch n z val w0 j gs w t ow om st df tr d0) (hwg : WgAt ty Wg w s1 s2) (hmode : ConcN.Mode j (md st) tag s1 s2) (hgo : stepG P true a w = .go a' w #[])
    (hcs' : CS P ty Low Wg Ch n z val Cont Anch tag sub j trm' d0 om a' w) (hlt : T.Lt trm' trm) :
    ∃ m₁ ops μ', runT P (crowd gs w sl) 0 = (.next m₁, ops) ∧ Lt3 μ' (rk n j st tag sub, (List.range j).map tr, trm) ∧ InvC P ty Low Wg Ch n z val Cont Anch w0 μ' m₁ (t ++ ops) :=
  callerBk hW hCh hWC ha hcom hgo (.refl Wg w) hwg (by simp) hcs' hmode (.inr ⟨rfl, rfl, hlt⟩)

/-- A step of its own walk. -/
theorem callerOwn (hW : Wg < Low) (hCh : Ch < Low) (hWC : Wg ≠ Ch) (ha : gs[0]? = some a) (hcom : Crew P ty Low Wg Ch n z val w0 j gs w t ow om st df tr d0) (hwg : WgAt ty Wg w s1 s2) (hmode : ConcN.Mode j (md st) tag s1 s2) (hgo : stepG P true a w = .go a' w' es) (hD : DL (Sha Low Wg Ch) om w w' es)
    (hcs' : CS P ty Low Wg Ch n z val Cont Anch tag sub j trm' d0 (More om w w') a' w') (hlt : T.Lt trm' trm) :
    ∃ m₁ ops μ', runT P (crowd gs w sl) 0 = (.next m₁, ops) ∧ Lt3 μ' (rk n j st tag sub, (List.range j).map tr, trm) ∧ InvC P ty Low Wg Ch n z val Cont Anch w0 μ' m₁ (t ++ ops) := by
  have hno : ∀ b, b < Low → ¬ om b := fun b hb h => by have := hcom.loM b h; omega
  have hS := hcom.loS
  have hWz : Wg < w.heap.size := by omega
  refine callerGo hW hCh ha hcom hgo (.of_DL hD ⟨_, _, hwg⟩ (hno _ hW)) (ok0_of_DL hW (fun b hb => ?_) (fun i b hi hb hbm => ?_) (fun i b hi hb => (hcom.loW i b hi hb).1) hD) (touches_dl hD (fun b hb => (hcom.loM b hb).2) hS) (fun e he => (dl_still hD he).2.2 _)
    (hD.aside Ch (by omega) (hno _ hCh)) (by rw [deafBehind_idle (fun e he => ⟨(dl_still hD he).1, (dl_still hD he).2.1⟩)]; exact hcs') (hwg.of_block (hD.aside Wg hWz (hno _ hW))) hmode (.inr ⟨rfl, rfl, hlt⟩)
  · rcases hb with hb | ⟨hb, _⟩
    · exact (hcom.loM b hb).1
    · omega
  · rcases hbm with hbm | ⟨hbm, _⟩
    · exact hcom.main i b hi hb hbm
    · have := hcom.loW i b hi hb; omega

omit [Payload] in
theorem ok0_said {Own Rd : Nat → Loc → Prop} {fn : FuncId} {pos : String} {m : Mark} (h : m = .read (smA Wg) ∨ m = .write (smA Wg)) : ∀ op ∈ MemOp.ofEvents 0 fn pos #[mk m], Ok0 (ShN Wg) Own Rd j op := by
  intro op hop
  obtain ⟨e, he, rfl⟩ := Conc.mem_ofEvents hop
  simp at he
  subst he
  refine ⟨rfl, fun x hx => .inl ?_⟩
  rcases h with rfl | rfl
  · simp only [mk, MemAct.ofEvent, MemAct.touch?, Option.some.injEq] at hx
    subst hx
    exact ⟨⟨smA Wg, rfl, rfl⟩, by simp⟩
  · simp only [mk, MemAct.ofEvent, MemAct.touch?, Option.some.injEq] at hx
    subst hx
    exact ⟨⟨smA Wg, rfl, rfl⟩, by simp⟩
omit [Payload] in
theorem touches_said {B : Nat} (hB : Wg < B) {fn : FuncId} {pos : String} {m : Mark} (h : m = .read (smA Wg) ∨ m = .write (smA Wg)) : Touches Wg B (MemOp.ofEvents 0 fn pos #[mk m]) := by
  intro op hop x hx
  obtain ⟨e, he, rfl⟩ := Conc.mem_ofEvents hop
  simp at he
  subst he
  rcases h with rfl | rfl
  · simp only [mk, MemAct.ofEvent, MemAct.touch?, Option.some.injEq] at hx
    subst hx
    exact ⟨hB, fun hk => by cases hk⟩
  · simp only [mk, MemAct.ofEvent, MemAct.touch?, Option.some.injEq] at hx
    subst hx
    exact ⟨hB, fun hk => by cases hk⟩

omit [Payload] in
theorem deaf_said {d : Nat} {m : Mark} (h : m = .read (smA Wg) ∨ m = .write (smA Wg)) : deafBehind d #[mk m] = d := by
  rcases h with rfl | rfl <;> rfl
end
end Go.Par
namespace Go.Par
open Go.Conc Go.ConcN
open Go.ConcR (KK wgBlock WgAt stA smA rd wr mk DC0 Bk g_of_ofEvents loc_of_ofEvent Payload bk_of_mute ofEvent_loc_mark again_blocked ofEvent_mk)

section
variable [Payload] {P : Program} {ty : TypeId} {Low Wg Ch n : Nat} {z : Value} {val : Nat → Value} {Cont Anch : (Nat → Prop) → Goroutine → World → Prop} {w0 : World}
  {j : Nat} {gs : Array Goroutine} {w w' : World} {sl : Option (Nat × Nat)} {t : Trace} {ow : Nat → Nat → Prop} {om : Nat → Prop} {st df : Nat → Nat} {tr : Nat → T} {tag tag' : CTag} {sub sub' d0 : Nat} {trm trm' : T} {a a' : Goroutine} {s1 s2 s1' s2' : Int} {es : Array Event}

omit [Payload] in
/-- From the Add's return into its caller to the go statement. -/
theorem back_of_goes {own : Nat → Prop} {Stop : (Nat → Prop) → Goroutine → World → Prop} {m : Nat} {g : Goroutine} (h : Goes P true (RM ty Low Wg Ch own) DC0 (GM P ty Low Wg Ch Stop own) m g w) : GM P ty Low Wg Ch Stop own g w := by
  have h1 := GoesO.of_goes (S := SB ty Low Wg Ch) (D := DL (Sha Low Wg Ch)) (Stop := fun own g w => GM P ty Low Wg Ch Stop own g w) (own := own) (fun _ _ h => h) (fun w w' es hd => by
    obtain ⟨rfl, rfl⟩ := hd
    exact ⟨rfl, Nat.le_refl _, fun _ _ _ => rfl, rfl, rfl, rfl, by simp⟩) (fun _ _ h => h) h
  exact h1.seq fun own g w h => h w (.refl SB.tr own w)

theorem w1StepM (hW : Wg < Low) (hCh : Ch < Low) (hWC : Wg ≠ Ch) (hn : n < 2147483648) (ha : gs[0]? = some a) (hcom : Crew P ty Low Wg Ch n z val w0 n gs w t ow om st df tr 1) (hwg : WgAt ty Wg w s1 s2) (hmode : ConcN.Mode n (md st) .w1 s1 s2) {m : Nat}
    (h : Goes P true (RM ty Low Wg Ch om) DC0 (MW1 P ty Wg (RM ty Low Wg Ch om) (Cont om) (Anch om)) m a w) :
    ∃ m₁ ops μ', runT P (crowd gs w sl) 0 = (.next m₁, ops) ∧ Lt3 μ' (rk n n st .w1 0, (List.range n).map tr, T.chain m) ∧ InvC P ty Low Wg Ch n z val Cont Anch w0 μ' m₁ (t ++ ops) := by
  rcases Goes.cases h with hstop | ⟨m', rfl, hstep⟩
  · obtain ⟨_, hall⟩ := hstop w (RM.refl _ w)
    obtain ⟨ho, rfl, rfl, _⟩ := hmode.open_inv trivial
    have hV := Vc_le n (md st)
    obtain ⟨a', hgo, h0, hne⟩ := hall (Vc n (md st)) (by omega) (by simpa [pend] using hwg)
    by_cases hv : Vc n (md st) = 0
    · obtain ⟨m₂, hk⟩ := h0 hv
      refine callerBk hW hCh hWC ha hcom hgo (.refl Wg w) hwg bk_rd (tag' := .ke) (sub' := 0) (.ke hk) ?_ (.inl (by simp only [phi]; omega))
      have e : ((Vc n (md st) + pend .w1 : Nat) : Int) * KK = 0 := by rw [hv]; simp [pend]
      rw [e]
      exact .fin trivial (allQuit_of ho hv)
    · obtain ⟨m₂, hk⟩ := hne hv
      exact callerBk hW hCh hWC ha hcom hgo (.refl Wg w) hwg bk_rd (tag' := .w2 (Vc n (md st))) (sub' := 0) (.w2 hk) (hmode.reopen trivial trivial rfl (fun vs e => by cases e; omega)) (.inl (by simp only [phi]; omega))
  · obtain ⟨a', w', es, hgo, ⟨rfl, rfl⟩, hg'⟩ := hstep w (RM.refl _ w)
    exact callerIdle hW hCh hWC ha hcom hwg hmode hgo (.w1 hg') (lt_chain _ w')

set_option maxHeartbeats 1600000 in
theorem stepMain (hAn : ∀ own g w, Anch own g w → ∃ m, Goes P true (RM ty Low Wg Ch own) DC0 (MW1 P ty Wg (RM ty Low Wg Ch own) (Cont own) (Anch own)) m g w)
    (hW : Wg < Low) (hCh : Ch < Low) (hWC : Wg ≠ Ch) (hn : n < 2147483648) (ha : gs[0]? = some a) (hcs : CS P ty Low Wg Ch n z val Cont Anch tag sub j trm d0 om a w) (hcom : Crew P ty Low Wg Ch n z val w0 j gs w t ow om st df tr d0)
    (hwg : WgAt ty Wg w s1 s2) (hmode : ConcN.Mode j (md st) tag s1 s2) (hrun : a.status = .running) :
    (∃ m₁ ops, runT P (crowd gs w sl) 0 = (.next m₁, ops) ∧ XJ P ty Low Wg Ch n val Cont w0 m₁ (t ++ ops)) ∨
    (∃ m₁ ops μ', runT P (crowd gs w sl) 0 = (.next m₁, ops) ∧ Lt3 μ' (rk n j st tag sub, (List.range j).map tr, trm) ∧ InvC P ty Low Wg Ch n z val Cont Anch w0 μ' m₁ (t ++ ops)) := by
  have hVj := Vc_le j (md st)
  have hS := hcom.loS
  have hWz : Wg < w.heap.size := by omega
  cases hcs with
  | skd hr h =>
    rcases GoesO.cases SB.tr h with hstop | ⟨f, a', w', es, rfl, hgo, hD, hg'⟩
    · obtain ⟨_, a', hgo, m₂, hk⟩ := hstop w (.refl SB.tr _ w)
      exact .inr (callerBk hW hCh hWC ha hcom hgo (.refl Wg w) hwg bk_dis (.sa1 hr hk) (hmode.reopen trivial trivial rfl (by simp)) (.inl (by simp only [phi]; omega)))
    · exact .inr (callerOwn hW hCh hWC ha hcom hwg hmode hgo hD (.skd hr hg') (.mk f w))
  | sa1 hr h =>
    rename_i r m
    rcases Goes.cases h with hstop | ⟨m', rfl, hstep⟩
    · obtain ⟨_, hall⟩ := hstop w (RM.refl _ w)
      obtain ⟨ho, rfl, rfl, _⟩ := hmode.open_inv trivial
      obtain ⟨a', hgo, hz, hnz⟩ := hall (Vc (n - (r + 1)) (md st)) (by omega) (by simpa [pend] using hwg)
      have e : ∀ s, s ≤ 3 → (((Vc (n - (r + 1)) (md st) : Nat) : Int) + 1) * KK = ((Vc (n - (r + 1)) (md st) + pend (.sp r s) : Nat) : Int) * KK := fun s hs => by simp [pend, hs]
      by_cases hv : Vc (n - (r + 1)) (md st) = 0
      · obtain ⟨m₂, hk⟩ := hz hv
        refine .inr (callerBk hW hCh hWC ha hcom hgo (aside_setCell w (stA Wg) _) (hwg.setSt _) bk_rw (.ssr hr hk) ?_ (.inl (by simp only [phi]; omega)))
        rw [e 3 (by omega)]
        exact .opn trivial ho (by simp)
      · obtain ⟨m₂, hk⟩ := hnz hv
        refine .inr (callerBk hW hCh hWC ha hcom hgo (aside_setCell w (stA Wg) _) (hwg.setSt _) bk_rw (.ske hr hk) ?_ (.inl (by simp only [phi]; omega)))
        rw [e 2 (by omega)]
        exact .opn trivial ho (by simp)
    · obtain ⟨a', w', es, hgo, ⟨rfl, rfl⟩, hg'⟩ := hstep w (RM.refl _ w)
      exact .inr (callerIdle hW hCh hWC ha hcom hwg hmode hgo (.sa1 hr hg') (lt_chain _ w'))
  | ssr hr h =>
    rename_i r m
    rcases Goes.cases h with hstop | ⟨m', rfl, hstep⟩
    · obtain ⟨_, a', hgo, m₂, hk⟩ := hstop w (RM.refl _ w)
      exact .inr (callerBook hW hCh hWC ha hcom hgo (.refl Wg w) hwg (ok0_said (.inl rfl)) (touches_said hWz (.inl rfl)) (by intro e he; simp at he; subst he; simp [mk]) (tag' := .sp r 2) (sub' := 0) (by rw [deaf_said (.inl rfl)]; exact .ske hr hk) (hmode.reopen trivial trivial rfl (by simp)) (.inl (by simp only [phi]; omega)))
    · obtain ⟨a', w', es, hgo, ⟨rfl, rfl⟩, hg'⟩ := hstep w (RM.refl _ w)
      exact .inr (callerIdle hW hCh hWC ha hcom hwg hmode hgo (.ssr hr hg') (lt_chain _ w'))
  | ske hr h =>
    rcases Goes.cases h with hstop | ⟨m', rfl, hstep⟩
    · obtain ⟨_, a', hgo, m₂, hk⟩ := hstop w (RM.refl _ w)
      obtain ⟨tr', hk'⟩ := back_of_goes hk
      exact .inr (callerBk hW hCh hWC ha hcom hgo (.refl Wg w) hwg bk_en (.sgo hr hk') (hmode.reopen trivial trivial rfl (by simp)) (.inl (by simp only [phi]; omega)))
    · obtain ⟨a', w', es, hgo, ⟨rfl, rfl⟩, hg'⟩ := hstep w (RM.refl _ w)
      exact .inr (callerIdle hW hCh hWC ha hcom hwg hmode hgo (.ske hr hg') (lt_chain _ w'))
  | sgo hr h =>
    rename_i r
    rcases GoesO.cases SB.tr h with hstop | ⟨f, a', w', es, rfl, hgo, hD, hg'⟩
    · obtain ⟨_, a', child, c, hsp, hc, ⟨trc, hwk⟩, hnext⟩ := hstop w (.refl SB.tr _ w)
      obtain ⟨ho, rfl, rfl, _⟩ := hmode.open_inv trivial
      have hrun' := runT_crowd_spawn (P := P) (sl := sl) (i := 0) ha (by simpa using hsp)
      rw [hcom.size] at hrun'
      have hcom' := hcom.spawn hW hCh (a' := a') (x := { g := 0, fn := a.frame.fn, pos := a.frame.place, act := .go (n - (r + 1) + 1) }) (y := { g := n - (r + 1) + 1, fn := child.frame.fn, pos := a.frame.place, act := .start }) hc ⟨rfl, rfl⟩ ⟨rfl, rfl⟩ hwk
      have eM : md (upd st (n - (r + 1)) 8) = upd (md st) (n - (r + 1)) ⟨7, 0, 0⟩ := md_upd st _ 8
      have eV : Vc (n - (r + 1) + 1) (md (upd st (n - (r + 1)) 8)) = Vc (n - (r + 1)) (md st) + 1 := by
        rw [eM]
        simp only [Vc, sumTo, upd_same]
        rw [sumTo_upd_out (md st) _ cnt (Nat.le_refl _)]; rfl
      have eS : sumTo (n - (r + 1) + 1) (upd st (n - (r + 1)) 8) = sumTo (n - (r + 1)) st + 8 := by
        simp only [sumTo, upd_same]
        have := sumTo_upd_out st 8 id (Nat.le_refl (n - (r + 1)))
        simp only [id] at this
        rw [show sumTo (n - (r + 1)) (upd st (n - (r + 1)) 8) = sumTo (n - (r + 1)) st from this]
      have ho' : OpenSt (n - (r + 1) + 1) (md (upd st (n - (r + 1)) 8)) := fun i hi => by
        rw [eM]
        by_cases e : i = n - (r + 1)
        · subst e; rw [upd_same]; simp
        · rw [upd_ne _ _ e]; exact ho i (by omega)
      have ha' : ((gs.setIfInBounds 0 a').push child)[0]? = some a' := by
        rw [Array.getElem?_push_lt (by simp [hcom.size]), ← Array.getElem?_eq_getElem]
        simp [hcom.size]
      have ej : n - (r + 1) + 1 = n - r := by omega
      rw [ej] at hrun' hcom' eV eS ho'
      have est : ∀ tag', pend tag' = 0 → ((Vc (n - (r + 1)) (md st) + pend (.sp r 1) : Nat) : Int) * KK = ((Vc (n - r) (md (upd st (n - (r + 1)) 8)) + pend tag' : Nat) : Int) * KK := fun tag' hp => by rw [eV, hp]; simp [pend]
      cases r with
      | zero =>
        obtain ⟨trk, hk⟩ := hnext
        simp only [Nat.sub_zero] at hrun' hcom' eV eS ho' est
        refine .inr ⟨_, _, (rk n n (upd st (n - (0 + 1)) 8) .kd 0, (List.range n).map (upd tr (n - (0 + 1)) trc), trk), hrun', Prod.Lex.left _ _ (by simp only [rk, phi]; omega),
          _, w, sl, n, _, _, _, _, _, .kd, 0, trk, 0, a', _, _, rfl, ha', .kd hk, hcom', hwg, ?_, rfl⟩
        rw [est .kd rfl]
        exact .opn trivial ho' (by simp)
      | succ r' =>
        obtain ⟨trk, hk⟩ := hnext
        refine .inr ⟨_, _, (rk n (n - (r' + 1)) (upd st (n - (r' + 1 + 1)) 8) (.sp r' 5) 0, (List.range (n - (r' + 1))).map (upd tr (n - (r' + 1 + 1)) trc), trk), hrun', Prod.Lex.left _ _ (by simp only [rk, phi]; omega),
          _, w, sl, n - (r' + 1), _, _, _, _, _, .sp r' 5, 0, trk, 0, a', _, _, rfl, ha', .skd (by omega) hk, hcom', hwg, ?_, rfl⟩
        rw [est (.sp r' 5) rfl]
        exact .opn trivial ho' (by simp)
    · exact .inr (callerOwn hW hCh hWC ha hcom hwg hmode hgo hD (.sgo hr hg') (.mk f w))
  | kd h =>
    rcases GoesO.cases SB.tr h with hstop | ⟨f, a', w', es, rfl, hgo, hD, hg'⟩
    · obtain ⟨_, a', hgo, m₂, hk⟩ := hstop w (.refl SB.tr _ w)
      exact .inr (callerBk hW hCh hWC ha hcom hgo (.refl Wg w) hwg bk_dis (.anch hk) (hmode.reopen trivial trivial rfl (by simp)) (.inl (by simp only [phi]; omega)))
    · exact .inr (callerOwn hW hCh hWC ha hcom hwg hmode hgo hD (.kd hg') (.mk f w))
  | anch h =>
    rcases Goes.cases h with hstop | ⟨m', rfl, hstep⟩
    · obtain ⟨m₂, hk⟩ := hAn om a w (hstop w (RM.refl _ w))
      obtain ⟨m₁, ops, μ', h1, h2, h3⟩ := w1StepM (sl := sl) hW hCh hWC hn ha hcom hwg (hmode.reopen trivial trivial rfl (by simp)) hk
      refine .inr ⟨m₁, ops, μ', h1, ?_, h3⟩
      have hlt : rk n n st .w1 0 < rk n n st .anch 0 := by simp only [rk, phi]; omega
      obtain ⟨μ1, μ2⟩ := μ'
      rcases Prod.lex_def.1 h2 with h | ⟨h, _⟩
      · exact Prod.Lex.left _ _ (by simp only at h; omega)
      · exact Prod.Lex.left _ _ (by simp only at h; omega)
    · obtain ⟨a', w', es, hgo, ⟨rfl, rfl⟩, hg'⟩ := hstep w (RM.refl _ w)
      exact .inr (callerIdle hW hCh hWC ha hcom hwg hmode hgo (.anch hg') (lt_chain _ w'))
  | w1 h => exact .inr (w1StepM hW hCh hWC hn ha hcom hwg hmode h)
  | w2 h =>
    rename_i vs m
    rcases Goes.cases h with hstop | ⟨m', rfl, hstep⟩
    · obtain ⟨_, hall⟩ := hstop w (RM.refl _ w)
      obtain ⟨ho, rfl, rfl, hw2⟩ := hmode.open_inv trivial
      obtain ⟨hle, h1⟩ := hw2 vs rfl
      obtain ⟨hhit, hmiss⟩ := hall (Vc n (md st)) (by omega) (by simpa [pend] using hwg)
      by_cases e : Vc n (md st) = vs
      · obtain ⟨a', hgo, m₂, hk⟩ := hhit e
        exact .inr (callerBk hW hCh hWC ha hcom hgo (aside_setCell w (stA Wg) _) (hwg.setSt _) bk_rw (.sw hk) (.reg trivial ho (by omega)) (.inl (by simp only [phi]; omega)))
      · obtain ⟨a', hgo, m₂, hk⟩ := hmiss e
        exact .inr (callerBk hW hCh hWC ha hcom hgo (.refl Wg w) hwg bk_rd (.anch hk) (hmode.reopen trivial trivial rfl (by simp)) (.inl (by simp only [phi]; omega)))
    · obtain ⟨a', w', es, hgo, ⟨rfl, rfl⟩, hg'⟩ := hstep w (RM.refl _ w)
      exact .inr (callerIdle hW hCh hWC ha hcom hwg hmode hgo (.w2 hg') (lt_chain _ w'))
  | sw h =>
    rcases Goes.cases h with hstop | ⟨m', rfl, hstep⟩
    · obtain ⟨_, a', hgo, m₂, hk⟩ := hstop w (RM.refl _ w)
      exact .inr (callerBook hW hCh hWC ha hcom hgo (.refl Wg w) hwg (ok0_said (.inr rfl)) (touches_said hWz (.inr rfl)) (by intro e he; simp at he; subst he; simp [mk]) (tag' := .w3) (sub' := 0) (by rw [deaf_said (.inr rfl)]; exact .w3 hk) hmode (.inl (by omega)))
    · obtain ⟨a', w', es, hgo, ⟨rfl, rfl⟩, hg'⟩ := hstep w (RM.refl _ w)
      exact .inr (callerIdle hW hCh hWC ha hcom hwg hmode hgo (.sw hg') (lt_chain _ w'))
  | w3 h =>
    rcases Goes.cases h with hstop | ⟨m', rfl, hstep⟩
    · obtain ⟨_, hoff, hblk, htake⟩ := hstop w (RM.refl _ w)
      have hb : ∀ m, deafBehind 1 (#[] : Array Event) = 1 → CS P ty Low Wg Ch n z val Cont Anch .blk 0 n (T.chain m) 1 om { a with status := .blocked } w := fun m _ => .blk hstop
      cases hmode with
      | opn h1 _ _ => exact h1.elim
      | reg h1 h2 h3 => exact .inr (callerBk hW hCh hWC ha hcom (hblk ⟨_, hwg⟩) (.refl Wg w) hwg (by simp) (tag' := .blk) (hb _ rfl) (.reg trivial h2 h3) (.inr ⟨rfl, rfl, lt_chain _ w⟩))
      | last L h1 h2 h3 h4 => exact .inr (callerBk hW hCh hWC ha hcom (hblk ⟨_, hwg⟩) (.refl Wg w) hwg (by simp) (tag' := .blk) (hb _ rfl) (.last L trivial h2 h3 h4) (.inr ⟨rfl, rfl, lt_chain _ w⟩))
      | sema h2 =>
        obtain ⟨a', hgo, m₂, hk⟩ := htake hwg
        exact .inr (callerBk hW hCh hWC ha hcom hgo (aside_setCell w (smA Wg) _) (hwg.setSm 0) bk_sem (.w4 hk) (.fin trivial h2) (.inl (by simp only [phi]; omega)))
      | fin h1 _ => exact h1.elim
    · obtain ⟨a', w', es, hgo, ⟨rfl, rfl⟩, hg'⟩ := hstep w (RM.refl _ w)
      exact .inr (callerIdle hW hCh hWC ha hcom hwg hmode hgo (.w3 hg') (lt_chain _ w'))
  | blk h => simp at hrun
  | w4 h =>
    rcases Goes.cases h with hstop | ⟨m', rfl, hstep⟩
    · obtain ⟨_, hx⟩ := hstop w (RM.refl _ w)
      obtain ⟨hq, rfl, rfl⟩ := hmode.fin_inv trivial
      obtain ⟨a', hgo, m₂, hk⟩ := hx hwg
      exact .inr (callerBk hW hCh hWC ha hcom hgo (.refl Wg w) hwg bk_rd (.ke hk) (.fin trivial hq) (.inl (by simp only [phi]; omega)))
    · obtain ⟨a', w', es, hgo, ⟨rfl, rfl⟩, hg'⟩ := hstep w (RM.refl _ w)
      exact .inr (callerIdle hW hCh hWC ha hcom hwg hmode hgo (.w4 hg') (lt_chain _ w'))
  | ke h =>
    rcases Goes.cases h with hstop | ⟨m', rfl, hstep⟩
    · obtain ⟨_, a', hgo, m₂, hk⟩ := hstop w (RM.refl _ w)
      obtain ⟨hq, rfl, rfl⟩ := hmode.fin_inv trivial
      exact .inr (callerBk hW hCh hWC ha hcom hgo (.refl Wg w) hwg bk_en (.acq hk) (.fin trivial hq) (.inl (by simp only [phi]; omega)))
    · obtain ⟨a', w', es, hgo, ⟨rfl, rfl⟩, hg'⟩ := hstep w (RM.refl _ w)
      exact .inr (callerIdle hW hCh hWC ha hcom hwg hmode hgo (.ke hg') (lt_chain _ w'))
  | acq h =>
    rcases Goes.cases h with hstop | ⟨m', rfl, hstep⟩
    · obtain ⟨_, a', hgo, m₂, hk⟩ := hstop w (RM.refl _ w)
      obtain ⟨hq, rfl, rfl⟩ := hmode.fin_inv trivial
      have hq' : ∀ i, i < n → st i = 1 := fun i hi => by
        have := hq i hi
        rw [md_stage] at this
        omega
      have hrun' := runT_crowd_go (P := P) (sl := sl) (i := 0) ha (by simpa using hgo)
      refine .inl ⟨_, _, hrun', ?_⟩
      have hok : ∀ op ∈ MemOp.ofEvents 0 a.frame.fn a.frame.place #[mk (.acquire (stA Wg))], Ok0 (ShN Wg) (OwnL n ow) (RdL Low Wg Ch) n op := ok0_none (by intro e he; simp at he; subst he; rfl)
      have hto : Touches Wg w.heap.size (MemOp.ofEvents 0 a.frame.fn a.frame.place #[mk (.acquire (stA Wg))]) := touches_none fun op hop => by
        obtain ⟨e, he, rfl⟩ := Conc.mem_ofEvents hop
        simp at he; subst he; rfl
      have hst := hcom.step0 (gs' := (gs.map (woken P a a' w)).setIfInBounds 0 a') (w' := w) hW hCh (.of_wg (.refl Wg w) ⟨_, _, hwg⟩) hok hto (fun op hop => norel_of (by intro e he; simp at he; subst he; simp [mk]) op hop) (d0' := 0) (by rw [Deaf_own, hcom.deaf0]; rfl) rfl (by simp) (fun k x _ hx hb => by
        rw [get_map_set _ _ _ _ (by omega), hx, Option.map_some]
        unfold Go.Conc.woken
        split
        · rw [again_running _ hb]
        · rfl)
      rw [more_same rfl] at hst
      have e1 : MemOp.ofEvents 0 a.frame.fn a.frame.place #[mk (.acquire (stA Wg))] = #[{ g := 0, fn := a.frame.fn, pos := a.frame.place, act := .mark (.acquire (stA Wg)) }] := by rw [ofEvents_eq]; simp [ofEvent_mk]
      have hy : (t ++ #[({ g := 0, fn := a.frame.fn, pos := a.frame.place, act := .mark (.acquire (stA Wg)) } : MemOp)])[t.size]? = some { g := 0, fn := a.frame.fn, pos := a.frame.place, act := .mark (.acquire (stA Wg)) } := by simp
      have hwk : ∀ i, ∃ q, ∀ g, 0 < i → ((gs.map (woken P a a' w)).setIfInBounds 0 a')[i]? = some g → QuitsD P q (df (i - 1)) g ∧ i - 1 < n := fun i => by
        by_cases hin : 0 < i ∧ i - 1 < n
        · obtain ⟨g, hg, hs⟩ := hst.wk (i - 1) hin.2
          rw [hq' _ hin.2] at hs
          generalize tr (i - 1) = tri at hs
          cases hs with
          | @lib _ _ m _ _ _ _ _ _ h =>
            refine ⟨m, fun g' _ hg' => ?_⟩
            rw [show i - 1 + 1 = i by omega] at hg
            rw [hg] at hg'
            cases hg'
            exact ⟨h.quits rfl, hin.2⟩
        · refine ⟨0, fun g h1 h2 => ?_⟩
          have := (Array.getElem?_eq_some_iff.1 h2).1
          rw [hst.size] at this
          omega
      refine ⟨_, a', w, sl, fun i => Classical.choose (hwk i), rfl, by rw [hst.size], get_map_set_same _ _ _ (by rw [hcom.size]; omega), ⟨fun i g hi hg => ?_, fun k hk => ?_⟩, ?_, om, ⟨m₂, hk⟩,
        ⟨?_, hcom.loM, hS, hcom.shared, hcom.tape, hcom.os, hcom.output⟩, ⟨_, _, hwg⟩⟩
      · obtain ⟨h1, hin⟩ := Classical.choose_spec (hwk i) g hi hg
        have h2 := hst.deafW (i - 1) hin
        rw [show i - 1 + 1 = i by omega] at h2
        rw [h2]
        exact h1
      · rw [hst.size] at hk
        exact Deaf_absent fun x op hx e => by have := hst.ct.gs x op hx; omega
      · refine pastX_of_crew (q := t.size) hst.ct (fun i g hgi hne => ?_) hst.norel (by rw [e1, act?_of hy]) (by rw [e1]; simp [Trace.g?]) (by rw [e1]; exact ⟨0, by simp [Trace.g?], by rw [deaf_old (Nat.le_refl _)]; exact hcom.deaf0⟩) hst.deaf0 hst.low hst.atom
        obtain ⟨op, ho, rfl⟩ := Option.map_eq_some_iff.1 hgi
        have hle := hst.ct.gs i op ho
        obtain ⟨r, hr⟩ := hcom.rel (op.g - 1) (by omega) (by rw [hq' _ (by omega)]; omega)
        rw [show op.g - 1 + 1 = op.g by omega] at hr
        exact ⟨r, hr.appOther g_of_ofEvents (by omega), lt_of_act? hr.act⟩
      · obtain ⟨L, h1, h2, h3⟩ := hcom.chan
        exact ⟨L, h1, fun i => (h2 i).trans ⟨fun h => h.1, fun h => ⟨h, by rw [hq' i h]; omega⟩⟩, h3⟩
    · obtain ⟨a', w', es, hgo, ⟨rfl, rfl⟩, hg'⟩ := hstep w (RM.refl _ w)
      exact .inr (callerIdle hW hCh hWC ha hcom hwg hmode hgo (.acq hg') (lt_chain _ w'))
end
end Go.Par
namespace Go.Par
open Go.Conc Go.ConcN
open Go.ConcR (KK wgBlock WgAt stA smA rd wr mk DC0 Bk Payload)

section
variable [Payload] {P : Program} {ty : TypeId} {Low Wg Ch n : Nat} {z : Value} {val : Nat → Value} {Cont Anch : (Nat → Prop) → Goroutine → World → Prop} {w0 : World}

/-- THE CREW COMES TO ITS JOIN. -/
theorem crew_leads (hAr : ∀ own g w, Anch own g w → g.status = .running) (hAn : ∀ own g w, Anch own g w → ∃ m, Goes P true (RM ty Low Wg Ch own) DC0 (MW1 P ty Wg (RM ty Low Wg Ch own) (Cont own) (Anch own)) m g w)
    (hW : Wg < Low) (hCh : Ch < Low) (hWC : Wg ≠ Ch) (hn : n < 2147483648) : ∀ (μ : Ms) (m : Machine) (t : Trace), InvC P ty Low Wg Ch n z val Cont Anch w0 μ m t → Leads P (XJ P ty Low Wg Ch n val Cont w0) m t := by
  intro μ
  induction μ using Lt3.wf.induction with
  | _ μ ih =>
    rintro m t ⟨gs, w, sl, j, ow, om, st, df, tr, tag, sub, trm, d0, a, s1, s2, rfl, ha, hcs, hcom, hwg, hmode, rfl⟩
    have haw : ∀ g ∈ gs, awake g := by
      intro g hg tm
      obtain ⟨i, hi⟩ := Array.mem_iff_getElem?.1 hg
      cases i with
      | zero =>
        rw [ha] at hi; cases hi
        rcases hcs.status hAr with ⟨hs, _⟩ | ⟨hs, _⟩ <;> rw [hs] <;> simp
      | succ i =>
        have hlt : i < j := by have := (Array.getElem?_eq_some_iff.1 hi).1; rw [hcom.size] at this; omega
        obtain ⟨g', hg', hs⟩ := hcom.wk i hlt
        rw [hi] at hg'; cases hg'
        rcases hs.status with h | h <;> rw [h] <;> simp
    have hsome : ∃ (i : Nat) (g : Goroutine), gs[i]? = some g ∧ g.status = .running := by
      rcases hcs.status hAr with ⟨hs, _⟩ | ⟨_, _, rfl⟩
      · exact ⟨0, a, ha, hs⟩
      · cases hmode with
        | opn h1 _ _ => exact h1.elim
        | reg _ _ h3 =>
          obtain ⟨i, hi, h5⟩ := exists_counted h3
          rw [md_stage] at h5
          obtain ⟨g, hg, hs⟩ := hcom.wk i hi
          exact ⟨i + 1, g, hg, hs.running (by omega)⟩
        | last L _ h2 h3 _ =>
          rw [md_stage] at h3
          obtain ⟨g, hg, hs⟩ := hcom.wk L h2
          exact ⟨L + 1, g, hg, hs.running (by omega)⟩
        | fin h1 _ => exact h1.elim
    obtain ⟨i, g, d, sl', hg, hrun, hstep⟩ := crowd_pick (P := P) (w := w) (sl := sl) haw hsome
    have hcs' := hcs.rely (ry_at' (ty := ty) (Low := Low) (Wg := Wg) (Ch := Ch) om w d)
    have hcom' := hcom.at d
    have hwg' : WgAt ty Wg (w.at d) s1 s2 := hwg
    have go : ∀ m₁ ops μ', runT P (crowd gs (w.at d) sl') i = (.next m₁, ops) → Lt3 μ' (rk n j st tag sub, (List.range j).map tr, trm) → InvC P ty Low Wg Ch n z val Cont Anch w0 μ' m₁ (t ++ ops) → Leads P (XJ P ty Low Wg Ch n val Cont w0) (crowd gs w sl) t := by
      intro m₁ ops μ' h1 h2 h3
      obtain ⟨N, m', t', h4, h5⟩ := ih μ' h2 m₁ _ h3
      exact ⟨N + 1, m', t', by rw [Nat.add_comm]; simp only [runNT_add]; simp only [runNT, hstep, h1]; exact h4, h5⟩
    cases i with
    | zero =>
      rw [ha] at hg; cases hg
      rcases stepMain (sl := sl') hAn hW hCh hWC hn ha hcs' hcom' hwg' hmode hrun with ⟨m₁, ops, h1, h2⟩ | ⟨m₁, ops, μ', h1, h2, h3⟩
      · exact ⟨1, m₁, _, by simp only [runNT, hstep, h1], h2⟩
      · exact go m₁ ops μ' h1 h2 h3
    | succ i =>
      have hi : i < j := by have := (Array.getElem?_eq_some_iff.1 hg).1; rw [hcom.size] at this; omega
      obtain ⟨m₁, ops, μ', h1, h2, h3⟩ := stepWk (sl := sl') hAr hW hCh hWC hn ha hcs' hcom' hwg' hmode hi hg hrun
      exact go m₁ ops μ' h1 h2 h3
end

/-! ### the starter alone -/
/-- The trace of goroutine 0 alone that has touched no block of X. -/
def LoneT (X : Nat → Prop) (B : Nat) (t : Trace) : Prop :=
  ∀ op ∈ t, op.g = 0 ∧ (∀ x, op.act.touch? = some x → x.loc.low B ∧ x.kind = .plain ∧ ∀ b, blk x.loc = some b → ¬ X b) ∧ op.act ≠ .mark .disable ∧ op.act ≠ .mark .enable ∧ ∀ a, op.act ≠ .mark (.release a)
def EvA (X : Nat → Prop) (B : Nat) (e : Event) : Prop := (∀ x, (MemAct.ofEvent e).touch? = some x → x.loc.low B ∧ x.kind = .plain ∧ ∀ b, blk x.loc = some b → ¬ X b) ∧ e.loc ≠ .mark .disable ∧ e.loc ≠ .mark .enable ∧ ∀ a, e.loc ≠ .mark (.release a)

section
variable {X : Nat → Prop} {B B' : Nat} {t : Trace}
theorem LoneT.mono (h : LoneT X B t) (hB : B ≤ B') : LoneT X B' t := fun op hop => let ⟨h1, h2, h3⟩ := h op hop; ⟨h1, fun x hx => ⟨Loc.low_mono hB (h2 x hx).1, (h2 x hx).2⟩, h3⟩
/-- A new block has been touched by nobody. -/
theorem LoneT.more {Y : Nat → Prop} (h : LoneT X B t) (hY : ∀ b, Y b → X b ∨ B ≤ b) : LoneT Y B t := fun op hop => let ⟨h1, h2, h3⟩ := h op hop
  ⟨h1, fun x hx => ⟨(h2 x hx).1, (h2 x hx).2.1, fun b hb hy => (hY b hy).elim ((h2 x hx).2.2 b hb) fun hb' => by have := low_blk (h2 x hx).1 hb; omega⟩, h3⟩
theorem LoneT.nil : LoneT X B #[] := fun op hop => by simp at hop
theorem LoneT.own (h : LoneT X B t) {fn : FuncId} {pos : String} {es : Array Event} (he : ∀ e ∈ es, EvA X B e) : LoneT X B (t ++ MemOp.ofEvents 0 fn pos es) := by
  intro op hop
  rcases Array.mem_append.1 hop with hop | hop
  · exact h op hop
  · obtain ⟨e, hee, rfl⟩ := Conc.mem_ofEvents hop
    obtain ⟨h1, h2, h3, h4⟩ := he e hee
    exact ⟨rfl, h1, fun hh => h2 (Go.ConcR.loc_of_ofEvent hh), fun hh => h3 (Go.ConcR.loc_of_ofEvent hh), fun a hh => h4 a (Go.ConcR.loc_of_ofEvent hh)⟩
end

/-- Goroutine 0 alone. -/
def LSt (X : Nat → Prop) (Q : Goroutine → World → Prop) (m : Machine) (t : Trace) : Prop :=
  ∃ (a : Goroutine) (w : World) (sl : Option (Nat × Nat)), m = crowd #[a] w sl ∧ LoneT X w.heap.size t ∧ Q a w

section
variable {P : Program} {X : Nat → Prop} {D : (Nat → Prop) → World → World → Array Event → Prop} {OK : (Nat → Prop) → World → Prop} {Stop : (Nat → Prop) → Goroutine → World → Prop}

/-- One step. -/
theorem stepL {m : Machine} {t : Trace} {Q Q' : Goroutine → World → Prop} (h : LSt X Q m t) (hst : ∀ a w, Q a w → a.status = .running ∧ ∀ d, ∃ a' w' es, stepG P true a (w.at d) = .go a' w' es ∧ w.heap.size ≤ w'.heap.size ∧ (∀ e ∈ es, EvA X w'.heap.size e) ∧ Q' a' w') : Leads P (LSt X Q') m t := by
  obtain ⟨a, w, sl, rfl, hT, hQ⟩ := h
  obtain ⟨hrun, hgo⟩ := hst a w hQ
  have haw : ∀ g ∈ #[a], awake g := fun g hg => by simp at hg; subst hg; exact awake_of (.inl hrun)
  obtain ⟨i, g, d, sl', hi, hg, hs⟩ := crowd_pick (P := P) (w := w) (sl := sl) haw ⟨0, a, rfl, hrun⟩
  obtain rfl : i = 0 := by have := (Array.getElem?_eq_some_iff.1 hi).1; simp at this; omega
  obtain rfl : a = g := by simpa using hi
  obtain ⟨a', w', es, h1, h2, h3, h4⟩ := hgo d
  have hr := runT_crowd_go (P := P) (sl := sl') (i := 0) hi (by simpa using h1)
  rw [show ((#[a].map (woken P a a' w')).setIfInBounds 0 a') = #[a'] by simp] at hr
  exact ⟨1, crowd #[a'] w' sl', t ++ MemOp.ofEvents 0 a.frame.fn a.frame.place es, by simp only [runNT, hs, hr], a', w', sl', rfl, (hT.mono h2).own h3, h4⟩

/-- A walk. -/
theorem walkL (hOK : ∀ own w d, OK own w → OK own (w.at d)) (hD : ∀ own w w' es, OK own w → D own w w' es → w.heap.size ≤ w'.heap.size ∧ OK (More own w w') w' ∧ ∀ e ∈ es, EvA X w'.heap.size e) (tr : T) :
    ∀ {m : Machine} {t : Trace} (own : Nat → Prop), LSt X (fun g w => OK own w ∧ GoesO P true AtRel D Stop tr own g w) m t → Leads P (LSt X (fun g w => ∃ own, OK own w ∧ Stop own g w)) m t := by
  induction tr with
  | leaf =>
    rintro m t own ⟨a, w, sl, rfl, hT, hO, hG⟩
    exact .refl ⟨a, w, sl, rfl, hT, own, hO, hG w (.refl atRel_tr own w)⟩
  | node f ih =>
    rintro m t own ⟨a, w, sl, rfl, hT, hO, hG⟩
    rcases hG with hstop | ⟨hrun, hstep⟩
    · exact .refl ⟨a, w, sl, rfl, hT, own, hO, hstop w (.refl atRel_tr own w)⟩
    · refine (stepL (P := P) (Q := fun a' w' => a' = a ∧ w' = w) (Q' := fun a' w' => ∃ (d : Nat), OK (More own (w.at d) w') w' ∧ GoesO P true AtRel D Stop (f (w.at d)) (More own (w.at d) w') a' w') ⟨a, w, sl, rfl, hT, rfl, rfl⟩ ?_).trans ?_
      · rintro a1 w1 ⟨rfl, rfl⟩
        refine ⟨hrun, fun d => ?_⟩
        obtain ⟨a', w', es, h1, h2, h3⟩ := hstep (w1.at d) (ry_at own w1 d)
        obtain ⟨h4, h5, h6⟩ := hD _ _ _ _ (hOK _ _ d hO) h2
        exact ⟨a', w', es, h1, h4, h6, d, h5, h3⟩
      · rintro m1 t1 ⟨a1, w1, sl1, rfl, hT1, d, h1, h2⟩
        exact ih (w.at d) _ ⟨a1, w1, sl1, rfl, hT1, h1, h2⟩
end

section
variable [Payload] {P : Program} {ty : TypeId} {Low Wg Ch n : Nat} {z : Value} {val : Nat → Value} {Cont Anch : (Nat → Prop) → Goroutine → World → Prop}

/-- FROM THE STARTER ALONE. -/
theorem crew_start {om : Nat → Prop} {a : Goroutine} {w : World} {sl : Option (Nat × Nat)} {t : Trace} (hsp : Sp P ty Low Wg Ch n z val Anch n om a w) (hwg : WgAt ty Wg w 0 0) (hch : w.heap[Ch]? = some (.chan n #[] false 0 0 false))
    (ht : LoneT (fun b => b = Wg) w.heap.size t) (hom : ∀ b, om b → Low ≤ b ∧ b < w.heap.size) (hlo : Low ≤ w.heap.size) : ∃ μ, InvC P ty Low Wg Ch n z val Cont Anch w μ (crowd #[a] w sl) t := by
  have hnS : ∀ op ∈ t, ∀ x, op.act.touch? = some x → ¬ ShN Wg x.loc := fun op hop x hx ⟨b, hb, hbw⟩ => ((ht op hop).2.1 x hx).2.2 b.block (by rw [hb]; rfl) hbw
  have hcom : Crew P ty Low Wg Ch n z val w 0 #[a] w t (fun _ _ => False) om (fun _ => 0) (fun _ => 0) (fun _ => .leaf) 0 := by
    refine ⟨rfl, fun i hi => by omega, CT.lone (fun op hop => (ht op hop).1) hnS, fun i i' b hi => by omega, fun i b hi => by omega, fun i b hi => by omega, hom, hlo, fun i x hx => ?_, fun i x hx hk => ?_, fun i hi => ?_, ?_, fun i hi => by omega, fun i hi => by omega,
      ⟨[], by simp, fun i => ⟨fun h => by simp at h, fun h => by omega⟩, by simpa using hch⟩, fun _ _ => rfl, rfl, rfl, rfl⟩
    · obtain ⟨op, hop, hopx⟩ := touch_of hx
      exact ((ht op (Array.mem_of_getElem? hop)).2.1 x hopx).1
    · obtain ⟨op, hop, hopx⟩ := touch_of hx
      rw [((ht op (Array.mem_of_getElem? hop)).2.1 x hopx).2.1] at hk; cases hk
    · obtain ⟨op, hop, hopx⟩ := Option.map_eq_some_iff.1 hi
      exact (ht op (Array.mem_of_getElem? hop)).2.2.2.2 _ hopx
    · have := Deaf_still #[] 0 t fun op hop => ⟨(ht op hop).2.2.1, (ht op hop).2.2.2.1⟩
      rw [Array.empty_append] at this
      rw [this]; rfl
  have hmode : ∀ tag, isOpen tag → pend tag = 0 → (∀ vs, tag ≠ .w2 vs) → ConcN.Mode 0 (md fun _ => 0) tag 0 0 := fun tag h1 h2 h3 => by
    have := ConcN.Mode.opn (j := 0) (D := md fun _ => 0) h1 (fun i hi => by omega) (fun vs e => absurd e (h3 vs))
    simpa [Vc, sumTo, h2] using this
  cases n with
  | zero =>
    obtain ⟨tr, hk⟩ := hsp
    exact ⟨_, #[a], w, sl, 0, _, om, _, _, _, .kd, 0, tr, 0, a, 0, 0, rfl, rfl, .kd hk, hcom, hwg, hmode .kd trivial rfl (by simp), rfl⟩
  | succ r =>
    obtain ⟨tr, hk⟩ := hsp
    have hc := CS.skd (Cont := Cont) (Nat.lt_succ_self r) hk
    rw [Nat.sub_self] at hc
    exact ⟨_, #[a], w, sl, 0, _, om, _, _, _, .sp r 5, 0, tr, 0, a, 0, 0, rfl, rfl, hc, hcom, hwg, hmode (.sp r 5) trivial rfl (by simp), rfl⟩
end
end Go.Par
namespace Go.Par
open Go.Conc Go.ConcN Go.ConcN.Gen Go.RowKit Go.Conc.Lib Go.ConcR.Gen
open Go.ConcR (KK wgBlock WgAt stA smA rd wr mk DC0)

section
variable {L : WgLink} {Wg : Nat} {R : World → World → Prop} {F : World → Prop} {Cont : Goroutine → World → Prop}
  {b₀ : Frame} {a₀ : Act} {ops₀ : Array Oper} {i₀ : Nat} {rest₀ : List Nat} {k₀ : List Item} {cs : List Frame}

/-- At the head of Wait's loop. -/
def AnchM (L : WgLink) (F : World → Prop) (Wg : Nat) (c : Frame) (cs : List Frame) (g : Goroutine) (w : World) : Prop :=
  ∃ T : Array Value, g = G ((base L.wait).at ⟨T, []⟩ [.code (L7 L), .inLoop (L7 L), .inBlock 0]) (c :: cs) ∧ T.size = 84 ∧ T[0]? = some (.pointer (some ⟨Wg, 0, none⟩)) ∧ F w ∧ WgLive L.tWg Wg w

set_option maxRecDepth 100000 in
set_option maxHeartbeats 8000000 in
theorem waitRoundM {P : Program} (H : WgLib P L) (hR : ∀ {w w₁ : World}, F w ∧ WgLive L.tWg Wg w → R w w₁ → F w₁ ∧ WgLive L.tWg Wg w₁) (hS : ∀ w v, F w → WgLive L.tWg Wg w → F (w.setCell (stA Wg) v)) (hS2 : ∀ w v, F w → WgLive L.tWg Wg w → F (w.setCell (smA Wg) v))
    (hT : ∃ m, ∀ w, F w → WgLive L.tWg Wg w → Goes P true R DC0 Cont m (G (b₀.at (a₀.put ((ops₀[i₀]?).bind (·.dst)) (.tuple #[])) (.inRegion ops₀ rest₀ :: k₀)) cs) w)
    (g : Goroutine) (w : World) (h : AnchM L F Wg (b₀.at a₀ (.inRegion ops₀ (i₀ :: rest₀) :: k₀)) cs g w) :
    Goes P true R DC0 (MW1 P L.tWg Wg R Cont (AnchM L F Wg (b₀.at a₀ (.inRegion ops₀ (i₀ :: rest₀) :: k₀)) cs)) 40 g w := by
  lib_facts
  obtain ⟨T, rfl, hT84, t0, hF⟩ := h
  obtain ⟨v0, v1, v2, v3, v4, v5, v6, v7, v8, v9, v10, v11, v12, v13, v14, v15, v16, v17, v18, v19, v20, v21, v22, v23, v24, v25, v26, v27, v28, v29, v30, v31, v32, v33, v34, v35, v36, v37, v38, v39, v40, v41, v42, v43, v44, v45, v46, v47, v48, v49, v50, v51, v52, v53, v54, v55, v56, v57, v58, v59, v60, v61, v62, v63, v64, v65, v66, v67, v68, v69, v70, v71, v72, v73, v74, v75, v76, v77, v78, v79, v80, v81, v82, v83, rfl⟩ := array84 T hT84
  simp only [List.getElem?_toArray, List.getElem?_cons_zero, Option.some.injEq] at t0
  subst t0
  simp only [L7, body_wait, waitFn, Option.getD_some]
  u_c stepG_block hR hF
  u_c stepG_seq hR hF
  u_reg hR hF
  u_op hR hF
  u_op hR hF
  u_op hR hF
  u_call H.f_uLoad (nm_uLoad L) uLoadFn hR hF
  u_c stepG_seq hR hF
  u_reg hR hF
  u_op hR hF
  u_c stepG_region_end hR hF
  u_c stepG_seq hR hF
  u_reg hR hF
  u_op hR hF
  u_op hR hF
  u_op hR hF
  refine Goes.stop (fun w₁ h₁ => ?_)
  replace hF := hR hF h₁
  clear h₁
  refine ⟨rfl, fun v hv hw => ?_⟩
  rcases Nat.eq_zero_or_pos v with rfl | hvp
  · -- the load reads 0
    replace hw : WgAt L.tWg Wg w₁ 0 0 := by simpa using hw
    refine ⟨_, stepG_load_atomic (v := 0) rfl rfl (by k_ne) rfl H.f_loadU64 (x_loadU64_n L) (x_loadU64_b L) (x_loadU64_x L) .u64 (x_loadU64_f L) rfl hw.cellSt, fun _ => ⟨80, ?_⟩, fun h => absurd rfl h⟩
    clear hw
    walk_nrm
    u_op hR hF
    u_c stepG_region_end hR hF
    u_c stepG_ret' hR hF
    u_leave1 H.f_uLoad hR hF
    u_op hR hF
    u_c stepG_region_end hR hF
    u_c stepG_seq hR hF
    u_reg hR hF
    u_op hR hF
    u_op hR hF
    u_op hR hF
    u_op hR hF
    u_c stepG_region_end hR hF
    u_c stepG_seq hR hF
    u_reg hR hF
    u_op hR hF
    u_op hR hF
    u_op hR hF
    u_op hR hF
    u_c stepG_region_end hR hF
    u_c stepG_seq hR hF
    u_c stepG_seq hR hF
    u_reg hR hF
    u_op hR hF
    u_op hR hF
    u_c stepG_region_end hR hF
    u_cond true hR hF
    u_c stepG_seq hR hF
    u_cond true hR hF
    u_c stepG_seq hR hF
    u_reg hR hF

    refine Goes.stop (fun w₅ h₁ => ?_)
    replace hF := hR hF h₁
    clear h₁
    refine ⟨rfl, _, stepG_mark0 .enable (by simp) rfl rfl (by k_ne) rfl H.f_enable (x_enable_n L) (x_enable_b L) (x_enable_x L) (x_enable_f L), 20, ?_⟩
    walk_nrm
    u_c stepG_region_end hR hF
    u_reg hR hF
    u_op hR hF
    u_conv H.underlying_tWgP H.room_tWg (WgLive.cell0 hF.2).choose_spec hR hF
    refine Goes.stop (fun w₆ h₁ => ?_)
    replace hF := hR hF h₁
    clear h₁
    refine ⟨rfl, _, stepG_markAt .acquire (by simp) rfl rfl (by k_ne) rfl H.f_acquire (x_acquire_n L) (x_acquire_b L) (x_acquire_x L) (x_acquire_f L) (by simp [Act.eval, stA]), ?_⟩
    obtain ⟨mT, hT'⟩ := hT
    refine ⟨mT + 20, ?_⟩
    walk_nrm
    u_c stepG_region_end hR hF
    u_c stepG_seq hR hF
    u_c stepG_seq hR hF
    u_reg hR hF
    u_op hR hF
    u_op hR hF
    u_op hR hF
    u_op hR hF
    u_op hR hF
    u_op hR hF
    u_op hR hF
    u_op hR hF
    u_skip hR hF
    u_skip hR hF
    u_op hR hF
    u_c stepG_region_end hR hF
    u_cond false hR hF
    u_c stepG_skip hR hF
    u_c stepG_ret' hR hF
    u_leave0 H.f_wait hR hF
    exact hT' _ hF.1 hF.2
  · -- the load reads v
    obtain ⟨S, hS'⟩ : ∃ S : Int, (v : Int) * KK = S := ⟨_, rfl⟩
    have a1 : S / 4294967296 = (v : Int) := by rw [← hS']; simp only [KK]; omega
    have b1 : bits .and .u64 S 2147483648 = 0 := by rw [← hS']; have := st_flag v 0 (by omega) (by omega); simpa [KK] using this
    have b2 : bits .and .u64 S 2147483647 = 0 := by rw [← hS']; have := st_waiters v 0 (by omega) (by omega); simpa [KK] using this
    have c1 : IntKind.i32.wrap (v : Int) = (v : Int) := by rw [IntKind.wrap_i32]; omega
    have w1 : IntKind.u64.wrap (S + 1) = S + 1 := by rw [IntKind.wrap_u64, ← hS']; simp only [KK]; omega
    have q3 : decide ((v : Int) < 0) = false := decide_eq_false (by omega)
    have q4 : decide (0 < (v : Int)) = true := decide_eq_true (by omega)
    have q5 : ((v : Int) == 0) = false := by simp; omega
    have q6 : decide ((v : Int) = 0) = false := decide_eq_false (by omega)
    rw [hS'] at hw
    refine ⟨_, stepG_load_atomic (v := S) rfl rfl (by k_ne) rfl H.f_loadU64 (x_loadU64_n L) (x_loadU64_b L) (x_loadU64_x L) .u64 (x_loadU64_f L) rfl hw.cellSt, fun h0 => absurd h0 (by omega), fun _ => ⟨100, ?_⟩⟩
    clear hw
    walk_nrm
    u_op hR hF
    u_c stepG_region_end hR hF
    u_c stepG_ret' hR hF
    u_leave1 H.f_uLoad hR hF
    u_op hR hF
    u_c stepG_region_end hR hF
    u_c stepG_seq hR hF
    u_reg hR hF
    u_op hR hF
    u_op hR hF
    u_op hR hF
    u_op hR hF
    u_c stepG_region_end hR hF
    u_c stepG_seq hR hF
    u_reg hR hF
    u_op hR hF
    u_op hR hF
    u_op hR hF
    u_op hR hF
    u_c stepG_region_end hR hF
    u_c stepG_seq hR hF
    u_c stepG_seq hR hF
    u_reg hR hF
    u_op hR hF
    u_op hR hF
    u_c stepG_region_end hR hF
    u_cnd false hR hF
    u_c stepG_skip hR hF
    u_c stepG_seq hR hF
    u_reg hR hF
    u_op hR hF
    u_op hR hF
    u_op hR hF
    u_op hR hF
    u_op hR hF
    u_op hR hF
    u_call H.f_uCas (nm_uCas L) uCasFn hR hF
    u_c stepG_seq hR hF
    u_reg hR hF
    u_op hR hF
    u_c stepG_region_end hR hF
    u_c stepG_seq hR hF
    u_reg hR hF
    u_op hR hF
    u_op hR hF
    u_op hR hF
    u_op hR hF
    u_op hR hF
    refine Goes.stop (fun w₂ h₁ => ?_)
    replace hF := hR hF h₁
    clear h₁
    refine ⟨rfl, fun v' hv' hw => ⟨fun e => ?_, fun e => ?_⟩⟩
    · -- the CompareAndSwap hits
      subst e
      rw [hS'] at hw ⊢
      refine ⟨_, (stepG_cas_hit (v := S) (n := S + 1) rfl rfl (by k_ne) rfl H.f_casU64 (x_casU64_n L) (x_casU64_b L) (x_casU64_x L) .u64 (x_casU64_f L) rfl rfl rfl hw.cellSt (hw.thaw 0)).trans (by rfl), 80, ?_⟩
      replace hF : F (w₂.setCell (stA Wg) (.int .u64 (S + 1))) ∧ WgLive L.tWg Wg (w₂.setCell (stA Wg) (.int .u64 (S + 1))) := ⟨hS _ _ hF.1 hF.2, ⟨_, _, hw.setSt _⟩⟩
      clear hw
      walk_nrm
      u_op hR hF
      u_c stepG_region_end hR hF
      u_c stepG_ret' hR hF
      u_leave1 H.f_uCas hR hF
      u_c stepG_region_end hR hF
      u_cond true hR hF
      u_c stepG_seq hR hF
      u_c stepG_seq hR hF
      u_reg hR hF
      u_op hR hF
      u_op hR hF
      u_op hR hF
      u_op hR hF
      u_c stepG_region_end hR hF
      u_cond true hR hF
      u_reg hR hF
      u_op hR hF
      u_op hR hF
      u_op hR hF
      u_conv H.underlying_tPU32 H.room_tU32 (WgLive.cell1 hF.2).choose_spec hR hF
      refine Goes.stop (fun w₉ h₁ => ?_)
      replace hF := hR hF h₁
      clear h₁
      refine ⟨rfl, _, stepG_markAt .write (by simp) rfl rfl (by k_ne) rfl H.f_raceWrite (x_raceWrite_n L) (x_raceWrite_b L) (x_raceWrite_x L) (x_raceWrite_f L) (ad := ⟨Wg, 1, none⟩) (by simp [Act.eval]), 80, ?_⟩
      walk_nrm
      u_c stepG_region_end hR hF
      u_c stepG_seq hR hF
      u_reg hR hF
      u_op hR hF
      u_c stepG_region_end hR hF
      u_c stepG_seq hR hF
      u_c stepG_seq hR hF
      u_reg hR hF
      u_op hR hF
      u_op hR hF
      u_op hR hF
      u_op hR hF
      u_skip hR hF
      u_op hR hF
      u_c stepG_region_end hR hF
      u_cond false hR hF
      u_c stepG_skip hR hF
      u_c stepG_seq hR hF
      u_reg hR hF
      u_op hR hF
      u_op hR hF
      u_op hR hF
      u_op hR hF
      refine Goes.stop (fun w₃ h₁ => ?_)
      replace hF := hR hF h₁
      clear h₁
      refine ⟨rfl, rfl, fun ⟨st, hw⟩ => stepG_semacquire_wait rfl rfl rfl H.f_semacquire (x_semacquire_n L) (x_semacquire_b L) (x_semacquire_x L) (x_semacquire_f L) (by simp [Act.eval, smA]) hw.cellSm, fun hf => ?_⟩
      refine ⟨_, (stepG_semacquire (n := 1) rfl rfl (by k_ne) rfl H.f_semacquire (x_semacquire_n L) (x_semacquire_b L) (x_semacquire_x L) (x_semacquire_f L) (by simp [Act.eval, smA]) hf.cellSm (by k_ne) (hf.thaw 1)).trans (by rfl), 40, ?_⟩
      replace hF : F (w₃.setCell (smA Wg) (.int .u32 0)) ∧ WgLive L.tWg Wg (w₃.setCell (smA Wg) (.int .u32 0)) := ⟨hS2 _ _ hF.1 hF.2, ⟨_, _, hf.setSm 0⟩⟩
      clear hf
      walk_nrm
      u_c stepG_region_end hR hF
      u_c stepG_seq hR hF
      u_reg hR hF
      u_op hR hF
      u_op hR hF
      u_op hR hF
      u_call H.f_uLoad (nm_uLoad L) uLoadFn hR hF
      u_c stepG_seq hR hF
      u_reg hR hF
      u_op hR hF
      u_c stepG_region_end hR hF
      u_c stepG_seq hR hF
      u_reg hR hF
      u_op hR hF
      u_op hR hF
      u_op hR hF
      refine Goes.stop (fun w₄ h₁ => ?_)
      replace hF := hR hF h₁
      clear h₁
      refine ⟨rfl, fun hw => ⟨_, stepG_load_atomic (v := 0) rfl rfl (by k_ne) rfl H.f_loadU64 (x_loadU64_n L) (x_loadU64_b L) (x_loadU64_x L) .u64 (x_loadU64_f L) rfl hw.cellSt, 50, ?_⟩⟩
      clear hw
      walk_nrm
      u_op hR hF
      u_c stepG_region_end hR hF
      u_c stepG_ret' hR hF
      u_leave1 H.f_uLoad hR hF
      u_op hR hF
      u_op hR hF
      u_c stepG_region_end hR hF
      u_c stepG_seq hR hF
      u_cond true hR hF
      u_c stepG_seq hR hF
      u_reg hR hF

      refine Goes.stop (fun w₅ h₁ => ?_)
      replace hF := hR hF h₁
      clear h₁
      refine ⟨rfl, _, stepG_mark0 .enable (by simp) rfl rfl (by k_ne) rfl H.f_enable (x_enable_n L) (x_enable_b L) (x_enable_x L) (x_enable_f L), 20, ?_⟩
      walk_nrm
      u_c stepG_region_end hR hF
      u_reg hR hF
      u_op hR hF
      u_conv H.underlying_tWgP H.room_tWg (WgLive.cell0 hF.2).choose_spec hR hF
      refine Goes.stop (fun w₆ h₁ => ?_)
      replace hF := hR hF h₁
      clear h₁
      refine ⟨rfl, _, stepG_markAt .acquire (by simp) rfl rfl (by k_ne) rfl H.f_acquire (x_acquire_n L) (x_acquire_b L) (x_acquire_x L) (x_acquire_f L) (by simp [Act.eval, stA]), ?_⟩
      obtain ⟨mT, hT'⟩ := hT
      refine ⟨mT + 10, ?_⟩
      walk_nrm
      u_c stepG_region_end hR hF
      u_c stepG_seq hR hF
      u_c stepG_seq hR hF
      u_reg hR hF
      u_op hR hF
      u_c stepG_region_end hR hF
      u_cond false hR hF
      u_c stepG_skip hR hF
      u_c stepG_ret' hR hF
      u_leave0 H.f_wait hR hF
      exact hT' _ hF.1 hF.2
    · -- it misses: back to the loop's head
      refine ⟨_, stepG_cas_miss (v := (v' : Int) * KK) (old := S) (n := S + 1) rfl rfl (by k_ne) rfl H.f_casU64 (x_casU64_n L) (x_casU64_b L) (x_casU64_x L) .u64 (x_casU64_f L) rfl rfl rfl hw.cellSt (hw.thaw 0) (by rw [← hS']; simp only [KK]; omega), 30, ?_⟩
      clear hw
      walk_nrm
      u_op hR hF
      u_c stepG_region_end hR hF
      u_c stepG_ret' hR hF
      u_leave1 H.f_uCas hR hF
      u_c stepG_region_end hR hF
      u_cond false hR hF
      u_c stepG_skip hR hF
      u_c stepG_inBlock hR hF
      u_c stepG_inLoop hR hF
      refine Goes.stop (fun w₃ h₃ => ?_)
      replace hF := hR hF h₃
      exact ⟨_, rfl, by simp, by simp, hF⟩

set_option maxRecDepth 100000 in
theorem waitStartM {P : Program} (H : WgLib P L) (hR : ∀ {w w₁ : World}, F w ∧ WgLive L.tWg Wg w → R w w₁ → F w₁ ∧ WgLive L.tWg Wg w₁) (w : World) (hF : F w ∧ WgLive L.tWg Wg w) :
    Goes P true R DC0 (MWd P R (AnchM L F Wg (b₀.at a₀ (.inRegion ops₀ (i₀ :: rest₀) :: k₀)) cs)) 10
      (G ((base L.wait).at ⟨#[.pointer (some ⟨Wg, 0, none⟩), undef, undef, undef, undef, undef, undef, undef, undef, undef, undef, undef, undef, undef, undef, undef, undef, undef, undef, undef, undef, undef, undef, undef, undef, undef, undef, undef, undef, undef, undef, undef, undef, undef, undef, undef, undef, undef, undef, undef, undef, undef, undef, undef, undef, undef, undef, undef, undef, undef, undef, undef, undef, undef, undef, undef, undef, undef, undef, undef, undef, undef, undef, undef, undef, undef, undef, undef, undef, undef, undef, undef, undef, undef, undef, undef, undef, undef, undef, undef, undef, undef, undef, undef], []⟩ [.code (body_wait L)]) (b₀.at a₀ (.inRegion ops₀ (i₀ :: rest₀) :: k₀) :: cs)) w := by
  lib_facts
  simp only [body_wait, waitFn, Option.getD_some]
  u_c stepG_seq hR hF
  u_cond true hR hF
  u_reg hR hF
  refine Goes.stop (fun w₁ h₁ => ?_)
  replace hF := hR hF h₁
  clear h₁
  refine ⟨rfl, _, stepG_mark0 .disable (by simp) rfl rfl (by k_ne) rfl H.f_disable (x_disable_n L) (x_disable_b L) (x_disable_x L) (x_disable_f L), 10, ?_⟩
  walk_nrm
  u_c stepG_region_end hR hF
  u_c stepG_block hR hF
  u_c stepG_loop hR hF
  exact Goes.stop (fun w₂ h₂ => ⟨_, rfl, by simp, by simp, hR hF h₂⟩)
end
end Go.Par
namespace Go.Par
open Go.Conc Go.ConcN

section
variable {P : Program} {n Wg : Nat} {m : Machine} {t : Trace} {Q Q' : Goroutine → World → Prop} {Stop : (Nat → Prop) → Goroutine → World → Prop}

/-- What main may call its own. -/
def OwJ (Wg : Nat) (own : Nat → Prop) (w : World) : Prop := ∀ b, own b → b < w.heap.size ∧ b ≠ Wg

theorem dl_evX {own : Nat → Prop} {w w' : World} {es : Array Event} {base : Nat} (h : DL (fun b => b < base ∧ b ≠ Wg) own w w' es) (ho : OwJ Wg own w) (hb : base ≤ w.heap.size) (hW : Wg < w.heap.size) : ∀ e ∈ es, EvX (ShN Wg) w'.heap.size e := by
  intro e he
  have hsz := h.size
  have key : ∀ b, (More own w w' b ∨ (b < base ∧ b ≠ Wg)) → b < w'.heap.size ∧ b ≠ Wg := by
    rintro b ((hb' | hb') | hb')
    · have := ho b hb'; omega
    · exact ⟨hb'.2, by omega⟩
    · exact ⟨by omega, hb'.2⟩
  rcases h.evs e he with ⟨a, wr, rfl, h1⟩ | ⟨r, rfl, h1⟩ | rfl
  · obtain ⟨h2, h3⟩ := key a.block (h1.imp id fun h => h.1)
    refine ⟨fun x hx => ?_, by simp, by simp⟩
    simp only [MemAct.ofEvent, MemAct.touch?, Bool.false_eq_true, if_false, Option.some.injEq] at hx
    subst hx
    exact ⟨fun ⟨y, hy, hyb⟩ => by cases hy; exact absurd hyb h3, h2⟩
  · obtain ⟨h2, h3⟩ := key r (h1.imp id fun h => h)
    refine ⟨fun x hx => ?_, by simp, by simp⟩
    simp only [MemAct.ofEvent, MemAct.touch?, Bool.false_eq_true, if_false, Option.some.injEq] at hx
    subst hx
    exact ⟨fun ⟨y, hy, hyb⟩ => (by cases hy), h2⟩
  · refine ⟨fun x hx => ?_, by simp, by simp⟩
    simp [MemAct.ofEvent, MemAct.touch?] at hx

theorem walkJ (h : BSt P (ShN Wg) n Q m t) (hQ : ∀ g w, Q g w → Wg < w.heap.size ∧ ∃ own, OwJ Wg own w ∧ ∃ tr, GoesO P true AtRel (DL fun b => b < w.heap.size ∧ b ≠ Wg) Stop tr own g w) :
    Leads P (BSt P (ShN Wg) n fun g w => ∃ own, OwJ Wg own w ∧ Stop own g w) m t := by
  obtain ⟨gs, a, w, sl, q, rfl, h1, h2, h3, h4, hq⟩ := h
  obtain ⟨hW, own, ho, tr, hg⟩ := hQ a w hq
  refine (walkX (P := P) (n := n) (D := DL fun b => b < w.heap.size ∧ b ≠ Wg) (OK := fun own w' => OwJ Wg own w' ∧ w.heap.size ≤ w'.heap.size) (Stop := Stop) (fun own w' d h => h) ?_ (m := crowd gs w sl) (t := t) ⟨gs, a, w, sl, q, rfl, h1, h2, h3, h4, own, ⟨ho, Nat.le_refl _⟩, tr, hg⟩).trans fun m t ⟨gs, a, w, sl, q, e, h1, h2, h3, h4, own, hO, hs⟩ => .refl ⟨gs, a, w, sl, q, e, h1, h2, h3, h4, own, hO.1, hs⟩
  intro own w1 w2 es ⟨hO, hz⟩ hD
  have hsz := hD.size
  refine ⟨hsz, ⟨fun b hb => ?_, Nat.le_trans hz hsz⟩, dl_evX hD hO hz (Nat.lt_of_lt_of_le hW hz)⟩
  rcases hb with hb | hb
  · have := hO b hb; omega
  · exact ⟨hb.2, by omega⟩

theorem stepX {Shun : Loc → Prop} (h : BSt P Shun n Q m t) (hst : ∀ g w, Q g w → g.status = .running ∧ ∀ d, ∃ g' w' es, stepG P true g (w.at d) = .go g' w' es ∧ w.heap.size ≤ w'.heap.size ∧ (∀ e ∈ es, EvX Shun w'.heap.size e) ∧ ∀ d', Q' g' (w'.at d')) : Leads P (BSt P Shun n Q') m t := by
  refine (walkX (P := P) (n := n) (D := fun _ w w' es => w.heap.size ≤ w'.heap.size ∧ ∀ e ∈ es, EvX Shun w'.heap.size e) (OK := fun _ _ => True) (Stop := fun _ g w => Q' g w) (fun _ _ _ _ => trivial) (fun _ _ _ _ _ h => ⟨h.1, trivial, h.2⟩) (m := m) (t := t) ?_).trans fun m t ⟨gs, a, w, sl, q, e, h1, h2, h3, h4, own, _, hs⟩ => .refl ⟨gs, a, w, sl, q, e, h1, h2, h3, h4, hs⟩
  obtain ⟨gs, a, w, sl, q, rfl, h1, h2, h3, h4, hq⟩ := h
  obtain ⟨hr, hgo⟩ := hst a w hq
  refine ⟨gs, a, w, sl, q, rfl, h1, h2, h3, h4, fun _ => False, trivial, GoesO.step hr fun w₁ hr1 => ?_⟩
  obtain ⟨d, rfl⟩ := hr1.st
  obtain ⟨g', w', es, e1, e2, e3, e4⟩ := hgo d
  exact ⟨g', w', es, e1, ⟨e2, e3⟩, .leaf, fun w₂ hr2 => by obtain ⟨d', rfl⟩ := hr2.st; exact e4 d'⟩

/-- One goroutine alone: nobody beside it. -/
theorem bst_of_lst {X : Nat → Prop} (h : LSt X Q m t) : BSt P (fun _ => False) 1 Q m t := by
  obtain ⟨a, w, sl, rfl, hT, hq⟩ := h
  refine ⟨#[a], a, w, sl, fun _ => 0, rfl, rfl, rfl, ⟨fun i g hi hg => ?_, fun i hi => ?_⟩, ?_, hq⟩
  · have := (Array.getElem?_eq_some_iff.1 hg).1
    simp at this; omega
  · have hi' : 1 ≤ i := hi
    have := Deaf_other #[] (g := i) (g' := 0) (by omega) t (fun op hop => (hT op hop).1)
    rw [Array.empty_append] at this
    rw [this]; rfl
  · have := PastX.app0 (Shun := fun _ => False) (B := w.heap.size) (t := #[]) (u := t) pastX_nil (fun op hop => (hT op hop).1) (fun op hop b hb => ⟨fun h => h.elim, ((hT op hop).2.1 b hb).1⟩) (by
      have := Deaf_still #[] 0 t fun op hop => ⟨(hT op hop).2.2.1, (hT op hop).2.2.2.1⟩
      rw [this]; rfl)
    rwa [Array.empty_append] at this

/-- Blocks below B stand, where a walk's own lie above. -/
theorem GoesO.keepB {B : Nat} {w0 : World} {RO : Nat → Prop} {mm : Bool} {tr : T} : ∀ {own : Nat → Prop} {g : Goroutine} {w : World}, GoesO P mm AtRel (DL RO) Stop tr own g w → (∀ b, own b → B ≤ b) → B ≤ w.heap.size → (∀ b, b < B → w.heap[b]? = w0.heap[b]?) → Std w0 w →
    GoesO P mm AtRel (DL RO) (fun own g w => Stop own g w ∧ B ≤ w.heap.size ∧ (∀ b, b < B → w.heap[b]? = w0.heap[b]?) ∧ Std w0 w) tr own g w := by
  induction tr with
  | leaf => exact fun h ho hB hk hs w₁ hr => ⟨h w₁ hr, by obtain ⟨d, rfl⟩ := hr.st; exact ⟨hB, hk, hs.tape, hs.os, hs.output⟩⟩
  | node f ih =>
    intro own g w h ho hB hk hs
    rcases h with h | ⟨hr0, h⟩
    · exact .inl fun w₁ hr => ⟨h w₁ hr, by obtain ⟨d, rfl⟩ := hr.st; exact ⟨hB, hk, hs.tape, hs.os, hs.output⟩⟩
    · refine .inr ⟨hr0, fun w₁ hr => ?_⟩
      obtain ⟨g', w', es, h1, h2, h3⟩ := h w₁ hr
      have key : B ≤ w₁.heap.size ∧ (∀ b, b < B → w₁.heap[b]? = w0.heap[b]?) ∧ Std w0 w₁ := by obtain ⟨d, rfl⟩ := hr.st; exact ⟨hB, hk, hs.tape, hs.os, hs.output⟩
      obtain ⟨k1, k2, k3⟩ := key
      refine ⟨g', w', es, h1, h2, ih w₁ h3 (fun b hb => ?_) (Nat.le_trans k1 h2.size) (fun b hb => (h2.aside b (by omega) fun hb' => by have := ho b hb'; omega).trans (k2 b hb)) ⟨h2.tape.trans k3.tape, h2.os.trans k3.os, h2.output.trans k3.output⟩⟩
      rcases hb with hb | hb
      · exact ho b hb
      · omega

theorem dl_evA {X RO own : Nat → Prop} {w w' : World} {es : Array Event} (h : DL RO own w w' es) (ho : ∀ b, own b → b < w.heap.size ∧ ¬ X b) (hR : ∀ b, RO b → b < w.heap.size ∧ ¬ X b) (hX : ∀ b, X b → b < w.heap.size) : ∀ e ∈ es, EvA X w'.heap.size e := by
  intro e he
  have hsz := h.size
  have key : ∀ b, (More own w w' b ∨ RO b) → b < w'.heap.size ∧ ¬ X b := by
    rintro b ((hb' | hb') | hb')
    · have := ho b hb'; exact ⟨by omega, this.2⟩
    · exact ⟨hb'.2, fun hx => by have := hX b hx; omega⟩
    · have := hR b hb'; exact ⟨by omega, this.2⟩
  rcases h.evs e he with ⟨a, wr, rfl, h1⟩ | ⟨r, rfl, h1⟩ | rfl
  · obtain ⟨h2, h3⟩ := key a.block (h1.imp id fun h => h.1)
    refine ⟨fun x hx => ?_, by simp, by simp, by simp⟩
    simp only [MemAct.ofEvent, MemAct.touch?, Bool.false_eq_true, if_false, Option.some.injEq] at hx
    subst hx
    exact ⟨h2, rfl, fun b hb => by simp only [blk, Option.some.injEq] at hb; exact hb ▸ h3⟩
  · obtain ⟨h2, h3⟩ := key r (h1.imp id fun h => h)
    refine ⟨fun x hx => ?_, by simp, by simp, by simp⟩
    simp only [MemAct.ofEvent, MemAct.touch?, Bool.false_eq_true, if_false, Option.some.injEq] at hx
    subst hx
    exact ⟨h2, rfl, fun b hb => by simp only [blk, Option.some.injEq] at hb; exact hb ▸ h3⟩
  · refine ⟨fun x hx => ?_, by simp, by simp, by simp⟩
    simp [MemAct.ofEvent, MemAct.touch?] at hx

/-- Goroutine 0 alone walks; X: blocks that it doesn't touch. -/
theorem walkA {X : Nat → Prop} {B : Nat} {w0 : World} {g0 : Goroutine} {own : Nat → Prop} (hX : ∀ b, X b → b < w0.heap.size) (hB : B ≤ w0.heap.size) (hBX : ∀ b, b < B → ¬ X b) (ho : ∀ b, own b → b < w0.heap.size ∧ ¬ X b) (hg : ∃ tr, GoesO P true AtRel (DL fun b => b < B) Stop tr own g0 w0) (h : LSt X (fun g w => g = g0 ∧ w = w0) m t) :
    Leads P (LSt X fun g w => ∃ own, (∀ b, own b → b < w.heap.size ∧ ¬ X b) ∧ w0.heap.size ≤ w.heap.size ∧ Stop own g w) m t := by
  obtain ⟨tr, hg⟩ := hg
  refine (walkL (P := P) (X := X) (D := DL fun b => b < B) (OK := fun own w => (∀ b, own b → b < w.heap.size ∧ ¬ X b) ∧ w0.heap.size ≤ w.heap.size) (Stop := Stop) (fun own w d h => h) (fun own w w' es hO hD => ⟨hD.size, ⟨fun b hb => ?_, Nat.le_trans hO.2 hD.size⟩, dl_evA hD hO.1 (fun b hb => ⟨by have := hO.2; omega, hBX b hb⟩) fun b hb => Nat.lt_of_lt_of_le (hX b hb) hO.2⟩) tr own ?_).trans fun m t ⟨a, w, sl, e, hT, own, hO, hs⟩ => .refl ⟨a, w, sl, e, hT, own, hO.1, hO.2, hs⟩
  · have hsz := hD.size
    rcases hb with hb | hb
    · have := hO.1 b hb; exact ⟨by omega, this.2⟩
    · exact ⟨hb.2, fun hx => by have := hX b hx; have := hO.2; omega⟩
  · obtain ⟨a, w, sl, e, hT, rfl, rfl⟩ := h
    exact ⟨a, w, sl, e, hT, ⟨ho, Nat.le_refl _⟩, hg⟩
end
end Go.Par
namespace Go.Par
open Go.Conc Go.ConcN

section
variable {L : FuncId → Prop} {ρ : Rn}
/-- A fellow for whatever value; a number is its own. -/
theorem VR.some_ : ∀ v' : Value, ∃ v, VR L ρ v v' ∧ ∀ k n, v' = .int k n → v = .int k n
  | .bool b => ⟨_, .bool b, fun _ _ h => h⟩
  | .int k n => ⟨_, .int k n, fun _ _ h => h⟩
  | .agg x => by
    have h : ∀ i : Nat, ∃ v, ∀ b, x[i]? = some b → VR L ρ v b := fun i => by
      cases e : x[i]? with
      | none => exact ⟨undef, fun b hb => by cases hb⟩
      | some b =>
        have : SizeOf.sizeOf b < SizeOf.sizeOf x := Array.sizeOf_lt_of_mem (Array.mem_of_getElem? e)
        obtain ⟨v, hv, _⟩ := VR.some_ b
        exact ⟨v, fun c hc => by cases hc; exact hv⟩
    refine ⟨.agg ((Array.range x.size).map fun i => Classical.choose (h i)), .agg (by simp) fun i a b ha hb => ?_, fun k n e => by cases e⟩
    simp only [Array.getElem?_map] at ha
    obtain ⟨j, hj, rfl⟩ := Option.map_eq_some_iff.1 ha
    have hji : j = i := by
      rw [Array.getElem?_eq_some_iff] at hj
      obtain ⟨h1, h2⟩ := hj
      simpa using h2.symm
    subst hji
    exact Classical.choose_spec (h j) b hb
  | .tuple x => by
    have h : ∀ i : Nat, ∃ v, ∀ b, x[i]? = some b → VR L ρ v b := fun i => by
      cases e : x[i]? with
      | none => exact ⟨undef, fun b hb => by cases hb⟩
      | some b =>
        have : SizeOf.sizeOf b < SizeOf.sizeOf x := Array.sizeOf_lt_of_mem (Array.mem_of_getElem? e)
        obtain ⟨v, hv, _⟩ := VR.some_ b
        exact ⟨v, fun c hc => by cases hc; exact hv⟩
    refine ⟨.tuple ((Array.range x.size).map fun i => Classical.choose (h i)), .tuple (by simp) fun i a b ha hb => ?_, fun k n e => by cases e⟩
    simp only [Array.getElem?_map] at ha
    obtain ⟨j, hj, rfl⟩ := Option.map_eq_some_iff.1 ha
    have hji : j = i := by
      rw [Array.getElem?_eq_some_iff] at hj
      obtain ⟨h1, h2⟩ := hj
      simpa using h2.symm
    subst hji
    exact Classical.choose_spec (h j) b hb
  | .pointer none => ⟨_, .ptr0, fun k n e => by cases e⟩
  | .nilFunc => ⟨_, .nilFunc, fun k n e => by cases e⟩
  | .nilIface => ⟨_, .nilIface, fun k n e => by cases e⟩
  | .func fn x y => ⟨_, .func0 fn x y, fun k n e => by cases e⟩
  | .string _ | .float _ _ | .complex _ _ _ | .pointer (some _) | .slice _ _ _ | .iface _ _ | .map _ | .chan _ => ⟨undef, .junk rfl rfl, fun k n e => by cases e⟩
end
end Go.Par
namespace Go.Par
open Go.Conc Go.ConcN

section
variable {P : Program} {L : FuncId → Prop} {LB : FuncId → Bool} {RO : Nat → Prop} {S : World → World → Prop}

theorem run_tail {ops : Array Oper} {l : List Nat} {r : Code} {Q : Exit → Act → World → Prop} (b : Frame) (cs : List Frame) (a : Act) (w : World) (h : wpOps P ops (Exit.then (r.wp P fun e a w => e = .ret ∧ Q e a w) fun e a w => e = .ret ∧ Q e a w) l a w) :
    ∃ a' w', Q .ret a' w' ∧ ∃ todo, Steps P (lone (b.at a [.inRegion ops l, .code r]) cs w) (lone { b.at a' todo with mode := .returning } cs w') := by
  obtain ⟨e, a1, w1, hq, har⟩ := wp_ops l a w h b [.code r] cs
  cases e with
  | normal =>
    obtain ⟨e, a2, w2, hq2, har2⟩ := hq b [] cs
    obtain ⟨rfl, hq2⟩ := hq2
    obtain ⟨todo, hr⟩ := har2
    exact ⟨a2, w2, hq2, todo, Steps.trans har hr⟩
  | ret =>
    obtain ⟨todo, hr⟩ := har
    exact ⟨a1, w1, hq.2, todo, hr⟩
  | _ => exact absurd hq.1 (by simp)

theorem comes_of_tail {ops : Array Oper} {l : List Nat} {r : Code} {b : Frame} {T : Array Value} {A0 : World} {Post : Act → World → Prop}
    (hcon : ∀ t, wpOps P ops (Exit.then (r.wp P fun e a w => e = .ret ∧ a.defers = [] ∧ Post a w) fun e a w => e = .ret ∧ a.defers = [] ∧ Post a w) l ⟨T, []⟩ (re A0 t)) :
    Comes1 P QRet (b.at ⟨T, []⟩ [.inRegion ops l, .code r]) A0 (fun fr w => ∃ a, Post a w ∧ fr.fn = b.fn ∧ fr.tmps = a.tmps) := by
  intro t
  obtain ⟨a, w', ⟨hd, hp⟩, todo, n, hn⟩ := run_tail (Q := fun _ a w => a.defers = [] ∧ Post a w) b [c0 P] _ _ (hcon t)
  refine ⟨n, _, w', hn, rfl, ⟨a, hp, rfl, rfl⟩, fun j hj fr w hr hd hk hro hb hq => ?_⟩
  obtain ⟨k, rfl⟩ := Nat.exists_eq_add_of_lt hj
  have h1 := runN_split (n := k + 1) hr hn
  obtain ⟨ch, hch⟩ := lost_behind hq hd hk hb h1
  cases hch

theorem wpOps_drop {ops : Array Oper} {Q : Exit → Act → World → Prop} {a : Act} {w : World} (k : Nat) {l : List Nat} (hl : l = List.range' k (ops.toList.drop k).length) (h : wpList P ops Q (ops.toList.drop k) a w) : wpOps P ops Q l a w := by
  rw [hl, wpOps_eq_wpList (ops.toList.drop k) k (fun j => by simp)]
  exact h

/-- WHAT IS LEFT OF A REGION, and the statement behind it, on to a return. -/
theorem lift_tail (HC : Closed P L LB) (mb : Bool) (hRO : ∀ w w₁, S w w₁ → ∀ b, RO b → w₁.heap[b]? = w.heap[b]?) {ops : Array Oper} {l : List Nat} {r : Code} (hc1 : okItem P LB (.inRegion ops l) = true) (hc2 : okCode P LB r = true) {fn : FuncId} (hfn : ∃ g, P.funcs[fn]? = some g) {T T' : Array Value} {ρ0 : Rn} {A0 B0 : World}
    (hW : WR L RO P.globals.size ρ0 A0 B0) (hG : P.globals.size ≤ A0.heap.size ∧ P.globals.size ≤ B0.heap.size) (hT : AR L ρ0 T T') {Post : Act → World → Prop}
    (hcon : ∀ t, wpOps P ops (Exit.then (r.wp P fun e a w => e = .ret ∧ a.defers = [] ∧ Post a w) fun e a w => e = .ret ∧ a.defers = [] ∧ Post a w) l ⟨T, []⟩ (re A0 t)) (cs' : List Frame) :
    ∃ t, GoesO P mb S (DL RO) (SegEnd P L RO ⟨[], [], .normal, none⟩ fn cs' ρ0 A0 B0 (fun e a w => e = .ret ∧ Post a w)) t (fun b => (∃ a, ρ0 a b) ∧ ¬ RO b) (G ⟨fn, T', [.inRegion ops l, .code r], [], .run, .normal, none⟩ cs') B0 := by
  obtain ⟨t, ht⟩ := lift (LB := LB) (kx := ⟨[], [], .normal, none⟩) (str := true) (RO := RO) (S := S) (b' := cs') HC mb QRet.halts (fun h => by cases h) hRO (comes_of_tail (b := { (default : Frame) with fn := fn, kind := .normal }) hcon)
    (s0 := ⟨⟨fn, T, [.inRegion ops l, .code r], [], .run, .normal, none⟩, [c0 P], A0, ⟨fn, T', [.inRegion ops l, .code r], [], .run, .normal, none⟩, cs', B0, ρ0⟩)
    ⟨hW, hG, ⟨true, ⟨rfl, .true_, (fun it hit => by
      simp only [List.mem_cons, List.not_mem_nil, or_false] at hit
      rcases hit with rfl | rfl
      · exact hc1
      · exact hc2), hT, rfl, rfl, rfl, .inl rfl, rfl, rfl, by simp, rfl, rfl, hfn⟩, .inl rfl, fun _ => rfl⟩, .nil⟩ rfl rfl rfl rfl
  refine ⟨t, ht.mono (fun _ _ _ _ h => h) fun own g w hstop => ?_⟩
  obtain ⟨f, f', wA, ρ, st, rfl, hq, ⟨a, hp, hfe, hta⟩, hfr, rfl, hW1, hown, hle, hnew, hGa, hGb⟩ := hstop
  obtain ⟨fnB, TB, todoB, dB, mB, kB, rB⟩ := f'
  have h0 := hfr.fn
  have h2 := hfr.mode
  have h3 := hfr.def2
  have h4 := hfr.kind2
  have h5 := hfr.round2
  have h6 := hfr.tmps
  simp only at h0 h2 h3 h4 h5 h6 hfe
  have e0 : fnB = fn := h0.symm.trans hfe
  have e3 : dB = [] := h3
  have e4 : kB = .normal := h4
  subst e0 e3 e4 h5
  rw [hta] at h6
  exact ⟨.ret, a, TB, wA, ρ, ⟨rfl, hp⟩, h6, .inr ⟨rfl, todoB, mB, .inl (h2.symm.trans hq), rfl⟩, ⟨wA.tape, hW1⟩, hown, hle, hnew, hGa, hGb⟩
end

section
variable {P : Program} {m : Bool} {S : World → World → Prop} {RO : Nat → Prop} {Stop : (Nat → Prop) → Goroutine → World → Prop} {own : Nat → Prop} {w : World}

theorem ctl_ {g g' : Goroutine} (hS : Tr S) (hs : g.status = .running) (hg : ∀ w, stepG P m g w = .go g' w) (h : ∀ w₁, Ry S own w w₁ → ∃ t, GoesO P m S (DL RO) Stop t own g' w₁) : ∃ t, GoesO P m S (DL RO) Stop t own g w :=
  GoesO.ctl hs fun w₁ hr => by
    rw [hg w₁]
    exact ⟨rfl, rfl, h w₁ hr⟩

def mvO (s d : Nat) (o : Oper) : Prop := o.op = .move (.tmp s) ∧ o.dst = some d ∧ o.guard = none
/-- A move between slots. -/
theorem W_move {b : Frame} {a : Act} {k : List Item} {cs : List Frame} {ops : Array Oper} {i : Nat} {rest : List Nat} {o : Oper} {s d : Nat} (ho : ops[i]? = some o) (hm : mvO s d o) (hb : b.kind ≠ .early)
    (h : ∀ w₁, Ry S own w w₁ → ∃ t, GoesO P m S (DL RO) Stop t own (G (b.at (a.put (some d) (a.tmps.getD s undef)) (.inRegion ops rest :: k)) cs) w₁) : ∃ t, GoesO P m S (DL RO) Stop t own (G (b.at a (.inRegion ops (i :: rest) :: k)) cs) w := by
  obtain ⟨h1, h2, h3⟩ := hm
  have hw : Region.wanted o (yielded ops a.tmps) = true := by simp [Region.wanted, h3]
  have hr : ∀ w, (execOp a.eval o).run P w = .ok (.value (a.tmps.getD s undef)) w := fun w => by simp [execOp, h1, go_sem]
  have hl : ∀ w, listed P b.fn a o w = #[] := fun w => listed_nil (by simp [execOp, h1, go_sem])
  refine GoesO.any rfl fun w₁ hr1 => ?_
  refine goes_oper_k ho hw hb fun K hK => ?_
  rw [hr w₁]
  refine hK _ _ ⟨by rw [hl]; exact DL.refl _ _ _, ?_⟩
  rw [more_same rfl, h2]
  exact h w₁ hr1

/-- From a region that calls, to the call's entry. -/
theorem W_call2 {b : Frame} {T : Array Value} {k : List Item} {cs : List Frame} {id : Nat} {ops : Array Oper} {rest : Code} {l : List Nat} {o0 o1 o2 : Oper} {s0 d0 s1 d1 d2 : Nat} {f : FuncId} {fn : Func} {ats : Array TypeId} (hl : List.range ops.size = 0 :: 1 :: 2 :: l)
    (h0 : ops[0]? = some o0) (h1 : ops[1]? = some o1) (h2 : ops[2]? = some o2) (m0 : mvO s0 d0 o0) (m1 : mvO s1 d1 o1) (hop : o2.op = .call { callee := .value (.func f), args := #[.tmp d0, .tmp d1], argTypes := ats }) (hd2 : o2.dst = some d2) (hg2 : o2.guard = none)
    (hf : P.funcs[f]? = some fn) (hname : (fn.name == "runtime.NumGoroutine") = false) (hbn : fn.body.isNone = false) (hb : b.kind ≠ .early) (hS : Tr S) {x y : Value} (hx : T[s0]? = some x) (hy : T[s1]? = some y) (hd : d0 < T.size ∧ d1 < T.size ∧ d0 ≠ d1 ∧ s1 ≠ d0)
    (h : ∀ w₁, Ry S own w w₁ → ∃ t, GoesO P m S (DL RO) Stop t own (G (Frame.enter P f #[x, y] .normal) (b.at ⟨(T.setIfInBounds d0 x).setIfInBounds d1 y, []⟩ (.inRegion ops (2 :: l) :: .code rest :: k) :: cs)) w₁) :
    ∃ t, GoesO P m S (DL RO) Stop t own (G (b.at ⟨T, []⟩ (.code (.seq (.region id ops false) rest) :: k)) cs) w := by
  have ex : T.getD s0 undef = x := by simp [Array.getD_eq_getD_getElem?, hx]
  have ey : (T.setIfInBounds d0 x).getD s1 undef = y := by
    rw [Array.getD_eq_getD_getElem?, Array.getElem?_setIfInBounds_ne (Ne.symm hd.2.2.2), hy]; rfl
  refine ctl_ hS rfl (g' := G (b.at ⟨T, []⟩ (.code (.region id ops false) :: .code rest :: k)) cs) (fun w => by rw [stepG_seq]) fun w1 r1 => ?_
  refine ctl_ hS rfl (g' := G (b.at ⟨T, []⟩ (.inRegion ops (0 :: 1 :: 2 :: l) :: .code rest :: k)) cs) (fun w => by rw [stepG_region, hl]) fun w2 r2 => ?_
  refine W_move h0 m0 hb fun w3 r3 => ?_
  rw [show (⟨T, []⟩ : Act).tmps = T from rfl, ex]
  refine W_move h1 m1 hb fun w4 r4 => ?_
  have r4' := Ry.trans hS r1 (Ry.trans hS r2 (Ry.trans hS r3 r4))
  have ep : (⟨T, []⟩ : Act).put (some d0) x = ⟨T.setIfInBounds d0 x, []⟩ := rfl
  rw [ep, show (⟨T.setIfInBounds d0 x, []⟩ : Act).tmps = T.setIfInBounds d0 x from rfl, ey]
  have ep2 : (⟨T.setIfInBounds d0 x, []⟩ : Act).put (some d1) y = ⟨(T.setIfInBounds d0 x).setIfInBounds d1 y, []⟩ := rfl
  rw [ep2]
  refine GoesO.any rfl fun w5 r5 => ?_
  have hw : Region.wanted o2 (yielded ops ((T.setIfInBounds d0 x).setIfInBounds d1 y)) = true := by simp [Region.wanted, hg2]
  rw [stepG_enter (a := ⟨(T.setIfInBounds d0 x).setIfInBounds d1 y, []⟩) (b := b) (k := .code rest :: k) (rest := l) (f := f) (w' := w5) (args := (#[Operand.tmp d0, Operand.tmp d1]).map (Act.eval ⟨(T.setIfInBounds d0 x).setIfInBounds d1 y, []⟩)) h2 hw hb (run_call_body (a := ⟨(T.setIfInBounds d0 x).setIfInBounds d1 y, []⟩) hop hf hname hbn)]
  rw [listed_nil (events_call_body (a := ⟨(T.setIfInBounds d0 x).setIfInBounds d1 y, []⟩) hop hf hname hbn #[])]
  simp only [goes_go]
  refine ⟨DL.refl _ _ _, ?_⟩
  rw [more_same rfl]
  have ea : (#[Operand.tmp d0, Operand.tmp d1]).map (Act.eval ⟨(T.setIfInBounds d0 x).setIfInBounds d1 y, []⟩) = #[x, y] := by
    have e0 : ((T.setIfInBounds d0 x).setIfInBounds d1 y)[d0]? = some x := by
      rw [Array.getElem?_setIfInBounds_ne (Ne.symm hd.2.2.1), Array.getElem?_setIfInBounds_self_of_lt hd.1]
    have e1 : ((T.setIfInBounds d0 x).setIfInBounds d1 y)[d1]? = some y := by
      rw [Array.getElem?_setIfInBounds_self_of_lt (by simpa using hd.2.1)]
    simp [Act.eval, Array.getD_eq_getD_getElem?, e0, e1]
  rw [ea]
  exact h w5 (Ry.trans hS r4' r5)

theorem finish_call {b : Frame} {T : Array Value} {k : List Item} {ops : Array Oper} {i : Nat} {l : List Nat} {o : Oper} {d : Nat} (ho : ops[i]? = some o) (hd : o.dst = some d) (v : Value) :
    (b.at ⟨T, []⟩ (.inRegion ops (i :: l) :: k)).finish v = b.at ⟨T.setIfInBounds d v, []⟩ (.inRegion ops l :: k) := by
  rw [Frame.finish_at, ho, Option.bind_some, hd]
  rfl

/-- Out of a frame with two results. -/
theorem W_ret2 {fnI : FuncId} {fn : Func} {T : Array Value} {todo : List Item} {c : Frame} {cs : List Frame} {t u : Nat} (hf : P.funcs[fnI]? = some fn) (hr : fn.results = #[.tmp t, .tmp u]) {x y : Value} (hx : T[t]? = some x) (hy : T[u]? = some y)
    (h : ∀ w₁, Ry S own w w₁ → ∃ tr, GoesO P m S (DL RO) Stop tr own (G (c.finish (.tuple #[x, y])) cs) w₁) :
    ∃ tr, GoesO P m S (DL RO) Stop tr own (G ⟨fnI, T, todo, [], .returning, .normal, none⟩ (c :: cs)) w := by
  refine GoesO.ctl rfl fun w₁ hr1 => ?_
  have := stepG_leave (P := P) (main := m) (b := { (default : Frame) with fn := fnI, kind := .normal }) (a := ⟨T, []⟩) (w := w₁) (cs := cs) (fn := fn) (todo := todo) (c := c) (v := .tuple #[T.getD t undef, T.getD u undef]) rfl rfl hf (results_tmp2 hr T P w₁) (events_results_tmp2 hr T #[])
  have e : ({ ({ (default : Frame) with fn := fnI, kind := .normal } : Frame).at ⟨T, []⟩ todo with mode := .returning } : Frame) = ⟨fnI, T, todo, [], .returning, .normal, none⟩ := rfl
  rw [e] at this
  rw [this]
  refine ⟨rfl, rfl, ?_⟩
  rw [show T.getD t undef = x by simp [Array.getD_eq_getD_getElem?, hx], show T.getD u undef = y by simp [Array.getD_eq_getD_getElem?, hy]]
  exact h w₁ hr1

/-- A frame that has nothing to do returns. -/
theorem W_fall {fnI : FuncId} {T : Array Value} {cs : List Frame} (h : ∀ w₁, Ry S own w w₁ → ∃ tr, GoesO P m S (DL RO) Stop tr own (G ⟨fnI, T, [], [], .returning, .normal, none⟩ cs) w₁) :
    ∃ tr, GoesO P m S (DL RO) Stop tr own (G ⟨fnI, T, [], [], .run, .normal, none⟩ cs) w := by
  refine GoesO.ctl rfl fun w₁ hr1 => ?_
  have e : stepG P m (G ⟨fnI, T, [], [], .run, .normal, none⟩ cs) w₁ = .go (G ⟨fnI, T, [], [], .returning, .normal, none⟩ cs) w₁ := by
    simp [stepG, stepG.exec, G]
  rw [e]
  exact ⟨rfl, rfl, h w₁ hr1⟩

/-- The last frame, with one result. -/
theorem end1 {Shun : Loc → Prop} {Post : Value → World → Prop} {fnI : FuncId} {fn : Func} {T : Array Value} {todo : List Item} {t : Nat} (hi : P.inits.idxOf? fnI = none) (hf : P.funcs[fnI]? = some fn) (hr : fn.results = #[.tmp t]) {x : Value} (hx : T[t]? = some x) (hp : ∀ d, Post x (w.at d)) :
    AtEndX P Shun Post (G ⟨fnI, T, todo, [], .returning, .normal, none⟩ []) w := by
  refine ⟨rfl, fun d => ⟨x, w.at d, #[], ?_, by simp, hp d⟩⟩
  have e1 : (results fn T).runT P (w.at d) #[] = (.ok x (w.at d), #[]) := by
    rw [Sem.runT_eq, results_tmp hr, events_results_tmp hr]
    simp [Array.getD_eq_getD_getElem?, hx]
  simp only [stepG, unwind, G, hf, e1, doReturn]
  simp [hi, seen, GStep.after]
end

section
variable {P : Program} {L : FuncId → Prop} {LB : FuncId → Bool} {RO own : Nat → Prop} {ρ0 : Rn} {A0 w : World} {m : Bool} {Stop : (Nat → Prop) → Goroutine → World → Prop}
/-- WHAT IS LEFT OF A REGION, and the statement behind it, writing no old block. -/
theorem tail_pure (HC : Closed P L LB) {ops : Array Oper} {l : List Nat} {r : Code} (hc1 : okItem P LB (.inRegion ops l) = true) (hc2 : okCode P LB r = true) {fn : FuncId} (hfn : ∃ g, P.funcs[fn]? = some g) {T0 T : Array Value} (hW : Sim P L ρ0 A0 w) (hR : ∀ b, ran ρ0 b → RO b ∨ own b) (hown : ∀ b, own b → b < w.heap.size) (hT : AR L ρ0 T0 T) {Post : Act → World → Prop}
    (hcon : ∀ W : World, W.heap.size = A0.heap.size → (∀ p, W.cell? p = A0.cell? p) → W.os = A0.os → wpOps P ops (Exit.then (r.wp P fun e a w => e = .ret ∧ a.defers = [] ∧ Post a w) fun e a w => e = .ret ∧ a.defers = [] ∧ Post a w) l ⟨T0, []⟩ W) (cs : List Frame)
    (hkR : ∀ own' T' w' ρ a wA todo, Post a wA → AR L ρ a.tmps T' → Pu P L ρ0 A0 w own own' ρ wA w' → ∃ t, GoesO P m AtRel (DL RO) Stop t own' (G ⟨fn, T', todo, [], .returning, .normal, none⟩ cs) w') :
    ∃ t, GoesO P m AtRel (DL RO) Stop t own (G ⟨fn, T, [.inRegion ops l, .code r], [], .run, .normal, none⟩ cs) w := by
  have hlt : ∀ b, ran ρ0 b → b < w.heap.size := fun b hb => (hW.wr.lt hb).2
  obtain ⟨t, ht⟩ := seg_in_of (m := m) (P := P) (L := L) (RO := ran ρ0) (S := AtRel) (ρ0 := ρ0) (A0 := A0) (E1 := own) (E2 := fun b => b < w.heap.size) (own := own) (w := w)
    (Stop := fun own' g w' => ∃ ρ a wA T', AR L ρ a.tmps T' ∧ (Std w w' → Pu P L ρ0 A0 w own own' ρ wA w') ∧ (Post a wA ∧ ∃ todo mode, (mode = .returning ∨ (mode = .run ∧ todo = [])) ∧ g = G ⟨fn, T', todo, [], mode, .normal, none⟩ cs))
    atRel_tr (fun b _ w w₁ ⟨d, e⟩ => by subst e; rfl) ⟨[], [], .normal, none⟩ cs
    (lift_tail (LB := LB) (S := AtRel) HC m (fun w w₁ ⟨d, e⟩ b _ => by subst e; rfl) hc1 hc2 hfn (hW.wr.frz hlt) ⟨by rw [frz_size]; exact hW.gA, hW.gB⟩ hT (fun t => hcon (re (frz (pre ρ0 (ran ρ0)) A0) t) frz_size (fun p => frz_cell p) rfl) cs)
    (fun b => ⟨.inr, fun h => h.elim (fun ⟨h, k⟩ => absurd h k) id⟩) (fun b hb => ⟨fun ⟨h, k⟩ => k h, hb.elim (hown b) id⟩)
    (fun own1 T' w1 hgot hsz hk hlt1 => by obtain ⟨a, wA, ρ, hp, _⟩ := hgot.got; cases hp.1)
    (fun own1 T' w1 todo mode hm hgot hsz hk hlt1 => ⟨.leaf, fun w₂ hr => by
      obtain ⟨a, wA, ρ, hp, hv, ⟨t, hW1⟩, hle, hnew, hb, hgA⟩ := hgot.got
      obtain ⟨d, rfl⟩ := hr.st
      exact ⟨ρ, a, wA, T', hv, fun hst => ⟨⟨_, (hW1.retape (w₁ := w1.at d) (fun _ _ => rfl) (Nat.le_refl _) (fun _ _ => 0)).free, hgA, hgot.glob⟩, hle, hnew, fun b => by rw [hb]; exact or_comm, fun b hb' => (hk b (.inr hb')).2, hsz, hst⟩, hp.2, todo, mode, hm, rfl⟩⟩)
  refine (GoesO.monoOwn (D' := DL RO) (own0 := own) (fun _ _ _ _ ho h => h.monoRO' hR ho) (fun _ h => h) (ht.keepT (w0 := w) ⟨rfl, rfl, rfl⟩)).seq fun own' g w' hst => ?_
  obtain ⟨⟨ρ, a, wA, T', hv, hpu, hp, todo, mode, hm, rfl⟩, hsd⟩ := hst w' (.refl atRel_tr own' w')
  replace hpu := hpu hsd
  rcases hm with rfl | ⟨rfl, rfl⟩
  · exact hkR own' T' w' ρ a wA todo hp hv hpu
  · refine W_fall fun w₁ hr => ?_
    obtain ⟨d, rfl⟩ := hr.st
    have hpu' : Pu P L ρ0 A0 w own own' ρ wA (w'.at d) := by
      obtain ⟨t', hs⟩ := hpu.sim
      obtain ⟨t'', hs'⟩ := hs.at d
      exact ⟨⟨t'', hs'⟩, hpu.le, hpu.new, hpu.own, hpu.keep, hpu.size, hpu.std.tape, hpu.std.os, hpu.std.output⟩
    exact hkR own' T' (w'.at d) ρ a wA [] hp hv hpu'
end
end Go.Par
namespace Go.Par
open Go.Conc Go.ConcN

section
variable {P : Program} {L : FuncId → Prop}
/-- A row of values has a row of fellows. -/
theorem AR.some_ {ρ : Rn} (c : Array Value) : ∃ c0, AR L ρ c0 c ∧ ∀ (i : Nat) k n, c[i]? = some (.int k n) → c0[i]? = some (.int k n) := by
  have h : ∀ i : Nat, ∃ v, ∀ b, c[i]? = some b → VR L ρ v b ∧ ∀ k n, b = .int k n → v = .int k n := fun i => by
    cases e : c[i]? with
    | none => exact ⟨undef, fun b hb => by cases hb⟩
    | some b =>
      obtain ⟨v, hv⟩ := VR.some_ (L := L) (ρ := ρ) b
      exact ⟨v, fun c hc => by cases hc; exact hv⟩
  have hg : ∀ i : Nat, i < c.size → ((Array.range c.size).map fun i => Classical.choose (h i))[i]? = some (Classical.choose (h i)) := fun i hi => by
    rw [Array.getElem?_map, Array.getElem?_range, if_pos hi]; rfl
  refine ⟨(Array.range c.size).map fun i => Classical.choose (h i), ⟨by simp, fun i a b ha hb => ?_⟩, fun i k n hi => ?_⟩
  · rw [hg i (Array.getElem?_eq_some_iff.1 hb).1] at ha
    cases ha
    exact (Classical.choose_spec (h i) b hb).1
  · rw [hg i (Array.getElem?_eq_some_iff.1 hi).1, (Classical.choose_spec (h i) _ hi).2 k n rfl]

theorem sim_none {W : World} (hG : P.globals.size ≤ W.heap.size) : Sim P L (fun _ _ => False) W W :=
  ⟨⟨fun _ _ _ h => h.elim, fun _ _ _ h => h.elim, fun _ _ h => h.elim, fun _ _ h => h.elim, fun _ _ h => h.elim, fun _ h => h.elim, fun _ _ => rfl⟩, hG, hG⟩

/-- The block that came in has a fellow, which nobody writes. -/
theorem sim_init {W : World} (hG : P.globals.size = 0) {ab : Nat} {c : Array Value} {e : TypeId} {fr : Nat × Nat} (hb : W.heap[ab]? = some (.cells c e fr)) :
    ∃ (ρ : Rn) (A : World) (a0 : Nat), Sim P L ρ A W ∧ ρ a0 ab ∧ (∀ b, ran ρ b → b = ab) ∧ a0 < A.heap.size ∧ W.heap.size ≤ A.heap.size ∧ A.os = W.os ∧ ∀ o k n, W.cell? ⟨ab, o, none⟩ = some (.int k n) → A.cell? ⟨a0, o, none⟩ = some (.int k n) := by
  obtain ⟨c0, hc, hi⟩ := AR.some_ (L := L) (ρ := fun a b => a = W.heap.size ∧ b = ab) c
  have hnew := heap_alloc_new W (.cells c0 e (0, c0.size))
  have hlt : ab < W.heap.size := (Array.getElem?_eq_some_iff.1 hb).1
  refine ⟨fun a b => a = W.heap.size ∧ b = ab, W.alloc (.cells c0 e (0, c0.size)), W.heap.size, ⟨⟨fun a b b' h h' => h.2.trans h'.2.symm, fun a a' b h h' => h.1.trans h'.1.symm, fun a b h => by omega, ?_, ?_, fun _ h => h.elim, fun _ _ => rfl⟩, by omega, by omega⟩, ⟨rfl, rfl⟩, fun b ⟨a, h⟩ => h.2, by simp, by simp, rfl, fun o k n h => ?_⟩
  · rintro a b ⟨rfl, rfl⟩
    exact ⟨_, _, hnew, hb, .cells e hc⟩
  · rintro a b ⟨rfl, rfl⟩ off v hv hf
    simp only [World.cell?, hnew] at hv
    simp only [World.frozen?, hnew] at hf
    have : off < c0.size := (Array.getElem?_eq_some_iff.1 (by simpa using hv)).1
    simp [this] at hf
  · simp only [World.cell?, hb] at h
    simp only [World.cell?, hnew]
    exact hi o k n (by simpa using h)
end

section
/-- What is shunned: a group's cells, or nothing. -/
def ShO : Option Nat → Loc → Prop
  | none => fun _ => False
  | some Wg => ShN Wg
variable {P : Program} {n : Nat} {o : Option Nat} {m : Machine} {t : Trace} {Q Q' : Goroutine → World → Prop} {Stop : (Nat → Prop) → Goroutine → World → Prop}

def OwO (o : Option Nat) (own : Nat → Prop) (w : World) : Prop := ∀ b, own b → b < w.heap.size ∧ o ≠ some b

theorem dl_evO {own : Nat → Prop} {w w' : World} {es : Array Event} {base : Nat} (h : DL (fun b => b < base ∧ o ≠ some b) own w w' es) (ho : OwO o own w) (hb : base ≤ w.heap.size) (hW : ∀ b, o = some b → b < w.heap.size) : ∀ e ∈ es, EvX (ShO o) w'.heap.size e := by
  intro e he
  have hsz := h.size
  have key : ∀ b, (More own w w' b ∨ (b < base ∧ o ≠ some b)) → b < w'.heap.size ∧ o ≠ some b := by
    rintro b ((hb' | hb') | hb')
    · have := ho b hb'; exact ⟨by omega, this.2⟩
    · exact ⟨hb'.2, fun e => by have := hW b e; omega⟩
    · exact ⟨by omega, hb'.2⟩
  rcases h.evs e he with ⟨a, wr, rfl, h1⟩ | ⟨r, rfl, h1⟩ | rfl
  · obtain ⟨h2, h3⟩ := key a.block (h1.imp id fun h => h.1)
    refine ⟨fun x hx => ?_, by simp, by simp⟩
    simp only [MemAct.ofEvent, MemAct.touch?, Bool.false_eq_true, if_false, Option.some.injEq] at hx
    subst hx
    refine ⟨fun hs => ?_, h2⟩
    cases o with
    | none => exact hs.elim
    | some Wg =>
      obtain ⟨y, hy, hyb⟩ := hs
      cases hy
      exact absurd (congrArg some hyb.symm) h3
  · obtain ⟨h2, h3⟩ := key r (h1.imp id fun h => h)
    refine ⟨fun x hx => ?_, by simp, by simp⟩
    simp only [MemAct.ofEvent, MemAct.touch?, Bool.false_eq_true, if_false, Option.some.injEq] at hx
    subst hx
    refine ⟨fun hs => ?_, h2⟩
    cases o with
    | none => exact hs.elim
    | some Wg =>
      obtain ⟨y, hy, hyb⟩ := hs
      cases hy
  · refine ⟨fun x hx => ?_, by simp, by simp⟩
    simp [MemAct.ofEvent, MemAct.touch?] at hx

/-- A walk beside whoever leaves. -/
theorem walkO (h : BSt P (ShO o) n Q m t) (hQ : ∀ g w, Q g w → (∀ b, o = some b → b < w.heap.size) ∧ ∃ own, OwO o own w ∧ ∃ tr, GoesO P true AtRel (DL fun b => b < w.heap.size ∧ o ≠ some b) Stop tr own g w) :
    Leads P (BSt P (ShO o) n fun g w => ∃ own, OwO o own w ∧ Stop own g w) m t := by
  obtain ⟨gs, a, w, sl, q, rfl, h1, h2, h3, h4, hq⟩ := h
  obtain ⟨hW, own, ho, tr, hg⟩ := hQ a w hq
  refine (walkX (P := P) (n := n) (D := DL fun b => b < w.heap.size ∧ o ≠ some b) (OK := fun own w' => OwO o own w' ∧ w.heap.size ≤ w'.heap.size) (Stop := Stop) (fun own w' d h => h) ?_ (m := crowd gs w sl) (t := t) ⟨gs, a, w, sl, q, rfl, h1, h2, h3, h4, own, ⟨ho, Nat.le_refl _⟩, tr, hg⟩).trans fun m t ⟨gs, a, w, sl, q, e, h1, h2, h3, h4, own, hO, hs⟩ => .refl ⟨gs, a, w, sl, q, e, h1, h2, h3, h4, own, hO.1, hs⟩
  intro own w1 w2 es ⟨hO, hz⟩ hD
  have hsz := hD.size
  refine ⟨hsz, ⟨fun b hb => ?_, Nat.le_trans hz hsz⟩, dl_evO hD hO hz fun b hb => Nat.lt_of_lt_of_le (hW b hb) hz⟩
  rcases hb with hb | hb
  · have := hO b hb; exact ⟨by omega, this.2⟩
  · exact ⟨hb.2, fun e => by have := hW b e; omega⟩

/-- From the first machine. -/
theorem lst_solo {f : Frame} {W : World} : LSt (fun _ => False) (fun g w => g = G f [] ∧ w = W) (solo (G f []) W) #[] := ⟨G f [], W, none, rfl, .nil, rfl, rfl⟩
end
end Go.Par
namespace Go.Proofs.Ytacedadenbinmaa
open Go.Conc Go.RowKit Go.Conc.Lib Go.ConcR.Gen

abbrev wgl : WgLink := { add := 64, done := 66, wait := 68, relMerge := 76, disable := 77, enable := 78, inBubble := 79, associate := 80, fatal := 81, uOr := 82, uAdd := 83, raceRead := 84, uLoad := 85, uStore := 86, disassociate := 87, semrelease := 88, acquire := 89, isAssociated := 90, uCas := 91, raceWrite := 92, semacquire := 93, orU64 := 96, addU64 := 97, loadU64 := 98, storeU64 := 99, casU64 := 100, tWgP := 73, tUP := 75, tAssoc := 77, tWg := 68, tAU := 65, tU64 := 63, tUint := 81, tU32 := 66, tPU32 := 82, tPAU := 92, tPU64 := 94, tNoCopy := 60, tANoCopy := 61, tAlign64 := 62 }
theorem wgLib : WgLib Try.prog wgl :=
  ⟨Try.func64, Try.func66, Try.func68, Try.func76, Try.func77, Try.func78, Try.func79, Try.func80, Try.func81, Try.func82, Try.func83, Try.func84, Try.func85, Try.func86, Try.func87, Try.func88, Try.func89, Try.func90, Try.func91, Try.func92, Try.func93, Try.func96, Try.func97, Try.func98, Try.func99, Try.func100, Try.underlying73, Try.runUnderlying73, Try.sizeOf73, Try.isAgg73, Try.zeroValue73, Try.underlying75, Try.runUnderlying75, Try.sizeOf75, Try.isAgg75, Try.zeroValue75, Try.underlying77, Try.runUnderlying77, Try.sizeOf77, Try.isAgg77, Try.zeroValue77, Try.underlying68, Try.runUnderlying68, Try.sizeOf68, Try.isAgg68, Try.zeroValue68, Try.underlying65, Try.runUnderlying65, Try.sizeOf65, Try.isAgg65, Try.zeroValue65, Try.underlying63, Try.runUnderlying63, Try.sizeOf63, Try.isAgg63, Try.zeroValue63, Try.underlying81, Try.runUnderlying81, Try.sizeOf81, Try.isAgg81, Try.zeroValue81, Try.underlying66, Try.runUnderlying66, Try.sizeOf66, Try.isAgg66, Try.zeroValue66, Try.underlying82, Try.runUnderlying82, Try.sizeOf82, Try.isAgg82, Try.zeroValue82, Try.underlying92, Try.runUnderlying92, Try.sizeOf92, Try.isAgg92, Try.zeroValue92, Try.underlying94, Try.runUnderlying94, Try.sizeOf94, Try.isAgg94, Try.zeroValue94, Try.underlying0, Try.runUnderlying0, Try.sizeOf0, Try.isAgg0, Try.zeroValue0, Try.underlying3, Try.runUnderlying3, Try.sizeOf3, Try.isAgg3, Try.zeroValue3, Try.underlying4, Try.runUnderlying4, Try.sizeOf4, Try.isAgg4, Try.zeroValue4, Try.underlying9, Try.runUnderlying9, Try.sizeOf9, Try.isAgg9, Try.zeroValue9, Try.underlying20, Try.runUnderlying20, Try.sizeOf20, Try.isAgg20, Try.zeroValue20, Try.underlying21, Try.runUnderlying21, Try.sizeOf21, Try.isAgg21, Try.zeroValue21, (by kernel_rfl), (by kernel_rfl)⟩
instance : Go.ConcR.Payload := ⟨3⟩
end Go.Proofs.Ytacedadenbinmaa
