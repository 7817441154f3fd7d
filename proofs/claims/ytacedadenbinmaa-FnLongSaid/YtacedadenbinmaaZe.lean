/- Proved: the trace's law where each goroutine's own blocks grow. Conditions: a new block has been touched by nobody. Proved: the starter's way through sync.WaitGroup's Add(1), beside workers, whatever the others do to other blocks. Conditions: the library's functions are the program's; the group's block stays one. Proved: what holds of a starter and its workers at every moment, each with blocks of its own that grow, and how every kind of step keeps it. Conditions: none. Proved: where a starter stands that starts workers one by one and waits for all; a step of a worker's keeps the machine's invariant and lowers its measure. Conditions: none. -/
import Derived.Test.YtacedadenbinmaaZd
import Derived.Conc.CrowdRun
import Derived.Conc.WgGenN3
set_option linter.unusedVariables false
set_option linter.unusedSimpArgs false
set_option linter.unusedSectionVars false
namespace Go.Par
open Go.Conc Go.ConcN
open Go.ConcR (KK wgBlock WgAt stA smA rd wr mk DC0 Bk g_of_ofEvents loc_of_ofEvent)

/-- The block in which a place of memory lies. -/
def blk : Loc → Option Nat
  | .cell a => some a.block
  | .obj r => some r
  | _ => none
/-- Goroutine k's own places, of those that are started. -/
def OwnL (j : Nat) (ow : Nat → Nat → Prop) (k : Nat) (l : Loc) : Prop := 1 ≤ k ∧ k ≤ j ∧ ∃ b, blk l = some b ∧ ow (k - 1) b
/-- Blocks that all may read and nobody writes. -/
def Sha (Low Wg Ch : Nat) (b : Nat) : Prop := b < Low ∧ b ≠ Wg ∧ b ≠ Ch
def RdL (Low Wg Ch : Nat) (_ : Nat) (l : Loc) : Prop := ∃ b, blk l = some b ∧ Sha Low Wg Ch b

section
variable {Low Wg Ch j : Nat} {ow ow' : Nat → Nat → Prop} {om : Nat → Prop} {t u : Trace} {w w' : World} {es : Array Event} {fn : FuncId} {pos : String}

theorem apart_of (hd : ∀ i i' b, i < j → i' < j → ow i b → ow i' b → i = i') (hl : ∀ i b, i < j → ow i b → Low ≤ b) (hW : Wg < Low) : Apart (ShN Wg) (OwnL j ow) (RdL Low Wg Ch) := by
  refine ⟨fun k k' l ⟨h1, h2, b, hb, hw⟩ ⟨k1, k2, b', hb', hw'⟩ => ?_, fun k k' l ⟨h1, h2, b, hb, hw⟩ ⟨b', hb', hs⟩ => ?_, fun k l ⟨h1, h2, b, hb, hw⟩ ⟨a, ha, hab⟩ => ?_, fun k l ⟨b, hb, hs⟩ ⟨a, ha, hab⟩ => ?_⟩
  · rw [hb] at hb'; cases hb'
    have := hd _ _ b (by omega) (by omega) hw hw'
    omega
  · rw [hb] at hb'; cases hb'
    have := hl _ _ (by omega) hw
    have := hs.1
    omega
  · subst ha
    simp only [blk, Option.some.injEq] at hb
    subst hb
    have := hl _ _ (by omega) hw
    omega
  · subst ha
    simp only [blk, Option.some.injEq] at hb
    subst hb
    exact hs.2.1 hab

theorem CT_grow {Sh : Loc → Prop} {Own Own' Rd : Nat → Loc → Prop} (h : CT Sh Own Rd t j) (h1 : ∀ k l, 1 ≤ k → k ≤ j → Own k l → Own' k l)
    (h2 : ∀ k l, 1 ≤ k → k ≤ j → Own' k l → Own k l ∨ ∀ i a, touchAt t i = some a → a.loc ≠ l) : CT Sh Own' Rd t j :=
  ⟨h.quiet, fun k k1 kj l hl => (h2 k l k1 kj hl).elim (fun ho => h.own k k1 kj l ho) fun hn i a ha e => absurd e (hn i a ha), h.rd,
    fun l hs hl => h.free l hs fun k k1 kj => ⟨fun ho => (hl k k1 kj).1 (h1 k l k1 kj ho), (hl k k1 kj).2⟩,
    fun l hs hl => h.mine l hs fun k k1 kj ho => hl k k1 kj (h1 k l k1 kj ho), h.nr, h.gs⟩

theorem low_blk {l : Loc} {b B : Nat} (h : l.low B) (hb : blk l = some b) : b < B := by
  cases l <;> simp only [blk, Option.some.injEq] at hb <;> first | (subst hb; exact h) | cases hb

/-- A worker's own blocks grow. -/
theorem CT_more {i : Nat} (hlow : ∀ x a, touchAt t x = some a → a.loc.low w.heap.size) (h : CT (ShN Wg) (OwnL j ow) (RdL Low Wg Ch) t j) :
    CT (ShN Wg) (OwnL j (upd ow i (More (ow i) w w'))) (RdL Low Wg Ch) t j := by
  refine CT_grow h (fun k l _ _ ⟨h1, h2, b, hb, hw⟩ => ⟨h1, h2, b, hb, ?_⟩) (fun k l _ _ ⟨h1, h2, b, hb, hw⟩ => ?_)
  · by_cases e : k - 1 = i
    · subst e; rw [upd_same]; exact .inl hw
    · rw [upd_ne ow _ e]; exact hw
  · by_cases e : k - 1 = i
    · subst e
      rw [upd_same] at hw
      rcases hw with hw | ⟨hw, _⟩
      · exact .inl ⟨h1, h2, b, hb, hw⟩
      · refine .inr fun x a ha e => ?_
        have := low_blk (hlow x a ha) (e ▸ hb)
        omega
    · rw [upd_ne ow _ e] at hw
      exact .inl ⟨h1, h2, b, hb, hw⟩

/-- What a step of a lifted walk may touch. -/
theorem dl_touch {RO own : Nat → Prop} (h : DL RO own w w' es) {e : Event} (he : e ∈ es) {x : Touch} (hx : (MemAct.ofEvent e).touch? = some x) :
    x.kind = .plain ∧ ∃ b, blk x.loc = some b ∧ (More own w w' b ∨ (RO b ∧ x.write = false)) := by
  rcases h.evs e he with ⟨a, wr, rfl, hb⟩ | ⟨r, rfl, hb⟩ | rfl
  · simp only [MemAct.ofEvent, MemAct.touch?, Bool.false_eq_true, if_false, Option.some.injEq] at hx
    subst hx
    exact ⟨rfl, a.block, rfl, hb⟩
  · simp only [MemAct.ofEvent, MemAct.touch?, Bool.false_eq_true, if_false, Option.some.injEq] at hx
    subst hx
    exact ⟨rfl, r, rfl, hb.imp id fun h => ⟨h, rfl⟩⟩
  · simp [MemAct.ofEvent, MemAct.touch?] at hx
theorem dl_still {RO own : Nat → Prop} (h : DL RO own w w' es) {e : Event} (he : e ∈ es) : e.loc ≠ .mark .disable ∧ e.loc ≠ .mark .enable ∧ ∀ a, e.loc ≠ .mark (.release a) := by
  rcases h.evs e he with ⟨a, wr, rfl, hb⟩ | ⟨r, rfl, hb⟩ | rfl <;> simp

theorem okW_of_DL {i : Nat} (hij : i < j) (h : DL (Sha Low Wg Ch) (ow i) w w' es) : ∀ op ∈ MemOp.ofEvents (i + 1) fn pos es, OkW (ShN Wg) (OwnL j (upd ow i (More (ow i) w w'))) (RdL Low Wg Ch) (i + 1) op := by
  intro op hop
  obtain ⟨e, he, rfl⟩ := Conc.mem_ofEvents hop
  refine ⟨rfl, fun x hx => ?_⟩
  obtain ⟨_, b, hb, hm | ⟨hs, hw⟩⟩ := dl_touch h he hx
  · exact .inr (.inl ⟨by omega, by omega, b, hb, by rw [Nat.add_sub_cancel, upd_same]; exact hm⟩)
  · exact .inr (.inr ⟨⟨b, hb, hs⟩, hw⟩)

theorem sh_blk {l : Loc} {b : Nat} (h : ShN Wg l) (hb : blk l = some b) : b = Wg := by
  obtain ⟨a, rfl, ha⟩ := h
  simp only [blk, Option.some.injEq] at hb
  rw [← hb, ha]

theorem ok0_of_DL (hW : Wg < Low) (hlo : ∀ b, More om w w' b → Low ≤ b) (hno : ∀ i b, i < j → ow i b → ¬ More om w w' b) (hL : ∀ i b, i < j → ow i b → Low ≤ b) (h : DL (Sha Low Wg Ch) om w w' es) :
    ∀ op ∈ MemOp.ofEvents 0 fn pos es, Ok0 (ShN Wg) (OwnL j ow) (RdL Low Wg Ch) j op := by
  intro op hop
  obtain ⟨e, he, rfl⟩ := Conc.mem_ofEvents hop
  refine ⟨rfl, fun x hx => .inr ?_⟩
  obtain ⟨_, b, hb, hm⟩ := dl_touch h he hx
  refine ⟨fun hs => ?_, fun k k1 kj ⟨_, _, b', hb', ho⟩ => ?_, fun hw k k1 kj ⟨b', hb', hs⟩ => ?_⟩
  · have e := sh_blk hs hb
    subst e
    rcases hm with hm | ⟨hm, _⟩
    · have := hlo _ hm; omega
    · exact hm.2.1 rfl
  · rw [hb] at hb'; cases hb'
    rcases hm with hm | ⟨hm, _⟩
    · exact hno _ _ (by omega) ho hm
    · have := hL _ _ (by omega) ho
      have := hm.1
      omega
  · rw [hb] at hb'; cases hb'
    rcases hm with hm | ⟨_, hm⟩
    · have := hlo _ hm
      have := hs.1
      omega
    · rw [hm] at hw; cases hw

theorem low_of_blk {l : Loc} {b B : Nat} (hb : blk l = some b) (h : b < B) : l.low B := by
  cases l <;> simp only [blk, Option.some.injEq] at hb <;> first | (subst hb; exact h) | cases hb

theorem dl_low {own : Nat → Prop} (h : DL (Sha Low Wg Ch) own w w' es) (ho : ∀ b, own b → b < w.heap.size) (hL : Low ≤ w.heap.size) {e : Event} (he : e ∈ es) {x : Touch} (hx : (MemAct.ofEvent e).touch? = some x) : x.loc.low w'.heap.size := by
  obtain ⟨_, b, hb, hm⟩ := dl_touch h he hx
  refine low_of_blk hb ?_
  have := h.size
  rcases hm with (hm | ⟨_, hm⟩) | ⟨hm, _⟩
  · have := ho b hm; omega
  · exact hm
  · have := hm.1; omega

/-- BEHIND THE JOIN. -/
theorem pastX_of_crew {Own Rd : Nat → Loc → Prop} {B q : Nat} (hct : CT (ShN Wg) Own Rd t j) (all : ∀ i g, t.g? i = some g → g ≠ 0 → ∃ r, RelBy (stA Wg) t g r ∧ r < q) (hn : NoRelease (stA Wg) t)
    (hq : t.act? q = some (.mark (.acquire (stA Wg)))) (hg : t.g? q = some 0) (hh : t.heard q) (hd : Deaf t 0 = 0) (hlow : ∀ i a, touchAt t i = some a → a.loc.low B)
    (hat : ∀ i a, touchAt t i = some a → a.kind = .atomic → ShN Wg a.loc) : PastX (ShN Wg) B t := by
  refine ⟨hct.nr, fun i a ha hm => ?_, handedOver_all all hn hq hg hh, hd, hlow⟩
  obtain ⟨x, hx, hxa⟩ := touch_of ha
  by_cases hx0 : x.g = 0
  · exact .inl (hx0 ▸ knows_own hx)
  obtain ⟨r, hr, hrq⟩ := all i x.g (by simp [Trace.g?, hx]) hx0
  have edge : HappensBefore t r q := .single (.inr ⟨.marked hrq (.inr hr.act) hq (fun k _ _ => hn k), hr.heard, hh⟩)
  obtain ⟨z, hz, hzg⟩ := Option.map_eq_some_iff.1 hg
  rcases Nat.lt_trichotomy i r with hlt | rfl | hgt
  · exact .inl ⟨q, z, hz, hzg, .inr (.trans (.single (.inl ⟨hlt, x.g, by simp [Trace.g?, hx], hr.g⟩)) edge)⟩
  · exact .inl ⟨q, z, hz, hzg, .inr edge⟩
  · have hnc := hr.after i hgt (by simp [Trace.g?, hx])
    have hk : a.kind = .atomic := by
      cases hk : a.kind with
      | atomic => rfl
      | _ => exact absurd ⟨a, ha, hm, .inl (by rw [hk]; simp)⟩ hnc
    exact .inr ⟨hat i a ha hk, hk⟩
end

/-! ### families of trees -/
inductive LtL : List T → List T → Prop
  | head {a a' : T} (l : List T) : T.Lt a' a → LtL (a' :: l) (a :: l)
  | tail (a : T) {l l' : List T} : LtL l' l → LtL (a :: l') (a :: l)
theorem LtL.wf : WellFounded LtL := ⟨fun l => by
  induction l with
  | nil => exact ⟨_, fun y h => by cases h⟩
  | cons a l ih =>
    have key : ∀ a, Acc T.Lt a → ∀ l, Acc LtL l → Acc LtL (a :: l) := by
      intro a ha
      induction ha with
      | intro a _ iha =>
        intro l hl
        induction hl with
        | intro l hl' ihl =>
          refine ⟨_, fun y hy => ?_⟩
          cases hy with
          | head _ h => exact iha _ h l ⟨_, hl'⟩
          | tail _ h => exact ihl _ h
    exact key a (T.wf.apply a) l ih⟩
theorem ltL_map {n i : Nat} {f : Nat → T} {x : T} (hi : i < n) (h : T.Lt x (f i)) : LtL ((List.range n).map (upd f i x)) ((List.range n).map f) := by
  have key : ∀ (l : List Nat), i ∈ l → l.Nodup → LtL (l.map (upd f i x)) (l.map f) := by
    intro l
    induction l with
    | nil => intro h; cases h
    | cons a l ih =>
      intro hm hn
      rw [List.nodup_cons] at hn
      simp only [List.map_cons]
      by_cases e : a = i
      · subst e
        have : l.map (upd f a x) = l.map f := List.map_congr_left fun b hb => upd_ne f x fun e => hn.1 (e ▸ hb)
        rw [this, upd_same]
        exact .head _ h
      · rw [upd_ne f x e]
        refine .tail _ (ih ?_ hn.2)
        rcases List.mem_cons.1 hm with rfl | h
        · exact absurd rfl e
        · exact h
  exact key _ (List.mem_range.2 hi) List.nodup_range
end Go.Par
namespace Go.Par
open Go.Conc Go.ConcN Go.ConcN.Gen Go.RowKit Go.Conc.Lib Go.ConcR.Gen
open Go.ConcR (KK wgBlock WgAt stA smA rd wr mk DC0)

section
variable (P : Program) (ty : TypeId) (Wg : Nat) (R : World → World → Prop) (Cont : Goroutine → World → Prop)

/-! ### Add(1) -/
def MKe (g : Goroutine) (w : World) : Prop := g.status = .running ∧ ∃ g', stepG P true g w = .go g' w #[mk .enable] ∧ ∃ m, Goes P true R DC0 Cont m g' w
def MSr (g : Goroutine) (w : World) : Prop := g.status = .running ∧ ∃ g', stepG P true g w = .go g' w #[mk (.read (smA Wg))] ∧ ∃ m, Goes P true R DC0 (MKe P R Cont) m g' w
def MA1 (g : Goroutine) (w : World) : Prop :=
  g.status = .running ∧ ∀ v : Nat, v < 2147483647 → WgAt ty Wg w (v * KK) 0 →
    ∃ g', stepG P true g w = .go g' (w.setCell (stA Wg) (.int .u64 ((v + 1) * KK))) #[rd (stA Wg), wr (stA Wg)] ∧
      (v = 0 → ∃ m, Goes P true R DC0 (MSr P Wg R Cont) m g' (w.setCell (stA Wg) (.int .u64 ((v + 1) * KK)))) ∧
      (v ≠ 0 → ∃ m, Goes P true R DC0 (MKe P R Cont) m g' (w.setCell (stA Wg) (.int .u64 ((v + 1) * KK))))
def MKd (g : Goroutine) (w : World) : Prop := g.status = .running ∧ ∃ g', stepG P true g w = .go g' w #[mk .disable] ∧ ∃ m, Goes P true R DC0 (MA1 P ty Wg R Cont) m g' w

/-! ### Wait -/
def MAcq (g : Goroutine) (w : World) : Prop := g.status = .running ∧ ∃ g', stepG P true g w = .go g' w #[mk (.acquire (stA Wg))] ∧ ∃ m, Goes P true R DC0 Cont m g' w
def MWe (g : Goroutine) (w : World) : Prop := g.status = .running ∧ ∃ g', stepG P true g w = .go g' w #[mk .enable] ∧ ∃ m, Goes P true R DC0 (MAcq P Wg R Cont) m g' w
def MW4 (g : Goroutine) (w : World) : Prop := g.status = .running ∧ (WgAt ty Wg w 0 0 → ∃ g', stepG P true g w = .go g' w #[rd (stA Wg)] ∧ ∃ m, Goes P true R DC0 (MWe P Wg R Cont) m g' w)
def MW3 (g : Goroutine) (w : World) : Prop :=
  g.status = .running ∧ g.offers = none ∧ ((∃ st, WgAt ty Wg w st 0) → stepG P true g w = .go { g with status := .blocked } w #[]) ∧
    (WgAt ty Wg w 0 1 → ∃ g', stepG P true g w = .go g' (w.setCell (smA Wg) (.int .u32 0)) (semEvents (smA Wg)) ∧ ∃ m, Goes P true R DC0 (MW4 P ty Wg R Cont) m g' (w.setCell (smA Wg) (.int .u32 0)))
def MSw (g : Goroutine) (w : World) : Prop := g.status = .running ∧ ∃ g', stepG P true g w = .go g' w #[mk (.write (smA Wg))] ∧ ∃ m, Goes P true R DC0 (MW3 P ty Wg R Cont) m g' w
def MW2 (Anch : Goroutine → World → Prop) (vs : Nat) (g : Goroutine) (w : World) : Prop :=
  g.status = .running ∧ ∀ v : Nat, v < 2147483648 → WgAt ty Wg w (v * KK) 0 →
    (v = vs → ∃ g', stepG P true g w = .go g' (w.setCell (stA Wg) (.int .u64 (v * KK + 1))) #[rd (stA Wg), wr (stA Wg)] ∧ ∃ m, Goes P true R DC0 (MSw P ty Wg R Cont) m g' (w.setCell (stA Wg) (.int .u64 (v * KK + 1)))) ∧
    (v ≠ vs → ∃ g', stepG P true g w = .go g' w #[rd (stA Wg)] ∧ ∃ m, Goes P true R DC0 Anch m g' w)
def MW1 (Anch : Goroutine → World → Prop) (g : Goroutine) (w : World) : Prop :=
  g.status = .running ∧ ∀ v : Nat, v < 2147483648 → WgAt ty Wg w (v * KK) 0 → ∃ g', stepG P true g w = .go g' w #[rd (stA Wg)] ∧
    (v = 0 → ∃ m, Goes P true R DC0 (MWe P Wg R Cont) m g' w) ∧ (v ≠ 0 → ∃ m, Goes P true R DC0 (MW2 P ty Wg R Cont Anch v) m g' w)
def MWd (Anch : Goroutine → World → Prop) (g : Goroutine) (w : World) : Prop := g.status = .running ∧ ∃ g', stepG P true g w = .go g' w #[mk .disable] ∧ ∃ m, Goes P true R DC0 Anch m g' w
end

section
variable {L : WgLink} {Wg : Nat} {R : World → World → Prop} {F : World → Prop} {Cont : Goroutine → World → Prop}
  {b₀ : Frame} {a₀ : Act} {ops₀ : Array Oper} {i₀ : Nat} {rest₀ : List Nat} {k₀ : List Item} {cs : List Frame}

set_option maxRecDepth 100000 in
set_option maxHeartbeats 8000000 in
theorem addPosM {P : Program} (H : WgLib P L) (hRt : ∀ a b c, R a b → R b c → R a c) (hR : ∀ {w w₁ : World}, F w ∧ WgLive L.tWg Wg w → R w w₁ → F w₁ ∧ WgLive L.tWg Wg w₁) (hS : ∀ w v, F w → WgLive L.tWg Wg w → F (w.setCell (stA Wg) v))
    (hT : ∀ w, F w → WgLive L.tWg Wg w → ∃ m, Goes P true R DC0 Cont m (G (b₀.at (a₀.put ((ops₀[i₀]?).bind (·.dst)) (.tuple #[])) (.inRegion ops₀ rest₀ :: k₀)) cs) w)
    (w : World) (hF : F w ∧ WgLive L.tWg Wg w) :
    Goes P true R DC0 (MKd P L.tWg Wg R Cont) 30
      (G ((base L.add).at ⟨#[.pointer (some ⟨Wg, 0, none⟩), .int .i64 1, undef, undef, undef, undef, undef, undef, undef, undef, undef, undef, undef, undef, undef, undef, undef, undef, undef, undef, undef, undef, undef, undef, undef, undef, undef, undef, undef, undef, undef, undef, undef, undef, undef, undef, undef, undef, undef, undef, undef, undef, undef, undef, undef, undef, undef, undef, undef, undef, undef, undef, undef, undef, undef, undef, undef, undef, undef, undef, undef, undef, undef, undef, undef, undef, undef, undef, undef, undef, undef, undef, undef, undef, undef, undef, undef, undef, undef, undef, undef, undef, undef, undef, undef, undef, undef, undef, undef, undef, undef, undef, undef, undef, undef, undef, undef, undef, undef, undef, undef, undef, undef, undef, undef, undef, undef, undef, undef, undef, undef, undef, undef, undef, undef, undef, undef], []⟩ [.code (body_add L)]) (b₀.at a₀ (.inRegion ops₀ (i₀ :: rest₀) :: k₀) :: cs)) w := by
  lib_facts
  simp only [body_add, addFn, Option.getD_some]
  u_c stepG_seq hR hF
  u_cond true hR hF
  u_c stepG_seq hR hF
  u_c stepG_seq hR hF
  u_reg hR hF
  u_op hR hF
  u_op hR hF
  u_c stepG_region_end hR hF
  u_cond false hR hF
  u_c stepG_skip hR hF
  u_c stepG_seq hR hF
  u_reg hR hF
  refine Goes.stop (fun w₁ h₁ => ?_)
  replace hF := hR hF h₁
  clear h₁
  refine ⟨rfl, _, stepG_mark0 .disable (by simp) rfl rfl (by k_ne) rfl H.f_disable (x_disable_n L) (x_disable_b L) (x_disable_x L) (x_disable_f L), 80, ?_⟩
  walk_nrm
  u_c stepG_region_end hR hF
  u_reg hR hF
  u_defer hR hF
  u_c stepG_region_end hR hF
  u_c stepG_seq hR hF
  u_reg hR hF
  u_op hR hF
  u_c stepG_region_end hR hF
  u_c stepG_seq hR hF
  u_c stepG_seq hR hF
  u_reg hR hF
  u_bub hR hF
  u_c stepG_region_end hR hF
  u_cond false hR hF
  u_c stepG_skip hR hF
  u_c stepG_seq hR hF
  u_reg hR hF
  u_op hR hF
  u_op hR hF
  u_op hR hF
  u_op hR hF
  u_op hR hF
  u_op hR hF
  u_call H.f_uAdd (nm_uAdd L) uAddFn hR hF
  u_c stepG_seq hR hF
  u_reg hR hF
  u_op hR hF
  u_c stepG_region_end hR hF
  u_c stepG_seq hR hF
  u_reg hR hF
  u_op hR hF
  u_op hR hF
  u_op hR hF
  u_op hR hF
  refine Goes.stop (fun w₂ h₁ => ?_)
  replace hF := hR hF h₁
  clear h₁
  refine ⟨rfl, fun v hv hw => ?_⟩
  rcases Nat.eq_zero_or_pos v with rfl | hvp
  · -- the count is now 1
    replace hw : WgAt L.tWg Wg w₂ 0 0 := by simpa using hw
    have z : (((0 : Nat) : Int) + 1) * KK = KK := by simp
    rw [z]
    have e0 : IntKind.u64.wrap (0 + 4294967296) = KK := by decide
    refine ⟨_, (stepG_add_atomic rfl rfl (by k_ne) rfl H.f_addU64 (x_addU64_n L) (x_addU64_b L) (x_addU64_x L) .u64 (x_addU64_f L) rfl rfl hw.cellSt (hw.thaw 0)).trans (by rw [e0]; rfl), fun _ => ⟨150, ?_⟩, fun h => absurd rfl h⟩
    replace hF : F (w₂.setCell (stA Wg) (.int .u64 KK)) ∧ WgLive L.tWg Wg (w₂.setCell (stA Wg) (.int .u64 KK)) := ⟨hS _ _ hF.1 hF.2, ⟨_, _, hw.setSt _⟩⟩
    clear hw
    simp only [KK] at hF ⊢
    walk_nrm
    u_op hR hF
    u_c stepG_region_end hR hF
    u_c stepG_ret' hR hF
    u_leave1 H.f_uAdd hR hF
    u_op hR hF
    u_c stepG_region_end hR hF
    u_c stepG_seq hR hF
    u_c stepG_seq hR hF
    u_reg hR hF
    u_op hR hF
    u_op hR hF
    u_op hR hF
    u_op hR hF
    u_skip hR hF
    u_skip hR hF
    u_op hR hF
    u_c stepG_region_end hR hF
    u_cond false hR hF
    u_c stepG_skip hR hF
    u_c stepG_seq hR hF
    u_reg hR hF
    u_op hR hF
    u_op hR hF
    u_op hR hF
    u_op hR hF
    u_c stepG_region_end hR hF
    u_c stepG_seq hR hF
    u_reg hR hF
    u_op hR hF
    u_op hR hF
    u_op hR hF
    u_op hR hF
    u_c stepG_region_end hR hF
    u_c stepG_seq hR hF
    u_c stepG_seq hR hF
    u_reg hR hF
    u_op hR hF
    u_op hR hF
    u_op hR hF
    u_op hR hF
    u_op hR hF
    u_op hR hF
    u_op hR hF
    u_op hR hF
    u_op hR hF
    u_op hR hF
    u_c stepG_region_end hR hF
    u_cond true hR hF
    u_reg hR hF
    u_op hR hF
    u_op hR hF
    u_op hR hF
    u_conv H.underlying_tPU32 H.room_tU32 (WgLive.cell1 hF.2).choose_spec hR hF
    refine Goes.stop (fun w₄ h₁ => ?_)
    replace hF := hR hF h₁
    clear h₁
    refine ⟨rfl, _, stepG_markAt .read (by simp) rfl rfl (by k_ne) rfl H.f_raceRead (x_raceRead_n L) (x_raceRead_b L) (x_raceRead_x L) (x_raceRead_f L) (ad := ⟨Wg, 1, none⟩) (by simp [Act.eval]), 150, ?_⟩
    walk_nrm
    u_c stepG_region_end hR hF
    u_c stepG_seq hR hF
    u_c stepG_seq hR hF
    u_reg hR hF
    u_op hR hF
    u_op hR hF
    u_c stepG_region_end hR hF
    u_cond false hR hF
    u_c stepG_skip hR hF
    u_c stepG_seq hR hF
    u_c stepG_seq hR hF
    u_reg hR hF
    u_op hR hF
    u_op hR hF
    u_op hR hF
    u_skip hR hF
    u_skip hR hF
    u_op hR hF
    u_op hR hF
    u_skip hR hF
    u_skip hR hF
    u_skip hR hF
    u_skip hR hF
    u_op hR hF
    u_c stepG_region_end hR hF
    u_cond false hR hF
    u_c stepG_skip hR hF
    u_c stepG_seq hR hF
    u_c stepG_seq hR hF
    u_reg hR hF
    u_op hR hF
    u_op hR hF
    u_op hR hF
    u_skip hR hF
    u_skip hR hF
    u_op hR hF
    u_c stepG_region_end hR hF
    u_cond true hR hF
    u_c stepG_ret' hR hF
    refine Goes.stop (fun w₃ h₁ => ?_)
    replace hF := hR hF h₁
    clear h₁
    refine ⟨rfl, _, stepG_unwind_entry (v := .tuple #[]) (evs := #[mk .enable]) rfl H.f_enable (x_enable_n L) (x_enable_b L) (x_enable_x L) (x_enable_f L) (by simp [Extern.Race.none_]) (by simp [mk]) (by simp [mk]), ?_⟩
    obtain ⟨mT, hm⟩ := hT w₃ hF.1 hF.2
    refine ⟨mT + 1, ?_⟩
    refine Goes.step rfl (fun w₄ h₄ => ?_)
    refine goes_leave0 rfl rfl H.f_add rfl ⟨by u_nil, ?_⟩
    walk_nrm
    exact Goes.rely hRt hm h₄
  · -- it is more
    obtain ⟨V, hV⟩ : ∃ V : Int, V = (v : Int) + 1 := ⟨_, rfl⟩
    obtain ⟨S, hS'⟩ : ∃ S : Int, S = V * KK := ⟨_, rfl⟩
    have eS : IntKind.u64.wrap ((v : Int) * KK + 4294967296) = S := by rw [IntKind.wrap_u64, hS', hV]; simp only [KK]; omega
    rw [← hV, ← hS']
    have a1 : S / 4294967296 = V := by rw [hS']; simp only [KK]; omega
    have b1 : bits .and .u64 S 2147483648 = 0 := by rw [hS', hV]; have := st_flag (v + 1) 0 (by omega) (by omega); simpa [KK] using this
    have b2 : bits .and .u64 S 2147483647 = 0 := by rw [hS', hV]; have := st_waiters (v + 1) 0 (by omega) (by omega); simpa [KK] using this
    have c1 : IntKind.i32.wrap V = V := by rw [IntKind.wrap_i32]; omega
    have hV1 : 1 < V := by omega
    have hV2 : V < 2147483648 := by omega
    have q1 : (V == 1) = false := by simp; omega
    have q2 : decide (V = 1) = false := decide_eq_false (by omega)
    have q3 : decide (V < 0) = false := decide_eq_false (by omega)
    have q4 : decide (0 < V) = true := decide_eq_true (by omega)
    have q5 : (V == 0) = false := by simp; omega
    have q6 : decide (V = 0) = false := decide_eq_false (by omega)
    refine ⟨_, (stepG_add_atomic rfl rfl (by k_ne) rfl H.f_addU64 (x_addU64_n L) (x_addU64_b L) (x_addU64_x L) .u64 (x_addU64_f L) rfl rfl hw.cellSt (hw.thaw 0)).trans (by rw [eS]; rfl), fun h => absurd h (by omega), fun _ => ⟨150, ?_⟩⟩
    replace hF : F (w₂.setCell (stA Wg) (.int .u64 S)) ∧ WgLive L.tWg Wg (w₂.setCell (stA Wg) (.int .u64 S)) := ⟨hS _ _ hF.1 hF.2, ⟨_, _, hw.setSt _⟩⟩
    clear hw hS' hV eS
    walk_nrm
    u_op hR hF
    u_c stepG_region_end hR hF
    u_c stepG_ret' hR hF
    u_leave1 H.f_uAdd hR hF
    u_op hR hF
    u_c stepG_region_end hR hF
    u_c stepG_seq hR hF
    u_c stepG_seq hR hF
    u_reg hR hF
    u_op hR hF
    u_op hR hF
    u_op hR hF
    u_op hR hF
    u_skip hR hF
    u_skip hR hF
    u_op hR hF
    u_c stepG_region_end hR hF
    u_cnd false hR hF
    u_c stepG_skip hR hF
    u_c stepG_seq hR hF
    u_reg hR hF
    u_op hR hF
    u_op hR hF
    u_op hR hF
    u_op hR hF
    u_c stepG_region_end hR hF
    u_c stepG_seq hR hF
    u_reg hR hF
    u_op hR hF
    u_op hR hF
    u_op hR hF
    u_op hR hF
    u_c stepG_region_end hR hF
    u_c stepG_seq hR hF
    u_c stepG_seq hR hF
    u_reg hR hF
    u_op hR hF
    u_op hR hF
    u_op hR hF
    u_op hR hF
    u_op hR hF
    u_op hR hF
    u_op hR hF
    u_op hR hF
    u_op hR hF
    u_op hR hF
    u_c stepG_region_end hR hF
    u_cnd false hR hF
    u_c stepG_skip hR hF
    u_c stepG_seq hR hF
    u_c stepG_seq hR hF
    u_reg hR hF
    u_op hR hF
    u_op hR hF
    u_c stepG_region_end hR hF
    u_cnd false hR hF
    u_c stepG_skip hR hF
    u_c stepG_seq hR hF
    u_c stepG_seq hR hF
    u_reg hR hF
    u_op hR hF
    u_op hR hF
    u_op hR hF
    u_skip hR hF
    u_skip hR hF
    u_op hR hF
    u_op hR hF
    u_skip hR hF
    u_skip hR hF
    u_skip hR hF
    u_skip hR hF
    u_op hR hF
    u_c stepG_region_end hR hF
    u_cnd false hR hF
    u_c stepG_skip hR hF
    u_c stepG_seq hR hF
    u_c stepG_seq hR hF
    u_reg hR hF
    u_op hR hF
    u_op hR hF
    u_op hR hF
    u_skip hR hF
    u_skip hR hF
    u_op hR hF
    u_c stepG_region_end hR hF
    u_cnd true hR hF
    u_c stepG_ret' hR hF
    refine Goes.stop (fun w₃ h₁ => ?_)
    replace hF := hR hF h₁
    clear h₁
    refine ⟨rfl, _, stepG_unwind_entry (v := .tuple #[]) (evs := #[mk .enable]) rfl H.f_enable (x_enable_n L) (x_enable_b L) (x_enable_x L) (x_enable_f L) (by simp [Extern.Race.none_]) (by simp [mk]) (by simp [mk]), ?_⟩
    obtain ⟨mT, hm⟩ := hT w₃ hF.1 hF.2
    refine ⟨mT + 1, ?_⟩
    refine Goes.step rfl (fun w₄ h₄ => ?_)
    refine goes_leave0 rfl rfl H.f_add rfl ⟨by u_nil, ?_⟩
    walk_nrm
    exact Goes.rely hRt hm h₄
end
end Go.Par
namespace Go.Par
open Go.Conc Go.ConcN
open Go.ConcR (KK wgBlock WgAt stA smA rd wr mk DC0 Bk g_of_ofEvents loc_of_ofEvent Payload)
variable [Payload]

omit [Payload]
structure SB (ty : TypeId) (Low Wg Ch : Nat) (w w₁ : World) : Prop where
  low : ∀ b, Sha Low Wg Ch b → w₁.heap[b]? = w.heap[b]?
  live : WgLive ty Wg w → WgLive ty Wg w₁
theorem SB.tr {ty : TypeId} {Low Wg Ch : Nat} : Tr (SB ty Low Wg Ch) := ⟨fun _ => ⟨fun _ _ => rfl, id⟩, fun _ _ _ h k => ⟨fun b hb => (k.low b hb).trans (h.low b hb), k.live ∘ h.live⟩⟩
theorem ry_at' {ty : TypeId} {Low Wg Ch : Nat} (own : Nat → Prop) (w : World) (d : Nat) : Ry (SB ty Low Wg Ch) own w (w.at d) := ⟨⟨fun _ _ => rfl, id⟩, fun _ _ => rfl, Nat.le_refl _⟩

/-- A step that turns the blocks of x alone, but for the group's and the channel's. -/
structure Mv (ty : TypeId) (Wg Ch : Nat) (x : Nat → Prop) (w w' : World) : Prop where
  size : w.heap.size ≤ w'.heap.size
  aside : ∀ b, b < w.heap.size → ¬ x b → b ≠ Wg → b ≠ Ch → w'.heap[b]? = w.heap[b]?
  live : WgLive ty Wg w'
  tape : w'.tape = w.tape
  os : w'.os = w.os
  output : w'.output = w.output

section
variable {ty : TypeId} {Low Wg Ch : Nat} {x own : Nat → Prop} {w w' : World} {es : Array Event}
theorem Mv.ry (h : Mv ty Wg Ch x w w') (hx : ∀ b, x b → Low ≤ b) (hL : Low ≤ w.heap.size) (ho : ∀ b, own b → b < w.heap.size ∧ ¬ x b ∧ b ≠ Wg ∧ b ≠ Ch) : Ry (SB ty Low Wg Ch) own w w' :=
  ⟨⟨fun b hb => h.aside b (by have := hb.1; omega) (fun hxb => by have := hx b hxb; have := hb.1; omega) hb.2.1 hb.2.2, fun _ => h.live⟩, fun b hb => let ⟨h1, h2, h3, h4⟩ := ho b hb; h.aside b h1 h2 h3 h4, h.size⟩
theorem Mv.of_DL {RO : Nat → Prop} (h : DL RO x w w' es) (hl : WgLive ty Wg w) (hx : ¬ x Wg) : Mv ty Wg Ch x w w' := by
  refine ⟨h.size, fun b h1 h2 _ _ => h.aside b h1 h2, ?_, h.tape, h.os, h.output⟩
  obtain ⟨a, b, hw⟩ := hl
  have hlt : Wg < w.heap.size := by
    unfold WgAt at hw
    exact (Array.getElem?_eq_some_iff.1 hw).1
  exact ⟨a, b, hw.of_block (h.aside Wg hlt hx)⟩
theorem Mv.of_wg (h : Aside Wg w w') (hl : WgLive ty Wg w') : Mv ty Wg Ch x w w' := ⟨by rw [h.size]; exact Nat.le_refl _, fun b _ _ hb _ => h.block b hb, hl, h.tape, h.os, h.output⟩
theorem Mv.of_cell [Payload] {C n i : Nat} (h : AsideCell C n i w w') (hC : x C) (hl : WgLive ty Wg w) (hCW : C ≠ Wg) : Mv ty Wg Ch x w w' :=
  ⟨by rw [h.size]; exact Nat.le_refl _, fun b _ hb _ _ => h.block b fun e => hb (e ▸ hC), let ⟨a, b, hw⟩ := hl; ⟨a, b, hw.of_block (h.block Wg (Ne.symm hCW))⟩, h.tape, h.os, h.output⟩
theorem more_same (h : w'.heap.size = w.heap.size) : More own w w' = own := by
  funext b
  simp only [More, h, eq_iff_iff]
  exact ⟨fun h => h.elim id fun h => by omega, .inl⟩
end

section
variable [Payload] (P : Program) (ty : TypeId) (Low Wg Ch : Nat) (z : Value)
def No : Nat → Loc → Prop := fun _ _ => False
/-- It stands at its send into the channel; behind it it comes to 'Done'. -/
def AtSend (v : Value) (own : Nat → Prop) (g : Goroutine) (w : World) : Prop :=
  g.status = .running ∧ ∃ g₂, stepG P false g w = .comm g₂ #[scase Ch v z] true .send w #[] ∧
    ∃ C vv m, own C ∧ Goes P false (RW ty Wg C 1 0 0) (DWs Wg No No C 1 1) (AtR0 P ty Wg C 1 0 1 vv) m (g₂.finishComm P #[scase Ch v z] .send 0 undef false) w

/-- A worker's situation: stage 8: at work; 7 to 1: the library's. -/
inductive WK (v : Value) : Nat → T → Nat → (Nat → Prop) → Goroutine → World → Prop
  | run {tr : T} {own : Nat → Prop} {g : Goroutine} {w : World} : GoesO P false (SB ty Low Wg Ch) (DL (Sha Low Wg Ch)) (AtSend P ty Wg Ch z v) tr own g w → WK v 8 tr 0 own g w
  | lib {C s m d : Nat} {vv : Value} {own : Nat → Prop} {g : Goroutine} {w : World} : own C → WSit P ty Wg C 1 No No 0 1 vv s m d g w → WK v s (T.chain m) d own g w
end

section
variable [Payload] {P : Program} {ty : TypeId} {Low Wg Ch : Nat} {z v : Value} {s d : Nat} {tr : T} {own own' : Nat → Prop} {g : Goroutine} {w w₁ : World}

theorem rw_of_ry {C : Nat} (h : Ry (SB ty Low Wg Ch) own w w₁) (hC : own C) : RW ty Wg C 1 0 (1 - 1) w w₁ :=
  ⟨fun b hb => absurd hb (Nat.not_lt_zero _), h.st.live, fun ⟨cs, hc, hn⟩ => ⟨cs, (h.own C hC).trans hc, hn⟩, cell_of_block (h.own C hC) 0⟩

omit [Payload] in
theorem goesO_running {m : Bool} {S : World → World → Prop} {D : (Nat → Prop) → World → World → Array Event → Prop} {Stop : (Nat → Prop) → Goroutine → World → Prop} (hS : Tr S) (hst : ∀ own g w, Stop own g w → g.status = .running) (h : GoesO P m S D Stop tr own g w) : g.status = .running := by
  cases tr with
  | leaf => exact hst _ _ _ (h w (.refl hS own w))
  | node f =>
    rcases h with h | ⟨h, _⟩
    · exact hst _ _ _ (h w (.refl hS own w))
    · exact h

theorem WK.le (h : WK P ty Low Wg Ch z v s tr d own g w) : s ≤ 8 ∧ 1 ≤ s := by
  cases h with
  | run _ => exact ⟨Nat.le_refl _, by omega⟩
  | lib _ h => cases h <;> exact ⟨by omega, by omega⟩

theorem WK.rely (h : WK P ty Low Wg Ch z v s tr d own g w) (hr : Ry (SB ty Low Wg Ch) own w w₁) : WK P ty Low Wg Ch z v s tr d own g w₁ := by
  cases h with
  | run h => exact .run (h.rely SB.tr hr)
  | lib hC h => exact .lib hC (h.rely (rw_of_ry hr hC))

theorem WK.status (h : WK P ty Low Wg Ch z v s tr d own g w) : g.status = .running ∨ g.status = .finished := by
  cases h with
  | run h => exact .inl (goesO_running SB.tr (fun _ _ _ h => h.1) h)
  | lib _ h => exact h.status
theorem WK.running (h : WK P ty Low Wg Ch z v s tr d own g w) (hs : s ≠ 1) : g.status = .running := by
  cases h with
  | run h => exact goesO_running SB.tr (fun _ _ _ h => h.1) h
  | lib _ h => exact h.running_of hs
theorem WK.woken (h : WK P ty Low Wg Ch z v s tr d own g w) (a a' : Goroutine) (w' : World) : woken P a a' w' g = g := by
  unfold Go.Conc.woken
  split
  · exact again_running _ h.status
  · rfl
end

/-- The channel holds what those that have sent have sent, in the order of their sending. -/
def ChanP (Ch n : Nat) (val : Nat → Value) (j : Nat) (st : Nat → Nat) (w : World) : Prop :=
  ∃ L : List Nat, L.Nodup ∧ (∀ i, i ∈ L ↔ i < j ∧ st i ≤ 7) ∧ w.heap[Ch]? = some (.chan n (L.map val).toArray false L.length 0 false)
theorem ChanP.congr {Ch n j : Nat} {val : Nat → Value} {st st' : Nat → Nat} {w w' : World} (h : ChanP Ch n val j st w) (hs : ∀ i, i < j → (st' i ≤ 7 ↔ st i ≤ 7)) (hw : w'.heap[Ch]? = w.heap[Ch]?) : ChanP Ch n val j st' w' := by
  obtain ⟨L, h1, h2, h3⟩ := h
  exact ⟨L, h1, fun i => (h2 i).trans ⟨fun ⟨a, b⟩ => ⟨a, (hs i a).2 b⟩, fun ⟨a, b⟩ => ⟨a, (hs i a).1 b⟩⟩, hw.trans h3⟩

section
variable [Payload] (P : Program) (ty : TypeId) (Low Wg Ch n : Nat) (z : Value) (val : Nat → Value) (w0 : World)
structure Crew (j : Nat) (gs : Array Goroutine) (w : World) (t : Trace) (ow : Nat → Nat → Prop) (om : Nat → Prop) (st df : Nat → Nat) (tr : Nat → T) (d0 : Nat) : Prop where
  size : gs.size = j + 1
  wk : ∀ i, i < j → ∃ g, gs[i + 1]? = some g ∧ WK P ty Low Wg Ch z (val i) (st i) (tr i) (df i) (ow i) g w
  ct : CT (ShN Wg) (OwnL j ow) (RdL Low Wg Ch) t j
  disj : ∀ i i' b, i < j → i' < j → ow i b → ow i' b → i = i'
  main : ∀ i b, i < j → ow i b → ¬ om b
  loW : ∀ i b, i < j → ow i b → Low ≤ b ∧ b < w.heap.size
  loM : ∀ b, om b → Low ≤ b ∧ b < w.heap.size
  loS : Low ≤ w.heap.size
  low : ∀ i a, touchAt t i = some a → a.loc.low w.heap.size
  atom : ∀ i a, touchAt t i = some a → a.kind = .atomic → ShN Wg a.loc
  norel : NoRelease (stA Wg) t
  deaf0 : Deaf t 0 = d0
  deafW : ∀ i, i < j → Deaf t (i + 1) = df i
  rel : ∀ i, i < j → st i ≤ 6 → ∃ r, RelBy (stA Wg) t (i + 1) r
  chan : ChanP Ch n val j st w
  shared : ∀ b, Sha Low Wg Ch b → w.heap[b]? = w0.heap[b]?
  tape : w.tape = w0.tape
  os : w.os = w0.os
  output : w.output = w0.output
end

section
variable [Payload] {P : Program} {ty : TypeId} {Low Wg Ch n : Nat} {z : Value} {val : Nat → Value} {w0 : World} {j : Nat} {gs gs' : Array Goroutine} {w w' : World} {t u : Trace} {ow : Nat → Nat → Prop} {om : Nat → Prop} {st df : Nat → Nat} {tr : Nat → T} {d0 : Nat}

theorem Crew.apart (h : Crew P ty Low Wg Ch n z val w0 j gs w t ow om st df tr d0) (hW : Wg < Low) : Apart (ShN Wg) (OwnL j ow) (RdL Low Wg Ch) := apart_of h.disj (fun i b hi hb => (h.loW i b hi hb).1) hW

theorem Crew.at (h : Crew P ty Low Wg Ch n z val w0 j gs w t ow om st df tr d0) (d : Nat) : Crew P ty Low Wg Ch n z val w0 j gs (w.at d) t ow om st df tr d0 :=
  ⟨h.size, fun i hi => let ⟨g, hg, hs⟩ := h.wk i hi; ⟨g, hg, hs.rely (ry_at' _ w d)⟩, h.ct, h.disj, h.main, h.loW, h.loM, h.loS, h.low, h.atom, h.norel, h.deaf0, h.deafW, h.rel, h.chan, h.shared, h.tape, h.os, h.output⟩

/-- What the operations of a step may touch. -/
def Touches (Wg B : Nat) (u : Trace) : Prop := ∀ op ∈ u, ∀ x, op.act.touch? = some x → x.loc.low B ∧ (x.kind = .atomic → ShN Wg x.loc)
omit [Payload] in
theorem Touches.low {B B' : Nat} (h : ∀ i a, touchAt t i = some a → a.loc.low B) (hB : B ≤ B') (hu : Touches Wg B' u) : ∀ i a, touchAt (t ++ u) i = some a → a.loc.low B' :=
  low_app (fun i a ha => Loc.low_mono hB (h i a ha)) fun op hop x hx => (hu op hop x hx).1
omit [Payload] in
theorem Touches.atom {B' : Nat} (h : ∀ i a, touchAt t i = some a → a.kind = .atomic → ShN Wg a.loc) (hu : Touches Wg B' u) : ∀ i a, touchAt (t ++ u) i = some a → a.kind = .atomic → ShN Wg a.loc := by
  intro i a ha
  obtain ⟨x, hx, hxa⟩ := touch_of ha
  rcases getElem?_append_cases hx with ⟨_, hx'⟩ | ⟨_, hxu⟩
  · exact h i a (by rw [touchAt_of hx']; exact hxa)
  · exact (hu x hxu a hxa).2

/-- A STEP OF WORKER NUMBER i. -/
theorem Crew.stepW (h : Crew P ty Low Wg Ch n z val w0 j gs w t ow om st df tr d0) (hW : Wg < Low) (hCh : Ch < Low) {i : Nat} (hi : i < j) {g' : Goroutine} {s' dd' : Nat} {tr' : T} (hm : Mv ty Wg Ch (ow i) w w')
    (hs' : WK P ty Low Wg Ch z (val i) s' tr' dd' (More (ow i) w w') g' w') (hok : ∀ op ∈ u, OkW (ShN Wg) (OwnL j (upd ow i (More (ow i) w w'))) (RdL Low Wg Ch) (i + 1) op) (hto : Touches Wg w'.heap.size u)
    (hnr : ∀ op ∈ u, op.act ≠ .mark (.release (stA Wg))) (hdeaf : Deaf (t ++ u) (i + 1) = dd') (hrel : s' ≤ 6 → ∃ r, RelBy (stA Wg) (t ++ u) (i + 1) r) (hchan : ChanP Ch n val j (upd st i s') w')
    (hsz : gs'.size = gs.size) (hgi : gs'[i + 1]? = some g') (hgk : ∀ k g, k < j → k ≠ i → gs[k + 1]? = some g → (g.status = .running ∨ g.status = .finished) → gs'[k + 1]? = some g) :
    Crew P ty Low Wg Ch n z val w0 j gs' w' (t ++ u) (upd ow i (More (ow i) w w')) om (upd st i s') (upd df i dd') (upd tr i tr') d0 := by
  have hu : ∀ op ∈ u, op.g = i + 1 := fun op hop => (hok op hop).1
  have hlo : ∀ b, ow i b → Low ≤ b := fun b hb => (h.loW i b hi hb).1
  have hloW' : ∀ i' b, i' < j → upd ow i (More (ow i) w w') i' b → Low ≤ b ∧ b < w'.heap.size := fun i' b hi' hb => by
    by_cases e : i' = i
    · subst e
      rw [upd_same] at hb
      rcases hb with hb | ⟨h1, h2⟩
      · have := h.loW i' b hi hb; have := hm.size; omega
      · have := h.loS; omega
    · rw [upd_ne ow _ e] at hb
      have := h.loW i' b hi' hb; have := hm.size; omega
  have hdisj : ∀ i1 i2 b, i1 < j → i2 < j → upd ow i (More (ow i) w w') i1 b → upd ow i (More (ow i) w w') i2 b → i1 = i2 := fun i1 i2 b h1 h2 hb1 hb2 => by
    by_cases e1 : i1 = i <;> by_cases e2 : i2 = i
    · rw [e1, e2]
    · subst e1
      rw [upd_same] at hb1
      rw [upd_ne ow _ e2] at hb2
      rcases hb1 with hb1 | ⟨hb1, _⟩
      · exact h.disj _ _ b h1 h2 hb1 hb2
      · have := h.loW i2 b h2 hb2; omega
    · subst e2
      rw [upd_same] at hb2
      rw [upd_ne ow _ e1] at hb1
      rcases hb2 with hb2 | ⟨hb2, _⟩
      · exact h.disj _ _ b h1 h2 hb1 hb2
      · have := h.loW i1 b h1 hb1; omega
    · rw [upd_ne ow _ e1] at hb1
      rw [upd_ne ow _ e2] at hb2
      exact h.disj _ _ b h1 h2 hb1 hb2
  refine ⟨hsz.trans h.size, fun k hk => ?_, (CT_more h.low h.ct).appW (apart_of hdisj (fun i' b hi' hb => (hloW' i' b hi' hb).1) hW) (by omega) (by omega) hok, hdisj, fun k b hk hb => ?_, hloW', fun b hb => ?_, ?_, hto.low h.low hm.size, hto.atom h.atom, h.norel.app hnr,
    by rw [Deaf_other t (g' := i + 1) (by omega) u hu]; exact h.deaf0, fun k hk => ?_, fun k hk hst => ?_, hchan, fun b hb => ?_, hm.tape.trans h.tape, hm.os.trans h.os, hm.output.trans h.output⟩
  · by_cases e : k = i
    · subst e
      exact ⟨g', hgi, by rw [upd_same, upd_same, upd_same, upd_same]; exact hs'⟩
    · obtain ⟨x, hx, hsx⟩ := h.wk k hk
      refine ⟨x, hgk k x hk e hx hsx.status, ?_⟩
      rw [upd_ne ow _ e, upd_ne st _ e, upd_ne df _ e, upd_ne tr _ e]
      refine hsx.rely (hm.ry hlo h.loS fun b hb => ?_)
      have := h.loW k b hk hb
      exact ⟨this.2, fun hbi => e (h.disj _ _ b hk hi hb hbi), by omega, by omega⟩
  · by_cases e : k = i
    · subst e
      rw [upd_same] at hb
      rcases hb with hb | ⟨h1, _⟩
      · exact h.main k b hk hb
      · exact fun hbm => by have := h.loM b hbm; omega
    · rw [upd_ne ow _ e] at hb
      exact h.main k b hk hb
  · have := h.loM b hb; have := hm.size; omega
  · have := h.loS; have := hm.size; omega
  · by_cases e : k = i
    · subst e; rw [upd_same]; exact hdeaf
    · rw [upd_ne df _ e, Deaf_other t (g' := i + 1) (by omega) u hu]
      exact h.deafW k hk
  · by_cases e : k = i
    · subst e; rw [upd_same] at hst; exact hrel hst
    · rw [upd_ne st _ e] at hst
      obtain ⟨r, hr⟩ := h.rel k hk hst
      exact ⟨r, hr.appOther hu (by omega)⟩
  · rw [← h.shared b hb]
    exact hm.aside b (by have := hb.1; have := h.loS; omega) (fun hx => by have := hlo b hx; have := hb.1; omega) hb.2.1 hb.2.2

/-- A STEP OF THE STARTER's. -/
theorem Crew.step0 (h : Crew P ty Low Wg Ch n z val w0 j gs w t ow om st df tr d0) (hW : Wg < Low) (hCh : Ch < Low) (hm : Mv ty Wg Ch om w w') (hok : ∀ op ∈ u, Ok0 (ShN Wg) (OwnL j ow) (RdL Low Wg Ch) j op) (hto : Touches Wg w'.heap.size u)
    (hnr : ∀ op ∈ u, op.act ≠ .mark (.release (stA Wg))) {d0' : Nat} (hdeaf : Deaf (t ++ u) 0 = d0') (hchan : w'.heap[Ch]? = w.heap[Ch]?)
    (hsz : gs'.size = gs.size) (hgk : ∀ k g, k < j → gs[k + 1]? = some g → (g.status = .running ∨ g.status = .finished) → gs'[k + 1]? = some g) :
    Crew P ty Low Wg Ch n z val w0 j gs' w' (t ++ u) ow (More om w w') st df tr d0' := by
  have hu : ∀ op ∈ u, op.g = 0 := fun op hop => (hok op hop).1
  have hlo : ∀ b, om b → Low ≤ b := fun b hb => (h.loM b hb).1
  refine ⟨hsz.trans h.size, fun k hk => ?_, h.ct.app0 (h.apart hW) hok, h.disj, fun k b hk hb hbm => ?_, fun k b hk hb => ?_, fun b hb => ?_, ?_, hto.low h.low hm.size, hto.atom h.atom, h.norel.app hnr, hdeaf,
    fun k hk => by rw [Deaf_other t (g' := 0) (by omega) u hu]; exact h.deafW k hk, fun k hk hst => ?_, h.chan.congr (fun _ _ => Iff.rfl) hchan, fun b hb => ?_, hm.tape.trans h.tape, hm.os.trans h.os, hm.output.trans h.output⟩
  · obtain ⟨x, hx, hsx⟩ := h.wk k hk
    refine ⟨x, hgk k x hk hx hsx.status, hsx.rely (hm.ry hlo h.loS fun b hb => ?_)⟩
    have := h.loW k b hk hb
    exact ⟨this.2, h.main k b hk hb, by omega, by omega⟩
  · rcases hbm with hbm | ⟨hbm, _⟩
    · exact h.main k b hk hb hbm
    · have := h.loW k b hk hb; omega
  · have := h.loW k b hk hb; have := hm.size; omega
  · have := hm.size
    rcases hb with hb | ⟨h1, h2⟩
    · have := h.loM b hb; omega
    · have := h.loS; omega
  · have := h.loS; have := hm.size; omega
  · obtain ⟨r, hr⟩ := h.rel k hk hst
    exact ⟨r, hr.appOther hu (by omega)⟩
  · rw [← h.shared b hb]
    exact hm.aside b (by have := hb.1; have := h.loS; omega) (fun hx => by have := hlo b hx; have := hb.1; omega) hb.2.1 hb.2.2

/-- THE go STATEMENT: the child takes the block c along. -/
theorem Crew.spawn (h : Crew P ty Low Wg Ch n z val w0 j gs w t ow om st df tr 0) (hW : Wg < Low) (hCh : Ch < Low) {a' child : Goroutine} {x y : MemOp} {tr' : T} {c : Nat → Prop} (hc : ∀ b, c b → om b) (hx : x.g = 0 ∧ x.act = .go (j + 1)) (hy : y.g = j + 1 ∧ y.act = .start)
    (hk : GoesO P false (SB ty Low Wg Ch) (DL (Sha Low Wg Ch)) (AtSend P ty Wg Ch z (val j)) tr' c child w) :
    Crew P ty Low Wg Ch n z val w0 (j + 1) ((gs.setIfInBounds 0 a').push child) w (t ++ #[x, y]) (upd ow j c) (fun b => om b ∧ ¬ c b) (upd st j 8) (upd df j 0) (upd tr j tr') 0 := by
  have hmm : ∀ op ∈ #[x, y], op = x ∨ op = y := by intro op hop; simpa using hop
  have hst : ∀ op ∈ #[x, y], op.act ≠ .mark .disable ∧ op.act ≠ .mark .enable := by
    intro op hop
    rcases hmm op hop with rfl | rfl
    · rw [hx.2]; exact ⟨by simp, by simp⟩
    · rw [hy.2]; exact ⟨by simp, by simp⟩
  have hto : Touches Wg w.heap.size #[x, y] := by
    intro op hop b hb
    rcases hmm op hop with rfl | rfl
    · rw [hx.2] at hb; cases hb
    · rw [hy.2] at hb; cases hb
  have hne : ∀ i, i < j → i ≠ j := fun i hi => by omega
  have hloW' : ∀ i b, i < j + 1 → upd ow j c i b → Low ≤ b ∧ b < w.heap.size := fun i b hi hb => by
    by_cases e : i = j
    · subst e; rw [upd_same] at hb; exact h.loM b (hc b hb)
    · rw [upd_ne ow _ e] at hb; exact h.loW i b (by omega) hb
  have hdisj : ∀ i i' b, i < j + 1 → i' < j + 1 → upd ow j c i b → upd ow j c i' b → i = i' := fun i1 i2 b h1 h2 hb1 hb2 => by
    by_cases e1 : i1 = j <;> by_cases e2 : i2 = j
    · rw [e1, e2]
    · subst e1; rw [upd_same] at hb1; rw [upd_ne ow _ e2] at hb2
      exact absurd (hc b hb1) (h.main i2 b (by omega) hb2)
    · subst e2; rw [upd_same] at hb2; rw [upd_ne ow _ e1] at hb1
      exact absurd (hc b hb2) (h.main i1 b (by omega) hb1)
    · rw [upd_ne ow _ e1] at hb1; rw [upd_ne ow _ e2] at hb2
      exact h.disj _ _ b (by omega) (by omega) hb1 hb2
  have hct : CT (ShN Wg) (OwnL (j + 1) (upd ow j c)) (RdL Low Wg Ch) t j := CT_grow h.ct
    (fun k l _ kj ⟨h1, h2, b, hb, hw⟩ => ⟨h1, by omega, b, hb, by rw [upd_ne ow _ (by omega)]; exact hw⟩) (fun k l _ kj ⟨h1, h2, b, hb, hw⟩ => .inl ⟨h1, kj, b, hb, by rw [upd_ne ow _ (by omega)] at hw; exact hw⟩)
  refine ⟨by simp [h.size], fun i hi => ?_, hct.fork (apart_of hdisj (fun i b hi hb => (hloW' i b hi hb).1) hW) hx hy h.deaf0, hdisj, fun i b hi hb hbm => ?_, hloW', fun b hb => h.loM b hb.1, h.loS, hto.low h.low (Nat.le_refl _), hto.atom h.atom, h.norel.app fun op hop => ?_,
    by rw [Deaf_still t 0 _ hst, h.deaf0], fun i hi => ?_, fun i hi hs => ?_, ?_, h.shared, h.tape, h.os, h.output⟩
  · rcases Nat.lt_or_ge i j with hlt | hge
    · obtain ⟨g, hg, hsg⟩ := h.wk i hlt
      refine ⟨g, ?_, by rw [upd_ne ow _ (hne i hlt), upd_ne st _ (hne i hlt), upd_ne df _ (hne i hlt), upd_ne tr _ (hne i hlt)]; exact hsg⟩
      rw [Array.getElem?_push_lt (by simp [h.size]; omega), ← Array.getElem?_eq_getElem, Array.getElem?_setIfInBounds_ne (by omega)]
      exact hg
    · obtain rfl : i = j := by omega
      refine ⟨child, ?_, by rw [upd_same, upd_same, upd_same, upd_same]; exact .run hk⟩
      rw [show i + 1 = (gs.setIfInBounds 0 a').size by simp [h.size], Array.getElem?_push_size]
  · by_cases e : i = j
    · subst e; rw [upd_same] at hb; exact hbm.2 hb
    · rw [upd_ne ow _ e] at hb; exact h.main i b (by omega) hb hbm.1
  · rcases hmm op hop with rfl | rfl
    · rw [hx.2]; simp
    · rw [hy.2]; simp
  · rw [Deaf_still t _ _ hst]
    rcases Nat.lt_or_ge i j with hlt | hge
    · rw [h.deafW i hlt, upd_ne df _ (hne i hlt)]
    · obtain rfl : i = j := by omega
      rw [upd_same]
      exact Deaf_absent fun a op ha e => by have := h.ct.gs a op ha; omega
  · rcases Nat.lt_or_ge i j with hlt | hge
    · rw [upd_ne st _ (hne i hlt)] at hs
      obtain ⟨r, hr⟩ := h.rel i hlt hs
      refine ⟨r, hr.appNot fun op hop => ?_⟩
      rcases hmm op hop with rfl | rfl
      · rw [hx.1]; omega
      · rw [hy.1]; omega
    · obtain rfl : i = j := by omega
      rw [upd_same] at hs; omega
  · obtain ⟨L, h1, h2, h3⟩ := h.chan
    refine ⟨L, h1, fun i => (h2 i).trans ⟨fun ⟨a, b⟩ => ⟨by omega, by rw [upd_ne st _ (hne i a)]; exact b⟩, fun ⟨a, b⟩ => ?_⟩, h3⟩
    by_cases e : i = j
    · subst e; rw [upd_same] at b; omega
    · rw [upd_ne st _ e] at b; exact ⟨by omega, b⟩
end
end Go.Par
namespace Go.Par
open Go.Conc Go.ConcN
open Go.ConcR (KK wgBlock WgAt stA smA rd wr mk DC0 Bk g_of_ofEvents loc_of_ofEvent Payload bk_of_mute ofEvent_loc_mark again_blocked)

section
variable (P : Program) (ty : TypeId) (Low Wg Ch n : Nat) (z : Value) (val : Nat → Value) (Cont Anch : (Nat → Prop) → Goroutine → World → Prop)
def RM (own : Nat → Prop) : World → World → Prop := Ry (SB ty Low Wg Ch) own
/-- A walk of the starter's own. -/
def GM (Stop : (Nat → Prop) → Goroutine → World → Prop) (own : Nat → Prop) (g : Goroutine) (w : World) : Prop := ∃ tr, GoesO P true (SB ty Low Wg Ch) (DL (Sha Low Wg Ch)) Stop tr own g w
/-- It stands at the go statement: the child takes the blocks c along. -/
def AtGo [Payload] (i : Nat) (Next : (Nat → Prop) → Goroutine → World → Prop) (own : Nat → Prop) (g : Goroutine) (w : World) : Prop :=
  g.status = .running ∧ ∃ g' child, ∃ c : Nat → Prop, stepG P true g w = .spawn g' child w #[] ∧ (∀ b, c b → own b) ∧
    (∃ tr, GoesO P false (SB ty Low Wg Ch) (DL (Sha Low Wg Ch)) (AtSend P ty Wg Ch z (val i)) tr c child w) ∧ Next (fun b => own b ∧ ¬ c b) g' w
def WaitSt (own : Nat → Prop) (g : Goroutine) (w : World) : Prop := MWd P (RM ty Low Wg Ch own) (Anch own) g w
/-- r workers are still to be started. -/
def Sp [Payload] : Nat → (Nat → Prop) → Goroutine → World → Prop
  | 0, own, g, w => GM P ty Low Wg Ch (WaitSt P ty Low Wg Ch Anch) own g w
  | r + 1, own, g, w => GM P ty Low Wg Ch (fun own g w => MKd P ty Wg (RM ty Low Wg Ch own) (GM P ty Low Wg Ch (AtGo P ty Low Wg Ch z val (n - (r + 1)) (Sp r)) own) g w) own g w
/-- Behind the Add. -/
def Bk1 [Payload] (r : Nat) (own : Nat → Prop) (g : Goroutine) (w : World) : Prop := GM P ty Low Wg Ch (AtGo P ty Low Wg Ch z val (n - (r + 1)) (Sp P ty Low Wg Ch n z val Anch r)) own g w

/-- The starter's situation: tag, a second rank, how many are started, its steps' tree, deafness. -/
inductive CS [Payload] : CTag → Nat → Nat → T → Nat → (Nat → Prop) → Goroutine → World → Prop
  | skd {r : Nat} {tr : T} {own : Nat → Prop} {g : Goroutine} {w : World} : r < n → GoesO P true (SB ty Low Wg Ch) (DL (Sha Low Wg Ch)) (fun own g w => MKd P ty Wg (RM ty Low Wg Ch own) (Bk1 P ty Low Wg Ch n z val Anch r own) g w) tr own g w → CS (.sp r 5) 0 (n - (r + 1)) tr 0 own g w
  | sa1 {r m : Nat} {own : Nat → Prop} {g : Goroutine} {w : World} : r < n → Goes P true (RM ty Low Wg Ch own) DC0 (MA1 P ty Wg (RM ty Low Wg Ch own) (Bk1 P ty Low Wg Ch n z val Anch r own)) m g w → CS (.sp r 4) 0 (n - (r + 1)) (T.chain m) 1 own g w
  | ssr {r m : Nat} {own : Nat → Prop} {g : Goroutine} {w : World} : r < n → Goes P true (RM ty Low Wg Ch own) DC0 (MSr P Wg (RM ty Low Wg Ch own) (Bk1 P ty Low Wg Ch n z val Anch r own)) m g w → CS (.sp r 3) 0 (n - (r + 1)) (T.chain m) 1 own g w
  | ske {r m : Nat} {own : Nat → Prop} {g : Goroutine} {w : World} : r < n → Goes P true (RM ty Low Wg Ch own) DC0 (MKe P (RM ty Low Wg Ch own) (Bk1 P ty Low Wg Ch n z val Anch r own)) m g w → CS (.sp r 2) 0 (n - (r + 1)) (T.chain m) 1 own g w
  | sgo {r : Nat} {tr : T} {own : Nat → Prop} {g : Goroutine} {w : World} : r < n → GoesO P true (SB ty Low Wg Ch) (DL (Sha Low Wg Ch)) (AtGo P ty Low Wg Ch z val (n - (r + 1)) (Sp P ty Low Wg Ch n z val Anch r)) tr own g w → CS (.sp r 1) 0 (n - (r + 1)) tr 0 own g w
  | kd {tr : T} {own : Nat → Prop} {g : Goroutine} {w : World} : GoesO P true (SB ty Low Wg Ch) (DL (Sha Low Wg Ch)) (WaitSt P ty Low Wg Ch Anch) tr own g w → CS .kd 0 n tr 0 own g w
  | anch {m : Nat} {own : Nat → Prop} {g : Goroutine} {w : World} : Goes P true (RM ty Low Wg Ch own) DC0 (Anch own) m g w → CS .anch 0 n (T.chain m) 1 own g w
  | w1 {m : Nat} {own : Nat → Prop} {g : Goroutine} {w : World} : Goes P true (RM ty Low Wg Ch own) DC0 (MW1 P ty Wg (RM ty Low Wg Ch own) (Cont own) (Anch own)) m g w → CS .w1 0 n (T.chain m) 1 own g w
  | w2 {vs m : Nat} {own : Nat → Prop} {g : Goroutine} {w : World} : Goes P true (RM ty Low Wg Ch own) DC0 (MW2 P ty Wg (RM ty Low Wg Ch own) (Cont own) (Anch own) vs) m g w → CS (.w2 vs) 0 n (T.chain m) 1 own g w
  | sw {m : Nat} {own : Nat → Prop} {g : Goroutine} {w : World} : Goes P true (RM ty Low Wg Ch own) DC0 (MSw P ty Wg (RM ty Low Wg Ch own) (Cont own)) m g w → CS .w3 1 n (T.chain m) 1 own g w
  | w3 {m : Nat} {own : Nat → Prop} {g : Goroutine} {w : World} : Goes P true (RM ty Low Wg Ch own) DC0 (MW3 P ty Wg (RM ty Low Wg Ch own) (Cont own)) m g w → CS .w3 0 n (T.chain (m + 1)) 1 own g w
  | blk {tr : T} {own : Nat → Prop} {g : Goroutine} {w : World} : (∀ w₁, RM ty Low Wg Ch own w w₁ → MW3 P ty Wg (RM ty Low Wg Ch own) (Cont own) g w₁) → CS .blk 0 n tr 1 own { g with status := .blocked } w
  | w4 {m : Nat} {own : Nat → Prop} {g : Goroutine} {w : World} : Goes P true (RM ty Low Wg Ch own) DC0 (MW4 P ty Wg (RM ty Low Wg Ch own) (Cont own)) m g w → CS .w4 0 n (T.chain m) 1 own g w
  | ke {m : Nat} {own : Nat → Prop} {g : Goroutine} {w : World} : Goes P true (RM ty Low Wg Ch own) DC0 (MWe P Wg (RM ty Low Wg Ch own) (Cont own)) m g w → CS .ke 0 n (T.chain m) 1 own g w
  | acq {m : Nat} {own : Nat → Prop} {g : Goroutine} {w : World} : Goes P true (RM ty Low Wg Ch own) DC0 (MAcq P Wg (RM ty Low Wg Ch own) (Cont own)) m g w → CS .acq 0 n (T.chain m) 0 own g w
end

section
variable [Payload] {P : Program} {ty : TypeId} {Low Wg Ch n : Nat} {z : Value} {val : Nat → Value} {Cont Anch : (Nat → Prop) → Goroutine → World → Prop}
  {tag : CTag} {sub j d : Nat} {tr : T} {own : Nat → Prop} {a : Goroutine} {w w₁ : World}

omit [Payload] in
theorem RM.trans (own : Nat → Prop) (x y z : World) (h : RM ty Low Wg Ch own x y) (k : RM ty Low Wg Ch own y z) : RM ty Low Wg Ch own x z := Ry.trans SB.tr h k
omit [Payload] in
theorem RM.refl (own : Nat → Prop) (w : World) : RM ty Low Wg Ch own w w := Ry.refl SB.tr own w

theorem CS.rely (h : CS P ty Low Wg Ch n z val Cont Anch tag sub j tr d own a w) (hr : RM ty Low Wg Ch own w w₁) : CS P ty Low Wg Ch n z val Cont Anch tag sub j tr d own a w₁ := by
  cases h with
  | skd hn h => exact .skd hn (h.rely SB.tr hr)
  | sa1 hn h => exact .sa1 hn (Goes.rely (RM.trans _) h hr)
  | ssr hn h => exact .ssr hn (Goes.rely (RM.trans _) h hr)
  | ske hn h => exact .ske hn (Goes.rely (RM.trans _) h hr)
  | sgo hn h => exact .sgo hn (h.rely SB.tr hr)
  | kd h => exact .kd (h.rely SB.tr hr)
  | anch h => exact .anch (Goes.rely (RM.trans _) h hr)
  | w1 h => exact .w1 (Goes.rely (RM.trans _) h hr)
  | w2 h => exact .w2 (Goes.rely (RM.trans _) h hr)
  | sw h => exact .sw (Goes.rely (RM.trans _) h hr)
  | w3 h => exact .w3 (Goes.rely (RM.trans _) h hr)
  | blk h => exact .blk fun w₂ h₂ => h w₂ (RM.trans _ _ _ _ hr h₂)
  | w4 h => exact .w4 (Goes.rely (RM.trans _) h hr)
  | ke h => exact .ke (Goes.rely (RM.trans _) h hr)
  | acq h => exact .acq (Goes.rely (RM.trans _) h hr)

theorem CS.status (hAr : ∀ own g w, Anch own g w → g.status = .running) (h : CS P ty Low Wg Ch n z val Cont Anch tag sub j tr d own a w) : (a.status = .running ∧ tag ≠ .blk) ∨ (a.status = .blocked ∧ a.offers = none ∧ tag = .blk) := by
  cases h with
  | skd _ h => exact .inl ⟨goesO_running SB.tr (fun _ _ _ x => x.1) h, by simp⟩
  | sa1 _ h => exact .inl ⟨Goes.running (fun _ _ x => x.1) w (RM.refl _ w) h, by simp⟩
  | ssr _ h => exact .inl ⟨Goes.running (fun _ _ x => x.1) w (RM.refl _ w) h, by simp⟩
  | ske _ h => exact .inl ⟨Goes.running (fun _ _ x => x.1) w (RM.refl _ w) h, by simp⟩
  | sgo _ h => exact .inl ⟨goesO_running SB.tr (fun _ _ _ x => x.1) h, by simp⟩
  | kd h => exact .inl ⟨goesO_running SB.tr (fun _ _ _ x => x.1) h, by simp⟩
  | anch h => exact .inl ⟨Goes.running (hAr _) w (RM.refl _ w) h, by simp⟩
  | w1 h => exact .inl ⟨Goes.running (fun _ _ x => x.1) w (RM.refl _ w) h, by simp⟩
  | w2 h => exact .inl ⟨Goes.running (fun _ _ x => x.1) w (RM.refl _ w) h, by simp⟩
  | sw h => exact .inl ⟨Goes.running (fun _ _ x => x.1) w (RM.refl _ w) h, by simp⟩
  | w3 h => exact .inl ⟨Goes.running (fun _ _ x => x.1) w (RM.refl _ w) h, by simp⟩
  | blk h => exact .inr ⟨rfl, (h w (RM.refl _ w)).2.1, rfl⟩
  | w4 h => exact .inl ⟨Goes.running (fun _ _ x => x.1) w (RM.refl _ w) h, by simp⟩
  | ke h => exact .inl ⟨Goes.running (fun _ _ x => x.1) w (RM.refl _ w) h, by simp⟩
  | acq h => exact .inl ⟨Goes.running (fun _ _ x => x.1) w (RM.refl _ w) h, by simp⟩

theorem CS.bound (h : CS P ty Low Wg Ch n z val Cont Anch tag sub j tr d own a w) : j + pend tag ≤ n := by
  cases h <;> simp only [pend] <;> (try simp) <;> omega

/-- Under another's step. -/
theorem CS.wokenBy (hAr : ∀ own g w, Anch own g w → g.status = .running) (h : CS P ty Low Wg Ch n z val Cont Anch tag sub j tr d own a w) (hr : RM ty Low Wg Ch own w w₁) (g g' : Goroutine) :
    ∃ tag' tr', CS P ty Low Wg Ch n z val Cont Anch tag' sub j tr' d own (woken P g g' w₁ a) w₁ ∧ (tag' = tag ∨ (tag = .blk ∧ tag' = .w3)) ∧ (mayWake P g = true → g'.status = .running → tag' ≠ .blk) := by
  have h' := h.rely hr
  unfold Go.Conc.woken
  split
  · rcases h'.status hAr with ⟨hs, hne⟩ | ⟨_, _, rfl⟩
    · exact ⟨tag, tr, by rw [again_running _ (.inl hs)]; exact h', .inl rfl, fun _ _ => hne⟩
    · cases h' with
      | blk hb =>
        have h3 := hb w₁ (RM.refl _ w₁)
        exact ⟨.w3, _, by rw [again_blocked h3.1 h3.2.1]; exact .w3 (m := 0) (Goes.stop hb), .inr ⟨rfl, rfl⟩, fun _ _ => by simp⟩
  · rename_i hc
    exact ⟨tag, tr, h', .inl rfl, fun h1 h2 => absurd (by simp [h1, h2]) hc⟩
end

/-! ### the measure -/
abbrev Ms := Nat × (List T × T)
def Lt3 : Ms → Ms → Prop := Prod.Lex (· < ·) (Prod.Lex LtL T.Lt)
theorem Lt3.wf : WellFounded Lt3 := (Prod.lex Nat.lt_wfRel (Prod.lex ⟨_, LtL.wf⟩ ⟨_, T.wf⟩)).wf

/-- The library's words of a worker's stage: 8 counts as 7. -/
def md (st : Nat → Nat) : Nat → WD := fun i => ⟨min (st i) 7, 0, 0⟩
theorem md_upd (st : Nat → Nat) (i s : Nat) : md (upd st i s) = upd (md st) i ⟨min s 7, 0, 0⟩ := by
  funext a
  by_cases e : a = i
  · subst e; simp [md, upd_same]
  · simp [md, upd_ne _ _ e]
def rk (n j : Nat) (st : Nat → Nat) (tag : CTag) (sub : Nat) : Nat := phi n (Vc j (md st)) tag + sub + sumTo j st

theorem nodup_lt : ∀ (j : Nat) (L : List Nat), L.Nodup → (∀ x ∈ L, x < j) → L.length ≤ j
  | 0, L, _, h => by
    cases L with
    | nil => simp
    | cons a l => have := h a (by simp); omega
  | j + 1, L, hn, h => by
    by_cases hj : j ∈ L
    · have := nodup_lt j (L.erase j) (hn.erase j) fun x hx => by
        have := (hn.mem_erase_iff).1 hx
        have := h x this.2
        omega
      rw [List.length_erase_of_mem hj] at this
      omega
    · have := nodup_lt j L hn fun x hx => by
        have := h x hx
        have : x ≠ j := fun e => hj (e ▸ hx)
        omega
      omega

section
variable [Payload] (P : Program) (ty : TypeId) (Low Wg Ch n : Nat) (z : Value) (val : Nat → Value) (Cont Anch : (Nat → Prop) → Goroutine → World → Prop) (w0 : World)
def InvC (μ : Ms) (m : Machine) (t : Trace) : Prop :=
  ∃ (gs : Array Goroutine) (w : World) (sl : Option (Nat × Nat)) (j : Nat) (ow : Nat → Nat → Prop) (om : Nat → Prop) (st df : Nat → Nat) (tr : Nat → T) (tag : CTag) (sub : Nat) (trm : T) (d0 : Nat) (a : Goroutine) (s1 s2 : Int),
    m = crowd gs w sl ∧ gs[0]? = some a ∧ CS P ty Low Wg Ch n z val Cont Anch tag sub j trm d0 om a w ∧ Crew P ty Low Wg Ch n z val w0 j gs w t ow om st df tr d0 ∧ WgAt ty Wg w s1 s2 ∧ ConcN.Mode j (md st) tag s1 s2 ∧
    μ = (rk n j st tag sub, (List.range j).map tr, trm)
end

section
variable [Payload] {P : Program} {ty : TypeId} {Low Wg Ch n : Nat} {z : Value} {val : Nat → Value} {Cont Anch : (Nat → Prop) → Goroutine → World → Prop} {w0 : World}
  {j : Nat} {gs : Array Goroutine} {w w' : World} {sl : Option (Nat × Nat)} {t : Trace} {ow : Nat → Nat → Prop} {om : Nat → Prop} {st df : Nat → Nat} {tr : Nat → T} {tag : CTag} {sub d0 : Nat} {trm : T} {a : Goroutine} {s1 s2 : Int}

omit [Payload] in
theorem cnt_le {x y : WD} (h : x.stage ≤ y.stage) : cnt x ≤ cnt y := by
  simp only [cnt]
  by_cases h5 : 5 ≤ x.stage
  · rw [if_pos h5, if_pos (by omega)]; exact Nat.le_refl _
  · rw [if_neg h5]; exact Nat.zero_le _
omit [Payload] in
theorem rk_retag (n j : Nat) (st : Nat → Nat) (sub : Nat) {tag tag' : CTag} (e : tag' = tag ∨ (tag = .blk ∧ tag' = .w3)) : rk n j st tag' sub = rk n j st tag sub := by simp only [rk, phi_retag n _ e]

/-- WHATEVER STEP OF WORKER NUMBER i. -/
theorem workerAny (hW : Wg < Low) (hCh : Ch < Low) (hcom : Crew P ty Low Wg Ch n z val w0 j gs w t ow om st df tr d0)
    {i : Nat} (hi : i < j) {g' : Goroutine} {s' dd' : Nat} {tr' trm' : T} {s1' s2' : Int} {gs' : Array Goroutine} {u : Trace} {a' : Goroutine} {tag' : CTag} (hrun : runT P (crowd gs w sl) (i + 1) = (.next (crowd gs' w' sl), u)) (hm : Mv ty Wg Ch (ow i) w w')
    (ha' : gs'[0]? = some a') (hcs' : CS P ty Low Wg Ch n z val Cont Anch tag' sub j trm' d0 om a' w') (htag : tag' = tag ∨ (tag = .blk ∧ tag' = .w3))
    (hs' : WK P ty Low Wg Ch z (val i) s' tr' dd' (More (ow i) w w') g' w') (hok : ∀ op ∈ u, OkW (ShN Wg) (OwnL j (upd ow i (More (ow i) w w'))) (RdL Low Wg Ch) (i + 1) op) (hto : Touches Wg w'.heap.size u)
    (hnr : ∀ op ∈ u, op.act ≠ .mark (.release (stA Wg))) (hdeaf : Deaf (t ++ u) (i + 1) = dd') (hrel : s' ≤ 6 → ∃ r, RelBy (stA Wg) (t ++ u) (i + 1) r) (hchan : ChanP Ch n val j (upd st i s') w')
    (hsz : gs'.size = gs.size) (hgi : gs'[i + 1]? = some g') (hgk : ∀ k g, k < j → k ≠ i → gs[k + 1]? = some g → (g.status = .running ∨ g.status = .finished) → gs'[k + 1]? = some g)
    (hwg : WgAt ty Wg w' s1' s2') (hmode : ConcN.Mode j (md (upd st i s')) tag' s1' s2') (hlt : (s' < st i) ∨ (s' = st i ∧ T.Lt tr' (tr i))) :
    ∃ m₁ ops μ', runT P (crowd gs w sl) (i + 1) = (.next m₁, ops) ∧ Lt3 μ' (rk n j st tag sub, (List.range j).map tr, trm) ∧ InvC P ty Low Wg Ch n z val Cont Anch w0 μ' m₁ (t ++ ops) := by
  refine ⟨_, _, (rk n j (upd st i s') tag' sub, (List.range j).map (upd tr i tr'), trm'), hrun, ?_, gs', w', sl, j, _, om, _, _, _, tag', sub, trm', d0, a', s1', s2', rfl, ha', hcs',
    hcom.stepW hW hCh hi hm hs' hok hto hnr hdeaf hrel hchan hsz hgi hgk, hwg, hmode, rfl⟩
  have e2 : sumTo j (upd st i s') + st i = sumTo j st + s' := sumTo_upd st s' id hi
  have e1 := Vc_upd (md st) (⟨min s' 7, 0, 0⟩ : WD) hi
  rw [← md_upd] at e1
  rcases hlt with h1 | ⟨rfl, h2⟩
  · refine Prod.Lex.left _ _ ?_
    have hc : cnt (⟨min s' 7, 0, 0⟩ : WD) ≤ cnt (md st i) := cnt_le (show min s' 7 ≤ (md st i).stage by show min s' 7 ≤ min (st i) 7; omega)
    have := phi_mono n (v' := Vc j (md (upd st i s'))) (v := Vc j (md st)) (by omega) tag
    rw [rk_retag n j _ sub htag]
    simp only [rk]
    omega
  · have hst : upd st i (st i) = st := by
      funext b
      by_cases e : b = i
      · subst e; rw [upd_same]
      · rw [upd_ne _ _ e]
    rw [hst, rk_retag n j st sub htag]
    exact Prod.Lex.right _ (Prod.Lex.left _ _ (ltL_map hi h2))

/-- A step of its own. -/
theorem workerGo (hAr : ∀ own g w, Anch own g w → g.status = .running) (hW : Wg < Low) (hCh : Ch < Low) (ha : gs[0]? = some a) (hcs : CS P ty Low Wg Ch n z val Cont Anch tag sub j trm d0 om a w) (hcom : Crew P ty Low Wg Ch n z val w0 j gs w t ow om st df tr d0)
    {i : Nat} (hi : i < j) {g g' : Goroutine} {es : Array Event} {s' dd' : Nat} {tr' : T} {s1' s2' : Int} (hg : gs[i + 1]? = some g) (hgo : stepG P false g w = .go g' w' es) (hm : Mv ty Wg Ch (ow i) w w')
    (hs' : WK P ty Low Wg Ch z (val i) s' tr' dd' (More (ow i) w w') g' w') (hok : ∀ op ∈ MemOp.ofEvents (i + 1) g.frame.fn g.frame.place es, OkW (ShN Wg) (OwnL j (upd ow i (More (ow i) w w'))) (RdL Low Wg Ch) (i + 1) op)
    (hto : Touches Wg w'.heap.size (MemOp.ofEvents (i + 1) g.frame.fn g.frame.place es)) (hnr : ∀ e ∈ es, e.loc ≠ .mark (.release (stA Wg))) (hdeaf : deafBehind (df i) es = dd')
    (hrel : s' ≤ 6 → ∃ r, RelBy (stA Wg) (t ++ MemOp.ofEvents (i + 1) g.frame.fn g.frame.place es) (i + 1) r) (hchan : w'.heap[Ch]? = w.heap[Ch]?) (h78 : s' ≤ 7 ↔ st i ≤ 7)
    (hwg : WgAt ty Wg w' s1' s2') (hmode : ∀ tag', (tag' = tag ∨ (tag = .blk ∧ tag' = .w3)) → (mayWake P g = true → g'.status = .running → tag' ≠ .blk) → ConcN.Mode j (md (upd st i s')) tag' s1' s2') (hlt : (s' < st i) ∨ (s' = st i ∧ T.Lt tr' (tr i))) :
    ∃ m₁ ops μ', runT P (crowd gs w sl) (i + 1) = (.next m₁, ops) ∧ Lt3 μ' (rk n j st tag sub, (List.range j).map tr, trm) ∧ InvC P ty Low Wg Ch n z val Cont Anch w0 μ' m₁ (t ++ ops) := by
  have hrm : RM ty Low Wg Ch om w w' := hm.ry (fun b hb => (hcom.loW i b hi hb).1) hcom.loS fun b hb => by
    have := hcom.loM b hb
    exact ⟨this.2, fun hb' => hcom.main i b hi hb' hb, by omega, by omega⟩
  obtain ⟨tag', trm', hcs', htag, hwk⟩ := hcs.wokenBy hAr hrm g g'
  have hrun := runT_crowd_go (P := P) (sl := sl) (i := i + 1) hg (by simpa using hgo)
  refine workerAny hW hCh hcom hi hrun hm (by rw [get_map_set _ _ _ _ (by omega), ha]; rfl) hcs' htag hs' hok hto (fun op hop => norel_of hnr op hop) (by rw [Deaf_own, hcom.deafW i hi]; exact hdeaf) hrel (hcom.chan.congr (fun i' _ => ?_) hchan) (by simp) (get_map_set_same _ _ _ (by rw [hcom.size]; omega)) (fun k x _ hk hx hb => ?_) hwg (hmode tag' htag hwk) hlt
  · by_cases e : i' = i
    · subst e; rw [upd_same]; exact h78
    · rw [upd_ne st _ e]
  · rw [get_map_set _ _ _ _ (by omega), hx, Option.map_some]
    unfold Go.Conc.woken
    split
    · rw [again_running _ hb]
    · rfl
end
end Go.Par
