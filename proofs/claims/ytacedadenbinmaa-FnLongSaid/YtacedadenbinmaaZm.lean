/- LoadLeast and LoadEven: what they do alone (nothing told, too many loads, no loads), and their parts. Conditions: the list is short enough to be counted. LoadLeast in company: from its entry to its return into its caller, on whatever tape. Conditions: the list is short enough to be counted. LoadLeast and LoadEven in company: from the entry to the return into the caller, on whatever tape. Conditions: the list is short enough to be counted. LoadLeast and LoadEven on whatever tape, from goroutine 0 alone to beside whoever leaves. Conditions: the list is short enough to be counted. LoadEven on whatever tape. Conditions: the list is short enough to be counted. A law that calls once what starts goroutines: its run, on whatever tape. Conditions: what its statements do alone. The functions that a law runs in company: their code is let by. Conditions: none. -/
import Derived.Test.YtacedadenbinmaaZl
import Derived.Test.YtacedadenbinmaaZi
import Derived.Test.YtacedadenbinmaaZf
import Derived.KernelRfl
set_option linter.unusedVariables false
set_option linter.unusedSimpArgs false
set_option linter.unusedSectionVars false
namespace Go.Proofs.Ytacedadenbinmaa
open Go.RowKit Go.Par Go.Conc

/-- the least span with the number of ways -/
def tlV (zs : List Int) (m : Int) : Int × Int := tal (spans zs (List.replicate m.toNat 0))
def llV (zs : List Int) (m : Int) : Int × Bool := if toldL zs m = true ∧ zs.length ≤ 8 then ((tlV zs m).1, true) else (0, false)
def leV (zs : List Int) (m : Int) : Int × Bool := if toldL zs m = true ∧ zs.length ≤ 6 then ((tlV zs m).2, true) else (0, false)
def twoV (r : Int × Bool) : Value := .tuple #[.int .i64 r.1, .bool r.2]

theorem tlV_nil {m : Int} (h : 1 ≤ m ∧ m ≤ 5) : tlV [] m = (0, 1) := by
  obtain ⟨n, rfl⟩ : ∃ n : Nat, m = n := ⟨m.toNat, by omega⟩
  simp only [tlV, Int.toNat_natCast]
  match n, h with
  | 1, _ => decide
  | 2, _ => decide
  | 3, _ => decide
  | 4, _ => decide
  | 5, _ => decide

@[local go_sem] theorem fieldT0 (a b : Int) (w : World) : (Instr.field 40 (.agg #[.int .i64 a, .int .i64 b]) 0).run Try.prog w = .ok (.int .i64 a) w := by kernel_rfl
@[local go_sem] theorem fieldT1 (a b : Int) (w : World) : (Instr.field 40 (.agg #[.int .i64 a, .int .i64 b]) 1).run Try.prog w = .ok (.int .i64 b) w := by kernel_rfl

theorem size19 (T : Array Value) (h : T.size = 19) : ∃ v0 v1 v2 v3 v4 v5 v6 v7 v8 v9 v10 v11 v12 v13 v14 v15 v16 v17 v18 : Value, T = #[v0, v1, v2, v3, v4, v5, v6, v7, v8, v9, v10, v11, v12, v13, v14, v15, v16, v17, v18] := by
  obtain ⟨l⟩ := T
  simp only [List.size_toArray] at h
  match l, h with
  | [v0, v1, v2, v3, v4, v5, v6, v7, v8, v9, v10, v11, v12, v13, v14, v15, v16, v17, v18], _ => exact ⟨v0, v1, v2, v3, v4, v5, v6, v7, v8, v9, v10, v11, v12, v13, v14, v15, v16, v17, v18, rfl⟩

noncomputable def bodyLL : Code := Try.f13.body.getD .skip
noncomputable def LLa : Code := match Try.f13.body.getD .skip with | .seq a _ => a | _ => .skip
noncomputable def LLb : Code := match Try.f13.body.getD .skip with | .seq _ (.seq a _) => a | _ => .skip
noncomputable def LLops : Array Oper := match Try.f13.body.getD .skip with | .seq _ (.seq _ (.seq (.region _ ops _) _)) => ops | _ => #[]
theorem LL_eq : bodyLL = seqs (.seq (.region 3 LLops false) .ret) [LLa, LLb] := rfl

theorem LL_pre (a : Option Addr) (cap : Nat) (zs : List Int) (m : Int) (w : World) (hl : zs.length ≤ 8) (hI : IntsAt w a zs) (ht : toldL zs m = true) :
    preWp Try.prog [LLa, LLb] (fun e b w' => (e = .normal ∨ e = .ret) ∧ b.defers = [] ∧ (e = .normal ∧ b.tmps.size = 19 ∧ b.tmps[0]? = some (.slice a zs.length cap) ∧ b.tmps[1]? = some (.int .i64 m) ∧ Below w.heap.size w w'))
      ⟨#[.slice a zs.length cap, .int .i64 m, undef, undef, undef, undef, undef, undef, undef, undef, undef, undef, undef, undef, undef, undef, undef, undef, undef], []⟩ w := by
  have HZ := Lib.hid ht
  refine pre_cons ?_
  simp only [LLa, Try.f13, Option.getD_some]
  go_wp2
  refine pre_cons ?_
  simp only [LLb, Try.f13, Option.getD_some]
  go_wp2_with (go_at_call 39; refine (loadsTold_any a cap zs m _ (by omega) hI).mono ?_; rw [HZ.out]; rintro e w' ⟨rfl, rfl⟩)
  exact ⟨.inl rfl, rfl, rfl, rfl, rfl, rfl, Below.refl _ _⟩

theorem LL_pre2 (a : Option Addr) (cap : Nat) (zs : List Int) (m : Int) (w : World) (hl : zs.length ≤ 2000000) (hI : IntsAt w a zs) (hp : toldL zs m = false ∨ 8 < zs.length) :
    preWp Try.prog [LLa, LLb] (fun e b w' => (e = .normal ∨ e = .ret) ∧ b.defers = [] ∧ (e = .ret ∧ b.tmps[4]? = some (.int .i64 0) ∧ b.tmps[5]? = some (.bool false)))
      ⟨#[.slice a zs.length cap, .int .i64 m, undef, undef, undef, undef, undef, undef, undef, undef, undef, undef, undef, undef, undef, undef, undef, undef, undef], []⟩ w := by
  refine pre_cons ?_
  simp only [LLa, Try.f13, Option.getD_some]
  by_cases ht : toldL zs m = true
  · have h8 : 8 < zs.length := hp.resolve_left (by rw [ht]; simp)
    have HZ := Lib.hid ht
    clear hp ht
    go_wp2
    refine pre_cons ?_
    simp only [LLb, Try.f13, Option.getD_some]
    go_wp2_with (go_at_call 39; refine (loadsTold_any a cap zs m _ (by omega) hI).mono ?_; rw [HZ.out]; rintro e w' ⟨rfl, rfl⟩)
    exact ⟨.inr trivial, trivial, trivial, rfl, rfl⟩
  · have ht' : toldL zs m = false := by simpa using ht
    have HZ := Lib.hid ht'
    clear hp ht ht'
    go_wp2
    refine pre_cons ?_
    simp only [LLb, Try.f13, Option.getD_some]
    go_wp2_with (go_at_call 39; refine (loadsTold_any a cap zs m _ (by omega) hI).mono ?_; rw [HZ.out]; rintro e w' ⟨rfl, rfl⟩)
    exact ⟨.inr trivial, trivial, trivial, rfl, rfl⟩

set_option maxRecDepth 100000 in
theorem LL_tail (T : Array Value) (p : Int × Int) (w : World) (hT : T.size = 19) (h17 : T[17]? = some (tv p)) :
    wpOps Try.prog LLops (Exit.then (Code.ret.wp Try.prog fun e b _ => e = .ret ∧ b.defers = [] ∧ (b.tmps[4]? = some (.int .i64 p.1) ∧ b.tmps[5]? = some (.bool true))) fun e b _ => e = .ret ∧ b.defers = [] ∧ (b.tmps[4]? = some (.int .i64 p.1) ∧ b.tmps[5]? = some (.bool true))) [3, 4, 5] ⟨T, []⟩ w := by
  obtain ⟨v0, v1, v2, v3, v4, v5, v6, v7, v8, v9, v10, v11, v12, v13, v14, v15, v16, v17, v18, rfl⟩ := size19 T hT
  simp only [List.getElem?_toArray, List.getElem?_cons_succ, List.getElem?_cons_zero, Option.some.injEq] at h17
  subst h17
  obtain ⟨p1, p2⟩ := p
  simp only [tv]
  refine wpOps_drop 3 rfl ?_
  simp only [LLops, Try.f13, Option.getD_some, List.drop_succ_cons, List.drop_zero]
  go_wp2
noncomputable def bodyLE : Code := Try.f16.body.getD .skip
noncomputable def LEa : Code := match Try.f16.body.getD .skip with | .seq a _ => a | _ => .skip
noncomputable def LEb : Code := match Try.f16.body.getD .skip with | .seq _ (.seq a _) => a | _ => .skip
noncomputable def LEops : Array Oper := match Try.f16.body.getD .skip with | .seq _ (.seq _ (.seq (.region _ ops _) _)) => ops | _ => #[]
theorem LE_eq : bodyLE = seqs (.seq (.region 3 LEops false) .ret) [LEa, LEb] := rfl

theorem LE_pre (a : Option Addr) (cap : Nat) (zs : List Int) (m : Int) (w : World) (hl : zs.length ≤ 6) (hI : IntsAt w a zs) (ht : toldL zs m = true) :
    preWp Try.prog [LEa, LEb] (fun e b w' => (e = .normal ∨ e = .ret) ∧ b.defers = [] ∧ (e = .normal ∧ b.tmps.size = 19 ∧ b.tmps[0]? = some (.slice a zs.length cap) ∧ b.tmps[1]? = some (.int .i64 m) ∧ Below w.heap.size w w'))
      ⟨#[.slice a zs.length cap, .int .i64 m, undef, undef, undef, undef, undef, undef, undef, undef, undef, undef, undef, undef, undef, undef, undef, undef, undef], []⟩ w := by
  have HZ := Lib.hid ht
  refine pre_cons ?_
  simp only [LEa, Try.f16, Option.getD_some]
  go_wp2
  refine pre_cons ?_
  simp only [LEb, Try.f16, Option.getD_some]
  go_wp2_with (go_at_call 39; refine (loadsTold_any a cap zs m _ (by omega) hI).mono ?_; rw [HZ.out]; rintro e w' ⟨rfl, rfl⟩)
  exact ⟨.inl rfl, rfl, rfl, rfl, rfl, rfl, Below.refl _ _⟩

theorem LE_pre2 (a : Option Addr) (cap : Nat) (zs : List Int) (m : Int) (w : World) (hl : zs.length ≤ 2000000) (hI : IntsAt w a zs) (hp : toldL zs m = false ∨ 6 < zs.length) :
    preWp Try.prog [LEa, LEb] (fun e b w' => (e = .normal ∨ e = .ret) ∧ b.defers = [] ∧ (e = .ret ∧ b.tmps[4]? = some (.int .i64 0) ∧ b.tmps[5]? = some (.bool false)))
      ⟨#[.slice a zs.length cap, .int .i64 m, undef, undef, undef, undef, undef, undef, undef, undef, undef, undef, undef, undef, undef, undef, undef, undef, undef], []⟩ w := by
  refine pre_cons ?_
  simp only [LEa, Try.f16, Option.getD_some]
  by_cases ht : toldL zs m = true
  · have h8 : 6 < zs.length := hp.resolve_left (by rw [ht]; simp)
    have HZ := Lib.hid ht
    clear hp ht
    go_wp2
    refine pre_cons ?_
    simp only [LEb, Try.f16, Option.getD_some]
    go_wp2_with (go_at_call 39; refine (loadsTold_any a cap zs m _ (by omega) hI).mono ?_; rw [HZ.out]; rintro e w' ⟨rfl, rfl⟩)
    exact ⟨.inr trivial, trivial, trivial, rfl, rfl⟩
  · have ht' : toldL zs m = false := by simpa using ht
    have HZ := Lib.hid ht'
    clear hp ht ht'
    go_wp2
    refine pre_cons ?_
    simp only [LEb, Try.f16, Option.getD_some]
    go_wp2_with (go_at_call 39; refine (loadsTold_any a cap zs m _ (by omega) hI).mono ?_; rw [HZ.out]; rintro e w' ⟨rfl, rfl⟩)
    exact ⟨.inr trivial, trivial, trivial, rfl, rfl⟩

set_option maxRecDepth 100000 in
theorem LE_tail (T : Array Value) (p : Int × Int) (w : World) (hT : T.size = 19) (h17 : T[17]? = some (tv p)) :
    wpOps Try.prog LEops (Exit.then (Code.ret.wp Try.prog fun e b _ => e = .ret ∧ b.defers = [] ∧ (b.tmps[4]? = some (.int .i64 p.2) ∧ b.tmps[5]? = some (.bool true))) fun e b _ => e = .ret ∧ b.defers = [] ∧ (b.tmps[4]? = some (.int .i64 p.2) ∧ b.tmps[5]? = some (.bool true))) [3, 4, 5] ⟨T, []⟩ w := by
  obtain ⟨v0, v1, v2, v3, v4, v5, v6, v7, v8, v9, v10, v11, v12, v13, v14, v15, v16, v17, v18, rfl⟩ := size19 T hT
  simp only [List.getElem?_toArray, List.getElem?_cons_succ, List.getElem?_cons_zero, Option.some.injEq] at h17
  subst h17
  obtain ⟨p1, p2⟩ := p
  simp only [tv]
  refine wpOps_drop 3 rfl ?_
  simp only [LEops, Try.f16, Option.getD_some, List.drop_succ_cons, List.drop_zero]
  go_wp2
end Go.Proofs.Ytacedadenbinmaa
namespace Go.Proofs.Ytacedadenbinmaa
open Go.RowKit Go.Par Go.Conc Go.ConcN
open Go.ConcR (Payload)

noncomputable def preT : List Code := [S0T, S1T]
theorem T_eq : Try.f40.body = some (seqs (.seq S3T S4) preT) := rfl

/-- the two tests of tallyOf, alone, without loads -/
theorem T_pre (a : Option Addr) (cap : Nat) (m : Int) (w : World) (v : List Value) (hv : v.length = 31) :
    preWp Try.prog preT (fun e b w' => (e = .normal ∨ e = .ret) ∧ b.defers = [] ∧ (e = .ret ∧ b.tmps[4]? = some (.pointer (some ⟨w.heap.size + 2, 0, none⟩)) ∧ Bx2 w' (w.heap.size + 2) (0, 1) ∧ Below w.heap.size w w'))
      ⟨(.slice a 0 cap :: .int .i64 m :: v).toArray, []⟩ w := by
  match v, hv with
  | [v2, v3, v4, v5, v6, v7, v8, v9, v10, v11, v12, v13, v14, v15, v16, v17, v18, v19, v20, v21, v22, v23, v24, v25, v26, v27, v28, v29, v30, v31, v32], _ =>
    unfold preT
    refine pre_cons ?_
    simp only [S0T, bodyT, Try.f40, Option.getD_some]
    go_wp2
    refine pre_cons ?_
    simp only [S1T, bodyT, Try.f40, Option.getD_some]
    go_wp2
    exact ⟨.inr trivial, trivial, trivial, rfl, (by have h := Bx2.new ((w.alloc (.cells #[.slice a 0 cap] 22)).alloc (.cells #[.int .i64 m] 3)) 0 1; rwa [World.size_alloc, World.size_alloc] at h), Below.alloc (Below.alloc (Below.alloc (Below.refl _ w) (Nat.le_refl _) _) (by simp) _) (by simp; omega) _⟩

theorem enterT (x y : Value) : Frame.enter Try.prog 40 #[x, y] .normal = ⟨40, (x :: y :: List.replicate 31 undef).toArray, [.code (seqs (.seq S3T S4) preT)], [], .run, .normal, none⟩ := by
  rw [enter_at (c := seqs (.seq S3T S4) preT) _ Try.func40 T_eq]
  simp only [Try.ntmps40]
  have e : #[x, y] ++ Array.replicate (33 - #[x, y].size) undef = (x :: y :: List.replicate 31 undef).toArray := by
    apply Array.ext'
    simp
  rw [e]
  rfl

/-- what a walk leaves behind -/
structure Kp (w0 w : World) : Prop where
  size : w0.heap.size ≤ w.heap.size
  keep : ∀ b, b < w0.heap.size → w.heap[b]? = w0.heap[b]?
  std : Std w0 w
theorem Kp.refl (w : World) : Kp w w := ⟨Nat.le_refl _, fun _ _ => rfl, rfl, rfl, rfl⟩
theorem Kp.trans {a b c : World} (h : Kp a b) (k : Kp b c) : Kp a c := ⟨Nat.le_trans h.size k.size, fun x hx => (k.keep x (Nat.lt_of_lt_of_le hx h.size)).trans (h.keep x hx), k.std.tape.trans h.std.tape, k.std.os.trans h.std.os, k.std.output.trans h.std.output⟩
theorem Kp.at {a b : World} (h : Kp a b) (d : Nat) : Kp a (b.at d) := ⟨h.size, h.keep, h.std.tape, h.std.os, h.std.output⟩
theorem Kp.below {a b : World} (h : Kp a b) : Below a.heap.size a b := ⟨h.std.os, h.std.tape, h.std.output, h.size, h.keep⟩
theorem Kp.of_pu {P : Program} {L : FuncId → Prop} {ρ0 ρ : Rn} {A0 w0 wA w : World} {own own' : Nat → Prop} (h : Pu P L ρ0 A0 w0 own own' ρ wA w) : Kp w0 w := ⟨h.size, h.keep, h.std⟩

section
variable {LB : FuncId → Bool} {RO own : Nat → Prop} {Stop : (Nat → Prop) → Goroutine → World → Prop} {ρ : Rn} {A w : World} {a0 a : Option Addr} {cap : Nat} {zs : List Int} {m : Int} {c : Frame} {cs : List Frame}

set_option maxRecDepth 100000 in
/-- tallyOf without loads, in company -/
theorem T_nil (HC : Closed Try.prog (fun f => LB f = true) LB) (hok : preT.all (okCode Try.prog LB) = true) (hS : Sim Try.prog (fun f => LB f = true) ρ A w) (hv : VR (fun f => LB f = true) ρ (.slice a0 0 cap) (.slice a 0 cap)) (hR : ∀ b, ran ρ b → RO b ∨ own b) (hown : ∀ b, own b → b < w.heap.size)
    (hk : ∀ own' w', (∀ b, own' b → b < w'.heap.size) → Kp w w' → ∃ t, GoesO Try.prog true AtRel (DL RO) Stop t own' (G (c.finish (tv (0, 1))) cs) w') :
    ∃ t, GoesO Try.prog true AtRel (DL RO) Stop t own (G (Frame.enter Try.prog 40 #[.slice a 0 cap, .int .i64 m] .normal) (c :: cs)) w := by
  rw [enterT]
  refine pre_pure (L := fun f => LB f = true) (LB := LB) (ρ0 := ρ) (A0 := A) (r := .seq S3T S4) (T0 := (.slice a0 0 cap :: .int .i64 m :: List.replicate 31 undef).toArray)
    (Post := fun e b w' => e = .ret ∧ b.tmps[4]? = some (.pointer (some ⟨A.heap.size + 2, 0, none⟩)) ∧ Bx2 w' (A.heap.size + 2) (0, 1)) HC hok [] [] (by simp) ⟨_, Try.func40⟩ hS hR hown ?_ (fun W hz _ _ => ?_) _ (fun own' T' w' ρ' b wA hp => ?_) fun own' T' w' ρ' b wA todo mode hm hp hT hpu => ?_
  · refine ⟨by simp, fun i x y hx hy => ?_⟩
    match i with
    | 0 => simp at hx hy; subst hx hy; exact hv
    | 1 => simp at hx hy; subst hx hy; exact .int _ _
    | i + 2 =>
      simp only [List.getElem?_toArray, List.getElem?_cons_succ, List.getElem?_replicate] at hx hy
      split at hx
      · cases hx
        rename_i hi
        rw [if_pos hi] at hy
        cases hy
        exact undefR
      · cases hx
  · have := T_pre a0 cap m W (List.replicate 31 undef) (by simp)
    rw [hz] at this
    exact preWp_mono (fun e b w' h => ⟨h.1, h.2.1, h.2.2.1, h.2.2.2.1, h.2.2.2.2.1⟩) this
  · exact absurd hp.1 (by simp)
  · obtain ⟨_, h4, hb⟩ := hp
    obtain ⟨v4, h4', hv4⟩ := hT.get h4
    obtain ⟨t0, hs'⟩ := hpu.sim
    cases hv4 with
    | @ptr _ q hq =>
      obtain ⟨D, o, s⟩ := q
      have e1 : o = 0 := hq.off.symm
      have e2 : s = none := hq.spot.symm
      subst e1 e2
      have hD : ρ' (A.heap.size + 2) D := hq.blk
      have c0 : w'.cell? ⟨D, 0, none⟩ = some (.int .i64 0) := by
        obtain ⟨v, h1, h2⟩ := hs'.wr.cellRe (a := ⟨A.heap.size + 2, 0, none⟩) (b := ⟨D, 0, none⟩) ⟨hD, rfl, rfl⟩ hb.c0
        rw [h1, h2.int_eq]
      have c1 : w'.cell? ⟨D, 1, none⟩ = some (.int .i64 1) := by
        obtain ⟨v, h1, h2⟩ := hs'.wr.cellRe (a := ⟨A.heap.size + 2, 1, none⟩) (b := ⟨D, 1, none⟩) ⟨hD, rfl, rfl⟩ hb.c1
        rw [h1, h2.int_eq]
      have hDo : own' D := (hpu.own D).2 (.inr ⟨⟨_, hD⟩, fun ⟨x, hx⟩ => by
        rcases hpu.new _ _ hD with h | ⟨_, h⟩
        · have := (hS.wr.size h).1; omega
        · have := (hS.wr.size hx).2; omega⟩)
      have fin : ∀ (w₁ : World) (todo : List Item), (∃ d, w₁ = w'.at d) → ∃ t, GoesO Try.prog true AtRel (DL RO) Stop t own' (G ⟨40, T', todo, [], .returning, .normal, none⟩ (c :: cs)) w₁ := by
        rintro w₁ todo ⟨d, rfl⟩
        refine GoesO.any rfl fun w₁ hr => ?_
        obtain ⟨d2, rfl⟩ := hr.st
        refine leaveD (w := (w'.at d).at d2) (p := (0, 1)) (todo := todo) h4' c0 c1 fun es he => ⟨dl_look fun e hee => ?_, ?_⟩
        · obtain ⟨x, rfl, hx⟩ := he e hee
          exact ⟨x, rfl, .inl (hx ▸ hDo)⟩
        · rw [more_same rfl]
          exact hk own' _ (fun b hb => hpu.lt hown hb) ((Kp.of_pu hpu).at d |>.at d2)
      rcases hm with rfl | ⟨rfl, rfl⟩
      · exact fin w' todo ⟨w'.drawn, rfl⟩
      · refine W_fall fun w₁ hr => ?_
        obtain ⟨d, rfl⟩ := hr.st
        exact fin _ [] ⟨d, rfl⟩
end
end Go.Proofs.Ytacedadenbinmaa
namespace Go.Proofs.Ytacedadenbinmaa
open Go.RowKit Go.Par Go.Conc Go.ConcN
open Go.ConcR (Payload)

theorem AR_two {L : FuncId → Prop} {ρ : Rn} {x x' y y' : Value} (hx : VR L ρ x x') (hy : VR L ρ y y') (n : Nat) : AR L ρ (x :: y :: List.replicate n undef).toArray (x' :: y' :: List.replicate n undef).toArray := by
  refine ⟨by simp, fun i a b ha hb => ?_⟩
  match i with
  | 0 => simp at ha hb; subst ha hb; exact hx
  | 1 => simp at ha hb; subst ha hb; exact hy
  | i + 2 =>
    simp only [List.getElem?_toArray, List.getElem?_cons_succ, List.getElem?_replicate] at ha hb
    split at ha
    · cases ha
      rename_i hi
      rw [if_pos hi] at hb
      cases hb
      exact undefR
    · cases ha
theorem sl_of {L : FuncId → Prop} {ρ : Rn} {a : Option Addr} {l c : Nat} {v : Value} (h : VR L ρ (.slice a l c) v) : ∃ a', v = .slice a' l c := by
  cases h with
  | slice0 l c => exact ⟨_, rfl⟩
  | slice l c h => exact ⟨_, rfl⟩

theorem tv_refl {L : FuncId → Prop} {ρ : Rn} (p : Int × Int) : VR L ρ (tv p) (tv p) := by
  refine .agg rfl fun i a b ha hb => ?_
  match i with
  | 0 => simp at ha hb; subst ha hb; exact .int _ _
  | 1 => simp at ha hb; subst ha hb; exact .int _ _
  | i + 2 => simp at ha

theorem sl_same {L : FuncId → Prop} {ρ ρ' : Rn} (hf : ∀ a b b', ρ' a b → ρ' a b' → b = b') (hle : Rn.Le ρ ρ') {a0 a : Option Addr} {l c : Nat} {x : Value} (h : VR L ρ (.slice a0 l c) (.slice a l c)) (h' : VR L ρ' (.slice a0 l c) x) : x = .slice a l c := by
  cases h with
  | slice0 l c => cases h' with | slice0 => rfl
  | @slice p q l c hq =>
    cases h' with
    | @slice _ q' _ _ hq' =>
      obtain ⟨b, o, s⟩ := q
      obtain ⟨b', o', s'⟩ := q'
      have e1 : b = b' := hf _ _ _ (hle _ _ hq.blk) hq'.blk
      have e2 : o = o' := hq.off.symm.trans hq'.off
      have e3 : s = s' := hq.spot.symm.trans hq'.spot
      rw [e1, e2, e3]

/-- the bodies that the parts of LoadLeast and tallyOf run are let by -/
structure OkLL (LB : FuncId → Bool) : Prop where
  HC : Closed Try.prog (fun f => LB f = true) LB
  j : LB 69 = true
  f : LB 67 = true
  pT : preT.all (okCode Try.prog LB) = true
  pL : [LLa, LLb].all (okCode Try.prog LB) = true
  tL : okItem Try.prog LB (.inRegion LLops [3, 4, 5]) = true
  pE : [LEa, LEb].all (okCode Try.prog LB) = true
  tE : okItem Try.prog LB (.inRegion LEops [3, 4, 5]) = true

section
variable {LB : FuncId → Bool} {RO own : Nat → Prop} {Stop : (Nat → Prop) → Goroutine → World → Prop} {ρ : Rn} {A w : World} {a0 a : Option Addr} {cap : Nat} {zs : List Int} {m : Int} {c : Frame} {cs : List Frame}

theorem enterLL (x y : Value) : Frame.enter Try.prog 13 #[x, y] .normal = ⟨13, (x :: y :: List.replicate 17 undef).toArray, [.code (seqs (.seq (.region 3 LLops false) .ret) [LLa, LLb])], [], .run, .normal, none⟩ := by
  rw [enter_at (c := seqs (.seq (.region 3 LLops false) .ret) [LLa, LLb]) _ Try.func13 rfl]
  simp only [Try.ntmps13]
  have e : #[x, y] ++ Array.replicate (19 - #[x, y].size) undef = (x :: y :: List.replicate 17 undef).toArray := by
    apply Array.ext'
    simp
  rw [e]
  rfl

/-- LoadLeast's frame at its call -/
noncomputable def fLL (T : Array Value) (l : List Nat) : Frame := ⟨13, T, [.inRegion LLops l, .code .ret], [], .run, .normal, none⟩

set_option maxRecDepth 100000 in
/-- behind tallyOf -/
theorem LL_tailT (H : OkLL LB) (hG : Try.prog.globals.size = 0) (T : Array Value) (p : Int × Int) (hT : T.size = 19) (hown : ∀ b, own b → b < w.heap.size)
    (hk : ∀ own' w', (∀ b, own' b → b < w'.heap.size) → Kp w w' → ∃ t, GoesO Try.prog true AtRel (DL RO) Stop t own' (G (c.finish (twoV (p.1, true))) cs) w') :
    ∃ t, GoesO Try.prog true AtRel (DL RO) Stop t own (G ((fLL T [2, 3, 4, 5]).finish (tv p)) (c :: cs)) w := by
  have hfin : (fLL T [2, 3, 4, 5]).finish (tv p) = fLL (T.setIfInBounds 17 (tv p)) [3, 4, 5] := by
    refine (finish_call (b := fLL T []) (T := T) (k := [.code .ret]) (ops := LLops) (i := 2) (l := [3, 4, 5]) (d := 17) rfl rfl (tv p)).trans ?_
    rfl
  rw [hfin]
  obtain ⟨T0, hA, _⟩ := AR.some_ (L := fun f => LB f = true) (ρ := fun _ _ => False) T
  refine tail_pure (ρ0 := fun _ _ => False) (A0 := w) (T0 := T0.setIfInBounds 17 (tv p)) (Post := fun b _ => b.tmps[4]? = some (.int .i64 p.1) ∧ b.tmps[5]? = some (.bool true)) H.HC H.tL rfl ⟨_, Try.func13⟩ (sim_none (by omega)) (fun b h => by obtain ⟨x, hx⟩ := h; exact hx.elim) hown (hA.set 17 (tv_refl p))
    (fun W _ _ _ => ?_) (c :: cs) fun own' T' w' ρ' b wA todo hp hT' hpu => ?_
  · exact LL_tail (T0.setIfInBounds 17 (tv p)) p W (by rw [Array.size_setIfInBounds, hA.size, hT]) (by rw [Array.getElem?_setIfInBounds_self_of_lt (by rw [hA.size, hT]; decide)])
  · obtain ⟨v4, h4, e4⟩ := hT'.get hp.1
    obtain ⟨v5, h5, e5⟩ := hT'.get hp.2
    rw [e4.int_eq] at h4
    rw [e5.bool_eq] at h5
    refine W_ret2 Try.func13 rfl h4 h5 fun w₁ hr => ?_
    obtain ⟨d, rfl⟩ := hr.st
    exact hk own' _ (fun b hb => hpu.lt hown hb) ((Kp.of_pu hpu).at d)

theorem ints_same {W A : World} {a : Option Addr} {zs : List Int} (h : IntsAt A a zs) (hz : W.heap.size = A.heap.size) (hc : ∀ p, W.cell? p = A.cell? p) : IntsAt W a zs := by
  rcases h with h | ⟨b, off, e, hb, hcell⟩
  · exact .inl h
  · exact .inr ⟨b, off, e, by rw [hz]; exact hb, fun j hj => (hc _).trans (hcell j hj)⟩

set_option maxRecDepth 100000 in
/-- to the return, or to tallyOf -/
theorem LL_T (H : OkLL LB) (hS : Sim Try.prog (fun f => LB f = true) ρ A w) (hv : VR (fun f => LB f = true) ρ (.slice a0 zs.length cap) (.slice a zs.length cap)) (hI : IntsAt A a0 zs) (hl : zs.length ≤ 2000000) (hR : ∀ b, ran ρ b → RO b ∨ own b) (hown : ∀ b, own b → b < w.heap.size)
    (hk : ∀ own' w', (∀ b, own' b → b < w'.heap.size) → Kp w w' → toldL zs m = false ∨ 8 < zs.length → ∃ t, GoesO Try.prog true AtRel (DL RO) Stop t own' (G (c.finish (twoV (0, false))) cs) w')
    (hc : ∀ own' w' T, (∀ b, own' b → b < w'.heap.size) → (∀ b, own b → own' b) → Kp w w' → toldL zs m = true → zs.length ≤ 8 → T.size = 19 → ∃ t, GoesO Try.prog true AtRel (DL RO) Stop t own' (G (Frame.enter Try.prog 40 #[.slice a zs.length cap, .int .i64 m] .normal) (fLL T [2, 3, 4, 5] :: c :: cs)) w') :
    ∃ t, GoesO Try.prog true AtRel (DL RO) Stop t own (G (Frame.enter Try.prog 13 #[.slice a zs.length cap, .int .i64 m] .normal) (c :: cs)) w := by
  rw [enterLL]
  by_cases hg : toldL zs m = true ∧ zs.length ≤ 8
  · refine pre_pure (L := fun f => LB f = true) (LB := LB) (ρ0 := ρ) (A0 := A) (r := .seq (.region 3 LLops false) .ret) (T0 := (.slice a0 zs.length cap :: .int .i64 m :: List.replicate 17 undef).toArray)
      (Post := fun e b _ => e = .normal ∧ b.tmps.size = 19 ∧ b.tmps[0]? = some (.slice a0 zs.length cap) ∧ b.tmps[1]? = some (.int .i64 m)) H.HC H.pL [] [] (by simp) ⟨_, Try.func13⟩ hS hR hown (AR_two hv (.int _ _) 17) (fun W hz hcell _ => ?_) _ (fun own' T' w' ρ' b wA hp hT hpu => ?_) fun own' T' w' ρ' b wA todo mode hm hp => ?_
    · exact preWp_mono (fun e b w' h => ⟨h.1, h.2.1, h.2.2.1, h.2.2.2.1, h.2.2.2.2.1, h.2.2.2.2.2.1⟩) (LL_pre a0 cap zs m W hg.2 (ints_same hI hz hcell) hg.1)
    · obtain ⟨_, hz, h0, h1⟩ := hp
      obtain ⟨x, hx, hxv⟩ := hT.get h0
      obtain ⟨y, hy, hyv⟩ := hT.get h1
      have ey := hyv.int_eq
      subst ey
      have ex : x = .slice a zs.length cap := by
        obtain ⟨t0, hs'⟩ := hpu.sim
        exact sl_same hs'.wr.fn hpu.le hv hxv
      subst ex
      have hT19 : T'.size = 19 := hT.size ▸ hz
      refine W_call2 (b := (base 13)) (id := 3) (ops := LLops) (rest := .ret) (l := [3, 4, 5]) (s0 := 0) (d0 := 15) (s1 := 1) (d1 := 16) (d2 := 17) (k := []) rfl rfl rfl rfl ⟨rfl, rfl, rfl⟩ ⟨rfl, rfl, rfl⟩ rfl rfl rfl Try.func40 rfl rfl (by simp [base]) atRel_tr hx hy (by rw [hT19]; decide) fun w₁ hr => ?_
      obtain ⟨d, rfl⟩ := hr.st
      exact hc own' _ _ (fun b hb => hpu.lt hown hb) (fun b hb => (hpu.own b).2 (.inl hb)) ((Kp.of_pu hpu).at d) hg.1 hg.2 (by simp [hT19])
    · exact absurd hp.1 (by simp)
  · have hg' : toldL zs m = false ∨ 8 < zs.length := by
      by_cases ht : toldL zs m = true
      · exact .inr (Nat.lt_of_not_le fun h => hg ⟨ht, h⟩)
      · exact .inl (by simpa using ht)
    refine pre_pure (L := fun f => LB f = true) (LB := LB) (ρ0 := ρ) (A0 := A) (r := .seq (.region 3 LLops false) .ret) (T0 := (.slice a0 zs.length cap :: .int .i64 m :: List.replicate 17 undef).toArray)
      (Post := fun e b _ => e = .ret ∧ b.tmps[4]? = some (.int .i64 0) ∧ b.tmps[5]? = some (.bool false)) H.HC H.pL [] [] (by simp) ⟨_, Try.func13⟩ hS hR hown (AR_two hv (.int _ _) 17) (fun W hz hcell _ => LL_pre2 a0 cap zs m W hl (ints_same hI hz hcell) hg') _ (fun own' T' w' ρ' b wA hp => ?_) fun own' T' w' ρ' b wA todo mode hm hp hT hpu => ?_
    · exact absurd hp.1 (by simp)
    · obtain ⟨v4, h4, e4⟩ := hT.get hp.2.1
      obtain ⟨v5, h5, e5⟩ := hT.get hp.2.2
      rw [e4.int_eq] at h4
      rw [e5.bool_eq] at h5
      have fin : ∀ (w₁ : World) (todo : List Item), (∃ d, w₁ = w'.at d) → ∃ t, GoesO Try.prog true AtRel (DL RO) Stop t own' (G ⟨13, T', todo, [], .returning, .normal, none⟩ (c :: cs)) w₁ := by
        rintro w₁ todo ⟨d, rfl⟩
        refine W_ret2 Try.func13 rfl h4 h5 fun w₁ hr => ?_
        obtain ⟨d2, rfl⟩ := hr.st
        exact hk own' _ (fun b hb => hpu.lt hown hb) ((Kp.of_pu hpu).at d |>.at d2) hg'
      rcases hm with rfl | ⟨rfl, rfl⟩
      · exact fin w' todo ⟨w'.drawn, rfl⟩
      · refine W_fall fun w₁ hr => ?_
        obtain ⟨d, rfl⟩ := hr.st
        exact fin _ [] ⟨d, rfl⟩
end
end Go.Proofs.Ytacedadenbinmaa
namespace Go.Proofs.Ytacedadenbinmaa
open Go.RowKit Go.Par Go.Conc Go.ConcN
open Go.ConcR (Payload)

theorem glob0 : Try.prog.globals.size = 0 := by kernel_rfl

section
variable {LB : FuncId → Bool} {ρ : Rn} {A w0 : World} {a0 a : Option Addr} {cap : Nat} {zs : List Int} {m : Int} {c : Frame} {mach : Machine} {t : Trace}

/-- back in the law -/
def BkL (o : Option Nat) (w0 : World) (c : Frame) (v : Value) (g : Goroutine) (w : World) : Prop :=
  g = G (c.finish v) [] ∧ Kp w0 w ∧ ∀ b, o = some b → w0.heap.size ≤ b ∧ b < w.heap.size

set_option maxRecDepth 100000 in
set_option maxHeartbeats 1000000 in
/-- LOADLEAST -/
theorem LL_leads (H : OkLL LB) (hS : Sim Try.prog (fun f => LB f = true) ρ A w0) (hv : VR (fun f => LB f = true) ρ (.slice a0 zs.length cap) (.slice a zs.length cap)) (hI : IntsAt A a0 zs) (hl : zs.length ≤ 2000000)
    (h : LSt (fun _ => False) (fun g w => g = G (Frame.enter Try.prog 13 #[.slice a zs.length cap, .int .i64 m] .normal) [c] ∧ w = w0) mach t) :
    Leads Try.prog (fun m' t' => ∃ o n, BSt Try.prog (ShO o) n (BkL o w0 c (twoV (llV zs m))) m' t') mach t := by
  have hlt : ∀ b, ran ρ b → b < w0.heap.size := fun b hb => (hS.wr.lt hb).2
  have h1 := LL_T (m := m) (c := c) (cs := []) (RO := fun b => b < w0.heap.size) (own := fun _ => False)
    (Stop := fun _ g w => (g = G (c.finish (twoV (0, false))) [] ∧ Kp w0 w ∧ (toldL zs m = false ∨ 8 < zs.length)) ∨ (∃ T, g = G (Frame.enter Try.prog 40 #[.slice a zs.length cap, .int .i64 m] .normal) (fLL T [2, 3, 4, 5] :: c :: []) ∧ Kp w0 w ∧ toldL zs m = true ∧ zs.length ≤ 8 ∧ T.size = 19))
    H hS hv hI hl (fun b hb => .inl (hlt b hb)) (fun b hb => hb.elim)
    (fun own' w' _ hK hu => ⟨.leaf, GoesO.stop fun w₁ hr => by obtain ⟨d, rfl⟩ := hr.st; exact .inl ⟨rfl, hK.at d, hu⟩⟩)
    (fun own' w' T _ _ hK ht h8 hT => ⟨.leaf, GoesO.stop fun w₁ hr => by obtain ⟨d, rfl⟩ := hr.st; exact .inr ⟨T, rfl, hK.at d, ht, h8, hT⟩⟩)
  refine (walkA (X := fun _ => False) (B := w0.heap.size) (fun b hb => hb.elim) (Nat.le_refl _) (fun _ _ h => h) (fun b hb => hb.elim) h1 h).trans fun m1 t1 k1 => ?_
  obtain ⟨g, w1, sl, rfl, hT1, own1, _, _, hcase⟩ := k1
  rcases hcase with ⟨rfl, hK, hu⟩ | ⟨T, rfl, hK, ht, h8, hT⟩
  · refine .refl ⟨none, 1, bst_of_lst (P := Try.prog) (X := fun _ => False) ⟨_, w1, sl, rfl, hT1, ?_, hK, fun b hb => by cases hb⟩⟩
    have e : llV zs m = (0, false) := by
      rw [llV, if_neg fun h => ?_]
      rcases hu with hu | hu
      · rw [hu] at h; exact absurd h.1 (by simp)
      · omega
    rw [e]
  · have eV : llV zs m = ((tlV zs m).1, true) := by rw [llV, if_pos ⟨ht, h8⟩]
    obtain ⟨t', hS1⟩ := hS.keep (w₁ := w1) (fun b hb => hK.keep b (hlt b hb)) hK.size
    obtain ⟨⟨h10, hg⟩, hm1, hm5⟩ := (toldL_iff zs m).1 ht
    by_cases hz : zs = []
    · subst hz
      have h2 := T_nil (a0 := a0) (a := a) (cap := cap) (m := m) (c := fLL T [2, 3, 4, 5]) (cs := [c]) (RO := fun b => b < w1.heap.size) (own := fun _ => False)
        (Stop := fun _ g w => g = G (c.finish (twoV (0, true))) [] ∧ Kp w1 w) H.HC H.pT hS1 hv (fun b hb => .inl (Nat.lt_of_lt_of_le (hlt b hb) hK.size)) (fun b hb => hb.elim)
        (fun own' w' ho hK' => LL_tailT H glob0 T (0, 1) hT ho fun own'' w'' _ hK'' => ⟨.leaf, GoesO.stop fun w₁ hr => by obtain ⟨d, rfl⟩ := hr.st; exact ⟨rfl, (hK'.trans hK'').at d⟩⟩)
      refine (walkA (X := fun _ => False) (B := w1.heap.size) (fun b hb => hb.elim) (Nat.le_refl _) (fun _ _ h => h) (fun b hb => hb.elim) h2 ⟨_, w1, sl, rfl, hT1, rfl, rfl⟩).trans fun m2 t2 k2 => ?_
      obtain ⟨g, w2, sl2, rfl, hT2, own2, _, _, rfl, hK2⟩ := k2
      refine .refl ⟨none, 1, bst_of_lst (P := Try.prog) (X := fun _ => False) ⟨_, w2, sl2, rfl, hT2, ?_, hK.trans hK2, fun b hb => by cases hb⟩⟩
      rw [eV, tlV_nil ⟨hm1, hm5⟩]
    · obtain ⟨n, rfl⟩ : ∃ n : Nat, m = n := ⟨m.toNat, by omega⟩
      have hpos : 0 < zs.length := List.length_pos_iff.2 hz
      obtain ⟨b0, off, rfl, hb0, hcell⟩ := hI.at hpos
      obtain ⟨ab, rfl, hab⟩ : ∃ ab, a = some ⟨ab, off, none⟩ ∧ ρ b0 ab := by
        cases hv with
        | @slice _ q _ _ hq =>
          obtain ⟨b, o, s⟩ := q
          have e1 : off = o := hq.off
          have e2 : none = s := hq.spot
          subst e1 e2
          exact ⟨b, rfl, hq.blk⟩
      have hTI : TIn LB n ab off cap zs w1 := by
        refine ⟨fun j hj => ?_, ⟨ρ, re A t', b0, hS1, hab, fun j hj => hcell j hj⟩, hg, ⟨hpos, by omega⟩, by omega, by omega⟩
        obtain ⟨v, h1, h2⟩ := hS1.wr.cellRe (a := ⟨b0, off + j, none⟩) (b := ⟨ab, off + j, none⟩) ⟨hab, rfl, rfl⟩ (hcell j hj)
        rw [h1, h2.int_eq]
      refine (tally_phase (LB := LB) (cs := [c]) (c := fLL T [2, 3, 4, 5]) H.HC H.j H.f hTI ⟨_, w1, sl, rfl, hT1, rfl, rfl⟩).trans fun m2 t2 k2 => ?_
      refine (walkO (o := some (w1.heap.size + 5)) (Stop := fun _ g w => g = G (c.finish (twoV ((tlV zs n).1, true))) [] ∧ Kp w1 w ∧ w1.heap.size + 6 ≤ w.heap.size) k2 fun g w hb => ?_).trans fun m3 t3 k3 => ?_
      · obtain ⟨rfl, hz6, hk, hst⟩ := hb
        refine ⟨fun b hb => by cases hb; omega, fun _ => False, fun b hb => hb.elim, ?_⟩
        exact LL_tailT H glob0 T _ hT (fun b hb => hb.elim) fun own'' w'' _ hK'' => ⟨.leaf, GoesO.stop fun w₁ hr => by
          obtain ⟨d, rfl⟩ := hr.st
          have hK1 : Kp w1 w := ⟨by omega, hk, hst⟩
          exact ⟨rfl, (hK1.trans hK'').at d, Nat.le_trans hz6 hK''.size⟩⟩
      · obtain ⟨gs, g, w, sl, q, e, h1, h2, h3, h4, own, _, rfl, hK3, h6⟩ := k3
        refine .refl ⟨some (w1.heap.size + 5), n + 1, gs, _, w, sl, q, e, h1, h2, h3, h4, ?_, hK.trans hK3, fun b hb => by cases hb; have := hK.size; omega⟩
        rw [eV]
end
end Go.Proofs.Ytacedadenbinmaa
namespace Go.Proofs.Ytacedadenbinmaa
open Go.RowKit Go.Par Go.Conc Go.ConcN
open Go.ConcR (Payload)

section
variable {LB : FuncId → Bool} {RO own : Nat → Prop} {Stop : (Nat → Prop) → Goroutine → World → Prop} {ρ : Rn} {A w : World} {a0 a : Option Addr} {cap : Nat} {zs : List Int} {m : Int} {c : Frame} {cs : List Frame}
theorem enterLE (x y : Value) : Frame.enter Try.prog 16 #[x, y] .normal = ⟨16, (x :: y :: List.replicate 17 undef).toArray, [.code (seqs (.seq (.region 3 LEops false) .ret) [LEa, LEb])], [], .run, .normal, none⟩ := by
  rw [enter_at (c := seqs (.seq (.region 3 LEops false) .ret) [LEa, LEb]) _ Try.func16 rfl]
  simp only [Try.ntmps16]
  have e : #[x, y] ++ Array.replicate (19 - #[x, y].size) undef = (x :: y :: List.replicate 17 undef).toArray := by
    apply Array.ext'
    simp
  rw [e]
  rfl

/-- LoadEven's frame at its call -/
noncomputable def fLE (T : Array Value) (l : List Nat) : Frame := ⟨16, T, [.inRegion LEops l, .code .ret], [], .run, .normal, none⟩

set_option maxRecDepth 100000 in
/-- behind tallyOf -/
theorem LE_tailT (H : OkLL LB) (hG : Try.prog.globals.size = 0) (T : Array Value) (p : Int × Int) (hT : T.size = 19) (hown : ∀ b, own b → b < w.heap.size)
    (hk : ∀ own' w', (∀ b, own' b → b < w'.heap.size) → Kp w w' → ∃ t, GoesO Try.prog true AtRel (DL RO) Stop t own' (G (c.finish (twoV (p.2, true))) cs) w') :
    ∃ t, GoesO Try.prog true AtRel (DL RO) Stop t own (G ((fLE T [2, 3, 4, 5]).finish (tv p)) (c :: cs)) w := by
  have hfin : (fLE T [2, 3, 4, 5]).finish (tv p) = fLE (T.setIfInBounds 17 (tv p)) [3, 4, 5] := by
    refine (finish_call (b := fLE T []) (T := T) (k := [.code .ret]) (ops := LEops) (i := 2) (l := [3, 4, 5]) (d := 17) rfl rfl (tv p)).trans ?_
    rfl
  rw [hfin]
  obtain ⟨T0, hA, _⟩ := AR.some_ (L := fun f => LB f = true) (ρ := fun _ _ => False) T
  refine tail_pure (ρ0 := fun _ _ => False) (A0 := w) (T0 := T0.setIfInBounds 17 (tv p)) (Post := fun b _ => b.tmps[4]? = some (.int .i64 p.2) ∧ b.tmps[5]? = some (.bool true)) H.HC H.tE rfl ⟨_, Try.func16⟩ (sim_none (by omega)) (fun b h => by obtain ⟨x, hx⟩ := h; exact hx.elim) hown (hA.set 17 (tv_refl p))
    (fun W _ _ _ => ?_) (c :: cs) fun own' T' w' ρ' b wA todo hp hT' hpu => ?_
  · exact LE_tail (T0.setIfInBounds 17 (tv p)) p W (by rw [Array.size_setIfInBounds, hA.size, hT]) (by rw [Array.getElem?_setIfInBounds_self_of_lt (by rw [hA.size, hT]; decide)])
  · obtain ⟨v4, h4, e4⟩ := hT'.get hp.1
    obtain ⟨v5, h5, e5⟩ := hT'.get hp.2
    rw [e4.int_eq] at h4
    rw [e5.bool_eq] at h5
    refine W_ret2 Try.func16 rfl h4 h5 fun w₁ hr => ?_
    obtain ⟨d, rfl⟩ := hr.st
    exact hk own' _ (fun b hb => hpu.lt hown hb) ((Kp.of_pu hpu).at d)

set_option maxRecDepth 100000 in
/-- to the return, or to tallyOf -/
theorem LE_T (H : OkLL LB) (hS : Sim Try.prog (fun f => LB f = true) ρ A w) (hv : VR (fun f => LB f = true) ρ (.slice a0 zs.length cap) (.slice a zs.length cap)) (hI : IntsAt A a0 zs) (hl : zs.length ≤ 2000000) (hR : ∀ b, ran ρ b → RO b ∨ own b) (hown : ∀ b, own b → b < w.heap.size)
    (hk : ∀ own' w', (∀ b, own' b → b < w'.heap.size) → Kp w w' → toldL zs m = false ∨ 6 < zs.length → ∃ t, GoesO Try.prog true AtRel (DL RO) Stop t own' (G (c.finish (twoV (0, false))) cs) w')
    (hc : ∀ own' w' T, (∀ b, own' b → b < w'.heap.size) → (∀ b, own b → own' b) → Kp w w' → toldL zs m = true → zs.length ≤ 6 → T.size = 19 → ∃ t, GoesO Try.prog true AtRel (DL RO) Stop t own' (G (Frame.enter Try.prog 40 #[.slice a zs.length cap, .int .i64 m] .normal) (fLE T [2, 3, 4, 5] :: c :: cs)) w') :
    ∃ t, GoesO Try.prog true AtRel (DL RO) Stop t own (G (Frame.enter Try.prog 16 #[.slice a zs.length cap, .int .i64 m] .normal) (c :: cs)) w := by
  rw [enterLE]
  by_cases hg : toldL zs m = true ∧ zs.length ≤ 6
  · refine pre_pure (L := fun f => LB f = true) (LB := LB) (ρ0 := ρ) (A0 := A) (r := .seq (.region 3 LEops false) .ret) (T0 := (.slice a0 zs.length cap :: .int .i64 m :: List.replicate 17 undef).toArray)
      (Post := fun e b _ => e = .normal ∧ b.tmps.size = 19 ∧ b.tmps[0]? = some (.slice a0 zs.length cap) ∧ b.tmps[1]? = some (.int .i64 m)) H.HC H.pE [] [] (by simp) ⟨_, Try.func16⟩ hS hR hown (AR_two hv (.int _ _) 17) (fun W hz hcell _ => ?_) _ (fun own' T' w' ρ' b wA hp hT hpu => ?_) fun own' T' w' ρ' b wA todo mode hm hp => ?_
    · exact preWp_mono (fun e b w' h => ⟨h.1, h.2.1, h.2.2.1, h.2.2.2.1, h.2.2.2.2.1, h.2.2.2.2.2.1⟩) (LE_pre a0 cap zs m W hg.2 (ints_same hI hz hcell) hg.1)
    · obtain ⟨_, hz, h0, h1⟩ := hp
      obtain ⟨x, hx, hxv⟩ := hT.get h0
      obtain ⟨y, hy, hyv⟩ := hT.get h1
      have ey := hyv.int_eq
      subst ey
      have ex : x = .slice a zs.length cap := by
        obtain ⟨t0, hs'⟩ := hpu.sim
        exact sl_same hs'.wr.fn hpu.le hv hxv
      subst ex
      have hT19 : T'.size = 19 := hT.size ▸ hz
      refine W_call2 (b := (base 16)) (id := 3) (ops := LEops) (rest := .ret) (l := [3, 4, 5]) (s0 := 0) (d0 := 15) (s1 := 1) (d1 := 16) (d2 := 17) (k := []) rfl rfl rfl rfl ⟨rfl, rfl, rfl⟩ ⟨rfl, rfl, rfl⟩ rfl rfl rfl Try.func40 rfl rfl (by simp [base]) atRel_tr hx hy (by rw [hT19]; decide) fun w₁ hr => ?_
      obtain ⟨d, rfl⟩ := hr.st
      exact hc own' _ _ (fun b hb => hpu.lt hown hb) (fun b hb => (hpu.own b).2 (.inl hb)) ((Kp.of_pu hpu).at d) hg.1 hg.2 (by simp [hT19])
    · exact absurd hp.1 (by simp)
  · have hg' : toldL zs m = false ∨ 6 < zs.length := by
      by_cases ht : toldL zs m = true
      · exact .inr (Nat.lt_of_not_le fun h => hg ⟨ht, h⟩)
      · exact .inl (by simpa using ht)
    refine pre_pure (L := fun f => LB f = true) (LB := LB) (ρ0 := ρ) (A0 := A) (r := .seq (.region 3 LEops false) .ret) (T0 := (.slice a0 zs.length cap :: .int .i64 m :: List.replicate 17 undef).toArray)
      (Post := fun e b _ => e = .ret ∧ b.tmps[4]? = some (.int .i64 0) ∧ b.tmps[5]? = some (.bool false)) H.HC H.pE [] [] (by simp) ⟨_, Try.func16⟩ hS hR hown (AR_two hv (.int _ _) 17) (fun W hz hcell _ => LE_pre2 a0 cap zs m W hl (ints_same hI hz hcell) hg') _ (fun own' T' w' ρ' b wA hp => ?_) fun own' T' w' ρ' b wA todo mode hm hp hT hpu => ?_
    · exact absurd hp.1 (by simp)
    · obtain ⟨v4, h4, e4⟩ := hT.get hp.2.1
      obtain ⟨v5, h5, e5⟩ := hT.get hp.2.2
      rw [e4.int_eq] at h4
      rw [e5.bool_eq] at h5
      have fin : ∀ (w₁ : World) (todo : List Item), (∃ d, w₁ = w'.at d) → ∃ t, GoesO Try.prog true AtRel (DL RO) Stop t own' (G ⟨16, T', todo, [], .returning, .normal, none⟩ (c :: cs)) w₁ := by
        rintro w₁ todo ⟨d, rfl⟩
        refine W_ret2 Try.func16 rfl h4 h5 fun w₁ hr => ?_
        obtain ⟨d2, rfl⟩ := hr.st
        exact hk own' _ (fun b hb => hpu.lt hown hb) ((Kp.of_pu hpu).at d |>.at d2) hg'
      rcases hm with rfl | ⟨rfl, rfl⟩
      · exact fin w' todo ⟨w'.drawn, rfl⟩
      · refine W_fall fun w₁ hr => ?_
        obtain ⟨d, rfl⟩ := hr.st
        exact fin _ [] ⟨d, rfl⟩
end
section
variable {LB : FuncId → Bool} {ρ : Rn} {A w0 : World} {a0 a : Option Addr} {cap : Nat} {zs : List Int} {m : Int} {c : Frame} {mach : Machine} {t : Trace}
set_option maxRecDepth 100000 in
set_option maxHeartbeats 1000000 in
/-- LOADLEAST -/
theorem LE_leads (H : OkLL LB) (hS : Sim Try.prog (fun f => LB f = true) ρ A w0) (hv : VR (fun f => LB f = true) ρ (.slice a0 zs.length cap) (.slice a zs.length cap)) (hI : IntsAt A a0 zs) (hl : zs.length ≤ 2000000)
    (h : LSt (fun _ => False) (fun g w => g = G (Frame.enter Try.prog 16 #[.slice a zs.length cap, .int .i64 m] .normal) [c] ∧ w = w0) mach t) :
    Leads Try.prog (fun m' t' => ∃ o n, BSt Try.prog (ShO o) n (BkL o w0 c (twoV (leV zs m))) m' t') mach t := by
  have hlt : ∀ b, ran ρ b → b < w0.heap.size := fun b hb => (hS.wr.lt hb).2
  have h1 := LE_T (m := m) (c := c) (cs := []) (RO := fun b => b < w0.heap.size) (own := fun _ => False)
    (Stop := fun _ g w => (g = G (c.finish (twoV (0, false))) [] ∧ Kp w0 w ∧ (toldL zs m = false ∨ 6 < zs.length)) ∨ (∃ T, g = G (Frame.enter Try.prog 40 #[.slice a zs.length cap, .int .i64 m] .normal) (fLE T [2, 3, 4, 5] :: c :: []) ∧ Kp w0 w ∧ toldL zs m = true ∧ zs.length ≤ 6 ∧ T.size = 19))
    H hS hv hI hl (fun b hb => .inl (hlt b hb)) (fun b hb => hb.elim)
    (fun own' w' _ hK hu => ⟨.leaf, GoesO.stop fun w₁ hr => by obtain ⟨d, rfl⟩ := hr.st; exact .inl ⟨rfl, hK.at d, hu⟩⟩)
    (fun own' w' T _ _ hK ht h8 hT => ⟨.leaf, GoesO.stop fun w₁ hr => by obtain ⟨d, rfl⟩ := hr.st; exact .inr ⟨T, rfl, hK.at d, ht, h8, hT⟩⟩)
  refine (walkA (X := fun _ => False) (B := w0.heap.size) (fun b hb => hb.elim) (Nat.le_refl _) (fun _ _ h => h) (fun b hb => hb.elim) h1 h).trans fun m1 t1 k1 => ?_
  obtain ⟨g, w1, sl, rfl, hT1, own1, _, _, hcase⟩ := k1
  rcases hcase with ⟨rfl, hK, hu⟩ | ⟨T, rfl, hK, ht, h8, hT⟩
  · refine .refl ⟨none, 1, bst_of_lst (P := Try.prog) (X := fun _ => False) ⟨_, w1, sl, rfl, hT1, ?_, hK, fun b hb => by cases hb⟩⟩
    have e : leV zs m = (0, false) := by
      rw [leV, if_neg fun h => ?_]
      rcases hu with hu | hu
      · rw [hu] at h; exact absurd h.1 (by simp)
      · omega
    rw [e]
  · have eV : leV zs m = ((tlV zs m).2, true) := by rw [leV, if_pos ⟨ht, h8⟩]
    obtain ⟨t', hS1⟩ := hS.keep (w₁ := w1) (fun b hb => hK.keep b (hlt b hb)) hK.size
    obtain ⟨⟨h10, hg⟩, hm1, hm5⟩ := (toldL_iff zs m).1 ht
    by_cases hz : zs = []
    · subst hz
      have h2 := T_nil (a0 := a0) (a := a) (cap := cap) (m := m) (c := fLE T [2, 3, 4, 5]) (cs := [c]) (RO := fun b => b < w1.heap.size) (own := fun _ => False)
        (Stop := fun _ g w => g = G (c.finish (twoV (1, true))) [] ∧ Kp w1 w) H.HC H.pT hS1 hv (fun b hb => .inl (Nat.lt_of_lt_of_le (hlt b hb) hK.size)) (fun b hb => hb.elim)
        (fun own' w' ho hK' => LE_tailT H glob0 T (0, 1) hT ho fun own'' w'' _ hK'' => ⟨.leaf, GoesO.stop fun w₁ hr => by obtain ⟨d, rfl⟩ := hr.st; exact ⟨rfl, (hK'.trans hK'').at d⟩⟩)
      refine (walkA (X := fun _ => False) (B := w1.heap.size) (fun b hb => hb.elim) (Nat.le_refl _) (fun _ _ h => h) (fun b hb => hb.elim) h2 ⟨_, w1, sl, rfl, hT1, rfl, rfl⟩).trans fun m2 t2 k2 => ?_
      obtain ⟨g, w2, sl2, rfl, hT2, own2, _, _, rfl, hK2⟩ := k2
      refine .refl ⟨none, 1, bst_of_lst (P := Try.prog) (X := fun _ => False) ⟨_, w2, sl2, rfl, hT2, ?_, hK.trans hK2, fun b hb => by cases hb⟩⟩
      rw [eV, tlV_nil ⟨hm1, hm5⟩]
    · obtain ⟨n, rfl⟩ : ∃ n : Nat, m = n := ⟨m.toNat, by omega⟩
      have hpos : 0 < zs.length := List.length_pos_iff.2 hz
      obtain ⟨b0, off, rfl, hb0, hcell⟩ := hI.at hpos
      obtain ⟨ab, rfl, hab⟩ : ∃ ab, a = some ⟨ab, off, none⟩ ∧ ρ b0 ab := by
        cases hv with
        | @slice _ q _ _ hq =>
          obtain ⟨b, o, s⟩ := q
          have e1 : off = o := hq.off
          have e2 : none = s := hq.spot
          subst e1 e2
          exact ⟨b, rfl, hq.blk⟩
      have hTI : TIn LB n ab off cap zs w1 := by
        refine ⟨fun j hj => ?_, ⟨ρ, re A t', b0, hS1, hab, fun j hj => hcell j hj⟩, hg, ⟨hpos, by omega⟩, by omega, by omega⟩
        obtain ⟨v, h1, h2⟩ := hS1.wr.cellRe (a := ⟨b0, off + j, none⟩) (b := ⟨ab, off + j, none⟩) ⟨hab, rfl, rfl⟩ (hcell j hj)
        rw [h1, h2.int_eq]
      refine (tally_phase (LB := LB) (cs := [c]) (c := fLE T [2, 3, 4, 5]) H.HC H.j H.f hTI ⟨_, w1, sl, rfl, hT1, rfl, rfl⟩).trans fun m2 t2 k2 => ?_
      refine (walkO (o := some (w1.heap.size + 5)) (Stop := fun _ g w => g = G (c.finish (twoV ((tlV zs n).2, true))) [] ∧ Kp w1 w ∧ w1.heap.size + 6 ≤ w.heap.size) k2 fun g w hb => ?_).trans fun m3 t3 k3 => ?_
      · obtain ⟨rfl, hz6, hk, hst⟩ := hb
        refine ⟨fun b hb => by cases hb; omega, fun _ => False, fun b hb => hb.elim, ?_⟩
        exact LE_tailT H glob0 T _ hT (fun b hb => hb.elim) fun own'' w'' _ hK'' => ⟨.leaf, GoesO.stop fun w₁ hr => by
          obtain ⟨d, rfl⟩ := hr.st
          have hK1 : Kp w1 w := ⟨by omega, hk, hst⟩
          exact ⟨rfl, (hK1.trans hK'').at d, Nat.le_trans hz6 hK''.size⟩⟩
      · obtain ⟨gs, g, w, sl, q, e, h1, h2, h3, h4, own, _, rfl, hK3, h6⟩ := k3
        refine .refl ⟨some (w1.heap.size + 5), n + 1, gs, _, w, sl, q, e, h1, h2, h3, h4, ?_, hK.trans hK3, fun b hb => by cases hb; have := hK.size; omega⟩
        rw [eV]
end
end Go.Proofs.Ytacedadenbinmaa
namespace Go.Proofs.Ytacedadenbinmaa
open Go.RowKit Go.Par Go.Conc Go.ConcN
open Go.ConcR (Payload)

theorem consOf {n : Nat} {l : List Value} (h : l.length = n + 1) : ∃ a t, l = a :: t ∧ t.length = n := by
  match l, h with
  | a :: t, h => exact ⟨a, t, rfl, by simpa using h⟩

/-- what a call that starts goroutines comes to -/
def Lead (LB : FuncId → Bool) (fC : FuncId) (V : List Int → Int → Int × Bool) : Prop :=
  ∀ (ρ : Rn) (A w0 : World) (a0 a : Option Addr) (cap : Nat) (zs : List Int) (m : Int) (c : Frame) (mach : Machine) (t : Trace), Sim Try.prog (fun f => LB f = true) ρ A w0 → VR (fun f => LB f = true) ρ (.slice a0 zs.length cap) (.slice a zs.length cap) → IntsAt A a0 zs → zs.length ≤ 2000000 →
    LSt (fun _ => False) (fun g w => g = G (Frame.enter Try.prog fC #[.slice a zs.length cap, .int .i64 m] .normal) [c] ∧ w = w0) mach t →
    Leads Try.prog (fun m' t' => ∃ o n, BSt Try.prog (ShO o) n (BkL o w0 c (twoV (V zs m))) m' t') mach t
theorem LL_lead {LB : FuncId → Bool} (H : OkLL LB) : Lead LB 13 llV := fun _ _ _ _ _ _ _ _ _ _ _ h1 h2 h3 h4 h5 => LL_leads H h1 h2 h3 h4 h5
theorem LE_lead {LB : FuncId → Bool} (H : OkLL LB) : Lead LB 16 leV := fun _ _ _ _ _ _ _ _ _ _ _ h1 h2 h3 h4 h5 => LE_leads H h1 h2 h3 h4 h5

theorem twoV_refl {L : FuncId → Prop} {ρ : Rn} (r : Int × Bool) : VR L ρ (twoV r) (twoV r) := by
  refine .tuple rfl fun i a b ha hb => ?_
  match i with
  | 0 => simp at ha hb; subst ha hb; exact .int _ _
  | 1 => simp at ha hb; subst ha hb; exact .bool _
  | i + 2 => simp at ha

/-- the same world, but for the tape and what is frozen -/
def Like (A W : World) : Prop := W.heap.size = A.heap.size ∧ ∀ p, W.cell? p = A.cell? p

theorem AR_one {L : FuncId → Prop} {ρ : Rn} {x x' : Value} (hx : VR L ρ x x') (n : Nat) : AR L ρ (x :: List.replicate n undef).toArray (x' :: List.replicate n undef).toArray := by
  refine ⟨by simp, fun i a b ha hb => ?_⟩
  match i with
  | 0 => simp at ha hb; subst ha hb; exact hx
  | i + 1 =>
    simp only [List.getElem?_toArray, List.getElem?_cons_succ, List.getElem?_replicate] at ha hb
    split at ha
    · cases ha
      rename_i hi
      rw [if_pos hi] at hb
      cases hb
      exact undefR
    · cases ha
/-- the bytes that came in have fellows -/
theorem sim_bytes {LB : FuncId → Bool} {W : World} {a : Option Addr} {len cap : Nat} (hb : BytesAt W W.heap.size a len) (hsh : ∀ ad, a = some ad → ad.spot = none ∧ ∃ c e fr, W.heap[ad.block]? = some (.cells c e fr)) :
    ∃ ρ A a0, Sim Try.prog (fun f => LB f = true) ρ A W ∧ VR (fun f => LB f = true) ρ (.slice a0 len cap) (.slice a len cap) ∧ BytesAt A A.heap.size a0 len := by
  cases a with
  | none =>
    refine ⟨_, W, none, sim_none (by have := glob0; omega), .slice0 _ _, ?_⟩
    rcases hb with h | ⟨b, off, h, _⟩
    · exact .inl h
    · cases h
  | some ad =>
    obtain ⟨b, off, s⟩ := ad
    obtain ⟨hs, c, e, fr, hc⟩ := hsh _ rfl
    have hs' : s = none := hs
    subst hs'
    obtain ⟨ρ, A, a0, hS, hab, _, hlt, _, _, hcell⟩ := sim_init (L := fun f => LB f = true) glob0 hc
    refine ⟨ρ, A, some ⟨a0, off, none⟩, hS, .slice _ _ ⟨hab, rfl, rfl⟩, ?_⟩
    rcases hb with h | ⟨b', off', h, hb', hx⟩
    · exact .inl h
    · simp only [Option.some.injEq, Addr.mk.injEq, and_true] at h
      obtain ⟨rfl, rfl⟩ := h
      refine .inr ⟨a0, off, rfl, hlt, fun j hj => ?_⟩
      obtain ⟨x, h1, h2, h3⟩ := hx j hj
      exact ⟨x, h1, h2, hcell _ _ _ h3⟩
theorem bytes_like {A W' : World} {a : Option Addr} {len : Nat} (h : BytesAt A A.heap.size a len) (hW : Like A W') : BytesAt W' W'.heap.size a len := by
  rcases h with h | ⟨b, off, h, hb, hx⟩
  · exact .inl h
  · exact .inr ⟨b, off, h, by rw [hW.1]; exact hb, fun j hj => let ⟨x, h1, h2, h3⟩ := hx j hj; ⟨x, h1, h2, (hW.2 _).trans h3⟩⟩
/-- the integers that came in have fellows -/
theorem sim_ints {LB : FuncId → Bool} {W : World} {a : Option Addr} {ys : List Int} {len cap : Nat} (hb : IntsAt W a ys) (hsh : ∀ ad, a = some ad → ad.spot = none ∧ ∃ c e fr, W.heap[ad.block]? = some (.cells c e fr)) :
    ∃ ρ A a0, Sim Try.prog (fun f => LB f = true) ρ A W ∧ VR (fun f => LB f = true) ρ (.slice a0 len cap) (.slice a len cap) ∧ IntsAt A a0 ys := by
  cases a with
  | none =>
    refine ⟨_, W, none, sim_none (by have := glob0; omega), .slice0 _ _, ?_⟩
    rcases hb with h | ⟨b, off, h, _⟩
    · exact .inl h
    · cases h
  | some ad =>
    obtain ⟨b, off, s⟩ := ad
    obtain ⟨hs, c, e, fr, hc⟩ := hsh _ rfl
    have hs' : s = none := hs
    subst hs'
    obtain ⟨ρ, A, a0, hS, hab, _, hlt, _, _, hcell⟩ := sim_init (L := fun f => LB f = true) glob0 hc
    refine ⟨ρ, A, some ⟨a0, off, none⟩, hS, .slice _ _ ⟨hab, rfl, rfl⟩, ?_⟩
    rcases hb with h | ⟨b', off', h, hb', hx⟩
    · exact .inl h
    · simp only [Option.some.injEq, Addr.mk.injEq, and_true] at h
      obtain ⟨rfl, rfl⟩ := h
      exact .inr ⟨a0, off, rfl, hlt, fun j hj => hcell _ _ _ (hx j hj)⟩

/-- the law's run ends well -/
def Ends (F : FuncId) (args : Array Value) (W : World) : Prop :=
  ∃ M last o w' t', runNT Try.prog (M + 1) (solo (G (Frame.enter Try.prog F args .normal) []) W) #[] = (.ended o w', t') ∧ runN Try.prog M (solo (G (Frame.enter Try.prog F args .normal) []) W) = .next last ∧ step Try.prog last = .ended o w' ∧
    Conc.Good Try.prog (fun v W' => v = .bool true ∧ Below W.heap.size W W') last o w' t'

theorem ends_of {F : FuncId} {args : Array Value} {W : World} (h : Leads Try.prog (fun m t => ∃ o n, BSt Try.prog (ShO o) n (AtEndX Try.prog (ShO o) fun v W' => v = .bool true ∧ Below W.heap.size W W') m t) (solo (G (Frame.enter Try.prog F args .normal) []) W) #[]) : Ends F args W := by
  obtain ⟨N, m', t', h1, o, n, h2⟩ := h
  obtain ⟨N2, last, oo, w', t2, h3, h4, h5, h6⟩ := endX h2
  refine ⟨N + N2, last, oo, w', t2, ?_, ?_, h5, h6⟩
  · rw [Nat.add_assoc, runNT_add, h1]; exact h3
  · rw [runN_add, ← runNT_fst Try.prog N _ #[], h1]
    exact h4

section
variable {LB : FuncId → Bool} {ρ : Rn} {A W : World}
set_option maxHeartbeats 1000000 in
/-- THE LAW's RUN -/
theorem law_runs {F fC : FuncId} {V : List Int → Int → Int × Bool} {fn fnC : Func} {args T0 T : Array Value} {l : List Code} {id : Nat} {ops : Array Oper} {l2 : List Nat} {rest : Code} {o0 o1 o2 : Oper} {s0 d0 s1 d1 d2 tr : Nat} {ats : Array TypeId} {Mid : Array Value → World → Prop}
    (HC : Closed Try.prog (fun f => LB f = true) LB) (hLead : Lead LB fC V)
    (hin : Frame.enter Try.prog F args .normal = ⟨F, T, [.code (seqs (.seq (.region id ops false) rest) l)], [], .run, .normal, none⟩)
    (hok1 : l.all (okCode Try.prog LB) = true) (hok2 : okItem Try.prog LB (.inRegion ops l2) = true) (hok3 : okCode Try.prog LB rest = true)
    (hl : List.range ops.size = 0 :: 1 :: 2 :: l2) (hl2 : l2 = List.range' 3 (ops.toList.drop 3).length) (h0 : ops[0]? = some o0) (h1 : ops[1]? = some o1) (h2 : ops[2]? = some o2) (m0 : mvO s0 d0 o0) (m1 : mvO s1 d1 o1) (hop : o2.op = .call { callee := .value (.func fC), args := #[.tmp d0, .tmp d1], argTypes := ats }) (hd2 : o2.dst = some d2) (hg2 : o2.guard = none)
    (hfC : Try.prog.funcs[fC]? = some fnC) (hnC : (fnC.name == "runtime.NumGoroutine") = false) (hbC : fnC.body.isNone = false)
    (hf : Try.prog.funcs[F]? = some fn) (hres : fn.results = #[.tmp tr]) (hinit : Try.prog.inits.idxOf? F = none) (hds : d0 < T0.size ∧ d1 < T0.size ∧ d0 ≠ d1 ∧ s1 ≠ d0)
    (hS : Sim Try.prog (fun f => LB f = true) ρ A W) (hT : AR (fun f => LB f = true) ρ T0 T)
    (hpre : ∀ W', Like A W' → preWp Try.prog l (fun e b w' => (e = .normal ∨ e = .ret) ∧ b.defers = [] ∧ ((e = .ret ∧ b.tmps[tr]? = some (.bool true)) ∨ (e = .normal ∧ b.tmps.size = T0.size ∧ Mid b.tmps w'))) ⟨T0, []⟩ W')
    (hmid : ∀ T1 w1, Mid T1 w1 → ∃ a0 cap zs m, T1[s0]? = some (.slice a0 zs.length cap) ∧ T1[s1]? = some (.int .i64 m) ∧ IntsAt w1 a0 zs ∧ zs.length ≤ 2000000 ∧
      ∀ W', Like w1 W' → wpList Try.prog ops (Exit.then (rest.wp Try.prog fun e b _ => e = .ret ∧ b.defers = [] ∧ b.tmps[tr]? = some (.bool true)) fun e b _ => e = .ret ∧ b.defers = [] ∧ b.tmps[tr]? = some (.bool true)) (ops.toList.drop 3)
        ⟨((T1.setIfInBounds d0 (.slice a0 zs.length cap)).setIfInBounds d1 (.int .i64 m)).setIfInBounds d2 (twoV (V zs m)), []⟩ W') :
    Ends F args W := by
  have hlt : ∀ b, ran ρ b → b < W.heap.size := fun b hb => (hS.wr.lt hb).2
  refine ends_of ?_
  -- to the call, or to an early return
  have k1 : ∃ t, GoesO Try.prog true AtRel (DL fun b => b < W.heap.size)
      (fun _ g w => Kp W w ∧ ((∃ T' todo, g = G ⟨F, T', todo, [], .returning, .normal, none⟩ [] ∧ T'[tr]? = some (.bool true)) ∨
        (∃ (ρ' : Rn) (T1 T' : Array Value) (w1 A1 : World) (a0 a : Option Addr) (cap : Nat) (zs : List Int) (m : Int), Sim Try.prog (fun f => LB f = true) ρ' A1 w ∧ Like w1 A1 ∧ VR (fun f => LB f = true) ρ' (.slice a0 zs.length cap) (.slice a zs.length cap) ∧ IntsAt w1 a0 zs ∧ zs.length ≤ 2000000 ∧ T1.size = T0.size ∧ AR (fun f => LB f = true) ρ' T1 T' ∧
          g = G (Frame.enter Try.prog fC #[.slice a zs.length cap, .int .i64 m] .normal) [⟨F, (T'.setIfInBounds d0 (.slice a zs.length cap)).setIfInBounds d1 (.int .i64 m), [.inRegion ops (2 :: l2), .code rest], [], .run, .normal, none⟩] ∧
          ∀ W', Like w1 W' → wpList Try.prog ops (Exit.then (rest.wp Try.prog fun e b _ => e = .ret ∧ b.defers = [] ∧ b.tmps[tr]? = some (.bool true)) fun e b _ => e = .ret ∧ b.defers = [] ∧ b.tmps[tr]? = some (.bool true)) (ops.toList.drop 3)
            ⟨((T1.setIfInBounds d0 (.slice a0 zs.length cap)).setIfInBounds d1 (.int .i64 m)).setIfInBounds d2 (twoV (V zs m)), []⟩ W'))) t (fun _ => False) (G (Frame.enter Try.prog F args .normal) []) W := by
    rw [hin]
    refine pre_pure (L := fun f => LB f = true) (LB := LB) (ρ0 := ρ) (A0 := A) (r := .seq (.region id ops false) rest) (T0 := T0)
      (Post := fun e b w' => (e = .ret ∧ b.tmps[tr]? = some (.bool true)) ∨ (e = .normal ∧ b.tmps.size = T0.size ∧ Mid b.tmps w')) HC hok1 [] [] (by simp) ⟨_, hf⟩ hS (fun b hb => .inl (hlt b hb)) (fun b hb => hb.elim) hT (fun W' hz hc _ => hpre W' ⟨hz, hc⟩) _ (fun own' T' w' ρ' b wA hp hT' hpu => ?_) fun own' T' w' ρ' b wA todo mode hm hp hT' hpu => ?_
    · rcases hp with hp | ⟨_, hsz, hp⟩
      · exact absurd hp.1 (by simp)
      obtain ⟨a0, cap, zs, m, e0, e1, hI, hz, hwp⟩ := hmid _ _ hp
      obtain ⟨x, hx, hxv⟩ := hT'.get e0
      obtain ⟨y, hy, hyv⟩ := hT'.get e1
      have ey := hyv.int_eq
      subst ey
      obtain ⟨a, rfl⟩ := sl_of hxv
      have hsz' : T'.size = T0.size := hT'.size ▸ hsz
      refine W_call2 (b := { (default : Frame) with fn := F, kind := .normal }) (k := []) hl h0 h1 h2 m0 m1 hop hd2 hg2 hfC hnC hbC (by simp) atRel_tr hx hy (by rw [hsz']; exact hds) fun w₁ hr => ?_
      obtain ⟨d, rfl⟩ := hr.st
      obtain ⟨t0, hsim⟩ := hpu.sim
      obtain ⟨t1, hsim⟩ := hsim.at d
      refine ⟨.leaf, GoesO.stop fun w₂ hr2 => ?_⟩
      obtain ⟨d2, rfl⟩ := hr2.st
      obtain ⟨t2, hsim⟩ := hsim.at d2
      exact ⟨(Kp.of_pu hpu).at d |>.at d2, .inr ⟨ρ', b.tmps, T', wA, _, a0, a, cap, zs, m, hsim, ⟨rfl, fun _ => rfl⟩, hxv, hI, hz, hsz, hT', rfl, hwp⟩⟩
    · rcases hp with ⟨_, hp⟩ | hp
      · obtain ⟨v, hv, hvv⟩ := hT'.get hp
        rw [hvv.bool_eq] at hv
        rcases hm with rfl | ⟨rfl, rfl⟩
        · exact ⟨.leaf, GoesO.stop fun w₂ hr2 => by
            obtain ⟨d2, rfl⟩ := hr2.st
            exact ⟨(Kp.of_pu hpu).at d2, .inl ⟨T', todo, rfl, hv⟩⟩⟩
        · refine W_fall fun w₁ hr => ?_
          obtain ⟨d, rfl⟩ := hr.st
          exact ⟨.leaf, GoesO.stop fun w₂ hr2 => by
            obtain ⟨d2, rfl⟩ := hr2.st
            exact ⟨(Kp.of_pu hpu).at d |>.at d2, .inl ⟨T', [], rfl, hv⟩⟩⟩
      · exact absurd hp.1 (by simp)
  refine (walkA (X := fun _ => False) (B := W.heap.size) (fun b hb => hb.elim) (Nat.le_refl _) (fun _ _ h => h) (fun b hb => hb.elim) k1 lst_solo).trans fun m1 t1 k2 => ?_
  obtain ⟨g, w, sl, rfl, hT1, own1, _, _, hK, hcase⟩ := k2
  rcases hcase with ⟨T', todo, rfl, hv⟩ | ⟨ρ', T1, T', w1, A1, a0, a, cap, zs, m, hsim, hlike, hvr, hI, hz, hsz, hT', rfl, hwp⟩
  · exact .refl ⟨none, 1, bst_of_lst (P := Try.prog) (X := fun _ => False) ⟨_, w, sl, rfl, hT1, end1 hinit hf hres hv fun d => ⟨rfl, (hK.at d).below⟩⟩⟩
  · have hIA : IntsAt A1 a0 zs := ints_same hI hlike.1 hlike.2
    refine (hLead ρ' A1 w a0 a cap zs m _ _ _ hsim hvr hIA hz ⟨_, w, sl, rfl, hT1, rfl, rfl⟩).trans fun m2 t2 k3 => ?_
    obtain ⟨o, n, k3⟩ := k3
    have hlt' : ∀ b, ran ρ' b → b < w.heap.size := fun b hb => (hsim.wr.lt hb).2
    refine (walkO (o := o) (Stop := fun _ g w => AtEndX Try.prog (ShO o) (fun v W' => v = .bool true ∧ Below W.heap.size W W') g w) k3 fun g w2 hb => ?_).trans fun m3 t3 k4 => ?_
    · obtain ⟨rfl, hK2, ho⟩ := hb
      refine ⟨fun b hb => (ho b hb).2, fun _ => False, fun b hb => hb.elim, ?_⟩
      obtain ⟨t4, hsim2⟩ := hsim.keep (w₁ := w2) (fun b hb => hK2.keep b (hlt' b hb)) hK2.size
      have hfin : (⟨F, (T'.setIfInBounds d0 (.slice a zs.length cap)).setIfInBounds d1 (.int .i64 m), [.inRegion ops (2 :: l2), .code rest], [], .run, .normal, none⟩ : Frame).finish (twoV (V zs m)) =
          ⟨F, ((T'.setIfInBounds d0 (.slice a zs.length cap)).setIfInBounds d1 (.int .i64 m)).setIfInBounds d2 (twoV (V zs m)), [.inRegion ops l2, .code rest], [], .run, .normal, none⟩ := by
        refine (finish_call (b := { (default : Frame) with fn := F, kind := .normal }) (T := (T'.setIfInBounds d0 (.slice a zs.length cap)).setIfInBounds d1 (.int .i64 m)) (k := [.code rest]) (ops := ops) (i := 2) (l := l2) h2 hd2 (twoV (V zs m))).trans ?_
        rfl
      rw [hfin]
      refine tail_pure (ρ0 := ρ') (A0 := re A1 t4) (T0 := ((T1.setIfInBounds d0 (.slice a0 zs.length cap)).setIfInBounds d1 (.int .i64 m)).setIfInBounds d2 (twoV (V zs m))) (Post := fun b _ => b.tmps[tr]? = some (.bool true)) HC hok2 hok3 ⟨_, hf⟩ hsim2
        (fun b hb => .inl ⟨Nat.lt_of_lt_of_le (hlt' b hb) hK2.size, fun e => by have := (ho b e).1; have := hlt' b hb; omega⟩) (fun b hb => hb.elim) (((hT'.set d0 hvr).set d1 (.int _ _)).set d2 (twoV_refl _))
        (fun W' hz' hc' _ => wpOps_drop 3 hl2 (hwp W' ⟨hz'.trans hlike.1, fun p => (hc' p).trans (hlike.2 p)⟩)) [] fun own' T'' w' ρ'' b wA todo hp hT'' hpu => ?_
      obtain ⟨v, hv, hvv⟩ := hT''.get hp
      rw [hvv.bool_eq] at hv
      refine ⟨.leaf, GoesO.stop fun w₂ hr2 => ?_⟩
      obtain ⟨d, rfl⟩ := hr2.st
      exact end1 hinit hf hres hv fun d' => ⟨rfl, (((hK.trans hK2).trans (Kp.of_pu hpu)).at d |>.at d').below⟩
    · obtain ⟨gs, g, w, sl, q, e, g1, g2, g3, g4, own, _, hs⟩ := k4
      exact .refl ⟨o, n, gs, g, w, sl, q, e, g1, g2, g3, g4, hs⟩
end
end Go.Proofs.Ytacedadenbinmaa
namespace Go.Proofs.Ytacedadenbinmaa
open Go.RowKit Go.Par Go.Conc

def LBl : List Nat := [11, 12, 14, 15, 17, 18, 19, 20, 21, 22, 23, 24, 25, 26, 27, 28, 29, 30, 31, 32, 33, 34, 35, 36, 37, 38, 39, 41, 42, 43, 44, 45, 46, 47, 48, 49, 50, 51, 52, 53, 54, 55, 56, 57, 58, 59, 60, 61, 62, 63, 67, 69, 70, 71, 72, 73, 74, 75, 94, 95, 101, 102, 103, 104]
def LB : FuncId → Bool := fun f => LBl.contains f
noncomputable def okF (f : Nat) : Bool :=
  match Try.prog.funcs[f]? with
  | some fn => match fn.body with
    | some c => !(fn.name == "runtime.NumGoroutine") && okCode Try.prog LB c
    | none => false
  | none => false
set_option maxRecDepth 1000000 in
theorem okF_all : LBl.all okF = true := by kernel_rfl
theorem LB_closed : Closed Try.prog (fun f => LB f = true) LB := by
  refine ⟨fun f h => h, fun f h => ?_⟩
  have hm : f ∈ LBl := by simpa [LB] using h
  have hk := List.all_eq_true.1 okF_all f hm
  unfold okF at hk
  split at hk
  · rename_i fn hf
    split at hk
    · rename_i c hc
      simp only [Bool.and_eq_true, Bool.not_eq_true'] at hk
      exact ⟨fn, c, hf, hc, hk.1, hk.2⟩
    · cases hk
  · cases hk
set_option maxRecDepth 1000000 in
theorem LB_ok : OkLL LB := ⟨LB_closed, by kernel_rfl, by kernel_rfl, by kernel_rfl, by kernel_rfl, by kernel_rfl, by kernel_rfl, by kernel_rfl⟩
end Go.Proofs.Ytacedadenbinmaa
