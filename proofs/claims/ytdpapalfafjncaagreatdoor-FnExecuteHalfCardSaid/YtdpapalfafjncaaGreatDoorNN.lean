/- orderOf: a line's word and its numbers. Conditions: the numbers are below 1000, and few. -/
import Derived.Test.YtdpapalfafjncaaGreatDoorNM
import Derived.Test.YtdpapalfafjncaaGreatDoorIK
namespace Go.Proofs.YtdpapalfafjncaaGreatDoor
open Go.RowKit Go.Shelf
attribute [local go_sem] Oper.semAt_some

/-- the order while its numbers come in: block o holds the line, the word and the numbers put so far -/
def OrdAt (o base : Nat) (ln wd : ByteArray) (ns : List Int) (W : World) : Prop :=
  ∃ v, W.heap[o]? = some (.cells #[.string ln, .string wd, v] 72 (0, 0)) ∧ OwnI W base v ns
def ResB (b : Nat) (W : World) : Prop := W.heap[b]? = some (.cells #[.string ⟨#[]⟩, .string ⟨#[]⟩, .slice none 0 0] 72 (0, 0))
def OrdI (r o base Bl : Nat) (ln wd : ByteArray) (w0 : World) (pre : List (Fin 1000)) (W : World) : Prop :=
  OrdAt o base ln wd (pre.map fun x => (x.val : Int)) W ∧ Below w0.heap.size w0 W ∧ Bl ≤ W.heap.size ∧ ResB r W
theorem put3 {W : World} {b j : Nat} {t : TypeId} {cs : Array Value} {u : Value} (_hj : j < 3) (h : W.heap[b]? = some (.cells cs t (0, 0))) : (W.setCell ⟨b, j, none⟩ u).heap[b]? = some (.cells (cs.setIfInBounds j u) t (0, 0)) := by
  obtain ⟨hlt, hk⟩ := Array.getElem?_eq_some_iff.1 h
  show (W.heap.modify b _)[b]? = _
  rw [Array.getElem?_eq_getElem (by rw [Array.size_modify]; exact hlt), Array.getElem_modify_self, hk]
  rfl
theorem set_field {W : World} {b : Nat} {t : TypeId} {x y v u : Value} (h : W.heap[b]? = some (.cells #[x, y, v] t (0, 0))) : (W.setCell ⟨b, 2, none⟩ u).heap[b]? = some (.cells #[x, y, u] t (0, 0)) := by
  obtain ⟨hlt, hk⟩ := Array.getElem?_eq_some_iff.1 h
  show (W.heap.modify b _)[b]? = _
  rw [Array.getElem?_eq_getElem (by rw [Array.size_modify]; exact hlt), Array.getElem_modify_self, hk]
  rfl
theorem ResB.grown {b : Nat} {W W' : World} {row : Option Nat} (h : ResB b W) (hg : W.grownBy W' row) (hb : row ≠ some b) : ResB b W' := (hg.block b (Array.getElem?_eq_some_iff.1 h).1 (fun e => hb e.symm)).trans h
theorem OrdAt.grown {o base : Nat} {ln wd : ByteArray} {ns : List Int} {W W' : World} {row : Option Nat} (h : OrdAt o base ln wd ns W) (hg : W.grownBy W' row) (ho : row ≠ some o) (hb : ∀ r, row = some r → r < base ∨ ∃ x, W.heap[r]? = some x ∧ x.isCells = false) : OrdAt o base ln wd ns W' := by
  obtain ⟨v, h1, h2⟩ := h
  refine ⟨v, (hg.block o (Array.getElem?_eq_some_iff.1 h1).1 (fun e => ho e.symm)).trans h1, h2.kept hg ?_⟩
  cases hv : v.ownBlock with
  | none => exact .inl rfl
  | some g =>
    refine .inr fun e => ?_
    subst e
    obtain ⟨h3, h4⟩ := h2.lt g hv
    rcases hb g rfl with h | ⟨x, hx, hc⟩
    · omega
    · rcases h2.2 with ⟨rfl, _⟩ | ⟨g', cap, cur, rfl, _, hg', _⟩
      · cases hv
      · cases hv
        rw [hg'] at hx; cases hx; cases hc

theorem undg_bd : ∀ (l : List UInt8) (v : Nat), (∀ b ∈ l, b.toNat ≤ 57) → undg l v + 1 ≤ 10 ^ l.length * (v + 1)
  | [], v, _ => by simp [undg]
  | b :: l, v, h => by
    have h1 := undg_bd l (10 * v + (b.toNat - 48)) fun c hc => h c (List.mem_cons_of_mem _ hc)
    have h2 := h b (by simp)
    rw [undg]
    refine Nat.le_trans h1 ?_
    rw [List.length_cons, Nat.pow_succ, Nat.mul_assoc]
    exact Nat.mul_le_mul_left _ (by omega)

set_option maxRecDepth 100000 in
set_option maxHeartbeats 2000000 in
theorem orderOf_in (n : Nat) (hn : 1 ≤ n) (ln wd : ByteArray) (zs : List (Fin 1000)) (hz : 0 < zs.length) (hl : zs.length ≤ 1000) (w : World) :
    CallsIn Fence.wide n Tryz.prog 44 #[.string ln, .string wd, .string ⟨(leftT zs 0).toArray⟩] w fun e w' => ∃ a cap, e = .returned (.agg #[.string ln, .string wd, .slice a zs.length cap]) ∧ OwnI w' w.heap.size (.slice a zs.length cap) (zs.map fun x => (x.val : Int)) ∧ Below w.heap.size w w' := by
  have HQ := Lib.hid (fun W => SplitSeq_any ⟨(leftT zs 0).toArray⟩ W)
  refine callsIn_of_wp_marks Tryz.func44 rfl trivial ?_ rfl
  simp only [Tryz.ntmps44, List.size_toArray, List.length_cons, List.length_nil, Nat.reduceAdd, Nat.reduceSub, Array.replicate_succ, Array.replicate_zero, List.push_toArray, List.append_toArray, List.nil_append, List.cons_append]
  gi_wp2_with (refine ⟨trivial, ?_⟩; gi_at_call 85; refine (callsIn_wide.2 (HQ.out _)).mono ?_; rintro e w' ⟨rfl, rfl⟩; unfold seqEnd; simp only [])
  obtain ⟨Wc, hWc⟩ : ∃ Wc, ((w.alloc (.cells #[.string ln] 9)).alloc (.cells #[.string ⟨#[]⟩, .string ⟨#[]⟩, .slice none 0 0] 72)).alloc (.cells #[.string ln, .string wd, .slice none 0 0] 72) = Wc := ⟨_, rfl⟩
  have hsz : Wc.heap.size = w.heap.size + 3 := by rw [← hWc]; simp
  have hBel : Below w.heap.size w Wc := by rw [← hWc]; exact (((Below.refl _ w).alloc (Nat.le_refl _) _).alloc (by simp) _).alloc (by simp; omega) _
  have hord : Wc.heap[w.heap.size + 2]? = some (.cells #[.string ln, .string wd, .slice none 0 0] 72 (0, 0)) := by
    rw [← hWc]
    have := World.alloc_heap_new ((w.alloc (.cells #[.string ln] 9)).alloc (.cells #[.string ⟨#[]⟩, .string ⟨#[]⟩, .slice none 0 0] 72)) (.cells #[.string ln, .string wd, .slice none 0 0] 72)
    simpa using this
  have hresb : ResB (w.heap.size + 1) Wc := by
    rw [← hWc]
    have := World.alloc_heap_new (w.alloc (.cells #[.string ln] 9)) (.cells #[.string ⟨#[]⟩, .string ⟨#[]⟩, .slice none 0 0] 72)
    exact (Below.heap_alloc _ _ _ (by simp)).trans (by simpa using this)
  rw [hWc]
  have hbx := seqWorld_boxes (leftT zs 0) Wc
  have hsw := seqWorld_size ⟨(leftT zs 0).toArray⟩ Wc
  have hbw := seqWorld_below ⟨(leftT zs 0).toArray⟩ Wc
  rw [hsz] at hbx hsw
  simp only [hsz, World.size_alloc]
  generalize seqWorld ⟨(leftT zs 0).toArray⟩ Wc = Ws at *
  refine range_goes rfl hn (gf := 152) (lb := #[.pointer (some ⟨w.heap.size + 3 + 1, 0, none⟩), .pointer (some ⟨w.heap.size + 3, 0, none⟩), .pointer (some ⟨w.heap.size + 3 + 2, 0, none⟩)]) rfl trivial (enters_of Tryz.func152 (by kernel_rfl) rfl)
    (encs := fun x : Fin 1000 => #[.string ⟨(dgs x.val).toArray⟩]) (Bs := w.heap.size + 3) (own := [w.heap.size + 3, w.heap.size + 3 + 1, w.heap.size + 3 + 2]) (by omega) (by intro b hb; simp at hb; omega) (fun _ => rfl)
    (OrdI (w.heap.size + 1) (w.heap.size + 2) (w.heap.size + 6) (w.heap.size + 6) ln wd w) (S := fun xs => xs = zs)
    (seq_feeds (n - 1) (w.heap.size + 3) zs hz hl _ Ws hbx ?hset) ?put ?h0 ?a1 ?assign ?body ?done
  case assign =>
    intro l x W K hK
    gi_wp2
    exact hK
  case hset =>
    rintro pre X v ⟨h1, h2, h3, h4⟩
    exact ⟨h1.grown (grownBy_set X (w.heap.size + 3) 0 v) (by simp) (fun r e => by cases e; exact .inl (by omega)), h2.setCell (p := ⟨_, _, none⟩) (by simp) _, by simpa using h3, h4.grown (grownBy_set X (w.heap.size + 3) 0 v) (by simp)⟩
  case put =>
    rintro pre W l o o' hl ho hc ⟨h1, h2, h3, h4⟩
    exact ⟨h1.grown (grownBy_putObj' W l o') (by simp; omega) (fun r e => by cases e; exact .inr ⟨o, ho, hc⟩), h2.grown (grownBy_putObj' W l o') (by omega) (fun j hj => by cases hj; omega), by simpa using h3, h4.grown (grownBy_putObj' W l o') (by simp; omega)⟩
  case h0 =>
    intro o o'
    have h1 : Ws.heap[w.heap.size + 2]? = some (.cells #[.string ln, .string wd, .slice none 0 0] 72 (0, 0)) := (hbw.block _ (by rw [hsz]; omega)).trans hord
    have h2 : ((Ws.alloc o).alloc o').heap[w.heap.size + 2]? = some (.cells #[.string ln, .string wd, .slice none 0 0] 72 (0, 0)) := (Below.heap_alloc _ _ _ (by simp; omega)).trans ((Below.heap_alloc _ _ _ (by omega)).trans h1)
    exact ⟨⟨_, h2, World.ownsRow_nil _ _ _ _⟩, ((hBel.trans (hbw.mono (by omega))).alloc (by omega) _).alloc (by simp; omega) _, by simp; omega, (Below.heap_alloc _ _ _ (by simp; omega)).trans ((Below.heap_alloc _ _ _ (by omega)).trans ((hbw.block _ (by rw [hsz]; omega)).trans hresb))⟩
  case body =>
    rintro l pre x W hlW hpl ⟨⟨vo, hv, hO⟩, hB, hszW, hRB⟩
    have hdl := dgs_len x.isLt
    have hcv := run_bytes_of_string (P := Tryz.prog) W 9 22 5 ⟨(dgs x.val).toArray⟩ Tryz.underlying9 Tryz.underlying22 Tryz.underlying5
    obtain ⟨Cp, hCp⟩ : ∃ Cp, grownCap W (ByteArray.size ⟨(dgs x.val).toArray⟩) 0 5 = Cp := ⟨_, rfl⟩
    obtain ⟨Wd, hWd⟩ : ∃ Wd, W.drew.alloc (.cells (bytesRow ⟨(dgs x.val).toArray⟩ Cp) 5 ((bytesRow ⟨(dgs x.val).toArray⟩ Cp).size, (bytesRow ⟨(dgs x.val).toArray⟩ Cp).size + 1)) = Wd := ⟨_, rfl⟩
    have hcl : ∀ j (hj : j < (dgs x.val).length), Wd.cell? ⟨W.heap.size, j, none⟩ = some (.int .u8 (((dgs x.val)[j]'hj).toNat : Int)) := fun j hj => by
      rw [← hWd]
      have := World.cell?_alloc_mark W.drew (bytesRow ⟨(dgs x.val).toArray⟩ Cp) 5 ((bytesRow ⟨(dgs x.val).toArray⟩ Cp).size, (bytesRow ⟨(dgs x.val).toArray⟩ Cp).size + 1) j
      refine this.trans ((bytesRow_at ⟨(dgs x.val).toArray⟩ Cp j (by simpa using hj)).trans ?_)
      simp
    rw [hCp, hWd] at hcv
    have hsz2 : (ByteArray.size ⟨(dgs x.val).toArray⟩) = (dgs x.val).length := by simp [ByteArray.size]
    rw [hsz2] at hcv
    have HC := Lib.hid hcl
    have HCV := Lib.hid hCp
    have HV := Lib.hid hv
    have HO := Lib.hid hO
    have hgr : W.grownBy Wd none := by rw [← hWd]; have g := World.grownBy_alloc W.drew (.cells (bytesRow ⟨(dgs x.val).toArray⟩ Cp) 5 ((bytesRow ⟨(dgs x.val).toArray⟩ Cp).size, (bytesRow ⟨(dgs x.val).toArray⟩ Cp).size + 1)) none; exact ⟨g.os, g.tape, g.output, g.size, g.block⟩
    have hvd : Wd.heap[w.heap.size + 1 + 1]? = some (.cells #[.string ln, .string wd, vo] 72 (0, 0)) := (hgr.block _ (Array.getElem?_eq_some_iff.1 hv).1 (by simp)).trans hv
    have k2 : Wd.cell? ⟨w.heap.size + 1 + 1, 2, none⟩ = some vo := by simp [World.cell?, hvd]
    have kf : Wd.frozen? ⟨w.heap.size + 1 + 1, 2, none⟩ = false := by simp [World.frozen?, hvd]
    have HOd := Lib.hid (hO.kept hgr (by cases vo.ownBlock <;> simp))
    clear hcl hCp hv hO
    gi_wp2
    gi_loopw [9, 32] (fun v i wr => ∃ j : Nat, j ≤ (dgs x.val).length ∧ i = .int .i64 j ∧ v = .int .i64 (undg ((dgs x.val).take j) 0 : Nat) ∧ wr = Wd) (fun _ i _ => (dgs x.val).length - (intOf i).toNat)
    case atStart => exact ⟨0, by omega, rfl, rfl, rfl⟩
    case round =>
      obtain ⟨j, hj, rfl, rfl, rfl⟩ := hrel
      by_cases hlt : j < (dgs x.val).length
      · have hb := HC.out j hlt
        obtain ⟨b, hbd⟩ : ∃ b, (dgs x.val)[j]'hlt = b := ⟨_, rfl⟩
        have hb2 := dgs_mem x.val b (by rw [← hbd]; exact List.getElem_mem hlt)
        have htk : (dgs x.val).take (j + 1) = (dgs x.val).take j ++ [b] := by rw [List.take_add_one, List.getElem?_eq_getElem hlt, hbd]; rfl
        have HN : Hid (undg ((dgs x.val).take (j + 1)) 0 = 10 * undg ((dgs x.val).take j) 0 + (b.toNat - 48)) := by show _ = _; rw [htk, undg_app]
        have hbv : undg ((dgs x.val).take j) 0 < 1000 := by
          have := undg_bd ((dgs x.val).take j) 0 fun c hc => (dgs_mem x.val c (List.mem_of_mem_take hc)).2
          have h3 : ((dgs x.val).take j).length ≤ 3 := by simp; omega
          have h4 : 10 ^ ((dgs x.val).take j).length ≤ 10 ^ 3 := Nat.pow_le_pow_right (by omega) h3
          omega
        rw [hbd] at hb
        generalize undg ((dgs x.val).take j) 0 = V at *
        obtain ⟨m, hm⟩ : ∃ m, b.toNat = m := ⟨_, rfl⟩
        rw [hm] at hb hb2
        have HM := Lib.hid hm
        clear htk hbd hm
        have f1 : IntKind.u8.wrap ((m : Int) - 48) = (m : Int) - 48 := by unfold IntKind.wrap; simp [IntKind.bits, IntKind.signed]; omega
        have f2 : IntKind.i64.wrap ((m : Int) - 48) = (m : Int) - 48 := IntWalk.i64_in _ (by omega)
        have f3 : IntKind.i64.wrap (10 * (V : Int)) = 10 * (V : Int) := IntWalk.i64_in _ (by omega)
        have f4 : IntKind.i64.wrap (10 * (V : Int) + ((m : Int) - 48)) = 10 * (V : Int) + ((m : Int) - 48) := IntWalk.i64_in _ (by omega)
        gi_wp2
        refine ⟨⟨j + 1, hlt, by go_num, ?_, trivial⟩, by simp [intOf]; omega⟩
        rw [HN.out, HM.out]
        refine congrArg (Value.int .i64) ?_
        omega
      · obtain rfl : j = (dgs x.val).length := by omega
        rw [List.take_length, undg_dgs]
        have hOw := HOd.out
        have hlw := hOw.lt
        have hszr := hgr.size
        have hln : (pre.map fun x => (x.val : Int)).length ≤ 1000000 := by simp; omega
        have hbs : w.heap.size + 6 ≤ wr.heap.size := by omega
        gi_wp2_with (gi_at_builtin; refine append1In wr rfl _ _ rfl (w.heap.size + 6) vo _ (x.val : Int) rfl rfl hOw hln hbs ?_; intro v' w' hO' hG'; obtain ⟨a', c', rfl, _, _⟩ := hO'.shape; go_loud (have hv' : w'.heap[w.heap.size + 1 + 1]? = some (.cells #[.string ln, .string wd, vo] 72 (0, 0)) := (hG'.block _ (Array.getElem?_eq_some_iff.1 hvd).1 (fun e => by have := (hlw _ e.symm).1; omega)).trans hvd); go_loud (have k2' : w'.cell? ⟨w.heap.size + 1 + 1, 2, none⟩ = some vo := by simp [World.cell?, hv']); go_loud (have kf' : w'.frozen? ⟨w.heap.size + 1 + 1, 2, none⟩ = false := by simp [World.frozen?, hv']); go_loud (clear k2 kf))
        have HG := Lib.hid hgr
        refine ⟨⟨⟨_, set_field hv', ?_⟩, ?_, ?_, ?_⟩, ?_, ?_⟩
        · have h := hO'.kept_below (grownBy_set w' (w.heap.size + 1 + 1) 2 (.slice a' (pre.length + 1) c')) (fun r e => by cases e; omega)
          simpa using h
        · exact ((hB.grown HG.out (by omega) (by simp)).grown hG' (by omega) (fun k hk => by have := (hlw k hk).1; omega)).setCell (p := ⟨_, _, none⟩) (by simp; omega) _
        · have := hG'.size; simp; omega
        · exact ((hRB.grown HG.out (by simp)).grown hG' (fun e => by have := (hlw _ e).1; omega)).grown (grownBy_set w' _ 2 _) (by simp)
        · intro b hb
          simp at hb
          refine (Below.heap_setCell _ _ _ _ (by simp; omega)).trans ((hG'.block b (by omega) (fun e => by have := (hlw _ e.symm).1; omega)).trans (HG.out.block b (by omega) (by simp)))
        · refine ⟨by have := hG'.size; simp; omega, fun k o _ hk ho => ?_⟩
          have h1 : wr.heap[k]? = some o := (HG.out.block k (Array.getElem?_eq_some_iff.1 hk).1 (by simp)).trans hk
          refine (KeepsOthers.setCell _ _ _).same k o ((hG'.block k (Array.getElem?_eq_some_iff.1 h1).1 (fun e => ?_)).trans h1) ho
          rcases hOw.2 with ⟨rfl, _⟩ | ⟨g', cap, cur, rfl, _, hg', _⟩
          · cases e
          · cases e
            rw [h1] at hg'; cases hg'; cases ho
  case done =>
    rintro D xs W hD rfl ⟨⟨v, hv, hO⟩, hB, hszW, hRB⟩ hK
    obtain ⟨a', c', rfl, hI, _⟩ := hO.shape
    have d0 : W.cell? ⟨w.heap.size + 1 + 1, 0, none⟩ = some (.string ln) := by simp [World.cell?, hv]
    have d1 : W.cell? ⟨w.heap.size + 1 + 1, 1, none⟩ = some (.string wd) := by simp [World.cell?, hv]
    have d2 : W.cell? ⟨w.heap.size + 1 + 1, 2, none⟩ = some (.slice a' (xs.map fun x => (x.val : Int)).length c') := by simp [World.cell?, hv]
    have e0 : W.heap[w.heap.size + 1]? = some (.cells #[.string ⟨#[]⟩, .string ⟨#[]⟩, .slice none 0 0] 72 (0, 0)) := hRB
    have e1 := put3 (j := 0) (u := .string ln) (by decide) e0
    have e2 := put3 (j := 1) (u := .string wd) (by decide) e1
    have e3 := put3 (j := 2) (u := .slice a' (xs.map fun x => (x.val : Int)).length c') (by decide) e2
    have c0 : W.cell? ⟨w.heap.size + 1, 0, none⟩ = some (.string ⟨#[]⟩) := by simp [World.cell?, e0]
    have f0 : W.frozen? ⟨w.heap.size + 1, 0, none⟩ = false := by simp [World.frozen?, e0]
    have c1 : (W.setCell ⟨w.heap.size + 1, 0, none⟩ (.string ln)).cell? ⟨w.heap.size + 1, 1, none⟩ = some (.string ⟨#[]⟩) := by simp [World.cell?, e1]
    have f1 : (W.setCell ⟨w.heap.size + 1, 0, none⟩ (.string ln)).frozen? ⟨w.heap.size + 1, 1, none⟩ = false := by simp [World.frozen?, e1]
    have c2 : ((W.setCell ⟨w.heap.size + 1, 0, none⟩ (.string ln)).setCell ⟨w.heap.size + 1, 1, none⟩ (.string wd)).cell? ⟨w.heap.size + 1, 2, none⟩ = some (.slice none 0 0) := by simp [World.cell?, e2]
    have f2 : ((W.setCell ⟨w.heap.size + 1, 0, none⟩ (.string ln)).setCell ⟨w.heap.size + 1, 1, none⟩ (.string wd)).frozen? ⟨w.heap.size + 1, 2, none⟩ = false := by simp [World.frozen?, e2]
    gi_wp2
    have hk3 : (((W.setCell ⟨w.heap.size + 1, 0, none⟩ (.string ln)).setCell ⟨w.heap.size + 1, 1, none⟩ (.string wd)).setCell ⟨w.heap.size + 1, 2, none⟩ (.slice a' xs.length c')).heap[D]? = some (.deferred (some [])) :=
      (KeepsOthers.setCell _ _ _).same D _ ((KeepsOthers.setCell _ _ _).same D _ ((KeepsOthers.setCell _ _ _).same D _ hK rfl) rfl) rfl
    rw [List.length_map] at e3
    have hO3 : OwnI (((W.setCell ⟨w.heap.size + 1, 0, none⟩ (.string ln)).setCell ⟨w.heap.size + 1, 1, none⟩ (.string wd)).setCell ⟨w.heap.size + 1, 2, none⟩ (.slice a' xs.length c')) w.heap.size (.slice a' xs.length c') (xs.map fun x => (x.val : Int)) := by
      rw [List.length_map] at hO
      exact (((hO.kept_below (grownBy_set _ _ _ _) (fun r e => by cases e; omega)).kept_below (grownBy_set _ _ _ _) (fun r e => by cases e; omega)).kept_below (grownBy_set _ _ _ _) (fun r e => by cases e; omega)).mono (by omega)
    have hB3 : Below w.heap.size w (((W.setCell ⟨w.heap.size + 1, 0, none⟩ (.string ln)).setCell ⟨w.heap.size + 1, 1, none⟩ (.string wd)).setCell ⟨w.heap.size + 1, 2, none⟩ (.slice a' xs.length c')) :=
      ((hB.setCell (p := ⟨_, _, none⟩) (by simp) _).setCell (p := ⟨_, _, none⟩) (by simp) _).setCell (p := ⟨_, _, none⟩) (by simp) _
    generalize (((W.setCell ⟨w.heap.size + 1, 0, none⟩ (.string ln)).setCell ⟨w.heap.size + 1, 1, none⟩ (.string wd)).setCell ⟨w.heap.size + 1, 2, none⟩ (.slice a' xs.length c')) = W3 at *
    refine ⟨by simp, .inl ⟨_, _, rfl, run_takeDeferred hk3, ?_⟩⟩
    have g0 : (W3.putObj D (.deferred none)).heap[w.heap.size + 1]? = _ := (World.putObj_heap_other (by omega)).trans e3
    have c0 : (W3.putObj D (.deferred none)).cell? ⟨w.heap.size + 1, 0, none⟩ = some (.string ln) := by simp [World.cell?, g0]
    have c1 : (W3.putObj D (.deferred none)).cell? ⟨w.heap.size + 1, 1, none⟩ = some (.string wd) := by simp [World.cell?, g0]
    have c2 : (W3.putObj D (.deferred none)).cell? ⟨w.heap.size + 1, 2, none⟩ = some (.slice a' xs.length c') := by simp [World.cell?, g0]
    refine ⟨_, ?_, a', c', rfl, ownsRow_putObj hO3 _ hk3 rfl, below_put hB3 (by omega) hk3⟩
    simp [results, Tryz.results44, go_sem, c0, c1, c2]

theorem fins {zs : List Int} (h : ∀ x ∈ zs, 0 ≤ x ∧ x < 1000) : ∃ fs : List (Fin 1000), fs.map (fun x => (x.val : Int)) = zs := by
  induction zs with
  | nil => exact ⟨[], rfl⟩
  | cons z r ih =>
    obtain ⟨fs, hf⟩ := ih fun x hx => h x (List.mem_cons_of_mem _ hx)
    have hz := h z (by simp)
    exact ⟨⟨z.toNat, by omega⟩ :: fs, by rw [List.map_cons, hf]; simp; omega⟩
/-- what an order of a line is: the line, its word, and the numbers in a row of the call's own -/
def Ordered (ln wd : ByteArray) (zs : List Int) (w : World) (e : Ending) (w' : World) : Prop :=
  ∃ a cap, e = .returned (.agg #[.string ln, .string wd, .slice a zs.length cap]) ∧ OwnI w' w.heap.size (.slice a zs.length cap) zs ∧ Below w.heap.size w w'
theorem orderOf_any (ln wd : ByteArray) (zs : List Int) (h : ∀ x ∈ zs, 0 ≤ x ∧ x < 1000) (hz : 0 < zs.length) (hl : zs.length ≤ 1000) (w : World) :
    Calls Tryz.prog 44 #[.string ln, .string wd, .string ⟨(spT zs).toArray⟩] w (Ordered ln wd zs w) := by
  obtain ⟨fs, rfl⟩ := fins h
  rw [List.length_map] at hz hl
  have := (callsIn_wide (n := 10)).1 (orderOf_in 10 (by omega) ln wd fs hz hl w)
  unfold leftT at this
  rw [List.drop_zero] at this
  refine this.mono ?_
  rintro e w' ⟨a, cap, rfl, h1, h2⟩
  refine ⟨a, cap, by rw [List.length_map], ?_, h2⟩
  rwa [List.length_map]
end Go.Proofs.YtdpapalfafjncaaGreatDoor
