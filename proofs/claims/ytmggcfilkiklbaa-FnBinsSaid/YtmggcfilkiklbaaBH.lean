/- BinBy, BinCount and BinRoom of the program. Conditions: stated in each. Ahead of it: Lists of lists that a call owns, and those that are only read; append of a list. Conditions: stated in each. -/
import Derived.Maps.AppendAt
import Derived.Test.YtmggcfilkiklbaaBase
import Derived.Test.YtmggcfilkiklbaaAA
import Derived.Test.YtmggcfilkiklbaaBF
namespace Go.Proofs.Ytmggcfilkiklbaa
open Go.RowKit

theorem Try.infoRow : (Try.prog.info? 23).map (fun i => (i.zero, i.size, i.bytes)) = some (some (.slice none 0 0), 1, 24) := by kernel_rfl
/-- a row of slices that the call owns -/
def OwnR (w : World) (base : Nat) (v : Value) (us : List Value) : Prop := w.ownsRow base 23 1 v us.length us
theorem OwnR.lt {w : World} {base : Nat} {v : Value} {us : List Value} (h : OwnR w base v us) : ∀ k, v.ownBlock = some k → base ≤ k ∧ k < w.heap.size := World.ownsRow.lt h
theorem OwnR.kept {w w' : World} {base : Nat} {v : Value} {us : List Value} {row : Option Nat} (h : OwnR w base v us) (hg : w.grownBy w' row) (hne : v.ownBlock = none ∨ v.ownBlock ≠ row) : OwnR w' base v us := World.ownsRow.kept h hg hne
theorem OwnR.lit (w : World) (base : Nat) (hb : base ≤ w.heap.size) : OwnR (w.alloc (.cells #[] 23)) base (.slice (some ⟨w.heap.size, 0, none⟩) 0 0) [] := World.ownsRow_lit w #[] 0 hb (by unfold maxLen; omega) (by simp)
theorem cell_one_newB (w : World) (B : Nat) (hB : w.heap.size = B) (x : Value) (t : TypeId) : ∀ j u, [x][j]? = some u → (w.alloc (.cells #[x] t)).cell? ((⟨B, 0, none⟩ : Addr).add j) = some u := by
  subst hB; exact cell_one_new w x t
/-- append of one slice: the new row lies where the old one lay, or in a new block -/
theorem append1R (w : World) {ops : Array Oper} {rest : List Oper} {o : Oper} {a : Act} {Q : Exit → Act → World → Prop} (B : Nat) (hBs : w.heap.size = B) (hgd : o.guard = none) (s x : Operand)
    (ho : o.op = .call { callee := .builtin .append, args := #[s, x], argTypes := #[33, 33] }) (base : Nat) (v : Value) (us : List Value) (u : Value) (hu1 : u.oneCell' = true)
    (hs : a.eval s = v) (hx : a.eval x = .slice (some ⟨B, 0, none⟩) 1 1) (hown : OwnR w base v us) (hl : us.length ≤ 1000000) (hbase : base ≤ w.heap.size)
    (h : ∀ v' w', OwnR w' base v' (us ++ [u]) → w.grownBy w' v.ownBlock → (v'.ownBlock = v.ownBlock ∨ v'.ownBlock = some (w.heap.size + 1)) → wpList Try.prog ops Q rest (a.put o.dst v') w') :
    wpList Try.prog ops Q (o :: rest) a (w.alloc (.cells #[u] 23)) := by
  obtain ⟨i0, hi, hz0, hz1, hz2⟩ := info_parts Try.infoRow
  have hown' := World.ownsRow.alloc hown (.cells #[u] 23)
  refine wpList_append_own_at _ hgd s x 33 ho base 23 i0 (.slice none 0 0) 1 24 Try.underlying33 hi hz0 hz1 hz2 rfl (by decide) v us.length _ hs hown' ⟨B, 0, none⟩ 1 1 [u] hx rfl (cell_one_newB w B hBs _ _) (by simpa using hu1) (by unfold maxLen; omega) (by omega) (by simp; omega) ?_
  intro v' w' h1 h2 _ h4
  refine h v' w' ?_ ((World.grownBy_alloc w _ _).trans' h2) (by simpa using h4)
  unfold OwnR
  simpa using h1
/-- a list of lists that the call owns: each list is its own, and none lies where the outer one lies -/
def RowsR (w : World) (base : Nat) (v : Value) (rows : List (List Int)) : Prop :=
  ∃ us : List Value, OwnR w base v us ∧ us.length = rows.length ∧ ∀ i, i < rows.length → OwnI w base (us[i]?.getD (.slice none 0 0)) (rows[i]?.getD []) ∧ ∀ g, v.ownBlock = some g → (us[i]?.getD (.slice none 0 0)).ownBlock ≠ some g
theorem RowsR.lt {w : World} {base : Nat} {v : Value} {rows : List (List Int)} (h : RowsR w base v rows) : ∀ k, v.ownBlock = some k → base ≤ k ∧ k < w.heap.size := h.choose_spec.1.lt
theorem RowsR.lit (w : World) (base : Nat) (hb : base ≤ w.heap.size) : RowsR (w.alloc (.cells #[] 23)) base (.slice (some ⟨w.heap.size, 0, none⟩) 0 0) [] :=
  ⟨[], OwnR.lit w base hb, rfl, fun i h => absurd h (Nat.not_lt_zero _)⟩
theorem RowsR.keptB {w w' : World} {base : Nat} {v : Value} {rows : List (List Int)} (h : RowsR w base v rows) (hb : Below w.heap.size w w') : RowsR w' base v rows := by
  obtain ⟨us, h1, h2, h3⟩ := h
  refine ⟨us, ?_, h2, fun i hi => ⟨(h3 i hi).1.keptB hb, (h3 i hi).2⟩⟩
  unfold OwnR World.ownsRow at h1 ⊢
  refine ⟨h1.1, h1.2.imp id ?_⟩
  rintro ⟨g, cap, cur, e1, e2, e3, e4⟩
  exact ⟨g, cap, cur, e1, e2, (hb.block g (Array.getElem?_eq_some_iff.1 e3).1).trans e3, e4⟩
theorem RowsR.mono {w : World} {base base' : Nat} {v : Value} {rows : List (List Int)} (h : RowsR w base v rows) (hb : base' ≤ base) : RowsR w base' v rows := by
  obtain ⟨us, h1, h2, h3⟩ := h
  refine ⟨us, ?_, h2, fun i hi => ⟨(h3 i hi).1.mono hb, (h3 i hi).2⟩⟩
  unfold OwnR World.ownsRow at h1 ⊢
  refine ⟨h1.1, h1.2.imp id ?_⟩
  rintro ⟨g, cap, cur, e1, e2, e3, e4⟩
  exact ⟨g, cap, cur, e1, Nat.le_trans hb e2, e3, e4⟩
theorem OwnI.one {w : World} {base : Nat} {v : Value} {zs : List Int} (h : OwnI w base v zs) : v.oneCell' = true := by
  obtain ⟨a, c, rfl, _, _⟩ := h.shape
  rfl
/-- append of one list onto a list of lists -/
theorem appendRow (w : World) {ops : Array Oper} {rest : List Oper} {o : Oper} {a : Act} {Q : Exit → Act → World → Prop} (B : Nat) (hBs : w.heap.size = B) (hgd : o.guard = none) (s x : Operand)
    (ho : o.op = .call { callee := .builtin .append, args := #[s, x], argTypes := #[33, 33] }) (base : Nat) (v : Value) (rows : List (List Int)) (u : Value) (zs : List Int)
    (hs : a.eval s = v) (hx : a.eval x = .slice (some ⟨B, 0, none⟩) 1 1) (hown : RowsR w base v rows) (hu : OwnI w base u zs) (hne : ∀ g, v.ownBlock = some g → u.ownBlock ≠ some g) (hl : rows.length ≤ 1000000) (hbase : base ≤ w.heap.size)
    (h : ∀ v' w', RowsR w' base v' (rows ++ [zs]) → w.grownBy w' v.ownBlock → (v'.ownBlock = v.ownBlock ∨ v'.ownBlock = some (w.heap.size + 1)) → wpList Try.prog ops Q rest (a.put o.dst v') w') :
    wpList Try.prog ops Q (o :: rest) a (w.alloc (.cells #[u] 23)) := by
  obtain ⟨us, h1, h2, h3⟩ := hown
  refine append1R w B hBs hgd s x ho base v us u hu.one hs hx h1 (by omega) hbase ?_
  intro v' w' g1 g2 g3
  have key : ∀ (u2 : Value) (ys : List Int), OwnI w base u2 ys → (∀ g, v.ownBlock = some g → u2.ownBlock ≠ some g) → OwnI w' base u2 ys ∧ ∀ g, v'.ownBlock = some g → u2.ownBlock ≠ some g := fun u2 ys k1 k2 => by
    refine ⟨k1.kept g2 ?_, fun g hg => ?_⟩
    · cases hv : v.ownBlock with
      | none => cases h2 : u2.ownBlock with
        | none => exact .inl rfl
        | some g => exact .inr (fun e => by cases e)
      | some g => exact .inr (k2 g hv)
    · rcases g3 with g3 | g3
      · exact k2 g (g3.symm.trans hg)
      · intro e
        have h4 := (k1.lt g e).2
        rw [hg] at g3
        have := Option.some.inj g3
        omega
  refine h v' w' ⟨us ++ [u], g1, by simp [h2], fun i hi => ?_⟩ g2 g3
  rw [List.length_append, List.length_singleton] at hi
  by_cases hi2 : i < rows.length
  · rw [List.getElem?_append_left (by omega), List.getElem?_append_left hi2]
    exact key _ _ (h3 i hi2).1 (h3 i hi2).2
  · obtain rfl : i = rows.length := by omega
    rw [List.getElem?_append_right (by omega), List.getElem?_append_right (Nat.le_refl _), h2, Nat.sub_self]
    exact key u zs hu hne

/-- a list of lists that is read -/
def RowsAt (w : World) (a : Option Addr) (rows : List (List Int)) : Prop :=
  rows = [] ∨ ∃ b, a = some ⟨b, 0, none⟩ ∧ b < w.heap.size ∧ ∀ i, i < rows.length → ∃ ad cp, w.cell? ⟨b, i, none⟩ = some (.slice ad (rows[i]?.getD []).length cp) ∧ IntsAt w ad (rows[i]?.getD [])
theorem RowsAt.below {w w' : World} {a : Option Addr} {rows : List (List Int)} (h : RowsAt w a rows) (hb : Below w.heap.size w w') : RowsAt w' a rows := by
  rcases h with h | ⟨b, h1, h2, h3⟩
  · exact .inl h
  · refine .inr ⟨b, h1, Nat.lt_of_lt_of_le h2 hb.size, fun i hi => ?_⟩
    obtain ⟨ad, cp, e1, e2⟩ := h3 i hi
    exact ⟨ad, cp, (hb.cell (p := ⟨b, i, none⟩) h2).trans e1, e2.below hb⟩
theorem RowsAt.dr {w : World} {a : Option Addr} {rows : List (List Int)} (h : RowsAt w a rows) (n : Nat) : RowsAt (w.drewN n) a rows := h.below (drewN_below w n _)
theorem RowsAt.at {w : World} {a : Option Addr} {rows : List (List Int)} (h : RowsAt w a rows) (hn : 0 < rows.length) : ∃ b, a = some ⟨b, 0, none⟩ ∧ b < w.heap.size ∧ ∀ i, i < rows.length → ∃ ad cp, w.cell? ⟨b, i, none⟩ = some (.slice ad (rows[i]?.getD []).length cp) ∧ IntsAt w ad (rows[i]?.getD []) := by
  rcases h with rfl | h
  · simp at hn
  · exact h
theorem RowsR.shape {w : World} {base : Nat} {v : Value} {rows : List (List Int)} (h : RowsR w base v rows) : ∃ a cp, v = .slice a rows.length cp ∧ RowsAt w a rows := by
  obtain ⟨us, h1, h2, h3⟩ := h
  have h1' := h1
  unfold OwnR World.ownsRow at h1'
  rcases h1'.2 with ⟨rfl, h4⟩ | ⟨g, cap, cur, e1, e2, e3, e4, e5, e6, e7⟩
  · have : rows = [] := List.eq_nil_of_length_eq_zero (by omega)
    subst this
    exact ⟨none, 0, rfl, .inl rfl⟩
  · subst e1
    refine ⟨_, cap, by rw [h2], .inr ⟨g, rfl, (Array.getElem?_eq_some_iff.1 e3).1, fun i hi => ?_⟩⟩
    obtain ⟨k1, k2⟩ := h3 i hi
    obtain ⟨ad, cp, hv, hI, _⟩ := k1.shape
    have hc := World.ownsRow.cellAt h1 i (by omega)
    rw [List.getElem?_eq_getElem (by omega)] at hc
    rw [List.getElem?_eq_getElem (by omega : i < us.length)] at hv
    simp only [Option.getD_some] at hv
    exact ⟨ad, cp, by rw [hc, hv], hI⟩
end Go.Proofs.Ytmggcfilkiklbaa
namespace Go.Proofs.Ytmggcfilkiklbaa
open Go.RowKit

theorem binsO_is {zs : List Int} {size : Int} {o : Option (Nat × Bool)} {bs : List (List Int)} (h : binsO zs size o = some bs) :
    ∃ r c, o = some (r, c) ∧ toldB zs size = true ∧ BinsOk r size bs ∧ bs.flatten.Perm zs ∧ bs.length ≤ 10 ∧ bs.flatten.length ≤ 10 := by
  cases o with
  | none => cases h
  | some p =>
    obtain ⟨r, c⟩ := p
    by_cases ht : toldB zs size = true
    · rw [binsO_some ht] at h
      obtain rfl := Option.some.inj h
      obtain ⟨hz, h1, h2, hle⟩ := toldB_is ht
      have hzl := (inL_iff zs).1 hz
      have hp := ordB_perm c zs
      have hb := byB_ok (r := r) (size := size) (xs := ordB c zs) (perm_good hp hzl.2) (fun x hx => hle x (hp.subset hx))
      have hl := hp.length_eq
      have hf := hb.2.1.length_eq
      exact ⟨r, c, rfl, ht, hb.1, hb.2.1.trans hp, by have := hb.2.2; omega, by omega⟩
    · rw [binsO_no (by simpa using ht)] at h
      cases h
theorem take_snocA {α : Type} (l : List α) (i : Nat) (d : α) (h : i < l.length) : l.take (i + 1) = l.take i ++ [l[i]?.getD d] := by
  rw [List.take_add_one, List.getElem?_eq_getElem h]; rfl
def ByPost (w : World) (ok : Bool) (rows : List (List Int)) (e : Ending) (w' : World) : Prop :=
  ∃ v, e = .returned (.tuple #[v, .bool ok]) ∧ RowsR w' w.heap.size v rows ∧ Below w.heap.size w w'

set_option maxHeartbeats 3200000 in
theorem BinBy_any (lt : ByteArray) (o : Option (Nat × Bool)) (hL : Ltr lt o) (a : Option Addr) (cap : Nat) (zs : List Int) (size : Int) (w : World) (hl : zs.length ≤ 19) (hI : IntsAt w a zs) :
    Calls Try.prog 12 #[.slice a zs.length cap, .int .i64 size, .string lt] w (ByPost w (binsO zs size o).isSome ((binsO zs size o).getD [])) := by
  have hF := fill_any lt o hL a cap zs size w hl hI
  unfold FillPost at hF
  obtain ⟨ob, hob⟩ : ∃ ob, binsO zs size o = ob := ⟨_, rfl⟩
  rw [hob] at hF ⊢
  cases ob with
  | none =>
    clear hob
    go_enter Try.func12, Try.ntmps12
    go_wp2_with fail
    refine hF.mono ?_
    rintro e w1 ⟨bl, vs, rfl, _, hB1⟩
    have HR := Lib.hid (RowsR.lit w1 w.heap.size hB1.size)
    clear hF
    go_wp2
    refine bodyPost_ret (v := .tuple #[.slice (some ⟨w1.heap.size, 0, none⟩) 0 0, .bool false]) (by simp [results, Try.f12, go_sem]) rfl ?_
    exact ⟨_, rfl, HR.out, hB1.alloc hB1.size _⟩
  | some bs =>
    obtain ⟨r, c, _, _, _, _, hbl, hfl⟩ := binsO_is hob
    clear hob
    simp only [Option.isSome_some, Option.getD_some] at hF ⊢
    go_enter Try.func12, Try.ntmps12
    go_wp2_with fail
    refine hF.mono ?_
    rintro e w1 ⟨bl, vs, rfl, hBn, hB1⟩
    have s1 := hB1.size
    have HR := Lib.hid (RowsR.lit w1 w1.heap.size (Nat.le_refl _))
    have HBn := Lib.hid hBn
    have HL1 := Lib.hid hBn.l1
    generalize hp0 : ptrAt bl 0 = p0
    have HP0 : Hid (p0 = ptrAt bl 0) := hp0.symm
    clear hF hBn hp0
    go_wp2
    go_loopg [10, 11] bs.length (fun gk v p wr => ∃ (i : Nat), i + gk = bs.length ∧ Hid (p = ptrAt bl i) ∧ RowsR wr w1.heap.size v (bs.take i) ∧ Below w1.heap.size w1 wr)
    case atStart => exact ⟨0, by omega, HP0, HR.out, (Below.refl _ _).alloc (Nat.le_refl _) _⟩
    case round =>
      obtain ⟨i, hi, HP, hR, hB⟩ := hrel
      have hpv := HP.out
      clear HP HR HP0
      by_cases hlt : i < bs.length
      · have hbi : i < bl.length := by have := HL1.out; omega
        rw [ptrAt_lt hbi] at hpv
        subst hpv
        obtain ⟨g, rfl⟩ : ∃ g, gk = g + 1 := ⟨gk - 1, by omega⟩
        have hi2 : i + 1 + g = bs.length := by omega
        have HI := Lib.hid hi2
        have hbk := HBn.out.blk i hbi
        have hbb := HBn.out.lt hbi
        generalize hba : bl[i] = b at hbk hbb
        have hc := bin_cells hbk
        obtain ⟨ad, cp, hv, hIw, _⟩ := (HBn.out.own i hlt).shape
        have hfi := flat_len bs i
        have HTK := Lib.hid (take_snocA bs i [] hlt)
        have htl : (bs.take i).length ≤ 10 := by rw [List.length_take]; omega
        generalize bs[i]?.getD [] = zi at hv hIw hfi HTK
        have h0 := (hB.cell (p := ⟨b, 0, none⟩) hbb).trans hc.1
        rw [hv] at h0
        have HX : Hid (∀ W, Below w1.heap.size w1 W → W.cell? ⟨b, 2, none⟩ = some (ptrAt bl (i + 1))) := fun W hW => (hW.cell (p := ⟨b, 2, none⟩) hbb).trans hc.2.2.2.2.1
        have hIr := hIw.below hB
        have sr := hB.size
        clear hc hbk hv hIw hi hi2 hba
        go_wp2_with fail
        refine (Clone_all ad cp zi wr (by omega) hIr).mono ?_
        rintro e w5 ⟨u, rfl, hOu, hBu⟩
        obtain ⟨au, cu, hu, _, _⟩ := hOu.shape
        subst hu
        have hR5 := hR.keptB hBu
        have hB5 := hB.trans (hBu.mono sr)
        have hne : ∀ g, u10.ownBlock = some g → (Value.slice au zi.length cu).ownBlock ≠ some g := fun g hg e => by
          have k1 := (hR.lt g hg).2
          have k2 := (hOu.lt g e).1
          omega
        have hOu5 := hOu.mono sr
        clear hR hOu hBu hIr h0 hB
        go_wp2_with (at_builtin; refine appendRow w5 w5.heap.size rfl rfl _ _ rfl w1.heap.size u10 (bs.take i) (.slice au zi.length cu) zi rfl rfl hR5 hOu5 hne (by omega) hB5.size ?_; intro v' w' hR' hG' hat; have hB' := hB5.grown hG' hB5.size (fun k hk => (hR5.lt k hk).1); have hnx := HX.out w' hB')
        go_roundg g
        case rel => exact ⟨i + 1, HI.out, rfl, by rw [HTK.out]; exact hR', hB'⟩
        case measure => omega
      · have HE : Hid (bs.take i = bs) := List.take_of_length_le (by omega)
        rw [ptrAt_ge (by have := HL1.out; omega)] at hpv
        subst hpv
        have hR9 := hR.mono s1
        rw [HE.out] at hR9
        have hB9 := hB1.trans (hB.mono s1)
        clear hR
        go_wp2
        refine bodyPost_ret (v := .tuple #[u10, .bool true]) (by simp [results, Try.f12, go_sem]) rfl ?_
        exact ⟨_, rfl, hR9, hB9⟩

def CntPost (w : World) (ok : Bool) (n : Nat) (e : Ending) (w' : World) : Prop := e = .returned (.tuple #[.int .i64 n, .bool ok]) ∧ Below w.heap.size w w'
set_option maxHeartbeats 1600000 in
theorem BinCount_any (lt : ByteArray) (o : Option (Nat × Bool)) (hL : Ltr lt o) (a : Option Addr) (cap : Nat) (zs : List Int) (size : Int) (w : World) (hl : zs.length ≤ 19) (hI : IntsAt w a zs) :
    Calls Try.prog 9 #[.slice a zs.length cap, .int .i64 size, .string lt] w (CntPost w (binsO zs size o).isSome ((binsO zs size o).getD []).length) := by
  have hF := fill_any lt o hL a cap zs size w hl hI
  unfold FillPost at hF
  obtain ⟨ob, hob⟩ : ∃ ob, binsO zs size o = ob := ⟨_, rfl⟩
  rw [hob] at hF ⊢
  cases ob with
  | none =>
    clear hob
    go_enter Try.func9, Try.ntmps9
    go_wp2_with fail
    refine hF.mono ?_
    rintro e w1 ⟨bl, vs, rfl, _, hB1⟩
    clear hF
    go_wp2
    refine bodyPost_ret (v := .tuple #[.int .i64 0, .bool false]) (by simp [results, Try.f9, go_sem]) rfl ?_
    exact ⟨rfl, hB1⟩
  | some bs =>
    obtain ⟨r, c, _, _, _, _, hbl, hfl⟩ := binsO_is hob
    clear hob
    simp only [Option.isSome_some, Option.getD_some] at hF ⊢
    go_enter Try.func9, Try.ntmps9
    go_wp2_with fail
    refine hF.mono ?_
    rintro e w1 ⟨bl, vs, rfl, hBn, hB1⟩
    have HBn := Lib.hid hBn
    have HL1 := Lib.hid hBn.l1
    generalize hp0 : ptrAt bl 0 = p0
    have HP0 : Hid (p0 = ptrAt bl 0) := hp0.symm
    clear hF hBn hp0
    go_wp2
    go_loopg [10, 11] bs.length (fun gk v p wr => ∃ (i : Nat), i + gk = bs.length ∧ Hid (p = ptrAt bl i) ∧ v = .int .i64 i ∧ wr = w1)
    case atStart => exact ⟨0, by omega, HP0, rfl, rfl⟩
    case round =>
      obtain ⟨i, hi, HP, rfl, rfl⟩ := hrel
      have hpv := HP.out
      clear HP HP0
      by_cases hlt : i < bs.length
      · have hbi : i < bl.length := by have := HL1.out; omega
        rw [ptrAt_lt hbi] at hpv
        subst hpv
        obtain ⟨g, rfl⟩ : ∃ g, gk = g + 1 := ⟨gk - 1, by omega⟩
        have hi2 : i + 1 + g = bs.length := by omega
        have HI := Lib.hid hi2
        have hbk := HBn.out.blk i hbi
        generalize bl[i] = b at hbk
        have hn := (bin_cells hbk).2.2.2.2.1
        generalize hpn : ptrAt bl (i + 1) = pn at hn
        have HPN : Hid (pn = ptrAt bl (i + 1)) := hpn.symm
        clear hbk hi hi2 hpn
        go_wp2
        go_roundg g
        case rel => exact ⟨i + 1, HI.out, HPN, by go_num, rfl⟩
        case measure => omega
      · have HE : Hid (i = bs.length) := by show i = _; omega
        rw [ptrAt_ge (by have := HL1.out; omega)] at hpv
        subst hpv
        go_wp2
        refine bodyPost_ret (v := .tuple #[.int .i64 i, .bool true]) (by simp [results, Try.f9, go_sem]) rfl ?_
        exact ⟨by rw [HE.out], hB1⟩

theorem rooms_take (size : Int) (bs : List (List Int)) (i : Nat) (h : i < bs.length) : (bs.take (i + 1)).map (fun b => size - tot b) = (bs.take i).map (fun b => size - tot b) ++ [rm size bs i] := by
  rw [take_snocA bs i [] h, List.map_append]
  rfl
set_option maxHeartbeats 1600000 in
theorem BinRoom_any (lt : ByteArray) (o : Option (Nat × Bool)) (hL : Ltr lt o) (a : Option Addr) (cap : Nat) (zs : List Int) (size : Int) (w : World) (hl : zs.length ≤ 19) (hI : IntsAt w a zs) :
    Calls Try.prog 6 #[.slice a zs.length cap, .int .i64 size, .string lt] w (ListR w (binsO zs size o).isSome (((binsO zs size o).getD []).map (fun b => size - tot b))) := by
  have hF := fill_any lt o hL a cap zs size w hl hI
  unfold FillPost at hF
  obtain ⟨ob, hob⟩ : ∃ ob, binsO zs size o = ob := ⟨_, rfl⟩
  rw [hob] at hF ⊢
  cases ob with
  | none =>
    clear hob
    go_enter Try.func6, Try.ntmps6
    go_wp2_with fail
    refine hF.mono ?_
    rintro e w1 ⟨bl, vs, rfl, _, hB1⟩
    have HO : Hid (OwnI (w1.alloc (.cells #[] 3)) w.heap.size (.slice (some ⟨w1.heap.size, 0, none⟩) 0 0) []) := World.ownsRow_lit w1 #[] 0 hB1.size (by unfold maxLen; omega) (by simp)
    clear hF
    go_wp2
    refine bodyPost_ret (v := .tuple #[.slice (some ⟨w1.heap.size, 0, none⟩) 0 0, .bool false]) (by simp [results, Try.f6, go_sem]) rfl ?_
    exact ⟨_, rfl, HO.out, hB1.alloc hB1.size _⟩
  | some bs =>
    obtain ⟨r, c, _, _, _, _, hbl, hfl⟩ := binsO_is hob
    clear hob
    simp only [Option.isSome_some, Option.getD_some] at hF ⊢
    go_enter Try.func6, Try.ntmps6
    go_wp2_with fail
    refine hF.mono ?_
    rintro e w1 ⟨bl, vs, rfl, hBn, hB1⟩
    have s1 := hB1.size
    have HO : Hid (OwnI (w1.alloc (.cells #[] 3)) w1.heap.size (.slice (some ⟨w1.heap.size, 0, none⟩) 0 0) []) := World.ownsRow_lit w1 #[] 0 (Nat.le_refl _) (by unfold maxLen; omega) (by simp)
    have HBn := Lib.hid hBn
    have HL1 := Lib.hid hBn.l1
    generalize hp0 : ptrAt bl 0 = p0
    have HP0 : Hid (p0 = ptrAt bl 0) := hp0.symm
    clear hF hBn hp0
    go_wp2
    go_loopg [10, 11] bs.length (fun gk v p wr => ∃ (i : Nat), i + gk = bs.length ∧ Hid (p = ptrAt bl i) ∧ OwnI wr w1.heap.size v ((bs.take i).map (fun b => size - tot b)) ∧ Below w1.heap.size w1 wr)
    case atStart => exact ⟨0, by omega, HP0, HO.out, (Below.refl _ _).alloc (Nat.le_refl _) _⟩
    case round =>
      obtain ⟨i, hi, HP, hO, hB⟩ := hrel
      have hpv := HP.out
      clear HP HO HP0
      by_cases hlt : i < bs.length
      · have hbi : i < bl.length := by have := HL1.out; omega
        rw [ptrAt_lt hbi] at hpv
        subst hpv
        obtain ⟨g, rfl⟩ : ∃ g, gk = g + 1 := ⟨gk - 1, by omega⟩
        have hi2 : i + 1 + g = bs.length := by omega
        have HI := Lib.hid hi2
        have hbk := HBn.out.blk i hbi
        have hbb := HBn.out.lt hbi
        generalize hba : bl[i] = b at hbk hbb
        have hc := bin_cells hbk
        have HTK := Lib.hid (rooms_take size bs i hlt)
        have htl : ((bs.take i).map (fun b => size - tot b)).length ≤ 10 := by rw [List.length_map, List.length_take]; omega
        generalize rm size bs i = rmi at hc HTK
        generalize (bs.take i).map (fun b => size - tot b) = L at hO HTK htl
        have h1 := (hB.cell (p := ⟨b, 1, none⟩) hbb).trans hc.2.2.1
        have HX : Hid (∀ W, Below w1.heap.size w1 W → W.cell? ⟨b, 2, none⟩ = some (ptrAt bl (i + 1))) := fun W hW => (hW.cell (p := ⟨b, 2, none⟩) hbb).trans hc.2.2.2.2.1
        have sr := hB.size
        clear hc hbk hi hi2 hba
        go_wp2_with (at_builtin; refine append1 wr rfl _ _ rfl w1.heap.size u10 L rmi rfl rfl hO (by omega) sr ?_; intro v' w' hO' hG'; have hB' := hB.grown hG' sr (fun k hk => (hO.lt k hk).1); have hnx := HX.out w' hB')
        go_roundg g
        case rel => exact ⟨i + 1, HI.out, rfl, by rw [HTK.out]; exact hO', hB'⟩
        case measure => omega
      · have HE : Hid (bs.take i = bs) := List.take_of_length_le (by omega)
        rw [ptrAt_ge (by have := HL1.out; omega)] at hpv
        subst hpv
        have hO9 := hO.mono s1
        rw [HE.out] at hO9
        have hB9 := hB1.trans (hB.mono s1)
        clear hO
        go_wp2
        refine bodyPost_ret (v := .tuple #[u10, .bool true]) (by simp [results, Try.f6, go_sem]) rfl ?_
        exact ⟨_, rfl, hO9, hB9⟩
end Go.Proofs.Ytmggcfilkiklbaa
