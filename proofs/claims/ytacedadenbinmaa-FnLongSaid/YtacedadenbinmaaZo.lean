/- The draws of loads and machines. Conditions: stated in each. append of a slice as one step of a region that draws. Conditions: stated in the lemma. Ahead of it: append of a slice onto a slice that the call owns. Conditions: stated in the lemma. append of one number, with the place of the new slice. Conditions: stated in each. byList of the program: the list rule. Conditions: at most ten good loads, at most five machines. spanByList and LoadSpan of the program. Conditions: at most ten good loads, at most five machines; none for LoadSpan. l5Most of the reference. Conditions: none but that the list is short enough to be counted. The list rule of the reference: l5List, LoadSpan. Conditions: at most ten good loads, at most five machines; none for LoadSpan. LoadBound of the program. Conditions: none but that the list is short enough to be counted. -/
import Derived.Deep.RegionWith
import Derived.Test.YtacedadenbinmaaZh
import Derived.Maps.AppendAt
import Derived.Test.YtacedadenbinmaaZa
import Derived.Deep.RegionLaw
import Derived.Test.YtacedadenbinmaaZi
set_option linter.unusedVariables false
set_option linter.unusedSimpArgs false
set_option linter.unusedSectionVars false
namespace Go.Proofs.Ytacedadenbinmaa
open Go.RowKit

def LoadsDrawn (w : World) (Br : Nat) (a : Option Addr) (len cap : Nat) (e : Ending) (w' : World) : Prop :=
  ∃ v zs m p', e = .returned (.tuple #[v, .int .i64 m]) ∧ DrI w w' Br a len cap p' v zs ∧ zs.length ≤ 8 ∧ okDrawn zs ∧ 0 ≤ m ∧ m ≤ 6 ∧ 0 ≤ p' ∧ p' ≤ 100000

theorem mLd {x y z : Int} (h0 : 0 ≤ x) (h1 : x < 24 ∨ x = 0) (h2 : 0 ≤ y) (h3 : y < 24 ∨ y = 0) (h4 : 0 ≤ z) (h5 : z < 4 ∨ z = 0) :
    0 ≤ IntKind.i64.wrap (IntKind.i64.wrap (IntKind.i64.wrap (1 + z) + IntKind.i64.wrap (IntKind.i64.wrap (y.tdiv 23) * 2)) - IntKind.i64.wrap (x.tdiv 23)) ∧ IntKind.i64.wrap (IntKind.i64.wrap (IntKind.i64.wrap (1 + z) + IntKind.i64.wrap (IntKind.i64.wrap (y.tdiv 23) * 2)) - IntKind.i64.wrap (x.tdiv 23)) ≤ 6 := by
  have := tdiv23 h0 h1
  have := tdiv23 h2 h3
  rw [kwrap (x.tdiv 23) (by omega), kwrap (y.tdiv 23) (by omega), kwrap (1 + z) (by omega), kwrap (y.tdiv 23 * 2) (by omega), kwrap (1 + z + _) (by omega), kwrap _ (by omega)]
  omega

set_option maxHeartbeats 3200000 in
theorem l92Loads_any (Br len cap : Nat) (a : Option Addr) (p : Int) (most : Nat) (w : World) (hp : 0 ≤ p ∧ p ≤ 100) (hm : most ≤ 7) (hlen : len ≤ 2000) (hR : RdAt w Br a len cap p) :
    Calls Try.prog 43 #[.pointer (some ⟨Br, 0, none⟩), .int .i64 most] w (LoadsDrawn w Br a len cap) := by
  go_enter Try.func43, Try.ntmps43
  go_wp2_with fail
  refine (l91List_any Br len cap a p 15 most w (by omega) hlen (by omega) (by omega) hR).mono ?_
  rintro e w1 ⟨v, zs, p', rfl, hD, hz1, hz2, hp1, hp2⟩
  clear hR
  go_wp2_with fail
  refine (pickD Br len cap a _ _ w _ _ _ (by omega) hlen (by omega) hD).mono ?_
  rintro e w2 ⟨z, rfl, hz0, hz4, hD2, _⟩
  clear hD
  go_wp2_with fail
  refine (pickD Br len cap a _ _ w _ _ _ (by omega) hlen (by omega) hD2).mono ?_
  rintro e w3 ⟨y, rfl, hy0, hy4, hD3, _⟩
  clear hD2
  go_wp2_with fail
  refine (pickD Br len cap a _ _ w _ _ _ (by omega) hlen (by omega) hD3).mono ?_
  rintro e w4 ⟨x, rfl, hx0, hx4, hD4, _⟩
  clear hD3
  go_wp2_with fail
  go_ret2
  exact ⟨v, zs, _, _, rfl, hD4, by omega, hz2, by omega, by omega, by omega, by omega⟩

theorem l92Some_any (a : Option Addr) (len cap : Nat) (w : World) (hl : len ≤ 1048576) (hcap : len ≤ cap) (hb : BytesAt w w.heap.size a len) :
    Calls Try.prog 45 #[.slice a len cap] w (Drawn2 w 8 0 6) := by
  go_enter Try.func45, Try.ntmps45
  go_wp2_with fail
  refine (l6Open_any a len cap w hl hcap hb).mono ?_
  rintro e w1 ⟨l, c, rfl, hl2, hR, hB⟩
  go_wp2_with fail
  refine (l92Loads_any w.heap.size l c a 0 7 w1 (by omega) (by omega) hl2 hR).mono ?_
  rintro e w2 ⟨v, zs, m, p', rfl, hD, hz, hd, hm0, hm6, _, _⟩
  obtain ⟨ad, cp, rfl, hI, _⟩ := hD.2.1.shape
  have hB2 := hB.trans hD.2.2.1
  clear hR hD
  go_wp2_with fail
  go_ret2
  exact ⟨ad, cp, zs, m, rfl, hz, hd, hI, hm0, hm6, hB2⟩
theorem DrawLoadSpan_any (a : Option Addr) (len cap : Nat) (w : World) (hl : len ≤ 1048576) (hcap : len ≤ cap) (hb : BytesAt w w.heap.size a len) :
    Calls Try.prog 24 #[.slice a len cap] w (Drawn2 w 8 0 6) := by
  go_enter Try.func24, Try.ntmps24
  go_wp2_with fail
  refine (l92Some_any a len cap w hl hcap hb).mono ?_
  rintro e w2 ⟨ad, cp, zs, m, rfl, hz, hd, hI, hm0, hm6, hB⟩
  go_wp2_with fail
  go_ret2
  exact ⟨ad, cp, zs, m, rfl, hz, hd, hI, hm0, hm6, hB⟩
theorem DrawLoadLong_any (a : Option Addr) (len cap : Nat) (w : World) (hl : len ≤ 1048576) (hcap : len ≤ cap) (hb : BytesAt w w.heap.size a len) :
    Calls Try.prog 34 #[.slice a len cap] w (Drawn2 w 8 0 6) := by
  go_enter Try.func34, Try.ntmps34
  go_wp2_with fail
  refine (l92Some_any a len cap w hl hcap hb).mono ?_
  rintro e w2 ⟨ad, cp, zs, m, rfl, hz, hd, hI, hm0, hm6, hB⟩
  go_wp2_with fail
  go_ret2
  exact ⟨ad, cp, zs, m, rfl, hz, hd, hI, hm0, hm6, hB⟩
theorem DrawLoadLeast_any (a : Option Addr) (len cap : Nat) (w : World) (hl : len ≤ 1048576) (hcap : len ≤ cap) (hb : BytesAt w w.heap.size a len) :
    Calls Try.prog 31 #[.slice a len cap] w (Drawn2 w 8 0 6) := by
  go_enter Try.func31, Try.ntmps31
  go_wp2_with fail
  refine (l92Some_any a len cap w hl hcap hb).mono ?_
  rintro e w2 ⟨ad, cp, zs, m, rfl, hz, hd, hI, hm0, hm6, hB⟩
  go_wp2_with fail
  go_ret2
  exact ⟨ad, cp, zs, m, rfl, hz, hd, hI, hm0, hm6, hB⟩
theorem DrawLoadWorst_any (a : Option Addr) (len cap : Nat) (w : World) (hl : len ≤ 1048576) (hcap : len ≤ cap) (hb : BytesAt w w.heap.size a len) :
    Calls Try.prog 28 #[.slice a len cap] w (Drawn2 w 8 0 6) := by
  go_enter Try.func28, Try.ntmps28
  go_wp2_with fail
  refine (l6Open_any a len cap w hl hcap hb).mono ?_
  rintro e w1 ⟨l, c, rfl, hl2, hR, hB⟩
  go_wp2_with fail
  refine (pick_any w.heap.size l c a 0 24 w1 (by omega) hl2 (by omega) hR).mono ?_
  rintro e w2 ⟨x, rfl, hx0, hx1, hR2, hG⟩
  have hB2 : Below w.heap.size w w2 := ⟨hG.os.trans hB.os, hG.tape.trans hB.tape, hG.output.trans hB.output, Nat.le_trans hB.size hG.size, fun k hk => (hG.block k (Nat.lt_of_lt_of_le hk hB.size) (by simp; omega)).trans (hB.block k hk)⟩
  obtain ⟨q, hq⟩ : ∃ q : Nat, (5 + x / 23 * 2 : Int) = q ∧ q ≤ 7 := ⟨(5 + x / 23 * 2).toNat, by omega, by omega⟩
  clear hR hB hG
  go_wp2_with fail
  refine (l92Loads_any w.heap.size l c a 1 q w2 (by omega) hq.2 hl2 (by simpa using hR2)).mono ?_
  rintro e w3 ⟨v, zs, m, p', rfl, hD, hz, hd, hm0, hm6, _, _⟩
  obtain ⟨ad, cp, rfl, hI, _⟩ := hD.2.1.shape
  have hB3 := hB2.trans hD.2.2.1
  clear hR2 hD hB2
  go_wp2_with fail
  go_ret2
  exact ⟨ad, cp, zs, m, rfl, hz, hd, hI, hm0, hm6, hB3⟩
theorem DrawLoadEven_any (a : Option Addr) (len cap : Nat) (w : World) (hl : len ≤ 1048576) (hcap : len ≤ cap) (hb : BytesAt w w.heap.size a len) :
    Calls Try.prog 17 #[.slice a len cap] w (Drawn2 w 8 0 6) := by
  go_enter Try.func17, Try.ntmps17
  go_wp2_with fail
  refine (l6Open_any a len cap w hl hcap hb).mono ?_
  rintro e w1 ⟨l, c, rfl, hl2, hR, hB⟩
  go_wp2_with fail
  refine (pick_any w.heap.size l c a 0 24 w1 (by omega) hl2 (by omega) hR).mono ?_
  rintro e w2 ⟨x, rfl, hx0, hx1, hR2, hG⟩
  have hB2 : Below w.heap.size w w2 := ⟨hG.os.trans hB.os, hG.tape.trans hB.tape, hG.output.trans hB.output, Nat.le_trans hB.size hG.size, fun k hk => (hG.block k (Nat.lt_of_lt_of_le hk hB.size) (by simp; omega)).trans (hB.block k hk)⟩
  obtain ⟨q, hq⟩ : ∃ q : Nat, (5 + x / 23 * 2 : Int) = q ∧ q ≤ 7 := ⟨(5 + x / 23 * 2).toNat, by omega, by omega⟩
  clear hR hB hG
  go_wp2_with fail
  refine (l92Loads_any w.heap.size l c a 1 q w2 (by omega) hq.2 hl2 (by simpa using hR2)).mono ?_
  rintro e w3 ⟨v, zs, m, p', rfl, hD, hz, hd, hm0, hm6, _, _⟩
  obtain ⟨ad, cp, rfl, hI, _⟩ := hD.2.1.shape
  have hB3 := hB2.trans hD.2.2.1
  clear hR2 hD hB2
  go_wp2_with fail
  go_ret2
  exact ⟨ad, cp, zs, m, rfl, hz, hd, hI, hm0, hm6, hB3⟩
end Go.Proofs.Ytacedadenbinmaa
namespace Go.Proofs.Ytacedadenbinmaa
open Go.RowKit
theorem ints_cells {w : World} {ad : Addr} {zs : List Int} (hI : IntsAt w (some ad) zs) : ∀ j u, (zs.map (fun x => Value.int .i64 x))[j]? = some u → w.cell? (ad.add j) = some u := by
  intro j u hu
  rw [List.getElem?_map] at hu
  rcases Nat.lt_or_ge j zs.length with h | h
  · obtain ⟨b, off, he, _, hc⟩ := hI.at (by omega)
    simp only [Option.some.injEq] at he
    subst he
    have this : w.cell? (Addr.add ⟨b, off, none⟩ j) = some (.int .i64 (zs[j]?.getD 0)) := by
      rcases Nat.eq_zero_or_pos j with e | e
      · subst e; simpa [Addr.add] using hc 0 h
      · have e0 : j ≠ 0 := by omega
        simpa [Addr.add, e0] using hc j h
    simp only [List.getElem?_eq_getElem h, Option.map_some, Option.some.injEq, Option.getD_some] at hu this
    rw [← hu]
    exact this
  · rw [List.getElem?_eq_none h] at hu; cases hu
/-- append of a slice: the new slice lies where the old one lay, or in a new block -/
theorem appendSl (w : World) {ops : Array Oper} {rest : List Oper} {o : Oper} {a : Act} {Q : Exit → Act → World → Prop} (hgd : o.guard = none) (s x : Operand)
    (ho : o.op = .call { callee := .builtin .append, args := #[s, x], argTypes := #[22, 22] }) (base : Nat) (v : Value) (zs ys : List Int) (ad : Addr) (m c : Nat)
    (hs : a.eval s = v) (hx : a.eval x = .slice (some ad) m c) (hm : ys.length = m) (hown : OwnI w base v zs) (hl : zs.length ≤ 1000000) (hl2 : ys.length ≤ 1000000) (hI : IntsAt w (some ad) ys) (hbase : base ≤ w.heap.size)
    (h : ∀ v' w', OwnI w' base v' (zs ++ ys) → w.grownBy w' v.ownBlock → (v'.ownBlock = v.ownBlock ∨ v'.ownBlock = some w.heap.size) → wpList Try.prog ops Q rest (a.put o.dst v') w') :
    wpList Try.prog ops Q (o :: rest) a w := by
  subst hm
  obtain ⟨i0, hi, hz0, hz1, hz2⟩ := info_parts Try.infoInt
  refine wpList_append_own_at _ hgd s x 22 ho base 3 i0 (.int .i64 0) 1 8 Try.underlying22 hi hz0 hz1 hz2 rfl (by decide) v zs.length _ hs hown ad ys.length c (ys.map (fun x => Value.int .i64 x)) hx (by simp) (ints_cells hI) (fun u hu => by obtain ⟨x, _, rfl⟩ := List.mem_map.1 hu; rfl) (by unfold maxLen; omega) (by omega) hbase ?_
  intro v' w' h1 h2 _ h4
  refine h v' w' ?_ h2 h4
  unfold OwnI
  simpa using h1
end Go.Proofs.Ytacedadenbinmaa
namespace Go.Proofs.Ytacedadenbinmaa
open Go.RowKit
theorem stepSl {ops : Array Oper} {o : Oper} {a : Act} {w : World} {K : Act → World → Prop} {Q : Exit → Act → World → Prop} {E : Prop}
    (hg : o.guard = none) (s x : Operand) (hop : o.op = Op.call { callee := Callee.builtin Builtin.append, args := #[s, x], argTypes := #[22, 22] })
    (base : Nat) (v : Value) (zs ys : List Int) (ad : Addr) (m c : Nat)
    (hs : a.eval s = v) (hx : a.eval x = .slice (some ad) m c) (hm : ys.length = m) (hown : OwnI w base v zs) (hl : zs.length ≤ 1000000) (hl2 : ys.length ≤ 1000000) (hI : IntsAt w (some ad) ys) (hbase : base ≤ w.heap.size)
    (hK : ∀ v' w', OwnI w' base v' (zs ++ ys) → w.grownBy w' v.ownBlock → (v'.ownBlock = v.ownBlock ∨ v'.ownBlock = some w.heap.size) → K (a.put o.dst v') w') :
    if Region.wanted o (yielded ops a.tmps) = true then Oper.wp Try.prog o a w K Q else E := by
  subst hm
  have hw : Region.wanted o (yielded ops a.tmps) = true := by simp [Region.wanted, hg]
  rw [if_pos hw]
  obtain ⟨i0, hi, hz0, hz1, hz2⟩ := info_parts Try.infoInt
  obtain ⟨v', w', hrun, h2, h3, _, h5⟩ := run_append_own_at (P := Try.prog) w base 22 o.type 3 i0 (.int .i64 0) 1 8 Try.underlying22 hi hz0 hz1 hz2 rfl (by decide) v zs.length _ hown ad ys.length c (ys.map (fun x => Value.int .i64 x)) (by simp) (ints_cells hI) (fun u hu => by obtain ⟨x, _, rfl⟩ := List.mem_map.1 hu; rfl) (by unfold maxLen; omega) (by omega) hbase
  unfold Oper.wp
  simp [execOp, hop, resolve, invoke, builtin, hs, hx, hrun, Result.andThen]
  refine hK v' w' ?_ h3 h5
  unfold OwnI
  simpa using h2
end Go.Proofs.Ytacedadenbinmaa
namespace Go.Proofs.Ytacedadenbinmaa
open Go.RowKit
/-- append of one number: the new slice lies where the old one lay, or in a new block -/
theorem append1At (w : World) {ops : Array Oper} {rest : List Oper} {o : Oper} {a : Act} {Q : Exit → Act → World → Prop} (hgd : o.guard = none) (s x : Operand)
    (ho : o.op = .call { callee := .builtin .append, args := #[s, x], argTypes := #[22, 22] }) (base : Nat) (v : Value) (zs : List Int) (z : Int)
    (hs : a.eval s = v) (hx : a.eval x = .slice (some ⟨w.heap.size, 0, none⟩) 1 1) (hown : OwnI w base v zs) (hl : zs.length ≤ 1000000) (hbase : base ≤ w.heap.size)
    (h : ∀ v' w', OwnI w' base v' (zs ++ [z]) → w.grownBy w' v.ownBlock → (v'.ownBlock = v.ownBlock ∨ v'.ownBlock = some (w.heap.size + 1)) → wpList Try.prog ops Q rest (a.put o.dst v') w') :
    wpList Try.prog ops Q (o :: rest) a (w.alloc (.cells #[.int .i64 z] 3)) := by
  obtain ⟨i0, hi, hz0, hz1, hz2⟩ := info_parts Try.infoInt
  have hown' := World.ownsRow.alloc hown (.cells #[.int .i64 z] 3)
  refine wpList_append_own_at _ hgd s x 22 ho base 3 i0 (.int .i64 0) 1 8 Try.underlying22 hi hz0 hz1 hz2 rfl (by decide) v zs.length _ hs hown' ⟨w.heap.size, 0, none⟩ 1 1 [.int .i64 z] hx rfl (cell_one_new _ _ _) (by simp [Value.oneCell']) (by unfold maxLen; omega) (by omega) (by simp; omega) ?_
  intro v' w' h1 h2 _ h4
  refine h v' w' ?_ ((World.grownBy_alloc w _ _).trans' h2) (by simpa using h4)
  unfold OwnI
  simpa using h1
end Go.Proofs.Ytacedadenbinmaa
namespace Go.Proofs.Ytacedadenbinmaa
open Go.RowKit

def BLPost (zs : List Int) (m : Nat) (w : World) (e : Ending) (w' : World) : Prop :=
  ∃ v1 v2, e = .returned (.tuple #[v1, v2]) ∧ OwnI w' w.heap.size v2 (lstS zs (List.replicate m 0)) ∧ Below w.heap.size w w'

theorem lstS_in : ∀ (zs ss : List Int) (b : Int), good zs → (∀ y ∈ ss, 0 ≤ y ∧ y ≤ b) → 0 < ss.length → ∀ y ∈ lstS zs ss, 0 ≤ y ∧ y ≤ b + 60 * zs.length
  | [], ss, b, _, h, _ => fun y hy => by have := h y hy; simp only [List.length_nil]; omega
  | x :: xs, ss, b, hz, h, h0 => fun y hy => by
    have := lstS_in xs (stepL ss x) (b + 60) (fun u hu => hz u (by simp [hu])) (putAt_bd h (hz x (by simp)) (aiU_lt ss h0 _ (Nat.le_refl _))) (by rw [stepL_length]; exact h0) y hy
    simp only [List.length_cons]
    omega
theorem lstS_snoc (zs ss : List Int) (x : Int) : lstS (zs ++ [x]) ss = stepL (lstS zs ss) x := by simp [lstS, List.foldl_append]

set_option maxRecDepth 100000 in
set_option maxHeartbeats 3200000 in
theorem byList_any (a : Option Addr) (cap : Nat) (zs : List Int) (m : Nat) (w : World) (hl : zs.length ≤ 10) (hg : good zs) (hm : 1 ≤ m ∧ m ≤ 5) (hI : IntsAt w a zs) :
    Calls Try.prog 71 #[.slice a zs.length cap, .int .i64 m] w (BLPost zs m w) := by
  go_enter Try.func71, Try.ntmps71
  go_wp2_with (at_make; first | (refine makeI _ rfl _ _ rfl zs.length _ rfl rfl rfl (by omega) ?_; intro w1 hO1 hG1) | (refine makeI _ rfl _ _ rfl m _ rfl rfl rfl (by omega) ?_; intro w2 hO2 hG2))
  have hB : Below w.heap.size w w2 := ⟨hG2.os.trans hG1.os, hG2.tape.trans hG1.tape, hG2.output.trans hG1.output, Nat.le_trans hG1.size hG2.size, fun k hk => (hG2.block k (Nat.lt_of_lt_of_le hk hG1.size) (by simp)).trans (hG1.block k hk (by simp))⟩
  have hA : OwnI w2 w.heap.size (.slice (some ⟨w.heap.size, 0, none⟩) zs.length zs.length) (List.replicate zs.length 0) := hO1.kept hG2 (.inr (by simp [Value.ownBlock]))
  have hS : OwnI w2 w.heap.size (.slice (some ⟨w1.heap.size, 0, none⟩) m m) (List.replicate m 0) := hO2.mono hG1.size
  have hgg : w.heap.size < w1.heap.size := (hO1.lt _ rfl).2
  obtain ⟨g1, hg1⟩ : ∃ g, w.heap.size = g := ⟨_, rfl⟩
  obtain ⟨g2, hg2⟩ : ∃ g, w1.heap.size = g := ⟨_, rfl⟩
  have HG1 := Lib.hid hg1
  rw [hg1] at hgg hA hB hS ⊢
  rw [hg2] at hgg hS ⊢
  clear hO1 hO2 hG1 hG2 hg2
  go_loopw [19] (fun i wr => ∃ k : Nat, k ≤ zs.length ∧ i = .int .i64 k ∧ (∃ ps : List Int, ps.length = zs.length ∧ OwnI wr g1 (.slice (some ⟨g1, 0, none⟩) zs.length zs.length) ps) ∧ OwnI wr g1 (.slice (some ⟨g2, 0, none⟩) m m) (lstS (zs.take k) (List.replicate m 0)) ∧ Below g1 w wr) (fun i _ => zs.length - (intOf i).toNat)
  case atStart => exact ⟨0, Nat.zero_le _, rfl, ⟨_, by simp, hA⟩, hS, hB⟩
  case round =>
    obtain ⟨k, hk, rfl, ⟨ps, hps, hP⟩, hQ, hBr⟩ := hrel
    clear hA hS hB
    have hsl : (lstS (zs.take k) (List.replicate m 0)).length = m := by rw [lstS_length, List.length_replicate]
    have hbd := lstS_in (zs.take k) (List.replicate m 0) 0 (fun u hu => hg u (List.mem_of_mem_take hu)) (fun y hy => by have := List.eq_of_mem_replicate hy; omega) (by simp; omega)
    rw [List.length_take] at hbd
    have HN : k < zs.length → Hid (lstS (zs.take (k + 1)) (List.replicate m 0) = stepL (lstS (zs.take k) (List.replicate m 0)) (zs[k]?.getD 0)) := fun h => by
      show _ = _
      rw [← lstS_snoc, take_snoc zs k h]
    have HE : ¬ k < zs.length → Hid (lstS zs (List.replicate m 0) = lstS (zs.take k) (List.replicate m 0)) := fun h => by
      show _ = _
      rw [List.take_of_length_le (by omega)]
    generalize hss : lstS (zs.take k) (List.replicate m 0) = ss at hQ hsl hbd HN HE
    clear hss
    by_cases hlt : k < zs.length
    · obtain ⟨b, off, rfl, hb, hcell⟩ := (hI.below (w' := wr) (by rw [hg1]; exact hBr)).at (by omega)
      have hx := hcell k hlt
      have hgx := good_get hg k hlt
      have HN1 := HN hlt
      generalize zs[k]?.getD 0 = x at hx hgx HN1
      clear hcell HN HE
      go_wp2
      go_loopw [10, 26] (fun mc j wi => ∃ jj : Nat, jj ≤ m ∧ j = .int .i64 jj ∧ mc = .int .i64 (aiU ss jj) ∧ ∃ n, wi = wr.drewN n) (fun _ j _ => m - (intOf j).toNat)
      case atStart => exact ⟨0, by omega, rfl, rfl, 0, rfl⟩
      case round =>
        obtain ⟨jj, hj, rfl, rfl, n, rfl⟩ := hrel
        by_cases hjm : jj < m
        · obtain ⟨g', cp, he, _, _, hcf⟩ := hQ.at (by omega)
          simp only [Value.slice.injEq, Option.some.injEq, Addr.mk.injEq, and_true, true_and] at he
          obtain ⟨rfl, he2⟩ := he
          clear he2
          have hai := aiU_lt ss (by omega) jj (by omega)
          have c1 := (hcf jj (by omega)).1
          have c2 := (hcf (aiU ss jj) hai).1
          have HA : Hid (aiU ss (jj + 1) = if ss[jj]?.getD 0 < ss[aiU ss jj]?.getD 0 then jj else aiU ss jj) := rfl
          generalize ss[jj]?.getD 0 = y1 at c1 HA
          generalize ss[aiU ss jj]?.getD 0 = y2 at c2 HA
          generalize aiU ss jj = q at *
          have hai2 : q < m := by omega
          clear hcf hx
          have HBD := Lib.hid hbd
          have HQ := Lib.hid hQ
          have HPP := Lib.hid hP
          have HSL := Lib.hid hsl
          have HII := Lib.hid hI
          have HGG := Lib.hid hg
          clear hbd hQ hP hsl hI hg hai hps
          go_wp2_with fail
          go_region
          go_wp2_with fail
          all_goals
            refine ⟨⟨jj + 1, by omega, by go_num, ?_, _, rfl⟩, by simp [intOf]; omega⟩
            rw [HA.out]
            (split <;> first | rfl | omega)
        · obtain rfl : m = jj := by omega
          obtain ⟨gp, cpp, heP, _, _, hpf⟩ := hP.at (by omega)
          simp only [Value.slice.injEq, Option.some.injEq, Addr.mk.injEq, and_true] at heP
          obtain ⟨rfl, heP2⟩ := heP
          clear heP2
          obtain ⟨gq, cpq, heQ, _, _, hqf⟩ := hQ.at (by omega)
          simp only [Value.slice.injEq, Option.some.injEq, Addr.mk.injEq, and_true] at heQ
          obtain ⟨rfl, heQ2⟩ := heQ
          clear heQ2
          have hai := aiU_lt ss (by omega) m (by omega)
          obtain ⟨cp1, fp1⟩ := hpf k (by omega)
          obtain ⟨cs1, fs1⟩ := hqf (aiU ss m) hai
          have HST : Hid (stepL ss x = ss.set (aiU ss m) (ss[aiU ss m]?.getD 0 + x)) := by show _ = _; rw [stepL, putAt, hsl]
          have hyb := hbd (ss[aiU ss m]?.getD 0) (by rw [List.getElem?_eq_getElem hai]; exact List.getElem_mem hai)
          generalize ss[aiU ss m]?.getD 0 = y at cs1 HST hyb
          generalize aiU ss m = q at *
          generalize ps[k]?.getD 0 = pk at cp1
          have hai2 : q < m := by omega
          have hw1 : IntKind.i64.wrap (y + x) = y + x := IntWalk.i64_in _ (by omega)
          have HQ := Lib.hid hQ
          have HPP := Lib.hid hP
          have HSL := Lib.hid hsl
          have HPS := Lib.hid hps
          have HBr := Lib.hid hBr
          have hkl : k < zs.length := hlt
          clear hbd hQ hP hsl hI hg hai hps hpf hqf hx hBr
          have hg12 : ¬ g1 = g2 := by omega
          go_wp2_with fail
          refine ⟨⟨k + 1, by omega, by go_num, ⟨ps.set k q, by simp [HPS.out], ?_⟩, ?_, ?_⟩, by simp [intOf]; omega⟩
          · exact ((HPP.out.dr n).put HPS.out k q).setO hg12 _ _
          · rw [HN1.out, HST.out]
            exact ((HQ.out.dr n).setO (fun e => hg12 e.symm) _ _).put HSL.out q (y + x)
          · exact ((belowDr HBr.out n).setCell (p := ⟨_, _, none⟩) (Nat.le_refl _) _).setCell (p := ⟨_, _, none⟩) (by simp; omega) _
    · go_wp2
      go_ret2
      refine ⟨_, _, rfl, ?_, by rw [hg1]; exact hBr⟩
      rw [hg1, (HE hlt).out]
      exact hQ
end Go.Proofs.Ytacedadenbinmaa
namespace Go.Proofs.Ytacedadenbinmaa
open Go.RowKit

theorem spanByList_any (a : Option Addr) (cap : Nat) (zs : List Int) (m : Nat) (w : World) (hl : zs.length ≤ 10) (hg : good zs) (hm : 1 ≤ m ∧ m ≤ 5) (hI : IntsAt w a zs) :
    Calls Try.prog 47 #[.slice a zs.length cap, .int .i64 m] w fun e w' => e = .returned (.int .i64 (gre (lstS zs (List.replicate m 0)))) ∧ Below w.heap.size w w' := by
  have hsl : (lstS zs (List.replicate m 0)).length = m := by rw [lstS_length, List.length_replicate]
  have hbd := lstS_in zs (List.replicate m 0) 0 hg (fun y hy => by have := List.eq_of_mem_replicate hy; omega) (by simp; omega)
  obtain ⟨ss, hss⟩ : ∃ ss, lstS zs (List.replicate m 0) = ss := ⟨_, rfl⟩
  have HB := Lib.hid (byList_any a cap zs m w hl hg hm hI)
  have HBD := Lib.hid hbd
  have HSS := Lib.hid hss
  rw [hss] at hsl hbd ⊢
  have HBD2 := Lib.hid hbd
  clear hbd hss
  go_enter Try.func47, Try.ntmps47
  go_wp2_with fail
  refine HB.out.mono ?_
  rintro e w1 ⟨v1, v2, rfl, hO, hB⟩
  rw [HSS.out] at hO
  obtain ⟨g, cp, rfl, _, _, _⟩ := hO.at (by omega)
  have HSL := Lib.hid hsl
  have HMx := Lib.hid (slicesMax_any (some ⟨g, 0, none⟩) cp ss w1 (by omega) (by omega) (fun x hx => (HBD2.out x hx).1) hO.ints)
  clear hO hsl
  go_wp2_with fail
  refine HMx.out.mono ?_
  rintro e w2 ⟨rfl, rfl⟩
  go_wp2_with fail
  go_ret
  exact ⟨rfl, hB⟩

/-- what LoadSpan answers -/
def spanL (zs : List Int) (m : Int) : Int := if toldL zs m = true then gre (lstS zs (List.replicate m.toNat 0)) else 0
theorem LoadSpan_any (a : Option Addr) (cap : Nat) (zs : List Int) (m : Int) (w : World) (hl : zs.length ≤ 2000000) (hI : IntsAt w a zs) :
    Calls Try.prog 25 #[.slice a zs.length cap, .int .i64 m] w fun e w' => e = .returned (.tuple #[.int .i64 (spanL zs m), .bool (toldL zs m)]) ∧ Below w.heap.size w w' := by
  obtain ⟨B, hB⟩ : ∃ B, spanL zs m = B := ⟨_, rfl⟩
  by_cases hz : toldL zs m = true
  case neg =>
    have hz' : toldL zs m = false := by simpa using hz
    have hB0 : B = 0 := by rw [← hB, spanL, if_neg hz]
    rw [hB, hB0, hz']
    have HZ := Lib.hid hz'
    clear hz hz' hB hB0
    go_enter Try.func25, Try.ntmps25
    go_wp2_with (go_at_call 39; refine (loadsTold_any a cap zs m _ (by omega) hI).mono ?_; rw [HZ.out]; rintro e w' ⟨rfl, rfl⟩)
    all_goals
      go_ret2
      exact ⟨rfl, Below.refl _ _⟩
  obtain ⟨⟨h10, hg⟩, hm1, hm5⟩ := (toldL_iff zs m).1 hz
  obtain ⟨M, rfl⟩ := Int.eq_ofNat_of_zero_le (show 0 ≤ m by omega)
  have HB : Hid (gre (lstS zs (List.replicate M 0)) = B) := by show _ = _; rw [← hB, spanL, if_pos hz]; simp
  rw [hB, hz]
  have HZ := Lib.hid hz
  have HSP := Lib.hid (spanByList_any a cap zs M w h10 hg (by omega) hI)
  clear hz hB
  go_enter Try.func25, Try.ntmps25
  go_wp2_with (first | (go_at_call 39; refine (loadsTold_any a cap zs M _ (by omega) hI).mono ?_; rw [HZ.out]; rintro e w' ⟨rfl, rfl⟩) | (go_at_call 47; refine HSP.out.mono ?_; rw [HB.out]; rintro e w' ⟨rfl, hB⟩))
  all_goals
    go_ret2
    exact ⟨rfl, hB⟩
end Go.Proofs.Ytacedadenbinmaa
namespace Go.Proofs.Ytacedadenbinmaa
open Go.RowKit

set_option maxHeartbeats 400000 in
theorem l5Most_any (a : Option Addr) (cap : Nat) (zs : List Int) (w : World) (hl : zs.length ≤ 1000000) (hI : IntsAt w a zs) :
    Calls Try.prog 49 #[.slice a zs.length cap] w fun e w' => e = .returned (.int .i64 (gre zs)) ∧ ∃ n, w' = w.drewN n := by
  go_enter Try.func49, Try.ntmps49
  go_wp2
  go_loopw [3, 4] (fun s i wr => ∃ k : Nat, k ≤ zs.length ∧ i = .int .i64 k ∧ s = .int .i64 (gre (zs.take k)) ∧ ∃ n, wr = w.drewN n) (fun _ i _ => zs.length - (intOf i).toNat)
  case atStart => exact ⟨0, Nat.zero_le _, rfl, rfl, 0, rfl⟩
  case round =>
    obtain ⟨k, hk, rfl, rfl, n, rfl⟩ := hrel
    by_cases hlt : k < zs.length
    · obtain ⟨b, off, rfl, hb, hcell⟩ := hI.at (by omega)
      have HS := Lib.hid (gre_take zs k hlt)
      have hx := hcell k hlt
      generalize zs[k]?.getD 0 = x at hx HS
      generalize gre (zs.take k) = s at HS
      clear hcell
      go_wp2
      all_goals
        go_round
        case rel => exact ⟨k + 1, by omega, by go_num, congrArg (Value.int .i64) (by rw [HS.out]; (try split) <;> omega), _, rfl⟩
        case measure => simp [intOf]; omega
    · go_wp2
      go_ret
      exact ⟨ret_int (by rw [List.take_of_length_le (by omega)]), _, rfl⟩
end Go.Proofs.Ytacedadenbinmaa
namespace Go.Proofs.Ytacedadenbinmaa
open Go.RowKit

theorem append1C (w : World) {ops : Array Oper} {rest : List Oper} {o : Oper} {a : Act} {Q : Exit → Act → World → Prop} (B : Nat) (hBs : w.heap.size = B) (hgd : o.guard = none) (s x : Operand)
    (ho : o.op = .call { callee := .builtin .append, args := #[s, x], argTypes := #[22, 22] }) (base : Nat) (v : Value) (zs : List Int) (z : Int)
    (hs : a.eval s = v) (hx : a.eval x = .slice (some ⟨B, 0, none⟩) 1 1) (hown : OwnI w base v zs) (hl : zs.length ≤ 1000000) (hbase : base ≤ w.heap.size)
    (h : ∀ v' w', OwnI w' base v' (zs ++ [z]) → w.grownBy w' v.ownBlock → (v'.ownBlock = v.ownBlock ∨ v'.ownBlock = some (w.heap.size + 1)) → wpList Try.prog ops Q rest (a.put o.dst v') w') :
    wpList Try.prog ops Q (o :: rest) a (w.alloc (.cells #[.int .i64 z] 3)) := by
  subst hBs
  exact append1At w hgd s x ho base v zs z hs hx hown hl hbase h

/-- what l5List hands back -/
def L5Post (zs : List Int) (m : Nat) (w : World) (e : Ending) (w' : World) : Prop :=
  ∃ v1 v2 ps, e = .returned (.tuple #[v1, v2]) ∧ OwnI w' w.heap.size v1 ps ∧ ps.length = zs.length ∧ OwnI w' w.heap.size v2 (lstS zs (List.replicate m 0)) ∧ Below w.heap.size w w'

set_option maxRecDepth 100000 in
set_option maxHeartbeats 6400000 in
theorem l5List_any (a : Option Addr) (cap : Nat) (zs : List Int) (m : Nat) (w : World) (hl : zs.length ≤ 10) (hg : good zs) (hm : 1 ≤ m ∧ m ≤ 5) (hI : IntsAt w a zs) :
    Calls Try.prog 48 #[.slice a zs.length cap, .int .i64 m] w (L5Post zs m w) := by
  go_enter Try.func48, Try.ntmps48
  go_wp2_with (at_make; refine makeI _ rfl _ _ rfl m _ rfl rfl rfl (by omega) ?_; intro w2 hO2 hG2)
  have hB0 : Below w.heap.size w (w.alloc (.cells #[] 3)) := (Below.refl _ _).alloc (Nat.le_refl _) _
  have hA0 : OwnI (w.alloc (.cells #[] 3)) w.heap.size (.slice (some ⟨w.heap.size, 0, none⟩) 0 0) [] := World.ownsRow_lit w #[] 0 (Nat.le_refl _) (by unfold maxLen; omega) (by simp)
  have hB : Below w.heap.size w w2 := ⟨hG2.os.trans hB0.os, hG2.tape.trans hB0.tape, hG2.output.trans hB0.output, Nat.le_trans hB0.size hG2.size, fun k hk => (hG2.block k (Nat.lt_of_lt_of_le hk hB0.size) (by simp)).trans (hB0.block k hk)⟩
  have hA : OwnI w2 w.heap.size (.slice (some ⟨w.heap.size, 0, none⟩) 0 0) [] := hA0.kept hG2 (.inr (by simp [Value.ownBlock]))
  have hS : OwnI w2 w.heap.size (.slice (some ⟨w.heap.size + 1, 0, none⟩) m m) (List.replicate m 0) := by
    have := hO2.mono (base' := w.heap.size) (by simp)
    rwa [World.size_alloc] at this
  obtain ⟨g1, hg1⟩ : ∃ g, w.heap.size = g := ⟨_, rfl⟩
  obtain ⟨g2, hg2⟩ : ∃ g, w.heap.size + 1 = g := ⟨_, rfl⟩
  have HG1 := Lib.hid hg1
  have hgg : g1 < g2 := by omega
  have hgw : g2 < w2.heap.size := by have h1 := hG2.size; have h2 := (hO2.lt _ rfl).2; simp only [World.size_alloc] at h1 h2; omega
  rw [hg2] at hS ⊢
  rw [hg1] at hA hB hS ⊢
  clear hO2 hG2 hg2 hB0 hA0
  go_loopw [6, 8] (fun v i wr => ∃ k : Nat, k ≤ zs.length ∧ i = .int .i64 k ∧ (∃ ps : List Int, ps.length = k ∧ OwnI wr g1 v ps ∧ v.ownBlock ≠ some g2) ∧ OwnI wr g1 (.slice (some ⟨g2, 0, none⟩) m m) (lstS (zs.take k) (List.replicate m 0)) ∧ Below g1 w wr ∧ g2 < wr.heap.size) (fun _ i _ => zs.length - (intOf i).toNat)
  case atStart => exact ⟨0, Nat.zero_le _, rfl, ⟨_, rfl, hA, by simp [Value.ownBlock]; omega⟩, hS, hB, hgw⟩
  case round =>
    obtain ⟨k, hk, rfl, ⟨ps, hps, hP, hpb⟩, hQ, hBr, hgr⟩ := hrel
    clear hA hS hB hgw
    have hsl : (lstS (zs.take k) (List.replicate m 0)).length = m := by rw [lstS_length, List.length_replicate]
    have hbd := lstS_in (zs.take k) (List.replicate m 0) 0 (fun u hu => hg u (List.mem_of_mem_take hu)) (fun y hy => by have := List.eq_of_mem_replicate hy; omega) (by simp; omega)
    rw [List.length_take] at hbd
    have HN : k < zs.length → Hid (lstS (zs.take (k + 1)) (List.replicate m 0) = stepL (lstS (zs.take k) (List.replicate m 0)) (zs[k]?.getD 0)) := fun h => by
      show _ = _
      rw [← lstS_snoc, take_snoc zs k h]
    have HE : ¬ k < zs.length → Hid (lstS zs (List.replicate m 0) = lstS (zs.take k) (List.replicate m 0)) := fun h => by
      show _ = _
      rw [List.take_of_length_le (by omega)]
    generalize hss : lstS (zs.take k) (List.replicate m 0) = ss at hQ hsl hbd HN HE
    clear hss
    by_cases hlt : k < zs.length
    · obtain ⟨b, off, rfl, hb, hcell⟩ := (hI.below (w' := wr) (by rw [hg1]; exact hBr)).at (by omega)
      have hb1 : b < g1 := by
        obtain ⟨b', off', e, hb', _⟩ := hI.at (by omega)
        cases e
        omega
      have hx := hcell k hlt
      have hgx := good_get hg k hlt
      have HN1 := HN hlt
      generalize zs[k]?.getD 0 = x at hx hgx HN1
      clear hcell HN HE
      go_wp2
      go_loopw [9, 10] (fun mc j wi => ∃ jj : Nat, 1 ≤ jj ∧ jj ≤ m ∧ j = .int .i64 jj ∧ mc = .int .i64 (aiU ss jj) ∧ ∃ n, wi = wr.drewN n) (fun _ j _ => m - (intOf j).toNat)
      case atStart => exact ⟨1, by omega, by omega, rfl, by simp [aiU], 0, rfl⟩
      case round =>
        obtain ⟨jj, hj1, hj, rfl, rfl, n, rfl⟩ := hrel
        by_cases hjm : jj < m
        · obtain ⟨g', cp, he, _, _, hcf⟩ := hQ.at (by omega)
          simp only [Value.slice.injEq, Option.some.injEq, Addr.mk.injEq, and_true, true_and] at he
          obtain ⟨rfl, he2⟩ := he
          clear he2
          have hai := aiU_lt ss (by omega) jj (by omega)
          have c1 := (hcf jj (by omega)).1
          have c2 := (hcf (aiU ss jj) hai).1
          have HA : Hid (aiU ss (jj + 1) = if ss[jj]?.getD 0 < ss[aiU ss jj]?.getD 0 then jj else aiU ss jj) := rfl
          generalize ss[jj]?.getD 0 = y1 at c1 HA
          generalize ss[aiU ss jj]?.getD 0 = y2 at c2 HA
          generalize aiU ss jj = q at *
          have hai2 : q < m := by omega
          clear hcf hx
          have HBD := Lib.hid hbd
          have HQ := Lib.hid hQ
          have HPP := Lib.hid hP
          have HSL := Lib.hid hsl
          have HII := Lib.hid hI
          have HGG := Lib.hid hg
          clear hbd hQ hP hsl hI hg hai hps
          go_wp2_with fail
          go_region
          go_wp2_with fail
          all_goals
            refine ⟨⟨jj + 1, by omega, by omega, by go_num, ?_, _, rfl⟩, by simp [intOf]; omega⟩
            rw [HA.out]
            (split <;> first | rfl | omega)
        · obtain rfl : m = jj := by omega
          obtain ⟨gq, cpq, heQ, _, _, hqf⟩ := hQ.at (by omega)
          simp only [Value.slice.injEq, Option.some.injEq, Addr.mk.injEq, and_true] at heQ
          obtain ⟨rfl, heQ2⟩ := heQ
          clear heQ2
          have hai := aiU_lt ss (by omega) m (by omega)
          obtain ⟨cs1, fs1⟩ := hqf (aiU ss m) hai
          have HST : Hid (stepL ss x = ss.set (aiU ss m) (ss[aiU ss m]?.getD 0 + x)) := by show _ = _; rw [stepL, putAt, hsl]
          have hyb := hbd (ss[aiU ss m]?.getD 0) (by rw [List.getElem?_eq_getElem hai]; exact List.getElem_mem hai)
          generalize ss[aiU ss m]?.getD 0 = y at cs1 HST hyb
          generalize aiU ss m = q at *
          have hai2 : q < m := by omega
          have hw1 : IntKind.i64.wrap (y + x) = y + x := IntWalk.i64_in _ (by omega)
          have HQ := Lib.hid hQ
          have HPP := Lib.hid hP
          have HSL := Lib.hid hsl
          have HPS := Lib.hid hps
          have HBr := Lib.hid hBr
          have hkl : k < zs.length := hlt
          clear hbd hQ hP hsl hI hg hai hps hqf hBr
          go_wp2_with fail
          go_region
          go_wp2_with (at_builtin; refine append1C _ wr.heap.size ?hbs rfl _ _ rfl g1 u6 ps q rfl rfl ?hown ?hlen ?hbase ?hk)
          case hbs => simp [World.setCell]
          case hown => exact (HPP.out.dr (n + 1)).kept (row := some g2) (gb_set (World.grownBy.refl _ (some g2)) (.inl rfl) _) (.inr hpb)
          case hlen => have := HPS.out; omega
          case hbase => simp [World.setCell]; omega
          case hk =>
            intro v' w' hO' hG' hat
            have hv' : v'.ownBlock ≠ some g2 := by
              rcases hat with h | h
              · rw [h]; exact hpb
              · rw [h]; simp [World.setCell]; omega
            have hQ' := ((HQ.out.dr (n + 1)).put HSL.out q (y + x)).kept hG' (.inr fun e => hpb e.symm)
            have hB' := ((belowDr HBr.out (n + 1)).setCell (p := ⟨g2, q, none⟩) (by show g1 ≤ g2; omega) (.int .i64 (y + x))).grown hG' (by simp [World.setCell]; omega) (fun j hj => (HPP.out.lt j hj).1)
            have hz' : g2 < w'.heap.size := by have := hG'.size; simp [World.setCell] at this; omega
            clear hG' hat
            go_wp2_with fail
            refine ⟨⟨k + 1, by omega, by go_num, ⟨ps ++ [(q : Int)], by simp [HPS.out], hO', hv'⟩, ?_, hB', hz'⟩, by simp [intOf]; omega⟩
            rw [HN1.out, HST.out]
            exact hQ'
    · go_wp2
      go_ret2
      refine ⟨_, _, ps, rfl, ?_, by omega, ?_, by rw [hg1]; exact hBr⟩
      · rw [hg1]; exact hP
      · rw [hg1, (HE hlt).out]
        exact hQ

theorem sLoadSpan_any (a : Option Addr) (cap : Nat) (zs : List Int) (m : Int) (w : World) (hl : zs.length ≤ 2000000) (hI : IntsAt w a zs) :
    Calls Try.prog 26 #[.slice a zs.length cap, .int .i64 m] w fun e w' => e = .returned (.tuple #[.int .i64 (spanL zs m), .bool (toldL zs m)]) ∧ Below w.heap.size w w' := by
  obtain ⟨B, hB⟩ : ∃ B, spanL zs m = B := ⟨_, rfl⟩
  by_cases hz : toldL zs m = true
  case neg =>
    have hz' : toldL zs m = false := by simpa using hz
    have hB0 : B = 0 := by rw [← hB, spanL, if_neg hz]
    rw [hB, hB0, hz']
    have HZ := Lib.hid hz'
    clear hz hz' hB hB0
    go_enter Try.func26, Try.ntmps26
    go_wp2_with (go_at_call 37; refine (l5Given_any a cap zs m _ (by omega) hI).mono ?_; rw [HZ.out]; rintro e w' ⟨rfl, rfl⟩)
    all_goals
      go_ret2
      exact ⟨rfl, Below.refl _ _⟩
  obtain ⟨⟨h10, hg⟩, hm1, hm5⟩ := (toldL_iff zs m).1 hz
  obtain ⟨M, rfl⟩ := Int.eq_ofNat_of_zero_le (show 0 ≤ m by omega)
  have HB : Hid (gre (lstS zs (List.replicate M 0)) = B) := by show _ = _; rw [← hB, spanL, if_pos hz]; simp
  rw [hB, hz]
  have HZ := Lib.hid hz
  have hsl : (lstS zs (List.replicate M 0)).length = M := by rw [lstS_length, List.length_replicate]
  have HSP := Lib.hid (l5List_any a cap zs M w h10 hg (by omega) hI)
  have HGV := Lib.hid (l5Given_any a cap zs M w (by omega) hI)
  have HSL := Lib.hid hsl
  clear hz hB hsl
  go_enter Try.func26, Try.ntmps26
  go_wp2_with fail
  go_at_call 37
  refine HGV.out.mono ?_
  rw [HZ.out]
  rintro e w' ⟨rfl, rfl⟩
  go_wp2_with fail
  refine HSP.out.mono ?_
  rintro e w1 ⟨v1, v2, ps, rfl, _, _, hO, hB⟩
  have hsl := HSL.out
  clear HSL
  generalize hss : lstS zs (List.replicate M 0) = ss at hO HB hsl
  obtain ⟨g, cp, rfl, _, _, _⟩ := hO.at (by omega)
  have HMx := Lib.hid (l5Most_any (some ⟨g, 0, none⟩) cp ss w1 (by omega) hO.ints)
  rw [HB.out] at HMx
  clear hO hsl hss
  go_wp2_with fail
  refine HMx.out.mono ?_
  rintro e w2 ⟨rfl, n, rfl⟩
  go_wp2_with fail
  go_ret2
  exact ⟨rfl, belowDr hB n⟩
end Go.Proofs.Ytacedadenbinmaa
namespace Go.Proofs.Ytacedadenbinmaa
open Go.RowKit

/-- the bound: the greatest load, or the total shared out -/
def bndL (zs : List Int) (m : Int) : Int := max (gre zs) ((tot zs + m - 1) / m)

set_option maxHeartbeats 800000 in
theorem LoadBound_any (a : Option Addr) (cap : Nat) (zs : List Int) (m : Int) (w : World) (hl : zs.length ≤ 2000000) (hI : IntsAt w a zs) :
    Calls Try.prog 27 #[.slice a zs.length cap, .int .i64 m] w fun e w' => e = .returned (.tuple #[.int .i64 (if toldL zs m = true then bndL zs m else 0), .bool (toldL zs m)]) ∧ w = w' := by
  by_cases hz : toldL zs m = true
  case neg =>
    have hz' : toldL zs m = false := by simpa using hz
    rw [hz']
    have HZ := Lib.hid hz'
    clear hz hz'
    go_enter Try.func27, Try.ntmps27
    go_wp2_with (go_at_call 39; refine (loadsTold_any a cap zs m _ (by omega) hI).mono ?_; rw [HZ.out]; rintro e w' ⟨rfl, rfl⟩)
    all_goals
      go_ret2
      exact ⟨rfl, rfl⟩
  obtain ⟨⟨h10, hg⟩, hm1, hm5⟩ := (toldL_iff zs m).1 hz
  rw [if_pos hz, hz]
  have HZ := Lib.hid hz
  clear hz
  have ht := tot_bd hg
  obtain ⟨q, hq⟩ : ∃ q, (tot zs + m - 1) / m = q := ⟨_, rfl⟩
  have hq0 : 0 ≤ q := by rw [← hq]; exact Int.ediv_nonneg (by omega) (by omega)
  obtain ⟨B, hB⟩ : ∃ B, bndL zs m = B := ⟨_, rfl⟩
  have HB : Hid (max (gre zs) q = B) := by rw [← hB, bndL, hq]; exact rfl
  rw [hB]
  have htd : (tot zs + m - 1).tdiv m = q := by rw [Int.tdiv_eq_ediv_of_nonneg (by omega)]; exact hq
  have hw1 : IntKind.i64.wrap (tot zs + m) = tot zs + m := IntWalk.i64_in _ (by omega)
  have hw2 : IntKind.i64.wrap (tot zs + m - 1) = tot zs + m - 1 := IntWalk.i64_in _ (by omega)
  have hm0 : (m == 0) = false := by simp; omega
  have hm0' : ¬ m = 0 := by omega
  have hw3 : IntKind.i64.wrap q = q := IntWalk.i64_in _ (by rw [← hq]; have := Int.ediv_le_self (a := tot zs + m - 1) m (by omega); have := hq0; omega)
  clear hB hq
  go_enter Try.func27, Try.ntmps27
  go_wp2_with (first | (go_at_call 39; refine (loadsTold_any a cap zs m _ (by omega) hI).mono ?_; rw [HZ.out]; rintro e w' ⟨rfl, rfl⟩) | (go_at_call 50; refine (totalOf_any a cap zs _ (by omega) hg hI).mono ?_; rintro e w' ⟨rfl, rfl⟩))
  go_loop [6, 22] (fun s i => ∃ k : Nat, k ≤ zs.length ∧ i = .int .i64 k ∧ s = .int .i64 (max (gre (zs.take k)) q)) (fun _ i => zs.length - (intOf i).toNat)
  case atStart => exact ⟨0, by omega, rfl, congrArg (Value.int .i64) (by simp [gre]; omega)⟩
  case round =>
    obtain ⟨k, hk, rfl, rfl⟩ := hrel
    by_cases hlt : k < zs.length
    · obtain ⟨b, off, rfl, hb, hcell⟩ := hI.at (by omega)
      have HS := Lib.hid (gre_take zs k hlt)
      have hx := hcell k hlt
      generalize zs[k]?.getD 0 = x at hx HS
      generalize gre (zs.take k) = s at HS
      clear hcell
      go_wp2
      all_goals
        go_round
        case rel => exact ⟨k + 1, by omega, by go_num, congrArg (Value.int .i64) (by rw [HS.out]; (try split) <;> omega)⟩
        case measure => simp [intOf]; omega
    · have e : zs.take k = zs := List.take_of_length_le (by omega)
      rw [e, HB.out]
      go_wp2
      go_ret2
      exact ⟨rfl, rfl⟩
end Go.Proofs.Ytacedadenbinmaa
