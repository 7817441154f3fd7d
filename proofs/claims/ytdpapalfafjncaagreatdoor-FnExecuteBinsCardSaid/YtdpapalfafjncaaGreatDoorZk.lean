/- append of one number, with the place of the new slice. Conditions: stated in each. The letters of the rules: what the program and the reference read off them; the draw of a list, a size and a letter. Conditions: stated in each. Ahead of it: The choice of a bin: the linked bins are read one behind the other. Conditions: stated in each. -/
import Derived.Maps.AppendAt
import Derived.Test.YtdpapalfafjncaaGreatDoorZa
import Derived.Deep.LoopGhost
import Derived.Test.YtdpapalfafjncaaGreatDoorZj
import Derived.Test.YtdpapalfafjncaaGreatDoorZd
import Derived.BigQuiet
import Derived.Test.YtdpapalfafjncaaGreatDoorZf
set_option linter.unusedVariables false
set_option linter.unusedSimpArgs false
set_option linter.unusedSectionVars false
namespace Go.Proofs.YtdpapalfafjncaaGreatDoor
open Go.RowKit
/-- append of one number: the new slice lies where the old one lay, or in a new block -/
theorem append1At (w : World) {ops : Array Oper} {rest : List Oper} {o : Oper} {a : Act} {Q : Exit → Act → World → Prop} (hgd : o.guard = none) (s x : Operand)
    (ho : o.op = .call { callee := .builtin .append, args := #[s, x], argTypes := #[23, 23] }) (base : Nat) (v : Value) (zs : List Int) (z : Int)
    (hs : a.eval s = v) (hx : a.eval x = .slice (some ⟨w.heap.size, 0, none⟩) 1 1) (hown : OwnI w base v zs) (hl : zs.length ≤ 1000000) (hbase : base ≤ w.heap.size)
    (h : ∀ v' w', OwnI w' base v' (zs ++ [z]) → w.grownBy w' v.ownBlock → (v'.ownBlock = v.ownBlock ∨ v'.ownBlock = some (w.heap.size + 1)) → wpList Tryz.prog ops Q rest (a.put o.dst v') w') :
    wpList Tryz.prog ops Q (o :: rest) a (w.alloc (.cells #[.int .i64 z] 3)) := by
  obtain ⟨i0, hi, hz0, hz1, hz2⟩ := info_parts Tryz.infoInt
  have hown' := World.ownsRow.alloc hown (.cells #[.int .i64 z] 3)
  refine wpList_append_own_at _ hgd s x 23 ho base 3 i0 (.int .i64 0) 1 8 Tryz.underlying23 hi hz0 hz1 hz2 rfl (by decide) v zs.length _ hs hown' ⟨w.heap.size, 0, none⟩ 1 1 [.int .i64 z] hx rfl (cell_one_new _ _ _) (by simp [Value.oneCell']) (by unfold maxLen; omega) (by omega) (by simp; omega) ?_
  intro v' w' h1 h2 _ h4
  refine h v' w' ?_ ((World.grownBy_alloc w _ _).trans' h2) (by simpa using h4)
  unfold OwnI
  simpa using h1
end Go.Proofs.YtdpapalfafjncaaGreatDoor
namespace Go.Proofs.YtdpapalfafjncaaGreatDoor
set_option maxRecDepth 100000
open Go.RowKit

/-- the address of bin i, nil behind the last one -/
def ptrAt (bl : List Nat) (i : Nat) : Value := match bl[i]? with
  | some b => .pointer (some ⟨b, 0, none⟩)
  | none => .pointer none
def chV (bl : List Nat) (c : Option Nat) : Value := match c with
  | none => .pointer none
  | some k => ptrAt bl k
theorem ptrAt_lt {bl : List Nat} {i : Nat} (h : i < bl.length) : ptrAt bl i = .pointer (some ⟨bl[i], 0, none⟩) := by
  unfold ptrAt; rw [List.getElem?_eq_getElem h]
theorem ptrAt_ge {bl : List Nat} {i : Nat} (h : bl.length ≤ i) : ptrAt bl i = .pointer none := by
  unfold ptrAt; rw [List.getElem?_eq_none h]
theorem chV_none (bl : List Nat) : chV bl none = .pointer none := rfl
theorem chV_some (bl : List Nat) (k : Nat) : chV bl (some k) = ptrAt bl k := rfl
/-- linked bins: their rooms, and where the next one lies -/
def Chain (w : World) (bl : List Nat) (rs : List Int) : Prop :=
  bl.length = rs.length ∧ ∀ i (h : i < bl.length), w.cell? ⟨bl[i], 1, none⟩ = some (.int .i64 (rs[i]?.getD 0)) ∧ w.cell? ⟨bl[i], 2, none⟩ = some (ptrAt bl (i + 1))
/-- what the choice answers -/
def ChoosePost (w : World) (bl : List Nat) (c : Option Nat) (e : Ending) (w' : World) : Prop := e = .returned (chV bl c) ∧ ∃ n, w' = w.drewN n
theorem ta00 (w : World) : (Instr.typeAssert (.iface 175 (.agg #[])) 152 175 true).run Tryz.prog w = .ok (.tuple #[.agg #[], .bool true]) w := by kernel_rfl
theorem ta10 (w : World) : (Instr.typeAssert (.iface 176 (.agg #[])) 152 175 true).run Tryz.prog w = .ok (.tuple #[.agg #[], .bool false]) w := by kernel_rfl
theorem ta11 (w : World) : (Instr.typeAssert (.iface 176 (.agg #[])) 152 176 true).run Tryz.prog w = .ok (.tuple #[.agg #[], .bool true]) w := by kernel_rfl
theorem ta20 (w : World) : (Instr.typeAssert (.iface 177 (.agg #[])) 152 175 true).run Tryz.prog w = .ok (.tuple #[.agg #[], .bool false]) w := by kernel_rfl
theorem ta21 (w : World) : (Instr.typeAssert (.iface 177 (.agg #[])) 152 176 true).run Tryz.prog w = .ok (.tuple #[.agg #[], .bool false]) w := by kernel_rfl
theorem ta22 (w : World) : (Instr.typeAssert (.iface 177 (.agg #[])) 152 177 true).run Tryz.prog w = .ok (.tuple #[.agg #[], .bool true]) w := by kernel_rfl
theorem ta30 (w : World) : (Instr.typeAssert (.iface 178 (.agg #[])) 152 175 true).run Tryz.prog w = .ok (.tuple #[.agg #[], .bool false]) w := by kernel_rfl
theorem ta31 (w : World) : (Instr.typeAssert (.iface 178 (.agg #[])) 152 176 true).run Tryz.prog w = .ok (.tuple #[.agg #[], .bool false]) w := by kernel_rfl
theorem ta32 (w : World) : (Instr.typeAssert (.iface 178 (.agg #[])) 152 177 true).run Tryz.prog w = .ok (.tuple #[.agg #[], .bool false]) w := by kernel_rfl
theorem ta33 (w : World) : (Instr.typeAssert (.iface 178 (.agg #[])) 152 178 true).run Tryz.prog w = .ok (.tuple #[.agg #[], .bool true]) w := by kernel_rfl
attribute [local go_sem] ta00 ta10 ta11 ta20 ta21 ta22 ta30 ta31 ta32 ta33
theorem chs_next {r : Nat} {f : Nat → Int} {v : Int} {k : Nat} {c : Option Nat} (h : chs r f v k = c) : chs r f v (k + 1) = chStep r f v k c := by rw [chs, h]

set_option maxHeartbeats 3200000 in
theorem choose0 (bl : List Nat) (rs : List Int) (x : Int) (w : World) (hr : ∀ i : Nat, 0 ≤ rs[i]?.getD 0 ∧ rs[i]?.getD 0 ≤ 100) (hx : 1 ≤ x ∧ x ≤ 100) (hC : Chain w bl rs) :
    Calls Tryz.prog 167 #[.iface 175 (.agg #[]), ptrAt bl 0, .int .i64 x] w (ChoosePost w bl (chs 0 (fun i : Nat => rs[i]?.getD 0) x bl.length)) := by
  obtain ⟨p0, hp0⟩ : ∃ p0, ptrAt bl 0 = p0 := ⟨_, rfl⟩
  have HP0 := Lib.hid hp0
  rw [hp0]
  clear hp0
  have HC := Lib.hid hC
  have HR := Lib.hid hr
  clear hC hr
  go_enter Tryz.func167, Tryz.ntmps167
  go_wp2
  go_loopg [7, 8] bl.length (fun gk ch b wr => ∃ (i n : Nat), i + gk = bl.length ∧ Hid (b = ptrAt bl i) ∧ Hid (ch = chV bl (chs 0 (fun i : Nat => rs[i]?.getD 0) x i)) ∧ wr = w.drewN n)
  case atStart => exact ⟨0, 0, by omega, HP0.out.symm, rfl, rfl⟩
  case round =>
    obtain ⟨i, n, hi, HB, HCH, rfl⟩ := hrel
    have hbv := HB.out
    have hcv := HCH.out
    clear HB HCH
    by_cases hlt : i < bl.length
    · rw [ptrAt_lt hlt] at hbv
      subst hbv
      obtain ⟨g, rfl⟩ : ∃ g, gk = g + 1 := ⟨gk - 1, by omega⟩
      have hi2 : i + 1 + g = bl.length := by omega
      have HI := Lib.hid hi2
      obtain ⟨hc1, hc2⟩ := HC.out.2 i hlt
      have hrb := HR.out i
      obtain ⟨c, hc⟩ : ∃ c, chs 0 (fun i : Nat => rs[i]?.getD 0) x i = c := ⟨_, rfl⟩
      have HN := Lib.hid (chs_next hc)
      rw [hc] at hcv
      have HCC := Lib.hid hc
      clear hc
      generalize hv : rs[i]?.getD 0 = y at hc1 hrb
      have HV := Lib.hid hv
      generalize hpn : ptrAt bl (i + 1) = pn at hc2
      have HPN := Lib.hid hpn.symm
      generalize hba : bl[i] = b at hc1 hc2
      have HBA := Lib.hid hba
      clear hba
      clear hv hpn hi hi2
      have HCV := Lib.hid hcv
      clear hcv
      by_cases hf : x ≤ y
      · have HM : Hid (Value.pointer (some ⟨b, 0, none⟩) = chV bl (chs 0 (fun i : Nat => rs[i]?.getD 0) x (i + 1))) := by
          show _ = _
          rw [HN.out]
          unfold chStep
          rw [if_pos rfl, if_pos (by show x ≤ rs[i]?.getD 0; rw [HV.out]; exact hf), chV_some, ptrAt_lt hlt, HBA.out]
        go_wp2
        go_roundg g
        case rel => exact ⟨i + 1, n, HI.out, HPN.out, HM, rfl⟩
        case measure => omega
      · have HM : Hid (Value.pointer none = chV bl (chs 0 (fun i : Nat => rs[i]?.getD 0) x (i + 1))) := by
          show _ = _
          rw [HN.out]
          unfold chStep
          rw [if_pos rfl, if_neg (by show ¬ x ≤ rs[i]?.getD 0; rw [HV.out]; exact hf), chV_none]
        go_wp2
        go_roundg g
        case rel => exact ⟨i + 1, n, HI.out, HPN.out, HM, rfl⟩
        case measure => omega
    · have HE : Hid (chs 0 (fun i : Nat => rs[i]?.getD 0) x i = chs 0 (fun i : Nat => rs[i]?.getD 0) x bl.length) := by
        have : i = bl.length := by omega
        subst this; rfl
      rw [ptrAt_ge (by omega)] at hbv
      subst hbv
      have HCV := Lib.hid hcv
      clear hcv
      go_wp2
      go_ret
      exact ⟨by rw [HCV.out, HE.out]; rfl, n, rfl⟩

set_option maxHeartbeats 3200000 in
theorem choose1 (bl : List Nat) (rs : List Int) (x : Int) (w : World) (hr : ∀ i : Nat, 0 ≤ rs[i]?.getD 0 ∧ rs[i]?.getD 0 ≤ 100) (hx : 1 ≤ x ∧ x ≤ 100) (hC : Chain w bl rs) :
    Calls Tryz.prog 167 #[.iface 176 (.agg #[]), ptrAt bl 0, .int .i64 x] w (ChoosePost w bl (chs 1 (fun i : Nat => rs[i]?.getD 0) x bl.length)) := by
  obtain ⟨p0, hp0⟩ : ∃ p0, ptrAt bl 0 = p0 := ⟨_, rfl⟩
  have HP0 := Lib.hid hp0
  rw [hp0]
  clear hp0
  have HC := Lib.hid hC
  have HR := Lib.hid hr
  clear hC hr
  go_enter Tryz.func167, Tryz.ntmps167
  go_wp2
  go_loopg [7, 8] bl.length (fun gk ch b wr => ∃ (i n : Nat), i + gk = bl.length ∧ Hid (b = ptrAt bl i) ∧ Hid (ch = chV bl (chs 1 (fun i : Nat => rs[i]?.getD 0) x i)) ∧ wr = w.drewN n)
  case atStart => exact ⟨0, 0, by omega, HP0.out.symm, rfl, rfl⟩
  case round =>
    obtain ⟨i, n, hi, HB, HCH, rfl⟩ := hrel
    have hbv := HB.out
    have hcv := HCH.out
    clear HB HCH
    by_cases hlt : i < bl.length
    · rw [ptrAt_lt hlt] at hbv
      subst hbv
      obtain ⟨g, rfl⟩ : ∃ g, gk = g + 1 := ⟨gk - 1, by omega⟩
      have hi2 : i + 1 + g = bl.length := by omega
      have HI := Lib.hid hi2
      obtain ⟨hc1, hc2⟩ := HC.out.2 i hlt
      have hrb := HR.out i
      obtain ⟨c, hc⟩ : ∃ c, chs 1 (fun i : Nat => rs[i]?.getD 0) x i = c := ⟨_, rfl⟩
      have HN := Lib.hid (chs_next hc)
      rw [hc] at hcv
      have HCC := Lib.hid hc
      clear hc
      generalize hv : rs[i]?.getD 0 = y at hc1 hrb
      have HV := Lib.hid hv
      generalize hpn : ptrAt bl (i + 1) = pn at hc2
      have HPN := Lib.hid hpn.symm
      generalize hba : bl[i] = b at hc1 hc2
      have HBA := Lib.hid hba
      clear hba
      clear hv hpn hi hi2
      by_cases hf : x ≤ y
      case neg =>
        have HM : Hid (u7 = chV bl (chs 1 (fun i : Nat => rs[i]?.getD 0) x (i + 1))) := by
          show _ = _
          rw [HN.out]
          unfold chStep
          rw [if_neg (by decide), if_neg (by show ¬ x ≤ rs[i]?.getD 0; rw [HV.out]; exact hf)]; exact hcv
        clear hcv
        go_wp2
        go_roundg g
        case rel => exact ⟨i + 1, n, HI.out, HPN.out, HM, rfl⟩
        case measure => omega
      cases c with
      | none =>
        rw [chV_none] at hcv
        subst hcv
        have HM : Hid (Value.pointer (some ⟨b, 0, none⟩) = chV bl (chs 1 (fun i : Nat => rs[i]?.getD 0) x (i + 1))) := by
          show _ = _
          rw [HN.out]
          unfold chStep
          rw [if_neg (by decide), if_pos (by show x ≤ rs[i]?.getD 0; rw [HV.out]; exact hf)]
          show _ = ptrAt bl i
          rw [ptrAt_lt hlt, HBA.out]
        go_wp2
        go_roundg g
        case rel => exact ⟨i + 1, n, HI.out, HPN.out, HM, rfl⟩
        case measure => omega
      | some j =>
        have hj := (chs_some HCC.out).1
        rw [chV_some, ptrAt_lt (by omega)] at hcv
        subst hcv
        have HM : Hid (Value.pointer (some ⟨bl[j], 0, none⟩) = chV bl (chs 1 (fun i : Nat => rs[i]?.getD 0) x (i + 1))) := by
          show _ = _
          rw [HN.out]
          unfold chStep
          rw [if_neg (by decide), if_pos (by show x ≤ rs[i]?.getD 0; rw [HV.out]; exact hf)]
          show _ = chV bl (if _ then _ else _)
          rw [if_neg (by omega), chV_some, ptrAt_lt (by omega)]
        generalize bl[j] = bj at HM
        go_wp2
        go_roundg g
        case rel => exact ⟨i + 1, n, HI.out, HPN.out, HM, rfl⟩
        case measure => omega
    · have HE : Hid (chs 1 (fun i : Nat => rs[i]?.getD 0) x i = chs 1 (fun i : Nat => rs[i]?.getD 0) x bl.length) := by
        have : i = bl.length := by omega
        subst this; rfl
      rw [ptrAt_ge (by omega)] at hbv
      subst hbv
      have HCV := Lib.hid hcv
      clear hcv
      go_wp2
      go_ret
      exact ⟨by rw [HCV.out, HE.out]; rfl, n, rfl⟩

set_option maxHeartbeats 3200000 in
theorem choose2 (bl : List Nat) (rs : List Int) (x : Int) (w : World) (hr : ∀ i : Nat, 0 ≤ rs[i]?.getD 0 ∧ rs[i]?.getD 0 ≤ 100) (hx : 1 ≤ x ∧ x ≤ 100) (hC : Chain w bl rs) :
    Calls Tryz.prog 167 #[.iface 177 (.agg #[]), ptrAt bl 0, .int .i64 x] w (ChoosePost w bl (chs 2 (fun i : Nat => rs[i]?.getD 0) x bl.length)) := by
  obtain ⟨p0, hp0⟩ : ∃ p0, ptrAt bl 0 = p0 := ⟨_, rfl⟩
  have HP0 := Lib.hid hp0
  rw [hp0]
  clear hp0
  have HC := Lib.hid hC
  have HR := Lib.hid hr
  clear hC hr
  go_enter Tryz.func167, Tryz.ntmps167
  go_wp2
  go_loopg [7, 8] bl.length (fun gk ch b wr => ∃ (i n : Nat), i + gk = bl.length ∧ Hid (b = ptrAt bl i) ∧ Hid (ch = chV bl (chs 2 (fun i : Nat => rs[i]?.getD 0) x i)) ∧ wr = w.drewN n)
  case atStart => exact ⟨0, 0, by omega, HP0.out.symm, rfl, rfl⟩
  case round =>
    obtain ⟨i, n, hi, HB, HCH, rfl⟩ := hrel
    have hbv := HB.out
    have hcv := HCH.out
    clear HB HCH
    by_cases hlt : i < bl.length
    · rw [ptrAt_lt hlt] at hbv
      subst hbv
      obtain ⟨g, rfl⟩ : ∃ g, gk = g + 1 := ⟨gk - 1, by omega⟩
      have hi2 : i + 1 + g = bl.length := by omega
      have HI := Lib.hid hi2
      obtain ⟨hc1, hc2⟩ := HC.out.2 i hlt
      have hrb := HR.out i
      obtain ⟨c, hc⟩ : ∃ c, chs 2 (fun i : Nat => rs[i]?.getD 0) x i = c := ⟨_, rfl⟩
      have HN := Lib.hid (chs_next hc)
      rw [hc] at hcv
      have HCC := Lib.hid hc
      clear hc
      generalize hv : rs[i]?.getD 0 = y at hc1 hrb
      have HV := Lib.hid hv
      generalize hpn : ptrAt bl (i + 1) = pn at hc2
      have HPN := Lib.hid hpn.symm
      generalize hba : bl[i] = b at hc1 hc2
      have HBA := Lib.hid hba
      clear hba
      clear hv hpn hi hi2
      by_cases hf : x ≤ y
      case neg =>
        have HM : Hid (u7 = chV bl (chs 2 (fun i : Nat => rs[i]?.getD 0) x (i + 1))) := by
          show _ = _
          rw [HN.out]
          unfold chStep
          rw [if_neg (by decide), if_neg (by show ¬ x ≤ rs[i]?.getD 0; rw [HV.out]; exact hf)]; exact hcv
        have hd : decide (x ≤ y) = false := decide_eq_false hf
        clear hcv
        go_wp2_with fail
        go_quiet (fail)
        go_wp2
        go_roundg g
        case rel => exact ⟨i + 1, n + nq, HI.out, HPN.out, HM, by simp⟩
        case measure => omega
      have hd : decide (x ≤ y) = true := decide_eq_true hf
      cases c with
      | none =>
        rw [chV_none] at hcv
        subst hcv
        have HM : Hid (Value.pointer (some ⟨b, 0, none⟩) = chV bl (chs 2 (fun i : Nat => rs[i]?.getD 0) x (i + 1))) := by
          show _ = _
          rw [HN.out]
          unfold chStep
          rw [if_neg (by decide), if_pos (by show x ≤ rs[i]?.getD 0; rw [HV.out]; exact hf)]
          show _ = ptrAt bl i
          rw [ptrAt_lt hlt, HBA.out]
        go_wp2_with fail
        go_quiet (fail)
        go_wp2
        go_roundg g
        case rel => exact ⟨i + 1, n + nq, HI.out, HPN.out, HM, by simp⟩
        case measure => omega
      | some j =>
        have hj := (chs_some HCC.out).1
        rw [chV_some, ptrAt_lt (by omega)] at hcv
        subst hcv
        have hcj := (HC.out.2 j (by omega)).1
        have hrj := HR.out j
        generalize hvj : rs[j]?.getD 0 = yj at hcj hrj
        have HVJ := Lib.hid hvj
        clear hvj
        by_cases hly : y < yj
        · have HM : Hid (Value.pointer (some ⟨b, 0, none⟩) = chV bl (chs 2 (fun i : Nat => rs[i]?.getD 0) x (i + 1))) := by
            show _ = _
            rw [HN.out]
            unfold chStep
            rw [if_neg (by decide), if_pos (by show x ≤ rs[i]?.getD 0; rw [HV.out]; exact hf)]
            show _ = chV bl (if _ then _ else _)
            rw [if_pos (.inl ⟨rfl, by show rs[i]?.getD 0 < rs[j]?.getD 0; rw [HV.out, HVJ.out]; exact hly⟩), chV_some, ptrAt_lt hlt, HBA.out]
          have hd2 : decide (y < yj) = true := decide_eq_true hly
          generalize bl[j] = bj at hcj
          go_wp2_with fail
          go_quiet (fail)
          go_wp2
          go_roundg g
          case rel => exact ⟨i + 1, n + nq, HI.out, HPN.out, HM, by simp⟩
          case measure => omega
        · have HM : Hid (Value.pointer (some ⟨bl[j], 0, none⟩) = chV bl (chs 2 (fun i : Nat => rs[i]?.getD 0) x (i + 1))) := by
            show _ = _
            rw [HN.out]
            unfold chStep
            rw [if_neg (by decide), if_pos (by show x ≤ rs[i]?.getD 0; rw [HV.out]; exact hf)]
            show _ = chV bl (if _ then _ else _)
            rw [if_neg (by
              rintro (⟨h1, h2⟩ | ⟨h1, h2⟩)
              · change rs[i]?.getD 0 < rs[j]?.getD 0 at h2; rw [HV.out, HVJ.out] at h2; exact hly h2
              · omega), chV_some, ptrAt_lt (by omega)]
          have hd2 : decide (y < yj) = false := decide_eq_false hly
          generalize bl[j] = bj at hcj HM
          go_wp2_with fail
          go_quiet (fail)
          go_wp2
          go_roundg g
          case rel => exact ⟨i + 1, n + nq, HI.out, HPN.out, HM, by simp⟩
          case measure => omega
    · have HE : Hid (chs 2 (fun i : Nat => rs[i]?.getD 0) x i = chs 2 (fun i : Nat => rs[i]?.getD 0) x bl.length) := by
        have : i = bl.length := by omega
        subst this; rfl
      rw [ptrAt_ge (by omega)] at hbv
      subst hbv
      have HCV := Lib.hid hcv
      clear hcv
      go_wp2
      go_ret
      exact ⟨by rw [HCV.out, HE.out]; rfl, n, rfl⟩

set_option maxHeartbeats 3200000 in
theorem choose3 (bl : List Nat) (rs : List Int) (x : Int) (w : World) (hr : ∀ i : Nat, 0 ≤ rs[i]?.getD 0 ∧ rs[i]?.getD 0 ≤ 100) (hx : 1 ≤ x ∧ x ≤ 100) (hC : Chain w bl rs) :
    Calls Tryz.prog 167 #[.iface 178 (.agg #[]), ptrAt bl 0, .int .i64 x] w (ChoosePost w bl (chs 3 (fun i : Nat => rs[i]?.getD 0) x bl.length)) := by
  obtain ⟨p0, hp0⟩ : ∃ p0, ptrAt bl 0 = p0 := ⟨_, rfl⟩
  have HP0 := Lib.hid hp0
  rw [hp0]
  clear hp0
  have HC := Lib.hid hC
  have HR := Lib.hid hr
  clear hC hr
  go_enter Tryz.func167, Tryz.ntmps167
  go_wp2
  go_loopg [7, 8] bl.length (fun gk ch b wr => ∃ (i n : Nat), i + gk = bl.length ∧ Hid (b = ptrAt bl i) ∧ Hid (ch = chV bl (chs 3 (fun i : Nat => rs[i]?.getD 0) x i)) ∧ wr = w.drewN n)
  case atStart => exact ⟨0, 0, by omega, HP0.out.symm, rfl, rfl⟩
  case round =>
    obtain ⟨i, n, hi, HB, HCH, rfl⟩ := hrel
    have hbv := HB.out
    have hcv := HCH.out
    clear HB HCH
    by_cases hlt : i < bl.length
    · rw [ptrAt_lt hlt] at hbv
      subst hbv
      obtain ⟨g, rfl⟩ : ∃ g, gk = g + 1 := ⟨gk - 1, by omega⟩
      have hi2 : i + 1 + g = bl.length := by omega
      have HI := Lib.hid hi2
      obtain ⟨hc1, hc2⟩ := HC.out.2 i hlt
      have hrb := HR.out i
      obtain ⟨c, hc⟩ : ∃ c, chs 3 (fun i : Nat => rs[i]?.getD 0) x i = c := ⟨_, rfl⟩
      have HN := Lib.hid (chs_next hc)
      rw [hc] at hcv
      have HCC := Lib.hid hc
      clear hc
      generalize hv : rs[i]?.getD 0 = y at hc1 hrb
      have HV := Lib.hid hv
      generalize hpn : ptrAt bl (i + 1) = pn at hc2
      have HPN := Lib.hid hpn.symm
      generalize hba : bl[i] = b at hc1 hc2
      have HBA := Lib.hid hba
      clear hba
      clear hv hpn hi hi2
      by_cases hf : x ≤ y
      case neg =>
        have HM : Hid (u7 = chV bl (chs 3 (fun i : Nat => rs[i]?.getD 0) x (i + 1))) := by
          show _ = _
          rw [HN.out]
          unfold chStep
          rw [if_neg (by decide), if_neg (by show ¬ x ≤ rs[i]?.getD 0; rw [HV.out]; exact hf)]; exact hcv
        have hd : decide (x ≤ y) = false := decide_eq_false hf
        clear hcv
        go_wp2_with fail
        go_quiet (fail)
        go_wp2
        go_roundg g
        case rel => exact ⟨i + 1, n + nq, HI.out, HPN.out, HM, by simp⟩
        case measure => omega
      have hd : decide (x ≤ y) = true := decide_eq_true hf
      cases c with
      | none =>
        rw [chV_none] at hcv
        subst hcv
        have HM : Hid (Value.pointer (some ⟨b, 0, none⟩) = chV bl (chs 3 (fun i : Nat => rs[i]?.getD 0) x (i + 1))) := by
          show _ = _
          rw [HN.out]
          unfold chStep
          rw [if_neg (by decide), if_pos (by show x ≤ rs[i]?.getD 0; rw [HV.out]; exact hf)]
          show _ = ptrAt bl i
          rw [ptrAt_lt hlt, HBA.out]
        go_wp2_with fail
        go_quiet (fail)
        go_wp2
        go_roundg g
        case rel => exact ⟨i + 1, n + nq, HI.out, HPN.out, HM, by simp⟩
        case measure => omega
      | some j =>
        have hj := (chs_some HCC.out).1
        rw [chV_some, ptrAt_lt (by omega)] at hcv
        subst hcv
        have hcj := (HC.out.2 j (by omega)).1
        have hrj := HR.out j
        generalize hvj : rs[j]?.getD 0 = yj at hcj hrj
        have HVJ := Lib.hid hvj
        clear hvj
        by_cases hly : yj < y
        · have HM : Hid (Value.pointer (some ⟨b, 0, none⟩) = chV bl (chs 3 (fun i : Nat => rs[i]?.getD 0) x (i + 1))) := by
            show _ = _
            rw [HN.out]
            unfold chStep
            rw [if_neg (by decide), if_pos (by show x ≤ rs[i]?.getD 0; rw [HV.out]; exact hf)]
            show _ = chV bl (if _ then _ else _)
            rw [if_pos (.inr ⟨rfl, by show rs[j]?.getD 0 < rs[i]?.getD 0; rw [HV.out, HVJ.out]; exact hly⟩), chV_some, ptrAt_lt hlt, HBA.out]
          have hd2 : decide (yj < y) = true := decide_eq_true hly
          generalize bl[j] = bj at hcj
          go_wp2_with fail
          go_quiet (fail)
          go_wp2
          go_roundg g
          case rel => exact ⟨i + 1, n + nq, HI.out, HPN.out, HM, by simp⟩
          case measure => omega
        · have HM : Hid (Value.pointer (some ⟨bl[j], 0, none⟩) = chV bl (chs 3 (fun i : Nat => rs[i]?.getD 0) x (i + 1))) := by
            show _ = _
            rw [HN.out]
            unfold chStep
            rw [if_neg (by decide), if_pos (by show x ≤ rs[i]?.getD 0; rw [HV.out]; exact hf)]
            show _ = chV bl (if _ then _ else _)
            rw [if_neg (by
              rintro (⟨h1, h2⟩ | ⟨h1, h2⟩)
              · omega
              · change rs[j]?.getD 0 < rs[i]?.getD 0 at h2; rw [HV.out, HVJ.out] at h2; exact hly h2), chV_some, ptrAt_lt (by omega)]
          have hd2 : decide (yj < y) = false := decide_eq_false hly
          generalize bl[j] = bj at hcj HM
          go_wp2_with fail
          go_quiet (fail)
          go_wp2
          go_roundg g
          case rel => exact ⟨i + 1, n + nq, HI.out, HPN.out, HM, by simp⟩
          case measure => omega
    · have HE : Hid (chs 3 (fun i : Nat => rs[i]?.getD 0) x i = chs 3 (fun i : Nat => rs[i]?.getD 0) x bl.length) := by
        have : i = bl.length := by omega
        subst this; rfl
      rw [ptrAt_ge (by omega)] at hbv
      subst hbv
      have HCV := Lib.hid hcv
      clear hcv
      go_wp2
      go_ret
      exact ⟨by rw [HCV.out, HE.out]; rfl, n, rfl⟩
end Go.Proofs.YtdpapalfafjncaaGreatDoor
namespace Go.Proofs.YtdpapalfafjncaaGreatDoor
open Go.RowKit

def ruleV : Nat → Value
  | 0 => .iface 175 (.agg #[])
  | 1 => .iface 176 (.agg #[])
  | 2 => .iface 177 (.agg #[])
  | _ => .iface 178 (.agg #[])
def codeN : Nat → Int
  | 0 => 110
  | 1 => 102
  | 2 => 98
  | _ => 119
/-- a letter's rule and whether it is a capital one, or none -/
def ruleO (o : Option (Nat × Bool)) : Value := match o with
  | some (r, _) => ruleV r
  | none => .nilIface
def capO (o : Option (Nat × Bool)) : Bool := match o with
  | some (_, c) => c
  | none => false
def codeO (o : Option (Nat × Bool)) : Int := match o with
  | some (r, c) => if c = true then codeN r - 32 else codeN r
  | none => 0
def RulePost (w : World) (o : Option (Nat × Bool)) (e : Ending) (w' : World) : Prop := e = .returned (.tuple #[ruleO o, .bool (capO o), .bool o.isSome]) ∧ Below w.heap.size w w'
def RefPost (w : World) (o : Option (Nat × Bool)) (e : Ending) (w' : World) : Prop := e = .returned (.int .u8 (codeO o)) ∧ ∃ n, w' = w.drewN n
theorem mL0 (w : World) : (Go.method 328 175 (.agg #[]) "loop.example/chosensums/impl.letter").run Tryz.prog w = .ok (241, .agg #[]) w := by kernel_rfl
theorem mL1 (w : World) : (Go.method 328 176 (.agg #[]) "loop.example/chosensums/impl.letter").run Tryz.prog w = .ok (242, .agg #[]) w := by kernel_rfl
theorem mL2 (w : World) : (Go.method 328 177 (.agg #[]) "loop.example/chosensums/impl.letter").run Tryz.prog w = .ok (243, .agg #[]) w := by kernel_rfl
theorem mL3 (w : World) : (Go.method 328 178 (.agg #[]) "loop.example/chosensums/impl.letter").run Tryz.prog w = .ok (244, .agg #[]) w := by kernel_rfl
attribute [local go_sem] mL0 mL1 mL2 mL3
theorem letter0 (w : World) : Calls Tryz.prog 241 #[.agg #[]] w fun e w' => e = .returned (.int .u8 110) ∧ w' = w.alloc (.cells #[] 175) := by
  go_enter Tryz.func241, Tryz.ntmps241
  go_wp2
  go_ret
  exact ⟨rfl, rfl⟩
theorem letter1 (w : World) : Calls Tryz.prog 242 #[.agg #[]] w fun e w' => e = .returned (.int .u8 102) ∧ w' = w.alloc (.cells #[] 176) := by
  go_enter Tryz.func242, Tryz.ntmps242
  go_wp2
  go_ret
  exact ⟨rfl, rfl⟩
theorem letter2 (w : World) : Calls Tryz.prog 243 #[.agg #[]] w fun e w' => e = .returned (.int .u8 98) ∧ w' = w.alloc (.cells #[] 177) := by
  go_enter Tryz.func243, Tryz.ntmps243
  go_wp2
  go_ret
  exact ⟨rfl, rfl⟩
theorem letter3 (w : World) : Calls Tryz.prog 244 #[.agg #[]] w fun e w' => e = .returned (.int .u8 119) ∧ w' = w.alloc (.cells #[] 178) := by
  go_enter Tryz.func244, Tryz.ntmps244
  go_wp2
  go_ret
  exact ⟨rfl, rfl⟩

set_option maxHeartbeats 3200000 in
theorem rule_110 (w : World) : Calls Tryz.prog 166 #[.string ⟨#[110]⟩] w (RulePost w (some (0, false))) := by
  go_enter Tryz.func166, Tryz.ntmps166
  go_wp2
  refine wp_loop_rounds 5 ?_
  rw [rounds_succ]
  go_wp2_with (first | (go_at_call 241; refine (letter0 _).mono ?_; rintro e w' ⟨rfl, rfl⟩) | (go_at_call 242; refine (letter1 _).mono ?_; rintro e w' ⟨rfl, rfl⟩) | (go_at_call 243; refine (letter2 _).mono ?_; rintro e w' ⟨rfl, rfl⟩) | (go_at_call 244; refine (letter3 _).mono ?_; rintro e w' ⟨rfl, rfl⟩))
  go_quiet (fail)
  go_wp2
  refine bodyPost_ret (v := .tuple #[.iface 175 (.agg #[]), .bool false, .bool true]) (by simp [results, Tryz.f166, go_sem] <;> first | rfl | decide) rfl ?_
  exact ⟨rfl, (by repeat (first | exact Below.refl _ _ | refine belowDr ?_ _ | refine Below.alloc ?_ (by simp <;> omega) _))⟩

set_option maxHeartbeats 3200000 in
theorem rule_102 (w : World) : Calls Tryz.prog 166 #[.string ⟨#[102]⟩] w (RulePost w (some (1, false))) := by
  go_enter Tryz.func166, Tryz.ntmps166
  go_wp2
  refine wp_loop_rounds 5 ?_
  rw [rounds_succ]
  go_wp2_with (first | (go_at_call 241; refine (letter0 _).mono ?_; rintro e w' ⟨rfl, rfl⟩) | (go_at_call 242; refine (letter1 _).mono ?_; rintro e w' ⟨rfl, rfl⟩) | (go_at_call 243; refine (letter2 _).mono ?_; rintro e w' ⟨rfl, rfl⟩) | (go_at_call 244; refine (letter3 _).mono ?_; rintro e w' ⟨rfl, rfl⟩))
  rw [rounds_succ]
  go_wp2_with (first | (go_at_call 241; refine (letter0 _).mono ?_; rintro e w' ⟨rfl, rfl⟩) | (go_at_call 242; refine (letter1 _).mono ?_; rintro e w' ⟨rfl, rfl⟩) | (go_at_call 243; refine (letter2 _).mono ?_; rintro e w' ⟨rfl, rfl⟩) | (go_at_call 244; refine (letter3 _).mono ?_; rintro e w' ⟨rfl, rfl⟩))
  go_quiet (fail)
  go_wp2
  refine bodyPost_ret (v := .tuple #[.iface 176 (.agg #[]), .bool false, .bool true]) (by simp [results, Tryz.f166, go_sem] <;> first | rfl | decide) rfl ?_
  exact ⟨rfl, (by repeat (first | exact Below.refl _ _ | refine belowDr ?_ _ | refine Below.alloc ?_ (by simp <;> omega) _))⟩

set_option maxHeartbeats 3200000 in
theorem rule_98 (w : World) : Calls Tryz.prog 166 #[.string ⟨#[98]⟩] w (RulePost w (some (2, false))) := by
  go_enter Tryz.func166, Tryz.ntmps166
  go_wp2
  refine wp_loop_rounds 5 ?_
  rw [rounds_succ]
  go_wp2_with (first | (go_at_call 241; refine (letter0 _).mono ?_; rintro e w' ⟨rfl, rfl⟩) | (go_at_call 242; refine (letter1 _).mono ?_; rintro e w' ⟨rfl, rfl⟩) | (go_at_call 243; refine (letter2 _).mono ?_; rintro e w' ⟨rfl, rfl⟩) | (go_at_call 244; refine (letter3 _).mono ?_; rintro e w' ⟨rfl, rfl⟩))
  rw [rounds_succ]
  go_wp2_with (first | (go_at_call 241; refine (letter0 _).mono ?_; rintro e w' ⟨rfl, rfl⟩) | (go_at_call 242; refine (letter1 _).mono ?_; rintro e w' ⟨rfl, rfl⟩) | (go_at_call 243; refine (letter2 _).mono ?_; rintro e w' ⟨rfl, rfl⟩) | (go_at_call 244; refine (letter3 _).mono ?_; rintro e w' ⟨rfl, rfl⟩))
  rw [rounds_succ]
  go_wp2_with (first | (go_at_call 241; refine (letter0 _).mono ?_; rintro e w' ⟨rfl, rfl⟩) | (go_at_call 242; refine (letter1 _).mono ?_; rintro e w' ⟨rfl, rfl⟩) | (go_at_call 243; refine (letter2 _).mono ?_; rintro e w' ⟨rfl, rfl⟩) | (go_at_call 244; refine (letter3 _).mono ?_; rintro e w' ⟨rfl, rfl⟩))
  go_quiet (fail)
  go_wp2
  refine bodyPost_ret (v := .tuple #[.iface 177 (.agg #[]), .bool false, .bool true]) (by simp [results, Tryz.f166, go_sem] <;> first | rfl | decide) rfl ?_
  exact ⟨rfl, (by repeat (first | exact Below.refl _ _ | refine belowDr ?_ _ | refine Below.alloc ?_ (by simp <;> omega) _))⟩

set_option maxHeartbeats 3200000 in
theorem rule_119 (w : World) : Calls Tryz.prog 166 #[.string ⟨#[119]⟩] w (RulePost w (some (3, false))) := by
  go_enter Tryz.func166, Tryz.ntmps166
  go_wp2
  refine wp_loop_rounds 5 ?_
  rw [rounds_succ]
  go_wp2_with (first | (go_at_call 241; refine (letter0 _).mono ?_; rintro e w' ⟨rfl, rfl⟩) | (go_at_call 242; refine (letter1 _).mono ?_; rintro e w' ⟨rfl, rfl⟩) | (go_at_call 243; refine (letter2 _).mono ?_; rintro e w' ⟨rfl, rfl⟩) | (go_at_call 244; refine (letter3 _).mono ?_; rintro e w' ⟨rfl, rfl⟩))
  rw [rounds_succ]
  go_wp2_with (first | (go_at_call 241; refine (letter0 _).mono ?_; rintro e w' ⟨rfl, rfl⟩) | (go_at_call 242; refine (letter1 _).mono ?_; rintro e w' ⟨rfl, rfl⟩) | (go_at_call 243; refine (letter2 _).mono ?_; rintro e w' ⟨rfl, rfl⟩) | (go_at_call 244; refine (letter3 _).mono ?_; rintro e w' ⟨rfl, rfl⟩))
  rw [rounds_succ]
  go_wp2_with (first | (go_at_call 241; refine (letter0 _).mono ?_; rintro e w' ⟨rfl, rfl⟩) | (go_at_call 242; refine (letter1 _).mono ?_; rintro e w' ⟨rfl, rfl⟩) | (go_at_call 243; refine (letter2 _).mono ?_; rintro e w' ⟨rfl, rfl⟩) | (go_at_call 244; refine (letter3 _).mono ?_; rintro e w' ⟨rfl, rfl⟩))
  rw [rounds_succ]
  go_wp2_with (first | (go_at_call 241; refine (letter0 _).mono ?_; rintro e w' ⟨rfl, rfl⟩) | (go_at_call 242; refine (letter1 _).mono ?_; rintro e w' ⟨rfl, rfl⟩) | (go_at_call 243; refine (letter2 _).mono ?_; rintro e w' ⟨rfl, rfl⟩) | (go_at_call 244; refine (letter3 _).mono ?_; rintro e w' ⟨rfl, rfl⟩))
  go_quiet (fail)
  go_wp2
  refine bodyPost_ret (v := .tuple #[.iface 178 (.agg #[]), .bool false, .bool true]) (by simp [results, Tryz.f166, go_sem] <;> first | rfl | decide) rfl ?_
  exact ⟨rfl, (by repeat (first | exact Below.refl _ _ | refine belowDr ?_ _ | refine Below.alloc ?_ (by simp <;> omega) _))⟩

set_option maxHeartbeats 3200000 in
theorem rule_78 (w : World) : Calls Tryz.prog 166 #[.string ⟨#[78]⟩] w (RulePost w (some (0, true))) := by
  go_enter Tryz.func166, Tryz.ntmps166
  go_wp2
  refine wp_loop_rounds 5 ?_
  rw [rounds_succ]
  go_wp2_with (first | (go_at_call 241; refine (letter0 _).mono ?_; rintro e w' ⟨rfl, rfl⟩) | (go_at_call 242; refine (letter1 _).mono ?_; rintro e w' ⟨rfl, rfl⟩) | (go_at_call 243; refine (letter2 _).mono ?_; rintro e w' ⟨rfl, rfl⟩) | (go_at_call 244; refine (letter3 _).mono ?_; rintro e w' ⟨rfl, rfl⟩))
  go_quiet (fail)
  go_wp2
  refine bodyPost_ret (v := .tuple #[.iface 175 (.agg #[]), .bool true, .bool true]) (by simp [results, Tryz.f166, go_sem] <;> first | rfl | decide) rfl ?_
  exact ⟨rfl, (by repeat (first | exact Below.refl _ _ | refine belowDr ?_ _ | refine Below.alloc ?_ (by simp <;> omega) _))⟩

set_option maxHeartbeats 3200000 in
theorem rule_70 (w : World) : Calls Tryz.prog 166 #[.string ⟨#[70]⟩] w (RulePost w (some (1, true))) := by
  go_enter Tryz.func166, Tryz.ntmps166
  go_wp2
  refine wp_loop_rounds 5 ?_
  rw [rounds_succ]
  go_wp2_with (first | (go_at_call 241; refine (letter0 _).mono ?_; rintro e w' ⟨rfl, rfl⟩) | (go_at_call 242; refine (letter1 _).mono ?_; rintro e w' ⟨rfl, rfl⟩) | (go_at_call 243; refine (letter2 _).mono ?_; rintro e w' ⟨rfl, rfl⟩) | (go_at_call 244; refine (letter3 _).mono ?_; rintro e w' ⟨rfl, rfl⟩))
  rw [rounds_succ]
  go_wp2_with (first | (go_at_call 241; refine (letter0 _).mono ?_; rintro e w' ⟨rfl, rfl⟩) | (go_at_call 242; refine (letter1 _).mono ?_; rintro e w' ⟨rfl, rfl⟩) | (go_at_call 243; refine (letter2 _).mono ?_; rintro e w' ⟨rfl, rfl⟩) | (go_at_call 244; refine (letter3 _).mono ?_; rintro e w' ⟨rfl, rfl⟩))
  go_quiet (fail)
  go_wp2
  refine bodyPost_ret (v := .tuple #[.iface 176 (.agg #[]), .bool true, .bool true]) (by simp [results, Tryz.f166, go_sem] <;> first | rfl | decide) rfl ?_
  exact ⟨rfl, (by repeat (first | exact Below.refl _ _ | refine belowDr ?_ _ | refine Below.alloc ?_ (by simp <;> omega) _))⟩

set_option maxHeartbeats 3200000 in
theorem rule_66 (w : World) : Calls Tryz.prog 166 #[.string ⟨#[66]⟩] w (RulePost w (some (2, true))) := by
  go_enter Tryz.func166, Tryz.ntmps166
  go_wp2
  refine wp_loop_rounds 5 ?_
  rw [rounds_succ]
  go_wp2_with (first | (go_at_call 241; refine (letter0 _).mono ?_; rintro e w' ⟨rfl, rfl⟩) | (go_at_call 242; refine (letter1 _).mono ?_; rintro e w' ⟨rfl, rfl⟩) | (go_at_call 243; refine (letter2 _).mono ?_; rintro e w' ⟨rfl, rfl⟩) | (go_at_call 244; refine (letter3 _).mono ?_; rintro e w' ⟨rfl, rfl⟩))
  rw [rounds_succ]
  go_wp2_with (first | (go_at_call 241; refine (letter0 _).mono ?_; rintro e w' ⟨rfl, rfl⟩) | (go_at_call 242; refine (letter1 _).mono ?_; rintro e w' ⟨rfl, rfl⟩) | (go_at_call 243; refine (letter2 _).mono ?_; rintro e w' ⟨rfl, rfl⟩) | (go_at_call 244; refine (letter3 _).mono ?_; rintro e w' ⟨rfl, rfl⟩))
  rw [rounds_succ]
  go_wp2_with (first | (go_at_call 241; refine (letter0 _).mono ?_; rintro e w' ⟨rfl, rfl⟩) | (go_at_call 242; refine (letter1 _).mono ?_; rintro e w' ⟨rfl, rfl⟩) | (go_at_call 243; refine (letter2 _).mono ?_; rintro e w' ⟨rfl, rfl⟩) | (go_at_call 244; refine (letter3 _).mono ?_; rintro e w' ⟨rfl, rfl⟩))
  go_quiet (fail)
  go_wp2
  refine bodyPost_ret (v := .tuple #[.iface 177 (.agg #[]), .bool true, .bool true]) (by simp [results, Tryz.f166, go_sem] <;> first | rfl | decide) rfl ?_
  exact ⟨rfl, (by repeat (first | exact Below.refl _ _ | refine belowDr ?_ _ | refine Below.alloc ?_ (by simp <;> omega) _))⟩

set_option maxHeartbeats 3200000 in
theorem rule_87 (w : World) : Calls Tryz.prog 166 #[.string ⟨#[87]⟩] w (RulePost w (some (3, true))) := by
  go_enter Tryz.func166, Tryz.ntmps166
  go_wp2
  refine wp_loop_rounds 5 ?_
  rw [rounds_succ]
  go_wp2_with (first | (go_at_call 241; refine (letter0 _).mono ?_; rintro e w' ⟨rfl, rfl⟩) | (go_at_call 242; refine (letter1 _).mono ?_; rintro e w' ⟨rfl, rfl⟩) | (go_at_call 243; refine (letter2 _).mono ?_; rintro e w' ⟨rfl, rfl⟩) | (go_at_call 244; refine (letter3 _).mono ?_; rintro e w' ⟨rfl, rfl⟩))
  rw [rounds_succ]
  go_wp2_with (first | (go_at_call 241; refine (letter0 _).mono ?_; rintro e w' ⟨rfl, rfl⟩) | (go_at_call 242; refine (letter1 _).mono ?_; rintro e w' ⟨rfl, rfl⟩) | (go_at_call 243; refine (letter2 _).mono ?_; rintro e w' ⟨rfl, rfl⟩) | (go_at_call 244; refine (letter3 _).mono ?_; rintro e w' ⟨rfl, rfl⟩))
  rw [rounds_succ]
  go_wp2_with (first | (go_at_call 241; refine (letter0 _).mono ?_; rintro e w' ⟨rfl, rfl⟩) | (go_at_call 242; refine (letter1 _).mono ?_; rintro e w' ⟨rfl, rfl⟩) | (go_at_call 243; refine (letter2 _).mono ?_; rintro e w' ⟨rfl, rfl⟩) | (go_at_call 244; refine (letter3 _).mono ?_; rintro e w' ⟨rfl, rfl⟩))
  rw [rounds_succ]
  go_wp2_with (first | (go_at_call 241; refine (letter0 _).mono ?_; rintro e w' ⟨rfl, rfl⟩) | (go_at_call 242; refine (letter1 _).mono ?_; rintro e w' ⟨rfl, rfl⟩) | (go_at_call 243; refine (letter2 _).mono ?_; rintro e w' ⟨rfl, rfl⟩) | (go_at_call 244; refine (letter3 _).mono ?_; rintro e w' ⟨rfl, rfl⟩))
  go_quiet (fail)
  go_wp2
  refine bodyPost_ret (v := .tuple #[.iface 178 (.agg #[]), .bool true, .bool true]) (by simp [results, Tryz.f166, go_sem] <;> first | rfl | decide) rfl ?_
  exact ⟨rfl, (by repeat (first | exact Below.refl _ _ | refine belowDr ?_ _ | refine Below.alloc ?_ (by simp <;> omega) _))⟩

set_option maxHeartbeats 3200000 in
theorem rule_120 (w : World) : Calls Tryz.prog 166 #[.string ⟨#[120]⟩] w (RulePost w none) := by
  go_enter Tryz.func166, Tryz.ntmps166
  go_wp2
  refine wp_loop_rounds 5 ?_
  rw [rounds_succ]
  go_wp2_with (first | (go_at_call 241; refine (letter0 _).mono ?_; rintro e w' ⟨rfl, rfl⟩) | (go_at_call 242; refine (letter1 _).mono ?_; rintro e w' ⟨rfl, rfl⟩) | (go_at_call 243; refine (letter2 _).mono ?_; rintro e w' ⟨rfl, rfl⟩) | (go_at_call 244; refine (letter3 _).mono ?_; rintro e w' ⟨rfl, rfl⟩))
  rw [rounds_succ]
  go_wp2_with (first | (go_at_call 241; refine (letter0 _).mono ?_; rintro e w' ⟨rfl, rfl⟩) | (go_at_call 242; refine (letter1 _).mono ?_; rintro e w' ⟨rfl, rfl⟩) | (go_at_call 243; refine (letter2 _).mono ?_; rintro e w' ⟨rfl, rfl⟩) | (go_at_call 244; refine (letter3 _).mono ?_; rintro e w' ⟨rfl, rfl⟩))
  rw [rounds_succ]
  go_wp2_with (first | (go_at_call 241; refine (letter0 _).mono ?_; rintro e w' ⟨rfl, rfl⟩) | (go_at_call 242; refine (letter1 _).mono ?_; rintro e w' ⟨rfl, rfl⟩) | (go_at_call 243; refine (letter2 _).mono ?_; rintro e w' ⟨rfl, rfl⟩) | (go_at_call 244; refine (letter3 _).mono ?_; rintro e w' ⟨rfl, rfl⟩))
  rw [rounds_succ]
  go_wp2_with (first | (go_at_call 241; refine (letter0 _).mono ?_; rintro e w' ⟨rfl, rfl⟩) | (go_at_call 242; refine (letter1 _).mono ?_; rintro e w' ⟨rfl, rfl⟩) | (go_at_call 243; refine (letter2 _).mono ?_; rintro e w' ⟨rfl, rfl⟩) | (go_at_call 244; refine (letter3 _).mono ?_; rintro e w' ⟨rfl, rfl⟩))
  rw [rounds_succ]
  go_wp2
  refine bodyPost_ret (v := .tuple #[.nilIface, .bool false, .bool false]) (by simp [results, Tryz.f166, go_sem] <;> first | rfl | decide) rfl ?_
  exact ⟨rfl, (by repeat (first | exact Below.refl _ _ | refine belowDr ?_ _ | refine Below.alloc ?_ (by simp <;> omega) _))⟩
set_option maxHeartbeats 3200000 in
theorem rule_ff (w : World) : Calls Tryz.prog 166 #[.string ⟨#[102, 102]⟩] w (RulePost w none) := by
  go_enter Tryz.func166, Tryz.ntmps166
  go_wp2
  refine bodyPost_ret (v := .tuple #[.nilIface, .bool false, .bool false]) (by simp [results, Tryz.f166, go_sem] <;> first | rfl | decide) rfl ?_
  exact ⟨rfl, Below.refl _ _⟩

/-- a list and a size are drawn; the reader lies in block Br -/
def BinsDrawn (w : World) (Br : Nat) (a : Option Addr) (len cap : Nat) (e : Ending) (w' : World) : Prop :=
  ∃ v zs q p, e = .returned (.tuple #[v, .int .i64 q]) ∧ DrI w w' Br a len cap p v zs ∧ zs.length ≤ 9 ∧ okDrawn zs ∧ 0 ≤ q ∧ q ≤ 101 ∧ 0 ≤ p ∧ p ≤ 100
theorem pick3 {w : World} {b : Nat} {x : Int} (hb : b < w.heap.size) (h : w.heap[b]? = some (.cells #[.int .i64 0, .int .i64 101, .int .i64 5] 3 (0, 0))) (h0 : 0 ≤ x) (h1 : x < 3 ∨ x = 0) : ∃ q : Int, w.cell? ⟨b, x.toNat, none⟩ = some (.int .i64 q) ∧ 0 ≤ q ∧ q ≤ 101 := by
  have : x = 0 ∨ x = 1 ∨ x = 2 := by omega
  rcases this with rfl | rfl | rfl
  · exact ⟨0, by simp [World.cell?, h], by omega, by omega⟩
  · exact ⟨101, by simp [World.cell?, h], by omega, by omega⟩
  · exact ⟨5, by simp [World.cell?, h], by omega, by omega⟩
end Go.Proofs.YtdpapalfafjncaaGreatDoor
