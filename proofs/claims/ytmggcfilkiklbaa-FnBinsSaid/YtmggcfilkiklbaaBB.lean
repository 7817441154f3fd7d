/- The letters of the rules: what the program and the reference read off them; the draw of a list, a size and a letter. Conditions: stated in each. Ahead of it: The choice of a bin: the linked bins are read one behind the other. Conditions: stated in each. -/
import Derived.Deep.LoopGhost
import Derived.Test.YtmggcfilkiklbaaMN
import Derived.Test.YtmggcfilkiklbaaW1
import Derived.BigQuiet
import Derived.Test.YtmggcfilkiklbaaW11
namespace Go.Proofs.Ytmggcfilkiklbaa
open Go.RowKit

/-- the address of bin i, nil behind the last one -/
def ptrAt (bl : List Nat) (i : Nat) : Value := match bl[i]? with
  | some b => .pointer (some ⟨b, 0, none⟩)
  | none => .pointer none
def chV (bl : List Nat) (c : Option Nat) : Value := match c with
  | none => .pointer none
  | some k => ptrAt bl k
theorem ptrAt_lt {bl : List Nat} {i : Nat} (h : i < bl.length) : ptrAt bl i = .pointer (some ⟨bl[i], 0, none⟩) := by
  unfold ptrAt; rw [List.getElem?_eq_getElem h]
theorem ptrAt_ge {bl : List Nat} {i : Nat} (h : bl.length ≤ i) : ptrAt bl i = .pointer none := by
  unfold ptrAt; rw [List.getElem?_eq_none h]
theorem chV_none (bl : List Nat) : chV bl none = .pointer none := rfl
theorem chV_some (bl : List Nat) (k : Nat) : chV bl (some k) = ptrAt bl k := rfl
/-- linked bins: their rooms, and where the next one lies -/
def Chain (w : World) (bl : List Nat) (rs : List Int) : Prop :=
  bl.length = rs.length ∧ ∀ i (h : i < bl.length), w.cell? ⟨bl[i], 1, none⟩ = some (.int .i64 (rs[i]?.getD 0)) ∧ w.cell? ⟨bl[i], 2, none⟩ = some (ptrAt bl (i + 1))
/-- what the choice answers -/
def ChoosePost (w : World) (bl : List Nat) (c : Option Nat) (e : Ending) (w' : World) : Prop := e = .returned (chV bl c) ∧ ∃ n, w' = w.drewN n
theorem ta00 (w : World) : (Instr.typeAssert (.iface 69 (.agg #[])) 56 69 true).run Try.prog w = .ok (.tuple #[.agg #[], .bool true]) w := by kernel_rfl
theorem ta10 (w : World) : (Instr.typeAssert (.iface 70 (.agg #[])) 56 69 true).run Try.prog w = .ok (.tuple #[.agg #[], .bool false]) w := by kernel_rfl
theorem ta11 (w : World) : (Instr.typeAssert (.iface 70 (.agg #[])) 56 70 true).run Try.prog w = .ok (.tuple #[.agg #[], .bool true]) w := by kernel_rfl
theorem ta20 (w : World) : (Instr.typeAssert (.iface 71 (.agg #[])) 56 69 true).run Try.prog w = .ok (.tuple #[.agg #[], .bool false]) w := by kernel_rfl
theorem ta21 (w : World) : (Instr.typeAssert (.iface 71 (.agg #[])) 56 70 true).run Try.prog w = .ok (.tuple #[.agg #[], .bool false]) w := by kernel_rfl
theorem ta22 (w : World) : (Instr.typeAssert (.iface 71 (.agg #[])) 56 71 true).run Try.prog w = .ok (.tuple #[.agg #[], .bool true]) w := by kernel_rfl
theorem ta30 (w : World) : (Instr.typeAssert (.iface 72 (.agg #[])) 56 69 true).run Try.prog w = .ok (.tuple #[.agg #[], .bool false]) w := by kernel_rfl
theorem ta31 (w : World) : (Instr.typeAssert (.iface 72 (.agg #[])) 56 70 true).run Try.prog w = .ok (.tuple #[.agg #[], .bool false]) w := by kernel_rfl
theorem ta32 (w : World) : (Instr.typeAssert (.iface 72 (.agg #[])) 56 71 true).run Try.prog w = .ok (.tuple #[.agg #[], .bool false]) w := by kernel_rfl
theorem ta33 (w : World) : (Instr.typeAssert (.iface 72 (.agg #[])) 56 72 true).run Try.prog w = .ok (.tuple #[.agg #[], .bool true]) w := by kernel_rfl
attribute [local go_sem] ta00 ta10 ta11 ta20 ta21 ta22 ta30 ta31 ta32 ta33
theorem chs_next {r : Nat} {f : Nat → Int} {v : Int} {k : Nat} {c : Option Nat} (h : chs r f v k = c) : chs r f v (k + 1) = chStep r f v k c := by rw [chs, h]

set_option maxHeartbeats 3200000 in
theorem choose0 (bl : List Nat) (rs : List Int) (x : Int) (w : World) (hr : ∀ i : Nat, 0 ≤ rs[i]?.getD 0 ∧ rs[i]?.getD 0 ≤ 100) (hx : 1 ≤ x ∧ x ≤ 100) (hC : Chain w bl rs) :
    Calls Try.prog 32 #[.iface 69 (.agg #[]), ptrAt bl 0, .int .i64 x] w (ChoosePost w bl (chs 0 (fun i : Nat => rs[i]?.getD 0) x bl.length)) := by
  obtain ⟨p0, hp0⟩ : ∃ p0, ptrAt bl 0 = p0 := ⟨_, rfl⟩
  have HP0 := Lib.hid hp0
  rw [hp0]
  clear hp0
  have HC := Lib.hid hC
  have HR := Lib.hid hr
  clear hC hr
  go_enter Try.func32, Try.ntmps32
  go_wp2
  go_loopg [7, 8] bl.length (fun gk ch b wr => ∃ (i n : Nat), i + gk = bl.length ∧ Hid (b = ptrAt bl i) ∧ Hid (ch = chV bl (chs 0 (fun i : Nat => rs[i]?.getD 0) x i)) ∧ wr = w.drewN n)
  case atStart => exact ⟨0, 0, by omega, HP0.out.symm, rfl, rfl⟩
  case round =>
    obtain ⟨i, n, hi, HB, HCH, rfl⟩ := hrel
    have hbv := HB.out
    have hcv := HCH.out
    clear HB HCH
    by_cases hlt : i < bl.length
    · rw [ptrAt_lt hlt] at hbv
      subst hbv
      obtain ⟨g, rfl⟩ : ∃ g, gk = g + 1 := ⟨gk - 1, by omega⟩
      have hi2 : i + 1 + g = bl.length := by omega
      have HI := Lib.hid hi2
      obtain ⟨hc1, hc2⟩ := HC.out.2 i hlt
      have hrb := HR.out i
      obtain ⟨c, hc⟩ : ∃ c, chs 0 (fun i : Nat => rs[i]?.getD 0) x i = c := ⟨_, rfl⟩
      have HN := Lib.hid (chs_next hc)
      rw [hc] at hcv
      have HCC := Lib.hid hc
      clear hc
      generalize hv : rs[i]?.getD 0 = y at hc1 hrb
      have HV := Lib.hid hv
      generalize hpn : ptrAt bl (i + 1) = pn at hc2
      have HPN := Lib.hid hpn.symm
      generalize hba : bl[i] = b at hc1 hc2
      have HBA := Lib.hid hba
      clear hba
      clear hv hpn hi hi2
      have HCV := Lib.hid hcv
      clear hcv
      by_cases hf : x ≤ y
      · have HM : Hid (Value.pointer (some ⟨b, 0, none⟩) = chV bl (chs 0 (fun i : Nat => rs[i]?.getD 0) x (i + 1))) := by
          show _ = _
          rw [HN.out]
          unfold chStep
          rw [if_pos rfl, if_pos (by show x ≤ rs[i]?.getD 0; rw [HV.out]; exact hf), chV_some, ptrAt_lt hlt, HBA.out]
        go_wp2
        go_roundg g
        case rel => exact ⟨i + 1, n, HI.out, HPN.out, HM, rfl⟩
        case measure => omega
      · have HM : Hid (Value.pointer none = chV bl (chs 0 (fun i : Nat => rs[i]?.getD 0) x (i + 1))) := by
          show _ = _
          rw [HN.out]
          unfold chStep
          rw [if_pos rfl, if_neg (by show ¬ x ≤ rs[i]?.getD 0; rw [HV.out]; exact hf), chV_none]
        go_wp2
        go_roundg g
        case rel => exact ⟨i + 1, n, HI.out, HPN.out, HM, rfl⟩
        case measure => omega
    · have HE : Hid (chs 0 (fun i : Nat => rs[i]?.getD 0) x i = chs 0 (fun i : Nat => rs[i]?.getD 0) x bl.length) := by
        have : i = bl.length := by omega
        subst this; rfl
      rw [ptrAt_ge (by omega)] at hbv
      subst hbv
      have HCV := Lib.hid hcv
      clear hcv
      go_wp2
      go_ret
      exact ⟨by rw [HCV.out, HE.out]; rfl, n, rfl⟩

set_option maxHeartbeats 3200000 in
theorem choose1 (bl : List Nat) (rs : List Int) (x : Int) (w : World) (hr : ∀ i : Nat, 0 ≤ rs[i]?.getD 0 ∧ rs[i]?.getD 0 ≤ 100) (hx : 1 ≤ x ∧ x ≤ 100) (hC : Chain w bl rs) :
    Calls Try.prog 32 #[.iface 70 (.agg #[]), ptrAt bl 0, .int .i64 x] w (ChoosePost w bl (chs 1 (fun i : Nat => rs[i]?.getD 0) x bl.length)) := by
  obtain ⟨p0, hp0⟩ : ∃ p0, ptrAt bl 0 = p0 := ⟨_, rfl⟩
  have HP0 := Lib.hid hp0
  rw [hp0]
  clear hp0
  have HC := Lib.hid hC
  have HR := Lib.hid hr
  clear hC hr
  go_enter Try.func32, Try.ntmps32
  go_wp2
  go_loopg [7, 8] bl.length (fun gk ch b wr => ∃ (i n : Nat), i + gk = bl.length ∧ Hid (b = ptrAt bl i) ∧ Hid (ch = chV bl (chs 1 (fun i : Nat => rs[i]?.getD 0) x i)) ∧ wr = w.drewN n)
  case atStart => exact ⟨0, 0, by omega, HP0.out.symm, rfl, rfl⟩
  case round =>
    obtain ⟨i, n, hi, HB, HCH, rfl⟩ := hrel
    have hbv := HB.out
    have hcv := HCH.out
    clear HB HCH
    by_cases hlt : i < bl.length
    · rw [ptrAt_lt hlt] at hbv
      subst hbv
      obtain ⟨g, rfl⟩ : ∃ g, gk = g + 1 := ⟨gk - 1, by omega⟩
      have hi2 : i + 1 + g = bl.length := by omega
      have HI := Lib.hid hi2
      obtain ⟨hc1, hc2⟩ := HC.out.2 i hlt
      have hrb := HR.out i
      obtain ⟨c, hc⟩ : ∃ c, chs 1 (fun i : Nat => rs[i]?.getD 0) x i = c := ⟨_, rfl⟩
      have HN := Lib.hid (chs_next hc)
      rw [hc] at hcv
      have HCC := Lib.hid hc
      clear hc
      generalize hv : rs[i]?.getD 0 = y at hc1 hrb
      have HV := Lib.hid hv
      generalize hpn : ptrAt bl (i + 1) = pn at hc2
      have HPN := Lib.hid hpn.symm
      generalize hba : bl[i] = b at hc1 hc2
      have HBA := Lib.hid hba
      clear hba
      clear hv hpn hi hi2
      by_cases hf : x ≤ y
      case neg =>
        have HM : Hid (u7 = chV bl (chs 1 (fun i : Nat => rs[i]?.getD 0) x (i + 1))) := by
          show _ = _
          rw [HN.out]
          unfold chStep
          rw [if_neg (by decide), if_neg (by show ¬ x ≤ rs[i]?.getD 0; rw [HV.out]; exact hf)]; exact hcv
        clear hcv
        go_wp2
        go_roundg g
        case rel => exact ⟨i + 1, n, HI.out, HPN.out, HM, rfl⟩
        case measure => omega
      cases c with
      | none =>
        rw [chV_none] at hcv
        subst hcv
        have HM : Hid (Value.pointer (some ⟨b, 0, none⟩) = chV bl (chs 1 (fun i : Nat => rs[i]?.getD 0) x (i + 1))) := by
          show _ = _
          rw [HN.out]
          unfold chStep
          rw [if_neg (by decide), if_pos (by show x ≤ rs[i]?.getD 0; rw [HV.out]; exact hf)]
          show _ = ptrAt bl i
          rw [ptrAt_lt hlt, HBA.out]
        go_wp2
        go_roundg g
        case rel => exact ⟨i + 1, n, HI.out, HPN.out, HM, rfl⟩
        case measure => omega
      | some j =>
        have hj := (chs_some HCC.out).1
        rw [chV_some, ptrAt_lt (by omega)] at hcv
        subst hcv
        have HM : Hid (Value.pointer (some ⟨bl[j], 0, none⟩) = chV bl (chs 1 (fun i : Nat => rs[i]?.getD 0) x (i + 1))) := by
          show _ = _
          rw [HN.out]
          unfold chStep
          rw [if_neg (by decide), if_pos (by show x ≤ rs[i]?.getD 0; rw [HV.out]; exact hf)]
          show _ = chV bl (if _ then _ else _)
          rw [if_neg (by omega), chV_some, ptrAt_lt (by omega)]
        generalize bl[j] = bj at HM
        go_wp2
        go_roundg g
        case rel => exact ⟨i + 1, n, HI.out, HPN.out, HM, rfl⟩
        case measure => omega
    · have HE : Hid (chs 1 (fun i : Nat => rs[i]?.getD 0) x i = chs 1 (fun i : Nat => rs[i]?.getD 0) x bl.length) := by
        have : i = bl.length := by omega
        subst this; rfl
      rw [ptrAt_ge (by omega)] at hbv
      subst hbv
      have HCV := Lib.hid hcv
      clear hcv
      go_wp2
      go_ret
      exact ⟨by rw [HCV.out, HE.out]; rfl, n, rfl⟩

set_option maxHeartbeats 3200000 in
theorem choose2 (bl : List Nat) (rs : List Int) (x : Int) (w : World) (hr : ∀ i : Nat, 0 ≤ rs[i]?.getD 0 ∧ rs[i]?.getD 0 ≤ 100) (hx : 1 ≤ x ∧ x ≤ 100) (hC : Chain w bl rs) :
    Calls Try.prog 32 #[.iface 71 (.agg #[]), ptrAt bl 0, .int .i64 x] w (ChoosePost w bl (chs 2 (fun i : Nat => rs[i]?.getD 0) x bl.length)) := by
  obtain ⟨p0, hp0⟩ : ∃ p0, ptrAt bl 0 = p0 := ⟨_, rfl⟩
  have HP0 := Lib.hid hp0
  rw [hp0]
  clear hp0
  have HC := Lib.hid hC
  have HR := Lib.hid hr
  clear hC hr
  go_enter Try.func32, Try.ntmps32
  go_wp2
  go_loopg [7, 8] bl.length (fun gk ch b wr => ∃ (i n : Nat), i + gk = bl.length ∧ Hid (b = ptrAt bl i) ∧ Hid (ch = chV bl (chs 2 (fun i : Nat => rs[i]?.getD 0) x i)) ∧ wr = w.drewN n)
  case atStart => exact ⟨0, 0, by omega, HP0.out.symm, rfl, rfl⟩
  case round =>
    obtain ⟨i, n, hi, HB, HCH, rfl⟩ := hrel
    have hbv := HB.out
    have hcv := HCH.out
    clear HB HCH
    by_cases hlt : i < bl.length
    · rw [ptrAt_lt hlt] at hbv
      subst hbv
      obtain ⟨g, rfl⟩ : ∃ g, gk = g + 1 := ⟨gk - 1, by omega⟩
      have hi2 : i + 1 + g = bl.length := by omega
      have HI := Lib.hid hi2
      obtain ⟨hc1, hc2⟩ := HC.out.2 i hlt
      have hrb := HR.out i
      obtain ⟨c, hc⟩ : ∃ c, chs 2 (fun i : Nat => rs[i]?.getD 0) x i = c := ⟨_, rfl⟩
      have HN := Lib.hid (chs_next hc)
      rw [hc] at hcv
      have HCC := Lib.hid hc
      clear hc
      generalize hv : rs[i]?.getD 0 = y at hc1 hrb
      have HV := Lib.hid hv
      generalize hpn : ptrAt bl (i + 1) = pn at hc2
      have HPN := Lib.hid hpn.symm
      generalize hba : bl[i] = b at hc1 hc2
      have HBA := Lib.hid hba
      clear hba
      clear hv hpn hi hi2
      by_cases hf : x ≤ y
      case neg =>
        have HM : Hid (u7 = chV bl (chs 2 (fun i : Nat => rs[i]?.getD 0) x (i + 1))) := by
          show _ = _
          rw [HN.out]
          unfold chStep
          rw [if_neg (by decide), if_neg (by show ¬ x ≤ rs[i]?.getD 0; rw [HV.out]; exact hf)]; exact hcv
        have hd : decide (x ≤ y) = false := decide_eq_false hf
        clear hcv
        go_wp2_with fail
        go_quiet (fail)
        go_wp2
        go_roundg g
        case rel => exact ⟨i + 1, n + nq, HI.out, HPN.out, HM, by simp⟩
        case measure => omega
      have hd : decide (x ≤ y) = true := decide_eq_true hf
      cases c with
      | none =>
        rw [chV_none] at hcv
        subst hcv
        have HM : Hid (Value.pointer (some ⟨b, 0, none⟩) = chV bl (chs 2 (fun i : Nat => rs[i]?.getD 0) x (i + 1))) := by
          show _ = _
          rw [HN.out]
          unfold chStep
          rw [if_neg (by decide), if_pos (by show x ≤ rs[i]?.getD 0; rw [HV.out]; exact hf)]
          show _ = ptrAt bl i
          rw [ptrAt_lt hlt, HBA.out]
        go_wp2_with fail
        go_quiet (fail)
        go_wp2
        go_roundg g
        case rel => exact ⟨i + 1, n + nq, HI.out, HPN.out, HM, by simp⟩
        case measure => omega
      | some j =>
        have hj := (chs_some HCC.out).1
        rw [chV_some, ptrAt_lt (by omega)] at hcv
        subst hcv
        have hcj := (HC.out.2 j (by omega)).1
        have hrj := HR.out j
        generalize hvj : rs[j]?.getD 0 = yj at hcj hrj
        have HVJ := Lib.hid hvj
        clear hvj
        by_cases hly : y < yj
        · have HM : Hid (Value.pointer (some ⟨b, 0, none⟩) = chV bl (chs 2 (fun i : Nat => rs[i]?.getD 0) x (i + 1))) := by
            show _ = _
            rw [HN.out]
            unfold chStep
            rw [if_neg (by decide), if_pos (by show x ≤ rs[i]?.getD 0; rw [HV.out]; exact hf)]
            show _ = chV bl (if _ then _ else _)
            rw [if_pos (.inl ⟨rfl, by show rs[i]?.getD 0 < rs[j]?.getD 0; rw [HV.out, HVJ.out]; exact hly⟩), chV_some, ptrAt_lt hlt, HBA.out]
          have hd2 : decide (y < yj) = true := decide_eq_true hly
          generalize bl[j] = bj at hcj
          go_wp2_with fail
          go_quiet (fail)
          go_wp2
          go_roundg g
          case rel => exact ⟨i + 1, n + nq, HI.out, HPN.out, HM, by simp⟩
          case measure => omega
        · have HM : Hid (Value.pointer (some ⟨bl[j], 0, none⟩) = chV bl (chs 2 (fun i : Nat => rs[i]?.getD 0) x (i + 1))) := by
            show _ = _
            rw [HN.out]
            unfold chStep
            rw [if_neg (by decide), if_pos (by show x ≤ rs[i]?.getD 0; rw [HV.out]; exact hf)]
            show _ = chV bl (if _ then _ else _)
            rw [if_neg (by
              rintro (⟨h1, h2⟩ | ⟨h1, h2⟩)
              · change rs[i]?.getD 0 < rs[j]?.getD 0 at h2; rw [HV.out, HVJ.out] at h2; exact hly h2
              · omega), chV_some, ptrAt_lt (by omega)]
          have hd2 : decide (y < yj) = false := decide_eq_false hly
          generalize bl[j] = bj at hcj HM
          go_wp2_with fail
          go_quiet (fail)
          go_wp2
          go_roundg g
          case rel => exact ⟨i + 1, n + nq, HI.out, HPN.out, HM, by simp⟩
          case measure => omega
    · have HE : Hid (chs 2 (fun i : Nat => rs[i]?.getD 0) x i = chs 2 (fun i : Nat => rs[i]?.getD 0) x bl.length) := by
        have : i = bl.length := by omega
        subst this; rfl
      rw [ptrAt_ge (by omega)] at hbv
      subst hbv
      have HCV := Lib.hid hcv
      clear hcv
      go_wp2
      go_ret
      exact ⟨by rw [HCV.out, HE.out]; rfl, n, rfl⟩

set_option maxHeartbeats 3200000 in
theorem choose3 (bl : List Nat) (rs : List Int) (x : Int) (w : World) (hr : ∀ i : Nat, 0 ≤ rs[i]?.getD 0 ∧ rs[i]?.getD 0 ≤ 100) (hx : 1 ≤ x ∧ x ≤ 100) (hC : Chain w bl rs) :
    Calls Try.prog 32 #[.iface 72 (.agg #[]), ptrAt bl 0, .int .i64 x] w (ChoosePost w bl (chs 3 (fun i : Nat => rs[i]?.getD 0) x bl.length)) := by
  obtain ⟨p0, hp0⟩ : ∃ p0, ptrAt bl 0 = p0 := ⟨_, rfl⟩
  have HP0 := Lib.hid hp0
  rw [hp0]
  clear hp0
  have HC := Lib.hid hC
  have HR := Lib.hid hr
  clear hC hr
  go_enter Try.func32, Try.ntmps32
  go_wp2
  go_loopg [7, 8] bl.length (fun gk ch b wr => ∃ (i n : Nat), i + gk = bl.length ∧ Hid (b = ptrAt bl i) ∧ Hid (ch = chV bl (chs 3 (fun i : Nat => rs[i]?.getD 0) x i)) ∧ wr = w.drewN n)
  case atStart => exact ⟨0, 0, by omega, HP0.out.symm, rfl, rfl⟩
  case round =>
    obtain ⟨i, n, hi, HB, HCH, rfl⟩ := hrel
    have hbv := HB.out
    have hcv := HCH.out
    clear HB HCH
    by_cases hlt : i < bl.length
    · rw [ptrAt_lt hlt] at hbv
      subst hbv
      obtain ⟨g, rfl⟩ : ∃ g, gk = g + 1 := ⟨gk - 1, by omega⟩
      have hi2 : i + 1 + g = bl.length := by omega
      have HI := Lib.hid hi2
      obtain ⟨hc1, hc2⟩ := HC.out.2 i hlt
      have hrb := HR.out i
      obtain ⟨c, hc⟩ : ∃ c, chs 3 (fun i : Nat => rs[i]?.getD 0) x i = c := ⟨_, rfl⟩
      have HN := Lib.hid (chs_next hc)
      rw [hc] at hcv
      have HCC := Lib.hid hc
      clear hc
      generalize hv : rs[i]?.getD 0 = y at hc1 hrb
      have HV := Lib.hid hv
      generalize hpn : ptrAt bl (i + 1) = pn at hc2
      have HPN := Lib.hid hpn.symm
      generalize hba : bl[i] = b at hc1 hc2
      have HBA := Lib.hid hba
      clear hba
      clear hv hpn hi hi2
      by_cases hf : x ≤ y
      case neg =>
        have HM : Hid (u7 = chV bl (chs 3 (fun i : Nat => rs[i]?.getD 0) x (i + 1))) := by
          show _ = _
          rw [HN.out]
          unfold chStep
          rw [if_neg (by decide), if_neg (by show ¬ x ≤ rs[i]?.getD 0; rw [HV.out]; exact hf)]; exact hcv
        have hd : decide (x ≤ y) = false := decide_eq_false hf
        clear hcv
        go_wp2_with fail
        go_quiet (fail)
        go_wp2
        go_roundg g
        case rel => exact ⟨i + 1, n + nq, HI.out, HPN.out, HM, by simp⟩
        case measure => omega
      have hd : decide (x ≤ y) = true := decide_eq_true hf
      cases c with
      | none =>
        rw [chV_none] at hcv
        subst hcv
        have HM : Hid (Value.pointer (some ⟨b, 0, none⟩) = chV bl (chs 3 (fun i : Nat => rs[i]?.getD 0) x (i + 1))) := by
          show _ = _
          rw [HN.out]
          unfold chStep
          rw [if_neg (by decide), if_pos (by show x ≤ rs[i]?.getD 0; rw [HV.out]; exact hf)]
          show _ = ptrAt bl i
          rw [ptrAt_lt hlt, HBA.out]
        go_wp2_with fail
        go_quiet (fail)
        go_wp2
        go_roundg g
        case rel => exact ⟨i + 1, n + nq, HI.out, HPN.out, HM, by simp⟩
        case measure => omega
      | some j =>
        have hj := (chs_some HCC.out).1
        rw [chV_some, ptrAt_lt (by omega)] at hcv
        subst hcv
        have hcj := (HC.out.2 j (by omega)).1
        have hrj := HR.out j
        generalize hvj : rs[j]?.getD 0 = yj at hcj hrj
        have HVJ := Lib.hid hvj
        clear hvj
        by_cases hly : yj < y
        · have HM : Hid (Value.pointer (some ⟨b, 0, none⟩) = chV bl (chs 3 (fun i : Nat => rs[i]?.getD 0) x (i + 1))) := by
            show _ = _
            rw [HN.out]
            unfold chStep
            rw [if_neg (by decide), if_pos (by show x ≤ rs[i]?.getD 0; rw [HV.out]; exact hf)]
            show _ = chV bl (if _ then _ else _)
            rw [if_pos (.inr ⟨rfl, by show rs[j]?.getD 0 < rs[i]?.getD 0; rw [HV.out, HVJ.out]; exact hly⟩), chV_some, ptrAt_lt hlt, HBA.out]
          have hd2 : decide (yj < y) = true := decide_eq_true hly
          generalize bl[j] = bj at hcj
          go_wp2_with fail
          go_quiet (fail)
          go_wp2
          go_roundg g
          case rel => exact ⟨i + 1, n + nq, HI.out, HPN.out, HM, by simp⟩
          case measure => omega
        · have HM : Hid (Value.pointer (some ⟨bl[j], 0, none⟩) = chV bl (chs 3 (fun i : Nat => rs[i]?.getD 0) x (i + 1))) := by
            show _ = _
            rw [HN.out]
            unfold chStep
            rw [if_neg (by decide), if_pos (by show x ≤ rs[i]?.getD 0; rw [HV.out]; exact hf)]
            show _ = chV bl (if _ then _ else _)
            rw [if_neg (by
              rintro (⟨h1, h2⟩ | ⟨h1, h2⟩)
              · omega
              · change rs[j]?.getD 0 < rs[i]?.getD 0 at h2; rw [HV.out, HVJ.out] at h2; exact hly h2), chV_some, ptrAt_lt (by omega)]
          have hd2 : decide (yj < y) = false := decide_eq_false hly
          generalize bl[j] = bj at hcj HM
          go_wp2_with fail
          go_quiet (fail)
          go_wp2
          go_roundg g
          case rel => exact ⟨i + 1, n + nq, HI.out, HPN.out, HM, by simp⟩
          case measure => omega
    · have HE : Hid (chs 3 (fun i : Nat => rs[i]?.getD 0) x i = chs 3 (fun i : Nat => rs[i]?.getD 0) x bl.length) := by
        have : i = bl.length := by omega
        subst this; rfl
      rw [ptrAt_ge (by omega)] at hbv
      subst hbv
      have HCV := Lib.hid hcv
      clear hcv
      go_wp2
      go_ret
      exact ⟨by rw [HCV.out, HE.out]; rfl, n, rfl⟩
end Go.Proofs.Ytmggcfilkiklbaa
namespace Go.Proofs.Ytmggcfilkiklbaa
open Go.RowKit

def ruleV : Nat → Value
  | 0 => .iface 69 (.agg #[])
  | 1 => .iface 70 (.agg #[])
  | 2 => .iface 71 (.agg #[])
  | _ => .iface 72 (.agg #[])
def codeN : Nat → Int
  | 0 => 110
  | 1 => 102
  | 2 => 98
  | _ => 119
/-- a letter's rule and whether it is a capital one, or none -/
def ruleO (o : Option (Nat × Bool)) : Value := match o with
  | some (r, _) => ruleV r
  | none => .nilIface
def capO (o : Option (Nat × Bool)) : Bool := match o with
  | some (_, c) => c
  | none => false
def codeO (o : Option (Nat × Bool)) : Int := match o with
  | some (r, c) => if c = true then codeN r - 32 else codeN r
  | none => 0
def RulePost (w : World) (o : Option (Nat × Bool)) (e : Ending) (w' : World) : Prop := e = .returned (.tuple #[ruleO o, .bool (capO o), .bool o.isSome]) ∧ Below w.heap.size w w'
def RefPost (w : World) (o : Option (Nat × Bool)) (e : Ending) (w' : World) : Prop := e = .returned (.int .u8 (codeO o)) ∧ ∃ n, w' = w.drewN n
/-- what is known of a letter -/
structure Ltr (lt : ByteArray) (o : Option (Nat × Bool)) : Prop where
  small : ∀ r c, o = some (r, c) → r ≤ 3
  rule : ∀ w, Calls Try.prog 31 #[.string lt] w (RulePost w o)
  ref : ∀ w, Calls Try.prog 20 #[.string lt] w (RefPost w o)
  isN : (lt = ⟨#[110]⟩ ∨ lt = ⟨#[78]⟩) ↔ ∃ c, o = some (0, c)
theorem mL0 (w : World) : (Go.method 197 69 (.agg #[]) "loop.example/chosensums/impl.letter").run Try.prog w = .ok (64, .agg #[]) w := by kernel_rfl
theorem mL1 (w : World) : (Go.method 197 70 (.agg #[]) "loop.example/chosensums/impl.letter").run Try.prog w = .ok (65, .agg #[]) w := by kernel_rfl
theorem mL2 (w : World) : (Go.method 197 71 (.agg #[]) "loop.example/chosensums/impl.letter").run Try.prog w = .ok (66, .agg #[]) w := by kernel_rfl
theorem mL3 (w : World) : (Go.method 197 72 (.agg #[]) "loop.example/chosensums/impl.letter").run Try.prog w = .ok (67, .agg #[]) w := by kernel_rfl
attribute [local go_sem] mL0 mL1 mL2 mL3
theorem letter0 (w : World) : Calls Try.prog 64 #[.agg #[]] w fun e w' => e = .returned (.int .u8 110) ∧ w' = w.alloc (.cells #[] 69) := by
  go_enter Try.func64, Try.ntmps64
  go_wp2
  go_ret
  exact ⟨rfl, rfl⟩
theorem letter1 (w : World) : Calls Try.prog 65 #[.agg #[]] w fun e w' => e = .returned (.int .u8 102) ∧ w' = w.alloc (.cells #[] 70) := by
  go_enter Try.func65, Try.ntmps65
  go_wp2
  go_ret
  exact ⟨rfl, rfl⟩
theorem letter2 (w : World) : Calls Try.prog 66 #[.agg #[]] w fun e w' => e = .returned (.int .u8 98) ∧ w' = w.alloc (.cells #[] 71) := by
  go_enter Try.func66, Try.ntmps66
  go_wp2
  go_ret
  exact ⟨rfl, rfl⟩
theorem letter3 (w : World) : Calls Try.prog 67 #[.agg #[]] w fun e w' => e = .returned (.int .u8 119) ∧ w' = w.alloc (.cells #[] 72) := by
  go_enter Try.func67, Try.ntmps67
  go_wp2
  go_ret
  exact ⟨rfl, rfl⟩

set_option maxHeartbeats 3200000 in
theorem rule_110 (w : World) : Calls Try.prog 31 #[.string ⟨#[110]⟩] w (RulePost w (some (0, false))) := by
  go_enter Try.func31, Try.ntmps31
  go_wp2
  refine wp_loop_rounds 5 ?_
  rw [rounds_succ]
  go_wp2_with (first | (go_at_call 64; refine (letter0 _).mono ?_; rintro e w' ⟨rfl, rfl⟩) | (go_at_call 65; refine (letter1 _).mono ?_; rintro e w' ⟨rfl, rfl⟩) | (go_at_call 66; refine (letter2 _).mono ?_; rintro e w' ⟨rfl, rfl⟩) | (go_at_call 67; refine (letter3 _).mono ?_; rintro e w' ⟨rfl, rfl⟩))
  go_quiet (fail)
  go_wp2
  refine bodyPost_ret (v := .tuple #[.iface 69 (.agg #[]), .bool false, .bool true]) (by simp [results, Try.f31, go_sem] <;> first | rfl | decide) rfl ?_
  exact ⟨rfl, (by repeat (first | exact Below.refl _ _ | refine belowDr ?_ _ | refine Below.alloc ?_ (by simp <;> omega) _))⟩

set_option maxHeartbeats 3200000 in
theorem rule_102 (w : World) : Calls Try.prog 31 #[.string ⟨#[102]⟩] w (RulePost w (some (1, false))) := by
  go_enter Try.func31, Try.ntmps31
  go_wp2
  refine wp_loop_rounds 5 ?_
  rw [rounds_succ]
  go_wp2_with (first | (go_at_call 64; refine (letter0 _).mono ?_; rintro e w' ⟨rfl, rfl⟩) | (go_at_call 65; refine (letter1 _).mono ?_; rintro e w' ⟨rfl, rfl⟩) | (go_at_call 66; refine (letter2 _).mono ?_; rintro e w' ⟨rfl, rfl⟩) | (go_at_call 67; refine (letter3 _).mono ?_; rintro e w' ⟨rfl, rfl⟩))
  rw [rounds_succ]
  go_wp2_with (first | (go_at_call 64; refine (letter0 _).mono ?_; rintro e w' ⟨rfl, rfl⟩) | (go_at_call 65; refine (letter1 _).mono ?_; rintro e w' ⟨rfl, rfl⟩) | (go_at_call 66; refine (letter2 _).mono ?_; rintro e w' ⟨rfl, rfl⟩) | (go_at_call 67; refine (letter3 _).mono ?_; rintro e w' ⟨rfl, rfl⟩))
  go_quiet (fail)
  go_wp2
  refine bodyPost_ret (v := .tuple #[.iface 70 (.agg #[]), .bool false, .bool true]) (by simp [results, Try.f31, go_sem] <;> first | rfl | decide) rfl ?_
  exact ⟨rfl, (by repeat (first | exact Below.refl _ _ | refine belowDr ?_ _ | refine Below.alloc ?_ (by simp <;> omega) _))⟩

set_option maxHeartbeats 3200000 in
theorem rule_98 (w : World) : Calls Try.prog 31 #[.string ⟨#[98]⟩] w (RulePost w (some (2, false))) := by
  go_enter Try.func31, Try.ntmps31
  go_wp2
  refine wp_loop_rounds 5 ?_
  rw [rounds_succ]
  go_wp2_with (first | (go_at_call 64; refine (letter0 _).mono ?_; rintro e w' ⟨rfl, rfl⟩) | (go_at_call 65; refine (letter1 _).mono ?_; rintro e w' ⟨rfl, rfl⟩) | (go_at_call 66; refine (letter2 _).mono ?_; rintro e w' ⟨rfl, rfl⟩) | (go_at_call 67; refine (letter3 _).mono ?_; rintro e w' ⟨rfl, rfl⟩))
  rw [rounds_succ]
  go_wp2_with (first | (go_at_call 64; refine (letter0 _).mono ?_; rintro e w' ⟨rfl, rfl⟩) | (go_at_call 65; refine (letter1 _).mono ?_; rintro e w' ⟨rfl, rfl⟩) | (go_at_call 66; refine (letter2 _).mono ?_; rintro e w' ⟨rfl, rfl⟩) | (go_at_call 67; refine (letter3 _).mono ?_; rintro e w' ⟨rfl, rfl⟩))
  rw [rounds_succ]
  go_wp2_with (first | (go_at_call 64; refine (letter0 _).mono ?_; rintro e w' ⟨rfl, rfl⟩) | (go_at_call 65; refine (letter1 _).mono ?_; rintro e w' ⟨rfl, rfl⟩) | (go_at_call 66; refine (letter2 _).mono ?_; rintro e w' ⟨rfl, rfl⟩) | (go_at_call 67; refine (letter3 _).mono ?_; rintro e w' ⟨rfl, rfl⟩))
  go_quiet (fail)
  go_wp2
  refine bodyPost_ret (v := .tuple #[.iface 71 (.agg #[]), .bool false, .bool true]) (by simp [results, Try.f31, go_sem] <;> first | rfl | decide) rfl ?_
  exact ⟨rfl, (by repeat (first | exact Below.refl _ _ | refine belowDr ?_ _ | refine Below.alloc ?_ (by simp <;> omega) _))⟩

set_option maxHeartbeats 3200000 in
theorem rule_119 (w : World) : Calls Try.prog 31 #[.string ⟨#[119]⟩] w (RulePost w (some (3, false))) := by
  go_enter Try.func31, Try.ntmps31
  go_wp2
  refine wp_loop_rounds 5 ?_
  rw [rounds_succ]
  go_wp2_with (first | (go_at_call 64; refine (letter0 _).mono ?_; rintro e w' ⟨rfl, rfl⟩) | (go_at_call 65; refine (letter1 _).mono ?_; rintro e w' ⟨rfl, rfl⟩) | (go_at_call 66; refine (letter2 _).mono ?_; rintro e w' ⟨rfl, rfl⟩) | (go_at_call 67; refine (letter3 _).mono ?_; rintro e w' ⟨rfl, rfl⟩))
  rw [rounds_succ]
  go_wp2_with (first | (go_at_call 64; refine (letter0 _).mono ?_; rintro e w' ⟨rfl, rfl⟩) | (go_at_call 65; refine (letter1 _).mono ?_; rintro e w' ⟨rfl, rfl⟩) | (go_at_call 66; refine (letter2 _).mono ?_; rintro e w' ⟨rfl, rfl⟩) | (go_at_call 67; refine (letter3 _).mono ?_; rintro e w' ⟨rfl, rfl⟩))
  rw [rounds_succ]
  go_wp2_with (first | (go_at_call 64; refine (letter0 _).mono ?_; rintro e w' ⟨rfl, rfl⟩) | (go_at_call 65; refine (letter1 _).mono ?_; rintro e w' ⟨rfl, rfl⟩) | (go_at_call 66; refine (letter2 _).mono ?_; rintro e w' ⟨rfl, rfl⟩) | (go_at_call 67; refine (letter3 _).mono ?_; rintro e w' ⟨rfl, rfl⟩))
  rw [rounds_succ]
  go_wp2_with (first | (go_at_call 64; refine (letter0 _).mono ?_; rintro e w' ⟨rfl, rfl⟩) | (go_at_call 65; refine (letter1 _).mono ?_; rintro e w' ⟨rfl, rfl⟩) | (go_at_call 66; refine (letter2 _).mono ?_; rintro e w' ⟨rfl, rfl⟩) | (go_at_call 67; refine (letter3 _).mono ?_; rintro e w' ⟨rfl, rfl⟩))
  go_quiet (fail)
  go_wp2
  refine bodyPost_ret (v := .tuple #[.iface 72 (.agg #[]), .bool false, .bool true]) (by simp [results, Try.f31, go_sem] <;> first | rfl | decide) rfl ?_
  exact ⟨rfl, (by repeat (first | exact Below.refl _ _ | refine belowDr ?_ _ | refine Below.alloc ?_ (by simp <;> omega) _))⟩

set_option maxHeartbeats 3200000 in
theorem rule_78 (w : World) : Calls Try.prog 31 #[.string ⟨#[78]⟩] w (RulePost w (some (0, true))) := by
  go_enter Try.func31, Try.ntmps31
  go_wp2
  refine wp_loop_rounds 5 ?_
  rw [rounds_succ]
  go_wp2_with (first | (go_at_call 64; refine (letter0 _).mono ?_; rintro e w' ⟨rfl, rfl⟩) | (go_at_call 65; refine (letter1 _).mono ?_; rintro e w' ⟨rfl, rfl⟩) | (go_at_call 66; refine (letter2 _).mono ?_; rintro e w' ⟨rfl, rfl⟩) | (go_at_call 67; refine (letter3 _).mono ?_; rintro e w' ⟨rfl, rfl⟩))
  go_quiet (fail)
  go_wp2
  refine bodyPost_ret (v := .tuple #[.iface 69 (.agg #[]), .bool true, .bool true]) (by simp [results, Try.f31, go_sem] <;> first | rfl | decide) rfl ?_
  exact ⟨rfl, (by repeat (first | exact Below.refl _ _ | refine belowDr ?_ _ | refine Below.alloc ?_ (by simp <;> omega) _))⟩

set_option maxHeartbeats 3200000 in
theorem rule_70 (w : World) : Calls Try.prog 31 #[.string ⟨#[70]⟩] w (RulePost w (some (1, true))) := by
  go_enter Try.func31, Try.ntmps31
  go_wp2
  refine wp_loop_rounds 5 ?_
  rw [rounds_succ]
  go_wp2_with (first | (go_at_call 64; refine (letter0 _).mono ?_; rintro e w' ⟨rfl, rfl⟩) | (go_at_call 65; refine (letter1 _).mono ?_; rintro e w' ⟨rfl, rfl⟩) | (go_at_call 66; refine (letter2 _).mono ?_; rintro e w' ⟨rfl, rfl⟩) | (go_at_call 67; refine (letter3 _).mono ?_; rintro e w' ⟨rfl, rfl⟩))
  rw [rounds_succ]
  go_wp2_with (first | (go_at_call 64; refine (letter0 _).mono ?_; rintro e w' ⟨rfl, rfl⟩) | (go_at_call 65; refine (letter1 _).mono ?_; rintro e w' ⟨rfl, rfl⟩) | (go_at_call 66; refine (letter2 _).mono ?_; rintro e w' ⟨rfl, rfl⟩) | (go_at_call 67; refine (letter3 _).mono ?_; rintro e w' ⟨rfl, rfl⟩))
  go_quiet (fail)
  go_wp2
  refine bodyPost_ret (v := .tuple #[.iface 70 (.agg #[]), .bool true, .bool true]) (by simp [results, Try.f31, go_sem] <;> first | rfl | decide) rfl ?_
  exact ⟨rfl, (by repeat (first | exact Below.refl _ _ | refine belowDr ?_ _ | refine Below.alloc ?_ (by simp <;> omega) _))⟩

set_option maxHeartbeats 3200000 in
theorem rule_66 (w : World) : Calls Try.prog 31 #[.string ⟨#[66]⟩] w (RulePost w (some (2, true))) := by
  go_enter Try.func31, Try.ntmps31
  go_wp2
  refine wp_loop_rounds 5 ?_
  rw [rounds_succ]
  go_wp2_with (first | (go_at_call 64; refine (letter0 _).mono ?_; rintro e w' ⟨rfl, rfl⟩) | (go_at_call 65; refine (letter1 _).mono ?_; rintro e w' ⟨rfl, rfl⟩) | (go_at_call 66; refine (letter2 _).mono ?_; rintro e w' ⟨rfl, rfl⟩) | (go_at_call 67; refine (letter3 _).mono ?_; rintro e w' ⟨rfl, rfl⟩))
  rw [rounds_succ]
  go_wp2_with (first | (go_at_call 64; refine (letter0 _).mono ?_; rintro e w' ⟨rfl, rfl⟩) | (go_at_call 65; refine (letter1 _).mono ?_; rintro e w' ⟨rfl, rfl⟩) | (go_at_call 66; refine (letter2 _).mono ?_; rintro e w' ⟨rfl, rfl⟩) | (go_at_call 67; refine (letter3 _).mono ?_; rintro e w' ⟨rfl, rfl⟩))
  rw [rounds_succ]
  go_wp2_with (first | (go_at_call 64; refine (letter0 _).mono ?_; rintro e w' ⟨rfl, rfl⟩) | (go_at_call 65; refine (letter1 _).mono ?_; rintro e w' ⟨rfl, rfl⟩) | (go_at_call 66; refine (letter2 _).mono ?_; rintro e w' ⟨rfl, rfl⟩) | (go_at_call 67; refine (letter3 _).mono ?_; rintro e w' ⟨rfl, rfl⟩))
  go_quiet (fail)
  go_wp2
  refine bodyPost_ret (v := .tuple #[.iface 71 (.agg #[]), .bool true, .bool true]) (by simp [results, Try.f31, go_sem] <;> first | rfl | decide) rfl ?_
  exact ⟨rfl, (by repeat (first | exact Below.refl _ _ | refine belowDr ?_ _ | refine Below.alloc ?_ (by simp <;> omega) _))⟩

set_option maxHeartbeats 3200000 in
theorem rule_87 (w : World) : Calls Try.prog 31 #[.string ⟨#[87]⟩] w (RulePost w (some (3, true))) := by
  go_enter Try.func31, Try.ntmps31
  go_wp2
  refine wp_loop_rounds 5 ?_
  rw [rounds_succ]
  go_wp2_with (first | (go_at_call 64; refine (letter0 _).mono ?_; rintro e w' ⟨rfl, rfl⟩) | (go_at_call 65; refine (letter1 _).mono ?_; rintro e w' ⟨rfl, rfl⟩) | (go_at_call 66; refine (letter2 _).mono ?_; rintro e w' ⟨rfl, rfl⟩) | (go_at_call 67; refine (letter3 _).mono ?_; rintro e w' ⟨rfl, rfl⟩))
  rw [rounds_succ]
  go_wp2_with (first | (go_at_call 64; refine (letter0 _).mono ?_; rintro e w' ⟨rfl, rfl⟩) | (go_at_call 65; refine (letter1 _).mono ?_; rintro e w' ⟨rfl, rfl⟩) | (go_at_call 66; refine (letter2 _).mono ?_; rintro e w' ⟨rfl, rfl⟩) | (go_at_call 67; refine (letter3 _).mono ?_; rintro e w' ⟨rfl, rfl⟩))
  rw [rounds_succ]
  go_wp2_with (first | (go_at_call 64; refine (letter0 _).mono ?_; rintro e w' ⟨rfl, rfl⟩) | (go_at_call 65; refine (letter1 _).mono ?_; rintro e w' ⟨rfl, rfl⟩) | (go_at_call 66; refine (letter2 _).mono ?_; rintro e w' ⟨rfl, rfl⟩) | (go_at_call 67; refine (letter3 _).mono ?_; rintro e w' ⟨rfl, rfl⟩))
  rw [rounds_succ]
  go_wp2_with (first | (go_at_call 64; refine (letter0 _).mono ?_; rintro e w' ⟨rfl, rfl⟩) | (go_at_call 65; refine (letter1 _).mono ?_; rintro e w' ⟨rfl, rfl⟩) | (go_at_call 66; refine (letter2 _).mono ?_; rintro e w' ⟨rfl, rfl⟩) | (go_at_call 67; refine (letter3 _).mono ?_; rintro e w' ⟨rfl, rfl⟩))
  go_quiet (fail)
  go_wp2
  refine bodyPost_ret (v := .tuple #[.iface 72 (.agg #[]), .bool true, .bool true]) (by simp [results, Try.f31, go_sem] <;> first | rfl | decide) rfl ?_
  exact ⟨rfl, (by repeat (first | exact Below.refl _ _ | refine belowDr ?_ _ | refine Below.alloc ?_ (by simp <;> omega) _))⟩

set_option maxHeartbeats 3200000 in
theorem rule_120 (w : World) : Calls Try.prog 31 #[.string ⟨#[120]⟩] w (RulePost w none) := by
  go_enter Try.func31, Try.ntmps31
  go_wp2
  refine wp_loop_rounds 5 ?_
  rw [rounds_succ]
  go_wp2_with (first | (go_at_call 64; refine (letter0 _).mono ?_; rintro e w' ⟨rfl, rfl⟩) | (go_at_call 65; refine (letter1 _).mono ?_; rintro e w' ⟨rfl, rfl⟩) | (go_at_call 66; refine (letter2 _).mono ?_; rintro e w' ⟨rfl, rfl⟩) | (go_at_call 67; refine (letter3 _).mono ?_; rintro e w' ⟨rfl, rfl⟩))
  rw [rounds_succ]
  go_wp2_with (first | (go_at_call 64; refine (letter0 _).mono ?_; rintro e w' ⟨rfl, rfl⟩) | (go_at_call 65; refine (letter1 _).mono ?_; rintro e w' ⟨rfl, rfl⟩) | (go_at_call 66; refine (letter2 _).mono ?_; rintro e w' ⟨rfl, rfl⟩) | (go_at_call 67; refine (letter3 _).mono ?_; rintro e w' ⟨rfl, rfl⟩))
  rw [rounds_succ]
  go_wp2_with (first | (go_at_call 64; refine (letter0 _).mono ?_; rintro e w' ⟨rfl, rfl⟩) | (go_at_call 65; refine (letter1 _).mono ?_; rintro e w' ⟨rfl, rfl⟩) | (go_at_call 66; refine (letter2 _).mono ?_; rintro e w' ⟨rfl, rfl⟩) | (go_at_call 67; refine (letter3 _).mono ?_; rintro e w' ⟨rfl, rfl⟩))
  rw [rounds_succ]
  go_wp2_with (first | (go_at_call 64; refine (letter0 _).mono ?_; rintro e w' ⟨rfl, rfl⟩) | (go_at_call 65; refine (letter1 _).mono ?_; rintro e w' ⟨rfl, rfl⟩) | (go_at_call 66; refine (letter2 _).mono ?_; rintro e w' ⟨rfl, rfl⟩) | (go_at_call 67; refine (letter3 _).mono ?_; rintro e w' ⟨rfl, rfl⟩))
  rw [rounds_succ]
  go_wp2
  refine bodyPost_ret (v := .tuple #[.nilIface, .bool false, .bool false]) (by simp [results, Try.f31, go_sem] <;> first | rfl | decide) rfl ?_
  exact ⟨rfl, (by repeat (first | exact Below.refl _ _ | refine belowDr ?_ _ | refine Below.alloc ?_ (by simp <;> omega) _))⟩
set_option maxHeartbeats 3200000 in
theorem rule_ff (w : World) : Calls Try.prog 31 #[.string ⟨#[102, 102]⟩] w (RulePost w none) := by
  go_enter Try.func31, Try.ntmps31
  go_wp2
  refine bodyPost_ret (v := .tuple #[.nilIface, .bool false, .bool false]) (by simp [results, Try.f31, go_sem] <;> first | rfl | decide) rfl ?_
  exact ⟨rfl, Below.refl _ _⟩

set_option maxHeartbeats 3200000 in
theorem ref_110 (w : World) : Calls Try.prog 20 #[.string ⟨#[110]⟩] w (RefPost w (some (0, false))) := by
  go_enter Try.func20, Try.ntmps20
  go_wp2
  refine wp_loop_rounds 9 ?_
  rw [rounds_succ]
  go_wp2_with fail
  go_quiet (fail)
  go_wp2
  go_ret
  exact ⟨rfl, ⟨_, rfl⟩⟩

set_option maxHeartbeats 3200000 in
theorem ref_102 (w : World) : Calls Try.prog 20 #[.string ⟨#[102]⟩] w (RefPost w (some (1, false))) := by
  go_enter Try.func20, Try.ntmps20
  go_wp2
  refine wp_loop_rounds 9 ?_
  rw [rounds_succ]
  go_wp2_with fail
  go_quiet (fail)
  go_wp2
  rw [rounds_succ]
  go_wp2_with fail
  go_quiet (fail)
  go_wp2
  go_ret
  exact ⟨rfl, ⟨_, rfl⟩⟩

set_option maxHeartbeats 3200000 in
theorem ref_98 (w : World) : Calls Try.prog 20 #[.string ⟨#[98]⟩] w (RefPost w (some (2, false))) := by
  go_enter Try.func20, Try.ntmps20
  go_wp2
  refine wp_loop_rounds 9 ?_
  rw [rounds_succ]
  go_wp2_with fail
  go_quiet (fail)
  go_wp2
  rw [rounds_succ]
  go_wp2_with fail
  go_quiet (fail)
  go_wp2
  rw [rounds_succ]
  go_wp2_with fail
  go_quiet (fail)
  go_wp2
  go_ret
  exact ⟨rfl, ⟨_, rfl⟩⟩

set_option maxHeartbeats 3200000 in
theorem ref_119 (w : World) : Calls Try.prog 20 #[.string ⟨#[119]⟩] w (RefPost w (some (3, false))) := by
  go_enter Try.func20, Try.ntmps20
  go_wp2
  refine wp_loop_rounds 9 ?_
  rw [rounds_succ]
  go_wp2_with fail
  go_quiet (fail)
  go_wp2
  rw [rounds_succ]
  go_wp2_with fail
  go_quiet (fail)
  go_wp2
  rw [rounds_succ]
  go_wp2_with fail
  go_quiet (fail)
  go_wp2
  rw [rounds_succ]
  go_wp2_with fail
  go_quiet (fail)
  go_wp2
  go_ret
  exact ⟨rfl, ⟨_, rfl⟩⟩

set_option maxHeartbeats 3200000 in
theorem ref_78 (w : World) : Calls Try.prog 20 #[.string ⟨#[78]⟩] w (RefPost w (some (0, true))) := by
  go_enter Try.func20, Try.ntmps20
  go_wp2
  refine wp_loop_rounds 9 ?_
  rw [rounds_succ]
  go_wp2_with fail
  go_quiet (fail)
  go_wp2
  rw [rounds_succ]
  go_wp2_with fail
  go_quiet (fail)
  go_wp2
  rw [rounds_succ]
  go_wp2_with fail
  go_quiet (fail)
  go_wp2
  rw [rounds_succ]
  go_wp2_with fail
  go_quiet (fail)
  go_wp2
  rw [rounds_succ]
  go_wp2_with fail
  go_quiet (fail)
  go_wp2
  go_ret
  exact ⟨rfl, ⟨_, rfl⟩⟩

set_option maxHeartbeats 3200000 in
theorem ref_70 (w : World) : Calls Try.prog 20 #[.string ⟨#[70]⟩] w (RefPost w (some (1, true))) := by
  go_enter Try.func20, Try.ntmps20
  go_wp2
  refine wp_loop_rounds 9 ?_
  rw [rounds_succ]
  go_wp2_with fail
  go_quiet (fail)
  go_wp2
  rw [rounds_succ]
  go_wp2_with fail
  go_quiet (fail)
  go_wp2
  rw [rounds_succ]
  go_wp2_with fail
  go_quiet (fail)
  go_wp2
  rw [rounds_succ]
  go_wp2_with fail
  go_quiet (fail)
  go_wp2
  rw [rounds_succ]
  go_wp2_with fail
  go_quiet (fail)
  go_wp2
  rw [rounds_succ]
  go_wp2_with fail
  go_quiet (fail)
  go_wp2
  go_ret
  exact ⟨rfl, ⟨_, rfl⟩⟩

set_option maxHeartbeats 3200000 in
theorem ref_66 (w : World) : Calls Try.prog 20 #[.string ⟨#[66]⟩] w (RefPost w (some (2, true))) := by
  go_enter Try.func20, Try.ntmps20
  go_wp2
  refine wp_loop_rounds 9 ?_
  rw [rounds_succ]
  go_wp2_with fail
  go_quiet (fail)
  go_wp2
  rw [rounds_succ]
  go_wp2_with fail
  go_quiet (fail)
  go_wp2
  rw [rounds_succ]
  go_wp2_with fail
  go_quiet (fail)
  go_wp2
  rw [rounds_succ]
  go_wp2_with fail
  go_quiet (fail)
  go_wp2
  rw [rounds_succ]
  go_wp2_with fail
  go_quiet (fail)
  go_wp2
  rw [rounds_succ]
  go_wp2_with fail
  go_quiet (fail)
  go_wp2
  rw [rounds_succ]
  go_wp2_with fail
  go_quiet (fail)
  go_wp2
  go_ret
  exact ⟨rfl, ⟨_, rfl⟩⟩

set_option maxHeartbeats 3200000 in
theorem ref_87 (w : World) : Calls Try.prog 20 #[.string ⟨#[87]⟩] w (RefPost w (some (3, true))) := by
  go_enter Try.func20, Try.ntmps20
  go_wp2
  refine wp_loop_rounds 9 ?_
  rw [rounds_succ]
  go_wp2_with fail
  go_quiet (fail)
  go_wp2
  rw [rounds_succ]
  go_wp2_with fail
  go_quiet (fail)
  go_wp2
  rw [rounds_succ]
  go_wp2_with fail
  go_quiet (fail)
  go_wp2
  rw [rounds_succ]
  go_wp2_with fail
  go_quiet (fail)
  go_wp2
  rw [rounds_succ]
  go_wp2_with fail
  go_quiet (fail)
  go_wp2
  rw [rounds_succ]
  go_wp2_with fail
  go_quiet (fail)
  go_wp2
  rw [rounds_succ]
  go_wp2_with fail
  go_quiet (fail)
  go_wp2
  rw [rounds_succ]
  go_wp2_with fail
  go_quiet (fail)
  go_wp2
  go_ret
  exact ⟨rfl, ⟨_, rfl⟩⟩

set_option maxHeartbeats 3200000 in
theorem ref_120 (w : World) : Calls Try.prog 20 #[.string ⟨#[120]⟩] w (RefPost w none) := by
  go_enter Try.func20, Try.ntmps20
  go_wp2
  refine wp_loop_rounds 9 ?_
  rw [rounds_succ]
  go_wp2_with fail
  go_quiet (fail)
  go_wp2
  rw [rounds_succ]
  go_wp2_with fail
  go_quiet (fail)
  go_wp2
  rw [rounds_succ]
  go_wp2_with fail
  go_quiet (fail)
  go_wp2
  rw [rounds_succ]
  go_wp2_with fail
  go_quiet (fail)
  go_wp2
  rw [rounds_succ]
  go_wp2_with fail
  go_quiet (fail)
  go_wp2
  rw [rounds_succ]
  go_wp2_with fail
  go_quiet (fail)
  go_wp2
  rw [rounds_succ]
  go_wp2_with fail
  go_quiet (fail)
  go_wp2
  rw [rounds_succ]
  go_wp2_with fail
  go_quiet (fail)
  go_wp2
  rw [rounds_succ]
  go_wp2
  go_ret
  exact ⟨rfl, ⟨_, rfl⟩⟩
theorem ref_ff (w : World) : Calls Try.prog 20 #[.string ⟨#[102, 102]⟩] w (RefPost w none) := by
  go_enter Try.func20, Try.ntmps20
  go_wp2
  go_ret
  exact ⟨rfl, 0, rfl⟩
theorem ltr_110 : Ltr ⟨#[110]⟩ (some (0, false)) where
  small := fun r c h => by cases h; decide
  rule := rule_110
  ref := ref_110
  isN := ⟨fun _ => ⟨_, rfl⟩, fun _ => .inl rfl⟩
theorem ltr_102 : Ltr ⟨#[102]⟩ (some (1, false)) where
  small := fun r c h => by cases h; decide
  rule := rule_102
  ref := ref_102
  isN := by
    constructor
    · intro h; rcases h with h | h <;> exact absurd h (by decide)
    · rintro ⟨c, h⟩; cases h
theorem ltr_98 : Ltr ⟨#[98]⟩ (some (2, false)) where
  small := fun r c h => by cases h; decide
  rule := rule_98
  ref := ref_98
  isN := by
    constructor
    · intro h; rcases h with h | h <;> exact absurd h (by decide)
    · rintro ⟨c, h⟩; cases h
theorem ltr_119 : Ltr ⟨#[119]⟩ (some (3, false)) where
  small := fun r c h => by cases h; decide
  rule := rule_119
  ref := ref_119
  isN := by
    constructor
    · intro h; rcases h with h | h <;> exact absurd h (by decide)
    · rintro ⟨c, h⟩; cases h
theorem ltr_78 : Ltr ⟨#[78]⟩ (some (0, true)) where
  small := fun r c h => by cases h; decide
  rule := rule_78
  ref := ref_78
  isN := ⟨fun _ => ⟨_, rfl⟩, fun _ => .inr rfl⟩
theorem ltr_70 : Ltr ⟨#[70]⟩ (some (1, true)) where
  small := fun r c h => by cases h; decide
  rule := rule_70
  ref := ref_70
  isN := by
    constructor
    · intro h; rcases h with h | h <;> exact absurd h (by decide)
    · rintro ⟨c, h⟩; cases h
theorem ltr_66 : Ltr ⟨#[66]⟩ (some (2, true)) where
  small := fun r c h => by cases h; decide
  rule := rule_66
  ref := ref_66
  isN := by
    constructor
    · intro h; rcases h with h | h <;> exact absurd h (by decide)
    · rintro ⟨c, h⟩; cases h
theorem ltr_87 : Ltr ⟨#[87]⟩ (some (3, true)) where
  small := fun r c h => by cases h; decide
  rule := rule_87
  ref := ref_87
  isN := by
    constructor
    · intro h; rcases h with h | h <;> exact absurd h (by decide)
    · rintro ⟨c, h⟩; cases h
theorem ltr_120 : Ltr ⟨#[120]⟩ none where
  small := fun r c h => by cases h
  rule := rule_120
  ref := ref_120
  isN := by
    constructor
    · intro h; rcases h with h | h <;> exact absurd h (by decide)
    · rintro ⟨c, h⟩; cases h
theorem ltr_ff : Ltr ⟨#[102, 102]⟩ none where
  small := fun r c h => by cases h
  rule := rule_ff
  ref := ref_ff
  isN := by
    constructor
    · intro h; rcases h with h | h <;> exact absurd h (by decide)
    · rintro ⟨c, h⟩; cases h

/-- a list and a size are drawn; the reader lies in block Br -/
def BinsDrawn (w : World) (Br : Nat) (a : Option Addr) (len cap : Nat) (e : Ending) (w' : World) : Prop :=
  ∃ v zs q p, e = .returned (.tuple #[v, .int .i64 q]) ∧ DrI w w' Br a len cap p v zs ∧ zs.length ≤ 9 ∧ okDrawn zs ∧ 0 ≤ q ∧ q ≤ 101 ∧ 0 ≤ p ∧ p ≤ 100
theorem pick3 {w : World} {b : Nat} {x : Int} (hb : b < w.heap.size) (h : w.heap[b]? = some (.cells #[.int .i64 0, .int .i64 101, .int .i64 5] 3 (0, 0))) (h0 : 0 ≤ x) (h1 : x < 3 ∨ x = 0) : ∃ q : Int, w.cell? ⟨b, x.toNat, none⟩ = some (.int .i64 q) ∧ 0 ≤ q ∧ q ≤ 101 := by
  have : x = 0 ∨ x = 1 ∨ x = 2 := by omega
  rcases this with rfl | rfl | rfl
  · exact ⟨0, by simp [World.cell?, h], by omega, by omega⟩
  · exact ⟨101, by simp [World.cell?, h], by omega, by omega⟩
  · exact ⟨5, by simp [World.cell?, h], by omega, by omega⟩
end Go.Proofs.Ytmggcfilkiklbaa
