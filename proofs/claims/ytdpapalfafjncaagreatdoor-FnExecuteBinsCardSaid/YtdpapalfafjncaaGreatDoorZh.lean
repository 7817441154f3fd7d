/- What the words of the script do on the desk: renew, half, total. Conditions: stated in each. A line of the script on the desk: a word without a rest. Conditions: stated in each. A script whose lines are known: what Execute answers. Conditions: the lines run as told. The texts that the law makes itself: digits, spaced. Conditions: stated in each. The text of numbers with blanks that the law makes: spaced. Conditions: stated in each. -/
import Derived.RangeFuncBox
import Derived.Test.YtdpapalfafjncaaGreatDoorZb
import Derived.Test.YtdpapalfafjncaaGreatDoorZc
import Derived.Test.YtdpapalfafjncaaGreatDoorZg
import Derived.Deep.RegionWith
import Derived.Laws.IdiomStrings
import Derived.Laws.IdiomCopy
set_option linter.unusedVariables false
set_option linter.unusedSimpArgs false
set_option linter.unusedSectionVars false
namespace Go.Proofs.YtdpapalfafjncaaGreatDoor
open Go.RowKit Go.Shelf

theorem dgs_dec (n : Nat) : Lib.decDigits n = dgs n := by
  induction n using Nat.strongRecOn with
  | ind n ih =>
    by_cases h : n < 10
    · rw [Lib.decDigits, dif_pos h, dgs_lt h]
    · rw [Lib.decDigits, dif_neg h, dgs_ge h, ih (n / 10) (by omega)]
theorem itoa_dgs {v : Int} (h : 0 ≤ v) : Lib.itoa v = dgs v.toNat := by rw [Lib.itoa, if_neg (by omega), dgs_dec]
/-- the library's table of powers of ten lies as the row says -/
def Pow10 (w : World) : Prop := Lib.TabIs Tryz.prog w "internal/strconv.uint64pow10" .u64 Lib.pow10Tab
theorem tab_below {P : Program} {w w' : World} {name : String} {k : IntKind} {zs : List Int} (h : Lib.TabIs P w name k zs) (hb : Below w.heap.size w w') : Lib.TabIs P w' name k zs := by
  unfold Lib.TabIs World.var? at *
  cases hg : P.globalNamed name with
  | none => rw [hg] at h; cases h
  | some g =>
    rw [hg] at h
    simp only [Option.bind_some] at h ⊢
    have hlt : g < w.heap.size := by
      rcases Nat.lt_or_ge g w.heap.size with h1 | h1
      · exact h1
      · rw [Array.getElem?_eq_none h1] at h; cases h
    rw [hb.block g hlt]
    exact h
theorem Pow10.below {w w' : World} (h : Pow10 w) (hb : Below w.heap.size w w') : Pow10 w' := tab_below h hb
theorem grow_any (w : World) (k : Nat) (os : Array Obj) : Below w.heap.size w (Go.Sort.grow (w.drewN k) os) :=
  (drewN_below w k w.heap.size).trans ⟨rfl, rfl, rfl, by simp [Go.Sort.grow], fun i hi => by simp only [Go.Sort.grow]; rw [Array.getElem?_append_left (by simpa using hi)]⟩

set_option maxHeartbeats 1600000 in
theorem tellNumber_any (v : Int) (w : World) (h : 0 ≤ v ∧ v ≤ 1000000) (ht : Pow10 w) :
    Calls Tryz.prog 96 #[.int .i64 v, .bool true] w fun e w' => e = .returned (.string ⟨(dgs v.toNat).toArray⟩) ∧ Below w.heap.size w w' := by
  have HI := Lib.hid (Tryz.strconv_Itoa v (by omega) (by omega) w ht)
  simp only [itoa_dgs h.1] at HI
  go_enter Tryz.func96, Tryz.ntmps96
  go_wp2_with fail
  refine HI.out.mono ?_
  rintro e w' ⟨rfl, k, os, rfl⟩
  go_wp2_with fail
  go_ret
  exact ⟨rfl, grow_any w k os⟩

set_option maxHeartbeats 1600000 in
theorem half_any (D : Nat) (a : Option Addr) (cap : Nat) (zs : List Int) (w : World) (hz : inL zs = true) (hD : Boxed w D 41 (.slice a zs.length cap)) (hI : IntsAt w a zs) (ht : Pow10 w) :
    Calls Tryz.prog 63 #[.pointer (some ⟨D, 0, none⟩)] w fun e w' => e = .returned (.string ⟨(dgs (lr zs).toNat).toArray⟩) ∧ Below w.heap.size w w' := by
  have hzl := (inL_iff zs).1 hz
  have c1 := hD.cell
  have HH := Lib.hid (HalfBest_any a cap zs w (by omega) hI)
  rw [lrR, if_pos hz, hz] at HH
  have hb := lr_bd hzl.2
  have htb := tot_bd hzl.2
  clear hz
  go_enter Tryz.func63, Tryz.ntmps63
  go_wp2_with fail
  refine HH.out.mono ?_
  rintro e w1 ⟨rfl, hB⟩
  have HT := Lib.hid (tellNumber_any (lr zs) w1 (by omega) (ht.below hB))
  go_wp2_with fail
  refine HT.out.mono ?_
  rintro e w2 ⟨rfl, hB2⟩
  go_wp2_with fail
  go_ret
  exact ⟨rfl, hB.trans (hB2.mono hB.size)⟩

set_option maxHeartbeats 1600000 in
theorem total_desk (D : Nat) (a : Option Addr) (cap : Nat) (zs : List Int) (w : World) (hz : inL zs = true) (hD : Boxed w D 41 (.slice a zs.length cap)) (hI : IntsAt w a zs) (ht : Pow10 w) :
    Calls Tryz.prog 56 #[.pointer (some ⟨D, 0, none⟩)] w fun e w' => e = .returned (.string ⟨(dgs (tot zs).toNat).toArray⟩) ∧ Below w.heap.size w w' := by
  have hzl := (inL_iff zs).1 hz
  have c1 := hD.cell
  have htb := tot_bd hzl.2
  have HH := Lib.hid (totalOf_any a cap zs w (by omega) hzl.2 hI)
  have HT := Lib.hid (tellNumber_any (tot zs) w (by omega) ht)
  clear hz
  go_enter Tryz.func56, Tryz.ntmps56
  go_wp2_with fail
  refine HH.out.mono ?_
  rintro e w1 ⟨rfl, rfl⟩
  go_wp2_with fail
  refine HT.out.mono ?_
  rintro e w2 ⟨rfl, hB2⟩
  go_wp2_with fail
  go_ret
  exact ⟨rfl, hB2⟩

/-- the desk has the list that it is given -/
def Renewed (D : Nat) (a : Option Addr) (n cap : Nat) (w : World) (e : Ending) (w' : World) : Prop :=
  e = .returned (.string ⟨#[111, 107]⟩) ∧ Boxed w' D 41 (.slice a n cap) ∧ ∃ w1, w' = w1.setCell ⟨D, 0, none⟩ (.slice a n cap) ∧ Below w.heap.size w w1
set_option maxHeartbeats 1600000 in
theorem become_any (D : Nat) (a : Option Addr) (cap : Nat) (zs : List Int) (v : Value) (w : World) (hz : inL zs = true) (hD : Boxed w D 41 v) (hI : IntsAt w a zs) :
    Calls Tryz.prog 93 #[.pointer (some ⟨D, 0, none⟩), .slice a zs.length cap, .bool true] w (Renewed D a zs.length cap w) := by
  have hzl := (inL_iff zs).1 hz
  have c1 := hD.cell
  have f1 := hD.frozen
  have HS := Lib.hid (SumIn_any a cap zs w (by omega) hI)
  rw [hz] at HS
  have HDD := Lib.hid (hD.set (.slice a zs.length cap))
  clear hz hD
  go_enter Tryz.func93, Tryz.ntmps93
  go_wp2_with fail
  refine HS.out.mono ?_
  rintro e w1 ⟨rfl, rfl⟩
  go_wp2_with fail
  go_ret
  exact ⟨rfl, HDD.out, w, rfl, Below.refl _ _⟩
end Go.Proofs.YtdpapalfafjncaaGreatDoor
namespace Go.Proofs.YtdpapalfafjncaaGreatDoor
open Go.RowKit Go.Shelf

set_option maxRecDepth 100000 in
set_option maxHeartbeats 1600000 in
theorem renew_any (D : Nat) (ln wd : ByteArray) (a : Option Addr) (cap : Nat) (zs : List Int) (v : Value) (w : World) (hz : inL zs = true) (hD : Boxed w D 41 v) (hI : IntsAt w a zs) :
    Calls Tryz.prog 70 #[.pointer (some ⟨D, 0, none⟩), .agg #[.string ln, .string wd, .slice a zs.length cap]] w (Renewed D a zs.length cap w) := by
  have hB : Below w.heap.size w (w.alloc (.cells #[.string ln, .string wd, .slice a zs.length cap] 72)) := (Below.refl _ w).alloc (Nat.le_refl _) _
  have HR := Lib.hid (become_any D a cap zs v (w.alloc (.cells #[.string ln, .string wd, .slice a zs.length cap] 72)) hz (hD.alloc _) (hI.below hB))
  clear hz hD hI
  go_enter Tryz.func70, Tryz.ntmps70
  go_wp2_with fail
  refine HR.out.mono ?_
  rintro e w1 ⟨rfl, hbx, w2, rfl, hB2⟩
  go_wp2_with fail
  go_ret
  exact ⟨rfl, hbx, w2, rfl, hB.trans (hB2.mono (by simp))⟩

theorem _root_.Go.Boxed.kb2 {W W' : World} {B : Nat} {t : TypeId} {v : Value} (h : Boxed W B t v) (hb : Below W.heap.size W W') : Boxed W' B t v := (hb.block B h.lt).trans h
/-- what is shown of a word without a rest: it leaves the desk, and tells a text -/
def Tells (s : List UInt8) (w : World) (e : Ending) (w' : World) : Prop := e = .returned (.string ⟨s.toArray⟩) ∧ Below w.heap.size w w'

set_option maxRecDepth 100000 in
set_option maxHeartbeats 3200000 in
/-- a word without a rest that is there -/
theorem run_bare (D : Nat) (wd L : List UInt8) (f : Nat) (w : World) (h32 : (32 : UInt8) ∉ wd) (hent : ∀ args w, (callFunc f args).run Tryz.prog w = .ok (.enter f args) w)
    (hbw : ∀ w, Calls Tryz.prog 42 #[.string ⟨wd.toArray⟩] w fun e w' => e = .returned (.tuple #[.func (.func f) #[] #[], .bool true]) ∧ Below w.heap.size w w')
    (hcall : ∀ W, Below w.heap.size w W → Calls Tryz.prog f #[.pointer (some ⟨D, 0, none⟩)] W (Tells L W)) :
    Calls Tryz.prog 24 #[.pointer (some ⟨D, 0, none⟩), .string ⟨wd.toArray⟩] w (Tells L w) := by
  have hmf : ∀ (fn : Fn) (first cap : Array Value) (w : World), (Instr.makeFunc fn first cap).run Tryz.prog w = .ok (.func fn first cap) w := fun _ _ _ _ => rfl
  have b0 := Boxed.new w 9 (.string ⟨#[]⟩)
  have hB0 : Below w.heap.size w (w.alloc (.cells #[.string ⟨#[]⟩] 9)) := (Below.refl _ w).alloc (Nat.le_refl _) _
  have HCut := Lib.hid (Cut_none wd 32 (w.alloc (.cells #[.string ⟨#[]⟩] 9)) h32)
  have HBW := Lib.hid hbw
  have HCA := Lib.hid hcall
  clear hbw hcall
  generalize hwd : (⟨wd.toArray⟩ : ByteArray) = W0 at *
  clear hwd
  go_enter_defers Tryz.func24, Tryz.ntmps24
  go_wp2_with fail
  refine HCut.out.mono ?_
  rintro e w1 ⟨rfl, rfl⟩
  go_wp2_with fail
  refine (HBW.out _).mono ?_
  rintro e w2 ⟨rfl, hB2⟩
  have b2 := b0.kb2 hB2
  have hB02 := hB0.trans (hB2.mono (by simp))
  have HH := Lib.hid (HCA.out w2 hB02)
  clear hB2 b0 hB0
  go_wp2_with fail
  refine HH.out.mono ?_
  rintro e w3 ⟨rfl, hB3⟩
  have b3 := b2.kb2 hB3
  have hB03 := hB02.trans (hB3.mono hB02.size)
  have c3 := b3.cell
  have f3 := b3.frozen
  have b4 := b3.set (.string ⟨L.toArray⟩)
  have c4 := b4.cell
  clear HH b2 hB3 hB02
  go_wp2_with fail
  refine leaves_cons (f := 41) (args := #[.pointer (some ⟨w.heap.size, 0, none⟩)]) (by simp) (by simp [go_sem]) ?_
  refine (caught_idle ⟨w.heap.size, 0, none⟩ _).mono ?_
  rintro e u' w'' ⟨rfl, rfl, rfl⟩
  simp [Leaves, settle, results, Tryz.results24, go_sem, c4]
  exact ⟨rfl, hB03.setCell (p := ⟨w.heap.size, 0, none⟩) (Nat.le_refl _) _⟩

theorem run_half (D : Nat) (a : Option Addr) (cap : Nat) (zs : List Int) (w : World) (hz : inL zs = true) (hD : Boxed w D 41 (.slice a zs.length cap)) (hI : IntsAt w a zs) (ht : Pow10 w) :
    Calls Tryz.prog 24 #[.pointer (some ⟨D, 0, none⟩), .string ⟨#[104, 97, 108, 102]⟩] w (Tells (dgs (lr zs).toNat) w) :=
  run_bare D [104, 97, 108, 102] _ 63 w (by decide) (enters_of Tryz.func63 (by kernel_rfl) rfl) bareWord_half fun W hW => half_any D a cap zs W hz (hD.kb2 hW) (hI.below hW) (ht.below hW)
theorem run_total (D : Nat) (a : Option Addr) (cap : Nat) (zs : List Int) (w : World) (hz : inL zs = true) (hD : Boxed w D 41 (.slice a zs.length cap)) (hI : IntsAt w a zs) (ht : Pow10 w) :
    Calls Tryz.prog 24 #[.pointer (some ⟨D, 0, none⟩), .string ⟨#[116, 111, 116, 97, 108]⟩] w (Tells (dgs (tot zs).toNat) w) :=
  run_bare D [116, 111, 116, 97, 108] _ 56 w (by decide) (enters_of Tryz.func56 (by kernel_rfl) rfl) bareWord_total fun W hW => total_desk D a cap zs W hz (hD.kb2 hW) (hI.below hW) (ht.below hW)
end Go.Proofs.YtdpapalfafjncaaGreatDoor
namespace Go.Proofs.YtdpapalfafjncaaGreatDoor
open Go.RowKit Go.Shelf

theorem builder_kept {B b D : Nat} {bs : List Value} {w w' : World} (h : Lib.IsBuilder 44 5 B b bs w) (hg : w.grownBy w' (some D)) (hD : D < B) : Lib.IsBuilder 44 5 B b bs w' := by
  have key : ∀ {p : Value}, Lib.BuilderAt 44 5 B b p bs w → Lib.BuilderAt 44 5 B b p bs w' := fun {p} h => by
    have hlt := h.lt
    obtain ⟨hB, v, hb, hown, hne⟩ := h
    refine ⟨hB, v, (hg.block b hlt (fun e => by cases e; omega)).trans hb, hown.kept hg (.inr fun e => ?_), hne⟩
    have := (World.ownsRow.lt hown D e).1
    omega
  exact h.elim (fun x => .inl (key x)) (fun x => .inr (key x))
theorem strC (l : List UInt8) : Lib.strCells ⟨l.toArray⟩ = Lib.byteCells l := by rw [Lib.strCells_eq]
def strSz : Value → Nat
  | .string b => b.size
  | _ => 0
/-- what has been told of the lines ahead of k -/
def toldTo (out : Nat → List UInt8) : Nat → List UInt8
  | 0 => []
  | k + 1 => toldTo out k ++ (out k ++ [10])

set_option maxRecDepth 100000 in
set_option maxHeartbeats 6400000 in
theorem Execute_lines (n : Nat) (lin out rest : Nat → List UInt8) (len : Nat) (w : World) (St : Nat → World → Prop)
    (hrest : ∀ k, k < n → rest k = lin k ++ 10 :: rest (k + 1)) (hend : rest n = []) (h10 : ∀ k, k < n → (10 : UInt8) ∉ lin k) (hsz : (rest 0).length ≤ 600) (hszk : ∀ k, k ≤ n → (rest k).length ≤ 600) (hout : ∀ k, k < n → (out k).length ≤ 600) (htold : ∀ k, k ≤ n → (toldTo out k).length ≤ 100000) (hlen : len < 100)
    (hst0 : ∀ W, Boxed W w.heap.size 41 (.slice none 0 0) → Below w.heap.size w W → St 0 W)
    (hkeep : ∀ k W W', St k W → Others (w.heap.size + 1) W W' → Below (w.heap.size + 1) W W' → W.heap.size ≤ W'.heap.size → St k W')
    (hrun : ∀ k, k < n → ∀ W, Below w.heap.size w W → w.heap.size + 2 ≤ W.heap.size → St k W → Calls Tryz.prog 24 #[.pointer (some ⟨w.heap.size, 0, none⟩), .string ⟨(lin k).toArray⟩] W fun e w' => e = .returned (.string ⟨(out k).toArray⟩) ∧ St (k + 1) w' ∧ W.grownBy w' (some w.heap.size))
    (hfin : ∀ W, St n W → ∃ a cap, Boxed W w.heap.size 41 (.slice a len cap)) :
    Calls Tryz.prog 8 #[.string ⟨(rest 0).toArray⟩] w fun e w' => e = .returned (.string ⟨(toldTo out n ++ [110, 117, 109, 98, 101, 114, 115, 32] ++ dgs len ++ [10]).toArray⟩) ∧ Below w.heap.size w w' := by
  have hs0 : (⟨(rest 0).toArray⟩ : ByteArray).size = (rest 0).length := by simp [ByteArray.size]
  have b0 := Boxed.new w 41 (.slice none 0 0)
  have hB0 : Below w.heap.size w (w.alloc (.cells #[.slice none 0 0] 41)) := (Below.refl _ w).alloc (Nat.le_refl _) _
  have hb1 := Lib.fresh_isBuilder 44 5 (w.alloc (.cells #[.slice none 0 0] 41))
  rw [World.size_alloc] at hb1
  have hS0 := hst0 _ (b0.alloc (.cells #[.pointer none, .slice none 0 0] 44)) (hB0.alloc (by simp) _)
  have hB1 := hB0.alloc (by simp) (.cells #[.pointer none, .slice none 0 0] 44)
  have HK := Lib.hid hkeep
  have HR := Lib.hid hrun
  have HF := Lib.hid hfin
  have HRS := Lib.hid hrest
  have HE := Lib.hid hend
  have H10 := Lib.hid h10
  have HOU := Lib.hid hout
  have HTO := Lib.hid htold
  have HSZ := Lib.hid hszk
  clear hkeep hrun hfin hst0 b0 hB0 hrest hend h10 hout htold hszk
  go_enter Tryz.func8, Tryz.ntmps8
  go_wp2_with fail
  go_loopw [0] (fun t wr => ∃ k : Nat, k ≤ n ∧ t = .string ⟨(rest k).toArray⟩ ∧ Hid (St k wr) ∧ Hid (Lib.IsBuilder 44 5 (w.heap.size + 1) (w.heap.size + 1) (Lib.byteCells (toldTo out k)) wr) ∧ Below w.heap.size w wr ∧ w.heap.size + 2 ≤ wr.heap.size) (fun t _ => strSz t)
  case atStart => exact ⟨0, Nat.zero_le _, rfl, hS0, hb1, hB1, by simp⟩
  case round =>
    obtain ⟨k, hk, rfl, hS, hBd, hB, hsz2⟩ := hrel
    clear hS0 hb1 hB1
    by_cases hlt : k < n
    · have hr := HRS.out k hlt
      have hl1 := HSZ.out k hk
      have hl2 : (lin k).length + (rest (k + 1)).length ≤ 1000000 := by rw [hr] at hl1; simp at hl1; omega
      have HC := Lib.hid (Cut_hit (lin k) (rest (k + 1)) 10 wr (H10.out k hlt) hl2)
      rw [← hr] at HC
      have HLT : Hid ((rest (k + 1)).length < (rest k).length) := by show _ < _; rw [hr]; simp; omega
      clear hr hl1 hl2
      go_wp2_with fail
      refine HC.out.mono ?_
      rintro e w1 ⟨rfl, q, rfl⟩
      have hg1 : Others (w.heap.size + 1) wr (wr.drewN q) := fun _ _ _ _ => rfl
      have hS1 := HK.out k wr (wr.drewN q) hS.out hg1 (drewN_below wr q _) (by simp)
      have HRN := Lib.hid (HR.out k hlt (wr.drewN q) (belowDr hB q) (by simpa using hsz2) hS1)
      have hBd1 : Lib.IsBuilder 44 5 (w.heap.size + 1) (w.heap.size + 1) (Lib.byteCells (toldTo out k)) (wr.drewN q) := hBd.out
      have HBD1 := Lib.hid hBd1
      clear hS1 hg1 hBd1 HC
      go_wp2_with fail
      refine HRN.out.mono ?_
      rintro e w2 ⟨rfl, hS2, hG2⟩
      have hBd2 := builder_kept HBD1.out hG2 (Nat.lt_succ_self _)
      have hB2 := (belowDr hB q).grown hG2 (by simp; omega) (fun j hj => by cases hj; exact Nat.le_refl _)
      have hsz3 : w.heap.size + 2 ≤ w2.heap.size := by have := hG2.size; simp at this; omega
      have ht1 := HTO.out k hk
      have ho1 := HOU.out k hlt
      have HW1 := Lib.hid (WriteString_any (w.heap.size + 1) (w.heap.size + 1) _ ⟨(out k).toArray⟩ w2 hBd2 (by rw [Lib.byteCells_length]; simp [ByteArray.size]; omega) (by omega))
      rw [strC, ← Lib.byteCells_append] at HW1
      have HS2 := Lib.hid hS2
      clear hS2 hG2 hBd2
      go_wp2_with fail
      refine HW1.out.mono ?_
      rintro e w3 ⟨rfl, hBd3, hB3, hO3⟩
      have hz3 := hB3.size
      have hS3 := HK.out (k + 1) w2 w3 HS2.out hO3 hB3 hz3
      have HS3 := Lib.hid hS3
      have hB33 := hB2.trans (hB3.mono (by omega))
      have HW2 := Lib.hid (WriteString_any (w.heap.size + 1) (w.heap.size + 1) _ ⟨#[10]⟩ w3 hBd3 (by rw [Lib.byteCells_length, List.length_append]; simp [ByteArray.size]; omega) (by omega))
      have e10 : Lib.strCells ⟨#[10]⟩ = Lib.byteCells [10] := strC [10]
      rw [e10, ← Lib.byteCells_append, List.append_assoc] at HW2
      clear hBd3 hB3 hO3 hS3 HW1 e10
      go_wp2_with fail
      refine HW2.out.mono ?_
      rintro e w4 ⟨rfl, hBd4, hB4, hO4⟩
      have hz4 := hB4.size
      have HS4 := Lib.hid (HK.out (k + 1) w3 w4 HS3.out hO4 hB4 hz4)
      have HBD4 := Lib.hid hBd4
      have hB44 := hB33.trans (hB4.mono (by omega))
      clear hBd4 hB4 hO4 HW2
      go_wp2_with fail
      go_roundw
      case rel => exact ⟨k + 1, by omega, rfl, HS4, HBD4, hB44, by omega⟩
      case measure => simp only [strSz]; have := HLT.out; simpa [ByteArray.size] using this
    · obtain rfl : k = n := by omega
      have he := HE.out
      rw [he]
      have HC := Lib.hid (Cut_none [] 10 wr (by simp))
      clear he
      go_wp2_with fail
      refine HC.out.mono ?_
      rintro e w1 ⟨rfl, rfl⟩
      have ht1 := HTO.out k hk
      have hz1 : w.heap.size + 1 ≤ w1.heap.size := by omega
      have HW1 := Lib.hid (WriteString_any (w.heap.size + 1) (w.heap.size + 1) _ ⟨[110, 117, 109, 98, 101, 114, 115, 32].toArray⟩ w1 hBd.out (by rw [Lib.byteCells_length]; simp [ByteArray.size]; omega) hz1)
      rw [strC, ← Lib.byteCells_append] at HW1
      clear HC
      go_wp2_with fail
      refine HW1.out.mono ?_
      rintro e w2 ⟨rfl, hBd2, hB2, hO2⟩
      have hS2 := HK.out k w1 w2 hS.out hO2 hB2 hB2.size
      obtain ⟨a, cap, hbx⟩ := HF.out w2 hS2
      have c2 := hbx.cell
      have hB22 := hB.trans (hB2.mono (by omega))
      have hz2 : w.heap.size + 1 ≤ w2.heap.size := by have := hB2.size; omega
      have HIT := Lib.hid (Tryz.strconv_Itoa_small len hlen w2)
      rw [dgs_dec] at HIT
      have HW2 := Lib.hid (WriteString_any (w.heap.size + 1) (w.heap.size + 1) _ ⟨(dgs len).toArray⟩ w2 hBd2 (by rw [Lib.byteCells_length]; have := dgs_len (n := len) (by omega); simp [ByteArray.size]; omega) hz2)
      rw [strC, ← Lib.byteCells_append] at HW2
      clear hBd2 hB2 hO2 hS2 hbx HW1
      go_wp2_with fail
      refine HIT.out.mono ?_
      rintro e w3 ⟨rfl, rfl⟩
      go_wp2_with fail
      refine HW2.out.mono ?_
      rintro e w4 ⟨rfl, hBd4, hB4, _⟩
      have hB44 := hB22.trans (hB4.mono (by omega))
      have hz4 : w.heap.size + 1 ≤ w4.heap.size := by have := hB4.size; omega
      have HW3 := Lib.hid (WriteString_any (w.heap.size + 1) (w.heap.size + 1) _ ⟨[10].toArray⟩ w4 hBd4 (by rw [Lib.byteCells_length]; have := dgs_len (n := len) (by omega); simp [ByteArray.size]; omega) hz4)
      rw [strC, ← Lib.byteCells_append] at HW3
      clear hBd4 hB4 HW2 HIT c2
      go_wp2_with fail
      refine HW3.out.mono ?_
      rintro e w5 ⟨rfl, hBd5, hB5, _⟩
      have hB55 := hB44.trans (hB5.mono (by omega))
      have hz5 : w.heap.size + 1 ≤ w5.heap.size := by have := hB5.size; omega
      have HST := Lib.hid (Tryz.Builder_String_any (w.heap.size + 1) (w.heap.size + 1) _ w5 hBd5 hz5)
      obtain ⟨TX, hTX⟩ : ∃ TX, toldTo out k ++ [110, 117, 109, 98, 101, 114, 115, 32] ++ dgs len ++ [10] = TX := ⟨_, rfl⟩
      have HTX := Lib.hid hTX
      rw [hTX] at HST
      clear hBd5 hB5 HW3 hTX
      go_wp2_with fail
      refine HST.out.mono ?_
      rintro e w6 ⟨rfl, hB6⟩
      go_wp2_with fail
      go_ret
      exact ⟨by rw [HTX.out]; rfl, hB55.trans (hB6.mono (by omega))⟩
end Go.Proofs.YtdpapalfafjncaaGreatDoor
namespace Go.Proofs.YtdpapalfafjncaaGreatDoor
open Go.RowKit

/-- a text of one digit, made of the byte that lies in a block -/
theorem one_digit (W : World) (B d : Nat) (b : UInt8) (hb : UInt8.ofNat (48 + d) = b) (h : d < 10) (hc : W.cell? ⟨B, 0, none⟩ = some (.int .u8 (48 + (d : Int)))) :
    (convert 22 9 (.slice (some ⟨B, 0, none⟩) 1 1)).run Tryz.prog W = .ok (.string ⟨#[b]⟩) W := by
  subst hb
  have e : ((UInt8.ofNat (48 + d)).toNat : Int) = 48 + (d : Int) := by simp only [UInt8.toNat_ofNat']; omega
  refine run_convert_bytes_back W 22 9 5 ⟨B, 0, none⟩ 1 [UInt8.ofNat (48 + d)] Tryz.underlying22 Tryz.underlying5 Tryz.underlying9 fun j hj => ?_
  obtain rfl : j = 0 := by simp at hj; omega
  show W.cell? (Addr.add ⟨B, 0, none⟩ 0) = some (.int .u8 ((UInt8.ofNat (48 + d)).toNat : Int))
  rw [e]
  simpa [Addr.add] using hc

theorem bytes_snoc (l : List UInt8) (b : UInt8) : (⟨l.toArray⟩ : ByteArray) ++ ⟨#[b]⟩ = ⟨(l ++ [b]).toArray⟩ := by
  apply ByteArray.ext
  simp

theorem dgs_le : ∀ (k n : Nat), n < 10 ^ (k + 1) → (dgs n).length ≤ k + 1 := by
  intro k
  induction k with
  | zero => intro n h; rw [dgs_lt (by simpa using h)]; simp
  | succ k ih =>
    intro n h
    by_cases h1 : n < 10
    · rw [dgs_lt h1]; simp
    · have := ih (n / 10) (by rw [Nat.pow_succ] at h; omega)
      rw [dgs_ge h1]
      simp only [List.length_append, List.length_singleton]
      omega

theorem cell_new (w : World) (v : Value) (t : Nat) : (w.alloc (.cells #[v] t)).cell? ⟨w.heap.size, 0, none⟩ = some v := by
  unfold World.cell?
  simp only []
  rw [heap_alloc_new]
  rfl

set_option maxRecDepth 100000 in
set_option maxHeartbeats 3200000 in
theorem digits_any : ∀ (k n : Nat) (w : World), n < 10 ^ (k + 1) → n < 1000000 →
    Calls Tryz.prog 10 #[.int .i64 n] w fun e w' => e = .returned (.string ⟨(dgs n).toArray⟩) ∧ Below w.heap.size w w' := by
  intro k
  induction k with
  | zero =>
    intro n w hn _
    have hn10 : n < 10 := by simpa using hn
    have HD := Lib.hid (dgs_lt hn10)
    obtain ⟨b, hb⟩ : ∃ b, UInt8.ofNat (48 + n) = b := ⟨_, rfl⟩
    rw [hb] at HD
    have hcv := one_digit (w.alloc (.cells #[.int .u8 (48 + (n : Int))] 5)) w.heap.size n b hb hn10 (cell_new w _ _)
    clear hb
    clear hn
    go_enter Tryz.func10, Tryz.ntmps10
    go_wp2
    go_ret
    exact ⟨by rw [HD.out]; rfl, (Below.refl _ _).alloc (Nat.le_refl _) _⟩
  | succ k ih =>
    intro n w hn hm
    by_cases hn10 : n < 10
    · have HD := Lib.hid (dgs_lt hn10)
      obtain ⟨b, hb⟩ : ∃ b, UInt8.ofNat (48 + n) = b := ⟨_, rfl⟩
      rw [hb] at HD
      have hcv := one_digit (w.alloc (.cells #[.int .u8 (48 + (n : Int))] 5)) w.heap.size n b hb hn10 (cell_new w _ _)
      clear hb
      clear hn ih
      go_enter Tryz.func10, Tryz.ntmps10
      go_wp2
      go_ret
      exact ⟨by rw [HD.out]; rfl, (Below.refl _ _).alloc (Nat.le_refl _) _⟩
    · have HD := Lib.hid (dgs_ge hn10)
      have hdiv : n / 10 < 10 ^ (k + 1) := by rw [Nat.pow_succ] at hn; omega
      have HIH : Hid (∀ W, Calls Tryz.prog 10 #[.int .i64 ((n : Int) / 10)] W fun e w' => e = .returned (.string ⟨(dgs (n / 10)).toArray⟩) ∧ Below W.heap.size W w') := fun W => by
        have := ih (n / 10) W hdiv (by omega)
        rwa [show (((n / 10 : Nat)) : Int) = (n : Int) / 10 by omega] at this
      have e1 : (n : Int).tmod 10 = ((n % 10 : Nat) : Int) := by rw [Int.tmod_eq_emod_of_nonneg (by omega)]; omega
      have hr : n % 10 < 10 := Nat.mod_lt _ (by omega)
      revert e1 hr HD
      generalize n % 10 = r
      intro HD e1 hr
      obtain ⟨b, hb⟩ : ∃ b, UInt8.ofNat (48 + r) = b := ⟨_, rfl⟩
      rw [hb] at HD
      have HCV : Hid (∀ W B, W.cell? ⟨B, 0, none⟩ = some (.int .u8 (48 + (r : Int))) → (convert 22 9 (.slice (some ⟨B, 0, none⟩) 1 1)).run Tryz.prog W = .ok (.string ⟨#[b]⟩) W) := fun W B h => one_digit W B r b hb hr h
      clear hb hn ih hdiv
      go_enter Tryz.func10, Tryz.ntmps10
      go_wp2_with fail
      have e2 : (n : Int).tdiv 10 = (n : Int) / 10 := Int.tdiv_eq_ediv_of_nonneg (by omega)
      have e3 : IntKind.i64.wrap ((n : Int) / 10) = (n : Int) / 10 := IntWalk.i64_in _ (by omega)
      have e4 : IntKind.i64.wrap ((r : Int)) = (r : Int) := IntWalk.i64_in _ (by omega)
      have e5 : IntKind.i64.wrap (48 + (r : Int)) = 48 + (r : Int) := IntWalk.i64_in _ (by omega)
      have e6 : IntKind.u8.wrap (48 + (r : Int)) = 48 + (r : Int) := by unfold IntKind.wrap; simp [IntKind.bits, IntKind.signed]; omega
      have hcvA : ∀ (W : World) (B : Nat), W.heap.size = B → (convert 22 9 (.slice (some ⟨B, 0, none⟩) 1 1)).run Tryz.prog (W.alloc (.cells #[.int .u8 (48 + (r : Int))] 5)) = .ok (.string ⟨#[b]⟩) (W.alloc (.cells #[.int .u8 (48 + (r : Int))] 5)) := fun W B h => by subst h; exact HCV.out _ _ (cell_new W _ _)
      have hcvB : ∀ (W : World) (B : Nat), W.heap.size = B → (convert 22 9 (.slice (some ⟨B, 0, none⟩) 1 1)).run Tryz.prog (W.alloc (.cells #[.int .u8 (48 + (r : Int))] 5)).drew = .ok (.string ⟨#[b]⟩) (W.alloc (.cells #[.int .u8 (48 + (r : Int))] 5)).drew := fun W B h => by subst h; exact HCV.out _ _ (cell_new W _ _)
      have hle : ¬ 9223372036854775807 < (dgs (n / 10)).length + 1 := by have := dgs_le 5 (n / 10) (by simp only [Nat.reduceAdd, Nat.reducePow]; omega); omega
      go_region_law (first
        | (go_simp; go_at_call 10; refine (HIH.out _).mono ?_; rintro e w1 ⟨rfl, hB1⟩; have hc0 := hB1.cell (p := ⟨w.heap.size, 0, none⟩) (by simp); have hc := HCV.out w1 w.heap.size (hc0.trans (cell_new w _ _)); simp only [])
        | (go_simp; go_at_call 10; refine (HIH.out _).mono ?_; rintro e w1 ⟨rfl, hB1⟩; simp only []))
      all_goals
        go_wp2
        go_ret
        refine ⟨?_, ?_⟩
        · rw [HD.out]
          exact congrArg (fun s => Ending.returned (Value.string s)) (bytes_snoc _ _)
        · first
          | exact (((Below.refl w.heap.size w).drew).trans hB1).alloc (((Below.refl w.heap.size w).drew).trans hB1).size _
          | (have hB0 : Below w.heap.size w (w.alloc (.cells #[.int .u8 (48 + (r : Int))] 5)).drew := ((Below.refl w.heap.size w).alloc (Nat.le_refl _) _).drew
             exact hB0.trans (hB1.mono (by simp)))
end Go.Proofs.YtdpapalfafjncaaGreatDoor
namespace Go.Proofs.YtdpapalfafjncaaGreatDoor
open Go.RowKit

theorem spT_le : ∀ (zs : List Int), (∀ x ∈ zs, x.toNat < 1000000) → (spT zs).length ≤ 7 * zs.length
  | [], _ => by simp [spT]
  | [x], h => by
    have := dgs_le 5 x.toNat (by simpa using h x (by simp))
    simp only [spT, List.length_singleton]
    omega
  | x :: y :: r, h => by
    have h1 := dgs_le 5 x.toNat (by simpa using h x (by simp))
    have h2 := spT_le (y :: r) fun z hz => h z (List.mem_cons_of_mem _ hz)
    simp only [spT, List.length_append, List.length_cons] at h2 ⊢
    omega

theorem bytes_app (l m : List UInt8) : (⟨l.toArray⟩ : ByteArray) ++ ⟨m.toArray⟩ = ⟨(l ++ m).toArray⟩ := by
  apply ByteArray.ext
  simp

theorem take_next {zs : List Int} {k : Nat} (hk : k < zs.length) : zs.take (k + 1) = zs.take k ++ [zs[k]?.getD 0] := by
  rw [List.take_add_one, List.getElem?_eq_getElem hk]; simp

set_option maxRecDepth 100000 in
set_option maxHeartbeats 3200000 in
theorem spaced_any (q : Option Addr) (cap : Nat) (zs : List Int) (w : World) (hI : IntsAt w q zs) (hz : ∀ x ∈ zs, 0 ≤ x ∧ x < 1000000) (hl : zs.length ≤ 1000) :
    Calls Tryz.prog 9 #[.slice q zs.length cap] w fun e w' => e = .returned (.string ⟨(spT zs).toArray⟩) ∧ Below w.heap.size w w' := by
  have HL : Hid (∀ k, (spT (zs.take k)).length ≤ 7000) := fun k => by
    have := spT_le (zs.take k) fun x hx => by have := hz x (List.mem_of_mem_take hx); omega
    have h2 : (zs.take k).length ≤ zs.length := by simp; omega
    omega
  have HZ : Hid (∀ k, k < zs.length → 0 ≤ zs[k]?.getD 0 ∧ zs[k]?.getD 0 < 1000000) := fun k hk => by
    rw [List.getElem?_eq_getElem hk]; exact hz _ (List.getElem_mem hk)
  have HI := Lib.hid hI
  have HB0 := Lib.hid (Below.refl w.heap.size w)
  clear hz hI
  go_enter Tryz.func9, Tryz.ntmps9
  go_wp2_with fail
  go_loopw [3, 4] (fun t i wr => ∃ k : Nat, k ≤ zs.length ∧ i = .int .i64 k ∧ t = .string ⟨(spT (zs.take k)).toArray⟩ ∧ Hid (Below w.heap.size w wr)) (fun _ i _ => zs.length - (intOf i).toNat)
  case atStart => exact ⟨0, Nat.zero_le _, rfl, by simp [spT], HB0⟩
  case round =>
    obtain ⟨k, hk, rfl, rfl, hB⟩ := hrel
    by_cases hlt : k < zs.length
    · have hIw : IntsAt wr q zs := HI.out.below hB.out
      obtain ⟨b, off, rfl, hbb, hcell⟩ := hIw.at (by omega)
      have hx := hcell k hlt
      obtain ⟨x, hxv⟩ : ∃ x, zs[k]?.getD 0 = x := ⟨_, rfl⟩
      have hzk := HZ.out k hlt
      have htk := take_next hlt
      rw [hxv] at hx hzk htk
      have HSN : Hid (spT (zs.take (k + 1)) = spT (zs.take k) ++ (if k = 0 then [] else [32]) ++ dgs x.toNat) := by
        show _ = _
        rw [htk, spT_snoc]
        have : (zs.take k = []) ↔ k = 0 := by
          rw [List.take_eq_nil_iff]
          constructor
          · rintro (h | h)
            · exact h
            · subst h; simp at hlt
          · exact .inl
        simp only [this]
      have hl0 := HL.out k
      have hd0 := dgs_le 5 x.toNat (by simp only [Nat.reduceAdd, Nat.reducePow]; omega)
      obtain ⟨n, rfl⟩ : ∃ n : Nat, x = (n : Int) := ⟨x.toNat, by omega⟩
      have HD : Hid (∀ W, Calls Tryz.prog 10 #[.int .i64 (n : Int)] W fun e w' => e = .returned (.string ⟨(dgs n).toArray⟩) ∧ Below W.heap.size W w') := fun W => digits_any 5 n W (by simp only [Nat.reduceAdd, Nat.reducePow]; omega) (by omega)
      rw [Int.toNat_natCast] at hd0 HSN
      clear hxv htk hcell
      generalize hA : spT (zs.take k) = A at *
      clear hA
      have hle2 : ¬ 9223372036854775807 < A.length + 1 := by omega
      have hle3 : ¬ 9223372036854775807 < A.length + (dgs n).length := by omega
      have hle4 : ¬ 9223372036854775807 < A.length + 1 + (dgs n).length := by omega
      rcases Nat.eq_zero_or_pos k with hk0 | hk0
      · subst hk0
        rw [Nat.add_zero] at hx
        go_wp2_with fail
        refine (HD.out _).mono ?_
        rintro e w1 ⟨rfl, hB1⟩
        go_wp2_with fail
        go_roundw
        case rel =>
          refine ⟨1, by omega, rfl, ?_, hB.out.trans (hB1.mono hB.out.size)⟩
          have := HSN.out
          simp only [Nat.zero_add, if_pos, List.append_nil] at this
          rw [this]
          exact congrArg Value.string (bytes_app _ _)
        case measure => simp [intOf]; omega
      · go_wp2_with fail
        refine (HD.out _).mono ?_
        rintro e w1 ⟨rfl, hB1⟩
        go_wp2_with fail
        go_roundw
        case rel =>
          refine ⟨k + 1, by omega, by go_num, ?_, hB.out.trans (hB1.mono hB.out.size)⟩
          have := HSN.out
          rw [if_neg (by omega)] at this
          rw [this]
          exact congrArg Value.string ((congrArg (fun z : ByteArray => z ++ _) (bytes_snoc _ _)).trans (bytes_app _ _))
        case measure => simp [intOf]; omega
    · obtain rfl : k = zs.length := by omega
      go_wp2_with fail
      go_ret
      exact ⟨by rw [List.take_length]; rfl, hB.out⟩
end Go.Proofs.YtdpapalfafjncaaGreatDoor
