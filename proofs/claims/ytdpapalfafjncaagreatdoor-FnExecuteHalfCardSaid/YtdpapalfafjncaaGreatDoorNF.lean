/- What the words of the script do on the desk: renew, half, total. Conditions: stated in each. -/
import Derived.RangeFuncBox
import Derived.Test.YtdpapalfafjncaaGreatDoorNA
import Derived.Test.YtdpapalfafjncaaGreatDoorNE
import Derived.Test.YtdpapalfafjncaaGreatDoorIM
namespace Go.Proofs.YtdpapalfafjncaaGreatDoor
open Go.RowKit Go.Shelf

theorem dgs_dec (n : Nat) : Lib.decDigits n = dgs n := by
  induction n using Nat.strongRecOn with
  | ind n ih =>
    by_cases h : n < 10
    · rw [Lib.decDigits, dif_pos h, dgs_lt h]
    · rw [Lib.decDigits, dif_neg h, dgs_ge h, ih (n / 10) (by omega)]
theorem itoa_dgs {v : Int} (h : 0 ≤ v) : Lib.itoa v = dgs v.toNat := by rw [Lib.itoa, if_neg (by omega), dgs_dec]
/-- the library's table of powers of ten lies as the row says -/
def Pow10 (w : World) : Prop := Lib.TabIs Tryz.prog w "internal/strconv.uint64pow10" .u64 Lib.pow10Tab
theorem tab_below {P : Program} {w w' : World} {name : String} {k : IntKind} {zs : List Int} (h : Lib.TabIs P w name k zs) (hb : Below w.heap.size w w') : Lib.TabIs P w' name k zs := by
  unfold Lib.TabIs World.var? at *
  cases hg : P.globalNamed name with
  | none => rw [hg] at h; cases h
  | some g =>
    rw [hg] at h
    simp only [Option.bind_some] at h ⊢
    have hlt : g < w.heap.size := by
      rcases Nat.lt_or_ge g w.heap.size with h1 | h1
      · exact h1
      · rw [Array.getElem?_eq_none h1] at h; cases h
    rw [hb.block g hlt]
    exact h
theorem Pow10.below {w w' : World} (h : Pow10 w) (hb : Below w.heap.size w w') : Pow10 w' := tab_below h hb
theorem grow_any (w : World) (k : Nat) (os : Array Obj) : Below w.heap.size w (Go.Sort.grow (w.drewN k) os) :=
  (drewN_below w k w.heap.size).trans ⟨rfl, rfl, rfl, by simp [Go.Sort.grow], fun i hi => by simp only [Go.Sort.grow]; rw [Array.getElem?_append_left (by simpa using hi)]⟩

set_option maxHeartbeats 1600000 in
theorem tellNumber_any (v : Int) (w : World) (h : 0 ≤ v ∧ v ≤ 1000000) (ht : Pow10 w) :
    Calls Tryz.prog 96 #[.int .i64 v, .bool true] w fun e w' => e = .returned (.string ⟨(dgs v.toNat).toArray⟩) ∧ Below w.heap.size w w' := by
  have HI := Lib.hid (Tryz.strconv_Itoa v (by omega) (by omega) w ht)
  simp only [itoa_dgs h.1] at HI
  go_enter Tryz.func96, Tryz.ntmps96
  go_wp2_with fail
  refine HI.out.mono ?_
  rintro e w' ⟨rfl, k, os, rfl⟩
  go_wp2_with fail
  go_ret
  exact ⟨rfl, grow_any w k os⟩

set_option maxHeartbeats 1600000 in
theorem half_any (D : Nat) (a : Option Addr) (cap : Nat) (zs : List Int) (w : World) (hz : inL zs = true) (hD : Boxed w D 41 (.slice a zs.length cap)) (hI : IntsAt w a zs) (ht : Pow10 w) :
    Calls Tryz.prog 63 #[.pointer (some ⟨D, 0, none⟩)] w fun e w' => e = .returned (.string ⟨(dgs (lr zs).toNat).toArray⟩) ∧ Below w.heap.size w w' := by
  have hzl := (inL_iff zs).1 hz
  have c1 := hD.cell
  have HH := Lib.hid (HalfBest_any a cap zs w (by omega) hI)
  rw [lrR, if_pos hz, hz] at HH
  have hb := lr_bd hzl.2
  have htb := tot_bd hzl.2
  clear hz
  go_enter Tryz.func63, Tryz.ntmps63
  go_wp2_with fail
  refine HH.out.mono ?_
  rintro e w1 ⟨rfl, hB⟩
  have HT := Lib.hid (tellNumber_any (lr zs) w1 (by omega) (ht.below hB))
  go_wp2_with fail
  refine HT.out.mono ?_
  rintro e w2 ⟨rfl, hB2⟩
  go_wp2_with fail
  go_ret
  exact ⟨rfl, hB.trans (hB2.mono hB.size)⟩

set_option maxHeartbeats 1600000 in
theorem total_desk (D : Nat) (a : Option Addr) (cap : Nat) (zs : List Int) (w : World) (hz : inL zs = true) (hD : Boxed w D 41 (.slice a zs.length cap)) (hI : IntsAt w a zs) (ht : Pow10 w) :
    Calls Tryz.prog 56 #[.pointer (some ⟨D, 0, none⟩)] w fun e w' => e = .returned (.string ⟨(dgs (tot zs).toNat).toArray⟩) ∧ Below w.heap.size w w' := by
  have hzl := (inL_iff zs).1 hz
  have c1 := hD.cell
  have htb := tot_bd hzl.2
  have HH := Lib.hid (totalOf_any a cap zs w (by omega) hzl.2 hI)
  have HT := Lib.hid (tellNumber_any (tot zs) w (by omega) ht)
  clear hz
  go_enter Tryz.func56, Tryz.ntmps56
  go_wp2_with fail
  refine HH.out.mono ?_
  rintro e w1 ⟨rfl, rfl⟩
  go_wp2_with fail
  refine HT.out.mono ?_
  rintro e w2 ⟨rfl, hB2⟩
  go_wp2_with fail
  go_ret
  exact ⟨rfl, hB2⟩

/-- the desk has the list that it is given -/
def Renewed (D : Nat) (a : Option Addr) (n cap : Nat) (w : World) (e : Ending) (w' : World) : Prop :=
  e = .returned (.string ⟨#[111, 107]⟩) ∧ Boxed w' D 41 (.slice a n cap) ∧ ∃ w1, w' = w1.setCell ⟨D, 0, none⟩ (.slice a n cap) ∧ Below w.heap.size w w1
set_option maxHeartbeats 1600000 in
theorem become_any (D : Nat) (a : Option Addr) (cap : Nat) (zs : List Int) (v : Value) (w : World) (hz : inL zs = true) (hD : Boxed w D 41 v) (hI : IntsAt w a zs) :
    Calls Tryz.prog 93 #[.pointer (some ⟨D, 0, none⟩), .slice a zs.length cap, .bool true] w (Renewed D a zs.length cap w) := by
  have hzl := (inL_iff zs).1 hz
  have c1 := hD.cell
  have f1 := hD.frozen
  have HS := Lib.hid (SumIn_any a cap zs w (by omega) hI)
  rw [hz] at HS
  have HDD := Lib.hid (hD.set (.slice a zs.length cap))
  clear hz hD
  go_enter Tryz.func93, Tryz.ntmps93
  go_wp2_with fail
  refine HS.out.mono ?_
  rintro e w1 ⟨rfl, rfl⟩
  go_wp2_with fail
  go_ret
  exact ⟨rfl, HDD.out, w, rfl, Below.refl _ _⟩
end Go.Proofs.YtdpapalfafjncaaGreatDoor
