/- The generator's reader: pick, and the lists that are drawn. Conditions: stated in each. -/
import Derived.WalkSmall
import Derived.Test.YtdpapalfafjncaaGreatDoorW1
namespace Go.Proofs.YtdpapalfafjncaaGreatDoor
open Go.RowKit

/-- a reader of bytes lies in block Br, p bytes read -/
def RdAt (w : World) (Br : Nat) (a : Option Addr) (len cap : Nat) (p : Int) : Prop :=
  w.heap[Br]? = some (.cells #[.slice a len cap, .int .i64 p] 76 (0, 0)) ∧ BytesAt w Br a len
theorem RdAt.c0 {w : World} {Br : Nat} {a : Option Addr} {len cap : Nat} {p : Int} (h : RdAt w Br a len cap p) : w.cell? ⟨Br, 0, none⟩ = some (.slice a len cap) := by simp [World.cell?, h.1]
theorem RdAt.c1 {w : World} {Br : Nat} {a : Option Addr} {len cap : Nat} {p : Int} (h : RdAt w Br a len cap p) : w.cell? ⟨Br, 1, none⟩ = some (.int .i64 p) := by simp [World.cell?, h.1]
theorem RdAt.f1 {w : World} {Br : Nat} {a : Option Addr} {len cap : Nat} {p : Int} (h : RdAt w Br a len cap p) : w.frozen? ⟨Br, 1, none⟩ = false := by simp [World.frozen?, h.1]
theorem RdAt.lt {w : World} {Br : Nat} {a : Option Addr} {len cap : Nat} {p : Int} (h : RdAt w Br a len cap p) : Br < w.heap.size := (Array.getElem?_eq_some_iff.1 h.1).1
theorem RdAt.kept {w w' : World} {row : Option Nat} {Br : Nat} {a : Option Addr} {len cap : Nat} {p : Int} (h : RdAt w Br a len cap p) (hg : w.grownBy w' row) (hr : ∀ r, row = some r → Br < r) : RdAt w' Br a len cap p := by
  refine ⟨(hg.block Br h.lt (fun e => by have := hr Br e.symm; omega)).trans h.1, h.2.same ⟨hg.os, hg.tape, hg.output, hg.size, fun k hk => hg.block k (Nat.lt_trans hk h.lt) (fun e => by have := hr k e.symm; omega)⟩⟩
theorem RdAt.stepped {w : World} {Br : Nat} {a : Option Addr} {len cap : Nat} {p : Int} (h : RdAt w Br a len cap p) (q : Int) (n : Nat) : RdAt ((w.setCell ⟨Br, 1, none⟩ (.int .i64 q)).drewN n) Br a len cap q := by
  refine ⟨?_, h.2.same ?_⟩
  · have h' := h.1
    have hlt := h.lt
    show (w.heap.modify Br _)[Br]? = _
    rw [Array.getElem?_modify, if_pos rfl, h']
    rfl
  · exact below_drewN ((Below.refl _ _).setCell (p := ⟨Br, 1, none⟩) (Nat.le_refl _) _) n
theorem grownBy_step (w : World) (Br : Nat) (v : Value) (n : Nat) : w.grownBy ((w.setCell ⟨Br, 1, none⟩ v).drewN n) (some Br) :=
  ⟨rfl, rfl, rfl, by simp, fun k _ hk => Below.heap_setCell w ⟨Br, 1, none⟩ v k (fun e => hk (by rw [e]))⟩

/-- what pick answers: a number from 0 to m - 1, or 0; it has read one byte -/
def PickPost (w : World) (Br : Nat) (a : Option Addr) (len cap : Nat) (p m : Int) (e : Ending) (w' : World) : Prop :=
  ∃ v : Int, e = .returned (.int .i64 v) ∧ 0 ≤ v ∧ (v < m ∨ v = 0) ∧ RdAt w' Br a len cap (p + 1) ∧ w.grownBy w' (some Br)

set_option maxHeartbeats 800000 in
theorem pick_any (Br len cap : Nat) (a : Option Addr) (p m : Int) (w : World) (hp : 0 ≤ p ∧ p ≤ 1000000) (hlen : len ≤ 2000) (hm : m ≤ 1000000) (hR : RdAt w Br a len cap p) :
    Calls Tryz.prog 46 #[.pointer (some ⟨Br, 0, none⟩), .int .i64 m] w (PickPost w Br a len cap p m) := by
  have hc0 := hR.c0
  have hc1 := hR.c1
  have hf1 := hR.f1
  have hb := hR.2
  have HR := Lib.hid hR
  clear hR
  by_cases hm1 : m < 1
  case pos =>
    go_enter Tryz.func46, Tryz.ntmps46
    go_wp2
    go_ret
    exact ⟨0, rfl, by omega, .inr rfl, HR.out.stepped _ 0, grownBy_step _ _ _ 0⟩
  by_cases hl0 : len = 0
  case pos =>
    subst hl0
    go_enter Tryz.func46, Tryz.ntmps46
    go_wp2
    go_ret
    exact ⟨0, rfl, by omega, .inr rfl, HR.out.stepped _ 0, grownBy_step _ _ _ 0⟩
  obtain ⟨b, off, rfl, hbs, hcell⟩ := hb.at (by omega)
  by_cases hpl : p < len
  case pos =>
    obtain ⟨x, hx1, hx2, hx⟩ := hcell p.toNat (by omega)
    go_enter Tryz.func46, Tryz.ntmps46
    go_wp2
    go_ret
    exact ⟨_, rfl, Int.emod_nonneg _ (by omega), .inl (Int.emod_lt_of_pos _ (by omega)), HR.out.stepped _ 0, grownBy_step _ _ _ 0⟩
  have e1 : 0 ≤ p % len := Int.emod_nonneg _ (by omega)
  have e2 : p % len < len := Int.emod_lt_of_pos _ (by omega)
  have e3 : 0 ≤ (p * 7 + 3) % len := Int.emod_nonneg _ (by omega)
  have e4 : (p * 7 + 3) % len < len := Int.emod_lt_of_pos _ (by omega)
  have e5 : 0 ≤ p / len := Int.ediv_nonneg hp.1 (by omega)
  have e6 : p / len ≤ p := Int.ediv_le_self _ hp.1
  obtain ⟨x, hx1, hx2, hx⟩ := hcell (p % len).toNat (by omega)
  obtain ⟨y, hy1, hy2, hy⟩ := hcell ((p * 7 + 3) % len).toNat (by omega)
  have hx' : (w.setCell ⟨Br, 1, none⟩ (.int .i64 (p + 1))).cell? ⟨b, off + (p % len).toNat, none⟩ = some (.int .u8 x) := (World.cell?_setCell_other _ _ _ _ (by simp)).trans hx
  have hy' : (w.setCell ⟨Br, 1, none⟩ (.int .i64 (p + 1))).cell? ⟨b, off + ((p * 7 + 3) % len).toNat, none⟩ = some (.int .u8 y) := (World.cell?_setCell_other _ _ _ _ (by simp)).trans hy
  clear hcell
  go_enter Tryz.func46, Tryz.ntmps46
  go_wp2
  go_quiet (fail)
  go_wp2
  go_ret
  have hq := xor_bd (x * 131 + y * 1117 + p * 29 + p / len * 53) ((x * 131 + y * 1117 + p * 29 + p / len * 53) / 64) (by omega) (by omega)
  exact ⟨_, rfl, Int.tmod_nonneg _ hq.1, .inl (Int.tmod_lt_of_pos _ (by omega)), HR.out.stepped _ _, grownBy_step _ _ _ _⟩

end Go.Proofs.YtdpapalfafjncaaGreatDoor
