/- Walks of the functions that only read: has, sum, SumIn, l6In, l1Sum, l1All, totalOf, total. Conditions: numbers in range, lists short, stated in each. The generator's reader: pick, and the lists that are drawn. Conditions: stated in each. The lists that the generator draws: at most so many numbers and one, each from -1 to 61. Conditions: stated in each. The draws that only hand on a drawn list. Conditions: stated in each. The draws of a list and numbers. Conditions: stated in each. Walks: copies and comparisons of slices, SumOf of both. Conditions: stated in each. The comparison of two lists. Conditions: the first list has at most 4000000 numbers. SumOf of the reference; the choice of all others; the draw of a list and a choice. Conditions: stated in each. The draws of weights. Conditions: stated in each. The draws of weights and numbers. Conditions: stated in each. -/
import Derived.Test.YtacedadenbinmaaZa
import Derived.WalkSmall
import Derived.Test.YtacedadenbinmaaZg
import Derived.Deep.RegionWith
set_option linter.unusedVariables false
set_option linter.unusedSimpArgs false
set_option linter.unusedSectionVars false
namespace Go.Proofs.Ytacedadenbinmaa
open Go.RowKit

theorem l6In_any (n lo hi : Int) (w : World) :
    Calls Try.prog 46 #[.int .i64 n, .int .i64 lo, .int .i64 hi] w fun e w' => e = .returned (.bool (decide (lo ≤ n) && decide (n ≤ hi))) ∧ w = w' := by
  go_enter Try.func46, Try.ntmps46
  by_cases h : lo ≤ n
  all_goals
    go_wp2
    go_ret
    exact ⟨ret_bool (by rw [Bool.eq_iff_iff]; simp; omega), rfl⟩

theorem SumIn_any (a : Option Addr) (cap : Nat) (zs : List Int) (w : World) (hl : zs.length ≤ 4294967296) (hI : IntsAt w a zs) :
    Calls Try.prog 54 #[.slice a zs.length cap] w fun e w' => e = .returned (.bool (inL zs)) ∧ w = w' := by
  by_cases h10 : zs.length ≤ 10
  case neg =>
    go_enter Try.func54, Try.ntmps54
    go_wp2
    go_ret
    exact ⟨ret_bool (by rw [eq_comm, inL_false]; omega), rfl⟩
  go_enter Try.func54, Try.ntmps54
  go_wp2
  go_loop [10] (fun i => ∃ k : Nat, k ≤ zs.length ∧ i = .int .i64 k ∧ good (zs.take k)) (fun i => zs.length - (intOf i).toNat)
  case atStart => exact ⟨0, Nat.zero_le _, rfl, by simp [good]⟩
  case round =>
    obtain ⟨k, hk, rfl, hgk⟩ := hrel
    by_cases hlt : k < zs.length
    · obtain ⟨b, off, rfl, hb, hcell⟩ := hI.at (by omega)
      have HB := Lib.hid (good_bad k hlt)
      have HS := Lib.hid (good_snoc zs k hlt)
      have hx := hcell k hlt
      generalize zs[k]?.getD 0 = x at hx HB HS
      clear hcell
      have HG := Lib.hid hgk
      clear hgk
      by_cases hx1 : 1 ≤ x
      · by_cases hx2 : x ≤ 60
        · go_wp2
          go_round
          case rel => exact ⟨k + 1, by omega, by go_num, HS.out.2 ⟨HG.out, hx1, hx2⟩⟩
          case measure => simp [intOf]; omega
        · go_wp2
          go_ret
          exact ⟨ret_bool (by rw [eq_comm, inL_false]; exact fun h => HB.out (fun h' => by omega) h.2), rfl⟩
      · go_wp2
        go_ret
        exact ⟨ret_bool (by rw [eq_comm, inL_false]; exact fun h => HB.out (fun h' => by omega) h.2), rfl⟩
    · have HG := Lib.hid hgk
      clear hgk
      go_wp2
      go_ret
      exact ⟨ret_bool (by rw [eq_comm, inL_iff]; refine ⟨h10, ?_⟩; have := HG.out; rwa [List.take_of_length_le (by omega)] at this), rfl⟩

set_option maxHeartbeats 400000 in
theorem l1Sum_any (c : Nat) (a : Option Addr) (cap : Nat) (zs : List Int) (w : World) (hc : c < 1048576) (hl : zs.length ≤ 60) (hg : good zs) (hI : IntsAt w a zs) :
    Calls Try.prog 63 #[.slice a zs.length cap, .int .i64 c] w fun e w' => e = .returned (.int .i64 (csum zs c)) ∧ ∃ n, w' = w.drewN n := by
  go_enter Try.func63, Try.ntmps63
  go_wp2
  go_loopw [5, 6] (fun s i wr => ∃ k n : Nat, k ≤ zs.length ∧ i = .int .i64 k ∧ s = .int .i64 (csum (zs.take k) c) ∧ wr = w.drewN n) (fun _ i _ => zs.length - (intOf i).toNat)
  case atStart => exact ⟨0, 0, Nat.zero_le _, rfl, rfl, rfl⟩
  case round =>
    obtain ⟨k, n, hk, rfl, rfl, rfl⟩ := hrel
    by_cases hlt : k < zs.length
    · obtain ⟨b, off, rfl, hb, hcell⟩ := hI.at (by omega)
      have hg1 := csum_bd (good_take hg k) c
      have hg2 := tot_bd (good_take hg k)
      have hg3 : (zs.take k).length ≤ k := List.length_take_le _ _
      have hg4 := good_get hg k hlt
      have HS := Lib.hid (csum_take zs c k hlt)
      have hx := hcell k hlt
      generalize zs[k]?.getD 0 = x at hx hg4 HS
      generalize csum (zs.take k) c = s at hg1 HS
      clear hcell
      go_wp2
      go_quiet (fail)
      go_wp2
      go_roundw
      case rel => exact ⟨k + 1, n + nq, by omega, by go_num, by rw [HS.out, bit_at c k (by omega), wstep _ _ _ (Nat.mod_lt _ (by omega)) (by omega) (by omega)], rfl⟩
      case measure => simp [intOf]; omega
    · go_wp2
      go_ret
      exact ⟨ret_int (by rw [List.take_of_length_le (by omega)]), _, rfl⟩

set_option maxHeartbeats 400000 in
theorem sSumIn_any (a : Option Addr) (cap : Nat) (zs : List Int) (w : World) (hl : zs.length ≤ 4294967296) (hI : IntsAt w a zs) :
    Calls Try.prog 61 #[.slice a zs.length cap] w fun e w' => e = .returned (.bool (inL zs)) ∧ w = w' := by
  go_enter Try.func61, Try.ntmps61
  go_wp2
  go_loop [3] (fun i => ∃ k : Nat, k ≤ zs.length ∧ i = .int .i64 k ∧ good (zs.take k)) (fun i => zs.length - (intOf i).toNat)
  case atStart => exact ⟨0, Nat.zero_le _, rfl, by simp [good]⟩
  case round =>
    obtain ⟨k, hk, rfl, hgk⟩ := hrel
    have HG := Lib.hid hgk
    clear hgk
    by_cases hlt : k < zs.length
    · obtain ⟨b, off, rfl, hb, hcell⟩ := hI.at (by omega)
      have HB := Lib.hid (good_bad k hlt)
      have HS := Lib.hid (good_snoc zs k hlt)
      have hx := hcell k hlt
      generalize zs[k]?.getD 0 = x at hx HB HS
      clear hcell
      by_cases hx12 : 1 ≤ x ∧ x ≤ 60
      · have hd : (decide (1 ≤ x) && decide (x ≤ 60)) = true := by simp [hx12]
        go_wp2_with (go_at_call 46; refine (l6In_any x 1 60 _).mono ?_; rw [hd]; rintro e w' ⟨rfl, rfl⟩)
        go_round
        case rel => exact ⟨k + 1, by omega, by go_num, HS.out.2 ⟨HG.out, hx12⟩⟩
        case measure => simp [intOf]; omega
      · have hd : (decide (1 ≤ x) && decide (x ≤ 60)) = false := by simp; omega
        go_wp2_with (go_at_call 46; refine (l6In_any x 1 60 _).mono ?_; rw [hd]; rintro e w' ⟨rfl, rfl⟩)
        go_ret
        exact ⟨ret_bool (by rw [eq_comm, inL_false]; exact fun h => HB.out (fun h' => by omega) h.2), rfl⟩
    · go_wp2
      go_ret
      have hg : good zs := by have := HG.out; rwa [List.take_of_length_le (by omega)] at this
      exact ⟨ret_bool (by rw [Bool.eq_iff_iff, inL_iff]; simp [hg]; omega), rfl⟩

theorem l1All_any (a : Option Addr) (n cap : Nat) (w : World) (hl : n ≤ 20) :
    Calls Try.prog 62 #[.slice a n cap] w fun e w' => e = .returned (.int .i64 (2 ^ n - 1)) ∧ w = w' := by
  have hp := pow_bd n hl
  go_enter Try.func62, Try.ntmps62
  go_wp2
  go_ret
  exact ⟨rfl, rfl⟩

theorem totalOf_any (a : Option Addr) (cap : Nat) (zs : List Int) (w : World) (hl : zs.length ≤ 60) (hg : good zs) (hI : IntsAt w a zs) :
    Calls Try.prog 50 #[.slice a zs.length cap] w fun e w' => e = .returned (.int .i64 (tot zs)) ∧ w = w' := by
  go_enter Try.func50, Try.ntmps50
  go_wp2
  go_loop [3, 8] (fun s i => ∃ k : Nat, k ≤ zs.length ∧ i = .int .i64 k ∧ s = .int .i64 (tot (zs.take k))) (fun _ i => zs.length - (intOf i).toNat)
  case atStart => exact ⟨0, Nat.zero_le _, rfl, rfl⟩
  case round =>
    obtain ⟨k, hk, rfl, rfl⟩ := hrel
    by_cases hlt : k < zs.length
    · obtain ⟨b, off, rfl, hb, hcell⟩ := hI.at (by omega)
      have hg2 := tot_bd (good_take hg k)
      have hg3 : (zs.take k).length ≤ k := List.length_take_le _ _
      have hg4 := good_get hg k hlt
      have HS := Lib.hid (tot_take zs k hlt)
      have hx := hcell k hlt
      generalize zs[k]?.getD 0 = x at hx hg4 HS
      generalize tot (zs.take k) = s at hg2 HS
      clear hcell
      go_wp2
      go_round
      case rel => exact ⟨k + 1, by omega, by go_num, by rw [HS.out]⟩
      case measure => simp [intOf]; omega
    · go_wp2
      go_ret
      exact ⟨ret_int (by rw [List.take_of_length_le (by omega)]), rfl⟩

/-- the sum of numbers that are neither negative nor great -/
theorem tot_bdM {a : List Int} {M : Int} (h : ∀ x ∈ a, 0 ≤ x ∧ x ≤ M) : 0 ≤ tot a ∧ tot a ≤ M * a.length := by
  induction a with
  | nil => simp [tot]
  | cons x xs ih =>
    have h1 := h x (List.mem_cons_self ..)
    have h2 := ih (fun y hy => h y (List.mem_cons_of_mem _ hy))
    rw [tot, List.length_cons, Int.natCast_add, Int.mul_add]; omega

set_option maxHeartbeats 400000 in
theorem total_any (a : Option Addr) (cap : Nat) (zs : List Int) (w : World) (hl : zs.length ≤ 1000000) (hg : ∀ x ∈ zs, 0 ≤ x ∧ x ≤ 1000000) (hI : IntsAt w a zs) :
    Calls Try.prog 22 #[.slice a zs.length cap] w fun e w' => e = .returned (.int .i64 (tot zs)) ∧ w = w' := by
  go_enter Try.func22, Try.ntmps22
  go_wp2
  go_loop [3, 4] (fun s i => ∃ k : Nat, k ≤ zs.length ∧ i = .int .i64 k ∧ s = .int .i64 (tot (zs.take k))) (fun _ i => zs.length - (intOf i).toNat)
  case atStart => exact ⟨0, Nat.zero_le _, rfl, rfl⟩
  case round =>
    obtain ⟨k, hk, rfl, rfl⟩ := hrel
    by_cases hlt : k < zs.length
    · obtain ⟨b, off, rfl, hb, hcell⟩ := hI.at (by omega)
      have hg2 := tot_bdM (a := zs.take k) (fun x hx => hg x (List.mem_of_mem_take hx))
      have hg3 : (zs.take k).length ≤ k := List.length_take_le _ _
      have hg4 : 0 ≤ zs[k]?.getD 0 ∧ zs[k]?.getD 0 ≤ 1000000 := by rw [List.getElem?_eq_getElem hlt]; exact hg _ (List.getElem_mem hlt)
      have HS := Lib.hid (tot_take zs k hlt)
      have hx := hcell k hlt
      generalize zs[k]?.getD 0 = x at hx hg4 HS
      generalize tot (zs.take k) = s at hg2 HS
      clear hcell
      go_wp2
      go_round
      case rel => exact ⟨k + 1, by omega, by go_num, by rw [HS.out]⟩
      case measure => simp [intOf]; omega
    · go_wp2
      go_ret
      exact ⟨ret_int (by rw [List.take_of_length_le (by omega)]), rfl⟩
end Go.Proofs.Ytacedadenbinmaa
namespace Go.Proofs.Ytacedadenbinmaa
open Go.RowKit

/-- a reader of bytes lies in block Br, p bytes read -/
def RdAt (w : World) (Br : Nat) (a : Option Addr) (len cap : Nat) (p : Int) : Prop :=
  w.heap[Br]? = some (.cells #[.slice a len cap, .int .i64 p] 48 (0, 0)) ∧ BytesAt w Br a len
theorem RdAt.c0 {w : World} {Br : Nat} {a : Option Addr} {len cap : Nat} {p : Int} (h : RdAt w Br a len cap p) : w.cell? ⟨Br, 0, none⟩ = some (.slice a len cap) := by simp [World.cell?, h.1]
theorem RdAt.c1 {w : World} {Br : Nat} {a : Option Addr} {len cap : Nat} {p : Int} (h : RdAt w Br a len cap p) : w.cell? ⟨Br, 1, none⟩ = some (.int .i64 p) := by simp [World.cell?, h.1]
theorem RdAt.f1 {w : World} {Br : Nat} {a : Option Addr} {len cap : Nat} {p : Int} (h : RdAt w Br a len cap p) : w.frozen? ⟨Br, 1, none⟩ = false := by simp [World.frozen?, h.1]
theorem RdAt.lt {w : World} {Br : Nat} {a : Option Addr} {len cap : Nat} {p : Int} (h : RdAt w Br a len cap p) : Br < w.heap.size := (Array.getElem?_eq_some_iff.1 h.1).1
theorem RdAt.kept {w w' : World} {row : Option Nat} {Br : Nat} {a : Option Addr} {len cap : Nat} {p : Int} (h : RdAt w Br a len cap p) (hg : w.grownBy w' row) (hr : ∀ r, row = some r → Br < r) : RdAt w' Br a len cap p := by
  refine ⟨(hg.block Br h.lt (fun e => by have := hr Br e.symm; omega)).trans h.1, h.2.same ⟨hg.os, hg.tape, hg.output, hg.size, fun k hk => hg.block k (Nat.lt_trans hk h.lt) (fun e => by have := hr k e.symm; omega)⟩⟩
theorem RdAt.stepped {w : World} {Br : Nat} {a : Option Addr} {len cap : Nat} {p : Int} (h : RdAt w Br a len cap p) (q : Int) (n : Nat) : RdAt ((w.setCell ⟨Br, 1, none⟩ (.int .i64 q)).drewN n) Br a len cap q := by
  refine ⟨?_, h.2.same ?_⟩
  · have h' := h.1
    have hlt := h.lt
    show (w.heap.modify Br _)[Br]? = _
    rw [Array.getElem?_modify, if_pos rfl, h']
    rfl
  · exact below_drewN ((Below.refl _ _).setCell (p := ⟨Br, 1, none⟩) (Nat.le_refl _) _) n
theorem grownBy_step (w : World) (Br : Nat) (v : Value) (n : Nat) : w.grownBy ((w.setCell ⟨Br, 1, none⟩ v).drewN n) (some Br) :=
  ⟨rfl, rfl, rfl, by simp, fun k _ hk => Below.heap_setCell w ⟨Br, 1, none⟩ v k (fun e => hk (by rw [e]))⟩

/-- what pick answers: a number from 0 to m - 1, or 0; it has read one byte -/
def PickPost (w : World) (Br : Nat) (a : Option Addr) (len cap : Nat) (p m : Int) (e : Ending) (w' : World) : Prop :=
  ∃ v : Int, e = .returned (.int .i64 v) ∧ 0 ≤ v ∧ (v < m ∨ v = 0) ∧ RdAt w' Br a len cap (p + 1) ∧ w.grownBy w' (some Br)

set_option maxHeartbeats 800000 in
theorem pick_any (Br len cap : Nat) (a : Option Addr) (p m : Int) (w : World) (hp : 0 ≤ p ∧ p ≤ 1000000) (hlen : len ≤ 2000) (hm : m ≤ 1000000) (hR : RdAt w Br a len cap p) :
    Calls Try.prog 44 #[.pointer (some ⟨Br, 0, none⟩), .int .i64 m] w (PickPost w Br a len cap p m) := by
  have hc0 := hR.c0
  have hc1 := hR.c1
  have hf1 := hR.f1
  have hb := hR.2
  have HR := Lib.hid hR
  clear hR
  by_cases hm1 : m < 1
  case pos =>
    go_enter Try.func44, Try.ntmps44
    go_wp2
    go_ret
    exact ⟨0, rfl, by omega, .inr rfl, HR.out.stepped _ 0, grownBy_step _ _ _ 0⟩
  by_cases hl0 : len = 0
  case pos =>
    subst hl0
    go_enter Try.func44, Try.ntmps44
    go_wp2
    go_ret
    exact ⟨0, rfl, by omega, .inr rfl, HR.out.stepped _ 0, grownBy_step _ _ _ 0⟩
  obtain ⟨b, off, rfl, hbs, hcell⟩ := hb.at (by omega)
  by_cases hpl : p < len
  case pos =>
    obtain ⟨x, hx1, hx2, hx⟩ := hcell p.toNat (by omega)
    go_enter Try.func44, Try.ntmps44
    go_wp2
    go_ret
    exact ⟨_, rfl, Int.emod_nonneg _ (by omega), .inl (Int.emod_lt_of_pos _ (by omega)), HR.out.stepped _ 0, grownBy_step _ _ _ 0⟩
  have e1 : 0 ≤ p % len := Int.emod_nonneg _ (by omega)
  have e2 : p % len < len := Int.emod_lt_of_pos _ (by omega)
  have e3 : 0 ≤ (p * 7 + 3) % len := Int.emod_nonneg _ (by omega)
  have e4 : (p * 7 + 3) % len < len := Int.emod_lt_of_pos _ (by omega)
  have e5 : 0 ≤ p / len := Int.ediv_nonneg hp.1 (by omega)
  have e6 : p / len ≤ p := Int.ediv_le_self _ hp.1
  obtain ⟨x, hx1, hx2, hx⟩ := hcell (p % len).toNat (by omega)
  obtain ⟨y, hy1, hy2, hy⟩ := hcell ((p * 7 + 3) % len).toNat (by omega)
  have hx' : (w.setCell ⟨Br, 1, none⟩ (.int .i64 (p + 1))).cell? ⟨b, off + (p % len).toNat, none⟩ = some (.int .u8 x) := (World.cell?_setCell_other _ _ _ _ (by simp)).trans hx
  have hy' : (w.setCell ⟨Br, 1, none⟩ (.int .i64 (p + 1))).cell? ⟨b, off + ((p * 7 + 3) % len).toNat, none⟩ = some (.int .u8 y) := (World.cell?_setCell_other _ _ _ _ (by simp)).trans hy
  clear hcell
  go_enter Try.func44, Try.ntmps44
  go_wp2
  go_quiet (fail)
  go_wp2
  go_ret
  have hq := xor_bd (x * 131 + y * 1117 + p * 29 + p / len * 53) ((x * 131 + y * 1117 + p * 29 + p / len * 53) / 64) (by omega) (by omega)
  exact ⟨_, rfl, Int.tmod_nonneg _ hq.1, .inl (Int.tmod_lt_of_pos _ (by omega)), HR.out.stepped _ _, grownBy_step _ _ _ _⟩

end Go.Proofs.Ytacedadenbinmaa
namespace Go.Proofs.Ytacedadenbinmaa
open Go.RowKit

def okDrawn (zs : List Int) : Prop := ∀ z ∈ zs, -1 ≤ z ∧ z ≤ 61
theorem okDrawn.snoc {zs : List Int} {z : Int} (h : okDrawn zs) (hz : -1 ≤ z ∧ z ≤ 61) : okDrawn (zs ++ [z]) := fun y hy => by
  rcases List.mem_append.1 hy with hy | hy
  · exact h y hy
  · rw [List.mem_singleton.1 hy]; exact hz
/-- a list is being drawn: the reader, and what is owned so far -/
def DrI (w0 w : World) (Br : Nat) (a : Option Addr) (len cap : Nat) (p : Int) (v : Value) (zs : List Int) : Prop :=
  RdAt w Br a len cap p ∧ OwnI w w0.heap.size v zs ∧ Below Br w0 w ∧ Br < w0.heap.size
theorem pickD (Br len cap : Nat) (a : Option Addr) (p m : Int) (w0 w : World) (v : Value) (zs : List Int) (hp : 0 ≤ p ∧ p ≤ 1000000) (hlen : len ≤ 2000) (hm : m ≤ 1000000) (hD : DrI w0 w Br a len cap p v zs) :
    Calls Try.prog 44 #[.pointer (some ⟨Br, 0, none⟩), .int .i64 m] w fun e w' => ∃ x : Int, e = .returned (.int .i64 x) ∧ 0 ≤ x ∧ (x < m ∨ x = 0) ∧ DrI w0 w' Br a len cap (p + 1) v zs ∧ w.grownBy w' (some Br) := by
  obtain ⟨hR, hO, hB, hlt⟩ := hD
  refine (pick_any Br len cap a p m w hp hlen hm hR).mono ?_
  rintro e w' ⟨x, rfl, h0, h1, hR2, hG⟩
  exact ⟨x, rfl, h0, h1, ⟨hR2, hO.kept_below hG (fun r hr => by cases hr; exact hlt), hB.grown hG (Nat.le_of_lt hR.lt) (fun k hk => by cases hk; exact Nat.le_refl _), hlt⟩, hG⟩
theorem DrI.alloc {w0 w : World} {Br len cap : Nat} {a : Option Addr} {p : Int} {v : Value} {zs : List Int} (h : DrI w0 w Br a len cap p v zs) (o : Obj) : DrI w0 (w.alloc o) Br a len cap p v zs :=
  ⟨h.1.kept (World.grownBy_alloc w o none) (fun r hr => by cases hr), World.ownsRow.alloc h.2.1 o, h.2.2.1.alloc (Nat.le_of_lt h.1.lt) o, h.2.2.2⟩
theorem appendD (w0 w : World) {ops : Array Oper} {rest : List Oper} {o : Oper} {a : Act} {Q : Exit → Act → World → Prop} (hgd : o.guard = none) (s x : Operand)
    (ho : o.op = .call { callee := .builtin .append, args := #[s, x], argTypes := #[22, 22] }) (v : Value) (zs : List Int) (z : Int)
    (hs : a.eval s = v) (hx : a.eval x = .slice (some ⟨w.heap.size, 0, none⟩) 1 1) {Br len cap : Nat} {ad : Option Addr} {p : Int} (hl : zs.length ≤ 1000000) (hD : DrI w0 w Br ad len cap p v zs)
    (h : ∀ v' w', DrI w0 w' Br ad len cap p v' (zs ++ [z]) → wpList Try.prog ops Q rest (a.put o.dst v') w') :
    wpList Try.prog ops Q (o :: rest) a (w.alloc (.cells #[.int .i64 z] 3)) := by
  obtain ⟨hR, hO, hB, hlt⟩ := hD
  refine append1 w hgd s x ho w0.heap.size v zs z hs hx hO hl hB.size ?_
  intro v' w' hO' hG
  exact h v' w' ⟨hR.kept hG (fun r hr => Nat.lt_of_lt_of_le hlt (hO.lt r hr).1), hO', hB.grown hG (Nat.le_of_lt hR.lt) (fun k hk => Nat.le_trans (Nat.le_of_lt hlt) (hO.lt k hk).1), hlt⟩

def ListPost (w : World) (Br : Nat) (a : Option Addr) (len cap : Nat) (p : Int) (most : Nat) (e : Ending) (w' : World) : Prop :=
  ∃ v zs p', e = .returned v ∧ DrI w w' Br a len cap p' v zs ∧ zs.length ≤ most + 1 ∧ okDrawn zs ∧ p ≤ p' ∧ p' ≤ p + 2 * most + 10

set_option maxHeartbeats 1600000 in
theorem l91List_any (Br len cap : Nat) (a : Option Addr) (p g : Int) (most : Nat) (w : World) (hp : 0 ≤ p ∧ p ≤ 100000) (hlen : len ≤ 2000) (hm : most ≤ 100) (hg : 1 ≤ g ∧ g ≤ 60) (hR : RdAt w Br a len cap p) :
    Calls Try.prog 70 #[.pointer (some ⟨Br, 0, none⟩), .int .i64 most, .int .i64 g] w (ListPost w Br a len cap p most) := by
  have hD0 : DrI w (w.alloc (.cells #[] 3)) Br a len cap p (.slice (some ⟨w.heap.size, 0, none⟩) 0 0) [] :=
    ⟨hR.kept (World.grownBy_alloc w _ none) (fun r hr => by cases hr), World.ownsRow_lit w #[] 0 (Nat.le_refl _) (by unfold maxLen; omega) (by simp), (Below.refl _ _).alloc (Nat.le_of_lt hR.lt) _, hR.lt⟩
  go_enter Try.func70, Try.ntmps70
  go_wp2_with fail
  refine (pickD Br len cap a _ _ w _ _ _ (by omega) hlen (by omega) hD0).mono ?_
  rintro e w1 ⟨n, rfl, hn0, hn1, hD1, _⟩
  clear hD0
  go_wp2_with fail
  refine (pickD Br len cap a _ _ w _ _ _ (by omega) hlen (by omega) hD1).mono ?_
  rintro e w2 ⟨kind, rfl, hk0, hk1, hD2, _⟩
  clear hD1
  go_wp2_with fail
  go_loopw [7, 10] (fun v i wr => ∃ (k : Nat) (zs : List Int) (p' : Int), k ≤ n ∧ i = .int .i64 k ∧ zs.length = k ∧ okDrawn zs ∧ DrI w wr Br a len cap p' v zs ∧ p ≤ p' ∧ p' ≤ p + 2 + 2 * k) (fun _ i _ => n.toNat - (intOf i).toNat)
  case atStart => exact ⟨0, [], _, by omega, rfl, rfl, (fun z hz => by cases hz), hD2, by omega, by omega⟩
  case round =>
    obtain ⟨k, zs, p', hk, rfl, hzl, hzs, hDr, hp1, hp2⟩ := hrel
    have hpw := pow_bd (k % 6) (by omega)
    by_cases hlt : (k : Int) < n
    · go_wp2_with (first
        | (go_at_call 44; refine (pickD Br len cap a _ _ w _ _ _ ?_ hlen ?_ ‹DrI w _ Br a len cap _ _ _›).mono ?_; (omega); (omega); rintro e w' ⟨x, rfl, hx0, hx1, hD', _⟩)
        | (at_builtin; refine appendD w _ rfl _ _ rfl _ _ _ rfl rfl ?_ ‹DrI w _ Br a len cap _ _ _› ?_; (omega); intro v' w' hD'))
      all_goals
        go_roundw
        case rel => exact ⟨k + 1, _, _, by omega, by go_num, by simp [hzl], hzs.snoc (by first | omega | (split <;> omega)), hD', by omega, by omega⟩
        case measure => simp [intOf]; omega
    · go_wp2_with fail
      refine (pickD Br len cap a _ _ w _ _ _ (by omega) hlen (by omega) hDr).mono ?_
      rintro e w3 ⟨x, rfl, hx0, hx1, hD3, _⟩
      clear hDr hD2
      go_wp2_with fail
      · refine (pickD Br len cap a _ _ w _ _ _ (by omega) hlen (by omega) (hD3.alloc _)).mono ?_
        rintro e w4 ⟨y, rfl, hy0, hy1, hD4, hG⟩
        have hbr := hD3.1.lt
        have hblk := hG.block w3.heap.size (by simp) (fun e => by cases e; omega)
        rw [heap_alloc_new] at hblk
        have q0 : w4.cell? ⟨w3.heap.size, 0, none⟩ = some (.int .i64 0) := by simp [World.cell?, hblk]
        have q1 : w4.cell? ⟨w3.heap.size, 1, none⟩ = some (.int .i64 61) := by simp [World.cell?, hblk]
        have q2 : w4.cell? ⟨w3.heap.size, 2, none⟩ = some (.int .i64 (-1)) := by simp [World.cell?, hblk]
        clear hblk hG hD3
        have hy : y = 0 ∨ y = 1 ∨ y = 2 := by omega
        rcases hy with rfl | rfl | rfl
        all_goals
          go_wp2_with (at_builtin; refine appendD w _ rfl _ _ rfl _ _ _ rfl rfl ?_ hD4 ?_; (omega); intro v' w' hD')
          go_ret
          exact ⟨_, _, _, rfl, hD', by simp; omega, hzs.snoc (by omega), by omega, by omega⟩
      · go_wp2
        go_ret
        exact ⟨_, _, _, rfl, hD3, by omega, hzs, by omega, by omega⟩

theorem BytesAt.le {w : World} {B : Nat} {a : Option Addr} {len l : Nat} (h : BytesAt w B a len) (hl : l ≤ len) : BytesAt w B a l := by
  rcases h with h | ⟨b, off, h1, h2, h3⟩
  · exact .inl (by omega)
  · exact .inr ⟨b, off, h1, h2, fun j hj => h3 j (by omega)⟩
theorem rdAt_new (w : World) (a : Option Addr) (l c : Nat) (h : BytesAt w w.heap.size a l) : RdAt (w.alloc (.cells #[.slice a l c, .int .i64 0] 48)) w.heap.size a l c 0 :=
  ⟨heap_alloc_new w _, h.same ((Below.refl _ _).alloc (Nat.le_refl _) _)⟩

theorem l6Open_any (a : Option Addr) (len cap : Nat) (w : World) (hl : len ≤ 1048576) (hcap : len ≤ cap) (hb : BytesAt w w.heap.size a len) :
    Calls Try.prog 42 #[.slice a len cap] w fun e w' => ∃ l c, e = .returned (.pointer (some ⟨w.heap.size, 0, none⟩)) ∧ l ≤ 2000 ∧ RdAt w' w.heap.size a l c 0 ∧ Below w.heap.size w w' := by
  go_enter Try.func42, Try.ntmps42
  go_wp2
  · go_ret
    exact ⟨2000, cap, rfl, by omega, rdAt_new _ _ _ _ (hb.le (by omega)), (Below.refl _ _).alloc (Nat.le_refl _) _⟩
  · go_ret
    exact ⟨len, cap, rfl, by omega, rdAt_new _ _ _ _ hb, (Below.refl _ _).alloc (Nat.le_refl _) _⟩

/-- a drawn list -/
def DrawnPost (w : World) (most : Nat) (e : Ending) (w' : World) : Prop :=
  ∃ ad cap zs, e = .returned (.slice ad zs.length cap) ∧ zs.length ≤ most ∧ okDrawn zs ∧ IntsAt w' ad zs ∧ Below w.heap.size w w'

end Go.Proofs.Ytacedadenbinmaa
namespace Go.Proofs.Ytacedadenbinmaa
open Go.RowKit

end Go.Proofs.Ytacedadenbinmaa
namespace Go.Proofs.Ytacedadenbinmaa
open Go.RowKit

theorem BytesAt.mono {w : World} {B B' : Nat} {a : Option Addr} {len : Nat} (h : BytesAt w B a len) (hB : B ≤ B') : BytesAt w B' a len := by
  rcases h with h | ⟨b, off, h1, h2, h3⟩
  · exact .inl h
  · exact .inr ⟨b, off, h1, Nat.lt_of_lt_of_le h2 hB, h3⟩
/-- a drawn list and a number -/
def Drawn2 (w : World) (most : Nat) (lo hi : Int) (e : Ending) (w' : World) : Prop :=
  ∃ ad cap zs q, e = .returned (.tuple #[.slice ad zs.length cap, .int .i64 q]) ∧ zs.length ≤ most ∧ okDrawn zs ∧ IntsAt w' ad zs ∧ lo ≤ q ∧ q ≤ hi ∧ Below w.heap.size w w'

/-- a drawn list and two numbers -/
def Drawn3 (w : World) (most : Nat) (lo hi : Int) (e : Ending) (w' : World) : Prop :=
  ∃ ad cap zs q k, e = .returned (.tuple #[.slice ad zs.length cap, .int .i64 q, .int .i64 k]) ∧ zs.length ≤ most ∧ okDrawn zs ∧ IntsAt w' ad zs ∧ lo ≤ q ∧ q ≤ hi ∧ lo ≤ k ∧ k ≤ hi ∧ Below w.heap.size w w'

end Go.Proofs.Ytacedadenbinmaa
namespace Go.Proofs.Ytacedadenbinmaa
open Go.RowKit

theorem set_fill (zs : List Int) (k : Nat) (h : k < zs.length) : (zs.take k ++ List.replicate (zs.length - k) 0).set k (zs[k]?.getD 0) = zs.take (k + 1) ++ List.replicate (zs.length - (k + 1)) 0 := by
  rw [take_snoc zs k h, List.set_append_right _ _ (by simp; omega)]
  have e : zs.length - k = (zs.length - (k + 1)) + 1 := by omega
  rw [e, List.replicate_succ, List.length_take, Nat.min_eq_left (Nat.le_of_lt h), Nat.sub_self, List.set_cons_zero]
  simp
theorem fill_length (zs : List Int) (k : Nat) (h : k ≤ zs.length) : (zs.take k ++ List.replicate (zs.length - k) 0).length = zs.length := by simp; omega

def CopyPost (w : World) (zs : List Int) (e : Ending) (w' : World) : Prop := ∃ v, e = .returned v ∧ OwnI w' w.heap.size v zs ∧ Below w.heap.size w w'

set_option maxHeartbeats 800000 in
theorem toIntS_any (a : Option Addr) (cap : Nat) (zs : List Int) (w : World) (hl : zs.length ≤ 2000000) (hI : IntsAt w a zs) :
    Calls Try.prog 12 #[.slice a zs.length cap] w (CopyPost w zs) := by
  go_enter Try.func12, Try.ntmps12
  go_wp2_with (at_make; refine makeI w rfl _ _ rfl zs.length _ rfl rfl rfl (by omega) ?_; intro w1 hO hG)
  go_loopw [4] (fun i wr => ∃ k : Nat, k ≤ zs.length ∧ i = .int .i64 k ∧ OwnI wr w.heap.size (.slice (some ⟨w.heap.size, 0, none⟩) zs.length zs.length) (zs.take k ++ List.replicate (zs.length - k) 0) ∧ Below w.heap.size w wr) (fun i _ => zs.length - (intOf i).toNat)
  case atStart => exact ⟨0, Nat.zero_le _, rfl, by simpa using hO, (Below.refl _ _).grown hG (Nat.le_refl _) (fun k hk => by cases hk)⟩
  case round =>
    obtain ⟨k, hk, rfl, hOr, hB⟩ := hrel
    clear hO hG
    by_cases hlt : k < zs.length
    · obtain ⟨b, off, rfl, hb, hcell⟩ := (hI.below hB).at (by omega)
      have hfl := fill_length zs k hk
      obtain ⟨g, cp, he, hg1, hg2, hcf⟩ := hOr.at (by omega)
      rw [hfl] at he hcf
      simp only [Value.slice.injEq, Option.some.injEq, Addr.mk.injEq, and_true, true_and] at he
      obtain ⟨rfl, rfl⟩ := he
      have hx := hcell k hlt
      have hc1 := (hcf k hlt).1
      have hf1 := (hcf k hlt).2
      have HS := Lib.hid (set_fill zs k hlt)
      generalize zs[k]?.getD 0 = x at hx HS
      have HO := Lib.hid hOr
      clear hcell hcf hOr
      generalize (zs.take k ++ List.replicate (zs.length - k) 0)[k]?.getD 0 = y at hc1
      go_wp2
      go_roundw
      case rel =>
        have h2 := (show OwnI wr w.heap.size (.slice (some ⟨w.heap.size, 0, none⟩) (zs.take k ++ List.replicate (zs.length - k) 0).length zs.length) (zs.take k ++ List.replicate (zs.length - k) 0) by rw [hfl]; exact HO.out).stored k x
        rw [hfl, HS.out] at h2
        exact ⟨k + 1, by omega, by go_num, h2.1, hB.setCell (p := ⟨_, _, none⟩) (Nat.le_refl _) _⟩
      case measure => simp [intOf]; omega
    · obtain rfl : k = zs.length := by omega
      go_wp2
      go_ret
      exact ⟨_, rfl, by simpa using hOr, hB⟩

theorem eq_snoc {xs ys : List Int} (k : Nat) (h : xs.take k = ys.take k) (hk : k < xs.length) (hk' : k < ys.length) : (xs.take (k + 1) = ys.take (k + 1)) ↔ xs[k]?.getD 0 = ys[k]?.getD 0 := by
  rw [take_snoc xs k hk, take_snoc ys k hk', h]; simp
theorem ne_of_get {xs ys : List Int} (k : Nat) (h : xs[k]?.getD 0 ≠ ys[k]?.getD 0) : xs ≠ ys := fun e => h (by rw [e])
theorem ne_of_len {xs ys : List Int} (h : xs.length ≠ ys.length) : xs ≠ ys := fun e => h (by rw [e])

set_option maxHeartbeats 800000 in
theorem eqIntS_any (a b : Option Addr) (cap cap' : Nat) (xs ys : List Int) (w : World) (hl : xs.length ≤ 4000000) (hI : IntsAt w a xs) (hJ : IntsAt w b ys) :
    Calls Try.prog 14 #[.slice a xs.length cap, .slice b ys.length cap'] w fun e w' => e = .returned (.bool (decide (xs = ys))) ∧ ∃ n, w' = w.drewN n := by
  by_cases hlen : xs.length = ys.length
  case neg =>
    have hd : decide (xs = ys) = false := by simp; exact ne_of_len hlen
    rw [hd]
    clear hd
    go_enter Try.func14, Try.ntmps14
    go_wp2
    go_ret
    exact ⟨rfl, 0, rfl⟩
  have HLn := Lib.hid hlen
  have hl1 : xs.length ≤ ys.length := by omega
  have hl2 : ys.length ≤ xs.length := by omega
  clear hlen
  go_enter Try.func14, Try.ntmps14
  go_wp2
  go_loopw [5] (fun i wr => ∃ k n : Nat, k ≤ xs.length ∧ i = .int .i64 k ∧ xs.take k = ys.take k ∧ wr = w.drewN n) (fun i _ => xs.length - (intOf i).toNat)
  case atStart => exact ⟨0, 0, Nat.zero_le _, rfl, by simp, rfl⟩
  case round =>
    obtain ⟨k, n, hk, rfl, heq, rfl⟩ := hrel
    have HE := Lib.hid heq
    clear heq
    by_cases hlt : k < xs.length
    · obtain ⟨b1, o1, rfl, hb1, hc1⟩ := hI.at (by omega)
      obtain ⟨b2, o2, rfl, hb2, hc2⟩ := hJ.at (by omega)
      have hlt2 : k < ys.length := by omega
      have hx := hc1 k hlt
      have hy := hc2 k hlt2
      have HS := Lib.hid (eq_snoc k HE.out hlt hlt2)
      have HN := Lib.hid (ne_of_get (xs := xs) (ys := ys) k)
      generalize xs[k]?.getD 0 = x at hx HS HN
      generalize ys[k]?.getD 0 = y at hy HS HN
      clear hc1 hc2
      go_wp2
      go_quiet (fail)
      go_wp2
      · have hxy : (x != y) = true := by assumption
        go_ret
        exact ⟨ret_bool (by simp; exact HN.out (by simpa using hxy)), n + nq, by simp⟩
      · have hxy : (x != y) = false := by assumption
        go_roundw
        case rel => exact ⟨k + 1, n + nq, by omega, by go_num, HS.out.2 (by simpa using hxy), by simp⟩
        case measure => simp [intOf]; omega
    · go_wp2
      go_ret
      have h1 := HE.out
      rw [List.take_of_length_le (by omega), List.take_of_length_le (by omega)] at h1
      exact ⟨ret_bool (by simp [h1]), _, rfl⟩

/-- SumOf's answer -/
def sumOfR (zs : List Int) (set : Int) : Int × Bool := if inL zs = true ∧ 0 ≤ set ∧ set < 2 ^ zs.length then (csum zs set.toNat, true) else (0, false)
theorem sumOfR_yes {zs : List Int} {c : Nat} (hz : inL zs = true) (h : c < 2 ^ zs.length) : sumOfR zs c = (csum zs c, true) := by
  have h' : (c : Int) < 2 ^ zs.length := by exact_mod_cast h
  simp [sumOfR, hz, h']
theorem sumOfR_no {zs : List Int} {set : Int} (h : ¬ (inL zs = true ∧ 0 ≤ set ∧ set < 2 ^ zs.length)) : sumOfR zs set = (0, false) := by
  simp only [sumOfR, if_neg h]

end Go.Proofs.Ytacedadenbinmaa
namespace Go.Proofs.Ytacedadenbinmaa
open Go.RowKit

set_option maxHeartbeats 800000 in
theorem sameInts_any (a b : Option Addr) (cap cap' : Nat) (xs ys : List Int) (w : World) (hl : xs.length ≤ 4000000) (hI : IntsAt w a xs) (hJ : IntsAt w b ys) :
    Calls Try.prog 21 #[.slice a xs.length cap, .slice b ys.length cap'] w fun e w' => e = .returned (.bool (decide (xs = ys))) ∧ ∃ n, w' = w.drewN n := by
  by_cases hlen : xs.length = ys.length
  case neg =>
    have hd : decide (xs = ys) = false := by simp; exact ne_of_len hlen
    rw [hd]
    clear hd
    go_enter Try.func21, Try.ntmps21
    go_wp2
    go_ret
    exact ⟨rfl, 0, rfl⟩
  have HLn := Lib.hid hlen
  have hl1 : xs.length ≤ ys.length := by omega
  have hl2 : ys.length ≤ xs.length := by omega
  clear hlen
  go_enter Try.func21, Try.ntmps21
  go_wp2
  go_loopw [5] (fun i wr => ∃ k n : Nat, k ≤ xs.length ∧ i = .int .i64 k ∧ xs.take k = ys.take k ∧ wr = w.drewN n) (fun i _ => xs.length - (intOf i).toNat)
  case atStart => exact ⟨0, 0, Nat.zero_le _, rfl, by simp, rfl⟩
  case round =>
    obtain ⟨k, n, hk, rfl, heq, rfl⟩ := hrel
    have HE := Lib.hid heq
    clear heq
    by_cases hlt : k < xs.length
    · obtain ⟨b1, o1, rfl, hb1, hc1⟩ := hI.at (by omega)
      obtain ⟨b2, o2, rfl, hb2, hc2⟩ := hJ.at (by omega)
      have hlt2 : k < ys.length := by omega
      have hx := hc1 k hlt
      have hy := hc2 k hlt2
      have HS := Lib.hid (eq_snoc k HE.out hlt hlt2)
      have HN := Lib.hid (ne_of_get (xs := xs) (ys := ys) k)
      generalize xs[k]?.getD 0 = x at hx HS HN
      generalize ys[k]?.getD 0 = y at hy HS HN
      clear hc1 hc2
      go_wp2
      go_quiet (fail)
      go_wp2
      · have hxy : (x != y) = true := by assumption
        go_ret
        exact ⟨ret_bool (by simp; exact HN.out (by simpa using hxy)), n + nq, by simp⟩
      · have hxy : (x != y) = false := by assumption
        go_roundw
        case rel => exact ⟨k + 1, n + nq, by omega, by go_num, HS.out.2 (by simpa using hxy), by simp⟩
        case measure => simp [intOf]; omega
    · go_wp2
      go_ret
      have h1 := HE.out
      rw [List.take_of_length_le (by omega), List.take_of_length_le (by omega)] at h1
      exact ⟨ret_bool (by simp [h1]), _, rfl⟩
end Go.Proofs.Ytacedadenbinmaa
namespace Go.Proofs.Ytacedadenbinmaa
open Go.RowKit

theorem csum_compl (zs : List Int) : ∀ c : Nat, c < 2 ^ zs.length → csum zs c + csum zs (2 ^ zs.length - 1 - c) = tot zs := by
  induction zs with
  | nil => intro c _; rfl
  | cons x xs ih =>
    intro c h
    rw [List.length_cons, Nat.pow_succ] at h ⊢
    have h1 := ih (c / 2) (by omega)
    rw [csum_cons, csum_cons, tot, show (2 ^ xs.length * 2 - 1 - c) / 2 = 2 ^ xs.length - 1 - c / 2 by omega]
    by_cases e : c % 2 = 1
    · rw [if_pos e, if_neg (by omega)]; omega
    · rw [if_neg e, if_pos (by omega)]; omega

theorem DrI.drew {w0 w : World} {Br len cap : Nat} {a : Option Addr} {p : Int} {v : Value} {zs : List Int} (h : DrI w0 w Br a len cap p v zs) : DrI w0 w.drew Br a len cap p v zs :=
  ⟨h.1, h.2.1.dr 1, belowDr h.2.2.1 1, h.2.2.2⟩
theorem pickDd {Br len cap : Nat} {a : Option Addr} {p m : Int} {w0 w : World} {v : Value} {zs : List Int} (hD : DrI w0 w Br a len cap p v zs) (hp : 0 ≤ p ∧ p ≤ 1000000) (hlen : len ≤ 2000) (hm : m ≤ 1000000) :
    Calls Try.prog 44 #[.pointer (some ⟨Br, 0, none⟩), .int .i64 m] w fun e w' => ∃ x : Int, e = .returned (.int .i64 x) ∧ 0 ≤ x ∧ (x < m ∨ x = 0) ∧ DrI w0 w' Br a len cap (p + 1) v zs ∧ w.grownBy w' (some Br) := pickD Br len cap a p m w0 w v zs hp hlen hm hD

theorem kwrap (x : Int) (h : -1000000 ≤ x ∧ x ≤ 1000000) : IntKind.i64.wrap x = x := IntWalk.i64_in x (by omega)
theorem tdiv23 {x : Int} (h0 : 0 ≤ x) (h1 : x < 24 ∨ x = 0) : 0 ≤ x.tdiv 23 ∧ x.tdiv 23 ≤ 1 := by rw [Int.tdiv_eq_ediv_of_nonneg h0]; omega
theorem mBd {x : Int} {n : Nat} (h0 : 0 ≤ x) (h1 : x < 24 ∨ x = 0) (hp : 1 ≤ (2 : Int) ^ n ∧ (2 : Int) ^ n ≤ 256) : IntKind.i64.wrap (IntKind.i64.wrap (2 ^ n) + IntKind.i64.wrap (x.tdiv 23)) ≤ 300 := by
  have := tdiv23 h0 h1
  rw [kwrap (2 ^ n) (by omega), kwrap (x.tdiv 23) (by omega), kwrap _ (by omega)]
  omega
theorem qBd {x y m : Int} (h0 : 0 ≤ x) (h1 : x < 24 ∨ x = 0) (h2 : 0 ≤ y) (h3 : y < m ∨ y = 0) (h4 : m ≤ 300) : -1 ≤ IntKind.i64.wrap (y - IntKind.i64.wrap (x.tdiv 23)) ∧ IntKind.i64.wrap (y - IntKind.i64.wrap (x.tdiv 23)) ≤ 300 := by
  have := tdiv23 h0 h1
  rw [kwrap (x.tdiv 23) (by omega), kwrap _ (by omega)]
  omega

end Go.Proofs.Ytacedadenbinmaa
namespace Go.Proofs.Ytacedadenbinmaa
open Go.RowKit

def GoodPost (w : World) (n : Nat) (e : Ending) (w' : World) : Prop := ∃ v ys, e = .returned v ∧ OwnI w' w.heap.size v ys ∧ good ys ∧ ys.length ≤ n ∧ Below w.heap.size w w'
theorem good.snoc {ys : List Int} {x : Int} (h : good ys) (hx : 1 ≤ x ∧ x ≤ 60) : good (ys ++ [x]) := fun y hy => by
  rcases List.mem_append.1 hy with hy | hy
  · exact h y hy
  · rw [List.mem_singleton.1 hy]; exact hx

def GoodPost2 (w : World) (n : Nat) (e : Ending) (w' : World) : Prop := ∃ v ys ok, e = .returned (.tuple #[v, .bool ok]) ∧ OwnI w' w.heap.size v ys ∧ good ys ∧ ys.length ≤ n ∧ Below w.heap.size w w'

end Go.Proofs.Ytacedadenbinmaa
namespace Go.Proofs.Ytacedadenbinmaa
open Go.RowKit

theorem RdAt.below {w w' : World} {Br len cap : Nat} {a : Option Addr} {p : Int} (h : RdAt w Br a len cap p) (hb : Below w.heap.size w w') : RdAt w' Br a len cap p :=
  ⟨(hb.block Br h.lt).trans h.1, h.2.same (hb.mono (Nat.le_of_lt h.lt))⟩
theorem DrI.below {w0 w w' : World} {Br len cap : Nat} {a : Option Addr} {p : Int} {v : Value} {zs : List Int} (h : DrI w0 w Br a len cap p v zs) (hb : Below w.heap.size w w') : DrI w0 w' Br a len cap p v zs :=
  ⟨h.1.below hb, h.2.1.keptB hb, h.2.2.1.trans (hb.mono (Nat.le_of_lt h.1.lt)), h.2.2.2⟩
theorem good.drawn {ys : List Int} (h : good ys) : okDrawn ys := fun z hz => by have := h z hz; omega

/-- the end of the draw, for each list -/
theorem drawEnd (Br len cap : Nat) (a : Option Addr) (p : Int) (w0 w : World) (v : Value) (zs : List Int) (hp : 0 ≤ p ∧ p ≤ 100000) (hlen : len ≤ 2000) (hz : zs.length ≤ 8) (hD : DrI w0 w Br a len cap p v zs) :
    ∃ ad cp, v = .slice ad zs.length cp ∧ IntsAt w ad zs := by
  obtain ⟨ad, cp, rfl, hI, _⟩ := hD.2.1.shape
  exact ⟨ad, cp, rfl, hI⟩

/-- two are drawn, the list's capacity with it -/
def Drawn2C (w : World) (most : Nat) (lo hi : Int) (e : Ending) (w' : World) : Prop :=
  ∃ ad cap zs q, e = .returned (.tuple #[.slice ad zs.length cap, .int .i64 q]) ∧ zs.length ≤ cap ∧ zs.length ≤ most ∧ okDrawn zs ∧ IntsAt w' ad zs ∧ lo ≤ q ∧ q ≤ hi ∧ Below w.heap.size w w'
theorem OwnI.capB {w : World} {base L cap : Nat} {a : Option Addr} {zs : List Int} (h : OwnI w base (.slice a L cap) zs) : L ≤ cap := by
  have hn := h.isLen
  obtain ⟨a', c', e, _, hc⟩ := h.shape
  simp only [Value.slice.injEq] at e
  omega

end Go.Proofs.Ytacedadenbinmaa
