/- The lists that the generator draws: at most so many numbers and one, each from -1 to 61. Conditions: stated in each. -/
import Derived.Test.YtdpapalfafjncaaGreatDoorDR
namespace Go.Proofs.YtdpapalfafjncaaGreatDoor
open Go.RowKit

def okDrawn (zs : List Int) : Prop := ∀ z ∈ zs, -1 ≤ z ∧ z ≤ 61
theorem okDrawn.snoc {zs : List Int} {z : Int} (h : okDrawn zs) (hz : -1 ≤ z ∧ z ≤ 61) : okDrawn (zs ++ [z]) := fun y hy => by
  rcases List.mem_append.1 hy with hy | hy
  · exact h y hy
  · rw [List.mem_singleton.1 hy]; exact hz
/-- a list is being drawn: the reader, and what is owned so far -/
def DrI (w0 w : World) (Br : Nat) (a : Option Addr) (len cap : Nat) (p : Int) (v : Value) (zs : List Int) : Prop :=
  RdAt w Br a len cap p ∧ OwnI w w0.heap.size v zs ∧ Below Br w0 w ∧ Br < w0.heap.size
theorem pickD (Br len cap : Nat) (a : Option Addr) (p m : Int) (w0 w : World) (v : Value) (zs : List Int) (hp : 0 ≤ p ∧ p ≤ 1000000) (hlen : len ≤ 2000) (hm : m ≤ 1000000) (hD : DrI w0 w Br a len cap p v zs) :
    Calls Tryz.prog 46 #[.pointer (some ⟨Br, 0, none⟩), .int .i64 m] w fun e w' => ∃ x : Int, e = .returned (.int .i64 x) ∧ 0 ≤ x ∧ (x < m ∨ x = 0) ∧ DrI w0 w' Br a len cap (p + 1) v zs ∧ w.grownBy w' (some Br) := by
  obtain ⟨hR, hO, hB, hlt⟩ := hD
  refine (pick_any Br len cap a p m w hp hlen hm hR).mono ?_
  rintro e w' ⟨x, rfl, h0, h1, hR2, hG⟩
  exact ⟨x, rfl, h0, h1, ⟨hR2, hO.kept_below hG (fun r hr => by cases hr; exact hlt), hB.grown hG (Nat.le_of_lt hR.lt) (fun k hk => by cases hk; exact Nat.le_refl _), hlt⟩, hG⟩
theorem DrI.alloc {w0 w : World} {Br len cap : Nat} {a : Option Addr} {p : Int} {v : Value} {zs : List Int} (h : DrI w0 w Br a len cap p v zs) (o : Obj) : DrI w0 (w.alloc o) Br a len cap p v zs :=
  ⟨h.1.kept (World.grownBy_alloc w o none) (fun r hr => by cases hr), World.ownsRow.alloc h.2.1 o, h.2.2.1.alloc (Nat.le_of_lt h.1.lt) o, h.2.2.2⟩
theorem appendD (w0 w : World) {ops : Array Oper} {rest : List Oper} {o : Oper} {a : Act} {Q : Exit → Act → World → Prop} (hgd : o.guard = none) (s x : Operand)
    (ho : o.op = .call { callee := .builtin .append, args := #[s, x], argTypes := #[23, 23] }) (v : Value) (zs : List Int) (z : Int)
    (hs : a.eval s = v) (hx : a.eval x = .slice (some ⟨w.heap.size, 0, none⟩) 1 1) {Br len cap : Nat} {ad : Option Addr} {p : Int} (hl : zs.length ≤ 1000000) (hD : DrI w0 w Br ad len cap p v zs)
    (h : ∀ v' w', DrI w0 w' Br ad len cap p v' (zs ++ [z]) → wpList Tryz.prog ops Q rest (a.put o.dst v') w') :
    wpList Tryz.prog ops Q (o :: rest) a (w.alloc (.cells #[.int .i64 z] 3)) := by
  obtain ⟨hR, hO, hB, hlt⟩ := hD
  refine append1 w hgd s x ho w0.heap.size v zs z hs hx hO hl hB.size ?_
  intro v' w' hO' hG
  exact h v' w' ⟨hR.kept hG (fun r hr => Nat.lt_of_lt_of_le hlt (hO.lt r hr).1), hO', hB.grown hG (Nat.le_of_lt hR.lt) (fun k hk => Nat.le_trans (Nat.le_of_lt hlt) (hO.lt k hk).1), hlt⟩

def ListPost (w : World) (Br : Nat) (a : Option Addr) (len cap : Nat) (p : Int) (most : Nat) (e : Ending) (w' : World) : Prop :=
  ∃ v zs p', e = .returned v ∧ DrI w w' Br a len cap p' v zs ∧ zs.length ≤ most + 1 ∧ okDrawn zs ∧ p ≤ p' ∧ p' ≤ p + 2 * most + 10

set_option maxHeartbeats 1600000 in
theorem l91List_any (Br len cap : Nat) (a : Option Addr) (p g : Int) (most : Nat) (w : World) (hp : 0 ≤ p ∧ p ≤ 100000) (hlen : len ≤ 2000) (hm : most ≤ 100) (hg : 1 ≤ g ∧ g ≤ 60) (hR : RdAt w Br a len cap p) :
    Calls Tryz.prog 35 #[.pointer (some ⟨Br, 0, none⟩), .int .i64 most, .int .i64 g] w (ListPost w Br a len cap p most) := by
  have hD0 : DrI w (w.alloc (.cells #[] 3)) Br a len cap p (.slice (some ⟨w.heap.size, 0, none⟩) 0 0) [] :=
    ⟨hR.kept (World.grownBy_alloc w _ none) (fun r hr => by cases hr), World.ownsRow_lit w #[] 0 (Nat.le_refl _) (by unfold maxLen; omega) (by simp), (Below.refl _ _).alloc (Nat.le_of_lt hR.lt) _, hR.lt⟩
  go_enter Tryz.func35, Tryz.ntmps35
  go_wp2_with fail
  refine (pickD Br len cap a _ _ w _ _ _ (by omega) hlen (by omega) hD0).mono ?_
  rintro e w1 ⟨n, rfl, hn0, hn1, hD1, _⟩
  clear hD0
  go_wp2_with fail
  refine (pickD Br len cap a _ _ w _ _ _ (by omega) hlen (by omega) hD1).mono ?_
  rintro e w2 ⟨kind, rfl, hk0, hk1, hD2, _⟩
  clear hD1
  go_wp2_with fail
  go_loopw [7, 10] (fun v i wr => ∃ (k : Nat) (zs : List Int) (p' : Int), k ≤ n ∧ i = .int .i64 k ∧ zs.length = k ∧ okDrawn zs ∧ DrI w wr Br a len cap p' v zs ∧ p ≤ p' ∧ p' ≤ p + 2 + 2 * k) (fun _ i _ => n.toNat - (intOf i).toNat)
  case atStart => exact ⟨0, [], _, by omega, rfl, rfl, (fun z hz => by cases hz), hD2, by omega, by omega⟩
  case round =>
    obtain ⟨k, zs, p', hk, rfl, hzl, hzs, hDr, hp1, hp2⟩ := hrel
    have hpw := pow_bd (k % 6) (by omega)
    by_cases hlt : (k : Int) < n
    · go_wp2_with (first
        | (go_at_call 46; refine (pickD Br len cap a _ _ w _ _ _ ?_ hlen ?_ ‹DrI w _ Br a len cap _ _ _›).mono ?_; (omega); (omega); rintro e w' ⟨x, rfl, hx0, hx1, hD', _⟩)
        | (at_builtin; refine appendD w _ rfl _ _ rfl _ _ _ rfl rfl ?_ ‹DrI w _ Br a len cap _ _ _› ?_; (omega); intro v' w' hD'))
      all_goals
        go_roundw
        case rel => exact ⟨k + 1, _, _, by omega, by go_num, by simp [hzl], hzs.snoc (by first | omega | (split <;> omega)), hD', by omega, by omega⟩
        case measure => simp [intOf]; omega
    · go_wp2_with fail
      refine (pickD Br len cap a _ _ w _ _ _ (by omega) hlen (by omega) hDr).mono ?_
      rintro e w3 ⟨x, rfl, hx0, hx1, hD3, _⟩
      clear hDr hD2
      go_wp2_with fail
      · refine (pickD Br len cap a _ _ w _ _ _ (by omega) hlen (by omega) (hD3.alloc _)).mono ?_
        rintro e w4 ⟨y, rfl, hy0, hy1, hD4, hG⟩
        have hbr := hD3.1.lt
        have hblk := hG.block w3.heap.size (by simp) (fun e => by cases e; omega)
        rw [heap_alloc_new] at hblk
        have q0 : w4.cell? ⟨w3.heap.size, 0, none⟩ = some (.int .i64 0) := by simp [World.cell?, hblk]
        have q1 : w4.cell? ⟨w3.heap.size, 1, none⟩ = some (.int .i64 61) := by simp [World.cell?, hblk]
        have q2 : w4.cell? ⟨w3.heap.size, 2, none⟩ = some (.int .i64 (-1)) := by simp [World.cell?, hblk]
        clear hblk hG hD3
        have hy : y = 0 ∨ y = 1 ∨ y = 2 := by omega
        rcases hy with rfl | rfl | rfl
        all_goals
          go_wp2_with (at_builtin; refine appendD w _ rfl _ _ rfl _ _ _ rfl rfl ?_ hD4 ?_; (omega); intro v' w' hD')
          go_ret
          exact ⟨_, _, _, rfl, hD', by simp; omega, hzs.snoc (by omega), by omega, by omega⟩
      · go_wp2
        go_ret
        exact ⟨_, _, _, rfl, hD3, by omega, hzs, by omega, by omega⟩

theorem BytesAt.le {w : World} {B : Nat} {a : Option Addr} {len l : Nat} (h : BytesAt w B a len) (hl : l ≤ len) : BytesAt w B a l := by
  rcases h with h | ⟨b, off, h1, h2, h3⟩
  · exact .inl (by omega)
  · exact .inr ⟨b, off, h1, h2, fun j hj => h3 j (by omega)⟩
theorem rdAt_new (w : World) (a : Option Addr) (l c : Nat) (h : BytesAt w w.heap.size a l) : RdAt (w.alloc (.cells #[.slice a l c, .int .i64 0] 76)) w.heap.size a l c 0 :=
  ⟨heap_alloc_new w _, h.same ((Below.refl _ _).alloc (Nat.le_refl _) _)⟩

theorem l6Open_any (a : Option Addr) (len cap : Nat) (w : World) (hl : len ≤ 1048576) (hcap : len ≤ cap) (hb : BytesAt w w.heap.size a len) :
    Calls Tryz.prog 28 #[.slice a len cap] w fun e w' => ∃ l c, e = .returned (.pointer (some ⟨w.heap.size, 0, none⟩)) ∧ l ≤ 2000 ∧ RdAt w' w.heap.size a l c 0 ∧ Below w.heap.size w w' := by
  go_enter Tryz.func28, Tryz.ntmps28
  go_wp2
  · go_ret
    exact ⟨2000, cap, rfl, by omega, rdAt_new _ _ _ _ (hb.le (by omega)), (Below.refl _ _).alloc (Nat.le_refl _) _⟩
  · go_ret
    exact ⟨len, cap, rfl, by omega, rdAt_new _ _ _ _ hb, (Below.refl _ _).alloc (Nat.le_refl _) _⟩

/-- a drawn list -/
def DrawnPost (w : World) (most : Nat) (e : Ending) (w' : World) : Prop :=
  ∃ ad cap zs, e = .returned (.slice ad zs.length cap) ∧ zs.length ≤ most ∧ okDrawn zs ∧ IntsAt w' ad zs ∧ Below w.heap.size w w'

theorem l91Some_any (a : Option Addr) (len cap : Nat) (w : World) (hl : len ≤ 1048576) (hcap : len ≤ cap) (hb : BytesAt w w.heap.size a len) :
    Calls Tryz.prog 15 #[.slice a len cap] w (DrawnPost w 9) := by
  go_enter Tryz.func15, Tryz.ntmps15
  go_wp2_with fail
  refine (l6Open_any a len cap w hl hcap hb).mono ?_
  rintro e w1 ⟨l, c, rfl, hl2, hR, hB⟩
  go_wp2_with fail
  refine (l91List_any w.heap.size l c a 0 20 8 w1 (by omega) hl2 (by omega) (by omega) hR).mono ?_
  rintro e w2 ⟨v, zs, p', rfl, hD, hz1, hz2, _, _⟩
  obtain ⟨ad, cp, rfl, hI, _⟩ := hD.2.1.shape
  have hB2 := hB.trans hD.2.2.1
  clear hD hR
  go_wp2
  go_ret
  exact ⟨ad, cp, zs, rfl, by omega, hz2, hI, hB2⟩
end Go.Proofs.YtdpapalfafjncaaGreatDoor
