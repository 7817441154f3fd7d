/- PanWeighed of the program: the closure that calls itself. Conditions: the list is as told. -/
import Derived.Laws.EntriesVeiled
import Derived.Deep.RegionWith
import Derived.Test.YtbpkffpejmlonaaM22
import Derived.Test.YtbpkffpejmlonaaRF
import Derived.Test.YtbpkffpejmlonaaIC
namespace Go.Proofs.Ytbpkffpejmlonaa
open Go.RowKit Go.Shelf

/-- the closure's three boxes, and the signs -/
def PwBx (W : World) (bA bW bP g n base : Nat) (a : Option Addr) (cap : Nat) : Prop :=
  (Boxed W bA 23 (.slice a n cap) ∧ Boxed W bW 23 (.slice (some ⟨g, 0, none⟩) n n) ∧ Boxed W bP 63 (.func (.func 123) #[] #[.pointer (some ⟨bA, 0, none⟩), .pointer (some ⟨bW, 0, none⟩), .pointer (some ⟨bP, 0, none⟩)])) ∧
    ∃ T : List Int, T.length = n ∧ OwnI W base (.slice (some ⟨g, 0, none⟩) n n) T
def PW1Post (w0 : World) (bA bW bP g n base : Nat) (a : Option Addr) (cap : Nat) (r : Bool) (e : Ending) (w' : World) : Prop :=
  e = .returned (.bool r) ∧ PwBx w' bA bW bP g n base a cap ∧ Below w0.heap.size w0 w'
theorem PwBx.drew {W : World} {bA bW bP g n base : Nat} {a : Option Addr} {cap : Nat} (h : PwBx W bA bW bP g n base a cap) : PwBx W.drew bA bW bP g n base a cap := h
theorem wrap_m {m x : Int} (hm : -2000 ≤ m ∧ m ≤ 2000) (hx : 1 ≤ x ∧ x ≤ 60) (s : Int) (hs : s = -1 ∨ s = 0 ∨ s = 1) : IntKind.i64.wrap (m - IntKind.i64.wrap (s * x)) = m - s * x := by
  have hb : -60 ≤ s * x ∧ s * x ≤ 60 := by rcases hs with rfl | rfl | rfl <;> omega
  rw [IntWalk.i64_in (s * x) (by omega), IntWalk.i64_in _ (by omega)]

set_option maxRecDepth 100000 in
set_option maxHeartbeats 3200000 in
theorem PW1_any (a : Option Addr) (cap : Nat) (zs : List Int) (bA bW bP g base : Nat) (hne : bA ≠ g ∧ bW ≠ g ∧ bP ≠ g) (hg : good zs) (hl : zs.length ≤ 10) (w0 : World) (h0 : w0.heap.size ≤ g) (hI0 : IntsAt w0 a zs) : ∀ (k place : Nat) (p q m : Int) (w : World), p = (place : Int) → q = m → place + k = zs.length → (-(1000 + 60 * (place : Int)) ≤ m ∧ m ≤ 1000 + 60 * place) → PwBx w bA bW bP g zs.length base a cap → Below w0.heap.size w0 w →
    Calls Try.prog 123 #[.int .i64 p, .int .i64 q, .pointer (some ⟨bA, 0, none⟩), .pointer (some ⟨bW, 0, none⟩), .pointer (some ⟨bP, 0, none⟩)] w
      (PW1Post w0 bA bW bP g zs.length base a cap (wfind (zs.drop place) m)) := by
  intro k
  induction k with
  | zero =>
    intro place p q m w hpp hqq hp hm hx hB
    subst hpp hqq
    have cA := hx.1.1.cell
    obtain rfl : place = zs.length := by omega
    rw [List.drop_length]
    have HX := Lib.hid hx
    clear hx
    have hpl2 : ((zs.length : Int) == (zs.length : Int)) = true := by simp
    go_enter Try.func123, Try.ntmps123
    go_wp2
    go_ret
    exact ⟨rfl, HX.out, hB⟩
  | succ k ih =>
    intro place p q m w hpp hqq hp hm hx hB
    subst hpp hqq
    obtain ⟨bb, off, rfl, hbb, hcell⟩ := (hI0.below hB).at (by omega)
    have hgx := good_get hg place (by omega)
    have hdr : zs.drop place = zs[place]?.getD 0 :: zs.drop (place + 1) := by
      rw [List.drop_eq_getElem_cons (by omega), List.getElem?_eq_getElem (by omega)]; rfl
    have HD := Lib.hid hdr
    clear hdr hcell
    obtain ⟨x, hxv⟩ : ∃ x, zs[place]?.getD 0 = x := ⟨_, rfl⟩
    rw [hxv] at hgx HD
    have cA := hx.1.1.cell
    have HX := Lib.hid hx
    have hpl : place ≤ 10 := by omega
    have HP := Lib.hid hp
    have hlt : place < zs.length := by omega
    have hrd : ∀ W, Below w0.heap.size w0 W → W.cell? ⟨bb, off + place, none⟩ = some (.int .i64 x) := fun W hW => by
      obtain ⟨bb2, off2, he, _, hcell⟩ := (hI0.below hW).at (by omega)
      simp only [Option.some.injEq, Addr.mk.injEq, and_true] at he
      obtain ⟨rfl, rfl⟩ := he
      rw [hcell place hlt, hxv]
    have HRD := Lib.hid hrd
    have hpl2 : ((place : Int) == (zs.length : Int)) = false := by simp; omega
    have HNS := Lib.hid (notYet_start (zs.drop (place + 1)) x q)
    clear hp hxv hx hrd
    go_enter Try.func123, Try.ntmps123
    go_wp2_with fail
    go_loopw [8] (fun i wr => ∃ (s : Int), -1 ≤ s ∧ s ≤ 2 ∧ i = .int .i64 s ∧ Hid (NotYet (zs.drop (place + 1)) x q s) ∧ Hid (PwBx wr bA bW bP g zs.length base (some ⟨bb, off, none⟩) cap) ∧ Below w0.heap.size w0 wr) (fun i _ => (2 - intOf i).toNat)
    case atStart => exact ⟨-1, by omega, by omega, rfl, HNS, HX, hB⟩
    case round =>
      obtain ⟨s, hs1, hs2, rfl, HNY, HPB, hBr⟩ := hrel
      clear HX cA hB HNS
      by_cases hs3 : s ≤ 1
      · have hcs : s = -1 ∨ s = 0 ∨ s = 1 := by omega
        have HCS := Lib.hid hcs
        obtain ⟨⟨h1, h2, h3⟩, T, hT, hO⟩ := HPB.out
        have cW := h2.cell
        obtain ⟨g', cp', he, _, hgl, hcell⟩ := hO.at (by omega)
        simp only [Value.slice.injEq, Option.some.injEq, Addr.mk.injEq, and_true] at he
        obtain ⟨rfl, hq1, hq2⟩ := he
        clear hq1 hq2
        have hx1 := (hcell place (by omega)).1
        have hf1 := (hcell place (by omega)).2
        have hHT := Lib.hid hT
        have HO := Lib.hid hO
        clear hcell hT hO hcs
        go_wp2_with fail
        have k1 : PwBx (wr.setCell ⟨g, place, none⟩ (.int .i64 s)) bA bW bP g zs.length base (some ⟨bb, off, none⟩) cap :=
          ⟨⟨h1.keptSet' (by omega) _, h2.keptSet' (by omega) _, h3.keptSet' (by omega) _⟩, _, by rw [List.length_set]; exact hHT.out, HO.out.put hHT.out place s⟩
        have kB : Below w0.heap.size w0 (wr.setCell ⟨g, place, none⟩ (.int .i64 s)) := hBr.setCell (p := ⟨_, _, none⟩) h0 _
        generalize (wr.setCell ⟨g, place, none⟩ (.int .i64 s)) = w3 at k1 kB ⊢
        clear h1 h2 h3 cW hx1 hf1 HO hHT HPB
        have cA := k1.1.1.cell
        have cP := k1.1.2.2.cell
        have hxc := HRD.out _ kB
        have K1 := Lib.hid k1
        clear k1
        have hsx : -60 ≤ s * x ∧ s * x ≤ 60 := by rcases HCS.out with rfl | rfl | rfl <;> omega
        go_region_with (go_at_call 123; refine (ih (place + 1) _ _ (q - s * x) _ ((IntWalk.i64_in _ (by omega)).trans (by omega)) (wrap_m (by omega) hgx s HCS.out) (by have := HP.out; omega) (by omega) ?_ ?_).mono ?_; (exact K1.out.drew); (exact kB.drew); rintro e w4 ⟨rfl, k2, kB4⟩)
        all_goals
          have K2 := Lib.hid k2
          clear k2 K1 cA cP hxc hsx
          obtain ⟨f, hf⟩ : ∃ f, wfind (zs.drop (place + 1)) (q - s * x) = f := ⟨_, rfl⟩
          rw [hf]
          have HFF := Lib.hid hf
          clear hf
          cases f with
          | true =>
            have HR : Hid (wfind (zs.drop place) q = true) := by show _ = _; rw [HD.out]; exact wfind_hit (by omega) HFF.out
            go_wp2
            go_ret
            exact ⟨by rw [HR.out]; rfl, K2.out, kB4⟩
          | false =>
            have HN := Lib.hid (HNY.out.next HFF.out)
            go_wp2
            go_roundw
            case rel => exact ⟨s + 1, by omega, by omega, by go_num, HN, K2, kB4⟩
            case measure => simp [intOf]; omega
      · obtain rfl : s = 2 := by omega
        have HR : Hid (wfind (zs.drop place) q = false) := by show _ = _; rw [HD.out]; exact notYet_end HNY.out
        go_wp2
        go_ret
        exact ⟨by rw [HR.out]; rfl, HPB.out, hBr⟩
end Go.Proofs.Ytbpkffpejmlonaa
