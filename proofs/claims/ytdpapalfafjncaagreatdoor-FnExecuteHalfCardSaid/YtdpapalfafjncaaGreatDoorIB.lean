/- HalfBest of the program: the closure that calls itself. Conditions: the list is as told. -/
import Derived.Test.YtdpapalfafjncaaGreatDoorIK
import Derived.Test.YtdpapalfafjncaaGreatDoorM16
namespace Go.Proofs.YtdpapalfafjncaaGreatDoor
open Go.RowKit Go.Shelf

theorem sizeOf_any (v : Int) (w : World) (hv : -1000000 ≤ v ∧ v ≤ 1000000) :
    Calls Tryz.prog 19 #[.int .i64 v] w fun e w' => e = .returned (.int .i64 (sz v)) ∧ w = w' := by
  go_enter Tryz.func19, Tryz.ntmps19
  go_wp2
  all_goals
    go_ret
    exact ⟨ret_int (by unfold sz; omega), rfl⟩
/-- the closure's three boxes -/
def SgnBx (W : World) (bA bB bP : Nat) (a : Option Addr) (len cap : Nat) (b : Int) : Prop :=
  Boxed W bA 23 (.slice a len cap) ∧ Boxed W bB 3 (.int .i64 b) ∧ Boxed W bP 36 (.func (.func 18) #[] #[.pointer (some ⟨bA, 0, none⟩), .pointer (some ⟨bB, 0, none⟩), .pointer (some ⟨bP, 0, none⟩)])

theorem sgnMin_nn (zs : List Int) : ∀ d b, 0 ≤ b → 0 ≤ sgnMin zs d b := by
  induction zs with
  | nil => intro d b h; simp only [sgnMin, sz]; omega
  | cons x xs ih => intro d b h; simp only [sgnMin]; exact ih _ _ (ih _ _ h)
/-- what the closure leaves -/
def HB1Post (w0 : World) (bA bB bP : Nat) (a : Option Addr) (len cap : Nat) (r : Int) (e : Ending) (w' : World) : Prop :=
  e = .returned (.tuple #[]) ∧ SgnBx w' bA bB bP a len cap r ∧ Below w0.heap.size w0 w'

set_option maxHeartbeats 1600000 in
theorem HB1_any (a : Option Addr) (cap : Nat) (zs : List Int) (bA bB bP : Nat) (hne : bA ≠ bB ∧ bB ≠ bP ∧ bA ≠ bP) (hg : good zs) (hl : zs.length ≤ 10) (w0 : World) (h0 : w0.heap.size ≤ bB) (hI0 : IntsAt w0 a zs) : ∀ (k place : Nat) (p q d b : Int) (w : World), p = (place : Int) → q = d → place + k = zs.length → (-(60 * (place : Int)) ≤ d) → (d ≤ 60 * place) → 0 ≤ b ∧ b ≤ 10000 → SgnBx w bA bB bP a zs.length cap b → Below w0.heap.size w0 w →
    Calls Tryz.prog 18 #[.int .i64 p, .int .i64 q, .pointer (some ⟨bA, 0, none⟩), .pointer (some ⟨bB, 0, none⟩), .pointer (some ⟨bP, 0, none⟩)] w
      (HB1Post w0 bA bB bP a zs.length cap (sgnMin (zs.drop place) d b)) := by
  intro k
  induction k with
  | zero =>
    intro place p q d b w hpp hqq hp hd1 hd2 hb hx hB
    subst hpp hqq
    obtain ⟨h1, h2, h3⟩ := hx
    have c1 := h1.cell
    have c2 := h2.cell
    have f2 := h2.frozen
    have c3 := h3.cell
    obtain rfl : place = zs.length := by omega
    go_enter Tryz.func18, Tryz.ntmps18
    go_wp2
    go_region_with (go_at_call 19; refine (sizeOf_any q _ (by omega)).mono ?_; rintro e w' ⟨rfl, rfl⟩)
    all_goals
      go_wp2
      all_goals
        refine bodyPost_ret (v := .tuple #[]) (by simp [results, Tryz.f18, go_sem]) rfl ?_
        refine ⟨rfl, ⟨h1.other (by omega) _, ?_, h3.other (by omega) _⟩, by first | exact hB.setCell (p := ⟨_, 0, none⟩) h0 _ | exact (hB.setCell (p := ⟨_, 0, none⟩) h0 _).drew | exact (hB.drew.setCell (p := ⟨_, 0, none⟩) h0 _)⟩
        first
          | (have e : sgnMin [] q b = sz q := by simp only [sgnMin]; omega
             rw [e]; exact h2.set _)
          | (have e : sgnMin [] q b = b := by simp only [sgnMin]; omega
             rw [e]; exact h2.set _)
  | succ k ih =>
    intro place p q d b w hpp hqq hp hd1 hd2 hb hx hB
    subst hpp hqq
    have hsB : bB < w.heap.size := (Array.getElem?_eq_some_iff.1 hx.2.1).1
    obtain ⟨bb, off, rfl, hbb, hcell⟩ := (hI0.below hB).at (by omega)
    have hxc := hcell place (by omega)
    have hgx := good_get hg place (by omega)
    have hdr : zs.drop place = zs[place]?.getD 0 :: zs.drop (place + 1) := by
      rw [List.drop_eq_getElem_cons (by omega), List.getElem?_eq_getElem (by omega)]; rfl
    have HD := Lib.hid hdr
    clear hdr hcell
    obtain ⟨x, hxv⟩ : ∃ x, zs[place]?.getD 0 = x := ⟨_, rfl⟩
    rw [hxv] at hxc hgx HD
    have HXV := Lib.hid hxv
    obtain ⟨h1, h2, h3⟩ := hx
    have c1 := h1.cell
    have c3 := h3.cell
    have hpl : place ≤ 10 := by omega
    have HP := Lib.hid hp
    have hlt : place < zs.length := by omega
    clear hp hxv
    go_enter Tryz.func18, Tryz.ntmps18
    go_wp2_with fail
    go_region_with (go_at_call 18; refine (ih (place + 1) _ _ (q + x) b _ ((IntWalk.i64_in _ (by omega)).trans (by omega)) (IntWalk.i64_in _ (by omega)) (by have := HP.out; omega) (by omega) (by omega) hb ?_ ?_).mono ?_; (exact ⟨h1, h2, h3⟩); (first | exact hB | exact hB.drew); rintro e w1 ⟨rfl, hS1, hB1⟩)
    all_goals
      have hn1 := sgnMin_nn (zs.drop (place + 1)) (q + x) b hb.1
      have hn2 := sgnMin_b (zs.drop (place + 1)) (q + x) b
      have HR := Lib.hid (show sgnMin (zs.drop place) q b = sgnMin (zs.drop (place + 1)) (q - x) (sgnMin (zs.drop (place + 1)) (q + x) b) by rw [HD.out]; rfl)
      generalize sgnMin (zs.drop (place + 1)) (q + x) b = b1 at hS1 hn1 hn2 HR
      obtain ⟨k1, k2, k3⟩ := hS1
      clear h1 h2 h3 c1 c3 hxc
      have c1 := k1.cell
      have c3 := k3.cell
      obtain ⟨bb2, off2, he, _, hcell⟩ := (hI0.below hB1).at (by omega)
      simp only [Option.some.injEq, Addr.mk.injEq, and_true] at he
      obtain ⟨rfl, rfl⟩ := he
      have hxc := hcell place hlt
      rw [HXV.out] at hxc
      clear hcell
      go_wp2_with fail
      go_region_with (go_at_call 18; refine (ih (place + 1) _ _ (q - x) b1 _ ((IntWalk.i64_in _ (by omega)).trans (by omega)) (IntWalk.i64_in _ (by omega)) (by have := HP.out; omega) (by omega) (by omega) ⟨hn1, by omega⟩ ?_ ?_).mono ?_; (exact ⟨k1, k2, k3⟩); (first | exact hB1 | exact hB1.drew); rintro e w2 ⟨rfl, hS2, hB2⟩)
      all_goals
        go_wp2
        refine bodyPost_ret (v := .tuple #[]) (by simp [results, Tryz.f18, go_sem]) rfl ?_
        exact ⟨rfl, by rw [HR.out]; exact hS2, hB2⟩
end Go.Proofs.YtdpapalfafjncaaGreatDoor
