/- HalfThree of the program: the closure that calls itself. Conditions: the list is as told. -/
import Derived.Laws.EntriesVeiled
import Derived.Test.YtbpkffpejmlonaaIM
import Derived.Test.YtbpkffpejmlonaaMX
namespace Go.Proofs.Ytbpkffpejmlonaa
open Go.RowKit Go.Shelf
attribute [local go_sem] run_max3

/-- three sums in their box -/
def Box3 (W : World) (B : Nat) (x y z : Int) : Prop := W.heap[B]? = some (.cells #[.int .i64 x, .int .i64 y, .int .i64 z] 56 (0, 0))
theorem Box3.c0 {W : World} {B : Nat} {x y z : Int} (h : Box3 W B x y z) : W.cell? ⟨B, 0, none⟩ = some (.int .i64 x) := by simp [World.cell?, show W.heap[B]? = _ from h]
theorem Box3.c1 {W : World} {B : Nat} {x y z : Int} (h : Box3 W B x y z) : W.cell? ⟨B, 1, none⟩ = some (.int .i64 y) := by simp [World.cell?, show W.heap[B]? = _ from h]
theorem Box3.c2 {W : World} {B : Nat} {x y z : Int} (h : Box3 W B x y z) : W.cell? ⟨B, 2, none⟩ = some (.int .i64 z) := by simp [World.cell?, show W.heap[B]? = _ from h]
theorem Box3.f0 {W : World} {B : Nat} {x y z : Int} (h : Box3 W B x y z) : W.frozen? ⟨B, 0, none⟩ = false := by simp [World.frozen?, show W.heap[B]? = _ from h]
theorem Box3.f1 {W : World} {B : Nat} {x y z : Int} (h : Box3 W B x y z) : W.frozen? ⟨B, 1, none⟩ = false := by simp [World.frozen?, show W.heap[B]? = _ from h]
theorem Box3.f2 {W : World} {B : Nat} {x y z : Int} (h : Box3 W B x y z) : W.frozen? ⟨B, 2, none⟩ = false := by simp [World.frozen?, show W.heap[B]? = _ from h]
theorem Box3.other {W : World} {B g j : Nat} {x y z : Int} (h : Box3 W B x y z) (hne : B ≠ g) (v : Value) : Box3 (W.setCell ⟨g, j, none⟩ v) B x y z :=
  (Below.heap_setCell W ⟨g, j, none⟩ v B hne).trans h
theorem Box3.s0 {W : World} {B : Nat} {x y z : Int} (h : Box3 W B x y z) (u : Int) : Box3 (W.setCell ⟨B, 0, none⟩ (.int .i64 u)) B u y z := by
  obtain ⟨hlt, hk⟩ := Array.getElem?_eq_some_iff.1 h
  show (W.heap.modify B _)[B]? = _
  rw [Array.getElem?_eq_getElem (by rw [Array.size_modify]; exact hlt), Array.getElem_modify_self, hk]
  rfl
theorem Box3.s1 {W : World} {B : Nat} {x y z : Int} (h : Box3 W B x y z) (u : Int) : Box3 (W.setCell ⟨B, 1, none⟩ (.int .i64 u)) B x u z := by
  obtain ⟨hlt, hk⟩ := Array.getElem?_eq_some_iff.1 h
  show (W.heap.modify B _)[B]? = _
  rw [Array.getElem?_eq_getElem (by rw [Array.size_modify]; exact hlt), Array.getElem_modify_self, hk]
  rfl
theorem Box3.s2 {W : World} {B : Nat} {x y z : Int} (h : Box3 W B x y z) (u : Int) : Box3 (W.setCell ⟨B, 2, none⟩ (.int .i64 u)) B x y u := by
  obtain ⟨hlt, hk⟩ := Array.getElem?_eq_some_iff.1 h
  show (W.heap.modify B _)[B]? = _
  rw [Array.getElem?_eq_getElem (by rw [Array.size_modify]; exact hlt), Array.getElem_modify_self, hk]
  rfl
/-- the closure's four boxes -/
def ThBx (W : World) (bA bB bS bP : Nat) (a : Option Addr) (len cap : Nat) (b x y z : Int) : Prop :=
  Boxed W bA 23 (.slice a len cap) ∧ Boxed W bB 3 (.int .i64 b) ∧ Box3 W bS x y z ∧ Boxed W bP 57 (.func (.func 115) #[] #[.pointer (some ⟨bA, 0, none⟩), .pointer (some ⟨bB, 0, none⟩), .pointer (some ⟨bS, 0, none⟩), .pointer (some ⟨bP, 0, none⟩)])
def HT1Post (w0 : World) (bA bB bS bP : Nat) (a : Option Addr) (len cap : Nat) (r x y z : Int) (e : Ending) (w' : World) : Prop :=
  e = .returned (.tuple #[]) ∧ ThBx w' bA bB bS bP a len cap r x y z ∧ Below w0.heap.size w0 w'
/-- what is left as the best behind so many sides -/
def thS (vs : List Int) (v x y z b : Int) : Nat → Int
  | 0 => b
  | 1 => th vs (x + v) y z b
  | 2 => th vs x (y + v) z (th vs (x + v) y z b)
  | _ + 3 => th (v :: vs) x y z b
theorem th_nn (zs : List Int) : ∀ x y z b, 0 ≤ x → 0 ≤ y → 0 ≤ z → 0 ≤ b → good zs → 0 ≤ th zs x y z b := by
  induction zs with
  | nil => intro x y z b h1 h2 h3 h4 _; simp only [th, mx3]; omega
  | cons v vs ih =>
    intro x y z b h1 h2 h3 h4 hg
    have hv := hg v (List.mem_cons_self ..)
    have hg2 : good vs := fun u hu => hg u (List.mem_cons_of_mem _ hu)
    simp only [th]
    exact ih _ _ _ _ h1 h2 (by omega) (ih _ _ _ _ h1 (by omega) h3 (ih _ _ _ _ (by omega) h2 h3 h4 hg2) hg2) hg2

set_option maxHeartbeats 3200000 in
theorem HT1_any (a : Option Addr) (cap : Nat) (zs : List Int) (bA bB bS bP : Nat) (hne : bA ≠ bB ∧ bA ≠ bS ∧ bA ≠ bP ∧ bB ≠ bS ∧ bB ≠ bP ∧ bS ≠ bP) (hg : good zs) (hl : zs.length ≤ 10) (w0 : World) (h0 : w0.heap.size ≤ bB) (h0S : w0.heap.size ≤ bS) (hI0 : IntsAt w0 a zs) : ∀ (k place : Nat) (p x y z b : Int) (w : World), p = (place : Int) → place + k = zs.length → (0 ≤ x ∧ x ≤ 60 * place) → (0 ≤ y ∧ y ≤ 60 * place) → (0 ≤ z ∧ z ≤ 60 * place) → 0 ≤ b ∧ b ≤ 10000 → ThBx w bA bB bS bP a zs.length cap b x y z → Below w0.heap.size w0 w →
    Calls Try.prog 115 #[.int .i64 p, .pointer (some ⟨bA, 0, none⟩), .pointer (some ⟨bB, 0, none⟩), .pointer (some ⟨bS, 0, none⟩), .pointer (some ⟨bP, 0, none⟩)] w
      (HT1Post w0 bA bB bS bP a zs.length cap (th (zs.drop place) x y z b) x y z) := by
  intro k
  induction k with
  | zero =>
    intro place p x y z b w hpp hp hx1 hy1 hz1 hb hx hB
    subst hpp
    obtain ⟨h1, h2, h3, h4⟩ := hx
    have cA := h1.cell
    have cB := h2.cell
    have fB := h2.frozen
    have q0 := h3.c0
    have q1 := h3.c1
    have q2 := h3.c2
    obtain rfl : place = zs.length := by omega
    rw [List.drop_length]
    go_enter Try.func115, Try.ntmps115
    go_wp2
    all_goals
      refine bodyPost_ret (v := .tuple #[]) (by simp [results, Try.f115, go_sem]) rfl ?_
      refine ⟨rfl, ⟨h1.other (by omega) _, ?_, h3.other (by omega) _, h4.other (by omega) _⟩, hB.setCell (p := ⟨_, 0, none⟩) h0 _⟩
      refine Eq.mp (congrArg (fun r => Boxed _ bB 3 (.int .i64 r)) ?_) (h2.set _)
      simp only [th]
      (repeat' split) <;> omega
  | succ k ih =>
    intro place p x y z b w hpp hp hx1 hy1 hz1 hb hx hB
    subst hpp
    obtain ⟨bb, off, rfl, hbb, hcell⟩ := (hI0.below hB).at (by omega)
    have hgx := good_get hg place (by omega)
    have hgd : good (zs.drop (place + 1)) := fun u hu => hg u (List.mem_of_mem_drop hu)
    have hdr : zs.drop place = zs[place]?.getD 0 :: zs.drop (place + 1) := by
      rw [List.drop_eq_getElem_cons (by omega), List.getElem?_eq_getElem (by omega)]; rfl
    have HD := Lib.hid hdr
    clear hdr hcell
    obtain ⟨v, hxv⟩ : ∃ v, zs[place]?.getD 0 = v := ⟨_, rfl⟩
    rw [hxv] at hgx HD
    have HXV := Lib.hid hxv
    have cA := hx.1.cell
    have HX := Lib.hid hx
    have hpl : place ≤ 10 := by omega
    have HP := Lib.hid hp
    have hlt : place < zs.length := by omega
    have HN : Hid (∀ x y z b, 0 ≤ x → 0 ≤ y → 0 ≤ z → 0 ≤ b → 0 ≤ th (zs.drop (place + 1)) x y z b) := fun x y z b h1 h2 h3 h4 => th_nn _ x y z b h1 h2 h3 h4 hgd
    have HBd : Hid (∀ x y z b, th (zs.drop (place + 1)) x y z b ≤ b) := fun x y z b => th_b _ x y z b
    have HS : Hid (th (zs.drop place) x y z b = thS (zs.drop (place + 1)) v x y z b 3) := by rw [HD.out]; exact rfl
    have hrd : ∀ W, Below w0.heap.size w0 W → W.cell? ⟨bb, off + place, none⟩ = some (.int .i64 v) := fun W hW => by
      obtain ⟨bb2, off2, he, _, hcell⟩ := (hI0.below hW).at (by omega)
      simp only [Option.some.injEq, Addr.mk.injEq, and_true] at he
      obtain ⟨rfl, rfl⟩ := he
      rw [hcell place hlt, hxv]
    have HRD := Lib.hid hrd
    have hpl2 : ((place : Int) == (zs.length : Int)) = false := by simp; omega
    clear hp hxv hx hgd hrd
    go_enter Try.func115, Try.ntmps115
    go_wp2_with fail
    go_loopw [20] (fun i wr => ∃ (s : Nat) (b' : Int), s ≤ 3 ∧ i = .int .i64 s ∧ Hid (b' = thS (zs.drop (place + 1)) v x y z b s) ∧ (0 ≤ b' ∧ b' ≤ 10000) ∧ ThBx wr bA bB bS bP (some ⟨bb, off, none⟩) zs.length cap b' x y z ∧ Below w0.heap.size w0 wr) (fun i _ => 3 - (intOf i).toNat)
    case atStart => exact ⟨0, b, by omega, rfl, rfl, hb, HX.out, hB⟩
    case round =>
      obtain ⟨s, b', hs, rfl, HB', hb', hX, hBr⟩ := hrel
      clear HX cA hB
      by_cases hs3 : s < 3
      · have HV : Hid (∀ x' y' z' : Int, (0 ≤ x' ∧ x' ≤ 60 * ((place + 1 : Nat) : Int)) → (0 ≤ y' ∧ y' ≤ 60 * ((place + 1 : Nat) : Int)) → (0 ≤ z' ∧ z' ≤ 60 * ((place + 1 : Nat) : Int)) → ∀ W, ThBx W bA bB bS bP (some ⟨bb, off, none⟩) zs.length cap b' x' y' z' → Below w0.heap.size w0 W →
            Calls Try.prog 115 #[.int .i64 ((place : Int) + 1), .pointer (some ⟨bA, 0, none⟩), .pointer (some ⟨bB, 0, none⟩), .pointer (some ⟨bS, 0, none⟩), .pointer (some ⟨bP, 0, none⟩)] W (HT1Post w0 bA bB bS bP (some ⟨bb, off, none⟩) zs.length cap (th (zs.drop (place + 1)) x' y' z' b') x' y' z')) :=
          fun x' y' z' hx' hy' hz' W hW hBW => ih (place + 1) _ x' y' z' b' W (by omega) (by have := HP.out; omega) hx' hy' hz' hb' hW hBW
        obtain ⟨h1, h2, h3, h4⟩ := hX
        have cA := h1.cell
        have cP := h4.cell
        have hxc := HRD.out _ hBr
        have hcases : s = 0 ∨ s = 1 ∨ s = 2 := by omega
        rcases hcases with rfl | rfl | rfl
        · have q := h3.c0
          have qf := h3.f0
          go_wp2_with fail
          go_region
          have k1 : ThBx (wr.setCell ⟨bS, 0, none⟩ (.int .i64 (x + v))).drew bA bB bS bP (some ⟨bb, off, none⟩) zs.length cap b' (x + v) y z :=
            ⟨h1.keptSet (by omega) _, h2.keptSet (by omega) _, h3.s0 _, h4.keptSet (by omega) _⟩
          have kB : Below w0.heap.size w0 (wr.setCell ⟨bS, 0, none⟩ (.int .i64 (x + v))).drew := (hBr.setCell (p := ⟨_, _, none⟩) h0S _).drew
          generalize (wr.setCell ⟨bS, 0, none⟩ (.int .i64 (x + v))).drew = w3 at k1 kB ⊢
          clear cA cP hxc q qf h1 h2 h3 h4
          have cP := k1.2.2.2.cell
          have K1 := Lib.hid k1
          clear k1
          go_wp2_with (go_at_call 115; refine (HV.out (x + v) y z (by omega) (by omega) (by omega) _ K1.out kB).mono ?_; rintro e w4 ⟨rfl, k2, kB4⟩)
          have hn1 := HN.out (x + v) y z b' (by omega) (by omega) (by omega) hb'.1
          have hn2 := HBd.out (x + v) y z b'
          have HB2 : Hid (th (zs.drop (place + 1)) (x + v) y z b' = thS (zs.drop (place + 1)) v x y z b 1) := by rw [HB'.out]; exact rfl
          generalize th (zs.drop (place + 1)) (x + v) y z b' = b2 at *
          obtain ⟨j1, j2, j3, j4⟩ := k2
          have cA := j1.cell
          have hxc := HRD.out _ kB4
          have q := j3.c0
          have qf := j3.f0
          clear cP K1
          go_wp2_with fail
          go_region
          go_wp2
          go_roundw
          case rel => exact ⟨1, b2, by omega, by go_num, HB2, by omega, ⟨j1.keptSet (by omega) _, j2.keptSet (by omega) _, by first | exact j3.s0 _ | (have := j3.s0 (x + v - v); rw [show x + v - v = x by omega] at this ⊢; exact this), j4.keptSet (by omega) _⟩, (kB4.setCell (p := ⟨_, _, none⟩) h0S _).drew⟩
          case measure => simp [intOf]
        · have q := h3.c1
          have qf := h3.f1
          go_wp2_with fail
          go_region
          have k1 : ThBx (wr.setCell ⟨bS, 1, none⟩ (.int .i64 (y + v))).drew bA bB bS bP (some ⟨bb, off, none⟩) zs.length cap b' x (y + v) z :=
            ⟨h1.keptSet (by omega) _, h2.keptSet (by omega) _, h3.s1 _, h4.keptSet (by omega) _⟩
          have kB : Below w0.heap.size w0 (wr.setCell ⟨bS, 1, none⟩ (.int .i64 (y + v))).drew := (hBr.setCell (p := ⟨_, _, none⟩) h0S _).drew
          generalize (wr.setCell ⟨bS, 1, none⟩ (.int .i64 (y + v))).drew = w3 at k1 kB ⊢
          clear cA cP hxc q qf h1 h2 h3 h4
          have cP := k1.2.2.2.cell
          have K1 := Lib.hid k1
          clear k1
          go_wp2_with (go_at_call 115; refine (HV.out x (y + v) z (by omega) (by omega) (by omega) _ K1.out kB).mono ?_; rintro e w4 ⟨rfl, k2, kB4⟩)
          have hn1 := HN.out x (y + v) z b' (by omega) (by omega) (by omega) hb'.1
          have hn2 := HBd.out x (y + v) z b'
          have HB2 : Hid (th (zs.drop (place + 1)) x (y + v) z b' = thS (zs.drop (place + 1)) v x y z b 2) := by rw [HB'.out]; exact rfl
          generalize th (zs.drop (place + 1)) x (y + v) z b' = b2 at *
          obtain ⟨j1, j2, j3, j4⟩ := k2
          have cA := j1.cell
          have hxc := HRD.out _ kB4
          have q := j3.c1
          have qf := j3.f1
          clear cP K1
          go_wp2_with fail
          go_region
          go_wp2
          go_roundw
          case rel => exact ⟨2, b2, by omega, by go_num, HB2, by omega, ⟨j1.keptSet (by omega) _, j2.keptSet (by omega) _, by first | exact j3.s1 _ | (have := j3.s1 (y + v - v); rw [show y + v - v = y by omega] at this ⊢; exact this), j4.keptSet (by omega) _⟩, (kB4.setCell (p := ⟨_, _, none⟩) h0S _).drew⟩
          case measure => simp [intOf]
        · have q := h3.c2
          have qf := h3.f2
          go_wp2_with fail
          go_region
          have k1 : ThBx (wr.setCell ⟨bS, 2, none⟩ (.int .i64 (z + v))).drew bA bB bS bP (some ⟨bb, off, none⟩) zs.length cap b' x y (z + v) :=
            ⟨h1.keptSet (by omega) _, h2.keptSet (by omega) _, h3.s2 _, h4.keptSet (by omega) _⟩
          have kB : Below w0.heap.size w0 (wr.setCell ⟨bS, 2, none⟩ (.int .i64 (z + v))).drew := (hBr.setCell (p := ⟨_, _, none⟩) h0S _).drew
          generalize (wr.setCell ⟨bS, 2, none⟩ (.int .i64 (z + v))).drew = w3 at k1 kB ⊢
          clear cA cP hxc q qf h1 h2 h3 h4
          have cP := k1.2.2.2.cell
          have K1 := Lib.hid k1
          clear k1
          go_wp2_with (go_at_call 115; refine (HV.out x y (z + v) (by omega) (by omega) (by omega) _ K1.out kB).mono ?_; rintro e w4 ⟨rfl, k2, kB4⟩)
          have hn1 := HN.out x y (z + v) b' (by omega) (by omega) (by omega) hb'.1
          have hn2 := HBd.out x y (z + v) b'
          have HB2 : Hid (th (zs.drop (place + 1)) x y (z + v) b' = thS (zs.drop (place + 1)) v x y z b 3) := by rw [HB'.out]; exact rfl
          generalize th (zs.drop (place + 1)) x y (z + v) b' = b2 at *
          obtain ⟨j1, j2, j3, j4⟩ := k2
          have cA := j1.cell
          have hxc := HRD.out _ kB4
          have q := j3.c2
          have qf := j3.f2
          clear cP K1
          go_wp2_with fail
          go_region
          go_wp2
          go_roundw
          case rel => exact ⟨3, b2, by omega, by go_num, HB2, by omega, ⟨j1.keptSet (by omega) _, j2.keptSet (by omega) _, by first | exact j3.s2 _ | (have := j3.s2 (z + v - v); rw [show z + v - v = z by omega] at this ⊢; exact this), j4.keptSet (by omega) _⟩, (kB4.setCell (p := ⟨_, _, none⟩) h0S _).drew⟩
          case measure => simp [intOf]
      · obtain rfl : s = 3 := by omega
        have HXX := Lib.hid hX
        clear hX
        go_wp2
        refine bodyPost_ret (v := .tuple #[]) (by simp [results, Try.f115, go_sem]) rfl ?_
        exact ⟨rfl, by rw [HS.out, ← HB'.out]; exact HXX.out, hBr⟩
end Go.Proofs.Ytbpkffpejmlonaa
