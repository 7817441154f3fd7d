/- Plain mathematics: the sum of a choice, the total, and what a list is. Conditions: none; no program in sight. What all walks of this seat share: slices of ints that are read or owned, bits of small numbers, blocks. Conditions: stated in each lemma. -/
import Derived.WalkKit
import Derived.Lib.Hide
import Derived.Deep.QuietTactic
import Derived.BigQuiet
import Derived.Test.YtdpapalfafjncaaGreatDoorProg
set_option linter.unusedVariables false
set_option linter.unusedSimpArgs false
set_option linter.unusedSectionVars false
namespace Go.Proofs.YtdpapalfafjncaaGreatDoor

/-- the sum of the numbers at the places of choice c -/
def csum : List Int → Nat → Int
  | [], _ => 0
  | x :: xs, c => (if c % 2 = 1 then x else 0) + csum xs (c / 2)

/-- the sum of all numbers -/
def tot : List Int → Int
  | [] => 0
  | x :: xs => x + tot xs

def okNum (x : Int) : Bool := decide (1 ≤ x) && decide (x ≤ 60)
/-- the list is as told -/
def inL (a : List Int) : Bool := decide (a.length ≤ 10) && a.all okNum

theorem csum_nil (c : Nat) : csum [] c = 0 := rfl
theorem csum_cons (x : Int) (xs : List Int) (c : Nat) : csum (x :: xs) c = (if c % 2 = 1 then x else 0) + csum xs (c / 2) := rfl
theorem csum_snoc (xs : List Int) (x : Int) : ∀ c : Nat, csum (xs ++ [x]) c = csum xs c + (if c / 2 ^ xs.length % 2 = 1 then x else 0) := by
  induction xs with
  | nil => intro c; simp [csum]
  | cons y ys ih =>
    intro c
    rw [List.cons_append, csum_cons, csum_cons, ih (c / 2), Nat.div_div_eq_div_mul, List.length_cons, Nat.pow_succ, Nat.mul_comm 2]
    omega

theorem take_snoc (a : List Int) (k : Nat) (h : k < a.length) : a.take (k + 1) = a.take k ++ [a[k]?.getD 0] := by
  rw [List.take_add_one, List.getElem?_eq_getElem h]; rfl
theorem csum_take (a : List Int) (c k : Nat) (h : k < a.length) : csum (a.take (k + 1)) c = csum (a.take k) c + (if c / 2 ^ k % 2 = 1 then a[k]?.getD 0 else 0) := by
  rw [take_snoc a k h, csum_snoc, List.length_take, Nat.min_eq_left (Nat.le_of_lt h)]

theorem tot_append (xs ys : List Int) : tot (xs ++ ys) = tot xs + tot ys := by
  induction xs with
  | nil => simp [tot]
  | cons x xs ih => rw [List.cons_append, tot, tot, ih]; omega
theorem tot_take (a : List Int) (k : Nat) (h : k < a.length) : tot (a.take (k + 1)) = tot (a.take k) + a[k]?.getD 0 := by
  rw [take_snoc a k h, tot_append]; simp [tot]

/-- all numbers from 1 to 60 -/
def good (a : List Int) : Prop := ∀ x ∈ a, 1 ≤ x ∧ x ≤ 60
theorem inL_iff (a : List Int) : inL a = true ↔ a.length ≤ 10 ∧ good a := by
  simp [inL, good, okNum]
theorem inL_false (a : List Int) : inL a = false ↔ ¬ (a.length ≤ 10 ∧ good a) := by
  rw [← inL_iff]; simp
theorem good_take {a : List Int} (h : good a) (k : Nat) : good (a.take k) := fun x hx => h x (List.mem_of_mem_take hx)
theorem good_get {a : List Int} (h : good a) (k : Nat) (hk : k < a.length) : 1 ≤ a[k]?.getD 0 ∧ a[k]?.getD 0 ≤ 60 := by
  rw [List.getElem?_eq_getElem hk]; exact h _ (List.getElem_mem hk)
theorem good_snoc (a : List Int) (k : Nat) (hk : k < a.length) : good (a.take (k + 1)) ↔ good (a.take k) ∧ 1 ≤ a[k]?.getD 0 ∧ a[k]?.getD 0 ≤ 60 := by
  rw [take_snoc a k hk]
  simp only [good, List.mem_append, List.mem_singleton]
  constructor
  · intro h; exact ⟨fun x hx => h x (.inl hx), h _ (.inr rfl)⟩
  · rintro ⟨h1, h2⟩ x (hx | rfl)
    · exact h1 x hx
    · exact h2
theorem good_bad {a : List Int} (k : Nat) (hk : k < a.length) (h : ¬ (1 ≤ a[k]?.getD 0 ∧ a[k]?.getD 0 ≤ 60)) : ¬ good a := fun hg => h (good_get hg k hk)

theorem tot_bd {a : List Int} (h : good a) : 0 ≤ tot a ∧ tot a ≤ 60 * a.length := by
  induction a with
  | nil => simp [tot]
  | cons x xs ih =>
    have h1 := h x (List.mem_cons_self ..)
    have h2 := ih (fun y hy => h y (List.mem_cons_of_mem _ hy))
    simp only [tot, List.length_cons]; omega
theorem csum_bd {a : List Int} (h : good a) : ∀ c, 0 ≤ csum a c ∧ csum a c ≤ tot a := by
  induction a with
  | nil => intro c; simp [csum, tot]
  | cons x xs ih =>
    intro c
    have h1 := h x (List.mem_cons_self ..)
    have h2 := ih (fun y hy => h y (List.mem_cons_of_mem _ hy)) (c / 2)
    simp only [tot, csum]; split <;> omega
end Go.Proofs.YtdpapalfafjncaaGreatDoor
namespace Go.Proofs.YtdpapalfafjncaaGreatDoor
open Go.RowKit

theorem Tryz.infoInt : (Tryz.prog.info? 3).map (fun i => (i.zero, i.size, i.bytes)) = some (some (.int .i64 0), 1, 8) := by kernel_rfl

/-- A slice at a with the numbers zs can be read in w. -/
def IntsAt (w : World) (a : Option Addr) (zs : List Int) : Prop :=
  zs = [] ∨ ∃ b off, a = some ⟨b, off, none⟩ ∧ b < w.heap.size ∧ ∀ j, j < zs.length → w.cell? ⟨b, off + j, none⟩ = some (.int .i64 (zs[j]?.getD 0))
theorem IntsAt.below {w w' : World} {a : Option Addr} {zs : List Int} (h : IntsAt w a zs) (hb : Below w.heap.size w w') : IntsAt w' a zs := by
  rcases h with h | ⟨b, off, h1, h2, h3⟩
  · exact .inl h
  · exact .inr ⟨b, off, h1, Nat.lt_of_lt_of_le h2 hb.size, fun j hj => (hb.cell (p := ⟨b, off + j, none⟩) h2).trans (h3 j hj)⟩
theorem IntsAt.at {w : World} {a : Option Addr} {zs : List Int} (h : IntsAt w a zs) (h0 : 0 < zs.length) :
    ∃ b off, a = some ⟨b, off, none⟩ ∧ b < w.heap.size ∧ ∀ j, j < zs.length → w.cell? ⟨b, off + j, none⟩ = some (.int .i64 (zs[j]?.getD 0)) := by
  rcases h with rfl | h
  · simp at h0
  · exact h

theorem wrap_i64_nat (n : Nat) (h : n < 9223372036854775808) : IntKind.i64.wrap (n : Int) = n := by
  rw [IntKind.wrap_i64]; omega
theorem ofInt_i64 (a : Nat) (ha : a < 9223372036854775808) : (BitVec.ofInt 64 (a : Int)).toNat = a := by
  rw [BitVec.ofInt_natCast, BitVec.toNat_ofNat]; exact Nat.mod_eq_of_lt (by omega)
theorem i64_and (a b : Nat) (ha : a < 9223372036854775808) (hb : b < 9223372036854775808) : bits .and .i64 (a : Int) (b : Int) = ((a &&& b : Nat) : Int) := by
  have hx : a &&& b < 2 ^ 63 := Nat.and_lt_two_pow _ (by omega)
  show IntKind.i64.wrap ((BitVec.ofInt 64 (a : Int) &&& BitVec.ofInt 64 (b : Int)).toNat : Int) = _
  rw [BitVec.toNat_and, ofInt_i64 a ha, ofInt_i64 b hb]
  exact wrap_i64_nat _ (by omega)
theorem i64_andNot (a b : Nat) (ha : a < 9223372036854775808) (hb : b < 9223372036854775808) : bits .andNot .i64 (a : Int) (b : Int) = ((a &&& (18446744073709551615 - b) : Nat) : Int) := by
  have hx : a &&& (18446744073709551615 - b) ≤ a := Nat.and_le_left
  show IntKind.i64.wrap ((BitVec.ofInt 64 (a : Int) &&& ~~~BitVec.ofInt 64 (b : Int)).toNat : Int) = _
  rw [BitVec.toNat_and, BitVec.toNat_not, ofInt_i64 a ha, ofInt_i64 b hb]
  have e : 2 ^ 64 - 1 - b = 18446744073709551615 - b := by omega
  rw [e]
  exact wrap_i64_nat _ (by omega)
theorem i64_xor (a b : Nat) (ha : a < 9223372036854775808) (hb : b < 9223372036854775808) : bits .xor .i64 (a : Int) (b : Int) = ((a ^^^ b : Nat) : Int) := by
  have hx : a ^^^ b < 2 ^ 63 := Nat.xor_lt_two_pow (by omega) (by omega)
  show IntKind.i64.wrap ((BitVec.ofInt 64 (a : Int) ^^^ BitVec.ofInt 64 (b : Int)).toNat : Int) = _
  rw [BitVec.toNat_xor, ofInt_i64 a ha, ofInt_i64 b hb]
  exact wrap_i64_nat _ (by omega)
theorem xor_bd (a b : Int) (ha : 0 ≤ a ∧ a < 9223372036854775808) (hb : 0 ≤ b ∧ b < 9223372036854775808) : 0 ≤ bits .xor .i64 a b ∧ bits .xor .i64 a b < 9223372036854775808 := by
  obtain ⟨A, rfl⟩ := Int.eq_ofNat_of_zero_le ha.1
  obtain ⟨B, rfl⟩ := Int.eq_ofNat_of_zero_le hb.1
  have hx : A ^^^ B < 2 ^ 63 := Nat.xor_lt_two_pow (by omega) (by omega)
  rw [i64_xor A B (by omega) (by omega)]; omega
theorem i64_and1 (a : Nat) (ha : a < 9223372036854775808) : bits .and .i64 (a : Int) 1 = ((a % 2 : Nat) : Int) := by
  rw [show (1 : Int) = ((1 : Nat) : Int) from rfl, i64_and a 1 ha (by omega), Nat.and_one_is_mod]
/-- c >> p & 1 for numbers that are not negative -/
theorem bit_at (c p : Nat) (hc : c < 9223372036854775808) : bits .and .i64 ((c : Int) / 2 ^ p) 1 = ((c / 2 ^ p % 2 : Nat) : Int) := by
  have e : (c : Int) / 2 ^ p = ((c / 2 ^ p : Nat) : Int) := by simp
  rw [e]; exact i64_and1 _ (Nat.lt_of_le_of_lt (Nat.div_le_self _ _) hc)
theorem beq_cast (n m : Nat) : (((n : Nat) : Int) == ((m : Nat) : Int)) = decide (n = m) := by
  rw [Bool.eq_iff_iff]; simp; omega
theorem ret_int {k : IntKind} {a b : Int} (h : a = b) : Ending.returned (.int k a) = .returned (.int k b) := by rw [h]
theorem ret_bool {a b : Bool} (h : a = b) : Ending.returned (.bool a) = .returned (.bool b) := by rw [h]
theorem ret_ib {a b : Int} {p q : Bool} (h : a = b) (h' : p = q) : Ending.returned (.tuple #[.int .i64 a, .bool p]) = .returned (.tuple #[.int .i64 b, .bool q]) := by rw [h, h']
theorem wrap_in (n : Int) (h : -9223372036854775808 ≤ n ∧ n ≤ 9223372036854775807) : wrap64 n = n := IntWalk.wrap64_in n h
theorem wstep (s x : Int) (q : Nat) (hq : q < 2) (hs : 0 ≤ s ∧ s ≤ 1000000000000) (hx : 0 ≤ x ∧ x ≤ 1000000000000) : wrap64 (s + wrap64 ((q : Int) * x)) = s + if q = 1 then x else 0 := by
  have h : q = 0 ∨ q = 1 := by omega
  rcases h with rfl | rfl
  · rw [if_neg (by omega), show ((0 : Nat) : Int) * x = 0 by simp, wrap_in 0 (by omega), wrap_in _ (by omega)]
  · rw [if_pos rfl, show ((1 : Nat) : Int) * x = x by simp, wrap_in x (by omega), wrap_in _ (by omega)]
theorem pow_bd (n : Nat) (h : n ≤ 20) : 1 ≤ (2 : Int) ^ n ∧ (2 : Int) ^ n ≤ 1048576 := by
  have h1 : 2 ^ n ≤ 2 ^ 20 := Nat.pow_le_pow_right (by omega) h
  have h2 : 0 < 2 ^ n := Nat.two_pow_pos n
  have e : (2 : Int) ^ n = ((2 ^ n : Nat) : Int) := by simp
  rw [e]; omega
/-- a slice of bytes of this length at a, in a block below B, can be read in w -/
def BytesAt (w : World) (B : Nat) (a : Option Addr) (len : Nat) : Prop :=
  len = 0 ∨ ∃ b off, a = some ⟨b, off, none⟩ ∧ b < B ∧ ∀ j, j < len → ∃ x : Int, 0 ≤ x ∧ x ≤ 255 ∧ w.cell? ⟨b, off + j, none⟩ = some (.int .u8 x)
theorem BytesAt.same {w w' : World} {B : Nat} {a : Option Addr} {len : Nat} (h : BytesAt w B a len) (hb : Below B w w') : BytesAt w' B a len := by
  rcases h with h | ⟨b, off, h1, h2, h3⟩
  · exact .inl h
  · exact .inr ⟨b, off, h1, h2, fun j hj => by obtain ⟨x, hx1, hx2, hx⟩ := h3 j hj; exact ⟨x, hx1, hx2, (hb.cell (p := ⟨b, off + j, none⟩) h2).trans hx⟩⟩
theorem BytesAt.at {w : World} {B : Nat} {a : Option Addr} {len : Nat} (h : BytesAt w B a len) (h0 : 0 < len) :
    ∃ b off, a = some ⟨b, off, none⟩ ∧ b < B ∧ ∀ j, j < len → ∃ x : Int, 0 ≤ x ∧ x ≤ 255 ∧ w.cell? ⟨b, off + j, none⟩ = some (.int .u8 x) := by
  rcases h with rfl | h
  · simp at h0
  · exact h
@[simp] theorem intsAt_drewN (w : World) (n : Nat) (a : Option Addr) (zs : List Int) : IntsAt (w.drewN n) a zs ↔ IntsAt w a zs := Iff.rfl
theorem IntsAt.dr {w : World} {a : Option Addr} {zs : List Int} (h : IntsAt w a zs) (n : Nat) : IntsAt (w.drewN n) a zs := h
theorem drewN_of_drew (w : World) (n : Nat) : ∃ m, (w.drewN n).drew = w.drewN m := ⟨n + 1, rfl⟩
theorem drewN_below (w : World) (n : Nat) (B : Nat) : Below B w (w.drewN n) := ⟨rfl, rfl, rfl, Nat.le_refl _, fun _ _ => rfl⟩

theorem cell_one_new' (w : World) (x : Value) (t : TypeId) : ∀ j u, [x][j]? = some u → (w.alloc (.cells #[x] t)).cell? ((⟨w.heap.size, 0, none⟩ : Addr).add j) = some u := by
  intro j u hj
  match j, hj with
  | 0, hj => simp at hj; subst hj; simp [Addr.add]
theorem _root_.Go.World.grownBy.trans' {w w1 w2 : World} {row : Option Nat} (h : w.grownBy w1 row) (k : w1.grownBy w2 row) : w.grownBy w2 row :=
  ⟨k.os.trans h.os, k.tape.trans h.tape, k.output.trans h.output, Nat.le_trans h.size k.size, fun i hi hne => (k.block i (Nat.lt_of_lt_of_le hi h.size) hne).trans (h.block i hi hne)⟩

/-- the slice value v owns the numbers zs, in a block from base on -/
def OwnI (w : World) (base : Nat) (v : Value) (zs : List Int) : Prop := w.ownsRow base 3 1 v zs.length (zs.map (Value.int .i64))
theorem OwnI.nil (w : World) (base : Nat) : OwnI w base (.slice none 0 0) [] := World.ownsRow_nil w base 3 1
theorem OwnI.kept {w w' : World} {base : Nat} {v : Value} {zs : List Int} {row : Option Nat} (h : OwnI w base v zs) (hg : w.grownBy w' row) (hne : v.ownBlock = none ∨ v.ownBlock ≠ row) : OwnI w' base v zs := World.ownsRow.kept h hg hne
theorem OwnI.kept_below {w w' : World} {base : Nat} {v : Value} {zs : List Int} {row : Option Nat} (h : OwnI w base v zs) (hg : w.grownBy w' row) (hr : ∀ r, row = some r → r < base) : OwnI w' base v zs := by
  refine h.kept hg ?_
  cases hv : v.ownBlock with
  | none => exact .inl rfl
  | some g => exact .inr (fun e => by have := (World.ownsRow.lt h g hv).1; have := hr g e.symm; omega)
theorem OwnI.lt {w : World} {base : Nat} {v : Value} {zs : List Int} (h : OwnI w base v zs) : ∀ k, v.ownBlock = some k → base ≤ k ∧ k < w.heap.size := World.ownsRow.lt h
theorem OwnI.mono {w : World} {base base' : Nat} {v : Value} {zs : List Int} (h : OwnI w base v zs) (hb : base' ≤ base) : OwnI w base' v zs := by
  refine ⟨h.1, ?_⟩
  rcases h.2 with h | ⟨g, cap, cur, h1, h2, h3⟩
  · exact .inl h
  · exact .inr ⟨g, cap, cur, h1, Nat.le_trans hb h2, h3⟩
/-- its shape, and what can be read -/
theorem OwnI.shape {w : World} {base : Nat} {v : Value} {zs : List Int} (h : OwnI w base v zs) : ∃ a cap, v = .slice a zs.length cap ∧ IntsAt w a zs ∧ zs.length ≤ cap := by
  have h' := h
  rcases h.2 with ⟨rfl, hn⟩ | ⟨g, cap, cur, rfl, hb, hg, hc, _⟩
  · exact ⟨none, 0, by rw [hn], .inl (List.eq_nil_of_length_eq_zero hn), by omega⟩
  · refine ⟨some ⟨g, 0, none⟩, cap, rfl, .inr ⟨g, 0, rfl, (Array.getElem?_eq_some_iff.1 hg).1, fun j hj => ?_⟩, hc⟩
    rw [Nat.zero_add, World.ownsRow.cellAt h' j (by omega)]
    simp [hj]
/-- append of one number -/
theorem append1 (w : World) {ops : Array Oper} {rest : List Oper} {o : Oper} {a : Act} {Q : Exit → Act → World → Prop} (hgd : o.guard = none) (s x : Operand)
    (ho : o.op = .call { callee := .builtin .append, args := #[s, x], argTypes := #[23, 23] }) (base : Nat) (v : Value) (zs : List Int) (z : Int)
    (hs : a.eval s = v) (hx : a.eval x = .slice (some ⟨w.heap.size, 0, none⟩) 1 1) (hown : OwnI w base v zs) (hl : zs.length ≤ 1000000) (hbase : base ≤ w.heap.size)
    (h : ∀ v' w', OwnI w' base v' (zs ++ [z]) → w.grownBy w' v.ownBlock → wpList Tryz.prog ops Q rest (a.put o.dst v') w') :
    wpList Tryz.prog ops Q (o :: rest) a (w.alloc (.cells #[.int .i64 z] 3)) := by
  obtain ⟨i0, hi, hz0, hz1, hz2⟩ := info_parts Tryz.infoInt
  have hown' := World.ownsRow.alloc hown (.cells #[.int .i64 z] 3)
  refine wpList_append_own _ hgd s x 23 ho base 3 i0 (.int .i64 0) 1 8 Tryz.underlying23 hi hz0 hz1 hz2 rfl (by decide) v zs.length _ hs hown' ⟨w.heap.size, 0, none⟩ 1 1 [.int .i64 z] hx rfl (cell_one_new' _ _ _) (by simp [Value.oneCell']) (by unfold maxLen; omega) (by omega) (by simp; omega) ?_
  intro v' w' h1 h2 _
  refine h v' w' ?_ ((World.grownBy_alloc w _ _).trans' h2)
  unfold OwnI
  simpa using h1

theorem makeI (w : World) {ops : Array Oper} {rest : List Oper} {o : Oper} {a : Act} {Q : Exit → Act → World → Prop} (hgd : o.guard = none) (l c : Operand)
    (ho : o.op = Op.makeSlice 23 l c) (n : Nat) (N : Int) (hl : a.eval l = .int .i64 N) (hc : a.eval c = .int .i64 N) (hN : N = (n : Int)) (hn : n ≤ 4000000)
    (h : ∀ w', OwnI w' w.heap.size (.slice (some ⟨w.heap.size, 0, none⟩) n n) (List.replicate n 0) → w.grownBy w' none → wpList Tryz.prog ops Q rest (a.put o.dst (.slice (some ⟨w.heap.size, 0, none⟩) n n)) w') :
    wpList Tryz.prog ops Q (o :: rest) a w := by
  obtain ⟨i0, hi, hz0, hz1, hz2⟩ := info_parts Tryz.infoInt
  refine wpList_make_full w hgd l c 23 ho w.heap.size 3 i0 (.int .i64 0) 1 Tryz.underlying23 hi hz0 hz1 .i64 .i64 N N n hl hc hN hN (by rw [hz2]; omega) (by unfold maxLen; omega) (Nat.le_refl _) ?_
  intro w' h1 h2
  refine h w' ?_ h2
  unfold OwnI
  rw [List.length_replicate, List.map_replicate]
  rw [Nat.mul_one] at h1
  have e : (madeCells (Value.cells (.int .i64 0)) n).toList = List.replicate n (.int .i64 0) := toList_madeCells_one _ _
  rw [e] at h1
  exact h1
theorem OwnI.stored {w : World} {base g cap : Nat} {zs : List Int} (h : OwnI w base (.slice (some ⟨g, 0, none⟩) zs.length cap) zs) (j : Nat) (x : Int) :
    OwnI (w.setCell ⟨g, j, none⟩ (.int .i64 x)) base (.slice (some ⟨g, 0, none⟩) zs.length cap) (zs.set j x) ∧ w.grownBy (w.setCell ⟨g, j, none⟩ (.int .i64 x)) (some g) := by
  obtain ⟨h1, h2⟩ := World.ownsRow.stored h j (.int .i64 x)
  refine ⟨?_, h2⟩
  unfold OwnI
  rw [List.length_set, List.map_set]
  exact h1
theorem OwnI.at {w : World} {base : Nat} {v : Value} {zs : List Int} (h : OwnI w base v zs) (h0 : 0 < zs.length) :
    ∃ g cap, v = .slice (some ⟨g, 0, none⟩) zs.length cap ∧ base ≤ g ∧ g < w.heap.size ∧ ∀ j, j < zs.length → w.cell? ⟨g, j, none⟩ = some (.int .i64 (zs[j]?.getD 0)) ∧ w.frozen? ⟨g, j, none⟩ = false := by
  have h' := h
  rcases h.2 with ⟨rfl, hn⟩ | ⟨g, cap, cur, rfl, hb, hg, hc, _⟩
  · omega
  · refine ⟨g, cap, rfl, hb, (Array.getElem?_eq_some_iff.1 hg).1, fun j hj => ⟨?_, World.ownsRow.frozenAt h' j⟩⟩
    rw [World.ownsRow.cellAt h' j (by omega)]
    simp [hj]
theorem OwnI.alloc {w : World} {base : Nat} {v : Value} {zs : List Int} (h : OwnI w base v zs) (o : Obj) : OwnI (w.alloc o) base v zs := World.ownsRow.alloc h o
theorem OwnI.put {w : World} {base g cap L : Nat} {zs : List Int} (h : OwnI w base (.slice (some ⟨g, 0, none⟩) L cap) zs) (hL : zs.length = L) (j : Nat) (x : Int) :
    OwnI (w.setCell ⟨g, j, none⟩ (.int .i64 x)) base (.slice (some ⟨g, 0, none⟩) L cap) (zs.set j x) := by
  subst hL; exact (h.stored j x).1
theorem OwnI.dr {w : World} {base : Nat} {v : Value} {zs : List Int} (h : OwnI w base v zs) (n : Nat) : OwnI (w.drewN n) base v zs := h
theorem belowDr {B : Nat} {w w' : World} (h : Below B w w') (n : Nat) : Below B w (w'.drewN n) := h.trans (drewN_below w' n B)
theorem OwnI.isLen {w : World} {base L cap : Nat} {a : Option Addr} {zs : List Int} (h : OwnI w base (.slice a L cap) zs) : zs.length = L := by
  obtain ⟨a', c', e, _⟩ := h.shape
  simp only [Value.slice.injEq] at e
  exact e.2.1.symm
theorem grownBy_set (w : World) (g j : Nat) (v : Value) : w.grownBy (w.setCell ⟨g, j, none⟩ v) (some g) :=
  ⟨rfl, rfl, rfl, by simp, fun k _ hk => Below.heap_setCell w ⟨g, j, none⟩ v k (fun e => hk (by rw [e]))⟩
theorem OwnI.keptB {w w' : World} {base : Nat} {v : Value} {zs : List Int} (h : OwnI w base v zs) (hb : Below w.heap.size w w') : OwnI w' base v zs := by
  refine ⟨h.1, ?_⟩
  rcases h.2 with h | ⟨g, cap, cur, h1, h2, h3, h4⟩
  · exact .inl h
  · exact .inr ⟨g, cap, cur, h1, h2, (hb.block g (Array.getElem?_eq_some_iff.1 h3).1).trans h3, h4⟩
theorem OwnI.ints {w : World} {base L cap : Nat} {a : Option Addr} {zs : List Int} (h : OwnI w base (.slice a L cap) zs) : IntsAt w a zs := by
  obtain ⟨a', c', e, hI, _⟩ := h.shape
  simp only [Value.slice.injEq] at e
  rw [e.1]; exact hI
end Go.Proofs.YtdpapalfafjncaaGreatDoor
