/- A strings.Builder that the call itself has made: copyCheck and WriteString at this dump (the shelf's own are not laid here: copyCheck's body ends in a refusal of the translator's). Conditions: stated in each. strings.Cut at one byte. Conditions: the text is short. A line of the script that does not fail: the deferred function finds nothing to recover. Conditions: none. Texts of numbers, in plain words: digits, numbers with a blank between. Conditions: stated in each. -/
import Derived.Lib.Builder
import Derived.Lib.AppendStr
import Derived.Lib.UnsafeStr
import Derived.Laws.Externs
import Derived.Test.YtdpapalfafjncaaGreatDoorZa
import Derived.BigRegion
import Derived.OwnWalk
import Derived.Test.YtdpapalfafjncaaGreatDoorZs
import Derived.Defers
import Derived.Recover
import Derived.Laws.Pointers
import Derived.Lib.ItoaNum
import Derived.Lib.IndexMore
set_option linter.unusedVariables false
set_option linter.unusedSimpArgs false
set_option linter.unusedSectionVars false
namespace Go.Proofs.YtdpapalfafjncaaGreatDoor
open Go.RowKit

theorem bldSize : (Tryz.prog.info? 44).map (·.size) = some 2 := by kernel_rfl
theorem bldLies : liesAt Tryz.prog Tryz.prog.depth 44 (2 / Tryz.prog.cellsOf 44) 0 44 1 = true := by kernel_rfl
theorem bldByte : (Tryz.prog.info? 5).map (fun i => (i.zero, i.size, i.bytes)) = some (some (.int .u8 0), 1, 1) := by kernel_rfl

set_option maxHeartbeats 1000000 in
set_option maxRecDepth 100000 in
theorem copyCheck_used (b : Nat) (w : World) (h0 : w.cell? ⟨b, 0, none⟩ = some (.pointer (some ⟨b, 0, none⟩))) :
    Calls Tryz.prog 40 #[.pointer (some ⟨b, 0, none⟩)] w fun e w' => e = .returned (.tuple #[]) ∧ w' = w := by
  obtain ⟨j, hj, _⟩ := Option.map_eq_some_iff.1 bldSize
  go_enter Tryz.func40, Tryz.ntmps40
  go_wp2
  rw [Lib.run_neq_ptr_same w _ Tryz.underlying42 hj]
  go_wp2
  go_end0
  exact ⟨rfl, rfl⟩

set_option maxHeartbeats 1000000 in
set_option maxRecDepth 100000 in
theorem copyCheck_fresh (b : Nat) (w : World) (h0 : w.cell? ⟨b, 0, none⟩ = some (.pointer none)) (hsh : w.shape? b = some (44, 2)) (hfz : w.frozen? ⟨b, 0, none⟩ = false) :
    Calls Tryz.prog 40 #[.pointer (some ⟨b, 0, none⟩)] w fun e w' => e = .returned (.tuple #[]) ∧ w' = w.setCell ⟨b, 0, none⟩ (.pointer (some ⟨b, 0, none⟩)) := by
  obtain ⟨j, hj, hjs⟩ := Option.map_eq_some_iff.1 bldSize
  go_enter Tryz.func40, Tryz.ntmps40
  go_wp2
  rw [Lib.run_to_unsafe w ⟨b, 0, none⟩ Tryz.underlying42 Tryz.underlying80 hj (by rw [hjs]; decide) hsh (Nat.zero_lt_succ 1)]
  simp only [Result.andThen]
  rw [Oper.upon_value]
  go_wp2
  rw [run_callFunc_extern Tryz.func52 (by kernel_rfl) (by kernel_rfl) (by kernel_rfl) (e := Extern.AbiNoEscape.same) (by kernel_rfl)]
  rw [Lib.run_noEscape]
  simp only [Result.andThen]
  rw [Oper.upon_value]
  go_wp2
  rw [Lib.run_from_unsafe w ⟨b, 0, none⟩ Tryz.underlying80 Tryz.underlying42 hj hsh bldLies]
  simp only [Result.andThen]
  rw [Oper.upon_value]
  go_wp2
  go_end0
  exact ⟨rfl, rfl⟩

/-- nothing turns but block b, rows of bytes, and new blocks -/
def Others (b : Nat) (w w' : World) : Prop := ∀ k, k < w.heap.size → k ≠ b → (∀ cs fr, w.heap[k]? ≠ some (.cells cs 5 fr)) → w'.heap[k]? = w.heap[k]?
theorem copyCheck_any (B b : Nat) (bs : List Value) (w : World) (h : Lib.IsBuilder 44 5 B b bs w) :
    Calls Tryz.prog 40 #[.pointer (some ⟨b, 0, none⟩)] w fun e w' => e = .returned (.tuple #[]) ∧ (Lib.BuilderAt 44 5 B b (.pointer (some ⟨b, 0, none⟩)) bs w' ∧ Below B w w' ∧ ∀ k, k ≠ b → w'.heap[k]? = w.heap[k]?) := by
  rcases h with h | h
  · refine (copyCheck_fresh b w h.cell0 h.shape h.frozen0).mono ?_
    rintro e w' ⟨rfl, rfl⟩
    exact ⟨rfl, h.used _, (Below.refl B w).setCell (p := ⟨b, 0, none⟩) h.1 _, fun k hk => Below.heap_setCell _ _ _ _ hk⟩
  · refine (copyCheck_used b w h.cell0).mono ?_
    rintro e w' ⟨rfl, rfl⟩
    exact ⟨rfl, h, Below.refl B _, fun _ _ => rfl⟩

set_option maxHeartbeats 1000000 in
set_option maxRecDepth 100000 in
/-- text is written behind what the builder holds -/
theorem WriteString_any (B b : Nat) (bs : List Value) (s : ByteArray) (w : World) (h : Lib.IsBuilder 44 5 B b bs w) (hlen : bs.length + s.size ≤ 1000000) (hBw : B ≤ w.heap.size) :
    Calls Tryz.prog 23 #[.pointer (some ⟨b, 0, none⟩), .string s] w fun e w' => e = .returned (.tuple #[.int .i64 s.size, .nilIface]) ∧ Lib.IsBuilder 44 5 B b (bs ++ Lib.strCells s) w' ∧ Below B w w' ∧ Others b w w' := by
  obtain ⟨i0, hi, hz0, hz1, hz2⟩ := info_parts bldByte
  go_enter Tryz.func23, Tryz.ntmps23
  go_wp2_with (go_at_call 40; refine (copyCheck_any B b bs _ h).mono ?_)
  rintro e w1 ⟨rfl, h1, hb1, ho1⟩
  obtain ⟨hB, v, hbk, hown, hne⟩ := h1
  have c0 : w1.cell? ⟨b, 0, none⟩ = some (.pointer (some ⟨b, 0, none⟩)) := by rw [Lib.cell_of_heap hbk]; rfl
  have c1 : w1.cell? ⟨b, 1, none⟩ = some v := by rw [Lib.cell_of_heap hbk]; rfl
  go_wp2_with (at_builtin; refine Lib.wpList_append_own_string _ rfl _ _ 22 9 rfl B 5 i0 Tryz.underlying22 Tryz.underlying9 hi hz0 hz1 hz2 _ _ _ rfl hown s rfl ?c3 ?c4 ?c5 ?_)
  case c3 => unfold maxLen; omega
  case c4 => omega
  case c5 => have := hb1.size; omega
  intro v' w2 hown' hgrow _
  have hlt : b < w1.heap.size := (Array.getElem?_eq_some_iff.1 hbk).1
  have hb2 : w2.heap[b]? = some (.cells #[.pointer (some ⟨b, 0, none⟩), v] 44 (0, 0)) := by
    rw [hgrow.block b hlt (fun e => hne e.symm)]
    exact hbk
  have d0 : w2.cell? ⟨b, 0, none⟩ = some (.pointer (some ⟨b, 0, none⟩)) := by rw [Lib.cell_of_heap hb2]; rfl
  have d1 : w2.cell? ⟨b, 1, none⟩ = some v := by rw [Lib.cell_of_heap hb2]; rfl
  have f1 : w2.frozen? ⟨b, 1, none⟩ = false := Lib.frozen_of_heap hb2 1
  obtain ⟨ao, n', cap, rfl⟩ : ∃ ao n' cap, v' = .slice ao n' cap := by
    rcases hown'.2 with ⟨hv, _⟩ | ⟨g, cap, cur, hv, _⟩
    · exact ⟨_, _, _, hv⟩
    · exact ⟨_, _, _, hv⟩
  have hoth : Others b w (w2.setCell ⟨b, 1, none⟩ (.slice ao n' cap)) := fun k hk hkb hkt => by
    rw [Below.heap_setCell _ _ _ _ hkb, hgrow.block k (by rw [← ho1 k hkb] at hkt; have := hb1.size; omega) (fun e => ?_), ho1 k hkb]
    rcases hown.2 with ⟨hv, _⟩ | ⟨g, cap', cur, hv, _, hg, _⟩
    · rw [hv] at e; simp [Value.ownBlock] at e
    · rw [hv] at e
      simp only [Value.ownBlock, Option.some.injEq] at e
      subst e
      rw [ho1 k hkb] at hg
      exact hkt _ _ hg
  go_wp2
  go_ret2
  refine ⟨rfl, .inr ?_, ?_, hoth⟩
  · exact Lib.BuilderAt.put hB hb2 (by rw [List.length_append, Lib.strCells_length]; exact hown') (by decide)
  · exact ((hb1.grown hgrow (by have := hb1.size; omega) (fun k hk => (World.ownsRow.lt hown k hk).1)).setCell (p := ⟨b, 1, none⟩) hB _)
end Go.Proofs.YtdpapalfafjncaaGreatDoor
namespace Go.Proofs.YtdpapalfafjncaaGreatDoor
open Go.RowKit

theorem indexByte_none : ∀ {l : List UInt8} {c : UInt8}, c ∉ l → Lib.indexByte l c = -1
  | [], _, _ => rfl
  | b :: l, c, h => by
    have h1 : ¬ b = c := fun e => h (by simp [e])
    have h2 : c ∉ l := fun e => h (by simp [e])
    simp [Lib.indexByte, h1, indexByte_none h2]
theorem indexByte_at : ∀ {l r : List UInt8} {c : UInt8}, c ∉ l → Lib.indexByte (l ++ c :: r) c = l.length
  | [], r, c, _ => by simp [Lib.indexByte]
  | b :: l, r, c, h => by
    have h1 : ¬ b = c := fun e => h (by simp [e])
    have h2 : c ∉ l := fun e => h (by simp [e])
    have h3 := indexByte_at (r := r) h2
    have h4 : ¬ ((l.length : Int) = -1) := by omega
    rw [List.cons_append, Lib.indexByte, h3]
    simp [h1, h4]

theorem cutL (l r : List UInt8) (c : UInt8) : (⟨(l ++ c :: r).toArray⟩ : ByteArray).extract 0 l.length = ⟨l.toArray⟩ := by
  apply ByteArray.ext
  rw [ByteArray.data_extract]
  simp
theorem cutR (l r : List UInt8) (c : UInt8) : (⟨(l ++ c :: r).toArray⟩ : ByteArray).extract (l.length + 1) (l.length + r.length + 1) = ⟨r.toArray⟩ := by
  apply ByteArray.ext
  rw [ByteArray.data_extract]
  have e : l ++ c :: r = (l ++ [c]) ++ r := by simp
  rw [e]
  simp [List.extract_eq_take_drop]

set_option maxRecDepth 100000 in
set_option maxHeartbeats 1600000 in
theorem sliteCut_none (s : List UInt8) (c : UInt8) (w : World) (h : c ∉ s) :
    Calls Tryz.prog 39 #[.string ⟨s.toArray⟩, .string ⟨#[c]⟩] w fun e w' => e = .returned (.tuple #[.string ⟨s.toArray⟩, .string ⟨#[]⟩, .bool false]) ∧ w' = w := by
  have HX := Lib.hid (Tryz.stringslite_Index_one ⟨s.toArray⟩ c w)
  have hi : Lib.indexByte s c = -1 := indexByte_none h
  simp only [hi] at HX
  go_enter Tryz.func39, Tryz.ntmps39
  go_wp2_with fail
  refine HX.out.mono ?_
  rintro e w' ⟨rfl, rfl⟩
  go_wp2_with fail
  go_ret3
  exact ⟨rfl, rfl⟩

set_option maxRecDepth 100000 in
set_option maxHeartbeats 1600000 in
theorem sliteCut_hit (l r : List UInt8) (c : UInt8) (w : World) (h : c ∉ l) (hl : l.length + r.length ≤ 1000000) :
    Calls Tryz.prog 39 #[.string ⟨(l ++ c :: r).toArray⟩, .string ⟨#[c]⟩] w fun e w' => e = .returned (.tuple #[.string ⟨l.toArray⟩, .string ⟨r.toArray⟩, .bool true]) ∧ ∃ n, w' = w.drewN n := by
  have HX := Lib.hid (Tryz.stringslite_Index_one ⟨(l ++ c :: r).toArray⟩ c w)
  have hi : Lib.indexByte (l ++ c :: r) c = l.length := indexByte_at h
  simp only [hi] at HX
  have hsz : (⟨(l ++ c :: r).toArray⟩ : ByteArray).size = l.length + r.length + 1 := by simp [ByteArray.size]; omega
  go_enter Tryz.func39, Tryz.ntmps39
  go_wp2_with fail
  refine HX.out.mono ?_
  rintro e w' ⟨rfl, rfl⟩
  clear hi HX
  go_wp2_with fail
  go_region
  rw [cutL, cutR]
  go_wp2_with fail
  go_ret3
  exact ⟨rfl, 1, rfl⟩

/-- strings.Cut at a byte that is there: what stands ahead of it, what stands behind -/
theorem Cut_hit (l r : List UInt8) (c : UInt8) (w : World) (h : c ∉ l) (hl : l.length + r.length ≤ 1000000) :
    Calls Tryz.prog 22 #[.string ⟨(l ++ c :: r).toArray⟩, .string ⟨#[c]⟩] w fun e w' => e = .returned (.tuple #[.string ⟨l.toArray⟩, .string ⟨r.toArray⟩, .bool true]) ∧ ∃ n, w' = w.drewN n := by
  go_enter Tryz.func22, Tryz.ntmps22
  go_wp2_with fail
  refine (sliteCut_hit l r c w h hl).mono ?_
  rintro e w' ⟨rfl, n, rfl⟩
  go_wp2_with fail
  go_ret3
  exact ⟨rfl, n, rfl⟩
/-- strings.Cut at a byte that is not there -/
theorem Cut_none (s : List UInt8) (c : UInt8) (w : World) (h : c ∉ s) :
    Calls Tryz.prog 22 #[.string ⟨s.toArray⟩, .string ⟨#[c]⟩] w fun e w' => e = .returned (.tuple #[.string ⟨s.toArray⟩, .string ⟨#[]⟩, .bool false]) ∧ w' = w := by
  go_enter Tryz.func22, Tryz.ntmps22
  go_wp2_with fail
  refine (sliteCut_none s c w h).mono ?_
  rintro e w' ⟨rfl, rfl⟩
  go_wp2_with fail
  go_ret3
  exact ⟨rfl, rfl⟩
end Go.Proofs.YtdpapalfafjncaaGreatDoor
namespace Go.Proofs.YtdpapalfafjncaaGreatDoor
open Go.RowKit

set_option maxRecDepth 100000 in
set_option maxHeartbeats 1600000 in
theorem caught_idle (p : Addr) (w : World) :
    CallsD Tryz.prog 41 #[.pointer (some p)] .returning w fun e u' w' => e = .returned (.tuple #[]) ∧ u' = .returning ∧ w' = w := by
  refine callsD_of_wpS Tryz.func41 rfl fun c₀ cs hu => ?_
  apply wpS_seq
  apply wpS_region
  simp [wpOpsS, go_sem, recoverD, hu, Tryz.ntmps41, Exit.thenS]
  refine wpS_of_wp ?_
  show Code.wp Tryz.prog _ _ ⟨#[.pointer (some p), undef, undef, undef, .nilIface, undef, undef, undef, undef, undef], []⟩ w
  have he : ∀ w : World, (binOp .eql 20 .nilIface .nilIface).run Tryz.prog w = .ok (.bool true) w := fun _ => rfl
  go_wp2
  cases c₀
  simp_all [bodyPostS, results, Tryz.results41]
end Go.Proofs.YtdpapalfafjncaaGreatDoor
namespace Go.Proofs.YtdpapalfafjncaaGreatDoor

/-- the digits of a number -/
def dgs (n : Nat) : List UInt8 :=
  if h : n < 10 then [UInt8.ofNat (48 + n)] else dgs (n / 10) ++ [UInt8.ofNat (48 + n % 10)]
termination_by n
decreasing_by omega
theorem dgs_lt {n : Nat} (h : n < 10) : dgs n = [UInt8.ofNat (48 + n)] := by rw [dgs, dif_pos h]
theorem dgs_ge {n : Nat} (h : ¬ n < 10) : dgs n = dgs (n / 10) ++ [UInt8.ofNat (48 + n % 10)] := by rw [dgs, dif_neg h]
/-- numbers with a blank between -/
def spT : List Int → List UInt8
  | [] => []
  | [x] => dgs x.toNat
  | x :: y :: r => dgs x.toNat ++ 32 :: spT (y :: r)
theorem spT_cons {x : Int} {r : List Int} (h : r ≠ []) : spT (x :: r) = dgs x.toNat ++ 32 :: spT r := by
  cases r with
  | nil => exact absurd rfl h
  | cons y r => rfl
theorem spT_snoc : ∀ (zs : List Int) (x : Int), spT (zs ++ [x]) = spT zs ++ (if zs = [] then [] else [32]) ++ dgs x.toNat
  | [], x => by simp [spT]
  | [y], x => by simp [spT]
  | y :: z :: r, x => by
    have h := spT_snoc (z :: r) x
    rw [List.cons_append, spT_cons (by simp), h]
    simp [spT]
/-- a digit is no blank and no newline -/
theorem dgs_mem : ∀ (n : Nat), ∀ b ∈ dgs n, 48 ≤ b.toNat ∧ b.toNat ≤ 57 := fun n => by
  induction n using Nat.strongRecOn with
  | ind n ih =>
    intro b hb
    by_cases h : n < 10
    · rw [dgs_lt h, List.mem_singleton] at hb
      subst hb
      simp only [UInt8.toNat_ofNat']
      omega
    · rw [dgs_ge h, List.mem_append, List.mem_singleton] at hb
      rcases hb with hb | rfl
      · exact ih (n / 10) (by omega) b hb
      · simp only [UInt8.toNat_ofNat']
        omega
theorem dgs_len {n : Nat} (h : n < 1000) : 1 ≤ (dgs n).length ∧ (dgs n).length ≤ 3 := by
  by_cases h1 : n < 10
  · rw [dgs_lt h1]; simp
  · rw [dgs_ge h1]
    by_cases h2 : n / 10 < 10
    · rw [dgs_lt h2]; simp
    · rw [dgs_ge h2, dgs_lt (by omega)]; simp
/-- what the digits tell -/
def undg : List UInt8 → Nat → Nat
  | [], v => v
  | b :: l, v => undg l (10 * v + (b.toNat - 48))
theorem undg_app : ∀ (l : List UInt8) (b : UInt8) (v : Nat), undg (l ++ [b]) v = 10 * undg l v + (b.toNat - 48)
  | [], b, v => rfl
  | c :: l, b, v => by rw [List.cons_append, undg, undg, undg_app l b]
theorem undg_dgs (n : Nat) : undg (dgs n) 0 = n := by
  induction n using Nat.strongRecOn with
  | ind n ih =>
    by_cases h : n < 10
    · rw [dgs_lt h]
      simp only [undg, UInt8.toNat_ofNat']
      omega
    · rw [dgs_ge h, undg_app, ih (n / 10) (by omega)]
      simp only [UInt8.toNat_ofNat']
      omega
end Go.Proofs.YtdpapalfafjncaaGreatDoor
