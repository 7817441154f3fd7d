/- The two tables of words of the script: a word that is there is found. Conditions: none. -/
import Derived.MapKept
import Derived.WideMake
import Derived.Test.YtdpapalfafjncaaGreatDoorZb
set_option linter.unusedVariables false
set_option linter.unusedSimpArgs false
set_option linter.unusedSectionVars false
namespace Go.Proofs.YtdpapalfafjncaaGreatDoor
open Go.RowKit

theorem set_alloc (w : World) (o o' : Obj) : { w.alloc o with heap := (w.alloc o).heap.setIfInBounds w.heap.size o' } = w.alloc o' := by
  have e : (w.heap.push o).setIfInBounds w.heap.size o' = w.heap.push o' := by
    refine Array.ext (by simp) fun i h1 h2 => ?_
    simp only [Array.size_push] at h2
    rw [Array.getElem_setIfInBounds (by simpa using h2), Array.getElem_push]
    by_cases h : w.heap.size = i
    · subst h
      simp
    · rw [if_neg h, Array.getElem_push, dif_pos (by omega), dif_pos (by omega)]
  show ({ w with heap := (w.heap.push o).setIfInBounds w.heap.size o' } : World) = { w with heap := w.heap.push o' }
  rw [e]
theorem run_mapUpdate_new {P : Program} (w : World) (mty : TypeId) {kt et : TypeId} (hm : P.underlying mty = some (.map kt et)) (hk : P.underlying kt = some .string) (s : ByteArray) (v : Value) (es : Array MapEntry) (clock : Nat) (hf : Instr.findNow .string (.string s) es.toList 0 = some none) :
    (Instr.mapUpdate mty (.map (some w.heap.size)) (.string s) v).run P (w.alloc (.map es clock)) = .ok () (w.alloc (.map (es.push ⟨.string s, v, clock⟩) (clock + 1))) := by
  have hb : (w.alloc (.map es clock)).heap[w.heap.size]? = some (.map es clock) := heap_alloc_new w _
  have hc : (Instr.checkKey false 10000 kt (.string s)).run P (w.alloc (.map es clock)) = .ok () (w.alloc (.map es clock)) := MapKept.run_checkKey (k := .string s) hk (by simp [MapKept.IsKey]) false 9999
  simp [Instr.mapUpdate, run_underlying hm, MapKept.run_getObj_map hb, hc, MapKept.run_findKey hk hf, MapKept.run_setObj_map _ hb, Result.andThen]
  exact set_alloc w _ _
theorem run_lookup_hit {P : Program} (w : World) (mty : TypeId) {kt et : TypeId} (hm : P.underlying mty = some (.map kt et)) (hk : P.underlying kt = some .string) (s : ByteArray) (es : Array MapEntry) (clock : Nat) (i : Nat) (v : Value) (hf : Instr.findNow .string (.string s) es.toList 0 = some (some (i, v))) :
    (Instr.lookup mty (.map (some w.heap.size)) (.string s) true).run P (w.alloc (.map es clock)) = .ok (.tuple #[v, .bool true]) (w.alloc (.map es clock)) := by
  have hb : (w.alloc (.map es clock)).heap[w.heap.size]? = some (.map es clock) := heap_alloc_new w _
  have hc : (Instr.checkKey es.isEmpty 10000 kt (.string s)).run P (w.alloc (.map es clock)) = .ok () (w.alloc (.map es clock)) := MapKept.run_checkKey (k := .string s) hk (by simp [MapKept.IsKey]) _ 9999
  simp [Instr.lookup, run_underlying hm, MapKept.run_getObj_map hb, hc, MapKept.run_findKey hk hf, Result.andThen]

/-- the entries of the table of bareWord -/
def bwL : List MapEntry := [⟨.string ⟨#[115, 111, 114, 116]⟩, .func (.func 53) #[] #[], 0⟩, ⟨.string ⟨#[99, 108, 101, 97, 114]⟩, .func (.func 54) #[] #[], 1⟩, ⟨.string ⟨#[115, 104, 111, 119]⟩, .func (.func 55) #[] #[], 2⟩, ⟨.string ⟨#[116, 111, 116, 97, 108]⟩, .func (.func 56) #[] #[], 3⟩, ⟨.string ⟨#[114, 101, 97, 99, 104]⟩, .func (.func 57) #[] #[], 4⟩, ⟨.string ⟨#[109, 105, 115, 115, 105, 110, 103]⟩, .func (.func 58) #[] #[], 5⟩, ⟨.string ⟨#[103, 97, 112]⟩, .func (.func 59) #[] #[], 6⟩, ⟨.string ⟨#[119, 104, 111, 108, 101]⟩, .func (.func 60) #[] #[], 7⟩, ⟨.string ⟨#[103, 114, 111, 119, 110]⟩, .func (.func 61) #[] #[], 8⟩, ⟨.string ⟨#[97, 112, 97, 114, 116]⟩, .func (.func 62) #[] #[], 9⟩, ⟨.string ⟨#[104, 97, 108, 102]⟩, .func (.func 63) #[] #[], 10⟩, ⟨.string ⟨#[99, 104, 111, 105, 99, 101]⟩, .func (.func 64) #[] #[], 11⟩, ⟨.string ⟨#[103, 114, 101, 101, 100, 121]⟩, .func (.func 65) #[] #[], 12⟩, ⟨.string ⟨#[100, 105, 102, 102, 101, 114, 101, 110, 99, 101, 115]⟩, .func (.func 66) #[] #[], 13⟩, ⟨.string ⟨#[104, 97, 108, 118, 101, 115]⟩, .func (.func 67) #[] #[], 14⟩, ⟨.string ⟨#[116, 104, 114, 101, 101]⟩, .func (.func 68) #[] #[], 15⟩, ⟨.string ⟨#[112, 97, 110, 115]⟩, .func (.func 69) #[] #[], 16⟩]
def bwE (i : Nat) : Array MapEntry := (bwL.take i).toArray
theorem bwup (w : World) (i : Nat) (s : ByteArray) (v : Value) (hf : Instr.findNow .string (.string s) (bwE i).toList 0 = some none) (he : bwE (i + 1) = (bwE i).push ⟨.string s, v, i⟩) : (Instr.mapUpdate 82 (.map (some w.heap.size)) (.string s) v).run Tryz.prog (w.alloc (.map (bwE i) i)) = .ok () (w.alloc (.map (bwE (i + 1)) (i + 1))) := by
  rw [he]
  exact run_mapUpdate_new w 82 Tryz.underlying82 Tryz.underlying9 s v _ i hf
set_option maxRecDepth 100000 in
set_option maxHeartbeats 3200000 in
theorem bareWord_half (w : World) :
    Calls Tryz.prog 42 #[.string ⟨#[104, 97, 108, 102]⟩] w fun e w' => e = .returned (.tuple #[.func (.func 63) #[] #[], .bool true]) ∧ Below w.heap.size w w' := by
  have hmm : (Instr.makeMap 82 none).run Tryz.prog w = .ok (.map (some w.heap.size)) (w.alloc (.map (bwE 0) 0)) := rfl
  have u0 := bwup w 0 ⟨#[115, 111, 114, 116]⟩ (.func (.func 53) #[] #[]) (by kernel_rfl) (by kernel_rfl)
  have u1 := bwup w 1 ⟨#[99, 108, 101, 97, 114]⟩ (.func (.func 54) #[] #[]) (by kernel_rfl) (by kernel_rfl)
  have u2 := bwup w 2 ⟨#[115, 104, 111, 119]⟩ (.func (.func 55) #[] #[]) (by kernel_rfl) (by kernel_rfl)
  have u3 := bwup w 3 ⟨#[116, 111, 116, 97, 108]⟩ (.func (.func 56) #[] #[]) (by kernel_rfl) (by kernel_rfl)
  have u4 := bwup w 4 ⟨#[114, 101, 97, 99, 104]⟩ (.func (.func 57) #[] #[]) (by kernel_rfl) (by kernel_rfl)
  have u5 := bwup w 5 ⟨#[109, 105, 115, 115, 105, 110, 103]⟩ (.func (.func 58) #[] #[]) (by kernel_rfl) (by kernel_rfl)
  have u6 := bwup w 6 ⟨#[103, 97, 112]⟩ (.func (.func 59) #[] #[]) (by kernel_rfl) (by kernel_rfl)
  have u7 := bwup w 7 ⟨#[119, 104, 111, 108, 101]⟩ (.func (.func 60) #[] #[]) (by kernel_rfl) (by kernel_rfl)
  have u8 := bwup w 8 ⟨#[103, 114, 111, 119, 110]⟩ (.func (.func 61) #[] #[]) (by kernel_rfl) (by kernel_rfl)
  have u9 := bwup w 9 ⟨#[97, 112, 97, 114, 116]⟩ (.func (.func 62) #[] #[]) (by kernel_rfl) (by kernel_rfl)
  have u10 := bwup w 10 ⟨#[104, 97, 108, 102]⟩ (.func (.func 63) #[] #[]) (by kernel_rfl) (by kernel_rfl)
  have u11 := bwup w 11 ⟨#[99, 104, 111, 105, 99, 101]⟩ (.func (.func 64) #[] #[]) (by kernel_rfl) (by kernel_rfl)
  have u12 := bwup w 12 ⟨#[103, 114, 101, 101, 100, 121]⟩ (.func (.func 65) #[] #[]) (by kernel_rfl) (by kernel_rfl)
  have u13 := bwup w 13 ⟨#[100, 105, 102, 102, 101, 114, 101, 110, 99, 101, 115]⟩ (.func (.func 66) #[] #[]) (by kernel_rfl) (by kernel_rfl)
  have u14 := bwup w 14 ⟨#[104, 97, 108, 118, 101, 115]⟩ (.func (.func 67) #[] #[]) (by kernel_rfl) (by kernel_rfl)
  have u15 := bwup w 15 ⟨#[116, 104, 114, 101, 101]⟩ (.func (.func 68) #[] #[]) (by kernel_rfl) (by kernel_rfl)
  have u16 := bwup w 16 ⟨#[112, 97, 110, 115]⟩ (.func (.func 69) #[] #[]) (by kernel_rfl) (by kernel_rfl)
  have hlk := run_lookup_hit (P := Tryz.prog) w 82 Tryz.underlying82 Tryz.underlying9 ⟨#[104, 97, 108, 102]⟩ (bwE 17) 17 10 (.func (.func 63) #[] #[]) (by kernel_rfl)
  go_enter Tryz.func42, Tryz.ntmps42
  go_wp2
  go_ret2
  exact ⟨rfl, (Below.refl _ _).alloc (Nat.le_refl _) _⟩
set_option maxRecDepth 100000 in
set_option maxHeartbeats 3200000 in
theorem bareWord_total (w : World) :
    Calls Tryz.prog 42 #[.string ⟨#[116, 111, 116, 97, 108]⟩] w fun e w' => e = .returned (.tuple #[.func (.func 56) #[] #[], .bool true]) ∧ Below w.heap.size w w' := by
  have hmm : (Instr.makeMap 82 none).run Tryz.prog w = .ok (.map (some w.heap.size)) (w.alloc (.map (bwE 0) 0)) := rfl
  have u0 := bwup w 0 ⟨#[115, 111, 114, 116]⟩ (.func (.func 53) #[] #[]) (by kernel_rfl) (by kernel_rfl)
  have u1 := bwup w 1 ⟨#[99, 108, 101, 97, 114]⟩ (.func (.func 54) #[] #[]) (by kernel_rfl) (by kernel_rfl)
  have u2 := bwup w 2 ⟨#[115, 104, 111, 119]⟩ (.func (.func 55) #[] #[]) (by kernel_rfl) (by kernel_rfl)
  have u3 := bwup w 3 ⟨#[116, 111, 116, 97, 108]⟩ (.func (.func 56) #[] #[]) (by kernel_rfl) (by kernel_rfl)
  have u4 := bwup w 4 ⟨#[114, 101, 97, 99, 104]⟩ (.func (.func 57) #[] #[]) (by kernel_rfl) (by kernel_rfl)
  have u5 := bwup w 5 ⟨#[109, 105, 115, 115, 105, 110, 103]⟩ (.func (.func 58) #[] #[]) (by kernel_rfl) (by kernel_rfl)
  have u6 := bwup w 6 ⟨#[103, 97, 112]⟩ (.func (.func 59) #[] #[]) (by kernel_rfl) (by kernel_rfl)
  have u7 := bwup w 7 ⟨#[119, 104, 111, 108, 101]⟩ (.func (.func 60) #[] #[]) (by kernel_rfl) (by kernel_rfl)
  have u8 := bwup w 8 ⟨#[103, 114, 111, 119, 110]⟩ (.func (.func 61) #[] #[]) (by kernel_rfl) (by kernel_rfl)
  have u9 := bwup w 9 ⟨#[97, 112, 97, 114, 116]⟩ (.func (.func 62) #[] #[]) (by kernel_rfl) (by kernel_rfl)
  have u10 := bwup w 10 ⟨#[104, 97, 108, 102]⟩ (.func (.func 63) #[] #[]) (by kernel_rfl) (by kernel_rfl)
  have u11 := bwup w 11 ⟨#[99, 104, 111, 105, 99, 101]⟩ (.func (.func 64) #[] #[]) (by kernel_rfl) (by kernel_rfl)
  have u12 := bwup w 12 ⟨#[103, 114, 101, 101, 100, 121]⟩ (.func (.func 65) #[] #[]) (by kernel_rfl) (by kernel_rfl)
  have u13 := bwup w 13 ⟨#[100, 105, 102, 102, 101, 114, 101, 110, 99, 101, 115]⟩ (.func (.func 66) #[] #[]) (by kernel_rfl) (by kernel_rfl)
  have u14 := bwup w 14 ⟨#[104, 97, 108, 118, 101, 115]⟩ (.func (.func 67) #[] #[]) (by kernel_rfl) (by kernel_rfl)
  have u15 := bwup w 15 ⟨#[116, 104, 114, 101, 101]⟩ (.func (.func 68) #[] #[]) (by kernel_rfl) (by kernel_rfl)
  have u16 := bwup w 16 ⟨#[112, 97, 110, 115]⟩ (.func (.func 69) #[] #[]) (by kernel_rfl) (by kernel_rfl)
  have hlk := run_lookup_hit (P := Tryz.prog) w 82 Tryz.underlying82 Tryz.underlying9 ⟨#[116, 111, 116, 97, 108]⟩ (bwE 17) 17 3 (.func (.func 56) #[] #[]) (by kernel_rfl)
  go_enter Tryz.func42, Tryz.ntmps42
  go_wp2
  go_ret2
  exact ⟨rfl, (Below.refl _ _).alloc (Nat.le_refl _) _⟩
/-- the entries of the table of restWord -/
def rwL : List MapEntry := [⟨.string ⟨#[108, 105, 115, 116]⟩, .func (.func 70) #[] #[], 0⟩, ⟨.string ⟨#[99, 104, 111, 105, 99, 101, 115]⟩, .func (.func 71) #[] #[], 1⟩, ⟨.string ⟨#[110, 101, 120, 116]⟩, .func (.func 72) #[] #[], 2⟩, ⟨.string ⟨#[102, 105, 114, 115, 116]⟩, .func (.func 72) #[] #[], 3⟩, ⟨.string ⟨#[98, 101, 115, 116]⟩, .func (.func 72) #[] #[], 4⟩, ⟨.string ⟨#[119, 111, 114, 115, 116]⟩, .func (.func 72) #[] #[], 5⟩, ⟨.string ⟨#[78, 101, 120, 116]⟩, .func (.func 72) #[] #[], 6⟩, ⟨.string ⟨#[70, 105, 114, 115, 116]⟩, .func (.func 72) #[] #[], 7⟩, ⟨.string ⟨#[66, 101, 115, 116]⟩, .func (.func 72) #[] #[], 8⟩, ⟨.string ⟨#[87, 111, 114, 115, 116]⟩, .func (.func 72) #[] #[], 9⟩, ⟨.string ⟨#[98, 105, 110, 115]⟩, .func (.func 73) #[] #[], 10⟩, ⟨.string ⟨#[98, 111, 117, 110, 100]⟩, .func (.func 74) #[] #[], 11⟩, ⟨.string ⟨#[115, 112, 97, 110]⟩, .func (.func 75) #[] #[], 12⟩, ⟨.string ⟨#[108, 111, 110, 103]⟩, .func (.func 76) #[] #[], 13⟩, ⟨.string ⟨#[108, 101, 97, 115, 116]⟩, .func (.func 77) #[] #[], 14⟩, ⟨.string ⟨#[112, 117, 116]⟩, .func (.func 78) #[] #[], 15⟩, ⟨.string ⟨#[119, 101, 105, 103, 104]⟩, .func (.func 79) #[] #[], 16⟩, ⟨.string ⟨#[100, 105, 103, 105, 116, 115]⟩, .func (.func 80) #[] #[], 17⟩, ⟨.string ⟨#[114, 101, 115, 116, 115]⟩, .func (.func 81) #[] #[], 18⟩, ⟨.string ⟨#[114, 101, 115, 116]⟩, .func (.func 82) #[] #[], 19⟩, ⟨.string ⟨#[112, 97, 114, 116, 115]⟩, .func (.func 83) #[] #[], 20⟩, ⟨.string ⟨#[116, 104, 117, 101]⟩, .func (.func 84) #[] #[], 21⟩]
def rwE (i : Nat) : Array MapEntry := (rwL.take i).toArray
theorem rwup (w : World) (i : Nat) (s : ByteArray) (v : Value) (hf : Instr.findNow .string (.string s) (rwE i).toList 0 = some none) (he : rwE (i + 1) = (rwE i).push ⟨.string s, v, i⟩) : (Instr.mapUpdate 84 (.map (some w.heap.size)) (.string s) v).run Tryz.prog (w.alloc (.map (rwE i) i)) = .ok () (w.alloc (.map (rwE (i + 1)) (i + 1))) := by
  rw [he]
  exact run_mapUpdate_new w 84 Tryz.underlying84 Tryz.underlying9 s v _ i hf
set_option maxRecDepth 100000 in
set_option maxHeartbeats 3200000 in
theorem restWord_list (w : World) :
    Calls Tryz.prog 43 #[.string ⟨#[108, 105, 115, 116]⟩] w fun e w' => e = .returned (.tuple #[.func (.func 70) #[] #[], .bool true]) ∧ Below w.heap.size w w' := by
  have hmm : (Instr.makeMap 84 none).run Tryz.prog w = .ok (.map (some w.heap.size)) (w.alloc (.map (rwE 0) 0)) := rfl
  have u0 := rwup w 0 ⟨#[108, 105, 115, 116]⟩ (.func (.func 70) #[] #[]) (by kernel_rfl) (by kernel_rfl)
  have u1 := rwup w 1 ⟨#[99, 104, 111, 105, 99, 101, 115]⟩ (.func (.func 71) #[] #[]) (by kernel_rfl) (by kernel_rfl)
  have u2 := rwup w 2 ⟨#[110, 101, 120, 116]⟩ (.func (.func 72) #[] #[]) (by kernel_rfl) (by kernel_rfl)
  have u3 := rwup w 3 ⟨#[102, 105, 114, 115, 116]⟩ (.func (.func 72) #[] #[]) (by kernel_rfl) (by kernel_rfl)
  have u4 := rwup w 4 ⟨#[98, 101, 115, 116]⟩ (.func (.func 72) #[] #[]) (by kernel_rfl) (by kernel_rfl)
  have u5 := rwup w 5 ⟨#[119, 111, 114, 115, 116]⟩ (.func (.func 72) #[] #[]) (by kernel_rfl) (by kernel_rfl)
  have u6 := rwup w 6 ⟨#[78, 101, 120, 116]⟩ (.func (.func 72) #[] #[]) (by kernel_rfl) (by kernel_rfl)
  have u7 := rwup w 7 ⟨#[70, 105, 114, 115, 116]⟩ (.func (.func 72) #[] #[]) (by kernel_rfl) (by kernel_rfl)
  have u8 := rwup w 8 ⟨#[66, 101, 115, 116]⟩ (.func (.func 72) #[] #[]) (by kernel_rfl) (by kernel_rfl)
  have u9 := rwup w 9 ⟨#[87, 111, 114, 115, 116]⟩ (.func (.func 72) #[] #[]) (by kernel_rfl) (by kernel_rfl)
  have u10 := rwup w 10 ⟨#[98, 105, 110, 115]⟩ (.func (.func 73) #[] #[]) (by kernel_rfl) (by kernel_rfl)
  have u11 := rwup w 11 ⟨#[98, 111, 117, 110, 100]⟩ (.func (.func 74) #[] #[]) (by kernel_rfl) (by kernel_rfl)
  have u12 := rwup w 12 ⟨#[115, 112, 97, 110]⟩ (.func (.func 75) #[] #[]) (by kernel_rfl) (by kernel_rfl)
  have u13 := rwup w 13 ⟨#[108, 111, 110, 103]⟩ (.func (.func 76) #[] #[]) (by kernel_rfl) (by kernel_rfl)
  have u14 := rwup w 14 ⟨#[108, 101, 97, 115, 116]⟩ (.func (.func 77) #[] #[]) (by kernel_rfl) (by kernel_rfl)
  have u15 := rwup w 15 ⟨#[112, 117, 116]⟩ (.func (.func 78) #[] #[]) (by kernel_rfl) (by kernel_rfl)
  have u16 := rwup w 16 ⟨#[119, 101, 105, 103, 104]⟩ (.func (.func 79) #[] #[]) (by kernel_rfl) (by kernel_rfl)
  have u17 := rwup w 17 ⟨#[100, 105, 103, 105, 116, 115]⟩ (.func (.func 80) #[] #[]) (by kernel_rfl) (by kernel_rfl)
  have u18 := rwup w 18 ⟨#[114, 101, 115, 116, 115]⟩ (.func (.func 81) #[] #[]) (by kernel_rfl) (by kernel_rfl)
  have u19 := rwup w 19 ⟨#[114, 101, 115, 116]⟩ (.func (.func 82) #[] #[]) (by kernel_rfl) (by kernel_rfl)
  have u20 := rwup w 20 ⟨#[112, 97, 114, 116, 115]⟩ (.func (.func 83) #[] #[]) (by kernel_rfl) (by kernel_rfl)
  have u21 := rwup w 21 ⟨#[116, 104, 117, 101]⟩ (.func (.func 84) #[] #[]) (by kernel_rfl) (by kernel_rfl)
  have hlk := run_lookup_hit (P := Tryz.prog) w 84 Tryz.underlying84 Tryz.underlying9 ⟨#[108, 105, 115, 116]⟩ (rwE 22) 22 0 (.func (.func 70) #[] #[]) (by kernel_rfl)
  go_enter Tryz.func43, Tryz.ntmps43
  go_wp2
  go_ret2
  exact ⟨rfl, (Below.refl _ _).alloc (Nat.le_refl _) _⟩
set_option maxRecDepth 100000 in
set_option maxHeartbeats 3200000 in
theorem restWord_bins (w : World) :
    Calls Tryz.prog 43 #[.string ⟨#[98, 105, 110, 115]⟩] w fun e w' => e = .returned (.tuple #[.func (.func 73) #[] #[], .bool true]) ∧ Below w.heap.size w w' := by
  have hmm : (Instr.makeMap 84 none).run Tryz.prog w = .ok (.map (some w.heap.size)) (w.alloc (.map (rwE 0) 0)) := rfl
  have u0 := rwup w 0 ⟨#[108, 105, 115, 116]⟩ (.func (.func 70) #[] #[]) (by kernel_rfl) (by kernel_rfl)
  have u1 := rwup w 1 ⟨#[99, 104, 111, 105, 99, 101, 115]⟩ (.func (.func 71) #[] #[]) (by kernel_rfl) (by kernel_rfl)
  have u2 := rwup w 2 ⟨#[110, 101, 120, 116]⟩ (.func (.func 72) #[] #[]) (by kernel_rfl) (by kernel_rfl)
  have u3 := rwup w 3 ⟨#[102, 105, 114, 115, 116]⟩ (.func (.func 72) #[] #[]) (by kernel_rfl) (by kernel_rfl)
  have u4 := rwup w 4 ⟨#[98, 101, 115, 116]⟩ (.func (.func 72) #[] #[]) (by kernel_rfl) (by kernel_rfl)
  have u5 := rwup w 5 ⟨#[119, 111, 114, 115, 116]⟩ (.func (.func 72) #[] #[]) (by kernel_rfl) (by kernel_rfl)
  have u6 := rwup w 6 ⟨#[78, 101, 120, 116]⟩ (.func (.func 72) #[] #[]) (by kernel_rfl) (by kernel_rfl)
  have u7 := rwup w 7 ⟨#[70, 105, 114, 115, 116]⟩ (.func (.func 72) #[] #[]) (by kernel_rfl) (by kernel_rfl)
  have u8 := rwup w 8 ⟨#[66, 101, 115, 116]⟩ (.func (.func 72) #[] #[]) (by kernel_rfl) (by kernel_rfl)
  have u9 := rwup w 9 ⟨#[87, 111, 114, 115, 116]⟩ (.func (.func 72) #[] #[]) (by kernel_rfl) (by kernel_rfl)
  have u10 := rwup w 10 ⟨#[98, 105, 110, 115]⟩ (.func (.func 73) #[] #[]) (by kernel_rfl) (by kernel_rfl)
  have u11 := rwup w 11 ⟨#[98, 111, 117, 110, 100]⟩ (.func (.func 74) #[] #[]) (by kernel_rfl) (by kernel_rfl)
  have u12 := rwup w 12 ⟨#[115, 112, 97, 110]⟩ (.func (.func 75) #[] #[]) (by kernel_rfl) (by kernel_rfl)
  have u13 := rwup w 13 ⟨#[108, 111, 110, 103]⟩ (.func (.func 76) #[] #[]) (by kernel_rfl) (by kernel_rfl)
  have u14 := rwup w 14 ⟨#[108, 101, 97, 115, 116]⟩ (.func (.func 77) #[] #[]) (by kernel_rfl) (by kernel_rfl)
  have u15 := rwup w 15 ⟨#[112, 117, 116]⟩ (.func (.func 78) #[] #[]) (by kernel_rfl) (by kernel_rfl)
  have u16 := rwup w 16 ⟨#[119, 101, 105, 103, 104]⟩ (.func (.func 79) #[] #[]) (by kernel_rfl) (by kernel_rfl)
  have u17 := rwup w 17 ⟨#[100, 105, 103, 105, 116, 115]⟩ (.func (.func 80) #[] #[]) (by kernel_rfl) (by kernel_rfl)
  have u18 := rwup w 18 ⟨#[114, 101, 115, 116, 115]⟩ (.func (.func 81) #[] #[]) (by kernel_rfl) (by kernel_rfl)
  have u19 := rwup w 19 ⟨#[114, 101, 115, 116]⟩ (.func (.func 82) #[] #[]) (by kernel_rfl) (by kernel_rfl)
  have u20 := rwup w 20 ⟨#[112, 97, 114, 116, 115]⟩ (.func (.func 83) #[] #[]) (by kernel_rfl) (by kernel_rfl)
  have u21 := rwup w 21 ⟨#[116, 104, 117, 101]⟩ (.func (.func 84) #[] #[]) (by kernel_rfl) (by kernel_rfl)
  have hlk := run_lookup_hit (P := Tryz.prog) w 84 Tryz.underlying84 Tryz.underlying9 ⟨#[98, 105, 110, 115]⟩ (rwE 22) 22 10 (.func (.func 73) #[] #[]) (by kernel_rfl)
  go_enter Tryz.func43, Tryz.ntmps43
  go_wp2
  go_ret2
  exact ⟨rfl, (Below.refl _ _).alloc (Nat.le_refl _) _⟩
end Go.Proofs.YtdpapalfafjncaaGreatDoor
