/- strings.SplitSeq at a blank: what its iterator hands out. Conditions: stated in each. -/
import Derived.TacticsInMore
import Derived.LoopNIn
import Derived.LoopIn
import Derived.Shelf.Abstract
import Derived.Test.YtdpapalfafjncaaGreatDoorNK
namespace Go.Proofs.YtdpapalfafjncaaGreatDoor
open Go.RowKit Go.Shelf
attribute [local go_sem] Oper.semAt_some

/-- what is left of the text when k numbers have been handed out -/
def leftT (zs : List (Fin 1000)) (k : Nat) : List UInt8 := spT ((zs.drop k).map fun x => (x.val : Int))
theorem dgs_no32 (n : Nat) (h : n < 1000) : (32 : UInt8) ∉ dgs n := fun hm => by
  have := dgs_mem n 32 hm
  simp at this
theorem left_last (zs : List (Fin 1000)) (x : Fin 1000) (k : Nat) (h : zs.drop k = [x]) : leftT zs k = dgs x.val := by
  unfold leftT; rw [h]; simp [spT]
theorem left_more (zs : List (Fin 1000)) (x : Fin 1000) (k : Nat) (hk : k + 1 < zs.length) (hx : zs[k]'(by omega) = x) : leftT zs k = dgs x.val ++ 32 :: leftT zs (k + 1) := by
  unfold leftT
  rw [List.drop_eq_getElem_cons (show k < zs.length by omega), hx, List.map_cons, spT_cons (by simp; omega)]
  simp

theorem left_le (zs : List (Fin 1000)) (k : Nat) (hl : zs.length ≤ 1000) : (leftT zs k).length ≤ 7000 := by
  have := spT_le ((zs.drop k).map fun x => (x.val : Int)) fun y hy => by
    obtain ⟨x, _, rfl⟩ := List.mem_map.1 hy
    have := x.isLt
    omega
  have h2 : ((zs.drop k).map fun x => (x.val : Int)).length ≤ zs.length := by simp
  unfold leftT
  omega

/-- the three boxes of the iterator: the separator, what is left, and how much of the separator is kept -/
def SeqBoxes (B : Nat) (s : List UInt8) (W : World) : Prop := Boxed W B 9 (.string ⟨s.toArray⟩) ∧ Boxed W (B + 1) 9 (.string ⟨#[32]⟩) ∧ Boxed W (B + 2) 3 (.int .i64 0)
theorem SeqBoxes.same {B : Nat} {s : List UInt8} {W W' : World} (h : SeqBoxes B s W) (k : SameAt [B, B + 1, B + 2] W W') : SeqBoxes B s W' :=
  ⟨(k B (by simp)).trans h.1, (k (B + 1) (by simp)).trans h.2.1, (k (B + 2) (by simp)).trans h.2.2⟩
theorem SeqBoxes.set {B : Nat} {s s' : List UInt8} {W : World} (h : SeqBoxes B s W) : SeqBoxes B s' (W.setCell ⟨B, 0, none⟩ (.string ⟨s'.toArray⟩)) :=
  ⟨h.1.set _, h.2.1.other (by omega) _, h.2.2.other (by omega) _⟩

def lenAt (B : Nat) (W : World) : Nat := match W.cell? ⟨B, 0, none⟩ with | some (.string s) => s.size | _ => 0

theorem lenAt_of {B : Nat} {W : World} {s : ByteArray} (h : W.cell? ⟨B, 0, none⟩ = some (.string s)) : lenAt B W = s.size := by simp [lenAt, h]

set_option maxRecDepth 100000 in
set_option maxHeartbeats 2000000 in
theorem seq_feeds (n B : Nat) (zs : List (Fin 1000)) (hz : 0 < zs.length) (hl : zs.length ≤ 1000) (I : List (Fin 1000) → World → Prop) (W : World) (hB : SeqBoxes B (leftT zs 0) W)
    (hset : ∀ pre X v, I pre X → I pre (X.setCell ⟨B, 0, none⟩ v)) :
    Feeds Fence.wide n Tryz.prog 152 #[.pointer (some ⟨B + 1, 0, none⟩), .pointer (some ⟨B, 0, none⟩), .pointer (some ⟨B + 2, 0, none⟩)] (fun x : Fin 1000 => #[.string ⟨(dgs x.val).toArray⟩]) B zs.length [B, B + 1, B + 2] I (fun xs => xs = zs) W := by
  intro l G hGs hGd hY X hSame hI0 hG0
  have hBX := hB.same hSame
  have c1 := hBX.1.cell
  have c2 := hBX.2.1.cell
  have c3 := hBX.2.2.cell
  refine callsIn_of_wp Tryz.func152 rfl trivial ?_ rfl
  simp only [Tryz.ntmps152, List.size_toArray, List.length_cons, List.length_nil, Nat.reduceAdd, Nat.reduceSub, Array.replicate_succ, Array.replicate_zero, List.push_toArray, List.append_toArray, List.nil_append, List.cons_append]
  gi_wp2
  gi_loopw [7] (fun _ wr => ∃ k : Nat, k < zs.length ∧ I (zs.take k) wr ∧ G wr ∧ SeqBoxes B (leftT zs k) wr) (fun _ wr => lenAt B wr)
  case atStart => exact ⟨0, hz, hI0, hG0, hBX⟩
  case round =>
    obtain ⟨k, hk, hI, hG, hB2⟩ := hrel
    obtain ⟨x, hx⟩ : ∃ x, zs[k]'hk = x := ⟨_, rfl⟩
    have d1 := hB2.1.cell
    have d2 := hB2.2.1.cell
    have d3 := hB2.2.2.cell
    have hdl := dgs_len x.isLt
    have HB2 := Lib.hid hB2
    have htk : zs.take (k + 1) = zs.take k ++ [x] := by rw [List.take_add_one, List.getElem?_eq_getElem hk, hx]; rfl
    clear c1 c2 c3 hBX hI0 hG0 hSame hB hB2
    obtain ⟨fn, tmps, assign, body, hy, hR⟩ := hY _ x wr (by rw [List.length_take]; omega) hI hG
    have HR := Lib.hid hR
    rw [← htk] at HR
    clear hR hY
    by_cases hlt : k + 1 < zs.length
    · have hm := left_more zs x k hlt hx
      have HX := Lib.hid (Tryz.strings_Index_one ⟨(dgs x.val ++ 32 :: leftT zs (k + 1)).toArray⟩ 32 wr)
      have hi : Lib.indexByte (dgs x.val ++ 32 :: leftT zs (k + 1)) 32 = (dgs x.val).length := indexByte_at (dgs_no32 _ x.isLt)
      simp only [hi] at HX
      rw [hm] at d1
      have HM := Lib.hid hm
      clear hi hm
      have hcl := cutL (dgs x.val) (leftT zs (k + 1)) 32
      have hcr := cutR (dgs x.val) (leftT zs (k + 1)) 32
      have hsz : (⟨(dgs x.val ++ 32 :: leftT zs (k + 1)).toArray⟩ : ByteArray).size = (dgs x.val).length + (leftT zs (k + 1)).length + 1 := by simp [ByteArray.size]; omega
      have hll : (leftT zs (k + 1)).length ≤ 7000 := left_le zs (k + 1) hl
      have HCR := Lib.hid hcr
      gi_wp2_with (refine ⟨trivial, (fun h => by cases h), ?_⟩; gi_at_call 154; refine (callsIn_wide.2 HX.out).mono ?_; rintro e w' ⟨rfl, rfl⟩)
      refine ⟨(fun h => by cases h), HR.out.mono ?_⟩
      rintro e W3 ⟨rfl, hI3, hG3, hS3⟩
      have hB3 := HB2.out.same hS3
      rw [HM.out] at hB3
      have g1 := hB3.1.cell
      have gf := hB3.1.frozen
      have g2 := hB3.2.1.cell
      have g3 := hB3.2.2.cell
      have HB3 := Lib.hid hB3
      clear d1 d2 d3 hB3
      gi_wp2
      have q1 := lenAt_of (HB3.out.set (s' := leftT zs (k + 1))).1.cell
      have q2 := lenAt_of HB2.out.1.cell
      rw [HM.out] at q2
      refine ⟨⟨k + 1, hlt, hset _ _ _ hI3, hGs _ _ hG3, HB3.out.set⟩, ?_⟩
      rw [q1, q2]
      simp [ByteArray.size]
      omega
    · have hm := left_last zs x k (by rw [List.drop_eq_getElem_cons hk, hx, List.drop_eq_nil_of_le (by omega)])
      have HX := Lib.hid (Tryz.strings_Index_one ⟨(dgs x.val).toArray⟩ 32 wr)
      have hi : Lib.indexByte (dgs x.val) 32 = -1 := indexByte_none (dgs_no32 _ x.isLt)
      simp only [hi] at HX
      rw [hm] at d1
      have HM := Lib.hid hm
      clear hi hm
      gi_wp2_with (refine ⟨trivial, (fun h => by cases h), ?_⟩; gi_at_call 154; refine (callsIn_wide.2 HX.out).mono ?_; rintro e w' ⟨rfl, rfl⟩)
      refine ⟨(fun h => by cases h), HR.out.mono ?_⟩
      rintro e W3 ⟨rfl, hI3, hG3, hS3⟩
      gi_wp2
      go_end0
      refine ⟨⟨_, rfl⟩, zs, rfl, ?_, hG3⟩
      rwa [List.take_of_length_le (by omega)] at hI3
end Go.Proofs.YtdpapalfafjncaaGreatDoor
