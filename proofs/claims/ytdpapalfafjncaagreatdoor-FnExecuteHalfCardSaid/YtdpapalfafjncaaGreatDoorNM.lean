/- strings.SplitSeq: the iterator's value and its three boxes. -/
import Derived.Test.YtdpapalfafjncaaGreatDoorNL
namespace Go.Proofs.YtdpapalfafjncaaGreatDoor
open Go.RowKit Go.Shelf
attribute [local go_sem] Oper.semAt_some

/-- the world with the iterator's three boxes -/
def seqWorld (s : ByteArray) (w : World) : World := ((w.alloc (.cells #[.string s] 9)).alloc (.cells #[.string ⟨#[32]⟩] 9)).alloc (.cells #[.int .i64 0] 3)
def seqEnd (B : Nat) : Ending := .returned (.func (.func 152) #[] #[.pointer (some ⟨B + 1, 0, none⟩), .pointer (some ⟨B, 0, none⟩), .pointer (some ⟨B + 2, 0, none⟩)])

theorem splitSeq_any (s : ByteArray) (w : World) :
    Calls Tryz.prog 125 #[.string s, .string ⟨#[32]⟩, .int .i64 0] w fun e w' => e = seqEnd w.heap.size ∧ w' = seqWorld s w := by
  go_enter Tryz.func125, Tryz.ntmps125
  go_wp2_with fail
  go_ret
  exact ⟨rfl, rfl⟩

theorem SplitSeq_any (s : ByteArray) (w : World) :
    Calls Tryz.prog 85 #[.string s, .string ⟨#[32]⟩] w fun e w' => e = seqEnd w.heap.size ∧ w' = seqWorld s w := by
  have HS := Lib.hid (splitSeq_any s w)
  go_enter Tryz.func85, Tryz.ntmps85
  go_wp2_with fail
  refine HS.out.mono ?_
  rintro e w1 ⟨rfl, rfl⟩
  unfold seqEnd
  simp only []
  go_wp2_with fail
  go_ret
  exact ⟨rfl, rfl⟩

theorem seqWorld_boxes (s : List UInt8) (w : World) : SeqBoxes w.heap.size s (seqWorld ⟨s.toArray⟩ w) := by
  have b1 := Boxed.new w 9 (.string ⟨s.toArray⟩)
  have b2 := Boxed.new (w.alloc (.cells #[.string ⟨s.toArray⟩] 9)) 9 (.string ⟨#[32]⟩)
  have b3 := Boxed.new ((w.alloc (.cells #[.string ⟨s.toArray⟩] 9)).alloc (.cells #[.string ⟨#[32]⟩] 9)) 3 (.int .i64 0)
  simp only [World.size_alloc] at b2 b3
  exact ⟨(b1.alloc _).alloc _, b2.alloc _, b3⟩
theorem seqWorld_size (s : ByteArray) (w : World) : (seqWorld s w).heap.size = w.heap.size + 3 := by simp [seqWorld]
theorem seqWorld_below (s : ByteArray) (w : World) : Below w.heap.size w (seqWorld s w) :=
  (((Below.refl _ w).alloc (Nat.le_refl _) _).alloc (by simp) _).alloc (by simp; omega) _
end Go.Proofs.YtdpapalfafjncaaGreatDoor
