/- HalfBest of the program. Conditions: the list is short enough to be counted. -/
import Derived.Laws.EntriesVeiled
import Derived.Test.YtdpapalfafjncaaGreatDoorIB
import Derived.Test.YtdpapalfafjncaaGreatDoorW17
namespace Go.Proofs.YtdpapalfafjncaaGreatDoor
open Go.RowKit Go.Shelf

set_option maxHeartbeats 1600000 in
theorem HalfBest_any (a : Option Addr) (cap : Nat) (zs : List Int) (w : World) (hl : zs.length ≤ 4294967296) (hI : IntsAt w a zs) :
    Calls Tryz.prog 6 #[.slice a zs.length cap] w (NumPost w (lrR zs) (inL zs)) := by
  have hB0 : ∀ o, Below w.heap.size w (w.alloc o) := fun o => (Below.refl _ w).alloc (Nat.le_refl _) _
  by_cases hz : inL zs = true
  case neg =>
    have hz' : inL zs = false := by simpa using hz
    rw [lrR, if_neg hz, hz']
    have HZ := Lib.hid hz'
    clear hz hz'
    go_enter Tryz.func6, Tryz.ntmps6
    go_wp2_with (go_at_call 16; refine (SumIn_any a cap zs _ hl (hI.below (hB0 _))).mono ?_; rw [HZ.out]; rintro e w' ⟨rfl, rfl⟩)
    go_ret2
    exact ⟨rfl, hB0 _⟩
  rw [lrR, if_pos hz, hz]
  have hzl := (inL_iff zs).1 hz
  have htb := tot_bd hzl.2
  have HZ := Lib.hid hz
  clear hz
  have hI1 := hI.below (hB0 (.cells #[.slice a zs.length cap] 23))
  go_enter Tryz.func6, Tryz.ntmps6
  go_wp2_with (first | (go_at_call 16; refine (SumIn_any a cap zs _ hl hI1).mono ?_; rw [HZ.out]; rintro e w' ⟨rfl, rfl⟩) | (go_at_call 17; refine (totalOf_any a cap zs _ (by omega) hzl.2 hI1).mono ?_; rintro e w' ⟨rfl, rfl⟩))
  have b1 := Boxed.new w 23 (.slice a zs.length cap)
  have b2 := Boxed.new (w.alloc (.cells #[.slice a zs.length cap] 23)) 3 (.int .i64 (tot zs))
  have b3 := Boxed.new ((w.alloc (.cells #[.slice a zs.length cap] 23)).alloc (.cells #[.int .i64 (tot zs)] 3)) 36 (.func (.func 18) #[] #[.pointer (some ⟨w.heap.size, 0, none⟩), .pointer (some ⟨w.heap.size + 1, 0, none⟩), .pointer (some ⟨w.heap.size + 1 + 1, 0, none⟩)])
  simp only [World.size_alloc] at b2 b3
  refine (HB1_any a cap zs w.heap.size (w.heap.size + 1) (w.heap.size + 1 + 1) (by omega) hzl.2 hzl.1 w (by omega) hI zs.length 0 0 0 0 (tot zs) _ rfl rfl (by omega) (by omega) (by omega) (by omega) ?_ ?_).mono ?_
  · exact ⟨(b1.alloc _).alloc _, b2.alloc _, b3⟩
  · exact ((hB0 _).alloc (by simp) _).alloc (by simp; omega) _
  · rintro e w1 ⟨rfl, hS, hB1⟩
    have c2 := hS.2.1.cell
    rw [List.drop_zero] at c2
    clear hS b1 b2 b3
    generalize hR : sgnMin zs 0 (tot zs) = R at c2
    have HRR : Hid (lr zs = R) := hR
    clear hR
    go_wp2
    go_ret2
    exact ⟨by rw [HRR.out]; rfl, hB1⟩
end Go.Proofs.YtdpapalfafjncaaGreatDoor
