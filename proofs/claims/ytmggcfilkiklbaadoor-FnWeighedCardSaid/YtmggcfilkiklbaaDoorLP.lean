/- The draws of weights. Conditions: stated in each. -/
import Derived.Test.YtmggcfilkiklbaaDoorLE
import Derived.Test.YtmggcfilkiklbaaDoorW11
namespace Go.Proofs.YtmggcfilkiklbaaDoor
open Go.RowKit

set_option maxHeartbeats 400000 in
theorem l4Total_any (a : Option Addr) (cap : Nat) (zs : List Int) (w : World) (hl : zs.length ≤ 1000000) (hg : ∀ x ∈ zs, 0 ≤ x ∧ x ≤ 1000000) (hI : IntsAt w a zs) :
    Calls Tryd.prog 23 #[.slice a zs.length cap] w fun e w' => e = .returned (.int .i64 (tot zs)) ∧ w = w' := by
  go_enter Tryd.func23, Tryd.ntmps23
  go_wp2
  go_loop [3, 4] (fun s i => ∃ k : Nat, k ≤ zs.length ∧ i = .int .i64 k ∧ s = .int .i64 (tot (zs.take k))) (fun _ i => zs.length - (intOf i).toNat)
  case atStart => exact ⟨0, Nat.zero_le _, rfl, rfl⟩
  case round =>
    obtain ⟨k, hk, rfl, rfl⟩ := hrel
    by_cases hlt : k < zs.length
    · obtain ⟨b, off, rfl, hb, hcell⟩ := hI.at (by omega)
      have hg2 := tot_bdM (a := zs.take k) (fun x hx => hg x (List.mem_of_mem_take hx))
      have hg3 : (zs.take k).length ≤ k := List.length_take_le _ _
      have hg4 : 0 ≤ zs[k]?.getD 0 ∧ zs[k]?.getD 0 ≤ 1000000 := by rw [List.getElem?_eq_getElem hlt]; exact hg _ (List.getElem_mem hlt)
      have HS := Lib.hid (tot_take zs k hlt)
      have hx := hcell k hlt
      generalize zs[k]?.getD 0 = x at hx hg4 HS
      generalize tot (zs.take k) = s at hg2 HS
      clear hcell
      go_wp2
      go_round
      case rel => exact ⟨k + 1, by omega, by go_num, by rw [HS.out]⟩
      case measure => simp [intOf]; omega
    · go_wp2
      go_ret
      exact ⟨ret_int (by rw [List.take_of_length_le (by omega)]), rfl⟩

def GoodPost (w : World) (n : Nat) (e : Ending) (w' : World) : Prop := ∃ v ys, e = .returned v ∧ OwnI w' w.heap.size v ys ∧ good ys ∧ ys.length ≤ n ∧ Below w.heap.size w w'
theorem good.snoc {ys : List Int} {x : Int} (h : good ys) (hx : 1 ≤ x ∧ x ≤ 60) : good (ys ++ [x]) := fun y hy => by
  rcases List.mem_append.1 hy with hy | hy
  · exact h y hy
  · rw [List.mem_singleton.1 hy]; exact hx

set_option maxHeartbeats 800000 in
theorem l92Whole_any (a : Option Addr) (cap : Nat) (zs : List Int) (w : World) (hl : zs.length ≤ 1000000) (hI : IntsAt w a zs) :
    Calls Tryd.prog 24 #[.slice a zs.length cap] w (GoodPost w zs.length) := by
  have HO : OwnI (w.alloc (.cells #[] 3)) w.heap.size (.slice (some ⟨w.heap.size, 0, none⟩) 0 0) [] := World.ownsRow_lit w #[] 0 (Nat.le_refl _) (by unfold maxLen; omega) (by simp)
  go_enter Tryd.func24, Tryd.ntmps24
  go_wp2
  go_loopw [3, 4] (fun v i wr => ∃ (k : Nat) (ys : List Int), k ≤ zs.length ∧ i = .int .i64 k ∧ ys.length ≤ k ∧ good ys ∧ OwnI wr w.heap.size v ys ∧ Below w.heap.size w wr) (fun _ i _ => zs.length - (intOf i).toNat)
  case atStart => exact ⟨0, [], Nat.zero_le _, rfl, Nat.le_refl _, (fun z hz => by cases hz), HO, (Below.refl _ _).alloc (Nat.le_refl _) _⟩
  case round =>
    obtain ⟨k, ys, hk, rfl, hyl, hyg, hO, hB⟩ := hrel
    by_cases hlt : k < zs.length
    · obtain ⟨b, off, rfl, hb, hcell⟩ := (hI.below hB).at (by omega)
      have hx := hcell k hlt
      generalize zs[k]?.getD 0 = x at hx
      clear hcell
      by_cases hx12 : 1 ≤ x ∧ x ≤ 60
      · have hd : (decide (1 ≤ x) && decide (x ≤ 60)) = true := by simp [hx12]
        go_wp2_with (first | (go_at_call 20; refine (l6In_any x 1 60 _).mono ?_; rw [hd]; rintro e w' ⟨rfl, rfl⟩) | (at_builtin; refine append1 wr rfl _ _ rfl w.heap.size u3 ys x rfl rfl hO ?_ hB.size ?_; (omega); intro v' w' hO' hG'))
        go_roundw
        case rel => exact ⟨k + 1, ys ++ [x], by omega, by go_num, by simp; omega, hyg.snoc hx12, hO', hB.grown hG' hB.size (fun j hj => (hO.lt j hj).1)⟩
        case measure => simp [intOf]; omega
      · have hd : (decide (1 ≤ x) && decide (x ≤ 60)) = false := by simp; omega
        go_wp2_with (go_at_call 20; refine (l6In_any x 1 60 _).mono ?_; rw [hd]; rintro e w' ⟨rfl, rfl⟩)
        go_roundw
        case rel => exact ⟨k + 1, ys, by omega, by go_num, by omega, hyg, hO, hB⟩
        case measure => simp [intOf]; omega
    · go_wp2
      go_ret
      exact ⟨_, ys, rfl, hO, hyg, by omega, hB⟩

def GoodPost2 (w : World) (n : Nat) (e : Ending) (w' : World) : Prop := ∃ v ys ok, e = .returned (.tuple #[v, .bool ok]) ∧ OwnI w' w.heap.size v ys ∧ good ys ∧ ys.length ≤ n ∧ Below w.heap.size w w'

set_option maxHeartbeats 800000 in
theorem PanBest_any (n : Int) (w : World) (hn : 0 ≤ n ∧ n ≤ 4) :
    Calls Tryd.prog 22 #[.int .i64 n] w (GoodPost2 w 4) := by
  have HO : OwnI (w.alloc (.cells #[] 3)) w.heap.size (.slice (some ⟨w.heap.size, 0, none⟩) 0 0) [] := World.ownsRow_lit w #[] 0 (Nat.le_refl _) (by unfold maxLen; omega) (by simp)
  have hd : (decide (0 ≤ n) && decide (n ≤ 4)) = true := by simp [hn]
  go_enter Tryd.func22, Tryd.ntmps22
  go_wp2_with (go_at_call 20; refine (l6In_any n 0 4 _).mono ?_; rw [hd]; rintro e w' ⟨rfl, rfl⟩)
  go_loopw [4, 5, 6] (fun v p i wr => ∃ (k : Nat) (ys : List Int), k ≤ n ∧ i = .int .i64 k ∧ p = .int .i64 ((3 : Int) ^ k) ∧ ys.length = k ∧ good ys ∧ OwnI wr w.heap.size v ys ∧ Below w.heap.size w wr) (fun _ _ i _ => n.toNat - (intOf i).toNat)
  case atStart => exact ⟨0, [], by omega, rfl, rfl, rfl, (fun z hz => by cases hz), HO, (Below.refl _ _).alloc (Nat.le_refl _) _⟩
  case round =>
    obtain ⟨k, ys, hk, rfl, rfl, hyl, hyg, hO, hB⟩ := hrel
    by_cases hlt : (k : Int) < n
    · have hk3 : k = 0 ∨ k = 1 ∨ k = 2 ∨ k = 3 := by omega
      rcases hk3 with rfl | rfl | rfl | rfl
      all_goals
        go_wp2_with (at_builtin; refine append1 wr rfl _ _ rfl w.heap.size u4 ys _ rfl rfl hO ?_ hB.size ?_; (omega); intro v' w' hO' hG')
        go_roundw
        case rel => first | exact ⟨1, _, by omega, by first | rfl | go_num, by first | rfl | decide, by simp [hyl], hyg.snoc (by decide), hO', hB.grown hG' hB.size (fun j hj => (hO.lt j hj).1)⟩ | exact ⟨2, _, by omega, by first | rfl | go_num, by first | rfl | decide, by simp [hyl], hyg.snoc (by decide), hO', hB.grown hG' hB.size (fun j hj => (hO.lt j hj).1)⟩ | exact ⟨3, _, by omega, by first | rfl | go_num, by first | rfl | decide, by simp [hyl], hyg.snoc (by decide), hO', hB.grown hG' hB.size (fun j hj => (hO.lt j hj).1)⟩ | exact ⟨4, _, by omega, by first | rfl | go_num, by first | rfl | decide, by simp [hyl], hyg.snoc (by decide), hO', hB.grown hG' hB.size (fun j hj => (hO.lt j hj).1)⟩
        case measure => simp [intOf]; omega
    · go_wp2
      go_ret2
      exact ⟨_, ys, true, rfl, hO, hyg, by omega, hB⟩
end Go.Proofs.YtmggcfilkiklbaaDoor
