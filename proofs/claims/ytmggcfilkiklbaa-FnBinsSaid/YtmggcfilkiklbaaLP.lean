/- The draws of weights. Conditions: stated in each. -/
import Derived.Test.YtmggcfilkiklbaaLE
import Derived.Test.YtmggcfilkiklbaaW11
namespace Go.Proofs.Ytmggcfilkiklbaa
open Go.RowKit

set_option maxHeartbeats 400000 in
theorem l4Total_any (a : Option Addr) (cap : Nat) (zs : List Int) (w : World) (hl : zs.length ≤ 1000000) (hg : ∀ x ∈ zs, 0 ≤ x ∧ x ≤ 1000000) (hI : IntsAt w a zs) :
    Calls Try.prog 18 #[.slice a zs.length cap] w fun e w' => e = .returned (.int .i64 (tot zs)) ∧ w = w' := by
  go_enter Try.func18, Try.ntmps18
  go_wp2
  go_loop [3, 4] (fun s i => ∃ k : Nat, k ≤ zs.length ∧ i = .int .i64 k ∧ s = .int .i64 (tot (zs.take k))) (fun _ i => zs.length - (intOf i).toNat)
  case atStart => exact ⟨0, Nat.zero_le _, rfl, rfl⟩
  case round =>
    obtain ⟨k, hk, rfl, rfl⟩ := hrel
    by_cases hlt : k < zs.length
    · obtain ⟨b, off, rfl, hb, hcell⟩ := hI.at (by omega)
      have hg2 := tot_bdM (a := zs.take k) (fun x hx => hg x (List.mem_of_mem_take hx))
      have hg3 : (zs.take k).length ≤ k := List.length_take_le _ _
      have hg4 : 0 ≤ zs[k]?.getD 0 ∧ zs[k]?.getD 0 ≤ 1000000 := by rw [List.getElem?_eq_getElem hlt]; exact hg _ (List.getElem_mem hlt)
      have HS := Lib.hid (tot_take zs k hlt)
      have hx := hcell k hlt
      generalize zs[k]?.getD 0 = x at hx hg4 HS
      generalize tot (zs.take k) = s at hg2 HS
      clear hcell
      go_wp2
      go_round
      case rel => exact ⟨k + 1, by omega, by go_num, by rw [HS.out]⟩
      case measure => simp [intOf]; omega
    · go_wp2
      go_ret
      exact ⟨ret_int (by rw [List.take_of_length_le (by omega)]), rfl⟩

def GoodPost (w : World) (n : Nat) (e : Ending) (w' : World) : Prop := ∃ v ys, e = .returned v ∧ OwnI w' w.heap.size v ys ∧ good ys ∧ ys.length ≤ n ∧ Below w.heap.size w w'
theorem good.snoc {ys : List Int} {x : Int} (h : good ys) (hx : 1 ≤ x ∧ x ≤ 60) : good (ys ++ [x]) := fun y hy => by
  rcases List.mem_append.1 hy with hy | hy
  · exact h y hy
  · rw [List.mem_singleton.1 hy]; exact hx

def GoodPost2 (w : World) (n : Nat) (e : Ending) (w' : World) : Prop := ∃ v ys ok, e = .returned (.tuple #[v, .bool ok]) ∧ OwnI w' w.heap.size v ys ∧ good ys ∧ ys.length ≤ n ∧ Below w.heap.size w w'

end Go.Proofs.Ytmggcfilkiklbaa
