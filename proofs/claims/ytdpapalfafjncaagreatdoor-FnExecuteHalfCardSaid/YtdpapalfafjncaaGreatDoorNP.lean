/- A line of the script on the desk: a word with numbers as its rest. Conditions: stated in each. -/
import Derived.Test.YtdpapalfafjncaaGreatDoorNN
import Derived.Test.YtdpapalfafjncaaGreatDoorNG
namespace Go.Proofs.YtdpapalfafjncaaGreatDoor
open Go.RowKit Go.Shelf

set_option maxRecDepth 100000 in
set_option maxHeartbeats 3200000 in
/-- a word with a rest that is there -/
theorem run_rest (D n : Nat) (wd rs L : List UInt8) (f : Nat) (w : World) (h32 : (32 : UInt8) ∉ wd) (hl : wd.length + rs.length ≤ 1000000) (hent : ∀ args w, (callFunc f args).run Tryz.prog w = .ok (.enter f args) w) (R : Option Addr → Nat → World → Prop) (Q : World → Prop)
    (hrw : ∀ w, Calls Tryz.prog 43 #[.string ⟨wd.toArray⟩] w fun e w' => e = .returned (.tuple #[.func (.func f) #[] #[], .bool true]) ∧ Below w.heap.size w w')
    (hord : ∀ W, Below w.heap.size w W → w.heap.size < W.heap.size → Calls Tryz.prog 44 #[.string ⟨(wd ++ 32 :: rs).toArray⟩, .string ⟨wd.toArray⟩, .string ⟨rs.toArray⟩] W fun e w' => ∃ a cap, e = .returned (.agg #[.string ⟨(wd ++ 32 :: rs).toArray⟩, .string ⟨wd.toArray⟩, .slice a n cap]) ∧ R a cap w' ∧ Below W.heap.size W w')
    (hcall : ∀ W a cap, Below w.heap.size w W → R a cap W → w.heap.size < W.heap.size → Calls Tryz.prog f #[.pointer (some ⟨D, 0, none⟩), .agg #[.string ⟨(wd ++ 32 :: rs).toArray⟩, .string ⟨wd.toArray⟩, .slice a n cap]] W fun e w' => e = .returned (.string ⟨L.toArray⟩) ∧ Q w' ∧ w'.heap[w.heap.size]? = W.heap[w.heap.size]?)
    (hQ : ∀ w' v, Q w' → Q (w'.setCell ⟨w.heap.size, 0, none⟩ v)) :
    Calls Tryz.prog 24 #[.pointer (some ⟨D, 0, none⟩), .string ⟨(wd ++ 32 :: rs).toArray⟩] w fun e w' => e = .returned (.string ⟨L.toArray⟩) ∧ Q w' := by
  have hmf : ∀ (fn : Fn) (first cap : Array Value) (w : World), (Instr.makeFunc fn first cap).run Tryz.prog w = .ok (.func fn first cap) w := fun _ _ _ _ => rfl
  have b0 := Boxed.new w 9 (.string ⟨#[]⟩)
  have hB0 : Below w.heap.size w (w.alloc (.cells #[.string ⟨#[]⟩] 9)) := (Below.refl _ w).alloc (Nat.le_refl _) _
  have HCut := Lib.hid (Cut_hit wd rs 32 (w.alloc (.cells #[.string ⟨#[]⟩] 9)) h32 hl)
  have HRW := Lib.hid hrw
  have HOR := Lib.hid hord
  have HCA := Lib.hid hcall
  have HQ := Lib.hid hQ
  clear hrw hord hcall hQ
  generalize hln : (⟨(wd ++ 32 :: rs).toArray⟩ : ByteArray) = LN at *
  generalize hwd : (⟨wd.toArray⟩ : ByteArray) = W0 at *
  generalize hrs : (⟨rs.toArray⟩ : ByteArray) = RS at *
  clear hln hwd hrs
  go_enter_defers Tryz.func24, Tryz.ntmps24
  go_wp2_with fail
  refine HCut.out.mono ?_
  rintro e w1 ⟨rfl, q, rfl⟩
  go_wp2_with fail
  refine (HRW.out _).mono ?_
  rintro e w2 ⟨rfl, hB2⟩
  have b1 : Boxed ((w.alloc (.cells #[.string ⟨#[]⟩] 9)).drewN q) w.heap.size 9 (.string ⟨#[]⟩) := b0
  have b2 := b1.kb2 hB2
  have hB02 := (belowDr hB0 q).trans (hB2.mono (by simp))
  have HH := Lib.hid (HOR.out w2 hB02 b2.lt)
  clear hB2 b0 hB0 b1
  go_wp2_with fail
  refine HH.out.mono ?_
  rintro e w3 ⟨a, cap, rfl, hR, hB3⟩
  have b3 := b2.kb2 hB3
  have hB03 := hB02.trans (hB3.mono hB02.size)
  have HC := Lib.hid (HCA.out w3 a cap hB03 hR b3.lt)
  clear HH b2 hB3 hB02 hR
  go_wp2_with fail
  refine HC.out.mono ?_
  rintro e w4 ⟨rfl, hq, hk⟩
  have b4 : Boxed w4 w.heap.size 9 (.string ⟨#[]⟩) := hk.trans b3
  have c4 := b4.cell
  have f4 := b4.frozen
  have b5 := b4.set (.string ⟨L.toArray⟩)
  have c5 := b5.cell
  have HQQ := Lib.hid (HQ.out w4 (.string ⟨L.toArray⟩) hq)
  clear HC hq hk
  go_wp2_with fail
  refine leaves_cons (f := 41) (args := #[.pointer (some ⟨w.heap.size, 0, none⟩)]) (by simp) (by simp [go_sem]) ?_
  refine (caught_idle ⟨w.heap.size, 0, none⟩ _).mono ?_
  rintro e u' w'' ⟨rfl, rfl, rfl⟩
  simp [Leaves, settle, results, Tryz.results24, go_sem, c5]
  exact HQQ.out
end Go.Proofs.YtdpapalfafjncaaGreatDoor
