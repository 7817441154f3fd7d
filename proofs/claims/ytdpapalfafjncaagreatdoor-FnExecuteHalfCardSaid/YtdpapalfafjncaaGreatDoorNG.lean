/- A line of the script on the desk: a word without a rest. Conditions: stated in each. -/
import Derived.Test.YtdpapalfafjncaaGreatDoorND
import Derived.Test.YtdpapalfafjncaaGreatDoorNF
namespace Go.Proofs.YtdpapalfafjncaaGreatDoor
open Go.RowKit Go.Shelf

set_option maxRecDepth 100000 in
set_option maxHeartbeats 1600000 in
theorem renew_any (D : Nat) (ln wd : ByteArray) (a : Option Addr) (cap : Nat) (zs : List Int) (v : Value) (w : World) (hz : inL zs = true) (hD : Boxed w D 41 v) (hI : IntsAt w a zs) :
    Calls Tryz.prog 70 #[.pointer (some ⟨D, 0, none⟩), .agg #[.string ln, .string wd, .slice a zs.length cap]] w (Renewed D a zs.length cap w) := by
  have hB : Below w.heap.size w (w.alloc (.cells #[.string ln, .string wd, .slice a zs.length cap] 72)) := (Below.refl _ w).alloc (Nat.le_refl _) _
  have HR := Lib.hid (become_any D a cap zs v (w.alloc (.cells #[.string ln, .string wd, .slice a zs.length cap] 72)) hz (hD.alloc _) (hI.below hB))
  clear hz hD hI
  go_enter Tryz.func70, Tryz.ntmps70
  go_wp2_with fail
  refine HR.out.mono ?_
  rintro e w1 ⟨rfl, hbx, w2, rfl, hB2⟩
  go_wp2_with fail
  go_ret
  exact ⟨rfl, hbx, w2, rfl, hB.trans (hB2.mono (by simp))⟩

theorem _root_.Go.Boxed.kb2 {W W' : World} {B : Nat} {t : TypeId} {v : Value} (h : Boxed W B t v) (hb : Below W.heap.size W W') : Boxed W' B t v := (hb.block B h.lt).trans h
/-- what is shown of a word without a rest: it leaves the desk, and tells a text -/
def Tells (s : List UInt8) (w : World) (e : Ending) (w' : World) : Prop := e = .returned (.string ⟨s.toArray⟩) ∧ Below w.heap.size w w'

set_option maxRecDepth 100000 in
set_option maxHeartbeats 3200000 in
/-- a word without a rest that is there -/
theorem run_bare (D : Nat) (wd L : List UInt8) (f : Nat) (w : World) (h32 : (32 : UInt8) ∉ wd) (hent : ∀ args w, (callFunc f args).run Tryz.prog w = .ok (.enter f args) w)
    (hbw : ∀ w, Calls Tryz.prog 42 #[.string ⟨wd.toArray⟩] w fun e w' => e = .returned (.tuple #[.func (.func f) #[] #[], .bool true]) ∧ Below w.heap.size w w')
    (hcall : ∀ W, Below w.heap.size w W → Calls Tryz.prog f #[.pointer (some ⟨D, 0, none⟩)] W (Tells L W)) :
    Calls Tryz.prog 24 #[.pointer (some ⟨D, 0, none⟩), .string ⟨wd.toArray⟩] w (Tells L w) := by
  have hmf : ∀ (fn : Fn) (first cap : Array Value) (w : World), (Instr.makeFunc fn first cap).run Tryz.prog w = .ok (.func fn first cap) w := fun _ _ _ _ => rfl
  have b0 := Boxed.new w 9 (.string ⟨#[]⟩)
  have hB0 : Below w.heap.size w (w.alloc (.cells #[.string ⟨#[]⟩] 9)) := (Below.refl _ w).alloc (Nat.le_refl _) _
  have HCut := Lib.hid (Cut_none wd 32 (w.alloc (.cells #[.string ⟨#[]⟩] 9)) h32)
  have HBW := Lib.hid hbw
  have HCA := Lib.hid hcall
  clear hbw hcall
  generalize hwd : (⟨wd.toArray⟩ : ByteArray) = W0 at *
  clear hwd
  go_enter_defers Tryz.func24, Tryz.ntmps24
  go_wp2_with fail
  refine HCut.out.mono ?_
  rintro e w1 ⟨rfl, rfl⟩
  go_wp2_with fail
  refine (HBW.out _).mono ?_
  rintro e w2 ⟨rfl, hB2⟩
  have b2 := b0.kb2 hB2
  have hB02 := hB0.trans (hB2.mono (by simp))
  have HH := Lib.hid (HCA.out w2 hB02)
  clear hB2 b0 hB0
  go_wp2_with fail
  refine HH.out.mono ?_
  rintro e w3 ⟨rfl, hB3⟩
  have b3 := b2.kb2 hB3
  have hB03 := hB02.trans (hB3.mono hB02.size)
  have c3 := b3.cell
  have f3 := b3.frozen
  have b4 := b3.set (.string ⟨L.toArray⟩)
  have c4 := b4.cell
  clear HH b2 hB3 hB02
  go_wp2_with fail
  refine leaves_cons (f := 41) (args := #[.pointer (some ⟨w.heap.size, 0, none⟩)]) (by simp) (by simp [go_sem]) ?_
  refine (caught_idle ⟨w.heap.size, 0, none⟩ _).mono ?_
  rintro e u' w'' ⟨rfl, rfl, rfl⟩
  simp [Leaves, settle, results, Tryz.results24, go_sem, c4]
  exact ⟨rfl, hB03.setCell (p := ⟨w.heap.size, 0, none⟩) (Nat.le_refl _) _⟩

theorem run_half (D : Nat) (a : Option Addr) (cap : Nat) (zs : List Int) (w : World) (hz : inL zs = true) (hD : Boxed w D 41 (.slice a zs.length cap)) (hI : IntsAt w a zs) (ht : Pow10 w) :
    Calls Tryz.prog 24 #[.pointer (some ⟨D, 0, none⟩), .string ⟨#[104, 97, 108, 102]⟩] w (Tells (dgs (lr zs).toNat) w) :=
  run_bare D [104, 97, 108, 102] _ 63 w (by decide) (enters_of Tryz.func63 (by kernel_rfl) rfl) bareWord_half fun W hW => half_any D a cap zs W hz (hD.kb2 hW) (hI.below hW) (ht.below hW)
theorem run_total (D : Nat) (a : Option Addr) (cap : Nat) (zs : List Int) (w : World) (hz : inL zs = true) (hD : Boxed w D 41 (.slice a zs.length cap)) (hI : IntsAt w a zs) (ht : Pow10 w) :
    Calls Tryz.prog 24 #[.pointer (some ⟨D, 0, none⟩), .string ⟨#[116, 111, 116, 97, 108]⟩] w (Tells (dgs (tot zs).toNat) w) :=
  run_bare D [116, 111, 116, 97, 108] _ 56 w (by decide) (enters_of Tryz.func56 (by kernel_rfl) rfl) bareWord_total fun W hW => total_desk D a cap zs W hz (hD.kb2 hW) (hI.below hW) (ht.below hW)
end Go.Proofs.YtdpapalfafjncaaGreatDoor
