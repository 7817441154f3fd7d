/- The closed facts of the dump's head: how it was cut, and that it may be entered. Conditions: none. -/
import Derived.Test.YtacedadenbinmaaRows
import Derived.JoinedOf
import Derived.KernelRfl
namespace Go.Proofs.Ytacedadenbinmaa
open Go
set_option maxRecDepth 100000
def ioW1 : List Char := [Char.ofNat 104, Char.ofNat 97, Char.ofNat 114, Char.ofNat 110, Char.ofNat 101, Char.ofNat 115, Char.ofNat 115]
def ioW2 : List Char := [Char.ofNat 54, Char.ofNat 98, Char.ofNat 102, Char.ofNat 101, Char.ofNat 56, Char.ofNat 97, Char.ofNat 50, Char.ofNat 97, Char.ofNat 98, Char.ofNat 97, Char.ofNat 99, Char.ofNat 52, Char.ofNat 55, Char.ofNat 57, Char.ofNat 102, Char.ofNat 100, Char.ofNat 97, Char.ofNat 48, Char.ofNat 51, Char.ofNat 57, Char.ofNat 98, Char.ofNat 53, Char.ofNat 48, Char.ofNat 54, Char.ofNat 98, Char.ofNat 54, Char.ofNat 101, Char.ofNat 101, Char.ofNat 101, Char.ofNat 56, Char.ofNat 55, Char.ofNat 98, Char.ofNat 51, Char.ofNat 50, Char.ofNat 98, Char.ofNat 101, Char.ofNat 97, Char.ofNat 99, Char.ofNat 50, Char.ofNat 51,
  Char.ofNat 55, Char.ofNat 56, Char.ofNat 100, Char.ofNat 52, Char.ofNat 55, Char.ofNat 52, Char.ofNat 53, Char.ofNat 54, Char.ofNat 53, Char.ofNat 54, Char.ofNat 101, Char.ofNat 52, Char.ofNat 56, Char.ofNat 98, Char.ofNat 102, Char.ofNat 55, Char.ofNat 53, Char.ofNat 49, Char.ofNat 49, Char.ofNat 57, Char.ofNat 50, Char.ofNat 48, Char.ofNat 100, Char.ofNat 98]
def ioW3 : List Char := [Char.ofNat 99, Char.ofNat 117, Char.ofNat 116]
def ioR : List Char := [Char.ofNat 97, Char.ofNat 116, Char.ofNat 32, Char.ofNat 108, Char.ofNat 111, Char.ofNat 111, Char.ofNat 112, Char.ofNat 46, Char.ofNat 101, Char.ofNat 120, Char.ofNat 97, Char.ofNat 109, Char.ofNat 112, Char.ofNat 108, Char.ofNat 101, Char.ofNat 47, Char.ofNat 99, Char.ofNat 104, Char.ofNat 111, Char.ofNat 115, Char.ofNat 101, Char.ofNat 110, Char.ofNat 115, Char.ofNat 117, Char.ofNat 109, Char.ofNat 115, Char.ofNat 47, Char.ofNat 108, Char.ofNat 97, Char.ofNat 119, Char.ofNat 115, Char.ofNat 46, Char.ofNat 70, Char.ofNat 110, Char.ofNat 69, Char.ofNat 120, Char.ofNat 97, Char.ofNat 99, Char.ofNat 116, Char.ofNat 76,
  Char.ofNat 111, Char.ofNat 97, Char.ofNat 100, Char.ofNat 76, Char.ofNat 101, Char.ofNat 97, Char.ofNat 115, Char.ofNat 116, Char.ofNat 32, Char.ofNat 108, Char.ofNat 111, Char.ofNat 111, Char.ofNat 112, Char.ofNat 46, Char.ofNat 101, Char.ofNat 120, Char.ofNat 97, Char.ofNat 109, Char.ofNat 112, Char.ofNat 108, Char.ofNat 101, Char.ofNat 47, Char.ofNat 99, Char.ofNat 104, Char.ofNat 111, Char.ofNat 115, Char.ofNat 101, Char.ofNat 110, Char.ofNat 115, Char.ofNat 117, Char.ofNat 109, Char.ofNat 115, Char.ofNat 47, Char.ofNat 108, Char.ofNat 97, Char.ofNat 119, Char.ofNat 115, Char.ofNat 46, Char.ofNat 70, Char.ofNat 110,
  Char.ofNat 69, Char.ofNat 120, Char.ofNat 97, Char.ofNat 99, Char.ofNat 116, Char.ofNat 76, Char.ofNat 111, Char.ofNat 97, Char.ofNat 100, Char.ofNat 69, Char.ofNat 118, Char.ofNat 101, Char.ofNat 110, Char.ofNat 32, Char.ofNat 108, Char.ofNat 111, Char.ofNat 111, Char.ofNat 112, Char.ofNat 46, Char.ofNat 101, Char.ofNat 120, Char.ofNat 97, Char.ofNat 109, Char.ofNat 112, Char.ofNat 108, Char.ofNat 101, Char.ofNat 47, Char.ofNat 99, Char.ofNat 104, Char.ofNat 111, Char.ofNat 115, Char.ofNat 101, Char.ofNat 110, Char.ofNat 115, Char.ofNat 117, Char.ofNat 109, Char.ofNat 115, Char.ofNat 47, Char.ofNat 108, Char.ofNat 97,
  Char.ofNat 119, Char.ofNat 115, Char.ofNat 46, Char.ofNat 70, Char.ofNat 110, Char.ofNat 69, Char.ofNat 118, Char.ofNat 101, Char.ofNat 110, Char.ofNat 32, Char.ofNat 108, Char.ofNat 111, Char.ofNat 111, Char.ofNat 112, Char.ofNat 46, Char.ofNat 101, Char.ofNat 120, Char.ofNat 97, Char.ofNat 109, Char.ofNat 112, Char.ofNat 108, Char.ofNat 101, Char.ofNat 47, Char.ofNat 99, Char.ofNat 104, Char.ofNat 111, Char.ofNat 115, Char.ofNat 101, Char.ofNat 110, Char.ofNat 115, Char.ofNat 117, Char.ofNat 109, Char.ofNat 115, Char.ofNat 47, Char.ofNat 108, Char.ofNat 97, Char.ofNat 119, Char.ofNat 115, Char.ofNat 46, Char.ofNat 70,
  Char.ofNat 110, Char.ofNat 76, Char.ofNat 111, Char.ofNat 97, Char.ofNat 100, Char.ofNat 79, Char.ofNat 102, Char.ofNat 32, Char.ofNat 108, Char.ofNat 111, Char.ofNat 111, Char.ofNat 112, Char.ofNat 46, Char.ofNat 101, Char.ofNat 120, Char.ofNat 97, Char.ofNat 109, Char.ofNat 112, Char.ofNat 108, Char.ofNat 101, Char.ofNat 47, Char.ofNat 99, Char.ofNat 104, Char.ofNat 111, Char.ofNat 115, Char.ofNat 101, Char.ofNat 110, Char.ofNat 115, Char.ofNat 117, Char.ofNat 109, Char.ofNat 115, Char.ofNat 47, Char.ofNat 108, Char.ofNat 97, Char.ofNat 119, Char.ofNat 115, Char.ofNat 46, Char.ofNat 70, Char.ofNat 110, Char.ofNat 83,
  Char.ofNat 112, Char.ofNat 97, Char.ofNat 110, Char.ofNat 32, Char.ofNat 108, Char.ofNat 111, Char.ofNat 111, Char.ofNat 112, Char.ofNat 46, Char.ofNat 101, Char.ofNat 120, Char.ofNat 97, Char.ofNat 109, Char.ofNat 112, Char.ofNat 108, Char.ofNat 101, Char.ofNat 47, Char.ofNat 99, Char.ofNat 104, Char.ofNat 111, Char.ofNat 115, Char.ofNat 101, Char.ofNat 110, Char.ofNat 115, Char.ofNat 117, Char.ofNat 109, Char.ofNat 115, Char.ofNat 47, Char.ofNat 108, Char.ofNat 97, Char.ofNat 119, Char.ofNat 115, Char.ofNat 46, Char.ofNat 70, Char.ofNat 110, Char.ofNat 87, Char.ofNat 111, Char.ofNat 114, Char.ofNat 115, Char.ofNat 116,
  Char.ofNat 32, Char.ofNat 108, Char.ofNat 111, Char.ofNat 111, Char.ofNat 112, Char.ofNat 46, Char.ofNat 101, Char.ofNat 120, Char.ofNat 97, Char.ofNat 109, Char.ofNat 112, Char.ofNat 108, Char.ofNat 101, Char.ofNat 47, Char.ofNat 99, Char.ofNat 104, Char.ofNat 111, Char.ofNat 115, Char.ofNat 101, Char.ofNat 110, Char.ofNat 115, Char.ofNat 117, Char.ofNat 109, Char.ofNat 115, Char.ofNat 47, Char.ofNat 108, Char.ofNat 97, Char.ofNat 119, Char.ofNat 115, Char.ofNat 46, Char.ofNat 70, Char.ofNat 110, Char.ofNat 76, Char.ofNat 111, Char.ofNat 97, Char.ofNat 100, Char.ofNat 76, Char.ofNat 101, Char.ofNat 97, Char.ofNat 115,
  Char.ofNat 116, Char.ofNat 32, Char.ofNat 108, Char.ofNat 111, Char.ofNat 111, Char.ofNat 112, Char.ofNat 46, Char.ofNat 101, Char.ofNat 120, Char.ofNat 97, Char.ofNat 109, Char.ofNat 112, Char.ofNat 108, Char.ofNat 101, Char.ofNat 47, Char.ofNat 99, Char.ofNat 104, Char.ofNat 111, Char.ofNat 115, Char.ofNat 101, Char.ofNat 110, Char.ofNat 115, Char.ofNat 117, Char.ofNat 109, Char.ofNat 115, Char.ofNat 47, Char.ofNat 108, Char.ofNat 97, Char.ofNat 119, Char.ofNat 115, Char.ofNat 46, Char.ofNat 70, Char.ofNat 110, Char.ofNat 76, Char.ofNat 111, Char.ofNat 110, Char.ofNat 103]
def ioSp : Char := Char.ofNat 32
theorem io1 : Try.prog.initOrder = String.ofList (ioW1 ++ ioSp :: (ioW2 ++ ioSp :: (ioW3 ++ ioSp :: ioR))) := by kernel_rfl
theorem io : Try.prog.initOrder.toList = ioW1 ++ ioSp :: (ioW2 ++ ioSp :: (ioW3 ++ ioSp :: ioR)) := by rw [io1]; exact String.toList_ofList
theorem words_sp (r : List Char) : wordsSigns (ioSp :: r) = [] :: wordsSigns r := by
  show wordsSigns (Char.ofNat 32 :: r) = _
  rw [wordsSigns]
theorem words_cons (w r : List Char) (h : w.all (fun c => c != ioSp) = true) : wordsSigns (w ++ ioSp :: r) = w :: wordsSigns r := by
  induction w with
  | nil => exact words_sp r
  | cons c w ih =>
    simp only [List.all_cons, Bool.and_eq_true, bne_iff_ne, ne_eq] at h
    rw [List.cons_append, wordsSigns, ih h.2]
    exact h.1
theorem io3 : wordsSigns Try.prog.initOrder.toList = ioW1 :: ioW2 :: ioW3 :: wordsSigns ioR := by
  rw [io, words_cons _ _ (by decide), words_cons _ _ (by decide), words_cons _ _ (by decide)]
theorem io4 : behindMainWord (ioW1 :: ioW2 :: ioW3 :: wordsSigns ioR) = ioW3 :: wordsSigns ioR := by kernel_rfl

theorem ioLifts (R : List (List Char)) : stripLifts liftWords (ioW3 :: R) = ([], ioW3 :: R) := by kernel_rfl
theorem ioOut : ∃ R, behindMainWord (wordsSigns Try.prog.initOrder.toList) = ioW3 :: R := ⟨wordsSigns ioR, by rw [io3, io4]⟩
theorem make_of (P : Program) (R : List (List Char)) (h : behindMainWord (wordsSigns P.initOrder.toList) = ioW3 :: R) : P.make = some Make.cut := by
  have h1 : (ioW3 == "gc".toList) = false := by kernel_rfl
  have h2 : (ioW3 == "spec".toList) = false := by kernel_rfl
  have h3 : (ioW3 == "cut".toList) = true := by kernel_rfl
  unfold Program.make
  rw [h]
  simp only [h1, h2, h3]
  rfl
theorem enter_of (P : Program) (R : List (List Char)) (h : behindMainWord (wordsSigns P.initOrder.toList) = ioW3 :: R) (a1 : P.laysLater = false) (a2 : P.bearsReflect = false) (a3 : P.doorFits [] = true) : P.mayEnter = true := by
  have h3 : ((ioW3 :: R).head? == some "cut".toList) = true := by
    have : (ioW3 == "cut".toList) = true := by kernel_rfl
    simpa using this
  unfold Program.mayEnter
  rw [h]
  simp only [ioLifts, a1, a2, a3, h3]
  simp
theorem ioHead : Try.prog.headLifts = [] := by
  obtain ⟨R, hR⟩ := ioOut
  unfold Program.headLifts
  rw [hR, ioLifts]
  simp only [ite_self]
theorem ioMake : Try.prog.make = some Make.cut := by
  obtain ⟨R, hR⟩ := ioOut
  exact make_of _ R hR
theorem ioFinal : Try.prog.liftsFinal = false := by
  obtain ⟨R, hR⟩ := ioOut
  unfold Program.liftsFinal
  rw [hR, ioHead]
  have h1 : ((ioW3 :: R).head? == some "carried".toList) = false := by
    have : (ioW3 == "carried".toList) = false := by kernel_rfl
    simpa using this
  simp only [h1]
  rfl
theorem ioLater : Try.prog.laysLater = false := by kernel_rfl
theorem ioRefl : Try.prog.bearsReflect = false := by kernel_rfl
theorem ioDoor : Try.prog.doorFits [] = true := by kernel_rfl
theorem ioEnter : Try.prog.mayEnter = true := by
  obtain ⟨R, hR⟩ := ioOut
  exact enter_of _ R hR ioLater ioRefl ioDoor
end Go.Proofs.Ytacedadenbinmaa
