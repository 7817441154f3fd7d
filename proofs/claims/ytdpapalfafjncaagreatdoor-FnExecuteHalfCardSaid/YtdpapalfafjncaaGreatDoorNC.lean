/- strings.Cut at one byte. Conditions: the text is short. -/
import Derived.BigRegion
import Derived.OwnWalk
import Derived.Test.YtdpapalfafjncaaGreatDoorShelf
import Derived.Test.YtdpapalfafjncaaGreatDoorNB
namespace Go.Proofs.YtdpapalfafjncaaGreatDoor
open Go.RowKit

theorem indexByte_none : ∀ {l : List UInt8} {c : UInt8}, c ∉ l → Lib.indexByte l c = -1
  | [], _, _ => rfl
  | b :: l, c, h => by
    have h1 : ¬ b = c := fun e => h (by simp [e])
    have h2 : c ∉ l := fun e => h (by simp [e])
    simp [Lib.indexByte, h1, indexByte_none h2]
theorem indexByte_at : ∀ {l r : List UInt8} {c : UInt8}, c ∉ l → Lib.indexByte (l ++ c :: r) c = l.length
  | [], r, c, _ => by simp [Lib.indexByte]
  | b :: l, r, c, h => by
    have h1 : ¬ b = c := fun e => h (by simp [e])
    have h2 : c ∉ l := fun e => h (by simp [e])
    have h3 := indexByte_at (r := r) h2
    have h4 : ¬ ((l.length : Int) = -1) := by omega
    rw [List.cons_append, Lib.indexByte, h3]
    simp [h1, h4]

theorem cutL (l r : List UInt8) (c : UInt8) : (⟨(l ++ c :: r).toArray⟩ : ByteArray).extract 0 l.length = ⟨l.toArray⟩ := by
  apply ByteArray.ext
  rw [ByteArray.data_extract]
  simp
theorem cutR (l r : List UInt8) (c : UInt8) : (⟨(l ++ c :: r).toArray⟩ : ByteArray).extract (l.length + 1) (l.length + r.length + 1) = ⟨r.toArray⟩ := by
  apply ByteArray.ext
  rw [ByteArray.data_extract]
  have e : l ++ c :: r = (l ++ [c]) ++ r := by simp
  rw [e]
  simp [List.extract_eq_take_drop]

set_option maxRecDepth 100000 in
set_option maxHeartbeats 1600000 in
theorem sliteCut_none (s : List UInt8) (c : UInt8) (w : World) (h : c ∉ s) :
    Calls Tryz.prog 39 #[.string ⟨s.toArray⟩, .string ⟨#[c]⟩] w fun e w' => e = .returned (.tuple #[.string ⟨s.toArray⟩, .string ⟨#[]⟩, .bool false]) ∧ w' = w := by
  have HX := Lib.hid (Tryz.stringslite_Index_one ⟨s.toArray⟩ c w)
  have hi : Lib.indexByte s c = -1 := indexByte_none h
  simp only [hi] at HX
  go_enter Tryz.func39, Tryz.ntmps39
  go_wp2_with fail
  refine HX.out.mono ?_
  rintro e w' ⟨rfl, rfl⟩
  go_wp2_with fail
  go_ret3
  exact ⟨rfl, rfl⟩

set_option maxRecDepth 100000 in
set_option maxHeartbeats 1600000 in
theorem sliteCut_hit (l r : List UInt8) (c : UInt8) (w : World) (h : c ∉ l) (hl : l.length + r.length ≤ 1000000) :
    Calls Tryz.prog 39 #[.string ⟨(l ++ c :: r).toArray⟩, .string ⟨#[c]⟩] w fun e w' => e = .returned (.tuple #[.string ⟨l.toArray⟩, .string ⟨r.toArray⟩, .bool true]) ∧ ∃ n, w' = w.drewN n := by
  have HX := Lib.hid (Tryz.stringslite_Index_one ⟨(l ++ c :: r).toArray⟩ c w)
  have hi : Lib.indexByte (l ++ c :: r) c = l.length := indexByte_at h
  simp only [hi] at HX
  have hsz : (⟨(l ++ c :: r).toArray⟩ : ByteArray).size = l.length + r.length + 1 := by simp [ByteArray.size]; omega
  go_enter Tryz.func39, Tryz.ntmps39
  go_wp2_with fail
  refine HX.out.mono ?_
  rintro e w' ⟨rfl, rfl⟩
  clear hi HX
  go_wp2_with fail
  go_region
  rw [cutL, cutR]
  go_wp2_with fail
  go_ret3
  exact ⟨rfl, 1, rfl⟩

/-- strings.Cut at a byte that is there: what stands ahead of it, what stands behind -/
theorem Cut_hit (l r : List UInt8) (c : UInt8) (w : World) (h : c ∉ l) (hl : l.length + r.length ≤ 1000000) :
    Calls Tryz.prog 22 #[.string ⟨(l ++ c :: r).toArray⟩, .string ⟨#[c]⟩] w fun e w' => e = .returned (.tuple #[.string ⟨l.toArray⟩, .string ⟨r.toArray⟩, .bool true]) ∧ ∃ n, w' = w.drewN n := by
  go_enter Tryz.func22, Tryz.ntmps22
  go_wp2_with fail
  refine (sliteCut_hit l r c w h hl).mono ?_
  rintro e w' ⟨rfl, n, rfl⟩
  go_wp2_with fail
  go_ret3
  exact ⟨rfl, n, rfl⟩
/-- strings.Cut at a byte that is not there -/
theorem Cut_none (s : List UInt8) (c : UInt8) (w : World) (h : c ∉ s) :
    Calls Tryz.prog 22 #[.string ⟨s.toArray⟩, .string ⟨#[c]⟩] w fun e w' => e = .returned (.tuple #[.string ⟨s.toArray⟩, .string ⟨#[]⟩, .bool false]) ∧ w' = w := by
  go_enter Tryz.func22, Tryz.ntmps22
  go_wp2_with fail
  refine (sliteCut_none s c w h).mono ?_
  rintro e w' ⟨rfl, rfl⟩
  go_wp2_with fail
  go_ret3
  exact ⟨rfl, rfl⟩
end Go.Proofs.YtdpapalfafjncaaGreatDoor
