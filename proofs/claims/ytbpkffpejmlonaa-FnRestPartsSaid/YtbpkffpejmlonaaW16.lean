/- HalfCount of the reference. Conditions: the list is short enough to be counted. -/
import Derived.Test.YtbpkffpejmlonaaIH
namespace Go.Proofs.Ytbpkffpejmlonaa
open Go.RowKit

set_option maxHeartbeats 1600000 in
theorem sHalfCount_any (a : Option Addr) (cap : Nat) (zs : List Int) (w : World) (hl : zs.length ≤ 4294967296) (hI : IntsAt w a zs) :
    Calls Try.prog 60 #[.slice a zs.length cap] w (NumPost w (halfC zs) (inL zs)) := by
  by_cases hz : inL zs = true
  case neg =>
    have hz' : inL zs = false := by simpa using hz
    rw [halfC, if_neg hz, hz']
    have HZ := Lib.hid hz'
    clear hz hz'
    go_enter Try.func60, Try.ntmps60
    go_wp2_with (go_at_call 32; refine (sSumIn_any a cap zs w hl hI).mono ?_; rw [HZ.out]; rintro e w' ⟨rfl, rfl⟩)
    go_ret2
    exact ⟨rfl, Below.refl _ _⟩
  have hzl := (inL_iff zs).1 hz
  have htb := tot_bd hzl.2
  have hlen := sumC_length zs
  have HE := Lib.hid (halfC_even hz)
  have HO := Lib.hid (halfC_odd (zs := zs))
  have HZ := Lib.hid hz
  rw [hz]
  clear hz
  have hlb : (sumC zs).length ≤ 601 ∧ 1 ≤ (sumC zs).length := by omega
  have HL : Hid (((sumC zs).length : Int) = tot zs + 1) := by show ((sumC zs).length : Int) = tot zs + 1; omega
  have hbd := sumC_mem hzl.1
  clear hlen
  go_enter Try.func60, Try.ntmps60
  go_wp2_with (first | (go_at_call 32; refine (sSumIn_any a cap zs w hl hI).mono ?_; rw [HZ.out]; rintro e w' ⟨rfl, rfl⟩) | fail)
  refine (l1Counts_any a cap zs w hzl.1 hzl.2 hI).mono ?_
  rintro e w1 ⟨v1, rfl, hO1, hB1⟩
  obtain ⟨g, c1, rfl, _, _, hcell⟩ := hO1.at (by omega)
  by_cases hpar : ((sumC zs).length : Int) % 2 = 0
  · have hh : halfC zs = 0 := HO.out (by have := HL.out; omega)
    have HH := Lib.hid hh
    clear hh hcell hO1 hbd
    generalize (sumC zs).length = N at *
    go_wp2
    go_ret2
    exact ⟨by rw [HH.out]; rfl, hB1⟩
  · have hh : halfC zs = (sumC zs)[(sumC zs).length / 2]?.getD 0 := by
      have := HL.out
      rw [HE.out (by omega)]
      congr 2
      omega
    have hx := (hcell ((sumC zs).length / 2) (by omega)).1
    generalize (sumC zs)[(sumC zs).length / 2]?.getD 0 = x at hx hh
    have HH := Lib.hid hh
    clear hh hcell hO1 hbd
    generalize (sumC zs).length = N at *
    go_wp2
    go_ret2
    exact ⟨by rw [HH.out]; rfl, hB1⟩
end Go.Proofs.Ytbpkffpejmlonaa
