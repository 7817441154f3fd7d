/- PanCounts of the reference. Conditions: the list is short enough to be counted. -/
import Derived.Test.YtbpkffpejmlonaaWQ
namespace Go.Proofs.Ytbpkffpejmlonaa
open Go.RowKit

/-- the answer of PanCounts -/
def panR (zs : List Int) : List Int := if inL zs = true then panC zs else []
theorem panR_length (zs : List Int) : (panR zs).length ≤ 601 := by
  unfold panR
  split
  · rename_i hz
    have hzl := (inL_iff zs).1 hz
    have := tot_bd hzl.2
    rw [panC_length]; omega
  · simp
/-- a list that can be read, and a bool -/
def ListS (w : World) (ok : Bool) (L : List Int) (e : Ending) (w' : World) : Prop := ∃ ad cap, e = .returned (.tuple #[.slice ad L.length cap, .bool ok]) ∧ IntsAt w' ad L ∧ Below w.heap.size w w'
theorem panC_of {zs : List Int} (hg : good zs) {T : Nat} (hT : tot zs = T) {o : List Int} (ho : o.length = 2 * T + 1) (hp : IsPan zs T o) (v : Nat) (hv : v < T + 1) : o[T + v]?.getD 0 = (panC zs)[v]?.getD 0 := by
  rw [panC_get v (by omega), hp _ (by omega)]
  congr 2
  omega

set_option maxHeartbeats 1600000 in
theorem sPanCounts_any (a : Option Addr) (cap : Nat) (zs : List Int) (w : World) (hl : zs.length ≤ 1000000) (hI : IntsAt w a zs) :
    Calls Try.prog 89 #[.slice a zs.length cap] w (ListS w (inL zs) (panR zs)) := by
  by_cases hz : inL zs = true
  case neg =>
    have hz' : inL zs = false := by simpa using hz
    have hr : panR zs = [] := by unfold panR; rw [if_neg hz]
    rw [hz', hr]
    have HZ := Lib.hid hz'
    clear hz hz' hr
    go_enter Try.func89, Try.ntmps89
    go_wp2_with (go_at_call 32; refine (sSumIn_any a cap zs _ (by omega) hI).mono ?_; rw [HZ.out]; rintro e w' ⟨rfl, rfl⟩)
    go_ret2
    exact ⟨_, _, rfl, .inl rfl, (Below.refl _ _).alloc (Nat.le_refl _) _⟩
  have hzl := (inL_iff zs).1 hz
  have htb := tot_bd hzl.2
  have hr : panR zs = panC zs := by unfold panR; rw [if_pos hz]
  rw [hz, hr]
  have HZ := Lib.hid hz
  obtain ⟨T, hT⟩ : ∃ T : Nat, tot zs = T := ⟨(tot zs).toNat, by omega⟩
  have HPC : Hid (∀ o : List Int, o.length = 2 * (tot zs).toNat + 1 → IsPan zs (tot zs).toNat o → o.length = 2 * T + 1 ∧ ∀ v, v < T + 1 → o[T + v]?.getD 0 = (panC zs)[v]?.getD 0) := fun o h1 h2 => by
    rw [show (tot zs).toNat = T by omega] at h1 h2
    exact ⟨h1, fun v hv => panC_of hzl.2 hT h1 h2 v hv⟩
  have hpl : (panC zs).length = T + 1 := by rw [panC_length]; omega
  have HPL := Lib.hid hpl
  have HT : Hid (∀ w', IntsAt w' a zs → Calls Try.prog 122 #[.slice a zs.length cap] w' fun e w'' => e = .returned (.int .i64 (T : Int)) ∧ w' = w'') := fun w' h => by
    rw [← hT]; exact l4Total_any a cap zs w' hl (fun x hx => by have := hzl.2 x hx; omega) h
  have hTb : T ≤ 600 := by omega
  clear hz hr
  go_enter Try.func89, Try.ntmps89
  go_wp2_with (first | (go_at_call 32; refine (sSumIn_any a cap zs _ (by omega) hI).mono ?_; rw [HZ.out]; rintro e w' ⟨rfl, rfl⟩) | fail)
  refine (l7Counts_any a cap zs w hzl.1 hzl.2 hI).mono ?_
  rintro e w1 ⟨g, c1, o, rfl, hO, hol, hop, hB⟩
  obtain ⟨hol2, hov⟩ := HPC.out o hol hop
  have hI1 := hI.below hB
  obtain ⟨a', c', he, hIo, hcap⟩ := hO.shape
  simp only [Value.slice.injEq, true_and] at he
  obtain ⟨rfl, rfl⟩ := he
  have hIP : IntsAt w1 (some ⟨g, T, none⟩) (panC zs) := by
    obtain ⟨b, off, hb1, hb2, hb3⟩ := hIo.at (by omega)
    simp only [Option.some.injEq, Addr.mk.injEq, and_true] at hb1
    obtain ⟨rfl, rfl⟩ := hb1
    refine .inr ⟨g, T, rfl, hb2, fun v hv => ?_⟩
    rw [← hov v (by omega)]
    have := hb3 (T + v) (by omega)
    rwa [Nat.zero_add] at this
  rw [hol2] at hcap ⊢
  have HOV := Lib.hid hov
  clear hO hol hop hol2 hov hIo hpl hT htb
  go_wp2_with (go_at_call 122; refine (HT.out _ hI1).mono ?_; rintro e w' ⟨rfl, rfl⟩)
  rw [show 2 * T + 1 - T = T + 1 by omega]
  go_ret2
  exact ⟨some ⟨g, T, none⟩, c1 - T, by rw [HPL.out]; rfl, hIP, hB⟩
end Go.Proofs.Ytbpkffpejmlonaa
