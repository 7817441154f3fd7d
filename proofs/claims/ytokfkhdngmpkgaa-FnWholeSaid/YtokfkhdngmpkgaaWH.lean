/- SumSorted of the program, SumWhole of both. Conditions: the list is short enough to be counted. -/
import Derived.Test.YtokfkhdngmpkgaaLN
import Derived.Test.YtokfkhdngmpkgaaMM
import Derived.Test.YtokfkhdngmpkgaaIY
import Derived.Test.YtokfkhdngmpkgaaWS
namespace Go.Proofs.Ytokfkhdngmpkgaa
open Go.RowKit

theorem insO0 (a0 : Option Addr) (cp : Nat) (w : World) : Calls Try.prog 53 #[.slice a0 0 cp, .int .i64 0, .int .i64 0] w (NilPost w) := by
  go_enter Try.func53, Try.ntmps53
  go_wp2
  go_loopw [6] (fun v wr => v = .int .i64 1 ∧ wr = w) (fun _ _ => 0)
  case atStart => exact ⟨rfl, rfl⟩
  case round =>
    obtain ⟨rfl, rfl⟩ := hrel
    go_wp2
    refine bodyPost_ret (v := .tuple #[]) (by simp [results, Try.f53, go_sem]) rfl ?_
    exact ⟨rfl, rfl⟩
theorem pdq0 (a0 : Option Addr) (cp : Nat) (lim : Int) (w : World) : Calls Try.prog 49 #[.slice a0 0 cp, .int .i64 0, .int .i64 0, .int .i64 lim] w (NilPost w) := by
  go_enter Try.func49, Try.ntmps49
  go_wp2
  go_loopw [1, 2] (fun u v wr => u = .int .i64 0 ∧ v = .int .i64 0 ∧ wr = w) (fun _ _ _ => 0)
  case atStart => exact ⟨rfl, rfl, rfl⟩
  case round =>
    obtain ⟨rfl, rfl, rfl⟩ := hrel
    go_wp2_with (go_at_call 53; refine (insO0 a0 cp _).mono ?_; rintro e w1 ⟨rfl, rfl⟩)
    refine bodyPost_ret (v := .tuple #[]) (by simp [results, Try.f49, go_sem]) rfl ?_
    exact ⟨rfl, rfl⟩
theorem sort0 (a0 : Option Addr) (cp : Nat) (w : World) : Calls Try.prog 44 #[.slice a0 0 cp] w (NilPost w) := by
  have hL := len_any 0 (by omega) w
  go_enter Try.func44, Try.ntmps44
  go_wp2_with (first | (go_at_call 50; refine (len_any 0 (by omega) _).mono ?_; rintro e w' ⟨⟨r, rfl⟩, rfl⟩) | (go_at_call 49; refine (pdq0 a0 cp _ _).mono ?_; rintro e w1 ⟨rfl, rfl⟩))
  refine bodyPost_ret (v := .tuple #[]) (by simp [results, Try.f44, go_sem]) rfl ?_
  exact ⟨rfl, rfl⟩

set_option maxHeartbeats 800000 in
theorem SumSorted_any (a : Option Addr) (cap : Nat) (zs : List Int) (w : World) (hl : zs.length ≤ 4294967296) (hI : IntsAt w a zs) :
    Calls Try.prog 31 #[.slice a zs.length cap] w (ListR w (inL zs) (if inL zs = true then sortU zs else [])) := by
  by_cases hz : inL zs = true
  case neg =>
    have hz' : inL zs = false := by simpa using hz
    rw [if_neg hz, hz']
    have HZ := Lib.hid hz'
    clear hz hz'
    have HO := World.ownsRow_lit (base := w.heap.size) (e := 3) (size := 1) w #[] 0 (Nat.le_refl _) (by unfold maxLen; omega) (by simp)
    go_enter Try.func31, Try.ntmps31
    go_wp2_with (go_at_call 29; refine (SumIn_any a cap zs _ hl hI).mono ?_; rw [HZ.out]; rintro e w' ⟨rfl, rfl⟩)
    go_ret2
    exact ⟨_, rfl, HO, (Below.refl _ _).alloc (Nat.le_refl _) _⟩
  rw [if_pos hz, hz]
  have hzl := ((inL_iff zs).1 hz).1
  have HZ := Lib.hid hz
  clear hz
  have hC := Clone_all a cap zs w (by omega) hI
  go_enter Try.func31, Try.ntmps31
  go_wp2_with (first | (go_at_call 29; refine (SumIn_any a cap zs _ hl hI).mono ?_; rw [HZ.out]; rintro e w' ⟨rfl, rfl⟩) | fail)
  refine hC.mono ?_
  rintro e w1 ⟨v1, rfl, hO1, hB1⟩
  clear hC
  rcases Nat.eq_zero_or_pos zs.length with h0 | h0
  · obtain ⟨a1, c1, rfl, _, _⟩ := hO1.shape
    obtain rfl := List.eq_nil_of_length_eq_zero h0
    clear h0
    go_wp2_with (go_at_call 44; refine (sort0 a1 c1 _).mono ?_; rintro e w2 ⟨rfl, rfl⟩)
    go_ret2
    exact ⟨_, rfl, hO1, hB1⟩
  · obtain ⟨g, c1, rfl, hg, _, _⟩ := hO1.at h0
    have hS := sort_any g zs.length c1 w.heap.size zs w1 (by omega) hg rfl hO1
    clear hO1
    go_wp2_with (go_at_call 44; refine hS.mono ?_; rintro e w2 ⟨rfl, L, h1, h2, h3, h4, h5⟩)
    go_ret2
    have hL : L = sortU zs := sortU_is h1.out (by rw [h3.out]; exact h2.out)
    exact ⟨_, rfl, by rw [← hL]; exact h4, hB1.trans h5⟩

def BoolPost (w : World) (b : Bool) (e : Ending) (w' : World) : Prop := e = .returned (.bool b) ∧ Below w.heap.size w w'
theorem stepOk_zero (L : List Int) : stepOk L 0 := fun i hi => by omega

set_option maxHeartbeats 1600000 in
theorem SumWhole_any (a : Option Addr) (cap : Nat) (zs : List Int) (w : World) (hl : zs.length ≤ 4294967296) (hI : IntsAt w a zs) :
    Calls Try.prog 12 #[.slice a zs.length cap] w (BoolPost w (whR zs)) := by
  have hS := SumSorted_any a cap zs w hl hI
  by_cases hz : inL zs = true
  case neg =>
    have hz' : inL zs = false := by simpa using hz
    rw [if_neg hz, hz'] at hS
    have hw : whR zs = false := by rw [whR, hz']; rfl
    rw [hw]
    clear hz hz' hw
    go_enter Try.func12, Try.ntmps12
    go_wp2_with fail
    refine hS.mono ?_
    rintro e w1 ⟨v1, rfl, hO1, hB1⟩
    go_wp2
    go_ret
    exact ⟨rfl, hB1⟩
  rw [if_pos hz, hz] at hS
  have hzl := (inL_iff zs).1 hz
  have hg := perm_good (sortU_perm zs) hzl.2
  have hln := sortU_length zs
  have hlb : (sortU zs).length ≤ 10 := by rw [hln]; exact hzl.1
  have HW : Hid (whR zs = decide (stepOk (sortU zs) (sortU zs).length)) := by show _ = _; rw [whR, hz, hln]; rfl
  clear hz hzl hln
  generalize sortU zs = L at *
  go_enter Try.func12, Try.ntmps12
  go_wp2_with fail
  refine hS.mono ?_
  rintro e w1 ⟨v1, rfl, hO1, hB1⟩
  obtain ⟨a1, c1, rfl, hI1, _⟩ := hO1.shape
  clear hS hO1
  go_wp2
  go_loop [5, 17] (fun s i => ∃ k : Nat, k ≤ L.length ∧ i = .int .i64 k ∧ s = .int .i64 (tot (L.take k)) ∧ Hid (stepOk L k)) (fun _ i => L.length - (intOf i).toNat)
  case atStart => exact ⟨0, Nat.zero_le _, rfl, rfl, stepOk_zero L⟩
  case round =>
    obtain ⟨k, hk, rfl, rfl, HK⟩ := hrel
    have hr := tot_bd (good_take hg k)
    have hrl : (L.take k).length ≤ 10 := by rw [List.length_take]; omega
    by_cases hlt : k < L.length
    · obtain ⟨b, off, rfl, hb, hcell⟩ := hI1.at (by omega)
      have hx := hcell k hlt
      have hgx := good_get hg k hlt
      have HT := Lib.hid (tot_take L k hlt)
      have HN : Hid (¬ L[k]?.getD 0 ≤ tot (L.take k) + 1 → whR zs = false) := fun h => by
        rw [HW.out, decide_eq_false_iff_not]
        exact fun hs => h (hs k hlt)
      have HY : Hid (L[k]?.getD 0 ≤ tot (L.take k) + 1 → stepOk L (k + 1)) := fun h => stepOk_succ HK.out h
      generalize L[k]?.getD 0 = x at hx hgx HT HN HY
      generalize tot (L.take k) = s at *
      clear hcell
      by_cases hle : x ≤ s + 1
      · have HY2 := Lib.hid (HY.out hle)
        go_wp2
        go_round
        case rel => exact ⟨k + 1, by omega, by go_num, by rw [HT.out], HY2⟩
        case measure => simp [intOf]; omega
      · have HN2 := Lib.hid (HN.out hle)
        have hgt : s + 1 < x := by omega
        go_wp2
        go_ret
        exact ⟨by rw [HN2.out]; rfl, hB1⟩
    · obtain rfl : k = L.length := by omega
      have HE : Hid (whR zs = true) := by show _ = _; rw [HW.out, decide_eq_true_iff]; exact HK.out
      go_wp2
      go_ret
      exact ⟨by rw [HE.out]; rfl, hB1⟩

set_option maxHeartbeats 1600000 in
theorem sSumWhole_any (a : Option Addr) (cap : Nat) (zs : List Int) (w : World) (hl : zs.length ≤ 4294967296) (hI : IntsAt w a zs) :
    Calls Try.prog 14 #[.slice a zs.length cap] w (BoolPost w (whR zs)) := by
  by_cases hz : inL zs = true
  case neg =>
    have hz' : inL zs = false := by simpa using hz
    have hw : whR zs = false := by rw [whR, hz']; rfl
    rw [hw]
    have HZ := Lib.hid hz'
    clear hz hz' hw
    go_enter Try.func14, Try.ntmps14
    go_wp2_with (go_at_call 27; refine (sSumIn_any a cap zs _ hl hI).mono ?_; rw [HZ.out]; rintro e w' ⟨rfl, rfl⟩)
    go_ret
    exact ⟨rfl, Below.refl _ _⟩
  have hzl := (inL_iff zs).1 hz
  have HZ := Lib.hid hz
  have hS := l1Sorted_any a cap zs w (by omega) hI
  have hg := perm_good (sortU_perm zs) hzl.2
  have hln := sortU_length zs
  have hlb : (sortU zs).length ≤ 10 := by rw [hln]; exact hzl.1
  have HW : Hid (whR zs = decide (stepOk (sortU zs) (sortU zs).length)) := by show _ = _; rw [whR, hz, hln]; rfl
  clear hz hzl hln
  go_enter Try.func14, Try.ntmps14
  go_wp2_with (first | (go_at_call 27; refine (sSumIn_any a cap zs _ hl hI).mono ?_; rw [HZ.out]; rintro e w' ⟨rfl, rfl⟩) | fail)
  refine hS.mono ?_
  rintro e w1 ⟨v1, L, rfl, HP, HO, hO1, hB1⟩
  have hL : L = sortU zs := sortU_is HP.out HO.out
  rw [← hL] at hg hlb HW
  obtain ⟨a1, c1, rfl, hI1, _⟩ := hO1.shape
  clear hS hO1 HP HO hL
  go_wp2
  go_loop [4, 5] (fun s i => ∃ k : Nat, k ≤ L.length ∧ i = .int .i64 k ∧ s = .int .i64 (tot (L.take k)) ∧ Hid (stepOk L k)) (fun _ i => L.length - (intOf i).toNat)
  case atStart => exact ⟨0, Nat.zero_le _, rfl, rfl, stepOk_zero L⟩
  case round =>
    obtain ⟨k, hk, rfl, rfl, HK⟩ := hrel
    have hr := tot_bd (good_take hg k)
    have hrl : (L.take k).length ≤ 10 := by rw [List.length_take]; omega
    by_cases hlt : k < L.length
    · obtain ⟨b, off, rfl, hb, hcell⟩ := hI1.at (by omega)
      have hx := hcell k hlt
      have hgx := good_get hg k hlt
      have HT := Lib.hid (tot_take L k hlt)
      have HN : Hid (¬ L[k]?.getD 0 ≤ tot (L.take k) + 1 → whR zs = false) := fun h => by
        rw [HW.out, decide_eq_false_iff_not]
        exact fun hs => h (hs k hlt)
      have HY : Hid (L[k]?.getD 0 ≤ tot (L.take k) + 1 → stepOk L (k + 1)) := fun h => stepOk_succ HK.out h
      generalize L[k]?.getD 0 = x at hx hgx HT HN HY
      generalize tot (L.take k) = s at *
      clear hcell
      by_cases hle : x ≤ s + 1
      · have HY2 := Lib.hid (HY.out hle)
        go_wp2
        go_round
        case rel => exact ⟨k + 1, by omega, by go_num, by rw [HT.out], HY2⟩
        case measure => simp [intOf]; omega
      · have HN2 := Lib.hid (HN.out hle)
        have hgt : s + 1 < x := by omega
        go_wp2
        go_ret
        exact ⟨by rw [HN2.out]; rfl, hB1⟩
    · obtain rfl : k = L.length := by omega
      have HE : Hid (whR zs = true) := by show _ = _; rw [HW.out, decide_eq_true_iff]; exact HK.out
      go_wp2
      go_ret
      exact ⟨by rw [HE.out]; rfl, hB1⟩
end Go.Proofs.Ytokfkhdngmpkgaa
