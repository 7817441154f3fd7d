/- RestShort of both. Conditions: the list is short enough to be counted. -/
import Derived.Test.YtbpkffpejmlonaaIJ
namespace Go.Proofs.Ytbpkffpejmlonaa
open Go.RowKit

/-- there is a choice below m with p -/
def anyB (p : Nat → Bool) (m : Nat) : Bool := (List.range m).any p
theorem FirstIs.any {p : Nat → Bool} {m : Nat} {r : Int} {ok : Bool} (h : FirstIs p m r ok) : ok = anyB p m := by
  rcases h with ⟨rfl, c, rfl, h1, h2, h3⟩ | ⟨rfl, rfl, h3⟩
  · exact (List.any_eq_true.2 ⟨c, List.mem_range.2 h1, h2⟩).symm
  · rw [eq_comm, anyB, List.any_eq_false]
    intro x hx
    rw [h3 x (List.mem_range.1 hx)]; simp
/-- RestShort's test of a number of places -/
def shortP (zs : List Int) (n : Int) (k : Nat) : Bool := decide (1 ≤ k) && anyB (justP zs n k) (2 ^ zs.length)
theorem short_no {zs : List Int} {n : Int} (h : restOk zs n = false) (m : Nat) : FirstIs (shortP zs n) m 0 false := .inr ⟨rfl, rfl, fun d _ => by
  have : anyB (justP zs n d) (2 ^ zs.length) = false := by
    rw [anyB, List.any_eq_false]; intro x _; simp [justP, h]
  simp [shortP, this]⟩

set_option maxHeartbeats 1600000 in
theorem sRestShort_any (a : Option Addr) (cap : Nat) (zs : List Int) (n : Int) (w : World) (hl : zs.length ≤ 4294967296) (hI : IntsAt w a zs) :
    Calls Try.prog 70 #[.slice a zs.length cap, .int .i64 n] w (FoundPostD w (shortP zs n) (zs.length + 1)) := by
  by_cases hz : restOk zs n = true
  case neg =>
    have hz' : restOk zs n = false := by simpa using hz
    have HZ := Lib.hid hz'
    clear hz hz'
    go_enter Try.func70, Try.ntmps70
    go_wp2_with (go_at_call 101; refine (l8Given_any a cap zs n w (by omega) hI).mono ?_; rw [HZ.out]; rintro e w' ⟨rfl, rfl⟩)
    go_ret2
    exact ⟨_, _, rfl, short_no HZ.out _, 0, rfl⟩
  have hz' := (restOk_iff zs n).1 hz
  have hzz := (inL_iff zs).1 hz'.1
  have HZ := Lib.hid hz
  have HA := Lib.hid hz'.1
  have hn := hz'.2
  clear hz hz'
  go_enter Try.func70, Try.ntmps70
  go_wp2_with (go_at_call 101; refine (l8Given_any a cap zs n w (by omega) hI).mono ?_; rw [HZ.out]; rintro e w' ⟨rfl, rfl⟩)
  go_loopw [6] (fun i wr => ∃ k m : Nat, 1 ≤ k ∧ k ≤ zs.length + 1 ∧ i = .int .i64 k ∧ (∀ d, d < k → shortP zs n d = false) ∧ wr = w.drewN m) (fun i _ => zs.length + 1 - (intOf i).toNat)
  case atStart => exact ⟨1, 0, by omega, by omega, rfl, (fun d hd => by obtain rfl : d = 0 := by omega
                                                                        simp [shortP]), rfl⟩
  case round =>
    obtain ⟨k, m, hk1, hk, rfl, hno, rfl⟩ := hrel
    have HN := Lib.hid hno
    clear hno
    by_cases hlt : k ≤ zs.length
    · go_wp2_with fail
      refine (l8Find_any a cap zs n k (w.drewN m) HA.out hn (hI.dr m)).mono ?_
      rintro e w' ⟨⟨r, rfl, hF⟩, m', rfl⟩
      have hF2 := (hF.is.congr (fun c _ => l8_just (k := (k : Int)) (by omega) HZ.out c)).any
      have hsp : shortP zs n k = decide (0 ≤ r) := by rw [shortP, hF2]; simp; omega
      have HS := Lib.hid hsp
      clear hF hF2 hsp
      by_cases hr : 0 ≤ r
      · go_wp2
        go_ret2
        exact ⟨_, _, rfl, .inl ⟨rfl, k, rfl, by omega, by rw [HS.out]; simpa using hr, HN.out⟩, m + m', by simp⟩
      · go_wp2
        go_roundw
        case rel => exact ⟨k + 1, m + m', by omega, by omega, by go_num, none_succ HN.out (by rw [HS.out]; simp; omega), by simp⟩
        case measure => simp [intOf]; omega
    · obtain rfl : k = zs.length + 1 := by omega
      go_wp2
      go_ret2
      exact ⟨_, _, rfl, .inr ⟨rfl, rfl, HN.out⟩, m, rfl⟩

set_option maxHeartbeats 1600000 in
theorem RestShort_any (a : Option Addr) (cap : Nat) (zs : List Int) (n : Int) (w : World) (hl : zs.length ≤ 4294967296) (hI : IntsAt w a zs) :
    Calls Try.prog 71 #[.slice a zs.length cap, .int .i64 n] w (FoundPost w (shortP zs n) (zs.length + 1)) := by
  by_cases hz : restOk zs n = true
  case neg =>
    have hz' : restOk zs n = false := by simpa using hz
    have HZ := Lib.hid hz'
    clear hz hz'
    go_enter Try.func71, Try.ntmps71
    go_wp2_with (go_at_call 103; refine (restsTold_any a cap zs n w (by omega) hI).mono ?_; rw [HZ.out]; rintro e w' ⟨rfl, rfl⟩)
    go_ret2
    exact ⟨_, _, rfl, short_no HZ.out _, Below.refl _ _⟩
  have hz' := (restOk_iff zs n).1 hz
  have hzz := (inL_iff zs).1 hz'.1
  have HZ := Lib.hid hz
  clear hz hz'
  go_enter Try.func71, Try.ntmps71
  go_wp2_with (go_at_call 103; refine (restsTold_any a cap zs n w (by omega) hI).mono ?_; rw [HZ.out]; rintro e w' ⟨rfl, rfl⟩)
  go_loopw [6] (fun i wr => ∃ k : Nat, 1 ≤ k ∧ k ≤ zs.length + 1 ∧ i = .int .i64 k ∧ (∀ d, d < k → shortP zs n d = false) ∧ Below w.heap.size w wr) (fun i _ => zs.length + 1 - (intOf i).toNat)
  case atStart => exact ⟨1, by omega, by omega, rfl, (fun d hd => by obtain rfl : d = 0 := by omega
                                                                     simp [shortP]), Below.refl _ _⟩
  case round =>
    obtain ⟨k, hk1, hk, rfl, hno, hB⟩ := hrel
    have HN := Lib.hid hno
    clear hno
    by_cases hlt : k ≤ zs.length
    · go_wp2_with fail
      refine (RestJust_any a cap zs n k wr (by omega) (hI.below hB)).mono ?_
      rintro e w' ⟨r, ok, rfl, hF, hB'⟩
      have hsp : shortP zs n k = ok := by rw [shortP, ← hF.any]; simp; omega
      have HS := Lib.hid hsp
      have hB2 := hB.trans (hB'.mono hB.size)
      clear hF hsp hB'
      cases ok
      · go_wp2
        go_roundw
        case rel => exact ⟨k + 1, by omega, by omega, by go_num, none_succ HN.out HS.out, hB2⟩
        case measure => simp [intOf]; omega
      · go_wp2
        go_ret2
        exact ⟨_, _, rfl, .inl ⟨rfl, k, rfl, by omega, HS.out, HN.out⟩, hB2⟩
    · obtain rfl : k = zs.length + 1 := by omega
      go_wp2
      go_ret2
      exact ⟨_, _, rfl, .inr ⟨rfl, rfl, HN.out⟩, hB⟩
end Go.Proofs.Ytbpkffpejmlonaa
