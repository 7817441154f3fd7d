/- SumOf of the reference; the choice of all others; the draw of a list and a choice. Conditions: stated in each. -/
import Derived.Test.YtbpkffpejmlonaaLE
import Derived.Test.YtbpkffpejmlonaaW9
import Derived.Test.YtbpkffpejmlonaaM12
import Derived.Deep.RegionWith
namespace Go.Proofs.Ytbpkffpejmlonaa
open Go.RowKit

theorem csum_compl (zs : List Int) : ∀ c : Nat, c < 2 ^ zs.length → csum zs c + csum zs (2 ^ zs.length - 1 - c) = tot zs := by
  induction zs with
  | nil => intro c _; rfl
  | cons x xs ih =>
    intro c h
    rw [List.length_cons, Nat.pow_succ] at h ⊢
    have h1 := ih (c / 2) (by omega)
    rw [csum_cons, csum_cons, tot, show (2 ^ xs.length * 2 - 1 - c) / 2 = 2 ^ xs.length - 1 - c / 2 by omega]
    by_cases e : c % 2 = 1
    · rw [if_pos e, if_neg (by omega)]; omega
    · rw [if_neg e, if_pos (by omega)]; omega

set_option maxHeartbeats 1600000 in
theorem sSumOf_any (a : Option Addr) (cap : Nat) (zs : List Int) (set : Int) (w : World) (hl : zs.length ≤ 4000000) (hI : IntsAt w a zs) :
    Calls Try.prog 48 #[.slice a zs.length cap, .int .i64 set] w fun e w' => e = .returned (.tuple #[.int .i64 (sumOfR zs set).1, .bool (sumOfR zs set).2]) ∧ ∃ n, w' = w.drewN n := by
  by_cases hz : inL zs = true
  case neg =>
    rw [sumOfR_no (by simp [hz])]
    have hz' : inL zs = false := by simpa using hz
    have HZ := Lib.hid hz'
    clear hz hz'
    go_enter Try.func48, Try.ntmps48
    go_wp2_with (go_at_call 32; refine (sSumIn_any a cap zs w (by omega) hI).mono ?_; rw [HZ.out]; rintro e w' ⟨rfl, rfl⟩)
    go_ret2
    exact ⟨rfl, 0, rfl⟩
  have hzl := (inL_iff zs).1 hz
  have hpw := pow_bd10 zs.length (by omega)
  by_cases hin : 0 ≤ set ∧ set < 2 ^ zs.length
  case neg =>
    rw [sumOfR_no (by intro h; exact hin ⟨h.2.1, h.2.2⟩)]
    have hd : (decide (0 ≤ set) && decide (set ≤ 2 ^ zs.length - 1)) = false := by rw [Bool.eq_false_iff]; simp; omega
    have HD := Lib.hid hd
    have HZ := Lib.hid hz
    clear hz hd hin
    go_enter Try.func48, Try.ntmps48
    go_wp2_with (first | (go_at_call 32; refine (sSumIn_any a cap zs w (by omega) hI).mono ?_; rw [HZ.out]; rintro e w' ⟨rfl, rfl⟩) | (go_at_call 104; refine (l1All_any a zs.length cap _ (by omega)).mono ?_; rintro e w' ⟨rfl, rfl⟩) | (go_at_call 98; refine (l6In_any _ _ _ _).mono ?_; rw [HD.out]; rintro e w' ⟨rfl, rfl⟩))
    go_ret2
    exact ⟨rfl, 0, rfl⟩
  obtain ⟨c, rfl⟩ : ∃ c : Nat, set = c := ⟨set.toNat, by omega⟩
  have hc : c < 2 ^ zs.length := by exact_mod_cast hin.2
  rw [sumOfR_yes hz hc]
  have hd : (decide (0 ≤ (c : Int)) && decide ((c : Int) ≤ 2 ^ zs.length - 1)) = true := by simp; omega
  have HD := Lib.hid hd
  have HZ := Lib.hid hz
  have hc2 : c < 1048576 := by omega
  clear hz hd hin hc
  go_enter Try.func48, Try.ntmps48
  go_wp2_with (first | (go_at_call 32; refine (sSumIn_any a cap zs w (by omega) hI).mono ?_; rw [HZ.out]; rintro e w' ⟨rfl, rfl⟩) | (go_at_call 104; refine (l1All_any a zs.length cap _ (by omega)).mono ?_; rintro e w' ⟨rfl, rfl⟩) | (go_at_call 98; refine (l6In_any _ _ _ _).mono ?_; rw [HD.out]; rintro e w' ⟨rfl, rfl⟩) | (go_at_call 105; refine (l1Sum_any c a cap zs w hc2 (by omega) hzl.2 hI).mono ?_; rintro e w' ⟨rfl, n, rfl⟩))
  go_ret2
  exact ⟨rfl, _, rfl⟩

theorem DrI.drew {w0 w : World} {Br len cap : Nat} {a : Option Addr} {p : Int} {v : Value} {zs : List Int} (h : DrI w0 w Br a len cap p v zs) : DrI w0 w.drew Br a len cap p v zs :=
  ⟨h.1, h.2.1.dr 1, belowDr h.2.2.1 1, h.2.2.2⟩
theorem pickDd {Br len cap : Nat} {a : Option Addr} {p m : Int} {w0 w : World} {v : Value} {zs : List Int} (hD : DrI w0 w Br a len cap p v zs) (hp : 0 ≤ p ∧ p ≤ 1000000) (hlen : len ≤ 2000) (hm : m ≤ 1000000) :
    Calls Try.prog 108 #[.pointer (some ⟨Br, 0, none⟩), .int .i64 m] w fun e w' => ∃ x : Int, e = .returned (.int .i64 x) ∧ 0 ≤ x ∧ (x < m ∨ x = 0) ∧ DrI w0 w' Br a len cap (p + 1) v zs ∧ w.grownBy w' (some Br) := pickD Br len cap a p m w0 w v zs hp hlen hm hD

theorem kwrap (x : Int) (h : -1000000 ≤ x ∧ x ≤ 1000000) : IntKind.i64.wrap x = x := IntWalk.i64_in x (by omega)
theorem tdiv23 {x : Int} (h0 : 0 ≤ x) (h1 : x < 24 ∨ x = 0) : 0 ≤ x.tdiv 23 ∧ x.tdiv 23 ≤ 1 := by rw [Int.tdiv_eq_ediv_of_nonneg h0]; omega
theorem mBd {x : Int} {n : Nat} (h0 : 0 ≤ x) (h1 : x < 24 ∨ x = 0) (hp : 1 ≤ (2 : Int) ^ n ∧ (2 : Int) ^ n ≤ 256) : IntKind.i64.wrap (IntKind.i64.wrap (2 ^ n) + IntKind.i64.wrap (x.tdiv 23)) ≤ 300 := by
  have := tdiv23 h0 h1
  rw [kwrap (2 ^ n) (by omega), kwrap (x.tdiv 23) (by omega), kwrap _ (by omega)]
  omega
theorem qBd {x y m : Int} (h0 : 0 ≤ x) (h1 : x < 24 ∨ x = 0) (h2 : 0 ≤ y) (h3 : y < m ∨ y = 0) (h4 : m ≤ 300) : -1 ≤ IntKind.i64.wrap (y - IntKind.i64.wrap (x.tdiv 23)) ∧ IntKind.i64.wrap (y - IntKind.i64.wrap (x.tdiv 23)) ≤ 300 := by
  have := tdiv23 h0 h1
  rw [kwrap (x.tdiv 23) (by omega), kwrap _ (by omega)]
  omega

set_option maxHeartbeats 1600000 in
theorem DrawSumOf_any (a : Option Addr) (len cap : Nat) (w : World) (hl : len ≤ 1048576) (hcap : len ≤ cap) (hb : BytesAt w w.heap.size a len) :
    Calls Try.prog 47 #[.slice a len cap] w (Drawn2 w 8 (-1) 300) := by
  go_enter Try.func47, Try.ntmps47
  go_wp2_with fail
  refine (l6Open_any a len cap w hl hcap hb).mono ?_
  rintro e w1 ⟨l, c, rfl, hl2, hR, hB⟩
  go_wp2_with fail
  refine (l91List_any w.heap.size l c a 0 20 7 w1 (by omega) hl2 (by omega) (by omega) hR).mono ?_
  rintro e w2 ⟨v, zs, p', rfl, hD, hz1, hz2, _, _⟩
  obtain ⟨ad, cp, rfl, _, _⟩ := hD.2.1.shape
  have hpw : 1 ≤ (2 : Int) ^ zs.length ∧ (2 : Int) ^ zs.length ≤ 256 := by
    have h1 : 2 ^ zs.length ≤ 2 ^ 8 := Nat.pow_le_pow_right (by omega) (by omega)
    have h2 : 0 < 2 ^ zs.length := Nat.two_pow_pos _
    have h3 : ((2 ^ zs.length : Nat) : Int) = 2 ^ zs.length := by simp
    omega
  clear hR
  go_wp2_with fail
  have hwr : wrap64 (2 ^ zs.length) = 2 ^ zs.length := wrap_in _ (by omega)
  go_region_with (first | (go_at_call 108; refine (pickDd (w0 := w1) (hD := by first | assumption | exact DrI.drew (by assumption) | exact DrI.drew (DrI.drew (by assumption))) ?_ hl2 ?_).mono ?_; (omega); (first | omega | exact Int.le_trans (mBd (by assumption) (by assumption) hpw) (by omega)); rintro e w' ⟨x, rfl, hx0, hx1, hD', _⟩))
  rename_i w3 x1 hx10 hx11 hD3 g3 w4 x2 hx20 hx21 hD4 g4 g5
  have hI5 := hD'.2.1.ints
  have hB5 := hB.trans hD'.2.2.1
  have hq := qBd hx0 hx1 hx20 hx21 (mBd hx10 hx11 hpw)
  clear hD hD3 hD4 hD'
  go_wp2
  go_ret2
  exact ⟨ad, cp, zs, _, rfl, by omega, hz2, hI5, hq.1, hq.2, hB5⟩
end Go.Proofs.Ytbpkffpejmlonaa
