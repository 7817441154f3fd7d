/- The draw of a grown list. Conditions: stated in each. -/
import Derived.Test.YtbpkffpejmlonaaLE
namespace Go.Proofs.Ytbpkffpejmlonaa
open Go.RowKit

set_option maxHeartbeats 1600000 in
theorem DrawSumGrown_any (a : Option Addr) (len cap : Nat) (w : World) (hl : len ≤ 1048576) (hcap : len ≤ cap) (hb : BytesAt w w.heap.size a len) :
    Calls Try.prog 119 #[.slice a len cap] w (DrawnPost w 9) := by
  go_enter Try.func119, Try.ntmps119
  go_wp2_with fail
  refine (l6Open_any a len cap w hl hcap hb).mono ?_
  rintro e w1 ⟨l, c, rfl, hl2, hR, hB⟩
  go_wp2_with fail
  refine (pick_any w.heap.size l c a 0 2 w1 (by omega) hl2 (by omega) hR).mono ?_
  rintro e w2 ⟨x, rfl, hx0, hx1, hR2, hG2⟩
  have hB2 : Below w.heap.size w w2 := hB.grown hG2 (by have := hR.lt; omega) (fun k hk => by cases hk; exact Nat.le_refl _)
  have s2 := hR2.lt
  clear hR hB hG2
  have hD0 : DrI w2 (w2.alloc (.cells #[] 3)) w.heap.size a l c (0 + 1) (.slice (some ⟨w2.heap.size, 0, none⟩) 0 0) [] :=
    ⟨hR2.kept (World.grownBy_alloc w2 _ none) (fun r hr => by cases hr), World.ownsRow_lit w2 #[] 0 (Nat.le_refl _) (by unfold maxLen; omega) (by simp), (Below.refl _ _).alloc (Nat.le_of_lt hR2.lt) _, hR2.lt⟩
  go_wp2_with fail
  · refine (l91List_any w.heap.size l c a (0 + 1) 20 6 w2 (by omega) hl2 (by omega) (by omega) hR2).mono ?_
    rintro e w3 ⟨v, zs, p', rfl, hD, hz1, hz2, _, _⟩
    obtain ⟨ad, cp, rfl, hI, _⟩ := hD.2.1.shape
    have hB3 := hB2.trans hD.2.2.1
    clear hD hR2 hD0
    go_wp2
    go_ret
    exact ⟨ad, cp, zs, rfl, by omega, hz2, hI, hB3⟩
  · refine (pickD w.heap.size l c a _ _ w2 _ _ _ (by omega) hl2 (by omega) hD0).mono ?_
    rintro e w3 ⟨n, rfl, hn0, hn1, hD3, _⟩
    clear hD0 hR2
    go_wp2_with fail
    go_loopw [4, 5, 7] (fun v s i wr => ∃ (k : Nat) (zs : List Int) (p' t : Int), k ≤ n ∧ i = .int .i64 k ∧ s = .int .i64 t ∧ 0 ≤ t ∧ t + 2 ≤ 2 * 2 ^ k ∧ zs.length ≤ k ∧ okDrawn zs ∧ DrI w2 wr w.heap.size a l c p' v zs ∧ 0 ≤ p' ∧ p' ≤ 10 + 2 * k) (fun _ _ i _ => n.toNat - (intOf i).toNat)
    case atStart => exact ⟨0, [], _, 0, by omega, rfl, rfl, by omega, by simp, Nat.le_refl _, (fun z hz => by cases hz), hD3, by omega, by omega⟩
    case round =>
      obtain ⟨k, zs, p', t, hk, rfl, rfl, ht0, ht1, hzl, hzs, hDr, hp1, hp2⟩ := hrel
      have hpw : (2 : Int) ^ k ≤ 32 := by
        have h1 : 2 ^ k ≤ 2 ^ 5 := Nat.pow_le_pow_right (by omega) (by omega)
        have h3 : ((2 ^ k : Nat) : Int) = 2 ^ k := by simp
        omega
      have hsu : (2 : Int) ^ (k + 1) = 2 ^ k * 2 := Int.pow_succ 2 k
      have HSu := Lib.hid hsu
      clear hsu
      by_cases hlt : (k : Int) < n
      · go_wp2_with fail
        refine (pickD w.heap.size l c a _ _ w2 _ _ _ (by omega) hl2 (by omega) hDr).mono ?_
        rintro e w4 ⟨y, rfl, hy0, hy1, hD4, _⟩
        clear hDr hD3
        by_cases h60 : t + 1 + y ≤ 60
        · go_wp2_with (at_builtin; refine appendD w2 _ rfl _ _ rfl _ _ _ rfl rfl ?_ hD4 ?_; (omega); intro v' w' hD')
          go_roundw
          case rel => exact ⟨k + 1, _, _, _, by omega, by go_num, rfl, by omega, by rw [HSu.out]; omega, by simp; omega, hzs.snoc (by omega), hD', by omega, by omega⟩
          case measure => simp [intOf]; omega
        · go_wp2
          go_roundw
          case rel => exact ⟨k + 1, _, _, _, by omega, by go_num, rfl, by omega, by rw [HSu.out]; omega, by omega, hzs, hD4, by omega, by omega⟩
          case measure => simp [intOf]; omega
      · obtain ⟨ad, cp, rfl, hI, _⟩ := hDr.2.1.shape
        have hB5 := hB2.trans hDr.2.2.1
        clear hDr hD3
        go_wp2
        go_ret
        exact ⟨ad, cp, zs, rfl, by omega, hzs, hI, hB5⟩

theorem DrawSumApart_any (a : Option Addr) (len cap : Nat) (w : World) (hl : len ≤ 1048576) (hcap : len ≤ cap) (hb : BytesAt w w.heap.size a len) :
    Calls Try.prog 83 #[.slice a len cap] w (DrawnPost w 9) := by
  go_enter Try.func83, Try.ntmps83
  go_wp2_with fail
  refine (DrawSumGrown_any a len cap w hl hcap hb).mono ?_
  rintro e w1 ⟨ad, cp, zs, rfl, h1, h2, h3, h4⟩
  go_wp2
  go_ret
  exact ⟨ad, cp, zs, rfl, h1, h2, h3, h4⟩
end Go.Proofs.Ytbpkffpejmlonaa
