/- HalfGreedy of the reference. Conditions: stated in each. -/
import Derived.Test.YtokfkhdngmpkgaaWS
import Derived.Test.YtokfkhdngmpkgaaIY
namespace Go.Proofs.Ytokfkhdngmpkgaa
open Go.RowKit

theorem ord_rev {zs L : List Int} (hp : L.Perm zs) (h : InOrd (fun a b => a ≤ b) L L.length) : L.reverse = sortD zs := by
  refine sortD_is ?_ ((List.reverse_perm L).trans hp)
  rw [List.pairwise_reverse]
  exact inOrd_pair h
theorem rev_get (L : List Int) (m : Nat) (hm : m < L.length) : L.reverse[L.length - (m + 1)]?.getD 0 = L[m]?.getD 0 := by
  rw [List.getElem?_reverse (by omega), show L.length - 1 - (L.length - (m + 1)) = m by omega]

set_option maxHeartbeats 800000 in
theorem sHalfGreedy_any (a : Option Addr) (cap : Nat) (zs : List Int) (w : World) (hl : zs.length ≤ 4294967296) (hI : IntsAt w a zs) :
    Calls Try.prog 19 #[.slice a zs.length cap] w (NumPost w (grR zs) (inL zs)) := by
  by_cases hz : inL zs = true
  case neg =>
    have hz' : inL zs = false := by simpa using hz
    rw [grR, if_neg hz, hz']
    have HZ := Lib.hid hz'
    clear hz hz'
    go_enter Try.func19, Try.ntmps19
    go_wp2_with (go_at_call 27; refine (sSumIn_any a cap zs _ hl hI).mono ?_; rw [HZ.out]; rintro e w' ⟨rfl, rfl⟩)
    go_ret2
    exact ⟨rfl, Below.refl _ _⟩
  rw [grR, if_pos hz, hz]
  have hzl := (inL_iff zs).1 hz
  have HZ := Lib.hid hz
  have hgL : good (sortD zs) := perm_good (sortD_perm zs) hzl.2
  have hlen : (sortD zs).length ≤ 10 := by rw [sortD_length]; exact hzl.1
  have hS := l1Sorted_any a cap zs w (by omega) hI
  clear hz
  go_enter Try.func19, Try.ntmps19
  go_wp2_with (first | (go_at_call 27; refine (sSumIn_any a cap zs _ hl hI).mono ?_; rw [HZ.out]; rintro e w' ⟨rfl, rfl⟩) | fail)
  refine hS.mono ?_
  rintro e w1 ⟨v1, L, rfl, HP, HO, hO1, hB1⟩
  have HR := Lib.hid (ord_rev HP.out HO.out)
  have HGr : Hid (greedy (sortD zs) = sz ((gl L.reverse 0 0).1 - (gl L.reverse 0 0).2)) := by show _ = _; rw [HR.out]; rfl
  rw [← HR.out] at hgL hlen
  rw [List.length_reverse] at hlen
  obtain ⟨a1, c1, rfl, hI1, _⟩ := hO1.shape
  clear hS hO1 HP HO HR
  go_wp2
  go_loop [5, 6, 7] (fun f s i => ∃ j : Nat, j ≤ L.length ∧ i = .int .i64 ((j : Int) - 1) ∧ f = .int .i64 (gl (L.reverse.take (L.length - j)) 0 0).1 ∧ s = .int .i64 (gl (L.reverse.take (L.length - j)) 0 0).2) (fun _ _ i => (intOf i + 1).toNat)
  case atStart => exact ⟨L.length, Nat.le_refl _, rfl, by rw [Nat.sub_self]; rfl, by rw [Nat.sub_self]; rfl⟩
  case round =>
    obtain ⟨j, hj, rfl, rfl, rfl⟩ := hrel
    have hr := gl_range hgL (L.length - j)
    rw [List.length_reverse] at hr
    rcases Nat.eq_zero_or_pos j with e0 | h0
    · subst e0
      rw [Nat.sub_zero, List.take_of_length_le (by simp)] at hr ⊢
      generalize gl L.reverse 0 0 = fs at *
      obtain ⟨f, s⟩ := fs
      simp only at hr HGr ⊢
      go_wp2
      all_goals
        go_ret2
        exact ⟨by rw [HGr.out]; exact ret_ib (by unfold sz; omega) rfl, hB1⟩
    · obtain ⟨m, rfl⟩ : ∃ m, j = m + 1 := ⟨j - 1, by omega⟩
      rw [show ((m + 1 : Nat) : Int) - 1 = (m : Int) by omega]
      obtain ⟨b, off, rfl, hb, hcell⟩ := hI1.at (by omega)
      have hx := hcell m (by omega)
      have hgx := good_get hgL (L.length - (m + 1)) (by simp; omega)
      have HT := Lib.hid (gl_take L.reverse (L.length - (m + 1)) (by simp; omega))
      rw [rev_get L m (by omega)] at hgx HT
      rw [show L.length - (m + 1) + 1 = L.length - m by omega] at HT
      generalize L[m]?.getD 0 = x at hx hgx HT
      generalize gl (L.reverse.take (L.length - (m + 1))) 0 0 = fs at *
      obtain ⟨f, s⟩ := fs
      simp only at hr HT ⊢
      clear hcell
      by_cases hfs : f ≤ s
      · have H1 : Hid (gl (L.reverse.take (L.length - m)) 0 0 = (f + x, s)) := by show _ = _; rw [HT.out, if_pos hfs]
        go_wp2
        go_round
        case rel => exact ⟨m, by omega, rfl, by rw [H1.out], by rw [H1.out]⟩
        case measure => simp [intOf] <;> omega
      · have H1 : Hid (gl (L.reverse.take (L.length - m)) 0 0 = (f, s + x)) := by show _ = _; rw [HT.out, if_neg hfs]
        go_wp2
        go_round
        case rel => exact ⟨m, by omega, rfl, by rw [H1.out], by rw [H1.out]⟩
        case measure => simp [intOf] <;> omega
end Go.Proofs.Ytokfkhdngmpkgaa
