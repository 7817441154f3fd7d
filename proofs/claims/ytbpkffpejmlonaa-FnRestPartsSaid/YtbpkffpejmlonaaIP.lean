/- RestParts of the program. Conditions: the list is short enough to be counted. -/
import Derived.Test.YtbpkffpejmlonaaW17
import Derived.Test.YtbpkffpejmlonaaCL
import Derived.Test.YtbpkffpejmlonaaME
import Derived.Test.YtbpkffpejmlonaaMV
namespace Go.Proofs.Ytbpkffpejmlonaa
open Go.RowKit

theorem sub_add_part {p l c : Nat} (hl : Sub l c) (hp : Sub p (c - l)) : Sub p (p + l) ∧ p + l - p = l := by
  have h1 := hl.le
  have h2 := hp.le
  have h3 : Sub (c - l - p) c := hp.compl.trans hl.compl
  refine ⟨fun i hi => ?_, by omega⟩
  have e : p + l = c - (c - l - p) := by omega
  rw [e, sub_tb h3, sub_tb hp]
  have := hp i hi
  rw [hi]
  rw [sub_tb hl] at this
  simp at this
  simp [this.1]
theorem csum_last (zs : List Int) (j : Nat) (hj : j < zs.length) : csum zs (2 ^ j) = zs[j]?.getD 0 := by
  have h := csum_shift j zs 1
  rw [Nat.one_mul] at h
  rw [h, List.drop_eq_getElem_cons hj, csum_cons, if_pos (by omega)]
  have : csum (zs.drop (j + 1)) (1 / 2) = 0 := csum_zero _
  rw [this, List.getElem?_eq_getElem hj]; simp
theorem mul_last {zs : List Int} {n : Int} {p c j : Nat} (hj : j < zs.length) (hl : Sub (2 ^ j) c) (hp : Sub p (c - 2 ^ j)) (hlt : p < 2 ^ j) :
    (csum (zs.take j) p + zs[j]?.getD 0 % n) % n = 0 ↔ mulP zs n (p + 2 ^ j) := by
  obtain ⟨h1, h2⟩ := sub_add_part hl hp
  rw [mulP, csum_sub zs h1, h2, csum_last zs j hj, csum_take_low zs j p (by omega) hlt, Int.add_emod_emod]

set_option maxRecDepth 100000 in
set_option maxHeartbeats 2000000 in
theorem mostWith_any (g P base : Nat) (T zs : List Int) (n r : Int) (c j : Nat) (ah : Option Addr) (capA : Nat) (w : World)
    (hg : good zs) (hl : zs.length ≤ 10) (hj : j < zs.length) (hcb : c.testBit j = true) (hc2 : c < 2 ^ (j + 1)) (hn : 1 ≤ n ∧ n ≤ 6)
    (hT : T.length = P) (hcP : c < P) (hTab : ∀ d, d < c → ∃ k : Nat, T[d]?.getD 0 = k ∧ IsMost (mulP zs n) d k) (hO : OwnI w base (.slice (some ⟨g, 0, none⟩) P P) T)
    (hA : IntsAt w ah (zs.take j)) (hr : r = zs[j]?.getD 0 % n) :
    Calls Try.prog 110 #[.slice (some ⟨g, 0, none⟩) P P, .slice ah j capA, .int .i64 r, .int .i64 c, .int .i64 n] w fun e w' => (∃ k : Nat, e = .returned (.int .i64 k) ∧ IsMost (mulP zs n) c k) ∧ w = w' := by
  have hsb := sub_bit hcb
  have hle := hsb.le
  have hpj := Nat.two_pow_pos j
  have hpj2 := pow_bd10 j (by omega)
  have hpj3 : ((2 ^ j : Nat) : Int) = 2 ^ j := by simp
  have hc3 : c < 2 ^ j * 2 := by rw [← Nat.pow_succ]; exact hc2
  obtain ⟨o, ho⟩ : ∃ o, c - 2 ^ j = o := ⟨_, rfl⟩
  have hoc : o < c := by omega
  have hoj : o < 2 ^ j := by omega
  have hc2048 : c < 2048 := by omega
  have han : bits .andNot .i64 (c : Int) ((2 : Int) ^ j) = (o : Int) := by
    rw [← hpj3, i64_andNot _ _ (by omega) (by omega), andNot_sub hsb (by omega), ho]
  have hrb1 := Int.emod_nonneg (zs[j]?.getD 0) (show n ≠ 0 by omega)
  have hrb2 := Int.emod_lt_of_pos (zs[j]?.getD 0) (show 0 < n by omega)
  have hrb : 0 ≤ r ∧ r < 6 := by omega
  have hlj : (zs.take j).length = j := by rw [List.length_take]; omega
  have hgj := good_take hg j
  have HSum : Hid (∀ p : Nat, p < 2048 → Calls Try.prog 99 #[.int .i64 (p : Int), .slice ah j capA] w fun e w' => e = .returned (.int .i64 (csum (zs.take j) p)) ∧ w = w') := fun p hp => by
    have := csum_any p ah capA (zs.take j) w (by omega) (by omega) hgj hA
    rwa [hlj] at this
  have HM : Hid (∀ p : Nat, Sub p o → p < 2 ^ j → ((csum (zs.take j) p + r) % n = 0 ↔ mulP zs n (p + 2 ^ j))) := fun p hp hlt => by
    rw [hr]; exact mul_last hj hsb (by rw [ho]; exact hp) hlt
  have HFL : Hid (∀ d k, d < 2 ^ zs.length → IsMost (mulP zs n) d k → k ≤ 10) := fun d k hd h => Nat.le_trans (fam_len h.1 hd (by omega)) hl
  have hcz : c < 2 ^ zs.length := by
    have : 2 ^ (j + 1) ≤ 2 ^ zs.length := Nat.pow_le_pow_right (by omega) (by omega)
    omega
  have HFM : Hid (∀ k, Fam (mulP zs n) c k → k ≤ 10) := fun k h => Nat.le_trans (fam_len h hcz (by omega)) hl
  have HCZ := Lib.hid hcz
  obtain ⟨v0, hv0, hmo⟩ := hTab o hoc
  have hv0b := HFL.out o v0 (by omega) hmo
  have HMO := Lib.hid hmo
  have HST : Hid (SeenI (mulP zs n) c (2 ^ j) o v0) := by have := seenI_start hsb (by rw [ho]; exact hmo); rwa [ho] at this
  have HNx : Hid (∀ p v t, SeenI (mulP zs n) c (2 ^ j) p v → Sub p o → mulP zs n (p + 2 ^ j) → IsMost (mulP zs n) (o - p) t → SeenI (mulP zs n) c (2 ^ j) ((p - 1) &&& o) (max v (1 + t))) := fun p v t h1 h2 h3 h4 => by
    have := seenI_hit h1 hsb (by omega) (by rw [ho]; exact h2) h3 (by rw [ho]; exact h4)
    rwa [ho] at this
  have HNm : Hid (∀ p v, SeenI (mulP zs n) c (2 ^ j) p v → Sub p o → ¬ mulP zs n (p + 2 ^ j) → SeenI (mulP zs n) c (2 ^ j) ((p - 1) &&& o) v) := fun p v h1 h2 h3 => by
    have := seenI_miss h1 (by rw [ho]; exact h2) h3
    rwa [ho] at this
  have HEh : Hid (∀ p v t, p ≤ 0 → SeenI (mulP zs n) c (2 ^ j) p v → mulP zs n (p + 2 ^ j) → IsMost (mulP zs n) (o - p) t → IsMost (mulP zs n) c (max v (1 + t))) := fun p v t h0 h1 h2 h3 => by
    obtain rfl : p = 0 := by omega
    exact seenI_end_hit h1 hcb h2 (by rw [ho]; simpa using h3)
  have HEm : Hid (∀ p v, p ≤ 0 → SeenI (mulP zs n) c (2 ^ j) p v → ¬ mulP zs n (p + 2 ^ j) → IsMost (mulP zs n) c v) := fun p v h0 h1 h2 => by
    obtain rfl : p = 0 := by omega
    exact seenI_end_miss h1 hcb h2
  obtain ⟨g', cp', he, _, hgl, hcell⟩ := hO.at (by omega)
  simp only [Value.slice.injEq, Option.some.injEq, Addr.mk.injEq, and_true] at he
  obtain ⟨rfl, hq1, hq2⟩ := he
  clear hq1 hq2
  have hrd : ∀ d, d < c → w.cell? ⟨g, d, none⟩ = some (.int .i64 (T[d]?.getD 0)) := fun d hd => (hcell d (by omega)).1
  have hx0 := hrd o hoc
  rw [hv0] at hx0
  have HRD := Lib.hid hrd
  have HTAB := Lib.hid hTab
  have hts := tot_bd hgj
  have hcs : ∀ p : Nat, 0 ≤ csum (zs.take j) p ∧ csum (zs.take j) p ≤ 600 := fun p => by have := csum_bd hgj p; rw [hlj] at hts; omega
  have HCS := Lib.hid hcs
  clear hcell hrd hTab hT hO hr hlj hgj hts hcs hrb1 hrb2 hcb hc2 hpj3 hc3 ho hmo hcz hsb hle hv0 hA
  go_enter Try.func110, Try.ntmps110
  go_wp2
  go_loop [13, 14] (fun x i => ∃ (p v : Nat), p ≤ o ∧ i = .int .i64 p ∧ x = .int .i64 v ∧ Hid (Sub p o) ∧ Hid (SeenI (mulP zs n) c (2 ^ j) p v)) (fun _ i => (intOf i).toNat)
  case atStart => exact ⟨o, v0, by omega, rfl, rfl, Sub.refl _, HST⟩
  case round =>
    obtain ⟨p, v, hp, rfl, rfl, HSub, HSeen⟩ := hrel
    clear HST
    have hvb := HFM.out _ HSeen.out.1
    have hsb := HCS.out p
    have hms := HM.out p HSub.out (by omega)
    have HS2 := Lib.hid (pred_sub p o)
    have hd0 : ∃ d, o - p = d := ⟨_, rfl⟩
    obtain ⟨d, hd⟩ := hd0
    have hdo : d ≤ o := by omega
    have han2 : bits .andNot .i64 (o : Int) (p : Int) = (d : Int) := by
      rw [i64_andNot _ _ (by omega) (by omega), andNot_sub HSub.out (by omega), hd]
    obtain ⟨t, ht, hmt⟩ := HTAB.out d (by omega)
    have htb := HFL.out d t (by have := HCZ.out; omega) hmt
    have hx1 := HRD.out d (by omega)
    rw [ht] at hx1
    have HMT : Hid (IsMost (mulP zs n) (o - p) t) := by show IsMost _ (o - p) t; rw [hd]; exact hmt
    clear hd ht hmt
    by_cases hp0 : p ≤ 0
    · by_cases hmz : (csum (zs.take j) p + r) % n = 0
      · have HE := Lib.hid (HEh.out p v t hp0 HSeen.out (hms.1 hmz) HMT.out)
        clear hms
        by_cases hm : (v : Int) < 1 + (t : Int)
        all_goals
          go_wp2_with (go_at_call 99; refine (HSum.out p (by omega)).mono ?_; rintro e w' ⟨rfl, rfl⟩)
          go_ret
          refine ⟨⟨max v (1 + t), ret_int (by omega), HE.out⟩, rfl⟩
      · have HE := Lib.hid (HEm.out p v hp0 HSeen.out (fun h => hmz (hms.2 h)))
        clear hms
        go_wp2_with (go_at_call 99; refine (HSum.out p (by omega)).mono ?_; rintro e w' ⟨rfl, rfl⟩)
        go_ret
        exact ⟨⟨v, rfl, HE.out⟩, rfl⟩
    · have hlt2 := pred_lt p o (by omega)
      have HA : Hid (bits .and .i64 ((p : Int) - 1) (o : Int) = (((p - 1) &&& o : Nat) : Int)) := by
        show bits .and .i64 ((p : Int) - 1) (o : Int) = _
        rw [show (p : Int) - 1 = ((p - 1 : Nat) : Int) by omega, i64_and _ _ (by omega) (by omega)]
      by_cases hmz : (csum (zs.take j) p + r) % n = 0
      · have HN := Lib.hid (HNx.out p v t HSeen.out HSub.out (hms.1 hmz) HMT.out)
        clear hms
        by_cases hm : (v : Int) < 1 + (t : Int)
        all_goals
          go_wp2_with (go_at_call 99; refine (HSum.out p (by omega)).mono ?_; rintro e w' ⟨rfl, rfl⟩)
          go_round
          case rel => exact ⟨(p - 1) &&& o, max v (1 + t), by omega, by rw [HA.out], congrArg (Value.int .i64) (by omega), HS2, HN⟩
          case measure => rw [HA.out]; simp [intOf]; omega
      · have HN := Lib.hid (HNm.out p v HSeen.out HSub.out (fun h => hmz (hms.2 h)))
        clear hms
        go_wp2_with (go_at_call 99; refine (HSum.out p (by omega)).mono ?_; rintro e w' ⟨rfl, rfl⟩)
        go_round
        case rel => exact ⟨(p - 1) &&& o, v, by omega, by rw [HA.out], rfl, HS2, HN⟩
        case measure => rw [HA.out]; simp [intOf]; omega
end Go.Proofs.Ytbpkffpejmlonaa
