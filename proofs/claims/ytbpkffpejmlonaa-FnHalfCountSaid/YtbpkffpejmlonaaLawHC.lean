/- The walk of the law FnHalfCount. Conditions: the code has at most 1048576 bytes, else the law answers at once. -/
import Derived.Test.YtbpkffpejmlonaaIK
import Derived.Test.YtbpkffpejmlonaaLD
namespace Go.Proofs.Ytbpkffpejmlonaa
open Go.RowKit

set_option maxHeartbeats 4000000 in
theorem FnHalfCount_law (a : Option Addr) (len cap : Nat) (w : World) (hcap : len ≤ cap) (hb : BytesAt w w.heap.size a len) (hmax : len ≤ 9223372036854775807) :
    Calls Try.prog 12 #[.slice a len cap] w fun e w' => e = .returned (.bool true) ∧ Below w.heap.size w w' := by
  by_cases hl : len ≤ 1048576
  case neg =>
    go_enter Try.func12, Try.ntmps12
    go_wp2
    go_ret
    exact ⟨rfl, Below.refl _ _⟩
  go_enter Try.func12, Try.ntmps12
  go_wp2_with fail
  refine (DrawHalfCount_any a len cap w hl hcap hb).mono ?_
  rintro e w1 ⟨ad, cp, zs, rfl, hz1, hz2, hI, hB⟩
  have s1 := hB.size
  have hF := HalfCount_any ad cp zs w1 (by omega) hI
  have hS : ∀ w', IntsAt w' ad zs → Calls Try.prog 60 #[.slice ad zs.length cp] w' (NumPost w' (halfC zs) (inL zs)) := fun w' h => sHalfCount_any ad cp zs w' (by omega) h
  obtain ⟨r, hr⟩ : ∃ r, inL zs = r := ⟨_, rfl⟩
  rw [hr] at hF
  rw [hr] at hS
  have HR := Lib.hid hr
  obtain ⟨H, hH⟩ : ∃ H, halfC zs = H := ⟨_, rfl⟩
  rw [hH] at hF
  rw [hH] at hS
  have HH := Lib.hid hH
  unfold NumPost at hF hS
  clear hr hH
  go_wp2_with fail
  refine hF.mono ?_
  rintro e w2 ⟨rfl, hB2⟩
  have s2 := hB2.size
  have hA2 := hB.trans (hB2.mono s1)
  have hI2 := hI.below hB2
  clear hF
  go_wp2_with fail
  refine (hS w2 hI2).mono ?_
  rintro e w3 ⟨rfl, hB3⟩
  have s3 := hB3.size
  have hA3 := hA2.trans (hB3.mono (by omega))
  have hI3 := hI2.below hB3
  clear hS
  cases r with
  | false =>
    clear HH
    go_wp2
    go_ret
    exact ⟨rfl, hA3⟩
  | true =>
    have hz : inL zs = true := HR.out
    have hzl := (inL_iff zs).1 hz
    have htb := tot_bd hzl.2
    have hHb := halfC_bd hzl.1
    have hp1 : 1 ≤ zs.length → halfC zs % 2 = 0 := halfC_pairs
    have hp0 : zs.length = 0 → halfC zs = 1 := fun h => by rw [List.eq_nil_of_length_eq_zero h]; exact halfC_nil
    have hpo : tot zs % 2 = 1 → halfC zs = 0 := halfC_odd
    have hpe : tot zs % 2 = 0 → ((foundL zs (tot zs / 2) (List.range (2 ^ zs.length))).length : Int) = halfC zs := halfC_list hz
    have hp00 : zs.length = 0 → tot zs = 0 := fun h => by rw [List.eq_nil_of_length_eq_zero h]; rfl
    rw [HH.out] at hp1 hp0 hpo hpe hHb
    have hR : ∀ w', IntsAt w' ad zs → Calls Try.prog 61 #[.slice ad zs.length cp, .int .i64 (tot zs / 2)] w' (ListR w' true (foundL zs (tot zs / 2) (List.range (2 ^ zs.length)))) := fun w' h => SumChoices_told ad cp zs _ hz w' h
    have HT : Hid (∀ w', IntsAt w' ad zs → Calls Try.prog 35 #[.slice ad zs.length cp] w' fun e w'' => e = .returned (.int .i64 (tot zs)) ∧ w' = w'') := fun w' h => total_any ad cp zs w' (by omega) (fun x hx => by have := hzl.2 x hx; omega) h
    have hzl1 := hzl.1
    clear hz hzl HH HR
    generalize (foundL zs (tot zs / 2) (List.range (2 ^ zs.length))) = L at hR hpe
    generalize tot zs = T at *
    have HP1 := Lib.hid hp1
    have HP0 := Lib.hid hp0
    have HPO := Lib.hid hpo
    have HPE := Lib.hid hpe
    have HP00 := Lib.hid hp00
    clear hp1 hp0 hpo hpe hp00
    go_wp2_with (go_at_call 35; refine (HT.out _ hI3).mono ?_; rintro e w' ⟨rfl, rfl⟩)
    refine (hR w3 hI3).mono ?_
    rintro e w4 ⟨v4, rfl, hO4, hB4⟩
    obtain ⟨a4, c4, rfl, _, _⟩ := hO4.shape
    have hA4 := hA3.trans (hB4.mono (by omega))
    have hI4 := hI3.below hB4
    clear hR hO4 hB4
    obtain ⟨M, hM⟩ : ∃ M : Nat, M = L.length := ⟨_, rfl⟩
    rw [← hM]
    have HPE2 : Hid (T % 2 = 0 → (M : Int) = H) := fun h => by rw [hM]; exact HPE.out h
    clear hM HPE
    obtain ⟨K, hK⟩ : ∃ K : Nat, K = zs.length := ⟨_, rfl⟩
    have HKz := Lib.hid hK
    by_cases hpar : T % 2 = 1
    · obtain rfl : H = 0 := HPO.out hpar
      have h1 : 1 ≤ zs.length := by
        rcases Nat.eq_zero_or_pos zs.length with e | e
        · have := HP00.out e; omega
        · exact e
      clear HKz hK
      have hk0 : ((zs.length : Int) == 0) = false := by simp; intro h; rw [h] at h1; simp at h1
      have hk1 : (zs.length : Int) ≠ 0 := by omega
      go_wp2_with (go_at_call 35; refine (HT.out _ hI4).mono ?_; rintro e w' ⟨rfl, rfl⟩)
      go_ret
      exact ⟨rfl, hA4⟩
    · have hpar0 : T % 2 = 0 := by omega
      obtain rfl : (M : Int) = H := HPE2.out hpar0
      clear hpar
      rcases Nat.eq_zero_or_pos zs.length with e | e
      · have hM1 : (M : Int) = 1 := HP0.out e
        obtain rfl : M = 1 := by omega
        clear HKz hK hM1
        obtain rfl := List.eq_nil_of_length_eq_zero e
        clear e
        go_wp2_with (go_at_call 35; refine (HT.out _ hI4).mono ?_; rintro e w' ⟨rfl, rfl⟩)
        go_ret
        exact ⟨rfl, hA4⟩
      · have hev : (M : Int) % 2 = 0 := HP1.out e
        clear HKz hK
        have hk0 : ((zs.length : Int) == 0) = false := by simp; intro h; rw [h] at e; simp at e
        have hk1 : (zs.length : Int) ≠ 0 := by omega
        go_wp2_with (go_at_call 35; refine (HT.out _ hI4).mono ?_; rintro e w' ⟨rfl, rfl⟩)
        go_ret
        exact ⟨rfl, hA4⟩
end Go.Proofs.Ytbpkffpejmlonaa
