/- slices.SortStableFunc by falling numbers, of at most 19 numbers. Conditions: stated in each. -/
import Derived.BigRegion
import Derived.Test.YtmggcfilkiklbaaCL
import Derived.Test.YtmggcfilkiklbaaMS
import Derived.Test.YtmggcfilkiklbaaW1
namespace Go.Proofs.Ytmggcfilkiklbaa
open Go.RowKit

def cmp3 (x y : Int) : Int := if x < y then -1 else if y < x then 1 else 0
theorem isNaN_any (x : Int) (w : World) : Calls Try.prog 44 #[.int .i64 x] w fun e w' => e = .returned (.bool false) ∧ w = w' := by
  go_enter Try.func44, Try.ntmps44
  go_wp2
  go_ret
  exact ⟨ret_bool (by simp), rfl⟩
theorem compare_any (x y : Int) (w : World) : Calls Try.prog 39 #[.int .i64 x, .int .i64 y] w fun e w' => e = .returned (.int .i64 (cmp3 x y)) ∧ w = w' := by
  go_enter Try.func39, Try.ntmps39
  go_wp2_with (go_at_call 44; refine (isNaN_any _ _).mono ?_; rintro e w' ⟨rfl, rfl⟩)
  all_goals
    go_ret
    exact ⟨ret_int (by unfold cmp3; (repeat' split) <;> omega), rfl⟩
theorem falling_any (x y : Int) (w : World) : Calls Try.prog 26 #[.int .i64 x, .int .i64 y] w fun e w' => e = .returned (.int .i64 (cmp3 y x)) ∧ w = w' := by
  go_enter Try.func26, Try.ntmps26
  go_wp2_with (go_at_call 39; refine (compare_any _ _ _).mono ?_; rintro e w' ⟨rfl, rfl⟩)
  go_ret
  exact ⟨rfl, rfl⟩
def SortPost (w : World) (base g n cp : Nat) (zs : List Int) (le : Int → Int → Prop) (e : Ending) (w' : World) : Prop :=
  e = .returned (.tuple #[]) ∧ ∃ L : List Int, Hid (L.Perm zs) ∧ Hid (InOrd le L n) ∧ Hid (L.length = n) ∧ OwnI w' base (.slice (some ⟨g, 0, none⟩) n cp) L ∧ Below base w w'
theorem InOrd.less {le : Int → Int → Prop} {L : List Int} {i n : Nat} (h : InOrd le L i) (hn : n ≤ i) : InOrd le L n := fun p q h1 h2 => h p q h1 (by omega)

set_option maxRecDepth 100000 in
set_option maxHeartbeats 3200000 in
theorem insCmp_any (g n cp base : Nat) (zs : List Int) (w : World) (hn : n ≤ 1000) (hb : base ≤ g) (hzl : zs.length = n) (hO0 : OwnI w base (.slice (some ⟨g, 0, none⟩) n cp) zs) :
    Calls Try.prog 45 #[.slice (some ⟨g, 0, none⟩) n cp, .int .i64 0, .int .i64 n, .func (.func 26) #[] #[]] w (SortPost w base g n cp zs (fun a b => b ≤ a)) := by
  have HZL := Lib.hid hzl
  clear hzl
  go_enter Try.func45, Try.ntmps45
  go_wp2
  go_loopw [8] (fun v wr => ∃ (i : Nat) (L : List Int), 1 ≤ i ∧ (i ≤ n ∨ i ≤ 1) ∧ v = .int .i64 i ∧ Hid (L.Perm zs) ∧ Hid (InOrd (fun a b => b ≤ a) L i) ∧ Hid (L.length = n) ∧ OwnI wr base (.slice (some ⟨g, 0, none⟩) n cp) L ∧ Below base w wr) (fun v _ => n - (intOf v).toNat)
  case atStart => exact ⟨1, zs, by omega, by omega, rfl, List.Perm.refl _, inOrd_one _ _, HZL, hO0, Below.refl _ _⟩
  case round =>
    obtain ⟨i, L, hi1, hi2, rfl, HP, HI, HL, hO, hB⟩ := hrel
    clear hO0
    by_cases hlt : i < n
    · have HAl := Lib.hid HI.out.start
      go_wp2
      go_loopw [9] (fun v wr => ∃ (j : Nat) (L : List Int), j ≤ i ∧ v = .int .i64 j ∧ Hid (L.Perm zs) ∧ Hid (Almost (fun a b => b ≤ a) L i j) ∧ Hid (L.length = n) ∧ OwnI wr base (.slice (some ⟨g, 0, none⟩) n cp) L ∧ Below base w wr) (fun v _ => (intOf v).toNat)
      case atStart => exact ⟨i, L, by omega, rfl, HP, HAl, HL, hO, hB⟩
      case round =>
        clear HP HI HL hO hB HAl
        obtain ⟨j, L, hj, rfl, HP, HA, HL, hO, hB⟩ := hrel
        have HO := Lib.hid hO
        by_cases hj0 : 0 < j
        · obtain ⟨g', cp', he, _, hgl, hcell⟩ := hO.at (by have := HL.out; omega)
          simp only [Value.slice.injEq, Option.some.injEq, Addr.mk.injEq, and_true] at he
          obtain ⟨rfl, hq1, hq2⟩ := he
          clear hq1 hq2
          have hx := (hcell j (by have := HL.out; omega)).1
          have fx := (hcell j (by have := HL.out; omega)).2
          have hy := (hcell (j - 1) (by have := HL.out; omega)).1
          have fy := (hcell (j - 1) (by have := HL.out; omega)).2
          have HSw : Hid (swapJ L j = (L.set j (L[j - 1]?.getD 0)).set (j - 1) (L[j]?.getD 0)) := rfl
          have HSl : Hid ((swapJ L j).length = n) := by show _ = _; rw [swapJ_length]; exact HL.out
          have HSp : Hid ((swapJ L j).Perm zs) := (swapJ_perm (by omega) (by have := HL.out; omega)).trans HP.out
          have HSa : Hid (L[j - 1]?.getD 0 ≤ L[j]?.getD 0 → Almost (fun a b => b ≤ a) (swapJ L j) i (j - 1)) := fun h => HA.out.swap (by omega) hj (by have := HL.out; omega) h
          have HDn : Hid (L[j]?.getD 0 ≤ L[j - 1]?.getD 0 → InOrd (fun a b => b ≤ a) L (i + 1)) := fun h => HA.out.done (fun a b c h1 h2 => by omega) (.inr h)
          clear hcell hO
          obtain ⟨x, hxv⟩ : ∃ x, L[j]?.getD 0 = x := ⟨_, rfl⟩
          obtain ⟨y, hyv⟩ : ∃ y, L[j - 1]?.getD 0 = y := ⟨_, rfl⟩
          rw [hxv] at hx HSw HSa HDn
          rw [hyv] at hy HSw HSa HDn
          clear hxv hyv
          have hf : ∀ m, Calls Try.prog 26 #[.int .i64 x, .int .i64 y] (wr.drewN m) fun e w' => e = .returned (.int .i64 (cmp3 y x)) ∧ w' = wr.drewN m := fun m => (falling_any x y _).mono (fun e w' h => ⟨h.1, h.2.symm⟩)
          rcases Int.lt_trichotomy y x with h | h | h
          · have hc : cmp3 y x = -1 := if_pos h
            rw [hc] at hf
            clear hc
            go_wp2_with fail
            go_quiet (first | (go_at_call 26; with_reducible refine Calls.quiet_of_same (hf _)))
            go_wp2_with fail
            go_region
            go_wp2
            go_roundw
            case rel => exact ⟨j - 1, swapJ L j, by omega, congrArg (Value.int .i64) (by omega), HSp, HSa.out (by omega), HSl, by rw [HSw.out]; exact ((HO.out.dr (nq + 1)).put HL.out j y).put (by rw [List.length_set]; exact HL.out) (j - 1) x, ((belowDr hB (nq + 1)).setCell (p := ⟨_, _, none⟩) hb _).setCell (p := ⟨_, _, none⟩) hb _⟩
            case measure => simp [intOf]; omega
          · subst h
            have hc : ∀ z, cmp3 z z = 0 := fun z => by rw [cmp3, if_neg (by omega), if_neg (by omega)]
            rw [hc] at hf
            clear hc
            have HD := Lib.hid (HDn.out (by omega))
            go_wp2_with fail
            go_quiet (first | (go_at_call 26; with_reducible refine Calls.quiet_of_same (hf _)))
            go_wp2
            go_roundw
            case rel => exact ⟨i + 1, L, by omega, by omega, by go_num, HP, HD, HL, HO.out.dr nq, belowDr hB nq⟩
            case measure => simp [intOf]; omega
          · have hc : cmp3 y x = 1 := by rw [cmp3, if_neg (by omega), if_pos h]
            rw [hc] at hf
            clear hc
            have HD := Lib.hid (HDn.out (by omega))
            go_wp2_with fail
            go_quiet (first | (go_at_call 26; with_reducible refine Calls.quiet_of_same (hf _)))
            go_wp2
            go_roundw
            case rel => exact ⟨i + 1, L, by omega, by omega, by go_num, HP, HD, HL, HO.out.dr nq, belowDr hB nq⟩
            case measure => simp [intOf]; omega
        · have HD : Hid (InOrd (fun a b => b ≤ a) L (i + 1)) := HA.out.done (fun a b c h1 h2 => by omega) (.inl (by omega))
          clear hO
          go_wp2_with fail
          go_quiet (fail)
          go_wp2
          go_roundw
          case rel => exact ⟨i + 1, L, by omega, by omega, by go_num, HP, HD, HL, HO.out.dr nq, belowDr hB nq⟩
          case measure => simp [intOf]; omega
    · have HF : Hid (InOrd (fun a b => b ≤ a) L n) := HI.out.less (by omega)
      go_wp2
      refine bodyPost_ret (v := .tuple #[]) (by simp [results, Try.f45, go_sem]) rfl ?_
      exact ⟨rfl, L, HP, HF, HL, hO, hB⟩
end Go.Proofs.Ytmggcfilkiklbaa
