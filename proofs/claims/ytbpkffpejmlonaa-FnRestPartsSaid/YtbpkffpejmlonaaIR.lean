/- RestParts of the program. Conditions: the list is short enough to be counted. -/
import Derived.WalkMore
import Derived.Deep.LoopGhost
import Derived.Test.YtbpkffpejmlonaaIP
namespace Go.Proofs.Ytbpkffpejmlonaa
open Go.RowKit

theorem top_bit {c i : Nat} (h : c / 2 ^ i = 1) : c.testBit i = true ∧ c < 2 ^ (i + 1) := by
  have hp := Nat.two_pow_pos i
  refine ⟨by rw [Nat.testBit_eq_decide_div_mod_eq, h]; rfl, ?_⟩
  rw [Nat.pow_succ]
  have := (Nat.div_lt_iff_lt_mul hp).1 (show c / 2 ^ i < 2 by omega)
  omega
theorem no_top : ∀ (m c : Nat), c < 2 ^ m → (∀ i, i < m → c / 2 ^ i ≠ 1) → c = 0
  | 0, c, h, _ => by simp at h; exact h
  | m + 1, c, h, hn => by
    by_cases e : c < 2 ^ m
    · exact no_top m c e (fun i hi => hn i (by omega))
    · exfalso
      have hp := Nat.two_pow_pos m
      rw [Nat.pow_succ] at h
      refine hn m (by omega) ?_
      have h1 : c / 2 ^ m < 2 := (Nat.div_lt_iff_lt_mul hp).2 (by omega)
      have h2 : 1 ≤ c / 2 ^ m := (Nat.le_div_iff_mul_le hp).2 (by omega)
      omega

set_option maxRecDepth 100000 in
set_option maxHeartbeats 4000000 in
theorem RestParts_any (a : Option Addr) (cap : Nat) (zs : List Int) (n : Int) (w : World) (hl : zs.length ≤ 4294967296) (hI : IntsAt w a zs) :
    Calls Try.prog 50 #[.slice a zs.length cap, .int .i64 n] w (PartsPost w zs n) := by
  by_cases hz : restOk zs n = true
  case neg =>
    have hz' : restOk zs n = false := by simpa using hz
    have hR : PartsR zs n 0 false := .inr ⟨rfl, hz', rfl⟩
    have HZ := Lib.hid hz'
    clear hz hz'
    go_enter Try.func50, Try.ntmps50
    go_wp2
    go_step3
    go_wp2_with (go_at_call 103; refine (restsTold_any a cap zs n w (by omega) hI).mono ?_; rw [HZ.out]; rintro e w' ⟨rfl, rfl⟩)
    try rw [Exit.noGoto_ret]
    go_ret2
    exact ⟨0, false, rfl, hR, Below.refl _ _⟩
  have hz' := (restOk_iff zs n).1 hz
  have hzl := (inL_iff zs).1 hz'.1
  have hn := hz'.2
  have hl10 := hzl.1
  have hg := hzl.2
  have HZ := Lib.hid hz
  clear hz hz' hzl
  obtain ⟨P, hP⟩ : ∃ P : Nat, 2 ^ zs.length = P := ⟨_, rfl⟩
  have hpp : (2 : Int) ^ zs.length = (P : Int) := by
    have : ((2 ^ zs.length : Nat) : Int) = 2 ^ zs.length := by simp
    rw [← hP]; exact this.symm
  have hPb : 1 ≤ P ∧ P ≤ 1024 := by
    have h1 : 2 ^ zs.length ≤ 2 ^ 10 := Nat.pow_le_pow_right (by omega) hl10
    have h2 := Nat.two_pow_pos zs.length
    omega
  have HPF : Hid (2 ^ zs.length = P) := hP
  clear hP
  go_enter Try.func50, Try.ntmps50
  go_wp2
  go_step3
  go_wp2_with (first | (go_at_call 103; refine (restsTold_any a cap zs n w (by omega) hI).mono ?_; rw [HZ.out]; rintro e w' ⟨rfl, rfl⟩) | fail)
  refine (Clone_all a cap zs w (by omega) hI).mono ?_
  rintro e w0 ⟨v0, rfl, hO0, hB0⟩
  obtain ⟨a0, c0, rfl, hI0, hcap0⟩ := hO0.shape
  have hs0 := hB0.size
  clear hO0
  go_wp2_with (at_make; refine makeI w0 rfl _ _ rfl P _ rfl rfl (by first | rfl | omega) (by omega) ?_; intro w1 hO hG)
  have hB : Below w0.heap.size w0 w1 := (Below.refl _ w0).grown hG (Nat.le_refl _) (fun k hk => by cases hk)
  clear hG
  go_step3
  go_wp2
  go_loopg [23] P (fun gk i wr => ∃ (c : Nat) (T : List Int), c + gk = P ∧ i = .int .i64 c ∧ Hid (T.length = P) ∧ Hid (Tab0 (mulP zs n) T c) ∧ OwnI wr w0.heap.size (.slice (some ⟨w0.heap.size, 0, none⟩) P P) T ∧ Below w0.heap.size w0 wr)
  case atStart => exact ⟨0, _, by omega, rfl, List.length_replicate .., tab0_start _ _, hO, hB⟩
  case round =>
    obtain ⟨c, T, hcg, rfl, HTl, HTab, hO, hB⟩ := hrel
    rcases Nat.lt_or_ge c P with hlt | hge
    · obtain ⟨g, rfl⟩ : ∃ g, gk = g + 1 := ⟨gk - 1, by omega⟩
      have hcg2 : c + 1 + g = P := by omega
      have HCG := Lib.hid hcg2
      clear hcg hcg2
      have HNT : Hid (∀ i, i < 0 → c / 2 ^ i ≠ 1) := fun i hi => by omega
      have HNT0 := HNT
      go_wp2
      go_loopg [28] zs.length (fun gj i wr => ∃ (j : Nat), j + gj = zs.length ∧ i = .int .i64 j ∧ Hid (∀ i, i < j → c / 2 ^ i ≠ 1) ∧ OwnI wr w0.heap.size (.slice (some ⟨w0.heap.size, 0, none⟩) P P) T ∧ Below w0.heap.size w0 wr)
      case atStart => exact ⟨0, by omega, rfl, HNT0, hO, hB⟩
      case round =>
        clear hO hB HNT HNT0
        obtain ⟨j, hjg, rfl, HNT, hO, hBr⟩ := hrel
        rcases Nat.lt_or_ge j zs.length with hjl | hjge
        · obtain ⟨g2, rfl⟩ : ∃ g2, gk = g2 + 1 := ⟨gk - 1, by omega⟩
          have HJG : Hid (j + 1 + g2 = zs.length) := by show j + 1 + g2 = zs.length; omega
          clear hjg
          have hpj := pow_bd10 j (by omega)
          have hpj3 : ((2 ^ j : Nat) : Int) = 2 ^ j := by simp
          by_cases hq : c / 2 ^ j = 1
          · have hq1 : ((c : Int) / 2 ^ j == 1) = true := by
              rw [← hpj3, ← Int.natCast_ediv, hq]; rfl
            obtain ⟨hb1, hb2⟩ := top_bit hq
            have hIr := hI0.below hBr
            obtain ⟨b, off, rfl, hbb, hcell⟩ := hIr.at (by omega)
            have hxj := hcell j hjl
            have hgj := good_get hg j hjl
            have hIt : IntsAt wr (some ⟨b, off, none⟩) (zs.take j) := by
              refine .inr ⟨b, off, rfl, hbb, fun i hi => ?_⟩
              rw [List.length_take] at hi
              rw [List.getElem?_take, if_pos (by omega)]
              exact hcell i (by omega)
            obtain ⟨x, hxv⟩ : ∃ x, zs[j]?.getD 0 = x := ⟨_, rfl⟩
            have hMW : Calls Try.prog 110 #[.slice (some ⟨w0.heap.size, 0, none⟩) P P, .slice (some ⟨b, off, none⟩) j j, .int .i64 (x % n), .int .i64 c, .int .i64 n] wr fun e w' => (∃ k : Nat, e = .returned (.int .i64 k) ∧ IsMost (mulP zs n) c k) ∧ wr = w' :=
              mostWith_any w0.heap.size P w0.heap.size T zs n (x % n) c j (some ⟨b, off, none⟩) j wr hg hl10 hjl hb1 hb2 hn HTl.out hlt HTab.out.1 hO hIt (by rw [hxv])
            rw [hxv] at hxj hgj
            obtain ⟨g', cp', he, _, hgl, hcell2⟩ := hO.at (by have := HTl.out; omega)
            simp only [Value.slice.injEq, Option.some.injEq, Addr.mk.injEq, and_true] at he
            obtain ⟨rfl, hq3, hq2⟩ := he
            clear hq3 hq2
            have hx1 := (hcell2 c (by have := HTl.out; omega)).1
            have hf1 := (hcell2 c (by have := HTl.out; omega)).2
            have hcj : j ≤ c0 := by omega
            have HO := Lib.hid hO
            clear hcell hcell2 hO hxv hIt hb1 hb2 hpj3 hq hIr
            go_wp2_with (go_at_call 110; refine hMW.mono ?_; rintro e w' ⟨⟨k, rfl, hk⟩, rfl⟩)
            go_roundg g
            case rel => exact ⟨c + 1, _, HCG.out, by go_num, by rw [List.length_set]; exact HTl.out, ((HTab.out.tab).put (by have := HTl.out; omega) k).next hk, HO.out.put HTl.out c _, hBr.setCell (p := ⟨_, _, none⟩) (Nat.le_refl _) _⟩
            case measure => omega
          · have hq1 : ((c : Int) / 2 ^ j == 1) = false := by
              rw [← hpj3, ← Int.natCast_ediv]
              exact beq_eq_false_iff_ne.2 (fun h => hq (by exact_mod_cast h))
            have HN2 : Hid (∀ i, i < j + 1 → c / 2 ^ i ≠ 1) := fun i hi => by
              by_cases e : i = j
              · subst e; exact hq
              · exact HNT.out i (by omega)
            clear hq hpj3
            go_wp2
            go_roundg g2
            case rel => exact ⟨j + 1, HJG.out, by go_num, HN2, hO, hBr⟩
            case measure => omega
        · obtain rfl : j = zs.length := by omega
          clear hjg
          have HE : Hid (Tab0 (mulP zs n) T (c + 1)) := by
            have hc0 := no_top zs.length c (by have := HPF.out; omega) HNT.out
            have := HTab.out.tab
            subst hc0
            exact this.next (most_zero _)
          go_wp2
          go_roundg g
          case rel => exact ⟨c + 1, T, HCG.out, by go_num, HTl, HE, hO, hBr⟩
          case measure => omega
    · obtain rfl : P = c := by omega
      obtain ⟨k, hk, hmost⟩ := HTab.out.1 (P - 1) (by omega)
      have HF : Hid (PartsR zs n k true) := .inl ⟨rfl, HZ.out, k, rfl, by rw [HPF.out]; exact hmost⟩
      obtain ⟨g', cp', he, _, hgl, hcell⟩ := hO.at (by have := HTl.out; omega)
      simp only [Value.slice.injEq, Option.some.injEq, Addr.mk.injEq, and_true] at he
      obtain ⟨rfl, hq1, hq2⟩ := he
      clear hq1 hq2
      have hx1 := (hcell (P - 1) (by have := HTl.out; omega)).1
      rw [hk] at hx1
      have hx2 : wr.cell? ⟨w0.heap.size, ((P : Int) - 1).toNat, none⟩ = some (.int .i64 k) := by rw [show ((P : Int) - 1).toNat = P - 1 by omega]; exact hx1
      clear hcell hk hmost
      clear hcg
      go_wp2
      try rw [Exit.noGoto_ret]
      go_ret2
      exact ⟨k, true, rfl, HF.out, hB0.trans (hB.mono hs0)⟩
end Go.Proofs.Ytbpkffpejmlonaa
