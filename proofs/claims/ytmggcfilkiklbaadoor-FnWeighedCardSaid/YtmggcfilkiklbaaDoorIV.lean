/- PanCounts of the program. Conditions: the list is short enough to be counted. -/
import Derived.Test.YtmggcfilkiklbaaDoorWR
import Derived.Test.YtmggcfilkiklbaaDoorCL
import Derived.Test.YtmggcfilkiklbaaDoorW5
namespace Go.Proofs.YtmggcfilkiklbaaDoor
open Go.RowKit

theorem gI_bd {o : List Int} {M : Int} (h : ∀ j : Nat, 0 ≤ o[j]?.getD 0 ∧ o[j]?.getD 0 ≤ M) (x k t : Nat) : 0 ≤ gI o x k t ∧ gI o x k t ≤ 3 * M := by
  have h1 := h t
  have h2 := h (t - x)
  have h3 := h (t + x)
  unfold gI
  split <;> split <;> split <;> omega
/-- a count that is not 0 lies far enough from the ends -/
theorem isPan_far {zs : List Int} (hg : good zs) {T X : Nat} {o : List Int} (ho : o.length = 2 * T + 1) (hp : IsPan zs T o) (hX : tot zs + X ≤ (T : Int)) {i : Nat} (hi : i < o.length) (h : o[i]?.getD 0 ≠ 0) : X ≤ i ∧ i + X < o.length := by
  rw [hp i hi] at h
  have := Classical.byContradiction (p := -tot zs ≤ (i : Int) - T ∧ (i : Int) - T ≤ tot zs) (fun hn => h (by rw [wN_out hg _ (by omega)]; rfl))
  omega
theorem gI_put {o L : List Int} {X i : Nat} (hX : 1 ≤ X) (h1 : X ≤ i) (h2 : i + X < o.length) (hL : L.length = o.length) (h : ∀ t, t < L.length → L[t]?.getD 0 = gI o X i t) {z : Int} (hz : o[i]?.getD 0 = z) :
    ∀ t, t < L.length → (((L.set (i - X) (gI o X i (i - X) + z)).set i (gI o X i i + z)).set (i + X) (gI o X i (i + X) + z))[t]?.getD 0 = gI o X (i + 1) t := by
  intro t ht
  rw [getD_set _ _ _ _ (by rw [List.length_set, List.length_set]; omega), getD_set _ _ _ _ (by rw [List.length_set]; omega), getD_set _ _ _ _ (by omega), gI_step o hX h1, hz]
  by_cases e1 : t = i + X
  · rw [if_pos e1, if_neg (by omega), if_neg (by omega), if_pos e1, e1]; omega
  · rw [if_neg e1]
    by_cases e2 : t = i
    · rw [if_pos e2, if_neg (by omega), if_pos e2, if_neg e1, e2]; omega
    · rw [if_neg e2]
      by_cases e3 : t = i - X
      · rw [if_pos e3, if_pos e3, if_neg e2, if_neg e1, e3]; omega
      · rw [if_neg e3, if_neg e3, if_neg e2, if_neg e1, h t ht]; omega
theorem isPan_start (T : Nat) : IsPan [] T ((List.replicate (2 * T + 1) (0 : Int)).set T 1) := fun t ht => by
  rw [List.length_set, List.length_replicate] at ht
  rw [getD_set _ _ _ _ (by rw [List.length_replicate]; omega), wN_nil]
  by_cases e : t = T
  · rw [if_pos e, if_pos (by omega)]; rfl
  · rw [if_neg e, if_neg (by omega)]; simp [ht]
theorem tot_take_le {zs : List Int} (hg : good zs) (k : Nat) : tot (zs.take k) ≤ tot zs := by
  have h1 : tot (zs.take k) + tot (zs.drop k) = tot zs := by rw [← tot_append, List.take_append_drop]
  have h2 := tot_bd (a := zs.drop k) (fun x hx => hg x (List.mem_of_mem_drop hx))
  omega

set_option maxRecDepth 100000 in
set_option maxHeartbeats 4000000 in
theorem PanCounts_any (a : Option Addr) (cap : Nat) (zs : List Int) (w : World) (hl : zs.length ≤ 1000000) (hI : IntsAt w a zs) :
    Calls Tryd.prog 13 #[.slice a zs.length cap] w (ListR w (inL zs) (panR zs)) := by
  by_cases hz : inL zs = true
  case neg =>
    have hz' : inL zs = false := by simpa using hz
    have hr : panR zs = [] := by unfold panR; rw [if_neg hz]
    have HO : OwnI (w.alloc (.cells #[] 3)) w.heap.size (.slice (some ⟨w.heap.size, 0, none⟩) 0 0) [] := World.ownsRow_lit w #[] 0 (Nat.le_refl _) (by unfold maxLen; omega) (by simp)
    rw [hz', hr]
    have HZ := Lib.hid hz'
    clear hz hz' hr
    go_enter Tryd.func13, Tryd.ntmps13
    go_wp2_with (go_at_call 16; refine (SumIn_any a cap zs _ (by omega) hI).mono ?_; rw [HZ.out]; rintro e w' ⟨rfl, rfl⟩)
    go_ret2
    exact ⟨_, rfl, HO, (Below.refl _ _).alloc (Nat.le_refl _) _⟩
  have hzl := (inL_iff zs).1 hz
  have hg := hzl.2
  have hl10 := hzl.1
  have htb := tot_bd hg
  have hr : panR zs = panC zs := by unfold panR; rw [if_pos hz]
  rw [hz, hr]
  have HZ := Lib.hid hz
  obtain ⟨T, hT⟩ : ∃ T : Nat, tot zs = T := ⟨(tot zs).toNat, by omega⟩
  have HPC : Hid (∀ o : List Int, o.length = 2 * T + 1 → IsPan zs T o → ∀ v, v < T + 1 → o[T + v]?.getD 0 = (panC zs)[v]?.getD 0) := fun o h1 h2 v hv => panC_of hg hT h1 h2 v hv
  have hpl : (panC zs).length = T + 1 := by rw [panC_length]; omega
  have HPL := Lib.hid hpl
  have HTot : Hid (Calls Tryd.prog 25 #[.slice a zs.length cap] w fun e w'' => e = .returned (.int .i64 (T : Int)) ∧ w = w'') := by
    show Calls _ _ _ _ _
    rw [← hT]; exact totalOf_any a cap zs w (by omega) hg hI
  have HTT : Hid (∀ k, tot (zs.take k) ≤ T) := fun k => by rw [← hT]; exact tot_take_le hg k
  have hTb : T ≤ 600 := by omega
  have HIS := Lib.hid (isPan_start T)
  clear hz hr hpl hT htb hzl
  go_enter Tryd.func13, Tryd.ntmps13
  go_wp2_with (first | (go_at_call 16; refine (SumIn_any a cap zs _ (by omega) hI).mono ?_; rw [HZ.out]; rintro e w' ⟨rfl, rfl⟩) | (go_at_call 25; refine HTot.out.mono ?_; rintro e w' ⟨rfl, rfl⟩) | (at_make; refine makeI w rfl _ _ rfl (2 * T + 1) _ rfl rfl (by simp) (by omega) ?_; intro w1 hO1 hG1; obtain ⟨gN, cpN, he3, _, hgN, hcN⟩ := hO1.at (by simp); simp only [Value.slice.injEq, Option.some.injEq, Addr.mk.injEq, and_true] at he3; obtain ⟨rfl, hq1, hq2⟩ := he3; clear hq1 hq2; have hn1 := (hcN T (by rw [List.length_replicate]; omega)).1; have hf1 := (hcN T (by rw [List.length_replicate]; omega)).2; clear hcN; have HO1 := Lib.hid hO1; clear hO1))
  have hB : Below w.heap.size w (w1.setCell ⟨w.heap.size, T, none⟩ (.int .i64 1)) := ((Below.refl _ w).grown hG1 (Nat.le_refl _) (fun k hk => by cases hk)).setCell (p := ⟨_, _, none⟩) (Nat.le_refl _) _
  have hO : OwnI (w1.setCell ⟨w.heap.size, T, none⟩ (.int .i64 1)) w.heap.size (.slice (some ⟨w.heap.size, 0, none⟩) (2 * T + 1) (2 * T + 1)) ((List.replicate (2 * T + 1) 0).set T 1) := HO1.out.put (List.length_replicate ..) T 1
  clear hG1 hn1 hf1 HO1
  generalize (w1.setCell ⟨w.heap.size, T, none⟩ (.int .i64 1)) = w2 at hB hO ⊢
  go_loopw [5, 26] (fun v i wr => ∃ (k g cp : Nat) (o : List Int), k ≤ zs.length ∧ i = .int .i64 k ∧ v = .slice (some ⟨g, 0, none⟩) (2 * T + 1) cp ∧ Hid (o.length = 2 * T + 1) ∧ OwnI wr w.heap.size (.slice (some ⟨g, 0, none⟩) (2 * T + 1) cp) o ∧ IsPan (zs.take k) T o ∧ Below w.heap.size w wr) (fun _ i _ => zs.length - (intOf i).toNat)
  case atStart => exact ⟨0, _, _, _, Nat.zero_le _, rfl, rfl, by show _ = _; rw [List.length_set, List.length_replicate], hO, HIS.out, hB⟩
  case round =>
    obtain ⟨k, g, cp, o, hk, rfl, rfl, hol, hO, hop, hB⟩ := hrel
    by_cases hlt : k < zs.length
    · obtain ⟨b, off, rfl, hbb, hcell⟩ := (hI.below hB).at (by omega)
      have hx := hcell k hlt
      have hgx := good_get hg k hlt
      have hb0 : ∀ j : Nat, 0 ≤ o[j]?.getD 0 ∧ o[j]?.getD 0 ≤ 59049 := fun j => isPan_bd (by rw [List.length_take]; omega) hop j
      obtain ⟨X, hxv⟩ : ∃ X : Nat, zs[k]?.getD 0 = X := ⟨(zs[k]?.getD 0).toNat, by omega⟩
      rw [hxv] at hx hgx
      have htk : tot (zs.take k) + X ≤ (T : Int) := by
        have h1 := HTT.out (k + 1)
        rw [tot_take zs k hlt, hxv] at h1
        exact h1
      have HE : Hid (∀ L : List Int, L.length = 2 * T + 1 → (∀ t, t < L.length → L[t]?.getD 0 = gI o X (2 * T + 1) t) → IsPan (zs.take (k + 1)) T L) := fun L h1 h2 t ht => by
        rw [h2 t ht, take_snoc zs k hlt, hxv]
        have := gI_end (x := X) (good_take hg k) htk hol.out hop t (by rw [hol.out, ← h1]; exact ht)
        rwa [hol.out] at this
      have HFar : Hid (∀ i, i < 2 * T + 1 → o[i]?.getD 0 ≠ 0 → X ≤ i ∧ i + X < 2 * T + 1) := fun i hi h => by
        have := isPan_far (good_take hg k) hol.out hop htk (by rw [hol.out]; exact hi) h
        rwa [hol.out] at this
      clear hxv hcell hop htk
      obtain ⟨W, rfl⟩ : ∃ W, W = wr := ⟨wr, rfl⟩
      go_wp2_with (at_make; refine makeI W rfl _ _ rfl (2 * T + 1) _ rfl rfl (by simp) (by omega) ?_; intro w1 hO1 hG1)
      have g1 : W.heap.size < w1.heap.size := (hO1.lt _ rfl).2
      go_loopw [35] (fun v w2 => ∃ (i : Nat) (L : List Int), i ≤ 2 * T + 1 ∧ v = .int .i64 i ∧ Hid (L.length = 2 * T + 1) ∧ Hid (∀ t, t < L.length → L[t]?.getD 0 = gI o X i t) ∧ OwnI w2 W.heap.size (.slice (some ⟨W.heap.size, 0, none⟩) (2 * T + 1) (2 * T + 1)) L ∧ Below W.heap.size W w2) (fun v _ => 2 * T + 1 - (intOf v).toNat)
      case atStart => exact ⟨0, _, Nat.zero_le _, rfl, (List.length_replicate .. : (List.replicate (2 * T + 1) (0 : Int)).length = _), (fun t ht => by rw [gI_start]; rw [List.length_replicate] at ht; simp [ht]), hO1, (Below.refl _ W).grown hG1 (Nat.le_refl _) (fun k hk => by cases hk)⟩
      case round =>
        obtain ⟨i, L, hi, rfl, hLl, hLg, hN, hBj⟩ := hrel
        by_cases hli : i < 2 * T + 1
        · obtain ⟨g', cp', he2, _, hgW, hcO⟩ := (hO.keptB hBj).at (by have := hol.out; omega)
          simp only [Value.slice.injEq, Option.some.injEq, Addr.mk.injEq, and_true, true_and] at he2
          obtain ⟨rfl, hq1, rfl⟩ := he2
          clear hq1
          have ho := (hcO i (by have := hol.out; omega)).1
          have hz := hb0 i
          by_cases hz0 : o[i]?.getD 0 = 0
          · have HG : Hid (∀ t, t < L.length → L[t]?.getD 0 = gI o X (i + 1) t) := fun t ht => by rw [hLg.out t ht, gI_zero o hz0]
            rw [hz0] at ho
            clear hcO hz0 hz hLg
            go_wp2
            go_roundw
            case rel => exact ⟨i + 1, L, by omega, by go_num, hLl, HG, hN, hBj⟩
            case measure => simp [intOf]; omega
          · obtain ⟨hf1, hf2⟩ := HFar.out i hli hz0
            obtain ⟨gN, cpN, he3, _, hgN, hcN⟩ := hN.at (by have := hLl.out; omega)
            simp only [Value.slice.injEq, Option.some.injEq, Addr.mk.injEq, and_true] at he3
            obtain ⟨rfl, hq1, hq2⟩ := he3
            clear hq1 hq2
            have hLL := hLl.out
            have a1 := (hcN (i - X) (by omega)).1
            have b1 := (hcN (i - X) (by omega)).2
            have a2 := (hcN i (by omega)).1
            have b2 := (hcN i (by omega)).2
            have a3 := (hcN (i + X) (by omega)).1
            have b3 := (hcN (i + X) (by omega)).2
            rw [hLg.out _ (by omega)] at a1 a2 a3
            have y1 := gI_bd hb0 X i (i - X)
            have y2 := gI_bd hb0 X i i
            have y3 := gI_bd hb0 X i (i + X)
            have HN := Lib.hid hN
            obtain ⟨z, hzv⟩ : ∃ z, o[i]?.getD 0 = z := ⟨_, rfl⟩
            have HPut : Hid (∀ t, t < L.length → (((L.set (i - X) (gI o X i (i - X) + z)).set i (gI o X i i + z)).set (i + X) (gI o X i (i + X) + z))[t]?.getD 0 = gI o X (i + 1) t) := gI_put (by omega) hf1 (by rw [hol.out]; exact hf2) (by rw [hLL, hol.out]) hLg.out hzv
            rw [hzv] at ho hz hz0
            clear hcN hcO hN hLg hLL hzv
            generalize gI o X i (i - X) = u1 at *
            generalize gI o X i i = u2 at *
            generalize gI o X i (i + X) = u3 at *
            have n1 : i - X ≠ i := by omega
            have n2 : i - X ≠ i + X := by omega
            have n3 : i ≠ i + X := by omega
            have hz1 : (z == 0) = false := by simpa using hz0
            go_wp2
            go_roundw
            case rel => exact ⟨i + 1, ((L.set (i - X) (u1 + z)).set i (u2 + z)).set (i + X) (u3 + z), by omega, by go_num, by show _ = _; rw [List.length_set, List.length_set, List.length_set]; exact hLl.out, fun t ht => HPut.out t (by simpa using ht), ((HN.out.put hLl.out _ _).put (by rw [List.length_set]; exact hLl.out) _ _).put (by rw [List.length_set, List.length_set]; exact hLl.out) _ _, ((hBj.setCell (p := ⟨_, _, none⟩) (Nat.le_refl _) _).setCell (p := ⟨_, _, none⟩) (Nat.le_refl _) _).setCell (p := ⟨_, _, none⟩) (Nat.le_refl _) _⟩
            case measure => simp [intOf]; omega
        · obtain rfl : i = 2 * T + 1 := by omega
          have HN := Lib.hid hN
          have hW := hB.size
          have HEE := Lib.hid (HE.out L hLl.out hLg.out)
          clear hN hLg
          go_wp2
          go_roundw
          case rel => exact ⟨k + 1, W.heap.size, 2 * T + 1, L, by omega, by go_num, rfl, hLl, HN.out.mono hW, HEE.out, hB.trans (hBj.mono hW)⟩
          case measure => simp [intOf]; omega
    · obtain rfl : k = zs.length := by omega
      rw [List.take_length] at hop
      obtain ⟨g', cp', he2, _, hgW, hcO⟩ := hO.at (by have := hol.out; omega)
      simp only [Value.slice.injEq, Option.some.injEq, Addr.mk.injEq, and_true, true_and] at he2
      obtain ⟨rfl, hq1, rfl⟩ := he2
      clear hq1
      have hcapb : 2 * T + 1 ≤ cp := by
        obtain ⟨a', c', he, _, hc⟩ := hO.shape
        simp only [Value.slice.injEq] at he
        have := hol.out
        omega
      have hIP : IntsAt wr (some ⟨g, T, none⟩) (panC zs) := by
        refine .inr ⟨g, T, rfl, hgW, fun v hv => ?_⟩
        rw [HPL.out] at hv
        rw [← HPC.out o hol.out hop v hv]
        exact (hcO (T + v) (by have := hol.out; omega)).1
      have hCl : Calls Tryd.prog 28 #[.slice (some ⟨g, T, none⟩) (2 * T + 1 - T) (cp - T)] wr (ClonePost wr (panC zs)) := by
        have := Clone_all (some ⟨g, T, none⟩) (cp - T) (panC zs) wr (by rw [HPL.out]; omega) hIP
        rw [HPL.out] at this
        rw [show 2 * T + 1 - T = T + 1 by omega]
        exact this
      have hW := hB.size
      clear hcO hop hO hIP
      go_wp2_with (go_at_call 28; refine hCl.mono ?_; rintro e w5 ⟨v5, rfl, hO5, hB5⟩)
      go_ret2
      exact ⟨v5, rfl, hO5.mono hW, hB.trans (hB5.mono hW)⟩
end Go.Proofs.YtmggcfilkiklbaaDoor
