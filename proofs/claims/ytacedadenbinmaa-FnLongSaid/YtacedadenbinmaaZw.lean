/- slices.SortStableFunc by falling numbers, of at most 19 numbers. Conditions: stated in each. slices.SortStableFunc by falling numbers, of at most 19 numbers: the outer functions. Conditions: stated in each. inOrder by falling numbers, and HalfGreedy of the program. Conditions: stated in each. One step of the differences rule, in plain words. Conditions: none. Ahead of it: A number put into an ordered list, in plain words. Conditions: none. HalfDifferences of the reference. Conditions: stated in each. Ahead of it: HalfGreedy of the reference. Conditions: stated in each. Ahead of it: l1Sorted of the reference (under way). Conditions: the list has at most 12 numbers. l4Down of the reference; LoadLong of both. Conditions: stated in each. -/
import Derived.BigRegion
import Derived.Test.YtacedadenbinmaaZy
import Derived.Test.YtacedadenbinmaaZn
import Derived.Test.YtacedadenbinmaaZh
import Derived.Test.YtacedadenbinmaaZr
import Derived.Test.YtacedadenbinmaaZo
set_option linter.unusedVariables false
set_option linter.unusedSimpArgs false
set_option linter.unusedSectionVars false
namespace Go.Proofs.Ytacedadenbinmaa
open Go.RowKit

def cmp3 (x y : Int) : Int := if x < y then -1 else if y < x then 1 else 0
theorem isNaN_any (x : Int) (w : World) : Calls Try.prog 95 #[.int .i64 x] w fun e w' => e = .returned (.bool false) ∧ w = w' := by
  go_enter Try.func95, Try.ntmps95
  go_wp2
  go_ret
  exact ⟨ret_bool (by simp), rfl⟩
theorem compare_any (x y : Int) (w : World) : Calls Try.prog 74 #[.int .i64 x, .int .i64 y] w fun e w' => e = .returned (.int .i64 (cmp3 x y)) ∧ w = w' := by
  go_enter Try.func74, Try.ntmps74
  go_wp2_with (go_at_call 95; refine (isNaN_any _ _).mono ?_; rintro e w' ⟨rfl, rfl⟩)
  all_goals
    go_ret
    exact ⟨ret_int (by unfold cmp3; (repeat' split) <;> omega), rfl⟩
theorem falling_any (x y : Int) (w : World) : Calls Try.prog 59 #[.int .i64 x, .int .i64 y] w fun e w' => e = .returned (.int .i64 (cmp3 y x)) ∧ w = w' := by
  go_enter Try.func59, Try.ntmps59
  go_wp2_with (go_at_call 74; refine (compare_any _ _ _).mono ?_; rintro e w' ⟨rfl, rfl⟩)
  go_ret
  exact ⟨rfl, rfl⟩
def SortPost (w : World) (base g n cp : Nat) (zs : List Int) (le : Int → Int → Prop) (e : Ending) (w' : World) : Prop :=
  e = .returned (.tuple #[]) ∧ ∃ L : List Int, Hid (L.Perm zs) ∧ Hid (InOrd le L n) ∧ Hid (L.length = n) ∧ OwnI w' base (.slice (some ⟨g, 0, none⟩) n cp) L ∧ Below base w w'
theorem InOrd.less {le : Int → Int → Prop} {L : List Int} {i n : Nat} (h : InOrd le L i) (hn : n ≤ i) : InOrd le L n := fun p q h1 h2 => h p q h1 (by omega)

set_option maxRecDepth 100000 in
set_option maxHeartbeats 3200000 in
theorem insCmp_any (g n cp base : Nat) (zs : List Int) (w : World) (hn : n ≤ 1000) (hb : base ≤ g) (hzl : zs.length = n) (hO0 : OwnI w base (.slice (some ⟨g, 0, none⟩) n cp) zs) :
    Calls Try.prog 101 #[.slice (some ⟨g, 0, none⟩) n cp, .int .i64 0, .int .i64 n, .func (.func 59) #[] #[]] w (SortPost w base g n cp zs (fun a b => b ≤ a)) := by
  have HZL := Lib.hid hzl
  clear hzl
  go_enter Try.func101, Try.ntmps101
  go_wp2
  go_loopw [8] (fun v wr => ∃ (i : Nat) (L : List Int), 1 ≤ i ∧ (i ≤ n ∨ i ≤ 1) ∧ v = .int .i64 i ∧ Hid (L.Perm zs) ∧ Hid (InOrd (fun a b => b ≤ a) L i) ∧ Hid (L.length = n) ∧ OwnI wr base (.slice (some ⟨g, 0, none⟩) n cp) L ∧ Below base w wr) (fun v _ => n - (intOf v).toNat)
  case atStart => exact ⟨1, zs, by omega, by omega, rfl, List.Perm.refl _, inOrd_one _ _, HZL, hO0, Below.refl _ _⟩
  case round =>
    obtain ⟨i, L, hi1, hi2, rfl, HP, HI, HL, hO, hB⟩ := hrel
    clear hO0
    by_cases hlt : i < n
    · have HAl := Lib.hid HI.out.start
      go_wp2
      go_loopw [9] (fun v wr => ∃ (j : Nat) (L : List Int), j ≤ i ∧ v = .int .i64 j ∧ Hid (L.Perm zs) ∧ Hid (Almost (fun a b => b ≤ a) L i j) ∧ Hid (L.length = n) ∧ OwnI wr base (.slice (some ⟨g, 0, none⟩) n cp) L ∧ Below base w wr) (fun v _ => (intOf v).toNat)
      case atStart => exact ⟨i, L, by omega, rfl, HP, HAl, HL, hO, hB⟩
      case round =>
        clear HP HI HL hO hB HAl
        obtain ⟨j, L, hj, rfl, HP, HA, HL, hO, hB⟩ := hrel
        have HO := Lib.hid hO
        by_cases hj0 : 0 < j
        · obtain ⟨g', cp', he, _, hgl, hcell⟩ := hO.at (by have := HL.out; omega)
          simp only [Value.slice.injEq, Option.some.injEq, Addr.mk.injEq, and_true] at he
          obtain ⟨rfl, hq1, hq2⟩ := he
          clear hq1 hq2
          have hx := (hcell j (by have := HL.out; omega)).1
          have fx := (hcell j (by have := HL.out; omega)).2
          have hy := (hcell (j - 1) (by have := HL.out; omega)).1
          have fy := (hcell (j - 1) (by have := HL.out; omega)).2
          have HSw : Hid (swapJ L j = (L.set j (L[j - 1]?.getD 0)).set (j - 1) (L[j]?.getD 0)) := rfl
          have HSl : Hid ((swapJ L j).length = n) := by show _ = _; rw [swapJ_length]; exact HL.out
          have HSp : Hid ((swapJ L j).Perm zs) := (swapJ_perm (by omega) (by have := HL.out; omega)).trans HP.out
          have HSa : Hid (L[j - 1]?.getD 0 ≤ L[j]?.getD 0 → Almost (fun a b => b ≤ a) (swapJ L j) i (j - 1)) := fun h => HA.out.swap (by omega) hj (by have := HL.out; omega) h
          have HDn : Hid (L[j]?.getD 0 ≤ L[j - 1]?.getD 0 → InOrd (fun a b => b ≤ a) L (i + 1)) := fun h => HA.out.done (fun a b c h1 h2 => by omega) (.inr h)
          clear hcell hO
          obtain ⟨x, hxv⟩ : ∃ x, L[j]?.getD 0 = x := ⟨_, rfl⟩
          obtain ⟨y, hyv⟩ : ∃ y, L[j - 1]?.getD 0 = y := ⟨_, rfl⟩
          rw [hxv] at hx HSw HSa HDn
          rw [hyv] at hy HSw HSa HDn
          clear hxv hyv
          have hf : ∀ m, Calls Try.prog 59 #[.int .i64 x, .int .i64 y] (wr.drewN m) fun e w' => e = .returned (.int .i64 (cmp3 y x)) ∧ w' = wr.drewN m := fun m => (falling_any x y _).mono (fun e w' h => ⟨h.1, h.2.symm⟩)
          rcases Int.lt_trichotomy y x with h | h | h
          · have hc : cmp3 y x = -1 := if_pos h
            rw [hc] at hf
            clear hc
            go_wp2_with fail
            go_quiet (first | (go_at_call 59; with_reducible refine Calls.quiet_of_same (hf _)))
            go_wp2_with fail
            go_region
            go_wp2
            go_roundw
            case rel => exact ⟨j - 1, swapJ L j, by omega, congrArg (Value.int .i64) (by omega), HSp, HSa.out (by omega), HSl, by rw [HSw.out]; exact ((HO.out.dr (nq + 1)).put HL.out j y).put (by rw [List.length_set]; exact HL.out) (j - 1) x, ((belowDr hB (nq + 1)).setCell (p := ⟨_, _, none⟩) hb _).setCell (p := ⟨_, _, none⟩) hb _⟩
            case measure => simp [intOf]; omega
          · subst h
            have hc : ∀ z, cmp3 z z = 0 := fun z => by rw [cmp3, if_neg (by omega), if_neg (by omega)]
            rw [hc] at hf
            clear hc
            have HD := Lib.hid (HDn.out (by omega))
            go_wp2_with fail
            go_quiet (first | (go_at_call 59; with_reducible refine Calls.quiet_of_same (hf _)))
            go_wp2
            go_roundw
            case rel => exact ⟨i + 1, L, by omega, by omega, by go_num, HP, HD, HL, HO.out.dr nq, belowDr hB nq⟩
            case measure => simp [intOf]; omega
          · have hc : cmp3 y x = 1 := by rw [cmp3, if_neg (by omega), if_pos h]
            rw [hc] at hf
            clear hc
            have HD := Lib.hid (HDn.out (by omega))
            go_wp2_with fail
            go_quiet (first | (go_at_call 59; with_reducible refine Calls.quiet_of_same (hf _)))
            go_wp2
            go_roundw
            case rel => exact ⟨i + 1, L, by omega, by omega, by go_num, HP, HD, HL, HO.out.dr nq, belowDr hB nq⟩
            case measure => simp [intOf]; omega
        · have HD : Hid (InOrd (fun a b => b ≤ a) L (i + 1)) := HA.out.done (fun a b c h1 h2 => by omega) (.inl (by omega))
          clear hO
          go_wp2_with fail
          go_quiet (fail)
          go_wp2
          go_roundw
          case rel => exact ⟨i + 1, L, by omega, by omega, by go_num, HP, HD, HL, HO.out.dr nq, belowDr hB nq⟩
          case measure => simp [intOf]; omega
    · have HF : Hid (InOrd (fun a b => b ≤ a) L n) := HI.out.less (by omega)
      go_wp2
      refine bodyPost_ret (v := .tuple #[]) (by simp [results, Try.f101, go_sem]) rfl ?_
      exact ⟨rfl, L, HP, HF, HL, hO, hB⟩
end Go.Proofs.Ytacedadenbinmaa
namespace Go.Proofs.Ytacedadenbinmaa
open Go.RowKit

set_option maxRecDepth 100000 in
set_option maxHeartbeats 1600000 in
theorem stable_any (g n cp base : Nat) (zs : List Int) (w : World) (hn : n ≤ 19) (hb : base ≤ g) (hzl : zs.length = n) (hO : OwnI w base (.slice (some ⟨g, 0, none⟩) n cp) zs) :
    Calls Try.prog 94 #[.slice (some ⟨g, 0, none⟩) n cp, .int .i64 n, .func (.func 59) #[] #[]] w (SortPost w base g n cp zs (fun a b => b ≤ a)) := by
  have hI := insCmp_any g n cp base zs w (by omega) hb hzl hO
  clear hzl hO
  go_enter Try.func94, Try.ntmps94
  go_wp2
  go_loopw [7, 8] (fun u v wr => u = .int .i64 0 ∧ v = .int .i64 20 ∧ wr = w) (fun _ _ _ => 0)
  case atStart => exact ⟨rfl, rfl, rfl⟩
  case round =>
    obtain ⟨rfl, rfl, rfl⟩ := hrel
    go_wp2_with (go_at_call 101; refine hI.mono ?_; rintro e w1 ⟨rfl, L, h1, h2, h3, h4, h5⟩)
    go_loopw [6] (fun v wr => v = .int .i64 20 ∧ wr = w1) (fun _ _ => 0)
    case atStart => exact ⟨rfl, rfl⟩
    case round =>
      obtain ⟨rfl, rfl⟩ := hrel
      go_wp2
      refine bodyPost_ret (v := .tuple #[]) (by simp [results, Try.f94, go_sem]) rfl ?_
      exact ⟨rfl, L, h1, h2, h3, h4, h5⟩

theorem sortStable_any (g n cp base : Nat) (zs : List Int) (w : World) (hn : n ≤ 19) (hb : base ≤ g) (hzl : zs.length = n) (hO : OwnI w base (.slice (some ⟨g, 0, none⟩) n cp) zs) :
    Calls Try.prog 73 #[.slice (some ⟨g, 0, none⟩) n cp, .func (.func 59) #[] #[]] w (SortPost w base g n cp zs (fun a b => b ≤ a)) := by
  have hI := stable_any g n cp base zs w hn hb hzl hO
  clear hzl hO
  go_enter Try.func73, Try.ntmps73
  go_wp2_with (go_at_call 94; refine hI.mono ?_; rintro e w1 ⟨rfl, L, h1, h2, h3, h4, h5⟩)
  refine bodyPost_ret (v := .tuple #[]) (by simp [results, Try.f73, go_sem]) rfl ?_
  exact ⟨rfl, L, h1, h2, h3, h4, h5⟩
end Go.Proofs.Ytacedadenbinmaa
namespace Go.Proofs.Ytacedadenbinmaa
open Go.RowKit

def NilPost (w : World) (e : Ending) (w' : World) : Prop := e = .returned (.tuple #[]) ∧ w = w'
theorem ins0 (a0 : Option Addr) (cp : Nat) (w : World) : Calls Try.prog 101 #[.slice a0 0 cp, .int .i64 0, .int .i64 0, .func (.func 59) #[] #[]] w (NilPost w) := by
  go_enter Try.func101, Try.ntmps101
  go_wp2
  go_loopw [8] (fun v wr => v = .int .i64 1 ∧ wr = w) (fun _ _ => 0)
  case atStart => exact ⟨rfl, rfl⟩
  case round =>
    obtain ⟨rfl, rfl⟩ := hrel
    go_wp2
    refine bodyPost_ret (v := .tuple #[]) (by simp [results, Try.f101, go_sem]) rfl ?_
    exact ⟨rfl, rfl⟩
theorem stable0 (a0 : Option Addr) (cp : Nat) (w : World) : Calls Try.prog 94 #[.slice a0 0 cp, .int .i64 0, .func (.func 59) #[] #[]] w (NilPost w) := by
  go_enter Try.func94, Try.ntmps94
  go_wp2
  go_loopw [7, 8] (fun u v wr => u = .int .i64 0 ∧ v = .int .i64 20 ∧ wr = w) (fun _ _ _ => 0)
  case atStart => exact ⟨rfl, rfl, rfl⟩
  case round =>
    obtain ⟨rfl, rfl, rfl⟩ := hrel
    go_wp2_with (go_at_call 101; refine (ins0 a0 cp _).mono ?_; rintro e w1 ⟨rfl, rfl⟩)
    go_loopw [6] (fun v wr' => v = .int .i64 20 ∧ wr' = wr) (fun _ _ => 0)
    case atStart => exact ⟨rfl, rfl⟩
    case round =>
      obtain ⟨rfl, rfl⟩ := hrel
      go_wp2
      refine bodyPost_ret (v := .tuple #[]) (by simp [results, Try.f94, go_sem]) rfl ?_
      exact ⟨rfl, rfl⟩
theorem sortStable0 (a0 : Option Addr) (cp : Nat) (w : World) : Calls Try.prog 73 #[.slice a0 0 cp, .func (.func 59) #[] #[]] w (NilPost w) := by
  go_enter Try.func73, Try.ntmps73
  go_wp2_with (go_at_call 94; refine (stable0 a0 cp _).mono ?_; rintro e w1 ⟨rfl, rfl⟩)
  refine bodyPost_ret (v := .tuple #[]) (by simp [results, Try.f73, go_sem]) rfl ?_
  exact ⟨rfl, rfl⟩

def OrdPost (w : World) (zs : List Int) (e : Ending) (w' : World) : Prop := ∃ v, e = .returned v ∧ OwnI w' w.heap.size v (sortD zs) ∧ Below w.heap.size w w'

set_option maxHeartbeats 800000 in
theorem inOrder_any (a : Option Addr) (cap : Nat) (zs : List Int) (w : World) (hl : zs.length ≤ 19) (hI : IntsAt w a zs) :
    Calls Try.prog 58 #[.slice a zs.length cap, .func (.func 59) #[] #[]] w (OrdPost w zs) := by
  go_enter Try.func58, Try.ntmps58
  go_wp2_with fail
  refine (Clone_all a cap zs w (by omega) hI).mono ?_
  rintro e w1 ⟨v1, rfl, hO1, hB1⟩
  rcases Nat.eq_zero_or_pos zs.length with h0 | h0
  · obtain ⟨a1, c1, rfl, _, _⟩ := hO1.shape
    obtain rfl := List.eq_nil_of_length_eq_zero h0
    clear h0
    go_wp2_with (go_at_call 73; refine (sortStable0 a1 c1 _).mono ?_; rintro e w2 ⟨rfl, rfl⟩)
    go_ret
    exact ⟨_, rfl, hO1, hB1⟩
  · obtain ⟨g, c1, rfl, hg, _, _⟩ := hO1.at h0
    have hS := sortStable_any g zs.length c1 w.heap.size zs w1 hl hg rfl hO1
    clear hO1
    go_wp2_with (go_at_call 73; refine hS.mono ?_; rintro e w2 ⟨rfl, L, h1, h2, h3, h4, h5⟩)
    go_ret
    have hL : L = sortD zs := by
      refine sortD_is (inOrd_pair ?_) h1.out
      rw [h3.out]; exact h2.out
    exact ⟨_, rfl, by rw [← hL]; exact h4, hB1.trans h5⟩

theorem gl_take (L : List Int) : ∀ (k : Nat), k < L.length → gl (L.take (k + 1)) 0 0 = (if (gl (L.take k) 0 0).1 ≤ (gl (L.take k) 0 0).2 then ((gl (L.take k) 0 0).1 + L[k]?.getD 0, (gl (L.take k) 0 0).2) else ((gl (L.take k) 0 0).1, (gl (L.take k) 0 0).2 + L[k]?.getD 0)) := by
  have key : ∀ (xs : List Int) (x f s : Int), gl (xs ++ [x]) f s = (if (gl xs f s).1 ≤ (gl xs f s).2 then ((gl xs f s).1 + x, (gl xs f s).2) else ((gl xs f s).1, (gl xs f s).2 + x)) := by
    intro xs
    induction xs with
    | nil => intro x f s; simp only [List.nil_append, gl]; first | rfl | (split <;> rfl)
    | cons y ys ih =>
      intro x f s
      rw [List.cons_append, gl, gl]
      split
      · exact ih _ _ _
      · exact ih _ _ _
  intro k hk
  rw [take_snoc L k hk, key]
theorem sizeOf_any (v : Int) (w : World) (hv : -1000000 ≤ v ∧ v ≤ 1000000) :
    Calls Try.prog 56 #[.int .i64 v] w fun e w' => e = .returned (.int .i64 (sz v)) ∧ w = w' := by
  go_enter Try.func56, Try.ntmps56
  go_wp2
  all_goals
    go_ret
    exact ⟨ret_int (by unfold sz; omega), rfl⟩
/-- the answer of HalfGreedy -/
def grR (zs : List Int) : Int := if inL zs = true then greedy (sortD zs) else 0
theorem gl_range {L : List Int} (hg : good L) (k : Nat) : 0 ≤ (gl (L.take k) 0 0).1 ∧ 0 ≤ (gl (L.take k) 0 0).2 ∧ (gl (L.take k) 0 0).1 + (gl (L.take k) 0 0).2 ≤ 60 * L.length := by
  obtain ⟨p, h1, h2, h3⟩ := gl_sub (L.take k) 0 0
  have h4 := subS_bd (good_take hg k) h1
  have h5 := tot_bd (good_take hg k)
  have h6 : (L.take k).length ≤ L.length := by rw [List.length_take]; omega
  rw [h2, h3]; omega

end Go.Proofs.Ytacedadenbinmaa
namespace Go.Proofs.Ytacedadenbinmaa
def insAt (L : List Int) (j : Nat) (x : Int) : List Int := L.take j ++ [x] ++ L.drop j
theorem insAt_length {L : List Int} {j k : Nat} (hL : L.length = k) (hj : j ≤ k) (x : Int) : (insAt L j x).length = k + 1 := by
  simp [insAt]; omega
theorem insAt_perm {L M : List Int} (h : L.Perm M) (j : Nat) (x : Int) : (insAt L j x).Perm (M ++ [x]) := by
  have h1 : (insAt L j x).Perm (x :: L) := by
    rw [insAt, List.append_assoc]
    have := List.perm_middle (a := x) (l₁ := L.take j) (l₂ := L.drop j)
    rwa [List.take_append_drop] at this
  exact (h1.trans (.cons x h)).trans (List.perm_append_singleton x M).symm
theorem insAt_get {L : List Int} {j k : Nat} (hL : L.length = k) (hj : j ≤ k) (x : Int) (t : Nat) (ht : t < k + 1) : (insAt L j x)[t]?.getD 0 = if t < j then L[t]?.getD 0 else if t = j then x else L[t - 1]?.getD 0 := by
  have hl : (L.take j).length = j := by rw [List.length_take]; omega
  rw [insAt, List.append_assoc]
  by_cases h1 : t < j
  · rw [if_pos h1, List.getElem?_append_left (by omega), List.getElem?_take, if_pos h1]
  · rw [if_neg h1, List.getElem?_append_right (by omega), hl]
    by_cases h2 : t = j
    · subst h2; rw [if_pos rfl, Nat.sub_self]; rfl
    · obtain ⟨d, hd⟩ : ∃ d, t - j = d + 1 := ⟨t - j - 1, by omega⟩
      rw [if_neg h2, hd]
      show (L.drop j)[d]?.getD 0 = _
      rw [List.getElem?_drop]
      congr 2
      omega
theorem insAt_ord {L : List Int} {j k : Nat} {x : Int} (hL : L.length = k) (hj : j ≤ k) (h : InOrd (fun a b => a ≤ b) L k) (h1 : ∀ t, j ≤ t → t < k → x < L[t]?.getD 0) (h2 : j = 0 ∨ L[j - 1]?.getD 0 ≤ x) : InOrd (fun a b => a ≤ b) (insAt L j x) (k + 1) := fun p q hpq hq => by
  show (insAt L j x)[p]?.getD 0 ≤ (insAt L j x)[q]?.getD 0
  rw [insAt_get hL hj x p (by omega), insAt_get hL hj x q (by omega)]
  have hlow : ∀ t, t < j → L[t]?.getD 0 ≤ x := fun t ht => by
    rcases h2 with h2 | h2
    · omega
    · by_cases e : t = j - 1
      · subst e; exact h2
      · have : L[t]?.getD 0 ≤ L[j - 1]?.getD 0 := h t (j - 1) (by omega) (by omega)
        omega
  have hh : ∀ a b, a < b → b < k → L[a]?.getD 0 ≤ L[b]?.getD 0 := fun a b hab hb => h a b hab hb
  by_cases a1 : p < j
  · rw [if_pos a1]
    by_cases b1 : q < j
    · rw [if_pos b1]; exact hh _ _ hpq (by omega)
    · rw [if_neg b1]
      by_cases b2 : q = j
      · rw [if_pos b2]; exact hlow p a1
      · rw [if_neg b2]; exact hh _ _ (by omega) (by omega)
  · rw [if_neg a1, if_neg (show ¬ q < j by omega)]
    by_cases a2 : p = j
    · rw [if_pos a2, if_neg (show ¬ q = j by omega)]
      have := h1 (q - 1) (by omega) (by omega); omega
    · rw [if_neg a2, if_neg (show ¬ q = j by omega)]
      exact hh _ _ (by omega) (by omega)
end Go.Proofs.Ytacedadenbinmaa
namespace Go.Proofs.Ytacedadenbinmaa
theorem ord_rev2 {zs L : List Int} (hp : L.Perm zs) (h : InOrd (fun a b => a ≤ b) L L.length) : L.reverse = sortD zs := by
  refine sortD_is ?_ ((List.reverse_perm L).trans hp)
  rw [List.pairwise_reverse]
  exact inOrd_pair h
theorem last2 {L : List Int} {n : Nat} (hn : L.length = n) (h2 : 2 ≤ n) : L = L.take (n - 2) ++ [L[n - 2]?.getD 0, L[n - 1]?.getD 0] := by
  have h := List.take_append_drop (n - 2) L
  have hd : L.drop (n - 2) = [L[n - 2]?.getD 0, L[n - 1]?.getD 0] := by
    rw [List.drop_eq_getElem_cons (by omega), List.drop_eq_getElem_cons (by omega), List.drop_of_length_le (by omega), List.getElem?_eq_getElem (by omega), List.getElem?_eq_getElem (by omega)]
    simp only [Option.getD_some]
    congr 2
    simp [show n - 2 + 1 = n - 1 by omega]
  rw [← hd]; exact h.symm
/-- the reference's step, from a rising list's end -/
theorem df_step {L M : List Int} {n : Nat} {x y : Int} (hn : L.length = n) (h2 : 2 ≤ n) (hx : L[n - 1]?.getD 0 = x) (hy : L[n - 2]?.getD 0 = y) (hM : M.Perm (L.take (n - 2) ++ [x - y])) (hO : InOrd (fun a b => a ≤ b) M M.length) : diffs n L.reverse = diffs (n - 1) M.reverse := by
  have hl := last2 hn h2
  rw [hx, hy] at hl
  rw [ord_rev2 hM hO]
  have h3 : L.reverse = x :: y :: (L.take (n - 2)).reverse := by
    conv => lhs; rw [hl]
    simp
  obtain ⟨m, rfl⟩ : ∃ m, n = m + 1 := ⟨n - 1, by omega⟩
  rw [h3, diffs, Nat.add_sub_cancel]
  congr 1
  refine sortD_congr ?_
  refine (List.Perm.cons _ (List.reverse_perm _)).trans ?_
  exact (List.perm_append_comm (l₁ := [x - y]))
theorem df_mem {L M : List Int} {n : Nat} {x y : Int} (hn : L.length = n) (h2 : 2 ≤ n) (hx : L[n - 1]?.getD 0 = x) (hy : L[n - 2]?.getD 0 = y) (hL : InOrd (fun a b => a ≤ b) L n) (hb : ∀ z ∈ L, 0 ≤ z ∧ z ≤ 60) (hM : M.Perm (L.take (n - 2) ++ [x - y])) : (0 ≤ y ∧ y ≤ x ∧ x ≤ 60) ∧ M.length = n - 1 ∧ ∀ z ∈ M, 0 ≤ z ∧ z ≤ 60 := by
  have h1 : y ≤ x := by rw [← hx, ← hy]; exact hL (n - 2) (n - 1) (by omega) (by omega)
  have hxm : x ∈ L := by rw [← hx, List.getElem?_eq_getElem (by omega)]; exact List.getElem_mem _
  have hym : y ∈ L := by rw [← hy, List.getElem?_eq_getElem (by omega)]; exact List.getElem_mem _
  have b1 := hb x hxm
  have b2 := hb y hym
  refine ⟨⟨b2.1, h1, b1.2⟩, ?_, fun z hz => ?_⟩
  · rw [hM.length_eq, List.length_append, List.length_take]; simp; omega
  · rcases List.mem_append.1 (hM.subset hz) with h | h
    · exact hb z (List.mem_of_mem_take h)
    · simp at h; omega
/-- the program's step, from a falling list's head -/
theorem df_stepD {L : List Int} {n : Nat} {x y : Int} (hn : L.length = n) (h2 : 2 ≤ n) (hx : L[0]?.getD 0 = x) (hy : L[1]?.getD 0 = y) : diffs n L = diffs (n - 1) (sortD (L.drop 2 ++ [x - y])) := by
  match L, hn, hx, hy with
  | [], hn, _, _ => simp at hn; omega
  | [_], hn, _, _ => simp at hn; omega
  | u :: v :: r, hn, hx, hy =>
    simp at hx hy
    subst hx; subst hy
    obtain ⟨m, rfl⟩ : ∃ m, n = m + 1 := ⟨n - 1, by omega⟩
    rw [diffs, Nat.add_sub_cancel]
    congr 1
    exact sortD_congr (List.perm_append_comm (l₁ := [u - v]))
theorem df_memD {L : List Int} {n : Nat} {x y : Int} (hn : L.length = n) (h2 : 2 ≤ n) (hx : L[0]?.getD 0 = x) (hy : L[1]?.getD 0 = y) (hL : L.Pairwise (fun a b => b ≤ a)) (hb : ∀ z ∈ L, 0 ≤ z ∧ z ≤ 60) : (0 ≤ y ∧ y ≤ x ∧ x ≤ 60) ∧ (L.drop 2 ++ [x - y]).length = n - 1 ∧ ∀ z ∈ sortD (L.drop 2 ++ [x - y]), 0 ≤ z ∧ z ≤ 60 := by
  match L, hn, hx, hy with
  | [], hn, _, _ => simp at hn; omega
  | [_], hn, _, _ => simp at hn; omega
  | u :: v :: r, hn, hx, hy =>
    simp at hx hy
    subst hx; subst hy
    have h1 := (List.pairwise_cons.1 hL).1 v (List.mem_cons_self ..)
    have b1 := hb u (List.mem_cons_self ..)
    have b2 := hb v (List.mem_cons_of_mem _ (List.mem_cons_self ..))
    refine ⟨⟨b2.1, h1, b1.2⟩, by simp at hn ⊢; omega, fun z hz => ?_⟩
    have := (sortD_perm _).subset hz
    rcases List.mem_append.1 this with h | h
    · exact hb z (List.mem_of_mem_drop h)
    · simp at h; omega
/-- the answer of HalfDifferences -/
def dR (zs : List Int) : Int := if inL zs = true then dfR zs else 0
theorem diffs_nil : diffs 0 [] = 0 := rfl
theorem diffs_one (x : Int) : diffs 1 [x] = x := rfl
end Go.Proofs.Ytacedadenbinmaa
namespace Go.Proofs.Ytacedadenbinmaa
open Go.RowKit

theorem ints_new1 (W : World) (x : Int) : IntsAt (W.alloc (.cells #[.int .i64 x] 3)) (some ⟨W.heap.size, 0, none⟩) [x] := by
  refine .inr ⟨W.heap.size, 0, rfl, by simp, fun t ht => ?_⟩
  obtain rfl : t = 0 := by simp at ht; exact ht
  have h := heap_alloc_new W (.cells #[.int .i64 x] 3)
  simp only [World.cell?, h]
  rfl
theorem ints_grownW {W W' : World} {row : Option Nat} {b : Nat} {x : Int} (h : IntsAt W (some ⟨b, 0, none⟩) [x]) (hG : W.grownBy W' row) (hr : row ≠ some b) : IntsAt W' (some ⟨b, 0, none⟩) [x] := by
  obtain ⟨b', o', he, hb, hc⟩ := h.at (by simp)
  simp only [Option.some.injEq, Addr.mk.injEq, and_true] at he
  obtain ⟨rfl, rfl⟩ := he
  refine .inr ⟨b, 0, rfl, Nat.lt_of_lt_of_le hb hG.size, fun t ht => ?_⟩
  have h1 := hc t ht
  simp only [World.cell?] at h1 ⊢
  rw [hG.block b hb (fun e => hr e.symm)]
  exact h1
theorem below_grown {B : Nat} {w W W' : World} {v : Value} {base : Nat} {zs : List Int} (h : Below B w W) (hO : OwnI W base v zs) (hb : B ≤ base) (hG : W.grownBy W' v.ownBlock) (hBW : B ≤ W.heap.size) : Below B w W' :=
  h.grown hG hBW (fun k hk => Nat.le_trans hb (hO.lt k hk).1)

set_option maxRecDepth 100000 in
set_option maxHeartbeats 3200000 in
theorem l1Sorted_any (a : Option Addr) (cap : Nat) (zs : List Int) (w : World) (hl : zs.length ≤ 12) (hI : IntsAt w a zs) :
    Calls Try.prog 75 #[.slice a zs.length cap] w fun e w' => ∃ v L, e = .returned v ∧ Hid (L.Perm zs) ∧ Hid (InOrd (fun a b => a ≤ b) L L.length) ∧ OwnI w' w.heap.size v L ∧ Below w.heap.size w w' := by
  have HO : OwnI (w.alloc (.cells #[] 3)) w.heap.size (.slice (some ⟨w.heap.size, 0, none⟩) 0 0) [] := World.ownsRow_lit w #[] 0 (Nat.le_refl _) (by unfold maxLen; omega) (by simp)
  go_enter Try.func75, Try.ntmps75
  go_wp2
  go_loopw [3, 4] (fun v i wr => ∃ (k g cp : Nat) (L : List Int), k ≤ zs.length ∧ i = .int .i64 k ∧ v = .slice (some ⟨g, 0, none⟩) k cp ∧ Hid (L.length = k) ∧ Hid (L.Perm (zs.take k)) ∧ Hid (InOrd (fun a b => a ≤ b) L k) ∧ OwnI wr w.heap.size (.slice (some ⟨g, 0, none⟩) k cp) L ∧ Below w.heap.size w wr) (fun _ i _ => zs.length - (intOf i).toNat)
  case atStart => exact ⟨0, w.heap.size, 0, [], Nat.zero_le _, rfl, rfl, rfl, List.Perm.refl _, (fun p q h1 h2 => by omega), HO, (Below.refl _ _).alloc (Nat.le_refl _) _⟩
  case round =>
    obtain ⟨k, g, cp, L, hk, rfl, rfl, HL, HP, HI, hO, hB⟩ := hrel
    clear HO
    by_cases hlt : k < zs.length
    · obtain ⟨b, off, rfl, hbb, hcell⟩ := (hI.below hB).at (by omega)
      have hx := hcell k hlt
      obtain ⟨x, hxv⟩ : ∃ x, zs[k]?.getD 0 = x := ⟨_, rfl⟩
      rw [hxv] at hx
      have HXV := Lib.hid hxv
      clear hcell hxv
      go_wp2
      go_loopw [5] (fun v wr' => ∃ (j m : Nat), j ≤ k ∧ v = .int .i64 j ∧ Hid (∀ t, j ≤ t → t < k → x < L[t]?.getD 0) ∧ wr' = wr.drewN m) (fun v _ => (intOf v).toNat)
      case atStart => exact ⟨k, 0, by omega, rfl, fun t h1 h2 => by omega, rfl⟩
      case round =>
        obtain ⟨j, m, hj, rfl, HG, rfl⟩ := hrel
        have hx' : (wr.drewN m).cell? ⟨b, off + k, none⟩ = some (.int .i64 x) := hx
        by_cases hj0 : 0 < j
        · obtain ⟨g', cp', he, _, hgl, hcell⟩ := hO.at (by have := HL.out; omega)
          simp only [Value.slice.injEq, Option.some.injEq, Addr.mk.injEq, and_true] at he
          obtain ⟨rfl, hq1, hq2⟩ := he
          clear hq1 hq2
          have hy := (hcell (j - 1) (by have := HL.out; omega)).1
          obtain ⟨y, hyv⟩ : ∃ y, L[j - 1]?.getD 0 = y := ⟨_, rfl⟩
          rw [hyv] at hy
          have HYV := Lib.hid hyv
          clear hcell hyv
          by_cases hxy : x < y
          · have HG2 : Hid (∀ t, j - 1 ≤ t → t < k → x < L[t]?.getD 0) := fun t h1 h2 => by
              by_cases e : t = j - 1
              · subst e; rw [HYV.out]; exact hxy
              · exact HG.out t (by omega) h2
            go_wp2_with fail
            go_quiet (fail)
            go_wp2
            go_roundw
            case rel => exact ⟨j - 1, m + nq, by omega, congrArg (Value.int .i64) (by omega), HG2, by simp⟩
            case measure => simp [intOf]; omega
          · have hxy2 : y ≤ x := by omega
            have HST : Hid (j = 0 ∨ L[j - 1]?.getD 0 ≤ x) := by show _ ∨ _; rw [HYV.out]; exact .inr hxy2
            have HPm : Hid ((insAt L j x).Perm (zs.take (k + 1))) := by
              show List.Perm _ _
              rw [take_snoc zs k hlt, HXV.out]
              exact insAt_perm HP.out j x
            go_wp2_with fail
            go_quiet (fail)
            go_wp2_with fail
            obtain ⟨g', cp', he, _, hgl, hcell⟩ := hO.at (by have := HL.out; omega)
            simp only [Value.slice.injEq, Option.some.injEq, Addr.mk.injEq, and_true] at he
            obtain ⟨rfl, hq1, hq2⟩ := he
            have hcap : k ≤ cp := by
              obtain ⟨a', c', he, _, hc⟩ := hO.shape
              simp only [Value.slice.injEq] at he
              have := HL.out
              omega
            clear hq1 hq2
            have hjc : j ≤ cp := by omega
            have HL1 : Hid ((L.take j).length = j) := by show _ = _; rw [List.length_take]; have := HL.out; omega
            have HL2 : Hid ((L.drop j).length = k - j) := by show _ = _; rw [List.length_drop, HL.out]
            have HIL : IntsAt wr (some ⟨g, 0, none⟩) L := hO.ints
            have HI1 : Hid (IntsAt wr (some ⟨g, 0, none⟩) (L.take j)) := .inr ⟨g, 0, rfl, hgl, fun t ht => by
              have := HL1.out
              rw [List.getElem?_take, if_pos (by omega), Nat.zero_add]
              exact (hcell t (by have := HL.out; omega)).1⟩
            obtain ⟨A, hA, hI2⟩ : ∃ A, (if cp = j then some (⟨g, 0, none⟩ : Addr) else some ⟨g, j, none⟩) = some A ∧ IntsAt wr (some A) (L.drop j) := by
              by_cases e : cp = j
              · refine ⟨⟨g, 0, none⟩, if_pos e, .inl (List.eq_nil_of_length_eq_zero ?_)⟩
                have := HL2.out; omega
              · refine ⟨⟨g, j, none⟩, if_neg e, .inr ⟨g, j, rfl, hgl, fun t ht => ?_⟩⟩
                rw [List.getElem?_drop]
                exact (hcell (j + t) (by have := HL.out; have := HL2.out; omega)).1
            have HI2 := Lib.hid hI2
            clear hI2 hcell
            have hjk : j ≤ k := hj
            have HLn := HL
            have hLz : (L.take j).length ≤ 1000000 := by rw [HL1.out]; omega
            have hLz2 : (L.take j ++ [x]).length ≤ 1000000 := by rw [List.length_append, HL1.out]; simp; omega
            have hLz3 : (L.drop j).length ≤ 1000000 := by rw [HL2.out]; omega
            have own0 : ∀ q, OwnI ((wr.drewN q).alloc (.cells #[] 3)) wr.heap.size (.slice (some ⟨wr.heap.size, 0, none⟩) 0 0) [] := fun q => World.ownsRow_lit (wr.drewN q) #[] 0 (Nat.le_refl _) (by unfold maxLen; omega) (by simp)
            have bel0 : ∀ q, Below wr.heap.size wr ((wr.drewN q).alloc (.cells #[] 3)) := fun q => (belowDr (Below.refl _ wr) q).alloc (Nat.le_refl _) _
            have OWN0 := Lib.hid own0
            have BEL0 := Lib.hid bel0
            clear own0 bel0
            have OWNX : Hid (∀ q, OwnI (((wr.drewN q).alloc (.cells #[.int .i64 x] 3)).alloc (.cells #[] 3)) wr.heap.size (.slice (some ⟨wr.heap.size + 1, 0, none⟩) 0 0) []) := fun q => by
              have := World.ownsRow_lit (base := wr.heap.size) (e := 3) (size := 1) ((wr.drewN q).alloc (.cells #[.int .i64 x] 3)) #[] 0 (by simp) (by unfold maxLen; omega) (by simp)
              unfold OwnI
              simpa using this
            have BELX : Hid (∀ q, Below wr.heap.size wr (((wr.drewN q).alloc (.cells #[.int .i64 x] 3)).alloc (.cells #[] 3))) := fun q => ((belowDr (Below.refl _ wr) q).alloc (Nat.le_refl _) _).alloc (by simp) _
            have HNX : Hid (∀ q, IntsAt (((wr.drewN q).alloc (.cells #[.int .i64 x] 3)).alloc (.cells #[] 3)) (some ⟨wr.heap.size, 0, none⟩) [x]) := fun q => (ints_new1 (wr.drewN q) x).below ((Below.refl _ _).alloc (Nat.le_refl _) _)
            have hx0 : ∀ q, ((wr.drewN q).alloc (.cells #[] 3)).cell? ⟨b, off + k, none⟩ = some (.int .i64 x) := fun q => ((BEL0.out q).cell (p := ⟨b, off + k, none⟩) hbb).trans hx
            have HN1 : Hid (∀ q, IntsAt (((wr.drewN q).alloc (.cells #[] 3)).alloc (.cells #[.int .i64 x] 3)) (some ⟨wr.heap.size + 1, 0, none⟩) [x]) := fun q => by have := ints_new1 ((wr.drewN q).alloc (.cells #[] 3)) x; simpa using this
            go_region_law (first
              | (refine stepSl rfl (.tmp 31) (.tmp 34) rfl wr.heap.size (.slice (some ⟨wr.heap.size, 0, none⟩) 0 0) [] (L.take j) ⟨g, 0, none⟩ j cp (by simp [Act.eval, Act.put]) (by simp [Act.eval, Act.put]) HL1.out (OWN0.out _) (by simp) hLz (HI1.out.below (BEL0.out _)) (BEL0.out _).size ?_; intro v1 W1 hO1 hG1 hat1; have hb1 : Below wr.heap.size wr W1 := below_grown (BEL0.out _) (OWN0.out _) (Nat.le_refl _) hG1 (BEL0.out _).size; have hx1 : W1.cell? ⟨b, off + k, none⟩ = some (.int .i64 x) := (hb1.cell (p := ⟨b, off + k, none⟩) hbb).trans hx)
              | (refine stepSl rfl (.tmp 35) (.tmp 40) rfl wr.heap.size v1 (L.take j) [x] ⟨W1.heap.size, 0, none⟩ 1 1 (by simp [Act.eval, Act.put]) (by simp [Act.eval, Act.put]) rfl (hO1.alloc _) hLz (by simp) (ints_new1 W1 x) (by have := hb1.size; simp; omega) ?_; intro v2 W2 hO2 hG2 hat2; have hb2 : Below wr.heap.size wr W2 := below_grown (hb1.alloc hb1.size _) (hO1.alloc _) (Nat.le_refl _) hG2 (by have := hb1.size; simp; omega))
              | (refine stepSl rfl (.tmp 31) (.tmp 34) rfl wr.heap.size (.slice (some ⟨wr.heap.size, 0, none⟩) 0 0) [] (L.take j) ⟨g, 0, none⟩ j cp (by simp [Act.eval, Act.put]) (by simp [Act.eval, Act.put]) HL1.out ((OWN0.out _).alloc _) (by simp) hLz (HI1.out.below ((BEL0.out _).alloc (BEL0.out _).size _)) ((BEL0.out _).alloc (BEL0.out _).size _).size ?_; intro v1 W1 hO1 hG1 hat1; have hb1 : Below wr.heap.size wr W1 := below_grown ((BEL0.out _).alloc (BEL0.out _).size _) ((OWN0.out _).alloc _) (Nat.le_refl _) hG1 ((BEL0.out _).alloc (BEL0.out _).size _).size; have hN : IntsAt W1 (some ⟨wr.heap.size + 1, 0, none⟩) [x] := ints_grownW (HN1.out _) hG1 (by simp [Value.ownBlock]))
              | (refine stepSl rfl (.tmp 35) (.tmp 40) rfl wr.heap.size v1 (L.take j) [x] ⟨wr.heap.size + 1, 0, none⟩ 1 1 (by simp [Act.eval, Act.put]) (by simp [Act.eval, Act.put]) rfl hO1 hLz (by simp) hN hb1.size ?_; intro v2 W2 hO2 hG2 hat2; have hb2 : Below wr.heap.size wr W2 := below_grown hb1 hO1 (Nat.le_refl _) hG2 hb1.size)
              | (refine stepSl rfl (.tmp 31) (.tmp 34) rfl wr.heap.size (.slice (some ⟨wr.heap.size + 1, 0, none⟩) 0 0) [] (L.take j) ⟨g, 0, none⟩ j cp (by simp [Act.eval, Act.put]) (by simp [Act.eval, Act.put]) HL1.out (OWNX.out _) (by simp) hLz (HI1.out.below (BELX.out _)) (BELX.out _).size ?_; intro v1 W1 hO1 hG1 hat1; have hb1 : Below wr.heap.size wr W1 := below_grown (BELX.out _) (OWNX.out _) (Nat.le_refl _) hG1 (BELX.out _).size; have hN : IntsAt W1 (some ⟨wr.heap.size, 0, none⟩) [x] := ints_grownW (HNX.out _) hG1 (by simp [Value.ownBlock]))
              | (refine stepSl rfl (.tmp 35) (.tmp 40) rfl wr.heap.size v1 (L.take j) [x] ⟨wr.heap.size, 0, none⟩ 1 1 (by simp [Act.eval, Act.put]) (by simp [Act.eval, Act.put]) rfl hO1 hLz (by simp) hN hb1.size ?_; intro v2 W2 hO2 hG2 hat2; have hb2 : Below wr.heap.size wr W2 := below_grown hb1 hO1 (Nat.le_refl _) hG2 hb1.size)
              | (refine stepSl rfl (.tmp 41) (.tmp 44) rfl wr.heap.size v2 (L.take j ++ [x]) (L.drop j) A (k - j) (cp - j) (by simp [Act.eval, Act.put]) (by simp [Act.eval, Act.put]) HL2.out hO2 hLz2 hLz3 (HI2.out.below hb2) hb2.size ?_; intro v3 W3 hO3 hG3 hat3; have hb3 : Below wr.heap.size wr W3 := below_grown hb2 hO2 (Nat.le_refl _) hG3 hb2.size))
            all_goals
              obtain ⟨g3, c3, rfl, _, _, _⟩ := hO3.at (by simp; omega)
              have hl3 : (L.take j ++ [x] ++ L.drop j).length = k + 1 := insAt_length HL.out hj x
              rw [hl3] at hO3 ⊢
              have HO3 := Lib.hid hO3
              clear hO3 hl3 hat1 hat2 hat3
              go_wp2
              go_roundw
              case rel => exact ⟨k + 1, g3, c3, insAt L j x, by omega, by go_num, rfl, insAt_length HL.out hj x, HPm.out, insAt_ord HL.out hj HI.out HG.out HST.out, HO3.out.mono hB.size, hB.trans (hb3.mono hB.size)⟩
              case measure => simp [intOf]; omega
        · have HST : Hid (j = 0 ∨ L[j - 1]?.getD 0 ≤ x) := .inl (by omega)
          have HPm : Hid ((insAt L j x).Perm (zs.take (k + 1))) := by
            show List.Perm _ _
            rw [take_snoc zs k hlt, HXV.out]
            exact insAt_perm HP.out j x
          go_wp2_with fail
          go_quiet (fail)
          go_wp2_with fail
          have hcap : k ≤ cp := by
            obtain ⟨a', c', he, _, hc⟩ := hO.shape
            simp only [Value.slice.injEq] at he
            have := HL.out
            omega
          have hjc : j ≤ cp := by omega
          have HL1 : Hid ((L.take j).length = j) := by show _ = _; rw [List.length_take]; have := HL.out; omega
          have HL2 : Hid ((L.drop j).length = k - j) := by show _ = _; rw [List.length_drop, HL.out]
          have HIL : IntsAt wr (some ⟨g, 0, none⟩) L := hO.ints
          have HI1 : Hid (IntsAt wr (some ⟨g, 0, none⟩) (L.take j)) := .inl (List.eq_nil_of_length_eq_zero (by have := HL1.out; omega))
          obtain ⟨A, hA, hI2⟩ : ∃ A, (if cp = j then some (⟨g, 0, none⟩ : Addr) else some ⟨g, j, none⟩) = some A ∧ IntsAt wr (some A) (L.drop j) := by
            by_cases e : cp = j
            · refine ⟨⟨g, 0, none⟩, if_pos e, .inl (List.eq_nil_of_length_eq_zero ?_)⟩
              have := HL2.out; omega
            · refine ⟨⟨g, j, none⟩, if_neg e, ?_⟩
              have e0 : j = 0 := by omega
              rw [e0, List.drop_zero]; exact HIL
          have HI2 := Lib.hid hI2
          clear hI2
          have hjk : j ≤ k := hj
          have HLn := HL
          have hLz : (L.take j).length ≤ 1000000 := by rw [HL1.out]; omega
          have hLz2 : (L.take j ++ [x]).length ≤ 1000000 := by rw [List.length_append, HL1.out]; simp; omega
          have hLz3 : (L.drop j).length ≤ 1000000 := by rw [HL2.out]; omega
          have own0 : ∀ q, OwnI ((wr.drewN q).alloc (.cells #[] 3)) wr.heap.size (.slice (some ⟨wr.heap.size, 0, none⟩) 0 0) [] := fun q => World.ownsRow_lit (wr.drewN q) #[] 0 (Nat.le_refl _) (by unfold maxLen; omega) (by simp)
          have bel0 : ∀ q, Below wr.heap.size wr ((wr.drewN q).alloc (.cells #[] 3)) := fun q => (belowDr (Below.refl _ wr) q).alloc (Nat.le_refl _) _
          have OWN0 := Lib.hid own0
          have BEL0 := Lib.hid bel0
          clear own0 bel0
          have OWNX : Hid (∀ q, OwnI (((wr.drewN q).alloc (.cells #[.int .i64 x] 3)).alloc (.cells #[] 3)) wr.heap.size (.slice (some ⟨wr.heap.size + 1, 0, none⟩) 0 0) []) := fun q => by
            have := World.ownsRow_lit (base := wr.heap.size) (e := 3) (size := 1) ((wr.drewN q).alloc (.cells #[.int .i64 x] 3)) #[] 0 (by simp) (by unfold maxLen; omega) (by simp)
            unfold OwnI
            simpa using this
          have BELX : Hid (∀ q, Below wr.heap.size wr (((wr.drewN q).alloc (.cells #[.int .i64 x] 3)).alloc (.cells #[] 3))) := fun q => ((belowDr (Below.refl _ wr) q).alloc (Nat.le_refl _) _).alloc (by simp) _
          have HNX : Hid (∀ q, IntsAt (((wr.drewN q).alloc (.cells #[.int .i64 x] 3)).alloc (.cells #[] 3)) (some ⟨wr.heap.size, 0, none⟩) [x]) := fun q => (ints_new1 (wr.drewN q) x).below ((Below.refl _ _).alloc (Nat.le_refl _) _)
          have hx0 : ∀ q, ((wr.drewN q).alloc (.cells #[] 3)).cell? ⟨b, off + k, none⟩ = some (.int .i64 x) := fun q => ((BEL0.out q).cell (p := ⟨b, off + k, none⟩) hbb).trans hx
          have HN1 : Hid (∀ q, IntsAt (((wr.drewN q).alloc (.cells #[] 3)).alloc (.cells #[.int .i64 x] 3)) (some ⟨wr.heap.size + 1, 0, none⟩) [x]) := fun q => by have := ints_new1 ((wr.drewN q).alloc (.cells #[] 3)) x; simpa using this
          go_region_law (first
            | (refine stepSl rfl (.tmp 31) (.tmp 34) rfl wr.heap.size (.slice (some ⟨wr.heap.size, 0, none⟩) 0 0) [] (L.take j) ⟨g, 0, none⟩ j cp (by simp [Act.eval, Act.put]) (by simp [Act.eval, Act.put]) HL1.out (OWN0.out _) (by simp) hLz (HI1.out.below (BEL0.out _)) (BEL0.out _).size ?_; intro v1 W1 hO1 hG1 hat1; have hb1 : Below wr.heap.size wr W1 := below_grown (BEL0.out _) (OWN0.out _) (Nat.le_refl _) hG1 (BEL0.out _).size; have hx1 : W1.cell? ⟨b, off + k, none⟩ = some (.int .i64 x) := (hb1.cell (p := ⟨b, off + k, none⟩) hbb).trans hx)
            | (refine stepSl rfl (.tmp 35) (.tmp 40) rfl wr.heap.size v1 (L.take j) [x] ⟨W1.heap.size, 0, none⟩ 1 1 (by simp [Act.eval, Act.put]) (by simp [Act.eval, Act.put]) rfl (hO1.alloc _) hLz (by simp) (ints_new1 W1 x) (by have := hb1.size; simp; omega) ?_; intro v2 W2 hO2 hG2 hat2; have hb2 : Below wr.heap.size wr W2 := below_grown (hb1.alloc hb1.size _) (hO1.alloc _) (Nat.le_refl _) hG2 (by have := hb1.size; simp; omega))
            | (refine stepSl rfl (.tmp 31) (.tmp 34) rfl wr.heap.size (.slice (some ⟨wr.heap.size, 0, none⟩) 0 0) [] (L.take j) ⟨g, 0, none⟩ j cp (by simp [Act.eval, Act.put]) (by simp [Act.eval, Act.put]) HL1.out ((OWN0.out _).alloc _) (by simp) hLz (HI1.out.below ((BEL0.out _).alloc (BEL0.out _).size _)) ((BEL0.out _).alloc (BEL0.out _).size _).size ?_; intro v1 W1 hO1 hG1 hat1; have hb1 : Below wr.heap.size wr W1 := below_grown ((BEL0.out _).alloc (BEL0.out _).size _) ((OWN0.out _).alloc _) (Nat.le_refl _) hG1 ((BEL0.out _).alloc (BEL0.out _).size _).size; have hN : IntsAt W1 (some ⟨wr.heap.size + 1, 0, none⟩) [x] := ints_grownW (HN1.out _) hG1 (by simp [Value.ownBlock]))
            | (refine stepSl rfl (.tmp 35) (.tmp 40) rfl wr.heap.size v1 (L.take j) [x] ⟨wr.heap.size + 1, 0, none⟩ 1 1 (by simp [Act.eval, Act.put]) (by simp [Act.eval, Act.put]) rfl hO1 hLz (by simp) hN hb1.size ?_; intro v2 W2 hO2 hG2 hat2; have hb2 : Below wr.heap.size wr W2 := below_grown hb1 hO1 (Nat.le_refl _) hG2 hb1.size)
            | (refine stepSl rfl (.tmp 31) (.tmp 34) rfl wr.heap.size (.slice (some ⟨wr.heap.size + 1, 0, none⟩) 0 0) [] (L.take j) ⟨g, 0, none⟩ j cp (by simp [Act.eval, Act.put]) (by simp [Act.eval, Act.put]) HL1.out (OWNX.out _) (by simp) hLz (HI1.out.below (BELX.out _)) (BELX.out _).size ?_; intro v1 W1 hO1 hG1 hat1; have hb1 : Below wr.heap.size wr W1 := below_grown (BELX.out _) (OWNX.out _) (Nat.le_refl _) hG1 (BELX.out _).size; have hN : IntsAt W1 (some ⟨wr.heap.size, 0, none⟩) [x] := ints_grownW (HNX.out _) hG1 (by simp [Value.ownBlock]))
            | (refine stepSl rfl (.tmp 35) (.tmp 40) rfl wr.heap.size v1 (L.take j) [x] ⟨wr.heap.size, 0, none⟩ 1 1 (by simp [Act.eval, Act.put]) (by simp [Act.eval, Act.put]) rfl hO1 hLz (by simp) hN hb1.size ?_; intro v2 W2 hO2 hG2 hat2; have hb2 : Below wr.heap.size wr W2 := below_grown hb1 hO1 (Nat.le_refl _) hG2 hb1.size)
            | (refine stepSl rfl (.tmp 41) (.tmp 44) rfl wr.heap.size v2 (L.take j ++ [x]) (L.drop j) A (k - j) (cp - j) (by simp [Act.eval, Act.put]) (by simp [Act.eval, Act.put]) HL2.out hO2 hLz2 hLz3 (HI2.out.below hb2) hb2.size ?_; intro v3 W3 hO3 hG3 hat3; have hb3 : Below wr.heap.size wr W3 := below_grown hb2 hO2 (Nat.le_refl _) hG3 hb2.size))
          all_goals
            obtain ⟨g3, c3, rfl, _, _, _⟩ := hO3.at (by simp; omega)
            have hl3 : (L.take j ++ [x] ++ L.drop j).length = k + 1 := insAt_length HL.out hj x
            rw [hl3] at hO3 ⊢
            have HO3 := Lib.hid hO3
            clear hO3 hl3 hat1 hat2 hat3
            go_wp2
            go_roundw
            case rel => exact ⟨k + 1, g3, c3, insAt L j x, by omega, by go_num, rfl, insAt_length HL.out hj x, HPm.out, insAt_ord HL.out hj HI.out HG.out HST.out, HO3.out.mono hB.size, hB.trans (hb3.mono hB.size)⟩
            case measure => simp [intOf]; omega
    · obtain rfl : k = zs.length := by omega
      have H1 : Hid (InOrd (fun a b => a ≤ b) L L.length) := by show InOrd _ L L.length; rw [HL.out]; exact HI.out
      have H2 : Hid (L.Perm zs) := by have := HP.out; rwa [List.take_length] at this
      go_wp2
      go_ret
      exact ⟨_, L, rfl, H2, H1, hO, hB⟩
end Go.Proofs.Ytacedadenbinmaa
namespace Go.Proofs.Ytacedadenbinmaa
open Go.RowKit

theorem ord_rev {zs L : List Int} (hp : L.Perm zs) (h : InOrd (fun a b => a ≤ b) L L.length) : L.reverse = sortD zs := by
  refine sortD_is ?_ ((List.reverse_perm L).trans hp)
  rw [List.pairwise_reverse]
  exact inOrd_pair h
theorem rev_get (L : List Int) (m : Nat) (hm : m < L.length) : L.reverse[L.length - (m + 1)]?.getD 0 = L[m]?.getD 0 := by
  rw [List.getElem?_reverse (by omega), show L.length - 1 - (L.length - (m + 1)) = m by omega]

end Go.Proofs.Ytacedadenbinmaa
namespace Go.Proofs.Ytacedadenbinmaa
open Go.RowKit

def slLenF : Value → Nat
  | .slice _ l _ => l
  | _ => 0

/-- the call of l1Sorted as one step of a region that draws -/
theorem stepSorted {ops : Array Oper} {o : Oper} {a : Act} {w : World} {K : Act → World → Prop} {Q : Exit → Act → World → Prop} {E : Prop}
    (hg : o.guard = none) (x : Operand) (hop : o.op = Op.call { callee := Callee.value (Operand.func 75), args := #[x], argTypes := #[22] })
    (v : Value) (hx : a.eval x = v) {R : Ending → World → Prop} (hC : Calls Try.prog 75 #[v] w R) (hR : ∀ e w', R e w' → ∃ u, e = .returned u ∧ K (a.put o.dst u) w') :
    if Region.wanted o (yielded ops a.tmps) = true then Oper.wp Try.prog o a w K Q else E := by
  have hw : Region.wanted o (yielded ops a.tmps) = true := by simp [Region.wanted, hg]
  rw [if_pos hw]
  unfold Oper.wp
  have hm : (#[x] : Array Operand).map a.eval = #[v] := by simp [hx]
  simp only [execOp, hop, resolve, hm]
  go_simp
  refine Calls.mono (R := R) hC fun e w' h => ?_
  obtain ⟨u, rfl, hK⟩ := hR e w' h
  exact hK

end Go.Proofs.Ytacedadenbinmaa
namespace Go.Proofs.Ytacedadenbinmaa
open Go.RowKit

theorem take_snocL {α : Type} (L : List α) (k : Nat) (d : α) (h : k < L.length) : L.take (k + 1) = L.take k ++ [L[k]?.getD d] := by
  rw [List.take_add_one, List.getElem?_eq_getElem h]; rfl
set_option maxHeartbeats 1600000 in
theorem l4DownL_any (a : Option Addr) (cap : Nat) (zs : List Int) (w : World) (hl : zs.length ≤ 12) (hI : IntsAt w a zs) :
    Calls Try.prog 60 #[.slice a zs.length cap] w (OrdPost w zs) := by
  go_enter Try.func60, Try.ntmps60
  go_wp2_with fail
  refine (l1Sorted_any a cap zs w hl hI).mono ?_
  rintro e w1 ⟨v, L, rfl, HP, HI, hO, hB⟩
  obtain ⟨a1, c1, rfl, hI1, _⟩ := hO.shape
  have HS : Hid (L.reverse = sortD zs) := ord_rev HP.out HI.out
  have hLl : L.length ≤ 12 := by have := HP.out.length_eq; omega
  have HO0 : Hid (OwnI (w1.alloc (.cells #[] 3)) w1.heap.size (.slice (some ⟨w1.heap.size, 0, none⟩) 0 0) []) := World.ownsRow_lit w1 #[] 0 (Nat.le_refl _) (by unfold maxLen; omega) (by simp)
  clear hO HP HI hI
  go_wp2
  go_loopw [4, 5] (fun v i wr => ∃ (k : Nat), k ≤ L.length ∧ i = .int .i64 ((L.length : Int) - 1 - k) ∧ OwnI wr w1.heap.size v (L.reverse.take k) ∧ Below w1.heap.size w1 wr) (fun _ i _ => (intOf i + 1).toNat)
  case atStart => exact ⟨0, Nat.zero_le _, by simp, HO0.out, (Below.refl _ _).alloc (Nat.le_refl _) _⟩
  case round =>
    clear HO0
    obtain ⟨k, hk, rfl, hO, hBr⟩ := hrel
    by_cases hlt : k < L.length
    · obtain ⟨b, off, rfl, hbb, hcell⟩ := (hI1.below hBr).at (by omega)
      have hx := hcell (L.length - 1 - k) (by omega)
      have HT : Hid (L.reverse.take (k + 1) = L.reverse.take k ++ [L[L.length - 1 - k]?.getD 0]) := by
        show _ = _
        rw [take_snocL L.reverse k 0 (by rw [List.length_reverse]; exact hlt), List.getElem?_reverse hlt]
      have htl : (L.reverse.take k).length ≤ 1000000 := by rw [List.length_take]; omega
      generalize L[L.length - 1 - k]?.getD 0 = x at hx HT
      clear hcell
      generalize L.reverse.take k = M at *
      go_wp2_with (at_builtin; refine append1 wr rfl _ _ rfl w1.heap.size u4 M x rfl rfl hO htl hBr.size ?_; intro v' w' hO' hG')
      go_roundw
      case rel => exact ⟨k + 1, by omega, congrArg (Value.int .i64) (by omega), by rw [HT.out]; exact hO', hBr.grown hG' hBr.size (fun j hj => (hO.lt j hj).1)⟩
      case measure => simp [intOf]; omega
    · obtain rfl : k = L.length := by omega
      have HE : Hid (L.reverse.take L.length = sortD zs) := by show _ = _; rw [← HS.out, List.take_of_length_le (by simp)]
      rw [HE.out] at hO
      have hO9 := Lib.hid (hO.mono hB.size)
      have hB9 := hB.trans (hBr.mono hB.size)
      clear hO
      go_wp2
      go_ret
      exact ⟨_, rfl, hO9.out, hB9⟩

/-- what LoadLong answers -/
def longL (zs : List Int) (m : Int) : Int := if toldL zs m = true then gre (lstS (sortD zs) (List.replicate m.toNat 0)) else 0
theorem LoadLong_any (a : Option Addr) (cap : Nat) (zs : List Int) (m : Int) (w : World) (hl : zs.length ≤ 2000000) (hI : IntsAt w a zs) :
    Calls Try.prog 35 #[.slice a zs.length cap, .int .i64 m] w fun e w' => e = .returned (.tuple #[.int .i64 (longL zs m), .bool (toldL zs m)]) ∧ Below w.heap.size w w' := by
  obtain ⟨B, hB⟩ : ∃ B, longL zs m = B := ⟨_, rfl⟩
  by_cases hz : toldL zs m = true
  case neg =>
    have hz' : toldL zs m = false := by simpa using hz
    have hB0 : B = 0 := by rw [← hB, longL, if_neg hz]
    rw [hB, hB0, hz']
    have HZ := Lib.hid hz'
    clear hz hz' hB hB0
    go_enter Try.func35, Try.ntmps35
    go_wp2_with (go_at_call 39; refine (loadsTold_any a cap zs m _ (by omega) hI).mono ?_; rw [HZ.out]; rintro e w' ⟨rfl, rfl⟩)
    all_goals
      go_ret2
      exact ⟨rfl, Below.refl _ _⟩
  obtain ⟨⟨h10, hg⟩, hm1, hm5⟩ := (toldL_iff zs m).1 hz
  obtain ⟨M, rfl⟩ := Int.eq_ofNat_of_zero_le (show 0 ≤ m by omega)
  have HB : Hid (gre (lstS (sortD zs) (List.replicate M 0)) = B) := by show _ = _; rw [← hB, longL, if_pos hz, Int.toNat_natCast]
  rw [hB, hz]
  have HZ := Lib.hid hz
  have HIN := Lib.hid (inOrder_any a cap zs w (by omega) hI)
  have HSD : Hid (∀ (a1 : Option Addr) (c1 : Nat) (W : World), IntsAt W a1 (sortD zs) → Calls Try.prog 47 #[.slice a1 (sortD zs).length c1, .int .i64 M] W fun e w' => e = .returned (.int .i64 B) ∧ Below W.heap.size W w') := fun a1 c1 W h => by
    rw [← HB.out]
    exact spanByList_any a1 c1 (sortD zs) M W (by rw [sortD_length]; exact h10) (perm_good (sortD_perm zs) hg) (by omega) h
  clear hz hB
  go_enter Try.func35, Try.ntmps35
  go_wp2_with (go_at_call 39; refine (loadsTold_any a cap zs M _ (by omega) hI).mono ?_; rw [HZ.out]; rintro e w' ⟨rfl, rfl⟩)
  refine HIN.out.mono ?_
  rintro e w1 ⟨v, rfl, hO, hB1⟩
  obtain ⟨a1, c1, rfl, hI1, _⟩ := hO.shape
  have HC := Lib.hid (HSD.out a1 c1 w1 hI1)
  clear hO hI1
  go_wp2_with fail
  refine HC.out.mono ?_
  rintro e w2 ⟨rfl, hB2⟩
  go_wp2_with fail
  go_ret2
  exact ⟨rfl, hB1.trans (hB2.mono hB1.size)⟩

theorem sLoadLong_any (a : Option Addr) (cap : Nat) (zs : List Int) (m : Int) (w : World) (hl : zs.length ≤ 2000000) (hI : IntsAt w a zs) :
    Calls Try.prog 36 #[.slice a zs.length cap, .int .i64 m] w fun e w' => e = .returned (.tuple #[.int .i64 (longL zs m), .bool (toldL zs m)]) ∧ Below w.heap.size w w' := by
  obtain ⟨B, hB⟩ : ∃ B, longL zs m = B := ⟨_, rfl⟩
  by_cases hz : toldL zs m = true
  case neg =>
    have hz' : toldL zs m = false := by simpa using hz
    have hB0 : B = 0 := by rw [← hB, longL, if_neg hz]
    rw [hB, hB0, hz']
    have HZ := Lib.hid hz'
    clear hz hz' hB hB0
    go_enter Try.func36, Try.ntmps36
    go_wp2_with (go_at_call 37; refine (l5Given_any a cap zs m _ (by omega) hI).mono ?_; rw [HZ.out]; rintro e w' ⟨rfl, rfl⟩)
    all_goals
      go_ret2
      exact ⟨rfl, Below.refl _ _⟩
  obtain ⟨⟨h10, hg⟩, hm1, hm5⟩ := (toldL_iff zs m).1 hz
  obtain ⟨M, rfl⟩ := Int.eq_ofNat_of_zero_le (show 0 ≤ m by omega)
  have HB : Hid (gre (lstS (sortD zs) (List.replicate M 0)) = B) := by show _ = _; rw [← hB, longL, if_pos hz, Int.toNat_natCast]
  rw [hB, hz]
  have HZ := Lib.hid hz
  have hsl : (lstS (sortD zs) (List.replicate M 0)).length = M := by rw [lstS_length, List.length_replicate]
  have HDN := Lib.hid (l4DownL_any a cap zs w (by omega) hI)
  have HSP : Hid (∀ (a1 : Option Addr) (c1 : Nat) (W : World), IntsAt W a1 (sortD zs) → Calls Try.prog 48 #[.slice a1 (sortD zs).length c1, .int .i64 M] W (L5Post (sortD zs) M W)) := fun a1 c1 W h => l5List_any a1 c1 (sortD zs) M W (by rw [sortD_length]; exact h10) (perm_good (sortD_perm zs) hg) (by omega) h
  have HGV := Lib.hid (l5Given_any a cap zs M w (by omega) hI)
  have HSL := Lib.hid hsl
  clear hz hB hsl
  go_enter Try.func36, Try.ntmps36
  go_wp2_with fail
  go_at_call 37
  refine HGV.out.mono ?_
  rw [HZ.out]
  rintro e w' ⟨rfl, rfl⟩
  go_wp2_with fail
  refine HDN.out.mono ?_
  rintro e w1 ⟨v, rfl, hO, hB1⟩
  obtain ⟨a1, c1, rfl, hI1, _⟩ := hO.shape
  have HC := Lib.hid (HSP.out a1 c1 w1 hI1)
  clear hO hI1
  go_wp2_with fail
  refine HC.out.mono ?_
  rintro e w2 ⟨v1, v2, ps, rfl, _, _, hO, hB2⟩
  have hsl := HSL.out
  clear HSL
  have hB3 := hB1.trans (hB2.mono hB1.size)
  generalize hss : lstS (sortD zs) (List.replicate M 0) = ss at hO HB hsl
  obtain ⟨g, cp, rfl, _, _, _⟩ := hO.at (by omega)
  have HMx := Lib.hid (l5Most_any (some ⟨g, 0, none⟩) cp ss w2 (by omega) hO.ints)
  rw [HB.out] at HMx
  clear hO hsl hss
  go_wp2_with fail
  refine HMx.out.mono ?_
  rintro e w3 ⟨rfl, n, rfl⟩
  go_wp2_with fail
  go_ret2
  exact ⟨rfl, belowDr hB3 n⟩
end Go.Proofs.Ytacedadenbinmaa
