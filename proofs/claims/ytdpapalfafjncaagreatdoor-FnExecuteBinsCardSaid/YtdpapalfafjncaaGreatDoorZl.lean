/- slices.Clone of ints. Conditions: the list has at most 1000000 numbers. slices.SortStableFunc by falling numbers, of at most 19 numbers. Conditions: stated in each. slices.SortStableFunc by falling numbers, of at most 19 numbers: the outer functions. Conditions: stated in each. inOrder by falling numbers, and HalfGreedy of the program. Conditions: stated in each. -/
import Derived.Test.YtdpapalfafjncaaGreatDoorZa
import Derived.BigRegion
import Derived.Test.YtdpapalfafjncaaGreatDoorZj
import Derived.Test.YtdpapalfafjncaaGreatDoorZd
import Derived.Test.YtdpapalfafjncaaGreatDoorZg
set_option linter.unusedVariables false
set_option linter.unusedSimpArgs false
set_option linter.unusedSectionVars false
namespace Go.Proofs.YtdpapalfafjncaaGreatDoor
set_option maxRecDepth 100000
open Go.RowKit

def ClonePost (w : World) (zs : List Int) (e : Ending) (w' : World) : Prop := ∃ v, e = .returned v ∧ OwnI w' w.heap.size v zs ∧ Below w.heap.size w w'

set_option maxHeartbeats 800000 in
theorem Clone_any (ad : Addr) (cap : Nat) (zs : List Int) (w : World) (hl : zs.length ≤ 1000000) (hI : IntsAt w (some ad) zs) :
    Calls Tryz.prog 47 #[.slice (some ad) zs.length cap] w (ClonePost w zs) := by
  have HO : OwnI (w.alloc (.cells #[] 3)) w.heap.size (.slice (some ⟨w.heap.size, 0, none⟩) 0 0) [] := World.ownsRow_lit w #[] 0 (Nat.le_refl _) (by unfold maxLen; omega) (by simp)
  have hB0 : Below w.heap.size w (w.alloc (.cells #[] 3)) := (Below.refl _ _).alloc (Nat.le_refl _) _
  have hnews : ∀ j u, (zs.map (fun x => Value.int .i64 x))[j]? = some u → (w.alloc (.cells #[] 3)).cell? (ad.add j) = some u := by
    intro j u hu
    rw [List.getElem?_map] at hu
    rcases Nat.lt_or_ge j zs.length with h | h
    · obtain ⟨b, off, he, _, hc⟩ := (hI.below hB0).at (by omega)
      simp only [Option.some.injEq] at he
      subst he
      have this : (w.alloc (.cells #[] 3)).cell? (Addr.add ⟨b, off, none⟩ j) = some (.int .i64 (zs[j]?.getD 0)) := by
        rcases Nat.eq_zero_or_pos j with e | e
        · subst e; simpa [Addr.add] using hc 0 h
        · have e0 : j ≠ 0 := by omega
          simpa [Addr.add, e0] using hc j h
      simp only [List.getElem?_eq_getElem h, Option.map_some, Option.some.injEq, Option.getD_some] at hu this
      rw [← hu]
      exact this
    · rw [List.getElem?_eq_none h] at hu; cases hu
  have he : ∀ w : World, (binOp .eql 23 (.slice (some ad) zs.length cap) (.slice none 0 0)).run Tryz.prog w = .ok (.bool false) w := fun _ => rfl
  go_enter Tryz.func47, Tryz.ntmps47
  obtain ⟨i0, hi, hz0, hz1, hz2⟩ := info_parts Tryz.infoInt
  go_wp2_with (at_builtin; refine wpList_append_own _ rfl _ _ 23 rfl w.heap.size 3 i0 (.int .i64 0) 1 8 Tryz.underlying23 hi hz0 hz1 hz2 rfl (by decide) (.slice (some ⟨w.heap.size, 0, none⟩) 0 0) 0 [] rfl HO ad zs.length cap (zs.map (fun x => Value.int .i64 x)) rfl (by simp) hnews ?_ (by unfold maxLen; omega) (by omega) (by simp) ?_; (intro u hu; obtain ⟨x, _, rfl⟩ := List.mem_map.1 hu; rfl); intro v' w' h1 h2 _)
  go_ret
  refine ⟨v', rfl, ?_, hB0.grown h2 (by simp) (fun k hk => by simp [Value.ownBlock] at hk; omega)⟩
  unfold OwnI
  simpa using h1

theorem Clone_none (cap : Nat) (w : World) :
    Calls Tryz.prog 47 #[.slice none 0 cap] w (ClonePost w []) := by
  have he : ∀ w : World, (binOp .eql 23 (.slice none 0 cap) (.slice none 0 0)).run Tryz.prog w = .ok (.bool true) w := fun _ => rfl
  go_enter Tryz.func47, Tryz.ntmps47
  go_wp2
  go_ret
  exact ⟨_, rfl, World.ownsRow_nil w _ _ _, Below.refl _ _⟩
theorem Clone_all (a : Option Addr) (cap : Nat) (zs : List Int) (w : World) (hl : zs.length ≤ 1000000) (hI : IntsAt w a zs) :
    Calls Tryz.prog 47 #[.slice a zs.length cap] w (ClonePost w zs) := by
  cases a with
  | some ad => exact Clone_any ad cap zs w hl hI
  | none =>
    rcases hI with rfl | ⟨b, off, h, _⟩
    · exact Clone_none cap w
    · cases h
end Go.Proofs.YtdpapalfafjncaaGreatDoor
namespace Go.Proofs.YtdpapalfafjncaaGreatDoor
open Go.RowKit

def cmp3 (x y : Int) : Int := if x < y then -1 else if y < x then 1 else 0
theorem isNaN_any (x : Int) (w : World) : Calls Tryz.prog 88 #[.int .i64 x] w fun e w' => e = .returned (.bool false) ∧ w = w' := by
  go_enter Tryz.func88, Tryz.ntmps88
  go_wp2
  go_ret
  exact ⟨ret_bool (by simp), rfl⟩
theorem compare_any (x y : Int) (w : World) : Calls Tryz.prog 49 #[.int .i64 x, .int .i64 y] w fun e w' => e = .returned (.int .i64 (cmp3 x y)) ∧ w = w' := by
  go_enter Tryz.func49, Tryz.ntmps49
  go_wp2_with (go_at_call 88; refine (isNaN_any _ _).mono ?_; rintro e w' ⟨rfl, rfl⟩)
  all_goals
    go_ret
    exact ⟨ret_int (by unfold cmp3; (repeat' split) <;> omega), rfl⟩
theorem falling_any (x y : Int) (w : World) : Calls Tryz.prog 31 #[.int .i64 x, .int .i64 y] w fun e w' => e = .returned (.int .i64 (cmp3 y x)) ∧ w = w' := by
  go_enter Tryz.func31, Tryz.ntmps31
  go_wp2_with (go_at_call 49; refine (compare_any _ _ _).mono ?_; rintro e w' ⟨rfl, rfl⟩)
  go_ret
  exact ⟨rfl, rfl⟩
def SortPost (w : World) (base g n cp : Nat) (zs : List Int) (le : Int → Int → Prop) (e : Ending) (w' : World) : Prop :=
  e = .returned (.tuple #[]) ∧ ∃ L : List Int, Hid (L.Perm zs) ∧ Hid (InOrd le L n) ∧ Hid (L.length = n) ∧ OwnI w' base (.slice (some ⟨g, 0, none⟩) n cp) L ∧ Below base w w'
theorem InOrd.less {le : Int → Int → Prop} {L : List Int} {i n : Nat} (h : InOrd le L i) (hn : n ≤ i) : InOrd le L n := fun p q h1 h2 => h p q h1 (by omega)

set_option maxRecDepth 100000 in
set_option maxHeartbeats 3200000 in
theorem insCmp_any (g n cp base : Nat) (zs : List Int) (w : World) (hn : n ≤ 1000) (hb : base ≤ g) (hzl : zs.length = n) (hO0 : OwnI w base (.slice (some ⟨g, 0, none⟩) n cp) zs) :
    Calls Tryz.prog 130 #[.slice (some ⟨g, 0, none⟩) n cp, .int .i64 0, .int .i64 n, .func (.func 31) #[] #[]] w (SortPost w base g n cp zs (fun a b => b ≤ a)) := by
  have HZL := Lib.hid hzl
  clear hzl
  go_enter Tryz.func130, Tryz.ntmps130
  go_wp2
  go_loopw [8] (fun v wr => ∃ (i : Nat) (L : List Int), 1 ≤ i ∧ (i ≤ n ∨ i ≤ 1) ∧ v = .int .i64 i ∧ Hid (L.Perm zs) ∧ Hid (InOrd (fun a b => b ≤ a) L i) ∧ Hid (L.length = n) ∧ OwnI wr base (.slice (some ⟨g, 0, none⟩) n cp) L ∧ Below base w wr) (fun v _ => n - (intOf v).toNat)
  case atStart => exact ⟨1, zs, by omega, by omega, rfl, List.Perm.refl _, inOrd_one _ _, HZL, hO0, Below.refl _ _⟩
  case round =>
    obtain ⟨i, L, hi1, hi2, rfl, HP, HI, HL, hO, hB⟩ := hrel
    clear hO0
    by_cases hlt : i < n
    · have HAl := Lib.hid HI.out.start
      go_wp2
      go_loopw [9] (fun v wr => ∃ (j : Nat) (L : List Int), j ≤ i ∧ v = .int .i64 j ∧ Hid (L.Perm zs) ∧ Hid (Almost (fun a b => b ≤ a) L i j) ∧ Hid (L.length = n) ∧ OwnI wr base (.slice (some ⟨g, 0, none⟩) n cp) L ∧ Below base w wr) (fun v _ => (intOf v).toNat)
      case atStart => exact ⟨i, L, by omega, rfl, HP, HAl, HL, hO, hB⟩
      case round =>
        clear HP HI HL hO hB HAl
        obtain ⟨j, L, hj, rfl, HP, HA, HL, hO, hB⟩ := hrel
        have HO := Lib.hid hO
        by_cases hj0 : 0 < j
        · obtain ⟨g', cp', he, _, hgl, hcell⟩ := hO.at (by have := HL.out; omega)
          simp only [Value.slice.injEq, Option.some.injEq, Addr.mk.injEq, and_true] at he
          obtain ⟨rfl, hq1, hq2⟩ := he
          clear hq1 hq2
          have hx := (hcell j (by have := HL.out; omega)).1
          have fx := (hcell j (by have := HL.out; omega)).2
          have hy := (hcell (j - 1) (by have := HL.out; omega)).1
          have fy := (hcell (j - 1) (by have := HL.out; omega)).2
          have HSw : Hid (swapJ L j = (L.set j (L[j - 1]?.getD 0)).set (j - 1) (L[j]?.getD 0)) := rfl
          have HSl : Hid ((swapJ L j).length = n) := by show _ = _; rw [swapJ_length]; exact HL.out
          have HSp : Hid ((swapJ L j).Perm zs) := (swapJ_perm (by omega) (by have := HL.out; omega)).trans HP.out
          have HSa : Hid (L[j - 1]?.getD 0 ≤ L[j]?.getD 0 → Almost (fun a b => b ≤ a) (swapJ L j) i (j - 1)) := fun h => HA.out.swap (by omega) hj (by have := HL.out; omega) h
          have HDn : Hid (L[j]?.getD 0 ≤ L[j - 1]?.getD 0 → InOrd (fun a b => b ≤ a) L (i + 1)) := fun h => HA.out.done (fun a b c h1 h2 => by omega) (.inr h)
          clear hcell hO
          obtain ⟨x, hxv⟩ : ∃ x, L[j]?.getD 0 = x := ⟨_, rfl⟩
          obtain ⟨y, hyv⟩ : ∃ y, L[j - 1]?.getD 0 = y := ⟨_, rfl⟩
          rw [hxv] at hx HSw HSa HDn
          rw [hyv] at hy HSw HSa HDn
          clear hxv hyv
          have hf : ∀ m, Calls Tryz.prog 31 #[.int .i64 x, .int .i64 y] (wr.drewN m) fun e w' => e = .returned (.int .i64 (cmp3 y x)) ∧ w' = wr.drewN m := fun m => (falling_any x y _).mono (fun e w' h => ⟨h.1, h.2.symm⟩)
          rcases Int.lt_trichotomy y x with h | h | h
          · have hc : cmp3 y x = -1 := if_pos h
            rw [hc] at hf
            clear hc
            go_wp2_with fail
            go_quiet (first | (go_at_call 31; with_reducible refine Calls.quiet_of_same (hf _)))
            go_wp2_with fail
            go_region
            go_wp2
            go_roundw
            case rel => exact ⟨j - 1, swapJ L j, by omega, congrArg (Value.int .i64) (by omega), HSp, HSa.out (by omega), HSl, by rw [HSw.out]; exact ((HO.out.dr (nq + 1)).put HL.out j y).put (by rw [List.length_set]; exact HL.out) (j - 1) x, ((belowDr hB (nq + 1)).setCell (p := ⟨_, _, none⟩) hb _).setCell (p := ⟨_, _, none⟩) hb _⟩
            case measure => simp [intOf]; omega
          · subst h
            have hc : ∀ z, cmp3 z z = 0 := fun z => by rw [cmp3, if_neg (by omega), if_neg (by omega)]
            rw [hc] at hf
            clear hc
            have HD := Lib.hid (HDn.out (by omega))
            go_wp2_with fail
            go_quiet (first | (go_at_call 31; with_reducible refine Calls.quiet_of_same (hf _)))
            go_wp2
            go_roundw
            case rel => exact ⟨i + 1, L, by omega, by omega, by go_num, HP, HD, HL, HO.out.dr nq, belowDr hB nq⟩
            case measure => simp [intOf]; omega
          · have hc : cmp3 y x = 1 := by rw [cmp3, if_neg (by omega), if_pos h]
            rw [hc] at hf
            clear hc
            have HD := Lib.hid (HDn.out (by omega))
            go_wp2_with fail
            go_quiet (first | (go_at_call 31; with_reducible refine Calls.quiet_of_same (hf _)))
            go_wp2
            go_roundw
            case rel => exact ⟨i + 1, L, by omega, by omega, by go_num, HP, HD, HL, HO.out.dr nq, belowDr hB nq⟩
            case measure => simp [intOf]; omega
        · have HD : Hid (InOrd (fun a b => b ≤ a) L (i + 1)) := HA.out.done (fun a b c h1 h2 => by omega) (.inl (by omega))
          clear hO
          go_wp2_with fail
          go_quiet (fail)
          go_wp2
          go_roundw
          case rel => exact ⟨i + 1, L, by omega, by omega, by go_num, HP, HD, HL, HO.out.dr nq, belowDr hB nq⟩
          case measure => simp [intOf]; omega
    · have HF : Hid (InOrd (fun a b => b ≤ a) L n) := HI.out.less (by omega)
      go_wp2
      refine bodyPost_ret (v := .tuple #[]) (by simp [results, Tryz.f130, go_sem]) rfl ?_
      exact ⟨rfl, L, HP, HF, HL, hO, hB⟩
end Go.Proofs.YtdpapalfafjncaaGreatDoor
namespace Go.Proofs.YtdpapalfafjncaaGreatDoor
open Go.RowKit

set_option maxRecDepth 100000 in
set_option maxHeartbeats 1600000 in
theorem stable_any (g n cp base : Nat) (zs : List Int) (w : World) (hn : n ≤ 19) (hb : base ≤ g) (hzl : zs.length = n) (hO : OwnI w base (.slice (some ⟨g, 0, none⟩) n cp) zs) :
    Calls Tryz.prog 87 #[.slice (some ⟨g, 0, none⟩) n cp, .int .i64 n, .func (.func 31) #[] #[]] w (SortPost w base g n cp zs (fun a b => b ≤ a)) := by
  have hI := insCmp_any g n cp base zs w (by omega) hb hzl hO
  clear hzl hO
  go_enter Tryz.func87, Tryz.ntmps87
  go_wp2
  go_loopw [7, 8] (fun u v wr => u = .int .i64 0 ∧ v = .int .i64 20 ∧ wr = w) (fun _ _ _ => 0)
  case atStart => exact ⟨rfl, rfl, rfl⟩
  case round =>
    obtain ⟨rfl, rfl, rfl⟩ := hrel
    go_wp2_with (go_at_call 130; refine hI.mono ?_; rintro e w1 ⟨rfl, L, h1, h2, h3, h4, h5⟩)
    go_loopw [6] (fun v wr => v = .int .i64 20 ∧ wr = w1) (fun _ _ => 0)
    case atStart => exact ⟨rfl, rfl⟩
    case round =>
      obtain ⟨rfl, rfl⟩ := hrel
      go_wp2
      refine bodyPost_ret (v := .tuple #[]) (by simp [results, Tryz.f87, go_sem]) rfl ?_
      exact ⟨rfl, L, h1, h2, h3, h4, h5⟩

theorem sortStable_any (g n cp base : Nat) (zs : List Int) (w : World) (hn : n ≤ 19) (hb : base ≤ g) (hzl : zs.length = n) (hO : OwnI w base (.slice (some ⟨g, 0, none⟩) n cp) zs) :
    Calls Tryz.prog 48 #[.slice (some ⟨g, 0, none⟩) n cp, .func (.func 31) #[] #[]] w (SortPost w base g n cp zs (fun a b => b ≤ a)) := by
  have hI := stable_any g n cp base zs w hn hb hzl hO
  clear hzl hO
  go_enter Tryz.func48, Tryz.ntmps48
  go_wp2_with (go_at_call 87; refine hI.mono ?_; rintro e w1 ⟨rfl, L, h1, h2, h3, h4, h5⟩)
  refine bodyPost_ret (v := .tuple #[]) (by simp [results, Tryz.f48, go_sem]) rfl ?_
  exact ⟨rfl, L, h1, h2, h3, h4, h5⟩
end Go.Proofs.YtdpapalfafjncaaGreatDoor
namespace Go.Proofs.YtdpapalfafjncaaGreatDoor
open Go.RowKit

def NilPost (w : World) (e : Ending) (w' : World) : Prop := e = .returned (.tuple #[]) ∧ w = w'
theorem ins0 (a0 : Option Addr) (cp : Nat) (w : World) : Calls Tryz.prog 130 #[.slice a0 0 cp, .int .i64 0, .int .i64 0, .func (.func 31) #[] #[]] w (NilPost w) := by
  go_enter Tryz.func130, Tryz.ntmps130
  go_wp2
  go_loopw [8] (fun v wr => v = .int .i64 1 ∧ wr = w) (fun _ _ => 0)
  case atStart => exact ⟨rfl, rfl⟩
  case round =>
    obtain ⟨rfl, rfl⟩ := hrel
    go_wp2
    refine bodyPost_ret (v := .tuple #[]) (by simp [results, Tryz.f130, go_sem]) rfl ?_
    exact ⟨rfl, rfl⟩
theorem stable0 (a0 : Option Addr) (cp : Nat) (w : World) : Calls Tryz.prog 87 #[.slice a0 0 cp, .int .i64 0, .func (.func 31) #[] #[]] w (NilPost w) := by
  go_enter Tryz.func87, Tryz.ntmps87
  go_wp2
  go_loopw [7, 8] (fun u v wr => u = .int .i64 0 ∧ v = .int .i64 20 ∧ wr = w) (fun _ _ _ => 0)
  case atStart => exact ⟨rfl, rfl, rfl⟩
  case round =>
    obtain ⟨rfl, rfl, rfl⟩ := hrel
    go_wp2_with (go_at_call 130; refine (ins0 a0 cp _).mono ?_; rintro e w1 ⟨rfl, rfl⟩)
    go_loopw [6] (fun v wr' => v = .int .i64 20 ∧ wr' = wr) (fun _ _ => 0)
    case atStart => exact ⟨rfl, rfl⟩
    case round =>
      obtain ⟨rfl, rfl⟩ := hrel
      go_wp2
      refine bodyPost_ret (v := .tuple #[]) (by simp [results, Tryz.f87, go_sem]) rfl ?_
      exact ⟨rfl, rfl⟩
theorem sortStable0 (a0 : Option Addr) (cp : Nat) (w : World) : Calls Tryz.prog 48 #[.slice a0 0 cp, .func (.func 31) #[] #[]] w (NilPost w) := by
  go_enter Tryz.func48, Tryz.ntmps48
  go_wp2_with (go_at_call 87; refine (stable0 a0 cp _).mono ?_; rintro e w1 ⟨rfl, rfl⟩)
  refine bodyPost_ret (v := .tuple #[]) (by simp [results, Tryz.f48, go_sem]) rfl ?_
  exact ⟨rfl, rfl⟩

def OrdPost (w : World) (zs : List Int) (e : Ending) (w' : World) : Prop := ∃ v, e = .returned v ∧ OwnI w' w.heap.size v (sortD zs) ∧ Below w.heap.size w w'

set_option maxHeartbeats 800000 in
theorem inOrder_any (a : Option Addr) (cap : Nat) (zs : List Int) (w : World) (hl : zs.length ≤ 19) (hI : IntsAt w a zs) :
    Calls Tryz.prog 30 #[.slice a zs.length cap, .func (.func 31) #[] #[]] w (OrdPost w zs) := by
  go_enter Tryz.func30, Tryz.ntmps30
  go_wp2_with fail
  refine (Clone_all a cap zs w (by omega) hI).mono ?_
  rintro e w1 ⟨v1, rfl, hO1, hB1⟩
  rcases Nat.eq_zero_or_pos zs.length with h0 | h0
  · obtain ⟨a1, c1, rfl, _, _⟩ := hO1.shape
    obtain rfl := List.eq_nil_of_length_eq_zero h0
    clear h0
    go_wp2_with (go_at_call 48; refine (sortStable0 a1 c1 _).mono ?_; rintro e w2 ⟨rfl, rfl⟩)
    go_ret
    exact ⟨_, rfl, hO1, hB1⟩
  · obtain ⟨g, c1, rfl, hg, _, _⟩ := hO1.at h0
    have hS := sortStable_any g zs.length c1 w.heap.size zs w1 hl hg rfl hO1
    clear hO1
    go_wp2_with (go_at_call 48; refine hS.mono ?_; rintro e w2 ⟨rfl, L, h1, h2, h3, h4, h5⟩)
    go_ret
    have hL : L = sortD zs := by
      refine sortD_is (inOrd_pair ?_) h1.out
      rw [h3.out]; exact h2.out
    exact ⟨_, rfl, by rw [← hL]; exact h4, hB1.trans h5⟩

theorem gl_take (L : List Int) : ∀ (k : Nat), k < L.length → gl (L.take (k + 1)) 0 0 = (if (gl (L.take k) 0 0).1 ≤ (gl (L.take k) 0 0).2 then ((gl (L.take k) 0 0).1 + L[k]?.getD 0, (gl (L.take k) 0 0).2) else ((gl (L.take k) 0 0).1, (gl (L.take k) 0 0).2 + L[k]?.getD 0)) := by
  have key : ∀ (xs : List Int) (x f s : Int), gl (xs ++ [x]) f s = (if (gl xs f s).1 ≤ (gl xs f s).2 then ((gl xs f s).1 + x, (gl xs f s).2) else ((gl xs f s).1, (gl xs f s).2 + x)) := by
    intro xs
    induction xs with
    | nil => intro x f s; simp only [List.nil_append, gl]; first | rfl | (split <;> rfl)
    | cons y ys ih =>
      intro x f s
      rw [List.cons_append, gl, gl]
      split
      · exact ih _ _ _
      · exact ih _ _ _
  intro k hk
  rw [take_snoc L k hk, key]
theorem sizeOfY_any (v : Int) (w : World) (hv : -1000000 ≤ v ∧ v ≤ 1000000) :
    Calls Tryz.prog 19 #[.int .i64 v] w fun e w' => e = .returned (.int .i64 (sz v)) ∧ w = w' := by
  go_enter Tryz.func19, Tryz.ntmps19
  go_wp2
  all_goals
    go_ret
    exact ⟨ret_int (by unfold sz; omega), rfl⟩
/-- the answer of HalfGreedy -/
def grR (zs : List Int) : Int := if inL zs = true then greedy (sortD zs) else 0
theorem gl_range {L : List Int} (hg : good L) (k : Nat) : 0 ≤ (gl (L.take k) 0 0).1 ∧ 0 ≤ (gl (L.take k) 0 0).2 ∧ (gl (L.take k) 0 0).1 + (gl (L.take k) 0 0).2 ≤ 60 * L.length := by
  obtain ⟨p, h1, h2, h3⟩ := gl_sub (L.take k) 0 0
  have h4 := subS_bd (good_take hg k) h1
  have h5 := tot_bd (good_take hg k)
  have h6 : (L.take k).length ≤ L.length := by rw [List.length_take]; omega
  rw [h2, h3]; omega

set_option maxHeartbeats 800000 in
theorem HalfGreedy_any (a : Option Addr) (cap : Nat) (zs : List Int) (w : World) (hl : zs.length ≤ 4294967296) (hI : IntsAt w a zs) :
    Calls Tryz.prog 105 #[.slice a zs.length cap] w (NumPost w (grR zs) (inL zs)) := by
  by_cases hz : inL zs = true
  case neg =>
    have hz' : inL zs = false := by simpa using hz
    rw [grR, if_neg hz, hz']
    have HZ := Lib.hid hz'
    clear hz hz'
    go_enter Tryz.func105, Tryz.ntmps105
    go_wp2_with (go_at_call 16; refine (SumIn_any a cap zs _ hl hI).mono ?_; rw [HZ.out]; rintro e w' ⟨rfl, rfl⟩)
    go_ret2
    exact ⟨rfl, Below.refl _ _⟩
  rw [grR, if_pos hz, hz]
  have hzl := (inL_iff zs).1 hz
  have HZ := Lib.hid hz
  have hgL : good (sortD zs) := perm_good (sortD_perm zs) hzl.2
  have hlen : (sortD zs).length ≤ 10 := by rw [sortD_length]; exact hzl.1
  have hO := inOrder_any a cap zs w (by omega) hI
  clear hz
  have HGr : Hid (greedy (sortD zs) = sz ((gl (sortD zs) 0 0).1 - (gl (sortD zs) 0 0).2)) := rfl
  unfold OrdPost at hO
  generalize sortD zs = L at *
  go_enter Tryz.func105, Tryz.ntmps105
  go_wp2_with (first | (go_at_call 16; refine (SumIn_any a cap zs _ hl hI).mono ?_; rw [HZ.out]; rintro e w' ⟨rfl, rfl⟩) | fail)
  refine hO.mono ?_
  rintro e w1 ⟨v1, rfl, hO1, hB1⟩
  obtain ⟨a1, c1, rfl, hI1, _⟩ := hO1.shape
  clear hO hO1
  go_wp2
  go_loop [4, 5, 14] (fun f s i => ∃ k : Nat, k ≤ L.length ∧ i = .int .i64 k ∧ f = .int .i64 (gl (L.take k) 0 0).1 ∧ s = .int .i64 (gl (L.take k) 0 0).2) (fun _ _ i => L.length - (intOf i).toNat)
  case atStart => exact ⟨0, Nat.zero_le _, rfl, rfl, rfl⟩
  case round =>
    obtain ⟨k, hk, rfl, rfl, rfl⟩ := hrel
    have hr := gl_range hgL k
    by_cases hlt : k < L.length
    · obtain ⟨b, off, rfl, hb, hcell⟩ := hI1.at (by omega)
      have hx := hcell k hlt
      have hgx := good_get hgL k hlt
      have HT := Lib.hid (gl_take L k hlt)
      generalize L[k]?.getD 0 = x at hx hgx HT
      generalize gl (L.take k) 0 0 = fs at *
      obtain ⟨f, s⟩ := fs
      simp only at hr HT ⊢
      clear hcell
      by_cases hfs : f ≤ s
      · have H1 : Hid (gl (L.take (k + 1)) 0 0 = (f + x, s)) := by show _ = _; rw [HT.out, if_pos hfs]
        go_wp2
        go_round
        case rel => exact ⟨k + 1, by omega, by go_num, by rw [H1.out], by rw [H1.out]⟩
        case measure => simp [intOf]; omega
      · have H1 : Hid (gl (L.take (k + 1)) 0 0 = (f, s + x)) := by show _ = _; rw [HT.out, if_neg hfs]
        go_wp2
        go_round
        case rel => exact ⟨k + 1, by omega, by go_num, by rw [H1.out], by rw [H1.out]⟩
        case measure => simp [intOf]; omega
    · obtain rfl : k = L.length := by omega
      rw [List.take_length] at hr ⊢
      generalize gl L 0 0 = fs at *
      obtain ⟨f, s⟩ := fs
      simp only at hr HGr ⊢
      go_wp2_with (go_at_call 19; refine (sizeOfY_any (f - s) _ (by omega)).mono ?_; rintro e w' ⟨rfl, rfl⟩)
      go_ret2
      exact ⟨by rw [HGr.out]; rfl, hB1⟩
end Go.Proofs.YtdpapalfafjncaaGreatDoor
