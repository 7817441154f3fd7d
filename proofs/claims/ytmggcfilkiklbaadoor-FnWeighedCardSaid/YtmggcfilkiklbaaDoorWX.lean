/- PanWeighed of the reference. Conditions: stated in each. -/
import Derived.Deep.RegionWith
import Derived.Test.YtmggcfilkiklbaaDoorMF
import Derived.Test.YtmggcfilkiklbaaDoorLP
import Derived.Test.YtmggcfilkiklbaaDoorAC
import Derived.Test.YtmggcfilkiklbaaDoorW4
namespace Go.Proofs.YtmggcfilkiklbaaDoor
open Go.RowKit

theorem restAt {w : World} {b off cap : Nat} {x : Int} {xs : List Int} (hcap : xs.length + 1 ≤ cap) (h : IntsAt w (some ⟨b, off, none⟩) (x :: xs)) : ∃ A, (if cap = 1 then some (⟨b, off, none⟩ : Addr) else some ⟨b, off + 1, none⟩) = some A ∧ IntsAt w (some A) xs := by
  by_cases e : cap = 1
  · exact ⟨_, if_pos e, .inl (List.eq_nil_of_length_eq_zero (by omega))⟩
  · refine ⟨_, if_neg e, .inr ⟨b, off + 1, rfl, ?_, fun j hj => ?_⟩⟩
    · obtain ⟨b', o', he, hb, _⟩ := h.at (by simp)
      simp only [Option.some.injEq, Addr.mk.injEq, and_true] at he
      obtain ⟨rfl, rfl⟩ := he
      exact hb
    · obtain ⟨b', o', he, hb, hc⟩ := h.at (by simp)
      simp only [Option.some.injEq, Addr.mk.injEq, and_true] at he
      obtain ⟨rfl, rfl⟩ := he
      have := hc (j + 1) (by simp; omega)
      rw [show off + (j + 1) = off + 1 + j by omega] at this
      simpa using this
def ListRS (w : World) (ok : Bool) (L : List Int) (e : Ending) (w' : World) : Prop :=
  ∃ g c, e = .returned (.tuple #[.slice (some ⟨g, 0, none⟩) L.length c, .bool ok]) ∧ OwnI w' w.heap.size (.slice (some ⟨g, 0, none⟩) L.length c) L ∧ Below w.heap.size w w'
theorem wgL_some (W : List Int) : wgL (some W) = W := rfl
theorem wgL_none : wgL none = [] := rfl

set_option maxRecDepth 100000 in
set_option maxHeartbeats 3200000 in
theorem l7First_any : ∀ (zs : List Int) (a : Option Addr) (n cap : Nat) (v l : Int) (w : World), zs.length = n → l = tot zs → good zs → n ≤ 10 → n ≤ cap → (-1000 ≤ v ∧ v ≤ 1000) → IntsAt w a zs →
    Calls Tryd.prog 27 #[.slice a n cap, .int .i64 v, .int .i64 l] w (ListRS w (fw zs v).isSome (wgL (fw zs v))) := by
  intro zs
  induction zs with
  | nil =>
    intro a n cap v l w hn hlt hg h10 hcap hv hI
    simp at hn
    subst hn
    obtain rfl : l = 0 := hlt
    have HO := World.ownsRow_lit (base := w.heap.size) (e := 3) (size := 1) w #[] 0 (Nat.le_refl _) (by unfold maxLen; omega) (by simp)
    by_cases h0 : v = 0
    · subst h0
      go_enter Tryd.func27, Tryd.ntmps27
      go_wp2
      all_goals
        go_ret2
        exact ⟨_, _, rfl, HO, (Below.refl _ _).alloc (Nat.le_refl _) _⟩
    · have hf : fw [] v = none := by rw [fw, if_neg h0]
      rw [hf]
      rcases Int.lt_or_gt_of_ne h0 with hc | hc
      all_goals
        go_enter Tryd.func27, Tryd.ntmps27
        go_wp2
        all_goals first | (exfalso; omega) | skip
        all_goals
          go_ret2
          exact ⟨_, _, rfl, HO, (Below.refl _ _).alloc (Nat.le_refl _) _⟩
  | cons x xs ih =>
    intro a n cap v l w hn hlt hg h10 hcap hv hI
    have hgx := hg x (List.mem_cons_self ..)
    have hgr : good xs := fun y hy => hg y (List.mem_cons_of_mem _ hy)
    have htr := tot_bd hgr
    rw [List.length_cons] at hn
    subst hn
    have hlx : l = x + tot xs := hlt
    have HO := World.ownsRow_lit (base := w.heap.size) (e := 3) (size := 1) w #[] 0 (Nat.le_refl _) (by unfold maxLen; omega) (by simp)
    by_cases hfar : l < v ∨ v < -l
    · have hf : fw (x :: xs) v = none := fw_far hg (by rw [← hlt]; exact hfar)
      rw [hf]
      clear ih
      rcases hfar with hc | hc
      all_goals
        go_enter Tryd.func27, Tryd.ntmps27
        go_wp2
        all_goals first | (exfalso; omega) | skip
        all_goals
          go_ret2
          exact ⟨_, _, rfl, HO, (Below.refl _ _).alloc (Nat.le_refl _) _⟩
    · obtain ⟨b, off, rfl, hb, hcell⟩ := hI.at (by simp)
      have hx : ∀ W, Below w.heap.size w W → W.cell? ⟨b, off, none⟩ = some (.int .i64 x) := fun W hW => by
        have := hcell 0 (by simp)
        rw [Nat.add_zero] at this
        exact (hW.cell (p := ⟨b, off, none⟩) hb).trans (by simpa using this)
      have HX := Lib.hid hx
      have hr : ∀ W, Below w.heap.size w W → ∃ A, (if cap = 1 then some (⟨b, off, none⟩ : Addr) else some ⟨b, off + 1, none⟩) = some A ∧ IntsAt W (some A) xs := fun W hW => restAt hcap (hI.below hW)
      obtain ⟨A, hA, _⟩ := hr w (Below.refl _ _)
      have HR : Hid (∀ W, Below w.heap.size w W → IntsAt W (some A) xs) := fun W hW => by
        obtain ⟨A', hA', h⟩ := hr W hW
        rw [hA] at hA'
        simp only [Option.some.injEq] at hA'
        rw [hA']; exact h
      have HNS := Lib.hid (noneW_start xs x v)
      have HLX := Lib.hid hlx
      have hlb : 0 ≤ l ∧ l ≤ 660 := by omega
      have hvl : -l ≤ v ∧ v ≤ l := by omega
      clear hcell hx hr hI hfar HO hlt hlx
      have hd1 : decide (l < v) = false := by simp; omega
      have hd2 : decide (l < -v) = false := by simp; omega
      have hd3 : ((xs.length : Int) + 1 == 0) = false := by simp; omega
      have hgoal : ∀ hv0 : 0 ≤ v ∨ v < 0, Calls Tryd.prog 27 #[.slice (some ⟨b, off, none⟩) (xs.length + 1) cap, .int .i64 v, .int .i64 l] w (ListRS w (fw (x :: xs) v).isSome (wgL (fw (x :: xs) v))) := by
        intro hv0
        rcases hv0 with hv0 | hv0
        all_goals
          go_enter Tryd.func27, Tryd.ntmps27
          go_wp2_with fail
          all_goals first | (exfalso; omega) | skip
          all_goals
            go_loopw [8] (fun i wr => ∃ (s : Int), -1 ≤ s ∧ s ≤ 2 ∧ i = .int .i64 s ∧ Hid (NoneW xs x v s) ∧ Below w.heap.size w wr) (fun i _ => (2 - intOf i).toNat)
            case atStart => exact ⟨-1, by omega, by omega, rfl, HNS, Below.refl _ _⟩
            case round =>
              obtain ⟨s, hs1, hs2, rfl, HNY, hBr⟩ := hrel
              by_cases hs3 : s ≤ 1
              · have hcs : s = -1 ∨ s = 0 ∨ s = 1 := by omega
                have HCS := Lib.hid hcs
                have hsx : -60 ≤ s * x ∧ s * x ≤ 60 := by rcases hcs with rfl | rfl | rfl <;> omega
                clear hcs
                have hxc := HX.out wr hBr
                have hxd : wr.drew.cell? ⟨b, off, none⟩ = some (.int .i64 x) := hxc
                have hw1 : IntKind.i64.wrap (s * x) = s * x := IntWalk.i64_in _ (by omega)
                have hw2 : IntKind.i64.wrap (v - s * x) = v - s * x := IntWalk.i64_in _ (by omega)
                have hw3 : IntKind.i64.wrap (l - x) = l - x := IntWalk.i64_in _ (by omega)
                go_wp2_with fail
                go_region_with (go_at_call 27; refine (ih (some A) xs.length (cap - 1) (v - s * x) (l - x) _ rfl (by have := HLX.out; omega) hgr (by omega) (by omega) (by omega) ?_).mono ?_; (exact HR.out _ hBr.drew); rintro e w4 ⟨g4, c4, rfl, hO4, hB4⟩)
                all_goals
                  have hB5 : Below w.heap.size w w4 := hBr.drew.trans (hB4.mono hBr.size)
                  obtain ⟨f, hf⟩ : ∃ f, fw xs (v - s * x) = f := ⟨_, rfl⟩
                  rw [hf] at hO4 ⊢
                  have HFF := Lib.hid hf
                  clear hf hB4
                  cases f with
                  | some V =>
                    have HRS : Hid (fw (x :: xs) v = some (s :: V)) := noneW_hit (by omega) HNY.out HFF.out
                    rw [wgL_some] at hO4
                    have hVl : V.length = xs.length := (fw_is HFF.out).1
                    have hVb : V.length ≤ 1000000 := by omega
                    have hI4 := hO4.ints
                    rw [wgL_some]
                    have hOL : OwnI (w4.alloc (.cells #[.int .i64 s] 3)) w.heap.size (.slice (some ⟨w4.heap.size, 0, none⟩) 1 1) [s] := World.ownsRow_lit w4 #[.int .i64 s] 1 hB5.size (by unfold maxLen; omega) (by simp)
                    have hIL := hI4.below ((Below.refl _ w4).alloc (Nat.le_refl _) (.cells #[.int .i64 s] 3))
                    have HVL := Lib.hid hVl
                    clear hO4 hVl
                    go_wp2_with (at_builtin; refine appendSl _ rfl _ _ rfl w.heap.size (.slice (some ⟨w4.heap.size, 0, none⟩) 1 1) [s] V ⟨g4, 0, none⟩ V.length c4 rfl rfl rfl hOL (by simp) hVb hIL (by have := hB5.size; simp; omega) ?_; intro v6 w6 hO6 hG6 hat)
                    obtain ⟨g6, c6, rfl, _, _, _⟩ := hO6.at (by simp)
                    go_ret2
                    refine ⟨g6, c6, ?_, ?_, (hB5.alloc hB5.size _).grown hG6 (by have := hB5.size; simp; omega) (fun k hk => by simp [Value.ownBlock] at hk; have := hB5.size; omega)⟩
                    · rw [HRS.out]; rfl
                    · rw [HRS.out]; exact hO6
                  | none =>
                    have HN := Lib.hid (HNY.out.next HFF.out)
                    clear hO4
                    go_wp2
                    go_roundw
                    case rel => exact ⟨s + 1, by omega, by omega, by go_num, HN, hB5⟩
                    case measure => simp [intOf]; omega
              · obtain rfl : s = 2 := by omega
                have HRS : Hid (fw (x :: xs) v = none) := noneW_end HNY.out
                have HO := World.ownsRow_lit (base := w.heap.size) (e := 3) (size := 1) wr #[] 0 hBr.size (by unfold maxLen; omega) (by simp)
                go_wp2
                go_ret2
                exact ⟨wr.heap.size, 0, by rw [HRS.out]; rfl, by rw [HRS.out]; exact HO, hBr.alloc hBr.size _⟩
      exact hgoal (by omega)

set_option maxHeartbeats 1600000 in
theorem sPanWeighed_any (a : Option Addr) (cap : Nat) (zs : List Int) (v : Int) (w : World) (hl : zs.length ≤ 1000000) (hcap : zs.length ≤ cap) (hv : -1000 ≤ v ∧ v ≤ 1000) (hI : IntsAt w a zs) :
    Calls Tryd.prog 12 #[.slice a zs.length cap, .int .i64 v] w (ListRS w (wgO zs v).isSome (wgL (wgO zs v))) := by
  have HO := World.ownsRow_lit (base := w.heap.size) (e := 3) (size := 1) w #[] 0 (Nat.le_refl _) (by unfold maxLen; omega) (by simp)
  by_cases hz : inL zs = true
  case neg =>
    have hz' : inL zs = false := by simpa using hz
    have hR : wgO zs v = none := by rw [wgO, if_neg (fun h => hz h.1)]
    rw [hR]
    have HZ := Lib.hid hz'
    clear hz hz' hR
    go_enter Tryd.func12, Tryd.ntmps12
    go_wp2_with (first | (go_at_call 19; refine (sSumIn_any a cap zs _ (by omega) hI).mono ?_; rw [HZ.out]; rintro e w' ⟨rfl, rfl⟩))
    go_ret2
    exact ⟨_, _, rfl, HO, (Below.refl _ _).alloc (Nat.le_refl _) _⟩
  have hzl := (inL_iff zs).1 hz
  have htb := tot_bd hzl.2
  have HZ := Lib.hid hz
  by_cases hv0 : 0 ≤ v ∧ v ≤ tot zs
  case neg =>
    have hR : wgO zs v = none := by rw [wgO, if_neg (fun h => hv0 h.2)]
    have hd : (decide (0 ≤ v) && decide (v ≤ tot zs)) = false := by simp; omega
    have HD := Lib.hid hd
    rw [hR]
    clear hz hR hd
    go_enter Tryd.func12, Tryd.ntmps12
    go_wp2_with (first | (go_at_call 19; refine (sSumIn_any a cap zs _ (by omega) hI).mono ?_; rw [HZ.out]; rintro e w' ⟨rfl, rfl⟩) | (go_at_call 23; refine (l4Total_any a cap zs _ (by omega) (fun x hx => by have := hzl.2 x hx; omega) hI).mono ?_; rintro e w' ⟨rfl, rfl⟩) | (go_at_call 20; refine (l6In_any v 0 (tot zs) _).mono ?_; rw [HD.out]; rintro e w' ⟨rfl, rfl⟩))
    go_ret2
    exact ⟨_, _, rfl, HO, (Below.refl _ _).alloc (Nat.le_refl _) _⟩
  have hR : wgO zs v = fw zs v := by rw [wgO, if_pos ⟨hz, hv0⟩]
  have hd : (decide (0 ≤ v) && decide (v ≤ tot zs)) = true := by simp; omega
  have HD := Lib.hid hd
  rw [hR]
  clear hz hR hd
  have hF := l7First_any zs a zs.length cap v (tot zs) w rfl rfl hzl.2 hzl.1 hcap hv hI
  go_enter Tryd.func12, Tryd.ntmps12
  go_wp2_with (first | (go_at_call 19; refine (sSumIn_any a cap zs _ (by omega) hI).mono ?_; rw [HZ.out]; rintro e w' ⟨rfl, rfl⟩) | (go_at_call 23; refine (l4Total_any a cap zs _ (by omega) (fun x hx => by have := hzl.2 x hx; omega) hI).mono ?_; rintro e w' ⟨rfl, rfl⟩) | (go_at_call 20; refine (l6In_any v 0 (tot zs) _).mono ?_; rw [HD.out]; rintro e w' ⟨rfl, rfl⟩) | (go_at_call 27; refine hF.mono ?_; rintro e w' ⟨g, c, rfl, hO, hB⟩))
  go_ret2
  exact ⟨g, c, rfl, hO, hB⟩
end Go.Proofs.YtmggcfilkiklbaaDoor
