/- PanWeighed of the program where it is told, and PanWhole of both. Conditions: stated in each. -/
import Derived.Test.YtbpkffpejmlonaaIV
import Derived.Test.YtbpkffpejmlonaaIW
namespace Go.Proofs.Ytbpkffpejmlonaa
open Go.RowKit Go.Shelf

set_option maxRecDepth 100000 in
set_option maxHeartbeats 1600000 in
theorem PanWeighed_told (a : Option Addr) (cap : Nat) (zs : List Int) (v : Int) (w : World) (hz : inL zs = true) (hv : 0 ≤ v ∧ v ≤ tot zs) (hI : IntsAt w a zs) :
    Calls Try.prog 96 #[.slice a zs.length cap, .int .i64 v] w fun e w' => (∃ u, e = .returned (.tuple #[u, .bool (wfind zs v)])) ∧ Below w.heap.size w w' := by
  have hB0 : ∀ o, Below w.heap.size w (w.alloc o) := fun o => (Below.refl _ w).alloc (Nat.le_refl _) _
  have hzl := (inL_iff zs).1 hz
  have htb := tot_bd hzl.2
  have HZ := Lib.hid hz
  clear hz
  have hI1 := hI.below (hB0 (.cells #[.slice a zs.length cap] 23))
  go_enter Try.func96, Try.ntmps96
  go_wp2_with (first | (go_at_call 31; refine (SumIn_any a cap zs _ (by omega) hI1).mono ?_; rw [HZ.out]; rintro e w' ⟨rfl, rfl⟩) | (go_at_call 111; refine (totalOf_any a cap zs _ (by omega) hzl.2 hI1).mono ?_; rintro e w' ⟨rfl, rfl⟩) | (at_make; refine makeI _ rfl _ _ rfl zs.length _ rfl rfl (by first | rfl | simp) (by omega) ?_; intro w1 hO1 hG1))
  simp only [World.size_alloc] at hO1
  have hs1 : w.heap.size + 1 < w1.heap.size := (hO1.lt _ rfl).2
  have b1 : Boxed w1 w.heap.size 23 (.slice a zs.length cap) := (Boxed.new w 23 (.slice a zs.length cap)).kept hG1 (by simp)
  have b2 := Boxed.new w1 23 (.slice (some ⟨w.heap.size + 1, 0, none⟩) zs.length zs.length)
  have b3 := Boxed.new (w1.alloc (.cells #[.slice (some ⟨w.heap.size + 1, 0, none⟩) zs.length zs.length] 23)) 63 (.func (.func 123) #[] #[.pointer (some ⟨w.heap.size, 0, none⟩), .pointer (some ⟨w1.heap.size, 0, none⟩), .pointer (some ⟨w1.heap.size + 1, 0, none⟩)])
  simp only [World.size_alloc] at b3
  have hB1 : Below w.heap.size w w1 := (hB0 _).grown hG1 (by simp) (fun k hk => by cases hk)
  clear hG1
  refine (PW1_any a cap zs w.heap.size w1.heap.size (w1.heap.size + 1) (w.heap.size + 1) (w.heap.size + 1) (by omega) hzl.2 hzl.1 w (by omega) hI zs.length 0 0 v v _ rfl rfl (by omega) (by omega) ?_ ?_).mono ?_
  · exact ⟨⟨(b1.alloc _).alloc _, b2.alloc _, b3⟩, _, List.length_replicate .., (hO1.alloc _).alloc _⟩
  · exact (hB1.alloc (by omega) _).alloc (by simp; omega) _
  · rintro e w2 ⟨rfl, hS, hB2⟩
    have c2 := hS.1.2.1.cell
    clear hS b1 b2 b3 hO1
    rw [List.drop_zero]
    obtain ⟨f, hf⟩ : ∃ f, wfind zs v = f := ⟨_, rfl⟩
    rw [hf]
    cases f with
    | true =>
      go_wp2
      go_ret2
      exact ⟨⟨_, by rw [hf]; rfl⟩, hB2⟩
    | false =>
      go_wp2
      go_ret2
      exact ⟨⟨_, by rw [hf]; rfl⟩, hB2.alloc hB2.size _⟩

/-- PanWhole's answer -/
def WholeR (zs : List Int) (r : Int) (ok : Bool) : Prop := (ok = true ∧ inL zs = true ∧ ∃ W : Nat, r = W ∧ IsWhole (panC zs) W) ∨ (ok = false ∧ inL zs = false ∧ r = 0)
theorem WholeR.unique {zs : List Int} {r r' : Int} {ok ok' : Bool} (h : WholeR zs r ok) (h' : WholeR zs r' ok') : r = r' ∧ ok = ok' := by
  rcases h with ⟨rfl, h1, W, rfl, h2⟩ | ⟨rfl, h1, rfl⟩ <;> rcases h' with ⟨rfl, k1, V, rfl, k2⟩ | ⟨rfl, k1, rfl⟩
  · exact ⟨by rw [h2.unique k2], rfl⟩
  · rw [h1] at k1; cases k1
  · rw [h1] at k1; cases k1
  · exact ⟨rfl, rfl⟩
def WholePost (w : World) (zs : List Int) (e : Ending) (w' : World) : Prop := ∃ r ok, e = .returned (.tuple #[.int .i64 r, .bool ok]) ∧ WholeR zs r ok ∧ Below w.heap.size w w'
theorem ListR.toS {w : World} {ok : Bool} {L : List Int} {e : Ending} {w' : World} (h : ListR w ok L e w') : ListS w ok L e w' := by
  obtain ⟨v, rfl, hO, hB⟩ := h
  obtain ⟨a, c, rfl, hI, _⟩ := hO.shape
  exact ⟨a, c, rfl, hI, hB⟩

set_option maxHeartbeats 1600000 in
theorem PanWhole_any (a : Option Addr) (cap : Nat) (zs : List Int) (w : World) (hl : zs.length ≤ 1000000) (hI : IntsAt w a zs) :
    Calls Try.prog 94 #[.slice a zs.length cap] w (WholePost w zs) := by
  have hC : Calls Try.prog 88 #[.slice a zs.length cap] w (ListS w (inL zs) (panR zs)) := (PanCounts_any a cap zs w hl hI).mono (fun _ _ h => h.toS)
  by_cases hz : inL zs = true
  case neg =>
    have hz' : inL zs = false := by simpa using hz
    have hR : WholeR zs 0 false := .inr ⟨rfl, hz', rfl⟩
    rw [hz'] at hC
    clear hz hz'
    go_enter Try.func94, Try.ntmps94
    go_wp2_with fail
    refine hC.mono ?_
    rintro e w1 ⟨a1, c1, rfl, hI1, hB1⟩
    clear hC hI1
    go_wp2
    go_ret2
    exact ⟨0, false, rfl, hR, hB1⟩
  have hzl := (inL_iff zs).1 hz
  have hr : panR zs = panC zs := by unfold panR; rw [if_pos hz]
  have hlen := panR_length zs
  have hlen2 : 1 ≤ (panR zs).length := by rw [hr, panC_length]; omega
  have HRes : Hid (∀ W : Nat, IsWhole (panR zs) W → WholeR zs W true) := fun W h => by rw [hr] at h; exact .inl ⟨rfl, hz, W, rfl, h⟩
  rw [hz] at hC
  clear hz hr
  generalize panR zs = L at *
  go_enter Try.func94, Try.ntmps94
  go_wp2_with fail
  refine hC.mono ?_
  rintro e w1 ⟨a1, c1, rfl, hI1, hB1⟩
  clear hC
  obtain ⟨b, off, rfl, hbb, hcell⟩ := hI1.at (by omega)
  go_wp2
  go_loop [6] (fun i => ∃ W : Nat, W < L.length ∧ i = .int .i64 W ∧ Hid (∀ v : Nat, 1 ≤ v → v ≤ W → (0 : Int) < L[v]?.getD 0)) (fun i => L.length - (intOf i).toNat)
  case atStart => exact ⟨0, by omega, rfl, fun v h1 h2 => by omega⟩
  case round =>
    obtain ⟨W, hW, rfl, HP⟩ := hrel
    by_cases hlt : W + 1 < L.length
    · have hx := hcell (W + 1) hlt
      obtain ⟨x, hxv⟩ : ∃ x, L[W + 1]?.getD 0 = x := ⟨_, rfl⟩
      rw [hxv] at hx
      have HXV := Lib.hid hxv
      clear hcell hxv
      by_cases h0 : 0 < x
      · have HP2 : Hid (∀ v : Nat, 1 ≤ v → v ≤ W + 1 → (0 : Int) < L[v]?.getD 0) := fun v h1 h2 => by
          by_cases e : v = W + 1
          · subst e; rw [HXV.out]; exact h0
          · exact HP.out v h1 (by omega)
        go_wp2
        go_round
        case rel => exact ⟨W + 1, hlt, by go_num, HP2⟩
        case measure => simp [intOf]; omega
      · have HF := Lib.hid (HRes.out W ⟨hW, HP.out, fun h => h0 (by have := h.2; rwa [HXV.out] at this)⟩)
        go_wp2
        go_ret2
        exact ⟨W, true, rfl, HF.out, hB1⟩
    · have HF := Lib.hid (HRes.out W ⟨hW, HP.out, fun h => hlt h.1⟩)
      have hWe : (W : Int) + 1 = L.length := by omega
      have hnl : ¬ ((W : Int) + 1 < (L.length : Int)) := by omega
      clear hcell hWe
      go_wp2
      go_ret2
      exact ⟨W, true, rfl, HF.out, hB1⟩

set_option maxHeartbeats 1600000 in
theorem sPanWhole_any (a : Option Addr) (cap : Nat) (zs : List Int) (w : World) (hl : zs.length ≤ 1000000) (hI : IntsAt w a zs) :
    Calls Try.prog 95 #[.slice a zs.length cap] w (WholePost w zs) := by
  have hC : Calls Try.prog 89 #[.slice a zs.length cap] w (ListS w (inL zs) (panR zs)) := sPanCounts_any a cap zs w hl hI
  by_cases hz : inL zs = true
  case neg =>
    have hz' : inL zs = false := by simpa using hz
    have hR : WholeR zs 0 false := .inr ⟨rfl, hz', rfl⟩
    rw [hz'] at hC
    clear hz hz'
    go_enter Try.func95, Try.ntmps95
    go_wp2_with fail
    refine hC.mono ?_
    rintro e w1 ⟨a1, c1, rfl, hI1, hB1⟩
    clear hC hI1
    go_wp2
    go_ret2
    exact ⟨0, false, rfl, hR, hB1⟩
  have hzl := (inL_iff zs).1 hz
  have hr : panR zs = panC zs := by unfold panR; rw [if_pos hz]
  have hlen := panR_length zs
  have hlen2 : 1 ≤ (panR zs).length := by rw [hr, panC_length]; omega
  have HRes : Hid (∀ W : Nat, IsWhole (panR zs) W → WholeR zs W true) := fun W h => by rw [hr] at h; exact .inl ⟨rfl, hz, W, rfl, h⟩
  rw [hz] at hC
  clear hz hr
  generalize panR zs = L at *
  go_enter Try.func95, Try.ntmps95
  go_wp2_with fail
  refine hC.mono ?_
  rintro e w1 ⟨a1, c1, rfl, hI1, hB1⟩
  clear hC
  obtain ⟨b, off, rfl, hbb, hcell⟩ := hI1.at (by omega)
  go_wp2
  go_loop [6] (fun i => ∃ W : Nat, W < L.length ∧ i = .int .i64 W ∧ Hid (∀ v : Nat, 1 ≤ v → v ≤ W → (0 : Int) < L[v]?.getD 0)) (fun i => L.length - (intOf i).toNat)
  case atStart => exact ⟨0, by omega, rfl, fun v h1 h2 => by omega⟩
  case round =>
    obtain ⟨W, hW, rfl, HP⟩ := hrel
    by_cases hlt : W + 1 < L.length
    · have hx := hcell (W + 1) hlt
      obtain ⟨x, hxv⟩ : ∃ x, L[W + 1]?.getD 0 = x := ⟨_, rfl⟩
      rw [hxv] at hx
      have HXV := Lib.hid hxv
      clear hcell hxv
      by_cases h0 : 0 < x
      · have HP2 : Hid (∀ v : Nat, 1 ≤ v → v ≤ W + 1 → (0 : Int) < L[v]?.getD 0) := fun v h1 h2 => by
          by_cases e : v = W + 1
          · subst e; rw [HXV.out]; exact h0
          · exact HP.out v h1 (by omega)
        go_wp2
        go_round
        case rel => exact ⟨W + 1, hlt, by go_num, HP2⟩
        case measure => simp [intOf]; omega
      · have HF := Lib.hid (HRes.out W ⟨hW, HP.out, fun h => h0 (by have := h.2; rwa [HXV.out] at this)⟩)
        go_wp2
        go_ret2
        exact ⟨W, true, rfl, HF.out, hB1⟩
    · have HF := Lib.hid (HRes.out W ⟨hW, HP.out, fun h => hlt h.1⟩)
      have hWe : (W : Int) + 1 = L.length := by omega
      have hnl : ¬ ((W : Int) + 1 < (L.length : Int)) := by omega
      clear hcell hWe
      go_wp2
      go_ret2
      exact ⟨W, true, rfl, HF.out, hB1⟩
end Go.Proofs.Ytbpkffpejmlonaa
