/- PanWeighed of the program, with its list. Conditions: stated in each. -/
import Derived.Laws.EntriesVeiled
import Derived.Deep.RegionWith
import Derived.Test.YtmggcfilkiklbaaDoorMF
import Derived.Test.YtmggcfilkiklbaaDoorRF
import Derived.Test.YtmggcfilkiklbaaDoorIC
namespace Go.Proofs.YtmggcfilkiklbaaDoor
open Go.RowKit Go.Shelf

/-- the closure's three boxes, and the signs T -/
def PtBx (W : World) (bA bW bP g n base : Nat) (a : Option Addr) (cap : Nat) (T : List Int) : Prop :=
  (Boxed W bA 23 (.slice a n cap) ∧ Boxed W bW 23 (.slice (some ⟨g, 0, none⟩) n n) ∧ Boxed W bP 51 (.func (.func 26) #[] #[.pointer (some ⟨bA, 0, none⟩), .pointer (some ⟨bW, 0, none⟩), .pointer (some ⟨bP, 0, none⟩)])) ∧
    T.length = n ∧ OwnI W base (.slice (some ⟨g, 0, none⟩) n n) T
def PT1Post (w0 : World) (bA bW bP g n base : Nat) (a : Option Addr) (cap : Nat) (T0 : List Int) (place : Nat) (f : Option (List Int)) (e : Ending) (w' : World) : Prop :=
  e = .returned (.bool f.isSome) ∧ (∃ T, PtBx w' bA bW bP g n base a cap T ∧ T.take place = T0.take place ∧ (∀ W, f = some W → T.drop place = W)) ∧ Below w0.heap.size w0 w'
theorem PtBx.drew {W : World} {bA bW bP g n base : Nat} {a : Option Addr} {cap : Nat} {T : List Int} (h : PtBx W bA bW bP g n base a cap T) : PtBx W.drew bA bW bP g n base a cap T := h
theorem wrap_mT {m x : Int} (hm : -2000 ≤ m ∧ m ≤ 2000) (hx : 1 ≤ x ∧ x ≤ 60) (s : Int) (hs : s = -1 ∨ s = 0 ∨ s = 1) : IntKind.i64.wrap (m - IntKind.i64.wrap (s * x)) = m - s * x := by
  have hb : -60 ≤ s * x ∧ s * x ≤ 60 := by rcases hs with rfl | rfl | rfl <;> omega
  rw [IntWalk.i64_in (s * x) (by omega), IntWalk.i64_in _ (by omega)]
theorem take_after {T T0 T1 : List Int} {place : Nat} {s : Int} (hp : place < T1.length) (h1 : T1.take place = T0.take place) (h : T.take (place + 1) = (T1.set place s).take (place + 1)) : T.take place = T0.take place ∧ (place < T.length → T.drop place = s :: T.drop (place + 1)) := by
  have h2 : T.take place = T0.take place := by
    have := congrArg (List.take place) h
    rw [List.take_take, List.take_take, Nat.min_eq_left (by omega), List.take_set_of_le (by omega)] at this
    rw [this, h1]
  refine ⟨h2, fun hl => ?_⟩
  rw [List.drop_eq_getElem_cons hl]
  congr 1
  have h3 := congrArg (fun L : List Int => L[place]?) h
  simp only [List.getElem?_take, show place < place + 1 by omega, if_true] at h3
  rw [List.getElem?_eq_getElem hl, List.getElem?_set_self hp] at h3
  simpa using h3

set_option maxRecDepth 100000 in
set_option maxHeartbeats 3200000 in
theorem PT1_any (a : Option Addr) (cap : Nat) (zs : List Int) (bA bW bP g base : Nat) (hne : bA ≠ g ∧ bW ≠ g ∧ bP ≠ g) (hg : good zs) (hl : zs.length ≤ 10) (w0 : World) (h0 : w0.heap.size ≤ g) (hI0 : IntsAt w0 a zs) : ∀ (k place : Nat) (p q m : Int) (T0 : List Int) (w : World), p = (place : Int) → q = m → place + k = zs.length → (-(1000 + 60 * (place : Int)) ≤ m ∧ m ≤ 1000 + 60 * place) → PtBx w bA bW bP g zs.length base a cap T0 → Below w0.heap.size w0 w →
    Calls Tryd.prog 26 #[.int .i64 p, .int .i64 q, .pointer (some ⟨bA, 0, none⟩), .pointer (some ⟨bW, 0, none⟩), .pointer (some ⟨bP, 0, none⟩)] w
      (PT1Post w0 bA bW bP g zs.length base a cap T0 place (fw (zs.drop place) m)) := by
  intro k
  induction k with
  | zero =>
    intro place p q m T0 w hpp hqq hp hm hx hB
    subst hpp hqq
    have cA := hx.1.1.cell
    obtain rfl : place = zs.length := by omega
    rw [List.drop_length]
    have HX := Lib.hid hx
    clear hx
    have hpl2 : ((zs.length : Int) == (zs.length : Int)) = true := by simp
    have HF : Hid ((fw [] q).isSome = (q == 0)) := by show _ = _; rw [fw]; by_cases e : q = 0 <;> simp [e]
    have HD : Hid (∀ W, fw [] q = some W → T0.drop zs.length = W) := fun W h => by
      rw [fw] at h
      split at h
      · simp only [Option.some.injEq] at h
        subst h
        rw [← HX.out.2.1, List.drop_length]
      · cases h
    go_enter Tryd.func26, Tryd.ntmps26
    go_wp2
    go_ret
    exact ⟨by rw [HF.out]; rfl, ⟨T0, HX.out, rfl, HD.out⟩, hB⟩
  | succ k ih =>
    intro place p q m T0 w hpp hqq hp hm hx hB
    subst hpp hqq
    obtain ⟨bb, off, rfl, hbb, hcell⟩ := (hI0.below hB).at (by omega)
    have hgx := good_get hg place (by omega)
    have hdr : zs.drop place = zs[place]?.getD 0 :: zs.drop (place + 1) := by
      rw [List.drop_eq_getElem_cons (by omega), List.getElem?_eq_getElem (by omega)]; rfl
    have HD := Lib.hid hdr
    clear hdr hcell
    obtain ⟨x, hxv⟩ : ∃ x, zs[place]?.getD 0 = x := ⟨_, rfl⟩
    rw [hxv] at hgx HD
    have cA := hx.1.1.cell
    have HX := Lib.hid hx
    have hpl : place ≤ 10 := by omega
    have HP := Lib.hid hp
    have hlt : place < zs.length := by omega
    have hrd : ∀ W, Below w0.heap.size w0 W → W.cell? ⟨bb, off + place, none⟩ = some (.int .i64 x) := fun W hW => by
      obtain ⟨bb2, off2, he, _, hcell⟩ := (hI0.below hW).at (by omega)
      simp only [Option.some.injEq, Addr.mk.injEq, and_true] at he
      obtain ⟨rfl, rfl⟩ := he
      rw [hcell place hlt, hxv]
    have HRD := Lib.hid hrd
    have hpl2 : ((place : Int) == (zs.length : Int)) = false := by simp; omega
    have HNS := Lib.hid (noneW_start (zs.drop (place + 1)) x q)
    clear hp hxv hx hrd
    go_enter Tryd.func26, Tryd.ntmps26
    go_wp2_with fail
    go_loopw [8] (fun i wr => ∃ (s : Int) (T : List Int), -1 ≤ s ∧ s ≤ 2 ∧ i = .int .i64 s ∧ Hid (NoneW (zs.drop (place + 1)) x q s) ∧ Hid (PtBx wr bA bW bP g zs.length base (some ⟨bb, off, none⟩) cap T) ∧ Hid (T.take place = T0.take place) ∧ Below w0.heap.size w0 wr) (fun i _ => (2 - intOf i).toNat)
    case atStart => exact ⟨-1, T0, by omega, by omega, rfl, HNS, HX, rfl, hB⟩
    case round =>
      obtain ⟨s, T, hs1, hs2, rfl, HNY, HPB, HTK, hBr⟩ := hrel
      clear HX cA hB HNS
      by_cases hs3 : s ≤ 1
      · have hcs : s = -1 ∨ s = 0 ∨ s = 1 := by omega
        have HCS := Lib.hid hcs
        obtain ⟨⟨h1, h2, h3⟩, hT, hO⟩ := HPB.out
        have cW := h2.cell
        obtain ⟨g', cp', he, _, hgl, hcell⟩ := hO.at (by omega)
        simp only [Value.slice.injEq, Option.some.injEq, Addr.mk.injEq, and_true] at he
        obtain ⟨rfl, hq1, hq2⟩ := he
        clear hq1 hq2
        have hx1 := (hcell place (by omega)).1
        have hf1 := (hcell place (by omega)).2
        have hHT := Lib.hid hT
        have HO := Lib.hid hO
        clear hcell hT hO hcs
        go_wp2_with fail
        have k1 : PtBx (wr.setCell ⟨g, place, none⟩ (.int .i64 s)) bA bW bP g zs.length base (some ⟨bb, off, none⟩) cap (T.set place s) :=
          ⟨⟨h1.keptSet' (by omega) _, h2.keptSet' (by omega) _, h3.keptSet' (by omega) _⟩, by rw [List.length_set]; exact hHT.out, HO.out.put hHT.out place s⟩
        have kB : Below w0.heap.size w0 (wr.setCell ⟨g, place, none⟩ (.int .i64 s)) := hBr.setCell (p := ⟨_, _, none⟩) h0 _
        have HTA : Hid (∀ T2 : List Int, T2.take (place + 1) = (T.set place s).take (place + 1) → T2.take place = T0.take place ∧ (place < T2.length → T2.drop place = s :: T2.drop (place + 1))) := fun T2 h => take_after (by rw [hHT.out]; exact hlt) HTK.out h
        generalize (wr.setCell ⟨g, place, none⟩ (.int .i64 s)) = w3 at k1 kB ⊢
        clear h1 h2 h3 cW hx1 hf1 HO hHT HPB HTK
        have cA := k1.1.1.cell
        have cP := k1.1.2.2.cell
        have hxc := HRD.out _ kB
        have K1 := Lib.hid k1
        clear k1
        have hsx : -60 ≤ s * x ∧ s * x ≤ 60 := by rcases HCS.out with rfl | rfl | rfl <;> omega
        go_region_with (go_at_call 26; refine (ih (place + 1) _ _ (q - s * x) (T.set place s) _ ((IntWalk.i64_in _ (by omega)).trans (by omega)) (wrap_mT (by omega) hgx s HCS.out) (by have := HP.out; omega) (by omega) ?_ ?_).mono ?_; (exact K1.out.drew); (exact kB.drew); rintro e w4 ⟨rfl, ⟨T2, k2, k3, k4⟩, kB4⟩)
        all_goals
          have K2 := Lib.hid k2
          have K3 := Lib.hid k3
          have K4 := Lib.hid k4
          clear k2 k3 k4 K1 cA cP hxc hsx
          obtain ⟨f, hf⟩ : ∃ f, fw (zs.drop (place + 1)) (q - s * x) = f := ⟨_, rfl⟩
          rw [hf] at K4 ⊢
          have HFF := Lib.hid hf
          clear hf
          cases f with
          | some V =>
            have HR : Hid (fw (zs.drop place) q = some (s :: V)) := by show _ = _; rw [HD.out]; exact noneW_hit (by omega) HNY.out HFF.out
            go_wp2
            go_ret
            refine ⟨by rw [HR.out]; rfl, ⟨T2, K2.out, (HTA.out T2 K3.out).1, fun W hW => ?_⟩, kB4⟩
            rw [HR.out] at hW
            simp only [Option.some.injEq] at hW
            rw [← hW, (HTA.out T2 K3.out).2 (by rw [K2.out.2.1]; exact hlt), K4.out V rfl]
          | none =>
            have HN := Lib.hid (HNY.out.next HFF.out)
            have HT2 : Hid (T2.take place = T0.take place) := (HTA.out T2 K3.out).1
            go_wp2
            go_roundw
            case rel => exact ⟨s + 1, T2, by omega, by omega, by go_num, HN, K2, HT2, kB4⟩
            case measure => simp [intOf]; omega
      · obtain rfl : s = 2 := by omega
        have HR : Hid (fw (zs.drop place) q = none) := by show _ = _; rw [HD.out]; exact noneW_end HNY.out
        go_wp2
        go_ret
        exact ⟨by rw [HR.out]; rfl, ⟨T, HPB.out, HTK.out, fun W hW => by rw [HR.out] at hW; cases hW⟩, hBr⟩

set_option maxRecDepth 100000 in
set_option maxHeartbeats 1600000 in
theorem PanWeighed_any (a : Option Addr) (cap : Nat) (zs : List Int) (v : Int) (w : World) (hl : zs.length ≤ 4294967296) (hI : IntsAt w a zs) :
    Calls Tryd.prog 11 #[.slice a zs.length cap, .int .i64 v] w (ListR w (wgO zs v).isSome (wgL (wgO zs v))) := by
  have hB0 : ∀ o, Below w.heap.size w (w.alloc o) := fun o => (Below.refl _ w).alloc (Nat.le_refl _) _
  have hI1 := hI.below (hB0 (.cells #[.slice a zs.length cap] 23))
  by_cases hz : inL zs = true
  case neg =>
    have hz' : inL zs = false := by simpa using hz
    have hR : wgO zs v = none := by rw [wgO, if_neg (fun h => hz h.1)]
    rw [hR]
    have HZ := Lib.hid hz'
    clear hz hz' hR
    have HO := World.ownsRow_lit (base := w.heap.size) (e := 3) (size := 1) (w.alloc (.cells #[.slice a zs.length cap] 23)) #[] 0 (by simp) (by unfold maxLen; omega) (by simp)
    go_enter Tryd.func11, Tryd.ntmps11
    go_wp2_with (first | (go_at_call 16; refine (SumIn_any a cap zs _ (by omega) hI1).mono ?_; rw [HZ.out]; rintro e w' ⟨rfl, rfl⟩))
    go_ret2
    exact ⟨_, rfl, by unfold OwnI; simpa [wgL] using HO, (hB0 _).alloc (by simp) _⟩
  have hzl := (inL_iff zs).1 hz
  have htb := tot_bd hzl.2
  have HZ := Lib.hid hz
  by_cases hv : 0 ≤ v ∧ v ≤ tot zs
  case neg =>
    have hR : wgO zs v = none := by rw [wgO, if_neg (fun h => hv h.2)]
    rw [hR]
    clear hz hR
    have hc : v < 0 ∨ (0 ≤ v ∧ tot zs < v) := by omega
    have HO := World.ownsRow_lit (base := w.heap.size) (e := 3) (size := 1) (w.alloc (.cells #[.slice a zs.length cap] 23)) #[] 0 (by simp) (by unfold maxLen; omega) (by simp)
    rcases hc with hc | hc
    all_goals
      go_enter Tryd.func11, Tryd.ntmps11
      go_wp2_with (first | (go_at_call 16; refine (SumIn_any a cap zs _ (by omega) hI1).mono ?_; rw [HZ.out]; rintro e w' ⟨rfl, rfl⟩) | (go_at_call 25; refine (totalOf_any a cap zs _ (by omega) hzl.2 hI1).mono ?_; rintro e w' ⟨rfl, rfl⟩))
      go_ret2
      exact ⟨_, rfl, by unfold OwnI; simpa [wgL] using HO, (hB0 _).alloc (by simp) _⟩
  have hR : wgO zs v = fw zs v := by rw [wgO, if_pos ⟨hz, hv⟩]
  rw [hR]
  clear hz hR
  go_enter Tryd.func11, Tryd.ntmps11
  go_wp2_with (first | (go_at_call 16; refine (SumIn_any a cap zs _ (by omega) hI1).mono ?_; rw [HZ.out]; rintro e w' ⟨rfl, rfl⟩) | (go_at_call 25; refine (totalOf_any a cap zs _ (by omega) hzl.2 hI1).mono ?_; rintro e w' ⟨rfl, rfl⟩) | (at_make; refine makeI _ rfl _ _ rfl zs.length _ rfl rfl (by first | rfl | simp) (by omega) ?_; intro w1 hO1 hG1))
  simp only [World.size_alloc] at hO1
  have hs1 : w.heap.size + 1 < w1.heap.size := (hO1.lt _ rfl).2
  have b1 : Boxed w1 w.heap.size 23 (.slice a zs.length cap) := (Boxed.new w 23 (.slice a zs.length cap)).kept hG1 (by simp)
  have b2 := Boxed.new w1 23 (.slice (some ⟨w.heap.size + 1, 0, none⟩) zs.length zs.length)
  have b3 := Boxed.new (w1.alloc (.cells #[.slice (some ⟨w.heap.size + 1, 0, none⟩) zs.length zs.length] 23)) 51 (.func (.func 26) #[] #[.pointer (some ⟨w.heap.size, 0, none⟩), .pointer (some ⟨w1.heap.size, 0, none⟩), .pointer (some ⟨w1.heap.size + 1, 0, none⟩)])
  simp only [World.size_alloc] at b3
  have hB1 : Below w.heap.size w w1 := (hB0 _).grown hG1 (by simp) (fun k hk => by cases hk)
  clear hG1
  refine (PT1_any a cap zs w.heap.size w1.heap.size (w1.heap.size + 1) (w.heap.size + 1) (w.heap.size + 1) (by omega) hzl.2 hzl.1 w (by omega) hI zs.length 0 0 v v (List.replicate zs.length 0) _ rfl rfl (by omega) (by omega) ?_ ?_).mono ?_
  · exact ⟨⟨(b1.alloc _).alloc _, b2.alloc _, b3⟩, List.length_replicate .., (hO1.alloc _).alloc _⟩
  · exact (hB1.alloc (by omega) _).alloc (by simp; omega) _
  · rintro e w2 ⟨rfl, ⟨T, hS, _, hT⟩, hB2⟩
    have c2 := hS.1.2.1.cell
    have HO2 := Lib.hid hS.2.2
    clear hS b1 b2 b3 hO1
    rw [List.drop_zero] at hT
    rw [List.drop_zero]
    obtain ⟨f, hf⟩ : ∃ f, fw zs v = f := ⟨_, rfl⟩
    rw [hf]
    rw [hf] at hT
    cases f with
    | some V =>
      have HT := Lib.hid (hT V rfl)
      clear hT
      go_wp2
      go_ret2
      refine ⟨_, by rw [hf]; rfl, ?_, hB2⟩
      rw [hf]
      have := HT.out
      rw [List.drop_zero] at this
      show OwnI _ _ _ V
      rw [← this]
      exact HO2.out.mono (by omega)
    | none =>
      clear hT
      have HO := World.ownsRow_lit (base := w.heap.size) (e := 3) (size := 1) w2 #[] 0 hB2.size (by unfold maxLen; omega) (by simp)
      go_wp2
      go_ret2
      refine ⟨_, by rw [hf]; rfl, ?_, hB2.alloc hB2.size _⟩
      rw [hf]
      exact HO
end Go.Proofs.YtmggcfilkiklbaaDoor
