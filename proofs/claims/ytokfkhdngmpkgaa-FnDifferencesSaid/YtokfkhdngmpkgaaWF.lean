/- HalfDifferences of the reference. Conditions: stated in each. Ahead of it: HalfGreedy of the reference. Conditions: stated in each. -/
import Derived.Test.YtokfkhdngmpkgaaWS
import Derived.Test.YtokfkhdngmpkgaaIY
import Derived.Test.YtokfkhdngmpkgaaMY
namespace Go.Proofs.Ytokfkhdngmpkgaa
open Go.RowKit

theorem ord_rev {zs L : List Int} (hp : L.Perm zs) (h : InOrd (fun a b => a ≤ b) L L.length) : L.reverse = sortD zs := by
  refine sortD_is ?_ ((List.reverse_perm L).trans hp)
  rw [List.pairwise_reverse]
  exact inOrd_pair h
theorem rev_get (L : List Int) (m : Nat) (hm : m < L.length) : L.reverse[L.length - (m + 1)]?.getD 0 = L[m]?.getD 0 := by
  rw [List.getElem?_reverse (by omega), show L.length - 1 - (L.length - (m + 1)) = m by omega]

set_option maxHeartbeats 800000 in
theorem sHalfGreedy_any (a : Option Addr) (cap : Nat) (zs : List Int) (w : World) (hl : zs.length ≤ 4294967296) (hI : IntsAt w a zs) :
    Calls Try.prog 19 #[.slice a zs.length cap] w (NumPost w (grR zs) (inL zs)) := by
  by_cases hz : inL zs = true
  case neg =>
    have hz' : inL zs = false := by simpa using hz
    rw [grR, if_neg hz, hz']
    have HZ := Lib.hid hz'
    clear hz hz'
    go_enter Try.func19, Try.ntmps19
    go_wp2_with (go_at_call 27; refine (sSumIn_any a cap zs _ hl hI).mono ?_; rw [HZ.out]; rintro e w' ⟨rfl, rfl⟩)
    go_ret2
    exact ⟨rfl, Below.refl _ _⟩
  rw [grR, if_pos hz, hz]
  have hzl := (inL_iff zs).1 hz
  have HZ := Lib.hid hz
  have hgL : good (sortD zs) := perm_good (sortD_perm zs) hzl.2
  have hlen : (sortD zs).length ≤ 10 := by rw [sortD_length]; exact hzl.1
  have hS := l1Sorted_any a cap zs w (by omega) hI
  clear hz
  go_enter Try.func19, Try.ntmps19
  go_wp2_with (first | (go_at_call 27; refine (sSumIn_any a cap zs _ hl hI).mono ?_; rw [HZ.out]; rintro e w' ⟨rfl, rfl⟩) | fail)
  refine hS.mono ?_
  rintro e w1 ⟨v1, L, rfl, HP, HO, hO1, hB1⟩
  have HR := Lib.hid (ord_rev HP.out HO.out)
  have HGr : Hid (greedy (sortD zs) = sz ((gl L.reverse 0 0).1 - (gl L.reverse 0 0).2)) := by show _ = _; rw [HR.out]; rfl
  rw [← HR.out] at hgL hlen
  rw [List.length_reverse] at hlen
  obtain ⟨a1, c1, rfl, hI1, _⟩ := hO1.shape
  clear hS hO1 HP HO HR
  go_wp2
  go_loop [5, 6, 7] (fun f s i => ∃ j : Nat, j ≤ L.length ∧ i = .int .i64 ((j : Int) - 1) ∧ f = .int .i64 (gl (L.reverse.take (L.length - j)) 0 0).1 ∧ s = .int .i64 (gl (L.reverse.take (L.length - j)) 0 0).2) (fun _ _ i => (intOf i + 1).toNat)
  case atStart => exact ⟨L.length, Nat.le_refl _, rfl, by rw [Nat.sub_self]; rfl, by rw [Nat.sub_self]; rfl⟩
  case round =>
    obtain ⟨j, hj, rfl, rfl, rfl⟩ := hrel
    have hr := gl_range hgL (L.length - j)
    rw [List.length_reverse] at hr
    rcases Nat.eq_zero_or_pos j with e0 | h0
    · subst e0
      rw [Nat.sub_zero, List.take_of_length_le (by simp)] at hr ⊢
      generalize gl L.reverse 0 0 = fs at *
      obtain ⟨f, s⟩ := fs
      simp only at hr HGr ⊢
      go_wp2
      all_goals
        go_ret2
        exact ⟨by rw [HGr.out]; exact ret_ib (by unfold sz; omega) rfl, hB1⟩
    · obtain ⟨m, rfl⟩ : ∃ m, j = m + 1 := ⟨j - 1, by omega⟩
      rw [show ((m + 1 : Nat) : Int) - 1 = (m : Int) by omega]
      obtain ⟨b, off, rfl, hb, hcell⟩ := hI1.at (by omega)
      have hx := hcell m (by omega)
      have hgx := good_get hgL (L.length - (m + 1)) (by simp; omega)
      have HT := Lib.hid (gl_take L.reverse (L.length - (m + 1)) (by simp; omega))
      rw [rev_get L m (by omega)] at hgx HT
      rw [show L.length - (m + 1) + 1 = L.length - m by omega] at HT
      generalize L[m]?.getD 0 = x at hx hgx HT
      generalize gl (L.reverse.take (L.length - (m + 1))) 0 0 = fs at *
      obtain ⟨f, s⟩ := fs
      simp only at hr HT ⊢
      clear hcell
      by_cases hfs : f ≤ s
      · have H1 : Hid (gl (L.reverse.take (L.length - m)) 0 0 = (f + x, s)) := by show _ = _; rw [HT.out, if_pos hfs]
        go_wp2
        go_round
        case rel => exact ⟨m, by omega, rfl, by rw [H1.out], by rw [H1.out]⟩
        case measure => simp [intOf] <;> omega
      · have H1 : Hid (gl (L.reverse.take (L.length - m)) 0 0 = (f, s + x)) := by show _ = _; rw [HT.out, if_neg hfs]
        go_wp2
        go_round
        case rel => exact ⟨m, by omega, rfl, by rw [H1.out], by rw [H1.out]⟩
        case measure => simp [intOf] <;> omega
end Go.Proofs.Ytokfkhdngmpkgaa
namespace Go.Proofs.Ytokfkhdngmpkgaa
open Go.RowKit

def slLenF : Value → Nat
  | .slice _ l _ => l
  | _ => 0

/-- the call of l1Sorted as one step of a region that draws -/
theorem stepSorted {ops : Array Oper} {o : Oper} {a : Act} {w : World} {K : Act → World → Prop} {Q : Exit → Act → World → Prop} {E : Prop}
    (hg : o.guard = none) (x : Operand) (hop : o.op = Op.call { callee := Callee.value (Operand.func 34), args := #[x], argTypes := #[23] })
    (v : Value) (hx : a.eval x = v) {R : Ending → World → Prop} (hC : Calls Try.prog 34 #[v] w R) (hR : ∀ e w', R e w' → ∃ u, e = .returned u ∧ K (a.put o.dst u) w') :
    if Region.wanted o (yielded ops a.tmps) = true then Oper.wp Try.prog o a w K Q else E := by
  have hw : Region.wanted o (yielded ops a.tmps) = true := by simp [Region.wanted, hg]
  rw [if_pos hw]
  unfold Oper.wp
  have hm : (#[x] : Array Operand).map a.eval = #[v] := by simp [hx]
  simp only [execOp, hop, resolve, hm]
  go_simp
  refine Calls.mono (R := R) hC fun e w' h => ?_
  obtain ⟨u, rfl, hK⟩ := hR e w' h
  exact hK

set_option maxRecDepth 100000 in
set_option maxHeartbeats 3200000 in
theorem sHalfDifferences_any (a : Option Addr) (cap : Nat) (zs : List Int) (w : World) (hl : zs.length ≤ 4294967296) (hI : IntsAt w a zs) :
    Calls Try.prog 24 #[.slice a zs.length cap] w (NumPost w (dR zs) (inL zs)) := by
  by_cases hz : inL zs = true
  case neg =>
    have hz' : inL zs = false := by simpa using hz
    rw [dR, if_neg hz, hz']
    have HZ := Lib.hid hz'
    clear hz hz'
    go_enter Try.func24, Try.ntmps24
    go_wp2_with (go_at_call 27; refine (sSumIn_any a cap zs _ hl hI).mono ?_; rw [HZ.out]; rintro e w' ⟨rfl, rfl⟩)
    go_ret2
    exact ⟨rfl, Below.refl _ _⟩
  rw [dR, if_pos hz, hz]
  have hzl := (inL_iff zs).1 hz
  have HZ := Lib.hid hz
  have hS := l1Sorted_any a cap zs w (by omega) hI
  have hz10 := hzl.1
  have HG := Lib.hid hzl.2
  clear hz hzl
  go_enter Try.func24, Try.ntmps24
  go_wp2_with (first | (go_at_call 27; refine (sSumIn_any a cap zs _ hl hI).mono ?_; rw [HZ.out]; rintro e w' ⟨rfl, rfl⟩) | fail)
  refine hS.mono ?_
  rintro e w1 ⟨v1, L0, rfl, HP0, HO0, hO1, hB1⟩
  have hl0 : L0.length = zs.length := HP0.out.length_eq
  have HD0 : Hid (diffs zs.length L0.reverse = dfR zs) := by
    show _ = _
    rw [ord_rev HP0.out HO0.out]; rfl
  have HB0 : Hid (∀ z ∈ L0, 0 ≤ z ∧ z ≤ 60) := fun z h => by have := HG.out z (HP0.out.subset h); omega
  rw [hl0] at HO0
  obtain ⟨a1, c1, rfl, _, _⟩ := hO1.shape
  rw [hl0] at hO1 ⊢
  have HL0 := Lib.hid hl0
  clear hS hl0 HP0
  go_wp2
  go_loopw [4] (fun v wr => ∃ (n cp : Nat) (a1 : Option Addr) (L : List Int), n ≤ 10 ∧ v = .slice a1 n cp ∧ Hid (L.length = n) ∧ OwnI wr w.heap.size (.slice a1 n cp) L ∧ Hid (InOrd (fun a b => a ≤ b) L n) ∧ Hid (∀ z ∈ L, 0 ≤ z ∧ z ≤ 60) ∧ Hid (diffs n L.reverse = dfR zs) ∧ Below w.heap.size w wr) (fun v _ => slLenF v)
  case atStart => exact ⟨zs.length, c1, a1, L0, hz10, rfl, HL0, hO1, HO0, HB0, HD0, hB1⟩
  case round =>
    clear HB0 HO0 HL0 HD0 hO1 hB1
    obtain ⟨n, cp, a2, L, hn, rfl, HL, hO, HP, HB, HD, hB⟩ := hrel
    by_cases h2 : 1 < n
    · obtain ⟨g, cp', he, _, hgl, hcell⟩ := hO.at (by have := HL.out; omega)
      simp only [Value.slice.injEq] at he
      obtain ⟨rfl, hq1, hq2⟩ := he
      clear hq1 hq2
      obtain ⟨p, hp⟩ : ∃ p, n = p + 1 := ⟨n - 1, by omega⟩
      obtain ⟨q, hq⟩ : ∃ q, n = q + 2 := ⟨n - 2, by omega⟩
      have hx := (hcell p (by have := HL.out; omega)).1
      have hy := (hcell q (by have := HL.out; omega)).1
      obtain ⟨x, hxv⟩ : ∃ x, L[p]?.getD 0 = x := ⟨_, rfl⟩
      obtain ⟨y, hyv⟩ : ∃ y, L[q]?.getD 0 = y := ⟨_, rfl⟩
      have hxv' : L[n - 1]?.getD 0 = x := by rw [show n - 1 = p by omega]; exact hxv
      have hyv' : L[n - 2]?.getD 0 = y := by rw [show n - 2 = q by omega]; exact hyv
      have hq2 : n - 2 = q := by omega
      have hp2 : n - 1 = p := by omega
      have HS : Hid (∀ M : List Int, M.Perm (L.take (q) ++ [x - y]) → InOrd (fun a b => a ≤ b) M M.length → diffs n L.reverse = diffs (p) M.reverse) := fun M h1 h2' => by have := df_step HL.out (by omega) hxv' hyv' (by rw [hq2]; exact h1) h2'; rwa [hp2] at this
      have HM : Hid (∀ M : List Int, M.Perm (L.take (q) ++ [x - y]) → M.length = p ∧ ∀ z ∈ M, 0 ≤ z ∧ z ≤ 60) := fun M h1 => by have := (df_mem (M := M) HL.out (by omega) hxv' hyv' HP.out HB.out (by rw [hq2]; exact h1)).2; rwa [hp2] at this
      have hxy := (df_mem HL.out (by omega) hxv' hyv' HP.out HB.out (List.Perm.refl _)).1
      rw [hxv] at hx
      rw [hyv] at hy
      have HI1 : Hid (IntsAt wr (some ⟨g, 0, none⟩) (L.take (q))) := .inr ⟨g, 0, rfl, hgl, fun t ht => by
        rw [List.length_take] at ht
        rw [List.getElem?_take, if_pos (by omega), Nat.zero_add]
        exact (hcell t (by have := HL.out; omega)).1⟩
      have HL1 : Hid ((L.take (q)).length = q) := by show _ = _; rw [List.length_take]; have := HL.out; omega
      have hLz : (L.take (q)).length ≤ 1000000 := by rw [HL1.out]; omega
      have HL3 : Hid ((L.take (q) ++ [x - y]).length = p) := by show _ = _; rw [List.length_append, HL1.out]; simp; omega
      have hL12 : (L.take (q) ++ [x - y]).length ≤ 12 := by rw [HL3.out]; omega
      have hcp : n ≤ cp := by
        obtain ⟨a', c', he, _, hc⟩ := hO.shape
        simp only [Value.slice.injEq] at he
        have := HL.out
        omega
      have HO := Lib.hid hO
      have hw1 : IntKind.i64.wrap ((n : Int) - 1) = (p : Int) := by rw [IntKind.wrap_i64]; omega
      have hw2 : IntKind.i64.wrap ((n : Int) - 2) = (q : Int) := by rw [IntKind.wrap_i64]; omega
      have hw3 : IntKind.i64.wrap (x - y) = x - y := by rw [IntKind.wrap_i64]; omega
      have hpn : p < n := by omega
      have hqn : q < n := by omega
      have hqc : q ≤ cp := by omega
      have HPN := Lib.hid hp
      have hp10 : p ≤ 10 := by omega
      clear hcell hxv hyv hO hxv' hyv' hq2 hp2 hp hq
      have OWN0 : Hid (∀ m, OwnI ((wr.drewN m).alloc (.cells #[] 3)) wr.heap.size (.slice (some ⟨wr.heap.size, 0, none⟩) 0 0) []) := fun m => World.ownsRow_lit (wr.drewN m) #[] 0 (Nat.le_refl _) (by unfold maxLen; omega) (by simp)
      have BEL0 : Hid (∀ m, Below wr.heap.size wr ((wr.drewN m).alloc (.cells #[] 3))) := fun m => (belowDr (Below.refl _ wr) m).alloc (Nat.le_refl _) _
      have OWNX : Hid (∀ m, OwnI (((wr.drewN m).alloc (.cells #[.int .i64 (x - y)] 3)).alloc (.cells #[] 3)) wr.heap.size (.slice (some ⟨wr.heap.size + 1, 0, none⟩) 0 0) []) := fun m => by
        have := World.ownsRow_lit (base := wr.heap.size) (e := 3) (size := 1) ((wr.drewN m).alloc (.cells #[.int .i64 (x - y)] 3)) #[] 0 (by simp) (by unfold maxLen; omega) (by simp)
        unfold OwnI
        simpa using this
      have BELX : Hid (∀ m, Below wr.heap.size wr (((wr.drewN m).alloc (.cells #[.int .i64 (x - y)] 3)).alloc (.cells #[] 3))) := fun m => ((belowDr (Below.refl _ wr) m).alloc (Nat.le_refl _) _).alloc (by simp) _
      have HNX : Hid (∀ m, IntsAt (((wr.drewN m).alloc (.cells #[.int .i64 (x - y)] 3)).alloc (.cells #[] 3)) (some ⟨wr.heap.size, 0, none⟩) [x - y]) := fun m => (ints_new1 (wr.drewN m) (x - y)).below ((Below.refl _ _).alloc (Nat.le_refl _) _)
      have hx0 : ∀ m, ((wr.drewN m).alloc (.cells #[] 3)).cell? ⟨g, p, none⟩ = some (.int .i64 x) := fun m => ((BEL0.out m).cell (p := ⟨g, p, none⟩) hgl).trans hx
      have hy0 : ∀ m, ((wr.drewN m).alloc (.cells #[] 3)).cell? ⟨g, q, none⟩ = some (.int .i64 y) := fun m => ((BEL0.out m).cell (p := ⟨g, q, none⟩) hgl).trans hy
      have HN1 : Hid (∀ m, IntsAt (((wr.drewN m).alloc (.cells #[] 3)).alloc (.cells #[.int .i64 (x - y)] 3)) (some ⟨wr.heap.size + 1, 0, none⟩) [x - y]) := fun m => by have := ints_new1 ((wr.drewN m).alloc (.cells #[] 3)) (x - y); simpa using this
      go_wp2_with fail
      go_region_law (first
        | (refine stepSl rfl (.tmp 16) (.tmp 20) rfl wr.heap.size (.slice (some ⟨wr.heap.size, 0, none⟩) 0 0) [] (L.take (q)) ⟨g, 0, none⟩ (q) cp (by simp [Act.eval, Act.put]) (by simp [Act.eval, Act.put]) HL1.out (OWN0.out 1) (by simp) hLz (HI1.out.below (BEL0.out 1)) (BEL0.out 1).size ?_; intro v1 W1 hO1 hG1 hat1; have hb1 : Below wr.heap.size wr W1 := below_grown (BEL0.out 1) (OWN0.out 1) (Nat.le_refl _) hG1 (BEL0.out 1).size; have hx1 : W1.cell? ⟨g, p, none⟩ = some (.int .i64 x) := (hb1.cell (p := ⟨g, p, none⟩) hgl).trans hx; have hy1 : W1.cell? ⟨g, q, none⟩ = some (.int .i64 y) := (hb1.cell (p := ⟨g, q, none⟩) hgl).trans hy)
        | (refine stepSl rfl (.tmp 21) (.tmp 33) rfl wr.heap.size v1 (L.take (q)) [x - y] ⟨W1.heap.size, 0, none⟩ 1 1 (by simp [Act.eval, Act.put]) (by simp [Act.eval, Act.put]) rfl (hO1.alloc _) hLz (by simp) (ints_new1 W1 (x - y)) (by have := hb1.size; simp; omega) ?_; intro v2 W2 hO2 hG2 hat2; have hb2 : Below wr.heap.size wr W2 := below_grown (hb1.alloc hb1.size _) (hO1.alloc _) (Nat.le_refl _) hG2 (by have := hb1.size; simp; omega))
        | (refine stepSl rfl (.tmp 16) (.tmp 20) rfl wr.heap.size (.slice (some ⟨wr.heap.size, 0, none⟩) 0 0) [] (L.take (q)) ⟨g, 0, none⟩ (q) cp (by simp [Act.eval, Act.put]) (by simp [Act.eval, Act.put]) HL1.out ((OWN0.out 1).alloc _) (by simp) hLz (HI1.out.below ((BEL0.out 1).alloc (BEL0.out 1).size _)) ((BEL0.out 1).alloc (BEL0.out 1).size _).size ?_; intro v1 W1 hO1 hG1 hat1; have hb1 : Below wr.heap.size wr W1 := below_grown ((BEL0.out 1).alloc (BEL0.out 1).size _) ((OWN0.out 1).alloc _) (Nat.le_refl _) hG1 ((BEL0.out 1).alloc (BEL0.out 1).size _).size; have hN : IntsAt W1 (some ⟨wr.heap.size + 1, 0, none⟩) [x - y] := ints_grown (HN1.out 1) hG1 (by simp [Value.ownBlock]))
        | (refine stepSl rfl (.tmp 21) (.tmp 33) rfl wr.heap.size v1 (L.take (q)) [x - y] ⟨wr.heap.size + 1, 0, none⟩ 1 1 (by simp [Act.eval, Act.put]) (by simp [Act.eval, Act.put]) rfl hO1 hLz (by simp) hN hb1.size ?_; intro v2 W2 hO2 hG2 hat2; have hb2 : Below wr.heap.size wr W2 := below_grown hb1 hO1 (Nat.le_refl _) hG2 hb1.size)
        | (refine stepSl rfl (.tmp 16) (.tmp 20) rfl wr.heap.size (.slice (some ⟨wr.heap.size + 1, 0, none⟩) 0 0) [] (L.take (q)) ⟨g, 0, none⟩ (q) cp (by simp [Act.eval, Act.put]) (by simp [Act.eval, Act.put]) HL1.out (OWNX.out 1) (by simp) hLz (HI1.out.below (BELX.out 1)) (BELX.out 1).size ?_; intro v1 W1 hO1 hG1 hat1; have hb1 : Below wr.heap.size wr W1 := below_grown (BELX.out 1) (OWNX.out 1) (Nat.le_refl _) hG1 (BELX.out 1).size; have hN : IntsAt W1 (some ⟨wr.heap.size, 0, none⟩) [x - y] := ints_grown (HNX.out 1) hG1 (by simp [Value.ownBlock]))
        | (refine stepSl rfl (.tmp 21) (.tmp 33) rfl wr.heap.size v1 (L.take (q)) [x - y] ⟨wr.heap.size, 0, none⟩ 1 1 (by simp [Act.eval, Act.put]) (by simp [Act.eval, Act.put]) rfl hO1 hLz (by simp) hN hb1.size ?_; intro v2 W2 hO2 hG2 hat2; have hb2 : Below wr.heap.size wr W2 := below_grown hb1 hO1 (Nat.le_refl _) hG2 hb1.size)
        | (obtain ⟨a3, c3, rfl, hI3, _⟩ := hO2.shape; refine stepSorted rfl (.tmp 34) rfl (.slice a3 (L.take (q) ++ [x - y]).length c3) (by simp [Act.eval, Act.put]) (l1Sorted_any a3 c3 _ W2 hL12 hI3) ?_; rintro e w3 ⟨v3, M, rfl, HPM, HIM, hO3, hB3⟩; refine ⟨_, rfl, ?_⟩))
      all_goals
        have hMl := (HM.out M HPM.out).1
        obtain ⟨a4, c4, rfl, _, _⟩ := hO3.shape
        have HI4 := Lib.hid HIM.out
        rw [hMl] at hO3 HI4 ⊢
        have HO3 := Lib.hid hO3
        have HML := Lib.hid hMl
        clear hO3 hMl
        go_wp2
        simp only [List.getElem_toArray, List.getElem_cons_succ, List.getElem_cons_zero, Act.put, List.setIfInBounds_toArray, List.set_cons_succ, List.set_cons_zero]
        go_roundw
        case rel => exact ⟨p, c4, a4, M, hp10, rfl, HML, HO3.out.mono (Nat.le_trans hB.size hb2.size), HI4, (HM.out M HPM.out).2, (Eq.trans (HS.out M HPM.out HIM.out).symm HD.out), (hB.trans (hb2.mono hB.size)).trans (hB3.mono (Nat.le_trans hB.size hb2.size))⟩
        case measure => simp [slLenF]; omega
    · rcases Nat.eq_zero_or_pos n with h0 | h0
      · subst h0
        have HD0 : Hid (dfR zs = 0) := by
          have h1 : L = [] := List.eq_nil_of_length_eq_zero HL.out
          have h2 := HD.out
          rw [h1] at h2
          exact h2.symm
        go_wp2
        go_ret2
        exact ⟨by rw [HD0.out]; rfl, hB⟩
      · obtain rfl : n = 1 := by omega
        obtain ⟨g, cp', he, _, hgl, hcell⟩ := hO.at (by have := HL.out; omega)
        simp only [Value.slice.injEq] at he
        obtain ⟨rfl, _, _⟩ := he
        have hx := (hcell 0 (by have := HL.out; omega)).1
        have HD0 : Hid (dfR zs = L[0]?.getD 0) := by
          show _ = _
          rw [← HD.out]
          match L, HL.out with
          | [x], _ => rfl
        generalize L[0]?.getD 0 = x at hx HD0
        clear hcell
        go_wp2
        go_ret2
        exact ⟨by rw [HD0.out]; rfl, hB⟩
end Go.Proofs.Ytokfkhdngmpkgaa
