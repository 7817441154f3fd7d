/- HalfDifferences of the program. Conditions: stated in each. Ahead of it: HalfDifferences of the program. Conditions: stated in each. -/
import Derived.ArgAppend
import Derived.Test.YtokfkhdngmpkgaaIY
import Derived.Test.YtokfkhdngmpkgaaMY
namespace Go.Proofs.Ytokfkhdngmpkgaa
open Go.RowKit

theorem own_cap {w : World} {base g n cp : Nat} {L : List Int} (h : OwnI w base (.slice (some ⟨g, 0, none⟩) n cp) L) : base ≤ g ∧ g < w.heap.size ∧ n ≤ cp ∧ ∀ j, j < cp → (w.cell? ⟨g, j, none⟩).isSome = true ∧ w.frozen? ⟨g, j, none⟩ = false := by
  have hn := h.isLen
  subst hn
  have hf := World.ownsRow.frozenAt h
  rcases h.2 with ⟨h', _⟩ | ⟨g', cap', cur, h', hb, hg, hn, _, hs, _⟩
  · simp at h'
  · simp only [Value.slice.injEq, Option.some.injEq, Addr.mk.injEq, and_true, true_and] at h'
    obtain ⟨rfl, rfl⟩ := h'
    refine ⟨hb, (Array.getElem?_eq_some_iff.1 hg).1, hn, fun j hj => ⟨?_, hf j⟩⟩
    rw [Nat.mul_one] at hs
    simp only [World.cell?, hg]
    simp [hs, hj]
/-- append of one number behind the first two of an owned row are dropped -/
theorem appendTail (w : World) {ops : Array Oper} {rest : List Oper} {o : Oper} {a : Act} {Q : Exit → Act → World → Prop} (hgd : o.guard = none) (s x : Operand)
    (ho : o.op = .call { callee := .builtin .append, args := #[s, x], argTypes := #[23, 23] }) (base g n cp : Nat) (L : List Int) (d : Int) (A : Addr)
    (hA : (if cp = 2 then some (⟨g, 0, none⟩ : Addr) else some ⟨g, 2, none⟩) = some A)
    (hs : a.eval s = .slice (some A) (n - 2) (cp - 2)) (hx : a.eval x = .slice (some ⟨w.heap.size, 0, none⟩) 1 1) (hown : OwnI w base (.slice (some ⟨g, 0, none⟩) n cp) L) (hL : L.length = n) (h2 : 2 ≤ n) (hn : n ≤ 1000) (hbase : base ≤ w.heap.size)
    (h : ∀ a' c' w', IntsAt w' a' (L.drop 2 ++ [d]) → Below base w w' → wpList Try.prog ops Q rest (a.put o.dst (.slice a' (n - 1) c')) w') :
    wpList Try.prog ops Q (o :: rest) a (w.alloc (.cells #[.int .i64 d] 3)) := by
  obtain ⟨i0, hi, hz0, hz1, hz2⟩ := info_parts Try.infoInt
  obtain ⟨c1, c2, c3, c4⟩ := own_cap hown
  have hl2 : (L.drop 2).length = n - 2 := by rw [List.length_drop, hL]
  have hcell := ((hown.alloc (.cells #[.int .i64 d] 3)).at (by omega))
  obtain ⟨g', cp', he, _, hgl, hcell⟩ := hcell
  simp only [Value.slice.injEq, Option.some.injEq, Addr.mk.injEq, and_true] at he
  obtain ⟨rfl, _, _⟩ := he
  have holds : ∀ j u, ((L.drop 2).map (Value.int .i64))[j]? = some u → (w.alloc (.cells #[.int .i64 d] 3)).cell? ⟨g, 2 + j, none⟩ = some u := by
    intro j u hj
    have hj2 : j < n - 2 := by
      have := (List.getElem?_eq_some_iff.1 hj).1
      rw [List.length_map, hl2] at this; exact this
    rw [(hcell (2 + j) (by omega)).1]
    rw [List.getElem?_map, List.getElem?_drop] at hj
    rw [← hj, List.getElem?_eq_getElem (by omega)]
    simp
  have hB0 : Below base w (w.alloc (.cells #[.int .i64 d] 3)) := (Below.refl _ _).alloc hbase _
  have hgrow : ∀ v' w', w'.ownsRow (w.alloc (.cells #[.int .i64 d] 3)).heap.size 3 1 v' (n - 2 + 1) ((L.drop 2).map (Value.int .i64) ++ [.int .i64 d]) → (w.alloc (.cells #[.int .i64 d] 3)).grownBy w' none → wpList Try.prog ops Q rest (a.put o.dst v') w' := by
    intro v' w' h1 h3
    have hO : OwnI w' (w.alloc (.cells #[.int .i64 d] 3)).heap.size v' (L.drop 2 ++ [d]) := by
      unfold OwnI
      rw [List.length_append, hl2, List.map_append]
      exact h1
    obtain ⟨a', c', rfl, hI, _⟩ := hO.shape
    rw [List.length_append, hl2, show n - 2 + [d].length = n - 1 by simp; omega]
    exact h a' c' w' hI (hB0.grown h3 (by simp; omega) (fun k hk => by cases hk))
  by_cases e : cp = 2
  · rw [if_pos e] at hA
    simp only [Option.some.injEq] at hA
    subst hA
    subst e
    obtain rfl : n = 2 := by omega
    have hd : L.drop 2 = [] := List.eq_nil_of_length_eq_zero (by omega)
    rw [hd] at hgrow
    exact wpList_append_grows _ hgd s x 23 ho 3 i0 (.int .i64 0) 1 8 Try.underlying23 hi hz0 hz1 hz2 rfl (by decide) (some ⟨g, 0, none⟩) 0 0 [] hs (by simp) rfl (by simp) ⟨w.heap.size, 0, none⟩ 1 1 [.int .i64 d] hx rfl (cell_one_new' _ _ _) (by simp [Value.oneCell']) (by omega) (by unfold maxLen; omega) (by omega) hgrow
  · rw [if_neg e] at hA
    simp only [Option.some.injEq] at hA
    subst hA
    refine wpList_append_arg _ hgd s x 23 ho 3 i0 (.int .i64 0) 1 8 Try.underlying23 hi hz0 hz1 hz2 rfl (by decide) g 2 (n - 2) (cp - 2) ((L.drop 2).map (Value.int .i64)) hs (by rw [List.length_map, hl2, Nat.mul_one]) holds ⟨w.heap.size, 0, none⟩ 1 1 [.int .i64 d] hx rfl (cell_one_new' _ _ _) (by simp [Value.oneCell']) ?_ (by unfold maxLen; omega) (by omega) ?_ (fun _ => hgrow)
    · intro hr j hj
      obtain ⟨_, _, _, c4⟩ := own_cap (hown.alloc (.cells #[.int .i64 d] 3))
      obtain rfl : j = 0 := by simpa using hj
      have := c4 (2 + (n - 2) * 1 + 0) (by omega)
      exact this
    · intro hr
      have e1 : 2 + (n - 2) * 1 = n := by omega
      rw [e1, show n - 2 + 1 = n - 1 by omega]
      refine h (some ⟨g, 2, none⟩) (cp - 2) _ ?_ (hB0.setCell (p := ⟨g, n, none⟩) c1 _)
      refine .inr ⟨g, 2, rfl, ?_, fun t ht => ?_⟩
      · show g < ((w.alloc (.cells #[.int .i64 d] 3)).setCell ⟨g, n, none⟩ (.int .i64 d)).heap.size
        simp; omega
      rw [List.length_append, hl2] at ht
      have ht2 : t < n - 2 + 1 := ht
      obtain ⟨_, _, _, c4⟩ := own_cap (hown.alloc (.cells #[.int .i64 d] 3))
      by_cases et : t = n - 2
      · subst et
        have hc := World.cell?_setCells_in g [.int .i64 d] n (w.alloc (.cells #[.int .i64 d] 3)) (fun j hj => by simp at hj; subst hj; exact (c4 n (by omega)).1) 0 (by simp)
        rw [Nat.add_zero] at hc
        rw [show 2 + (n - 2) = n by omega, List.getElem?_append_right (by omega), hl2, Nat.sub_self]
        exact hc
      · have hc := World.cell?_setCells_out g [.int .i64 d] n (w.alloc (.cells #[.int .i64 d] 3)) ⟨g, 2 + t, none⟩ (fun _ _ => .inl (by show 2 + t < n; omega))
        refine hc.trans ?_
        rw [List.getElem?_append_left (by omega), List.getElem?_drop]
        exact (hcell (2 + t) (by omega)).1
end Go.Proofs.Ytokfkhdngmpkgaa
namespace Go.Proofs.Ytokfkhdngmpkgaa
open Go.RowKit

theorem inOrder_n (a : Option Addr) (n cap : Nat) (zs : List Int) (w : World) (hn : zs.length = n) (hl : n ≤ 19) (hI : IntsAt w a zs) :
    Calls Try.prog 35 #[.slice a n cap, .func (.func 36) #[] #[]] w (OrdPost w zs) := by
  subst hn; exact inOrder_any a cap zs w hl hI
def slLen : Value → Nat
  | .slice _ l _ => l
  | _ => 0

set_option maxHeartbeats 1600000 in
theorem HalfDifferences_any (a : Option Addr) (cap : Nat) (zs : List Int) (w : World) (hl : zs.length ≤ 4294967296) (hI : IntsAt w a zs) :
    Calls Try.prog 23 #[.slice a zs.length cap] w (NumPost w (dR zs) (inL zs)) := by
  by_cases hz : inL zs = true
  case neg =>
    have hz' : inL zs = false := by simpa using hz
    rw [dR, if_neg hz, hz']
    have HZ := Lib.hid hz'
    clear hz hz'
    go_enter Try.func23, Try.ntmps23
    go_wp2_with (go_at_call 29; refine (SumIn_any a cap zs _ hl hI).mono ?_; rw [HZ.out]; rintro e w' ⟨rfl, rfl⟩)
    go_ret2
    exact ⟨rfl, Below.refl _ _⟩
  rw [dR, if_pos hz, hz]
  have hzl := (inL_iff zs).1 hz
  have HZ := Lib.hid hz
  have hO := inOrder_any a cap zs w (by omega) hI
  have HB : Hid (∀ z ∈ sortD zs, 0 ≤ z ∧ z ≤ 60) := fun z h => by have := hzl.2 z ((sortD_perm zs).subset h); omega
  have HP : Hid ((sortD zs).Pairwise (fun a b => b ≤ a)) := sortD_pair zs
  have HL : Hid ((sortD zs).length = zs.length) := sortD_length zs
  have HD : Hid (diffs zs.length (sortD zs) = dfR zs) := rfl
  have hz10 := hzl.1
  clear hz
  unfold OrdPost at hO
  go_enter Try.func23, Try.ntmps23
  go_wp2_with (first | (go_at_call 29; refine (SumIn_any a cap zs _ hl hI).mono ?_; rw [HZ.out]; rintro e w' ⟨rfl, rfl⟩) | fail)
  refine hO.mono ?_
  rintro e w1 ⟨v1, rfl, hO1, hB1⟩
  obtain ⟨a1, c1, rfl, _, _⟩ := hO1.shape
  rw [HL.out] at hO1 ⊢
  clear hO hzl
  generalize sortD zs = L0 at *
  go_wp2
  go_loopw [4] (fun v wr => ∃ (n cp : Nat) (a1 : Option Addr) (L : List Int), n ≤ 10 ∧ v = .slice a1 n cp ∧ Hid (L.length = n) ∧ OwnI wr w.heap.size (.slice a1 n cp) L ∧ Hid (L.Pairwise (fun a b => b ≤ a)) ∧ Hid (∀ z ∈ L, 0 ≤ z ∧ z ≤ 60) ∧ Hid (diffs n L = dfR zs) ∧ Below w.heap.size w wr) (fun v _ => slLen v)
  case atStart => exact ⟨zs.length, c1, a1, L0, hz10, rfl, HL, hO1, HP, HB, HD, hB1⟩
  case round =>
    clear HB HP HL HD hO1 hB1
    obtain ⟨n, cp, a2, L, hn, rfl, HL, hO, HP, HB, HD, hB⟩ := hrel
    by_cases h2 : 1 < n
    · obtain ⟨g, cp', he, _, hgl, hcell⟩ := hO.at (by have := HL.out; omega)
      simp only [Value.slice.injEq] at he
      obtain ⟨rfl, _, _⟩ := he
      have hx := (hcell 0 (by have := HL.out; omega)).1
      have hy := (hcell 1 (by have := HL.out; omega)).1
      obtain ⟨x, hxv⟩ : ∃ x, L[0]?.getD 0 = x := ⟨_, rfl⟩
      obtain ⟨y, hyv⟩ : ∃ y, L[1]?.getD 0 = y := ⟨_, rfl⟩
      obtain ⟨hxy, hml, hmb⟩ := df_memD HL.out (by omega) hxv hyv HP.out HB.out
      have HS := Lib.hid (df_stepD HL.out (by omega) hxv hyv)
      rw [hxv] at hx
      rw [hyv] at hy
      have HML := Lib.hid hml
      have HMB := Lib.hid hmb
      have HMP : Hid ((sortD (L.drop 2 ++ [x - y])).Pairwise (fun a b => b ≤ a)) := sortD_pair _
      obtain ⟨A, hA⟩ : ∃ A, (if cp = 2 then some (⟨g, 0, none⟩ : Addr) else some ⟨g, 2, none⟩) = some A := by
        by_cases e : cp = 2
        · exact ⟨_, if_pos e⟩
        · exact ⟨_, if_neg e⟩
      have hcp : n ≤ cp := (own_cap hO).2.2.1
      have HO := Lib.hid hO
      clear hcell hxv hyv hml hmb hO
      rename_i hq1 hq2 hq3
      clear hq2 hq3
      go_wp2_with fail
      go_quiet (fail)
      go_wp2_with (first | (at_builtin; refine appendTail (wr.drewN nq) rfl _ _ rfl w.heap.size g n cp L (x - y) A hA rfl rfl (HO.out.dr nq) HL.out (by omega) (by omega) hB.size ?_; intro a3 c3 w3 hI3 hB3) | (go_at_call 35; refine (inOrder_n a3 (n - 1) c3 (L.drop 2 ++ [x - y]) w3 HML.out (by omega) hI3).mono ?_; rintro e w4 ⟨v4, rfl, hO4, hB4⟩))
      have hl4 : (sortD (L.drop 2 ++ [x - y])).length = n - 1 := by rw [sortD_length]; exact HML.out
      obtain ⟨a4, c4, rfl, _, _⟩ := hO4.shape
      rw [hl4] at hO4 ⊢
      have HL4 := Lib.hid hl4
      have HO4 := Lib.hid hO4
      clear hl4 hO4
      go_roundw
      case rel => exact ⟨n - 1, c4, a4, _, by omega, rfl, HL4, HO4.out.mono (Nat.le_trans hB.size hB3.size), HMP, HMB, (Eq.trans HS.out.symm HD.out), ((belowDr hB nq).trans hB3).trans (hB4.mono (Nat.le_trans hB.size hB3.size))⟩
      case measure => simp [slLen]; omega
    · rcases Nat.eq_zero_or_pos n with h0 | h0
      · subst h0
        have HD0 : Hid (dfR zs = 0) := by
          have h1 : L = [] := List.eq_nil_of_length_eq_zero HL.out
          have h2 := HD.out
          rw [h1] at h2
          exact h2.symm
        go_wp2
        go_ret2
        exact ⟨by rw [HD0.out]; rfl, hB⟩
      · obtain rfl : n = 1 := by omega
        obtain ⟨g, cp', he, _, hgl, hcell⟩ := hO.at (by have := HL.out; omega)
        simp only [Value.slice.injEq] at he
        obtain ⟨rfl, _, _⟩ := he
        have hx := (hcell 0 (by have := HL.out; omega)).1
        have HD0 : Hid (dfR zs = L[0]?.getD 0) := by
          show _ = _
          rw [← HD.out]
          match L, HL.out with
          | [x], _ => rfl
        generalize L[0]?.getD 0 = x at hx HD0
        clear hcell
        go_wp2
        go_ret2
        exact ⟨by rw [HD0.out]; rfl, hB⟩
end Go.Proofs.Ytokfkhdngmpkgaa
