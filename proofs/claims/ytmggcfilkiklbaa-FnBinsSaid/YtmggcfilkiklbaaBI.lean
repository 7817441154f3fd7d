/- The reference's bins: what is told, descending order, the bin that is found. Conditions: stated in each. -/
import Derived.Test.YtmggcfilkiklbaaBH
import Derived.Test.YtmggcfilkiklbaaWF
import Derived.Test.YtmggcfilkiklbaaLP
namespace Go.Proofs.Ytmggcfilkiklbaa
open Go.RowKit

theorem get_bd {zs : List Int} {M : Int} (h : ∀ x ∈ zs, -M ≤ x ∧ x ≤ M) (hM : 0 ≤ M) (i : Nat) : -M ≤ zs[i]?.getD 0 ∧ zs[i]?.getD 0 ≤ M := by
  by_cases hi : i < zs.length
  · rw [List.getElem?_eq_getElem hi]; exact h _ (List.getElem_mem hi)
  · rw [List.getElem?_eq_none (by omega)]; simp; omega
set_option maxHeartbeats 1600000 in
theorem l4Given_any (a : Option Addr) (cap : Nat) (zs : List Int) (size : Int) (w : World) (hl : zs.length ≤ 1000000) (hI : IntsAt w a zs) :
    Calls Try.prog 21 #[.slice a zs.length cap, .int .i64 size] w fun e w' => e = .returned (.bool (toldB zs size)) ∧ w = w' := by
  have HBad : Hid (∀ i, i < zs.length → size < zs[i]?.getD 0 → toldB zs size = false) := fun i h1 h2 => by rw [toldB, allLe_not h1 h2]; simp
  have HOk : Hid ((∀ i, i < zs.length → zs[i]?.getD 0 ≤ size) → toldB zs size = (inL zs && (decide (1 ≤ size) && decide (size ≤ 100)))) := fun h => by rw [toldB, allLe_get h]; simp
  obtain ⟨R, hR⟩ : ∃ R, toldB zs size = R := ⟨_, rfl⟩
  have HR := Lib.hid hR
  rw [hR]
  clear hR
  go_enter Try.func21, Try.ntmps21
  go_wp2
  go_loop [5] (fun i => ∃ k : Nat, k ≤ zs.length ∧ i = .int .i64 k ∧ Hid (∀ i, i < k → zs[i]?.getD 0 ≤ size)) (fun i => zs.length - (intOf i).toNat)
  case atStart => exact ⟨0, Nat.zero_le _, rfl, fun i hi => by omega⟩
  case round =>
    obtain ⟨k, hk, rfl, HK⟩ := hrel
    by_cases hlt : k < zs.length
    · obtain ⟨b, off, rfl, hb, hcell⟩ := hI.at (by omega)
      have hx := hcell k hlt
      have HKn : Hid (zs[k]?.getD 0 ≤ size → ∀ i, i < k + 1 → zs[i]?.getD 0 ≤ size) := fun h i hi => by
        by_cases e : i = k
        · subst e; exact h
        · exact HK.out i (by omega)
      have HBk := Lib.hid (HBad.out k hlt)
      generalize zs[k]?.getD 0 = x at hx HKn HBk
      clear hcell HK
      by_cases hxs : x ≤ size
      · have HN := Lib.hid (HKn.out hxs)
        go_wp2
        go_round
        case rel => exact ⟨k + 1, by omega, by go_num, HN⟩
        case measure => simp [intOf]; omega
      · have HF := Lib.hid (HBk.out (by omega))
        have hxs2 : size < x := by omega
        clear hxs HKn HBk
        go_wp2
        go_ret
        exact ⟨ret_bool (by rw [← HR.out, HF.out]), rfl⟩
    · have HF := Lib.hid (HOk.out (fun i hi => HK.out i (by omega)))
      obtain ⟨iz, hiz⟩ : ∃ iz, inL zs = iz := ⟨_, rfl⟩
      have HZ := Lib.hid hiz
      clear hiz
      cases iz with
      | false =>
        go_wp2_with (first | (go_at_call 33; refine (sSumIn_any a cap zs _ (by omega) hI).mono ?_; rw [HZ.out]; rintro e w' ⟨rfl, rfl⟩))
        go_ret
        exact ⟨ret_bool (by rw [← HR.out, HF.out, HZ.out]; rfl), rfl⟩
      | true =>
        go_wp2_with (first | (go_at_call 33; refine (sSumIn_any a cap zs _ (by omega) hI).mono ?_; rw [HZ.out]; rintro e w' ⟨rfl, rfl⟩) | (go_at_call 34; refine (l6In_any size 1 100 _).mono ?_; rintro e w' ⟨rfl, rfl⟩))
        go_ret
        exact ⟨ret_bool (by rw [← HR.out, HF.out, HZ.out]; rfl), rfl⟩

set_option maxHeartbeats 1600000 in
theorem l4Down_any (a : Option Addr) (cap : Nat) (zs : List Int) (w : World) (hl : zs.length ≤ 12) (hI : IntsAt w a zs) :
    Calls Try.prog 35 #[.slice a zs.length cap] w (OrdPost w zs) := by
  go_enter Try.func35, Try.ntmps35
  go_wp2_with fail
  refine (l1Sorted_any a cap zs w hl hI).mono ?_
  rintro e w1 ⟨v, L, rfl, HP, HI, hO, hB⟩
  obtain ⟨a1, c1, rfl, hI1, _⟩ := hO.shape
  have HS : Hid (L.reverse = sortD zs) := ord_rev HP.out HI.out
  have hLl : L.length ≤ 12 := by have := HP.out.length_eq; omega
  have HO0 : Hid (OwnI (w1.alloc (.cells #[] 3)) w1.heap.size (.slice (some ⟨w1.heap.size, 0, none⟩) 0 0) []) := World.ownsRow_lit w1 #[] 0 (Nat.le_refl _) (by unfold maxLen; omega) (by simp)
  clear hO HP HI hI
  go_wp2
  go_loopw [4, 5] (fun v i wr => ∃ (k : Nat), k ≤ L.length ∧ i = .int .i64 ((L.length : Int) - 1 - k) ∧ OwnI wr w1.heap.size v (L.reverse.take k) ∧ Below w1.heap.size w1 wr) (fun _ i _ => (intOf i + 1).toNat)
  case atStart => exact ⟨0, Nat.zero_le _, by simp, HO0.out, (Below.refl _ _).alloc (Nat.le_refl _) _⟩
  case round =>
    clear HO0
    obtain ⟨k, hk, rfl, hO, hBr⟩ := hrel
    by_cases hlt : k < L.length
    · obtain ⟨b, off, rfl, hbb, hcell⟩ := (hI1.below hBr).at (by omega)
      have hx := hcell (L.length - 1 - k) (by omega)
      have HT : Hid (L.reverse.take (k + 1) = L.reverse.take k ++ [L[L.length - 1 - k]?.getD 0]) := by
        show _ = _
        rw [take_snocA L.reverse k 0 (by rw [List.length_reverse]; exact hlt), List.getElem?_reverse hlt]
      have htl : (L.reverse.take k).length ≤ 1000000 := by rw [List.length_take]; omega
      generalize L[L.length - 1 - k]?.getD 0 = x at hx HT
      clear hcell
      generalize L.reverse.take k = M at *
      go_wp2_with (at_builtin; refine append1 wr rfl _ _ rfl w1.heap.size u4 M x rfl rfl hO htl hBr.size ?_; intro v' w' hO' hG')
      go_roundw
      case rel => exact ⟨k + 1, by omega, congrArg (Value.int .i64) (by omega), by rw [HT.out]; exact hO', hBr.grown hG' hBr.size (fun j hj => (hO.lt j hj).1)⟩
      case measure => simp [intOf]; omega
    · obtain rfl : k = L.length := by omega
      have HE : Hid (L.reverse.take L.length = sortD zs) := by show _ = _; rw [← HS.out, List.take_of_length_le (by simp)]
      rw [HE.out] at hO
      have hO9 := Lib.hid (hO.mono hB.size)
      have hB9 := hB.trans (hBr.mono hB.size)
      clear hO
      go_wp2
      go_ret
      exact ⟨_, rfl, hO9.out, hB9⟩

def idxV (c : Option Nat) : Int := match c with
  | none => -1
  | some k => k
theorem idxV_none : idxV none = -1 := rfl
theorem idxV_some (k : Nat) : idxV (some k) = k := rfl
theorem sch_next {r : Nat} {f : Nat → Int} {v : Int} {n k : Nat} (hr : r ≠ 0) : sch r f v n (k + 1) = chStep r f v k (sch r f v n k) := by
  unfold sch
  rw [if_neg (by omega), if_neg (by omega), chs]
theorem sch_end (r : Nat) (f : Nat → Int) (v : Int) (n : Nat) : sch r f v n n = chs r f v n := by
  unfold sch
  rw [if_neg (by omega)]
theorem sch_start (r : Nat) (f : Nat → Int) (v : Int) (n : Nat) : sch r f v n 0 = none := by
  unfold sch
  split <;> rfl
theorem sch_bd {r : Nat} {f : Nat → Int} {v : Int} {n k j : Nat} (h : sch r f v n k = some j) : j < k := by
  unfold sch at h
  split at h
  · cases h
  · exact (chs_some h).1
theorem sch0_mid {f : Nat → Int} {v : Int} {n k : Nat} (h : k < n) : sch 0 f v n k = none := by
  unfold sch
  rw [if_pos ⟨rfl, h⟩]
/-- what is known of the lists in bins ahead of a search -/
def RowsOk (size : Int) (rows : List (List Int)) : Prop := rows.length ≤ 10 ∧ ∀ i : Nat, good (rows[i]?.getD []) ∧ (rows[i]?.getD []).length ≤ 10 ∧ 0 ≤ rm size rows i ∧ rm size rows i ≤ 100

set_option maxHeartbeats 3200000 in
theorem find0 (a : Option Addr) (cap : Nat) (rows : List (List Int)) (size v : Int) (w : World) (hs : 1 ≤ size ∧ size ≤ 100) (hv : 1 ≤ v ∧ v ≤ 60) (hR : RowsOk size rows) (hI : RowsAt w a rows) :
    Calls Try.prog 36 #[.slice a rows.length cap, .int .i64 size, .int .i64 v, .int .u8 110] w fun e w' => e = .returned (.int .i64 (idxV (chs 0 (rm size rows) v rows.length))) ∧ w = w' := by
  have hrl := hR.1
  have HR := Lib.hid hR.2
  clear hR
  go_enter Try.func36, Try.ntmps36
  go_wp2
  go_loop [9, 10] (fun b i => ∃ k : Nat, k ≤ rows.length ∧ i = .int .i64 k ∧ Hid (b = .int .i64 (idxV (sch 0 (rm size rows) v rows.length k)))) (fun _ i => rows.length - (intOf i).toNat)
  case atStart => exact ⟨0, Nat.zero_le _, rfl, by show _ = _; rw [sch_start, idxV_none]⟩
  case round =>
    obtain ⟨k, hk, rfl, HB⟩ := hrel
    have hbv := HB.out
    clear HB
    by_cases hlt : k < rows.length
    · obtain ⟨b, rfl, hb, hcell⟩ := hI.at (by omega)
      obtain ⟨ad, cp, hx, hIk⟩ := hcell k hlt
      obtain ⟨hgk, hlk, hr0, hr1⟩ := HR.out k
      have hTk := l4Total_any ad cp (rows[k]?.getD []) w (by omega) (fun x hx => by have := hgk x hx; omega) hIk
      have HRM : Hid (rm size rows k = size - tot (rows[k]?.getD [])) := rfl
      generalize hrk : rm size rows k = rk at hr0 hr1 HRM
      have HRK := Lib.hid hrk
      have htk : tot (rows[k]?.getD []) = size - rk := by have := HRM.out; omega
      rw [htk] at hTk
      generalize (rows[k]?.getD []).length = lk at hx hTk hlk
      clear hrk htk hgk HRM hIk
      obtain ⟨c, hc⟩ : ∃ c, sch 0 (rm size rows) v rows.length k = c := ⟨_, rfl⟩
      rw [hc] at hbv
      have HC := Lib.hid hc
      clear hc
      by_cases hend : k + 1 < rows.length
      · rw [show c = none from HC.out.symm.trans (sch0_mid hlt), idxV_none] at hbv
        subst hbv
        have HM : Hid (Value.int .i64 (-1) = .int .i64 (idxV (sch 0 (rm size rows) v rows.length (k + 1)))) := by show _ = _; rw [sch0_mid hend, idxV_none]
        have hend2 : (k : Int) + 1 < rows.length := by omega
        by_cases hf : rk < v
        · go_wp2_with (go_at_call 18; refine hTk.mono ?_; rintro e w' ⟨rfl, rfl⟩)
          go_round
          case rel => exact ⟨k + 1, by omega, by go_num, HM⟩
          case measure => simp [intOf]; omega
        · go_wp2_with (go_at_call 18; refine hTk.mono ?_; rintro e w' ⟨rfl, rfl⟩)
          go_round
          case rel => exact ⟨k + 1, by omega, by go_num, HM⟩
          case measure => simp [intOf]; omega
      · rw [show c = none from HC.out.symm.trans (sch0_mid hlt), idxV_none] at hbv
        subst hbv
        have hk1 : k + 1 = rows.length := by omega
        have hend2 : ¬ (k : Int) + 1 < rows.length := by omega
        have HN : Hid (sch 0 (rm size rows) v rows.length (k + 1) = if v ≤ rk then some k else none) := by
          show _ = _
          rw [hk1, sch_end, ← hk1, chs]
          unfold chStep
          rw [if_pos rfl, HRK.out]
        by_cases hf : rk < v
        · have HM : Hid (Value.int .i64 (-1) = .int .i64 (idxV (sch 0 (rm size rows) v rows.length (k + 1)))) := by show _ = _; rw [HN.out, if_neg (by omega), idxV_none]
          clear hk1
          go_wp2_with (go_at_call 18; refine hTk.mono ?_; rintro e w' ⟨rfl, rfl⟩)
          go_round
          case rel => exact ⟨k + 1, by omega, by go_num, HM⟩
          case measure => simp [intOf]; omega
        · have HM : Hid (Value.int .i64 (k : Int) = .int .i64 (idxV (sch 0 (rm size rows) v rows.length (k + 1)))) := by show _ = _; rw [HN.out, if_pos (by omega), idxV_some]
          clear hk1
          go_wp2_with (go_at_call 18; refine hTk.mono ?_; rintro e w' ⟨rfl, rfl⟩)
          go_round
          case rel => exact ⟨k + 1, by omega, by go_num, HM⟩
          case measure => simp [intOf]; omega
    · have HE : Hid (k = rows.length) := by show k = _; omega
      have HBV := Lib.hid hbv
      clear hbv
      go_wp2
      go_ret
      exact ⟨by rw [HBV.out, HE.out, sch_end]; rfl, rfl⟩

set_option maxHeartbeats 3200000 in
theorem find1 (a : Option Addr) (cap : Nat) (rows : List (List Int)) (size v : Int) (w : World) (hs : 1 ≤ size ∧ size ≤ 100) (hv : 1 ≤ v ∧ v ≤ 60) (hR : RowsOk size rows) (hI : RowsAt w a rows) :
    Calls Try.prog 36 #[.slice a rows.length cap, .int .i64 size, .int .i64 v, .int .u8 102] w fun e w' => e = .returned (.int .i64 (idxV (chs 1 (rm size rows) v rows.length))) ∧ w = w' := by
  have hrl := hR.1
  have HR := Lib.hid hR.2
  clear hR
  go_enter Try.func36, Try.ntmps36
  go_wp2
  go_loop [9, 10] (fun b i => ∃ k : Nat, k ≤ rows.length ∧ i = .int .i64 k ∧ Hid (b = .int .i64 (idxV (sch 1 (rm size rows) v rows.length k)))) (fun _ i => rows.length - (intOf i).toNat)
  case atStart => exact ⟨0, Nat.zero_le _, rfl, by show _ = _; rw [sch_start, idxV_none]⟩
  case round =>
    obtain ⟨k, hk, rfl, HB⟩ := hrel
    have hbv := HB.out
    clear HB
    by_cases hlt : k < rows.length
    · obtain ⟨b, rfl, hb, hcell⟩ := hI.at (by omega)
      obtain ⟨ad, cp, hx, hIk⟩ := hcell k hlt
      obtain ⟨hgk, hlk, hr0, hr1⟩ := HR.out k
      have hTk := l4Total_any ad cp (rows[k]?.getD []) w (by omega) (fun x hx => by have := hgk x hx; omega) hIk
      have HRM : Hid (rm size rows k = size - tot (rows[k]?.getD [])) := rfl
      generalize hrk : rm size rows k = rk at hr0 hr1 HRM
      have HRK := Lib.hid hrk
      have htk : tot (rows[k]?.getD []) = size - rk := by have := HRM.out; omega
      rw [htk] at hTk
      generalize (rows[k]?.getD []).length = lk at hx hTk hlk
      clear hrk htk hgk HRM hIk
      obtain ⟨c, hc⟩ : ∃ c, sch 1 (rm size rows) v rows.length k = c := ⟨_, rfl⟩
      rw [hc] at hbv
      have HC := Lib.hid hc
      clear hc
      have HN := Lib.hid (sch_next (r := 1) (f := rm size rows) (v := v) (n := rows.length) (k := k) (by decide))
      rw [HC.out] at HN
      by_cases hf : rk < v
      · have HM : Hid (u9 = .int .i64 (idxV (sch 1 (rm size rows) v rows.length (k + 1)))) := by
          show _ = _
          rw [HN.out]
          unfold chStep
          rw [if_neg (by decide), if_neg (by rw [HRK.out]; omega)]; exact hbv
        clear hbv
        go_wp2_with (go_at_call 18; refine hTk.mono ?_; rintro e w' ⟨rfl, rfl⟩)
        go_round
        case rel => exact ⟨k + 1, by omega, by go_num, HM⟩
        case measure => simp [intOf]; omega
      cases c with
      | none =>
        rw [idxV_none] at hbv
        subst hbv
        have HM : Hid (Value.int .i64 (k : Int) = .int .i64 (idxV (sch 1 (rm size rows) v rows.length (k + 1)))) := by
          show _ = _
          rw [HN.out]
          unfold chStep
          rw [if_neg (by decide), if_pos (by rw [HRK.out]; omega)]
          rfl
        go_wp2_with (go_at_call 18; refine hTk.mono ?_; rintro e w' ⟨rfl, rfl⟩)
        go_round
        case rel => exact ⟨k + 1, by omega, by go_num, HM⟩
        case measure => simp [intOf]; omega
      | some j =>
        rw [idxV_some] at hbv
        subst hbv
        have hj := sch_bd HC.out
        obtain ⟨adj, cpj, hxj, hIj⟩ := hcell j (by omega)
        obtain ⟨hgj, hlj, hj0, hj1⟩ := HR.out j
        have hTj := l4Total_any adj cpj (rows[j]?.getD []) w (by omega) (fun x hx => by have := hgj x hx; omega) hIj
        have HRM : Hid (rm size rows j = size - tot (rows[j]?.getD [])) := rfl
        generalize hrj : rm size rows j = rj at hj0 hj1 HRM
        have HRJ := Lib.hid hrj
        have htj : tot (rows[j]?.getD []) = size - rj := by have := HRM.out; omega
        rw [htj] at hTj
        generalize (rows[j]?.getD []).length = lj at hxj hTj hlj
        clear hrj htj hgj HRM hIj
        have HM : Hid (Value.int .i64 (j : Int) = .int .i64 (idxV (sch 1 (rm size rows) v rows.length (k + 1)))) := by
          show _ = _
          rw [HN.out]
          unfold chStep
          rw [if_neg (by decide), if_pos (by rw [HRK.out]; omega)]
          show _ = Value.int .i64 (idxV (if _ then _ else _))
          rw [if_neg (by omega), idxV_some]
        go_wp2_with fail
        refine hTk.mono ?_
        rintro e w' ⟨rfl, rfl⟩
        clear hTk
        go_wp2_with fail
        refine hTj.mono ?_
        rintro e w' ⟨rfl, rfl⟩
        go_wp2
        go_round
        case rel => exact ⟨k + 1, by omega, by go_num, HM⟩
        case measure => simp [intOf]; omega
    · have HE : Hid (k = rows.length) := by show k = _; omega
      have HBV := Lib.hid hbv
      clear hbv
      go_wp2
      go_ret
      exact ⟨by rw [HBV.out, HE.out, sch_end]; rfl, rfl⟩

set_option maxHeartbeats 3200000 in
theorem find2 (a : Option Addr) (cap : Nat) (rows : List (List Int)) (size v : Int) (w : World) (hs : 1 ≤ size ∧ size ≤ 100) (hv : 1 ≤ v ∧ v ≤ 60) (hR : RowsOk size rows) (hI : RowsAt w a rows) :
    Calls Try.prog 36 #[.slice a rows.length cap, .int .i64 size, .int .i64 v, .int .u8 98] w fun e w' => e = .returned (.int .i64 (idxV (chs 2 (rm size rows) v rows.length))) ∧ w = w' := by
  have hrl := hR.1
  have HR := Lib.hid hR.2
  clear hR
  go_enter Try.func36, Try.ntmps36
  go_wp2
  go_loop [9, 10] (fun b i => ∃ k : Nat, k ≤ rows.length ∧ i = .int .i64 k ∧ Hid (b = .int .i64 (idxV (sch 2 (rm size rows) v rows.length k)))) (fun _ i => rows.length - (intOf i).toNat)
  case atStart => exact ⟨0, Nat.zero_le _, rfl, by show _ = _; rw [sch_start, idxV_none]⟩
  case round =>
    obtain ⟨k, hk, rfl, HB⟩ := hrel
    have hbv := HB.out
    clear HB
    by_cases hlt : k < rows.length
    · obtain ⟨b, rfl, hb, hcell⟩ := hI.at (by omega)
      obtain ⟨ad, cp, hx, hIk⟩ := hcell k hlt
      obtain ⟨hgk, hlk, hr0, hr1⟩ := HR.out k
      have hTk := l4Total_any ad cp (rows[k]?.getD []) w (by omega) (fun x hx => by have := hgk x hx; omega) hIk
      have HRM : Hid (rm size rows k = size - tot (rows[k]?.getD [])) := rfl
      generalize hrk : rm size rows k = rk at hr0 hr1 HRM
      have HRK := Lib.hid hrk
      have htk : tot (rows[k]?.getD []) = size - rk := by have := HRM.out; omega
      rw [htk] at hTk
      generalize (rows[k]?.getD []).length = lk at hx hTk hlk
      clear hrk htk hgk HRM hIk
      obtain ⟨c, hc⟩ : ∃ c, sch 2 (rm size rows) v rows.length k = c := ⟨_, rfl⟩
      rw [hc] at hbv
      have HC := Lib.hid hc
      clear hc
      have HN := Lib.hid (sch_next (r := 2) (f := rm size rows) (v := v) (n := rows.length) (k := k) (by decide))
      rw [HC.out] at HN
      by_cases hf : rk < v
      · have HM : Hid (u9 = .int .i64 (idxV (sch 2 (rm size rows) v rows.length (k + 1)))) := by
          show _ = _
          rw [HN.out]
          unfold chStep
          rw [if_neg (by decide), if_neg (by rw [HRK.out]; omega)]; exact hbv
        clear hbv
        go_wp2_with (go_at_call 18; refine hTk.mono ?_; rintro e w' ⟨rfl, rfl⟩)
        go_round
        case rel => exact ⟨k + 1, by omega, by go_num, HM⟩
        case measure => simp [intOf]; omega
      cases c with
      | none =>
        rw [idxV_none] at hbv
        subst hbv
        have HM : Hid (Value.int .i64 (k : Int) = .int .i64 (idxV (sch 2 (rm size rows) v rows.length (k + 1)))) := by
          show _ = _
          rw [HN.out]
          unfold chStep
          rw [if_neg (by decide), if_pos (by rw [HRK.out]; omega)]
          rfl
        go_wp2_with (go_at_call 18; refine hTk.mono ?_; rintro e w' ⟨rfl, rfl⟩)
        go_round
        case rel => exact ⟨k + 1, by omega, by go_num, HM⟩
        case measure => simp [intOf]; omega
      | some j =>
        rw [idxV_some] at hbv
        subst hbv
        have hj := sch_bd HC.out
        obtain ⟨adj, cpj, hxj, hIj⟩ := hcell j (by omega)
        obtain ⟨hgj, hlj, hj0, hj1⟩ := HR.out j
        have hTj := l4Total_any adj cpj (rows[j]?.getD []) w (by omega) (fun x hx => by have := hgj x hx; omega) hIj
        have HRM : Hid (rm size rows j = size - tot (rows[j]?.getD [])) := rfl
        generalize hrj : rm size rows j = rj at hj0 hj1 HRM
        have HRJ := Lib.hid hrj
        have htj : tot (rows[j]?.getD []) = size - rj := by have := HRM.out; omega
        rw [htj] at hTj
        generalize (rows[j]?.getD []).length = lj at hxj hTj hlj
        clear hrj htj hgj HRM hIj
        by_cases hly : rk < rj
        · have HM : Hid (Value.int .i64 (k : Int) = .int .i64 (idxV (sch 2 (rm size rows) v rows.length (k + 1)))) := by
            show _ = _
            rw [HN.out]
            unfold chStep
            rw [if_neg (by decide), if_pos (by rw [HRK.out]; omega)]
            show _ = Value.int .i64 (idxV (if _ then _ else _))
            rw [if_pos (.inl ⟨rfl, by rw [HRK.out, HRJ.out]; exact hly⟩), idxV_some]
          go_wp2_with fail
          refine hTk.mono ?_
          rintro e w' ⟨rfl, rfl⟩
          clear hTk
          go_wp2_with fail
          refine hTj.mono ?_
          rintro e w' ⟨rfl, rfl⟩
          go_wp2
          go_round
          case rel => exact ⟨k + 1, by omega, by go_num, HM⟩
          case measure => simp [intOf]; omega
        · have HM : Hid (Value.int .i64 (j : Int) = .int .i64 (idxV (sch 2 (rm size rows) v rows.length (k + 1)))) := by
            show _ = _
            rw [HN.out]
            unfold chStep
            rw [if_neg (by decide), if_pos (by rw [HRK.out]; omega)]
            show _ = Value.int .i64 (idxV (if _ then _ else _))
            rw [if_neg (by rw [HRK.out, HRJ.out]; omega), idxV_some]
          go_wp2_with fail
          refine hTk.mono ?_
          rintro e w' ⟨rfl, rfl⟩
          clear hTk
          go_wp2_with fail
          refine hTj.mono ?_
          rintro e w' ⟨rfl, rfl⟩
          go_wp2
          go_round
          case rel => exact ⟨k + 1, by omega, by go_num, HM⟩
          case measure => simp [intOf]; omega
    · have HE : Hid (k = rows.length) := by show k = _; omega
      have HBV := Lib.hid hbv
      clear hbv
      go_wp2
      go_ret
      exact ⟨by rw [HBV.out, HE.out, sch_end]; rfl, rfl⟩

set_option maxHeartbeats 3200000 in
theorem find3 (a : Option Addr) (cap : Nat) (rows : List (List Int)) (size v : Int) (w : World) (hs : 1 ≤ size ∧ size ≤ 100) (hv : 1 ≤ v ∧ v ≤ 60) (hR : RowsOk size rows) (hI : RowsAt w a rows) :
    Calls Try.prog 36 #[.slice a rows.length cap, .int .i64 size, .int .i64 v, .int .u8 119] w fun e w' => e = .returned (.int .i64 (idxV (chs 3 (rm size rows) v rows.length))) ∧ w = w' := by
  have hrl := hR.1
  have HR := Lib.hid hR.2
  clear hR
  go_enter Try.func36, Try.ntmps36
  go_wp2
  go_loop [9, 10] (fun b i => ∃ k : Nat, k ≤ rows.length ∧ i = .int .i64 k ∧ Hid (b = .int .i64 (idxV (sch 3 (rm size rows) v rows.length k)))) (fun _ i => rows.length - (intOf i).toNat)
  case atStart => exact ⟨0, Nat.zero_le _, rfl, by show _ = _; rw [sch_start, idxV_none]⟩
  case round =>
    obtain ⟨k, hk, rfl, HB⟩ := hrel
    have hbv := HB.out
    clear HB
    by_cases hlt : k < rows.length
    · obtain ⟨b, rfl, hb, hcell⟩ := hI.at (by omega)
      obtain ⟨ad, cp, hx, hIk⟩ := hcell k hlt
      obtain ⟨hgk, hlk, hr0, hr1⟩ := HR.out k
      have hTk := l4Total_any ad cp (rows[k]?.getD []) w (by omega) (fun x hx => by have := hgk x hx; omega) hIk
      have HRM : Hid (rm size rows k = size - tot (rows[k]?.getD [])) := rfl
      generalize hrk : rm size rows k = rk at hr0 hr1 HRM
      have HRK := Lib.hid hrk
      have htk : tot (rows[k]?.getD []) = size - rk := by have := HRM.out; omega
      rw [htk] at hTk
      generalize (rows[k]?.getD []).length = lk at hx hTk hlk
      clear hrk htk hgk HRM hIk
      obtain ⟨c, hc⟩ : ∃ c, sch 3 (rm size rows) v rows.length k = c := ⟨_, rfl⟩
      rw [hc] at hbv
      have HC := Lib.hid hc
      clear hc
      have HN := Lib.hid (sch_next (r := 3) (f := rm size rows) (v := v) (n := rows.length) (k := k) (by decide))
      rw [HC.out] at HN
      by_cases hf : rk < v
      · have HM : Hid (u9 = .int .i64 (idxV (sch 3 (rm size rows) v rows.length (k + 1)))) := by
          show _ = _
          rw [HN.out]
          unfold chStep
          rw [if_neg (by decide), if_neg (by rw [HRK.out]; omega)]; exact hbv
        clear hbv
        go_wp2_with (go_at_call 18; refine hTk.mono ?_; rintro e w' ⟨rfl, rfl⟩)
        go_round
        case rel => exact ⟨k + 1, by omega, by go_num, HM⟩
        case measure => simp [intOf]; omega
      cases c with
      | none =>
        rw [idxV_none] at hbv
        subst hbv
        have HM : Hid (Value.int .i64 (k : Int) = .int .i64 (idxV (sch 3 (rm size rows) v rows.length (k + 1)))) := by
          show _ = _
          rw [HN.out]
          unfold chStep
          rw [if_neg (by decide), if_pos (by rw [HRK.out]; omega)]
          rfl
        go_wp2_with (go_at_call 18; refine hTk.mono ?_; rintro e w' ⟨rfl, rfl⟩)
        go_round
        case rel => exact ⟨k + 1, by omega, by go_num, HM⟩
        case measure => simp [intOf]; omega
      | some j =>
        rw [idxV_some] at hbv
        subst hbv
        have hj := sch_bd HC.out
        obtain ⟨adj, cpj, hxj, hIj⟩ := hcell j (by omega)
        obtain ⟨hgj, hlj, hj0, hj1⟩ := HR.out j
        have hTj := l4Total_any adj cpj (rows[j]?.getD []) w (by omega) (fun x hx => by have := hgj x hx; omega) hIj
        have HRM : Hid (rm size rows j = size - tot (rows[j]?.getD [])) := rfl
        generalize hrj : rm size rows j = rj at hj0 hj1 HRM
        have HRJ := Lib.hid hrj
        have htj : tot (rows[j]?.getD []) = size - rj := by have := HRM.out; omega
        rw [htj] at hTj
        generalize (rows[j]?.getD []).length = lj at hxj hTj hlj
        clear hrj htj hgj HRM hIj
        by_cases hly : rj < rk
        · have HM : Hid (Value.int .i64 (k : Int) = .int .i64 (idxV (sch 3 (rm size rows) v rows.length (k + 1)))) := by
            show _ = _
            rw [HN.out]
            unfold chStep
            rw [if_neg (by decide), if_pos (by rw [HRK.out]; omega)]
            show _ = Value.int .i64 (idxV (if _ then _ else _))
            rw [if_pos (.inr ⟨rfl, by rw [HRK.out, HRJ.out]; exact hly⟩), idxV_some]
          go_wp2_with fail
          refine hTk.mono ?_
          rintro e w' ⟨rfl, rfl⟩
          clear hTk
          go_wp2_with fail
          refine hTj.mono ?_
          rintro e w' ⟨rfl, rfl⟩
          go_wp2
          go_round
          case rel => exact ⟨k + 1, by omega, by go_num, HM⟩
          case measure => simp [intOf]; omega
        · have HM : Hid (Value.int .i64 (j : Int) = .int .i64 (idxV (sch 3 (rm size rows) v rows.length (k + 1)))) := by
            show _ = _
            rw [HN.out]
            unfold chStep
            rw [if_neg (by decide), if_pos (by rw [HRK.out]; omega)]
            show _ = Value.int .i64 (idxV (if _ then _ else _))
            rw [if_neg (by rw [HRK.out, HRJ.out]; omega), idxV_some]
          go_wp2_with fail
          refine hTk.mono ?_
          rintro e w' ⟨rfl, rfl⟩
          clear hTk
          go_wp2_with fail
          refine hTj.mono ?_
          rintro e w' ⟨rfl, rfl⟩
          go_wp2
          go_round
          case rel => exact ⟨k + 1, by omega, by go_num, HM⟩
          case measure => simp [intOf]; omega
    · have HE : Hid (k = rows.length) := by show k = _; omega
      have HBV := Lib.hid hbv
      clear hbv
      go_wp2
      go_ret
      exact ⟨by rw [HBV.out, HE.out, sch_end]; rfl, rfl⟩
end Go.Proofs.Ytmggcfilkiklbaa
