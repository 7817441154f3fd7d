/- The walk of the law FnBins. Conditions: the code has at most 1048576 bytes, else the law answers at once. -/
import Derived.Test.YtmggcfilkiklbaaBL
import Derived.Test.YtmggcfilkiklbaaBM
namespace Go.Proofs.Ytmggcfilkiklbaa
open Go.RowKit

/-- what the law's two loops look at: any two bins that the law does not leave out are too full to be one -/
def PairOk (far : Bool) (size : Int) (bs : List (List Int)) : Prop := ∀ i k : Nat, k < i → i < bs.length → (far = false ∨ k + 1 = i) → size < tot (bs[i]?.getD []) + tot (bs[k]?.getD [])
theorem pairOk_of {r : Nat} {size : Int} {bs : List (List Int)} (h : BinsOk r size bs) (far : Bool) (hf : far = false → r ≠ 0) : PairOk far size bs := fun i k hki hi hr => h.pair i k hki hi (by
  rcases hr with hr | hr
  · exact .inl (hf hr)
  · exact .inr hr)

theorem ba_inj {a b : ByteArray} (h : a.toList = b.toList) : a = b := by
  rw [ByteArray.toList_eq, ByteArray.toList_eq] at h
  obtain ⟨x⟩ := a
  obtain ⟨y⟩ := b
  have : x = y := Array.toList_inj.1 h
  rw [this]
theorem ba_ne {a b : ByteArray} (h : a ≠ b) : (a.toList == b.toList) = false := beq_false_of_ne (fun e => h (ba_inj e))
set_option maxHeartbeats 12800000 in
theorem FnBins_law (a : Option Addr) (len cap : Nat) (w : World) (hcap : len ≤ cap) (hb : BytesAt w w.heap.size a len) (hmax : len ≤ 9223372036854775807) :
    Calls Try.prog 4 #[.slice a len cap] w fun e w' => e = .returned (.bool true) ∧ Below w.heap.size w w' := by
  by_cases hl : len ≤ 1048576
  case neg =>
    go_enter Try.func4, Try.ntmps4
    go_wp2
    go_ret
    exact ⟨rfl, Below.refl _ _⟩
  go_enter Try.func4, Try.ntmps4
  go_wp2_with fail
  refine (DrawBinBy_any a len cap w hl hcap hb).mono ?_
  rintro e w1 ⟨ad, cp, zs, size, lt, o, rfl, hz1, hz2, hq0, hq1, hL, hI, hB⟩
  have s1 := hB.size
  have hF := BinBy_any lt o hL ad cp zs size w1 (by omega) hI
  have hS : ∀ W, IntsAt W ad zs → Calls Try.prog 13 #[.slice ad zs.length cp, .int .i64 size, .string lt] W (ByPost W (binsO zs size o).isSome ((binsO zs size o).getD [])) := fun W h => sBinBy_any lt o hL ad cp zs size W (by omega) h
  have hP : ∃ (ok : Bool) (rows : List (List Int)) (far : Bool), (binsO zs size o).isSome = ok ∧ (binsO zs size o).getD [] = rows ∧ rows.length ≤ 10 ∧ (∀ i : Nat, (rows[i]?.getD []).length ≤ 10) ∧ (far = true ↔ (lt = ⟨#[110]⟩ ∨ lt = ⟨#[78]⟩)) ∧ (ok = true → toldB zs size = true ∧ rows.flatten.Perm zs ∧ (∀ i, i < rows.length → good (rows[i]?.getD []) ∧ 0 < (rows[i]?.getD []).length ∧ tot (rows[i]?.getD []) ≤ size) ∧ PairOk far size rows) := by
    cases h : binsO zs size o with
    | none =>
      refine ⟨false, [], decide (lt = ⟨#[110]⟩ ∨ lt = ⟨#[78]⟩), rfl, rfl, by simp, by simp, decide_eq_true_iff, fun h => by cases h⟩
    | some bs =>
      obtain ⟨r, c, ho, ht, hb, hp, h1, h2⟩ := binsO_is h
      refine ⟨true, bs, decide (lt = ⟨#[110]⟩ ∨ lt = ⟨#[78]⟩), rfl, rfl, h1, fun i => by have := flat_len bs i; omega, decide_eq_true_iff, fun _ => ⟨ht, hp, fun i hi => ?_, pairOk_of hb _ (fun hf hr => ?_)⟩⟩
      · have h3 := hb.each _ (List.getElem_mem hi)
        rw [List.getElem?_eq_getElem hi]
        exact ⟨h3.2.1, List.length_pos_iff.2 h3.1, h3.2.2⟩
      · have h4 := of_decide_eq_false hf
        exact h4 (hL.isN.2 ⟨c, by rw [ho, hr]⟩)
  obtain ⟨ok, rows, far, e1, e2, hr10, hrl, hfar, hfact⟩ := hP
  rw [e1, e2] at hF
  simp only [e1, e2] at hS
  have HS := Lib.hid hS
  have HFact := Lib.hid hfact
  have HFar := Lib.hid hfar
  have HRL := Lib.hid hrl
  clear e1 e2 hS hfact hL hfar hrl
  go_wp2_with fail
  refine hF.mono ?_
  rintro e w2 ⟨v2, rfl, hR2, hB2⟩
  obtain ⟨a2, c2, rfl, hI2⟩ := hR2.shape
  have hA2 := hB.trans (hB2.mono s1)
  have hz2' := hI.below hB2
  clear hF hR2
  go_wp2_with fail
  refine (HS.out w2 hz2').mono ?_
  rintro e w3 ⟨v3, rfl, hR3, hB3⟩
  obtain ⟨a3, c3, rfl, hI3⟩ := hR3.shape
  have hA3 := hA2.trans (hB3.mono hA2.size)
  have hz3 := hz2'.below hB3
  have hI23 := hI2.below hB3
  clear HS hR3 hI2 hB2 hB3 hA2 hz2'
  go_wp2_with fail
  refine (sameRows_same a2 a3 c2 c3 rows w3 (by omega) (fun i => by have := HRL.out i; omega) hI23 hI3).mono ?_
  rintro e w4 ⟨rfl, n4, rfl⟩
  have hz4 := hz3.dr n4
  have hI24 := hI23.dr n4
  have hI34 := hI3.dr n4
  have hA4 := belowDr hA3 n4
  clear hz3 hI23 hI3 hA3
  generalize w3.drewN n4 = w4 at *
  cases ok with
  | false =>
    go_wp2_with fail
    refine (sameRows_same a2 a3 c2 c3 rows w4 (by omega) (fun i => by have := HRL.out i; omega) hI24 hI34).mono ?_
    rintro e w5 ⟨rfl, n5, rfl⟩
    have hA5 := belowDr hA4 n5
    go_wp2
    go_ret
    exact ⟨rfl, hA5⟩
  | true =>
    obtain ⟨ht, hp, hro, hpair⟩ := HFact.out rfl
    have HFits : Hid (∀ W, IntsAt W ad zs → RowsAt W a2 rows → Calls Try.prog 15 #[.slice ad zs.length cp, .int .i64 size, .slice a2 rows.length c2] W fun e w' => e = .returned (.bool true) ∧ Below W.heap.size W w') := fun W h1 h2 => BinFits_ok ad a2 cp c2 zs size rows W ht hp hr10 hro h1 h2
    have HTot : Hid (∀ (W : World) (j : Nat) (ad : Option Addr) (cp : Nat), j < rows.length → IntsAt W ad (rows[j]?.getD []) → Calls Try.prog 10 #[.slice ad (rows[j]?.getD []).length cp] W fun e w' => e = .returned (.int .i64 (tot (rows[j]?.getD []))) ∧ w' = W) := fun W j ad cp hj h => (total_any ad cp (rows[j]?.getD []) W (by have := HRL.out j; omega) (fun x hx => by have := (hro j hj).1 x hx; omega) h).mono (fun e w' h => ⟨h.1, h.2.symm⟩)
    have HTB : Hid (∀ j : Nat, j < rows.length → 0 ≤ tot (rows[j]?.getD []) ∧ tot (rows[j]?.getD []) ≤ 1000) := fun j hj => by
      have h1 := hro j hj
      have h2 := tot_bd h1.1
      have h3 := HRL.out j
      omega
    have HPair := Lib.hid hpair
    clear ht hp hro hpair HFact hI34 HRL
    have hEq : (lt = ⟨#[110]⟩ ∨ lt = ⟨#[78]⟩) ∨ (far = false ∧ lt ≠ ⟨#[110]⟩ ∧ lt ≠ ⟨#[78]⟩) := by
      by_cases h : lt = ⟨#[110]⟩ ∨ lt = ⟨#[78]⟩
      · exact .inl h
      · refine .inr ⟨?_, fun e => h (.inl e), fun e => h (.inr e)⟩
        rw [Bool.eq_false_iff]; exact fun hf => h (HFar.out.1 hf)
    rcases hEq with hEq | ⟨rfl, hn1, hn2⟩
    case inr =>
      have hb1 : ¬ lt.toList = [110] := fun e => hn1 (ba_inj (e.trans (ByteArray.toList_eq ⟨#[110]⟩).symm))
      have hb2 : ¬ lt.toList = [78] := fun e => hn2 (ba_inj (e.trans (ByteArray.toList_eq ⟨#[78]⟩).symm))
      clear HFar
      go_wp2
      go_loopw [10] (fun i wr => ∃ (k n : Nat), k ≤ rows.length ∧ i = .int .i64 k ∧ wr = w4.drewN n) (fun i _ => rows.length - (intOf i).toNat)
      case atStart => exact ⟨0, 0, Nat.zero_le _, rfl, rfl⟩
      case round =>
        obtain ⟨i, n, hi, rfl, rfl⟩ := hrel
        by_cases hlt : i < rows.length
        · go_wp2
          go_loopw [11] (fun j wr => ∃ (k m : Nat), k ≤ i ∧ j = .int .i64 k ∧ wr = w4.drewN m) (fun j _ => i - (intOf j).toNat)
          case atStart => exact ⟨0, n, Nat.zero_le _, rfl, rfl⟩
          case round =>
            obtain ⟨k, m, hk, rfl, rfl⟩ := hrel
            by_cases hlk : k < i
            · obtain ⟨g, rfl, hg, hcell⟩ := hI24.at (by omega)
              obtain ⟨ai, ci, hxi, hIi⟩ := hcell i hlt
              obtain ⟨ak, ck, hxk, hIk⟩ := hcell k (by omega)
              obtain ⟨W, hW⟩ : ∃ W, w4.drewN m = W := ⟨_, rfl⟩
              have hxi : W.cell? ⟨g, i, none⟩ = some (.slice ai (rows[i]?.getD []).length ci) := by rw [← hW]; exact hxi
              have hxk : W.cell? ⟨g, k, none⟩ = some (.slice ak (rows[k]?.getD []).length ck) := by rw [← hW]; exact hxk
              have hTi : ∀ q, Calls Try.prog 10 #[.slice ai (rows[i]?.getD []).length ci] (W.drewN q) fun e w' => e = .returned (.int .i64 (tot (rows[i]?.getD []))) ∧ w' = W.drewN q := fun q => HTot.out _ i ai ci hlt (by rw [← hW]; exact (hIi.dr m).dr q)
              have hTk : ∀ q, Calls Try.prog 10 #[.slice ak (rows[k]?.getD []).length ck] (W.drewN q) fun e w' => e = .returned (.int .i64 (tot (rows[k]?.getD []))) ∧ w' = W.drewN q := fun q => HTot.out _ k ak ck (by omega) (by rw [← hW]; exact (hIk.dr m).dr q)
              have hpr := HPair.out i k hlk hlt (.inl rfl)
              have hti := HTB.out i hlt
              have htk := HTB.out k (by omega)
              rw [hW]
              have HW := Lib.hid hW
              generalize (rows[i]?.getD []).length = li at hxi hTi
              generalize (rows[k]?.getD []).length = lk at hxk hTk
              generalize tot (rows[i]?.getD []) = ti at *
              generalize tot (rows[k]?.getD []) = tk at *
              have hw1 : IntKind.i64.wrap (ti + tk) = ti + tk := IntWalk.i64_in _ (by omega)
              have hdd : decide (ti + tk ≤ size) = false := decide_eq_false (by omega)
              clear hcell hIi hIk hW
              go_wp2_with fail
              go_quiet (first | (go_at_call 10; with_reducible refine Calls.quiet_of_same (hTi _)) | (go_at_call 10; with_reducible refine Calls.quiet_of_same (hTk _)))
              go_wp2
              go_roundw
              case rel => exact ⟨k + 1, m + nq, by omega, by go_num, by rw [← HW.out]; simp⟩
              case measure => simp [intOf]; omega
            · go_wp2
              go_roundw
              case rel => exact ⟨i + 1, m, by omega, by go_num, rfl⟩
              case measure => simp [intOf]; omega
        · go_wp2_with fail
          refine (HFits.out _ (hz4.dr n) (hI24.dr n)).mono ?_
          rintro e w9 ⟨rfl, hB9⟩
          have hA5 := belowDr hA4 n
          have hA9 := hA5.trans (hB9.mono hA5.size)
          go_wp2
          go_ret
          exact ⟨rfl, hA9⟩
    case inl =>
      rcases hEq with rfl | rfl
      · clear HFar
        go_wp2
        go_loopw [10] (fun i wr => ∃ (k n : Nat), k ≤ rows.length ∧ i = .int .i64 k ∧ wr = w4.drewN n) (fun i _ => rows.length - (intOf i).toNat)
        case atStart => exact ⟨0, 0, Nat.zero_le _, rfl, rfl⟩
        case round =>
          obtain ⟨i, n, hi, rfl, rfl⟩ := hrel
          by_cases hlt : i < rows.length
          · go_wp2
            go_loopw [11] (fun j wr => ∃ (k m : Nat), k ≤ i ∧ j = .int .i64 k ∧ wr = w4.drewN m) (fun j _ => i - (intOf j).toNat)
            case atStart => exact ⟨0, n, Nat.zero_le _, rfl, rfl⟩
            case round =>
              obtain ⟨k, m, hk, rfl, rfl⟩ := hrel
              by_cases hlk : k < i
              · by_cases hfr : k + 1 < i
                · have hfr2 : (k : Int) + 1 < i := by omega
                  go_wp2_with fail
                  go_quiet (fail)
                  go_wp2
                  go_roundw
                  case rel => exact ⟨k + 1, m + nq, by omega, by go_num, by simp⟩
                  case measure => simp [intOf]; omega
                · have hfr2 : ¬ (k : Int) + 1 < i := by omega
                  obtain ⟨g, rfl, hg, hcell⟩ := hI24.at (by omega)
                  obtain ⟨ai, ci, hxi, hIi⟩ := hcell i hlt
                  obtain ⟨ak, ck, hxk, hIk⟩ := hcell k (by omega)
                  obtain ⟨W, hW⟩ : ∃ W, w4.drewN m = W := ⟨_, rfl⟩
                  have hxi : W.cell? ⟨g, i, none⟩ = some (.slice ai (rows[i]?.getD []).length ci) := by rw [← hW]; exact hxi
                  have hxk : W.cell? ⟨g, k, none⟩ = some (.slice ak (rows[k]?.getD []).length ck) := by rw [← hW]; exact hxk
                  have hTi : ∀ q, Calls Try.prog 10 #[.slice ai (rows[i]?.getD []).length ci] (W.drewN q) fun e w' => e = .returned (.int .i64 (tot (rows[i]?.getD []))) ∧ w' = W.drewN q := fun q => HTot.out _ i ai ci hlt (by rw [← hW]; exact (hIi.dr m).dr q)
                  have hTk : ∀ q, Calls Try.prog 10 #[.slice ak (rows[k]?.getD []).length ck] (W.drewN q) fun e w' => e = .returned (.int .i64 (tot (rows[k]?.getD []))) ∧ w' = W.drewN q := fun q => HTot.out _ k ak ck (by omega) (by rw [← hW]; exact (hIk.dr m).dr q)
                  have hpr := HPair.out i k hlk hlt (.inr (by omega))
                  have hti := HTB.out i hlt
                  have htk := HTB.out k (by omega)
                  rw [hW]
                  have HW := Lib.hid hW
                  generalize (rows[i]?.getD []).length = li at hxi hTi
                  generalize (rows[k]?.getD []).length = lk at hxk hTk
                  generalize tot (rows[i]?.getD []) = ti at *
                  generalize tot (rows[k]?.getD []) = tk at *
                  have hw1 : IntKind.i64.wrap (ti + tk) = ti + tk := IntWalk.i64_in _ (by omega)
                  have hdd : decide (ti + tk ≤ size) = false := decide_eq_false (by omega)
                  clear hcell hIi hIk hW
                  go_wp2_with fail
                  go_quiet (first | (go_at_call 10; with_reducible refine Calls.quiet_of_same (hTi _)) | (go_at_call 10; with_reducible refine Calls.quiet_of_same (hTk _)))
                  go_wp2
                  go_roundw
                  case rel => exact ⟨k + 1, m + nq, by omega, by go_num, by rw [← HW.out]; simp⟩
                  case measure => simp [intOf]; omega
              · go_wp2
                go_roundw
                case rel => exact ⟨i + 1, m, by omega, by go_num, rfl⟩
                case measure => simp [intOf]; omega
          · go_wp2_with fail
            refine (HFits.out _ (hz4.dr n) (hI24.dr n)).mono ?_
            rintro e w9 ⟨rfl, hB9⟩
            have hA5 := belowDr hA4 n
            have hA9 := hA5.trans (hB9.mono hA5.size)
            go_wp2
            go_ret
            exact ⟨rfl, hA9⟩
      · clear HFar
        go_wp2
        go_loopw [10] (fun i wr => ∃ (k n : Nat), k ≤ rows.length ∧ i = .int .i64 k ∧ wr = w4.drewN n) (fun i _ => rows.length - (intOf i).toNat)
        case atStart => exact ⟨0, 0, Nat.zero_le _, rfl, rfl⟩
        case round =>
          obtain ⟨i, n, hi, rfl, rfl⟩ := hrel
          by_cases hlt : i < rows.length
          · go_wp2
            go_loopw [11] (fun j wr => ∃ (k m : Nat), k ≤ i ∧ j = .int .i64 k ∧ wr = w4.drewN m) (fun j _ => i - (intOf j).toNat)
            case atStart => exact ⟨0, n, Nat.zero_le _, rfl, rfl⟩
            case round =>
              obtain ⟨k, m, hk, rfl, rfl⟩ := hrel
              by_cases hlk : k < i
              · by_cases hfr : k + 1 < i
                · have hfr2 : (k : Int) + 1 < i := by omega
                  go_wp2_with fail
                  go_quiet (fail)
                  go_wp2
                  go_roundw
                  case rel => exact ⟨k + 1, m + nq, by omega, by go_num, by simp⟩
                  case measure => simp [intOf]; omega
                · have hfr2 : ¬ (k : Int) + 1 < i := by omega
                  obtain ⟨g, rfl, hg, hcell⟩ := hI24.at (by omega)
                  obtain ⟨ai, ci, hxi, hIi⟩ := hcell i hlt
                  obtain ⟨ak, ck, hxk, hIk⟩ := hcell k (by omega)
                  obtain ⟨W, hW⟩ : ∃ W, w4.drewN m = W := ⟨_, rfl⟩
                  have hxi : W.cell? ⟨g, i, none⟩ = some (.slice ai (rows[i]?.getD []).length ci) := by rw [← hW]; exact hxi
                  have hxk : W.cell? ⟨g, k, none⟩ = some (.slice ak (rows[k]?.getD []).length ck) := by rw [← hW]; exact hxk
                  have hTi : ∀ q, Calls Try.prog 10 #[.slice ai (rows[i]?.getD []).length ci] (W.drewN q) fun e w' => e = .returned (.int .i64 (tot (rows[i]?.getD []))) ∧ w' = W.drewN q := fun q => HTot.out _ i ai ci hlt (by rw [← hW]; exact (hIi.dr m).dr q)
                  have hTk : ∀ q, Calls Try.prog 10 #[.slice ak (rows[k]?.getD []).length ck] (W.drewN q) fun e w' => e = .returned (.int .i64 (tot (rows[k]?.getD []))) ∧ w' = W.drewN q := fun q => HTot.out _ k ak ck (by omega) (by rw [← hW]; exact (hIk.dr m).dr q)
                  have hpr := HPair.out i k hlk hlt (.inr (by omega))
                  have hti := HTB.out i hlt
                  have htk := HTB.out k (by omega)
                  rw [hW]
                  have HW := Lib.hid hW
                  generalize (rows[i]?.getD []).length = li at hxi hTi
                  generalize (rows[k]?.getD []).length = lk at hxk hTk
                  generalize tot (rows[i]?.getD []) = ti at *
                  generalize tot (rows[k]?.getD []) = tk at *
                  have hw1 : IntKind.i64.wrap (ti + tk) = ti + tk := IntWalk.i64_in _ (by omega)
                  have hdd : decide (ti + tk ≤ size) = false := decide_eq_false (by omega)
                  clear hcell hIi hIk hW
                  go_wp2_with fail
                  go_quiet (first | (go_at_call 10; with_reducible refine Calls.quiet_of_same (hTi _)) | (go_at_call 10; with_reducible refine Calls.quiet_of_same (hTk _)))
                  go_wp2
                  go_roundw
                  case rel => exact ⟨k + 1, m + nq, by omega, by go_num, by rw [← HW.out]; simp⟩
                  case measure => simp [intOf]; omega
              · go_wp2
                go_roundw
                case rel => exact ⟨i + 1, m, by omega, by go_num, rfl⟩
                case measure => simp [intOf]; omega
          · go_wp2_with fail
            refine (HFits.out _ (hz4.dr n) (hI24.dr n)).mono ?_
            rintro e w9 ⟨rfl, hB9⟩
            have hA5 := belowDr hA4 n
            have hA9 := hA5.trans (hB9.mono hA5.size)
            go_wp2
            go_ret
            exact ⟨rfl, hA9⟩
end Go.Proofs.Ytmggcfilkiklbaa
