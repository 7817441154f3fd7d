/- FnEven: what it does alone ahead of the call that starts goroutines, and behind it. Conditions: none. -/
import Derived.Test.YtacedadenbinmaaZm
import Derived.Test.YtacedadenbinmaaZq
import Derived.Test.YtacedadenbinmaaZo
import Derived.Test.YtacedadenbinmaaZp
import Derived.Test.YtacedadenbinmaaZn
namespace Go.Proofs.Ytacedadenbinmaa
open Go.RowKit Go.Par Go.Conc Go.ConcN

set_option maxHeartbeats 3200000 in
theorem DrawLoadEvenC_any (a : Option Addr) (len cap : Nat) (w : World) (hl : len ≤ 1048576) (hcap : len ≤ cap) (hb : BytesAt w w.heap.size a len) :
    Calls Try.prog 17 #[.slice a len cap] w (Drawn2C w 8 0 6) := by
  go_enter Try.func17, Try.ntmps17
  go_wp2_with fail
  refine (l6Open_any a len cap w hl hcap hb).mono ?_
  rintro e w1 ⟨l, c, rfl, hl2, hR, hB⟩
  go_wp2_with fail
  refine (pick_any w.heap.size l c a 0 24 w1 (by omega) hl2 (by omega) hR).mono ?_
  rintro e w2 ⟨x, rfl, hx0, hx1, hR2, hG⟩
  have hB2 : Below w.heap.size w w2 := ⟨hG.os.trans hB.os, hG.tape.trans hB.tape, hG.output.trans hB.output, Nat.le_trans hB.size hG.size, fun k hk => (hG.block k (Nat.lt_of_lt_of_le hk hB.size) (by simp; omega)).trans (hB.block k hk)⟩
  obtain ⟨q, hq⟩ : ∃ q : Nat, (5 + x / 23 * 2 : Int) = q ∧ q ≤ 7 := ⟨(5 + x / 23 * 2).toNat, by omega, by omega⟩
  clear hR hB hG
  go_wp2_with fail
  refine (l92Loads_any w.heap.size l c a 1 q w2 (by omega) hq.2 hl2 (by simpa using hR2)).mono ?_
  rintro e w3 ⟨v, zs, m, p', rfl, hD, hz, hd, hm0, hm6, _, _⟩
  obtain ⟨ad, cp, rfl, hI, hcp⟩ := hD.2.1.shape
  have hB3 := hB2.trans hD.2.2.1
  clear hR2 hD hB2
  go_wp2_with fail
  go_ret2
  exact ⟨ad, cp, zs, m, rfl, hcp, hz, hd, hI, hm0, hm6, hB3⟩

noncomputable def EVs0 : Code := match Try.f5.body.getD .skip with | .seq a _ => a | _ => .skip
noncomputable def EVs1 : Code := match Try.f5.body.getD .skip with | .seq _ (.seq a _) => a | _ => .skip
noncomputable def EVs2 : Code := match Try.f5.body.getD .skip with | .seq _ (.seq _ (.seq a _)) => a | _ => .skip
noncomputable def EVops : Array Oper := match Try.f5.body.getD .skip with | .seq _ (.seq _ (.seq _ (.seq (.region _ ops _) _))) => ops | _ => #[]
noncomputable def EVrest : Code := match Try.f5.body.getD .skip with | .seq _ (.seq _ (.seq _ (.seq _ r))) => r | _ => .skip
noncomputable def EVl : List Code := [EVs0, EVs1, EVs2]
theorem EVsize (T : Array Value) (h0 : T.size = 81) : ∃ v0 v1 v2 v3 v4 v5 v6 v7 v8 v9 v10 v11 v12 v13 v14 v15 v16 v17 v18 v19 v20 v21 v22 v23 v24 v25 v26 v27 v28 v29 v30 v31 v32 v33 v34 v35 v36 v37 v38 v39 v40 v41 v42 v43 v44 v45 v46 v47 v48 v49 v50 v51 v52 v53 v54 v55 v56 v57 v58 v59 v60 v61 v62 v63 v64 v65 v66 v67 v68 v69 v70 v71 v72 v73 v74 v75 v76 v77 v78 v79 v80 : Value, T = #[v0, v1, v2, v3, v4, v5, v6, v7, v8, v9, v10, v11, v12, v13, v14, v15, v16, v17, v18, v19, v20, v21, v22, v23, v24, v25, v26, v27, v28, v29, v30, v31, v32, v33, v34, v35, v36, v37, v38, v39, v40, v41, v42, v43, v44, v45, v46, v47, v48, v49, v50, v51, v52, v53, v54, v55, v56, v57, v58, v59, v60, v61, v62, v63, v64, v65, v66, v67, v68, v69, v70, v71, v72, v73, v74, v75, v76, v77, v78, v79, v80] := by
  obtain ⟨l⟩ := T
  simp only [List.size_toArray] at h0
  obtain ⟨v0, l, rfl, h1⟩ := consOf (n := 80) h0
  obtain ⟨v1, l, rfl, h2⟩ := consOf (n := 79) h1
  obtain ⟨v2, l, rfl, h3⟩ := consOf (n := 78) h2
  obtain ⟨v3, l, rfl, h4⟩ := consOf (n := 77) h3
  obtain ⟨v4, l, rfl, h5⟩ := consOf (n := 76) h4
  obtain ⟨v5, l, rfl, h6⟩ := consOf (n := 75) h5
  obtain ⟨v6, l, rfl, h7⟩ := consOf (n := 74) h6
  obtain ⟨v7, l, rfl, h8⟩ := consOf (n := 73) h7
  obtain ⟨v8, l, rfl, h9⟩ := consOf (n := 72) h8
  obtain ⟨v9, l, rfl, h10⟩ := consOf (n := 71) h9
  obtain ⟨v10, l, rfl, h11⟩ := consOf (n := 70) h10
  obtain ⟨v11, l, rfl, h12⟩ := consOf (n := 69) h11
  obtain ⟨v12, l, rfl, h13⟩ := consOf (n := 68) h12
  obtain ⟨v13, l, rfl, h14⟩ := consOf (n := 67) h13
  obtain ⟨v14, l, rfl, h15⟩ := consOf (n := 66) h14
  obtain ⟨v15, l, rfl, h16⟩ := consOf (n := 65) h15
  obtain ⟨v16, l, rfl, h17⟩ := consOf (n := 64) h16
  obtain ⟨v17, l, rfl, h18⟩ := consOf (n := 63) h17
  obtain ⟨v18, l, rfl, h19⟩ := consOf (n := 62) h18
  obtain ⟨v19, l, rfl, h20⟩ := consOf (n := 61) h19
  obtain ⟨v20, l, rfl, h21⟩ := consOf (n := 60) h20
  obtain ⟨v21, l, rfl, h22⟩ := consOf (n := 59) h21
  obtain ⟨v22, l, rfl, h23⟩ := consOf (n := 58) h22
  obtain ⟨v23, l, rfl, h24⟩ := consOf (n := 57) h23
  obtain ⟨v24, l, rfl, h25⟩ := consOf (n := 56) h24
  obtain ⟨v25, l, rfl, h26⟩ := consOf (n := 55) h25
  obtain ⟨v26, l, rfl, h27⟩ := consOf (n := 54) h26
  obtain ⟨v27, l, rfl, h28⟩ := consOf (n := 53) h27
  obtain ⟨v28, l, rfl, h29⟩ := consOf (n := 52) h28
  obtain ⟨v29, l, rfl, h30⟩ := consOf (n := 51) h29
  obtain ⟨v30, l, rfl, h31⟩ := consOf (n := 50) h30
  obtain ⟨v31, l, rfl, h32⟩ := consOf (n := 49) h31
  obtain ⟨v32, l, rfl, h33⟩ := consOf (n := 48) h32
  obtain ⟨v33, l, rfl, h34⟩ := consOf (n := 47) h33
  obtain ⟨v34, l, rfl, h35⟩ := consOf (n := 46) h34
  obtain ⟨v35, l, rfl, h36⟩ := consOf (n := 45) h35
  obtain ⟨v36, l, rfl, h37⟩ := consOf (n := 44) h36
  obtain ⟨v37, l, rfl, h38⟩ := consOf (n := 43) h37
  obtain ⟨v38, l, rfl, h39⟩ := consOf (n := 42) h38
  obtain ⟨v39, l, rfl, h40⟩ := consOf (n := 41) h39
  obtain ⟨v40, l, rfl, h41⟩ := consOf (n := 40) h40
  obtain ⟨v41, l, rfl, h42⟩ := consOf (n := 39) h41
  obtain ⟨v42, l, rfl, h43⟩ := consOf (n := 38) h42
  obtain ⟨v43, l, rfl, h44⟩ := consOf (n := 37) h43
  obtain ⟨v44, l, rfl, h45⟩ := consOf (n := 36) h44
  obtain ⟨v45, l, rfl, h46⟩ := consOf (n := 35) h45
  obtain ⟨v46, l, rfl, h47⟩ := consOf (n := 34) h46
  obtain ⟨v47, l, rfl, h48⟩ := consOf (n := 33) h47
  obtain ⟨v48, l, rfl, h49⟩ := consOf (n := 32) h48
  obtain ⟨v49, l, rfl, h50⟩ := consOf (n := 31) h49
  obtain ⟨v50, l, rfl, h51⟩ := consOf (n := 30) h50
  obtain ⟨v51, l, rfl, h52⟩ := consOf (n := 29) h51
  obtain ⟨v52, l, rfl, h53⟩ := consOf (n := 28) h52
  obtain ⟨v53, l, rfl, h54⟩ := consOf (n := 27) h53
  obtain ⟨v54, l, rfl, h55⟩ := consOf (n := 26) h54
  obtain ⟨v55, l, rfl, h56⟩ := consOf (n := 25) h55
  obtain ⟨v56, l, rfl, h57⟩ := consOf (n := 24) h56
  obtain ⟨v57, l, rfl, h58⟩ := consOf (n := 23) h57
  obtain ⟨v58, l, rfl, h59⟩ := consOf (n := 22) h58
  obtain ⟨v59, l, rfl, h60⟩ := consOf (n := 21) h59
  obtain ⟨v60, l, rfl, h61⟩ := consOf (n := 20) h60
  obtain ⟨v61, l, rfl, h62⟩ := consOf (n := 19) h61
  obtain ⟨v62, l, rfl, h63⟩ := consOf (n := 18) h62
  obtain ⟨v63, l, rfl, h64⟩ := consOf (n := 17) h63
  obtain ⟨v64, l, rfl, h65⟩ := consOf (n := 16) h64
  obtain ⟨v65, l, rfl, h66⟩ := consOf (n := 15) h65
  obtain ⟨v66, l, rfl, h67⟩ := consOf (n := 14) h66
  obtain ⟨v67, l, rfl, h68⟩ := consOf (n := 13) h67
  obtain ⟨v68, l, rfl, h69⟩ := consOf (n := 12) h68
  obtain ⟨v69, l, rfl, h70⟩ := consOf (n := 11) h69
  obtain ⟨v70, l, rfl, h71⟩ := consOf (n := 10) h70
  obtain ⟨v71, l, rfl, h72⟩ := consOf (n := 9) h71
  obtain ⟨v72, l, rfl, h73⟩ := consOf (n := 8) h72
  obtain ⟨v73, l, rfl, h74⟩ := consOf (n := 7) h73
  obtain ⟨v74, l, rfl, h75⟩ := consOf (n := 6) h74
  obtain ⟨v75, l, rfl, h76⟩ := consOf (n := 5) h75
  obtain ⟨v76, l, rfl, h77⟩ := consOf (n := 4) h76
  obtain ⟨v77, l, rfl, h78⟩ := consOf (n := 3) h77
  obtain ⟨v78, l, rfl, h79⟩ := consOf (n := 2) h78
  obtain ⟨v79, l, rfl, h80⟩ := consOf (n := 1) h79
  obtain ⟨v80, l, rfl, h81⟩ := consOf (n := 0) h80
  obtain rfl := List.eq_nil_of_length_eq_zero h81
  exact ⟨v0, v1, v2, v3, v4, v5, v6, v7, v8, v9, v10, v11, v12, v13, v14, v15, v16, v17, v18, v19, v20, v21, v22, v23, v24, v25, v26, v27, v28, v29, v30, v31, v32, v33, v34, v35, v36, v37, v38, v39, v40, v41, v42, v43, v44, v45, v46, v47, v48, v49, v50, v51, v52, v53, v54, v55, v56, v57, v58, v59, v60, v61, v62, v63, v64, v65, v66, v67, v68, v69, v70, v71, v72, v73, v74, v75, v76, v77, v78, v79, v80, rfl⟩
set_option maxRecDepth 100000 in
theorem EVenter (x0 : Value) : Frame.enter Try.prog 5 #[x0] .normal = ⟨5, (x0 :: List.replicate 80 undef).toArray, [.code (seqs (.seq (.region 4 EVops false) EVrest) EVl)], [], .run, .normal, none⟩ := by
  rw [enter_at (c := seqs (.seq (.region 4 EVops false) EVrest) EVl) _ Try.func5 rfl]
  simp only [Try.ntmps5]
  have e : #[x0] ++ Array.replicate (81 - #[x0].size) undef = (x0 :: List.replicate 80 undef).toArray := by
    apply Array.ext'
    simp
  rw [e]
  rfl

/-- at the call -/
def EVmid (T : Array Value) (w : World) : Prop :=
  ∃ ad cap zs m, T[3]? = some (.slice ad zs.length cap) ∧ T[4]? = some (.int .i64 m) ∧ IntsAt w ad zs ∧ zs.length ≤ 8 ∧ zs.length ≤ cap ∧ T.size = 81

set_option maxRecDepth 100000 in
set_option maxHeartbeats 4000000 in
theorem EV_pre (a : Option Addr) (len cap : Nat) (w : World) (hcap : len ≤ cap) (hb : BytesAt w w.heap.size a len) (hmax : len ≤ 9223372036854775807) :
    preWp Try.prog EVl (fun e b w' => (e = .normal ∨ e = .ret) ∧ b.defers = [] ∧ ((e = .ret ∧ b.tmps[2]? = some (.bool true)) ∨ (e = .normal ∧ b.tmps.size = 81 ∧ EVmid b.tmps w'))) ⟨(.slice a len cap :: List.replicate 80 undef).toArray, []⟩ w := by
  show preWp Try.prog EVl _ ⟨#[.slice a len cap, undef, undef, undef, undef, undef, undef, undef, undef, undef, undef, undef, undef, undef, undef, undef, undef, undef, undef, undef, undef, undef, undef, undef, undef, undef, undef, undef, undef, undef, undef, undef, undef, undef, undef, undef, undef, undef, undef, undef, undef, undef, undef, undef, undef, undef, undef, undef, undef, undef, undef, undef, undef, undef, undef, undef, undef, undef, undef, undef, undef, undef, undef, undef, undef, undef, undef, undef, undef, undef, undef, undef, undef, undef, undef, undef, undef, undef, undef, undef, undef], []⟩ w
  unfold EVl
  refine pre_cons ?_
  simp only [EVs0, Try.f5, Option.getD_some]
  go_wp2
  refine pre_cons ?_
  simp only [EVs1, Try.f5, Option.getD_some]
  by_cases hl : len ≤ 1048576
  case neg =>
    go_wp2
    exact ⟨.inr trivial, trivial, .inl ⟨trivial, rfl⟩⟩
  go_wp2
  refine pre_cons ?_
  simp only [EVs2, Try.f5, Option.getD_some]
  go_wp2_with fail
  refine (DrawLoadEvenC_any a len cap w hl hcap hb).mono ?_
  rintro e w1 ⟨ad, cp, zs, m, rfl, hcp, hz, hd, hI, hm0, hm6, hB⟩
  go_wp2_with fail
  exact ⟨.inl rfl, rfl, .inr ⟨rfl, rfl, ad, cp, zs, m, rfl, rfl, hI, hz, hcp, rfl⟩⟩

theorem pow56 {M k : Nat} (hM : M ≤ 5) (hk : k ≤ 6) : M ^ k ≤ 15625 :=
  Nat.le_trans (Nat.pow_le_pow_left hM k) (Nat.le_trans (Nat.pow_le_pow_right (by omega) hk) (by omega))
theorem EV_bd {zs : List Int} {m : Int} {out : Int} (h : leV zs m = (out, true)) : ∃ M : Nat, m = M ∧ 1 ≤ M ∧ M ≤ 5 ∧ zs.length ≤ 6 ∧ 1 ≤ out ∧ out ≤ ((M ^ zs.length : Nat) : Int) ∧ (M = 2 → zs.length ≠ 0 → out % 2 = 0) := by
  unfold leV at h
  split at h
  · rename_i hc
    obtain ⟨ht, h6⟩ := hc
    obtain ⟨⟨_, hg⟩, hm1, hm5⟩ := (toldL_iff zs m).1 ht
    obtain ⟨M, rfl⟩ := Int.eq_ofNat_of_zero_le (show 0 ≤ m by omega)
    simp only [Prod.mk.injEq, and_true, tlV, Int.toNat_natCast] at h
    have hb := best_bd (good_nn hg) (m := M) (by omega)
    rw [h] at hb
    refine ⟨M, rfl, by omega, by omega, h6, hb.1, by simpa using hb.2, fun e hn => ?_⟩
    subst e
    rw [← h]
    exact even2 fun e => hn (by rw [e]; rfl)
  · cases h

set_option maxRecDepth 100000 in
set_option maxHeartbeats 4000000 in
theorem EV_tail (T : Array Value) (w : World) (h : EVmid T w) :
    ∃ a0 cap zs m, T[3]? = some (.slice a0 zs.length cap) ∧ T[4]? = some (.int .i64 m) ∧ IntsAt w a0 zs ∧ zs.length ≤ 2000000 ∧
      ∀ W', Like w W' → wpList Try.prog EVops (Exit.then (EVrest.wp Try.prog fun e b _ => e = .ret ∧ b.defers = [] ∧ b.tmps[2]? = some (.bool true)) fun e b _ => e = .ret ∧ b.defers = [] ∧ b.tmps[2]? = some (.bool true)) (EVops.toList.drop 3)
        ⟨((T.setIfInBounds 20 (.slice a0 zs.length cap)).setIfInBounds 21 (.int .i64 m)).setIfInBounds 22 (twoV (leV zs m)), []⟩ W' := by
  obtain ⟨ad, cap, zs, m, h3, h4, hI, hz, hcp, hT⟩ := h
  refine ⟨ad, cap, zs, m, h3, h4, hI, by omega, fun W' hW => ?_⟩
  have hI' := ints_same hI hW.1 hW.2
  obtain ⟨v0, v1, v2, v3, v4, v5, v6, v7, v8, v9, v10, v11, v12, v13, v14, v15, v16, v17, v18, v19, v20, v21, v22, v23, v24, v25, v26, v27, v28, v29, v30, v31, v32, v33, v34, v35, v36, v37, v38, v39, v40, v41, v42, v43, v44, v45, v46, v47, v48, v49, v50, v51, v52, v53, v54, v55, v56, v57, v58, v59, v60, v61, v62, v63, v64, v65, v66, v67, v68, v69, v70, v71, v72, v73, v74, v75, v76, v77, v78, v79, v80, rfl⟩ := EVsize T hT
  simp only [List.getElem?_toArray, List.getElem?_cons_succ, List.getElem?_cons_zero, Option.some.injEq] at h3 h4
  subst h3 h4
  obtain ⟨r, hr⟩ : ∃ r, leV zs m = r := ⟨_, rfl⟩
  obtain ⟨n, p⟩ := r
  have HS := Lib.hid (sLoadEven_any ad cap zs m W' (by omega) hcp hI')
  rw [hr] at HS ⊢
  simp only [twoV, EVops, EVrest, Try.f5, Option.getD_some, List.setIfInBounds_toArray, List.set_cons_succ, List.set_cons_zero, List.drop_succ_cons, List.drop_zero]
  cases p with
  | false =>
    clear hr hI hW hT
    go_wp2_with fail
    refine HS.out.mono ?_
    simp only [twoV]
    rintro e w3 ⟨rfl, hB3⟩
    go_wp2_with fail
  | true =>
    obtain ⟨M, rfl, hM1, hM5, h6, ho1, ho2, hev⟩ := EV_bd hr
    have HEV := Lib.hid hev
    have HO2 := Lib.hid ho2
    have hob : n ≤ 15625 := by have := pow56 hM5 h6; omega
    clear hr hI hW hT hev ho2
    go_wp2_with fail
    refine HS.out.mono ?_
    simp only [twoV]
    rintro e w3 ⟨rfl, hB3⟩
    go_wp2_with fail
    go_loopw [9, 10] (fun v i wr => ∃ k : Nat, k ≤ zs.length ∧ v = .int .i64 ((M ^ k : Nat) : Int) ∧ i = .int .i64 k) (fun _ i _ => zs.length - (intOf i).toNat)
    case atStart => exact ⟨0, Nat.zero_le _, rfl, rfl⟩
    case round =>
      obtain ⟨k, hk, rfl, rfl⟩ := hrel
      have hp := pow56 hM5 (show k ≤ 6 by omega)
      by_cases hlt : k < zs.length
      · have hp1 := pow56 hM5 (show k + 1 ≤ 6 by omega)
        have hpe : ((M ^ k : Nat) : Int) * M = ((M ^ (k + 1) : Nat) : Int) := by rw [Nat.pow_succ]; simp
        have hw : IntKind.i64.wrap (((M ^ k : Nat) : Int) * M) = ((M ^ (k + 1) : Nat) : Int) := by rw [hpe]; exact IntWalk.i64_in _ (by omega)
        obtain ⟨Y, hY⟩ : ∃ Y, M ^ (k + 1) = Y := ⟨_, rfl⟩
        rw [hY] at hw
        have HY := Lib.hid hY
        clear hpe hp hp1 hY
        generalize M ^ k = X at *
        go_wp2
        go_roundw
        case rel => exact ⟨k + 1, by omega, by rw [HY.out], by go_num⟩
        case measure => simp [intOf]; omega
      · obtain rfl : k = zs.length := by omega
        have ho2 := HO2.out
        have hev := HEV.out
        clear HO2 HEV
        generalize M ^ zs.length = X at *
        by_cases hM2 : M = 2
        · have hev2 := Lib.hid (hev hM2)
          clear hev
          by_cases hz0 : zs.length = 0
          · have e1 : ((zs.length : Int) == 0) = true := by rw [beq_iff_eq]; omega
            go_wp2_with fail
          · have e1 : ((zs.length : Int) == 0) = false := by rw [beq_eq_false_iff_ne]; omega
            go_wp2_with fail
            exact hev2.out hz0
        · have e1 : ((M : Int) == 2) = false := by rw [beq_eq_false_iff_ne]; omega
          clear hev
          go_wp2_with fail

set_option maxRecDepth 1000000 in
theorem FnEven_ends (a : Option Addr) (len cap : Nat) (W : World) (hcap : len ≤ cap) (hb : BytesAt W W.heap.size a len) (hmax : len ≤ 9223372036854775807) (hsh : ∀ ad, a = some ad → ad.spot = none ∧ ∃ c e fr, W.heap[ad.block]? = some (.cells c e fr)) :
    Ends 5 #[.slice a len cap] W := by
  obtain ⟨ρ, A, a0, hS, hv, hbA⟩ := sim_bytes (LB := LB) (cap := cap) hb hsh
  exact law_runs (T0 := (.slice a0 len cap :: List.replicate 80 undef).toArray) (T := (.slice a len cap :: List.replicate 80 undef).toArray) (l := EVl) (id := 4) (ops := EVops) (rest := EVrest) (s0 := 3) (d0 := 20) (s1 := 4) (d1 := 21) (d2 := 22) (tr := 2) (Mid := EVmid)
    LB_closed (LE_lead LB_ok) (EVenter _) (by kernel_rfl) (by kernel_rfl) (by kernel_rfl) rfl rfl rfl rfl rfl ⟨rfl, rfl, rfl⟩ ⟨rfl, rfl, rfl⟩ rfl rfl rfl Try.func16 rfl rfl Try.func5 rfl (by kernel_rfl) (by simp) hS (AR_one hv _)
    (fun W' hW => preWp_mono (fun e b w' h => ⟨h.1, h.2.1, h.2.2.imp id fun h => ⟨h.1, by simp [h.2.1], h.2.2⟩⟩) (EV_pre a0 len cap W' hcap (bytes_like hbA hW) hmax)) EV_tail
end Go.Proofs.Ytacedadenbinmaa
