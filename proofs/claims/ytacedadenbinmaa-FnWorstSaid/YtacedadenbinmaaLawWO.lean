/- FnWorst: what it does alone ahead of the call that starts goroutines, and behind it. Conditions: none. -/
import Derived.Test.YtacedadenbinmaaZm
import Derived.Test.YtacedadenbinmaaZo
import Derived.Test.YtacedadenbinmaaZv
namespace Go.Proofs.Ytacedadenbinmaa
open Go.RowKit Go.Par Go.Conc Go.ConcN

set_option maxHeartbeats 3200000 in
theorem DrawLoadWorstC_any (a : Option Addr) (len cap : Nat) (w : World) (hl : len ≤ 1048576) (hcap : len ≤ cap) (hb : BytesAt w w.heap.size a len) :
    Calls Try.prog 28 #[.slice a len cap] w (Drawn2C w 8 0 6) := by
  go_enter Try.func28, Try.ntmps28
  go_wp2_with fail
  refine (l6Open_any a len cap w hl hcap hb).mono ?_
  rintro e w1 ⟨l, c, rfl, hl2, hR, hB⟩
  go_wp2_with fail
  refine (pick_any w.heap.size l c a 0 24 w1 (by omega) hl2 (by omega) hR).mono ?_
  rintro e w2 ⟨x, rfl, hx0, hx1, hR2, hG⟩
  have hB2 : Below w.heap.size w w2 := ⟨hG.os.trans hB.os, hG.tape.trans hB.tape, hG.output.trans hB.output, Nat.le_trans hB.size hG.size, fun k hk => (hG.block k (Nat.lt_of_lt_of_le hk hB.size) (by simp; omega)).trans (hB.block k hk)⟩
  obtain ⟨q, hq⟩ : ∃ q : Nat, (5 + x / 23 * 2 : Int) = q ∧ q ≤ 7 := ⟨(5 + x / 23 * 2).toNat, by omega, by omega⟩
  clear hR hB hG
  go_wp2_with fail
  refine (l92Loads_any w.heap.size l c a 1 q w2 (by omega) hq.2 hl2 (by simpa using hR2)).mono ?_
  rintro e w3 ⟨v, zs, m, p', rfl, hD, hz, hd, hm0, hm6, _, _⟩
  obtain ⟨ad, cp, rfl, hI, hcp⟩ := hD.2.1.shape
  have hB3 := hB2.trans hD.2.2.1
  clear hR2 hD hB2
  go_wp2_with fail
  go_ret2
  exact ⟨ad, cp, zs, m, rfl, hcp, hz, hd, hI, hm0, hm6, hB3⟩

noncomputable def WOs0 : Code := match Try.f8.body.getD .skip with | .seq a _ => a | _ => .skip
noncomputable def WOs1 : Code := match Try.f8.body.getD .skip with | .seq _ (.seq a _) => a | _ => .skip
noncomputable def WOs2 : Code := match Try.f8.body.getD .skip with | .seq _ (.seq _ (.seq a _)) => a | _ => .skip
noncomputable def WOs3 : Code := match Try.f8.body.getD .skip with | .seq _ (.seq _ (.seq _ (.seq a _))) => a | _ => .skip
noncomputable def WOs4 : Code := match Try.f8.body.getD .skip with | .seq _ (.seq _ (.seq _ (.seq _ (.seq a _)))) => a | _ => .skip
noncomputable def WOs5 : Code := match Try.f8.body.getD .skip with | .seq _ (.seq _ (.seq _ (.seq _ (.seq _ (.seq a _))))) => a | _ => .skip
noncomputable def WOops : Array Oper := match Try.f8.body.getD .skip with | .seq _ (.seq _ (.seq _ (.seq _ (.seq _ (.seq _ (.seq (.region _ ops _) _)))))) => ops | _ => #[]
noncomputable def WOrest : Code := match Try.f8.body.getD .skip with | .seq _ (.seq _ (.seq _ (.seq _ (.seq _ (.seq _ (.seq _ r)))))) => r | _ => .skip
noncomputable def WOl : List Code := [WOs0, WOs1, WOs2, WOs3, WOs4, WOs5]
theorem WOsize (T : Array Value) (h0 : T.size = 85) : ∃ v0 v1 v2 v3 v4 v5 v6 v7 v8 v9 v10 v11 v12 v13 v14 v15 v16 v17 v18 v19 v20 v21 v22 v23 v24 v25 v26 v27 v28 v29 v30 v31 v32 v33 v34 v35 v36 v37 v38 v39 v40 v41 v42 v43 v44 v45 v46 v47 v48 v49 v50 v51 v52 v53 v54 v55 v56 v57 v58 v59 v60 v61 v62 v63 v64 v65 v66 v67 v68 v69 v70 v71 v72 v73 v74 v75 v76 v77 v78 v79 v80 v81 v82 v83 v84 : Value, T = #[v0, v1, v2, v3, v4, v5, v6, v7, v8, v9, v10, v11, v12, v13, v14, v15, v16, v17, v18, v19, v20, v21, v22, v23, v24, v25, v26, v27, v28, v29, v30, v31, v32, v33, v34, v35, v36, v37, v38, v39, v40, v41, v42, v43, v44, v45, v46, v47, v48, v49, v50, v51, v52, v53, v54, v55, v56, v57, v58, v59, v60, v61, v62, v63, v64, v65, v66, v67, v68, v69, v70, v71, v72, v73, v74, v75, v76, v77, v78, v79, v80, v81, v82, v83, v84] := by
  obtain ⟨l⟩ := T
  simp only [List.size_toArray] at h0
  obtain ⟨v0, l, rfl, h1⟩ := consOf (n := 84) h0
  obtain ⟨v1, l, rfl, h2⟩ := consOf (n := 83) h1
  obtain ⟨v2, l, rfl, h3⟩ := consOf (n := 82) h2
  obtain ⟨v3, l, rfl, h4⟩ := consOf (n := 81) h3
  obtain ⟨v4, l, rfl, h5⟩ := consOf (n := 80) h4
  obtain ⟨v5, l, rfl, h6⟩ := consOf (n := 79) h5
  obtain ⟨v6, l, rfl, h7⟩ := consOf (n := 78) h6
  obtain ⟨v7, l, rfl, h8⟩ := consOf (n := 77) h7
  obtain ⟨v8, l, rfl, h9⟩ := consOf (n := 76) h8
  obtain ⟨v9, l, rfl, h10⟩ := consOf (n := 75) h9
  obtain ⟨v10, l, rfl, h11⟩ := consOf (n := 74) h10
  obtain ⟨v11, l, rfl, h12⟩ := consOf (n := 73) h11
  obtain ⟨v12, l, rfl, h13⟩ := consOf (n := 72) h12
  obtain ⟨v13, l, rfl, h14⟩ := consOf (n := 71) h13
  obtain ⟨v14, l, rfl, h15⟩ := consOf (n := 70) h14
  obtain ⟨v15, l, rfl, h16⟩ := consOf (n := 69) h15
  obtain ⟨v16, l, rfl, h17⟩ := consOf (n := 68) h16
  obtain ⟨v17, l, rfl, h18⟩ := consOf (n := 67) h17
  obtain ⟨v18, l, rfl, h19⟩ := consOf (n := 66) h18
  obtain ⟨v19, l, rfl, h20⟩ := consOf (n := 65) h19
  obtain ⟨v20, l, rfl, h21⟩ := consOf (n := 64) h20
  obtain ⟨v21, l, rfl, h22⟩ := consOf (n := 63) h21
  obtain ⟨v22, l, rfl, h23⟩ := consOf (n := 62) h22
  obtain ⟨v23, l, rfl, h24⟩ := consOf (n := 61) h23
  obtain ⟨v24, l, rfl, h25⟩ := consOf (n := 60) h24
  obtain ⟨v25, l, rfl, h26⟩ := consOf (n := 59) h25
  obtain ⟨v26, l, rfl, h27⟩ := consOf (n := 58) h26
  obtain ⟨v27, l, rfl, h28⟩ := consOf (n := 57) h27
  obtain ⟨v28, l, rfl, h29⟩ := consOf (n := 56) h28
  obtain ⟨v29, l, rfl, h30⟩ := consOf (n := 55) h29
  obtain ⟨v30, l, rfl, h31⟩ := consOf (n := 54) h30
  obtain ⟨v31, l, rfl, h32⟩ := consOf (n := 53) h31
  obtain ⟨v32, l, rfl, h33⟩ := consOf (n := 52) h32
  obtain ⟨v33, l, rfl, h34⟩ := consOf (n := 51) h33
  obtain ⟨v34, l, rfl, h35⟩ := consOf (n := 50) h34
  obtain ⟨v35, l, rfl, h36⟩ := consOf (n := 49) h35
  obtain ⟨v36, l, rfl, h37⟩ := consOf (n := 48) h36
  obtain ⟨v37, l, rfl, h38⟩ := consOf (n := 47) h37
  obtain ⟨v38, l, rfl, h39⟩ := consOf (n := 46) h38
  obtain ⟨v39, l, rfl, h40⟩ := consOf (n := 45) h39
  obtain ⟨v40, l, rfl, h41⟩ := consOf (n := 44) h40
  obtain ⟨v41, l, rfl, h42⟩ := consOf (n := 43) h41
  obtain ⟨v42, l, rfl, h43⟩ := consOf (n := 42) h42
  obtain ⟨v43, l, rfl, h44⟩ := consOf (n := 41) h43
  obtain ⟨v44, l, rfl, h45⟩ := consOf (n := 40) h44
  obtain ⟨v45, l, rfl, h46⟩ := consOf (n := 39) h45
  obtain ⟨v46, l, rfl, h47⟩ := consOf (n := 38) h46
  obtain ⟨v47, l, rfl, h48⟩ := consOf (n := 37) h47
  obtain ⟨v48, l, rfl, h49⟩ := consOf (n := 36) h48
  obtain ⟨v49, l, rfl, h50⟩ := consOf (n := 35) h49
  obtain ⟨v50, l, rfl, h51⟩ := consOf (n := 34) h50
  obtain ⟨v51, l, rfl, h52⟩ := consOf (n := 33) h51
  obtain ⟨v52, l, rfl, h53⟩ := consOf (n := 32) h52
  obtain ⟨v53, l, rfl, h54⟩ := consOf (n := 31) h53
  obtain ⟨v54, l, rfl, h55⟩ := consOf (n := 30) h54
  obtain ⟨v55, l, rfl, h56⟩ := consOf (n := 29) h55
  obtain ⟨v56, l, rfl, h57⟩ := consOf (n := 28) h56
  obtain ⟨v57, l, rfl, h58⟩ := consOf (n := 27) h57
  obtain ⟨v58, l, rfl, h59⟩ := consOf (n := 26) h58
  obtain ⟨v59, l, rfl, h60⟩ := consOf (n := 25) h59
  obtain ⟨v60, l, rfl, h61⟩ := consOf (n := 24) h60
  obtain ⟨v61, l, rfl, h62⟩ := consOf (n := 23) h61
  obtain ⟨v62, l, rfl, h63⟩ := consOf (n := 22) h62
  obtain ⟨v63, l, rfl, h64⟩ := consOf (n := 21) h63
  obtain ⟨v64, l, rfl, h65⟩ := consOf (n := 20) h64
  obtain ⟨v65, l, rfl, h66⟩ := consOf (n := 19) h65
  obtain ⟨v66, l, rfl, h67⟩ := consOf (n := 18) h66
  obtain ⟨v67, l, rfl, h68⟩ := consOf (n := 17) h67
  obtain ⟨v68, l, rfl, h69⟩ := consOf (n := 16) h68
  obtain ⟨v69, l, rfl, h70⟩ := consOf (n := 15) h69
  obtain ⟨v70, l, rfl, h71⟩ := consOf (n := 14) h70
  obtain ⟨v71, l, rfl, h72⟩ := consOf (n := 13) h71
  obtain ⟨v72, l, rfl, h73⟩ := consOf (n := 12) h72
  obtain ⟨v73, l, rfl, h74⟩ := consOf (n := 11) h73
  obtain ⟨v74, l, rfl, h75⟩ := consOf (n := 10) h74
  obtain ⟨v75, l, rfl, h76⟩ := consOf (n := 9) h75
  obtain ⟨v76, l, rfl, h77⟩ := consOf (n := 8) h76
  obtain ⟨v77, l, rfl, h78⟩ := consOf (n := 7) h77
  obtain ⟨v78, l, rfl, h79⟩ := consOf (n := 6) h78
  obtain ⟨v79, l, rfl, h80⟩ := consOf (n := 5) h79
  obtain ⟨v80, l, rfl, h81⟩ := consOf (n := 4) h80
  obtain ⟨v81, l, rfl, h82⟩ := consOf (n := 3) h81
  obtain ⟨v82, l, rfl, h83⟩ := consOf (n := 2) h82
  obtain ⟨v83, l, rfl, h84⟩ := consOf (n := 1) h83
  obtain ⟨v84, l, rfl, h85⟩ := consOf (n := 0) h84
  obtain rfl := List.eq_nil_of_length_eq_zero h85
  exact ⟨v0, v1, v2, v3, v4, v5, v6, v7, v8, v9, v10, v11, v12, v13, v14, v15, v16, v17, v18, v19, v20, v21, v22, v23, v24, v25, v26, v27, v28, v29, v30, v31, v32, v33, v34, v35, v36, v37, v38, v39, v40, v41, v42, v43, v44, v45, v46, v47, v48, v49, v50, v51, v52, v53, v54, v55, v56, v57, v58, v59, v60, v61, v62, v63, v64, v65, v66, v67, v68, v69, v70, v71, v72, v73, v74, v75, v76, v77, v78, v79, v80, v81, v82, v83, v84, rfl⟩
set_option maxRecDepth 100000 in
theorem WOenter (x0 : Value) : Frame.enter Try.prog 8 #[x0] .normal = ⟨8, (x0 :: List.replicate 84 undef).toArray, [.code (seqs (.seq (.region 8 WOops false) WOrest) WOl)], [], .run, .normal, none⟩ := by
  rw [enter_at (c := seqs (.seq (.region 8 WOops false) WOrest) WOl) _ Try.func8 rfl]
  simp only [Try.ntmps8]
  have e : #[x0] ++ Array.replicate (85 - #[x0].size) undef = (x0 :: List.replicate 84 undef).toArray := by
    apply Array.ext'
    simp
  rw [e]
  rfl

/-- at the call -/
def WOmid (T : Array Value) (w : World) : Prop :=
  ∃ ad cap zs m v, T[3]? = some (.slice ad zs.length cap) ∧ T[4]? = some (.int .i64 m) ∧ T[5]? = some (.int .i64 v) ∧ IntsAt w ad zs ∧ wrB zs m = true ∧ Sup (spL m.toNat) [] zs 0 v ∧ 0 ≤ v ∧ v ≤ 600 ∧ T.size = 85

set_option maxRecDepth 100000 in
set_option maxHeartbeats 4000000 in
theorem WO_pre (a : Option Addr) (len cap : Nat) (w : World) (hcap : len ≤ cap) (hb : BytesAt w w.heap.size a len) (hmax : len ≤ 9223372036854775807) :
    preWp Try.prog WOl (fun e b w' => (e = .normal ∨ e = .ret) ∧ b.defers = [] ∧ ((e = .ret ∧ b.tmps[2]? = some (.bool true)) ∨ (e = .normal ∧ b.tmps.size = 85 ∧ WOmid b.tmps w'))) ⟨(.slice a len cap :: List.replicate 84 undef).toArray, []⟩ w := by
  show preWp Try.prog WOl _ ⟨#[.slice a len cap, undef, undef, undef, undef, undef, undef, undef, undef, undef, undef, undef, undef, undef, undef, undef, undef, undef, undef, undef, undef, undef, undef, undef, undef, undef, undef, undef, undef, undef, undef, undef, undef, undef, undef, undef, undef, undef, undef, undef, undef, undef, undef, undef, undef, undef, undef, undef, undef, undef, undef, undef, undef, undef, undef, undef, undef, undef, undef, undef, undef, undef, undef, undef, undef, undef, undef, undef, undef, undef, undef, undef, undef, undef, undef, undef, undef, undef, undef, undef, undef, undef, undef, undef, undef], []⟩ w
  unfold WOl
  refine pre_cons ?_
  simp only [WOs0, Try.f8, Option.getD_some]
  go_wp2
  refine pre_cons ?_
  simp only [WOs1, Try.f8, Option.getD_some]
  by_cases hl : len ≤ 1048576
  case neg =>
    go_wp2
    exact ⟨.inr trivial, trivial, .inl ⟨trivial, rfl⟩⟩
  go_wp2
  refine pre_cons ?_
  simp only [WOs2, Try.f8, Option.getD_some]
  go_wp2_with fail
  refine (DrawLoadWorstC_any a len cap w hl hcap hb).mono ?_
  rintro e w1 ⟨ad, cp, zs, m, rfl, hcp, hz, hd, hI, hm0, hm6, hB⟩
  clear hB hb hd
  go_wp2_with fail
  refine pre_cons ?_
  simp only [WOs3, Try.f8, Option.getD_some]
  go_wp2_with fail
  refine (LoadWorst_any ad cp zs m w1 (by omega) hI).mono ?_
  rintro e w2 ⟨v2, rfl, hB2, h2t, h2f⟩
  have hI2 := hI.below hB2
  clear hI hB2
  have H2 := Lib.hid h2t
  have H3 := Lib.hid h2f
  clear h2t h2f
  go_wp2_with fail
  refine pre_cons ?_
  simp only [WOs4, Try.f8, Option.getD_some]
  go_wp2_with fail
  refine (sLoadWorst_any ad cp zs m w2 (by omega) hcp hI2).mono ?_
  rintro e w3 ⟨v3, rfl, hB3, h3t, h3f⟩
  have hI3 := hI2.below hB3
  have hvv : v3 = v2 := by
    cases hq : wrB zs m with
    | false => rw [h3f hq, H3.out hq]
    | true => exact Sup.unique (h3t hq).1 (H2.out hq).1
  subst hvv
  have HMid : Hid (wrB zs m = true → ∀ T : Array Value, T.size = 85 → T[3]? = some (.slice ad zs.length cp) → T[4]? = some (.int .i64 m) → T[5]? = some (.int .i64 v3) → WOmid T w3) := fun h T h0 h1 h2 h3 => ⟨ad, cp, zs, m, v3, h1, h2, h3, hI3, h, (h3t h).1, (h3t h).2.1, (h3t h).2.2, h0⟩
  obtain ⟨q, hq⟩ : ∃ q, wrB zs m = q := ⟨_, rfl⟩
  rw [hq] at HMid ⊢
  clear hq hI2 hI3 hB3 h3t h3f H2 H3
  go_wp2_with fail
  refine pre_cons ?_
  simp only [WOs5, Try.f8, Option.getD_some]
  cases q with
  | false =>
    go_wp2_with fail
    exact ⟨.inr trivial, trivial, .inl ⟨trivial, rfl⟩⟩
  | true =>
    go_wp2_with fail
    exact ⟨.inl rfl, rfl, .inr ⟨rfl, rfl, HMid.out trivial _ rfl rfl rfl rfl⟩⟩

theorem WO_mul {M : Nat} {x : Int} (hM : M ≤ 5) (h : 0 ≤ x ∧ x ≤ 600) : 0 ≤ (M : Int) * x ∧ (M : Int) * x ≤ 3000 := by
  have : M = 0 ∨ M = 1 ∨ M = 2 ∨ M = 3 ∨ M = 4 ∨ M = 5 := by omega
  rcases this with rfl | rfl | rfl | rfl | rfl | rfl <;> simp <;> omega
theorem WO_bd {zs : List Int} {m v : Int} (h : wrB zs m = true) (hS : Sup (spL m.toNat) [] zs 0 v) : ∃ (M : Nat) (n s : Int), m = M ∧ 1 ≤ M ∧ M ≤ 5 ∧ llV zs m = (n, true) ∧ toldL zs m = true ∧ zs.length ≤ 6 ∧ spanL zs m = s ∧ s ≤ v ∧ 0 ≤ n ∧ n ≤ 600 ∧ (M : Int) * v ≤ (2 * M - 1) * n := by
  simp only [wrB, Bool.and_eq_true, decide_eq_true_eq] at h
  obtain ⟨ht, h6⟩ := h
  obtain ⟨⟨h10, hg⟩, hm1, hm5⟩ := (toldL_iff zs m).1 ht
  obtain ⟨M, rfl⟩ := Int.eq_ofNat_of_zero_le (show 0 ≤ m by omega)
  rw [Int.toNat_natCast] at hS
  obtain ⟨e1, e2⟩ := worst_law (good_nn hg) (by omega) hS
  have e3 := opt_bd hg (m := M) (by omega)
  have e4 := tot_bd hg
  exact ⟨M, opt zs M, _, rfl, by omega, by omega, by rw [llV, if_pos ⟨ht, by omega⟩]; simp [tlV, tal, opt], ht, h6, rfl, by rw [spanL, if_pos ht, Int.toNat_natCast]; exact e1, by omega, by omega, e2⟩

set_option maxRecDepth 100000 in
set_option maxHeartbeats 4000000 in
theorem WO_tail (T : Array Value) (w : World) (h : WOmid T w) :
    ∃ a0 cap zs m, T[3]? = some (.slice a0 zs.length cap) ∧ T[4]? = some (.int .i64 m) ∧ IntsAt w a0 zs ∧ zs.length ≤ 2000000 ∧
      ∀ W', Like w W' → wpList Try.prog WOops (Exit.then (WOrest.wp Try.prog fun e b _ => e = .ret ∧ b.defers = [] ∧ b.tmps[2]? = some (.bool true)) fun e b _ => e = .ret ∧ b.defers = [] ∧ b.tmps[2]? = some (.bool true)) (WOops.toList.drop 3)
        ⟨((T.setIfInBounds 54 (.slice a0 zs.length cap)).setIfInBounds 55 (.int .i64 m)).setIfInBounds 56 (twoV (llV zs m)), []⟩ W' := by
  obtain ⟨ad, cap, zs, m, v, h3, h4, h5, hI, hwr, hSup, hv0, hv1, hT⟩ := h
  obtain ⟨M, n, s, rfl, hM1, hM5, hr, ht, h6, hs, b1, b2, b3, b4⟩ := WO_bd hwr hSup
  refine ⟨ad, cap, zs, M, h3, h4, hI, by omega, fun W' hW => ?_⟩
  have hI' := ints_same hI hW.1 hW.2
  obtain ⟨v0, v1, v2, v3, v4, v5, v6, v7, v8, v9, v10, v11, v12, v13, v14, v15, v16, v17, v18, v19, v20, v21, v22, v23, v24, v25, v26, v27, v28, v29, v30, v31, v32, v33, v34, v35, v36, v37, v38, v39, v40, v41, v42, v43, v44, v45, v46, v47, v48, v49, v50, v51, v52, v53, v54, v55, v56, v57, v58, v59, v60, v61, v62, v63, v64, v65, v66, v67, v68, v69, v70, v71, v72, v73, v74, v75, v76, v77, v78, v79, v80, v81, v82, v83, v84, rfl⟩ := WOsize T hT
  simp only [List.getElem?_toArray, List.getElem?_cons_succ, List.getElem?_cons_zero, Option.some.injEq] at h3 h4 h5
  subst h3 h4 h5
  have HLS := Lib.hid (LoadSpan_any ad cap zs M W' (by omega) hI')
  rw [ht, hs] at HLS
  rw [hr]
  have q1 := WO_mul (M := M) (x := v) (by omega) ⟨hv0, hv1⟩
  have q2 := WO_mul (M := M) (x := n) (by omega) ⟨b2, b3⟩
  have q3 : (2 * (M : Int) - 1) * n = 2 * (M * n) - n := by rw [Int.sub_mul, Int.mul_assoc]; omega
  have k1 : IntKind.i64.wrap ((M : Int) * v) = M * v := IntWalk.i64_in _ (by omega)
  have k2 : IntKind.i64.wrap ((2 * (M : Int) - 1) * n) = (2 * M - 1) * n := IntWalk.i64_in _ (by omega)
  have hfin : decide ((M : Int) * v ≤ (2 * M - 1) * n) = true := decide_eq_true b4
  simp only [twoV, WOops, WOrest, Try.f8, Option.getD_some, List.setIfInBounds_toArray, List.set_cons_succ, List.set_cons_zero, List.drop_succ_cons, List.drop_zero]
  clear hr hI hI' hW hT hwr hSup ht hs q1 q2 q3 b4
  have HF := Lib.hid hfin
  have HB1 := Lib.hid b1
  clear hfin b1
  go_wp2_with fail
  refine HLS.out.mono ?_
  rintro e w' ⟨rfl, hB⟩
  clear hB
  have b1 := HB1.out
  have hf := HF.out
  go_wp2_with fail

set_option maxRecDepth 1000000 in
theorem FnWorst_ends (a : Option Addr) (len cap : Nat) (W : World) (hcap : len ≤ cap) (hb : BytesAt W W.heap.size a len) (hmax : len ≤ 9223372036854775807) (hsh : ∀ ad, a = some ad → ad.spot = none ∧ ∃ c e fr, W.heap[ad.block]? = some (.cells c e fr)) :
    Ends 8 #[.slice a len cap] W := by
  obtain ⟨ρ, A, a0, hS, hv, hbA⟩ := sim_bytes (LB := LB) (cap := cap) hb hsh
  exact law_runs (T0 := (.slice a0 len cap :: List.replicate 84 undef).toArray) (T := (.slice a len cap :: List.replicate 84 undef).toArray) (l := WOl) (id := 8) (ops := WOops) (rest := WOrest) (s0 := 3) (d0 := 54) (s1 := 4) (d1 := 55) (d2 := 56) (tr := 2) (Mid := WOmid)
    LB_closed (LL_lead LB_ok) (WOenter _) (by kernel_rfl) (by kernel_rfl) (by kernel_rfl) rfl rfl rfl rfl rfl ⟨rfl, rfl, rfl⟩ ⟨rfl, rfl, rfl⟩ rfl rfl rfl Try.func13 rfl rfl Try.func8 rfl (by kernel_rfl) (by simp) hS (AR_one hv _)
    (fun W' hW => preWp_mono (fun e b w' h => ⟨h.1, h.2.1, h.2.2.imp id fun h => ⟨h.1, by simp [h.2.1], h.2.2⟩⟩) (WO_pre a0 len cap W' hcap (bytes_like hbA hW) hmax)) WO_tail
end Go.Proofs.Ytacedadenbinmaa
