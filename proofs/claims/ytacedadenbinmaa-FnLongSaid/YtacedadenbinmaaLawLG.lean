/- FnLong: what it does alone ahead of the call that starts goroutines, and behind it. Conditions: none. -/
import Derived.Test.YtacedadenbinmaaZm
import Derived.Test.YtacedadenbinmaaZo
import Derived.Test.YtacedadenbinmaaZw
import Derived.Test.YtacedadenbinmaaZx
namespace Go.Proofs.Ytacedadenbinmaa
open Go.RowKit Go.Par Go.Conc Go.ConcN

noncomputable def LGs0 : Code := match Try.f10.body.getD .skip with | .seq a _ => a | _ => .skip
noncomputable def LGs1 : Code := match Try.f10.body.getD .skip with | .seq _ (.seq a _) => a | _ => .skip
noncomputable def LGs2 : Code := match Try.f10.body.getD .skip with | .seq _ (.seq _ (.seq a _)) => a | _ => .skip
noncomputable def LGs3 : Code := match Try.f10.body.getD .skip with | .seq _ (.seq _ (.seq _ (.seq a _))) => a | _ => .skip
noncomputable def LGs4 : Code := match Try.f10.body.getD .skip with | .seq _ (.seq _ (.seq _ (.seq _ (.seq a _)))) => a | _ => .skip
noncomputable def LGs5 : Code := match Try.f10.body.getD .skip with | .seq _ (.seq _ (.seq _ (.seq _ (.seq _ (.seq a _))))) => a | _ => .skip
noncomputable def LGops : Array Oper := match Try.f10.body.getD .skip with | .seq _ (.seq _ (.seq _ (.seq _ (.seq _ (.seq _ (.seq (.region _ ops _) _)))))) => ops | _ => #[]
noncomputable def LGrest : Code := match Try.f10.body.getD .skip with | .seq _ (.seq _ (.seq _ (.seq _ (.seq _ (.seq _ (.seq _ r)))))) => r | _ => .skip
noncomputable def LGl : List Code := [LGs0, LGs1, LGs2, LGs3, LGs4, LGs5]
theorem LGsize (T : Array Value) (h0 : T.size = 87) : ∃ v0 v1 v2 v3 v4 v5 v6 v7 v8 v9 v10 v11 v12 v13 v14 v15 v16 v17 v18 v19 v20 v21 v22 v23 v24 v25 v26 v27 v28 v29 v30 v31 v32 v33 v34 v35 v36 v37 v38 v39 v40 v41 v42 v43 v44 v45 v46 v47 v48 v49 v50 v51 v52 v53 v54 v55 v56 v57 v58 v59 v60 v61 v62 v63 v64 v65 v66 v67 v68 v69 v70 v71 v72 v73 v74 v75 v76 v77 v78 v79 v80 v81 v82 v83 v84 v85 v86 : Value, T = #[v0, v1, v2, v3, v4, v5, v6, v7, v8, v9, v10, v11, v12, v13, v14, v15, v16, v17, v18, v19, v20, v21, v22, v23, v24, v25, v26, v27, v28, v29, v30, v31, v32, v33, v34, v35, v36, v37, v38, v39, v40, v41, v42, v43, v44, v45, v46, v47, v48, v49, v50, v51, v52, v53, v54, v55, v56, v57, v58, v59, v60, v61, v62, v63, v64, v65, v66, v67, v68, v69, v70, v71, v72, v73, v74, v75, v76, v77, v78, v79, v80, v81, v82, v83, v84, v85, v86] := by
  obtain ⟨l⟩ := T
  simp only [List.size_toArray] at h0
  obtain ⟨v0, l, rfl, h1⟩ := consOf (n := 86) h0
  obtain ⟨v1, l, rfl, h2⟩ := consOf (n := 85) h1
  obtain ⟨v2, l, rfl, h3⟩ := consOf (n := 84) h2
  obtain ⟨v3, l, rfl, h4⟩ := consOf (n := 83) h3
  obtain ⟨v4, l, rfl, h5⟩ := consOf (n := 82) h4
  obtain ⟨v5, l, rfl, h6⟩ := consOf (n := 81) h5
  obtain ⟨v6, l, rfl, h7⟩ := consOf (n := 80) h6
  obtain ⟨v7, l, rfl, h8⟩ := consOf (n := 79) h7
  obtain ⟨v8, l, rfl, h9⟩ := consOf (n := 78) h8
  obtain ⟨v9, l, rfl, h10⟩ := consOf (n := 77) h9
  obtain ⟨v10, l, rfl, h11⟩ := consOf (n := 76) h10
  obtain ⟨v11, l, rfl, h12⟩ := consOf (n := 75) h11
  obtain ⟨v12, l, rfl, h13⟩ := consOf (n := 74) h12
  obtain ⟨v13, l, rfl, h14⟩ := consOf (n := 73) h13
  obtain ⟨v14, l, rfl, h15⟩ := consOf (n := 72) h14
  obtain ⟨v15, l, rfl, h16⟩ := consOf (n := 71) h15
  obtain ⟨v16, l, rfl, h17⟩ := consOf (n := 70) h16
  obtain ⟨v17, l, rfl, h18⟩ := consOf (n := 69) h17
  obtain ⟨v18, l, rfl, h19⟩ := consOf (n := 68) h18
  obtain ⟨v19, l, rfl, h20⟩ := consOf (n := 67) h19
  obtain ⟨v20, l, rfl, h21⟩ := consOf (n := 66) h20
  obtain ⟨v21, l, rfl, h22⟩ := consOf (n := 65) h21
  obtain ⟨v22, l, rfl, h23⟩ := consOf (n := 64) h22
  obtain ⟨v23, l, rfl, h24⟩ := consOf (n := 63) h23
  obtain ⟨v24, l, rfl, h25⟩ := consOf (n := 62) h24
  obtain ⟨v25, l, rfl, h26⟩ := consOf (n := 61) h25
  obtain ⟨v26, l, rfl, h27⟩ := consOf (n := 60) h26
  obtain ⟨v27, l, rfl, h28⟩ := consOf (n := 59) h27
  obtain ⟨v28, l, rfl, h29⟩ := consOf (n := 58) h28
  obtain ⟨v29, l, rfl, h30⟩ := consOf (n := 57) h29
  obtain ⟨v30, l, rfl, h31⟩ := consOf (n := 56) h30
  obtain ⟨v31, l, rfl, h32⟩ := consOf (n := 55) h31
  obtain ⟨v32, l, rfl, h33⟩ := consOf (n := 54) h32
  obtain ⟨v33, l, rfl, h34⟩ := consOf (n := 53) h33
  obtain ⟨v34, l, rfl, h35⟩ := consOf (n := 52) h34
  obtain ⟨v35, l, rfl, h36⟩ := consOf (n := 51) h35
  obtain ⟨v36, l, rfl, h37⟩ := consOf (n := 50) h36
  obtain ⟨v37, l, rfl, h38⟩ := consOf (n := 49) h37
  obtain ⟨v38, l, rfl, h39⟩ := consOf (n := 48) h38
  obtain ⟨v39, l, rfl, h40⟩ := consOf (n := 47) h39
  obtain ⟨v40, l, rfl, h41⟩ := consOf (n := 46) h40
  obtain ⟨v41, l, rfl, h42⟩ := consOf (n := 45) h41
  obtain ⟨v42, l, rfl, h43⟩ := consOf (n := 44) h42
  obtain ⟨v43, l, rfl, h44⟩ := consOf (n := 43) h43
  obtain ⟨v44, l, rfl, h45⟩ := consOf (n := 42) h44
  obtain ⟨v45, l, rfl, h46⟩ := consOf (n := 41) h45
  obtain ⟨v46, l, rfl, h47⟩ := consOf (n := 40) h46
  obtain ⟨v47, l, rfl, h48⟩ := consOf (n := 39) h47
  obtain ⟨v48, l, rfl, h49⟩ := consOf (n := 38) h48
  obtain ⟨v49, l, rfl, h50⟩ := consOf (n := 37) h49
  obtain ⟨v50, l, rfl, h51⟩ := consOf (n := 36) h50
  obtain ⟨v51, l, rfl, h52⟩ := consOf (n := 35) h51
  obtain ⟨v52, l, rfl, h53⟩ := consOf (n := 34) h52
  obtain ⟨v53, l, rfl, h54⟩ := consOf (n := 33) h53
  obtain ⟨v54, l, rfl, h55⟩ := consOf (n := 32) h54
  obtain ⟨v55, l, rfl, h56⟩ := consOf (n := 31) h55
  obtain ⟨v56, l, rfl, h57⟩ := consOf (n := 30) h56
  obtain ⟨v57, l, rfl, h58⟩ := consOf (n := 29) h57
  obtain ⟨v58, l, rfl, h59⟩ := consOf (n := 28) h58
  obtain ⟨v59, l, rfl, h60⟩ := consOf (n := 27) h59
  obtain ⟨v60, l, rfl, h61⟩ := consOf (n := 26) h60
  obtain ⟨v61, l, rfl, h62⟩ := consOf (n := 25) h61
  obtain ⟨v62, l, rfl, h63⟩ := consOf (n := 24) h62
  obtain ⟨v63, l, rfl, h64⟩ := consOf (n := 23) h63
  obtain ⟨v64, l, rfl, h65⟩ := consOf (n := 22) h64
  obtain ⟨v65, l, rfl, h66⟩ := consOf (n := 21) h65
  obtain ⟨v66, l, rfl, h67⟩ := consOf (n := 20) h66
  obtain ⟨v67, l, rfl, h68⟩ := consOf (n := 19) h67
  obtain ⟨v68, l, rfl, h69⟩ := consOf (n := 18) h68
  obtain ⟨v69, l, rfl, h70⟩ := consOf (n := 17) h69
  obtain ⟨v70, l, rfl, h71⟩ := consOf (n := 16) h70
  obtain ⟨v71, l, rfl, h72⟩ := consOf (n := 15) h71
  obtain ⟨v72, l, rfl, h73⟩ := consOf (n := 14) h72
  obtain ⟨v73, l, rfl, h74⟩ := consOf (n := 13) h73
  obtain ⟨v74, l, rfl, h75⟩ := consOf (n := 12) h74
  obtain ⟨v75, l, rfl, h76⟩ := consOf (n := 11) h75
  obtain ⟨v76, l, rfl, h77⟩ := consOf (n := 10) h76
  obtain ⟨v77, l, rfl, h78⟩ := consOf (n := 9) h77
  obtain ⟨v78, l, rfl, h79⟩ := consOf (n := 8) h78
  obtain ⟨v79, l, rfl, h80⟩ := consOf (n := 7) h79
  obtain ⟨v80, l, rfl, h81⟩ := consOf (n := 6) h80
  obtain ⟨v81, l, rfl, h82⟩ := consOf (n := 5) h81
  obtain ⟨v82, l, rfl, h83⟩ := consOf (n := 4) h82
  obtain ⟨v83, l, rfl, h84⟩ := consOf (n := 3) h83
  obtain ⟨v84, l, rfl, h85⟩ := consOf (n := 2) h84
  obtain ⟨v85, l, rfl, h86⟩ := consOf (n := 1) h85
  obtain ⟨v86, l, rfl, h87⟩ := consOf (n := 0) h86
  obtain rfl := List.eq_nil_of_length_eq_zero h87
  exact ⟨v0, v1, v2, v3, v4, v5, v6, v7, v8, v9, v10, v11, v12, v13, v14, v15, v16, v17, v18, v19, v20, v21, v22, v23, v24, v25, v26, v27, v28, v29, v30, v31, v32, v33, v34, v35, v36, v37, v38, v39, v40, v41, v42, v43, v44, v45, v46, v47, v48, v49, v50, v51, v52, v53, v54, v55, v56, v57, v58, v59, v60, v61, v62, v63, v64, v65, v66, v67, v68, v69, v70, v71, v72, v73, v74, v75, v76, v77, v78, v79, v80, v81, v82, v83, v84, v85, v86, rfl⟩
set_option maxRecDepth 100000 in
theorem LGenter (x0 : Value) : Frame.enter Try.prog 10 #[x0] .normal = ⟨10, (x0 :: List.replicate 86 undef).toArray, [.code (seqs (.seq (.region 8 LGops false) LGrest) LGl)], [], .run, .normal, none⟩ := by
  rw [enter_at (c := seqs (.seq (.region 8 LGops false) LGrest) LGl) _ Try.func10 rfl]
  simp only [Try.ntmps10]
  have e : #[x0] ++ Array.replicate (87 - #[x0].size) undef = (x0 :: List.replicate 86 undef).toArray := by
    apply Array.ext'
    simp
  rw [e]
  rfl

/-- at the call -/
def LGmid (T : Array Value) (w : World) : Prop :=
  ∃ ad cap zs m, T[3]? = some (.slice ad zs.length cap) ∧ T[4]? = some (.int .i64 m) ∧ T[5]? = some (.int .i64 (longL zs m)) ∧ IntsAt w ad zs ∧ toldL zs m = true ∧ T.size = 87

set_option maxRecDepth 100000 in
set_option maxHeartbeats 4000000 in
theorem LG_pre (a : Option Addr) (len cap : Nat) (w : World) (hcap : len ≤ cap) (hb : BytesAt w w.heap.size a len) (hmax : len ≤ 9223372036854775807) :
    preWp Try.prog LGl (fun e b w' => (e = .normal ∨ e = .ret) ∧ b.defers = [] ∧ ((e = .ret ∧ b.tmps[2]? = some (.bool true)) ∨ (e = .normal ∧ b.tmps.size = 87 ∧ LGmid b.tmps w'))) ⟨(.slice a len cap :: List.replicate 86 undef).toArray, []⟩ w := by
  show preWp Try.prog LGl _ ⟨#[.slice a len cap, undef, undef, undef, undef, undef, undef, undef, undef, undef, undef, undef, undef, undef, undef, undef, undef, undef, undef, undef, undef, undef, undef, undef, undef, undef, undef, undef, undef, undef, undef, undef, undef, undef, undef, undef, undef, undef, undef, undef, undef, undef, undef, undef, undef, undef, undef, undef, undef, undef, undef, undef, undef, undef, undef, undef, undef, undef, undef, undef, undef, undef, undef, undef, undef, undef, undef, undef, undef, undef, undef, undef, undef, undef, undef, undef, undef, undef, undef, undef, undef, undef, undef, undef, undef, undef, undef], []⟩ w
  unfold LGl
  refine pre_cons ?_
  simp only [LGs0, Try.f10, Option.getD_some]
  go_wp2
  refine pre_cons ?_
  simp only [LGs1, Try.f10, Option.getD_some]
  by_cases hl : len ≤ 1048576
  case neg =>
    go_wp2
    exact ⟨.inr trivial, trivial, .inl ⟨trivial, rfl⟩⟩
  go_wp2
  refine pre_cons ?_
  simp only [LGs2, Try.f10, Option.getD_some]
  go_wp2_with fail
  refine (DrawLoadLong_any a len cap w hl hcap hb).mono ?_
  rintro e w1 ⟨ad, cp, zs, m, rfl, hz, hd, hI, hm0, hm6, hB⟩
  go_wp2_with fail
  refine pre_cons ?_
  simp only [LGs3, Try.f10, Option.getD_some]
  go_wp2_with fail
  refine (LoadLong_any ad cp zs m w1 (by omega) hI).mono ?_
  rintro e w2 ⟨rfl, hB2⟩
  have hI2 := hI.below hB2
  go_wp2_with fail
  refine pre_cons ?_
  simp only [LGs4, Try.f10, Option.getD_some]
  go_wp2_with fail
  refine (sLoadLong_any ad cp zs m w2 (by omega) hI2).mono ?_
  rintro e w3 ⟨rfl, hB3⟩
  have hI3 := hI2.below hB3
  obtain ⟨t, ht⟩ : ∃ t, toldL zs m = t := ⟨_, rfl⟩
  have HT := Lib.hid ht
  obtain ⟨s, hs⟩ : ∃ s, longL zs m = s := ⟨_, rfl⟩
  have HS := Lib.hid hs
  rw [ht, hs]
  clear ht hs hI hI2 hB hB2 hB3 hb
  go_wp2_with fail
  refine pre_cons ?_
  simp only [LGs5, Try.f10, Option.getD_some]
  cases t with
  | false =>
    go_wp2
    exact ⟨.inr trivial, trivial, .inl ⟨trivial, rfl⟩⟩
  | true =>
    go_wp2
    exact ⟨.inl rfl, rfl, .inr ⟨rfl, rfl, ad, cp, zs, m, rfl, rfl, by rw [HS.out]; rfl, hI3, HT.out, rfl⟩⟩

theorem LG_mul {M : Nat} {x : Int} (hM : M ≤ 5) (h : 0 ≤ x ∧ x ≤ 600) : 0 ≤ (M : Int) * x ∧ (M : Int) * x ≤ 3000 := by
  have : M = 0 ∨ M = 1 ∨ M = 2 ∨ M = 3 ∨ M = 4 ∨ M = 5 := by omega
  rcases this with rfl | rfl | rfl | rfl | rfl | rfl <;> simp <;> omega
theorem LG_bd {zs : List Int} {m : Nat} (hg : good zs) (hl : zs.length ≤ 10) (hm : 1 ≤ m ∧ m ≤ 5) {out : Int} (ho : longL zs m = out) (ht : toldL zs m = true) :
    bndL zs m ≤ out ∧ 0 ≤ out ∧ out ≤ 600 ∧ 3 * (m : Int) * out ≤ (4 * m - 1) * opt zs m ∧ 0 ≤ opt zs m ∧ opt zs m ≤ 600 := by
  have e : gre (lstS (sortD zs) (List.replicate m 0)) = out := by rw [← ho, longL, if_pos ht, Int.toNat_natCast]
  have hgs := perm_good (sortD_perm zs) hg
  have he := opt_perm_eq (sortD_perm zs).symm (m := m) (by omega) (good_nn hg)
  have h1 := span_bd hg hm.1 (opt_mem zs (by omega))
  have hmem := lstS_mem (sortD zs) (List.replicate m 0) (by simp; omega)
  rw [e] at hmem
  have h7 := opt_le hmem
  rw [he] at h7
  have h2 := long_rule (m := m) (by omega) (sortD zs) (sortD_pair zs) (fun x hx => by have := hgs x hx; omega)
  rw [e, he] at h2
  have h3 := opt_bd hg hm.1
  have h4 := tot_bd hg
  have h5 := lstS_in (sortD zs) (List.replicate m 0) 0 hgs (fun y hy => by have := List.eq_of_mem_replicate hy; omega) (by simp; omega)
  rw [sortD_length] at h5
  have h6 : out ≤ 600 := by
    rw [← e]
    exact gre_le (by omega) fun y hy => by have := h5 y hy; omega
  exact ⟨Int.le_trans h1 h7, by omega, h6, h2, h3.1, by omega⟩

set_option maxRecDepth 100000 in
set_option maxHeartbeats 4000000 in
theorem LG_tail (T : Array Value) (w : World) (h : LGmid T w) :
    ∃ a0 cap zs m, T[3]? = some (.slice a0 zs.length cap) ∧ T[4]? = some (.int .i64 m) ∧ IntsAt w a0 zs ∧ zs.length ≤ 2000000 ∧
      ∀ W', Like w W' → wpList Try.prog LGops (Exit.then (LGrest.wp Try.prog fun e b _ => e = .ret ∧ b.defers = [] ∧ b.tmps[2]? = some (.bool true)) fun e b _ => e = .ret ∧ b.defers = [] ∧ b.tmps[2]? = some (.bool true)) (LGops.toList.drop 3)
        ⟨((T.setIfInBounds 54 (.slice a0 zs.length cap)).setIfInBounds 55 (.int .i64 m)).setIfInBounds 56 (twoV (llV zs m)), []⟩ W' := by
  obtain ⟨ad, cap, zs, m, h3, h4, h5, hI, ht, hT⟩ := h
  obtain ⟨⟨h10, hg⟩, hm1, hm5⟩ := (toldL_iff zs m).1 ht
  refine ⟨ad, cap, zs, m, h3, h4, hI, by omega, fun W' hW => ?_⟩
  have hI' := ints_same hI hW.1 hW.2
  obtain ⟨v0, v1, v2, v3, v4, v5, v6, v7, v8, v9, v10, v11, v12, v13, v14, v15, v16, v17, v18, v19, v20, v21, v22, v23, v24, v25, v26, v27, v28, v29, v30, v31, v32, v33, v34, v35, v36, v37, v38, v39, v40, v41, v42, v43, v44, v45, v46, v47, v48, v49, v50, v51, v52, v53, v54, v55, v56, v57, v58, v59, v60, v61, v62, v63, v64, v65, v66, v67, v68, v69, v70, v71, v72, v73, v74, v75, v76, v77, v78, v79, v80, v81, v82, v83, v84, v85, v86, rfl⟩ := LGsize T hT
  simp only [List.getElem?_toArray, List.getElem?_cons_succ, List.getElem?_cons_zero, Option.some.injEq] at h3 h4 h5
  subst h3 h4 h5
  obtain ⟨M, rfl⟩ := Int.eq_ofNat_of_zero_le (show 0 ≤ m by omega)
  obtain ⟨out, ho⟩ : ∃ out, longL zs M = out := ⟨_, rfl⟩
  obtain ⟨b1, b2, b3, b4, b5, b6⟩ := LG_bd hg h10 (by omega) ho ht
  have HLB := Lib.hid (LoadBound_any ad cap zs M W' (by omega) hI')
  rw [if_pos ht, ht] at HLB
  obtain ⟨bd, hbd⟩ : ∃ bd, bndL zs M = bd := ⟨_, rfl⟩
  rw [hbd] at HLB b1
  have hll : ∃ n p, llV zs M = (n, p) ∧ (p = true → n = opt zs M) ∧ (p = false → n = 0) := by
    by_cases h8 : zs.length ≤ 8
    · exact ⟨(tlV zs M).1, true, by rw [llV, if_pos ⟨ht, h8⟩], ⟨fun _ => by simp [tlV, tal, opt], fun h => by cases h⟩⟩
    · exact ⟨0, false, by rw [llV, if_neg fun h => h8 h.2], ⟨fun h => (by cases h), fun _ => rfl⟩⟩
  obtain ⟨n, p, hv, hp1, hp0⟩ := hll
  rw [hv, ho]
  obtain ⟨o, hopt⟩ : ∃ o, opt zs M = o := ⟨_, rfl⟩
  rw [hopt] at b4 b5 b6 hp1
  clear ho hbd hopt hv hI hI' hg h10 ht hT
  simp only [twoV, LGops, LGrest, Try.f10, Option.getD_some, List.setIfInBounds_toArray, List.set_cons_succ, List.set_cons_zero, List.drop_succ_cons, List.drop_zero]
  have q1 := LG_mul (M := M) (x := out) (by omega) ⟨b2, b3⟩
  have hn : 0 ≤ n ∧ n ≤ 600 := by
    cases p with
    | true => rw [hp1 rfl]; exact ⟨b5, b6⟩
    | false => rw [hp0 rfl]; omega
  have q2 := LG_mul (M := M) (x := n) (by omega) hn
  have q3 : (4 * (M : Int) - 1) * n = 4 * (M * n) - n := by rw [Int.sub_mul, Int.mul_assoc]; omega
  have q4 : 3 * (M : Int) * out = 3 * (M * out) := by rw [Int.mul_assoc]
  have k1 : IntKind.i64.wrap (3 * (M : Int) * out) = 3 * M * out := IntWalk.i64_in _ (by omega)
  have k2 : IntKind.i64.wrap ((4 * (M : Int) - 1) * n) = (4 * M - 1) * n := IntWalk.i64_in _ (by omega)
  have hfin : p = true → decide (3 * (M : Int) * out ≤ (4 * M - 1) * n) = true := fun h => by
    rw [hp1 h]
    exact decide_eq_true b4
  have HF := Lib.hid hfin
  have HB1 := Lib.hid b1
  clear hfin b4 b5 b6 hp1 hp0 q1 q2 q3 q4 hn b1 hW
  go_wp2_with fail
  refine HLB.out.mono ?_
  rintro e w' ⟨rfl, rfl⟩
  have b1 := HB1.out
  cases p with
  | false =>
    go_wp2_with fail
  | true =>
    have hf := HF.out rfl
    go_wp2_with fail

set_option maxRecDepth 1000000 in
theorem FnLong_ends (a : Option Addr) (len cap : Nat) (W : World) (hcap : len ≤ cap) (hb : BytesAt W W.heap.size a len) (hmax : len ≤ 9223372036854775807) (hsh : ∀ ad, a = some ad → ad.spot = none ∧ ∃ c e fr, W.heap[ad.block]? = some (.cells c e fr)) :
    Ends 10 #[.slice a len cap] W := by
  obtain ⟨ρ, A, a0, hS, hv, hbA⟩ := sim_bytes (LB := LB) (cap := cap) hb hsh
  exact law_runs (T0 := (.slice a0 len cap :: List.replicate 86 undef).toArray) (T := (.slice a len cap :: List.replicate 86 undef).toArray) (l := LGl) (id := 8) (ops := LGops) (rest := LGrest) (s0 := 3) (d0 := 54) (s1 := 4) (d1 := 55) (d2 := 56) (tr := 2) (Mid := LGmid)
    LB_closed (LL_lead LB_ok) (LGenter _) (by kernel_rfl) (by kernel_rfl) (by kernel_rfl) rfl rfl rfl rfl rfl ⟨rfl, rfl, rfl⟩ ⟨rfl, rfl, rfl⟩ rfl rfl rfl Try.func13 rfl rfl Try.func10 rfl (by kernel_rfl) (by simp) hS (AR_one hv _)
    (fun W' hW => preWp_mono (fun e b w' h => ⟨h.1, h.2.1, h.2.2.imp id fun h => ⟨h.1, by simp [h.2.1], h.2.2⟩⟩) (LG_pre a0 len cap W' hcap (bytes_like hbA hW) hmax)) LG_tail
end Go.Proofs.Ytacedadenbinmaa
