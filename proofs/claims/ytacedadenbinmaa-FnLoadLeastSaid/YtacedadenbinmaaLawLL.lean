/- FnLoadLeast: what it does alone ahead of the call that starts goroutines, and behind it. Conditions: none. -/
import Derived.Test.YtacedadenbinmaaZm
import Derived.Test.YtacedadenbinmaaZq
import Derived.Test.YtacedadenbinmaaZo
import Derived.Test.YtacedadenbinmaaZr
import Derived.Test.YtacedadenbinmaaZs
namespace Go.Proofs.Ytacedadenbinmaa
open Go.RowKit Go.Par Go.Conc Go.ConcN

noncomputable def LZs0 : Code := match Try.f9.body.getD .skip with | .seq a _ => a | _ => .skip
noncomputable def LZs1 : Code := match Try.f9.body.getD .skip with | .seq _ (.seq a _) => a | _ => .skip
noncomputable def LZs2 : Code := match Try.f9.body.getD .skip with | .seq _ (.seq _ (.seq a _)) => a | _ => .skip
noncomputable def LZops : Array Oper := match Try.f9.body.getD .skip with | .seq _ (.seq _ (.seq _ (.seq (.region _ ops _) _))) => ops | _ => #[]
noncomputable def LZrest : Code := match Try.f9.body.getD .skip with | .seq _ (.seq _ (.seq _ (.seq _ r))) => r | _ => .skip
noncomputable def LZl : List Code := [LZs0, LZs1, LZs2]
theorem LZsize (T : Array Value) (h0 : T.size = 115) : ∃ v0 v1 v2 v3 v4 v5 v6 v7 v8 v9 v10 v11 v12 v13 v14 v15 v16 v17 v18 v19 v20 v21 v22 v23 v24 v25 v26 v27 v28 v29 v30 v31 v32 v33 v34 v35 v36 v37 v38 v39 v40 v41 v42 v43 v44 v45 v46 v47 v48 v49 v50 v51 v52 v53 v54 v55 v56 v57 v58 v59 v60 v61 v62 v63 v64 v65 v66 v67 v68 v69 v70 v71 v72 v73 v74 v75 v76 v77 v78 v79 v80 v81 v82 v83 v84 v85 v86 v87 v88 v89 v90 v91 v92 v93 v94 v95 v96 v97 v98 v99 v100 v101 v102 v103 v104 v105 v106 v107 v108 v109 v110 v111 v112 v113 v114 : Value, T = #[v0, v1, v2, v3, v4, v5, v6, v7, v8, v9, v10, v11, v12, v13, v14, v15, v16, v17, v18, v19, v20, v21, v22, v23, v24, v25, v26, v27, v28, v29, v30, v31, v32, v33, v34, v35, v36, v37, v38, v39, v40, v41, v42, v43, v44, v45, v46, v47, v48, v49, v50, v51, v52, v53, v54, v55, v56, v57, v58, v59, v60, v61, v62, v63, v64, v65, v66, v67, v68, v69, v70, v71, v72, v73, v74, v75, v76, v77, v78, v79, v80, v81, v82, v83, v84, v85, v86, v87, v88, v89, v90, v91, v92, v93, v94, v95, v96, v97, v98, v99, v100, v101, v102, v103, v104, v105, v106, v107, v108, v109, v110, v111, v112, v113, v114] := by
  obtain ⟨l⟩ := T
  simp only [List.size_toArray] at h0
  obtain ⟨v0, l, rfl, h1⟩ := consOf (n := 114) h0
  obtain ⟨v1, l, rfl, h2⟩ := consOf (n := 113) h1
  obtain ⟨v2, l, rfl, h3⟩ := consOf (n := 112) h2
  obtain ⟨v3, l, rfl, h4⟩ := consOf (n := 111) h3
  obtain ⟨v4, l, rfl, h5⟩ := consOf (n := 110) h4
  obtain ⟨v5, l, rfl, h6⟩ := consOf (n := 109) h5
  obtain ⟨v6, l, rfl, h7⟩ := consOf (n := 108) h6
  obtain ⟨v7, l, rfl, h8⟩ := consOf (n := 107) h7
  obtain ⟨v8, l, rfl, h9⟩ := consOf (n := 106) h8
  obtain ⟨v9, l, rfl, h10⟩ := consOf (n := 105) h9
  obtain ⟨v10, l, rfl, h11⟩ := consOf (n := 104) h10
  obtain ⟨v11, l, rfl, h12⟩ := consOf (n := 103) h11
  obtain ⟨v12, l, rfl, h13⟩ := consOf (n := 102) h12
  obtain ⟨v13, l, rfl, h14⟩ := consOf (n := 101) h13
  obtain ⟨v14, l, rfl, h15⟩ := consOf (n := 100) h14
  obtain ⟨v15, l, rfl, h16⟩ := consOf (n := 99) h15
  obtain ⟨v16, l, rfl, h17⟩ := consOf (n := 98) h16
  obtain ⟨v17, l, rfl, h18⟩ := consOf (n := 97) h17
  obtain ⟨v18, l, rfl, h19⟩ := consOf (n := 96) h18
  obtain ⟨v19, l, rfl, h20⟩ := consOf (n := 95) h19
  obtain ⟨v20, l, rfl, h21⟩ := consOf (n := 94) h20
  obtain ⟨v21, l, rfl, h22⟩ := consOf (n := 93) h21
  obtain ⟨v22, l, rfl, h23⟩ := consOf (n := 92) h22
  obtain ⟨v23, l, rfl, h24⟩ := consOf (n := 91) h23
  obtain ⟨v24, l, rfl, h25⟩ := consOf (n := 90) h24
  obtain ⟨v25, l, rfl, h26⟩ := consOf (n := 89) h25
  obtain ⟨v26, l, rfl, h27⟩ := consOf (n := 88) h26
  obtain ⟨v27, l, rfl, h28⟩ := consOf (n := 87) h27
  obtain ⟨v28, l, rfl, h29⟩ := consOf (n := 86) h28
  obtain ⟨v29, l, rfl, h30⟩ := consOf (n := 85) h29
  obtain ⟨v30, l, rfl, h31⟩ := consOf (n := 84) h30
  obtain ⟨v31, l, rfl, h32⟩ := consOf (n := 83) h31
  obtain ⟨v32, l, rfl, h33⟩ := consOf (n := 82) h32
  obtain ⟨v33, l, rfl, h34⟩ := consOf (n := 81) h33
  obtain ⟨v34, l, rfl, h35⟩ := consOf (n := 80) h34
  obtain ⟨v35, l, rfl, h36⟩ := consOf (n := 79) h35
  obtain ⟨v36, l, rfl, h37⟩ := consOf (n := 78) h36
  obtain ⟨v37, l, rfl, h38⟩ := consOf (n := 77) h37
  obtain ⟨v38, l, rfl, h39⟩ := consOf (n := 76) h38
  obtain ⟨v39, l, rfl, h40⟩ := consOf (n := 75) h39
  obtain ⟨v40, l, rfl, h41⟩ := consOf (n := 74) h40
  obtain ⟨v41, l, rfl, h42⟩ := consOf (n := 73) h41
  obtain ⟨v42, l, rfl, h43⟩ := consOf (n := 72) h42
  obtain ⟨v43, l, rfl, h44⟩ := consOf (n := 71) h43
  obtain ⟨v44, l, rfl, h45⟩ := consOf (n := 70) h44
  obtain ⟨v45, l, rfl, h46⟩ := consOf (n := 69) h45
  obtain ⟨v46, l, rfl, h47⟩ := consOf (n := 68) h46
  obtain ⟨v47, l, rfl, h48⟩ := consOf (n := 67) h47
  obtain ⟨v48, l, rfl, h49⟩ := consOf (n := 66) h48
  obtain ⟨v49, l, rfl, h50⟩ := consOf (n := 65) h49
  obtain ⟨v50, l, rfl, h51⟩ := consOf (n := 64) h50
  obtain ⟨v51, l, rfl, h52⟩ := consOf (n := 63) h51
  obtain ⟨v52, l, rfl, h53⟩ := consOf (n := 62) h52
  obtain ⟨v53, l, rfl, h54⟩ := consOf (n := 61) h53
  obtain ⟨v54, l, rfl, h55⟩ := consOf (n := 60) h54
  obtain ⟨v55, l, rfl, h56⟩ := consOf (n := 59) h55
  obtain ⟨v56, l, rfl, h57⟩ := consOf (n := 58) h56
  obtain ⟨v57, l, rfl, h58⟩ := consOf (n := 57) h57
  obtain ⟨v58, l, rfl, h59⟩ := consOf (n := 56) h58
  obtain ⟨v59, l, rfl, h60⟩ := consOf (n := 55) h59
  obtain ⟨v60, l, rfl, h61⟩ := consOf (n := 54) h60
  obtain ⟨v61, l, rfl, h62⟩ := consOf (n := 53) h61
  obtain ⟨v62, l, rfl, h63⟩ := consOf (n := 52) h62
  obtain ⟨v63, l, rfl, h64⟩ := consOf (n := 51) h63
  obtain ⟨v64, l, rfl, h65⟩ := consOf (n := 50) h64
  obtain ⟨v65, l, rfl, h66⟩ := consOf (n := 49) h65
  obtain ⟨v66, l, rfl, h67⟩ := consOf (n := 48) h66
  obtain ⟨v67, l, rfl, h68⟩ := consOf (n := 47) h67
  obtain ⟨v68, l, rfl, h69⟩ := consOf (n := 46) h68
  obtain ⟨v69, l, rfl, h70⟩ := consOf (n := 45) h69
  obtain ⟨v70, l, rfl, h71⟩ := consOf (n := 44) h70
  obtain ⟨v71, l, rfl, h72⟩ := consOf (n := 43) h71
  obtain ⟨v72, l, rfl, h73⟩ := consOf (n := 42) h72
  obtain ⟨v73, l, rfl, h74⟩ := consOf (n := 41) h73
  obtain ⟨v74, l, rfl, h75⟩ := consOf (n := 40) h74
  obtain ⟨v75, l, rfl, h76⟩ := consOf (n := 39) h75
  obtain ⟨v76, l, rfl, h77⟩ := consOf (n := 38) h76
  obtain ⟨v77, l, rfl, h78⟩ := consOf (n := 37) h77
  obtain ⟨v78, l, rfl, h79⟩ := consOf (n := 36) h78
  obtain ⟨v79, l, rfl, h80⟩ := consOf (n := 35) h79
  obtain ⟨v80, l, rfl, h81⟩ := consOf (n := 34) h80
  obtain ⟨v81, l, rfl, h82⟩ := consOf (n := 33) h81
  obtain ⟨v82, l, rfl, h83⟩ := consOf (n := 32) h82
  obtain ⟨v83, l, rfl, h84⟩ := consOf (n := 31) h83
  obtain ⟨v84, l, rfl, h85⟩ := consOf (n := 30) h84
  obtain ⟨v85, l, rfl, h86⟩ := consOf (n := 29) h85
  obtain ⟨v86, l, rfl, h87⟩ := consOf (n := 28) h86
  obtain ⟨v87, l, rfl, h88⟩ := consOf (n := 27) h87
  obtain ⟨v88, l, rfl, h89⟩ := consOf (n := 26) h88
  obtain ⟨v89, l, rfl, h90⟩ := consOf (n := 25) h89
  obtain ⟨v90, l, rfl, h91⟩ := consOf (n := 24) h90
  obtain ⟨v91, l, rfl, h92⟩ := consOf (n := 23) h91
  obtain ⟨v92, l, rfl, h93⟩ := consOf (n := 22) h92
  obtain ⟨v93, l, rfl, h94⟩ := consOf (n := 21) h93
  obtain ⟨v94, l, rfl, h95⟩ := consOf (n := 20) h94
  obtain ⟨v95, l, rfl, h96⟩ := consOf (n := 19) h95
  obtain ⟨v96, l, rfl, h97⟩ := consOf (n := 18) h96
  obtain ⟨v97, l, rfl, h98⟩ := consOf (n := 17) h97
  obtain ⟨v98, l, rfl, h99⟩ := consOf (n := 16) h98
  obtain ⟨v99, l, rfl, h100⟩ := consOf (n := 15) h99
  obtain ⟨v100, l, rfl, h101⟩ := consOf (n := 14) h100
  obtain ⟨v101, l, rfl, h102⟩ := consOf (n := 13) h101
  obtain ⟨v102, l, rfl, h103⟩ := consOf (n := 12) h102
  obtain ⟨v103, l, rfl, h104⟩ := consOf (n := 11) h103
  obtain ⟨v104, l, rfl, h105⟩ := consOf (n := 10) h104
  obtain ⟨v105, l, rfl, h106⟩ := consOf (n := 9) h105
  obtain ⟨v106, l, rfl, h107⟩ := consOf (n := 8) h106
  obtain ⟨v107, l, rfl, h108⟩ := consOf (n := 7) h107
  obtain ⟨v108, l, rfl, h109⟩ := consOf (n := 6) h108
  obtain ⟨v109, l, rfl, h110⟩ := consOf (n := 5) h109
  obtain ⟨v110, l, rfl, h111⟩ := consOf (n := 4) h110
  obtain ⟨v111, l, rfl, h112⟩ := consOf (n := 3) h111
  obtain ⟨v112, l, rfl, h113⟩ := consOf (n := 2) h112
  obtain ⟨v113, l, rfl, h114⟩ := consOf (n := 1) h113
  obtain ⟨v114, l, rfl, h115⟩ := consOf (n := 0) h114
  obtain rfl := List.eq_nil_of_length_eq_zero h115
  exact ⟨v0, v1, v2, v3, v4, v5, v6, v7, v8, v9, v10, v11, v12, v13, v14, v15, v16, v17, v18, v19, v20, v21, v22, v23, v24, v25, v26, v27, v28, v29, v30, v31, v32, v33, v34, v35, v36, v37, v38, v39, v40, v41, v42, v43, v44, v45, v46, v47, v48, v49, v50, v51, v52, v53, v54, v55, v56, v57, v58, v59, v60, v61, v62, v63, v64, v65, v66, v67, v68, v69, v70, v71, v72, v73, v74, v75, v76, v77, v78, v79, v80, v81, v82, v83, v84, v85, v86, v87, v88, v89, v90, v91, v92, v93, v94, v95, v96, v97, v98, v99, v100, v101, v102, v103, v104, v105, v106, v107, v108, v109, v110, v111, v112, v113, v114, rfl⟩
set_option maxRecDepth 100000 in
theorem LZenter (x0 : Value) : Frame.enter Try.prog 9 #[x0] .normal = ⟨9, (x0 :: List.replicate 114 undef).toArray, [.code (seqs (.seq (.region 4 LZops false) LZrest) LZl)], [], .run, .normal, none⟩ := by
  rw [enter_at (c := seqs (.seq (.region 4 LZops false) LZrest) LZl) _ Try.func9 rfl]
  simp only [Try.ntmps9]
  have e : #[x0] ++ Array.replicate (115 - #[x0].size) undef = (x0 :: List.replicate 114 undef).toArray := by
    apply Array.ext'
    simp
  rw [e]
  rfl

/-- at the call -/
def LZmid (T : Array Value) (w : World) : Prop :=
  ∃ ad cap zs m, T[3]? = some (.slice ad zs.length cap) ∧ T[4]? = some (.int .i64 m) ∧ IntsAt w ad zs ∧ zs.length ≤ 8 ∧ T.size = 115

set_option maxRecDepth 100000 in
set_option maxHeartbeats 4000000 in
theorem LZ_pre (a : Option Addr) (len cap : Nat) (w : World) (hcap : len ≤ cap) (hb : BytesAt w w.heap.size a len) (hmax : len ≤ 9223372036854775807) :
    preWp Try.prog LZl (fun e b w' => (e = .normal ∨ e = .ret) ∧ b.defers = [] ∧ ((e = .ret ∧ b.tmps[2]? = some (.bool true)) ∨ (e = .normal ∧ b.tmps.size = 115 ∧ LZmid b.tmps w'))) ⟨(.slice a len cap :: List.replicate 114 undef).toArray, []⟩ w := by
  show preWp Try.prog LZl _ ⟨#[.slice a len cap, undef, undef, undef, undef, undef, undef, undef, undef, undef, undef, undef, undef, undef, undef, undef, undef, undef, undef, undef, undef, undef, undef, undef, undef, undef, undef, undef, undef, undef, undef, undef, undef, undef, undef, undef, undef, undef, undef, undef, undef, undef, undef, undef, undef, undef, undef, undef, undef, undef, undef, undef, undef, undef, undef, undef, undef, undef, undef, undef, undef, undef, undef, undef, undef, undef, undef, undef, undef, undef, undef, undef, undef, undef, undef, undef, undef, undef, undef, undef, undef, undef, undef, undef, undef, undef, undef, undef, undef, undef, undef, undef, undef, undef, undef, undef, undef, undef, undef, undef, undef, undef, undef, undef, undef, undef, undef, undef, undef, undef, undef, undef, undef, undef, undef], []⟩ w
  unfold LZl
  refine pre_cons ?_
  simp only [LZs0, Try.f9, Option.getD_some]
  go_wp2
  refine pre_cons ?_
  simp only [LZs1, Try.f9, Option.getD_some]
  by_cases hl : len ≤ 1048576
  case neg =>
    go_wp2
    exact ⟨.inr trivial, trivial, .inl ⟨trivial, rfl⟩⟩
  go_wp2
  refine pre_cons ?_
  simp only [LZs2, Try.f9, Option.getD_some]
  go_wp2_with fail
  refine (DrawLoadLeast_any a len cap w hl hcap hb).mono ?_
  rintro e w1 ⟨ad, cp, zs, m, rfl, hz, hd, hI, hm0, hm6, hB⟩
  go_wp2_with fail
  exact ⟨.inl rfl, rfl, .inr ⟨rfl, rfl, ad, cp, zs, m, rfl, rfl, hI, hz, rfl⟩⟩

theorem LZ_bd {zs : List Int} {m : Int} {out : Int} (h : llV zs m = (out, true)) : toldL zs m = true ∧ good zs ∧ zs.length ≤ 8 ∧ 0 ≤ out ∧ out ≤ 600 ∧ bndL zs m ≤ out ∧ 1 ≤ m ∧ m ≤ 5 ∧ 0 ≤ tot zs ∧ tot zs ≤ 600 ∧ 0 ≤ lr zs ∧ lr zs ≤ 600 ∧ (m = 1 → out = tot zs) ∧ (m = 2 → 2 * out = tot zs + lr zs) ∧ (m = 3 → out = t3 zs) := by
  unfold llV at h
  split at h
  · rename_i hc
    obtain ⟨ht, h8⟩ := hc
    obtain ⟨⟨_, hg⟩, hm1, hm5⟩ := (toldL_iff zs m).1 ht
    obtain ⟨M, rfl⟩ := Int.eq_ofNat_of_zero_le (show 0 ≤ m by omega)
    simp only [Prod.mk.injEq, and_true, tlV, Int.toNat_natCast] at h
    have ho : opt zs M = out := h
    have h1 := opt_bd hg (m := M) (by omega)
    have h2 := tot_bd hg
    have h3 := span_bd hg (m := M) (by omega) (opt_mem zs (by omega))
    have h4 : 0 ≤ lr zs ∧ lr zs ≤ tot zs := by
      obtain ⟨⟨c, hc, e⟩, _⟩ := lr_least hg
      have := csum_bd hg c
      rw [restOf, sz] at e
      omega
    rw [ho] at h1 h3
    refine ⟨ht, hg, h8, by omega, by omega, h3, by omega, by omega, by omega, by omega, by omega, by omega, fun e => ?_, fun e => ?_, fun e => ?_⟩
    · obtain rfl : M = 1 := by omega
      rw [← ho]; exact opt_one hg
    · obtain rfl : M = 2 := by omega
      rw [← ho]; exact opt_two hg
    · obtain rfl : M = 3 := by omega
      rw [← ho]; exact opt_three hg
  · cases h

set_option maxRecDepth 100000 in
set_option maxHeartbeats 4000000 in
theorem LZ_tail (T : Array Value) (w : World) (h : LZmid T w) :
    ∃ a0 cap zs m, T[3]? = some (.slice a0 zs.length cap) ∧ T[4]? = some (.int .i64 m) ∧ IntsAt w a0 zs ∧ zs.length ≤ 2000000 ∧
      ∀ W', Like w W' → wpList Try.prog LZops (Exit.then (LZrest.wp Try.prog fun e b _ => e = .ret ∧ b.defers = [] ∧ b.tmps[2]? = some (.bool true)) fun e b _ => e = .ret ∧ b.defers = [] ∧ b.tmps[2]? = some (.bool true)) (LZops.toList.drop 3)
        ⟨((T.setIfInBounds 24 (.slice a0 zs.length cap)).setIfInBounds 25 (.int .i64 m)).setIfInBounds 26 (twoV (llV zs m)), []⟩ W' := by
  obtain ⟨ad, cap, zs, m, h3, h4, hI, hz, hT⟩ := h
  refine ⟨ad, cap, zs, m, h3, h4, hI, by omega, fun W' hW => ?_⟩
  have hI' := ints_same hI hW.1 hW.2
  obtain ⟨v0, v1, v2, v3, v4, v5, v6, v7, v8, v9, v10, v11, v12, v13, v14, v15, v16, v17, v18, v19, v20, v21, v22, v23, v24, v25, v26, v27, v28, v29, v30, v31, v32, v33, v34, v35, v36, v37, v38, v39, v40, v41, v42, v43, v44, v45, v46, v47, v48, v49, v50, v51, v52, v53, v54, v55, v56, v57, v58, v59, v60, v61, v62, v63, v64, v65, v66, v67, v68, v69, v70, v71, v72, v73, v74, v75, v76, v77, v78, v79, v80, v81, v82, v83, v84, v85, v86, v87, v88, v89, v90, v91, v92, v93, v94, v95, v96, v97, v98, v99, v100, v101, v102, v103, v104, v105, v106, v107, v108, v109, v110, v111, v112, v113, v114, rfl⟩ := LZsize T hT
  simp only [List.getElem?_toArray, List.getElem?_cons_succ, List.getElem?_cons_zero, Option.some.injEq] at h3 h4
  subst h3 h4
  obtain ⟨r, hr⟩ : ∃ r, llV zs m = r := ⟨_, rfl⟩
  obtain ⟨n, p⟩ := r
  have HS := Lib.hid (sLoadLeast_any ad cap zs m W' (by omega) hI')
  rw [hr] at HS ⊢
  simp only [twoV, LZops, LZrest, Try.f9, Option.getD_some, List.setIfInBounds_toArray, List.set_cons_succ, List.set_cons_zero, List.drop_succ_cons, List.drop_zero]
  cases p with
  | false =>
    clear hr hI hW hT
    go_wp2_with fail
    refine HS.out.mono ?_
    simp only [twoV]
    rintro e w3 ⟨rfl, hB3⟩
    go_wp2_with fail
  | true =>
    obtain ⟨ht, hg, h8, b1, b2, b3, b4, b5, b6, b7, b8, b9, e1, e2, e3⟩ := LZ_bd hr
    have hiz : inL zs = true := (inL_iff zs).2 ⟨by omega, hg⟩
    have HTT := Lib.hid hiz
    have HLB : Hid (∀ W, IntsAt W ad zs → Calls Try.prog 27 #[.slice ad zs.length cap, .int .i64 m] W fun e w' => e = .returned (.tuple #[.int .i64 (bndL zs m), .bool true]) ∧ W = w') := fun W h => by
      have := LoadBound_any ad cap zs m W (by omega) h
      rw [if_pos ht, ht] at this
      exact this
    have HTO : Hid (∀ W, IntsAt W ad zs → Calls Try.prog 22 #[.slice ad zs.length cap] W fun e w' => e = .returned (.int .i64 (tot zs)) ∧ W = w') := fun W h => total_any ad cap zs W (by omega) (fun x hx => by have := hg x hx; omega) h
    have HHB : Hid (∀ W, IntsAt W ad zs → Calls Try.prog 32 #[.slice ad zs.length cap] W (NumPost W (lr zs) true)) := fun W h => by
      have := HalfBest_any ad cap zs W (by omega) h
      rw [lrR, if_pos hiz, hiz] at this
      exact this
    have HHT : Hid (∀ W, IntsAt W ad zs → Calls Try.prog 33 #[.slice ad zs.length cap] W (NumPost W (t3 zs) true)) := fun W h => by
      have := HalfThree_any ad cap zs W (by omega) h
      rw [t3R, if_pos hiz, hiz] at this
      exact this
    have HE1 := Lib.hid e1
    have HE2 := Lib.hid e2
    have HE3 := Lib.hid e3
    obtain ⟨T0, hT0⟩ : ∃ t, tot zs = t := ⟨_, rfl⟩
    obtain ⟨L0, hL0⟩ : ∃ t, lr zs = t := ⟨_, rfl⟩
    obtain ⟨H0, hH0⟩ : ∃ t, t3 zs = t := ⟨_, rfl⟩
    obtain ⟨B0, hB0⟩ : ∃ t, bndL zs m = t := ⟨_, rfl⟩
    rw [hT0] at b6 b7 HTO HE1 HE2
    rw [hL0] at b8 b9 HHB HE2
    rw [hH0] at HHT HE3
    rw [hB0] at b3 HLB
    clear hr hI hW hT hT0 hL0 hH0 hB0 e1 e2 e3 hg ht hiz HTT
    have hM : m = 1 ∨ m = 2 ∨ m = 3 ∨ m = 4 ∨ m = 5 := by omega
    rcases hM with rfl | rfl | rfl | rfl | rfl
    all_goals
      have e1 := HE1.out
      have e2 := HE2.out
      have e3 := HE3.out
      clear HE1 HE2 HE3 b4 b5
      simp at e1 e2 e3
      go_wp2_with fail
      refine HS.out.mono ?_
      simp only [twoV]
      rintro e w3 ⟨rfl, hB3⟩
      have hI3 := hI'.below hB3
      clear HS hI' hB3
      go_wp2_with fail
      refine (HLB.out w3 hI3).mono ?_
      rintro e w4 ⟨rfl, rfl⟩
      go_wp2_with fail
      refine (HHB.out w3 hI3).mono ?_
      rintro e w5 ⟨rfl, hB5⟩
      have hI5 := hI3.below hB5
      clear hB5 hI3
      go_wp2_with fail
      refine (HHT.out w5 hI5).mono ?_
      rintro e w6 ⟨rfl, hB6⟩
      have hI6 := hI5.below hB6
      clear hB6 hI5
      go_wp2_with (go_at_call 22; refine (HTO.out _ hI6).mono ?_; rintro e w' ⟨rfl, rfl⟩)

set_option maxRecDepth 1000000 in
theorem FnLoadLeast_ends (a : Option Addr) (len cap : Nat) (W : World) (hcap : len ≤ cap) (hb : BytesAt W W.heap.size a len) (hmax : len ≤ 9223372036854775807) (hsh : ∀ ad, a = some ad → ad.spot = none ∧ ∃ c e fr, W.heap[ad.block]? = some (.cells c e fr)) :
    Ends 9 #[.slice a len cap] W := by
  obtain ⟨ρ, A, a0, hS, hv, hbA⟩ := sim_bytes (LB := LB) (cap := cap) hb hsh
  exact law_runs (T0 := (.slice a0 len cap :: List.replicate 114 undef).toArray) (T := (.slice a len cap :: List.replicate 114 undef).toArray) (l := LZl) (id := 4) (ops := LZops) (rest := LZrest) (s0 := 3) (d0 := 24) (s1 := 4) (d1 := 25) (d2 := 26) (tr := 2) (Mid := LZmid)
    LB_closed (LL_lead LB_ok) (LZenter _) (by kernel_rfl) (by kernel_rfl) (by kernel_rfl) rfl rfl rfl rfl rfl ⟨rfl, rfl, rfl⟩ ⟨rfl, rfl, rfl⟩ rfl rfl rfl Try.func13 rfl rfl Try.func9 rfl (by kernel_rfl) (by simp) hS (AR_one hv _)
    (fun W' hW => preWp_mono (fun e b w' h => ⟨h.1, h.2.1, h.2.2.imp id fun h => ⟨h.1, by simp [h.2.1], h.2.2⟩⟩) (LZ_pre a0 len cap W' hcap (bytes_like hbA hW) hmax)) LZ_tail
end Go.Proofs.Ytacedadenbinmaa
