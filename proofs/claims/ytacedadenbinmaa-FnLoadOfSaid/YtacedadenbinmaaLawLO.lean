/- FnLoadOf: what it does alone ahead of the call that starts goroutines, and behind it. Conditions: none. -/
import Derived.Test.YtacedadenbinmaaZm
import Derived.Test.YtacedadenbinmaaZt
import Derived.Test.YtacedadenbinmaaZh
import Derived.Test.YtacedadenbinmaaZr
namespace Go.Proofs.Ytacedadenbinmaa
open Go.RowKit Go.Par Go.Conc Go.ConcN

noncomputable def LOs0 : Code := match Try.f6.body.getD .skip with | .seq a _ => a | _ => .skip
noncomputable def LOs1 : Code := match Try.f6.body.getD .skip with | .seq _ (.seq a _) => a | _ => .skip
noncomputable def LOs2 : Code := match Try.f6.body.getD .skip with | .seq _ (.seq _ (.seq a _)) => a | _ => .skip
noncomputable def LOs3 : Code := match Try.f6.body.getD .skip with | .seq _ (.seq _ (.seq _ (.seq a _))) => a | _ => .skip
noncomputable def LOs4 : Code := match Try.f6.body.getD .skip with | .seq _ (.seq _ (.seq _ (.seq _ (.seq a _)))) => a | _ => .skip
noncomputable def LOs5 : Code := match Try.f6.body.getD .skip with | .seq _ (.seq _ (.seq _ (.seq _ (.seq _ (.seq a _))))) => a | _ => .skip
noncomputable def LOops : Array Oper := match Try.f6.body.getD .skip with | .seq _ (.seq _ (.seq _ (.seq _ (.seq _ (.seq _ (.seq (.region _ ops _) _)))))) => ops | _ => #[]
noncomputable def LOrest : Code := match Try.f6.body.getD .skip with | .seq _ (.seq _ (.seq _ (.seq _ (.seq _ (.seq _ (.seq _ r)))))) => r | _ => .skip
noncomputable def LOl : List Code := [LOs0, LOs1, LOs2, LOs3, LOs4, LOs5]
theorem LOsize (T : Array Value) (h0 : T.size = 83) : ∃ v0 v1 v2 v3 v4 v5 v6 v7 v8 v9 v10 v11 v12 v13 v14 v15 v16 v17 v18 v19 v20 v21 v22 v23 v24 v25 v26 v27 v28 v29 v30 v31 v32 v33 v34 v35 v36 v37 v38 v39 v40 v41 v42 v43 v44 v45 v46 v47 v48 v49 v50 v51 v52 v53 v54 v55 v56 v57 v58 v59 v60 v61 v62 v63 v64 v65 v66 v67 v68 v69 v70 v71 v72 v73 v74 v75 v76 v77 v78 v79 v80 v81 v82 : Value, T = #[v0, v1, v2, v3, v4, v5, v6, v7, v8, v9, v10, v11, v12, v13, v14, v15, v16, v17, v18, v19, v20, v21, v22, v23, v24, v25, v26, v27, v28, v29, v30, v31, v32, v33, v34, v35, v36, v37, v38, v39, v40, v41, v42, v43, v44, v45, v46, v47, v48, v49, v50, v51, v52, v53, v54, v55, v56, v57, v58, v59, v60, v61, v62, v63, v64, v65, v66, v67, v68, v69, v70, v71, v72, v73, v74, v75, v76, v77, v78, v79, v80, v81, v82] := by
  obtain ⟨l⟩ := T
  simp only [List.size_toArray] at h0
  obtain ⟨v0, l, rfl, h1⟩ := consOf (n := 82) h0
  obtain ⟨v1, l, rfl, h2⟩ := consOf (n := 81) h1
  obtain ⟨v2, l, rfl, h3⟩ := consOf (n := 80) h2
  obtain ⟨v3, l, rfl, h4⟩ := consOf (n := 79) h3
  obtain ⟨v4, l, rfl, h5⟩ := consOf (n := 78) h4
  obtain ⟨v5, l, rfl, h6⟩ := consOf (n := 77) h5
  obtain ⟨v6, l, rfl, h7⟩ := consOf (n := 76) h6
  obtain ⟨v7, l, rfl, h8⟩ := consOf (n := 75) h7
  obtain ⟨v8, l, rfl, h9⟩ := consOf (n := 74) h8
  obtain ⟨v9, l, rfl, h10⟩ := consOf (n := 73) h9
  obtain ⟨v10, l, rfl, h11⟩ := consOf (n := 72) h10
  obtain ⟨v11, l, rfl, h12⟩ := consOf (n := 71) h11
  obtain ⟨v12, l, rfl, h13⟩ := consOf (n := 70) h12
  obtain ⟨v13, l, rfl, h14⟩ := consOf (n := 69) h13
  obtain ⟨v14, l, rfl, h15⟩ := consOf (n := 68) h14
  obtain ⟨v15, l, rfl, h16⟩ := consOf (n := 67) h15
  obtain ⟨v16, l, rfl, h17⟩ := consOf (n := 66) h16
  obtain ⟨v17, l, rfl, h18⟩ := consOf (n := 65) h17
  obtain ⟨v18, l, rfl, h19⟩ := consOf (n := 64) h18
  obtain ⟨v19, l, rfl, h20⟩ := consOf (n := 63) h19
  obtain ⟨v20, l, rfl, h21⟩ := consOf (n := 62) h20
  obtain ⟨v21, l, rfl, h22⟩ := consOf (n := 61) h21
  obtain ⟨v22, l, rfl, h23⟩ := consOf (n := 60) h22
  obtain ⟨v23, l, rfl, h24⟩ := consOf (n := 59) h23
  obtain ⟨v24, l, rfl, h25⟩ := consOf (n := 58) h24
  obtain ⟨v25, l, rfl, h26⟩ := consOf (n := 57) h25
  obtain ⟨v26, l, rfl, h27⟩ := consOf (n := 56) h26
  obtain ⟨v27, l, rfl, h28⟩ := consOf (n := 55) h27
  obtain ⟨v28, l, rfl, h29⟩ := consOf (n := 54) h28
  obtain ⟨v29, l, rfl, h30⟩ := consOf (n := 53) h29
  obtain ⟨v30, l, rfl, h31⟩ := consOf (n := 52) h30
  obtain ⟨v31, l, rfl, h32⟩ := consOf (n := 51) h31
  obtain ⟨v32, l, rfl, h33⟩ := consOf (n := 50) h32
  obtain ⟨v33, l, rfl, h34⟩ := consOf (n := 49) h33
  obtain ⟨v34, l, rfl, h35⟩ := consOf (n := 48) h34
  obtain ⟨v35, l, rfl, h36⟩ := consOf (n := 47) h35
  obtain ⟨v36, l, rfl, h37⟩ := consOf (n := 46) h36
  obtain ⟨v37, l, rfl, h38⟩ := consOf (n := 45) h37
  obtain ⟨v38, l, rfl, h39⟩ := consOf (n := 44) h38
  obtain ⟨v39, l, rfl, h40⟩ := consOf (n := 43) h39
  obtain ⟨v40, l, rfl, h41⟩ := consOf (n := 42) h40
  obtain ⟨v41, l, rfl, h42⟩ := consOf (n := 41) h41
  obtain ⟨v42, l, rfl, h43⟩ := consOf (n := 40) h42
  obtain ⟨v43, l, rfl, h44⟩ := consOf (n := 39) h43
  obtain ⟨v44, l, rfl, h45⟩ := consOf (n := 38) h44
  obtain ⟨v45, l, rfl, h46⟩ := consOf (n := 37) h45
  obtain ⟨v46, l, rfl, h47⟩ := consOf (n := 36) h46
  obtain ⟨v47, l, rfl, h48⟩ := consOf (n := 35) h47
  obtain ⟨v48, l, rfl, h49⟩ := consOf (n := 34) h48
  obtain ⟨v49, l, rfl, h50⟩ := consOf (n := 33) h49
  obtain ⟨v50, l, rfl, h51⟩ := consOf (n := 32) h50
  obtain ⟨v51, l, rfl, h52⟩ := consOf (n := 31) h51
  obtain ⟨v52, l, rfl, h53⟩ := consOf (n := 30) h52
  obtain ⟨v53, l, rfl, h54⟩ := consOf (n := 29) h53
  obtain ⟨v54, l, rfl, h55⟩ := consOf (n := 28) h54
  obtain ⟨v55, l, rfl, h56⟩ := consOf (n := 27) h55
  obtain ⟨v56, l, rfl, h57⟩ := consOf (n := 26) h56
  obtain ⟨v57, l, rfl, h58⟩ := consOf (n := 25) h57
  obtain ⟨v58, l, rfl, h59⟩ := consOf (n := 24) h58
  obtain ⟨v59, l, rfl, h60⟩ := consOf (n := 23) h59
  obtain ⟨v60, l, rfl, h61⟩ := consOf (n := 22) h60
  obtain ⟨v61, l, rfl, h62⟩ := consOf (n := 21) h61
  obtain ⟨v62, l, rfl, h63⟩ := consOf (n := 20) h62
  obtain ⟨v63, l, rfl, h64⟩ := consOf (n := 19) h63
  obtain ⟨v64, l, rfl, h65⟩ := consOf (n := 18) h64
  obtain ⟨v65, l, rfl, h66⟩ := consOf (n := 17) h65
  obtain ⟨v66, l, rfl, h67⟩ := consOf (n := 16) h66
  obtain ⟨v67, l, rfl, h68⟩ := consOf (n := 15) h67
  obtain ⟨v68, l, rfl, h69⟩ := consOf (n := 14) h68
  obtain ⟨v69, l, rfl, h70⟩ := consOf (n := 13) h69
  obtain ⟨v70, l, rfl, h71⟩ := consOf (n := 12) h70
  obtain ⟨v71, l, rfl, h72⟩ := consOf (n := 11) h71
  obtain ⟨v72, l, rfl, h73⟩ := consOf (n := 10) h72
  obtain ⟨v73, l, rfl, h74⟩ := consOf (n := 9) h73
  obtain ⟨v74, l, rfl, h75⟩ := consOf (n := 8) h74
  obtain ⟨v75, l, rfl, h76⟩ := consOf (n := 7) h75
  obtain ⟨v76, l, rfl, h77⟩ := consOf (n := 6) h76
  obtain ⟨v77, l, rfl, h78⟩ := consOf (n := 5) h77
  obtain ⟨v78, l, rfl, h79⟩ := consOf (n := 4) h78
  obtain ⟨v79, l, rfl, h80⟩ := consOf (n := 3) h79
  obtain ⟨v80, l, rfl, h81⟩ := consOf (n := 2) h80
  obtain ⟨v81, l, rfl, h82⟩ := consOf (n := 1) h81
  obtain ⟨v82, l, rfl, h83⟩ := consOf (n := 0) h82
  obtain rfl := List.eq_nil_of_length_eq_zero h83
  exact ⟨v0, v1, v2, v3, v4, v5, v6, v7, v8, v9, v10, v11, v12, v13, v14, v15, v16, v17, v18, v19, v20, v21, v22, v23, v24, v25, v26, v27, v28, v29, v30, v31, v32, v33, v34, v35, v36, v37, v38, v39, v40, v41, v42, v43, v44, v45, v46, v47, v48, v49, v50, v51, v52, v53, v54, v55, v56, v57, v58, v59, v60, v61, v62, v63, v64, v65, v66, v67, v68, v69, v70, v71, v72, v73, v74, v75, v76, v77, v78, v79, v80, v81, v82, rfl⟩
set_option maxRecDepth 100000 in
theorem LOenter (x0 : Value) : Frame.enter Try.prog 6 #[x0] .normal = ⟨6, (x0 :: List.replicate 82 undef).toArray, [.code (seqs (.seq (.region 8 LOops false) LOrest) LOl)], [], .run, .normal, none⟩ := by
  rw [enter_at (c := seqs (.seq (.region 8 LOops false) LOrest) LOl) _ Try.func6 rfl]
  simp only [Try.ntmps6]
  have e : #[x0] ++ Array.replicate (83 - #[x0].size) undef = (x0 :: List.replicate 82 undef).toArray := by
    apply Array.ext'
    simp
  rw [e]
  rfl

/-- at the call -/
def LOmid (T : Array Value) (w : World) : Prop :=
  ∃ ad cap zs m ps ao co, T[3]? = some (.slice ad zs.length cap) ∧ T[4]? = some (.int .i64 m) ∧ T[6]? = some (.slice ao (ofL zs m ps).length co) ∧ IntsAt w ad zs ∧ IntsAt w ao (ofL zs m ps) ∧ ofB zs m ps = true ∧ zs.length ≤ 8 ∧ T.size = 83
theorem ofL_short {zs ps : List Int} {m : Int} : (ofL zs m ps).length ≤ 1000 := by
  unfold ofL
  split
  · rename_i h
    simp only [ofB, Bool.and_eq_true] at h
    obtain ⟨_, _, h5⟩ := (toldL_iff zs m).1 h.1
    rw [putS_length, List.length_replicate]
    omega
  · simp

set_option maxRecDepth 100000 in
set_option maxHeartbeats 4000000 in
theorem LO_pre (a : Option Addr) (len cap : Nat) (w : World) (hcap : len ≤ cap) (hb : BytesAt w w.heap.size a len) (hmax : len ≤ 9223372036854775807) :
    preWp Try.prog LOl (fun e b w' => (e = .normal ∨ e = .ret) ∧ b.defers = [] ∧ ((e = .ret ∧ b.tmps[2]? = some (.bool true)) ∨ (e = .normal ∧ b.tmps.size = 83 ∧ LOmid b.tmps w'))) ⟨(.slice a len cap :: List.replicate 82 undef).toArray, []⟩ w := by
  show preWp Try.prog LOl _ ⟨#[.slice a len cap, undef, undef, undef, undef, undef, undef, undef, undef, undef, undef, undef, undef, undef, undef, undef, undef, undef, undef, undef, undef, undef, undef, undef, undef, undef, undef, undef, undef, undef, undef, undef, undef, undef, undef, undef, undef, undef, undef, undef, undef, undef, undef, undef, undef, undef, undef, undef, undef, undef, undef, undef, undef, undef, undef, undef, undef, undef, undef, undef, undef, undef, undef, undef, undef, undef, undef, undef, undef, undef, undef, undef, undef, undef, undef, undef, undef, undef, undef, undef, undef, undef, undef], []⟩ w
  unfold LOl
  refine pre_cons ?_
  simp only [LOs0, Try.f6, Option.getD_some]
  go_wp2
  refine pre_cons ?_
  simp only [LOs1, Try.f6, Option.getD_some]
  by_cases hl : len ≤ 1048576
  case neg =>
    go_wp2
    exact ⟨.inr trivial, trivial, .inl ⟨trivial, rfl⟩⟩
  go_wp2
  refine pre_cons ?_
  simp only [LOs2, Try.f6, Option.getD_some]
  go_wp2_with fail
  refine (DrawLoadOf_any a len cap w hl hcap hb).mono ?_
  rintro e w1 ⟨ad, cp, zs, m, pd, pc, ps, rfl, hz, hd, hI, hpl, hJ, hm0, hm6, hB⟩
  clear hB hb hd
  go_wp2_with fail
  refine pre_cons ?_
  simp only [LOs3, Try.f6, Option.getD_some]
  go_wp2_with fail
  refine (LoadOf_any ad pd cp pc zs ps m w1 (by omega) (by omega) hI hJ).mono ?_
  rintro e w2 ⟨v2, rfl, hO2, hB2⟩
  obtain ⟨a2, c2, rfl, hL2, _⟩ := hO2.shape
  have hI2 := hI.below hB2
  have hJ2 := hJ.below hB2
  clear hI hJ hB2 hO2
  go_wp2_with fail
  refine pre_cons ?_
  simp only [LOs4, Try.f6, Option.getD_some]
  go_wp2_with fail
  refine (sLoadOf_any ad pd cp pc zs ps m w2 (by omega) (by omega) hI2 hJ2).mono ?_
  rintro e w3 ⟨v3, rfl, hO3, hB3⟩
  obtain ⟨a3, c3, rfl, hL3, _⟩ := hO3.shape
  have hI3 := hI2.below hB3
  have hM3 := hL2.below hB3
  have hs := ofL_short (zs := zs) (m := m) (ps := ps)
  have HMid : Hid (ofB zs m ps = true → ∀ T : Array Value, T.size = 83 → T[3]? = some (.slice ad zs.length cp) → T[4]? = some (.int .i64 m) → T[6]? = some (.slice a2 (ofL zs m ps).length c2) → ∀ n, LOmid T (w3.drewN n)) := fun h T h0 h1 h2 h3 n => ⟨ad, cp, zs, m, ps, a2, c2, h1, h2, h3, hI3, hM3, h, hz, h0⟩
  have HE : Hid (∀ W, Calls Try.prog 21 #[.slice a2 (ofL zs m ps).length c2, .slice a3 (ofL zs m ps).length c3] (w3.drewN W) fun e w' => e = .returned (.bool true) ∧ ∃ n, w' = w3.drewN n) := fun n => by
    refine (sameInts_any a2 a3 c2 c3 _ _ (w3.drewN n) (by omega) hM3 hL3).mono ?_
    rintro e w' ⟨rfl, k, rfl⟩
    exact ⟨by simp, n + k, by simp⟩
  obtain ⟨q, hq⟩ : ∃ q, ofB zs m ps = q := ⟨_, rfl⟩
  rw [hq] at HMid ⊢
  clear hq hI2 hJ2 hI3 hM3 hL2 hL3 hB3 hO3 hs
  generalize ofL zs m ps = L at *
  go_wp2_with fail
  refine pre_cons ?_
  simp only [LOs5, Try.f6, Option.getD_some]
  cases q with
  | false =>
    go_wp2_with (first | (go_at_call 21; refine (HE.out 0).mono ?_; rintro e w' ⟨rfl, k, rfl⟩) | (go_at_call 21; refine (HE.out _).mono ?_; rintro e w' ⟨rfl, k2, rfl⟩))
    exact ⟨.inr trivial, trivial, .inl ⟨trivial, rfl⟩⟩
  | true =>
    go_wp2_with (go_at_call 21; refine (HE.out 0).mono ?_; rintro e w' ⟨rfl, k, rfl⟩)
    exact ⟨.inl rfl, rfl, .inr ⟨rfl, rfl, HMid.out trivial _ rfl rfl rfl rfl k⟩⟩

theorem LO_bd {zs ps : List Int} {m : Int} (h : ofB zs m ps = true) (h8 : zs.length ≤ 8) : ∃ n, llV zs m = (n, true) ∧ good zs ∧ ((ofL zs m ps).length : Int) = m ∧ tot (ofL zs m ps) = tot zs ∧ n ≤ gre (ofL zs m ps) ∧ (∀ y ∈ ofL zs m ps, 0 ≤ y ∧ y ≤ 1000000) ∧ 0 ≤ tot zs ∧ tot zs ≤ 600 := by
  rw [ofL, if_pos h]
  simp only [ofB, Bool.and_eq_true, decide_eq_true_eq] at h
  obtain ⟨ht, hlen, hr⟩ := h
  obtain ⟨⟨h10, hg⟩, hm1, hm5⟩ := (toldL_iff zs m).1 ht
  obtain ⟨M, rfl⟩ := Int.eq_ofNat_of_zero_le (show 0 ≤ m by omega)
  rw [Int.toNat_natCast]
  have hr' := (inRb_iff M ps).1 hr
  obtain ⟨e1, e2, e3⟩ := of_law hg h10 (m := M) (by omega) hlen.symm hr'
  have e4 := putS_in zs ps (List.replicate M 0) 0 hg hlen.symm (by rw [List.length_replicate]; exact hr') (fun y hy => by have := List.eq_of_mem_replicate hy; omega)
  have e5 := tot_bd hg
  exact ⟨opt zs M, by rw [llV, if_pos ⟨ht, h8⟩]; simp [tlV, tal, opt], hg, by omega, e2, e3, fun y hy => by have := e4 y hy; omega, by omega, by omega⟩

set_option maxRecDepth 100000 in
set_option maxHeartbeats 4000000 in
theorem LO_tail (T : Array Value) (w : World) (h : LOmid T w) :
    ∃ a0 cap zs m, T[3]? = some (.slice a0 zs.length cap) ∧ T[4]? = some (.int .i64 m) ∧ IntsAt w a0 zs ∧ zs.length ≤ 2000000 ∧
      ∀ W', Like w W' → wpList Try.prog LOops (Exit.then (LOrest.wp Try.prog fun e b _ => e = .ret ∧ b.defers = [] ∧ b.tmps[2]? = some (.bool true)) fun e b _ => e = .ret ∧ b.defers = [] ∧ b.tmps[2]? = some (.bool true)) (LOops.toList.drop 3)
        ⟨((T.setIfInBounds 57 (.slice a0 zs.length cap)).setIfInBounds 58 (.int .i64 m)).setIfInBounds 59 (twoV (llV zs m)), []⟩ W' := by
  obtain ⟨ad, cap, zs, m, ps, ao, co, h3, h4, h6, hI, hJ, ht, hz, hT⟩ := h
  refine ⟨ad, cap, zs, m, h3, h4, hI, by omega, fun W' hW => ?_⟩
  have hI' := ints_same hI hW.1 hW.2
  have hJ' := ints_same hJ hW.1 hW.2
  obtain ⟨v0, v1, v2, v3, v4, v5, v6, v7, v8, v9, v10, v11, v12, v13, v14, v15, v16, v17, v18, v19, v20, v21, v22, v23, v24, v25, v26, v27, v28, v29, v30, v31, v32, v33, v34, v35, v36, v37, v38, v39, v40, v41, v42, v43, v44, v45, v46, v47, v48, v49, v50, v51, v52, v53, v54, v55, v56, v57, v58, v59, v60, v61, v62, v63, v64, v65, v66, v67, v68, v69, v70, v71, v72, v73, v74, v75, v76, v77, v78, v79, v80, v81, v82, rfl⟩ := LOsize T hT
  simp only [List.getElem?_toArray, List.getElem?_cons_succ, List.getElem?_cons_zero, Option.some.injEq] at h3 h4 h6
  subst h3 h4 h6
  obtain ⟨n, hr, hg, e1, e2, e3, e4, e5, e6⟩ := LO_bd ht hz
  rw [hr]
  have HT1 : Hid (∀ W, Like W' W → Calls Try.prog 22 #[.slice ao (ofL zs m ps).length co] W fun e w' => e = .returned (.int .i64 (tot zs)) ∧ W = w') := fun W h => by
    rw [← e2]
    exact total_any ao co _ W (by have := ofL_short (zs := zs) (m := m) (ps := ps); omega) e4 (ints_same hJ' h.1 h.2)
  have HT2 : Hid (∀ W, Like W' W → Calls Try.prog 22 #[.slice ad zs.length cap] W fun e w' => e = .returned (.int .i64 (tot zs)) ∧ W = w') := fun W h => total_any ad cap zs W (by omega) (fun x hx => by have := hg x hx; omega) (ints_same hI' h.1 h.2)
  have HGr : Hid (∀ W, Like W' W → Calls Try.prog 23 #[.slice ao (ofL zs m ps).length co] W fun e w' => e = .returned (.int .i64 (gre (ofL zs m ps))) ∧ W = w') := fun W h => greatest_any ao co _ W (by have := ofL_short (zs := zs) (m := m) (ps := ps); omega) (ints_same hJ' h.1 h.2)
  have HL0 : Hid (Like W' W') := by show Like W' W'; exact ⟨rfl, fun _ => rfl⟩
  simp only [twoV, LOops, LOrest, Try.f6, Option.getD_some, List.setIfInBounds_toArray, List.set_cons_succ, List.set_cons_zero, List.drop_succ_cons, List.drop_zero]
  generalize gre (ofL zs m ps) = G at *
  generalize tot zs = T0 at *
  have e7 : (((ofL zs m ps).length : Int) == m) = true := by rw [beq_iff_eq]; exact e1
  generalize (ofL zs m ps).length = l at *
  clear hr hI hJ hI' hJ' hW hT hg e1 e2 e4 ht
  go_wp2_with fail
  refine (HT1.out _ HL0.out).mono ?_
  rintro e w' ⟨rfl, rfl⟩
  go_wp2_with fail
  refine (HT2.out _ HL0.out).mono ?_
  rintro e w' ⟨rfl, rfl⟩
  go_wp2_with fail
  refine (HGr.out _ HL0.out).mono ?_
  rintro e w' ⟨rfl, rfl⟩
  go_wp2_with fail

set_option maxRecDepth 1000000 in
theorem FnLoadOf_ends (a : Option Addr) (len cap : Nat) (W : World) (hcap : len ≤ cap) (hb : BytesAt W W.heap.size a len) (hmax : len ≤ 9223372036854775807) (hsh : ∀ ad, a = some ad → ad.spot = none ∧ ∃ c e fr, W.heap[ad.block]? = some (.cells c e fr)) :
    Ends 6 #[.slice a len cap] W := by
  obtain ⟨ρ, A, a0, hS, hv, hbA⟩ := sim_bytes (LB := LB) (cap := cap) hb hsh
  exact law_runs (T0 := (.slice a0 len cap :: List.replicate 82 undef).toArray) (T := (.slice a len cap :: List.replicate 82 undef).toArray) (l := LOl) (id := 8) (ops := LOops) (rest := LOrest) (s0 := 3) (d0 := 57) (s1 := 4) (d1 := 58) (d2 := 59) (tr := 2) (Mid := LOmid)
    LB_closed (LL_lead LB_ok) (LOenter _) (by kernel_rfl) (by kernel_rfl) (by kernel_rfl) rfl rfl rfl rfl rfl ⟨rfl, rfl, rfl⟩ ⟨rfl, rfl, rfl⟩ rfl rfl rfl Try.func13 rfl rfl Try.func6 rfl (by kernel_rfl) (by simp) hS (AR_one hv _)
    (fun W' hW => preWp_mono (fun e b w' h => ⟨h.1, h.2.1, h.2.2.imp id fun h => ⟨h.1, by simp [h.2.1], h.2.2⟩⟩) (LO_pre a0 len cap W' hcap (bytes_like hbA hW) hmax)) LO_tail
end Go.Proofs.Ytacedadenbinmaa
