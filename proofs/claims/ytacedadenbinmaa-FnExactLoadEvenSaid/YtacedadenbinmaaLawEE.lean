/- FnExactLoadEven: what it does alone ahead of the call that starts goroutines, and behind it. Conditions: none. -/
import Derived.Test.YtacedadenbinmaaZm
import Derived.Test.YtacedadenbinmaaZq
import Derived.Test.YtacedadenbinmaaZh
namespace Go.Proofs.Ytacedadenbinmaa
open Go.RowKit Go.Par Go.Conc Go.ConcN

noncomputable def EEs0 : Code := match Try.f4.body.getD .skip with | .seq a _ => a | _ => .skip
noncomputable def EEs1 : Code := match Try.f4.body.getD .skip with | .seq _ (.seq a _) => a | _ => .skip
noncomputable def EEs2 : Code := match Try.f4.body.getD .skip with | .seq _ (.seq _ (.seq a _)) => a | _ => .skip
noncomputable def EEs3 : Code := match Try.f4.body.getD .skip with | .seq _ (.seq _ (.seq _ (.seq a _))) => a | _ => .skip
noncomputable def EEops : Array Oper := match Try.f4.body.getD .skip with | .seq _ (.seq _ (.seq _ (.seq _ (.seq (.region _ ops _) _)))) => ops | _ => #[]
noncomputable def EErest : Code := match Try.f4.body.getD .skip with | .seq _ (.seq _ (.seq _ (.seq _ (.seq _ r)))) => r | _ => .skip
noncomputable def EEl : List Code := [EEs0, EEs1, EEs2, EEs3]
theorem EEsize (T : Array Value) (h0 : T.size = 41) : ∃ v0 v1 v2 v3 v4 v5 v6 v7 v8 v9 v10 v11 v12 v13 v14 v15 v16 v17 v18 v19 v20 v21 v22 v23 v24 v25 v26 v27 v28 v29 v30 v31 v32 v33 v34 v35 v36 v37 v38 v39 v40 : Value, T = #[v0, v1, v2, v3, v4, v5, v6, v7, v8, v9, v10, v11, v12, v13, v14, v15, v16, v17, v18, v19, v20, v21, v22, v23, v24, v25, v26, v27, v28, v29, v30, v31, v32, v33, v34, v35, v36, v37, v38, v39, v40] := by
  obtain ⟨l⟩ := T
  simp only [List.size_toArray] at h0
  obtain ⟨v0, l, rfl, h1⟩ := consOf (n := 40) h0
  obtain ⟨v1, l, rfl, h2⟩ := consOf (n := 39) h1
  obtain ⟨v2, l, rfl, h3⟩ := consOf (n := 38) h2
  obtain ⟨v3, l, rfl, h4⟩ := consOf (n := 37) h3
  obtain ⟨v4, l, rfl, h5⟩ := consOf (n := 36) h4
  obtain ⟨v5, l, rfl, h6⟩ := consOf (n := 35) h5
  obtain ⟨v6, l, rfl, h7⟩ := consOf (n := 34) h6
  obtain ⟨v7, l, rfl, h8⟩ := consOf (n := 33) h7
  obtain ⟨v8, l, rfl, h9⟩ := consOf (n := 32) h8
  obtain ⟨v9, l, rfl, h10⟩ := consOf (n := 31) h9
  obtain ⟨v10, l, rfl, h11⟩ := consOf (n := 30) h10
  obtain ⟨v11, l, rfl, h12⟩ := consOf (n := 29) h11
  obtain ⟨v12, l, rfl, h13⟩ := consOf (n := 28) h12
  obtain ⟨v13, l, rfl, h14⟩ := consOf (n := 27) h13
  obtain ⟨v14, l, rfl, h15⟩ := consOf (n := 26) h14
  obtain ⟨v15, l, rfl, h16⟩ := consOf (n := 25) h15
  obtain ⟨v16, l, rfl, h17⟩ := consOf (n := 24) h16
  obtain ⟨v17, l, rfl, h18⟩ := consOf (n := 23) h17
  obtain ⟨v18, l, rfl, h19⟩ := consOf (n := 22) h18
  obtain ⟨v19, l, rfl, h20⟩ := consOf (n := 21) h19
  obtain ⟨v20, l, rfl, h21⟩ := consOf (n := 20) h20
  obtain ⟨v21, l, rfl, h22⟩ := consOf (n := 19) h21
  obtain ⟨v22, l, rfl, h23⟩ := consOf (n := 18) h22
  obtain ⟨v23, l, rfl, h24⟩ := consOf (n := 17) h23
  obtain ⟨v24, l, rfl, h25⟩ := consOf (n := 16) h24
  obtain ⟨v25, l, rfl, h26⟩ := consOf (n := 15) h25
  obtain ⟨v26, l, rfl, h27⟩ := consOf (n := 14) h26
  obtain ⟨v27, l, rfl, h28⟩ := consOf (n := 13) h27
  obtain ⟨v28, l, rfl, h29⟩ := consOf (n := 12) h28
  obtain ⟨v29, l, rfl, h30⟩ := consOf (n := 11) h29
  obtain ⟨v30, l, rfl, h31⟩ := consOf (n := 10) h30
  obtain ⟨v31, l, rfl, h32⟩ := consOf (n := 9) h31
  obtain ⟨v32, l, rfl, h33⟩ := consOf (n := 8) h32
  obtain ⟨v33, l, rfl, h34⟩ := consOf (n := 7) h33
  obtain ⟨v34, l, rfl, h35⟩ := consOf (n := 6) h34
  obtain ⟨v35, l, rfl, h36⟩ := consOf (n := 5) h35
  obtain ⟨v36, l, rfl, h37⟩ := consOf (n := 4) h36
  obtain ⟨v37, l, rfl, h38⟩ := consOf (n := 3) h37
  obtain ⟨v38, l, rfl, h39⟩ := consOf (n := 2) h38
  obtain ⟨v39, l, rfl, h40⟩ := consOf (n := 1) h39
  obtain ⟨v40, l, rfl, h41⟩ := consOf (n := 0) h40
  obtain rfl := List.eq_nil_of_length_eq_zero h41
  exact ⟨v0, v1, v2, v3, v4, v5, v6, v7, v8, v9, v10, v11, v12, v13, v14, v15, v16, v17, v18, v19, v20, v21, v22, v23, v24, v25, v26, v27, v28, v29, v30, v31, v32, v33, v34, v35, v36, v37, v38, v39, v40, rfl⟩
set_option maxRecDepth 100000 in
theorem EEenter (x0 x1 : Value) : Frame.enter Try.prog 4 #[x0, x1] .normal = ⟨4, (x0 :: x1 :: List.replicate 39 undef).toArray, [.code (seqs (.seq (.region 5 EEops false) EErest) EEl)], [], .run, .normal, none⟩ := by
  rw [enter_at (c := seqs (.seq (.region 5 EEops false) EErest) EEl) _ Try.func4 rfl]
  simp only [Try.ntmps4]
  have e : #[x0, x1] ++ Array.replicate (41 - #[x0, x1].size) undef = (x0 :: x1 :: List.replicate 39 undef).toArray := by
    apply Array.ext'
    simp
  rw [e]
  rfl

/-- at the call -/
def EEmid (T : Array Value) (w : World) : Prop :=
  ∃ ad cp a cap zs m, T[0]? = some (.slice a zs.length cap) ∧ T[1]? = some (.int .i64 m) ∧ T[5]? = some (.int .i64 (leV zs m).1) ∧ T[6]? = some (.bool (leV zs m).2) ∧ T[7]? = some (.slice ad zs.length cp) ∧ IntsAt w ad zs ∧ IntsAt w a zs ∧ zs.length ≤ 1048576 ∧ T.size = 41

set_option maxRecDepth 100000 in
set_option maxHeartbeats 4000000 in
theorem EE_pre (a : Option Addr) (cap : Nat) (ys : List Int) (q : Int) (w : World) (hI : IntsAt w a ys) (hmax : ys.length ≤ 9223372036854775807) :
    preWp Try.prog EEl (fun e b w' => (e = .normal ∨ e = .ret) ∧ b.defers = [] ∧ ((e = .ret ∧ b.tmps[4]? = some (.bool true)) ∨ (e = .normal ∧ b.tmps.size = 41 ∧ EEmid b.tmps w'))) ⟨(.slice a ys.length cap :: .int .i64 q :: List.replicate 39 undef).toArray, []⟩ w := by
  show preWp Try.prog EEl _ ⟨#[.slice a ys.length cap, .int .i64 q, undef, undef, undef, undef, undef, undef, undef, undef, undef, undef, undef, undef, undef, undef, undef, undef, undef, undef, undef, undef, undef, undef, undef, undef, undef, undef, undef, undef, undef, undef, undef, undef, undef, undef, undef, undef, undef, undef, undef], []⟩ w
  unfold EEl
  refine pre_cons ?_
  simp only [EEs0, Try.f4, Option.getD_some]
  go_wp2
  refine pre_cons ?_
  simp only [EEs1, Try.f4, Option.getD_some]
  by_cases hl : ys.length ≤ 1048576
  case neg =>
    go_wp2
    exact ⟨.inr trivial, trivial, .inl ⟨trivial, rfl⟩⟩
  go_wp2
  refine pre_cons ?_
  simp only [EEs2, Try.f4, Option.getD_some]
  go_wp2_with fail
  refine (toIntS_any a cap ys w (by omega) hI).mono ?_
  rintro e w1 ⟨v1, rfl, hO1, hB1⟩
  obtain ⟨a1, c1, rfl, hI1, hc1⟩ := hO1.shape
  have hJ1 := hI.below hB1
  clear hO1 hB1 hI
  go_wp2_with fail
  refine (sLoadEven_any a1 c1 ys q w1 (by omega) hc1 hI1).mono ?_
  rintro e w2 ⟨rfl, hB2⟩
  have hJ2 := hJ1.below hB2
  obtain ⟨r, hr⟩ : ∃ r, leV ys q = r := ⟨_, rfl⟩
  have HR := Lib.hid hr
  obtain ⟨n, p⟩ := r
  rw [hr, twoV]
  clear hr hJ1 hI1 hB2
  go_wp2_with fail
  refine pre_cons ?_
  simp only [EEs3, Try.f4, Option.getD_some]
  go_wp2_with fail
  refine (toIntS_any a cap ys w2 (by omega) hJ2).mono ?_
  rintro e w3 ⟨v3, rfl, hO3, hB3⟩
  obtain ⟨a3, c3, rfl, hI3, _⟩ := hO3.shape
  have hJ3 := hJ2.below hB3
  clear hO3 hB3 hJ2
  go_wp2_with fail
  exact ⟨.inl rfl, rfl, .inr ⟨rfl, rfl, a3, c3, a, cap, ys, q, rfl, rfl, by rw [HR.out]; rfl, by rw [HR.out]; rfl, rfl, hI3, hJ3, by omega, rfl⟩⟩

set_option maxRecDepth 100000 in
set_option maxHeartbeats 4000000 in
theorem EE_tail (T : Array Value) (w : World) (h : EEmid T w) :
    ∃ a0 cap zs m, T[7]? = some (.slice a0 zs.length cap) ∧ T[1]? = some (.int .i64 m) ∧ IntsAt w a0 zs ∧ zs.length ≤ 2000000 ∧
      ∀ W', Like w W' → wpList Try.prog EEops (Exit.then (EErest.wp Try.prog fun e b _ => e = .ret ∧ b.defers = [] ∧ b.tmps[4]? = some (.bool true)) fun e b _ => e = .ret ∧ b.defers = [] ∧ b.tmps[4]? = some (.bool true)) (EEops.toList.drop 3)
        ⟨((T.setIfInBounds 23 (.slice a0 zs.length cap)).setIfInBounds 24 (.int .i64 m)).setIfInBounds 25 (twoV (leV zs m)), []⟩ W' := by
  obtain ⟨ad, cp, a, cap, zs, m, h0, h1, h5, h6, h7, hI, hJ, hl, hT⟩ := h
  refine ⟨ad, cp, zs, m, h7, h1, hI, by omega, fun W' hW => ?_⟩
  have hI' := ints_same hI hW.1 hW.2
  have hJ' := ints_same hJ hW.1 hW.2
  obtain ⟨v0, v1, v2, v3, v4, v5, v6, v7, v8, v9, v10, v11, v12, v13, v14, v15, v16, v17, v18, v19, v20, v21, v22, v23, v24, v25, v26, v27, v28, v29, v30, v31, v32, v33, v34, v35, v36, v37, v38, v39, v40, rfl⟩ := EEsize T hT
  simp only [List.getElem?_toArray, List.getElem?_cons_succ, List.getElem?_cons_zero, Option.some.injEq] at h0 h1 h5 h6 h7
  subst h0 h1 h5 h6 h7
  obtain ⟨r, hr⟩ : ∃ r, leV zs m = r := ⟨_, rfl⟩
  obtain ⟨n, p⟩ := r
  rw [hr]
  simp only [twoV, EEops, EErest, Try.f4, Option.getD_some, List.setIfInBounds_toArray, List.set_cons_succ, List.set_cons_zero, List.drop_succ_cons, List.drop_zero]
  clear hr hI hJ hW hT
  cases p
  all_goals
    go_wp2_with fail
    refine (toIntS_any a cap zs W' (by omega) hJ').mono ?_
    rintro e w3 ⟨v3, rfl, hO3, hB3⟩
    obtain ⟨a3, c3, rfl, hI3, _⟩ := hO3.shape
    have hI4 := hI'.below hB3
    clear hO3 hB3
    go_wp2_with fail
    refine (eqIntS_any ad a3 cp c3 zs zs w3 (by omega) hI4 hI3).mono ?_
    rintro e w5 ⟨rfl, n5, rfl⟩
    simp only [decide_true]
    go_wp2_with fail

set_option maxRecDepth 1000000 in
theorem FnExactLoadEven_ends (a : Option Addr) (len cap : Nat) (q : Int) (W : World) (hx : ∃ ys : List Int, ys.length = len ∧ IntsAt W a ys) (hmax : len ≤ 9223372036854775807) (hsh : ∀ ad, a = some ad → ad.spot = none ∧ ∃ c e fr, W.heap[ad.block]? = some (.cells c e fr)) (_hq : -9223372036854775808 ≤ q ∧ q ≤ 9223372036854775807) :
    Ends 4 #[.slice a len cap, .int .i64 q] W := by
  obtain ⟨ys, rfl, hI⟩ := hx
  obtain ⟨ρ, A, a0, hS, hv, hIA⟩ := sim_ints (LB := LB) (len := ys.length) (cap := cap) hI hsh
  exact law_runs (T0 := (.slice a0 ys.length cap :: .int .i64 q :: List.replicate 39 undef).toArray) (T := (.slice a ys.length cap :: .int .i64 q :: List.replicate 39 undef).toArray) (l := EEl) (id := 5) (ops := EEops) (rest := EErest) (s0 := 7) (d0 := 23) (s1 := 1) (d1 := 24) (d2 := 25) (tr := 4) (Mid := EEmid)
    LB_closed (LE_lead LB_ok) (EEenter _ _) (by kernel_rfl) (by kernel_rfl) (by kernel_rfl) rfl rfl rfl rfl rfl ⟨rfl, rfl, rfl⟩ ⟨rfl, rfl, rfl⟩ rfl rfl rfl Try.func16 rfl rfl Try.func4 rfl (by kernel_rfl) (by simp) hS (AR_two hv (.int _ _) _)
    (fun W' hW => preWp_mono (fun e b w' h => ⟨h.1, h.2.1, h.2.2.imp id fun h => ⟨h.1, by simp [h.2.1], h.2.2⟩⟩) (EE_pre a0 cap ys q W' (ints_same hIA hW.1 hW.2) hmax)) EE_tail
end Go.Proofs.Ytacedadenbinmaa
