/- Proved: the law FnExecuteBins returns true for every input and leaves its arguments as they were; the variables that its row lists are tied to the program's text. Conditions: none. (The frame is the kit's skeleton, turned after its worked examples of tied cards; the walk is FnExecuteBins_law.) -/
import Derived.Test.YtdpapalfafjncaaGreatDoorRows
import Derived.Test.YtdpapalfafjncaaGreatDoorCards
import Derived.Test.YtdpapalfafjncaaGreatDoorTie
import Derived.WalkKit
import Derived.ProofKit
import Derived.OpenShut
import Derived.ShutString
import Derived.ChangeOld
import Derived.ChangeSame
import Derived.ChangeVars
import Derived.JoinedOf
import Derived.RowKit
import Derived.RowKitTokens
import Derived.LaidLaws
import Derived.LaidHandle
import Derived.LaidMore
import Derived.Lay
import Derived.Lib.LaidTab
import Derived.Stop.Joined
import Derived.Stop.LaidErr
import Derived.SevenTiedAt
import Derived.Below
import Derived.Test.YtdpapalfafjncaaGreatDoorRowC
import Derived.Test.YtdpapalfafjncaaGreatDoorRZ
import Derived.Test.YtdpapalfafjncaaGreatDoorLawXB
namespace Go.Proofs.YtdpapalfafjncaaGreatDoor.fnExecuteBins
open Go.ChangeShapes Go.WideShapes Go.ChangeAt Go.RowKit

theorem own : ownKnob Tryz.prog.godebug = none := by kernel_rfl
theorem laidOut : laidOutB Tryz.prog = true := by kernel_rfl
theorem gP : Tryz.prog.globalNamed "internal/strconv.uint64pow10" = some 1 := by kernel_rfl
theorem gPT : (Tryz.prog.globals[1]?).map (·.type) = some 146 := by kernel_rfl
theorem plainLaid (w : World) : laidMetH Tryz.prog Rows.fnExecuteBinsRow.laid w = laidMet Tryz.prog Rows.fnExecuteBinsRow.laid w := MakeChecks.laidMetH_plain _ _ _ (by kernel_rfl)
/-- what the row's condition gives the walk: the table of powers of ten -/
theorem pow10_of_laid {W : World} (h : laidMetH Tryz.prog Rows.fnExecuteBinsRow.laid W) : Pow10 W := by
  rw [plainLaid] at h
  exact Lib.tabIs_of_head gP gPT Tryz.underlying146 Tryz.underlying109 (by kernel_rfl) (by kernel_rfl) h.tail.tail
/-- a world that meets the condition -/
theorem laid_met (os : Os) (args : Array Value) : laidMetH Tryz.prog Rows.fnExecuteBinsRow.laid ((World.laidAll Tryz.prog os Rows.fnExecuteBinsRow.laid).forCall (fun _ _ => 0) ⟨#[], args, []⟩).memory := by
  rw [plainLaid]
  exact laidMet_laidAll _ (by kernel_rfl) (by kernel_rfl)

set_option maxRecDepth 100000 in
theorem lifted (os : Os) (started : os.Started) (H : Type) (enc : TypeId × Value → H) :
    ReturnsInHanded {} Tryz.checked os 4 .any (fun w args => (Rows.fnExecuteBinsSpec.pre enc Tryz.prog Tryz.f4 Rows.fnExecuteBinsRow.domain false w args ∧ laidMetH Tryz.prog Rows.fnExecuteBinsRow.laid w) ∧ sizedMet enc Tryz.prog Tryz.f4 (OpenSpec.ofChange Rows.fnExecuteBinsSpec) false w args) (Rows.fnExecuteBinsSpec.post enc Tryz.prog Tryz.f4 false true false false) := by
  refine returnsInHanded_of_change_and (C := Tryz.checked) (X := fun w _ => laidMetH Tryz.prog Rows.fnExecuteBinsRow.laid w) (fun _ _ _ hh h => h.of_heap hh) own started (by kernel_rfl) Tryz.func4
    (ChangeSpec.witness_shaped (enc := enc) (C := Tryz.checked) (os := os) (X := fun w _ => laidMetH Tryz.prog Rows.fnExecuteBinsRow.laid w) false (World.laidAll Tryz.prog os Rows.fnExecuteBinsRow.laid) #[.slice none 0 0] 8 (World.laidAll_os _ _ _) (World.shaped_of_ZipB (by kernel_rfl) (by kernel_rfl)) (by kernel_rfl) (by kernel_rfl) (by kernel_rfl) (laid_met os _)) ?_
  intro W base args ds gs before hval0 hW _ _ hL _
  have hval : ∀ (j : Nat) t v, Tryz.f4.params[j]? = some t → args[j]? = some v → Value.okWide Tryz.prog W .any base t v := hval0
  have hW' := hW
  obtain ⟨p, q, hA0, hV, rfl, hfz, hnd⟩ := hW
  have hA : DataW.TrodAll enc Tryz.prog W 0 (fun _ => true) true Tryz.f4.params.toList args.toList ds p := hA0
  rw [Tryz.params4] at hA hval
  obtain ⟨v0, vs0, d0, ds0, p0, q0, hargs, rfl, rfl, h0, r0⟩ := trodAll_cons hA
  obtain ⟨rfl, rfl, rfl⟩ := trodAll_nil r0
  obtain rfl : args = #[v0] := by cases args; simp_all
  obtain ⟨rfl, rfl⟩ := trodVars_none hV
  obtain ⟨a0, len0, cap0, rfl⟩ := okWide_slice Tryz.underlying22 (hval 0 22 v0 rfl rfl)
  have k0 := h0
  have lt0 : ∀ x ∈ p0, x.block < W.heap.size := by obtain ⟨m, hm⟩ := k0; exact DataW.trod_lt m _ _ _ hm
  obtain ⟨z0, w0⟩ : ∃ zs, IsRow .u8 W a0 len0 cap0 zs := by
    obtain ⟨fuel, hf⟩ := h0
    rcases open_ints Tryz.underlying22 Tryz.underlying5 (by kernel_rfl) hf with ⟨hcs, _⟩ | ⟨x, l, c, zs, hcs, _, hl, hm, hz, _, hcell, hwz⟩
    · simp [Value.cells] at hcs
      obtain ⟨rfl, rfl, rfl⟩ := hcs
      exact ⟨[], .inl ⟨rfl, rfl, rfl, rfl⟩⟩
    · simp [Value.cells] at hcs
      obtain ⟨rfl, rfl, rfl⟩ := hcs
      exact ⟨zs, .inr ⟨_, rfl, hl, hm, by simpa using hz, hcell, hwz⟩⟩
  have hg := pow10_of_laid hL
  clear hA0 hval0
  refine (FnExecuteBins_law a0 len0 cap0 W w0.bytes.1 w0.bytes.2 w0.max hg).mono fun e W' ⟨he, bel⟩ => ?_
  subst he
  exact ⟨_, rfl, _, _, _, [], _, [], hW', trodAll_mk1 (shut_bool Tryz.underlying4 _), (trodAll_cons_mk (Below.trod laidOut (by kernel_rfl) (of_decide_eq_true (by kernel_rfl)) k0 bel lt0) trodAll_mk0), rfl, bel.frame _, fun h => by cases h⟩

theorem over : Rows.FnExecuteBinsSaid :=
  OpenClaim.holds_of_wide_leaving 4 Tryz.f4 rfl rfl rfl rfl rfl rfl rfl ⟨rfl, rfl, rfl, rfl, rfl⟩ rfl rfl rfl rfl rfl (by kernel_rfl) Tryz.func4 (by kernel_rfl)
    (of_decide_eq_true (by kernel_rfl)) (by unfold Func.isWrapper; first | (rw [if_pos (by decide +kernel)]; kernel_rfl) | (rw [if_neg (by decide +kernel)]; exact ⟨rfl, rfl⟩))
    (fun os started H enc _ => leaving_of_handed (lifted os started H enc))

theorem proved : Rows.FnExecuteBinsCardSaid :=
  holds_tied_goes .later [.data, .data, .data, .data, .pinned] true (true, "22f3b7fa6b0cf75564e8d95026c158fe9d0ece8e6cd82a5456dce1fe88067182") true true
    over (by kernel_rfl) fnExecuteBins_row_tie rfl ⟨rfl, rfl⟩ (by kernel_rfl) rfl
    (fun f fn hf hfn => by
      obtain rfl : f = 4 := Option.some.inj ((show Tryz.prog.funcNamed "loop.example/chosensums/laws.FnExecuteBins" = some 4 by kernel_rfl).symm.trans hf) |>.symm
      obtain rfl : fn = Tryz.f4 := (Option.some.inj (Tryz.func4.symm.trans hfn)).symm
      exact ⟨by kernel_rfl, fun j t ht => by
        rw [Tryz.params4] at ht
        have h3 : t = 22 := by
          rcases j with _ | j
          · simpa using ht.symm
          · simp at ht
        subst h3
        exact (show Tryz.prog.wantsStandIn 22 = false by kernel_rfl)⟩)
    (by kernel_rfl)
#print axioms proved
end Go.Proofs.YtdpapalfafjncaaGreatDoor.fnExecuteBins
