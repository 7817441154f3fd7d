/-
  No cell of these rows narrows 'for every input' (looked for: loops, veiled, ifaces, maps, wideKeys, modest, calm, conditions, laid).
  DERIVED. THE GIVEN ROWS OF THIS SEAT. 27 by the template 'for every input the law returns true; each argument reads behind the call as it read before'; 0 by the template 'total and deterministic' (their statements: YtbpkffpejmlonaaTotals.lean).
  GIVEN WITH THE SEED: the statements are not yours to turn. If you find one false, say at which input.
  Laid BY PROGRAM, IN A SANDBOX (cutbox-rows.mjs): the forced cells as the released guide's own fill.sh prints them over the translation 6417ae2048e88a4b… (all of the seat's roots in one cut). By AI agents, Wed Nov 11 2026. No macro, syntax, notation, axiom, sorry.
-/
import Derived.Test.YtbpkffpejmlonaaChecked
import GoSem.Claim
import GoSem.ClaimJoined
import GoSem.ClaimMapViews
import Derived.JoinedTies
import Derived.KernelRfl
namespace Go.Proofs.Ytbpkffpejmlonaa
/- THE CELL 'sum', in the pinned program and in every row, IS THE sha256 OF THE DUMP (.gsa) THAT YtbpkffpejmlonaaProg.lean LOADS. Nothing in Lean hashes anything: it is a label: what it is worth is what the hold of that sum in a sandbox is worth. -/
noncomputable def Try.pinned : Pinned := { name := "ytbpkffpejmlonaa", sum := "6417ae2048e88a4bcdaebb12450aca0fd56542b847263b76cc711e2bfe271c8e", checked := Try.checked }
namespace Rows
def none {H : Type} : Left H := { results := [], args := [] }

/-- 'laws.FnList': WHATEVER THE INPUT: true; the input reads as it did. -/
def fnListSpec : ChangeSpec := { name := "fnList", fn := fun _ => fun
  | [d] => { results := [.lit (.bool true)], args := [d] }
  | _ => none }
def fnListRow : OpenClaim := { program := "ytbpkffpejmlonaa", sum := "6417ae2048e88a4bcdaebb12450aca0fd56542b847263b76cc711e2bfe271c8e", func := "loop.example/chosensums/laws.FnList", spec := "fnList", unfollowed := true, recurses := true, apart := false }
def FnListSaid : Prop := fnListRow.holds Try.pinned (OpenSpec.ofChange fnListSpec)

/-- ITS FALSE NEIGHBOUR: 'it returns false'. Refute it at one input. -/
def fnListWrong : ChangeSpec := { name := "fnList", fn := fun _ => fun
  | [d] => { results := [.lit (.bool false)], args := [d] }
  | _ => none }
def FnListWrongFalsely : Prop := fnListRow.holds Try.pinned (OpenSpec.ofChange fnListWrong)

/-- 'laws.FnExactRestFind': WHATEVER THE INPUT: true; the input reads as it did. -/
def fnExactRestFindSpec : ChangeSpec := { name := "fnExactRestFind", fn := fun _ => fun
  | [d1, d2] => { results := [.lit (.bool true)], args := [d1, d2] }
  | _ => none }
def fnExactRestFindRow : OpenClaim := { program := "ytbpkffpejmlonaa", sum := "6417ae2048e88a4bcdaebb12450aca0fd56542b847263b76cc711e2bfe271c8e", func := "loop.example/chosensums/laws.FnExactRestFind", spec := "fnExactRestFind", unfollowed := true, recurses := true, apart := false }
def FnExactRestFindSaid : Prop := fnExactRestFindRow.holds Try.pinned (OpenSpec.ofChange fnExactRestFindSpec)

/-- ITS FALSE NEIGHBOUR: 'it returns false'. Refute it at one input. -/
def fnExactRestFindWrong : ChangeSpec := { name := "fnExactRestFind", fn := fun _ => fun
  | [d1, d2] => { results := [.lit (.bool false)], args := [d1, d2] }
  | _ => none }
def FnExactRestFindWrongFalsely : Prop := fnExactRestFindRow.holds Try.pinned (OpenSpec.ofChange fnExactRestFindWrong)

/-- 'laws.FnExactRestCounts': WHATEVER THE INPUT: true; the input reads as it did. -/
def fnExactRestCountsSpec : ChangeSpec := { name := "fnExactRestCounts", fn := fun _ => fun
  | [d1, d2] => { results := [.lit (.bool true)], args := [d1, d2] }
  | _ => none }
def fnExactRestCountsRow : OpenClaim := { program := "ytbpkffpejmlonaa", sum := "6417ae2048e88a4bcdaebb12450aca0fd56542b847263b76cc711e2bfe271c8e", func := "loop.example/chosensums/laws.FnExactRestCounts", spec := "fnExactRestCounts", unfollowed := true, recurses := true, apart := false }
def FnExactRestCountsSaid : Prop := fnExactRestCountsRow.holds Try.pinned (OpenSpec.ofChange fnExactRestCountsSpec)

/-- ITS FALSE NEIGHBOUR: 'it returns false'. Refute it at one input. -/
def fnExactRestCountsWrong : ChangeSpec := { name := "fnExactRestCounts", fn := fun _ => fun
  | [d1, d2] => { results := [.lit (.bool false)], args := [d1, d2] }
  | _ => none }
def FnExactRestCountsWrongFalsely : Prop := fnExactRestCountsRow.holds Try.pinned (OpenSpec.ofChange fnExactRestCountsWrong)

/-- 'laws.FnDual': WHATEVER THE INPUT: true; the input reads as it did. -/
def fnDualSpec : ChangeSpec := { name := "fnDual", fn := fun _ => fun
  | [d] => { results := [.lit (.bool true)], args := [d] }
  | _ => none }
def fnDualRow : OpenClaim := { program := "ytbpkffpejmlonaa", sum := "6417ae2048e88a4bcdaebb12450aca0fd56542b847263b76cc711e2bfe271c8e", func := "loop.example/chosensums/laws.FnDual", spec := "fnDual", apart := false }
def FnDualSaid : Prop := fnDualRow.holds Try.pinned (OpenSpec.ofChange fnDualSpec)

/-- ITS FALSE NEIGHBOUR: 'it returns false'. Refute it at one input. -/
def fnDualWrong : ChangeSpec := { name := "fnDual", fn := fun _ => fun
  | [d] => { results := [.lit (.bool false)], args := [d] }
  | _ => none }
def FnDualWrongFalsely : Prop := fnDualRow.holds Try.pinned (OpenSpec.ofChange fnDualWrong)

/-- 'laws.FnSumOf': WHATEVER THE INPUT: true; the input reads as it did. -/
def fnSumOfSpec : ChangeSpec := { name := "fnSumOf", fn := fun _ => fun
  | [d] => { results := [.lit (.bool true)], args := [d] }
  | _ => none }
def fnSumOfRow : OpenClaim := { program := "ytbpkffpejmlonaa", sum := "6417ae2048e88a4bcdaebb12450aca0fd56542b847263b76cc711e2bfe271c8e", func := "loop.example/chosensums/laws.FnSumOf", spec := "fnSumOf", unfollowed := true, recurses := true, apart := false }
def FnSumOfSaid : Prop := fnSumOfRow.holds Try.pinned (OpenSpec.ofChange fnSumOfSpec)

/-- ITS FALSE NEIGHBOUR: 'it returns false'. Refute it at one input. -/
def fnSumOfWrong : ChangeSpec := { name := "fnSumOf", fn := fun _ => fun
  | [d] => { results := [.lit (.bool false)], args := [d] }
  | _ => none }
def FnSumOfWrongFalsely : Prop := fnSumOfRow.holds Try.pinned (OpenSpec.ofChange fnSumOfWrong)

/-- 'laws.FnExactRestParts': WHATEVER THE INPUT: true; the input reads as it did. -/
def fnExactRestPartsSpec : ChangeSpec := { name := "fnExactRestParts", fn := fun _ => fun
  | [d1, d2] => { results := [.lit (.bool true)], args := [d1, d2] }
  | _ => none }
def fnExactRestPartsRow : OpenClaim := { program := "ytbpkffpejmlonaa", sum := "6417ae2048e88a4bcdaebb12450aca0fd56542b847263b76cc711e2bfe271c8e", func := "loop.example/chosensums/laws.FnExactRestParts", spec := "fnExactRestParts", apart := false }
def FnExactRestPartsSaid : Prop := fnExactRestPartsRow.holds Try.pinned (OpenSpec.ofChange fnExactRestPartsSpec)

/-- ITS FALSE NEIGHBOUR: 'it returns false'. Refute it at one input. -/
def fnExactRestPartsWrong : ChangeSpec := { name := "fnExactRestParts", fn := fun _ => fun
  | [d1, d2] => { results := [.lit (.bool false)], args := [d1, d2] }
  | _ => none }
def FnExactRestPartsWrongFalsely : Prop := fnExactRestPartsRow.holds Try.pinned (OpenSpec.ofChange fnExactRestPartsWrong)

/-- 'laws.FnExactRestReach': WHATEVER THE INPUT: true; the input reads as it did. -/
def fnExactRestReachSpec : ChangeSpec := { name := "fnExactRestReach", fn := fun _ => fun
  | [d1, d2] => { results := [.lit (.bool true)], args := [d1, d2] }
  | _ => none }
def fnExactRestReachRow : OpenClaim := { program := "ytbpkffpejmlonaa", sum := "6417ae2048e88a4bcdaebb12450aca0fd56542b847263b76cc711e2bfe271c8e", func := "loop.example/chosensums/laws.FnExactRestReach", spec := "fnExactRestReach", unfollowed := true, recurses := true, apart := false }
def FnExactRestReachSaid : Prop := fnExactRestReachRow.holds Try.pinned (OpenSpec.ofChange fnExactRestReachSpec)

/-- ITS FALSE NEIGHBOUR: 'it returns false'. Refute it at one input. -/
def fnExactRestReachWrong : ChangeSpec := { name := "fnExactRestReach", fn := fun _ => fun
  | [d1, d2] => { results := [.lit (.bool false)], args := [d1, d2] }
  | _ => none }
def FnExactRestReachWrongFalsely : Prop := fnExactRestReachRow.holds Try.pinned (OpenSpec.ofChange fnExactRestReachWrong)

/-- 'laws.FnCounts': WHATEVER THE INPUT: true; the input reads as it did. -/
def fnCountsSpec : ChangeSpec := { name := "fnCounts", fn := fun _ => fun
  | [d] => { results := [.lit (.bool true)], args := [d] }
  | _ => none }
def fnCountsRow : OpenClaim := { program := "ytbpkffpejmlonaa", sum := "6417ae2048e88a4bcdaebb12450aca0fd56542b847263b76cc711e2bfe271c8e", func := "loop.example/chosensums/laws.FnCounts", spec := "fnCounts", unfollowed := true, recurses := true, apart := false }
def FnCountsSaid : Prop := fnCountsRow.holds Try.pinned (OpenSpec.ofChange fnCountsSpec)

/-- ITS FALSE NEIGHBOUR: 'it returns false'. Refute it at one input. -/
def fnCountsWrong : ChangeSpec := { name := "fnCounts", fn := fun _ => fun
  | [d] => { results := [.lit (.bool false)], args := [d] }
  | _ => none }
def FnCountsWrongFalsely : Prop := fnCountsRow.holds Try.pinned (OpenSpec.ofChange fnCountsWrong)

/-- 'laws.FnRestCounts': WHATEVER THE INPUT: true; the input reads as it did. -/
def fnRestCountsSpec : ChangeSpec := { name := "fnRestCounts", fn := fun _ => fun
  | [d] => { results := [.lit (.bool true)], args := [d] }
  | _ => none }
def fnRestCountsRow : OpenClaim := { program := "ytbpkffpejmlonaa", sum := "6417ae2048e88a4bcdaebb12450aca0fd56542b847263b76cc711e2bfe271c8e", func := "loop.example/chosensums/laws.FnRestCounts", spec := "fnRestCounts", unfollowed := true, recurses := true, apart := false }
def FnRestCountsSaid : Prop := fnRestCountsRow.holds Try.pinned (OpenSpec.ofChange fnRestCountsSpec)

/-- ITS FALSE NEIGHBOUR: 'it returns false'. Refute it at one input. -/
def fnRestCountsWrong : ChangeSpec := { name := "fnRestCounts", fn := fun _ => fun
  | [d] => { results := [.lit (.bool false)], args := [d] }
  | _ => none }
def FnRestCountsWrongFalsely : Prop := fnRestCountsRow.holds Try.pinned (OpenSpec.ofChange fnRestCountsWrong)

/-- 'laws.FnHalfCount': WHATEVER THE INPUT: true; the input reads as it did. -/
def fnHalfCountSpec : ChangeSpec := { name := "fnHalfCount", fn := fun _ => fun
  | [d] => { results := [.lit (.bool true)], args := [d] }
  | _ => none }
def fnHalfCountRow : OpenClaim := { program := "ytbpkffpejmlonaa", sum := "6417ae2048e88a4bcdaebb12450aca0fd56542b847263b76cc711e2bfe271c8e", func := "loop.example/chosensums/laws.FnHalfCount", spec := "fnHalfCount", unfollowed := true, recurses := true, apart := false }
def FnHalfCountSaid : Prop := fnHalfCountRow.holds Try.pinned (OpenSpec.ofChange fnHalfCountSpec)

/-- ITS FALSE NEIGHBOUR: 'it returns false'. Refute it at one input. -/
def fnHalfCountWrong : ChangeSpec := { name := "fnHalfCount", fn := fun _ => fun
  | [d] => { results := [.lit (.bool false)], args := [d] }
  | _ => none }
def FnHalfCountWrongFalsely : Prop := fnHalfCountRow.holds Try.pinned (OpenSpec.ofChange fnHalfCountWrong)

/-- 'laws.FnRestAll': WHATEVER THE INPUT: true; the input reads as it did. -/
def fnRestAllSpec : ChangeSpec := { name := "fnRestAll", fn := fun _ => fun
  | [d] => { results := [.lit (.bool true)], args := [d] }
  | _ => none }
def fnRestAllRow : OpenClaim := { program := "ytbpkffpejmlonaa", sum := "6417ae2048e88a4bcdaebb12450aca0fd56542b847263b76cc711e2bfe271c8e", func := "loop.example/chosensums/laws.FnRestAll", spec := "fnRestAll", unfollowed := true, recurses := true, apart := false }
def FnRestAllSaid : Prop := fnRestAllRow.holds Try.pinned (OpenSpec.ofChange fnRestAllSpec)

/-- ITS FALSE NEIGHBOUR: 'it returns false'. Refute it at one input. -/
def fnRestAllWrong : ChangeSpec := { name := "fnRestAll", fn := fun _ => fun
  | [d] => { results := [.lit (.bool false)], args := [d] }
  | _ => none }
def FnRestAllWrongFalsely : Prop := fnRestAllRow.holds Try.pinned (OpenSpec.ofChange fnRestAllWrong)

/-- 'laws.FnExactRestJust': WHATEVER THE INPUT: true; the input reads as it did. -/
def fnExactRestJustSpec : ChangeSpec := { name := "fnExactRestJust", fn := fun _ => fun
  | [d1, d2, d3] => { results := [.lit (.bool true)], args := [d1, d2, d3] }
  | _ => none }
def fnExactRestJustRow : OpenClaim := { program := "ytbpkffpejmlonaa", sum := "6417ae2048e88a4bcdaebb12450aca0fd56542b847263b76cc711e2bfe271c8e", func := "loop.example/chosensums/laws.FnExactRestJust", spec := "fnExactRestJust", unfollowed := true, recurses := true, apart := false }
def FnExactRestJustSaid : Prop := fnExactRestJustRow.holds Try.pinned (OpenSpec.ofChange fnExactRestJustSpec)

/-- ITS FALSE NEIGHBOUR: 'it returns false'. Refute it at one input. -/
def fnExactRestJustWrong : ChangeSpec := { name := "fnExactRestJust", fn := fun _ => fun
  | [d1, d2, d3] => { results := [.lit (.bool false)], args := [d1, d2, d3] }
  | _ => none }
def FnExactRestJustWrongFalsely : Prop := fnExactRestJustRow.holds Try.pinned (OpenSpec.ofChange fnExactRestJustWrong)

/-- 'laws.FnRestReach': WHATEVER THE INPUT: true; the input reads as it did. -/
def fnRestReachSpec : ChangeSpec := { name := "fnRestReach", fn := fun _ => fun
  | [d] => { results := [.lit (.bool true)], args := [d] }
  | _ => none }
def fnRestReachRow : OpenClaim := { program := "ytbpkffpejmlonaa", sum := "6417ae2048e88a4bcdaebb12450aca0fd56542b847263b76cc711e2bfe271c8e", func := "loop.example/chosensums/laws.FnRestReach", spec := "fnRestReach", unfollowed := true, recurses := true, apart := false }
def FnRestReachSaid : Prop := fnRestReachRow.holds Try.pinned (OpenSpec.ofChange fnRestReachSpec)

/-- ITS FALSE NEIGHBOUR: 'it returns false'. Refute it at one input. -/
def fnRestReachWrong : ChangeSpec := { name := "fnRestReach", fn := fun _ => fun
  | [d] => { results := [.lit (.bool false)], args := [d] }
  | _ => none }
def FnRestReachWrongFalsely : Prop := fnRestReachRow.holds Try.pinned (OpenSpec.ofChange fnRestReachWrong)

/-- 'laws.FnThree': WHATEVER THE INPUT: true; the input reads as it did. -/
def fnThreeSpec : ChangeSpec := { name := "fnThree", fn := fun _ => fun
  | [d] => { results := [.lit (.bool true)], args := [d] }
  | _ => none }
def fnThreeRow : OpenClaim := { program := "ytbpkffpejmlonaa", sum := "6417ae2048e88a4bcdaebb12450aca0fd56542b847263b76cc711e2bfe271c8e", func := "loop.example/chosensums/laws.FnThree", spec := "fnThree", unfollowed := true, recurses := true, apart := false }
def FnThreeSaid : Prop := fnThreeRow.holds Try.pinned (OpenSpec.ofChange fnThreeSpec)

/-- ITS FALSE NEIGHBOUR: 'it returns false'. Refute it at one input. -/
def fnThreeWrong : ChangeSpec := { name := "fnThree", fn := fun _ => fun
  | [d] => { results := [.lit (.bool false)], args := [d] }
  | _ => none }
def FnThreeWrongFalsely : Prop := fnThreeRow.holds Try.pinned (OpenSpec.ofChange fnThreeWrong)

/-- 'laws.FnExactRestShort': WHATEVER THE INPUT: true; the input reads as it did. -/
def fnExactRestShortSpec : ChangeSpec := { name := "fnExactRestShort", fn := fun _ => fun
  | [d1, d2] => { results := [.lit (.bool true)], args := [d1, d2] }
  | _ => none }
def fnExactRestShortRow : OpenClaim := { program := "ytbpkffpejmlonaa", sum := "6417ae2048e88a4bcdaebb12450aca0fd56542b847263b76cc711e2bfe271c8e", func := "loop.example/chosensums/laws.FnExactRestShort", spec := "fnExactRestShort", unfollowed := true, recurses := true, apart := false }
def FnExactRestShortSaid : Prop := fnExactRestShortRow.holds Try.pinned (OpenSpec.ofChange fnExactRestShortSpec)

/-- ITS FALSE NEIGHBOUR: 'it returns false'. Refute it at one input. -/
def fnExactRestShortWrong : ChangeSpec := { name := "fnExactRestShort", fn := fun _ => fun
  | [d1, d2] => { results := [.lit (.bool false)], args := [d1, d2] }
  | _ => none }
def FnExactRestShortWrongFalsely : Prop := fnExactRestShortRow.holds Try.pinned (OpenSpec.ofChange fnExactRestShortWrong)

/-- 'laws.FnHalfChoice': WHATEVER THE INPUT: true; the input reads as it did. -/
def fnHalfChoiceSpec : ChangeSpec := { name := "fnHalfChoice", fn := fun _ => fun
  | [d] => { results := [.lit (.bool true)], args := [d] }
  | _ => none }
def fnHalfChoiceRow : OpenClaim := { program := "ytbpkffpejmlonaa", sum := "6417ae2048e88a4bcdaebb12450aca0fd56542b847263b76cc711e2bfe271c8e", func := "loop.example/chosensums/laws.FnHalfChoice", spec := "fnHalfChoice", unfollowed := true, recurses := true, apart := false }
def FnHalfChoiceSaid : Prop := fnHalfChoiceRow.holds Try.pinned (OpenSpec.ofChange fnHalfChoiceSpec)

/-- ITS FALSE NEIGHBOUR: 'it returns false'. Refute it at one input. -/
def fnHalfChoiceWrong : ChangeSpec := { name := "fnHalfChoice", fn := fun _ => fun
  | [d] => { results := [.lit (.bool false)], args := [d] }
  | _ => none }
def FnHalfChoiceWrongFalsely : Prop := fnHalfChoiceRow.holds Try.pinned (OpenSpec.ofChange fnHalfChoiceWrong)

/-- 'laws.FnReach': WHATEVER THE INPUT: true; the input reads as it did. -/
def fnReachSpec : ChangeSpec := { name := "fnReach", fn := fun _ => fun
  | [d] => { results := [.lit (.bool true)], args := [d] }
  | _ => none }
def fnReachRow : OpenClaim := { program := "ytbpkffpejmlonaa", sum := "6417ae2048e88a4bcdaebb12450aca0fd56542b847263b76cc711e2bfe271c8e", func := "loop.example/chosensums/laws.FnReach", spec := "fnReach", unfollowed := true, recurses := true, apart := false }
def FnReachSaid : Prop := fnReachRow.holds Try.pinned (OpenSpec.ofChange fnReachSpec)

/-- ITS FALSE NEIGHBOUR: 'it returns false'. Refute it at one input. -/
def fnReachWrong : ChangeSpec := { name := "fnReach", fn := fun _ => fun
  | [d] => { results := [.lit (.bool false)], args := [d] }
  | _ => none }
def FnReachWrongFalsely : Prop := fnReachRow.holds Try.pinned (OpenSpec.ofChange fnReachWrong)

/-- 'laws.FnHalf': WHATEVER THE INPUT: true; the input reads as it did. -/
def fnHalfSpec : ChangeSpec := { name := "fnHalf", fn := fun _ => fun
  | [d] => { results := [.lit (.bool true)], args := [d] }
  | _ => none }
def fnHalfRow : OpenClaim := { program := "ytbpkffpejmlonaa", sum := "6417ae2048e88a4bcdaebb12450aca0fd56542b847263b76cc711e2bfe271c8e", func := "loop.example/chosensums/laws.FnHalf", spec := "fnHalf", unfollowed := true, recurses := true, apart := false }
def FnHalfSaid : Prop := fnHalfRow.holds Try.pinned (OpenSpec.ofChange fnHalfSpec)

/-- ITS FALSE NEIGHBOUR: 'it returns false'. Refute it at one input. -/
def fnHalfWrong : ChangeSpec := { name := "fnHalf", fn := fun _ => fun
  | [d] => { results := [.lit (.bool false)], args := [d] }
  | _ => none }
def FnHalfWrongFalsely : Prop := fnHalfRow.holds Try.pinned (OpenSpec.ofChange fnHalfWrong)

/-- 'laws.FnSigned': WHATEVER THE INPUT: true; the input reads as it did. -/
def fnSignedSpec : ChangeSpec := { name := "fnSigned", fn := fun _ => fun
  | [d] => { results := [.lit (.bool true)], args := [d] }
  | _ => none }
def fnSignedRow : OpenClaim := { program := "ytbpkffpejmlonaa", sum := "6417ae2048e88a4bcdaebb12450aca0fd56542b847263b76cc711e2bfe271c8e", func := "loop.example/chosensums/laws.FnSigned", spec := "fnSigned", unfollowed := true, recurses := true, apart := false }
def FnSignedSaid : Prop := fnSignedRow.holds Try.pinned (OpenSpec.ofChange fnSignedSpec)

/-- ITS FALSE NEIGHBOUR: 'it returns false'. Refute it at one input. -/
def fnSignedWrong : ChangeSpec := { name := "fnSigned", fn := fun _ => fun
  | [d] => { results := [.lit (.bool false)], args := [d] }
  | _ => none }
def FnSignedWrongFalsely : Prop := fnSignedRow.holds Try.pinned (OpenSpec.ofChange fnSignedWrong)

/-- 'laws.FnApart': WHATEVER THE INPUT: true; the input reads as it did. -/
def fnApartSpec : ChangeSpec := { name := "fnApart", fn := fun _ => fun
  | [d] => { results := [.lit (.bool true)], args := [d] }
  | _ => none }
def fnApartRow : OpenClaim := { program := "ytbpkffpejmlonaa", sum := "6417ae2048e88a4bcdaebb12450aca0fd56542b847263b76cc711e2bfe271c8e", func := "loop.example/chosensums/laws.FnApart", spec := "fnApart", unfollowed := true, recurses := true, apart := false }
def FnApartSaid : Prop := fnApartRow.holds Try.pinned (OpenSpec.ofChange fnApartSpec)

/-- ITS FALSE NEIGHBOUR: 'it returns false'. Refute it at one input. -/
def fnApartWrong : ChangeSpec := { name := "fnApart", fn := fun _ => fun
  | [d] => { results := [.lit (.bool false)], args := [d] }
  | _ => none }
def FnApartWrongFalsely : Prop := fnApartRow.holds Try.pinned (OpenSpec.ofChange fnApartWrong)

/-- 'laws.FnRestParts': WHATEVER THE INPUT: true; the input reads as it did. -/
def fnRestPartsSpec : ChangeSpec := { name := "fnRestParts", fn := fun _ => fun
  | [d] => { results := [.lit (.bool true)], args := [d] }
  | _ => none }
def fnRestPartsRow : OpenClaim := { program := "ytbpkffpejmlonaa", sum := "6417ae2048e88a4bcdaebb12450aca0fd56542b847263b76cc711e2bfe271c8e", func := "loop.example/chosensums/laws.FnRestParts", spec := "fnRestParts", unfollowed := true, recurses := true, apart := false }
def FnRestPartsSaid : Prop := fnRestPartsRow.holds Try.pinned (OpenSpec.ofChange fnRestPartsSpec)

/-- ITS FALSE NEIGHBOUR: 'it returns false'. Refute it at one input. -/
def fnRestPartsWrong : ChangeSpec := { name := "fnRestParts", fn := fun _ => fun
  | [d] => { results := [.lit (.bool false)], args := [d] }
  | _ => none }
def FnRestPartsWrongFalsely : Prop := fnRestPartsRow.holds Try.pinned (OpenSpec.ofChange fnRestPartsWrong)

/-- 'laws.FnPanCounts': WHATEVER THE INPUT: true; the input reads as it did. -/
def fnPanCountsSpec : ChangeSpec := { name := "fnPanCounts", fn := fun _ => fun
  | [d] => { results := [.lit (.bool true)], args := [d] }
  | _ => none }
def fnPanCountsRow : OpenClaim := { program := "ytbpkffpejmlonaa", sum := "6417ae2048e88a4bcdaebb12450aca0fd56542b847263b76cc711e2bfe271c8e", func := "loop.example/chosensums/laws.FnPanCounts", spec := "fnPanCounts", apart := false }
def FnPanCountsSaid : Prop := fnPanCountsRow.holds Try.pinned (OpenSpec.ofChange fnPanCountsSpec)

/-- ITS FALSE NEIGHBOUR: 'it returns false'. Refute it at one input. -/
def fnPanCountsWrong : ChangeSpec := { name := "fnPanCounts", fn := fun _ => fun
  | [d] => { results := [.lit (.bool false)], args := [d] }
  | _ => none }
def FnPanCountsWrongFalsely : Prop := fnPanCountsRow.holds Try.pinned (OpenSpec.ofChange fnPanCountsWrong)

/-- 'laws.FnRestTwice': WHATEVER THE INPUT: true; the input reads as it did. -/
def fnRestTwiceSpec : ChangeSpec := { name := "fnRestTwice", fn := fun _ => fun
  | [d] => { results := [.lit (.bool true)], args := [d] }
  | _ => none }
def fnRestTwiceRow : OpenClaim := { program := "ytbpkffpejmlonaa", sum := "6417ae2048e88a4bcdaebb12450aca0fd56542b847263b76cc711e2bfe271c8e", func := "loop.example/chosensums/laws.FnRestTwice", spec := "fnRestTwice", unfollowed := true, recurses := true, apart := false }
def FnRestTwiceSaid : Prop := fnRestTwiceRow.holds Try.pinned (OpenSpec.ofChange fnRestTwiceSpec)

/-- ITS FALSE NEIGHBOUR: 'it returns false'. Refute it at one input. -/
def fnRestTwiceWrong : ChangeSpec := { name := "fnRestTwice", fn := fun _ => fun
  | [d] => { results := [.lit (.bool false)], args := [d] }
  | _ => none }
def FnRestTwiceWrongFalsely : Prop := fnRestTwiceRow.holds Try.pinned (OpenSpec.ofChange fnRestTwiceWrong)

/-- 'laws.FnRestJust': WHATEVER THE INPUT: true; the input reads as it did. -/
def fnRestJustSpec : ChangeSpec := { name := "fnRestJust", fn := fun _ => fun
  | [d] => { results := [.lit (.bool true)], args := [d] }
  | _ => none }
def fnRestJustRow : OpenClaim := { program := "ytbpkffpejmlonaa", sum := "6417ae2048e88a4bcdaebb12450aca0fd56542b847263b76cc711e2bfe271c8e", func := "loop.example/chosensums/laws.FnRestJust", spec := "fnRestJust", unfollowed := true, recurses := true, apart := false }
def FnRestJustSaid : Prop := fnRestJustRow.holds Try.pinned (OpenSpec.ofChange fnRestJustSpec)

/-- ITS FALSE NEIGHBOUR: 'it returns false'. Refute it at one input. -/
def fnRestJustWrong : ChangeSpec := { name := "fnRestJust", fn := fun _ => fun
  | [d] => { results := [.lit (.bool false)], args := [d] }
  | _ => none }
def FnRestJustWrongFalsely : Prop := fnRestJustRow.holds Try.pinned (OpenSpec.ofChange fnRestJustWrong)

/-- 'laws.FnRestShort': WHATEVER THE INPUT: true; the input reads as it did. -/
def fnRestShortSpec : ChangeSpec := { name := "fnRestShort", fn := fun _ => fun
  | [d] => { results := [.lit (.bool true)], args := [d] }
  | _ => none }
def fnRestShortRow : OpenClaim := { program := "ytbpkffpejmlonaa", sum := "6417ae2048e88a4bcdaebb12450aca0fd56542b847263b76cc711e2bfe271c8e", func := "loop.example/chosensums/laws.FnRestShort", spec := "fnRestShort", unfollowed := true, recurses := true, apart := false }
def FnRestShortSaid : Prop := fnRestShortRow.holds Try.pinned (OpenSpec.ofChange fnRestShortSpec)

/-- ITS FALSE NEIGHBOUR: 'it returns false'. Refute it at one input. -/
def fnRestShortWrong : ChangeSpec := { name := "fnRestShort", fn := fun _ => fun
  | [d] => { results := [.lit (.bool false)], args := [d] }
  | _ => none }
def FnRestShortWrongFalsely : Prop := fnRestShortRow.holds Try.pinned (OpenSpec.ofChange fnRestShortWrong)

/-- 'laws.FnRestFind': WHATEVER THE INPUT: true; the input reads as it did. -/
def fnRestFindSpec : ChangeSpec := { name := "fnRestFind", fn := fun _ => fun
  | [d] => { results := [.lit (.bool true)], args := [d] }
  | _ => none }
def fnRestFindRow : OpenClaim := { program := "ytbpkffpejmlonaa", sum := "6417ae2048e88a4bcdaebb12450aca0fd56542b847263b76cc711e2bfe271c8e", func := "loop.example/chosensums/laws.FnRestFind", spec := "fnRestFind", unfollowed := true, recurses := true, apart := false }
def FnRestFindSaid : Prop := fnRestFindRow.holds Try.pinned (OpenSpec.ofChange fnRestFindSpec)

/-- ITS FALSE NEIGHBOUR: 'it returns false'. Refute it at one input. -/
def fnRestFindWrong : ChangeSpec := { name := "fnRestFind", fn := fun _ => fun
  | [d] => { results := [.lit (.bool false)], args := [d] }
  | _ => none }
def FnRestFindWrongFalsely : Prop := fnRestFindRow.holds Try.pinned (OpenSpec.ofChange fnRestFindWrong)

/-- 'laws.FnPanWhole': WHATEVER THE INPUT: true; the input reads as it did. -/
def fnPanWholeSpec : ChangeSpec := { name := "fnPanWhole", fn := fun _ => fun
  | [d] => { results := [.lit (.bool true)], args := [d] }
  | _ => none }
def fnPanWholeRow : OpenClaim := { program := "ytbpkffpejmlonaa", sum := "6417ae2048e88a4bcdaebb12450aca0fd56542b847263b76cc711e2bfe271c8e", func := "loop.example/chosensums/laws.FnPanWhole", spec := "fnPanWhole", unfollowed := true, recurses := true, apart := false }
def FnPanWholeSaid : Prop := fnPanWholeRow.holds Try.pinned (OpenSpec.ofChange fnPanWholeSpec)

/-- ITS FALSE NEIGHBOUR: 'it returns false'. Refute it at one input. -/
def fnPanWholeWrong : ChangeSpec := { name := "fnPanWhole", fn := fun _ => fun
  | [d] => { results := [.lit (.bool false)], args := [d] }
  | _ => none }
def FnPanWholeWrongFalsely : Prop := fnPanWholeRow.holds Try.pinned (OpenSpec.ofChange fnPanWholeWrong)

/- THE SECOND FORM. 'bulk': how many values and letters a reading holds, each counted each time it is reached (what is shared counts as often as it is met; a slice's spare places count too). A statement '..UptoSaid' is the law's where the arguments, and the package variables that the reading takes, are together of bulk at most 1048576: NARROWER than '..Said'. Prove '..Said' where nothing that the law and all that it calls make is longer than what came in: it says more and counts as full. Else prove '..UptoSaid'. A law counts once. -/
mutual
def uptoBulk {H : Type} : DataW H → Nat
  | .lit (.string bytes) => bytes.length + 1
  | .lit _ => 1
  | .nil => 1
  | .ptr d => uptoBulk d + 1
  | .slice elems spare => uptoBulkAll elems + uptoBulkAll spare + 1
  | .agg parts => uptoBulkAll parts + 1
  | .iface _ d => uptoBulk d + 1
  | .map entries => uptoBulkEntries entries + 1
  | .held _ => 1
def uptoBulkAll {H : Type} : List (DataW H) → Nat
  | [] => 0
  | d :: r => uptoBulk d + uptoBulkAll r
def uptoBulkEntries {H : Type} : List (Lit × DataW H) → Nat
  | [] => 0
  | x :: r => uptoBulkEntry x + uptoBulkEntries r
def uptoBulkEntry {H : Type} : Lit × DataW H → Nat
  | (.string bytes, d) => bytes.length + uptoBulk d + 1
  | (_, d) => uptoBulk d + 1
 end
def uptoSmall : (H : Type) → List (DataW H) → Bool := fun _ ds => decide (uptoBulkAll ds ≤ 1048576)
def OpenSpec.upto (s : _root_.Go.ChangeSpec) : _root_.Go.OpenSpec := { _root_.Go.OpenSpec.ofChange s with cond := some uptoSmall }

/-- 'laws.FnList', WHERE WHAT IT READS IS OF BULK AT MOST 1048576: true; the input reads as it did. -/
def fnListUptoRow : OpenClaim := { program := "ytbpkffpejmlonaa", sum := "6417ae2048e88a4bcdaebb12450aca0fd56542b847263b76cc711e2bfe271c8e", func := "loop.example/chosensums/laws.FnList", spec := "fnList", unfollowed := true, recurses := true, apart := false, narrowed := true }
def FnListUptoSaid : Prop := fnListUptoRow.holds Try.pinned (OpenSpec.upto fnListSpec)

/-- 'laws.FnExactRestFind', WHERE WHAT IT READS IS OF BULK AT MOST 1048576: true; the input reads as it did. -/
def fnExactRestFindUptoRow : OpenClaim := { program := "ytbpkffpejmlonaa", sum := "6417ae2048e88a4bcdaebb12450aca0fd56542b847263b76cc711e2bfe271c8e", func := "loop.example/chosensums/laws.FnExactRestFind", spec := "fnExactRestFind", unfollowed := true, recurses := true, apart := false, narrowed := true }
def FnExactRestFindUptoSaid : Prop := fnExactRestFindUptoRow.holds Try.pinned (OpenSpec.upto fnExactRestFindSpec)

/-- 'laws.FnExactRestCounts', WHERE WHAT IT READS IS OF BULK AT MOST 1048576: true; the input reads as it did. -/
def fnExactRestCountsUptoRow : OpenClaim := { program := "ytbpkffpejmlonaa", sum := "6417ae2048e88a4bcdaebb12450aca0fd56542b847263b76cc711e2bfe271c8e", func := "loop.example/chosensums/laws.FnExactRestCounts", spec := "fnExactRestCounts", unfollowed := true, recurses := true, apart := false, narrowed := true }
def FnExactRestCountsUptoSaid : Prop := fnExactRestCountsUptoRow.holds Try.pinned (OpenSpec.upto fnExactRestCountsSpec)

/-- 'laws.FnDual', WHERE WHAT IT READS IS OF BULK AT MOST 1048576: true; the input reads as it did. -/
def fnDualUptoRow : OpenClaim := { program := "ytbpkffpejmlonaa", sum := "6417ae2048e88a4bcdaebb12450aca0fd56542b847263b76cc711e2bfe271c8e", func := "loop.example/chosensums/laws.FnDual", spec := "fnDual", apart := false, narrowed := true }
def FnDualUptoSaid : Prop := fnDualUptoRow.holds Try.pinned (OpenSpec.upto fnDualSpec)

/-- 'laws.FnSumOf', WHERE WHAT IT READS IS OF BULK AT MOST 1048576: true; the input reads as it did. -/
def fnSumOfUptoRow : OpenClaim := { program := "ytbpkffpejmlonaa", sum := "6417ae2048e88a4bcdaebb12450aca0fd56542b847263b76cc711e2bfe271c8e", func := "loop.example/chosensums/laws.FnSumOf", spec := "fnSumOf", unfollowed := true, recurses := true, apart := false, narrowed := true }
def FnSumOfUptoSaid : Prop := fnSumOfUptoRow.holds Try.pinned (OpenSpec.upto fnSumOfSpec)

/-- 'laws.FnExactRestParts', WHERE WHAT IT READS IS OF BULK AT MOST 1048576: true; the input reads as it did. -/
def fnExactRestPartsUptoRow : OpenClaim := { program := "ytbpkffpejmlonaa", sum := "6417ae2048e88a4bcdaebb12450aca0fd56542b847263b76cc711e2bfe271c8e", func := "loop.example/chosensums/laws.FnExactRestParts", spec := "fnExactRestParts", apart := false, narrowed := true }
def FnExactRestPartsUptoSaid : Prop := fnExactRestPartsUptoRow.holds Try.pinned (OpenSpec.upto fnExactRestPartsSpec)

/-- 'laws.FnExactRestReach', WHERE WHAT IT READS IS OF BULK AT MOST 1048576: true; the input reads as it did. -/
def fnExactRestReachUptoRow : OpenClaim := { program := "ytbpkffpejmlonaa", sum := "6417ae2048e88a4bcdaebb12450aca0fd56542b847263b76cc711e2bfe271c8e", func := "loop.example/chosensums/laws.FnExactRestReach", spec := "fnExactRestReach", unfollowed := true, recurses := true, apart := false, narrowed := true }
def FnExactRestReachUptoSaid : Prop := fnExactRestReachUptoRow.holds Try.pinned (OpenSpec.upto fnExactRestReachSpec)

/-- 'laws.FnCounts', WHERE WHAT IT READS IS OF BULK AT MOST 1048576: true; the input reads as it did. -/
def fnCountsUptoRow : OpenClaim := { program := "ytbpkffpejmlonaa", sum := "6417ae2048e88a4bcdaebb12450aca0fd56542b847263b76cc711e2bfe271c8e", func := "loop.example/chosensums/laws.FnCounts", spec := "fnCounts", unfollowed := true, recurses := true, apart := false, narrowed := true }
def FnCountsUptoSaid : Prop := fnCountsUptoRow.holds Try.pinned (OpenSpec.upto fnCountsSpec)

/-- 'laws.FnRestCounts', WHERE WHAT IT READS IS OF BULK AT MOST 1048576: true; the input reads as it did. -/
def fnRestCountsUptoRow : OpenClaim := { program := "ytbpkffpejmlonaa", sum := "6417ae2048e88a4bcdaebb12450aca0fd56542b847263b76cc711e2bfe271c8e", func := "loop.example/chosensums/laws.FnRestCounts", spec := "fnRestCounts", unfollowed := true, recurses := true, apart := false, narrowed := true }
def FnRestCountsUptoSaid : Prop := fnRestCountsUptoRow.holds Try.pinned (OpenSpec.upto fnRestCountsSpec)

/-- 'laws.FnHalfCount', WHERE WHAT IT READS IS OF BULK AT MOST 1048576: true; the input reads as it did. -/
def fnHalfCountUptoRow : OpenClaim := { program := "ytbpkffpejmlonaa", sum := "6417ae2048e88a4bcdaebb12450aca0fd56542b847263b76cc711e2bfe271c8e", func := "loop.example/chosensums/laws.FnHalfCount", spec := "fnHalfCount", unfollowed := true, recurses := true, apart := false, narrowed := true }
def FnHalfCountUptoSaid : Prop := fnHalfCountUptoRow.holds Try.pinned (OpenSpec.upto fnHalfCountSpec)

/-- 'laws.FnRestAll', WHERE WHAT IT READS IS OF BULK AT MOST 1048576: true; the input reads as it did. -/
def fnRestAllUptoRow : OpenClaim := { program := "ytbpkffpejmlonaa", sum := "6417ae2048e88a4bcdaebb12450aca0fd56542b847263b76cc711e2bfe271c8e", func := "loop.example/chosensums/laws.FnRestAll", spec := "fnRestAll", unfollowed := true, recurses := true, apart := false, narrowed := true }
def FnRestAllUptoSaid : Prop := fnRestAllUptoRow.holds Try.pinned (OpenSpec.upto fnRestAllSpec)

/-- 'laws.FnExactRestJust', WHERE WHAT IT READS IS OF BULK AT MOST 1048576: true; the input reads as it did. -/
def fnExactRestJustUptoRow : OpenClaim := { program := "ytbpkffpejmlonaa", sum := "6417ae2048e88a4bcdaebb12450aca0fd56542b847263b76cc711e2bfe271c8e", func := "loop.example/chosensums/laws.FnExactRestJust", spec := "fnExactRestJust", unfollowed := true, recurses := true, apart := false, narrowed := true }
def FnExactRestJustUptoSaid : Prop := fnExactRestJustUptoRow.holds Try.pinned (OpenSpec.upto fnExactRestJustSpec)

/-- 'laws.FnRestReach', WHERE WHAT IT READS IS OF BULK AT MOST 1048576: true; the input reads as it did. -/
def fnRestReachUptoRow : OpenClaim := { program := "ytbpkffpejmlonaa", sum := "6417ae2048e88a4bcdaebb12450aca0fd56542b847263b76cc711e2bfe271c8e", func := "loop.example/chosensums/laws.FnRestReach", spec := "fnRestReach", unfollowed := true, recurses := true, apart := false, narrowed := true }
def FnRestReachUptoSaid : Prop := fnRestReachUptoRow.holds Try.pinned (OpenSpec.upto fnRestReachSpec)

/-- 'laws.FnThree', WHERE WHAT IT READS IS OF BULK AT MOST 1048576: true; the input reads as it did. -/
def fnThreeUptoRow : OpenClaim := { program := "ytbpkffpejmlonaa", sum := "6417ae2048e88a4bcdaebb12450aca0fd56542b847263b76cc711e2bfe271c8e", func := "loop.example/chosensums/laws.FnThree", spec := "fnThree", unfollowed := true, recurses := true, apart := false, narrowed := true }
def FnThreeUptoSaid : Prop := fnThreeUptoRow.holds Try.pinned (OpenSpec.upto fnThreeSpec)

/-- 'laws.FnExactRestShort', WHERE WHAT IT READS IS OF BULK AT MOST 1048576: true; the input reads as it did. -/
def fnExactRestShortUptoRow : OpenClaim := { program := "ytbpkffpejmlonaa", sum := "6417ae2048e88a4bcdaebb12450aca0fd56542b847263b76cc711e2bfe271c8e", func := "loop.example/chosensums/laws.FnExactRestShort", spec := "fnExactRestShort", unfollowed := true, recurses := true, apart := false, narrowed := true }
def FnExactRestShortUptoSaid : Prop := fnExactRestShortUptoRow.holds Try.pinned (OpenSpec.upto fnExactRestShortSpec)

/-- 'laws.FnHalfChoice', WHERE WHAT IT READS IS OF BULK AT MOST 1048576: true; the input reads as it did. -/
def fnHalfChoiceUptoRow : OpenClaim := { program := "ytbpkffpejmlonaa", sum := "6417ae2048e88a4bcdaebb12450aca0fd56542b847263b76cc711e2bfe271c8e", func := "loop.example/chosensums/laws.FnHalfChoice", spec := "fnHalfChoice", unfollowed := true, recurses := true, apart := false, narrowed := true }
def FnHalfChoiceUptoSaid : Prop := fnHalfChoiceUptoRow.holds Try.pinned (OpenSpec.upto fnHalfChoiceSpec)

/-- 'laws.FnReach', WHERE WHAT IT READS IS OF BULK AT MOST 1048576: true; the input reads as it did. -/
def fnReachUptoRow : OpenClaim := { program := "ytbpkffpejmlonaa", sum := "6417ae2048e88a4bcdaebb12450aca0fd56542b847263b76cc711e2bfe271c8e", func := "loop.example/chosensums/laws.FnReach", spec := "fnReach", unfollowed := true, recurses := true, apart := false, narrowed := true }
def FnReachUptoSaid : Prop := fnReachUptoRow.holds Try.pinned (OpenSpec.upto fnReachSpec)

/-- 'laws.FnHalf', WHERE WHAT IT READS IS OF BULK AT MOST 1048576: true; the input reads as it did. -/
def fnHalfUptoRow : OpenClaim := { program := "ytbpkffpejmlonaa", sum := "6417ae2048e88a4bcdaebb12450aca0fd56542b847263b76cc711e2bfe271c8e", func := "loop.example/chosensums/laws.FnHalf", spec := "fnHalf", unfollowed := true, recurses := true, apart := false, narrowed := true }
def FnHalfUptoSaid : Prop := fnHalfUptoRow.holds Try.pinned (OpenSpec.upto fnHalfSpec)

/-- 'laws.FnSigned', WHERE WHAT IT READS IS OF BULK AT MOST 1048576: true; the input reads as it did. -/
def fnSignedUptoRow : OpenClaim := { program := "ytbpkffpejmlonaa", sum := "6417ae2048e88a4bcdaebb12450aca0fd56542b847263b76cc711e2bfe271c8e", func := "loop.example/chosensums/laws.FnSigned", spec := "fnSigned", unfollowed := true, recurses := true, apart := false, narrowed := true }
def FnSignedUptoSaid : Prop := fnSignedUptoRow.holds Try.pinned (OpenSpec.upto fnSignedSpec)

/-- 'laws.FnApart', WHERE WHAT IT READS IS OF BULK AT MOST 1048576: true; the input reads as it did. -/
def fnApartUptoRow : OpenClaim := { program := "ytbpkffpejmlonaa", sum := "6417ae2048e88a4bcdaebb12450aca0fd56542b847263b76cc711e2bfe271c8e", func := "loop.example/chosensums/laws.FnApart", spec := "fnApart", unfollowed := true, recurses := true, apart := false, narrowed := true }
def FnApartUptoSaid : Prop := fnApartUptoRow.holds Try.pinned (OpenSpec.upto fnApartSpec)

/-- 'laws.FnRestParts', WHERE WHAT IT READS IS OF BULK AT MOST 1048576: true; the input reads as it did. -/
def fnRestPartsUptoRow : OpenClaim := { program := "ytbpkffpejmlonaa", sum := "6417ae2048e88a4bcdaebb12450aca0fd56542b847263b76cc711e2bfe271c8e", func := "loop.example/chosensums/laws.FnRestParts", spec := "fnRestParts", unfollowed := true, recurses := true, apart := false, narrowed := true }
def FnRestPartsUptoSaid : Prop := fnRestPartsUptoRow.holds Try.pinned (OpenSpec.upto fnRestPartsSpec)

/-- 'laws.FnPanCounts', WHERE WHAT IT READS IS OF BULK AT MOST 1048576: true; the input reads as it did. -/
def fnPanCountsUptoRow : OpenClaim := { program := "ytbpkffpejmlonaa", sum := "6417ae2048e88a4bcdaebb12450aca0fd56542b847263b76cc711e2bfe271c8e", func := "loop.example/chosensums/laws.FnPanCounts", spec := "fnPanCounts", apart := false, narrowed := true }
def FnPanCountsUptoSaid : Prop := fnPanCountsUptoRow.holds Try.pinned (OpenSpec.upto fnPanCountsSpec)

/-- 'laws.FnRestTwice', WHERE WHAT IT READS IS OF BULK AT MOST 1048576: true; the input reads as it did. -/
def fnRestTwiceUptoRow : OpenClaim := { program := "ytbpkffpejmlonaa", sum := "6417ae2048e88a4bcdaebb12450aca0fd56542b847263b76cc711e2bfe271c8e", func := "loop.example/chosensums/laws.FnRestTwice", spec := "fnRestTwice", unfollowed := true, recurses := true, apart := false, narrowed := true }
def FnRestTwiceUptoSaid : Prop := fnRestTwiceUptoRow.holds Try.pinned (OpenSpec.upto fnRestTwiceSpec)

/-- 'laws.FnRestJust', WHERE WHAT IT READS IS OF BULK AT MOST 1048576: true; the input reads as it did. -/
def fnRestJustUptoRow : OpenClaim := { program := "ytbpkffpejmlonaa", sum := "6417ae2048e88a4bcdaebb12450aca0fd56542b847263b76cc711e2bfe271c8e", func := "loop.example/chosensums/laws.FnRestJust", spec := "fnRestJust", unfollowed := true, recurses := true, apart := false, narrowed := true }
def FnRestJustUptoSaid : Prop := fnRestJustUptoRow.holds Try.pinned (OpenSpec.upto fnRestJustSpec)

/-- 'laws.FnRestShort', WHERE WHAT IT READS IS OF BULK AT MOST 1048576: true; the input reads as it did. -/
def fnRestShortUptoRow : OpenClaim := { program := "ytbpkffpejmlonaa", sum := "6417ae2048e88a4bcdaebb12450aca0fd56542b847263b76cc711e2bfe271c8e", func := "loop.example/chosensums/laws.FnRestShort", spec := "fnRestShort", unfollowed := true, recurses := true, apart := false, narrowed := true }
def FnRestShortUptoSaid : Prop := fnRestShortUptoRow.holds Try.pinned (OpenSpec.upto fnRestShortSpec)

/-- 'laws.FnRestFind', WHERE WHAT IT READS IS OF BULK AT MOST 1048576: true; the input reads as it did. -/
def fnRestFindUptoRow : OpenClaim := { program := "ytbpkffpejmlonaa", sum := "6417ae2048e88a4bcdaebb12450aca0fd56542b847263b76cc711e2bfe271c8e", func := "loop.example/chosensums/laws.FnRestFind", spec := "fnRestFind", unfollowed := true, recurses := true, apart := false, narrowed := true }
def FnRestFindUptoSaid : Prop := fnRestFindUptoRow.holds Try.pinned (OpenSpec.upto fnRestFindSpec)

/-- 'laws.FnPanWhole', WHERE WHAT IT READS IS OF BULK AT MOST 1048576: true; the input reads as it did. -/
def fnPanWholeUptoRow : OpenClaim := { program := "ytbpkffpejmlonaa", sum := "6417ae2048e88a4bcdaebb12450aca0fd56542b847263b76cc711e2bfe271c8e", func := "loop.example/chosensums/laws.FnPanWhole", spec := "fnPanWhole", unfollowed := true, recurses := true, apart := false, narrowed := true }
def FnPanWholeUptoSaid : Prop := fnPanWholeUptoRow.holds Try.pinned (OpenSpec.upto fnPanWholeSpec)

end Rows
end Go.Proofs.Ytbpkffpejmlonaa
