/-
  DERIVED. GIVEN WITH THE SEED: THE CARDS: each row of YtdpapalfafjncaaGreatDoorRows.lean that lists a variable, with what it lists TIED to the program's text (the seventh form; the later family's looks); each row that meets fmt, with fmt's text TOLD by the authors' own Lean function (tested against real Go, not proved from fmt's source: count such statements apart). THE CARD IS WHAT COUNTS. Prove the row's statement (the work); the ties are given (YtdpapalfafjncaaGreatDoorTie.lean); close each card by the builder's one call (the guide's Derived/Test/ToyasCard.lean, 'card_holds'). Laid BY PROGRAM, IN A SANDBOX (cutbox-door.mjs). By AI agents, Wed Nov 11 2026. No macro, syntax, notation, axiom, sorry.
-/
import Derived.Test.YtdpapalfafjncaaGreatDoorRows
import GoSem.ClaimSeven
namespace Go.Proofs.YtdpapalfafjncaaGreatDoor
namespace Rows

/-- THE TIED CARD OF 'laws.FnExecuteHalf'. -/
def fnExecuteHalfCard : Claim7 := { stood := { row := fnExecuteHalfRow, standIns := [], harness := (true, "22f3b7fa6b0cf75564e8d95026c158fe9d0ece8e6cd82a5456dce1fe88067182"), looks := true }, kinds := [], alts := [], goes := true, laidByText := true, laidKinds := [.data, .data, .data, .data, .pinned], laidTests := true, laidLooks := .later }
def FnExecuteHalfCardSaid : Prop := Claim7.holds Tryz.pinned (.plain (OpenSpec.ofChange fnExecuteHalfSpec)) fnExecuteHalfCard

/-- THE TIED CARD OF 'laws.FnExecuteBins'. -/
def fnExecuteBinsCard : Claim7 := { stood := { row := fnExecuteBinsRow, standIns := [], harness := (true, "22f3b7fa6b0cf75564e8d95026c158fe9d0ece8e6cd82a5456dce1fe88067182"), looks := true }, kinds := [], alts := [], goes := true, laidByText := true, laidKinds := [.data, .data, .data, .data, .pinned], laidTests := true, laidLooks := .later }
def FnExecuteBinsCardSaid : Prop := Claim7.holds Tryz.pinned (.plain (OpenSpec.ofChange fnExecuteBinsSpec)) fnExecuteBinsCard

/-- THE SECOND FORM's CARD OF 'laws.FnExecuteHalf'. -/
def fnExecuteHalfUptoCard : Claim7 := { stood := { row := fnExecuteHalfUptoRow, standIns := [], harness := (true, "22f3b7fa6b0cf75564e8d95026c158fe9d0ece8e6cd82a5456dce1fe88067182"), looks := true }, kinds := [], alts := [], goes := true, laidByText := true, laidKinds := [.data, .data, .data, .data, .pinned], laidTests := true, laidLooks := .later }
def FnExecuteHalfUptoCardSaid : Prop := Claim7.holds Tryz.pinned (.plain (OpenSpec.upto fnExecuteHalfSpec)) fnExecuteHalfUptoCard

/-- THE SECOND FORM's CARD OF 'laws.FnExecuteBins'. -/
def fnExecuteBinsUptoCard : Claim7 := { stood := { row := fnExecuteBinsUptoRow, standIns := [], harness := (true, "22f3b7fa6b0cf75564e8d95026c158fe9d0ece8e6cd82a5456dce1fe88067182"), looks := true }, kinds := [], alts := [], goes := true, laidByText := true, laidKinds := [.data, .data, .data, .data, .pinned], laidTests := true, laidLooks := .later }
def FnExecuteBinsUptoCardSaid : Prop := Claim7.holds Tryz.pinned (.plain (OpenSpec.upto fnExecuteBinsSpec)) fnExecuteBinsUptoCard
end Rows
end Go.Proofs.YtdpapalfafjncaaGreatDoor
