/-
  DERIVED. GIVEN WITH THE SEED: THE CARDS: each row of YtmggcfilkiklbaaDoorRows.lean that lists a variable, with what it lists TIED to the program's text (the seventh form; the later family's looks); each row that meets fmt, with fmt's text TOLD by the authors' own Lean function (tested against real Go, not proved from fmt's source: count such statements apart). THE CARD IS WHAT COUNTS. Prove the row's statement (the work); the ties are given (YtmggcfilkiklbaaDoorTie.lean); close each card by the builder's one call (the guide's Derived/Test/ToyasCard.lean, 'card_holds'). Laid BY PROGRAM, IN A SANDBOX (cutbox-door.mjs). By AI agents, Wed Nov 11 2026. No macro, syntax, notation, axiom, sorry.
-/
import Derived.Test.YtmggcfilkiklbaaDoorRows
import GoSem.ClaimSeven
namespace Go.Proofs.YtmggcfilkiklbaaDoor
namespace Rows

/-- THE TIED CARD OF 'laws.FnPanSides'. -/
def fnPanSidesCard : Claim7 := { stood := { row := fnPanSidesRow, standIns := [], harness := (true, "9da302f50fac659cc3a0b4b87c6d377b977fd219b6a26ac3f06f79fc89e08c0a"), looks := true }, kinds := [], alts := [], laidByText := true, laidKinds := [.handle], laidTests := true, laidLooks := .later }
def FnPanSidesCardSaid : Prop := Claim7.holds Tryd.pinned (.plain (OpenSpec.ofChange fnPanSidesSpec)) fnPanSidesCard

/-- THE TIED CARD OF 'laws.FnWeighed'. -/
def fnWeighedCard : Claim7 := { stood := { row := fnWeighedRow, standIns := [], harness := (true, "9da302f50fac659cc3a0b4b87c6d377b977fd219b6a26ac3f06f79fc89e08c0a"), looks := true }, kinds := [], alts := [], laidByText := true, laidKinds := [.handle], laidTests := true, laidLooks := .later }
def FnWeighedCardSaid : Prop := Claim7.holds Tryd.pinned (.plain (OpenSpec.ofChange fnWeighedSpec)) fnWeighedCard

/-- THE SECOND FORM's CARD OF 'laws.FnPanSides'. -/
def fnPanSidesUptoCard : Claim7 := { stood := { row := fnPanSidesUptoRow, standIns := [], harness := (true, "9da302f50fac659cc3a0b4b87c6d377b977fd219b6a26ac3f06f79fc89e08c0a"), looks := true }, kinds := [], alts := [], laidByText := true, laidKinds := [.handle], laidTests := true, laidLooks := .later }
def FnPanSidesUptoCardSaid : Prop := Claim7.holds Tryd.pinned (.plain (OpenSpec.upto fnPanSidesSpec)) fnPanSidesUptoCard

/-- THE SECOND FORM's CARD OF 'laws.FnWeighed'. -/
def fnWeighedUptoCard : Claim7 := { stood := { row := fnWeighedUptoRow, standIns := [], harness := (true, "9da302f50fac659cc3a0b4b87c6d377b977fd219b6a26ac3f06f79fc89e08c0a"), looks := true }, kinds := [], alts := [], laidByText := true, laidKinds := [.handle], laidTests := true, laidLooks := .later }
def FnWeighedUptoCardSaid : Prop := Claim7.holds Tryd.pinned (.plain (OpenSpec.upto fnWeighedSpec)) fnWeighedUptoCard
end Rows
end Go.Proofs.YtmggcfilkiklbaaDoor
