/-
  DERIVED. GIVEN WITH THE SEED: THE CARDS: each row of YtoeboeihendiiaaGreatDoorRows.lean that lists a variable, with what it lists TIED to the program's text (the seventh form; the later family's looks); each row that meets fmt, with fmt's text TOLD by the authors' own Lean function (tested against real Go, not proved from fmt's source: count such statements apart). THE CARD IS WHAT COUNTS. Prove the row's statement (the work); the ties are given (YtoeboeihendiiaaGreatDoorTie.lean); close each card by the builder's one call (the guide's Derived/Test/ToyasCard.lean, 'card_holds'). Laid BY PROGRAM, IN A SANDBOX (cutbox-door.mjs). By AI agents, Wed Nov 11 2026. No macro, syntax, notation, axiom, sorry.
-/
import Derived.Test.YtoeboeihendiiaaGreatDoorRows
import GoSem.ClaimSeven
namespace Go.Proofs.YtoeboeihendiiaaGreatDoor
namespace Rows

/-- THE TIED CARD OF 'firebreaklaw24.LinesNames'. -/
def linesNamesCard : Claim7 := { stood := { row := linesNamesRow, standIns := [], harness := (true, "aca2e293942ebaf7683bb54822b9028a6a91bcae559c35211be3340cd3fcbe58"), looks := true }, kinds := [], alts := [], laidByText := true, laidKinds := [.data, .data, .widerDeep, .widerDeep, .data, .data, .data, .data, .data, .data, .sentinel, .sentinel, .pinned, .pinned, .pinned], laidTests := true, laidLooks := .later }
def LinesNamesCardSaid : Prop := Claim7.holds Tryz.pinned (.plain (OpenSpec.ofChange linesNamesSpec)) linesNamesCard

/-- THE SECOND FORM's CARD OF 'firebreaklaw24.LinesNames'. -/
def linesNamesUptoCard : Claim7 := { stood := { row := linesNamesUptoRow, standIns := [], harness := (true, "aca2e293942ebaf7683bb54822b9028a6a91bcae559c35211be3340cd3fcbe58"), looks := true }, kinds := [], alts := [], laidByText := true, laidKinds := [.data, .data, .widerDeep, .widerDeep, .data, .data, .data, .data, .data, .data, .sentinel, .sentinel, .pinned, .pinned, .pinned], laidTests := true, laidLooks := .later }
def LinesNamesUptoCardSaid : Prop := Claim7.holds Tryz.pinned (.plain (OpenSpec.upto linesNamesSpec)) linesNamesUptoCard
end Rows
end Go.Proofs.YtoeboeihendiiaaGreatDoor
