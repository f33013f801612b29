/-
  DERIVED. GIVEN WITH THE SEED: THE CARDS: each row of YtkelfbakcpidjaaGreatDoorRows.lean that lists a variable, with what it lists TIED to the program's text (the seventh form; the later family's looks); each row that meets fmt, with fmt's text TOLD by the authors' own Lean function (tested against real Go, not proved from fmt's source: count such statements apart). THE CARD IS WHAT COUNTS. Prove the row's statement (the work); the ties are given (YtkelfbakcpidjaaGreatDoorTie.lean); close each card by the builder's one call (the guide's Derived/Test/ToyasCard.lean, 'card_holds'). Laid BY PROGRAM, IN A SANDBOX (cutbox-door.mjs). By AI agents, Wed Nov 11 2026. No macro, syntax, notation, axiom, sorry.
-/
import Derived.Test.YtkelfbakcpidjaaGreatDoorRows
import GoSem.ClaimSeven
namespace Go.Proofs.YtkelfbakcpidjaaGreatDoor
namespace Rows

/-- THE TIED CARD OF 'enthymemelaw24.AxiomNames'. -/
def axiomNamesCard : Claim7 := { stood := { row := axiomNamesRow, standIns := [], harness := (true, "552136153fb8541c96032ccdbcd6513aaf632997ee3272967f055fc83cdee19f"), looks := false }, kinds := [], alts := [], laidByText := true, laidKinds := [.data, .data, .data, .data], laidTests := true, laidLooks := .later }
def AxiomNamesCardSaid : Prop := Claim7.holds Tryz.pinned (.plain (OpenSpec.ofChange axiomNamesSpec)) axiomNamesCard

/-- THE SECOND FORM's CARD OF 'enthymemelaw24.AxiomNames'. -/
def axiomNamesUptoCard : Claim7 := { stood := { row := axiomNamesUptoRow, standIns := [], harness := (true, "552136153fb8541c96032ccdbcd6513aaf632997ee3272967f055fc83cdee19f"), looks := false }, kinds := [], alts := [], laidByText := true, laidKinds := [.data, .data, .data, .data], laidTests := true, laidLooks := .later }
def AxiomNamesUptoCardSaid : Prop := Claim7.holds Tryz.pinned (.plain (OpenSpec.upto axiomNamesSpec)) axiomNamesUptoCard
end Rows
end Go.Proofs.YtkelfbakcpidjaaGreatDoor
