/-
  DERIVED. GIVEN WITH THE SEED: THE CARDS: each row of YtbidabmbbieeiabGreatDoorRows.lean that lists a variable, with what it lists TIED to the program's text (the seventh form; the later family's looks); each row that meets fmt, with fmt's text TOLD by the authors' own Lean function (tested against real Go, not proved from fmt's source: count such statements apart). THE CARD IS WHAT COUNTS. Prove the row's statement (the work); the ties are given (YtbidabmbbieeiabGreatDoorTie.lean); close each card by the builder's one call (the guide's Derived/Test/ToyasCard.lean, 'card_holds'). Laid BY PROGRAM, IN A SANDBOX (cutbox-door.mjs). By AI agents, Wed Nov 11 2026. No macro, syntax, notation, axiom, sorry.
-/
import Derived.Test.YtbidabmbbieeiabGreatDoorRows
import GoSem.ClaimSeven
namespace Go.Proofs.YtbidabmbbieeiabGreatDoor
namespace Rows

/-- THE TIED CARD OF 'laws.FnExactSummaryOf'. -/
def fnExactSummaryOfCard : Claim7 := { stood := { row := fnExactSummaryOfRow, standIns := [], harness := (true, "630a6e720e0e6eb747e4938c0b2e9eb9a341acc5bd2f7ec14450ad2043f13c45"), looks := false }, kinds := [], alts := [], laidByText := true, laidKinds := [.data, .data, .data], laidTests := true, laidLooks := .later }
def FnExactSummaryOfCardSaid : Prop := Claim7.holds Tryz.pinned (.plain (OpenSpec.ofChange fnExactSummaryOfSpec)) fnExactSummaryOfCard

/-- THE SECOND FORM's CARD OF 'laws.FnExactSummaryOf'. -/
def fnExactSummaryOfUptoCard : Claim7 := { stood := { row := fnExactSummaryOfUptoRow, standIns := [], harness := (true, "630a6e720e0e6eb747e4938c0b2e9eb9a341acc5bd2f7ec14450ad2043f13c45"), looks := false }, kinds := [], alts := [], laidByText := true, laidKinds := [.data, .data, .data], laidTests := true, laidLooks := .later }
def FnExactSummaryOfUptoCardSaid : Prop := Claim7.holds Tryz.pinned (.plain (OpenSpec.upto fnExactSummaryOfSpec)) fnExactSummaryOfUptoCard
end Rows
end Go.Proofs.YtbidabmbbieeiabGreatDoor
