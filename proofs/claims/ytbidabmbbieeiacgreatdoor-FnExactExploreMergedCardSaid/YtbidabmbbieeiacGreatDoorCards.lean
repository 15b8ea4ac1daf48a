/-
  DERIVED. GIVEN WITH THE SEED: THE CARDS: each row of YtbidabmbbieeiacGreatDoorRows.lean that lists a variable, with what it lists TIED to the program's text (the seventh form; the later family's looks); each row that meets fmt, with fmt's text TOLD by the authors' own Lean function (tested against real Go, not proved from fmt's source: count such statements apart). THE CARD IS WHAT COUNTS. Prove the row's statement (the work); the ties are given (YtbidabmbbieeiacGreatDoorTie.lean); close each card by the builder's one call (the guide's Derived/Test/ToyasCard.lean, 'card_holds'). Laid BY PROGRAM, IN A SANDBOX (cutbox-door.mjs). By AI agents, Wed Nov 11 2026. No macro, syntax, notation, axiom, sorry.
-/
import Derived.Test.YtbidabmbbieeiacGreatDoorRows
import GoSem.ClaimSeven
namespace Go.Proofs.YtbidabmbbieeiacGreatDoor
namespace Rows

/-- THE TIED CARD OF 'laws.FnExactExploreMerged'. -/
def fnExactExploreMergedCard : Claim7 := { stood := { row := fnExactExploreMergedRow, standIns := [], harness := (true, "24c34c4c8b7f0cf72ff314098a9804d4e2fdbfbca3b5dbe58b52f426b57da624"), looks := false }, kinds := [], alts := [], laidByText := true, laidKinds := [.data, .data, .data], laidTests := true, laidLooks := .later }
def FnExactExploreMergedCardSaid : Prop := Claim7.holds Tryz.pinned (.plain (OpenSpec.ofChange fnExactExploreMergedSpec)) fnExactExploreMergedCard

/-- THE SECOND FORM's CARD OF 'laws.FnExactExploreMerged'. -/
def fnExactExploreMergedUptoCard : Claim7 := { stood := { row := fnExactExploreMergedUptoRow, standIns := [], harness := (true, "24c34c4c8b7f0cf72ff314098a9804d4e2fdbfbca3b5dbe58b52f426b57da624"), looks := false }, kinds := [], alts := [], laidByText := true, laidKinds := [.data, .data, .data], laidTests := true, laidLooks := .later }
def FnExactExploreMergedUptoCardSaid : Prop := Claim7.holds Tryz.pinned (.plain (OpenSpec.upto fnExactExploreMergedSpec)) fnExactExploreMergedUptoCard
end Rows
end Go.Proofs.YtbidabmbbieeiacGreatDoor
