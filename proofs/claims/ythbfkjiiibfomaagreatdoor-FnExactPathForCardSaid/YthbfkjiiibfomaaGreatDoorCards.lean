/-
  DERIVED. GIVEN WITH THE SEED: THE CARDS: each row of YthbfkjiiibfomaaGreatDoorRows.lean that lists a variable, with what it lists TIED to the program's text (the seventh form; the later family's looks); each row that meets fmt, with fmt's text TOLD by the authors' own Lean function (tested against real Go, not proved from fmt's source: count such statements apart). THE CARD IS WHAT COUNTS. Prove the row's statement (the work); the ties are given (YthbfkjiiibfomaaGreatDoorTie.lean); close each card by the builder's one call (the guide's Derived/Test/ToyasCard.lean, 'card_holds'). Laid BY PROGRAM, IN A SANDBOX (cutbox-door.mjs). By AI agents, Wed Nov 11 2026. No macro, syntax, notation, axiom, sorry.
-/
import Derived.Test.YthbfkjiiibfomaaGreatDoorRows
import GoSem.ClaimSeven
namespace Go.Proofs.YthbfkjiiibfomaaGreatDoor
namespace Rows

/-- THE TIED CARD OF 'laws.FnExactPathFor'. -/
def fnExactPathForCard : Claim7 := { stood := { row := fnExactPathForRow, standIns := [], harness := (true, "913fa2adbb6a3c0def5a5ce401ad23167d600a9b5c238f2158cb1ddb77dbb5f7"), looks := false }, kinds := [], alts := [], laidByText := true, laidKinds := [.data, .data, .data], laidTests := true, laidLooks := .later }
def FnExactPathForCardSaid : Prop := Claim7.holds Tryz.pinned (.plain (OpenSpec.ofChange fnExactPathForSpec)) fnExactPathForCard

/-- THE SECOND FORM's CARD OF 'laws.FnExactPathFor'. -/
def fnExactPathForUptoCard : Claim7 := { stood := { row := fnExactPathForUptoRow, standIns := [], harness := (true, "913fa2adbb6a3c0def5a5ce401ad23167d600a9b5c238f2158cb1ddb77dbb5f7"), looks := false }, kinds := [], alts := [], laidByText := true, laidKinds := [.data, .data, .data], laidTests := true, laidLooks := .later }
def FnExactPathForUptoCardSaid : Prop := Claim7.holds Tryz.pinned (.plain (OpenSpec.upto fnExactPathForSpec)) fnExactPathForUptoCard
end Rows
end Go.Proofs.YthbfkjiiibfomaaGreatDoor
