/-
  DERIVED. GIVEN WITH THE SEED: THE CARDS: each row of YtjhiajehpjpibaaGreatDoorRows.lean that lists a variable, with what it lists TIED to the program's text (the seventh form; the later family's looks); each row that meets fmt, with fmt's text TOLD by the authors' own Lean function (tested against real Go, not proved from fmt's source: count such statements apart). THE CARD IS WHAT COUNTS. Prove the row's statement (the work); the ties are given (YtjhiajehpjpibaaGreatDoorTie.lean); close each card by the builder's one call (the guide's Derived/Test/ToyasCard.lean, 'card_holds'). Laid BY PROGRAM, IN A SANDBOX (cutbox-door.mjs). By AI agents, Wed Nov 11 2026. No macro, syntax, notation, axiom, sorry.
-/
import Derived.Test.YtjhiajehpjpibaaGreatDoorRows
import GoSem.ClaimSeven
namespace Go.Proofs.YtjhiajehpjpibaaGreatDoor
namespace Rows

/-- THE TIED CARD OF 'laws.FnExactTestsOf'. -/
def fnExactTestsOfCard : Claim7 := { stood := { row := fnExactTestsOfRow, standIns := [], harness := (true, "535340360038ecfd650a6bdddd90abc9497cecf9b2cc79cfc4fbe9bf82333379"), looks := false }, kinds := [], alts := [], laidByText := true, laidKinds := [.data, .data, .data], laidTests := true, laidLooks := .later }
def FnExactTestsOfCardSaid : Prop := Claim7.holds Tryz.pinned (.plain (OpenSpec.ofChange fnExactTestsOfSpec)) fnExactTestsOfCard

/-- THE SECOND FORM's CARD OF 'laws.FnExactTestsOf'. -/
def fnExactTestsOfUptoCard : Claim7 := { stood := { row := fnExactTestsOfUptoRow, standIns := [], harness := (true, "535340360038ecfd650a6bdddd90abc9497cecf9b2cc79cfc4fbe9bf82333379"), looks := false }, kinds := [], alts := [], laidByText := true, laidKinds := [.data, .data, .data], laidTests := true, laidLooks := .later }
def FnExactTestsOfUptoCardSaid : Prop := Claim7.holds Tryz.pinned (.plain (OpenSpec.upto fnExactTestsOfSpec)) fnExactTestsOfUptoCard
end Rows
end Go.Proofs.YtjhiajehpjpibaaGreatDoor
