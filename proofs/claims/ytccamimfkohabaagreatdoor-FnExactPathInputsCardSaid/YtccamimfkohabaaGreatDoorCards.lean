/-
  DERIVED. GIVEN WITH THE SEED: THE CARDS: each row of YtccamimfkohabaaGreatDoorRows.lean that lists a variable, with what it lists TIED to the program's text (the seventh form; the later family's looks); each row that meets fmt, with fmt's text TOLD by the authors' own Lean function (tested against real Go, not proved from fmt's source: count such statements apart). THE CARD IS WHAT COUNTS. Prove the row's statement (the work); the ties are given (YtccamimfkohabaaGreatDoorTie.lean); close each card by the builder's one call (the guide's Derived/Test/ToyasCard.lean, 'card_holds'). Laid BY PROGRAM, IN A SANDBOX (cutbox-door.mjs). By AI agents, Wed Nov 11 2026. No macro, syntax, notation, axiom, sorry.
-/
import Derived.Test.YtccamimfkohabaaGreatDoorRows
import GoSem.ClaimSeven
namespace Go.Proofs.YtccamimfkohabaaGreatDoor
namespace Rows

/-- THE TIED CARD OF 'laws.FnExactPathInputs'. -/
def fnExactPathInputsCard : Claim7 := { stood := { row := fnExactPathInputsRow, standIns := [], harness := (true, "cf9d9ee5735d58464c2cdc7b614c73b123c48d7254ce489c1fcb6c512aeb98b0"), looks := false }, kinds := [], alts := [], laidByText := true, laidKinds := [.data, .data, .data], laidTests := true, laidLooks := .later }
def FnExactPathInputsCardSaid : Prop := Claim7.holds Tryz.pinned (.plain (OpenSpec.ofChange fnExactPathInputsSpec)) fnExactPathInputsCard

/-- THE SECOND FORM's CARD OF 'laws.FnExactPathInputs'. -/
def fnExactPathInputsUptoCard : Claim7 := { stood := { row := fnExactPathInputsUptoRow, standIns := [], harness := (true, "cf9d9ee5735d58464c2cdc7b614c73b123c48d7254ce489c1fcb6c512aeb98b0"), looks := false }, kinds := [], alts := [], laidByText := true, laidKinds := [.data, .data, .data], laidTests := true, laidLooks := .later }
def FnExactPathInputsUptoCardSaid : Prop := Claim7.holds Tryz.pinned (.plain (OpenSpec.upto fnExactPathInputsSpec)) fnExactPathInputsUptoCard
end Rows
end Go.Proofs.YtccamimfkohabaaGreatDoor
