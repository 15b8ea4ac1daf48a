/-
  DERIVED. GIVEN WITH THE SEED: THE CARDS: each row of YtmhljhkhmdkdhaaGreatDoorRows.lean that lists a variable, with what it lists TIED to the program's text (the seventh form; the later family's looks); each row that meets fmt, with fmt's text TOLD by the authors' own Lean function (tested against real Go, not proved from fmt's source: count such statements apart). THE CARD IS WHAT COUNTS. Prove the row's statement (the work); the ties are given (YtmhljhkhmdkdhaaGreatDoorTie.lean); close each card by the builder's one call (the guide's Derived/Test/ToyasCard.lean, 'card_holds'). Laid BY PROGRAM, IN A SANDBOX (cutbox-door.mjs). By AI agents, Wed Nov 11 2026. No macro, syntax, notation, axiom, sorry.
-/
import Derived.Test.YtmhljhkhmdkdhaaGreatDoorRows
import GoSem.ClaimSeven
namespace Go.Proofs.YtmhljhkhmdkdhaaGreatDoor
namespace Rows

/-- THE TIED CARD OF 'laws.FnPathFor'. -/
def fnPathForCard : Claim7 := { stood := { row := fnPathForRow, standIns := [], harness := (true, "bdd5c22478d73a3adb860640f7cdd8da2f71c4ffbbab51a93a3c864844be898d"), looks := false }, kinds := [], alts := [], laidByText := true, laidKinds := [.data, .data, .data], laidTests := true, laidLooks := .later }
def FnPathForCardSaid : Prop := Claim7.holds Tryz.pinned (.plain (OpenSpec.ofChange fnPathForSpec)) fnPathForCard

/-- THE SECOND FORM's CARD OF 'laws.FnPathFor'. -/
def fnPathForUptoCard : Claim7 := { stood := { row := fnPathForUptoRow, standIns := [], harness := (true, "bdd5c22478d73a3adb860640f7cdd8da2f71c4ffbbab51a93a3c864844be898d"), looks := false }, kinds := [], alts := [], laidByText := true, laidKinds := [.data, .data, .data], laidTests := true, laidLooks := .later }
def FnPathForUptoCardSaid : Prop := Claim7.holds Tryz.pinned (.plain (OpenSpec.upto fnPathForSpec)) fnPathForUptoCard
end Rows
end Go.Proofs.YtmhljhkhmdkdhaaGreatDoor
