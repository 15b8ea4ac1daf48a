/-
  DERIVED. GIVEN WITH THE SEED: THE CARDS: each row of YtginipeibmnikaaGreatDoorRows.lean that lists a variable, with what it lists TIED to the program's text (the seventh form; the later family's looks); each row that meets fmt, with fmt's text TOLD by the authors' own Lean function (tested against real Go, not proved from fmt's source: count such statements apart). THE CARD IS WHAT COUNTS. Prove the row's statement (the work); the ties are given (YtginipeibmnikaaGreatDoorTie.lean); close each card by the builder's one call (the guide's Derived/Test/ToyasCard.lean, 'card_holds'). Laid BY PROGRAM, IN A SANDBOX (cutbox-door.mjs). By AI agents, Wed Nov 11 2026. No macro, syntax, notation, axiom, sorry.
-/
import Derived.Test.YtginipeibmnikaaGreatDoorRows
import GoSem.ClaimSeven
namespace Go.Proofs.YtginipeibmnikaaGreatDoor
namespace Rows

/-- THE TIED CARD OF 'laws.FnExactPathWith'. -/
def fnExactPathWithCard : Claim7 := { stood := { row := fnExactPathWithRow, standIns := [], harness := (true, "5c00673ab51a4f93fca16ab0b22e3a0df4db8843de5b96ac0e81230660be221b"), looks := false }, kinds := [], alts := [], laidByText := true, laidKinds := [.data, .data, .data], laidTests := true, laidLooks := .later }
def FnExactPathWithCardSaid : Prop := Claim7.holds Tryz.pinned (.plain (OpenSpec.ofChange fnExactPathWithSpec)) fnExactPathWithCard

/-- THE TIED CARD OF 'laws.FnExactStepPath'. -/
def fnExactStepPathCard : Claim7 := { stood := { row := fnExactStepPathRow, standIns := [], harness := (true, "5c00673ab51a4f93fca16ab0b22e3a0df4db8843de5b96ac0e81230660be221b"), looks := false }, kinds := [], alts := [], laidByText := true, laidKinds := [.data, .data, .data], laidTests := true, laidLooks := .later }
def FnExactStepPathCardSaid : Prop := Claim7.holds Tryz.pinned (.plain (OpenSpec.ofChange fnExactStepPathSpec)) fnExactStepPathCard

/-- THE SECOND FORM's CARD OF 'laws.FnExactPathWith'. -/
def fnExactPathWithUptoCard : Claim7 := { stood := { row := fnExactPathWithUptoRow, standIns := [], harness := (true, "5c00673ab51a4f93fca16ab0b22e3a0df4db8843de5b96ac0e81230660be221b"), looks := false }, kinds := [], alts := [], laidByText := true, laidKinds := [.data, .data, .data], laidTests := true, laidLooks := .later }
def FnExactPathWithUptoCardSaid : Prop := Claim7.holds Tryz.pinned (.plain (OpenSpec.upto fnExactPathWithSpec)) fnExactPathWithUptoCard

/-- THE SECOND FORM's CARD OF 'laws.FnExactStepPath'. -/
def fnExactStepPathUptoCard : Claim7 := { stood := { row := fnExactStepPathUptoRow, standIns := [], harness := (true, "5c00673ab51a4f93fca16ab0b22e3a0df4db8843de5b96ac0e81230660be221b"), looks := false }, kinds := [], alts := [], laidByText := true, laidKinds := [.data, .data, .data], laidTests := true, laidLooks := .later }
def FnExactStepPathUptoCardSaid : Prop := Claim7.holds Tryz.pinned (.plain (OpenSpec.upto fnExactStepPathSpec)) fnExactStepPathUptoCard
end Rows
end Go.Proofs.YtginipeibmnikaaGreatDoor
