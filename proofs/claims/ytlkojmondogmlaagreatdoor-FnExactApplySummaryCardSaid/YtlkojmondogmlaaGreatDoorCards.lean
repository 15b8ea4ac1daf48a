/-
  DERIVED. GIVEN WITH THE SEED: THE CARDS: each row of YtlkojmondogmlaaGreatDoorRows.lean that lists a variable, with what it lists TIED to the program's text (the seventh form; the later family's looks); each row that meets fmt, with fmt's text TOLD by the authors' own Lean function (tested against real Go, not proved from fmt's source: count such statements apart). THE CARD IS WHAT COUNTS. Prove the row's statement (the work); the ties are given (YtlkojmondogmlaaGreatDoorTie.lean); close each card by the builder's one call (the guide's Derived/Test/ToyasCard.lean, 'card_holds'). Laid BY PROGRAM, IN A SANDBOX (cutbox-door.mjs). By AI agents, Wed Nov 11 2026. No macro, syntax, notation, axiom, sorry.
-/
import Derived.Test.YtlkojmondogmlaaGreatDoorRows
import GoSem.ClaimSeven
namespace Go.Proofs.YtlkojmondogmlaaGreatDoor
namespace Rows

/-- THE TIED CARD OF 'laws.FnExactApplySummary'. -/
def fnExactApplySummaryCard : Claim7 := { stood := { row := fnExactApplySummaryRow, standIns := [], harness := (true, "bdb10d90117cc8b2971aaffcdf669aec438e8b598d10951f45688e57c49f7a1e"), looks := false }, kinds := [], alts := [], laidByText := true, laidKinds := [.data, .data, .data], laidTests := true, laidLooks := .later }
def FnExactApplySummaryCardSaid : Prop := Claim7.holds Tryz.pinned (.plain (OpenSpec.ofChange fnExactApplySummarySpec)) fnExactApplySummaryCard

/-- THE SECOND FORM's CARD OF 'laws.FnExactApplySummary'. -/
def fnExactApplySummaryUptoCard : Claim7 := { stood := { row := fnExactApplySummaryUptoRow, standIns := [], harness := (true, "bdb10d90117cc8b2971aaffcdf669aec438e8b598d10951f45688e57c49f7a1e"), looks := false }, kinds := [], alts := [], laidByText := true, laidKinds := [.data, .data, .data], laidTests := true, laidLooks := .later }
def FnExactApplySummaryUptoCardSaid : Prop := Claim7.holds Tryz.pinned (.plain (OpenSpec.upto fnExactApplySummarySpec)) fnExactApplySummaryUptoCard
end Rows
end Go.Proofs.YtlkojmondogmlaaGreatDoor
