/-
  DERIVED. GIVEN WITH THE SEED: THE CARDS: each row of YtmmhbhhcloobnaaDoorRows.lean that lists a variable, with what it lists TIED to the program's text (the seventh form; the later family's looks); each row that meets fmt, with fmt's text TOLD by the authors' own Lean function (tested against real Go, not proved from fmt's source: count such statements apart). THE CARD IS WHAT COUNTS. Prove the row's statement (the work); the ties are given (YtmmhbhhcloobnaaDoorTie.lean); close each card by the builder's one call (the guide's Derived/Test/ToyasCard.lean, 'card_holds'). Laid BY PROGRAM, IN A SANDBOX (cutbox-door.mjs). By AI agents, Wed Nov 11 2026. No macro, syntax, notation, axiom, sorry.
-/
import Derived.Test.YtmmhbhhcloobnaaDoorRows
import GoSem.ClaimSeven
namespace Go.Proofs.YtmmhbhhcloobnaaDoor
namespace Rows

/-- THE TIED CARD OF 'laws.FnExactFormatIns'. -/
def fnExactFormatInsCard : Claim7 := { stood := { row := fnExactFormatInsRow, standIns := [], harness := (true, "3f40c373f6eb2472ef6ef9bf1af31b2792f37ee81386a50d5edbda33aa95e87a"), looks := true }, kinds := [], alts := [], laidByText := true, laidKinds := [.data, .data, .data], laidTests := true, laidLooks := .later }
def FnExactFormatInsCardSaid : Prop := Claim7.holds Tryd.pinned (.plain (OpenSpec.ofChange fnExactFormatInsSpec)) fnExactFormatInsCard

/-- THE TIED CARD OF 'laws.FnExactFormatProgram'. -/
def fnExactFormatProgramCard : Claim7 := { stood := { row := fnExactFormatProgramRow, standIns := [], harness := (true, "3f40c373f6eb2472ef6ef9bf1af31b2792f37ee81386a50d5edbda33aa95e87a"), looks := true }, kinds := [], alts := [], laidByText := true, laidKinds := [.data, .data, .data], laidTests := true, laidLooks := .later }
def FnExactFormatProgramCardSaid : Prop := Claim7.holds Tryd.pinned (.plain (OpenSpec.ofChange fnExactFormatProgramSpec)) fnExactFormatProgramCard

/-- THE TIED CARD OF 'laws.FnExactParseIns'. -/
def fnExactParseInsCard : Claim7 := { stood := { row := fnExactParseInsRow, standIns := [], harness := (true, "3f40c373f6eb2472ef6ef9bf1af31b2792f37ee81386a50d5edbda33aa95e87a"), looks := true }, kinds := [], alts := [], laidByText := true, laidKinds := [.data, .data, .data, .data, .sentinel, .sentinel, .pinned], laidTests := true, laidLooks := .later }
def FnExactParseInsCardSaid : Prop := Claim7.holds Tryd.pinned (.plain (OpenSpec.ofChange fnExactParseInsSpec)) fnExactParseInsCard

/-- THE TIED CARD OF 'laws.FnExactParseFormula'. -/
def fnExactParseFormulaCard : Claim7 := { stood := { row := fnExactParseFormulaRow, standIns := [], harness := (true, "3f40c373f6eb2472ef6ef9bf1af31b2792f37ee81386a50d5edbda33aa95e87a"), looks := true }, kinds := [], alts := [], laidByText := true, laidKinds := [.data, .data, .data, .data, .sentinel, .sentinel, .pinned], laidTests := true, laidLooks := .later }
def FnExactParseFormulaCardSaid : Prop := Claim7.holds Tryd.pinned (.plain (OpenSpec.ofChange fnExactParseFormulaSpec)) fnExactParseFormulaCard

/-- THE SECOND FORM's CARD OF 'laws.FnExactFormatIns'. -/
def fnExactFormatInsUptoCard : Claim7 := { stood := { row := fnExactFormatInsUptoRow, standIns := [], harness := (true, "3f40c373f6eb2472ef6ef9bf1af31b2792f37ee81386a50d5edbda33aa95e87a"), looks := true }, kinds := [], alts := [], laidByText := true, laidKinds := [.data, .data, .data], laidTests := true, laidLooks := .later }
def FnExactFormatInsUptoCardSaid : Prop := Claim7.holds Tryd.pinned (.plain (OpenSpec.upto fnExactFormatInsSpec)) fnExactFormatInsUptoCard

/-- THE SECOND FORM's CARD OF 'laws.FnExactFormatProgram'. -/
def fnExactFormatProgramUptoCard : Claim7 := { stood := { row := fnExactFormatProgramUptoRow, standIns := [], harness := (true, "3f40c373f6eb2472ef6ef9bf1af31b2792f37ee81386a50d5edbda33aa95e87a"), looks := true }, kinds := [], alts := [], laidByText := true, laidKinds := [.data, .data, .data], laidTests := true, laidLooks := .later }
def FnExactFormatProgramUptoCardSaid : Prop := Claim7.holds Tryd.pinned (.plain (OpenSpec.upto fnExactFormatProgramSpec)) fnExactFormatProgramUptoCard

/-- THE SECOND FORM's CARD OF 'laws.FnExactParseIns'. -/
def fnExactParseInsUptoCard : Claim7 := { stood := { row := fnExactParseInsUptoRow, standIns := [], harness := (true, "3f40c373f6eb2472ef6ef9bf1af31b2792f37ee81386a50d5edbda33aa95e87a"), looks := true }, kinds := [], alts := [], laidByText := true, laidKinds := [.data, .data, .data, .data, .sentinel, .sentinel, .pinned], laidTests := true, laidLooks := .later }
def FnExactParseInsUptoCardSaid : Prop := Claim7.holds Tryd.pinned (.plain (OpenSpec.upto fnExactParseInsSpec)) fnExactParseInsUptoCard

/-- THE SECOND FORM's CARD OF 'laws.FnExactParseFormula'. -/
def fnExactParseFormulaUptoCard : Claim7 := { stood := { row := fnExactParseFormulaUptoRow, standIns := [], harness := (true, "3f40c373f6eb2472ef6ef9bf1af31b2792f37ee81386a50d5edbda33aa95e87a"), looks := true }, kinds := [], alts := [], laidByText := true, laidKinds := [.data, .data, .data, .data, .sentinel, .sentinel, .pinned], laidTests := true, laidLooks := .later }
def FnExactParseFormulaUptoCardSaid : Prop := Claim7.holds Tryd.pinned (.plain (OpenSpec.upto fnExactParseFormulaSpec)) fnExactParseFormulaUptoCard
end Rows
end Go.Proofs.YtmmhbhhcloobnaaDoor
