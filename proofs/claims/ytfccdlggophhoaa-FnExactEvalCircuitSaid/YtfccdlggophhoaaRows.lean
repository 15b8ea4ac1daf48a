/-
  No cell of these rows narrows 'for every input' (looked for: loops, veiled, ifaces, maps, wideKeys, modest, calm, conditions, laid).
  DERIVED. THE GIVEN ROWS OF THIS SEAT. 6 by the template 'for every input the law returns true; each argument reads behind the call as it read before'; 0 by the template 'total and deterministic' (their statements: YtfccdlggophhoaaTotals.lean).
  GIVEN WITH THE SEED: the statements are not yours to turn. If you find one false, say at which input.
  Laid BY PROGRAM, IN A SANDBOX (cutbox-rows.mjs): the forced cells as the released guide's own fill.sh prints them over the translation 8ed7dbc5e55e726c… (all of the seat's roots in one cut). By AI agents, Wed Nov 11 2026. No macro, syntax, notation, axiom, sorry.
-/
import Derived.Test.YtfccdlggophhoaaChecked
import GoSem.Claim
import GoSem.ClaimJoined
import GoSem.ClaimMapViews
import Derived.JoinedTies
import Derived.KernelRfl
namespace Go.Proofs.Ytfccdlggophhoaa
/- THE CELL 'sum', in the pinned program and in every row, IS THE sha256 OF THE DUMP (.gsa) THAT YtfccdlggophhoaaProg.lean LOADS. Nothing in Lean hashes anything: it is a label: what it is worth is what the hold of that sum in a sandbox is worth. -/
noncomputable def Try.pinned : Pinned := { name := "ytfccdlggophhoaa", sum := "8ed7dbc5e55e726cec205054a39760832490fcb80c70dc5e997f2b023ac2a029", checked := Try.checked }
namespace Rows
def none {H : Type} : Left H := { results := [], args := [] }

/-- 'laws.FnExactCodeName': WHATEVER THE INPUT: true; the input reads as it did. -/
def fnExactCodeNameSpec : ChangeSpec := { name := "fnExactCodeName", fn := fun _ => fun
  | [d] => { results := [.lit (.bool true)], args := [d] }
  | _ => none }
def fnExactCodeNameRow : OpenClaim := { program := "ytfccdlggophhoaa", sum := "8ed7dbc5e55e726cec205054a39760832490fcb80c70dc5e997f2b023ac2a029", func := "loop.example/g03219/laws.FnExactCodeName", spec := "fnExactCodeName", plainKeys := false, apart := false }
def FnExactCodeNameSaid : Prop := fnExactCodeNameRow.holds Try.pinned (OpenSpec.ofChange fnExactCodeNameSpec)

/-- ITS FALSE NEIGHBOUR: 'it returns false'. Refute it at one input. -/
def fnExactCodeNameWrong : ChangeSpec := { name := "fnExactCodeName", fn := fun _ => fun
  | [d] => { results := [.lit (.bool false)], args := [d] }
  | _ => none }
def FnExactCodeNameWrongFalsely : Prop := fnExactCodeNameRow.holds Try.pinned (OpenSpec.ofChange fnExactCodeNameWrong)

/-- 'laws.FnExactSameRun': WHATEVER THE INPUT: true; the input reads as it did. -/
def fnExactSameRunSpec : ChangeSpec := { name := "fnExactSameRun", fn := fun _ => fun
  | [d1, d2] => { results := [.lit (.bool true)], args := [d1, d2] }
  | _ => none }
def fnExactSameRunRow : OpenClaim := { program := "ytfccdlggophhoaa", sum := "8ed7dbc5e55e726cec205054a39760832490fcb80c70dc5e997f2b023ac2a029", func := "loop.example/g03219/laws.FnExactSameRun", spec := "fnExactSameRun", plainKeys := false, apart := false }
def FnExactSameRunSaid : Prop := fnExactSameRunRow.holds Try.pinned (OpenSpec.ofChange fnExactSameRunSpec)

/-- ITS FALSE NEIGHBOUR: 'it returns false'. Refute it at one input. -/
def fnExactSameRunWrong : ChangeSpec := { name := "fnExactSameRun", fn := fun _ => fun
  | [d1, d2] => { results := [.lit (.bool false)], args := [d1, d2] }
  | _ => none }
def FnExactSameRunWrongFalsely : Prop := fnExactSameRunRow.holds Try.pinned (OpenSpec.ofChange fnExactSameRunWrong)

/-- 'laws.FnExactCircuitOk': WHATEVER THE INPUT: true; the input reads as it did. -/
def fnExactCircuitOkSpec : ChangeSpec := { name := "fnExactCircuitOk", fn := fun _ => fun
  | [d] => { results := [.lit (.bool true)], args := [d] }
  | _ => none }
def fnExactCircuitOkRow : OpenClaim := { program := "ytfccdlggophhoaa", sum := "8ed7dbc5e55e726cec205054a39760832490fcb80c70dc5e997f2b023ac2a029", func := "loop.example/g03219/laws.FnExactCircuitOk", spec := "fnExactCircuitOk", plainKeys := false, apart := false }
def FnExactCircuitOkSaid : Prop := fnExactCircuitOkRow.holds Try.pinned (OpenSpec.ofChange fnExactCircuitOkSpec)

/-- ITS FALSE NEIGHBOUR: 'it returns false'. Refute it at one input. -/
def fnExactCircuitOkWrong : ChangeSpec := { name := "fnExactCircuitOk", fn := fun _ => fun
  | [d] => { results := [.lit (.bool false)], args := [d] }
  | _ => none }
def FnExactCircuitOkWrongFalsely : Prop := fnExactCircuitOkRow.holds Try.pinned (OpenSpec.ofChange fnExactCircuitOkWrong)

/-- 'laws.FnExactProgramOk': WHATEVER THE INPUT: true; the input reads as it did. -/
def fnExactProgramOkSpec : ChangeSpec := { name := "fnExactProgramOk", fn := fun _ => fun
  | [d] => { results := [.lit (.bool true)], args := [d] }
  | _ => none }
def fnExactProgramOkRow : OpenClaim := { program := "ytfccdlggophhoaa", sum := "8ed7dbc5e55e726cec205054a39760832490fcb80c70dc5e997f2b023ac2a029", func := "loop.example/g03219/laws.FnExactProgramOk", spec := "fnExactProgramOk", plainKeys := false, apart := false }
def FnExactProgramOkSaid : Prop := fnExactProgramOkRow.holds Try.pinned (OpenSpec.ofChange fnExactProgramOkSpec)

/-- ITS FALSE NEIGHBOUR: 'it returns false'. Refute it at one input. -/
def fnExactProgramOkWrong : ChangeSpec := { name := "fnExactProgramOk", fn := fun _ => fun
  | [d] => { results := [.lit (.bool false)], args := [d] }
  | _ => none }
def FnExactProgramOkWrongFalsely : Prop := fnExactProgramOkRow.holds Try.pinned (OpenSpec.ofChange fnExactProgramOkWrong)

/-- 'laws.FnExactEvalCircuit': WHATEVER THE INPUT: true; the input reads as it did. -/
def fnExactEvalCircuitSpec : ChangeSpec := { name := "fnExactEvalCircuit", fn := fun _ => fun
  | [d1, d2] => { results := [.lit (.bool true)], args := [d1, d2] }
  | _ => none }
def fnExactEvalCircuitRow : OpenClaim := { program := "ytfccdlggophhoaa", sum := "8ed7dbc5e55e726cec205054a39760832490fcb80c70dc5e997f2b023ac2a029", func := "loop.example/g03219/laws.FnExactEvalCircuit", spec := "fnExactEvalCircuit", plainKeys := false, apart := false }
def FnExactEvalCircuitSaid : Prop := fnExactEvalCircuitRow.holds Try.pinned (OpenSpec.ofChange fnExactEvalCircuitSpec)

/-- ITS FALSE NEIGHBOUR: 'it returns false'. Refute it at one input. -/
def fnExactEvalCircuitWrong : ChangeSpec := { name := "fnExactEvalCircuit", fn := fun _ => fun
  | [d1, d2] => { results := [.lit (.bool false)], args := [d1, d2] }
  | _ => none }
def FnExactEvalCircuitWrongFalsely : Prop := fnExactEvalCircuitRow.holds Try.pinned (OpenSpec.ofChange fnExactEvalCircuitWrong)

/-- 'laws.FnExactInputsOk': WHATEVER THE INPUT: true; the input reads as it did. -/
def fnExactInputsOkSpec : ChangeSpec := { name := "fnExactInputsOk", fn := fun _ => fun
  | [d1, d2] => { results := [.lit (.bool true)], args := [d1, d2] }
  | _ => none }
def fnExactInputsOkRow : OpenClaim := { program := "ytfccdlggophhoaa", sum := "8ed7dbc5e55e726cec205054a39760832490fcb80c70dc5e997f2b023ac2a029", func := "loop.example/g03219/laws.FnExactInputsOk", spec := "fnExactInputsOk", plainKeys := false, apart := false }
def FnExactInputsOkSaid : Prop := fnExactInputsOkRow.holds Try.pinned (OpenSpec.ofChange fnExactInputsOkSpec)

/-- ITS FALSE NEIGHBOUR: 'it returns false'. Refute it at one input. -/
def fnExactInputsOkWrong : ChangeSpec := { name := "fnExactInputsOk", fn := fun _ => fun
  | [d1, d2] => { results := [.lit (.bool false)], args := [d1, d2] }
  | _ => none }
def FnExactInputsOkWrongFalsely : Prop := fnExactInputsOkRow.holds Try.pinned (OpenSpec.ofChange fnExactInputsOkWrong)

/- THE SECOND FORM. 'bulk': how many values and letters a reading holds, each counted each time it is reached (what is shared counts as often as it is met; a slice's spare places count too). A statement '..UptoSaid' is the law's where the arguments, and the package variables that the reading takes, are together of bulk at most 1048576: NARROWER than '..Said'. Prove '..Said' where nothing that the law and all that it calls make is longer than what came in: it says more and counts as full. Else prove '..UptoSaid'. A law counts once. -/
mutual
def uptoBulk {H : Type} : DataW H → Nat
  | .lit (.string bytes) => bytes.length + 1
  | .lit _ => 1
  | .nil => 1
  | .ptr d => uptoBulk d + 1
  | .slice elems spare => uptoBulkAll elems + uptoBulkAll spare + 1
  | .agg parts => uptoBulkAll parts + 1
  | .iface _ d => uptoBulk d + 1
  | .map entries => uptoBulkEntries entries + 1
  | .held _ => 1
def uptoBulkAll {H : Type} : List (DataW H) → Nat
  | [] => 0
  | d :: r => uptoBulk d + uptoBulkAll r
def uptoBulkEntries {H : Type} : List (Lit × DataW H) → Nat
  | [] => 0
  | x :: r => uptoBulkEntry x + uptoBulkEntries r
def uptoBulkEntry {H : Type} : Lit × DataW H → Nat
  | (.string bytes, d) => bytes.length + uptoBulk d + 1
  | (_, d) => uptoBulk d + 1
 end
def uptoSmall : (H : Type) → List (DataW H) → Bool := fun _ ds => decide (uptoBulkAll ds ≤ 1048576)
def OpenSpec.upto (s : _root_.Go.ChangeSpec) : _root_.Go.OpenSpec := { _root_.Go.OpenSpec.ofChange s with cond := some uptoSmall }

/-- 'laws.FnExactCodeName', WHERE WHAT IT READS IS OF BULK AT MOST 1048576: true; the input reads as it did. -/
def fnExactCodeNameUptoRow : OpenClaim := { program := "ytfccdlggophhoaa", sum := "8ed7dbc5e55e726cec205054a39760832490fcb80c70dc5e997f2b023ac2a029", func := "loop.example/g03219/laws.FnExactCodeName", spec := "fnExactCodeName", plainKeys := false, apart := false, narrowed := true }
def FnExactCodeNameUptoSaid : Prop := fnExactCodeNameUptoRow.holds Try.pinned (OpenSpec.upto fnExactCodeNameSpec)

/-- 'laws.FnExactSameRun', WHERE WHAT IT READS IS OF BULK AT MOST 1048576: true; the input reads as it did. -/
def fnExactSameRunUptoRow : OpenClaim := { program := "ytfccdlggophhoaa", sum := "8ed7dbc5e55e726cec205054a39760832490fcb80c70dc5e997f2b023ac2a029", func := "loop.example/g03219/laws.FnExactSameRun", spec := "fnExactSameRun", plainKeys := false, apart := false, narrowed := true }
def FnExactSameRunUptoSaid : Prop := fnExactSameRunUptoRow.holds Try.pinned (OpenSpec.upto fnExactSameRunSpec)

/-- 'laws.FnExactCircuitOk', WHERE WHAT IT READS IS OF BULK AT MOST 1048576: true; the input reads as it did. -/
def fnExactCircuitOkUptoRow : OpenClaim := { program := "ytfccdlggophhoaa", sum := "8ed7dbc5e55e726cec205054a39760832490fcb80c70dc5e997f2b023ac2a029", func := "loop.example/g03219/laws.FnExactCircuitOk", spec := "fnExactCircuitOk", plainKeys := false, apart := false, narrowed := true }
def FnExactCircuitOkUptoSaid : Prop := fnExactCircuitOkUptoRow.holds Try.pinned (OpenSpec.upto fnExactCircuitOkSpec)

/-- 'laws.FnExactProgramOk', WHERE WHAT IT READS IS OF BULK AT MOST 1048576: true; the input reads as it did. -/
def fnExactProgramOkUptoRow : OpenClaim := { program := "ytfccdlggophhoaa", sum := "8ed7dbc5e55e726cec205054a39760832490fcb80c70dc5e997f2b023ac2a029", func := "loop.example/g03219/laws.FnExactProgramOk", spec := "fnExactProgramOk", plainKeys := false, apart := false, narrowed := true }
def FnExactProgramOkUptoSaid : Prop := fnExactProgramOkUptoRow.holds Try.pinned (OpenSpec.upto fnExactProgramOkSpec)

/-- 'laws.FnExactEvalCircuit', WHERE WHAT IT READS IS OF BULK AT MOST 1048576: true; the input reads as it did. -/
def fnExactEvalCircuitUptoRow : OpenClaim := { program := "ytfccdlggophhoaa", sum := "8ed7dbc5e55e726cec205054a39760832490fcb80c70dc5e997f2b023ac2a029", func := "loop.example/g03219/laws.FnExactEvalCircuit", spec := "fnExactEvalCircuit", plainKeys := false, apart := false, narrowed := true }
def FnExactEvalCircuitUptoSaid : Prop := fnExactEvalCircuitUptoRow.holds Try.pinned (OpenSpec.upto fnExactEvalCircuitSpec)

/-- 'laws.FnExactInputsOk', WHERE WHAT IT READS IS OF BULK AT MOST 1048576: true; the input reads as it did. -/
def fnExactInputsOkUptoRow : OpenClaim := { program := "ytfccdlggophhoaa", sum := "8ed7dbc5e55e726cec205054a39760832490fcb80c70dc5e997f2b023ac2a029", func := "loop.example/g03219/laws.FnExactInputsOk", spec := "fnExactInputsOk", plainKeys := false, apart := false, narrowed := true }
def FnExactInputsOkUptoSaid : Prop := fnExactInputsOkUptoRow.holds Try.pinned (OpenSpec.upto fnExactInputsOkSpec)

end Rows
end Go.Proofs.Ytfccdlggophhoaa
