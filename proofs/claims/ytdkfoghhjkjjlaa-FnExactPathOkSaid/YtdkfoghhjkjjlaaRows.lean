/-
  NARROWER THAN 'FOR EVERY INPUT', by the rows' own cells (each row's printed sentence says how): FnExactPathOk: loops · FnExactPathTerm: loops.
  DERIVED. THE GIVEN ROWS OF THIS SEAT. 3 by the template 'for every input the law returns true; each argument reads behind the call as it read before'; 0 by the template 'total and deterministic' (their statements: YtdkfoghhjkjjlaaTotals.lean).
  GIVEN WITH THE SEED: the statements are not yours to turn. If you find one false, say at which input.
  Laid BY PROGRAM, IN A SANDBOX (cutbox-rows.mjs): the forced cells as the released guide's own fill.sh prints them over the translation 026a0d57e11f2258… (all of the seat's roots in one cut). By AI agents, Wed Nov 11 2026. No macro, syntax, notation, axiom, sorry.
-/
import Derived.Test.YtdkfoghhjkjjlaaChecked
import GoSem.Claim
import GoSem.ClaimJoined
import GoSem.ClaimMapViews
import Derived.JoinedTies
import Derived.KernelRfl
namespace Go.Proofs.Ytdkfoghhjkjjlaa
/- THE CELL 'sum', in the pinned program and in every row, IS THE sha256 OF THE DUMP (.gsa) THAT YtdkfoghhjkjjlaaProg.lean LOADS. Nothing in Lean hashes anything: it is a label: what it is worth is what the hold of that sum in a sandbox is worth. -/
noncomputable def Try.pinned : Pinned := { name := "ytdkfoghhjkjjlaa", sum := "026a0d57e11f2258314d47c417f8a4490d124b037a13dc39a894b04844ab60b1", checked := Try.checked }
namespace Rows
def none {H : Type} : Left H := { results := [], args := [] }

/-- 'laws.FnFormulas': WHATEVER THE INPUT: true; the input reads as it did. -/
def fnFormulasSpec : ChangeSpec := { name := "fnFormulas", fn := fun _ => fun
  | [d] => { results := [.lit (.bool true)], args := [d] }
  | _ => none }
def fnFormulasRow : OpenClaim := { program := "ytdkfoghhjkjjlaa", sum := "026a0d57e11f2258314d47c417f8a4490d124b037a13dc39a894b04844ab60b1", func := "loop.example/g03219/laws.FnFormulas", spec := "fnFormulas", unfollowed := true, recurses := true, plainKeys := false, apart := false }
def FnFormulasSaid : Prop := fnFormulasRow.holds Try.pinned (OpenSpec.ofChange fnFormulasSpec)

/-- ITS FALSE NEIGHBOUR: 'it returns false'. Refute it at one input. -/
def fnFormulasWrong : ChangeSpec := { name := "fnFormulas", fn := fun _ => fun
  | [d] => { results := [.lit (.bool false)], args := [d] }
  | _ => none }
def FnFormulasWrongFalsely : Prop := fnFormulasRow.holds Try.pinned (OpenSpec.ofChange fnFormulasWrong)

/-- 'laws.FnExactPathOk': WHATEVER THE INPUT: true; the input reads as it did. -/
def fnExactPathOkSpec : ChangeSpec := { name := "fnExactPathOk", fn := fun _ => fun
  | [d1, d2] => { results := [.lit (.bool true)], args := [d1, d2] }
  | _ => none }
def fnExactPathOkRow : OpenClaim := { program := "ytdkfoghhjkjjlaa", sum := "026a0d57e11f2258314d47c417f8a4490d124b037a13dc39a894b04844ab60b1", func := "loop.example/g03219/laws.FnExactPathOk", spec := "fnExactPathOk", recurses := true, loops := true, plainKeys := false, apart := false }
def FnExactPathOkSaid : Prop := fnExactPathOkRow.holds Try.pinned (OpenSpec.ofChange fnExactPathOkSpec)

/-- ITS FALSE NEIGHBOUR: 'it returns false'. Refute it at one input. -/
def fnExactPathOkWrong : ChangeSpec := { name := "fnExactPathOk", fn := fun _ => fun
  | [d1, d2] => { results := [.lit (.bool false)], args := [d1, d2] }
  | _ => none }
def FnExactPathOkWrongFalsely : Prop := fnExactPathOkRow.holds Try.pinned (OpenSpec.ofChange fnExactPathOkWrong)

/-- 'laws.FnExactPathTerm': WHATEVER THE INPUT: true; the input reads as it did. -/
def fnExactPathTermSpec : ChangeSpec := { name := "fnExactPathTerm", fn := fun _ => fun
  | [d] => { results := [.lit (.bool true)], args := [d] }
  | _ => none }
def fnExactPathTermRow : OpenClaim := { program := "ytdkfoghhjkjjlaa", sum := "026a0d57e11f2258314d47c417f8a4490d124b037a13dc39a894b04844ab60b1", func := "loop.example/g03219/laws.FnExactPathTerm", spec := "fnExactPathTerm", inPlace := ["internal/bytealg.abigen_runtime_cmpstring"], recurses := true, loops := true, plainKeys := false, apart := false }
def FnExactPathTermSaid : Prop := fnExactPathTermRow.holds Try.pinned (OpenSpec.ofChange fnExactPathTermSpec)

/-- ITS FALSE NEIGHBOUR: 'it returns false'. Refute it at one input. -/
def fnExactPathTermWrong : ChangeSpec := { name := "fnExactPathTerm", fn := fun _ => fun
  | [d] => { results := [.lit (.bool false)], args := [d] }
  | _ => none }
def FnExactPathTermWrongFalsely : Prop := fnExactPathTermRow.holds Try.pinned (OpenSpec.ofChange fnExactPathTermWrong)

/- THE SECOND FORM. 'bulk': how many values and letters a reading holds, each counted each time it is reached (what is shared counts as often as it is met; a slice's spare places count too). A statement '..UptoSaid' is the law's where the arguments, and the package variables that the reading takes, are together of bulk at most 1048576: NARROWER than '..Said'. Prove '..Said' where nothing that the law and all that it calls make is longer than what came in: it says more and counts as full. Else prove '..UptoSaid'. A law counts once. -/
mutual
def uptoBulk {H : Type} : DataW H → Nat
  | .lit (.string bytes) => bytes.length + 1
  | .lit _ => 1
  | .nil => 1
  | .ptr d => uptoBulk d + 1
  | .slice elems spare => uptoBulkAll elems + uptoBulkAll spare + 1
  | .agg parts => uptoBulkAll parts + 1
  | .iface _ d => uptoBulk d + 1
  | .map entries => uptoBulkEntries entries + 1
  | .held _ => 1
def uptoBulkAll {H : Type} : List (DataW H) → Nat
  | [] => 0
  | d :: r => uptoBulk d + uptoBulkAll r
def uptoBulkEntries {H : Type} : List (Lit × DataW H) → Nat
  | [] => 0
  | x :: r => uptoBulkEntry x + uptoBulkEntries r
def uptoBulkEntry {H : Type} : Lit × DataW H → Nat
  | (.string bytes, d) => bytes.length + uptoBulk d + 1
  | (_, d) => uptoBulk d + 1
 end
def uptoSmall : (H : Type) → List (DataW H) → Bool := fun _ ds => decide (uptoBulkAll ds ≤ 1048576)
def OpenSpec.upto (s : _root_.Go.ChangeSpec) : _root_.Go.OpenSpec := { _root_.Go.OpenSpec.ofChange s with cond := some uptoSmall }

/-- 'laws.FnFormulas', WHERE WHAT IT READS IS OF BULK AT MOST 1048576: true; the input reads as it did. -/
def fnFormulasUptoRow : OpenClaim := { program := "ytdkfoghhjkjjlaa", sum := "026a0d57e11f2258314d47c417f8a4490d124b037a13dc39a894b04844ab60b1", func := "loop.example/g03219/laws.FnFormulas", spec := "fnFormulas", unfollowed := true, recurses := true, plainKeys := false, apart := false, narrowed := true }
def FnFormulasUptoSaid : Prop := fnFormulasUptoRow.holds Try.pinned (OpenSpec.upto fnFormulasSpec)

/-- 'laws.FnExactPathOk', WHERE WHAT IT READS IS OF BULK AT MOST 1048576: true; the input reads as it did. -/
def fnExactPathOkUptoRow : OpenClaim := { program := "ytdkfoghhjkjjlaa", sum := "026a0d57e11f2258314d47c417f8a4490d124b037a13dc39a894b04844ab60b1", func := "loop.example/g03219/laws.FnExactPathOk", spec := "fnExactPathOk", recurses := true, loops := true, plainKeys := false, apart := false, narrowed := true }
def FnExactPathOkUptoSaid : Prop := fnExactPathOkUptoRow.holds Try.pinned (OpenSpec.upto fnExactPathOkSpec)

/-- 'laws.FnExactPathTerm', WHERE WHAT IT READS IS OF BULK AT MOST 1048576: true; the input reads as it did. -/
def fnExactPathTermUptoRow : OpenClaim := { program := "ytdkfoghhjkjjlaa", sum := "026a0d57e11f2258314d47c417f8a4490d124b037a13dc39a894b04844ab60b1", func := "loop.example/g03219/laws.FnExactPathTerm", spec := "fnExactPathTerm", inPlace := ["internal/bytealg.abigen_runtime_cmpstring"], recurses := true, loops := true, plainKeys := false, apart := false, narrowed := true }
def FnExactPathTermUptoSaid : Prop := fnExactPathTermUptoRow.holds Try.pinned (OpenSpec.upto fnExactPathTermSpec)

end Rows
end Go.Proofs.Ytdkfoghhjkjjlaa
