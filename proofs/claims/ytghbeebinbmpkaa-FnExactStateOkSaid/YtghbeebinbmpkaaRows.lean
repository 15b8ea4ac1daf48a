/-
  NARROWER THAN 'FOR EVERY INPUT', by the rows' own cells (each row's printed sentence says how): FnExactPathOk: loops.
  DERIVED. THE GIVEN ROWS OF THIS SEAT. 6 by the template 'for every input the law returns true; each argument reads behind the call as it read before'; 0 by the template 'total and deterministic' (their statements: YtghbeebinbmpkaaTotals.lean).
  GIVEN WITH THE SEED: the statements are not yours to turn. If you find one false, say at which input.
  Laid BY PROGRAM, IN A SANDBOX (cutbox-rows.mjs): the forced cells as the released guide's own fill.sh prints them over the translation c0426b61b9f5efd5… (all of the seat's roots in one cut). By AI agents, Wed Nov 11 2026. No macro, syntax, notation, axiom, sorry.
-/
import Derived.Test.YtghbeebinbmpkaaChecked
import GoSem.Claim
import GoSem.ClaimJoined
import GoSem.ClaimMapViews
import Derived.JoinedTies
import Derived.KernelRfl
namespace Go.Proofs.Ytghbeebinbmpkaa
/- THE CELL 'sum', in the pinned program and in every row, IS THE sha256 OF THE DUMP (.gsa) THAT YtghbeebinbmpkaaProg.lean LOADS. Nothing in Lean hashes anything: it is a label: what it is worth is what the hold of that sum in a sandbox is worth. -/
noncomputable def Try.pinned : Pinned := { name := "ytghbeebinbmpkaa", sum := "c0426b61b9f5efd52b53ec3e59278e638c0d8a3c17701274539a9f46eb0d351f", checked := Try.checked }
namespace Rows
def none {H : Type} : Left H := { results := [], args := [] }

/-- 'laws.FnExactNewState': WHATEVER THE INPUT: true; the input reads as it did. -/
def fnExactNewStateSpec : ChangeSpec := { name := "fnExactNewState", fn := fun _ => fun
  | [d] => { results := [.lit (.bool true)], args := [d] }
  | _ => none }
def fnExactNewStateRow : OpenClaim := { program := "ytghbeebinbmpkaa", sum := "c0426b61b9f5efd52b53ec3e59278e638c0d8a3c17701274539a9f46eb0d351f", func := "loop.example/g03219/laws.FnExactNewState", spec := "fnExactNewState", apart := false }
def FnExactNewStateSaid : Prop := fnExactNewStateRow.holds Try.pinned (OpenSpec.ofChange fnExactNewStateSpec)

/-- ITS FALSE NEIGHBOUR: 'it returns false'. Refute it at one input. -/
def fnExactNewStateWrong : ChangeSpec := { name := "fnExactNewState", fn := fun _ => fun
  | [d] => { results := [.lit (.bool false)], args := [d] }
  | _ => none }
def FnExactNewStateWrongFalsely : Prop := fnExactNewStateRow.holds Try.pinned (OpenSpec.ofChange fnExactNewStateWrong)

/-- 'laws.FnExactStateOk': WHATEVER THE INPUT: true; the input reads as it did. -/
def fnExactStateOkSpec : ChangeSpec := { name := "fnExactStateOk", fn := fun _ => fun
  | [d1, d2] => { results := [.lit (.bool true)], args := [d1, d2] }
  | _ => none }
def fnExactStateOkRow : OpenClaim := { program := "ytghbeebinbmpkaa", sum := "c0426b61b9f5efd52b53ec3e59278e638c0d8a3c17701274539a9f46eb0d351f", func := "loop.example/g03219/laws.FnExactStateOk", spec := "fnExactStateOk", apart := false }
def FnExactStateOkSaid : Prop := fnExactStateOkRow.holds Try.pinned (OpenSpec.ofChange fnExactStateOkSpec)

/-- ITS FALSE NEIGHBOUR: 'it returns false'. Refute it at one input. -/
def fnExactStateOkWrong : ChangeSpec := { name := "fnExactStateOk", fn := fun _ => fun
  | [d1, d2] => { results := [.lit (.bool false)], args := [d1, d2] }
  | _ => none }
def FnExactStateOkWrongFalsely : Prop := fnExactStateOkRow.holds Try.pinned (OpenSpec.ofChange fnExactStateOkWrong)

/-- 'laws.FnExactStartPath': WHATEVER THE INPUT: true; the input reads as it did. -/
def fnExactStartPathSpec : ChangeSpec := { name := "fnExactStartPath", fn := fun _ => fun
  | [d] => { results := [.lit (.bool true)], args := [d] }
  | _ => none }
def fnExactStartPathRow : OpenClaim := { program := "ytghbeebinbmpkaa", sum := "c0426b61b9f5efd52b53ec3e59278e638c0d8a3c17701274539a9f46eb0d351f", func := "loop.example/g03219/laws.FnExactStartPath", spec := "fnExactStartPath", recurses := true, apart := false }
def FnExactStartPathSaid : Prop := fnExactStartPathRow.holds Try.pinned (OpenSpec.ofChange fnExactStartPathSpec)

/-- ITS FALSE NEIGHBOUR: 'it returns false'. Refute it at one input. -/
def fnExactStartPathWrong : ChangeSpec := { name := "fnExactStartPath", fn := fun _ => fun
  | [d] => { results := [.lit (.bool false)], args := [d] }
  | _ => none }
def FnExactStartPathWrongFalsely : Prop := fnExactStartPathRow.holds Try.pinned (OpenSpec.ofChange fnExactStartPathWrong)

/-- 'laws.FnExactPathOk': WHATEVER THE INPUT: true; the input reads as it did. -/
def fnExactPathOkSpec : ChangeSpec := { name := "fnExactPathOk", fn := fun _ => fun
  | [d1, d2] => { results := [.lit (.bool true)], args := [d1, d2] }
  | _ => none }
def fnExactPathOkRow : OpenClaim := { program := "ytghbeebinbmpkaa", sum := "c0426b61b9f5efd52b53ec3e59278e638c0d8a3c17701274539a9f46eb0d351f", func := "loop.example/g03219/laws.FnExactPathOk", spec := "fnExactPathOk", recurses := true, loops := true, apart := false }
def FnExactPathOkSaid : Prop := fnExactPathOkRow.holds Try.pinned (OpenSpec.ofChange fnExactPathOkSpec)

/-- ITS FALSE NEIGHBOUR: 'it returns false'. Refute it at one input. -/
def fnExactPathOkWrong : ChangeSpec := { name := "fnExactPathOk", fn := fun _ => fun
  | [d1, d2] => { results := [.lit (.bool false)], args := [d1, d2] }
  | _ => none }
def FnExactPathOkWrongFalsely : Prop := fnExactPathOkRow.holds Try.pinned (OpenSpec.ofChange fnExactPathOkWrong)

/-- 'laws.FnExactNextOf': WHATEVER THE INPUT: true; the input reads as it did. -/
def fnExactNextOfSpec : ChangeSpec := { name := "fnExactNextOf", fn := fun _ => fun
  | [d1, d2] => { results := [.lit (.bool true)], args := [d1, d2] }
  | _ => none }
def fnExactNextOfRow : OpenClaim := { program := "ytghbeebinbmpkaa", sum := "c0426b61b9f5efd52b53ec3e59278e638c0d8a3c17701274539a9f46eb0d351f", func := "loop.example/g03219/laws.FnExactNextOf", spec := "fnExactNextOf", recurses := true, apart := false }
def FnExactNextOfSaid : Prop := fnExactNextOfRow.holds Try.pinned (OpenSpec.ofChange fnExactNextOfSpec)

/-- ITS FALSE NEIGHBOUR: 'it returns false'. Refute it at one input. -/
def fnExactNextOfWrong : ChangeSpec := { name := "fnExactNextOf", fn := fun _ => fun
  | [d1, d2] => { results := [.lit (.bool false)], args := [d1, d2] }
  | _ => none }
def FnExactNextOfWrongFalsely : Prop := fnExactNextOfRow.holds Try.pinned (OpenSpec.ofChange fnExactNextOfWrong)

/-- 'laws.FnExactTraceOf': WHATEVER THE INPUT: true; the input reads as it did. -/
def fnExactTraceOfSpec : ChangeSpec := { name := "fnExactTraceOf", fn := fun _ => fun
  | [d1, d2, d3] => { results := [.lit (.bool true)], args := [d1, d2, d3] }
  | _ => none }
def fnExactTraceOfRow : OpenClaim := { program := "ytghbeebinbmpkaa", sum := "c0426b61b9f5efd52b53ec3e59278e638c0d8a3c17701274539a9f46eb0d351f", func := "loop.example/g03219/laws.FnExactTraceOf", spec := "fnExactTraceOf", apart := false }
def FnExactTraceOfSaid : Prop := fnExactTraceOfRow.holds Try.pinned (OpenSpec.ofChange fnExactTraceOfSpec)

/-- ITS FALSE NEIGHBOUR: 'it returns false'. Refute it at one input. -/
def fnExactTraceOfWrong : ChangeSpec := { name := "fnExactTraceOf", fn := fun _ => fun
  | [d1, d2, d3] => { results := [.lit (.bool false)], args := [d1, d2, d3] }
  | _ => none }
def FnExactTraceOfWrongFalsely : Prop := fnExactTraceOfRow.holds Try.pinned (OpenSpec.ofChange fnExactTraceOfWrong)

/- THE SECOND FORM. 'bulk': how many values and letters a reading holds, each counted each time it is reached (what is shared counts as often as it is met; a slice's spare places count too). A statement '..UptoSaid' is the law's where the arguments, and the package variables that the reading takes, are together of bulk at most 1048576: NARROWER than '..Said'. Prove '..Said' where nothing that the law and all that it calls make is longer than what came in: it says more and counts as full. Else prove '..UptoSaid'. A law counts once. -/
mutual
def uptoBulk {H : Type} : DataW H → Nat
  | .lit (.string bytes) => bytes.length + 1
  | .lit _ => 1
  | .nil => 1
  | .ptr d => uptoBulk d + 1
  | .slice elems spare => uptoBulkAll elems + uptoBulkAll spare + 1
  | .agg parts => uptoBulkAll parts + 1
  | .iface _ d => uptoBulk d + 1
  | .map entries => uptoBulkEntries entries + 1
  | .held _ => 1
def uptoBulkAll {H : Type} : List (DataW H) → Nat
  | [] => 0
  | d :: r => uptoBulk d + uptoBulkAll r
def uptoBulkEntries {H : Type} : List (Lit × DataW H) → Nat
  | [] => 0
  | x :: r => uptoBulkEntry x + uptoBulkEntries r
def uptoBulkEntry {H : Type} : Lit × DataW H → Nat
  | (.string bytes, d) => bytes.length + uptoBulk d + 1
  | (_, d) => uptoBulk d + 1
 end
def uptoSmall : (H : Type) → List (DataW H) → Bool := fun _ ds => decide (uptoBulkAll ds ≤ 1048576)
def OpenSpec.upto (s : _root_.Go.ChangeSpec) : _root_.Go.OpenSpec := { _root_.Go.OpenSpec.ofChange s with cond := some uptoSmall }

/-- 'laws.FnExactNewState', WHERE WHAT IT READS IS OF BULK AT MOST 1048576: true; the input reads as it did. -/
def fnExactNewStateUptoRow : OpenClaim := { program := "ytghbeebinbmpkaa", sum := "c0426b61b9f5efd52b53ec3e59278e638c0d8a3c17701274539a9f46eb0d351f", func := "loop.example/g03219/laws.FnExactNewState", spec := "fnExactNewState", apart := false, narrowed := true }
def FnExactNewStateUptoSaid : Prop := fnExactNewStateUptoRow.holds Try.pinned (OpenSpec.upto fnExactNewStateSpec)

/-- 'laws.FnExactStateOk', WHERE WHAT IT READS IS OF BULK AT MOST 1048576: true; the input reads as it did. -/
def fnExactStateOkUptoRow : OpenClaim := { program := "ytghbeebinbmpkaa", sum := "c0426b61b9f5efd52b53ec3e59278e638c0d8a3c17701274539a9f46eb0d351f", func := "loop.example/g03219/laws.FnExactStateOk", spec := "fnExactStateOk", apart := false, narrowed := true }
def FnExactStateOkUptoSaid : Prop := fnExactStateOkUptoRow.holds Try.pinned (OpenSpec.upto fnExactStateOkSpec)

/-- 'laws.FnExactStartPath', WHERE WHAT IT READS IS OF BULK AT MOST 1048576: true; the input reads as it did. -/
def fnExactStartPathUptoRow : OpenClaim := { program := "ytghbeebinbmpkaa", sum := "c0426b61b9f5efd52b53ec3e59278e638c0d8a3c17701274539a9f46eb0d351f", func := "loop.example/g03219/laws.FnExactStartPath", spec := "fnExactStartPath", recurses := true, apart := false, narrowed := true }
def FnExactStartPathUptoSaid : Prop := fnExactStartPathUptoRow.holds Try.pinned (OpenSpec.upto fnExactStartPathSpec)

/-- 'laws.FnExactPathOk', WHERE WHAT IT READS IS OF BULK AT MOST 1048576: true; the input reads as it did. -/
def fnExactPathOkUptoRow : OpenClaim := { program := "ytghbeebinbmpkaa", sum := "c0426b61b9f5efd52b53ec3e59278e638c0d8a3c17701274539a9f46eb0d351f", func := "loop.example/g03219/laws.FnExactPathOk", spec := "fnExactPathOk", recurses := true, loops := true, apart := false, narrowed := true }
def FnExactPathOkUptoSaid : Prop := fnExactPathOkUptoRow.holds Try.pinned (OpenSpec.upto fnExactPathOkSpec)

/-- 'laws.FnExactNextOf', WHERE WHAT IT READS IS OF BULK AT MOST 1048576: true; the input reads as it did. -/
def fnExactNextOfUptoRow : OpenClaim := { program := "ytghbeebinbmpkaa", sum := "c0426b61b9f5efd52b53ec3e59278e638c0d8a3c17701274539a9f46eb0d351f", func := "loop.example/g03219/laws.FnExactNextOf", spec := "fnExactNextOf", recurses := true, apart := false, narrowed := true }
def FnExactNextOfUptoSaid : Prop := fnExactNextOfUptoRow.holds Try.pinned (OpenSpec.upto fnExactNextOfSpec)

/-- 'laws.FnExactTraceOf', WHERE WHAT IT READS IS OF BULK AT MOST 1048576: true; the input reads as it did. -/
def fnExactTraceOfUptoRow : OpenClaim := { program := "ytghbeebinbmpkaa", sum := "c0426b61b9f5efd52b53ec3e59278e638c0d8a3c17701274539a9f46eb0d351f", func := "loop.example/g03219/laws.FnExactTraceOf", spec := "fnExactTraceOf", apart := false, narrowed := true }
def FnExactTraceOfUptoSaid : Prop := fnExactTraceOfUptoRow.holds Try.pinned (OpenSpec.upto fnExactTraceOfSpec)

end Rows
end Go.Proofs.Ytghbeebinbmpkaa
