/-
  No cell of these rows narrows 'for every input' (looked for: loops, veiled, ifaces, maps, wideKeys, modest, calm, conditions, laid).
  DERIVED. THE GIVEN ROWS OF THIS SEAT. 9 by the template 'for every input the law returns true; each argument reads behind the call as it read before'; 0 by the template 'total and deterministic' (their statements: YtckeihpjfeonmaaTotals.lean).
  GIVEN WITH THE SEED: the statements are not yours to turn. If you find one false, say at which input.
  Laid BY PROGRAM, IN A SANDBOX (cutbox-rows.mjs): the forced cells as the released guide's own fill.sh prints them over the translation b180d1cd01698e7a… (all of the seat's roots in one cut). By AI agents, Wed Nov 11 2026. No macro, syntax, notation, axiom, sorry.
-/
import Derived.Test.YtckeihpjfeonmaaChecked
import GoSem.Claim
import GoSem.ClaimJoined
import GoSem.ClaimMapViews
import Derived.JoinedTies
import Derived.KernelRfl
namespace Go.Proofs.Ytckeihpjfeonmaa
/- THE CELL 'sum', in the pinned program and in every row, IS THE sha256 OF THE DUMP (.gsa) THAT YtckeihpjfeonmaaProg.lean LOADS. Nothing in Lean hashes anything: it is a label: what it is worth is what the hold of that sum in a sandbox is worth. -/
noncomputable def Try.pinned : Pinned := { name := "ytckeihpjfeonmaa", sum := "b180d1cd01698e7ad93c18a9dd5bee4e2a2ff3e225a1015ba5eaa0c320867c14", checked := Try.checked }
namespace Rows
def none {H : Type} : Left H := { results := [], args := [] }

/-- 'laws.FnExactAndOf': WHATEVER THE INPUT: true; the input reads as it did. -/
def fnExactAndOfSpec : ChangeSpec := { name := "fnExactAndOf", fn := fun _ => fun
  | [d1, d2, d3] => { results := [.lit (.bool true)], args := [d1, d2, d3] }
  | _ => none }
def fnExactAndOfRow : OpenClaim := { program := "ytckeihpjfeonmaa", sum := "b180d1cd01698e7ad93c18a9dd5bee4e2a2ff3e225a1015ba5eaa0c320867c14", func := "loop.example/g03219/laws.FnExactAndOf", spec := "fnExactAndOf", unfollowed := true, recurses := true, plainKeys := false, apart := false }
def FnExactAndOfSaid : Prop := fnExactAndOfRow.holds Try.pinned (OpenSpec.ofChange fnExactAndOfSpec)

/-- ITS FALSE NEIGHBOUR: 'it returns false'. Refute it at one input. -/
def fnExactAndOfWrong : ChangeSpec := { name := "fnExactAndOf", fn := fun _ => fun
  | [d1, d2, d3] => { results := [.lit (.bool false)], args := [d1, d2, d3] }
  | _ => none }
def FnExactAndOfWrongFalsely : Prop := fnExactAndOfRow.holds Try.pinned (OpenSpec.ofChange fnExactAndOfWrong)

/-- 'laws.FnExactOrOf': WHATEVER THE INPUT: true; the input reads as it did. -/
def fnExactOrOfSpec : ChangeSpec := { name := "fnExactOrOf", fn := fun _ => fun
  | [d1, d2, d3] => { results := [.lit (.bool true)], args := [d1, d2, d3] }
  | _ => none }
def fnExactOrOfRow : OpenClaim := { program := "ytckeihpjfeonmaa", sum := "b180d1cd01698e7ad93c18a9dd5bee4e2a2ff3e225a1015ba5eaa0c320867c14", func := "loop.example/g03219/laws.FnExactOrOf", spec := "fnExactOrOf", unfollowed := true, recurses := true, plainKeys := false, apart := false }
def FnExactOrOfSaid : Prop := fnExactOrOfRow.holds Try.pinned (OpenSpec.ofChange fnExactOrOfSpec)

/-- ITS FALSE NEIGHBOUR: 'it returns false'. Refute it at one input. -/
def fnExactOrOfWrong : ChangeSpec := { name := "fnExactOrOf", fn := fun _ => fun
  | [d1, d2, d3] => { results := [.lit (.bool false)], args := [d1, d2, d3] }
  | _ => none }
def FnExactOrOfWrongFalsely : Prop := fnExactOrOfRow.holds Try.pinned (OpenSpec.ofChange fnExactOrOfWrong)

/-- 'laws.FnExactXorOf': WHATEVER THE INPUT: true; the input reads as it did. -/
def fnExactXorOfSpec : ChangeSpec := { name := "fnExactXorOf", fn := fun _ => fun
  | [d1, d2, d3] => { results := [.lit (.bool true)], args := [d1, d2, d3] }
  | _ => none }
def fnExactXorOfRow : OpenClaim := { program := "ytckeihpjfeonmaa", sum := "b180d1cd01698e7ad93c18a9dd5bee4e2a2ff3e225a1015ba5eaa0c320867c14", func := "loop.example/g03219/laws.FnExactXorOf", spec := "fnExactXorOf", unfollowed := true, recurses := true, plainKeys := false, apart := false }
def FnExactXorOfSaid : Prop := fnExactXorOfRow.holds Try.pinned (OpenSpec.ofChange fnExactXorOfSpec)

/-- ITS FALSE NEIGHBOUR: 'it returns false'. Refute it at one input. -/
def fnExactXorOfWrong : ChangeSpec := { name := "fnExactXorOf", fn := fun _ => fun
  | [d1, d2, d3] => { results := [.lit (.bool false)], args := [d1, d2, d3] }
  | _ => none }
def FnExactXorOfWrongFalsely : Prop := fnExactXorOfRow.holds Try.pinned (OpenSpec.ofChange fnExactXorOfWrong)

/-- 'laws.FnExactIfOf': WHATEVER THE INPUT: true; the input reads as it did. -/
def fnExactIfOfSpec : ChangeSpec := { name := "fnExactIfOf", fn := fun _ => fun
  | [d1, d2, d3, d4] => { results := [.lit (.bool true)], args := [d1, d2, d3, d4] }
  | _ => none }
def fnExactIfOfRow : OpenClaim := { program := "ytckeihpjfeonmaa", sum := "b180d1cd01698e7ad93c18a9dd5bee4e2a2ff3e225a1015ba5eaa0c320867c14", func := "loop.example/g03219/laws.FnExactIfOf", spec := "fnExactIfOf", unfollowed := true, recurses := true, plainKeys := false, apart := false }
def FnExactIfOfSaid : Prop := fnExactIfOfRow.holds Try.pinned (OpenSpec.ofChange fnExactIfOfSpec)

/-- ITS FALSE NEIGHBOUR: 'it returns false'. Refute it at one input. -/
def fnExactIfOfWrong : ChangeSpec := { name := "fnExactIfOf", fn := fun _ => fun
  | [d1, d2, d3, d4] => { results := [.lit (.bool false)], args := [d1, d2, d3, d4] }
  | _ => none }
def FnExactIfOfWrongFalsely : Prop := fnExactIfOfRow.holds Try.pinned (OpenSpec.ofChange fnExactIfOfWrong)

/-- 'laws.FnExactAddLits': WHATEVER THE INPUT: true; the input reads as it did. -/
def fnExactAddLitsSpec : ChangeSpec := { name := "fnExactAddLits", fn := fun _ => fun
  | [d1, d2, d3, d4] => { results := [.lit (.bool true)], args := [d1, d2, d3, d4] }
  | _ => none }
def fnExactAddLitsRow : OpenClaim := { program := "ytckeihpjfeonmaa", sum := "b180d1cd01698e7ad93c18a9dd5bee4e2a2ff3e225a1015ba5eaa0c320867c14", func := "loop.example/g03219/laws.FnExactAddLits", spec := "fnExactAddLits", plainKeys := false, apart := false }
def FnExactAddLitsSaid : Prop := fnExactAddLitsRow.holds Try.pinned (OpenSpec.ofChange fnExactAddLitsSpec)

/-- ITS FALSE NEIGHBOUR: 'it returns false'. Refute it at one input. -/
def fnExactAddLitsWrong : ChangeSpec := { name := "fnExactAddLits", fn := fun _ => fun
  | [d1, d2, d3, d4] => { results := [.lit (.bool false)], args := [d1, d2, d3, d4] }
  | _ => none }
def FnExactAddLitsWrongFalsely : Prop := fnExactAddLitsRow.holds Try.pinned (OpenSpec.ofChange fnExactAddLitsWrong)

/-- 'laws.FnExactOpLits': WHATEVER THE INPUT: true; the input reads as it did. -/
def fnExactOpLitsSpec : ChangeSpec := { name := "fnExactOpLits", fn := fun _ => fun
  | [d1, d2, d3, d4] => { results := [.lit (.bool true)], args := [d1, d2, d3, d4] }
  | _ => none }
def fnExactOpLitsRow : OpenClaim := { program := "ytckeihpjfeonmaa", sum := "b180d1cd01698e7ad93c18a9dd5bee4e2a2ff3e225a1015ba5eaa0c320867c14", func := "loop.example/g03219/laws.FnExactOpLits", spec := "fnExactOpLits", plainKeys := false, apart := false }
def FnExactOpLitsSaid : Prop := fnExactOpLitsRow.holds Try.pinned (OpenSpec.ofChange fnExactOpLitsSpec)

/-- ITS FALSE NEIGHBOUR: 'it returns false'. Refute it at one input. -/
def fnExactOpLitsWrong : ChangeSpec := { name := "fnExactOpLits", fn := fun _ => fun
  | [d1, d2, d3, d4] => { results := [.lit (.bool false)], args := [d1, d2, d3, d4] }
  | _ => none }
def FnExactOpLitsWrongFalsely : Prop := fnExactOpLitsRow.holds Try.pinned (OpenSpec.ofChange fnExactOpLitsWrong)

/-- 'laws.FnGates': WHATEVER THE INPUT: true; the input reads as it did. -/
def fnGatesSpec : ChangeSpec := { name := "fnGates", fn := fun _ => fun
  | [d] => { results := [.lit (.bool true)], args := [d] }
  | _ => none }
def fnGatesRow : OpenClaim := { program := "ytckeihpjfeonmaa", sum := "b180d1cd01698e7ad93c18a9dd5bee4e2a2ff3e225a1015ba5eaa0c320867c14", func := "loop.example/g03219/laws.FnGates", spec := "fnGates", unfollowed := true, recurses := true, plainKeys := false, apart := false }
def FnGatesSaid : Prop := fnGatesRow.holds Try.pinned (OpenSpec.ofChange fnGatesSpec)

/-- ITS FALSE NEIGHBOUR: 'it returns false'. Refute it at one input. -/
def fnGatesWrong : ChangeSpec := { name := "fnGates", fn := fun _ => fun
  | [d] => { results := [.lit (.bool false)], args := [d] }
  | _ => none }
def FnGatesWrongFalsely : Prop := fnGatesRow.holds Try.pinned (OpenSpec.ofChange fnGatesWrong)

/-- 'laws.FnAdders': WHATEVER THE INPUT: true; the input reads as it did. -/
def fnAddersSpec : ChangeSpec := { name := "fnAdders", fn := fun _ => fun
  | [d] => { results := [.lit (.bool true)], args := [d] }
  | _ => none }
def fnAddersRow : OpenClaim := { program := "ytckeihpjfeonmaa", sum := "b180d1cd01698e7ad93c18a9dd5bee4e2a2ff3e225a1015ba5eaa0c320867c14", func := "loop.example/g03219/laws.FnAdders", spec := "fnAdders", plainKeys := false, apart := false }
def FnAddersSaid : Prop := fnAddersRow.holds Try.pinned (OpenSpec.ofChange fnAddersSpec)

/-- ITS FALSE NEIGHBOUR: 'it returns false'. Refute it at one input. -/
def fnAddersWrong : ChangeSpec := { name := "fnAdders", fn := fun _ => fun
  | [d] => { results := [.lit (.bool false)], args := [d] }
  | _ => none }
def FnAddersWrongFalsely : Prop := fnAddersRow.holds Try.pinned (OpenSpec.ofChange fnAddersWrong)

/-- 'laws.FnOperations': WHATEVER THE INPUT: true; the input reads as it did. -/
def fnOperationsSpec : ChangeSpec := { name := "fnOperations", fn := fun _ => fun
  | [d] => { results := [.lit (.bool true)], args := [d] }
  | _ => none }
def fnOperationsRow : OpenClaim := { program := "ytckeihpjfeonmaa", sum := "b180d1cd01698e7ad93c18a9dd5bee4e2a2ff3e225a1015ba5eaa0c320867c14", func := "loop.example/g03219/laws.FnOperations", spec := "fnOperations", plainKeys := false, apart := false }
def FnOperationsSaid : Prop := fnOperationsRow.holds Try.pinned (OpenSpec.ofChange fnOperationsSpec)

/-- ITS FALSE NEIGHBOUR: 'it returns false'. Refute it at one input. -/
def fnOperationsWrong : ChangeSpec := { name := "fnOperations", fn := fun _ => fun
  | [d] => { results := [.lit (.bool false)], args := [d] }
  | _ => none }
def FnOperationsWrongFalsely : Prop := fnOperationsRow.holds Try.pinned (OpenSpec.ofChange fnOperationsWrong)

/- THE SECOND FORM. 'bulk': how many values and letters a reading holds, each counted each time it is reached (what is shared counts as often as it is met; a slice's spare places count too). A statement '..UptoSaid' is the law's where the arguments, and the package variables that the reading takes, are together of bulk at most 1048576: NARROWER than '..Said'. Prove '..Said' where nothing that the law and all that it calls make is longer than what came in: it says more and counts as full. Else prove '..UptoSaid'. A law counts once. -/
mutual
def uptoBulk {H : Type} : DataW H → Nat
  | .lit (.string bytes) => bytes.length + 1
  | .lit _ => 1
  | .nil => 1
  | .ptr d => uptoBulk d + 1
  | .slice elems spare => uptoBulkAll elems + uptoBulkAll spare + 1
  | .agg parts => uptoBulkAll parts + 1
  | .iface _ d => uptoBulk d + 1
  | .map entries => uptoBulkEntries entries + 1
  | .held _ => 1
def uptoBulkAll {H : Type} : List (DataW H) → Nat
  | [] => 0
  | d :: r => uptoBulk d + uptoBulkAll r
def uptoBulkEntries {H : Type} : List (Lit × DataW H) → Nat
  | [] => 0
  | x :: r => uptoBulkEntry x + uptoBulkEntries r
def uptoBulkEntry {H : Type} : Lit × DataW H → Nat
  | (.string bytes, d) => bytes.length + uptoBulk d + 1
  | (_, d) => uptoBulk d + 1
 end
def uptoSmall : (H : Type) → List (DataW H) → Bool := fun _ ds => decide (uptoBulkAll ds ≤ 1048576)
def OpenSpec.upto (s : _root_.Go.ChangeSpec) : _root_.Go.OpenSpec := { _root_.Go.OpenSpec.ofChange s with cond := some uptoSmall }

/-- 'laws.FnExactAndOf', WHERE WHAT IT READS IS OF BULK AT MOST 1048576: true; the input reads as it did. -/
def fnExactAndOfUptoRow : OpenClaim := { program := "ytckeihpjfeonmaa", sum := "b180d1cd01698e7ad93c18a9dd5bee4e2a2ff3e225a1015ba5eaa0c320867c14", func := "loop.example/g03219/laws.FnExactAndOf", spec := "fnExactAndOf", unfollowed := true, recurses := true, plainKeys := false, apart := false, narrowed := true }
def FnExactAndOfUptoSaid : Prop := fnExactAndOfUptoRow.holds Try.pinned (OpenSpec.upto fnExactAndOfSpec)

/-- 'laws.FnExactOrOf', WHERE WHAT IT READS IS OF BULK AT MOST 1048576: true; the input reads as it did. -/
def fnExactOrOfUptoRow : OpenClaim := { program := "ytckeihpjfeonmaa", sum := "b180d1cd01698e7ad93c18a9dd5bee4e2a2ff3e225a1015ba5eaa0c320867c14", func := "loop.example/g03219/laws.FnExactOrOf", spec := "fnExactOrOf", unfollowed := true, recurses := true, plainKeys := false, apart := false, narrowed := true }
def FnExactOrOfUptoSaid : Prop := fnExactOrOfUptoRow.holds Try.pinned (OpenSpec.upto fnExactOrOfSpec)

/-- 'laws.FnExactXorOf', WHERE WHAT IT READS IS OF BULK AT MOST 1048576: true; the input reads as it did. -/
def fnExactXorOfUptoRow : OpenClaim := { program := "ytckeihpjfeonmaa", sum := "b180d1cd01698e7ad93c18a9dd5bee4e2a2ff3e225a1015ba5eaa0c320867c14", func := "loop.example/g03219/laws.FnExactXorOf", spec := "fnExactXorOf", unfollowed := true, recurses := true, plainKeys := false, apart := false, narrowed := true }
def FnExactXorOfUptoSaid : Prop := fnExactXorOfUptoRow.holds Try.pinned (OpenSpec.upto fnExactXorOfSpec)

/-- 'laws.FnExactIfOf', WHERE WHAT IT READS IS OF BULK AT MOST 1048576: true; the input reads as it did. -/
def fnExactIfOfUptoRow : OpenClaim := { program := "ytckeihpjfeonmaa", sum := "b180d1cd01698e7ad93c18a9dd5bee4e2a2ff3e225a1015ba5eaa0c320867c14", func := "loop.example/g03219/laws.FnExactIfOf", spec := "fnExactIfOf", unfollowed := true, recurses := true, plainKeys := false, apart := false, narrowed := true }
def FnExactIfOfUptoSaid : Prop := fnExactIfOfUptoRow.holds Try.pinned (OpenSpec.upto fnExactIfOfSpec)

/-- 'laws.FnExactAddLits', WHERE WHAT IT READS IS OF BULK AT MOST 1048576: true; the input reads as it did. -/
def fnExactAddLitsUptoRow : OpenClaim := { program := "ytckeihpjfeonmaa", sum := "b180d1cd01698e7ad93c18a9dd5bee4e2a2ff3e225a1015ba5eaa0c320867c14", func := "loop.example/g03219/laws.FnExactAddLits", spec := "fnExactAddLits", plainKeys := false, apart := false, narrowed := true }
def FnExactAddLitsUptoSaid : Prop := fnExactAddLitsUptoRow.holds Try.pinned (OpenSpec.upto fnExactAddLitsSpec)

/-- 'laws.FnExactOpLits', WHERE WHAT IT READS IS OF BULK AT MOST 1048576: true; the input reads as it did. -/
def fnExactOpLitsUptoRow : OpenClaim := { program := "ytckeihpjfeonmaa", sum := "b180d1cd01698e7ad93c18a9dd5bee4e2a2ff3e225a1015ba5eaa0c320867c14", func := "loop.example/g03219/laws.FnExactOpLits", spec := "fnExactOpLits", plainKeys := false, apart := false, narrowed := true }
def FnExactOpLitsUptoSaid : Prop := fnExactOpLitsUptoRow.holds Try.pinned (OpenSpec.upto fnExactOpLitsSpec)

/-- 'laws.FnGates', WHERE WHAT IT READS IS OF BULK AT MOST 1048576: true; the input reads as it did. -/
def fnGatesUptoRow : OpenClaim := { program := "ytckeihpjfeonmaa", sum := "b180d1cd01698e7ad93c18a9dd5bee4e2a2ff3e225a1015ba5eaa0c320867c14", func := "loop.example/g03219/laws.FnGates", spec := "fnGates", unfollowed := true, recurses := true, plainKeys := false, apart := false, narrowed := true }
def FnGatesUptoSaid : Prop := fnGatesUptoRow.holds Try.pinned (OpenSpec.upto fnGatesSpec)

/-- 'laws.FnAdders', WHERE WHAT IT READS IS OF BULK AT MOST 1048576: true; the input reads as it did. -/
def fnAddersUptoRow : OpenClaim := { program := "ytckeihpjfeonmaa", sum := "b180d1cd01698e7ad93c18a9dd5bee4e2a2ff3e225a1015ba5eaa0c320867c14", func := "loop.example/g03219/laws.FnAdders", spec := "fnAdders", plainKeys := false, apart := false, narrowed := true }
def FnAddersUptoSaid : Prop := fnAddersUptoRow.holds Try.pinned (OpenSpec.upto fnAddersSpec)

/-- 'laws.FnOperations', WHERE WHAT IT READS IS OF BULK AT MOST 1048576: true; the input reads as it did. -/
def fnOperationsUptoRow : OpenClaim := { program := "ytckeihpjfeonmaa", sum := "b180d1cd01698e7ad93c18a9dd5bee4e2a2ff3e225a1015ba5eaa0c320867c14", func := "loop.example/g03219/laws.FnOperations", spec := "fnOperations", plainKeys := false, apart := false, narrowed := true }
def FnOperationsUptoSaid : Prop := fnOperationsUptoRow.holds Try.pinned (OpenSpec.upto fnOperationsSpec)

end Rows
end Go.Proofs.Ytckeihpjfeonmaa
