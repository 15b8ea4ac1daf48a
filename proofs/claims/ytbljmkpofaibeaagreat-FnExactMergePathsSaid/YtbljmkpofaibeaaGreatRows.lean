/-
  NARROWER THAN 'FOR EVERY INPUT', by the rows' own cells (each row's printed sentence says how): FnExactCircuitOf: loops · FnExactOutcomeTerm: loops · FnExactMergePaths: loops.
  DERIVED. THE GIVEN ROWS OF THIS SEAT. 3 by the template 'for every input the law returns true; each argument reads behind the call as it read before'; 0 by the template 'total and deterministic' (their statements: YtbljmkpofaibeaaGreatTotals.lean).
  GIVEN WITH THE SEED: the statements are not yours to turn. If you find one false, say at which input.
  Laid BY PROGRAM, IN A SANDBOX (cutbox-rows.mjs): the forced cells as the released guide's own fill.sh prints them over the translation 9708cc1249ee1bc7… (all of the seat's roots in one cut). By AI agents, Wed Nov 11 2026. No macro, syntax, notation, axiom, sorry.
-/
import Derived.Test.YtbljmkpofaibeaaGreatChecked
import GoSem.Claim
import GoSem.ClaimJoined
import GoSem.ClaimMapViews
import Derived.JoinedTies
import Derived.KernelRfl
namespace Go.Proofs.YtbljmkpofaibeaaGreat
/- THE CELL 'sum', in the pinned program and in every row, IS THE sha256 OF THE DUMP (.gsa) THAT YtbljmkpofaibeaaGreatProg.lean LOADS. Nothing in Lean hashes anything: it is a label: what it is worth is what the hold of that sum in a sandbox is worth. -/
noncomputable def Tryz.pinned : Pinned := { name := "ytbljmkpofaibeaagreat", sum := "9708cc1249ee1bc7fa7248168d0a32900ee386c4c49fc7c3fc8fba5ef2e93b54", checked := Tryz.checked }
namespace Rows
def none {H : Type} : Left H := { results := [], args := [] }

/-- 'laws.FnExactCircuitOf': WHATEVER THE INPUT: true; the input reads as it did. -/
def fnExactCircuitOfSpec : ChangeSpec := { name := "fnExactCircuitOf", fn := fun _ => fun
  | [d] => { results := [.lit (.bool true)], args := [d] }
  | _ => none }
def fnExactCircuitOfRow : OpenClaim := { program := "ytbljmkpofaibeaagreat", sum := "9708cc1249ee1bc7fa7248168d0a32900ee386c4c49fc7c3fc8fba5ef2e93b54", func := "loop.example/g03219/laws.FnExactCircuitOf", spec := "fnExactCircuitOf", unfollowed := true, recurses := true, loops := true, plainKeys := false, apart := false }
def FnExactCircuitOfSaid : Prop := fnExactCircuitOfRow.holds Tryz.pinned (OpenSpec.ofChange fnExactCircuitOfSpec)

/-- ITS FALSE NEIGHBOUR: 'it returns false'. Refute it at one input. -/
def fnExactCircuitOfWrong : ChangeSpec := { name := "fnExactCircuitOf", fn := fun _ => fun
  | [d] => { results := [.lit (.bool false)], args := [d] }
  | _ => none }
def FnExactCircuitOfWrongFalsely : Prop := fnExactCircuitOfRow.holds Tryz.pinned (OpenSpec.ofChange fnExactCircuitOfWrong)

/-- 'laws.FnExactOutcomeTerm': WHATEVER THE INPUT: true; the input reads as it did. -/
def fnExactOutcomeTermSpec : ChangeSpec := { name := "fnExactOutcomeTerm", fn := fun _ => fun
  | [d1, d2, d3] => { results := [.lit (.bool true)], args := [d1, d2, d3] }
  | _ => none }
def fnExactOutcomeTermRow : OpenClaim := { program := "ytbljmkpofaibeaagreat", sum := "9708cc1249ee1bc7fa7248168d0a32900ee386c4c49fc7c3fc8fba5ef2e93b54", func := "loop.example/g03219/laws.FnExactOutcomeTerm", spec := "fnExactOutcomeTerm", inPlace := ["internal/bytealg.abigen_runtime_cmpstring"], recurses := true, loops := true, plainKeys := false, apart := false }
def FnExactOutcomeTermSaid : Prop := fnExactOutcomeTermRow.holds Tryz.pinned (OpenSpec.ofChange fnExactOutcomeTermSpec)

/-- ITS FALSE NEIGHBOUR: 'it returns false'. Refute it at one input. -/
def fnExactOutcomeTermWrong : ChangeSpec := { name := "fnExactOutcomeTerm", fn := fun _ => fun
  | [d1, d2, d3] => { results := [.lit (.bool false)], args := [d1, d2, d3] }
  | _ => none }
def FnExactOutcomeTermWrongFalsely : Prop := fnExactOutcomeTermRow.holds Tryz.pinned (OpenSpec.ofChange fnExactOutcomeTermWrong)

/-- 'laws.FnExactMergePaths': WHATEVER THE INPUT: true; the input reads as it did. -/
def fnExactMergePathsSpec : ChangeSpec := { name := "fnExactMergePaths", fn := fun _ => fun
  | [d1, d2, d3] => { results := [.lit (.bool true)], args := [d1, d2, d3] }
  | _ => none }
def fnExactMergePathsRow : OpenClaim := { program := "ytbljmkpofaibeaagreat", sum := "9708cc1249ee1bc7fa7248168d0a32900ee386c4c49fc7c3fc8fba5ef2e93b54", func := "loop.example/g03219/laws.FnExactMergePaths", spec := "fnExactMergePaths", inPlace := ["internal/bytealg.abigen_runtime_cmpstring"], recurses := true, loops := true, plainKeys := false, apart := false }
def FnExactMergePathsSaid : Prop := fnExactMergePathsRow.holds Tryz.pinned (OpenSpec.ofChange fnExactMergePathsSpec)

/-- ITS FALSE NEIGHBOUR: 'it returns false'. Refute it at one input. -/
def fnExactMergePathsWrong : ChangeSpec := { name := "fnExactMergePaths", fn := fun _ => fun
  | [d1, d2, d3] => { results := [.lit (.bool false)], args := [d1, d2, d3] }
  | _ => none }
def FnExactMergePathsWrongFalsely : Prop := fnExactMergePathsRow.holds Tryz.pinned (OpenSpec.ofChange fnExactMergePathsWrong)

/- THE SECOND FORM. 'bulk': how many values and letters a reading holds, each counted each time it is reached (what is shared counts as often as it is met; a slice's spare places count too). A statement '..UptoSaid' is the law's where the arguments, and the package variables that the reading takes, are together of bulk at most 1048576: NARROWER than '..Said'. Prove '..Said' where nothing that the law and all that it calls make is longer than what came in: it says more and counts as full. Else prove '..UptoSaid'. A law counts once. -/
mutual
def uptoBulk {H : Type} : DataW H → Nat
  | .lit (.string bytes) => bytes.length + 1
  | .lit _ => 1
  | .nil => 1
  | .ptr d => uptoBulk d + 1
  | .slice elems spare => uptoBulkAll elems + uptoBulkAll spare + 1
  | .agg parts => uptoBulkAll parts + 1
  | .iface _ d => uptoBulk d + 1
  | .map entries => uptoBulkEntries entries + 1
  | .held _ => 1
def uptoBulkAll {H : Type} : List (DataW H) → Nat
  | [] => 0
  | d :: r => uptoBulk d + uptoBulkAll r
def uptoBulkEntries {H : Type} : List (Lit × DataW H) → Nat
  | [] => 0
  | x :: r => uptoBulkEntry x + uptoBulkEntries r
def uptoBulkEntry {H : Type} : Lit × DataW H → Nat
  | (.string bytes, d) => bytes.length + uptoBulk d + 1
  | (_, d) => uptoBulk d + 1
 end
def uptoSmall : (H : Type) → List (DataW H) → Bool := fun _ ds => decide (uptoBulkAll ds ≤ 1048576)
def OpenSpec.upto (s : _root_.Go.ChangeSpec) : _root_.Go.OpenSpec := { _root_.Go.OpenSpec.ofChange s with cond := some uptoSmall }

/-- 'laws.FnExactCircuitOf', WHERE WHAT IT READS IS OF BULK AT MOST 1048576: true; the input reads as it did. -/
def fnExactCircuitOfUptoRow : OpenClaim := { program := "ytbljmkpofaibeaagreat", sum := "9708cc1249ee1bc7fa7248168d0a32900ee386c4c49fc7c3fc8fba5ef2e93b54", func := "loop.example/g03219/laws.FnExactCircuitOf", spec := "fnExactCircuitOf", unfollowed := true, recurses := true, loops := true, plainKeys := false, apart := false, narrowed := true }
def FnExactCircuitOfUptoSaid : Prop := fnExactCircuitOfUptoRow.holds Tryz.pinned (OpenSpec.upto fnExactCircuitOfSpec)

/-- 'laws.FnExactOutcomeTerm', WHERE WHAT IT READS IS OF BULK AT MOST 1048576: true; the input reads as it did. -/
def fnExactOutcomeTermUptoRow : OpenClaim := { program := "ytbljmkpofaibeaagreat", sum := "9708cc1249ee1bc7fa7248168d0a32900ee386c4c49fc7c3fc8fba5ef2e93b54", func := "loop.example/g03219/laws.FnExactOutcomeTerm", spec := "fnExactOutcomeTerm", inPlace := ["internal/bytealg.abigen_runtime_cmpstring"], recurses := true, loops := true, plainKeys := false, apart := false, narrowed := true }
def FnExactOutcomeTermUptoSaid : Prop := fnExactOutcomeTermUptoRow.holds Tryz.pinned (OpenSpec.upto fnExactOutcomeTermSpec)

/-- 'laws.FnExactMergePaths', WHERE WHAT IT READS IS OF BULK AT MOST 1048576: true; the input reads as it did. -/
def fnExactMergePathsUptoRow : OpenClaim := { program := "ytbljmkpofaibeaagreat", sum := "9708cc1249ee1bc7fa7248168d0a32900ee386c4c49fc7c3fc8fba5ef2e93b54", func := "loop.example/g03219/laws.FnExactMergePaths", spec := "fnExactMergePaths", inPlace := ["internal/bytealg.abigen_runtime_cmpstring"], recurses := true, loops := true, plainKeys := false, apart := false, narrowed := true }
def FnExactMergePathsUptoSaid : Prop := fnExactMergePathsUptoRow.holds Tryz.pinned (OpenSpec.upto fnExactMergePathsSpec)

end Rows
end Go.Proofs.YtbljmkpofaibeaaGreat
