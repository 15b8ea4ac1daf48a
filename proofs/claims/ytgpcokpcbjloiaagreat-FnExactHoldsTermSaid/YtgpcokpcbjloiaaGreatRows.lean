/-
  NARROWER THAN 'FOR EVERY INPUT', by the rows' own cells (each row's printed sentence says how): FnExactLeastOf: loops · FnExactSolveTerm: loops · FnExactHoldsTerm: loops.
  DERIVED. THE GIVEN ROWS OF THIS SEAT. 3 by the template 'for every input the law returns true; each argument reads behind the call as it read before'; 0 by the template 'total and deterministic' (their statements: YtgpcokpcbjloiaaGreatTotals.lean).
  GIVEN WITH THE SEED: the statements are not yours to turn. If you find one false, say at which input.
  Laid BY PROGRAM, IN A SANDBOX (cutbox-rows.mjs): the forced cells as the released guide's own fill.sh prints them over the translation 9c9693ffac6d9959… (all of the seat's roots in one cut). By AI agents, Wed Nov 11 2026. No macro, syntax, notation, axiom, sorry.
-/
import Derived.Test.YtgpcokpcbjloiaaGreatChecked
import GoSem.Claim
import GoSem.ClaimJoined
import GoSem.ClaimMapViews
import Derived.JoinedTies
import Derived.KernelRfl
namespace Go.Proofs.YtgpcokpcbjloiaaGreat
/- THE CELL 'sum', in the pinned program and in every row, IS THE sha256 OF THE DUMP (.gsa) THAT YtgpcokpcbjloiaaGreatProg.lean LOADS. Nothing in Lean hashes anything: it is a label: what it is worth is what the hold of that sum in a sandbox is worth. -/
noncomputable def Tryz.pinned : Pinned := { name := "ytgpcokpcbjloiaagreat", sum := "9c9693ffac6d9959c53f632ea2deba4de7cea5688b181c85832ebf02ed68cec9", checked := Tryz.checked }
namespace Rows
def none {H : Type} : Left H := { results := [], args := [] }

/-- 'laws.FnExactLeastOf': WHATEVER THE INPUT: true; the input reads as it did. -/
def fnExactLeastOfSpec : ChangeSpec := { name := "fnExactLeastOf", fn := fun _ => fun
  | [d1, d2, d3] => { results := [.lit (.bool true)], args := [d1, d2, d3] }
  | _ => none }
def fnExactLeastOfRow : OpenClaim := { program := "ytgpcokpcbjloiaagreat", sum := "9c9693ffac6d9959c53f632ea2deba4de7cea5688b181c85832ebf02ed68cec9", func := "loop.example/g03219/laws.FnExactLeastOf", spec := "fnExactLeastOf", unfollowed := true, recurses := true, loops := true, plainKeys := false, apart := false }
def FnExactLeastOfSaid : Prop := fnExactLeastOfRow.holds Tryz.pinned (OpenSpec.ofChange fnExactLeastOfSpec)

/-- ITS FALSE NEIGHBOUR: 'it returns false'. Refute it at one input. -/
def fnExactLeastOfWrong : ChangeSpec := { name := "fnExactLeastOf", fn := fun _ => fun
  | [d1, d2, d3] => { results := [.lit (.bool false)], args := [d1, d2, d3] }
  | _ => none }
def FnExactLeastOfWrongFalsely : Prop := fnExactLeastOfRow.holds Tryz.pinned (OpenSpec.ofChange fnExactLeastOfWrong)

/-- 'laws.FnExactSolveTerm': WHATEVER THE INPUT: true; the input reads as it did. -/
def fnExactSolveTermSpec : ChangeSpec := { name := "fnExactSolveTerm", fn := fun _ => fun
  | [d1, d2] => { results := [.lit (.bool true)], args := [d1, d2] }
  | _ => none }
def fnExactSolveTermRow : OpenClaim := { program := "ytgpcokpcbjloiaagreat", sum := "9c9693ffac6d9959c53f632ea2deba4de7cea5688b181c85832ebf02ed68cec9", func := "loop.example/g03219/laws.FnExactSolveTerm", spec := "fnExactSolveTerm", unfollowed := true, recurses := true, loops := true, plainKeys := false, apart := false }
def FnExactSolveTermSaid : Prop := fnExactSolveTermRow.holds Tryz.pinned (OpenSpec.ofChange fnExactSolveTermSpec)

/-- ITS FALSE NEIGHBOUR: 'it returns false'. Refute it at one input. -/
def fnExactSolveTermWrong : ChangeSpec := { name := "fnExactSolveTerm", fn := fun _ => fun
  | [d1, d2] => { results := [.lit (.bool false)], args := [d1, d2] }
  | _ => none }
def FnExactSolveTermWrongFalsely : Prop := fnExactSolveTermRow.holds Tryz.pinned (OpenSpec.ofChange fnExactSolveTermWrong)

/-- 'laws.FnExactHoldsTerm': WHATEVER THE INPUT: true; the input reads as it did. -/
def fnExactHoldsTermSpec : ChangeSpec := { name := "fnExactHoldsTerm", fn := fun _ => fun
  | [d1, d2] => { results := [.lit (.bool true)], args := [d1, d2] }
  | _ => none }
def fnExactHoldsTermRow : OpenClaim := { program := "ytgpcokpcbjloiaagreat", sum := "9c9693ffac6d9959c53f632ea2deba4de7cea5688b181c85832ebf02ed68cec9", func := "loop.example/g03219/laws.FnExactHoldsTerm", spec := "fnExactHoldsTerm", unfollowed := true, recurses := true, loops := true, plainKeys := false, apart := false }
def FnExactHoldsTermSaid : Prop := fnExactHoldsTermRow.holds Tryz.pinned (OpenSpec.ofChange fnExactHoldsTermSpec)

/-- ITS FALSE NEIGHBOUR: 'it returns false'. Refute it at one input. -/
def fnExactHoldsTermWrong : ChangeSpec := { name := "fnExactHoldsTerm", fn := fun _ => fun
  | [d1, d2] => { results := [.lit (.bool false)], args := [d1, d2] }
  | _ => none }
def FnExactHoldsTermWrongFalsely : Prop := fnExactHoldsTermRow.holds Tryz.pinned (OpenSpec.ofChange fnExactHoldsTermWrong)

/- THE SECOND FORM. 'bulk': how many values and letters a reading holds, each counted each time it is reached (what is shared counts as often as it is met; a slice's spare places count too). A statement '..UptoSaid' is the law's where the arguments, and the package variables that the reading takes, are together of bulk at most 1048576: NARROWER than '..Said'. Prove '..Said' where nothing that the law and all that it calls make is longer than what came in: it says more and counts as full. Else prove '..UptoSaid'. A law counts once. -/
mutual
def uptoBulk {H : Type} : DataW H → Nat
  | .lit (.string bytes) => bytes.length + 1
  | .lit _ => 1
  | .nil => 1
  | .ptr d => uptoBulk d + 1
  | .slice elems spare => uptoBulkAll elems + uptoBulkAll spare + 1
  | .agg parts => uptoBulkAll parts + 1
  | .iface _ d => uptoBulk d + 1
  | .map entries => uptoBulkEntries entries + 1
  | .held _ => 1
def uptoBulkAll {H : Type} : List (DataW H) → Nat
  | [] => 0
  | d :: r => uptoBulk d + uptoBulkAll r
def uptoBulkEntries {H : Type} : List (Lit × DataW H) → Nat
  | [] => 0
  | x :: r => uptoBulkEntry x + uptoBulkEntries r
def uptoBulkEntry {H : Type} : Lit × DataW H → Nat
  | (.string bytes, d) => bytes.length + uptoBulk d + 1
  | (_, d) => uptoBulk d + 1
 end
def uptoSmall : (H : Type) → List (DataW H) → Bool := fun _ ds => decide (uptoBulkAll ds ≤ 1048576)
def OpenSpec.upto (s : _root_.Go.ChangeSpec) : _root_.Go.OpenSpec := { _root_.Go.OpenSpec.ofChange s with cond := some uptoSmall }

/-- 'laws.FnExactLeastOf', WHERE WHAT IT READS IS OF BULK AT MOST 1048576: true; the input reads as it did. -/
def fnExactLeastOfUptoRow : OpenClaim := { program := "ytgpcokpcbjloiaagreat", sum := "9c9693ffac6d9959c53f632ea2deba4de7cea5688b181c85832ebf02ed68cec9", func := "loop.example/g03219/laws.FnExactLeastOf", spec := "fnExactLeastOf", unfollowed := true, recurses := true, loops := true, plainKeys := false, apart := false, narrowed := true }
def FnExactLeastOfUptoSaid : Prop := fnExactLeastOfUptoRow.holds Tryz.pinned (OpenSpec.upto fnExactLeastOfSpec)

/-- 'laws.FnExactSolveTerm', WHERE WHAT IT READS IS OF BULK AT MOST 1048576: true; the input reads as it did. -/
def fnExactSolveTermUptoRow : OpenClaim := { program := "ytgpcokpcbjloiaagreat", sum := "9c9693ffac6d9959c53f632ea2deba4de7cea5688b181c85832ebf02ed68cec9", func := "loop.example/g03219/laws.FnExactSolveTerm", spec := "fnExactSolveTerm", unfollowed := true, recurses := true, loops := true, plainKeys := false, apart := false, narrowed := true }
def FnExactSolveTermUptoSaid : Prop := fnExactSolveTermUptoRow.holds Tryz.pinned (OpenSpec.upto fnExactSolveTermSpec)

/-- 'laws.FnExactHoldsTerm', WHERE WHAT IT READS IS OF BULK AT MOST 1048576: true; the input reads as it did. -/
def fnExactHoldsTermUptoRow : OpenClaim := { program := "ytgpcokpcbjloiaagreat", sum := "9c9693ffac6d9959c53f632ea2deba4de7cea5688b181c85832ebf02ed68cec9", func := "loop.example/g03219/laws.FnExactHoldsTerm", spec := "fnExactHoldsTerm", unfollowed := true, recurses := true, loops := true, plainKeys := false, apart := false, narrowed := true }
def FnExactHoldsTermUptoSaid : Prop := fnExactHoldsTermUptoRow.holds Tryz.pinned (OpenSpec.upto fnExactHoldsTermSpec)

end Rows
end Go.Proofs.YtgpcokpcbjloiaaGreat
