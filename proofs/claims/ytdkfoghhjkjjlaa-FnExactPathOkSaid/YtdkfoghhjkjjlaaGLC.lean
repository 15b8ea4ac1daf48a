/- Own library, part C: a strings.Builder of the call's own; strings put together by the library. -/
import Derived.Test.YtdkfoghhjkjjlaaGLB
import Derived.Lib.AppendStr
import Derived.Lib.Builder
namespace Go.GL
open Go.RowKit
section
variable {P : Program} {w w0 : World} {S S0 F F0 : Nat → Prop}
end
section
variable {P : Program} {draw : Bool} {ms : List Nat} {ops : Array Oper} {a0 : Act} {w0 : World} {Q : Exit → Act → World → Prop} {pds : List Pd} {σ : List (Nat × Value)} {N j : Nat} {dst : Option Tmp} {g : Option (Nat × Bool)}
  {t t' E ty : TypeId} {pos : String} {af : Array Edge} {ow : Nat → Nat}
end
end Go.GL
