/- Own library, part A: strings: put together, compared, made of bytes. -/
import Derived.Test.YtdkfoghhjkjjlaaGLn
import Derived.Laws.BytesString
namespace Go.GL
open Go.RowKit
section
variable {P : Program} {ops : Array Oper} {Q : Exit → Act → World → Prop} {a : Act} {w : World} {N : Nat} {σ : List (Nat × Value)} {k d : Nat} {t t' yt ty E : TypeId} {x y : Operand} {pos : String} {af : Array Edge} {s1 s2 s3 : Str} {F : Nat → Prop}
end
section
variable {P : Program} {draw : Bool} {ms : List Nat} {ops : Array Oper} {a0 : Act} {w0 : World} {Q : Exit → Act → World → Prop} {pds : List Pd} {σ : List (Nat × Value)} {N j : Nat} {dst : Option Tmp} {g : Option (Nat × Bool)}
  {t yt ty : TypeId} {x y : Operand} {pos : String} {af : Array Edge} {s1 s2 s3 : Str}
end
end Go.GL
