/- Own library, part y: bytes of strings, shifts of other kinds of integers. -/
import Derived.Test.YtckeihpjfeonmaaGLx
namespace Go.GL
open Go.RowKit
section
variable {P : Program} {ops : Array Oper} {Q : Exit → Act → World → Prop} {a : Act} {w : World} {N : Nat} {σ : List (Nat × Value)} {k d : Nat} {t yt ty : TypeId} {x y : Operand} {pos : String} {af : Array Edge} {m n z : Int} {kd kk : IntKind} {s : Str}
end
section
variable {P : Program} {draw : Bool} {ms : List Nat} {ops : Array Oper} {a0 : Act} {w0 : World} {Q : Exit → Act → World → Prop} {pds : List Pd} {σ : List (Nat × Value)} {N j : Nat} {dst : Option Tmp} {g : Option (Nat × Bool)}
  {t yt ty : TypeId} {x y : Operand} {pos : String} {af : Array Edge} {m n z : Int} {kd kk : IntKind} {s : Str}
end
end Go.GL
