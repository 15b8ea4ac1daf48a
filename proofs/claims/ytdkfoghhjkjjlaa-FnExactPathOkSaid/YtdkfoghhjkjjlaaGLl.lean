/- Own library, part l: parts of an own slice that are still parts of it; copy and clear. -/
import Derived.Test.YtdkfoghhjkjjlaaGLk
namespace Go.GL
open Go.RowKit
section
variable {w : World} {F : Nat → Prop} {α : Type} [Rep α] {b a' : Option Addr} {n0 c c' : Nat} {lo : Int} {l : List α} {n : Nat}
end
section
variable {P : Program} {α : Type} [Flat α] {w : World} {E : TypeId} {go : Option Nat} {G : Nat → Prop} {v : Value} {l : List α}
end
section
variable {P : Program} {ops : Array Oper} {Q : Exit → Act → World → Prop} {a : Act} {w w0 : World} {S S0 F F0 : Nat → Prop} {N : Nat} {σ : List (Nat × Value)} {k d : Nat} {t ty : TypeId} {x y : Operand} {pos : String} {af : Array Edge}
  {L : List HP} {E : TypeId} {α : Type} [Flat α] {l m : List α} {b a' : Option Addr} {n0 c c' n : Nat} {lo : Int} {u : Value}
end
end Go.GL

/-! ### clear -/
namespace Go.GL
open Go.RowKit
section
variable {P : Program} {ops : Array Oper} {Q : Exit → Act → World → Prop} {a : Act} {w w0 : World} {S S0 F F0 : Nat → Prop} {N : Nat} {σ : List (Nat × Value)} {k : Nat} {t ty : TypeId} {x : Operand} {pos : String} {af : Array Edge}
  {L : List HP} {E : TypeId} {α : Type} [Flat α] {l : List α} {b a' : Option Addr} {n0 c c' n : Nat} {lo : Int}
end
end Go.GL

/-! ### what a call gives back that is only read, beside what it owns -/
namespace Go.GL
open Go.RowKit
structure RvF (w w' : World) (S0 F0 S' F' : Nat → Prop) : Prop where
  dj : ∀ k, S' k → F' k → False
  bd : ∀ k, F' k → k < w'.heap.size
  sub : ∀ k, F' k → F0 k ∨ S0 k ∨ w.heap.size ≤ k
end Go.GL
