/- Own library, part z: a part of a block. -/
import Derived.Test.YtdkfoghhjkjjlaaGLy
namespace Go.GL
open Go.RowKit
section
variable {P : Program} {ops : Array Oper} {Q : Exit → Act → World → Prop} {a a0 : Act} {w w0 : World} {N : Nat} {σ : List (Nat × Value)} {k d j : Nat} {t ty : TypeId} {x y : Operand} {pos : String} {af : Array Edge} {α : Type} [Rep α] {b off : Nat} {bt : TypeId} {cs ps : List Value}
  {draw : Bool} {ms : List Nat} {pds : List Pd} {dst : Option Tmp} {g : Option (Nat × Bool)}
theorem Box.part (h : Box w b bt cs) (hp : (cs.drop off).take ps.length = ps) : Cells w ⟨b, off, none⟩ ps := fun j u hu => by
  have e : (⟨b, off, none⟩ : Addr).add j = (⟨b, 0, none⟩ : Addr).add (off + j) := by unfold Addr.add; split <;> simp_all
  rw [e]
  refine h.cells (off + j) u ?_
  rw [← hp] at hu
  rw [List.getElem?_take] at hu
  split at hu
  · rw [List.getElem?_drop] at hu; exact hu
  · cases hu
end

/-! ### a field of an element -/
section
variable {P : Program} {ops : Array Oper} {Q : Exit → Act → World → Prop} {a : Act} {w : World} {N : Nat} {σ : List (Nat × Value)} {k d d2 d3 : Nat} {t ty : TypeId} {x y : Operand} {pos : String} {af : Array Edge}
end

/-! ### regions that draw: what is made is wrapped; literals that are only read -/
section
variable {P : Program} {draw : Bool} {ms : List Nat} {ops : Array Oper} {a0 : Act} {w0 : World} {Q : Exit → Act → World → Prop} {pds : List Pd} {σ : List (Nat × Value)} {N j : Nat} {dst : Option Tmp} {g : Option (Nat × Bool)}
  {t ty : TypeId} {x y : Operand} {pos : String} {af : Array Edge} {ow : Nat → Nat}
open Classical in
section
open Go.Maps
variable {k e : TypeId} {κ β : Type} [Flat κ] [Flat β] [DecidableEq κ] (T : MapT P k e κ β)
end
end
end Go.GL
namespace Go.GL
open Go.RowKit
/-! ### calls of function values -/
section
variable {P : Program} {ops : Array Oper} {Q : Exit → Act → World → Prop} {a : Act} {w : World} {N : Nat} {σ : List (Nat × Value)} {k d : Nat} {ty : TypeId} {x : Operand} {pos : String} {af : Array Edge} {f : FuncId} {xs : Array Operand} {ts : Array TypeId}
end
end Go.GL
namespace Go.GL
open Go.RowKit
section
variable {P : Program} {draw : Bool} {ms : List Nat} {ops : Array Oper} {a0 : Act} {w0 : World} {Q : Exit → Act → World → Prop} {pds : List Pd} {σ : List (Nat × Value)} {N j : Nat} {dst : Option Tmp} {g : Option (Nat × Bool)}
  {t ty : TypeId} {pos : String} {af : Array Edge}
end
end Go.GL
