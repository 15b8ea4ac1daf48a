/- Own library, part p: the data that the program works on, and the words of the lifted functions. No program in sight. -/
import Derived.IntWalk
namespace Go.GL

/-- a string -/
structure Str where
  bytes : List UInt8
deriving DecidableEq, Inhabited

/-- a byte -/
structure Byt where
  n : Int
deriving DecidableEq, Inhabited

abbrev w64 (x : Int) : Int := IntKind.i64.wrap x

def len {α : Type} (l : List α) : Int := l.length
def get? {α : Type} (l : List α) (i : Int) : Option α := if 0 ≤ i then l[i.toNat]? else none
def set? {α : Type} (l : List α) (i : Int) (x : α) : Option (List α) := if 0 ≤ i ∧ i.toNat < l.length then some (l.set i.toNat x) else none
theorem get?_nn {α : Type} {l : List α} {i : Int} {x : α} (h : get? l i = some x) : 0 ≤ i := by
  unfold get? at h
  split at h
  · assumption
  · cases h
theorem get?_at {α : Type} {l : List α} {i : Int} {x : α} (h : get? l i = some x) : l[i.toNat]? = some x := by
  unfold get? at h
  split at h
  · exact h
  · cases h
def shl? (a b : Int) : Option Int := if b < 0 then none else some (w64 (a * 2 ^ min b.toNat 64))
/-- a byte of a string -/
def Str.eqb (a b : Str) : Bool := (ByteArray.mk a.bytes.toArray).toList == (ByteArray.mk b.bytes.toArray).toList
/-- a + b of strings -/
def cat? (a b : Str) : Option Str := if a.bytes.length + b.bytes.length ≤ 9223372036854775807 then some ⟨a.bytes ++ b.bytes⟩ else none
/-- s[lo:hi] of a string -/
def scut? (s : Str) (lo hi : Int) : Option Str := if 0 ≤ lo ∧ lo ≤ hi ∧ hi ≤ s.bytes.length then some ⟨(s.bytes.take hi.toNat).drop lo.toNat⟩ else none
/-- b.WriteString(t) -/
def bw? (s t : Str) : Option Str := if s.bytes.length + t.bytes.length ≤ 140737488355328 then some ⟨s.bytes ++ t.bytes⟩ else none
/-- the string of these bytes -/
def strOf (l : List Byt) : Str := ⟨l.map fun b => UInt8.ofNat b.n.toNat⟩
def sidx? (s : Str) (i : Int) : Option Int := if 0 ≤ i then s.bytes[i.toNat]?.map (fun b => (b.toNat : Int)) else none
def quo? (a b : Int) : Option Int := if b = 0 then none else some (w64 (a.tdiv b))
def rem? (a b : Int) : Option Int := if b = 0 then none else some (a.tmod b)
def room : Nat := 4294967296
def mk? {α : Type} (n : Int) (z : α) : Option (List α) := if 0 ≤ n ∧ n.toNat ≤ room then some (List.replicate n.toNat z) else none
def app? {α : Type} (l m : List α) : Option (List α) := if l.length + m.length ≤ room then some (l ++ m) else none
def cut? {α : Type} (l : List α) (lo hi : Int) : Option (List α) := if 0 ≤ lo ∧ lo ≤ hi ∧ hi ≤ l.length then some ((l.take hi.toNat).drop lo.toNat) else none

/-- the part from lo on, of n elements -/
def vcut {α : Type} (l : List α) (lo : Int) (n : Nat) : List α := (l.drop lo.toNat).take n
def iterN {σt ρt : Type} (B : σt → Option (σt ⊕ ρt)) : Nat → σt → Option ρt
  | 0, _ => none
  | n + 1, s =>
    match B s with
    | none => none
    | some (.inl s') => iterN B n s'
    | some (.inr r) => some r

namespace D
structure Gate where
  A : Int
  B : Int
deriving DecidableEq, Inhabited
structure Circuit where
  Inputs : Int
  Gates : List Gate
deriving DecidableEq, Inhabited
structure Ins where
  Op : Int
  A : Int
  B : Int
  C : Int
deriving DecidableEq, Inhabited
structure Program where
  W : Int
  Mem : Int
  In : Int
  Code : List Ins
deriving DecidableEq, Inhabited
structure State where
  Pc : Int
  Regs : List Int
  Mem : List Int
  Stack : List Int
  In : Int
  Out : List Int
  Code : Int
  Steps : Int
deriving DecidableEq, Inhabited
structure builder where
  c : Circuit
  line : List (Gate × Int)
  full : Bool
deriving DecidableEq, Inhabited
structure Formula where
  Vars : Int
  Clauses : List (List Int)
deriving DecidableEq, Inhabited
structure l04Net where
  c : Circuit
  full : Bool
deriving DecidableEq, Inhabited
/-- a term without kids -/
structure Term where
  Op : Int
  W : Int
  N : Int
  Name : Str
deriving DecidableEq, Inhabited
structure Path where
  Pc : Int
  Regs : List Term
  Mem : List Term
  Stack : List Int
  In : Int
  Out : List Term
  Code : Int
  Steps : Int
  Cond : List Term
  Turns : List Int
deriving DecidableEq, Inhabited
structure l01Cur where
  b : List Byt
  i : Int
  h : Int
deriving DecidableEq, Inhabited
end D
end Go.GL
