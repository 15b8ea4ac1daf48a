/- Own library, part p: the data that the program works on, and the words of the lifted functions. No program in sight. -/
import Derived.IntWalk
namespace Go.GL

/-- a string -/
structure Str where
  bytes : List UInt8
deriving DecidableEq, Inhabited

/-- a byte -/
structure Byt where
  n : Int
deriving DecidableEq, Inhabited

abbrev w64 (x : Int) : Int := IntKind.i64.wrap x

def len {α : Type} (l : List α) : Int := l.length
def get? {α : Type} (l : List α) (i : Int) : Option α := if 0 ≤ i then l[i.toNat]? else none
def set? {α : Type} (l : List α) (i : Int) (x : α) : Option (List α) := if 0 ≤ i ∧ i.toNat < l.length then some (l.set i.toNat x) else none
theorem get?_nn {α : Type} {l : List α} {i : Int} {x : α} (h : get? l i = some x) : 0 ≤ i := by
  unfold get? at h
  split at h
  · assumption
  · cases h
theorem get?_at {α : Type} {l : List α} {i : Int} {x : α} (h : get? l i = some x) : l[i.toNat]? = some x := by
  unfold get? at h
  split at h
  · exact h
  · cases h
def band (a b : Int) : Int := w64 (BitVec.ofInt 64 a &&& BitVec.ofInt 64 b).toNat
def bor (a b : Int) : Int := w64 (BitVec.ofInt 64 a ||| BitVec.ofInt 64 b).toNat
def bxor (a b : Int) : Int := w64 (BitVec.ofInt 64 a ^^^ BitVec.ofInt 64 b).toNat
def shl? (a b : Int) : Option Int := if b < 0 then none else some (w64 (a * 2 ^ min b.toNat 64))
def shr? (a b : Int) : Option Int := if b < 0 then none else some (a.fdiv (2 ^ min b.toNat 64))
/-- a byte of a string -/
def Str.eqb (a b : Str) : Bool := (ByteArray.mk a.bytes.toArray).toList == (ByteArray.mk b.bytes.toArray).toList
/-- a + b of strings -/
def cat? (a b : Str) : Option Str := if a.bytes.length + b.bytes.length ≤ 9223372036854775807 then some ⟨a.bytes ++ b.bytes⟩ else none
/-- s[lo:hi] of a string -/
def scut? (s : Str) (lo hi : Int) : Option Str := if 0 ≤ lo ∧ lo ≤ hi ∧ hi ≤ s.bytes.length then some ⟨(s.bytes.take hi.toNat).drop lo.toNat⟩ else none
/-- b.WriteString(t) -/
def bw? (s t : Str) : Option Str := if s.bytes.length + t.bytes.length ≤ 140737488355328 then some ⟨s.bytes ++ t.bytes⟩ else none
/-- the string of these bytes -/
def strOf (l : List Byt) : Str := ⟨l.map fun b => UInt8.ofNat b.n.toNat⟩
def sidx? (s : Str) (i : Int) : Option Int := if 0 ≤ i then s.bytes[i.toNat]?.map (fun b => (b.toNat : Int)) else none
/-- a shift to the right of any kind of integer -/
def shrK? (k : IntKind) (a b : Int) : Option Int := if b < 0 then none else some (a.fdiv (2 ^ min b.toNat k.bits))
def quo? (a b : Int) : Option Int := if b = 0 then none else some (w64 (a.tdiv b))
def rem? (a b : Int) : Option Int := if b = 0 then none else some (a.tmod b)
def imin (a b : Int) : Int := if b < a then b else a
def imax (a b : Int) : Int := if b > a then b else a
def room : Nat := 4294967296
def mk? {α : Type} (n : Int) (z : α) : Option (List α) := if 0 ≤ n ∧ n.toNat ≤ room then some (List.replicate n.toNat z) else none
def app? {α : Type} (l m : List α) : Option (List α) := if l.length + m.length ≤ room then some (l ++ m) else none
def cut? {α : Type} (l : List α) (lo hi : Int) : Option (List α) := if 0 ≤ lo ∧ lo ≤ hi ∧ hi ≤ l.length then some ((l.take hi.toNat).drop lo.toNat) else none

/-- the part from lo on, of n elements -/
def vcut {α : Type} (l : List α) (lo : Int) (n : Nat) : List α := (l.drop lo.toNat).take n
/-- an element of a part -/
def vget? {α : Type} (l : List α) (lo : Int) (n : Nat) (i : Int) : Option α := if 0 ≤ i ∧ i.toNat < n then l[lo.toNat + i.toNat]? else none
/-- copy(l[lo:lo+n], m) -/
def vcopy {α : Type} (l : List α) (lo : Int) (n : Nat) (m : List α) : List α := l.take lo.toNat ++ m.take n ++ l.drop (lo.toNat + (m.take n).length)
/-- clear(l[lo:lo+n]) -/
def vclear {α : Type} (z : α) (l : List α) (lo : Int) (n : Nat) : List α := l.take lo.toNat ++ List.replicate n z ++ l.drop (lo.toNat + n)

def mget? {κ β : Type} [DecidableEq κ] (fit : κ → Bool) (z : β) (m : List (κ × β)) (x : κ) : Option β := if fit x = true then some ((m.lookup x).getD z) else none
/-- v, ok := m[x] -/
def mget2? {κ β : Type} [DecidableEq κ] (fit : κ → Bool) (z : β) (m : List (κ × β)) (x : κ) : Option (β × Bool) := if fit x = true then some ((m.lookup x).getD z, (m.lookup x).isSome) else none
/-- m[x] = y, of elements that must fit -/
def mputE? {κ β : Type} (fit : κ → Bool) (efit : β → Bool) (m : List (κ × β)) (x : κ) (y : β) : Option (List (κ × β)) := if fit x = true ∧ efit y = true ∧ m.length ≤ room then some ((x, y) :: m) else none
def mput? {κ β : Type} (fit : κ → Bool) (m : List (κ × β)) (x : κ) (y : β) : Option (List (κ × β)) := if fit x = true ∧ m.length ≤ room then some ((x, y) :: m) else none

def iterN {σt ρt : Type} (B : σt → Option (σt ⊕ ρt)) : Nat → σt → Option ρt
  | 0, _ => none
  | n + 1, s =>
    match B s with
    | none => none
    | some (.inl s') => iterN B n s'
    | some (.inr r) => some r

namespace D
structure Gate where
  A : Int
  B : Int
deriving DecidableEq, Inhabited
structure Circuit where
  Inputs : Int
  Gates : List Gate
deriving DecidableEq, Inhabited
structure Ins where
  Op : Int
  A : Int
  B : Int
  C : Int
deriving DecidableEq, Inhabited
structure Program where
  W : Int
  Mem : Int
  In : Int
  Code : List Ins
deriving DecidableEq, Inhabited
structure State where
  Pc : Int
  Regs : List Int
  Mem : List Int
  Stack : List Int
  In : Int
  Out : List Int
  Code : Int
  Steps : Int
deriving DecidableEq, Inhabited
structure builder where
  c : Circuit
  line : List (Gate × Int)
  full : Bool
deriving DecidableEq, Inhabited
structure Formula where
  Vars : Int
  Clauses : List (List Int)
deriving DecidableEq, Inhabited
structure l04Net where
  c : Circuit
  full : Bool
deriving DecidableEq, Inhabited
/-- a term without kids -/
structure Term where
  Op : Int
  W : Int
  N : Int
  Name : Str
deriving DecidableEq, Inhabited
structure Path where
  Pc : Int
  Regs : List Term
  Mem : List Term
  Stack : List Int
  In : Int
  Out : List Term
  Code : Int
  Steps : Int
  Cond : List Term
  Turns : List Int
deriving DecidableEq, Inhabited
structure l01Cur where
  b : List Byt
  i : Int
  h : Int
deriving DecidableEq, Inhabited
end D
def fitInt (n : Int) : Prop := -9223372036854775808 ≤ n ∧ n ≤ 9223372036854775807
def fitByt (x : Byt) : Prop := 0 ≤ x.n ∧ x.n ≤ 255
def fitAny {α : Type} (_ : α) : Prop := True
def fitList {α : Type} (fit : α → Prop) (l : List α) : Prop := l.length ≤ 9223372036854775807 ∧ ∀ x ∈ l, fit x
def fit_Gate (x : D.Gate) : Prop := fitInt x.A ∧ fitInt x.B
def fitZ (x : Int) : Bool := (Lit.int .i64 x).wf
def fitK_Gate (x : D.Gate) : Bool := fitZ x.A && fitZ x.B
def fit_Circuit (x : D.Circuit) : Prop := fitInt x.Inputs ∧ fitList fit_Gate x.Gates
def fit_Ins (x : D.Ins) : Prop := fitInt x.Op ∧ fitInt x.A ∧ fitInt x.B ∧ fitInt x.C
def fit_Program (x : D.Program) : Prop := fitInt x.W ∧ fitInt x.Mem ∧ fitInt x.In ∧ fitList fit_Ins x.Code
def fit_State (x : D.State) : Prop := fitInt x.Pc ∧ fitList fitInt x.Regs ∧ fitList fitInt x.Mem ∧ fitList fitInt x.Stack ∧ fitInt x.In ∧ fitList fitInt x.Out ∧ fitInt x.Code ∧ fitInt x.Steps
end Go.GL
