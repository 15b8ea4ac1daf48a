/- Own library, part p: the data that the program works on, and the words of the lifted functions. No program in sight. -/
import Derived.IntWalk
namespace Go.GL

/-- a string -/
structure Str where
  bytes : List UInt8
deriving DecidableEq, Inhabited

/-- a byte -/
structure Byt where
  n : Int
deriving DecidableEq, Inhabited

abbrev w64 (x : Int) : Int := IntKind.i64.wrap x

def len {α : Type} (l : List α) : Int := l.length
def get? {α : Type} (l : List α) (i : Int) : Option α := if 0 ≤ i then l[i.toNat]? else none
def set? {α : Type} (l : List α) (i : Int) (x : α) : Option (List α) := if 0 ≤ i ∧ i.toNat < l.length then some (l.set i.toNat x) else none
theorem get?_nn {α : Type} {l : List α} {i : Int} {x : α} (h : get? l i = some x) : 0 ≤ i := by
  unfold get? at h
  split at h
  · assumption
  · cases h
theorem get?_at {α : Type} {l : List α} {i : Int} {x : α} (h : get? l i = some x) : l[i.toNat]? = some x := by
  unfold get? at h
  split at h
  · exact h
  · cases h
def shl? (a b : Int) : Option Int := if b < 0 then none else some (w64 (a * 2 ^ min b.toNat 64))
/-- a byte of a string -/
def Str.eqb (a b : Str) : Bool := (ByteArray.mk a.bytes.toArray).toList == (ByteArray.mk b.bytes.toArray).toList
/-- the order of strings -/
def Str.ltb (a b : Str) : Bool := Op.bytesLess (ByteArray.mk a.bytes.toArray).toList (ByteArray.mk b.bytes.toArray).toList
def sidx? (s : Str) (i : Int) : Option Int := if 0 ≤ i then s.bytes[i.toNat]?.map (fun b => (b.toNat : Int)) else none
def room : Nat := 4294967296
def mk? {α : Type} (n : Int) (z : α) : Option (List α) := if 0 ≤ n ∧ n.toNat ≤ room then some (List.replicate n.toNat z) else none
def app? {α : Type} (l m : List α) : Option (List α) := if l.length + m.length ≤ room then some (l ++ m) else none
def cut? {α : Type} (l : List α) (lo hi : Int) : Option (List α) := if 0 ≤ lo ∧ lo ≤ hi ∧ hi ≤ l.length then some ((l.take hi.toNat).drop lo.toNat) else none

/-- v, ok := m[x] -/
def mget2? {κ β : Type} [DecidableEq κ] (fit : κ → Bool) (z : β) (m : List (κ × β)) (x : κ) : Option (β × Bool) := if fit x = true then some ((m.lookup x).getD z, (m.lookup x).isSome) else none
/-- m[x] = y, of elements that must fit -/
def mputE? {κ β : Type} (fit : κ → Bool) (efit : β → Bool) (m : List (κ × β)) (x : κ) (y : β) : Option (List (κ × β)) := if fit x = true ∧ efit y = true ∧ m.length ≤ room then some ((x, y) :: m) else none
def iterN {σt ρt : Type} (B : σt → Option (σt ⊕ ρt)) : Nat → σt → Option ρt
  | 0, _ => none
  | n + 1, s =>
    match B s with
    | none => none
    | some (.inl s') => iterN B n s'
    | some (.inr r) => some r

namespace D
structure Gate where
  A : Int
  B : Int
deriving DecidableEq, Inhabited
structure Circuit where
  Inputs : Int
  Gates : List Gate
deriving DecidableEq, Inhabited
structure Ins where
  Op : Int
  A : Int
  B : Int
  C : Int
deriving DecidableEq, Inhabited
structure Program where
  W : Int
  Mem : Int
  In : Int
  Code : List Ins
deriving DecidableEq, Inhabited
structure State where
  Pc : Int
  Regs : List Int
  Mem : List Int
  Stack : List Int
  In : Int
  Out : List Int
  Code : Int
  Steps : Int
deriving DecidableEq, Inhabited
structure builder where
  c : Circuit
  line : List (Gate × Int)
  full : Bool
deriving DecidableEq, Inhabited
structure Formula where
  Vars : Int
  Clauses : List (List Int)
deriving DecidableEq, Inhabited
structure l04Net where
  c : Circuit
  full : Bool
deriving DecidableEq, Inhabited
structure Term where
  Op : Int
  W : Int
  N : Int
  Name : Str
  Kids : List Term
deriving Inhabited
structure Value where
  Name : Str
  W : Int
  N : Int
deriving DecidableEq, Inhabited
structure Proof where
  Var : Int
  Kids : List Proof
deriving Inhabited
structure termCheck where
  count : Int
  widths : Option (List (Str × Int))
deriving DecidableEq, Inhabited
structure Path where
  Pc : Int
  Regs : List Term
  Mem : List Term
  Stack : List Int
  In : Int
  Out : List Term
  Code : Int
  Steps : Int
  Cond : List Term
  Turns : List Int
deriving Inhabited
structure l01Cur where
  b : List Byt
  i : Int
  h : Int
deriving DecidableEq, Inhabited
end D
def fitInt (n : Int) : Prop := -9223372036854775808 ≤ n ∧ n ≤ 9223372036854775807
def fitList {α : Type} (fit : α → Prop) (l : List α) : Prop := l.length ≤ 9223372036854775807 ∧ ∀ x ∈ l, fit x
def fitZ (x : Int) : Bool := (Lit.int .i64 x).wf
def fitS (s : Str) : Bool := decide (s.bytes.length ≤ 9223372036854775807)
def fit_Ins (x : D.Ins) : Prop := fitInt x.Op ∧ fitInt x.A ∧ fitInt x.B ∧ fitInt x.C
def fit_Program (x : D.Program) : Prop := fitInt x.W ∧ fitInt x.Mem ∧ fitInt x.In ∧ fitList fit_Ins x.Code
mutual
def fit_Term : D.Term → Prop
  | ⟨o, w, n, s, k⟩ => fitInt o ∧ fitInt w ∧ fitInt n ∧ s.bytes.length ≤ 9223372036854775807 ∧ k.length ≤ 9223372036854775807 ∧ fits_Term k
def fits_Term : List D.Term → Prop
  | [] => True
  | x :: l => fit_Term x ∧ fits_Term l
end
theorem fits_Term_iff : ∀ {l : List D.Term}, fits_Term l ↔ ∀ x ∈ l, fit_Term x
  | [] => by unfold fits_Term; simp
  | x :: l => by unfold fits_Term; rw [fits_Term_iff (l := l)]; simp
def fit_Path (x : D.Path) : Prop := fitInt x.Pc ∧ fitList fit_Term x.Regs ∧ fitList fit_Term x.Mem ∧ fitList fitInt x.Stack ∧ fitInt x.In ∧ fitList fit_Term x.Out ∧ fitInt x.Code ∧ fitInt x.Steps ∧ fitList fit_Term x.Cond ∧ fitList fitInt x.Turns
end Go.GL
