/- Go functions as Lean functions, printed by a program. -/
import Derived.Test.YtbljmkpofaibeaaGreatLib1
import Derived.Lib.ItoaNum
import Derived.Lib.Bytealg
set_option linter.unusedVariables false
namespace Go.GL
structure D.l06Maker where
  bad : Bool
deriving Inhabited
def laws_szInsS (p0 : List D.Ins) (p1 : Int) : Option Int :=
 if (decide ((w64 (p1 - (len p0))) < 0)) then
  some (-1)
 else
  some (w64 (p1 - (len p0)))

def laws_szProgram (p0 : D.Program) (p1 : Int) : Option Int :=
 (laws_szInsS p0.Code p1).bind fun x1 =>
 if (decide (x1 < 0)) then
  some (-1)
 else
  some x1

mutual
def laws_szTerm (n : Nat) (p0 : D.Term) (p1 : Int) : Option Int :=
 match n with
 | 0 => none
 | n + 1 =>
 if (decide ((w64 (p1 - (len p0.Name.bytes))) < 0)) then
  some (-1)
 else
  (laws_szTermS n p0.Kids (w64 (p1 - (len p0.Name.bytes)))).bind fun x1 =>
  if (decide (x1 < 0)) then
   some (-1)
  else
   some x1

def laws_szTermS (n : Nat) (p0 : List D.Term) (p1 : Int) : Option Int :=
 match n with
 | 0 => none
 | n + 1 =>
 if (decide ((w64 (p1 - (len p0))) < 0)) then
  some (-1)
 else
  (iterN (fun (s1 : Int × Int) =>
   if (decide (s1.2 < (len p0))) then
    (get? p0 s1.2).bind fun x1 =>
    (laws_szTerm n x1 s1.1).bind fun x2 =>
    if (decide (x2 < 0)) then
     some (.inr (.inr (-1)))
    else
     some (.inl (x2, (w64 (s1.2 + 1))))
   else
    some (.inr (.inl (s1.1)))
  ) n ((w64 (p1 - (len p0))), 0)).bind fun (rl1 : (Int) ⊕ Int) =>
  match rl1 with
  | .inl s1r =>
   some s1r
  | .inr v => some v
end


def laws_szIntS (p0 : List Int) (p1 : Int) : Option Int :=
 if (decide ((w64 (p1 - (len p0))) < 0)) then
  some (-1)
 else
  some (w64 (p1 - (len p0)))

def laws_szPath (n : Nat) (p0 : D.Path) (p1 : Int) : Option Int :=
 (laws_szTermS n p0.Regs p1).bind fun x1 =>
 if (decide (x1 < 0)) then
  some (-1)
 else
  (laws_szTermS n p0.Mem x1).bind fun x2 =>
  if (decide (x2 < 0)) then
   some (-1)
  else
   (laws_szIntS p0.Stack x2).bind fun x3 =>
   if (decide (x3 < 0)) then
    some (-1)
   else
    (laws_szTermS n p0.Out x3).bind fun x4 =>
    if (decide (x4 < 0)) then
     some (-1)
    else
     (laws_szTermS n p0.Cond x4).bind fun x5 =>
     if (decide (x5 < 0)) then
      some (-1)
     else
      (laws_szIntS p0.Turns x5).bind fun x6 =>
      if (decide (x6 < 0)) then
       some (-1)
      else
       some x6

def laws_toIns (p0 : D.Ins) : Option D.Ins :=
 some p0

def laws_toInsS (n : Nat) (p0 : List D.Ins) : Option (List D.Ins) :=
 (mk? (len p0) ((D.Ins.mk 0 0 0 0) : D.Ins)).bind fun x1 =>
 (iterN (fun (s1 : Int × (List D.Ins)) =>
  if (decide (s1.1 < (len p0))) then
   (get? p0 s1.1).bind fun x2 =>
   (laws_toIns x2).bind fun x3 =>
   (set? s1.2 s1.1 x3).bind fun x4 =>
   some (.inl ((w64 (s1.1 + 1)), x4))
  else
   some (.inr (s1.2))
 ) n (0, x1)).bind fun (rl1 : (List D.Ins)) =>
 some rl1

def laws_toProgram (n : Nat) (p0 : D.Program) : Option D.Program :=
 (laws_toInsS n p0.Code).bind fun x1 =>
 some (D.Program.mk p0.W p0.Mem p0.In x1)

mutual
def laws_toTerm (n : Nat) (p0 : D.Term) : Option D.Term :=
 match n with
 | 0 => none
 | n + 1 =>
 (laws_toTermS n p0.Kids).bind fun x1 =>
 some (D.Term.mk p0.Op p0.W p0.N p0.Name x1)

def laws_toTermS (n : Nat) (p0 : List D.Term) : Option (List D.Term) :=
 match n with
 | 0 => none
 | n + 1 =>
 (mk? (len p0) ((D.Term.mk 0 0 0 ⟨[]⟩ ([] : List D.Term)) : D.Term)).bind fun x1 =>
 (iterN (fun (s1 : Int × (List D.Term)) =>
  if (decide (s1.1 < (len p0))) then
   (get? p0 s1.1).bind fun x2 =>
   (laws_toTerm n x2).bind fun x3 =>
   (set? s1.2 s1.1 x3).bind fun x4 =>
   some (.inl ((w64 (s1.1 + 1)), x4))
  else
   some (.inr (s1.2))
 ) n (0, x1)).bind fun (rl1 : (List D.Term)) =>
 some rl1
end


def laws_toIntS (n : Nat) (p0 : List Int) : Option (List Int) :=
 (mk? (len p0) (0 : Int)).bind fun x1 =>
 (iterN (fun (s1 : Int × (List Int)) =>
  if (decide (s1.1 < (len p0))) then
   (get? p0 s1.1).bind fun x2 =>
   (set? s1.2 s1.1 x2).bind fun x3 =>
   some (.inl ((w64 (s1.1 + 1)), x3))
  else
   some (.inr (s1.2))
 ) n (0, x1)).bind fun (rl1 : (List Int)) =>
 some rl1

def laws_toPath (n : Nat) (p0 : D.Path) : Option D.Path :=
 (laws_toTermS n p0.Regs).bind fun x1 =>
 (laws_toTermS n p0.Mem).bind fun x2 =>
 (laws_toIntS n p0.Stack).bind fun x3 =>
 (laws_toTermS n p0.Out).bind fun x4 =>
 (laws_toTermS n p0.Cond).bind fun x5 =>
 (laws_toIntS n p0.Turns).bind fun x6 =>
 some (D.Path.mk p0.Pc x1 x2 x3 p0.In x4 p0.Code p0.Steps x5 x6)

def spec_l01In (p0 : Int) (p1 : Int) (p2 : Int) : Option Bool :=
 some ((decide (p0 ≥ p1)) && (decide (p0 ≤ p2)))

def spec_WordOk (p0 : Int) (p1 : Int) : Option Bool :=
 (spec_l01In p0 1 16).bind fun x1 =>
 (if x1 then (shl? 1 p0) else some default).bind fun x2 =>
 (if x1 then (spec_l01In p1 0 (w64 (x2 - 1))) else some default).bind fun x3 =>
 some (x1 && x3)

def spec_l05Reg (p0 : Int) : Option Bool :=
 (spec_l01In p0 0 3).bind fun x1 =>
 some x1

def spec_l05Ins (p0 : D.Ins) (p1 : Int) (p2 : Int) : Option Bool :=
 (spec_l01In p0.B 0 p2).bind fun x1 =>
 if (p0.Op == 1) then
  (spec_l05Reg p0.A).bind fun x2 =>
  (if x2 then (spec_WordOk p1 p0.B) else some default).bind fun x3 =>
  some ((x2 && x3) && (p0.C == 0))
 else
  (
   if (p0.Op == 2) then
    some (.inl ((p0.Op == 2)))
   else
    some (.inl (((p0.Op == 7) || (p0.Op == 8))))
  ).bind fun (rl1 : (Bool) ⊕ Bool) =>
  match rl1 with
  | .inl s1r =>
   if s1r then
    (spec_l05Reg p0.A).bind fun x4 =>
    (if x4 then (spec_l05Reg p0.B) else some default).bind fun x5 =>
    some ((x4 && x5) && (p0.C == 0))
   else
    if (p0.Op == 3) then
     (spec_l05Reg p0.A).bind fun x6 =>
     (if x6 then (spec_l05Reg p0.B) else some default).bind fun x7 =>
     (if (x6 && x7) then (spec_l01In p0.C 3 16) else some default).bind fun x8 =>
     some ((x6 && x7) && x8)
    else
     (
      if (p0.Op == 4) then
       some (.inl ((p0.Op == 4)))
      else
       if (p0.Op == 5) then
        some (.inl ((p0.Op == 5)))
       else
        some (.inl (((p0.Op == 6) || (p0.Op == 13))))
     ).bind fun (rl2 : (Bool) ⊕ Bool) =>
     match rl2 with
     | .inl s2r =>
      if s2r then
       (spec_l05Reg p0.A).bind fun x9 =>
       some ((x9 && (p0.B == 0)) && (p0.C == 0))
      else
       if ((p0.Op == 9) || (p0.Op == 11)) then
        some (((p0.A == 0) && x1) && (p0.C == 0))
       else
        if (p0.Op == 10) then
         (spec_l05Reg p0.A).bind fun x10 =>
         some ((x10 && x1) && (p0.C == 0))
        else
         if ((p0.Op == 12) || (p0.Op == 14)) then
          some (((p0.A == 0) && (p0.B == 0)) && (p0.C == 0))
         else
          some false
     | .inr v => some v
  | .inr v => some v

def spec_ProgramOk (n : Nat) (p0 : D.Program) : Option Bool :=
 (spec_l01In p0.W 2 8).bind fun x1 =>
 (if (!x1) then some default else (spec_l01In p0.Mem 1 6)).bind fun x2 =>
 (if ((!x1) || (!x2)) then some default else (spec_WordOk p0.W p0.Mem)).bind fun x3 =>
 (if (((!x1) || (!x2)) || (!x3)) then some default else (spec_l01In p0.In 0 3)).bind fun x4 =>
 (if ((((!x1) || (!x2)) || (!x3)) || (!x4)) then some default else (spec_l01In (len p0.Code) 1 40)).bind fun x5 =>
 if (((((!x1) || (!x2)) || (!x3)) || (!x4)) || (!x5)) then
  some false
 else
  (iterN (fun (s1 : Int) =>
   if (decide (s1 < (len p0.Code))) then
    (get? p0.Code s1).bind fun x6 =>
    (spec_l05Ins x6 p0.W (len p0.Code)).bind fun x7 =>
    if (!x7) then
     some (.inr (.inr false))
    else
     some (.inl ((w64 (s1 + 1))))
   else
    some (.inr (.inl ()))
  ) n (0)).bind fun (rl1 : (Unit) ⊕ Bool) =>
  match rl1 with
  | .inl s1r =>
   some true
  | .inr v => some v

def spec_l02Few (n : Nat) (p0 : D.Term) (p1 : Int) : Option (Bool × Int) :=
 match n with
 | 0 => none
 | n + 1 =>
 (iterN (fun (s1 : Int × Int) =>
  if ((decide (s1.1 < (len p0.Kids))) && (decide (s1.2 ≥ 0))) then
   (get? p0.Kids s1.1).bind fun x1 =>
   (spec_l02Few n x1 s1.2).bind fun x2 =>
   some (.inl ((w64 (s1.1 + 1)), x2.2))
  else
   some (.inr (s1.2))
 ) n (0, (w64 (p1 - 1)))).bind fun (rl1 : Int) =>
 some ((decide (rl1 ≥ 0)), rl1)


def spec_IsName (n : Nat) (p0 : Str) : Option Bool :=
 (iterN (fun (s1 : Int) =>
  if (decide (s1 < (len p0.bytes))) then
   (sidx? p0 s1).bind fun x1 =>
   (spec_l01In (w64 x1) 97 122).bind fun x2 =>
   (if (s1 == 0) then some default else (if (!x2) then (sidx? p0 s1) else some default)).bind fun x3 =>
   (if (s1 == 0) then some default else (if (!x2) then (spec_l01In (w64 x3) 48 57) else some default)).bind fun x4 =>
   if ((!x2) && ((s1 == 0) || (!x4))) then
    some (.inr (.inr false))
   else
    some (.inl ((w64 (s1 + 1))))
  else
   some (.inr (.inl ()))
 ) n (0)).bind fun (rl1 : (Unit) ⊕ Bool) =>
 match rl1 with
 | .inl s1r =>
  (spec_l01In (len p0.bytes) 1 8).bind fun x5 =>
  some x5
 | .inr v => some v

def spec_l02Node (n : Nat) (p0 : D.Term) : Option Bool :=
 match n with
 | 0 => none
 | n + 1 =>
 (spec_l01In p0.W 1 16).bind fun x1 =>
 if (((!x1) || ((!(Str.eqb p0.Name ⟨[]⟩)) && (p0.Op != 22))) || (((p0.N != 0) && (p0.Op != 0)) && (p0.Op != 19))) then
  some false
 else
  (iterN (fun (s1 : Int) =>
   if (decide (s1 < (len p0.Kids))) then
    (get? p0.Kids s1).bind fun x2 =>
    (spec_l02Node n x2).bind fun x3 =>
    if (!x3) then
     some (.inr (.inr false))
    else
     some (.inl ((w64 (s1 + 1))))
   else
    some (.inr (.inl ()))
  ) n (0)).bind fun (rl1 : (Unit) ⊕ Bool) =>
  match rl1 with
  | .inl s1r =>
   (iterN (fun (s2 : Int × (List Int)) =>
    if ((decide (s2.1 < (len p0.Kids))) && (decide (s2.1 < 3))) then
     (get? p0.Kids s2.1).bind fun x4 =>
     (set? s2.2 s2.1 x4.W).bind fun x5 =>
     some (.inl ((w64 (s2.1 + 1)), x5))
    else
     some (.inr (s2.2))
   ) n (0, ([0, 0, 0] : List Int))).bind fun (rl2 : (List Int)) =>
   if (p0.Op == 0) then
    (if ((len p0.Kids) == 0) then (spec_WordOk p0.W p0.N) else some default).bind fun x6 =>
    some (((len p0.Kids) == 0) && x6)
   else
    if (p0.Op == 22) then
     (if ((len p0.Kids) == 0) then (spec_IsName n p0.Name) else some default).bind fun x7 =>
     some (((len p0.Kids) == 0) && x7)
    else
     (spec_l01In p0.Op 1 2).bind fun x8 =>
     if x8 then
      (if ((len p0.Kids) == 1) then (get? rl2 0) else some default).bind fun x9 =>
      some (((len p0.Kids) == 1) && (x9 == p0.W))
     else
      (spec_l01In p0.Op 3 13).bind fun x10 =>
      if x10 then
       (if ((len p0.Kids) == 2) then (get? rl2 0) else some default).bind fun x11 =>
       (if (((len p0.Kids) == 2) && (x11 == p0.W)) then (get? rl2 1) else some default).bind fun x12 =>
       some ((((len p0.Kids) == 2) && (x11 == p0.W)) && (x12 == p0.W))
      else
       (spec_l01In p0.Op 14 16).bind fun x13 =>
       if x13 then
        (if ((len p0.Kids) == 2) then (get? rl2 0) else some default).bind fun x14 =>
        (if ((len p0.Kids) == 2) then (get? rl2 1) else some default).bind fun x15 =>
        some ((((len p0.Kids) == 2) && (x14 == x15)) && (p0.W == 1))
       else
        if (p0.Op == 17) then
         (if ((len p0.Kids) == 3) then (get? rl2 0) else some default).bind fun x16 =>
         (if (((len p0.Kids) == 3) && (x16 == 1)) then (get? rl2 1) else some default).bind fun x17 =>
         (if ((((len p0.Kids) == 3) && (x16 == 1)) && (x17 == p0.W)) then (get? rl2 2) else some default).bind fun x18 =>
         some (((((len p0.Kids) == 3) && (x16 == 1)) && (x17 == p0.W)) && (x18 == p0.W))
        else
         if (p0.Op == 18) then
          (if ((len p0.Kids) == 2) then (get? rl2 0) else some default).bind fun x19 =>
          (if ((len p0.Kids) == 2) then (get? rl2 1) else some default).bind fun x20 =>
          some (((len p0.Kids) == 2) && ((w64 (x19 + x20)) == p0.W))
         else
          if (p0.Op == 19) then
           (if ((len p0.Kids) == 1) then (spec_l01In p0.N 0 16) else some default).bind fun x21 =>
           (if (((len p0.Kids) == 1) && x21) then (get? rl2 0) else some default).bind fun x22 =>
           some ((((len p0.Kids) == 1) && x21) && (decide ((w64 (p0.N + p0.W)) ≤ x22)))
          else
           (spec_l01In p0.Op 20 21).bind fun x23 =>
           (if (x23 && ((len p0.Kids) == 1)) then (get? rl2 0) else some default).bind fun x24 =>
           some ((x23 && ((len p0.Kids) == 1)) && (decide (x24 ≤ p0.W)))
  | .inr v => some v


def spec_l02Vars (n : Nat) (p0 : D.Term) (p1 : List D.Value) : Option ((List D.Value) × Bool) :=
 match n with
 | 0 => none
 | n + 1 =>
 if (p0.Op == 22) then
  (iterN (fun (s1 : Int) =>
   (if (decide (s1 < (len p1))) then (get? p1 s1) else some default).bind fun x1 =>
   if ((decide (s1 < (len p1))) && (Str.ltb x1.Name p0.Name)) then
    some (.inl ((w64 (s1 + 1))))
   else
    some (.inr (s1))
  ) n (0)).bind fun (rl1 : Int) =>
  (if (decide (rl1 < (len p1))) then (get? p1 rl1) else some default).bind fun x2 =>
  if ((decide (rl1 < (len p1))) && (Str.eqb x2.Name p0.Name)) then
   (get? p1 rl1).bind fun x3 =>
   some (p1, (x3.W == p0.W))
  else
   (cut? p1 0 rl1).bind fun x4 =>
   (app? ([] : List D.Value) x4).bind fun x5 =>
   (app? x5 ([(D.Value.mk p0.Name p0.W 0)] : List D.Value)).bind fun x6 =>
   (cut? p1 rl1 (len p1)).bind fun x7 =>
   (app? x6 x7).bind fun x8 =>
   some (x8, true)
 else
  (iterN (fun (s2 : (List D.Value) × Int) =>
   if (decide (s2.2 < (len p0.Kids))) then
    (get? p0.Kids s2.2).bind fun x9 =>
    (spec_l02Vars n x9 s2.1).bind fun x10 =>
    if (!x10.2) then
     some (.inr (.inr (([] : List D.Value), false)))
    else
     some (.inl (x10.1, (w64 (s2.2 + 1))))
   else
    some (.inr (.inl (s2.1)))
  ) n (p1, 0)).bind fun (rl2 : ((List D.Value)) ⊕ ((List D.Value) × Bool)) =>
  match rl2 with
  | .inl s2r =>
   some (s2r, true)
  | .inr v => some v


def spec_TermOk (n : Nat) (p0 : D.Term) : Option Bool :=
 (spec_l02Few n p0 240).bind fun x1 =>
 if (!x1.1) then
  if true then
   some false
  else
   (spec_l02Vars n p0 ([] : List D.Value)).bind fun x2 =>
   some x2.2
 else
  (spec_l02Node n p0).bind fun x3 =>
  if (!x3) then
   some false
  else
   (spec_l02Vars n p0 ([] : List D.Value)).bind fun x4 =>
   some x4.2

def spec_l06Terms (n : Nat) (p0 : List D.Term) (p1 : Int) : Option Bool :=
 (iterN (fun (s1 : Int) =>
  if (decide (s1 < (len p0))) then
   (get? p0 s1).bind fun x1 =>
   (spec_TermOk n x1).bind fun x2 =>
   if ((!x2) || (x1.W != p1)) then
    some (.inr (.inr false))
   else
    some (.inl ((w64 (s1 + 1))))
  else
   some (.inr (.inl ()))
 ) n (0)).bind fun (rl1 : (Unit) ⊕ Bool) =>
 match rl1 with
 | .inl s1r =>
  some true
 | .inr v => some v

def spec_PathOk (n : Nat) (p0 : D.Program) (p1 : D.Path) : Option Bool :=
 (spec_ProgramOk n p0).bind fun x1 =>
 (if (!x1) then some default else (spec_l01In p1.Pc 0 (len p0.Code))).bind fun x2 =>
 (if (((((!x1) || (!x2)) || ((len p1.Regs) != 4)) || ((len p1.Mem) != p0.Mem)) || (decide ((len p1.Stack) > 3))) then some default else (spec_l01In p1.In 0 p0.In)).bind fun x3 =>
 (if (((((((!x1) || (!x2)) || ((len p1.Regs) != 4)) || ((len p1.Mem) != p0.Mem)) || (decide ((len p1.Stack) > 3))) || (!x3)) || (decide ((len p1.Out) > 6))) then some default else (spec_l01In p1.Code 0 9)).bind fun x4 =>
 (if ((((((((!x1) || (!x2)) || ((len p1.Regs) != 4)) || ((len p1.Mem) != p0.Mem)) || (decide ((len p1.Stack) > 3))) || (!x3)) || (decide ((len p1.Out) > 6))) || (!x4)) then some default else (spec_l01In p1.Steps 0 400)).bind fun x5 =>
 if (((((((((((!x1) || (!x2)) || ((len p1.Regs) != 4)) || ((len p1.Mem) != p0.Mem)) || (decide ((len p1.Stack) > 3))) || (!x3)) || (decide ((len p1.Out) > 6))) || (!x4)) || (!x5)) || (decide ((len p1.Cond) > 60))) || (decide ((len p1.Turns) > 60))) then
  some false
 else
  (iterN (fun (s1 : Int) =>
   if (decide (s1 < (len p1.Stack))) then
    (get? p1.Stack s1).bind fun x6 =>
    (spec_l01In x6 0 (len p0.Code)).bind fun x7 =>
    if (!x7) then
     some (.inr (.inr false))
    else
     some (.inl ((w64 (s1 + 1))))
   else
    some (.inr (.inl ()))
  ) n (0)).bind fun (rl1 : (Unit) ⊕ Bool) =>
  match rl1 with
  | .inl s1r =>
   (iterN (fun (s2 : Int) =>
    if (decide (s2 < (len p1.Turns))) then
     (get? p1.Turns s2).bind fun x8 =>
     (spec_l01In x8 0 1).bind fun x9 =>
     if (!x9) then
      some (.inr (.inr false))
     else
      some (.inl ((w64 (s2 + 1))))
    else
     some (.inr (.inl ()))
   ) n (0)).bind fun (rl2 : (Unit) ⊕ Bool) =>
   match rl2 with
   | .inl s2r =>
    (spec_l06Terms n p1.Regs p0.W).bind fun x10 =>
    (if x10 then (spec_l06Terms n p1.Mem p0.W) else some default).bind fun x11 =>
    (if (x10 && x11) then (spec_l06Terms n p1.Out p0.W) else some default).bind fun x12 =>
    (if ((x10 && x11) && x12) then (spec_l06Terms n p1.Cond 1) else some default).bind fun x13 =>
    some (((x10 && x11) && x12) && x13)
   | .inr v => some v
  | .inr v => some v

def spec_l05Ints (n : Nat) (p0 : List Int) (p1 : List Int) : Option Bool :=
 if ((len p0) != (len p1)) then
  some false
 else
  (iterN (fun (s1 : Int) =>
   if (decide (s1 < (len p0))) then
    (get? p0 s1).bind fun x1 =>
    (get? p1 s1).bind fun x2 =>
    if (x1 != x2) then
     some (.inr (.inr false))
    else
     some (.inl ((w64 (s1 + 1))))
   else
    some (.inr (.inl ()))
  ) n (0)).bind fun (rl1 : (Unit) ⊕ Bool) =>
  match rl1 with
  | .inl s1r =>
   some true
  | .inr v => some v

def spec_l07Alike (n : Nat) (p0 : D.Path) (p1 : D.Path) : Option Bool :=
 (if (p0.Pc == p1.Pc) then (spec_l05Ints n p0.Stack p1.Stack) else some default).bind fun x1 =>
 some ((((p0.Pc == p1.Pc) && x1) && (p0.In == p1.In)) && ((len p0.Out) == (len p1.Out)))

def spec_l02Sign (p0 : Int) (p1 : Int) : Option Int :=
 if (decide (p0 < p1)) then
  some (-1)
 else
  if (decide (p0 > p1)) then
   some 1
  else
   some 0

def spec_CompareTerms (n : Nat) (p0 : D.Term) (p1 : D.Term) : Option Int :=
 match n with
 | 0 => none
 | n + 1 =>
 (spec_l02Sign p0.Op p1.Op).bind fun x1 =>
 (spec_l02Sign p0.W p1.W).bind fun x2 =>
 (spec_l02Sign p0.N p1.N).bind fun x3 =>
 (iterN (fun (s1 : Int) =>
  if (decide (s1 < (len ([x1, x2, x3] : List Int)))) then
   (get? ([x1, x2, x3] : List Int) s1).bind fun x4 =>
   if (x4 != 0) then
    some (.inr (.inr x4))
   else
    some (.inl ((w64 (s1 + 1))))
  else
   some (.inr (.inl ()))
 ) n (0)).bind fun (rl1 : (Unit) ⊕ Int) =>
 match rl1 with
 | .inl s1r =>
  if (!(Str.eqb p0.Name p1.Name)) then
   if (Str.ltb p0.Name p1.Name) then
    some (-1)
   else
    some 1
  else
   (iterN (fun (s2 : Int) =>
    if (decide (s2 < (len p0.Kids))) then
     (get? p0.Kids s2).bind fun x5 =>
     if (s2 == (len p1.Kids)) then
      some (.inr (.inr 1))
     else
      (get? p1.Kids s2).bind fun x6 =>
      (spec_CompareTerms n x5 x6).bind fun x7 =>
      if (x7 != 0) then
       some (.inr (.inr x7))
      else
       some (.inl ((w64 (s2 + 1))))
    else
     some (.inr (.inl ()))
   ) n (0)).bind fun (rl2 : (Unit) ⊕ Int) =>
   match rl2 with
   | .inl s2r =>
    (spec_l02Sign (len p0.Kids) (len p1.Kids)).bind fun x8 =>
    some x8
   | .inr v => some v
 | .inr v => some v


def spec_l02Same (n : Nat) (p0 : D.Term) (p1 : D.Term) : Option Bool :=
 (spec_CompareTerms n p0 p1).bind fun x1 =>
 some (x1 == 0)

def spec_l02Const (p0 : Int) (p1 : Int) : Option D.Term :=
 some (D.Term.mk 0 p0 p1 ⟨[]⟩ ([] : List D.Term))

def spec_WordOf (p0 : Int) (p1 : Int) : Option Int :=
 (spec_l01In p0 1 16).bind fun x1 =>
 if (!x1) then
  some (-1)
 else
  (shl? 1 p0).bind fun x2 =>
  some (band p1 (w64 (x2 - 1)))

def spec_ApplyUnary (p0 : Int) (p1 : Int) (p2 : Int) : Option Int :=
 (spec_WordOk p1 p2).bind fun x1 =>
 if (!x1) then
  some (-1)
 else
  if (p0 == 1) then
   (shl? 1 p1).bind fun x2 =>
   some (w64 ((w64 (x2 - 1)) - p2))
  else
   if (p0 == 2) then
    (spec_WordOf p1 (w64 (0 - p2))).bind fun x3 =>
    some x3
   else
    some (-1)

def spec_SignedOf (p0 : Int) (p1 : Int) : Option Int :=
 (spec_WordOk p0 p1).bind fun x1 =>
 if (!x1) then
  some 0
 else
  (shr? p1 (w64 (p0 - 1))).bind fun x2 =>
  if (x2 == 1) then
   (shl? 1 p0).bind fun x3 =>
   some (w64 (p1 - x3))
  else
   some p1

def spec_l01Truth (p0 : Bool) : Option Int :=
 if p0 then
  some 1
 else
  some 0

def spec_ApplyBinary (p0 : Int) (p1 : Int) (p2 : Int) (p3 : Int) : Option Int :=
 (spec_WordOk p1 p2).bind fun x1 =>
 (if (!x1) then some default else (spec_WordOk p1 p3)).bind fun x2 =>
 if ((!x1) || (!x2)) then
  some (-1)
 else
  if (p0 == 3) then
   (spec_WordOf p1 (w64 (p2 + p3))).bind fun x3 =>
   some x3
  else
   if (p0 == 4) then
    (spec_WordOf p1 (w64 (p2 - p3))).bind fun x4 =>
    some x4
   else
    if (p0 == 5) then
     (spec_WordOf p1 (w64 (p2 * p3))).bind fun x5 =>
     some x5
    else
     if (p0 == 6) then
      if (p3 == 0) then
       (shl? 1 p1).bind fun x6 =>
       some (w64 (x6 - 1))
      else
       (quo? p2 p3).bind fun x7 =>
       some x7
     else
      if (p0 == 7) then
       if (p3 == 0) then
        some p2
       else
        (rem? p2 p3).bind fun x8 =>
        some x8
      else
       if (p0 == 8) then
        some (band p2 p3)
       else
        if (p0 == 9) then
         some (bor p2 p3)
        else
         if (p0 == 10) then
          some (bxor p2 p3)
         else
          if (p0 == 11) then
           if (decide (p3 ≥ p1)) then
            some 0
           else
            (shl? p2 p3).bind fun x9 =>
            (spec_WordOf p1 x9).bind fun x10 =>
            some x10
          else
           if (p0 == 12) then
            if (decide (p3 ≥ p1)) then
             some 0
            else
             (shr? p2 p3).bind fun x11 =>
             some x11
           else
            if (p0 == 13) then
             (spec_SignedOf p1 p2).bind fun x12 =>
             (shr? x12 (cond (decide (p3 ≥ p1)) (w64 (p1 - 1)) p3)).bind fun x13 =>
             (spec_WordOf p1 x13).bind fun x14 =>
             some x14
            else
             if (p0 == 14) then
              (spec_l01Truth (p2 == p3)).bind fun x15 =>
              some x15
             else
              if (p0 == 15) then
               (spec_l01Truth (decide (p2 < p3))).bind fun x16 =>
               some x16
              else
               if (p0 == 16) then
                (spec_SignedOf p1 p2).bind fun x17 =>
                (spec_SignedOf p1 p3).bind fun x18 =>
                (spec_l01Truth (decide (x17 < x18))).bind fun x19 =>
                some x19
               else
                some (-1)

def spec_JoinWords (p0 : Int) (p1 : Int) (p2 : Int) (p3 : Int) : Option Int :=
 (spec_WordOk p0 p1).bind fun x1 =>
 (if (!x1) then some default else (spec_WordOk p2 p3)).bind fun x2 =>
 if (((!x1) || (!x2)) || (decide ((w64 (p0 + p2)) > 16))) then
  some (-1)
 else
  (shl? p1 p2).bind fun x3 =>
  some (w64 (x3 + p3))

def spec_CutWord (p0 : Int) (p1 : Int) (p2 : Int) (p3 : Int) : Option Int :=
 (spec_WordOk p0 p1).bind fun x1 =>
 if (((((!x1) || (decide (p2 < 0))) || (decide (p3 < 1))) || (decide (p3 > p0))) || (decide (p2 > (w64 (p0 - p3))))) then
  some (-1)
 else
  (shr? p1 p2).bind fun x2 =>
  (spec_WordOf p3 x2).bind fun x3 =>
  some x3

def spec_WidenWord (p0 : Int) (p1 : Int) (p2 : Int) (p3 : Bool) : Option Int :=
 (spec_WordOk p0 p1).bind fun x1 =>
 if (((!x1) || (decide (p2 < p0))) || (decide (p2 > 16))) then
  some (-1)
 else
  if p3 then
   (spec_SignedOf p0 p1).bind fun x2 =>
   (spec_WordOf p2 x2).bind fun x3 =>
   some x3
  else
   some p1

def spec_l02Apply (p0 : D.Term) (p1 : List Int) : Option Int :=
 (spec_l01In p0.Op 1 2).bind fun x1 =>
 if x1 then
  (get? p1 0).bind fun x2 =>
  (spec_ApplyUnary p0.Op p0.W x2).bind fun x3 =>
  some x3
 else
  (spec_l01In p0.Op 3 16).bind fun x4 =>
  if x4 then
   (get? p0.Kids 0).bind fun x5 =>
   (get? p1 0).bind fun x6 =>
   (get? p1 1).bind fun x7 =>
   (spec_ApplyBinary p0.Op x5.W x6 x7).bind fun x8 =>
   some x8
  else
   if (p0.Op == 17) then
    (get? p1 0).bind fun x9 =>
    if (x9 == 1) then
     (get? p1 1).bind fun x10 =>
     some x10
    else
     (get? p1 2).bind fun x11 =>
     some x11
   else
    if (p0.Op == 18) then
     (get? p0.Kids 0).bind fun x12 =>
     (get? p1 0).bind fun x13 =>
     (get? p0.Kids 1).bind fun x14 =>
     (get? p1 1).bind fun x15 =>
     (spec_JoinWords x12.W x13 x14.W x15).bind fun x16 =>
     some x16
    else
     if (p0.Op == 19) then
      (get? p0.Kids 0).bind fun x17 =>
      (get? p1 0).bind fun x18 =>
      (spec_CutWord x17.W x18 p0.N p0.W).bind fun x19 =>
      some x19
     else
      (get? p0.Kids 0).bind fun x20 =>
      (get? p1 0).bind fun x21 =>
      (spec_WidenWord x20.W x21 p0.W (p0.Op == 21)).bind fun x22 =>
      some x22

def spec_l02Is (p0 : D.Term) (p1 : Int) : Option Bool :=
 some ((p0.Op == 0) && (p0.N == p1))

def spec_l02Ones (p0 : D.Term) : Option Bool :=
 (if (p0.Op == 0) then (shl? 1 p0.W) else some default).bind fun x1 =>
 some ((p0.Op == 0) && (p0.N == (w64 (x1 - 1))))

def spec_l02Equal (p0 : D.Term) : Option (D.Term × Bool) :=
 if ((p0.Op == 8) || (p0.Op == 9)) then
  (get? p0.Kids 0).bind fun x1 =>
  some (x1, true)
 else
  (
   if (p0.Op == 4) then
    some (.inl ((p0.Op == 4)))
   else
    if (p0.Op == 10) then
     some (.inl ((p0.Op == 10)))
    else
     some (.inl (((p0.Op == 15) || (p0.Op == 16))))
  ).bind fun (rl1 : (Bool) ⊕ (D.Term × Bool)) =>
  match rl1 with
  | .inl s1r =>
   if s1r then
    (spec_l02Const p0.W 0).bind fun x2 =>
    some ((D.Term.mk x2.Op x2.W x2.N x2.Name ([] : List D.Term)), true)
   else
    if (p0.Op == 14) then
     (spec_l02Const 1 1).bind fun x3 =>
     some ((D.Term.mk x3.Op x3.W x3.N x3.Name ([] : List D.Term)), true)
    else
     some (p0, false)
  | .inr v => some v

mutual
def spec_l02First (n : Nat) (p0 : D.Term) : Option (D.Term × Bool) :=
 match n with
 | 0 => none
 | n + 1 =>
 (get? p0.Kids 0).bind fun x1 =>
 (get? p0.Kids 1).bind fun x2 =>
 (spec_l02Is x1 0).bind fun x3 =>
 (spec_l02Ones x1).bind fun x4 =>
 (
  if ((p0.Op == 3) && x3) then
   some (.inl (((p0.Op == 3) && x3)))
  else
   if ((p0.Op == 9) && x3) then
    some (.inl (((p0.Op == 9) && x3)))
   else
    some (.inl (((p0.Op == 10) && x3)))
 ).bind fun (rl1 : (Bool) ⊕ (D.Term × Bool)) =>
 match rl1 with
 | .inl s1r =>
  if s1r then
   some (x2, true)
  else
   (
    if ((p0.Op == 5) && x3) then
     some (.inl (((p0.Op == 5) && x3)))
    else
     if ((p0.Op == 8) && x3) then
      some (.inl (((p0.Op == 8) && x3)))
     else
      some (.inl (((p0.Op == 9) && x4)))
   ).bind fun (rl2 : (Bool) ⊕ (D.Term × Bool)) =>
   match rl2 with
   | .inl s2r =>
    if s2r then
     some (x1, true)
    else
     (
      if ((p0.Op == 5) && (x1.N == 1)) then
       some (.inl (((p0.Op == 5) && (x1.N == 1))))
      else
       some (.inl (((p0.Op == 8) && x4)))
     ).bind fun (rl3 : (Bool) ⊕ (D.Term × Bool)) =>
     match rl3 with
     | .inl s3r =>
      if s3r then
       some (x2, true)
      else
       if ((p0.Op == 10) && x4) then
        (spec_l02Make n (D.Term.mk 1 p0.W 0 ⟨[]⟩ ([x2] : List D.Term))).bind fun x5 =>
        some (x5, true)
       else
        if (((p0.Op == 14) && (x1.W == 1)) && (x1.N == 1)) then
         some (x2, true)
        else
         if ((p0.Op == 14) && (x1.W == 1)) then
          (spec_l02Make n (D.Term.mk 1 1 0 ⟨[]⟩ ([x2] : List D.Term))).bind fun x6 =>
          some (x6, true)
         else
          some (p0, false)
     | .inr v => some v
   | .inr v => some v
 | .inr v => some v

def spec_l02Make (n : Nat) (p0 : D.Term) : Option D.Term :=
 match n with
 | 0 => none
 | n + 1 =>
 (iterN (fun (s1 : Bool × Int × (List Int)) =>
  if (decide (s1.2.1 < (len p0.Kids))) then
   (get? p0.Kids s1.2.1).bind fun x1 =>
   (app? s1.2.2 ([x1.N] : List Int)).bind fun x2 =>
   some (.inl ((s1.1 && (x1.Op == 0)), (w64 (s1.2.1 + 1)), x2))
  else
   some (.inr (s1.1, s1.2.2))
 ) n ((decide ((len p0.Kids) > 0)), 0, ([] : List Int))).bind fun (rl1 : Bool × (List Int)) =>
 if rl1.1 then
  (spec_l02Apply p0 rl1.2).bind fun x3 =>
  (spec_l02Const p0.W x3).bind fun x4 =>
  some (D.Term.mk x4.Op x4.W x4.N x4.Name ([] : List D.Term))
 else
  (spec_l01In p0.Op 3 16).bind fun x5 =>
  if x5 then
   (spec_l02Two n p0).bind fun x6 =>
   some x6
  else
   if ((p0.Op == 1) || (p0.Op == 2)) then
    (get? p0.Kids 0).bind fun x7 =>
    if (x7.Op == p0.Op) then
     (get? p0.Kids 0).bind fun x8 =>
     (get? x8.Kids 0).bind fun x9 =>
     some x9
    else
     some p0
   else
    if (p0.Op == 17) then
     (spec_l02If n p0).bind fun x10 =>
     some x10
    else
     if (p0.Op == 19) then
      (spec_l02Cut n p0).bind fun x11 =>
      some x11
     else
      if ((p0.Op == 20) || (p0.Op == 21)) then
       (get? p0.Kids 0).bind fun x12 =>
       if (x12.W == p0.W) then
        some x12
       else
        if (x12.Op == p0.Op) then
         (spec_l02Make n (D.Term.mk p0.Op p0.W 0 ⟨[]⟩ x12.Kids)).bind fun x13 =>
         some x13
        else
         some p0
      else
       if (p0.Op == 18) then
        (get? p0.Kids 0).bind fun x14 =>
        (get? p0.Kids 1).bind fun x15 =>
        (if ((x14.Op == 19) && (x15.Op == 19)) then (get? x14.Kids 0) else some default).bind fun x16 =>
        (if ((x14.Op == 19) && (x15.Op == 19)) then (get? x15.Kids 0) else some default).bind fun x17 =>
        (if ((x14.Op == 19) && (x15.Op == 19)) then (spec_l02Same n x16 x17) else some default).bind fun x18 =>
        if ((((x14.Op == 19) && (x15.Op == 19)) && x18) && (x14.N == (w64 (x15.N + x15.W)))) then
         (spec_l02Make n (D.Term.mk 19 p0.W x15.N ⟨[]⟩ x15.Kids)).bind fun x19 =>
         some x19
        else
         some p0
       else
        some p0

def spec_l02Two (n : Nat) (p0 : D.Term) : Option D.Term :=
 match n with
 | 0 => none
 | n + 1 =>
 (get? p0.Kids 0).bind fun x1 =>
 (get? p0.Kids 1).bind fun x2 =>
 (if ((p0.Op == 3) || (p0.Op == 5)) then some default else (spec_l01In p0.Op 8 10)).bind fun x3 =>
 (if ((((p0.Op == 3) || (p0.Op == 5)) || x3) || (p0.Op == 14)) then (spec_CompareTerms n x1 x2) else some default).bind fun x4 =>
 if (((((p0.Op == 3) || (p0.Op == 5)) || x3) || (p0.Op == 14)) && (decide (x4 > 0))) then
  (spec_l02Make n (D.Term.mk p0.Op p0.W p0.N p0.Name ([x2, x1] : List D.Term))).bind fun x5 =>
  some x5
 else
  (
   if (x1.Op == 0) then
    (spec_l02First n p0).bind fun x6 =>
    if x6.2 then
     some (.inr x6.1)
    else
     some (.inl ())
   else
    some (.inl ())
  ).bind fun (rl1 : (Unit) ⊕ D.Term) =>
  match rl1 with
  | .inl s1r =>
   (spec_l02Is x2 0).bind fun x7 =>
   (
    if x7 then
     (if (p0.Op == 4) then some default else (spec_l01In p0.Op 11 13)).bind fun x8 =>
     if ((p0.Op == 4) || x8) then
      some (.inr x1)
     else
      if (p0.Op == 15) then
       (spec_l02Const 1 0).bind fun x9 =>
       some (.inr (D.Term.mk x9.Op x9.W x9.N x9.Name ([] : List D.Term)))
      else
       some (.inl ())
    else
     some (.inl ())
   ).bind fun (rl2 : (Unit) ⊕ D.Term) =>
   match rl2 with
   | .inl s2r =>
    (spec_l02Same n x1 x2).bind fun x10 =>
    (
     if x10 then
      (spec_l02Equal p0).bind fun x11 =>
      if x11.2 then
       some (.inr x11.1)
      else
       some (.inl ())
     else
      some (.inl ())
    ).bind fun (rl3 : (Unit) ⊕ D.Term) =>
    match rl3 with
    | .inl s3r =>
     (if (((((p0.Op == 3) || (p0.Op == 5)) || x3) && (x1.Op == 0)) && (x2.Op == p0.Op)) then (get? x2.Kids 0) else some default).bind fun x12 =>
     if ((((((p0.Op == 3) || (p0.Op == 5)) || x3) && (x1.Op == 0)) && (x2.Op == p0.Op)) && (x12.Op == 0)) then
      (get? x2.Kids 0).bind fun x13 =>
      (spec_ApplyBinary p0.Op p0.W x1.N x13.N).bind fun x14 =>
      (spec_l02Const p0.W x14).bind fun x15 =>
      (get? x2.Kids 1).bind fun x16 =>
      (spec_l02Make n (D.Term.mk p0.Op p0.W 0 ⟨[]⟩ ([(D.Term.mk x15.Op x15.W x15.N x15.Name ([] : List D.Term)), x16] : List D.Term))).bind fun x17 =>
      some x17
     else
      some p0
    | .inr v => some v
   | .inr v => some v
  | .inr v => some v

def spec_l02If (n : Nat) (p0 : D.Term) : Option D.Term :=
 match n with
 | 0 => none
 | n + 1 =>
 (get? p0.Kids 0).bind fun x1 =>
 (get? p0.Kids 1).bind fun x2 =>
 (get? p0.Kids 2).bind fun x3 =>
 (spec_l02Is x1 1).bind fun x4 =>
 if x4 then
  some x2
 else
  (spec_l02Is x1 0).bind fun x5 =>
  if x5 then
   some x3
  else
   (spec_l02Same n x2 x3).bind fun x6 =>
   if x6 then
    some x2
   else
    if (x1.Op == 1) then
     (get? x1.Kids 0).bind fun x7 =>
     (spec_l02Make n (D.Term.mk 17 p0.W 0 ⟨[]⟩ ([x7, x3, x2] : List D.Term))).bind fun x8 =>
     some x8
    else
     (if (p0.W == 1) then (spec_l02Is x2 1) else some default).bind fun x9 =>
     (if ((p0.W == 1) && x9) then (spec_l02Is x3 0) else some default).bind fun x10 =>
     if (((p0.W == 1) && x9) && x10) then
      some x1
     else
      (if (p0.W == 1) then (spec_l02Is x2 0) else some default).bind fun x11 =>
      (if ((p0.W == 1) && x11) then (spec_l02Is x3 1) else some default).bind fun x12 =>
      if (((p0.W == 1) && x11) && x12) then
       (spec_l02Make n (D.Term.mk 1 1 0 ⟨[]⟩ ([x1] : List D.Term))).bind fun x13 =>
       some x13
      else
       some p0

def spec_l02Cut (n : Nat) (p0 : D.Term) : Option D.Term :=
 match n with
 | 0 => none
 | n + 1 =>
 (get? p0.Kids 0).bind fun x1 =>
 if (p0.W == x1.W) then
  some x1
 else
  if (x1.Op == 19) then
   (get? x1.Kids 0).bind fun x2 =>
   (spec_l02Bit n p0.W x2 (w64 (p0.N + x1.N))).bind fun x3 =>
   some x3
  else
   (if (x1.Op == 18) then (get? x1.Kids 1) else some default).bind fun x4 =>
   if ((x1.Op == 18) && (decide ((w64 (p0.N + p0.W)) ≤ x4.W))) then
    (get? x1.Kids 1).bind fun x5 =>
    (spec_l02Bit n p0.W x5 p0.N).bind fun x6 =>
    some x6
   else
    (if (x1.Op == 18) then (get? x1.Kids 1) else some default).bind fun x7 =>
    if ((x1.Op == 18) && (decide (p0.N ≥ x7.W))) then
     (get? x1.Kids 0).bind fun x8 =>
     (get? x1.Kids 1).bind fun x9 =>
     (spec_l02Bit n p0.W x8 (w64 (p0.N - x9.W))).bind fun x10 =>
     some x10
    else
     (spec_l01In x1.Op 20 21).bind fun x11 =>
     (if x11 then (get? x1.Kids 0) else some default).bind fun x12 =>
     if (x11 && (decide ((w64 (p0.N + p0.W)) ≤ x12.W))) then
      (get? x1.Kids 0).bind fun x13 =>
      (spec_l02Bit n p0.W x13 p0.N).bind fun x14 =>
      some x14
     else
      some p0

def spec_l02Bit (n : Nat) (p0 : Int) (p1 : D.Term) (p2 : Int) : Option D.Term :=
 match n with
 | 0 => none
 | n + 1 =>
 (spec_l02Make n (D.Term.mk 19 p0 p2 ⟨[]⟩ ([p1] : List D.Term))).bind fun x1 =>
 some x1
end


def spec_l02Copy (n : Nat) (p0 : D.Term) : Option D.Term :=
 match n with
 | 0 => none
 | n + 1 =>
 (iterN (fun (s1 : Int × (List D.Term)) =>
  if (decide (s1.1 < (len p0.Kids))) then
   (get? p0.Kids s1.1).bind fun x1 =>
   (spec_l02Copy n x1).bind fun x2 =>
   (app? s1.2 ([x2] : List D.Term)).bind fun x3 =>
   some (.inl ((w64 (s1.1 + 1)), x3))
  else
   some (.inr (s1.2))
 ) n (0, ([] : List D.Term))).bind fun (rl1 : (List D.Term)) =>
 some (D.Term.mk p0.Op p0.W p0.N p0.Name rl1)


def spec_MakeTerm (n : Nat) (p0 : Int) (p1 : Int) (p2 : Int) (p3 : List D.Term) : Option (D.Term × Bool) :=
 (spec_TermOk n (D.Term.mk p0 p1 p2 ⟨[]⟩ p3)).bind fun x1 =>
 if (!x1) then
  some ((D.Term.mk 0 0 0 ⟨[]⟩ ([] : List D.Term)), false)
 else
  (spec_l02Make n (D.Term.mk p0 p1 p2 ⟨[]⟩ p3)).bind fun x2 =>
  (spec_l02Copy n x2).bind fun x3 =>
  some (x3, true)

def spec_AllOf (n : Nat) (p0 : List D.Term) : Option (D.Term × Bool) :=
 (iterN (fun (s1 : Int) =>
  if (decide (s1 < (len p0))) then
   (get? p0 s1).bind fun x1 =>
   (spec_TermOk n x1).bind fun x2 =>
   if ((!x2) || (x1.W != 1)) then
    some (.inr (.inr ((D.Term.mk 0 0 0 ⟨[]⟩ ([] : List D.Term)), false)))
   else
    some (.inl ((w64 (s1 + 1))))
  else
   some (.inr (.inl ()))
 ) n (0)).bind fun (rl1 : (Unit) ⊕ (D.Term × Bool)) =>
 match rl1 with
 | .inl s1r =>
  (spec_l02Const 1 1).bind fun x3 =>
  (iterN (fun (s2 : Int × Int × Int × Int × Str × (List D.Term)) =>
   if (decide (s2.1 < (len p0))) then
    (get? p0 s2.1).bind fun x4 =>
    (spec_MakeTerm n 8 1 0 ([(D.Term.mk s2.2.1 s2.2.2.1 s2.2.2.2.1 s2.2.2.2.2.1 s2.2.2.2.2.2), x4] : List D.Term)).bind fun x5 =>
    if (!x5.2) then
     some (.inr (.inr ((D.Term.mk 0 0 0 ⟨[]⟩ ([] : List D.Term)), false)))
    else
     some (.inl ((w64 (s2.1 + 1)), x5.1.Op, x5.1.W, x5.1.N, x5.1.Name, x5.1.Kids))
   else
    some (.inr (.inl (s2.2.1, s2.2.2.1, s2.2.2.2.1, s2.2.2.2.2.1, s2.2.2.2.2.2)))
  ) n (0, x3.Op, x3.W, x3.N, x3.Name, ([] : List D.Term))).bind fun (rl2 : (Int × Int × Int × Str × (List D.Term)) ⊕ (D.Term × Bool)) =>
  match rl2 with
  | .inl s2r =>
   some ((D.Term.mk s2r.1 s2r.2.1 s2r.2.2.1 s2r.2.2.2.1 s2r.2.2.2.2), true)
  | .inr v => some v
 | .inr v => some v

def spec_l06Maker_l06Make (n : Nat) (p0 : D.l06Maker) (p1 : Int) (p2 : Int) (p3 : List D.Term) : Option (D.Term × D.l06Maker) :=
 (spec_MakeTerm n p1 p2 0 p3).bind fun x1 =>
 if (!x1.2) then
  some (x1.1, (D.l06Maker.mk true))
 else
  some (x1.1, p0)

def spec_l02CopyAll (n : Nat) (p0 : List D.Term) : Option (List D.Term) :=
 (iterN (fun (s1 : Int × (List D.Term)) =>
  if (decide (s1.1 < (len p0))) then
   (get? p0 s1.1).bind fun x1 =>
   (spec_l02Copy n x1).bind fun x2 =>
   (app? s1.2 ([x2] : List D.Term)).bind fun x3 =>
   some (.inl ((w64 (s1.1 + 1)), x3))
  else
   some (.inr (s1.2))
 ) n (0, ([] : List D.Term))).bind fun (rl1 : (List D.Term)) =>
 some rl1

def spec_l06Copy (n : Nat) (p0 : D.Path) : Option D.Path :=
 (spec_l02CopyAll n p0.Regs).bind fun x1 =>
 (spec_l02CopyAll n p0.Mem).bind fun x2 =>
 (app? ([] : List Int) p0.Stack).bind fun x3 =>
 (spec_l02CopyAll n p0.Out).bind fun x4 =>
 (spec_l02CopyAll n p0.Cond).bind fun x5 =>
 (app? ([] : List Int) p0.Turns).bind fun x6 =>
 some (D.Path.mk p0.Pc x1 x2 x3 p0.In x4 p0.Code p0.Steps x5 x6)

def spec_l06Maker_l07Either (n : Nat) (p0 : D.l06Maker) (p1 : D.Term) (p2 : List D.Term) (p3 : List D.Term) : Option ((List D.Term) × D.l06Maker) :=
 (iterN (fun (s1 : Int × Bool × (List D.Term)) =>
  if (decide (s1.1 < (len p2))) then
   (get? p2 s1.1).bind fun x1 =>
   (get? p3 s1.1).bind fun x2 =>
   (spec_l02Same n x1 x2).bind fun x3 =>
   if ((!x3) && (!s1.2.1)) then
    (get? p3 s1.1).bind fun x4 =>
    (spec_l06Maker_l06Make n (D.l06Maker.mk s1.2.1) 17 x1.W ([p1, x1, x4] : List D.Term)).bind fun x5 =>
    (app? s1.2.2 ([x5.1] : List D.Term)).bind fun x6 =>
    some (.inl ((w64 (s1.1 + 1)), x5.2.bad, x6))
   else
    (app? s1.2.2 ([x1] : List D.Term)).bind fun x7 =>
    some (.inl ((w64 (s1.1 + 1)), s1.2.1, x7))
  else
   some (.inr (s1.2.1, s1.2.2))
 ) n (0, p0.bad, ([] : List D.Term))).bind fun (rl1 : Bool × (List D.Term)) =>
 some (rl1.2, (D.l06Maker.mk rl1.1))

def spec_MergePaths (n : Nat) (p0 : D.Program) (p1 : D.Path) (p2 : D.Path) : Option (D.Path × Bool) :=
 (spec_PathOk n p0 p1).bind fun x1 =>
 (if (!x1) then some default else (spec_PathOk n p0 p2)).bind fun x2 =>
 (if ((!x1) || (!x2)) then some default else (spec_l07Alike n p1 p2)).bind fun x3 =>
 if ((((!x1) || (!x2)) || (!x3)) || (p1.Code != p2.Code)) then
  some ((D.Path.mk 0 ([] : List D.Term) ([] : List D.Term) ([] : List Int) 0 ([] : List D.Term) 0 0 ([] : List D.Term) ([] : List Int)), false)
 else
  (iterN (fun (s1 : Int) =>
   (if ((decide (s1 < (len p1.Cond))) && (decide (s1 < (len p2.Cond)))) then (get? p1.Cond s1) else some default).bind fun x4 =>
   (if ((decide (s1 < (len p1.Cond))) && (decide (s1 < (len p2.Cond)))) then (get? p2.Cond s1) else some default).bind fun x5 =>
   (if ((decide (s1 < (len p1.Cond))) && (decide (s1 < (len p2.Cond)))) then (spec_l02Same n x4 x5) else some default).bind fun x6 =>
   if (((decide (s1 < (len p1.Cond))) && (decide (s1 < (len p2.Cond)))) && x6) then
    some (.inl ((w64 (s1 + 1))))
   else
    some (.inr (s1))
  ) n (0)).bind fun (rl1 : Int) =>
  (cut? p1.Cond rl1 (len p1.Cond)).bind fun x7 =>
  (spec_AllOf n x7).bind fun x8 =>
  (cut? p2.Cond rl1 (len p2.Cond)).bind fun x9 =>
  (spec_AllOf n x9).bind fun x10 =>
  if ((!x8.2) || (!x10.2)) then
   some ((D.Path.mk 0 ([] : List D.Term) ([] : List D.Term) ([] : List Int) 0 ([] : List D.Term) 0 0 ([] : List D.Term) ([] : List Int)), false)
  else
   (spec_l06Maker_l06Make n (D.l06Maker.mk false) 9 1 ([x8.1, x10.1] : List D.Term)).bind fun x11 =>
   (spec_l06Copy n p1).bind fun x12 =>
   (cut? p1.Cond 0 rl1).bind fun x13 =>
   (app? ([] : List D.Term) x13).bind fun x14 =>
   (spec_l02Is x11.1 1).bind fun x15 =>
   (
    if (!x15) then
     (app? x14 ([x11.1] : List D.Term)).bind fun x16 =>
     some (.inl (x16))
    else
     some (.inl (x14))
   ).bind fun (rl2 : ((List D.Term)) ⊕ (D.Path × Bool)) =>
   match rl2 with
   | .inl s2r =>
    (spec_l06Maker_l07Either n x11.2 x8.1 p1.Regs p2.Regs).bind fun x17 =>
    (spec_l06Maker_l07Either n x17.2 x8.1 p1.Mem p2.Mem).bind fun x18 =>
    (spec_l06Maker_l07Either n x18.2 x8.1 p1.Out p2.Out).bind fun x19 =>
    (
     if (decide (p2.Steps > x12.Steps)) then
      some (.inl (p2.Steps))
     else
      some (.inl (x12.Steps))
    ).bind fun (rl3 : (Int) ⊕ (D.Path × Bool)) =>
    match rl3 with
    | .inl s3r =>
     (iterN (fun (s4 : Int) =>
      (if ((decide (s4 < (len p1.Turns))) && (decide (s4 < (len p2.Turns)))) then (get? p1.Turns s4) else some default).bind fun x20 =>
      (if ((decide (s4 < (len p1.Turns))) && (decide (s4 < (len p2.Turns)))) then (get? p2.Turns s4) else some default).bind fun x21 =>
      if (((decide (s4 < (len p1.Turns))) && (decide (s4 < (len p2.Turns)))) && (x20 == x21)) then
       some (.inl ((w64 (s4 + 1))))
      else
       some (.inr (s4))
     ) n (0)).bind fun (rl4 : Int) =>
     (cut? x12.Turns 0 rl4).bind fun x22 =>
     (if x19.2.bad then some default else (spec_PathOk n p0 (D.Path.mk x12.Pc x17.1 x18.1 x12.Stack x12.In x19.1 x12.Code s3r s2r x22))).bind fun x23 =>
     if (x19.2.bad || (!x23)) then
      some ((D.Path.mk 0 ([] : List D.Term) ([] : List D.Term) ([] : List Int) 0 ([] : List D.Term) 0 0 ([] : List D.Term) ([] : List Int)), false)
     else
      (spec_l06Copy n (D.Path.mk x12.Pc x17.1 x18.1 x12.Stack x12.In x19.1 x12.Code s3r s2r x22)).bind fun x24 =>
      some (x24, true)
    | .inr v => some v
   | .inr v => some v

def impl_shapeOk (p0 : Int) (p1 : Int) : Option Bool :=
 some ((((decide (p0 ≥ 2)) && (decide (p0 ≤ 8))) && (decide (p1 ≥ 1))) && (decide (p1 ≤ 40)))

def impl_isWidth (p0 : Int) : Option Bool :=
 some ((decide (p0 ≥ 1)) && (decide (p0 ≤ 16)))

def impl_WordOk (p0 : Int) (p1 : Int) : Option Bool :=
 (impl_isWidth p0).bind fun x1 =>
 (if (x1 && (decide (p1 ≥ 0))) then (shl? 1 (IntKind.u64.wrap p0)) else some default).bind fun x2 =>
 some ((x1 && (decide (p1 ≥ 0))) && (decide (p1 < x2)))

def impl_isReg (p0 : Int) : Option Bool :=
 some ((decide (p0 ≥ 0)) && (decide (p0 < 4)))

def impl_isTwoWords (p0 : Int) : Option Bool :=
 some ((decide (p0 ≥ 3)) && (decide (p0 ≤ 16)))

def impl_insOk (p0 : D.Ins) (p1 : Int) (p2 : Int) : Option Bool :=
 if (p0.Op == 3) then
  (impl_isReg p0.A).bind fun x1 =>
  (if x1 then (impl_isReg p0.B) else some default).bind fun x2 =>
  (if (x1 && x2) then (impl_isTwoWords p0.C) else some default).bind fun x3 =>
  some ((x1 && x2) && x3)
 else
  if (p0.C != 0) then
   some false
  else
   if (p0.Op == 1) then
    (impl_isReg p0.A).bind fun x4 =>
    (if x4 then (impl_WordOk p1 p0.B) else some default).bind fun x5 =>
    some (x4 && x5)
   else
    (
     if (p0.Op == 2) then
      some (.inl ((p0.Op == 2)))
     else
      some (.inl (((p0.Op == 7) || (p0.Op == 8))))
    ).bind fun (rl1 : (Bool) ⊕ Bool) =>
    match rl1 with
    | .inl s1r =>
     if s1r then
      (impl_isReg p0.A).bind fun x6 =>
      (if x6 then (impl_isReg p0.B) else some default).bind fun x7 =>
      some (x6 && x7)
     else
      (
       if (p0.Op == 4) then
        some (.inl ((p0.Op == 4)))
       else
        if (p0.Op == 5) then
         some (.inl ((p0.Op == 5)))
        else
         some (.inl (((p0.Op == 6) || (p0.Op == 13))))
      ).bind fun (rl2 : (Bool) ⊕ Bool) =>
      match rl2 with
      | .inl s2r =>
       if s2r then
        (impl_isReg p0.A).bind fun x8 =>
        some (x8 && (p0.B == 0))
       else
        if ((p0.Op == 9) || (p0.Op == 11)) then
         some ((p0.A == 0) && ((decide (p0.B ≥ 0)) && (decide (p0.B ≤ p2))))
        else
         if (p0.Op == 10) then
          (impl_isReg p0.A).bind fun x9 =>
          some (x9 && ((decide (p0.B ≥ 0)) && (decide (p0.B ≤ p2))))
         else
          if ((p0.Op == 12) || (p0.Op == 14)) then
           some ((p0.A == 0) && (p0.B == 0))
          else
           some false
      | .inr v => some v
    | .inr v => some v

def impl_ProgramOk (n : Nat) (p0 : D.Program) : Option Bool :=
 (impl_shapeOk p0.W (len p0.Code)).bind fun x1 =>
 (if (((!x1) || (decide (p0.Mem < 1))) || (decide (p0.Mem > 6))) then some default else (impl_WordOk p0.W p0.Mem)).bind fun x2 =>
 if ((((!x1) || (decide (p0.Mem < 1))) || (decide (p0.Mem > 6))) || (!x2)) then
  some false
 else
  if ((decide (p0.In < 0)) || (decide (p0.In > 3))) then
   some false
  else
   (iterN (fun (s1 : Int) =>
    if (decide (s1 < (len p0.Code))) then
     (get? p0.Code s1).bind fun x3 =>
     (impl_insOk x3 p0.W (len p0.Code)).bind fun x4 =>
     if (!x4) then
      some (.inr (.inr false))
     else
      some (.inl ((w64 (s1 + 1))))
    else
     some (.inr (.inl ()))
   ) n (0)).bind fun (rl1 : (Unit) ⊕ Bool) =>
   match rl1 with
   | .inl s1r =>
    some true
   | .inr v => some v

def impl_isPlace (p0 : D.Program) (p1 : Int) : Option Bool :=
 some ((decide (p1 ≥ 0)) && (decide (p1 ≤ (len p0.Code))))

def impl_fuelOk (p0 : Int) : Option Bool :=
 some ((decide (p0 ≥ 0)) && (decide (p0 ≤ 400)))

def impl_turnsOk (n : Nat) (p0 : List Int) : Option Bool :=
 (iterN (fun (s1 : Int) =>
  if (decide (s1 < (len p0))) then
   (get? p0 s1).bind fun x1 =>
   if ((x1 != 0) && (x1 != 1)) then
    some (.inr (.inr false))
   else
    some (.inl ((w64 (s1 + 1))))
  else
   some (.inr (.inl ()))
 ) n (0)).bind fun (rl1 : (Unit) ⊕ Bool) =>
 match rl1 with
 | .inl s1r =>
  some true
 | .inr v => some v

def impl_kidCount (p0 : Int) : Option Int :=
 if ((p0 == 0) || (p0 == 22)) then
  some 0
 else
  if (((((p0 == 1) || (p0 == 2)) || (p0 == 19)) || (p0 == 20)) || (p0 == 21)) then
   some 1
  else
   if (((decide (p0 ≥ 3)) && (decide (p0 ≤ 16))) || (p0 == 18)) then
    some 2
   else
    if (p0 == 17) then
     some 3
    else
     some (-1)

def impl_widthsFit (p0 : D.Term) : Option Bool :=
 if ((p0.Op == 0) || (p0.Op == 22)) then
  some true
 else
  if ((p0.Op == 1) || (p0.Op == 2)) then
   (get? p0.Kids 0).bind fun x1 =>
   some (x1.W == p0.W)
  else
   if ((decide (p0.Op ≥ 3)) && (decide (p0.Op ≤ 13))) then
    (get? p0.Kids 0).bind fun x2 =>
    (if (x2.W == p0.W) then (get? p0.Kids 1) else some default).bind fun x3 =>
    some ((x2.W == p0.W) && (x3.W == p0.W))
   else
    if ((decide (p0.Op ≥ 14)) && (decide (p0.Op ≤ 16))) then
     (get? p0.Kids 0).bind fun x4 =>
     (get? p0.Kids 1).bind fun x5 =>
     some ((x4.W == x5.W) && (p0.W == 1))
    else
     if (p0.Op == 17) then
      (get? p0.Kids 0).bind fun x6 =>
      (if (x6.W == 1) then (get? p0.Kids 1) else some default).bind fun x7 =>
      (if ((x6.W == 1) && (x7.W == p0.W)) then (get? p0.Kids 2) else some default).bind fun x8 =>
      some (((x6.W == 1) && (x7.W == p0.W)) && (x8.W == p0.W))
     else
      if (p0.Op == 18) then
       (get? p0.Kids 0).bind fun x9 =>
       (get? p0.Kids 1).bind fun x10 =>
       some ((w64 (x9.W + x10.W)) == p0.W)
      else
       if (p0.Op == 19) then
        (if (decide (p0.N ≥ 0)) then (get? p0.Kids 0) else some default).bind fun x11 =>
        some ((decide (p0.N ≥ 0)) && (decide (p0.N ≤ (w64 (x11.W - p0.W)))))
       else
        (get? p0.Kids 0).bind fun x12 =>
        some (decide (x12.W ≤ p0.W))

def impl_IsName (n : Nat) (p0 : Str) : Option Bool :=
 if ((decide ((len p0.bytes) < 1)) || (decide ((len p0.bytes) > 8))) then
  some false
 else
  (iterN (fun (s1 : Int) =>
   if (decide (s1 < (len p0.bytes))) then
    (sidx? p0 s1).bind fun x1 =>
    (if (decide (x1 ≥ 97)) then (sidx? p0 s1) else some default).bind fun x2 =>
    (sidx? p0 s1).bind fun x3 =>
    (if (decide (x3 ≥ 48)) then (sidx? p0 s1) else some default).bind fun x4 =>
    if ((!((decide (x1 ≥ 97)) && (decide (x2 ≤ 122)))) && (!(((decide (x3 ≥ 48)) && (decide (x4 ≤ 57))) && (decide (s1 > 0))))) then
     some (.inr (.inr false))
    else
     some (.inl ((w64 (s1 + 1))))
   else
    some (.inr (.inl ()))
  ) n (0)).bind fun (rl1 : (Unit) ⊕ Bool) =>
  match rl1 with
  | .inl s1r =>
   some true
  | .inr v => some v

def impl_termCheck_variable (n : Nat) (p0 : D.termCheck) (p1 : D.Term) : Option (Bool × D.termCheck) :=
 (impl_IsName n p1.Name).bind fun x1 =>
 if (!x1) then
  some (false, p0)
 else
  if (Option.isNone p0.widths) then
   (mget2? fitS (0 : Int) ([]) p1.Name).bind fun x2 =>
   if x2.2 then
    some ((x2.1 == p1.W), (D.termCheck.mk p0.count (some ([]))))
   else
    (mputE? fitS fitZ ([]) p1.Name p1.W).bind fun x3 =>
    some (true, (D.termCheck.mk p0.count (some x3)))
  else
   (mget2? fitS (0 : Int) (Option.getD p0.widths []) p1.Name).bind fun x4 =>
   if x4.2 then
    some ((x4.1 == p1.W), (D.termCheck.mk p0.count (some (Option.getD p0.widths []))))
   else
    (mputE? fitS fitZ (Option.getD p0.widths []) p1.Name p1.W).bind fun x5 =>
    some (true, (D.termCheck.mk p0.count (some x5)))

def impl_termCheck_node (n : Nat) (p0 : D.termCheck) (p1 : D.Term) : Option (Bool × D.termCheck) :=
 match n with
 | 0 => none
 | n + 1 =>
 (if (decide ((w64 (p0.count + 1)) > 240)) then some default else (impl_isWidth p1.W)).bind fun x1 =>
 (if ((decide ((w64 (p0.count + 1)) > 240)) || (!x1)) then some default else (impl_kidCount p1.Op)).bind fun x2 =>
 if (((decide ((w64 (p0.count + 1)) > 240)) || (!x1)) || ((len p1.Kids) != x2)) then
  some (false, (D.termCheck.mk (w64 (p0.count + 1)) p0.widths))
 else
  (iterN (fun (s1 : Int) =>
   if (decide (s1 < (len p1.Kids))) then
    (get? p1.Kids s1).bind fun x3 =>
    (impl_isWidth x3.W).bind fun x4 =>
    if (!x4) then
     some (.inr (.inr (false, (D.termCheck.mk (w64 (p0.count + 1)) p0.widths))))
    else
     some (.inl ((w64 (s1 + 1))))
   else
    some (.inr (.inl ()))
  ) n (0)).bind fun (rl1 : (Unit) ⊕ (Bool × D.termCheck)) =>
  match rl1 with
  | .inl s1r =>
   (impl_widthsFit p1).bind fun x5 =>
   if (!x5) then
    some (false, (D.termCheck.mk (w64 (p0.count + 1)) p0.widths))
   else
    (if (p1.Op == 0) then (impl_WordOk p1.W p1.N) else some default).bind fun x6 =>
    if ((p1.Op == 0) && (!x6)) then
     some (false, (D.termCheck.mk (w64 (p0.count + 1)) p0.widths))
    else
     if (((p1.Op != 0) && (p1.Op != 19)) && (p1.N != 0)) then
      some (false, (D.termCheck.mk (w64 (p0.count + 1)) p0.widths))
     else
      if (p1.Op != 22) then
       if (!(Str.eqb p1.Name ⟨[]⟩)) then
        some (false, (D.termCheck.mk (w64 (p0.count + 1)) p0.widths))
       else
        (iterN (fun (s2 : Int × Int × (Option (List (Str × Int)))) =>
         if (decide (s2.1 < (len p1.Kids))) then
          (get? p1.Kids s2.1).bind fun x7 =>
          (impl_termCheck_node n (D.termCheck.mk s2.2.1 s2.2.2) x7).bind fun x8 =>
          if (!x8.1) then
           some (.inr (.inr (false, x8.2)))
          else
           some (.inl ((w64 (s2.1 + 1)), x8.2.count, x8.2.widths))
         else
          some (.inr (.inl (s2.2.1, s2.2.2)))
        ) n (0, (w64 (p0.count + 1)), p0.widths)).bind fun (rl2 : (Int × (Option (List (Str × Int)))) ⊕ (Bool × D.termCheck)) =>
        match rl2 with
        | .inl s2r =>
         some (true, (D.termCheck.mk s2r.1 s2r.2))
        | .inr v => some v
      else
       (impl_termCheck_variable n (D.termCheck.mk (w64 (p0.count + 1)) p0.widths) p1).bind fun x9 =>
       if (!x9.1) then
        some (false, x9.2)
       else
        (iterN (fun (s3 : Int × Int × (Option (List (Str × Int)))) =>
         if (decide (s3.1 < (len p1.Kids))) then
          (get? p1.Kids s3.1).bind fun x10 =>
          (impl_termCheck_node n (D.termCheck.mk s3.2.1 s3.2.2) x10).bind fun x11 =>
          if (!x11.1) then
           some (.inr (.inr (false, x11.2)))
          else
           some (.inl ((w64 (s3.1 + 1)), x11.2.count, x11.2.widths))
         else
          some (.inr (.inl (s3.2.1, s3.2.2)))
        ) n (0, x9.2.count, x9.2.widths)).bind fun (rl3 : (Int × (Option (List (Str × Int)))) ⊕ (Bool × D.termCheck)) =>
        match rl3 with
        | .inl s3r =>
         some (true, (D.termCheck.mk s3r.1 s3r.2))
        | .inr v => some v
  | .inr v => some v


def impl_TermOk (n : Nat) (p0 : D.Term) : Option Bool :=
 (impl_termCheck_node n (D.termCheck.mk 0 none) p0).bind fun x1 =>
 some x1.1

def impl_termsOk (n : Nat) (p0 : Int) (p1 : List D.Term) : Option Bool :=
 (iterN (fun (s1 : Int) =>
  if (decide (s1 < (len p1))) then
   (get? p1 s1).bind fun x1 =>
   (if (x1.W != p0) then some default else (get? p1 s1)).bind fun x2 =>
   (if (x1.W != p0) then some default else (impl_TermOk n x2)).bind fun x3 =>
   if ((x1.W != p0) || (!x3)) then
    some (.inr (.inr false))
   else
    some (.inl ((w64 (s1 + 1))))
  else
   some (.inr (.inl ()))
 ) n (0)).bind fun (rl1 : (Unit) ⊕ Bool) =>
 match rl1 with
 | .inl s1r =>
  some true
 | .inr v => some v

def impl_PathOk (n : Nat) (p0 : D.Program) (p1 : D.Path) : Option Bool :=
 (impl_ProgramOk n p0).bind fun x1 =>
 (if (!x1) then some default else (impl_isPlace p0 p1.Pc)).bind fun x2 =>
 if ((((!x1) || (!x2)) || ((len p1.Regs) != 4)) || ((len p1.Mem) != p0.Mem)) then
  some false
 else
  if ((((decide ((len p1.Stack) > 3)) || (decide (p1.In < 0))) || (decide (p1.In > p0.In))) || (decide ((len p1.Out) > 6))) then
   some false
  else
   (iterN (fun (s1 : Int) =>
    if (decide (s1 < (len p1.Stack))) then
     (get? p1.Stack s1).bind fun x3 =>
     (impl_isPlace p0 x3).bind fun x4 =>
     if (!x4) then
      some (.inr (.inr false))
     else
      some (.inl ((w64 (s1 + 1))))
    else
     some (.inr (.inl ()))
   ) n (0)).bind fun (rl1 : (Unit) ⊕ Bool) =>
   match rl1 with
   | .inl s1r =>
    (if ((decide (p1.Code < 0)) || (decide (p1.Code > 9))) then some default else (impl_fuelOk p1.Steps)).bind fun x5 =>
    if (((decide (p1.Code < 0)) || (decide (p1.Code > 9))) || (!x5)) then
     some false
    else
     (if ((decide ((len p1.Cond) > 60)) || (decide ((len p1.Turns) > 60))) then some default else (impl_turnsOk n p1.Turns)).bind fun x6 =>
     if (((decide ((len p1.Cond) > 60)) || (decide ((len p1.Turns) > 60))) || (!x6)) then
      some false
     else
      (impl_termsOk n p0.W p1.Regs).bind fun x7 =>
      (if x7 then (impl_termsOk n p0.W p1.Mem) else some default).bind fun x8 =>
      (if (x7 && x8) then (impl_termsOk n p0.W p1.Out) else some default).bind fun x9 =>
      (if ((x7 && x8) && x9) then (impl_termsOk n 1 p1.Cond) else some default).bind fun x10 =>
      some (((x7 && x8) && x9) && x10)
   | .inr v => some v

def slices_Equal___int_int_ (n : Nat) (p0 : List Int) (p1 : List Int) : Option Bool :=
 if ((len p0) != (len p1)) then
  some false
 else
  (iterN (fun (s1 : Int) =>
   if (decide (s1 < (len p0))) then
    (get? p0 s1).bind fun x1 =>
    (get? p1 s1).bind fun x2 =>
    if (x1 != x2) then
     some (.inr (.inr false))
    else
     some (.inl ((w64 (s1 + 1))))
   else
    some (.inr (.inl ()))
  ) n (0)).bind fun (rl1 : (Unit) ⊕ Bool) =>
  match rl1 with
  | .inl s1r =>
   some true
  | .inr v => some v

def impl_sameShape (n : Nat) (p0 : D.Path) (p1 : D.Path) : Option Bool :=
 (if (p0.Pc == p1.Pc) then (slices_Equal___int_int_ n p0.Stack p1.Stack) else some default).bind fun x1 =>
 some (((((p0.Pc == p1.Pc) && x1) && (p0.In == p1.In)) && (p0.Code == p1.Code)) && ((len p0.Out) == (len p1.Out)))

def cmp_isNaN_int_ (p0 : Int) : Option Bool :=
 some (p0 != p0)

def cmp_Compare_int_ (p0 : Int) (p1 : Int) : Option Int :=
 (cmp_isNaN_int_ p0).bind fun x1 =>
 (cmp_isNaN_int_ p1).bind fun x2 =>
 if x1 then
  if x2 then
   some 0
  else
   some (-1)
 else
  if x2 then
   some 1
  else
   if (decide (p0 < p1)) then
    some (-1)
   else
    if (decide (p0 > p1)) then
     some 1
    else
     some 0

def strings_Compare (p0 : Str) (p1 : Str) : Option Int := some (Lib.compareBytes p0.bytes p1.bytes)


def impl_CompareTerms (n : Nat) (p0 : D.Term) (p1 : D.Term) : Option Int :=
 match n with
 | 0 => none
 | n + 1 =>
 (cmp_Compare_int_ p0.Op p1.Op).bind fun x1 =>
 if (x1 != 0) then
  some x1
 else
  (cmp_Compare_int_ p0.W p1.W).bind fun x2 =>
  if (x2 != 0) then
   some x2
  else
   (cmp_Compare_int_ p0.N p1.N).bind fun x3 =>
   if (x3 != 0) then
    some x3
   else
    (strings_Compare p0.Name p1.Name).bind fun x4 =>
    if (x4 != 0) then
     some x4
    else
     (iterN (fun (s1 : Int) =>
      if ((decide (s1 < (len p0.Kids))) && (decide (s1 < (len p1.Kids)))) then
       (get? p0.Kids s1).bind fun x5 =>
       (get? p1.Kids s1).bind fun x6 =>
       (impl_CompareTerms n x5 x6).bind fun x7 =>
       if (x7 != 0) then
        some (.inr (.inr x7))
       else
        some (.inl ((w64 (s1 + 1))))
      else
       some (.inr (.inl ()))
     ) n (0)).bind fun (rl1 : (Unit) ⊕ Int) =>
     match rl1 with
     | .inl s1r =>
      (cmp_Compare_int_ (len p0.Kids) (len p1.Kids)).bind fun x8 =>
      some x8
     | .inr v => some v


def impl_sameTerm (n : Nat) (p0 : D.Term) (p1 : D.Term) : Option Bool :=
 (impl_CompareTerms n p0 p1).bind fun x1 =>
 some (x1 == 0)

def impl_commonTerms (n : Nat) (p0 : List D.Term) (p1 : List D.Term) : Option Int :=
 (iterN (fun (s1 : Int) =>
  (if ((decide (s1 < (len p0))) && (decide (s1 < (len p1)))) then (get? p0 s1) else some default).bind fun x1 =>
  (if ((decide (s1 < (len p0))) && (decide (s1 < (len p1)))) then (get? p1 s1) else some default).bind fun x2 =>
  (if ((decide (s1 < (len p0))) && (decide (s1 < (len p1)))) then (impl_sameTerm n x1 x2) else some default).bind fun x3 =>
  if (((decide (s1 < (len p0))) && (decide (s1 < (len p1)))) && x3) then
   some (.inl ((w64 (s1 + 1))))
  else
   some (.inr (s1))
 ) n (0)).bind fun (rl1 : Int) =>
 some rl1

def impl_ConstTerm (p0 : Int) (p1 : Int) : Option D.Term :=
 (impl_WordOk p0 p1).bind fun x1 =>
 if (!x1) then
  some (D.Term.mk 0 0 0 ⟨[]⟩ ([] : List D.Term))
 else
  some (D.Term.mk 0 p0 p1 ⟨[]⟩ ([] : List D.Term))

def impl_isConst (p0 : D.Term) : Option Bool :=
 some (p0.Op == 0)

def impl_WordOf (p0 : Int) (p1 : Int) : Option Int :=
 (impl_isWidth p0).bind fun x1 =>
 if (!x1) then
  some (-1)
 else
  (shl? 1 (IntKind.u64.wrap p0)).bind fun x2 =>
  some (band p1 (w64 (x2 - 1)))

def impl_ApplyUnary (p0 : Int) (p1 : Int) (p2 : Int) : Option Int :=
 (impl_WordOk p1 p2).bind fun x1 =>
 if (!x1) then
  some (-1)
 else
  if (p0 == 1) then
   (shl? 1 (IntKind.u64.wrap p1)).bind fun x2 =>
   some (w64 ((w64 (x2 - 1)) - p2))
  else
   if (p0 == 2) then
    (impl_WordOf p1 (w64 (0 - p2))).bind fun x3 =>
    some x3
   else
    some (-1)

def impl_CutWord (p0 : Int) (p1 : Int) (p2 : Int) (p3 : Int) : Option Int :=
 (impl_WordOk p0 p1).bind fun x1 =>
 if ((((!x1) || (decide (p2 < 0))) || (decide (p3 < 1))) || (decide (p3 > (w64 (p0 - p2))))) then
  some (-1)
 else
  (shr? p1 (IntKind.u64.wrap p2)).bind fun x2 =>
  (shl? 1 (IntKind.u64.wrap p3)).bind fun x3 =>
  some (band x2 (w64 (x3 - 1)))

def impl_SignedOf (p0 : Int) (p1 : Int) : Option Int :=
 (impl_WordOk p0 p1).bind fun x1 =>
 if (!x1) then
  some 0
 else
  (shr? p1 (IntKind.u64.wrap (w64 (p0 - 1)))).bind fun x2 =>
  if (x2 == 0) then
   some p1
  else
   (shl? 1 (IntKind.u64.wrap p0)).bind fun x3 =>
   some (w64 (p1 - x3))

def impl_WidenWord (p0 : Int) (p1 : Int) (p2 : Int) (p3 : Bool) : Option Int :=
 (impl_WordOk p0 p1).bind fun x1 =>
 (if (!x1) then some default else (impl_isWidth p2)).bind fun x2 =>
 if (((!x1) || (!x2)) || (decide (p2 < p0))) then
  some (-1)
 else
  if p3 then
   (impl_SignedOf p0 p1).bind fun x3 =>
   (impl_WordOf p2 x3).bind fun x4 =>
   some x4
  else
   some p1

def impl_JoinWords (p0 : Int) (p1 : Int) (p2 : Int) (p3 : Int) : Option Int :=
 (impl_WordOk p0 p1).bind fun x1 =>
 (if (!x1) then some default else (impl_WordOk p2 p3)).bind fun x2 =>
 if (((!x1) || (!x2)) || (decide ((w64 (p0 + p2)) > 16))) then
  some (-1)
 else
  (shl? p1 (IntKind.u64.wrap p2)).bind fun x3 =>
  some (w64 (x3 + p3))

def impl_shiftWord (p0 : Int) (p1 : Int) (p2 : Int) (p3 : Int) : Option Int :=
 if (p0 == 13) then
  (impl_SignedOf p1 p2).bind fun x1 =>
  (shr? x1 (IntKind.u64.wrap (imin p3 (w64 (p1 - 1))))).bind fun x2 =>
  (impl_WordOf p1 x2).bind fun x3 =>
  some x3
 else
  if (decide (p3 ≥ p1)) then
   some 0
  else
   if (p0 == 11) then
    (shl? p2 (IntKind.u64.wrap p3)).bind fun x4 =>
    (impl_WordOf p1 x4).bind fun x5 =>
    some x5
   else
    (shr? p2 (IntKind.u64.wrap p3)).bind fun x6 =>
    some x6

def impl_boolWord (p0 : Bool) : Option Int :=
 if p0 then
  some 1
 else
  some 0

def impl_ApplyBinary (p0 : Int) (p1 : Int) (p2 : Int) (p3 : Int) : Option Int :=
 (impl_WordOk p1 p2).bind fun x1 =>
 (if (!x1) then some default else (impl_WordOk p1 p3)).bind fun x2 =>
 if ((!x1) || (!x2)) then
  some (-1)
 else
  if (p0 == 3) then
   (impl_WordOf p1 (w64 (p2 + p3))).bind fun x3 =>
   some x3
  else
   if (p0 == 4) then
    (impl_WordOf p1 (w64 (p2 - p3))).bind fun x4 =>
    some x4
   else
    if (p0 == 5) then
     (impl_WordOf p1 (w64 (p2 * p3))).bind fun x5 =>
     some x5
    else
     if (p0 == 6) then
      if (p3 == 0) then
       (shl? 1 (IntKind.u64.wrap p1)).bind fun x6 =>
       some (w64 (x6 - 1))
      else
       (quo? p2 p3).bind fun x7 =>
       some x7
     else
      if (p0 == 7) then
       if (p3 == 0) then
        some p2
       else
        (rem? p2 p3).bind fun x8 =>
        some x8
      else
       if (p0 == 8) then
        some (band p2 p3)
       else
        if (p0 == 9) then
         some (bor p2 p3)
        else
         if (p0 == 10) then
          some (bxor p2 p3)
         else
          (
           if (p0 == 11) then
            some (.inl ((p0 == 11)))
           else
            some (.inl (((p0 == 12) || (p0 == 13))))
          ).bind fun (rl1 : (Bool) ⊕ Int) =>
          match rl1 with
          | .inl s1r =>
           if s1r then
            (impl_shiftWord p0 p1 p2 p3).bind fun x9 =>
            some x9
           else
            if (p0 == 14) then
             (impl_boolWord (p2 == p3)).bind fun x10 =>
             some x10
            else
             if (p0 == 15) then
              (impl_boolWord (decide (p2 < p3))).bind fun x11 =>
              some x11
             else
              if (p0 == 16) then
               (impl_SignedOf p1 p2).bind fun x12 =>
               (impl_SignedOf p1 p3).bind fun x13 =>
               (impl_boolWord (decide (x12 < x13))).bind fun x14 =>
               some x14
              else
               some (-1)
          | .inr v => some v

def impl_evalNode (n : Nat) (p0 : D.Term) (p1 : Option (List (Str × Int))) : Option Int :=
 match n with
 | 0 => none
 | n + 1 =>
 if (p0.Op == 0) then
  some p0.N
 else
  if (p0.Op == 22) then
   (mgeto? fitS (0 : Int) p1 p0.Name).bind fun x1 =>
   some x1
  else
   if (p0.Op == 17) then
    (get? p0.Kids 0).bind fun x2 =>
    (impl_evalNode n x2 p1).bind fun x3 =>
    if (x3 == 1) then
     (get? p0.Kids 1).bind fun x4 =>
     (impl_evalNode n x4 p1).bind fun x5 =>
     some x5
    else
     (get? p0.Kids 2).bind fun x6 =>
     (impl_evalNode n x6 p1).bind fun x7 =>
     some x7
   else
    (get? p0.Kids 0).bind fun x8 =>
    (impl_evalNode n x8 p1).bind fun x9 =>
    (get? p0.Kids 0).bind fun x10 =>
    if ((p0.Op == 1) || (p0.Op == 2)) then
     (impl_ApplyUnary p0.Op x10.W x9).bind fun x11 =>
     some x11
    else
     if (p0.Op == 19) then
      (impl_CutWord x10.W x9 p0.N p0.W).bind fun x12 =>
      some x12
     else
      if ((p0.Op == 20) || (p0.Op == 21)) then
       (impl_WidenWord x10.W x9 p0.W (p0.Op == 21)).bind fun x13 =>
       some x13
      else
       (get? p0.Kids 1).bind fun x14 =>
       (impl_evalNode n x14 p1).bind fun x15 =>
       if (p0.Op == 18) then
        (get? p0.Kids 1).bind fun x16 =>
        (impl_JoinWords x10.W x9 x16.W x15).bind fun x17 =>
        some x17
       else
        (impl_ApplyBinary p0.Op x10.W x9 x15).bind fun x18 =>
        some x18


def impl_reduceUnary (p0 : D.Term) : Option D.Term :=
 (get? p0.Kids 0).bind fun x1 =>
 if (x1.Op == p0.Op) then
  (get? x1.Kids 0).bind fun x2 =>
  some x2
 else
  some p0

def impl_constIs (p0 : D.Term) (p1 : Int) : Option Bool :=
 some ((p0.Op == 0) && (p0.N == p1))

def impl_swapsKids (p0 : Int) : Option Bool :=
 if (p0 == 3) then
  if (p0 == 3) then
   some true
  else
   some false
 else
  if (p0 == 5) then
   if (p0 == 5) then
    some true
   else
    some false
  else
   if (p0 == 8) then
    if (p0 == 8) then
     some true
    else
     some false
   else
    if (p0 == 9) then
     if (p0 == 9) then
      some true
     else
      some false
    else
     if ((p0 == 10) || (p0 == 14)) then
      some true
     else
      some false

def impl_onesOf (p0 : Int) : Option Int :=
 (shl? 1 (IntKind.u64.wrap p0)).bind fun x1 =>
 some (w64 (x1 - 1))

mutual
def impl_remake (n : Nat) (p0 : Int) (p1 : Int) (p2 : Int) (p3 : List D.Term) : Option D.Term :=
 match n with
 | 0 => none
 | n + 1 =>
 (impl_reduce n (D.Term.mk p0 p1 p2 ⟨[]⟩ p3)).bind fun x1 =>
 some x1

def impl_reduce (n : Nat) (p0 : D.Term) : Option D.Term :=
 match n with
 | 0 => none
 | n + 1 =>
 if ((len p0.Kids) == 0) then
  some p0
 else
  (iterN (fun (s1 : Bool × Int) =>
   if (decide (s1.2 < (len p0.Kids))) then
    (if s1.1 then (get? p0.Kids s1.2) else some default).bind fun x1 =>
    (if s1.1 then (impl_isConst x1) else some default).bind fun x2 =>
    some (.inl ((s1.1 && x2), (w64 (s1.2 + 1))))
   else
    some (.inr (s1.1))
  ) n (true, 0)).bind fun (rl1 : Bool) =>
  if rl1 then
   (impl_evalNode n p0 none).bind fun x3 =>
   (impl_ConstTerm p0.W x3).bind fun x4 =>
   some (D.Term.mk x4.Op x4.W x4.N x4.Name ([] : List D.Term))
  else
   if ((p0.Op == 1) || (p0.Op == 2)) then
    (impl_reduceUnary p0).bind fun x5 =>
    some x5
   else
    if (p0.Op == 17) then
     (impl_reduceIf n p0).bind fun x6 =>
     some x6
    else
     if (p0.Op == 19) then
      (impl_reduceCut n p0).bind fun x7 =>
      some x7
     else
      if ((p0.Op == 20) || (p0.Op == 21)) then
       (impl_reduceWiden n p0).bind fun x8 =>
       some x8
      else
       if (p0.Op == 18) then
        (impl_reduceJoin n p0).bind fun x9 =>
        some x9
       else
        (impl_reduceBinary n p0).bind fun x10 =>
        some x10

def impl_reduceIf (n : Nat) (p0 : D.Term) : Option D.Term :=
 match n with
 | 0 => none
 | n + 1 =>
 (get? p0.Kids 0).bind fun x1 =>
 (get? p0.Kids 1).bind fun x2 =>
 (get? p0.Kids 2).bind fun x3 =>
 (impl_constIs x1 1).bind fun x4 =>
 if x4 then
  some x2
 else
  (impl_isConst x1).bind fun x5 =>
  if x5 then
   some x3
  else
   (impl_sameTerm n x2 x3).bind fun x6 =>
   if x6 then
    some x2
   else
    if (x1.Op == 1) then
     (get? x1.Kids 0).bind fun x7 =>
     (impl_remake n 17 p0.W 0 ([x7, x3, x2] : List D.Term)).bind fun x8 =>
     some x8
    else
     (if (p0.W == 1) then (impl_constIs x2 1) else some default).bind fun x9 =>
     (if ((p0.W == 1) && x9) then (impl_constIs x3 0) else some default).bind fun x10 =>
     if (((p0.W == 1) && x9) && x10) then
      some x1
     else
      (if (p0.W == 1) then (impl_constIs x2 0) else some default).bind fun x11 =>
      (if ((p0.W == 1) && x11) then (impl_constIs x3 1) else some default).bind fun x12 =>
      if (((p0.W == 1) && x11) && x12) then
       (impl_remake n 1 1 0 ([x1] : List D.Term)).bind fun x13 =>
       some x13
      else
       some p0

def impl_reduceCut (n : Nat) (p0 : D.Term) : Option D.Term :=
 match n with
 | 0 => none
 | n + 1 =>
 (get? p0.Kids 0).bind fun x1 =>
 if ((p0.N == 0) && (p0.W == x1.W)) then
  some x1
 else
  if (x1.Op == 19) then
   (get? x1.Kids 0).bind fun x2 =>
   (impl_remake n 19 p0.W (w64 (p0.N + x1.N)) ([x2] : List D.Term)).bind fun x3 =>
   some x3
  else
   if (x1.Op == 18) then
    (get? x1.Kids 1).bind fun x4 =>
    if (decide ((w64 (p0.N + p0.W)) ≤ x4.W)) then
     (impl_remake n 19 p0.W p0.N ([x4] : List D.Term)).bind fun x5 =>
     some x5
    else
     if (decide (p0.N ≥ x4.W)) then
      (get? x1.Kids 0).bind fun x6 =>
      (impl_remake n 19 p0.W (w64 (p0.N - x4.W)) ([x6] : List D.Term)).bind fun x7 =>
      some x7
     else
      some p0
   else
    if ((x1.Op == 20) || (x1.Op == 21)) then
     (get? x1.Kids 0).bind fun x8 =>
     if (decide ((w64 (p0.N + p0.W)) ≤ x8.W)) then
      (get? x1.Kids 0).bind fun x9 =>
      (impl_remake n 19 p0.W p0.N ([x9] : List D.Term)).bind fun x10 =>
      some x10
     else
      some p0
    else
     some p0

def impl_reduceWiden (n : Nat) (p0 : D.Term) : Option D.Term :=
 match n with
 | 0 => none
 | n + 1 =>
 (get? p0.Kids 0).bind fun x1 =>
 if (p0.W == x1.W) then
  some x1
 else
  if (x1.Op == p0.Op) then
   (get? x1.Kids 0).bind fun x2 =>
   (impl_remake n p0.Op p0.W 0 ([x2] : List D.Term)).bind fun x3 =>
   some x3
  else
   some p0

def impl_reduceJoin (n : Nat) (p0 : D.Term) : Option D.Term :=
 match n with
 | 0 => none
 | n + 1 =>
 (get? p0.Kids 0).bind fun x1 =>
 (get? p0.Kids 1).bind fun x2 =>
 (if (((x1.Op == 19) && (x2.Op == 19)) && (x1.N == (w64 (x2.N + x2.W)))) then (get? x1.Kids 0) else some default).bind fun x3 =>
 (if (((x1.Op == 19) && (x2.Op == 19)) && (x1.N == (w64 (x2.N + x2.W)))) then (get? x2.Kids 0) else some default).bind fun x4 =>
 (if (((x1.Op == 19) && (x2.Op == 19)) && (x1.N == (w64 (x2.N + x2.W)))) then (impl_sameTerm n x3 x4) else some default).bind fun x5 =>
 if ((((x1.Op == 19) && (x2.Op == 19)) && (x1.N == (w64 (x2.N + x2.W)))) && x5) then
  (get? x2.Kids 0).bind fun x6 =>
  (impl_remake n 19 p0.W x2.N ([x6] : List D.Term)).bind fun x7 =>
  some x7
 else
  some p0

def impl_reduceBinary (n : Nat) (p0 : D.Term) : Option D.Term :=
 match n with
 | 0 => none
 | n + 1 =>
 (get? p0.Kids 0).bind fun x1 =>
 (get? p0.Kids 1).bind fun x2 =>
 (impl_swapsKids p0.Op).bind fun x3 =>
 (if x3 then (impl_CompareTerms n x1 x2) else some default).bind fun x4 =>
 if (x3 && (x4 == 1)) then
  (impl_remake n p0.Op p0.W 0 ([x2, x1] : List D.Term)).bind fun x5 =>
  some x5
 else
  (impl_isConst x1).bind fun x6 =>
  (
   if x6 then
    (impl_reduceFirst n p0.Op p0.W x1 x2).bind fun x7 =>
    if x7.2 then
     some (.inr x7.1)
    else
     some (.inl ())
   else
    some (.inl ())
  ).bind fun (rl1 : (Unit) ⊕ D.Term) =>
  match rl1 with
  | .inl s1r =>
   (impl_constIs x2 0).bind fun x8 =>
   (
    if x8 then
     (
      if (p0.Op == 4) then
       some (.inl ((p0.Op == 4)))
      else
       if (p0.Op == 11) then
        some (.inl ((p0.Op == 11)))
       else
        some (.inl (((p0.Op == 12) || (p0.Op == 13))))
     ).bind fun (rl3 : (Bool) ⊕ D.Term) =>
     match rl3 with
     | .inl s3r =>
      if s3r then
       some (.inr x1)
      else
       if (p0.Op == 15) then
        (impl_ConstTerm 1 0).bind fun x9 =>
        some (.inr (D.Term.mk x9.Op x9.W x9.N x9.Name ([] : List D.Term)))
       else
        some (.inl ())
     | .inr v => some (.inr v)
    else
     some (.inl ())
   ).bind fun (rl2 : (Unit) ⊕ D.Term) =>
   match rl2 with
   | .inl s2r =>
    (impl_sameTerm n x1 x2).bind fun x10 =>
    (
     if x10 then
      if ((p0.Op == 8) || (p0.Op == 9)) then
       some (.inr x1)
      else
       (
        if (p0.Op == 4) then
         some (.inl ((p0.Op == 4)))
        else
         if (p0.Op == 10) then
          some (.inl ((p0.Op == 10)))
         else
          some (.inl (((p0.Op == 15) || (p0.Op == 16))))
       ).bind fun (rl5 : (Bool) ⊕ D.Term) =>
       match rl5 with
       | .inl s5r =>
        if s5r then
         (impl_ConstTerm p0.W 0).bind fun x11 =>
         some (.inr (D.Term.mk x11.Op x11.W x11.N x11.Name ([] : List D.Term)))
        else
         if (p0.Op == 14) then
          (impl_ConstTerm 1 1).bind fun x12 =>
          some (.inr (D.Term.mk x12.Op x12.W x12.N x12.Name ([] : List D.Term)))
         else
          some (.inl ())
       | .inr v => some (.inr v)
     else
      some (.inl ())
    ).bind fun (rl4 : (Unit) ⊕ D.Term) =>
    match rl4 with
    | .inl s4r =>
     (impl_swapsKids p0.Op).bind fun x13 =>
     (if (x13 && (p0.Op != 14)) then (impl_isConst x1) else some default).bind fun x14 =>
     (if (((x13 && (p0.Op != 14)) && x14) && (x2.Op == p0.Op)) then (get? x2.Kids 0) else some default).bind fun x15 =>
     (if (((x13 && (p0.Op != 14)) && x14) && (x2.Op == p0.Op)) then (impl_isConst x15) else some default).bind fun x16 =>
     if ((((x13 && (p0.Op != 14)) && x14) && (x2.Op == p0.Op)) && x16) then
      (get? x2.Kids 0).bind fun x17 =>
      (impl_ApplyBinary p0.Op p0.W x1.N x17.N).bind fun x18 =>
      (impl_ConstTerm p0.W x18).bind fun x19 =>
      (get? x2.Kids 1).bind fun x20 =>
      (impl_remake n p0.Op p0.W 0 ([(D.Term.mk x19.Op x19.W x19.N x19.Name ([] : List D.Term)), x20] : List D.Term)).bind fun x21 =>
      some x21
     else
      some p0
    | .inr v => some v
   | .inr v => some v
  | .inr v => some v

def impl_reduceFirst (n : Nat) (p0 : Int) (p1 : Int) (p2 : D.Term) (p3 : D.Term) : Option (D.Term × Bool) :=
 match n with
 | 0 => none
 | n + 1 =>
 (impl_onesOf p2.W).bind fun x1 =>
 (
  if ((p0 == 3) && (p2.N == 0)) then
   some (.inl (((p0 == 3) && (p2.N == 0))))
  else
   if ((p0 == 5) && (p2.N == 1)) then
    some (.inl (((p0 == 5) && (p2.N == 1))))
   else
    if ((p0 == 8) && (p2.N == x1)) then
     some (.inl (((p0 == 8) && (p2.N == x1))))
    else
     if ((p0 == 9) && (p2.N == 0)) then
      some (.inl (((p0 == 9) && (p2.N == 0))))
     else
      if ((p0 == 10) && (p2.N == 0)) then
       some (.inl (((p0 == 10) && (p2.N == 0))))
      else
       some (.inl ((((p0 == 14) && (p2.W == 1)) && (p2.N == 1))))
 ).bind fun (rl1 : (Bool) ⊕ (D.Term × Bool)) =>
 match rl1 with
 | .inl s1r =>
  if s1r then
   some (p3, true)
  else
   (
    if ((p0 == 5) && (p2.N == 0)) then
     some (.inl (((p0 == 5) && (p2.N == 0))))
    else
     some (.inl (((p0 == 8) && (p2.N == 0))))
   ).bind fun (rl2 : (Bool) ⊕ (D.Term × Bool)) =>
   match rl2 with
   | .inl s2r =>
    if s2r then
     (impl_ConstTerm p1 0).bind fun x2 =>
     some ((D.Term.mk x2.Op x2.W x2.N x2.Name ([] : List D.Term)), true)
    else
     if ((p0 == 9) && (p2.N == x1)) then
      (impl_ConstTerm p1 x1).bind fun x3 =>
      some ((D.Term.mk x3.Op x3.W x3.N x3.Name ([] : List D.Term)), true)
     else
      if ((p0 == 10) && (p2.N == x1)) then
       if ((p0 == 10) && (p2.N == x1)) then
        (impl_remake n 1 p1 0 ([p3] : List D.Term)).bind fun x4 =>
        some (x4, true)
       else
        some ((D.Term.mk 0 0 0 ⟨[]⟩ ([] : List D.Term)), false)
      else
       if (((p0 == 14) && (p2.W == 1)) && (p2.N == 0)) then
        (impl_remake n 1 p1 0 ([p3] : List D.Term)).bind fun x5 =>
        some (x5, true)
       else
        some ((D.Term.mk 0 0 0 ⟨[]⟩ ([] : List D.Term)), false)
   | .inr v => some v
 | .inr v => some v
end


def impl_makeTerm (n : Nat) (p0 : Int) (p1 : Int) (p2 : Int) (p3 : List D.Term) : Option (D.Term × Bool) :=
 (impl_TermOk n (D.Term.mk p0 p1 p2 ⟨[]⟩ p3)).bind fun x1 =>
 if (!x1) then
  some ((D.Term.mk 0 0 0 ⟨[]⟩ ([] : List D.Term)), false)
 else
  (impl_reduce n (D.Term.mk p0 p1 p2 ⟨[]⟩ p3)).bind fun x2 =>
  some (x2, true)

def impl_allOf (n : Nat) (p0 : List D.Term) : Option (D.Term × Bool) :=
 (impl_ConstTerm 1 1).bind fun x1 =>
 (iterN (fun (s1 : Int) =>
  if (decide (s1 < (len p0))) then
   (get? p0 s1).bind fun x2 =>
   (impl_TermOk n x2).bind fun x3 =>
   (if (!x3) then some default else (get? p0 s1)).bind fun x4 =>
   if ((!x3) || (x4.W != 1)) then
    some (.inr (.inr ((D.Term.mk 0 0 0 ⟨[]⟩ ([] : List D.Term)), false)))
   else
    some (.inl ((w64 (s1 + 1))))
  else
   some (.inr (.inl ()))
 ) n (0)).bind fun (rl1 : (Unit) ⊕ (D.Term × Bool)) =>
 match rl1 with
 | .inl s1r =>
  (iterN (fun (s2 : Int × Int × Int × Int × Str × (List D.Term)) =>
   if (decide (s2.1 < (len p0))) then
    (get? p0 s2.1).bind fun x5 =>
    (impl_makeTerm n 8 1 0 ([(D.Term.mk s2.2.1 s2.2.2.1 s2.2.2.2.1 s2.2.2.2.2.1 s2.2.2.2.2.2), x5] : List D.Term)).bind fun x6 =>
    if (!x6.2) then
     some (.inr (.inr ((D.Term.mk 0 0 0 ⟨[]⟩ ([] : List D.Term)), false)))
    else
     some (.inl ((w64 (s2.1 + 1)), x6.1.Op, x6.1.W, x6.1.N, x6.1.Name, x6.1.Kids))
   else
    some (.inr (.inl (s2.2.1, s2.2.2.1, s2.2.2.2.1, s2.2.2.2.2.1, s2.2.2.2.2.2)))
  ) n (0, x1.Op, x1.W, x1.N, x1.Name, ([] : List D.Term))).bind fun (rl2 : (Int × Int × Int × Str × (List D.Term)) ⊕ (D.Term × Bool)) =>
  match rl2 with
  | .inl s2r =>
   some ((D.Term.mk s2r.1 s2r.2.1 s2r.2.2.1 s2r.2.2.2.1 s2r.2.2.2.2), true)
  | .inr v => some v
 | .inr v => some v

def slices_Clone___impl_Term_impl_Term_ (p0 : List D.Term) : Option (List D.Term) :=
 (app? ([] : List D.Term) p0).bind fun x1 =>
 some x1

def slices_Clip___impl_Term_impl_Term_ (p0 : List D.Term) : Option (List D.Term) :=
 some p0

def impl_more (p0 : List D.Term) (p1 : D.Term) : Option (List D.Term) :=
 (slices_Clone___impl_Term_impl_Term_ p0).bind fun x1 =>
 (slices_Clip___impl_Term_impl_Term_ x1).bind fun x2 =>
 (app? x2 ([p1] : List D.Term)).bind fun x3 =>
 some x3

def impl_mergeWords (n : Nat) (p0 : D.Term) (p1 : List D.Term) (p2 : List D.Term) : Option ((List D.Term) × Bool) :=
 (mk? (len p1) ((D.Term.mk 0 0 0 ⟨[]⟩ ([] : List D.Term)) : D.Term)).bind fun x1 =>
 (iterN (fun (s1 : Int × (List D.Term)) =>
  if (decide (s1.1 < (len p1))) then
   (get? p1 s1.1).bind fun x2 =>
   (get? p2 s1.1).bind fun x3 =>
   (impl_sameTerm n x2 x3).bind fun x4 =>
   if x4 then
    (get? p1 s1.1).bind fun x5 =>
    (set? s1.2 s1.1 x5).bind fun x6 =>
    some (.inl ((w64 (s1.1 + 1)), x6))
   else
    (get? p1 s1.1).bind fun x7 =>
    (get? p1 s1.1).bind fun x8 =>
    (get? p2 s1.1).bind fun x9 =>
    (impl_makeTerm n 17 x7.W 0 ([p0, x8, x9] : List D.Term)).bind fun x10 =>
    if (!x10.2) then
     some (.inr (.inr (([] : List D.Term), false)))
    else
     (set? s1.2 s1.1 x10.1).bind fun x11 =>
     some (.inl ((w64 (s1.1 + 1)), x11))
  else
   some (.inr (.inl (s1.2)))
 ) n (0, x1)).bind fun (rl1 : ((List D.Term)) ⊕ ((List D.Term) × Bool)) =>
 match rl1 with
 | .inl s1r =>
  some (s1r, true)
 | .inr v => some v

def slices_Clone___int_int_ (p0 : List Int) : Option (List Int) :=
 (app? ([] : List Int) p0).bind fun x1 =>
 some x1

def impl_mergePaths (n : Nat) (p0 : D.Program) (p1 : D.Path) (p2 : D.Path) : Option (D.Path × Bool) :=
 (impl_sameShape n p1 p2).bind fun x1 =>
 if (!x1) then
  some ((D.Path.mk 0 ([] : List D.Term) ([] : List D.Term) ([] : List Int) 0 ([] : List D.Term) 0 0 ([] : List D.Term) ([] : List Int)), false)
 else
  (impl_commonTerms n p1.Cond p2.Cond).bind fun x2 =>
  (cut? p1.Cond x2 (len p1.Cond)).bind fun x3 =>
  (impl_allOf n x3).bind fun x4 =>
  (cut? p2.Cond x2 (len p2.Cond)).bind fun x5 =>
  (impl_allOf n x5).bind fun x6 =>
  if ((!x4.2) || (!x6.2)) then
   some ((D.Path.mk 0 ([] : List D.Term) ([] : List D.Term) ([] : List Int) 0 ([] : List D.Term) 0 0 ([] : List D.Term) ([] : List Int)), false)
  else
   (impl_makeTerm n 9 1 0 ([x4.1, x6.1] : List D.Term)).bind fun x7 =>
   if (!x7.2) then
    some ((D.Path.mk 0 ([] : List D.Term) ([] : List D.Term) ([] : List Int) 0 ([] : List D.Term) 0 0 ([] : List D.Term) ([] : List Int)), false)
   else
    (cut? p1.Cond 0 x2).bind fun x8 =>
    (slices_Clone___impl_Term_impl_Term_ x8).bind fun x9 =>
    (impl_constIs x7.1 1).bind fun x10 =>
    (
     if (!x10) then
      (impl_more x9 x7.1).bind fun x11 =>
      some (.inl (x11))
     else
      some (.inl (x9))
    ).bind fun (rl1 : ((List D.Term)) ⊕ (D.Path × Bool)) =>
    match rl1 with
    | .inl s1r =>
     (impl_mergeWords n x4.1 p1.Regs p2.Regs).bind fun x12 =>
     (impl_mergeWords n x4.1 p1.Mem p2.Mem).bind fun x13 =>
     (impl_mergeWords n x4.1 p1.Out p2.Out).bind fun x14 =>
     if (((!x12.2) || (!x13.2)) || (!x14.2)) then
      some ((D.Path.mk 0 ([] : List D.Term) ([] : List D.Term) ([] : List Int) 0 ([] : List D.Term) 0 0 ([] : List D.Term) ([] : List Int)), false)
     else
      (iterN (fun (s2 : Int) =>
       (if ((decide (s2 < (len p1.Turns))) && (decide (s2 < (len p2.Turns)))) then (get? p1.Turns s2) else some default).bind fun x15 =>
       (if ((decide (s2 < (len p1.Turns))) && (decide (s2 < (len p2.Turns)))) then (get? p2.Turns s2) else some default).bind fun x16 =>
       if (((decide (s2 < (len p1.Turns))) && (decide (s2 < (len p2.Turns)))) && (x15 == x16)) then
        some (.inl ((w64 (s2 + 1))))
       else
        some (.inr (s2))
      ) n (0)).bind fun (rl2 : Int) =>
      (cut? p1.Turns 0 rl2).bind fun x17 =>
      (slices_Clone___int_int_ x17).bind fun x18 =>
      (impl_PathOk n p0 (D.Path.mk p1.Pc x12.1 x13.1 p1.Stack p1.In x14.1 p1.Code (imax p1.Steps p2.Steps) s1r x18)).bind fun x19 =>
      some ((D.Path.mk p1.Pc x12.1 x13.1 p1.Stack p1.In x14.1 p1.Code (imax p1.Steps p2.Steps) s1r x18), x19)
    | .inr v => some v

mutual
def impl_copyTerm (n : Nat) (p0 : D.Term) : Option D.Term :=
 match n with
 | 0 => none
 | n + 1 =>
 (impl_copyTerms n p0.Kids).bind fun x1 =>
 some (D.Term.mk p0.Op p0.W p0.N p0.Name x1)

def impl_copyTerms (n : Nat) (p0 : List D.Term) : Option (List D.Term) :=
 match n with
 | 0 => none
 | n + 1 =>
 if ((len p0) == 0) then
  some ([] : List D.Term)
 else
  (mk? (len p0) ((D.Term.mk 0 0 0 ⟨[]⟩ ([] : List D.Term)) : D.Term)).bind fun x1 =>
  (iterN (fun (s1 : Int × (List D.Term)) =>
   if (decide (s1.1 < (len p0))) then
    (get? p0 s1.1).bind fun x2 =>
    (impl_copyTerm n x2).bind fun x3 =>
    (set? s1.2 s1.1 x3).bind fun x4 =>
    some (.inl ((w64 (s1.1 + 1)), x4))
   else
    some (.inr (s1.2))
  ) n (0, x1)).bind fun (rl1 : (List D.Term)) =>
  some rl1
end


def impl_copyPath (n : Nat) (p0 : D.Path) : Option D.Path :=
 (impl_copyTerms n p0.Regs).bind fun x1 =>
 (impl_copyTerms n p0.Mem).bind fun x2 =>
 (slices_Clone___int_int_ p0.Stack).bind fun x3 =>
 (impl_copyTerms n p0.Out).bind fun x4 =>
 (impl_copyTerms n p0.Cond).bind fun x5 =>
 (slices_Clone___int_int_ p0.Turns).bind fun x6 =>
 some (D.Path.mk p0.Pc x1 x2 x3 p0.In x4 p0.Code p0.Steps x5 x6)

def impl_MergePaths (n : Nat) (p0 : D.Program) (p1 : D.Path) (p2 : D.Path) : Option (D.Path × Bool) :=
 (impl_PathOk n p0 p1).bind fun x1 =>
 (if (!x1) then some default else (impl_PathOk n p0 p2)).bind fun x2 =>
 if ((!x1) || (!x2)) then
  some ((D.Path.mk 0 ([] : List D.Term) ([] : List D.Term) ([] : List Int) 0 ([] : List D.Term) 0 0 ([] : List D.Term) ([] : List Int)), false)
 else
  (impl_mergePaths n p0 p1 p2).bind fun x3 =>
  if (!x3.2) then
   some ((D.Path.mk 0 ([] : List D.Term) ([] : List D.Term) ([] : List Int) 0 ([] : List D.Term) 0 0 ([] : List D.Term) ([] : List Int)), false)
  else
   (impl_copyPath n x3.1).bind fun x4 =>
   some (x4, true)

mutual
def laws_eqTerm (n : Nat) (p0 : D.Term) (p1 : D.Term) : Option Bool :=
 match n with
 | 0 => none
 | n + 1 =>
 if (p0.Op != p1.Op) then
  some false
 else
  if (p0.W != p1.W) then
   some false
  else
   if (p0.N != p1.N) then
    some false
   else
    if (!(Str.eqb p0.Name p1.Name)) then
     some false
    else
     (laws_eqTermS n p0.Kids p1.Kids).bind fun x1 =>
     if (!x1) then
      some false
     else
      some true

def laws_eqTermS (n : Nat) (p0 : List D.Term) (p1 : List D.Term) : Option Bool :=
 match n with
 | 0 => none
 | n + 1 =>
 if ((len p0) != (len p1)) then
  some false
 else
  (iterN (fun (s1 : Int) =>
   if (decide (s1 < (len p0))) then
    (get? p0 s1).bind fun x1 =>
    (get? p1 s1).bind fun x2 =>
    (laws_eqTerm n x1 x2).bind fun x3 =>
    if (!x3) then
     some (.inr (.inr false))
    else
     some (.inl ((w64 (s1 + 1))))
   else
    some (.inr (.inl ()))
  ) n (0)).bind fun (rl1 : (Unit) ⊕ Bool) =>
  match rl1 with
  | .inl s1r =>
   some true
  | .inr v => some v
end


def laws_eqIntS (n : Nat) (p0 : List Int) (p1 : List Int) : Option Bool :=
 if ((len p0) != (len p1)) then
  some false
 else
  (iterN (fun (s1 : Int) =>
   if (decide (s1 < (len p0))) then
    (get? p0 s1).bind fun x1 =>
    (get? p1 s1).bind fun x2 =>
    if (x1 != x2) then
     some (.inr (.inr false))
    else
     some (.inl ((w64 (s1 + 1))))
   else
    some (.inr (.inl ()))
  ) n (0)).bind fun (rl1 : (Unit) ⊕ Bool) =>
  match rl1 with
  | .inl s1r =>
   some true
  | .inr v => some v

def laws_eqPath (n : Nat) (p0 : D.Path) (p1 : D.Path) : Option Bool :=
 if (p0.Pc != p1.Pc) then
  some false
 else
  (laws_eqTermS n p0.Regs p1.Regs).bind fun x1 =>
  if (!x1) then
   some false
  else
   (laws_eqTermS n p0.Mem p1.Mem).bind fun x2 =>
   if (!x2) then
    some false
   else
    (laws_eqIntS n p0.Stack p1.Stack).bind fun x3 =>
    if (!x3) then
     some false
    else
     if (p0.In != p1.In) then
      some false
     else
      (laws_eqTermS n p0.Out p1.Out).bind fun x4 =>
      if (!x4) then
       some false
      else
       if (p0.Code != p1.Code) then
        some false
       else
        if (p0.Steps != p1.Steps) then
         some false
        else
         (laws_eqTermS n p0.Cond p1.Cond).bind fun x5 =>
         if (!x5) then
          some false
         else
          (laws_eqIntS n p0.Turns p1.Turns).bind fun x6 =>
          if (!x6) then
           some false
          else
           some true

def laws_eqIns (p0 : D.Ins) (p1 : D.Ins) : Option Bool :=
 if (p0.Op != p1.Op) then
  some false
 else
  if (p0.A != p1.A) then
   some false
  else
   if (p0.B != p1.B) then
    some false
   else
    if (p0.C != p1.C) then
     some false
    else
     some true

def laws_eqInsS (n : Nat) (p0 : List D.Ins) (p1 : List D.Ins) : Option Bool :=
 if ((len p0) != (len p1)) then
  some false
 else
  (iterN (fun (s1 : Int) =>
   if (decide (s1 < (len p0))) then
    (get? p0 s1).bind fun x1 =>
    (get? p1 s1).bind fun x2 =>
    (laws_eqIns x1 x2).bind fun x3 =>
    if (!x3) then
     some (.inr (.inr false))
    else
     some (.inl ((w64 (s1 + 1))))
   else
    some (.inr (.inl ()))
  ) n (0)).bind fun (rl1 : (Unit) ⊕ Bool) =>
  match rl1 with
  | .inl s1r =>
   some true
  | .inr v => some v

def laws_eqProgram (n : Nat) (p0 : D.Program) (p1 : D.Program) : Option Bool :=
 if (p0.W != p1.W) then
  some false
 else
  if (p0.Mem != p1.Mem) then
   some false
  else
   if (p0.In != p1.In) then
    some false
   else
    (laws_eqInsS n p0.Code p1.Code).bind fun x1 =>
    if (!x1) then
     some false
    else
     some true

def laws_markInsS (n : Nat) (p0 : List D.Ins) (p1 : Int) : Option (Int × (List D.Ins)) :=
 (iterN (fun (s1 : Int × Int × (List D.Ins)) =>
  if (decide (s1.2.1 < (len p0))) then
   (get? s1.2.2 s1.2.1).bind fun x1 =>
   (set? s1.2.2 s1.2.1 ({ x1 with Op := s1.1 } : D.Ins)).bind fun x2 =>
   (get? x2 s1.2.1).bind fun x3 =>
   (set? x2 s1.2.1 ({ x3 with A := (w64 (s1.1 + 1)) } : D.Ins)).bind fun x4 =>
   (get? x4 s1.2.1).bind fun x5 =>
   (set? x4 s1.2.1 ({ x5 with B := (w64 ((w64 (s1.1 + 1)) + 1)) } : D.Ins)).bind fun x6 =>
   (get? x6 s1.2.1).bind fun x7 =>
   (set? x6 s1.2.1 ({ x7 with C := (w64 ((w64 ((w64 (s1.1 + 1)) + 1)) + 1)) } : D.Ins)).bind fun x8 =>
   some (.inl ((w64 ((w64 ((w64 ((w64 (s1.1 + 1)) + 1)) + 1)) + 1)), (w64 (s1.2.1 + 1)), x8))
  else
   some (.inr (s1.1, s1.2.2))
 ) n (p1, 0, p0)).bind fun (rl1 : Int × (List D.Ins)) =>
 some (rl1.1, rl1.2)

def laws_markProgram (n : Nat) (p0 : D.Program) (p1 : Int) : Option (Int × D.Program) :=
 (laws_markInsS n p0.Code p1).bind fun x1 =>
 some (x1.1, (D.Program.mk p0.W p0.Mem p0.In x1.2))

def laws_markText (n : Nat) (p0 : Int) : Option Str :=
 if (decide (p0 ≤ 0)) then
  some ⟨[109, 48]⟩
 else
  (iterN (fun (s1 : Int × Str) =>
   if (decide (s1.1 > 0)) then
    (rem? s1.1 10).bind fun x1 =>
    (cat? (strOf ([(Byt.mk (IntKind.u8.wrap (w64 (48 + x1))))] : List Byt)) s1.2).bind fun x2 =>
    (quo? s1.1 10).bind fun x3 =>
    some (.inl (x3, x2))
   else
    some (.inr (s1.2))
  ) n (p0, ⟨[]⟩)).bind fun (rl1 : Str) =>
  (cat? ⟨[109]⟩ rl1).bind fun x4 =>
  some x4

def laws_markTermS (n : Nat) (p0 : List D.Term) (p1 : Int) : Option (Int × (List D.Term)) :=
 match n with
 | 0 => none
 | n + 1 =>
 (iterN (fun (s1 : Int × Int × (List D.Term)) =>
  if (decide (s1.2.1 < (len p0))) then
   (get? s1.2.2 s1.2.1).bind fun x1 =>
   (laws_markText n (w64 ((w64 ((w64 (s1.1 + 1)) + 1)) + 1))).bind fun x2 =>
   (laws_markTermS n x1.Kids (w64 ((w64 ((w64 ((w64 (s1.1 + 1)) + 1)) + 1)) + 1))).bind fun x3 =>
   (set? s1.2.2 s1.2.1 (D.Term.mk s1.1 (w64 (s1.1 + 1)) (w64 ((w64 (s1.1 + 1)) + 1)) x2 x3.2)).bind fun x4 =>
   some (.inl (x3.1, (w64 (s1.2.1 + 1)), x4))
  else
   some (.inr (s1.1, s1.2.2))
 ) n (p1, 0, p0)).bind fun (rl1 : Int × (List D.Term)) =>
 some (rl1.1, rl1.2)


def laws_markIntS (n : Nat) (p0 : List Int) (p1 : Int) : Option (Int × (List Int)) :=
 (iterN (fun (s1 : Int × Int × (List Int)) =>
  if (decide (s1.2.1 < (len p0))) then
   (set? s1.2.2 s1.2.1 s1.1).bind fun x1 =>
   some (.inl ((w64 (s1.1 + 1)), (w64 (s1.2.1 + 1)), x1))
  else
   some (.inr (s1.1, s1.2.2))
 ) n (p1, 0, p0)).bind fun (rl1 : Int × (List Int)) =>
 some (rl1.1, rl1.2)

def laws_markPath (n : Nat) (p0 : D.Path) (p1 : Int) : Option (Int × D.Path) :=
 (laws_markTermS n p0.Regs p1).bind fun x1 =>
 (laws_markTermS n p0.Mem x1.1).bind fun x2 =>
 (laws_markIntS n p0.Stack x2.1).bind fun x3 =>
 (laws_markTermS n p0.Out x3.1).bind fun x4 =>
 (laws_markTermS n p0.Cond x4.1).bind fun x5 =>
 (laws_markIntS n p0.Turns x5.1).bind fun x6 =>
 some (x6.1, (D.Path.mk p0.Pc x1.2 x2.2 x3.2 p0.In x4.2 p0.Code p0.Steps x5.2 x6.2))

def laws_heldTermS (n : Nat) (p0 : List D.Term) (p1 : Int) : Option Int :=
 match n with
 | 0 => none
 | n + 1 =>
 (iterN (fun (s1 : Int × Int) =>
  if (decide (s1.2 < (len p0))) then
   (get? p0 s1.2).bind fun x1 =>
   if (x1.Op != s1.1) then
    some (.inr (.inr (-1)))
   else
    (get? p0 s1.2).bind fun x2 =>
    if (x2.W != (w64 (s1.1 + 1))) then
     some (.inr (.inr (-1)))
    else
     (get? p0 s1.2).bind fun x3 =>
     if (x3.N != (w64 ((w64 (s1.1 + 1)) + 1))) then
      some (.inr (.inr (-1)))
     else
      (get? p0 s1.2).bind fun x4 =>
      (laws_markText n (w64 ((w64 ((w64 (s1.1 + 1)) + 1)) + 1))).bind fun x5 =>
      if (!(Str.eqb x4.Name x5)) then
       some (.inr (.inr (-1)))
      else
       (get? p0 s1.2).bind fun x6 =>
       (laws_heldTermS n x6.Kids (w64 ((w64 ((w64 ((w64 (s1.1 + 1)) + 1)) + 1)) + 1))).bind fun x7 =>
       if (decide (x7 < 0)) then
        some (.inr (.inr (-1)))
       else
        some (.inl (x7, (w64 (s1.2 + 1))))
  else
   some (.inr (.inl (s1.1)))
 ) n (p1, 0)).bind fun (rl1 : (Int) ⊕ Int) =>
 match rl1 with
 | .inl s1r =>
  some s1r
 | .inr v => some v


def laws_heldIntS (n : Nat) (p0 : List Int) (p1 : Int) : Option Int :=
 (iterN (fun (s1 : Int × Int) =>
  if (decide (s1.2 < (len p0))) then
   (get? p0 s1.2).bind fun x1 =>
   if (x1 != s1.1) then
    some (.inr (.inr (-1)))
   else
    some (.inl ((w64 (s1.1 + 1)), (w64 (s1.2 + 1))))
  else
   some (.inr (.inl (s1.1)))
 ) n (p1, 0)).bind fun (rl1 : (Int) ⊕ Int) =>
 match rl1 with
 | .inl s1r =>
  some s1r
 | .inr v => some v

def laws_heldPath (n : Nat) (p0 : D.Path) (p1 : Int) : Option Int :=
 (laws_heldTermS n p0.Regs p1).bind fun x1 =>
 if (decide (x1 < 0)) then
  some (-1)
 else
  (laws_heldTermS n p0.Mem x1).bind fun x2 =>
  if (decide (x2 < 0)) then
   some (-1)
  else
   (laws_heldIntS n p0.Stack x2).bind fun x3 =>
   if (decide (x3 < 0)) then
    some (-1)
   else
    (laws_heldTermS n p0.Out x3).bind fun x4 =>
    if (decide (x4 < 0)) then
     some (-1)
    else
     (laws_heldTermS n p0.Cond x4).bind fun x5 =>
     if (decide (x5 < 0)) then
      some (-1)
     else
      (laws_heldIntS n p0.Turns x5).bind fun x6 =>
      if (decide (x6 < 0)) then
       some (-1)
      else
       some x6

def laws_FnExactMergePaths (n : Nat) (p0 : D.Program) (p1 : D.Path) (p2 : D.Path) : Option Bool :=
 (laws_szProgram p0 1048576).bind fun x1 =>
 if (decide (x1 < 0)) then
  some true
 else
  (laws_szPath n p1 x1).bind fun x2 =>
  if (decide (x2 < 0)) then
   some true
  else
   (laws_szPath n p2 x2).bind fun x3 =>
   if (decide (x3 < 0)) then
    some true
   else
    (laws_toProgram n p0).bind fun x4 =>
    (laws_toPath n p1).bind fun x5 =>
    (laws_toPath n p2).bind fun x6 =>
    (spec_MergePaths n x4 x5 x6).bind fun x7 =>
    (laws_toProgram n p0).bind fun x8 =>
    (laws_toPath n p1).bind fun x9 =>
    (laws_toPath n p2).bind fun x10 =>
    (impl_MergePaths n x8 x9 x10).bind fun x11 =>
    (laws_eqPath n x11.1 x7.1).bind fun x12 =>
    if ((!x12) || (!(x11.2 == x7.2))) then
     some false
    else
     (laws_toProgram n p0).bind fun x13 =>
     (laws_eqProgram n x8 x13).bind fun x14 =>
     if (!x14) then
      some false
     else
      (laws_toPath n p1).bind fun x15 =>
      (laws_eqPath n x9 x15).bind fun x16 =>
      if (!x16) then
       some false
      else
       (laws_toPath n p2).bind fun x17 =>
       (laws_eqPath n x10 x17).bind fun x18 =>
       if (!x18) then
        some false
       else
        (laws_markProgram n x8 1).bind fun x19 =>
        (laws_markPath n x9 x19.1).bind fun x20 =>
        (laws_markPath n x10 x20.1).bind fun x21 =>
        (if (decide (x21.1 < 0)) then some default else (laws_eqPath n x11.1 x7.1)).bind fun x22 =>
        if (((decide (x21.1 < 0)) || (!x22)) || (!(x11.2 == x7.2))) then
         some false
        else
         (laws_markPath n x11.1 1).bind fun x23 =>
         (laws_heldPath n (D.Path.mk x11.1.Pc x23.2.Regs x23.2.Mem x23.2.Stack x11.1.In x23.2.Out x11.1.Code x11.1.Steps x23.2.Cond x23.2.Turns) 1).bind fun x24 =>
         if (decide (x24 < 0)) then
          some false
         else
          if (x24 != x23.1) then
           some false
          else
           (laws_toProgram n p0).bind fun x25 =>
           (laws_toPath n p1).bind fun x26 =>
           (laws_toPath n p2).bind fun x27 =>
           (impl_MergePaths n x25 x26 x27).bind fun x28 =>
           (laws_eqPath n x28.1 x7.1).bind fun x29 =>
           if ((!x29) || (!(x28.2 == x7.2))) then
            some false
           else
            (laws_heldPath n (D.Path.mk x11.1.Pc x23.2.Regs x23.2.Mem x23.2.Stack x11.1.In x23.2.Out x11.1.Code x11.1.Steps x23.2.Cond x23.2.Turns) 1).bind fun x30 =>
            if (decide (x30 < 0)) then
             some false
            else
             if (x30 != x23.1) then
              some false
             else
              some true
end Go.GL
