/- Go functions as Lean functions, printed by a program. -/
import Derived.Test.YtlkojmondogmlaaGreatDoorLib1
import Derived.Lib.ItoaNum
import Derived.Lib.Bytealg
set_option linter.unusedVariables false
namespace Go.GL
def Zbg (p0:List D.Ins) (p1:Int):Option Int:=
 if (decide ((w64 (p1 - (len p0))) < 0)) then
  some (-1)
 else
  some (w64 (p1 - (len p0)))
def Zae (p0:D.Program) (p1:Int):Option Int:=
 (Zbg p0.Code p1).bind fun x1=>
 if (decide (x1 < 0)) then
  some (-1)
 else
  some x1
mutual
def Zai (n:Nat) (p0:D.Term) (p1:Int):Option Int:=
 match n with
 | 0=>none
 | n + 1=>
 if (decide ((w64 (p1 - (len p0.Name.bytes))) < 0)) then
  some (-1)
 else
  (Yr n p0.Kids (w64 (p1 - (len p0.Name.bytes)))).bind fun x1=>
  if (decide (x1 < 0)) then
   some (-1)
  else
   some x1
def Yr (n:Nat) (p0:List D.Term) (p1:Int):Option Int:=
 match n with
 | 0=>none
 | n + 1=>
 if (decide ((w64 (p1 - (len p0))) < 0)) then
  some (-1)
 else
  (iterN (fun (s1 : Int × Int) =>
   if (decide (s1.2 < (len p0))) then
    (get? p0 s1.2).bind fun x1=>
    (Zai n x1 s1.1).bind fun x2=>
    if (decide (x2 < 0)) then
     some (.inr (.inr (-1)))
    else
     some (.inl (x2,(w64 (s1.2 + 1))))
   else
    some (.inr (.inl (s1.1)))
  ) n ((w64 (p1 - (len p0))),0)).bind fun (rl1:(Int) ⊕ Int)=>
  match rl1 with
  | .inl s1r=>
   some s1r
  | .inr v=>some v
end
def ZaD (p0:List Int) (p1:Int):Option Int:=
 if (decide ((w64 (p1 - (len p0))) < 0)) then
  some (-1)
 else
  some (w64 (p1 - (len p0)))
def Zam (n:Nat) (p0:D.Path) (p1:Int):Option Int:=
 (Yr n p0.Regs p1).bind fun x1=>
 if (decide (x1 < 0)) then
  some (-1)
 else
  (Yr n p0.Mem x1).bind fun x2=>
  if (decide (x2 < 0)) then
   some (-1)
  else
   (ZaD p0.Stack x2).bind fun x3=>
   if (decide (x3 < 0)) then
    some (-1)
   else
    (Yr n p0.Out x3).bind fun x4=>
    if (decide (x4 < 0)) then
     some (-1)
    else
     (Yr n p0.Cond x4).bind fun x5=>
     if (decide (x5 < 0)) then
      some (-1)
     else
      (ZaD p0.Turns x5).bind fun x6=>
      if (decide (x6 < 0)) then
       some (-1)
      else
       some x6
def ZaK (n:Nat) (p0:List D.Path) (p1:Int):Option Int:=
 if (decide ((w64 (p1 - (len p0))) < 0)) then
  some (-1)
 else
  (iterN (fun (s1 : Int × Int) =>
   if (decide (s1.2 < (len p0))) then
    (get? p0 s1.2).bind fun x1=>
    (Zam n x1 s1.1).bind fun x2=>
    if (decide (x2 < 0)) then
     some (.inr (.inr (-1)))
    else
     some (.inl (x2,(w64 (s1.2 + 1))))
   else
    some (.inr (.inl (s1.1)))
  ) n ((w64 (p1 - (len p0))),0)).bind fun (rl1:(Int) ⊕ Int)=>
  match rl1 with
  | .inl s1r=>
   some s1r
  | .inr v=>some v
def Zci (p0:D.Ins):Option D.Ins:=
 some p0
def Zbj (n:Nat) (p0:List D.Ins):Option (List D.Ins):=
 (mk? (len p0) ((D.Ins.mk 0 0 0 0):D.Ins)).bind fun x1 =>
 (iterN (fun (s1 : Int × (List D.Ins)) =>
  if (decide (s1.1 < (len p0))) then
   (get? p0 s1.1).bind fun x2=>
   (Zci x2).bind fun x3=>
   (set? s1.2 s1.1 x3).bind fun x4=>
   some (.inl ((w64 (s1.1 + 1)),x4))
  else
   some (.inr (s1.2))
 ) n (0,x1)).bind fun (rl1:(List D.Ins))=>
 some rl1
def YM (n:Nat) (p0:D.Program):Option D.Program:=
 (Zbj n p0.Code).bind fun x1=>
 some (D.Program.mk p0.W p0.Mem p0.In x1)
mutual
def XY (n:Nat) (p0:D.Term):Option D.Term:=
 match n with
 | 0=>none
 | n + 1=>
 (Yq n p0.Kids).bind fun x1=>
 some (D.Term.mk p0.Op p0.W p0.N p0.Name x1)
def Yq (n:Nat) (p0:List D.Term):Option (List D.Term):=
 match n with
 | 0=>none
 | n + 1=>
 (mk? (len p0) ((D.Term.mk 0 0 0 ⟨[]⟩ ([]:List D.Term)):D.Term)).bind fun x1 =>
 (iterN (fun (s1 : Int × (List D.Term)) =>
  if (decide (s1.1 < (len p0))) then
   (get? p0 s1.1).bind fun x2=>
   (XY n x2).bind fun x3=>
   (set? s1.2 s1.1 x3).bind fun x4=>
   some (.inl ((w64 (s1.1 + 1)),x4))
  else
   some (.inr (s1.2))
 ) n (0,x1)).bind fun (rl1:(List D.Term))=>
 some rl1
end
def ZaE (n:Nat) (p0:List Int):Option (List Int):=
 (mk? (len p0) (0:Int)).bind fun x1 =>
 (iterN (fun (s1 : Int × (List Int)) =>
  if (decide (s1.1 < (len p0))) then
   (get? p0 s1.1).bind fun x2=>
   (set? s1.2 s1.1 x2).bind fun x3=>
   some (.inl ((w64 (s1.1 + 1)),x3))
  else
   some (.inr (s1.2))
 ) n (0,x1)).bind fun (rl1:(List Int))=>
 some rl1
def YX (n:Nat) (p0:D.Path):Option D.Path:=
 (Yq n p0.Regs).bind fun x1=>
 (Yq n p0.Mem).bind fun x2=>
 (ZaE n p0.Stack).bind fun x3=>
 (Yq n p0.Out).bind fun x4=>
 (Yq n p0.Cond).bind fun x5=>
 (ZaE n p0.Turns).bind fun x6=>
 some (D.Path.mk p0.Pc x1 x2 x3 p0.In x4 p0.Code p0.Steps x5 x6)
def Xq (n:Nat) (p0:List D.Path):Option (List D.Path):=
 (mk? (len p0) ((D.Path.mk 0 ([]:List D.Term) ([]:List D.Term) ([]:List Int) 0 ([]:List D.Term) 0 0 ([]:List D.Term) ([]:List Int)):D.Path)).bind fun x1 =>
 (iterN (fun (s1 : Int × (List D.Path)) =>
  if (decide (s1.1 < (len p0))) then
   (get? p0 s1.1).bind fun x2=>
   (YX n x2).bind fun x3=>
   (set? s1.2 s1.1 x3).bind fun x4=>
   some (.inl ((w64 (s1.1 + 1)),x4))
  else
   some (.inr (s1.2))
 ) n (0,x1)).bind fun (rl1:(List D.Path))=>
 some rl1
def Zm (p0:Int) (p1:Int) (p2:Int):Option Bool:=
 some ((decide (p0 ≥ p1)) && (decide (p0 ≤ p2)))
def ZF (p0:Int) (p1:Int):Option Bool:=
 (Zm p0 1 16).bind fun x1=>
 (if x1 then (shl? 1 p0) else some default).bind fun x2=>
 (if x1 then (Zm p1 0 (w64 (x2 - 1))) else some default).bind fun x3=>
 some (x1 && x3)
def YK (p0:Int):Option Bool:=
 (Zm p0 0 3).bind fun x1=>
 some x1
def X8 (p0:D.Ins) (p1:Int) (p2:Int):Option Bool:=
 (Zm p0.B 0 p2).bind fun x1=>
 if (p0.Op == 1) then
  (YK p0.A).bind fun x2=>
  (if x2 then (ZF p1 p0.B) else some default).bind fun x3=>
  some ((x2 && x3) && (p0.C == 0))
 else
  (
   if (p0.Op == 2) then
    some (.inl ((p0.Op == 2)))
   else
    some (.inl (((p0.Op == 7) || (p0.Op == 8))))
  ).bind fun (rl1:(Bool) ⊕ Bool)=>
  match rl1 with
  | .inl s1r=>
   if s1r then
    (YK p0.A).bind fun x4=>
    (if x4 then (YK p0.B) else some default).bind fun x5=>
    some ((x4 && x5) && (p0.C == 0))
   else
    if (p0.Op == 3) then
     (YK p0.A).bind fun x6=>
     (if x6 then (YK p0.B) else some default).bind fun x7=>
     (if (x6 && x7) then (Zm p0.C 3 16) else some default).bind fun x8=>
     some ((x6 && x7) && x8)
    else
     (
      if (p0.Op == 4) then
       some (.inl ((p0.Op == 4)))
      else
       if (p0.Op == 5) then
        some (.inl ((p0.Op == 5)))
       else
        some (.inl (((p0.Op == 6) || (p0.Op == 13))))
     ).bind fun (rl2:(Bool) ⊕ Bool)=>
     match rl2 with
     | .inl s2r=>
      if s2r then
       (YK p0.A).bind fun x9=>
       some ((x9 && (p0.B == 0)) && (p0.C == 0))
      else
       if ((p0.Op == 9) || (p0.Op == 11)) then
        some (((p0.A == 0) && x1) && (p0.C == 0))
       else
        if (p0.Op == 10) then
         (YK p0.A).bind fun x10=>
         some ((x10 && x1) && (p0.C == 0))
        else
         if ((p0.Op == 12) || (p0.Op == 14)) then
          some (((p0.A == 0) && (p0.B == 0)) && (p0.C == 0))
         else
          some false
     | .inr v=>some v
  | .inr v=>some v
def Zao (n:Nat) (p0:D.Program):Option Bool:=
 (Zm p0.W 2 8).bind fun x1=>
 (if (!x1) then some default else (Zm p0.Mem 1 6)).bind fun x2=>
 (if ((!x1) || (!x2)) then some default else (ZF p0.W p0.Mem)).bind fun x3=>
 (if (((!x1) || (!x2)) || (!x3)) then some default else (Zm p0.In 0 3)).bind fun x4=>
 (if ((((!x1) || (!x2)) || (!x3)) || (!x4)) then some default else (Zm (len p0.Code) 1 40)).bind fun x5=>
 if (((((!x1) || (!x2)) || (!x3)) || (!x4)) || (!x5)) then
  some false
 else
  (iterN (fun (s1 : Int) =>
   if (decide (s1 < (len p0.Code))) then
    (get? p0.Code s1).bind fun x6=>
    (X8 x6 p0.W (len p0.Code)).bind fun x7=>
    if (!x7) then
     some (.inr (.inr false))
    else
     some (.inl ((w64 (s1 + 1))))
   else
    some (.inr (.inl ()))
  ) n (0)).bind fun (rl1:(Unit) ⊕ Bool)=>
  match rl1 with
  | .inl s1r=>
   some true
  | .inr v=>some v
def X9 (n:Nat) (p0:D.Term) (p1:Int):Option (Bool × Int):=
 match n with
 | 0=>none
 | n + 1 =>
 (iterN (fun (s1 : Int × Int) =>
  if ((decide (s1.1 < (len p0.Kids))) && (decide (s1.2 ≥ 0))) then
   (get? p0.Kids s1.1).bind fun x1=>
   (X9 n x1 s1.2).bind fun x2=>
   some (.inl ((w64 (s1.1 + 1)),x2.2))
  else
   some (.inr (s1.2))
 ) n (0,(w64 (p1 - 1)))).bind fun (rl1:Int)=>
 some ((decide (rl1 ≥ 0)),rl1)
def ZaB (n:Nat) (p0:Str):Option Bool :=
 (iterN (fun (s1 : Int) =>
  if (decide (s1 < (len p0.bytes))) then
   (sidx? p0 s1).bind fun x1=>
   (Zm (w64 x1) 97 122).bind fun x2=>
   (if (s1 == 0) then some default else (if (!x2) then (sidx? p0 s1) else some default)).bind fun x3=>
   (if (s1 == 0) then some default else (if (!x2) then (Zm (w64 x3) 48 57) else some default)).bind fun x4=>
   if ((!x2) && ((s1 == 0) || (!x4))) then
    some (.inr (.inr false))
   else
    some (.inl ((w64 (s1 + 1))))
  else
   some (.inr (.inl ()))
 ) n (0)).bind fun (rl1:(Unit) ⊕ Bool)=>
 match rl1 with
 | .inl s1r=>
  (Zm (len p0.bytes) 1 8).bind fun x5=>
  some x5
 | .inr v=>some v
def Y4 (n:Nat) (p0:D.Term):Option Bool:=
 match n with
 | 0=>none
 | n + 1=>
 (Zm p0.W 1 16).bind fun x1=>
 if (((!x1) || ((!(Str.eqb p0.Name ⟨[]⟩)) && (p0.Op != 22))) || (((p0.N != 0) && (p0.Op != 0)) && (p0.Op != 19))) then
  some false
 else
  (iterN (fun (s1 : Int) =>
   if (decide (s1 < (len p0.Kids))) then
    (get? p0.Kids s1).bind fun x2=>
    (Y4 n x2).bind fun x3=>
    if (!x3) then
     some (.inr (.inr false))
    else
     some (.inl ((w64 (s1 + 1))))
   else
    some (.inr (.inl ()))
  ) n (0)).bind fun (rl1:(Unit) ⊕ Bool)=>
  match rl1 with
  | .inl s1r =>
   (iterN (fun (s2 : Int × (List Int)) =>
    if ((decide (s2.1 < (len p0.Kids))) && (decide (s2.1 < 3))) then
     (get? p0.Kids s2.1).bind fun x4=>
     (set? s2.2 s2.1 x4.W).bind fun x5=>
     some (.inl ((w64 (s2.1 + 1)),x5))
    else
     some (.inr (s2.2))
   ) n (0,([0,0,0]:List Int))).bind fun (rl2:(List Int))=>
   if (p0.Op == 0) then
    (if ((len p0.Kids) == 0) then (ZF p0.W p0.N) else some default).bind fun x6=>
    some (((len p0.Kids) == 0) && x6)
   else
    if (p0.Op == 22) then
     (if ((len p0.Kids) == 0) then (ZaB n p0.Name) else some default).bind fun x7=>
     some (((len p0.Kids) == 0) && x7)
    else
     (Zm p0.Op 1 2).bind fun x8=>
     if x8 then
      (if ((len p0.Kids) == 1) then (get? rl2 0) else some default).bind fun x9=>
      some (((len p0.Kids) == 1) && (x9 == p0.W))
     else
      (Zm p0.Op 3 13).bind fun x10=>
      if x10 then
       (if ((len p0.Kids) == 2) then (get? rl2 0) else some default).bind fun x11=>
       (if (((len p0.Kids) == 2) && (x11 == p0.W)) then (get? rl2 1) else some default).bind fun x12=>
       some ((((len p0.Kids) == 2) && (x11 == p0.W)) && (x12 == p0.W))
      else
       (Zm p0.Op 14 16).bind fun x13=>
       if x13 then
        (if ((len p0.Kids) == 2) then (get? rl2 0) else some default).bind fun x14=>
        (if ((len p0.Kids) == 2) then (get? rl2 1) else some default).bind fun x15=>
        some ((((len p0.Kids) == 2) && (x14 == x15)) && (p0.W == 1))
       else
        if (p0.Op == 17) then
         (if ((len p0.Kids) == 3) then (get? rl2 0) else some default).bind fun x16=>
         (if (((len p0.Kids) == 3) && (x16 == 1)) then (get? rl2 1) else some default).bind fun x17=>
         (if ((((len p0.Kids) == 3) && (x16 == 1)) && (x17 == p0.W)) then (get? rl2 2) else some default).bind fun x18=>
         some (((((len p0.Kids) == 3) && (x16 == 1)) && (x17 == p0.W)) && (x18 == p0.W))
        else
         if (p0.Op == 18) then
          (if ((len p0.Kids) == 2) then (get? rl2 0) else some default).bind fun x19=>
          (if ((len p0.Kids) == 2) then (get? rl2 1) else some default).bind fun x20=>
          some (((len p0.Kids) == 2) && ((w64 (x19 + x20)) == p0.W))
         else
          if (p0.Op == 19) then
           (if ((len p0.Kids) == 1) then (Zm p0.N 0 16) else some default).bind fun x21=>
           (if (((len p0.Kids) == 1) && x21) then (get? rl2 0) else some default).bind fun x22=>
           some ((((len p0.Kids) == 1) && x21) && (decide ((w64 (p0.N + p0.W)) ≤ x22)))
          else
           (Zm p0.Op 20 21).bind fun x23=>
           (if (x23 && ((len p0.Kids) == 1)) then (get? rl2 0) else some default).bind fun x24=>
           some ((x23 && ((len p0.Kids) == 1)) && (decide (x24 ≤ p0.W)))
  | .inr v=>some v
def YT (n:Nat) (p0:D.Term) (p1:List D.Value):Option ((List D.Value) × Bool):=
 match n with
 | 0=>none
 | n + 1=>
 if (p0.Op == 22) then
  (iterN (fun (s1 : Int) =>
   (if (decide (s1 < (len p1))) then (get? p1 s1) else some default).bind fun x1=>
   if ((decide (s1 < (len p1))) && (Str.ltb x1.Name p0.Name)) then
    some (.inl ((w64 (s1 + 1))))
   else
    some (.inr (s1))
  ) n (0)).bind fun (rl1:Int)=>
  (if (decide (rl1 < (len p1))) then (get? p1 rl1) else some default).bind fun x2=>
  if ((decide (rl1 < (len p1))) && (Str.eqb x2.Name p0.Name)) then
   (get? p1 rl1).bind fun x3=>
   some (p1,(x3.W == p0.W))
  else
   (cut? p1 0 rl1).bind fun x4=>
   (app? ([]:List D.Value) x4).bind fun x5=>
   (app? x5 ([(D.Value.mk p0.Name p0.W 0)]:List D.Value)).bind fun x6=>
   (cut? p1 rl1 (len p1)).bind fun x7=>
   (app? x6 x7).bind fun x8=>
   some (x8,true)
 else
  (iterN (fun (s2 : (List D.Value) × Int) =>
   if (decide (s2.2 < (len p0.Kids))) then
    (get? p0.Kids s2.2).bind fun x9=>
    (YT n x9 s2.1).bind fun x10=>
    if (!x10.2) then
     some (.inr (.inr (([]:List D.Value),false)))
    else
     some (.inl (x10.1,(w64 (s2.2 + 1))))
   else
    some (.inr (.inl (s2.1)))
  ) n (p1,0)).bind fun (rl2:((List D.Value)) ⊕ ((List D.Value) × Bool))=>
  match rl2 with
  | .inl s2r=>
   some (s2r,true)
  | .inr v=>some v
def Xl (n:Nat) (p0:D.Term):Option Bool:=
 (X9 n p0 240).bind fun x1=>
 if (!x1.1) then
  if true then
   some false
  else
   (YT n p0 ([]:List D.Value)).bind fun x2=>
   some x2.2
 else
  (Y4 n p0).bind fun x3=>
  if (!x3) then
   some false
  else
   (YT n p0 ([]:List D.Value)).bind fun x4=>
   some x4.2
def YY (n:Nat) (p0:List D.Term) (p1:Int):Option Bool :=
 (iterN (fun (s1 : Int) =>
  if (decide (s1 < (len p0))) then
   (get? p0 s1).bind fun x1=>
   (Xl n x1).bind fun x2=>
   if ((!x2) || (x1.W != p1)) then
    some (.inr (.inr false))
   else
    some (.inl ((w64 (s1 + 1))))
  else
   some (.inr (.inl ()))
 ) n (0)).bind fun (rl1:(Unit) ⊕ Bool)=>
 match rl1 with
 | .inl s1r=>
  some true
 | .inr v=>some v
def Xn (n:Nat) (p0:D.Program) (p1:D.Path):Option Bool:=
 (Zao n p0).bind fun x1=>
 (if (!x1) then some default else (Zm p1.Pc 0 (len p0.Code))).bind fun x2=>
 (if (((((!x1) || (!x2)) || ((len p1.Regs) != 4)) || ((len p1.Mem) != p0.Mem)) || (decide ((len p1.Stack) > 3))) then some default else (Zm p1.In 0 p0.In)).bind fun x3=>
 (if (((((((!x1) || (!x2)) || ((len p1.Regs) != 4)) || ((len p1.Mem) != p0.Mem)) || (decide ((len p1.Stack) > 3))) || (!x3)) || (decide ((len p1.Out) > 6))) then some default else (Zm p1.Code 0 9)).bind fun x4=>
 (if ((((((((!x1) || (!x2)) || ((len p1.Regs) != 4)) || ((len p1.Mem) != p0.Mem)) || (decide ((len p1.Stack) > 3))) || (!x3)) || (decide ((len p1.Out) > 6))) || (!x4)) then some default else (Zm p1.Steps 0 400)).bind fun x5=>
 if (((((((((((!x1) || (!x2)) || ((len p1.Regs) != 4)) || ((len p1.Mem) != p0.Mem)) || (decide ((len p1.Stack) > 3))) || (!x3)) || (decide ((len p1.Out) > 6))) || (!x4)) || (!x5)) || (decide ((len p1.Cond) > 60))) || (decide ((len p1.Turns) > 60))) then
  some false
 else
  (iterN (fun (s1 : Int) =>
   if (decide (s1 < (len p1.Stack))) then
    (get? p1.Stack s1).bind fun x6=>
    (Zm x6 0 (len p0.Code)).bind fun x7=>
    if (!x7) then
     some (.inr (.inr false))
    else
     some (.inl ((w64 (s1 + 1))))
   else
    some (.inr (.inl ()))
  ) n (0)).bind fun (rl1:(Unit) ⊕ Bool)=>
  match rl1 with
  | .inl s1r =>
   (iterN (fun (s2 : Int) =>
    if (decide (s2 < (len p1.Turns))) then
     (get? p1.Turns s2).bind fun x8=>
     (Zm x8 0 1).bind fun x9=>
     if (!x9) then
      some (.inr (.inr false))
     else
      some (.inl ((w64 (s2 + 1))))
    else
     some (.inr (.inl ()))
   ) n (0)).bind fun (rl2:(Unit) ⊕ Bool)=>
   match rl2 with
   | .inl s2r=>
    (YY n p1.Regs p0.W).bind fun x10=>
    (if x10 then (YY n p1.Mem p0.W) else some default).bind fun x11=>
    (if (x10 && x11) then (YY n p1.Out p0.W) else some default).bind fun x12=>
    (if ((x10 && x11) && x12) then (YY n p1.Cond 1) else some default).bind fun x13=>
    some (((x10 && x11) && x12) && x13)
   | .inr v=>some v
  | .inr v=>some v
def Ym (n:Nat) (p0:Int):Option Str:=
 match n with
 | 0=>none
 | n + 1=>
 if (decide (p0 < 0)) then
  (quo? p0 10).bind fun x1=>
  if (x1 == 0) then
   (cat? ⟨[45]⟩ (strOf ([(Byt.mk (IntKind.u8.wrap (w64 (48 - p0))))]:List Byt))).bind fun x2=>
   some x2
  else
   (quo? p0 10).bind fun x3=>
   (Ym n x3).bind fun x4=>
   (rem? p0 10).bind fun x5=>
   (cat? x4 (strOf ([(Byt.mk (IntKind.u8.wrap (w64 (48 - x5))))]:List Byt))).bind fun x6=>
   some x6
 else
  (iterN (fun (s1 : Int × Str) =>
   if (decide (s1.1 > 9)) then
    (rem? s1.1 10).bind fun x7=>
    (cat? (strOf ([(Byt.mk (IntKind.u8.wrap (w64 (48 + x7))))]:List Byt)) s1.2).bind fun x8=>
    (quo? s1.1 10).bind fun x9=>
    some (.inl (x9,x8))
   else
    some (.inr (s1.1,s1.2))
  ) n (p0,⟨[]⟩)).bind fun (rl1:Int × Str)=>
  (cat? (strOf ([(Byt.mk (IntKind.u8.wrap (w64 (48 + rl1.1))))]:List Byt)) rl1.2).bind fun x10=>
  some x10
def Yo (n:Nat) (p0:D.Term) (p1:D.Path):Option D.Term:=
 match n with
 | 0=>none
 | n + 1=>
 if (p0.Op == 22) then
  (iterN (fun (s1 : Int) =>
   if (decide (s1 < (len p1.Regs))) then
    (get? p1.Regs s1).bind fun x1=>
    (Ym n s1).bind fun x2=>
    (cat? ⟨[114]⟩ x2).bind fun x3=>
    if (Str.eqb p0.Name x3) then
     some (.inr (.inr x1))
    else
     some (.inl ((w64 (s1 + 1))))
   else
    some (.inr (.inl ()))
  ) n (0)).bind fun (rl1:(Unit) ⊕ D.Term)=>
  match rl1 with
  | .inl s1r =>
   (iterN (fun (s2 : Int) =>
    if (decide (s2 < (len p1.Mem))) then
     (get? p1.Mem s2).bind fun x4=>
     (Ym n s2).bind fun x5=>
     (cat? ⟨[109]⟩ x5).bind fun x6=>
     if (Str.eqb p0.Name x6) then
      some (.inr (.inr x4))
     else
      some (.inl ((w64 (s2 + 1))))
    else
     some (.inr (.inl ()))
   ) n (0)).bind fun (rl2:(Unit) ⊕ D.Term)=>
   match rl2 with
   | .inl s2r=>
    some p0
   | .inr v=>some v
  | .inr v=>some v
 else
  (iterN (fun (s3 : Int × (List D.Term)) =>
   if (decide (s3.1 < (len p0.Kids))) then
    (get? p0.Kids s3.1).bind fun x7=>
    (Yo n x7 p1).bind fun x8=>
    (app? s3.2 ([x8]:List D.Term)).bind fun x9=>
    some (.inl ((w64 (s3.1 + 1)),x9))
   else
    some (.inr (s3.2))
  ) n (0,([]:List D.Term))).bind fun (rl3:(List D.Term))=>
  some (D.Term.mk p0.Op p0.W p0.N p0.Name rl3)
def ZY (p0:Int) (p1:Int):Option Int:=
 (Zm p0 1 16).bind fun x1=>
 if (!x1) then
  some (-1)
 else
  (shl? 1 p0).bind fun x2=>
  some (band p1 (w64 (x2 - 1)))
def YR (p0:Int) (p1:Int) (p2:Int):Option Int:=
 (ZF p1 p2).bind fun x1=>
 if (!x1) then
  some (-1)
 else
  if (p0 == 1) then
   (shl? 1 p1).bind fun x2=>
   some (w64 ((w64 (x2 - 1)) - p2))
  else
   if (p0 == 2) then
    (ZY p1 (w64 (0 - p2))).bind fun x3=>
    some x3
   else
    some (-1)
def Y0 (p0:Int) (p1:Int):Option Int:=
 (ZF p0 p1).bind fun x1=>
 if (!x1) then
  some 0
 else
  (shr? p1 (w64 (p0 - 1))).bind fun x2=>
  if (x2 == 1) then
   (shl? 1 p0).bind fun x3=>
   some (w64 (p1 - x3))
  else
   some p1
def XR (p0:Bool):Option Int:=
 if p0 then
  some 1
 else
  some 0
def Yv (p0:Int) (p1:Int) (p2:Int) (p3:Int):Option Int:=
 (ZF p1 p2).bind fun x1=>
 (if (!x1) then some default else (ZF p1 p3)).bind fun x2=>
 if ((!x1) || (!x2)) then
  some (-1)
 else
  if (p0 == 3) then
   (ZY p1 (w64 (p2 + p3))).bind fun x3=>
   some x3
  else
   if (p0 == 4) then
    (ZY p1 (w64 (p2 - p3))).bind fun x4=>
    some x4
   else
    if (p0 == 5) then
     (ZY p1 (w64 (p2 * p3))).bind fun x5=>
     some x5
    else
     if (p0 == 6) then
      if (p3 == 0) then
       (shl? 1 p1).bind fun x6=>
       some (w64 (x6 - 1))
      else
       (quo? p2 p3).bind fun x7=>
       some x7
     else
      if (p0 == 7) then
       if (p3 == 0) then
        some p2
       else
        (rem? p2 p3).bind fun x8=>
        some x8
      else
       if (p0 == 8) then
        some (band p2 p3)
       else
        if (p0 == 9) then
         some (bor p2 p3)
        else
         if (p0 == 10) then
          some (bxor p2 p3)
         else
          if (p0 == 11) then
           if (decide (p3 ≥ p1)) then
            some 0
           else
            (shl? p2 p3).bind fun x9=>
            (ZY p1 x9).bind fun x10=>
            some x10
          else
           if (p0 == 12) then
            if (decide (p3 ≥ p1)) then
             some 0
            else
             (shr? p2 p3).bind fun x11=>
             some x11
           else
            if (p0 == 13) then
             (Y0 p1 p2).bind fun x12=>
             (shr? x12 (cond (decide (p3 ≥ p1)) (w64 (p1 - 1)) p3)).bind fun x13=>
             (ZY p1 x13).bind fun x14=>
             some x14
            else
             if (p0 == 14) then
              (XR (p2 == p3)).bind fun x15=>
              some x15
             else
              if (p0 == 15) then
               (XR (decide (p2 < p3))).bind fun x16=>
               some x16
              else
               if (p0 == 16) then
                (Y0 p1 p2).bind fun x17=>
                (Y0 p1 p3).bind fun x18=>
                (XR (decide (x17 < x18))).bind fun x19=>
                some x19
               else
                some (-1)
def Xe (p0:Int) (p1:Int) (p2:Int) (p3:Int):Option Int:=
 (ZF p0 p1).bind fun x1=>
 (if (!x1) then some default else (ZF p2 p3)).bind fun x2=>
 if (((!x1) || (!x2)) || (decide ((w64 (p0 + p2)) > 16))) then
  some (-1)
 else
  (shl? p1 p2).bind fun x3=>
  some (w64 (x3 + p3))
def XH (p0:Int) (p1:Int) (p2:Int) (p3:Int):Option Int:=
 (ZF p0 p1).bind fun x1=>
 if (((((!x1) || (decide (p2 < 0))) || (decide (p3 < 1))) || (decide (p3 > p0))) || (decide (p2 > (w64 (p0 - p3))))) then
  some (-1)
 else
  (shr? p1 p2).bind fun x2=>
  (ZY p3 x2).bind fun x3=>
  some x3
def Xc (p0:Int) (p1:Int) (p2:Int) (p3:Bool):Option Int:=
 (ZF p0 p1).bind fun x1=>
 if (((!x1) || (decide (p2 < p0))) || (decide (p2 > 16))) then
  some (-1)
 else
  if p3 then
   (Y0 p0 p1).bind fun x2=>
   (ZY p2 x2).bind fun x3=>
   some x3
  else
   some p1
def Y1 (p0:D.Term) (p1:List Int):Option Int:=
 (Zm p0.Op 1 2).bind fun x1=>
 if x1 then
  (get? p1 0).bind fun x2=>
  (YR p0.Op p0.W x2).bind fun x3=>
  some x3
 else
  (Zm p0.Op 3 16).bind fun x4=>
  if x4 then
   (get? p0.Kids 0).bind fun x5=>
   (get? p1 0).bind fun x6=>
   (get? p1 1).bind fun x7=>
   (Yv p0.Op x5.W x6 x7).bind fun x8=>
   some x8
  else
   if (p0.Op == 17) then
    (get? p1 0).bind fun x9=>
    if (x9 == 1) then
     (get? p1 1).bind fun x10=>
     some x10
    else
     (get? p1 2).bind fun x11=>
     some x11
   else
    if (p0.Op == 18) then
     (get? p0.Kids 0).bind fun x12=>
     (get? p1 0).bind fun x13=>
     (get? p0.Kids 1).bind fun x14=>
     (get? p1 1).bind fun x15=>
     (Xe x12.W x13 x14.W x15).bind fun x16=>
     some x16
    else
     if (p0.Op == 19) then
      (get? p0.Kids 0).bind fun x17=>
      (get? p1 0).bind fun x18=>
      (XH x17.W x18 p0.N p0.W).bind fun x19=>
      some x19
     else
      (get? p0.Kids 0).bind fun x20=>
      (get? p1 0).bind fun x21=>
      (Xc x20.W x21 p0.W (p0.Op == 21)).bind fun x22=>
      some x22
def YV (p0:Int) (p1:Int):Option D.Term:=
 some (D.Term.mk 0 p0 p1 ⟨[]⟩ ([]:List D.Term))
def Xk (p0:Int) (p1:Int):Option Int:=
 if (decide (p0 < p1)) then
  some (-1)
 else
  if (decide (p0 > p1)) then
   some 1
  else
   some 0
def ZB (n:Nat) (p0:D.Term) (p1:D.Term):Option Int:=
 match n with
 | 0=>none
 | n + 1=>
 (Xk p0.Op p1.Op).bind fun x1=>
 (Xk p0.W p1.W).bind fun x2=>
 (Xk p0.N p1.N).bind fun x3 =>
 (iterN (fun (s1 : Int) =>
  if (decide (s1 < (len ([x1,x2,x3]:List Int)))) then
   (get? ([x1,x2,x3]:List Int) s1).bind fun x4=>
   if (x4 != 0) then
    some (.inr (.inr x4))
   else
    some (.inl ((w64 (s1 + 1))))
  else
   some (.inr (.inl ()))
 ) n (0)).bind fun (rl1:(Unit) ⊕ Int)=>
 match rl1 with
 | .inl s1r=>
  if (!(Str.eqb p0.Name p1.Name)) then
   if (Str.ltb p0.Name p1.Name) then
    some (-1)
   else
    some 1
  else
   (iterN (fun (s2 : Int) =>
    if (decide (s2 < (len p0.Kids))) then
     (get? p0.Kids s2).bind fun x5=>
     if (s2 == (len p1.Kids)) then
      some (.inr (.inr 1))
     else
      (get? p1.Kids s2).bind fun x6=>
      (ZB n x5 x6).bind fun x7=>
      if (x7 != 0) then
       some (.inr (.inr x7))
      else
       some (.inl ((w64 (s2 + 1))))
    else
     some (.inr (.inl ()))
   ) n (0)).bind fun (rl2:(Unit) ⊕ Int)=>
   match rl2 with
   | .inl s2r=>
    (Xk (len p0.Kids) (len p1.Kids)).bind fun x8=>
    some x8
   | .inr v=>some v
 | .inr v=>some v
def Zp (p0:D.Term) (p1:Int):Option Bool:=
 some ((p0.Op == 0) && (p0.N == p1))
def ZaP (p0:D.Term):Option Bool:=
 (if (p0.Op == 0) then (shl? 1 p0.W) else some default).bind fun x1=>
 some ((p0.Op == 0) && (p0.N == (w64 (x1 - 1))))
def Yb (n:Nat) (p0:D.Term) (p1:D.Term):Option Bool:=
 (ZB n p0 p1).bind fun x1=>
 some (x1 == 0)
def Zi (p0:D.Term):Option (D.Term × Bool):=
 if ((p0.Op == 8) || (p0.Op == 9)) then
  (get? p0.Kids 0).bind fun x1=>
  some (x1,true)
 else
  (
   if (p0.Op == 4) then
    some (.inl ((p0.Op == 4)))
   else
    if (p0.Op == 10) then
     some (.inl ((p0.Op == 10)))
    else
     some (.inl (((p0.Op == 15) || (p0.Op == 16))))
  ).bind fun (rl1:(Bool) ⊕ (D.Term × Bool))=>
  match rl1 with
  | .inl s1r=>
   if s1r then
    (YV p0.W 0).bind fun x2=>
    some ((D.Term.mk x2.Op x2.W x2.N x2.Name ([]:List D.Term)),true)
   else
    if (p0.Op == 14) then
     (YV 1 1).bind fun x3=>
     some ((D.Term.mk x3.Op x3.W x3.N x3.Name ([]:List D.Term)),true)
    else
     some (p0,false)
  | .inr v=>some v
mutual
def Z6 (n:Nat) (p0:D.Term):Option (D.Term × Bool):=
 match n with
 | 0=>none
 | n + 1=>
 (get? p0.Kids 0).bind fun x1=>
 (get? p0.Kids 1).bind fun x2=>
 (Zp x1 0).bind fun x3=>
 (ZaP x1).bind fun x4=>
 (
  if ((p0.Op == 3) && x3) then
   some (.inl (((p0.Op == 3) && x3)))
  else
   if ((p0.Op == 9) && x3) then
    some (.inl (((p0.Op == 9) && x3)))
   else
    some (.inl (((p0.Op == 10) && x3)))
 ).bind fun (rl1:(Bool) ⊕ (D.Term × Bool))=>
 match rl1 with
 | .inl s1r=>
  if s1r then
   some (x2,true)
  else
   (
    if ((p0.Op == 5) && x3) then
     some (.inl (((p0.Op == 5) && x3)))
    else
     if ((p0.Op == 8) && x3) then
      some (.inl (((p0.Op == 8) && x3)))
     else
      some (.inl (((p0.Op == 9) && x4)))
   ).bind fun (rl2:(Bool) ⊕ (D.Term × Bool))=>
   match rl2 with
   | .inl s2r=>
    if s2r then
     some (x1,true)
    else
     (
      if ((p0.Op == 5) && (x1.N == 1)) then
       some (.inl (((p0.Op == 5) && (x1.N == 1))))
      else
       some (.inl (((p0.Op == 8) && x4)))
     ).bind fun (rl3:(Bool) ⊕ (D.Term × Bool))=>
     match rl3 with
     | .inl s3r=>
      if s3r then
       some (x2,true)
      else
       if ((p0.Op == 10) && x4) then
        (Z4 n (D.Term.mk 1 p0.W 0 ⟨[]⟩ ([x2]:List D.Term))).bind fun x5=>
        some (x5,true)
       else
        if (((p0.Op == 14) && (x1.W == 1)) && (x1.N == 1)) then
         some (x2,true)
        else
         if ((p0.Op == 14) && (x1.W == 1)) then
          (Z4 n (D.Term.mk 1 1 0 ⟨[]⟩ ([x2]:List D.Term))).bind fun x6=>
          some (x6,true)
         else
          some (p0,false)
     | .inr v=>some v
   | .inr v=>some v
 | .inr v=>some v
def Z4 (n:Nat) (p0:D.Term):Option D.Term:=
 match n with
 | 0=>none
 | n + 1 =>
 (iterN (fun (s1 : Bool × Int × (List Int)) =>
  if (decide (s1.2.1 < (len p0.Kids))) then
   (get? p0.Kids s1.2.1).bind fun x1=>
   (app? s1.2.2 ([x1.N]:List Int)).bind fun x2=>
   some (.inl ((s1.1 && (x1.Op == 0)),(w64 (s1.2.1 + 1)),x2))
  else
   some (.inr (s1.1,s1.2.2))
 ) n ((decide ((len p0.Kids) > 0)),0,([]:List Int))).bind fun (rl1:Bool × (List Int))=>
 if rl1.1 then
  (Y1 p0 rl1.2).bind fun x3=>
  (YV p0.W x3).bind fun x4=>
  some (D.Term.mk x4.Op x4.W x4.N x4.Name ([]:List D.Term))
 else
  (Zm p0.Op 3 16).bind fun x5=>
  if x5 then
   (Zh n p0).bind fun x6=>
   some x6
  else
   if ((p0.Op == 1) || (p0.Op == 2)) then
    (get? p0.Kids 0).bind fun x7=>
    if (x7.Op == p0.Op) then
     (get? p0.Kids 0).bind fun x8=>
     (get? x8.Kids 0).bind fun x9=>
     some x9
    else
     some p0
   else
    if (p0.Op == 17) then
     (YD n p0).bind fun x10=>
     some x10
    else
     if (p0.Op == 19) then
      (Yu n p0).bind fun x11=>
      some x11
     else
      if ((p0.Op == 20) || (p0.Op == 21)) then
       (get? p0.Kids 0).bind fun x12=>
       if (x12.W == p0.W) then
        some x12
       else
        if (x12.Op == p0.Op) then
         (Z4 n (D.Term.mk p0.Op p0.W 0 ⟨[]⟩ x12.Kids)).bind fun x13=>
         some x13
        else
         some p0
      else
       if (p0.Op == 18) then
        (get? p0.Kids 0).bind fun x14=>
        (get? p0.Kids 1).bind fun x15=>
        (if ((x14.Op == 19) && (x15.Op == 19)) then (get? x14.Kids 0) else some default).bind fun x16=>
        (if ((x14.Op == 19) && (x15.Op == 19)) then (get? x15.Kids 0) else some default).bind fun x17=>
        (if ((x14.Op == 19) && (x15.Op == 19)) then (Yb n x16 x17) else some default).bind fun x18=>
        if ((((x14.Op == 19) && (x15.Op == 19)) && x18) && (x14.N == (w64 (x15.N + x15.W)))) then
         (Z4 n (D.Term.mk 19 p0.W x15.N ⟨[]⟩ x15.Kids)).bind fun x19=>
         some x19
        else
         some p0
       else
        some p0
def Zh (n:Nat) (p0:D.Term):Option D.Term:=
 match n with
 | 0=>none
 | n + 1=>
 (get? p0.Kids 0).bind fun x1=>
 (get? p0.Kids 1).bind fun x2=>
 (if ((p0.Op == 3) || (p0.Op == 5)) then some default else (Zm p0.Op 8 10)).bind fun x3=>
 (if ((((p0.Op == 3) || (p0.Op == 5)) || x3) || (p0.Op == 14)) then (ZB n x1 x2) else some default).bind fun x4=>
 if (((((p0.Op == 3) || (p0.Op == 5)) || x3) || (p0.Op == 14)) && (decide (x4 > 0))) then
  (Z4 n (D.Term.mk p0.Op p0.W p0.N p0.Name ([x2,x1]:List D.Term))).bind fun x5=>
  some x5
 else
  (
   if (x1.Op == 0) then
    (Z6 n p0).bind fun x6=>
    if x6.2 then
     some (.inr x6.1)
    else
     some (.inl ())
   else
    some (.inl ())
  ).bind fun (rl1:(Unit) ⊕ D.Term)=>
  match rl1 with
  | .inl s1r=>
   (Zp x2 0).bind fun x7=>
   (
    if x7 then
     (if (p0.Op == 4) then some default else (Zm p0.Op 11 13)).bind fun x8=>
     if ((p0.Op == 4) || x8) then
      some (.inr x1)
     else
      if (p0.Op == 15) then
       (YV 1 0).bind fun x9=>
       some (.inr (D.Term.mk x9.Op x9.W x9.N x9.Name ([]:List D.Term)))
      else
       some (.inl ())
    else
     some (.inl ())
   ).bind fun (rl2:(Unit) ⊕ D.Term)=>
   match rl2 with
   | .inl s2r=>
    (Yb n x1 x2).bind fun x10=>
    (
     if x10 then
      (Zi p0).bind fun x11=>
      if x11.2 then
       some (.inr x11.1)
      else
       some (.inl ())
     else
      some (.inl ())
    ).bind fun (rl3:(Unit) ⊕ D.Term)=>
    match rl3 with
    | .inl s3r=>
     (if (((((p0.Op == 3) || (p0.Op == 5)) || x3) && (x1.Op == 0)) && (x2.Op == p0.Op)) then (get? x2.Kids 0) else some default).bind fun x12=>
     if ((((((p0.Op == 3) || (p0.Op == 5)) || x3) && (x1.Op == 0)) && (x2.Op == p0.Op)) && (x12.Op == 0)) then
      (get? x2.Kids 0).bind fun x13=>
      (Yv p0.Op p0.W x1.N x13.N).bind fun x14=>
      (YV p0.W x14).bind fun x15=>
      (get? x2.Kids 1).bind fun x16=>
      (Z4 n (D.Term.mk p0.Op p0.W 0 ⟨[]⟩ ([(D.Term.mk x15.Op x15.W x15.N x15.Name ([]:List D.Term)),x16]:List D.Term))).bind fun x17=>
      some x17
     else
      some p0
    | .inr v=>some v
   | .inr v=>some v
  | .inr v=>some v
def YD (n:Nat) (p0:D.Term):Option D.Term:=
 match n with
 | 0=>none
 | n + 1=>
 (get? p0.Kids 0).bind fun x1=>
 (get? p0.Kids 1).bind fun x2=>
 (get? p0.Kids 2).bind fun x3=>
 (Zp x1 1).bind fun x4=>
 if x4 then
  some x2
 else
  (Zp x1 0).bind fun x5=>
  if x5 then
   some x3
  else
   (Yb n x2 x3).bind fun x6=>
   if x6 then
    some x2
   else
    if (x1.Op == 1) then
     (get? x1.Kids 0).bind fun x7=>
     (Z4 n (D.Term.mk 17 p0.W 0 ⟨[]⟩ ([x7,x3,x2]:List D.Term))).bind fun x8=>
     some x8
    else
     (if (p0.W == 1) then (Zp x2 1) else some default).bind fun x9=>
     (if ((p0.W == 1) && x9) then (Zp x3 0) else some default).bind fun x10=>
     if (((p0.W == 1) && x9) && x10) then
      some x1
     else
      (if (p0.W == 1) then (Zp x2 0) else some default).bind fun x11=>
      (if ((p0.W == 1) && x11) then (Zp x3 1) else some default).bind fun x12=>
      if (((p0.W == 1) && x11) && x12) then
       (Z4 n (D.Term.mk 1 1 0 ⟨[]⟩ ([x1]:List D.Term))).bind fun x13=>
       some x13
      else
       some p0
def Yu (n:Nat) (p0:D.Term):Option D.Term:=
 match n with
 | 0=>none
 | n + 1=>
 (get? p0.Kids 0).bind fun x1=>
 if (p0.W == x1.W) then
  some x1
 else
  if (x1.Op == 19) then
   (get? x1.Kids 0).bind fun x2=>
   (Yl n p0.W x2 (w64 (p0.N + x1.N))).bind fun x3=>
   some x3
  else
   (if (x1.Op == 18) then (get? x1.Kids 1) else some default).bind fun x4=>
   if ((x1.Op == 18) && (decide ((w64 (p0.N + p0.W)) ≤ x4.W))) then
    (get? x1.Kids 1).bind fun x5=>
    (Yl n p0.W x5 p0.N).bind fun x6=>
    some x6
   else
    (if (x1.Op == 18) then (get? x1.Kids 1) else some default).bind fun x7=>
    if ((x1.Op == 18) && (decide (p0.N ≥ x7.W))) then
     (get? x1.Kids 0).bind fun x8=>
     (get? x1.Kids 1).bind fun x9=>
     (Yl n p0.W x8 (w64 (p0.N - x9.W))).bind fun x10=>
     some x10
    else
     (Zm x1.Op 20 21).bind fun x11=>
     (if x11 then (get? x1.Kids 0) else some default).bind fun x12=>
     if (x11 && (decide ((w64 (p0.N + p0.W)) ≤ x12.W))) then
      (get? x1.Kids 0).bind fun x13=>
      (Yl n p0.W x13 p0.N).bind fun x14=>
      some x14
     else
      some p0
def Yl (n:Nat) (p0:Int) (p1:D.Term) (p2:Int):Option D.Term:=
 match n with
 | 0=>none
 | n + 1=>
 (Z4 n (D.Term.mk 19 p0 p2 ⟨[]⟩ ([p1]:List D.Term))).bind fun x1=>
 some x1
end
def ZR (n:Nat) (p0:D.Term):Option D.Term:=
 match n with
 | 0=>none
 | n + 1 =>
 (iterN (fun (s1 : Int × (List D.Term)) =>
  if (decide (s1.1 < (len p0.Kids))) then
   (get? p0.Kids s1.1).bind fun x1=>
   (ZR n x1).bind fun x2=>
   (app? s1.2 ([x2]:List D.Term)).bind fun x3=>
   some (.inl ((w64 (s1.1 + 1)),x3))
  else
   some (.inr (s1.2))
 ) n (0,([]:List D.Term))).bind fun (rl1:(List D.Term))=>
 (Z4 n (D.Term.mk p0.Op p0.W p0.N p0.Name rl1)).bind fun x4=>
 some x4
def Y6 (n:Nat) (p0:D.Term):Option D.Term:=
 match n with
 | 0=>none
 | n + 1 =>
 (iterN (fun (s1 : Int × (List D.Term)) =>
  if (decide (s1.1 < (len p0.Kids))) then
   (get? p0.Kids s1.1).bind fun x1=>
   (Y6 n x1).bind fun x2=>
   (app? s1.2 ([x2]:List D.Term)).bind fun x3=>
   some (.inl ((w64 (s1.1 + 1)),x3))
  else
   some (.inr (s1.2))
 ) n (0,([]:List D.Term))).bind fun (rl1:(List D.Term))=>
 some (D.Term.mk p0.Op p0.W p0.N p0.Name rl1)
def Za2 (n:Nat) (p0:D.Term):Option D.Term:=
 (Xl n p0).bind fun x1=>
 if (!x1) then
  some (D.Term.mk 0 0 0 ⟨[]⟩ ([]:List D.Term))
 else
  (ZR n p0).bind fun x2=>
  (Y6 n x2).bind fun x3=>
  some x3
def Xv (n:Nat) (p0:List D.Term) (p1:D.Path):Option ((List D.Term) × Bool) :=
 (iterN (fun (s1 : Int × (List D.Term)) =>
  if (decide (s1.1 < (len p0))) then
   (get? p0 s1.1).bind fun x1=>
   (Yo n x1 p1).bind fun x2=>
   (Xl n x2).bind fun x3=>
   if (!x3) then
    some (.inr (.inr (([]:List D.Term),false)))
   else
    (Za2 n x2).bind fun x4=>
    (app? s1.2 ([x4]:List D.Term)).bind fun x5=>
    some (.inl ((w64 (s1.1 + 1)),x5))
  else
   some (.inr (.inl (s1.2)))
 ) n (0,([]:List D.Term))).bind fun (rl1:((List D.Term)) ⊕ ((List D.Term) × Bool))=>
 match rl1 with
 | .inl s1r=>
  some (s1r,true)
 | .inr v=>some v
def YA (n:Nat) (p0:List D.Term):Option (List D.Term) :=
 (iterN (fun (s1 : Int × (List D.Term)) =>
  if (decide (s1.1 < (len p0))) then
   (get? p0 s1.1).bind fun x1=>
   (Y6 n x1).bind fun x2=>
   (app? s1.2 ([x2]:List D.Term)).bind fun x3=>
   some (.inl ((w64 (s1.1 + 1)),x3))
  else
   some (.inr (s1.2))
 ) n (0,([]:List D.Term))).bind fun (rl1:(List D.Term))=>
 some rl1
def XD (n:Nat) (p0:D.Path):Option D.Path:=
 (YA n p0.Regs).bind fun x1=>
 (YA n p0.Mem).bind fun x2=>
 (app? ([]:List Int) p0.Stack).bind fun x3=>
 (YA n p0.Out).bind fun x4=>
 (YA n p0.Cond).bind fun x5=>
 (app? ([]:List Int) p0.Turns).bind fun x6=>
 some (D.Path.mk p0.Pc x1 x2 x3 p0.In x4 p0.Code p0.Steps x5 x6)
def XP (n:Nat) (p0:D.Program) (p1:D.Path) (p2:D.Path):Option (D.Path × Bool × Bool):=
 (Xv n p2.Cond p1).bind fun x1=>
 (Xv n p2.Regs p1).bind fun x2=>
 (Xv n p2.Mem p1).bind fun x3=>
 if (((!x1.2) || (!x2.2)) || (!x3.2)) then
  some ((D.Path.mk 0 ([]:List D.Term) ([]:List D.Term) ([]:List Int) 0 ([]:List D.Term) 0 0 ([]:List D.Term) ([]:List Int)),false,false)
 else
  (XD n p1).bind fun x4 =>
  (iterN (fun (s1 : Int × (List D.Term) × (List Int)) =>
   if (decide (s1.1 < (len x1.1))) then
    (get? x1.1 s1.1).bind fun x5=>
    (Zp x5 0).bind fun x6=>
    if x6 then
     some (.inr (.inr ((D.Path.mk 0 ([]:List D.Term) ([]:List D.Term) ([]:List Int) 0 ([]:List D.Term) 0 0 ([]:List D.Term) ([]:List Int)),false,true)))
    else
     (Zp x5 1).bind fun x7=>
     if (!x7) then
      (app? s1.2.1 ([x5]:List D.Term)).bind fun x8=>
      (get? p2.Turns s1.1).bind fun x9=>
      (app? s1.2.2 ([x9]:List Int)).bind fun x10=>
      some (.inl ((w64 (s1.1 + 1)),x8,x10))
     else
      some (.inl ((w64 (s1.1 + 1)),s1.2.1,s1.2.2))
   else
    some (.inr (.inl (s1.2.1,s1.2.2)))
  ) n (0,x4.Cond,x4.Turns)).bind fun (rl1:((List D.Term) × (List Int)) ⊕ (D.Path × Bool × Bool))=>
  match rl1 with
  | .inl s1r=>
   if (p2.Code != 0) then
    (app? x4.Stack ([(w64 (p1.Pc + 1))]:List Int)).bind fun x11=>
    (XD n (D.Path.mk p2.Pc x2.1 x3.1 x11 x4.In x4.Out p2.Code (w64 ((w64 ((w64 (p1.Steps + p2.Steps)) + 2)) - 1)) s1r.1 s1r.2)).bind fun x12=>
    (Xn n p0 (D.Path.mk p2.Pc x2.1 x3.1 x11 x4.In x4.Out p2.Code (w64 ((w64 ((w64 (p1.Steps + p2.Steps)) + 2)) - 1)) s1r.1 s1r.2)).bind fun x13=>
    some (x12,true,x13)
   else
    (XD n (D.Path.mk (w64 (p1.Pc + 1)) x2.1 x3.1 x4.Stack x4.In x4.Out x4.Code (w64 ((w64 (p1.Steps + p2.Steps)) + 2)) s1r.1 s1r.2)).bind fun x14=>
    (Xn n p0 (D.Path.mk (w64 (p1.Pc + 1)) x2.1 x3.1 x4.Stack x4.In x4.Out x4.Code (w64 ((w64 (p1.Steps + p2.Steps)) + 2)) s1r.1 s1r.2)).bind fun x15=>
    some (x14,true,x15)
  | .inr v=>some v
def Xt (n:Nat) (p0:D.Program) (p1:D.Path) (p2:List D.Path):Option ((List D.Path) × Bool):=
 (Xn n p0 p1).bind fun x1=>
 if ((((!x1) || (p1.Code != 0)) || (p1.Pc == (len p0.Code))) || ((len p1.Stack) == 3)) then
  some (([]:List D.Path),false)
 else
  (get? p0.Code p1.Pc).bind fun x2=>
  if (x2.Op != 11) then
   some (([]:List D.Path),false)
  else
   (iterN (fun (s1 : Int) =>
    if (decide (s1 < (len p2))) then
     (get? p2 s1).bind fun x3=>
     (Xn n p0 x3).bind fun x4=>
     if ((!x4) || ((len x3.Turns) != (len x3.Cond))) then
      some (.inr (.inr (([]:List D.Path),false)))
     else
      some (.inl ((w64 (s1 + 1))))
    else
     some (.inr (.inl ()))
   ) n (0)).bind fun (rl1:(Unit) ⊕ ((List D.Path) × Bool))=>
   match rl1 with
   | .inl s1r =>
    (iterN (fun (s2 : Int × (List D.Path)) =>
     if (decide (s2.1 < (len p2))) then
      (get? p2 s2.1).bind fun x5=>
      (XP n p0 p1 x5).bind fun x6=>
      if (!x6.2.2) then
       some (.inr (.inr (([]:List D.Path),false)))
      else
       if x6.2.1 then
        (app? s2.2 ([x6.1]:List D.Path)).bind fun x7=>
        some (.inl ((w64 (s2.1 + 1)),x7))
       else
        some (.inl ((w64 (s2.1 + 1)),s2.2))
     else
      some (.inr (.inl (s2.2)))
    ) n (0,([]:List D.Path))).bind fun (rl2:((List D.Path)) ⊕ ((List D.Path) × Bool))=>
    match rl2 with
    | .inl s2r=>
     some (s2r,true)
    | .inr v=>some v
   | .inr v=>some v
def Zbu (p0:Int) (p1:Int):Option Bool:=
 some ((((decide (p0 ≥ 2)) && (decide (p0 ≤ 8))) && (decide (p1 ≥ 1))) && (decide (p1 ≤ 40)))
def ZQ (p0:Int):Option Bool:=
 some ((decide (p0 ≥ 1)) && (decide (p0 ≤ 16)))
def ZO (p0:Int) (p1:Int):Option Bool:=
 (ZQ p0).bind fun x1=>
 (if (x1 && (decide (p1 ≥ 0))) then (shl? 1 (IntKind.u64.wrap p0)) else some default).bind fun x2=>
 some ((x1 && (decide (p1 ≥ 0))) && (decide (p1 < x2)))
def Xf (p0:Int):Option Bool:=
 some ((decide (p0 ≥ 0)) && (decide (p0 < 4)))
def XN (p0:Int):Option Bool:=
 some ((decide (p0 ≥ 3)) && (decide (p0 ≤ 16)))
def ZaA (p0:D.Ins) (p1:Int) (p2:Int):Option Bool:=
 if (p0.Op == 3) then
  (Xf p0.A).bind fun x1=>
  (if x1 then (Xf p0.B) else some default).bind fun x2=>
  (if (x1 && x2) then (XN p0.C) else some default).bind fun x3=>
  some ((x1 && x2) && x3)
 else
  if (p0.C != 0) then
   some false
  else
   if (p0.Op == 1) then
    (Xf p0.A).bind fun x4=>
    (if x4 then (ZO p1 p0.B) else some default).bind fun x5=>
    some (x4 && x5)
   else
    (
     if (p0.Op == 2) then
      some (.inl ((p0.Op == 2)))
     else
      some (.inl (((p0.Op == 7) || (p0.Op == 8))))
    ).bind fun (rl1:(Bool) ⊕ Bool)=>
    match rl1 with
    | .inl s1r=>
     if s1r then
      (Xf p0.A).bind fun x6=>
      (if x6 then (Xf p0.B) else some default).bind fun x7=>
      some (x6 && x7)
     else
      (
       if (p0.Op == 4) then
        some (.inl ((p0.Op == 4)))
       else
        if (p0.Op == 5) then
         some (.inl ((p0.Op == 5)))
        else
         some (.inl (((p0.Op == 6) || (p0.Op == 13))))
      ).bind fun (rl2:(Bool) ⊕ Bool)=>
      match rl2 with
      | .inl s2r=>
       if s2r then
        (Xf p0.A).bind fun x8=>
        some (x8 && (p0.B == 0))
       else
        if ((p0.Op == 9) || (p0.Op == 11)) then
         some ((p0.A == 0) && ((decide (p0.B ≥ 0)) && (decide (p0.B ≤ p2))))
        else
         if (p0.Op == 10) then
          (Xf p0.A).bind fun x9=>
          some (x9 && ((decide (p0.B ≥ 0)) && (decide (p0.B ≤ p2))))
         else
          if ((p0.Op == 12) || (p0.Op == 14)) then
           some ((p0.A == 0) && (p0.B == 0))
          else
           some false
      | .inr v=>some v
    | .inr v=>some v
def Zad (n:Nat) (p0:D.Program):Option Bool:=
 (Zbu p0.W (len p0.Code)).bind fun x1=>
 (if (((!x1) || (decide (p0.Mem < 1))) || (decide (p0.Mem > 6))) then some default else (ZO p0.W p0.Mem)).bind fun x2=>
 if ((((!x1) || (decide (p0.Mem < 1))) || (decide (p0.Mem > 6))) || (!x2)) then
  some false
 else
  if ((decide (p0.In < 0)) || (decide (p0.In > 3))) then
   some false
  else
   (iterN (fun (s1 : Int) =>
    if (decide (s1 < (len p0.Code))) then
     (get? p0.Code s1).bind fun x3=>
     (ZaA x3 p0.W (len p0.Code)).bind fun x4=>
     if (!x4) then
      some (.inr (.inr false))
     else
      some (.inl ((w64 (s1 + 1))))
    else
     some (.inr (.inl ()))
   ) n (0)).bind fun (rl1:(Unit) ⊕ Bool)=>
   match rl1 with
   | .inl s1r=>
    some true
   | .inr v=>some v
def XG (p0:D.Program) (p1:Int):Option Bool:=
 some ((decide (p1 ≥ 0)) && (decide (p1 ≤ (len p0.Code))))
def Zbe (p0:Int):Option Bool:=
 some ((decide (p0 ≥ 0)) && (decide (p0 ≤ 400)))
def ZaM (n:Nat) (p0:List Int):Option Bool :=
 (iterN (fun (s1 : Int) =>
  if (decide (s1 < (len p0))) then
   (get? p0 s1).bind fun x1=>
   if ((x1 != 0) && (x1 != 1)) then
    some (.inr (.inr false))
   else
    some (.inl ((w64 (s1 + 1))))
  else
   some (.inr (.inl ()))
 ) n (0)).bind fun (rl1:(Unit) ⊕ Bool)=>
 match rl1 with
 | .inl s1r=>
  some true
 | .inr v=>some v
def YG (p0:Int):Option Int:=
 if ((p0 == 0) || (p0 == 22)) then
  some 0
 else
  if (((((p0 == 1) || (p0 == 2)) || (p0 == 19)) || (p0 == 20)) || (p0 == 21)) then
   some 1
  else
   if (((decide (p0 ≥ 3)) && (decide (p0 ≤ 16))) || (p0 == 18)) then
    some 2
   else
    if (p0 == 17) then
     some 3
    else
     some (-1)
def Zaf (p0:D.Term):Option Bool:=
 if ((p0.Op == 0) || (p0.Op == 22)) then
  some true
 else
  if ((p0.Op == 1) || (p0.Op == 2)) then
   (get? p0.Kids 0).bind fun x1=>
   some (x1.W == p0.W)
  else
   if ((decide (p0.Op ≥ 3)) && (decide (p0.Op ≤ 13))) then
    (get? p0.Kids 0).bind fun x2=>
    (if (x2.W == p0.W) then (get? p0.Kids 1) else some default).bind fun x3=>
    some ((x2.W == p0.W) && (x3.W == p0.W))
   else
    if ((decide (p0.Op ≥ 14)) && (decide (p0.Op ≤ 16))) then
     (get? p0.Kids 0).bind fun x4=>
     (get? p0.Kids 1).bind fun x5=>
     some ((x4.W == x5.W) && (p0.W == 1))
    else
     if (p0.Op == 17) then
      (get? p0.Kids 0).bind fun x6=>
      (if (x6.W == 1) then (get? p0.Kids 1) else some default).bind fun x7=>
      (if ((x6.W == 1) && (x7.W == p0.W)) then (get? p0.Kids 2) else some default).bind fun x8=>
      some (((x6.W == 1) && (x7.W == p0.W)) && (x8.W == p0.W))
     else
      if (p0.Op == 18) then
       (get? p0.Kids 0).bind fun x9=>
       (get? p0.Kids 1).bind fun x10=>
       some ((w64 (x9.W + x10.W)) == p0.W)
      else
       if (p0.Op == 19) then
        (if (decide (p0.N ≥ 0)) then (get? p0.Kids 0) else some default).bind fun x11=>
        some ((decide (p0.N ≥ 0)) && (decide (p0.N ≤ (w64 (x11.W - p0.W)))))
       else
        (get? p0.Kids 0).bind fun x12=>
        some (decide (x12.W ≤ p0.W))
def Zbb (n:Nat) (p0:Str):Option Bool:=
 if ((decide ((len p0.bytes) < 1)) || (decide ((len p0.bytes) > 8))) then
  some false
 else
  (iterN (fun (s1 : Int) =>
   if (decide (s1 < (len p0.bytes))) then
    (sidx? p0 s1).bind fun x1=>
    (if (decide (x1 ≥ 97)) then (sidx? p0 s1) else some default).bind fun x2=>
    (sidx? p0 s1).bind fun x3=>
    (if (decide (x3 ≥ 48)) then (sidx? p0 s1) else some default).bind fun x4=>
    if ((!((decide (x1 ≥ 97)) && (decide (x2 ≤ 122)))) && (!(((decide (x3 ≥ 48)) && (decide (x4 ≤ 57))) && (decide (s1 > 0))))) then
     some (.inr (.inr false))
    else
     some (.inl ((w64 (s1 + 1))))
   else
    some (.inr (.inl ()))
  ) n (0)).bind fun (rl1:(Unit) ⊕ Bool)=>
  match rl1 with
  | .inl s1r=>
   some true
  | .inr v=>some v
def Yw (n:Nat) (p0:D.termCheck) (p1:D.Term):Option (Bool × D.termCheck):=
 (Zbb n p1.Name).bind fun x1=>
 if (!x1) then
  some (false,p0)
 else
  if (Option.isNone p0.widths) then
   (mget2? fitS (0:Int) ([]) p1.Name).bind fun x2=>
   if x2.2 then
    some ((x2.1 == p1.W),(D.termCheck.mk p0.count (some ([]))))
   else
    (mputE? fitS fitZ ([]) p1.Name p1.W).bind fun x3=>
    some (true,(D.termCheck.mk p0.count (some x3)))
  else
   (mget2? fitS (0:Int) (Option.getD p0.widths []) p1.Name).bind fun x4=>
   if x4.2 then
    some ((x4.1 == p1.W),(D.termCheck.mk p0.count (some (Option.getD p0.widths []))))
   else
    (mputE? fitS fitZ (Option.getD p0.widths []) p1.Name p1.W).bind fun x5=>
    some (true,(D.termCheck.mk p0.count (some x5)))
def Z9 (n:Nat) (p0:D.termCheck) (p1:D.Term):Option (Bool × D.termCheck):=
 match n with
 | 0=>none
 | n + 1=>
 (if (decide ((w64 (p0.count + 1)) > 240)) then some default else (ZQ p1.W)).bind fun x1=>
 (if ((decide ((w64 (p0.count + 1)) > 240)) || (!x1)) then some default else (YG p1.Op)).bind fun x2=>
 if (((decide ((w64 (p0.count + 1)) > 240)) || (!x1)) || ((len p1.Kids) != x2)) then
  some (false,(D.termCheck.mk (w64 (p0.count + 1)) p0.widths))
 else
  (iterN (fun (s1 : Int) =>
   if (decide (s1 < (len p1.Kids))) then
    (get? p1.Kids s1).bind fun x3=>
    (ZQ x3.W).bind fun x4=>
    if (!x4) then
     some (.inr (.inr (false,(D.termCheck.mk (w64 (p0.count + 1)) p0.widths))))
    else
     some (.inl ((w64 (s1 + 1))))
   else
    some (.inr (.inl ()))
  ) n (0)).bind fun (rl1:(Unit) ⊕ (Bool × D.termCheck))=>
  match rl1 with
  | .inl s1r=>
   (Zaf p1).bind fun x5=>
   if (!x5) then
    some (false,(D.termCheck.mk (w64 (p0.count + 1)) p0.widths))
   else
    (if (p1.Op == 0) then (ZO p1.W p1.N) else some default).bind fun x6=>
    if ((p1.Op == 0) && (!x6)) then
     some (false,(D.termCheck.mk (w64 (p0.count + 1)) p0.widths))
    else
     if (((p1.Op != 0) && (p1.Op != 19)) && (p1.N != 0)) then
      some (false,(D.termCheck.mk (w64 (p0.count + 1)) p0.widths))
     else
      if (p1.Op != 22) then
       if (!(Str.eqb p1.Name ⟨[]⟩)) then
        some (false,(D.termCheck.mk (w64 (p0.count + 1)) p0.widths))
       else
        (iterN (fun (s2 : Int × Int × (Option (List (Str × Int)))) =>
         if (decide (s2.1 < (len p1.Kids))) then
          (get? p1.Kids s2.1).bind fun x7=>
          (Z9 n (D.termCheck.mk s2.2.1 s2.2.2) x7).bind fun x8=>
          if (!x8.1) then
           some (.inr (.inr (false,x8.2)))
          else
           some (.inl ((w64 (s2.1 + 1)),x8.2.count,x8.2.widths))
         else
          some (.inr (.inl (s2.2.1,s2.2.2)))
        ) n (0,(w64 (p0.count + 1)),p0.widths)).bind fun (rl2:(Int × (Option (List (Str × Int)))) ⊕ (Bool × D.termCheck))=>
        match rl2 with
        | .inl s2r=>
         some (true,(D.termCheck.mk s2r.1 s2r.2))
        | .inr v=>some v
      else
       (Yw n (D.termCheck.mk (w64 (p0.count + 1)) p0.widths) p1).bind fun x9=>
       if (!x9.1) then
        some (false,x9.2)
       else
        (iterN (fun (s3 : Int × Int × (Option (List (Str × Int)))) =>
         if (decide (s3.1 < (len p1.Kids))) then
          (get? p1.Kids s3.1).bind fun x10=>
          (Z9 n (D.termCheck.mk s3.2.1 s3.2.2) x10).bind fun x11=>
          if (!x11.1) then
           some (.inr (.inr (false,x11.2)))
          else
           some (.inl ((w64 (s3.1 + 1)),x11.2.count,x11.2.widths))
         else
          some (.inr (.inl (s3.2.1,s3.2.2)))
        ) n (0,x9.2.count,x9.2.widths)).bind fun (rl3:(Int × (Option (List (Str × Int)))) ⊕ (Bool × D.termCheck))=>
        match rl3 with
        | .inl s3r=>
         some (true,(D.termCheck.mk s3r.1 s3r.2))
        | .inr v=>some v
  | .inr v=>some v
def XA (n:Nat) (p0:D.Term):Option Bool:=
 (Z9 n (D.termCheck.mk 0 none) p0).bind fun x1=>
 some x1.1
def Xj (n:Nat) (p0:Int) (p1:List D.Term):Option Bool :=
 (iterN (fun (s1 : Int) =>
  if (decide (s1 < (len p1))) then
   (get? p1 s1).bind fun x1=>
   (if (x1.W != p0) then some default else (get? p1 s1)).bind fun x2=>
   (if (x1.W != p0) then some default else (XA n x2)).bind fun x3=>
   if ((x1.W != p0) || (!x3)) then
    some (.inr (.inr false))
   else
    some (.inl ((w64 (s1 + 1))))
  else
   some (.inr (.inl ()))
 ) n (0)).bind fun (rl1:(Unit) ⊕ Bool)=>
 match rl1 with
 | .inl s1r=>
  some true
 | .inr v=>some v
def Xp (n:Nat) (p0:D.Program) (p1:D.Path):Option Bool:=
 (Zad n p0).bind fun x1=>
 (if (!x1) then some default else (XG p0 p1.Pc)).bind fun x2=>
 if ((((!x1) || (!x2)) || ((len p1.Regs) != 4)) || ((len p1.Mem) != p0.Mem)) then
  some false
 else
  if ((((decide ((len p1.Stack) > 3)) || (decide (p1.In < 0))) || (decide (p1.In > p0.In))) || (decide ((len p1.Out) > 6))) then
   some false
  else
   (iterN (fun (s1 : Int) =>
    if (decide (s1 < (len p1.Stack))) then
     (get? p1.Stack s1).bind fun x3=>
     (XG p0 x3).bind fun x4=>
     if (!x4) then
      some (.inr (.inr false))
     else
      some (.inl ((w64 (s1 + 1))))
    else
     some (.inr (.inl ()))
   ) n (0)).bind fun (rl1:(Unit) ⊕ Bool)=>
   match rl1 with
   | .inl s1r=>
    (if ((decide (p1.Code < 0)) || (decide (p1.Code > 9))) then some default else (Zbe p1.Steps)).bind fun x5=>
    if (((decide (p1.Code < 0)) || (decide (p1.Code > 9))) || (!x5)) then
     some false
    else
     (if ((decide ((len p1.Cond) > 60)) || (decide ((len p1.Turns) > 60))) then some default else (ZaM n p1.Turns)).bind fun x6=>
     if (((decide ((len p1.Cond) > 60)) || (decide ((len p1.Turns) > 60))) || (!x6)) then
      some false
     else
      (Xj n p0.W p1.Regs).bind fun x7=>
      (if x7 then (Xj n p0.W p1.Mem) else some default).bind fun x8=>
      (if (x7 && x8) then (Xj n p0.W p1.Out) else some default).bind fun x9=>
      (if ((x7 && x8) && x9) then (Xj n 1 p1.Cond) else some default).bind fun x10=>
      some (((x7 && x8) && x9) && x10)
   | .inr v=>some v
def Zce (p0:D.Program) (p1:D.Path):Option Int:=
 if ((p1.Code != 0) || (decide (p1.Pc ≥ (len p0.Code)))) then
  some 0
 else
  (get? p0.Code p1.Pc).bind fun x1=>
  some x1.Op
def strconv_Itoa (p0:Int):Option Str:=
 if -9223372036854775808 ≤ p0 ∧ p0 ≤ 9223372036854775807 then some ⟨Lib.itoa p0⟩ else none
def YO (p0:Int):Option Str:=
 (strconv_Itoa p0).bind fun x1=>
 some x1
def ZH (n:Nat) (p0:D.Term) (p1:Option (List (Str × D.Term))):Option D.Term:=
 match n with
 | 0=>none
 | n + 1=>
 if (p0.Op == 22) then
  (mget2? fitS ((D.Term.mk 0 0 0 ⟨[]⟩ ([]:List D.Term)):D.Term) (Option.getD p1 []) p0.Name).bind fun x1=>
  if x1.2 then
   some x1.1
  else
   some p0
 else
  (iterN (fun (s1 : Int × (List D.Term)) =>
   if (decide (s1.1 < (len p0.Kids))) then
    (get? p0.Kids s1.1).bind fun x2=>
    (ZH n x2 p1).bind fun x3=>
    (app? s1.2 ([x3]:List D.Term)).bind fun x4=>
    some (.inl ((w64 (s1.1 + 1)),x4))
   else
    some (.inr (s1.2))
  ) n (0,([]:List D.Term))).bind fun (rl1:(List D.Term))=>
  some (D.Term.mk p0.Op p0.W p0.N p0.Name rl1)
def Zd (p0:D.Term):Option Bool:=
 some (p0.Op == 0)
def Y9 (p0:Int) (p1:Int):Option Int:=
 (ZQ p0).bind fun x1=>
 if (!x1) then
  some (-1)
 else
  (shl? 1 (IntKind.u64.wrap p0)).bind fun x2=>
  some (band p1 (w64 (x2 - 1)))
def XL (p0:Int) (p1:Int) (p2:Int):Option Int:=
 (ZO p1 p2).bind fun x1=>
 if (!x1) then
  some (-1)
 else
  if (p0 == 1) then
   (shl? 1 (IntKind.u64.wrap p1)).bind fun x2=>
   some (w64 ((w64 (x2 - 1)) - p2))
  else
   if (p0 == 2) then
    (Y9 p1 (w64 (0 - p2))).bind fun x3=>
    some x3
   else
    some (-1)
def ZaL (p0:Int) (p1:Int) (p2:Int) (p3:Int):Option Int:=
 (ZO p0 p1).bind fun x1=>
 if ((((!x1) || (decide (p2 < 0))) || (decide (p3 < 1))) || (decide (p3 > (w64 (p0 - p2))))) then
  some (-1)
 else
  (shr? p1 (IntKind.u64.wrap p2)).bind fun x2=>
  (shl? 1 (IntKind.u64.wrap p3)).bind fun x3=>
  some (band x2 (w64 (x3 - 1)))
def YF (p0:Int) (p1:Int):Option Int:=
 (ZO p0 p1).bind fun x1=>
 if (!x1) then
  some 0
 else
  (shr? p1 (IntKind.u64.wrap (w64 (p0 - 1)))).bind fun x2=>
  if (x2 == 0) then
   some p1
  else
   (shl? 1 (IntKind.u64.wrap p0)).bind fun x3=>
   some (w64 (p1 - x3))
def Zan (p0:Int) (p1:Int) (p2:Int) (p3:Bool):Option Int:=
 (ZO p0 p1).bind fun x1=>
 (if (!x1) then some default else (ZQ p2)).bind fun x2=>
 if (((!x1) || (!x2)) || (decide (p2 < p0))) then
  some (-1)
 else
  if p3 then
   (YF p0 p1).bind fun x3=>
   (Y9 p2 x3).bind fun x4=>
   some x4
  else
   some p1
def Zaa (p0:Int) (p1:Int) (p2:Int) (p3:Int):Option Int:=
 (ZO p0 p1).bind fun x1=>
 (if (!x1) then some default else (ZO p2 p3)).bind fun x2=>
 if (((!x1) || (!x2)) || (decide ((w64 (p0 + p2)) > 16))) then
  some (-1)
 else
  (shl? p1 (IntKind.u64.wrap p2)).bind fun x3=>
  some (w64 (x3 + p3))
def ZaJ (p0:Int) (p1:Int) (p2:Int) (p3:Int):Option Int:=
 if (p0 == 13) then
  (YF p1 p2).bind fun x1=>
  (shr? x1 (IntKind.u64.wrap (imin p3 (w64 (p1 - 1))))).bind fun x2=>
  (Y9 p1 x2).bind fun x3=>
  some x3
 else
  if (decide (p3 ≥ p1)) then
   some 0
  else
   if (p0 == 11) then
    (shl? p2 (IntKind.u64.wrap p3)).bind fun x4=>
    (Y9 p1 x4).bind fun x5=>
    some x5
   else
    (shr? p2 (IntKind.u64.wrap p3)).bind fun x6=>
    some x6
def XT (p0:Bool):Option Int:=
 if p0 then
  some 1
 else
  some 0
def Xb (p0:Int) (p1:Int) (p2:Int) (p3:Int):Option Int:=
 (ZO p1 p2).bind fun x1=>
 (if (!x1) then some default else (ZO p1 p3)).bind fun x2=>
 if ((!x1) || (!x2)) then
  some (-1)
 else
  if (p0 == 3) then
   (Y9 p1 (w64 (p2 + p3))).bind fun x3=>
   some x3
  else
   if (p0 == 4) then
    (Y9 p1 (w64 (p2 - p3))).bind fun x4=>
    some x4
   else
    if (p0 == 5) then
     (Y9 p1 (w64 (p2 * p3))).bind fun x5=>
     some x5
    else
     if (p0 == 6) then
      if (p3 == 0) then
       (shl? 1 (IntKind.u64.wrap p1)).bind fun x6=>
       some (w64 (x6 - 1))
      else
       (quo? p2 p3).bind fun x7=>
       some x7
     else
      if (p0 == 7) then
       if (p3 == 0) then
        some p2
       else
        (rem? p2 p3).bind fun x8=>
        some x8
      else
       if (p0 == 8) then
        some (band p2 p3)
       else
        if (p0 == 9) then
         some (bor p2 p3)
        else
         if (p0 == 10) then
          some (bxor p2 p3)
         else
          (
           if (p0 == 11) then
            some (.inl ((p0 == 11)))
           else
            some (.inl (((p0 == 12) || (p0 == 13))))
          ).bind fun (rl1:(Bool) ⊕ Int)=>
          match rl1 with
          | .inl s1r=>
           if s1r then
            (ZaJ p0 p1 p2 p3).bind fun x9=>
            some x9
           else
            if (p0 == 14) then
             (XT (p2 == p3)).bind fun x10=>
             some x10
            else
             if (p0 == 15) then
              (XT (decide (p2 < p3))).bind fun x11=>
              some x11
             else
              if (p0 == 16) then
               (YF p1 p2).bind fun x12=>
               (YF p1 p3).bind fun x13=>
               (XT (decide (x12 < x13))).bind fun x14=>
               some x14
              else
               some (-1)
          | .inr v=>some v
def Zy (n:Nat) (p0:D.Term) (p1:Option (List (Str × Int))):Option Int:=
 match n with
 | 0=>none
 | n + 1=>
 if (p0.Op == 0) then
  some p0.N
 else
  if (p0.Op == 22) then
   (mgeto? fitS (0:Int) p1 p0.Name).bind fun x1=>
   some x1
  else
   if (p0.Op == 17) then
    (get? p0.Kids 0).bind fun x2=>
    (Zy n x2 p1).bind fun x3=>
    if (x3 == 1) then
     (get? p0.Kids 1).bind fun x4=>
     (Zy n x4 p1).bind fun x5=>
     some x5
    else
     (get? p0.Kids 2).bind fun x6=>
     (Zy n x6 p1).bind fun x7=>
     some x7
   else
    (get? p0.Kids 0).bind fun x8=>
    (Zy n x8 p1).bind fun x9=>
    (get? p0.Kids 0).bind fun x10=>
    if ((p0.Op == 1) || (p0.Op == 2)) then
     (XL p0.Op x10.W x9).bind fun x11=>
     some x11
    else
     if (p0.Op == 19) then
      (ZaL x10.W x9 p0.N p0.W).bind fun x12=>
      some x12
     else
      if ((p0.Op == 20) || (p0.Op == 21)) then
       (Zan x10.W x9 p0.W (p0.Op == 21)).bind fun x13=>
       some x13
      else
       (get? p0.Kids 1).bind fun x14=>
       (Zy n x14 p1).bind fun x15=>
       if (p0.Op == 18) then
        (get? p0.Kids 1).bind fun x16=>
        (Zaa x10.W x9 x16.W x15).bind fun x17=>
        some x17
       else
        (Xb p0.Op x10.W x9 x15).bind fun x18=>
        some x18
def Yh (p0:Int) (p1:Int):Option D.Term:=
 (ZO p0 p1).bind fun x1=>
 if (!x1) then
  some (D.Term.mk 0 0 0 ⟨[]⟩ ([]:List D.Term))
 else
  some (D.Term.mk 0 p0 p1 ⟨[]⟩ ([]:List D.Term))
def Xa (p0:D.Term):Option D.Term:=
 (get? p0.Kids 0).bind fun x1=>
 if (x1.Op == p0.Op) then
  (get? x1.Kids 0).bind fun x2=>
  some x2
 else
  some p0
def Zn (p0:D.Term) (p1:Int):Option Bool:=
 some ((p0.Op == 0) && (p0.N == p1))
def Zak (p0:Int):Option Bool:=
 some (p0 != p0)
def Yt (p0:Int) (p1:Int):Option Int:=
 (Zak p0).bind fun x1=>
 (Zak p1).bind fun x2=>
 if x1 then
  if x2 then
   some 0
  else
   some (-1)
 else
  if x2 then
   some 1
  else
   if (decide (p0 < p1)) then
    some (-1)
   else
    if (decide (p0 > p1)) then
     some 1
    else
     some 0
def strings_Compare (p0:Str) (p1:Str):Option Int:=some (Lib.compareBytes p0.bytes p1.bytes)
def ZC (n:Nat) (p0:D.Term) (p1:D.Term):Option Int:=
 match n with
 | 0=>none
 | n + 1=>
 (Yt p0.Op p1.Op).bind fun x1=>
 if (x1 != 0) then
  some x1
 else
  (Yt p0.W p1.W).bind fun x2=>
  if (x2 != 0) then
   some x2
  else
   (Yt p0.N p1.N).bind fun x3=>
   if (x3 != 0) then
    some x3
   else
    (strings_Compare p0.Name p1.Name).bind fun x4=>
    if (x4 != 0) then
     some x4
    else
     (iterN (fun (s1 : Int) =>
      if ((decide (s1 < (len p0.Kids))) && (decide (s1 < (len p1.Kids)))) then
       (get? p0.Kids s1).bind fun x5=>
       (get? p1.Kids s1).bind fun x6=>
       (ZC n x5 x6).bind fun x7=>
       if (x7 != 0) then
        some (.inr (.inr x7))
       else
        some (.inl ((w64 (s1 + 1))))
      else
       some (.inr (.inl ()))
     ) n (0)).bind fun (rl1:(Unit) ⊕ Int)=>
     match rl1 with
     | .inl s1r=>
      (Yt (len p0.Kids) (len p1.Kids)).bind fun x8=>
      some x8
     | .inr v=>some v
def ZX (n:Nat) (p0:D.Term) (p1:D.Term):Option Bool:=
 (ZC n p0 p1).bind fun x1=>
 some (x1 == 0)
def Ze (p0:Int):Option Bool:=
 if (p0 == 3) then
  if (p0 == 3) then
   some true
  else
   some false
 else
  if (p0 == 5) then
   if (p0 == 5) then
    some true
   else
    some false
  else
   if (p0 == 8) then
    if (p0 == 8) then
     some true
    else
     some false
   else
    if (p0 == 9) then
     if (p0 == 9) then
      some true
     else
      some false
    else
     if ((p0 == 10) || (p0 == 14)) then
      some true
     else
      some false
def Zbh (p0:Int):Option Int:=
 (shl? 1 (IntKind.u64.wrap p0)).bind fun x1=>
 some (w64 (x1 - 1))
mutual
def Zo (n:Nat) (p0:Int) (p1:Int) (p2:Int) (p3:List D.Term):Option D.Term:=
 match n with
 | 0=>none
 | n + 1=>
 (ZI n (D.Term.mk p0 p1 p2 ⟨[]⟩ p3)).bind fun x1=>
 some x1
def ZI (n:Nat) (p0:D.Term):Option D.Term:=
 match n with
 | 0=>none
 | n + 1=>
 if ((len p0.Kids) == 0) then
  some p0
 else
  (iterN (fun (s1 : Bool × Int) =>
   if (decide (s1.2 < (len p0.Kids))) then
    (if s1.1 then (get? p0.Kids s1.2) else some default).bind fun x1=>
    (if s1.1 then (Zd x1) else some default).bind fun x2=>
    some (.inl ((s1.1 && x2),(w64 (s1.2 + 1))))
   else
    some (.inr (s1.1))
  ) n (true,0)).bind fun (rl1:Bool)=>
  if rl1 then
   (Zy n p0 none).bind fun x3=>
   (Yh p0.W x3).bind fun x4=>
   some (D.Term.mk x4.Op x4.W x4.N x4.Name ([]:List D.Term))
  else
   if ((p0.Op == 1) || (p0.Op == 2)) then
    (Xa p0).bind fun x5=>
    some x5
   else
    if (p0.Op == 17) then
     (ZW n p0).bind fun x6=>
     some x6
    else
     if (p0.Op == 19) then
      (ZM n p0).bind fun x7=>
      some x7
     else
      if ((p0.Op == 20) || (p0.Op == 21)) then
       (Yx n p0).bind fun x8=>
       some x8
      else
       if (p0.Op == 18) then
        (Yp n p0).bind fun x9=>
        some x9
       else
        (Zb n p0).bind fun x10=>
        some x10
def ZW (n:Nat) (p0:D.Term):Option D.Term:=
 match n with
 | 0=>none
 | n + 1=>
 (get? p0.Kids 0).bind fun x1=>
 (get? p0.Kids 1).bind fun x2=>
 (get? p0.Kids 2).bind fun x3=>
 (Zn x1 1).bind fun x4=>
 if x4 then
  some x2
 else
  (Zd x1).bind fun x5=>
  if x5 then
   some x3
  else
   (ZX n x2 x3).bind fun x6=>
   if x6 then
    some x2
   else
    if (x1.Op == 1) then
     (get? x1.Kids 0).bind fun x7=>
     (Zo n 17 p0.W 0 ([x7,x3,x2]:List D.Term)).bind fun x8=>
     some x8
    else
     (if (p0.W == 1) then (Zn x2 1) else some default).bind fun x9=>
     (if ((p0.W == 1) && x9) then (Zn x3 0) else some default).bind fun x10=>
     if (((p0.W == 1) && x9) && x10) then
      some x1
     else
      (if (p0.W == 1) then (Zn x2 0) else some default).bind fun x11=>
      (if ((p0.W == 1) && x11) then (Zn x3 1) else some default).bind fun x12=>
      if (((p0.W == 1) && x11) && x12) then
       (Zo n 1 1 0 ([x1]:List D.Term)).bind fun x13=>
       some x13
      else
       some p0
def ZM (n:Nat) (p0:D.Term):Option D.Term:=
 match n with
 | 0=>none
 | n + 1=>
 (get? p0.Kids 0).bind fun x1=>
 if ((p0.N == 0) && (p0.W == x1.W)) then
  some x1
 else
  if (x1.Op == 19) then
   (get? x1.Kids 0).bind fun x2=>
   (Zo n 19 p0.W (w64 (p0.N + x1.N)) ([x2]:List D.Term)).bind fun x3=>
   some x3
  else
   if (x1.Op == 18) then
    (get? x1.Kids 1).bind fun x4=>
    if (decide ((w64 (p0.N + p0.W)) ≤ x4.W)) then
     (Zo n 19 p0.W p0.N ([x4]:List D.Term)).bind fun x5=>
     some x5
    else
     if (decide (p0.N ≥ x4.W)) then
      (get? x1.Kids 0).bind fun x6=>
      (Zo n 19 p0.W (w64 (p0.N - x4.W)) ([x6]:List D.Term)).bind fun x7=>
      some x7
     else
      some p0
   else
    if ((x1.Op == 20) || (x1.Op == 21)) then
     (get? x1.Kids 0).bind fun x8=>
     if (decide ((w64 (p0.N + p0.W)) ≤ x8.W)) then
      (get? x1.Kids 0).bind fun x9=>
      (Zo n 19 p0.W p0.N ([x9]:List D.Term)).bind fun x10=>
      some x10
     else
      some p0
    else
     some p0
def Yx (n:Nat) (p0:D.Term):Option D.Term:=
 match n with
 | 0=>none
 | n + 1=>
 (get? p0.Kids 0).bind fun x1=>
 if (p0.W == x1.W) then
  some x1
 else
  if (x1.Op == p0.Op) then
   (get? x1.Kids 0).bind fun x2=>
   (Zo n p0.Op p0.W 0 ([x2]:List D.Term)).bind fun x3=>
   some x3
  else
   some p0
def Yp (n:Nat) (p0:D.Term):Option D.Term:=
 match n with
 | 0=>none
 | n + 1=>
 (get? p0.Kids 0).bind fun x1=>
 (get? p0.Kids 1).bind fun x2=>
 (if (((x1.Op == 19) && (x2.Op == 19)) && (x1.N == (w64 (x2.N + x2.W)))) then (get? x1.Kids 0) else some default).bind fun x3=>
 (if (((x1.Op == 19) && (x2.Op == 19)) && (x1.N == (w64 (x2.N + x2.W)))) then (get? x2.Kids 0) else some default).bind fun x4=>
 (if (((x1.Op == 19) && (x2.Op == 19)) && (x1.N == (w64 (x2.N + x2.W)))) then (ZX n x3 x4) else some default).bind fun x5=>
 if ((((x1.Op == 19) && (x2.Op == 19)) && (x1.N == (w64 (x2.N + x2.W)))) && x5) then
  (get? x2.Kids 0).bind fun x6=>
  (Zo n 19 p0.W x2.N ([x6]:List D.Term)).bind fun x7=>
  some x7
 else
  some p0
def Zb (n:Nat) (p0:D.Term):Option D.Term:=
 match n with
 | 0=>none
 | n + 1=>
 (get? p0.Kids 0).bind fun x1=>
 (get? p0.Kids 1).bind fun x2=>
 (Ze p0.Op).bind fun x3=>
 (if x3 then (ZC n x1 x2) else some default).bind fun x4=>
 if (x3 && (x4 == 1)) then
  (Zo n p0.Op p0.W 0 ([x2,x1]:List D.Term)).bind fun x5=>
  some x5
 else
  (Zd x1).bind fun x6=>
  (
   if x6 then
    (Zw n p0.Op p0.W x1 x2).bind fun x7=>
    if x7.2 then
     some (.inr x7.1)
    else
     some (.inl ())
   else
    some (.inl ())
  ).bind fun (rl1:(Unit) ⊕ D.Term)=>
  match rl1 with
  | .inl s1r=>
   (Zn x2 0).bind fun x8=>
   (
    if x8 then
     (
      if (p0.Op == 4) then
       some (.inl ((p0.Op == 4)))
      else
       if (p0.Op == 11) then
        some (.inl ((p0.Op == 11)))
       else
        some (.inl (((p0.Op == 12) || (p0.Op == 13))))
     ).bind fun (rl3:(Bool) ⊕ D.Term)=>
     match rl3 with
     | .inl s3r=>
      if s3r then
       some (.inr x1)
      else
       if (p0.Op == 15) then
        (Yh 1 0).bind fun x9=>
        some (.inr (D.Term.mk x9.Op x9.W x9.N x9.Name ([]:List D.Term)))
       else
        some (.inl ())
     | .inr v=>some (.inr v)
    else
     some (.inl ())
   ).bind fun (rl2:(Unit) ⊕ D.Term)=>
   match rl2 with
   | .inl s2r=>
    (ZX n x1 x2).bind fun x10=>
    (
     if x10 then
      if ((p0.Op == 8) || (p0.Op == 9)) then
       some (.inr x1)
      else
       (
        if (p0.Op == 4) then
         some (.inl ((p0.Op == 4)))
        else
         if (p0.Op == 10) then
          some (.inl ((p0.Op == 10)))
         else
          some (.inl (((p0.Op == 15) || (p0.Op == 16))))
       ).bind fun (rl5:(Bool) ⊕ D.Term)=>
       match rl5 with
       | .inl s5r=>
        if s5r then
         (Yh p0.W 0).bind fun x11=>
         some (.inr (D.Term.mk x11.Op x11.W x11.N x11.Name ([]:List D.Term)))
        else
         if (p0.Op == 14) then
          (Yh 1 1).bind fun x12=>
          some (.inr (D.Term.mk x12.Op x12.W x12.N x12.Name ([]:List D.Term)))
         else
          some (.inl ())
       | .inr v=>some (.inr v)
     else
      some (.inl ())
    ).bind fun (rl4:(Unit) ⊕ D.Term)=>
    match rl4 with
    | .inl s4r=>
     (Ze p0.Op).bind fun x13=>
     (if (x13 && (p0.Op != 14)) then (Zd x1) else some default).bind fun x14=>
     (if (((x13 && (p0.Op != 14)) && x14) && (x2.Op == p0.Op)) then (get? x2.Kids 0) else some default).bind fun x15=>
     (if (((x13 && (p0.Op != 14)) && x14) && (x2.Op == p0.Op)) then (Zd x15) else some default).bind fun x16=>
     if ((((x13 && (p0.Op != 14)) && x14) && (x2.Op == p0.Op)) && x16) then
      (get? x2.Kids 0).bind fun x17=>
      (Xb p0.Op p0.W x1.N x17.N).bind fun x18=>
      (Yh p0.W x18).bind fun x19=>
      (get? x2.Kids 1).bind fun x20=>
      (Zo n p0.Op p0.W 0 ([(D.Term.mk x19.Op x19.W x19.N x19.Name ([]:List D.Term)),x20]:List D.Term)).bind fun x21=>
      some x21
     else
      some p0
    | .inr v=>some v
   | .inr v=>some v
  | .inr v=>some v
def Zw (n:Nat) (p0:Int) (p1:Int) (p2:D.Term) (p3:D.Term):Option (D.Term × Bool):=
 match n with
 | 0=>none
 | n + 1=>
 (Zbh p2.W).bind fun x1=>
 (
  if ((p0 == 3) && (p2.N == 0)) then
   some (.inl (((p0 == 3) && (p2.N == 0))))
  else
   if ((p0 == 5) && (p2.N == 1)) then
    some (.inl (((p0 == 5) && (p2.N == 1))))
   else
    if ((p0 == 8) && (p2.N == x1)) then
     some (.inl (((p0 == 8) && (p2.N == x1))))
    else
     if ((p0 == 9) && (p2.N == 0)) then
      some (.inl (((p0 == 9) && (p2.N == 0))))
     else
      if ((p0 == 10) && (p2.N == 0)) then
       some (.inl (((p0 == 10) && (p2.N == 0))))
      else
       some (.inl ((((p0 == 14) && (p2.W == 1)) && (p2.N == 1))))
 ).bind fun (rl1:(Bool) ⊕ (D.Term × Bool))=>
 match rl1 with
 | .inl s1r=>
  if s1r then
   some (p3,true)
  else
   (
    if ((p0 == 5) && (p2.N == 0)) then
     some (.inl (((p0 == 5) && (p2.N == 0))))
    else
     some (.inl (((p0 == 8) && (p2.N == 0))))
   ).bind fun (rl2:(Bool) ⊕ (D.Term × Bool))=>
   match rl2 with
   | .inl s2r=>
    if s2r then
     (Yh p1 0).bind fun x2=>
     some ((D.Term.mk x2.Op x2.W x2.N x2.Name ([]:List D.Term)),true)
    else
     if ((p0 == 9) && (p2.N == x1)) then
      (Yh p1 x1).bind fun x3=>
      some ((D.Term.mk x3.Op x3.W x3.N x3.Name ([]:List D.Term)),true)
     else
      if ((p0 == 10) && (p2.N == x1)) then
       if ((p0 == 10) && (p2.N == x1)) then
        (Zo n 1 p1 0 ([p3]:List D.Term)).bind fun x4=>
        some (x4,true)
       else
        some ((D.Term.mk 0 0 0 ⟨[]⟩ ([]:List D.Term)),false)
      else
       if (((p0 == 14) && (p2.W == 1)) && (p2.N == 0)) then
        (Zo n 1 p1 0 ([p3]:List D.Term)).bind fun x5=>
        some (x5,true)
       else
        some ((D.Term.mk 0 0 0 ⟨[]⟩ ([]:List D.Term)),false)
   | .inr v=>some v
 | .inr v=>some v
end
def ZA (n:Nat) (p0:D.Term):Option D.Term:=
 match n with
 | 0=>none
 | n + 1=>
 if ((len p0.Kids) == 0) then
  some p0
 else
  (mk? (len p0.Kids) ((D.Term.mk 0 0 0 ⟨[]⟩ ([]:List D.Term)):D.Term)).bind fun x1 =>
  (iterN (fun (s1 : Int × (List D.Term)) =>
   if (decide (s1.1 < (len p0.Kids))) then
    (get? p0.Kids s1.1).bind fun x2=>
    (get? s1.2 s1.1).bind fun x3=>
    (ZA n x2).bind fun x4=>
    (set? s1.2 s1.1 x4).bind fun x5=>
    some (.inl ((w64 (s1.1 + 1)),x5))
   else
    some (.inr (s1.2))
  ) n (0,x1)).bind fun (rl1:(List D.Term))=>
  (ZI n (D.Term.mk p0.Op p0.W p0.N p0.Name rl1)).bind fun x6=>
  some x6
def Xw (n:Nat) (p0:List D.Term) (p1:Option (List (Str × D.Term))):Option ((List D.Term) × Bool):=
 (mk? (len p0) ((D.Term.mk 0 0 0 ⟨[]⟩ ([]:List D.Term)):D.Term)).bind fun x1 =>
 (iterN (fun (s1 : Int × (List D.Term)) =>
  if (decide (s1.1 < (len p0))) then
   (get? p0 s1.1).bind fun x2=>
   (ZH n x2 p1).bind fun x3=>
   (XA n x3).bind fun x4=>
   if (!x4) then
    some (.inr (.inr (([]:List D.Term),false)))
   else
    (ZA n x3).bind fun x5=>
    (set? s1.2 s1.1 x5).bind fun x6=>
    some (.inl ((w64 (s1.1 + 1)),x6))
  else
   some (.inr (.inl (s1.2)))
 ) n (0,x1)).bind fun (rl1:((List D.Term)) ⊕ ((List D.Term) × Bool))=>
 match rl1 with
 | .inl s1r=>
  some (s1r,true)
 | .inr v=>some v
def ZE (p0:List D.Term):Option (List D.Term):=
 (app? ([]:List D.Term) p0).bind fun x1=>
 some x1
def ZP (p0:List D.Term):Option (List D.Term):=
 some p0
def ZaX (p0:List D.Term) (p1:D.Term):Option (List D.Term):=
 (ZE p0).bind fun x1=>
 (ZP x1).bind fun x2=>
 (app? x2 ([p1]:List D.Term)).bind fun x3=>
 some x3
def ZK (p0:List Int):Option (List Int):=
 (app? ([]:List Int) p0).bind fun x1=>
 some x1
def ZaC (p0:List Int) (p1:Int):Option (List Int):=
 (ZK p0).bind fun x1=>
 (app? x1 ([p1]:List Int)).bind fun x2=>
 some x2
def ZaQ (n:Nat) (p0:D.Program) (p1:D.Path) (p2:D.Path):Option (D.Path × Bool × Bool) :=
 (iterN (fun (s1 : Int × (List (Str × D.Term))) =>
  if (decide (s1.1 < (len p1.Regs))) then
   (YO s1.1).bind fun x1=>
   (cat? ⟨[114]⟩ x1).bind fun x2=>
   (get? p1.Regs s1.1).bind fun x3=>
   (mput? fitS s1.2 x2 x3).bind fun x4=>
   some (.inl ((w64 (s1.1 + 1)),x4))
  else
   some (.inr (s1.2))
 ) n (0,([]:List (Str × D.Term)))).bind fun (rl1:(List (Str × D.Term))) =>
 (iterN (fun (s2 : Int × (List (Str × D.Term))) =>
  if (decide (s2.1 < (len p1.Mem))) then
   (YO s2.1).bind fun x5=>
   (cat? ⟨[109]⟩ x5).bind fun x6=>
   (get? p1.Mem s2.1).bind fun x7=>
   (mput? fitS s2.2 x6 x7).bind fun x8=>
   some (.inl ((w64 (s2.1 + 1)),x8))
  else
   some (.inr (s2.2))
 ) n (0,rl1)).bind fun (rl2:(List (Str × D.Term)))=>
 (Xw n p2.Cond (some rl2)).bind fun x9=>
 (Xw n p2.Regs (some rl2)).bind fun x10=>
 (Xw n p2.Mem (some rl2)).bind fun x11=>
 if (((!x9.2) || (!x10.2)) || (!x11.2)) then
  some ((D.Path.mk 0 ([]:List D.Term) ([]:List D.Term) ([]:List Int) 0 ([]:List D.Term) 0 0 ([]:List D.Term) ([]:List Int)),false,false)
 else
  (iterN (fun (s3 : Int × (List D.Term) × (List Int)) =>
   if (decide (s3.1 < (len x9.1))) then
    (get? x9.1 s3.1).bind fun x12=>
    (Zn x12 0).bind fun x13=>
    if x13 then
     some (.inr (.inr ((D.Path.mk 0 ([]:List D.Term) ([]:List D.Term) ([]:List Int) 0 ([]:List D.Term) 0 0 ([]:List D.Term) ([]:List Int)),true,true)))
    else
     (Zn x12 1).bind fun x14=>
     if (!x14) then
      (ZaX s3.2.1 x12).bind fun x15=>
      (get? p2.Turns s3.1).bind fun x16=>
      (ZaC s3.2.2 x16).bind fun x17=>
      some (.inl ((w64 (s3.1 + 1)),x15,x17))
     else
      some (.inl ((w64 (s3.1 + 1)),s3.2.1,s3.2.2))
   else
    some (.inr (.inl (s3.2.1,s3.2.2)))
  ) n (0,p1.Cond,p1.Turns)).bind fun (rl3:((List D.Term) × (List Int)) ⊕ (D.Path × Bool × Bool))=>
  match rl3 with
  | .inl s3r=>
   if (p2.Code != 0) then
    (ZaC p1.Stack (w64 (p1.Pc + 1))).bind fun x18=>
    some ((D.Path.mk p2.Pc x10.1 x11.1 x18 p1.In p1.Out p2.Code (w64 ((w64 (p1.Steps + p2.Steps)) + 1)) s3r.1 s3r.2),false,true)
   else
    some ((D.Path.mk (w64 (p1.Pc + 1)) x10.1 x11.1 p1.Stack p1.In p1.Out 0 (w64 ((w64 (p1.Steps + p2.Steps)) + 2)) s3r.1 s3r.2),false,true)
  | .inr v=>some v
def XW (n:Nat) (p0:D.Program) (p1:D.Path) (p2:List D.Path):Option ((List D.Path) × Bool):=
 (Xp n p0 p1).bind fun x1=>
 (if (!x1) then some default else (Zce p0 p1)).bind fun x2=>
 if (((!x1) || (x2 != 11)) || (decide ((len p1.Stack) ≥ 3))) then
  some (([]:List D.Path),false)
 else
  (iterN (fun (s1 : Int) =>
   if (decide (s1 < (len p2))) then
    (get? p2 s1).bind fun x3=>
    (Xp n p0 x3).bind fun x4=>
    if ((!x4) || ((len x3.Turns) != (len x3.Cond))) then
     some (.inr (.inr (([]:List D.Path),false)))
    else
     some (.inl ((w64 (s1 + 1))))
   else
    some (.inr (.inl ()))
  ) n (0)).bind fun (rl1:(Unit) ⊕ ((List D.Path) × Bool))=>
  match rl1 with
  | .inl s1r =>
   (iterN (fun (s2 : Int × (List D.Path)) =>
    if (decide (s2.1 < (len p2))) then
     (get? p2 s2.1).bind fun x5=>
     (ZaQ n p0 p1 x5).bind fun x6=>
     (if (!x6.2.1) then (if (!x6.2.2) then some default else (Xp n p0 x6.1)) else some default).bind fun x7=>
     if ((!x6.2.2) || ((!x6.2.1) && (!x7))) then
      some (.inr (.inr (([]:List D.Path),false)))
     else
      if (!x6.2.1) then
       (app? s2.2 ([x6.1]:List D.Path)).bind fun x8=>
       some (.inl ((w64 (s2.1 + 1)),x8))
      else
       some (.inl ((w64 (s2.1 + 1)),s2.2))
    else
     some (.inr (.inl (s2.2)))
   ) n (0,([]:List D.Path))).bind fun (rl2:((List D.Path)) ⊕ ((List D.Path) × Bool))=>
   match rl2 with
   | .inl s2r=>
    some (s2r,true)
   | .inr v=>some v
  | .inr v=>some v
mutual
def Xx (n:Nat) (p0:D.Term):Option D.Term:=
 match n with
 | 0=>none
 | n + 1=>
 (ZU n p0.Kids).bind fun x1=>
 some (D.Term.mk p0.Op p0.W p0.N p0.Name x1)
def ZU (n:Nat) (p0:List D.Term):Option (List D.Term):=
 match n with
 | 0=>none
 | n + 1=>
 if ((len p0) == 0) then
  some ([]:List D.Term)
 else
  (mk? (len p0) ((D.Term.mk 0 0 0 ⟨[]⟩ ([]:List D.Term)):D.Term)).bind fun x1 =>
  (iterN (fun (s1 : Int × (List D.Term)) =>
   if (decide (s1.1 < (len p0))) then
    (get? p0 s1.1).bind fun x2=>
    (Xx n x2).bind fun x3=>
    (set? s1.2 s1.1 x3).bind fun x4=>
    some (.inl ((w64 (s1.1 + 1)),x4))
   else
    some (.inr (s1.2))
  ) n (0,x1)).bind fun (rl1:(List D.Term))=>
  some rl1
end
def XO (n:Nat) (p0:D.Path):Option D.Path:=
 (ZU n p0.Regs).bind fun x1=>
 (ZU n p0.Mem).bind fun x2=>
 (ZK p0.Stack).bind fun x3=>
 (ZU n p0.Out).bind fun x4=>
 (ZU n p0.Cond).bind fun x5=>
 (ZK p0.Turns).bind fun x6=>
 some (D.Path.mk p0.Pc x1 x2 x3 p0.In x4 p0.Code p0.Steps x5 x6)
def Zab (n:Nat) (p0:List D.Path):Option (List D.Path):=
 (mk? (len p0) ((D.Path.mk 0 ([]:List D.Term) ([]:List D.Term) ([]:List Int) 0 ([]:List D.Term) 0 0 ([]:List D.Term) ([]:List Int)):D.Path)).bind fun x1 =>
 (iterN (fun (s1 : Int × (List D.Path)) =>
  if (decide (s1.1 < (len p0))) then
   (get? p0 s1.1).bind fun x2=>
   (XO n x2).bind fun x3=>
   (set? s1.2 s1.1 x3).bind fun x4=>
   some (.inl ((w64 (s1.1 + 1)),x4))
  else
   some (.inr (s1.2))
 ) n (0,x1)).bind fun (rl1:(List D.Path))=>
 some rl1
def YP (n:Nat) (p0:D.Program) (p1:D.Path) (p2:List D.Path):Option ((List D.Path) × Bool):=
 (XW n p0 p1 p2).bind fun x1=>
 if (!x1.2) then
  some (([]:List D.Path),false)
 else
  (Zab n x1.1).bind fun x2=>
  some (x2,true)
mutual
def Zap (n:Nat) (p0:D.Term) (p1:D.Term):Option Bool:=
 match n with
 | 0=>none
 | n + 1=>
 if (p0.Op != p1.Op) then
  some false
 else
  if (p0.W != p1.W) then
   some false
  else
   if (p0.N != p1.N) then
    some false
   else
    if (!(Str.eqb p0.Name p1.Name)) then
     some false
    else
     (Yn n p0.Kids p1.Kids).bind fun x1=>
     if (!x1) then
      some false
     else
      some true
def Yn (n:Nat) (p0:List D.Term) (p1:List D.Term):Option Bool:=
 match n with
 | 0=>none
 | n + 1=>
 if ((len p0) != (len p1)) then
  some false
 else
  (iterN (fun (s1 : Int) =>
   if (decide (s1 < (len p0))) then
    (get? p0 s1).bind fun x1=>
    (get? p1 s1).bind fun x2=>
    (Zap n x1 x2).bind fun x3=>
    if (!x3) then
     some (.inr (.inr false))
    else
     some (.inl ((w64 (s1 + 1))))
   else
    some (.inr (.inl ()))
  ) n (0)).bind fun (rl1:(Unit) ⊕ Bool)=>
  match rl1 with
  | .inl s1r=>
   some true
  | .inr v=>some v
end
def Zbd (n:Nat) (p0:List Int) (p1:List Int):Option Bool:=
 if ((len p0) != (len p1)) then
  some false
 else
  (iterN (fun (s1 : Int) =>
   if (decide (s1 < (len p0))) then
    (get? p0 s1).bind fun x1=>
    (get? p1 s1).bind fun x2=>
    if (x1 != x2) then
     some (.inr (.inr false))
    else
     some (.inl ((w64 (s1 + 1))))
   else
    some (.inr (.inl ()))
  ) n (0)).bind fun (rl1:(Unit) ⊕ Bool)=>
  match rl1 with
  | .inl s1r=>
   some true
  | .inr v=>some v
def Zah (n:Nat) (p0:D.Path) (p1:D.Path):Option Bool:=
 if (p0.Pc != p1.Pc) then
  some false
 else
  (Yn n p0.Regs p1.Regs).bind fun x1=>
  if (!x1) then
   some false
  else
   (Yn n p0.Mem p1.Mem).bind fun x2=>
   if (!x2) then
    some false
   else
    (Zbd n p0.Stack p1.Stack).bind fun x3=>
    if (!x3) then
     some false
    else
     if (p0.In != p1.In) then
      some false
     else
      (Yn n p0.Out p1.Out).bind fun x4=>
      if (!x4) then
       some false
      else
       if (p0.Code != p1.Code) then
        some false
       else
        if (p0.Steps != p1.Steps) then
         some false
        else
         (Yn n p0.Cond p1.Cond).bind fun x5=>
         if (!x5) then
          some false
         else
          (Zbd n p0.Turns p1.Turns).bind fun x6=>
          if (!x6) then
           some false
          else
           some true
def Xm (n:Nat) (p0:List D.Path) (p1:List D.Path):Option Bool:=
 if ((len p0) != (len p1)) then
  some false
 else
  (iterN (fun (s1 : Int) =>
   if (decide (s1 < (len p0))) then
    (get? p0 s1).bind fun x1=>
    (get? p1 s1).bind fun x2=>
    (Zah n x1 x2).bind fun x3=>
    if (!x3) then
     some (.inr (.inr false))
    else
     some (.inl ((w64 (s1 + 1))))
   else
    some (.inr (.inl ()))
  ) n (0)).bind fun (rl1:(Unit) ⊕ Bool)=>
  match rl1 with
  | .inl s1r=>
   some true
  | .inr v=>some v
def ZbA (p0:D.Ins) (p1:D.Ins):Option Bool:=
 if (p0.Op != p1.Op) then
  some false
 else
  if (p0.A != p1.A) then
   some false
  else
   if (p0.B != p1.B) then
    some false
   else
    if (p0.C != p1.C) then
     some false
    else
     some true
def Zbm (n:Nat) (p0:List D.Ins) (p1:List D.Ins):Option Bool:=
 if ((len p0) != (len p1)) then
  some false
 else
  (iterN (fun (s1 : Int) =>
   if (decide (s1 < (len p0))) then
    (get? p0 s1).bind fun x1=>
    (get? p1 s1).bind fun x2=>
    (ZbA x1 x2).bind fun x3=>
    if (!x3) then
     some (.inr (.inr false))
    else
     some (.inl ((w64 (s1 + 1))))
   else
    some (.inr (.inl ()))
  ) n (0)).bind fun (rl1:(Unit) ⊕ Bool)=>
  match rl1 with
  | .inl s1r=>
   some true
  | .inr v=>some v
def Zaj (n:Nat) (p0:D.Program) (p1:D.Program):Option Bool:=
 if (p0.W != p1.W) then
  some false
 else
  if (p0.Mem != p1.Mem) then
   some false
  else
   if (p0.In != p1.In) then
    some false
   else
    (Zbm n p0.Code p1.Code).bind fun x1=>
    if (!x1) then
     some false
    else
     some true
def Zax (n:Nat) (p0:List D.Ins) (p1:Int):Option (Int × (List D.Ins)) :=
 (iterN (fun (s1 : Int × Int × (List D.Ins)) =>
  if (decide (s1.2.1 < (len p0))) then
   (get? s1.2.2 s1.2.1).bind fun x1=>
   (set? s1.2.2 s1.2.1 ({ x1 with Op:=s1.1 }:D.Ins)).bind fun x2=>
   (get? x2 s1.2.1).bind fun x3=>
   (set? x2 s1.2.1 ({ x3 with A:=(w64 (s1.1 + 1)) }:D.Ins)).bind fun x4=>
   (get? x4 s1.2.1).bind fun x5=>
   (set? x4 s1.2.1 ({ x5 with B:=(w64 ((w64 (s1.1 + 1)) + 1)) }:D.Ins)).bind fun x6=>
   (get? x6 s1.2.1).bind fun x7=>
   (set? x6 s1.2.1 ({ x7 with C:=(w64 ((w64 ((w64 (s1.1 + 1)) + 1)) + 1)) }:D.Ins)).bind fun x8=>
   some (.inl ((w64 ((w64 ((w64 ((w64 (s1.1 + 1)) + 1)) + 1)) + 1)),(w64 (s1.2.1 + 1)),x8))
  else
   some (.inr (s1.1,s1.2.2))
 ) n (p1,0,p0)).bind fun (rl1:Int × (List D.Ins))=>
 some (rl1.1,rl1.2)
def X3 (n:Nat) (p0:D.Program) (p1:Int):Option (Int × D.Program):=
 (Zax n p0.Code p1).bind fun x1=>
 some (x1.1,(D.Program.mk p0.W p0.Mem p0.In x1.2))
def ZV (n:Nat) (p0:Int):Option Str:=
 if (decide (p0 ≤ 0)) then
  some ⟨[109,48]⟩
 else
  (iterN (fun (s1 : Int × Str) =>
   if (decide (s1.1 > 0)) then
    (rem? s1.1 10).bind fun x1=>
    (cat? (strOf ([(Byt.mk (IntKind.u8.wrap (w64 (48 + x1))))]:List Byt)) s1.2).bind fun x2=>
    (quo? s1.1 10).bind fun x3=>
    some (.inl (x3,x2))
   else
    some (.inr (s1.2))
  ) n (p0,⟨[]⟩)).bind fun (rl1:Str)=>
  (cat? ⟨[109]⟩ rl1).bind fun x4=>
  some x4
def Zv (n:Nat) (p0:List D.Term) (p1:Int):Option (Int × (List D.Term)):=
 match n with
 | 0=>none
 | n + 1 =>
 (iterN (fun (s1 : Int × Int × (List D.Term)) =>
  if (decide (s1.2.1 < (len p0))) then
   (get? s1.2.2 s1.2.1).bind fun x1=>
   (ZV n (w64 ((w64 ((w64 (s1.1 + 1)) + 1)) + 1))).bind fun x2=>
   (Zv n x1.Kids (w64 ((w64 ((w64 ((w64 (s1.1 + 1)) + 1)) + 1)) + 1))).bind fun x3=>
   (set? s1.2.2 s1.2.1 (D.Term.mk s1.1 (w64 (s1.1 + 1)) (w64 ((w64 (s1.1 + 1)) + 1)) x2 x3.2)).bind fun x4=>
   some (.inl (x3.1,(w64 (s1.2.1 + 1)),x4))
  else
   some (.inr (s1.1,s1.2.2))
 ) n (p1,0,p0)).bind fun (rl1:Int × (List D.Term))=>
 some (rl1.1,rl1.2)
def Yi (n:Nat) (p0:List Int) (p1:Int):Option (Int × (List Int)) :=
 (iterN (fun (s1 : Int × Int × (List Int)) =>
  if (decide (s1.2.1 < (len p0))) then
   (set? s1.2.2 s1.2.1 s1.1).bind fun x1=>
   some (.inl ((w64 (s1.1 + 1)),(w64 (s1.2.1 + 1)),x1))
  else
   some (.inr (s1.1,s1.2.2))
 ) n (p1,0,p0)).bind fun (rl1:Int × (List Int))=>
 some (rl1.1,rl1.2)
def Zay (n:Nat) (p0:D.Path) (p1:Int):Option (Int × D.Path):=
 (Zv n p0.Regs p1).bind fun x1=>
 (Zv n p0.Mem x1.1).bind fun x2=>
 (Yi n p0.Stack x2.1).bind fun x3=>
 (Zv n p0.Out x3.1).bind fun x4=>
 (Zv n p0.Cond x4.1).bind fun x5=>
 (Yi n p0.Turns x5.1).bind fun x6=>
 some (x6.1,(D.Path.mk p0.Pc x1.2 x2.2 x3.2 p0.In x4.2 p0.Code p0.Steps x5.2 x6.2))
def YI (n:Nat) (p0:List D.Path) (p1:Int):Option (Int × (List D.Path)) :=
 (iterN (fun (s1 : Int × Int × (List D.Path)) =>
  if (decide (s1.2.1 < (len p0))) then
   (get? s1.2.2 s1.2.1).bind fun x1=>
   (Zv n x1.Regs (w64 (s1.1 + 1))).bind fun x2=>
   (Zv n x1.Mem x2.1).bind fun x3=>
   (Yi n x1.Stack x3.1).bind fun x4=>
   (Zv n x1.Out (w64 (x4.1 + 1))).bind fun x5=>
   (Zv n x1.Cond (w64 ((w64 (x5.1 + 1)) + 1))).bind fun x6=>
   (Yi n x1.Turns x6.1).bind fun x7=>
   (set? s1.2.2 s1.2.1 (D.Path.mk s1.1 x2.2 x3.2 x4.2 x4.1 x5.2 x5.1 (w64 (x5.1 + 1)) x6.2 x7.2)).bind fun x8=>
   some (.inl (x7.1,(w64 (s1.2.1 + 1)),x8))
  else
   some (.inr (s1.1,s1.2.2))
 ) n (p1,0,p0)).bind fun (rl1:Int × (List D.Path))=>
 some (rl1.1,rl1.2)
def Z5 (n:Nat) (p0:List D.Term) (p1:Int):Option Int:=
 match n with
 | 0=>none
 | n + 1 =>
 (iterN (fun (s1 : Int × Int) =>
  if (decide (s1.2 < (len p0))) then
   (get? p0 s1.2).bind fun x1=>
   if (x1.Op != s1.1) then
    some (.inr (.inr (-1)))
   else
    (get? p0 s1.2).bind fun x2=>
    if (x2.W != (w64 (s1.1 + 1))) then
     some (.inr (.inr (-1)))
    else
     (get? p0 s1.2).bind fun x3=>
     if (x3.N != (w64 ((w64 (s1.1 + 1)) + 1))) then
      some (.inr (.inr (-1)))
     else
      (get? p0 s1.2).bind fun x4=>
      (ZV n (w64 ((w64 ((w64 (s1.1 + 1)) + 1)) + 1))).bind fun x5=>
      if (!(Str.eqb x4.Name x5)) then
       some (.inr (.inr (-1)))
      else
       (get? p0 s1.2).bind fun x6=>
       (Z5 n x6.Kids (w64 ((w64 ((w64 ((w64 (s1.1 + 1)) + 1)) + 1)) + 1))).bind fun x7=>
       if (decide (x7 < 0)) then
        some (.inr (.inr (-1)))
       else
        some (.inl (x7,(w64 (s1.2 + 1))))
  else
   some (.inr (.inl (s1.1)))
 ) n (p1,0)).bind fun (rl1:(Int) ⊕ Int)=>
 match rl1 with
 | .inl s1r=>
  some s1r
 | .inr v=>some v
def Yz (n:Nat) (p0:List Int) (p1:Int):Option Int :=
 (iterN (fun (s1 : Int × Int) =>
  if (decide (s1.2 < (len p0))) then
   (get? p0 s1.2).bind fun x1=>
   if (x1 != s1.1) then
    some (.inr (.inr (-1)))
   else
    some (.inl ((w64 (s1.1 + 1)),(w64 (s1.2 + 1))))
  else
   some (.inr (.inl (s1.1)))
 ) n (p1,0)).bind fun (rl1:(Int) ⊕ Int)=>
 match rl1 with
 | .inl s1r=>
  some s1r
 | .inr v=>some v
def X5 (n:Nat) (p0:List D.Path) (p1:Int):Option Int :=
 (iterN (fun (s1 : Int × Int) =>
  if (decide (s1.2 < (len p0))) then
   (get? p0 s1.2).bind fun x1=>
   if (x1.Pc != s1.1) then
    some (.inr (.inr (-1)))
   else
    (get? p0 s1.2).bind fun x2=>
    (Z5 n x2.Regs (w64 (s1.1 + 1))).bind fun x3=>
    if (decide (x3 < 0)) then
     some (.inr (.inr (-1)))
    else
     (get? p0 s1.2).bind fun x4=>
     (Z5 n x4.Mem x3).bind fun x5=>
     if (decide (x5 < 0)) then
      some (.inr (.inr (-1)))
     else
      (get? p0 s1.2).bind fun x6=>
      (Yz n x6.Stack x5).bind fun x7=>
      if (decide (x7 < 0)) then
       some (.inr (.inr (-1)))
      else
       (get? p0 s1.2).bind fun x8=>
       if (x8.In != x7) then
        some (.inr (.inr (-1)))
       else
        (get? p0 s1.2).bind fun x9=>
        (Z5 n x9.Out (w64 (x7 + 1))).bind fun x10=>
        if (decide (x10 < 0)) then
         some (.inr (.inr (-1)))
        else
         (get? p0 s1.2).bind fun x11=>
         if (x11.Code != x10) then
          some (.inr (.inr (-1)))
         else
          (get? p0 s1.2).bind fun x12=>
          if (x12.Steps != (w64 (x10 + 1))) then
           some (.inr (.inr (-1)))
          else
           (get? p0 s1.2).bind fun x13=>
           (Z5 n x13.Cond (w64 ((w64 (x10 + 1)) + 1))).bind fun x14=>
           if (decide (x14 < 0)) then
            some (.inr (.inr (-1)))
           else
            (get? p0 s1.2).bind fun x15=>
            (Yz n x15.Turns x14).bind fun x16=>
            if (decide (x16 < 0)) then
             some (.inr (.inr (-1)))
            else
             some (.inl (x16,(w64 (s1.2 + 1))))
  else
   some (.inr (.inl (s1.1)))
 ) n (p1,0)).bind fun (rl1:(Int) ⊕ Int)=>
 match rl1 with
 | .inl s1r=>
  some s1r
 | .inr v=>some v
def YE (n:Nat) (p0:D.Program) (p1:D.Path) (p2:List D.Path):Option Bool:=
 (Zae p0 1048576).bind fun x1=>
 if (decide (x1 < 0)) then
  some true
 else
  (Zam n p1 x1).bind fun x2=>
  if (decide (x2 < 0)) then
   some true
  else
   (ZaK n p2 x2).bind fun x3=>
   if (decide (x3 < 0)) then
    some true
   else
    (YM n p0).bind fun x4=>
    (YX n p1).bind fun x5=>
    (Xq n p2).bind fun x6=>
    (Xt n x4 x5 x6).bind fun x7=>
    (YM n p0).bind fun x8=>
    (YX n p1).bind fun x9=>
    (Xq n p2).bind fun x10=>
    (YP n x8 x9 x10).bind fun x11=>
    (Xm n x11.1 x7.1).bind fun x12=>
    if ((!x12) || (!(x11.2 == x7.2))) then
     some false
    else
     (YM n p0).bind fun x13=>
     (Zaj n x8 x13).bind fun x14=>
     if (!x14) then
      some false
     else
      (YX n p1).bind fun x15=>
      (Zah n x9 x15).bind fun x16=>
      if (!x16) then
       some false
      else
       (Xq n p2).bind fun x17=>
       (Xm n x10 x17).bind fun x18=>
       if (!x18) then
        some false
       else
        (X3 n x8 1).bind fun x19=>
        (Zay n x9 x19.1).bind fun x20=>
        (YI n x10 x20.1).bind fun x21=>
        (if (decide (x21.1 < 0)) then some default else (Xm n x11.1 x7.1)).bind fun x22=>
        if (((decide (x21.1 < 0)) || (!x22)) || (!(x11.2 == x7.2))) then
         some false
        else
         (YI n x11.1 1).bind fun x23=>
         (X5 n x23.2 1).bind fun x24=>
         if (decide (x24 < 0)) then
          some false
         else
          if (x24 != x23.1) then
           some false
          else
           (YM n p0).bind fun x25=>
           (YX n p1).bind fun x26=>
           (Xq n p2).bind fun x27=>
           (YP n x25 x26 x27).bind fun x28=>
           (Xm n x28.1 x7.1).bind fun x29=>
           if ((!x29) || (!(x28.2 == x7.2))) then
            some false
           else
            (X5 n x23.2 1).bind fun x30=>
            if (decide (x30 < 0)) then
             some false
            else
             if (x30 != x23.1) then
              some false
             else
              some true
end Go.GL
