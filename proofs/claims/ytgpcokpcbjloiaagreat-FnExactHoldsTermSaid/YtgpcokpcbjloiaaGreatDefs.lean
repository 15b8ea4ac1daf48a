/- Go functions as Lean functions, printed by a program. -/
import Derived.Test.YtgpcokpcbjloiaaGreatLib1
set_option linter.unusedVariables false
namespace Go.GL
structure D.Prf where
deriving Inhabited
structure D.l03Work where
  f:D.Formula
  limit:Int
  made:Int
  opn:Bool
deriving Inhabited
structure D.solver where
  f:D.Formula
  occ:List (List Int)
deriving Inhabited
structure D.assignment where
  val:List Int
  queue:List Int
deriving Inhabited
structure D.searcher where
  s:D.solver
  limit:Int
  splits:Int
  model:List Bool
deriving Inhabited
abbrev lstr0:Str:=⟨[0,1,2,2,3,3,3,3,4,4,4,4,4,4,4,4,5,5,5,5,5,5,5,5,5,5,5,5,5,5,5,5,6,6,6,6,6,6,6,6,6,6,6,6,6,6,6,6,6,6,6,6,6,6,6,6,6,6,6,6,6,6,6,6,7,7,7,7,7,7,7,7,7,7,7,7,7,7,7,7,7,7,7,7,7,7,7,7,7,7,7,7,7,7,7,7,7,7,7,7,7,7,7,7,7,7,7,7,7,7,7,7,7,7,7,7,7,7,7,7,7,7,7,7,7,7,7,7,8,8,8,8,8,8,8,8,8,8,8,8,8,8,8,8,8,8,8,8,8,8,8,8,8,8,8,8,8,8,8,8,8,8,8,8,8,8,8,8,8,8,8,8,8,8,8,8,8,8,8,8,8,8,8,8,8,8,8,8,8,8,8,8,8,8,8,8,8,8,8,8,8,8,8,8,8,8,8,8,8,8,8,8,8,8,8,8,8,8,8,8,8,8,8,8,8,8,8,8,8,8,8,8,8,8,8,8,8,8,8,8,8,8,8,8,8,8,8,8,8,8,8,8,8,8,8,8]⟩
mutual
def XU (n:Nat) (p0:List D.Term) (p1:Int):Option Int:=
 match n with
 | 0=>none
 | n + 1=>
 if (decide ((w64 (p1 - (len p0))) < 0)) then
  some (-1)
 else
  (iterN (fun (s1 : Int × Int) =>
   if (decide (s1.2 < (len p0))) then
    (get? p0 s1.2).bind fun x1=>
    (Xe n x1 s1.1).bind fun x2=>
    if (decide (x2 < 0)) then
     some (.inr (.inr (-1)))
    else
     some (.inl (x2,(w64 (s1.2 + 1))))
   else
    some (.inr (.inl (s1.1)))
  ) n ((w64 (p1 - (len p0))),0)).bind fun (rl1:(Int) ⊕ Int)=>
  match rl1 with
  | .inl s1r=>
   some s1r
  | .inr v=>some v
def Xe (n:Nat) (p0:D.Term) (p1:Int):Option Int:=
 match n with
 | 0=>none
 | n + 1=>
 if (decide ((w64 (p1 - (len p0.Name.bytes))) < 0)) then
  some (-1)
 else
  (XU n p0.Kids (w64 (p1 - (len p0.Name.bytes)))).bind fun x1=>
  if (decide (x1 < 0)) then
   some (-1)
  else
   some x1
end
mutual
def XO (n:Nat) (p0:List D.Term):Option (List D.Term):=
 match n with
 | 0=>none
 | n + 1=>
 (mk? (len p0) ((D.Term.mk 0 0 0 ⟨[]⟩ ([]:List D.Term)):D.Term)).bind fun x1 =>
 (iterN (fun (s1 : Int × (List D.Term)) =>
  if (decide (s1.1 < (len p0))) then
   (get? p0 s1.1).bind fun x2=>
   (Y1 n x2).bind fun x3=>
   (set? s1.2 s1.1 x3).bind fun x4=>
   some (.inl ((w64 (s1.1 + 1)),x4))
  else
   some (.inr (s1.2))
 ) n (0,x1)).bind fun (rl1:(List D.Term))=>
 some rl1
def Y1 (n:Nat) (p0:D.Term):Option D.Term:=
 match n with
 | 0=>none
 | n + 1=>
 (XO n p0.Kids).bind fun x1=>
 some (D.Term.mk p0.Op p0.W p0.N p0.Name x1)
end
def Xu (n:Nat) (p0:D.Term) (p1:Int):Option (Bool × Int):=
 match n with
 | 0=>none
 | n + 1 =>
 (iterN (fun (s1 : Int × Int) =>
  if ((decide (s1.1 < (len p0.Kids))) && (decide (s1.2 ≥ 0))) then
   (get? p0.Kids s1.1).bind fun x1=>
   (Xu n x1 s1.2).bind fun x2=>
   some (.inl ((w64 (s1.1 + 1)),x2.2))
  else
   some (.inr (s1.2))
 ) n (0,(w64 (p1 - 1)))).bind fun (rl1:Int)=>
 some ((decide (rl1 ≥ 0)),rl1)
def Zg (p0:Int) (p1:Int) (p2:Int):Option Bool:=
 some ((decide (p0 ≥ p1)) && (decide (p0 ≤ p2)))
def Xr (p0:Int) (p1:Int):Option Bool:=
 (Zg p0 1 16).bind fun x1=>
 (if x1 then (shl? 1 p0) else some default).bind fun x2=>
 (if x1 then (Zg p1 0 (w64 (x2 - 1))) else some default).bind fun x3=>
 some (x1 && x3)
def Zam (n:Nat) (p0:Str):Option Bool :=
 (iterN (fun (s1 : Int) =>
  if (decide (s1 < (len p0.bytes))) then
   (sidx? p0 s1).bind fun x1=>
   (Zg (w64 x1) 97 122).bind fun x2=>
   (if (s1 == 0) then some default else (if (!x2) then (sidx? p0 s1) else some default)).bind fun x3=>
   (if (s1 == 0) then some default else (if (!x2) then (Zg (w64 x3) 48 57) else some default)).bind fun x4=>
   if ((!x2) && ((s1 == 0) || (!x4))) then
    some (.inr (.inr false))
   else
    some (.inl ((w64 (s1 + 1))))
  else
   some (.inr (.inl ()))
 ) n (0)).bind fun (rl1:(Unit) ⊕ Bool)=>
 match rl1 with
 | .inl s1r=>
  (Zg (len p0.bytes) 1 8).bind fun x5=>
  some x5
 | .inr v=>some v
def Yw (n:Nat) (p0:D.Term):Option Bool:=
 match n with
 | 0=>none
 | n + 1=>
 (Zg p0.W 1 16).bind fun x1=>
 if (((!x1) || ((!(Str.eqb p0.Name ⟨[]⟩)) && (p0.Op != 22))) || (((p0.N != 0) && (p0.Op != 0)) && (p0.Op != 19))) then
  some false
 else
  (iterN (fun (s1 : Int) =>
   if (decide (s1 < (len p0.Kids))) then
    (get? p0.Kids s1).bind fun x2=>
    (Yw n x2).bind fun x3=>
    if (!x3) then
     some (.inr (.inr false))
    else
     some (.inl ((w64 (s1 + 1))))
   else
    some (.inr (.inl ()))
  ) n (0)).bind fun (rl1:(Unit) ⊕ Bool)=>
  match rl1 with
  | .inl s1r =>
   (iterN (fun (s2 : Int × (List Int)) =>
    if ((decide (s2.1 < (len p0.Kids))) && (decide (s2.1 < 3))) then
     (get? p0.Kids s2.1).bind fun x4=>
     (set? s2.2 s2.1 x4.W).bind fun x5=>
     some (.inl ((w64 (s2.1 + 1)),x5))
    else
     some (.inr (s2.2))
   ) n (0,([0,0,0]:List Int))).bind fun (rl2:(List Int))=>
   if (p0.Op == 0) then
    (if ((len p0.Kids) == 0) then (Xr p0.W p0.N) else some default).bind fun x6=>
    some (((len p0.Kids) == 0) && x6)
   else
    if (p0.Op == 22) then
     (if ((len p0.Kids) == 0) then (Zam n p0.Name) else some default).bind fun x7=>
     some (((len p0.Kids) == 0) && x7)
    else
     (Zg p0.Op 1 2).bind fun x8=>
     if x8 then
      (if ((len p0.Kids) == 1) then (get? rl2 0) else some default).bind fun x9=>
      some (((len p0.Kids) == 1) && (x9 == p0.W))
     else
      (Zg p0.Op 3 13).bind fun x10=>
      if x10 then
       (if ((len p0.Kids) == 2) then (get? rl2 0) else some default).bind fun x11=>
       (if (((len p0.Kids) == 2) && (x11 == p0.W)) then (get? rl2 1) else some default).bind fun x12=>
       some ((((len p0.Kids) == 2) && (x11 == p0.W)) && (x12 == p0.W))
      else
       (Zg p0.Op 14 16).bind fun x13=>
       if x13 then
        (if ((len p0.Kids) == 2) then (get? rl2 0) else some default).bind fun x14=>
        (if ((len p0.Kids) == 2) then (get? rl2 1) else some default).bind fun x15=>
        some ((((len p0.Kids) == 2) && (x14 == x15)) && (p0.W == 1))
       else
        if (p0.Op == 17) then
         (if ((len p0.Kids) == 3) then (get? rl2 0) else some default).bind fun x16=>
         (if (((len p0.Kids) == 3) && (x16 == 1)) then (get? rl2 1) else some default).bind fun x17=>
         (if ((((len p0.Kids) == 3) && (x16 == 1)) && (x17 == p0.W)) then (get? rl2 2) else some default).bind fun x18=>
         some (((((len p0.Kids) == 3) && (x16 == 1)) && (x17 == p0.W)) && (x18 == p0.W))
        else
         if (p0.Op == 18) then
          (if ((len p0.Kids) == 2) then (get? rl2 0) else some default).bind fun x19=>
          (if ((len p0.Kids) == 2) then (get? rl2 1) else some default).bind fun x20=>
          some (((len p0.Kids) == 2) && ((w64 (x19 + x20)) == p0.W))
         else
          if (p0.Op == 19) then
           (if ((len p0.Kids) == 1) then (Zg p0.N 0 16) else some default).bind fun x21=>
           (if (((len p0.Kids) == 1) && x21) then (get? rl2 0) else some default).bind fun x22=>
           some ((((len p0.Kids) == 1) && x21) && (decide ((w64 (p0.N + p0.W)) ≤ x22)))
          else
           (Zg p0.Op 20 21).bind fun x23=>
           (if (x23 && ((len p0.Kids) == 1)) then (get? rl2 0) else some default).bind fun x24=>
           some ((x23 && ((len p0.Kids) == 1)) && (decide (x24 ≤ p0.W)))
  | .inr v=>some v
def YA (n:Nat) (p0:D.Term) (p1:List D.Value):Option ((List D.Value) × Bool):=
 match n with
 | 0=>none
 | n + 1=>
 if (p0.Op == 22) then
  (iterN (fun (s1 : Int) =>
   (if (decide (s1 < (len p1))) then (get? p1 s1) else some default).bind fun x1=>
   if ((decide (s1 < (len p1))) && (Str.ltb x1.Name p0.Name)) then
    some (.inl ((w64 (s1 + 1))))
   else
    some (.inr (s1))
  ) n (0)).bind fun (rl1:Int)=>
  (if (decide (rl1 < (len p1))) then (get? p1 rl1) else some default).bind fun x2=>
  if ((decide (rl1 < (len p1))) && (Str.eqb x2.Name p0.Name)) then
   (get? p1 rl1).bind fun x3=>
   some (p1,(x3.W == p0.W))
  else
   (cut? p1 0 rl1).bind fun x4=>
   (app? ([]:List D.Value) x4).bind fun x5=>
   (app? x5 ([(D.Value.mk p0.Name p0.W 0)]:List D.Value)).bind fun x6=>
   (cut? p1 rl1 (len p1)).bind fun x7=>
   (app? x6 x7).bind fun x8=>
   some (x8,true)
 else
  (iterN (fun (s2 : (List D.Value) × Int) =>
   if (decide (s2.2 < (len p0.Kids))) then
    (get? p0.Kids s2.2).bind fun x9=>
    (YA n x9 s2.1).bind fun x10=>
    if (!x10.2) then
     some (.inr (.inr (([]:List D.Value),false)))
    else
     some (.inl (x10.1,(w64 (s2.2 + 1))))
   else
    some (.inr (.inl (s2.1)))
  ) n (p1,0)).bind fun (rl2:((List D.Value)) ⊕ ((List D.Value) × Bool))=>
  match rl2 with
  | .inl s2r=>
   some (s2r,true)
  | .inr v=>some v
def YP (n:Nat) (p0:D.Term):Option Bool:=
 (Xu n p0 240).bind fun x1=>
 if (!x1.1) then
  if true then
   some false
  else
   (YA n p0 ([]:List D.Value)).bind fun x2=>
   some x2.2
 else
  (Yw n p0).bind fun x3=>
  if (!x3) then
   some false
  else
   (YA n p0 ([]:List D.Value)).bind fun x4=>
   some x4.2
def Yq (n:Nat) (p0:D.Term):Option (List D.Value):=
 (YP n p0).bind fun x1=>
 if (!x1) then
  some ([]:List D.Value)
 else
  (YA n p0 ([]:List D.Value)).bind fun x2=>
  some x2.1
def XR (n:Nat) (p0:List D.Value):Option Int :=
 (iterN (fun (s1 : Int × Int) =>
  if (decide (s1.2 < (len p0))) then
   (get? p0 s1.2).bind fun x1=>
   some (.inl ((w64 (s1.1 + x1.W)),(w64 (s1.2 + 1))))
  else
   some (.inr (s1.1))
 ) n (0,0)).bind fun (rl1:Int)=>
 some rl1
def ZaI (p0:D.Circuit):Option D.l04Net:=
 (app? ([]:List D.Gate) p0.Gates).bind fun x1=>
 some (D.l04Net.mk (D.Circuit.mk p0.Inputs x1) false)
def Xy (n:Nat) (p0:Int) (p1:Int):Option (List Int) :=
 (iterN (fun (s1 : Int × (List Int)) =>
  if (decide (s1.1 < p0)) then
   (shr? p1 s1.1).bind fun x1=>
   if ((band x1 1) == 1) then
    (app? s1.2 ([1]:List Int)).bind fun x2=>
    some (.inl ((w64 (s1.1 + 1)),x2))
   else
    (app? s1.2 ([(-1)]:List Int)).bind fun x3=>
    some (.inl ((w64 (s1.1 + 1)),x3))
  else
   some (.inr (s1.2))
 ) n (0,([]:List Int))).bind fun (rl1:(List Int))=>
 some rl1
def Xf (n:Nat) (p0:List Int):Option (List Int) :=
 (iterN (fun (s1 : Int × (List Int)) =>
  if (decide (s1.1 < (len p0))) then
   (get? p0 s1.1).bind fun x1=>
   (app? s1.2 ([(w64 (0 - x1))]:List Int)).bind fun x2=>
   some (.inl ((w64 (s1.1 + 1)),x2))
  else
   some (.inr (s1.2))
 ) n (0,([]:List Int))).bind fun (rl1:(List Int))=>
 some rl1
def Zo (p0:Int):Option Int:=
 if (decide (p0 < 0)) then
  some (w64 (0 - p0))
 else
  some p0
def Zk (n:Nat) (p0:D.l04Net) (p1:Int) (p2:Int):Option (Int × D.l04Net):=
 if (((p1 == (-1)) || (p2 == (-1))) || (p1 == (w64 (0 - p2)))) then
  some ((-1),p0)
 else
  if (p1 == 1) then
   some (p2,p0)
  else
   if ((p2 == 1) || (p1 == p2)) then
    some (p1,p0)
   else
    (Zo p1).bind fun x1=>
    (Zo p2).bind fun x2 =>
    (iterN (fun (s1 : Int) =>
     if (decide (s1 < (len p0.c.Gates))) then
      (get? p0.c.Gates s1).bind fun x3=>
      if (decide ((D.Gate.mk (cond (decide (x1 > x2)) p2 p1) (cond (decide (x1 > x2)) p1 p2)) = x3)) then
       some (.inr (.inr ((w64 ((w64 (p0.c.Inputs + 2)) + s1)),p0)))
      else
       some (.inl ((w64 (s1 + 1))))
     else
      some (.inr (.inl ()))
    ) n (0)).bind fun (rl1:(Unit) ⊕ (Int × D.l04Net))=>
    match rl1 with
    | .inl s1r=>
     if (decide ((len p0.c.Gates) ≥ 360)) then
      some ((-1),(D.l04Net.mk p0.c true))
     else
      (app? p0.c.Gates ([(D.Gate.mk (cond (decide (x1 > x2)) p2 p1) (cond (decide (x1 > x2)) p1 p2))]:List D.Gate)).bind fun x4=>
      some ((w64 ((w64 (p0.c.Inputs + 1)) + (len x4))),(D.l04Net.mk (D.Circuit.mk p0.c.Inputs x4) p0.full))
    | .inr v=>some v
def Zq (n:Nat) (p0:D.l04Net) (p1:Int) (p2:Int):Option (Int × D.l04Net):=
 (Zk n p0 (w64 (0 - p1)) (w64 (0 - p2))).bind fun x1=>
 some ((w64 (0 - x1.1)),x1.2)
def Zl (n:Nat) (p0:D.l04Net) (p1:Int) (p2:Int) (p3:Int):Option (Int × D.l04Net):=
 (Zk n p0 p1 p2).bind fun x1=>
 (Zk n x1.2 (w64 (0 - p1)) p3).bind fun x2=>
 (Zq n x2.2 x1.1 x2.1).bind fun x3=>
 some (x3.1,x3.2)
def ZX (n:Nat) (p0:Int) (p1:Int):Option (List Int) :=
 (iterN (fun (s1 : Int × (List Int)) =>
  if (decide (s1.1 < p0)) then
   (app? s1.2 ([p1]:List Int)).bind fun x1=>
   some (.inl ((w64 (s1.1 + 1)),x1))
  else
   some (.inr (s1.2))
 ) n (0,([]:List Int))).bind fun (rl1:(List Int))=>
 some rl1
def Zn (n:Nat) (p0:D.l04Net) (p1:Int) (p2:Int):Option (Int × D.l04Net):=
 (Zk n p0 p1 (w64 (0 - p2))).bind fun x1=>
 (Zk n x1.2 (w64 (0 - p1)) p2).bind fun x2=>
 (Zq n x2.2 x1.1 x2.1).bind fun x3=>
 some (x3.1,x3.2)
def ZH (n:Nat) (p0:D.l04Net) (p1:List Int) (p2:List Int) (p3:Int):Option ((List Int) × Int × D.l04Net) :=
 (iterN (fun (s1 : Int × Int × (List Int) × Int × Bool × (List D.Gate)) =>
  if (decide (s1.2.1 < (len p1))) then
   (get? p1 s1.2.1).bind fun x1=>
   (get? p2 s1.2.1).bind fun x2=>
   (Zn n (D.l04Net.mk (D.Circuit.mk s1.2.2.2.1 s1.2.2.2.2.2) s1.2.2.2.2.1) x1 x2).bind fun x3=>
   (Zn n x3.2 x3.1 s1.1).bind fun x4=>
   (app? s1.2.2.1 ([x4.1]:List Int)).bind fun x5=>
   (get? p1 s1.2.1).bind fun x6=>
   (get? p2 s1.2.1).bind fun x7=>
   (Zk n x4.2 x6 x7).bind fun x8=>
   (Zk n x8.2 x3.1 s1.1).bind fun x9=>
   (Zq n x9.2 x8.1 x9.1).bind fun x10=>
   some (.inl (x10.1,(w64 (s1.2.1 + 1)),x5,x10.2.c.Inputs,x10.2.full,x10.2.c.Gates))
  else
   some (.inr (s1.1,s1.2.2.1,s1.2.2.2.1,s1.2.2.2.2.1,s1.2.2.2.2.2))
 ) n (p3,0,([]:List Int),p0.c.Inputs,p0.full,p0.c.Gates)).bind fun (rl1:Int × (List Int) × Int × Bool × (List D.Gate))=>
 some (rl1.2.1,rl1.1,(D.l04Net.mk (D.Circuit.mk rl1.2.2.1 rl1.2.2.2.2) rl1.2.2.2.1))
def YU (n:Nat) (p0:D.l04Net) (p1:List Int) (p2:List Int):Option ((List Int) × D.l04Net):=
 (ZX n (len p1) (-1)).bind fun x1 =>
 (iterN (fun (s1 : Int × (List Int) × Int × Bool × (List D.Gate)) =>
  if (decide (s1.1 < (len p1))) then
   (iterN (fun (s2 : Int × (List Int) × Int × Bool × (List D.Gate)) =>
    if (decide (s2.1 < (w64 ((len p1) - s1.1)))) then
     (get? p2 s1.1).bind fun x2=>
     (get? p1 s2.1).bind fun x3=>
     (Zk n (D.l04Net.mk (D.Circuit.mk s2.2.2.1 s2.2.2.2.2) s2.2.2.2.1) x2 x3).bind fun x4=>
     (app? s2.2.1 ([x4.1]:List Int)).bind fun x5=>
     some (.inl ((w64 (s2.1 + 1)),x5,x4.2.c.Inputs,x4.2.full,x4.2.c.Gates))
    else
     some (.inr (s2.2.1,s2.2.2.1,s2.2.2.2.1,s2.2.2.2.2))
   ) n (0,([]:List Int),s1.2.2.1,s1.2.2.2.1,s1.2.2.2.2)).bind fun (rl2:(List Int) × Int × Bool × (List D.Gate))=>
   (cut? s1.2.1 s1.1 (len s1.2.1)).bind fun x6=>
   (ZH n (D.l04Net.mk (D.Circuit.mk rl2.2.1 rl2.2.2.2) rl2.2.2.1) x6 rl2.1 (-1)).bind fun x7=>
   (cut? s1.2.1 0 s1.1).bind fun x8=>
   (app? ([]:List Int) x8).bind fun x9=>
   (app? x9 x7.1).bind fun x10=>
   some (.inl ((w64 (s1.1 + 1)),x10,x7.2.2.c.Inputs,x7.2.2.full,x7.2.2.c.Gates))
  else
   some (.inr (s1.2.1,s1.2.2.1,s1.2.2.2.1,s1.2.2.2.2))
 ) n (0,x1,p0.c.Inputs,p0.full,p0.c.Gates)).bind fun (rl1:(List Int) × Int × Bool × (List D.Gate))=>
 some (rl1.1,(D.l04Net.mk (D.Circuit.mk rl1.2.1 rl1.2.2.2) rl1.2.2.1))
def Y7 (n:Nat) (p0:D.l04Net) (p1:List Int) (p2:List Int):Option ((List Int) × (List Int) × D.l04Net):=
 (ZX n (len p1) (-1)).bind fun x1=>
 (ZX n (len p1) (-1)).bind fun x2=>
 (Xf n p2).bind fun x3=>
 (app? x3 ([1]:List Int)).bind fun x4 =>
 (iterN (fun (s1 : Int × (List Int) × (List Int) × Int × Bool × (List D.Gate)) =>
  if (decide (s1.1 ≥ 0)) then
   (get? p1 s1.1).bind fun x5=>
   (app? ([x5]:List Int) s1.2.2.1).bind fun x6=>
   (ZH n (D.l04Net.mk (D.Circuit.mk s1.2.2.2.1 s1.2.2.2.2.2) s1.2.2.2.2.1) x6 x4 1).bind fun x7=>
   (set? s1.2.1 s1.1 x7.2.1).bind fun x8 =>
   (iterN (fun (s2 : Int × (List Int) × Int × Bool × (List D.Gate)) =>
    if (decide (s2.1 < (len p1))) then
     (get? x7.1 s2.1).bind fun x9=>
     (get? x6 s2.1).bind fun x10=>
     (Zl n (D.l04Net.mk (D.Circuit.mk s2.2.2.1 s2.2.2.2.2) s2.2.2.2.1) x7.2.1 x9 x10).bind fun x11=>
     (app? s2.2.1 ([x11.1]:List Int)).bind fun x12=>
     some (.inl ((w64 (s2.1 + 1)),x12,x11.2.c.Inputs,x11.2.full,x11.2.c.Gates))
    else
     some (.inr (s2.2.1,s2.2.2.1,s2.2.2.2.1,s2.2.2.2.2))
   ) n (0,([]:List Int),x7.2.2.c.Inputs,x7.2.2.full,x7.2.2.c.Gates)).bind fun (rl2:(List Int) × Int × Bool × (List D.Gate))=>
   some (.inl ((w64 (s1.1 - 1)),x8,rl2.1,rl2.2.1,rl2.2.2.1,rl2.2.2.2))
  else
   some (.inr (s1.2.1,s1.2.2.1,s1.2.2.2.1,s1.2.2.2.2.1,s1.2.2.2.2.2))
 ) n ((w64 ((len p1) - 1)),x1,x2,p0.c.Inputs,p0.full,p0.c.Gates)).bind fun (rl1:(List Int) × (List Int) × Int × Bool × (List D.Gate))=>
 some (rl1.1,rl1.2.1,(D.l04Net.mk (D.Circuit.mk rl1.2.2.1 rl1.2.2.2.2) rl1.2.2.2.1))
def ZK (n:Nat) (p0:D.l04Net) (p1:Int) (p2:List Int) (p3:List Int):Option ((List Int) × D.l04Net):=
 if (p1 == 13) then
  (get? p2 (w64 ((len p2) - 1))).bind fun x1 =>
  (iterN (fun (s1 : Int × Bool × (List Int) × Int × Int × Bool × (List D.Gate)) =>
   if (decide (s1.2.2.2.1 < (len p2))) then
    (shl? 1 s1.2.2.2.1).bind fun x2=>
    if (decide (x2 ≥ (len p2))) then
     (get? p3 s1.2.2.2.1).bind fun x3=>
     (Zq n (D.l04Net.mk (D.Circuit.mk s1.2.2.2.2.1 s1.2.2.2.2.2.2) s1.2.2.2.2.2.1) s1.1 x3).bind fun x4=>
     some (.inl (x4.1,true,s1.2.2.1,(w64 (s1.2.2.2.1 + 1)),x4.2.c.Inputs,x4.2.full,x4.2.c.Gates))
    else
     (iterN (fun (s2 : Int × (List Int) × Int × Bool × (List D.Gate)) =>
      if (decide (s2.1 < (len p2))) then
       (Zg (cond (p1 == 11) (w64 (s2.1 - x2)) (w64 (s2.1 + x2))) 0 (w64 ((len p2) - 1))).bind fun x5=>
       if x5 then
        (get? s1.2.2.1 (cond (p1 == 11) (w64 (s2.1 - x2)) (w64 (s2.1 + x2)))).bind fun x6=>
        (get? p3 s1.2.2.2.1).bind fun x7=>
        (get? s1.2.2.1 s2.1).bind fun x8=>
        (Zl n (D.l04Net.mk (D.Circuit.mk s2.2.2.1 s2.2.2.2.2) s2.2.2.2.1) x7 x6 x8).bind fun x9=>
        (app? s2.2.1 ([x9.1]:List Int)).bind fun x10=>
        some (.inl ((w64 (s2.1 + 1)),x10,x9.2.c.Inputs,x9.2.full,x9.2.c.Gates))
       else
        (get? p3 s1.2.2.2.1).bind fun x11=>
        (get? s1.2.2.1 s2.1).bind fun x12=>
        (Zl n (D.l04Net.mk (D.Circuit.mk s2.2.2.1 s2.2.2.2.2) s2.2.2.2.1) x11 x1 x12).bind fun x13=>
        (app? s2.2.1 ([x13.1]:List Int)).bind fun x14=>
        some (.inl ((w64 (s2.1 + 1)),x14,x13.2.c.Inputs,x13.2.full,x13.2.c.Gates))
      else
       some (.inr (s2.2.1,s2.2.2.1,s2.2.2.2.1,s2.2.2.2.2))
     ) n (0,([]:List Int),s1.2.2.2.2.1,s1.2.2.2.2.2.1,s1.2.2.2.2.2.2)).bind fun (rl2:(List Int) × Int × Bool × (List D.Gate))=>
     some (.inl (s1.1,s1.2.1,rl2.1,(w64 (s1.2.2.2.1 + 1)),rl2.2.1,rl2.2.2.1,rl2.2.2.2))
   else
    some (.inr (s1.1,s1.2.1,s1.2.2.1,s1.2.2.2.2.1,s1.2.2.2.2.2.1,s1.2.2.2.2.2.2))
  ) n ((-1),false,p2,0,p0.c.Inputs,p0.full,p0.c.Gates)).bind fun (rl1:Int × Bool × (List Int) × Int × Bool × (List D.Gate))=>
  if (!rl1.2.1) then
   some (rl1.2.2.1,(D.l04Net.mk (D.Circuit.mk rl1.2.2.2.1 rl1.2.2.2.2.2) rl1.2.2.2.2.1))
  else
   (iterN (fun (s3 : Int × (List Int) × Int × Bool × (List D.Gate)) =>
    if (decide (s3.1 < (len p2))) then
     (get? rl1.2.2.1 s3.1).bind fun x15=>
     (Zl n (D.l04Net.mk (D.Circuit.mk s3.2.2.1 s3.2.2.2.2) s3.2.2.2.1) rl1.1 x1 x15).bind fun x16=>
     (app? s3.2.1 ([x16.1]:List Int)).bind fun x17=>
     some (.inl ((w64 (s3.1 + 1)),x17,x16.2.c.Inputs,x16.2.full,x16.2.c.Gates))
    else
     some (.inr (s3.2.1,s3.2.2.1,s3.2.2.2.1,s3.2.2.2.2))
   ) n (0,([]:List Int),rl1.2.2.2.1,rl1.2.2.2.2.1,rl1.2.2.2.2.2)).bind fun (rl3:(List Int) × Int × Bool × (List D.Gate))=>
   some (rl3.1,(D.l04Net.mk (D.Circuit.mk rl3.2.1 rl3.2.2.2) rl3.2.2.1))
 else
  (iterN (fun (s4 : Int × Bool × (List Int) × Int × Int × Bool × (List D.Gate)) =>
   if (decide (s4.2.2.2.1 < (len p2))) then
    (shl? 1 s4.2.2.2.1).bind fun x18=>
    if (decide (x18 ≥ (len p2))) then
     (get? p3 s4.2.2.2.1).bind fun x19=>
     (Zq n (D.l04Net.mk (D.Circuit.mk s4.2.2.2.2.1 s4.2.2.2.2.2.2) s4.2.2.2.2.2.1) s4.1 x19).bind fun x20=>
     some (.inl (x20.1,true,s4.2.2.1,(w64 (s4.2.2.2.1 + 1)),x20.2.c.Inputs,x20.2.full,x20.2.c.Gates))
    else
     (iterN (fun (s5 : Int × (List Int) × Int × Bool × (List D.Gate)) =>
      if (decide (s5.1 < (len p2))) then
       (Zg (cond (p1 == 11) (w64 (s5.1 - x18)) (w64 (s5.1 + x18))) 0 (w64 ((len p2) - 1))).bind fun x21=>
       if x21 then
        (get? s4.2.2.1 (cond (p1 == 11) (w64 (s5.1 - x18)) (w64 (s5.1 + x18)))).bind fun x22=>
        (get? p3 s4.2.2.2.1).bind fun x23=>
        (get? s4.2.2.1 s5.1).bind fun x24=>
        (Zl n (D.l04Net.mk (D.Circuit.mk s5.2.2.1 s5.2.2.2.2) s5.2.2.2.1) x23 x22 x24).bind fun x25=>
        (app? s5.2.1 ([x25.1]:List Int)).bind fun x26=>
        some (.inl ((w64 (s5.1 + 1)),x26,x25.2.c.Inputs,x25.2.full,x25.2.c.Gates))
       else
        (get? p3 s4.2.2.2.1).bind fun x27=>
        (get? s4.2.2.1 s5.1).bind fun x28=>
        (Zl n (D.l04Net.mk (D.Circuit.mk s5.2.2.1 s5.2.2.2.2) s5.2.2.2.1) x27 (-1) x28).bind fun x29=>
        (app? s5.2.1 ([x29.1]:List Int)).bind fun x30=>
        some (.inl ((w64 (s5.1 + 1)),x30,x29.2.c.Inputs,x29.2.full,x29.2.c.Gates))
      else
       some (.inr (s5.2.1,s5.2.2.1,s5.2.2.2.1,s5.2.2.2.2))
     ) n (0,([]:List Int),s4.2.2.2.2.1,s4.2.2.2.2.2.1,s4.2.2.2.2.2.2)).bind fun (rl5:(List Int) × Int × Bool × (List D.Gate))=>
     some (.inl (s4.1,s4.2.1,rl5.1,(w64 (s4.2.2.2.1 + 1)),rl5.2.1,rl5.2.2.1,rl5.2.2.2))
   else
    some (.inr (s4.1,s4.2.1,s4.2.2.1,s4.2.2.2.2.1,s4.2.2.2.2.2.1,s4.2.2.2.2.2.2))
  ) n ((-1),false,p2,0,p0.c.Inputs,p0.full,p0.c.Gates)).bind fun (rl4:Int × Bool × (List Int) × Int × Bool × (List D.Gate))=>
  if (!rl4.2.1) then
   some (rl4.2.2.1,(D.l04Net.mk (D.Circuit.mk rl4.2.2.2.1 rl4.2.2.2.2.2) rl4.2.2.2.2.1))
  else
   (iterN (fun (s6 : Int × (List Int) × Int × Bool × (List D.Gate)) =>
    if (decide (s6.1 < (len p2))) then
     (get? rl4.2.2.1 s6.1).bind fun x31=>
     (Zl n (D.l04Net.mk (D.Circuit.mk s6.2.2.1 s6.2.2.2.2) s6.2.2.2.1) rl4.1 (-1) x31).bind fun x32=>
     (app? s6.2.1 ([x32.1]:List Int)).bind fun x33=>
     some (.inl ((w64 (s6.1 + 1)),x33,x32.2.c.Inputs,x32.2.full,x32.2.c.Gates))
    else
     some (.inr (s6.2.1,s6.2.2.1,s6.2.2.2.1,s6.2.2.2.2))
   ) n (0,([]:List Int),rl4.2.2.2.1,rl4.2.2.2.2.1,rl4.2.2.2.2.2)).bind fun (rl6:(List Int) × Int × Bool × (List D.Gate))=>
   some (rl6.1,(D.l04Net.mk (D.Circuit.mk rl6.2.1 rl6.2.2.2) rl6.2.2.1))
def Z6 (n:Nat) (p0:D.l04Net) (p1:List Int) (p2:List Int):Option (Int × D.l04Net):=
 (Xf n p2).bind fun x1=>
 (ZH n p0 p1 x1 1).bind fun x2=>
 some ((w64 (0 - x2.2.1)),x2.2.2)
def Ym (p0:List Int):Option (List Int):=
 (app? ([]:List Int) p0).bind fun x1=>
 (get? x1 (w64 ((len x1) - 1))).bind fun x2=>
 (set? x1 (w64 ((len x1) - 1)) (w64 (0 - x2))).bind fun x3=>
 some x3
def ZT (n:Nat) (p0:D.l04Net) (p1:Int) (p2:List Int) (p3:List Int):Option ((List Int) × D.l04Net):=
 if (p1 == 3) then
  (ZH n p0 p2 p3 (-1)).bind fun x1=>
  some (x1.1,x1.2.2)
 else
  if (p1 == 4) then
   (Xf n p3).bind fun x2=>
   (ZH n p0 p2 x2 1).bind fun x3=>
   some (x3.1,x3.2.2)
  else
   if (p1 == 5) then
    (YU n p0 p2 p3).bind fun x4=>
    some (x4.1,x4.2)
   else
    if (p1 == 6) then
     (Y7 n p0 p2 p3).bind fun x5=>
     some (x5.1,x5.2.2)
    else
     if (p1 == 7) then
      (Y7 n p0 p2 p3).bind fun x6=>
      some (x6.2.1,x6.2.2)
     else
      if (p1 == 8) then
       if (p1 == 8) then
        (iterN (fun (s1 : Int × (List Int) × Int × Bool × (List D.Gate)) =>
         if (decide (s1.1 < (len p2))) then
          if (p1 == 8) then
           (get? p2 s1.1).bind fun x7=>
           (get? p3 s1.1).bind fun x8=>
           (Zk n (D.l04Net.mk (D.Circuit.mk s1.2.2.1 s1.2.2.2.2) s1.2.2.2.1) x7 x8).bind fun x9=>
           (app? s1.2.1 ([x9.1]:List Int)).bind fun x10=>
           some (.inl ((w64 (s1.1 + 1)),x10,x9.2.c.Inputs,x9.2.full,x9.2.c.Gates))
          else
           if (p1 == 9) then
            (get? p2 s1.1).bind fun x11=>
            (get? p3 s1.1).bind fun x12=>
            (Zq n (D.l04Net.mk (D.Circuit.mk s1.2.2.1 s1.2.2.2.2) s1.2.2.2.1) x11 x12).bind fun x13=>
            (app? s1.2.1 ([x13.1]:List Int)).bind fun x14=>
            some (.inl ((w64 (s1.1 + 1)),x14,x13.2.c.Inputs,x13.2.full,x13.2.c.Gates))
           else
            (get? p2 s1.1).bind fun x15=>
            (get? p3 s1.1).bind fun x16=>
            (Zn n (D.l04Net.mk (D.Circuit.mk s1.2.2.1 s1.2.2.2.2) s1.2.2.2.1) x15 x16).bind fun x17=>
            (app? s1.2.1 ([x17.1]:List Int)).bind fun x18=>
            some (.inl ((w64 (s1.1 + 1)),x18,x17.2.c.Inputs,x17.2.full,x17.2.c.Gates))
         else
          some (.inr (s1.2.1,s1.2.2.1,s1.2.2.2.1,s1.2.2.2.2))
        ) n (0,([]:List Int),p0.c.Inputs,p0.full,p0.c.Gates)).bind fun (rl1:(List Int) × Int × Bool × (List D.Gate))=>
        some (rl1.1,(D.l04Net.mk (D.Circuit.mk rl1.2.1 rl1.2.2.2) rl1.2.2.1))
       else
        if (p1 == 11) then
         if (p1 == 11) then
          (ZK n p0 p1 p2 p3).bind fun x19=>
          some (x19.1,x19.2)
         else
          if (p1 == 14) then
           (iterN (fun (s2 : Int × Int × Int × Bool × (List D.Gate)) =>
            if (decide (s2.2.1 < (len p2))) then
             (get? p2 s2.2.1).bind fun x20=>
             (get? p3 s2.2.1).bind fun x21=>
             (Zn n (D.l04Net.mk (D.Circuit.mk s2.2.2.1 s2.2.2.2.2) s2.2.2.2.1) x20 x21).bind fun x22=>
             (Zk n x22.2 s2.1 (w64 (0 - x22.1))).bind fun x23=>
             some (.inl (x23.1,(w64 (s2.2.1 + 1)),x23.2.c.Inputs,x23.2.full,x23.2.c.Gates))
            else
             some (.inr (s2.1,s2.2.2.1,s2.2.2.2.1,s2.2.2.2.2))
           ) n (1,0,p0.c.Inputs,p0.full,p0.c.Gates)).bind fun (rl2:Int × Int × Bool × (List D.Gate))=>
           some (([rl2.1]:List Int),(D.l04Net.mk (D.Circuit.mk rl2.2.1 rl2.2.2.2) rl2.2.2.1))
          else
           if (p1 == 15) then
            (Z6 n p0 p2 p3).bind fun x24=>
            some (([x24.1]:List Int),x24.2)
           else
            if (p1 == 16) then
             (Ym p2).bind fun x25=>
             (Ym p3).bind fun x26=>
             (Z6 n p0 x25 x26).bind fun x27=>
             some (([x27.1]:List Int),x27.2)
            else
             some (([]:List Int),p0)
        else
         if ((p1 == 12) || (p1 == 13)) then
          (ZK n p0 p1 p2 p3).bind fun x28=>
          some (x28.1,x28.2)
         else
          if (p1 == 14) then
           (iterN (fun (s3 : Int × Int × Int × Bool × (List D.Gate)) =>
            if (decide (s3.2.1 < (len p2))) then
             (get? p2 s3.2.1).bind fun x29=>
             (get? p3 s3.2.1).bind fun x30=>
             (Zn n (D.l04Net.mk (D.Circuit.mk s3.2.2.1 s3.2.2.2.2) s3.2.2.2.1) x29 x30).bind fun x31=>
             (Zk n x31.2 s3.1 (w64 (0 - x31.1))).bind fun x32=>
             some (.inl (x32.1,(w64 (s3.2.1 + 1)),x32.2.c.Inputs,x32.2.full,x32.2.c.Gates))
            else
             some (.inr (s3.1,s3.2.2.1,s3.2.2.2.1,s3.2.2.2.2))
           ) n (1,0,p0.c.Inputs,p0.full,p0.c.Gates)).bind fun (rl3:Int × Int × Bool × (List D.Gate))=>
           some (([rl3.1]:List Int),(D.l04Net.mk (D.Circuit.mk rl3.2.1 rl3.2.2.2) rl3.2.2.1))
          else
           if (p1 == 15) then
            (Z6 n p0 p2 p3).bind fun x33=>
            some (([x33.1]:List Int),x33.2)
           else
            if (p1 == 16) then
             (Ym p2).bind fun x34=>
             (Ym p3).bind fun x35=>
             (Z6 n p0 x34 x35).bind fun x36=>
             some (([x36.1]:List Int),x36.2)
            else
             some (([]:List Int),p0)
      else
       if ((p1 == 9) || (p1 == 10)) then
        (iterN (fun (s4 : Int × (List Int) × Int × Bool × (List D.Gate)) =>
         if (decide (s4.1 < (len p2))) then
          if (p1 == 8) then
           (get? p2 s4.1).bind fun x37=>
           (get? p3 s4.1).bind fun x38=>
           (Zk n (D.l04Net.mk (D.Circuit.mk s4.2.2.1 s4.2.2.2.2) s4.2.2.2.1) x37 x38).bind fun x39=>
           (app? s4.2.1 ([x39.1]:List Int)).bind fun x40=>
           some (.inl ((w64 (s4.1 + 1)),x40,x39.2.c.Inputs,x39.2.full,x39.2.c.Gates))
          else
           if (p1 == 9) then
            (get? p2 s4.1).bind fun x41=>
            (get? p3 s4.1).bind fun x42=>
            (Zq n (D.l04Net.mk (D.Circuit.mk s4.2.2.1 s4.2.2.2.2) s4.2.2.2.1) x41 x42).bind fun x43=>
            (app? s4.2.1 ([x43.1]:List Int)).bind fun x44=>
            some (.inl ((w64 (s4.1 + 1)),x44,x43.2.c.Inputs,x43.2.full,x43.2.c.Gates))
           else
            (get? p2 s4.1).bind fun x45=>
            (get? p3 s4.1).bind fun x46=>
            (Zn n (D.l04Net.mk (D.Circuit.mk s4.2.2.1 s4.2.2.2.2) s4.2.2.2.1) x45 x46).bind fun x47=>
            (app? s4.2.1 ([x47.1]:List Int)).bind fun x48=>
            some (.inl ((w64 (s4.1 + 1)),x48,x47.2.c.Inputs,x47.2.full,x47.2.c.Gates))
         else
          some (.inr (s4.2.1,s4.2.2.1,s4.2.2.2.1,s4.2.2.2.2))
        ) n (0,([]:List Int),p0.c.Inputs,p0.full,p0.c.Gates)).bind fun (rl4:(List Int) × Int × Bool × (List D.Gate))=>
        some (rl4.1,(D.l04Net.mk (D.Circuit.mk rl4.2.1 rl4.2.2.2) rl4.2.2.1))
       else
        if (p1 == 11) then
         if (p1 == 11) then
          (ZK n p0 p1 p2 p3).bind fun x49=>
          some (x49.1,x49.2)
         else
          if (p1 == 14) then
           (iterN (fun (s5 : Int × Int × Int × Bool × (List D.Gate)) =>
            if (decide (s5.2.1 < (len p2))) then
             (get? p2 s5.2.1).bind fun x50=>
             (get? p3 s5.2.1).bind fun x51=>
             (Zn n (D.l04Net.mk (D.Circuit.mk s5.2.2.1 s5.2.2.2.2) s5.2.2.2.1) x50 x51).bind fun x52=>
             (Zk n x52.2 s5.1 (w64 (0 - x52.1))).bind fun x53=>
             some (.inl (x53.1,(w64 (s5.2.1 + 1)),x53.2.c.Inputs,x53.2.full,x53.2.c.Gates))
            else
             some (.inr (s5.1,s5.2.2.1,s5.2.2.2.1,s5.2.2.2.2))
           ) n (1,0,p0.c.Inputs,p0.full,p0.c.Gates)).bind fun (rl5:Int × Int × Bool × (List D.Gate))=>
           some (([rl5.1]:List Int),(D.l04Net.mk (D.Circuit.mk rl5.2.1 rl5.2.2.2) rl5.2.2.1))
          else
           if (p1 == 15) then
            (Z6 n p0 p2 p3).bind fun x54=>
            some (([x54.1]:List Int),x54.2)
           else
            if (p1 == 16) then
             (Ym p2).bind fun x55=>
             (Ym p3).bind fun x56=>
             (Z6 n p0 x55 x56).bind fun x57=>
             some (([x57.1]:List Int),x57.2)
            else
             some (([]:List Int),p0)
        else
         if ((p1 == 12) || (p1 == 13)) then
          (ZK n p0 p1 p2 p3).bind fun x58=>
          some (x58.1,x58.2)
         else
          if (p1 == 14) then
           (iterN (fun (s6 : Int × Int × Int × Bool × (List D.Gate)) =>
            if (decide (s6.2.1 < (len p2))) then
             (get? p2 s6.2.1).bind fun x59=>
             (get? p3 s6.2.1).bind fun x60=>
             (Zn n (D.l04Net.mk (D.Circuit.mk s6.2.2.1 s6.2.2.2.2) s6.2.2.2.1) x59 x60).bind fun x61=>
             (Zk n x61.2 s6.1 (w64 (0 - x61.1))).bind fun x62=>
             some (.inl (x62.1,(w64 (s6.2.1 + 1)),x62.2.c.Inputs,x62.2.full,x62.2.c.Gates))
            else
             some (.inr (s6.1,s6.2.2.1,s6.2.2.2.1,s6.2.2.2.2))
           ) n (1,0,p0.c.Inputs,p0.full,p0.c.Gates)).bind fun (rl6:Int × Int × Bool × (List D.Gate))=>
           some (([rl6.1]:List Int),(D.l04Net.mk (D.Circuit.mk rl6.2.1 rl6.2.2.2) rl6.2.2.1))
          else
           if (p1 == 15) then
            (Z6 n p0 p2 p3).bind fun x63=>
            some (([x63.1]:List Int),x63.2)
           else
            if (p1 == 16) then
             (Ym p2).bind fun x64=>
             (Ym p3).bind fun x65=>
             (Z6 n p0 x64 x65).bind fun x66=>
             some (([x66.1]:List Int),x66.2)
            else
             some (([]:List Int),p0)
def ZO (n:Nat) (p0:D.l04Net) (p1:D.Term) (p2:List D.Value):Option ((List Int) × D.l04Net):=
 match n with
 | 0=>none
 | n + 1=>
 if (p1.Op == 0) then
  (Xy n p1.W p1.N).bind fun x1=>
  some (x1,p0)
 else
  if (p1.Op == 22) then
   (iterN (fun (s1 : Int × Int) =>
    if (decide (s1.2 < (len p2))) then
     (get? p2 s1.2).bind fun x2=>
     if (Str.eqb x2.Name p1.Name) then
      some (.inr ((w64 (s1.1 + x2.W))))
     else
      some (.inl ((w64 (s1.1 + x2.W)),(w64 (s1.2 + 1))))
    else
     some (.inr (s1.1))
   ) n (1,0)).bind fun (rl1:Int) =>
   (iterN (fun (s2 : Int × (List Int)) =>
    if (decide (s2.1 < p1.W)) then
     (app? s2.2 ([(w64 (rl1 - s2.1))]:List Int)).bind fun x3=>
     some (.inl ((w64 (s2.1 + 1)),x3))
    else
     some (.inr (s2.2))
   ) n (0,([]:List Int))).bind fun (rl2:(List Int))=>
   some (rl2,p0)
  else
   (iterN (fun (s3 : Int × (List (List Int)) × Int × Bool × (List D.Gate)) =>
    if (decide (s3.1 < (len p1.Kids))) then
     (get? p1.Kids s3.1).bind fun x4=>
     (ZO n (D.l04Net.mk (D.Circuit.mk s3.2.2.1 s3.2.2.2.2) s3.2.2.2.1) x4 p2).bind fun x5=>
     (app? s3.2.1 ([x5.1]:List (List Int))).bind fun x6=>
     some (.inl ((w64 (s3.1 + 1)),x6,x5.2.c.Inputs,x5.2.full,x5.2.c.Gates))
    else
     some (.inr (s3.2.1,s3.2.2.1,s3.2.2.2.1,s3.2.2.2.2))
   ) n (0,([]:List (List Int)),p0.c.Inputs,p0.full,p0.c.Gates)).bind fun (rl3:(List (List Int)) × Int × Bool × (List D.Gate))=>
   (get? rl3.1 0).bind fun x7=>
   if (p1.Op == 1) then
    (Xf n x7).bind fun x8=>
    some (x8,(D.l04Net.mk (D.Circuit.mk rl3.2.1 rl3.2.2.2) rl3.2.2.1))
   else
    if (p1.Op == 2) then
     (Xy n p1.W 0).bind fun x9=>
     (get? ([x9,x7]:List (List Int)) 0).bind fun x10=>
     if ((len x10) == 16) then
      (ZX n p1.W (-1)).bind fun x11=>
      some (x11,(D.l04Net.mk (D.Circuit.mk rl3.2.1 rl3.2.2.2) true))
     else
      (get? ([x9,x7]:List (List Int)) 0).bind fun x12=>
      (get? ([x9,x7]:List (List Int)) 1).bind fun x13=>
      (ZT n (D.l04Net.mk (D.Circuit.mk rl3.2.1 rl3.2.2.2) rl3.2.2.1) (cond (p1.Op == 2) 4 p1.Op) x12 x13).bind fun x14=>
      some (x14.1,x14.2)
    else
     if (p1.Op == 17) then
      (iterN (fun (s4 : Int × (List Int) × Int × Bool × (List D.Gate)) =>
       if (decide (s4.1 < p1.W)) then
        (get? x7 0).bind fun x15=>
        (get? rl3.1 1).bind fun x16=>
        (get? x16 s4.1).bind fun x17=>
        (get? rl3.1 2).bind fun x18=>
        (get? x18 s4.1).bind fun x19=>
        (Zl n (D.l04Net.mk (D.Circuit.mk s4.2.2.1 s4.2.2.2.2) s4.2.2.2.1) x15 x17 x19).bind fun x20=>
        (app? s4.2.1 ([x20.1]:List Int)).bind fun x21=>
        some (.inl ((w64 (s4.1 + 1)),x21,x20.2.c.Inputs,x20.2.full,x20.2.c.Gates))
       else
        some (.inr (s4.2.1,s4.2.2.1,s4.2.2.2.1,s4.2.2.2.2))
      ) n (0,([]:List Int),rl3.2.1,rl3.2.2.1,rl3.2.2.2)).bind fun (rl4:(List Int) × Int × Bool × (List D.Gate))=>
      some (rl4.1,(D.l04Net.mk (D.Circuit.mk rl4.2.1 rl4.2.2.2) rl4.2.2.1))
     else
      if (p1.Op == 18) then
       (get? rl3.1 1).bind fun x22=>
       (app? ([]:List Int) x22).bind fun x23=>
       (app? x23 x7).bind fun x24=>
       some (x24,(D.l04Net.mk (D.Circuit.mk rl3.2.1 rl3.2.2.2) rl3.2.2.1))
      else
       if (p1.Op == 19) then
        (cut? x7 p1.N (w64 (p1.N + p1.W))).bind fun x25=>
        some (x25,(D.l04Net.mk (D.Circuit.mk rl3.2.1 rl3.2.2.2) rl3.2.2.1))
       else
        if (p1.Op == 20) then
         (app? ([]:List Int) x7).bind fun x26=>
         (ZX n (w64 (p1.W - (len x7))) (-1)).bind fun x27=>
         (app? x26 x27).bind fun x28=>
         some (x28,(D.l04Net.mk (D.Circuit.mk rl3.2.1 rl3.2.2.2) rl3.2.2.1))
        else
         if (p1.Op == 21) then
          (app? ([]:List Int) x7).bind fun x29=>
          (get? x7 (w64 ((len x7) - 1))).bind fun x30=>
          (ZX n (w64 (p1.W - (len x7))) x30).bind fun x31=>
          (app? x29 x31).bind fun x32=>
          some (x32,(D.l04Net.mk (D.Circuit.mk rl3.2.1 rl3.2.2.2) rl3.2.2.1))
         else
          (get? rl3.1 0).bind fun x33=>
          if ((len x33) == 16) then
           (ZX n p1.W (-1)).bind fun x34=>
           some (x34,(D.l04Net.mk (D.Circuit.mk rl3.2.1 rl3.2.2.2) true))
          else
           (get? rl3.1 0).bind fun x35=>
           (get? rl3.1 1).bind fun x36=>
           (ZT n (D.l04Net.mk (D.Circuit.mk rl3.2.1 rl3.2.2.2) rl3.2.2.1) (cond (p1.Op == 2) 4 p1.Op) x35 x36).bind fun x37=>
           some (x37.1,x37.2)
def XD (n:Nat) (p0:D.Term):Option (D.Circuit × (List Int) × Bool):=
 (Yq n p0).bind fun x1=>
 (YP n p0).bind fun x2=>
 (if (!x2) then some default else (XR n x1)).bind fun x3=>
 if ((!x2) || (decide (x3 > 30))) then
  some ((D.Circuit.mk 0 ([]:List D.Gate)),([]:List Int),false)
 else
  (XR n x1).bind fun x4=>
  (ZaI (D.Circuit.mk x4 ([]:List D.Gate))).bind fun x5=>
  (ZO n x5 p0 x1).bind fun x6=>
  if x6.2.full then
   some ((D.Circuit.mk 0 ([]:List D.Gate)),([]:List Int),false)
  else
   (app? ([]:List Int) x6.1).bind fun x7=>
   some (x6.2.c,x7,true)
def XC (n:Nat) (p0:D.Circuit):Option Bool:=
 (Zg p0.Inputs 0 30).bind fun x1=>
 if ((!x1) || (decide ((len p0.Gates) > 360))) then
  some false
 else
  (iterN (fun (s1 : Int) =>
   if (decide (s1 < (len p0.Gates))) then
    (get? p0.Gates s1).bind fun x2=>
    (Zg x2.A (w64 (0 - (w64 ((w64 (p0.Inputs + 1)) + s1)))) (w64 ((w64 (p0.Inputs + 1)) + s1))).bind fun x3=>
    (if (!x3) then some default else (Zg x2.B (w64 (0 - (w64 ((w64 (p0.Inputs + 1)) + s1)))) (w64 ((w64 (p0.Inputs + 1)) + s1)))).bind fun x4=>
    (if ((!x3) || (!x4)) then some default else (Zo x2.A)).bind fun x5=>
    (if (((!x3) || (!x4)) || (decide (x5 < 2))) then some default else (Zo x2.A)).bind fun x6=>
    (if (((!x3) || (!x4)) || (decide (x5 < 2))) then some default else (Zo x2.B)).bind fun x7=>
    if ((((!x3) || (!x4)) || (decide (x5 < 2))) || (decide (x6 ≥ x7))) then
     some (.inr (.inr false))
    else
     (cut? p0.Gates 0 s1).bind fun x8 =>
     (iterN (fun (s2 : Int) =>
      if (decide (s2 < (len x8))) then
       (get? x8 s2).bind fun x9=>
       if (decide (x2 = x9)) then
        some (.inr (.inr false))
       else
        some (.inl ((w64 (s2 + 1))))
      else
       some (.inr (.inl ()))
     ) n (0)).bind fun (rl2:(Unit) ⊕ Bool)=>
     match rl2 with
     | .inl s2r=>
      some (.inl ((w64 (s1 + 1))))
     | .inr v=>some (.inr (.inr v))
   else
    some (.inr (.inl ()))
  ) n (0)).bind fun (rl1:(Unit) ⊕ Bool)=>
  match rl1 with
  | .inl s1r=>
   some true
  | .inr v=>some v
def YN (n:Nat) (p0:List Int) (p1:Int):Option Bool :=
 (iterN (fun (s1 : Int) =>
  if (decide (s1 < (len p0))) then
   (get? p0 s1).bind fun x1=>
   (if (x1 == 0) then some default else (Zg x1 (w64 (0 - p1)) p1)).bind fun x2=>
   if ((x1 == 0) || (!x2)) then
    some (.inr (.inr false))
   else
    some (.inl ((w64 (s1 + 1))))
  else
   some (.inr (.inl ()))
 ) n (0)).bind fun (rl1:(Unit) ⊕ Bool)=>
 match rl1 with
 | .inl s1r=>
  some true
 | .inr v=>some v
def Zan (n:Nat) (p0:D.Circuit) (p1:List Int):Option Bool:=
 (YN n p1 (w64 ((w64 (p0.Inputs + 1)) + (len p0.Gates)))).bind fun x1=>
 some x1
def ZP (n:Nat) (p0:List Int):Option ((List Int) × Bool) :=
 (iterN (fun (s1 : Int × (List Int)) =>
  if (decide (s1.1 < (len p0))) then
   (get? p0 s1.1).bind fun x1=>
   (if (x1 == 0) then some default else (Zg x1 (-400) 400)).bind fun x2=>
   if ((x1 == 0) || (!x2)) then
    some (.inr (.inr (([]:List Int),false)))
   else
    (iterN (fun (s2 : Int) =>
     (if (decide (s2 < (len s1.2))) then (get? s1.2 s2) else some default).bind fun x3=>
     (if (decide (s2 < (len s1.2))) then (Zo x3) else some default).bind fun x4=>
     (if (decide (s2 < (len s1.2))) then (Zo x1) else some default).bind fun x5=>
     if ((decide (s2 < (len s1.2))) && (decide (x4 < x5))) then
      some (.inl ((w64 (s2 + 1))))
     else
      some (.inr (s2))
    ) n (0)).bind fun (rl2:Int)=>
    (if (decide (rl2 < (len s1.2))) then (get? s1.2 rl2) else some default).bind fun x6=>
    if ((decide (rl2 < (len s1.2))) && (x6 == x1)) then
     some (.inl ((w64 (s1.1 + 1)),s1.2))
    else
     (if (decide (rl2 < (len s1.2))) then (get? s1.2 rl2) else some default).bind fun x7=>
     if ((decide (rl2 < (len s1.2))) && (x7 == (w64 (0 - x1)))) then
      some (.inr (.inr (([]:List Int),false)))
     else
      (cut? s1.2 0 rl2).bind fun x8=>
      (app? ([]:List Int) x8).bind fun x9=>
      (app? x9 ([x1]:List Int)).bind fun x10=>
      (cut? s1.2 rl2 (len s1.2)).bind fun x11=>
      (app? x10 x11).bind fun x12=>
      some (.inl ((w64 (s1.1 + 1)),x12))
  else
   some (.inr (.inl (s1.2)))
 ) n (0,([]:List Int))).bind fun (rl1:((List Int)) ⊕ ((List Int) × Bool))=>
 match rl1 with
 | .inl s1r=>
  some (s1r,true)
 | .inr v=>some v
def XK (n:Nat) (p0:D.Circuit) (p1:Int):Option (D.Formula × Bool):=
 (XC n p0).bind fun x1=>
 if (!x1) then
  if true then
   some ((D.Formula.mk 0 ([]:List (List Int))),false)
  else
   (iterN (fun (s1 : Int × (List (List Int))) =>
    if (decide (s1.1 < (len p0.Gates))) then
     (get? p0.Gates s1.1).bind fun x2 =>
     (iterN (fun (s2 : Int × (List (List Int))) =>
      if (decide (s2.1 < (len ([([(w64 (0 - (w64 ((w64 (p0.Inputs + 2)) + s1.1)))),x2.A]:List Int),([(w64 (0 - (w64 ((w64 (p0.Inputs + 2)) + s1.1)))),x2.B]:List Int),([(w64 ((w64 (p0.Inputs + 2)) + s1.1)),(w64 (0 - x2.A)),(w64 (0 - x2.B))]:List Int)]:List (List Int))))) then
       (get? ([([(w64 (0 - (w64 ((w64 (p0.Inputs + 2)) + s1.1)))),x2.A]:List Int),([(w64 (0 - (w64 ((w64 (p0.Inputs + 2)) + s1.1)))),x2.B]:List Int),([(w64 ((w64 (p0.Inputs + 2)) + s1.1)),(w64 (0 - x2.A)),(w64 (0 - x2.B))]:List Int)]:List (List Int)) s2.1).bind fun x3=>
       (ZP n x3).bind fun x4=>
       (app? s2.2 ([x4.1]:List (List Int))).bind fun x5=>
       some (.inl ((w64 (s2.1 + 1)),x5))
      else
       some (.inr (s2.2))
     ) n (0,s1.2)).bind fun (rl2:(List (List Int)))=>
     some (.inl ((w64 (s1.1 + 1)),rl2))
    else
     some (.inr (s1.2))
   ) n (0,([([1]:List Int)]:List (List Int)))).bind fun (rl1:(List (List Int)))=>
   (app? rl1 ([([p1]:List Int)]:List (List Int))).bind fun x6=>
   some ((D.Formula.mk (w64 ((w64 (p0.Inputs + 1)) + (len p0.Gates))) x6),true)
 else
  (Zan n p0 ([p1]:List Int)).bind fun x7=>
  if (!x7) then
   some ((D.Formula.mk 0 ([]:List (List Int))),false)
  else
   (iterN (fun (s3 : Int × (List (List Int))) =>
    if (decide (s3.1 < (len p0.Gates))) then
     (get? p0.Gates s3.1).bind fun x8 =>
     (iterN (fun (s4 : Int × (List (List Int))) =>
      if (decide (s4.1 < (len ([([(w64 (0 - (w64 ((w64 (p0.Inputs + 2)) + s3.1)))),x8.A]:List Int),([(w64 (0 - (w64 ((w64 (p0.Inputs + 2)) + s3.1)))),x8.B]:List Int),([(w64 ((w64 (p0.Inputs + 2)) + s3.1)),(w64 (0 - x8.A)),(w64 (0 - x8.B))]:List Int)]:List (List Int))))) then
       (get? ([([(w64 (0 - (w64 ((w64 (p0.Inputs + 2)) + s3.1)))),x8.A]:List Int),([(w64 (0 - (w64 ((w64 (p0.Inputs + 2)) + s3.1)))),x8.B]:List Int),([(w64 ((w64 (p0.Inputs + 2)) + s3.1)),(w64 (0 - x8.A)),(w64 (0 - x8.B))]:List Int)]:List (List Int)) s4.1).bind fun x9=>
       (ZP n x9).bind fun x10=>
       (app? s4.2 ([x10.1]:List (List Int))).bind fun x11=>
       some (.inl ((w64 (s4.1 + 1)),x11))
      else
       some (.inr (s4.2))
     ) n (0,s3.2)).bind fun (rl4:(List (List Int)))=>
     some (.inl ((w64 (s3.1 + 1)),rl4))
    else
     some (.inr (s3.2))
   ) n (0,([([1]:List Int)]:List (List Int)))).bind fun (rl3:(List (List Int)))=>
   (app? rl3 ([([p1]:List Int)]:List (List Int))).bind fun x12=>
   some ((D.Formula.mk (w64 ((w64 (p0.Inputs + 1)) + (len p0.Gates))) x12),true)
def XE (n:Nat) (p0:List Int) (p1:Int):Option Bool :=
 (iterN (fun (s1 : Int × Int) =>
  if (decide (s1.2 < (len p0))) then
   (get? p0 s1.2).bind fun x1=>
   (Zg x1 (w64 (0 - p1)) p1).bind fun x2=>
   (if (!x2) then some default else (Zo x1)).bind fun x3=>
   if ((!x2) || (decide (x3 ≤ s1.1))) then
    some (.inr (.inr false))
   else
    (Zo x1).bind fun x4=>
    some (.inl (x4,(w64 (s1.2 + 1))))
  else
   some (.inr (.inl ()))
 ) n (0,0)).bind fun (rl1:(Unit) ⊕ Bool)=>
 match rl1 with
 | .inl s1r=>
  some true
 | .inr v=>some v
def YY (n:Nat) (p0:D.Formula):Option Bool:=
 (Zg p0.Vars 0 400).bind fun x1=>
 if ((!x1) || (decide ((len p0.Clauses) > 1600))) then
  some false
 else
  (iterN (fun (s1 : Int) =>
   if (decide (s1 < (len p0.Clauses))) then
    (get? p0.Clauses s1).bind fun x2=>
    (XE n x2 p0.Vars).bind fun x3=>
    if (!x3) then
     some (.inr (.inr false))
    else
     some (.inl ((w64 (s1 + 1))))
   else
    some (.inr (.inl ()))
  ) n (0)).bind fun (rl1:(Unit) ⊕ Bool)=>
  match rl1 with
  | .inl s1r=>
   some true
  | .inr v=>some v
def ZaH (n:Nat) (p0:Int) (p1:List Int):Option ((List Int) × Bool):=
 (mk? (w64 (p0 + 1)) (0:Int)).bind fun x1 =>
 (iterN (fun (s1 : Int × (List Int)) =>
  if (decide (s1.1 < (len p1))) then
   (get? p1 s1.1).bind fun x2=>
   (Zo x2).bind fun x3=>
   (quo? x2 x3).bind fun x4=>
   (Zo x2).bind fun x5=>
   (get? s1.2 x5).bind fun x6=>
   if (x6 == (w64 (0 - x4))) then
    some (.inr (.inr (([]:List Int),false)))
   else
    (Zo x2).bind fun x7=>
    (set? s1.2 x7 x4).bind fun x8=>
    some (.inl ((w64 (s1.1 + 1)),x8))
  else
   some (.inr (.inl (s1.2)))
 ) n (0,x1)).bind fun (rl1:((List Int)) ⊕ ((List Int) × Bool))=>
 match rl1 with
 | .inl s1r=>
  some (s1r,true)
 | .inr v=>some v
def YV (n:Nat) (p0:D.Formula) (p1:List Int):Option (Bool × (List Int)) :=
 (iterN (fun (s1 : Bool × (List Int)) =>
  if s1.1 then
   (iterN (fun (s2 : Bool × Int × (List Int)) =>
    if (decide (s2.2.1 < (len p0.Clauses))) then
     (get? p0.Clauses s2.2.1).bind fun x1 =>
     (iterN (fun (s3 : Int × Int × Bool × Int) =>
      if (decide (s3.2.2.2 < (len x1))) then
       (get? x1 s3.2.2.2).bind fun x2=>
       (Zo x2).bind fun x3=>
       (get? s2.2.2 x3).bind fun x4=>
       if ((cond (decide (x2 < 0)) (w64 (0 - x4)) x4) == 0) then
        some (.inl ((w64 (s3.1 + 1)),x2,(s3.2.2.1 || (decide ((cond (decide (x2 < 0)) (w64 (0 - x4)) x4) > 0))),(w64 (s3.2.2.2 + 1))))
       else
        some (.inl (s3.1,s3.2.1,(s3.2.2.1 || (decide ((cond (decide (x2 < 0)) (w64 (0 - x4)) x4) > 0))),(w64 (s3.2.2.2 + 1))))
      else
       some (.inr (s3.1,s3.2.1,s3.2.2.1))
     ) n (0,0,false,0)).bind fun (rl3:Int × Int × Bool)=>
     if (rl3.2.2 || (decide (rl3.1 > 1))) then
      some (.inl (s2.1,(w64 (s2.2.1 + 1)),s2.2.2))
     else
      if (rl3.1 == 0) then
       some (.inr (.inr (false,s2.2.2)))
      else
       (Zo rl3.2.1).bind fun x5=>
       (Zo rl3.2.1).bind fun x6=>
       (quo? rl3.2.1 x6).bind fun x7=>
       (set? s2.2.2 x5 x7).bind fun x8=>
       some (.inl (true,(w64 (s2.2.1 + 1)),x8))
    else
     some (.inr (.inl (s2.1,s2.2.2)))
   ) n (false,0,s1.2)).bind fun (rl2:(Bool × (List Int)) ⊕ (Bool × (List Int)))=>
   match rl2 with
   | .inl s2r=>
    some (.inl (s2r.1,s2r.2))
   | .inr v=>some (.inr (.inr v))
  else
   some (.inr (.inl (s1.2)))
 ) n (true,p1)).bind fun (rl1:((List Int)) ⊕ (Bool × (List Int)))=>
 match rl1 with
 | .inl s1r=>
  some (true,s1r)
 | .inr v=>some v
def Zx (n:Nat) (p0:D.l03Work) (p1:List Int):Option ((List Int) × D.Prf × Bool × D.l03Work):=
 match n with
 | 0=>none
 | n + 1=>
 (YV n p0.f p1).bind fun x1=>
 if (!x1.1) then
  some (([]:List Int),D.Prf.mk,false,p0)
 else
  (iterN (fun (s1 : Int) =>
   (if (decide (s1 < (len p1))) then (get? x1.2 s1) else some default).bind fun x2=>
   if ((decide (s1 < (len p1))) && (x2 != 0)) then
    some (.inl ((w64 (s1 + 1))))
   else
    some (.inr (s1))
  ) n (1)).bind fun (rl1:Int)=>
  if (rl1 == (len p1)) then
   some (x1.2,D.Prf.mk,true,p0)
  else
   if (p0.made == p0.limit) then
    some (([]:List Int),D.Prf.mk,false,(D.l03Work.mk p0.f p0.limit p0.made true))
   else
    (iterN (fun (s2 : Int × Int × Int × Bool × (List D.Prf)) =>
     if (decide (s2.1 < (len ([(-1),1]:List Int)))) then
      (get? ([(-1),1]:List Int) s2.1).bind fun x3=>
      (app? ([]:List Int) x1.2).bind fun x4=>
      (set? x4 rl1 x3).bind fun x5=>
      (Zx n (D.l03Work.mk p0.f s2.2.1 s2.2.2.1 s2.2.2.2.1) x5).bind fun x6=>
      if (x6.2.2.1 || x6.2.2.2.opn) then
       some (.inr (.inr (x6.1,D.Prf.mk,x6.2.2.1,(D.l03Work.mk p0.f x6.2.2.2.limit x6.2.2.2.made x6.2.2.2.opn))))
      else
       (app? s2.2.2.2.2 [D.Prf.mk]).bind fun x7=>
       some (.inl ((w64 (s2.1 + 1)),x6.2.2.2.limit,x6.2.2.2.made,x6.2.2.2.opn,x7))
     else
      some (.inr (.inl (s2.2.1,s2.2.2.1,s2.2.2.2.1,s2.2.2.2.2)))
    ) n (0,p0.limit,(w64 (p0.made + 1)),p0.opn,([]:List D.Prf))).bind fun (rl2:(Int × Int × Bool × (List D.Prf)) ⊕ ((List Int) × D.Prf × Bool × D.l03Work))=>
    match rl2 with
    | .inl s2r=>
     some (([]:List Int),D.Prf.mk,false,(D.l03Work.mk p0.f s2r.1 s2r.2.1 s2r.2.2.1))
    | .inr v=>some v
def ZaF (n:Nat) (p0:D.Formula) (p1:List Int) (p2:Int):Option (Int × (List Bool) × Int):=
 (YY n p0).bind fun x1=>
 (if (!x1) then some default else (YN n p1 p0.Vars)).bind fun x2=>
 (if ((!x1) || (!x2)) then some default else (Zg p2 0 3000)).bind fun x3=>
 if (((!x1) || (!x2)) || (!x3)) then
  some (0,([]:List Bool),0)
 else
  (ZaH n p0.Vars p1).bind fun x4=>
  if (!x4.2) then
   some (2,([]:List Bool),0)
  else
   (Zx n (D.l03Work.mk p0 p2 0 false) x4.1).bind fun x5=>
   if (!x5.2.2.1) then
    if x5.2.2.2.opn then
     some (3,([]:List Bool),x5.2.2.2.made)
    else
     some (2,([]:List Bool),x5.2.2.2.made)
   else
    (cut? x5.1 1 (len x5.1)).bind fun x6 =>
    (iterN (fun (s1 : Int × (List Bool)) =>
     if (decide (s1.1 < (len x6))) then
      (get? x6 s1.1).bind fun x7=>
      (app? s1.2 ([(decide (x7 > 0))]:List Bool)).bind fun x8=>
      some (.inl ((w64 (s1.1 + 1)),x8))
     else
      some (.inr (s1.2))
    ) n (0,([]:List Bool))).bind fun (rl1:(List Bool))=>
    some (1,rl1,x5.2.2.2.made)
def Xk (p0:Bool):Option Int:=
 if p0 then
  some 1
 else
  some 0
def XF (n:Nat) (p0:List D.Value) (p1:List Bool):Option (List D.Value) :=
 (iterN (fun (s1 : Int × Int × (List D.Value)) =>
  if (decide (s1.2.1 < (len p0))) then
   (get? p0 s1.2.1).bind fun x1 =>
   (iterN (fun (s2 : Int × Int × Int) =>
    if (decide (s2.2.2 < x1.W)) then
     (get? p1 s2.1).bind fun x2=>
     (Xk x2).bind fun x3=>
     some (.inl ((w64 (s2.1 + 1)),(w64 ((w64 (2 * s2.2.1)) + x3)),(w64 (s2.2.2 + 1))))
    else
     some (.inr (s2.1,s2.2.1))
   ) n (s1.1,0,0)).bind fun (rl2:Int × Int)=>
   (app? s1.2.2 ([(D.Value.mk x1.Name x1.W rl2.2)]:List D.Value)).bind fun x4=>
   some (.inl (rl2.1,(w64 (s1.2.1 + 1)),x4))
  else
   some (.inr (s1.2.2))
 ) n (1,0,([]:List D.Value))).bind fun (rl1:(List D.Value))=>
 some rl1
def Xp (n:Nat) (p0:D.Term) (p1:Int):Option (Int × (List D.Value)):=
 (YP n p0).bind fun x1=>
 (if ((!x1) || (p0.W != 1)) then some default else (Zg p1 0 3000)).bind fun x2=>
 if (((!x1) || (p0.W != 1)) || (!x2)) then
  some (0,([]:List D.Value))
 else
  (XD n p0).bind fun x3=>
  if (!x3.2.2) then
   some (3,([]:List D.Value))
  else
   (get? x3.2.1 0).bind fun x4=>
   (XK n x3.1 x4).bind fun x5=>
   (ZaF n x5.1 ([]:List Int) p1).bind fun x6=>
   if (x6.1 != 1) then
    some (x6.1,([]:List D.Value))
   else
    (Yq n p0).bind fun x7=>
    (XF n x7 x6.2.1).bind fun x8=>
    some (x6.1,x8)
def XI (n:Nat) (p0:D.Term) (p1:Int):Option (Int × (List D.Value)):=
 (YP n p0).bind fun x1=>
 (if ((!x1) || (p0.W != 1)) then some default else (Zg p1 0 3000)).bind fun x2=>
 if (((!x1) || (p0.W != 1)) || (!x2)) then
  some (0,([]:List D.Value))
 else
  (YP n (D.Term.mk 1 1 0 ⟨[]⟩ ([p0]:List D.Term))).bind fun x3=>
  if (!x3) then
   some (0,([]:List D.Value))
  else
   (Xp n (D.Term.mk 1 1 0 ⟨[]⟩ ([p0]:List D.Term)) p1).bind fun x4=>
   if (x4.1 == 1) then
    some (2,x4.2)
   else
    if (x4.1 == 2) then
     some (1,([]:List D.Value))
    else
     some (x4.1,([]:List D.Value))
def YB (p0:Int):Option Bool:=
 some ((decide (p0 ≥ 1)) && (decide (p0 ≤ 16)))
def YC (p0:Int):Option Int:=
 if ((p0 == 0) || (p0 == 22)) then
  some 0
 else
  if (((((p0 == 1) || (p0 == 2)) || (p0 == 19)) || (p0 == 20)) || (p0 == 21)) then
   some 1
  else
   if (((decide (p0 ≥ 3)) && (decide (p0 ≤ 16))) || (p0 == 18)) then
    some 2
   else
    if (p0 == 17) then
     some 3
    else
     some (-1)
def XL (p0:D.Term):Option Bool:=
 if ((p0.Op == 0) || (p0.Op == 22)) then
  some true
 else
  if ((p0.Op == 1) || (p0.Op == 2)) then
   (get? p0.Kids 0).bind fun x1=>
   some (x1.W == p0.W)
  else
   if ((decide (p0.Op ≥ 3)) && (decide (p0.Op ≤ 13))) then
    (get? p0.Kids 0).bind fun x2=>
    (if (x2.W == p0.W) then (get? p0.Kids 1) else some default).bind fun x3=>
    some ((x2.W == p0.W) && (x3.W == p0.W))
   else
    if ((decide (p0.Op ≥ 14)) && (decide (p0.Op ≤ 16))) then
     (get? p0.Kids 0).bind fun x4=>
     (get? p0.Kids 1).bind fun x5=>
     some ((x4.W == x5.W) && (p0.W == 1))
    else
     if (p0.Op == 17) then
      (get? p0.Kids 0).bind fun x6=>
      (if (x6.W == 1) then (get? p0.Kids 1) else some default).bind fun x7=>
      (if ((x6.W == 1) && (x7.W == p0.W)) then (get? p0.Kids 2) else some default).bind fun x8=>
      some (((x6.W == 1) && (x7.W == p0.W)) && (x8.W == p0.W))
     else
      if (p0.Op == 18) then
       (get? p0.Kids 0).bind fun x9=>
       (get? p0.Kids 1).bind fun x10=>
       some ((w64 (x9.W + x10.W)) == p0.W)
      else
       if (p0.Op == 19) then
        (if (decide (p0.N ≥ 0)) then (get? p0.Kids 0) else some default).bind fun x11=>
        some ((decide (p0.N ≥ 0)) && (decide (p0.N ≤ (w64 (x11.W - p0.W)))))
       else
        (get? p0.Kids 0).bind fun x12=>
        some (decide (x12.W ≤ p0.W))
def Zak (p0:Int) (p1:Int):Option Bool:=
 (YB p0).bind fun x1=>
 (if (x1 && (decide (p1 ≥ 0))) then (shl? 1 (IntKind.u64.wrap p0)) else some default).bind fun x2=>
 some ((x1 && (decide (p1 ≥ 0))) && (decide (p1 < x2)))
def ZaL (n:Nat) (p0:Str):Option Bool:=
 if ((decide ((len p0.bytes) < 1)) || (decide ((len p0.bytes) > 8))) then
  some false
 else
  (iterN (fun (s1 : Int) =>
   if (decide (s1 < (len p0.bytes))) then
    (sidx? p0 s1).bind fun x1=>
    (if (decide (x1 ≥ 97)) then (sidx? p0 s1) else some default).bind fun x2=>
    (sidx? p0 s1).bind fun x3=>
    (if (decide (x3 ≥ 48)) then (sidx? p0 s1) else some default).bind fun x4=>
    if ((!((decide (x1 ≥ 97)) && (decide (x2 ≤ 122)))) && (!(((decide (x3 ≥ 48)) && (decide (x4 ≤ 57))) && (decide (s1 > 0))))) then
     some (.inr (.inr false))
    else
     some (.inl ((w64 (s1 + 1))))
   else
    some (.inr (.inl ()))
  ) n (0)).bind fun (rl1:(Unit) ⊕ Bool)=>
  match rl1 with
  | .inl s1r=>
   some true
  | .inr v=>some v
def Yr (n:Nat) (p0:D.termCheck) (p1:D.Term):Option (Bool × D.termCheck):=
 (ZaL n p1.Name).bind fun x1=>
 if (!x1) then
  some (false,p0)
 else
  if (Option.isNone p0.widths) then
   (mget2? fitS (0:Int) ([]) p1.Name).bind fun x2=>
   if x2.2 then
    some ((x2.1 == p1.W),(D.termCheck.mk p0.count (some ([]))))
   else
    (mputE? fitS fitZ ([]) p1.Name p1.W).bind fun x3=>
    some (true,(D.termCheck.mk p0.count (some x3)))
  else
   (mget2? fitS (0:Int) (Option.getD p0.widths []) p1.Name).bind fun x4=>
   if x4.2 then
    some ((x4.1 == p1.W),(D.termCheck.mk p0.count (some (Option.getD p0.widths []))))
   else
    (mputE? fitS fitZ (Option.getD p0.widths []) p1.Name p1.W).bind fun x5=>
    some (true,(D.termCheck.mk p0.count (some x5)))
def Z7 (n:Nat) (p0:D.termCheck) (p1:D.Term):Option (Bool × D.termCheck):=
 match n with
 | 0=>none
 | n + 1=>
 (if (decide ((w64 (p0.count + 1)) > 240)) then some default else (YB p1.W)).bind fun x1=>
 (if ((decide ((w64 (p0.count + 1)) > 240)) || (!x1)) then some default else (YC p1.Op)).bind fun x2=>
 if (((decide ((w64 (p0.count + 1)) > 240)) || (!x1)) || ((len p1.Kids) != x2)) then
  some (false,(D.termCheck.mk (w64 (p0.count + 1)) p0.widths))
 else
  (iterN (fun (s1 : Int) =>
   if (decide (s1 < (len p1.Kids))) then
    (get? p1.Kids s1).bind fun x3=>
    (YB x3.W).bind fun x4=>
    if (!x4) then
     some (.inr (.inr (false,(D.termCheck.mk (w64 (p0.count + 1)) p0.widths))))
    else
     some (.inl ((w64 (s1 + 1))))
   else
    some (.inr (.inl ()))
  ) n (0)).bind fun (rl1:(Unit) ⊕ (Bool × D.termCheck))=>
  match rl1 with
  | .inl s1r=>
   (XL p1).bind fun x5=>
   if (!x5) then
    some (false,(D.termCheck.mk (w64 (p0.count + 1)) p0.widths))
   else
    (if (p1.Op == 0) then (Zak p1.W p1.N) else some default).bind fun x6=>
    if ((p1.Op == 0) && (!x6)) then
     some (false,(D.termCheck.mk (w64 (p0.count + 1)) p0.widths))
    else
     if (((p1.Op != 0) && (p1.Op != 19)) && (p1.N != 0)) then
      some (false,(D.termCheck.mk (w64 (p0.count + 1)) p0.widths))
     else
      if (p1.Op != 22) then
       if (!(Str.eqb p1.Name ⟨[]⟩)) then
        some (false,(D.termCheck.mk (w64 (p0.count + 1)) p0.widths))
       else
        (iterN (fun (s2 : Int × Int × (Option (List (Str × Int)))) =>
         if (decide (s2.1 < (len p1.Kids))) then
          (get? p1.Kids s2.1).bind fun x7=>
          (Z7 n (D.termCheck.mk s2.2.1 s2.2.2) x7).bind fun x8=>
          if (!x8.1) then
           some (.inr (.inr (false,x8.2)))
          else
           some (.inl ((w64 (s2.1 + 1)),x8.2.count,x8.2.widths))
         else
          some (.inr (.inl (s2.2.1,s2.2.2)))
        ) n (0,(w64 (p0.count + 1)),p0.widths)).bind fun (rl2:(Int × (Option (List (Str × Int)))) ⊕ (Bool × D.termCheck))=>
        match rl2 with
        | .inl s2r=>
         some (true,(D.termCheck.mk s2r.1 s2r.2))
        | .inr v=>some v
      else
       (Yr n (D.termCheck.mk (w64 (p0.count + 1)) p0.widths) p1).bind fun x9=>
       if (!x9.1) then
        some (false,x9.2)
       else
        (iterN (fun (s3 : Int × Int × (Option (List (Str × Int)))) =>
         if (decide (s3.1 < (len p1.Kids))) then
          (get? p1.Kids s3.1).bind fun x10=>
          (Z7 n (D.termCheck.mk s3.2.1 s3.2.2) x10).bind fun x11=>
          if (!x11.1) then
           some (.inr (.inr (false,x11.2)))
          else
           some (.inl ((w64 (s3.1 + 1)),x11.2.count,x11.2.widths))
         else
          some (.inr (.inl (s3.2.1,s3.2.2)))
        ) n (0,x9.2.count,x9.2.widths)).bind fun (rl3:(Int × (Option (List (Str × Int)))) ⊕ (Bool × D.termCheck))=>
        match rl3 with
        | .inl s3r=>
         some (true,(D.termCheck.mk s3r.1 s3r.2))
        | .inr v=>some v
  | .inr v=>some v
def Xt (n:Nat) (p0:D.Term):Option Bool:=
 (Z7 n (D.termCheck.mk 0 none) p0).bind fun x1=>
 some x1.1
def YO (p0:Int):Option Bool:=
 some ((decide (p0 ≥ 0)) && (decide (p0 ≤ 3000)))
def X5 (p0:Int):Option Bool:=
 some ((decide (p0 ≥ 3)) && (decide (p0 ≤ 16)))
def Xg (n:Nat) (p0:D.Term):Option Bool:=
 match n with
 | 0=>none
 | n + 1=>
 (if (p0.Op == 2) then some default else (X5 p0.Op)).bind fun x1=>
 (if ((p0.Op == 2) || x1) then (get? p0.Kids 0) else some default).bind fun x2=>
 if (((p0.Op == 2) || x1) && (x2.W == 16)) then
  some true
 else
  (iterN (fun (s1 : Int) =>
   if (decide (s1 < (len p0.Kids))) then
    (get? p0.Kids s1).bind fun x3=>
    (Xg n x3).bind fun x4=>
    if x4 then
     some (.inr (.inr true))
    else
     some (.inl ((w64 (s1 + 1))))
   else
    some (.inr (.inl ()))
  ) n (0)).bind fun (rl1:(Unit) ⊕ Bool)=>
  match rl1 with
  | .inl s1r=>
   some false
  | .inr v=>some v
def Yh (n:Nat) (p0:D.Term) (p1:Option (List (Str × Int))):Option (Option (List (Str × Int))):=
 match n with
 | 0=>none
 | n + 1=>
 if (p0.Op == 22) then
  p1.bind fun x1=>
  (mputE? fitS fitZ x1 p0.Name p0.W).bind fun x2 =>
  (iterN (fun (s1 : Int × (Option (List (Str × Int)))) =>
   if (decide (s1.1 < (len p0.Kids))) then
    (get? p0.Kids s1.1).bind fun x3=>
    (Yh n x3 s1.2).bind fun x4=>
    some (.inl ((w64 (s1.1 + 1)),x4))
   else
    some (.inr (s1.2))
  ) n (0,(some x2))).bind fun (rl1:(Option (List (Str × Int))))=>
  some rl1
 else
  (iterN (fun (s2 : Int × (Option (List (Str × Int)))) =>
   if (decide (s2.1 < (len p0.Kids))) then
    (get? p0.Kids s2.1).bind fun x5=>
    (Yh n x5 s2.2).bind fun x6=>
    some (.inl ((w64 (s2.1 + 1)),x6))
   else
    some (.inr (s2.2))
  ) n (0,p1)).bind fun (rl2:(Option (List (Str × Int))))=>
  some rl2
def Xv (n:Nat) (p0:D.Term):Option (List D.Value):=
 (Xt n p0).bind fun x1=>
 if (!x1) then
  some ([]:List D.Value)
 else
  (Yh n p0 (some [])).bind fun x2=>
  x2.bind fun x3=>
  if x3.length ≤ 1048576 then some (vtab x3) else none
def ZE (p0:List D.Gate):Option (List D.Gate):=
 (app? ([]:List D.Gate) p0).bind fun x1=>
 some x1
def X4 (n:Nat) (p0:D.Circuit):Option D.builder:=
 (ZE p0.Gates).bind fun x1 =>
 (iterN (fun (s1 : Int × (List (D.Gate × Int))) =>
  if (decide (s1.1 < (len p0.Gates))) then
   (get? p0.Gates s1.1).bind fun x2=>
   (mputE? ZB fitZ s1.2 x2 (w64 ((w64 (2 + p0.Inputs)) + s1.1))).bind fun x3=>
   some (.inl ((w64 (s1.1 + 1)),x3))
  else
   some (.inr (s1.2))
 ) n (0,[])).bind fun (rl1:(List (D.Gate × Int)))=>
 some (D.builder.mk (D.Circuit.mk p0.Inputs x1) rl1 false)
def Yl (n:Nat) (p0:Int) (p1:Int):Option (List Int):=
 (mk? p0 (0:Int)).bind fun x1 =>
 (iterN (fun (s1 : Int × (List Int)) =>
  if (decide (s1.1 < (len x1))) then
   (set? s1.2 s1.1 (-1)).bind fun x2=>
   (shr? p1 (IntKind.u64.wrap s1.1)).bind fun x3=>
   if ((band x3 1) == 1) then
    (set? x2 s1.1 1).bind fun x4=>
    some (.inl ((w64 (s1.1 + 1)),x4))
   else
    some (.inl ((w64 (s1.1 + 1)),x2))
  else
   some (.inr (s1.2))
 ) n (0,x1)).bind fun (rl1:(List Int))=>
 some rl1
def Ze (p0:List Int):Option (List Int):=
 (app? ([]:List Int) p0).bind fun x1=>
 some x1
def Yy (n:Nat) (p0:List Int):Option (List Int):=
 (mk? (len p0) (0:Int)).bind fun x1 =>
 (iterN (fun (s1 : Int × (List Int)) =>
  if (decide (s1.1 < (len p0))) then
   (get? p0 s1.1).bind fun x2=>
   (set? s1.2 s1.1 (w64 (0 - x2))).bind fun x3=>
   some (.inl ((w64 (s1.1 + 1)),x3))
  else
   some (.inr (s1.2))
 ) n (0,x1)).bind fun (rl1:(List Int))=>
 some rl1
def Yi (p0:Int):Option Int:=
 if (decide (p0 < 0)) then
  some (w64 (0 - p0))
 else
  some p0
def Yg (p0:D.Circuit):Option Int:=
 some (w64 ((w64 (1 + p0.Inputs)) + (len p0.Gates)))
def Zm (p0:D.builder) (p1:Int) (p2:Int):Option (Int × D.builder):=
 if (((p1 == (-1)) || (p2 == (-1))) || (p1 == (w64 (0 - p2)))) then
  some ((-1),p0)
 else
  if (p1 == 1) then
   some (p2,p0)
  else
   if ((p2 == 1) || (p1 == p2)) then
    some (p1,p0)
   else
    (Yi p1).bind fun x1=>
    (Yi p2).bind fun x2=>
    if (decide (x1 > x2)) then
     (mget2? ZB (0:Int) p0.line (D.Gate.mk p2 p1)).bind fun x3=>
     if x3.2 then
      some (x3.1,p0)
     else
      if (decide ((len p0.c.Gates) ≥ 360)) then
       some ((-1),(D.builder.mk p0.c p0.line true))
      else
       (app? p0.c.Gates ([(D.Gate.mk p2 p1)]:List D.Gate)).bind fun x4=>
       (Yg (D.Circuit.mk p0.c.Inputs x4)).bind fun x5=>
       (mputE? ZB fitZ p0.line (D.Gate.mk p2 p1) x5).bind fun x6=>
       some (x5,(D.builder.mk (D.Circuit.mk p0.c.Inputs x4) x6 p0.full))
    else
     (mget2? ZB (0:Int) p0.line (D.Gate.mk p1 p2)).bind fun x7=>
     if x7.2 then
      some (x7.1,p0)
     else
      if (decide ((len p0.c.Gates) ≥ 360)) then
       some ((-1),(D.builder.mk p0.c p0.line true))
      else
       (app? p0.c.Gates ([(D.Gate.mk p1 p2)]:List D.Gate)).bind fun x8=>
       (Yg (D.Circuit.mk p0.c.Inputs x8)).bind fun x9=>
       (mputE? ZB fitZ p0.line (D.Gate.mk p1 p2) x9).bind fun x10=>
       some (x9,(D.builder.mk (D.Circuit.mk p0.c.Inputs x8) x10 p0.full))
def Z0 (p0:D.builder) (p1:Int) (p2:Int):Option (Int × D.builder):=
 (Zm p0 (w64 (0 - p1)) (w64 (0 - p2))).bind fun x1=>
 some ((w64 (0 - x1.1)),x1.2)
def Z5 (p0:D.builder) (p1:Int) (p2:Int):Option (Int × D.builder):=
 (Zm p0 p1 (w64 (0 - p2))).bind fun x1=>
 (Zm x1.2 (w64 (0 - p1)) p2).bind fun x2=>
 (Z0 x2.2 x1.1 x2.1).bind fun x3=>
 some (x3.1,x3.2)
def ZR (n:Nat) (p0:D.builder) (p1:List Int) (p2:List Int) (p3:Int):Option ((List Int) × Int × D.builder):=
 (mk? (len p1) (0:Int)).bind fun x1 =>
 (iterN (fun (s1 : Int × Int × (List Int) × Int × Bool × (List D.Gate) × (List (D.Gate × Int))) =>
  if (decide (s1.2.1 < (len p1))) then
   (get? p1 s1.2.1).bind fun x2=>
   (get? p2 s1.2.1).bind fun x3=>
   (Z5 (D.builder.mk (D.Circuit.mk s1.2.2.2.1 s1.2.2.2.2.2.1) s1.2.2.2.2.2.2 s1.2.2.2.2.1) x2 x3).bind fun x4=>
   (Z5 x4.2 x4.1 s1.1).bind fun x5=>
   (set? s1.2.2.1 s1.2.1 x5.1).bind fun x6=>
   (get? p1 s1.2.1).bind fun x7=>
   (get? p2 s1.2.1).bind fun x8=>
   (Zm x5.2 x7 x8).bind fun x9=>
   (Zm x9.2 x4.1 s1.1).bind fun x10=>
   (Z0 x10.2 x9.1 x10.1).bind fun x11=>
   some (.inl (x11.1,(w64 (s1.2.1 + 1)),x6,x11.2.c.Inputs,x11.2.full,x11.2.c.Gates,x11.2.line))
  else
   some (.inr (s1.1,s1.2.2.1,s1.2.2.2.1,s1.2.2.2.2.1,s1.2.2.2.2.2.1,s1.2.2.2.2.2.2))
 ) n (p3,0,x1,p0.c.Inputs,p0.full,p0.c.Gates,p0.line)).bind fun (rl1:Int × (List Int) × Int × Bool × (List D.Gate) × (List (D.Gate × Int)))=>
 some (rl1.2.1,rl1.1,(D.builder.mk (D.Circuit.mk rl1.2.2.1 rl1.2.2.2.2.1) rl1.2.2.2.2.2 rl1.2.2.2.1))
def Y4 (n:Nat) (p0:D.builder) (p1:List Int) (p2:List Int):Option ((List Int) × D.builder):=
 (Yl n (len p1) 0).bind fun x1 =>
 (iterN (fun (s1 : Int × (List Int) × Int × Bool × (List D.Gate) × (List (D.Gate × Int))) =>
  if (decide (s1.1 < (len p2))) then
   (mk? (w64 ((len p1) - s1.1)) (0:Int)).bind fun x2 =>
   (iterN (fun (s2 : Int × (List Int) × Int × Bool × (List D.Gate) × (List (D.Gate × Int))) =>
    if (decide (s2.1 < (len x2))) then
     (get? p2 s1.1).bind fun x3=>
     (get? p1 s2.1).bind fun x4=>
     (Zm (D.builder.mk (D.Circuit.mk s2.2.2.1 s2.2.2.2.2.1) s2.2.2.2.2.2 s2.2.2.2.1) x3 x4).bind fun x5=>
     (set? s2.2.1 s2.1 x5.1).bind fun x6=>
     some (.inl ((w64 (s2.1 + 1)),x6,x5.2.c.Inputs,x5.2.full,x5.2.c.Gates,x5.2.line))
    else
     some (.inr (s2.2.1,s2.2.2.1,s2.2.2.2.1,s2.2.2.2.2.1,s2.2.2.2.2.2))
   ) n (0,x2,s1.2.2.1,s1.2.2.2.1,s1.2.2.2.2.1,s1.2.2.2.2.2)).bind fun (rl2:(List Int) × Int × Bool × (List D.Gate) × (List (D.Gate × Int)))=>
   (cut? s1.2.1 s1.1 (len s1.2.1)).bind fun x7=>
   (ZR n (D.builder.mk (D.Circuit.mk rl2.2.1 rl2.2.2.2.1) rl2.2.2.2.2 rl2.2.2.1) x7 rl2.1 (-1)).bind fun x8=>
   (cut? s1.2.1 s1.1 (len s1.2.1)).bind fun x9=>
   some (.inl ((w64 (s1.1 + 1)),(vcopy s1.2.1 s1.1 (List.length x9) x8.1),x8.2.2.c.Inputs,x8.2.2.full,x8.2.2.c.Gates,x8.2.2.line))
  else
   some (.inr (s1.2.1,s1.2.2.1,s1.2.2.2.1,s1.2.2.2.2.1,s1.2.2.2.2.2))
 ) n (0,x1,p0.c.Inputs,p0.full,p0.c.Gates,p0.line)).bind fun (rl1:(List Int) × Int × Bool × (List D.Gate) × (List (D.Gate × Int)))=>
 some (rl1.1,(D.builder.mk (D.Circuit.mk rl1.2.1 rl1.2.2.2.1) rl1.2.2.2.2 rl1.2.2.1))
def Zc (p0:D.builder) (p1:Int) (p2:Int) (p3:Int):Option (Int × D.builder):=
 (Zm p0 p1 p2).bind fun x1=>
 (Zm x1.2 (w64 (0 - p1)) p3).bind fun x2=>
 (Z0 x2.2 x1.1 x2.1).bind fun x3=>
 some (x3.1,x3.2)
def Y0 (n:Nat) (p0:D.builder) (p1:List Int) (p2:List Int):Option ((List Int) × (List Int) × D.builder):=
 (mk? (len p1) (0:Int)).bind fun x1=>
 (Yl n (len p1) 0).bind fun x2=>
 (Yy n p2).bind fun x3=>
 (app? x3 ([1]:List Int)).bind fun x4 =>
 (iterN (fun (s1 : Int × (List Int) × (List Int) × Int × Bool × (List D.Gate) × (List (D.Gate × Int))) =>
  if (decide (s1.1 ≥ 0)) then
   (get? p1 s1.1).bind fun x5=>
   (app? ([x5]:List Int) s1.2.2.1).bind fun x6=>
   (ZR n (D.builder.mk (D.Circuit.mk s1.2.2.2.1 s1.2.2.2.2.2.1) s1.2.2.2.2.2.2 s1.2.2.2.2.1) x6 x4 1).bind fun x7=>
   (set? s1.2.1 s1.1 x7.2.1).bind fun x8 =>
   (iterN (fun (s2 : Int × (List Int) × Int × Bool × (List D.Gate) × (List (D.Gate × Int))) =>
    if (decide (s2.1 < (len x2))) then
     (get? x7.1 s2.1).bind fun x9=>
     (get? x6 s2.1).bind fun x10=>
     (Zc (D.builder.mk (D.Circuit.mk s2.2.2.1 s2.2.2.2.2.1) s2.2.2.2.2.2 s2.2.2.2.1) x7.2.1 x9 x10).bind fun x11=>
     (set? s2.2.1 s2.1 x11.1).bind fun x12=>
     some (.inl ((w64 (s2.1 + 1)),x12,x11.2.c.Inputs,x11.2.full,x11.2.c.Gates,x11.2.line))
    else
     some (.inr (s2.2.1,s2.2.2.1,s2.2.2.2.1,s2.2.2.2.2.1,s2.2.2.2.2.2))
   ) n (0,s1.2.2.1,x7.2.2.c.Inputs,x7.2.2.full,x7.2.2.c.Gates,x7.2.2.line)).bind fun (rl2:(List Int) × Int × Bool × (List D.Gate) × (List (D.Gate × Int)))=>
   some (.inl ((w64 (s1.1 - 1)),x8,rl2.1,rl2.2.1,rl2.2.2.1,rl2.2.2.2.1,rl2.2.2.2.2))
  else
   some (.inr (s1.2.1,s1.2.2.1,s1.2.2.2.1,s1.2.2.2.2.1,s1.2.2.2.2.2.1,s1.2.2.2.2.2.2))
 ) n ((w64 ((len p1) - 1)),x1,x2,p0.c.Inputs,p0.full,p0.c.Gates,p0.line)).bind fun (rl1:(List Int) × (List Int) × Int × Bool × (List D.Gate) × (List (D.Gate × Int)))=>
 some (rl1.1,rl1.2.1,(D.builder.mk (D.Circuit.mk rl1.2.2.1 rl1.2.2.2.2.1) rl1.2.2.2.2.2 rl1.2.2.2.1))
def Yo (n:Nat) (p0:D.builder) (p1:Int) (p2:List Int) (p3:List Int):Option ((List Int) × D.builder):=
 if (p1 == 13) then
  (get? p2 (w64 ((len p2) - 1))).bind fun x1=>
  (Ze p2).bind fun x2 =>
  (iterN (fun (s1 : Int × (List Int) × Int × Bool × (List D.Gate) × (List (D.Gate × Int))) =>
   (if (decide (s1.1 < (len p2))) then (shl? 1 (IntKind.u64.wrap s1.1)) else some default).bind fun x3=>
   if ((decide (s1.1 < (len p2))) && (decide (x3 < (len p2)))) then
    (Ze s1.2.1).bind fun x4 =>
    (iterN (fun (s2 : Int × (List Int) × Int × Bool × (List D.Gate) × (List (D.Gate × Int))) =>
     if (decide (s2.1 < (len s1.2.1))) then
      (shl? 1 (IntKind.u64.wrap s1.1)).bind fun x5=>
      if (p1 == 11) then
       (shl? 1 (IntKind.u64.wrap s1.1)).bind fun x6=>
       if ((decide ((w64 (s2.1 - x6)) ≥ 0)) && (decide ((w64 (s2.1 - x6)) < (len p2)))) then
        (get? x4 (w64 (s2.1 - x6))).bind fun x7=>
        (get? p3 s1.1).bind fun x8=>
        (get? x4 s2.1).bind fun x9=>
        (Zc (D.builder.mk (D.Circuit.mk s2.2.2.1 s2.2.2.2.2.1) s2.2.2.2.2.2 s2.2.2.2.1) x8 x7 x9).bind fun x10=>
        (set? s2.2.1 s2.1 x10.1).bind fun x11=>
        some (.inl ((w64 (s2.1 + 1)),x11,x10.2.c.Inputs,x10.2.full,x10.2.c.Gates,x10.2.line))
       else
        (get? p3 s1.1).bind fun x12=>
        (get? x4 s2.1).bind fun x13=>
        (Zc (D.builder.mk (D.Circuit.mk s2.2.2.1 s2.2.2.2.2.1) s2.2.2.2.2.2 s2.2.2.2.1) x12 x1 x13).bind fun x14=>
        (set? s2.2.1 s2.1 x14.1).bind fun x15=>
        some (.inl ((w64 (s2.1 + 1)),x15,x14.2.c.Inputs,x14.2.full,x14.2.c.Gates,x14.2.line))
      else
       if ((decide ((w64 (s2.1 + x5)) ≥ 0)) && (decide ((w64 (s2.1 + x5)) < (len p2)))) then
        (get? x4 (w64 (s2.1 + x5))).bind fun x16=>
        (get? p3 s1.1).bind fun x17=>
        (get? x4 s2.1).bind fun x18=>
        (Zc (D.builder.mk (D.Circuit.mk s2.2.2.1 s2.2.2.2.2.1) s2.2.2.2.2.2 s2.2.2.2.1) x17 x16 x18).bind fun x19=>
        (set? s2.2.1 s2.1 x19.1).bind fun x20=>
        some (.inl ((w64 (s2.1 + 1)),x20,x19.2.c.Inputs,x19.2.full,x19.2.c.Gates,x19.2.line))
       else
        (get? p3 s1.1).bind fun x21=>
        (get? x4 s2.1).bind fun x22=>
        (Zc (D.builder.mk (D.Circuit.mk s2.2.2.1 s2.2.2.2.2.1) s2.2.2.2.2.2 s2.2.2.2.1) x21 x1 x22).bind fun x23=>
        (set? s2.2.1 s2.1 x23.1).bind fun x24=>
        some (.inl ((w64 (s2.1 + 1)),x24,x23.2.c.Inputs,x23.2.full,x23.2.c.Gates,x23.2.line))
     else
      some (.inr (s2.2.1,s2.2.2.1,s2.2.2.2.1,s2.2.2.2.2.1,s2.2.2.2.2.2))
    ) n (0,s1.2.1,s1.2.2.1,s1.2.2.2.1,s1.2.2.2.2.1,s1.2.2.2.2.2)).bind fun (rl2:(List Int) × Int × Bool × (List D.Gate) × (List (D.Gate × Int)))=>
    some (.inl ((w64 (s1.1 + 1)),rl2.1,rl2.2.1,rl2.2.2.1,rl2.2.2.2.1,rl2.2.2.2.2))
   else
    some (.inr (s1.1,s1.2.1,s1.2.2.1,s1.2.2.2.1,s1.2.2.2.2.1,s1.2.2.2.2.2))
  ) n (0,x2,p0.c.Inputs,p0.full,p0.c.Gates,p0.line)).bind fun (rl1:Int × (List Int) × Int × Bool × (List D.Gate) × (List (D.Gate × Int)))=>
  if (decide (rl1.1 < (len p2))) then
   (iterN (fun (s3 : Int × Int × Int × Bool × (List D.Gate) × (List (D.Gate × Int))) =>
    if (decide (s3.1 < (len p2))) then
     (get? p3 s3.1).bind fun x25=>
     (Z0 (D.builder.mk (D.Circuit.mk s3.2.2.1 s3.2.2.2.2.1) s3.2.2.2.2.2 s3.2.2.2.1) s3.2.1 x25).bind fun x26=>
     some (.inl ((w64 (s3.1 + 1)),x26.1,x26.2.c.Inputs,x26.2.full,x26.2.c.Gates,x26.2.line))
    else
     some (.inr (s3.2.1,s3.2.2.1,s3.2.2.2.1,s3.2.2.2.2.1,s3.2.2.2.2.2))
   ) n (rl1.1,(-1),rl1.2.2.1,rl1.2.2.2.1,rl1.2.2.2.2.1,rl1.2.2.2.2.2)).bind fun (rl3:Int × Int × Bool × (List D.Gate) × (List (D.Gate × Int))) =>
   (iterN (fun (s4 : Int × (List Int) × Int × Bool × (List D.Gate) × (List (D.Gate × Int))) =>
    if (decide (s4.1 < (len rl1.2.1))) then
     (get? s4.2.1 s4.1).bind fun x27=>
     (Zc (D.builder.mk (D.Circuit.mk s4.2.2.1 s4.2.2.2.2.1) s4.2.2.2.2.2 s4.2.2.2.1) rl3.1 x1 x27).bind fun x28=>
     (set? s4.2.1 s4.1 x28.1).bind fun x29=>
     some (.inl ((w64 (s4.1 + 1)),x29,x28.2.c.Inputs,x28.2.full,x28.2.c.Gates,x28.2.line))
    else
     some (.inr (s4.2.1,s4.2.2.1,s4.2.2.2.1,s4.2.2.2.2.1,s4.2.2.2.2.2))
   ) n (0,rl1.2.1,rl3.2.1,rl3.2.2.1,rl3.2.2.2.1,rl3.2.2.2.2)).bind fun (rl4:(List Int) × Int × Bool × (List D.Gate) × (List (D.Gate × Int)))=>
   some (rl4.1,(D.builder.mk (D.Circuit.mk rl4.2.1 rl4.2.2.2.1) rl4.2.2.2.2 rl4.2.2.1))
  else
   some (rl1.2.1,(D.builder.mk (D.Circuit.mk rl1.2.2.1 rl1.2.2.2.2.1) rl1.2.2.2.2.2 rl1.2.2.2.1))
 else
  (Ze p2).bind fun x30 =>
  (iterN (fun (s5 : Int × (List Int) × Int × Bool × (List D.Gate) × (List (D.Gate × Int))) =>
   (if (decide (s5.1 < (len p2))) then (shl? 1 (IntKind.u64.wrap s5.1)) else some default).bind fun x31=>
   if ((decide (s5.1 < (len p2))) && (decide (x31 < (len p2)))) then
    (Ze s5.2.1).bind fun x32 =>
    (iterN (fun (s6 : Int × (List Int) × Int × Bool × (List D.Gate) × (List (D.Gate × Int))) =>
     if (decide (s6.1 < (len s5.2.1))) then
      (shl? 1 (IntKind.u64.wrap s5.1)).bind fun x33=>
      if (p1 == 11) then
       (shl? 1 (IntKind.u64.wrap s5.1)).bind fun x34=>
       if ((decide ((w64 (s6.1 - x34)) ≥ 0)) && (decide ((w64 (s6.1 - x34)) < (len p2)))) then
        (get? x32 (w64 (s6.1 - x34))).bind fun x35=>
        (get? p3 s5.1).bind fun x36=>
        (get? x32 s6.1).bind fun x37=>
        (Zc (D.builder.mk (D.Circuit.mk s6.2.2.1 s6.2.2.2.2.1) s6.2.2.2.2.2 s6.2.2.2.1) x36 x35 x37).bind fun x38=>
        (set? s6.2.1 s6.1 x38.1).bind fun x39=>
        some (.inl ((w64 (s6.1 + 1)),x39,x38.2.c.Inputs,x38.2.full,x38.2.c.Gates,x38.2.line))
       else
        (get? p3 s5.1).bind fun x40=>
        (get? x32 s6.1).bind fun x41=>
        (Zc (D.builder.mk (D.Circuit.mk s6.2.2.1 s6.2.2.2.2.1) s6.2.2.2.2.2 s6.2.2.2.1) x40 (-1) x41).bind fun x42=>
        (set? s6.2.1 s6.1 x42.1).bind fun x43=>
        some (.inl ((w64 (s6.1 + 1)),x43,x42.2.c.Inputs,x42.2.full,x42.2.c.Gates,x42.2.line))
      else
       if ((decide ((w64 (s6.1 + x33)) ≥ 0)) && (decide ((w64 (s6.1 + x33)) < (len p2)))) then
        (get? x32 (w64 (s6.1 + x33))).bind fun x44=>
        (get? p3 s5.1).bind fun x45=>
        (get? x32 s6.1).bind fun x46=>
        (Zc (D.builder.mk (D.Circuit.mk s6.2.2.1 s6.2.2.2.2.1) s6.2.2.2.2.2 s6.2.2.2.1) x45 x44 x46).bind fun x47=>
        (set? s6.2.1 s6.1 x47.1).bind fun x48=>
        some (.inl ((w64 (s6.1 + 1)),x48,x47.2.c.Inputs,x47.2.full,x47.2.c.Gates,x47.2.line))
       else
        (get? p3 s5.1).bind fun x49=>
        (get? x32 s6.1).bind fun x50=>
        (Zc (D.builder.mk (D.Circuit.mk s6.2.2.1 s6.2.2.2.2.1) s6.2.2.2.2.2 s6.2.2.2.1) x49 (-1) x50).bind fun x51=>
        (set? s6.2.1 s6.1 x51.1).bind fun x52=>
        some (.inl ((w64 (s6.1 + 1)),x52,x51.2.c.Inputs,x51.2.full,x51.2.c.Gates,x51.2.line))
     else
      some (.inr (s6.2.1,s6.2.2.1,s6.2.2.2.1,s6.2.2.2.2.1,s6.2.2.2.2.2))
    ) n (0,s5.2.1,s5.2.2.1,s5.2.2.2.1,s5.2.2.2.2.1,s5.2.2.2.2.2)).bind fun (rl6:(List Int) × Int × Bool × (List D.Gate) × (List (D.Gate × Int)))=>
    some (.inl ((w64 (s5.1 + 1)),rl6.1,rl6.2.1,rl6.2.2.1,rl6.2.2.2.1,rl6.2.2.2.2))
   else
    some (.inr (s5.1,s5.2.1,s5.2.2.1,s5.2.2.2.1,s5.2.2.2.2.1,s5.2.2.2.2.2))
  ) n (0,x30,p0.c.Inputs,p0.full,p0.c.Gates,p0.line)).bind fun (rl5:Int × (List Int) × Int × Bool × (List D.Gate) × (List (D.Gate × Int)))=>
  if (decide (rl5.1 < (len p2))) then
   (iterN (fun (s7 : Int × Int × Int × Bool × (List D.Gate) × (List (D.Gate × Int))) =>
    if (decide (s7.1 < (len p2))) then
     (get? p3 s7.1).bind fun x53=>
     (Z0 (D.builder.mk (D.Circuit.mk s7.2.2.1 s7.2.2.2.2.1) s7.2.2.2.2.2 s7.2.2.2.1) s7.2.1 x53).bind fun x54=>
     some (.inl ((w64 (s7.1 + 1)),x54.1,x54.2.c.Inputs,x54.2.full,x54.2.c.Gates,x54.2.line))
    else
     some (.inr (s7.2.1,s7.2.2.1,s7.2.2.2.1,s7.2.2.2.2.1,s7.2.2.2.2.2))
   ) n (rl5.1,(-1),rl5.2.2.1,rl5.2.2.2.1,rl5.2.2.2.2.1,rl5.2.2.2.2.2)).bind fun (rl7:Int × Int × Bool × (List D.Gate) × (List (D.Gate × Int))) =>
   (iterN (fun (s8 : Int × (List Int) × Int × Bool × (List D.Gate) × (List (D.Gate × Int))) =>
    if (decide (s8.1 < (len rl5.2.1))) then
     (get? s8.2.1 s8.1).bind fun x55=>
     (Zc (D.builder.mk (D.Circuit.mk s8.2.2.1 s8.2.2.2.2.1) s8.2.2.2.2.2 s8.2.2.2.1) rl7.1 (-1) x55).bind fun x56=>
     (set? s8.2.1 s8.1 x56.1).bind fun x57=>
     some (.inl ((w64 (s8.1 + 1)),x57,x56.2.c.Inputs,x56.2.full,x56.2.c.Gates,x56.2.line))
    else
     some (.inr (s8.2.1,s8.2.2.1,s8.2.2.2.1,s8.2.2.2.2.1,s8.2.2.2.2.2))
   ) n (0,rl5.2.1,rl7.2.1,rl7.2.2.1,rl7.2.2.2.1,rl7.2.2.2.2)).bind fun (rl8:(List Int) × Int × Bool × (List D.Gate) × (List (D.Gate × Int)))=>
   some (rl8.1,(D.builder.mk (D.Circuit.mk rl8.2.1 rl8.2.2.2.1) rl8.2.2.2.2 rl8.2.2.1))
  else
   some (rl5.2.1,(D.builder.mk (D.Circuit.mk rl5.2.2.1 rl5.2.2.2.2.1) rl5.2.2.2.2.2 rl5.2.2.2.1))
def Y8 (n:Nat) (p0:D.builder) (p1:List Int) (p2:List Int):Option (Int × D.builder) :=
 (iterN (fun (s1 : Int × Int × Int × Bool × (List D.Gate) × (List (D.Gate × Int))) =>
  if (decide (s1.2.1 < (len p1))) then
   (get? p1 s1.2.1).bind fun x1=>
   (get? p2 s1.2.1).bind fun x2=>
   (Z5 (D.builder.mk (D.Circuit.mk s1.2.2.1 s1.2.2.2.2.1) s1.2.2.2.2.2 s1.2.2.2.1) x1 x2).bind fun x3=>
   (Zm x3.2 s1.1 (w64 (0 - x3.1))).bind fun x4=>
   some (.inl (x4.1,(w64 (s1.2.1 + 1)),x4.2.c.Inputs,x4.2.full,x4.2.c.Gates,x4.2.line))
  else
   some (.inr (s1.1,s1.2.2.1,s1.2.2.2.1,s1.2.2.2.2.1,s1.2.2.2.2.2))
 ) n (1,0,p0.c.Inputs,p0.full,p0.c.Gates,p0.line)).bind fun (rl1:Int × Int × Bool × (List D.Gate) × (List (D.Gate × Int)))=>
 some (rl1.1,(D.builder.mk (D.Circuit.mk rl1.2.1 rl1.2.2.2.1) rl1.2.2.2.2 rl1.2.2.1))
def Yj (n:Nat) (p0:D.builder) (p1:List Int) (p2:List Int):Option (Int × D.builder):=
 (Yy n p2).bind fun x1=>
 (ZR n p0 p1 x1 1).bind fun x2=>
 some ((w64 (0 - x2.2.1)),x2.2.2)
def Y2 (p0:List Int):Option (List Int):=
 (Ze p0).bind fun x1=>
 (get? x1 (w64 ((len x1) - 1))).bind fun x2=>
 (set? x1 (w64 ((len x1) - 1)) (w64 (0 - x2))).bind fun x3=>
 some x3
def ZF (n:Nat) (p0:D.builder) (p1:Int) (p2:List Int) (p3:List Int):Option ((List Int) × D.builder):=
 if (p1 == 3) then
  (ZR n p0 p2 p3 (-1)).bind fun x1=>
  some (x1.1,x1.2.2)
 else
  if (p1 == 4) then
   (Yy n p3).bind fun x2=>
   (ZR n p0 p2 x2 1).bind fun x3=>
   some (x3.1,x3.2.2)
  else
   if (p1 == 5) then
    (Y4 n p0 p2 p3).bind fun x4=>
    some (x4.1,x4.2)
   else
    if (p1 == 6) then
     (Y0 n p0 p2 p3).bind fun x5=>
     some (x5.1,x5.2.2)
    else
     if (p1 == 7) then
      (Y0 n p0 p2 p3).bind fun x6=>
      some (x6.2.1,x6.2.2)
     else
      if (p1 == 11) then
       if (p1 == 11) then
        (Yo n p0 p1 p2 p3).bind fun x7=>
        some (x7.1,x7.2)
       else
        if (p1 == 14) then
         (Y8 n p0 p2 p3).bind fun x8=>
         some (([x8.1]:List Int),x8.2)
        else
         if (p1 == 15) then
          (Yj n p0 p2 p3).bind fun x9=>
          some (([x9.1]:List Int),x9.2)
         else
          if (p1 == 16) then
           (Y2 p2).bind fun x10=>
           (Y2 p3).bind fun x11=>
           (Yj n p0 x10 x11).bind fun x12=>
           some (([x12.1]:List Int),x12.2)
          else
           (mk? (len p2) (0:Int)).bind fun x13 =>
           (iterN (fun (s1 : Int × (List Int) × Int × Bool × (List D.Gate) × (List (D.Gate × Int))) =>
            if (decide (s1.1 < (len p2))) then
             if (p1 == 8) then
              (get? p2 s1.1).bind fun x14=>
              (get? p3 s1.1).bind fun x15=>
              (Zm (D.builder.mk (D.Circuit.mk s1.2.2.1 s1.2.2.2.2.1) s1.2.2.2.2.2 s1.2.2.2.1) x14 x15).bind fun x16=>
              (set? s1.2.1 s1.1 x16.1).bind fun x17=>
              some (.inl ((w64 (s1.1 + 1)),x17,x16.2.c.Inputs,x16.2.full,x16.2.c.Gates,x16.2.line))
             else
              if (p1 == 9) then
               (get? p2 s1.1).bind fun x18=>
               (get? p3 s1.1).bind fun x19=>
               (Z0 (D.builder.mk (D.Circuit.mk s1.2.2.1 s1.2.2.2.2.1) s1.2.2.2.2.2 s1.2.2.2.1) x18 x19).bind fun x20=>
               (set? s1.2.1 s1.1 x20.1).bind fun x21=>
               some (.inl ((w64 (s1.1 + 1)),x21,x20.2.c.Inputs,x20.2.full,x20.2.c.Gates,x20.2.line))
              else
               (get? p2 s1.1).bind fun x22=>
               (get? p3 s1.1).bind fun x23=>
               (Z5 (D.builder.mk (D.Circuit.mk s1.2.2.1 s1.2.2.2.2.1) s1.2.2.2.2.2 s1.2.2.2.1) x22 x23).bind fun x24=>
               (set? s1.2.1 s1.1 x24.1).bind fun x25=>
               some (.inl ((w64 (s1.1 + 1)),x25,x24.2.c.Inputs,x24.2.full,x24.2.c.Gates,x24.2.line))
            else
             some (.inr (s1.2.1,s1.2.2.1,s1.2.2.2.1,s1.2.2.2.2.1,s1.2.2.2.2.2))
           ) n (0,x13,p0.c.Inputs,p0.full,p0.c.Gates,p0.line)).bind fun (rl1:(List Int) × Int × Bool × (List D.Gate) × (List (D.Gate × Int)))=>
           some (rl1.1,(D.builder.mk (D.Circuit.mk rl1.2.1 rl1.2.2.2.1) rl1.2.2.2.2 rl1.2.2.1))
      else
       if ((p1 == 12) || (p1 == 13)) then
        (Yo n p0 p1 p2 p3).bind fun x26=>
        some (x26.1,x26.2)
       else
        if (p1 == 14) then
         (Y8 n p0 p2 p3).bind fun x27=>
         some (([x27.1]:List Int),x27.2)
        else
         if (p1 == 15) then
          (Yj n p0 p2 p3).bind fun x28=>
          some (([x28.1]:List Int),x28.2)
         else
          if (p1 == 16) then
           (Y2 p2).bind fun x29=>
           (Y2 p3).bind fun x30=>
           (Yj n p0 x29 x30).bind fun x31=>
           some (([x31.1]:List Int),x31.2)
          else
           (mk? (len p2) (0:Int)).bind fun x32 =>
           (iterN (fun (s2 : Int × (List Int) × Int × Bool × (List D.Gate) × (List (D.Gate × Int))) =>
            if (decide (s2.1 < (len p2))) then
             if (p1 == 8) then
              (get? p2 s2.1).bind fun x33=>
              (get? p3 s2.1).bind fun x34=>
              (Zm (D.builder.mk (D.Circuit.mk s2.2.2.1 s2.2.2.2.2.1) s2.2.2.2.2.2 s2.2.2.2.1) x33 x34).bind fun x35=>
              (set? s2.2.1 s2.1 x35.1).bind fun x36=>
              some (.inl ((w64 (s2.1 + 1)),x36,x35.2.c.Inputs,x35.2.full,x35.2.c.Gates,x35.2.line))
             else
              if (p1 == 9) then
               (get? p2 s2.1).bind fun x37=>
               (get? p3 s2.1).bind fun x38=>
               (Z0 (D.builder.mk (D.Circuit.mk s2.2.2.1 s2.2.2.2.2.1) s2.2.2.2.2.2 s2.2.2.2.1) x37 x38).bind fun x39=>
               (set? s2.2.1 s2.1 x39.1).bind fun x40=>
               some (.inl ((w64 (s2.1 + 1)),x40,x39.2.c.Inputs,x39.2.full,x39.2.c.Gates,x39.2.line))
              else
               (get? p2 s2.1).bind fun x41=>
               (get? p3 s2.1).bind fun x42=>
               (Z5 (D.builder.mk (D.Circuit.mk s2.2.2.1 s2.2.2.2.2.1) s2.2.2.2.2.2 s2.2.2.2.1) x41 x42).bind fun x43=>
               (set? s2.2.1 s2.1 x43.1).bind fun x44=>
               some (.inl ((w64 (s2.1 + 1)),x44,x43.2.c.Inputs,x43.2.full,x43.2.c.Gates,x43.2.line))
            else
             some (.inr (s2.2.1,s2.2.2.1,s2.2.2.2.1,s2.2.2.2.2.1,s2.2.2.2.2.2))
           ) n (0,x32,p0.c.Inputs,p0.full,p0.c.Gates,p0.line)).bind fun (rl2:(List Int) × Int × Bool × (List D.Gate) × (List (D.Gate × Int)))=>
           some (rl2.1,(D.builder.mk (D.Circuit.mk rl2.2.1 rl2.2.2.2.1) rl2.2.2.2.2 rl2.2.2.1))
def ZN (n:Nat) (p0:D.builder) (p1:D.Term) (p2:Option (List (Str × List Int))):Option ((List Int) × D.builder):=
 match n with
 | 0=>none
 | n + 1=>
 if (p1.Op == 0) then
  (Yl n p1.W p1.N).bind fun x1=>
  some (x1,p0)
 else
  if (p1.Op == 22) then
   (mgeto? fitS ([]:List Int) p2 p1.Name).bind fun x2=>
   (Ze x2).bind fun x3=>
   some (x3,p0)
  else
   (mk? (len p1.Kids) (([]:List Int):List Int)).bind fun x4 =>
   (iterN (fun (s1 : Int × Int × Bool × (List D.Gate) × (List (D.Gate × Int)) × (List (List Int))) =>
    if (decide (s1.1 < (len p1.Kids))) then
     (get? p1.Kids s1.1).bind fun x5=>
     (ZN n (D.builder.mk (D.Circuit.mk s1.2.1 s1.2.2.2.1) s1.2.2.2.2.1 s1.2.2.1) x5 p2).bind fun x6=>
     (set? s1.2.2.2.2.2 s1.1 x6.1).bind fun x7=>
     some (.inl ((w64 (s1.1 + 1)),x6.2.c.Inputs,x6.2.full,x6.2.c.Gates,x6.2.line,x7))
    else
     some (.inr (s1.2.1,s1.2.2.1,s1.2.2.2.1,s1.2.2.2.2.1,s1.2.2.2.2.2))
   ) n (0,p0.c.Inputs,p0.full,p0.c.Gates,p0.line,x4)).bind fun (rl1:Int × Bool × (List D.Gate) × (List (D.Gate × Int)) × (List (List Int)))=>
   (get? rl1.2.2.2.2 0).bind fun x8=>
   if (p1.Op == 1) then
    (Yy n x8).bind fun x9=>
    some (x9,(D.builder.mk (D.Circuit.mk rl1.1 rl1.2.2.1) rl1.2.2.2.1 rl1.2.1))
   else
    if (p1.Op == 2) then
     (Yl n p1.W 0).bind fun x10=>
     (ZF n (D.builder.mk (D.Circuit.mk rl1.1 rl1.2.2.1) rl1.2.2.2.1 rl1.2.1) 4 x10 x8).bind fun x11=>
     some (x11.1,x11.2)
    else
     if (p1.Op == 17) then
      (mk? p1.W (0:Int)).bind fun x12 =>
      (iterN (fun (s2 : Int × (List Int) × Int × Bool × (List D.Gate) × (List (D.Gate × Int))) =>
       if (decide (s2.1 < (len x12))) then
        (get? x8 0).bind fun x13=>
        (get? rl1.2.2.2.2 1).bind fun x14=>
        (get? x14 s2.1).bind fun x15=>
        (get? rl1.2.2.2.2 2).bind fun x16=>
        (get? x16 s2.1).bind fun x17=>
        (Zc (D.builder.mk (D.Circuit.mk s2.2.2.1 s2.2.2.2.2.1) s2.2.2.2.2.2 s2.2.2.2.1) x13 x15 x17).bind fun x18=>
        (set? s2.2.1 s2.1 x18.1).bind fun x19=>
        some (.inl ((w64 (s2.1 + 1)),x19,x18.2.c.Inputs,x18.2.full,x18.2.c.Gates,x18.2.line))
       else
        some (.inr (s2.2.1,s2.2.2.1,s2.2.2.2.1,s2.2.2.2.2.1,s2.2.2.2.2.2))
      ) n (0,x12,rl1.1,rl1.2.1,rl1.2.2.1,rl1.2.2.2.1)).bind fun (rl2:(List Int) × Int × Bool × (List D.Gate) × (List (D.Gate × Int)))=>
      some (rl2.1,(D.builder.mk (D.Circuit.mk rl2.2.1 rl2.2.2.2.1) rl2.2.2.2.2 rl2.2.2.1))
     else
      if (p1.Op == 18) then
       (get? rl1.2.2.2.2 1).bind fun x20=>
       (app? x20 x8).bind fun x21=>
       some (x21,(D.builder.mk (D.Circuit.mk rl1.1 rl1.2.2.1) rl1.2.2.2.1 rl1.2.1))
      else
       if (p1.Op == 19) then
        (cut? x8 p1.N (w64 (p1.N + p1.W))).bind fun x22=>
        some (x22,(D.builder.mk (D.Circuit.mk rl1.1 rl1.2.2.1) rl1.2.2.2.1 rl1.2.1))
       else
        if ((p1.Op == 20) || (p1.Op == 21)) then
         if (p1.Op == 21) then
          (get? x8 (w64 ((len x8) - 1))).bind fun x23 =>
          (iterN (fun (s3 : (List Int)) =>
           if (decide ((len s3) < p1.W)) then
            (app? s3 ([x23]:List Int)).bind fun x24=>
            some (.inl (x24))
           else
            some (.inr (s3))
          ) n (x8)).bind fun (rl3:(List Int))=>
          some (rl3,(D.builder.mk (D.Circuit.mk rl1.1 rl1.2.2.1) rl1.2.2.2.1 rl1.2.1))
         else
          (iterN (fun (s4 : (List Int)) =>
           if (decide ((len s4) < p1.W)) then
            (app? s4 ([(-1)]:List Int)).bind fun x25=>
            some (.inl (x25))
           else
            some (.inr (s4))
          ) n (x8)).bind fun (rl4:(List Int))=>
          some (rl4,(D.builder.mk (D.Circuit.mk rl1.1 rl1.2.2.1) rl1.2.2.2.1 rl1.2.1))
        else
         (get? rl1.2.2.2.2 1).bind fun x26=>
         (ZF n (D.builder.mk (D.Circuit.mk rl1.1 rl1.2.2.1) rl1.2.2.2.1 rl1.2.1) p1.Op x8 x26).bind fun x27=>
         some (x27.1,x27.2)
def XM (n:Nat) (p0:D.Term):Option (D.Circuit × (List Int) × Bool):=
 (Xt n p0).bind fun x1=>
 (if (!x1) then some default else (Xg n p0)).bind fun x2=>
 if ((!x1) || x2) then
  some ((D.Circuit.mk 0 ([]:List D.Gate)),([]:List Int),false)
 else
  (Xv n p0).bind fun x3 =>
  (iterN (fun (s1 : Int × Int × (List (Str × List Int))) =>
   if (decide (s1.2.1 < (len x3))) then
    (get? x3 s1.2.1).bind fun x4=>
    (mk? x4.W (0:Int)).bind fun x5 =>
    (iterN (fun (s2 : Int × Int × (List Int)) =>
     if (decide (s2.2.1 ≥ 0)) then
      (set? s2.2.2 s2.2.1 (w64 (2 + s2.1))).bind fun x6=>
      some (.inl ((w64 (s2.1 + 1)),(w64 (s2.2.1 - 1)),x6))
     else
      some (.inr (s2.1,s2.2.2))
    ) n (s1.1,(w64 (x4.W - 1)),x5)).bind fun (rl2:Int × (List Int))=>
    (mput? fitS s1.2.2 x4.Name rl2.2).bind fun x7=>
    some (.inl (rl2.1,(w64 (s1.2.1 + 1)),x7))
   else
    some (.inr (s1.1,s1.2.2))
  ) n (0,0,([]:List (Str × List Int)))).bind fun (rl1:Int × (List (Str × List Int)))=>
  if (decide (rl1.1 > 30)) then
   some ((D.Circuit.mk 0 ([]:List D.Gate)),([]:List Int),false)
  else
   (X4 n (D.Circuit.mk rl1.1 ([]:List D.Gate))).bind fun x8=>
   (ZN n x8 p0 (some rl1.2)).bind fun x9=>
   if x9.2.full then
    some ((D.Circuit.mk 0 ([]:List D.Gate)),([]:List Int),false)
   else
    (Ze x9.1).bind fun x10=>
    some (x9.2.c,x10,true)
def ZJ (p0:Int) (p1:Int):Option Bool:=
 some (((p0 != 0) && (decide (p0 ≥ (w64 (0 - p1))))) && (decide (p0 ≤ p1)))
def XB (n:Nat) (p0:D.Circuit):Option Bool:=
 if (((decide (p0.Inputs < 0)) || (decide (p0.Inputs > 30))) || (decide ((len p0.Gates) > 360))) then
  some false
 else
  (iterN (fun (s1 : Int × (List (D.Gate × Bool))) =>
   if (decide (s1.1 < (len p0.Gates))) then
    (get? p0.Gates s1.1).bind fun x1=>
    (ZJ x1.A (w64 ((w64 (1 + p0.Inputs)) + s1.1))).bind fun x2=>
    (if (!x2) then some default else (ZJ x1.B (w64 ((w64 (1 + p0.Inputs)) + s1.1)))).bind fun x3=>
    (if ((!x2) || (!x3)) then some default else (mget? ZB (false:Bool) s1.2 x1)).bind fun x4=>
    if (((!x2) || (!x3)) || x4) then
     some (.inr (.inr false))
    else
     (Yi x1.A).bind fun x5=>
     (if (decide (x5 < 2)) then some default else (Yi x1.A)).bind fun x6=>
     (if (decide (x5 < 2)) then some default else (Yi x1.B)).bind fun x7=>
     if ((decide (x5 < 2)) || (decide (x6 ≥ x7))) then
      some (.inr (.inr false))
     else
      (mput? ZB s1.2 x1 true).bind fun x8=>
      some (.inl ((w64 (s1.1 + 1)),x8))
   else
    some (.inr (.inl (s1.2)))
  ) n (0,[])).bind fun (rl1:((List (D.Gate × Bool))) ⊕ Bool)=>
  match rl1 with
  | .inl s1r=>
   some true
  | .inr v=>some v
def Yn (n:Nat) (p0:List Int) (p1:Int):Option Bool :=
 (iterN (fun (s1 : Int) =>
  if (decide (s1 < (len p0))) then
   (get? p0 s1).bind fun x1=>
   (ZJ x1 p1).bind fun x2=>
   if (!x2) then
    some (.inr (.inr false))
   else
    some (.inl ((w64 (s1 + 1))))
  else
   some (.inr (.inl ()))
 ) n (0)).bind fun (rl1:(Unit) ⊕ Bool)=>
 match rl1 with
 | .inl s1r=>
  some true
 | .inr v=>some v
def ZaR (p0:Int):Option Int:=
 if (decide (p0 ≥ 4294967296)) then
  (shrK? .u64 p0 32).bind fun x1=>
  if (decide (x1 ≥ 65536)) then
   (shrK? .u64 x1 16).bind fun x2=>
   if (decide (x2 ≥ 256)) then
    (shrK? .u64 x2 8).bind fun x3=>
    (sidx? lstr0 (IntKind.u8.wrap x3)).bind fun x4=>
    some (w64 ((w64 ((w64 (32 + 16)) + 8)) + (w64 x4)))
   else
    (sidx? lstr0 (IntKind.u8.wrap x2)).bind fun x5=>
    some (w64 ((w64 (32 + 16)) + (w64 x5)))
  else
   if (decide (x1 ≥ 256)) then
    (shrK? .u64 x1 8).bind fun x6=>
    (sidx? lstr0 (IntKind.u8.wrap x6)).bind fun x7=>
    some (w64 ((w64 (32 + 8)) + (w64 x7)))
   else
    (sidx? lstr0 (IntKind.u8.wrap x1)).bind fun x8=>
    some (w64 (32 + (w64 x8)))
 else
  if (decide (p0 ≥ 65536)) then
   (shrK? .u64 p0 16).bind fun x9=>
   if (decide (x9 ≥ 256)) then
    (shrK? .u64 x9 8).bind fun x10=>
    (sidx? lstr0 (IntKind.u8.wrap x10)).bind fun x11=>
    some (w64 ((w64 ((w64 (0 + 16)) + 8)) + (w64 x11)))
   else
    (sidx? lstr0 (IntKind.u8.wrap x9)).bind fun x12=>
    some (w64 ((w64 (0 + 16)) + (w64 x12)))
  else
   if (decide (p0 ≥ 256)) then
    (shrK? .u64 p0 8).bind fun x13=>
    (sidx? lstr0 (IntKind.u8.wrap x13)).bind fun x14=>
    some (w64 ((w64 (0 + 8)) + (w64 x14)))
   else
    (sidx? lstr0 (IntKind.u8.wrap p0)).bind fun x15=>
    some (w64 (0 + (w64 x15)))
def XZ (p0:Int):Option Int:=
 if false then
  none
 else
  (ZaR p0).bind fun x1=>
  some x1
def Xn (p0:Int):Option Bool:=
 some (p0 != p0)
def YR (p0:Int) (p1:Int):Option Int:=
 (Xn p0).bind fun x1=>
 (Xn p1).bind fun x2=>
 if x1 then
  if x2 then
   some 0
  else
   some (-1)
 else
  if x2 then
   some 1
  else
   if (decide (p0 < p1)) then
    some (-1)
   else
    if (decide (p0 > p1)) then
     some 1
    else
     some 0
def Yv (p0:Int) (p1:Int):Option Int:=
 (Yi p0).bind fun x1=>
 (Yi p1).bind fun x2=>
 (YR x1 x2).bind fun x3=>
 if (x3 != 0) then
  some x3
 else
  (YR p0 p1).bind fun x4=>
  some x4
def Z4 (n:Nat) (p0:List Int):Option (List Int):=
 if (decide ((len p0) < 2)) then
  some p0
 else
  (iterN (fun (s1 : Int) =>
   if (decide (s1 < (len p0))) then
    (get? p0 s1).bind fun x1=>
    (get? p0 (w64 (s1 - 1))).bind fun x2=>
    if (x1 == x2) then
     none
    else
     some (.inl ((w64 (s1 + 1))))
   else
    some (.inr (.inl ()))
  ) n (1)).bind fun (rl1:(Unit) ⊕ (List Int))=>
  match rl1 with
  | .inl s1r=>
   some p0
  | .inr v=>some v
def Yt (n:Nat) (p0:List Int) (p1:Int):Option Bool:=
 (Yn n p0 p1).bind fun x1=>
 if (!x1) then
  some false
 else
  (iterN (fun (s1 : Int) =>
   if (decide (s1 < (len p0))) then
    (get? p0 (w64 (s1 - 1))).bind fun x2=>
    (Yi x2).bind fun x3=>
    (get? p0 s1).bind fun x4=>
    (Yi x4).bind fun x5=>
    if (decide (x3 ≥ x5)) then
     some (.inr (.inr false))
    else
     some (.inl ((w64 (s1 + 1))))
   else
    some (.inr (.inl ()))
  ) n (1)).bind fun (rl1:(Unit) ⊕ Bool)=>
  match rl1 with
  | .inl s1r=>
   some true
  | .inr v=>some v
def Zi (n:Nat) (p0:List Int) (p1:Int) (p2:Int):Option (List Int) :=
 (iterN (fun (s1 : Int × (List Int)) =>
  if (decide (s1.1 < p2)) then
   (iterN (fun (s2 : Int × (List Int)) =>
    (if (decide (s2.1 > p1)) then (get? s2.2 s2.1) else some default).bind fun x1=>
    (if (decide (s2.1 > p1)) then (get? s2.2 (w64 (s2.1 - 1))) else some default).bind fun x2=>
    (if (decide (s2.1 > p1)) then (Yv x1 x2) else some default).bind fun x3=>
    if ((decide (s2.1 > p1)) && (decide (x3 < 0))) then
     (get? s2.2 (w64 (s2.1 - 1))).bind fun x4=>
     (get? s2.2 s2.1).bind fun x5=>
     (set? s2.2 s2.1 x4).bind fun x6=>
     (set? x6 (w64 (s2.1 - 1)) x5).bind fun x7=>
     some (.inl ((w64 (s2.1 - 1)),x7))
    else
     some (.inr (s2.2))
   ) n (s1.1,s1.2)).bind fun (rl2:(List Int))=>
   some (.inl ((w64 (s1.1 + 1)),rl2))
  else
   some (.inr (s1.2))
 ) n ((w64 (p1 + 1)),p0)).bind fun (rl1:(List Int))=>
 some rl1
def Zw (n:Nat) (p0:List Int) (p1:Int) (p2:Int) (p3:Int):Option (List Int) :=
 (iterN (fun (s1 : Int × Int × Int × Bool × Bool) =>
  if (decide ((w64 (s1.2.1 - s1.1)) ≤ 12)) then
   (Zi n p0 s1.1 s1.2.1).bind fun x1=>
   some (.inr (.inr x1))
  else
   if (s1.2.2.1 == 0) then
    none
   else
    if (!s1.2.2.2.1) then
     none
    else
     none
 ) n (p1,p2,p3,true,true)).bind fun (rl1:(Unit) ⊕ (List Int))=>
 match rl1 with
 | .inl s1r=>
  some p0
 | .inr v=>some v
def Zh (n:Nat) (p0:List Int):Option (List Int):=
 (XZ (IntKind.u64.wrap (len p0))).bind fun x1=>
 (Zw n p0 0 (len p0) x1).bind fun x2=>
 some x2
def ZY (n:Nat) (p0:List Int):Option ((List Int) × Bool):=
 (Yn n p0 400).bind fun x1=>
 if (!x1) then
  some (([]:List Int),false)
 else
  (Ze p0).bind fun x2=>
  (Zh n x2).bind fun x3=>
  (Z4 n x3).bind fun x4=>
  (Yt n x4 400).bind fun x5=>
  if (!x5) then
   some (([]:List Int),false)
  else
   some (x4,true)
def XH (n:Nat) (p0:D.Circuit) (p1:Int):Option (D.Formula × Bool):=
 (XB n p0).bind fun x1=>
 (if (!x1) then some default else (Yg p0)).bind fun x2=>
 (if (!x1) then some default else (ZJ p1 x2)).bind fun x3=>
 if ((!x1) || (!x3)) then
  some ((D.Formula.mk 0 ([]:List (List Int))),false)
 else
  (Yg p0).bind fun x4 =>
  (iterN (fun (s1 : Int × (List (List Int))) =>
   if (decide (s1.1 < (len p0.Gates))) then
    (get? p0.Gates s1.1).bind fun x5 =>
    (iterN (fun (s2 : Int × (List (List Int))) =>
     if (decide (s2.1 < (len ([([(w64 (0 - (w64 ((w64 (2 + p0.Inputs)) + s1.1)))),x5.A]:List Int),([(w64 (0 - (w64 ((w64 (2 + p0.Inputs)) + s1.1)))),x5.B]:List Int),([(w64 ((w64 (2 + p0.Inputs)) + s1.1)),(w64 (0 - x5.A)),(w64 (0 - x5.B))]:List Int)]:List (List Int))))) then
      (get? ([([(w64 (0 - (w64 ((w64 (2 + p0.Inputs)) + s1.1)))),x5.A]:List Int),([(w64 (0 - (w64 ((w64 (2 + p0.Inputs)) + s1.1)))),x5.B]:List Int),([(w64 ((w64 (2 + p0.Inputs)) + s1.1)),(w64 (0 - x5.A)),(w64 (0 - x5.B))]:List Int)]:List (List Int)) s2.1).bind fun x6=>
      (ZY n x6).bind fun x7=>
      (app? s2.2 ([x7.1]:List (List Int))).bind fun x8=>
      some (.inl ((w64 (s2.1 + 1)),x8))
     else
      some (.inr (s2.2))
    ) n (0,s1.2)).bind fun (rl2:(List (List Int)))=>
    some (.inl ((w64 (s1.1 + 1)),rl2))
   else
    some (.inr (s1.2))
  ) n (0,([([1]:List Int)]:List (List Int)))).bind fun (rl1:(List (List Int)))=>
  (app? rl1 ([([p1]:List Int)]:List (List Int))).bind fun x9=>
  some ((D.Formula.mk x4 x9),true)
def YT (n:Nat) (p0:D.Formula):Option Bool:=
 if (((decide (p0.Vars < 0)) || (decide (p0.Vars > 400))) || (decide ((len p0.Clauses) > 1600))) then
  some false
 else
  (iterN (fun (s1 : Int) =>
   if (decide (s1 < (len p0.Clauses))) then
    (get? p0.Clauses s1).bind fun x1=>
    (Yt n x1 p0.Vars).bind fun x2=>
    if (!x2) then
     some (.inr (.inr false))
    else
     some (.inl ((w64 (s1 + 1))))
   else
    some (.inr (.inl ()))
  ) n (0)).bind fun (rl1:(Unit) ⊕ Bool)=>
  match rl1 with
  | .inl s1r=>
   some true
  | .inr v=>some v
def XN (n:Nat) (p0:D.Formula):Option D.solver:=
 (mk? (w64 ((w64 (2 * p0.Vars)) + 1)) (([]:List Int):List Int)).bind fun x1 =>
 (iterN (fun (s1 : Int × (List (List Int))) =>
  if (decide (s1.1 < (len p0.Clauses))) then
   (get? p0.Clauses s1.1).bind fun x2 =>
   (iterN (fun (s2 : Int × (List (List Int))) =>
    if (decide (s2.1 < (len x2))) then
     (get? x2 s2.1).bind fun x3=>
     (get? s2.2 (w64 (x3 + p0.Vars))).bind fun x4=>
     (app? x4 ([s1.1]:List Int)).bind fun x5=>
     (set? s2.2 (w64 (x3 + p0.Vars)) x5).bind fun x6=>
     some (.inl ((w64 (s2.1 + 1)),x6))
    else
     some (.inr (s2.2))
   ) n (0,s1.2)).bind fun (rl2:(List (List Int)))=>
   some (.inl ((w64 (s1.1 + 1)),rl2))
  else
   some (.inr (s1.2))
 ) n (0,x1)).bind fun (rl1:(List (List Int)))=>
 some (D.solver.mk p0 rl1)
def Z9 (p0:D.assignment) (p1:Int):Option (Bool × D.assignment):=
 (get? p0.val (cond (decide (p1 < 0)) (w64 (0 - p1)) p1)).bind fun x1=>
 if (x1 != 0) then
  (get? p0.val (cond (decide (p1 < 0)) (w64 (0 - p1)) p1)).bind fun x2=>
  some ((x2 == (cond (decide (p1 < 0)) (-1) 1)),p0)
 else
  (set? p0.val (cond (decide (p1 < 0)) (w64 (0 - p1)) p1) (cond (decide (p1 < 0)) (-1) 1)).bind fun x3=>
  (app? p0.queue ([p1]:List Int)).bind fun x4=>
  some (true,(D.assignment.mk x3 x4))
def Zp (n:Nat) (p0:D.assignment) (p1:List Int):Option (Bool × D.assignment) :=
 (iterN (fun (s1 : Int × Int × Int) =>
  if (decide (s1.2.2 < (len p1))) then
   (get? p1 s1.2.2).bind fun x1=>
   (Yi x1).bind fun x2=>
   (get? p0.val x2).bind fun x3=>
   if (x3 == 0) then
    some (.inl ((w64 (s1.1 + 1)),x1,(w64 (s1.2.2 + 1))))
   else
    if ((decide (x3 > 0)) == (decide (x1 > 0))) then
     some (.inr (.inr (true,p0)))
    else
     some (.inl (s1.1,s1.2.1,(w64 (s1.2.2 + 1))))
  else
   some (.inr (.inl (s1.1,s1.2.1)))
 ) n (0,0,0)).bind fun (rl1:(Int × Int) ⊕ (Bool × D.assignment))=>
 match rl1 with
 | .inl s1r=>
  if (s1r.1 == 0) then
   some (false,p0)
  else
   if (s1r.1 == 1) then
    (Z9 p0 s1r.2).bind fun x4=>
    some (x4.1,x4.2)
   else
    some (true,p0)
 | .inr v=>some v
def Yb (n:Nat) (p0:D.solver) (p1:D.assignment):Option (Bool × D.assignment) :=
 (iterN (fun (s1 : (List Int) × (List Int)) =>
  if (decide ((len s1.2) > 0)) then
   (get? s1.2 (w64 ((len s1.2) - 1))).bind fun x1=>
   (cut? s1.2 0 (w64 ((len s1.2) - 1))).bind fun x2=>
   (get? p0.occ (w64 (p0.f.Vars - x1))).bind fun x3 =>
   (iterN (fun (s2 : Int × (List Int) × (List Int)) =>
    if (decide (s2.1 < (len x3))) then
     (get? x3 s2.1).bind fun x4=>
     (get? p0.f.Clauses x4).bind fun x5=>
     (Zp n (D.assignment.mk s2.2.1 s2.2.2) x5).bind fun x6=>
     if (!x6.1) then
      some (.inr (.inr (false,x6.2)))
     else
      some (.inl ((w64 (s2.1 + 1)),x6.2.val,x6.2.queue))
    else
     some (.inr (.inl (s2.2.1,s2.2.2)))
   ) n (0,s1.1,x2)).bind fun (rl2:((List Int) × (List Int)) ⊕ (Bool × D.assignment))=>
   match rl2 with
   | .inl s2r=>
    some (.inl (s2r.1,s2r.2))
   | .inr v=>some (.inr (.inr v))
  else
   some (.inr (.inl (s1.1,s1.2)))
 ) n (p1.val,p1.queue)).bind fun (rl1:((List Int) × (List Int)) ⊕ (Bool × D.assignment))=>
 match rl1 with
 | .inl s1r=>
  some (true,(D.assignment.mk s1r.1 s1r.2))
 | .inr v=>some v
def YH (n:Nat) (p0:D.solver) (p1:List Int):Option (D.assignment × Bool):=
 (mk? (w64 (p0.f.Vars + 1)) (0:Int)).bind fun x1 =>
 (iterN (fun (s1 : Int × (List Int) × (List Int)) =>
  if (decide (s1.1 < (len p1))) then
   (get? p1 s1.1).bind fun x2=>
   (Z9 (D.assignment.mk s1.2.1 s1.2.2) x2).bind fun x3=>
   if (!x3.1) then
    some (.inr (.inr (default,false)))
   else
    some (.inl ((w64 (s1.1 + 1)),x3.2.val,x3.2.queue))
  else
   some (.inr (.inl (s1.2.1,s1.2.2)))
 ) n (0,x1,([]:List Int))).bind fun (rl1:((List Int) × (List Int)) ⊕ (D.assignment × Bool))=>
 match rl1 with
 | .inl s1r =>
  (iterN (fun (s2 : Int × (List Int) × (List Int)) =>
   if (decide (s2.1 < (len p0.f.Clauses))) then
    (get? p0.f.Clauses s2.1).bind fun x4=>
    (Zp n (D.assignment.mk s2.2.1 s2.2.2) x4).bind fun x5=>
    if (!x5.1) then
     some (.inr (.inr (default,false)))
    else
     some (.inl ((w64 (s2.1 + 1)),x5.2.val,x5.2.queue))
   else
    some (.inr (.inl (s2.2.1,s2.2.2)))
  ) n (0,s1r.1,s1r.2)).bind fun (rl2:((List Int) × (List Int)) ⊕ (D.assignment × Bool))=>
  match rl2 with
  | .inl s2r=>
   (Yb n p0 (D.assignment.mk s2r.1 s2r.2)).bind fun x6=>
   if (!x6.1) then
    some (default,false)
   else
    some (x6.2,true)
  | .inr v=>some v
 | .inr v=>some v
def ZW (n:Nat) (p0:D.assignment):Option Int :=
 (iterN (fun (s1 : Int) =>
  if (decide (s1 < (len p0.val))) then
   (get? p0.val s1).bind fun x1=>
   if (x1 == 0) then
    some (.inr (.inr s1))
   else
    some (.inl ((w64 (s1 + 1))))
  else
   some (.inr (.inl ()))
 ) n (1)).bind fun (rl1:(Unit) ⊕ Int)=>
 match rl1 with
 | .inl s1r=>
  some 0
 | .inr v=>some v
def Zy (n:Nat) (p0:D.solver) (p1:D.assignment) (p2:Int):Option (D.assignment × Bool):=
 (Ze p1.val).bind fun x1=>
 (Z9 (D.assignment.mk x1 ([]:List Int)) p2).bind fun x2=>
 if (!x2.1) then
  if true then
   some (default,false)
  else
   some (x2.2,true)
 else
  (Yb n p0 x2.2).bind fun x3=>
  if (!x3.1) then
   some (default,false)
  else
   some (x3.2,true)
def ZU (n:Nat) (p0:D.searcher) (p1:D.assignment):Option (Int × D.searcher):=
 match n with
 | 0=>none
 | n + 1=>
 (ZW n p1).bind fun x1=>
 if (x1 == 0) then
  (mk? p0.s.f.Vars (false:Bool)).bind fun x2 =>
  (iterN (fun (s1 : Int × (List Bool)) =>
   if (decide (s1.1 < (len x2))) then
    (get? p1.val (w64 (s1.1 + 1))).bind fun x3=>
    (set? s1.2 s1.1 (decide (x3 > 0))).bind fun x4=>
    some (.inl ((w64 (s1.1 + 1)),x4))
   else
    some (.inr (s1.2))
  ) n (0,x2)).bind fun (rl1:(List Bool))=>
  some (1,(D.searcher.mk p0.s p0.limit p0.splits rl1))
 else
  if (p0.splits == p0.limit) then
   some (3,p0)
  else
   (iterN (fun (s2 : Int × Int × Int × (List Bool)) =>
    if (decide (s2.1 < 2)) then
     (get? ([(w64 (0 - x1)),x1]:List Int) s2.1).bind fun x5=>
     (Zy n p0.s p1 x5).bind fun x6=>
     if (!x6.2) then
      some (.inl ((w64 (s2.1 + 1)),s2.2.1,s2.2.2.1,s2.2.2.2))
     else
      (ZU n (D.searcher.mk p0.s s2.2.1 s2.2.2.1 s2.2.2.2) x6.1).bind fun x7=>
      if (x7.1 != 2) then
       some (.inr (.inr (x7.1,(D.searcher.mk p0.s x7.2.limit x7.2.splits x7.2.model))))
      else
       some (.inl ((w64 (s2.1 + 1)),x7.2.limit,x7.2.splits,x7.2.model))
    else
     some (.inr (.inl (s2.2.1,s2.2.2.1,s2.2.2.2)))
   ) n (0,p0.limit,(w64 (p0.splits + 1)),p0.model)).bind fun (rl2:(Int × Int × (List Bool)) ⊕ (Int × D.searcher))=>
   match rl2 with
   | .inl s2r=>
    some (2,(D.searcher.mk p0.s s2r.1 s2r.2.1 s2r.2.2))
   | .inr v=>some v
def X0 (n:Nat) (p0:D.solver) (p1:List Int) (p2:Int):Option (Int × (List Bool) × Int):=
 (YH n p0 p1).bind fun x1=>
 if (!x1.2) then
  some (2,([]:List Bool),0)
 else
  (ZU n (D.searcher.mk p0 p2 0 ([]:List Bool)) x1.1).bind fun x2=>
  some (x2.1,x2.2.model,x2.2.splits)
def ZaG (n:Nat) (p0:D.Formula) (p1:List Int) (p2:Int):Option (Int × (List Bool) × Int):=
 (YT n p0).bind fun x1=>
 (if (!x1) then some default else (Yn n p1 p0.Vars)).bind fun x2=>
 (if ((!x1) || (!x2)) then some default else (YO p2)).bind fun x3=>
 if (((!x1) || (!x2)) || (!x3)) then
  some (0,([]:List Bool),0)
 else
  (XN n p0).bind fun x4=>
  (X0 n x4 p1 p2).bind fun x5=>
  some (x5.1,x5.2.1,x5.2.2)
def Xi (p0:Bool):Option Int:=
 if p0 then
  some 1
 else
  some 0
def Zaa (n:Nat) (p0:D.Term) (p1:List Bool):Option (List D.Value):=
 (Xv n p0).bind fun x1 =>
 (iterN (fun (s1 : Int × Int × (List D.Value)) =>
  if (decide (s1.2.1 < (len x1))) then
   (iterN (fun (s2 : Int × Int × (List D.Value)) =>
    (get? s2.2.2 s1.2.1).bind fun x2=>
    if (decide (s2.2.1 < x2.W)) then
     (get? s2.2.2 s1.2.1).bind fun x3=>
     (get? p1 (w64 (s2.1 - 1))).bind fun x4=>
     (Xi x4).bind fun x5=>
     (get? s2.2.2 s1.2.1).bind fun x6=>
     (set? s2.2.2 s1.2.1 ({ x6 with N:=(w64 ((w64 (2 * x3.N)) + x5)) }:D.Value)).bind fun x7=>
     some (.inl ((w64 (s2.1 + 1)),(w64 (s2.2.1 + 1)),x7))
    else
     some (.inr (s2.1,s2.2.2))
   ) n (s1.1,0,s1.2.2)).bind fun (rl2:Int × (List D.Value))=>
   some (.inl (rl2.1,(w64 (s1.2.1 + 1)),rl2.2))
  else
   some (.inr (s1.2.2))
 ) n (2,0,x1)).bind fun (rl1:(List D.Value))=>
 some rl1
def Xo (n:Nat) (p0:D.Term) (p1:Int):Option (Int × (List D.Value)):=
 (Xt n p0).bind fun x1=>
 (if ((!x1) || (p0.W != 1)) then some default else (YO p1)).bind fun x2=>
 if (((!x1) || (p0.W != 1)) || (!x2)) then
  some (0,([]:List D.Value))
 else
  (XM n p0).bind fun x3=>
  if (!x3.2.2) then
   some (3,([]:List D.Value))
  else
   (get? x3.2.1 0).bind fun x4=>
   (XH n x3.1 x4).bind fun x5=>
   if (!x5.2) then
    some (3,([]:List D.Value))
   else
    (ZaG n x5.1 ([]:List Int) p1).bind fun x6=>
    if (x6.1 != 1) then
     some (x6.1,([]:List D.Value))
    else
     (Zaa n p0 x6.2.1).bind fun x7=>
     some (1,x7)
def Xl (n:Nat) (p0:D.Term) (p1:Int):Option (Int × (List D.Value)):=
 (Xt n p0).bind fun x1=>
 (if ((!x1) || (p0.W != 1)) then some default else (YO p1)).bind fun x2=>
 if (((!x1) || (p0.W != 1)) || (!x2)) then
  some (0,([]:List D.Value))
 else
  (Xo n (D.Term.mk 1 1 0 ⟨[]⟩ ([p0]:List D.Term)) p1).bind fun x3=>
  if (x3.1 == 2) then
   some (1,([]:List D.Value))
  else
   if (x3.1 == 1) then
    some (2,x3.2)
   else
    some (x3.1,([]:List D.Value))
def Zav (p0:D.Value) (p1:D.Value):Option Bool:=
 if (!(Str.eqb p0.Name p1.Name)) then
  some false
 else
  if (p0.W != p1.W) then
   some false
  else
   if (p0.N != p1.N) then
    some false
   else
    some true
def Xj (n:Nat) (p0:List D.Value) (p1:List D.Value):Option Bool:=
 if ((len p0) != (len p1)) then
  some false
 else
  (iterN (fun (s1 : Int) =>
   if (decide (s1 < (len p0))) then
    (get? p0 s1).bind fun x1=>
    (get? p1 s1).bind fun x2=>
    (Zav x1 x2).bind fun x3=>
    if (!x3) then
     some (.inr (.inr false))
    else
     some (.inl ((w64 (s1 + 1))))
   else
    some (.inr (.inl ()))
  ) n (0)).bind fun (rl1:(Unit) ⊕ Bool)=>
  match rl1 with
  | .inl s1r=>
   some true
  | .inr v=>some v
mutual
def XQ (n:Nat) (p0:List D.Term) (p1:List D.Term):Option Bool:=
 match n with
 | 0=>none
 | n + 1=>
 if ((len p0) != (len p1)) then
  some false
 else
  (iterN (fun (s1 : Int) =>
   if (decide (s1 < (len p0))) then
    (get? p0 s1).bind fun x1=>
    (get? p1 s1).bind fun x2=>
    (Xd n x1 x2).bind fun x3=>
    if (!x3) then
     some (.inr (.inr false))
    else
     some (.inl ((w64 (s1 + 1))))
   else
    some (.inr (.inl ()))
  ) n (0)).bind fun (rl1:(Unit) ⊕ Bool)=>
  match rl1 with
  | .inl s1r=>
   some true
  | .inr v=>some v
def Xd (n:Nat) (p0:D.Term) (p1:D.Term):Option Bool:=
 match n with
 | 0=>none
 | n + 1=>
 if (p0.Op != p1.Op) then
  some false
 else
  if (p0.W != p1.W) then
   some false
  else
   if (p0.N != p1.N) then
    some false
   else
    if (!(Str.eqb p0.Name p1.Name)) then
     some false
    else
     (XQ n p0.Kids p1.Kids).bind fun x1=>
     if (!x1) then
      some false
     else
      some true
end
def Yf (n:Nat) (p0:Int):Option Str:=
 if (decide (p0 ≤ 0)) then
  some ⟨[109,48]⟩
 else
  (iterN (fun (s1 : Int × Str) =>
   if (decide (s1.1 > 0)) then
    (rem? s1.1 10).bind fun x1=>
    (cat? (strOf ([(Byt.mk (IntKind.u8.wrap (w64 (48 + x1))))]:List Byt)) s1.2).bind fun x2=>
    (quo? s1.1 10).bind fun x3=>
    some (.inl (x3,x2))
   else
    some (.inr (s1.2))
  ) n (p0,⟨[]⟩)).bind fun (rl1:Str)=>
  (cat? ⟨[109]⟩ rl1).bind fun x4=>
  some x4
def Yz (n:Nat) (p0:List D.Term) (p1:Int):Option (Int × (List D.Term)):=
 match n with
 | 0=>none
 | n + 1 =>
 (iterN (fun (s1 : Int × Int × (List D.Term)) =>
  if (decide (s1.2.1 < (len p0))) then
   (get? s1.2.2 s1.2.1).bind fun x1=>
   (Yf n (w64 ((w64 ((w64 (s1.1 + 1)) + 1)) + 1))).bind fun x2=>
   (Yz n x1.Kids (w64 ((w64 ((w64 ((w64 (s1.1 + 1)) + 1)) + 1)) + 1))).bind fun x3=>
   (set? s1.2.2 s1.2.1 (D.Term.mk s1.1 (w64 (s1.1 + 1)) (w64 ((w64 (s1.1 + 1)) + 1)) x2 x3.2)).bind fun x4=>
   some (.inl (x3.1,(w64 (s1.2.1 + 1)),x4))
  else
   some (.inr (s1.1,s1.2.2))
 ) n (p1,0,p0)).bind fun (rl1:Int × (List D.Term))=>
 some (rl1.1,rl1.2)
def Zab (n:Nat) (p0:D.Term) (p1:Int):Option (Int × D.Term):=
 (Yz n p0.Kids p1).bind fun x1=>
 some (x1.1,(D.Term.mk p0.Op p0.W p0.N p0.Name x1.2))
def X7 (n:Nat) (p0:List D.Value) (p1:Int):Option (Int × (List D.Value)) :=
 (iterN (fun (s1 : Int × Int × (List D.Value)) =>
  if (decide (s1.2.1 < (len p0))) then
   (Yf n s1.1).bind fun x1=>
   (get? s1.2.2 s1.2.1).bind fun x2=>
   (set? s1.2.2 s1.2.1 ({ x2 with Name:=x1 }:D.Value)).bind fun x3=>
   (get? x3 s1.2.1).bind fun x4=>
   (set? x3 s1.2.1 ({ x4 with W:=(w64 (s1.1 + 1)) }:D.Value)).bind fun x5=>
   (get? x5 s1.2.1).bind fun x6=>
   (set? x5 s1.2.1 ({ x6 with N:=(w64 ((w64 (s1.1 + 1)) + 1)) }:D.Value)).bind fun x7=>
   some (.inl ((w64 ((w64 ((w64 (s1.1 + 1)) + 1)) + 1)),(w64 (s1.2.1 + 1)),x7))
  else
   some (.inr (s1.1,s1.2.2))
 ) n (p1,0,p0)).bind fun (rl1:Int × (List D.Value))=>
 some (rl1.1,rl1.2)
def Xc (n:Nat) (p0:List D.Value) (p1:Int):Option Int :=
 (iterN (fun (s1 : Int × Int) =>
  if (decide (s1.2 < (len p0))) then
   (get? p0 s1.2).bind fun x1=>
   (Yf n s1.1).bind fun x2=>
   if (!(Str.eqb x1.Name x2)) then
    some (.inr (.inr (-1)))
   else
    (get? p0 s1.2).bind fun x3=>
    if (x3.W != (w64 (s1.1 + 1))) then
     some (.inr (.inr (-1)))
    else
     (get? p0 s1.2).bind fun x4=>
     if (x4.N != (w64 ((w64 (s1.1 + 1)) + 1))) then
      some (.inr (.inr (-1)))
     else
      some (.inl ((w64 ((w64 ((w64 (s1.1 + 1)) + 1)) + 1)),(w64 (s1.2 + 1))))
  else
   some (.inr (.inl (s1.1)))
 ) n (p1,0)).bind fun (rl1:(Int) ⊕ Int)=>
 match rl1 with
 | .inl s1r=>
  some s1r
 | .inr v=>some v
def YZ (n:Nat) (p0:D.Term) (p1:Int):Option Bool:=
 (Xe n p0 1048576).bind fun x1=>
 if (decide (x1 < 0)) then
  some true
 else
  (Y1 n p0).bind fun x2=>
  (XI n x2 p1).bind fun x3=>
  (Y1 n p0).bind fun x4=>
  (Xl n x4 p1).bind fun x5=>
  (if (x5.1 != x3.1) then some default else (Xj n x5.2 x3.2)).bind fun x6=>
  if ((x5.1 != x3.1) || (!x6)) then
   some false
  else
   (Y1 n p0).bind fun x7=>
   (Xd n x4 x7).bind fun x8=>
   if (!x8) then
    some false
   else
    (Zab n x4 1).bind fun x9=>
    (if ((decide (x9.1 < 0)) || (x5.1 != x3.1)) then some default else (Xj n x5.2 x3.2)).bind fun x10=>
    if (((decide (x9.1 < 0)) || (x5.1 != x3.1)) || (!x10)) then
     some false
    else
     (X7 n x5.2 1).bind fun x11=>
     (Xc n x11.2 1).bind fun x12=>
     if (decide (x12 < 0)) then
      some false
     else
      if (x12 != x11.1) then
       some false
      else
       (Y1 n p0).bind fun x13=>
       (Xl n x13 p1).bind fun x14=>
       (if (x14.1 != x3.1) then some default else (Xj n x14.2 x3.2)).bind fun x15=>
       if ((x14.1 != x3.1) || (!x15)) then
        some false
       else
        (Xc n x11.2 1).bind fun x16=>
        if (decide (x16 < 0)) then
         some false
        else
         if (x16 != x11.1) then
          some false
         else
          some true
end Go.GL
