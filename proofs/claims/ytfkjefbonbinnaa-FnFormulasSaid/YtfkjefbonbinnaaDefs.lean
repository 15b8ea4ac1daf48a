/- Go functions as Lean functions, printed by a program. -/
import Derived.Test.YtfkjefbonbinnaaLib1
set_option linter.unusedVariables false
namespace Go.GL
structure D.solver where
  f:D.Formula
  occ:List (List Int)
deriving Inhabited
structure D.assignment where
  val:List Int
  queue:List Int
deriving Inhabited
structure D.searcher where
  s:D.solver
  limit:Int
  splits:Int
  model:List Bool
deriving Inhabited
abbrev lstr0:Str:=⟨[0,1,2,2,3,3,3,3,4,4,4,4,4,4,4,4,5,5,5,5,5,5,5,5,5,5,5,5,5,5,5,5,6,6,6,6,6,6,6,6,6,6,6,6,6,6,6,6,6,6,6,6,6,6,6,6,6,6,6,6,6,6,6,6,7,7,7,7,7,7,7,7,7,7,7,7,7,7,7,7,7,7,7,7,7,7,7,7,7,7,7,7,7,7,7,7,7,7,7,7,7,7,7,7,7,7,7,7,7,7,7,7,7,7,7,7,7,7,7,7,7,7,7,7,7,7,7,7,8,8,8,8,8,8,8,8,8,8,8,8,8,8,8,8,8,8,8,8,8,8,8,8,8,8,8,8,8,8,8,8,8,8,8,8,8,8,8,8,8,8,8,8,8,8,8,8,8,8,8,8,8,8,8,8,8,8,8,8,8,8,8,8,8,8,8,8,8,8,8,8,8,8,8,8,8,8,8,8,8,8,8,8,8,8,8,8,8,8,8,8,8,8,8,8,8,8,8,8,8,8,8,8,8,8,8,8,8,8,8,8,8,8,8,8,8,8,8,8,8,8,8,8,8,8,8,8]⟩
def YC (n:Nat) (p0:List Byt):Option D.l01Cur :=
 (iterN (fun (s1 : Int × Int) =>
  if ((decide (s1.2 < (len p0))) && (decide (s1.2 < 4000))) then
   (get? p0 s1.2).bind fun x1=>
   some (.inl ((band (w64 ((w64 ((w64 (s1.1 * 131)) + (w64 x1.n))) + 7)) 1073741823),(w64 (s1.2 + 1))))
  else
   some (.inr (s1.1))
 ) n ((w64 (55127 + (len p0))),0)).bind fun (rl1:Int)=>
 some (D.l01Cur.mk p0 0 rl1)
def Y5 (n:Nat) (p0:List Byt) (p1:Int):Option D.l01Cur:=
 (YC n p0).bind fun x1=>
 some (D.l01Cur.mk x1.b (imin p1 (len p0)) (band (w64 ((w64 ((w64 (x1.h * 31)) + (w64 (p1 * 7919)))) + 1)) 1073741823))
def Yx (p0:D.l01Cur):Option (Int × D.l01Cur):=
 (shr? (w64 ((w64 (p0.h * 6364136223846793005)) + 1442695040888963407)) 33).bind fun x1=>
 (shr? (w64 ((w64 (p0.h * 6364136223846793005)) + 1442695040888963407)) 45).bind fun x2=>
 if (decide (p0.i < (len p0.b))) then
  (get? p0.b p0.i).bind fun x3=>
  some ((band (w64 ((band (bxor x1 x2) 255) + (w64 x3.n))) 255),(D.l01Cur.mk p0.b (w64 (p0.i + 1)) (w64 ((w64 (p0.h * 6364136223846793005)) + 1442695040888963407))))
 else
  some ((band (bxor x1 x2) 255),(D.l01Cur.mk p0.b p0.i (w64 ((w64 (p0.h * 6364136223846793005)) + 1442695040888963407))))
def Z9 (p0:D.l01Cur) (p1:Int):Option (Int × D.l01Cur):=
 if (decide (p1 ≤ 0)) then
  some (0,p0)
 else
  (Yx p0).bind fun x1=>
  (rem? x1.1 p1).bind fun x2=>
  some (x2,(D.l01Cur.mk p0.b x1.2.i x1.2.h))
def YA (p0:D.Circuit):Option D.l04Net:=
 (app? ([]:List D.Gate) p0.Gates).bind fun x1=>
 some (D.l04Net.mk (D.Circuit.mk p0.Inputs x1) false)
def Yw (p0:D.l01Cur) (p1:Int):Option (Bool × D.l01Cur):=
 (Z9 p0 p1).bind fun x1=>
 some ((x1.1 == 0),(D.l01Cur.mk p0.b x1.2.i x1.2.h))
def Z6 (p0:D.l01Cur) (p1:D.Circuit):Option (Int × D.l01Cur):=
 (Z9 p0 (w64 ((w64 (p1.Inputs + 1)) + (len p1.Gates)))).bind fun x1=>
 (Yw (D.l01Cur.mk p0.b x1.2.i x1.2.h) 2).bind fun x2=>
 if x2.1 then
  some ((w64 (0 - (w64 (1 + x1.1)))),(D.l01Cur.mk p0.b x2.2.i x2.2.h))
 else
  some ((w64 (1 + x1.1)),(D.l01Cur.mk p0.b x2.2.i x2.2.h))
def Zt (p0:Int):Option Int:=
 if (decide (p0 < 0)) then
  some (w64 (0 - p0))
 else
  some p0
def Zx (n:Nat) (p0:D.l04Net) (p1:Int) (p2:Int):Option (Int × D.l04Net):=
 if (((p1 == (-1)) || (p2 == (-1))) || (p1 == (w64 (0 - p2)))) then
  some ((-1),p0)
 else
  if (p1 == 1) then
   some (p2,p0)
  else
   if ((p2 == 1) || (p1 == p2)) then
    some (p1,p0)
   else
    (Zt p1).bind fun x1=>
    (Zt p2).bind fun x2 =>
    (iterN (fun (s1 : Int) =>
     if (decide (s1 < (len p0.c.Gates))) then
      (get? p0.c.Gates s1).bind fun x3=>
      if (decide ((D.Gate.mk (cond (decide (x1 > x2)) p2 p1) (cond (decide (x1 > x2)) p1 p2)) = x3)) then
       some (.inr (.inr ((w64 ((w64 (p0.c.Inputs + 2)) + s1)),p0)))
      else
       some (.inl ((w64 (s1 + 1))))
     else
      some (.inr (.inl ()))
    ) n (0)).bind fun (rl1:(Unit) ⊕ (Int × D.l04Net))=>
    match rl1 with
    | .inl s1r=>
     if (decide ((len p0.c.Gates) ≥ 360)) then
      some ((-1),(D.l04Net.mk p0.c true))
     else
      (app? p0.c.Gates ([(D.Gate.mk (cond (decide (x1 > x2)) p2 p1) (cond (decide (x1 > x2)) p1 p2))]:List D.Gate)).bind fun x4=>
      some ((w64 ((w64 (p0.c.Inputs + 1)) + (len x4))),(D.l04Net.mk (D.Circuit.mk p0.c.Inputs x4) p0.full))
    | .inr v=>some v
def Yi (n:Nat) (p0:D.l01Cur):Option (D.Circuit × D.l01Cur):=
 (Z9 p0 6).bind fun x1=>
 (YA (D.Circuit.mk (w64 (1 + x1.1)) ([]:List D.Gate))).bind fun x2=>
 (Z9 (D.l01Cur.mk p0.b x1.2.i x1.2.h) 8).bind fun x3 =>
 (iterN (fun (s1 : Int × Int × Bool × (List D.Gate) × Int × Int) =>
  if (decide (s1.1 > 0)) then
   (Z6 (D.l01Cur.mk p0.b s1.2.2.2.2.1 s1.2.2.2.2.2) (D.Circuit.mk s1.2.1 s1.2.2.2.1)).bind fun x4=>
   (Z6 (D.l01Cur.mk p0.b x4.2.i x4.2.h) (D.Circuit.mk s1.2.1 s1.2.2.2.1)).bind fun x5=>
   (Zx n (D.l04Net.mk (D.Circuit.mk s1.2.1 s1.2.2.2.1) s1.2.2.1) x4.1 x5.1).bind fun x6=>
   some (.inl ((w64 (s1.1 - 1)),x6.2.c.Inputs,x6.2.full,x6.2.c.Gates,x5.2.i,x5.2.h))
  else
   some (.inr (s1.2.1,s1.2.2.1,s1.2.2.2.1,s1.2.2.2.2.1,s1.2.2.2.2.2))
 ) n (x3.1,x2.c.Inputs,x2.full,x2.c.Gates,x3.2.i,x3.2.h)).bind fun (rl1:Int × Bool × (List D.Gate) × Int × Int)=>
 some ((D.Circuit.mk rl1.1 rl1.2.2.1),(D.l01Cur.mk p0.b rl1.2.2.2.1 rl1.2.2.2.2))
def ZM (n:Nat) (p0:List Byt) (p1:Int):Option D.Circuit:=
 (Y5 n p0 p1).bind fun x1=>
 (Yi n x1).bind fun x2=>
 some x2.1
def Y0 (n:Nat) (p0:List Byt) (p1:Int) (p2:D.Circuit):Option Int:=
 (Y5 n p0 p1).bind fun x1=>
 (Z6 x1 p2).bind fun x2=>
 some x2.1
def Zm (p0:Int) (p1:Int):Option Bool:=
 some (((p0 != 0) && (decide (p0 ≥ (w64 (0 - p1))))) && (decide (p0 ≤ p1)))
def Zp (p0:Int):Option Int:=
 if (decide (p0 < 0)) then
  some (w64 (0 - p0))
 else
  some p0
def ZW (n:Nat) (p0:D.Circuit):Option Bool:=
 if (((decide (p0.Inputs < 0)) || (decide (p0.Inputs > 30))) || (decide ((len p0.Gates) > 360))) then
  some false
 else
  (iterN (fun (s1 : Int × (List (D.Gate × Bool))) =>
   if (decide (s1.1 < (len p0.Gates))) then
    (get? p0.Gates s1.1).bind fun x1=>
    (Zm x1.A (w64 ((w64 (1 + p0.Inputs)) + s1.1))).bind fun x2=>
    (if (!x2) then some default else (Zm x1.B (w64 ((w64 (1 + p0.Inputs)) + s1.1)))).bind fun x3=>
    (if ((!x2) || (!x3)) then some default else (mget? ZT (false:Bool) s1.2 x1)).bind fun x4=>
    if (((!x2) || (!x3)) || x4) then
     some (.inr (.inr false))
    else
     (Zp x1.A).bind fun x5=>
     (if (decide (x5 < 2)) then some default else (Zp x1.A)).bind fun x6=>
     (if (decide (x5 < 2)) then some default else (Zp x1.B)).bind fun x7=>
     if ((decide (x5 < 2)) || (decide (x6 ≥ x7))) then
      some (.inr (.inr false))
     else
      (mput? ZT s1.2 x1 true).bind fun x8=>
      some (.inl ((w64 (s1.1 + 1)),x8))
   else
    some (.inr (.inl (s1.2)))
  ) n (0,[])).bind fun (rl1:((List (D.Gate × Bool))) ⊕ Bool)=>
  match rl1 with
  | .inl s1r=>
   some true
  | .inr v=>some v
def Ye (p0:D.Circuit):Option Int:=
 some (w64 ((w64 (1 + p0.Inputs)) + (len p0.Gates)))
def Zw (n:Nat) (p0:List Int) (p1:Int):Option Bool :=
 (iterN (fun (s1 : Int) =>
  if (decide (s1 < (len p0))) then
   (get? p0 s1).bind fun x1=>
   (Zm x1 p1).bind fun x2=>
   if (!x2) then
    some (.inr (.inr false))
   else
    some (.inl ((w64 (s1 + 1))))
  else
   some (.inr (.inl ()))
 ) n (0)).bind fun (rl1:(Unit) ⊕ Bool)=>
 match rl1 with
 | .inl s1r=>
  some true
 | .inr v=>some v
def Zl (p0:List Int):Option (List Int):=
 (app? ([]:List Int) p0).bind fun x1=>
 some x1
def YG (p0:Int):Option Int:=
 if (decide (p0 ≥ 4294967296)) then
  (shrK? .u64 p0 32).bind fun x1=>
  if (decide (x1 ≥ 65536)) then
   (shrK? .u64 x1 16).bind fun x2=>
   if (decide (x2 ≥ 256)) then
    (shrK? .u64 x2 8).bind fun x3=>
    (sidx? lstr0 (IntKind.u8.wrap x3)).bind fun x4=>
    some (w64 ((w64 ((w64 (32 + 16)) + 8)) + (w64 x4)))
   else
    (sidx? lstr0 (IntKind.u8.wrap x2)).bind fun x5=>
    some (w64 ((w64 (32 + 16)) + (w64 x5)))
  else
   if (decide (x1 ≥ 256)) then
    (shrK? .u64 x1 8).bind fun x6=>
    (sidx? lstr0 (IntKind.u8.wrap x6)).bind fun x7=>
    some (w64 ((w64 (32 + 8)) + (w64 x7)))
   else
    (sidx? lstr0 (IntKind.u8.wrap x1)).bind fun x8=>
    some (w64 (32 + (w64 x8)))
 else
  if (decide (p0 ≥ 65536)) then
   (shrK? .u64 p0 16).bind fun x9=>
   if (decide (x9 ≥ 256)) then
    (shrK? .u64 x9 8).bind fun x10=>
    (sidx? lstr0 (IntKind.u8.wrap x10)).bind fun x11=>
    some (w64 ((w64 ((w64 (0 + 16)) + 8)) + (w64 x11)))
   else
    (sidx? lstr0 (IntKind.u8.wrap x9)).bind fun x12=>
    some (w64 ((w64 (0 + 16)) + (w64 x12)))
  else
   if (decide (p0 ≥ 256)) then
    (shrK? .u64 p0 8).bind fun x13=>
    (sidx? lstr0 (IntKind.u8.wrap x13)).bind fun x14=>
    some (w64 ((w64 (0 + 8)) + (w64 x14)))
   else
    (sidx? lstr0 (IntKind.u8.wrap p0)).bind fun x15=>
    some (w64 (0 + (w64 x15)))
def Yl (p0:Int):Option Int:=
 if false then
  none
 else
  (YG p0).bind fun x1=>
  some x1
def ZN (p0:Int):Option Bool:=
 some (p0 != p0)
def ZG (p0:Int) (p1:Int):Option Int:=
 (ZN p0).bind fun x1=>
 (ZN p1).bind fun x2=>
 if x1 then
  if x2 then
   some 0
  else
   some (-1)
 else
  if x2 then
   some 1
  else
   if (decide (p0 < p1)) then
    some (-1)
   else
    if (decide (p0 > p1)) then
     some 1
    else
     some 0
def Z5 (p0:Int) (p1:Int):Option Int:=
 (Zp p0).bind fun x1=>
 (Zp p1).bind fun x2=>
 (ZG x1 x2).bind fun x3=>
 if (x3 != 0) then
  some x3
 else
  (ZG p0 p1).bind fun x4=>
  some x4
def Zi (n:Nat) (p0:List Int):Option (List Int):=
 if (decide ((len p0) < 2)) then
  some p0
 else
  (iterN (fun (s1 : Int) =>
   if (decide (s1 < (len p0))) then
    (get? p0 s1).bind fun x1=>
    (get? p0 (w64 (s1 - 1))).bind fun x2=>
    if (x1 == x2) then
     none
    else
     some (.inl ((w64 (s1 + 1))))
   else
    some (.inr (.inl ()))
  ) n (1)).bind fun (rl1:(Unit) ⊕ (List Int))=>
  match rl1 with
  | .inl s1r=>
   some p0
  | .inr v=>some v
def Z0 (n:Nat) (p0:List Int) (p1:Int):Option Bool:=
 (Zw n p0 p1).bind fun x1=>
 if (!x1) then
  some false
 else
  (iterN (fun (s1 : Int) =>
   if (decide (s1 < (len p0))) then
    (get? p0 (w64 (s1 - 1))).bind fun x2=>
    (Zp x2).bind fun x3=>
    (get? p0 s1).bind fun x4=>
    (Zp x4).bind fun x5=>
    if (decide (x3 ≥ x5)) then
     some (.inr (.inr false))
    else
     some (.inl ((w64 (s1 + 1))))
   else
    some (.inr (.inl ()))
  ) n (1)).bind fun (rl1:(Unit) ⊕ Bool)=>
  match rl1 with
  | .inl s1r=>
   some true
  | .inr v=>some v
def Zb (n:Nat) (p0:List Int) (p1:Int) (p2:Int):Option (List Int) :=
 (iterN (fun (s1 : Int × (List Int)) =>
  if (decide (s1.1 < p2)) then
   (iterN (fun (s2 : Int × (List Int)) =>
    (if (decide (s2.1 > p1)) then (get? s2.2 s2.1) else some default).bind fun x1=>
    (if (decide (s2.1 > p1)) then (get? s2.2 (w64 (s2.1 - 1))) else some default).bind fun x2=>
    (if (decide (s2.1 > p1)) then (Z5 x1 x2) else some default).bind fun x3=>
    if ((decide (s2.1 > p1)) && (decide (x3 < 0))) then
     (get? s2.2 (w64 (s2.1 - 1))).bind fun x4=>
     (get? s2.2 s2.1).bind fun x5=>
     (set? s2.2 s2.1 x4).bind fun x6=>
     (set? x6 (w64 (s2.1 - 1)) x5).bind fun x7=>
     some (.inl ((w64 (s2.1 - 1)),x7))
    else
     some (.inr (s2.2))
   ) n (s1.1,s1.2)).bind fun (rl2:(List Int))=>
   some (.inl ((w64 (s1.1 + 1)),rl2))
  else
   some (.inr (s1.2))
 ) n ((w64 (p1 + 1)),p0)).bind fun (rl1:(List Int))=>
 some rl1
def Zg (n:Nat) (p0:List Int) (p1:Int) (p2:Int) (p3:Int):Option (List Int) :=
 (iterN (fun (s1 : Int × Int × Int × Bool × Bool) =>
  if (decide ((w64 (s1.2.1 - s1.1)) ≤ 12)) then
   (Zb n p0 s1.1 s1.2.1).bind fun x1=>
   some (.inr (.inr x1))
  else
   if (s1.2.2.1 == 0) then
    none
   else
    if (!s1.2.2.2.1) then
     none
    else
     none
 ) n (p1,p2,p3,true,true)).bind fun (rl1:(Unit) ⊕ (List Int))=>
 match rl1 with
 | .inl s1r=>
  some p0
 | .inr v=>some v
def Za (n:Nat) (p0:List Int):Option (List Int):=
 (Yl (IntKind.u64.wrap (len p0))).bind fun x1=>
 (Zg n p0 0 (len p0) x1).bind fun x2=>
 some x2
def Zq (n:Nat) (p0:List Int):Option ((List Int) × Bool):=
 (Zw n p0 400).bind fun x1=>
 if (!x1) then
  some (([]:List Int),false)
 else
  (Zl p0).bind fun x2=>
  (Za n x2).bind fun x3=>
  (Zi n x3).bind fun x4=>
  (Z0 n x4 400).bind fun x5=>
  if (!x5) then
   some (([]:List Int),false)
  else
   some (x4,true)
def ZX (n:Nat) (p0:D.Circuit) (p1:Int):Option (D.Formula × Bool):=
 (ZW n p0).bind fun x1=>
 (if (!x1) then some default else (Ye p0)).bind fun x2=>
 (if (!x1) then some default else (Zm p1 x2)).bind fun x3=>
 if ((!x1) || (!x3)) then
  some ((D.Formula.mk 0 ([]:List (List Int))),false)
 else
  (Ye p0).bind fun x4 =>
  (iterN (fun (s1 : Int × (List (List Int))) =>
   if (decide (s1.1 < (len p0.Gates))) then
    (get? p0.Gates s1.1).bind fun x5 =>
    (iterN (fun (s2 : Int × (List (List Int))) =>
     if (decide (s2.1 < (len ([([(w64 (0 - (w64 ((w64 (2 + p0.Inputs)) + s1.1)))),x5.A]:List Int),([(w64 (0 - (w64 ((w64 (2 + p0.Inputs)) + s1.1)))),x5.B]:List Int),([(w64 ((w64 (2 + p0.Inputs)) + s1.1)),(w64 (0 - x5.A)),(w64 (0 - x5.B))]:List Int)]:List (List Int))))) then
      (get? ([([(w64 (0 - (w64 ((w64 (2 + p0.Inputs)) + s1.1)))),x5.A]:List Int),([(w64 (0 - (w64 ((w64 (2 + p0.Inputs)) + s1.1)))),x5.B]:List Int),([(w64 ((w64 (2 + p0.Inputs)) + s1.1)),(w64 (0 - x5.A)),(w64 (0 - x5.B))]:List Int)]:List (List Int)) s2.1).bind fun x6=>
      (Zq n x6).bind fun x7=>
      (app? s2.2 ([x7.1]:List (List Int))).bind fun x8=>
      some (.inl ((w64 (s2.1 + 1)),x8))
     else
      some (.inr (s2.2))
    ) n (0,s1.2)).bind fun (rl2:(List (List Int)))=>
    some (.inl ((w64 (s1.1 + 1)),rl2))
   else
    some (.inr (s1.2))
  ) n (0,([([1]:List Int)]:List (List Int)))).bind fun (rl1:(List (List Int)))=>
  (app? rl1 ([([p1]:List Int)]:List (List Int))).bind fun x9=>
  some ((D.Formula.mk x4 x9),true)
def ZE (p0:Int) (p1:Int) (p2:Int):Option Bool:=
 some ((decide (p0 ≥ p1)) && (decide (p0 ≤ p2)))
def ZY (n:Nat) (p0:List Int) (p1:Int):Option Bool :=
 (iterN (fun (s1 : Int × Int) =>
  if (decide (s1.2 < (len p0))) then
   (get? p0 s1.2).bind fun x1=>
   (ZE x1 (w64 (0 - p1)) p1).bind fun x2=>
   (if (!x2) then some default else (Zt x1)).bind fun x3=>
   if ((!x2) || (decide (x3 ≤ s1.1))) then
    some (.inr (.inr false))
   else
    (Zt x1).bind fun x4=>
    some (.inl (x4,(w64 (s1.2 + 1))))
  else
   some (.inr (.inl ()))
 ) n (0,0)).bind fun (rl1:(Unit) ⊕ Bool)=>
 match rl1 with
 | .inl s1r=>
  some true
 | .inr v=>some v
def ZL (n:Nat) (p0:D.Formula):Option Bool:=
 (ZE p0.Vars 0 400).bind fun x1=>
 if ((!x1) || (decide ((len p0.Clauses) > 1600))) then
  some false
 else
  (iterN (fun (s1 : Int) =>
   if (decide (s1 < (len p0.Clauses))) then
    (get? p0.Clauses s1).bind fun x2=>
    (ZY n x2 p0.Vars).bind fun x3=>
    if (!x3) then
     some (.inr (.inr false))
    else
     some (.inl ((w64 (s1 + 1))))
   else
    some (.inr (.inl ()))
  ) n (0)).bind fun (rl1:(Unit) ⊕ Bool)=>
  match rl1 with
  | .inl s1r=>
   some true
  | .inr v=>some v
def Y4 (n:Nat) (p0:Int) (p1:Int):Option (List Bool) :=
 (iterN (fun (s1 : Int × (List Bool)) =>
  if (decide (s1.1 < p0)) then
   (shr? p1 s1.1).bind fun x1=>
   (app? s1.2 ([((band x1 1) == 1)]:List Bool)).bind fun x2=>
   some (.inl ((w64 (s1.1 + 1)),x2))
  else
   some (.inr (s1.2))
 ) n (0,([]:List Bool))).bind fun (rl1:(List Bool))=>
 some rl1
def ZZ (n:Nat) (p0:D.Circuit):Option Bool:=
 (ZE p0.Inputs 0 30).bind fun x1=>
 if ((!x1) || (decide ((len p0.Gates) > 360))) then
  some false
 else
  (iterN (fun (s1 : Int) =>
   if (decide (s1 < (len p0.Gates))) then
    (get? p0.Gates s1).bind fun x2=>
    (ZE x2.A (w64 (0 - (w64 ((w64 (p0.Inputs + 1)) + s1)))) (w64 ((w64 (p0.Inputs + 1)) + s1))).bind fun x3=>
    (if (!x3) then some default else (ZE x2.B (w64 (0 - (w64 ((w64 (p0.Inputs + 1)) + s1)))) (w64 ((w64 (p0.Inputs + 1)) + s1)))).bind fun x4=>
    (if ((!x3) || (!x4)) then some default else (Zt x2.A)).bind fun x5=>
    (if (((!x3) || (!x4)) || (decide (x5 < 2))) then some default else (Zt x2.A)).bind fun x6=>
    (if (((!x3) || (!x4)) || (decide (x5 < 2))) then some default else (Zt x2.B)).bind fun x7=>
    if ((((!x3) || (!x4)) || (decide (x5 < 2))) || (decide (x6 ≥ x7))) then
     some (.inr (.inr false))
    else
     (cut? p0.Gates 0 s1).bind fun x8 =>
     (iterN (fun (s2 : Int) =>
      if (decide (s2 < (len x8))) then
       (get? x8 s2).bind fun x9=>
       if (decide (x2 = x9)) then
        some (.inr (.inr false))
       else
        some (.inl ((w64 (s2 + 1))))
      else
       some (.inr (.inl ()))
     ) n (0)).bind fun (rl2:(Unit) ⊕ Bool)=>
     match rl2 with
     | .inl s2r=>
      some (.inl ((w64 (s1 + 1))))
     | .inr v=>some (.inr (.inr v))
   else
    some (.inr (.inl ()))
  ) n (0)).bind fun (rl1:(Unit) ⊕ Bool)=>
  match rl1 with
  | .inl s1r=>
   some true
  | .inr v=>some v
def Yh (p0:List Bool) (p1:Int):Option Bool:=
 (Zt p1).bind fun x1=>
 (get? p0 (w64 (x1 - 1))).bind fun x2=>
 some (x2 == (decide (p1 > 0)))
def Z7 (n:Nat) (p0:D.Circuit) (p1:List Bool):Option (List Bool):=
 (ZZ n p0).bind fun x1=>
 if ((!x1) || ((len p1) != p0.Inputs)) then
  some ([]:List Bool)
 else
  (app? ([true]:List Bool) p1).bind fun x2 =>
  (iterN (fun (s1 : Int × (List Bool)) =>
   if (decide (s1.1 < (len p0.Gates))) then
    (get? p0.Gates s1.1).bind fun x3=>
    (Yh s1.2 x3.A).bind fun x4=>
    if x4 then
     (Yh s1.2 x3.B).bind fun x5=>
     (app? s1.2 ([x5]:List Bool)).bind fun x6=>
     some (.inl ((w64 (s1.1 + 1)),x6))
    else
     (app? s1.2 ([false]:List Bool)).bind fun x7=>
     some (.inl ((w64 (s1.1 + 1)),x7))
   else
    some (.inr (s1.2))
  ) n (0,x2)).bind fun (rl1:(List Bool))=>
  some rl1
def Zv (n:Nat) (p0:D.Formula):Option Bool:=
 if (((decide (p0.Vars < 0)) || (decide (p0.Vars > 400))) || (decide ((len p0.Clauses) > 1600))) then
  some false
 else
  (iterN (fun (s1 : Int) =>
   if (decide (s1 < (len p0.Clauses))) then
    (get? p0.Clauses s1).bind fun x1=>
    (Z0 n x1 p0.Vars).bind fun x2=>
    if (!x2) then
     some (.inr (.inr false))
    else
     some (.inl ((w64 (s1 + 1))))
   else
    some (.inr (.inl ()))
  ) n (0)).bind fun (rl1:(Unit) ⊕ Bool)=>
  match rl1 with
  | .inl s1r=>
   some true
  | .inr v=>some v
def ZP (n:Nat) (p0:D.Formula) (p1:List Bool):Option Bool :=
 (iterN (fun (s1 : Int) =>
  if (decide (s1 < (len p0.Clauses))) then
   (get? p0.Clauses s1).bind fun x1 =>
   (iterN (fun (s2 : Bool × Int) =>
    if (decide (s2.2 < (len x1))) then
     (get? x1 s2.2).bind fun x2=>
     (Zp x2).bind fun x3=>
     (get? p1 (w64 (x3 - 1))).bind fun x4=>
     if (x4 == (decide (x2 > 0))) then
      some (.inr (true))
     else
      some (.inl (s2.1,(w64 (s2.2 + 1))))
    else
     some (.inr (s2.1))
   ) n (false,0)).bind fun (rl2:Bool)=>
   if (!rl2) then
    some (.inr (.inr false))
   else
    some (.inl ((w64 (s1 + 1))))
  else
   some (.inr (.inl ()))
 ) n (0)).bind fun (rl1:(Unit) ⊕ Bool)=>
 match rl1 with
 | .inl s1r=>
  some true
 | .inr v=>some v
def ZH (n:Nat) (p0:D.Formula) (p1:List Bool):Option Bool:=
 (Zv n p0).bind fun x1=>
 if ((!x1) || ((len p1) != p0.Vars)) then
  some false
 else
  (ZP n p0 p1).bind fun x2=>
  some x2
def Yg (n:Nat) (p0:List Bool) (p1:List Int):Option Int :=
 (iterN (fun (s1 : Int × Int) =>
  if (decide (s1.2 < (len p1))) then
   (get? p1 s1.2).bind fun x1=>
   if ((decide ((cond (decide (x1 < 0)) (w64 (0 - x1)) x1) < 1)) || (decide ((cond (decide (x1 < 0)) (w64 (0 - x1)) x1) > (len p0)))) then
    some (.inr (.inr (-1)))
   else
    (get? p0 (w64 ((cond (decide (x1 < 0)) (w64 (0 - x1)) x1) - 1))).bind fun x2=>
    if (x2 == (decide (x1 > 0))) then
     (shl? 1 s1.2).bind fun x3=>
     some (.inl ((w64 (s1.1 + x3)),(w64 (s1.2 + 1))))
    else
     some (.inl (s1.1,(w64 (s1.2 + 1))))
  else
   some (.inr (.inl (s1.1)))
 ) n (0,0)).bind fun (rl1:(Int) ⊕ Int)=>
 match rl1 with
 | .inl s1r=>
  some s1r
 | .inr v=>some v
def Zy (n:Nat) (p0:D.Formula):Option Int:=
 (Zv n p0).bind fun x1=>
 if ((!x1) || (decide (p0.Vars > 12))) then
  some (-1)
 else
  (mk? p0.Vars (false:Bool)).bind fun x2 =>
  (iterN (fun (s1 : Int × Int × (List Bool)) =>
   (shl? 1 (IntKind.u64.wrap p0.Vars)).bind fun x3=>
   if (decide (s1.2.1 < x3)) then
    (iterN (fun (s2 : Int × (List Bool)) =>
     if (decide (s2.1 < (len s1.2.2))) then
      (shr? s1.2.1 (IntKind.u64.wrap s2.1)).bind fun x4=>
      (set? s2.2 s2.1 ((band x4 1) == 1)).bind fun x5=>
      some (.inl ((w64 (s2.1 + 1)),x5))
     else
      some (.inr (s2.2))
    ) n (0,s1.2.2)).bind fun (rl2:(List Bool))=>
    (ZP n p0 rl2).bind fun x6=>
    some (.inl ((cond x6 (w64 (s1.1 + 1)) s1.1),(w64 (s1.2.1 + 1)),rl2))
   else
    some (.inr (s1.1,s1.2.2))
  ) n (0,0,x2)).bind fun (rl1:Int × (List Bool))=>
  some rl1.1
def Yy (p0:Int):Option Bool:=
 some ((decide (p0 ≥ 0)) && (decide (p0 ≤ 3000)))
def Yc (n:Nat) (p0:D.Formula):Option D.solver:=
 (mk? (w64 ((w64 (2 * p0.Vars)) + 1)) (([]:List Int):List Int)).bind fun x1 =>
 (iterN (fun (s1 : Int × (List (List Int))) =>
  if (decide (s1.1 < (len p0.Clauses))) then
   (get? p0.Clauses s1.1).bind fun x2 =>
   (iterN (fun (s2 : Int × (List (List Int))) =>
    if (decide (s2.1 < (len x2))) then
     (get? x2 s2.1).bind fun x3=>
     (get? s2.2 (w64 (x3 + p0.Vars))).bind fun x4=>
     (app? x4 ([s1.1]:List Int)).bind fun x5=>
     (set? s2.2 (w64 (x3 + p0.Vars)) x5).bind fun x6=>
     some (.inl ((w64 (s2.1 + 1)),x6))
    else
     some (.inr (s2.2))
   ) n (0,s1.2)).bind fun (rl2:(List (List Int)))=>
   some (.inl ((w64 (s1.1 + 1)),rl2))
  else
   some (.inr (s1.2))
 ) n (0,x1)).bind fun (rl1:(List (List Int)))=>
 some (D.solver.mk p0 rl1)
def Zk (p0:D.assignment) (p1:Int):Option (Bool × D.assignment):=
 (get? p0.val (cond (decide (p1 < 0)) (w64 (0 - p1)) p1)).bind fun x1=>
 if (x1 != 0) then
  (get? p0.val (cond (decide (p1 < 0)) (w64 (0 - p1)) p1)).bind fun x2=>
  some ((x2 == (cond (decide (p1 < 0)) (-1) 1)),p0)
 else
  (set? p0.val (cond (decide (p1 < 0)) (w64 (0 - p1)) p1) (cond (decide (p1 < 0)) (-1) 1)).bind fun x3=>
  (app? p0.queue ([p1]:List Int)).bind fun x4=>
  some (true,(D.assignment.mk x3 x4))
def Zf (n:Nat) (p0:D.assignment) (p1:List Int):Option (Bool × D.assignment) :=
 (iterN (fun (s1 : Int × Int × Int) =>
  if (decide (s1.2.2 < (len p1))) then
   (get? p1 s1.2.2).bind fun x1=>
   (Zp x1).bind fun x2=>
   (get? p0.val x2).bind fun x3=>
   if (x3 == 0) then
    some (.inl ((w64 (s1.1 + 1)),x1,(w64 (s1.2.2 + 1))))
   else
    if ((decide (x3 > 0)) == (decide (x1 > 0))) then
     some (.inr (.inr (true,p0)))
    else
     some (.inl (s1.1,s1.2.1,(w64 (s1.2.2 + 1))))
  else
   some (.inr (.inl (s1.1,s1.2.1)))
 ) n (0,0,0)).bind fun (rl1:(Int × Int) ⊕ (Bool × D.assignment))=>
 match rl1 with
 | .inl s1r=>
  if (s1r.1 == 0) then
   some (false,p0)
  else
   if (s1r.1 == 1) then
    (Zk p0 s1r.2).bind fun x4=>
    some (x4.1,x4.2)
   else
    some (true,p0)
 | .inr v=>some v
def Zr (n:Nat) (p0:D.solver) (p1:D.assignment):Option (Bool × D.assignment) :=
 (iterN (fun (s1 : (List Int) × (List Int)) =>
  if (decide ((len s1.2) > 0)) then
   (get? s1.2 (w64 ((len s1.2) - 1))).bind fun x1=>
   (cut? s1.2 0 (w64 ((len s1.2) - 1))).bind fun x2=>
   (get? p0.occ (w64 (p0.f.Vars - x1))).bind fun x3 =>
   (iterN (fun (s2 : Int × (List Int) × (List Int)) =>
    if (decide (s2.1 < (len x3))) then
     (get? x3 s2.1).bind fun x4=>
     (get? p0.f.Clauses x4).bind fun x5=>
     (Zf n (D.assignment.mk s2.2.1 s2.2.2) x5).bind fun x6=>
     if (!x6.1) then
      some (.inr (.inr (false,x6.2)))
     else
      some (.inl ((w64 (s2.1 + 1)),x6.2.val,x6.2.queue))
    else
     some (.inr (.inl (s2.2.1,s2.2.2)))
   ) n (0,s1.1,x2)).bind fun (rl2:((List Int) × (List Int)) ⊕ (Bool × D.assignment))=>
   match rl2 with
   | .inl s2r=>
    some (.inl (s2r.1,s2r.2))
   | .inr v=>some (.inr (.inr v))
  else
   some (.inr (.inl (s1.1,s1.2)))
 ) n (p1.val,p1.queue)).bind fun (rl1:((List Int) × (List Int)) ⊕ (Bool × D.assignment))=>
 match rl1 with
 | .inl s1r=>
  some (true,(D.assignment.mk s1r.1 s1r.2))
 | .inr v=>some v
def ZB (n:Nat) (p0:D.solver) (p1:List Int):Option (D.assignment × Bool):=
 (mk? (w64 (p0.f.Vars + 1)) (0:Int)).bind fun x1 =>
 (iterN (fun (s1 : Int × (List Int) × (List Int)) =>
  if (decide (s1.1 < (len p1))) then
   (get? p1 s1.1).bind fun x2=>
   (Zk (D.assignment.mk s1.2.1 s1.2.2) x2).bind fun x3=>
   if (!x3.1) then
    some (.inr (.inr (default,false)))
   else
    some (.inl ((w64 (s1.1 + 1)),x3.2.val,x3.2.queue))
  else
   some (.inr (.inl (s1.2.1,s1.2.2)))
 ) n (0,x1,([]:List Int))).bind fun (rl1:((List Int) × (List Int)) ⊕ (D.assignment × Bool))=>
 match rl1 with
 | .inl s1r =>
  (iterN (fun (s2 : Int × (List Int) × (List Int)) =>
   if (decide (s2.1 < (len p0.f.Clauses))) then
    (get? p0.f.Clauses s2.1).bind fun x4=>
    (Zf n (D.assignment.mk s2.2.1 s2.2.2) x4).bind fun x5=>
    if (!x5.1) then
     some (.inr (.inr (default,false)))
    else
     some (.inl ((w64 (s2.1 + 1)),x5.2.val,x5.2.queue))
   else
    some (.inr (.inl (s2.2.1,s2.2.2)))
  ) n (0,s1r.1,s1r.2)).bind fun (rl2:((List Int) × (List Int)) ⊕ (D.assignment × Bool))=>
  match rl2 with
  | .inl s2r=>
   (Zr n p0 (D.assignment.mk s2r.1 s2r.2)).bind fun x6=>
   if (!x6.1) then
    some (default,false)
   else
    some (x6.2,true)
  | .inr v=>some v
 | .inr v=>some v
def Zo (n:Nat) (p0:D.assignment):Option Int :=
 (iterN (fun (s1 : Int) =>
  if (decide (s1 < (len p0.val))) then
   (get? p0.val s1).bind fun x1=>
   if (x1 == 0) then
    some (.inr (.inr s1))
   else
    some (.inl ((w64 (s1 + 1))))
  else
   some (.inr (.inl ()))
 ) n (1)).bind fun (rl1:(Unit) ⊕ Int)=>
 match rl1 with
 | .inl s1r=>
  some 0
 | .inr v=>some v
def Zh (n:Nat) (p0:D.solver) (p1:D.assignment) (p2:Int):Option (D.assignment × Bool):=
 (Zl p1.val).bind fun x1=>
 (Zk (D.assignment.mk x1 ([]:List Int)) p2).bind fun x2=>
 if (!x2.1) then
  if true then
   some (default,false)
  else
   some (x2.2,true)
 else
  (Zr n p0 x2.2).bind fun x3=>
  if (!x3.1) then
   some (default,false)
  else
   some (x3.2,true)
def Zn (n:Nat) (p0:D.searcher) (p1:D.assignment):Option (Int × D.searcher):=
 match n with
 | 0=>none
 | n + 1=>
 (Zo n p1).bind fun x1=>
 if (x1 == 0) then
  (mk? p0.s.f.Vars (false:Bool)).bind fun x2 =>
  (iterN (fun (s1 : Int × (List Bool)) =>
   if (decide (s1.1 < (len x2))) then
    (get? p1.val (w64 (s1.1 + 1))).bind fun x3=>
    (set? s1.2 s1.1 (decide (x3 > 0))).bind fun x4=>
    some (.inl ((w64 (s1.1 + 1)),x4))
   else
    some (.inr (s1.2))
  ) n (0,x2)).bind fun (rl1:(List Bool))=>
  some (1,(D.searcher.mk p0.s p0.limit p0.splits rl1))
 else
  if (p0.splits == p0.limit) then
   some (3,p0)
  else
   (iterN (fun (s2 : Int × Int × Int × (List Bool)) =>
    if (decide (s2.1 < 2)) then
     (get? ([(w64 (0 - x1)),x1]:List Int) s2.1).bind fun x5=>
     (Zh n p0.s p1 x5).bind fun x6=>
     if (!x6.2) then
      some (.inl ((w64 (s2.1 + 1)),s2.2.1,s2.2.2.1,s2.2.2.2))
     else
      (Zn n (D.searcher.mk p0.s s2.2.1 s2.2.2.1 s2.2.2.2) x6.1).bind fun x7=>
      if (x7.1 != 2) then
       some (.inr (.inr (x7.1,(D.searcher.mk p0.s x7.2.limit x7.2.splits x7.2.model))))
      else
       some (.inl ((w64 (s2.1 + 1)),x7.2.limit,x7.2.splits,x7.2.model))
    else
     some (.inr (.inl (s2.2.1,s2.2.2.1,s2.2.2.2)))
   ) n (0,p0.limit,(w64 (p0.splits + 1)),p0.model)).bind fun (rl2:(Int × Int × (List Bool)) ⊕ (Int × D.searcher))=>
   match rl2 with
   | .inl s2r=>
    some (2,(D.searcher.mk p0.s s2r.1 s2r.2.1 s2r.2.2))
   | .inr v=>some v
def ZQ (n:Nat) (p0:D.solver) (p1:List Int) (p2:Int):Option (Int × (List Bool) × Int):=
 (ZB n p0 p1).bind fun x1=>
 if (!x1.2) then
  some (2,([]:List Bool),0)
 else
  (Zn n (D.searcher.mk p0 p2 0 ([]:List Bool)) x1.1).bind fun x2=>
  some (x2.1,x2.2.model,x2.2.splits)
def Yd (n:Nat) (p0:D.Formula) (p1:List Int) (p2:Int):Option (Int × (List Bool) × Int):=
 (Zv n p0).bind fun x1=>
 (if (!x1) then some default else (Zw n p1 p0.Vars)).bind fun x2=>
 (if ((!x1) || (!x2)) then some default else (Yy p2)).bind fun x3=>
 if (((!x1) || (!x2)) || (!x3)) then
  some (0,([]:List Bool),0)
 else
  (Yc n p0).bind fun x4=>
  (ZQ n x4 p1 p2).bind fun x5=>
  some (x5.1,x5.2.1,x5.2.2)
def Yp (n:Nat) (p0:List Byt):Option Bool:=
 if (decide ((len p0) > 1048576)) then
  some true
 else
  (ZM n p0 0).bind fun x1=>
  (Y0 n p0 40 x1).bind fun x2=>
  (ZX n x1 x2).bind fun x3=>
  (if (!x3.2) then some default else (ZL n x3.1)).bind fun x4=>
  if (((!x3.2) || (!x4)) || (x3.1.Vars != (w64 ((w64 (x1.Inputs + 1)) + (len x1.Gates))))) then
   some false
  else
   (iterN (fun (s1 : Int × Int) =>
    (shl? 1 x1.Inputs).bind fun x5=>
    if (decide (s1.2 < x5)) then
     (Y4 n x1.Inputs s1.2).bind fun x6=>
     (Z7 n x1 x6).bind fun x7=>
     (ZH n x3.1 x7).bind fun x8=>
     (Yg n x7 ([x2]:List Int)).bind fun x9=>
     if (!(x8 == (x9 == 1))) then
      some (.inr (.inr false))
     else
      (Yg n x7 ([x2]:List Int)).bind fun x10=>
      some (.inl ((w64 (s1.1 + x10)),(w64 (s1.2 + 1))))
    else
     some (.inr (.inl (s1.1)))
   ) n (0,0)).bind fun (rl1:(Int) ⊕ Bool)=>
   match rl1 with
   | .inl s1r=>
    (Zy n x3.1).bind fun x11=>
    (Yd n x3.1 ([]:List Int) 3000).bind fun x12=>
    some (((x11 == s1r) || ((x11 == (-1)) && (decide (x3.1.Vars > 12)))) && ((x12.1 == 1) == (decide (s1r > 0))))
   | .inr v=>some v
end Go.GL
