/- Go functions as Lean functions, printed by a program. -/
import Derived.Test.YthlolmkdppfioaaGreatLib1
set_option linter.unusedVariables false
namespace Go.GL
structure D.solver where
  f:D.Formula
  occ:List (List Int)
deriving Inhabited
structure D.assignment where
  val:List Int
  queue:List Int
deriving Inhabited
structure D.searcher where
  s:D.solver
  limit:Int
  splits:Int
  model:List Bool
deriving Inhabited
abbrev lstr0:Str:=⟨[0,1,2,2,3,3,3,3,4,4,4,4,4,4,4,4,5,5,5,5,5,5,5,5,5,5,5,5,5,5,5,5,6,6,6,6,6,6,6,6,6,6,6,6,6,6,6,6,6,6,6,6,6,6,6,6,6,6,6,6,6,6,6,6,7,7,7,7,7,7,7,7,7,7,7,7,7,7,7,7,7,7,7,7,7,7,7,7,7,7,7,7,7,7,7,7,7,7,7,7,7,7,7,7,7,7,7,7,7,7,7,7,7,7,7,7,7,7,7,7,7,7,7,7,7,7,7,7,8,8,8,8,8,8,8,8,8,8,8,8,8,8,8,8,8,8,8,8,8,8,8,8,8,8,8,8,8,8,8,8,8,8,8,8,8,8,8,8,8,8,8,8,8,8,8,8,8,8,8,8,8,8,8,8,8,8,8,8,8,8,8,8,8,8,8,8,8,8,8,8,8,8,8,8,8,8,8,8,8,8,8,8,8,8,8,8,8,8,8,8,8,8,8,8,8,8,8,8,8,8,8,8,8,8,8,8,8,8,8,8,8,8,8,8,8,8,8,8,8,8,8,8,8,8,8,8]⟩
def Zal (n:Nat) (p0:List Byt):Option D.l01Cur :=
 (iterN (fun (s1 : Int × Int) =>
  if ((decide (s1.2 < (len p0))) && (decide (s1.2 < 4000))) then
   (get? p0 s1.2).bind fun x1=>
   some (.inl ((band (w64 ((w64 ((w64 (s1.1 * 131)) + (w64 x1.n))) + 7)) 1073741823),(w64 (s1.2 + 1))))
  else
   some (.inr (s1.1))
 ) n ((w64 (55127 + (len p0))),0)).bind fun (rl1:Int)=>
 some (D.l01Cur.mk p0 0 rl1)
def ZaH (n:Nat) (p0:List Byt) (p1:Int):Option D.l01Cur:=
 (Zal n p0).bind fun x1=>
 some (D.l01Cur.mk x1.b (imin p1 (len p0)) (band (w64 ((w64 ((w64 (x1.h * 31)) + (w64 (p1 * 7919)))) + 1)) 1073741823))
def Zaa (p0:D.l01Cur):Option (Int × D.l01Cur):=
 (shr? (w64 ((w64 (p0.h * 6364136223846793005)) + 1442695040888963407)) 33).bind fun x1=>
 (shr? (w64 ((w64 (p0.h * 6364136223846793005)) + 1442695040888963407)) 45).bind fun x2=>
 if (decide (p0.i < (len p0.b))) then
  (get? p0.b p0.i).bind fun x3=>
  some ((band (w64 ((band (bxor x1 x2) 255) + (w64 x3.n))) 255),(D.l01Cur.mk p0.b (w64 (p0.i + 1)) (w64 ((w64 (p0.h * 6364136223846793005)) + 1442695040888963407))))
 else
  some ((band (bxor x1 x2) 255),(D.l01Cur.mk p0.b p0.i (w64 ((w64 (p0.h * 6364136223846793005)) + 1442695040888963407))))
def Zn (p0:D.l01Cur) (p1:Int):Option (Int × D.l01Cur):=
 if (decide (p1 ≤ 0)) then
  some (0,p0)
 else
  (Zaa p0).bind fun x1=>
  (rem? x1.1 p1).bind fun x2=>
  some (x2,(D.l01Cur.mk p0.b x1.2.i x1.2.h))
def Yb (p0:D.l01Cur) (p1:Int):Option (Bool × D.l01Cur):=
 (Zn p0 p1).bind fun x1=>
 some ((x1.1 == 0),(D.l01Cur.mk p0.b x1.2.i x1.2.h))
def Xa (p0:D.l01Cur) (p1:List Int):Option (Int × D.l01Cur):=
 (Zn p0 (len p1)).bind fun x1=>
 (get? p1 x1.1).bind fun x2=>
 some (x2,(D.l01Cur.mk p0.b x1.2.i x1.2.h))
def YO (p0:Int) (p1:Int):Option D.Term:=
 some (D.Term.mk 0 p0 p1 ⟨[]⟩ ([]:List D.Term))
def ZaO (p0:D.l01Cur) (p1:List Str):Option (Str × D.l01Cur):=
 (Zn p0 (len p1)).bind fun x1=>
 (get? p1 x1.1).bind fun x2=>
 some (x2,(D.l01Cur.mk p0.b x1.2.i x1.2.h))
def YE (n:Nat) (p0:Int):Option Str:=
 match n with
 | 0=>none
 | n + 1=>
 if (decide (p0 < 0)) then
  (quo? p0 10).bind fun x1=>
  if (x1 == 0) then
   (cat? ⟨[45]⟩ (strOf ([(Byt.mk (IntKind.u8.wrap (w64 (48 - p0))))]:List Byt))).bind fun x2=>
   some x2
  else
   (quo? p0 10).bind fun x3=>
   (YE n x3).bind fun x4=>
   (rem? p0 10).bind fun x5=>
   (cat? x4 (strOf ([(Byt.mk (IntKind.u8.wrap (w64 (48 - x5))))]:List Byt))).bind fun x6=>
   some x6
 else
  (iterN (fun (s1 : Int × Str) =>
   if (decide (s1.1 > 9)) then
    (rem? s1.1 10).bind fun x7=>
    (cat? (strOf ([(Byt.mk (IntKind.u8.wrap (w64 (48 + x7))))]:List Byt)) s1.2).bind fun x8=>
    (quo? s1.1 10).bind fun x9=>
    some (.inl (x9,x8))
   else
    some (.inr (s1.1,s1.2))
  ) n (p0,⟨[]⟩)).bind fun (rl1:Int × Str)=>
  (cat? (strOf ([(Byt.mk (IntKind.u8.wrap (w64 (48 + rl1.1))))]:List Byt)) rl1.2).bind fun x10=>
  some x10
def YK (n:Nat) (p0:D.l01Cur) (p1:Int):Option (D.Term × D.l01Cur):=
 (ZaO p0 ([⟨[97]⟩,⟨[98]⟩,⟨[120]⟩]:List Str)).bind fun x1=>
 (YE n p1).bind fun x2=>
 (cat? x1.1 x2).bind fun x3=>
 some ((D.Term.mk 22 p1 0 x3 ([]:List D.Term)),(D.l01Cur.mk p0.b x1.2.i x1.2.h))
def Zl (p0:Int) (p1:Int) (p2:Int):Option Bool:=
 some ((decide (p0 ≥ p1)) && (decide (p0 ≤ p2)))
def Zk (n:Nat) (p0:D.l01Cur) (p1:Int) (p2:Int):Option (D.Term × D.l01Cur):=
 match n with
 | 0=>none
 | n + 1=>
 if (decide (p2 < 1)) then
  if true then
   (Yb p0 3).bind fun x1=>
   if x1.1 then
    (shl? 1 p1).bind fun x2=>
    (Zn (D.l01Cur.mk p0.b x1.2.i x1.2.h) x2).bind fun x3=>
    (Xa (D.l01Cur.mk p0.b x3.2.i x3.2.h) ([0,1,(w64 ((x2) - 1)),x3.1]:List Int)).bind fun x4=>
    (YO p1 (band x4.1 (w64 ((x2) - 1)))).bind fun x5=>
    some ((D.Term.mk x5.Op x5.W x5.N x5.Name ([]:List D.Term)),(D.l01Cur.mk p0.b x4.2.i x4.2.h))
   else
    (YK n (D.l01Cur.mk p0.b x1.2.i x1.2.h) p1).bind fun x6=>
    some (x6.1,(D.l01Cur.mk p0.b x6.2.i x6.2.h))
  else
   (Zn p0 21).bind fun x7=>
   (Zl (w64 (1 + x7.1)) 14 16).bind fun x8=>
   if x8 then
    (Zn (D.l01Cur.mk p0.b x7.2.i x7.2.h) 4).bind fun x9=>
    (Zk n (D.l01Cur.mk p0.b x9.2.i x9.2.h) (w64 (1 + x9.1)) (w64 (p2 - 1))).bind fun x10=>
    (Zk n (D.l01Cur.mk p0.b x10.2.i x10.2.h) (w64 (1 + x9.1)) (w64 (p2 - 1))).bind fun x11=>
    (Yb (D.l01Cur.mk p0.b x11.2.i x11.2.h) 6).bind fun x12=>
    if x12.1 then
     (get? ([x10.1,x11.1]:List D.Term) 0).bind fun x13=>
     (set? ([x10.1,x11.1]:List D.Term) 1 x13).bind fun x14=>
     if (decide (p1 > 1)) then
      some ((D.Term.mk 20 p1 0 ⟨[]⟩ ([(D.Term.mk (w64 (1 + x7.1)) 1 0 ⟨[]⟩ x14)]:List D.Term)),(D.l01Cur.mk p0.b x12.2.i x12.2.h))
     else
      some ((D.Term.mk (w64 (1 + x7.1)) 1 0 ⟨[]⟩ x14),(D.l01Cur.mk p0.b x12.2.i x12.2.h))
    else
     if (decide (p1 > 1)) then
      some ((D.Term.mk 20 p1 0 ⟨[]⟩ ([(D.Term.mk (w64 (1 + x7.1)) 1 0 ⟨[]⟩ ([x10.1,x11.1]:List D.Term))]:List D.Term)),(D.l01Cur.mk p0.b x12.2.i x12.2.h))
     else
      some ((D.Term.mk (w64 (1 + x7.1)) 1 0 ⟨[]⟩ ([x10.1,x11.1]:List D.Term)),(D.l01Cur.mk p0.b x12.2.i x12.2.h))
   else
    (Zl (w64 (1 + x7.1)) 3 13).bind fun x15=>
    if x15 then
     (Zk n (D.l01Cur.mk p0.b x7.2.i x7.2.h) p1 (w64 (p2 - 1))).bind fun x16=>
     (Zk n (D.l01Cur.mk p0.b x16.2.i x16.2.h) p1 (w64 (p2 - 1))).bind fun x17=>
     (Yb (D.l01Cur.mk p0.b x17.2.i x17.2.h) 8).bind fun x18=>
     if x18.1 then
      (get? ([x16.1,x17.1]:List D.Term) 0).bind fun x19=>
      (set? ([x16.1,x17.1]:List D.Term) 1 x19).bind fun x20=>
      some ((D.Term.mk (w64 (1 + x7.1)) p1 0 ⟨[]⟩ x20),(D.l01Cur.mk p0.b x18.2.i x18.2.h))
     else
      some ((D.Term.mk (w64 (1 + x7.1)) p1 0 ⟨[]⟩ ([x16.1,x17.1]:List D.Term)),(D.l01Cur.mk p0.b x18.2.i x18.2.h))
    else
     if (decide ((w64 (1 + x7.1)) ≤ 2)) then
      (Zk n (D.l01Cur.mk p0.b x7.2.i x7.2.h) p1 (w64 (p2 - 1))).bind fun x21=>
      some ((D.Term.mk (w64 (1 + x7.1)) p1 0 ⟨[]⟩ ([x21.1]:List D.Term)),(D.l01Cur.mk p0.b x21.2.i x21.2.h))
     else
      if ((w64 (1 + x7.1)) == 17) then
       (Zk n (D.l01Cur.mk p0.b x7.2.i x7.2.h) 1 (w64 (p2 - 1))).bind fun x22=>
       (Zk n (D.l01Cur.mk p0.b x22.2.i x22.2.h) p1 (w64 (p2 - 1))).bind fun x23=>
       (Zk n (D.l01Cur.mk p0.b x23.2.i x23.2.h) p1 (w64 (p2 - 1))).bind fun x24=>
       some ((D.Term.mk (w64 (1 + x7.1)) p1 0 ⟨[]⟩ ([x22.1,x23.1,x24.1]:List D.Term)),(D.l01Cur.mk p0.b x24.2.i x24.2.h))
      else
       if (((w64 (1 + x7.1)) == 18) && (decide (p1 > 1))) then
        (Zn (D.l01Cur.mk p0.b x7.2.i x7.2.h) (w64 (p1 - 1))).bind fun x25=>
        (Zk n (D.l01Cur.mk p0.b x25.2.i x25.2.h) (w64 (p1 - (w64 (1 + x25.1)))) (w64 (p2 - 1))).bind fun x26=>
        (Zk n (D.l01Cur.mk p0.b x26.2.i x26.2.h) (w64 (1 + x25.1)) (w64 (p2 - 1))).bind fun x27=>
        some ((D.Term.mk (w64 (1 + x7.1)) p1 0 ⟨[]⟩ ([x26.1,x27.1]:List D.Term)),(D.l01Cur.mk p0.b x27.2.i x27.2.h))
       else
        if ((w64 (1 + x7.1)) == 19) then
         (Zn (D.l01Cur.mk p0.b x7.2.i x7.2.h) 3).bind fun x28=>
         (Zn (D.l01Cur.mk p0.b x28.2.i x28.2.h) (w64 ((w64 ((w64 (p1 + x28.1)) - p1)) + 1))).bind fun x29=>
         (Zk n (D.l01Cur.mk p0.b x29.2.i x29.2.h) (w64 (p1 + x28.1)) (w64 (p2 - 1))).bind fun x30=>
         some ((D.Term.mk (w64 (1 + x7.1)) p1 x29.1 ⟨[]⟩ ([x30.1]:List D.Term)),(D.l01Cur.mk p0.b x30.2.i x30.2.h))
        else
         (Zl (w64 (1 + x7.1)) 20 21).bind fun x31=>
         if x31 then
          (Zn (D.l01Cur.mk p0.b x7.2.i x7.2.h) p1).bind fun x32=>
          (Zk n (D.l01Cur.mk p0.b x32.2.i x32.2.h) (w64 (1 + x32.1)) (w64 (p2 - 1))).bind fun x33=>
          some ((D.Term.mk (w64 (1 + x7.1)) p1 0 ⟨[]⟩ ([x33.1]:List D.Term)),(D.l01Cur.mk p0.b x33.2.i x33.2.h))
         else
          (YK n (D.l01Cur.mk p0.b x7.2.i x7.2.h) p1).bind fun x34=>
          some (x34.1,(D.l01Cur.mk p0.b x34.2.i x34.2.h))
 else
  (Yb p0 6).bind fun x35=>
  if x35.1 then
   (Yb (D.l01Cur.mk p0.b x35.2.i x35.2.h) 3).bind fun x36=>
   if x36.1 then
    (shl? 1 p1).bind fun x37=>
    (Zn (D.l01Cur.mk p0.b x36.2.i x36.2.h) x37).bind fun x38=>
    (Xa (D.l01Cur.mk p0.b x38.2.i x38.2.h) ([0,1,(w64 ((x37) - 1)),x38.1]:List Int)).bind fun x39=>
    (YO p1 (band x39.1 (w64 ((x37) - 1)))).bind fun x40=>
    some ((D.Term.mk x40.Op x40.W x40.N x40.Name ([]:List D.Term)),(D.l01Cur.mk p0.b x39.2.i x39.2.h))
   else
    (YK n (D.l01Cur.mk p0.b x36.2.i x36.2.h) p1).bind fun x41=>
    some (x41.1,(D.l01Cur.mk p0.b x41.2.i x41.2.h))
  else
   (Zn (D.l01Cur.mk p0.b x35.2.i x35.2.h) 21).bind fun x42=>
   (Zl (w64 (1 + x42.1)) 14 16).bind fun x43=>
   if x43 then
    (Zn (D.l01Cur.mk p0.b x42.2.i x42.2.h) 4).bind fun x44=>
    (Zk n (D.l01Cur.mk p0.b x44.2.i x44.2.h) (w64 (1 + x44.1)) (w64 (p2 - 1))).bind fun x45=>
    (Zk n (D.l01Cur.mk p0.b x45.2.i x45.2.h) (w64 (1 + x44.1)) (w64 (p2 - 1))).bind fun x46=>
    (Yb (D.l01Cur.mk p0.b x46.2.i x46.2.h) 6).bind fun x47=>
    if x47.1 then
     (get? ([x45.1,x46.1]:List D.Term) 0).bind fun x48=>
     (set? ([x45.1,x46.1]:List D.Term) 1 x48).bind fun x49=>
     if (decide (p1 > 1)) then
      some ((D.Term.mk 20 p1 0 ⟨[]⟩ ([(D.Term.mk (w64 (1 + x42.1)) 1 0 ⟨[]⟩ x49)]:List D.Term)),(D.l01Cur.mk p0.b x47.2.i x47.2.h))
     else
      some ((D.Term.mk (w64 (1 + x42.1)) 1 0 ⟨[]⟩ x49),(D.l01Cur.mk p0.b x47.2.i x47.2.h))
    else
     if (decide (p1 > 1)) then
      some ((D.Term.mk 20 p1 0 ⟨[]⟩ ([(D.Term.mk (w64 (1 + x42.1)) 1 0 ⟨[]⟩ ([x45.1,x46.1]:List D.Term))]:List D.Term)),(D.l01Cur.mk p0.b x47.2.i x47.2.h))
     else
      some ((D.Term.mk (w64 (1 + x42.1)) 1 0 ⟨[]⟩ ([x45.1,x46.1]:List D.Term)),(D.l01Cur.mk p0.b x47.2.i x47.2.h))
   else
    (Zl (w64 (1 + x42.1)) 3 13).bind fun x50=>
    if x50 then
     (Zk n (D.l01Cur.mk p0.b x42.2.i x42.2.h) p1 (w64 (p2 - 1))).bind fun x51=>
     (Zk n (D.l01Cur.mk p0.b x51.2.i x51.2.h) p1 (w64 (p2 - 1))).bind fun x52=>
     (Yb (D.l01Cur.mk p0.b x52.2.i x52.2.h) 8).bind fun x53=>
     if x53.1 then
      (get? ([x51.1,x52.1]:List D.Term) 0).bind fun x54=>
      (set? ([x51.1,x52.1]:List D.Term) 1 x54).bind fun x55=>
      some ((D.Term.mk (w64 (1 + x42.1)) p1 0 ⟨[]⟩ x55),(D.l01Cur.mk p0.b x53.2.i x53.2.h))
     else
      some ((D.Term.mk (w64 (1 + x42.1)) p1 0 ⟨[]⟩ ([x51.1,x52.1]:List D.Term)),(D.l01Cur.mk p0.b x53.2.i x53.2.h))
    else
     if (decide ((w64 (1 + x42.1)) ≤ 2)) then
      (Zk n (D.l01Cur.mk p0.b x42.2.i x42.2.h) p1 (w64 (p2 - 1))).bind fun x56=>
      some ((D.Term.mk (w64 (1 + x42.1)) p1 0 ⟨[]⟩ ([x56.1]:List D.Term)),(D.l01Cur.mk p0.b x56.2.i x56.2.h))
     else
      if ((w64 (1 + x42.1)) == 17) then
       (Zk n (D.l01Cur.mk p0.b x42.2.i x42.2.h) 1 (w64 (p2 - 1))).bind fun x57=>
       (Zk n (D.l01Cur.mk p0.b x57.2.i x57.2.h) p1 (w64 (p2 - 1))).bind fun x58=>
       (Zk n (D.l01Cur.mk p0.b x58.2.i x58.2.h) p1 (w64 (p2 - 1))).bind fun x59=>
       some ((D.Term.mk (w64 (1 + x42.1)) p1 0 ⟨[]⟩ ([x57.1,x58.1,x59.1]:List D.Term)),(D.l01Cur.mk p0.b x59.2.i x59.2.h))
      else
       if (((w64 (1 + x42.1)) == 18) && (decide (p1 > 1))) then
        (Zn (D.l01Cur.mk p0.b x42.2.i x42.2.h) (w64 (p1 - 1))).bind fun x60=>
        (Zk n (D.l01Cur.mk p0.b x60.2.i x60.2.h) (w64 (p1 - (w64 (1 + x60.1)))) (w64 (p2 - 1))).bind fun x61=>
        (Zk n (D.l01Cur.mk p0.b x61.2.i x61.2.h) (w64 (1 + x60.1)) (w64 (p2 - 1))).bind fun x62=>
        some ((D.Term.mk (w64 (1 + x42.1)) p1 0 ⟨[]⟩ ([x61.1,x62.1]:List D.Term)),(D.l01Cur.mk p0.b x62.2.i x62.2.h))
       else
        if ((w64 (1 + x42.1)) == 19) then
         (Zn (D.l01Cur.mk p0.b x42.2.i x42.2.h) 3).bind fun x63=>
         (Zn (D.l01Cur.mk p0.b x63.2.i x63.2.h) (w64 ((w64 ((w64 (p1 + x63.1)) - p1)) + 1))).bind fun x64=>
         (Zk n (D.l01Cur.mk p0.b x64.2.i x64.2.h) (w64 (p1 + x63.1)) (w64 (p2 - 1))).bind fun x65=>
         some ((D.Term.mk (w64 (1 + x42.1)) p1 x64.1 ⟨[]⟩ ([x65.1]:List D.Term)),(D.l01Cur.mk p0.b x65.2.i x65.2.h))
        else
         (Zl (w64 (1 + x42.1)) 20 21).bind fun x66=>
         if x66 then
          (Zn (D.l01Cur.mk p0.b x42.2.i x42.2.h) p1).bind fun x67=>
          (Zk n (D.l01Cur.mk p0.b x67.2.i x67.2.h) (w64 (1 + x67.1)) (w64 (p2 - 1))).bind fun x68=>
          some ((D.Term.mk (w64 (1 + x42.1)) p1 0 ⟨[]⟩ ([x68.1]:List D.Term)),(D.l01Cur.mk p0.b x68.2.i x68.2.h))
         else
          (YK n (D.l01Cur.mk p0.b x42.2.i x42.2.h) p1).bind fun x69=>
          some (x69.1,(D.l01Cur.mk p0.b x69.2.i x69.2.h))
def XE (n:Nat) (p0:List Byt) (p1:Int) (p2:Int) (p3:Int):Option D.Term:=
 (ZaH n p0 p1).bind fun x1=>
 (Zk n x1 p2 p3).bind fun x2=>
 some x2.1
def YW (n:Nat) (p0:D.Term) (p1:Int):Option (Bool × Int):=
 match n with
 | 0=>none
 | n + 1 =>
 (iterN (fun (s1 : Int × Int) =>
  if ((decide (s1.1 < (len p0.Kids))) && (decide (s1.2 ≥ 0))) then
   (get? p0.Kids s1.1).bind fun x1=>
   (YW n x1 s1.2).bind fun x2=>
   some (.inl ((w64 (s1.1 + 1)),x2.2))
  else
   some (.inr (s1.2))
 ) n (0,(w64 (p1 - 1)))).bind fun (rl1:Int)=>
 some ((decide (rl1 ≥ 0)),rl1)
def Z9 (p0:Int) (p1:Int):Option Bool:=
 (Zl p0 1 16).bind fun x1=>
 (if x1 then (shl? 1 p0) else some default).bind fun x2=>
 (if x1 then (Zl p1 0 (w64 (x2 - 1))) else some default).bind fun x3=>
 some (x1 && x3)
def XO (n:Nat) (p0:Str):Option Bool :=
 (iterN (fun (s1 : Int) =>
  if (decide (s1 < (len p0.bytes))) then
   (sidx? p0 s1).bind fun x1=>
   (Zl (w64 x1) 97 122).bind fun x2=>
   (if (s1 == 0) then some default else (if (!x2) then (sidx? p0 s1) else some default)).bind fun x3=>
   (if (s1 == 0) then some default else (if (!x2) then (Zl (w64 x3) 48 57) else some default)).bind fun x4=>
   if ((!x2) && ((s1 == 0) || (!x4))) then
    some (.inr (.inr false))
   else
    some (.inl ((w64 (s1 + 1))))
  else
   some (.inr (.inl ()))
 ) n (0)).bind fun (rl1:(Unit) ⊕ Bool)=>
 match rl1 with
 | .inl s1r=>
  (Zl (len p0.bytes) 1 8).bind fun x5=>
  some x5
 | .inr v=>some v
def Yi (n:Nat) (p0:D.Term):Option Bool:=
 match n with
 | 0=>none
 | n + 1=>
 (Zl p0.W 1 16).bind fun x1=>
 if (((!x1) || ((!(Str.eqb p0.Name ⟨[]⟩)) && (p0.Op != 22))) || (((p0.N != 0) && (p0.Op != 0)) && (p0.Op != 19))) then
  some false
 else
  (iterN (fun (s1 : Int) =>
   if (decide (s1 < (len p0.Kids))) then
    (get? p0.Kids s1).bind fun x2=>
    (Yi n x2).bind fun x3=>
    if (!x3) then
     some (.inr (.inr false))
    else
     some (.inl ((w64 (s1 + 1))))
   else
    some (.inr (.inl ()))
  ) n (0)).bind fun (rl1:(Unit) ⊕ Bool)=>
  match rl1 with
  | .inl s1r =>
   (iterN (fun (s2 : Int × (List Int)) =>
    if ((decide (s2.1 < (len p0.Kids))) && (decide (s2.1 < 3))) then
     (get? p0.Kids s2.1).bind fun x4=>
     (set? s2.2 s2.1 x4.W).bind fun x5=>
     some (.inl ((w64 (s2.1 + 1)),x5))
    else
     some (.inr (s2.2))
   ) n (0,([0,0,0]:List Int))).bind fun (rl2:(List Int))=>
   if (p0.Op == 0) then
    (if ((len p0.Kids) == 0) then (Z9 p0.W p0.N) else some default).bind fun x6=>
    some (((len p0.Kids) == 0) && x6)
   else
    if (p0.Op == 22) then
     (if ((len p0.Kids) == 0) then (XO n p0.Name) else some default).bind fun x7=>
     some (((len p0.Kids) == 0) && x7)
    else
     (Zl p0.Op 1 2).bind fun x8=>
     if x8 then
      (if ((len p0.Kids) == 1) then (get? rl2 0) else some default).bind fun x9=>
      some (((len p0.Kids) == 1) && (x9 == p0.W))
     else
      (Zl p0.Op 3 13).bind fun x10=>
      if x10 then
       (if ((len p0.Kids) == 2) then (get? rl2 0) else some default).bind fun x11=>
       (if (((len p0.Kids) == 2) && (x11 == p0.W)) then (get? rl2 1) else some default).bind fun x12=>
       some ((((len p0.Kids) == 2) && (x11 == p0.W)) && (x12 == p0.W))
      else
       (Zl p0.Op 14 16).bind fun x13=>
       if x13 then
        (if ((len p0.Kids) == 2) then (get? rl2 0) else some default).bind fun x14=>
        (if ((len p0.Kids) == 2) then (get? rl2 1) else some default).bind fun x15=>
        some ((((len p0.Kids) == 2) && (x14 == x15)) && (p0.W == 1))
       else
        if (p0.Op == 17) then
         (if ((len p0.Kids) == 3) then (get? rl2 0) else some default).bind fun x16=>
         (if (((len p0.Kids) == 3) && (x16 == 1)) then (get? rl2 1) else some default).bind fun x17=>
         (if ((((len p0.Kids) == 3) && (x16 == 1)) && (x17 == p0.W)) then (get? rl2 2) else some default).bind fun x18=>
         some (((((len p0.Kids) == 3) && (x16 == 1)) && (x17 == p0.W)) && (x18 == p0.W))
        else
         if (p0.Op == 18) then
          (if ((len p0.Kids) == 2) then (get? rl2 0) else some default).bind fun x19=>
          (if ((len p0.Kids) == 2) then (get? rl2 1) else some default).bind fun x20=>
          some (((len p0.Kids) == 2) && ((w64 (x19 + x20)) == p0.W))
         else
          if (p0.Op == 19) then
           (if ((len p0.Kids) == 1) then (Zl p0.N 0 16) else some default).bind fun x21=>
           (if (((len p0.Kids) == 1) && x21) then (get? rl2 0) else some default).bind fun x22=>
           some ((((len p0.Kids) == 1) && x21) && (decide ((w64 (p0.N + p0.W)) ≤ x22)))
          else
           (Zl p0.Op 20 21).bind fun x23=>
           (if (x23 && ((len p0.Kids) == 1)) then (get? rl2 0) else some default).bind fun x24=>
           some ((x23 && ((len p0.Kids) == 1)) && (decide (x24 ≤ p0.W)))
  | .inr v=>some v
def ZP (n:Nat) (p0:D.Term) (p1:List D.Value):Option ((List D.Value) × Bool):=
 match n with
 | 0=>none
 | n + 1=>
 if (p0.Op == 22) then
  (iterN (fun (s1 : Int) =>
   (if (decide (s1 < (len p1))) then (get? p1 s1) else some default).bind fun x1=>
   if ((decide (s1 < (len p1))) && (Str.ltb x1.Name p0.Name)) then
    some (.inl ((w64 (s1 + 1))))
   else
    some (.inr (s1))
  ) n (0)).bind fun (rl1:Int)=>
  (if (decide (rl1 < (len p1))) then (get? p1 rl1) else some default).bind fun x2=>
  if ((decide (rl1 < (len p1))) && (Str.eqb x2.Name p0.Name)) then
   (get? p1 rl1).bind fun x3=>
   some (p1,(x3.W == p0.W))
  else
   (cut? p1 0 rl1).bind fun x4=>
   (app? ([]:List D.Value) x4).bind fun x5=>
   (app? x5 ([(D.Value.mk p0.Name p0.W 0)]:List D.Value)).bind fun x6=>
   (cut? p1 rl1 (len p1)).bind fun x7=>
   (app? x6 x7).bind fun x8=>
   some (x8,true)
 else
  (iterN (fun (s2 : Int × (List D.Value)) =>
   if (decide (s2.1 < (len p0.Kids))) then
    (get? p0.Kids s2.1).bind fun x9=>
    (ZP n x9 s2.2).bind fun x10=>
    if (!x10.2) then
     some (.inr (.inr (([]:List D.Value),false)))
    else
     some (.inl ((w64 (s2.1 + 1)),x10.1))
   else
    some (.inr (.inl (s2.2)))
  ) n (0,p1)).bind fun (rl2:((List D.Value)) ⊕ ((List D.Value) × Bool))=>
  match rl2 with
  | .inl s2r=>
   some (s2r,true)
  | .inr v=>some v
def XK (n:Nat) (p0:D.Term):Option Bool:=
 (YW n p0 240).bind fun x1=>
 if (!x1.1) then
  if true then
   some false
  else
   (ZP n p0 ([]:List D.Value)).bind fun x2=>
   some x2.2
 else
  (Yi n p0).bind fun x3=>
  if (!x3) then
   some false
  else
   (ZP n p0 ([]:List D.Value)).bind fun x4=>
   some x4.2
def ZA (n:Nat) (p0:D.Term):Option (List D.Value):=
 (XK n p0).bind fun x1=>
 if (!x1) then
  some ([]:List D.Value)
 else
  (ZP n p0 ([]:List D.Value)).bind fun x2=>
  some x2.1
def XY (n:Nat) (p0:List D.Value):Option Int :=
 (iterN (fun (s1 : Int × Int) =>
  if (decide (s1.2 < (len p0))) then
   (get? p0 s1.2).bind fun x1=>
   some (.inl ((w64 (s1.1 + x1.W)),(w64 (s1.2 + 1))))
  else
   some (.inr (s1.1))
 ) n (0,0)).bind fun (rl1:Int)=>
 some rl1
def Xy (n:Nat) (p0:List D.Value) (p1:Str):Option Int :=
 (iterN (fun (s1 : Int) =>
  if (decide (s1 < (len p0))) then
   (get? p0 s1).bind fun x1=>
   if (Str.eqb x1.Name p1) then
    some (.inr (.inr s1))
   else
    some (.inl ((w64 (s1 + 1))))
  else
   some (.inr (.inl ()))
 ) n (0)).bind fun (rl1:(Unit) ⊕ Int)=>
 match rl1 with
 | .inl s1r=>
  some (-1)
 | .inr v=>some v
def ZN (p0:Int) (p1:Int):Option Int:=
 (Zl p0 1 16).bind fun x1=>
 if (!x1) then
  some (-1)
 else
  (shl? 1 p0).bind fun x2=>
  some (band p1 (w64 (x2 - 1)))
def Y4 (p0:Int) (p1:Int) (p2:Int):Option Int:=
 (Z9 p1 p2).bind fun x1=>
 if (!x1) then
  some (-1)
 else
  if (p0 == 1) then
   (shl? 1 p1).bind fun x2=>
   some (w64 ((w64 (x2 - 1)) - p2))
  else
   if (p0 == 2) then
    (ZN p1 (w64 (0 - p2))).bind fun x3=>
    some x3
   else
    some (-1)
def Yw (p0:Int) (p1:Int):Option Int:=
 (Z9 p0 p1).bind fun x1=>
 if (!x1) then
  some 0
 else
  (shr? p1 (w64 (p0 - 1))).bind fun x2=>
  if (x2 == 1) then
   (shl? 1 p0).bind fun x3=>
   some (w64 (p1 - x3))
  else
   some p1
def YA (p0:Bool):Option Int:=
 if p0 then
  some 1
 else
  some 0
def YR (p0:Int) (p1:Int) (p2:Int) (p3:Int):Option Int:=
 (Z9 p1 p2).bind fun x1=>
 (if (!x1) then some default else (Z9 p1 p3)).bind fun x2=>
 if ((!x1) || (!x2)) then
  some (-1)
 else
  if (p0 == 3) then
   (ZN p1 (w64 (p2 + p3))).bind fun x3=>
   some x3
  else
   if (p0 == 4) then
    (ZN p1 (w64 (p2 - p3))).bind fun x4=>
    some x4
   else
    if (p0 == 5) then
     (ZN p1 (w64 (p2 * p3))).bind fun x5=>
     some x5
    else
     if (p0 == 6) then
      if (p3 == 0) then
       (shl? 1 p1).bind fun x6=>
       some (w64 (x6 - 1))
      else
       (quo? p2 p3).bind fun x7=>
       some x7
     else
      if (p0 == 7) then
       if (p3 == 0) then
        some p2
       else
        (rem? p2 p3).bind fun x8=>
        some x8
      else
       if (p0 == 8) then
        some (band p2 p3)
       else
        if (p0 == 9) then
         some (bor p2 p3)
        else
         if (p0 == 10) then
          some (bxor p2 p3)
         else
          if (p0 == 11) then
           if (decide (p3 ≥ p1)) then
            some 0
           else
            (shl? p2 p3).bind fun x9=>
            (ZN p1 x9).bind fun x10=>
            some x10
          else
           if (p0 == 12) then
            if (decide (p3 ≥ p1)) then
             some 0
            else
             (shr? p2 p3).bind fun x11=>
             some x11
           else
            if (p0 == 13) then
             (Yw p1 p2).bind fun x12=>
             (shr? x12 (cond (decide (p3 ≥ p1)) (w64 (p1 - 1)) p3)).bind fun x13=>
             (ZN p1 x13).bind fun x14=>
             some x14
            else
             if (p0 == 14) then
              (YA (p2 == p3)).bind fun x15=>
              some x15
             else
              if (p0 == 15) then
               (YA (decide (p2 < p3))).bind fun x16=>
               some x16
              else
               if (p0 == 16) then
                (Yw p1 p2).bind fun x17=>
                (Yw p1 p3).bind fun x18=>
                (YA (decide (x17 < x18))).bind fun x19=>
                some x19
               else
                some (-1)
def Xr (p0:Int) (p1:Int) (p2:Int) (p3:Int):Option Int:=
 (Z9 p0 p1).bind fun x1=>
 (if (!x1) then some default else (Z9 p2 p3)).bind fun x2=>
 if (((!x1) || (!x2)) || (decide ((w64 (p0 + p2)) > 16))) then
  some (-1)
 else
  (shl? p1 p2).bind fun x3=>
  some (w64 (x3 + p3))
def XX (p0:Int) (p1:Int) (p2:Int) (p3:Int):Option Int:=
 (Z9 p0 p1).bind fun x1=>
 if (((((!x1) || (decide (p2 < 0))) || (decide (p3 < 1))) || (decide (p3 > p0))) || (decide (p2 > (w64 (p0 - p3))))) then
  some (-1)
 else
  (shr? p1 p2).bind fun x2=>
  (ZN p3 x2).bind fun x3=>
  some x3
def YG (p0:Int) (p1:Int) (p2:Int) (p3:Bool):Option Int:=
 (Z9 p0 p1).bind fun x1=>
 if (((!x1) || (decide (p2 < p0))) || (decide (p2 > 16))) then
  some (-1)
 else
  if p3 then
   (Yw p0 p1).bind fun x2=>
   (ZN p2 x2).bind fun x3=>
   some x3
  else
   some p1
def X8 (p0:D.Term) (p1:List Int):Option Int:=
 (Zl p0.Op 1 2).bind fun x1=>
 if x1 then
  (get? p1 0).bind fun x2=>
  (Y4 p0.Op p0.W x2).bind fun x3=>
  some x3
 else
  (Zl p0.Op 3 16).bind fun x4=>
  if x4 then
   (get? p0.Kids 0).bind fun x5=>
   (get? p1 0).bind fun x6=>
   (get? p1 1).bind fun x7=>
   (YR p0.Op x5.W x6 x7).bind fun x8=>
   some x8
  else
   if (p0.Op == 17) then
    (get? p1 0).bind fun x9=>
    if (x9 == 1) then
     (get? p1 1).bind fun x10=>
     some x10
    else
     (get? p1 2).bind fun x11=>
     some x11
   else
    if (p0.Op == 18) then
     (get? p0.Kids 0).bind fun x12=>
     (get? p1 0).bind fun x13=>
     (get? p0.Kids 1).bind fun x14=>
     (get? p1 1).bind fun x15=>
     (Xr x12.W x13 x14.W x15).bind fun x16=>
     some x16
    else
     if (p0.Op == 19) then
      (get? p0.Kids 0).bind fun x17=>
      (get? p1 0).bind fun x18=>
      (XX x17.W x18 p0.N p0.W).bind fun x19=>
      some x19
     else
      (get? p0.Kids 0).bind fun x20=>
      (get? p1 0).bind fun x21=>
      (YG x20.W x21 p0.W (p0.Op == 21)).bind fun x22=>
      some x22
def ZZ (n:Nat) (p0:D.Term) (p1:List D.Value):Option (Int × Bool):=
 match n with
 | 0=>none
 | n + 1=>
 if (p0.Op == 0) then
  some (p0.N,true)
 else
  if (p0.Op == 22) then
   (Xy n p1 p0.Name).bind fun x1=>
   (if (decide (x1 < 0)) then some default else (get? p1 x1)).bind fun x2=>
   if ((decide (x1 < 0)) || (x2.W != p0.W)) then
    some (0,false)
   else
    (get? p1 x1).bind fun x3=>
    some (x3.N,true)
  else
   (iterN (fun (s1 : Int × (List Int)) =>
    if (decide (s1.1 < (len p0.Kids))) then
     (get? p0.Kids s1.1).bind fun x4=>
     (ZZ n x4 p1).bind fun x5=>
     if (!x5.2) then
      some (.inr (.inr (0,false)))
     else
      (app? s1.2 ([x5.1]:List Int)).bind fun x6=>
      some (.inl ((w64 (s1.1 + 1)),x6))
    else
     some (.inr (.inl (s1.2)))
   ) n (0,([]:List Int))).bind fun (rl1:((List Int)) ⊕ (Int × Bool))=>
   match rl1 with
   | .inl s1r=>
    (X8 p0 s1r).bind fun x7=>
    some (x7,true)
   | .inr v=>some v
def X3 (n:Nat) (p0:List D.Value):Option (Bool × (List D.Value)) :=
 (iterN (fun (s1 : Int × (List D.Value)) =>
  if (decide (s1.1 ≥ 0)) then
   (get? s1.2 s1.1).bind fun x1=>
   (get? s1.2 s1.1).bind fun x2=>
   (shl? 1 x2.W).bind fun x3=>
   if (decide (x1.N < (w64 (x3 - 1)))) then
    (get? s1.2 s1.1).bind fun x4=>
    (get? s1.2 s1.1).bind fun x5=>
    (set? s1.2 s1.1 ({ x5 with N:=(w64 (x4.N + 1)) }:D.Value)).bind fun x6=>
    some (.inr (.inr (true,x6)))
   else
    (get? s1.2 s1.1).bind fun x7=>
    (set? s1.2 s1.1 ({ x7 with N:=0 }:D.Value)).bind fun x8=>
    some (.inl ((w64 (s1.1 - 1)),x8))
  else
   some (.inr (.inl (s1.2)))
 ) n ((w64 ((len p0) - 1)),p0)).bind fun (rl1:((List D.Value)) ⊕ (Bool × (List D.Value)))=>
 match rl1 with
 | .inl s1r=>
  some (false,s1r)
 | .inr v=>some v
def YZ (n:Nat) (p0:D.Term):Option (List Int):=
 (ZA n p0).bind fun x1=>
 (XK n p0).bind fun x2=>
 (if (!x2) then some default else (XY n x1)).bind fun x3=>
 if ((!x2) || (decide (x3 > 10))) then
  some ([]:List Int)
 else
  (iterN (fun (s1 : (List D.Value) × (List Int)) =>
   (ZZ n p0 s1.1).bind fun x4=>
   (app? s1.2 ([x4.1]:List Int)).bind fun x5=>
   (X3 n s1.1).bind fun x6=>
   if (!x6.1) then
    some (.inr (.inr x5))
   else
    some (.inl (x6.2,x5))
  ) n (x1,([]:List Int))).bind fun (rl1:((List Int) × (List D.Value) × (List Int)) ⊕ (List Int))=>
  match rl1 with
  | .inl s1r=>
   some s1r.1
  | .inr v=>some v
def Yu (p0:Int):Option Bool:=
 some ((decide (p0 ≥ 1)) && (decide (p0 ≤ 16)))
def Yv (p0:Int):Option Int:=
 if ((p0 == 0) || (p0 == 22)) then
  some 0
 else
  if (((((p0 == 1) || (p0 == 2)) || (p0 == 19)) || (p0 == 20)) || (p0 == 21)) then
   some 1
  else
   if (((decide (p0 ≥ 3)) && (decide (p0 ≤ 16))) || (p0 == 18)) then
    some 2
   else
    if (p0 == 17) then
     some 3
    else
     some (-1)
def Xt (p0:D.Term):Option Bool:=
 if ((p0.Op == 0) || (p0.Op == 22)) then
  some true
 else
  if ((p0.Op == 1) || (p0.Op == 2)) then
   (get? p0.Kids 0).bind fun x1=>
   some (x1.W == p0.W)
  else
   if ((decide (p0.Op ≥ 3)) && (decide (p0.Op ≤ 13))) then
    (get? p0.Kids 0).bind fun x2=>
    (if (x2.W == p0.W) then (get? p0.Kids 1) else some default).bind fun x3=>
    some ((x2.W == p0.W) && (x3.W == p0.W))
   else
    if ((decide (p0.Op ≥ 14)) && (decide (p0.Op ≤ 16))) then
     (get? p0.Kids 0).bind fun x4=>
     (get? p0.Kids 1).bind fun x5=>
     some ((x4.W == x5.W) && (p0.W == 1))
    else
     if (p0.Op == 17) then
      (get? p0.Kids 0).bind fun x6=>
      (if (x6.W == 1) then (get? p0.Kids 1) else some default).bind fun x7=>
      (if ((x6.W == 1) && (x7.W == p0.W)) then (get? p0.Kids 2) else some default).bind fun x8=>
      some (((x6.W == 1) && (x7.W == p0.W)) && (x8.W == p0.W))
     else
      if (p0.Op == 18) then
       (get? p0.Kids 0).bind fun x9=>
       (get? p0.Kids 1).bind fun x10=>
       some ((w64 (x9.W + x10.W)) == p0.W)
      else
       if (p0.Op == 19) then
        (if (decide (p0.N ≥ 0)) then (get? p0.Kids 0) else some default).bind fun x11=>
        some ((decide (p0.N ≥ 0)) && (decide (p0.N ≤ (w64 (x11.W - p0.W)))))
       else
        (get? p0.Kids 0).bind fun x12=>
        some (decide (x12.W ≤ p0.W))
def XQ (p0:Int) (p1:Int):Option Bool:=
 (Yu p0).bind fun x1=>
 (if (x1 && (decide (p1 ≥ 0))) then (shl? 1 (IntKind.u64.wrap p0)) else some default).bind fun x2=>
 some ((x1 && (decide (p1 ≥ 0))) && (decide (p1 < x2)))
def Zao (n:Nat) (p0:Str):Option Bool:=
 if ((decide ((len p0.bytes) < 1)) || (decide ((len p0.bytes) > 8))) then
  some false
 else
  (iterN (fun (s1 : Int) =>
   if (decide (s1 < (len p0.bytes))) then
    (sidx? p0 s1).bind fun x1=>
    (if (decide (x1 ≥ 97)) then (sidx? p0 s1) else some default).bind fun x2=>
    (sidx? p0 s1).bind fun x3=>
    (if (decide (x3 ≥ 48)) then (sidx? p0 s1) else some default).bind fun x4=>
    if ((!((decide (x1 ≥ 97)) && (decide (x2 ≤ 122)))) && (!(((decide (x3 ≥ 48)) && (decide (x4 ≤ 57))) && (decide (s1 > 0))))) then
     some (.inr (.inr false))
    else
     some (.inl ((w64 (s1 + 1))))
   else
    some (.inr (.inl ()))
  ) n (0)).bind fun (rl1:(Unit) ⊕ Bool)=>
  match rl1 with
  | .inl s1r=>
   some true
  | .inr v=>some v
def Ye (n:Nat) (p0:D.termCheck) (p1:D.Term):Option (Bool × D.termCheck):=
 (Zao n p1.Name).bind fun x1=>
 if (!x1) then
  some (false,p0)
 else
  if (Option.isNone p0.widths) then
   (mget2? fitS (0:Int) ([]) p1.Name).bind fun x2=>
   if x2.2 then
    some ((x2.1 == p1.W),(D.termCheck.mk p0.count (some ([]))))
   else
    (mputE? fitS fitZ ([]) p1.Name p1.W).bind fun x3=>
    some (true,(D.termCheck.mk p0.count (some x3)))
  else
   (mget2? fitS (0:Int) (Option.getD p0.widths []) p1.Name).bind fun x4=>
   if x4.2 then
    some ((x4.1 == p1.W),(D.termCheck.mk p0.count (some (Option.getD p0.widths []))))
   else
    (mputE? fitS fitZ (Option.getD p0.widths []) p1.Name p1.W).bind fun x5=>
    some (true,(D.termCheck.mk p0.count (some x5)))
def Zy (n:Nat) (p0:D.termCheck) (p1:D.Term):Option (Bool × D.termCheck):=
 match n with
 | 0=>none
 | n + 1=>
 (if (decide ((w64 (p0.count + 1)) > 240)) then some default else (Yu p1.W)).bind fun x1=>
 (if ((decide ((w64 (p0.count + 1)) > 240)) || (!x1)) then some default else (Yv p1.Op)).bind fun x2=>
 if (((decide ((w64 (p0.count + 1)) > 240)) || (!x1)) || ((len p1.Kids) != x2)) then
  some (false,(D.termCheck.mk (w64 (p0.count + 1)) p0.widths))
 else
  (iterN (fun (s1 : Int) =>
   if (decide (s1 < (len p1.Kids))) then
    (get? p1.Kids s1).bind fun x3=>
    (Yu x3.W).bind fun x4=>
    if (!x4) then
     some (.inr (.inr (false,(D.termCheck.mk (w64 (p0.count + 1)) p0.widths))))
    else
     some (.inl ((w64 (s1 + 1))))
   else
    some (.inr (.inl ()))
  ) n (0)).bind fun (rl1:(Unit) ⊕ (Bool × D.termCheck))=>
  match rl1 with
  | .inl s1r=>
   (Xt p1).bind fun x5=>
   if (!x5) then
    some (false,(D.termCheck.mk (w64 (p0.count + 1)) p0.widths))
   else
    (if (p1.Op == 0) then (XQ p1.W p1.N) else some default).bind fun x6=>
    if ((p1.Op == 0) && (!x6)) then
     some (false,(D.termCheck.mk (w64 (p0.count + 1)) p0.widths))
    else
     if (((p1.Op != 0) && (p1.Op != 19)) && (p1.N != 0)) then
      some (false,(D.termCheck.mk (w64 (p0.count + 1)) p0.widths))
     else
      if (p1.Op != 22) then
       if (!(Str.eqb p1.Name ⟨[]⟩)) then
        some (false,(D.termCheck.mk (w64 (p0.count + 1)) p0.widths))
       else
        (iterN (fun (s2 : Int × Int × (Option (List (Str × Int)))) =>
         if (decide (s2.1 < (len p1.Kids))) then
          (get? p1.Kids s2.1).bind fun x7=>
          (Zy n (D.termCheck.mk s2.2.1 s2.2.2) x7).bind fun x8=>
          if (!x8.1) then
           some (.inr (.inr (false,x8.2)))
          else
           some (.inl ((w64 (s2.1 + 1)),x8.2.count,x8.2.widths))
         else
          some (.inr (.inl (s2.2.1,s2.2.2)))
        ) n (0,(w64 (p0.count + 1)),p0.widths)).bind fun (rl2:(Int × (Option (List (Str × Int)))) ⊕ (Bool × D.termCheck))=>
        match rl2 with
        | .inl s2r=>
         some (true,(D.termCheck.mk s2r.1 s2r.2))
        | .inr v=>some v
      else
       (Ye n (D.termCheck.mk (w64 (p0.count + 1)) p0.widths) p1).bind fun x9=>
       if (!x9.1) then
        some (false,x9.2)
       else
        (iterN (fun (s3 : Int × Int × (Option (List (Str × Int)))) =>
         if (decide (s3.1 < (len p1.Kids))) then
          (get? p1.Kids s3.1).bind fun x10=>
          (Zy n (D.termCheck.mk s3.2.1 s3.2.2) x10).bind fun x11=>
          if (!x11.1) then
           some (.inr (.inr (false,x11.2)))
          else
           some (.inl ((w64 (s3.1 + 1)),x11.2.count,x11.2.widths))
         else
          some (.inr (.inl (s3.2.1,s3.2.2)))
        ) n (0,x9.2.count,x9.2.widths)).bind fun (rl3:(Int × (Option (List (Str × Int)))) ⊕ (Bool × D.termCheck))=>
        match rl3 with
        | .inl s3r=>
         some (true,(D.termCheck.mk s3r.1 s3r.2))
        | .inr v=>some v
  | .inr v=>some v
def YV (n:Nat) (p0:D.Term):Option Bool:=
 (Zy n (D.termCheck.mk 0 none) p0).bind fun x1=>
 some x1.1
def Y9 (p0:Int):Option Bool:=
 some ((decide (p0 ≥ 0)) && (decide (p0 ≤ 3000)))
def Xf (p0:Int):Option Bool:=
 some ((decide (p0 ≥ 3)) && (decide (p0 ≤ 16)))
def YM (n:Nat) (p0:D.Term):Option Bool:=
 match n with
 | 0=>none
 | n + 1=>
 (if (p0.Op == 2) then some default else (Xf p0.Op)).bind fun x1=>
 (if ((p0.Op == 2) || x1) then (get? p0.Kids 0) else some default).bind fun x2=>
 if (((p0.Op == 2) || x1) && (x2.W == 16)) then
  some true
 else
  (iterN (fun (s1 : Int) =>
   if (decide (s1 < (len p0.Kids))) then
    (get? p0.Kids s1).bind fun x3=>
    (YM n x3).bind fun x4=>
    if x4 then
     some (.inr (.inr true))
    else
     some (.inl ((w64 (s1 + 1))))
   else
    some (.inr (.inl ()))
  ) n (0)).bind fun (rl1:(Unit) ⊕ Bool)=>
  match rl1 with
  | .inl s1r=>
   some false
  | .inr v=>some v
def ZQ (n:Nat) (p0:D.Term) (p1:Option (List (Str × Int))):Option (Option (List (Str × Int))):=
 match n with
 | 0=>none
 | n + 1=>
 if (p0.Op == 22) then
  p1.bind fun x1=>
  (mputE? fitS fitZ x1 p0.Name p0.W).bind fun x2 =>
  (iterN (fun (s1 : Int × (Option (List (Str × Int)))) =>
   if (decide (s1.1 < (len p0.Kids))) then
    (get? p0.Kids s1.1).bind fun x3=>
    (ZQ n x3 s1.2).bind fun x4=>
    some (.inl ((w64 (s1.1 + 1)),x4))
   else
    some (.inr (s1.2))
  ) n (0,(some x2))).bind fun (rl1:(Option (List (Str × Int))))=>
  some rl1
 else
  (iterN (fun (s2 : Int × (Option (List (Str × Int)))) =>
   if (decide (s2.1 < (len p0.Kids))) then
    (get? p0.Kids s2.1).bind fun x5=>
    (ZQ n x5 s2.2).bind fun x6=>
    some (.inl ((w64 (s2.1 + 1)),x6))
   else
    some (.inr (s2.2))
  ) n (0,p1)).bind fun (rl2:(Option (List (Str × Int))))=>
  some rl2
def YU (n:Nat) (p0:D.Term):Option (List D.Value):=
 (YV n p0).bind fun x1=>
 if (!x1) then
  some ([]:List D.Value)
 else
  (ZQ n p0 (some [])).bind fun x2=>
  x2.bind fun x3=>
  if x3.length ≤ 1048576 then some (vtab x3) else none
def Z8 (p0:List D.Gate):Option (List D.Gate):=
 (app? ([]:List D.Gate) p0).bind fun x1=>
 some x1
def Xd (n:Nat) (p0:D.Circuit):Option D.builder:=
 (Z8 p0.Gates).bind fun x1 =>
 (iterN (fun (s1 : Int × (List (D.Gate × Int))) =>
  if (decide (s1.1 < (len p0.Gates))) then
   (get? p0.Gates s1.1).bind fun x2=>
   (mputE? Z6 fitZ s1.2 x2 (w64 ((w64 (2 + p0.Inputs)) + s1.1))).bind fun x3=>
   some (.inl ((w64 (s1.1 + 1)),x3))
  else
   some (.inr (s1.2))
 ) n (0,[])).bind fun (rl1:(List (D.Gate × Int)))=>
 some (D.builder.mk (D.Circuit.mk p0.Inputs x1) rl1 false)
def ZW (n:Nat) (p0:Int) (p1:Int):Option (List Int):=
 (mk? p0 (0:Int)).bind fun x1 =>
 (iterN (fun (s1 : Int × (List Int)) =>
  if (decide (s1.1 < (len x1))) then
   (set? s1.2 s1.1 (-1)).bind fun x2=>
   (shr? p1 (IntKind.u64.wrap s1.1)).bind fun x3=>
   if ((band x3 1) == 1) then
    (set? x2 s1.1 1).bind fun x4=>
    some (.inl ((w64 (s1.1 + 1)),x4))
   else
    some (.inl ((w64 (s1.1 + 1)),x2))
  else
   some (.inr (s1.2))
 ) n (0,x1)).bind fun (rl1:(List Int))=>
 some rl1
def Zc (p0:List Int):Option (List Int):=
 (app? ([]:List Int) p0).bind fun x1=>
 some x1
def Ym (n:Nat) (p0:List Int):Option (List Int):=
 (mk? (len p0) (0:Int)).bind fun x1 =>
 (iterN (fun (s1 : Int × (List Int)) =>
  if (decide (s1.1 < (len p0))) then
   (get? p0 s1.1).bind fun x2=>
   (set? s1.2 s1.1 (w64 (0 - x2))).bind fun x3=>
   some (.inl ((w64 (s1.1 + 1)),x3))
  else
   some (.inr (s1.2))
 ) n (0,x1)).bind fun (rl1:(List Int))=>
 some rl1
def ZR (p0:Int):Option Int:=
 if (decide (p0 < 0)) then
  some (w64 (0 - p0))
 else
  some p0
def ZO (p0:D.Circuit):Option Int:=
 some (w64 ((w64 (1 + p0.Inputs)) + (len p0.Gates)))
def Zi (p0:D.builder) (p1:Int) (p2:Int):Option (Int × D.builder):=
 if (((p1 == (-1)) || (p2 == (-1))) || (p1 == (w64 (0 - p2)))) then
  some ((-1),p0)
 else
  if (p1 == 1) then
   some (p2,p0)
  else
   if ((p2 == 1) || (p1 == p2)) then
    some (p1,p0)
   else
    (ZR p1).bind fun x1=>
    (ZR p2).bind fun x2=>
    if (decide (x1 > x2)) then
     (mget2? Z6 (0:Int) p0.line (D.Gate.mk p2 p1)).bind fun x3=>
     if x3.2 then
      some (x3.1,p0)
     else
      if (decide ((len p0.c.Gates) ≥ 360)) then
       some ((-1),(D.builder.mk p0.c p0.line true))
      else
       (app? p0.c.Gates ([(D.Gate.mk p2 p1)]:List D.Gate)).bind fun x4=>
       (ZO (D.Circuit.mk p0.c.Inputs x4)).bind fun x5=>
       (mputE? Z6 fitZ p0.line (D.Gate.mk p2 p1) x5).bind fun x6=>
       some (x5,(D.builder.mk (D.Circuit.mk p0.c.Inputs x4) x6 p0.full))
    else
     (mget2? Z6 (0:Int) p0.line (D.Gate.mk p1 p2)).bind fun x7=>
     if x7.2 then
      some (x7.1,p0)
     else
      if (decide ((len p0.c.Gates) ≥ 360)) then
       some ((-1),(D.builder.mk p0.c p0.line true))
      else
       (app? p0.c.Gates ([(D.Gate.mk p1 p2)]:List D.Gate)).bind fun x8=>
       (ZO (D.Circuit.mk p0.c.Inputs x8)).bind fun x9=>
       (mputE? Z6 fitZ p0.line (D.Gate.mk p1 p2) x9).bind fun x10=>
       some (x9,(D.builder.mk (D.Circuit.mk p0.c.Inputs x8) x10 p0.full))
def Zu (p0:D.builder) (p1:Int) (p2:Int):Option (Int × D.builder):=
 (Zi p0 (w64 (0 - p1)) (w64 (0 - p2))).bind fun x1=>
 some ((w64 (0 - x1.1)),x1.2)
def Zx (p0:D.builder) (p1:Int) (p2:Int):Option (Int × D.builder):=
 (Zi p0 p1 (w64 (0 - p2))).bind fun x1=>
 (Zi x1.2 (w64 (0 - p1)) p2).bind fun x2=>
 (Zu x2.2 x1.1 x2.1).bind fun x3=>
 some (x3.1,x3.2)
def ZG (n:Nat) (p0:D.builder) (p1:List Int) (p2:List Int) (p3:Int):Option ((List Int) × Int × D.builder):=
 (mk? (len p1) (0:Int)).bind fun x1 =>
 (iterN (fun (s1 : Int × Int × (List Int) × Int × Bool × (List D.Gate) × (List (D.Gate × Int))) =>
  if (decide (s1.2.1 < (len p1))) then
   (get? p1 s1.2.1).bind fun x2=>
   (get? p2 s1.2.1).bind fun x3=>
   (Zx (D.builder.mk (D.Circuit.mk s1.2.2.2.1 s1.2.2.2.2.2.1) s1.2.2.2.2.2.2 s1.2.2.2.2.1) x2 x3).bind fun x4=>
   (Zx x4.2 x4.1 s1.1).bind fun x5=>
   (set? s1.2.2.1 s1.2.1 x5.1).bind fun x6=>
   (get? p1 s1.2.1).bind fun x7=>
   (get? p2 s1.2.1).bind fun x8=>
   (Zi x5.2 x7 x8).bind fun x9=>
   (Zi x9.2 x4.1 s1.1).bind fun x10=>
   (Zu x10.2 x9.1 x10.1).bind fun x11=>
   some (.inl (x11.1,(w64 (s1.2.1 + 1)),x6,x11.2.c.Inputs,x11.2.full,x11.2.c.Gates,x11.2.line))
  else
   some (.inr (s1.1,s1.2.2.1,s1.2.2.2.1,s1.2.2.2.2.1,s1.2.2.2.2.2.1,s1.2.2.2.2.2.2))
 ) n (p3,0,x1,p0.c.Inputs,p0.full,p0.c.Gates,p0.line)).bind fun (rl1:Int × (List Int) × Int × Bool × (List D.Gate) × (List (D.Gate × Int)))=>
 some (rl1.2.1,rl1.1,(D.builder.mk (D.Circuit.mk rl1.2.2.1 rl1.2.2.2.2.1) rl1.2.2.2.2.2 rl1.2.2.2.1))
def Yq (n:Nat) (p0:D.builder) (p1:List Int) (p2:List Int):Option ((List Int) × D.builder):=
 (ZW n (len p1) 0).bind fun x1 =>
 (iterN (fun (s1 : Int × (List Int) × Int × Bool × (List D.Gate) × (List (D.Gate × Int))) =>
  if (decide (s1.1 < (len p2))) then
   (mk? (w64 ((len p1) - s1.1)) (0:Int)).bind fun x2 =>
   (iterN (fun (s2 : Int × (List Int) × Int × Bool × (List D.Gate) × (List (D.Gate × Int))) =>
    if (decide (s2.1 < (len x2))) then
     (get? p2 s1.1).bind fun x3=>
     (get? p1 s2.1).bind fun x4=>
     (Zi (D.builder.mk (D.Circuit.mk s2.2.2.1 s2.2.2.2.2.1) s2.2.2.2.2.2 s2.2.2.2.1) x3 x4).bind fun x5=>
     (set? s2.2.1 s2.1 x5.1).bind fun x6=>
     some (.inl ((w64 (s2.1 + 1)),x6,x5.2.c.Inputs,x5.2.full,x5.2.c.Gates,x5.2.line))
    else
     some (.inr (s2.2.1,s2.2.2.1,s2.2.2.2.1,s2.2.2.2.2.1,s2.2.2.2.2.2))
   ) n (0,x2,s1.2.2.1,s1.2.2.2.1,s1.2.2.2.2.1,s1.2.2.2.2.2)).bind fun (rl2:(List Int) × Int × Bool × (List D.Gate) × (List (D.Gate × Int)))=>
   (cut? s1.2.1 s1.1 (len s1.2.1)).bind fun x7=>
   (ZG n (D.builder.mk (D.Circuit.mk rl2.2.1 rl2.2.2.2.1) rl2.2.2.2.2 rl2.2.2.1) x7 rl2.1 (-1)).bind fun x8=>
   (cut? s1.2.1 s1.1 (len s1.2.1)).bind fun x9=>
   some (.inl ((w64 (s1.1 + 1)),(vcopy s1.2.1 s1.1 (List.length x9) x8.1),x8.2.2.c.Inputs,x8.2.2.full,x8.2.2.c.Gates,x8.2.2.line))
  else
   some (.inr (s1.2.1,s1.2.2.1,s1.2.2.2.1,s1.2.2.2.2.1,s1.2.2.2.2.2))
 ) n (0,x1,p0.c.Inputs,p0.full,p0.c.Gates,p0.line)).bind fun (rl1:(List Int) × Int × Bool × (List D.Gate) × (List (D.Gate × Int)))=>
 some (rl1.1,(D.builder.mk (D.Circuit.mk rl1.2.1 rl1.2.2.2.1) rl1.2.2.2.2 rl1.2.2.1))
def Zb (p0:D.builder) (p1:Int) (p2:Int) (p3:Int):Option (Int × D.builder):=
 (Zi p0 p1 p2).bind fun x1=>
 (Zi x1.2 (w64 (0 - p1)) p3).bind fun x2=>
 (Zu x2.2 x1.1 x2.1).bind fun x3=>
 some (x3.1,x3.2)
def Yo (n:Nat) (p0:D.builder) (p1:List Int) (p2:List Int):Option ((List Int) × (List Int) × D.builder):=
 (mk? (len p1) (0:Int)).bind fun x1=>
 (ZW n (len p1) 0).bind fun x2=>
 (Ym n p2).bind fun x3=>
 (app? x3 ([1]:List Int)).bind fun x4 =>
 (iterN (fun (s1 : Int × (List Int) × (List Int) × Int × Bool × (List D.Gate) × (List (D.Gate × Int))) =>
  if (decide (s1.1 ≥ 0)) then
   (get? p1 s1.1).bind fun x5=>
   (app? ([x5]:List Int) s1.2.2.1).bind fun x6=>
   (ZG n (D.builder.mk (D.Circuit.mk s1.2.2.2.1 s1.2.2.2.2.2.1) s1.2.2.2.2.2.2 s1.2.2.2.2.1) x6 x4 1).bind fun x7=>
   (set? s1.2.1 s1.1 x7.2.1).bind fun x8 =>
   (iterN (fun (s2 : Int × (List Int) × Int × Bool × (List D.Gate) × (List (D.Gate × Int))) =>
    if (decide (s2.1 < (len x2))) then
     (get? x7.1 s2.1).bind fun x9=>
     (get? x6 s2.1).bind fun x10=>
     (Zb (D.builder.mk (D.Circuit.mk s2.2.2.1 s2.2.2.2.2.1) s2.2.2.2.2.2 s2.2.2.2.1) x7.2.1 x9 x10).bind fun x11=>
     (set? s2.2.1 s2.1 x11.1).bind fun x12=>
     some (.inl ((w64 (s2.1 + 1)),x12,x11.2.c.Inputs,x11.2.full,x11.2.c.Gates,x11.2.line))
    else
     some (.inr (s2.2.1,s2.2.2.1,s2.2.2.2.1,s2.2.2.2.2.1,s2.2.2.2.2.2))
   ) n (0,s1.2.2.1,x7.2.2.c.Inputs,x7.2.2.full,x7.2.2.c.Gates,x7.2.2.line)).bind fun (rl2:(List Int) × Int × Bool × (List D.Gate) × (List (D.Gate × Int)))=>
   some (.inl ((w64 (s1.1 - 1)),x8,rl2.1,rl2.2.1,rl2.2.2.1,rl2.2.2.2.1,rl2.2.2.2.2))
  else
   some (.inr (s1.2.1,s1.2.2.1,s1.2.2.2.1,s1.2.2.2.2.1,s1.2.2.2.2.2.1,s1.2.2.2.2.2.2))
 ) n ((w64 ((len p1) - 1)),x1,x2,p0.c.Inputs,p0.full,p0.c.Gates,p0.line)).bind fun (rl1:(List Int) × (List Int) × Int × Bool × (List D.Gate) × (List (D.Gate × Int)))=>
 some (rl1.1,rl1.2.1,(D.builder.mk (D.Circuit.mk rl1.2.2.1 rl1.2.2.2.2.1) rl1.2.2.2.2.2 rl1.2.2.2.1))
def Yc (n:Nat) (p0:D.builder) (p1:Int) (p2:List Int) (p3:List Int):Option ((List Int) × D.builder):=
 if (p1 == 13) then
  (get? p2 (w64 ((len p2) - 1))).bind fun x1=>
  (Zc p2).bind fun x2 =>
  (iterN (fun (s1 : Int × (List Int) × Int × Bool × (List D.Gate) × (List (D.Gate × Int))) =>
   (if (decide (s1.1 < (len p2))) then (shl? 1 (IntKind.u64.wrap s1.1)) else some default).bind fun x3=>
   if ((decide (s1.1 < (len p2))) && (decide (x3 < (len p2)))) then
    (Zc s1.2.1).bind fun x4 =>
    (iterN (fun (s2 : Int × (List Int) × Int × Bool × (List D.Gate) × (List (D.Gate × Int))) =>
     if (decide (s2.1 < (len s1.2.1))) then
      (shl? 1 (IntKind.u64.wrap s1.1)).bind fun x5=>
      if (p1 == 11) then
       (shl? 1 (IntKind.u64.wrap s1.1)).bind fun x6=>
       if ((decide ((w64 (s2.1 - x6)) ≥ 0)) && (decide ((w64 (s2.1 - x6)) < (len p2)))) then
        (get? x4 (w64 (s2.1 - x6))).bind fun x7=>
        (get? p3 s1.1).bind fun x8=>
        (get? x4 s2.1).bind fun x9=>
        (Zb (D.builder.mk (D.Circuit.mk s2.2.2.1 s2.2.2.2.2.1) s2.2.2.2.2.2 s2.2.2.2.1) x8 x7 x9).bind fun x10=>
        (set? s2.2.1 s2.1 x10.1).bind fun x11=>
        some (.inl ((w64 (s2.1 + 1)),x11,x10.2.c.Inputs,x10.2.full,x10.2.c.Gates,x10.2.line))
       else
        (get? p3 s1.1).bind fun x12=>
        (get? x4 s2.1).bind fun x13=>
        (Zb (D.builder.mk (D.Circuit.mk s2.2.2.1 s2.2.2.2.2.1) s2.2.2.2.2.2 s2.2.2.2.1) x12 x1 x13).bind fun x14=>
        (set? s2.2.1 s2.1 x14.1).bind fun x15=>
        some (.inl ((w64 (s2.1 + 1)),x15,x14.2.c.Inputs,x14.2.full,x14.2.c.Gates,x14.2.line))
      else
       if ((decide ((w64 (s2.1 + x5)) ≥ 0)) && (decide ((w64 (s2.1 + x5)) < (len p2)))) then
        (get? x4 (w64 (s2.1 + x5))).bind fun x16=>
        (get? p3 s1.1).bind fun x17=>
        (get? x4 s2.1).bind fun x18=>
        (Zb (D.builder.mk (D.Circuit.mk s2.2.2.1 s2.2.2.2.2.1) s2.2.2.2.2.2 s2.2.2.2.1) x17 x16 x18).bind fun x19=>
        (set? s2.2.1 s2.1 x19.1).bind fun x20=>
        some (.inl ((w64 (s2.1 + 1)),x20,x19.2.c.Inputs,x19.2.full,x19.2.c.Gates,x19.2.line))
       else
        (get? p3 s1.1).bind fun x21=>
        (get? x4 s2.1).bind fun x22=>
        (Zb (D.builder.mk (D.Circuit.mk s2.2.2.1 s2.2.2.2.2.1) s2.2.2.2.2.2 s2.2.2.2.1) x21 x1 x22).bind fun x23=>
        (set? s2.2.1 s2.1 x23.1).bind fun x24=>
        some (.inl ((w64 (s2.1 + 1)),x24,x23.2.c.Inputs,x23.2.full,x23.2.c.Gates,x23.2.line))
     else
      some (.inr (s2.2.1,s2.2.2.1,s2.2.2.2.1,s2.2.2.2.2.1,s2.2.2.2.2.2))
    ) n (0,s1.2.1,s1.2.2.1,s1.2.2.2.1,s1.2.2.2.2.1,s1.2.2.2.2.2)).bind fun (rl2:(List Int) × Int × Bool × (List D.Gate) × (List (D.Gate × Int)))=>
    some (.inl ((w64 (s1.1 + 1)),rl2.1,rl2.2.1,rl2.2.2.1,rl2.2.2.2.1,rl2.2.2.2.2))
   else
    some (.inr (s1.1,s1.2.1,s1.2.2.1,s1.2.2.2.1,s1.2.2.2.2.1,s1.2.2.2.2.2))
  ) n (0,x2,p0.c.Inputs,p0.full,p0.c.Gates,p0.line)).bind fun (rl1:Int × (List Int) × Int × Bool × (List D.Gate) × (List (D.Gate × Int)))=>
  if (decide (rl1.1 < (len p2))) then
   (iterN (fun (s3 : Int × Int × Int × Bool × (List D.Gate) × (List (D.Gate × Int))) =>
    if (decide (s3.1 < (len p2))) then
     (get? p3 s3.1).bind fun x25=>
     (Zu (D.builder.mk (D.Circuit.mk s3.2.2.1 s3.2.2.2.2.1) s3.2.2.2.2.2 s3.2.2.2.1) s3.2.1 x25).bind fun x26=>
     some (.inl ((w64 (s3.1 + 1)),x26.1,x26.2.c.Inputs,x26.2.full,x26.2.c.Gates,x26.2.line))
    else
     some (.inr (s3.2.1,s3.2.2.1,s3.2.2.2.1,s3.2.2.2.2.1,s3.2.2.2.2.2))
   ) n (rl1.1,(-1),rl1.2.2.1,rl1.2.2.2.1,rl1.2.2.2.2.1,rl1.2.2.2.2.2)).bind fun (rl3:Int × Int × Bool × (List D.Gate) × (List (D.Gate × Int))) =>
   (iterN (fun (s4 : Int × (List Int) × Int × Bool × (List D.Gate) × (List (D.Gate × Int))) =>
    if (decide (s4.1 < (len rl1.2.1))) then
     (get? s4.2.1 s4.1).bind fun x27=>
     (Zb (D.builder.mk (D.Circuit.mk s4.2.2.1 s4.2.2.2.2.1) s4.2.2.2.2.2 s4.2.2.2.1) rl3.1 x1 x27).bind fun x28=>
     (set? s4.2.1 s4.1 x28.1).bind fun x29=>
     some (.inl ((w64 (s4.1 + 1)),x29,x28.2.c.Inputs,x28.2.full,x28.2.c.Gates,x28.2.line))
    else
     some (.inr (s4.2.1,s4.2.2.1,s4.2.2.2.1,s4.2.2.2.2.1,s4.2.2.2.2.2))
   ) n (0,rl1.2.1,rl3.2.1,rl3.2.2.1,rl3.2.2.2.1,rl3.2.2.2.2)).bind fun (rl4:(List Int) × Int × Bool × (List D.Gate) × (List (D.Gate × Int)))=>
   some (rl4.1,(D.builder.mk (D.Circuit.mk rl4.2.1 rl4.2.2.2.1) rl4.2.2.2.2 rl4.2.2.1))
  else
   some (rl1.2.1,(D.builder.mk (D.Circuit.mk rl1.2.2.1 rl1.2.2.2.2.1) rl1.2.2.2.2.2 rl1.2.2.2.1))
 else
  (Zc p2).bind fun x30 =>
  (iterN (fun (s5 : Int × (List Int) × Int × Bool × (List D.Gate) × (List (D.Gate × Int))) =>
   (if (decide (s5.1 < (len p2))) then (shl? 1 (IntKind.u64.wrap s5.1)) else some default).bind fun x31=>
   if ((decide (s5.1 < (len p2))) && (decide (x31 < (len p2)))) then
    (Zc s5.2.1).bind fun x32 =>
    (iterN (fun (s6 : Int × (List Int) × Int × Bool × (List D.Gate) × (List (D.Gate × Int))) =>
     if (decide (s6.1 < (len s5.2.1))) then
      (shl? 1 (IntKind.u64.wrap s5.1)).bind fun x33=>
      if (p1 == 11) then
       (shl? 1 (IntKind.u64.wrap s5.1)).bind fun x34=>
       if ((decide ((w64 (s6.1 - x34)) ≥ 0)) && (decide ((w64 (s6.1 - x34)) < (len p2)))) then
        (get? x32 (w64 (s6.1 - x34))).bind fun x35=>
        (get? p3 s5.1).bind fun x36=>
        (get? x32 s6.1).bind fun x37=>
        (Zb (D.builder.mk (D.Circuit.mk s6.2.2.1 s6.2.2.2.2.1) s6.2.2.2.2.2 s6.2.2.2.1) x36 x35 x37).bind fun x38=>
        (set? s6.2.1 s6.1 x38.1).bind fun x39=>
        some (.inl ((w64 (s6.1 + 1)),x39,x38.2.c.Inputs,x38.2.full,x38.2.c.Gates,x38.2.line))
       else
        (get? p3 s5.1).bind fun x40=>
        (get? x32 s6.1).bind fun x41=>
        (Zb (D.builder.mk (D.Circuit.mk s6.2.2.1 s6.2.2.2.2.1) s6.2.2.2.2.2 s6.2.2.2.1) x40 (-1) x41).bind fun x42=>
        (set? s6.2.1 s6.1 x42.1).bind fun x43=>
        some (.inl ((w64 (s6.1 + 1)),x43,x42.2.c.Inputs,x42.2.full,x42.2.c.Gates,x42.2.line))
      else
       if ((decide ((w64 (s6.1 + x33)) ≥ 0)) && (decide ((w64 (s6.1 + x33)) < (len p2)))) then
        (get? x32 (w64 (s6.1 + x33))).bind fun x44=>
        (get? p3 s5.1).bind fun x45=>
        (get? x32 s6.1).bind fun x46=>
        (Zb (D.builder.mk (D.Circuit.mk s6.2.2.1 s6.2.2.2.2.1) s6.2.2.2.2.2 s6.2.2.2.1) x45 x44 x46).bind fun x47=>
        (set? s6.2.1 s6.1 x47.1).bind fun x48=>
        some (.inl ((w64 (s6.1 + 1)),x48,x47.2.c.Inputs,x47.2.full,x47.2.c.Gates,x47.2.line))
       else
        (get? p3 s5.1).bind fun x49=>
        (get? x32 s6.1).bind fun x50=>
        (Zb (D.builder.mk (D.Circuit.mk s6.2.2.1 s6.2.2.2.2.1) s6.2.2.2.2.2 s6.2.2.2.1) x49 (-1) x50).bind fun x51=>
        (set? s6.2.1 s6.1 x51.1).bind fun x52=>
        some (.inl ((w64 (s6.1 + 1)),x52,x51.2.c.Inputs,x51.2.full,x51.2.c.Gates,x51.2.line))
     else
      some (.inr (s6.2.1,s6.2.2.1,s6.2.2.2.1,s6.2.2.2.2.1,s6.2.2.2.2.2))
    ) n (0,s5.2.1,s5.2.2.1,s5.2.2.2.1,s5.2.2.2.2.1,s5.2.2.2.2.2)).bind fun (rl6:(List Int) × Int × Bool × (List D.Gate) × (List (D.Gate × Int)))=>
    some (.inl ((w64 (s5.1 + 1)),rl6.1,rl6.2.1,rl6.2.2.1,rl6.2.2.2.1,rl6.2.2.2.2))
   else
    some (.inr (s5.1,s5.2.1,s5.2.2.1,s5.2.2.2.1,s5.2.2.2.2.1,s5.2.2.2.2.2))
  ) n (0,x30,p0.c.Inputs,p0.full,p0.c.Gates,p0.line)).bind fun (rl5:Int × (List Int) × Int × Bool × (List D.Gate) × (List (D.Gate × Int)))=>
  if (decide (rl5.1 < (len p2))) then
   (iterN (fun (s7 : Int × Int × Int × Bool × (List D.Gate) × (List (D.Gate × Int))) =>
    if (decide (s7.1 < (len p2))) then
     (get? p3 s7.1).bind fun x53=>
     (Zu (D.builder.mk (D.Circuit.mk s7.2.2.1 s7.2.2.2.2.1) s7.2.2.2.2.2 s7.2.2.2.1) s7.2.1 x53).bind fun x54=>
     some (.inl ((w64 (s7.1 + 1)),x54.1,x54.2.c.Inputs,x54.2.full,x54.2.c.Gates,x54.2.line))
    else
     some (.inr (s7.2.1,s7.2.2.1,s7.2.2.2.1,s7.2.2.2.2.1,s7.2.2.2.2.2))
   ) n (rl5.1,(-1),rl5.2.2.1,rl5.2.2.2.1,rl5.2.2.2.2.1,rl5.2.2.2.2.2)).bind fun (rl7:Int × Int × Bool × (List D.Gate) × (List (D.Gate × Int))) =>
   (iterN (fun (s8 : Int × (List Int) × Int × Bool × (List D.Gate) × (List (D.Gate × Int))) =>
    if (decide (s8.1 < (len rl5.2.1))) then
     (get? s8.2.1 s8.1).bind fun x55=>
     (Zb (D.builder.mk (D.Circuit.mk s8.2.2.1 s8.2.2.2.2.1) s8.2.2.2.2.2 s8.2.2.2.1) rl7.1 (-1) x55).bind fun x56=>
     (set? s8.2.1 s8.1 x56.1).bind fun x57=>
     some (.inl ((w64 (s8.1 + 1)),x57,x56.2.c.Inputs,x56.2.full,x56.2.c.Gates,x56.2.line))
    else
     some (.inr (s8.2.1,s8.2.2.1,s8.2.2.2.1,s8.2.2.2.2.1,s8.2.2.2.2.2))
   ) n (0,rl5.2.1,rl7.2.1,rl7.2.2.1,rl7.2.2.2.1,rl7.2.2.2.2)).bind fun (rl8:(List Int) × Int × Bool × (List D.Gate) × (List (D.Gate × Int)))=>
   some (rl8.1,(D.builder.mk (D.Circuit.mk rl8.2.1 rl8.2.2.2.1) rl8.2.2.2.2 rl8.2.2.1))
  else
   some (rl5.2.1,(D.builder.mk (D.Circuit.mk rl5.2.2.1 rl5.2.2.2.2.1) rl5.2.2.2.2.2 rl5.2.2.2.1))
def Yt (n:Nat) (p0:D.builder) (p1:List Int) (p2:List Int):Option (Int × D.builder) :=
 (iterN (fun (s1 : Int × Int × Int × Bool × (List D.Gate) × (List (D.Gate × Int))) =>
  if (decide (s1.2.1 < (len p1))) then
   (get? p1 s1.2.1).bind fun x1=>
   (get? p2 s1.2.1).bind fun x2=>
   (Zx (D.builder.mk (D.Circuit.mk s1.2.2.1 s1.2.2.2.2.1) s1.2.2.2.2.2 s1.2.2.2.1) x1 x2).bind fun x3=>
   (Zi x3.2 s1.1 (w64 (0 - x3.1))).bind fun x4=>
   some (.inl (x4.1,(w64 (s1.2.1 + 1)),x4.2.c.Inputs,x4.2.full,x4.2.c.Gates,x4.2.line))
  else
   some (.inr (s1.1,s1.2.2.1,s1.2.2.2.1,s1.2.2.2.2.1,s1.2.2.2.2.2))
 ) n (1,0,p0.c.Inputs,p0.full,p0.c.Gates,p0.line)).bind fun (rl1:Int × Int × Bool × (List D.Gate) × (List (D.Gate × Int)))=>
 some (rl1.1,(D.builder.mk (D.Circuit.mk rl1.2.1 rl1.2.2.2.1) rl1.2.2.2.2 rl1.2.2.1))
def ZT (n:Nat) (p0:D.builder) (p1:List Int) (p2:List Int):Option (Int × D.builder):=
 (Ym n p2).bind fun x1=>
 (ZG n p0 p1 x1 1).bind fun x2=>
 some ((w64 (0 - x2.2.1)),x2.2.2)
def Yp (p0:List Int):Option (List Int):=
 (Zc p0).bind fun x1=>
 (get? x1 (w64 ((len x1) - 1))).bind fun x2=>
 (set? x1 (w64 ((len x1) - 1)) (w64 (0 - x2))).bind fun x3=>
 some x3
def Z7 (n:Nat) (p0:D.builder) (p1:Int) (p2:List Int) (p3:List Int):Option ((List Int) × D.builder):=
 if (p1 == 3) then
  (ZG n p0 p2 p3 (-1)).bind fun x1=>
  some (x1.1,x1.2.2)
 else
  if (p1 == 4) then
   (Ym n p3).bind fun x2=>
   (ZG n p0 p2 x2 1).bind fun x3=>
   some (x3.1,x3.2.2)
  else
   if (p1 == 5) then
    (Yq n p0 p2 p3).bind fun x4=>
    some (x4.1,x4.2)
   else
    if (p1 == 6) then
     (Yo n p0 p2 p3).bind fun x5=>
     some (x5.1,x5.2.2)
    else
     if (p1 == 7) then
      (Yo n p0 p2 p3).bind fun x6=>
      some (x6.2.1,x6.2.2)
     else
      if (p1 == 11) then
       if (p1 == 11) then
        (Yc n p0 p1 p2 p3).bind fun x7=>
        some (x7.1,x7.2)
       else
        if (p1 == 14) then
         (Yt n p0 p2 p3).bind fun x8=>
         some (([x8.1]:List Int),x8.2)
        else
         if (p1 == 15) then
          (ZT n p0 p2 p3).bind fun x9=>
          some (([x9.1]:List Int),x9.2)
         else
          if (p1 == 16) then
           (Yp p2).bind fun x10=>
           (Yp p3).bind fun x11=>
           (ZT n p0 x10 x11).bind fun x12=>
           some (([x12.1]:List Int),x12.2)
          else
           (mk? (len p2) (0:Int)).bind fun x13 =>
           (iterN (fun (s1 : Int × (List Int) × Int × Bool × (List D.Gate) × (List (D.Gate × Int))) =>
            if (decide (s1.1 < (len p2))) then
             if (p1 == 8) then
              (get? p2 s1.1).bind fun x14=>
              (get? p3 s1.1).bind fun x15=>
              (Zi (D.builder.mk (D.Circuit.mk s1.2.2.1 s1.2.2.2.2.1) s1.2.2.2.2.2 s1.2.2.2.1) x14 x15).bind fun x16=>
              (set? s1.2.1 s1.1 x16.1).bind fun x17=>
              some (.inl ((w64 (s1.1 + 1)),x17,x16.2.c.Inputs,x16.2.full,x16.2.c.Gates,x16.2.line))
             else
              if (p1 == 9) then
               (get? p2 s1.1).bind fun x18=>
               (get? p3 s1.1).bind fun x19=>
               (Zu (D.builder.mk (D.Circuit.mk s1.2.2.1 s1.2.2.2.2.1) s1.2.2.2.2.2 s1.2.2.2.1) x18 x19).bind fun x20=>
               (set? s1.2.1 s1.1 x20.1).bind fun x21=>
               some (.inl ((w64 (s1.1 + 1)),x21,x20.2.c.Inputs,x20.2.full,x20.2.c.Gates,x20.2.line))
              else
               (get? p2 s1.1).bind fun x22=>
               (get? p3 s1.1).bind fun x23=>
               (Zx (D.builder.mk (D.Circuit.mk s1.2.2.1 s1.2.2.2.2.1) s1.2.2.2.2.2 s1.2.2.2.1) x22 x23).bind fun x24=>
               (set? s1.2.1 s1.1 x24.1).bind fun x25=>
               some (.inl ((w64 (s1.1 + 1)),x25,x24.2.c.Inputs,x24.2.full,x24.2.c.Gates,x24.2.line))
            else
             some (.inr (s1.2.1,s1.2.2.1,s1.2.2.2.1,s1.2.2.2.2.1,s1.2.2.2.2.2))
           ) n (0,x13,p0.c.Inputs,p0.full,p0.c.Gates,p0.line)).bind fun (rl1:(List Int) × Int × Bool × (List D.Gate) × (List (D.Gate × Int)))=>
           some (rl1.1,(D.builder.mk (D.Circuit.mk rl1.2.1 rl1.2.2.2.1) rl1.2.2.2.2 rl1.2.2.1))
      else
       if ((p1 == 12) || (p1 == 13)) then
        (Yc n p0 p1 p2 p3).bind fun x26=>
        some (x26.1,x26.2)
       else
        if (p1 == 14) then
         (Yt n p0 p2 p3).bind fun x27=>
         some (([x27.1]:List Int),x27.2)
        else
         if (p1 == 15) then
          (ZT n p0 p2 p3).bind fun x28=>
          some (([x28.1]:List Int),x28.2)
         else
          if (p1 == 16) then
           (Yp p2).bind fun x29=>
           (Yp p3).bind fun x30=>
           (ZT n p0 x29 x30).bind fun x31=>
           some (([x31.1]:List Int),x31.2)
          else
           (mk? (len p2) (0:Int)).bind fun x32 =>
           (iterN (fun (s2 : Int × (List Int) × Int × Bool × (List D.Gate) × (List (D.Gate × Int))) =>
            if (decide (s2.1 < (len p2))) then
             if (p1 == 8) then
              (get? p2 s2.1).bind fun x33=>
              (get? p3 s2.1).bind fun x34=>
              (Zi (D.builder.mk (D.Circuit.mk s2.2.2.1 s2.2.2.2.2.1) s2.2.2.2.2.2 s2.2.2.2.1) x33 x34).bind fun x35=>
              (set? s2.2.1 s2.1 x35.1).bind fun x36=>
              some (.inl ((w64 (s2.1 + 1)),x36,x35.2.c.Inputs,x35.2.full,x35.2.c.Gates,x35.2.line))
             else
              if (p1 == 9) then
               (get? p2 s2.1).bind fun x37=>
               (get? p3 s2.1).bind fun x38=>
               (Zu (D.builder.mk (D.Circuit.mk s2.2.2.1 s2.2.2.2.2.1) s2.2.2.2.2.2 s2.2.2.2.1) x37 x38).bind fun x39=>
               (set? s2.2.1 s2.1 x39.1).bind fun x40=>
               some (.inl ((w64 (s2.1 + 1)),x40,x39.2.c.Inputs,x39.2.full,x39.2.c.Gates,x39.2.line))
              else
               (get? p2 s2.1).bind fun x41=>
               (get? p3 s2.1).bind fun x42=>
               (Zx (D.builder.mk (D.Circuit.mk s2.2.2.1 s2.2.2.2.2.1) s2.2.2.2.2.2 s2.2.2.2.1) x41 x42).bind fun x43=>
               (set? s2.2.1 s2.1 x43.1).bind fun x44=>
               some (.inl ((w64 (s2.1 + 1)),x44,x43.2.c.Inputs,x43.2.full,x43.2.c.Gates,x43.2.line))
            else
             some (.inr (s2.2.1,s2.2.2.1,s2.2.2.2.1,s2.2.2.2.2.1,s2.2.2.2.2.2))
           ) n (0,x32,p0.c.Inputs,p0.full,p0.c.Gates,p0.line)).bind fun (rl2:(List Int) × Int × Bool × (List D.Gate) × (List (D.Gate × Int)))=>
           some (rl2.1,(D.builder.mk (D.Circuit.mk rl2.2.1 rl2.2.2.2.1) rl2.2.2.2.2 rl2.2.2.1))
def ZF (n:Nat) (p0:D.builder) (p1:D.Term) (p2:Option (List (Str × List Int))):Option ((List Int) × D.builder):=
 match n with
 | 0=>none
 | n + 1=>
 if (p1.Op == 0) then
  (ZW n p1.W p1.N).bind fun x1=>
  some (x1,p0)
 else
  if (p1.Op == 22) then
   (mgeto? fitS ([]:List Int) p2 p1.Name).bind fun x2=>
   (Zc x2).bind fun x3=>
   some (x3,p0)
  else
   (mk? (len p1.Kids) (([]:List Int):List Int)).bind fun x4 =>
   (iterN (fun (s1 : Int × Int × Bool × (List D.Gate) × (List (D.Gate × Int)) × (List (List Int))) =>
    if (decide (s1.1 < (len p1.Kids))) then
     (get? p1.Kids s1.1).bind fun x5=>
     (ZF n (D.builder.mk (D.Circuit.mk s1.2.1 s1.2.2.2.1) s1.2.2.2.2.1 s1.2.2.1) x5 p2).bind fun x6=>
     (set? s1.2.2.2.2.2 s1.1 x6.1).bind fun x7=>
     some (.inl ((w64 (s1.1 + 1)),x6.2.c.Inputs,x6.2.full,x6.2.c.Gates,x6.2.line,x7))
    else
     some (.inr (s1.2.1,s1.2.2.1,s1.2.2.2.1,s1.2.2.2.2.1,s1.2.2.2.2.2))
   ) n (0,p0.c.Inputs,p0.full,p0.c.Gates,p0.line,x4)).bind fun (rl1:Int × Bool × (List D.Gate) × (List (D.Gate × Int)) × (List (List Int)))=>
   (get? rl1.2.2.2.2 0).bind fun x8=>
   if (p1.Op == 1) then
    (Ym n x8).bind fun x9=>
    some (x9,(D.builder.mk (D.Circuit.mk rl1.1 rl1.2.2.1) rl1.2.2.2.1 rl1.2.1))
   else
    if (p1.Op == 2) then
     (ZW n p1.W 0).bind fun x10=>
     (Z7 n (D.builder.mk (D.Circuit.mk rl1.1 rl1.2.2.1) rl1.2.2.2.1 rl1.2.1) 4 x10 x8).bind fun x11=>
     some (x11.1,x11.2)
    else
     if (p1.Op == 17) then
      (mk? p1.W (0:Int)).bind fun x12 =>
      (iterN (fun (s2 : Int × (List Int) × Int × Bool × (List D.Gate) × (List (D.Gate × Int))) =>
       if (decide (s2.1 < (len x12))) then
        (get? x8 0).bind fun x13=>
        (get? rl1.2.2.2.2 1).bind fun x14=>
        (get? x14 s2.1).bind fun x15=>
        (get? rl1.2.2.2.2 2).bind fun x16=>
        (get? x16 s2.1).bind fun x17=>
        (Zb (D.builder.mk (D.Circuit.mk s2.2.2.1 s2.2.2.2.2.1) s2.2.2.2.2.2 s2.2.2.2.1) x13 x15 x17).bind fun x18=>
        (set? s2.2.1 s2.1 x18.1).bind fun x19=>
        some (.inl ((w64 (s2.1 + 1)),x19,x18.2.c.Inputs,x18.2.full,x18.2.c.Gates,x18.2.line))
       else
        some (.inr (s2.2.1,s2.2.2.1,s2.2.2.2.1,s2.2.2.2.2.1,s2.2.2.2.2.2))
      ) n (0,x12,rl1.1,rl1.2.1,rl1.2.2.1,rl1.2.2.2.1)).bind fun (rl2:(List Int) × Int × Bool × (List D.Gate) × (List (D.Gate × Int)))=>
      some (rl2.1,(D.builder.mk (D.Circuit.mk rl2.2.1 rl2.2.2.2.1) rl2.2.2.2.2 rl2.2.2.1))
     else
      if (p1.Op == 18) then
       (get? rl1.2.2.2.2 1).bind fun x20=>
       (app? x20 x8).bind fun x21=>
       some (x21,(D.builder.mk (D.Circuit.mk rl1.1 rl1.2.2.1) rl1.2.2.2.1 rl1.2.1))
      else
       if (p1.Op == 19) then
        (cut? x8 p1.N (w64 (p1.N + p1.W))).bind fun x22=>
        some (x22,(D.builder.mk (D.Circuit.mk rl1.1 rl1.2.2.1) rl1.2.2.2.1 rl1.2.1))
       else
        if ((p1.Op == 20) || (p1.Op == 21)) then
         if (p1.Op == 21) then
          (get? x8 (w64 ((len x8) - 1))).bind fun x23 =>
          (iterN (fun (s3 : (List Int)) =>
           if (decide ((len s3) < p1.W)) then
            (app? s3 ([x23]:List Int)).bind fun x24=>
            some (.inl (x24))
           else
            some (.inr (s3))
          ) n (x8)).bind fun (rl3:(List Int))=>
          some (rl3,(D.builder.mk (D.Circuit.mk rl1.1 rl1.2.2.1) rl1.2.2.2.1 rl1.2.1))
         else
          (iterN (fun (s4 : (List Int)) =>
           if (decide ((len s4) < p1.W)) then
            (app? s4 ([(-1)]:List Int)).bind fun x25=>
            some (.inl (x25))
           else
            some (.inr (s4))
          ) n (x8)).bind fun (rl4:(List Int))=>
          some (rl4,(D.builder.mk (D.Circuit.mk rl1.1 rl1.2.2.1) rl1.2.2.2.1 rl1.2.1))
        else
         (get? rl1.2.2.2.2 1).bind fun x26=>
         (Z7 n (D.builder.mk (D.Circuit.mk rl1.1 rl1.2.2.1) rl1.2.2.2.1 rl1.2.1) p1.Op x8 x26).bind fun x27=>
         some (x27.1,x27.2)
def Xx (n:Nat) (p0:D.Term):Option (D.Circuit × (List Int) × Bool):=
 (YV n p0).bind fun x1=>
 (if (!x1) then some default else (YM n p0)).bind fun x2=>
 if ((!x1) || x2) then
  some ((D.Circuit.mk 0 ([]:List D.Gate)),([]:List Int),false)
 else
  (YU n p0).bind fun x3 =>
  (iterN (fun (s1 : Int × Int × (List (Str × List Int))) =>
   if (decide (s1.2.1 < (len x3))) then
    (get? x3 s1.2.1).bind fun x4=>
    (mk? x4.W (0:Int)).bind fun x5 =>
    (iterN (fun (s2 : Int × Int × (List Int)) =>
     if (decide (s2.2.1 ≥ 0)) then
      (set? s2.2.2 s2.2.1 (w64 (2 + s2.1))).bind fun x6=>
      some (.inl ((w64 (s2.1 + 1)),(w64 (s2.2.1 - 1)),x6))
     else
      some (.inr (s2.1,s2.2.2))
    ) n (s1.1,(w64 (x4.W - 1)),x5)).bind fun (rl2:Int × (List Int))=>
    (mput? fitS s1.2.2 x4.Name rl2.2).bind fun x7=>
    some (.inl (rl2.1,(w64 (s1.2.1 + 1)),x7))
   else
    some (.inr (s1.1,s1.2.2))
  ) n (0,0,([]:List (Str × List Int)))).bind fun (rl1:Int × (List (Str × List Int)))=>
  if (decide (rl1.1 > 30)) then
   some ((D.Circuit.mk 0 ([]:List D.Gate)),([]:List Int),false)
  else
   (Xd n (D.Circuit.mk rl1.1 ([]:List D.Gate))).bind fun x8=>
   (ZF n x8 p0 (some rl1.2)).bind fun x9=>
   if x9.2.full then
    some ((D.Circuit.mk 0 ([]:List D.Gate)),([]:List Int),false)
   else
    (Zc x9.1).bind fun x10=>
    some (x9.2.c,x10,true)
def ZC (p0:Int) (p1:Int):Option Bool:=
 some (((p0 != 0) && (decide (p0 ≥ (w64 (0 - p1))))) && (decide (p0 ≤ p1)))
def Xp (n:Nat) (p0:D.Circuit):Option Bool:=
 if (((decide (p0.Inputs < 0)) || (decide (p0.Inputs > 30))) || (decide ((len p0.Gates) > 360))) then
  some false
 else
  (iterN (fun (s1 : Int × (List (D.Gate × Bool))) =>
   if (decide (s1.1 < (len p0.Gates))) then
    (get? p0.Gates s1.1).bind fun x1=>
    (ZC x1.A (w64 ((w64 (1 + p0.Inputs)) + s1.1))).bind fun x2=>
    (if (!x2) then some default else (ZC x1.B (w64 ((w64 (1 + p0.Inputs)) + s1.1)))).bind fun x3=>
    (if ((!x2) || (!x3)) then some default else (mget? Z6 (false:Bool) s1.2 x1)).bind fun x4=>
    if (((!x2) || (!x3)) || x4) then
     some (.inr (.inr false))
    else
     (ZR x1.A).bind fun x5=>
     (if (decide (x5 < 2)) then some default else (ZR x1.A)).bind fun x6=>
     (if (decide (x5 < 2)) then some default else (ZR x1.B)).bind fun x7=>
     if ((decide (x5 < 2)) || (decide (x6 ≥ x7))) then
      some (.inr (.inr false))
     else
      (mput? Z6 s1.2 x1 true).bind fun x8=>
      some (.inl ((w64 (s1.1 + 1)),x8))
   else
    some (.inr (.inl (s1.2)))
  ) n (0,[])).bind fun (rl1:((List (D.Gate × Bool))) ⊕ Bool)=>
  match rl1 with
  | .inl s1r=>
   some true
  | .inr v=>some v
def Ya (n:Nat) (p0:List Int) (p1:Int):Option Bool :=
 (iterN (fun (s1 : Int) =>
  if (decide (s1 < (len p0))) then
   (get? p0 s1).bind fun x1=>
   (ZC x1 p1).bind fun x2=>
   if (!x2) then
    some (.inr (.inr false))
   else
    some (.inl ((w64 (s1 + 1))))
  else
   some (.inr (.inl ()))
 ) n (0)).bind fun (rl1:(Unit) ⊕ Bool)=>
 match rl1 with
 | .inl s1r=>
  some true
 | .inr v=>some v
def Zat (p0:Int):Option Int:=
 if (decide (p0 ≥ 4294967296)) then
  (shrK? .u64 p0 32).bind fun x1=>
  if (decide (x1 ≥ 65536)) then
   (shrK? .u64 x1 16).bind fun x2=>
   if (decide (x2 ≥ 256)) then
    (shrK? .u64 x2 8).bind fun x3=>
    (sidx? lstr0 (IntKind.u8.wrap x3)).bind fun x4=>
    some (w64 ((w64 ((w64 (32 + 16)) + 8)) + (w64 x4)))
   else
    (sidx? lstr0 (IntKind.u8.wrap x2)).bind fun x5=>
    some (w64 ((w64 (32 + 16)) + (w64 x5)))
  else
   if (decide (x1 ≥ 256)) then
    (shrK? .u64 x1 8).bind fun x6=>
    (sidx? lstr0 (IntKind.u8.wrap x6)).bind fun x7=>
    some (w64 ((w64 (32 + 8)) + (w64 x7)))
   else
    (sidx? lstr0 (IntKind.u8.wrap x1)).bind fun x8=>
    some (w64 (32 + (w64 x8)))
 else
  if (decide (p0 ≥ 65536)) then
   (shrK? .u64 p0 16).bind fun x9=>
   if (decide (x9 ≥ 256)) then
    (shrK? .u64 x9 8).bind fun x10=>
    (sidx? lstr0 (IntKind.u8.wrap x10)).bind fun x11=>
    some (w64 ((w64 ((w64 (0 + 16)) + 8)) + (w64 x11)))
   else
    (sidx? lstr0 (IntKind.u8.wrap x9)).bind fun x12=>
    some (w64 ((w64 (0 + 16)) + (w64 x12)))
  else
   if (decide (p0 ≥ 256)) then
    (shrK? .u64 p0 8).bind fun x13=>
    (sidx? lstr0 (IntKind.u8.wrap x13)).bind fun x14=>
    some (w64 ((w64 (0 + 8)) + (w64 x14)))
   else
    (sidx? lstr0 (IntKind.u8.wrap p0)).bind fun x15=>
    some (w64 (0 + (w64 x15)))
def XA (p0:Int):Option Int:=
 if false then
  none
 else
  (Zat p0).bind fun x1=>
  some x1
def YS (p0:Int):Option Bool:=
 some (p0 != p0)
def YB (p0:Int) (p1:Int):Option Int:=
 (YS p0).bind fun x1=>
 (YS p1).bind fun x2=>
 if x1 then
  if x2 then
   some 0
  else
   some (-1)
 else
  if x2 then
   some 1
  else
   if (decide (p0 < p1)) then
    some (-1)
   else
    if (decide (p0 > p1)) then
     some 1
    else
     some 0
def Yn (p0:Int) (p1:Int):Option Int:=
 (ZR p0).bind fun x1=>
 (ZR p1).bind fun x2=>
 (YB x1 x2).bind fun x3=>
 if (x3 != 0) then
  some x3
 else
  (YB p0 p1).bind fun x4=>
  some x4
def Zw (n:Nat) (p0:List Int):Option (List Int):=
 if (decide ((len p0) < 2)) then
  some p0
 else
  (iterN (fun (s1 : Int) =>
   if (decide (s1 < (len p0))) then
    (get? p0 s1).bind fun x1=>
    (get? p0 (w64 (s1 - 1))).bind fun x2=>
    if (x1 == x2) then
     none
    else
     some (.inl ((w64 (s1 + 1))))
   else
    some (.inr (.inl ()))
  ) n (1)).bind fun (rl1:(Unit) ⊕ (List Int))=>
  match rl1 with
  | .inl s1r=>
   some p0
  | .inr v=>some v
def Yg (n:Nat) (p0:List Int) (p1:Int):Option Bool:=
 (Ya n p0 p1).bind fun x1=>
 if (!x1) then
  some false
 else
  (iterN (fun (s1 : Int) =>
   if (decide (s1 < (len p0))) then
    (get? p0 (w64 (s1 - 1))).bind fun x2=>
    (ZR x2).bind fun x3=>
    (get? p0 s1).bind fun x4=>
    (ZR x4).bind fun x5=>
    if (decide (x3 ≥ x5)) then
     some (.inr (.inr false))
    else
     some (.inl ((w64 (s1 + 1))))
   else
    some (.inr (.inl ()))
  ) n (1)).bind fun (rl1:(Unit) ⊕ Bool)=>
  match rl1 with
  | .inl s1r=>
   some true
  | .inr v=>some v
def Zg (n:Nat) (p0:List Int) (p1:Int) (p2:Int):Option (List Int) :=
 (iterN (fun (s1 : Int × (List Int)) =>
  if (decide (s1.1 < p2)) then
   (iterN (fun (s2 : Int × (List Int)) =>
    (if (decide (s2.1 > p1)) then (get? s2.2 s2.1) else some default).bind fun x1=>
    (if (decide (s2.1 > p1)) then (get? s2.2 (w64 (s2.1 - 1))) else some default).bind fun x2=>
    (if (decide (s2.1 > p1)) then (Yn x1 x2) else some default).bind fun x3=>
    if ((decide (s2.1 > p1)) && (decide (x3 < 0))) then
     (get? s2.2 (w64 (s2.1 - 1))).bind fun x4=>
     (get? s2.2 s2.1).bind fun x5=>
     (set? s2.2 s2.1 x4).bind fun x6=>
     (set? x6 (w64 (s2.1 - 1)) x5).bind fun x7=>
     some (.inl ((w64 (s2.1 - 1)),x7))
    else
     some (.inr (s2.2))
   ) n (s1.1,s1.2)).bind fun (rl2:(List Int))=>
   some (.inl ((w64 (s1.1 + 1)),rl2))
  else
   some (.inr (s1.2))
 ) n ((w64 (p1 + 1)),p0)).bind fun (rl1:(List Int))=>
 some rl1
def Zp (n:Nat) (p0:List Int) (p1:Int) (p2:Int) (p3:Int):Option (List Int) :=
 (iterN (fun (s1 : Int × Int × Int × Bool × Bool) =>
  if (decide ((w64 (s1.2.1 - s1.1)) ≤ 12)) then
   (Zg n p0 s1.1 s1.2.1).bind fun x1=>
   some (.inr (.inr x1))
  else
   if (s1.2.2.1 == 0) then
    none
   else
    if (!s1.2.2.2.1) then
     none
    else
     none
 ) n (p1,p2,p3,true,true)).bind fun (rl1:(Unit) ⊕ (List Int))=>
 match rl1 with
 | .inl s1r=>
  some p0
 | .inr v=>some v
def Zf (n:Nat) (p0:List Int):Option (List Int):=
 (XA (IntKind.u64.wrap (len p0))).bind fun x1=>
 (Zp n p0 0 (len p0) x1).bind fun x2=>
 some x2
def ZJ (n:Nat) (p0:List Int):Option ((List Int) × Bool):=
 (Ya n p0 400).bind fun x1=>
 if (!x1) then
  some (([]:List Int),false)
 else
  (Zc p0).bind fun x2=>
  (Zf n x2).bind fun x3=>
  (Zw n x3).bind fun x4=>
  (Yg n x4 400).bind fun x5=>
  if (!x5) then
   some (([]:List Int),false)
  else
   some (x4,true)
def Xo (n:Nat) (p0:D.Circuit) (p1:Int):Option (D.Formula × Bool):=
 (Xp n p0).bind fun x1=>
 (if (!x1) then some default else (ZO p0)).bind fun x2=>
 (if (!x1) then some default else (ZC p1 x2)).bind fun x3=>
 if ((!x1) || (!x3)) then
  some ((D.Formula.mk 0 ([]:List (List Int))),false)
 else
  (ZO p0).bind fun x4 =>
  (iterN (fun (s1 : Int × (List (List Int))) =>
   if (decide (s1.1 < (len p0.Gates))) then
    (get? p0.Gates s1.1).bind fun x5 =>
    (iterN (fun (s2 : Int × (List (List Int))) =>
     if (decide (s2.1 < (len ([([(w64 (0 - (w64 ((w64 (2 + p0.Inputs)) + s1.1)))),x5.A]:List Int),([(w64 (0 - (w64 ((w64 (2 + p0.Inputs)) + s1.1)))),x5.B]:List Int),([(w64 ((w64 (2 + p0.Inputs)) + s1.1)),(w64 (0 - x5.A)),(w64 (0 - x5.B))]:List Int)]:List (List Int))))) then
      (get? ([([(w64 (0 - (w64 ((w64 (2 + p0.Inputs)) + s1.1)))),x5.A]:List Int),([(w64 (0 - (w64 ((w64 (2 + p0.Inputs)) + s1.1)))),x5.B]:List Int),([(w64 ((w64 (2 + p0.Inputs)) + s1.1)),(w64 (0 - x5.A)),(w64 (0 - x5.B))]:List Int)]:List (List Int)) s2.1).bind fun x6=>
      (ZJ n x6).bind fun x7=>
      (app? s2.2 ([x7.1]:List (List Int))).bind fun x8=>
      some (.inl ((w64 (s2.1 + 1)),x8))
     else
      some (.inr (s2.2))
    ) n (0,s1.2)).bind fun (rl2:(List (List Int)))=>
    some (.inl ((w64 (s1.1 + 1)),rl2))
   else
    some (.inr (s1.2))
  ) n (0,([([1]:List Int)]:List (List Int)))).bind fun (rl1:(List (List Int)))=>
  (app? rl1 ([([p1]:List Int)]:List (List Int))).bind fun x9=>
  some ((D.Formula.mk x4 x9),true)
def YF (n:Nat) (p0:D.Formula):Option Bool:=
 if (((decide (p0.Vars < 0)) || (decide (p0.Vars > 400))) || (decide ((len p0.Clauses) > 1600))) then
  some false
 else
  (iterN (fun (s1 : Int) =>
   if (decide (s1 < (len p0.Clauses))) then
    (get? p0.Clauses s1).bind fun x1=>
    (Yg n x1 p0.Vars).bind fun x2=>
    if (!x2) then
     some (.inr (.inr false))
    else
     some (.inl ((w64 (s1 + 1))))
   else
    some (.inr (.inl ()))
  ) n (0)).bind fun (rl1:(Unit) ⊕ Bool)=>
  match rl1 with
  | .inl s1r=>
   some true
  | .inr v=>some v
def Xq (n:Nat) (p0:D.Formula):Option D.solver:=
 (mk? (w64 ((w64 (2 * p0.Vars)) + 1)) (([]:List Int):List Int)).bind fun x1 =>
 (iterN (fun (s1 : Int × (List (List Int))) =>
  if (decide (s1.1 < (len p0.Clauses))) then
   (get? p0.Clauses s1.1).bind fun x2 =>
   (iterN (fun (s2 : Int × (List (List Int))) =>
    if (decide (s2.1 < (len x2))) then
     (get? x2 s2.1).bind fun x3=>
     (get? s2.2 (w64 (x3 + p0.Vars))).bind fun x4=>
     (app? x4 ([s1.1]:List Int)).bind fun x5=>
     (set? s2.2 (w64 (x3 + p0.Vars)) x5).bind fun x6=>
     some (.inl ((w64 (s2.1 + 1)),x6))
    else
     some (.inr (s2.2))
   ) n (0,s1.2)).bind fun (rl2:(List (List Int)))=>
   some (.inl ((w64 (s1.1 + 1)),rl2))
  else
   some (.inr (s1.2))
 ) n (0,x1)).bind fun (rl1:(List (List Int)))=>
 some (D.solver.mk p0 rl1)
def Z4 (p0:D.assignment) (p1:Int):Option (Bool × D.assignment):=
 (get? p0.val (cond (decide (p1 < 0)) (w64 (0 - p1)) p1)).bind fun x1=>
 if (x1 != 0) then
  (get? p0.val (cond (decide (p1 < 0)) (w64 (0 - p1)) p1)).bind fun x2=>
  some ((x2 == (cond (decide (p1 < 0)) (-1) 1)),p0)
 else
  (set? p0.val (cond (decide (p1 < 0)) (w64 (0 - p1)) p1) (cond (decide (p1 < 0)) (-1) 1)).bind fun x3=>
  (app? p0.queue ([p1]:List Int)).bind fun x4=>
  some (true,(D.assignment.mk x3 x4))
def Zm (n:Nat) (p0:D.assignment) (p1:List Int):Option (Bool × D.assignment) :=
 (iterN (fun (s1 : Int × Int × Int) =>
  if (decide (s1.2.2 < (len p1))) then
   (get? p1 s1.2.2).bind fun x1=>
   (ZR x1).bind fun x2=>
   (get? p0.val x2).bind fun x3=>
   if (x3 == 0) then
    some (.inl ((w64 (s1.1 + 1)),x1,(w64 (s1.2.2 + 1))))
   else
    if ((decide (x3 > 0)) == (decide (x1 > 0))) then
     some (.inr (.inr (true,p0)))
    else
     some (.inl (s1.1,s1.2.1,(w64 (s1.2.2 + 1))))
  else
   some (.inr (.inl (s1.1,s1.2.1)))
 ) n (0,0,0)).bind fun (rl1:(Int × Int) ⊕ (Bool × D.assignment))=>
 match rl1 with
 | .inl s1r=>
  if (s1r.1 == 0) then
   some (false,p0)
  else
   if (s1r.1 == 1) then
    (Z4 p0 s1r.2).bind fun x4=>
    some (x4.1,x4.2)
   else
    some (true,p0)
 | .inr v=>some v
def ZK (n:Nat) (p0:D.solver) (p1:D.assignment):Option (Bool × D.assignment) :=
 (iterN (fun (s1 : (List Int) × (List Int)) =>
  if (decide ((len s1.2) > 0)) then
   (get? s1.2 (w64 ((len s1.2) - 1))).bind fun x1=>
   (cut? s1.2 0 (w64 ((len s1.2) - 1))).bind fun x2=>
   (get? p0.occ (w64 (p0.f.Vars - x1))).bind fun x3 =>
   (iterN (fun (s2 : Int × (List Int) × (List Int)) =>
    if (decide (s2.1 < (len x3))) then
     (get? x3 s2.1).bind fun x4=>
     (get? p0.f.Clauses x4).bind fun x5=>
     (Zm n (D.assignment.mk s2.2.1 s2.2.2) x5).bind fun x6=>
     if (!x6.1) then
      some (.inr (.inr (false,x6.2)))
     else
      some (.inl ((w64 (s2.1 + 1)),x6.2.val,x6.2.queue))
    else
     some (.inr (.inl (s2.2.1,s2.2.2)))
   ) n (0,s1.1,x2)).bind fun (rl2:((List Int) × (List Int)) ⊕ (Bool × D.assignment))=>
   match rl2 with
   | .inl s2r=>
    some (.inl (s2r.1,s2r.2))
   | .inr v=>some (.inr (.inr v))
  else
   some (.inr (.inl (s1.1,s1.2)))
 ) n (p1.val,p1.queue)).bind fun (rl1:((List Int) × (List Int)) ⊕ (Bool × D.assignment))=>
 match rl1 with
 | .inl s1r=>
  some (true,(D.assignment.mk s1r.1 s1r.2))
 | .inr v=>some v
def Y0 (n:Nat) (p0:D.solver) (p1:List Int):Option (D.assignment × Bool):=
 (mk? (w64 (p0.f.Vars + 1)) (0:Int)).bind fun x1 =>
 (iterN (fun (s1 : Int × (List Int) × (List Int)) =>
  if (decide (s1.1 < (len p1))) then
   (get? p1 s1.1).bind fun x2=>
   (Z4 (D.assignment.mk s1.2.1 s1.2.2) x2).bind fun x3=>
   if (!x3.1) then
    some (.inr (.inr (default,false)))
   else
    some (.inl ((w64 (s1.1 + 1)),x3.2.val,x3.2.queue))
  else
   some (.inr (.inl (s1.2.1,s1.2.2)))
 ) n (0,x1,([]:List Int))).bind fun (rl1:((List Int) × (List Int)) ⊕ (D.assignment × Bool))=>
 match rl1 with
 | .inl s1r =>
  (iterN (fun (s2 : Int × (List Int) × (List Int)) =>
   if (decide (s2.1 < (len p0.f.Clauses))) then
    (get? p0.f.Clauses s2.1).bind fun x4=>
    (Zm n (D.assignment.mk s2.2.1 s2.2.2) x4).bind fun x5=>
    if (!x5.1) then
     some (.inr (.inr (default,false)))
    else
     some (.inl ((w64 (s2.1 + 1)),x5.2.val,x5.2.queue))
   else
    some (.inr (.inl (s2.2.1,s2.2.2)))
  ) n (0,s1r.1,s1r.2)).bind fun (rl2:((List Int) × (List Int)) ⊕ (D.assignment × Bool))=>
  match rl2 with
  | .inl s2r=>
   (ZK n p0 (D.assignment.mk s2r.1 s2r.2)).bind fun x6=>
   if (!x6.1) then
    some (default,false)
   else
    some (x6.2,true)
  | .inr v=>some v
 | .inr v=>some v
def ZI (n:Nat) (p0:D.assignment):Option Int :=
 (iterN (fun (s1 : Int) =>
  if (decide (s1 < (len p0.val))) then
   (get? p0.val s1).bind fun x1=>
   if (x1 == 0) then
    some (.inr (.inr s1))
   else
    some (.inl ((w64 (s1 + 1))))
  else
   some (.inr (.inl ()))
 ) n (1)).bind fun (rl1:(Unit) ⊕ Int)=>
 match rl1 with
 | .inl s1r=>
  some 0
 | .inr v=>some v
def Zr (n:Nat) (p0:D.solver) (p1:D.assignment) (p2:Int):Option (D.assignment × Bool):=
 (Zc p1.val).bind fun x1=>
 (Z4 (D.assignment.mk x1 ([]:List Int)) p2).bind fun x2=>
 if (!x2.1) then
  if true then
   some (default,false)
  else
   some (x2.2,true)
 else
  (ZK n p0 x2.2).bind fun x3=>
  if (!x3.1) then
   some (default,false)
  else
   some (x3.2,true)
def ZH (n:Nat) (p0:D.searcher) (p1:D.assignment):Option (Int × D.searcher):=
 match n with
 | 0=>none
 | n + 1=>
 (ZI n p1).bind fun x1=>
 if (x1 == 0) then
  (mk? p0.s.f.Vars (false:Bool)).bind fun x2 =>
  (iterN (fun (s1 : Int × (List Bool)) =>
   if (decide (s1.1 < (len x2))) then
    (get? p1.val (w64 (s1.1 + 1))).bind fun x3=>
    (set? s1.2 s1.1 (decide (x3 > 0))).bind fun x4=>
    some (.inl ((w64 (s1.1 + 1)),x4))
   else
    some (.inr (s1.2))
  ) n (0,x2)).bind fun (rl1:(List Bool))=>
  some (1,(D.searcher.mk p0.s p0.limit p0.splits rl1))
 else
  if (p0.splits == p0.limit) then
   some (3,p0)
  else
   (iterN (fun (s2 : Int × Int × Int × (List Bool)) =>
    if (decide (s2.1 < 2)) then
     (get? ([(w64 (0 - x1)),x1]:List Int) s2.1).bind fun x5=>
     (Zr n p0.s p1 x5).bind fun x6=>
     if (!x6.2) then
      some (.inl ((w64 (s2.1 + 1)),s2.2.1,s2.2.2.1,s2.2.2.2))
     else
      (ZH n (D.searcher.mk p0.s s2.2.1 s2.2.2.1 s2.2.2.2) x6.1).bind fun x7=>
      if (x7.1 != 2) then
       some (.inr (.inr (x7.1,(D.searcher.mk p0.s x7.2.limit x7.2.splits x7.2.model))))
      else
       some (.inl ((w64 (s2.1 + 1)),x7.2.limit,x7.2.splits,x7.2.model))
    else
     some (.inr (.inl (s2.2.1,s2.2.2.1,s2.2.2.2)))
   ) n (0,p0.limit,(w64 (p0.splits + 1)),p0.model)).bind fun (rl2:(Int × Int × (List Bool)) ⊕ (Int × D.searcher))=>
   match rl2 with
   | .inl s2r=>
    some (2,(D.searcher.mk p0.s s2r.1 s2r.2.1 s2r.2.2))
   | .inr v=>some v
def YY (n:Nat) (p0:D.solver) (p1:List Int) (p2:Int):Option (Int × (List Bool) × Int):=
 (Y0 n p0 p1).bind fun x1=>
 if (!x1.2) then
  some (2,([]:List Bool),0)
 else
  (ZH n (D.searcher.mk p0 p2 0 ([]:List Bool)) x1.1).bind fun x2=>
  some (x2.1,x2.2.model,x2.2.splits)
def Zaq (n:Nat) (p0:D.Formula) (p1:List Int) (p2:Int):Option (Int × (List Bool) × Int):=
 (YF n p0).bind fun x1=>
 (if (!x1) then some default else (Ya n p1 p0.Vars)).bind fun x2=>
 (if ((!x1) || (!x2)) then some default else (Y9 p2)).bind fun x3=>
 if (((!x1) || (!x2)) || (!x3)) then
  some (0,([]:List Bool),0)
 else
  (Xq n p0).bind fun x4=>
  (YY n x4 p1 p2).bind fun x5=>
  some (x5.1,x5.2.1,x5.2.2)
def YP (p0:Bool):Option Int:=
 if p0 then
  some 1
 else
  some 0
def XB (n:Nat) (p0:D.Term) (p1:List Bool):Option (List D.Value):=
 (YU n p0).bind fun x1 =>
 (iterN (fun (s1 : Int × Int × (List D.Value)) =>
  if (decide (s1.2.1 < (len x1))) then
   (iterN (fun (s2 : Int × Int × (List D.Value)) =>
    (get? s2.2.2 s1.2.1).bind fun x2=>
    if (decide (s2.2.1 < x2.W)) then
     (get? s2.2.2 s1.2.1).bind fun x3=>
     (get? p1 (w64 (s2.1 - 1))).bind fun x4=>
     (YP x4).bind fun x5=>
     (get? s2.2.2 s1.2.1).bind fun x6=>
     (set? s2.2.2 s1.2.1 ({ x6 with N:=(w64 ((w64 (2 * x3.N)) + x5)) }:D.Value)).bind fun x7=>
     some (.inl ((w64 (s2.1 + 1)),(w64 (s2.2.1 + 1)),x7))
    else
     some (.inr (s2.1,s2.2.2))
   ) n (s1.1,0,s1.2.2)).bind fun (rl2:Int × (List D.Value))=>
   some (.inl (rl2.1,(w64 (s1.2.1 + 1)),rl2.2))
  else
   some (.inr (s1.2.2))
 ) n (2,0,x1)).bind fun (rl1:(List D.Value))=>
 some rl1
def YQ (n:Nat) (p0:D.Term) (p1:Int):Option (Int × (List D.Value)):=
 (YV n p0).bind fun x1=>
 (if ((!x1) || (p0.W != 1)) then some default else (Y9 p1)).bind fun x2=>
 if (((!x1) || (p0.W != 1)) || (!x2)) then
  some (0,([]:List D.Value))
 else
  (Xx n p0).bind fun x3=>
  if (!x3.2.2) then
   some (3,([]:List D.Value))
  else
   (get? x3.2.1 0).bind fun x4=>
   (Xo n x3.1 x4).bind fun x5=>
   if (!x5.2) then
    some (3,([]:List D.Value))
   else
    (Zaq n x5.1 ([]:List Int) p1).bind fun x6=>
    if (x6.1 != 1) then
     some (x6.1,([]:List D.Value))
    else
     (XB n p0 x6.2.1).bind fun x7=>
     some (1,x7)
def XT (n:Nat) (p0:D.Term) (p1:Int):Option (Int × (List D.Value)):=
 (YV n p0).bind fun x1=>
 (if ((!x1) || (p0.W != 1)) then some default else (Y9 p1)).bind fun x2=>
 if (((!x1) || (p0.W != 1)) || (!x2)) then
  some (0,([]:List D.Value))
 else
  (YQ n (D.Term.mk 1 1 0 ⟨[]⟩ ([p0]:List D.Term)) p1).bind fun x3=>
  if (x3.1 == 2) then
   some (1,([]:List D.Value))
  else
   if (x3.1 == 1) then
    some (2,x3.2)
   else
    some (x3.1,([]:List D.Value))
def YX (n:Nat) (p0:D.Term) (p1:Int) (p2:List D.Value) (p3:Int):Option Bool:=
 if (p1 == 3) then
  some true
 else
  if ((decide (p3 < 0)) || (p1 != 1)) then
   some (((decide (p3 < 0)) && (p1 == 2)) && ((len p2) == 0))
  else
   (ZA n p0).bind fun x1 =>
   (iterN (fun (s1 : Int × Int) =>
    if (decide (s1.2 < (len x1))) then
     (get? x1 s1.2).bind fun x2=>
     (if (decide (s1.2 ≥ (len p2))) then some default else (get? p2 s1.2)).bind fun x3=>
     (if ((decide (s1.2 ≥ (len p2))) || (!(Str.eqb x3.Name x2.Name))) then some default else (get? p2 s1.2)).bind fun x4=>
     (if (((decide (s1.2 ≥ (len p2))) || (!(Str.eqb x3.Name x2.Name))) || (x4.W != x2.W)) then some default else (get? p2 s1.2)).bind fun x5=>
     (if (((decide (s1.2 ≥ (len p2))) || (!(Str.eqb x3.Name x2.Name))) || (x4.W != x2.W)) then some default else (get? p2 s1.2)).bind fun x6=>
     (if (((decide (s1.2 ≥ (len p2))) || (!(Str.eqb x3.Name x2.Name))) || (x4.W != x2.W)) then some default else (Z9 x5.W x6.N)).bind fun x7=>
     if ((((decide (s1.2 ≥ (len p2))) || (!(Str.eqb x3.Name x2.Name))) || (x4.W != x2.W)) || (!x7)) then
      some (.inr (.inr false))
     else
      (shl? s1.1 x2.W).bind fun x8=>
      (get? p2 s1.2).bind fun x9=>
      some (.inl ((w64 (x8 + x9.N)),(w64 (s1.2 + 1))))
    else
     some (.inr (.inl (s1.1)))
   ) n (0,0)).bind fun (rl1:(Int) ⊕ Bool)=>
   match rl1 with
   | .inl s1r=>
    if (s1r == p3) then
     (ZA n p0).bind fun x10=>
     some ((len p2) == (len x10))
    else
     some false
   | .inr v=>some v
def Zaj (n:Nat) (p0:List Byt):Option Bool:=
 if (decide ((len p0) > 1048576)) then
  some true
 else
  (XE n p0 0 1 3).bind fun x1=>
  (YZ n x1).bind fun x2=>
  if ((len x2) == 0) then
   some true
  else
   (iterN (fun (s1 : Int × Int × Int) =>
    if (decide (s1.2.2 < (len x2))) then
     (get? x2 s1.2.2).bind fun x3=>
     some (.inl ((cond ((x3 == 1) && (decide (s1.1 < 0))) s1.2.2 s1.1),(cond ((x3 == 0) && (decide (s1.2.1 < 0))) s1.2.2 s1.2.1),(w64 (s1.2.2 + 1))))
    else
     some (.inr (s1.1,s1.2.1))
   ) n ((-1),(-1),0)).bind fun (rl1:Int × Int)=>
   (YQ n x1 3000).bind fun x4=>
   (XT n x1 3000).bind fun x5=>
   (YX n x1 x4.1 x4.2 rl1.1).bind fun x6=>
   (if (x5.1 == 1) then some default else (if ((x5.1 == 1) == (decide (rl1.2 < 0))) then (if (x5.1 == 3) then some default else (if x6 then (YX n x1 1 x5.2 rl1.2) else some default)) else some default)).bind fun x7=>
   some (x6 && ((x5.1 == 3) || (((x5.1 == 1) == (decide (rl1.2 < 0))) && ((x5.1 == 1) || x7))))
end Go.GL
