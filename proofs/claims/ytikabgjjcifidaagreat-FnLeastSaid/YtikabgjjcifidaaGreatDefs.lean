/- Go functions as Lean functions, printed by a program. -/
import Derived.Test.YtikabgjjcifidaaGreatLib1
set_option linter.unusedVariables false
namespace Go.GL
structure D.solver where
  f:D.Formula
  occ:List (List Int)
deriving Inhabited
structure D.assignment where
  val:List Int
  queue:List Int
deriving Inhabited
structure D.searcher where
  s:D.solver
  limit:Int
  splits:Int
  model:List Bool
deriving Inhabited
structure D.Prf where
deriving Inhabited
structure D.l03Work where
  f:D.Formula
  limit:Int
  made:Int
  opn:Bool
deriving Inhabited
abbrev lstr0:Str:=⟨[0,1,2,2,3,3,3,3,4,4,4,4,4,4,4,4,5,5,5,5,5,5,5,5,5,5,5,5,5,5,5,5,6,6,6,6,6,6,6,6,6,6,6,6,6,6,6,6,6,6,6,6,6,6,6,6,6,6,6,6,6,6,6,6,7,7,7,7,7,7,7,7,7,7,7,7,7,7,7,7,7,7,7,7,7,7,7,7,7,7,7,7,7,7,7,7,7,7,7,7,7,7,7,7,7,7,7,7,7,7,7,7,7,7,7,7,7,7,7,7,7,7,7,7,7,7,7,7,8,8,8,8,8,8,8,8,8,8,8,8,8,8,8,8,8,8,8,8,8,8,8,8,8,8,8,8,8,8,8,8,8,8,8,8,8,8,8,8,8,8,8,8,8,8,8,8,8,8,8,8,8,8,8,8,8,8,8,8,8,8,8,8,8,8,8,8,8,8,8,8,8,8,8,8,8,8,8,8,8,8,8,8,8,8,8,8,8,8,8,8,8,8,8,8,8,8,8,8,8,8,8,8,8,8,8,8,8,8,8,8,8,8,8,8,8,8,8,8,8,8,8,8,8,8,8,8]⟩
def VB(n:Nat)(p0:List Byt):Option D.l01Cur:=
 (iterN (λ(s1:Int×Int)=>if((decide (s1.2<(len p0)))&&(decide (s1.2<4000)))then(get? p0 s1.2).bind λx1=>some (.inl ((band (w64 ((w64 ((w64 (s1.1*131))+(w64 x1.n)))+7)) 1073741823),(w64 (s1.2+1))))else some (.inr (s1.1))) n ((w64 (55127+(len p0))),0)).bind λ(rl1:Int)=>
 some (D.l01Cur.mk p0 0 rl1)
def Vu(n:Nat)(p0:List Byt)(p1:Int):Option D.l01Cur:=
 (VB n p0).bind λx1=>
 some (D.l01Cur.mk x1.b (imin p1 (len p0)) (band (w64 ((w64 ((w64 (x1.h*31))+(w64 (p1*7919))))+1)) 1073741823))
def XJ(p0:D.l01Cur):Option (Int×D.l01Cur):=
 (shr? (w64 ((w64 (p0.h*6364136223846793005))+1442695040888963407)) 33).bind λx1=>
 (shr? (w64 ((w64 (p0.h*6364136223846793005))+1442695040888963407)) 45).bind λx2=>
 if(decide (p0.i<(len p0.b)))then
  (get? p0.b p0.i).bind λx3=>
  some ((band (w64 ((band (bxor x1 x2) 255)+(w64 x3.n))) 255),(D.l01Cur.mk p0.b (w64 (p0.i+1)) (w64 ((w64 (p0.h*6364136223846793005))+1442695040888963407))))
 else
  some ((band (bxor x1 x2) 255),(D.l01Cur.mk p0.b p0.i (w64 ((w64 (p0.h*6364136223846793005))+1442695040888963407))))
def Zw(p0:D.l01Cur)(p1:Int):Option (Int×D.l01Cur):=
 if(decide (p1<=0))then
  some (0,p0)
 else
  (XJ p0).bind λx1=>
  (rem? x1.1 p1).bind λx2=>
  some (x2,(D.l01Cur.mk p0.b x1.2.i x1.2.h))
def Y3(p0:D.l01Cur)(p1:Int):Option (Bool×D.l01Cur):=
 (Zw p0 p1).bind λx1=>
 some ((x1.1==0),(D.l01Cur.mk p0.b x1.2.i x1.2.h))
def XN(p0:D.l01Cur)(p1:List Int):Option (Int×D.l01Cur):=
 (Zw p0 (len p1)).bind λx1=>
 (get? p1 x1.1).bind λx2=>
 some (x2,(D.l01Cur.mk p0.b x1.2.i x1.2.h))
def X5(p0:Int)(p1:Int):Option D.Term:=
 some (D.Term.mk 0 p0 p1 ⟨[]⟩ ([]:List D.Term))
def UD(p0:D.l01Cur)(p1:List Str):Option (Str×D.l01Cur):=
 (Zw p0 (len p1)).bind λx1=>
 (get? p1 x1.1).bind λx2=>
 some (x2,(D.l01Cur.mk p0.b x1.2.i x1.2.h))
def Xo(n:Nat)(p0:Int):Option Str:=
 match n with
 |0=>none
 |n+1=>
 if(decide (p0<0))then
  (quo? p0 10).bind λx1=>
  if(x1==0)then
   (cat? ⟨[45]⟩ (strOf ([(Byt.mk (IntKind.u8.wrap (w64 (48-p0))))]:List Byt))).bind λx2=>
   some x2
  else
   (quo? p0 10).bind λx3=>
   (Xo n x3).bind λx4=>
   (rem? p0 10).bind λx5=>
   (cat? x4 (strOf ([(Byt.mk (IntKind.u8.wrap (w64 (48-x5))))]:List Byt))).bind λx6=>
   some x6
 else
  (iterN (λ(s1:Int×Str)=>if(decide (s1.1>9))then(rem? s1.1 10).bind λx7=>(cat? (strOf ([(Byt.mk (IntKind.u8.wrap (w64 (48+x7))))]:List Byt)) s1.2).bind λx8=>(quo? s1.1 10).bind λx9=>some (.inl (x9,x8))else some (.inr (s1.1,s1.2))) n (p0,⟨[]⟩)).bind λ(rl1:Int×Str)=>
  (cat? (strOf ([(Byt.mk (IntKind.u8.wrap (w64 (48+rl1.1))))]:List Byt)) rl1.2).bind λx10=>
  some x10
def Xx(n:Nat)(p0:D.l01Cur)(p1:Int):Option (D.Term×D.l01Cur):=
 (UD p0 ([⟨[97]⟩,⟨[98]⟩,⟨[120]⟩]:List Str)).bind λx1=>
 (Xo n p1).bind λx2=>
 (cat? x1.1 x2).bind λx3=>
 some ((D.Term.mk 22 p1 0 x3 ([]:List D.Term)),(D.l01Cur.mk p0.b x1.2.i x1.2.h))
def Zf(p0:Int)(p1:Int)(p2:Int):Option Bool:=
 some ((decide (p0>=p1))&&(decide (p0<=p2)))
def Zp (n:Nat)(p0:D.l01Cur)(p1:Int)(p2:Int):Option (D.Term×D.l01Cur):=
 match n with
 |0=>none
 |n+1=>
 if (decide (p2<1))then
  if true then
   (Y3 p0 3).bind λx1=>
   if x1.1 then
    (shl? 1 p1).bind λx2=>
    (Zw (D.l01Cur.mk p0.b x1.2.i x1.2.h) x2).bind λx3=>
    (XN (D.l01Cur.mk p0.b x3.2.i x3.2.h) ([0,1,(w64 ((x2)-1)),x3.1]:List Int)).bind λx4=>
    (X5 p1 (band x4.1 (w64 ((x2)-1)))).bind λx5=>
    some ((D.Term.mk x5.Op x5.W x5.N x5.Name ([]:List D.Term)),(D.l01Cur.mk p0.b x4.2.i x4.2.h))
   else
    (Xx n (D.l01Cur.mk p0.b x1.2.i x1.2.h) p1).bind λx6=>
    some (x6.1,(D.l01Cur.mk p0.b x6.2.i x6.2.h))
  else
   (Zw p0 21).bind λx7=>
   (Zf (w64 (1+x7.1)) 14 16).bind λx8=>
   if x8 then
    (Zw (D.l01Cur.mk p0.b x7.2.i x7.2.h) 4).bind λx9=>
    (Zp n (D.l01Cur.mk p0.b x9.2.i x9.2.h) (w64 (1+x9.1)) (w64 (p2-1))).bind λx10=>
    (Zp n (D.l01Cur.mk p0.b x10.2.i x10.2.h) (w64 (1+x9.1)) (w64 (p2-1))).bind λx11=>
    (Y3 (D.l01Cur.mk p0.b x11.2.i x11.2.h) 6).bind λx12=>
    if x12.1 then
     (get? ([x10.1,x11.1]:List D.Term) 0).bind λx13=>
     (set? ([x10.1,x11.1]:List D.Term) 1 x13).bind λx14=>
     if(decide (p1>1))then
      some ((D.Term.mk 20 p1 0 ⟨[]⟩ ([(D.Term.mk (w64 (1+x7.1)) 1 0 ⟨[]⟩ x14)]:List D.Term)),(D.l01Cur.mk p0.b x12.2.i x12.2.h))
     else
      some ((D.Term.mk (w64 (1+x7.1)) 1 0 ⟨[]⟩ x14),(D.l01Cur.mk p0.b x12.2.i x12.2.h))
    else
     if(decide (p1>1))then
      some ((D.Term.mk 20 p1 0 ⟨[]⟩ ([(D.Term.mk (w64 (1+x7.1)) 1 0 ⟨[]⟩ ([x10.1,x11.1]:List D.Term))]:List D.Term)),(D.l01Cur.mk p0.b x12.2.i x12.2.h))
     else
      some ((D.Term.mk (w64 (1+x7.1)) 1 0 ⟨[]⟩ ([x10.1,x11.1]:List D.Term)),(D.l01Cur.mk p0.b x12.2.i x12.2.h))
   else
    (Zf (w64 (1+x7.1)) 3 13).bind λx15=>
    if x15 then
     (Zp n (D.l01Cur.mk p0.b x7.2.i x7.2.h) p1 (w64 (p2-1))).bind λx16=>
     (Zp n (D.l01Cur.mk p0.b x16.2.i x16.2.h) p1 (w64 (p2-1))).bind λx17=>
     (Y3 (D.l01Cur.mk p0.b x17.2.i x17.2.h) 8).bind λx18=>
     if x18.1 then
      (get? ([x16.1,x17.1]:List D.Term) 0).bind λx19=>
      (set? ([x16.1,x17.1]:List D.Term) 1 x19).bind λx20=>
      some ((D.Term.mk (w64 (1+x7.1)) p1 0 ⟨[]⟩ x20),(D.l01Cur.mk p0.b x18.2.i x18.2.h))
     else
      some ((D.Term.mk (w64 (1+x7.1)) p1 0 ⟨[]⟩ ([x16.1,x17.1]:List D.Term)),(D.l01Cur.mk p0.b x18.2.i x18.2.h))
    else
     if(decide ((w64 (1+x7.1))<=2))then
      (Zp n (D.l01Cur.mk p0.b x7.2.i x7.2.h) p1 (w64 (p2-1))).bind λx21=>
      some ((D.Term.mk (w64 (1+x7.1)) p1 0 ⟨[]⟩ ([x21.1]:List D.Term)),(D.l01Cur.mk p0.b x21.2.i x21.2.h))
     else
      if((w64 (1+x7.1))==17)then
       (Zp n (D.l01Cur.mk p0.b x7.2.i x7.2.h) 1 (w64 (p2-1))).bind λx22=>
       (Zp n (D.l01Cur.mk p0.b x22.2.i x22.2.h) p1 (w64 (p2-1))).bind λx23=>
       (Zp n (D.l01Cur.mk p0.b x23.2.i x23.2.h) p1 (w64 (p2-1))).bind λx24=>
       some ((D.Term.mk (w64 (1+x7.1)) p1 0 ⟨[]⟩ ([x22.1,x23.1,x24.1]:List D.Term)),(D.l01Cur.mk p0.b x24.2.i x24.2.h))
      else
       if(((w64 (1+x7.1))==18)&&(decide (p1>1)))then
        (Zw (D.l01Cur.mk p0.b x7.2.i x7.2.h) (w64 (p1-1))).bind λx25=>
        (Zp n (D.l01Cur.mk p0.b x25.2.i x25.2.h) (w64 (p1-(w64 (1+x25.1)))) (w64 (p2-1))).bind λx26=>
        (Zp n (D.l01Cur.mk p0.b x26.2.i x26.2.h) (w64 (1+x25.1)) (w64 (p2-1))).bind λx27=>
        some ((D.Term.mk (w64 (1+x7.1)) p1 0 ⟨[]⟩ ([x26.1,x27.1]:List D.Term)),(D.l01Cur.mk p0.b x27.2.i x27.2.h))
       else
        if((w64 (1+x7.1))==19)then
         (Zw (D.l01Cur.mk p0.b x7.2.i x7.2.h) 3).bind λx28=>
         (Zw (D.l01Cur.mk p0.b x28.2.i x28.2.h) (w64 ((w64 ((w64 (p1+x28.1))-p1))+1))).bind λx29=>
         (Zp n (D.l01Cur.mk p0.b x29.2.i x29.2.h) (w64 (p1+x28.1)) (w64 (p2-1))).bind λx30=>
         some ((D.Term.mk (w64 (1+x7.1)) p1 x29.1 ⟨[]⟩ ([x30.1]:List D.Term)),(D.l01Cur.mk p0.b x30.2.i x30.2.h))
        else
         (Zf (w64 (1+x7.1)) 20 21).bind λx31=>
         if x31 then
          (Zw (D.l01Cur.mk p0.b x7.2.i x7.2.h) p1).bind λx32=>
          (Zp n (D.l01Cur.mk p0.b x32.2.i x32.2.h) (w64 (1+x32.1)) (w64 (p2-1))).bind λx33=>
          some ((D.Term.mk (w64 (1+x7.1)) p1 0 ⟨[]⟩ ([x33.1]:List D.Term)),(D.l01Cur.mk p0.b x33.2.i x33.2.h))
         else
          (Xx n (D.l01Cur.mk p0.b x7.2.i x7.2.h) p1).bind λx34=>
          some (x34.1,(D.l01Cur.mk p0.b x34.2.i x34.2.h))
 else
  (Y3 p0 6).bind λx35=>
  if x35.1 then
   (Y3 (D.l01Cur.mk p0.b x35.2.i x35.2.h) 3).bind λx36=>
   if x36.1 then
    (shl? 1 p1).bind λx37=>
    (Zw (D.l01Cur.mk p0.b x36.2.i x36.2.h) x37).bind λx38=>
    (XN (D.l01Cur.mk p0.b x38.2.i x38.2.h) ([0,1,(w64 ((x37)-1)),x38.1]:List Int)).bind λx39=>
    (X5 p1 (band x39.1 (w64 ((x37)-1)))).bind λx40=>
    some ((D.Term.mk x40.Op x40.W x40.N x40.Name ([]:List D.Term)),(D.l01Cur.mk p0.b x39.2.i x39.2.h))
   else
    (Xx n (D.l01Cur.mk p0.b x36.2.i x36.2.h) p1).bind λx41=>
    some (x41.1,(D.l01Cur.mk p0.b x41.2.i x41.2.h))
  else
   (Zw (D.l01Cur.mk p0.b x35.2.i x35.2.h) 21).bind λx42=>
   (Zf (w64 (1+x42.1)) 14 16).bind λx43=>
   if x43 then
    (Zw (D.l01Cur.mk p0.b x42.2.i x42.2.h) 4).bind λx44=>
    (Zp n (D.l01Cur.mk p0.b x44.2.i x44.2.h) (w64 (1+x44.1)) (w64 (p2-1))).bind λx45=>
    (Zp n (D.l01Cur.mk p0.b x45.2.i x45.2.h) (w64 (1+x44.1)) (w64 (p2-1))).bind λx46=>
    (Y3 (D.l01Cur.mk p0.b x46.2.i x46.2.h) 6).bind λx47=>
    if x47.1 then
     (get? ([x45.1,x46.1]:List D.Term) 0).bind λx48=>
     (set? ([x45.1,x46.1]:List D.Term) 1 x48).bind λx49=>
     if(decide (p1>1))then
      some ((D.Term.mk 20 p1 0 ⟨[]⟩ ([(D.Term.mk (w64 (1+x42.1)) 1 0 ⟨[]⟩ x49)]:List D.Term)),(D.l01Cur.mk p0.b x47.2.i x47.2.h))
     else
      some ((D.Term.mk (w64 (1+x42.1)) 1 0 ⟨[]⟩ x49),(D.l01Cur.mk p0.b x47.2.i x47.2.h))
    else
     if(decide (p1>1))then
      some ((D.Term.mk 20 p1 0 ⟨[]⟩ ([(D.Term.mk (w64 (1+x42.1)) 1 0 ⟨[]⟩ ([x45.1,x46.1]:List D.Term))]:List D.Term)),(D.l01Cur.mk p0.b x47.2.i x47.2.h))
     else
      some ((D.Term.mk (w64 (1+x42.1)) 1 0 ⟨[]⟩ ([x45.1,x46.1]:List D.Term)),(D.l01Cur.mk p0.b x47.2.i x47.2.h))
   else
    (Zf (w64 (1+x42.1)) 3 13).bind λx50=>
    if x50 then
     (Zp n (D.l01Cur.mk p0.b x42.2.i x42.2.h) p1 (w64 (p2-1))).bind λx51=>
     (Zp n (D.l01Cur.mk p0.b x51.2.i x51.2.h) p1 (w64 (p2-1))).bind λx52=>
     (Y3 (D.l01Cur.mk p0.b x52.2.i x52.2.h) 8).bind λx53=>
     if x53.1 then
      (get? ([x51.1,x52.1]:List D.Term) 0).bind λx54=>
      (set? ([x51.1,x52.1]:List D.Term) 1 x54).bind λx55=>
      some ((D.Term.mk (w64 (1+x42.1)) p1 0 ⟨[]⟩ x55),(D.l01Cur.mk p0.b x53.2.i x53.2.h))
     else
      some ((D.Term.mk (w64 (1+x42.1)) p1 0 ⟨[]⟩ ([x51.1,x52.1]:List D.Term)),(D.l01Cur.mk p0.b x53.2.i x53.2.h))
    else
     if(decide ((w64 (1+x42.1))<=2))then
      (Zp n (D.l01Cur.mk p0.b x42.2.i x42.2.h) p1 (w64 (p2-1))).bind λx56=>
      some ((D.Term.mk (w64 (1+x42.1)) p1 0 ⟨[]⟩ ([x56.1]:List D.Term)),(D.l01Cur.mk p0.b x56.2.i x56.2.h))
     else
      if((w64 (1+x42.1))==17)then
       (Zp n (D.l01Cur.mk p0.b x42.2.i x42.2.h) 1 (w64 (p2-1))).bind λx57=>
       (Zp n (D.l01Cur.mk p0.b x57.2.i x57.2.h) p1 (w64 (p2-1))).bind λx58=>
       (Zp n (D.l01Cur.mk p0.b x58.2.i x58.2.h) p1 (w64 (p2-1))).bind λx59=>
       some ((D.Term.mk (w64 (1+x42.1)) p1 0 ⟨[]⟩ ([x57.1,x58.1,x59.1]:List D.Term)),(D.l01Cur.mk p0.b x59.2.i x59.2.h))
      else
       if(((w64 (1+x42.1))==18)&&(decide (p1>1)))then
        (Zw (D.l01Cur.mk p0.b x42.2.i x42.2.h) (w64 (p1-1))).bind λx60=>
        (Zp n (D.l01Cur.mk p0.b x60.2.i x60.2.h) (w64 (p1-(w64 (1+x60.1)))) (w64 (p2-1))).bind λx61=>
        (Zp n (D.l01Cur.mk p0.b x61.2.i x61.2.h) (w64 (1+x60.1)) (w64 (p2-1))).bind λx62=>
        some ((D.Term.mk (w64 (1+x42.1)) p1 0 ⟨[]⟩ ([x61.1,x62.1]:List D.Term)),(D.l01Cur.mk p0.b x62.2.i x62.2.h))
       else
        if((w64 (1+x42.1))==19)then
         (Zw (D.l01Cur.mk p0.b x42.2.i x42.2.h) 3).bind λx63=>
         (Zw (D.l01Cur.mk p0.b x63.2.i x63.2.h) (w64 ((w64 ((w64 (p1+x63.1))-p1))+1))).bind λx64=>
         (Zp n (D.l01Cur.mk p0.b x64.2.i x64.2.h) (w64 (p1+x63.1)) (w64 (p2-1))).bind λx65=>
         some ((D.Term.mk (w64 (1+x42.1)) p1 x64.1 ⟨[]⟩ ([x65.1]:List D.Term)),(D.l01Cur.mk p0.b x65.2.i x65.2.h))
        else
         (Zf (w64 (1+x42.1)) 20 21).bind λx66=>
         if x66 then
          (Zw (D.l01Cur.mk p0.b x42.2.i x42.2.h) p1).bind λx67=>
          (Zp n (D.l01Cur.mk p0.b x67.2.i x67.2.h) (w64 (1+x67.1)) (w64 (p2-1))).bind λx68=>
          some ((D.Term.mk (w64 (1+x42.1)) p1 0 ⟨[]⟩ ([x68.1]:List D.Term)),(D.l01Cur.mk p0.b x68.2.i x68.2.h))
         else
          (Xx n (D.l01Cur.mk p0.b x42.2.i x42.2.h) p1).bind λx69=>
          some (x69.1,(D.l01Cur.mk p0.b x69.2.i x69.2.h))
def XV(n:Nat)(p0:List Byt)(p1:Int)(p2:Int)(p3:Int):Option D.Term:=
 (Vu n p0 p1).bind λx1=>
 (Zp n x1 p2 p3).bind λx2=>
 some x2.1
def VV(n:Nat)(p0:List Byt)(p1:Int):Option Int:=
 (Vu n p0 p1).bind λx1=>
 (XJ x1).bind λx2=>
 (XJ (D.l01Cur.mk x1.b x2.2.i x2.2.h)).bind λx3=>
 some (w64 ((w64 (256*x2.1))+x3.1))
def WI(n:Nat)(p0:List Byt)(p1:Int)(p2:Int)(p3:Int):Option Int:=
 (VV n p0 p1).bind λx1=>
 (rem? x1 (w64 ((w64 (p3-p2))+1))).bind λx2=>
 some (w64 (p2+x2))
def XG(n:Nat)(p0:D.Term)(p1:Int):Option (Bool×Int):=
 match n with
 |0=>none
 |n+1=>
 (iterN (λ(s1:Int×Int)=>if((decide (s1.1<(len p0.Kids)))&&(decide (s1.2>=0)))then(get? p0.Kids s1.1).bind λx1=>(XG n x1 s1.2).bind λx2=>some (.inl ((w64 (s1.1+1)),x2.2))else some (.inr (s1.2))) n (0,(w64 (p1-1)))).bind λ(rl1:Int)=>
 some ((decide (rl1>=0)),rl1)
def ZV(p0:Int)(p1:Int):Option Bool:=
 (Zf p0 1 16).bind λx1=>
 (if x1 then(shl? 1 p0)else some default).bind λx2=>
 (if x1 then(Zf p1 0 (w64 (x2-1)))else some default).bind λx3=>
 some (x1&&x3)
def WP(n:Nat)(p0:Str):Option Bool:=
 (iterN (λ(s1:Int)=>if(decide (s1<(len p0.bytes)))then(sidx? p0 s1).bind λx1=>(Zf (w64 x1) 97 122).bind λx2=>(if(s1==0)then some default else(if(!x2)then(sidx? p0 s1)else some default)).bind λx3=>(if(s1==0)then some default else(if(!x2)then(Zf (w64 x3) 48 57)else some default)).bind λx4=>if((!x2)&&((s1==0)||(!x4)))then some (.inr (.inr false))else some (.inl ((w64 (s1+1))))else some (.inr (.inl ()))) n (0)).bind λ(rl1:(Unit)⊕Bool)=>
 match rl1 with
 |.inl s1r=>
  (Zf (len p0.bytes) 1 8).bind λx5=>
  some x5
 |.inr v=>some v
def YD (n:Nat)(p0:D.Term):Option Bool:=
 match n with
 |0=>none
 |n+1=>
 (Zf p0.W 1 16).bind λx1=>
 if(((!x1)||((!(Str.eqb p0.Name ⟨[]⟩))&&(p0.Op !=22)))||(((p0.N !=0)&&(p0.Op !=0))&&(p0.Op !=19)))then
  some false
 else
  (iterN (λ(s1:Int)=>if(decide (s1<(len p0.Kids)))then(get? p0.Kids s1).bind λx2=>(YD n x2).bind λx3=>if(!x3)then some (.inr (.inr false))else some (.inl ((w64 (s1+1))))else some (.inr (.inl ()))) n (0)).bind λ(rl1:(Unit)⊕Bool)=>
  match rl1 with
  | .inl s1r=>
   (iterN (λ(s2:Int×(List Int))=>if((decide (s2.1<(len p0.Kids)))&&(decide (s2.1<3)))then(get? p0.Kids s2.1).bind λx4=>(set? s2.2 s2.1 x4.W).bind λx5=>some (.inl ((w64 (s2.1+1)),x5))else some (.inr (s2.2))) n (0,([0,0,0]:List Int))).bind λ(rl2:(List Int))=>
   if(p0.Op==0)then
    (if((len p0.Kids)==0)then(ZV p0.W p0.N)else some default).bind λx6=>
    some (((len p0.Kids)==0)&&x6)
   else
    if(p0.Op==22)then
     (if((len p0.Kids)==0)then(WP n p0.Name)else some default).bind λx7=>
     some (((len p0.Kids)==0)&&x7)
    else
     (Zf p0.Op 1 2).bind λx8=>
     if x8 then
      (if((len p0.Kids)==1)then(get? rl2 0)else some default).bind λx9=>
      some (((len p0.Kids)==1)&&(x9==p0.W))
     else
      (Zf p0.Op 3 13).bind λx10=>
      if x10 then
       (if((len p0.Kids)==2)then(get? rl2 0)else some default).bind λx11=>
       (if(((len p0.Kids)==2)&&(x11==p0.W))then(get? rl2 1)else some default).bind λx12=>
       some ((((len p0.Kids)==2)&&(x11==p0.W))&&(x12==p0.W))
      else
       (Zf p0.Op 14 16).bind λx13=>
       if x13 then
        (if((len p0.Kids)==2)then(get? rl2 0)else some default).bind λx14=>
        (if((len p0.Kids)==2)then(get? rl2 1)else some default).bind λx15=>
        some ((((len p0.Kids)==2)&&(x14==x15))&&(p0.W==1))
       else
        if(p0.Op==17)then
         (if((len p0.Kids)==3)then(get? rl2 0)else some default).bind λx16=>
         (if(((len p0.Kids)==3)&&(x16==1))then(get? rl2 1)else some default).bind λx17=>
         (if((((len p0.Kids)==3)&&(x16==1))&&(x17==p0.W))then(get? rl2 2)else some default).bind λx18=>
         some (((((len p0.Kids)==3)&&(x16==1))&&(x17==p0.W))&&(x18==p0.W))
        else
         if(p0.Op==18)then
          (if((len p0.Kids)==2)then(get? rl2 0)else some default).bind λx19=>
          (if((len p0.Kids)==2)then(get? rl2 1)else some default).bind λx20=>
          some (((len p0.Kids)==2)&&((w64 (x19+x20))==p0.W))
         else
          if(p0.Op==19)then
           (if((len p0.Kids)==1)then(Zf p0.N 0 16)else some default).bind λx21=>
           (if(((len p0.Kids)==1)&&x21)then(get? rl2 0)else some default).bind λx22=>
           some ((((len p0.Kids)==1)&&x21)&&(decide ((w64 (p0.N+p0.W))<=x22)))
          else
           (Zf p0.Op 20 21).bind λx23=>
           (if(x23&&((len p0.Kids)==1))then(get? rl2 0)else some default).bind λx24=>
           some ((x23&&((len p0.Kids)==1))&&(decide (x24<=p0.W)))
  |.inr v=>some v
def Yt(n:Nat)(p0:D.Term)(p1:List D.Value):Option ((List D.Value)×Bool):=
 match n with
 |0=>none
 |n+1=>
 if (p0.Op==22)then
  (iterN (λ(s1:Int)=>(if(decide (s1<(len p1)))then(get? p1 s1)else some default).bind λx1=>if((decide (s1<(len p1)))&&(Str.ltb x1.Name p0.Name))then some (.inl ((w64 (s1+1))))else some (.inr (s1))) n (0)).bind λ(rl1:Int)=>
  (if(decide (rl1<(len p1)))then(get? p1 rl1)else some default).bind λx2=>
  if((decide (rl1<(len p1)))&&(Str.eqb x2.Name p0.Name))then
   (get? p1 rl1).bind λx3=>
   some (p1,(x3.W==p0.W))
  else
   (cut? p1 0 rl1).bind λx4=>
   (app? ([]:List D.Value) x4).bind λx5=>
   (app? x5 ([(D.Value.mk p0.Name p0.W 0)]:List D.Value)).bind λx6=>
   (cut? p1 rl1 (len p1)).bind λx7=>
   (app? x6 x7).bind λx8=>
   some (x8,true)
 else
  (iterN (λ(s2:Int×(List D.Value))=>if(decide (s2.1<(len p0.Kids)))then(get? p0.Kids s2.1).bind λx9=>(Yt n x9 s2.2).bind λx10=>if(!x10.2)then some (.inr (.inr (([]:List D.Value),false)))else some (.inl ((w64 (s2.1+1)),x10.1))else some (.inr (.inl (s2.2)))) n (0,p1)).bind λ(rl2:((List D.Value))⊕((List D.Value)×Bool))=>
  match rl2 with
  |.inl s2r=>
   some (s2r,true)
  |.inr v=>some v
def YZ(n:Nat)(p0:D.Term):Option Bool:=
 (XG n p0 240).bind λx1=>
 if(!x1.1)then
  if true then
   some false
  else
   (Yt n p0 ([]:List D.Value)).bind λx2=>
   some x2.2
 else
  (YD n p0).bind λx3=>
  if(!x3)then
   some false
  else
   (Yt n p0 ([]:List D.Value)).bind λx4=>
   some x4.2
def ZP(n:Nat)(p0:D.Term):Option (List D.Value):=
 (YZ n p0).bind λx1=>
 if(!x1)then
  some ([]:List D.Value)
 else
  (Yt n p0 ([]:List D.Value)).bind λx2=>
  some x2.1
def XL(n:Nat)(p0:List D.Value):Option Int:=
 (iterN (λ(s1:Int×Int)=>if(decide (s1.2<(len p0)))then(get? p0 s1.2).bind λx1=>some (.inl ((w64 (s1.1+x1.W)),(w64 (s1.2+1))))else some (.inr (s1.1))) n (0,0)).bind λ(rl1:Int)=>
 some rl1
def WC(n:Nat)(p0:List D.Value)(p1:Str):Option Int:=
 (iterN (λ(s1:Int)=>if(decide (s1<(len p0)))then(get? p0 s1).bind λx1=>if(Str.eqb x1.Name p1)then some (.inr (.inr s1))else some (.inl ((w64 (s1+1))))else some (.inr (.inl ()))) n (0)).bind λ(rl1:(Unit)⊕Int)=>
 match rl1 with
 |.inl s1r=>
  some (-1)
 |.inr v=>some v
def Yq(p0:Int)(p1:Int):Option Int:=
 (Zf p0 1 16).bind λx1=>
 if(!x1)then
  some (-1)
 else
  (shl? 1 p0).bind λx2=>
  some (band p1 (w64 (x2-1)))
def Xe(p0:Int)(p1:Int)(p2:Int):Option Int:=
 (ZV p1 p2).bind λx1=>
 if(!x1)then
  some (-1)
 else
  if(p0==1)then
   (shl? 1 p1).bind λx2=>
   some (w64 ((w64 (x2-1))-p2))
  else
   if(p0==2)then
    (Yq p1 (w64 (0-p2))).bind λx3=>
    some x3
   else
    some (-1)
def YP(p0:Int)(p1:Int):Option Int:=
 (ZV p0 p1).bind λx1=>
 if(!x1)then
  some 0
 else
  (shr? p1 (w64 (p0-1))).bind λx2=>
  if(x2==1)then
   (shl? 1 p0).bind λx3=>
   some (w64 (p1-x3))
  else
   some p1
def Yc(p0:Bool):Option Int:=
 if p0 then
  some 1
 else
  some 0
def XD (p0:Int) (p1:Int)(p2:Int)(p3:Int):Option Int:=
 (ZV p1 p2).bind λx1=>
 (if(!x1)then some default else(ZV p1 p3)).bind λx2=>
 if((!x1)||(!x2))then
  some (-1)
 else
  if(p0==3)then
   (Yq p1 (w64 (p2+p3))).bind λx3=>
   some x3
  else
   if(p0==4)then
    (Yq p1 (w64 (p2-p3))).bind λx4=>
    some x4
   else
    if(p0==5)then
     (Yq p1 (w64 (p2*p3))).bind λx5=>
     some x5
    else
     if(p0==6)then
      if(p3==0)then
       (shl? 1 p1).bind λx6=>
       some (w64 (x6-1))
      else
       (quo? p2 p3).bind λx7=>
       some x7
     else
      if(p0==7)then
       if(p3==0)then
        some p2
       else
        (rem? p2 p3).bind λx8=>
        some x8
      else
       if(p0==8)then
        some (band p2 p3)
       else
        if(p0==9)then
         some (bor p2 p3)
        else
         if(p0==10)then
          some (bxor p2 p3)
         else
          if(p0==11)then
           if(decide (p3>=p1))then
            some 0
           else
            (shl? p2 p3).bind λx9=>
            (Yq p1 x9).bind λx10=>
            some x10
          else
           if(p0==12)then
            if(decide (p3>=p1))then
             some 0
            else
             (shr? p2 p3).bind λx11=>
             some x11
           else
            if(p0==13)then
             (YP p1 p2).bind λx12=>
             (shr? x12 (cond (decide (p3>=p1)) (w64 (p1-1)) p3)).bind λx13=>
             (Yq p1 x13).bind λx14=>
             some x14
            else
             if(p0==14)then
              (Yc (p2==p3)).bind λx15=>
              some x15
             else
              if(p0==15)then
               (Yc (decide (p2<p3))).bind λx16=>
               some x16
              else
               if(p0==16)then
                (YP p1 p2).bind λx17=>
                (YP p1 p3).bind λx18=>
                (Yc (decide (x17<x18))).bind λx19=>
                some x19
               else
                some (-1)
def Wv(p0:Int)(p1:Int)(p2:Int)(p3:Int):Option Int:=
 (ZV p0 p1).bind λx1=>
 (if(!x1)then some default else(ZV p2 p3)).bind λx2=>
 if(((!x1)||(!x2))||(decide ((w64 (p0+p2))>16)))then
  some (-1)
 else
  (shl? p1 p2).bind λx3=>
  some (w64 (x3+p3))
def WZ(p0:Int)(p1:Int)(p2:Int)(p3:Int):Option Int:=
 (ZV p0 p1).bind λx1=>
 if(((((!x1)||(decide (p2<0)))||(decide (p3<1)))||(decide (p3>p0)))||(decide (p2>(w64 (p0-p3)))))then
  some (-1)
 else
  (shr? p1 p2).bind λx2=>
  (Yq p3 x2).bind λx3=>
  some x3
def Xp(p0:Int)(p1:Int)(p2:Int)(p3:Bool):Option Int:=
 (ZV p0 p1).bind λx1=>
 if(((!x1)||(decide (p2<p0)))||(decide (p2>16)))then
  some (-1)
 else
  if p3 then
   (YP p0 p1).bind λx2=>
   (Yq p2 x2).bind λx3=>
   some x3
  else
   some p1
def WG(p0:D.Term)(p1:List Int):Option Int:=
 (Zf p0.Op 1 2).bind λx1=>
 if x1 then
  (get? p1 0).bind λx2=>
  (Xe p0.Op p0.W x2).bind λx3=>
  some x3
 else
  (Zf p0.Op 3 16).bind λx4=>
  if x4 then
   (get? p0.Kids 0).bind λx5=>
   (get? p1 0).bind λx6=>
   (get? p1 1).bind λx7=>
   (XD p0.Op x5.W x6 x7).bind λx8=>
   some x8
  else
   if(p0.Op==17)then
    (get? p1 0).bind λx9=>
    if(x9==1)then
     (get? p1 1).bind λx10=>
     some x10
    else
     (get? p1 2).bind λx11=>
     some x11
   else
    if(p0.Op==18)then
     (get? p0.Kids 0).bind λx12=>
     (get? p1 0).bind λx13=>
     (get? p0.Kids 1).bind λx14=>
     (get? p1 1).bind λx15=>
     (Wv x12.W x13 x14.W x15).bind λx16=>
     some x16
    else
     if(p0.Op==19)then
      (get? p0.Kids 0).bind λx17=>
      (get? p1 0).bind λx18=>
      (WZ x17.W x18 p0.N p0.W).bind λx19=>
      some x19
     else
      (get? p0.Kids 0).bind λx20=>
      (get? p1 0).bind λx21=>
      (Xp x20.W x21 p0.W (p0.Op==21)).bind λx22=>
      some x22
def Y4(n:Nat)(p0:D.Term)(p1:List D.Value):Option (Int×Bool):=
 match n with
 |0=>none
 |n+1=>
 if(p0.Op==0)then
  some (p0.N,true)
 else
  if(p0.Op==22)then
   (WC n p1 p0.Name).bind λx1=>
   (if(decide (x1<0))then some default else(get? p1 x1)).bind λx2=>
   if((decide (x1<0))||(x2.W !=p0.W))then
    some (0,false)
   else
    (get? p1 x1).bind λx3=>
    some (x3.N,true)
  else
   (iterN (λ(s1:Int×(List Int))=>if(decide (s1.1<(len p0.Kids)))then(get? p0.Kids s1.1).bind λx4=>(Y4 n x4 p1).bind λx5=>if(!x5.2)then some (.inr (.inr (0,false)))else(app? s1.2 ([x5.1]:List Int)).bind λx6=>some (.inl ((w64 (s1.1+1)),x6))else some (.inr (.inl (s1.2)))) n (0,([]:List Int))).bind λ(rl1:((List Int))⊕(Int×Bool))=>
   match rl1 with
   |.inl s1r=>
    (WG p0 s1r).bind λx7=>
    some (x7,true)
   |.inr v=>some v
def Wx(n:Nat)(p0:List D.Value):Option (Bool×(List D.Value)):=
 (iterN (λ(s1:Int×(List D.Value))=>if(decide (s1.1>=0))then(get? s1.2 s1.1).bind λx1=>(get? s1.2 s1.1).bind λx2=>(shl? 1 x2.W).bind λx3=>if(decide (x1.N<(w64 (x3-1))))then(get? s1.2 s1.1).bind λx4=>(get? s1.2 s1.1).bind λx5=>(set? s1.2 s1.1 ({x5 with N:=(w64 (x4.N+1))}:D.Value)).bind λx6=>some (.inr (.inr (true,x6)))else(get? s1.2 s1.1).bind λx7=>(set? s1.2 s1.1 ({x7 with N:=0}:D.Value)).bind λx8=>some (.inl ((w64 (s1.1-1)),x8))else some (.inr (.inl (s1.2)))) n ((w64 ((len p0)-1)),p0)).bind λ(rl1:((List D.Value))⊕(Bool×(List D.Value)))=>
 match rl1 with
 |.inl s1r=>
  some (false,s1r)
 |.inr v=>some v
def YR(n:Nat)(p0:D.Term):Option (List Int):=
 (ZP n p0).bind λx1=>
 (YZ n p0).bind λx2=>
 (if(!x2)then some default else(XL n x1)).bind λx3=>
 if((!x2)||(decide (x3>10)))then
  some ([]:List Int)
 else
  (iterN (λ(s1:(List D.Value)×(List Int))=>(Y4 n p0 s1.1).bind λx4=>(app? s1.2 ([x4.1]:List Int)).bind λx5=>(Wx n s1.1).bind λx6=>if(!x6.1)then some (.inr (.inr x5))else some (.inl (x6.2,x5))) n (x1,([]:List Int))).bind λ(rl1:((List Int)×(List D.Value)×(List Int))⊕(List Int))=>
  match rl1 with
  |.inl s1r=>
   some s1r.1
  |.inr v=>some v
def YQ(p0:Int):Option Bool:=
 some ((decide (p0>=1))&&(decide (p0<=16)))
def YS(p0:Int):Option Int:=
 if((p0==0)||(p0==22))then
  some 0
 else
  if(((((p0==1)||(p0==2))||(p0==19))||(p0==20))||(p0==21))then
   some 1
  else
   if(((decide (p0>=3))&&(decide (p0<=16)))||(p0==18))then
    some 2
   else
    if(p0==17)then
     some 3
    else
     some (-1)
def Ww (p0:D.Term):Option Bool:=
 if((p0.Op==0)||(p0.Op==22))then
  some true
 else
  if((p0.Op==1)||(p0.Op==2))then
   (get? p0.Kids 0).bind λx1=>
   some (x1.W==p0.W)
  else
   if((decide (p0.Op>=3))&&(decide (p0.Op<=13)))then
    (get? p0.Kids 0).bind λx2=>
    (if(x2.W==p0.W)then(get? p0.Kids 1)else some default).bind λx3=>
    some ((x2.W==p0.W)&&(x3.W==p0.W))
   else
    if((decide (p0.Op>=14))&&(decide (p0.Op<=16)))then
     (get? p0.Kids 0).bind λx4=>
     (get? p0.Kids 1).bind λx5=>
     some ((x4.W==x5.W)&&(p0.W==1))
    else
     if(p0.Op==17)then
      (get? p0.Kids 0).bind λx6=>
      (if(x6.W==1)then(get? p0.Kids 1)else some default).bind λx7=>
      (if((x6.W==1)&&(x7.W==p0.W))then(get? p0.Kids 2)else some default).bind λx8=>
      some (((x6.W==1)&&(x7.W==p0.W))&&(x8.W==p0.W))
     else
      if(p0.Op==18)then
       (get? p0.Kids 0).bind λx9=>
       (get? p0.Kids 1).bind λx10=>
       some ((w64 (x9.W+x10.W))==p0.W)
      else
       if(p0.Op==19)then
        (if(decide (p0.N>=0))then(get? p0.Kids 0)else some default).bind λx11=>
        some ((decide (p0.N>=0))&&(decide (p0.N<=(w64 (x11.W-p0.W)))))
       else
        (get? p0.Kids 0).bind λx12=>
        some (decide (x12.W<=p0.W))
def WS(p0:Int)(p1:Int):Option Bool:=
 (YQ p0).bind λx1=>
 (if(x1&&(decide (p1>=0)))then(shl? 1 (IntKind.u64.wrap p0))else some default).bind λx2=>
 some ((x1&&(decide (p1>=0)))&&(decide (p1<x2)))
def VE(n:Nat)(p0:Str):Option Bool:=
 if((decide ((len p0.bytes)<1))||(decide ((len p0.bytes)>8)))then
  some false
 else
  (iterN (λ(s1:Int)=>if(decide (s1<(len p0.bytes)))then(sidx? p0 s1).bind λx1=>(if(decide (x1>=97))then(sidx? p0 s1)else some default).bind λx2=>(sidx? p0 s1).bind λx3=>(if(decide (x3>=48))then(sidx? p0 s1)else some default).bind λx4=>if((!((decide (x1>=97))&&(decide (x2<=122))))&&(!(((decide (x3>=48))&&(decide (x4<=57)))&&(decide (s1>0)))))then some (.inr (.inr false))else some (.inl ((w64 (s1+1))))else some (.inr (.inl ()))) n (0)).bind λ(rl1:(Unit)⊕Bool)=>
  match rl1 with
  |.inl s1r=>
   some true
  |.inr v=>some v
def Y8(n:Nat)(p0:D.termCheck)(p1:D.Term):Option (Bool×D.termCheck):=
 (VE n p1.Name).bind λx1=>
 if(!x1)then
  some (false,p0)
 else
  if(Option.isNone p0.widths)then
   (mget2? fitS (0:Int) ([]) p1.Name).bind λx2=>
   if x2.2 then
    some ((x2.1==p1.W),(D.termCheck.mk p0.count (some ([]))))
   else
    (mputE? fitS fitZ ([]) p1.Name p1.W).bind λx3=>
    some (true,(D.termCheck.mk p0.count (some x3)))
  else
   (mget2? fitS (0:Int) (Option.getD p0.widths []) p1.Name).bind λx4=>
   if x4.2 then
    some ((x4.1==p1.W),(D.termCheck.mk p0.count (some (Option.getD p0.widths []))))
   else
    (mputE? fitS fitZ (Option.getD p0.widths []) p1.Name p1.W).bind λx5=>
    some (true,(D.termCheck.mk p0.count (some x5)))
def ZC (n:Nat)(p0:D.termCheck)(p1:D.Term):Option (Bool×D.termCheck):=
 match n with
 |0=>none
 |n+1=>
 (if(decide ((w64 (p0.count+1))>240))then some default else(YQ p1.W)).bind λx1=>
 (if((decide ((w64 (p0.count+1))>240))||(!x1))then some default else(YS p1.Op)).bind λx2=>
 if(((decide ((w64 (p0.count+1))>240))||(!x1))||((len p1.Kids)!=x2))then
  some (false,(D.termCheck.mk (w64 (p0.count+1)) p0.widths))
 else
  (iterN (λ(s1:Int)=>if(decide (s1<(len p1.Kids)))then(get? p1.Kids s1).bind λx3=>(YQ x3.W).bind λx4=>if(!x4)then some (.inr (.inr (false,(D.termCheck.mk (w64 (p0.count+1)) p0.widths))))else some (.inl ((w64 (s1+1))))else some (.inr (.inl ()))) n (0)).bind λ(rl1:(Unit)⊕(Bool×D.termCheck))=>
  match rl1 with
  | .inl s1r=>
   (Ww p1).bind λx5=>
   if(!x5)then
    some (false,(D.termCheck.mk (w64 (p0.count+1)) p0.widths))
   else
    (if(p1.Op==0)then(WS p1.W p1.N)else some default).bind λx6=>
    if((p1.Op==0)&&(!x6))then
     some (false,(D.termCheck.mk (w64 (p0.count+1)) p0.widths))
    else
     if(((p1.Op !=0)&&(p1.Op !=19))&&(p1.N !=0))then
      some (false,(D.termCheck.mk (w64 (p0.count+1)) p0.widths))
     else
      if (p1.Op !=22)then
       if(!(Str.eqb p1.Name ⟨[]⟩))then
        some (false,(D.termCheck.mk (w64 (p0.count+1)) p0.widths))
       else
        (iterN (λ(s2:Int×Int×(Option (List (Str×Int))))=>if(decide (s2.1<(len p1.Kids)))then(get? p1.Kids s2.1).bind λx7=>(ZC n (D.termCheck.mk s2.2.1 s2.2.2) x7).bind λx8=>if(!x8.1)then some (.inr (.inr (false,x8.2)))else some (.inl ((w64 (s2.1+1)),x8.2.count,x8.2.widths))else some (.inr (.inl (s2.2.1,s2.2.2)))) n (0,(w64 (p0.count+1)),p0.widths)).bind λ(rl2:(Int×(Option (List (Str×Int))))⊕(Bool×D.termCheck))=>
        match rl2 with
        |.inl s2r=>
         some (true,(D.termCheck.mk s2r.1 s2r.2))
        |.inr v=>some v
      else
       (Y8 n (D.termCheck.mk (w64 (p0.count+1)) p0.widths) p1).bind λx9=>
       if(!x9.1)then
        some (false,x9.2)
       else
        (iterN (λ(s3:Int×Int×(Option (List (Str×Int))))=>if(decide (s3.1<(len p1.Kids)))then(get? p1.Kids s3.1).bind λx10=>(ZC n (D.termCheck.mk s3.2.1 s3.2.2) x10).bind λx11=>if(!x11.1)then some (.inr (.inr (false,x11.2)))else some (.inl ((w64 (s3.1+1)),x11.2.count,x11.2.widths))else some (.inr (.inl (s3.2.1,s3.2.2)))) n (0,x9.2.count,x9.2.widths)).bind λ(rl3:(Int×(Option (List (Str×Int))))⊕(Bool×D.termCheck))=>
        match rl3 with
        |.inl s3r=>
         some (true,(D.termCheck.mk s3r.1 s3r.2))
        |.inr v=>some v
  |.inr v=>some v
def Xk(n:Nat)(p0:D.Term):Option Bool:=
 (ZC n (D.termCheck.mk 0 none) p0).bind λx1=>
 some x1.1
def WX(p0:Int):Option Bool:=
 some ((decide (p0>=0))&&(decide (p0<=3000)))
def XQ(p0:Int):Option Bool:=
 some ((decide (p0>=3))&&(decide (p0<=16)))
def Xv(n:Nat)(p0:D.Term):Option Bool:=
 match n with
 |0=>none
 |n+1=>
 (if(p0.Op==2)then some default else(XQ p0.Op)).bind λx1=>
 (if((p0.Op==2)||x1)then(get? p0.Kids 0)else some default).bind λx2=>
 if(((p0.Op==2)||x1)&&(x2.W==16))then
  some true
 else
  (iterN (λ(s1:Int)=>if(decide (s1<(len p0.Kids)))then(get? p0.Kids s1).bind λx3=>(Xv n x3).bind λx4=>if x4 then some (.inr (.inr true))else some (.inl ((w64 (s1+1))))else some (.inr (.inl ()))) n (0)).bind λ(rl1:(Unit)⊕Bool)=>
  match rl1 with
  |.inl s1r=>
   some false
  |.inr v=>some v
def Yu(n:Nat)(p0:D.Term)(p1:Option (List (Str×Int))):Option (Option (List (Str×Int))):=
 match n with
 |0=>none
 |n+1=>
 if (p0.Op==22)then
  p1.bind λx1=>
  (mputE? fitS fitZ x1 p0.Name p0.W).bind λx2=>
  (iterN (λ(s1:Int×(Option (List (Str×Int))))=>if(decide (s1.1<(len p0.Kids)))then(get? p0.Kids s1.1).bind λx3=>(Yu n x3 s1.2).bind λx4=>some (.inl ((w64 (s1.1+1)),x4))else some (.inr (s1.2))) n (0,(some x2))).bind λ(rl1:(Option (List (Str×Int))))=>
  some rl1
 else
  (iterN (λ(s2:Int×(Option (List (Str×Int))))=>if(decide (s2.1<(len p0.Kids)))then(get? p0.Kids s2.1).bind λx5=>(Yu n x5 s2.2).bind λx6=>some (.inl ((w64 (s2.1+1)),x6))else some (.inr (s2.2))) n (0,p1)).bind λ(rl2:(Option (List (Str×Int))))=>
  some rl2
def WW(n:Nat)(p0:D.Term):Option (List D.Value):=
 (Xk n p0).bind λx1=>
 if(!x1)then
  some ([]:List D.Value)
 else
  (Yu n p0 (some [])).bind λx2=>
  x2.bind λx3=>
  if x3.length<=1048576 then some (vtab x3)else none
def ZJ(p0:List D.Gate):Option (List D.Gate):=
 (app? ([]:List D.Gate) p0).bind λx1=>
 some x1
def XP(n:Nat)(p0:D.Circuit):Option D.builder:=
 (ZJ p0.Gates).bind λx1=>
 (iterN (λ(s1:Int×(List (D.Gate×Int)))=>if(decide (s1.1<(len p0.Gates)))then(get? p0.Gates s1.1).bind λx2=>(mputE? ZG fitZ s1.2 x2 (w64 ((w64 (2+p0.Inputs))+s1.1))).bind λx3=>some (.inl ((w64 (s1.1+1)),x3))else some (.inr (s1.2))) n (0,[])).bind λ(rl1:(List (D.Gate×Int)))=>
 some (D.builder.mk (D.Circuit.mk p0.Inputs x1) rl1 false)
def Y1(n:Nat)(p0:Int)(p1:Int):Option (List Int):=
 (mk? p0 (0:Int)).bind λx1=>
 (iterN (λ(s1:Int×(List Int))=>if(decide (s1.1<(len x1)))then(set? s1.2 s1.1 (-1)).bind λx2=>(shr? p1 (IntKind.u64.wrap s1.1)).bind λx3=>if((band x3 1)==1)then(set? x2 s1.1 1).bind λx4=>some (.inl ((w64 (s1.1+1)),x4))else some (.inl ((w64 (s1.1+1)),x2))else some (.inr (s1.2))) n (0,x1)).bind λ(rl1:(List Int))=>
 some rl1
def Ze(p0:List Int):Option (List Int):=
 (app? ([]:List Int) p0).bind λx1=>
 some x1
def YA(n:Nat)(p0:List Int):Option (List Int):=
 (mk? (len p0) (0:Int)).bind λx1=>
 (iterN (λ(s1:Int×(List Int))=>if(decide (s1.1<(len p0)))then(get? p0 s1.1).bind λx2=>(set? s1.2 s1.1 (w64 (0-x2))).bind λx3=>some (.inl ((w64 (s1.1+1)),x3))else some (.inr (s1.2))) n (0,x1)).bind λ(rl1:(List Int))=>
 some rl1
def Yx(p0:Int):Option Int:=
 if(decide (p0<0))then
  some (w64 (0-p0))
 else
  some p0
def Yr(p0:D.Circuit):Option Int:=
 some (w64 ((w64 (1+p0.Inputs))+(len p0.Gates)))
def Zo (p0:D.builder)(p1:Int)(p2:Int):Option (Int×D.builder):=
 if(((p1==(-1))||(p2==(-1)))||(p1==(w64 (0-p2))))then
  some ((-1),p0)
 else
  if(p1==1)then
   some (p2,p0)
  else
   if((p2==1)||(p1==p2))then
    some (p1,p0)
   else
    (Yx p1).bind λx1=>
    (Yx p2).bind λx2=>
    if (decide (x1>x2))then
     (mget2? ZG (0:Int) p0.line (D.Gate.mk p2 p1)).bind λx3=>
     if x3.2 then
      some (x3.1,p0)
     else
      if(decide ((len p0.c.Gates)>=360))then
       some ((-1),(D.builder.mk p0.c p0.line true))
      else
       (app? p0.c.Gates ([(D.Gate.mk p2 p1)]:List D.Gate)).bind λx4=>
       (Yr (D.Circuit.mk p0.c.Inputs x4)).bind λx5=>
       (mputE? ZG fitZ p0.line (D.Gate.mk p2 p1) x5).bind λx6=>
       some (x5,(D.builder.mk (D.Circuit.mk p0.c.Inputs x4) x6 p0.full))
    else
     (mget2? ZG (0:Int) p0.line (D.Gate.mk p1 p2)).bind λx7=>
     if x7.2 then
      some (x7.1,p0)
     else
      if(decide ((len p0.c.Gates)>=360))then
       some ((-1),(D.builder.mk p0.c p0.line true))
      else
       (app? p0.c.Gates ([(D.Gate.mk p1 p2)]:List D.Gate)).bind λx8=>
       (Yr (D.Circuit.mk p0.c.Inputs x8)).bind λx9=>
       (mputE? ZG fitZ p0.line (D.Gate.mk p1 p2) x9).bind λx10=>
       some (x9,(D.builder.mk (D.Circuit.mk p0.c.Inputs x8) x10 p0.full))
def Z7(p0:D.builder)(p1:Int)(p2:Int):Option (Int×D.builder):=
 (Zo p0 (w64 (0-p1)) (w64 (0-p2))).bind λx1=>
 some ((w64 (0-x1.1)),x1.2)
def Z9(p0:D.builder)(p1:Int)(p2:Int):Option (Int×D.builder):=
 (Zo p0 p1 (w64 (0-p2))).bind λx1=>
 (Zo x1.2 (w64 (0-p1)) p2).bind λx2=>
 (Z7 x2.2 x1.1 x2.1).bind λx3=>
 some (x3.1,x3.2)
def Ya(n:Nat)(p0:D.builder)(p1:List Int)(p2:List Int)(p3:Int):Option ((List Int)×Int×D.builder):=
 (mk? (len p1) (0:Int)).bind λx1=>
 (iterN (λ(s1:Int×Int×(List Int)×Int×Bool×(List D.Gate)×(List (D.Gate×Int)))=>if(decide (s1.2.1<(len p1)))then(get? p1 s1.2.1).bind λx2=>(get? p2 s1.2.1).bind λx3=>(Z9 (D.builder.mk (D.Circuit.mk s1.2.2.2.1 s1.2.2.2.2.2.1) s1.2.2.2.2.2.2 s1.2.2.2.2.1) x2 x3).bind λx4=>(Z9 x4.2 x4.1 s1.1).bind λx5=>(set? s1.2.2.1 s1.2.1 x5.1).bind λx6=>(get? p1 s1.2.1).bind λx7=>(get? p2 s1.2.1).bind λx8=>(Zo x5.2 x7 x8).bind λx9=>(Zo x9.2 x4.1 s1.1).bind λx10=>(Z7 x10.2 x9.1 x10.1).bind λx11=>some (.inl (x11.1,(w64 (s1.2.1+1)),x6,x11.2.c.Inputs,x11.2.full,x11.2.c.Gates,x11.2.line))else some (.inr (s1.1,s1.2.2.1,s1.2.2.2.1,s1.2.2.2.2.1,s1.2.2.2.2.2.1,s1.2.2.2.2.2.2))) n (p3,0,x1,p0.c.Inputs,p0.full,p0.c.Gates,p0.line)).bind λ(rl1:Int×(List Int)×Int×Bool×(List D.Gate)×(List (D.Gate×Int)))=>
 some (rl1.2.1,rl1.1,(D.builder.mk (D.Circuit.mk rl1.2.2.1 rl1.2.2.2.2.1) rl1.2.2.2.2.2 rl1.2.2.2.1))
def YJ(n:Nat)(p0:D.builder)(p1:List Int)(p2:List Int):Option ((List Int)×D.builder):=
 (Y1 n (len p1) 0).bind λx1=>
 (iterN (λ(s1:Int×(List Int)×Int×Bool×(List D.Gate)×(List (D.Gate×Int)))=>if (decide (s1.1<(len p2)))then(mk? (w64 ((len p1)-s1.1)) (0:Int)).bind λx2=>(iterN (λ(s2:Int×(List Int)×Int×Bool×(List D.Gate)×(List (D.Gate×Int)))=>if(decide (s2.1<(len x2)))then(get? p2 s1.1).bind λx3=>(get? p1 s2.1).bind λx4=>(Zo (D.builder.mk (D.Circuit.mk s2.2.2.1 s2.2.2.2.2.1) s2.2.2.2.2.2 s2.2.2.2.1) x3 x4).bind λx5=>(set? s2.2.1 s2.1 x5.1).bind λx6=>some (.inl ((w64 (s2.1+1)),x6,x5.2.c.Inputs,x5.2.full,x5.2.c.Gates,x5.2.line))else some (.inr (s2.2.1,s2.2.2.1,s2.2.2.2.1,s2.2.2.2.2.1,s2.2.2.2.2.2))) n (0,x2,s1.2.2.1,s1.2.2.2.1,s1.2.2.2.2.1,s1.2.2.2.2.2)).bind λ(rl2:(List Int)×Int×Bool×(List D.Gate)×(List (D.Gate×Int)))=>(cut? s1.2.1 s1.1 (len s1.2.1)).bind λx7=>(Ya n (D.builder.mk (D.Circuit.mk rl2.2.1 rl2.2.2.2.1) rl2.2.2.2.2 rl2.2.2.1) x7 rl2.1 (-1)).bind λx8=>(cut? s1.2.1 s1.1 (len s1.2.1)).bind λx9=>some (.inl ((w64 (s1.1+1)),(vcopy s1.2.1 s1.1 (List.length x9) x8.1),x8.2.2.c.Inputs,x8.2.2.full,x8.2.2.c.Gates,x8.2.2.line))else some (.inr (s1.2.1,s1.2.2.1,s1.2.2.2.1,s1.2.2.2.2.1,s1.2.2.2.2.2))) n (0,x1,p0.c.Inputs,p0.full,p0.c.Gates,p0.line)).bind λ(rl1:(List Int)×Int×Bool×(List D.Gate)×(List (D.Gate×Int)))=>
 some (rl1.1,(D.builder.mk (D.Circuit.mk rl1.2.1 rl1.2.2.2.1) rl1.2.2.2.2 rl1.2.2.1))
def Zd(p0:D.builder)(p1:Int)(p2:Int)(p3:Int):Option (Int×D.builder):=
 (Zo p0 p1 p2).bind λx1=>
 (Zo x1.2 (w64 (0-p1)) p3).bind λx2=>
 (Z7 x2.2 x1.1 x2.1).bind λx3=>
 some (x3.1,x3.2)
def YF(n:Nat)(p0:D.builder)(p1:List Int)(p2:List Int):Option ((List Int)×(List Int)×D.builder):=
 (mk? (len p1) (0:Int)).bind λx1=>
 (Y1 n (len p1) 0).bind λx2=>
 (YA n p2).bind λx3=>
 (app? x3 ([1]:List Int)).bind λx4=>
 (iterN (λ(s1:Int×(List Int)×(List Int)×Int×Bool×(List D.Gate)×(List (D.Gate×Int)))=>if (decide (s1.1>=0))then(get? p1 s1.1).bind λx5=>(app? ([x5]:List Int) s1.2.2.1).bind λx6=>(Ya n (D.builder.mk (D.Circuit.mk s1.2.2.2.1 s1.2.2.2.2.2.1) s1.2.2.2.2.2.2 s1.2.2.2.2.1) x6 x4 1).bind λx7=>(set? s1.2.1 s1.1 x7.2.1).bind λx8=>(iterN (λ(s2:Int×(List Int)×Int×Bool×(List D.Gate)×(List (D.Gate×Int)))=>if(decide (s2.1<(len x2)))then(get? x7.1 s2.1).bind λx9=>(get? x6 s2.1).bind λx10=>(Zd (D.builder.mk (D.Circuit.mk s2.2.2.1 s2.2.2.2.2.1) s2.2.2.2.2.2 s2.2.2.2.1) x7.2.1 x9 x10).bind λx11=>(set? s2.2.1 s2.1 x11.1).bind λx12=>some (.inl ((w64 (s2.1+1)),x12,x11.2.c.Inputs,x11.2.full,x11.2.c.Gates,x11.2.line))else some (.inr (s2.2.1,s2.2.2.1,s2.2.2.2.1,s2.2.2.2.2.1,s2.2.2.2.2.2))) n (0,s1.2.2.1,x7.2.2.c.Inputs,x7.2.2.full,x7.2.2.c.Gates,x7.2.2.line)).bind λ(rl2:(List Int)×Int×Bool×(List D.Gate)×(List (D.Gate×Int)))=>some (.inl ((w64 (s1.1-1)),x8,rl2.1,rl2.2.1,rl2.2.2.1,rl2.2.2.2.1,rl2.2.2.2.2))else some (.inr (s1.2.1,s1.2.2.1,s1.2.2.2.1,s1.2.2.2.2.1,s1.2.2.2.2.2.1,s1.2.2.2.2.2.2))) n ((w64 ((len p1)-1)),x1,x2,p0.c.Inputs,p0.full,p0.c.Gates,p0.line)).bind λ(rl1:(List Int)×(List Int)×Int×Bool×(List D.Gate)×(List (D.Gate×Int)))=>
 some (rl1.1,rl1.2.1,(D.builder.mk (D.Circuit.mk rl1.2.2.1 rl1.2.2.2.2.1) rl1.2.2.2.2.2 rl1.2.2.2.1))
def Y5 (n:Nat)(p0:D.builder)(p1:Int)(p2:List Int)(p3:List Int):Option ((List Int)×D.builder):=
 if (p1 ==13)then
  (get? p2 (w64 ((len p2)-1))).bind λx1=>
  (Ze p2).bind λx2=>
  (iterN (λ(s1:Int×(List Int)×Int×Bool×(List D.Gate)×(List (D.Gate×Int)))=>(if(decide (s1.1<(len p2)))then(shl? 1 (IntKind.u64.wrap s1.1))else some default).bind λx3=>if ((decide (s1.1<(len p2)))&&(decide (x3<(len p2))))then(Ze s1.2.1).bind λx4=>(iterN (λ(s2:Int×(List Int)×Int×Bool×(List D.Gate)×(List (D.Gate×Int)))=>if (decide (s2.1<(len s1.2.1)))then(shl? 1 (IntKind.u64.wrap s1.1)).bind λx5=>if(p1==11)then(shl? 1 (IntKind.u64.wrap s1.1)).bind λx6=>if((decide ((w64 (s2.1-x6))>=0))&&(decide ((w64 (s2.1-x6))<(len p2))))then(get? x4 (w64 (s2.1-x6))).bind λx7=>(get? p3 s1.1).bind λx8=>(get? x4 s2.1).bind λx9=>(Zd (D.builder.mk (D.Circuit.mk s2.2.2.1 s2.2.2.2.2.1) s2.2.2.2.2.2 s2.2.2.2.1) x8 x7 x9).bind λx10=>(set? s2.2.1 s2.1 x10.1).bind λx11=>some (.inl ((w64 (s2.1+1)),x11,x10.2.c.Inputs,x10.2.full,x10.2.c.Gates,x10.2.line))else(get? p3 s1.1).bind λx12=>(get? x4 s2.1).bind λx13=>(Zd (D.builder.mk (D.Circuit.mk s2.2.2.1 s2.2.2.2.2.1) s2.2.2.2.2.2 s2.2.2.2.1) x12 x1 x13).bind λx14=>(set? s2.2.1 s2.1 x14.1).bind λx15=>some (.inl ((w64 (s2.1+1)),x15,x14.2.c.Inputs,x14.2.full,x14.2.c.Gates,x14.2.line))else if((decide ((w64 (s2.1+x5))>=0))&&(decide ((w64 (s2.1+x5))<(len p2))))then(get? x4 (w64 (s2.1+x5))).bind λx16=>(get? p3 s1.1).bind λx17=>(get? x4 s2.1).bind λx18=>(Zd (D.builder.mk (D.Circuit.mk s2.2.2.1 s2.2.2.2.2.1) s2.2.2.2.2.2 s2.2.2.2.1) x17 x16 x18).bind λx19=>(set? s2.2.1 s2.1 x19.1).bind λx20=>some (.inl ((w64 (s2.1+1)),x20,x19.2.c.Inputs,x19.2.full,x19.2.c.Gates,x19.2.line))else(get? p3 s1.1).bind λx21=>(get? x4 s2.1).bind λx22=>(Zd (D.builder.mk (D.Circuit.mk s2.2.2.1 s2.2.2.2.2.1) s2.2.2.2.2.2 s2.2.2.2.1) x21 x1 x22).bind λx23=>(set? s2.2.1 s2.1 x23.1).bind λx24=>some (.inl ((w64 (s2.1+1)),x24,x23.2.c.Inputs,x23.2.full,x23.2.c.Gates,x23.2.line))else some (.inr (s2.2.1,s2.2.2.1,s2.2.2.2.1,s2.2.2.2.2.1,s2.2.2.2.2.2))) n (0,s1.2.1,s1.2.2.1,s1.2.2.2.1,s1.2.2.2.2.1,s1.2.2.2.2.2)).bind λ(rl2:(List Int)×Int×Bool×(List D.Gate)×(List (D.Gate×Int)))=>some (.inl ((w64 (s1.1+1)),rl2.1,rl2.2.1,rl2.2.2.1,rl2.2.2.2.1,rl2.2.2.2.2))else some (.inr (s1.1,s1.2.1,s1.2.2.1,s1.2.2.2.1,s1.2.2.2.2.1,s1.2.2.2.2.2))) n (0,x2,p0.c.Inputs,p0.full,p0.c.Gates,p0.line)).bind λ(rl1:Int×(List Int)×Int×Bool×(List D.Gate)×(List (D.Gate×Int)))=>
  if (decide (rl1.1<(len p2)))then
   (iterN (λ(s3:Int×Int×Int×Bool×(List D.Gate)×(List (D.Gate×Int)))=>if(decide (s3.1<(len p2)))then(get? p3 s3.1).bind λx25=>(Z7 (D.builder.mk (D.Circuit.mk s3.2.2.1 s3.2.2.2.2.1) s3.2.2.2.2.2 s3.2.2.2.1) s3.2.1 x25).bind λx26=>some (.inl ((w64 (s3.1+1)),x26.1,x26.2.c.Inputs,x26.2.full,x26.2.c.Gates,x26.2.line))else some (.inr (s3.2.1,s3.2.2.1,s3.2.2.2.1,s3.2.2.2.2.1,s3.2.2.2.2.2))) n (rl1.1,(-1),rl1.2.2.1,rl1.2.2.2.1,rl1.2.2.2.2.1,rl1.2.2.2.2.2)).bind λ(rl3:Int×Int×Bool×(List D.Gate)×(List (D.Gate×Int)))=>
   (iterN (λ(s4:Int×(List Int)×Int×Bool×(List D.Gate)×(List (D.Gate×Int)))=>if(decide (s4.1<(len rl1.2.1)))then(get? s4.2.1 s4.1).bind λx27=>(Zd (D.builder.mk (D.Circuit.mk s4.2.2.1 s4.2.2.2.2.1) s4.2.2.2.2.2 s4.2.2.2.1) rl3.1 x1 x27).bind λx28=>(set? s4.2.1 s4.1 x28.1).bind λx29=>some (.inl ((w64 (s4.1+1)),x29,x28.2.c.Inputs,x28.2.full,x28.2.c.Gates,x28.2.line))else some (.inr (s4.2.1,s4.2.2.1,s4.2.2.2.1,s4.2.2.2.2.1,s4.2.2.2.2.2))) n (0,rl1.2.1,rl3.2.1,rl3.2.2.1,rl3.2.2.2.1,rl3.2.2.2.2)).bind λ(rl4:(List Int)×Int×Bool×(List D.Gate)×(List (D.Gate×Int)))=>
   some (rl4.1,(D.builder.mk (D.Circuit.mk rl4.2.1 rl4.2.2.2.1) rl4.2.2.2.2 rl4.2.2.1))
  else
   some (rl1.2.1,(D.builder.mk (D.Circuit.mk rl1.2.2.1 rl1.2.2.2.2.1) rl1.2.2.2.2.2 rl1.2.2.2.1))
 else
  (Ze p2).bind λx30=>
  (iterN (λ(s5:Int×(List Int)×Int×Bool×(List D.Gate)×(List (D.Gate×Int)))=>(if(decide (s5.1<(len p2)))then(shl? 1 (IntKind.u64.wrap s5.1))else some default).bind λx31=>if ((decide (s5.1<(len p2)))&&(decide (x31<(len p2))))then(Ze s5.2.1).bind λx32=>(iterN (λ(s6:Int×(List Int)×Int×Bool×(List D.Gate)×(List (D.Gate×Int)))=>if (decide (s6.1<(len s5.2.1)))then(shl? 1 (IntKind.u64.wrap s5.1)).bind λx33=>if(p1==11)then(shl? 1 (IntKind.u64.wrap s5.1)).bind λx34=>if((decide ((w64 (s6.1-x34))>=0))&&(decide ((w64 (s6.1-x34))<(len p2))))then(get? x32 (w64 (s6.1-x34))).bind λx35=>(get? p3 s5.1).bind λx36=>(get? x32 s6.1).bind λx37=>(Zd (D.builder.mk (D.Circuit.mk s6.2.2.1 s6.2.2.2.2.1) s6.2.2.2.2.2 s6.2.2.2.1) x36 x35 x37).bind λx38=>(set? s6.2.1 s6.1 x38.1).bind λx39=>some (.inl ((w64 (s6.1+1)),x39,x38.2.c.Inputs,x38.2.full,x38.2.c.Gates,x38.2.line))else(get? p3 s5.1).bind λx40=>(get? x32 s6.1).bind λx41=>(Zd (D.builder.mk (D.Circuit.mk s6.2.2.1 s6.2.2.2.2.1) s6.2.2.2.2.2 s6.2.2.2.1) x40 (-1) x41).bind λx42=>(set? s6.2.1 s6.1 x42.1).bind λx43=>some (.inl ((w64 (s6.1+1)),x43,x42.2.c.Inputs,x42.2.full,x42.2.c.Gates,x42.2.line))else if((decide ((w64 (s6.1+x33))>=0))&&(decide ((w64 (s6.1+x33))<(len p2))))then(get? x32 (w64 (s6.1+x33))).bind λx44=>(get? p3 s5.1).bind λx45=>(get? x32 s6.1).bind λx46=>(Zd (D.builder.mk (D.Circuit.mk s6.2.2.1 s6.2.2.2.2.1) s6.2.2.2.2.2 s6.2.2.2.1) x45 x44 x46).bind λx47=>(set? s6.2.1 s6.1 x47.1).bind λx48=>some (.inl ((w64 (s6.1+1)),x48,x47.2.c.Inputs,x47.2.full,x47.2.c.Gates,x47.2.line))else(get? p3 s5.1).bind λx49=>(get? x32 s6.1).bind λx50=>(Zd (D.builder.mk (D.Circuit.mk s6.2.2.1 s6.2.2.2.2.1) s6.2.2.2.2.2 s6.2.2.2.1) x49 (-1) x50).bind λx51=>(set? s6.2.1 s6.1 x51.1).bind λx52=>some (.inl ((w64 (s6.1+1)),x52,x51.2.c.Inputs,x51.2.full,x51.2.c.Gates,x51.2.line))else some (.inr (s6.2.1,s6.2.2.1,s6.2.2.2.1,s6.2.2.2.2.1,s6.2.2.2.2.2))) n (0,s5.2.1,s5.2.2.1,s5.2.2.2.1,s5.2.2.2.2.1,s5.2.2.2.2.2)).bind λ(rl6:(List Int)×Int×Bool×(List D.Gate)×(List (D.Gate×Int)))=>some (.inl ((w64 (s5.1+1)),rl6.1,rl6.2.1,rl6.2.2.1,rl6.2.2.2.1,rl6.2.2.2.2))else some (.inr (s5.1,s5.2.1,s5.2.2.1,s5.2.2.2.1,s5.2.2.2.2.1,s5.2.2.2.2.2))) n (0,x30,p0.c.Inputs,p0.full,p0.c.Gates,p0.line)).bind λ(rl5:Int×(List Int)×Int×Bool×(List D.Gate)×(List (D.Gate×Int)))=>
  if (decide (rl5.1<(len p2)))then
   (iterN (λ(s7:Int×Int×Int×Bool×(List D.Gate)×(List (D.Gate×Int)))=>if(decide (s7.1<(len p2)))then(get? p3 s7.1).bind λx53=>(Z7 (D.builder.mk (D.Circuit.mk s7.2.2.1 s7.2.2.2.2.1) s7.2.2.2.2.2 s7.2.2.2.1) s7.2.1 x53).bind λx54=>some (.inl ((w64 (s7.1+1)),x54.1,x54.2.c.Inputs,x54.2.full,x54.2.c.Gates,x54.2.line))else some (.inr (s7.2.1,s7.2.2.1,s7.2.2.2.1,s7.2.2.2.2.1,s7.2.2.2.2.2))) n (rl5.1,(-1),rl5.2.2.1,rl5.2.2.2.1,rl5.2.2.2.2.1,rl5.2.2.2.2.2)).bind λ(rl7:Int×Int×Bool×(List D.Gate)×(List (D.Gate×Int)))=>
   (iterN (λ(s8:Int×(List Int)×Int×Bool×(List D.Gate)×(List (D.Gate×Int)))=>if(decide (s8.1<(len rl5.2.1)))then(get? s8.2.1 s8.1).bind λx55=>(Zd (D.builder.mk (D.Circuit.mk s8.2.2.1 s8.2.2.2.2.1) s8.2.2.2.2.2 s8.2.2.2.1) rl7.1 (-1) x55).bind λx56=>(set? s8.2.1 s8.1 x56.1).bind λx57=>some (.inl ((w64 (s8.1+1)),x57,x56.2.c.Inputs,x56.2.full,x56.2.c.Gates,x56.2.line))else some (.inr (s8.2.1,s8.2.2.1,s8.2.2.2.1,s8.2.2.2.2.1,s8.2.2.2.2.2))) n (0,rl5.2.1,rl7.2.1,rl7.2.2.1,rl7.2.2.2.1,rl7.2.2.2.2)).bind λ(rl8:(List Int)×Int×Bool×(List D.Gate)×(List (D.Gate×Int)))=>
   some (rl8.1,(D.builder.mk (D.Circuit.mk rl8.2.1 rl8.2.2.2.1) rl8.2.2.2.2 rl8.2.2.1))
  else
   some (rl5.2.1,(D.builder.mk (D.Circuit.mk rl5.2.2.1 rl5.2.2.2.2.1) rl5.2.2.2.2.2 rl5.2.2.2.1))
def YK(n:Nat)(p0:D.builder)(p1:List Int)(p2:List Int):Option (Int×D.builder):=
 (iterN (λ(s1:Int×Int×Int×Bool×(List D.Gate)×(List (D.Gate×Int)))=>if(decide (s1.2.1<(len p1)))then(get? p1 s1.2.1).bind λx1=>(get? p2 s1.2.1).bind λx2=>(Z9 (D.builder.mk (D.Circuit.mk s1.2.2.1 s1.2.2.2.2.1) s1.2.2.2.2.2 s1.2.2.2.1) x1 x2).bind λx3=>(Zo x3.2 s1.1 (w64 (0-x3.1))).bind λx4=>some (.inl (x4.1,(w64 (s1.2.1+1)),x4.2.c.Inputs,x4.2.full,x4.2.c.Gates,x4.2.line))else some (.inr (s1.1,s1.2.2.1,s1.2.2.2.1,s1.2.2.2.2.1,s1.2.2.2.2.2))) n (1,0,p0.c.Inputs,p0.full,p0.c.Gates,p0.line)).bind λ(rl1:Int×Int×Bool×(List D.Gate)×(List (D.Gate×Int)))=>
 some (rl1.1,(D.builder.mk (D.Circuit.mk rl1.2.1 rl1.2.2.2.1) rl1.2.2.2.2 rl1.2.2.1))
def Yy(n:Nat)(p0:D.builder)(p1:List Int)(p2:List Int):Option (Int×D.builder):=
 (YA n p2).bind λx1=>
 (Ya n p0 p1 x1 1).bind λx2=>
 some ((w64 (0-x2.2.1)),x2.2.2)
def YG(p0:List Int):Option (List Int):=
 (Ze p0).bind λx1=>
 (get? x1 (w64 ((len x1)-1))).bind λx2=>
 (set? x1 (w64 ((len x1)-1)) (w64 (0-x2))).bind λx3=>
 some x3
def ZK (n:Nat) (p0:D.builder)(p1:Int)(p2:List Int)(p3:List Int):Option ((List Int)×D.builder):=
 if(p1==3)then
  (Ya n p0 p2 p3 (-1)).bind λx1=>
  some (x1.1,x1.2.2)
 else
  if(p1==4)then
   (YA n p3).bind λx2=>
   (Ya n p0 p2 x2 1).bind λx3=>
   some (x3.1,x3.2.2)
  else
   if(p1==5)then
    (YJ n p0 p2 p3).bind λx4=>
    some (x4.1,x4.2)
   else
    if(p1==6)then
     (YF n p0 p2 p3).bind λx5=>
     some (x5.1,x5.2.2)
    else
     if(p1==7)then
      (YF n p0 p2 p3).bind λx6=>
      some (x6.2.1,x6.2.2)
     else
      if (p1 ==11)then
       if(p1==11)then
        (Y5 n p0 p1 p2 p3).bind λx7=>
        some (x7.1,x7.2)
       else
        if(p1==14)then
         (YK n p0 p2 p3).bind λx8=>
         some (([x8.1]:List Int),x8.2)
        else
         if(p1==15)then
          (Yy n p0 p2 p3).bind λx9=>
          some (([x9.1]:List Int),x9.2)
         else
          if(p1==16)then
           (YG p2).bind λx10=>
           (YG p3).bind λx11=>
           (Yy n p0 x10 x11).bind λx12=>
           some (([x12.1]:List Int),x12.2)
          else
           (mk? (len p2) (0:Int)).bind λx13=>
           (iterN (λ(s1:Int×(List Int)×Int×Bool×(List D.Gate)×(List (D.Gate×Int)))=>if (decide (s1.1<(len p2)))then if(p1==8)then(get? p2 s1.1).bind λx14=>(get? p3 s1.1).bind λx15=>(Zo (D.builder.mk (D.Circuit.mk s1.2.2.1 s1.2.2.2.2.1) s1.2.2.2.2.2 s1.2.2.2.1) x14 x15).bind λx16=>(set? s1.2.1 s1.1 x16.1).bind λx17=>some (.inl ((w64 (s1.1+1)),x17,x16.2.c.Inputs,x16.2.full,x16.2.c.Gates,x16.2.line))else if(p1==9)then(get? p2 s1.1).bind λx18=>(get? p3 s1.1).bind λx19=>(Z7 (D.builder.mk (D.Circuit.mk s1.2.2.1 s1.2.2.2.2.1) s1.2.2.2.2.2 s1.2.2.2.1) x18 x19).bind λx20=>(set? s1.2.1 s1.1 x20.1).bind λx21=>some (.inl ((w64 (s1.1+1)),x21,x20.2.c.Inputs,x20.2.full,x20.2.c.Gates,x20.2.line))else(get? p2 s1.1).bind λx22=>(get? p3 s1.1).bind λx23=>(Z9 (D.builder.mk (D.Circuit.mk s1.2.2.1 s1.2.2.2.2.1) s1.2.2.2.2.2 s1.2.2.2.1) x22 x23).bind λx24=>(set? s1.2.1 s1.1 x24.1).bind λx25=>some (.inl ((w64 (s1.1+1)),x25,x24.2.c.Inputs,x24.2.full,x24.2.c.Gates,x24.2.line))else some (.inr (s1.2.1,s1.2.2.1,s1.2.2.2.1,s1.2.2.2.2.1,s1.2.2.2.2.2))) n (0,x13,p0.c.Inputs,p0.full,p0.c.Gates,p0.line)).bind λ(rl1:(List Int)×Int×Bool×(List D.Gate)×(List (D.Gate×Int)))=>
           some (rl1.1,(D.builder.mk (D.Circuit.mk rl1.2.1 rl1.2.2.2.1) rl1.2.2.2.2 rl1.2.2.1))
      else
       if((p1==12)||(p1==13))then
        (Y5 n p0 p1 p2 p3).bind λx26=>
        some (x26.1,x26.2)
       else
        if(p1==14)then
         (YK n p0 p2 p3).bind λx27=>
         some (([x27.1]:List Int),x27.2)
        else
         if(p1==15)then
          (Yy n p0 p2 p3).bind λx28=>
          some (([x28.1]:List Int),x28.2)
         else
          if(p1==16)then
           (YG p2).bind λx29=>
           (YG p3).bind λx30=>
           (Yy n p0 x29 x30).bind λx31=>
           some (([x31.1]:List Int),x31.2)
          else
           (mk? (len p2) (0:Int)).bind λx32=>
           (iterN (λ(s2:Int×(List Int)×Int×Bool×(List D.Gate)×(List (D.Gate×Int)))=>if (decide (s2.1<(len p2)))then if(p1==8)then(get? p2 s2.1).bind λx33=>(get? p3 s2.1).bind λx34=>(Zo (D.builder.mk (D.Circuit.mk s2.2.2.1 s2.2.2.2.2.1) s2.2.2.2.2.2 s2.2.2.2.1) x33 x34).bind λx35=>(set? s2.2.1 s2.1 x35.1).bind λx36=>some (.inl ((w64 (s2.1+1)),x36,x35.2.c.Inputs,x35.2.full,x35.2.c.Gates,x35.2.line))else if(p1==9)then(get? p2 s2.1).bind λx37=>(get? p3 s2.1).bind λx38=>(Z7 (D.builder.mk (D.Circuit.mk s2.2.2.1 s2.2.2.2.2.1) s2.2.2.2.2.2 s2.2.2.2.1) x37 x38).bind λx39=>(set? s2.2.1 s2.1 x39.1).bind λx40=>some (.inl ((w64 (s2.1+1)),x40,x39.2.c.Inputs,x39.2.full,x39.2.c.Gates,x39.2.line))else(get? p2 s2.1).bind λx41=>(get? p3 s2.1).bind λx42=>(Z9 (D.builder.mk (D.Circuit.mk s2.2.2.1 s2.2.2.2.2.1) s2.2.2.2.2.2 s2.2.2.2.1) x41 x42).bind λx43=>(set? s2.2.1 s2.1 x43.1).bind λx44=>some (.inl ((w64 (s2.1+1)),x44,x43.2.c.Inputs,x43.2.full,x43.2.c.Gates,x43.2.line))else some (.inr (s2.2.1,s2.2.2.1,s2.2.2.2.1,s2.2.2.2.2.1,s2.2.2.2.2.2))) n (0,x32,p0.c.Inputs,p0.full,p0.c.Gates,p0.line)).bind λ(rl2:(List Int)×Int×Bool×(List D.Gate)×(List (D.Gate×Int)))=>
           some (rl2.1,(D.builder.mk (D.Circuit.mk rl2.2.1 rl2.2.2.2.1) rl2.2.2.2.2 rl2.2.2.1))
def ZX (n:Nat)(p0:D.builder)(p1:D.Term)(p2:Option (List (Str×List Int))):Option ((List Int)×D.builder):=
 match n with
 |0=>none
 |n+1=>
 if(p1.Op==0)then
  (Y1 n p1.W p1.N).bind λx1=>
  some (x1,p0)
 else
  if(p1.Op==22)then
   (mgeto? fitS ([]:List Int) p2 p1.Name).bind λx2=>
   (Ze x2).bind λx3=>
   some (x3,p0)
  else
   (mk? (len p1.Kids) (([]:List Int):List Int)).bind λx4=>
   (iterN (λ(s1:Int×Int×Bool×(List D.Gate)×(List (D.Gate×Int))×(List (List Int)))=>if(decide (s1.1<(len p1.Kids)))then(get? p1.Kids s1.1).bind λx5=>(ZX n (D.builder.mk (D.Circuit.mk s1.2.1 s1.2.2.2.1) s1.2.2.2.2.1 s1.2.2.1) x5 p2).bind λx6=>(set? s1.2.2.2.2.2 s1.1 x6.1).bind λx7=>some (.inl ((w64 (s1.1+1)),x6.2.c.Inputs,x6.2.full,x6.2.c.Gates,x6.2.line,x7))else some (.inr (s1.2.1,s1.2.2.1,s1.2.2.2.1,s1.2.2.2.2.1,s1.2.2.2.2.2))) n (0,p0.c.Inputs,p0.full,p0.c.Gates,p0.line,x4)).bind λ(rl1:Int×Bool×(List D.Gate)×(List (D.Gate×Int))×(List (List Int)))=>
   (get? rl1.2.2.2.2 0).bind λx8=>
   if(p1.Op==1)then
    (YA n x8).bind λx9=>
    some (x9,(D.builder.mk (D.Circuit.mk rl1.1 rl1.2.2.1) rl1.2.2.2.1 rl1.2.1))
   else
    if(p1.Op==2)then
     (Y1 n p1.W 0).bind λx10=>
     (ZK n (D.builder.mk (D.Circuit.mk rl1.1 rl1.2.2.1) rl1.2.2.2.1 rl1.2.1) 4 x10 x8).bind λx11=>
     some (x11.1,x11.2)
    else
     if (p1.Op==17)then
      (mk? p1.W (0:Int)).bind λx12=>
      (iterN (λ(s2:Int×(List Int)×Int×Bool×(List D.Gate)×(List (D.Gate×Int)))=>if(decide (s2.1<(len x12)))then(get? x8 0).bind λx13=>(get? rl1.2.2.2.2 1).bind λx14=>(get? x14 s2.1).bind λx15=>(get? rl1.2.2.2.2 2).bind λx16=>(get? x16 s2.1).bind λx17=>(Zd (D.builder.mk (D.Circuit.mk s2.2.2.1 s2.2.2.2.2.1) s2.2.2.2.2.2 s2.2.2.2.1) x13 x15 x17).bind λx18=>(set? s2.2.1 s2.1 x18.1).bind λx19=>some (.inl ((w64 (s2.1+1)),x19,x18.2.c.Inputs,x18.2.full,x18.2.c.Gates,x18.2.line))else some (.inr (s2.2.1,s2.2.2.1,s2.2.2.2.1,s2.2.2.2.2.1,s2.2.2.2.2.2))) n (0,x12,rl1.1,rl1.2.1,rl1.2.2.1,rl1.2.2.2.1)).bind λ(rl2:(List Int)×Int×Bool×(List D.Gate)×(List (D.Gate×Int)))=>
      some (rl2.1,(D.builder.mk (D.Circuit.mk rl2.2.1 rl2.2.2.2.1) rl2.2.2.2.2 rl2.2.2.1))
     else
      if(p1.Op==18)then
       (get? rl1.2.2.2.2 1).bind λx20=>
       (app? x20 x8).bind λx21=>
       some (x21,(D.builder.mk (D.Circuit.mk rl1.1 rl1.2.2.1) rl1.2.2.2.1 rl1.2.1))
      else
       if(p1.Op==19)then
        (cut? x8 p1.N (w64 (p1.N+p1.W))).bind λx22=>
        some (x22,(D.builder.mk (D.Circuit.mk rl1.1 rl1.2.2.1) rl1.2.2.2.1 rl1.2.1))
       else
        if ((p1.Op==20)||(p1.Op==21))then
         if (p1.Op==21)then
          (get? x8 (w64 ((len x8)-1))).bind λx23=>
          (iterN (λ(s3:(List Int))=>if(decide ((len s3)<p1.W))then(app? s3 ([x23]:List Int)).bind λx24=>some (.inl (x24))else some (.inr (s3))) n (x8)).bind λ(rl3:(List Int))=>
          some (rl3,(D.builder.mk (D.Circuit.mk rl1.1 rl1.2.2.1) rl1.2.2.2.1 rl1.2.1))
         else
          (iterN (λ(s4:(List Int))=>if(decide ((len s4)<p1.W))then(app? s4 ([(-1)]:List Int)).bind λx25=>some (.inl (x25))else some (.inr (s4))) n (x8)).bind λ(rl4:(List Int))=>
          some (rl4,(D.builder.mk (D.Circuit.mk rl1.1 rl1.2.2.1) rl1.2.2.2.1 rl1.2.1))
        else
         (get? rl1.2.2.2.2 1).bind λx26=>
         (ZK n (D.builder.mk (D.Circuit.mk rl1.1 rl1.2.2.1) rl1.2.2.2.1 rl1.2.1) p1.Op x8 x26).bind λx27=>
         some (x27.1,x27.2)
def XB(n:Nat)(p0:D.Term):Option (D.Circuit×(List Int)×Bool):=
 (Xk n p0).bind λx1=>
 (if(!x1)then some default else(Xv n p0)).bind λx2=>
 if((!x1)||x2)then
  some ((D.Circuit.mk 0 ([]:List D.Gate)),([]:List Int),false)
 else
  (WW n p0).bind λx3=>
  (iterN (λ(s1:Int×Int×(List (Str×List Int)))=>if (decide (s1.2.1<(len x3)))then(get? x3 s1.2.1).bind λx4=>(mk? x4.W (0:Int)).bind λx5=>(iterN (λ(s2:Int×Int×(List Int))=>if(decide (s2.2.1>=0))then(set? s2.2.2 s2.2.1 (w64 (2+s2.1))).bind λx6=>some (.inl ((w64 (s2.1+1)),(w64 (s2.2.1-1)),x6))else some (.inr (s2.1,s2.2.2))) n (s1.1,(w64 (x4.W-1)),x5)).bind λ(rl2:Int×(List Int))=>(mput? fitS s1.2.2 x4.Name rl2.2).bind λx7=>some (.inl (rl2.1,(w64 (s1.2.1+1)),x7))else some (.inr (s1.1,s1.2.2))) n (0,0,([]:List (Str×List Int)))).bind λ(rl1:Int×(List (Str×List Int)))=>
  if(decide (rl1.1>30))then
   some ((D.Circuit.mk 0 ([]:List D.Gate)),([]:List Int),false)
  else
   (XP n (D.Circuit.mk rl1.1 ([]:List D.Gate))).bind λx8=>
   (ZX n x8 p0 (some rl1.2)).bind λx9=>
   if x9.2.full then
    some ((D.Circuit.mk 0 ([]:List D.Gate)),([]:List Int),false)
   else
    (Ze x9.1).bind λx10=>
    some (x9.2.c,x10,true)
def ZR(p0:Int)(p1:Int):Option Bool:=
 some (((p0 !=0)&&(decide (p0>=(w64 (0-p1)))))&&(decide (p0<=p1)))
def Wi(n:Nat)(p0:D.Circuit):Option Bool:=
 if(((decide (p0.Inputs<0))||(decide (p0.Inputs>30)))||(decide ((len p0.Gates)>360)))then
  some false
 else
  (iterN (λ(s1:Int×(List (D.Gate×Bool)))=>if (decide (s1.1<(len p0.Gates)))then(get? p0.Gates s1.1).bind λx1=>(ZR x1.A (w64 ((w64 (1+p0.Inputs))+s1.1))).bind λx2=>(if(!x2)then some default else(ZR x1.B (w64 ((w64 (1+p0.Inputs))+s1.1)))).bind λx3=>(if((!x2)||(!x3))then some default else(mget? ZG (false:Bool) s1.2 x1)).bind λx4=>if(((!x2)||(!x3))||x4)then some (.inr (.inr false))else(Yx x1.A).bind λx5=>(if(decide (x5<2))then some default else(Yx x1.A)).bind λx6=>(if(decide (x5<2))then some default else(Yx x1.B)).bind λx7=>if((decide (x5<2))||(decide (x6>=x7)))then some (.inr (.inr false))else(mput? ZG s1.2 x1 true).bind λx8=>some (.inl ((w64 (s1.1+1)),x8))else some (.inr (.inl (s1.2)))) n (0,[])).bind λ(rl1:((List (D.Gate×Bool)))⊕Bool)=>
  match rl1 with
  |.inl s1r=>
   some true
  |.inr v=>some v
def Xu(n:Nat)(p0:List Int)(p1:Int):Option Bool:=
 (iterN (λ(s1:Int)=>if(decide (s1<(len p0)))then(get? p0 s1).bind λx1=>(ZR x1 p1).bind λx2=>if(!x2)then some (.inr (.inr false))else some (.inl ((w64 (s1+1))))else some (.inr (.inl ()))) n (0)).bind λ(rl1:(Unit)⊕Bool)=>
 match rl1 with
 |.inl s1r=>
  some true
 |.inr v=>some v
def VR(p0:Int):Option Int:=
 if (decide (p0>=4294967296))then
  (shrK? .u64 p0 32).bind λx1=>
  if(decide (x1>=65536))then
   (shrK? .u64 x1 16).bind λx2=>
   if(decide (x2>=256))then
    (shrK? .u64 x2 8).bind λx3=>
    (sidx? lstr0 (IntKind.u8.wrap x3)).bind λx4=>
    some (w64 ((w64 ((w64 (32+16))+8))+(w64 x4)))
   else
    (sidx? lstr0 (IntKind.u8.wrap x2)).bind λx5=>
    some (w64 ((w64 (32+16))+(w64 x5)))
  else
   if(decide (x1>=256))then
    (shrK? .u64 x1 8).bind λx6=>
    (sidx? lstr0 (IntKind.u8.wrap x6)).bind λx7=>
    some (w64 ((w64 (32+8))+(w64 x7)))
   else
    (sidx? lstr0 (IntKind.u8.wrap x1)).bind λx8=>
    some (w64 (32+(w64 x8)))
 else
  if(decide (p0>=65536))then
   (shrK? .u64 p0 16).bind λx9=>
   if(decide (x9>=256))then
    (shrK? .u64 x9 8).bind λx10=>
    (sidx? lstr0 (IntKind.u8.wrap x10)).bind λx11=>
    some (w64 ((w64 ((w64 (0+16))+8))+(w64 x11)))
   else
    (sidx? lstr0 (IntKind.u8.wrap x9)).bind λx12=>
    some (w64 ((w64 (0+16))+(w64 x12)))
  else
   if(decide (p0>=256))then
    (shrK? .u64 p0 8).bind λx13=>
    (sidx? lstr0 (IntKind.u8.wrap x13)).bind λx14=>
    some (w64 ((w64 (0+8))+(w64 x14)))
   else
    (sidx? lstr0 (IntKind.u8.wrap p0)).bind λx15=>
    some (w64 (0+(w64 x15)))
def WH(p0:Int):Option Int:=
 if false then
  none
 else
  (VR p0).bind λx1=>
  some x1
def XA(p0:Int):Option Bool:=
 some (p0 !=p0)
def Xl(p0:Int)(p1:Int):Option Int:=
 (XA p0).bind λx1=>
 (XA p1).bind λx2=>
 if x1 then
  if x2 then
   some 0
  else
   some (-1)
 else
  if x2 then
   some 1
  else
   if(decide (p0<p1))then
    some (-1)
   else
    if(decide (p0>p1))then
     some 1
    else
     some 0
def YC(p0:Int)(p1:Int):Option Int:=
 (Yx p0).bind λx1=>
 (Yx p1).bind λx2=>
 (Xl x1 x2).bind λx3=>
 if(x3 !=0)then
  some x3
 else
  (Xl p0 p1).bind λx4=>
  some x4
def Z8(n:Nat)(p0:List Int):Option (List Int):=
 if(decide ((len p0)<2))then
  some p0
 else
  (iterN (λ(s1:Int)=>if(decide (s1<(len p0)))then(get? p0 s1).bind λx1=>(get? p0 (w64 (s1-1))).bind λx2=>if(x1==x2)then none else some (.inl ((w64 (s1+1))))else some (.inr (.inl ()))) n (1)).bind λ(rl1:(Unit)⊕(List Int))=>
  match rl1 with
  |.inl s1r=>
   some p0
  |.inr v=>some v
def X3(n:Nat)(p0:List Int)(p1:Int):Option Bool:=
 (Xu n p0 p1).bind λx1=>
 if(!x1)then
  some false
 else
  (iterN (λ(s1:Int)=>if(decide (s1<(len p0)))then(get? p0 (w64 (s1-1))).bind λx2=>(Yx x2).bind λx3=>(get? p0 s1).bind λx4=>(Yx x4).bind λx5=>if(decide (x3>=x5))then some (.inr (.inr false))else some (.inl ((w64 (s1+1))))else some (.inr (.inl ()))) n (1)).bind λ(rl1:(Unit)⊕Bool)=>
  match rl1 with
  |.inl s1r=>
   some true
  |.inr v=>some v
def Zj(n:Nat)(p0:List Int)(p1:Int)(p2:Int):Option (List Int):=
 (iterN (λ(s1:Int×(List Int))=>if (decide (s1.1<p2))then(iterN (λ(s2:Int×(List Int))=>(if(decide (s2.1>p1))then(get? s2.2 s2.1)else some default).bind λx1=>(if(decide (s2.1>p1))then(get? s2.2 (w64 (s2.1-1)))else some default).bind λx2=>(if(decide (s2.1>p1))then(YC x1 x2)else some default).bind λx3=>if((decide (s2.1>p1))&&(decide (x3<0)))then(get? s2.2 (w64 (s2.1-1))).bind λx4=>(get? s2.2 s2.1).bind λx5=>(set? s2.2 s2.1 x4).bind λx6=>(set? x6 (w64 (s2.1-1)) x5).bind λx7=>some (.inl ((w64 (s2.1-1)),x7))else some (.inr (s2.2))) n (s1.1,s1.2)).bind λ(rl2:(List Int))=>some (.inl ((w64 (s1.1+1)),rl2))else some (.inr (s1.2))) n ((w64 (p1+1)),p0)).bind λ(rl1:(List Int))=>
 some rl1
def Zy(n:Nat)(p0:List Int)(p1:Int)(p2:Int)(p3:Int):Option (List Int):=
 (iterN (λ(s1:Int×Int×Int×Bool×Bool)=>if(decide ((w64 (s1.2.1-s1.1))<=12))then(Zj n p0 s1.1 s1.2.1).bind λx1=>some (.inr (.inr x1))else if(s1.2.2.1==0)then none else if(!s1.2.2.2.1)then none else none) n (p1,p2,p3,true,true)).bind λ(rl1:(Unit)⊕(List Int))=>
 match rl1 with
 |.inl s1r=>
  some p0
 |.inr v=>some v
def Zh(n:Nat)(p0:List Int):Option (List Int):=
 (WH (IntKind.u64.wrap (len p0))).bind λx1=>
 (Zy n p0 0 (len p0) x1).bind λx2=>
 some x2
def Yj(n:Nat)(p0:List Int):Option ((List Int)×Bool):=
 (Xu n p0 400).bind λx1=>
 if(!x1)then
  some (([]:List Int),false)
 else
  (Ze p0).bind λx2=>
  (Zh n x2).bind λx3=>
  (Z8 n x3).bind λx4=>
  (X3 n x4 400).bind λx5=>
  if(!x5)then
   some (([]:List Int),false)
  else
   some (x4,true)
def Wo(n:Nat)(p0:D.Circuit)(p1:Int):Option (D.Formula×Bool):=
 (Wi n p0).bind λx1=>
 (if(!x1)then some default else(Yr p0)).bind λx2=>
 (if(!x1)then some default else(ZR p1 x2)).bind λx3=>
 if((!x1)||(!x3))then
  some ((D.Formula.mk 0 ([]:List (List Int))),false)
 else
  (Yr p0).bind λx4=>
  (iterN (λ(s1:Int×(List (List Int)))=>if (decide (s1.1<(len p0.Gates)))then(get? p0.Gates s1.1).bind λx5=>(iterN (λ(s2:Int×(List (List Int)))=>if(decide (s2.1<(len ([([(w64 (0-(w64 ((w64 (2+p0.Inputs))+s1.1)))),x5.A]:List Int),([(w64 (0-(w64 ((w64 (2+p0.Inputs))+s1.1)))),x5.B]:List Int),([(w64 ((w64 (2+p0.Inputs))+s1.1)),(w64 (0-x5.A)),(w64 (0-x5.B))]:List Int)]:List (List Int)))))then(get? ([([(w64 (0-(w64 ((w64 (2+p0.Inputs))+s1.1)))),x5.A]:List Int),([(w64 (0-(w64 ((w64 (2+p0.Inputs))+s1.1)))),x5.B]:List Int),([(w64 ((w64 (2+p0.Inputs))+s1.1)),(w64 (0-x5.A)),(w64 (0-x5.B))]:List Int)]:List (List Int)) s2.1).bind λx6=>(Yj n x6).bind λx7=>(app? s2.2 ([x7.1]:List (List Int))).bind λx8=>some (.inl ((w64 (s2.1+1)),x8))else some (.inr (s2.2))) n (0,s1.2)).bind λ(rl2:(List (List Int)))=>some (.inl ((w64 (s1.1+1)),rl2))else some (.inr (s1.2))) n (0,([([1]:List Int)]:List (List Int)))).bind λ(rl1:(List (List Int)))=>
  (app? rl1 ([([p1]:List Int)]:List (List Int))).bind λx9=>
  some ((D.Formula.mk x4 x9),true)
def We(n:Nat)(p0:D.Formula):Option D.solver:=
 (mk? (w64 ((w64 (2*p0.Vars))+1)) (([]:List Int):List Int)).bind λx1=>
 (iterN (λ(s1:Int×(List (List Int)))=>if (decide (s1.1<(len p0.Clauses)))then(get? p0.Clauses s1.1).bind λx2=>(iterN (λ(s2:Int×(List (List Int)))=>if(decide (s2.1<(len x2)))then(get? x2 s2.1).bind λx3=>(get? s2.2 (w64 (x3+p0.Vars))).bind λx4=>(app? x4 ([s1.1]:List Int)).bind λx5=>(set? s2.2 (w64 (x3+p0.Vars)) x5).bind λx6=>some (.inl ((w64 (s2.1+1)),x6))else some (.inr (s2.2))) n (0,s1.2)).bind λ(rl2:(List (List Int)))=>some (.inl ((w64 (s1.1+1)),rl2))else some (.inr (s1.2))) n (0,x1)).bind λ(rl1:(List (List Int)))=>
 some (D.solver.mk p0 rl1)
def Z6(p0:D.assignment)(p1:Int):Option (Bool×D.assignment):=
 (get? p0.val (cond (decide (p1<0)) (w64 (0-p1)) p1)).bind λx1=>
 if(x1 !=0)then
  (get? p0.val (cond (decide (p1<0)) (w64 (0-p1)) p1)).bind λx2=>
  some ((x2==(cond (decide (p1<0)) (-1) 1)),p0)
 else
  (set? p0.val (cond (decide (p1<0)) (w64 (0-p1)) p1) (cond (decide (p1<0)) (-1) 1)).bind λx3=>
  (app? p0.queue ([p1]:List Int)).bind λx4=>
  some (true,(D.assignment.mk x3 x4))
def Zn(n:Nat)(p0:D.assignment)(p1:List Int):Option (Bool×D.assignment):=
 (iterN (λ(s1:Int×Int×Int)=>if (decide (s1.2.2<(len p1)))then(get? p1 s1.2.2).bind λx1=>(Yx x1).bind λx2=>(get? p0.val x2).bind λx3=>if(x3==0)then some (.inl ((w64 (s1.1+1)),x1,(w64 (s1.2.2+1))))else if((decide (x3>0))==(decide (x1>0)))then some (.inr (.inr (true,p0)))else some (.inl (s1.1,s1.2.1,(w64 (s1.2.2+1))))else some (.inr (.inl (s1.1,s1.2.1)))) n (0,0,0)).bind λ(rl1:(Int×Int)⊕(Bool×D.assignment))=>
 match rl1 with
 | .inl s1r=>
  if(s1r.1==0)then
   some (false,p0)
  else
   if(s1r.1==1)then
    (Z6 p0 s1r.2).bind λx4=>
    some (x4.1,x4.2)
   else
    some (true,p0)
 |.inr v=>some v
def ZM(n:Nat)(p0:D.solver)(p1:D.assignment):Option (Bool×D.assignment):=
 (iterN (λ(s1:(List Int)×(List Int))=>if (decide ((len s1.2)>0))then(get? s1.2 (w64 ((len s1.2)-1))).bind λx1=>(cut? s1.2 0 (w64 ((len s1.2)-1))).bind λx2=>(get? p0.occ (w64 (p0.f.Vars-x1))).bind λx3=>(iterN (λ(s2:Int×(List Int)×(List Int))=>if(decide (s2.1<(len x3)))then(get? x3 s2.1).bind λx4=>(get? p0.f.Clauses x4).bind λx5=>(Zn n (D.assignment.mk s2.2.1 s2.2.2) x5).bind λx6=>if(!x6.1)then some (.inr (.inr (false,x6.2)))else some (.inl ((w64 (s2.1+1)),x6.2.val,x6.2.queue))else some (.inr (.inl (s2.2.1,s2.2.2)))) n (0,s1.1,x2)).bind λ(rl2:((List Int)×(List Int))⊕(Bool×D.assignment))=>match rl2 with|.inl s2r=>some (.inl (s2r.1,s2r.2))|.inr v=>some (.inr (.inr v))else some (.inr (.inl (s1.1,s1.2)))) n (p1.val,p1.queue)).bind λ(rl1:((List Int)×(List Int))⊕(Bool×D.assignment))=>
 match rl1 with
 |.inl s1r=>
  some (true,(D.assignment.mk s1r.1 s1r.2))
 |.inr v=>some v
def Xw(n:Nat)(p0:D.solver)(p1:List Int):Option (D.assignment×Bool):=
 (mk? (w64 (p0.f.Vars+1)) (0:Int)).bind λx1=>
 (iterN (λ(s1:Int×(List Int)×(List Int))=>if(decide (s1.1<(len p1)))then(get? p1 s1.1).bind λx2=>(Z6 (D.assignment.mk s1.2.1 s1.2.2) x2).bind λx3=>if(!x3.1)then some (.inr (.inr (default,false)))else some (.inl ((w64 (s1.1+1)),x3.2.val,x3.2.queue))else some (.inr (.inl (s1.2.1,s1.2.2)))) n (0,x1,([]:List Int))).bind λ(rl1:((List Int)×(List Int))⊕(D.assignment×Bool))=>
 match rl1 with
 | .inl s1r=>
  (iterN (λ(s2:Int×(List Int)×(List Int))=>if(decide (s2.1<(len p0.f.Clauses)))then(get? p0.f.Clauses s2.1).bind λx4=>(Zn n (D.assignment.mk s2.2.1 s2.2.2) x4).bind λx5=>if(!x5.1)then some (.inr (.inr (default,false)))else some (.inl ((w64 (s2.1+1)),x5.2.val,x5.2.queue))else some (.inr (.inl (s2.2.1,s2.2.2)))) n (0,s1r.1,s1r.2)).bind λ(rl2:((List Int)×(List Int))⊕(D.assignment×Bool))=>
  match rl2 with
  | .inl s2r=>
   (ZM n p0 (D.assignment.mk s2r.1 s2r.2)).bind λx6=>
   if(!x6.1)then
    some (default,false)
   else
    some (x6.2,true)
  |.inr v=>some v
 |.inr v=>some v
def Yg(n:Nat)(p0:D.assignment):Option Int:=
 (iterN (λ(s1:Int)=>if(decide (s1<(len p0.val)))then(get? p0.val s1).bind λx1=>if(x1==0)then some (.inr (.inr s1))else some (.inl ((w64 (s1+1))))else some (.inr (.inl ()))) n (1)).bind λ(rl1:(Unit)⊕Int)=>
 match rl1 with
 |.inl s1r=>
  some 0
 |.inr v=>some v
def Z5(n:Nat)(p0:D.solver)(p1:D.assignment)(p2:Int):Option (D.assignment×Bool):=
 (Ze p1.val).bind λx1=>
 (Z6 (D.assignment.mk x1 ([]:List Int)) p2).bind λx2=>
 if(!x2.1)then
  if true then
   some (default,false)
  else
   some (x2.2,true)
 else
  (ZM n p0 x2.2).bind λx3=>
  if(!x3.1)then
   some (default,false)
  else
   some (x3.2,true)
def Yd (n:Nat)(p0:D.searcher)(p1:D.assignment):Option (Int×D.searcher):=
 match n with
 |0=>none
 |n+1=>
 (Yg n p1).bind λx1=>
 if (x1==0)then
  (mk? p0.s.f.Vars (false:Bool)).bind λx2=>
  (iterN (λ(s1:Int×(List Bool))=>if(decide (s1.1<(len x2)))then(get? p1.val (w64 (s1.1+1))).bind λx3=>(set? s1.2 s1.1 (decide (x3>0))).bind λx4=>some (.inl ((w64 (s1.1+1)),x4))else some (.inr (s1.2))) n (0,x2)).bind λ(rl1:(List Bool))=>
  some (1,(D.searcher.mk p0.s p0.limit p0.splits rl1))
 else
  if(p0.splits==p0.limit)then
   some (3,p0)
  else
   (iterN (λ(s2:Int×Int×Int×(List Bool))=>if (decide (s2.1<2))then(get? ([(w64 (0-x1)),x1]:List Int) s2.1).bind λx5=>(Z5 n p0.s p1 x5).bind λx6=>if(!x6.2)then some (.inl ((w64 (s2.1+1)),s2.2.1,s2.2.2.1,s2.2.2.2))else(Yd n (D.searcher.mk p0.s s2.2.1 s2.2.2.1 s2.2.2.2) x6.1).bind λx7=>if(x7.1 !=2)then some (.inr (.inr (x7.1,(D.searcher.mk p0.s x7.2.limit x7.2.splits x7.2.model))))else some (.inl ((w64 (s2.1+1)),x7.2.limit,x7.2.splits,x7.2.model))else some (.inr (.inl (s2.2.1,s2.2.2.1,s2.2.2.2)))) n (0,p0.limit,(w64 (p0.splits+1)),p0.model)).bind λ(rl2:(Int×Int×(List Bool))⊕(Int×D.searcher))=>
   match rl2 with
   |.inl s2r=>
    some (2,(D.searcher.mk p0.s s2r.1 s2r.2.1 s2r.2.2))
   |.inr v=>some v
def Yi(n:Nat)(p0:D.solver)(p1:List Int)(p2:Int):Option (Int×(List Bool)×Int):=
 (Xw n p0 p1).bind λx1=>
 if(!x1.2)then
  some (2,([]:List Bool),0)
 else
  (Yd n (D.searcher.mk p0 p2 0 ([]:List Bool)) x1.1).bind λx2=>
  some (x2.1,x2.2.model,x2.2.splits)
def Vr(p0:List Int)(p1:Int):Option (List Int):=
 (Ze p0).bind λx1=>
 (app? x1 ([p1]:List Int)).bind λx2=>
 some x2
def XW(p0:Bool):Option Int:=
 if p0 then
  some 1
 else
  some 0
def Yv(n:Nat)(p0:D.solver)(p1:Int)(p2:List Int)(p3:Int)(p4:Int):Option (Int×Bool):=
 (iterN (λ(s1:Int×Int×(List Int))=>if(decide (s1.2.1>=0))then(get? p2 s1.2.1).bind λx1=>(Vr s1.2.2 (w64 (p3*x1))).bind λx2=>(Yi n p0 x2 p4).bind λx3=>if(x3.1==3)then some (.inr (.inr (0,false)))else(get? p2 s1.2.1).bind λx4=>(app? s1.2.2 ([(cond (x3.1==2) (w64 (0-(w64 (p3*x4)))) (w64 (p3*x4)))]:List Int)).bind λx5=>(get? p2 s1.2.1).bind λx6=>(XW ((cond (x3.1==2) (w64 (0-(w64 (p3*x4)))) (w64 (p3*x4)))==x6)).bind λx7=>some (.inl ((w64 ((w64 (2*s1.1))+x7)),(w64 (s1.2.1-1)),x5))else some (.inr (.inl (s1.1,s1.2.2)))) n (0,(w64 ((len p2)-1)),([p1]:List Int))).bind λ(rl1:(Int×(List Int))⊕(Int×Bool))=>
 match rl1 with
 |.inl s1r=>
  some (s1r.1,true)
 |.inr v=>some v
def Vb (n:Nat)(p0:D.Term)(p1:D.Term)(p2:Int):Option (Int×Int×Bool):=
 (Xk n p0).bind λx1=>
 (if(!x1)then some default else(Xk n p1)).bind λx2=>
 (if(((!x1)||(!x2))||(p0.W !=1))then some default else(WX p2)).bind λx3=>
 if((((!x1)||(!x2))||(p0.W !=1))||(!x3))then
  some (0,0,false)
 else
  (Xk n (D.Term.mk 18 (w64 (1+p1.W)) 0 ⟨[]⟩ ([p0,p1]:List D.Term))).bind λx4=>
  if(!x4)then
   some (0,0,false)
  else
   (XB n (D.Term.mk 18 (w64 (1+p1.W)) 0 ⟨[]⟩ ([p0,p1]:List D.Term))).bind λx5=>
   if(!x5.2.2)then
    some (0,0,false)
   else
    (Wo n x5.1 1).bind λx6=>
    if(!x6.2)then
     some (0,0,false)
    else
     (We n x6.1).bind λx7=>
     (get? x5.2.1 p1.W).bind λx8=>
     (cut? x5.2.1 0 p1.W).bind λx9=>
     (Yi n x7 ([x8]:List Int) p2).bind λx10=>
     if(x10.1 !=1)then
      some (0,0,false)
     else
      (Yv n x7 x8 x9 (-1) p2).bind λx11=>
      if(!x11.2)then
       some (0,0,false)
      else
       (Yv n x7 x8 x9 1 p2).bind λx12=>
       if(!x12.2)then
        some (0,0,false)
       else
        some (x11.1,x12.1,true)
def Vz(p0:D.Circuit):Option D.l04Net:=
 (app? ([]:List D.Gate) p0.Gates).bind λx1=>
 some (D.l04Net.mk (D.Circuit.mk p0.Inputs x1) false)
def XM(n:Nat)(p0:Int)(p1:Int):Option (List Int):=
 (iterN (λ(s1:Int×(List Int))=>if(decide (s1.1<p0))then(shr? p1 s1.1).bind λx1=>if((band x1 1)==1)then(app? s1.2 ([1]:List Int)).bind λx2=>some (.inl ((w64 (s1.1+1)),x2))else(app? s1.2 ([(-1)]:List Int)).bind λx3=>some (.inl ((w64 (s1.1+1)),x3))else some (.inr (s1.2))) n (0,([]:List Int))).bind λ(rl1:(List Int))=>
 some rl1
def X0(n:Nat)(p0:List Int):Option (List Int):=
 (iterN (λ(s1:Int×(List Int))=>if(decide (s1.1<(len p0)))then(get? p0 s1.1).bind λx1=>(app? s1.2 ([(w64 (0-x1))]:List Int)).bind λx2=>some (.inl ((w64 (s1.1+1)),x2))else some (.inr (s1.2))) n (0,([]:List Int))).bind λ(rl1:(List Int))=>
 some rl1
def Zq(p0:Int):Option Int:=
 if(decide (p0<0))then
  some (w64 (0-p0))
 else
  some p0
def Zk (n:Nat)(p0:D.l04Net)(p1:Int)(p2:Int):Option (Int×D.l04Net):=
 if(((p1==(-1))||(p2==(-1)))||(p1==(w64 (0-p2))))then
  some ((-1),p0)
 else
  if(p1==1)then
   some (p2,p0)
  else
   if((p2==1)||(p1==p2))then
    some (p1,p0)
   else
    (Zq p1).bind λx1=>
    (Zq p2).bind λx2=>
    (iterN (λ(s1:Int)=>if(decide (s1<(len p0.c.Gates)))then(get? p0.c.Gates s1).bind λx3=>if(decide ((D.Gate.mk (cond (decide (x1>x2)) p2 p1) (cond (decide (x1>x2)) p1 p2))=x3))then some (.inr (.inr ((w64 ((w64 (p0.c.Inputs+2))+s1)),p0)))else some (.inl ((w64 (s1+1))))else some (.inr (.inl ()))) n (0)).bind λ(rl1:(Unit)⊕(Int×D.l04Net))=>
    match rl1 with
    | .inl s1r=>
     if(decide ((len p0.c.Gates)>=360))then
      some ((-1),(D.l04Net.mk p0.c true))
     else
      (app? p0.c.Gates ([(D.Gate.mk (cond (decide (x1>x2)) p2 p1) (cond (decide (x1>x2)) p1 p2))]:List D.Gate)).bind λx4=>
      some ((w64 ((w64 (p0.c.Inputs+1))+(len x4))),(D.l04Net.mk (D.Circuit.mk p0.c.Inputs x4) p0.full))
    |.inr v=>some v
def Zu(n:Nat)(p0:D.l04Net)(p1:Int)(p2:Int):Option (Int×D.l04Net):=
 (Zk n p0 (w64 (0-p1)) (w64 (0-p2))).bind λx1=>
 some ((w64 (0-x1.1)),x1.2)
def Zl(n:Nat)(p0:D.l04Net)(p1:Int)(p2:Int)(p3:Int):Option (Int×D.l04Net):=
 (Zk n p0 p1 p2).bind λx1=>
 (Zk n x1.2 (w64 (0-p1)) p3).bind λx2=>
 (Zu n x2.2 x1.1 x2.1).bind λx3=>
 some (x3.1,x3.2)
def Yh(n:Nat)(p0:Int)(p1:Int):Option (List Int):=
 (iterN (λ(s1:Int×(List Int))=>if(decide (s1.1<p0))then(app? s1.2 ([p1]:List Int)).bind λx1=>some (.inl ((w64 (s1.1+1)),x1))else some (.inr (s1.2))) n (0,([]:List Int))).bind λ(rl1:(List Int))=>
 some rl1
def Zr(n:Nat)(p0:D.l04Net)(p1:Int)(p2:Int):Option (Int×D.l04Net):=
 (Zk n p0 p1 (w64 (0-p2))).bind λx1=>
 (Zk n x1.2 (w64 (0-p1)) p2).bind λx2=>
 (Zu n x2.2 x1.1 x2.1).bind λx3=>
 some (x3.1,x3.2)
def ZN(n:Nat)(p0:D.l04Net)(p1:List Int)(p2:List Int)(p3:Int):Option ((List Int)×Int×D.l04Net):=
 (iterN (λ(s1:Int×Int×(List Int)×Int×Bool×(List D.Gate))=>if(decide (s1.2.1<(len p1)))then(get? p1 s1.2.1).bind λx1=>(get? p2 s1.2.1).bind λx2=>(Zr n (D.l04Net.mk (D.Circuit.mk s1.2.2.2.1 s1.2.2.2.2.2) s1.2.2.2.2.1) x1 x2).bind λx3=>(Zr n x3.2 x3.1 s1.1).bind λx4=>(app? s1.2.2.1 ([x4.1]:List Int)).bind λx5=>(get? p1 s1.2.1).bind λx6=>(get? p2 s1.2.1).bind λx7=>(Zk n x4.2 x6 x7).bind λx8=>(Zk n x8.2 x3.1 s1.1).bind λx9=>(Zu n x9.2 x8.1 x9.1).bind λx10=>some (.inl (x10.1,(w64 (s1.2.1+1)),x5,x10.2.c.Inputs,x10.2.full,x10.2.c.Gates))else some (.inr (s1.1,s1.2.2.1,s1.2.2.2.1,s1.2.2.2.2.1,s1.2.2.2.2.2))) n (p3,0,([]:List Int),p0.c.Inputs,p0.full,p0.c.Gates)).bind λ(rl1:Int×(List Int)×Int×Bool×(List D.Gate))=>
 some (rl1.2.1,rl1.1,(D.l04Net.mk (D.Circuit.mk rl1.2.2.1 rl1.2.2.2.2) rl1.2.2.2.1))
def Xq(n:Nat)(p0:D.l04Net)(p1:List Int)(p2:List Int):Option ((List Int)×D.l04Net):=
 (Yh n (len p1) (-1)).bind λx1=>
 (iterN (λ(s1:Int×(List Int)×Int×Bool×(List D.Gate))=>if (decide (s1.1<(len p1)))then(iterN (λ(s2:Int×(List Int)×Int×Bool×(List D.Gate))=>if(decide (s2.1<(w64 ((len p1)-s1.1))))then(get? p2 s1.1).bind λx2=>(get? p1 s2.1).bind λx3=>(Zk n (D.l04Net.mk (D.Circuit.mk s2.2.2.1 s2.2.2.2.2) s2.2.2.2.1) x2 x3).bind λx4=>(app? s2.2.1 ([x4.1]:List Int)).bind λx5=>some (.inl ((w64 (s2.1+1)),x5,x4.2.c.Inputs,x4.2.full,x4.2.c.Gates))else some (.inr (s2.2.1,s2.2.2.1,s2.2.2.2.1,s2.2.2.2.2))) n (0,([]:List Int),s1.2.2.1,s1.2.2.2.1,s1.2.2.2.2)).bind λ(rl2:(List Int)×Int×Bool×(List D.Gate))=>(cut? s1.2.1 s1.1 (len s1.2.1)).bind λx6=>(ZN n (D.l04Net.mk (D.Circuit.mk rl2.2.1 rl2.2.2.2) rl2.2.2.1) x6 rl2.1 (-1)).bind λx7=>(cut? s1.2.1 0 s1.1).bind λx8=>(app? ([]:List Int) x8).bind λx9=>(app? x9 x7.1).bind λx10=>some (.inl ((w64 (s1.1+1)),x10,x7.2.2.c.Inputs,x7.2.2.full,x7.2.2.c.Gates))else some (.inr (s1.2.1,s1.2.2.1,s1.2.2.2.1,s1.2.2.2.2))) n (0,x1,p0.c.Inputs,p0.full,p0.c.Gates)).bind λ(rl1:(List Int)×Int×Bool×(List D.Gate))=>
 some (rl1.1,(D.l04Net.mk (D.Circuit.mk rl1.2.1 rl1.2.2.2) rl1.2.2.1))
def YM(n:Nat)(p0:D.l04Net)(p1:List Int)(p2:List Int):Option ((List Int)×(List Int)×D.l04Net):=
 (Yh n (len p1) (-1)).bind λx1=>
 (Yh n (len p1) (-1)).bind λx2=>
 (X0 n p2).bind λx3=>
 (app? x3 ([1]:List Int)).bind λx4=>
 (iterN (λ(s1:Int×(List Int)×(List Int)×Int×Bool×(List D.Gate))=>if (decide (s1.1>=0))then(get? p1 s1.1).bind λx5=>(app? ([x5]:List Int) s1.2.2.1).bind λx6=>(ZN n (D.l04Net.mk (D.Circuit.mk s1.2.2.2.1 s1.2.2.2.2.2) s1.2.2.2.2.1) x6 x4 1).bind λx7=>(set? s1.2.1 s1.1 x7.2.1).bind λx8=>(iterN (λ(s2:Int×(List Int)×Int×Bool×(List D.Gate))=>if(decide (s2.1<(len p1)))then(get? x7.1 s2.1).bind λx9=>(get? x6 s2.1).bind λx10=>(Zl n (D.l04Net.mk (D.Circuit.mk s2.2.2.1 s2.2.2.2.2) s2.2.2.2.1) x7.2.1 x9 x10).bind λx11=>(app? s2.2.1 ([x11.1]:List Int)).bind λx12=>some (.inl ((w64 (s2.1+1)),x12,x11.2.c.Inputs,x11.2.full,x11.2.c.Gates))else some (.inr (s2.2.1,s2.2.2.1,s2.2.2.2.1,s2.2.2.2.2))) n (0,([]:List Int),x7.2.2.c.Inputs,x7.2.2.full,x7.2.2.c.Gates)).bind λ(rl2:(List Int)×Int×Bool×(List D.Gate))=>some (.inl ((w64 (s1.1-1)),x8,rl2.1,rl2.2.1,rl2.2.2.1,rl2.2.2.2))else some (.inr (s1.2.1,s1.2.2.1,s1.2.2.2.1,s1.2.2.2.2.1,s1.2.2.2.2.2))) n ((w64 ((len p1)-1)),x1,x2,p0.c.Inputs,p0.full,p0.c.Gates)).bind λ(rl1:(List Int)×(List Int)×Int×Bool×(List D.Gate))=>
 some (rl1.1,rl1.2.1,(D.l04Net.mk (D.Circuit.mk rl1.2.2.1 rl1.2.2.2.2) rl1.2.2.2.1))
def ZT (n:Nat)(p0:D.l04Net)(p1:Int)(p2:List Int)(p3:List Int):Option ((List Int)×D.l04Net):=
 if (p1 ==13)then
  (get? p2 (w64 ((len p2)-1))).bind λx1=>
  (iterN (λ(s1:Int×Bool×(List Int)×Int×Int×Bool×(List D.Gate))=>if (decide (s1.2.2.2.1<(len p2)))then(shl? 1 s1.2.2.2.1).bind λx2=>if(decide (x2>=(len p2)))then(get? p3 s1.2.2.2.1).bind λx3=>(Zu n (D.l04Net.mk (D.Circuit.mk s1.2.2.2.2.1 s1.2.2.2.2.2.2) s1.2.2.2.2.2.1) s1.1 x3).bind λx4=>some (.inl (x4.1,true,s1.2.2.1,(w64 (s1.2.2.2.1+1)),x4.2.c.Inputs,x4.2.full,x4.2.c.Gates))else(iterN (λ(s2:Int×(List Int)×Int×Bool×(List D.Gate))=>if(decide (s2.1<(len p2)))then(Zf (cond (p1==11) (w64 (s2.1-x2)) (w64 (s2.1+x2))) 0 (w64 ((len p2)-1))).bind λx5=>if x5 then(get? s1.2.2.1 (cond (p1==11) (w64 (s2.1-x2)) (w64 (s2.1+x2)))).bind λx6=>(get? p3 s1.2.2.2.1).bind λx7=>(get? s1.2.2.1 s2.1).bind λx8=>(Zl n (D.l04Net.mk (D.Circuit.mk s2.2.2.1 s2.2.2.2.2) s2.2.2.2.1) x7 x6 x8).bind λx9=>(app? s2.2.1 ([x9.1]:List Int)).bind λx10=>some (.inl ((w64 (s2.1+1)),x10,x9.2.c.Inputs,x9.2.full,x9.2.c.Gates))else(get? p3 s1.2.2.2.1).bind λx11=>(get? s1.2.2.1 s2.1).bind λx12=>(Zl n (D.l04Net.mk (D.Circuit.mk s2.2.2.1 s2.2.2.2.2) s2.2.2.2.1) x11 x1 x12).bind λx13=>(app? s2.2.1 ([x13.1]:List Int)).bind λx14=>some (.inl ((w64 (s2.1+1)),x14,x13.2.c.Inputs,x13.2.full,x13.2.c.Gates))else some (.inr (s2.2.1,s2.2.2.1,s2.2.2.2.1,s2.2.2.2.2))) n (0,([]:List Int),s1.2.2.2.2.1,s1.2.2.2.2.2.1,s1.2.2.2.2.2.2)).bind λ(rl2:(List Int)×Int×Bool×(List D.Gate))=>some (.inl (s1.1,s1.2.1,rl2.1,(w64 (s1.2.2.2.1+1)),rl2.2.1,rl2.2.2.1,rl2.2.2.2))else some (.inr (s1.1,s1.2.1,s1.2.2.1,s1.2.2.2.2.1,s1.2.2.2.2.2.1,s1.2.2.2.2.2.2))) n ((-1),false,p2,0,p0.c.Inputs,p0.full,p0.c.Gates)).bind λ(rl1:Int×Bool×(List Int)×Int×Bool×(List D.Gate))=>
  if(!rl1.2.1)then
   some (rl1.2.2.1,(D.l04Net.mk (D.Circuit.mk rl1.2.2.2.1 rl1.2.2.2.2.2) rl1.2.2.2.2.1))
  else
   (iterN (λ(s3:Int×(List Int)×Int×Bool×(List D.Gate))=>if(decide (s3.1<(len p2)))then(get? rl1.2.2.1 s3.1).bind λx15=>(Zl n (D.l04Net.mk (D.Circuit.mk s3.2.2.1 s3.2.2.2.2) s3.2.2.2.1) rl1.1 x1 x15).bind λx16=>(app? s3.2.1 ([x16.1]:List Int)).bind λx17=>some (.inl ((w64 (s3.1+1)),x17,x16.2.c.Inputs,x16.2.full,x16.2.c.Gates))else some (.inr (s3.2.1,s3.2.2.1,s3.2.2.2.1,s3.2.2.2.2))) n (0,([]:List Int),rl1.2.2.2.1,rl1.2.2.2.2.1,rl1.2.2.2.2.2)).bind λ(rl3:(List Int)×Int×Bool×(List D.Gate))=>
   some (rl3.1,(D.l04Net.mk (D.Circuit.mk rl3.2.1 rl3.2.2.2) rl3.2.2.1))
 else
  (iterN (λ(s4:Int×Bool×(List Int)×Int×Int×Bool×(List D.Gate))=>if (decide (s4.2.2.2.1<(len p2)))then(shl? 1 s4.2.2.2.1).bind λx18=>if(decide (x18>=(len p2)))then(get? p3 s4.2.2.2.1).bind λx19=>(Zu n (D.l04Net.mk (D.Circuit.mk s4.2.2.2.2.1 s4.2.2.2.2.2.2) s4.2.2.2.2.2.1) s4.1 x19).bind λx20=>some (.inl (x20.1,true,s4.2.2.1,(w64 (s4.2.2.2.1+1)),x20.2.c.Inputs,x20.2.full,x20.2.c.Gates))else(iterN (λ(s5:Int×(List Int)×Int×Bool×(List D.Gate))=>if(decide (s5.1<(len p2)))then(Zf (cond (p1==11) (w64 (s5.1-x18)) (w64 (s5.1+x18))) 0 (w64 ((len p2)-1))).bind λx21=>if x21 then(get? s4.2.2.1 (cond (p1==11) (w64 (s5.1-x18)) (w64 (s5.1+x18)))).bind λx22=>(get? p3 s4.2.2.2.1).bind λx23=>(get? s4.2.2.1 s5.1).bind λx24=>(Zl n (D.l04Net.mk (D.Circuit.mk s5.2.2.1 s5.2.2.2.2) s5.2.2.2.1) x23 x22 x24).bind λx25=>(app? s5.2.1 ([x25.1]:List Int)).bind λx26=>some (.inl ((w64 (s5.1+1)),x26,x25.2.c.Inputs,x25.2.full,x25.2.c.Gates))else(get? p3 s4.2.2.2.1).bind λx27=>(get? s4.2.2.1 s5.1).bind λx28=>(Zl n (D.l04Net.mk (D.Circuit.mk s5.2.2.1 s5.2.2.2.2) s5.2.2.2.1) x27 (-1) x28).bind λx29=>(app? s5.2.1 ([x29.1]:List Int)).bind λx30=>some (.inl ((w64 (s5.1+1)),x30,x29.2.c.Inputs,x29.2.full,x29.2.c.Gates))else some (.inr (s5.2.1,s5.2.2.1,s5.2.2.2.1,s5.2.2.2.2))) n (0,([]:List Int),s4.2.2.2.2.1,s4.2.2.2.2.2.1,s4.2.2.2.2.2.2)).bind λ(rl5:(List Int)×Int×Bool×(List D.Gate))=>some (.inl (s4.1,s4.2.1,rl5.1,(w64 (s4.2.2.2.1+1)),rl5.2.1,rl5.2.2.1,rl5.2.2.2))else some (.inr (s4.1,s4.2.1,s4.2.2.1,s4.2.2.2.2.1,s4.2.2.2.2.2.1,s4.2.2.2.2.2.2))) n ((-1),false,p2,0,p0.c.Inputs,p0.full,p0.c.Gates)).bind λ(rl4:Int×Bool×(List Int)×Int×Bool×(List D.Gate))=>
  if(!rl4.2.1)then
   some (rl4.2.2.1,(D.l04Net.mk (D.Circuit.mk rl4.2.2.2.1 rl4.2.2.2.2.2) rl4.2.2.2.2.1))
  else
   (iterN (λ(s6:Int×(List Int)×Int×Bool×(List D.Gate))=>if(decide (s6.1<(len p2)))then(get? rl4.2.2.1 s6.1).bind λx31=>(Zl n (D.l04Net.mk (D.Circuit.mk s6.2.2.1 s6.2.2.2.2) s6.2.2.2.1) rl4.1 (-1) x31).bind λx32=>(app? s6.2.1 ([x32.1]:List Int)).bind λx33=>some (.inl ((w64 (s6.1+1)),x33,x32.2.c.Inputs,x32.2.full,x32.2.c.Gates))else some (.inr (s6.2.1,s6.2.2.1,s6.2.2.2.1,s6.2.2.2.2))) n (0,([]:List Int),rl4.2.2.2.1,rl4.2.2.2.2.1,rl4.2.2.2.2.2)).bind λ(rl6:(List Int)×Int×Bool×(List D.Gate))=>
   some (rl6.1,(D.l04Net.mk (D.Circuit.mk rl6.2.1 rl6.2.2.2) rl6.2.2.1))
def ZB(n:Nat)(p0:D.l04Net)(p1:List Int)(p2:List Int):Option (Int×D.l04Net):=
 (X0 n p2).bind λx1=>
 (ZN n p0 p1 x1 1).bind λx2=>
 some ((w64 (0-x2.2.1)),x2.2.2)
def Y2(p0:List Int):Option (List Int):=
 (app? ([]:List Int) p0).bind λx1=>
 (get? x1 (w64 ((len x1)-1))).bind λx2=>
 (set? x1 (w64 ((len x1)-1)) (w64 (0-x2))).bind λx3=>
 some x3
def Yb (n:Nat)(p0:D.l04Net)(p1:Int)(p2:List Int)(p3:List Int):Option ((List Int)×D.l04Net):=
 if(p1==3)then
  (ZN n p0 p2 p3 (-1)).bind λx1=>
  some (x1.1,x1.2.2)
 else
  if(p1==4)then
   (X0 n p3).bind λx2=>
   (ZN n p0 p2 x2 1).bind λx3=>
   some (x3.1,x3.2.2)
  else
   if(p1==5)then
    (Xq n p0 p2 p3).bind λx4=>
    some (x4.1,x4.2)
   else
    if(p1==6)then
     (YM n p0 p2 p3).bind λx5=>
     some (x5.1,x5.2.2)
    else
     if(p1==7)then
      (YM n p0 p2 p3).bind λx6=>
      some (x6.2.1,x6.2.2)
     else
      if (p1 ==8)then
       if (p1==8)then
        (iterN (λ(s1:Int×(List Int)×Int×Bool×(List D.Gate))=>if (decide (s1.1<(len p2)))then if(p1==8)then(get? p2 s1.1).bind λx7=>(get? p3 s1.1).bind λx8=>(Zk n (D.l04Net.mk (D.Circuit.mk s1.2.2.1 s1.2.2.2.2) s1.2.2.2.1) x7 x8).bind λx9=>(app? s1.2.1 ([x9.1]:List Int)).bind λx10=>some (.inl ((w64 (s1.1+1)),x10,x9.2.c.Inputs,x9.2.full,x9.2.c.Gates))else if(p1==9)then(get? p2 s1.1).bind λx11=>(get? p3 s1.1).bind λx12=>(Zu n (D.l04Net.mk (D.Circuit.mk s1.2.2.1 s1.2.2.2.2) s1.2.2.2.1) x11 x12).bind λx13=>(app? s1.2.1 ([x13.1]:List Int)).bind λx14=>some (.inl ((w64 (s1.1+1)),x14,x13.2.c.Inputs,x13.2.full,x13.2.c.Gates))else(get? p2 s1.1).bind λx15=>(get? p3 s1.1).bind λx16=>(Zr n (D.l04Net.mk (D.Circuit.mk s1.2.2.1 s1.2.2.2.2) s1.2.2.2.1) x15 x16).bind λx17=>(app? s1.2.1 ([x17.1]:List Int)).bind λx18=>some (.inl ((w64 (s1.1+1)),x18,x17.2.c.Inputs,x17.2.full,x17.2.c.Gates))else some (.inr (s1.2.1,s1.2.2.1,s1.2.2.2.1,s1.2.2.2.2))) n (0,([]:List Int),p0.c.Inputs,p0.full,p0.c.Gates)).bind λ(rl1:(List Int)×Int×Bool×(List D.Gate))=>
        some (rl1.1,(D.l04Net.mk (D.Circuit.mk rl1.2.1 rl1.2.2.2) rl1.2.2.1))
       else
        if (p1==11)then
         if(p1==11)then
          (ZT n p0 p1 p2 p3).bind λx19=>
          some (x19.1,x19.2)
         else
          if (p1==14)then
           (iterN (λ(s2:Int×Int×Int×Bool×(List D.Gate))=>if(decide (s2.2.1<(len p2)))then(get? p2 s2.2.1).bind λx20=>(get? p3 s2.2.1).bind λx21=>(Zr n (D.l04Net.mk (D.Circuit.mk s2.2.2.1 s2.2.2.2.2) s2.2.2.2.1) x20 x21).bind λx22=>(Zk n x22.2 s2.1 (w64 (0-x22.1))).bind λx23=>some (.inl (x23.1,(w64 (s2.2.1+1)),x23.2.c.Inputs,x23.2.full,x23.2.c.Gates))else some (.inr (s2.1,s2.2.2.1,s2.2.2.2.1,s2.2.2.2.2))) n (1,0,p0.c.Inputs,p0.full,p0.c.Gates)).bind λ(rl2:Int×Int×Bool×(List D.Gate))=>
           some (([rl2.1]:List Int),(D.l04Net.mk (D.Circuit.mk rl2.2.1 rl2.2.2.2) rl2.2.2.1))
          else
           if(p1==15)then
            (ZB n p0 p2 p3).bind λx24=>
            some (([x24.1]:List Int),x24.2)
           else
            if(p1==16)then
             (Y2 p2).bind λx25=>
             (Y2 p3).bind λx26=>
             (ZB n p0 x25 x26).bind λx27=>
             some (([x27.1]:List Int),x27.2)
            else
             some (([]:List Int),p0)
        else
         if((p1==12)||(p1==13))then
          (ZT n p0 p1 p2 p3).bind λx28=>
          some (x28.1,x28.2)
         else
          if (p1==14)then
           (iterN (λ(s3:Int×Int×Int×Bool×(List D.Gate))=>if(decide (s3.2.1<(len p2)))then(get? p2 s3.2.1).bind λx29=>(get? p3 s3.2.1).bind λx30=>(Zr n (D.l04Net.mk (D.Circuit.mk s3.2.2.1 s3.2.2.2.2) s3.2.2.2.1) x29 x30).bind λx31=>(Zk n x31.2 s3.1 (w64 (0-x31.1))).bind λx32=>some (.inl (x32.1,(w64 (s3.2.1+1)),x32.2.c.Inputs,x32.2.full,x32.2.c.Gates))else some (.inr (s3.1,s3.2.2.1,s3.2.2.2.1,s3.2.2.2.2))) n (1,0,p0.c.Inputs,p0.full,p0.c.Gates)).bind λ(rl3:Int×Int×Bool×(List D.Gate))=>
           some (([rl3.1]:List Int),(D.l04Net.mk (D.Circuit.mk rl3.2.1 rl3.2.2.2) rl3.2.2.1))
          else
           if(p1==15)then
            (ZB n p0 p2 p3).bind λx33=>
            some (([x33.1]:List Int),x33.2)
           else
            if(p1==16)then
             (Y2 p2).bind λx34=>
             (Y2 p3).bind λx35=>
             (ZB n p0 x34 x35).bind λx36=>
             some (([x36.1]:List Int),x36.2)
            else
             some (([]:List Int),p0)
      else
       if ((p1==9)||(p1==10))then
        (iterN (λ(s4:Int×(List Int)×Int×Bool×(List D.Gate))=>if (decide (s4.1<(len p2)))then if(p1==8)then(get? p2 s4.1).bind λx37=>(get? p3 s4.1).bind λx38=>(Zk n (D.l04Net.mk (D.Circuit.mk s4.2.2.1 s4.2.2.2.2) s4.2.2.2.1) x37 x38).bind λx39=>(app? s4.2.1 ([x39.1]:List Int)).bind λx40=>some (.inl ((w64 (s4.1+1)),x40,x39.2.c.Inputs,x39.2.full,x39.2.c.Gates))else if(p1==9)then(get? p2 s4.1).bind λx41=>(get? p3 s4.1).bind λx42=>(Zu n (D.l04Net.mk (D.Circuit.mk s4.2.2.1 s4.2.2.2.2) s4.2.2.2.1) x41 x42).bind λx43=>(app? s4.2.1 ([x43.1]:List Int)).bind λx44=>some (.inl ((w64 (s4.1+1)),x44,x43.2.c.Inputs,x43.2.full,x43.2.c.Gates))else(get? p2 s4.1).bind λx45=>(get? p3 s4.1).bind λx46=>(Zr n (D.l04Net.mk (D.Circuit.mk s4.2.2.1 s4.2.2.2.2) s4.2.2.2.1) x45 x46).bind λx47=>(app? s4.2.1 ([x47.1]:List Int)).bind λx48=>some (.inl ((w64 (s4.1+1)),x48,x47.2.c.Inputs,x47.2.full,x47.2.c.Gates))else some (.inr (s4.2.1,s4.2.2.1,s4.2.2.2.1,s4.2.2.2.2))) n (0,([]:List Int),p0.c.Inputs,p0.full,p0.c.Gates)).bind λ(rl4:(List Int)×Int×Bool×(List D.Gate))=>
        some (rl4.1,(D.l04Net.mk (D.Circuit.mk rl4.2.1 rl4.2.2.2) rl4.2.2.1))
       else
        if (p1==11)then
         if(p1==11)then
          (ZT n p0 p1 p2 p3).bind λx49=>
          some (x49.1,x49.2)
         else
          if (p1==14)then
           (iterN (λ(s5:Int×Int×Int×Bool×(List D.Gate))=>if(decide (s5.2.1<(len p2)))then(get? p2 s5.2.1).bind λx50=>(get? p3 s5.2.1).bind λx51=>(Zr n (D.l04Net.mk (D.Circuit.mk s5.2.2.1 s5.2.2.2.2) s5.2.2.2.1) x50 x51).bind λx52=>(Zk n x52.2 s5.1 (w64 (0-x52.1))).bind λx53=>some (.inl (x53.1,(w64 (s5.2.1+1)),x53.2.c.Inputs,x53.2.full,x53.2.c.Gates))else some (.inr (s5.1,s5.2.2.1,s5.2.2.2.1,s5.2.2.2.2))) n (1,0,p0.c.Inputs,p0.full,p0.c.Gates)).bind λ(rl5:Int×Int×Bool×(List D.Gate))=>
           some (([rl5.1]:List Int),(D.l04Net.mk (D.Circuit.mk rl5.2.1 rl5.2.2.2) rl5.2.2.1))
          else
           if(p1==15)then
            (ZB n p0 p2 p3).bind λx54=>
            some (([x54.1]:List Int),x54.2)
           else
            if(p1==16)then
             (Y2 p2).bind λx55=>
             (Y2 p3).bind λx56=>
             (ZB n p0 x55 x56).bind λx57=>
             some (([x57.1]:List Int),x57.2)
            else
             some (([]:List Int),p0)
        else
         if((p1==12)||(p1==13))then
          (ZT n p0 p1 p2 p3).bind λx58=>
          some (x58.1,x58.2)
         else
          if (p1==14)then
           (iterN (λ(s6:Int×Int×Int×Bool×(List D.Gate))=>if(decide (s6.2.1<(len p2)))then(get? p2 s6.2.1).bind λx59=>(get? p3 s6.2.1).bind λx60=>(Zr n (D.l04Net.mk (D.Circuit.mk s6.2.2.1 s6.2.2.2.2) s6.2.2.2.1) x59 x60).bind λx61=>(Zk n x61.2 s6.1 (w64 (0-x61.1))).bind λx62=>some (.inl (x62.1,(w64 (s6.2.1+1)),x62.2.c.Inputs,x62.2.full,x62.2.c.Gates))else some (.inr (s6.1,s6.2.2.1,s6.2.2.2.1,s6.2.2.2.2))) n (1,0,p0.c.Inputs,p0.full,p0.c.Gates)).bind λ(rl6:Int×Int×Bool×(List D.Gate))=>
           some (([rl6.1]:List Int),(D.l04Net.mk (D.Circuit.mk rl6.2.1 rl6.2.2.2) rl6.2.2.1))
          else
           if(p1==15)then
            (ZB n p0 p2 p3).bind λx63=>
            some (([x63.1]:List Int),x63.2)
           else
            if(p1==16)then
             (Y2 p2).bind λx64=>
             (Y2 p3).bind λx65=>
             (ZB n p0 x64 x65).bind λx66=>
             some (([x66.1]:List Int),x66.2)
            else
             some (([]:List Int),p0)
def ZW (n:Nat)(p0:D.l04Net)(p1:D.Term)(p2:List D.Value):Option ((List Int)×D.l04Net):=
 match n with
 |0=>none
 |n+1=>
 if(p1.Op==0)then
  (XM n p1.W p1.N).bind λx1=>
  some (x1,p0)
 else
  if (p1.Op==22)then
   (iterN (λ(s1:Int×Int)=>if(decide (s1.2<(len p2)))then(get? p2 s1.2).bind λx2=>if(Str.eqb x2.Name p1.Name)then some (.inr ((w64 (s1.1+x2.W))))else some (.inl ((w64 (s1.1+x2.W)),(w64 (s1.2+1))))else some (.inr (s1.1))) n (1,0)).bind λ(rl1:Int)=>
   (iterN (λ(s2:Int×(List Int))=>if(decide (s2.1<p1.W))then(app? s2.2 ([(w64 (rl1-s2.1))]:List Int)).bind λx3=>some (.inl ((w64 (s2.1+1)),x3))else some (.inr (s2.2))) n (0,([]:List Int))).bind λ(rl2:(List Int))=>
   some (rl2,p0)
  else
   (iterN (λ(s3:Int×(List (List Int))×Int×Bool×(List D.Gate))=>if(decide (s3.1<(len p1.Kids)))then(get? p1.Kids s3.1).bind λx4=>(ZW n (D.l04Net.mk (D.Circuit.mk s3.2.2.1 s3.2.2.2.2) s3.2.2.2.1) x4 p2).bind λx5=>(app? s3.2.1 ([x5.1]:List (List Int))).bind λx6=>some (.inl ((w64 (s3.1+1)),x6,x5.2.c.Inputs,x5.2.full,x5.2.c.Gates))else some (.inr (s3.2.1,s3.2.2.1,s3.2.2.2.1,s3.2.2.2.2))) n (0,([]:List (List Int)),p0.c.Inputs,p0.full,p0.c.Gates)).bind λ(rl3:(List (List Int))×Int×Bool×(List D.Gate))=>
   (get? rl3.1 0).bind λx7=>
   if(p1.Op==1)then
    (X0 n x7).bind λx8=>
    some (x8,(D.l04Net.mk (D.Circuit.mk rl3.2.1 rl3.2.2.2) rl3.2.2.1))
   else
    if(p1.Op==2)then
     (XM n p1.W 0).bind λx9=>
     (get? ([x9,x7]:List (List Int)) 0).bind λx10=>
     if((len x10)==16)then
      (Yh n p1.W (-1)).bind λx11=>
      some (x11,(D.l04Net.mk (D.Circuit.mk rl3.2.1 rl3.2.2.2) true))
     else
      (get? ([x9,x7]:List (List Int)) 0).bind λx12=>
      (get? ([x9,x7]:List (List Int)) 1).bind λx13=>
      (Yb n (D.l04Net.mk (D.Circuit.mk rl3.2.1 rl3.2.2.2) rl3.2.2.1) (cond (p1.Op==2) 4 p1.Op) x12 x13).bind λx14=>
      some (x14.1,x14.2)
    else
     if (p1.Op==17)then
      (iterN (λ(s4:Int×(List Int)×Int×Bool×(List D.Gate))=>if(decide (s4.1<p1.W))then(get? x7 0).bind λx15=>(get? rl3.1 1).bind λx16=>(get? x16 s4.1).bind λx17=>(get? rl3.1 2).bind λx18=>(get? x18 s4.1).bind λx19=>(Zl n (D.l04Net.mk (D.Circuit.mk s4.2.2.1 s4.2.2.2.2) s4.2.2.2.1) x15 x17 x19).bind λx20=>(app? s4.2.1 ([x20.1]:List Int)).bind λx21=>some (.inl ((w64 (s4.1+1)),x21,x20.2.c.Inputs,x20.2.full,x20.2.c.Gates))else some (.inr (s4.2.1,s4.2.2.1,s4.2.2.2.1,s4.2.2.2.2))) n (0,([]:List Int),rl3.2.1,rl3.2.2.1,rl3.2.2.2)).bind λ(rl4:(List Int)×Int×Bool×(List D.Gate))=>
      some (rl4.1,(D.l04Net.mk (D.Circuit.mk rl4.2.1 rl4.2.2.2) rl4.2.2.1))
     else
      if(p1.Op==18)then
       (get? rl3.1 1).bind λx22=>
       (app? ([]:List Int) x22).bind λx23=>
       (app? x23 x7).bind λx24=>
       some (x24,(D.l04Net.mk (D.Circuit.mk rl3.2.1 rl3.2.2.2) rl3.2.2.1))
      else
       if(p1.Op==19)then
        (cut? x7 p1.N (w64 (p1.N+p1.W))).bind λx25=>
        some (x25,(D.l04Net.mk (D.Circuit.mk rl3.2.1 rl3.2.2.2) rl3.2.2.1))
       else
        if(p1.Op==20)then
         (app? ([]:List Int) x7).bind λx26=>
         (Yh n (w64 (p1.W-(len x7))) (-1)).bind λx27=>
         (app? x26 x27).bind λx28=>
         some (x28,(D.l04Net.mk (D.Circuit.mk rl3.2.1 rl3.2.2.2) rl3.2.2.1))
        else
         if(p1.Op==21)then
          (app? ([]:List Int) x7).bind λx29=>
          (get? x7 (w64 ((len x7)-1))).bind λx30=>
          (Yh n (w64 (p1.W-(len x7))) x30).bind λx31=>
          (app? x29 x31).bind λx32=>
          some (x32,(D.l04Net.mk (D.Circuit.mk rl3.2.1 rl3.2.2.2) rl3.2.2.1))
         else
          (get? rl3.1 0).bind λx33=>
          if((len x33)==16)then
           (Yh n p1.W (-1)).bind λx34=>
           some (x34,(D.l04Net.mk (D.Circuit.mk rl3.2.1 rl3.2.2.2) true))
          else
           (get? rl3.1 0).bind λx35=>
           (get? rl3.1 1).bind λx36=>
           (Yb n (D.l04Net.mk (D.Circuit.mk rl3.2.1 rl3.2.2.2) rl3.2.2.1) (cond (p1.Op==2) 4 p1.Op) x35 x36).bind λx37=>
           some (x37.1,x37.2)
def XF(n:Nat)(p0:D.Term):Option (D.Circuit×(List Int)×Bool):=
 (ZP n p0).bind λx1=>
 (YZ n p0).bind λx2=>
 (if(!x2)then some default else(XL n x1)).bind λx3=>
 if((!x2)||(decide (x3>30)))then
  some ((D.Circuit.mk 0 ([]:List D.Gate)),([]:List Int),false)
 else
  (XL n x1).bind λx4=>
  (Vz (D.Circuit.mk x4 ([]:List D.Gate))).bind λx5=>
  (ZW n x5 p0 x1).bind λx6=>
  if x6.2.full then
   some ((D.Circuit.mk 0 ([]:List D.Gate)),([]:List Int),false)
  else
   (app? ([]:List Int) x6.1).bind λx7=>
   some (x6.2.c,x7,true)
def Wu (n:Nat)(p0:D.Circuit):Option Bool:=
 (Zf p0.Inputs 0 30).bind λx1=>
 if((!x1)||(decide ((len p0.Gates)>360)))then
  some false
 else
  (iterN (λ(s1:Int)=>if (decide (s1<(len p0.Gates)))then(get? p0.Gates s1).bind λx2=>(Zf x2.A (w64 (0-(w64 ((w64 (p0.Inputs+1))+s1)))) (w64 ((w64 (p0.Inputs+1))+s1))).bind λx3=>(if(!x3)then some default else(Zf x2.B (w64 (0-(w64 ((w64 (p0.Inputs+1))+s1)))) (w64 ((w64 (p0.Inputs+1))+s1)))).bind λx4=>(if((!x3)||(!x4))then some default else(Zq x2.A)).bind λx5=>(if(((!x3)||(!x4))||(decide (x5<2)))then some default else(Zq x2.A)).bind λx6=>(if(((!x3)||(!x4))||(decide (x5<2)))then some default else(Zq x2.B)).bind λx7=>if((((!x3)||(!x4))||(decide (x5<2)))||(decide (x6>=x7)))then some (.inr (.inr false))else(cut? p0.Gates 0 s1).bind λx8=>(iterN (λ(s2:Int)=>if(decide (s2<(len x8)))then(get? x8 s2).bind λx9=>if(decide (x2=x9))then some (.inr (.inr false))else some (.inl ((w64 (s2+1))))else some (.inr (.inl ()))) n (0)).bind λ(rl2:(Unit)⊕Bool)=>match rl2 with|.inl s2r=>some (.inl ((w64 (s1+1))))|.inr v=>some (.inr (.inr v))else some (.inr (.inl ()))) n (0)).bind λ(rl1:(Unit)⊕Bool)=>
  match rl1 with
  |.inl s1r=>
   some true
  |.inr v=>some v
def YO(n:Nat)(p0:List Int)(p1:Int):Option Bool:=
 (iterN (λ(s1:Int)=>if(decide (s1<(len p0)))then(get? p0 s1).bind λx1=>(if(x1==0)then some default else(Zf x1 (w64 (0-p1)) p1)).bind λx2=>if((x1==0)||(!x2))then some (.inr (.inr false))else some (.inl ((w64 (s1+1))))else some (.inr (.inl ()))) n (0)).bind λ(rl1:(Unit)⊕Bool)=>
 match rl1 with
 |.inl s1r=>
  some true
 |.inr v=>some v
def Vh(n:Nat)(p0:D.Circuit)(p1:List Int):Option Bool:=
 (YO n p1 (w64 ((w64 (p0.Inputs+1))+(len p0.Gates)))).bind λx1=>
 some x1
def ZZ(n:Nat)(p0:List Int):Option ((List Int)×Bool):=
 (iterN (λ(s1:Int×(List Int))=>if (decide (s1.1<(len p0)))then(get? p0 s1.1).bind λx1=>(if(x1==0)then some default else(Zf x1 (-400) 400)).bind λx2=>if((x1==0)||(!x2))then some (.inr (.inr (([]:List Int),false)))else(iterN (λ(s2:Int)=>(if(decide (s2<(len s1.2)))then(get? s1.2 s2)else some default).bind λx3=>(if(decide (s2<(len s1.2)))then(Zq x3)else some default).bind λx4=>(if(decide (s2<(len s1.2)))then(Zq x1)else some default).bind λx5=>if((decide (s2<(len s1.2)))&&(decide (x4<x5)))then some (.inl ((w64 (s2+1))))else some (.inr (s2))) n (0)).bind λ(rl2:Int)=>(if(decide (rl2<(len s1.2)))then(get? s1.2 rl2)else some default).bind λx6=>if((decide (rl2<(len s1.2)))&&(x6==x1))then some (.inl ((w64 (s1.1+1)),s1.2))else(if(decide (rl2<(len s1.2)))then(get? s1.2 rl2)else some default).bind λx7=>if((decide (rl2<(len s1.2)))&&(x7==(w64 (0-x1))))then some (.inr (.inr (([]:List Int),false)))else(cut? s1.2 0 rl2).bind λx8=>(app? ([]:List Int) x8).bind λx9=>(app? x9 ([x1]:List Int)).bind λx10=>(cut? s1.2 rl2 (len s1.2)).bind λx11=>(app? x10 x11).bind λx12=>some (.inl ((w64 (s1.1+1)),x12))else some (.inr (.inl (s1.2)))) n (0,([]:List Int))).bind λ(rl1:((List Int))⊕((List Int)×Bool))=>
 match rl1 with
 |.inl s1r=>
  some (s1r,true)
 |.inr v=>some v
def Wj (n:Nat)(p0:D.Circuit)(p1:Int):Option (D.Formula×Bool):=
 (Wu n p0).bind λx1=>
 if (!x1)then
  if true then
   some ((D.Formula.mk 0 ([]:List (List Int))),false)
  else
   (iterN (λ(s1:Int×(List (List Int)))=>if (decide (s1.1<(len p0.Gates)))then(get? p0.Gates s1.1).bind λx2=>(iterN (λ(s2:Int×(List (List Int)))=>if(decide (s2.1<(len ([([(w64 (0-(w64 ((w64 (p0.Inputs+2))+s1.1)))),x2.A]:List Int),([(w64 (0-(w64 ((w64 (p0.Inputs+2))+s1.1)))),x2.B]:List Int),([(w64 ((w64 (p0.Inputs+2))+s1.1)),(w64 (0-x2.A)),(w64 (0-x2.B))]:List Int)]:List (List Int)))))then(get? ([([(w64 (0-(w64 ((w64 (p0.Inputs+2))+s1.1)))),x2.A]:List Int),([(w64 (0-(w64 ((w64 (p0.Inputs+2))+s1.1)))),x2.B]:List Int),([(w64 ((w64 (p0.Inputs+2))+s1.1)),(w64 (0-x2.A)),(w64 (0-x2.B))]:List Int)]:List (List Int)) s2.1).bind λx3=>(ZZ n x3).bind λx4=>(app? s2.2 ([x4.1]:List (List Int))).bind λx5=>some (.inl ((w64 (s2.1+1)),x5))else some (.inr (s2.2))) n (0,s1.2)).bind λ(rl2:(List (List Int)))=>some (.inl ((w64 (s1.1+1)),rl2))else some (.inr (s1.2))) n (0,([([1]:List Int)]:List (List Int)))).bind λ(rl1:(List (List Int)))=>
   (app? rl1 ([([p1]:List Int)]:List (List Int))).bind λx6=>
   some ((D.Formula.mk (w64 ((w64 (p0.Inputs+1))+(len p0.Gates))) x6),true)
 else
  (Vh n p0 ([p1]:List Int)).bind λx7=>
  if(!x7)then
   some ((D.Formula.mk 0 ([]:List (List Int))),false)
  else
   (iterN (λ(s3:Int×(List (List Int)))=>if (decide (s3.1<(len p0.Gates)))then(get? p0.Gates s3.1).bind λx8=>(iterN (λ(s4:Int×(List (List Int)))=>if(decide (s4.1<(len ([([(w64 (0-(w64 ((w64 (p0.Inputs+2))+s3.1)))),x8.A]:List Int),([(w64 (0-(w64 ((w64 (p0.Inputs+2))+s3.1)))),x8.B]:List Int),([(w64 ((w64 (p0.Inputs+2))+s3.1)),(w64 (0-x8.A)),(w64 (0-x8.B))]:List Int)]:List (List Int)))))then(get? ([([(w64 (0-(w64 ((w64 (p0.Inputs+2))+s3.1)))),x8.A]:List Int),([(w64 (0-(w64 ((w64 (p0.Inputs+2))+s3.1)))),x8.B]:List Int),([(w64 ((w64 (p0.Inputs+2))+s3.1)),(w64 (0-x8.A)),(w64 (0-x8.B))]:List Int)]:List (List Int)) s4.1).bind λx9=>(ZZ n x9).bind λx10=>(app? s4.2 ([x10.1]:List (List Int))).bind λx11=>some (.inl ((w64 (s4.1+1)),x11))else some (.inr (s4.2))) n (0,s3.2)).bind λ(rl4:(List (List Int)))=>some (.inl ((w64 (s3.1+1)),rl4))else some (.inr (s3.2))) n (0,([([1]:List Int)]:List (List Int)))).bind λ(rl3:(List (List Int)))=>
   (app? rl3 ([([p1]:List Int)]:List (List Int))).bind λx12=>
   some ((D.Formula.mk (w64 ((w64 (p0.Inputs+1))+(len p0.Gates))) x12),true)
def Ws(n:Nat)(p0:List Int)(p1:Int):Option Bool:=
 (iterN (λ(s1:Int×Int)=>if(decide (s1.2<(len p0)))then(get? p0 s1.2).bind λx1=>(Zf x1 (w64 (0-p1)) p1).bind λx2=>(if(!x2)then some default else(Zq x1)).bind λx3=>if((!x2)||(decide (x3<=s1.1)))then some (.inr (.inr false))else(Zq x1).bind λx4=>some (.inl (x4,(w64 (s1.2+1))))else some (.inr (.inl ()))) n (0,0)).bind λ(rl1:(Unit)⊕Bool)=>
 match rl1 with
 |.inl s1r=>
  some true
 |.inr v=>some v
def YU(n:Nat)(p0:D.Formula):Option Bool:=
 (Zf p0.Vars 0 400).bind λx1=>
 if((!x1)||(decide ((len p0.Clauses)>1600)))then
  some false
 else
  (iterN (λ(s1:Int)=>if(decide (s1<(len p0.Clauses)))then(get? p0.Clauses s1).bind λx2=>(Ws n x2 p0.Vars).bind λx3=>if(!x3)then some (.inr (.inr false))else some (.inl ((w64 (s1+1))))else some (.inr (.inl ()))) n (0)).bind λ(rl1:(Unit)⊕Bool)=>
  match rl1 with
  |.inl s1r=>
   some true
  |.inr v=>some v
def VH(n:Nat)(p0:Int)(p1:List Int):Option ((List Int)×Bool):=
 (mk? (w64 (p0+1)) (0:Int)).bind λx1=>
 (iterN (λ(s1:Int×(List Int))=>if(decide (s1.1<(len p1)))then(get? p1 s1.1).bind λx2=>(Zq x2).bind λx3=>(quo? x2 x3).bind λx4=>(Zq x2).bind λx5=>(get? s1.2 x5).bind λx6=>if(x6==(w64 (0-x4)))then some (.inr (.inr (([]:List Int),false)))else(Zq x2).bind λx7=>(set? s1.2 x7 x4).bind λx8=>some (.inl ((w64 (s1.1+1)),x8))else some (.inr (.inl (s1.2)))) n (0,x1)).bind λ(rl1:((List Int))⊕((List Int)×Bool))=>
 match rl1 with
 |.inl s1r=>
  some (s1r,true)
 |.inr v=>some v
def Xn (n:Nat)(p0:D.Formula)(p1:List Int):Option (Bool×(List Int)):=
 (iterN (λ(s1:Bool×(List Int))=>if s1.1 then(iterN (λ(s2:Bool×Int×(List Int))=>if (decide (s2.2.1<(len p0.Clauses)))then(get? p0.Clauses s2.2.1).bind λx1=>(iterN (λ(s3:Int×Int×Bool×Int)=>if(decide (s3.2.2.2<(len x1)))then(get? x1 s3.2.2.2).bind λx2=>(Zq x2).bind λx3=>(get? s2.2.2 x3).bind λx4=>if((cond (decide (x2<0)) (w64 (0-x4)) x4)==0)then some (.inl ((w64 (s3.1+1)),x2,(s3.2.2.1||(decide ((cond (decide (x2<0)) (w64 (0-x4)) x4)>0))),(w64 (s3.2.2.2+1))))else some (.inl (s3.1,s3.2.1,(s3.2.2.1||(decide ((cond (decide (x2<0)) (w64 (0-x4)) x4)>0))),(w64 (s3.2.2.2+1))))else some (.inr (s3.1,s3.2.1,s3.2.2.1))) n (0,0,false,0)).bind λ(rl3:Int×Int×Bool)=>if(rl3.2.2||(decide (rl3.1>1)))then some (.inl (s2.1,(w64 (s2.2.1+1)),s2.2.2))else if(rl3.1==0)then some (.inr (.inr (false,s2.2.2)))else(Zq rl3.2.1).bind λx5=>(Zq rl3.2.1).bind λx6=>(quo? rl3.2.1 x6).bind λx7=>(set? s2.2.2 x5 x7).bind λx8=>some (.inl (true,(w64 (s2.2.1+1)),x8))else some (.inr (.inl (s2.1,s2.2.2)))) n (false,0,s1.2)).bind λ(rl2:(Bool×(List Int))⊕(Bool×(List Int)))=>match rl2 with|.inl s2r=>some (.inl (s2r.1,s2r.2))|.inr v=>some (.inr (.inr v))else some (.inr (.inl (s1.2)))) n (true,p1)).bind λ(rl1:((List Int))⊕(Bool×(List Int)))=>
 match rl1 with
 |.inl s1r=>
  some (true,s1r)
 |.inr v=>some v
def Zz (n:Nat)(p0:D.l03Work)(p1:List Int):Option ((List Int)×D.Prf×Bool×D.l03Work):=
 match n with
 |0=>none
 |n+1=>
 (Xn n p0.f p1).bind λx1=>
 if(!x1.1)then
  some (([]:List Int),D.Prf.mk,false,p0)
 else
  (iterN (λ(s1:Int)=>(if(decide (s1<(len p1)))then(get? x1.2 s1)else some default).bind λx2=>if((decide (s1<(len p1)))&&(x2 !=0))then some (.inl ((w64 (s1+1))))else some (.inr (s1))) n (1)).bind λ(rl1:Int)=>
  if(rl1==(len p1))then
   some (x1.2,D.Prf.mk,true,p0)
  else
   if(p0.made==p0.limit)then
    some (([]:List Int),D.Prf.mk,false,(D.l03Work.mk p0.f p0.limit p0.made true))
   else
    (iterN (λ(s2:Int×Int×Int×Bool×(List D.Prf))=>if(decide (s2.1<(len ([(-1),1]:List Int))))then(get? ([(-1),1]:List Int) s2.1).bind λx3=>(app? ([]:List Int) x1.2).bind λx4=>(set? x4 rl1 x3).bind λx5=>(Zz n (D.l03Work.mk p0.f s2.2.1 s2.2.2.1 s2.2.2.2.1) x5).bind λx6=>if(x6.2.2.1||x6.2.2.2.opn)then some (.inr (.inr (x6.1,D.Prf.mk,x6.2.2.1,(D.l03Work.mk p0.f x6.2.2.2.limit x6.2.2.2.made x6.2.2.2.opn))))else(app? s2.2.2.2.2 [D.Prf.mk]).bind λx7=>some (.inl ((w64 (s2.1+1)),x6.2.2.2.limit,x6.2.2.2.made,x6.2.2.2.opn,x7))else some (.inr (.inl (s2.2.1,s2.2.2.1,s2.2.2.2.1,s2.2.2.2.2)))) n (0,p0.limit,(w64 (p0.made+1)),p0.opn,([]:List D.Prf))).bind λ(rl2:(Int×Int×Bool×(List D.Prf))⊕((List Int)×D.Prf×Bool×D.l03Work))=>
    match rl2 with
    |.inl s2r=>
     some (([]:List Int),D.Prf.mk,false,(D.l03Work.mk p0.f s2r.1 s2r.2.1 s2r.2.2.1))
    |.inr v=>some v
def YW(n:Nat)(p0:D.Formula)(p1:List Int)(p2:Int):Option (Int×(List Bool)×Int):=
 (YU n p0).bind λx1=>
 (if(!x1)then some default else(YO n p1 p0.Vars)).bind λx2=>
 (if((!x1)||(!x2))then some default else(Zf p2 0 3000)).bind λx3=>
 if(((!x1)||(!x2))||(!x3))then
  some (0,([]:List Bool),0)
 else
  (VH n p0.Vars p1).bind λx4=>
  if(!x4.2)then
   some (2,([]:List Bool),0)
  else
   (Zz n (D.l03Work.mk p0 p2 0 false) x4.1).bind λx5=>
   if(!x5.2.2.1)then
    if x5.2.2.2.opn then
     some (3,([]:List Bool),x5.2.2.2.made)
    else
     some (2,([]:List Bool),x5.2.2.2.made)
   else
    (cut? x5.1 1 (len x5.1)).bind λx6=>
    (iterN (λ(s1:Int×(List Bool))=>if(decide (s1.1<(len x6)))then(get? x6 s1.1).bind λx7=>(app? s1.2 ([(decide (x7>0))]:List Bool)).bind λx8=>some (.inl ((w64 (s1.1+1)),x8))else some (.inr (s1.2))) n (0,([]:List Bool))).bind λ(rl1:(List Bool))=>
    some (1,rl1,x5.2.2.2.made)
def Ym(p0:List Int)(p1:Int):Option (List Int):=
 (app? ([]:List Int) p0).bind λx1=>
 (app? x1 ([p1]:List Int)).bind λx2=>
 some x2
def Wl(n:Nat)(p0:D.Formula)(p1:List Int)(p2:List Int)(p3:Bool)(p4:Int):Option (Int×Bool):=
 (iterN (λ(s1:(List Int)×Int×Int)=>if (decide (s1.2.2>=0))then(get? p2 s1.2.2).bind λx1=>if p3 then(get? p2 s1.2.2).bind λx2=>(Ym s1.1 x2).bind λx3=>(YW n p0 x3 p4).bind λx4=>if(x4.1==3)then some (.inr (.inr (0,false)))else(Ym s1.1 (cond (x4.1==2) (w64 (0-x2)) x2)).bind λx5=>(get? p2 s1.2.2).bind λx6=>(Yc ((cond (x4.1==2) (w64 (0-x2)) x2)==x6)).bind λx7=>some (.inl (x5,(w64 ((w64 (2*s1.2.1))+x7)),(w64 (s1.2.2-1))))else(Ym s1.1 (w64 (0-x1))).bind λx8=>(YW n p0 x8 p4).bind λx9=>if(x9.1==3)then some (.inr (.inr (0,false)))else(Ym s1.1 (cond (x9.1==2) (w64 (0-(w64 (0-x1)))) (w64 (0-x1)))).bind λx10=>(get? p2 s1.2.2).bind λx11=>(Yc ((cond (x9.1==2) (w64 (0-(w64 (0-x1)))) (w64 (0-x1)))==x11)).bind λx12=>some (.inl (x10,(w64 ((w64 (2*s1.2.1))+x12)),(w64 (s1.2.2-1))))else some (.inr (.inl (s1.2.1)))) n (p1,0,(w64 ((len p2)-1)))).bind λ(rl1:(Int)⊕(Int×Bool))=>
 match rl1 with
 |.inl s1r=>
  some (s1r,true)
 |.inr v=>some v
def Wz(n:Nat)(p0:D.Term)(p1:D.Term)(p2:Int):Option (Int×Int×Bool):=
 (YZ n p0).bind λx1=>
 (if(!x1)then some default else(YZ n p1)).bind λx2=>
 (if(((!x1)||(!x2))||(p0.W !=1))then some default else(YZ n (D.Term.mk 18 (w64 (1+p1.W)) 0 ⟨[]⟩ ([p0,p1]:List D.Term)))).bind λx3=>
 (if((((!x1)||(!x2))||(p0.W !=1))||(!x3))then some default else(Zf p2 0 3000)).bind λx4=>
 if(((((!x1)||(!x2))||(p0.W !=1))||(!x3))||(!x4))then
  some (0,0,false)
 else
  (XF n (D.Term.mk 18 (w64 (1+p1.W)) 0 ⟨[]⟩ ([p0,p1]:List D.Term))).bind λx5=>
  if(!x5.2.2)then
   some (0,0,false)
  else
   (get? x5.2.1 p1.W).bind λx6=>
   (Wj n x5.1 1).bind λx7=>
   (YW n x7.1 ([x6]:List Int) p2).bind λx8=>
   if(x8.1 !=1)then
    some (0,0,false)
   else
    (cut? x5.2.1 0 p1.W).bind λx9=>
    (Wl n x7.1 ([x6]:List Int) x9 false p2).bind λx10=>
    (cut? x5.2.1 0 p1.W).bind λx11=>
    (Wl n x7.1 ([x6]:List Int) x11 true p2).bind λx12=>
    if((!x10.2)||(!x12.2))then
     some (0,0,false)
    else
     some (x10.1,x12.1,true)
def Ua(n:Nat)(p0:List Byt):Option Bool:=
 if(decide ((len p0)>1048576))then
  some true
 else
  (XV n p0 0 1 2).bind λx1=>
  (WI n p0 48 1 3).bind λx2=>
  (XV n p0 50 x2 2).bind λx3=>
  (YR n (D.Term.mk 18 (w64 (1+x3.W)) 0 ⟨[]⟩ ([x1,x3]:List D.Term))).bind λx4=>
  (iterN (λ(s1:Int×Int×Int)=>if(decide (s1.2.2<(len x4)))then(get? x4 s1.2.2).bind λx5=>(shl? 1 x3.W).bind λx6=>(shr? x5 x3.W).bind λx7=>(shr? x5 x3.W).bind λx8=>some (.inl ((cond ((x7==1)&&((decide (s1.1<0))||(decide ((band x5 (w64 (x6-1)))<s1.1)))) (band x5 (w64 (x6-1))) s1.1),(cond ((x8==1)&&(decide ((band x5 (w64 (x6-1)))>s1.2.1))) (band x5 (w64 (x6-1))) s1.2.1),(w64 (s1.2.2+1))))else some (.inr (s1.1,s1.2.1))) n ((-1),(-1),0)).bind λ(rl1:Int×Int)=>
  (Vb n x1 x3 3000).bind λx9=>
  (YR n (D.Term.mk 18 (w64 (1+x3.W)) 0 ⟨[]⟩ ([x1,x3]:List D.Term))).bind λx10=>
  if ((len x10)==0)then
   if true then
    (Wz n x1 x3 3000).bind λx11=>
    (YR n (D.Term.mk 18 (w64 (1+x3.W)) 0 ⟨[]⟩ ([x1,x3]:List D.Term))).bind λx12=>
    if((len x12)==0)then
     some true
    else
     some (!x11.2.2)
   else
    some ((x9.1==rl1.1)&&(x9.2.1==rl1.2))
  else
   if(!x9.2.2)then
    (Wz n x1 x3 3000).bind λx13=>
    (YR n (D.Term.mk 18 (w64 (1+x3.W)) 0 ⟨[]⟩ ([x1,x3]:List D.Term))).bind λx14=>
    if((len x14)==0)then
     some true
    else
     some (!x13.2.2)
   else
    some ((x9.1==rl1.1)&&(x9.2.1==rl1.2))
end Go.GL
