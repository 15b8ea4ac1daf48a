/- Go functions as Lean functions, printed by a program. -/
import Derived.Test.YtmhljhkhmdkdhaaGreatDoorLib1
import Derived.Lib.ItoaNum
import Derived.Lib.Bytealg
set_option linter.unusedVariables false
namespace Go.GL
def WY(n:Nat)(p0:List Byt):Option D.l01Cur:=
 (iterN (λ(s1:Int×Int)=>if((decide (s1.2<(len p0)))&&(decide (s1.2<4000)))then(get? p0 s1.2).bind λx1=>some (.inl ((band (w64 ((w64 ((w64 (s1.1*131))+(w64 x1.n)))+7)) 1073741823),(w64 (s1.2+1))))else some (.inr (s1.1))) n ((w64 (55127+(len p0))),0)).bind λ(rl1:Int)=>
 some (D.l01Cur.mk p0 0 rl1)
def We(n:Nat)(p0:List Byt)(p1:Int):Option D.l01Cur:=
 (WY n p0).bind λx1=>
 some (D.l01Cur.mk x1.b (imin p1 (len p0)) (band (w64 ((w64 ((w64 (x1.h*31))+(w64 (p1*7919))))+1)) 1073741823))
def Xj(p0:D.l01Cur):Option (Int×D.l01Cur):=
 (shr? (w64 ((w64 (p0.h*6364136223846793005))+1442695040888963407)) 33).bind λx1=>
 (shr? (w64 ((w64 (p0.h*6364136223846793005))+1442695040888963407)) 45).bind λx2=>
 if(decide (p0.i<(len p0.b)))then
  (get? p0.b p0.i).bind λx3=>
  some ((band (w64 ((band (bxor x1 x2) 255)+(w64 x3.n))) 255),(D.l01Cur.mk p0.b (w64 (p0.i+1)) (w64 ((w64 (p0.h*6364136223846793005))+1442695040888963407))))
 else
  some ((band (bxor x1 x2) 255),(D.l01Cur.mk p0.b p0.i (w64 ((w64 (p0.h*6364136223846793005))+1442695040888963407))))
def Zj(p0:D.l01Cur)(p1:Int):Option (Int×D.l01Cur):=
 if(decide (p1<=0))then
  some (0,p0)
 else
  (Xj p0).bind λx1=>
  (rem? x1.1 p1).bind λx2=>
  some (x2,(D.l01Cur.mk p0.b x1.2.i x1.2.h))
def Y8(p0:D.l01Cur)(p1:Int):Option (Bool×D.l01Cur):=
 (Zj p0 p1).bind λx1=>
 some ((x1.1==0),(D.l01Cur.mk p0.b x1.2.i x1.2.h))
def XE(p0:D.l01Cur)(p1:List Int):Option (Int×D.l01Cur):=
 (Zj p0 (len p1)).bind λx1=>
 (get? p1 x1.1).bind λx2=>
 some (x2,(D.l01Cur.mk p0.b x1.2.i x1.2.h))
def Zd(p0:Int)(p1:Int)(p2:Int):Option Bool:=
 some ((decide (p0>=p1))&&(decide (p0<=p2)))
def Z6(p0:Int)(p1:Int):Option Int:=
 (Zd p0 1 16).bind λx1=>
 if(!x1)then
  some (-1)
 else
  (shl? 1 p0).bind λx2=>
  some (band p1 (w64 (x2-1)))
def YU (p0:D.l01Cur)(p1:Int)(p2:Int)(p3:Int):Option (D.Ins×D.l01Cur):=
 (Zj p0 4).bind λx1=>
 (Zj (D.l01Cur.mk p0.b x1.2.i x1.2.h) 4).bind λx2=>
 (Zj (D.l01Cur.mk p0.b x2.2.i x2.2.h) (w64 (p2+1))).bind λx3=>
 (Y8 (D.l01Cur.mk p0.b x3.2.i x3.2.h) 2).bind λx4=>
 (if x4.1 then(Zj (D.l01Cur.mk p0.b x4.2.i x4.2.h) (w64 (p2-p3))).bind λx5=>some (.inl ((w64 ((w64 (p3+1))+x5.1)),x5.2.i,x5.2.h))else some (.inl (x3.1,x4.2.i,x4.2.h))).bind λ(rl1:(Int×Int×Int)⊕(D.Ins×D.l01Cur))=>
 match rl1 with
 | .inl s1r=>
  (Zj (D.l01Cur.mk p0.b s1r.2.1 s1r.2.2) 22).bind λx6=>
  (if(x6.1==0)then some (.inl ((x6.1==0)))else some (.inl (((x6.1==1)||(x6.1==2))))).bind λ(rl2:(Bool)⊕(D.Ins×D.l01Cur))=>
  match rl2 with
  | .inl s2r=>
   if s2r then
    (Zj (D.l01Cur.mk p0.b x6.2.i x6.2.h) 256).bind λx7=>
    (XE (D.l01Cur.mk p0.b x7.2.i x7.2.h) ([0,1,2,3,255,x7.1]:List Int)).bind λx8=>
    (Z6 p1 x8.1).bind λx9=>
    some ((D.Ins.mk 1 x1.1 x9 0),(D.l01Cur.mk p0.b x8.2.i x8.2.h))
   else
    if(x6.1==3)then
     some ((D.Ins.mk 2 x1.1 x2.1 0),(D.l01Cur.mk p0.b x6.2.i x6.2.h))
    else
     (if(x6.1==4)then some (.inl ((x6.1==4)))else if(x6.1==5)then some (.inl ((x6.1==5)))else some (.inl (((x6.1==6)||(x6.1==7))))).bind λ(rl3:(Bool)⊕(D.Ins×D.l01Cur))=>
     match rl3 with
     | .inl s3r=>
      if s3r then
       (XE (D.l01Cur.mk p0.b x6.2.i x6.2.h) ([3,4,5,6,7,8,9,10,11,12,13,14,15,16]:List Int)).bind λx10=>
       some ((D.Ins.mk 3 x1.1 x2.1 x10.1),(D.l01Cur.mk p0.b x10.2.i x10.2.h))
      else
       if(x6.1==8)then
        some ((D.Ins.mk 4 x1.1 0 0),(D.l01Cur.mk p0.b x6.2.i x6.2.h))
       else
        if((x6.1==9)||(x6.1==10))then
         some ((D.Ins.mk 5 x1.1 0 0),(D.l01Cur.mk p0.b x6.2.i x6.2.h))
        else
         if((x6.1==11)||(x6.1==12))then
          some ((D.Ins.mk 6 x1.1 0 0),(D.l01Cur.mk p0.b x6.2.i x6.2.h))
         else
          if(x6.1==13)then
           some ((D.Ins.mk 7 x1.1 x2.1 0),(D.l01Cur.mk p0.b x6.2.i x6.2.h))
          else
           if(x6.1==14)then
            some ((D.Ins.mk 8 x1.1 x2.1 0),(D.l01Cur.mk p0.b x6.2.i x6.2.h))
           else
            if(x6.1==15)then
             some ((D.Ins.mk 9 0 s1r.1 0),(D.l01Cur.mk p0.b x6.2.i x6.2.h))
            else
             if((x6.1==16)||(x6.1==17))then
              some ((D.Ins.mk 10 x1.1 s1r.1 0),(D.l01Cur.mk p0.b x6.2.i x6.2.h))
             else
              if(x6.1==18)then
               some ((D.Ins.mk 11 0 s1r.1 0),(D.l01Cur.mk p0.b x6.2.i x6.2.h))
              else
               if(x6.1==19)then
                some ((D.Ins.mk 12 0 0 0),(D.l01Cur.mk p0.b x6.2.i x6.2.h))
               else
                if(x6.1==20)then
                 some ((D.Ins.mk 13 x1.1 0 0),(D.l01Cur.mk p0.b x6.2.i x6.2.h))
                else
                 some ((D.Ins.mk 14 0 0 0),(D.l01Cur.mk p0.b x6.2.i x6.2.h))
     |.inr v=>some v
  |.inr v=>some v
 |.inr v=>some v
def WA(n:Nat)(p0:D.l01Cur)(p1:Int):Option (D.Program×D.l01Cur):=
 (Zj p0 2).bind λx1=>
 (Zj (D.l01Cur.mk p0.b x1.2.i x1.2.h) 3).bind λx2=>
 (Zj (D.l01Cur.mk p0.b x2.2.i x2.2.h) 3).bind λx3=>
 (Zj (D.l01Cur.mk p0.b x3.2.i x3.2.h) p1).bind λx4=>
 (iterN (λ(s1:Int×Int×Int×(List D.Ins))=>if (decide (s1.1<(w64 ((w64 (x3.1+2))+x4.1))))then if(decide (s1.1<x3.1))then(Y8 (D.l01Cur.mk p0.b s1.2.1 s1.2.2.1) 8).bind λx5=>if(!x5.1)then(app? s1.2.2.2 ([(D.Ins.mk 5 s1.1 0 0)]:List D.Ins)).bind λx6=>some (.inl ((w64 (s1.1+1)),x5.2.i,x5.2.h,x6))else(YU (D.l01Cur.mk p0.b x5.2.i x5.2.h) (w64 (2+x1.1)) (w64 ((w64 (x3.1+2))+x4.1)) s1.1).bind λx7=>(app? s1.2.2.2 ([x7.1]:List D.Ins)).bind λx8=>some (.inl ((w64 (s1.1+1)),x7.2.i,x7.2.h,x8))else if false then(app? s1.2.2.2 ([(D.Ins.mk 5 s1.1 0 0)]:List D.Ins)).bind λx9=>some (.inl ((w64 (s1.1+1)),s1.2.1,s1.2.2.1,x9))else(YU (D.l01Cur.mk p0.b s1.2.1 s1.2.2.1) (w64 (2+x1.1)) (w64 ((w64 (x3.1+2))+x4.1)) s1.1).bind λx10=>(app? s1.2.2.2 ([x10.1]:List D.Ins)).bind λx11=>some (.inl ((w64 (s1.1+1)),x10.2.i,x10.2.h,x11))else some (.inr (s1.2.1,s1.2.2.1,s1.2.2.2))) n (0,x4.2.i,x4.2.h,([]:List D.Ins))).bind λ(rl1:Int×Int×(List D.Ins))=>
 some ((D.Program.mk (w64 (2+x1.1)) (w64 (1+x2.1)) x3.1 rl1.2.2),(D.l01Cur.mk p0.b rl1.1 rl1.2.1))
def Xc(n:Nat)(p0:List Byt)(p1:Int):Option D.Program:=
 (We n p0 p1).bind λx1=>
 (WA n x1 10).bind λx2=>
 (iterN (λ(s1:Int×(List D.Ins)×Int×Int)=>if(decide (s1.1<(len x2.1.Code)))then(Y8 (D.l01Cur.mk x1.b s1.2.2.1 s1.2.2.2) 4).bind λx3=>if x3.1 then(get? s1.2.1 s1.1).bind λx4=>(Zj (D.l01Cur.mk x1.b x3.2.i x3.2.h) 3).bind λx5=>(Zj (D.l01Cur.mk x1.b x5.2.i x5.2.h) (w64 ((len x2.1.Code)-s1.1))).bind λx6=>(set? s1.2.1 s1.1 (D.Ins.mk 10 x5.1 (w64 ((w64 (s1.1+1))+x6.1)) 0)).bind λx7=>some (.inl ((w64 (s1.1+1)),x7,x6.2.i,x6.2.h))else some (.inl ((w64 (s1.1+1)),s1.2.1,x3.2.i,x3.2.h))else some (.inr (s1.2.1,s1.2.2.1,s1.2.2.2))) n (x2.1.In,x2.1.Code,x2.2.i,x2.2.h)).bind λ(rl1:(List D.Ins)×Int×Int)=>
 some (D.Program.mk x2.1.W x2.1.Mem x2.1.In rl1.1)
def Vr(n:Nat)(p0:List Byt)(p1:Int):Option Int:=
 (We n p0 p1).bind λx1=>
 (Xj x1).bind λx2=>
 (Xj (D.l01Cur.mk x1.b x2.2.i x2.2.h)).bind λx3=>
 some (w64 ((w64 (256*x2.1))+x3.1))
def XQ(n:Nat)(p0:List Byt)(p1:Int)(p2:Int)(p3:Int):Option Int:=
 (Vr n p0 p1).bind λx1=>
 (rem? x1 (w64 ((w64 (p3-p2))+1))).bind λx2=>
 some (w64 (p2+x2))
def Xl(n:Nat)(p0:List Byt)(p1:Int)(p2:D.Program):Option (List Int):=
 (We n p0 p1).bind λx1=>
 (iterN (λ(s1:Int×Int×Int×(List Int))=>if(decide (s1.1<p2.In))then(Zj (D.l01Cur.mk x1.b s1.2.1 s1.2.2.1) 256).bind λx2=>(Z6 p2.W x2.1).bind λx3=>(app? s1.2.2.2 ([x3]:List Int)).bind λx4=>some (.inl ((w64 (s1.1+1)),x2.2.i,x2.2.h,x4))else some (.inr (s1.2.1,s1.2.2.1,s1.2.2.2))) n (0,x1.i,x1.h,([]:List Int))).bind λ(rl1:Int×Int×(List Int))=>
 some rl1.2.2
def Vq(p0:Int)(p1:Int):Option Bool:=
 some ((((decide (p0>=2))&&(decide (p0<=8)))&&(decide (p1>=1)))&&(decide (p1<=40)))
def Zp(p0:Int):Option Bool:=
 some ((decide (p0>=1))&&(decide (p0<=16)))
def Z0(p0:Int)(p1:Int):Option Bool:=
 (Zp p0).bind λx1=>
 (if(x1&&(decide (p1>=0)))then(shl? 1 (IntKind.u64.wrap p0))else some default).bind λx2=>
 some ((x1&&(decide (p1>=0)))&&(decide (p1<x2)))
def YD(p0:Int):Option Bool:=
 some ((decide (p0>=0))&&(decide (p0<4)))
def Xo(p0:Int):Option Bool:=
 some ((decide (p0>=3))&&(decide (p0<=16)))
def XZ (p0:D.Ins)(p1:Int)(p2:Int):Option Bool:=
 if(p0.Op==3)then
  (YD p0.A).bind λx1=>
  (if x1 then(YD p0.B)else some default).bind λx2=>
  (if(x1&&x2)then(Xo p0.C)else some default).bind λx3=>
  some ((x1&&x2)&&x3)
 else
  if(p0.C !=0)then
   some false
  else
   if(p0.Op==1)then
    (YD p0.A).bind λx4=>
    (if x4 then(Z0 p1 p0.B)else some default).bind λx5=>
    some (x4&&x5)
   else
    (if(p0.Op==2)then some (.inl ((p0.Op==2)))else some (.inl (((p0.Op==7)||(p0.Op==8))))).bind λ(rl1:(Bool)⊕Bool)=>
    match rl1 with
    | .inl s1r=>
     if s1r then
      (YD p0.A).bind λx6=>
      (if x6 then(YD p0.B)else some default).bind λx7=>
      some (x6&&x7)
     else
      (if(p0.Op==4)then some (.inl ((p0.Op==4)))else if(p0.Op==5)then some (.inl ((p0.Op==5)))else some (.inl (((p0.Op==6)||(p0.Op==13))))).bind λ(rl2:(Bool)⊕Bool)=>
      match rl2 with
      | .inl s2r=>
       if s2r then
        (YD p0.A).bind λx8=>
        some (x8&&(p0.B==0))
       else
        if((p0.Op==9)||(p0.Op==11))then
         some ((p0.A==0)&&((decide (p0.B>=0))&&(decide (p0.B<=p2))))
        else
         if(p0.Op==10)then
          (YD p0.A).bind λx9=>
          some (x9&&((decide (p0.B>=0))&&(decide (p0.B<=p2))))
         else
          if((p0.Op==12)||(p0.Op==14))then
           some ((p0.A==0)&&(p0.B==0))
          else
           some false
      |.inr v=>some v
    |.inr v=>some v
def YI(n:Nat)(p0:D.Program):Option Bool:=
 (Vq p0.W (len p0.Code)).bind λx1=>
 (if(((!x1)||(decide (p0.Mem<1)))||(decide (p0.Mem>6)))then some default else(Z0 p0.W p0.Mem)).bind λx2=>
 if((((!x1)||(decide (p0.Mem<1)))||(decide (p0.Mem>6)))||(!x2))then
  some false
 else
  if((decide (p0.In<0))||(decide (p0.In>3)))then
   some false
  else
   (iterN (λ(s1:Int)=>if(decide (s1<(len p0.Code)))then(get? p0.Code s1).bind λx3=>(XZ x3 p0.W (len p0.Code)).bind λx4=>if(!x4)then some (.inr (.inr false))else some (.inl ((w64 (s1+1))))else some (.inr (.inl ()))) n (0)).bind λ(rl1:(Unit)⊕Bool)=>
   match rl1 with
   |.inl s1r=>
    some true
   |.inr v=>some v
def Wn(n:Nat)(p0:Int)(p1:List Int):Option Bool:=
 (iterN (λ(s1:Int)=>if(decide (s1<(len p1)))then(get? p1 s1).bind λx1=>(Z0 p0 x1).bind λx2=>if(!x2)then some (.inr (.inr false))else some (.inl ((w64 (s1+1))))else some (.inr (.inl ()))) n (0)).bind λ(rl1:(Unit)⊕Bool)=>
 match rl1 with
 |.inl s1r=>
  some true
 |.inr v=>some v
def Xt(n:Nat)(p0:D.Program)(p1:List Int):Option Bool:=
 (YI n p0).bind λx1=>
 (if(x1&&((len p1)==p0.In))then(Wn n p0.W p1)else some default).bind λx2=>
 some ((x1&&((len p1)==p0.In))&&x2)
def YR(p0:Int):Option Bool:=
 some ((decide (p0>=0))&&(decide (p0<=400)))
def strconv_Itoa(p0:Int):Option Str:=
 if-9223372036854775808<=p0/\p0<=9223372036854775807 then some ⟨Lib.itoa p0⟩else none
def ZI(p0:Int):Option Str:=
 (strconv_Itoa p0).bind λx1=>
 some x1
def Yu(n:Nat)(p0:D.Program)(p1:List Int):Option (List D.Value):=
 (mk? (len p1) ((D.Value.mk ⟨[]⟩ 0 0):D.Value)).bind λx1=>
 (iterN (λ(s1:Int×(List D.Value))=>if(decide (s1.1<(len p1)))then(get? p1 s1.1).bind λx2=>(ZI s1.1).bind λx3=>(cat? ⟨[105]⟩ x3).bind λx4=>(set? s1.2 s1.1 (D.Value.mk x4 p0.W x2)).bind λx5=>some (.inl ((w64 (s1.1+1)),x5))else some (.inr (s1.2))) n (0,x1)).bind λ(rl1:(List D.Value))=>
 some rl1
def Zk(p0:Int)(p1:Int):Option D.Term:=
 (Z0 p0 p1).bind λx1=>
 if(!x1)then
  some (D.Term.mk 0 0 0 ⟨[]⟩ ([]:List D.Term))
 else
  some (D.Term.mk 0 p0 p1 ⟨[]⟩ ([]:List D.Term))
def Xa(n:Nat)(p0:D.Program):Option D.Path:=
 (mk? 4 ((D.Term.mk 0 0 0 ⟨[]⟩ ([]:List D.Term)):D.Term)).bind λx1=>
 (mk? p0.Mem ((D.Term.mk 0 0 0 ⟨[]⟩ ([]:List D.Term)):D.Term)).bind λx2=>
 (iterN (λ(s1:Int×(List D.Term))=>if(decide (s1.1<(len x1)))then(Zk p0.W 0).bind λx3=>(set? s1.2 s1.1 (D.Term.mk x3.Op x3.W x3.N x3.Name ([]:List D.Term))).bind λx4=>some (.inl ((w64 (s1.1+1)),x4))else some (.inr (s1.2))) n (0,x1)).bind λ(rl1:(List D.Term))=>
 (iterN (λ(s2:Int×(List D.Term))=>if(decide (s2.1<(len x2)))then(Zk p0.W 0).bind λx5=>(set? s2.2 s2.1 (D.Term.mk x5.Op x5.W x5.N x5.Name ([]:List D.Term))).bind λx6=>some (.inl ((w64 (s2.1+1)),x6))else some (.inr (s2.2))) n (0,x2)).bind λ(rl2:(List D.Term))=>
 some (D.Path.mk 0 rl1 rl2 ([]:List Int) 0 ([]:List D.Term) 0 0 ([]:List D.Term) ([]:List Int))
def Vx(p0:D.Program)(p1:D.Path)(p2:D.Ins):Option Int:=
 if((p2.Op==5)&&(decide (p1.In>=p0.In)))then
  some 3
 else
  if((p2.Op==6)&&(decide ((len p1.Out)>=6)))then
   some 4
  else
   if((p2.Op==11)&&(decide ((len p1.Stack)>=3)))then
    some 7
   else
    if((p2.Op==12)&&((len p1.Stack)==0))then
     some 7
    else
     some 0
def Yw(p0:Int):Option Int:=
 if((p0==0)||(p0==22))then
  some 0
 else
  if(((((p0==1)||(p0==2))||(p0==19))||(p0==20))||(p0==21))then
   some 1
  else
   if(((decide (p0>=3))&&(decide (p0<=16)))||(p0==18))then
    some 2
   else
    if(p0==17)then
     some 3
    else
     some (-1)
def XB (p0:D.Term):Option Bool:=
 if((p0.Op==0)||(p0.Op==22))then
  some true
 else
  if((p0.Op==1)||(p0.Op==2))then
   (get? p0.Kids 0).bind λx1=>
   some (x1.W==p0.W)
  else
   if((decide (p0.Op>=3))&&(decide (p0.Op<=13)))then
    (get? p0.Kids 0).bind λx2=>
    (if(x2.W==p0.W)then(get? p0.Kids 1)else some default).bind λx3=>
    some ((x2.W==p0.W)&&(x3.W==p0.W))
   else
    if((decide (p0.Op>=14))&&(decide (p0.Op<=16)))then
     (get? p0.Kids 0).bind λx4=>
     (get? p0.Kids 1).bind λx5=>
     some ((x4.W==x5.W)&&(p0.W==1))
    else
     if(p0.Op==17)then
      (get? p0.Kids 0).bind λx6=>
      (if(x6.W==1)then(get? p0.Kids 1)else some default).bind λx7=>
      (if((x6.W==1)&&(x7.W==p0.W))then(get? p0.Kids 2)else some default).bind λx8=>
      some (((x6.W==1)&&(x7.W==p0.W))&&(x8.W==p0.W))
     else
      if(p0.Op==18)then
       (get? p0.Kids 0).bind λx9=>
       (get? p0.Kids 1).bind λx10=>
       some ((w64 (x9.W+x10.W))==p0.W)
      else
       if(p0.Op==19)then
        (if(decide (p0.N>=0))then(get? p0.Kids 0)else some default).bind λx11=>
        some ((decide (p0.N>=0))&&(decide (p0.N<=(w64 (x11.W-p0.W)))))
       else
        (get? p0.Kids 0).bind λx12=>
        some (decide (x12.W<=p0.W))
def YO(n:Nat)(p0:Str):Option Bool:=
 if((decide ((len p0.bytes)<1))||(decide ((len p0.bytes)>8)))then
  some false
 else
  (iterN (λ(s1:Int)=>if(decide (s1<(len p0.bytes)))then(sidx? p0 s1).bind λx1=>(if(decide (x1>=97))then(sidx? p0 s1)else some default).bind λx2=>(sidx? p0 s1).bind λx3=>(if(decide (x3>=48))then(sidx? p0 s1)else some default).bind λx4=>if((!((decide (x1>=97))&&(decide (x2<=122))))&&(!(((decide (x3>=48))&&(decide (x4<=57)))&&(decide (s1>0)))))then some (.inr (.inr false))else some (.inl ((w64 (s1+1))))else some (.inr (.inl ()))) n (0)).bind λ(rl1:(Unit)⊕Bool)=>
  match rl1 with
  |.inl s1r=>
   some true
  |.inr v=>some v
def Yc(n:Nat)(p0:D.termCheck)(p1:D.Term):Option (Bool×D.termCheck):=
 (YO n p1.Name).bind λx1=>
 if(!x1)then
  some (false,p0)
 else
  if(Option.isNone p0.widths)then
   (mget2? fitS (0:Int) ([]) p1.Name).bind λx2=>
   if x2.2 then
    some ((x2.1==p1.W),(D.termCheck.mk p0.count (some ([]))))
   else
    (mputE? fitS fitZ ([]) p1.Name p1.W).bind λx3=>
    some (true,(D.termCheck.mk p0.count (some x3)))
  else
   (mget2? fitS (0:Int) (Option.getD p0.widths []) p1.Name).bind λx4=>
   if x4.2 then
    some ((x4.1==p1.W),(D.termCheck.mk p0.count (some (Option.getD p0.widths []))))
   else
    (mputE? fitS fitZ (Option.getD p0.widths []) p1.Name p1.W).bind λx5=>
    some (true,(D.termCheck.mk p0.count (some x5)))
def Zr (n:Nat)(p0:D.termCheck)(p1:D.Term):Option (Bool×D.termCheck):=
 match n with
 |0=>none
 |n+1=>
 (if(decide ((w64 (p0.count+1))>240))then some default else(Zp p1.W)).bind λx1=>
 (if((decide ((w64 (p0.count+1))>240))||(!x1))then some default else(Yw p1.Op)).bind λx2=>
 if(((decide ((w64 (p0.count+1))>240))||(!x1))||((len p1.Kids)!=x2))then
  some (false,(D.termCheck.mk (w64 (p0.count+1)) p0.widths))
 else
  (iterN (λ(s1:Int)=>if(decide (s1<(len p1.Kids)))then(get? p1.Kids s1).bind λx3=>(Zp x3.W).bind λx4=>if(!x4)then some (.inr (.inr (false,(D.termCheck.mk (w64 (p0.count+1)) p0.widths))))else some (.inl ((w64 (s1+1))))else some (.inr (.inl ()))) n (0)).bind λ(rl1:(Unit)⊕(Bool×D.termCheck))=>
  match rl1 with
  | .inl s1r=>
   (XB p1).bind λx5=>
   if(!x5)then
    some (false,(D.termCheck.mk (w64 (p0.count+1)) p0.widths))
   else
    (if(p1.Op==0)then(Z0 p1.W p1.N)else some default).bind λx6=>
    if((p1.Op==0)&&(!x6))then
     some (false,(D.termCheck.mk (w64 (p0.count+1)) p0.widths))
    else
     if(((p1.Op !=0)&&(p1.Op !=19))&&(p1.N !=0))then
      some (false,(D.termCheck.mk (w64 (p0.count+1)) p0.widths))
     else
      if (p1.Op !=22)then
       if(!(Str.eqb p1.Name ⟨[]⟩))then
        some (false,(D.termCheck.mk (w64 (p0.count+1)) p0.widths))
       else
        (iterN (λ(s2:Int×Int×(Option (List (Str×Int))))=>if(decide (s2.1<(len p1.Kids)))then(get? p1.Kids s2.1).bind λx7=>(Zr n (D.termCheck.mk s2.2.1 s2.2.2) x7).bind λx8=>if(!x8.1)then some (.inr (.inr (false,x8.2)))else some (.inl ((w64 (s2.1+1)),x8.2.count,x8.2.widths))else some (.inr (.inl (s2.2.1,s2.2.2)))) n (0,(w64 (p0.count+1)),p0.widths)).bind λ(rl2:(Int×(Option (List (Str×Int))))⊕(Bool×D.termCheck))=>
        match rl2 with
        |.inl s2r=>
         some (true,(D.termCheck.mk s2r.1 s2r.2))
        |.inr v=>some v
      else
       (Yc n (D.termCheck.mk (w64 (p0.count+1)) p0.widths) p1).bind λx9=>
       if(!x9.1)then
        some (false,x9.2)
       else
        (iterN (λ(s3:Int×Int×(Option (List (Str×Int))))=>if(decide (s3.1<(len p1.Kids)))then(get? p1.Kids s3.1).bind λx10=>(Zr n (D.termCheck.mk s3.2.1 s3.2.2) x10).bind λx11=>if(!x11.1)then some (.inr (.inr (false,x11.2)))else some (.inl ((w64 (s3.1+1)),x11.2.count,x11.2.widths))else some (.inr (.inl (s3.2.1,s3.2.2)))) n (0,x9.2.count,x9.2.widths)).bind λ(rl3:(Int×(Option (List (Str×Int))))⊕(Bool×D.termCheck))=>
        match rl3 with
        |.inl s3r=>
         some (true,(D.termCheck.mk s3r.1 s3r.2))
        |.inr v=>some v
  |.inr v=>some v
def YP(n:Nat)(p0:D.Term):Option Bool:=
 (Zr n (D.termCheck.mk 0 none) p0).bind λx1=>
 some x1.1
def Zx(p0:D.Term):Option Bool:=
 some (p0.Op==0)
def Yn(p0:Int)(p1:Int):Option Int:=
 (Zp p0).bind λx1=>
 if(!x1)then
  some (-1)
 else
  (shl? 1 (IntKind.u64.wrap p0)).bind λx2=>
  some (band p1 (w64 (x2-1)))
def ZZ(p0:Int)(p1:Int)(p2:Int):Option Int:=
 (Z0 p1 p2).bind λx1=>
 if(!x1)then
  some (-1)
 else
  if(p0==1)then
   (shl? 1 (IntKind.u64.wrap p1)).bind λx2=>
   some (w64 ((w64 (x2-1))-p2))
  else
   if(p0==2)then
    (Yn p1 (w64 (0-p2))).bind λx3=>
    some x3
   else
    some (-1)
def Wy(p0:Int)(p1:Int)(p2:Int)(p3:Int):Option Int:=
 (Z0 p0 p1).bind λx1=>
 if((((!x1)||(decide (p2<0)))||(decide (p3<1)))||(decide (p3>(w64 (p0-p2)))))then
  some (-1)
 else
  (shr? p1 (IntKind.u64.wrap p2)).bind λx2=>
  (shl? 1 (IntKind.u64.wrap p3)).bind λx3=>
  some (band x2 (w64 (x3-1)))
def Yx(p0:Int)(p1:Int):Option Int:=
 (Z0 p0 p1).bind λx1=>
 if(!x1)then
  some 0
 else
  (shr? p1 (IntKind.u64.wrap (w64 (p0-1)))).bind λx2=>
  if(x2==0)then
   some p1
  else
   (shl? 1 (IntKind.u64.wrap p0)).bind λx3=>
   some (w64 (p1-x3))
def Yz(p0:Int)(p1:Int)(p2:Int)(p3:Bool):Option Int:=
 (Z0 p0 p1).bind λx1=>
 (if(!x1)then some default else(Zp p2)).bind λx2=>
 if(((!x1)||(!x2))||(decide (p2<p0)))then
  some (-1)
 else
  if p3 then
   (Yx p0 p1).bind λx3=>
   (Yn p2 x3).bind λx4=>
   some x4
  else
   some p1
def XA(p0:Int)(p1:Int)(p2:Int)(p3:Int):Option Int:=
 (Z0 p0 p1).bind λx1=>
 (if(!x1)then some default else(Z0 p2 p3)).bind λx2=>
 if(((!x1)||(!x2))||(decide ((w64 (p0+p2))>16)))then
  some (-1)
 else
  (shl? p1 (IntKind.u64.wrap p2)).bind λx3=>
  some (w64 (x3+p3))
def Wp(p0:Int)(p1:Int)(p2:Int)(p3:Int):Option Int:=
 if(p0==13)then
  (Yx p1 p2).bind λx1=>
  (shr? x1 (IntKind.u64.wrap (imin p3 (w64 (p1-1))))).bind λx2=>
  (Yn p1 x2).bind λx3=>
  some x3
 else
  if(decide (p3>=p1))then
   some 0
  else
   if(p0==11)then
    (shl? p2 (IntKind.u64.wrap p3)).bind λx4=>
    (Yn p1 x4).bind λx5=>
    some x5
   else
    (shr? p2 (IntKind.u64.wrap p3)).bind λx6=>
    some x6
def Xr(p0:Bool):Option Int:=
 if p0 then
  some 1
 else
  some 0
def ZA (p0:Int)(p1:Int)(p2:Int)(p3:Int):Option Int:=
 (Z0 p1 p2).bind λx1=>
 (if(!x1)then some default else(Z0 p1 p3)).bind λx2=>
 if((!x1)||(!x2))then
  some (-1)
 else
  if(p0==3)then
   (Yn p1 (w64 (p2+p3))).bind λx3=>
   some x3
  else
   if(p0==4)then
    (Yn p1 (w64 (p2-p3))).bind λx4=>
    some x4
   else
    if(p0==5)then
     (Yn p1 (w64 (p2*p3))).bind λx5=>
     some x5
    else
     if(p0==6)then
      if(p3==0)then
       (shl? 1 (IntKind.u64.wrap p1)).bind λx6=>
       some (w64 (x6-1))
      else
       (quo? p2 p3).bind λx7=>
       some x7
     else
      if(p0==7)then
       if(p3==0)then
        some p2
       else
        (rem? p2 p3).bind λx8=>
        some x8
      else
       if(p0==8)then
        some (band p2 p3)
       else
        if(p0==9)then
         some (bor p2 p3)
        else
         if(p0==10)then
          some (bxor p2 p3)
         else
          (if(p0==11)then some (.inl ((p0==11)))else some (.inl (((p0==12)||(p0==13))))).bind λ(rl1:(Bool)⊕Int)=>
          match rl1 with
          | .inl s1r=>
           if s1r then
            (Wp p0 p1 p2 p3).bind λx9=>
            some x9
           else
            if(p0==14)then
             (Xr (p2==p3)).bind λx10=>
             some x10
            else
             if(p0==15)then
              (Xr (decide (p2<p3))).bind λx11=>
              some x11
             else
              if(p0==16)then
               (Yx p1 p2).bind λx12=>
               (Yx p1 p3).bind λx13=>
               (Xr (decide (x12<x13))).bind λx14=>
               some x14
              else
               some (-1)
          |.inr v=>some v
def Za (n:Nat)(p0:D.Term)(p1:Option (List (Str×Int))):Option Int:=
 match n with
 |0=>none
 |n+1=>
 if(p0.Op==0)then
  some p0.N
 else
  if(p0.Op==22)then
   (mgeto? fitS (0:Int) p1 p0.Name).bind λx1=>
   some x1
  else
   if(p0.Op==17)then
    (get? p0.Kids 0).bind λx2=>
    (Za n x2 p1).bind λx3=>
    if(x3==1)then
     (get? p0.Kids 1).bind λx4=>
     (Za n x4 p1).bind λx5=>
     some x5
    else
     (get? p0.Kids 2).bind λx6=>
     (Za n x6 p1).bind λx7=>
     some x7
   else
    (get? p0.Kids 0).bind λx8=>
    (Za n x8 p1).bind λx9=>
    (get? p0.Kids 0).bind λx10=>
    if((p0.Op==1)||(p0.Op==2))then
     (ZZ p0.Op x10.W x9).bind λx11=>
     some x11
    else
     if(p0.Op==19)then
      (Wy x10.W x9 p0.N p0.W).bind λx12=>
      some x12
     else
      if((p0.Op==20)||(p0.Op==21))then
       (Yz x10.W x9 p0.W (p0.Op==21)).bind λx13=>
       some x13
      else
       (get? p0.Kids 1).bind λx14=>
       (Za n x14 p1).bind λx15=>
       if(p0.Op==18)then
        (get? p0.Kids 1).bind λx16=>
        (XA x10.W x9 x16.W x15).bind λx17=>
        some x17
       else
        (ZA p0.Op x10.W x9 x15).bind λx18=>
        some x18
def Yr(p0:D.Term):Option D.Term:=
 (get? p0.Kids 0).bind λx1=>
 if(x1.Op==p0.Op)then
  (get? x1.Kids 0).bind λx2=>
  some x2
 else
  some p0
def Z8(p0:D.Term)(p1:Int):Option Bool:=
 some ((p0.Op==0)&&(p0.N==p1))
def X4(p0:Int):Option Bool:=
 some (p0 !=p0)
def Ya(p0:Int)(p1:Int):Option Int:=
 (X4 p0).bind λx1=>
 (X4 p1).bind λx2=>
 if x1 then
  if x2 then
   some 0
  else
   some (-1)
 else
  if x2 then
   some 1
  else
   if(decide (p0<p1))then
    some (-1)
   else
    if(decide (p0>p1))then
     some 1
    else
     some 0
def strings_Compare(p0:Str)(p1:Str):Option Int:=some (Lib.compareBytes p0.bytes p1.bytes)
def ZC (n:Nat)(p0:D.Term)(p1:D.Term):Option Int:=
 match n with
 |0=>none
 |n+1=>
 (Ya p0.Op p1.Op).bind λx1=>
 if(x1 !=0)then
  some x1
 else
  (Ya p0.W p1.W).bind λx2=>
  if(x2 !=0)then
   some x2
  else
   (Ya p0.N p1.N).bind λx3=>
   if(x3 !=0)then
    some x3
   else
    (strings_Compare p0.Name p1.Name).bind λx4=>
    if(x4 !=0)then
     some x4
    else
     (iterN (λ(s1:Int)=>if((decide (s1<(len p0.Kids)))&&(decide (s1<(len p1.Kids))))then(get? p0.Kids s1).bind λx5=>(get? p1.Kids s1).bind λx6=>(ZC n x5 x6).bind λx7=>if(x7 !=0)then some (.inr (.inr x7))else some (.inl ((w64 (s1+1))))else some (.inr (.inl ()))) n (0)).bind λ(rl1:(Unit)⊕Int)=>
     match rl1 with
     |.inl s1r=>
      (Ya (len p0.Kids) (len p1.Kids)).bind λx8=>
      some x8
     |.inr v=>some v
def Yf(n:Nat)(p0:D.Term)(p1:D.Term):Option Bool:=
 (ZC n p0 p1).bind λx1=>
 some (x1==0)
def YH(p0:Int):Option Bool:=
 if(p0==3)then
  if(p0==3)then
   some true
  else
   some false
 else
  if(p0==5)then
   if(p0==5)then
    some true
   else
    some false
  else
   if(p0==8)then
    if(p0==8)then
     some true
    else
     some false
   else
    if(p0==9)then
     if(p0==9)then
      some true
     else
      some false
    else
     if((p0==10)||(p0==14))then
      some true
     else
      some false
def Vf(p0:Int):Option Int:=
 (shl? 1 (IntKind.u64.wrap p0)).bind λx1=>
 some (w64 (x1-1))
mutual
def Zm(n:Nat)(p0:Int)(p1:Int)(p2:Int)(p3:List D.Term):Option D.Term:=
 match n with
 |0=>none
 |n+1=>
 (Zu n (D.Term.mk p0 p1 p2 ⟨[]⟩ p3)).bind λx1=>
 some x1
def Zu (n:Nat)(p0:D.Term):Option D.Term:=
 match n with
 |0=>none
 |n+1=>
 if((len p0.Kids)==0)then
  some p0
 else
  (iterN (λ(s1:Bool×Int)=>if(decide (s1.2<(len p0.Kids)))then(if s1.1 then(get? p0.Kids s1.2)else some default).bind λx1=>(if s1.1 then(Zx x1)else some default).bind λx2=>some (.inl ((s1.1&&x2),(w64 (s1.2+1))))else some (.inr (s1.1))) n (true,0)).bind λ(rl1:Bool)=>
  if rl1 then
   (Za n p0 none).bind λx3=>
   (Zk p0.W x3).bind λx4=>
   some (D.Term.mk x4.Op x4.W x4.N x4.Name ([]:List D.Term))
  else
   if((p0.Op==1)||(p0.Op==2))then
    (Yr p0).bind λx5=>
    some x5
   else
    if(p0.Op==17)then
     (Yv n p0).bind λx6=>
     some x6
    else
     if(p0.Op==19)then
      (Yh n p0).bind λx7=>
      some x7
     else
      if((p0.Op==20)||(p0.Op==21))then
       (ZR n p0).bind λx8=>
       some x8
      else
       if(p0.Op==18)then
        (ZQ n p0).bind λx9=>
        some x9
       else
        (Z5 n p0).bind λx10=>
        some x10
def Yv (n:Nat)(p0:D.Term):Option D.Term:=
 match n with
 |0=>none
 |n+1=>
 (get? p0.Kids 0).bind λx1=>
 (get? p0.Kids 1).bind λx2=>
 (get? p0.Kids 2).bind λx3=>
 (Z8 x1 1).bind λx4=>
 if x4 then
  some x2
 else
  (Zx x1).bind λx5=>
  if x5 then
   some x3
  else
   (Yf n x2 x3).bind λx6=>
   if x6 then
    some x2
   else
    if(x1.Op==1)then
     (get? x1.Kids 0).bind λx7=>
     (Zm n 17 p0.W 0 ([x7,x3,x2]:List D.Term)).bind λx8=>
     some x8
    else
     (if(p0.W==1)then(Z8 x2 1)else some default).bind λx9=>
     (if((p0.W==1)&&x9)then(Z8 x3 0)else some default).bind λx10=>
     if(((p0.W==1)&&x9)&&x10)then
      some x1
     else
      (if(p0.W==1)then(Z8 x2 0)else some default).bind λx11=>
      (if((p0.W==1)&&x11)then(Z8 x3 1)else some default).bind λx12=>
      if(((p0.W==1)&&x11)&&x12)then
       (Zm n 1 1 0 ([x1]:List D.Term)).bind λx13=>
       some x13
      else
       some p0
def Yh(n:Nat)(p0:D.Term):Option D.Term:=
 match n with
 |0=>none
 |n+1=>
 (get? p0.Kids 0).bind λx1=>
 if((p0.N==0)&&(p0.W==x1.W))then
  some x1
 else
  if(x1.Op==19)then
   (get? x1.Kids 0).bind λx2=>
   (Zm n 19 p0.W (w64 (p0.N+x1.N)) ([x2]:List D.Term)).bind λx3=>
   some x3
  else
   if (x1.Op==18)then
    (get? x1.Kids 1).bind λx4=>
    if(decide ((w64 (p0.N+p0.W))<=x4.W))then
     (Zm n 19 p0.W p0.N ([x4]:List D.Term)).bind λx5=>
     some x5
    else
     if(decide (p0.N>=x4.W))then
      (get? x1.Kids 0).bind λx6=>
      (Zm n 19 p0.W (w64 (p0.N-x4.W)) ([x6]:List D.Term)).bind λx7=>
      some x7
     else
      some p0
   else
    if((x1.Op==20)||(x1.Op==21))then
     (get? x1.Kids 0).bind λx8=>
     if(decide ((w64 (p0.N+p0.W))<=x8.W))then
      (get? x1.Kids 0).bind λx9=>
      (Zm n 19 p0.W p0.N ([x9]:List D.Term)).bind λx10=>
      some x10
     else
      some p0
    else
     some p0
def ZR(n:Nat)(p0:D.Term):Option D.Term:=
 match n with
 |0=>none
 |n+1=>
 (get? p0.Kids 0).bind λx1=>
 if(p0.W==x1.W)then
  some x1
 else
  if(x1.Op==p0.Op)then
   (get? x1.Kids 0).bind λx2=>
   (Zm n p0.Op p0.W 0 ([x2]:List D.Term)).bind λx3=>
   some x3
  else
   some p0
def ZQ(n:Nat)(p0:D.Term):Option D.Term:=
 match n with
 |0=>none
 |n+1=>
 (get? p0.Kids 0).bind λx1=>
 (get? p0.Kids 1).bind λx2=>
 (if(((x1.Op==19)&&(x2.Op==19))&&(x1.N==(w64 (x2.N+x2.W))))then(get? x1.Kids 0)else some default).bind λx3=>
 (if(((x1.Op==19)&&(x2.Op==19))&&(x1.N==(w64 (x2.N+x2.W))))then(get? x2.Kids 0)else some default).bind λx4=>
 (if(((x1.Op==19)&&(x2.Op==19))&&(x1.N==(w64 (x2.N+x2.W))))then(Yf n x3 x4)else some default).bind λx5=>
 if((((x1.Op==19)&&(x2.Op==19))&&(x1.N==(w64 (x2.N+x2.W))))&&x5)then
  (get? x2.Kids 0).bind λx6=>
  (Zm n 19 p0.W x2.N ([x6]:List D.Term)).bind λx7=>
  some x7
 else
  some p0
def Z5 (n:Nat)(p0:D.Term):Option D.Term:=
 match n with
 |0=>none
 |n+1=>
 (get? p0.Kids 0).bind λx1=>
 (get? p0.Kids 1).bind λx2=>
 (YH p0.Op).bind λx3=>
 (if x3 then(ZC n x1 x2)else some default).bind λx4=>
 if(x3&&(x4==1))then
  (Zm n p0.Op p0.W 0 ([x2,x1]:List D.Term)).bind λx5=>
  some x5
 else
  (Zx x1).bind λx6=>
  (if x6 then(ZJ n p0.Op p0.W x1 x2).bind λx7=>if x7.2 then some (.inr x7.1)else some (.inl ())else some (.inl ())).bind λ(rl1:(Unit)⊕D.Term)=>
  match rl1 with
  | .inl s1r=>
   (Z8 x2 0).bind λx8=>
   (if x8 then(if(p0.Op==4)then some (.inl ((p0.Op==4)))else if(p0.Op==11)then some (.inl ((p0.Op==11)))else some (.inl (((p0.Op==12)||(p0.Op==13))))).bind λ(rl3:(Bool)⊕D.Term)=>match rl3 with| .inl s3r=>if s3r then some (.inr x1)else if(p0.Op==15)then(Zk 1 0).bind λx9=>some (.inr (D.Term.mk x9.Op x9.W x9.N x9.Name ([]:List D.Term)))else some (.inl ())|.inr v=>some (.inr v)else some (.inl ())).bind λ(rl2:(Unit)⊕D.Term)=>
   match rl2 with
   | .inl s2r=>
    (Yf n x1 x2).bind λx10=>
    (if x10 then if((p0.Op==8)||(p0.Op==9))then some (.inr x1)else(if(p0.Op==4)then some (.inl ((p0.Op==4)))else if(p0.Op==10)then some (.inl ((p0.Op==10)))else some (.inl (((p0.Op==15)||(p0.Op==16))))).bind λ(rl5:(Bool)⊕D.Term)=>match rl5 with| .inl s5r=>if s5r then(Zk p0.W 0).bind λx11=>some (.inr (D.Term.mk x11.Op x11.W x11.N x11.Name ([]:List D.Term)))else if(p0.Op==14)then(Zk 1 1).bind λx12=>some (.inr (D.Term.mk x12.Op x12.W x12.N x12.Name ([]:List D.Term)))else some (.inl ())|.inr v=>some (.inr v)else some (.inl ())).bind λ(rl4:(Unit)⊕D.Term)=>
    match rl4 with
    | .inl s4r=>
     (YH p0.Op).bind λx13=>
     (if(x13&&(p0.Op !=14))then(Zx x1)else some default).bind λx14=>
     (if(((x13&&(p0.Op !=14))&&x14)&&(x2.Op==p0.Op))then(get? x2.Kids 0)else some default).bind λx15=>
     (if(((x13&&(p0.Op !=14))&&x14)&&(x2.Op==p0.Op))then(Zx x15)else some default).bind λx16=>
     if((((x13&&(p0.Op !=14))&&x14)&&(x2.Op==p0.Op))&&x16)then
      (get? x2.Kids 0).bind λx17=>
      (ZA p0.Op p0.W x1.N x17.N).bind λx18=>
      (Zk p0.W x18).bind λx19=>
      (get? x2.Kids 1).bind λx20=>
      (Zm n p0.Op p0.W 0 ([(D.Term.mk x19.Op x19.W x19.N x19.Name ([]:List D.Term)),x20]:List D.Term)).bind λx21=>
      some x21
     else
      some p0
    |.inr v=>some v
   |.inr v=>some v
  |.inr v=>some v
def ZJ (n:Nat)(p0:Int)(p1:Int)(p2:D.Term)(p3:D.Term):Option (D.Term×Bool):=
 match n with
 |0=>none
 |n+1=>
 (Vf p2.W).bind λx1=>
 (if((p0==3)&&(p2.N==0))then some (.inl (((p0==3)&&(p2.N==0))))else if((p0==5)&&(p2.N==1))then some (.inl (((p0==5)&&(p2.N==1))))else if((p0==8)&&(p2.N==x1))then some (.inl (((p0==8)&&(p2.N==x1))))else if((p0==9)&&(p2.N==0))then some (.inl (((p0==9)&&(p2.N==0))))else if((p0==10)&&(p2.N==0))then some (.inl (((p0==10)&&(p2.N==0))))else some (.inl ((((p0==14)&&(p2.W==1))&&(p2.N==1))))).bind λ(rl1:(Bool)⊕(D.Term×Bool))=>
 match rl1 with
 | .inl s1r=>
  if s1r then
   some (p3,true)
  else
   (if((p0==5)&&(p2.N==0))then some (.inl (((p0==5)&&(p2.N==0))))else some (.inl (((p0==8)&&(p2.N==0))))).bind λ(rl2:(Bool)⊕(D.Term×Bool))=>
   match rl2 with
   | .inl s2r=>
    if s2r then
     (Zk p1 0).bind λx2=>
     some ((D.Term.mk x2.Op x2.W x2.N x2.Name ([]:List D.Term)),true)
    else
     if((p0==9)&&(p2.N==x1))then
      (Zk p1 x1).bind λx3=>
      some ((D.Term.mk x3.Op x3.W x3.N x3.Name ([]:List D.Term)),true)
     else
      if((p0==10)&&(p2.N==x1))then
       if((p0==10)&&(p2.N==x1))then
        (Zm n 1 p1 0 ([p3]:List D.Term)).bind λx4=>
        some (x4,true)
       else
        some ((D.Term.mk 0 0 0 ⟨[]⟩ ([]:List D.Term)),false)
      else
       if(((p0==14)&&(p2.W==1))&&(p2.N==0))then
        (Zm n 1 p1 0 ([p3]:List D.Term)).bind λx5=>
        some (x5,true)
       else
        some ((D.Term.mk 0 0 0 ⟨[]⟩ ([]:List D.Term)),false)
   |.inr v=>some v
 |.inr v=>some v
end
def Zy(n:Nat)(p0:Int)(p1:Int)(p2:Int)(p3:List D.Term):Option (D.Term×Bool):=
 (YP n (D.Term.mk p0 p1 p2 ⟨[]⟩ p3)).bind λx1=>
 if(!x1)then
  some ((D.Term.mk 0 0 0 ⟨[]⟩ ([]:List D.Term)),false)
 else
  (Zu n (D.Term.mk p0 p1 p2 ⟨[]⟩ p3)).bind λx2=>
  some (x2,true)
def XW(n:Nat)(p0:D.Program)(p1:D.Path)(p2:D.Ins):Option (D.Term×Bool×Bool):=
 (Zk p0.W 0).bind λx1=>
 (if((p2.Op==10)||(p2.Op==13))then(get? p1.Regs p2.A).bind λx2=>(Zy n 14 1 0 ([(D.Term.mk x1.Op x1.W x1.N x1.Name ([]:List D.Term)),x2]:List D.Term)).bind λx3=>some (.inr (x3.1,true,x3.2))else if(p2.Op==3)then if((p2.C !=6)&&(p2.C !=7))then some (.inr ((D.Term.mk 0 0 0 ⟨[]⟩ ([]:List D.Term)),false,true))else(get? p1.Regs p2.B).bind λx4=>(Zy n 14 1 0 ([(D.Term.mk x1.Op x1.W x1.N x1.Name ([]:List D.Term)),x4]:List D.Term)).bind λx5=>some (.inr (x5.1,true,x5.2))else if(p2.Op==7)then some (.inl (p2.B))else if(p2.Op==8)then some (.inl (p2.A))else some (.inr ((D.Term.mk 0 0 0 ⟨[]⟩ ([]:List D.Term)),false,true))).bind λ(rl1:(Int)⊕(D.Term×Bool×Bool))=>
 match rl1 with
 | .inl s1r=>
  (get? p1.Regs s1r).bind λx6=>
  (Zk p0.W p0.Mem).bind λx7=>
  (Zy n 15 1 0 ([x6,(D.Term.mk x7.Op x7.W x7.N x7.Name ([]:List D.Term))]:List D.Term)).bind λx8=>
  if(!x8.2)then
   some ((D.Term.mk 0 0 0 ⟨[]⟩ ([]:List D.Term)),true,false)
  else
   (Zy n 1 1 0 ([x8.1]:List D.Term)).bind λx9=>
   some (x9.1,true,x9.2)
 |.inr v=>some v
def WO(p0:D.Path)(p1:D.Ins):Option D.Path:=
 if(p1.Op==10)then
  some (D.Path.mk p1.B p0.Regs p0.Mem p0.Stack p0.In p0.Out p0.Code p0.Steps p0.Cond p0.Turns)
 else
  if(p1.Op==13)then
   some (D.Path.mk p0.Pc p0.Regs p0.Mem p0.Stack p0.In p0.Out 8 p0.Steps p0.Cond p0.Turns)
  else
   if(p1.Op==3)then
    some (D.Path.mk p0.Pc p0.Regs p0.Mem p0.Stack p0.In p0.Out 6 p0.Steps p0.Cond p0.Turns)
   else
    some (D.Path.mk p0.Pc p0.Regs p0.Mem p0.Stack p0.In p0.Out 5 p0.Steps p0.Cond p0.Turns)
def Zo(p0:List D.Term):Option (List D.Term):=
 (app? ([]:List D.Term) p0).bind λx1=>
 some x1
def Xn(p0:List D.Term)(p1:Int)(p2:D.Term):Option (List D.Term):=
 (Zo p0).bind λx1=>
 (set? x1 p1 p2).bind λx2=>
 some x2
def Xe(p0:Int)(p1:Int):Option Int:=
 (Zp p1).bind λx1=>
 if(((!x1)||(decide (p0<1)))||(decide (p0>16)))then
  some 0
 else
  if(decide (p0>=14))then
   some 1
  else
   some p1
def XO(n:Nat)(p0:D.Program)(p1:Int)(p2:D.Term)(p3:D.Term):Option (D.Term×Bool):=
 (Xe p1 p0.W).bind λx1=>
 (Zy n p1 x1 0 ([p2,p3]:List D.Term)).bind λx2=>
 if((!x2.2)||(decide (p1<14)))then
  some (x2.1,x2.2)
 else
  (Zy n 20 p0.W 0 ([x2.1]:List D.Term)).bind λx3=>
  some (x3.1,x3.2)
def Xk(n:Nat)(p0:Int)(p1:Str):Option D.Term:=
 (Zp p0).bind λx1=>
 (if(!x1)then some default else(YO n p1)).bind λx2=>
 if((!x1)||(!x2))then
  some (D.Term.mk 0 0 0 ⟨[]⟩ ([]:List D.Term))
 else
  some (D.Term.mk 22 p0 0 p1 ([]:List D.Term))
def ZG(p0:List D.Term):Option (List D.Term):=
 some p0
def WP(p0:List D.Term)(p1:D.Term):Option (List D.Term):=
 (Zo p0).bind λx1=>
 (ZG x1).bind λx2=>
 (app? x2 ([p1]:List D.Term)).bind λx3=>
 some x3
def Xh(n:Nat)(p0:D.Program)(p1:Int)(p2:D.Term)(p3:D.Term)(p4:D.Term):Option (D.Term×Bool):=
 (Zk p0.W p1).bind λx1=>
 (Zy n 14 1 0 ([(D.Term.mk x1.Op x1.W x1.N x1.Name ([]:List D.Term)),p2]:List D.Term)).bind λx2=>
 if(!x2.2)then
  some ((D.Term.mk 0 0 0 ⟨[]⟩ ([]:List D.Term)),false)
 else
  (Zy n 17 p0.W 0 ([x2.1,p3,p4]:List D.Term)).bind λx3=>
  some (x3.1,x3.2)
def Vk(n:Nat)(p0:D.Program)(p1:D.Path)(p2:D.Term):Option (D.Term×Bool):=
 (Zx p2).bind λx1=>
 if x1 then
  (get? p1.Mem p2.N).bind λx2=>
  some (x2,true)
 else
  (get? p1.Mem (w64 (p0.Mem-1))).bind λx3=>
  (iterN (λ(s1:Int×Int×Int×Int×Str×(List D.Term))=>if(decide (s1.1>=0))then(get? p1.Mem s1.1).bind λx4=>(Xh n p0 s1.1 p2 x4 (D.Term.mk s1.2.1 s1.2.2.1 s1.2.2.2.1 s1.2.2.2.2.1 s1.2.2.2.2.2)).bind λx5=>if(!x5.2)then some (.inr (.inr ((D.Term.mk 0 0 0 ⟨[]⟩ ([]:List D.Term)),false)))else some (.inl ((w64 (s1.1-1)),x5.1.Op,x5.1.W,x5.1.N,x5.1.Name,x5.1.Kids))else some (.inr (.inl (s1.2.1,s1.2.2.1,s1.2.2.2.1,s1.2.2.2.2.1,s1.2.2.2.2.2)))) n ((w64 (p0.Mem-2)),x3.Op,x3.W,x3.N,x3.Name,x3.Kids)).bind λ(rl1:(Int×Int×Int×Str×(List D.Term))⊕(D.Term×Bool))=>
  match rl1 with
  |.inl s1r=>
   some ((D.Term.mk s1r.1 s1r.2.1 s1r.2.2.1 s1r.2.2.2.1 s1r.2.2.2.2),true)
  |.inr v=>some v
def Vh(n:Nat)(p0:D.Program)(p1:D.Path)(p2:D.Term)(p3:D.Term):Option ((List D.Term)×Bool):=
 (Zx p2).bind λx1=>
 if x1 then
  (Xn p1.Mem p2.N p3).bind λx2=>
  some (x2,true)
 else
  (mk? p0.Mem ((D.Term.mk 0 0 0 ⟨[]⟩ ([]:List D.Term)):D.Term)).bind λx3=>
  (iterN (λ(s1:Int×(List D.Term))=>if(decide (s1.1<(len x3)))then(get? p1.Mem s1.1).bind λx4=>(Xh n p0 s1.1 p2 p3 x4).bind λx5=>if(!x5.2)then some (.inr (.inr (([]:List D.Term),false)))else(set? s1.2 s1.1 x5.1).bind λx6=>some (.inl ((w64 (s1.1+1)),x6))else some (.inr (.inl (s1.2)))) n (0,x3)).bind λ(rl1:((List D.Term))⊕((List D.Term)×Bool))=>
  match rl1 with
  |.inl s1r=>
   some (s1r,true)
  |.inr v=>some v
def Zi(p0:List Int):Option (List Int):=
 (app? ([]:List Int) p0).bind λx1=>
 some x1
def WN(p0:List Int)(p1:Int):Option (List Int):=
 (Zi p0).bind λx1=>
 (app? x1 ([p1]:List Int)).bind λx2=>
 some x2
def Wj (n:Nat)(p0:D.Program)(p1:D.Path)(p2:D.Ins):Option (D.Path×Bool):=
 if(p2.Op==1)then
  (Zk p0.W p2.B).bind λx1=>
  (Xn p1.Regs p2.A (D.Term.mk x1.Op x1.W x1.N x1.Name ([]:List D.Term))).bind λx2=>
  some ((D.Path.mk (w64 (p1.Pc+1)) x2 p1.Mem p1.Stack p1.In p1.Out p1.Code p1.Steps p1.Cond p1.Turns),true)
 else
  if(p2.Op==2)then
   (get? p1.Regs p2.B).bind λx3=>
   (Xn p1.Regs p2.A x3).bind λx4=>
   some ((D.Path.mk (w64 (p1.Pc+1)) x4 p1.Mem p1.Stack p1.In p1.Out p1.Code p1.Steps p1.Cond p1.Turns),true)
  else
   if(p2.Op==3)then
    (get? p1.Regs p2.A).bind λx5=>
    (get? p1.Regs p2.B).bind λx6=>
    (XO n p0 p2.C x5 x6).bind λx7=>
    (Xn p1.Regs p2.A x7.1).bind λx8=>
    some ((D.Path.mk (w64 (p1.Pc+1)) x8 p1.Mem p1.Stack p1.In p1.Out p1.Code p1.Steps p1.Cond p1.Turns),x7.2)
   else
    if(p2.Op==4)then
     (get? p1.Regs p2.A).bind λx9=>
     (Zy n 1 p0.W 0 ([x9]:List D.Term)).bind λx10=>
     (Xn p1.Regs p2.A x10.1).bind λx11=>
     some ((D.Path.mk (w64 (p1.Pc+1)) x11 p1.Mem p1.Stack p1.In p1.Out p1.Code p1.Steps p1.Cond p1.Turns),x10.2)
    else
     if(p2.Op==5)then
      (ZI p1.In).bind λx12=>
      (cat? ⟨[105]⟩ x12).bind λx13=>
      (Xk n p0.W x13).bind λx14=>
      (Xn p1.Regs p2.A (D.Term.mk x14.Op x14.W x14.N x14.Name ([]:List D.Term))).bind λx15=>
      some ((D.Path.mk (w64 (p1.Pc+1)) x15 p1.Mem p1.Stack (w64 (p1.In+1)) p1.Out p1.Code p1.Steps p1.Cond p1.Turns),true)
     else
      if(p2.Op==6)then
       (get? p1.Regs p2.A).bind λx16=>
       (WP p1.Out x16).bind λx17=>
       some ((D.Path.mk (w64 (p1.Pc+1)) p1.Regs p1.Mem p1.Stack p1.In x17 p1.Code p1.Steps p1.Cond p1.Turns),true)
      else
       if(p2.Op==7)then
        (get? p1.Regs p2.B).bind λx18=>
        (Vk n p0 p1 x18).bind λx19=>
        (Xn p1.Regs p2.A x19.1).bind λx20=>
        some ((D.Path.mk (w64 (p1.Pc+1)) x20 p1.Mem p1.Stack p1.In p1.Out p1.Code p1.Steps p1.Cond p1.Turns),x19.2)
       else
        if(p2.Op==8)then
         (get? p1.Regs p2.A).bind λx21=>
         (get? p1.Regs p2.B).bind λx22=>
         (Vh n p0 p1 x21 x22).bind λx23=>
         some ((D.Path.mk (w64 (p1.Pc+1)) p1.Regs x23.1 p1.Stack p1.In p1.Out p1.Code p1.Steps p1.Cond p1.Turns),x23.2)
        else
         if(p2.Op==9)then
          some ((D.Path.mk p2.B p1.Regs p1.Mem p1.Stack p1.In p1.Out p1.Code p1.Steps p1.Cond p1.Turns),true)
         else
          if(p2.Op==11)then
           (WN p1.Stack (w64 (p1.Pc+1))).bind λx24=>
           some ((D.Path.mk p2.B p1.Regs p1.Mem x24 p1.In p1.Out p1.Code p1.Steps p1.Cond p1.Turns),true)
          else
           if(p2.Op==12)then
            (get? p1.Stack (w64 ((len p1.Stack)-1))).bind λx25=>
            (cut? p1.Stack 0 (w64 ((len p1.Stack)-1))).bind λx26=>
            (Zi x26).bind λx27=>
            some ((D.Path.mk x25 p1.Regs p1.Mem x27 p1.In p1.Out p1.Code p1.Steps p1.Cond p1.Turns),true)
           else
            if(p2.Op==14)then
             some ((D.Path.mk p1.Pc p1.Regs p1.Mem p1.Stack p1.In p1.Out 1 p1.Steps p1.Cond p1.Turns),true)
            else
             some ((D.Path.mk (w64 (p1.Pc+1)) p1.Regs p1.Mem p1.Stack p1.In p1.Out p1.Code p1.Steps p1.Cond p1.Turns),true)
def WZ(n:Nat)(p0:D.Program)(p1:D.Path)(p2:D.Ins):Option (List D.Path):=
 (XW n p0 p1 p2).bind λx1=>
 if(!x1.2.2)then
  some ([(D.Path.mk p1.Pc p1.Regs p1.Mem p1.Stack p1.In p1.Out 9 p1.Steps p1.Cond p1.Turns)]:List D.Path)
 else
  (if x1.2.1 then(Z8 x1.1 1)else some default).bind λx2=>
  if(x1.2.1&&x2)then
   (WO p1 p2).bind λx3=>
   some ([x3]:List D.Path)
  else
   (Wj n p0 p1 p2).bind λx4=>
   if(!x4.2)then
    some ([(D.Path.mk p1.Pc p1.Regs p1.Mem p1.Stack p1.In p1.Out 9 p1.Steps p1.Cond p1.Turns)]:List D.Path)
   else
    (if(!x1.2.1)then some default else(Zx x1.1)).bind λx5=>
    if((!x1.2.1)||x5)then
     some ([x4.1]:List D.Path)
    else
     (Zy n 1 1 0 ([x1.1]:List D.Term)).bind λx6=>
     if(((!x6.2)||(decide ((len p1.Cond)>=60)))||(decide ((len p1.Turns)>=60)))then
      some ([(D.Path.mk p1.Pc p1.Regs p1.Mem p1.Stack p1.In p1.Out 9 p1.Steps p1.Cond p1.Turns)]:List D.Path)
     else
      (WO p1 p2).bind λx7=>
      (WP p1.Cond x1.1).bind λx8=>
      (WN p1.Turns 1).bind λx9=>
      (WP p1.Cond x6.1).bind λx10=>
      (WN p1.Turns 0).bind λx11=>
      some ([(D.Path.mk x7.Pc x7.Regs x7.Mem x7.Stack x7.In x7.Out x7.Code x7.Steps x8 x9),(D.Path.mk x4.1.Pc x4.1.Regs x4.1.Mem x4.1.Stack x4.1.In x4.1.Out x4.1.Code x4.1.Steps x10 x11)]:List D.Path)
def Yl(n:Nat)(p0:D.Program)(p1:D.Path):Option (List D.Path):=
 if((p1.Code !=0)||(decide (p1.Steps>=400)))then
  some ([]:List D.Path)
 else
  if(p1.Pc==(len p0.Code))then
   some ([(D.Path.mk p1.Pc p1.Regs p1.Mem p1.Stack p1.In p1.Out 2 p1.Steps p1.Cond p1.Turns)]:List D.Path)
  else
   (get? p0.Code p1.Pc).bind λx1=>
   (Vx p0 (D.Path.mk p1.Pc p1.Regs p1.Mem p1.Stack p1.In p1.Out p1.Code (w64 (p1.Steps+1)) p1.Cond p1.Turns) x1).bind λx2=>
   if(x2 !=0)then
    some ([(D.Path.mk p1.Pc p1.Regs p1.Mem p1.Stack p1.In p1.Out x2 (w64 (p1.Steps+1)) p1.Cond p1.Turns)]:List D.Path)
   else
    (WZ n p0 (D.Path.mk p1.Pc p1.Regs p1.Mem p1.Stack p1.In p1.Out p1.Code (w64 (p1.Steps+1)) p1.Cond p1.Turns) x1).bind λx3=>
    some x3
def Vp(n:Nat)(p0:D.Program)(p1:List Int)(p2:Int):Option D.Path:=
 (Yu n p0 p1).bind λx1=>
 (iterN (λ(s1:Int×(List (Str×Int)))=>if(decide (s1.1<(len x1)))then(get? x1 s1.1).bind λx2=>(mputE? fitS fitZ s1.2 x2.Name x2.N).bind λx3=>some (.inl ((w64 (s1.1+1)),x3))else some (.inr (s1.2))) n (0,[])).bind λ(rl1:(List (Str×Int)))=>
 (Xa n p0).bind λx4=>
 (iterN (λ(s2:Int×Int×(List D.Term)×(List D.Term)×(List Int)×Int×(List D.Term)×Int×Int×(List D.Term)×(List Int))=>if (decide (s2.1<p2))then(Yl n p0 (D.Path.mk s2.2.1 s2.2.2.1 s2.2.2.2.1 s2.2.2.2.2.1 s2.2.2.2.2.2.1 s2.2.2.2.2.2.2.1 s2.2.2.2.2.2.2.2.1 s2.2.2.2.2.2.2.2.2.1 s2.2.2.2.2.2.2.2.2.2.1 s2.2.2.2.2.2.2.2.2.2.2)).bind λx5=>if((len x5)==0)then some (.inr (.inr (D.Path.mk s2.2.1 s2.2.2.1 s2.2.2.2.1 s2.2.2.2.2.1 s2.2.2.2.2.2.1 s2.2.2.2.2.2.2.1 s2.2.2.2.2.2.2.2.1 s2.2.2.2.2.2.2.2.2.1 s2.2.2.2.2.2.2.2.2.2.1 s2.2.2.2.2.2.2.2.2.2.2)))else(if((len x5)==2)then(get? x5 0)else some default).bind λx6=>(if((len x5)==2)then(get? x6.Cond (len s2.2.2.2.2.2.2.2.2.2.1))else some default).bind λx7=>(if((len x5)==2)then(Za n x7 (some rl1))else some default).bind λx8=>if(((len x5)==2)&&(x8 !=1))then(get? x5 1).bind λx9=>some (.inl ((w64 (s2.1+1)),x9.Pc,x9.Regs,x9.Mem,x9.Stack,x9.In,x9.Out,x9.Code,x9.Steps,x9.Cond,x9.Turns))else(get? x5 0).bind λx10=>some (.inl ((w64 (s2.1+1)),x10.Pc,x10.Regs,x10.Mem,x10.Stack,x10.In,x10.Out,x10.Code,x10.Steps,x10.Cond,x10.Turns))else some (.inr (.inl (s2.2.1,s2.2.2.1,s2.2.2.2.1,s2.2.2.2.2.1,s2.2.2.2.2.2.1,s2.2.2.2.2.2.2.1,s2.2.2.2.2.2.2.2.1,s2.2.2.2.2.2.2.2.2.1,s2.2.2.2.2.2.2.2.2.2.1,s2.2.2.2.2.2.2.2.2.2.2)))) n (0,x4.Pc,x4.Regs,x4.Mem,x4.Stack,x4.In,x4.Out,x4.Code,x4.Steps,x4.Cond,x4.Turns)).bind λ(rl2:(Int×(List D.Term)×(List D.Term)×(List Int)×Int×(List D.Term)×Int×Int×(List D.Term)×(List Int))⊕D.Path)=>
 match rl2 with
 |.inl s2r=>
  some (D.Path.mk s2r.1 s2r.2.1 s2r.2.2.1 s2r.2.2.2.1 s2r.2.2.2.2.1 s2r.2.2.2.2.2.1 s2r.2.2.2.2.2.2.1 s2r.2.2.2.2.2.2.2.1 s2r.2.2.2.2.2.2.2.2.1 s2r.2.2.2.2.2.2.2.2.2)
 |.inr v=>some v
mutual
def YX(n:Nat)(p0:D.Term):Option D.Term:=
 match n with
 |0=>none
 |n+1=>
 (ZH n p0.Kids).bind λx1=>
 some (D.Term.mk p0.Op p0.W p0.N p0.Name x1)
def ZH(n:Nat)(p0:List D.Term):Option (List D.Term):=
 match n with
 |0=>none
 |n+1=>
 if((len p0)==0)then
  some ([]:List D.Term)
 else
  (mk? (len p0) ((D.Term.mk 0 0 0 ⟨[]⟩ ([]:List D.Term)):D.Term)).bind λx1=>
  (iterN (λ(s1:Int×(List D.Term))=>if(decide (s1.1<(len p0)))then(get? p0 s1.1).bind λx2=>(YX n x2).bind λx3=>(set? s1.2 s1.1 x3).bind λx4=>some (.inl ((w64 (s1.1+1)),x4))else some (.inr (s1.2))) n (0,x1)).bind λ(rl1:(List D.Term))=>
  some rl1
end
def Y9(n:Nat)(p0:D.Path):Option D.Path:=
 (ZH n p0.Regs).bind λx1=>
 (ZH n p0.Mem).bind λx2=>
 (Zi p0.Stack).bind λx3=>
 (ZH n p0.Out).bind λx4=>
 (ZH n p0.Cond).bind λx5=>
 (Zi p0.Turns).bind λx6=>
 some (D.Path.mk p0.Pc x1 x2 x3 p0.In x4 p0.Code p0.Steps x5 x6)
def Wx(n:Nat)(p0:D.Program)(p1:List Int)(p2:Int):Option (D.Path×Bool):=
 (Xt n p0 p1).bind λx1=>
 (if(!x1)then some default else(YR p2)).bind λx2=>
 if((!x1)||(!x2))then
  some ((D.Path.mk 0 ([]:List D.Term) ([]:List D.Term) ([]:List Int) 0 ([]:List D.Term) 0 0 ([]:List D.Term) ([]:List Int)),false)
 else
  (Vp n p0 p1 p2).bind λx3=>
  (Y9 n x3).bind λx4=>
  some (x4,true)
def XH(n:Nat)(p0:List Int):Option Bool:=
 (iterN (λ(s1:Int)=>if(decide (s1<(len p0)))then(get? p0 s1).bind λx1=>if((x1 !=0)&&(x1 !=1))then some (.inr (.inr false))else some (.inl ((w64 (s1+1))))else some (.inr (.inl ()))) n (0)).bind λ(rl1:(Unit)⊕Bool)=>
 match rl1 with
 |.inl s1r=>
  some true
 |.inr v=>some v
def WV(n:Nat)(p0:D.Program)(p1:List Int)(p2:Int):Option (D.Path×Bool):=
 (Xa n p0).bind λx1=>
 (iterN (λ(s1:Int×Int×Int×(List D.Term)×(List D.Term)×(List Int)×Int×(List D.Term)×Int×Int×(List D.Term)×(List Int))=>if (decide (s1.2.1<p2))then(Yl n p0 (D.Path.mk s1.2.2.1 s1.2.2.2.1 s1.2.2.2.2.1 s1.2.2.2.2.2.1 s1.2.2.2.2.2.2.1 s1.2.2.2.2.2.2.2.1 s1.2.2.2.2.2.2.2.2.1 s1.2.2.2.2.2.2.2.2.2.1 s1.2.2.2.2.2.2.2.2.2.2.1 s1.2.2.2.2.2.2.2.2.2.2.2)).bind λx2=>if(((len x2)==0)||(((len x2)==2)&&(s1.1==(len p1))))then some (.inr (s1.1,s1.2.2.1,s1.2.2.2.1,s1.2.2.2.2.1,s1.2.2.2.2.2.1,s1.2.2.2.2.2.2.1,s1.2.2.2.2.2.2.2.1,s1.2.2.2.2.2.2.2.2.1,s1.2.2.2.2.2.2.2.2.2.1,s1.2.2.2.2.2.2.2.2.2.2.1,s1.2.2.2.2.2.2.2.2.2.2.2))else if((len x2)==1)then(get? x2 0).bind λx3=>some (.inl (s1.1,(w64 (s1.2.1+1)),x3.Pc,x3.Regs,x3.Mem,x3.Stack,x3.In,x3.Out,x3.Code,x3.Steps,x3.Cond,x3.Turns))else(get? p1 s1.1).bind λx4=>(get? x2 (w64 (1-x4))).bind λx5=>some (.inl ((w64 (s1.1+1)),(w64 (s1.2.1+1)),x5.Pc,x5.Regs,x5.Mem,x5.Stack,x5.In,x5.Out,x5.Code,x5.Steps,x5.Cond,x5.Turns))else some (.inr (s1.1,s1.2.2.1,s1.2.2.2.1,s1.2.2.2.2.1,s1.2.2.2.2.2.1,s1.2.2.2.2.2.2.1,s1.2.2.2.2.2.2.2.1,s1.2.2.2.2.2.2.2.2.1,s1.2.2.2.2.2.2.2.2.2.1,s1.2.2.2.2.2.2.2.2.2.2.1,s1.2.2.2.2.2.2.2.2.2.2.2))) n (0,0,x1.Pc,x1.Regs,x1.Mem,x1.Stack,x1.In,x1.Out,x1.Code,x1.Steps,x1.Cond,x1.Turns)).bind λ(rl1:Int×Int×(List D.Term)×(List D.Term)×(List Int)×Int×(List D.Term)×Int×Int×(List D.Term)×(List Int))=>
 some ((D.Path.mk rl1.2.1 rl1.2.2.1 rl1.2.2.2.1 rl1.2.2.2.2.1 rl1.2.2.2.2.2.1 rl1.2.2.2.2.2.2.1 rl1.2.2.2.2.2.2.2.1 rl1.2.2.2.2.2.2.2.2.1 rl1.2.2.2.2.2.2.2.2.2.1 rl1.2.2.2.2.2.2.2.2.2.2),(rl1.1==(len p1)))
def XV(n:Nat)(p0:D.Program)(p1:List Int)(p2:Int):Option (D.Path×Bool):=
 (YI n p0).bind λx1=>
 (if(!x1)then some default else(YR p2)).bind λx2=>
 (if((!x1)||(!x2))then some default else(XH n p1)).bind λx3=>
 if(((!x1)||(!x2))||(!x3))then
  some ((D.Path.mk 0 ([]:List D.Term) ([]:List D.Term) ([]:List Int) 0 ([]:List D.Term) 0 0 ([]:List D.Term) ([]:List Int)),false)
 else
  (WV n p0 p1 p2).bind λx4=>
  if(!x4.2)then
   some ((D.Path.mk 0 ([]:List D.Term) ([]:List D.Term) ([]:List Int) 0 ([]:List D.Term) 0 0 ([]:List D.Term) ([]:List Int)),false)
  else
   (Y9 n x4.1).bind λx5=>
   some (x5,true)
def Xi(p0:D.Program)(p1:Int):Option Bool:=
 some ((decide (p1>=0))&&(decide (p1<=(len p0.Code))))
def YS(n:Nat)(p0:Int)(p1:List D.Term):Option Bool:=
 (iterN (λ(s1:Int)=>if(decide (s1<(len p1)))then(get? p1 s1).bind λx1=>(if(x1.W !=p0)then some default else(get? p1 s1)).bind λx2=>(if(x1.W !=p0)then some default else(YP n x2)).bind λx3=>if((x1.W !=p0)||(!x3))then some (.inr (.inr false))else some (.inl ((w64 (s1+1))))else some (.inr (.inl ()))) n (0)).bind λ(rl1:(Unit)⊕Bool)=>
 match rl1 with
 |.inl s1r=>
  some true
 |.inr v=>some v
def Wi(n:Nat)(p0:D.Program)(p1:D.Path):Option Bool:=
 (YI n p0).bind λx1=>
 (if(!x1)then some default else(Xi p0 p1.Pc)).bind λx2=>
 if((((!x1)||(!x2))||((len p1.Regs)!=4))||((len p1.Mem)!=p0.Mem))then
  some false
 else
  if((((decide ((len p1.Stack)>3))||(decide (p1.In<0)))||(decide (p1.In>p0.In)))||(decide ((len p1.Out)>6)))then
   some false
  else
   (iterN (λ(s1:Int)=>if(decide (s1<(len p1.Stack)))then(get? p1.Stack s1).bind λx3=>(Xi p0 x3).bind λx4=>if(!x4)then some (.inr (.inr false))else some (.inl ((w64 (s1+1))))else some (.inr (.inl ()))) n (0)).bind λ(rl1:(Unit)⊕Bool)=>
   match rl1 with
   | .inl s1r=>
    (if((decide (p1.Code<0))||(decide (p1.Code>9)))then some default else(YR p1.Steps)).bind λx5=>
    if(((decide (p1.Code<0))||(decide (p1.Code>9)))||(!x5))then
     some false
    else
     (if((decide ((len p1.Cond)>60))||(decide ((len p1.Turns)>60)))then some default else(XH n p1.Turns)).bind λx6=>
     if(((decide ((len p1.Cond)>60))||(decide ((len p1.Turns)>60)))||(!x6))then
      some false
     else
      (YS n p0.W p1.Regs).bind λx7=>
      (if x7 then(YS n p0.W p1.Mem)else some default).bind λx8=>
      (if(x7&&x8)then(YS n p0.W p1.Out)else some default).bind λx9=>
      (if((x7&&x8)&&x9)then(YS n 1 p1.Cond)else some default).bind λx10=>
      some (((x7&&x8)&&x9)&&x10)
   |.inr v=>some v
def Xv(n:Nat)(p0:List D.Value):Option Bool:=
 if(decide ((len p0)>30))then
  some false
 else
  (iterN (λ(s1:Int)=>if (decide (s1<(len p0)))then(get? p0 s1).bind λx1=>(YO n x1.Name).bind λx2=>(if(!x2)then some default else(Z0 x1.W x1.N)).bind λx3=>if((!x2)||(!x3))then some (.inr (.inr false))else(if(decide (s1>0))then(get? p0 (w64 (s1-1)))else some default).bind λx4=>if((decide (s1>0))&&(Str.geb x4.Name x1.Name))then some (.inr (.inr false))else some (.inl ((w64 (s1+1))))else some (.inr (.inl ()))) n (0)).bind λ(rl1:(Unit)⊕Bool)=>
  match rl1 with
  |.inl s1r=>
   some true
  |.inr v=>some v
def ZU(n:Nat)(p0:D.Term)(p1:Option (List (Str×Int))):Option (Option (List (Str×Int))):=
 match n with
 |0=>none
 |n+1=>
 if (p0.Op==22)then
  p1.bind λx1=>
  (mputE? fitS fitZ x1 p0.Name p0.W).bind λx2=>
  (iterN (λ(s1:Int×(Option (List (Str×Int))))=>if(decide (s1.1<(len p0.Kids)))then(get? p0.Kids s1.1).bind λx3=>(ZU n x3 s1.2).bind λx4=>some (.inl ((w64 (s1.1+1)),x4))else some (.inr (s1.2))) n (0,(some x2))).bind λ(rl1:(Option (List (Str×Int))))=>
  some rl1
 else
  (iterN (λ(s2:Int×(Option (List (Str×Int))))=>if(decide (s2.1<(len p0.Kids)))then(get? p0.Kids s2.1).bind λx5=>(ZU n x5 s2.2).bind λx6=>some (.inl ((w64 (s2.1+1)),x6))else some (.inr (s2.2))) n (0,p1)).bind λ(rl2:(Option (List (Str×Int))))=>
  some rl2
def Vj(n:Nat)(p0:D.Term):Option (List D.Value):=
 (YP n p0).bind λx1=>
 if(!x1)then
  some ([]:List D.Value)
 else
  (ZU n p0 (some [])).bind λx2=>
  x2.bind λx3=>
  if x3.length<=1048576 then some (vtab x3)else none
def Ye(n:Nat)(p0:D.Term)(p1:List D.Value):Option (Int×Bool):=
 (YP n p0).bind λx1=>
 (if(!x1)then some default else(Xv n p1)).bind λx2=>
 if((!x1)||(!x2))then
  some (0,false)
 else
  (iterN (λ(s1:Int×(List (Str×Int))×(List (Str×Int)))=>if(decide (s1.1<(len p1)))then(get? p1 s1.1).bind λx3=>(mputE? fitS fitZ s1.2.1 x3.Name x3.N).bind λx4=>(mputE? fitS fitZ s1.2.2 x3.Name x3.W).bind λx5=>some (.inl ((w64 (s1.1+1)),x4,x5))else some (.inr (s1.2.1,s1.2.2))) n (0,[],[])).bind λ(rl1:(List (Str×Int))×(List (Str×Int)))=>
  (Vj n p0).bind λx6=>
  (iterN (λ(s2:Int)=>if(decide (s2<(len x6)))then(get? x6 s2).bind λx7=>(mget2? fitS (0:Int) rl1.2 x7.Name).bind λx8=>if((!x8.2)||(x8.1 !=x7.W))then some (.inr (.inr (0,false)))else some (.inl ((w64 (s2+1))))else some (.inr (.inl ()))) n (0)).bind λ(rl2:(Unit)⊕(Int×Bool))=>
  match rl2 with
  |.inl s2r=>
   (Za n p0 (some rl1.1)).bind λx9=>
   some (x9,true)
  |.inr v=>some v
def X5(n:Nat)(p0:D.Program)(p1:D.Path)(p2:List Int):Option Bool:=
 (Wi n p0 p1).bind λx1=>
 (if(!x1)then some default else(Xt n p0 p2)).bind λx2=>
 if((!x1)||(!x2))then
  some false
 else
  (Yu n p0 p2).bind λx3=>
  (iterN (λ(s1:Int)=>if(decide (s1<(len p1.Cond)))then(get? p1.Cond s1).bind λx4=>(Ye n x4 x3).bind λx5=>if((!x5.2)||(x5.1 !=1))then some (.inr (.inr false))else some (.inl ((w64 (s1+1))))else some (.inr (.inl ()))) n (0)).bind λ(rl1:(Unit)⊕Bool)=>
  match rl1 with
  |.inl s1r=>
   some true
  |.inr v=>some v
def YC(n:Nat)(p0:List D.Term)(p1:List D.Value):Option ((List Int)×Bool):=
 (mk? (len p0) (0:Int)).bind λx1=>
 (iterN (λ(s1:Int×(List Int))=>if(decide (s1.1<(len p0)))then(get? p0 s1.1).bind λx2=>(Ye n x2 p1).bind λx3=>if(!x3.2)then some (.inr (.inr (([]:List Int),false)))else(set? s1.2 s1.1 x3.1).bind λx4=>some (.inl ((w64 (s1.1+1)),x4))else some (.inr (.inl (s1.2)))) n (0,x1)).bind λ(rl1:((List Int))⊕((List Int)×Bool))=>
 match rl1 with
 |.inl s1r=>
  some (s1r,true)
 |.inr v=>some v
def XU(n:Nat)(p0:D.Program)(p1:D.Path)(p2:List Int):Option (D.State×Bool):=
 (X5 n p0 p1 p2).bind λx1=>
 if(!x1)then
  some ((D.State.mk 0 ([]:List Int) ([]:List Int) ([]:List Int) 0 ([]:List Int) 0 0),false)
 else
  (Yu n p0 p2).bind λx2=>
  (YC n p1.Regs x2).bind λx3=>
  (YC n p1.Mem x2).bind λx4=>
  (YC n p1.Out x2).bind λx5=>
  if(((!x3.2)||(!x4.2))||(!x5.2))then
   some ((D.State.mk 0 ([]:List Int) ([]:List Int) ([]:List Int) 0 ([]:List Int) 0 0),false)
  else
   (Zi p1.Stack).bind λx6=>
   some ((D.State.mk p1.Pc x3.1 x4.1 x6 p1.In x5.1 p1.Code p1.Steps),true)
mutual
def WJ(n:Nat)(p0:D.Term)(p1:D.Term):Option Bool:=
 match n with
 |0=>none
 |n+1=>
 (if((((p0.Op==p1.Op)&&(p0.W==p1.W))&&(p0.N==p1.N))&&(Str.eqb p0.Name p1.Name))then(Xm n p0.Kids p1.Kids)else some default).bind λx1=>
 some (((((p0.Op==p1.Op)&&(p0.W==p1.W))&&(p0.N==p1.N))&&(Str.eqb p0.Name p1.Name))&&x1)
def Xm(n:Nat)(p0:List D.Term)(p1:List D.Term):Option Bool:=
 match n with
 |0=>none
 |n+1=>
 (iterN (λ(s1:Int)=>if(decide (s1<(len p0)))then(get? p0 s1).bind λx1=>(if(decide (s1>=(len p1)))then some default else(get? p1 s1)).bind λx2=>(if(decide (s1>=(len p1)))then some default else(WJ n x1 x2)).bind λx3=>if((decide (s1>=(len p1)))||(!x3))then some (.inr (.inr false))else some (.inl ((w64 (s1+1))))else some (.inr (.inl ()))) n (0)).bind λ(rl1:(Unit)⊕Bool)=>
 match rl1 with
 |.inl s1r=>
  some ((len p0)==(len p1))
 |.inr v=>some v
end
def Xw(n:Nat)(p0:List Int)(p1:List Int):Option Bool:=
 (iterN (λ(s1:Int)=>if(decide (s1<(len p0)))then(get? p0 s1).bind λx1=>(if(decide (s1>=(len p1)))then some default else(get? p1 s1)).bind λx2=>if((decide (s1>=(len p1)))||(x2 !=x1))then some (.inr (.inr false))else some (.inl ((w64 (s1+1))))else some (.inr (.inl ()))) n (0)).bind λ(rl1:(Unit)⊕Bool)=>
 match rl1 with
 |.inl s1r=>
  some ((len p0)==(len p1))
 |.inr v=>some v
def VX(n:Nat)(p0:D.Path)(p1:D.Path):Option Bool:=
 (if(p0.Pc==p1.Pc)then(Xm n p0.Regs p1.Regs)else some default).bind λx1=>
 (if((p0.Pc==p1.Pc)&&x1)then(Xm n p0.Mem p1.Mem)else some default).bind λx2=>
 (if(((p0.Pc==p1.Pc)&&x1)&&x2)then(Xw n p0.Stack p1.Stack)else some default).bind λx3=>
 (if(((((p0.Pc==p1.Pc)&&x1)&&x2)&&x3)&&(p0.In==p1.In))then(Xm n p0.Out p1.Out)else some default).bind λx4=>
 (if((((((((p0.Pc==p1.Pc)&&x1)&&x2)&&x3)&&(p0.In==p1.In))&&x4)&&(p0.Code==p1.Code))&&(p0.Steps==p1.Steps))then(Xm n p0.Cond p1.Cond)else some default).bind λx5=>
 (if(((((((((p0.Pc==p1.Pc)&&x1)&&x2)&&x3)&&(p0.In==p1.In))&&x4)&&(p0.Code==p1.Code))&&(p0.Steps==p1.Steps))&&x5)then(Xw n p0.Turns p1.Turns)else some default).bind λx6=>
 some ((((((((((p0.Pc==p1.Pc)&&x1)&&x2)&&x3)&&(p0.In==p1.In))&&x4)&&(p0.Code==p1.Code))&&(p0.Steps==p1.Steps))&&x5)&&x6)
def Zw(p0:Int)(p1:Int):Option Bool:=
 (Zd p0 1 16).bind λx1=>
 (if x1 then(shl? 1 p0)else some default).bind λx2=>
 (if x1 then(Zd p1 0 (w64 (x2-1)))else some default).bind λx3=>
 some (x1&&x3)
def ZO(p0:Int):Option Bool:=
 (Zd p0 0 3).bind λx1=>
 some x1
def Ym (p0:D.Ins)(p1:Int)(p2:Int):Option Bool:=
 (Zd p0.B 0 p2).bind λx1=>
 if(p0.Op==1)then
  (ZO p0.A).bind λx2=>
  (if x2 then(Zw p1 p0.B)else some default).bind λx3=>
  some ((x2&&x3)&&(p0.C==0))
 else
  (if(p0.Op==2)then some (.inl ((p0.Op==2)))else some (.inl (((p0.Op==7)||(p0.Op==8))))).bind λ(rl1:(Bool)⊕Bool)=>
  match rl1 with
  | .inl s1r=>
   if s1r then
    (ZO p0.A).bind λx4=>
    (if x4 then(ZO p0.B)else some default).bind λx5=>
    some ((x4&&x5)&&(p0.C==0))
   else
    if(p0.Op==3)then
     (ZO p0.A).bind λx6=>
     (if x6 then(ZO p0.B)else some default).bind λx7=>
     (if(x6&&x7)then(Zd p0.C 3 16)else some default).bind λx8=>
     some ((x6&&x7)&&x8)
    else
     (if(p0.Op==4)then some (.inl ((p0.Op==4)))else if(p0.Op==5)then some (.inl ((p0.Op==5)))else some (.inl (((p0.Op==6)||(p0.Op==13))))).bind λ(rl2:(Bool)⊕Bool)=>
     match rl2 with
     | .inl s2r=>
      if s2r then
       (ZO p0.A).bind λx9=>
       some ((x9&&(p0.B==0))&&(p0.C==0))
      else
       if((p0.Op==9)||(p0.Op==11))then
        some (((p0.A==0)&&x1)&&(p0.C==0))
       else
        if(p0.Op==10)then
         (ZO p0.A).bind λx10=>
         some ((x10&&x1)&&(p0.C==0))
        else
         if((p0.Op==12)||(p0.Op==14))then
          some (((p0.A==0)&&(p0.B==0))&&(p0.C==0))
         else
          some false
     |.inr v=>some v
  |.inr v=>some v
def Xb(n:Nat)(p0:D.Program):Option Bool:=
 (Zd p0.W 2 8).bind λx1=>
 (if(!x1)then some default else(Zd p0.Mem 1 6)).bind λx2=>
 (if((!x1)||(!x2))then some default else(Zw p0.W p0.Mem)).bind λx3=>
 (if(((!x1)||(!x2))||(!x3))then some default else(Zd p0.In 0 3)).bind λx4=>
 (if((((!x1)||(!x2))||(!x3))||(!x4))then some default else(Zd (len p0.Code) 1 40)).bind λx5=>
 if(((((!x1)||(!x2))||(!x3))||(!x4))||(!x5))then
  some false
 else
  (iterN (λ(s1:Int)=>if(decide (s1<(len p0.Code)))then(get? p0.Code s1).bind λx6=>(Ym x6 p0.W (len p0.Code)).bind λx7=>if(!x7)then some (.inr (.inr false))else some (.inl ((w64 (s1+1))))else some (.inr (.inl ()))) n (0)).bind λ(rl1:(Unit)⊕Bool)=>
  match rl1 with
  |.inl s1r=>
   some true
  |.inr v=>some v
def XT(n:Nat)(p0:List Int)(p1:Int)(p2:Int):Option Bool:=
 (iterN (λ(s1:Int)=>if(decide (s1<(len p0)))then(get? p0 s1).bind λx1=>(Zw p2 x1).bind λx2=>if(!x2)then some (.inr (.inr false))else some (.inl ((w64 (s1+1))))else some (.inr (.inl ()))) n (0)).bind λ(rl1:(Unit)⊕Bool)=>
 match rl1 with
 |.inl s1r=>
  some ((len p0)==p1)
 |.inr v=>some v
def XR(n:Nat)(p0:D.Program)(p1:List Int):Option Bool:=
 (Xb n p0).bind λx1=>
 (if x1 then(XT n p1 p0.In p0.W)else some default).bind λx2=>
 some (x1&&x2)
def WX(n:Nat)(p0:D.Program):Option D.State:=
 (Xb n p0).bind λx1=>
 if(!x1)then
  some (D.State.mk 0 ([]:List Int) ([]:List Int) ([]:List Int) 0 ([]:List Int) 0 0)
 else
  (mk? 4 (0:Int)).bind λx2=>
  (mk? p0.Mem (0:Int)).bind λx3=>
  some (D.State.mk 0 x2 x3 ([]:List Int) 0 ([]:List Int) 0 0)
def Vd (p0:D.Program)(p1:D.State)(p2:D.Ins):Option Int:=
 if(p2.Op==5)then
  if(p1.In==p0.In)then
   some 3
  else
   some 0
 else
  if(p2.Op==6)then
   if((len p1.Out)==6)then
    some 4
   else
    some 0
  else
   if(p2.Op==7)then
    (get? p1.Regs p2.B).bind λx1=>
    if(decide (x1>=p0.Mem))then
     some 5
    else
     some 0
   else
    if(p2.Op==8)then
     (get? p1.Regs p2.A).bind λx2=>
     if(decide (x2>=p0.Mem))then
      some 5
     else
      some 0
    else
     if(p2.Op==3)then
      (if((p2.C==6)||(p2.C==7))then(get? p1.Regs p2.B)else some default).bind λx3=>
      if(((p2.C==6)||(p2.C==7))&&(x3==0))then
       some 6
      else
       some 0
     else
      if(p2.Op==11)then
       if((len p1.Stack)==3)then
        some 7
       else
        some 0
      else
       if(p2.Op==12)then
        if((len p1.Stack)==0)then
         some 7
        else
         some 0
       else
        if(p2.Op==13)then
         (get? p1.Regs p2.A).bind λx4=>
         if(x4==0)then
          some 8
         else
          some 0
        else
         if(p2.Op==14)then
          some 1
         else
          some 0
def Yd(p0:Int)(p1:Int):Option Int:=
 (Zw p0 p1).bind λx1=>
 if(!x1)then
  some 0
 else
  (shr? p1 (w64 (p0-1))).bind λx2=>
  if(x2==1)then
   (shl? 1 p0).bind λx3=>
   some (w64 (p1-x3))
  else
   some p1
def YW(p0:Bool):Option Int:=
 if p0 then
  some 1
 else
  some 0
def Z9 (p0:Int) (p1:Int)(p2:Int)(p3:Int):Option Int:=
 (Zw p1 p2).bind λx1=>
 (if(!x1)then some default else(Zw p1 p3)).bind λx2=>
 if((!x1)||(!x2))then
  some (-1)
 else
  if(p0==3)then
   (Z6 p1 (w64 (p2+p3))).bind λx3=>
   some x3
  else
   if(p0==4)then
    (Z6 p1 (w64 (p2-p3))).bind λx4=>
    some x4
   else
    if(p0==5)then
     (Z6 p1 (w64 (p2*p3))).bind λx5=>
     some x5
    else
     if(p0==6)then
      if(p3==0)then
       (shl? 1 p1).bind λx6=>
       some (w64 (x6-1))
      else
       (quo? p2 p3).bind λx7=>
       some x7
     else
      if(p0==7)then
       if(p3==0)then
        some p2
       else
        (rem? p2 p3).bind λx8=>
        some x8
      else
       if(p0==8)then
        some (band p2 p3)
       else
        if(p0==9)then
         some (bor p2 p3)
        else
         if(p0==10)then
          some (bxor p2 p3)
         else
          if(p0==11)then
           if(decide (p3>=p1))then
            some 0
           else
            (shl? p2 p3).bind λx9=>
            (Z6 p1 x9).bind λx10=>
            some x10
          else
           if(p0==12)then
            if(decide (p3>=p1))then
             some 0
            else
             (shr? p2 p3).bind λx11=>
             some x11
           else
            if(p0==13)then
             (Yd p1 p2).bind λx12=>
             (shr? x12 (cond (decide (p3>=p1)) (w64 (p1-1)) p3)).bind λx13=>
             (Z6 p1 x13).bind λx14=>
             some x14
            else
             if(p0==14)then
              (YW (p2==p3)).bind λx15=>
              some x15
             else
              if(p0==15)then
               (YW (decide (p2<p3))).bind λx16=>
               some x16
              else
               if(p0==16)then
                (Yd p1 p2).bind λx17=>
                (Yd p1 p3).bind λx18=>
                (YW (decide (x17<x18))).bind λx19=>
                some x19
               else
                some (-1)
def ZY(p0:Int)(p1:Int)(p2:Int):Option Int:=
 (Zw p1 p2).bind λx1=>
 if(!x1)then
  some (-1)
 else
  if(p0==1)then
   (shl? 1 p1).bind λx2=>
   some (w64 ((w64 (x2-1))-p2))
  else
   if(p0==2)then
    (Z6 p1 (w64 (0-p2))).bind λx3=>
    some x3
   else
    some (-1)
def YQ (p0:D.Program)(p1:D.State)(p2:List Int):Option D.State:=
 if((p1.Code !=0)||(p1.Steps==400))then
  some p1
 else
  if(p1.Pc==(len p0.Code))then
   some (D.State.mk p1.Pc p1.Regs p1.Mem p1.Stack p1.In p1.Out 2 p1.Steps)
  else
   (get? p0.Code p1.Pc).bind λx1=>
   (Vd p0 (D.State.mk p1.Pc p1.Regs p1.Mem p1.Stack p1.In p1.Out p1.Code (w64 (p1.Steps+1))) x1).bind λx2=>
   if(x2 !=0)then
    some (D.State.mk p1.Pc p1.Regs p1.Mem p1.Stack p1.In p1.Out x2 (w64 (p1.Steps+1)))
   else
    if(x1.Op==1)then
     (set? p1.Regs x1.A x1.B).bind λx3=>
     some (D.State.mk (w64 (p1.Pc+1)) x3 p1.Mem p1.Stack p1.In p1.Out x2 (w64 (p1.Steps+1)))
    else
     if(x1.Op==2)then
      (get? p1.Regs x1.B).bind λx4=>
      (set? p1.Regs x1.A x4).bind λx5=>
      some (D.State.mk (w64 (p1.Pc+1)) x5 p1.Mem p1.Stack p1.In p1.Out x2 (w64 (p1.Steps+1)))
     else
      if(x1.Op==3)then
       (get? p1.Regs x1.A).bind λx6=>
       (get? p1.Regs x1.B).bind λx7=>
       (Z9 x1.C p0.W x6 x7).bind λx8=>
       (set? p1.Regs x1.A x8).bind λx9=>
       some (D.State.mk (w64 (p1.Pc+1)) x9 p1.Mem p1.Stack p1.In p1.Out x2 (w64 (p1.Steps+1)))
      else
       if(x1.Op==4)then
        (get? p1.Regs x1.A).bind λx10=>
        (ZY 1 p0.W x10).bind λx11=>
        (set? p1.Regs x1.A x11).bind λx12=>
        some (D.State.mk (w64 (p1.Pc+1)) x12 p1.Mem p1.Stack p1.In p1.Out x2 (w64 (p1.Steps+1)))
       else
        if(x1.Op==5)then
         (get? p2 p1.In).bind λx13=>
         (set? p1.Regs x1.A x13).bind λx14=>
         some (D.State.mk (w64 (p1.Pc+1)) x14 p1.Mem p1.Stack (w64 (p1.In+1)) p1.Out x2 (w64 (p1.Steps+1)))
        else
         if(x1.Op==6)then
          (get? p1.Regs x1.A).bind λx15=>
          (app? p1.Out ([x15]:List Int)).bind λx16=>
          some (D.State.mk (w64 (p1.Pc+1)) p1.Regs p1.Mem p1.Stack p1.In x16 x2 (w64 (p1.Steps+1)))
         else
          if(x1.Op==7)then
           (get? p1.Regs x1.B).bind λx17=>
           (get? p1.Mem x17).bind λx18=>
           (set? p1.Regs x1.A x18).bind λx19=>
           some (D.State.mk (w64 (p1.Pc+1)) x19 p1.Mem p1.Stack p1.In p1.Out x2 (w64 (p1.Steps+1)))
          else
           if(x1.Op==8)then
            (get? p1.Regs x1.A).bind λx20=>
            (get? p1.Regs x1.B).bind λx21=>
            (set? p1.Mem x20 x21).bind λx22=>
            some (D.State.mk (w64 (p1.Pc+1)) p1.Regs x22 p1.Stack p1.In p1.Out x2 (w64 (p1.Steps+1)))
           else
            if(x1.Op==9)then
             some (D.State.mk x1.B p1.Regs p1.Mem p1.Stack p1.In p1.Out x2 (w64 (p1.Steps+1)))
            else
             if(x1.Op==10)then
              (get? p1.Regs x1.A).bind λx23=>
              if(x23==0)then
               some (D.State.mk x1.B p1.Regs p1.Mem p1.Stack p1.In p1.Out x2 (w64 (p1.Steps+1)))
              else
               some (D.State.mk (w64 (p1.Pc+1)) p1.Regs p1.Mem p1.Stack p1.In p1.Out x2 (w64 (p1.Steps+1)))
             else
              if(x1.Op==11)then
               (app? p1.Stack ([(w64 (p1.Pc+1))]:List Int)).bind λx24=>
               some (D.State.mk x1.B p1.Regs p1.Mem x24 p1.In p1.Out x2 (w64 (p1.Steps+1)))
              else
               if(x1.Op==12)then
                (get? p1.Stack (w64 ((len p1.Stack)-1))).bind λx25=>
                (cut? p1.Stack 0 (w64 ((len p1.Stack)-1))).bind λx26=>
                some (D.State.mk x25 p1.Regs p1.Mem x26 p1.In p1.Out x2 (w64 (p1.Steps+1)))
               else
                some (D.State.mk (w64 (p1.Pc+1)) p1.Regs p1.Mem p1.Stack p1.In p1.Out x2 (w64 (p1.Steps+1)))
def Xp(n:Nat)(p0:D.Program)(p1:List Int)(p2:Int):Option D.State:=
 (XR n p0 p1).bind λx1=>
 (if(!x1)then some default else(Zd p2 0 400)).bind λx2=>
 if((!x1)||(!x2))then
  some (D.State.mk 0 ([]:List Int) ([]:List Int) ([]:List Int) 0 ([]:List Int) 0 0)
 else
  (WX n p0).bind λx3=>
  (iterN (λ(s1:Int×(List Int)×(List Int)×(List Int)×(List Int)×Int×Int×Int×Int)=>if((decide (s1.1<p2))&&(s1.2.2.2.2.2.2.2.1==0))then(YQ p0 (D.State.mk s1.2.2.2.2.2.1 s1.2.1 s1.2.2.1 s1.2.2.2.1 s1.2.2.2.2.2.2.1 s1.2.2.2.2.1 s1.2.2.2.2.2.2.2.1 s1.2.2.2.2.2.2.2.2) p1).bind λx4=>some (.inl ((w64 (s1.1+1)),x4.Regs,x4.Mem,x4.Stack,x4.Out,x4.Pc,x4.In,x4.Code,x4.Steps))else some (.inr (s1.2.1,s1.2.2.1,s1.2.2.2.1,s1.2.2.2.2.1,s1.2.2.2.2.2.1,s1.2.2.2.2.2.2.1,s1.2.2.2.2.2.2.2.1,s1.2.2.2.2.2.2.2.2))) n (0,x3.Regs,x3.Mem,x3.Stack,x3.Out,x3.Pc,x3.In,x3.Code,x3.Steps)).bind λ(rl1:(List Int)×(List Int)×(List Int)×(List Int)×Int×Int×Int×Int)=>
  some (D.State.mk rl1.2.2.2.2.1 rl1.1 rl1.2.1 rl1.2.2.1 rl1.2.2.2.2.2.1 rl1.2.2.2.1 rl1.2.2.2.2.2.2.1 rl1.2.2.2.2.2.2.2)
def Vb(n:Nat)(p0:D.State)(p1:D.State):Option Bool:=
 (if(p0.Pc==p1.Pc)then(Xw n p0.Regs p1.Regs)else some default).bind λx1=>
 (if((p0.Pc==p1.Pc)&&x1)then(Xw n p0.Mem p1.Mem)else some default).bind λx2=>
 (if(((p0.Pc==p1.Pc)&&x1)&&x2)then(Xw n p0.Stack p1.Stack)else some default).bind λx3=>
 (if(((((p0.Pc==p1.Pc)&&x1)&&x2)&&x3)&&(p0.In==p1.In))then(Xw n p0.Out p1.Out)else some default).bind λx4=>
 some ((((((((p0.Pc==p1.Pc)&&x1)&&x2)&&x3)&&(p0.In==p1.In))&&x4)&&(p0.Code==p1.Code))&&(p0.Steps==p1.Steps))
def Wm(n:Nat)(p0:List Byt):Option Bool:=
 if(decide ((len p0)>1048576))then
  some true
 else
  (Xc n p0 0).bind λx1=>
  (XQ n p0 60 0 40).bind λx2=>
  (Xl n p0 62 x1).bind λx3=>
  (Wx n x1 x3 x2).bind λx4=>
  (XV n x1 x4.1.Turns x2).bind λx5=>
  (XU n x1 x4.1 x3).bind λx6=>
  (if(!x4.2)then some default else(Wi n x1 x4.1)).bind λx7=>
  if(((!x4.2)||(!x7))||(!x6.2))then
   some false
  else
   if(x4.1.Code==9)then
    some true
   else
    if x5.2 then
     (VX n x4.1 x5.1).bind λx8=>
     if x8 then
      (Xp n x1 x3 x2).bind λx9=>
      (Vb n x6.1 x9).bind λx10=>
      some x10
     else
      some false
    else
     some false
end Go.GL
