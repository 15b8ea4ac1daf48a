/- Go functions as Lean functions, printed by a program. -/
import Derived.Test.YtbidabmbbieeiacGreatDoorLib1
import Derived.Lib.ItoaNum
import Derived.Lib.Bytealg
set_option linter.unusedVariables false
namespace Go.GL
structure D.l06Maker where
  bad:Bool
deriving Inhabited
def ZbC(p0:List D.Ins)(p1:Int):Option Int:=
 if(decide ((w64 (p1-(len p0)))<0))then
  some (-1)
 else
  some (w64 (p1-(len p0)))
def Zaw(p0:D.Program)(p1:Int):Option Int:=
 (ZbC p0.Code p1).bind fun x1=>
 if(decide (x1<0))then
  some (-1)
 else
  some x1
def ZcY(p0:D.Ins):Option D.Ins:=
 some p0
def ZbJ(n:Nat)(p0:List D.Ins):Option (List D.Ins):=
 (mk? (len p0) ((D.Ins.mk 0 0 0 0):D.Ins)).bind fun x1=>
 (iterN (fun(s1:Int×(List D.Ins))=>if(decide (s1.1<(len p0)))then(get? p0 s1.1).bind fun x2=>(ZcY x2).bind fun x3=>(set? s1.2 s1.1 x3).bind fun x4=>some (.inl ((w64 (s1.1+1)),x4))else some (.inr (s1.2))) n (0,x1)).bind fun(rl1:(List D.Ins))=>
 some rl1
def YW(n:Nat)(p0:D.Program):Option D.Program:=
 (ZbJ n p0.Code).bind fun x1=>
 some (D.Program.mk p0.W p0.Mem p0.In x1)
def Zj(p0:Int)(p1:Int)(p2:Int):Option Bool:=
 some ((decide (p0≥p1))&&(decide (p0≤p2)))
def ZI(p0:Int)(p1:Int):Option Bool:=
 (Zj p0 1 16).bind fun x1=>
 (if x1 then(shl? 1 p0)else some default).bind fun x2=>
 (if x1 then(Zj p1 0 (w64 (x2-1)))else some default).bind fun x3=>
 some (x1&&x3)
def Y3(p0:Int):Option Bool:=
 (Zj p0 0 3).bind fun x1=>
 some x1
def X7 (p0:D.Ins)(p1:Int)(p2:Int):Option Bool:=
 (Zj p0.B 0 p2).bind fun x1=>
 if(p0.Op==1)then
  (Y3 p0.A).bind fun x2=>
  (if x2 then(ZI p1 p0.B)else some default).bind fun x3=>
  some ((x2&&x3)&&(p0.C==0))
 else
  (if(p0.Op==2)then some (.inl ((p0.Op==2)))else some (.inl (((p0.Op==7)||(p0.Op==8))))).bind fun(rl1:(Bool)⊕Bool)=>
  match rl1 with
  | .inl s1r=>
   if s1r then
    (Y3 p0.A).bind fun x4=>
    (if x4 then(Y3 p0.B)else some default).bind fun x5=>
    some ((x4&&x5)&&(p0.C==0))
   else
    if(p0.Op==3)then
     (Y3 p0.A).bind fun x6=>
     (if x6 then(Y3 p0.B)else some default).bind fun x7=>
     (if(x6&&x7)then(Zj p0.C 3 16)else some default).bind fun x8=>
     some ((x6&&x7)&&x8)
    else
     (if(p0.Op==4)then some (.inl ((p0.Op==4)))else if(p0.Op==5)then some (.inl ((p0.Op==5)))else some (.inl (((p0.Op==6)||(p0.Op==13))))).bind fun(rl2:(Bool)⊕Bool)=>
     match rl2 with
     | .inl s2r=>
      if s2r then
       (Y3 p0.A).bind fun x9=>
       some ((x9&&(p0.B==0))&&(p0.C==0))
      else
       if((p0.Op==9)||(p0.Op==11))then
        some (((p0.A==0)&&x1)&&(p0.C==0))
       else
        if(p0.Op==10)then
         (Y3 p0.A).bind fun x10=>
         some ((x10&&x1)&&(p0.C==0))
        else
         if((p0.Op==12)||(p0.Op==14))then
          some (((p0.A==0)&&(p0.B==0))&&(p0.C==0))
         else
          some false
     |.inr v=>some v
  |.inr v=>some v
def Xr(n:Nat)(p0:D.Program):Option Bool:=
 (Zj p0.W 2 8).bind fun x1=>
 (if(!x1)then some default else(Zj p0.Mem 1 6)).bind fun x2=>
 (if((!x1)||(!x2))then some default else(ZI p0.W p0.Mem)).bind fun x3=>
 (if(((!x1)||(!x2))||(!x3))then some default else(Zj p0.In 0 3)).bind fun x4=>
 (if((((!x1)||(!x2))||(!x3))||(!x4))then some default else(Zj (len p0.Code) 1 40)).bind fun x5=>
 if(((((!x1)||(!x2))||(!x3))||(!x4))||(!x5))then
  some false
 else
  (iterN (fun(s1:Int)=>if(decide (s1<(len p0.Code)))then(get? p0.Code s1).bind fun x6=>(X7 x6 p0.W (len p0.Code)).bind fun x7=>if(!x7)then some (.inr (.inr false))else some (.inl ((w64 (s1+1))))else some (.inr (.inl ()))) n (0)).bind fun(rl1:(Unit)⊕Bool)=>
  match rl1 with
  |.inl s1r=>
   some true
  |.inr v=>some v
def ZC(p0:Int)(p1:Int):Option D.Term:=
 some (D.Term.mk 0 p0 p1 ⟨[]⟩ ([]:List D.Term))
def Za4(n:Nat)(p0:D.Program):Option D.Path:=
 (Xr n p0).bind fun x1=>
 if(!x1)then
  some (D.Path.mk 0 ([]:List D.Term) ([]:List D.Term) ([]:List Int) 0 ([]:List D.Term) 0 0 ([]:List D.Term) ([]:List Int))
 else
  (iterN (fun(s1:Int×(List D.Term))=>if(decide (s1.1<4))then(ZC p0.W 0).bind fun x2=>(app? s1.2 ([(D.Term.mk x2.Op x2.W x2.N x2.Name ([]:List D.Term))]:List D.Term)).bind fun x3=>some (.inl ((w64 (s1.1+1)),x3))else some (.inr (s1.2))) n (0,([]:List D.Term))).bind fun(rl1:(List D.Term))=>
  (iterN (fun(s2:Int×(List D.Term))=>if(decide (s2.1<p0.Mem))then(ZC p0.W 0).bind fun x4=>(app? s2.2 ([(D.Term.mk x4.Op x4.W x4.N x4.Name ([]:List D.Term))]:List D.Term)).bind fun x5=>some (.inl ((w64 (s2.1+1)),x5))else some (.inr (s2.2))) n (0,([]:List D.Term))).bind fun(rl2:(List D.Term))=>
  some (D.Path.mk 0 rl1 rl2 ([]:List Int) 0 ([]:List D.Term) 0 0 ([]:List D.Term) ([]:List Int))
def Zbl(n:Nat)(p0:List D.Path):Option Int:=
 (iterN (fun(s1:Int×Int)=>if(decide (s1.2<(len p0)))then(get? p0 s1.2).bind fun x1=>(get? p0 s1.1).bind fun x2=>some (.inl ((cond ((decide ((len x1.Stack)>(len x2.Stack)))||(((len x1.Stack)==(len x2.Stack))&&(decide (x1.Pc<x2.Pc)))) s1.2 s1.1),(w64 (s1.2+1))))else some (.inr (s1.1))) n (0,0)).bind fun(rl1:Int)=>
 some rl1
def ZbT(n:Nat)(p0:List Int)(p1:List Int):Option Bool:=
 if((len p0)!=(len p1))then
  some false
 else
  (iterN (fun(s1:Int)=>if(decide (s1<(len p0)))then(get? p0 s1).bind fun x1=>(get? p1 s1).bind fun x2=>if(x1 !=x2)then some (.inr (.inr false))else some (.inl ((w64 (s1+1))))else some (.inr (.inl ()))) n (0)).bind fun(rl1:(Unit)⊕Bool)=>
  match rl1 with
  |.inl s1r=>
   some true
  |.inr v=>some v
def Zag(n:Nat)(p0:D.Path)(p1:D.Path):Option Bool:=
 (if(p0.Pc==p1.Pc)then(ZbT n p0.Stack p1.Stack)else some default).bind fun x1=>
 some ((((p0.Pc==p1.Pc)&&x1)&&(p0.In==p1.In))&&((len p0.Out)==(len p1.Out)))
def XM(n:Nat)(p0:D.Term)(p1:Int):Option (Bool×Int):=
 match n with
 |0=>none
 |n+1=>
 (iterN (fun(s1:Int×Int)=>if((decide (s1.1<(len p0.Kids)))&&(decide (s1.2≥0)))then(get? p0.Kids s1.1).bind fun x1=>(XM n x1 s1.2).bind fun x2=>some (.inl ((w64 (s1.1+1)),x2.2))else some (.inr (s1.2))) n (0,(w64 (p1-1)))).bind fun(rl1:Int)=>
 some ((decide (rl1≥0)),rl1)
def ZaZ(n:Nat)(p0:Str):Option Bool:=
 (iterN (fun(s1:Int)=>if(decide (s1<(len p0.bytes)))then(sidx? p0 s1).bind fun x1=>(Zj (w64 x1) 97 122).bind fun x2=>(if(s1==0)then some default else(if(!x2)then(sidx? p0 s1)else some default)).bind fun x3=>(if(s1==0)then some default else(if(!x2)then(Zj (w64 x3) 48 57)else some default)).bind fun x4=>if((!x2)&&((s1==0)||(!x4)))then some (.inr (.inr false))else some (.inl ((w64 (s1+1))))else some (.inr (.inl ()))) n (0)).bind fun(rl1:(Unit)⊕Bool)=>
 match rl1 with
 |.inl s1r=>
  (Zj (len p0.bytes) 1 8).bind fun x5=>
  some x5
 |.inr v=>some v
def YB (n:Nat)(p0:D.Term):Option Bool:=
 match n with
 |0=>none
 |n+1=>
 (Zj p0.W 1 16).bind fun x1=>
 if(((!x1)||((!(Str.eqb p0.Name ⟨[]⟩))&&(p0.Op !=22)))||(((p0.N !=0)&&(p0.Op !=0))&&(p0.Op !=19)))then
  some false
 else
  (iterN (fun(s1:Int)=>if(decide (s1<(len p0.Kids)))then(get? p0.Kids s1).bind fun x2=>(YB n x2).bind fun x3=>if(!x3)then some (.inr (.inr false))else some (.inl ((w64 (s1+1))))else some (.inr (.inl ()))) n (0)).bind fun(rl1:(Unit)⊕Bool)=>
  match rl1 with
  | .inl s1r=>
   (iterN (fun(s2:Int×(List Int))=>if((decide (s2.1<(len p0.Kids)))&&(decide (s2.1<3)))then(get? p0.Kids s2.1).bind fun x4=>(set? s2.2 s2.1 x4.W).bind fun x5=>some (.inl ((w64 (s2.1+1)),x5))else some (.inr (s2.2))) n (0,([0,0,0]:List Int))).bind fun(rl2:(List Int))=>
   if(p0.Op==0)then
    (if((len p0.Kids)==0)then(ZI p0.W p0.N)else some default).bind fun x6=>
    some (((len p0.Kids)==0)&&x6)
   else
    if(p0.Op==22)then
     (if((len p0.Kids)==0)then(ZaZ n p0.Name)else some default).bind fun x7=>
     some (((len p0.Kids)==0)&&x7)
    else
     (Zj p0.Op 1 2).bind fun x8=>
     if x8 then
      (if((len p0.Kids)==1)then(get? rl2 0)else some default).bind fun x9=>
      some (((len p0.Kids)==1)&&(x9==p0.W))
     else
      (Zj p0.Op 3 13).bind fun x10=>
      if x10 then
       (if((len p0.Kids)==2)then(get? rl2 0)else some default).bind fun x11=>
       (if(((len p0.Kids)==2)&&(x11==p0.W))then(get? rl2 1)else some default).bind fun x12=>
       some ((((len p0.Kids)==2)&&(x11==p0.W))&&(x12==p0.W))
      else
       (Zj p0.Op 14 16).bind fun x13=>
       if x13 then
        (if((len p0.Kids)==2)then(get? rl2 0)else some default).bind fun x14=>
        (if((len p0.Kids)==2)then(get? rl2 1)else some default).bind fun x15=>
        some ((((len p0.Kids)==2)&&(x14==x15))&&(p0.W==1))
       else
        if(p0.Op==17)then
         (if((len p0.Kids)==3)then(get? rl2 0)else some default).bind fun x16=>
         (if(((len p0.Kids)==3)&&(x16==1))then(get? rl2 1)else some default).bind fun x17=>
         (if((((len p0.Kids)==3)&&(x16==1))&&(x17==p0.W))then(get? rl2 2)else some default).bind fun x18=>
         some (((((len p0.Kids)==3)&&(x16==1))&&(x17==p0.W))&&(x18==p0.W))
        else
         if(p0.Op==18)then
          (if((len p0.Kids)==2)then(get? rl2 0)else some default).bind fun x19=>
          (if((len p0.Kids)==2)then(get? rl2 1)else some default).bind fun x20=>
          some (((len p0.Kids)==2)&&((w64 (x19+x20))==p0.W))
         else
          if(p0.Op==19)then
           (if((len p0.Kids)==1)then(Zj p0.N 0 16)else some default).bind fun x21=>
           (if(((len p0.Kids)==1)&&x21)then(get? rl2 0)else some default).bind fun x22=>
           some ((((len p0.Kids)==1)&&x21)&&(decide ((w64 (p0.N+p0.W))≤x22)))
          else
           (Zj p0.Op 20 21).bind fun x23=>
           (if(x23&&((len p0.Kids)==1))then(get? rl2 0)else some default).bind fun x24=>
           some ((x23&&((len p0.Kids)==1))&&(decide (x24≤p0.W)))
  |.inr v=>some v
def Xg(n:Nat)(p0:D.Term)(p1:List D.Value):Option ((List D.Value)×Bool):=
 match n with
 |0=>none
 |n+1=>
 if (p0.Op==22)then
  (iterN (fun(s1:Int)=>(if(decide (s1<(len p1)))then(get? p1 s1)else some default).bind fun x1=>if((decide (s1<(len p1)))&&(Str.ltb x1.Name p0.Name))then some (.inl ((w64 (s1+1))))else some (.inr (s1))) n (0)).bind fun(rl1:Int)=>
  (if(decide (rl1<(len p1)))then(get? p1 rl1)else some default).bind fun x2=>
  if((decide (rl1<(len p1)))&&(Str.eqb x2.Name p0.Name))then
   (get? p1 rl1).bind fun x3=>
   some (p1,(x3.W==p0.W))
  else
   (cut? p1 0 rl1).bind fun x4=>
   (app? ([]:List D.Value) x4).bind fun x5=>
   (app? x5 ([(D.Value.mk p0.Name p0.W 0)]:List D.Value)).bind fun x6=>
   (cut? p1 rl1 (len p1)).bind fun x7=>
   (app? x6 x7).bind fun x8=>
   some (x8,true)
 else
  (iterN (fun(s2:(List D.Value)×Int)=>if(decide (s2.2<(len p0.Kids)))then(get? p0.Kids s2.2).bind fun x9=>(Xg n x9 s2.1).bind fun x10=>if(!x10.2)then some (.inr (.inr (([]:List D.Value),false)))else some (.inl (x10.1,(w64 (s2.2+1))))else some (.inr (.inl (s2.1)))) n (p1,0)).bind fun(rl2:((List D.Value))⊕((List D.Value)×Bool))=>
  match rl2 with
  |.inl s2r=>
   some (s2r,true)
  |.inr v=>some v
def X5(n:Nat)(p0:D.Term):Option Bool:=
 (XM n p0 240).bind fun x1=>
 if(!x1.1)then
  if true then
   some false
  else
   (Xg n p0 ([]:List D.Value)).bind fun x2=>
   some x2.2
 else
  (YB n p0).bind fun x3=>
  if(!x3)then
   some false
  else
   (Xg n p0 ([]:List D.Value)).bind fun x4=>
   some x4.2
def Xi(n:Nat)(p0:List D.Term)(p1:Int):Option Bool:=
 (iterN (fun(s1:Int)=>if(decide (s1<(len p0)))then(get? p0 s1).bind fun x1=>(X5 n x1).bind fun x2=>if((!x2)||(x1.W !=p1))then some (.inr (.inr false))else some (.inl ((w64 (s1+1))))else some (.inr (.inl ()))) n (0)).bind fun(rl1:(Unit)⊕Bool)=>
 match rl1 with
 |.inl s1r=>
  some true
 |.inr v=>some v
def Za1(n:Nat)(p0:D.Program)(p1:D.Path):Option Bool:=
 (Xr n p0).bind fun x1=>
 (if(!x1)then some default else(Zj p1.Pc 0 (len p0.Code))).bind fun x2=>
 (if(((((!x1)||(!x2))||((len p1.Regs)!=4))||((len p1.Mem)!=p0.Mem))||(decide ((len p1.Stack)>3)))then some default else(Zj p1.In 0 p0.In)).bind fun x3=>
 (if(((((((!x1)||(!x2))||((len p1.Regs)!=4))||((len p1.Mem)!=p0.Mem))||(decide ((len p1.Stack)>3)))||(!x3))||(decide ((len p1.Out)>6)))then some default else(Zj p1.Code 0 9)).bind fun x4=>
 (if((((((((!x1)||(!x2))||((len p1.Regs)!=4))||((len p1.Mem)!=p0.Mem))||(decide ((len p1.Stack)>3)))||(!x3))||(decide ((len p1.Out)>6)))||(!x4))then some default else(Zj p1.Steps 0 400)).bind fun x5=>
 if(((((((((((!x1)||(!x2))||((len p1.Regs)!=4))||((len p1.Mem)!=p0.Mem))||(decide ((len p1.Stack)>3)))||(!x3))||(decide ((len p1.Out)>6)))||(!x4))||(!x5))||(decide ((len p1.Cond)>60)))||(decide ((len p1.Turns)>60)))then
  some false
 else
  (iterN (fun(s1:Int)=>if(decide (s1<(len p1.Stack)))then(get? p1.Stack s1).bind fun x6=>(Zj x6 0 (len p0.Code)).bind fun x7=>if(!x7)then some (.inr (.inr false))else some (.inl ((w64 (s1+1))))else some (.inr (.inl ()))) n (0)).bind fun(rl1:(Unit)⊕Bool)=>
  match rl1 with
  | .inl s1r=>
   (iterN (fun(s2:Int)=>if(decide (s2<(len p1.Turns)))then(get? p1.Turns s2).bind fun x8=>(Zj x8 0 1).bind fun x9=>if(!x9)then some (.inr (.inr false))else some (.inl ((w64 (s2+1))))else some (.inr (.inl ()))) n (0)).bind fun(rl2:(Unit)⊕Bool)=>
   match rl2 with
   |.inl s2r=>
    (Xi n p1.Regs p0.W).bind fun x10=>
    (if x10 then(Xi n p1.Mem p0.W)else some default).bind fun x11=>
    (if(x10&&x11)then(Xi n p1.Out p0.W)else some default).bind fun x12=>
    (if((x10&&x11)&&x12)then(Xi n p1.Cond 1)else some default).bind fun x13=>
    some (((x10&&x11)&&x12)&&x13)
   |.inr v=>some v
  |.inr v=>some v
def X0(p0:Int)(p1:Int):Option Int:=
 if(decide (p0<p1))then
  some (-1)
 else
  if(decide (p0>p1))then
   some 1
  else
   some 0
def ZK (n:Nat)(p0:D.Term)(p1:D.Term):Option Int:=
 match n with
 |0=>none
 |n+1=>
 (X0 p0.Op p1.Op).bind fun x1=>
 (X0 p0.W p1.W).bind fun x2=>
 (X0 p0.N p1.N).bind fun x3=>
 (iterN (fun(s1:Int)=>if(decide (s1<(len ([x1,x2,x3]:List Int))))then(get? ([x1,x2,x3]:List Int) s1).bind fun x4=>if(x4 !=0)then some (.inr (.inr x4))else some (.inl ((w64 (s1+1))))else some (.inr (.inl ()))) n (0)).bind fun(rl1:(Unit)⊕Int)=>
 match rl1 with
 | .inl s1r=>
  if(!(Str.eqb p0.Name p1.Name))then
   if(Str.ltb p0.Name p1.Name)then
    some (-1)
   else
    some 1
  else
   (iterN (fun(s2:Int)=>if (decide (s2<(len p0.Kids)))then(get? p0.Kids s2).bind fun x5=>if(s2==(len p1.Kids))then some (.inr (.inr 1))else(get? p1.Kids s2).bind fun x6=>(ZK n x5 x6).bind fun x7=>if(x7 !=0)then some (.inr (.inr x7))else some (.inl ((w64 (s2+1))))else some (.inr (.inl ()))) n (0)).bind fun(rl2:(Unit)⊕Int)=>
   match rl2 with
   |.inl s2r=>
    (X0 (len p0.Kids) (len p1.Kids)).bind fun x8=>
    some x8
   |.inr v=>some v
 |.inr v=>some v
def ZN(n:Nat)(p0:D.Term)(p1:D.Term):Option Bool:=
 (ZK n p0 p1).bind fun x1=>
 some (x1==0)
def Yl(p0:Int)(p1:Int):Option Int:=
 (Zj p0 1 16).bind fun x1=>
 if(!x1)then
  some (-1)
 else
  (shl? 1 p0).bind fun x2=>
  some (band p1 (w64 (x2-1)))
def Xc(p0:Int)(p1:Int)(p2:Int):Option Int:=
 (ZI p1 p2).bind fun x1=>
 if(!x1)then
  some (-1)
 else
  if(p0==1)then
   (shl? 1 p1).bind fun x2=>
   some (w64 ((w64 (x2-1))-p2))
  else
   if(p0==2)then
    (Yl p1 (w64 (0-p2))).bind fun x3=>
    some x3
   else
    some (-1)
def YA(p0:Int)(p1:Int):Option Int:=
 (ZI p0 p1).bind fun x1=>
 if(!x1)then
  some 0
 else
  (shr? p1 (w64 (p0-1))).bind fun x2=>
  if(x2==1)then
   (shl? 1 p0).bind fun x3=>
   some (w64 (p1-x3))
  else
   some p1
def X8(p0:Bool):Option Int:=
 if p0 then
  some 1
 else
  some 0
def Yu (p0:Int) (p1:Int)(p2:Int)(p3:Int):Option Int:=
 (ZI p1 p2).bind fun x1=>
 (if(!x1)then some default else(ZI p1 p3)).bind fun x2=>
 if((!x1)||(!x2))then
  some (-1)
 else
  if(p0==3)then
   (Yl p1 (w64 (p2+p3))).bind fun x3=>
   some x3
  else
   if(p0==4)then
    (Yl p1 (w64 (p2-p3))).bind fun x4=>
    some x4
   else
    if(p0==5)then
     (Yl p1 (w64 (p2*p3))).bind fun x5=>
     some x5
    else
     if(p0==6)then
      if(p3==0)then
       (shl? 1 p1).bind fun x6=>
       some (w64 (x6-1))
      else
       (quo? p2 p3).bind fun x7=>
       some x7
     else
      if(p0==7)then
       if(p3==0)then
        some p2
       else
        (rem? p2 p3).bind fun x8=>
        some x8
      else
       if(p0==8)then
        some (band p2 p3)
       else
        if(p0==9)then
         some (bor p2 p3)
        else
         if(p0==10)then
          some (bxor p2 p3)
         else
          if(p0==11)then
           if(decide (p3≥p1))then
            some 0
           else
            (shl? p2 p3).bind fun x9=>
            (Yl p1 x9).bind fun x10=>
            some x10
          else
           if(p0==12)then
            if(decide (p3≥p1))then
             some 0
            else
             (shr? p2 p3).bind fun x11=>
             some x11
           else
            if(p0==13)then
             (YA p1 p2).bind fun x12=>
             (shr? x12 (cond (decide (p3≥p1)) (w64 (p1-1)) p3)).bind fun x13=>
             (Yl p1 x13).bind fun x14=>
             some x14
            else
             if(p0==14)then
              (X8 (p2==p3)).bind fun x15=>
              some x15
             else
              if(p0==15)then
               (X8 (decide (p2<p3))).bind fun x16=>
               some x16
              else
               if(p0==16)then
                (YA p1 p2).bind fun x17=>
                (YA p1 p3).bind fun x18=>
                (X8 (decide (x17<x18))).bind fun x19=>
                some x19
               else
                some (-1)
def Xw(p0:Int)(p1:Int)(p2:Int)(p3:Int):Option Int:=
 (ZI p0 p1).bind fun x1=>
 (if(!x1)then some default else(ZI p2 p3)).bind fun x2=>
 if(((!x1)||(!x2))||(decide ((w64 (p0+p2))>16)))then
  some (-1)
 else
  (shl? p1 p2).bind fun x3=>
  some (w64 (x3+p3))
def XV(p0:Int)(p1:Int)(p2:Int)(p3:Int):Option Int:=
 (ZI p0 p1).bind fun x1=>
 if(((((!x1)||(decide (p2<0)))||(decide (p3<1)))||(decide (p3>p0)))||(decide (p2>(w64 (p0-p3)))))then
  some (-1)
 else
  (shr? p1 p2).bind fun x2=>
  (Yl p3 x2).bind fun x3=>
  some x3
def Xp(p0:Int)(p1:Int)(p2:Int)(p3:Bool):Option Int:=
 (ZI p0 p1).bind fun x1=>
 if(((!x1)||(decide (p2<p0)))||(decide (p2>16)))then
  some (-1)
 else
  if p3 then
   (YA p0 p1).bind fun x2=>
   (Yl p2 x2).bind fun x3=>
   some x3
  else
   some p1
def Yh(p0:D.Term)(p1:List Int):Option Int:=
 (Zj p0.Op 1 2).bind fun x1=>
 if x1 then
  (get? p1 0).bind fun x2=>
  (Xc p0.Op p0.W x2).bind fun x3=>
  some x3
 else
  (Zj p0.Op 3 16).bind fun x4=>
  if x4 then
   (get? p0.Kids 0).bind fun x5=>
   (get? p1 0).bind fun x6=>
   (get? p1 1).bind fun x7=>
   (Yu p0.Op x5.W x6 x7).bind fun x8=>
   some x8
  else
   if(p0.Op==17)then
    (get? p1 0).bind fun x9=>
    if(x9==1)then
     (get? p1 1).bind fun x10=>
     some x10
    else
     (get? p1 2).bind fun x11=>
     some x11
   else
    if(p0.Op==18)then
     (get? p0.Kids 0).bind fun x12=>
     (get? p1 0).bind fun x13=>
     (get? p0.Kids 1).bind fun x14=>
     (get? p1 1).bind fun x15=>
     (Xw x12.W x13 x14.W x15).bind fun x16=>
     some x16
    else
     if(p0.Op==19)then
      (get? p0.Kids 0).bind fun x17=>
      (get? p1 0).bind fun x18=>
      (XV x17.W x18 p0.N p0.W).bind fun x19=>
      some x19
     else
      (get? p0.Kids 0).bind fun x20=>
      (get? p1 0).bind fun x21=>
      (Xp x20.W x21 p0.W (p0.Op==21)).bind fun x22=>
      some x22
def Zq(p0:D.Term)(p1:Int):Option Bool:=
 some ((p0.Op==0)&&(p0.N==p1))
def Zbo(p0:D.Term):Option Bool:=
 (if(p0.Op==0)then(shl? 1 p0.W)else some default).bind fun x1=>
 some ((p0.Op==0)&&(p0.N==(w64 (x1-1))))
def Zl(p0:D.Term):Option (D.Term×Bool):=
 if((p0.Op==8)||(p0.Op==9))then
  (get? p0.Kids 0).bind fun x1=>
  some (x1,true)
 else
  (if(p0.Op==4)then some (.inl ((p0.Op==4)))else if(p0.Op==10)then some (.inl ((p0.Op==10)))else some (.inl (((p0.Op==15)||(p0.Op==16))))).bind fun(rl1:(Bool)⊕(D.Term×Bool))=>
  match rl1 with
  | .inl s1r=>
   if s1r then
    (ZC p0.W 0).bind fun x2=>
    some ((D.Term.mk x2.Op x2.W x2.N x2.Name ([]:List D.Term)),true)
   else
    if(p0.Op==14)then
     (ZC 1 1).bind fun x3=>
     some ((D.Term.mk x3.Op x3.W x3.N x3.Name ([]:List D.Term)),true)
    else
     some (p0,false)
  |.inr v=>some v
mutual
def Z8 (n:Nat)(p0:D.Term):Option (D.Term×Bool):=
 match n with
 |0=>none
 |n+1=>
 (get? p0.Kids 0).bind fun x1=>
 (get? p0.Kids 1).bind fun x2=>
 (Zq x1 0).bind fun x3=>
 (Zbo x1).bind fun x4=>
 (if((p0.Op==3)&&x3)then some (.inl (((p0.Op==3)&&x3)))else if((p0.Op==9)&&x3)then some (.inl (((p0.Op==9)&&x3)))else some (.inl (((p0.Op==10)&&x3)))).bind fun(rl1:(Bool)⊕(D.Term×Bool))=>
 match rl1 with
 | .inl s1r=>
  if s1r then
   some (x2,true)
  else
   (if((p0.Op==5)&&x3)then some (.inl (((p0.Op==5)&&x3)))else if((p0.Op==8)&&x3)then some (.inl (((p0.Op==8)&&x3)))else some (.inl (((p0.Op==9)&&x4)))).bind fun(rl2:(Bool)⊕(D.Term×Bool))=>
   match rl2 with
   | .inl s2r=>
    if s2r then
     some (x1,true)
    else
     (if((p0.Op==5)&&(x1.N==1))then some (.inl (((p0.Op==5)&&(x1.N==1))))else some (.inl (((p0.Op==8)&&x4)))).bind fun(rl3:(Bool)⊕(D.Term×Bool))=>
     match rl3 with
     | .inl s3r=>
      if s3r then
       some (x2,true)
      else
       if((p0.Op==10)&&x4)then
        (Z4 n (D.Term.mk 1 p0.W 0 ⟨[]⟩ ([x2]:List D.Term))).bind fun x5=>
        some (x5,true)
       else
        if(((p0.Op==14)&&(x1.W==1))&&(x1.N==1))then
         some (x2,true)
        else
         if((p0.Op==14)&&(x1.W==1))then
          (Z4 n (D.Term.mk 1 1 0 ⟨[]⟩ ([x2]:List D.Term))).bind fun x6=>
          some (x6,true)
         else
          some (p0,false)
     |.inr v=>some v
   |.inr v=>some v
 |.inr v=>some v
def Z4 (n:Nat)(p0:D.Term):Option D.Term:=
 match n with
 |0=>none
 |n+1=>
 (iterN (fun(s1:Bool×Int×(List Int))=>if(decide (s1.2.1<(len p0.Kids)))then(get? p0.Kids s1.2.1).bind fun x1=>(app? s1.2.2 ([x1.N]:List Int)).bind fun x2=>some (.inl ((s1.1&&(x1.Op==0)),(w64 (s1.2.1+1)),x2))else some (.inr (s1.1,s1.2.2))) n ((decide ((len p0.Kids)>0)),0,([]:List Int))).bind fun(rl1:Bool×(List Int))=>
 if rl1.1 then
  (Yh p0 rl1.2).bind fun x3=>
  (ZC p0.W x3).bind fun x4=>
  some (D.Term.mk x4.Op x4.W x4.N x4.Name ([]:List D.Term))
 else
  (Zj p0.Op 3 16).bind fun x5=>
  if x5 then
   (Zh n p0).bind fun x6=>
   some x6
  else
   if((p0.Op==1)||(p0.Op==2))then
    (get? p0.Kids 0).bind fun x7=>
    if(x7.Op==p0.Op)then
     (get? p0.Kids 0).bind fun x8=>
     (get? x8.Kids 0).bind fun x9=>
     some x9
    else
     some p0
   else
    if(p0.Op==17)then
     (YP n p0).bind fun x10=>
     some x10
    else
     if(p0.Op==19)then
      (Y8 n p0).bind fun x11=>
      some x11
     else
      if ((p0.Op==20)||(p0.Op==21))then
       (get? p0.Kids 0).bind fun x12=>
       if(x12.W==p0.W)then
        some x12
       else
        if(x12.Op==p0.Op)then
         (Z4 n (D.Term.mk p0.Op p0.W 0 ⟨[]⟩ x12.Kids)).bind fun x13=>
         some x13
        else
         some p0
      else
       if(p0.Op==18)then
        (get? p0.Kids 0).bind fun x14=>
        (get? p0.Kids 1).bind fun x15=>
        (if((x14.Op==19)&&(x15.Op==19))then(get? x14.Kids 0)else some default).bind fun x16=>
        (if((x14.Op==19)&&(x15.Op==19))then(get? x15.Kids 0)else some default).bind fun x17=>
        (if((x14.Op==19)&&(x15.Op==19))then(ZN n x16 x17)else some default).bind fun x18=>
        if((((x14.Op==19)&&(x15.Op==19))&&x18)&&(x14.N==(w64 (x15.N+x15.W))))then
         (Z4 n (D.Term.mk 19 p0.W x15.N ⟨[]⟩ x15.Kids)).bind fun x19=>
         some x19
        else
         some p0
       else
        some p0
def Zh (n:Nat)(p0:D.Term):Option D.Term:=
 match n with
 |0=>none
 |n+1=>
 (get? p0.Kids 0).bind fun x1=>
 (get? p0.Kids 1).bind fun x2=>
 (if((p0.Op==3)||(p0.Op==5))then some default else(Zj p0.Op 8 10)).bind fun x3=>
 (if((((p0.Op==3)||(p0.Op==5))||x3)||(p0.Op==14))then(ZK n x1 x2)else some default).bind fun x4=>
 if(((((p0.Op==3)||(p0.Op==5))||x3)||(p0.Op==14))&&(decide (x4>0)))then
  (Z4 n (D.Term.mk p0.Op p0.W p0.N p0.Name ([x2,x1]:List D.Term))).bind fun x5=>
  some x5
 else
  (if(x1.Op==0)then(Z8 n p0).bind fun x6=>if x6.2 then some (.inr x6.1)else some (.inl ())else some (.inl ())).bind fun(rl1:(Unit)⊕D.Term)=>
  match rl1 with
  | .inl s1r=>
   (Zq x2 0).bind fun x7=>
   (if x7 then(if(p0.Op==4)then some default else(Zj p0.Op 11 13)).bind fun x8=>if((p0.Op==4)||x8)then some (.inr x1)else if(p0.Op==15)then(ZC 1 0).bind fun x9=>some (.inr (D.Term.mk x9.Op x9.W x9.N x9.Name ([]:List D.Term)))else some (.inl ())else some (.inl ())).bind fun(rl2:(Unit)⊕D.Term)=>
   match rl2 with
   | .inl s2r=>
    (ZN n x1 x2).bind fun x10=>
    (if x10 then(Zl p0).bind fun x11=>if x11.2 then some (.inr x11.1)else some (.inl ())else some (.inl ())).bind fun(rl3:(Unit)⊕D.Term)=>
    match rl3 with
    | .inl s3r=>
     (if(((((p0.Op==3)||(p0.Op==5))||x3)&&(x1.Op==0))&&(x2.Op==p0.Op))then(get? x2.Kids 0)else some default).bind fun x12=>
     if((((((p0.Op==3)||(p0.Op==5))||x3)&&(x1.Op==0))&&(x2.Op==p0.Op))&&(x12.Op==0))then
      (get? x2.Kids 0).bind fun x13=>
      (Yu p0.Op p0.W x1.N x13.N).bind fun x14=>
      (ZC p0.W x14).bind fun x15=>
      (get? x2.Kids 1).bind fun x16=>
      (Z4 n (D.Term.mk p0.Op p0.W 0 ⟨[]⟩ ([(D.Term.mk x15.Op x15.W x15.N x15.Name ([]:List D.Term)),x16]:List D.Term))).bind fun x17=>
      some x17
     else
      some p0
    |.inr v=>some v
   |.inr v=>some v
  |.inr v=>some v
def YP (n:Nat)(p0:D.Term):Option D.Term:=
 match n with
 |0=>none
 |n+1=>
 (get? p0.Kids 0).bind fun x1=>
 (get? p0.Kids 1).bind fun x2=>
 (get? p0.Kids 2).bind fun x3=>
 (Zq x1 1).bind fun x4=>
 if x4 then
  some x2
 else
  (Zq x1 0).bind fun x5=>
  if x5 then
   some x3
  else
   (ZN n x2 x3).bind fun x6=>
   if x6 then
    some x2
   else
    if(x1.Op==1)then
     (get? x1.Kids 0).bind fun x7=>
     (Z4 n (D.Term.mk 17 p0.W 0 ⟨[]⟩ ([x7,x3,x2]:List D.Term))).bind fun x8=>
     some x8
    else
     (if(p0.W==1)then(Zq x2 1)else some default).bind fun x9=>
     (if((p0.W==1)&&x9)then(Zq x3 0)else some default).bind fun x10=>
     if(((p0.W==1)&&x9)&&x10)then
      some x1
     else
      (if(p0.W==1)then(Zq x2 0)else some default).bind fun x11=>
      (if((p0.W==1)&&x11)then(Zq x3 1)else some default).bind fun x12=>
      if(((p0.W==1)&&x11)&&x12)then
       (Z4 n (D.Term.mk 1 1 0 ⟨[]⟩ ([x1]:List D.Term))).bind fun x13=>
       some x13
      else
       some p0
def Y8(n:Nat)(p0:D.Term):Option D.Term:=
 match n with
 |0=>none
 |n+1=>
 (get? p0.Kids 0).bind fun x1=>
 if(p0.W==x1.W)then
  some x1
 else
  if(x1.Op==19)then
   (get? x1.Kids 0).bind fun x2=>
   (Yy n p0.W x2 (w64 (p0.N+x1.N))).bind fun x3=>
   some x3
  else
   (if(x1.Op==18)then(get? x1.Kids 1)else some default).bind fun x4=>
   if((x1.Op==18)&&(decide ((w64 (p0.N+p0.W))≤x4.W)))then
    (get? x1.Kids 1).bind fun x5=>
    (Yy n p0.W x5 p0.N).bind fun x6=>
    some x6
   else
    (if(x1.Op==18)then(get? x1.Kids 1)else some default).bind fun x7=>
    if((x1.Op==18)&&(decide (p0.N≥x7.W)))then
     (get? x1.Kids 0).bind fun x8=>
     (get? x1.Kids 1).bind fun x9=>
     (Yy n p0.W x8 (w64 (p0.N-x9.W))).bind fun x10=>
     some x10
    else
     (Zj x1.Op 20 21).bind fun x11=>
     (if x11 then(get? x1.Kids 0)else some default).bind fun x12=>
     if(x11&&(decide ((w64 (p0.N+p0.W))≤x12.W)))then
      (get? x1.Kids 0).bind fun x13=>
      (Yy n p0.W x13 p0.N).bind fun x14=>
      some x14
     else
      some p0
def Yy(n:Nat)(p0:Int)(p1:D.Term)(p2:Int):Option D.Term:=
 match n with
 |0=>none
 |n+1=>
 (Z4 n (D.Term.mk 19 p0 p2 ⟨[]⟩ ([p1]:List D.Term))).bind fun x1=>
 some x1
end
def YC(n:Nat)(p0:D.Term):Option D.Term:=
 match n with
 |0=>none
 |n+1=>
 (iterN (fun(s1:Int×(List D.Term))=>if(decide (s1.1<(len p0.Kids)))then(get? p0.Kids s1.1).bind fun x1=>(YC n x1).bind fun x2=>(app? s1.2 ([x2]:List D.Term)).bind fun x3=>some (.inl ((w64 (s1.1+1)),x3))else some (.inr (s1.2))) n (0,([]:List D.Term))).bind fun(rl1:(List D.Term))=>
 some (D.Term.mk p0.Op p0.W p0.N p0.Name rl1)
def XA(n:Nat)(p0:Int)(p1:Int)(p2:Int)(p3:List D.Term):Option (D.Term×Bool):=
 (X5 n (D.Term.mk p0 p1 p2 ⟨[]⟩ p3)).bind fun x1=>
 if(!x1)then
  some ((D.Term.mk 0 0 0 ⟨[]⟩ ([]:List D.Term)),false)
 else
  (Z4 n (D.Term.mk p0 p1 p2 ⟨[]⟩ p3)).bind fun x2=>
  (YC n x2).bind fun x3=>
  some (x3,true)
def Zbx(n:Nat)(p0:List D.Term):Option (D.Term×Bool):=
 (iterN (fun(s1:Int)=>if(decide (s1<(len p0)))then(get? p0 s1).bind fun x1=>(X5 n x1).bind fun x2=>if((!x2)||(x1.W !=1))then some (.inr (.inr ((D.Term.mk 0 0 0 ⟨[]⟩ ([]:List D.Term)),false)))else some (.inl ((w64 (s1+1))))else some (.inr (.inl ()))) n (0)).bind fun(rl1:(Unit)⊕(D.Term×Bool))=>
 match rl1 with
 | .inl s1r=>
  (ZC 1 1).bind fun x3=>
  (iterN (fun(s2:Int×Int×Int×Int×Str×(List D.Term))=>if(decide (s2.1<(len p0)))then(get? p0 s2.1).bind fun x4=>(XA n 8 1 0 ([(D.Term.mk s2.2.1 s2.2.2.1 s2.2.2.2.1 s2.2.2.2.2.1 s2.2.2.2.2.2),x4]:List D.Term)).bind fun x5=>if(!x5.2)then some (.inr (.inr ((D.Term.mk 0 0 0 ⟨[]⟩ ([]:List D.Term)),false)))else some (.inl ((w64 (s2.1+1)),x5.1.Op,x5.1.W,x5.1.N,x5.1.Name,x5.1.Kids))else some (.inr (.inl (s2.2.1,s2.2.2.1,s2.2.2.2.1,s2.2.2.2.2.1,s2.2.2.2.2.2)))) n (0,x3.Op,x3.W,x3.N,x3.Name,([]:List D.Term))).bind fun(rl2:(Int×Int×Int×Str×(List D.Term))⊕(D.Term×Bool))=>
  match rl2 with
  |.inl s2r=>
   some ((D.Term.mk s2r.1 s2r.2.1 s2r.2.2.1 s2r.2.2.2.1 s2r.2.2.2.2),true)
  |.inr v=>some v
 |.inr v=>some v
def Zf(n:Nat)(p0:D.l06Maker)(p1:Int)(p2:Int)(p3:List D.Term):Option (D.Term×D.l06Maker):=
 (XA n p1 p2 0 p3).bind fun x1=>
 if(!x1.2)then
  some (x1.1,(D.l06Maker.mk true))
 else
  some (x1.1,p0)
def YH(n:Nat)(p0:List D.Term):Option (List D.Term):=
 (iterN (fun(s1:Int×(List D.Term))=>if(decide (s1.1<(len p0)))then(get? p0 s1.1).bind fun x1=>(YC n x1).bind fun x2=>(app? s1.2 ([x2]:List D.Term)).bind fun x3=>some (.inl ((w64 (s1.1+1)),x3))else some (.inr (s1.2))) n (0,([]:List D.Term))).bind fun(rl1:(List D.Term))=>
 some rl1
def ZV(n:Nat)(p0:D.Path):Option D.Path:=
 (YH n p0.Regs).bind fun x1=>
 (YH n p0.Mem).bind fun x2=>
 (app? ([]:List Int) p0.Stack).bind fun x3=>
 (YH n p0.Out).bind fun x4=>
 (YH n p0.Cond).bind fun x5=>
 (app? ([]:List Int) p0.Turns).bind fun x6=>
 some (D.Path.mk p0.Pc x1 x2 x3 p0.In x4 p0.Code p0.Steps x5 x6)
def Ye(n:Nat)(p0:D.l06Maker)(p1:D.Term)(p2:List D.Term)(p3:List D.Term):Option ((List D.Term)×D.l06Maker):=
 (iterN (fun(s1:Int×Bool×(List D.Term))=>if(decide (s1.1<(len p2)))then(get? p2 s1.1).bind fun x1=>(get? p3 s1.1).bind fun x2=>(ZN n x1 x2).bind fun x3=>if((!x3)&&(!s1.2.1))then(get? p3 s1.1).bind fun x4=>(Zf n (D.l06Maker.mk s1.2.1) 17 x1.W ([p1,x1,x4]:List D.Term)).bind fun x5=>(app? s1.2.2 ([x5.1]:List D.Term)).bind fun x6=>some (.inl ((w64 (s1.1+1)),x5.2.bad,x6))else(app? s1.2.2 ([x1]:List D.Term)).bind fun x7=>some (.inl ((w64 (s1.1+1)),s1.2.1,x7))else some (.inr (s1.2.1,s1.2.2))) n (0,p0.bad,([]:List D.Term))).bind fun(rl1:Bool×(List D.Term))=>
 some (rl1.2,(D.l06Maker.mk rl1.1))
def YK (n:Nat)(p0:D.Program)(p1:D.Path)(p2:D.Path):Option (D.Path×Bool):=
 (Za1 n p0 p1).bind fun x1=>
 (if(!x1)then some default else(Za1 n p0 p2)).bind fun x2=>
 (if((!x1)||(!x2))then some default else(Zag n p1 p2)).bind fun x3=>
 if((((!x1)||(!x2))||(!x3))||(p1.Code !=p2.Code))then
  some ((D.Path.mk 0 ([]:List D.Term) ([]:List D.Term) ([]:List Int) 0 ([]:List D.Term) 0 0 ([]:List D.Term) ([]:List Int)),false)
 else
  (iterN (fun(s1:Int)=>(if((decide (s1<(len p1.Cond)))&&(decide (s1<(len p2.Cond))))then(get? p1.Cond s1)else some default).bind fun x4=>(if((decide (s1<(len p1.Cond)))&&(decide (s1<(len p2.Cond))))then(get? p2.Cond s1)else some default).bind fun x5=>(if((decide (s1<(len p1.Cond)))&&(decide (s1<(len p2.Cond))))then(ZN n x4 x5)else some default).bind fun x6=>if(((decide (s1<(len p1.Cond)))&&(decide (s1<(len p2.Cond))))&&x6)then some (.inl ((w64 (s1+1))))else some (.inr (s1))) n (0)).bind fun(rl1:Int)=>
  (cut? p1.Cond rl1 (len p1.Cond)).bind fun x7=>
  (Zbx n x7).bind fun x8=>
  (cut? p2.Cond rl1 (len p2.Cond)).bind fun x9=>
  (Zbx n x9).bind fun x10=>
  if((!x8.2)||(!x10.2))then
   some ((D.Path.mk 0 ([]:List D.Term) ([]:List D.Term) ([]:List Int) 0 ([]:List D.Term) 0 0 ([]:List D.Term) ([]:List Int)),false)
  else
   (Zf n (D.l06Maker.mk false) 9 1 ([x8.1,x10.1]:List D.Term)).bind fun x11=>
   (ZV n p1).bind fun x12=>
   (cut? p1.Cond 0 rl1).bind fun x13=>
   (app? ([]:List D.Term) x13).bind fun x14=>
   (Zq x11.1 1).bind fun x15=>
   (if(!x15)then(app? x14 ([x11.1]:List D.Term)).bind fun x16=>some (.inl (x16))else some (.inl (x14))).bind fun(rl2:((List D.Term))⊕(D.Path×Bool))=>
   match rl2 with
   | .inl s2r=>
    (Ye n x11.2 x8.1 p1.Regs p2.Regs).bind fun x17=>
    (Ye n x17.2 x8.1 p1.Mem p2.Mem).bind fun x18=>
    (Ye n x18.2 x8.1 p1.Out p2.Out).bind fun x19=>
    (if(decide (p2.Steps>x12.Steps))then some (.inl (p2.Steps))else some (.inl (x12.Steps))).bind fun(rl3:(Int)⊕(D.Path×Bool))=>
    match rl3 with
    | .inl s3r=>
     (iterN (fun(s4:Int)=>(if((decide (s4<(len p1.Turns)))&&(decide (s4<(len p2.Turns))))then(get? p1.Turns s4)else some default).bind fun x20=>(if((decide (s4<(len p1.Turns)))&&(decide (s4<(len p2.Turns))))then(get? p2.Turns s4)else some default).bind fun x21=>if(((decide (s4<(len p1.Turns)))&&(decide (s4<(len p2.Turns))))&&(x20==x21))then some (.inl ((w64 (s4+1))))else some (.inr (s4))) n (0)).bind fun(rl4:Int)=>
     (cut? x12.Turns 0 rl4).bind fun x22=>
     (if x19.2.bad then some default else(Za1 n p0 (D.Path.mk x12.Pc x17.1 x18.1 x12.Stack x12.In x19.1 x12.Code s3r s2r x22))).bind fun x23=>
     if(x19.2.bad||(!x23))then
      some ((D.Path.mk 0 ([]:List D.Term) ([]:List D.Term) ([]:List Int) 0 ([]:List D.Term) 0 0 ([]:List D.Term) ([]:List Int)),false)
     else
      (ZV n (D.Path.mk x12.Pc x17.1 x18.1 x12.Stack x12.In x19.1 x12.Code s3r s2r x22)).bind fun x24=>
      some (x24,true)
    |.inr v=>some v
   |.inr v=>some v
def ZaD(n:Nat)(p0:D.Program)(p1:List D.Path):Option (D.Path×(List D.Path)):=
 (Zbl n p1).bind fun x1=>
 (get? p1 x1).bind fun x2=>
 (iterN (fun(s1:Int×Int×(List D.Term)×(List D.Term)×(List Int)×Int×(List D.Term)×Int×Int×(List D.Term)×(List Int)×(List D.Path))=>if (decide (s1.1<(len p1)))then(get? p1 s1.1).bind fun x3=>if(s1.1==x1)then some (.inl ((w64 (s1.1+1)),s1.2.1,s1.2.2.1,s1.2.2.2.1,s1.2.2.2.2.1,s1.2.2.2.2.2.1,s1.2.2.2.2.2.2.1,s1.2.2.2.2.2.2.2.1,s1.2.2.2.2.2.2.2.2.1,s1.2.2.2.2.2.2.2.2.2.1,s1.2.2.2.2.2.2.2.2.2.2.1,s1.2.2.2.2.2.2.2.2.2.2.2))else(Zag n (D.Path.mk s1.2.1 s1.2.2.1 s1.2.2.2.1 s1.2.2.2.2.1 s1.2.2.2.2.2.1 s1.2.2.2.2.2.2.1 s1.2.2.2.2.2.2.2.1 s1.2.2.2.2.2.2.2.2.1 s1.2.2.2.2.2.2.2.2.2.1 s1.2.2.2.2.2.2.2.2.2.2.1) x3).bind fun x4=>if x4 then(YK n p0 (D.Path.mk s1.2.1 s1.2.2.1 s1.2.2.2.1 s1.2.2.2.2.1 s1.2.2.2.2.2.1 s1.2.2.2.2.2.2.1 s1.2.2.2.2.2.2.2.1 s1.2.2.2.2.2.2.2.2.1 s1.2.2.2.2.2.2.2.2.2.1 s1.2.2.2.2.2.2.2.2.2.2.1) x3).bind fun x5=>if x5.2 then some (.inl ((w64 (s1.1+1)),x5.1.Pc,x5.1.Regs,x5.1.Mem,x5.1.Stack,x5.1.In,x5.1.Out,x5.1.Code,x5.1.Steps,x5.1.Cond,x5.1.Turns,s1.2.2.2.2.2.2.2.2.2.2.2))else(app? s1.2.2.2.2.2.2.2.2.2.2.2 ([x3]:List D.Path)).bind fun x6=>some (.inl ((w64 (s1.1+1)),s1.2.1,s1.2.2.1,s1.2.2.2.1,s1.2.2.2.2.1,s1.2.2.2.2.2.1,s1.2.2.2.2.2.2.1,s1.2.2.2.2.2.2.2.1,s1.2.2.2.2.2.2.2.2.1,s1.2.2.2.2.2.2.2.2.2.1,s1.2.2.2.2.2.2.2.2.2.2.1,x6))else(app? s1.2.2.2.2.2.2.2.2.2.2.2 ([x3]:List D.Path)).bind fun x7=>some (.inl ((w64 (s1.1+1)),s1.2.1,s1.2.2.1,s1.2.2.2.1,s1.2.2.2.2.1,s1.2.2.2.2.2.1,s1.2.2.2.2.2.2.1,s1.2.2.2.2.2.2.2.1,s1.2.2.2.2.2.2.2.2.1,s1.2.2.2.2.2.2.2.2.2.1,s1.2.2.2.2.2.2.2.2.2.2.1,x7))else some (.inr (s1.2.1,s1.2.2.1,s1.2.2.2.1,s1.2.2.2.2.1,s1.2.2.2.2.2.1,s1.2.2.2.2.2.2.1,s1.2.2.2.2.2.2.2.1,s1.2.2.2.2.2.2.2.2.1,s1.2.2.2.2.2.2.2.2.2.1,s1.2.2.2.2.2.2.2.2.2.2.1,s1.2.2.2.2.2.2.2.2.2.2.2))) n (0,x2.Pc,x2.Regs,x2.Mem,x2.Stack,x2.In,x2.Out,x2.Code,x2.Steps,x2.Cond,x2.Turns,([]:List D.Path))).bind fun(rl1:Int×(List D.Term)×(List D.Term)×(List Int)×Int×(List D.Term)×Int×Int×(List D.Term)×(List Int)×(List D.Path))=>
 some ((D.Path.mk rl1.1 rl1.2.1 rl1.2.2.1 rl1.2.2.2.1 rl1.2.2.2.2.1 rl1.2.2.2.2.2.1 rl1.2.2.2.2.2.2.1 rl1.2.2.2.2.2.2.2.1 rl1.2.2.2.2.2.2.2.2.1 rl1.2.2.2.2.2.2.2.2.2.1),rl1.2.2.2.2.2.2.2.2.2.2)
def Y6(n:Nat)(p0:D.l06Maker)(p1:D.Program)(p2:D.Path)(p3:D.Ins):Option (D.Term×Bool×D.l06Maker):=
 (ZC p1.W 0).bind fun x1=>
 if((p3.Op==10)||(p3.Op==13))then
  (get? p2.Regs p3.A).bind fun x2=>
  (Zf n p0 14 1 ([(D.Term.mk x1.Op x1.W x1.N x1.Name ([]:List D.Term)),x2]:List D.Term)).bind fun x3=>
  some (x3.1,true,x3.2)
 else
  if((p3.Op==3)&&((p3.C==6)||(p3.C==7)))then
   (get? p2.Regs p3.B).bind fun x4=>
   (Zf n p0 14 1 ([(D.Term.mk x1.Op x1.W x1.N x1.Name ([]:List D.Term)),x4]:List D.Term)).bind fun x5=>
   some (x5.1,true,x5.2)
  else
   if ((p3.Op==7)||(p3.Op==8))then
    (get? p2.Regs p3.B).bind fun x6=>
    if(p3.Op==8)then
     (get? p2.Regs p3.A).bind fun x7=>
     (ZC p1.W p1.Mem).bind fun x8=>
     (Zf n p0 15 1 ([x7,(D.Term.mk x8.Op x8.W x8.N x8.Name ([]:List D.Term))]:List D.Term)).bind fun x9=>
     if x9.2.bad then
      some (x9.1,true,x9.2)
     else
      (Zf n x9.2 1 1 ([x9.1]:List D.Term)).bind fun x10=>
      some (x10.1,true,x10.2)
    else
     (ZC p1.W p1.Mem).bind fun x11=>
     (Zf n p0 15 1 ([x6,(D.Term.mk x11.Op x11.W x11.N x11.Name ([]:List D.Term))]:List D.Term)).bind fun x12=>
     if x12.2.bad then
      some (x12.1,true,x12.2)
     else
      (Zf n x12.2 1 1 ([x12.1]:List D.Term)).bind fun x13=>
      some (x13.1,true,x13.2)
   else
    some ((D.Term.mk 0 0 0 ⟨[]⟩ ([]:List D.Term)),false,p0)
def Xk(p0:Int)(p1:Int):Option Int:=
 (Zj p1 1 16).bind fun x1=>
 (if(!x1)then some default else(Zj p0 1 16)).bind fun x2=>
 if((!x1)||(!x2))then
  some 0
 else
  if(decide (p0≥14))then
   some 1
  else
   some p1
def Xv(n:Nat)(p0:Int):Option Str:=
 match n with
 |0=>none
 |n+1=>
 if(decide (p0<0))then
  (quo? p0 10).bind fun x1=>
  if(x1==0)then
   (cat? ⟨[45]⟩ (strOf ([(Byt.mk (IntKind.u8.wrap (w64 (48-p0))))]:List Byt))).bind fun x2=>
   some x2
  else
   (quo? p0 10).bind fun x3=>
   (Xv n x3).bind fun x4=>
   (rem? p0 10).bind fun x5=>
   (cat? x4 (strOf ([(Byt.mk (IntKind.u8.wrap (w64 (48-x5))))]:List Byt))).bind fun x6=>
   some x6
 else
  (iterN (fun(s1:Int×Str)=>if(decide (s1.1>9))then(rem? s1.1 10).bind fun x7=>(cat? (strOf ([(Byt.mk (IntKind.u8.wrap (w64 (48+x7))))]:List Byt)) s1.2).bind fun x8=>(quo? s1.1 10).bind fun x9=>some (.inl (x9,x8))else some (.inr (s1.1,s1.2))) n (p0,⟨[]⟩)).bind fun(rl1:Int×Str)=>
  (cat? (strOf ([(Byt.mk (IntKind.u8.wrap (w64 (48+rl1.1))))]:List Byt)) rl1.2).bind fun x10=>
  some x10
def ZaG(n:Nat)(p0:D.Program)(p1:Int):Option D.Term:=
 (Xv n p1).bind fun x1=>
 (cat? ⟨[105]⟩ x1).bind fun x2=>
 some (D.Term.mk 22 p0.W 0 x2 ([]:List D.Term))
def YO(n:Nat)(p0:D.l06Maker)(p1:D.Program)(p2:D.Path)(p3:D.Term):Option (D.Term×D.l06Maker):=
 if(p3.Op==0)then
  (get? p2.Mem p3.N).bind fun x1=>
  some (x1,p0)
 else
  (get? p2.Mem (w64 (p1.Mem-1))).bind fun x2=>
  (iterN (fun(s1:Int×Bool×Int×Int×Int×Str×(List D.Term))=>if((decide (s1.1≥0))&&(!s1.2.1))then(ZC p1.W s1.1).bind fun x3=>(Zf n (D.l06Maker.mk s1.2.1) 14 1 ([(D.Term.mk x3.Op x3.W x3.N x3.Name ([]:List D.Term)),p3]:List D.Term)).bind fun x4=>if(!x4.2.bad)then(get? p2.Mem s1.1).bind fun x5=>(Zf n x4.2 17 p1.W ([x4.1,x5,(D.Term.mk s1.2.2.1 s1.2.2.2.1 s1.2.2.2.2.1 s1.2.2.2.2.2.1 s1.2.2.2.2.2.2)]:List D.Term)).bind fun x6=>some (.inl ((w64 (s1.1-1)),x6.2.bad,x6.1.Op,x6.1.W,x6.1.N,x6.1.Name,x6.1.Kids))else some (.inl ((w64 (s1.1-1)),x4.2.bad,s1.2.2.1,s1.2.2.2.1,s1.2.2.2.2.1,s1.2.2.2.2.2.1,s1.2.2.2.2.2.2))else some (.inr (s1.2.1,s1.2.2.1,s1.2.2.2.1,s1.2.2.2.2.1,s1.2.2.2.2.2.1,s1.2.2.2.2.2.2))) n ((w64 (p1.Mem-2)),p0.bad,x2.Op,x2.W,x2.N,x2.Name,x2.Kids)).bind fun(rl1:Bool×Int×Int×Int×Str×(List D.Term))=>
  some ((D.Term.mk rl1.2.1 rl1.2.2.1 rl1.2.2.2.1 rl1.2.2.2.2.1 rl1.2.2.2.2.2),(D.l06Maker.mk rl1.1))
def YE(n:Nat)(p0:D.l06Maker)(p1:D.Program)(p2:D.Path)(p3:D.Term)(p4:D.Term):Option ((List D.Term)×D.l06Maker):=
 (app? ([]:List D.Term) p2.Mem).bind fun x1=>
 if(p3.Op==0)then
  (set? x1 p3.N p4).bind fun x2=>
  some (x2,p0)
 else
  (iterN (fun(s1:Int×Bool×(List D.Term))=>if((decide (s1.1<p1.Mem))&&(!s1.2.1))then(ZC p1.W s1.1).bind fun x3=>(Zf n (D.l06Maker.mk s1.2.1) 14 1 ([(D.Term.mk x3.Op x3.W x3.N x3.Name ([]:List D.Term)),p3]:List D.Term)).bind fun x4=>if(!x4.2.bad)then(get? p2.Mem s1.1).bind fun x5=>(Zf n x4.2 17 p1.W ([x4.1,p4,x5]:List D.Term)).bind fun x6=>(set? s1.2.2 s1.1 x6.1).bind fun x7=>some (.inl ((w64 (s1.1+1)),x6.2.bad,x7))else some (.inl ((w64 (s1.1+1)),x4.2.bad,s1.2.2))else some (.inr (s1.2.1,s1.2.2))) n (0,p0.bad,x1)).bind fun(rl1:Bool×(List D.Term))=>
  some (rl1.2,(D.l06Maker.mk rl1.1))
def ZP (n:Nat) (p0:D.l06Maker)(p1:D.Program)(p2:D.Path)(p3:D.Ins):Option (D.Path×D.l06Maker):=
 (ZV n p2).bind fun x1=>
 (if((p3.Op==5)&&(x1.In==p1.In))then some (.inl (3))else if((p3.Op==6)&&((len x1.Out)==6))then some (.inl (4))else if((p3.Op==11)&&((len x1.Stack)==3))then if((p3.Op==11)&&((len x1.Stack)==3))then some (.inl (7))else some (.inl ((cond (p3.Op==14) 1 0)))else if((p3.Op==12)&&((len x1.Stack)==0))then some (.inl (7))else some (.inl ((cond (p3.Op==14) 1 0)))).bind fun(rl1:(Int)⊕(D.Path×D.l06Maker))=>
 match rl1 with
 | .inl s1r=>
  if(s1r !=0)then
   some ((D.Path.mk x1.Pc x1.Regs x1.Mem x1.Stack x1.In x1.Out s1r x1.Steps x1.Cond x1.Turns),p0)
  else
   (if(p3.Op==1)then(ZC p1.W p3.B).bind fun x2=>(set? x1.Regs p3.A (D.Term.mk x2.Op x2.W x2.N x2.Name ([]:List D.Term))).bind fun x3=>some (.inl (p0.bad,(w64 (x1.Pc+1)),x1.Mem,x1.In,x3,x1.Stack,x1.Out))else if(p3.Op==2)then(get? x1.Regs p3.B).bind fun x4=>(set? x1.Regs p3.A x4).bind fun x5=>some (.inl (p0.bad,(w64 (x1.Pc+1)),x1.Mem,x1.In,x5,x1.Stack,x1.Out))else if(p3.Op==3)then(get? x1.Regs p3.A).bind fun x6=>(get? x1.Regs p3.B).bind fun x7=>(Xk p3.C p1.W).bind fun x8=>(get? x1.Regs p3.A).bind fun x9=>(get? x1.Regs p3.B).bind fun x10=>(Zf n p0 p3.C x8 ([x9,x10]:List D.Term)).bind fun x11=>if((decide (p3.C≥14))&&(!x11.2.bad))then(Zf n x11.2 20 p1.W ([x11.1]:List D.Term)).bind fun x12=>(set? x1.Regs p3.A x12.1).bind fun x13=>some (.inl (x12.2.bad,(w64 (x1.Pc+1)),x1.Mem,x1.In,x13,x1.Stack,x1.Out))else(set? x1.Regs p3.A x11.1).bind fun x14=>some (.inl (x11.2.bad,(w64 (x1.Pc+1)),x1.Mem,x1.In,x14,x1.Stack,x1.Out))else if(p3.Op==4)then(get? x1.Regs p3.A).bind fun x15=>(get? x1.Regs p3.A).bind fun x16=>(get? x1.Regs p3.A).bind fun x17=>(Zf n p0 1 p1.W ([x17]:List D.Term)).bind fun x18=>(set? x1.Regs p3.A x18.1).bind fun x19=>some (.inl (x18.2.bad,(w64 (x1.Pc+1)),x1.Mem,x1.In,x19,x1.Stack,x1.Out))else if(p3.Op==5)then(ZaG n p1 x1.In).bind fun x20=>(set? x1.Regs p3.A (D.Term.mk x20.Op x20.W x20.N x20.Name ([]:List D.Term))).bind fun x21=>some (.inl (p0.bad,(w64 (x1.Pc+1)),x1.Mem,(w64 (x1.In+1)),x21,x1.Stack,x1.Out))else if(p3.Op==6)then(get? x1.Regs p3.A).bind fun x22=>(app? x1.Out ([x22]:List D.Term)).bind fun x23=>some (.inl (p0.bad,(w64 (x1.Pc+1)),x1.Mem,x1.In,x1.Regs,x1.Stack,x23))else if(p3.Op==7)then(get? x1.Regs p3.B).bind fun x24=>(get? x1.Regs p3.A).bind fun x25=>(get? x1.Regs p3.B).bind fun x26=>(YO n p0 p1 (D.Path.mk (w64 (x1.Pc+1)) x1.Regs x1.Mem x1.Stack x1.In x1.Out s1r x1.Steps x1.Cond x1.Turns) x26).bind fun x27=>(set? x1.Regs p3.A x27.1).bind fun x28=>some (.inl (x27.2.bad,(w64 (x1.Pc+1)),x1.Mem,x1.In,x28,x1.Stack,x1.Out))else if(p3.Op==8)then(get? x1.Regs p3.A).bind fun x29=>(get? x1.Regs p3.B).bind fun x30=>(YE n p0 p1 (D.Path.mk (w64 (x1.Pc+1)) x1.Regs x1.Mem x1.Stack x1.In x1.Out s1r x1.Steps x1.Cond x1.Turns) x29 x30).bind fun x31=>some (.inl (x31.2.bad,(w64 (x1.Pc+1)),x31.1,x1.In,x1.Regs,x1.Stack,x1.Out))else if(p3.Op==9)then some (.inl (p0.bad,p3.B,x1.Mem,x1.In,x1.Regs,x1.Stack,x1.Out))else if(p3.Op==11)then(app? x1.Stack ([(w64 (x1.Pc+1))]:List Int)).bind fun x32=>some (.inl (p0.bad,p3.B,x1.Mem,x1.In,x1.Regs,x32,x1.Out))else if(p3.Op==12)then(get? x1.Stack (w64 ((len x1.Stack)-1))).bind fun x33=>(cut? x1.Stack 0 (w64 ((len x1.Stack)-1))).bind fun x34=>some (.inl (p0.bad,x33,x1.Mem,x1.In,x1.Regs,x34,x1.Out))else some (.inl (p0.bad,(w64 (x1.Pc+1)),x1.Mem,x1.In,x1.Regs,x1.Stack,x1.Out))).bind fun(rl2:(Bool×Int×(List D.Term)×Int×(List D.Term)×(List Int)×(List D.Term))⊕(D.Path×D.l06Maker))=>
   match rl2 with
   |.inl s2r=>
    some ((D.Path.mk s2r.2.1 s2r.2.2.2.2.1 s2r.2.2.1 s2r.2.2.2.2.2.1 s2r.2.2.2.1 s2r.2.2.2.2.2.2 s1r x1.Steps x1.Cond x1.Turns),(D.l06Maker.mk s2r.1))
   |.inr v=>some v
 |.inr v=>some v
def XP(p0:D.Path)(p1:D.Ins):Option D.Path:=
 if(p1.Op==10)then
  some (D.Path.mk p1.B p0.Regs p0.Mem p0.Stack p0.In p0.Out p0.Code p0.Steps p0.Cond p0.Turns)
 else
  if(p1.Op==13)then
   some (D.Path.mk p0.Pc p0.Regs p0.Mem p0.Stack p0.In p0.Out 8 p0.Steps p0.Cond p0.Turns)
  else
   if(p1.Op==3)then
    some (D.Path.mk p0.Pc p0.Regs p0.Mem p0.Stack p0.In p0.Out 6 p0.Steps p0.Cond p0.Turns)
   else
    some (D.Path.mk p0.Pc p0.Regs p0.Mem p0.Stack p0.In p0.Out 5 p0.Steps p0.Cond p0.Turns)
def Xz(n:Nat)(p0:D.Path)(p1:D.Term)(p2:Int):Option D.Path:=
 (ZV n p0).bind fun x1=>
 (app? x1.Cond ([p1]:List D.Term)).bind fun x2=>
 (app? x1.Turns ([p2]:List Int)).bind fun x3=>
 some (D.Path.mk x1.Pc x1.Regs x1.Mem x1.Stack x1.In x1.Out x1.Code x1.Steps x2 x3)
def ZaB (n:Nat)(p0:D.Program)(p1:D.Path):Option (List D.Path):=
 if((p1.Code !=0)||(p1.Steps==400))then
  some ([]:List D.Path)
 else
  (ZV n p1).bind fun x1=>
  if(x1.Pc==(len p0.Code))then
   some ([(D.Path.mk x1.Pc x1.Regs x1.Mem x1.Stack x1.In x1.Out 2 x1.Steps x1.Cond x1.Turns)]:List D.Path)
  else
   (ZV n (D.Path.mk x1.Pc x1.Regs x1.Mem x1.Stack x1.In x1.Out x1.Code (w64 (x1.Steps+1)) x1.Cond x1.Turns)).bind fun x2=>
   (get? p0.Code x1.Pc).bind fun x3=>
   (Y6 n (D.l06Maker.mk false) p0 (D.Path.mk x1.Pc x1.Regs x1.Mem x1.Stack x1.In x1.Out x1.Code (w64 (x1.Steps+1)) x1.Cond x1.Turns) x3).bind fun x4=>
   if x4.2.2.bad then
    some ([(D.Path.mk x2.Pc x2.Regs x2.Mem x2.Stack x2.In x2.Out 9 x2.Steps x2.Cond x2.Turns)]:List D.Path)
   else
    (if(!x4.2.1)then some default else(Zq x4.1 0)).bind fun x5=>
    if((!x4.2.1)||x5)then
     (ZP n x4.2.2 p0 (D.Path.mk x1.Pc x1.Regs x1.Mem x1.Stack x1.In x1.Out x1.Code (w64 (x1.Steps+1)) x1.Cond x1.Turns) x3).bind fun x6=>
     if x6.2.bad then
      some ([(D.Path.mk x2.Pc x2.Regs x2.Mem x2.Stack x2.In x2.Out 9 x2.Steps x2.Cond x2.Turns)]:List D.Path)
     else
      (ZV n x6.1).bind fun x7=>
      some ([x7]:List D.Path)
    else
     (Zq x4.1 1).bind fun x8=>
     if x8 then
      (XP (D.Path.mk x1.Pc x1.Regs x1.Mem x1.Stack x1.In x1.Out x1.Code (w64 (x1.Steps+1)) x1.Cond x1.Turns) x3).bind fun x9=>
      some ([x9]:List D.Path)
     else
      (Zf n x4.2.2 1 1 ([x4.1]:List D.Term)).bind fun x10=>
      if((x10.2.bad||((len x1.Cond)==60))||((len x1.Turns)==60))then
       some ([(D.Path.mk x2.Pc x2.Regs x2.Mem x2.Stack x2.In x2.Out 9 x2.Steps x2.Cond x2.Turns)]:List D.Path)
      else
       (Xz n (D.Path.mk x1.Pc x1.Regs x1.Mem x1.Stack x1.In x1.Out x1.Code (w64 (x1.Steps+1)) x1.Cond x1.Turns) x10.1 0).bind fun x11=>
       (ZP n x10.2 p0 x11 x3).bind fun x12=>
       if x12.2.bad then
        some ([(D.Path.mk x2.Pc x2.Regs x2.Mem x2.Stack x2.In x2.Out 9 x2.Steps x2.Cond x2.Turns)]:List D.Path)
       else
        (Xz n (D.Path.mk x1.Pc x1.Regs x1.Mem x1.Stack x1.In x1.Out x1.Code (w64 (x1.Steps+1)) x1.Cond x1.Turns) x4.1 1).bind fun x13=>
        (XP x13 x3).bind fun x14=>
        (ZV n x12.1).bind fun x15=>
        some ([x14,x15]:List D.Path)
def Zbg(p0:D.Path):Option Bool:=
 some ((p0.Code==0)&&(decide (p0.Steps<400)))
def Zae(n:Nat)(p0:List D.Path):Option (List D.Path):=
 (iterN (fun(s1:Int×(List D.Path))=>if(decide (s1.1<(len p0)))then(get? p0 s1.1).bind fun x1=>(ZV n x1).bind fun x2=>(app? s1.2 ([x2]:List D.Path)).bind fun x3=>some (.inl ((w64 (s1.1+1)),x3))else some (.inr (s1.2))) n (0,([]:List D.Path))).bind fun(rl1:(List D.Path))=>
 some rl1
def Xn (n:Nat)(p0:D.Program)(p1:Int)(p2:Int):Option ((List D.Path)×Bool):=
 (Xr n p0).bind fun x1=>
 (if(!x1)then some default else(Zj p1 0 400)).bind fun x2=>
 (if((!x1)||(!x2))then some default else(Zj p2 1 64)).bind fun x3=>
 if(((!x1)||(!x2))||(!x3))then
  some (([]:List D.Path),false)
 else
  (Za4 n p0).bind fun x4=>
  (iterN (fun(s1:Int×(List D.Path)×(List D.Path))=>if ((decide (s1.1<p1))&&(decide ((len s1.2.1)>0)))then(ZaD n p0 s1.2.1).bind fun x5=>(ZaB n p0 x5.1).bind fun x6=>(iterN (fun(s2:Int×(List D.Path)×(List D.Path))=>if(decide (s2.1<(len x6)))then(get? x6 s2.1).bind fun x7=>(Zbg x7).bind fun x8=>if x8 then(app? s2.2.2 ([x7]:List D.Path)).bind fun x9=>some (.inl ((w64 (s2.1+1)),s2.2.1,x9))else(app? s2.2.1 ([x7]:List D.Path)).bind fun x10=>some (.inl ((w64 (s2.1+1)),x10,s2.2.2))else some (.inr (s2.2.1,s2.2.2))) n (0,s1.2.2,x5.2)).bind fun(rl2:(List D.Path)×(List D.Path))=>if((decide ((len rl2.2)>64))||(decide ((len rl2.1)>64)))then some (.inr (.inr (([]:List D.Path),false)))else some (.inl ((w64 (s1.1+1)),rl2.2,rl2.1))else some (.inr (.inl (s1.2.1,s1.2.2)))) n (0,([x4]:List D.Path),([]:List D.Path))).bind fun(rl1:((List D.Path)×(List D.Path))⊕((List D.Path)×Bool))=>
  match rl1 with
  | .inl s1r=>
   (app? s1r.2 s1r.1).bind fun x11=>
   if(decide ((len x11)>64))then
    some (([]:List D.Path),false)
   else
    (iterN (fun(s3:Int×(List D.Path))=>if (decide (s3.1<(len x11)))then(get? x11 s3.1).bind fun x12=>(iterN (fun(s4:Bool×Int×(List D.Path))=>if(decide (s4.2.1<(len s3.2)))then(get? s4.2.2 s4.2.1).bind fun x13=>(YK n p0 x13 x12).bind fun x14=>if(x14.2&&(!s4.1))then(set? s4.2.2 s4.2.1 x14.1).bind fun x15=>some (.inl (true,(w64 (s4.2.1+1)),x15))else some (.inl (s4.1,(w64 (s4.2.1+1)),s4.2.2))else some (.inr (s4.1,s4.2.2))) n (false,0,s3.2)).bind fun(rl4:Bool×(List D.Path))=>if(!rl4.1)then(app? rl4.2 ([x12]:List D.Path)).bind fun x16=>some (.inl ((w64 (s3.1+1)),x16))else some (.inl ((w64 (s3.1+1)),rl4.2))else some (.inr (s3.2))) n (0,([]:List D.Path))).bind fun(rl3:(List D.Path))=>
    if(decide ((len rl3)>p2))then
     some (([]:List D.Path),false)
    else
     (Zae n rl3).bind fun x17=>
     some (x17,true)
  |.inr v=>some v
def ZbV(p0:Int)(p1:Int):Option Bool:=
 some ((((decide (p0≥2))&&(decide (p0≤8)))&&(decide (p1≥1)))&&(decide (p1≤40)))
def ZM(p0:Int):Option Bool:=
 some ((decide (p0≥1))&&(decide (p0≤16)))
def Yi(p0:Int)(p1:Int):Option Bool:=
 (ZM p0).bind fun x1=>
 (if(x1&&(decide (p1≥0)))then(shl? 1 (IntKind.u64.wrap p0))else some default).bind fun x2=>
 some ((x1&&(decide (p1≥0)))&&(decide (p1<x2)))
def Xu(p0:Int):Option Bool:=
 some ((decide (p0≥0))&&(decide (p0<4)))
def Zaf(p0:Int):Option Bool:=
 some ((decide (p0≥3))&&(decide (p0≤16)))
def ZaU (p0:D.Ins)(p1:Int)(p2:Int):Option Bool:=
 if(p0.Op==3)then
  (Xu p0.A).bind fun x1=>
  (if x1 then(Xu p0.B)else some default).bind fun x2=>
  (if(x1&&x2)then(Zaf p0.C)else some default).bind fun x3=>
  some ((x1&&x2)&&x3)
 else
  if(p0.C !=0)then
   some false
  else
   if(p0.Op==1)then
    (Xu p0.A).bind fun x4=>
    (if x4 then(Yi p1 p0.B)else some default).bind fun x5=>
    some (x4&&x5)
   else
    (if(p0.Op==2)then some (.inl ((p0.Op==2)))else some (.inl (((p0.Op==7)||(p0.Op==8))))).bind fun(rl1:(Bool)⊕Bool)=>
    match rl1 with
    | .inl s1r=>
     if s1r then
      (Xu p0.A).bind fun x6=>
      (if x6 then(Xu p0.B)else some default).bind fun x7=>
      some (x6&&x7)
     else
      (if(p0.Op==4)then some (.inl ((p0.Op==4)))else if(p0.Op==5)then some (.inl ((p0.Op==5)))else some (.inl (((p0.Op==6)||(p0.Op==13))))).bind fun(rl2:(Bool)⊕Bool)=>
      match rl2 with
      | .inl s2r=>
       if s2r then
        (Xu p0.A).bind fun x8=>
        some (x8&&(p0.B==0))
       else
        if((p0.Op==9)||(p0.Op==11))then
         some ((p0.A==0)&&((decide (p0.B≥0))&&(decide (p0.B≤p2))))
        else
         if(p0.Op==10)then
          (Xu p0.A).bind fun x9=>
          some (x9&&((decide (p0.B≥0))&&(decide (p0.B≤p2))))
         else
          if((p0.Op==12)||(p0.Op==14))then
           some ((p0.A==0)&&(p0.B==0))
          else
           some false
      |.inr v=>some v
    |.inr v=>some v
def XL(n:Nat)(p0:D.Program):Option Bool:=
 (ZbV p0.W (len p0.Code)).bind fun x1=>
 (if(((!x1)||(decide (p0.Mem<1)))||(decide (p0.Mem>6)))then some default else(Yi p0.W p0.Mem)).bind fun x2=>
 if((((!x1)||(decide (p0.Mem<1)))||(decide (p0.Mem>6)))||(!x2))then
  some false
 else
  if((decide (p0.In<0))||(decide (p0.In>3)))then
   some false
  else
   (iterN (fun(s1:Int)=>if(decide (s1<(len p0.Code)))then(get? p0.Code s1).bind fun x3=>(ZaU x3 p0.W (len p0.Code)).bind fun x4=>if(!x4)then some (.inr (.inr false))else some (.inl ((w64 (s1+1))))else some (.inr (.inl ()))) n (0)).bind fun(rl1:(Unit)⊕Bool)=>
   match rl1 with
   |.inl s1r=>
    some true
   |.inr v=>some v
def Za0(p0:Int):Option Bool:=
 some ((decide (p0≥0))&&(decide (p0≤400)))
def Zc0(p0:Int):Option Bool:=
 some ((decide (p0≥1))&&(decide (p0≤64)))
def Z9(p0:Int)(p1:Int):Option D.Term:=
 (Yi p0 p1).bind fun x1=>
 if(!x1)then
  some (D.Term.mk 0 0 0 ⟨[]⟩ ([]:List D.Term))
 else
  some (D.Term.mk 0 p0 p1 ⟨[]⟩ ([]:List D.Term))
def Zap(n:Nat)(p0:D.Program):Option D.Path:=
 (mk? 4 ((D.Term.mk 0 0 0 ⟨[]⟩ ([]:List D.Term)):D.Term)).bind fun x1=>
 (mk? p0.Mem ((D.Term.mk 0 0 0 ⟨[]⟩ ([]:List D.Term)):D.Term)).bind fun x2=>
 (iterN (fun(s1:Int×(List D.Term))=>if(decide (s1.1<(len x1)))then(Z9 p0.W 0).bind fun x3=>(set? s1.2 s1.1 (D.Term.mk x3.Op x3.W x3.N x3.Name ([]:List D.Term))).bind fun x4=>some (.inl ((w64 (s1.1+1)),x4))else some (.inr (s1.2))) n (0,x1)).bind fun(rl1:(List D.Term))=>
 (iterN (fun(s2:Int×(List D.Term))=>if(decide (s2.1<(len x2)))then(Z9 p0.W 0).bind fun x5=>(set? s2.2 s2.1 (D.Term.mk x5.Op x5.W x5.N x5.Name ([]:List D.Term))).bind fun x6=>some (.inl ((w64 (s2.1+1)),x6))else some (.inr (s2.2))) n (0,x2)).bind fun(rl2:(List D.Term))=>
 some (D.Path.mk 0 rl1 rl2 ([]:List Int) 0 ([]:List D.Term) 0 0 ([]:List D.Term) ([]:List Int))
def ZaM(n:Nat)(p0:List D.Path):Option Int:=
 (iterN (fun(s1:Int×Int)=>if(decide (s1.2<(len p0)))then(get? p0 s1.2).bind fun x1=>(get? p0 s1.1).bind fun x2=>(if((w64 ((len x1.Stack)-(len x2.Stack)))==0)then(if(decide ((w64 ((len x1.Stack)-(len x2.Stack)))>0))then some default else(get? p0 s1.2))else some default).bind fun x3=>(if((w64 ((len x1.Stack)-(len x2.Stack)))==0)then(if(decide ((w64 ((len x1.Stack)-(len x2.Stack)))>0))then some default else(get? p0 s1.1))else some default).bind fun x4=>some (.inl ((cond ((decide ((w64 ((len x1.Stack)-(len x2.Stack)))>0))||(((w64 ((len x1.Stack)-(len x2.Stack)))==0)&&(decide (x3.Pc<x4.Pc)))) s1.2 s1.1),(w64 (s1.2+1))))else some (.inr (s1.1))) n (0,1)).bind fun(rl1:Int)=>
 some rl1
def Xa(n:Nat)(p0:List Int)(p1:List Int):Option Bool:=
 if((len p0)!=(len p1))then
  some false
 else
  (iterN (fun(s1:Int)=>if(decide (s1<(len p0)))then(get? p0 s1).bind fun x1=>(get? p1 s1).bind fun x2=>if(x1 !=x2)then some (.inr (.inr false))else some (.inl ((w64 (s1+1))))else some (.inr (.inl ()))) n (0)).bind fun(rl1:(Unit)⊕Bool)=>
  match rl1 with
  |.inl s1r=>
   some true
  |.inr v=>some v
def Zav(n:Nat)(p0:D.Path)(p1:D.Path):Option Bool:=
 (if(p0.Pc==p1.Pc)then(Xa n p0.Stack p1.Stack)else some default).bind fun x1=>
 some (((((p0.Pc==p1.Pc)&&x1)&&(p0.In==p1.In))&&(p0.Code==p1.Code))&&((len p0.Out)==(len p1.Out)))
def Zat(p0:Int):Option Bool:=
 some (p0 !=p0)
def Y5(p0:Int)(p1:Int):Option Int:=
 (Zat p0).bind fun x1=>
 (Zat p1).bind fun x2=>
 if x1 then
  if x2 then
   some 0
  else
   some (-1)
 else
  if x2 then
   some 1
  else
   if(decide (p0<p1))then
    some (-1)
   else
    if(decide (p0>p1))then
     some 1
    else
     some 0
def strings_Compare(p0:Str)(p1:Str):Option Int:=some (Lib.compareBytes p0.bytes p1.bytes)
def ZL (n:Nat)(p0:D.Term)(p1:D.Term):Option Int:=
 match n with
 |0=>none
 |n+1=>
 (Y5 p0.Op p1.Op).bind fun x1=>
 if(x1 !=0)then
  some x1
 else
  (Y5 p0.W p1.W).bind fun x2=>
  if(x2 !=0)then
   some x2
  else
   (Y5 p0.N p1.N).bind fun x3=>
   if(x3 !=0)then
    some x3
   else
    (strings_Compare p0.Name p1.Name).bind fun x4=>
    if(x4 !=0)then
     some x4
    else
     (iterN (fun(s1:Int)=>if((decide (s1<(len p0.Kids)))&&(decide (s1<(len p1.Kids))))then(get? p0.Kids s1).bind fun x5=>(get? p1.Kids s1).bind fun x6=>(ZL n x5 x6).bind fun x7=>if(x7 !=0)then some (.inr (.inr x7))else some (.inl ((w64 (s1+1))))else some (.inr (.inl ()))) n (0)).bind fun(rl1:(Unit)⊕Int)=>
     match rl1 with
     |.inl s1r=>
      (Y5 (len p0.Kids) (len p1.Kids)).bind fun x8=>
      some x8
     |.inr v=>some v
def ZO(n:Nat)(p0:D.Term)(p1:D.Term):Option Bool:=
 (ZL n p0 p1).bind fun x1=>
 some (x1==0)
def XJ(n:Nat)(p0:List D.Term)(p1:List D.Term):Option Int:=
 (iterN (fun(s1:Int)=>(if((decide (s1<(len p0)))&&(decide (s1<(len p1))))then(get? p0 s1)else some default).bind fun x1=>(if((decide (s1<(len p0)))&&(decide (s1<(len p1))))then(get? p1 s1)else some default).bind fun x2=>(if((decide (s1<(len p0)))&&(decide (s1<(len p1))))then(ZO n x1 x2)else some default).bind fun x3=>if(((decide (s1<(len p0)))&&(decide (s1<(len p1))))&&x3)then some (.inl ((w64 (s1+1))))else some (.inr (s1))) n (0)).bind fun(rl1:Int)=>
 some rl1
def YT(p0:Int):Option Int:=
 if((p0==0)||(p0==22))then
  some 0
 else
  if(((((p0==1)||(p0==2))||(p0==19))||(p0==20))||(p0==21))then
   some 1
  else
   if(((decide (p0≥3))&&(decide (p0≤16)))||(p0==18))then
    some 2
   else
    if(p0==17)then
     some 3
    else
     some (-1)
def Zaq (p0:D.Term):Option Bool:=
 if((p0.Op==0)||(p0.Op==22))then
  some true
 else
  if((p0.Op==1)||(p0.Op==2))then
   (get? p0.Kids 0).bind fun x1=>
   some (x1.W==p0.W)
  else
   if((decide (p0.Op≥3))&&(decide (p0.Op≤13)))then
    (get? p0.Kids 0).bind fun x2=>
    (if(x2.W==p0.W)then(get? p0.Kids 1)else some default).bind fun x3=>
    some ((x2.W==p0.W)&&(x3.W==p0.W))
   else
    if((decide (p0.Op≥14))&&(decide (p0.Op≤16)))then
     (get? p0.Kids 0).bind fun x4=>
     (get? p0.Kids 1).bind fun x5=>
     some ((x4.W==x5.W)&&(p0.W==1))
    else
     if(p0.Op==17)then
      (get? p0.Kids 0).bind fun x6=>
      (if(x6.W==1)then(get? p0.Kids 1)else some default).bind fun x7=>
      (if((x6.W==1)&&(x7.W==p0.W))then(get? p0.Kids 2)else some default).bind fun x8=>
      some (((x6.W==1)&&(x7.W==p0.W))&&(x8.W==p0.W))
     else
      if(p0.Op==18)then
       (get? p0.Kids 0).bind fun x9=>
       (get? p0.Kids 1).bind fun x10=>
       some ((w64 (x9.W+x10.W))==p0.W)
      else
       if(p0.Op==19)then
        (if(decide (p0.N≥0))then(get? p0.Kids 0)else some default).bind fun x11=>
        some ((decide (p0.N≥0))&&(decide (p0.N≤(w64 (x11.W-p0.W)))))
       else
        (get? p0.Kids 0).bind fun x12=>
        some (decide (x12.W≤p0.W))
def Zbc(n:Nat)(p0:Str):Option Bool:=
 if((decide ((len p0.bytes)<1))||(decide ((len p0.bytes)>8)))then
  some false
 else
  (iterN (fun(s1:Int)=>if(decide (s1<(len p0.bytes)))then(sidx? p0 s1).bind fun x1=>(if(decide (x1≥97))then(sidx? p0 s1)else some default).bind fun x2=>(sidx? p0 s1).bind fun x3=>(if(decide (x3≥48))then(sidx? p0 s1)else some default).bind fun x4=>if((!((decide (x1≥97))&&(decide (x2≤122))))&&(!(((decide (x3≥48))&&(decide (x4≤57)))&&(decide (s1>0)))))then some (.inr (.inr false))else some (.inl ((w64 (s1+1))))else some (.inr (.inl ()))) n (0)).bind fun(rl1:(Unit)⊕Bool)=>
  match rl1 with
  |.inl s1r=>
   some true
  |.inr v=>some v
def Y4(n:Nat)(p0:D.termCheck)(p1:D.Term):Option (Bool×D.termCheck):=
 (Zbc n p1.Name).bind fun x1=>
 if(!x1)then
  some (false,p0)
 else
  if(Option.isNone p0.widths)then
   (mget2? fitS (0:Int) ([]) p1.Name).bind fun x2=>
   if x2.2 then
    some ((x2.1==p1.W),(D.termCheck.mk p0.count (some ([]))))
   else
    (mputE? fitS fitZ ([]) p1.Name p1.W).bind fun x3=>
    some (true,(D.termCheck.mk p0.count (some x3)))
  else
   (mget2? fitS (0:Int) (Option.getD p0.widths []) p1.Name).bind fun x4=>
   if x4.2 then
    some ((x4.1==p1.W),(D.termCheck.mk p0.count (some (Option.getD p0.widths []))))
   else
    (mputE? fitS fitZ (Option.getD p0.widths []) p1.Name p1.W).bind fun x5=>
    some (true,(D.termCheck.mk p0.count (some x5)))
def ZH (n:Nat)(p0:D.termCheck)(p1:D.Term):Option (Bool×D.termCheck):=
 match n with
 |0=>none
 |n+1=>
 (if(decide ((w64 (p0.count+1))>240))then some default else(ZM p1.W)).bind fun x1=>
 (if((decide ((w64 (p0.count+1))>240))||(!x1))then some default else(YT p1.Op)).bind fun x2=>
 if(((decide ((w64 (p0.count+1))>240))||(!x1))||((len p1.Kids)!=x2))then
  some (false,(D.termCheck.mk (w64 (p0.count+1)) p0.widths))
 else
  (iterN (fun(s1:Int)=>if(decide (s1<(len p1.Kids)))then(get? p1.Kids s1).bind fun x3=>(ZM x3.W).bind fun x4=>if(!x4)then some (.inr (.inr (false,(D.termCheck.mk (w64 (p0.count+1)) p0.widths))))else some (.inl ((w64 (s1+1))))else some (.inr (.inl ()))) n (0)).bind fun(rl1:(Unit)⊕(Bool×D.termCheck))=>
  match rl1 with
  | .inl s1r=>
   (Zaq p1).bind fun x5=>
   if(!x5)then
    some (false,(D.termCheck.mk (w64 (p0.count+1)) p0.widths))
   else
    (if(p1.Op==0)then(Yi p1.W p1.N)else some default).bind fun x6=>
    if((p1.Op==0)&&(!x6))then
     some (false,(D.termCheck.mk (w64 (p0.count+1)) p0.widths))
    else
     if(((p1.Op !=0)&&(p1.Op !=19))&&(p1.N !=0))then
      some (false,(D.termCheck.mk (w64 (p0.count+1)) p0.widths))
     else
      if (p1.Op !=22)then
       if(!(Str.eqb p1.Name ⟨[]⟩))then
        some (false,(D.termCheck.mk (w64 (p0.count+1)) p0.widths))
       else
        (iterN (fun(s2:Int×Int×(Option (List (Str×Int))))=>if(decide (s2.1<(len p1.Kids)))then(get? p1.Kids s2.1).bind fun x7=>(ZH n (D.termCheck.mk s2.2.1 s2.2.2) x7).bind fun x8=>if(!x8.1)then some (.inr (.inr (false,x8.2)))else some (.inl ((w64 (s2.1+1)),x8.2.count,x8.2.widths))else some (.inr (.inl (s2.2.1,s2.2.2)))) n (0,(w64 (p0.count+1)),p0.widths)).bind fun(rl2:(Int×(Option (List (Str×Int))))⊕(Bool×D.termCheck))=>
        match rl2 with
        |.inl s2r=>
         some (true,(D.termCheck.mk s2r.1 s2r.2))
        |.inr v=>some v
      else
       (Y4 n (D.termCheck.mk (w64 (p0.count+1)) p0.widths) p1).bind fun x9=>
       if(!x9.1)then
        some (false,x9.2)
       else
        (iterN (fun(s3:Int×Int×(Option (List (Str×Int))))=>if(decide (s3.1<(len p1.Kids)))then(get? p1.Kids s3.1).bind fun x10=>(ZH n (D.termCheck.mk s3.2.1 s3.2.2) x10).bind fun x11=>if(!x11.1)then some (.inr (.inr (false,x11.2)))else some (.inl ((w64 (s3.1+1)),x11.2.count,x11.2.widths))else some (.inr (.inl (s3.2.1,s3.2.2)))) n (0,x9.2.count,x9.2.widths)).bind fun(rl3:(Int×(Option (List (Str×Int))))⊕(Bool×D.termCheck))=>
        match rl3 with
        |.inl s3r=>
         some (true,(D.termCheck.mk s3r.1 s3r.2))
        |.inr v=>some v
  |.inr v=>some v
def X3(n:Nat)(p0:D.Term):Option Bool:=
 (ZH n (D.termCheck.mk 0 none) p0).bind fun x1=>
 some x1.1
def Zc(p0:D.Term):Option Bool:=
 some (p0.Op==0)
def YJ(p0:Int)(p1:Int):Option Int:=
 (ZM p0).bind fun x1=>
 if(!x1)then
  some (-1)
 else
  (shl? 1 (IntKind.u64.wrap p0)).bind fun x2=>
  some (band p1 (w64 (x2-1)))
def Zad(p0:Int)(p1:Int)(p2:Int):Option Int:=
 (Yi p1 p2).bind fun x1=>
 if(!x1)then
  some (-1)
 else
  if(p0==1)then
   (shl? 1 (IntKind.u64.wrap p1)).bind fun x2=>
   some (w64 ((w64 (x2-1))-p2))
  else
   if(p0==2)then
    (YJ p1 (w64 (0-p2))).bind fun x3=>
    some x3
   else
    some (-1)
def Zbn(p0:Int)(p1:Int)(p2:Int)(p3:Int):Option Int:=
 (Yi p0 p1).bind fun x1=>
 if((((!x1)||(decide (p2<0)))||(decide (p3<1)))||(decide (p3>(w64 (p0-p2)))))then
  some (-1)
 else
  (shr? p1 (IntKind.u64.wrap p2)).bind fun x2=>
  (shl? 1 (IntKind.u64.wrap p3)).bind fun x3=>
  some (band x2 (w64 (x3-1)))
def YS(p0:Int)(p1:Int):Option Int:=
 (Yi p0 p1).bind fun x1=>
 if(!x1)then
  some 0
 else
  (shr? p1 (IntKind.u64.wrap (w64 (p0-1)))).bind fun x2=>
  if(x2==0)then
   some p1
  else
   (shl? 1 (IntKind.u64.wrap p0)).bind fun x3=>
   some (w64 (p1-x3))
def Za2(p0:Int)(p1:Int)(p2:Int)(p3:Bool):Option Int:=
 (Yi p0 p1).bind fun x1=>
 (if(!x1)then some default else(ZM p2)).bind fun x2=>
 if(((!x1)||(!x2))||(decide (p2<p0)))then
  some (-1)
 else
  if p3 then
   (YS p0 p1).bind fun x3=>
   (YJ p2 x3).bind fun x4=>
   some x4
  else
   some p1
def Za7(p0:Int)(p1:Int)(p2:Int)(p3:Int):Option Int:=
 (Yi p0 p1).bind fun x1=>
 (if(!x1)then some default else(Yi p2 p3)).bind fun x2=>
 if(((!x1)||(!x2))||(decide ((w64 (p0+p2))>16)))then
  some (-1)
 else
  (shl? p1 (IntKind.u64.wrap p2)).bind fun x3=>
  some (w64 (x3+p3))
def Zbm(p0:Int)(p1:Int)(p2:Int)(p3:Int):Option Int:=
 if(p0==13)then
  (YS p1 p2).bind fun x1=>
  (shr? x1 (IntKind.u64.wrap (imin p3 (w64 (p1-1))))).bind fun x2=>
  (YJ p1 x2).bind fun x3=>
  some x3
 else
  if(decide (p3≥p1))then
   some 0
  else
   if(p0==11)then
    (shl? p2 (IntKind.u64.wrap p3)).bind fun x4=>
    (YJ p1 x4).bind fun x5=>
    some x5
   else
    (shr? p2 (IntKind.u64.wrap p3)).bind fun x6=>
    some x6
def Zai(p0:Bool):Option Int:=
 if p0 then
  some 1
 else
  some 0
def Xm (p0:Int)(p1:Int)(p2:Int)(p3:Int):Option Int:=
 (Yi p1 p2).bind fun x1=>
 (if(!x1)then some default else(Yi p1 p3)).bind fun x2=>
 if((!x1)||(!x2))then
  some (-1)
 else
  if(p0==3)then
   (YJ p1 (w64 (p2+p3))).bind fun x3=>
   some x3
  else
   if(p0==4)then
    (YJ p1 (w64 (p2-p3))).bind fun x4=>
    some x4
   else
    if(p0==5)then
     (YJ p1 (w64 (p2*p3))).bind fun x5=>
     some x5
    else
     if(p0==6)then
      if(p3==0)then
       (shl? 1 (IntKind.u64.wrap p1)).bind fun x6=>
       some (w64 (x6-1))
      else
       (quo? p2 p3).bind fun x7=>
       some x7
     else
      if(p0==7)then
       if(p3==0)then
        some p2
       else
        (rem? p2 p3).bind fun x8=>
        some x8
      else
       if(p0==8)then
        some (band p2 p3)
       else
        if(p0==9)then
         some (bor p2 p3)
        else
         if(p0==10)then
          some (bxor p2 p3)
         else
          (if(p0==11)then some (.inl ((p0==11)))else some (.inl (((p0==12)||(p0==13))))).bind fun(rl1:(Bool)⊕Int)=>
          match rl1 with
          | .inl s1r=>
           if s1r then
            (Zbm p0 p1 p2 p3).bind fun x9=>
            some x9
           else
            if(p0==14)then
             (Zai (p2==p3)).bind fun x10=>
             some x10
            else
             if(p0==15)then
              (Zai (decide (p2<p3))).bind fun x11=>
              some x11
             else
              if(p0==16)then
               (YS p1 p2).bind fun x12=>
               (YS p1 p3).bind fun x13=>
               (Zai (decide (x12<x13))).bind fun x14=>
               some x14
              else
               some (-1)
          |.inr v=>some v
def Z0 (n:Nat)(p0:D.Term)(p1:Option (List (Str×Int))):Option Int:=
 match n with
 |0=>none
 |n+1=>
 if(p0.Op==0)then
  some p0.N
 else
  if(p0.Op==22)then
   (mgeto? fitS (0:Int) p1 p0.Name).bind fun x1=>
   some x1
  else
   if(p0.Op==17)then
    (get? p0.Kids 0).bind fun x2=>
    (Z0 n x2 p1).bind fun x3=>
    if(x3==1)then
     (get? p0.Kids 1).bind fun x4=>
     (Z0 n x4 p1).bind fun x5=>
     some x5
    else
     (get? p0.Kids 2).bind fun x6=>
     (Z0 n x6 p1).bind fun x7=>
     some x7
   else
    (get? p0.Kids 0).bind fun x8=>
    (Z0 n x8 p1).bind fun x9=>
    (get? p0.Kids 0).bind fun x10=>
    if((p0.Op==1)||(p0.Op==2))then
     (Zad p0.Op x10.W x9).bind fun x11=>
     some x11
    else
     if(p0.Op==19)then
      (Zbn x10.W x9 p0.N p0.W).bind fun x12=>
      some x12
     else
      if((p0.Op==20)||(p0.Op==21))then
       (Za2 x10.W x9 p0.W (p0.Op==21)).bind fun x13=>
       some x13
      else
       (get? p0.Kids 1).bind fun x14=>
       (Z0 n x14 p1).bind fun x15=>
       if(p0.Op==18)then
        (get? p0.Kids 1).bind fun x16=>
        (Za7 x10.W x9 x16.W x15).bind fun x17=>
        some x17
       else
        (Xm p0.Op x10.W x9 x15).bind fun x18=>
        some x18
def YQ(p0:D.Term):Option D.Term:=
 (get? p0.Kids 0).bind fun x1=>
 if(x1.Op==p0.Op)then
  (get? x1.Kids 0).bind fun x2=>
  some x2
 else
  some p0
def Zp(p0:D.Term)(p1:Int):Option Bool:=
 some ((p0.Op==0)&&(p0.N==p1))
def Ze(p0:Int):Option Bool:=
 if(p0==3)then
  if(p0==3)then
   some true
  else
   some false
 else
  if(p0==5)then
   if(p0==5)then
    some true
   else
    some false
  else
   if(p0==8)then
    if(p0==8)then
     some true
    else
     some false
   else
    if(p0==9)then
     if(p0==9)then
      some true
     else
      some false
    else
     if((p0==10)||(p0==14))then
      some true
     else
      some false
def ZbI(p0:Int):Option Int:=
 (shl? 1 (IntKind.u64.wrap p0)).bind fun x1=>
 some (w64 (x1-1))
mutual
def Zo(n:Nat)(p0:Int)(p1:Int)(p2:Int)(p3:List D.Term):Option D.Term:=
 match n with
 |0=>none
 |n+1=>
 (ZE n (D.Term.mk p0 p1 p2 ⟨[]⟩ p3)).bind fun x1=>
 some x1
def ZE (n:Nat)(p0:D.Term):Option D.Term:=
 match n with
 |0=>none
 |n+1=>
 if((len p0.Kids)==0)then
  some p0
 else
  (iterN (fun(s1:Bool×Int)=>if(decide (s1.2<(len p0.Kids)))then(if s1.1 then(get? p0.Kids s1.2)else some default).bind fun x1=>(if s1.1 then(Zc x1)else some default).bind fun x2=>some (.inl ((s1.1&&x2),(w64 (s1.2+1))))else some (.inr (s1.1))) n (true,0)).bind fun(rl1:Bool)=>
  if rl1 then
   (Z0 n p0 none).bind fun x3=>
   (Z9 p0.W x3).bind fun x4=>
   some (D.Term.mk x4.Op x4.W x4.N x4.Name ([]:List D.Term))
  else
   if((p0.Op==1)||(p0.Op==2))then
    (YQ p0).bind fun x5=>
    some x5
   else
    if(p0.Op==17)then
     (ZW n p0).bind fun x6=>
     some x6
    else
     if(p0.Op==19)then
      (ZR n p0).bind fun x7=>
      some x7
     else
      if((p0.Op==20)||(p0.Op==21))then
       (Yg n p0).bind fun x8=>
       some x8
      else
       if(p0.Op==18)then
        (Yd n p0).bind fun x9=>
        some x9
       else
        (Za n p0).bind fun x10=>
        some x10
def ZW (n:Nat)(p0:D.Term):Option D.Term:=
 match n with
 |0=>none
 |n+1=>
 (get? p0.Kids 0).bind fun x1=>
 (get? p0.Kids 1).bind fun x2=>
 (get? p0.Kids 2).bind fun x3=>
 (Zp x1 1).bind fun x4=>
 if x4 then
  some x2
 else
  (Zc x1).bind fun x5=>
  if x5 then
   some x3
  else
   (ZO n x2 x3).bind fun x6=>
   if x6 then
    some x2
   else
    if(x1.Op==1)then
     (get? x1.Kids 0).bind fun x7=>
     (Zo n 17 p0.W 0 ([x7,x3,x2]:List D.Term)).bind fun x8=>
     some x8
    else
     (if(p0.W==1)then(Zp x2 1)else some default).bind fun x9=>
     (if((p0.W==1)&&x9)then(Zp x3 0)else some default).bind fun x10=>
     if(((p0.W==1)&&x9)&&x10)then
      some x1
     else
      (if(p0.W==1)then(Zp x2 0)else some default).bind fun x11=>
      (if((p0.W==1)&&x11)then(Zp x3 1)else some default).bind fun x12=>
      if(((p0.W==1)&&x11)&&x12)then
       (Zo n 1 1 0 ([x1]:List D.Term)).bind fun x13=>
       some x13
      else
       some p0
def ZR(n:Nat)(p0:D.Term):Option D.Term:=
 match n with
 |0=>none
 |n+1=>
 (get? p0.Kids 0).bind fun x1=>
 if((p0.N==0)&&(p0.W==x1.W))then
  some x1
 else
  if(x1.Op==19)then
   (get? x1.Kids 0).bind fun x2=>
   (Zo n 19 p0.W (w64 (p0.N+x1.N)) ([x2]:List D.Term)).bind fun x3=>
   some x3
  else
   if (x1.Op==18)then
    (get? x1.Kids 1).bind fun x4=>
    if(decide ((w64 (p0.N+p0.W))≤x4.W))then
     (Zo n 19 p0.W p0.N ([x4]:List D.Term)).bind fun x5=>
     some x5
    else
     if(decide (p0.N≥x4.W))then
      (get? x1.Kids 0).bind fun x6=>
      (Zo n 19 p0.W (w64 (p0.N-x4.W)) ([x6]:List D.Term)).bind fun x7=>
      some x7
     else
      some p0
   else
    if((x1.Op==20)||(x1.Op==21))then
     (get? x1.Kids 0).bind fun x8=>
     if(decide ((w64 (p0.N+p0.W))≤x8.W))then
      (get? x1.Kids 0).bind fun x9=>
      (Zo n 19 p0.W p0.N ([x9]:List D.Term)).bind fun x10=>
      some x10
     else
      some p0
    else
     some p0
def Yg(n:Nat)(p0:D.Term):Option D.Term:=
 match n with
 |0=>none
 |n+1=>
 (get? p0.Kids 0).bind fun x1=>
 if(p0.W==x1.W)then
  some x1
 else
  if(x1.Op==p0.Op)then
   (get? x1.Kids 0).bind fun x2=>
   (Zo n p0.Op p0.W 0 ([x2]:List D.Term)).bind fun x3=>
   some x3
  else
   some p0
def Yd(n:Nat)(p0:D.Term):Option D.Term:=
 match n with
 |0=>none
 |n+1=>
 (get? p0.Kids 0).bind fun x1=>
 (get? p0.Kids 1).bind fun x2=>
 (if(((x1.Op==19)&&(x2.Op==19))&&(x1.N==(w64 (x2.N+x2.W))))then(get? x1.Kids 0)else some default).bind fun x3=>
 (if(((x1.Op==19)&&(x2.Op==19))&&(x1.N==(w64 (x2.N+x2.W))))then(get? x2.Kids 0)else some default).bind fun x4=>
 (if(((x1.Op==19)&&(x2.Op==19))&&(x1.N==(w64 (x2.N+x2.W))))then(ZO n x3 x4)else some default).bind fun x5=>
 if((((x1.Op==19)&&(x2.Op==19))&&(x1.N==(w64 (x2.N+x2.W))))&&x5)then
  (get? x2.Kids 0).bind fun x6=>
  (Zo n 19 p0.W x2.N ([x6]:List D.Term)).bind fun x7=>
  some x7
 else
  some p0
def Za (n:Nat)(p0:D.Term):Option D.Term:=
 match n with
 |0=>none
 |n+1=>
 (get? p0.Kids 0).bind fun x1=>
 (get? p0.Kids 1).bind fun x2=>
 (Ze p0.Op).bind fun x3=>
 (if x3 then(ZL n x1 x2)else some default).bind fun x4=>
 if(x3&&(x4==1))then
  (Zo n p0.Op p0.W 0 ([x2,x1]:List D.Term)).bind fun x5=>
  some x5
 else
  (Zc x1).bind fun x6=>
  (if x6 then(Zu n p0.Op p0.W x1 x2).bind fun x7=>if x7.2 then some (.inr x7.1)else some (.inl ())else some (.inl ())).bind fun(rl1:(Unit)⊕D.Term)=>
  match rl1 with
  | .inl s1r=>
   (Zp x2 0).bind fun x8=>
   (if x8 then(if(p0.Op==4)then some (.inl ((p0.Op==4)))else if(p0.Op==11)then some (.inl ((p0.Op==11)))else some (.inl (((p0.Op==12)||(p0.Op==13))))).bind fun(rl3:(Bool)⊕D.Term)=>match rl3 with| .inl s3r=>if s3r then some (.inr x1)else if(p0.Op==15)then(Z9 1 0).bind fun x9=>some (.inr (D.Term.mk x9.Op x9.W x9.N x9.Name ([]:List D.Term)))else some (.inl ())|.inr v=>some (.inr v)else some (.inl ())).bind fun(rl2:(Unit)⊕D.Term)=>
   match rl2 with
   | .inl s2r=>
    (ZO n x1 x2).bind fun x10=>
    (if x10 then if((p0.Op==8)||(p0.Op==9))then some (.inr x1)else(if(p0.Op==4)then some (.inl ((p0.Op==4)))else if(p0.Op==10)then some (.inl ((p0.Op==10)))else some (.inl (((p0.Op==15)||(p0.Op==16))))).bind fun(rl5:(Bool)⊕D.Term)=>match rl5 with| .inl s5r=>if s5r then(Z9 p0.W 0).bind fun x11=>some (.inr (D.Term.mk x11.Op x11.W x11.N x11.Name ([]:List D.Term)))else if(p0.Op==14)then(Z9 1 1).bind fun x12=>some (.inr (D.Term.mk x12.Op x12.W x12.N x12.Name ([]:List D.Term)))else some (.inl ())|.inr v=>some (.inr v)else some (.inl ())).bind fun(rl4:(Unit)⊕D.Term)=>
    match rl4 with
    | .inl s4r=>
     (Ze p0.Op).bind fun x13=>
     (if(x13&&(p0.Op !=14))then(Zc x1)else some default).bind fun x14=>
     (if(((x13&&(p0.Op !=14))&&x14)&&(x2.Op==p0.Op))then(get? x2.Kids 0)else some default).bind fun x15=>
     (if(((x13&&(p0.Op !=14))&&x14)&&(x2.Op==p0.Op))then(Zc x15)else some default).bind fun x16=>
     if((((x13&&(p0.Op !=14))&&x14)&&(x2.Op==p0.Op))&&x16)then
      (get? x2.Kids 0).bind fun x17=>
      (Xm p0.Op p0.W x1.N x17.N).bind fun x18=>
      (Z9 p0.W x18).bind fun x19=>
      (get? x2.Kids 1).bind fun x20=>
      (Zo n p0.Op p0.W 0 ([(D.Term.mk x19.Op x19.W x19.N x19.Name ([]:List D.Term)),x20]:List D.Term)).bind fun x21=>
      some x21
     else
      some p0
    |.inr v=>some v
   |.inr v=>some v
  |.inr v=>some v
def Zu (n:Nat)(p0:Int)(p1:Int)(p2:D.Term)(p3:D.Term):Option (D.Term×Bool):=
 match n with
 |0=>none
 |n+1=>
 (ZbI p2.W).bind fun x1=>
 (if((p0==3)&&(p2.N==0))then some (.inl (((p0==3)&&(p2.N==0))))else if((p0==5)&&(p2.N==1))then some (.inl (((p0==5)&&(p2.N==1))))else if((p0==8)&&(p2.N==x1))then some (.inl (((p0==8)&&(p2.N==x1))))else if((p0==9)&&(p2.N==0))then some (.inl (((p0==9)&&(p2.N==0))))else if((p0==10)&&(p2.N==0))then some (.inl (((p0==10)&&(p2.N==0))))else some (.inl ((((p0==14)&&(p2.W==1))&&(p2.N==1))))).bind fun(rl1:(Bool)⊕(D.Term×Bool))=>
 match rl1 with
 | .inl s1r=>
  if s1r then
   some (p3,true)
  else
   (if((p0==5)&&(p2.N==0))then some (.inl (((p0==5)&&(p2.N==0))))else some (.inl (((p0==8)&&(p2.N==0))))).bind fun(rl2:(Bool)⊕(D.Term×Bool))=>
   match rl2 with
   | .inl s2r=>
    if s2r then
     (Z9 p1 0).bind fun x2=>
     some ((D.Term.mk x2.Op x2.W x2.N x2.Name ([]:List D.Term)),true)
    else
     if((p0==9)&&(p2.N==x1))then
      (Z9 p1 x1).bind fun x3=>
      some ((D.Term.mk x3.Op x3.W x3.N x3.Name ([]:List D.Term)),true)
     else
      if((p0==10)&&(p2.N==x1))then
       if((p0==10)&&(p2.N==x1))then
        (Zo n 1 p1 0 ([p3]:List D.Term)).bind fun x4=>
        some (x4,true)
       else
        some ((D.Term.mk 0 0 0 ⟨[]⟩ ([]:List D.Term)),false)
      else
       if(((p0==14)&&(p2.W==1))&&(p2.N==0))then
        (Zo n 1 p1 0 ([p3]:List D.Term)).bind fun x5=>
        some (x5,true)
       else
        some ((D.Term.mk 0 0 0 ⟨[]⟩ ([]:List D.Term)),false)
   |.inr v=>some v
 |.inr v=>some v
end
def ZA(n:Nat)(p0:Int)(p1:Int)(p2:Int)(p3:List D.Term):Option (D.Term×Bool):=
 (X3 n (D.Term.mk p0 p1 p2 ⟨[]⟩ p3)).bind fun x1=>
 if(!x1)then
  some ((D.Term.mk 0 0 0 ⟨[]⟩ ([]:List D.Term)),false)
 else
  (ZE n (D.Term.mk p0 p1 p2 ⟨[]⟩ p3)).bind fun x2=>
  some (x2,true)
def Zbv(n:Nat)(p0:List D.Term):Option (D.Term×Bool):=
 (Z9 1 1).bind fun x1=>
 (iterN (fun(s1:Int)=>if(decide (s1<(len p0)))then(get? p0 s1).bind fun x2=>(X3 n x2).bind fun x3=>(if(!x3)then some default else(get? p0 s1)).bind fun x4=>if((!x3)||(x4.W !=1))then some (.inr (.inr ((D.Term.mk 0 0 0 ⟨[]⟩ ([]:List D.Term)),false)))else some (.inl ((w64 (s1+1))))else some (.inr (.inl ()))) n (0)).bind fun(rl1:(Unit)⊕(D.Term×Bool))=>
 match rl1 with
 | .inl s1r=>
  (iterN (fun(s2:Int×Int×Int×Int×Str×(List D.Term))=>if(decide (s2.1<(len p0)))then(get? p0 s2.1).bind fun x5=>(ZA n 8 1 0 ([(D.Term.mk s2.2.1 s2.2.2.1 s2.2.2.2.1 s2.2.2.2.2.1 s2.2.2.2.2.2),x5]:List D.Term)).bind fun x6=>if(!x6.2)then some (.inr (.inr ((D.Term.mk 0 0 0 ⟨[]⟩ ([]:List D.Term)),false)))else some (.inl ((w64 (s2.1+1)),x6.1.Op,x6.1.W,x6.1.N,x6.1.Name,x6.1.Kids))else some (.inr (.inl (s2.2.1,s2.2.2.1,s2.2.2.2.1,s2.2.2.2.2.1,s2.2.2.2.2.2)))) n (0,x1.Op,x1.W,x1.N,x1.Name,([]:List D.Term))).bind fun(rl2:(Int×Int×Int×Str×(List D.Term))⊕(D.Term×Bool))=>
  match rl2 with
  |.inl s2r=>
   some ((D.Term.mk s2r.1 s2r.2.1 s2r.2.2.1 s2r.2.2.2.1 s2r.2.2.2.2),true)
  |.inr v=>some v
 |.inr v=>some v
def Zy(p0:List D.Term):Option (List D.Term):=
 (app? ([]:List D.Term) p0).bind fun x1=>
 some x1
def ZU(p0:List D.Term):Option (List D.Term):=
 some p0
def XF(p0:List D.Term)(p1:D.Term):Option (List D.Term):=
 (Zy p0).bind fun x1=>
 (ZU x1).bind fun x2=>
 (app? x2 ([p1]:List D.Term)).bind fun x3=>
 some x3
def Xe(n:Nat)(p0:D.Term)(p1:List D.Term)(p2:List D.Term):Option ((List D.Term)×Bool):=
 (mk? (len p1) ((D.Term.mk 0 0 0 ⟨[]⟩ ([]:List D.Term)):D.Term)).bind fun x1=>
 (iterN (fun(s1:Int×(List D.Term))=>if (decide (s1.1<(len p1)))then(get? p1 s1.1).bind fun x2=>(get? p2 s1.1).bind fun x3=>(ZO n x2 x3).bind fun x4=>if x4 then(get? p1 s1.1).bind fun x5=>(set? s1.2 s1.1 x5).bind fun x6=>some (.inl ((w64 (s1.1+1)),x6))else(get? p1 s1.1).bind fun x7=>(get? p1 s1.1).bind fun x8=>(get? p2 s1.1).bind fun x9=>(ZA n 17 x7.W 0 ([p0,x8,x9]:List D.Term)).bind fun x10=>if(!x10.2)then some (.inr (.inr (([]:List D.Term),false)))else(set? s1.2 s1.1 x10.1).bind fun x11=>some (.inl ((w64 (s1.1+1)),x11))else some (.inr (.inl (s1.2)))) n (0,x1)).bind fun(rl1:((List D.Term))⊕((List D.Term)×Bool))=>
 match rl1 with
 |.inl s1r=>
  some (s1r,true)
 |.inr v=>some v
def Z5(p0:List Int):Option (List Int):=
 (app? ([]:List Int) p0).bind fun x1=>
 some x1
def XY(p0:D.Program)(p1:Int):Option Bool:=
 some ((decide (p1≥0))&&(decide (p1≤(len p0.Code))))
def Zbf(n:Nat)(p0:List Int):Option Bool:=
 (iterN (fun(s1:Int)=>if(decide (s1<(len p0)))then(get? p0 s1).bind fun x1=>if((x1 !=0)&&(x1 !=1))then some (.inr (.inr false))else some (.inl ((w64 (s1+1))))else some (.inr (.inl ()))) n (0)).bind fun(rl1:(Unit)⊕Bool)=>
 match rl1 with
 |.inl s1r=>
  some true
 |.inr v=>some v
def X4(n:Nat)(p0:Int)(p1:List D.Term):Option Bool:=
 (iterN (fun(s1:Int)=>if(decide (s1<(len p1)))then(get? p1 s1).bind fun x1=>(if(x1.W !=p0)then some default else(get? p1 s1)).bind fun x2=>(if(x1.W !=p0)then some default else(X3 n x2)).bind fun x3=>if((x1.W !=p0)||(!x3))then some (.inr (.inr false))else some (.inl ((w64 (s1+1))))else some (.inr (.inl ()))) n (0)).bind fun(rl1:(Unit)⊕Bool)=>
 match rl1 with
 |.inl s1r=>
  some true
 |.inr v=>some v
def ZbE(n:Nat)(p0:D.Program)(p1:D.Path):Option Bool:=
 (XL n p0).bind fun x1=>
 (if(!x1)then some default else(XY p0 p1.Pc)).bind fun x2=>
 if((((!x1)||(!x2))||((len p1.Regs)!=4))||((len p1.Mem)!=p0.Mem))then
  some false
 else
  if((((decide ((len p1.Stack)>3))||(decide (p1.In<0)))||(decide (p1.In>p0.In)))||(decide ((len p1.Out)>6)))then
   some false
  else
   (iterN (fun(s1:Int)=>if(decide (s1<(len p1.Stack)))then(get? p1.Stack s1).bind fun x3=>(XY p0 x3).bind fun x4=>if(!x4)then some (.inr (.inr false))else some (.inl ((w64 (s1+1))))else some (.inr (.inl ()))) n (0)).bind fun(rl1:(Unit)⊕Bool)=>
   match rl1 with
   | .inl s1r=>
    (if((decide (p1.Code<0))||(decide (p1.Code>9)))then some default else(Za0 p1.Steps)).bind fun x5=>
    if(((decide (p1.Code<0))||(decide (p1.Code>9)))||(!x5))then
     some false
    else
     (if((decide ((len p1.Cond)>60))||(decide ((len p1.Turns)>60)))then some default else(Zbf n p1.Turns)).bind fun x6=>
     if(((decide ((len p1.Cond)>60))||(decide ((len p1.Turns)>60)))||(!x6))then
      some false
     else
      (X4 n p0.W p1.Regs).bind fun x7=>
      (if x7 then(X4 n p0.W p1.Mem)else some default).bind fun x8=>
      (if(x7&&x8)then(X4 n p0.W p1.Out)else some default).bind fun x9=>
      (if((x7&&x8)&&x9)then(X4 n 1 p1.Cond)else some default).bind fun x10=>
      some (((x7&&x8)&&x9)&&x10)
   |.inr v=>some v
def YL (n:Nat)(p0:D.Program)(p1:D.Path)(p2:D.Path):Option (D.Path×Bool):=
 (Zav n p1 p2).bind fun x1=>
 if(!x1)then
  some ((D.Path.mk 0 ([]:List D.Term) ([]:List D.Term) ([]:List Int) 0 ([]:List D.Term) 0 0 ([]:List D.Term) ([]:List Int)),false)
 else
  (XJ n p1.Cond p2.Cond).bind fun x2=>
  (cut? p1.Cond x2 (len p1.Cond)).bind fun x3=>
  (Zbv n x3).bind fun x4=>
  (cut? p2.Cond x2 (len p2.Cond)).bind fun x5=>
  (Zbv n x5).bind fun x6=>
  if((!x4.2)||(!x6.2))then
   some ((D.Path.mk 0 ([]:List D.Term) ([]:List D.Term) ([]:List Int) 0 ([]:List D.Term) 0 0 ([]:List D.Term) ([]:List Int)),false)
  else
   (ZA n 9 1 0 ([x4.1,x6.1]:List D.Term)).bind fun x7=>
   if(!x7.2)then
    some ((D.Path.mk 0 ([]:List D.Term) ([]:List D.Term) ([]:List Int) 0 ([]:List D.Term) 0 0 ([]:List D.Term) ([]:List Int)),false)
   else
    (cut? p1.Cond 0 x2).bind fun x8=>
    (Zy x8).bind fun x9=>
    (Zp x7.1 1).bind fun x10=>
    (if(!x10)then(XF x9 x7.1).bind fun x11=>some (.inl (x11))else some (.inl (x9))).bind fun(rl1:((List D.Term))⊕(D.Path×Bool))=>
    match rl1 with
    | .inl s1r=>
     (Xe n x4.1 p1.Regs p2.Regs).bind fun x12=>
     (Xe n x4.1 p1.Mem p2.Mem).bind fun x13=>
     (Xe n x4.1 p1.Out p2.Out).bind fun x14=>
     if(((!x12.2)||(!x13.2))||(!x14.2))then
      some ((D.Path.mk 0 ([]:List D.Term) ([]:List D.Term) ([]:List Int) 0 ([]:List D.Term) 0 0 ([]:List D.Term) ([]:List Int)),false)
     else
      (iterN (fun(s2:Int)=>(if((decide (s2<(len p1.Turns)))&&(decide (s2<(len p2.Turns))))then(get? p1.Turns s2)else some default).bind fun x15=>(if((decide (s2<(len p1.Turns)))&&(decide (s2<(len p2.Turns))))then(get? p2.Turns s2)else some default).bind fun x16=>if(((decide (s2<(len p1.Turns)))&&(decide (s2<(len p2.Turns))))&&(x15==x16))then some (.inl ((w64 (s2+1))))else some (.inr (s2))) n (0)).bind fun(rl2:Int)=>
      (cut? p1.Turns 0 rl2).bind fun x17=>
      (Z5 x17).bind fun x18=>
      (ZbE n p0 (D.Path.mk p1.Pc x12.1 x13.1 p1.Stack p1.In x14.1 p1.Code (imax p1.Steps p2.Steps) s1r x18)).bind fun x19=>
      some ((D.Path.mk p1.Pc x12.1 x13.1 p1.Stack p1.In x14.1 p1.Code (imax p1.Steps p2.Steps) s1r x18),x19)
    |.inr v=>some v
def Zcg(p0:D.Program)(p1:D.Path)(p2:D.Ins):Option Int:=
 if((p2.Op==5)&&(decide (p1.In≥p0.In)))then
  some 3
 else
  if((p2.Op==6)&&(decide ((len p1.Out)≥6)))then
   some 4
  else
   if((p2.Op==11)&&(decide ((len p1.Stack)≥3)))then
    some 7
   else
    if((p2.Op==12)&&((len p1.Stack)==0))then
     some 7
    else
     some 0
def ZaK(n:Nat)(p0:D.Program)(p1:D.Path)(p2:D.Ins):Option (D.Term×Bool×Bool):=
 (Z9 p0.W 0).bind fun x1=>
 (if((p2.Op==10)||(p2.Op==13))then(get? p1.Regs p2.A).bind fun x2=>(ZA n 14 1 0 ([(D.Term.mk x1.Op x1.W x1.N x1.Name ([]:List D.Term)),x2]:List D.Term)).bind fun x3=>some (.inr (x3.1,true,x3.2))else if(p2.Op==3)then if((p2.C !=6)&&(p2.C !=7))then some (.inr ((D.Term.mk 0 0 0 ⟨[]⟩ ([]:List D.Term)),false,true))else(get? p1.Regs p2.B).bind fun x4=>(ZA n 14 1 0 ([(D.Term.mk x1.Op x1.W x1.N x1.Name ([]:List D.Term)),x4]:List D.Term)).bind fun x5=>some (.inr (x5.1,true,x5.2))else if(p2.Op==7)then some (.inl (p2.B))else if(p2.Op==8)then some (.inl (p2.A))else some (.inr ((D.Term.mk 0 0 0 ⟨[]⟩ ([]:List D.Term)),false,true))).bind fun(rl1:(Int)⊕(D.Term×Bool×Bool))=>
 match rl1 with
 | .inl s1r=>
  (get? p1.Regs s1r).bind fun x6=>
  (Z9 p0.W p0.Mem).bind fun x7=>
  (ZA n 15 1 0 ([x6,(D.Term.mk x7.Op x7.W x7.N x7.Name ([]:List D.Term))]:List D.Term)).bind fun x8=>
  if(!x8.2)then
   some ((D.Term.mk 0 0 0 ⟨[]⟩ ([]:List D.Term)),true,false)
  else
   (ZA n 1 1 0 ([x8.1]:List D.Term)).bind fun x9=>
   some (x9.1,true,x9.2)
 |.inr v=>some v
def Zbz(p0:D.Path)(p1:D.Ins):Option D.Path:=
 if(p1.Op==10)then
  some (D.Path.mk p1.B p0.Regs p0.Mem p0.Stack p0.In p0.Out p0.Code p0.Steps p0.Cond p0.Turns)
 else
  if(p1.Op==13)then
   some (D.Path.mk p0.Pc p0.Regs p0.Mem p0.Stack p0.In p0.Out 8 p0.Steps p0.Cond p0.Turns)
  else
   if(p1.Op==3)then
    some (D.Path.mk p0.Pc p0.Regs p0.Mem p0.Stack p0.In p0.Out 6 p0.Steps p0.Cond p0.Turns)
   else
    some (D.Path.mk p0.Pc p0.Regs p0.Mem p0.Stack p0.In p0.Out 5 p0.Steps p0.Cond p0.Turns)
def Zac(p0:List D.Term)(p1:Int)(p2:D.Term):Option (List D.Term):=
 (Zy p0).bind fun x1=>
 (set? x1 p1 p2).bind fun x2=>
 some x2
def XE(p0:Int)(p1:Int):Option Int:=
 (ZM p1).bind fun x1=>
 if(((!x1)||(decide (p0<1)))||(decide (p0>16)))then
  some 0
 else
  if(decide (p0≥14))then
   some 1
  else
   some p1
def ZaN(n:Nat)(p0:D.Program)(p1:Int)(p2:D.Term)(p3:D.Term):Option (D.Term×Bool):=
 (XE p1 p0.W).bind fun x1=>
 (ZA n p1 x1 0 ([p2,p3]:List D.Term)).bind fun x2=>
 if((!x2.2)||(decide (p1<14)))then
  some (x2.1,x2.2)
 else
  (ZA n 20 p0.W 0 ([x2.1]:List D.Term)).bind fun x3=>
  some (x3.1,x3.2)
def strconv_Itoa(p0:Int):Option Str:=
 if-9223372036854775808≤p0∧p0≤9223372036854775807 then some ⟨Lib.itoa p0⟩else none
def YU(p0:Int):Option Str:=
 (strconv_Itoa p0).bind fun x1=>
 some x1
def XR(n:Nat)(p0:Int)(p1:Str):Option D.Term:=
 (ZM p0).bind fun x1=>
 (if(!x1)then some default else(Zbc n p1)).bind fun x2=>
 if((!x1)||(!x2))then
  some (D.Term.mk 0 0 0 ⟨[]⟩ ([]:List D.Term))
 else
  some (D.Term.mk 22 p0 0 p1 ([]:List D.Term))
def XN(n:Nat)(p0:D.Program)(p1:Int)(p2:D.Term)(p3:D.Term)(p4:D.Term):Option (D.Term×Bool):=
 (Z9 p0.W p1).bind fun x1=>
 (ZA n 14 1 0 ([(D.Term.mk x1.Op x1.W x1.N x1.Name ([]:List D.Term)),p2]:List D.Term)).bind fun x2=>
 if(!x2.2)then
  some ((D.Term.mk 0 0 0 ⟨[]⟩ ([]:List D.Term)),false)
 else
  (ZA n 17 p0.W 0 ([x2.1,p3,p4]:List D.Term)).bind fun x3=>
  some (x3.1,x3.2)
def Zb8(n:Nat)(p0:D.Program)(p1:D.Path)(p2:D.Term):Option (D.Term×Bool):=
 (Zc p2).bind fun x1=>
 if x1 then
  (get? p1.Mem p2.N).bind fun x2=>
  some (x2,true)
 else
  (get? p1.Mem (w64 (p0.Mem-1))).bind fun x3=>
  (iterN (fun(s1:Int×Int×Int×Int×Str×(List D.Term))=>if(decide (s1.1≥0))then(get? p1.Mem s1.1).bind fun x4=>(XN n p0 s1.1 p2 x4 (D.Term.mk s1.2.1 s1.2.2.1 s1.2.2.2.1 s1.2.2.2.2.1 s1.2.2.2.2.2)).bind fun x5=>if(!x5.2)then some (.inr (.inr ((D.Term.mk 0 0 0 ⟨[]⟩ ([]:List D.Term)),false)))else some (.inl ((w64 (s1.1-1)),x5.1.Op,x5.1.W,x5.1.N,x5.1.Name,x5.1.Kids))else some (.inr (.inl (s1.2.1,s1.2.2.1,s1.2.2.2.1,s1.2.2.2.2.1,s1.2.2.2.2.2)))) n ((w64 (p0.Mem-2)),x3.Op,x3.W,x3.N,x3.Name,x3.Kids)).bind fun(rl1:(Int×Int×Int×Str×(List D.Term))⊕(D.Term×Bool))=>
  match rl1 with
  |.inl s1r=>
   some ((D.Term.mk s1r.1 s1r.2.1 s1r.2.2.1 s1r.2.2.2.1 s1r.2.2.2.2),true)
  |.inr v=>some v
def ZbH(n:Nat)(p0:D.Program)(p1:D.Path)(p2:D.Term)(p3:D.Term):Option ((List D.Term)×Bool):=
 (Zc p2).bind fun x1=>
 if x1 then
  (Zac p1.Mem p2.N p3).bind fun x2=>
  some (x2,true)
 else
  (mk? p0.Mem ((D.Term.mk 0 0 0 ⟨[]⟩ ([]:List D.Term)):D.Term)).bind fun x3=>
  (iterN (fun(s1:Int×(List D.Term))=>if(decide (s1.1<(len x3)))then(get? p1.Mem s1.1).bind fun x4=>(XN n p0 s1.1 p2 p3 x4).bind fun x5=>if(!x5.2)then some (.inr (.inr (([]:List D.Term),false)))else(set? s1.2 s1.1 x5.1).bind fun x6=>some (.inl ((w64 (s1.1+1)),x6))else some (.inr (.inl (s1.2)))) n (0,x3)).bind fun(rl1:((List D.Term))⊕((List D.Term)×Bool))=>
  match rl1 with
  |.inl s1r=>
   some (s1r,true)
  |.inr v=>some v
def Zb0(p0:List Int)(p1:Int):Option (List Int):=
 (Z5 p0).bind fun x1=>
 (app? x1 ([p1]:List Int)).bind fun x2=>
 some x2
def Zbd (n:Nat)(p0:D.Program)(p1:D.Path)(p2:D.Ins):Option (D.Path×Bool):=
 if(p2.Op==1)then
  (Z9 p0.W p2.B).bind fun x1=>
  (Zac p1.Regs p2.A (D.Term.mk x1.Op x1.W x1.N x1.Name ([]:List D.Term))).bind fun x2=>
  some ((D.Path.mk (w64 (p1.Pc+1)) x2 p1.Mem p1.Stack p1.In p1.Out p1.Code p1.Steps p1.Cond p1.Turns),true)
 else
  if(p2.Op==2)then
   (get? p1.Regs p2.B).bind fun x3=>
   (Zac p1.Regs p2.A x3).bind fun x4=>
   some ((D.Path.mk (w64 (p1.Pc+1)) x4 p1.Mem p1.Stack p1.In p1.Out p1.Code p1.Steps p1.Cond p1.Turns),true)
  else
   if(p2.Op==3)then
    (get? p1.Regs p2.A).bind fun x5=>
    (get? p1.Regs p2.B).bind fun x6=>
    (ZaN n p0 p2.C x5 x6).bind fun x7=>
    (Zac p1.Regs p2.A x7.1).bind fun x8=>
    some ((D.Path.mk (w64 (p1.Pc+1)) x8 p1.Mem p1.Stack p1.In p1.Out p1.Code p1.Steps p1.Cond p1.Turns),x7.2)
   else
    if(p2.Op==4)then
     (get? p1.Regs p2.A).bind fun x9=>
     (ZA n 1 p0.W 0 ([x9]:List D.Term)).bind fun x10=>
     (Zac p1.Regs p2.A x10.1).bind fun x11=>
     some ((D.Path.mk (w64 (p1.Pc+1)) x11 p1.Mem p1.Stack p1.In p1.Out p1.Code p1.Steps p1.Cond p1.Turns),x10.2)
    else
     if(p2.Op==5)then
      (YU p1.In).bind fun x12=>
      (cat? ⟨[105]⟩ x12).bind fun x13=>
      (XR n p0.W x13).bind fun x14=>
      (Zac p1.Regs p2.A (D.Term.mk x14.Op x14.W x14.N x14.Name ([]:List D.Term))).bind fun x15=>
      some ((D.Path.mk (w64 (p1.Pc+1)) x15 p1.Mem p1.Stack (w64 (p1.In+1)) p1.Out p1.Code p1.Steps p1.Cond p1.Turns),true)
     else
      if(p2.Op==6)then
       (get? p1.Regs p2.A).bind fun x16=>
       (XF p1.Out x16).bind fun x17=>
       some ((D.Path.mk (w64 (p1.Pc+1)) p1.Regs p1.Mem p1.Stack p1.In x17 p1.Code p1.Steps p1.Cond p1.Turns),true)
      else
       if(p2.Op==7)then
        (get? p1.Regs p2.B).bind fun x18=>
        (Zb8 n p0 p1 x18).bind fun x19=>
        (Zac p1.Regs p2.A x19.1).bind fun x20=>
        some ((D.Path.mk (w64 (p1.Pc+1)) x20 p1.Mem p1.Stack p1.In p1.Out p1.Code p1.Steps p1.Cond p1.Turns),x19.2)
       else
        if(p2.Op==8)then
         (get? p1.Regs p2.A).bind fun x21=>
         (get? p1.Regs p2.B).bind fun x22=>
         (ZbH n p0 p1 x21 x22).bind fun x23=>
         some ((D.Path.mk (w64 (p1.Pc+1)) p1.Regs x23.1 p1.Stack p1.In p1.Out p1.Code p1.Steps p1.Cond p1.Turns),x23.2)
        else
         if(p2.Op==9)then
          some ((D.Path.mk p2.B p1.Regs p1.Mem p1.Stack p1.In p1.Out p1.Code p1.Steps p1.Cond p1.Turns),true)
         else
          if(p2.Op==11)then
           (Zb0 p1.Stack (w64 (p1.Pc+1))).bind fun x24=>
           some ((D.Path.mk p2.B p1.Regs p1.Mem x24 p1.In p1.Out p1.Code p1.Steps p1.Cond p1.Turns),true)
          else
           if(p2.Op==12)then
            (get? p1.Stack (w64 ((len p1.Stack)-1))).bind fun x25=>
            (cut? p1.Stack 0 (w64 ((len p1.Stack)-1))).bind fun x26=>
            (Z5 x26).bind fun x27=>
            some ((D.Path.mk x25 p1.Regs p1.Mem x27 p1.In p1.Out p1.Code p1.Steps p1.Cond p1.Turns),true)
           else
            if(p2.Op==14)then
             some ((D.Path.mk p1.Pc p1.Regs p1.Mem p1.Stack p1.In p1.Out 1 p1.Steps p1.Cond p1.Turns),true)
            else
             some ((D.Path.mk (w64 (p1.Pc+1)) p1.Regs p1.Mem p1.Stack p1.In p1.Out p1.Code p1.Steps p1.Cond p1.Turns),true)
def ZbG(n:Nat)(p0:D.Program)(p1:D.Path)(p2:D.Ins):Option (List D.Path):=
 (ZaK n p0 p1 p2).bind fun x1=>
 if(!x1.2.2)then
  some ([(D.Path.mk p1.Pc p1.Regs p1.Mem p1.Stack p1.In p1.Out 9 p1.Steps p1.Cond p1.Turns)]:List D.Path)
 else
  (if x1.2.1 then(Zp x1.1 1)else some default).bind fun x2=>
  if(x1.2.1&&x2)then
   (Zbz p1 p2).bind fun x3=>
   some ([x3]:List D.Path)
  else
   (Zbd n p0 p1 p2).bind fun x4=>
   if(!x4.2)then
    some ([(D.Path.mk p1.Pc p1.Regs p1.Mem p1.Stack p1.In p1.Out 9 p1.Steps p1.Cond p1.Turns)]:List D.Path)
   else
    (if(!x1.2.1)then some default else(Zc x1.1)).bind fun x5=>
    if((!x1.2.1)||x5)then
     some ([x4.1]:List D.Path)
    else
     (ZA n 1 1 0 ([x1.1]:List D.Term)).bind fun x6=>
     if(((!x6.2)||(decide ((len p1.Cond)≥60)))||(decide ((len p1.Turns)≥60)))then
      some ([(D.Path.mk p1.Pc p1.Regs p1.Mem p1.Stack p1.In p1.Out 9 p1.Steps p1.Cond p1.Turns)]:List D.Path)
     else
      (Zbz p1 p2).bind fun x7=>
      (XF p1.Cond x1.1).bind fun x8=>
      (Zb0 p1.Turns 1).bind fun x9=>
      (XF p1.Cond x6.1).bind fun x10=>
      (Zb0 p1.Turns 0).bind fun x11=>
      some ([(D.Path.mk x7.Pc x7.Regs x7.Mem x7.Stack x7.In x7.Out x7.Code x7.Steps x8 x9),(D.Path.mk x4.1.Pc x4.1.Regs x4.1.Mem x4.1.Stack x4.1.In x4.1.Out x4.1.Code x4.1.Steps x10 x11)]:List D.Path)
def ZaY(n:Nat)(p0:D.Program)(p1:D.Path):Option (List D.Path):=
 if((p1.Code !=0)||(decide (p1.Steps≥400)))then
  some ([]:List D.Path)
 else
  if(p1.Pc==(len p0.Code))then
   some ([(D.Path.mk p1.Pc p1.Regs p1.Mem p1.Stack p1.In p1.Out 2 p1.Steps p1.Cond p1.Turns)]:List D.Path)
  else
   (get? p0.Code p1.Pc).bind fun x1=>
   (Zcg p0 (D.Path.mk p1.Pc p1.Regs p1.Mem p1.Stack p1.In p1.Out p1.Code (w64 (p1.Steps+1)) p1.Cond p1.Turns) x1).bind fun x2=>
   if(x2 !=0)then
    some ([(D.Path.mk p1.Pc p1.Regs p1.Mem p1.Stack p1.In p1.Out x2 (w64 (p1.Steps+1)) p1.Cond p1.Turns)]:List D.Path)
   else
    (ZbG n p0 (D.Path.mk p1.Pc p1.Regs p1.Mem p1.Stack p1.In p1.Out p1.Code (w64 (p1.Steps+1)) p1.Cond p1.Turns) x1).bind fun x3=>
    some x3
def Xy(n:Nat)(p0:D.Program)(p1:List D.Path):Option ((List D.Path)×(List D.Path)):=
 (ZaM n p1).bind fun x1=>
 (get? p1 x1).bind fun x2=>
 (iterN (fun(s1:Int×Int×(List D.Term)×(List D.Term)×(List Int)×Int×(List D.Term)×Int×Int×(List D.Term)×(List Int)×(List D.Path))=>if (decide (s1.1<(len p1)))then if(s1.1==x1)then some (.inl ((w64 (s1.1+1)),s1.2.1,s1.2.2.1,s1.2.2.2.1,s1.2.2.2.2.1,s1.2.2.2.2.2.1,s1.2.2.2.2.2.2.1,s1.2.2.2.2.2.2.2.1,s1.2.2.2.2.2.2.2.2.1,s1.2.2.2.2.2.2.2.2.2.1,s1.2.2.2.2.2.2.2.2.2.2.1,s1.2.2.2.2.2.2.2.2.2.2.2))else(get? p1 s1.1).bind fun x3=>(YL n p0 (D.Path.mk s1.2.1 s1.2.2.1 s1.2.2.2.1 s1.2.2.2.2.1 s1.2.2.2.2.2.1 s1.2.2.2.2.2.2.1 s1.2.2.2.2.2.2.2.1 s1.2.2.2.2.2.2.2.2.1 s1.2.2.2.2.2.2.2.2.2.1 s1.2.2.2.2.2.2.2.2.2.2.1) x3).bind fun x4=>if x4.2 then some (.inl ((w64 (s1.1+1)),x4.1.Pc,x4.1.Regs,x4.1.Mem,x4.1.Stack,x4.1.In,x4.1.Out,x4.1.Code,x4.1.Steps,x4.1.Cond,x4.1.Turns,s1.2.2.2.2.2.2.2.2.2.2.2))else(get? p1 s1.1).bind fun x5=>(app? s1.2.2.2.2.2.2.2.2.2.2.2 ([x5]:List D.Path)).bind fun x6=>some (.inl ((w64 (s1.1+1)),s1.2.1,s1.2.2.1,s1.2.2.2.1,s1.2.2.2.2.1,s1.2.2.2.2.2.1,s1.2.2.2.2.2.2.1,s1.2.2.2.2.2.2.2.1,s1.2.2.2.2.2.2.2.2.1,s1.2.2.2.2.2.2.2.2.2.1,s1.2.2.2.2.2.2.2.2.2.2.1,x6))else some (.inr (s1.2.1,s1.2.2.1,s1.2.2.2.1,s1.2.2.2.2.1,s1.2.2.2.2.2.1,s1.2.2.2.2.2.2.1,s1.2.2.2.2.2.2.2.1,s1.2.2.2.2.2.2.2.2.1,s1.2.2.2.2.2.2.2.2.2.1,s1.2.2.2.2.2.2.2.2.2.2.1,s1.2.2.2.2.2.2.2.2.2.2.2))) n (0,x2.Pc,x2.Regs,x2.Mem,x2.Stack,x2.In,x2.Out,x2.Code,x2.Steps,x2.Cond,x2.Turns,([]:List D.Path))).bind fun(rl1:Int×(List D.Term)×(List D.Term)×(List Int)×Int×(List D.Term)×Int×Int×(List D.Term)×(List Int)×(List D.Path))=>
 (ZaY n p0 (D.Path.mk rl1.1 rl1.2.1 rl1.2.2.1 rl1.2.2.2.1 rl1.2.2.2.2.1 rl1.2.2.2.2.2.1 rl1.2.2.2.2.2.2.1 rl1.2.2.2.2.2.2.2.1 rl1.2.2.2.2.2.2.2.2.1 rl1.2.2.2.2.2.2.2.2.2.1)).bind fun x7=>
 some (rl1.2.2.2.2.2.2.2.2.2.2,x7)
def ZbK(p0:D.Path):Option Bool:=
 some ((p0.Code==0)&&(decide (p0.Steps<400)))
def Zao(n:Nat)(p0:D.Program)(p1:List D.Path):Option (List D.Path):=
 (iterN (fun(s1:Int×(List D.Path))=>if (decide (s1.1<(len p1)))then(get? p1 s1.1).bind fun x1=>(iterN (fun(s2:Bool×Int×(List D.Path))=>if(decide (s2.2.1<(len s1.2)))then(get? s2.2.2 s2.2.1).bind fun x2=>(get? s2.2.2 s2.2.1).bind fun x3=>(YL n p0 x3 x1).bind fun x4=>if x4.2 then(set? s2.2.2 s2.2.1 x4.1).bind fun x5=>some (.inr (true,x5))else some (.inl (s2.1,(w64 (s2.2.1+1)),s2.2.2))else some (.inr (s2.1,s2.2.2))) n (false,0,s1.2)).bind fun(rl2:Bool×(List D.Path))=>if(!rl2.1)then(app? rl2.2 ([x1]:List D.Path)).bind fun x6=>some (.inl ((w64 (s1.1+1)),x6))else some (.inl ((w64 (s1.1+1)),rl2.2))else some (.inr (s1.2))) n (0,([]:List D.Path))).bind fun(rl1:(List D.Path))=>
 some rl1
def XZ (n:Nat)(p0:D.Program)(p1:Int)(p2:Int):Option ((List D.Path)×Bool):=
 (XL n p0).bind fun x1=>
 (if(!x1)then some default else(Za0 p1)).bind fun x2=>
 (if((!x1)||(!x2))then some default else(Zc0 p2)).bind fun x3=>
 if(((!x1)||(!x2))||(!x3))then
  some (([]:List D.Path),false)
 else
  (Zap n p0).bind fun x4=>
  (iterN (fun(s1:Int×(List D.Path)×(List D.Path))=>if ((decide (s1.1<p1))&&(decide ((len s1.2.1)>0)))then(Xy n p0 s1.2.1).bind fun x5=>(iterN (fun(s2:Int×(List D.Path)×(List D.Path))=>if(decide (s2.1<(len x5.2)))then(get? x5.2 s2.1).bind fun x6=>(ZbK x6).bind fun x7=>if x7 then(app? s2.2.2 ([x6]:List D.Path)).bind fun x8=>some (.inl ((w64 (s2.1+1)),s2.2.1,x8))else(app? s2.2.1 ([x6]:List D.Path)).bind fun x9=>some (.inl ((w64 (s2.1+1)),x9,s2.2.2))else some (.inr (s2.2.1,s2.2.2))) n (0,s1.2.2,x5.1)).bind fun(rl2:(List D.Path)×(List D.Path))=>if((decide ((len rl2.2)>64))||(decide ((len rl2.1)>64)))then some (.inr (.inr (([]:List D.Path),false)))else some (.inl ((w64 (s1.1+1)),rl2.2,rl2.1))else some (.inr (.inl (s1.2.1,s1.2.2)))) n (0,([x4]:List D.Path),([]:List D.Path))).bind fun(rl1:((List D.Path)×(List D.Path))⊕((List D.Path)×Bool))=>
  match rl1 with
  | .inl s1r=>
   (app? s1r.2 s1r.1).bind fun x10=>
   if(decide ((len x10)>64))then
    some (([]:List D.Path),false)
   else
    (Zao n p0 x10).bind fun x11=>
    some (x11,(decide ((len x11)≤p2)))
  |.inr v=>some v
mutual
def XB(n:Nat)(p0:D.Term):Option D.Term:=
 match n with
 |0=>none
 |n+1=>
 (Yj n p0.Kids).bind fun x1=>
 some (D.Term.mk p0.Op p0.W p0.N p0.Name x1)
def Yj(n:Nat)(p0:List D.Term):Option (List D.Term):=
 match n with
 |0=>none
 |n+1=>
 if((len p0)==0)then
  some ([]:List D.Term)
 else
  (mk? (len p0) ((D.Term.mk 0 0 0 ⟨[]⟩ ([]:List D.Term)):D.Term)).bind fun x1=>
  (iterN (fun(s1:Int×(List D.Term))=>if(decide (s1.1<(len p0)))then(get? p0 s1.1).bind fun x2=>(XB n x2).bind fun x3=>(set? s1.2 s1.1 x3).bind fun x4=>some (.inl ((w64 (s1.1+1)),x4))else some (.inr (s1.2))) n (0,x1)).bind fun(rl1:(List D.Term))=>
  some rl1
end
def Zaj(n:Nat)(p0:D.Path):Option D.Path:=
 (Yj n p0.Regs).bind fun x1=>
 (Yj n p0.Mem).bind fun x2=>
 (Z5 p0.Stack).bind fun x3=>
 (Yj n p0.Out).bind fun x4=>
 (Yj n p0.Cond).bind fun x5=>
 (Z5 p0.Turns).bind fun x6=>
 some (D.Path.mk p0.Pc x1 x2 x3 p0.In x4 p0.Code p0.Steps x5 x6)
def Zas(n:Nat)(p0:List D.Path):Option (List D.Path):=
 (mk? (len p0) ((D.Path.mk 0 ([]:List D.Term) ([]:List D.Term) ([]:List Int) 0 ([]:List D.Term) 0 0 ([]:List D.Term) ([]:List Int)):D.Path)).bind fun x1=>
 (iterN (fun(s1:Int×(List D.Path))=>if(decide (s1.1<(len p0)))then(get? p0 s1.1).bind fun x2=>(Zaj n x2).bind fun x3=>(set? s1.2 s1.1 x3).bind fun x4=>some (.inl ((w64 (s1.1+1)),x4))else some (.inr (s1.2))) n (0,x1)).bind fun(rl1:(List D.Path))=>
 some rl1
def YR(n:Nat)(p0:D.Program)(p1:Int)(p2:Int):Option ((List D.Path)×Bool):=
 (XZ n p0 p1 p2).bind fun x1=>
 if(!x1.2)then
  some (([]:List D.Path),false)
 else
  (Zas n x1.1).bind fun x2=>
  some (x2,true)
mutual
def Zaz(n:Nat)(p0:D.Term)(p1:D.Term):Option Bool:=
 match n with
 |0=>none
 |n+1=>
 if(p0.Op !=p1.Op)then
  some false
 else
  if(p0.W !=p1.W)then
   some false
  else
   if(p0.N !=p1.N)then
    some false
   else
    if(!(Str.eqb p0.Name p1.Name))then
     some false
    else
     (Y2 n p0.Kids p1.Kids).bind fun x1=>
     if(!x1)then
      some false
     else
      some true
def Y2(n:Nat)(p0:List D.Term)(p1:List D.Term):Option Bool:=
 match n with
 |0=>none
 |n+1=>
 if((len p0)!=(len p1))then
  some false
 else
  (iterN (fun(s1:Int)=>if(decide (s1<(len p0)))then(get? p0 s1).bind fun x1=>(get? p1 s1).bind fun x2=>(Zaz n x1 x2).bind fun x3=>if(!x3)then some (.inr (.inr false))else some (.inl ((w64 (s1+1))))else some (.inr (.inl ()))) n (0)).bind fun(rl1:(Unit)⊕Bool)=>
  match rl1 with
  |.inl s1r=>
   some true
  |.inr v=>some v
end
def ZbF(n:Nat)(p0:List Int)(p1:List Int):Option Bool:=
 if((len p0)!=(len p1))then
  some false
 else
  (iterN (fun(s1:Int)=>if(decide (s1<(len p0)))then(get? p0 s1).bind fun x1=>(get? p1 s1).bind fun x2=>if(x1 !=x2)then some (.inr (.inr false))else some (.inl ((w64 (s1+1))))else some (.inr (.inl ()))) n (0)).bind fun(rl1:(Unit)⊕Bool)=>
  match rl1 with
  |.inl s1r=>
   some true
  |.inr v=>some v
def Zbe (n:Nat)(p0:D.Path)(p1:D.Path):Option Bool:=
 if(p0.Pc !=p1.Pc)then
  some false
 else
  (Y2 n p0.Regs p1.Regs).bind fun x1=>
  if(!x1)then
   some false
  else
   (Y2 n p0.Mem p1.Mem).bind fun x2=>
   if(!x2)then
    some false
   else
    (ZbF n p0.Stack p1.Stack).bind fun x3=>
    if(!x3)then
     some false
    else
     if(p0.In !=p1.In)then
      some false
     else
      (Y2 n p0.Out p1.Out).bind fun x4=>
      if(!x4)then
       some false
      else
       if(p0.Code !=p1.Code)then
        some false
       else
        if(p0.Steps !=p1.Steps)then
         some false
        else
         (Y2 n p0.Cond p1.Cond).bind fun x5=>
         if(!x5)then
          some false
         else
          (ZbF n p0.Turns p1.Turns).bind fun x6=>
          if(!x6)then
           some false
          else
           some true
def Zaa(n:Nat)(p0:List D.Path)(p1:List D.Path):Option Bool:=
 if((len p0)!=(len p1))then
  some false
 else
  (iterN (fun(s1:Int)=>if(decide (s1<(len p0)))then(get? p0 s1).bind fun x1=>(get? p1 s1).bind fun x2=>(Zbe n x1 x2).bind fun x3=>if(!x3)then some (.inr (.inr false))else some (.inl ((w64 (s1+1))))else some (.inr (.inl ()))) n (0)).bind fun(rl1:(Unit)⊕Bool)=>
  match rl1 with
  |.inl s1r=>
   some true
  |.inr v=>some v
def Zck(p0:D.Ins)(p1:D.Ins):Option Bool:=
 if(p0.Op !=p1.Op)then
  some false
 else
  if(p0.A !=p1.A)then
   some false
  else
   if(p0.B !=p1.B)then
    some false
   else
    if(p0.C !=p1.C)then
     some false
    else
     some true
def ZbA(n:Nat)(p0:List D.Ins)(p1:List D.Ins):Option Bool:=
 if((len p0)!=(len p1))then
  some false
 else
  (iterN (fun(s1:Int)=>if(decide (s1<(len p0)))then(get? p0 s1).bind fun x1=>(get? p1 s1).bind fun x2=>(Zck x1 x2).bind fun x3=>if(!x3)then some (.inr (.inr false))else some (.inl ((w64 (s1+1))))else some (.inr (.inl ()))) n (0)).bind fun(rl1:(Unit)⊕Bool)=>
  match rl1 with
  |.inl s1r=>
   some true
  |.inr v=>some v
def Za8(n:Nat)(p0:D.Program)(p1:D.Program):Option Bool:=
 if(p0.W !=p1.W)then
  some false
 else
  if(p0.Mem !=p1.Mem)then
   some false
  else
   if(p0.In !=p1.In)then
    some false
   else
    (ZbA n p0.Code p1.Code).bind fun x1=>
    if(!x1)then
     some false
    else
     some true
def ZaI(n:Nat)(p0:List D.Ins)(p1:Int):Option (Int×(List D.Ins)):=
 (iterN (fun(s1:Int×Int×(List D.Ins))=>if(decide (s1.2.1<(len p0)))then(get? s1.2.2 s1.2.1).bind fun x1=>(set? s1.2.2 s1.2.1 ({x1 with Op:=s1.1}:D.Ins)).bind fun x2=>(get? x2 s1.2.1).bind fun x3=>(set? x2 s1.2.1 ({x3 with A:=(w64 (s1.1+1))}:D.Ins)).bind fun x4=>(get? x4 s1.2.1).bind fun x5=>(set? x4 s1.2.1 ({x5 with B:=(w64 ((w64 (s1.1+1))+1))}:D.Ins)).bind fun x6=>(get? x6 s1.2.1).bind fun x7=>(set? x6 s1.2.1 ({x7 with C:=(w64 ((w64 ((w64 (s1.1+1))+1))+1))}:D.Ins)).bind fun x8=>some (.inl ((w64 ((w64 ((w64 ((w64 (s1.1+1))+1))+1))+1)),(w64 (s1.2.1+1)),x8))else some (.inr (s1.1,s1.2.2))) n (p1,0,p0)).bind fun(rl1:Int×(List D.Ins))=>
 some (rl1.1,rl1.2)
def XK(n:Nat)(p0:D.Program)(p1:Int):Option (Int×D.Program):=
 (ZaI n p0.Code p1).bind fun x1=>
 some (x1.1,(D.Program.mk p0.W p0.Mem p0.In x1.2))
def Y9(n:Nat)(p0:Int):Option Str:=
 if(decide (p0≤0))then
  some ⟨[109,48]⟩
 else
  (iterN (fun(s1:Int×Str)=>if(decide (s1.1>0))then(rem? s1.1 10).bind fun x1=>(cat? (strOf ([(Byt.mk (IntKind.u8.wrap (w64 (48+x1))))]:List Byt)) s1.2).bind fun x2=>(quo? s1.1 10).bind fun x3=>some (.inl (x3,x2))else some (.inr (s1.2))) n (p0,⟨[]⟩)).bind fun(rl1:Str)=>
  (cat? ⟨[109]⟩ rl1).bind fun x4=>
  some x4
def ZQ(n:Nat)(p0:List D.Term)(p1:Int):Option (Int×(List D.Term)):=
 match n with
 |0=>none
 |n+1=>
 (iterN (fun(s1:Int×Int×(List D.Term))=>if(decide (s1.2.1<(len p0)))then(get? s1.2.2 s1.2.1).bind fun x1=>(Y9 n (w64 ((w64 ((w64 (s1.1+1))+1))+1))).bind fun x2=>(ZQ n x1.Kids (w64 ((w64 ((w64 ((w64 (s1.1+1))+1))+1))+1))).bind fun x3=>(set? s1.2.2 s1.2.1 (D.Term.mk s1.1 (w64 (s1.1+1)) (w64 ((w64 (s1.1+1))+1)) x2 x3.2)).bind fun x4=>some (.inl (x3.1,(w64 (s1.2.1+1)),x4))else some (.inr (s1.1,s1.2.2))) n (p1,0,p0)).bind fun(rl1:Int×(List D.Term))=>
 some (rl1.1,rl1.2)
def Xh(n:Nat)(p0:List Int)(p1:Int):Option (Int×(List Int)):=
 (iterN (fun(s1:Int×Int×(List Int))=>if(decide (s1.2.1<(len p0)))then(set? s1.2.2 s1.2.1 s1.1).bind fun x1=>some (.inl ((w64 (s1.1+1)),(w64 (s1.2.1+1)),x1))else some (.inr (s1.1,s1.2.2))) n (p1,0,p0)).bind fun(rl1:Int×(List Int))=>
 some (rl1.1,rl1.2)
def Za6(n:Nat)(p0:List D.Path)(p1:Int):Option (Int×(List D.Path)):=
 (iterN (fun(s1:Int×Int×(List D.Path))=>if(decide (s1.2.1<(len p0)))then(get? s1.2.2 s1.2.1).bind fun x1=>(ZQ n x1.Regs (w64 (s1.1+1))).bind fun x2=>(ZQ n x1.Mem x2.1).bind fun x3=>(Xh n x1.Stack x3.1).bind fun x4=>(ZQ n x1.Out (w64 (x4.1+1))).bind fun x5=>(ZQ n x1.Cond (w64 ((w64 (x5.1+1))+1))).bind fun x6=>(Xh n x1.Turns x6.1).bind fun x7=>(set? s1.2.2 s1.2.1 (D.Path.mk s1.1 x2.2 x3.2 x4.2 x4.1 x5.2 x5.1 (w64 (x5.1+1)) x6.2 x7.2)).bind fun x8=>some (.inl (x7.1,(w64 (s1.2.1+1)),x8))else some (.inr (s1.1,s1.2.2))) n (p1,0,p0)).bind fun(rl1:Int×(List D.Path))=>
 some (rl1.1,rl1.2)
def Zz (n:Nat)(p0:List D.Term)(p1:Int):Option Int:=
 match n with
 |0=>none
 |n+1=>
 (iterN (fun(s1:Int×Int)=>if (decide (s1.2<(len p0)))then(get? p0 s1.2).bind fun x1=>if(x1.Op !=s1.1)then some (.inr (.inr (-1)))else(get? p0 s1.2).bind fun x2=>if(x2.W !=(w64 (s1.1+1)))then some (.inr (.inr (-1)))else(get? p0 s1.2).bind fun x3=>if(x3.N !=(w64 ((w64 (s1.1+1))+1)))then some (.inr (.inr (-1)))else(get? p0 s1.2).bind fun x4=>(Y9 n (w64 ((w64 ((w64 (s1.1+1))+1))+1))).bind fun x5=>if(!(Str.eqb x4.Name x5))then some (.inr (.inr (-1)))else(get? p0 s1.2).bind fun x6=>(Zz n x6.Kids (w64 ((w64 ((w64 ((w64 (s1.1+1))+1))+1))+1))).bind fun x7=>if(decide (x7<0))then some (.inr (.inr (-1)))else some (.inl (x7,(w64 (s1.2+1))))else some (.inr (.inl (s1.1)))) n (p1,0)).bind fun(rl1:(Int)⊕Int)=>
 match rl1 with
 |.inl s1r=>
  some s1r
 |.inr v=>some v
def Yt(n:Nat)(p0:List Int)(p1:Int):Option Int:=
 (iterN (fun(s1:Int×Int)=>if(decide (s1.2<(len p0)))then(get? p0 s1.2).bind fun x1=>if(x1 !=s1.1)then some (.inr (.inr (-1)))else some (.inl ((w64 (s1.1+1)),(w64 (s1.2+1))))else some (.inr (.inl (s1.1)))) n (p1,0)).bind fun(rl1:(Int)⊕Int)=>
 match rl1 with
 |.inl s1r=>
  some s1r
 |.inr v=>some v
def Xx (n:Nat)(p0:List D.Path)(p1:Int):Option Int:=
 (iterN (fun (s1:Int×Int)=>if (decide (s1.2<(len p0)))then(get? p0 s1.2).bind fun x1=>if(x1.Pc !=s1.1)then some (.inr (.inr (-1)))else(get? p0 s1.2).bind fun x2=>(Zz n x2.Regs (w64 (s1.1+1))).bind fun x3=>if(decide (x3<0))then some (.inr (.inr (-1)))else(get? p0 s1.2).bind fun x4=>(Zz n x4.Mem x3).bind fun x5=>if(decide (x5<0))then some (.inr (.inr (-1)))else(get? p0 s1.2).bind fun x6=>(Yt n x6.Stack x5).bind fun x7=>if(decide (x7<0))then some (.inr (.inr (-1)))else(get? p0 s1.2).bind fun x8=>if(x8.In !=x7)then some (.inr (.inr (-1)))else(get? p0 s1.2).bind fun x9=>(Zz n x9.Out (w64 (x7+1))).bind fun x10=>if(decide (x10<0))then some (.inr (.inr (-1)))else(get? p0 s1.2).bind fun x11=>if(x11.Code !=x10)then some (.inr (.inr (-1)))else(get? p0 s1.2).bind fun x12=>if(x12.Steps !=(w64 (x10+1)))then some (.inr (.inr (-1)))else(get? p0 s1.2).bind fun x13=>(Zz n x13.Cond (w64 ((w64 (x10+1))+1))).bind fun x14=>if(decide (x14<0))then some (.inr (.inr (-1)))else(get? p0 s1.2).bind fun x15=>(Yt n x15.Turns x14).bind fun x16=>if(decide (x16<0))then some (.inr (.inr (-1)))else some (.inl (x16,(w64 (s1.2+1))))else some (.inr (.inl (s1.1)))) n (p1,0)).bind fun(rl1:(Int)⊕Int)=>
 match rl1 with
 |.inl s1r=>
  some s1r
 |.inr v=>some v
def YN (n:Nat)(p0:D.Program)(p1:Int)(p2:Int):Option Bool:=
 (Zaw p0 1048576).bind fun x1=>
 if(decide (x1<0))then
  some true
 else
  (YW n p0).bind fun x2=>
  (Xn n x2 p1 p2).bind fun x3=>
  (YW n p0).bind fun x4=>
  (YR n x4 p1 p2).bind fun x5=>
  (Zaa n x5.1 x3.1).bind fun x6=>
  if((!x6)||(!(x5.2==x3.2)))then
   some false
  else
   (YW n p0).bind fun x7=>
   (Za8 n x4 x7).bind fun x8=>
   if(!x8)then
    some false
   else
    (XK n x4 1).bind fun x9=>
    (if(decide (x9.1<0))then some default else(Zaa n x5.1 x3.1)).bind fun x10=>
    if(((decide (x9.1<0))||(!x10))||(!(x5.2==x3.2)))then
     some false
    else
     (Za6 n x5.1 1).bind fun x11=>
     (Xx n x11.2 1).bind fun x12=>
     if(decide (x12<0))then
      some false
     else
      if(x12 !=x11.1)then
       some false
      else
       (YW n p0).bind fun x13=>
       (YR n x13 p1 p2).bind fun x14=>
       (Zaa n x14.1 x3.1).bind fun x15=>
       if((!x15)||(!(x14.2==x3.2)))then
        some false
       else
        (Xx n x11.2 1).bind fun x16=>
        if(decide (x16<0))then
         some false
        else
         if(x16 !=x11.1)then
          some false
         else
          some true
end Go.GL
