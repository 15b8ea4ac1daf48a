/- Texts of this claim put into one: library or plain laws, without the program under test. -/
import Derived.Test.YtmhljhkhmdkdhaaGreatDoorDefs
import Derived.Test.YtmhljhkhmdkdhaaGreatDoorLib3
import Derived.Lib.Strings
set_option linter.unusedSimpArgs false
set_option linter.unusedVariables false
set_option linter.defProp false
section
namespace Go.GL
def Xx(p0:Int)(p1:Int):Option D.Term:=
 some (D.Term.mk 0 p0 p1 ⟨[]⟩ ([]:List D.Term))
def X0(p0:Int)(p1:Int)(p2:Int)(p3:Int):Option Int:=
 (Zw p0 p1).bind λx1=>
 (if(!x1)then some default else(Zw p2 p3)).bind λx2=>
 if(((!x1)||(!x2))||(decide ((w64 (p0+p2))>16)))then
  some (-1)
 else
  (shl? p1 p2).bind λx3=>
  some (w64 (x3+p3))
def WC(p0:Int)(p1:Int)(p2:Int)(p3:Int):Option Int:=
 (Zw p0 p1).bind λx1=>
 if(((((!x1)||(decide (p2<0)))||(decide (p3<1)))||(decide (p3>p0)))||(decide (p2>(w64 (p0-p3)))))then
  some (-1)
 else
  (shr? p1 p2).bind λx2=>
  (Z6 p3 x2).bind λx3=>
  some x3
def X9(p0:Int)(p1:Int)(p2:Int)(p3:Bool):Option Int:=
 (Zw p0 p1).bind λx1=>
 if(((!x1)||(decide (p2<p0)))||(decide (p2>16)))then
  some (-1)
 else
  if p3 then
   (Yd p0 p1).bind λx2=>
   (Z6 p2 x2).bind λx3=>
   some x3
  else
   some p1
def ZE(p0:D.Term)(p1:List Int):Option Int:=
 (Zd p0.Op 1 2).bind λx1=>
 if x1 then
  (get? p1 0).bind λx2=>
  (ZY p0.Op p0.W x2).bind λx3=>
  some x3
 else
  (Zd p0.Op 3 16).bind λx4=>
  if x4 then
   (get? p0.Kids 0).bind λx5=>
   (get? p1 0).bind λx6=>
   (get? p1 1).bind λx7=>
   (Z9 p0.Op x5.W x6 x7).bind λx8=>
   some x8
  else
   if(p0.Op==17)then
    (get? p1 0).bind λx9=>
    if(x9==1)then
     (get? p1 1).bind λx10=>
     some x10
    else
     (get? p1 2).bind λx11=>
     some x11
   else
    if(p0.Op==18)then
     (get? p0.Kids 0).bind λx12=>
     (get? p1 0).bind λx13=>
     (get? p0.Kids 1).bind λx14=>
     (get? p1 1).bind λx15=>
     (X0 x12.W x13 x14.W x15).bind λx16=>
     some x16
    else
     if(p0.Op==19)then
      (get? p0.Kids 0).bind λx17=>
      (get? p1 0).bind λx18=>
      (WC x17.W x18 p0.N p0.W).bind λx19=>
      some x19
     else
      (get? p0.Kids 0).bind λx20=>
      (get? p1 0).bind λx21=>
      (X9 x20.W x21 p0.W (p0.Op==21)).bind λx22=>
      some x22
def XI(p0:Int)(p1:Int):Option Int:=
 if(decide (p0<p1))then
  some (-1)
 else
  if(decide (p0>p1))then
   some 1
  else
   some 0
def Yj (n:Nat)(p0:D.Term)(p1:D.Term):Option Int:=
 match n with
 |0=>none
 |n+1=>
 (XI p0.Op p1.Op).bind λx1=>
 (XI p0.W p1.W).bind λx2=>
 (XI p0.N p1.N).bind λx3=>
 (iterN (λ(s1:Int)=>if(decide (s1<(len ([x1,x2,x3]:List Int))))then(get? ([x1,x2,x3]:List Int) s1).bind λx4=>if(x4 !=0)then some (.inr (.inr x4))else some (.inl ((w64 (s1+1))))else some (.inr (.inl ()))) n (0)).bind λ(rl1:(Unit)⊕Int)=>
 match rl1 with
 | .inl s1r=>
  if(!(Str.eqb p0.Name p1.Name))then
   if(Str.ltb p0.Name p1.Name)then
    some (-1)
   else
    some 1
  else
   (iterN (λ(s2:Int)=>if (decide (s2<(len p0.Kids)))then(get? p0.Kids s2).bind λx5=>if(s2==(len p1.Kids))then some (.inr (.inr 1))else(get? p1.Kids s2).bind λx6=>(Yj n x5 x6).bind λx7=>if(x7 !=0)then some (.inr (.inr x7))else some (.inl ((w64 (s2+1))))else some (.inr (.inl ()))) n (0)).bind λ(rl2:(Unit)⊕Int)=>
   match rl2 with
   |.inl s2r=>
    (XI (len p0.Kids) (len p1.Kids)).bind λx8=>
    some x8
   |.inr v=>some v
 |.inr v=>some v
def YE(p0:D.Term)(p1:Int):Option Bool:=
 some ((p0.Op==0)&&(p0.N==p1))
def Uj(p0:D.Term):Option Bool:=
 (if(p0.Op==0)then(shl? 1 p0.W)else some default).bind λx1=>
 some ((p0.Op==0)&&(p0.N==(w64 (x1-1))))
def Y7(n:Nat)(p0:D.Term)(p1:D.Term):Option Bool:=
 (Yj n p0 p1).bind λx1=>
 some (x1==0)
def VV(p0:D.Term):Option (D.Term×Bool):=
 if((p0.Op==8)||(p0.Op==9))then
  (get? p0.Kids 0).bind λx1=>
  some (x1,true)
 else
  (if(p0.Op==4)then some (.inl ((p0.Op==4)))else if(p0.Op==10)then some (.inl ((p0.Op==10)))else some (.inl (((p0.Op==15)||(p0.Op==16))))).bind λ(rl1:(Bool)⊕(D.Term×Bool))=>
  match rl1 with
  | .inl s1r=>
   if s1r then
    (Xx p0.W 0).bind λx2=>
    some ((D.Term.mk x2.Op x2.W x2.N x2.Name ([]:List D.Term)),true)
   else
    if(p0.Op==14)then
     (Xx 1 1).bind λx3=>
     some ((D.Term.mk x3.Op x3.W x3.N x3.Name ([]:List D.Term)),true)
    else
     some (p0,false)
  |.inr v=>some v
mutual
def VU (n:Nat)(p0:D.Term):Option (D.Term×Bool):=
 match n with
 |0=>none
 |n+1=>
 (get? p0.Kids 0).bind λx1=>
 (get? p0.Kids 1).bind λx2=>
 (YE x1 0).bind λx3=>
 (Uj x1).bind λx4=>
 (if((p0.Op==3)&&x3)then some (.inl (((p0.Op==3)&&x3)))else if((p0.Op==9)&&x3)then some (.inl (((p0.Op==9)&&x3)))else some (.inl (((p0.Op==10)&&x3)))).bind λ(rl1:(Bool)⊕(D.Term×Bool))=>
 match rl1 with
 | .inl s1r=>
  if s1r then
   some (x2,true)
  else
   (if((p0.Op==5)&&x3)then some (.inl (((p0.Op==5)&&x3)))else if((p0.Op==8)&&x3)then some (.inl (((p0.Op==8)&&x3)))else some (.inl (((p0.Op==9)&&x4)))).bind λ(rl2:(Bool)⊕(D.Term×Bool))=>
   match rl2 with
   | .inl s2r=>
    if s2r then
     some (x1,true)
    else
     (if((p0.Op==5)&&(x1.N==1))then some (.inl (((p0.Op==5)&&(x1.N==1))))else some (.inl (((p0.Op==8)&&x4)))).bind λ(rl3:(Bool)⊕(D.Term×Bool))=>
     match rl3 with
     | .inl s3r=>
      if s3r then
       some (x2,true)
      else
       if((p0.Op==10)&&x4)then
        (Zt n (D.Term.mk 1 p0.W 0 ⟨[]⟩ ([x2]:List D.Term))).bind λx5=>
        some (x5,true)
       else
        if(((p0.Op==14)&&(x1.W==1))&&(x1.N==1))then
         some (x2,true)
        else
         if((p0.Op==14)&&(x1.W==1))then
          (Zt n (D.Term.mk 1 1 0 ⟨[]⟩ ([x2]:List D.Term))).bind λx6=>
          some (x6,true)
         else
          some (p0,false)
     |.inr v=>some v
   |.inr v=>some v
 |.inr v=>some v
def Zt (n:Nat)(p0:D.Term):Option D.Term:=
 match n with
 |0=>none
 |n+1=>
 (iterN (λ(s1:Bool×Int×(List Int))=>if(decide (s1.2.1<(len p0.Kids)))then(get? p0.Kids s1.2.1).bind λx1=>(app? s1.2.2 ([x1.N]:List Int)).bind λx2=>some (.inl ((s1.1&&(x1.Op==0)),(w64 (s1.2.1+1)),x2))else some (.inr (s1.1,s1.2.2))) n ((decide ((len p0.Kids)>0)),0,([]:List Int))).bind λ(rl1:Bool×(List Int))=>
 if rl1.1 then
  (ZE p0 rl1.2).bind λx3=>
  (Xx p0.W x3).bind λx4=>
  some (D.Term.mk x4.Op x4.W x4.N x4.Name ([]:List D.Term))
 else
  (Zd p0.Op 3 16).bind λx5=>
  if x5 then
   (Ve n p0).bind λx6=>
   some x6
  else
   if((p0.Op==1)||(p0.Op==2))then
    (get? p0.Kids 0).bind λx7=>
    if(x7.Op==p0.Op)then
     (get? p0.Kids 0).bind λx8=>
     (get? x8.Kids 0).bind λx9=>
     some x9
    else
     some p0
   else
    if(p0.Op==17)then
     (TU n p0).bind λx10=>
     some x10
    else
     if(p0.Op==19)then
      (UD n p0).bind λx11=>
      some x11
     else
      if ((p0.Op==20)||(p0.Op==21))then
       (get? p0.Kids 0).bind λx12=>
       if(x12.W==p0.W)then
        some x12
       else
        if(x12.Op==p0.Op)then
         (Zt n (D.Term.mk p0.Op p0.W 0 ⟨[]⟩ x12.Kids)).bind λx13=>
         some x13
        else
         some p0
      else
       if(p0.Op==18)then
        (get? p0.Kids 0).bind λx14=>
        (get? p0.Kids 1).bind λx15=>
        (if((x14.Op==19)&&(x15.Op==19))then(get? x14.Kids 0)else some default).bind λx16=>
        (if((x14.Op==19)&&(x15.Op==19))then(get? x15.Kids 0)else some default).bind λx17=>
        (if((x14.Op==19)&&(x15.Op==19))then(Y7 n x16 x17)else some default).bind λx18=>
        if((((x14.Op==19)&&(x15.Op==19))&&x18)&&(x14.N==(w64 (x15.N+x15.W))))then
         (Zt n (D.Term.mk 19 p0.W x15.N ⟨[]⟩ x15.Kids)).bind λx19=>
         some x19
        else
         some p0
       else
        some p0
def Ve (n:Nat)(p0:D.Term):Option D.Term:=
 match n with
 |0=>none
 |n+1=>
 (get? p0.Kids 0).bind λx1=>
 (get? p0.Kids 1).bind λx2=>
 (if((p0.Op==3)||(p0.Op==5))then some default else(Zd p0.Op 8 10)).bind λx3=>
 (if((((p0.Op==3)||(p0.Op==5))||x3)||(p0.Op==14))then(Yj n x1 x2)else some default).bind λx4=>
 if(((((p0.Op==3)||(p0.Op==5))||x3)||(p0.Op==14))&&(decide (x4>0)))then
  (Zt n (D.Term.mk p0.Op p0.W p0.N p0.Name ([x2,x1]:List D.Term))).bind λx5=>
  some x5
 else
  (if(x1.Op==0)then(VU n p0).bind λx6=>if x6.2 then some (.inr x6.1)else some (.inl ())else some (.inl ())).bind λ(rl1:(Unit)⊕D.Term)=>
  match rl1 with
  | .inl s1r=>
   (YE x2 0).bind λx7=>
   (if x7 then(if(p0.Op==4)then some default else(Zd p0.Op 11 13)).bind λx8=>if((p0.Op==4)||x8)then some (.inr x1)else if(p0.Op==15)then(Xx 1 0).bind λx9=>some (.inr (D.Term.mk x9.Op x9.W x9.N x9.Name ([]:List D.Term)))else some (.inl ())else some (.inl ())).bind λ(rl2:(Unit)⊕D.Term)=>
   match rl2 with
   | .inl s2r=>
    (Y7 n x1 x2).bind λx10=>
    (if x10 then(VV p0).bind λx11=>if x11.2 then some (.inr x11.1)else some (.inl ())else some (.inl ())).bind λ(rl3:(Unit)⊕D.Term)=>
    match rl3 with
    | .inl s3r=>
     (if(((((p0.Op==3)||(p0.Op==5))||x3)&&(x1.Op==0))&&(x2.Op==p0.Op))then(get? x2.Kids 0)else some default).bind λx12=>
     if((((((p0.Op==3)||(p0.Op==5))||x3)&&(x1.Op==0))&&(x2.Op==p0.Op))&&(x12.Op==0))then
      (get? x2.Kids 0).bind λx13=>
      (Z9 p0.Op p0.W x1.N x13.N).bind λx14=>
      (Xx p0.W x14).bind λx15=>
      (get? x2.Kids 1).bind λx16=>
      (Zt n (D.Term.mk p0.Op p0.W 0 ⟨[]⟩ ([(D.Term.mk x15.Op x15.W x15.N x15.Name ([]:List D.Term)),x16]:List D.Term))).bind λx17=>
      some x17
     else
      some p0
    |.inr v=>some v
   |.inr v=>some v
  |.inr v=>some v
def TU (n:Nat)(p0:D.Term):Option D.Term:=
 match n with
 |0=>none
 |n+1=>
 (get? p0.Kids 0).bind λx1=>
 (get? p0.Kids 1).bind λx2=>
 (get? p0.Kids 2).bind λx3=>
 (YE x1 1).bind λx4=>
 if x4 then
  some x2
 else
  (YE x1 0).bind λx5=>
  if x5 then
   some x3
  else
   (Y7 n x2 x3).bind λx6=>
   if x6 then
    some x2
   else
    if(x1.Op==1)then
     (get? x1.Kids 0).bind λx7=>
     (Zt n (D.Term.mk 17 p0.W 0 ⟨[]⟩ ([x7,x3,x2]:List D.Term))).bind λx8=>
     some x8
    else
     (if(p0.W==1)then(YE x2 1)else some default).bind λx9=>
     (if((p0.W==1)&&x9)then(YE x3 0)else some default).bind λx10=>
     if(((p0.W==1)&&x9)&&x10)then
      some x1
     else
      (if(p0.W==1)then(YE x2 0)else some default).bind λx11=>
      (if((p0.W==1)&&x11)then(YE x3 1)else some default).bind λx12=>
      if(((p0.W==1)&&x11)&&x12)then
       (Zt n (D.Term.mk 1 1 0 ⟨[]⟩ ([x1]:List D.Term))).bind λx13=>
       some x13
      else
       some p0
def UD(n:Nat)(p0:D.Term):Option D.Term:=
 match n with
 |0=>none
 |n+1=>
 (get? p0.Kids 0).bind λx1=>
 if(p0.W==x1.W)then
  some x1
 else
  if(x1.Op==19)then
   (get? x1.Kids 0).bind λx2=>
   (Vg n p0.W x2 (w64 (p0.N+x1.N))).bind λx3=>
   some x3
  else
   (if(x1.Op==18)then(get? x1.Kids 1)else some default).bind λx4=>
   if((x1.Op==18)&&(decide ((w64 (p0.N+p0.W))<=x4.W)))then
    (get? x1.Kids 1).bind λx5=>
    (Vg n p0.W x5 p0.N).bind λx6=>
    some x6
   else
    (if(x1.Op==18)then(get? x1.Kids 1)else some default).bind λx7=>
    if((x1.Op==18)&&(decide (p0.N>=x7.W)))then
     (get? x1.Kids 0).bind λx8=>
     (get? x1.Kids 1).bind λx9=>
     (Vg n p0.W x8 (w64 (p0.N-x9.W))).bind λx10=>
     some x10
    else
     (Zd x1.Op 20 21).bind λx11=>
     (if x11 then(get? x1.Kids 0)else some default).bind λx12=>
     if(x11&&(decide ((w64 (p0.N+p0.W))<=x12.W)))then
      (get? x1.Kids 0).bind λx13=>
      (Vg n p0.W x13 p0.N).bind λx14=>
      some x14
     else
      some p0
def Vg(n:Nat)(p0:Int)(p1:D.Term)(p2:Int):Option D.Term:=
 match n with
 |0=>none
 |n+1=>
 (Zt n (D.Term.mk 19 p0 p2 ⟨[]⟩ ([p1]:List D.Term))).bind λx1=>
 some x1
end
def Vs(n:Nat)(p0:List D.Value)(p1:Str):Option Int:=
 (iterN (λ(s1:Int)=>if(decide (s1<(len p0)))then(get? p0 s1).bind λx1=>if(Str.eqb x1.Name p1)then some (.inr (.inr s1))else some (.inl ((w64 (s1+1))))else some (.inr (.inl ()))) n (0)).bind λ(rl1:(Unit)⊕Int)=>
 match rl1 with
 |.inl s1r=>
  some (-1)
 |.inr v=>some v
def ZT(n:Nat)(p0:D.Term)(p1:List D.Value):Option (Int×Bool):=
 match n with
 |0=>none
 |n+1=>
 if(p0.Op==0)then
  some (p0.N,true)
 else
  if(p0.Op==22)then
   (Vs n p1 p0.Name).bind λx1=>
   (if(decide (x1<0))then some default else(get? p1 x1)).bind λx2=>
   if((decide (x1<0))||(x2.W !=p0.W))then
    some (0,false)
   else
    (get? p1 x1).bind λx3=>
    some (x3.N,true)
  else
   (iterN (λ(s1:Int×(List Int))=>if(decide (s1.1<(len p0.Kids)))then(get? p0.Kids s1.1).bind λx4=>(ZT n x4 p1).bind λx5=>if(!x5.2)then some (.inr (.inr (0,false)))else(app? s1.2 ([x5.1]:List Int)).bind λx6=>some (.inl ((w64 (s1.1+1)),x6))else some (.inr (.inl (s1.2)))) n (0,([]:List Int))).bind λ(rl1:((List Int))⊕(Int×Bool))=>
   match rl1 with
   |.inl s1r=>
    (ZE p0 s1r).bind λx7=>
    some (x7,true)
   |.inr v=>some v
end Go.GL
end
section
namespace Go.Proofs.YtmhljhkhmdkdhaaGreatDoor
open Go.GL
def fuel:Nat:=4194400
def WW{n:Nat}(h:n<=1048576:=by omega):n<fuel:=by unfold fuel;omega
theorem SS{α:Type}{l:List α}{f:α->Option Bool}{b:α->Bool}(hf:∀x∈l,f x=some (b x))(hb:l.length<=9223372036854775807):∀(d i:Nat),i+d=l.length->∀n,d<n->
  iterN (λ(s1:Int)=>if(decide (s1<(len l)))then(get? l s1).bind λx1=>(f x1).bind λx2=>if(!x2)then some (.inr (.inr false))else some (.inl ((w64 (s1+1))))else some (.inr (.inl ()))) n (i:Int)=some (if(l.drop i).all b then(.inl ():Unit⊕Bool)else .inr false)
 |0,i,hi,n,hn=>by
  obtain⟨n,rfl⟩:∃j,n=j+1:=⟨n-1,by omega⟩;unfold iterN;rw[Cu ah];simp[Ak (show l.length<=i by omega)]
 | d+1,i,hi,n,hn=>by
  obtain⟨n,rfl⟩:∃j,n=j+1:=⟨n-1,by omega⟩;have hp:i<l.length:=by omega
  unfold iterN;rw[Cr ah,get?_nat,Cv hp];simp only[Cm];rw[hf _ (BI hp),Bf hp];simp only[Cm,BQ];by_cases h:b l[i]=true
  ·rw[Cu (by simp[h])];simp only;rw[Zf,show((i:Int)+1)=((i+1:Nat):Int) by omega,SS hf hb d (i+1) O n O];simp only[h,Bi]
  ·rw[Cr (by simp[h])];simp[h]
def KI{w:Int}(h1:1<=w)(h2:w<=16):∃m:Int,shl? 1 w=some m/\shl? 1 (IntKind.u64.wrap w)=some m/\w64 (m-1)=m-1:=by
 have:w=1\/w=2\/w=3\/w=4\/w=5\/w=6\/w=7\/w=8\/w=9\/w=10\/w=11\/w=12\/w=13\/w=14\/w=15\/w=16:=by omega
 rcases this with rfl|rfl|rfl|rfl|rfl|rfl|rfl|rfl|rfl|rfl|rfl|rfl|rfl|rfl|rfl|rfl<;>exact⟨_,rfl,by decide,by decide⟩
def RQ(w v:Int):∃b,Zw w v=some b/\Z0 w v=some b:=by
 unfold Zw Z0 Zd Zp;by_cases h:1<=w/\w<=16
 ·obtain⟨m,h1,h2,h3⟩:=KI h.1 h.2;refine⟨decide (0<=v)&&decide (v<m),?_,?_⟩
  ·simp only[ge_iff_le,h.1,h.2,decide_true,AR,Cm,CF,h1,h3,Bi,Option.some.injEq];rw[Aa];simp only[Co,Cw];omega
  ·by_cases hv:0<=v
   ·simp[h.1,h.2,hv,h2]
   ·simp[h.1,h.2,hv]
 ·refine⟨false, ?_, ?_⟩
  ·by_cases a:1<=w
   ·have b:¬w<=16:=λb=>h ⟨a,b⟩;simp[a,b]
   ·simp[a]
  ·by_cases a:1<=w
   ·have b:¬w<=16:=λb=>h ⟨a,b⟩;simp[a,b]
   ·simp[a]
def Ku{c:Bool}{b:Bool}:(if c=true then some b else some default)=some (if c=true then b else default):=by split<;>rfl
def QK{c:Bool}{b:Bool}:(if c=true then some default else some b)=some (if c=true then default else b):=by split<;>rfl
def NJ(p:D.Ins)(w n:Int):∃b,Ym p w n=some b/\XZ p w n=some b:=by
 obtain⟨wb,hw1,hw2⟩:=RQ w p.B;have hr:∀a,ZO a=some (decide (0<=a/\a<=3)):=by
  intro a;simp[ZO,Zd]
 have hr':∀a,YD a=some (decide (0<=a/\a<=3)):=by
  intro a;simp only[YD,Bool.decide_and];grind
 have hi:∀a b c,Zd a b c=some (decide (b<=a)&&decide (a<=c)):=by
  intro a b c;simp[Zd]
 have ht:∀a,Xo a=some (decide (3<=a)&&decide (a<=16)):=by
  intro a;simp[Xo]
 obtain⟨op,a,b,c⟩:=p;simp only at hw1 hw2;unfold Ym XZ;simp only[hr,hr',hi,ht,hw1,hw2,Cm,Ku];by_cases e1:op=1
 ·subst e1;grind
 by_cases e2:op=2
 ·subst e2;grind
 by_cases e3:op=3
 ·subst e3;grind
 by_cases e4:op=4
 ·subst e4;grind
 by_cases e5:op=5
 ·subst e5;grind
 by_cases e6:op=6
 ·subst e6;grind
 by_cases e7:op=7
 ·subst e7;grind
 by_cases e8:op=8
 ·subst e8;grind
 by_cases e9:op=9
 ·subst e9;grind
 by_cases e10:op=10
 ·subst e10;grind
 by_cases e11:op=11
 ·subst e11;grind
 by_cases e12:op=12
 ·subst e12;grind
 by_cases e13:op=13
 ·subst e13;grind
 by_cases e14:op=14
 ·subst e14;grind
 simp[e1,e2,e3,e4,e5,e6,e7,e8,e9,e10,e11,e12,e13,e14]
def insB(w n:Int)(p:D.Ins):Bool:=(Ym p w n).getD false
def Hu(w n:Int)(p:D.Ins):Ym p w n=some (insB w n p):=by
 obtain⟨b,h,-⟩:=NJ p w n;simp[insB,h]
def Gi(w n:Int)(p:D.Ins):XZ p w n=some (insB w n p):=by
 obtain⟨b,h,h'⟩:=NJ p w n;simp[insB,h,h']
def wordB(w v:Int):Bool:=(Zw w v).getD false
def Yq(w v:Int):Zw w v=some (wordB w v):=by
 obtain⟨b,h,-⟩:=RQ w v;simp[wordB,h]
def YB(w v:Int):Z0 w v=some (wordB w v):=by
 obtain⟨b,h,h'⟩:=RQ w v;simp[wordB,h,h']
def progB(x:D.Program):Bool:=
 decide (2<=x.W/\x.W<=8)&&decide (1<=x.Mem/\x.Mem<=6)&&wordB x.W x.Mem&&decide (0<=x.In/\x.In<=3)&&decide (1<=(x.Code.length:Int)/\(x.Code.length:Int)<=40)&&x.Code.all (insB x.W x.Code.length)
def PX{x:D.Program}(h:x.Code.length<=1048576):Xb fuel x=some (progB x):=by
 unfold Xb;have hi:∀a b c,Zd a b c=some (decide (b<=a/\a<=c)):=by
  intro a b c;simp[Zd]
 have hl:=SS (l:=x.Code) (f:=λp=>Ym p x.W (len x.Code)) (b:=insB x.W x.Code.length) (λp _=>Hu _ _ p) O x.Code.length 0 O fuel (WW h);rw[show((0:Nat):Int)=0 from rfl]at hl;simp only[hi,Yq,Cm,QK];rw[hl,Zb];unfold progB;simp only[BV];cases x.Code.all (insB x.W x.Code.length)<;>cases wordB x.W x.Mem<;>simp only[Cm,CF,Cy,Cn]<;>grind
def RL{x:D.Program}(h:x.Code.length<=1048576):YI fuel x=some (progB x):=by
 unfold YI;have hl:=SS (l:=x.Code) (f:=λp=>XZ p x.W (len x.Code)) (b:=insB x.W x.Code.length) (λp _=>Gi _ _ p) O x.Code.length 0 O fuel (WW h);rw[show((0:Nat):Int)=0 from rfl]at hl;simp only[Vq,YB,Cm,QK];rw[hl,Zb];unfold progB;simp only[BV];clear hl;by_cases a1:2<=x.W<;>by_cases a2:x.W<=8<;>by_cases a3:1<=(x.Code.length:Int)<;>by_cases a4:(x.Code.length:Int)<=40<;>simp only[ge_iff_le,a1,a2,a3,a4,decide_true,decide_false,Ad,Bool.and_false,Bi,Aj,AR,and_self,AZ,and_false]<;>
  cases x.Code.all (insB x.W x.Code.length)<;>cases wordB x.W x.Mem<;>simp only[Cm,CF,Cy,Cn,Bool.decide_and]<;>grind
def YG{σt ρt:Type}{B:σt->Option (σt⊕ρt)}{s:σt}{r:ρt}{n:Nat}(h:B s=some (.inr r))(hn:0<n):iterN B n s=some r:=by
 obtain⟨m,rfl⟩:∃m,n=m+1:=⟨n-1,by omega⟩;rw[iterN,h]
def WF(s:Str):Str.eqb s s=true:=by unfold Str.eqb;simp
theorem Oy{S ρ α σ:Type}{l:List α}{B:S->Option (S⊕ρ)}(enc:Nat->σ->S)(I:List α->σ->Prop)(R:ρ->Prop)
  (hs:∀k x xs a,k<l.length->l[k]? =some x->l.length=k+(x::xs).length->I (x::xs) a->(∃a',B (enc k a)=some (.inl (enc (k+1) a'))/\I xs a')\/∃r,B (enc k a)=some (.inr r)/\R r)
  (he:∀a,I [] a->∃r,B (enc l.length a)=some (.inr r)/\R r):
  ∀(ys:List α)(k:Nat)(a:σ)(n:Nat),l.drop k=ys->k<=l.length->I ys a->ys.length<n->∃r,iterN B n (enc k a)=some r/\R r
 | [],k,a,n,hd,hk,hI,hn=>by
  obtain⟨n,rfl⟩:∃j,n=j+1:=⟨n-1,by omega⟩;have:k=l.length:=by
   have:=congrArg List.length hd;simp at this;omega
  subst this;obtain⟨r,h1,h2⟩:=he a hI;exact⟨r,by unfold iterN;rw[h1],h2⟩
 | x::xs,k,a,n,hd,hk,hI,hn=>by
  obtain⟨n,rfl⟩:∃j,n=j+1:=⟨n-1,by omega⟩;have hl:l.length=k+(x::xs).length:=by
   have:=congrArg List.length hd;simp at this⊢;omega
  have hk':k<l.length:=by simp at hl;omega
  have hx:l[k]? =some x:=by
   have h0:(l.drop k)[0]? =some x:=by rw[hd];rfl
   rw[AO]at h0;simpa using h0
  rcases hs k x xs a hk' hx hl hI with⟨a',h1,h2⟩|⟨r,h1,h2⟩
  ·obtain⟨r,g1,g2⟩:=Oy enc I R hs he xs (k+1) a' n (by rw[<-Za9,hd];rfl) O h2 (by simp at hn;omega);exact⟨r,by unfold iterN;rw[h1];exact g1,g2⟩
  ·exact⟨r,by unfold iterN;rw[h1],h2⟩
def Yg{S ρ α σ:Type}{l:List α}{B:S->Option (S⊕ρ)}(enc:Nat->σ->S)(I:List α->σ->Prop)(R:ρ->Prop)
  (hs:∀k x xs a,k<l.length->l[k]? =some x->l.length=k+(x::xs).length->I (x::xs) a->(∃a',B (enc k a)=some (.inl (enc (k+1) a'))/\I xs a')\/∃r,B (enc k a)=some (.inr r)/\R r)
  (he:∀a,I [] a->∃r,B (enc l.length a)=some (.inr r)/\R r){a:σ}{n:Nat}(hI:I l a)(hn:l.length<n):∃r,iterN B n (enc 0 a)=some r/\R r:=
 Oy enc I R hs he l 0 a n rfl (BP _) hI hn
mutual
def msz:D.Term->Nat
 |⟨_,_,_,s,k⟩=>s.bytes.length+k.length+mszs k
def mszs:List D.Term->Nat
 |[]=>0
 |x::l=>msz x+mszs l
end
def Wd(t:D.Term):msz t=t.Name.bytes.length+t.Kids.length+mszs t.Kids:=by cases t;rw[msz]
def Y1(x:D.Term)(l:List D.Term):mszs (x::l)=msz x+mszs l:=by rw[mszs]
def UC:mszs []=0:=by rw[mszs]
theorem Wl{x:D.Term}:∀{l:List D.Term},x∈l->msz x<=mszs l
 |y::l,h=>by
  rw[Y1];rcases CW.1 h with rfl|h
  ·omega
  ·have:=Wl h;omega
def sml(l:List D.Term):Prop:=l.length+mszs l<=1048576
def smallP(x:D.Path):Prop:=sml x.Regs/\sml x.Mem/\x.Stack.length<=1048576/\sml x.Out/\sml x.Cond/\x.Turns.length<=1048576
set_option maxRecDepth 100000
mutual
def cnt:D.Term->Nat
 |⟨_,_,_,_,k⟩=>1+cnts k
def cnts:List D.Term->Nat
 |[]=>0
 |x::l=>cnt x+cnts l
end
def X3(t:D.Term):cnt t=1+cnts t.Kids:=by cases t;rw[cnt]
def WL(x:D.Term)(l:List D.Term):cnts (x::l)=cnt x+cnts l:=by rw[cnts]
def X7:cnts []=0:=by rw[cnts]
theorem UR{x:D.Term}:∀{l:List D.Term},x∈l->cnt x<=cnts l
 |y::l,h=>by
  rw[WL];rcases CW.1 h with rfl|h
  ·omega
  ·have:=UR h;omega
def lf(m:Int)(c:Nat):Int:=if m-c<0 then-1 else m-c
def okF(k:Nat):List UInt8->Bool
 |[]=>true
 |b::l=>(decide (97<=b.toNat/\b.toNat<=122)||(decide (k≠0)&&decide (48<=b.toNat/\b.toNat<=57)))&&okF (k+1) l
def Gm(k:Nat)(b:UInt8)(l:List UInt8):okF k (b::l)=((decide (97<=b.toNat/\b.toNat<=122)||(decide (k≠0)&&decide (48<=b.toNat/\b.toNat<=57)))&&okF (k+1) l):=rfl
def nameB(s:Str):Bool:=okF 0 s.bytes&&decide (1<=s.bytes.length/\s.bytes.length<=8)
def IE{s:Str}{k:Nat}{b:UInt8}(h:s.bytes[k]? =some b):sidx? s (k:Int)=some (b.toNat:Int):=by
 unfold sidx?;rw[ifp];simp[h]
def Y6(a b c:Int):Zd a b c=some (decide (b<=a/\a<=c)):=by simp[Zd]
def shB(op w m:Int)(name:Str)(ws:List Int):Bool:=
 if op=0 then ws.isEmpty&&wordB w m
 else if op=22 then ws.isEmpty&&nameB name
 else if 1<=op/\op<=2 then(match ws with|[a]=>a==w|_=>false)
 else if 3<=op/\op<=13 then(match ws with|[a,b]=>a==w&&b==w|_=>false)
 else if 14<=op/\op<=16 then(match ws with|[a,b]=>a==b&&w==1|_=>false)
 else if op=17 then(match ws with|[a,b,c]=>a==1&&b==w&&c==w|_=>false)
 else if op=18 then(match ws with|[a,b]=>a+b==w|_=>false)
 else if op=19 then(match ws with|[a]=>decide (0<=m/\m<=16)&&decide (m+w<=a)|_=>false)
 else if 20<=op/\op<=21 then(match ws with|[a]=>decide (a<=w)|_=>false)
 else false
def locB(t:D.Term):Bool:=
 decide (1<=t.W/\t.W<=16)&&(Str.eqb t.Name ⟨[]⟩||t.Op==22)&&(t.N==0||t.Op==0||t.Op==19)&&shB t.Op t.W t.N t.Name (t.Kids.map (·.W))
mutual
def nodeB:D.Term->Bool
 |⟨o,w,m,s,k⟩=>locB ⟨o,w,m,s,k⟩&&nodesB k
def nodesB:List D.Term->Bool
 |[]=>true
 |x::l=>nodeB x&&nodesB l
end
def Yo(t:D.Term):nodeB t=(locB t&&nodesB t.Kids):=by cases t;rw[nodeB]
theorem Zz:∀l:List D.Term,nodesB l=l.all nodeB
 |[]=>by rw[nodesB];rfl
 |x::l=>by rw[nodesB,Zz l];rfl
def YN{t:D.Term}(h:nodeB t=true):1<=t.W/\t.W<=16:=by
 rw[Yo]at h;unfold locB at h;simp only[Co,Cw]at h;exact h.1.1.1.1
theorem Hl:∀x:List UInt8,Op.bytesLess x x=false
 |[]=>rfl
 |a::x=>by simp[Op.bytesLess,Hl x]
theorem Nw:∀x y z:List UInt8,Op.bytesLess x y=true->Op.bytesLess y z=true->Op.bytesLess x z=true
 |_,_,[]=>by intro _ h;cases ‹List UInt8› <;>simp[Op.bytesLess]at h
 |_,[],_::_=>by intro h _;cases ‹List UInt8› <;>simp[Op.bytesLess]at h
 |[],_::_,_::_=>by intro _ _;rfl
 | a::x,b::y,c::z=>by
  intro h1 h2;simp only[Op.bytesLess,Bq,Cw,Co,Bl]at h1 h2⊢;rcases h1 with h1|⟨rfl,h1⟩
  ·rcases h2 with h2|⟨rfl,h2⟩
   ·exact .inl (UInt8.lt_trans h1 h2)
   ·exact .inl h1
  ·rcases h2 with h2|⟨rfl,h2⟩
   ·exact .inl h2
   ·exact .inr ⟨rfl,Nw x y z h1 h2⟩
theorem IC:∀x y:List UInt8,Op.bytesLess x y=false->x≠y->Op.bytesLess y x=true
 |[],[]=>λ_ h=>absurd rfl h
 |_::_,[]=>λ_ _=>rfl
 |[],_::_=>λh _=>by simp[Op.bytesLess]at h
 | a::x,b::y=>by
  intro h1 h2;simp only[Op.bytesLess,Bool.or_eq_false_iff,decide_eq_false_iff_not,Bq,Cw,Co,Bl]at h1⊢;by_cases e:a=b
  ·subst e;have:Op.bytesLess x y=false:=by simpa using h1.2
   exact .inr ⟨rfl,IC x y this (λh=>h2 (by rw[h]))⟩
  ·rcases UInt8.lt_or_lt_of_ne e with h|h
   ·exact absurd h h1.1
   ·exact .inl h
def toList_mk(l:List UInt8):(ByteArray.mk l.toArray).toList=l:=by
 exact(Lib.toList_data _)
def Nn(a b:Str):Str.ltb a b=Op.bytesLess a.bytes b.bytes:=by unfold Str.ltb;rw[toList_mk,toList_mk]
def Sq(a b:Str):Str.eqb a b=decide (a=b):=by
 unfold Str.eqb;rw[toList_mk,toList_mk];by_cases h:a=b
 ·subst h;simp
 ·have:a.bytes≠b.bytes:=λe=>h (by cases a;cases b;simpa using e);simp[h,this]
def Ht(a:Str):Str.ltb a a=false:=by rw[Nn];exact Hl _
def lt_trans{a b c:Str}(h1:Str.ltb a b=true)(h2:Str.ltb b c=true):Str.ltb a c=true:=by rw[Nn]at*;exact Nw _ _ _ h1 h2
def IM{a b:Str}(h1:Str.ltb a b=false)(h2:a≠b):Str.ltb b a=true:=by
 rw[Nn]at*;exact IC _ _ h1 λe=>h2 (by cases a;cases b;simpa using e)
mutual
def vrs:D.Term->List (Str×Int)
 |⟨o,w,_,s,k⟩=>if o=22 then[(s,w)]else vrss k
def vrss:List D.Term->List (Str×Int)
 |[]=>[]
 |x::l=>vrs x++vrss l
end
def Wv(t:D.Term):vrs t=if t.Op=22 then[(t.Name,t.W)]else vrss t.Kids:=by cases t;rw[vrs]
def ZL(x:D.Term)(l:List D.Term):vrss (x::l)=vrs x++vrss l:=by rw[vrss]
def Y5:vrss []=[]:=by rw[vrss]
def stp(g:List (Str×Int))(v:Str×Int):Option (List (Str×Int)):=
 match g.lookup v.1 with
 |some w=>if w=v.2 then some g else none
 |none=>some (v::g)
def runV(g:List (Str×Int)):List (Str×Int)->Option (List (Str×Int))
 |[]=>some g
 |v::l=>(stp g v).bind λg'=>runV g' l
theorem Gp(l m:List (Str×Int)):∀g,runV g (l++m)=(runV g l).bind λg'=>runV g' m:=by
 induction l with
 |nil=>intro g;rfl
 |cons v l ih=>
  intro g;simp only[List.cons_append,runV];cases stp g v with
  |none=>rfl
  |some g'=>simp only[Cm];exact ih g'
def Kn{g g':List (Str×Int)}{v:Str×Int}(h:stp g v=some g'):g'.length<=g.length+1:=by
 unfold stp at h;split at h
 ·split at h
  ·cases h;omega
  ·cases h
 ·cases h;simp
theorem NF:∀{l g g':List (Str×Int)},runV g l=some g'->g'.length<=g.length+l.length
 |[],g,g',h=>by simp only[runV,Option.some.injEq]at h;subst h;simp
 |v::l,g,g',h=>by
  simp only[runV,Bz]at h;obtain⟨g1,h1,h2⟩:=h;have:=Kn h1;have:=NF h2;simp only[Bp];omega
def Rel(l:List D.Value)(g:List (Str×Int)):Prop:=
 l.Pairwise (λa b=>Str.ltb a.Name b.Name=true)/\l.length=g.length/\(∀v∈l,g.lookup v.Name=some v.W)/\∀s w,g.lookup s=some w->∃v∈l,v.Name=s
def before(s:Str)(l:List D.Value):Nat:=(l.takeWhile λv=>Str.ltb v.Name s).length
def JJ(s:Str)(l:List D.Value):before s l<=l.length:=(List.takeWhile_sublist _).length_le
theorem Rs{s:Str}:∀{l:List D.Value}{i:Nat}{v:D.Value},i<before s l->l[i]? =some v->Str.ltb v.Name s=true
 |[],i,v,h,hv=>by simp at hv
 | x::l,i,v,h,hv=>by
  unfold before at h;rw[List.takeWhile_cons]at h;split at h
  ·cases i with
   |zero=>simp at hv;subst hv;assumption
   |succ i=>exact Rs (l:=l) (i:=i) (by unfold before;simpa using h) (by simpa using hv)
  ·simp at h
theorem RY{s:Str}:∀{l:List D.Value}{v:D.Value},l[before s l]? =some v->Str.ltb v.Name s=false
 |[],v,hv=>by simp at hv
 | x::l,v,hv=>by
  unfold before at hv;rw[List.takeWhile_cons]at hv;by_cases h:Str.ltb x.Name s=true
  ·rw[Cr h]at hv;exact RY (l:=l) (by unfold before;simpa using hv)
  ·rw[Cu h]at hv;simp at hv;subst hv;simpa using h
theorem Rel.none{l:List D.Value}{g:List (Str×Int)}{s:Str}(h:Rel l g)(hn:∀v,l[before s l]? =some v->v.Name≠s):g.lookup s=none:=by
 cases e:g.lookup s with
 |none=>rfl
 | some w=>
  exfalso;obtain⟨v,hv,rfl⟩:=h.2.2.2 s w e;obtain⟨j,hj⟩:=Aq.1 hv;rcases Zau j (before v.Name l)with h1|h1|h1
  ·have:=Rs h1 hj;rw[Ht]at this;cases this
  ·rw[h1]at hj;exact hn v hj rfl
  ·obtain⟨hj',e2⟩:=CG.1 hj;have hu:l[before v.Name l]? =some l[before v.Name l]:=Cv O;have h2:=RY hu;have h3:=Af.1 h.1 _ _ O hj' h1;rw[e2]at h3;rw[h2]at h3;cases h3
def Rel.put{l:List D.Value}{g:List (Str×Int)}{s:Str}{w:Int}(h:Rel l g)(hn:∀v,l[before s l]? =some v->v.Name≠s):Rel (l.take (before s l)++[⟨s,w,0⟩]++l.drop (before s l)) ((s,w)::g):=by
 have hno:=h.none hn;have hb:=JJ s l;have hlt:∀v∈l.take (before s l),Str.ltb v.Name s=true:=λv hv=>by
  obtain⟨j,hj⟩:=Aq.1 hv;rw[BG]at hj;split at hj
  ·exact Rs (by assumption) hj
  ·cases hj
 have hgt:∀v∈l.drop (before s l),Str.ltb s v.Name=true:=λv hv=>by
  obtain⟨j,hj⟩:=Aq.1 hv;rw[AO]at hj;obtain⟨hj',e2⟩:=CG.1 hj;have hu:l[before s l]? =some l[before s l]:=Cv O;have h1:=IM (RY hu) (hn _ hu);rcases Nat.eq_zero_or_pos j with rfl|hp
  ·simp only[Nat.add_zero]at e2;rw[<-e2];exact h1
  ·have h3:=Af.1 h.1 _ _ O hj' (show before s l<before s l+j by omega);rw[e2]at h3;exact lt_trans h1 h3
 have hmem:∀v,v∈l.take (before s l)++[⟨s,w,0⟩]++l.drop (before s l)↔v=⟨s,w,0⟩\/v∈l:=λv=>by
  have:v∈l↔v∈l.take (before s l)\/v∈l.drop (before s l):=by
   rw[<-CQ,Am]
  simp only[CQ,CB,this];grind
 have hp:(l.take (before s l)++l.drop (before s l)).Pairwise (λa b=>Str.ltb a.Name b.Name=true):=by rw[Am];exact h.1
 rw[Az]at hp;refine⟨?_,?_,λv hv=>?_,λs' w' hs=>?_⟩
 ·rw[Bo,Az];refine⟨hp.1,?_,λa ha b hb=>?_⟩
  ·rw[BR,AQ];exact⟨λb hb=>hgt b hb,hp.2.1⟩
  ·rw[BR]at hb;rcases CW.1 hb with rfl|hb
   ·exact hlt a ha
   ·exact hp.2.2 a ha b hb
 ·have:=h.2.1;simp;omega
 ·rcases(hmem v).1 hv with rfl|hv
  ·simp
  ·have h1:=h.2.2.1 v hv;have:v.Name≠s:=λe=>by rw[e,hno]at h1;cases h1
   rw[CO];have:(v.Name==s)=false:=by simpa using this
   rw[this];exact h1
 ·rw[CO]at hs;by_cases e:s'=s
  ·exact⟨_,(hmem _).2 (.inl rfl),e.symm⟩
  ·have:(s'==s)=false:=by simpa using e
   rw[this]at hs;obtain⟨v,h1,h2⟩:=h.2.2.2 s' w' hs;exact⟨v,(hmem _).2 (.inr h1),h2⟩
theorem FR:∀n:Nat,(∀t:D.Term,msz t<n->(vrs t).length<=cnt t)/\∀l:List D.Term,l.length+mszs l<n->(vrss l).length<=cnts l:=by
 intro n
 induction n with
 |zero=>exact⟨λ_ h=>by omega,λ_ h=>by omega⟩
 | succ n ih=>
  have hT:∀t:D.Term,msz t<n+1->(∀l:List D.Term,l.length+mszs l<n+1->(vrss l).length<=cnts l)->(vrs t).length<=cnt t:=λt h hl=>by
   have:=Wd t;rw[Wv,X3];split
   ·simp
   ·have:=hl t.Kids O;omega
  have hL:∀l:List D.Term,l.length+mszs l<n+1->(vrss l).length<=cnts l:=λl h=>by
   cases l with
   |nil=>rw[Y5,X7];simp
   |cons x l=>
    rw[Y1]at h;simp only[Bp]at h;rw[ZL,WL,Ba];have h1:=ih.1 x O;have h2:=ih.2 l O;omega
  exact⟨λt h=>hT t h hL,hL⟩
def LF(t:D.Term):(vrs t).length<=cnt t:=(FR (msz t+1)).1 t O
def termB(t:D.Term):Bool:=decide (cnt t<=240)&&nodeB t&&(runV [] (vrs t)).isSome
def RD{n:Nat}{s:Str}(hl:s.bytes.length<=1048576)(hn:s.bytes.length<n):YO n s=some (nameB s):=by
 unfold YO;by_cases hlen:1<=s.bytes.length/\s.bytes.length<=8
 ·rw [Cu ah]
  obtain⟨r,g1,g2⟩:=Yg (l:=s.bytes) (n:=n) (σ:=Unit) (ρ:=Unit⊕Bool) (B:=λ(s1:Int)=>if(decide (s1<(len s.bytes)))then(sidx? s s1).bind λx1=>(if(decide (x1>=97))then(sidx? s s1)else some default).bind λx2=>(sidx? s s1).bind λx3=>(if(decide (x3>=48))then(sidx? s s1)else some default).bind λx4=>if((!((decide (x1>=97))&&(decide (x2<=122))))&&(!(((decide (x3>=48))&&(decide (x4<=57)))&&(decide (s1>0)))))then some (.inr (.inr false))else some (.inl ((w64 (s1+1))))else some (.inr (.inl ()))) (λk _=>(k:Int)) (λys _=>okF (s.bytes.length-ys.length) ys=okF 0 s.bytes) (λr=>r=if okF 0 s.bytes then(.inl ():Unit⊕Bool)else .inr false)
   (λk x xs a hk' hx hlen hi=>by
    have e1:s.bytes.length-(x::xs).length=k:=by omega
    have e2:s.bytes.length-xs.length=k+1:=by simp at hlen;omega
    rw[e1]at hi;rw[e2];have hb:=x.toNat_lt;rw[<-hi];simp only[IE hx,Cm];rw[Cr ah,Zf];have hd:∀c:Bool,∃y:Int,(if c=true then(some (x.toNat:Int))else some default)=some y/\(c=true->y=x.toNat):=λc=>by
     cases c
     ·exact⟨_,rfl,λh=>by cases h⟩
     ·exact⟨_,rfl,λ_=>rfl⟩
    obtain⟨y2,h2,i2⟩:=hd (decide ((x.toNat:Int)>=97));obtain⟨y4,h4,i4⟩:=hd (decide ((x.toNat:Int)>=48));rw[h2,h4];simp only[Cm];have j2:(decide ((x.toNat:Int)>=97)&&decide (y2<=122))=decide (97<=x.toNat/\x.toNat<=122):=by
     by_cases c:(x.toNat:Int)>=97
     ·rw[i2 ao,Aa];simp only[Co,Cw];omega
     ·rw[Aa];simp only[Co,Cw];omega
    have j4:(decide ((x.toNat:Int)>=48)&&decide (y4<=57))=decide (48<=x.toNat/\x.toNat<=57):=by
     by_cases c:(x.toNat:Int)>=48
     ·rw[i4 ao,Aa];simp only[Co,Cw];omega
     ·rw[Aa];simp only[Co,Cw];omega
    rw[j2,j4,Gm];by_cases c1:97<=x.toNat/\x.toNat<=122
    ·exact .inl ⟨(),by simp[c1],by simp[c1]⟩
    ·by_cases c3:48<=x.toNat/\x.toNat<=57
     ·by_cases c2:k=0
      ·subst c2;exact .inr ⟨.inr false,by simp[c1,c3],by simp[c1]⟩
      ·have:(0:Int)<(k:Int):=by omega
       exact .inl ⟨(),by simp[c1,c3,this,c2],by simp[c1,c2,c3]⟩
     ·exact .inr ⟨.inr false,by simp[c1,c3],by simp[c1,c3]⟩)
   (λa hi=>by
    rw[Cu aF];refine⟨_,rfl,?_⟩
    rw[<-hi];simp[okF]) (a:=()) U hn
  rw[show((0:Nat):Int)=0 from rfl]at g1;rw[g1,g2];unfold nameB;rw[decide_eq_true hlen];cases okF 0 s.bytes<;>rfl
 ·rw[Cr ah];unfold nameB;rw[decide_eq_false hlen];simp
def kc(o:Int):Int:=(Yw o).getD 0
def DC(o:Int):Yw o=some (kc o):=by
 unfold kc;have:∃k,Yw o=some k:=by
  unfold Yw;split
  ·exact⟨_,rfl⟩
  ·split
   ·exact⟨_,rfl⟩
   ·split
    ·exact⟨_,rfl⟩
    ·split
     ·exact⟨_,rfl⟩
     ·exact⟨_,rfl⟩
 obtain⟨k,h⟩:=this;rw[h];rfl
def NI(w:Int):Zp w=some (decide (1<=w/\w<=16)):=by simp[Zp]
def Ep{t:D.Term}(hw:1<=t.W/\t.W<=16)(hk:∀x∈t.Kids,1<=x.W/\x.W<=16)(hl:(t.Kids.length:Int)=kc t.Op):
  ∃f,XB t=some f/\shB t.Op t.W t.N t.Name (t.Kids.map (·.W))=(f&&(t.Op !=0||wordB t.W t.N)&&(t.Op !=22||nameB t.Name)):=by
 obtain⟨op,w,m,nm,ks⟩:=t;simp only at hw hk hl⊢;unfold XB shB;simp only;have g0:∀(x:D.Term)(l:List D.Term),get? (x::l) 0=some x:=λ_ _=>rfl;have g1:∀(x y:D.Term)(l:List D.Term),get? (x::y::l) 1=some y:=λ_ _ _=>rfl;have g2:∀(x y z:D.Term)(l:List D.Term),get? (x::y::z::l) 2=some z:=λ_ _ _ _=>rfl;have l0:ks.length=0->ks=[]:=λh=>BF.1 h;have l1:ks.length=1->∃a,ks=[a]:=λh=>List.length_eq_one_iff.1 h;have l2:ks.length=2->∃a b,ks=[a,b]:=λh=>by
  rcases ks with _|⟨a,_|⟨b,_|⟨c,l⟩⟩⟩<;>simp at h;exact⟨_,_,rfl⟩
 have l3:ks.length=3->∃a b c,ks=[a,b,c]:=λh=>by
  rcases ks with _|⟨a,_|⟨b,_|⟨c,_|⟨d,l⟩⟩⟩⟩<;>simp at h;exact⟨_,_,_,rfl⟩
 unfold kc Yw at hl;by_cases o0:op=0
 ·subst o0;obtain rfl:=l0 (by simp at hl;simp[hl]);exact⟨true,by simp,by simp⟩
 by_cases o1:op=22
 ·subst o1;obtain rfl:=l0 (by simp at hl;simp[hl]);exact⟨true,by simp,by simp⟩
 have q0:(op !=0)=true:=by simpa using o0
 have q1:(op !=22)=true:=by simpa using o1
 by_cases o2:1<=op/\op<=2
 ·have:op=1\/op=2:=by omega
  obtain⟨a,rfl⟩:=l1 ax;refine⟨a.W==w,?_,?_⟩
  ·rcases this with rfl|rfl<;>simp[g0]
  ·simp[o0,o1,o2,q0,q1]
 by_cases o3:3<=op/\op<=13
 ·obtain⟨a,b,rfl⟩:=l2 (by
   have h1:¬(op=1):=by omega
   have h2:¬(op=2):=by omega
   have h3:¬(op=19):=by omega
   have h4:¬(op=20):=by omega
   have h5:¬(op=21):=by omega
   have h6:3<=op/\op<=16:=by omega
   simp[o0,o1,h1,h2,h3,h4,h5,h6]at hl;omega)
  refine⟨a.W==w&&b.W==w,?_,?_⟩
  ·have h1:¬(op=1):=by omega
   have h2:¬(op=2):=by omega
   by_cases c:a.W=w
   ·simp[g0,g1,o0,o1,h1,h2,o3,c]
   ·have c':(a.W==w)=false:=by simpa using c
    simp[g0,g1,o0,o1,h1,h2,o3,c,c']
  ·simp[o0,o1,o2,o3,q0,q1]
 by_cases o4:14<=op/\op<=16
 ·obtain⟨a,b,rfl⟩:=l2 (by
   have h1:¬(op=1):=by omega
   have h2:¬(op=2):=by omega
   have h3:¬(op=19):=by omega
   have h4:¬(op=20):=by omega
   have h5:¬(op=21):=by omega
   have h6:3<=op/\op<=16:=by omega
   simp[o0,o1,h1,h2,h3,h4,h5,h6]at hl;omega)
  refine⟨a.W==b.W&&w==1,?_,?_⟩
  ·have h1:¬(op=1):=by omega
   have h2:¬(op=2):=by omega
   simp[g0,g1,o0,o1,h1,h2,o3,o4]
  ·simp[o0,o1,o2,o3,o4,q0,q1]
 by_cases o5:op=17
 ·subst o5;obtain⟨a,b,c,rfl⟩:=l3 (by simp at hl;omega);refine⟨a.W==1&&b.W==w&&c.W==w,?_,?_⟩
  ·by_cases c1:a.W=1
   ·by_cases c2:b.W=w
    ·simp[g0,g1,g2,c1,c2]
    ·have c2':(b.W==w)=false:=by simpa using c2
     simp[g0,g1,g2,c1,c2,c2']
   ·have c1':(a.W==1)=false:=by simpa using c1
    simp[g0,g1,g2,c1,c1']
  ·simp
 by_cases o6:op=18
 ·subst o6;obtain⟨a,b,rfl⟩:=l2 (by simp at hl;omega);have ha:=hk a U;have hb:=hk b U;have e18:w64 (a.W+b.W)=a.W+b.W:=Zf;exact⟨a.W+b.W==w,by simp[g0,g1,e18],by simp⟩
 by_cases o7:op=19
 ·subst o7;obtain⟨a,rfl⟩:=l1 (by simp at hl;omega);have ha:=hk a U;have e19:w64 (a.W-w)=a.W-w:=Zf;refine⟨decide (0<=m)&&decide (m<=a.W-w),?_,?_⟩
  ·by_cases c:0<=m
   ·simp[g0,e19,c]
   ·simp[g0,e19,c]
  ·simp only[Bn,Ai];rw[Aa];simp;omega
 by_cases o8:20<=op/\op<=21
 ·have:op=20\/op=21:=by omega
  obtain⟨a,rfl⟩:=l1 ax;refine⟨decide (a.W<=w),?_,?_⟩
  ·rcases this with rfl|rfl<;>simp[g0]
  ·rcases this with rfl|rfl<;>simp
 exfalso;have h1:¬(op=1):=by omega
 have h2:¬(op=2):=by omega
 have h4:¬(op=20):=by omega
 have h5:¬(op=21):=by omega
 have h6:¬(3<=op/\op<=16):=by omega
 simp[o0,o1,h1,h2,o7,h4,h5,h6,o6,o5]at hl
def Ez{t:D.Term}(hl:¬(t.Kids.length:Int)=kc t.Op):shB t.Op t.W t.N t.Name (t.Kids.map (·.W))=false:=by
 obtain⟨op,w,m,nm,ks⟩:=t;simp only at hl⊢;unfold shB;unfold kc Yw at hl;have hks:ks=[]\/(∃a:D.Term,ks=[a])\/(∃a b:D.Term,ks=[a,b])\/(∃a b c:D.Term,ks=[a,b,c])\/∃(a b c d:D.Term)(l:List D.Term),ks=a::b::c::d::l:=by
  rcases ks with _|⟨a,_|⟨b,_|⟨c,_|⟨d,l⟩⟩⟩⟩
  ·exact .inl rfl
  ·exact .inr (.inl ⟨a,rfl⟩)
  ·exact .inr (.inr (.inl ⟨a,b,rfl⟩))
  ·exact .inr (.inr (.inr (.inl ⟨a,b,c,rfl⟩)))
  ·exact .inr (.inr (.inr (.inr ⟨a,b,c,d,l,rfl⟩)))
 by_cases o0:op=0
 ·subst o0;rcases hks with rfl|⟨a,rfl⟩|⟨a,b,rfl⟩|⟨a,b,c,rfl⟩|⟨a,b,c,d,l,rfl⟩<;>simp at hl⊢
 by_cases o1:op=22
 ·subst o1;rcases hks with rfl|⟨a,rfl⟩|⟨a,b,rfl⟩|⟨a,b,c,rfl⟩|⟨a,b,c,d,l,rfl⟩<;>simp at hl⊢
 by_cases o2:1<=op/\op<=2
 ·have:op=1\/op=2:=by omega
  rcases this with rfl|rfl<;>rcases hks with rfl|⟨a,rfl⟩|⟨a,b,rfl⟩|⟨a,b,c,rfl⟩|⟨a,b,c,d,l,rfl⟩<;>simp at hl⊢
 have h1:¬(op=1):=by omega
 have h2:¬(op=2):=by omega
 by_cases o3:3<=op/\op<=13
 ·have h3:¬(op=19):=by omega
  have h4:¬(op=20):=by omega
  have h5:¬(op=21):=by omega
  have h6:3<=op/\op<=16:=by omega
  simp[o0,o1,h1,h2,h3,h4,h5,h6]at hl;rcases hks with rfl|⟨a,rfl⟩|⟨a,b,rfl⟩|⟨a,b,c,rfl⟩|⟨a,b,c,d,l,rfl⟩<;>simp[o0,o1,o2,o3]at hl⊢
 by_cases o4:14<=op/\op<=16
 ·have h3:¬(op=19):=by omega
  have h4:¬(op=20):=by omega
  have h5:¬(op=21):=by omega
  have h6:3<=op/\op<=16:=by omega
  simp[o0,o1,h1,h2,h3,h4,h5,h6]at hl;rcases hks with rfl|⟨a,rfl⟩|⟨a,b,rfl⟩|⟨a,b,c,rfl⟩|⟨a,b,c,d,l,rfl⟩<;>simp[o0,o1,o2,o3,o4]at hl⊢
 by_cases o5:op=17
 ·subst o5;rcases hks with rfl|⟨a,rfl⟩|⟨a,b,rfl⟩|⟨a,b,c,rfl⟩|⟨a,b,c,d,l,rfl⟩<;>simp at hl⊢
 by_cases o6:op=18
 ·subst o6;rcases hks with rfl|⟨a,rfl⟩|⟨a,b,rfl⟩|⟨a,b,c,rfl⟩|⟨a,b,c,d,l,rfl⟩<;>simp at hl⊢
 by_cases o7:op=19
 ·subst o7;rcases hks with rfl|⟨a,rfl⟩|⟨a,b,rfl⟩|⟨a,b,c,rfl⟩|⟨a,b,c,d,l,rfl⟩<;>simp at hl⊢
 by_cases o8:20<=op/\op<=21
 ·have:op=20\/op=21:=by omega
  rcases this with rfl|rfl<;>rcases hks with rfl|⟨a,rfl⟩|⟨a,b,rfl⟩|⟨a,b,c,rfl⟩|⟨a,b,c,d,l,rfl⟩<;>simp at hl⊢
 simp[o0,o1,o2,o3,o4,o5,o6,o7,o8]
abbrev tab(m:Option (List (Str×Int))):List (Str×Int):=m.getD []
def get2{g:List (Str×Int)}{s:Str}(hs:s.bytes.length<=1048576):mget2? fitS (0:Int) g s=some ((g.lookup s).getD 0,(g.lookup s).isSome):=by
 unfold mget2?;rw[Cr (by unfold fitS;simp;omega)]
def put1{g:List (Str×Int)}{s:Str}{w:Int}(hs:s.bytes.length<=1048576)(hw:1<=w/\w<=16)(hg:g.length<=1000):mputE? fitS fitZ g s w=some ((s,w)::g):=by
 unfold mputE?;rw[Cr ⟨by unfold fitS;simp;omega,by unfold fitZ;simp[Lit.wf];exact⟨by show(-9223372036854775808:Int)<=w;omega,by omega⟩,by unfold room;omega⟩]
theorem Gg{n:Nat}{c:D.termCheck}{t:D.Term}(hs:t.Name.bytes.length<=1048576)(hn:1048580<=n)(hw:1<=t.W/\t.W<=16)(hg:(tab c.widths).length<=1000):
  ∃b m,Yc n c t=some (b,⟨c.count,m⟩)/\(b=true->nameB t.Name=true/\stp (tab c.widths) (t.Name,t.W)=some (tab m))/\(b=false->nameB t.Name=false\/stp (tab c.widths) (t.Name,t.W)=none):=by
 obtain⟨cc,ww⟩:=c;unfold Yc;rw[RD hs O];simp only[Cm];cases hb:nameB t.Name
 ·exact⟨false,ww,rfl,λh=>aj,λ_=>.inl rfl⟩
 ·simp only[Cz,Cn,Cy];cases ww with
  |none=>
   simp only[Option.isNone_none,CF];rw[get2 hs];simp only[Cm,List.lookup_nil,Zaq,Cn,Cy];rw[put1 hs hw U];exact⟨true,_,rfl,λ_=>⟨trivial,rfl⟩,λh=>aj⟩
  | some g=>
   simp only[Option.isNone_some,Cn,Cy,Bh];rw[get2 hs];simp only[Cm];unfold stp;simp only[tab,Bh]at hg⊢;cases hl:g.lookup t.Name with
   |some w=>
    simp only[Option.isSome_some,CF,Bh];refine⟨_,_,rfl,λh=>⟨trivial,?_⟩,λh=>.inr ?_⟩
    ·rw[Cr (by simpa using h)];rfl
    ·rw[Cu (by simpa using h)]
   |none=>
    simp only[Zaq,Cn,Cy];rw[put1 hs hw hg];exact⟨true,_,rfl,λ_=>⟨trivial,rfl⟩,λh=>aj⟩
theorem PY {n:Nat}{ks:List D.Term}{c0:Int}{w0:Option (List (Str×Int))}(hn:1048580<=n)(hks:ks.length<=1048576)(hc:0<=c0)(hc':c0<=240)(hg:(tab w0).length<=c0)
    (ih:∀x∈ks,∀c:D.termCheck,c0<=c.count->c.count<=240->(tab c.widths).length<=c.count->∃b c',Zr n c x=some (b,c')/\(b=true->c.count+cnt x<=240/\nodeB x=true/\c'.count=c.count+cnt x/\runV (tab c.widths) (vrs x)=some (tab c'.widths))/\(b=false->¬(c.count+cnt x<=240/\nodeB x=true/\(runV (tab c.widths) (vrs x)).isSome=true))):
    ∃ r,iterN (λ(s2:Int×Int×(Option (List (Str×Int))))=>if (decide (s2.1<(len ks)))then(get? ks s2.1).bind λx7=>(Zr n (D.termCheck.mk s2.2.1 s2.2.2) x7).bind λx8=>if(!x8.1)then some (.inr (.inr (false,x8.2)))else some (.inl ((w64 (s2.1+1)),x8.2.count,x8.2.widths))else some (.inr (.inl (s2.2.1,s2.2.2)))) n (0,c0,w0)=some (r:(Int×(Option (List (Str×Int))))⊕(Bool×D.termCheck))/\
      ((∃cc ww,r= .inl (cc,ww)/\cc=c0+cnts ks/\cc<=240/\nodesB ks=true/\runV (tab w0) (vrss ks)=some (tab ww))\/∃c',r= .inr (false,c')/\¬(c0+cnts ks<=240/\nodesB ks=true/\(runV (tab w0) (vrss ks)).isSome=true)):=by
  have hrl:=LF
  exact Yg (l:=ks) (n:=n) (σ:=Int×(Option (List (Str×Int)))) (ρ:=(Int×(Option (List (Str×Int))))⊕(Bool×D.termCheck)) (B:=λ(s2:Int×Int×(Option (List (Str×Int))))=>if (decide (s2.1<(len ks)))then(get? ks s2.1).bind λx7=>(Zr n (D.termCheck.mk s2.2.1 s2.2.2) x7).bind λx8=>if(!x8.1)then some (.inr (.inr (false,x8.2)))else some (.inl ((w64 (s2.1+1)),x8.2.count,x8.2.widths))else some (.inr (.inl (s2.2.1,s2.2.2)))) (λk a=>((k:Int),a.1,a.2))
      (λys a=>c0<=a.1/\a.1<=240/\(tab a.2).length<=a.1/\a.1+cnts ys=c0+cnts ks/\nodesB ys=nodesB ks/\runV (tab a.2) (vrss ys)=runV (tab w0) (vrss ks)/\∀x∈ys,x∈ks) _
      (λk x xs a hk' hx hlen⟨i0,i1,i2,i3,i4,i5,i6⟩=>by
        obtain⟨ac,aw⟩:=a;simp only at i0 i1 i2 i3 i5;rw[WL]at i3;rw[Zz,BQ,<-Zz]at i4;rw[ZL,Gp]at i5;have hd:decide ((k:Int)<len ks)=true:=by rw[Zb];simp;omega
        obtain⟨b,c',e1,e2,e3⟩:=ih x (i6 x U) ⟨ac,aw⟩ i0 i1 i2;simp only[hd,CF,get?_nat,hx,Cm,e1];cases b with
        | false=>
          refine .inr ⟨_,rfl,.inr ⟨c',rfl,λ⟨h1,h2,h3⟩=>e3 rfl ⟨?_,?_,?_⟩⟩⟩
          · simp only;omega
          · rw[<-i4,Co]at h2;exact h2.1
          · rw[<-i5]at h3
            simp only;cases hq:runV (tab aw) (vrs x)with
            |none=>rw[hq]at h3;cases h3
            |some _=>rfl
        | true=>
          obtain⟨h1,h2,h3,h4⟩:=e2 rfl;simp only at h1 h3 h4;refine .inl ⟨(c'.count,c'.widths),by simp only[Cz,Cn,Cy];rw[Zf];rfl,by simp only;omega,by simp only;omega,?_,by simp only;omega,by rw[<-i4,h2,Bi],?_,λy hy=>i6 y aq⟩
          · have:=NF h4
            have:=hrl x;simp only;omega
          · rw[h4]at i5;exact i5)
      (λa⟨i0,i1,i2,i3,i4,i5,i6⟩=>by
        obtain⟨ac,aw⟩:=a;have hd:decide ((ks.length:Int)<len ks)=false:=by rw[Zb];simp
        simp only[hd,Cn,Cy];rw[X7]at i3;rw[Y5]at i5;refine⟨_,rfl,.inl ⟨ac,aw,rfl,by simp only at i3;omega,i1,?_,i5.symm⟩⟩
        rw[<-i4,Zz];rfl) (a:=(c0,w0)) ⟨by simp only;omega,hc',hg,rfl,rfl,rfl,λx hx=>hx⟩ O
def wsB(ks:List D.Term):Bool:=ks.all λx=>decide (1<=x.W/\x.W<=16)
def Db{ks:List D.Term}(h:nodesB ks=true):wsB ks=true:=by
 rw[Zz,Cs]at h;unfold wsB;rw[Cs];exact λx hx=>decide_eq_true (YN (h x hx))
def MR{n:Nat}{ks:List D.Term}{v:Bool×D.termCheck}(hn:ks.length<n)(hk:ks.length<=1048576):iterN (λ(s1:Int)=>if(decide (s1<(len ks)))then(get? ks s1).bind λx3=>(Zp x3.W).bind λx4=>if(!x4)then some (.inr (.inr v))else some (.inl ((w64 (s1+1))))else some (.inr (.inl ()))) n (0)=some (if wsB ks=true then(.inl ():Unit⊕(Bool×D.termCheck))else .inr v):=by
 obtain⟨r,g1,g2⟩:=Yg (l:=ks) (n:=n) (σ:=Unit) (ρ:=Unit⊕(Bool×D.termCheck)) (B:=λ(s1:Int)=>if(decide (s1<(len ks)))then(get? ks s1).bind λx3=>(Zp x3.W).bind λx4=>if(!x4)then some (.inr (.inr v))else some (.inl ((w64 (s1+1))))else some (.inr (.inl ()))) (λk _=>(k:Int)) (λys _=>wsB ys=wsB ks) (λr=>r=if wsB ks=true then(.inl ():Unit⊕(Bool×D.termCheck))else .inr v)
  (λk x xs a hk' hx hlen hi=>by
   have hd:decide ((k:Int)<len ks)=true:=by rw[Zb];simp;omega
   simp only[hd,CF,get?_nat,hx,Cm,NI];have e:wsB (x::xs)=(decide (1<=x.W/\x.W<=16)&&wsB xs):=rfl;rw[e]at hi;by_cases c:1<=x.W/\x.W<=16
   ·rw[decide_eq_true c,Bi]at hi;exact .inl ⟨(),by rw[decide_eq_true c,ifn,Zf];rfl,hi⟩
   ·rw[decide_eq_false c,Aj]at hi
    exact .inr ⟨_,by rw[decide_eq_false c,ifp],by rw[<-hi];rfl⟩)
  (λa hi=>by
   have hd:decide ((ks.length:Int)<len ks)=false:=by rw[Zb];simp
   simp only[hd,Cn,Cy]
   exact⟨_,rfl,by rw[<-hi];rfl⟩) (a:=()) rfl hn
 rw[show((0:Nat):Int)=0 from rfl]at g1;rw[g1,g2]
theorem KW:∀(n:Nat)(t:D.Term)(c:D.termCheck),msz t<=1048576->0<=c.count->c.count<=240->(tab c.widths).length<=c.count->1048580+(241-c.count)<=(n:Int)->∃b c',Zr n c t=some (b,c')/\
   (b=true->c.count+cnt t<=240/\nodeB t=true/\c'.count=c.count+cnt t/\runV (tab c.widths) (vrs t)=some (tab c'.widths))/\(b=false->¬(c.count+cnt t<=240/\nodeB t=true/\(runV (tab c.widths) (vrs t)).isSome=true)):=by
 intro n
 induction n with
 |zero=>intro t c _ _ _ _ _;omega
 | succ n ih=>
  intro t c hs h0 h1 hg hn;have hz:=Wd t;have hc:=X3 t;have hb:=Yo t;have bad:nodeB t=false->¬(c.count+cnt t<=240/\nodeB t=true/\(runV (tab c.widths) (vrs t)).isSome=true):=λh⟨_,h2,_⟩=>by rw[h]at h2;cases h2
  unfold Zr;rw[Zf];by_cases hC:c.count+1>240
  ·simp only[hC,decide_true,CF,Cm,Za3];exact⟨false,_,rfl,λh=>aj,λ_⟨h,_,_⟩=>by omega⟩
  simp only[hC,decide_false,Cn,Cy,NI t.W,Cm,CY];by_cases hw:1<=t.W/\t.W<=16;rotate_left
  ·simp only[hw,decide_false,AY,CF,Cm,Za3];exact⟨false,_,rfl,λh=>aj,λ_=>bad (by rw[hb];unfold locB;rw[decide_eq_false hw];simp)⟩
  simp only[hw,decide_true,Cz,Cn,Cy,Cm,CY,and_self,DC];by_cases hl:(t.Kids.length:Int)=kc t.Op;rotate_left
  ·have:(len t.Kids !=kc t.Op)=true:=by rw[Zb];simpa using hl
   rw[Cr this];exact⟨false,_,rfl,λh=>aj,λ_=>bad (by rw[hb];unfold locB;rw[Ez hl];simp)⟩
  have hl':¬(len t.Kids !=kc t.Op)=true:=by rw[Zb];simpa using hl
  rw[Cu hl',MR O O];simp only[Cm];by_cases hk:wsB t.Kids=true;rotate_left
  ·rw[Cu hk];refine⟨false,_,rfl,λh=>aj,λ_=>bad ?_⟩;rw[hb];cases h:nodesB t.Kids
   ·simp
   ·exact absurd (Db h) hk
  rw[Cr hk];have hkw:∀x∈t.Kids,1<=x.W/\x.W<=16:=λx hx=>by
   unfold wsB at hk;rw[Cs]at hk;exact of_decide_eq_true (hk x hx)
  obtain⟨f,hf1,hf2⟩:=Ep hw hkw hl;have hloc:locB t=((Str.eqb t.Name ⟨[]⟩||t.Op==22)&&(t.N==0||t.Op==0||t.Op==19)&&(f&&(t.Op !=0||wordB t.W t.N)&&(t.Op !=22||nameB t.Name))):=by
   unfold locB;rw[hf2,decide_eq_true hw,Bi]
  simp only[hf1,Cm];cases f with
  |false=>
   exact⟨false,_,rfl,λh=>aj,λ_=>bad (by rw[hb,hloc];simp)⟩
  |true=>
  simp only[Cz,Cn,Cy,YB];have hx6:∃x6,(if(t.Op==0)=true then some (wordB t.W t.N)else some default)=some x6/\(t.Op=0->x6=wordB t.W t.N):=by
   by_cases o:t.Op=0
   ·exact⟨_,Cr (by simpa using o),λ_=>rfl⟩
   ·exact⟨_,Cu (by simpa using o),λh=>absurd h o⟩
  obtain⟨x6,h6,h6'⟩:=hx6;rw[h6];simp only[Cm];by_cases c6:(t.Op==0&& !x6)=true
  ·rw[Cr c6];simp only[Co,Bl,BO]at c6;refine⟨false,_,rfl,λh=>aj,λ_=>bad ?_⟩;rw[hb,hloc,<-h6' c6.1,c6.2,c6.1];simp
  rw[Cu c6];have d6:(t.Op !=0||wordB t.W t.N)=true:=by
   by_cases o:t.Op=0
   ·rw[<-h6' o,o];simp[o]at c6;simp[c6]
   ·simp[o]
  by_cases c7:(t.Op !=0&&t.Op !=19&&t.N !=0)=true
  ·rw[Cr c7];simp only[Co,bne_iff_ne,ne_eq]at c7;refine⟨false,_,rfl,λh=>aj,λ_=>bad ?_⟩;rw[hb,hloc];have:(t.N==0||t.Op==0||t.Op==19)=false:=by simp[c7]
   rw[this];simp
  rw[Cu c7];have d7:(t.N==0||t.Op==0||t.Op==19)=true:=by
   simp only[Co,bne_iff_ne,ne_eq]at c7;by_cases a1:t.N=0<;>by_cases a2:t.Op=0<;>by_cases a3:t.Op=19<;>simp[a1,a2,a3]at c7⊢
  rw[d6,d7]at hloc;simp only[Bi,Ad]at hloc;have ih':∀x∈t.Kids,∀c1:D.termCheck,c.count+1<=c1.count->c1.count<=240->(tab c1.widths).length<=c1.count->∃b c',Zr n c1 x=some (b,c')/\
   (b=true->c1.count+cnt x<=240/\nodeB x=true/\c'.count=c1.count+cnt x/\runV (tab c1.widths) (vrs x)=some (tab c'.widths))/\(b=false->¬(c1.count+cnt x<=240/\nodeB x=true/\(runV (tab c1.widths) (vrs x)).isSome=true)):=λx hx c1 k1 k2 k3=>by
   have:=Wl hx;exact ih x c1 O O k2 k3 O
  by_cases ho:t.Op=22
  ·rw [Cu (by simp[ho])]
   have hv:vrs t=[(t.Name,t.W)]:=by rw[Wv,Cr ho]
   have hrun:runV (tab c.widths) (vrs t)=stp (tab c.widths) (t.Name,t.W):=by
    rw[hv];simp only[runV];cases stp (tab c.widths) (t.Name,t.W)<;>rfl
   have hks:t.Kids=[]:=by
    rw[ho]at hl;exact BF.1 (by have:kc 22=0:=rfl;omega)
   obtain⟨b,m,e1,e2,e3⟩:=Gg (n:=n) (c:=⟨c.count+1,c.widths⟩) (t:=t) O O hw (by simp only;omega);rw[e1];simp only[Cm];rw[ho]at hloc;cases b with
   | false=>
    refine⟨false,_,rfl,λh=>aj,λ_=>?_⟩;rcases e3 rfl with e3|e3
    ·exact bad (by rw[hb,hloc,e3];simp)
    ·rw[hrun];simp only at e3;rw[e3];exact λ⟨_,_,h⟩=>by cases h
   | true=>
    obtain⟨e4,e5⟩:=e2 rfl;simp only at e5;have hml:(tab m).length<=c.count+1:=by have:=Kn e5;omega
    obtain⟨r,g1,g2⟩:=PY (n:=n) (ks:=t.Kids) (c0:=c.count+1) (w0:=m) O O O O hml ih';rw[hks,X7,Y5]at g2;have hcn:cnts t.Kids=0:=by rw[hks,X7]
    have hnb:nodesB t.Kids=true:=by rw[hks,Zz];rfl
    simp only[Cz,Cn,Cy];rw[g1];rcases g2 with⟨cc,ww,rfl,k1,k2,k3,k4⟩|⟨c',rfl,k1⟩
    ·refine⟨true,⟨cc,ww⟩,rfl,λ_=>⟨by omega, ?_,by simp only;omega, ?_⟩,λh=>aj⟩
     ·rw[hb,hloc,e4,hnb];simp
     ·rw[hrun,e5];simp only[runV,Option.some.injEq]at k4;rw[k4]
    ·exfalso;apply k1;refine⟨by omega,by rw[Zz];rfl,rfl⟩
  ·rw[Cr (by simp[ho])];have hv:vrs t=vrss t.Kids:=by rw[Wv,Cu ho]
   by_cases c8:Str.eqb t.Name ⟨[]⟩=true;rotate_left
   ·rw[Cr (by simpa using c8)];refine⟨false,_,rfl,λh=>aj,λ_=>bad ?_⟩;rw[hb,hloc];simp[c8,ho]
   rw[Cu (by simp[c8])];have hloc':locB t=true:=by rw[hloc,c8];simp[ho]
   obtain⟨r,g1,g2⟩:=PY (n:=n) (ks:=t.Kids) (c0:=c.count+1) (w0:=c.widths) O O O O O ih';rw[g1,hv,hb,hloc'];simp only[Bi];rcases g2 with⟨cc,ww,rfl,k1,k2,k3,k4⟩|⟨c',rfl,k1⟩
   ·exact⟨true,⟨cc,ww⟩,rfl,λ_=>⟨by omega,k3,by simp only;omega,k4⟩,λh=>aj⟩
   ·exact⟨false,c',rfl,λh=>aj,λ_⟨h1,h2,h3⟩=>k1 ⟨by omega,h2,h3⟩⟩
theorem Tn{t:D.Term}(h:msz t<=1048576):YP fuel t=some (termB t):=by
 unfold YP;obtain⟨b,c',e1,e2,e3⟩:=KW fuel t ⟨0,none⟩ h U U (by simp[tab]) (by unfold fuel;simp);rw[e1];simp only[Cm,Option.some.injEq];unfold termB;simp only[tab,Option.getD_none]at e2 e3;cases b with
 |true=>
  obtain⟨h1,h2,-,h3⟩:=e2 rfl;rw[h2,h3,decide_eq_true O];rfl
 | false=>
  have:=e3 rfl;cases hb:nodeB t
  ·simp
  ·cases hr:(runV [] (vrs t)).isSome
   ·simp
   ·have:¬cnt t<=240:=λhc=>this ⟨by omega,hb,hr⟩;simp[this]
def Tg{α:Type}{l:List α}{b:α->Bool}(G:α->Int->Option (Int⊕(Unit⊕Bool)))(hG:∀(k:Nat)(x:α),l[k]? =some x->G x k=if b x=true then some (.inl (w64 ((k:Int)+1)))else some (.inr (.inr false)))(hb:l.length<=1048576){n:Nat}(hn:l.length<n):
  iterN (λ(s1:Int)=>if(decide (s1<(len l)))then(get? l s1).bind λx1=>G x1 s1 else some (.inr (.inl ()))) n 0=some (if l.all b=true then(.inl ():Unit⊕Bool)else .inr false):=by
 obtain⟨r,g1,g2⟩:=Yg (l:=l) (n:=n) (σ:=Unit) (ρ:=Unit⊕Bool) (B:=λ(s1:Int)=>if(decide (s1<(len l)))then(get? l s1).bind λx1=>G x1 s1 else some (.inr (.inl ())))
  (λk _=>(k:Int)) (λys _=>ys.all b=l.all b) (λr=>r=if l.all b=true then(.inl ():Unit⊕Bool)else .inr false)
  (λk x xs a hk' hx hlen hi=>by
   have hd:decide ((k:Int)<len l)=true:=by rw[Zb];simp;omega
   simp only[hd,CF,get?_nat,hx,Cm];rw[hG k x hx];rw[BQ]at hi;cases c:b x
   ·rw[c,Aj]at hi;exact .inr ⟨_,rfl,by rw[<-hi];rfl⟩
   ·rw[c,Bi]at hi
    exact .inl ⟨(),by rw[Zf];rfl,hi⟩)
  (λa hi=>by
   have hd:decide ((l.length:Int)<len l)=false:=by rw[Zb];simp
   simp only[hd,Cn,Cy]
   exact⟨_,rfl,by rw[<-hi];rfl⟩) (a:=()) rfl hn
 rw[show((0:Nat):Int)=0 from rfl]at g1;rw[g1,g2]
def tsB(l:List D.Term)(w:Int):Bool:=l.all λt=>termB t&&t.W==w
def OV{l:List D.Term}(h:sml l){x:D.Term}(hx:x∈l):msz x<=1048576:=by
 have:=Wl hx;unfold sml at h;omega
def Kg{l:List D.Term}(h:sml l):l.length<=1048576:=by unfold sml at h;omega
def Un{l:List D.Term}{w:Int}(h:sml l):YS fuel w l=some (tsB l w):=by
 unfold YS
 have hl:=Tg (l:=l) (b:=λt=>termB t&&t.W==w) (λx1 s1=>(if(x1.W !=w)then some default else(get? l s1)).bind λx2=>(if(x1.W !=w)then some default else(YP fuel x2)).bind λx3=>if((x1.W !=w)||(!x3))then some (.inr (.inr false))else some (.inl ((w64 (s1+1))))) (λk x hx=>by
  have ht:=Tn (OV h (CV hx));by_cases c:x.W=w
  ·simp only[c,bne_self_eq_false,Cn,Cy,get?_nat,hx,Cm,ht,CY];cases termB x<;>simp
  ·have c':(x.W !=w)=true:=by simpa using c
   have c2:(x.W==w)=false:=by simpa using c
   simp[c',c2]) (Kg h) (WW (Kg h))
 rw[hl];unfold tsB;cases l.all (λt=>termB t&&t.W==w)<;>rfl
def Pe{l:List Int}(h:l.length<=1048576):XH fuel l=some (l.all λx=>decide (0<=x/\x<=1)):=by
 unfold XH
 have hl:=Tg (l:=l) (b:=λx=>decide (0<=x/\x<=1)) (λx1 s1=>if((x1 !=0)&&(x1 !=1))then some (.inr (.inr false))else some (.inl ((w64 (s1+1))))) (λk x hx=>by
  by_cases c:0<=x/\x<=1
  ·have:x=0\/x=1:=by omega
   rcases this with rfl|rfl<;>simp
  ·have h1:(x !=0)=true:=by simp;omega
   have h2:(x !=1)=true:=by simp;omega
   rw[h1,h2,decide_eq_false c];rfl) h (WW h)
 rw[hl];cases l.all (λx=>decide (0<=x/\x<=1))<;>rfl
def pathB(p:D.Program)(s:D.Path):Bool:=
 progB p&&decide (0<=s.Pc/\s.Pc<=len p.Code)&&(len s.Regs==4)&&(len s.Mem==p.Mem)&&decide (len s.Stack<=3)&&decide (0<=s.In/\s.In<=p.In)&&decide (len s.Out<=6)&&decide (0<=s.Code/\s.Code<=9)&&decide (0<=s.Steps/\s.Steps<=400)&&decide (len s.Cond<=60)&&decide (len s.Turns<=60)&&
 (s.Stack.all λx=>decide (0<=x/\x<=len p.Code))&&(s.Turns.all λx=>decide (0<=x/\x<=1))&&tsB s.Regs p.W&&tsB s.Mem p.W&&tsB s.Out p.W&&tsB s.Cond 1
def Ox{p:D.Program}{s:D.Path}(hp:p.Code.length<=1048576)(hs:smallP s):Wi fuel p s=some (pathB p s):=by
 obtain⟨s1,s2,s3,s4,s5,s6⟩:=hs;have hpl:∀x,Xi p x=some (decide (0<=x/\x<=len p.Code)):=λx=>by simp[Xi]
 have hfu:∀x,YR x=some (decide (0<=x/\x<=400)):=λx=>by simp[YR]
 unfold Wi;have l1:=SS (l:=s.Stack) (f:=λx=>Xi p x) (b:=λx=>decide (0<=x/\x<=len p.Code)) (λx _=>hpl _) O s.Stack.length 0 O fuel (WW s3);rw[show((0:Nat):Int)=0 from rfl,BV]at l1;rw[l1];simp only[RL hp,hpl,hfu,Pe s6,Cm,QK,Ku,Un s1,Un s2,Un s4,Un s5];unfold pathB;cases progB p
 ·simp
 by_cases a2:0<=s.Pc/\s.Pc<=len p.Code;rotate_left
 ·simp[a2]
 by_cases a3:len s.Regs=4;rotate_left
 ·simp[a2,a3]
 by_cases a4:len s.Mem=p.Mem;rotate_left
 ·simp[a2,a3,a4]
 by_cases a5:len s.Stack<=3;rotate_left
 ·have:len s.Stack>3:=by omega
  simp[a2,a3,a4,a5,this]
 by_cases a6:0<=s.In/\s.In<=p.In;rotate_left
 ·have:s.In<0\/s.In>p.In:=by omega
  rcases this with h|h<;>simp[a2,a3,a4,a5,a6,Zag.2 a5,h]
 by_cases a7:len s.Out<=6;rotate_left
 ·have:len s.Out>6:=by omega
  simp[a2,a3,a4,a5,a6,a7,Zag.2 a5,this]
 have c6:¬s.In<0:=by omega
 have c6':¬s.In>p.In:=by omega
 simp only[a2,a3,a4,a5,a6,a7,c6,c6',gt_iff_lt,Zag.2 a5,Zag.2 a7,Zag.2 a6.2,decide_true,decide_false,Cz,Bool.or_false,Ar,Cn,Cy,bne_self_eq_false,BB,Bi,Ad,AR,and_self];cases hst:s.Stack.all (λx=>decide (0<=x/\x<=len p.Code))
 ·simp
 simp only[CF];by_cases a8:0<=s.Code/\s.Code<=9;rotate_left
 ·have:s.Code<0\/9<s.Code:=by omega
  rcases this with h|h<;>simp[a8,h]
 have c8:¬s.Code<0:=by omega
 have c8':¬9<s.Code:=by omega
 by_cases a9:0<=s.Steps/\s.Steps<=400;rotate_left
 ·simp[a8,a9,c8,c8']
 by_cases b1:len s.Cond<=60;rotate_left
 ·have:60<len s.Cond:=by omega
  simp[a8,a9,b1,c8,c8',this]
 by_cases b2:len s.Turns<=60;rotate_left
 ·have:60<len s.Turns:=by omega
  simp[a8,a9,b1,b2,c8,c8',this]
 simp only[a8,a9,b1,b2,c8,c8',Zag.2 b1,Zag.2 b2,decide_true,decide_false,Cz,Bool.or_false,CY,Ar,Cn,Cy,Bi,Ad,AR,and_self];cases s.Turns.all (λx=>decide (0<=x/\x<=1))
 ·simp
 cases tsB s.Regs p.W<;>cases tsB s.Mem p.W<;>cases tsB s.Out p.W<;>cases tsB s.Cond 1<;>rfl
def Ov(w v:Int):∃b,Z6 w v=some b/\Yn w v=some b:=by
 unfold Z6 Yn Zd Zp;by_cases h:1<=w/\w<=16
 ·obtain⟨m,h1,h2,h3⟩:=KI h.1 h.2;exact⟨band v (w64 (m-1)),by simp[h.1,h.2,h1],by simp[h.1,h.2,h2]⟩
 ·refine⟨-1, ?_, ?_⟩
  ·by_cases a:1<=w
   ·have b:¬w<=16:=λb=>h ⟨a,b⟩;simp[a,b]
   ·simp[a]
  ·by_cases a:1<=w
   ·have b:¬w<=16:=λb=>h ⟨a,b⟩;simp[a,b]
   ·simp[a]
def wordOf(w v:Int):Int:=(Z6 w v).getD 0
def ZF(w v:Int):Z6 w v=some (wordOf w v):=by
 obtain⟨b,h,-⟩:=Ov w v;simp[wordOf,h]
def Xf(w v:Int):Yn w v=some (wordOf w v):=by
 obtain⟨b,h,h'⟩:=Ov w v;simp[wordOf,h,h']
def Qi{w:Int}(h1:1<=w)(h2:w<=16):w=1\/w=2\/w=3\/w=4\/w=5\/w=6\/w=7\/w=8\/w=9\/w=10\/w=11\/w=12\/w=13\/w=14\/w=15\/w=16:=by omega
def WQ{w:Int}(h1:1<=w)(h2:w<=16):shl? 1 w=some (2^w.toNat)/\shl? 1 (IntKind.u64.wrap w)=some (2^w.toNat)/\w64 ((2:Int)^w.toNat-1)=2^w.toNat-1/\(2:Int)<=2^w.toNat/\(2:Int)^w.toNat<=65536:=by
 rcases Qi h1 h2 with rfl|rfl|rfl|rfl|rfl|rfl|rfl|rfl|rfl|rfl|rfl|rfl|rfl|rfl|rfl|rfl<;>exact⟨rfl,rfl,by decide,by decide,by decide⟩
def Zv{w:Int}(h1:1<=w)(h2:w<=16)(v:Int):wordB w v=true↔0<=v/\v<2^w.toNat:=by
 obtain⟨a1,a2,a3,a4,a5⟩:=WQ h1 h2;have hs:=Yq w v;unfold Zw Zd at hs;have e:(decide (w>=1)&&decide (w<=16))=true:=by simp;omega
 simp only[e,Cm]at hs;by_cases hv:0<=v
 ·simp only[hv,decide_true,CF,a1,Cm]at hs;rw[a3]at hs;simp at hs;rw[<-hs];simp[hv];omega
 ·simp[hv,a1]at hs;rw[hs];simp;omega
def Zh{w v:Int}(h:wordB w v=true):1<=w/\w<=16:=by
 have hs:=Yq w v;rw[h]at hs;unfold Zw Zd at hs;by_cases a:1<=w
 ·by_cases b:w<=16
  ·exact⟨a,b⟩
  ·have e:(decide (w>=1)&&decide (w<=16))=false:=by simp[b]
   simp only[e,Cm]at hs;simp at hs
 ·have e:(decide (w>=1)&&decide (w<=16))=false:=by simp[a]
  simp only[e,Cm]at hs;simp at hs
def Sz{w v:Int}(h:wordB w v=true):0<=v/\v<65536:=by
 obtain⟨a,b⟩:=Zh h;obtain⟨_,_,_,_,h5⟩:=WQ a b;have:=(Zv a b v).1 h;omega
def Qb{x:Int}(h1:0<=x)(h2:x<=100000):IntKind.u64.wrap x=x:=by
 have:IntKind.u64.wrap x=x%18446744073709551616:=by simp[IntKind.wrap,IntKind.bits,IntKind.signed]
 rw[this];omega
def TH(x:Int){y:Int}(h:0<=y):shr? x y=some (x.fdiv (2^min y.toNat 64)):=by unfold shr?;rw[ifn]
def OL(x:Int){y:Int}(h:0<=y):shl? x y=some (w64 (x*2^min y.toNat 64)):=by unfold shl?;rw[ifn]
theorem Qj(w v:Int):∃r,Yd w v=some r/\Yx w v=some r:=by
 unfold Yd Yx;rw[Yq,YB];simp only[Cm];cases hb:wordB w v with
 |false=>exact⟨0,rfl,rfl⟩
 | true=>
  obtain⟨h1,h2⟩:=Zh hb;obtain⟨a1,a2,a3,a4,a5⟩:=WQ h1 h2;obtain⟨c1,c2⟩:=(Zv h1 h2 v).1 hb;have e1:w64 (w-1)=w-1:=Zf;have hsh:v.fdiv (2^min (w-1).toNat 64)=0\/v.fdiv (2^min (w-1).toNat 64)=1:=by
   have e2:min (w-1).toNat 64=(w-1).toNat:=by omega
   rw[e2,Zam _ (Int.pow_nonneg ag)];have e3:(2:Int)^w.toNat=2*2^(w-1).toNat:=by
    have:w.toNat=(w-1).toNat+1:=by omega
    rw[this,Int.pow_succ];omega
   have hp:(0:Int)<2^(w-1).toNat:=ZaF ag;rw[e3]at c2;by_cases hlt:v<2^(w-1).toNat
   ·left;exact Int.ediv_eq_zero_of_lt c1 hlt
   ·right;have g1:1<=v/2^(w-1).toNat:=Int.le_ediv_of_mul_le hp O;have g2:v/2^(w-1).toNat<2:=Int.ediv_lt_of_lt_mul hp O;omega
  simp only[Cz,Cn,Cy,e1,Qb (show 0<=w-1 by omega) (show w-1<=100000 by omega),TH v (show 0<=w-1 by omega),Cm,a1,a2];rcases hsh with e|e
  ·rw[e];exact⟨v,by simp,by simp⟩
  ·rw[e];exact⟨w64 (v-2^w.toNat),by simp,by simp⟩
def signedOf(w v:Int):Int:=(Yd w v).getD 0
def Va(w v:Int):Yd w v=some (signedOf w v):=by
 obtain⟨b,h,-⟩:=Qj w v;simp[signedOf,h]
def Qn(w v:Int):Yx w v=some (signedOf w v):=by
 obtain⟨b,h,h'⟩:=Qj w v;simp[signedOf,h,h']
def QY(b:Bool):YW b=some (if b then 1 else 0)/\Xr b=some (if b then 1 else 0):=by
 cases b<;>exact⟨rfl,rfl⟩
theorem YK(op w a b:Int):∃r,Z9 op w a b=some r/\ZA op w a b=some r:=by
 unfold Z9 ZA;simp only[Yq,YB,ZF,Xf,Cm];cases ha:wordB w a with
 |false=>exact⟨-1,rfl,rfl⟩
 | true=>
  simp only[Cz,Cn,Cy,Cm,CY];cases hb:wordB w b with
  |false=>exact⟨-1,rfl,rfl⟩
  | true=>
   obtain⟨h1,h2⟩:=Zh ha;obtain⟨a1,a2,a3,a4,a5⟩:=WQ h1 h2;obtain⟨c1,c2⟩:=Sz ha;obtain⟨d1,d2⟩:=Sz hb;have hquo:b≠0->quo? a b=some (w64 (a.tdiv b)):=λh=>by unfold quo?;rw[Cu h]
   have hrem:b≠0->rem? a b=some (a.tmod b):=λh=>by unfold rem?;rw[Cu h]
   have hw1:w64 (w-1)=w-1:=Zf;simp only[Cz,Cn,Cy,Wp,ZF,Xf,Va,Qn,(QY _).1,(QY _).2,Cm,a1,a2,hw1];by_cases e3:op=3
   ·subst e3;exact⟨_,rfl,rfl⟩
   by_cases e4:op=4
   ·subst e4;exact⟨_,rfl,rfl⟩
   by_cases e5:op=5
   ·subst e5;exact⟨_,rfl,rfl⟩
   by_cases e6:op=6
   ·subst e6;by_cases z:b=0
    ·subst z;exact⟨_,rfl,rfl⟩
    ·refine⟨w64 (a.tdiv b),?_,?_⟩<;>simp[z,hquo z]
   by_cases e7:op=7
   ·subst e7;by_cases z:b=0
    ·subst z;exact⟨_,rfl,rfl⟩
    ·refine⟨a.tmod b,?_,?_⟩<;>simp[z,hrem z]
   by_cases e8:op=8
   ·subst e8;exact⟨_,rfl,rfl⟩
   by_cases e9:op=9
   ·subst e9;exact⟨_,rfl,rfl⟩
   by_cases e10:op=10
   ·subst e10;exact⟨_,rfl,rfl⟩
   by_cases e11:op=11
   ·subst e11;by_cases z:b>=w
    ·refine⟨0,?_,?_⟩<;>simp[z]
    ·have hb':=Qb d1 O;refine⟨wordOf w (w64 (a*2^min b.toNat 64)),?_,?_⟩<;>simp[z,hb',OL a d1,ZF,Xf]
   by_cases e12:op=12
   ·subst e12;by_cases z:b>=w
    ·refine⟨0,?_,?_⟩<;>simp[z]
    ·have hb':=Qb d1 O;refine⟨a.fdiv (2^min b.toNat 64),?_,?_⟩<;>simp[z,hb',TH a d1]
   by_cases e13:op=13
   ·subst e13;have hmin:imin b (w-1)=(bif decide (b>=w)then w-1 else b):=by
     unfold imin;by_cases z:b>=w
     ·rw[ifp];simp[z]
     ·rw[ifn];simp[z]
    rw[hmin];have hq:0<=(bif decide (b>=w)then w-1 else b)/\(bif decide (b>=w)then w-1 else b)<=1000:=by
     by_cases z:b>=w
     ·simp[z];omega
     ·simp[z];omega
    generalize (bif decide (b>=w)then w-1 else b)=y at hq⊢;rw[Qb hq.1 O,TH _ hq.1];refine⟨wordOf w ((signedOf w a).fdiv (2^min y.toNat 64)),?_,?_⟩<;>simp[ZF,Xf]
   by_cases e14:op=14
   ·subst e14;exact⟨_,rfl,rfl⟩
   by_cases e15:op=15
   ·subst e15;exact⟨_,rfl,rfl⟩
   by_cases e16:op=16
   ·subst e16;exact⟨_,rfl,rfl⟩
   refine⟨-1,?_,?_⟩<;>simp[e3,e4,e5,e6,e7,e8,e9,e10,e11,e12,e13,e14,e15,e16]
theorem WU(op w a:Int):∃r,ZY op w a=some r/\ZZ op w a=some r:=by
 unfold ZY ZZ;simp only[Yq,YB,ZF,Xf,Cm];cases ha:wordB w a with
 |false=>exact⟨-1,rfl,rfl⟩
 |true=>
  obtain⟨h1,h2⟩:=Zh ha;obtain⟨a1,a2,a3,a4,a5⟩:=WQ h1 h2;simp only[a1,a2,Cm];by_cases e1:op=1
  ·subst e1;exact⟨_,rfl,rfl⟩
  by_cases e2:op=2
  ·subst e2;exact⟨_,rfl,rfl⟩
  exact⟨-1,by simp[e1,e2],by simp[e1,e2]⟩
theorem Uo(w a v b:Int):∃r,X0 w a v b=some r/\XA w a v b=some r:=by
 unfold X0 XA;simp only[Yq,YB,Cm];cases ha:wordB w a with
 |false=>exact⟨-1,rfl,rfl⟩
 | true=>
  simp only[Cz,Cn,Cy,Cm,CY];cases hb:wordB v b with
  |false=>exact⟨-1,rfl,rfl⟩
  |true=>
   obtain⟨h1,h2⟩:=Zh hb;rw[Qb (show 0<=v by omega) O];simp only[OL a (show 0<=v by omega),Cm];by_cases c:w64 (w+v)>16
   ·exact⟨-1,by simp[c],by simp[c]⟩
   ·exact⟨w64 (w64 (a*2^min v.toNat 64)+b),by simp[c],by simp[c]⟩
theorem Us(w a n:Int)(s:Bool):∃r,X9 w a n s=some r/\Yz w a n s=some r:=by
 unfold X9 Yz;simp only[Yq,YB,ZF,Xf,Va,Qn,Cm];cases ha:wordB w a with
 |false=>exact⟨-1,rfl,rfl⟩
 | true=>
  obtain⟨h1,h2⟩:=Zh ha;have hi:Zp n=some (decide (1<=n/\n<=16)):=by simp[Zp]
  simp only[Cz,Cn,Cy,Cm,CY,hi];by_cases c1:n<w
  ·exact⟨-1,by simp[c1],by simp[c1]⟩
  ·by_cases c2:n<=16
   ·have c3:1<=n/\n<=16:=by omega
    have c4:¬n>16:=by omega
    cases s
    ·exact⟨a,by simp[c1,c4],by simp[c1,c3]⟩
    ·exact⟨wordOf n (signedOf w a),by simp[c1,c4,ZF],by simp[c1,c3,Xf]⟩
   ·have c3:¬(1<=n/\n<=16):=by omega
    have c4:n>16:=by omega
    exact⟨-1,by simp[c4],by simp[c3]⟩
theorem TL{w a l n:Int}(hl:0<=l/\l<=100)(hn:-100<=n/\n<=100):∃r,WC w a l n=some r/\Wy w a l n=some r:=by
 unfold WC Wy;simp only[Yq,YB,ZF,Xf,Cm];cases ha:wordB w a with
 |false=>exact⟨-1,rfl,rfl⟩
 | true=>
  obtain⟨h1,h2⟩:=Zh ha;have e1:w64 (w-n)=w-n:=Zf;have e2:w64 (w-l)=w-l:=Zf;simp only[Cz,CY,e1,e2];have hl0:¬l<0:=by omega
  by_cases c1:n<1
  ·exact⟨-1,by simp[c1],by simp[c1]⟩
  ·by_cases c2:n>w-l
   ·have:n>w\/l>w-n:=by omega
    refine⟨-1,?_,by simp[c2]⟩;rcases this with h|h<;>simp[h]
   ·have c3:¬n>w:=by omega
    have c4:¬l>w-n:=by omega
    obtain⟨a1,a2,a3,_⟩:=WQ (w:=n) O O;have hw:∀x,wordOf n x=band x (w64 (2^n.toNat-1)):=λx=>by
     have hs:=ZF n x;unfold Z6 Zd at hs;have e:(decide (n>=1)&&decide (n<=16))=true:=by simp;omega
     simp only[e,Cm,Cz,Cn,Cy,a1,Option.some.injEq]at hs;exact hs.symm
    refine⟨wordOf n (a.fdiv (2^min l.toNat 64)),?_,?_⟩
    ·simp[hl0,c1,c3,c4,TH a hl.1,ZF]
    ·simp only[hl0,c1,c2,decide_false,Ar,Cn,Cy,Qb hl.1 O,TH a hl.1,a2,Cm,hw]
def fnd(v:List D.Value)(s:Str):Option D.Value:=v.find? λx=>decide (x.Name=s)
def okV(v:List D.Value)(p:Str×Int):Bool:=match fnd v p.1 with|some x=>decide (x.W=p.2)|none=>false
def JA{n:Nat}{v:List D.Value}{s:Str}(hn:v.length<n)(hv:v.length<=1048576):(fnd v s=none/\Vs n v s=some (-1))\/∃(k:Nat)(x:D.Value),fnd v s=some x/\v[k]? =some x/\Vs n v s=some (k:Int):=by
 unfold Vs;obtain⟨r,g1,g2⟩:=Yg (l:=v) (n:=n) (σ:=Unit) (ρ:=Unit⊕Int) (B:=λ(s1:Int)=>if(decide (s1<(len v)))then(get? v s1).bind λx1=>if(Str.eqb x1.Name s)then some (.inr (.inr s1))else some (.inl ((w64 (s1+1))))else some (.inr (.inl ()))) (λk _=>(k:Int)) (λys _=>fnd ys s=fnd v s) (λr=>(fnd v s=none/\r= .inl ())\/∃(k:Nat)(x:D.Value),fnd v s=some x/\v[k]? =some x/\r= .inr (k:Int))
  (λk x xs a hk' hx hlen hi=>by
   have hd:decide ((k:Int)<len v)=true:=by rw[Zb];simp;omega
   simp only[hd,CF,get?_nat,hx,Cm,Sq];have hf:fnd (x::xs) s=if x.Name=s then some x else fnd xs s:=by
    unfold fnd;by_cases e:x.Name=s<;>simp[List.find?_cons,e]
   rw[hf]at hi;by_cases e:x.Name=s
   ·rw[Cr e]at hi;exact .inr ⟨_,by rw[Cr ap],.inr ⟨k,x,hi.symm,hx,rfl⟩⟩
   ·rw[Cu e]at hi
    exact .inl ⟨(),by rw[Cu ap,Zf];rfl,hi⟩)
  (λa hi=>by
   have hd:decide ((v.length:Int)<len v)=false:=by rw[Zb];simp
   simp only[hd,Cn,Cy]
   exact⟨_,rfl,.inl ⟨by rw[<-hi];rfl,rfl⟩⟩) (a:=()) rfl hn
 rw[show((0:Nat):Int)=0 from rfl]at g1;rw[g1];rcases g2 with⟨h1,rfl⟩|⟨k,x,h1,h2,rfl⟩
 ·exact .inl ⟨h1,rfl⟩
 ·exact .inr ⟨k,x,h1,h2,rfl⟩
def EnvOf(v:List D.Value)(env:List (Str×Int)):Prop:=∀s,env.lookup s=(fnd v s).map (·.N)
def geto{g:List (Str×Int)}{s:Str}(hs:s.bytes.length<=1048576):mgeto? fitS (0:Int) (some g) s=some ((g.lookup s).getD 0):=by
 unfold mgeto? mget?;rw[Cr (by unfold fitS;simp;omega)];rfl
def Wu{α:Type}{l m:List α}(h:l.length+m.length<=1048576):app? l m=some (l++m):=by
 unfold app?;rw[Cr aD]
def get0(x:D.Term)(l:List D.Term):get? (x::l) 0=some x:=rfl
def get1(x y:D.Term)(l:List D.Term):get? (x::y::l) 1=some y:=rfl
def get2'(x y z:D.Term)(l:List D.Term):get? (x::y::z::l) 2=some z:=rfl
def geti0(x:Int)(l:List Int):get? (x::l) 0=some x:=rfl
def geti1(x y:Int)(l:List Int):get? (x::y::l) 1=some y:=rfl
def geti2(x y z:Int)(l:List Int):get? (x::y::z::l) 2=some z:=rfl
def VY{t:D.Term}(h:locB t=true):(t.Op=0/\t.Kids=[])\/(t.Op=22/\t.Kids=[])\/((t.Op=1\/t.Op=2)/\∃a,t.Kids=[a]/\a.W=t.W)\/(3<=t.Op/\t.Op<=16/\∃a b,t.Kids=[a,b]/\a.W=b.W)\/(t.Op=17/\∃a b c,t.Kids=[a,b,c])\/(t.Op=18/\∃a b,t.Kids=[a,b])\/(t.Op=19/\0<=t.N/\t.N<=16/\∃a,t.Kids=[a])\/((t.Op=20\/t.Op=21)/\∃a,t.Kids=[a]):=by
 unfold locB at h;simp only[Co]at h;have h:=h.2;unfold shB at h;by_cases o0:t.Op=0
 ·rw[Cr o0]at h;simp only[Co,Zad,AC]at h;exact .inl ⟨o0,h.1⟩
 rw[Cu o0]at h;by_cases o1:t.Op=22
 ·rw[Cr o1]at h;simp only[Co,Zad,AC]at h;exact .inr (.inl ⟨o1,h.1⟩)
 rw[Cu o1]at h;have k1:∀f:Int->Bool,(match t.Kids.map (·.W)with|[a]=>f a|_=>false)=true->∃a,t.Kids=[a]/\f a.W=true:=λf h=>by
  rcases hk:t.Kids with _|⟨a,_|⟨b,l⟩⟩<;>rw[hk]at h<;>simp at h;exact⟨a,rfl,h⟩
 have k2:∀f:Int->Int->Bool,(match t.Kids.map (·.W)with|[a,b]=>f a b|_=>false)=true->∃a b,t.Kids=[a,b]/\f a.W b.W=true:=λf h=>by
  rcases hk:t.Kids with _|⟨a,_|⟨b,_|⟨c,l⟩⟩⟩<;>rw[hk]at h<;>simp at h;exact⟨a,b,rfl,h⟩
 have k3:∀f:Int->Int->Int->Bool,(match t.Kids.map (·.W)with|[a,b,c]=>f a b c|_=>false)=true->∃a b c,t.Kids=[a,b,c]/\f a.W b.W c.W=true:=λf h=>by
  rcases hk:t.Kids with _|⟨a,_|⟨b,_|⟨c,_|⟨d,l⟩⟩⟩⟩<;>rw[hk]at h<;>simp at h;exact⟨a,b,c,rfl,h⟩
 by_cases o2:1<=t.Op/\t.Op<=2
 ·rw[Cr o2]at h;obtain⟨a,ha,hf⟩:=k1 (λa=>a==t.W) h;exact .inr (.inr (.inl ⟨by omega,a,ha,by simpa using hf⟩))
 rw[Cu o2]at h;by_cases o3:3<=t.Op/\t.Op<=13
 ·rw[Cr o3]at h;obtain⟨a,b,ha,hf⟩:=k2 (λa b=>a==t.W&&b==t.W) h;simp only[Co,Bl]at hf;exact .inr (.inr (.inr (.inl ⟨by omega,by omega,a,b,ha,by omega⟩)))
 rw[Cu o3]at h;by_cases o4:14<=t.Op/\t.Op<=16
 ·rw[Cr o4]at h;obtain⟨a,b,ha,hf⟩:=k2 (λa b=>a==b&&t.W==1) h;simp only[Co,Bl]at hf;exact .inr (.inr (.inr (.inl ⟨by omega,by omega,a,b,ha,hf.1⟩)))
 rw[Cu o4]at h;by_cases o5:t.Op=17
 ·rw[Cr o5]at h;obtain⟨a,b,c,ha,hf⟩:=k3 (λa b c=>a==1&&b==t.W&&c==t.W) h;exact .inr (.inr (.inr (.inr (.inl ⟨o5,a,b,c,ha⟩))))
 rw[Cu o5]at h;by_cases o6:t.Op=18
 ·rw[Cr o6]at h;obtain⟨a,b,ha,hf⟩:=k2 (λa b=>a+b==t.W) h;exact .inr (.inr (.inr (.inr (.inr (.inl ⟨o6,a,b,ha⟩)))))
 rw[Cu o6]at h;by_cases o7:t.Op=19
 ·rw[Cr o7]at h;obtain⟨a,ha,hf⟩:=k1 (λa=>decide (0<=t.N/\t.N<=16)&&decide (t.N+t.W<=a)) h;simp only[Co,Cw]at hf;exact .inr (.inr (.inr (.inr (.inr (.inr (.inl ⟨o7,by omega,by omega,a,ha⟩))))))
 rw[Cu o7]at h;by_cases o8:20<=t.Op/\t.Op<=21
 ·rw[Cr o8]at h;obtain⟨a,ha,hf⟩:=k1 (λa=>decide (a<=t.W)) h;exact .inr (.inr (.inr (.inr (.inr (.inr (.inr ⟨by omega,a,ha⟩))))))
 rw[Cu o8]at h;cases h
def Jt{ks:List D.Term}{f:D.Term->Option (Int×Bool)}{g:D.Term->Int×Bool}{n:Nat}(hf:∀x∈ks,f x=some (g x))(hn:ks.length<n)(hk:ks.length<=1000000):
  iterN (λ(s1:Int×(List Int))=>if(decide (s1.1<(len ks)))then(get? ks s1.1).bind λx4=>(f x4).bind λx5=>if(!x5.2)then some (.inr (.inr ((0:Int),false)))else(app? s1.2 ([x5.1]:List Int)).bind λx6=>some (.inl ((w64 (s1.1+1)),x6))else some (.inr (.inl (s1.2)))) n (0,([]:List Int))=some (if ks.all (λx=>(g x).2)=true then(.inl (ks.map λx=>(g x).1):List Int⊕(Int×Bool))else .inr ((0:Int),false)):=by
 obtain⟨r,g1,g2⟩:=Yg (l:=ks) (n:=n) (σ:=List Int) (ρ:=List Int⊕(Int×Bool)) (B:=λ(s1:Int×(List Int))=>if(decide (s1.1<(len ks)))then(get? ks s1.1).bind λx4=>(f x4).bind λx5=>if(!x5.2)then some (.inr (.inr ((0:Int),false)))else(app? s1.2 ([x5.1]:List Int)).bind λx6=>some (.inl ((w64 (s1.1+1)),x6))else some (.inr (.inl (s1.2)))) (λk a=>((k:Int),a)) (λys a=>∃pre,pre++ys=ks/\a=pre.map (λx=>(g x).1)/\pre.all (λx=>(g x).2)=true)
   (λr=>r=if ks.all (λx=>(g x).2)=true then(.inl (ks.map λx=>(g x).1):List Int⊕(Int×Bool))else .inr ((0:Int),false))
   (λk x xs a hk' hx hlen⟨pre,h1,h2,h3⟩=>by
    have hd:decide ((k:Int)<len ks)=true:=by rw[Zb];simp;omega
    have hpl:pre.length<=ks.length:=by rw[<-h1];simp
    simp only[hd,CF,get?_nat,hx,Cm,hf x (CV hx)];cases hb:(g x).2
    ·refine .inr ⟨_,rfl, ?_⟩;have:ks.all (λx=>(g x).2)=false:=by rw[<-h1,Ah,BQ,hb];simp
     rw[this];rfl
    ·refine .inl ⟨a++[(g x).1], ?_,pre++[x],by rw[Bo];exact h1,by rw[h2];simp,by rw[Ah,h3];simp[hb]⟩;simp only[Cz,Cn,Cy]
     rw[Wu (by rw[h2];simp;omega),Zf];rfl)
   (λa⟨pre,h1,h2,h3⟩=>by
    have hd:decide ((ks.length:Int)<len ks)=false:=by rw[Zb];simp
    simp only[hd,Cn,Cy];rw[Bj]at h1;subst h1
    exact⟨_,rfl,by rw[h3,Cr rfl,h2]⟩) (a:=[]) ⟨[],rfl,rfl,rfl⟩ hn
 rw[show((0:Nat):Int)=0 from rfl]at g1;rw[g1,g2]
theorem Ms(f:Str×Int->Bool):∀l:List D.Term,(vrss l).all f=l.all λx=>(vrs x).all f
 |[]=>by rw[Y5];rfl
 |x::l=>by rw[ZL,Ah,Ms f l];rfl
theorem OE{v:List D.Value}{env:List (Str×Int)}(hv:v.length<=30)(he:EnvOf v env):∀(d:Nat)(t:D.Term),cnt t<=d->nodeB t=true->msz t<=1048576->∀n m:Nat,d+1048590<=n->d+1<=m->
  ∃r,ZT n t v=some (r,(vrs t).all (okV v))/\((vrs t).all (okV v)=false->r=0)/\((vrs t).all (okV v)=true->Za m t (some env)=some r):=by
 intro d
 induction d with
 |zero=>intro t h;have:=X3 t;omega
 | succ d ih=>
  intro t hc hb hs n m hn hm;obtain⟨n,rfl⟩:∃j,n=j+1:=⟨n-1,by omega⟩;obtain⟨m,rfl⟩:∃j,m=j+1:=⟨m-1,by omega⟩;have hz:=Wd t;have hcn:=X3 t;rw[Yo,Co]at hb;obtain⟨hloc,hnb⟩:=hb;rw[Zz,Cs]at hnb;rw[ZT,Za];by_cases o0:t.Op=0
  ·have hv0:vrs t=vrss t.Kids:=by rw[Wv,ifn]
   have hk:t.Kids=[]:=by
    rcases VY hloc with h|h|h|h|h|h|h|h
    ·exact h.2
    all_goals omega
   have c0:(t.Op==0)=true:=by simpa using o0
   simp only[hv0,hk,Y5,c0,CF];exact⟨t.N,rfl,λh=>(by simp at h),λ_=>rfl⟩
  have c0:(t.Op==0)=false:=by simpa using o0
  simp only[c0,Cn,Cy];by_cases o1:t.Op=22
  ·have hv0:vrs t=[(t.Name,t.W)]:=by rw[Wv,Cr o1]
   have c1:(t.Op==22)=true:=by simpa using o1
   simp only[hv0,c1,CF];rw[geto O];have hal:[(t.Name,t.W)].all (okV v)=okV v (t.Name,t.W):=by simp
   rw[hal];unfold okV;simp only[Cm];rw[he t.Name];rcases JA (n:=n) (v:=v) (s:=t.Name) O O with⟨h1,h2⟩|⟨k,x,h1,h2,h3⟩
   ·rw[h1,h2];exact⟨0,by simp,λ_=>rfl,λh=>by cases h⟩
   ·rw[h1,h3];have hk0:¬((k:Int)<0):=by omega
    simp only[Cm,hk0,decide_false,Cn,Cy,get?_nat,h2,CY,CJ,Bh];by_cases e:x.W=t.W
    ·exact⟨x.N,by simp[e],λh=>by simp[e]at h,λ_=>rfl⟩
    ·exact⟨0,by simp[e],λ_=>rfl,λh=>by simp[e]at h⟩
  have c1:(t.Op==22)=false:=by simpa using o1
  simp only[c1,Cn,Cy];have hv0:vrs t=vrss t.Kids:=by rw[Wv,Cu o1]
  rw[hv0,Ms];have ih':∀x∈t.Kids,∃r,ZT n x v=some (r,(vrs x).all (okV v))/\((vrs x).all (okV v)=false->r=0)/\((vrs x).all (okV v)=true->Za m x (some env)=some r):=λx hx=>by
   have:=Wl hx;have:=UR hx;exact ih x O (hnb x hx) O n m O O
  have hg:∀x∈t.Kids,ZT n x v=some ((ZT n x v).getD (0,false)):=λx hx=>by
   obtain⟨r,h,_⟩:=ih' x hx;rw[h];rfl
  have hg2:∀x∈t.Kids,((ZT n x v).getD (0,false)).2=(vrs x).all (okV v):=λx hx=>by
   obtain⟨r,h,_⟩:=ih' x hx;rw[h];rfl
  have hg1:∀x∈t.Kids,(vrs x).all (okV v)=true->Za m x (some env)=some ((ZT n x v).getD (0,false)).1:=λx hx hb=>by
   obtain⟨r,h,_,h3⟩:=ih' x hx;rw[h];exact h3 hb
  generalize hgd:(λx=>(ZT n x v).getD (0,false))=g;have hgx:∀x,(ZT n x v).getD (0,false)=g x:=λx=>by rw[<-hgd]
  simp only[hgx]at hg hg2 hg1;have hlen:t.Kids.length<=1000000:=by
   rcases VY hloc with h|h|⟨_,a,h,_⟩|⟨_,_,a,b,h,_⟩|⟨_,a,b,c,h⟩|⟨_,a,b,h⟩|⟨_,_,_,a,h⟩|⟨_,a,h⟩
   ·rw[h.2];simp
   ·rw[h.2];simp
   all_goals rw[h];simp
  have hloop:=Jt (n:=n) hg O hlen;rw[hloop];have hall:t.Kids.all (λx=>(g x).2)=t.Kids.all λx=>(vrs x).all (okV v):=by
   rw[Aa,Cs,Cs];exact⟨λh x hx=>by rw[<-hg2 x hx];exact h x hx,λh x hx=>by rw[hg2 x hx];exact h x hx⟩
  rw[hall];clear hall hloop hgd ih ih' hg;cases hA:t.Kids.all (λx=>(vrs x).all (okV v))with
  |false=>exact⟨0,by simp,λ_=>rfl,λh=>by cases h⟩
  | true=>
   have hev:∀x∈t.Kids,Za m x (some env)=some (g x).1:=λx hx=>hg1 x hx (Cs.1 hA x hx);simp only[CF,Cm];clear hg1 hg2 hA hgx;unfold ZE;have hin:∀a b c,Zd a b c=some (decide (b<=a/\a<=c)):=Y6;simp only[hin,Cm];rcases VY hloc with h|h|⟨ho,a,h,hw⟩|⟨ho,ho',a,b,h,hw⟩|⟨ho,a,b,c,h⟩|⟨ho,a,b,h⟩|⟨ho,h1,h2,a,h⟩|⟨ho,a,h⟩
   ·exact absurd h.1 o0
   ·exact absurd h.1 o1
   ·rw[h]at hev⊢;have ea:=hev a U;obtain⟨r,g1,g2⟩:=WU t.Op t.W (g a).1;have d1:decide (1<=t.Op/\t.Op<=2)=true:=by simp;omega
    have d2:(t.Op==17)=false:=by simp;omega
    have d3:(t.Op==1||t.Op==2)=true:=by rcases ho with h|h<;>simp[h]
    simp only[Bn,Ai,d1,d2,d3,CF,Cn,Cy,get0,geti0,Cm,ea,hw];exact⟨r,by rw[g1];rfl,λh=>aj,λ_=>by rw[g2];rfl⟩
   ·rw[h]at hev⊢;have ea:=hev a U;have eb:=hev b U;obtain⟨r,g1,g2⟩:=YK t.Op a.W (g a).1 (g b).1;have d1:decide (1<=t.Op/\t.Op<=2)=false:=by simp;omega
    have d1':decide (3<=t.Op/\t.Op<=16)=true:=by simp;omega
    have d2:(t.Op==17)=false:=by simp;omega
    have d3:(t.Op==1||t.Op==2)=false:=by simp;omega
    have d4:(t.Op==19)=false:=by simp;omega
    have d5:(t.Op==20||t.Op==21)=false:=by simp;omega
    have d6:(t.Op==18)=false:=by simp;omega
    simp only[Bn,Ai,d1,d1',d2,d3,d4,d5,d6,CF,Cn,Cy,get0,get1,geti0,geti1,Cm,ea,eb];exact⟨r,by rw[g1];rfl,λh=>aj,λ_=>by rw[g2];rfl⟩
   ·rw[h]at hev⊢;have ea:=hev a U;have eb:=hev b U;have ec:=hev c U;have d1:decide (1<=t.Op/\t.Op<=2)=false:=by simp;omega
    have d1':decide (3<=t.Op/\t.Op<=16)=false:=by simp;omega
    have d2:(t.Op==17)=true:=by simp;omega
    simp only[Bn,Ai,d1,d1',d2,CF,Cn,Cy,get0,get1,get2',geti0,geti1,geti2,Cm,ea,eb,ec];by_cases e:(g a).1=1
    ·exact⟨(g b).1,by simp[e],λh=>aj,λ_=>by simp[e]⟩
    ·exact⟨(g c).1,by simp[e],λh=>aj,λ_=>by simp[e]⟩
   ·rw[h]at hev⊢;have ea:=hev a U;have eb:=hev b U;obtain⟨r,g1,g2⟩:=Uo a.W (g a).1 b.W (g b).1;have d1:decide (1<=t.Op/\t.Op<=2)=false:=by simp;omega
    have d1':decide (3<=t.Op/\t.Op<=16)=false:=by simp;omega
    have d2:(t.Op==17)=false:=by simp;omega
    have d3:(t.Op==1||t.Op==2)=false:=by simp;omega
    have d4:(t.Op==19)=false:=by simp;omega
    have d5:(t.Op==20||t.Op==21)=false:=by simp;omega
    have d6:(t.Op==18)=true:=by simp;omega
    simp only[Bn,Ai,d1,d1',d2,d3,d4,d5,d6,CF,Cn,Cy,get0,get1,geti0,geti1,Cm,ea,eb];exact⟨r,by rw[g1];rfl,λh=>aj,λ_=>by rw[g2];rfl⟩
   ·rw[h]at hev⊢;have ea:=hev a U;have hwt:1<=t.W/\t.W<=16:=by
     unfold locB at hloc;simp only[Co,Cw]at hloc;exact hloc.1.1.1
    obtain⟨r,g1,g2⟩:=TL (w:=a.W) (a:=(g a).1) (l:=t.N) (n:=t.W) O O;have d1:decide (1<=t.Op/\t.Op<=2)=false:=by simp;omega
    have d1':decide (3<=t.Op/\t.Op<=16)=false:=by simp;omega
    have d2:(t.Op==17)=false:=by simp;omega
    have d3:(t.Op==1||t.Op==2)=false:=by simp;omega
    have d4:(t.Op==19)=true:=by simp;omega
    have d6:(t.Op==18)=false:=by simp;omega
    simp only[Bn,Ai,d1,d1',d2,d3,d4,d6,CF,Cn,Cy,get0,geti0,Cm,ea];exact⟨r,by rw[g1];rfl,λh=>aj,λ_=>by rw[g2];rfl⟩
   ·rw[h]at hev⊢;have ea:=hev a U;obtain⟨r,g1,g2⟩:=Us a.W (g a).1 t.W (t.Op==21);have d1:decide (1<=t.Op/\t.Op<=2)=false:=by simp;omega
    have d1':decide (3<=t.Op/\t.Op<=16)=false:=by simp;omega
    have d2:(t.Op==17)=false:=by simp;omega
    have d3:(t.Op==1||t.Op==2)=false:=by simp;omega
    have d4:(t.Op==19)=false:=by simp;omega
    have d5:(t.Op==20||t.Op==21)=true:=by rcases ho with h|h<;>simp[h]
    have d6:(t.Op==18)=false:=by simp;omega
    simp only[Bn,Ai,d1,d1',d2,d3,d4,d5,d6,CF,Cn,Cy,get0,geti0,Cm,ea];exact⟨r,by rw[g1];rfl,λh=>aj,λ_=>by rw[g2];rfl⟩
def Gc{t:D.Term}(h:nodeB t=true)(ho:t.Op=22):t.Name.bytes.length<=8/\t.Kids=[]:=by
 rw[Yo,Co]at h;have h:=h.1;unfold locB shB at h;simp only[ho,Co]at h;have h:=h.2;simp[nameB]at h;exact⟨by omega,by simpa using h.1⟩
theorem collect:∀(n:Nat)(t:D.Term)(g:List (Str×Int)),nodeB t=true->msz t<=1048576->g.length+(vrs t).length<=1000->1048580+cnt t<=n->ZU n t (some g)=some (some ((vrs t).reverse++g)):=by
 intro n
 induction n with
 |zero=>intro t g _ _ _ _;omega
 | succ n ih=>
  intro t g hb hs hg hn;have hz:=Wd t;have hcn:=X3 t;rw[ZU];by_cases o1:t.Op=22
  ·obtain⟨h1,h2⟩:=Gc hb o1;have hv:vrs t=[(t.Name,t.W)]:=by rw[Wv,Cr o1]
   have c1:(t.Op==22)=true:=by simpa using o1
   have hw:=YN hb;rw[hv]at hg;simp only[c1,CF,Cm,put1 (g:=g) (s:=t.Name) O hw (by simp at hg;omega)];obtain⟨m,rfl⟩:∃m,n=m+1:=⟨n-1,by omega⟩;rw[h2,hv];rfl
  ·have c1:(t.Op==22)=false:=by simpa using o1
   have hv:vrs t=vrss t.Kids:=by rw[Wv,Cu o1]
   simp only[c1,Cn,Cy];rw[Yo,Co,Zz,Cs]at hb;rw[hv]at hg⊢;obtain⟨r,g1,g2⟩:=Yg (l:=t.Kids) (n:=n) (σ:=Option (List (Str×Int))) (ρ:=Option (List (Str×Int))) (B:=λ(s2:Int×(Option (List (Str×Int))))=>if(decide (s2.1<(len t.Kids)))then(get? t.Kids s2.1).bind λx5=>(ZU n x5 s2.2).bind λx6=>some (.inl ((w64 (s2.1+1)),x6))else some (.inr (s2.2))) (λk a=>((k:Int),a)) (λys a=>∃ga,a=some ga/\(vrss ys).reverse++ga=(vrss t.Kids).reverse++g/\ga.length+(vrss ys).length<=1000/\∀x∈ys,x∈t.Kids)
     (λr=>r=some ((vrss t.Kids).reverse++g))
     (λk x xs a hk' hx hlen⟨ga,i0,i1,i2,i3⟩=>by
      have hxk:=i3 x U;have:=Wl hxk;have:=UR hxk;have hd:decide ((k:Int)<len t.Kids)=true:=by rw[Zb];simp;omega
      rw[ZL,Ba]at i2;rw[ZL,List.reverse_append]at i1;subst i0;simp only[hd,CF,get?_nat,hx,Cm];rw[ih x ga (hb.2 x hxk) O O O]
      refine .inl ⟨some ((vrs x).reverse++ga),by simp only[Cm];rw[Zf];rfl,_,rfl,by rw[<-i1,Bo],by simp;omega,λy hy=>i3 y aq⟩)
     (λa⟨ga,i0,i1,i2,i3⟩=>by
      have hd:decide ((t.Kids.length:Int)<len t.Kids)=false:=by rw[Zb];simp
      simp only[hd,Cn,Cy];rw[Y5]at i1
      exact⟨_,rfl,by rw[i0,<-i1];rfl⟩) (a:=some g) ⟨g,rfl,rfl,hg,λx hx=>hx⟩ O
   rw[show((0:Nat):Int)=0 from rfl]at g1;rw[g1,g2];rfl
theorem PT:∀{l g g':List (Str×Int)},runV g l=some g'->(∀p:Str×Int,g.lookup p.1=some p.2->g'.lookup p.1=some p.2)/\∀p∈l,g'.lookup p.1=some p.2
 |[],g,g',h=>by simp only[runV,Option.some.injEq]at h;subst h;exact⟨λp hp=>hp,λp hp=>by cases hp⟩
 | v::l,g,g',h=>by
  simp only[runV,Bz]at h;obtain⟨g1,h1,h2⟩:=h;obtain⟨i1,i2⟩:=PT h2;have hv:g1.lookup v.1=some v.2:=by
   unfold stp at h1;split at h1
   ·rename_i w hw;split at h1
    ·rename_i e;cases h1;rw[hw,e]
    ·cases h1
   ·cases h1;rw[CO];simp
  have hk:∀p:Str×Int,g.lookup p.1=some p.2->g1.lookup p.1=some p.2:=λp hp=>by
   unfold stp at h1;split at h1
   ·split at h1
    ·cases h1;exact hp
    ·cases h1
   ·rename_i hn;cases h1;have:p.1≠v.1:=λe=>by rw[e,hn]at hp;cases hp
    rw[CO];have:(p.1==v.1)=false:=by simpa using this
    rw[this];exact hp
  refine⟨λp hp=>i1 p (hk p hp),λp hp=>?_⟩;rcases CW.1 hp with rfl|hp
  ·exact i1 p hv
  ·exact i2 p hp
theorem SE{κ β:Type}[BEq κ][LawfulBEq κ]{x:κ}{y:β}:∀{m:List (κ×β)},m.lookup x=some y->(x,y)∈m
 |[],h=>by cases h
 | (u,z)::m,h=>by
  rw[CO]at h;by_cases e:x==u
  ·rw[e]at h;simp only[Option.some.injEq]at h;rw[eq_of_beq e,h];exact CZ
  ·simp only[e]at h;exact CX _ (SE h)
theorem Ou{κ β:Type}[BEq κ][LawfulBEq κ]{x:κ}{y:β}:∀{m:List (κ×β)},(x,y)∈m->∃z,m.lookup x=some z
 | (u,z)::m,h=>by
  rw[CO];by_cases e:x==u
  ·rw[e];exact⟨z,rfl⟩
  ·simp only[e];rcases CW.1 h with h|h
   ·simp only[Prod.mk.injEq]at h;rw[h.1]at e;simp at e
   ·exact Ou h
def IZ{l:List (Str×Int)}(h:(runV [] l).isSome=true)(f:Str×Int->Bool):(vtab l.reverse).all (λv=>f (v.Name,v.W))=l.all f:=by
 obtain⟨g,hg⟩:=BM.1 h;have hl:=(PT hg).2;rw[Aa,Cs,Cs];constructor
 ·intro h1 p hp;obtain⟨z,hz⟩:=Ou (Zae.2 hp);have hzm:=Zae.1 (SE hz);have e1:=hl _ hzm;have e2:=hl p hp;simp only at e1;rw[e2]at e1;have e3:p.2=z:=Option.some.inj e1;have:=h1 ⟨p.1,p.2,0⟩ ((VC _ _).2 ⟨by rw[e3];exact hz,rfl⟩);exact this
 ·intro h1 v hv;obtain⟨h2,-⟩:=(VC _ _).1 hv;exact h1 _ (Zae.1 (SE h2))
def JL{t:D.Term}(h:termB t=true)(hs:msz t<=1048576):Vj fuel t=some (vtab (vrs t).reverse):=by
 unfold Vj;rw[Tn hs,h];unfold termB at h;simp only[Co,Cw]at h;have hv:=LF t;simp only[Cm,Cz,Cn,Cy];rw[collect fuel t [] h.1.2 hs ab aa];simp only[Cm,Bj];rw[Cr ab]
structure ValsOk(v:List D.Value):Prop where
 len:v.length<=30
 name:∀x∈v,nameB x.Name=true
 word:∀x∈v,wordB x.W x.N=true
 nd:v.Pairwise λa b=>a.Name≠b.Name
def Oc{s:Str}(h:nameB s=true):s.bytes.length<=8:=by
 unfold nameB at h;simp at h;omega
def MB{s:Str}(h:nameB s=true):fitS s=true:=by
 have:=Oc h;unfold fitS;simp;omega
def KS{x:Int}(h0:0<=x)(h1:x<65536):fitZ x=true:=by
 unfold fitZ;simp[Lit.wf];exact⟨by show(-9223372036854775808:Int)<=x;omega,by omega⟩
def MV{g:List (Str×Int)}{s:Str}{w:Int}(hs:nameB s=true)(h0:0<=w)(h1:w<65536)(hg:g.length<=1000):mputE? fitS fitZ g s w=some ((s,w)::g):=by
 unfold mputE?;rw[Cr ⟨MB hs,KS h0 h1,by unfold room;omega⟩]
def Ha(x:D.Value)(xs:List D.Value)(s:Str):fnd (x::xs) s=if x.Name=s then some x else fnd xs s:=by
 unfold fnd;by_cases e:x.Name=s<;>simp[List.find?_cons,e]
def Gn{v:List D.Value}{s:Str}(h:∀x∈v,x.Name≠s):fnd v s=none:=by
 unfold fnd;rw[List.find?_eq_none];exact λx hx=>by simpa using h x hx
theorem NS(f:D.Value->Int):∀{v:List D.Value}(g:List (Str×Int)),v.Pairwise (λa b=>a.Name≠b.Name)->(∀x∈v,g.lookup x.Name=none)->∀s,((v.map λx=>(x.Name,f x)).reverse++g).lookup s=(match fnd v s with|some x=>some (f x)|none=>g.lookup s)
 |[],g,_,_,s=>rfl
 | x::v,g,hp,hg,s=>by
  rw[AQ]at hp;rw[Bn,List.reverse_cons,Bo,BR]
  rw[NS f ((x.Name,f x)::g) hp.2 (λy hy=>by
   rw[CO];have:(y.Name==x.Name)=false:=by simpa using(hp.1 y hy).symm
   rw[this];exact hg y (CX _ hy)) s]
  rw[Ha];by_cases e:x.Name=s
  ·subst e;rw[Cr rfl,Gn λy hy=>(hp.1 y hy).symm];simp
  ·rw[Cu e];have:(s==x.Name)=false:=by simpa using Ne.symm e
   rw[CO,this]
def Nk(f:D.Value->Int){v:List D.Value}(h:v.Pairwise λa b=>a.Name≠b.Name)(s:Str):((v.map λx=>(x.Name,f x)).reverse).lookup s=(fnd v s).map f:=by
 have:=NS f [] h (λ_ _=>rfl) s;rw[Bj]at this;rw[this];cases fnd v s<;>rfl
def JN{v:List D.Value}(h:ValsOk v){n:Nat}(hn:1000<=n):iterN (λ(s1:Int×(List (Str×Int))×(List (Str×Int)))=>if(decide (s1.1<(len v)))then(get? v s1.1).bind λx3=>(mputE? fitS fitZ s1.2.1 x3.Name x3.N).bind λx4=>(mputE? fitS fitZ s1.2.2 x3.Name x3.W).bind λx5=>some (.inl ((w64 (s1.1+1)),x4,x5))else some (.inr (s1.2.1,s1.2.2))) n (0,[],[])=some ((v.map λx=>(x.Name,x.N)).reverse,(v.map λx=>(x.Name,x.W)).reverse):=by
 obtain⟨r,g1,g2⟩:=Yg (l:=v) (n:=n) (σ:=List (Str×Int)×List (Str×Int)) (ρ:=List (Str×Int)×List (Str×Int)) (B:=λ(s1:Int×(List (Str×Int))×(List (Str×Int)))=>if(decide (s1.1<(len v)))then(get? v s1.1).bind λx3=>(mputE? fitS fitZ s1.2.1 x3.Name x3.N).bind λx4=>(mputE? fitS fitZ s1.2.2 x3.Name x3.W).bind λx5=>some (.inl ((w64 (s1.1+1)),x4,x5))else some (.inr (s1.2.1,s1.2.2))) (λk a=>((k:Int),a.1,a.2)) (λys a=>∃pre,pre++ys=v/\a=((pre.map λx=>(x.Name,x.N)).reverse,(pre.map λx=>(x.Name,x.W)).reverse))
   (λr=>r=((v.map λx=>(x.Name,x.N)).reverse,(v.map λx=>(x.Name,x.W)).reverse))
   (λk x xs a hk' hx hlen⟨pre,h1,h2⟩=>by
    have hd:decide ((k:Int)<len v)=true:=by rw[Zb];simp;omega
    have hpl:pre.length<=v.length:=by rw[<-h1];simp
    have hl:=h.len;have hxv:=CV hx;have hw:=h.word x hxv;obtain⟨w1,w2⟩:=Zh hw;obtain⟨b1,b2⟩:=Sz hw;subst h2;simp only[hd,CF,get?_nat,hx,Cm];rw[MV (h.name x hxv) b1 b2 ab];simp only[Cm];rw[MV (h.name x hxv) O O ab]
    refine .inl ⟨((x.Name,x.N)::(pre.map λx=>(x.Name,x.N)).reverse,(x.Name,x.W)::(pre.map λx=>(x.Name,x.W)).reverse),by simp only[Cm];rw[Zf];rfl,pre++[x],by rw[Bo];exact h1,by simp⟩)
   (λa⟨pre,h1,h2⟩=>by
    have hd:decide ((v.length:Int)<len v)=false:=by rw[Zb];simp
    simp only[hd,Cn,Cy];rw[Bj]at h1;subst h1
    exact⟨_,rfl,h2⟩) (a:=([],[])) ⟨[],rfl,rfl⟩ (by have:=h.len;omega)
 rw[show((0:Nat):Int)=0 from rfl]at g1;rw[g1,g2]
def getw{g:List (Str×Int)}{s:Str}(hs:fitS s=true):mget2? fitS (0:Int) g s=some ((g.lookup s).getD 0,(g.lookup s).isSome):=by
 unfold mget2?;rw[Cr hs]
theorem Ia:∀n:Nat,(∀t:D.Term,msz t<n->nodeB t=true->∀p∈vrs t,nameB p.1=true)/\∀l:List D.Term,l.length+mszs l<n->nodesB l=true->∀p∈vrss l,nameB p.1=true:=by
 intro n
 induction n with
 |zero=>exact⟨λ_ h=>by omega,λ_ h=>by omega⟩
 | succ n ih=>
  have hL:∀l:List D.Term,l.length+mszs l<n+1->nodesB l=true->∀p∈vrss l,nameB p.1=true:=λl h hb p hp=>by
   cases l with
   |nil=>rw[Y5]at hp;cases hp
   |cons x l=>
    rw[Y1]at h;simp only[Bp]at h;rw[Zz,BQ,Co,<-Zz]at hb;rw[ZL]at hp;rcases CQ.1 hp with hp|hp
    ·exact ih.1 x O hb.1 p hp
    ·exact ih.2 l O hb.2 p hp
  refine⟨λt h hb p hp=>?_,hL⟩;have hz:=Wd t;rw[Wv]at hp;rw[Yo,Co]at hb;split at hp
  ·rename_i o;rw[CB]at hp;subst hp;have h:=hb.1;unfold locB shB at h;simp only[o,Co]at h;have h:=h.2;simp at h;exact h.2
  ·exact hL t.Kids O hb.2 p hp
def Jh{t:D.Term}(h:nodeB t=true):∀p∈vrs t,nameB p.1=true:=(Ia (msz t+1)).1 t O h
theorem KX{t:D.Term}{v:List D.Value}(ht:termB t=true)(hs:msz t<=1048576)(hv:ValsOk v)(hvo:Xv fuel v=some true):
  ∃r b,ZT fuel t v=some (r,b)/\Ye fuel t v=some (r,b):=by
 have htt:=ht;unfold termB at htt;simp only[Co,Cw]at htt;obtain⟨⟨hc,hnb⟩,hrun⟩:=htt;have henv:EnvOf v (v.map λx=>(x.Name,x.N)).reverse:=λs=>Nk (·.N) hv.nd s;obtain⟨r,e1,e2,e3⟩:=OE hv.len henv 240 t hc hnb hs fuel fuel aa aa;refine⟨r,_,e1,?_⟩;unfold Ye;rw[Tn hs,ht];simp only[Cm,Cz,Cn,Cy,hvo,Ar];rw[JN hv aa];simp only[Cm,JL ht hs];have hvl:(vtab (vrs t).reverse).length<=240:=by
  have h1:=Sw (vrs t).reverse;have h2:=LF t;simp at h1;omega
 have hall:(vtab (vrs t).reverse).all (λx=>okV v (x.Name,x.W))=(vrs t).all (okV v):=IZ hrun (okV v);obtain⟨q,g1,g2⟩:=Yg (l:=vtab (vrs t).reverse) (n:=fuel) (σ:=Unit) (ρ:=Unit⊕(Int×Bool)) (B:=λ(s2:Int)=>if(decide (s2<(len (vtab (vrs t).reverse))))then(get? (vtab (vrs t).reverse) s2).bind λx7=>(mget2? fitS (0:Int) (v.map λx=>(x.Name,x.W)).reverse x7.Name).bind λx8=>if((!x8.2)||(x8.1 !=x7.W))then some (.inr (.inr (0,false)))else some (.inl ((w64 (s2+1))))else some (.inr (.inl ()))) (λk _=>(k:Int)) (λys _=>ys.all (λx=>okV v (x.Name,x.W))=(vrs t).all (okV v)) (λq=>q=if(vrs t).all (okV v)=true then(.inl ():Unit⊕(Int×Bool))else .inr (0,false))
   (λk x xs a hk' hx hlen hi=>by
    have hd:decide ((k:Int)<len (vtab (vrs t).reverse))=true:=by rw[Zb];simp;omega
    have hxm:=(VC _ _).1 (CV hx);have hxn:nameB x.Name=true:=Jh hnb _ (Zae.1 (SE hxm.1));simp only[hd,CF,get?_nat,hx,Cm];rw[getw (MB hxn),Nk (·.W) hv.nd];rw[BQ]at hi;have ho:okV v (x.Name,x.W)=(match fnd v x.Name with|some y=>decide (y.W=x.W)|none=>false):=rfl;simp only[Cm];cases hf:fnd v x.Name with
    |none=>
     rw[hf]at ho;have ho:okV v (x.Name,x.W)=false:=ho;rw[ho,Aj]at hi;exact .inr ⟨.inr (0,false),by simp,by rw[<-hi];rfl⟩
    | some y=>
     rw[hf]at ho;have ho:okV v (x.Name,x.W)=decide (y.W=x.W):=ho;simp only[CJ,Option.isSome_some,Bh,Cz,CY];by_cases e:y.W=x.W
     ·rw[ho,decide_eq_true e,Bi]at hi;exact .inl ⟨(),by rw[Cu ap,Zf];rfl,hi⟩
     ·rw[ho,decide_eq_false e,Aj]at hi
      exact .inr ⟨.inr (0,false),by rw[Cr ap],by rw[<-hi];rfl⟩)
   (λa hi=>by
    have hd:decide (((vtab (vrs t).reverse).length:Int)<len (vtab (vrs t).reverse))=false:=by rw[Zb];simp
    simp only[hd,Cn,Cy]
    exact⟨_,rfl,by rw[<-hi];rfl⟩) (a:=()) hall aa
 rw[show((0:Nat):Int)=0 from rfl]at g1;rw[g1,g2];cases hA:(vrs t).all (okV v)with
 |false=>rw[e2 hA];rfl
 |true=>
  simp only[CF,Cm];rw[e3 hA];rfl
def sg(a b:Int):Int:=if a<b then-1 else if a>b then 1 else 0
def ss(a b:Str):Int:=if a=b then 0 else if Str.ltb a b=true then-1 else 1
mutual
def ctm:D.Term->D.Term->Int
 |⟨o,w,m,s,k⟩,t=>if sg o t.Op≠0 then sg o t.Op else if sg w t.W≠0 then sg w t.W else if sg m t.N≠0 then sg m t.N else if ss s t.Name≠0 then ss s t.Name else cts k t.Kids
def cts:List D.Term->List D.Term->Int
 |[],l=>sg 0 l.length
 |_::_,[]=>1
 |x::l,y::m=>if ctm x y≠0 then ctm x y else cts l m
end
def Qc(a t:D.Term):ctm a t=if sg a.Op t.Op≠0 then sg a.Op t.Op else if sg a.W t.W≠0 then sg a.W t.W else if sg a.N t.N≠0 then sg a.N t.N else if ss a.Name t.Name≠0 then ss a.Name t.Name else cts a.Kids t.Kids:=by cases a;rw[ctm]
def Tf(l:List D.Term):cts [] l=sg 0 l.length:=by rw[cts]
def SQ(x:D.Term)(l:List D.Term):cts (x::l) []=1:=by rw[cts]
def UK(x y:D.Term)(l m:List D.Term):cts (x::l) (y::m)=if ctm x y≠0 then ctm x y else cts l m:=by rw[cts]
def LK(a b:Int):sg b a=-sg a b:=by unfold sg;split<;>split<;>(try split)<;>omega
def ER(a b:Str):ss b a=-ss a b:=by
 unfold ss;by_cases e:a=b
 ·rw[Cr e,Cr e.symm];rfl
 rw[Cu e,Cu λh=>e h.symm];cases h:Str.ltb a b
 ·rw[IM h e];rfl
 ·have:Str.ltb b a=false:=by
   cases h2:Str.ltb b a
   ·rfl
   ·have:=lt_trans h h2;rw[Ht]at this;cases this
  rw[this];rfl
def Nu(a b:Int):sg a b=-1\/sg a b=0\/sg a b=1:=by unfold sg;split<;>(try split)<;>simp
def Fh(a b:Str):ss a b=-1\/ss a b=0\/ss a b=1:=by unfold ss;split<;>(try split)<;>simp
theorem Hr:∀n:Nat,(∀a b:D.Term,msz a<n->ctm b a=-ctm a b/\(ctm a b=-1\/ctm a b=0\/ctm a b=1))/\∀l m:List D.Term,l.length+mszs l<n->cts m l=-cts l m/\(cts l m=-1\/cts l m=0\/cts l m=1):=by
 intro n
 induction n with
 |zero=>exact⟨λ_ _ h=>by omega,λ_ _ h=>by omega⟩
 | succ n ih=>
  have hl:∀l m:List D.Term,l.length+mszs l<n+1->cts m l=-cts l m/\(cts l m=-1\/cts l m=0\/cts l m=1):=by
   intro l m h;cases l with
   |nil=>
    cases m with
    |nil=>rw[Tf];decide
    |cons y m=>rw[Tf,SQ];unfold sg;simp
   | cons x l=>
    cases m with
    |nil=>rw[Tf,SQ];unfold sg;simp
    |cons y m=>
     rw[Y1]at h;simp only[Bp]at h;obtain⟨a1,a2⟩:=ih.1 x y O;obtain⟨b1,b2⟩:=ih.2 l m O;rw[UK,UK,a1];by_cases e:ctm x y=0
     ·rw[e];simpa using⟨b1,b2⟩
     ·rw[ifp,Cr e];exact⟨rfl,a2⟩
  refine⟨λa b h=>?_,hl⟩;have hz:=Wd a;obtain⟨b1,b2⟩:=hl a.Kids b.Kids O;rw[Qc,Qc,LK a.Op,LK a.W,LK a.N,ER a.Name,b1];have h1:=Nu a.Op b.Op;have h2:=Nu a.W b.W;have h3:=Nu a.N b.N;have h4:=Fh a.Name b.Name;by_cases e1:sg a.Op b.Op=0
  ·by_cases e2:sg a.W b.W=0
   ·by_cases e3:sg a.N b.N=0
    ·by_cases e4:ss a.Name b.Name=0
     ·simp[e1,e2,e3,e4,b2]
     ·simp[e1,e2,e3,e4];omega
    ·simp[e1,e2,e3];omega
   ·simp[e1,e2];omega
  ·simp[e1];omega
def FO(a b:D.Term):ctm b a=-ctm a b:=((Hr (msz a+1)).1 a b O).1
def GZ(a b:D.Term):ctm a b=-1\/ctm a b=0\/ctm a b=1:=((Hr (msz a+1)).1 a b O).2
theorem EI:∀x y:List UInt8,Lib.compareBytes x y=if x=y then 0 else if Op.bytesLess x y=true then-1 else 1
 |[],[]=>by simp[Lib.compareBytes]
 |[],_::_=>by simp[Lib.compareBytes,Op.bytesLess]
 |_::_,[]=>by simp[Lib.compareBytes,Op.bytesLess]
 | a ::x,b::y=>by
  rw[Lib.compareBytes,EI x y];by_cases h1:a<b
  ·have:a≠b:=λe=>by subst e;exact absurd h1 (UInt8.lt_irrefl a)
   simp[h1,this,Op.bytesLess]
  ·by_cases h2:b<a
   ·have:a≠b:=λe=>by subst e;exact absurd h2 (UInt8.lt_irrefl a)
    simp[h1,h2,this,Op.bytesLess]
   ·have:a=b:=by
     have h3:¬a.toNat<b.toNat:=h1;have h4:¬b.toNat<a.toNat:=h2;exact UInt8.toNat_inj.1 O
    subst this;simp[h1,Op.bytesLess]
def FY(a b:Str):strings_Compare a b=some (ss a b):=by
 unfold strings_Compare ss;rw[EI,Nn];have:(a.bytes=b.bytes)=(a=b):=by
  cases a;cases b;simp
 simp only[this]
def Fx(a b:Int):XI a b=some (sg a b):=by
 unfold XI sg;by_cases h1:a<b
 ·simp[h1]
 ·by_cases h2:a>b<;>simp[h1,h2]
def Ey(a b:Int):Ya a b=some (sg a b):=by
 unfold Ya X4 sg;by_cases h1:a<b
 ·simp[h1]
 ·by_cases h2:a>b<;>simp[h1,h2]
def La(x y z:Int){n:Nat}(hn:4<=n):iterN (λ(s1:Int)=>if(decide (s1<(len ([x,y,z]:List Int))))then(get? ([x,y,z]:List Int) s1).bind λx4=>if(x4 !=0)then some (.inr (.inr x4))else some (.inl ((w64 (s1+1))))else some (.inr (.inl ()))) n 0=some (if x≠0 then(.inr x:Unit⊕Int)else if y≠0 then .inr y else if z≠0 then .inr z else .inl ()):=by
 obtain⟨n,rfl⟩:∃m,n=m+4:=⟨n-4,by omega⟩;by_cases h1:x=0
 ·by_cases h2:y=0
  ·by_cases h3:z=0
   ·subst h1 h2 h3;rfl
   ·subst h1 h2;simp[iterN,Zb,get?,h3,Zf]
  ·subst h1;simp[iterN,Zb,get?,h2,Zf]
 ·simp[iterN,Zb,get?,h1]
theorem ND:∀(n:Nat)(a b:D.Term),msz a<=1048576->1048580+cnt a<=n->Yj n a b=some (ctm a b):=by
 intro n
 induction n with
 |zero=>intro a b _ _;omega
 | succ n ih=>
  intro a b hs hn;have hz:=Wd a;have hc:=X3 a;unfold Yj;simp only[Fx,Cm,La _ _ _ (show 4<=n by omega)];rw[Qc];by_cases e1:sg a.Op b.Op=0;rotate_left
  ·simp[e1]
  by_cases e2:sg a.W b.W=0;rotate_left
  ·simp[e1,e2]
  by_cases e3:sg a.N b.N=0;rotate_left
  ·simp[e1,e2,e3]
  simp only[e1,e2,e3,ne_eq,not_true_eq_false,Cy];by_cases e4:a.Name=b.Name;rotate_left
  ·have:Str.eqb a.Name b.Name=false:=by rw[Sq];simpa using e4
   simp only[this,AY,CF];unfold ss;rw[Cu e4];cases Str.ltb a.Name b.Name<;>simp
  have:Str.eqb a.Name b.Name=true:=by rw[Sq];simpa using e4
  have e5:ss a.Name b.Name=0:=by unfold ss;rw[Cr e4]
  simp only[this,e5,Cz,Cn,not_true_eq_false,Cy];obtain⟨r,g1,g2⟩:=Yg (l:=a.Kids) (n:=n) (σ:=Unit) (ρ:=Unit⊕Int) (B:=λ(s2:Int)=>if (decide (s2<(len a.Kids)))then(get? a.Kids s2).bind λx5=>if(s2==(len b.Kids))then some (.inr (.inr 1))else(get? b.Kids s2).bind λx6=>(Yj n x5 x6).bind λx7=>if(x7 !=0)then some (.inr (.inr x7))else some (.inl ((w64 (s2+1))))else some (.inr (.inl ()))) (λk _=>(k:Int)) (λys _=>a.Kids.length-ys.length<=b.Kids.length/\ys.length<=a.Kids.length/\cts ys (b.Kids.drop (a.Kids.length-ys.length))=cts a.Kids b.Kids/\∀x∈ys,x∈a.Kids)
    (λr=>(r= .inl ()/\sg a.Kids.length b.Kids.length=cts a.Kids b.Kids)\/r= .inr (cts a.Kids b.Kids))
    (λk x xs _ hk' hx hlen⟨i0,i1,i2,i3⟩=>by
     have hm:=Wl (i3 x U);have hcm:=UR (i3 x U);have hk:a.Kids.length-(x::xs).length=k:=by omega
     rw[hk]at i0 i2;have hd:decide ((k:Int)<len a.Kids)=true:=by rw[Zb];simp;omega
     simp only[hd,CF,get?_nat,hx,Cm];by_cases hb:k=b.Kids.length
     ·refine .inr ⟨.inr 1,by rw[Zb];simp[hb],.inr ?_⟩;rw[<-i2,hb,List.drop_length,SQ]
     ·have hbk:k<b.Kids.length:=by omega
      have hy:b.Kids[k]? =some b.Kids[k]:=Cv hbk;have hbeq:((k:Int)==len b.Kids)=false:=by rw[Zb];simp;omega
      rw[Bf hbk,UK]at i2;simp only[hbeq,Cn,Cy,hy,Cm];rw[ih x b.Kids[k] O O];simp only[Cm];by_cases e:ctm x b.Kids[k]=0
      ·rw[e]at i2⊢;refine .inl ⟨(),by rw[Zf];rfl,by simp at hlen;omega,by simp at hlen;omega,?_,λy hy=>i3 y aq⟩;have:a.Kids.length-xs.length=k+1:=by simp at hlen;omega
       rw[this];simpa using i2
      ·refine .inr ⟨.inr (ctm x b.Kids[k]),by simp[e],.inr ?_⟩
       rw[<-i2,Cr e])
    (λ_⟨i0,i1,i2,_⟩=>by
     have hd:decide ((a.Kids.length:Int)<len a.Kids)=false:=by rw[Zb];simp
     simp only[hd,Cn,Cy];refine⟨.inl (),rfl,.inl ⟨rfl,?_⟩⟩;rw[<-i2,Tf];simp only[Zaj,Nat.sub_zero,AA]at i0⊢;unfold sg
     split<;>split<;>(try split)<;>(try split)<;>omega) (a:=()) ⟨by omega,by omega,by rw[AJ];rfl,λx hx=>hx⟩ O
  rw[show((0:Nat):Int)=0 from rfl]at g1;rw[g1];rcases g2 with⟨rfl,g2⟩|rfl
  ·simp only[Cm,Zb,g2]
  ·rfl
theorem Mf:∀(n:Nat)(a b:D.Term),msz a<=1048576->1048580+cnt a<=n->ZC n a b=some (ctm a b):=by
 intro n
 induction n with
 |zero=>intro a b _ _;omega
 | succ n ih=>
  intro a b hs hn;have hz:=Wd a;have hc:=X3 a;unfold ZC;simp only[Ey,FY,Cm];rw[Qc];by_cases e1:sg a.Op b.Op=0;rotate_left
  ·simp[e1]
  by_cases e2:sg a.W b.W=0;rotate_left
  ·simp[e1,e2]
  by_cases e3:sg a.N b.N=0;rotate_left
  ·simp[e1,e2,e3]
  by_cases e4:ss a.Name b.Name=0;rotate_left
  ·simp[e1,e2,e3,e4]
  simp only[e1,e2,e3,e4,ne_eq,not_true_eq_false,Cy,bne_self_eq_false,Cn];obtain⟨r,g1,g2⟩:=Yg (l:=a.Kids) (n:=n) (σ:=Unit) (ρ:=Unit⊕Int) (B:=λ(s1:Int)=>if((decide (s1<(len a.Kids)))&&(decide (s1<(len b.Kids))))then(get? a.Kids s1).bind λx5=>(get? b.Kids s1).bind λx6=>(ZC n x5 x6).bind λx7=>if(x7 !=0)then some (.inr (.inr x7))else some (.inl ((w64 (s1+1))))else some (.inr (.inl ()))) (λk _=>(k:Int)) (λys _=>a.Kids.length-ys.length<=b.Kids.length/\ys.length<=a.Kids.length/\cts ys (b.Kids.drop (a.Kids.length-ys.length))=cts a.Kids b.Kids/\∀x∈ys,x∈a.Kids)
    (λr=>(r= .inl ()/\sg a.Kids.length b.Kids.length=cts a.Kids b.Kids)\/r= .inr (cts a.Kids b.Kids))
    (λk x xs _ hk' hx hlen⟨i0,i1,i2,i3⟩=>by
     have hm:=Wl (i3 x U);have hcm:=UR (i3 x U);have hk:a.Kids.length-(x::xs).length=k:=by omega
     rw[hk]at i0 i2;have hd:decide ((k:Int)<len a.Kids)=true:=by rw[Zb];simp;omega
     by_cases hb:k=b.Kids.length
     ·refine .inr ⟨.inl (),by rw[Zb,Zb];simp[hb],.inl ⟨rfl, ?_⟩⟩;rw[<-i2,hb,List.drop_length,SQ];unfold sg;rw[ifn,ifp]
     ·have hbk:k<b.Kids.length:=by omega
      have hy:b.Kids[k]? =some b.Kids[k]:=Cv hbk;have hd2:decide ((k:Int)<len b.Kids)=true:=by rw[Zb];simp;omega
      rw[Bf hbk,UK]at i2;simp only[hd,hd2,AR,CF,get?_nat,hx,hy,Cm];rw[ih x b.Kids[k] O O];simp only[Cm];by_cases e:ctm x b.Kids[k]=0
      ·rw[e]at i2⊢;refine .inl ⟨(),by rw[Zf];rfl,by simp at hlen;omega,by simp at hlen;omega,?_,λy hy=>i3 y aq⟩;have:a.Kids.length-xs.length=k+1:=by simp at hlen;omega
       rw[this];simpa using i2
      ·refine .inr ⟨.inr (ctm x b.Kids[k]),by simp[e],.inr ?_⟩
       rw[<-i2,Cr e])
    (λ_⟨i0,i1,i2,_⟩=>by
     have hd:decide ((a.Kids.length:Int)<len a.Kids)=false:=by rw[Zb];simp
     simp only[hd,Aj,Cn,Cy];refine⟨.inl (),rfl,.inl ⟨rfl,?_⟩⟩;rw[<-i2,Tf];simp only[Zaj,Nat.sub_zero,AA]at i0⊢;unfold sg
     split<;>split<;>(try split)<;>(try split)<;>omega) (a:=()) ⟨by omega,by omega,by rw[AJ];rfl,λx hx=>hx⟩ O
  rw[show((0:Nat):Int)=0 from rfl]at g1;rw[g1];rcases g2 with⟨rfl,g2⟩|rfl
  ·simp only[Cm,Zb,g2]
  ·rfl
def RJ{n:Nat}{a b:D.Term}(h1:msz a<=1048576)(h2:1048580+cnt a<=n):Y7 n a b=some (ctm a b==0):=by
 unfold Y7;rw[ND n a b h1 h2];rfl
def Qd{n:Nat}{a b:D.Term}(h1:msz a<=1048576)(h2:1048580+cnt a<=n):Yf n a b=some (ctm a b==0):=by
 unfold Yf;rw[Mf n a b h1 h2];rfl
def UQ{x:Int}(h0:0<=x)(h1:x<65536):(BitVec.ofInt 64 x).toNat=x.toNat:=by
 rw[BitVec.toNat_ofInt];rw[Int.emod_eq_of_lt h0 O]
def Rk{w:Int}(h1:1<=w)(h2:w<=16):(2:Int)^w.toNat=((2^w.toNat:Nat):Int)/\(2^w.toNat:Nat)<=65536/\2<=(2^w.toNat:Nat):=by
 rcases Qi h1 h2 with rfl|rfl|rfl|rfl|rfl|rfl|rfl|rfl|rfl|rfl|rfl|rfl|rfl|rfl|rfl|rfl<;>decide
def Fv{w a b:Int}(h1:1<=w)(h2:w<=16)(ha:wordB w a=true)(hb:wordB w b=true):wordB w (band a b)=true/\wordB w (bor a b)=true/\wordB w (bxor a b)=true:=by
 obtain⟨p1,p2,p3⟩:=Rk h1 h2;rw[Zv h1 h2]at ha hb;rw[p1]at ha hb;have ea:=UQ ha.1 O;have eb:=UQ hb.1 O;have la:a.toNat<2^w.toNat:=by omega
 have lb:b.toNat<2^w.toNat:=by omega
 refine⟨?_,?_,?_⟩<;>rw[Zv h1 h2,p1]
 ·unfold band;rw[BitVec.toNat_and,ea,eb];have:=Nat.and_lt_two_pow a.toNat lb;rw[Zf];omega
 ·unfold bor;rw[BitVec.toNat_or,ea,eb];have:=Nat.or_lt_two_pow la lb;rw[Zf];omega
 ·unfold bxor;rw[BitVec.toNat_xor,ea,eb];have:=Nat.xor_lt_two_pow la lb;rw[Zf];omega
def Xu{w:Int}(h1:1<=w)(h2:w<=16)(v:Int):wordB w (wordOf w v)=true:=by
 have h:=ZF w v;obtain⟨p1,p2,p3⟩:=Rk h1 h2;obtain⟨a1,_,a3,_,_⟩:=WQ h1 h2;unfold Z6 Zd at h;have e:(decide (w>=1)&&decide (w<=16))=true:=by simp;omega
 simp only[e,Cm,Cz,Cn,Cy,a1,Option.some.injEq]at h;rw[a3]at h;rw[<-h,Zv h1 h2,p1];unfold band;rw[BitVec.toNat_and,UQ (x:=((2^w.toNat:Nat):Int)-1) O O];have:=Nat.and_le_right (n:=(BitVec.ofInt 64 v).toNat) (m:=(((2^w.toNat:Nat):Int)-1).toNat);rw[Zf];omega
def Uu{w a:Int}(h:wordB w a=true):Zw w a=some true:=by rw[Yq,h]
def QQ(b:Bool):wordB 1 (if b=true then 1 else 0)=true:=by cases b<;>decide
def EK{op w a r:Int}(h:ZY op w a=some r)(ho:op=1\/op=2)(ha:wordB w a=true):wordB w r=true:=by
 obtain⟨h1,h2⟩:=Zh ha;obtain⟨a1,_,a3,a4,a5⟩:=WQ h1 h2;unfold ZY at h;simp only[Uu ha,Cm,Cz,Cn,Cy,ZF]at h;have hv:=(Zv h1 h2 a).1 ha;rcases ho with rfl|rfl
 ·simp only[BB,CF,a1,Cm,Option.some.injEq]at h;rw[a3,Zf]at h;rw[Zv h1 h2];omega
 ·simp at h;rw[<-h];exact Xu h1 h2 _
def QU{op w a b r:Int}(h:Z9 op w a b=some r)(ha:wordB w a=true)(hb:wordB w b=true):(3<=op/\op<=13->wordB w r=true)/\(14<=op/\op<=16->wordB 1 r=true):=by
 obtain⟨h1,h2⟩:=Zh ha;obtain⟨a1,_,a3,a4,a5⟩:=WQ h1 h2;obtain⟨b1,b2,b3⟩:=Fv h1 h2 ha hb;have hv:=(Zv h1 h2 a).1 ha;have hu:=(Zv h1 h2 b).1 hb;unfold Z9 at h;simp only[Uu ha,Uu hb,Cm,Cz,Cn,Cy,Ar,ZF,(QY _).1]at h;refine⟨λ⟨g1,g2⟩=>?_,λ⟨g1,g2⟩=>?_⟩
 ·have:op=3\/op=4\/op=5\/op=6\/op=7\/op=8\/op=9\/op=10\/op=11\/op=12\/op=13:=by omega
  rcases this with rfl|rfl|rfl|rfl|rfl|rfl|rfl|rfl|rfl|rfl|rfl
  ·simp at h;rw[<-h];exact Xu h1 h2 _
  ·simp at h;rw[<-h];exact Xu h1 h2 _
  ·simp at h;rw[<-h];exact Xu h1 h2 _
  ·simp only[show((6:Int)==3)=false from rfl,show((6:Int)==4)=false from rfl,show((6:Int)==5)=false from rfl,BB,Cn,Cy,CF]at h;by_cases e:b=0
   ·subst e;simp only[BB,CF,a1,Cm,Option.some.injEq]at h;rw[a3]at h;rw[Zv h1 h2];omega
   ·have e':(b==0)=false:=by simpa using e
    unfold quo? at h;simp only[e',Cn,Cy,e,Cm,Option.some.injEq]at h;have q1:=Int.tdiv_nonneg hv.1 hu.1;have q2:=Int.tdiv_le_self b hv.1;rw[Zf]at h;rw[Zv h1 h2];omega
  ·simp only[show((7:Int)==3)=false from rfl,show((7:Int)==4)=false from rfl,show((7:Int)==5)=false from rfl,show((7:Int)==6)=false from rfl,BB,Cn,Cy,CF]at h;by_cases e:b=0
   ·subst e;simp at h;rw[<-h];exact ha
   ·have e':(b==0)=false:=by simpa using e
    unfold rem? at h;simp only[e',Cn,Cy,e,Cm,Option.some.injEq]at h;have q1:=Za4 b hv.1;have q2:=Zar a (show 0<b by omega);rw[Zv h1 h2];omega
  ·simp at h;rw[<-h];exact b1
  ·simp at h;rw[<-h];exact b2
  ·simp at h;rw[<-h];exact b3
  ·simp only[show((11:Int)==3)=false from rfl,show((11:Int)==4)=false from rfl,show((11:Int)==5)=false from rfl,show((11:Int)==6)=false from rfl,show((11:Int)==7)=false from rfl,show((11:Int)==8)=false from rfl,show((11:Int)==9)=false from rfl,show((11:Int)==10)=false from rfl,BB,Cn,Cy,CF]at h;by_cases e:b>=w
   ·simp[e]at h;rw[<-h,Zv h1 h2];omega
   ·rw[Cu ap,OL _ hu.1]at h;simp at h;rw[<-h];exact Xu h1 h2 _
  ·simp only[show((12:Int)==3)=false from rfl,show((12:Int)==4)=false from rfl,show((12:Int)==5)=false from rfl,show((12:Int)==6)=false from rfl,show((12:Int)==7)=false from rfl,show((12:Int)==8)=false from rfl,show((12:Int)==9)=false from rfl,show((12:Int)==10)=false from rfl,show((12:Int)==11)=false from rfl,BB,Cn,Cy,CF]at h;by_cases e:b>=w
   ·simp[e]at h;rw[<-h,Zv h1 h2];omega
   ·rw[Cu ap,TH _ hu.1]at h;simp only[Cm,Option.some.injEq]at h;have hp:(0:Int)<2^min b.toNat 64:=ZaF O;rw[Zam _ O]at h;have q1:=Int.ediv_nonneg hv.1 (show(0:Int)<=2^min b.toNat 64 by omega);have q2:=Int.ediv_le_self (2^min b.toNat 64) hv.1;rw[Zv h1 h2];omega
  ·simp only[Va,Cm]at h;simp only[show((13:Int)==3)=false from rfl,show((13:Int)==4)=false from rfl,show((13:Int)==5)=false from rfl,show((13:Int)==6)=false from rfl,show((13:Int)==7)=false from rfl,show((13:Int)==8)=false from rfl,show((13:Int)==9)=false from rfl,show((13:Int)==10)=false from rfl,show((13:Int)==11)=false from rfl,show((13:Int)==12)=false from rfl,BB,Cn,Cy,CF]at h;rw[Bz]at h;obtain⟨x,_,h⟩:=h;simp at h;rw[<-h];exact Xu h1 h2 _
 ·have:op=14\/op=15\/op=16:=by omega
  rcases this with rfl|rfl|rfl
  ·simp at h;rw[<-h];exact by have:=QQ (decide (a=b));simpa using this
  ·simp at h;rw[<-h];exact by have:=QQ (decide (a<b));simpa using this
  ·simp[Va]at h;rw[<-h];exact by have:=QQ (decide (signedOf w a<signedOf w b));simpa using this
def Kk{w a v b r:Int}(h:X0 w a v b=some r)(ha:wordB w a=true)(hb:wordB v b=true)(hs:w+v<=16):wordB (w+v) r=true:=by
 obtain⟨h1,h2⟩:=Zh ha;obtain⟨h3,h4⟩:=Zh hb;have hv:=(Zv h1 h2 a).1 ha;have hu:=(Zv h3 h4 b).1 hb;unfold X0 at h;simp only[Uu ha,Uu hb,Cm,Cz,Cn,Cy,Ar,CY]at h;rw[Zf,Cu ab,OL _ O]at h;have hm:min v.toNat 64=v.toNat:=by omega
 rw[hm]at h;obtain⟨p1,p2,p3⟩:=Rk h1 h2;obtain⟨q1,q2,q3⟩:=Rk h3 h4;obtain⟨s1,s2,s3⟩:=Rk (w:=w+v) O hs;have hadd:(2:Int)^(w+v).toNat=2^w.toNat*2^v.toNat:=by
  rw[show(w+v).toNat=w.toNat+v.toNat by omega,Int.pow_add]
 have hbig:(2:Int)^(w+v).toNat<=65536:=by rw[s1];omega
 have hmul:(a+1)*2^v.toNat<=2^w.toNat*2^v.toNat:=Int.mul_le_mul_of_nonneg_right O O;have hnn:0<=a*2^v.toNat:=Int.mul_nonneg hv.1 O;rw[Int.add_mul,Int.one_mul]at hmul;rw[Zv O hs,hadd];rw[hadd]at hbig;rw[Zf (x:=a*2^v.toNat)]at h;simp only[Cm,Option.some.injEq]at h;rw[Zf]at h;omega
def II{w a l n r:Int}(h:WC w a l n=some r)(ha:wordB w a=true)(hl:0<=l)(hn:1<=n)(hs:l+n<=w):wordB n r=true:=by
 obtain⟨h1,h2⟩:=Zh ha;unfold WC at h;simp only[Uu ha,Cm,ZF]at h;rw[Zf,Cu ab,TH _ hl]at h;simp only[Cm,Option.some.injEq]at h;rw[<-h];exact Xu hn O _
def Mq{w a n r:Int}{s:Bool}(h:X9 w a n s=some r)(ha:wordB w a=true)(hs:w<=n)(hn:n<=16):wordB n r=true:=by
 obtain⟨h1,h2⟩:=Zh ha;have hv:=(Zv h1 h2 a).1 ha;unfold X9 at h;simp only[Uu ha,Cm,ZF,Va]at h;rw[Cu ab]at h;cases s
 ·simp at h;rw[<-h,Zv O hn];have:(2:Int)^n.toNat=2^w.toNat*2^(n-w).toNat:=by rw[<-Int.pow_add];congr 1;omega
  have hp:(0:Int)<2^(n-w).toNat:=ZaF O;have hp2:(0:Int)<2^w.toNat:=ZaF O;have:=Int.mul_le_mul_of_nonneg_left (show(1:Int)<=2^(n-w).toNat by omega) (show(0:Int)<=2^w.toNat by omega);omega
 ·simp at h;rw[<-h];exact Xu O hn _
def Yy{op w m:Int}{nm:Str}{ks:List D.Term}(h:nodeB ⟨op,w,m,nm,ks⟩=true):(1<=w/\w<=16)/\((op=0/\ks=[]/\nm=⟨[]⟩/\wordB w m=true)\/(op=22/\ks=[]/\m=0)\/((op=1\/op=2)/\m=0/\nm=⟨[]⟩/\∃a,ks=[a]/\nodeB a=true/\a.W=w)\/(3<=op/\op<=16/\m=0/\nm=⟨[]⟩/\∃a b,ks=[a,b]/\nodeB a=true/\nodeB b=true/\a.W=b.W/\(op<=13->a.W=w)/\(14<=op->w=1))\/(op=17/\m=0/\nm=⟨[]⟩/\∃a b c,ks=[a,b,c]/\nodeB a=true/\nodeB b=true/\nodeB c=true/\a.W=1/\b.W=w/\c.W=w)\/(op=18/\m=0/\nm=⟨[]⟩/\∃a b,ks=[a,b]/\nodeB a=true/\nodeB b=true/\a.W+b.W=w)\/(op=19/\nm=⟨[]⟩/\0<=m/\m<=16/\∃a,ks=[a]/\nodeB a=true/\m+w<=a.W)\/((op=20\/op=21)/\m=0/\nm=⟨[]⟩/\∃a,ks=[a]/\nodeB a=true/\a.W<=w)):=by
 rw[Yo,Co]at h;obtain⟨h,hk⟩:=h;unfold locB at h;simp only[Co,Cw,Bq,Bl,Sq]at h;obtain⟨⟨⟨hw,hn⟩,hm⟩,h⟩:=h;refine⟨hw,?_⟩;simp only at hk;unfold shB at h;by_cases o0:op=0
 ·rw[Cr o0]at h;simp only[Co,Zad,AC]at h;exact .inl ⟨o0,h.1,by rcases hn with hn|hn;exact hn;omega,h.2⟩
 rw[Cu o0]at h;by_cases o1:op=22
 ·rw[Cr o1]at h;simp only[Co,Zad,AC]at h;exact .inr (.inl ⟨o1,h.1,by omega⟩)
 rw[Cu o1]at h;have hn:nm=⟨[]⟩:=by rcases hn with hn|hn;exact hn;exact absurd hn o1
 have hm:op≠19->m=0:=λo=>by omega
 clear o0 o1;have k1:∀f:Int->Bool,(match ks.map (·.W)with|[a]=>f a|_=>false)=true->∃a,ks=[a]/\nodeB a=true/\f a.W=true:=λf h=>by
  rcases ks with _|⟨a,_|⟨b,l⟩⟩<;>simp at h;rw[Zz]at hk;simp at hk;exact⟨a,rfl,hk,h⟩
 have k2:∀f:Int->Int->Bool,(match ks.map (·.W)with|[a,b]=>f a b|_=>false)=true->∃a b,ks=[a,b]/\nodeB a=true/\nodeB b=true/\f a.W b.W=true:=λf h=>by
  rcases ks with _|⟨a,_|⟨b,_|⟨c,l⟩⟩⟩<;>simp at h;rw[Zz]at hk;simp at hk;exact⟨a,b,rfl,hk.1,hk.2,h⟩
 have k3:∀f:Int->Int->Int->Bool,(match ks.map (·.W)with|[a,b,c]=>f a b c|_=>false)=true->∃a b c,ks=[a,b,c]/\nodeB a=true/\nodeB b=true/\nodeB c=true/\f a.W b.W c.W=true:=λf h=>by
  rcases ks with _|⟨a,_|⟨b,_|⟨c,_|⟨d,l⟩⟩⟩⟩<;>simp at h;rw[Zz]at hk;simp at hk;exact⟨a,b,c,rfl,hk.1,hk.2.1,hk.2.2,h⟩
 by_cases o2:1<=op/\op<=2
 ·rw[Cr o2]at h;obtain⟨a,ha,hb,hf⟩:=k1 (λa=>a==w) h;exact .inr (.inr (.inl ⟨by omega,hm O,hn,a,ha,hb,by simpa using hf⟩))
 rw[Cu o2]at h;by_cases o3:3<=op/\op<=13
 ·rw[Cr o3]at h;obtain⟨a,b,ha,hb,hc,hf⟩:=k2 (λa b=>a==w&&b==w) h;simp only[Co,Bl]at hf;exact .inr (.inr (.inr (.inl ⟨by omega,by omega,hm O,hn,a,b,ha,hb,hc,by omega,by omega,by omega⟩)))
 rw[Cu o3]at h;by_cases o4:14<=op/\op<=16
 ·rw[Cr o4]at h;obtain⟨a,b,ha,hb,hc,hf⟩:=k2 (λa b=>a==b&&w==1) h;simp only[Co,Bl]at hf;exact .inr (.inr (.inr (.inl ⟨by omega,by omega,hm O,hn,a,b,ha,hb,hc,hf.1,by omega,by omega⟩)))
 rw[Cu o4]at h;by_cases o5:op=17
 ·rw[Cr o5]at h;obtain⟨a,b,c,ha,hb,hc,hd,hf⟩:=k3 (λa b c=>a==1&&b==w&&c==w) h;simp only[Co,Bl]at hf;exact .inr (.inr (.inr (.inr (.inl ⟨o5,hm O,hn,a,b,c,ha,hb,hc,hd,hf.1.1,hf.1.2,hf.2⟩))))
 rw[Cu o5]at h;by_cases o6:op=18
 ·rw[Cr o6]at h;obtain⟨a,b,ha,hb,hc,hf⟩:=k2 (λa b=>a+b==w) h;exact .inr (.inr (.inr (.inr (.inr (.inl ⟨o6,hm O,hn,a,b,ha,hb,hc,by simpa using hf⟩)))))
 rw[Cu o6]at h;by_cases o7:op=19
 ·rw[Cr o7]at h;obtain⟨a,ha,hb,hf⟩:=k1 (λa=>decide (0<=m/\m<=16)&&decide (m+w<=a)) h;simp only[Co,Cw]at hf;exact .inr (.inr (.inr (.inr (.inr (.inr (.inl ⟨o7,hn,hf.1.1,hf.1.2,a,ha,hb,hf.2⟩))))))
 rw[Cu o7]at h;by_cases o8:20<=op/\op<=21
 ·rw[Cr o8]at h;obtain⟨a,ha,hb,hf⟩:=k1 (λa=>decide (a<=w)) h;exact .inr (.inr (.inr (.inr (.inr (.inr (.inr ⟨by omega,hm O,hn,a,ha,hb,by simpa using hf⟩))))))
 rw[Cu o8]at h;cases h
def VE{w v:Int}(h:wordB w v=true):nodeB ⟨0,w,v,⟨[]⟩,[]⟩=true:=by
 obtain⟨h1,h2⟩:=Zh h;rw[Yo,Zz];simp[locB,shB,WF,h,h1,h2]
def DT{op:Int}{a:D.Term}(ho:op=1\/op=2)(ha:nodeB a=true):nodeB ⟨op,a.W,0,⟨[]⟩,[a]⟩=true:=by
 have h1:=YN ha;rw[Yo,Zz];rcases ho with rfl|rfl<;>simp[locB,shB,WF,ha,h1.1,h1.2]
def Lv{op w:Int}{a b:D.Term}(h3:3<=op)(h16:op<=16)(ha:nodeB a=true)(hb:nodeB b=true)(hw:a.W=b.W)(h1:op<=13->a.W=w)(h2:14<=op->w=1):nodeB ⟨op,w,0,⟨[]⟩,[a,b]⟩=true:=by
 have g1:=YN ha;have g2:1<=w/\w<=16:=by omega
 rw[Yo,Zz];by_cases o:op<=13
 ·have e1:=h1 o;simp[locB,shB,WF,ha,hb,g2.1,g2.2,e1,hw▸e1,show¬op=0 by omega,show¬op=22 by omega,show¬op<=2 by omega,h3,o]
 ·have e1:=h2 O;simp[locB,shB,WF,ha,hb,e1,hw,show¬op=0 by omega,show¬op=22 by omega,show¬op<=2 by omega,o,show 14<=op by omega,h16]
def EH{w:Int}{a b c:D.Term}(ha:nodeB a=true)(hb:nodeB b=true)(hc:nodeB c=true)(h1:a.W=1)(h2:b.W=w)(h3:c.W=w):nodeB ⟨17,w,0,⟨[]⟩,[a,b,c]⟩=true:=by
 have g2:=YN hb;rw[h2]at g2;rw[Yo,Zz];simp[locB,shB,WF,ha,hb,hc,h1,h2,h3,g2.1,g2.2]
def RP{w m:Int}{a:D.Term}(ha:nodeB a=true)(h0:0<=m)(h1:1<=w)(h2:m+w<=a.W):nodeB ⟨19,w,m,⟨[]⟩,[a]⟩=true:=by
 have g:=YN ha;rw[Yo,Zz];simp[locB,shB,WF,ha,h0,h1,h2,show w<=16 by omega,show m<=16 by omega]
def Gh{op w:Int}{a:D.Term}(ho:op=20\/op=21)(ha:nodeB a=true)(h1:w<=16)(h2:a.W<=w):nodeB ⟨op,w,0,⟨[]⟩,[a]⟩=true:=by
 have g:=YN ha;rw[Yo,Zz];rcases ho with rfl|rfl<;>simp[locB,shB,WF,ha,h1,h2,show 1<=w by omega]
def Yi{a:D.Term}(h:nodeB a=true)(ho:a.Op=0):a=⟨0,a.W,a.N,⟨[]⟩,[]⟩/\wordB a.W a.N=true:=by
 obtain⟨op,w,m,nm,ks⟩:=a;simp only at ho⊢;subst ho;obtain⟨_,hs⟩:=Yy h;rcases hs with⟨_,rfl,rfl,hv⟩|hs|hs|hs|hs|hs|hs|hs
 ·exact⟨rfl,hv⟩
 all_goals(exfalso;have:=hs.1;omega)
theorem names:∀n:Nat,(∀t:D.Term,msz t<n->nodeB t=true->msz t<=11*cnt t)/\∀l:List D.Term,l.length+mszs l<n->nodesB l=true->mszs l<=11*cnts l:=by
 intro n
 induction n with
 |zero=>exact⟨λ_ h=>by omega,λ_ h=>by omega⟩
 | succ n ih=>
  have hl:∀l:List D.Term,l.length+mszs l<n+1->nodesB l=true->mszs l<=11*cnts l:=by
   intro l h hb;cases l with
   |nil=>rw[UC];omega
   |cons x l=>
    rw[Y1]at h⊢;rw[WL];rw[nodesB,Co]at hb;simp only[Bp]at h;have h1:=ih.1 x O hb.1;have h2:=ih.2 l O hb.2;omega
  refine⟨λt h hb=>?_,hl⟩;have hz:=Wd t;have hc:=X3 t;have hb':=hb;rw[Yo,Co]at hb';have h2:=hl t.Kids O hb'.2;have h3:t.Name.bytes.length<=8/\t.Kids.length<=3:=by
   have hk:=hb'.1;unfold locB at hk;simp only[Co,Bq,Bl,Sq,Cw]at hk;obtain⟨⟨⟨_,hn⟩,_⟩,hs⟩:=hk;refine⟨?_,?_⟩
   ·rcases hn with hn|hn
    ·rw[hn];simp
    ·unfold shB at hs;rw[ifn,Cr hn,Co]at hs;have:=hs.2;unfold nameB at this;simp only[Co,Cw]at this;omega
   ·have:=VY hb'.1;rcases this with⟨_,e⟩|⟨_,e⟩|⟨_,a,e,_⟩|⟨_,_,a,b,e,_⟩|⟨_,a,b,c,e⟩|⟨_,a,b,e⟩|⟨_,_,_,a,e⟩|⟨_,a,e⟩<;>rw[e]<;>simp
  omega
def Tj{t:D.Term}(h:nodeB t=true):msz t<=11*cnt t:=(names (msz t+1)).1 t O h
def TM(w v:Int):Xx w v=some ⟨0,w,v,⟨[]⟩,[]⟩:=rfl
def Yt{w v:Int}(h:wordB w v=true):Zk w v=some ⟨0,w,v,⟨[]⟩,[]⟩:=by unfold Zk;rw[YB,h];rfl
def TQ{ks:List D.Term}{n:Nat}(hn:ks.length<n)(hk:ks.length<=1000):iterN (λ(s1:Bool×Int)=>if(decide (s1.2<(len ks)))then(if s1.1 then(get? ks s1.2)else some default).bind λx1=>(if s1.1 then(Zx x1)else some default).bind λx2=>some (.inl ((s1.1&&x2),(w64 (s1.2+1))))else some (.inr (s1.1))) n (true,0)=some (ks.all λx=>x.Op==0):=by
 obtain⟨r,g1,g2⟩:=Yg (l:=ks) (n:=n) (σ:=Bool) (ρ:=Bool) (B:=λ(s1:Bool×Int)=>if(decide (s1.2<(len ks)))then(if s1.1 then(get? ks s1.2)else some default).bind λx1=>(if s1.1 then(Zx x1)else some default).bind λx2=>some (.inl ((s1.1&&x2),(w64 (s1.2+1))))else some (.inr (s1.1))) (λk a=>(a,(k:Int))) (λys a=>(a&&ys.all λx=>x.Op==0)=ks.all λx=>x.Op==0) (λr=>r=ks.all λx=>x.Op==0)
  (λk x xs a hk' hx hlen hi=>by
   have hd:decide ((k:Int)<len ks)=true:=by rw[Zb];simp;omega
   rw[BQ]at hi;refine .inl ⟨a&&x.Op==0,?_,by rw[<-hi,Bool.and_assoc]⟩;simp only[hd,CF];cases a
   ·simp only[Cn,Cy,Cm,Aj];rw[Zf];rfl
   ·simp only[CF,get?_nat,hx,Cm,Zx,Bi]
    rw[Zf];rfl)
  (λa hi=>by
   have hd:decide ((ks.length:Int)<len ks)=false:=by rw[Zb];simp
   simp only[hd,Cn,Cy]
   exact⟨_,rfl,by simpa using hi⟩) (a:=true) rfl hn
 rw[show((0:Nat):Int)=0 from rfl]at g1;rw[g1,g2]
def Pb{ks:List D.Term}{n:Nat}{b:Bool}(hn:ks.length<n)(hk:ks.length<=1000):iterN (λ(s1:Bool×Int×(List Int))=>if(decide (s1.2.1<(len ks)))then(get? ks s1.2.1).bind λx1=>(app? s1.2.2 ([x1.N]:List Int)).bind λx2=>some (.inl ((s1.1&&(x1.Op==0)),(w64 (s1.2.1+1)),x2))else some (.inr (s1.1,s1.2.2))) n (b,0,([]:List Int))=some ((b&&ks.all λx=>x.Op==0),ks.map (·.N)):=by
 obtain⟨r,g1,g2⟩:=Yg (l:=ks) (n:=n) (σ:=Bool×List Int) (ρ:=Bool×List Int) (B:=λ(s1:Bool×Int×(List Int))=>if(decide (s1.2.1<(len ks)))then(get? ks s1.2.1).bind λx1=>(app? s1.2.2 ([x1.N]:List Int)).bind λx2=>some (.inl ((s1.1&&(x1.Op==0)),(w64 (s1.2.1+1)),x2))else some (.inr (s1.1,s1.2.2))) (λk a=>(a.1,(k:Int),a.2)) (λys a=>(a.1&&ys.all λx=>x.Op==0)=(b&&ks.all λx=>x.Op==0)/\a.2++ys.map (·.N)=ks.map (·.N)) (λr=>r=((b&&ks.all λx=>x.Op==0),ks.map (·.N)))
  (λk x xs a hk' hx hlen⟨hi,hj⟩=>by
   have hd:decide ((k:Int)<len ks)=true:=by rw[Zb];simp;omega
   rw[BQ]at hi;have hl:a.2.length<=1000:=by
    have:=congrArg List.length hj;simp at this;omega
   refine .inl ⟨(a.1&&x.Op==0,a.2++[x.N]),?_,by rw[<-hi,Bool.and_assoc],by rw[<-hj];simp⟩;simp only[hd,CF,get?_nat,hx,Cm]
   rw[Wu ab,Zf];rfl)
  (λa⟨hi,hj⟩=>by
   have hd:decide ((ks.length:Int)<len ks)=false:=by rw[Zb];simp
   simp only[hd,Cn,Cy];refine⟨_,rfl,?_⟩
   rw[<-hi,<-hj];simp) (a:=(b,[])) ⟨rfl,rfl⟩ hn
 rw[show((0:Nat):Int)=0 from rfl]at g1;rw[g1,g2]
def Xq(n:Nat)(w v:Int)(e:Option (List (Str×Int))):Za (n+1) ⟨0,w,v,⟨[]⟩,[]⟩ e=some v:=by simp[Za]
def known{op w m:Int}{nm:Str}{ks:List D.Term}(h:nodeB ⟨op,w,m,nm,ks⟩=true)(hne:ks≠[])(hc:(ks.all λx=>x.Op==0)=true):
  ∃v,wordB w v=true/\ZE ⟨op,w,m,nm,ks⟩ (ks.map (·.N))=some v/\∀n,2<=n->Za n ⟨op,w,m,nm,ks⟩ none=some v:=by
 obtain⟨⟨w1,w2⟩,h⟩:=Yy h;rcases h with⟨_,h,_⟩|⟨_,h,_⟩|⟨ho,rfl,rfl,a,rfl,ha,rfl⟩|⟨o3,o16,rfl,rfl,a,b,rfl,ha,hb,hab,e1,e2⟩|⟨rfl,rfl,rfl,a,b,c,rfl,ha,hb,hcc,aw,bw,cw⟩|⟨rfl,rfl,rfl,a,b,rfl,ha,hb,hab⟩|⟨rfl,rfl,m0,m16,a,rfl,ha,haw⟩|⟨ho,rfl,rfl,a,rfl,ha,haw⟩
 ·exact absurd h hne
 ·exact absurd h hne
 ·simp at hc;obtain⟨ea,va⟩:=Yi ha hc;obtain⟨r,s1,s2⟩:=WU op a.W a.N;refine⟨r,EK s1 ho va,?_,λn hn=>?_⟩
  ·unfold ZE;rw[Y6,show decide (1<=op/\op<=2)=true by simp;omega];simp[geti0,s1]
  ·obtain⟨n,rfl⟩:∃k,n=k+2:=⟨n-2,by omega⟩;have e3:Za (n+1) a none=some a.N:=by rw[ea];exact Xq n _ _ _
   rw[show n+2=(n+1)+1 from rfl];unfold Za;rcases ho with rfl|rfl<;>simp[get0,e3,s2]
 ·simp at hc;obtain⟨ea,va⟩:=Yi ha hc.1;obtain⟨eb,vb⟩:=Yi hb hc.2;obtain⟨r,s1,s2⟩:=YK op a.W a.N b.N;have hr:=QU s1 va (hab▸vb);refine⟨r,?_,?_,λn hn=>?_⟩
  ·by_cases o:op<=13
   ·rw[<-e1 o];exact hr.1 ⟨o3,o⟩
   ·rw[e2 O];exact hr.2 ⟨by omega,o16⟩
  ·unfold ZE;rw[Y6,show decide (1<=op/\op<=2)=false by simp;omega,Y6,show decide (3<=op/\op<=16)=true by simp;omega];simp[get0,geti0,geti1,s1]
  ·obtain⟨n,rfl⟩:∃k,n=k+2:=⟨n-2,by omega⟩;have e3:Za (n+1) a none=some a.N:=by rw[ea];exact Xq n _ _ _
   have e4:Za (n+1) b none=some b.N:=by rw[eb];exact Xq n _ _ _
   rw[show n+2=(n+1)+1 from rfl];unfold Za;simp[get0,get1,e3,e4,s2,show¬op=0 by omega,show¬op=22 by omega,show¬op=17 by omega,show¬op=1 by omega,show¬op=2 by omega,show¬op=19 by omega,show¬op=20 by omega,show¬op=21 by omega,show¬op=18 by omega]
 ·simp at hc;obtain⟨ea,va⟩:=Yi ha hc.1;obtain⟨eb,vb⟩:=Yi hb hc.2.1;obtain⟨ec,vc⟩:=Yi hcc hc.2.2;refine⟨if a.N=1 then b.N else c.N,?_,?_,λn hn=>?_⟩
  ·split
   ·rw[<-bw];exact vb
   ·rw[<-cw];exact vc
  ·unfold ZE;rw[Y6,Y6];by_cases e:a.N=1<;>simp[geti0,geti1,geti2,e]
  ·obtain⟨n,rfl⟩:∃k,n=k+2:=⟨n-2,by omega⟩;have e3:Za (n+1) a none=some a.N:=by rw[ea];exact Xq n _ _ _
   have e4:Za (n+1) b none=some b.N:=by rw[eb];exact Xq n _ _ _
   have e5:Za (n+1) c none=some c.N:=by rw[ec];exact Xq n _ _ _
   rw[show n+2=(n+1)+1 from rfl];unfold Za;by_cases e:a.N=1<;>simp[get0,get1,get2',e3,e4,e5,e]
 ·simp at hc;obtain⟨ea,va⟩:=Yi ha hc.1;obtain⟨eb,vb⟩:=Yi hb hc.2;obtain⟨r,s1,s2⟩:=Uo a.W a.N b.W b.N;refine⟨r,by rw[<-hab];exact Kk s1 va vb O,?_,λn hn=>?_⟩
  ·unfold ZE;rw[Y6,Y6];simp[get0,get1,geti0,geti1,s1]
  ·obtain⟨n,rfl⟩:∃k,n=k+2:=⟨n-2,by omega⟩;have e3:Za (n+1) a none=some a.N:=by rw[ea];exact Xq n _ _ _
   have e4:Za (n+1) b none=some b.N:=by rw[eb];exact Xq n _ _ _
   rw[show n+2=(n+1)+1 from rfl];unfold Za;simp[get0,get1,e3,e4,s2]
 ·simp at hc;obtain⟨ea,va⟩:=Yi ha hc;obtain⟨r,s1,s2⟩:=TL (w:=a.W) (a:=a.N) (l:=m) (n:=w) O O;refine⟨r,II s1 va m0 w1 haw,?_,λn hn=>?_⟩
  ·unfold ZE;rw[Y6,Y6];simp[get0,geti0,s1]
  ·obtain⟨n,rfl⟩:∃k,n=k+2:=⟨n-2,by omega⟩;have e3:Za (n+1) a none=some a.N:=by rw[ea];exact Xq n _ _ _
   rw[show n+2=(n+1)+1 from rfl];unfold Za;simp[get0,e3,s2]
 ·simp at hc;obtain⟨ea,va⟩:=Yi ha hc;obtain⟨r,s1,s2⟩:=Us a.W a.N w (op==21);refine⟨r,Mq s1 va haw w2,?_,λn hn=>?_⟩
  ·unfold ZE;rw[Y6,show decide (1<=op/\op<=2)=false by simp;omega,Y6,show decide (3<=op/\op<=16)=false by simp;omega];rcases ho with rfl|rfl<;>simp at s1<;>simp[get0,geti0,s1]
  ·obtain⟨n,rfl⟩:∃k,n=k+2:=⟨n-2,by omega⟩;have e3:Za (n+1) a none=some a.N:=by rw[ea];exact Xq n _ _ _
   rw[show n+2=(n+1)+1 from rfl];unfold Za;rcases ho with rfl|rfl<;>simp at s2<;>simp[get0,e3,s2]
set_option maxHeartbeats 4000000
def runS(f:Nat->D.Term->Option D.Term)(k:Nat):D.Term⊕D.Term->Option D.Term
 |.inl r=>some r
 |.inr t=>f k t
def kd(t:D.Term)(i:Nat):D.Term:=(t.Kids[i]?).getD default
def ons(w:Int):Int:=2^w.toNat-1
def sws(op:Int):Bool:=op==3||op==5||op==8||op==9||op==10||op==14
def rdB(op w:Int)(a b:D.Term):D.Term⊕D.Term:=
 if sws op=true/\ctm a b=1 then .inr ⟨op,w,0,⟨[]⟩,[b,a]⟩
 else if a.Op=0/\((op=3\/op=9\/op=10)/\a.N=0\/op=5/\a.N=1\/op=8/\a.N=ons a.W\/op=14/\a.W=1/\a.N=1)then .inl b
 else if a.Op=0/\((op=5\/op=8)/\a.N=0\/op=9/\a.N=ons a.W)then .inl a
 else if a.Op=0/\(op=10/\a.N=ons a.W\/op=14/\a.W=1)then .inr ⟨1,w,0,⟨[]⟩,[b]⟩
 else if b.Op=0/\b.N=0/\(op=4\/11<=op/\op<=13)then .inl a
 else if b.Op=0/\b.N=0/\op=15 then .inl ⟨0,1,0,⟨[]⟩,[]⟩
 else if ctm a b=0/\(op=8\/op=9)then .inl a
 else if ctm a b=0/\(op=4\/op=10\/op=15\/op=16)then .inl ⟨0,w,0,⟨[]⟩,[]⟩
 else if ctm a b=0/\op=14 then .inl ⟨0,1,1,⟨[]⟩,[]⟩
 else if sws op=true/\op≠14/\a.Op=0/\b.Op=op/\(kd b 0).Op=0 then .inr ⟨op,w,0,⟨[]⟩,[⟨0,w,(ZA op w a.N (kd b 0).N).getD 0,⟨[]⟩,[]⟩,kd b 1]⟩
 else .inl ⟨op,w,0,⟨[]⟩,[a,b]⟩
def DV{c d:D.Term}(e3:ctm c d=0):c.W=d.W:=by
 rw[Qc]at e3;by_cases q1:sg c.Op d.Op=0
 ·by_cases q2:sg c.W d.W=0
  ·unfold sg at q2;split at q2<;>(try split at q2)<;>omega
  ·simp[q1,q2]at e3
 ·simp[q1]at e3
def XF{α:Type}(x:Option α):(x.bind λy=>some y)=x:=by cases x<;>rfl
def QF{a:D.Term}{op:Int}(h:nodeB a=true)(ho:a.Op=op)(h3:3<=op)(h16:op<=16):∃b c,a=⟨op,a.W,0,⟨[]⟩,[b,c]⟩/\nodeB b=true/\nodeB c=true/\b.W=c.W/\(op<=13->b.W=a.W):=by
 obtain⟨aop,aw,am,anm,aks⟩:=a;simp only at ho;subst ho;obtain⟨_,hs⟩:=Yy h;rcases hs with h|h|h|⟨_,_,rfl,rfl,b,c,rfl,h2,h3,h4,h5,h6⟩|h|h|h|h
 ·exfalso;have:=h.1;omega
 ·exfalso;have:=h.1;omega
 ·exfalso;have:=h.1;omega
 ·exact⟨b,c,rfl,h2,h3,h4,h5⟩
 ·exfalso;have:=h.1;omega
 ·exfalso;have:=h.1;omega
 ·exfalso;have:=h.1;omega
 ·exfalso;have:=h.1;omega
def LU{w:Int}(h1:1<=w)(h2:w<=16):wordB w 0=true:=by
 obtain⟨p1,p2,p3⟩:=Rk h1 h2;rw[Zv h1 h2,p1];omega
def Iq{a:D.Term}(ha:nodeB a=true):Vf a.W=some (ons a.W)/\Uj a=some (a.Op==0&&(a.N==ons a.W))/\1<=ons a.W/\wordB a.W (ons a.W)=true:=by
 have g:=YN ha;obtain⟨a1,a2,a3,a4,a5⟩:=WQ g.1 g.2;unfold ons;refine⟨?_,?_,by omega,by rw[Zv g.1 g.2];omega⟩
 ·unfold Vf;rw[a2];simp only[Cm];rw[a3]
 ·unfold Uj;by_cases c:a.Op=0
  ·simp[c,a1,a3]
  ·rw[show(a.Op==0)=false by simpa using c];rfl
def cnt1(op w m:Int)(nm:Str)(a:D.Term):cnt ⟨op,w,m,nm,[a]⟩=1+cnt a:=by rw[X3];simp only[WL,X7];omega
def cnt2(op w m:Int)(nm:Str)(a b:D.Term):cnt ⟨op,w,m,nm,[a,b]⟩=1+cnt a+cnt b:=by rw[X3];simp only[WL,X7];omega
def cnt3(op w m:Int)(nm:Str)(a b c:D.Term):cnt ⟨op,w,m,nm,[a,b,c]⟩=1+cnt a+cnt b+cnt c:=by rw[X3];simp only[WL,X7];omega
def cnt0(w v:Int):cnt ⟨0,w,v,⟨[]⟩,[]⟩=1:=by rw[X3];simp only[X7]
def VQ(t:D.Term):1<=cnt t:=by rw[X3];omega
def Tc{a:D.Term}(h:nodeB a=true)(ho:a.Op=19):∃c,a=⟨19,a.W,a.N,⟨[]⟩,[c]⟩/\nodeB c=true/\0<=a.N/\a.N<=16/\a.N+a.W<=c.W:=by
 obtain⟨aop,aw,am,anm,aks⟩:=a;simp only at ho;subst ho;obtain⟨_,hs⟩:=Yy h;rcases hs with h|h|h|h|h|h|⟨_,rfl,h0,h1,c,rfl,h2,h3⟩|h
 ·exfalso;have:=h.1;omega
 ·exfalso;have:=h.1;omega
 ·exfalso;have:=h.1;omega
 ·exfalso;have:=h.2.1;omega
 ·exfalso;have:=h.1;omega
 ·exfalso;have:=h.1;omega
 ·exact⟨c,rfl,h2,h0,h1,h3⟩
 ·exfalso;have:=h.1;omega
def SV{a:D.Term}{op:Int}(h:nodeB a=true)(ho:a.Op=op)(hop:op=20\/op=21):∃c,a=⟨op,a.W,0,⟨[]⟩,[c]⟩/\nodeB c=true/\c.W<=a.W:=by
 obtain⟨aop,aw,am,anm,aks⟩:=a;simp only at ho;subst ho;obtain⟨_,hs⟩:=Yy h;rcases hs with h|h|h|h|h|h|h|⟨_,rfl,rfl,c,rfl,h2,h3⟩
 ·exfalso;have:=h.1;omega
 ·exfalso;have:=h.1;omega
 ·exfalso;have:=h.1;omega
 ·exfalso;have:=h.2.1;omega
 ·exfalso;have:=h.1;omega
 ·exfalso;have:=h.1;omega
 ·exfalso;have:=h.1;omega
 ·exact⟨c,rfl,h2,h3⟩
def Si{a:D.Term}(h:nodeB a=true)(ho:a.Op=1):∃c,a=⟨1,a.W,0,⟨[]⟩,[c]⟩/\nodeB c=true/\c.W=a.W:=by
 obtain⟨aop,aw,am,anm,aks⟩:=a;simp only at ho;subst ho;obtain⟨_,hs⟩:=Yy h;rcases hs with h|h|⟨_,rfl,rfl,c,rfl,h2,h3⟩|h|h|h|h|h
 ·exfalso;have:=h.1;omega
 ·exfalso;have:=h.1;omega
 ·exact⟨c,rfl,h2,h3⟩
 ·exfalso;have:=h.1;omega
 ·exfalso;have:=h.1;omega
 ·exfalso;have:=h.1;omega
 ·exfalso;have:=h.1;omega
 ·exfalso;have:=h.1;omega
def PK{a:D.Term}(h:nodeB a=true)(ho:a.Op=18):∃b c,a=⟨18,a.W,0,⟨[]⟩,[b,c]⟩/\nodeB b=true/\nodeB c=true/\b.W+c.W=a.W:=by
 obtain⟨aop,aw,am,anm,aks⟩:=a;simp only at ho;subst ho;obtain⟨_,hs⟩:=Yy h;rcases hs with h|h|h|h|h|⟨_,rfl,rfl,b,c,rfl,h2,h3,h4⟩|h|h
 ·exfalso;have:=h.1;omega
 ·exfalso;have:=h.1;omega
 ·exfalso;have:=h.1;omega
 ·exfalso;have:=h.2.1;omega
 ·exfalso;have:=h.1;omega
 ·exact⟨b,c,rfl,h2,h3,h4⟩
 ·exfalso;have:=h.1;omega
 ·exfalso;have:=h.1;omega
def Ir{a:D.Term}{op:Int}(h:nodeB a=true)(e:a.Op=op)(ho:op=1\/op=2):∃c,a=⟨op,a.W,0,⟨[]⟩,[c]⟩/\nodeB c=true/\c.W=a.W:=by
 obtain⟨aop,aw,am,anm,aks⟩:=a;obtain⟨_,hs⟩:=Yy h;grind
def Ux{k:Nat}{op w m:Int}{nm:Str}{ks:List D.Term}(hk:ks≠[])(hl:ks.length<=3)(hc:(ks.all λx=>x.Op==0)=false):Zu (k+8) ⟨op,w,m,nm,ks⟩=
   if((op==1)||(op==2))then
    Yr ⟨op,w,m,nm,ks⟩
   else
    if(op==17)then
     Yv (k+7) ⟨op,w,m,nm,ks⟩
    else
     if(op==19)then
      Yh (k+7) ⟨op,w,m,nm,ks⟩
     else
      if((op==20)||(op==21))then
       ZR (k+7) ⟨op,w,m,nm,ks⟩
      else
       if(op==18)then
        ZQ (k+7) ⟨op,w,m,nm,ks⟩
       else
        Z5 (k+7) ⟨op,w,m,nm,ks⟩:=by
 rw[show k+8=(k+7)+1 from rfl,Zu];simp only[XF];rw[Cu (by rw[Zb];simpa using hk),TQ O O,hc];simp only[Cm,Cn,Cy]
def Um{k:Nat}{op w m:Int}{nm:Str}{ks:List D.Term}(hl:ks.length<=3)(hc:(decide (len ks>0)&&ks.all λx=>x.Op==0)=false):Zt (k+8) ⟨op,w,m,nm,ks⟩=
  if decide (3<=op/\op<=16)then
   Ve (k+7) ⟨op,w,m,nm,ks⟩
  else
   if((op==1)||(op==2))then
    (get? ks 0).bind λx7=>
    if(x7.Op==op)then
     (get? ks 0).bind λx8=>
     get? x8.Kids 0
    else
     some ⟨op,w,m,nm,ks⟩
   else
    if(op==17)then
     TU (k+7) ⟨op,w,m,nm,ks⟩
    else
     if(op==19)then
      UD (k+7) ⟨op,w,m,nm,ks⟩
     else
      if ((op==20)||(op==21))then
       (get? ks 0).bind λx12=>
       if(x12.W==w)then
        some x12
       else
        if(x12.Op==op)then
         Zt (k+7) (D.Term.mk op w 0 ⟨[]⟩ x12.Kids)
        else
         some ⟨op,w,m,nm,ks⟩
      else
       if(op==18)then
        (get? ks 0).bind λx14=>
        (get? ks 1).bind λx15=>
        (if((x14.Op==19)&&(x15.Op==19))then(get? x14.Kids 0)else some default).bind λx16=>
        (if((x14.Op==19)&&(x15.Op==19))then(get? x15.Kids 0)else some default).bind λx17=>
        (if((x14.Op==19)&&(x15.Op==19))then(Y7 (k+7) x16 x17)else some default).bind λx18=>
        if((((x14.Op==19)&&(x15.Op==19))&&x18)&&(x14.N==(w64 (x15.N+x15.W))))then
         Zt (k+7) (D.Term.mk 19 w x15.N ⟨[]⟩ x15.Kids)
        else
         some ⟨op,w,m,nm,ks⟩
       else
        some ⟨op,w,m,nm,ks⟩:=by
 rw[show k+8=(k+7)+1 from rfl,Zt];simp only[XF,Y6];rw[Pb O O,hc];simp only[Cm,Cn,Cy]
def rdI(w:Int)(a b c:D.Term):D.Term⊕D.Term:=
 if a.Op=0/\a.N=1 then .inl b else if a.Op=0 then .inl c else if ctm b c=0 then .inl b
 else if a.Op=1 then .inr ⟨17,w,0,⟨[]⟩,[kd a 0,c,b]⟩
 else if w=1/\b.Op=0/\b.N=1/\c.Op=0/\c.N=0 then .inl a
 else if w=1/\b.Op=0/\b.N=0/\c.Op=0/\c.N=1 then .inr ⟨1,1,0,⟨[]⟩,[a]⟩
 else .inl ⟨17,w,0,⟨[]⟩,[a,b,c]⟩
def rdC(w m:Int)(a:D.Term):D.Term⊕D.Term:=
 if w=a.W then .inl a
 else if a.Op=19 then .inr ⟨19,w,m+a.N,⟨[]⟩,[kd a 0]⟩
 else if a.Op=18/\m+w<=(kd a 1).W then .inr ⟨19,w,m,⟨[]⟩,[kd a 1]⟩
 else if a.Op=18/\(kd a 1).W<=m then .inr ⟨19,w,m-(kd a 1).W,⟨[]⟩,[kd a 0]⟩
 else if(a.Op=20\/a.Op=21)/\m+w<=(kd a 0).W then .inr ⟨19,w,m,⟨[]⟩,[kd a 0]⟩
 else .inl ⟨19,w,m,⟨[]⟩,[a]⟩
def rdW(op w:Int)(a:D.Term):D.Term⊕D.Term:=
 if a.W=w then .inl a else if a.Op=op then .inr ⟨op,w,0,⟨[]⟩,[kd a 0]⟩else .inl ⟨op,w,0,⟨[]⟩,[a]⟩
def rdJ(w:Int)(a b:D.Term):D.Term⊕D.Term:=
 if a.Op=19/\b.Op=19/\a.N=b.N+b.W/\ctm (kd a 0) (kd b 0)=0 then .inr ⟨19,w,b.N,⟨[]⟩,[kd b 0]⟩else .inl ⟨18,w,0,⟨[]⟩,[a,b]⟩
def rdU(op w:Int)(a:D.Term):D.Term⊕D.Term:=if a.Op=op then .inl (kd a 0)else .inl ⟨op,w,0,⟨[]⟩,[a]⟩
def Stp(t:D.Term)(s:D.Term⊕D.Term):Prop:=∀k out,1100000<=k->((∀m,k<=m->runS Zu m s=some out)->Zu (k+8) t=some out)/\((∀m,k<=m->runS Zt m s=some out)->Zt (k+8) t=some out)
def FZ{op w:Int}{a:D.Term}(ho:op=1\/op=2)(ha:nodeB a=true)(hc:(a.Op==0)=false):Stp ⟨op,w,0,⟨[]⟩,[a]⟩ (rdU op w a):=λk out hk=>by
 rw[Ux U U aI,Um U aI];have kb:a.Op=op->get? a.Kids 0=some (kd a 0):=λe=>by
  obtain⟨c,eb,-⟩:=Ir ha e ho;unfold kd;rw[eb];rfl
 unfold rdU;refine⟨λh=>?_,λh=>?_⟩<;>replace h:=h k O<;>by_cases e:a.Op=op
 all_goals(rcases ho with rfl|rfl<;>simp[Yr,get0,e]at kb h⊢<;>grind[runS])
def FP{w:Int}{a b c:D.Term}(ha:nodeB a=true)(hb:nodeB b=true)(h1:a.W=1)(hc:(a.Op==0&&(b.Op==0&&c.Op==0))=false)(hn:cnt b<=240):Stp ⟨17,w,0,⟨[]⟩,[a,b,c]⟩ (rdI w a b c):=λk out hk=>by
 have hc':([a,b,c].all λx=>x.Op==0)=false:=by simpa using hc
 have hmb:=Tj hb;have i2:Yf (k+6) b c=some (ctm b c==0):=Qd O O;have s2:Y7 (k+6) b c=some (ctm b c==0):=RJ O O;have w1:a.Op=0->a.N=0\/a.N=1:=λe0=>by
  have:=(Yi ha e0).2;rw[h1]at this;have:=(Zv O O a.N).1 this;have:(2:Int)^(1:Int).toNat=2:=rfl;omega
 have kb:a.Op=1->get? a.Kids 0=some (kd a 0):=λe=>by
  obtain⟨c,eb,-⟩:=Si ha e;unfold kd;rw[eb];rfl
 rw[Ux U U hc',Um U (by rw[hc'];simp)];unfold rdI;clear hc hc';refine⟨λh=>?_,λh=>?_⟩
 ·have h5:=h (k+5) O;clear h;by_cases e:a.Op=1<;>by_cases e0:a.Op=0<;>by_cases e1:w=1<;>by_cases q1:b.Op=0<;>by_cases q2:c.Op=0<;>simp[q1,q2,Yv,Zm,Z8,Zx,XF,get0,get1,get2',i2,e,e0,e1]at h5⊢<;>grind[runS]
 ·have h5:=h (k+6) O;clear h;by_cases e:a.Op=1<;>by_cases e0:a.Op=0<;>by_cases e1:w=1<;>by_cases q1:b.Op=0<;>by_cases q2:c.Op=0<;>simp[q1,q2,TU,YE,XF,get0,get1,get2',s2,e,e0,e1]at h5⊢<;>grind[runS]
def Fg{op w:Int}{a:D.Term}(ho:op=20\/op=21)(ha:nodeB a=true)(hc:(a.Op==0)=false):Stp ⟨op,w,0,⟨[]⟩,[a]⟩ (rdW op w a):=λk out hk=>by
 have kb:a.Op=op->get? a.Kids 0=some (kd a 0)/\a.Kids=[kd a 0]:=λe=>by
  obtain⟨c,eb,-⟩:=SV ha e ho;unfold kd;rw[eb];exact⟨rfl,rfl⟩
 rw[Ux U U aI,Um U aI];unfold rdW;refine⟨λh=>?_,λh=>?_⟩
 ·have h5:=h (k+5) O;rcases ho with rfl|rfl<;>simp[ZR,Zm,XF,get0]<;>grind[runS]
 ·have h5:=h (k+7) O;rcases ho with rfl|rfl<;>simp[XF,get0]<;>grind[runS]
def HZ{w m:Int}{a:D.Term}(ha:nodeB a=true)(h0:0<=m)(hm:m<=16)(h1:1<=w)(hw:m+w<=a.W)(hc:(a.Op==0)=false):Stp ⟨19,w,m,⟨[]⟩,[a]⟩ (rdC w m a):=λk out hk=>by
 have g:=YN ha;have w1:w64 (m+w)=m+w:=Zf;have k9:a.Op=19->get? a.Kids 0=some (kd a 0)/\w64 (m+a.N)=m+a.N:=λe=>by
  obtain⟨c,eb,-,n0,n1,-⟩:=Tc ha e;unfold kd;rw[Zf,eb];exact⟨rfl,rfl⟩
 have k8:a.Op=18->get? a.Kids 0=some (kd a 0)/\get? a.Kids 1=some (kd a 1)/\w64 (m-(kd a 1).W)=m-(kd a 1).W:=λe=>by
  obtain⟨b,c,eb,h2,h3,-⟩:=PK ha e;have:=YN h3;have e1:kd a 1=c:=by unfold kd;rw[eb];rfl
  rw[e1,Zf];unfold kd;rw[eb];exact⟨rfl,rfl,rfl⟩
 have k0:a.Op=20\/a.Op=21->get? a.Kids 0=some (kd a 0):=λe=>by
  obtain⟨c,eb,-⟩:=SV ha rfl e;unfold kd;rw[eb];rfl
 rw[Ux U U aI,Um U aI];unfold rdC;refine⟨λh=>?_,λh=>?_⟩<;>replace h:=h (k+5) O<;>by_cases e:w=a.W
 all_goals by_cases e9:a.Op=19
 all_goals by_cases e8:a.Op=18
 all_goals by_cases e0:a.Op=20\/a.Op=21
 all_goals simp[Yh,Zm,UD,Vg,XF,Y6,get0,w1,e,e9,e8,e0]at k9 k8 k0 h⊢
 all_goals grind[runS]
def KT{w:Int}{a b:D.Term}(ha:nodeB a=true)(hb:nodeB b=true)(hc:(a.Op==0&&b.Op==0)=false)(hn:cnt a<=240):Stp ⟨18,w,0,⟨[]⟩,[a,b]⟩ (rdJ w a b):=λk out hk=>by
 have hc':([a,b].all λx=>x.Op==0)=false:=by simpa using hc
 have gb:=YN hb;have kb:a.Op=19->b.Op=19->get? a.Kids 0=some (kd a 0)/\b.Kids=[kd b 0]/\w64 (b.N+b.W)=b.N+b.W/\Yf (k+6) (kd a 0) (kd b 0)=some (ctm (kd a 0) (kd b 0)==0)/\Y7 (k+7) (kd a 0) (kd b 0)=some (ctm (kd a 0) (kd b 0)==0):=λe e1=>by
  obtain⟨c,ea,hcc,-⟩:=Tc ha e;obtain⟨d,eb,-,n0,n1,-⟩:=Tc hb e1;have:=Tj hcc;rw[ea,cnt1]at hn;have e2:kd a 0=c:=by unfold kd;rw[ea];rfl
  have e3:kd b 0=d:=by unfold kd;rw[eb];rfl
  rw[e2,e3,Zf,Qd O O,RJ O O,ea,eb];exact⟨rfl,rfl,rfl,rfl,rfl⟩
 rw[Ux U U hc',Um U (by rw[hc'];simp)];clear hc hc';unfold rdJ;by_cases e:a.Op=19/\b.Op=19
 ·obtain⟨k1,k2,k3,k4,k5⟩:=kb e.1 e.2;refine⟨λh=>?_,λh=>?_⟩<;>have h5:=h (k+5) O<;>have h7:=h (k+7) O<;>clear h<;>by_cases q:a.N=b.N+b.W
  all_goals simp[ZQ,Zm,XF,get0,get1,e.1,e.2,k1,k2,k3,k4,k5,q]at h5 h7⊢
  all_goals grind[runS]
 ·refine⟨λh=> ?_,λh=> ?_⟩<;>replace h:=h k O<;>by_cases e1:a.Op=19<;>by_cases e2:b.Op=19
  all_goals simp[ZQ,get0,get1,e1,e2]at e h⊢
  all_goals grind[runS]
def EB{k:Nat}{op w:Int}{a b out:D.Term}(h3:3<=op)(h16:op<=16)(ha:nodeB a=true)(hb:nodeB b=true)(hw:a.W=b.W)(h1:op<=13->a.W=w)(h2:14<=op->w=1)
  (hc:(a.Op==0&&b.Op==0)=false)(hn:cnt a<=240)(hk:1100000<=k)(h:∀m,k<=m->runS Zu m (rdB op w a b)=some out):Z5 (k+7) ⟨op,w,0,⟨[]⟩,[a,b]⟩=some out:=by
 have hma:=Tj ha;have i1:ZC (k+6) a b=some (ctm a b):=Mf _ _ _ O O;have i2:Yf (k+6) a b=some (ctm a b==0):=Qd O O;obtain⟨o1,-,o3,o4⟩:=Iq ha;have ga:=YN ha;have hz:=LU (w:=w) O O;have ea:a.Op=0->a=⟨0,a.W,a.N,⟨[]⟩,[]⟩/\wordB a.W a.N=true:=Yi ha;have c0:=Yt hz;have c1:=Yt (w:=1) (v:=0) ag;have c2:=Yt (w:=1) (v:=1) ag;have c3:=Yt o4;have w1:a.W=1->a.Op=0->a.N=0\/a.N=1:=λe e0=>by
  have:=(ea e0).2;rw[e]at this;have:=(Zv O O a.N).1 this;have:(2:Int)^(1:Int).toNat=2:=rfl;omega
 have hop:op=3\/op=4\/op=5\/op=6\/op=7\/op=8\/op=9\/op=10\/op=11\/op=12\/op=13\/op=14\/op=15\/op=16:=by omega
 have kb:b.Op=op->get? b.Kids 0=some (kd b 0)/\get? b.Kids 1=some (kd b 1)/\((kd b 0).Op=0->op<=13->a.Op=0->∃r,ZA op w a.N (kd b 0).N=some r/\Zk w r=some ⟨0,w,r,⟨[]⟩,[]⟩):=λe=>by
  obtain⟨c,d,eb,hcc,hd,hcd,hcw⟩:=QF hb e h3 h16;unfold kd;rw[eb];refine⟨rfl,rfl,λe2 o e0=>?_⟩;obtain⟨ec,vc⟩:=Yi hcc e2;obtain⟨r,q1,q2⟩:=YK op w a.N c.N;exact⟨r,q2,Yt ((QU q1 (by rw[<-h1 o];exact(ea e0).2) (by rw[<-h1 o,hw,<-hcw o];exact vc)).1 ⟨h3,o⟩)⟩
 have h4:=h (k+4) O;have h5:=h (k+5) O;clear h;unfold rdB at h4 h5;by_cases e0:a.Op=0<;>by_cases e1:b.Op=op
 ·obtain⟨g0,g1,g2⟩:=kb e1;by_cases e2:(kd b 0).Op=0/\op<=13
  ·obtain⟨r,g3,g4⟩:=g2 e2.1 e2.2 e0;have e3:=e2.1;rcases hop with rfl|rfl|rfl|rfl|rfl|rfl|rfl|rfl|rfl|rfl|rfl|rfl|rfl|rfl<;>by_cases z:a.N=0<;>simp[z,Z5,YH,Z8,Zx,get0,get1,i1,i2,o1,sws,ZJ,Zm,XF,e0,e1,e3,g0,g1,g3,g4]at h4 h5⊢<;>grind[runS]
  ·rcases hop with rfl|rfl|rfl|rfl|rfl|rfl|rfl|rfl|rfl|rfl|rfl|rfl|rfl|rfl<;>by_cases z:a.N=0<;>simp[z,Z5,YH,Z8,Zx,get0,get1,i1,i2,o1,sws,ZJ,Zm,XF,e0,e1,g0,g1]at e2 h4 h5⊢<;>grind[runS]
 all_goals rcases hop with rfl|rfl|rfl|rfl|rfl|rfl|rfl|rfl|rfl|rfl|rfl|rfl|rfl|rfl<;>by_cases z:a.N=0<;>simp[z,Z5,YH,Z8,Zx,get0,get1,i1,i2,o1,sws,ZJ,Zm,XF,e0,e1]at h4 h5⊢<;>grind[runS]
def Eh{k:Nat}{op w:Int}{a b out:D.Term}(h3:3<=op)(h16:op<=16)(ha:nodeB a=true)(hb:nodeB b=true)(hw:a.W=b.W)(h1:op<=13->a.W=w)(h2:14<=op->w=1)
  (hc:(a.Op==0&&b.Op==0)=false)(hn:cnt a<=240)(hk:1100000<=k)(h:∀m,k<=m->runS Zt m (rdB op w a b)=some out):Ve (k+7) ⟨op,w,0,⟨[]⟩,[a,b]⟩=some out:=by
 have hma:=Tj ha;have i1:Yj (k+6) a b=some (ctm a b):=ND _ _ _ O O;have i2:Y7 (k+6) a b=some (ctm a b==0):=RJ O O;have gt:=GZ a b;obtain⟨-,o1,o3,o4⟩:=Iq ha;have ea:a.Op=0->a=⟨0,a.W,a.N,⟨[]⟩,[]⟩/\wordB a.W a.N=true:=Yi ha;have w1:a.W=1->a.Op=0->a.N=0\/a.N=1:=λe e0=>by
  have:=(ea e0).2;rw[e]at this;have:=(Zv O O a.N).1 this;have:(2:Int)^(1:Int).toNat=2:=rfl;omega
 have hop:op=3\/op=4\/op=5\/op=6\/op=7\/op=8\/op=9\/op=10\/op=11\/op=12\/op=13\/op=14\/op=15\/op=16:=by omega
 have h4:=h (k+5) O;have h5:=h (k+6) O;clear h;unfold rdB at h4 h5;obtain⟨r,q1,q2⟩:=YK op w a.N (kd b 0).N;have kb:b.Op=op->get? b.Kids 0=some (kd b 0)/\get? b.Kids 1=some (kd b 1):=λe=>by
  obtain⟨c,d,eb,-⟩:=QF hb e h3 h16;unfold kd;rw[eb];exact⟨rfl,rfl⟩
 by_cases e1:b.Op=op
 ·obtain⟨g0,g1⟩:=kb e1;rcases hop with rfl|rfl|rfl|rfl|rfl|rfl|rfl|rfl|rfl|rfl|rfl|rfl|rfl|rfl<;>by_cases e0:a.Op=0<;>by_cases z:a.N=0<;>simp[z,Ve,VU,VV,YE,XF,TM,get0,get1,i1,i2,o1,sws,Y6,e0,e1,g0,g1,q1,q2]at h4 h5⊢<;>grind[runS]
 ·rcases hop with rfl|rfl|rfl|rfl|rfl|rfl|rfl|rfl|rfl|rfl|rfl|rfl|rfl|rfl<;>by_cases e0:a.Op=0<;>by_cases z:a.N=0<;>simp[z,Ve,VU,VV,YE,XF,TM,get0,get1,i1,i2,o1,sws,Y6,e0,e1]at h4 h5⊢<;>grind[runS]
def swp(t:D.Term):Nat:=match t.Kids with
 |[a,b]=>if 0<ctm a b then 1 else 0
 |_=>0
def mea(t:D.Term):Nat:=2*cnt t+swp t
def GN(t:D.Term):swp t<=1:=by
 unfold swp;split
 ·split<;>omega
 ·omega
def Good(t:D.Term):D.Term⊕D.Term->Prop
 |.inl r=>nodeB r=true/\r.W=t.W/\cnt r<=cnt t
 |.inr u=>nodeB u=true/\u.W=t.W/\cnt u<=cnt t/\mea u<mea t
def Xy{t u:D.Term}(h:nodeB u=true)(hw:u.W=t.W)(hc:cnt u<cnt t):Good t (.inr u):=by
 have:=GN u;exact⟨h,hw,by omega,by unfold mea;omega⟩
def MS{op w:Int}{a:D.Term}(ho:op=1\/op=2)(ha:nodeB a=true)(hw:a.W=w):nodeB ⟨op,w,0,⟨[]⟩,[a]⟩=true:=hw▸DT ho ha
def FI{w:Int}{a b:D.Term}(ha:nodeB a=true)(hb:nodeB b=true)(hw:a.W+b.W=w)(h16:w<=16):nodeB ⟨18,w,0,⟨[]⟩,[a,b]⟩=true:=by
 have g1:=YN ha;have g2:=YN hb;rw[Yo,Zz];simp[locB,shB,WF,ha,hb,hw,h16,show 1<=w by omega]
def kd0(op w m:Int)(nm:Str)(x:D.Term)(l:List D.Term):kd ⟨op,w,m,nm,x::l⟩ 0=x:=rfl
def kd1(op w m:Int)(nm:Str)(x y:D.Term)(l:List D.Term):kd ⟨op,w,m,nm,x::y::l⟩ 1=y:=rfl
def Et{op w:Int}{a:D.Term}(ho:op=1\/op=2)(ha:nodeB a=true)(hw:a.W=w):Good ⟨op,w,0,⟨[]⟩,[a]⟩ (rdU op w a):=by
 unfold rdU;split
 ·rename_i e;obtain⟨c,ea,hcc,hcw⟩:=Ir ha e ho;rw[ea,kd0];exact⟨hcc,by rw[hcw,hw],by rw[cnt1,cnt1];omega⟩
 ·exact⟨MS ho ha hw,rfl,CK _⟩
def IG{op w:Int}{a:D.Term}(ho:op=20\/op=21)(ha:nodeB a=true)(hw:a.W<=w)(h16:w<=16):Good ⟨op,w,0,⟨[]⟩,[a]⟩ (rdW op w a):=by
 unfold rdW;split
 ·exact⟨ha,‹_›,by rw[cnt1];omega⟩
 ·split
  ·rename_i e;obtain⟨c,ea,hcc,hcw⟩:=SV ha e ho;rw[ea,kd0];exact Xy (Gh ho hcc h16 O) rfl (by rw[cnt1,cnt1,cnt1];omega)
  ·exact⟨Gh ho ha h16 hw,rfl,CK _⟩
def Ea{w:Int}{a b c:D.Term}(ha:nodeB a=true)(hb:nodeB b=true)(hcc:nodeB c=true)(h1:a.W=1)(h2:b.W=w)(h3:c.W=w):Good ⟨17,w,0,⟨[]⟩,[a,b,c]⟩ (rdI w a b c):=by
 have pa:=VQ a;have pb:=VQ b;have pc:=VQ c;unfold rdI
 repeat' split
 ·exact⟨hb,h2,by rw[cnt3];omega⟩
 ·exact⟨hcc,h3,by rw[cnt3];omega⟩
 ·exact⟨hb,h2,by rw[cnt3];omega⟩
 ·obtain⟨d,ea,hd,hdw⟩:=Si ha ‹_›;rw[ea,kd0];exact Xy (EH hd hcc hb O h3 h2) rfl (by rw[cnt3,cnt3,cnt1];omega)
 ·exact⟨ha,by rw[h1];exact Eq.symm (And.left ‹_›),by rw[cnt3];omega⟩
 ·exact Xy (MS (.inl rfl) ha h1) (Eq.symm (And.left ‹_›)) (by rw[cnt1,cnt3];omega)
 ·exact⟨EH ha hb hcc h1 h2 h3,rfl,CK _⟩
def Jg{w:Int}{a b:D.Term}(ha:nodeB a=true)(hb:nodeB b=true)(hw:a.W+b.W=w)(h16:w<=16):Good ⟨18,w,0,⟨[]⟩,[a,b]⟩ (rdJ w a b):=by
 have ga:=YN ha;have gb:=YN hb;unfold rdJ;split
 ·rename_i h;obtain⟨e1,e2,e3,e4⟩:=h;obtain⟨c,ea,hcc,a0,a16,hcw⟩:=Tc ha e1;obtain⟨d,eb,hd,b0,b16,hdw⟩:=Tc hb e2;rw[ea,eb,kd0,kd0]at e4;have hcd:=DV e4;rw[show kd b 0=d by rw[eb];rfl];exact Xy (RP hd b0 O O) rfl (by rw[ea,eb,cnt1,cnt2,cnt1,cnt1];omega)
 ·exact⟨FI ha hb hw h16,rfl,CK _⟩
def IX{w m:Int}{a:D.Term}(ha:nodeB a=true)(h0:0<=m)(hm:m<=16)(h1:1<=w)(hw:m+w<=a.W):Good ⟨19,w,m,⟨[]⟩,[a]⟩ (rdC w m a):=by
 unfold rdC
 repeat' split
 ·exact⟨ha,Eq.symm ‹_›,by rw[cnt1];omega⟩
 ·obtain⟨c,ea,hcc,b0,b16,hcw⟩:=Tc ha ‹_›;rw[ea,kd0];exact Xy (RP hcc (by show 0<=m+a.N;omega) h1 (by show m+a.N+w<=_;omega)) rfl (by rw[cnt1,cnt1,cnt1];omega)
 ·rename_i h;obtain⟨b,c,ea,hb,hcc,hbc⟩:=PK ha h.1;rw[ea,kd1]at h⊢;exact Xy (RP hcc h0 h1 h.2) rfl (by rw[cnt1,cnt1,cnt2];omega)
 ·rename_i h;obtain⟨b,c,ea,hb,hcc,hbc⟩:=PK ha h.1;rw[ea,kd1]at h;rw[ea,kd1,kd0];exact Xy (RP hb O h1 O) rfl (by rw[cnt1,cnt1,cnt2];omega)
 ·rename_i h;obtain⟨c,ea,hcc,hcw⟩:=SV ha rfl h.1;rw[ea,kd0]at h;rw[show kd a 0=c by rw[ea];rfl];exact Xy (RP hcc h0 h1 h.2) rfl (by rw[ea,cnt1,cnt1,cnt1];omega)
 ·exact⟨RP ha h0 h1 hw,rfl,CK _⟩
def Iu{op w:Int}{a b:D.Term}(h3:3<=op)(h16:op<=16)(ha:nodeB a=true)(hb:nodeB b=true)(hw:a.W=b.W)(h1:op<=13->a.W=w)(h2:14<=op->w=1):Good ⟨op,w,0,⟨[]⟩,[a,b]⟩ (rdB op w a b):=by
 have ga:=YN ha;have pa:=VQ a;have pb:=VQ b;have hs:sws op=true->op=3\/op=5\/op=8\/op=9\/op=10\/op=14:=λe=>by simpa[sws,or_assoc]using e
 have hz:=LU (w:=w) O O;unfold rdB
 repeat' split
 ·rename_i h;refine⟨Lv h3 h16 hb ha hw.symm (λo=>by have:=h1 o;omega) h2,rfl,by rw[cnt2,cnt2];omega,?_⟩;have e:ctm b a=-1:=by rw[FO,h.2]
  unfold mea swp;rw[cnt2,cnt2];simp[e,h.2];omega
 ·exact⟨hb,by show b.W=w;grind,by rw[cnt2];omega⟩
 ·exact⟨ha,by show a.W=w;grind,by rw[cnt2];omega⟩
 ·exact Xy (MS (.inl rfl) hb ar) rfl (by rw[cnt1,cnt2];omega)
 ·exact⟨ha,by show a.W=w;grind,by rw[cnt2];omega⟩
 ·exact⟨VE ag,by show 1=w;grind,by rw[cnt2,cnt0];omega⟩
 ·exact⟨ha,by show a.W=w;grind,by rw[cnt2];omega⟩
 ·exact⟨VE hz,rfl,by rw[cnt2,cnt0];omega⟩
 ·exact⟨VE ag,by show 1=w;grind,by rw[cnt2,cnt0];omega⟩
 ·rename_i h;obtain⟨q1,q2,q3,q4,q5⟩:=h;have:=hs q1;obtain⟨c,d,eb,hcc,hd,hcd,hcw⟩:=QF hb q4 h3 h16;rw[show kd b 0=c by rw[eb];rfl]at q5⊢;rw[show kd b 1=d by rw[eb];rfl];obtain⟨ea,va⟩:=Yi ha q3;obtain⟨ec,vc⟩:=Yi hcc q5;obtain⟨r,s1,s2⟩:=YK op w a.N c.N;have o:op<=13:=by omega
  have vr:wordB w r=true:=(QU s1 (by rw[<-h1 o];exact va) (by rw[<-h1 o,hw,<-hcw o];exact vc)).1 ⟨h3,o⟩;rw[s2,Bh];have pc:=VQ c;exact Xy (Lv h3 h16 (VE vr) hd (by show w=d.W;have:=hcw o;have:=h1 o;omega) (λ_=>rfl) (λo=>by omega)) rfl (by rw[eb,cnt2,cnt2,cnt2,cnt0];omega)
 ·exact⟨Lv h3 h16 ha hb hw h1 h2,rfl,CK _⟩
def GD{op w:Int}{a b:D.Term}(h3:3<=op)(h16:op<=16)(ha:nodeB a=true)(hb:nodeB b=true)(hw:a.W=b.W)(h1:op<=13->a.W=w)(h2:14<=op->w=1)(hc:(a.Op==0&&b.Op==0)=false)(hn:cnt a<=240):Stp ⟨op,w,0,⟨[]⟩,[a,b]⟩ (rdB op w a b):=λk out hk=>by
 have hc':([a,b].all λx=>x.Op==0)=false:=by simpa using hc
 rw[Ux U U hc',Um U (by rw[hc'];simp),show((op==1)||(op==2))=false by simp;omega,show(op==17)=false by simp;omega,show(op==19)=false by simp;omega,show((op==20)||(op==21))=false by simp;omega,show(op==18)=false by simp;omega,decide_eq_true (show 3<=op/\op<=16 from⟨h3,h16⟩)];exact⟨EB h3 h16 ha hb hw h1 h2 hc hn hk,Eh h3 h16 ha hb hw h1 h2 hc hn hk⟩
def rd(t:D.Term):D.Term⊕D.Term:=
 if t.Kids≠[]/\(t.Kids.all λx=>x.Op==0)=true then .inl ⟨0,t.W,(Za 2 t none).getD 0,⟨[]⟩,[]⟩else
 match t.Kids with
 |[a]=>if t.Op<=2 then rdU t.Op t.W a else if t.Op=19 then rdC t.W t.N a else rdW t.Op t.W a
 |[a,b]=>if t.Op=18 then rdJ t.W a b else rdB t.Op t.W a b
 |[a,b,c]=>rdI t.W a b c
 |_=>.inl t
def step{t:D.Term}(h:nodeB t=true)(hn:cnt t<=240):Good t (rd t)/\Stp t (rd t):=by
 obtain⟨op,w,m,nm,ks⟩:=t;obtain⟨⟨w1,w2⟩,hs⟩:=Yy h;by_cases hc:ks≠[]/\(ks.all λx=>x.Op==0)=true
 ·obtain⟨v,hv,h1,h2⟩:=known h hc.1 hc.2;have hl:ks.length<=3:=by
   rcases hs with⟨_,rfl,_⟩|⟨_,rfl,_⟩|⟨_,_,_,a,rfl,_⟩|⟨_,_,_,_,a,b,rfl,_⟩|⟨_,_,_,a,b,c,rfl,_⟩|⟨_,_,_,a,b,rfl,_⟩|⟨_,_,_,_,a,rfl,_⟩|⟨_,_,_,a,rfl,_⟩<;>simp
  rw[rd,Cr hc,h2 2 (CK _),Bh];refine⟨⟨VE hv,rfl,by rw[X3,X3];simp only[X7];omega⟩,λk out hk=>⟨λh=>?_,λh=>?_⟩⟩<;>rw[<-h k (CK _)]
  ·rw[show k+8=(k+7)+1 from rfl,Zu,Cu (by rw[Zb];simpa using hc.1),TQ (ks:=ks) (n:=k+7) O O,hc.2];simp only[Cm,CF,h2 (k+7) O,Yt hv];rfl
  ·have hd:decide (len ks>0)=true:=by
    rw[Zb];simp only[Cw];have:=List.length_pos_iff.2 hc.1;omega
   rw[show k+8=(k+7)+1 from rfl,Zt,Pb (ks:=ks) (n:=k+7) O O,hc.2,hd];simp only[Cm,AR,CF,h1,TM];rfl
 rw[rd,Cu hc];have hc:ks≠[]->(ks.all λx=>x.Op==0)=false:=λe=>by
  cases q:ks.all λx=>x.Op==0
  ·rfl
  ·exact absurd ⟨e,q⟩ hc
 have lf:ks=[]->op=0\/op=22->Good ⟨op,w,m,nm,ks⟩ (.inl ⟨op,w,m,nm,ks⟩)/\Stp ⟨op,w,m,nm,ks⟩ (.inl ⟨op,w,m,nm,ks⟩):=λe ho=>by
  subst e;refine⟨⟨h,rfl,CK _⟩,λk out hk=>⟨λh=>?_,λh=>?_⟩⟩<;>rw[<-h k (CK _)]
  ·rw[show k+8=(k+7)+1 from rfl,Zu,Cr aJ];rfl
  ·rw[Um U aJ];rcases ho with rfl|rfl<;>simp[runS]
 rcases hs with⟨ho,rfl,rfl,hv⟩|⟨ho,rfl,rfl⟩|⟨ho,rfl,rfl,a,rfl,ha,hw⟩|⟨h3,h16,rfl,rfl,a,b,rfl,ha,hb,hab,e1,e2⟩|⟨rfl,rfl,rfl,a,b,c,rfl,ha,hb,hcc,aw,bw,cw⟩|⟨rfl,rfl,rfl,a,b,rfl,ha,hb,hab⟩|⟨rfl,rfl,m0,m16,a,rfl,ha,haw⟩|⟨ho,rfl,rfl,a,rfl,ha,haw⟩
 ·exact lf rfl (.inl ho)
 ·exact lf rfl (.inr ho)
 ·have hc:(a.Op==0)=false:=by simpa using hc U
  show Good _ (if op<=2 then _ else _)/\Stp _ (if op<=2 then _ else _);rw[Cr O];exact⟨Et ho ha hw,FZ ho ha hc⟩
 ·have hc:(a.Op==0&&b.Op==0)=false:=by simpa using hc U
  rw[cnt2]at hn;show Good _ (if op=18 then _ else _)/\Stp _ (if op=18 then _ else _);rw[Cu O];exact⟨Iu h3 h16 ha hb hab e1 e2,GD h3 h16 ha hb hab e1 e2 hc O⟩
 ·rw[cnt3]at hn;exact⟨Ea ha hb hcc aw bw cw,FP ha hb aw aG O⟩
 ·rw[cnt2]at hn;exact⟨Jg ha hb hab w2,KT ha hb aG O⟩
 ·exact⟨IX ha m0 m16 w1 haw,HZ ha m0 m16 w1 haw aG⟩
 ·have hc:(a.Op==0)=false:=by simpa using hc U
  show Good _ (if op<=2 then _ else if op=19 then _ else _)/\Stp _ (if op<=2 then _ else if op=19 then _ else _);rw[Cu O,Cu O];exact⟨IG ho ha haw w2,Fg ho ha hc⟩
inductive Rch:D.Term->D.Term->Prop
 |fin {t r:D.Term}:rd t= .inl r->Rch t r
 |go {t u r:D.Term}:rd t= .inr u->Rch u r->Rch t r
theorem simpler:∀(d:Nat)(t:D.Term),mea t<=d->nodeB t=true->cnt t<=240->∃r,nodeB r=true/\r.W=t.W/\cnt r<=cnt t/\Rch t r/\∀n,1100000+8*(d+1)<=n->Zu n t=some r/\Zt n t=some r:=by
 intro d
 induction d with
 |zero=>
  intro t h;have:=VQ t;unfold mea at h;omega
 | succ d ih=>
  intro t hm h hn;obtain⟨hg,h1⟩:=step h hn;cases e:rd t with
  |inl r=>
   rw[e]at hg h1;refine⟨r,hg.1,hg.2.1,hg.2.2,.fin e,λn hn=>?_⟩;obtain⟨k,rfl⟩:∃k,n=k+8:=⟨n-8,by omega⟩;exact⟨(h1 k r O).1 λ_ _=>rfl,(h1 k r O).2 λ_ _=>rfl⟩
  |inr u=>
   rw[e]at hg h1;obtain⟨g1,g2,g3,g4⟩:=hg;obtain⟨r,q1,q2,q3,q0,q4⟩:=ih u O g1 O;refine⟨r,q1,by rw[q2,g2],by omega,.go e q0,λn hn=>?_⟩;obtain⟨k,rfl⟩:∃k,n=k+8:=⟨n-8,by omega⟩;exact⟨(h1 k r O).1 λm hm=>(q4 m O).1,(h1 k r O).2 λm hm=>(q4 m O).2⟩
def simple'{t:D.Term}(h:nodeB t=true)(hn:cnt t<=240):∃r,nodeB r=true/\r.W=t.W/\cnt r<=cnt t/\Rch t r/\Zu fuel t=some r/\Zt fuel t=some r:=by
 obtain⟨r,q1,q2,q3,q0,q4⟩:=simpler (mea t) t (CK _) h hn;have:=GN t;have e:mea t=2*cnt t+swp t:=rfl;exact⟨r,q1,q2,q3,q0,q4 _ aa⟩
def simple{t:D.Term}(h:nodeB t=true)(hn:cnt t<=240):∃r,nodeB r=true/\r.W=t.W/\cnt r<=cnt t/\Zu fuel t=some r/\Zt fuel t=some r:=by
 obtain⟨r,q1,q2,q3,-,q⟩:=simple' h hn;exact⟨r,q1,q2,q3,q⟩
theorem JE:∀n:Nat,(∀t:D.Term,msz t<=1048576->1048580+2*msz t+1<=n->YX n t=some t)/\(∀l:List D.Term,sml l->1048580+2*(l.length+mszs l)<=n->ZH n l=some l):=by
 intro n
 induction n with
 |zero=>exact⟨λt _ _=>by omega,λl _ _=>by omega⟩
 | succ n ih=>
  refine⟨λt h hn=>?_,λl h hn=>?_⟩
  ·have:=Wd t;unfold YX;rw[ih.2 t.Kids (by unfold sml;omega) O];cases t;rfl
  ·unfold sml at h;unfold ZH;by_cases c0:l.length=0
   ·have:l=[]:=BF.1 c0;subst this;rfl
   rw[Cu (by rw[Zb];simp;exact λe=>c0 (by simp[e])),mk?_len aD];simp only[Cm];obtain⟨r,g1,g2⟩:=Yg (l:=l) (n:=n) (σ:=List D.Term) (ρ:=List D.Term) (B:=λ(s1:Int×(List D.Term))=>if(decide (s1.1<(len l)))then(get? l s1.1).bind λx2=>(YX n x2).bind λx3=>(set? s1.2 s1.1 x3).bind λx4=>some (.inl ((w64 (s1.1+1)),x4))else some (.inr (s1.2))) (λk(a:List D.Term)=>((k:Int),a)) (λys a=>(∃pre zs:List D.Term,pre++ys=l/\a=pre++zs/\zs.length=ys.length)/\∀x∈ys,x∈l) (λr=>r=l)
     (λk x xs a hk' hx hlen⟨⟨pre,zs,h1,hz,hz'⟩,hm⟩=>by
      have hxl:=hm x U;have:=Wl hxl;have hl:=congrArg List.length h1;simp only[Bp,Ba]at hlen hz' hl;simp only[get?_nat,hx,Cm,Zb];rw[Cr (by simpa using hk'),ih.1 x O O];simp only[Cm];obtain⟨z,zs,rfl⟩:∃z zs',zs=z::zs':=by cases zs with|nil=>simp at hz'|cons z zs=>exact⟨_,_,rfl⟩
      have e1:pre.length=k:=by omega
      subst hz;rw[set?_nat ab];refine .inl ⟨(pre++z::zs).set k x,by simp only[Cm];rw[Zf];rfl,⟨pre++[x],zs,by simp[<-h1],?_,by simpa using hz'⟩,λy hy=>hm y aq⟩
      rw[Zac _ _ O,e1,AJ];simp)
     (λa⟨⟨pre,zs,h1,h2,h3⟩,_⟩=>by
      have hd:decide ((l.length:Int)<len l)=false:=by rw[Zb];simp
      simp only[hd,Cn,Cy];simp only[Zaj,BF]at h3;subst h3
      exact⟨_,rfl,by rw[h2];simpa using h1⟩) (a:=List.replicate l.length _) ⟨⟨[],_,rfl,rfl,by simp⟩,λ_ h=>h⟩ O
   rw[show((0:Nat):Int)=0 from rfl]at g1;rw[g1,g2];rfl
def Ls{t:D.Term}(h:nodeB t=true)(hn:cnt t<=240):msz t<=2640:=by
 have:=Tj h;omega
def t0:D.Term:=⟨0,0,0,⟨[]⟩,[]⟩
noncomputable def simp1(t:D.Term):D.Term:=(Zu fuel t).getD t0
def Rb{t:D.Term}(h:nodeB t=true)(hn:cnt t<=240):nodeB (simp1 t)=true/\(simp1 t).W=t.W/\cnt (simp1 t)<=cnt t/\Zu fuel t=some (simp1 t)/\Zt fuel t=some (simp1 t):=by
 obtain⟨r,q1,q2,q3,q4,q5⟩:=simple h hn;have e:simp1 t=r:=by unfold simp1;rw[q4];rfl
 rw[e];exact⟨q1,q2,q3,q4,q5⟩
def VR{t:D.Term}(h:termB t=true):nodeB t=true/\cnt t<=240:=by
 unfold termB at h;simp only[Co,Cw]at h;exact⟨h.1.2,h.1.1⟩
noncomputable def mkT(op w m:Int)(ks:List D.Term):D.Term×Bool:=if termB ⟨op,w,m,⟨[]⟩,ks⟩=true then(simp1 ⟨op,w,m,⟨[]⟩,ks⟩,true)else(t0,false)
def DR{op w m:Int}{ks:List D.Term}(h:sml ks):msz ⟨op,w,m,⟨[]⟩,ks⟩<=1048576:=by
 rw[Wd];unfold sml at h;simp;omega
def Vt{op w m:Int}{ks:List D.Term}(h:sml ks):Zy fuel op w m ks=some (mkT op w m ks):=by
 unfold Zy mkT;rw[Tn (DR h)];simp only[Cm];cases c:termB ⟨op,w,m,⟨[]⟩,ks⟩
 ·rfl
 ·obtain⟨a,b⟩:=VR c;obtain⟨q1,q2,q3,q4,q5⟩:=Rb a b;simp only[Cz,Cn,Cy,CF,q4,Cm]
def fine(t:D.Term):Prop:=nodeB t=true/\cnt t<=240
def OP{t:D.Term}(h:termB t=true):fine t:=VR h
def Xd{op w m:Int}{ks:List D.Term}(h:(mkT op w m ks).2=true):fine (mkT op w m ks).1/\(mkT op w m ks).1.W=w:=by
 unfold mkT at h⊢;cases c:termB ⟨op,w,m,⟨[]⟩,ks⟩
 ·rw[c]at h;simp at h
 ·obtain⟨a,b⟩:=VR c;obtain⟨q1,q2,q3,q4,q5⟩:=Rb a b;simp only[CF];exact⟨⟨q1,by omega⟩,q2⟩
def VM{t:D.Term}(h:fine t):msz t<=2640:=Ls h.1 h.2
def sml2{a b:D.Term}(ha:msz a<=2640)(hb:msz b<=1000000):sml [a,b]:=by
 unfold sml;rw[Y1,Y1,UC];simp;omega
def c11:D.Term:=⟨0,1,1,⟨[]⟩,[]⟩
def XM{σt ρt:Type}{B:σt->Option (σt⊕ρt)}{s s':σt}{n:Nat}(h:B s=some (.inl s')):iterN B (n+1) s=iterN B n s':=by
 conv=>lhs;unfold iterN
 rw[h]
def fineL(l:List D.Term):Prop:=l.length<=100/\∀x∈l,fine x
theorem Px{m:Nat}:∀{l:List D.Term},(∀x∈l,msz x<=m)->mszs l<=l.length*m
 |[],_=>by rw[UC];simp
 |x::l,h=>by
  have h1:=h x U;have h2:=Px (l:=l) λy hy=>h y aq;rw[Y1,Bp,Nat.succ_mul];omega
def Vu{l:List D.Term}(h:fineL l):sml l:=by
 have h1:=Px (m:=2640) λx hx=>VM (h.2 x hx);have h2:=h.1;unfold sml;have:l.length*2640<=100*2640:=Aw _ h2;omega
def VJ{l:List D.Term}(h:fineL l):ZH fuel l=some l:=(JE fuel).2 l (Vu h) (by
 have:=Vu h;unfold sml at this
 unfold fuel;omega)
def fineP(s:D.Path):Prop:=fineL s.Regs/\fineL s.Mem/\s.Stack.length<=100/\fineL s.Out/\fineL s.Cond/\s.Turns.length<=100
def Mj{s:D.Path}(h:fineP s):smallP s:=⟨Vu h.1,Vu h.2.1,by have:=h.2.2.1;omega,Vu h.2.2.2.1,Vu h.2.2.2.2.1,by have:=h.2.2.2.2.2;omega⟩
def Km{l:List Int}(h:l.length<=100):app? ([]:List Int) l=some l:=by
 rw[Wu ab];rfl
def Ce{l:List D.Term}(h:l.length<=1000):app? ([]:List D.Term) l=some l:=by
 rw[Wu ab];rfl
def NC{s:D.Path}(h:fineP s):Y9 fuel s=some s:=by
 obtain⟨h1,h2,h3,h4,h5,h6⟩:=h;unfold Y9 Zi;simp only[VJ h1,VJ h2,Km h3,VJ h4,VJ h5,Km h6,Cm]
def Ro{p:D.Program}(h:progB p=true):1<=p.W/\p.W<=16/\0<=p.Mem/\p.Mem<=6/\0<=p.In/\p.In<=3:=by
 unfold progB at h;simp only[Co,Cw]at h;omega
def sml3'{a b c:D.Term}(ha:msz a<=2640)(hb:msz b<=2640)(hc:msz c<=2640):sml [a,b,c]:=by
 unfold sml;rw[Y1,Y1,Y1,UC];simp;omega
def fw(w:Int)(l:List D.Term):Prop:=∀t∈l,fine t/\t.W=w
structure okP(p:D.Program)(s:D.Path):Prop where
 pc:0<=s.Pc/\s.Pc<=len p.Code
 rl:s.Regs.length=4
 rf:fw p.W s.Regs
 ml:(s.Mem.length:Int)=p.Mem
 mf:fw p.W s.Mem
 sl:s.Stack.length<=3
 sp:∀x∈s.Stack,0<=x/\x<=len p.Code
 inn:0<=s.In/\s.In<=p.In
 ol:s.Out.length<=6
 of:fw p.W s.Out
 cd:0<=s.Code/\s.Code<=9
 st:0<=s.Steps/\s.Steps<=400
 cl:s.Cond.length<=60
 cf:fw 1 s.Cond
 tl:s.Turns.length<=60
def QD{w:Int}{l:List D.Term}(h:fw w l)(hl:l.length<=100):fineL l:=⟨hl,λx hx=>(h x hx).1⟩
def okP.fine{p:D.Program}{s:D.Path}(h:okP p s)(hp:progB p=true):fineP s:=by
 have hm:=Ro hp;have:=h.ml;exact⟨QD h.rf (by have:=h.rl;omega),QD h.mf O,by have:=h.sl;omega,QD h.of (by have:=h.ol;omega),QD h.cf (by have:=h.cl;omega),by have:=h.tl;omega⟩
def Ig{w:Int}{l:List D.Term}(h:fw w l){k:Nat}{t:D.Term}(ht:fine t/\t.W=w):fw w (l.set k t):=λx hx=>by
 rcases Ae hx with hx|rfl
 ·exact h x hx
 ·exact ht
def Gx{w:Int}{l:List D.Term}(h:fw w l){t:D.Term}(ht:fine t/\t.W=w):fw w (l++[t]):=λx hx=>by
 rcases CQ.1 hx with hx|hx
 ·exact h x hx
 ·rw[CB]at hx;subst hx;exact ht
def rg(l:List D.Term)(k:Int):D.Term:=(l[k.toNat]?).getD t0
def UX{l:List D.Term}{k:Int}(h0:0<=k)(h1:k<l.length):get? l k=some (rg l k):=by
 obtain⟨j,rfl⟩:∃j:Nat,k=(j:Int):=⟨k.toNat,by omega⟩;unfold rg;rw[get?_nat,AX,Cv O];rfl
def TD{w:Int}{l:List D.Term}{k:Int}(h:fw w l)(h0:0<=k)(h1:k<l.length):fine (rg l k)/\(rg l k).W=w:=by
 unfold rg;rw[Cv O];exact h _ (BI _)
def IR{α:Type}{l:List α}{k:Int}(h0:0<=k)(h1:k<l.length)(x:α):set? l k x=some (l.set k.toNat x):=by
 obtain⟨j,rfl⟩:∃j:Nat,k=(j:Int):=⟨k.toNat,by omega⟩;rw[set?_nat O,AX]
def LY{l:List D.Term}(h:l.length<=1000):Zo l=some l:=by
 unfold Zo;rw[Ce h];rfl
def put_eq{l:List D.Term}{k:Int}{t:D.Term}(hl:l.length<=1000)(h0:0<=k)(h1:k<l.length):Xn l k t=some (l.set k.toNat t):=by
 unfold Xn;rw[LY hl];simp only[Cm];rw[IR h0 h1];rfl
def Np{l:List D.Term}{t:D.Term}(hl:l.length<=1000):WP l t=some (l++[t]):=by
 unfold WP ZG;rw[LY hl];simp only[Cm];rw[Wu ab];rfl
def OO{l:List Int}{x:Int}(hl:l.length<=100):WN l x=some (l++[x]):=by
 unfold WN Zi;rw[Km hl];simp only[Cm];rw[Wu ab];rfl
def kT(w v:Int):D.Term:=⟨0,w,v,⟨[]⟩,[]⟩
def Sj{w v:Int}(h:wordB w v=true):fine (kT w v):=⟨VE h,by unfold kT;rw[cnt0];omega⟩
def ZX{p:D.Program}(hp:progB p=true):wordB p.W p.Mem=true/\2<=p.W/\p.W<=8/\1<=p.Mem/\p.Mem<=6:=by
 unfold progB at hp;simp only[Co,Cw]at hp;exact⟨by simp[hp],by omega,by omega,by omega,by omega⟩
def Ui{p:D.Program}(hp:progB p=true){k:Int}(h0:0<=k)(h1:k<=p.Mem):wordB p.W k=true:=by
 obtain⟨m1,m2,m3,m4,m5⟩:=ZX hp;rw[Zv O O]at m1⊢;omega
def sml2f{a b:D.Term}(ha:fine a)(hb:fine b):sml [a,b]:=sml2 (VM ha) (by have:=VM hb;omega)
def sml1f{a:D.Term}(ha:fine a):sml [a]:=by
 have:=VM ha;unfold sml;rw[Y1,UC];simp;omega
def sml3f{a b c:D.Term}(ha:fine a)(hb:fine b)(hc:fine c):sml [a,b,c]:=sml3' (VM ha) (VM hb) (VM hc)
noncomputable def cel(w k:Int)(x a b:D.Term):D.Term×Bool:=
 if(mkT 14 1 0 [kT w k,x]).2=true then mkT 17 w 0 [(mkT 14 1 0 [kT w k,x]).1,a,b]else(t0,false)
def Dc{op w m:Int}{ks:List D.Term}(h:(mkT op w m ks).2=false):mkT op w m ks=(t0,false):=by
 unfold mkT at h⊢;split
 ·rename_i c;rw[Cr c]at h;cases h
 ·rfl
def QO{w k:Int}{x a b:D.Term}(h:(cel w k x a b).2=true):fine (cel w k x a b).1/\(cel w k x a b).1.W=w:=by
 unfold cel at h⊢;split at h
 ·rename_i c;rw[Cr c];exact Xd h
 ·cases h
def Mh{p:D.Program}{k:Int}{x a b:D.Term}(hw:wordB p.W k=true)(hx:fine x)(ha:fine a)(hb:fine b):Xh fuel p k x a b=some (cel p.W k x a b):=by
 unfold Xh cel;rw[Yt hw];simp only[Cm];show((Zy fuel 14 1 0 [kT p.W k,x]).bind _)=_;rw[Vt (sml2f (Sj hw) hx)];simp only[Cm];by_cases c:(mkT 14 1 0 [kT p.W k,x]).2=true
 ·rw[Cu (by rw[c];simp),Cr c,Vt (sml3f (Xd c).1 ha hb)];rfl
 ·rw[Cr ao,Cu c];rfl
noncomputable def ldT(w:Int)(x:D.Term)(mem:List D.Term):Nat->D.Term->D.Term×Bool
 |0,t=>(t,true)
 |j+1,t=>if(cel w (j:Int) x (rg mem j) t).2=true then ldT w x mem j (cel w (j:Int) x (rg mem j) t).1 else(t0,false)
theorem Mv{w:Int}{x:D.Term}{mem:List D.Term}:∀{j:Nat}{t:D.Term},fine t/\t.W=w->(ldT w x mem j t).2=true->fine (ldT w x mem j t).1/\(ldT w x mem j t).1.W=w
 |0,t,ht,_=>ht
 |j+1,t,ht,h=>by
  unfold ldT at h⊢;split at h
  ·rename_i c;rw[Cr c];exact Mv (QO c) h
  ·cases h
theorem HV{w:Int}{x:D.Term}{mem:List D.Term}:∀{j:Nat}{t:D.Term},(ldT w x mem j t).2=false->ldT w x mem j t=(t0,false)
 |0,t,h=>by cases h
 |j+1,t,h=>by
  unfold ldT at h⊢;split at h
  ·rename_i c;rw[Cr c];exact HV h
  ·rename_i c;rw[Cu c]
noncomputable def load(w:Int)(mem:List D.Term)(x:D.Term):D.Term×Bool:=if x.Op=0 then(rg mem x.N,true)else ldT w x mem (mem.length-1) (rg mem ((mem.length-1:Nat):Int))
abbrev T5:=Int×Int×Int×Str×(List D.Term)
abbrev tup5(t:D.Term):T5:=(t.Op,t.W,t.N,t.Name,t.Kids)
def LD(t:D.Term):(D.Term.mk t.Op t.W t.N t.Name t.Kids)=t:=by cases t;rfl
theorem Ev{p:D.Program}{mem:List D.Term}{x:D.Term}(hp:progB p=true)(hm:(mem.length:Int)=p.Mem)(hf:fw p.W mem)(hx:fine x):∀(j:Nat)(t:D.Term)(n:Nat),fine t/\t.W=p.W->j<=mem.length->j<n->
    iterN (λ(s1:Int×Int×Int×Int×Str×(List D.Term))=>if(decide (s1.1>=0))then(get? mem s1.1).bind λx4=>(Xh fuel p s1.1 x x4 (D.Term.mk s1.2.1 s1.2.2.1 s1.2.2.2.1 s1.2.2.2.2.1 s1.2.2.2.2.2)).bind λx5=>if(!x5.2)then some (.inr (.inr ((D.Term.mk 0 0 0 ⟨[]⟩ ([]:List D.Term)),false)))else some (.inl ((w64 (s1.1-1)),x5.1.Op,x5.1.W,x5.1.N,x5.1.Name,x5.1.Kids))else some (.inr (.inl (s1.2.1,s1.2.2.1,s1.2.2.2.1,s1.2.2.2.2.1,s1.2.2.2.2.2))):Int×T5->Option ((Int×T5)⊕(T5⊕(D.Term×Bool))))
     n ((j:Int)-1,tup5 t)=some (if(ldT p.W x mem j t).2=true then(.inl (tup5 (ldT p.W x mem j t).1):T5⊕(D.Term×Bool))else .inr (t0,false)):=by
  intro j
  induction j with
  | zero=>
    intro t n ht _ hn;refine YG ?_ hn;simp only;rw[ifn];rfl
  | succ j ih=>
    intro t n ht hj hn;obtain⟨n,rfl⟩:∃m,n=m+1:=⟨n-1,by omega⟩;have hm6:=ZX hp;have e1:((j+1:Nat):Int)-1=(j:Int):=by omega
    have eg:=UX (l:=mem) (k:=(j:Int)) O O;have ec:=Mh (p:=p) (k:=(j:Int)) (x:=x) (a:=rg mem j) (b:=t) (Ui hp O O) hx (TD hf O O).1 ht.1;rw[e1];unfold ldT;by_cases c:(cel p.W (j:Int) x (rg mem j) t).2=true
    · rw[Cr c,<-ih _ n (QO c) O O]
      refine XM ?_;simp only[tup5,eg,Cm,LD,ec,c];rw[ifp,ifn,Zf]
    · rw[Cu c]
      refine YG ?_ O;simp only[tup5,eg,Cm,LD,ec];rw[ifp,Cr ao];rfl
def KY{p:D.Program}{s:D.Path}{x:D.Term}(hp:progB p=true)(hm:(s.Mem.length:Int)=p.Mem)(hf:fw p.W s.Mem)(hx:fine x)(hc:x.Op=0->0<=x.N/\x.N<p.Mem):Vk fuel p s x=some (load p.W s.Mem x):=by
 have hm6:=ZX hp;unfold Vk load Zx;simp only[Cm];by_cases c:x.Op=0
 ·obtain⟨n0,n1⟩:=hc c;rw[Cr ao,Cr c,UX n0 O];rfl
 ·rw[Cu ao,Cu c];have e1:w64 (p.Mem-1)=((s.Mem.length-1:Nat):Int):=by rw[Zf];omega
  have e2:w64 (p.Mem-2)=((s.Mem.length-1:Nat):Int)-1:=by rw[Zf];omega
  rw[e1,e2,UX O O];simp only[Cm];have:=Ev hp hm hf hx (s.Mem.length-1) (rg s.Mem ((s.Mem.length-1:Nat):Int)) fuel (TD hf O O) O aa;rw[this];simp only[Cm];cases h:(ldT p.W x s.Mem (s.Mem.length-1) (rg s.Mem ((s.Mem.length-1:Nat):Int))).2
  ·rw[HV h];simp
  ·simp only[CF,LD];simp[<-h]
def JI{p:D.Program}{s:D.Path}{x:D.Term}(hp:progB p=true)(hm:(s.Mem.length:Int)=p.Mem)(hf:fw p.W s.Mem)(hc:x.Op=0->0<=x.N/\x.N<p.Mem)(h:(load p.W s.Mem x).2=true):fine (load p.W s.Mem x).1/\(load p.W s.Mem x).1.W=p.W:=by
 have hm6:=ZX hp;unfold load at h⊢;by_cases c:x.Op=0
 ·rw[Cr c];obtain⟨n0,n1⟩:=hc c;exact TD hf n0 O
 ·rw[Cu c]at h⊢;exact Mv (TD hf O O) h
def Fz{α:Type}{m1 m2:List α}{t:α}{i:Int}(h:i=(m1.length:Int)):get? (m1++t::m2) i=some t:=by
 subst h;rw[get?_nat];simp
def set_mid{α:Type}{m1 m2:List α}{t u:α}{i:Int}(h:i=(m1.length:Int)):set? (m1++t::m2) i u=some (m1++u::m2):=by
 subst h;rw[set?_nat U];simp
noncomputable def stG(w:Int)(x v:D.Term):Nat->List D.Term->List D.Term×Bool
 |_,[]=>([],true)
 |i,t::l=>if(cel w (i:Int) x v t).2=true then((cel w (i:Int) x v t).1::(stG w x v (i+1) l).1,(stG w x v (i+1) l).2)else([],false)
theorem KF{w:Int}{x v:D.Term}:∀{l:List D.Term}{i:Nat},(stG w x v i l).2=true->(stG w x v i l).1.length=l.length
 |[],i,_=>rfl
 |t::l,i,h=>by
  unfold stG at h⊢;split at h
  ·rename_i c;rw[Cr c];simp only[Bp,KF (l:=l) (i:=i+1) h]
  ·cases h
theorem GU{w:Int}{x v:D.Term}:∀{l:List D.Term}{i:Nat},(stG w x v i l).2=true->fw w (stG w x v i l).1
 |[],i,_=>λt ht=>by cases ht
 | t::l,i,h=>by
  unfold stG at h⊢;split at h
  ·rename_i c;rw[Cr c];intro y hy;rcases CW.1 hy with rfl|hy
   ·exact QO c
   ·exact GU (l:=l) (i:=i+1) h y hy
  ·cases h
theorem Ex{p:D.Program}{mem x3:List D.Term}{x v:D.Term}(hp:progB p=true)(hm:(mem.length:Int)=p.Mem)(hf:fw p.W mem)(hx:fine x)(hv:fine v)(h3:len x3=(mem.length:Int)):∀(m2 m1 done rest:List D.Term)(n:Nat),mem=m1++m2->done.length=m1.length->rest.length=m2.length->m2.length<n->
    iterN (λ(s1:Int×(List D.Term))=>if(decide (s1.1<(len x3)))then(get? mem s1.1).bind λx4=>(Xh fuel p s1.1 x v x4).bind λx5=>if(!x5.2)then some (.inr (.inr (([]:List D.Term),false)))else(set? s1.2 s1.1 x5.1).bind λx6=>some (.inl ((w64 (s1.1+1)),x6))else some (.inr (.inl (s1.2))):Int×List D.Term->Option ((Int×List D.Term)⊕(List D.Term⊕(List D.Term×Bool))))
     n ((m1.length:Int),done++rest)=some (if(stG p.W x v m1.length m2).2=true then(.inl (done++(stG p.W x v m1.length m2).1):List D.Term⊕(List D.Term×Bool))else .inr ([],false)):=by
  have hm6:=ZX hp;intro m2
  induction m2 with
  | nil=>
    intro m1 done rest n he hd hr hn;have:rest=[]:=BF.1 hr;subst this;refine YG ?_ O;have hml:(m1.length:Int)=mem.length:=by rw[he];simp
    simp only;rw[Cu (by rw[h3];simp;omega)];simp[stG]
  | cons t m2 ih=>
    intro m1 done rest n he hd hr hn;obtain⟨n,rfl⟩:∃m,n=m+1:=⟨n-1,by simp at hn;omega⟩;obtain⟨r,rest,rfl⟩:∃r l,rest=r::l:=by
      cases rest with
      |nil=>simp at hr
      |cons r l=>exact⟨r,l,rfl⟩
    have hml:(mem.length:Int)=m1.length+(m2.length+1):=by rw[he];simp
    have ht:fine t/\t.W=p.W:=hf t (by rw[he];simp);have hg:get? mem (m1.length:Int)=some t:=by rw[he];exact Fz rfl
    have ec:=Mh (p:=p) (k:=(m1.length:Int)) (x:=x) (a:=v) (b:=t) (Ui hp O O) hx hv ht.1;have hc:decide ((m1.length:Int)<len x3)=true:=by rw[h3];simp;omega
    have e1:w64 ((m1.length:Int)+1)=((m1++[t]).length:Int):=by rw[Zf];simp
    unfold stG;by_cases c:(cel p.W (m1.length:Int) x v t).2=true
    · rw[Cr c]
      have:=ih (m1++[t]) (done++[(cel p.W (m1.length:Int) x v t).1]) rest n (by rw[he];simp) (by simp[hd]) (by simpa using hr) (by simp at hn;omega);have el:(m1++[t]).length=m1.length+1:=by simp
      rw[el]at this;simp only[Bo,BR]at this;rw[<-this];refine XM ?_;simp only[hc,hg,Cm,ec,c,CF,Cz,Cn,Cy];rw[set_mid (by rw[hd])];simp only[Cm,e1,el]
    · rw[Cu c]
      refine YG ?_ O;simp only[hc,hg,Cm,ec,CF];rw[Cr ao];rfl
noncomputable def store(w:Int)(mem:List D.Term)(x v:D.Term):List D.Term×Bool:=if x.Op=0 then(mem.set x.N.toNat v,true)else if(stG w x v 0 mem).2=true then((stG w x v 0 mem).1,true)else([],false)
def Lm{p:D.Program}{s:D.Path}{x v:D.Term}(hp:progB p=true)(hm:(s.Mem.length:Int)=p.Mem)(hf:fw p.W s.Mem)(hx:fine x)(hv:fine v)(hc:x.Op=0->0<=x.N/\x.N<p.Mem):Vh fuel p s x v=some (store p.W s.Mem x v):=by
 have hm6:=ZX hp;unfold Vh store Zx;simp only[Cm];by_cases c:x.Op=0
 ·obtain⟨n0,n1⟩:=hc c;rw[Cr ao,Cr c,put_eq O n0 O];rfl
 ·rw[Cu ao,Cu c];obtain⟨x3,e3,l3⟩:∃x3,mk? p.Mem (D.Term.mk 0 0 0 ⟨[]⟩ ([]:List D.Term))=some x3/\x3.length=s.Mem.length:=by
   refine⟨List.replicate p.Mem.toNat (D.Term.mk 0 0 0 ⟨[]⟩ ([]:List D.Term)),?_,by simp;omega⟩;unfold mk?;rw[Cr ⟨by omega,by unfold room;omega⟩]
  rw[e3];simp only[Cm];have:=Ex hp hm hf hx hv (x3:=x3) (by unfold len;omega) s.Mem [] [] x3 fuel rfl rfl l3 aa;simp only[Zaj,Za5]at this;rw[show((0:Nat):Int)=0 from rfl]at this;rw[this];simp only[Cm];cases h:(stG p.W x v 0 s.Mem).2<;>simp
def LJ{p:D.Program}{s:D.Path}{x v:D.Term}(hf:fw p.W s.Mem)(hv:fine v/\v.W=p.W)(h:(store p.W s.Mem x v).2=true):fw p.W (store p.W s.Mem x v).1/\(store p.W s.Mem x v).1.length=s.Mem.length:=by
 unfold store at h⊢;by_cases c:x.Op=0
 ·rw[Cr c];exact⟨Ig hf hv,by simp⟩
 ·rw[Cu c]at h⊢;by_cases d:(stG p.W x v 0 s.Mem).2=true
  ·rw[Cr d];exact⟨GU d,KF d⟩
  ·rw[Cu d]at h;cases h
end Go.Proofs.YtmhljhkhmdkdhaaGreatDoor
end
