/- Texts of this claim put into one: library or plain laws, without the program under test. -/
import Derived.Test.YtbidabmbbieeiabGreatDoorLib3
import Derived.Test.YtbidabmbbieeiabGreatDoorDefs
import Derived.Lib.Strings
set_option linter.unusedSimpArgs false
set_option linter.unusedVariables false
section
namespace Go.Proofs.YtbidabmbbieeiabGreatDoor
open Go.GL
class FU(n:Nat):Prop where
 le:4194400≤n
def fuel0:Nat:=4195400
instance:FU fuel0:=⟨by decide⟩
theorem XV{n fuel:Nat}[q:FU fuel](h:n≤1048576):n<fuel:=by have:=q.le;omega
variable{fuel:Nat}[FU fuel]
theorem ZfK{p q:List Int}(h:p.length≤1048576):Zbm fuel p q=some (decide (p=q)):=Zhs (by omega) (XV h)
theorem Zdv{α:Type}{l:List α}{f:α→Option Bool}{b:α→Bool}(hf:∀x∈l,f x=some (b x))(hb:l.length≤9223372036854775807):∀(d i:Nat),i+d=l.length→∀n,d<n→
  iterN (fun(s1:Int)=>if(decide (s1<(len l)))then(get? l s1).bind fun x1=>(f x1).bind fun x2=>if(!x2)then some (.inr (.inr false))else some (.inl ((w64 (s1+1))))else some (.inr (.inl ()))) n (i:Int)=some (if(l.drop i).all b then(.inl ():Unit⊕Bool)else .inr false)
 |0,i,hi,n,hn=>by
  obtain⟨n,rfl⟩:∃j,n=j+1:=⟨n-1,by omega⟩;unfold iterN;rw[ZmD (by rw[Zf];simp;omega)];simp[Zn8 (show l.length≤i by omega)]
 | d+1,i,hi,n,hn=>by
  obtain⟨n,rfl⟩:∃j,n=j+1:=⟨n-1,by omega⟩;have hp:i<l.length:=by omega
  unfold iterN;rw[ZmE (by rw[Zf];simp;omega),get?_nat,ZmF hp];simp only[Zm9];rw[hf _ (ZnO hp),ZmW hp];simp only[Zm9,Zon];by_cases h:b l[i]=true
  ·rw[ZmD (by simp[h])];simp only;rw[Zm (by omega) (by omega),show((i:Int)+1)=((i+1:Nat):Int) by omega,Zdv hf hb d (i+1) (by omega) n (by omega)];simp only[h,Znk]
  ·rw[ZmE (by simp[h])];simp[h]
theorem ZiG{l:List D.Ins}{m:Int}(hl:l.length≤9223372036854775807)(h0:0≤m)(h1:m≤1048576):Zbu l m=some (if m-l.length<0 then-1 else m-l.length):=by
 unfold Zbu;rw[Zf,Zm (by omega) (by omega)];by_cases h:m-(l.length:Int)<0
 ·rw[ZmE (by simpa using h),ZmE h]
 ·rw[ZmD (by simpa using h),ZmD h]
theorem Zgj{x:D.Program}{m:Int}(hx:ZcM x)(h0:0≤m)(h1:m≤1048576):∃r,Zai x m=some r∧(r<0∨0≤r∧r≤1048576∧x.Code.length≤1048576):=by
 obtain⟨-,-,-,hr,-⟩:=hx;unfold Zai;rw[ZiG hr h0 h1];simp only[Zm9];by_cases c1:m-(x.Code.length:Int)<0
 ·rw[ZmE c1];exact⟨_,rfl,.inl (by omega)⟩
 rw[ZmD c1,ZmD (by simpa using c1)];exact⟨_,rfl,.inr ⟨by omega,by omega,by omega⟩⟩
theorem Zjc{l:List D.Ins}(h:l.length≤1048576):Zbq fuel l=some l:=by
 unfold Zbq;rw[mk?_len (by unfold room;omega)];simp only[Zm9,Zc0];rw[Zh3 (by omega) (XV h)];rfl
theorem Zgk{x:D.Program}(h:x.Code.length≤1048576):YT fuel x=some x:=by
 unfold YT;rw[Zjc h];rfl
theorem Zkr(x y:D.Ins):ZbF x y=some (decide (x=y)):=by
 unfold ZbF;cases x;cases y;simp only[D.Ins.mk.injEq];grind
theorem ZiW{p q:List D.Ins}(h:p.length≤1048576):Zbi fuel p q=some (decide (p=q)):=by
 unfold Zbi;simp only[Zkr,Zm9];exact Zhs (by omega) (XV h)
theorem Zfi{x:D.Program}(h:x.Code.length≤1048576):Zaf fuel x x=some true:=by
 unfold Zaf;rw[ZiW h];simp
theorem Zil{w:Int}(h1:1≤w)(h2:w≤16):∃m:Int,shl? 1 w=some m∧shl? 1 (IntKind.u64.wrap w)=some m∧w64 (m-1)=m-1:=by
 have:w=1∨w=2∨w=3∨w=4∨w=5∨w=6∨w=7∨w=8∨w=9∨w=10∨w=11∨w=12∨w=13∨w=14∨w=15∨w=16:=by omega
 rcases this with rfl|rfl|rfl|rfl|rfl|rfl|rfl|rfl|rfl|rfl|rfl|rfl|rfl|rfl|rfl|rfl<;>exact⟨_,rfl,by decide,by decide⟩
theorem ZdY(w v:Int):∃b,ZG w v=some b∧Yb w v=some b:=by
 unfold ZG Yb Zl ZA;by_cases h:1≤w∧w≤16
 ·obtain⟨m,h1,h2,h3⟩:=Zil h.1 h.2;refine⟨decide (0≤v)&&decide (v<m),?_,?_⟩
  ·simp only[ge_iff_le,h.1,h.2,decide_true,ZnN,Zm9,ZmT,h1,h3,Znk,Option.some.injEq];rw[ZnY];simp only[ZmC,ZmK];omega
  ·by_cases hv:0≤v
   ·simp[h.1,h.2,hv,h2]
   ·simp[h.1,h.2,hv]
 ·refine⟨false, ?_, ?_⟩
  ·by_cases a:1≤w
   ·have b:¬w≤16:=fun b=>h ⟨a,b⟩;simp[a,b]
   ·simp[a]
  ·by_cases a:1≤w
   ·have b:¬w≤16:=fun b=>h ⟨a,b⟩;simp[a,b]
   ·simp[a]
theorem Zda{c:Bool}{b:Bool}:(if c=true then some b else some default)=some (if c=true then b else default):=by split<;>rfl
theorem Zhl{c:Bool}{b:Bool}:(if c=true then some default else some b)=some (if c=true then default else b):=by split<;>rfl
theorem Zhu(p:D.Ins)(w n:Int):∃b,Xv p w n=some b∧Za6 p w n=some b:=by
 obtain⟨wb,hw1,hw2⟩:=ZdY w p.B;have hr:∀a,Y7 a=some (decide (0≤a∧a≤3)):=by
  intro a;simp[Y7,Zl]
 have hr':∀a,Xn a=some (decide (0≤a∧a≤3)):=by
  intro a;simp only[Xn,Bool.decide_and];grind
 have hi:∀a b c,Zl a b c=some (decide (b≤a)&&decide (a≤c)):=by
  intro a b c;simp[Zl]
 have ht:∀a,XM a=some (decide (3≤a)&&decide (a≤16)):=by
  intro a;simp[XM]
 obtain⟨op,a,b,c⟩:=p;simp only at hw1 hw2;unfold Xv Za6;simp only[hr,hr',hi,ht,hw1,hw2,Zm9,Zda];by_cases e1:op=1
 ·subst e1;grind
 by_cases e2:op=2
 ·subst e2;grind
 by_cases e3:op=3
 ·subst e3;grind
 by_cases e4:op=4
 ·subst e4;grind
 by_cases e5:op=5
 ·subst e5;grind
 by_cases e6:op=6
 ·subst e6;grind
 by_cases e7:op=7
 ·subst e7;grind
 by_cases e8:op=8
 ·subst e8;grind
 by_cases e9:op=9
 ·subst e9;grind
 by_cases e10:op=10
 ·subst e10;grind
 by_cases e11:op=11
 ·subst e11;grind
 by_cases e12:op=12
 ·subst e12;grind
 by_cases e13:op=13
 ·subst e13;grind
 by_cases e14:op=14
 ·subst e14;grind
 simp[e1,e2,e3,e4,e5,e6,e7,e8,e9,e10,e11,e12,e13,e14]
def insB(w n:Int)(p:D.Ins):Bool:=(Xv p w n).getD false
theorem Zkn(w n:Int)(p:D.Ins):Xv p w n=some (insB w n p):=by
 obtain⟨b,h,-⟩:=Zhu p w n;simp[insB,h]
theorem Zkg(w n:Int)(p:D.Ins):Za6 p w n=some (insB w n p):=by
 obtain⟨b,h,h'⟩:=Zhu p w n;simp[insB,h,h']
def wordB(w v:Int):Bool:=(ZG w v).getD false
theorem YU(w v:Int):ZG w v=some (wordB w v):=by
 obtain⟨b,h,-⟩:=ZdY w v;simp[wordB,h]
theorem Zar(w v:Int):Yb w v=some (wordB w v):=by
 obtain⟨b,h,h'⟩:=ZdY w v;simp[wordB,h,h']
def progB(x:D.Program):Bool:=
 decide (2≤x.W∧x.W≤8)&&decide (1≤x.Mem∧x.Mem≤6)&&wordB x.W x.Mem&&decide (0≤x.In∧x.In≤3)&&decide (1≤(x.Code.length:Int)∧(x.Code.length:Int)≤40)&&x.Code.all (insB x.W x.Code.length)
theorem Zjx{x:D.Program}(h:x.Code.length≤1048576):Zab fuel x=some (progB x):=by
 unfold Zab;have hi:∀a b c,Zl a b c=some (decide (b≤a∧a≤c)):=by
  intro a b c;simp[Zl]
 have hl:=Zdv (l:=x.Code) (f:=fun p=>Xv p x.W (len x.Code)) (b:=insB x.W x.Code.length) (fun p _=>Zkn _ _ p) (by omega) x.Code.length 0 (by omega) fuel (XV h);rw[show((0:Nat):Int)=0 from rfl]at hl;simp only[hi,YU,Zm9,Zhl];rw[hl,Zf];unfold progB;simp only[ZnH];cases x.Code.all (insB x.W x.Code.length)<;>cases wordB x.W x.Mem<;>simp only[Zm9,ZmT,ZmI,ZmA]<;>grind
theorem Zjq{x:D.Program}(h:x.Code.length≤1048576):Zam fuel x=some (progB x):=by
 unfold Zam;have hl:=Zdv (l:=x.Code) (f:=fun p=>Za6 p x.W (len x.Code)) (b:=insB x.W x.Code.length) (fun p _=>Zkg _ _ p) (by omega) x.Code.length 0 (by omega) fuel (XV h);rw[show((0:Nat):Int)=0 from rfl]at hl;simp only[Zb5,Zar,Zm9,Zhl];rw[hl,Zf];unfold progB;simp only[ZnH];clear hl;by_cases a1:2≤x.W<;>by_cases a2:x.W≤8<;>by_cases a3:1≤(x.Code.length:Int)<;>by_cases a4:(x.Code.length:Int)≤40<;>simp only[ge_iff_le,a1,a2,a3,a4,decide_true,decide_false,ZnC,Bool.and_false,Znk,Zn0,ZnN,and_self,Zoj,and_false]<;>
  cases x.Code.all (insB x.W x.Code.length)<;>cases wordB x.W x.Mem<;>simp only[Zm9,ZmT,ZmI,ZmA,Bool.decide_and]<;>grind
theorem XK{σt ρt:Type}{B:σt→Option (σt⊕ρt)}{s:σt}{r:ρt}{n:Nat}(h:B s=some (.inr r))(hn:0<n):iterN B n s=some r:=by
 obtain⟨m,rfl⟩:∃m,n=m+1:=⟨n-1,by omega⟩;rw[iterN,h]
theorem Za1(s:Str):Str.eqb s s=true:=by unfold Str.eqb;simp
theorem ZfH{S ρ α σ:Type}{l:List α}{B:S→Option (S⊕ρ)}(enc:Nat→σ→S)(I:List α→σ→Prop)(R:ρ→Prop)
  (hs:∀k x xs a,k<l.length→l[k]? =some x→l.length=k+(x::xs).length→I (x::xs) a→(∃a',B (enc k a)=some (.inl (enc (k+1) a'))∧I xs a')∨∃r,B (enc k a)=some (.inr r)∧R r)
  (he:∀a,I [] a→∃r,B (enc l.length a)=some (.inr r)∧R r):
  ∀(ys:List α)(k:Nat)(a:σ)(n:Nat),l.drop k=ys→k≤l.length→I ys a→ys.length<n→∃r,iterN B n (enc k a)=some r∧R r
 | [],k,a,n,hd,hk,hI,hn=>by
  obtain⟨n,rfl⟩:∃j,n=j+1:=⟨n-1,by omega⟩;have:k=l.length:=by
   have:=congrArg List.length hd;simp at this;omega
  subst this;obtain⟨r,h1,h2⟩:=he a hI;exact⟨r,by unfold iterN;rw[h1],h2⟩
 | x::xs,k,a,n,hd,hk,hI,hn=>by
  obtain⟨n,rfl⟩:∃j,n=j+1:=⟨n-1,by omega⟩;have hl:l.length=k+(x::xs).length:=by
   have:=congrArg List.length hd;simp at this⊢;omega
  have hk':k<l.length:=by simp at hl;omega
  have hx:l[k]? =some x:=by
   have h0:(l.drop k)[0]? =some x:=by rw[hd];rfl
   rw[Zn4]at h0;simpa using h0
  rcases hs k x xs a hk' hx hl hI with⟨a',h1,h2⟩|⟨r,h1,h2⟩
  ·obtain⟨r,g1,g2⟩:=ZfH enc I R hs he xs (k+1) a' n (by rw[←List.drop_drop,hd];rfl) (by omega) h2 (by simp at hn;omega);exact⟨r,by unfold iterN;rw[h1];exact g1,g2⟩
  ·exact⟨r,by unfold iterN;rw[h1],h2⟩
theorem Yh{S ρ α σ:Type}{l:List α}{B:S→Option (S⊕ρ)}(enc:Nat→σ→S)(I:List α→σ→Prop)(R:ρ→Prop)
  (hs:∀k x xs a,k<l.length→l[k]? =some x→l.length=k+(x::xs).length→I (x::xs) a→(∃a',B (enc k a)=some (.inl (enc (k+1) a'))∧I xs a')∨∃r,B (enc k a)=some (.inr r)∧R r)
  (he:∀a,I [] a→∃r,B (enc l.length a)=some (.inr r)∧R r){a:σ}{n:Nat}(hI:I l a)(hn:l.length<n):∃r,iterN B n (enc 0 a)=some r∧R r:=
 ZfH enc I R hs he l 0 a n rfl (ZnF _) hI hn
end Go.Proofs.YtbidabmbbieeiabGreatDoor
end
section
namespace Go.Proofs.YtbidabmbbieeiabGreatDoor
open Go.GL
variable{fuel:Nat}[FU fuel]
mutual
def msz:D.Term→Nat
 |⟨_,_,_,s,k⟩=>s.bytes.length+k.length+mszs k
def mszs:List D.Term→Nat
 |[]=>0
 |x::l=>msz x+mszs l
end
theorem ZaN(t:D.Term):msz t=t.Name.bytes.length+t.Kids.length+mszs t.Kids:=by cases t;rw[msz]
theorem Xr(x:D.Term)(l:List D.Term):mszs (x::l)=msz x+mszs l:=by rw[mszs]
theorem Zcp:mszs []=0:=by rw[mszs]
theorem Zaw{x:D.Term}:∀{l:List D.Term},x∈l→msz x≤mszs l
 |y::l,h=>by
  rw[Xr];rcases Zn1.1 h with rfl|h
  ·omega
  ·have:=Zaw h;omega
def sml(l:List D.Term):Prop:=l.length+mszs l≤1048576
theorem eqT:∀n:Nat,(∀t:D.Term,msz t≤1048576→1048580+2*msz t+1≤n→Zag n t t=some true)∧(∀l:List D.Term,sml l→1048580+2*(l.length+mszs l)≤n→Y2 n l l=some true):=by
 intro n
 induction n with
 |zero=>exact⟨fun t _ _=>by omega,fun l _ _=>by omega⟩
 | succ n ih=>
  refine⟨fun t h hn=>?_,fun l h hn=>?_⟩
  ·have:=ZaN t;unfold Zag;rw[ih.2 t.Kids (by unfold sml;omega) (by omega)];simp[Za1]
  ·unfold sml at h;unfold Y2;rw[ZmD (by simp)];obtain⟨r,g1,g2⟩:=Yh (l:=l) (n:=n) (σ:=Unit) (ρ:=Unit⊕Bool) (B:=fun(s1:Int)=>if(decide (s1<(len l)))then(get? l s1).bind fun x1=>(get? l s1).bind fun x2=>(Zag n x1 x2).bind fun x3=>if(!x3)then some (.inr (.inr false))else some (.inl ((w64 (s1+1))))else some (.inr (.inl ()))) (fun k(_:Unit)=>(k:Int)) (fun ys _=>∀x∈ys,x∈l) (fun r=>r=(.inl ():Unit⊕Bool))
     (fun k x xs a hk' hx hlen hm=>by
      have hxl:=hm x (by simp);have:=Zaw hxl;have hpos:0<l.length:=by omega
      simp only[get?_nat,hx,Zm9,Zf];rw[ZmE (by simpa using hk'),ih.1 x (by omega) (by omega)];refine .inl ⟨(),?_,fun y hy=>hm y (by simp[hy])⟩;simp only[Zm9]
      rw[ZmD (by simp),Zm (by omega) (by omega)];rfl)
     (fun a _=>by
      rw[ZmD (by rw[Zf];simp)]
      exact⟨_,rfl,rfl⟩) (a:=()) (fun x hx=>hx) (by omega)
   rw[show((0:Nat):Int)=0 from rfl]at g1;rw[g1,g2];rfl
theorem eqTS{l:List D.Term}(h:sml l):Y2 fuel l l=some true:=(eqT fuel).2 l h (by unfold sml at h;have:=FU.le (n:=fuel);omega)
def smallP(x:D.Path):Prop:=sml x.Regs∧sml x.Mem∧x.Stack.length≤1048576∧sml x.Out∧sml x.Cond∧x.Turns.length≤1048576
theorem ZgK{x:D.Path}(h:smallP x):ZaD fuel x x=some true:=by
 obtain⟨h1,h2,h3,h4,h5,h6⟩:=h;unfold ZaD;simp[eqTS h1,eqTS h2,ZfK h3,eqTS h4,eqTS h5,ZfK h6]
end Go.Proofs.YtbidabmbbieeiabGreatDoor
end
section
namespace Go.Proofs.YtbidabmbbieeiabGreatDoor
open Go.GL
set_option maxRecDepth 100000
variable{fuel:Nat}[FU fuel]
mutual
def cnt:D.Term→Nat
 |⟨_,_,_,_,k⟩=>1+cnts k
def cnts:List D.Term→Nat
 |[]=>0
 |x::l=>cnt x+cnts l
end
theorem XT(t:D.Term):cnt t=1+cnts t.Kids:=by cases t;rw[cnt]
theorem ZaB(x:D.Term)(l:List D.Term):cnts (x::l)=cnt x+cnts l:=by rw[cnts]
theorem XN:cnts []=0:=by rw[cnts]
theorem Zcj{x:D.Term}:∀{l:List D.Term},x∈l→cnt x≤cnts l
 |y::l,h=>by
  rw[ZaB];rcases Zn1.1 h with rfl|h
  ·omega
  ·have:=Zcj h;omega
def lf(m:Int)(c:Nat):Int:=if m-c<0 then-1 else m-c
theorem few:∀(n:Nat)(t:D.Term)(m:Int),msz t≤1048576→0≤m→m≤240→1048580+m≤n→XD n t m=some (decide (lf m (cnt t)≥0),lf m (cnt t)):=by
 intro n
 induction n with
 |zero=>intro t m _ _ _ _;omega
 |succ n ih=>
  intro t m hs h0 h1 hn;have hz:=ZaN t;unfold XD;rw[Zm (by omega) (by omega)];obtain⟨r,g1,g2⟩:=Yh (l:=t.Kids) (n:=n) (σ:=Int) (ρ:=Int) (B:=fun(s1:Int×Int)=>if((decide (s1.1<(len t.Kids)))&&(decide (s1.2≥0)))then(get? t.Kids s1.1).bind fun x1=>(XD n x1 s1.2).bind fun x2=>some (.inl ((w64 (s1.1+1)),x2.2))else some (.inr (s1.2))) (fun k a=>((k:Int),a)) (fun ys a=>-1≤a∧a≤m-1∧lf a (cnts ys)=lf (m-1) (cnts t.Kids)∧∀x∈ys,x∈t.Kids) (fun r=>r=lf (m-1) (cnts t.Kids))
    (fun k x xs a hk' hx hlen⟨i0,i1,i2,i3⟩=>by
     have:=Zaw (i3 x (by simp));rw[ZaB]at i2;simp only;by_cases ha:0≤a
     ·refine .inl ⟨lf a (cnt x), ?_, ?_, ?_, ?_,fun y hy=>i3 y (by simp[hy])⟩
      ·rw[ZmE (by rw[Zf];simp;omega),get?_nat,hx];simp only[Zm9];rw[ih x a (by omega) ha (by omega) (by omega),Zm (by omega) (by omega)];rfl
      ·unfold lf;split<;>omega
      ·unfold lf;split<;>omega
      ·rw[←i2];unfold lf;split<;>split<;>split<;>omega
     ·refine .inr ⟨a,by rw[ZmD (by simp;omega)], ?_⟩
      rw[←i2];unfold lf;split<;>omega)
    (fun a⟨i0,i1,i2,_⟩=>by
     rw[XN]at i2;simp only;rw[ZmD (by rw[Zf];simp)];refine⟨_,rfl,?_⟩
     rw[←i2];unfold lf;split<;>omega) (a:=m-1) ⟨by omega,by omega,rfl,fun x hx=>hx⟩ (by omega)
  rw[show((0:Nat):Int)=0 from rfl]at g1;rw[g1,g2];have e:lf (m-1) (cnts t.Kids)=lf m (cnt t):=by rw[XT];unfold lf;split<;>split<;>omega
  simp only[Zm9,e]
def okF(k:Nat):List UInt8→Bool
 |[]=>true
 |b::l=>(decide (97≤b.toNat∧b.toNat≤122)||(decide (k≠0)&&decide (48≤b.toNat∧b.toNat≤57)))&&okF (k+1) l
theorem ZgO(k:Nat)(b:UInt8)(l:List UInt8):okF k (b::l)=((decide (97≤b.toNat∧b.toNat≤122)||(decide (k≠0)&&decide (48≤b.toNat∧b.toNat≤57)))&&okF (k+1) l):=rfl
def nameB(s:Str):Bool:=okF 0 s.bytes&&decide (1≤s.bytes.length∧s.bytes.length≤8)
theorem Zg4{s:Str}{k:Nat}{b:UInt8}(h:s.bytes[k]? =some b):sidx? s (k:Int)=some (b.toNat:Int):=by
 unfold sidx?;rw[ZmE (by omega)];simp[h]
theorem Zk(a b c:Int):Zl a b c=some (decide (b≤a∧a≤c)):=by simp[Zl]
theorem Zjn{n:Nat}{s:Str}(hl:s.bytes.length≤1048576)(hn:s.bytes.length<n):ZaA n s=some (nameB s):=by
 unfold ZaA;obtain⟨r,g1,g2⟩:=Yh (l:=s.bytes) (n:=n) (σ:=Unit) (ρ:=Unit⊕Bool) (B:=fun(s1:Int)=>if(decide (s1<(len s.bytes)))then(sidx? s s1).bind fun x1=>(Zl (w64 x1) 97 122).bind fun x2=>(if(s1==0)then some default else(if(!x2)then(sidx? s s1)else some default)).bind fun x3=>(if(s1==0)then some default else(if(!x2)then(Zl (w64 x3) 48 57)else some default)).bind fun x4=>if((!x2)&&((s1==0)||(!x4)))then some (.inr (.inr false))else some (.inl ((w64 (s1+1))))else some (.inr (.inl ()))) (fun k _=>(k:Int)) (fun ys _=>okF (s.bytes.length-ys.length) ys=okF 0 s.bytes) (fun r=>r=if okF 0 s.bytes then(.inl ():Unit⊕Bool)else .inr false)
  (fun k x xs a hk' hx hlen hi=>by
   have e1:s.bytes.length-(x::xs).length=k:=by omega
   have e2:s.bytes.length-xs.length=k+1:=by simp at hlen;omega
   rw[e1]at hi;rw[e2];have hb:=x.toNat_lt;rw[←hi];simp only[Zg4 hx,Zm9,Zk];rw[ZmE (by rw[Zf];simp;omega),Zm (x:=(x.toNat:Int)) (by omega) (by omega),Zm (x:=(k:Int)+1) (by omega) (by omega)];have wx:w64 (x.toNat:Int)=x.toNat:=Zm (by omega) (by omega);rw[ZgO];by_cases c1:97≤x.toNat∧x.toNat≤122
   ·refine .inl ⟨(), ?_, ?_⟩
    ·have:((97:Int)≤x.toNat∧(x.toNat:Int)≤122):=by omega
     simp[this]
    ·simp[c1]
   ·have c1':¬((97:Int)≤x.toNat∧(x.toNat:Int)≤122):=by omega
    by_cases c2:k=0
    ·subst c2;exact .inr ⟨.inr false,by simp[c1',wx],by simp[c1]⟩
    ·by_cases c3:48≤x.toNat∧x.toNat≤57
     ·have:((48:Int)≤x.toNat∧(x.toNat:Int)≤57):=by omega
      exact .inl ⟨(),by simp[c1',c2,this,wx],by simp[c1,c2,c3]⟩
     ·have:¬((48:Int)≤x.toNat∧(x.toNat:Int)≤57):=by omega
      exact .inr ⟨.inr false,by simp[c1',c2,this,wx],by simp[c1,c2,c3]⟩)
  (fun a hi=>by
   rw[ZmD (by rw[Zf];simp)];refine⟨_,rfl,?_⟩
   rw[←hi];simp[okF]) (a:=()) (by simp) hn
 rw[show((0:Nat):Int)=0 from rfl]at g1;rw[g1,g2];unfold nameB;cases okF 0 s.bytes
 ·simp
 ·simp only[Zk,Zf,ZmT,Zm9,Znk,Option.some.injEq,decide_eq_decide];omega
def shB(op w m:Int)(name:Str)(ws:List Int):Bool:=
 if op=0 then ws.isEmpty&&wordB w m
 else if op=22 then ws.isEmpty&&nameB name
 else if 1≤op∧op≤2 then(match ws with|[a]=>a==w|_=>false)
 else if 3≤op∧op≤13 then(match ws with|[a,b]=>a==w&&b==w|_=>false)
 else if 14≤op∧op≤16 then(match ws with|[a,b]=>a==b&&w==1|_=>false)
 else if op=17 then(match ws with|[a,b,c]=>a==1&&b==w&&c==w|_=>false)
 else if op=18 then(match ws with|[a,b]=>a+b==w|_=>false)
 else if op=19 then(match ws with|[a]=>decide (0≤m∧m≤16)&&decide (m+w≤a)|_=>false)
 else if 20≤op∧op≤21 then(match ws with|[a]=>decide (a≤w)|_=>false)
 else false
def locB(t:D.Term):Bool:=
 decide (1≤t.W∧t.W≤16)&&(Str.eqb t.Name ⟨[]⟩||t.Op==22)&&(t.N==0||t.Op==0||t.Op==19)&&shB t.Op t.W t.N t.Name (t.Kids.map (·.W))
mutual
def nodeB:D.Term→Bool
 |⟨o,w,m,s,k⟩=>locB ⟨o,w,m,s,k⟩&&nodesB k
def nodesB:List D.Term→Bool
 |[]=>true
 |x::l=>nodeB x&&nodesB l
end
theorem Xx(t:D.Term):nodeB t=(locB t&&nodesB t.Kids):=by cases t;rw[nodeB]
theorem ZY:∀l:List D.Term,nodesB l=l.all nodeB
 |[]=>by rw[nodesB];rfl
 |x::l=>by rw[nodesB,ZY l];rfl
theorem YM{t:D.Term}(h:nodeB t=true):1≤t.W∧t.W≤16:=by
 rw[Xx]at h;unfold locB at h;simp only[ZmC,ZmK]at h;exact h.1.1.1.1
def pad3:List D.Term→List Int
 |[]=>[0,0,0]
 |[a]=>[a.W,0,0]
 |[a,b]=>[a.W,b.W,0]
 |a::b::c::_=>[a.W,b.W,c.W]
theorem Zl4{l:List D.Term}{n:Nat}(hn:4≤n):iterN (fun(s2:Int×(List Int))=>if((decide (s2.1<(len l)))&&(decide (s2.1<3)))then(get? l s2.1).bind fun x4=>(set? s2.2 s2.1 x4.W).bind fun x5=>some (.inl ((w64 (s2.1+1)),x5))else some (.inr (s2.2))) n (0,([0,0,0]:List Int))=some (pad3 l):=by
 obtain⟨n,rfl⟩:∃j,n=j+4:=⟨n-4,by omega⟩;rcases l with _|⟨a,_|⟨b,_|⟨c,l⟩⟩⟩
 ·simp[iterN,len,pad3]
 ·simp[iterN,len,pad3,get?,set?,Zm]
 ·simp[iterN,len,pad3,get?,set?,Zm]
 ·have h1:(0:Int)<(l.length:Int)+1+1+1:=by omega
  have h2:(1:Int)<(l.length:Int)+1+1+1:=by omega
  have h3:(2:Int)<(l.length:Int)+1+1+1:=by omega
  simp[iterN,len,pad3,get?,set?,Zm,h1,h2,h3]
end Go.Proofs.YtbidabmbbieeiabGreatDoor
end
section
namespace Go.Proofs.YtbidabmbbieeiabGreatDoor
open Go.GL
set_option maxRecDepth 100000
variable{fuel:Nat}[FU fuel]
theorem ZjD {n:Nat}{p0:D.Term}(ih:∀x∈p0.Kids,YF n x=some (nodeB x))(hk:p0.Kids.length≤1048576)(hs:p0.Name.bytes.length≤1048576)(hn:1048580≤n)(hw:1≤p0.W∧p0.W≤16):
   ((iterN (fun(s1:Int)=>if(decide (s1<(len p0.Kids)))then(get? p0.Kids s1).bind fun x2=>(YF n x2).bind fun x3=>if(!x3)then some (.inr (.inr false))else some (.inl ((w64 (s1+1))))else some (.inr (.inl ()))) n (0)).bind fun(rl1:(Unit)⊕Bool)=>match rl1 with| .inl s1r=>(iterN (fun(s2:Int×(List Int))=>if((decide (s2.1<(len p0.Kids)))&&(decide (s2.1<3)))then(get? p0.Kids s2.1).bind fun x4=>(set? s2.2 s2.1 x4.W).bind fun x5=>some (.inl ((w64 (s2.1+1)),x5))else some (.inr (s2.2))) n (0,([0,0,0]:List Int))).bind fun(rl2:(List Int))=>if(p0.Op==0)then(if((len p0.Kids)==0)then(ZG p0.W p0.N)else some default).bind fun x6=>some (((len p0.Kids)==0)&&x6)else if(p0.Op==22)then(if((len p0.Kids)==0)then(ZaA n p0.Name)else some default).bind fun x7=>some (((len p0.Kids)==0)&&x7)else(Zl p0.Op 1 2).bind fun x8=>if x8 then(if((len p0.Kids)==1)then(get? rl2 0)else some default).bind fun x9=>some (((len p0.Kids)==1)&&(x9==p0.W))else(Zl p0.Op 3 13).bind fun x10=>if x10 then(if((len p0.Kids)==2)then(get? rl2 0)else some default).bind fun x11=>(if(((len p0.Kids)==2)&&(x11==p0.W))then(get? rl2 1)else some default).bind fun x12=>some ((((len p0.Kids)==2)&&(x11==p0.W))&&(x12==p0.W))else(Zl p0.Op 14 16).bind fun x13=>if x13 then(if((len p0.Kids)==2)then(get? rl2 0)else some default).bind fun x14=>(if((len p0.Kids)==2)then(get? rl2 1)else some default).bind fun x15=>some ((((len p0.Kids)==2)&&(x14==x15))&&(p0.W==1))else if(p0.Op==17)then(if((len p0.Kids)==3)then(get? rl2 0)else some default).bind fun x16=>(if(((len p0.Kids)==3)&&(x16==1))then(get? rl2 1)else some default).bind fun x17=>(if((((len p0.Kids)==3)&&(x16==1))&&(x17==p0.W))then(get? rl2 2)else some default).bind fun x18=>some (((((len p0.Kids)==3)&&(x16==1))&&(x17==p0.W))&&(x18==p0.W))else if(p0.Op==18)then(if((len p0.Kids)==2)then(get? rl2 0)else some default).bind fun x19=>(if((len p0.Kids)==2)then(get? rl2 1)else some default).bind fun x20=>some (((len p0.Kids)==2)&&((w64 (x19+x20))==p0.W))else if(p0.Op==19)then(if((len p0.Kids)==1)then(Zl p0.N 0 16)else some default).bind fun x21=>(if(((len p0.Kids)==1)&&x21)then(get? rl2 0)else some default).bind fun x22=>some ((((len p0.Kids)==1)&&x21)&&(decide ((w64 (p0.N+p0.W))≤x22)))else(Zl p0.Op 20 21).bind fun x23=>(if(x23&&((len p0.Kids)==1))then(get? rl2 0)else some default).bind fun x24=>some ((x23&&((len p0.Kids)==1))&&(decide (x24≤p0.W)))|.inr v=>some v)=some (nodesB p0.Kids&&shB p0.Op p0.W p0.N p0.Name (p0.Kids.map (·.W))):=by
 have hl:=Zdv (l:=p0.Kids) (f:=fun x=>YF n x) (b:=nodeB) ih (by omega) p0.Kids.length 0 (by omega) n (by omega);rw[show((0:Nat):Int)=0 from rfl]at hl;rw[hl,ZnH,ZY];by_cases ha:p0.Kids.all nodeB=true
 ·rw [ha]
  have hkw:∀x∈p0.Kids,1≤x.W∧x.W≤16:=fun x hx=>YM (ZmL.1 ha x hx);simp only[ZmT,Zm9,Znk,Zk,YU,Zjn hs (show p0.Name.bytes.length<n by omega)];rw[Zl4 (by omega)];simp only[Zm9];generalize hks:p0.Kids=ks;rw[hks]at hkw;obtain⟨op,w,m,nm,_⟩:=p0;simp only at hw⊢;have g0:∀x y z:Int,get? [x,y,z] 0=some x:=fun _ _ _=>rfl;have g1:∀x y z:Int,get? [x,y,z] 1=some y:=fun _ _ _=>rfl;have g2:∀x y z:Int,get? [x,y,z] 2=some z:=fun _ _ _=>rfl;have q0:∀x y z:D.Term,∀l:List D.Term,((l.length:Int)+1+1+1+1==0)=false:=fun x y z l=>by simp;omega
  have hA:ks=[]∨(∃a:D.Term,ks=[a]∧1≤a.W∧a.W≤16)∨(∃a b:D.Term,ks=[a,b]∧(1≤a.W∧a.W≤16)∧1≤b.W∧b.W≤16)∨(∃a b c:D.Term,ks=[a,b,c])∨∃(a b c d:D.Term)(l:List D.Term),ks=a::b::c::d::l:=by
   rcases ks with _|⟨a,_|⟨b,_|⟨c,_|⟨d,l⟩⟩⟩⟩
   ·exact .inl rfl
   ·exact .inr (.inl ⟨a,rfl,hkw a (by simp)⟩)
   ·exact .inr (.inr (.inl ⟨a,b,rfl,hkw a (by simp),hkw b (by simp)⟩))
   ·exact .inr (.inr (.inr (.inl ⟨a,b,c,rfl⟩)))
   ·exact .inr (.inr (.inr (.inr ⟨a,b,c,d,l,rfl⟩)))
  rcases hA with rfl|⟨a,rfl,ha⟩|⟨a,b,rfl,ha,hb⟩|⟨a,b,c,rfl⟩|⟨a,b,c,d,l,rfl⟩
  ·simp only[pad3,Zf,Znz,Zoe,g0,g1,g2,Zm9,Zda];unfold shB;by_cases o0:op=0
   ·simp[o0]
   by_cases o1:op=22
   ·simp[o1]
   simp[o0,o1]
  ·have e19:∀h:0≤m∧m≤16,w64 (m+w)=m+w:=fun h=>Zm (by omega) (by omega);simp only[pad3,Zf,Znz,ZmX,Zoe,Znn,g0,g1,g2,Zm9,Zda];unfold shB;by_cases o0:op=0
   ·simp[o0]
   by_cases o1:op=22
   ·simp[o1]
   by_cases o2:1≤op∧op≤2
   ·simp[o0,o1,o2]
   by_cases o3:3≤op∧op≤13
   ·simp[o0,o1,o2,o3]
   by_cases o4:14≤op∧op≤16
   ·simp[o0,o1,o2,o3,o4]
   by_cases o5:op=17
   ·simp[o5]
   by_cases o6:op=18
   ·simp[o6]
   by_cases o7:op=19
   ·by_cases hm:0≤m∧m≤16
    ·simp[o7,hm,e19 hm]
    ·simp[o7,hm]
   by_cases o8:20≤op∧op≤21
   ·simp[o0,o1,o2,o3,o4,o5,o6,o7,o8]
   simp[o0,o1,o2,o3,o4,o5,o6,o7,o8]
  ·have e18:w64 (a.W+b.W)=a.W+b.W:=Zm (by omega) (by omega);simp only[pad3,Zf,Znz,ZmX,Zoe,Znn,g0,g1,g2,Zm9,Zda,e18];unfold shB;by_cases o0:op=0
   ·simp[o0]
   by_cases o1:op=22
   ·simp[o1]
   by_cases o2:1≤op∧op≤2
   ·simp[o0,o1,o2]
   by_cases o3:3≤op∧op≤13
   ·by_cases c:a.W=w
    ·simp[o0,o1,o2,o3,c]
    ·have c':(a.W==w)=false:=by simpa using c
     simp[o0,o1,o2,o3,c,c']
   by_cases o4:14≤op∧op≤16
   ·simp[o0,o1,o2,o3,o4]
   by_cases o5:op=17
   ·simp[o5]
   by_cases o6:op=18
   ·simp[o6,e18]
   by_cases o7:op=19
   ·simp[o7]
   simp[o0,o1,o2,o3,o4,o5,o6,o7]
  ·simp only[pad3,Zf,Znz,ZmX,Zoe,Znn,g0,g1,g2,Zm9,Zda];unfold shB;by_cases o0:op=0
   ·simp[o0]
   by_cases o1:op=22
   ·simp[o1]
   by_cases o2:1≤op∧op≤2
   ·simp[o0,o1,o2]
   by_cases o3:3≤op∧op≤13
   ·simp[o0,o1,o2,o3]
   by_cases o4:14≤op∧op≤16
   ·simp[o0,o1,o2,o3,o4]
   by_cases o5:op=17
   ·by_cases c1:a.W=1
    ·by_cases c2:b.W=w
     ·simp[o5,c1,c2]
     ·have c2':(b.W==w)=false:=by simpa using c2
      simp[o5,c1,c2,c2']
    ·have c1':(a.W==1)=false:=by simpa using c1
     simp[o5,c1,c1']
   by_cases o6:op=18
   ·simp[o6]
   by_cases o7:op=19
   ·simp[o7]
   simp[o0,o1,o2,o3,o4,o5,o6,o7]
  ·have e0:(len (a::b::c::d::l)==0)=false:=by rw[Zf];simp;omega
   have e1:(len (a::b::c::d::l)==1)=false:=by rw[Zf];simp;omega
   have e2:(len (a::b::c::d::l)==2)=false:=by rw[Zf];simp;omega
   have e3:(len (a::b::c::d::l)==3)=false:=by rw[Zf];simp;omega
   simp only[pad3,Znn,g0,g1,g2,Zm9,Zda,e0,e1,e2,e3,Zn0,Bool.and_false,ZmI,ZmA];unfold shB;simp
 ·rw[Bool.not_eq_true]at ha;rw[ha];simp
theorem Zj8:∀(n:Nat)(t:D.Term),msz t≤1048576→1048580+cnt t≤n→YF n t=some (nodeB t):=by
 intro n
 induction n with
 |zero=>intro t _ _;omega
 | succ n ih=>
  intro t hs hn;have hz:=ZaN t;have hc:=XT t;have ih':∀x∈t.Kids,YF n x=some (nodeB x):=fun x hx=>by
   have:=Zaw hx;have:=Zcj hx;exact ih x (by omega) (by omega)
  have e0:∀c:Bool,nodeB t=(decide (1≤t.W∧t.W≤16)&&(Str.eqb t.Name ⟨[]⟩||t.Op==22)&&(t.N==0||t.Op==0||t.Op==19)&&(nodesB t.Kids&&shB t.Op t.W t.N t.Name (t.Kids.map (·.W)))):=fun _=>by
   rw[Xx];unfold locB;cases nodesB t.Kids<;>simp
  have e0:=e0 true;unfold YF;rw[Zk];simp only[Zm9];have hx:∀a b c d e f:Bool,((!a||(!b&& !c))||((!d&& !e)&& !f))= !(a&&(b||c)&&(d||e||f)):=by decide
  rw[show((!decide (1≤t.W∧t.W≤16)||((!Str.eqb t.Name ⟨[]⟩)&&(t.Op !=22)))||(((t.N !=0)&&(t.Op !=0))&&(t.Op !=19)))=_ from hx _ _ _ _ _ _];cases c:(decide (1≤t.W∧t.W≤16)&&(Str.eqb t.Name ⟨[]⟩||t.Op==22)&&(t.N==0||t.Op==0||t.Op==19))
  ·rw[e0,c];rfl
  ·have hw:1≤t.W∧t.W≤16:=by
    simp only[ZmC,ZmK]at c;exact c.1.1
   rw[e0,c,ZmD (by decide),Znk];exact ZjD ih' (by omega) (by omega) (by omega) hw
end Go.Proofs.YtbidabmbbieeiabGreatDoor
end
section
namespace Go.Proofs.YtbidabmbbieeiabGreatDoor
open Go.GL
set_option linter.unusedSimpArgs false
variable{fuel:Nat}[FU fuel]
theorem ZkR:∀x:List UInt8,Op.bytesLess x x=false
 |[]=>rfl
 |a::x=>by simp[Op.bytesLess,ZkR x]
theorem ZgT:∀x y z:List UInt8,Op.bytesLess x y=true→Op.bytesLess y z=true→Op.bytesLess x z=true
 |_,_,[]=>by intro _ h;cases ‹List UInt8› <;>simp[Op.bytesLess]at h
 |_,[],_::_=>by intro h _;cases ‹List UInt8› <;>simp[Op.bytesLess]at h
 |[],_::_,_::_=>by intro _ _;rfl
 | a::x,b::y,c::z=>by
  intro h1 h2;simp only[Op.bytesLess,Zns,ZmK,ZmC,Zng]at h1 h2⊢;rcases h1 with h1|⟨rfl,h1⟩
  ·rcases h2 with h2|⟨rfl,h2⟩
   ·exact .inl (UInt8.lt_trans h1 h2)
   ·exact .inl h1
  ·rcases h2 with h2|⟨rfl,h2⟩
   ·exact .inl h2
   ·exact .inr ⟨rfl,ZgT x y z h1 h2⟩
theorem Zk2:∀x y:List UInt8,Op.bytesLess x y=false→x≠y→Op.bytesLess y x=true
 |[],[]=>fun _ h=>absurd rfl h
 |_::_,[]=>fun _ _=>rfl
 |[],_::_=>fun h _=>by simp[Op.bytesLess]at h
 | a::x,b::y=>by
  intro h1 h2;simp only[Op.bytesLess,Bool.or_eq_false_iff,decide_eq_false_iff_not,Zns,ZmK,ZmC,Zng]at h1⊢;by_cases e:a=b
  ·subst e;have:Op.bytesLess x y=false:=by simpa using h1.2
   exact .inr ⟨rfl,Zk2 x y this (fun h=>h2 (by rw[h]))⟩
  ·rcases UInt8.lt_or_lt_of_ne e with h|h
   ·exact absurd h h1.1
   ·exact .inl h
theorem toList_mk(l:List UInt8):(ByteArray.mk l.toArray).toList=l:=by
 exact(Lib.toList_data _)
theorem Zg1(a b:Str):Str.ltb a b=Op.bytesLess a.bytes b.bytes:=by unfold Str.ltb;rw[toList_mk,toList_mk]
theorem ZcW(a b:Str):Str.eqb a b=decide (a=b):=by
 unfold Str.eqb;rw[toList_mk,toList_mk];by_cases h:a=b
 ·subst h;simp
 ·have:a.bytes≠b.bytes:=fun e=>h (by cases a;cases b;simpa using e);simp[h,this]
theorem Zkw(a:Str):Str.ltb a a=false:=by rw[Zg1];exact ZkR _
theorem lt_trans{a b c:Str}(h1:Str.ltb a b=true)(h2:Str.ltb b c=true):Str.ltb a c=true:=by rw[Zg1]at*;exact ZgT _ _ _ h1 h2
theorem ZkN{a b:Str}(h1:Str.ltb a b=false)(h2:a≠b):Str.ltb b a=true:=by
 rw[Zg1]at*;exact Zk2 _ _ h1 fun e=>h2 (by cases a;cases b;simpa using e)
mutual
def vrs:D.Term→List (Str×Int)
 |⟨o,w,_,s,k⟩=>if o=22 then[(s,w)]else vrss k
def vrss:List D.Term→List (Str×Int)
 |[]=>[]
 |x::l=>vrs x++vrss l
end
theorem Zfr(t:D.Term):vrs t=if t.Op=22 then[(t.Name,t.W)]else vrss t.Kids:=by cases t;rw[vrs]
theorem ZcU(x:D.Term)(l:List D.Term):vrss (x::l)=vrs x++vrss l:=by rw[vrss]
theorem ZdK:vrss []=[]:=by rw[vrss]
def stp(g:List (Str×Int))(v:Str×Int):Option (List (Str×Int)):=
 match g.lookup v.1 with
 |some w=>if w=v.2 then some g else none
 |none=>some (v::g)
def runV(g:List (Str×Int)):List (Str×Int)→Option (List (Str×Int))
 |[]=>some g
 |v::l=>(stp g v).bind fun g'=>runV g' l
theorem Zhv(l m:List (Str×Int)):∀g,runV g (l++m)=(runV g l).bind fun g'=>runV g' m:=by
 induction l with
 |nil=>intro g;rfl
 |cons v l ih=>
  intro g;simp only[List.cons_append,runV];cases stp g v with
  |none=>rfl
  |some g'=>simp only[Zm9];exact ih g'
theorem Zir{g g':List (Str×Int)}{v:Str×Int}(h:stp g v=some g'):g'.length≤g.length+1:=by
 unfold stp at h;split at h
 ·split at h
  ·cases h;omega
  ·cases h
 ·cases h;simp
theorem ZeB:∀{l g g':List (Str×Int)},runV g l=some g'→g'.length≤g.length+l.length
 |[],g,g',h=>by simp only[runV,Option.some.injEq]at h;subst h;simp
 |v::l,g,g',h=>by
  simp only[runV,ZnG]at h;obtain⟨g1,h1,h2⟩:=h;have:=Zir h1;have:=ZeB h2;simp only[ZmX];omega
def Rel(l:List D.Value)(g:List (Str×Int)):Prop:=
 l.Pairwise (fun a b=>Str.ltb a.Name b.Name=true)∧l.length=g.length∧(∀v∈l,g.lookup v.Name=some v.W)∧∀s w,g.lookup s=some w→∃v∈l,v.Name=s
def before(s:Str)(l:List D.Value):Nat:=(l.takeWhile fun v=>Str.ltb v.Name s).length
theorem Zef(s:Str)(l:List D.Value):before s l≤l.length:=(List.takeWhile_sublist _).length_le
theorem ZcR{s:Str}:∀{l:List D.Value}{i:Nat}{v:D.Value},i<before s l→l[i]? =some v→Str.ltb v.Name s=true
 |[],i,v,h,hv=>by simp at hv
 | x::l,i,v,h,hv=>by
  unfold before at h;rw[List.takeWhile_cons]at h;split at h
  ·cases i with
   |zero=>simp at hv;subst hv;assumption
   |succ i=>exact ZcR (l:=l) (i:=i) (by unfold before;simpa using h) (by simpa using hv)
  ·simp at h
theorem ZcZ{s:Str}:∀{l:List D.Value}{v:D.Value},l[before s l]? =some v→Str.ltb v.Name s=false
 |[],v,hv=>by simp at hv
 | x::l,v,hv=>by
  unfold before at hv;rw[List.takeWhile_cons]at hv;by_cases h:Str.ltb x.Name s=true
  ·rw[ZmE h]at hv;exact ZcZ (l:=l) (by unfold before;simpa using hv)
  ·rw[ZmD h]at hv;simp at hv;subst hv;simpa using h
theorem ZkH{l:List D.Value}{s:Str}{n:Nat}(hl:l.length≤1048576)(hn:l.length<n):iterN (fun(s1:Int)=>(if(decide (s1<(len l)))then(get? l s1)else some default).bind fun x1=>if((decide (s1<(len l)))&&(Str.ltb x1.Name s))then some (.inl ((w64 (s1+1))))else some (.inr (s1))) n (0)=some (before s l:Int):=by
 obtain⟨r,g1,g2⟩:=Yh (l:=l) (n:=n) (σ:=Unit) (ρ:=Int) (B:=fun(s1:Int)=>(if(decide (s1<(len l)))then(get? l s1)else some default).bind fun x1=>if((decide (s1<(len l)))&&(Str.ltb x1.Name s))then some (.inl ((w64 (s1+1))))else some (.inr (s1))) (fun k _=>(k:Int)) (fun ys _=>l.length≤before s l+ys.length) (fun r=>r=(before s l:Int))
  (fun k x xs a hk' hx hlen hi=>by
   simp only[ZmX]at hlen hi;have hd:decide ((k:Int)<len l)=true:=by rw[Zf];simp;omega
   rw[ZmE hd,get?_nat,hx];simp only[Zm9,hd,Znk];by_cases c:Str.ltb x.Name s=true
   ·refine .inl ⟨(),by rw[ZmE c,Zm (by omega) (by omega)];rfl, ?_⟩;have:k≠before s l:=fun e=>by
     rw[e]at hx;rw[ZcZ hx]at c;cases c
    omega
   ·refine .inr ⟨(k:Int),by rw[ZmD c], ?_⟩;have:¬k<before s l:=fun h=>c (ZcR h hx)
    omega)
  (fun a hi=>by
   have hd:decide ((l.length:Int)<len l)=false:=by rw[Zf];simp
   simp only[hd,ZmA,ZmI,Zm9,Zn0];have:=Zef s l
   exact⟨_,rfl,by simp at hi;omega⟩) (a:=()) (by omega) hn
 rw[show((0:Nat):Int)=0 from rfl]at g1;rw[g1,g2]
theorem Rel.none{l:List D.Value}{g:List (Str×Int)}{s:Str}(h:Rel l g)(hn:∀v,l[before s l]? =some v→v.Name≠s):g.lookup s=none:=by
 cases e:g.lookup s with
 |none=>rfl
 | some w=>
  exfalso;obtain⟨v,hv,rfl⟩:=h.2.2.2 s w e;obtain⟨j,hj⟩:=ZnX.1 hv;rcases Zoy j (before v.Name l)with h1|h1|h1
  ·have:=ZcR h1 hj;rw[Zkw]at this;cases this
  ·rw[h1]at hj;exact hn v hj rfl
  ·obtain⟨hj',e2⟩:=ZmJ.1 hj;have hu:l[before v.Name l]? =some l[before v.Name l]:=ZmF (by omega);have h2:=ZcZ hu;have h3:=Zob.1 h.1 _ _ (by omega) hj' h1;rw[e2]at h3;rw[h2]at h3;cases h3
theorem Rel.put{l:List D.Value}{g:List (Str×Int)}{s:Str}{w:Int}(h:Rel l g)(hn:∀v,l[before s l]? =some v→v.Name≠s):Rel (l.take (before s l)++[⟨s,w,0⟩]++l.drop (before s l)) ((s,w)::g):=by
 have hno:=h.none hn;have hb:=Zef s l;have hlt:∀v∈l.take (before s l),Str.ltb v.Name s=true:=fun v hv=>by
  obtain⟨j,hj⟩:=ZnX.1 hv;rw[Znc]at hj;split at hj
  ·exact ZcR (by assumption) hj
  ·cases hj
 have hgt:∀v∈l.drop (before s l),Str.ltb s v.Name=true:=fun v hv=>by
  obtain⟨j,hj⟩:=ZnX.1 hv;rw[Zn4]at hj;obtain⟨hj',e2⟩:=ZmJ.1 hj;have hu:l[before s l]? =some l[before s l]:=ZmF (by omega);have h1:=ZkN (ZcZ hu) (hn _ hu);rcases Nat.eq_zero_or_pos j with rfl|hp
  ·simp only[Nat.add_zero]at e2;rw[←e2];exact h1
  ·have h3:=Zob.1 h.1 _ _ (by omega) hj' (show before s l<before s l+j by omega);rw[e2]at h3;exact lt_trans h1 h3
 have hmem:∀v,v∈l.take (before s l)++[⟨s,w,0⟩]++l.drop (before s l)↔v=⟨s,w,0⟩∨v∈l:=fun v=>by
  have:v∈l↔v∈l.take (before s l)∨v∈l.drop (before s l):=by
   rw[←Zne,ZnT]
  simp only[Zne,ZmO,this];grind
 have hp:(l.take (before s l)++l.drop (before s l)).Pairwise (fun a b=>Str.ltb a.Name b.Name=true):=by rw[ZnT];exact h.1
 rw[List.pairwise_append]at hp;refine⟨?_,?_,fun v hv=>?_,fun s' w' hs=>?_⟩
 ·rw[ZnB,List.pairwise_append];refine⟨hp.1,?_,fun a ha b hb=>?_⟩
  ·rw[ZnD,List.pairwise_cons];exact⟨fun b hb=>hgt b hb,hp.2.1⟩
  ·rw[ZnD]at hb;rcases Zn1.1 hb with rfl|hb
   ·exact hlt a ha
   ·exact hp.2.2 a ha b hb
 ·have:=h.2.1;simp;omega
 ·rcases(hmem v).1 hv with rfl|hv
  ·simp
  ·have h1:=h.2.2.1 v hv;have:v.Name≠s:=fun e=>by rw[e,hno]at h1;cases h1
   rw[Znl];have:(v.Name==s)=false:=by simpa using this
   rw[this];exact h1
 ·rw[Znl]at hs;by_cases e:s'=s
  ·exact⟨_,(hmem _).2 (.inl rfl),e.symm⟩
  ·have:(s'==s)=false:=by simpa using e
   rw[this]at hs;obtain⟨v,h1,h2⟩:=h.2.2.2 s' w' hs;exact⟨v,(hmem _).2 (.inr h1),h2⟩
theorem ZlC:∀n:Nat,(∀t:D.Term,msz t<n→(vrs t).length≤cnt t)∧∀l:List D.Term,l.length+mszs l<n→(vrss l).length≤cnts l:=by
 intro n
 induction n with
 |zero=>exact⟨fun _ h=>by omega,fun _ h=>by omega⟩
 | succ n ih=>
  have hT:∀t:D.Term,msz t<n+1→(∀l:List D.Term,l.length+mszs l<n+1→(vrss l).length≤cnts l)→(vrs t).length≤cnt t:=fun t h hl=>by
   have:=ZaN t;rw[Zfr,XT];split
   ·simp
   ·have:=hl t.Kids (by omega);omega
  have hL:∀l:List D.Term,l.length+mszs l<n+1→(vrss l).length≤cnts l:=fun l h=>by
   cases l with
   |nil=>rw[ZdK,XN];simp
   |cons x l=>
    rw[Xr]at h;simp only[ZmX]at h;rw[ZcU,ZaB,ZmR];have h1:=ih.1 x (by omega);have h2:=ih.2 l (by omega);omega
  exact⟨fun t h=>hT t h hL,hL⟩
theorem ZjQ(t:D.Term):(vrs t).length≤cnt t:=(ZlC (msz t+1)).1 t (by omega)
theorem Zj1:∀(n:Nat)(t:D.Term)(l:List D.Value)(g:List (Str×Int)),msz t≤1048576→Rel l g→g.length+(vrs t).length≤1000→1048580+cnt t≤n→
  ∃l' b,Xc n t l=some (l',b)∧(b=true→∃g',runV g (vrs t)=some g'∧Rel l' g')∧(b=false→runV g (vrs t)=none):=by
 intro n
 induction n with
 |zero=>intro t l g _ _ _ _;omega
 | succ n ih=>
  intro t l g hs hr hg hn;have hz:=ZaN t;have hc:=XT t;have hlen:=hr.2.1;unfold Xc;by_cases ho:t.Op=22
  ·rw [ZmE (by simpa using ho),ZkH (by omega) (by omega)]
   simp only[Zm9];have hb:=Zef t.Name l;have hv:vrs t=[(t.Name,t.W)]:=by rw[Zfr,ZmE ho]
   rw[hv];have hrun:runV g [(t.Name,t.W)]=stp g (t.Name,t.W):=by
    simp only[runV];cases stp g (t.Name,t.W)<;>rfl
   rw[hrun];by_cases hf:∃v,l[before t.Name l]? =some v∧v.Name=t.Name
   ·obtain⟨v,hv1,hv2⟩:=hf;obtain⟨hlt,-⟩:=ZmJ.1 hv1;have hd:decide ((before t.Name l:Int)<len l)=true:=by rw[Zf];simp;omega
    have hk:g.lookup t.Name=some v.W:=by rw[←hv2];exact hr.2.2.1 v (Zn6 hv1)
    simp only[hd,ZmT,get?_nat,hv1,Zm9,Znk,ZcW,hv2,decide_true];refine⟨_,_,rfl,fun h=>⟨g,?_,hr⟩,fun h=>?_⟩
    ·unfold stp;rw[hk];simp only;rw[ZmE (by simpa using h)]
    ·unfold stp;rw[hk];simp only;rw[ZmD (by simpa using h)]
   ·have hne:∀v,l[before t.Name l]? =some v→v.Name≠t.Name:=fun v h e=>hf ⟨v,h,e⟩;have hno:=hr.none hne;have hx:∃x2,(if(decide ((before t.Name l:Int)<(len l)))=true then(get? l (before t.Name l:Int))else some default)=some x2∧(decide ((before t.Name l:Int)<(len l))&&Str.eqb x2.Name t.Name)=false:=by
     by_cases hlt:before t.Name l<l.length
     ·have hd:decide ((before t.Name l:Int)<len l)=true:=by rw[Zf];simp;omega
      refine⟨l[before t.Name l],?_,?_⟩
      ·rw[ZmE hd,get?_nat,ZmF hlt]
      ·rw[ZcW,decide_eq_false (hne _ (ZmF hlt))];simp
     ·have hd:decide ((before t.Name l:Int)<len l)=false:=by rw[Zf];simp;omega
      exact⟨default,by rw[hd];rfl,by rw[hd];rfl⟩
    obtain⟨x2,hx1,hx2⟩:=hx;rw[hx1];simp only[Zm9,hx2,ZmA,ZmI];have c1:cut? l 0 (before t.Name l:Int)=some (l.take (before t.Name l)):=by
     unfold cut?;rw[ZmE ⟨by omega,by omega,by omega⟩];simp
    have c2:cut? l (before t.Name l:Int) (len l)=some (l.drop (before t.Name l)):=by
     unfold cut?;rw[Zf,ZmE ⟨by omega,by omega,by omega⟩];simp
    have c3:app? ([]:List D.Value) (l.take (before t.Name l))=some (l.take (before t.Name l)):=by
     unfold app?;rw[ZmE (by unfold room;simp;omega)];rfl
    have c4:app? (l.take (before t.Name l)) [(⟨t.Name,t.W,0⟩:D.Value)]=some (l.take (before t.Name l)++[⟨t.Name,t.W,0⟩]):=by
     unfold app?;rw[ZmE (by unfold room;simp;omega)]
    have c5:app? (l.take (before t.Name l)++[(⟨t.Name,t.W,0⟩:D.Value)]) (l.drop (before t.Name l))=some (l.take (before t.Name l)++[⟨t.Name,t.W,0⟩]++l.drop (before t.Name l)):=by
     unfold app?;rw[ZmE (by unfold room;simp;omega)]
    simp only[c1,c2,c3,c4,c5,Zm9];refine⟨_,_,rfl,fun _=>⟨(t.Name,t.W)::g,?_,hr.put hne⟩,fun h=>by cases h⟩;unfold stp;rw[hno]
  ·rw [ZmD (by simpa using ho)]
   have hv:vrs t=vrss t.Kids:=by rw[Zfr,ZmD ho]
   rw[hv]at hg⊢;obtain⟨r,g1,g2⟩:=Yh (l:=t.Kids) (n:=n) (σ:=List D.Value) (ρ:=(List D.Value)⊕((List D.Value)×Bool)) (B:=fun(s2:(List D.Value)×Int)=>if(decide (s2.2<(len t.Kids)))then(get? t.Kids s2.2).bind fun x9=>(Xc n x9 s2.1).bind fun x10=>if(!x10.2)then some (.inr (.inr (([]:List D.Value),false)))else some (.inl (x10.1,(w64 (s2.2+1))))else some (.inr (.inl (s2.1)))) (fun k a=>(a,(k:Int))) (fun ys a=>∃ga,Rel a ga∧runV ga (vrss ys)=runV g (vrss t.Kids)∧ga.length+(vrss ys).length≤1000∧∀x∈ys,x∈t.Kids)
     (fun r=>(∃l',r= .inl l'∧∃g',runV g (vrss t.Kids)=some g'∧Rel l' g')∨(r= .inr ([],false)∧runV g (vrss t.Kids)=none))
     (fun k x xs a hk' hx hlen⟨ga,i0,i1,i2,i3⟩=>by
      have hxk:=i3 x (by simp);have:=Zaw hxk;have:=Zcj hxk;rw[ZcU,Zhv]at i1;rw[ZcU,ZmR]at i2;obtain⟨l',b,e1,e2,e3⟩:=ih x a ga (by omega) i0 (by omega) (by omega);have hd:decide ((k:Int)<len t.Kids)=true:=by rw[Zf];simp;omega
      simp only[hd,ZmT,get?_nat,hx,Zm9,e1];cases b with
      |false=>
       refine .inr ⟨_,rfl,.inr ⟨rfl,?_⟩⟩;rw[e3 rfl]at i1;exact i1.symm
      |true=>
       obtain⟨g',h1,h2⟩:=e2 rfl;refine .inl ⟨l',by simp only[ZmH,ZmA,ZmI];rw[Zm (by omega) (by omega)];rfl,g',h2,?_,?_,fun y hy=>i3 y (by simp[hy])⟩
       ·rw[h1]at i1;exact i1
       ·have:=ZeB h1;omega)
     (fun a⟨ga,i0,i1,i2,i3⟩=>by
      have hd:decide ((t.Kids.length:Int)<len t.Kids)=false:=by rw[Zf];simp
      simp only[hd,ZmA,ZmI];rw[ZdK]at i1
      exact⟨_,rfl,.inl ⟨a,rfl,ga,i1.symm,i0⟩⟩) (a:=l) ⟨g,hr,rfl,hg,fun x hx=>hx⟩ (by omega)
   rw[show((0:Nat):Int)=0 from rfl]at g1;rw[g1];rcases g2 with⟨l',rfl,g',h1,h2⟩|⟨rfl,h1⟩
   ·exact⟨l',true,rfl,fun _=>⟨g',h1,h2⟩,fun h=>by cases h⟩
   ·exact⟨[],false,rfl,fun h=>(by cases h),fun _=>h1⟩
def termB(t:D.Term):Bool:=decide (cnt t≤240)&&nodeB t&&(runV [] (vrs t)).isSome
theorem ZiY{t:D.Term}(h:msz t≤1048576):Zbg fuel t=some (termB t):=by
 unfold Zbg termB;rw[few fuel t 240 h (by omega) (by omega) (by have:=FU.le (n:=fuel);omega)];simp only[Zm9];by_cases hc:cnt t≤240
 ·have e:decide (lf 240 (cnt t)≥0)=true:=by unfold lf;rw[ZmD (by omega)];simp;omega
  rw[Zj8 fuel t h (by have:=FU.le (n:=fuel);omega)];simp only[e,ZmH,ZmA,ZmI,Zm9,hc,decide_true,Znk];cases hb:nodeB t
  ·simp
  ·have hv:=ZjQ t;obtain⟨l',b,e1,e2,e3⟩:=Zj1 fuel t [] [] h ⟨List.Pairwise.nil,rfl,by simp,by simp⟩ (by simp;omega) (by have:=FU.le (n:=fuel);omega);rw[e1];cases b with
   |false=>rw[e3 rfl];rfl
   |true=>obtain⟨g',h1,-⟩:=e2 rfl;rw[h1];rfl
 ·have e:decide (lf 240 (cnt t)≥0)=false:=by unfold lf;rw[ZmE (by omega)];rfl
  simp[e,hc]
end Go.Proofs.YtbidabmbbieeiabGreatDoor
end
section
namespace Go.Proofs.YtbidabmbbieeiabGreatDoor
open Go.GL
set_option linter.unusedSimpArgs false
set_option maxRecDepth 100000
variable{fuel:Nat}[FU fuel]
theorem ZdV{n:Nat}{s:Str}(hl:s.bytes.length≤1048576)(hn:s.bytes.length<n):ZaC n s=some (nameB s):=by
 unfold ZaC;by_cases hlen:1≤s.bytes.length∧s.bytes.length≤8
 ·rw [ZmD (by rw[Zf];simp;omega)]
  obtain⟨r,g1,g2⟩:=Yh (l:=s.bytes) (n:=n) (σ:=Unit) (ρ:=Unit⊕Bool) (B:=fun(s1:Int)=>if(decide (s1<(len s.bytes)))then(sidx? s s1).bind fun x1=>(if(decide (x1≥97))then(sidx? s s1)else some default).bind fun x2=>(sidx? s s1).bind fun x3=>(if(decide (x3≥48))then(sidx? s s1)else some default).bind fun x4=>if((!((decide (x1≥97))&&(decide (x2≤122))))&&(!(((decide (x3≥48))&&(decide (x4≤57)))&&(decide (s1>0)))))then some (.inr (.inr false))else some (.inl ((w64 (s1+1))))else some (.inr (.inl ()))) (fun k _=>(k:Int)) (fun ys _=>okF (s.bytes.length-ys.length) ys=okF 0 s.bytes) (fun r=>r=if okF 0 s.bytes then(.inl ():Unit⊕Bool)else .inr false)
   (fun k x xs a hk' hx hlen hi=>by
    have e1:s.bytes.length-(x::xs).length=k:=by omega
    have e2:s.bytes.length-xs.length=k+1:=by simp at hlen;omega
    rw[e1]at hi;rw[e2];have hb:=x.toNat_lt;rw[←hi];simp only[Zg4 hx,Zm9];rw[ZmE (by rw[Zf];simp;omega),Zm (by omega) (by omega)];have hd:∀c:Bool,∃y:Int,(if c=true then(some (x.toNat:Int))else some default)=some y∧(c=true→y=x.toNat):=fun c=>by
     cases c
     ·exact⟨_,rfl,fun h=>by cases h⟩
     ·exact⟨_,rfl,fun _=>rfl⟩
    obtain⟨y2,h2,i2⟩:=hd (decide ((x.toNat:Int)≥97));obtain⟨y4,h4,i4⟩:=hd (decide ((x.toNat:Int)≥48));rw[h2,h4];simp only[Zm9];have j2:(decide ((x.toNat:Int)≥97)&&decide (y2≤122))=decide (97≤x.toNat∧x.toNat≤122):=by
     by_cases c:(x.toNat:Int)≥97
     ·rw[i2 (by simpa using c),ZnY];simp only[ZmC,ZmK];omega
     ·rw[ZnY];simp only[ZmC,ZmK];omega
    have j4:(decide ((x.toNat:Int)≥48)&&decide (y4≤57))=decide (48≤x.toNat∧x.toNat≤57):=by
     by_cases c:(x.toNat:Int)≥48
     ·rw[i4 (by simpa using c),ZnY];simp only[ZmC,ZmK];omega
     ·rw[ZnY];simp only[ZmC,ZmK];omega
    rw[j2,j4,ZgO];by_cases c1:97≤x.toNat∧x.toNat≤122
    ·exact .inl ⟨(),by simp[c1],by simp[c1]⟩
    ·by_cases c3:48≤x.toNat∧x.toNat≤57
     ·by_cases c2:k=0
      ·subst c2;exact .inr ⟨.inr false,by simp[c1,c3],by simp[c1]⟩
      ·have:(0:Int)<(k:Int):=by omega
       exact .inl ⟨(),by simp[c1,c3,this,c2],by simp[c1,c2,c3]⟩
     ·exact .inr ⟨.inr false,by simp[c1,c3],by simp[c1,c3]⟩)
   (fun a hi=>by
    rw[ZmD (by rw[Zf];simp)];refine⟨_,rfl,?_⟩
    rw[←hi];simp[okF]) (a:=()) (by simp) hn
  rw[show((0:Nat):Int)=0 from rfl]at g1;rw[g1,g2];unfold nameB;rw[decide_eq_true hlen];cases okF 0 s.bytes<;>rfl
 ·rw[ZmE (by rw[Zf];simp;omega)];unfold nameB;rw[decide_eq_false hlen];simp
def kc(o:Int):Int:=(YQ o).getD 0
theorem Zmm(o:Int):YQ o=some (kc o):=by
 unfold kc;have:∃k,YQ o=some k:=by
  unfold YQ;split
  ·exact⟨_,rfl⟩
  ·split
   ·exact⟨_,rfl⟩
   ·split
    ·exact⟨_,rfl⟩
    ·split
     ·exact⟨_,rfl⟩
     ·exact⟨_,rfl⟩
 obtain⟨k,h⟩:=this;rw[h];rfl
theorem Zhh(w:Int):ZA w=some (decide (1≤w∧w≤16)):=by simp[ZA]
theorem Zlq{t:D.Term}(hw:1≤t.W∧t.W≤16)(hk:∀x∈t.Kids,1≤x.W∧x.W≤16)(hl:(t.Kids.length:Int)=kc t.Op):
  ∃f,Zah t=some f∧shB t.Op t.W t.N t.Name (t.Kids.map (·.W))=(f&&(t.Op !=0||wordB t.W t.N)&&(t.Op !=22||nameB t.Name)):=by
 obtain⟨op,w,m,nm,ks⟩:=t;simp only at hw hk hl⊢;unfold Zah shB;simp only;have g0:∀(x:D.Term)(l:List D.Term),get? (x::l) 0=some x:=fun _ _=>rfl;have g1:∀(x y:D.Term)(l:List D.Term),get? (x::y::l) 1=some y:=fun _ _ _=>rfl;have g2:∀(x y z:D.Term)(l:List D.Term),get? (x::y::z::l) 2=some z:=fun _ _ _ _=>rfl;have l0:ks.length=0→ks=[]:=fun h=>Zno.1 h;have l1:ks.length=1→∃a,ks=[a]:=fun h=>List.length_eq_one_iff.1 h;have l2:ks.length=2→∃a b,ks=[a,b]:=fun h=>by
  rcases ks with _|⟨a,_|⟨b,_|⟨c,l⟩⟩⟩<;>simp at h;exact⟨_,_,rfl⟩
 have l3:ks.length=3→∃a b c,ks=[a,b,c]:=fun h=>by
  rcases ks with _|⟨a,_|⟨b,_|⟨c,_|⟨d,l⟩⟩⟩⟩<;>simp at h;exact⟨_,_,_,rfl⟩
 unfold kc YQ at hl;by_cases o0:op=0
 ·subst o0;obtain rfl:=l0 (by simp at hl;simp[hl]);exact⟨true,by simp,by simp⟩
 by_cases o1:op=22
 ·subst o1;obtain rfl:=l0 (by simp at hl;simp[hl]);exact⟨true,by simp,by simp⟩
 have q0:(op !=0)=true:=by simpa using o0
 have q1:(op !=22)=true:=by simpa using o1
 by_cases o2:1≤op∧op≤2
 ·have:op=1∨op=2:=by omega
  obtain⟨a,rfl⟩:=l1 (by rcases this with rfl|rfl<;>simp at hl<;>omega);refine⟨a.W==w,?_,?_⟩
  ·rcases this with rfl|rfl<;>simp[g0]
  ·simp[o0,o1,o2,q0,q1]
 by_cases o3:3≤op∧op≤13
 ·obtain⟨a,b,rfl⟩:=l2 (by
   have h1:¬(op=1):=by omega
   have h2:¬(op=2):=by omega
   have h3:¬(op=19):=by omega
   have h4:¬(op=20):=by omega
   have h5:¬(op=21):=by omega
   have h6:3≤op∧op≤16:=by omega
   simp[o0,o1,h1,h2,h3,h4,h5,h6]at hl;omega)
  refine⟨a.W==w&&b.W==w,?_,?_⟩
  ·have h1:¬(op=1):=by omega
   have h2:¬(op=2):=by omega
   by_cases c:a.W=w
   ·simp[g0,g1,o0,o1,h1,h2,o3,c]
   ·have c':(a.W==w)=false:=by simpa using c
    simp[g0,g1,o0,o1,h1,h2,o3,c,c']
  ·simp[o0,o1,o2,o3,q0,q1]
 by_cases o4:14≤op∧op≤16
 ·obtain⟨a,b,rfl⟩:=l2 (by
   have h1:¬(op=1):=by omega
   have h2:¬(op=2):=by omega
   have h3:¬(op=19):=by omega
   have h4:¬(op=20):=by omega
   have h5:¬(op=21):=by omega
   have h6:3≤op∧op≤16:=by omega
   simp[o0,o1,h1,h2,h3,h4,h5,h6]at hl;omega)
  refine⟨a.W==b.W&&w==1,?_,?_⟩
  ·have h1:¬(op=1):=by omega
   have h2:¬(op=2):=by omega
   simp[g0,g1,o0,o1,h1,h2,o3,o4]
  ·simp[o0,o1,o2,o3,o4,q0,q1]
 by_cases o5:op=17
 ·subst o5;obtain⟨a,b,c,rfl⟩:=l3 (by simp at hl;omega);refine⟨a.W==1&&b.W==w&&c.W==w,?_,?_⟩
  ·by_cases c1:a.W=1
   ·by_cases c2:b.W=w
    ·simp[g0,g1,g2,c1,c2]
    ·have c2':(b.W==w)=false:=by simpa using c2
     simp[g0,g1,g2,c1,c2,c2']
   ·have c1':(a.W==1)=false:=by simpa using c1
    simp[g0,g1,g2,c1,c1']
  ·simp
 by_cases o6:op=18
 ·subst o6;obtain⟨a,b,rfl⟩:=l2 (by simp at hl;omega);have ha:=hk a (by simp);have hb:=hk b (by simp);have e18:w64 (a.W+b.W)=a.W+b.W:=Zm (by omega) (by omega);exact⟨a.W+b.W==w,by simp[g0,g1,e18],by simp⟩
 by_cases o7:op=19
 ·subst o7;obtain⟨a,rfl⟩:=l1 (by simp at hl;omega);have ha:=hk a (by simp);have e19:w64 (a.W-w)=a.W-w:=Zm (by omega) (by omega);refine⟨decide (0≤m)&&decide (m≤a.W-w),?_,?_⟩
  ·by_cases c:0≤m
   ·simp[g0,e19,c]
   ·simp[g0,e19,c]
  ·simp only[Znn,Zoe];rw[ZnY];simp;omega
 by_cases o8:20≤op∧op≤21
 ·have:op=20∨op=21:=by omega
  obtain⟨a,rfl⟩:=l1 (by rcases this with rfl|rfl<;>simp at hl<;>omega);refine⟨decide (a.W≤w),?_,?_⟩
  ·rcases this with rfl|rfl<;>simp[g0]
  ·rcases this with rfl|rfl<;>simp
 exfalso;have h1:¬(op=1):=by omega
 have h2:¬(op=2):=by omega
 have h4:¬(op=20):=by omega
 have h5:¬(op=21):=by omega
 have h6:¬(3≤op∧op≤16):=by omega
 simp[o0,o1,h1,h2,o7,h4,h5,h6,o6,o5]at hl
theorem Zl2{t:D.Term}(hl:¬(t.Kids.length:Int)=kc t.Op):shB t.Op t.W t.N t.Name (t.Kids.map (·.W))=false:=by
 obtain⟨op,w,m,nm,ks⟩:=t;simp only at hl⊢;unfold shB;unfold kc YQ at hl;have hks:ks=[]∨(∃a:D.Term,ks=[a])∨(∃a b:D.Term,ks=[a,b])∨(∃a b c:D.Term,ks=[a,b,c])∨∃(a b c d:D.Term)(l:List D.Term),ks=a::b::c::d::l:=by
  rcases ks with _|⟨a,_|⟨b,_|⟨c,_|⟨d,l⟩⟩⟩⟩
  ·exact .inl rfl
  ·exact .inr (.inl ⟨a,rfl⟩)
  ·exact .inr (.inr (.inl ⟨a,b,rfl⟩))
  ·exact .inr (.inr (.inr (.inl ⟨a,b,c,rfl⟩)))
  ·exact .inr (.inr (.inr (.inr ⟨a,b,c,d,l,rfl⟩)))
 by_cases o0:op=0
 ·subst o0;rcases hks with rfl|⟨a,rfl⟩|⟨a,b,rfl⟩|⟨a,b,c,rfl⟩|⟨a,b,c,d,l,rfl⟩<;>simp at hl⊢
 by_cases o1:op=22
 ·subst o1;rcases hks with rfl|⟨a,rfl⟩|⟨a,b,rfl⟩|⟨a,b,c,rfl⟩|⟨a,b,c,d,l,rfl⟩<;>simp at hl⊢
 by_cases o2:1≤op∧op≤2
 ·have:op=1∨op=2:=by omega
  rcases this with rfl|rfl<;>rcases hks with rfl|⟨a,rfl⟩|⟨a,b,rfl⟩|⟨a,b,c,rfl⟩|⟨a,b,c,d,l,rfl⟩<;>simp at hl⊢
 have h1:¬(op=1):=by omega
 have h2:¬(op=2):=by omega
 by_cases o3:3≤op∧op≤13
 ·have h3:¬(op=19):=by omega
  have h4:¬(op=20):=by omega
  have h5:¬(op=21):=by omega
  have h6:3≤op∧op≤16:=by omega
  simp[o0,o1,h1,h2,h3,h4,h5,h6]at hl;rcases hks with rfl|⟨a,rfl⟩|⟨a,b,rfl⟩|⟨a,b,c,rfl⟩|⟨a,b,c,d,l,rfl⟩<;>simp[o0,o1,o2,o3]at hl⊢
 by_cases o4:14≤op∧op≤16
 ·have h3:¬(op=19):=by omega
  have h4:¬(op=20):=by omega
  have h5:¬(op=21):=by omega
  have h6:3≤op∧op≤16:=by omega
  simp[o0,o1,h1,h2,h3,h4,h5,h6]at hl;rcases hks with rfl|⟨a,rfl⟩|⟨a,b,rfl⟩|⟨a,b,c,rfl⟩|⟨a,b,c,d,l,rfl⟩<;>simp[o0,o1,o2,o3,o4]at hl⊢
 by_cases o5:op=17
 ·subst o5;rcases hks with rfl|⟨a,rfl⟩|⟨a,b,rfl⟩|⟨a,b,c,rfl⟩|⟨a,b,c,d,l,rfl⟩<;>simp at hl⊢
 by_cases o6:op=18
 ·subst o6;rcases hks with rfl|⟨a,rfl⟩|⟨a,b,rfl⟩|⟨a,b,c,rfl⟩|⟨a,b,c,d,l,rfl⟩<;>simp at hl⊢
 by_cases o7:op=19
 ·subst o7;rcases hks with rfl|⟨a,rfl⟩|⟨a,b,rfl⟩|⟨a,b,c,rfl⟩|⟨a,b,c,d,l,rfl⟩<;>simp at hl⊢
 by_cases o8:20≤op∧op≤21
 ·have:op=20∨op=21:=by omega
  rcases this with rfl|rfl<;>rcases hks with rfl|⟨a,rfl⟩|⟨a,b,rfl⟩|⟨a,b,c,rfl⟩|⟨a,b,c,d,l,rfl⟩<;>simp at hl⊢
 simp[o0,o1,o2,o3,o4,o5,o6,o7,o8]
end Go.Proofs.YtbidabmbbieeiabGreatDoor
end
section
namespace Go.Proofs.YtbidabmbbieeiabGreatDoor
open Go.GL
set_option linter.unusedSimpArgs false
set_option maxRecDepth 100000
variable{fuel:Nat}[FU fuel]
abbrev tab(m:Option (List (Str×Int))):List (Str×Int):=m.getD []
theorem get2{g:List (Str×Int)}{s:Str}(hs:s.bytes.length≤1048576):mget2? fitS (0:Int) g s=some ((g.lookup s).getD 0,(g.lookup s).isSome):=by
 unfold mget2?;rw[ZmE (by unfold fitS;simp;omega)]
theorem put1{g:List (Str×Int)}{s:Str}{w:Int}(hs:s.bytes.length≤1048576)(hw:1≤w∧w≤16)(hg:g.length≤1000):mputE? fitS fitZ g s w=some ((s,w)::g):=by
 unfold mputE?;rw[ZmE ⟨by unfold fitS;simp;omega,by unfold fitZ;simp[Lit.wf];exact⟨by show(-9223372036854775808:Int)≤w;omega,by omega⟩,by unfold room;omega⟩]
theorem ZjV{n:Nat}{c:D.termCheck}{t:D.Term}(hs:t.Name.bytes.length≤1048576)(hn:1048580≤n)(hw:1≤t.W∧t.W≤16)(hg:(tab c.widths).length≤1000):
  ∃b m,Y9 n c t=some (b,⟨c.count,m⟩)∧(b=true→nameB t.Name=true∧stp (tab c.widths) (t.Name,t.W)=some (tab m))∧(b=false→nameB t.Name=false∨stp (tab c.widths) (t.Name,t.W)=none):=by
 obtain⟨cc,ww⟩:=c;unfold Y9;rw[ZdV hs (by omega)];simp only[Zm9];cases hb:nameB t.Name
 ·exact⟨false,ww,rfl,fun h=>(by cases h),fun _=>.inl rfl⟩
 ·simp only[ZmH,ZmA,ZmI];cases ww with
  |none=>
   simp only[Option.isNone_none,ZmT];rw[get2 hs];simp only[Zm9,List.lookup_nil,Option.isSome_none,ZmA,ZmI];rw[put1 hs hw (by simp)];exact⟨true,_,rfl,fun _=>⟨trivial,rfl⟩,fun h=>(by cases h)⟩
  | some g=>
   simp only[Option.isNone_some,ZmA,ZmI,Znp];rw[get2 hs];simp only[Zm9];unfold stp;simp only[tab,Znp]at hg⊢;cases hl:g.lookup t.Name with
   |some w=>
    simp only[Option.isSome_some,ZmT,Znp];refine⟨_,_,rfl,fun h=>⟨trivial,?_⟩,fun h=>.inr ?_⟩
    ·rw[ZmE (by simpa using h)];rfl
    ·rw[ZmD (by simpa using h)]
   |none=>
    simp only[Option.isSome_none,ZmA,ZmI];rw[put1 hs hw hg];exact⟨true,_,rfl,fun _=>⟨trivial,rfl⟩,fun h=>(by cases h)⟩
theorem ZfL {n:Nat}{ks:List D.Term}{c0:Int}{w0:Option (List (Str×Int))}(hn:1048580≤n)(hks:ks.length≤1048576)(hc:0≤c0)(hc':c0≤240)(hg:(tab w0).length≤c0)
    (ih:∀x∈ks,∀c:D.termCheck,c0≤c.count→c.count≤240→(tab c.widths).length≤c.count→∃b c',ZE n c x=some (b,c')∧(b=true→c.count+cnt x≤240∧nodeB x=true∧c'.count=c.count+cnt x∧runV (tab c.widths) (vrs x)=some (tab c'.widths))∧(b=false→¬(c.count+cnt x≤240∧nodeB x=true∧(runV (tab c.widths) (vrs x)).isSome=true))):
    ∃ r,iterN (fun(s2:Int×Int×(Option (List (Str×Int))))=>if (decide (s2.1<(len ks)))then(get? ks s2.1).bind fun x7=>(ZE n (D.termCheck.mk s2.2.1 s2.2.2) x7).bind fun x8=>if(!x8.1)then some (.inr (.inr (false,x8.2)))else some (.inl ((w64 (s2.1+1)),x8.2.count,x8.2.widths))else some (.inr (.inl (s2.2.1,s2.2.2)))) n (0,c0,w0)=some (r:(Int×(Option (List (Str×Int))))⊕(Bool×D.termCheck))∧
      ((∃cc ww,r= .inl (cc,ww)∧cc=c0+cnts ks∧cc≤240∧nodesB ks=true∧runV (tab w0) (vrss ks)=some (tab ww))∨∃c',r= .inr (false,c')∧¬(c0+cnts ks≤240∧nodesB ks=true∧(runV (tab w0) (vrss ks)).isSome=true)):=by
  have hrl:=ZjQ
  exact Yh (l:=ks) (n:=n) (σ:=Int×(Option (List (Str×Int)))) (ρ:=(Int×(Option (List (Str×Int))))⊕(Bool×D.termCheck)) (B:=fun(s2:Int×Int×(Option (List (Str×Int))))=>if (decide (s2.1<(len ks)))then(get? ks s2.1).bind fun x7=>(ZE n (D.termCheck.mk s2.2.1 s2.2.2) x7).bind fun x8=>if(!x8.1)then some (.inr (.inr (false,x8.2)))else some (.inl ((w64 (s2.1+1)),x8.2.count,x8.2.widths))else some (.inr (.inl (s2.2.1,s2.2.2)))) (fun k a=>((k:Int),a.1,a.2))
      (fun ys a=>c0≤a.1∧a.1≤240∧(tab a.2).length≤a.1∧a.1+cnts ys=c0+cnts ks∧nodesB ys=nodesB ks∧runV (tab a.2) (vrss ys)=runV (tab w0) (vrss ks)∧∀x∈ys,x∈ks) _
      (fun k x xs a hk' hx hlen⟨i0,i1,i2,i3,i4,i5,i6⟩=>by
        obtain⟨ac,aw⟩:=a;simp only at i0 i1 i2 i3 i5;rw[ZaB]at i3;rw[ZY,Zon,←ZY]at i4;rw[ZcU,Zhv]at i5;have hd:decide ((k:Int)<len ks)=true:=by rw[Zf];simp;omega
        obtain⟨b,c',e1,e2,e3⟩:=ih x (i6 x (by simp)) ⟨ac,aw⟩ i0 i1 i2;simp only[hd,ZmT,get?_nat,hx,Zm9,e1];cases b with
        | false=>
          refine .inr ⟨_,rfl,.inr ⟨c',rfl,fun⟨h1,h2,h3⟩=>e3 rfl ⟨?_,?_,?_⟩⟩⟩
          · simp only;omega
          · rw[←i4,ZmC]at h2;exact h2.1
          · rw[←i5]at h3
            simp only;cases hq:runV (tab aw) (vrs x)with
            |none=>rw[hq]at h3;cases h3
            |some _=>rfl
        | true=>
          obtain⟨h1,h2,h3,h4⟩:=e2 rfl;simp only at h1 h3 h4;refine .inl ⟨(c'.count,c'.widths),by simp only[ZmH,ZmA,ZmI];rw[Zm (by omega) (by omega)];rfl,by simp only;omega,by simp only;omega,?_,by simp only;omega,by rw[←i4,h2,Znk],?_,fun y hy=>i6 y (by simp[hy])⟩
          · have:=ZeB h4
            have:=hrl x;simp only;omega
          · rw[h4]at i5;exact i5)
      (fun a⟨i0,i1,i2,i3,i4,i5,i6⟩=>by
        obtain⟨ac,aw⟩:=a;have hd:decide ((ks.length:Int)<len ks)=false:=by rw[Zf];simp
        simp only[hd,ZmA,ZmI];rw[XN]at i3;rw[ZdK]at i5;refine⟨_,rfl,.inl ⟨ac,aw,rfl,by simp only at i3;omega,i1,?_,i5.symm⟩⟩
        rw[←i4,ZY];rfl) (a:=(c0,w0)) ⟨by simp only;omega,hc',hg,rfl,rfl,rfl,fun x hx=>hx⟩ (by omega)
end Go.Proofs.YtbidabmbbieeiabGreatDoor
end
section
namespace Go.Proofs.YtbidabmbbieeiabGreatDoor
open Go.GL
set_option linter.unusedSimpArgs false
set_option maxRecDepth 100000
variable{fuel:Nat}[FU fuel]
def wsB(ks:List D.Term):Bool:=ks.all fun x=>decide (1≤x.W∧x.W≤16)
theorem Zmc{ks:List D.Term}(h:nodesB ks=true):wsB ks=true:=by
 rw[ZY,ZmL]at h;unfold wsB;rw[ZmL];exact fun x hx=>decide_eq_true (YM (h x hx))
theorem ZhK{n:Nat}{ks:List D.Term}{v:Bool×D.termCheck}(hn:ks.length<n)(hk:ks.length≤1048576):iterN (fun(s1:Int)=>if(decide (s1<(len ks)))then(get? ks s1).bind fun x3=>(ZA x3.W).bind fun x4=>if(!x4)then some (.inr (.inr v))else some (.inl ((w64 (s1+1))))else some (.inr (.inl ()))) n (0)=some (if wsB ks=true then(.inl ():Unit⊕(Bool×D.termCheck))else .inr v):=by
 obtain⟨r,g1,g2⟩:=Yh (l:=ks) (n:=n) (σ:=Unit) (ρ:=Unit⊕(Bool×D.termCheck)) (B:=fun(s1:Int)=>if(decide (s1<(len ks)))then(get? ks s1).bind fun x3=>(ZA x3.W).bind fun x4=>if(!x4)then some (.inr (.inr v))else some (.inl ((w64 (s1+1))))else some (.inr (.inl ()))) (fun k _=>(k:Int)) (fun ys _=>wsB ys=wsB ks) (fun r=>r=if wsB ks=true then(.inl ():Unit⊕(Bool×D.termCheck))else .inr v)
  (fun k x xs a hk' hx hlen hi=>by
   have hd:decide ((k:Int)<len ks)=true:=by rw[Zf];simp;omega
   simp only[hd,ZmT,get?_nat,hx,Zm9,Zhh];have e:wsB (x::xs)=(decide (1≤x.W∧x.W≤16)&&wsB xs):=rfl;rw[e]at hi;by_cases c:1≤x.W∧x.W≤16
   ·rw[decide_eq_true c,Znk]at hi;exact .inl ⟨(),by rw[decide_eq_true c,ZmD (by decide),Zm (by omega) (by omega)];rfl,hi⟩
   ·rw[decide_eq_false c,Zn0]at hi
    exact .inr ⟨_,by rw[decide_eq_false c,ZmE (by decide)],by rw[←hi];rfl⟩)
  (fun a hi=>by
   have hd:decide ((ks.length:Int)<len ks)=false:=by rw[Zf];simp
   simp only[hd,ZmA,ZmI]
   exact⟨_,rfl,by rw[←hi];rfl⟩) (a:=()) rfl hn
 rw[show((0:Nat):Int)=0 from rfl]at g1;rw[g1,g2]
theorem Zjw:∀(n:Nat)(t:D.Term)(c:D.termCheck),msz t≤1048576→0≤c.count→c.count≤240→(tab c.widths).length≤c.count→1048580+(241-c.count)≤(n:Int)→∃b c',ZE n c t=some (b,c')∧
   (b=true→c.count+cnt t≤240∧nodeB t=true∧c'.count=c.count+cnt t∧runV (tab c.widths) (vrs t)=some (tab c'.widths))∧(b=false→¬(c.count+cnt t≤240∧nodeB t=true∧(runV (tab c.widths) (vrs t)).isSome=true)):=by
 intro n
 induction n with
 |zero=>intro t c _ _ _ _ _;omega
 | succ n ih=>
  intro t c hs h0 h1 hg hn;have hz:=ZaN t;have hc:=XT t;have hb:=Xx t;have bad:nodeB t=false→¬(c.count+cnt t≤240∧nodeB t=true∧(runV (tab c.widths) (vrs t)).isSome=true):=fun h⟨_,h2,_⟩=>by rw[h]at h2;cases h2
  unfold ZE;rw[Zm (by omega) (by omega)];by_cases hC:c.count+1>240
  ·simp only[hC,decide_true,ZmT,Zm9,Zo9];exact⟨false,_,rfl,fun h=>(by cases h),fun _⟨h,_,_⟩=>by omega⟩
  simp only[hC,decide_false,ZmA,ZmI,Zhh t.W,Zm9,ZmZ];by_cases hw:1≤t.W∧t.W≤16;rotate_left
  ·simp only[hw,decide_false,Zny,ZmT,Zm9,Zo9];exact⟨false,_,rfl,fun h=>(by cases h),fun _=>bad (by rw[hb];unfold locB;rw[decide_eq_false hw];simp)⟩
  simp only[hw,decide_true,ZmH,ZmA,ZmI,Zm9,ZmZ,and_self,Zmm];by_cases hl:(t.Kids.length:Int)=kc t.Op;rotate_left
  ·have:(len t.Kids !=kc t.Op)=true:=by rw[Zf];simpa using hl
   rw[ZmE this];exact⟨false,_,rfl,fun h=>(by cases h),fun _=>bad (by rw[hb];unfold locB;rw[Zl2 hl];simp)⟩
  have hl':¬(len t.Kids !=kc t.Op)=true:=by rw[Zf];simpa using hl
  rw[ZmD hl',ZhK (by omega) (by omega)];simp only[Zm9];by_cases hk:wsB t.Kids=true;rotate_left
  ·rw[ZmD hk];refine⟨false,_,rfl,fun h=>(by cases h),fun _=>bad ?_⟩;rw[hb];cases h:nodesB t.Kids
   ·simp
   ·exact absurd (Zmc h) hk
  rw[ZmE hk];have hkw:∀x∈t.Kids,1≤x.W∧x.W≤16:=fun x hx=>by
   unfold wsB at hk;rw[ZmL]at hk;exact of_decide_eq_true (hk x hx)
  obtain⟨f,hf1,hf2⟩:=Zlq hw hkw hl;have hloc:locB t=((Str.eqb t.Name ⟨[]⟩||t.Op==22)&&(t.N==0||t.Op==0||t.Op==19)&&(f&&(t.Op !=0||wordB t.W t.N)&&(t.Op !=22||nameB t.Name))):=by
   unfold locB;rw[hf2,decide_eq_true hw,Znk]
  simp only[hf1,Zm9];cases f with
  |false=>
   exact⟨false,_,rfl,fun h=>(by cases h),fun _=>bad (by rw[hb,hloc];simp)⟩
  |true=>
  simp only[ZmH,ZmA,ZmI,Zar];have hx6:∃x6,(if(t.Op==0)=true then some (wordB t.W t.N)else some default)=some x6∧(t.Op=0→x6=wordB t.W t.N):=by
   by_cases o:t.Op=0
   ·exact⟨_,ZmE (by simpa using o),fun _=>rfl⟩
   ·exact⟨_,ZmD (by simpa using o),fun h=>absurd h o⟩
  obtain⟨x6,h6,h6'⟩:=hx6;rw[h6];simp only[Zm9];by_cases c6:(t.Op==0&& !x6)=true
  ·rw[ZmE c6];simp only[ZmC,Zng,Zn9]at c6;refine⟨false,_,rfl,fun h=>(by cases h),fun _=>bad ?_⟩;rw[hb,hloc,←h6' c6.1,c6.2,c6.1];simp
  rw[ZmD c6];have d6:(t.Op !=0||wordB t.W t.N)=true:=by
   by_cases o:t.Op=0
   ·rw[←h6' o,o];simp[o]at c6;simp[c6]
   ·simp[o]
  by_cases c7:(t.Op !=0&&t.Op !=19&&t.N !=0)=true
  ·rw[ZmE c7];simp only[ZmC,bne_iff_ne,ne_eq]at c7;refine⟨false,_,rfl,fun h=>(by cases h),fun _=>bad ?_⟩;rw[hb,hloc];have:(t.N==0||t.Op==0||t.Op==19)=false:=by simp[c7]
   rw[this];simp
  rw[ZmD c7];have d7:(t.N==0||t.Op==0||t.Op==19)=true:=by
   simp only[ZmC,bne_iff_ne,ne_eq]at c7;by_cases a1:t.N=0<;>by_cases a2:t.Op=0<;>by_cases a3:t.Op=19<;>simp[a1,a2,a3]at c7⊢
  rw[d6,d7]at hloc;simp only[Znk,ZnC]at hloc;have ih':∀x∈t.Kids,∀c1:D.termCheck,c.count+1≤c1.count→c1.count≤240→(tab c1.widths).length≤c1.count→∃b c',ZE n c1 x=some (b,c')∧
   (b=true→c1.count+cnt x≤240∧nodeB x=true∧c'.count=c1.count+cnt x∧runV (tab c1.widths) (vrs x)=some (tab c'.widths))∧(b=false→¬(c1.count+cnt x≤240∧nodeB x=true∧(runV (tab c1.widths) (vrs x)).isSome=true)):=fun x hx c1 k1 k2 k3=>by
   have:=Zaw hx;exact ih x c1 (by omega) (by omega) k2 k3 (by omega)
  by_cases ho:t.Op=22
  ·rw [ZmD (by simp[ho])]
   have hv:vrs t=[(t.Name,t.W)]:=by rw[Zfr,ZmE ho]
   have hrun:runV (tab c.widths) (vrs t)=stp (tab c.widths) (t.Name,t.W):=by
    rw[hv];simp only[runV];cases stp (tab c.widths) (t.Name,t.W)<;>rfl
   have hks:t.Kids=[]:=by
    rw[ho]at hl;exact Zno.1 (by have:kc 22=0:=rfl;omega)
   obtain⟨b,m,e1,e2,e3⟩:=ZjV (n:=n) (c:=⟨c.count+1,c.widths⟩) (t:=t) (by omega) (by omega) hw (by simp only;omega);rw[e1];simp only[Zm9];rw[ho]at hloc;cases b with
   | false=>
    refine⟨false,_,rfl,fun h=>(by cases h),fun _=>?_⟩;rcases e3 rfl with e3|e3
    ·exact bad (by rw[hb,hloc,e3];simp)
    ·rw[hrun];simp only at e3;rw[e3];exact fun⟨_,_,h⟩=>by cases h
   | true=>
    obtain⟨e4,e5⟩:=e2 rfl;simp only at e5;have hml:(tab m).length≤c.count+1:=by have:=Zir e5;omega
    obtain⟨r,g1,g2⟩:=ZfL (n:=n) (ks:=t.Kids) (c0:=c.count+1) (w0:=m) (by omega) (by omega) (by omega) (by omega) hml ih';rw[hks,XN,ZdK]at g2;have hcn:cnts t.Kids=0:=by rw[hks,XN]
    have hnb:nodesB t.Kids=true:=by rw[hks,ZY];rfl
    simp only[ZmH,ZmA,ZmI];rw[g1];rcases g2 with⟨cc,ww,rfl,k1,k2,k3,k4⟩|⟨c',rfl,k1⟩
    ·refine⟨true,⟨cc,ww⟩,rfl,fun _=>⟨by omega, ?_,by simp only;omega, ?_⟩,fun h=>(by cases h)⟩
     ·rw[hb,hloc,e4,hnb];simp
     ·rw[hrun,e5];simp only[runV,Option.some.injEq]at k4;rw[k4]
    ·exfalso;apply k1;refine⟨by omega,by rw[ZY];rfl,rfl⟩
  ·rw[ZmE (by simp[ho])];have hv:vrs t=vrss t.Kids:=by rw[Zfr,ZmD ho]
   by_cases c8:Str.eqb t.Name ⟨[]⟩=true;rotate_left
   ·rw[ZmE (by simpa using c8)];refine⟨false,_,rfl,fun h=>(by cases h),fun _=>bad ?_⟩;rw[hb,hloc];simp[c8,ho]
   rw[ZmD (by simp[c8])];have hloc':locB t=true:=by rw[hloc,c8];simp[ho]
   obtain⟨r,g1,g2⟩:=ZfL (n:=n) (ks:=t.Kids) (c0:=c.count+1) (w0:=c.widths) (by omega) (by omega) (by omega) (by omega) (by omega) ih';rw[g1,hv,hb,hloc'];simp only[Znk];rcases g2 with⟨cc,ww,rfl,k1,k2,k3,k4⟩|⟨c',rfl,k1⟩
   ·exact⟨true,⟨cc,ww⟩,rfl,fun _=>⟨by omega,k3,by simp only;omega,k4⟩,fun h=>(by cases h)⟩
   ·exact⟨false,c',rfl,fun h=>(by cases h),fun _⟨h1,h2,h3⟩=>k1 ⟨by omega,h2,h3⟩⟩
theorem Zjd{t:D.Term}(h:msz t≤1048576):Zbo fuel t=some (termB t):=by
 unfold Zbo;obtain⟨b,c',e1,e2,e3⟩:=Zjw fuel t ⟨0,none⟩ h (by simp) (by simp) (by simp[tab]) (by have:=FU.le (n:=fuel);simp;omega);rw[e1];simp only[Zm9,Option.some.injEq];unfold termB;simp only[tab,Option.getD_none]at e2 e3;cases b with
 |true=>
  obtain⟨h1,h2,-,h3⟩:=e2 rfl;rw[h2,h3,decide_eq_true (by omega)];rfl
 | false=>
  have:=e3 rfl;cases hb:nodeB t
  ·simp
  ·cases hr:(runV [] (vrs t)).isSome
   ·simp
   ·have:¬cnt t≤240:=fun hc=>this ⟨by omega,hb,hr⟩;simp[this]
end Go.Proofs.YtbidabmbbieeiabGreatDoor
end
section
namespace Go.Proofs.YtbidabmbbieeiabGreatDoor
open Go.GL
set_option linter.unusedSimpArgs false
set_option maxRecDepth 100000
variable{fuel:Nat}[FU fuel]
end Go.Proofs.YtbidabmbbieeiabGreatDoor
end
section
namespace Go.Proofs.YtbidabmbbieeiabGreatDoor
open Go.GL
set_option linter.unusedSimpArgs false
variable{fuel:Nat}[FU fuel]
theorem Zga(w v:Int):∃b,Yl w v=some b∧YJ w v=some b:=by
 unfold Yl YJ Zl ZA;by_cases h:1≤w∧w≤16
 ·obtain⟨m,h1,h2,h3⟩:=Zil h.1 h.2;exact⟨band v (w64 (m-1)),by simp[h.1,h.2,h1],by simp[h.1,h.2,h2]⟩
 ·refine⟨-1, ?_, ?_⟩
  ·by_cases a:1≤w
   ·have b:¬w≤16:=fun b=>h ⟨a,b⟩;simp[a,b]
   ·simp[a]
  ·by_cases a:1≤w
   ·have b:¬w≤16:=fun b=>h ⟨a,b⟩;simp[a,b]
   ·simp[a]
def wordOf(w v:Int):Int:=(Yl w v).getD 0
theorem Yr(w v:Int):Yl w v=some (wordOf w v):=by
 obtain⟨b,h,-⟩:=Zga w v;simp[wordOf,h]
theorem XC(w v:Int):YJ w v=some (wordOf w v):=by
 obtain⟨b,h,h'⟩:=Zga w v;simp[wordOf,h,h']
theorem Zeo{w:Int}(h1:1≤w)(h2:w≤16):w=1∨w=2∨w=3∨w=4∨w=5∨w=6∨w=7∨w=8∨w=9∨w=10∨w=11∨w=12∨w=13∨w=14∨w=15∨w=16:=by omega
theorem Zbd{w:Int}(h1:1≤w)(h2:w≤16):shl? 1 w=some (2^w.toNat)∧shl? 1 (IntKind.u64.wrap w)=some (2^w.toNat)∧w64 ((2:Int)^w.toNat-1)=2^w.toNat-1∧(2:Int)≤2^w.toNat∧(2:Int)^w.toNat≤65536:=by
 rcases Zeo h1 h2 with rfl|rfl|rfl|rfl|rfl|rfl|rfl|rfl|rfl|rfl|rfl|rfl|rfl|rfl|rfl|rfl<;>exact⟨rfl,rfl,by decide,by decide,by decide⟩
theorem ZZ{w:Int}(h1:1≤w)(h2:w≤16)(v:Int):wordB w v=true↔0≤v∧v<2^w.toNat:=by
 obtain⟨a1,a2,a3,a4,a5⟩:=Zbd h1 h2;have hs:=YU w v;unfold ZG Zl at hs;have e:(decide (w≥1)&&decide (w≤16))=true:=by simp;omega
 simp only[e,Zm9]at hs;by_cases hv:0≤v
 ·simp only[hv,decide_true,ZmT,a1,Zm9]at hs;rw[a3]at hs;simp at hs;rw[←hs];simp[hv];omega
 ·simp[hv,a1]at hs;rw[hs];simp;omega
theorem Yp{w v:Int}(h:wordB w v=true):1≤w∧w≤16:=by
 have hs:=YU w v;rw[h]at hs;unfold ZG Zl at hs;by_cases a:1≤w
 ·by_cases b:w≤16
  ·exact⟨a,b⟩
  ·have e:(decide (w≥1)&&decide (w≤16))=false:=by simp[b]
   simp only[e,Zm9]at hs;simp at hs
 ·have e:(decide (w≥1)&&decide (w≤16))=false:=by simp[a]
  simp only[e,Zm9]at hs;simp at hs
theorem ZgX{w v:Int}(h:wordB w v=true):0≤v∧v<65536:=by
 obtain⟨a,b⟩:=Yp h;obtain⟨_,_,_,_,h5⟩:=Zbd a b;have:=(ZZ a b v).1 h;omega
theorem Zek{x:Int}(h1:0≤x)(h2:x≤100000):IntKind.u64.wrap x=x:=by
 have:IntKind.u64.wrap x=x%18446744073709551616:=by simp[IntKind.wrap,IntKind.bits,IntKind.signed]
 rw[this];omega
theorem Zdl(x:Int){y:Int}(h:0≤y):shr? x y=some (x.fdiv (2^min y.toNat 64)):=by unfold shr?;rw[ZmD (by omega)]
theorem Zgs(x:Int){y:Int}(h:0≤y):shl? x y=some (w64 (x*2^min y.toNat 64)):=by unfold shl?;rw[ZmD (by omega)]
theorem Zer(w v:Int):∃r,YB w v=some r∧YR w v=some r:=by
 unfold YB YR;rw[YU,Zar];simp only[Zm9];cases hb:wordB w v with
 |false=>exact⟨0,rfl,rfl⟩
 | true=>
  obtain⟨h1,h2⟩:=Yp hb;obtain⟨a1,a2,a3,a4,a5⟩:=Zbd h1 h2;obtain⟨c1,c2⟩:=(ZZ h1 h2 v).1 hb;have e1:w64 (w-1)=w-1:=Zm (by omega) (by omega);have hsh:v.fdiv (2^min (w-1).toNat 64)=0∨v.fdiv (2^min (w-1).toNat 64)=1:=by
   have e2:min (w-1).toNat 64=(w-1).toNat:=by omega
   rw[e2,Zot _ (Int.pow_nonneg (by decide))];have e3:(2:Int)^w.toNat=2*2^(w-1).toNat:=by
    have:w.toNat=(w-1).toNat+1:=by omega
    rw[this,Int.pow_succ];omega
   have hp:(0:Int)<2^(w-1).toNat:=ZoL (by decide);rw[e3]at c2;by_cases hlt:v<2^(w-1).toNat
   ·left;exact Int.ediv_eq_zero_of_lt c1 hlt
   ·right;have g1:1≤v/2^(w-1).toNat:=Int.le_ediv_of_mul_le hp (by omega);have g2:v/2^(w-1).toNat<2:=Int.ediv_lt_of_lt_mul hp (by omega);omega
  simp only[ZmH,ZmA,ZmI,e1,Zek (show 0≤w-1 by omega) (show w-1≤100000 by omega),Zdl v (show 0≤w-1 by omega),Zm9,a1,a2];rcases hsh with e|e
  ·rw[e];exact⟨v,by simp,by simp⟩
  ·rw[e];exact⟨w64 (v-2^w.toNat),by simp,by simp⟩
def signedOf(w v:Int):Int:=(YB w v).getD 0
theorem Zbt(w v:Int):YB w v=some (signedOf w v):=by
 obtain⟨b,h,-⟩:=Zer w v;simp[signedOf,h]
theorem Zem(w v:Int):YR w v=some (signedOf w v):=by
 obtain⟨b,h,h'⟩:=Zer w v;simp[signedOf,h,h']
theorem Zfa(b:Bool):Xz b=some (if b then 1 else 0)∧XQ b=some (if b then 1 else 0):=by
 cases b<;>exact⟨rfl,rfl⟩
theorem ZcB(op w a b:Int):∃r,Yx op w a b=some r∧Xg op w a b=some r:=by
 unfold Yx Xg;simp only[YU,Zar,Yr,XC,Zm9];cases ha:wordB w a with
 |false=>exact⟨-1,rfl,rfl⟩
 | true=>
  simp only[ZmH,ZmA,ZmI,Zm9,ZmZ];cases hb:wordB w b with
  |false=>exact⟨-1,rfl,rfl⟩
  | true=>
   obtain⟨h1,h2⟩:=Yp ha;obtain⟨a1,a2,a3,a4,a5⟩:=Zbd h1 h2;obtain⟨c1,c2⟩:=ZgX ha;obtain⟨d1,d2⟩:=ZgX hb;have hquo:b≠0→quo? a b=some (w64 (a.tdiv b)):=fun h=>by unfold quo?;rw[ZmD h]
   have hrem:b≠0→rem? a b=some (a.tmod b):=fun h=>by unfold rem?;rw[ZmD h]
   have hw1:w64 (w-1)=w-1:=Zm (by omega) (by omega);simp only[ZmH,ZmA,ZmI,ZaE,Yr,XC,Zbt,Zem,(Zfa _).1,(Zfa _).2,Zm9,a1,a2,hw1];by_cases e3:op=3
   ·subst e3;exact⟨_,rfl,rfl⟩
   by_cases e4:op=4
   ·subst e4;exact⟨_,rfl,rfl⟩
   by_cases e5:op=5
   ·subst e5;exact⟨_,rfl,rfl⟩
   by_cases e6:op=6
   ·subst e6;by_cases z:b=0
    ·subst z;exact⟨_,rfl,rfl⟩
    ·refine⟨w64 (a.tdiv b),?_,?_⟩<;>simp[z,hquo z]
   by_cases e7:op=7
   ·subst e7;by_cases z:b=0
    ·subst z;exact⟨_,rfl,rfl⟩
    ·refine⟨a.tmod b,?_,?_⟩<;>simp[z,hrem z]
   by_cases e8:op=8
   ·subst e8;exact⟨_,rfl,rfl⟩
   by_cases e9:op=9
   ·subst e9;exact⟨_,rfl,rfl⟩
   by_cases e10:op=10
   ·subst e10;exact⟨_,rfl,rfl⟩
   by_cases e11:op=11
   ·subst e11;by_cases z:b≥w
    ·refine⟨0,?_,?_⟩<;>simp[z]
    ·have hb':=Zek d1 (by omega);refine⟨wordOf w (w64 (a*2^min b.toNat 64)),?_,?_⟩<;>simp[z,hb',Zgs a d1,Yr,XC]
   by_cases e12:op=12
   ·subst e12;by_cases z:b≥w
    ·refine⟨0,?_,?_⟩<;>simp[z]
    ·have hb':=Zek d1 (by omega);refine⟨a.fdiv (2^min b.toNat 64),?_,?_⟩<;>simp[z,hb',Zdl a d1]
   by_cases e13:op=13
   ·subst e13;have hmin:imin b (w-1)=(bif decide (b≥w)then w-1 else b):=by
     unfold imin;by_cases z:b≥w
     ·rw[ZmE (by omega)];simp[z]
     ·rw[ZmD (by omega)];simp[z]
    rw[hmin];have hq:0≤(bif decide (b≥w)then w-1 else b)∧(bif decide (b≥w)then w-1 else b)≤1000:=by
     by_cases z:b≥w
     ·simp[z];omega
     ·simp[z];omega
    generalize (bif decide (b≥w)then w-1 else b)=y at hq⊢;rw[Zek hq.1 (by omega),Zdl _ hq.1];refine⟨wordOf w ((signedOf w a).fdiv (2^min y.toNat 64)),?_,?_⟩<;>simp[Yr,XC]
   by_cases e14:op=14
   ·subst e14;exact⟨_,rfl,rfl⟩
   by_cases e15:op=15
   ·subst e15;exact⟨_,rfl,rfl⟩
   by_cases e16:op=16
   ·subst e16;exact⟨_,rfl,rfl⟩
   refine⟨-1,?_,?_⟩<;>simp[e3,e4,e5,e6,e7,e8,e9,e10,e11,e12,e13,e14,e15,e16]
theorem ZfB(op w a:Int):∃r,YX op w a=some r∧XL op w a=some r:=by
 unfold YX XL;simp only[YU,Zar,Yr,XC,Zm9];cases ha:wordB w a with
 |false=>exact⟨-1,rfl,rfl⟩
 |true=>
  obtain⟨h1,h2⟩:=Yp ha;obtain⟨a1,a2,a3,a4,a5⟩:=Zbd h1 h2;simp only[a1,a2,Zm9];by_cases e1:op=1
  ·subst e1;exact⟨_,rfl,rfl⟩
  by_cases e2:op=2
  ·subst e2;exact⟨_,rfl,rfl⟩
  exact⟨-1,by simp[e1,e2],by simp[e1,e2]⟩
theorem Zgp(w a v b:Int):∃r,Xk w a v b=some r∧Zac w a v b=some r:=by
 unfold Xk Zac;simp only[YU,Zar,Zm9];cases ha:wordB w a with
 |false=>exact⟨-1,rfl,rfl⟩
 | true=>
  simp only[ZmH,ZmA,ZmI,Zm9,ZmZ];cases hb:wordB v b with
  |false=>exact⟨-1,rfl,rfl⟩
  |true=>
   obtain⟨h1,h2⟩:=Yp hb;rw[Zek (show 0≤v by omega) (by omega)];simp only[Zgs a (show 0≤v by omega),Zm9];by_cases c:w64 (w+v)>16
   ·exact⟨-1,by simp[c],by simp[c]⟩
   ·exact⟨w64 (w64 (a*2^min v.toNat 64)+b),by simp[c],by simp[c]⟩
theorem Zgu(w a n:Int)(s:Bool):∃r,Xi w a n s=some r∧Zal w a n s=some r:=by
 unfold Xi Zal;simp only[YU,Zar,Yr,XC,Zbt,Zem,Zm9];cases ha:wordB w a with
 |false=>exact⟨-1,rfl,rfl⟩
 | true=>
  obtain⟨h1,h2⟩:=Yp ha;have hi:ZA n=some (decide (1≤n∧n≤16)):=by simp[ZA]
  simp only[ZmH,ZmA,ZmI,Zm9,ZmZ,hi];by_cases c1:n<w
  ·exact⟨-1,by simp[c1],by simp[c1]⟩
  ·by_cases c2:n≤16
   ·have c3:1≤n∧n≤16:=by omega
    have c4:¬n>16:=by omega
    cases s
    ·exact⟨a,by simp[c1,c4],by simp[c1,c3]⟩
    ·exact⟨wordOf n (signedOf w a),by simp[c1,c4,Yr],by simp[c1,c3,XC]⟩
   ·have c3:¬(1≤n∧n≤16):=by omega
    have c4:n>16:=by omega
    exact⟨-1,by simp[c4],by simp[c3]⟩
theorem ZhS{w a l n:Int}(hl:0≤l∧l≤100)(hn:-100≤n∧n≤100):∃r,XJ w a l n=some r∧ZaJ w a l n=some r:=by
 unfold XJ ZaJ;simp only[YU,Zar,Yr,XC,Zm9];cases ha:wordB w a with
 |false=>exact⟨-1,rfl,rfl⟩
 | true=>
  obtain⟨h1,h2⟩:=Yp ha;have e1:w64 (w-n)=w-n:=Zm (by omega) (by omega);have e2:w64 (w-l)=w-l:=Zm (by omega) (by omega);simp only[ZmH,ZmZ,e1,e2];have hl0:¬l<0:=by omega
  by_cases c1:n<1
  ·exact⟨-1,by simp[c1],by simp[c1]⟩
  ·by_cases c2:n>w-l
   ·have:n>w∨l>w-n:=by omega
    refine⟨-1,?_,by simp[c2]⟩;rcases this with h|h<;>simp[h]
   ·have c3:¬n>w:=by omega
    have c4:¬l>w-n:=by omega
    obtain⟨a1,a2,a3,_⟩:=Zbd (w:=n) (by omega) (by omega);have hw:∀x,wordOf n x=band x (w64 (2^n.toNat-1)):=fun x=>by
     have hs:=Yr n x;unfold Yl Zl at hs;have e:(decide (n≥1)&&decide (n≤16))=true:=by simp;omega
     simp only[e,Zm9,ZmH,ZmA,ZmI,a1,Option.some.injEq]at hs;exact hs.symm
    refine⟨wordOf n (a.fdiv (2^min l.toNat 64)),?_,?_⟩
    ·simp[hl0,c1,c3,c4,Zdl a hl.1,Yr]
    ·simp only[hl0,c1,c2,decide_false,Bool.or_self,ZmA,ZmI,Zek hl.1 (by omega),Zdl a hl.1,a2,Zm9,hw]
end Go.Proofs.YtbidabmbbieeiabGreatDoor
end
section
namespace Go.Proofs.YtbidabmbbieeiabGreatDoor
open Go.GL
set_option linter.unusedSimpArgs false
set_option maxRecDepth 100000
variable{fuel:Nat}[FU fuel]
theorem ZaO{α:Type}{l m:List α}(h:l.length+m.length≤1048576):app? l m=some (l++m):=by
 unfold app?;rw[ZmE (by unfold room;omega)]
theorem get0(x:D.Term)(l:List D.Term):get? (x::l) 0=some x:=rfl
theorem get1(x y:D.Term)(l:List D.Term):get? (x::y::l) 1=some y:=rfl
theorem get2'(x y z:D.Term)(l:List D.Term):get? (x::y::z::l) 2=some z:=rfl
theorem geti0(x:Int)(l:List Int):get? (x::l) 0=some x:=rfl
theorem geti1(x y:Int)(l:List Int):get? (x::y::l) 1=some y:=rfl
theorem geti2(x y z:Int)(l:List Int):get? (x::y::z::l) 2=some z:=rfl
theorem Zjt{t:D.Term}(h:locB t=true):(t.Op=0∧t.Kids=[])∨(t.Op=22∧t.Kids=[])∨((t.Op=1∨t.Op=2)∧∃a,t.Kids=[a]∧a.W=t.W)∨(3≤t.Op∧t.Op≤16∧∃a b,t.Kids=[a,b]∧a.W=b.W)∨(t.Op=17∧∃a b c,t.Kids=[a,b,c])∨(t.Op=18∧∃a b,t.Kids=[a,b])∨(t.Op=19∧0≤t.N∧t.N≤16∧∃a,t.Kids=[a])∨((t.Op=20∨t.Op=21)∧∃a,t.Kids=[a]):=by
 unfold locB at h;simp only[ZmC]at h;have h:=h.2;unfold shB at h;by_cases o0:t.Op=0
 ·rw[ZmE o0]at h;simp only[ZmC,ZnJ,Zod]at h;exact .inl ⟨o0,h.1⟩
 rw[ZmD o0]at h;by_cases o1:t.Op=22
 ·rw[ZmE o1]at h;simp only[ZmC,ZnJ,Zod]at h;exact .inr (.inl ⟨o1,h.1⟩)
 rw[ZmD o1]at h;have k1:∀f:Int→Bool,(match t.Kids.map (·.W)with|[a]=>f a|_=>false)=true→∃a,t.Kids=[a]∧f a.W=true:=fun f h=>by
  rcases hk:t.Kids with _|⟨a,_|⟨b,l⟩⟩<;>rw[hk]at h<;>simp at h;exact⟨a,rfl,h⟩
 have k2:∀f:Int→Int→Bool,(match t.Kids.map (·.W)with|[a,b]=>f a b|_=>false)=true→∃a b,t.Kids=[a,b]∧f a.W b.W=true:=fun f h=>by
  rcases hk:t.Kids with _|⟨a,_|⟨b,_|⟨c,l⟩⟩⟩<;>rw[hk]at h<;>simp at h;exact⟨a,b,rfl,h⟩
 have k3:∀f:Int→Int→Int→Bool,(match t.Kids.map (·.W)with|[a,b,c]=>f a b c|_=>false)=true→∃a b c,t.Kids=[a,b,c]∧f a.W b.W c.W=true:=fun f h=>by
  rcases hk:t.Kids with _|⟨a,_|⟨b,_|⟨c,_|⟨d,l⟩⟩⟩⟩<;>rw[hk]at h<;>simp at h;exact⟨a,b,c,rfl,h⟩
 by_cases o2:1≤t.Op∧t.Op≤2
 ·rw[ZmE o2]at h;obtain⟨a,ha,hf⟩:=k1 (fun a=>a==t.W) h;exact .inr (.inr (.inl ⟨by omega,a,ha,by simpa using hf⟩))
 rw[ZmD o2]at h;by_cases o3:3≤t.Op∧t.Op≤13
 ·rw[ZmE o3]at h;obtain⟨a,b,ha,hf⟩:=k2 (fun a b=>a==t.W&&b==t.W) h;simp only[ZmC,Zng]at hf;exact .inr (.inr (.inr (.inl ⟨by omega,by omega,a,b,ha,by omega⟩)))
 rw[ZmD o3]at h;by_cases o4:14≤t.Op∧t.Op≤16
 ·rw[ZmE o4]at h;obtain⟨a,b,ha,hf⟩:=k2 (fun a b=>a==b&&t.W==1) h;simp only[ZmC,Zng]at hf;exact .inr (.inr (.inr (.inl ⟨by omega,by omega,a,b,ha,hf.1⟩)))
 rw[ZmD o4]at h;by_cases o5:t.Op=17
 ·rw[ZmE o5]at h;obtain⟨a,b,c,ha,hf⟩:=k3 (fun a b c=>a==1&&b==t.W&&c==t.W) h;exact .inr (.inr (.inr (.inr (.inl ⟨o5,a,b,c,ha⟩))))
 rw[ZmD o5]at h;by_cases o6:t.Op=18
 ·rw[ZmE o6]at h;obtain⟨a,b,ha,hf⟩:=k2 (fun a b=>a+b==t.W) h;exact .inr (.inr (.inr (.inr (.inr (.inl ⟨o6,a,b,ha⟩)))))
 rw[ZmD o6]at h;by_cases o7:t.Op=19
 ·rw[ZmE o7]at h;obtain⟨a,ha,hf⟩:=k1 (fun a=>decide (0≤t.N∧t.N≤16)&&decide (t.N+t.W≤a)) h;simp only[ZmC,ZmK]at hf;exact .inr (.inr (.inr (.inr (.inr (.inr (.inl ⟨o7,by omega,by omega,a,ha⟩))))))
 rw[ZmD o7]at h;by_cases o8:20≤t.Op∧t.Op≤21
 ·rw[ZmE o8]at h;obtain⟨a,ha,hf⟩:=k1 (fun a=>decide (a≤t.W)) h;exact .inr (.inr (.inr (.inr (.inr (.inr (.inr ⟨by omega,a,ha⟩))))))
 rw[ZmD o8]at h;cases h
end Go.Proofs.YtbidabmbbieeiabGreatDoor
end
section
namespace Go.Proofs.YtbidabmbbieeiabGreatDoor
open Go.GL
set_option linter.unusedSimpArgs false
set_option maxRecDepth 100000
variable{fuel:Nat}[FU fuel]
def upI(k:Int)(L:Nat):List Int:=(List.range L).map fun(j:Nat)=>k+(j:Int)
theorem Ziq(k:Int)(L:Nat):(upI k L).length=L:=by simp[upI]
theorem Zlr{k:Int}{L i:Nat}(h:i<L):(upI k L)[i]? =some (k+(i:Int)):=by simp[upI,h]
theorem Zep{p:List Int}{k:Int}(hk:0≤k)(hb:k≤100000000000000000)(hp:p.length≤1048576):Xd fuel p k=some (k+p.length,upI k p.length):=by
 unfold Xd;rw[ZbE (I:=fun i s=>s=(k+(i:Int),(i:Int),pre (fun(j:Nat)=>k+(j:Int)) p i)) (m:=p.length) (r:=(k+(p.length:Int),upI k p.length)) (fun i s hi hs=>?_) (fun s hs=>?_) p.length 0 _ (by omega) (by simp[ZgN]) fuel (XV hp)]
 ·rfl
 ·subst hs;refine⟨_,?_,rfl⟩;simp only;rw[ZmE (by rw[Zf];simp;omega),set?_nat (by rw[Zif (by omega)];exact hi),Ziy hi];simp only[Zm9];rw[Zm (by omega) (by omega),Zm (by omega) (by omega)];simp only[Option.some.injEq,Sum.inl.injEq,Prod.mk.injEq,Zoj];omega
 ·subst hs;simp only;rw[ZmD (by rw[Zf];simp),Zi1];rfl
theorem Zel{L:Nat}{k:Int}(hk:0≤k)(hb:k≤100000000000000000)(hp:L≤1048576):Yv fuel (upI k L) k=some (k+L):=by
 unfold Yv;rw[ZbE (I:=fun i s=>s=(k+(i:Int),(i:Int))) (m:=L) (r:=.inl (k+(L:Int))) (fun i s hi hs=>?_) (fun s hs=>?_) L 0 _ (by omega) (by simp) fuel (XV hp)]
 ·rfl
 ·subst hs;refine⟨_,?_,rfl⟩;simp only;rw[ZmE (by rw[Zf,Ziq];simp;omega),get?_nat,Zlr hi];simp only[Zm9];rw[ZmD (by simp),Zm (by omega) (by omega),Zm (by omega) (by omega)];simp only[Option.some.injEq,Sum.inl.injEq,Prod.mk.injEq];omega
 ·subst hs;simp only;rw[ZmD (by rw[Zf,Ziq];simp)]
theorem Zg8{p:List D.Ins}{k:Int}(hk:0≤k)(hb:k≤100000000000000000)(hp:p.length≤1048576):∃r,Zau fuel p k=some (k+4*p.length,r):=by
 refine⟨(List.range p.length).map fun(j:Nat)=>⟨k+4*(j:Int),k+4*(j:Int)+1,k+4*(j:Int)+2,k+4*(j:Int)+3⟩,?_⟩;unfold Zau;rw[ZbE (I:=fun i s=>s=(k+4*(i:Int),(i:Int),pre (fun(j:Nat)=>(⟨k+4*(j:Int),k+4*(j:Int)+1,k+4*(j:Int)+2,k+4*(j:Int)+3⟩:D.Ins)) p i)) (m:=p.length) (r:=(k+4*(p.length:Int),(List.range p.length).map fun(j:Nat)=>(⟨k+4*(j:Int),k+4*(j:Int)+1,k+4*(j:Int)+2,k+4*(j:Int)+3⟩:D.Ins))) (fun i s hi hs=>?_) (fun s hs=>?_) p.length 0 _ (by omega) (by simp[ZgN]) fuel (XV hp)]
 ·rfl
 ·subst hs;refine⟨_,?_,rfl⟩;have hl:=Zif (f:=fun(j:Nat)=>(⟨k+4*(j:Int),k+4*(j:Int)+1,k+4*(j:Int)+2,k+4*(j:Int)+3⟩:D.Ins)) (p:=p) (i:=i) (by omega);simp only;rw[ZmE (by rw[Zf];simp;omega),get?_nat,Zlp hi,ZmF hi];simp only[Zm9];rw[set?_nat (by rw[hl];exact hi)];simp only[Zm9];rw[get?_nat,ZnQ (by rw[hl];exact hi)];simp only[Zm9];rw[set?_nat (by simp[hl];exact hi),List.set_set];simp only[Zm9];rw[get?_nat,ZnQ (by rw[hl];exact hi)];simp only[Zm9];rw[set?_nat (by simp[hl];exact hi),List.set_set];simp only[Zm9];rw[get?_nat,ZnQ (by rw[hl];exact hi)];simp only[Zm9];rw[set?_nat (by simp[hl];exact hi),List.set_set];simp only[Zm9];rw[Zm (x:=k+4*(i:Int)+1) (by omega) (by omega),Zm (x:=k+4*(i:Int)+1+1) (by omega) (by omega),Zm (x:=k+4*(i:Int)+1+1+1) (by omega) (by omega),Zm (x:=k+4*(i:Int)+1+1+1+1) (by omega) (by omega),Zm (x:=(i:Int)+1) (by omega) (by omega),←Ziy hi];simp only[Option.some.injEq,Sum.inl.injEq,Prod.mk.injEq];refine⟨by omega,by omega,?_⟩;refine congrArg (fun q=>List.set _ i q) ?_;simp only[D.Ins.mk.injEq];refine⟨trivial,trivial,?_,?_⟩<;>omega
 ·subst hs;simp only;rw[ZmD (by rw[Zf];simp),Zi1]
theorem ZeP{x:D.Program}{k:Int}(hk:0≤k)(hb:k≤100000000000000000)(hp:x.Code.length≤1048576):∃k' r,X8 fuel x k=some (k',r)∧k≤k'∧k'≤k+4194304:=by
 obtain⟨r,hr⟩:=Zg8 (fuel:=fuel) hk hb hp;unfold X8;rw[hr];exact⟨_,_,rfl,by simp only;omega,by simp only;omega⟩
end Go.Proofs.YtbidabmbbieeiabGreatDoor
end
section
namespace Go.Proofs.YtbidabmbbieeiabGreatDoor
open Go.GL
set_option linter.unusedSimpArgs false
set_option maxRecDepth 100000
variable{fuel:Nat}[FU fuel]
end Go.Proofs.YtbidabmbbieeiabGreatDoor
end
section
namespace Go.Proofs.YtbidabmbbieeiabGreatDoor
open Go.GL
set_option linter.unusedSimpArgs false
set_option maxRecDepth 100000
variable{fuel:Nat}[FU fuel]
end Go.Proofs.YtbidabmbbieeiabGreatDoor
end
section
namespace Go.Proofs.YtbidabmbbieeiabGreatDoor
open Go.GL
set_option linter.unusedSimpArgs false
set_option maxRecDepth 100000
variable{fuel:Nat}[FU fuel]
theorem Zfb:∀(d:Nat)(j:Int)(s:Str),0≤j→j≤200000000000000000→j<10^d→s.bytes.length+d≤1000→∃o:Str,(∀n,d<n→iterN (fun(s1:Int×Str)=>if(decide (s1.1>0))then(rem? s1.1 10).bind fun x1=>(cat? (strOf ([(Byt.mk (IntKind.u8.wrap (w64 (48+x1))))]:List Byt)) s1.2).bind fun x2=>(quo? s1.1 10).bind fun x3=>some (.inl (x3,x2))else some (.inr (s1.2))) n (j,s)=some o)∧o.bytes.length≤1000
 |0,j,s,h0,_,h1,h2=>by
  have:j=0:=by simp at h1;omega
  subst this;exact⟨s,fun n hn=>by obtain⟨n,rfl⟩:∃m,n=m+1:=⟨n-1,by omega⟩;unfold iterN;rfl,by omega⟩
 | d+1,j,s,h0,hb,h1,h2=>by
  by_cases c:0<j
  ·have c1:decide (j>0)=true:=decide_eq_true c;have c2:rem? j 10=some (j.tmod 10):=by unfold rem?;rw[ZmD (by omega)]
   have hj:j/10<10^d:=by
    rw[Int.pow_succ]at h1;omega
   have c3:quo? j 10=some (j/10):=by
    unfold quo?;rw[ZmD (by omega),Int.tdiv_eq_ediv_of_nonneg h0,Zm (by omega) (by omega)]
   have c4:cat? (strOf ([(Byt.mk (IntKind.u8.wrap (w64 (48+j.tmod 10))))]:List Byt)) s=some ⟨(strOf ([(Byt.mk (IntKind.u8.wrap (w64 (48+j.tmod 10))))]:List Byt)).bytes++s.bytes⟩:=by
    unfold cat?;rw[ZmE (by simp[strOf];omega)]
   obtain⟨o,g1,g2⟩:=Zfb d (j/10) ⟨(strOf ([(Byt.mk (IntKind.u8.wrap (w64 (48+j.tmod 10))))]:List Byt)).bytes++s.bytes⟩ (by omega) (by omega) hj (by simp[strOf];omega);refine⟨o,fun n hn=>?_,g2⟩;obtain⟨n,rfl⟩:∃m,n=m+1:=⟨n-1,by omega⟩;unfold iterN;simp only[c1,ZmT,c2,Zm9,c4,c3];exact g1 n (by omega)
  ·have:decide (j>0)=false:=decide_eq_false c;exact⟨s,fun n hn=>by obtain⟨n,rfl⟩:∃m,n=m+1:=⟨n-1,by omega⟩;unfold iterN;simp only[this,ZmA,ZmI],by omega⟩
theorem ZjW{k:Int}(h0:0≤k)(h1:k≤200000000000000000):∃s,∀n,20≤n→YA n k=some s:=by
 by_cases c:k≤0
 ·refine⟨⟨[109,48]⟩,fun n _=> ?_⟩;unfold YA;rw[ZmE (by simpa using c)]
 obtain⟨o,e1,e2⟩:=Zfb 18 k ⟨[]⟩ h0 h1 (by omega) (by simp);refine⟨⟨[109]++o.bytes⟩,fun n hn=>?_⟩;unfold YA;rw[ZmD (by simpa using c),e1 n (by omega)];simp only[Zm9];unfold cat?;rw[ZmE (by simp;omega)];rfl
def El(M:Nat)(q:Int)(x:D.Term)(q':Int):Prop:=0≤q∧q≤100000000000000000∧∃tx ks,x=⟨q,q+1,q+2,tx,ks⟩∧(∀n,20≤n→YA n (q+3)=some tx)∧0≤q'∧∀m,1048580+M≤m→Zz m ks (q+4)=some q'
def Ch(M:Nat):Int→List D.Term→Int→Prop
 |q,[],e=>q=e
 |q,x::l,e=>∃q',El M q x q'∧Ch M q' l e
theorem Ch.snoc{M:Nat}{x:D.Term}{e e':Int}(h':El M e x e'):∀{l:List D.Term}{q:Int},Ch M q l e→Ch M q (l++[x]) e'
 |[],q,h=>by cases h;exact⟨e',h',rfl⟩
 |y::l,q,⟨q',h1,h2⟩=>⟨q',h1,h2.snoc h'⟩
theorem Zlt{M:Nat}{l:List D.Term}{k e:Int}{m:Nat}(h:Ch M k l e)(h0:0≤k)(hl:l.length≤1048576)(hm:1048580+M≤m):Zz (m+1) l k=some e:=by
 rw[Zz];obtain ⟨r,g1,g2⟩:=Yh (l:=l) (n:=m) (σ:=Int) (ρ:=Int⊕Int) (B:=fun(s1:Int×Int)=>if (decide (s1.2<(len l)))then(get? l s1.2).bind fun x1=>if(x1.Op !=s1.1)then some (.inr (.inr (-1)))else(get? l s1.2).bind fun x2=>if(x2.W !=(w64 (s1.1+1)))then some (.inr (.inr (-1)))else(get? l s1.2).bind fun x3=>if(x3.N !=(w64 ((w64 (s1.1+1))+1)))then some (.inr (.inr (-1)))else(get? l s1.2).bind fun x4=>(YA m (w64 ((w64 ((w64 (s1.1+1))+1))+1))).bind fun x5=>if(!(Str.eqb x4.Name x5))then some (.inr (.inr (-1)))else(get? l s1.2).bind fun x6=>(Zz m x6.Kids (w64 ((w64 ((w64 ((w64 (s1.1+1))+1))+1))+1))).bind fun x7=>if(decide (x7<0))then some (.inr (.inr (-1)))else some (.inl (x7,(w64 (s1.2+1))))else some (.inr (.inl (s1.1)))) (fun j a=>(a,(j:Int))) (fun ys a=>Ch M a ys e) (fun r=>r= .inl e)
  (fun j x xs a hj hx hlen hch=>by
   obtain⟨q',⟨q0,q1,tx,ks,rfl,ht,hq,hh⟩,hc⟩:=hch;have hd:decide ((j:Int)<len l)=true:=by rw[Zf];simp;omega
   simp only[hd,ZmT,get?_nat,hx,Zm9];rw[Zm (x:=a+1) (by omega) (by omega),Zm (x:=a+1+1) (by omega) (by omega),Zm (x:=a+1+1+1) (by omega) (by omega),Zm (x:=a+1+1+1+1) (by omega) (by omega)];have e1:a+1+1+1=a+3:=by omega
   have e2:a+3+1=a+4:=by omega
   have e3:a+1+1=a+2:=by omega
   rw[e1,e2,e3,ht m (by omega),hh m hm];simp only[Zm9,bne_self_eq_false,ZmA,ZmI,Za1,ZmH];rw[ZmD (by simpa using hq)]
   exact .inl ⟨q',by rw[Zm (by omega) (by omega)];rfl,hc⟩)
  (fun a hch=>by
   have hd:decide ((l.length:Int)<len l)=false:=by rw[Zf];simp
   simp only[hd,ZmA,ZmI]
   exact⟨_,rfl,by rw[show a=e from hch]⟩) (a:=k) h (by omega)
 rw[show((0:Nat):Int)=0 from rfl]at g1;rw[g1,g2];rfl
theorem Zjh:∀(n:Nat)(l:List D.Term)(k:Int),l.length+mszs l≤1048576→1048580+(l.length+mszs l)≤n→0≤k→k+4*((l.length:Int)+mszs l)≤50000000000000000→
  ∃r,ZM n l k=some r∧k≤r.1∧r.1≤k+4*((l.length:Int)+mszs l)∧∀m,1048581+(l.length+mszs l)≤m→Zz m r.2 k=some r.1:=by
 intro n
 induction n with
 |zero=>intro l k _ h;omega
 | succ n ih=>
  intro l k hs hn h0 hb;rw[ZM];obtain⟨r,g1,g2,g3,g4,g5⟩:=Yh (l:=l) (n:=n) (σ:=Int×List D.Term) (ρ:=Int×List D.Term) (B:=fun(s1:Int×Int×(List D.Term))=>if(decide (s1.2.1<(len l)))then(get? s1.2.2 s1.2.1).bind fun x1=>(YA n (w64 ((w64 ((w64 (s1.1+1))+1))+1))).bind fun x2=>(ZM n x1.Kids (w64 ((w64 ((w64 ((w64 (s1.1+1))+1))+1))+1))).bind fun x3=>(set? s1.2.2 s1.2.1 (D.Term.mk s1.1 (w64 (s1.1+1)) (w64 ((w64 (s1.1+1))+1)) x2 x3.2)).bind fun x4=>some (.inl (x3.1,(w64 (s1.2.1+1)),x4))else some (.inr (s1.1,s1.2.2))) (fun j a=>(a.1,(j:Int),a.2))
   (fun ys a=>(∃pre,a.2=pre++ys∧pre.length+ys.length=l.length∧Ch (l.length+mszs l) k pre a.1)∧ys.length+mszs ys≤l.length+mszs l∧k≤a.1∧a.1+4*((ys.length:Int)+mszs ys)≤k+4*((l.length:Int)+mszs l))
   (fun r=>k≤r.1∧r.1≤k+4*((l.length:Int)+mszs l)∧r.2.length=l.length∧Ch (l.length+mszs l) k r.2 r.1)
   (fun j x xs a hj hx hlen⟨⟨pre,i1,i2,i6⟩,i3,i4,i5⟩=>by
    obtain⟨q,z⟩:=a;simp only at i1 i4 i5 i6⊢;have hz:=ZaN x;rw[Xr]at i3 i5;simp only[ZmX]at i2 i3 i5 hlen;have hp:pre.length=j:=by omega
    have hd:decide ((j:Int)<len l)=true:=by rw[Zf];simp;omega
    have hg:z[j]? =some x:=by rw[i1,ZmY (by omega),hp,ZnL];rfl
    simp only[hd,ZmT,get?_nat,hg,Zm9];rw[Zm (x:=q+1) (by omega) (by omega),Zm (x:=q+1+1) (by omega) (by omega),Zm (x:=q+1+1+1) (by omega) (by omega),Zm (x:=q+1+1+1+1) (by omega) (by omega)];obtain⟨tx,ht⟩:=ZjW (k:=q+1+1+1) (by omega) (by omega);obtain⟨⟨k3,r3⟩,m1,m2,m3,m4⟩:=ih x.Kids (q+1+1+1+1) (by omega) (by omega) (by omega) (by omega);simp only at m2 m3 m4;rw[ht n (by omega)];simp only[Zm9];rw[m1];simp only[Zm9];rw[set?_nat (by rw[i1];simp;omega)];have e1:q+1+1+1=q+3:=by omega
    have e2:q+1+1+1+1=q+4:=by omega
    have e3:q+1+1=q+2:=by omega
    rw[e2]at m4;rw[e1]at ht;refine .inl ⟨(k3,z.set j (D.Term.mk q (q+1) (q+1+1) tx r3)),by simp only[Zm9];rw[Zm (by omega) (by omega)];rfl,⟨pre++[D.Term.mk q (q+1) (q+1+1) tx r3],?_,by simp;omega,i6.snoc ⟨by omega,by omega,tx,r3,by rw[e3],ht,by omega,fun m hm=>m4 m (by omega)⟩⟩,by omega,by show k≤k3;omega,by show k3+_≤_;omega⟩;show z.set j _=_
    rw[i1,ZnZ _ _ (by omega),hp,ZnL];simp)
   (fun a⟨⟨pre,j1,j2,j3⟩,_,i4,i5⟩=>by
    have hd:decide ((l.length:Int)<len l)=false:=by rw[Zf];simp
    simp only[hd,ZmA,ZmI];rw[Zcp]at i5;simp only[Znz]at i5 j2;rw[ZnW]at j1
    exact⟨_,rfl,i4,by omega,by rw[j1];omega,by rw[j1];exact j3⟩) (a:=(k,l)) ⟨⟨[],rfl,by simp,rfl⟩,by omega,by show k≤k;omega,by show k+_≤_;omega⟩ (by omega)
  rw[show((0:Nat):Int)=0 from rfl]at g1;rw[g1];refine⟨_,rfl,g2,g3,fun m hm=>?_⟩;obtain⟨m,rfl⟩:∃m',m=m'+1:=⟨m-1,by omega⟩;exact Zlt g5 h0 (by show r.2.length≤_;omega) (by omega)
end Go.Proofs.YtbidabmbbieeiabGreatDoor
end
section
namespace Go.Proofs.YtbidabmbbieeiabGreatDoor
open Go.GL
set_option linter.unusedSimpArgs false
set_option maxRecDepth 100000
variable{fuel:Nat}[FU fuel]
def sg(a b:Int):Int:=if a<b then-1 else if a>b then 1 else 0
def ss(a b:Str):Int:=if a=b then 0 else if Str.ltb a b=true then-1 else 1
mutual
def ctm:D.Term→D.Term→Int
 |⟨o,w,m,s,k⟩,t=>if sg o t.Op≠0 then sg o t.Op else if sg w t.W≠0 then sg w t.W else if sg m t.N≠0 then sg m t.N else if ss s t.Name≠0 then ss s t.Name else cts k t.Kids
def cts:List D.Term→List D.Term→Int
 |[],l=>sg 0 l.length
 |_::_,[]=>1
 |x::l,y::m=>if ctm x y≠0 then ctm x y else cts l m
end
theorem ZcG(a t:D.Term):ctm a t=if sg a.Op t.Op≠0 then sg a.Op t.Op else if sg a.W t.W≠0 then sg a.W t.W else if sg a.N t.N≠0 then sg a.N t.N else if ss a.Name t.Name≠0 then ss a.Name t.Name else cts a.Kids t.Kids:=by cases a;rw[ctm]
theorem ZdH(l:List D.Term):cts [] l=sg 0 l.length:=by rw[cts]
theorem Ze8(x:D.Term)(l:List D.Term):cts (x::l) []=1:=by rw[cts]
theorem Zdw(x y:D.Term)(l m:List D.Term):cts (x::l) (y::m)=if ctm x y≠0 then ctm x y else cts l m:=by rw[cts]
theorem ZhV(a b:Int):sg b a=-sg a b:=by unfold sg;split<;>split<;>(try split)<;>omega
theorem Zmq(a b:Str):ss b a=-ss a b:=by
 unfold ss;by_cases e:a=b
 ·rw[ZmE e,ZmE e.symm];rfl
 rw[ZmD e,ZmD fun h=>e h.symm];cases h:Str.ltb a b
 ·rw[ZkN h e];rfl
 ·have:Str.ltb b a=false:=by
   cases h2:Str.ltb b a
   ·rfl
   ·have:=lt_trans h h2;rw[Zkw]at this;cases this
  rw[this];rfl
theorem Zgc(a b:Int):sg a b=-1∨sg a b=0∨sg a b=1:=by unfold sg;split<;>(try split)<;>simp
theorem Zlo(a b:Str):ss a b=-1∨ss a b=0∨ss a b=1:=by unfold ss;split<;>(try split)<;>simp
theorem ZjU:∀n:Nat,(∀a b:D.Term,msz a<n→ctm b a=-ctm a b∧(ctm a b=-1∨ctm a b=0∨ctm a b=1))∧∀l m:List D.Term,l.length+mszs l<n→cts m l=-cts l m∧(cts l m=-1∨cts l m=0∨cts l m=1):=by
 intro n
 induction n with
 |zero=>exact⟨fun _ _ h=>by omega,fun _ _ h=>by omega⟩
 | succ n ih=>
  have hl:∀l m:List D.Term,l.length+mszs l<n+1→cts m l=-cts l m∧(cts l m=-1∨cts l m=0∨cts l m=1):=by
   intro l m h;cases l with
   |nil=>
    cases m with
    |nil=>rw[ZdH];decide
    |cons y m=>rw[ZdH,Ze8];unfold sg;simp
   | cons x l=>
    cases m with
    |nil=>rw[ZdH,Ze8];unfold sg;simp
    |cons y m=>
     rw[Xr]at h;simp only[ZmX]at h;obtain⟨a1,a2⟩:=ih.1 x y (by omega);obtain⟨b1,b2⟩:=ih.2 l m (by omega);rw[Zdw,Zdw,a1];by_cases e:ctm x y=0
     ·rw[e];simpa using⟨b1,b2⟩
     ·rw[ZmE (by omega),ZmE e];exact⟨rfl,a2⟩
  refine⟨fun a b h=>?_,hl⟩;have hz:=ZaN a;obtain⟨b1,b2⟩:=hl a.Kids b.Kids (by omega);rw[ZcG,ZcG,ZhV a.Op,ZhV a.W,ZhV a.N,Zmq a.Name,b1];have h1:=Zgc a.Op b.Op;have h2:=Zgc a.W b.W;have h3:=Zgc a.N b.N;have h4:=Zlo a.Name b.Name;by_cases e1:sg a.Op b.Op=0
  ·by_cases e2:sg a.W b.W=0
   ·by_cases e3:sg a.N b.N=0
    ·by_cases e4:ss a.Name b.Name=0
     ·simp[e1,e2,e3,e4,b2]
     ·simp[e1,e2,e3,e4];omega
    ·simp[e1,e2,e3];omega
   ·simp[e1,e2];omega
  ·simp[e1];omega
theorem ZlL(a b:D.Term):ctm b a=-ctm a b:=((ZjU (msz a+1)).1 a b (by omega)).1
theorem ZeI(a b:D.Term):ctm a b=-1∨ctm a b=0∨ctm a b=1:=((ZjU (msz a+1)).1 a b (by omega)).2
theorem ZlY:∀x y:List UInt8,Lib.compareBytes x y=if x=y then 0 else if Op.bytesLess x y=true then-1 else 1
 |[],[]=>by simp[Lib.compareBytes]
 |[],_::_=>by simp[Lib.compareBytes,Op.bytesLess]
 |_::_,[]=>by simp[Lib.compareBytes,Op.bytesLess]
 | a ::x,b::y=>by
  rw[Lib.compareBytes,ZlY x y];by_cases h1:a<b
  ·have:a≠b:=fun e=>by subst e;exact absurd h1 (UInt8.lt_irrefl a)
   simp[h1,this,Op.bytesLess]
  ·by_cases h2:b<a
   ·have:a≠b:=fun e=>by subst e;exact absurd h2 (UInt8.lt_irrefl a)
    simp[h1,h2,this,Op.bytesLess]
   ·have:a=b:=by
     have h3:¬a.toNat<b.toNat:=h1;have h4:¬b.toNat<a.toNat:=h2;exact UInt8.toNat_inj.1 (by omega)
    subst this;simp[h1,Op.bytesLess]
theorem ZlI(a b:Str):strings_Compare a b=some (ss a b):=by
 unfold strings_Compare ss;rw[ZlY,Zg1];have:(a.bytes=b.bytes)=(a=b):=by
  cases a;cases b;simp
 simp only[this]
theorem Zl6(a b:Int):Xt a b=some (sg a b):=by
 unfold Xt sg;by_cases h1:a<b
 ·simp[h1]
 ·by_cases h2:a>b<;>simp[h1,h2]
theorem Zl0(a b:Int):Y6 a b=some (sg a b):=by
 unfold Y6 Zaa sg;by_cases h1:a<b
 ·simp[h1]
 ·by_cases h2:a>b<;>simp[h1,h2]
theorem ZhC(x y z:Int){n:Nat}(hn:4≤n):iterN (fun(s1:Int)=>if(decide (s1<(len ([x,y,z]:List Int))))then(get? ([x,y,z]:List Int) s1).bind fun x4=>if(x4 !=0)then some (.inr (.inr x4))else some (.inl ((w64 (s1+1))))else some (.inr (.inl ()))) n 0=some (if x≠0 then(.inr x:Unit⊕Int)else if y≠0 then .inr y else if z≠0 then .inr z else .inl ()):=by
 obtain⟨n,rfl⟩:∃m,n=m+4:=⟨n-4,by omega⟩;by_cases h1:x=0
 ·by_cases h2:y=0
  ·by_cases h3:z=0
   ·subst h1 h2 h3;rfl
   ·subst h1 h2;simp[iterN,Zf,get?,h3,Zm]
  ·subst h1;simp[iterN,Zf,get?,h2,Zm]
 ·simp[iterN,Zf,get?,h1]
theorem ZcC:∀(n:Nat)(a b:D.Term),msz a≤1048576→1048580+cnt a≤n→ZH n a b=some (ctm a b):=by
 intro n
 induction n with
 |zero=>intro a b _ _;omega
 | succ n ih=>
  intro a b hs hn;have hz:=ZaN a;have hc:=XT a;unfold ZH;simp only[Zl6,Zm9,ZhC _ _ _ (show 4≤n by omega)];rw[ZcG];by_cases e1:sg a.Op b.Op=0;rotate_left
  ·simp[e1]
  by_cases e2:sg a.W b.W=0;rotate_left
  ·simp[e1,e2]
  by_cases e3:sg a.N b.N=0;rotate_left
  ·simp[e1,e2,e3]
  simp only[e1,e2,e3,ne_eq,not_true_eq_false,ZmI];by_cases e4:a.Name=b.Name;rotate_left
  ·have:Str.eqb a.Name b.Name=false:=by rw[ZcW];simpa using e4
   simp only[this,Zny,ZmT];unfold ss;rw[ZmD e4];cases Str.ltb a.Name b.Name<;>simp
  have:Str.eqb a.Name b.Name=true:=by rw[ZcW];simpa using e4
  have e5:ss a.Name b.Name=0:=by unfold ss;rw[ZmE e4]
  simp only[this,e5,ZmH,ZmA,not_true_eq_false,ZmI];obtain⟨r,g1,g2⟩:=Yh (l:=a.Kids) (n:=n) (σ:=Unit) (ρ:=Unit⊕Int) (B:=fun(s2:Int)=>if (decide (s2<(len a.Kids)))then(get? a.Kids s2).bind fun x5=>if(s2==(len b.Kids))then some (.inr (.inr 1))else(get? b.Kids s2).bind fun x6=>(ZH n x5 x6).bind fun x7=>if(x7 !=0)then some (.inr (.inr x7))else some (.inl ((w64 (s2+1))))else some (.inr (.inl ()))) (fun k _=>(k:Int)) (fun ys _=>a.Kids.length-ys.length≤b.Kids.length∧ys.length≤a.Kids.length∧cts ys (b.Kids.drop (a.Kids.length-ys.length))=cts a.Kids b.Kids∧∀x∈ys,x∈a.Kids)
    (fun r=>(r= .inl ()∧sg a.Kids.length b.Kids.length=cts a.Kids b.Kids)∨r= .inr (cts a.Kids b.Kids))
    (fun k x xs _ hk' hx hlen⟨i0,i1,i2,i3⟩=>by
     have hm:=Zaw (i3 x (by simp));have hcm:=Zcj (i3 x (by simp));have hk:a.Kids.length-(x::xs).length=k:=by omega
     rw[hk]at i0 i2;have hd:decide ((k:Int)<len a.Kids)=true:=by rw[Zf];simp;omega
     simp only[hd,ZmT,get?_nat,hx,Zm9];by_cases hb:k=b.Kids.length
     ·refine .inr ⟨.inr 1,by rw[Zf];simp[hb],.inr ?_⟩;rw[←i2,hb,List.drop_length,Ze8]
     ·have hbk:k<b.Kids.length:=by omega
      have hy:b.Kids[k]? =some b.Kids[k]:=ZmF hbk;have hbeq:((k:Int)==len b.Kids)=false:=by rw[Zf];simp;omega
      rw[ZmW hbk,Zdw]at i2;simp only[hbeq,ZmA,ZmI,hy,Zm9];rw[ih x b.Kids[k] (by omega) (by omega)];simp only[Zm9];by_cases e:ctm x b.Kids[k]=0
      ·rw[e]at i2⊢;refine .inl ⟨(),by rw[Zm (by omega) (by omega)];rfl,by simp at hlen;omega,by simp at hlen;omega,?_,fun y hy=>i3 y (by simp[hy])⟩;have:a.Kids.length-xs.length=k+1:=by simp at hlen;omega
       rw[this];simpa using i2
      ·refine .inr ⟨.inr (ctm x b.Kids[k]),by simp[e],.inr ?_⟩
       rw[←i2,ZmE e])
    (fun _⟨i0,i1,i2,_⟩=>by
     have hd:decide ((a.Kids.length:Int)<len a.Kids)=false:=by rw[Zf];simp
     simp only[hd,ZmA,ZmI];refine⟨.inl (),rfl,.inl ⟨rfl,?_⟩⟩;rw[←i2,ZdH];simp only[Znz,Nat.sub_zero,Zoc]at i0⊢;unfold sg
     split<;>split<;>(try split)<;>(try split)<;>omega) (a:=()) ⟨by omega,by omega,by rw[ZnL];rfl,fun x hx=>hx⟩ (by omega)
  rw[show((0:Nat):Int)=0 from rfl]at g1;rw[g1];rcases g2 with⟨rfl,g2⟩|rfl
  ·simp only[Zm9,Zf,g2]
  ·rfl
theorem ZcD:∀(n:Nat)(a b:D.Term),msz a≤1048576→1048580+cnt a≤n→ZI n a b=some (ctm a b):=by
 intro n
 induction n with
 |zero=>intro a b _ _;omega
 | succ n ih=>
  intro a b hs hn;have hz:=ZaN a;have hc:=XT a;unfold ZI;simp only[Zl0,ZlI,Zm9];rw[ZcG];by_cases e1:sg a.Op b.Op=0;rotate_left
  ·simp[e1]
  by_cases e2:sg a.W b.W=0;rotate_left
  ·simp[e1,e2]
  by_cases e3:sg a.N b.N=0;rotate_left
  ·simp[e1,e2,e3]
  by_cases e4:ss a.Name b.Name=0;rotate_left
  ·simp[e1,e2,e3,e4]
  simp only[e1,e2,e3,e4,ne_eq,not_true_eq_false,ZmI,bne_self_eq_false,ZmA];obtain⟨r,g1,g2⟩:=Yh (l:=a.Kids) (n:=n) (σ:=Unit) (ρ:=Unit⊕Int) (B:=fun(s1:Int)=>if((decide (s1<(len a.Kids)))&&(decide (s1<(len b.Kids))))then(get? a.Kids s1).bind fun x5=>(get? b.Kids s1).bind fun x6=>(ZI n x5 x6).bind fun x7=>if(x7 !=0)then some (.inr (.inr x7))else some (.inl ((w64 (s1+1))))else some (.inr (.inl ()))) (fun k _=>(k:Int)) (fun ys _=>a.Kids.length-ys.length≤b.Kids.length∧ys.length≤a.Kids.length∧cts ys (b.Kids.drop (a.Kids.length-ys.length))=cts a.Kids b.Kids∧∀x∈ys,x∈a.Kids)
    (fun r=>(r= .inl ()∧sg a.Kids.length b.Kids.length=cts a.Kids b.Kids)∨r= .inr (cts a.Kids b.Kids))
    (fun k x xs _ hk' hx hlen⟨i0,i1,i2,i3⟩=>by
     have hm:=Zaw (i3 x (by simp));have hcm:=Zcj (i3 x (by simp));have hk:a.Kids.length-(x::xs).length=k:=by omega
     rw[hk]at i0 i2;have hd:decide ((k:Int)<len a.Kids)=true:=by rw[Zf];simp;omega
     by_cases hb:k=b.Kids.length
     ·refine .inr ⟨.inl (),by rw[Zf,Zf];simp[hb],.inl ⟨rfl, ?_⟩⟩;rw[←i2,hb,List.drop_length,Ze8];unfold sg;rw[ZmD (by omega),ZmE (by omega)]
     ·have hbk:k<b.Kids.length:=by omega
      have hy:b.Kids[k]? =some b.Kids[k]:=ZmF hbk;have hd2:decide ((k:Int)<len b.Kids)=true:=by rw[Zf];simp;omega
      rw[ZmW hbk,Zdw]at i2;simp only[hd,hd2,ZnN,ZmT,get?_nat,hx,hy,Zm9];rw[ih x b.Kids[k] (by omega) (by omega)];simp only[Zm9];by_cases e:ctm x b.Kids[k]=0
      ·rw[e]at i2⊢;refine .inl ⟨(),by rw[Zm (by omega) (by omega)];rfl,by simp at hlen;omega,by simp at hlen;omega,?_,fun y hy=>i3 y (by simp[hy])⟩;have:a.Kids.length-xs.length=k+1:=by simp at hlen;omega
       rw[this];simpa using i2
      ·refine .inr ⟨.inr (ctm x b.Kids[k]),by simp[e],.inr ?_⟩
       rw[←i2,ZmE e])
    (fun _⟨i0,i1,i2,_⟩=>by
     have hd:decide ((a.Kids.length:Int)<len a.Kids)=false:=by rw[Zf];simp
     simp only[hd,Zn0,ZmA,ZmI];refine⟨.inl (),rfl,.inl ⟨rfl,?_⟩⟩;rw[←i2,ZdH];simp only[Znz,Nat.sub_zero,Zoc]at i0⊢;unfold sg
     split<;>split<;>(try split)<;>(try split)<;>omega) (a:=()) ⟨by omega,by omega,by rw[ZnL];rfl,fun x hx=>hx⟩ (by omega)
  rw[show((0:Nat):Int)=0 from rfl]at g1;rw[g1];rcases g2 with⟨rfl,g2⟩|rfl
  ·simp only[Zm9,Zf,g2]
  ·rfl
theorem ZbB{n:Nat}{a b:D.Term}(h1:msz a≤1048576)(h2:1048580+cnt a≤n):Yn n a b=some (ctm a b==0):=by
 unfold Yn;rw[ZcC n a b h1 h2];rfl
theorem Zb8{n:Nat}{a b:D.Term}(h1:msz a≤1048576)(h2:1048580+cnt a≤n):Yj n a b=some (ctm a b==0):=by
 unfold Yj;rw[ZcD n a b h1 h2];rfl
end Go.Proofs.YtbidabmbbieeiabGreatDoor
end
section
namespace Go.Proofs.YtbidabmbbieeiabGreatDoor
open Go.GL
set_option linter.unusedSimpArgs false
set_option maxRecDepth 100000
variable{fuel:Nat}[FU fuel]
theorem ZcJ{x:Int}(h0:0≤x)(h1:x<65536):(BitVec.ofInt 64 x).toNat=x.toNat:=by
 rw[BitVec.toNat_ofInt];rw[Int.emod_eq_of_lt h0 (by omega)]
theorem ZdS{w:Int}(h1:1≤w)(h2:w≤16):(2:Int)^w.toNat=((2^w.toNat:Nat):Int)∧(2^w.toNat:Nat)≤65536∧2≤(2^w.toNat:Nat):=by
 rcases Zeo h1 h2 with rfl|rfl|rfl|rfl|rfl|rfl|rfl|rfl|rfl|rfl|rfl|rfl|rfl|rfl|rfl|rfl<;>decide
theorem ZlH{w a b:Int}(h1:1≤w)(h2:w≤16)(ha:wordB w a=true)(hb:wordB w b=true):wordB w (band a b)=true∧wordB w (bor a b)=true∧wordB w (bxor a b)=true:=by
 obtain⟨p1,p2,p3⟩:=ZdS h1 h2;rw[ZZ h1 h2]at ha hb;rw[p1]at ha hb;have ea:=ZcJ ha.1 (by omega);have eb:=ZcJ hb.1 (by omega);have la:a.toNat<2^w.toNat:=by omega
 have lb:b.toNat<2^w.toNat:=by omega
 refine⟨?_,?_,?_⟩<;>rw[ZZ h1 h2,p1]
 ·unfold band;rw[BitVec.toNat_and,ea,eb];have:=Nat.and_lt_two_pow a.toNat lb;rw[Zm (by omega) (by omega)];omega
 ·unfold bor;rw[BitVec.toNat_or,ea,eb];have:=Nat.or_lt_two_pow la lb;rw[Zm (by omega) (by omega)];omega
 ·unfold bxor;rw[BitVec.toNat_xor,ea,eb];have:=Nat.xor_lt_two_pow la lb;rw[Zm (by omega) (by omega)];omega
theorem Za9{w:Int}(h1:1≤w)(h2:w≤16)(v:Int):wordB w (wordOf w v)=true:=by
 have h:=Yr w v;obtain⟨p1,p2,p3⟩:=ZdS h1 h2;obtain⟨a1,_,a3,_,_⟩:=Zbd h1 h2;unfold Yl Zl at h;have e:(decide (w≥1)&&decide (w≤16))=true:=by simp;omega
 simp only[e,Zm9,ZmH,ZmA,ZmI,a1,Option.some.injEq]at h;rw[a3]at h;rw[←h,ZZ h1 h2,p1];unfold band;rw[BitVec.toNat_and,ZcJ (x:=((2^w.toNat:Nat):Int)-1) (by omega) (by omega)];have:=Nat.and_le_right (n:=(BitVec.ofInt 64 v).toNat) (m:=(((2^w.toNat:Nat):Int)-1).toNat);rw[Zm (by omega) (by omega)];omega
theorem Zct{w a:Int}(h:wordB w a=true):ZG w a=some true:=by rw[YU,h]
theorem ZeY(b:Bool):wordB 1 (if b=true then 1 else 0)=true:=by cases b<;>decide
theorem Zmy{op w a r:Int}(h:YX op w a=some r)(ho:op=1∨op=2)(ha:wordB w a=true):wordB w r=true:=by
 obtain⟨h1,h2⟩:=Yp ha;obtain⟨a1,_,a3,a4,a5⟩:=Zbd h1 h2;unfold YX at h;simp only[Zct ha,Zm9,ZmH,ZmA,ZmI,Yr]at h;have hv:=(ZZ h1 h2 a).1 ha;rcases ho with rfl|rfl
 ·simp only[Zn7,ZmT,a1,Zm9,Option.some.injEq]at h;rw[a3,Zm (by omega) (by omega)]at h;rw[ZZ h1 h2];omega
 ·simp at h;rw[←h];exact Za9 h1 h2 _
theorem ZkK{op w a b r:Int}(h:Yx op w a b=some r)(ha:wordB w a=true)(hb:wordB w b=true):(3≤op∧op≤13→wordB w r=true)∧(14≤op∧op≤16→wordB 1 r=true):=by
 obtain⟨h1,h2⟩:=Yp ha;obtain⟨a1,_,a3,a4,a5⟩:=Zbd h1 h2;obtain⟨b1,b2,b3⟩:=ZlH h1 h2 ha hb;have hv:=(ZZ h1 h2 a).1 ha;have hu:=(ZZ h1 h2 b).1 hb;unfold Yx at h;simp only[Zct ha,Zct hb,Zm9,ZmH,ZmA,ZmI,Bool.or_self,Yr,(Zfa _).1]at h;refine⟨fun⟨g1,g2⟩=>?_,fun⟨g1,g2⟩=>?_⟩
 ·have:op=3∨op=4∨op=5∨op=6∨op=7∨op=8∨op=9∨op=10∨op=11∨op=12∨op=13:=by omega
  rcases this with rfl|rfl|rfl|rfl|rfl|rfl|rfl|rfl|rfl|rfl|rfl
  ·simp at h;rw[←h];exact Za9 h1 h2 _
  ·simp at h;rw[←h];exact Za9 h1 h2 _
  ·simp at h;rw[←h];exact Za9 h1 h2 _
  ·simp only[show((6:Int)==3)=false from rfl,show((6:Int)==4)=false from rfl,show((6:Int)==5)=false from rfl,Zn7,ZmA,ZmI,ZmT]at h;by_cases e:b=0
   ·subst e;simp only[Zn7,ZmT,a1,Zm9,Option.some.injEq]at h;rw[a3]at h;rw[ZZ h1 h2];omega
   ·have e':(b==0)=false:=by simpa using e
    unfold quo? at h;simp only[e',ZmA,ZmI,e,Zm9,Option.some.injEq]at h;have q1:=Int.tdiv_nonneg hv.1 hu.1;have q2:=Int.tdiv_le_self b hv.1;rw[Zm (by omega) (by omega)]at h;rw[ZZ h1 h2];omega
  ·simp only[show((7:Int)==3)=false from rfl,show((7:Int)==4)=false from rfl,show((7:Int)==5)=false from rfl,show((7:Int)==6)=false from rfl,Zn7,ZmA,ZmI,ZmT]at h;by_cases e:b=0
   ·subst e;simp at h;rw[←h];exact ha
   ·have e':(b==0)=false:=by simpa using e
    unfold rem? at h;simp only[e',ZmA,ZmI,e,Zm9,Option.some.injEq]at h;have q1:=Int.tmod_nonneg b hv.1;have q2:=Int.tmod_lt_of_pos a (show 0<b by omega);rw[ZZ h1 h2];omega
  ·simp at h;rw[←h];exact b1
  ·simp at h;rw[←h];exact b2
  ·simp at h;rw[←h];exact b3
  ·simp only[show((11:Int)==3)=false from rfl,show((11:Int)==4)=false from rfl,show((11:Int)==5)=false from rfl,show((11:Int)==6)=false from rfl,show((11:Int)==7)=false from rfl,show((11:Int)==8)=false from rfl,show((11:Int)==9)=false from rfl,show((11:Int)==10)=false from rfl,Zn7,ZmA,ZmI,ZmT]at h;by_cases e:b≥w
   ·simp[e]at h;rw[←h,ZZ h1 h2];omega
   ·rw[ZmD (by simpa using e),Zgs _ hu.1]at h;simp at h;rw[←h];exact Za9 h1 h2 _
  ·simp only[show((12:Int)==3)=false from rfl,show((12:Int)==4)=false from rfl,show((12:Int)==5)=false from rfl,show((12:Int)==6)=false from rfl,show((12:Int)==7)=false from rfl,show((12:Int)==8)=false from rfl,show((12:Int)==9)=false from rfl,show((12:Int)==10)=false from rfl,show((12:Int)==11)=false from rfl,Zn7,ZmA,ZmI,ZmT]at h;by_cases e:b≥w
   ·simp[e]at h;rw[←h,ZZ h1 h2];omega
   ·rw[ZmD (by simpa using e),Zdl _ hu.1]at h;simp only[Zm9,Option.some.injEq]at h;have hp:(0:Int)<2^min b.toNat 64:=ZoL (by omega);rw[Zot _ (by omega)]at h;have q1:=Int.ediv_nonneg hv.1 (show(0:Int)≤2^min b.toNat 64 by omega);have q2:=Int.ediv_le_self (2^min b.toNat 64) hv.1;rw[ZZ h1 h2];omega
  ·simp only[Zbt,Zm9]at h;simp only[show((13:Int)==3)=false from rfl,show((13:Int)==4)=false from rfl,show((13:Int)==5)=false from rfl,show((13:Int)==6)=false from rfl,show((13:Int)==7)=false from rfl,show((13:Int)==8)=false from rfl,show((13:Int)==9)=false from rfl,show((13:Int)==10)=false from rfl,show((13:Int)==11)=false from rfl,show((13:Int)==12)=false from rfl,Zn7,ZmA,ZmI,ZmT]at h;rw[ZnG]at h;obtain⟨x,_,h⟩:=h;simp at h;rw[←h];exact Za9 h1 h2 _
 ·have:op=14∨op=15∨op=16:=by omega
  rcases this with rfl|rfl|rfl
  ·simp at h;rw[←h];exact by have:=ZeY (decide (a=b));simpa using this
  ·simp at h;rw[←h];exact by have:=ZeY (decide (a<b));simpa using this
  ·simp[Zbt]at h;rw[←h];exact by have:=ZeY (decide (signedOf w a<signedOf w b));simpa using this
theorem Zle{w a v b r:Int}(h:Xk w a v b=some r)(ha:wordB w a=true)(hb:wordB v b=true)(hs:w+v≤16):wordB (w+v) r=true:=by
 obtain⟨h1,h2⟩:=Yp ha;obtain⟨h3,h4⟩:=Yp hb;have hv:=(ZZ h1 h2 a).1 ha;have hu:=(ZZ h3 h4 b).1 hb;unfold Xk at h;simp only[Zct ha,Zct hb,Zm9,ZmH,ZmA,ZmI,Bool.or_self,ZmZ]at h;rw[Zm (by omega) (by omega),ZmD (by simp;omega),Zgs _ (by omega)]at h;have hm:min v.toNat 64=v.toNat:=by omega
 rw[hm]at h;obtain⟨p1,p2,p3⟩:=ZdS h1 h2;obtain⟨q1,q2,q3⟩:=ZdS h3 h4;obtain⟨s1,s2,s3⟩:=ZdS (w:=w+v) (by omega) hs;have hadd:(2:Int)^(w+v).toNat=2^w.toNat*2^v.toNat:=by
  rw[show(w+v).toNat=w.toNat+v.toNat by omega,Int.pow_add]
 have hbig:(2:Int)^(w+v).toNat≤65536:=by rw[s1];omega
 have hmul:(a+1)*2^v.toNat≤2^w.toNat*2^v.toNat:=Int.mul_le_mul_of_nonneg_right (by omega) (by omega);have hnn:0≤a*2^v.toNat:=Int.mul_nonneg hv.1 (by omega);rw[Int.add_mul,Int.one_mul]at hmul;rw[ZZ (by omega) hs,hadd];rw[hadd]at hbig;rw[Zm (x:=a*2^v.toNat) (by omega) (by omega)]at h;simp only[Zm9,Option.some.injEq]at h;rw[Zm (by omega) (by omega)]at h;omega
theorem Zmf{w a l n r:Int}(h:XJ w a l n=some r)(ha:wordB w a=true)(hl:0≤l)(hn:1≤n)(hs:l+n≤w):wordB n r=true:=by
 obtain⟨h1,h2⟩:=Yp ha;unfold XJ at h;simp only[Zct ha,Zm9,Yr]at h;rw[Zm (by omega) (by omega),ZmD (by simp;omega),Zdl _ hl]at h;simp only[Zm9,Option.some.injEq]at h;rw[←h];exact Za9 hn (by omega) _
theorem Zkf{w a n r:Int}{s:Bool}(h:Xi w a n s=some r)(ha:wordB w a=true)(hs:w≤n)(hn:n≤16):wordB n r=true:=by
 obtain⟨h1,h2⟩:=Yp ha;have hv:=(ZZ h1 h2 a).1 ha;unfold Xi at h;simp only[Zct ha,Zm9,Yr,Zbt]at h;rw[ZmD (by simp;omega)]at h;cases s
 ·simp at h;rw[←h,ZZ (by omega) hn];have:(2:Int)^n.toNat=2^w.toNat*2^(n-w).toNat:=by rw[←Int.pow_add];congr 1;omega
  have hp:(0:Int)<2^(n-w).toNat:=ZoL (by omega);have hp2:(0:Int)<2^w.toNat:=ZoL (by omega);have:=Int.mul_le_mul_of_nonneg_left (show(1:Int)≤2^(n-w).toNat by omega) (show(0:Int)≤2^w.toNat by omega);omega
 ·simp at h;rw[←h];exact Za9 (by omega) hn _
end Go.Proofs.YtbidabmbbieeiabGreatDoor
end
section
namespace Go.Proofs.YtbidabmbbieeiabGreatDoor
open Go.GL
set_option linter.unusedSimpArgs false
set_option maxRecDepth 100000
variable{fuel:Nat}[FU fuel]
theorem XE{op w m:Int}{nm:Str}{ks:List D.Term}(h:nodeB ⟨op,w,m,nm,ks⟩=true):(1≤w∧w≤16)∧((op=0∧ks=[]∧nm=⟨[]⟩∧wordB w m=true)∨(op=22∧ks=[]∧m=0)∨((op=1∨op=2)∧m=0∧nm=⟨[]⟩∧∃a,ks=[a]∧nodeB a=true∧a.W=w)∨(3≤op∧op≤16∧m=0∧nm=⟨[]⟩∧∃a b,ks=[a,b]∧nodeB a=true∧nodeB b=true∧a.W=b.W∧(op≤13→a.W=w)∧(14≤op→w=1))∨(op=17∧m=0∧nm=⟨[]⟩∧∃a b c,ks=[a,b,c]∧nodeB a=true∧nodeB b=true∧nodeB c=true∧a.W=1∧b.W=w∧c.W=w)∨(op=18∧m=0∧nm=⟨[]⟩∧∃a b,ks=[a,b]∧nodeB a=true∧nodeB b=true∧a.W+b.W=w)∨(op=19∧nm=⟨[]⟩∧0≤m∧m≤16∧∃a,ks=[a]∧nodeB a=true∧m+w≤a.W)∨((op=20∨op=21)∧m=0∧nm=⟨[]⟩∧∃a,ks=[a]∧nodeB a=true∧a.W≤w)):=by
 rw[Xx,ZmC]at h;obtain⟨h,hk⟩:=h;unfold locB at h;simp only[ZmC,ZmK,Zns,Zng,ZcW]at h;obtain⟨⟨⟨hw,hn⟩,hm⟩,h⟩:=h;refine⟨hw,?_⟩;simp only at hk;unfold shB at h;by_cases o0:op=0
 ·rw[ZmE o0]at h;simp only[ZmC,ZnJ,Zod]at h;exact .inl ⟨o0,h.1,by rcases hn with hn|hn;exact hn;omega,h.2⟩
 rw[ZmD o0]at h;by_cases o1:op=22
 ·rw[ZmE o1]at h;simp only[ZmC,ZnJ,Zod]at h;exact .inr (.inl ⟨o1,h.1,by omega⟩)
 rw[ZmD o1]at h;have hn:nm=⟨[]⟩:=by rcases hn with hn|hn;exact hn;exact absurd hn o1
 have hm:op≠19→m=0:=fun o=>by omega
 clear o0 o1;have k1:∀f:Int→Bool,(match ks.map (·.W)with|[a]=>f a|_=>false)=true→∃a,ks=[a]∧nodeB a=true∧f a.W=true:=fun f h=>by
  rcases ks with _|⟨a,_|⟨b,l⟩⟩<;>simp at h;rw[ZY]at hk;simp at hk;exact⟨a,rfl,hk,h⟩
 have k2:∀f:Int→Int→Bool,(match ks.map (·.W)with|[a,b]=>f a b|_=>false)=true→∃a b,ks=[a,b]∧nodeB a=true∧nodeB b=true∧f a.W b.W=true:=fun f h=>by
  rcases ks with _|⟨a,_|⟨b,_|⟨c,l⟩⟩⟩<;>simp at h;rw[ZY]at hk;simp at hk;exact⟨a,b,rfl,hk.1,hk.2,h⟩
 have k3:∀f:Int→Int→Int→Bool,(match ks.map (·.W)with|[a,b,c]=>f a b c|_=>false)=true→∃a b c,ks=[a,b,c]∧nodeB a=true∧nodeB b=true∧nodeB c=true∧f a.W b.W c.W=true:=fun f h=>by
  rcases ks with _|⟨a,_|⟨b,_|⟨c,_|⟨d,l⟩⟩⟩⟩<;>simp at h;rw[ZY]at hk;simp at hk;exact⟨a,b,c,rfl,hk.1,hk.2.1,hk.2.2,h⟩
 by_cases o2:1≤op∧op≤2
 ·rw[ZmE o2]at h;obtain⟨a,ha,hb,hf⟩:=k1 (fun a=>a==w) h;exact .inr (.inr (.inl ⟨by omega,hm (by omega),hn,a,ha,hb,by simpa using hf⟩))
 rw[ZmD o2]at h;by_cases o3:3≤op∧op≤13
 ·rw[ZmE o3]at h;obtain⟨a,b,ha,hb,hc,hf⟩:=k2 (fun a b=>a==w&&b==w) h;simp only[ZmC,Zng]at hf;exact .inr (.inr (.inr (.inl ⟨by omega,by omega,hm (by omega),hn,a,b,ha,hb,hc,by omega,by omega,by omega⟩)))
 rw[ZmD o3]at h;by_cases o4:14≤op∧op≤16
 ·rw[ZmE o4]at h;obtain⟨a,b,ha,hb,hc,hf⟩:=k2 (fun a b=>a==b&&w==1) h;simp only[ZmC,Zng]at hf;exact .inr (.inr (.inr (.inl ⟨by omega,by omega,hm (by omega),hn,a,b,ha,hb,hc,hf.1,by omega,by omega⟩)))
 rw[ZmD o4]at h;by_cases o5:op=17
 ·rw[ZmE o5]at h;obtain⟨a,b,c,ha,hb,hc,hd,hf⟩:=k3 (fun a b c=>a==1&&b==w&&c==w) h;simp only[ZmC,Zng]at hf;exact .inr (.inr (.inr (.inr (.inl ⟨o5,hm (by omega),hn,a,b,c,ha,hb,hc,hd,hf.1.1,hf.1.2,hf.2⟩))))
 rw[ZmD o5]at h;by_cases o6:op=18
 ·rw[ZmE o6]at h;obtain⟨a,b,ha,hb,hc,hf⟩:=k2 (fun a b=>a+b==w) h;exact .inr (.inr (.inr (.inr (.inr (.inl ⟨o6,hm (by omega),hn,a,b,ha,hb,hc,by simpa using hf⟩)))))
 rw[ZmD o6]at h;by_cases o7:op=19
 ·rw[ZmE o7]at h;obtain⟨a,ha,hb,hf⟩:=k1 (fun a=>decide (0≤m∧m≤16)&&decide (m+w≤a)) h;simp only[ZmC,ZmK]at hf;exact .inr (.inr (.inr (.inr (.inr (.inr (.inl ⟨o7,hn,hf.1.1,hf.1.2,a,ha,hb,hf.2⟩))))))
 rw[ZmD o7]at h;by_cases o8:20≤op∧op≤21
 ·rw[ZmE o8]at h;obtain⟨a,ha,hb,hf⟩:=k1 (fun a=>decide (a≤w)) h;exact .inr (.inr (.inr (.inr (.inr (.inr (.inr ⟨by omega,hm (by omega),hn,a,ha,hb,by simpa using hf⟩))))))
 rw[ZmD o8]at h;cases h
theorem ZaQ{w v:Int}(h:wordB w v=true):nodeB ⟨0,w,v,⟨[]⟩,[]⟩=true:=by
 obtain⟨h1,h2⟩:=Yp h;rw[Xx,ZY];simp[locB,shB,Za1,h,h1,h2]
theorem Zm3{op:Int}{a:D.Term}(ho:op=1∨op=2)(ha:nodeB a=true):nodeB ⟨op,a.W,0,⟨[]⟩,[a]⟩=true:=by
 have h1:=YM ha;rw[Xx,ZY];rcases ho with rfl|rfl<;>simp[locB,shB,Za1,ha,h1.1,h1.2]
theorem ZdW{op w:Int}{a b:D.Term}(h3:3≤op)(h16:op≤16)(ha:nodeB a=true)(hb:nodeB b=true)(hw:a.W=b.W)(h1:op≤13→a.W=w)(h2:14≤op→w=1):nodeB ⟨op,w,0,⟨[]⟩,[a,b]⟩=true:=by
 have g1:=YM ha;have g2:1≤w∧w≤16:=by omega
 rw[Xx,ZY];by_cases o:op≤13
 ·have e1:=h1 o;simp[locB,shB,Za1,ha,hb,g2.1,g2.2,e1,hw▸e1,show¬op=0 by omega,show¬op=22 by omega,show¬op≤2 by omega,h3,o]
 ·have e1:=h2 (by omega);simp[locB,shB,Za1,ha,hb,e1,hw,show¬op=0 by omega,show¬op=22 by omega,show¬op≤2 by omega,o,show 14≤op by omega,h16]
theorem ZlW{w:Int}{a b c:D.Term}(ha:nodeB a=true)(hb:nodeB b=true)(hc:nodeB c=true)(h1:a.W=1)(h2:b.W=w)(h3:c.W=w):nodeB ⟨17,w,0,⟨[]⟩,[a,b,c]⟩=true:=by
 have g2:=YM hb;rw[h2]at g2;rw[Xx,ZY];simp[locB,shB,Za1,ha,hb,hc,h1,h2,h3,g2.1,g2.2]
theorem Zc7{w m:Int}{a:D.Term}(ha:nodeB a=true)(h0:0≤m)(h1:1≤w)(h2:m+w≤a.W):nodeB ⟨19,w,m,⟨[]⟩,[a]⟩=true:=by
 have g:=YM ha;rw[Xx,ZY];simp[locB,shB,Za1,ha,h0,h1,h2,show w≤16 by omega,show m≤16 by omega]
theorem ZkW{op w:Int}{a:D.Term}(ho:op=20∨op=21)(ha:nodeB a=true)(h1:w≤16)(h2:a.W≤w):nodeB ⟨op,w,0,⟨[]⟩,[a]⟩=true:=by
 have g:=YM ha;rw[Xx,ZY];rcases ho with rfl|rfl<;>simp[locB,shB,Za1,ha,h1,h2,show 1≤w by omega]
theorem Xa{a:D.Term}(h:nodeB a=true)(ho:a.Op=0):a=⟨0,a.W,a.N,⟨[]⟩,[]⟩∧wordB a.W a.N=true:=by
 obtain⟨op,w,m,nm,ks⟩:=a;simp only at ho⊢;subst ho;obtain⟨_,hs⟩:=XE h;rcases hs with⟨_,rfl,rfl,hv⟩|hs|hs|hs|hs|hs|hs|hs
 ·exact⟨rfl,hv⟩
 all_goals(exfalso;have:=hs.1;omega)
theorem names:∀n:Nat,(∀t:D.Term,msz t<n→nodeB t=true→msz t≤11*cnt t)∧∀l:List D.Term,l.length+mszs l<n→nodesB l=true→mszs l≤11*cnts l:=by
 intro n
 induction n with
 |zero=>exact⟨fun _ h=>by omega,fun _ h=>by omega⟩
 | succ n ih=>
  have hl:∀l:List D.Term,l.length+mszs l<n+1→nodesB l=true→mszs l≤11*cnts l:=by
   intro l h hb;cases l with
   |nil=>rw[Zcp];omega
   |cons x l=>
    rw[Xr]at h⊢;rw[ZaB];rw[nodesB,ZmC]at hb;simp only[ZmX]at h;have h1:=ih.1 x (by omega) hb.1;have h2:=ih.2 l (by omega) hb.2;omega
  refine⟨fun t h hb=>?_,hl⟩;have hz:=ZaN t;have hc:=XT t;have hb':=hb;rw[Xx,ZmC]at hb';have h2:=hl t.Kids (by omega) hb'.2;have h3:t.Name.bytes.length≤8∧t.Kids.length≤3:=by
   have hk:=hb'.1;unfold locB at hk;simp only[ZmC,Zns,Zng,ZcW,ZmK]at hk;obtain⟨⟨⟨_,hn⟩,_⟩,hs⟩:=hk;refine⟨?_,?_⟩
   ·rcases hn with hn|hn
    ·rw[hn];simp
    ·unfold shB at hs;rw[ZmD (by omega),ZmE hn,ZmC]at hs;have:=hs.2;unfold nameB at this;simp only[ZmC,ZmK]at this;omega
   ·have:=Zjt hb'.1;rcases this with⟨_,e⟩|⟨_,e⟩|⟨_,a,e,_⟩|⟨_,_,a,b,e,_⟩|⟨_,a,b,c,e⟩|⟨_,a,b,e⟩|⟨_,_,_,a,e⟩|⟨_,a,e⟩<;>rw[e]<;>simp
  omega
theorem ZbL{t:D.Term}(h:nodeB t=true):msz t≤11*cnt t:=(names (msz t+1)).1 t (by omega) h
theorem Zi(w v:Int):ZL w v=some ⟨0,w,v,⟨[]⟩,[]⟩:=rfl
theorem ZX{w v:Int}(h:wordB w v=true):ZQ w v=some ⟨0,w,v,⟨[]⟩,[]⟩:=by unfold ZQ;rw[Zar,h];rfl
theorem Zdq{ks:List D.Term}{n:Nat}(hn:ks.length<n)(hk:ks.length≤1000):iterN (fun(s1:Bool×Int)=>if(decide (s1.2<(len ks)))then(if s1.1 then(get? ks s1.2)else some default).bind fun x1=>(if s1.1 then(Zb x1)else some default).bind fun x2=>some (.inl ((s1.1&&x2),(w64 (s1.2+1))))else some (.inr (s1.1))) n (true,0)=some (ks.all fun x=>x.Op==0):=by
 obtain⟨r,g1,g2⟩:=Yh (l:=ks) (n:=n) (σ:=Bool) (ρ:=Bool) (B:=fun(s1:Bool×Int)=>if(decide (s1.2<(len ks)))then(if s1.1 then(get? ks s1.2)else some default).bind fun x1=>(if s1.1 then(Zb x1)else some default).bind fun x2=>some (.inl ((s1.1&&x2),(w64 (s1.2+1))))else some (.inr (s1.1))) (fun k a=>(a,(k:Int))) (fun ys a=>(a&&ys.all fun x=>x.Op==0)=ks.all fun x=>x.Op==0) (fun r=>r=ks.all fun x=>x.Op==0)
  (fun k x xs a hk' hx hlen hi=>by
   have hd:decide ((k:Int)<len ks)=true:=by rw[Zf];simp;omega
   rw[Zon]at hi;refine .inl ⟨a&&x.Op==0,?_,by rw[←hi,Bool.and_assoc]⟩;simp only[hd,ZmT];cases a
   ·simp only[ZmA,ZmI,Zm9,Zn0];rw[Zm (by omega) (by omega)];rfl
   ·simp only[ZmT,get?_nat,hx,Zm9,Zb,Znk]
    rw[Zm (by omega) (by omega)];rfl)
  (fun a hi=>by
   have hd:decide ((ks.length:Int)<len ks)=false:=by rw[Zf];simp
   simp only[hd,ZmA,ZmI]
   exact⟨_,rfl,by simpa using hi⟩) (a:=true) rfl hn
 rw[show((0:Nat):Int)=0 from rfl]at g1;rw[g1,g2]
theorem Zfe{ks:List D.Term}{n:Nat}{b:Bool}(hn:ks.length<n)(hk:ks.length≤1000):iterN (fun(s1:Bool×Int×(List Int))=>if(decide (s1.2.1<(len ks)))then(get? ks s1.2.1).bind fun x1=>(app? s1.2.2 ([x1.N]:List Int)).bind fun x2=>some (.inl ((s1.1&&(x1.Op==0)),(w64 (s1.2.1+1)),x2))else some (.inr (s1.1,s1.2.2))) n (b,0,([]:List Int))=some ((b&&ks.all fun x=>x.Op==0),ks.map (·.N)):=by
 obtain⟨r,g1,g2⟩:=Yh (l:=ks) (n:=n) (σ:=Bool×List Int) (ρ:=Bool×List Int) (B:=fun(s1:Bool×Int×(List Int))=>if(decide (s1.2.1<(len ks)))then(get? ks s1.2.1).bind fun x1=>(app? s1.2.2 ([x1.N]:List Int)).bind fun x2=>some (.inl ((s1.1&&(x1.Op==0)),(w64 (s1.2.1+1)),x2))else some (.inr (s1.1,s1.2.2))) (fun k a=>(a.1,(k:Int),a.2)) (fun ys a=>(a.1&&ys.all fun x=>x.Op==0)=(b&&ks.all fun x=>x.Op==0)∧a.2++ys.map (·.N)=ks.map (·.N)) (fun r=>r=((b&&ks.all fun x=>x.Op==0),ks.map (·.N)))
  (fun k x xs a hk' hx hlen⟨hi,hj⟩=>by
   have hd:decide ((k:Int)<len ks)=true:=by rw[Zf];simp;omega
   rw[Zon]at hi;have hl:a.2.length≤1000:=by
    have:=congrArg List.length hj;simp at this;omega
   refine .inl ⟨(a.1&&x.Op==0,a.2++[x.N]),?_,by rw[←hi,Bool.and_assoc],by rw[←hj];simp⟩;simp only[hd,ZmT,get?_nat,hx,Zm9]
   rw[ZaO (by simp;omega),Zm (by omega) (by omega)];rfl)
  (fun a⟨hi,hj⟩=>by
   have hd:decide ((ks.length:Int)<len ks)=false:=by rw[Zf];simp
   simp only[hd,ZmA,ZmI];refine⟨_,rfl,?_⟩
   rw[←hi,←hj];simp) (a:=(b,[])) ⟨rfl,rfl⟩ hn
 rw[show((0:Nat):Int)=0 from rfl]at g1;rw[g1,g2]
theorem Zay(n:Nat)(w v:Int)(e:Option (List (Str×Int))):Z0 (n+1) ⟨0,w,v,⟨[]⟩,[]⟩ e=some v:=by simp[Z0]
theorem known{op w m:Int}{nm:Str}{ks:List D.Term}(h:nodeB ⟨op,w,m,nm,ks⟩=true)(hne:ks≠[])(hc:(ks.all fun x=>x.Op==0)=true):
  ∃v,wordB w v=true∧Ya ⟨op,w,m,nm,ks⟩ (ks.map (·.N))=some v∧∀n,2≤n→Z0 n ⟨op,w,m,nm,ks⟩ none=some v:=by
 obtain⟨⟨w1,w2⟩,h⟩:=XE h;rcases h with⟨_,h,_⟩|⟨_,h,_⟩|⟨ho,rfl,rfl,a,rfl,ha,rfl⟩|⟨o3,o16,rfl,rfl,a,b,rfl,ha,hb,hab,e1,e2⟩|⟨rfl,rfl,rfl,a,b,c,rfl,ha,hb,hcc,aw,bw,cw⟩|⟨rfl,rfl,rfl,a,b,rfl,ha,hb,hab⟩|⟨rfl,rfl,m0,m16,a,rfl,ha,haw⟩|⟨ho,rfl,rfl,a,rfl,ha,haw⟩
 ·exact absurd h hne
 ·exact absurd h hne
 ·simp at hc;obtain⟨ea,va⟩:=Xa ha hc;obtain⟨r,s1,s2⟩:=ZfB op a.W a.N;refine⟨r,Zmy s1 ho va,?_,fun n hn=>?_⟩
  ·unfold Ya;rw[Zk,show decide (1≤op∧op≤2)=true by simp;omega];simp[geti0,s1]
  ·obtain⟨n,rfl⟩:∃k,n=k+2:=⟨n-2,by omega⟩;have e3:Z0 (n+1) a none=some a.N:=by rw[ea];exact Zay n _ _ _
   rw[show n+2=(n+1)+1 from rfl];unfold Z0;rcases ho with rfl|rfl<;>simp[get0,e3,s2]
 ·simp at hc;obtain⟨ea,va⟩:=Xa ha hc.1;obtain⟨eb,vb⟩:=Xa hb hc.2;obtain⟨r,s1,s2⟩:=ZcB op a.W a.N b.N;have hr:=ZkK s1 va (hab▸vb);refine⟨r,?_,?_,fun n hn=>?_⟩
  ·by_cases o:op≤13
   ·rw[←e1 o];exact hr.1 ⟨o3,o⟩
   ·rw[e2 (by omega)];exact hr.2 ⟨by omega,o16⟩
  ·unfold Ya;rw[Zk,show decide (1≤op∧op≤2)=false by simp;omega,Zk,show decide (3≤op∧op≤16)=true by simp;omega];simp[get0,geti0,geti1,s1]
  ·obtain⟨n,rfl⟩:∃k,n=k+2:=⟨n-2,by omega⟩;have e3:Z0 (n+1) a none=some a.N:=by rw[ea];exact Zay n _ _ _
   have e4:Z0 (n+1) b none=some b.N:=by rw[eb];exact Zay n _ _ _
   rw[show n+2=(n+1)+1 from rfl];unfold Z0;simp[get0,get1,e3,e4,s2,show¬op=0 by omega,show¬op=22 by omega,show¬op=17 by omega,show¬op=1 by omega,show¬op=2 by omega,show¬op=19 by omega,show¬op=20 by omega,show¬op=21 by omega,show¬op=18 by omega]
 ·simp at hc;obtain⟨ea,va⟩:=Xa ha hc.1;obtain⟨eb,vb⟩:=Xa hb hc.2.1;obtain⟨ec,vc⟩:=Xa hcc hc.2.2;refine⟨if a.N=1 then b.N else c.N,?_,?_,fun n hn=>?_⟩
  ·split
   ·rw[←bw];exact vb
   ·rw[←cw];exact vc
  ·unfold Ya;rw[Zk,Zk];by_cases e:a.N=1<;>simp[geti0,geti1,geti2,e]
  ·obtain⟨n,rfl⟩:∃k,n=k+2:=⟨n-2,by omega⟩;have e3:Z0 (n+1) a none=some a.N:=by rw[ea];exact Zay n _ _ _
   have e4:Z0 (n+1) b none=some b.N:=by rw[eb];exact Zay n _ _ _
   have e5:Z0 (n+1) c none=some c.N:=by rw[ec];exact Zay n _ _ _
   rw[show n+2=(n+1)+1 from rfl];unfold Z0;by_cases e:a.N=1<;>simp[get0,get1,get2',e3,e4,e5,e]
 ·simp at hc;obtain⟨ea,va⟩:=Xa ha hc.1;obtain⟨eb,vb⟩:=Xa hb hc.2;obtain⟨r,s1,s2⟩:=Zgp a.W a.N b.W b.N;refine⟨r,by rw[←hab];exact Zle s1 va vb (by omega),?_,fun n hn=>?_⟩
  ·unfold Ya;rw[Zk,Zk];simp[get0,get1,geti0,geti1,s1]
  ·obtain⟨n,rfl⟩:∃k,n=k+2:=⟨n-2,by omega⟩;have e3:Z0 (n+1) a none=some a.N:=by rw[ea];exact Zay n _ _ _
   have e4:Z0 (n+1) b none=some b.N:=by rw[eb];exact Zay n _ _ _
   rw[show n+2=(n+1)+1 from rfl];unfold Z0;simp[get0,get1,e3,e4,s2]
 ·simp at hc;obtain⟨ea,va⟩:=Xa ha hc;obtain⟨r,s1,s2⟩:=ZhS (w:=a.W) (a:=a.N) (l:=m) (n:=w) (by omega) (by omega);refine⟨r,Zmf s1 va m0 w1 haw,?_,fun n hn=>?_⟩
  ·unfold Ya;rw[Zk,Zk];simp[get0,geti0,s1]
  ·obtain⟨n,rfl⟩:∃k,n=k+2:=⟨n-2,by omega⟩;have e3:Z0 (n+1) a none=some a.N:=by rw[ea];exact Zay n _ _ _
   rw[show n+2=(n+1)+1 from rfl];unfold Z0;simp[get0,e3,s2]
 ·simp at hc;obtain⟨ea,va⟩:=Xa ha hc;obtain⟨r,s1,s2⟩:=Zgu a.W a.N w (op==21);refine⟨r,Zkf s1 va haw w2,?_,fun n hn=>?_⟩
  ·unfold Ya;rw[Zk,show decide (1≤op∧op≤2)=false by simp;omega,Zk,show decide (3≤op∧op≤16)=false by simp;omega];rcases ho with rfl|rfl<;>simp at s1<;>simp[get0,geti0,s1]
  ·obtain⟨n,rfl⟩:∃k,n=k+2:=⟨n-2,by omega⟩;have e3:Z0 (n+1) a none=some a.N:=by rw[ea];exact Zay n _ _ _
   rw[show n+2=(n+1)+1 from rfl];unfold Z0;rcases ho with rfl|rfl<;>simp at s2<;>simp[get0,e3,s2]
end Go.Proofs.YtbidabmbbieeiabGreatDoor
end
section
namespace Go.Proofs.YtbidabmbbieeiabGreatDoor
open Go.GL
set_option linter.unusedSimpArgs false
set_option maxRecDepth 100000
variable{fuel:Nat}[FU fuel]
def runS(f:Nat→D.Term→Option D.Term)(k:Nat):D.Term⊕D.Term→Option D.Term
 |.inl r=>some r
 |.inr t=>f k t
def swp(t:D.Term):Nat:=match t.Kids with
 |[a,b]=>if 0<ctm a b then 1 else 0
 |_=>0
def mea(t:D.Term):Nat:=2*cnt t+swp t
theorem ZkI(t:D.Term):swp t≤1:=by
 unfold swp;split
 ·split<;>omega
 ·omega
def Good(t:D.Term):D.Term⊕D.Term→Prop
 |.inl r=>nodeB r=true∧r.W=t.W∧cnt r≤cnt t
 |.inr u=>nodeB u=true∧u.W=t.W∧cnt u≤cnt t∧mea u<mea t
theorem X7{t u:D.Term}(h:nodeB u=true)(hw:u.W=t.W)(hc:cnt u<cnt t):Good t (.inr u):=by
 have:=ZkI u;exact⟨h,hw,by omega,by unfold mea;omega⟩
def Stp(t:D.Term):Prop:=∃s,Good t s∧(∀k,1100000≤k→∃k',k≤k'∧ZF (k+8) t=runS ZF k' s)∧(∀k,1100000≤k→∃k',k≤k'∧Z4 (k+8) t=runS Z4 k' s)
theorem Stp.fin{t r:D.Term}(h:nodeB r=true)(hw:r.W=t.W)(hc:cnt r≤cnt t)(h1:∀k,1100000≤k→ZF (k+8) t=some r)(h2:∀k,1100000≤k→Z4 (k+8) t=some r):Stp t:=
 ⟨.inl r,⟨h,hw,hc⟩,fun k hk=>⟨k,ZmG _,h1 k hk⟩,fun k hk=>⟨k,ZmG _,h2 k hk⟩⟩
theorem Stp.go{t u:D.Term}(i j:Nat)(h:Good t (.inr u))(h1:∀k,1100000≤k→ZF (k+8) t=ZF (k+i) u)(h2:∀k,1100000≤k→Z4 (k+8) t=Z4 (k+j) u):Stp t:=
 ⟨.inr u,h,fun k hk=>⟨k+i,by omega,h1 k hk⟩,fun k hk=>⟨k+j,by omega,h2 k hk⟩⟩
theorem Ze{α:Type}(x:Option α):(x.bind fun y=>some y)=x:=by cases x<;>rfl
theorem Yy{k:Nat}{op w m:Int}{nm:Str}{ks:List D.Term}(hk:ks≠[])(hl:ks.length≤3)(hc:(ks.all fun x=>x.Op==0)=false):ZF (k+8) ⟨op,w,m,nm,ks⟩=
   if((op==1)||(op==2))then
    Xh ⟨op,w,m,nm,ks⟩
   else
    if(op==17)then
     Yk (k+7) ⟨op,w,m,nm,ks⟩
    else
     if(op==19)then
      ZV (k+7) ⟨op,w,m,nm,ks⟩
     else
      if((op==20)||(op==21))then
       Y8 (k+7) ⟨op,w,m,nm,ks⟩
      else
       if(op==18)then
        Y0 (k+7) ⟨op,w,m,nm,ks⟩
       else
        Za (k+7) ⟨op,w,m,nm,ks⟩:=by
 rw[show k+8=(k+7)+1 from rfl,ZF];simp only[Ze];rw[ZmD (by rw[Zf];simpa using hk),Zdq (by omega) (by omega),hc];simp only[Zm9,ZmA,ZmI]
theorem Yw{k:Nat}{op w m:Int}{nm:Str}{ks:List D.Term}(hl:ks.length≤3)(hc:(decide (len ks>0)&&ks.all fun x=>x.Op==0)=false):Z4 (k+8) ⟨op,w,m,nm,ks⟩=
  if decide (3≤op∧op≤16)then
   Zh (k+7) ⟨op,w,m,nm,ks⟩
  else
   if((op==1)||(op==2))then
    (get? ks 0).bind fun x7=>
    if(x7.Op==op)then
     (get? ks 0).bind fun x8=>
     get? x8.Kids 0
    else
     some ⟨op,w,m,nm,ks⟩
   else
    if(op==17)then
     YP (k+7) ⟨op,w,m,nm,ks⟩
    else
     if(op==19)then
      Y5 (k+7) ⟨op,w,m,nm,ks⟩
     else
      if ((op==20)||(op==21))then
       (get? ks 0).bind fun x12=>
       if(x12.W==w)then
        some x12
       else
        if(x12.Op==op)then
         Z4 (k+7) (D.Term.mk op w 0 ⟨[]⟩ x12.Kids)
        else
         some ⟨op,w,m,nm,ks⟩
      else
       if(op==18)then
        (get? ks 0).bind fun x14=>
        (get? ks 1).bind fun x15=>
        (if((x14.Op==19)&&(x15.Op==19))then(get? x14.Kids 0)else some default).bind fun x16=>
        (if((x14.Op==19)&&(x15.Op==19))then(get? x15.Kids 0)else some default).bind fun x17=>
        (if((x14.Op==19)&&(x15.Op==19))then(Yn (k+7) x16 x17)else some default).bind fun x18=>
        if((((x14.Op==19)&&(x15.Op==19))&&x18)&&(x14.N==(w64 (x15.N+x15.W))))then
         Z4 (k+7) (D.Term.mk 19 w x15.N ⟨[]⟩ x15.Kids)
        else
         some ⟨op,w,m,nm,ks⟩
       else
        some ⟨op,w,m,nm,ks⟩:=by
 rw[show k+8=(k+7)+1 from rfl,Z4];simp only[Ze,Zk];rw[Zfe (by omega) (by omega),hc];simp only[Zm9,ZmA,ZmI]
theorem ZfT{op w m:Int}{nm:Str}(h:nodeB ⟨op,w,m,nm,[]⟩=true)(ho:op=0∨op=22):Stp ⟨op,w,m,nm,[]⟩:=by
 refine .fin h rfl (ZmG _) (fun k hk=>?_) (fun k hk=>?_)
 ·rw[show k+8=(k+7)+1 from rfl,ZF,ZmE (by rfl)]
 ·rw[Yw (by simp) (by rfl)];rcases ho with rfl|rfl<;>simp
theorem Zh2{op w m:Int}{nm:Str}{ks:List D.Term}(h:nodeB ⟨op,w,m,nm,ks⟩=true)(hne:ks≠[])(hl:ks.length≤3)(hc:(ks.all fun x=>x.Op==0)=true):Stp ⟨op,w,m,nm,ks⟩:=by
 obtain⟨v,hv,h1,h2⟩:=known h hne hc;refine .fin (ZaQ hv) rfl (by rw[XT,XT];simp only[XN];omega) (fun k hk=>?_) (fun k hk=>?_)
 ·rw[show k+8=(k+7)+1 from rfl,ZF];rw[ZmD (by rw[Zf];simpa using hne),Zdq (ks:=ks) (n:=k+7) (by omega) (by omega),hc];simp only[Zm9,ZmT,h2 (k+7) (by omega),ZX hv]
 ·rw[show k+8=(k+7)+1 from rfl,Z4];have hd:decide (len ks>0)=true:=by
   rw[Zf];simp only[ZmK];rcases ks with _|⟨x,l⟩
   ·exact absurd rfl hne
   ·simp
  rw[Zfe (ks:=ks) (n:=k+7) (by omega) (by omega),hc,hd];simp only[Zm9,ZnN,ZmT,h1,Zi]
theorem cnt1(op w m:Int)(nm:Str)(a:D.Term):cnt ⟨op,w,m,nm,[a]⟩=1+cnt a:=by rw[XT];simp only[ZaB,XN];omega
theorem cnt2(op w m:Int)(nm:Str)(a b:D.Term):cnt ⟨op,w,m,nm,[a,b]⟩=1+cnt a+cnt b:=by rw[XT];simp only[ZaB,XN];omega
theorem cnt3(op w m:Int)(nm:Str)(a b c:D.Term):cnt ⟨op,w,m,nm,[a,b,c]⟩=1+cnt a+cnt b+cnt c:=by rw[XT];simp only[ZaB,XN];omega
theorem cnt0(w v:Int):cnt ⟨0,w,v,⟨[]⟩,[]⟩=1:=by rw[XT];simp only[XN]
theorem ZbQ(t:D.Term):1≤cnt t:=by rw[XT];omega
theorem Zgi{op w:Int}{a:D.Term}(ho:op=1∨op=2)(ha:nodeB a=true)(hw:a.W=w):nodeB ⟨op,w,0,⟨[]⟩,[a]⟩=true:=hw▸Zm3 ho ha
theorem Zl7{op w:Int}{a:D.Term}(ho:op=1∨op=2)(ha:nodeB a=true)(hw:a.W=w)(hc:(a.Op==0)=false):Stp ⟨op,w,0,⟨[]⟩,[a]⟩:=by
 have ho':((op==1)||(op==2))=true:=by simpa using ho
 have hn:decide (3≤op∧op≤16)=false:=by simp;omega
 by_cases e:a.Op=op
 ·obtain⟨aop,aw,am,anm,aks⟩:=a;simp only at e hw hc;subst e hw;obtain⟨_,hs⟩:=XE ha;obtain⟨c,rfl,hcc,hcw⟩:∃c,aks=[c]∧nodeB c=true∧c.W=aw:=by
   rcases hs with h|h|⟨_,_,_,c,h,h2,h3⟩|h|h|h|h|h
   ·exfalso;have:=h.1;omega
   ·exfalso;have:=h.1;omega
   ·exact⟨c,h,h2,h3⟩
   all_goals(exfalso;have:=h.1;omega)
  refine .fin hcc hcw (by rw[cnt1,cnt1];omega) (fun k hk=>?_) (fun k hk=>?_)
  ·rw[Yy (by simp) (by simp) (by simp[hc]),ZmE ho'];simp[Xh,get0]
  ·rw[Yw (by simp) (by simp[hc]),hn,ho'];simp[get0]
 ·have e':(a.Op==op)=false:=by simpa using e
  refine .fin (Zgi ho ha hw) rfl (ZmG _) (fun k hk=>?_) (fun k hk=>?_)
  ·rw[Yy (by simp) (by simp) (by simp[hc]),ZmE ho'];simp[Xh,get0,e]
  ·rw[Yw (by simp) (by simp[hc]),hn,ho'];simp[get0,e]
theorem Zgl{a:D.Term}(h:nodeB a=true)(ho:a.Op=19):∃c,a=⟨19,a.W,a.N,⟨[]⟩,[c]⟩∧nodeB c=true∧0≤a.N∧a.N≤16∧a.N+a.W≤c.W:=by
 obtain⟨aop,aw,am,anm,aks⟩:=a;simp only at ho;subst ho;obtain⟨_,hs⟩:=XE h;rcases hs with h|h|h|h|h|h|⟨_,rfl,h0,h1,c,rfl,h2,h3⟩|h
 ·exfalso;have:=h.1;omega
 ·exfalso;have:=h.1;omega
 ·exfalso;have:=h.1;omega
 ·exfalso;have:=h.2.1;omega
 ·exfalso;have:=h.1;omega
 ·exfalso;have:=h.1;omega
 ·exact⟨c,rfl,h2,h0,h1,h3⟩
 ·exfalso;have:=h.1;omega
theorem Zi2{a:D.Term}{op:Int}(h:nodeB a=true)(ho:a.Op=op)(hop:op=20∨op=21):∃c,a=⟨op,a.W,0,⟨[]⟩,[c]⟩∧nodeB c=true∧c.W≤a.W:=by
 obtain⟨aop,aw,am,anm,aks⟩:=a;simp only at ho;subst ho;obtain⟨_,hs⟩:=XE h;rcases hs with h|h|h|h|h|h|h|⟨_,rfl,rfl,c,rfl,h2,h3⟩
 ·exfalso;have:=h.1;omega
 ·exfalso;have:=h.1;omega
 ·exfalso;have:=h.1;omega
 ·exfalso;have:=h.2.1;omega
 ·exfalso;have:=h.1;omega
 ·exfalso;have:=h.1;omega
 ·exfalso;have:=h.1;omega
 ·exact⟨c,rfl,h2,h3⟩
theorem ZlG{a:D.Term}(h:nodeB a=true)(ho:a.Op=1):∃c,a=⟨1,a.W,0,⟨[]⟩,[c]⟩∧nodeB c=true∧c.W=a.W:=by
 obtain⟨aop,aw,am,anm,aks⟩:=a;simp only at ho;subst ho;obtain⟨_,hs⟩:=XE h;rcases hs with h|h|⟨_,rfl,rfl,c,rfl,h2,h3⟩|h|h|h|h|h
 ·exfalso;have:=h.1;omega
 ·exfalso;have:=h.1;omega
 ·exact⟨c,rfl,h2,h3⟩
 ·exfalso;have:=h.1;omega
 ·exfalso;have:=h.1;omega
 ·exfalso;have:=h.1;omega
 ·exfalso;have:=h.1;omega
 ·exfalso;have:=h.1;omega
theorem ZkJ{a:D.Term}(h:nodeB a=true)(ho:a.Op=18):∃b c,a=⟨18,a.W,0,⟨[]⟩,[b,c]⟩∧nodeB b=true∧nodeB c=true∧b.W+c.W=a.W:=by
 obtain⟨aop,aw,am,anm,aks⟩:=a;simp only at ho;subst ho;obtain⟨_,hs⟩:=XE h;rcases hs with h|h|h|h|h|⟨_,rfl,rfl,b,c,rfl,h2,h3,h4⟩|h|h
 ·exfalso;have:=h.1;omega
 ·exfalso;have:=h.1;omega
 ·exfalso;have:=h.1;omega
 ·exfalso;have:=h.2.1;omega
 ·exfalso;have:=h.1;omega
 ·exact⟨b,c,rfl,h2,h3,h4⟩
 ·exfalso;have:=h.1;omega
 ·exfalso;have:=h.1;omega
theorem Zl3{a:D.Term}{op:Int}(h:nodeB a=true)(ho:a.Op=op)(h3:3≤op)(h16:op≤16):∃b c,a=⟨op,a.W,0,⟨[]⟩,[b,c]⟩∧nodeB b=true∧nodeB c=true∧b.W=c.W∧(op≤13→b.W=a.W):=by
 obtain⟨aop,aw,am,anm,aks⟩:=a;simp only at ho;subst ho;obtain⟨_,hs⟩:=XE h;rcases hs with h|h|h|⟨_,_,rfl,rfl,b,c,rfl,h2,h3,h4,h5,h6⟩|h|h|h|h
 ·exfalso;have:=h.1;omega
 ·exfalso;have:=h.1;omega
 ·exfalso;have:=h.1;omega
 ·exact⟨b,c,rfl,h2,h3,h4,h5⟩
 ·exfalso;have:=h.1;omega
 ·exfalso;have:=h.1;omega
 ·exfalso;have:=h.1;omega
 ·exfalso;have:=h.1;omega
theorem ZkV{op w:Int}{a:D.Term}(ho:op=20∨op=21)(ha:nodeB a=true)(hw:a.W≤w)(h16:w≤16)(hc:(a.Op==0)=false):Stp ⟨op,w,0,⟨[]⟩,[a]⟩:=by
 have n1:((op==1)||(op==2))=false:=by simp;omega
 have n2:(op==17)=false:=by simp;omega
 have n3:(op==19)=false:=by simp;omega
 have n4:((op==20)||(op==21))=true:=by simpa using ho
 have hn:decide (3≤op∧op≤16)=false:=by simp;omega
 by_cases e1:a.W=w
 ·refine .fin ha e1 (by rw[cnt1];omega) (fun k hk=> ?_) (fun k hk=> ?_)
  ·rw[Yy (by simp) (by simp) (by simp[hc]),n1,n2,n3,n4];simp[Y8,get0,e1]
  ·rw[Yw (by simp) (by simp[hc]),hn,n1,n2,n3,n4];simp[get0,e1]
 by_cases e2:a.Op=op
 ·obtain⟨c,ea,hcc,hcw⟩:=Zi2 ha e2 ho;refine .go 5 7 (u:=⟨op,w,0,⟨[]⟩,[c]⟩) (X7 (ZkW ho hcc h16 (by omega)) rfl (by rw[ea,cnt1,cnt1,cnt1];omega)) (fun k hk=>?_) (fun k hk=>?_)
  ·rw[Yy (by simp) (by simp) (by simp[hc]),n1,n2,n3,n4];have ek:a.Kids=[c]:=by rw[ea]
   simp[Y8,Zp,Ze,get0,show¬w=a.W by omega,e2,ek]
  ·rw[Yw (by simp) (by simp[hc]),hn,n1,n2,n3,n4];have ek:a.Kids=[c]:=by rw[ea]
   simp[get0,e1,e2,ek]
 ·refine .fin (ZkW ho ha h16 hw) rfl (ZmG _) (fun k hk=> ?_) (fun k hk=> ?_)
  ·rw[Yy (by simp) (by simp) (by simp[hc]),n1,n2,n3,n4];simp[Y8,get0,show¬w=a.W by omega,e2]
  ·rw[Yw (by simp) (by simp[hc]),hn,n1,n2,n3,n4];simp[get0,e1,e2]
theorem ZjM{w m:Int}{a:D.Term}(ha:nodeB a=true)(h0:0≤m)(hm:m≤16)(h1:1≤w)(hw:m+w≤a.W)(hc:(a.Op==0)=false):Stp ⟨19,w,m,⟨[]⟩,[a]⟩:=by
 have g:=YM ha;by_cases e1:w=a.W
 ·have e0:m=0:=by omega
  refine .fin ha e1.symm (by rw[cnt1];omega) (fun k hk=>?_) (fun k hk=>?_)
  ·rw[Yy (by simp) (by simp) (by simp[hc])];simp[ZV,get0,e1,e0]
  ·rw[Yw (by simp) (by simp[hc])];simp[Y5,get0,e1]
 by_cases e2:a.Op=19
 ·obtain⟨c,ea,hcc,b0,b16,hcw⟩:=Zgl ha e2;have gc:=YM hcc;have ek:a.Kids=[c]:=by rw[ea]
  refine .go 5 5 (u:=⟨19,w,m+a.N,⟨[]⟩,[c]⟩) (X7 (Zc7 hcc (by omega) h1 (by omega)) rfl (by rw[ea,cnt1,cnt1,cnt1];omega)) (fun k hk=>?_) (fun k hk=>?_)
  ·rw[Yy (by simp) (by simp) (by simp[hc])];simp[ZV,Zp,Ze,get0,e1,e2,ek,Zm (x:=m+a.N) (by omega) (by omega)]
  ·rw[Yw (by simp) (by simp[hc])];simp[Y5,Yz,Ze,get0,e1,e2,ek,Zm (x:=m+a.N) (by omega) (by omega)]
 have w1:w64 (m+w)=m+w:=Zm (by omega) (by omega);by_cases e3:a.Op=18
 ·obtain⟨b,c,ea,hb,hcc,hbc⟩:=ZkJ ha e3;have gb:=YM hb;have gc:=YM hcc;have ek:a.Kids=[b,c]:=by rw[ea]
  by_cases e4:m+w≤c.W
  ·refine .go 5 5 (u:=⟨19,w,m,⟨[]⟩,[c]⟩) (X7 (Zc7 hcc h0 h1 e4) rfl (by rw[ea,cnt1,cnt1,cnt2];omega)) (fun k hk=> ?_) (fun k hk=> ?_)
   ·rw[Yy (by simp) (by simp) (by simp[hc])];simp[ZV,Zp,Ze,get0,get1,e1,e3,ek,w1,e4]
   ·rw[Yw (by simp) (by simp[hc])];simp[Y5,Yz,Ze,get0,get1,e1,e3,ek,w1,e4]
  by_cases e5:c.W≤m
  ·have w2:w64 (m-c.W)=m-c.W:=Zm (by omega) (by omega);refine .go 5 5 (u:=⟨19,w,m-c.W,⟨[]⟩,[b]⟩) (X7 (Zc7 hb (by omega) h1 (by omega)) rfl (by rw[ea,cnt1,cnt1,cnt2];omega)) (fun k hk=>?_) (fun k hk=>?_)
   ·rw[Yy (by simp) (by simp) (by simp[hc])];simp[ZV,Zp,Ze,get0,get1,e1,e3,ek,w1,e4,e5,w2]
   ·rw[Yw (by simp) (by simp[hc])];simp[Y5,Yz,Ze,get0,get1,e1,e3,ek,w1,e4,e5,w2]
  ·refine .fin (Zc7 ha h0 h1 hw) rfl (ZmG _) (fun k hk=> ?_) (fun k hk=> ?_)
   ·rw[Yy (by simp) (by simp) (by simp[hc])];simp[ZV,Zp,Ze,get0,get1,e1,e3,ek,w1,e4,e5]
   ·rw[Yw (by simp) (by simp[hc])];simp[Y5,Yz,Ze,get0,get1,e1,e3,ek,w1,e4,e5,Zk]
 by_cases e6:a.Op=20∨a.Op=21
 ·obtain⟨c,ea,hcc,hcw⟩:=Zi2 ha rfl e6;have gc:=YM hcc;have ek:a.Kids=[c]:=by rw[ea]
  have e7:20≤a.Op∧a.Op≤21:=by omega
  have e8:(a.Op==20||a.Op==21)=true:=by simpa using e6
  by_cases e4:m+w≤c.W
  ·refine .go 5 5 (u:=⟨19,w,m,⟨[]⟩,[c]⟩) (X7 (Zc7 hcc h0 h1 e4) rfl (by rw[ea,cnt1,cnt1,cnt1];omega)) (fun k hk=> ?_) (fun k hk=> ?_)
   ·rw[Yy (by simp) (by simp) (by simp[hc])];simp[ZV,Zp,Ze,get0,get1,e1,e2,e3,e6,ek,w1,e4]
   ·rw[Yw (by simp) (by simp[hc])];simp only[Y5,Yz,Ze,Zk];simp[get0,get1,e1,e2,e3,ek,w1,e4,e7.1,e7.2]
  ·refine .fin (Zc7 ha h0 h1 hw) rfl (ZmG _) (fun k hk=> ?_) (fun k hk=> ?_)
   ·rw[Yy (by simp) (by simp) (by simp[hc])];simp[ZV,Zp,Ze,get0,get1,e1,e2,e3,e6,ek,w1,e4]
   ·rw[Yw (by simp) (by simp[hc])];simp only[Y5,Yz,Ze,Zk];simp[get0,get1,e1,e2,e3,ek,w1,e4,e7.1,e7.2]
 ·have e7:¬(20≤a.Op∧a.Op≤21):=by omega
  refine .fin (Zc7 ha h0 h1 hw) rfl (ZmG _) (fun k hk=>?_) (fun k hk=>?_)
  ·rw[Yy (by simp) (by simp) (by simp[hc])];simp[ZV,Zp,Ze,get0,get1,e1,e2,e3,e6]
  ·rw[Yw (by simp) (by simp[hc])];simp only[Y5,Yz,Ze,Zk];simp[get0,get1,e1,e2,e3,e7]
theorem Zgv{w:Int}{a b:D.Term}(ha:nodeB a=true)(hb:nodeB b=true)(hw:a.W+b.W=w)(h16:w≤16):nodeB ⟨18,w,0,⟨[]⟩,[a,b]⟩=true:=by
 have g1:=YM ha;have g2:=YM hb;rw[Xx,ZY];simp[locB,shB,Za1,ha,hb,hw,h16,show 1≤w by omega]
theorem Zjl{w:Int}{a b:D.Term}(ha:nodeB a=true)(hb:nodeB b=true)(hw:a.W+b.W=w)(h16:w≤16)(hc:(a.Op==0&&b.Op==0)=false)(hn:cnt a≤240):Stp ⟨18,w,0,⟨[]⟩,[a,b]⟩:=by
 have hc':([a,b].all fun x=>x.Op==0)=false:=by simpa using hc
 have ga:=YM ha;have gb:=YM hb;by_cases e1:a.Op=19∧b.Op=19
 ·obtain⟨c,ea,hcc,a0,a16,hcw⟩:=Zgl ha e1.1;obtain⟨d,eb,hd,b0,b16,hdw⟩:=Zgl hb e1.2;have gc:=YM hcc;have gd:=YM hd;have eka:a.Kids=[c]:=by rw[ea]
  have ekb:b.Kids=[d]:=by rw[eb]
  have w1:w64 (b.N+b.W)=b.N+b.W:=Zm (by omega) (by omega);have hcn:cnt c≤240:=by rw[ea,cnt1]at hn;omega
  have hmc:=ZbL hcc;have i2:∀k,1100000≤k→Yj (k+6) c d=some (ctm c d==0):=fun k hk=>Zb8 (by omega) (by omega);have s2:∀k,1100000≤k→Yn (k+7) c d=some (ctm c d==0):=fun k hk=>ZbB (by omega) (by omega);by_cases e2:a.N=b.N+b.W
  ·by_cases e3:ctm c d=0
   ·have hcd:c.W=d.W:=by
     rw[ZcG]at e3;by_cases q1:sg c.Op d.Op=0
     ·by_cases q2:sg c.W d.W=0
      ·unfold sg at q2;split at q2<;>(try split at q2)<;>omega
      ·simp[q1,q2]at e3
     ·simp[q1]at e3
    refine .go 5 7 (u:=⟨19,w,b.N,⟨[]⟩,[d]⟩) (X7 (Zc7 hd b0 (by omega) (by omega)) rfl (by rw[ea,eb,cnt1,cnt2,cnt1,cnt1];omega)) (fun k hk=>?_) (fun k hk=>?_)
    ·rw[Yy (by simp) (by simp) hc'];simp[Y0,Zp,Ze,get0,get1,e1.1,e1.2,eka,ekb,w1,e2,i2 k hk,e3]
    ·rw[Yw (by simp) (by rw[hc'];simp)];simp[get0,get1,e1.1,e1.2,eka,ekb,w1,e2,s2 k hk,e3]
   ·refine .fin (Zgv ha hb hw h16) rfl (ZmG _) (fun k hk=> ?_) (fun k hk=> ?_)
    ·rw[Yy (by simp) (by simp) hc'];simp[Y0,Zp,Ze,get0,get1,e1.1,e1.2,eka,ekb,w1,e2,i2 k hk,e3]
    ·rw[Yw (by simp) (by rw[hc'];simp)];simp[get0,get1,e1.1,e1.2,eka,ekb,w1,e2,s2 k hk,e3]
  ·refine .fin (Zgv ha hb hw h16) rfl (ZmG _) (fun k hk=> ?_) (fun k hk=> ?_)
   ·rw[Yy (by simp) (by simp) hc'];simp[Y0,Zp,Ze,get0,get1,e1.1,e1.2,eka,ekb,w1,e2]
   ·rw[Yw (by simp) (by rw[hc'];simp)];simp[get0,get1,e1.1,e1.2,eka,ekb,w1,e2,s2 k hk]
 ·have e2:(a.Op==19&&b.Op==19)=false:=by
   cases h:(a.Op==19&&b.Op==19)
   ·rfl
   ·rw[ZmC,Zng,Zng]at h;exact absurd h e1
  refine .fin (Zgv ha hb hw h16) rfl (ZmG _) (fun k hk=>?_) (fun k hk=>?_)
  ·rw[Yy (by simp) (by simp) hc'];simp only[Y0,get0,get1,Zm9,e2,Zn0,ZmA,ZmI];rfl
  ·rw[Yw (by simp) (by rw[hc'];simp)];simp only[get0,get1,Zm9,e2,Zn0,ZmA,ZmI];rfl
theorem Zlc{w:Int}{a b c:D.Term}(ha:nodeB a=true)(hb:nodeB b=true)(hcc:nodeB c=true)(h1:a.W=1)(h2:b.W=w)(h3:c.W=w)(hc:(a.Op==0&&(b.Op==0&&c.Op==0))=false)(hn:cnt b≤240):Stp ⟨17,w,0,⟨[]⟩,[a,b,c]⟩:=by
 have hc':([a,b,c].all fun x=>x.Op==0)=false:=by simpa using hc
 have gb:=YM hb;have pa:=ZbQ a;have pb:=ZbQ b;have pc:=ZbQ c;have hmb:=ZbL hb;have i2:∀k,1100000≤k→Yj (k+6) b c=some (ctm b c==0):=fun k hk=>Zb8 (by omega) (by omega);have s2:∀k,1100000≤k→Yn (k+6) b c=some (ctm b c==0):=fun k hk=>ZbB (by omega) (by omega);have me:=ZlW ha hb hcc h1 h2 h3;by_cases e1:a.Op=0
 ·obtain⟨ea,va⟩:=Xa ha e1;rw[h1]at va;have hv:=(ZZ (by omega) (by omega) a.N).1 va;have hv2:a.N=0∨a.N=1:=by
   have:(2:Int)^(1:Int).toNat=2:=rfl;omega
  rcases hv2 with e2|e2
  ·refine .fin hcc h3 (by rw[cnt3];omega) (fun k hk=> ?_) (fun k hk=> ?_)
   ·rw[Yy (by simp) (by simp) hc'];simp[Yk,Zq,Zb,get0,get1,get2',e1,e2]
   ·rw[Yw (by simp) (by rw[hc'];simp)];simp[YP,Zr,get0,get1,get2',e1,e2]
  ·refine .fin hb h2 (by rw[cnt3];omega) (fun k hk=> ?_) (fun k hk=> ?_)
   ·rw[Yy (by simp) (by simp) hc'];simp[Yk,Zq,Zb,get0,get1,get2',e1,e2]
   ·rw[Yw (by simp) (by rw[hc'];simp)];simp[YP,Zr,get0,get1,get2',e1,e2]
 by_cases e2:ctm b c=0
 ·refine .fin hb h2 (by rw[cnt3];omega) (fun k hk=> ?_) (fun k hk=> ?_)
  ·rw[Yy (by simp) (by simp) hc'];simp[Yk,Zq,Zb,get0,get1,get2',e1,i2 k hk,e2]
  ·rw[Yw (by simp) (by rw[hc'];simp)];simp[YP,Zr,get0,get1,get2',e1,s2 k hk,e2]
 by_cases e3:a.Op=1
 ·obtain⟨d,ea,hd,hdw⟩:=ZlG ha e3;have ek:a.Kids=[d]:=by rw[ea]
  refine .go 5 6 (u:=⟨17,w,0,⟨[]⟩,[d,c,b]⟩) (X7 (ZlW hd hcc hb (by omega) h3 h2) rfl (by rw[ea,cnt3,cnt3,cnt1];omega)) (fun k hk=>?_) (fun k hk=>?_)
  ·rw[Yy (by simp) (by simp) hc'];simp[Yk,Zp,Ze,Zq,Zb,get0,get1,get2',i2 k hk,e2,e3,ek]
  ·rw[Yw (by simp) (by rw[hc'];simp)];simp[YP,Ze,Zr,get0,get1,get2',s2 k hk,e2,e3,ek]
 by_cases e4:w=1;rotate_left
 ·refine .fin me rfl (ZmG _) (fun k hk=> ?_) (fun k hk=> ?_)
  ·rw[Yy (by simp) (by simp) hc'];simp[Yk,Zp,Ze,Zq,Zb,get0,get1,get2',i2 k hk,e1,e2,e3,e4]
  ·rw[Yw (by simp) (by rw[hc'];simp)];simp[YP,Ze,Zr,get0,get1,get2',s2 k hk,e1,e2,e3,e4]
 subst e4;by_cases e5:b.Op=0∧b.N=1∧c.Op=0∧c.N=0
 ·obtain⟨q1,q2,q3,q4⟩:=e5;refine .fin ha h1 (by rw[cnt3];omega) (fun k hk=>?_) (fun k hk=>?_)
  ·rw[Yy (by simp) (by simp) hc'];simp[Yk,Zp,Ze,Zq,Zb,get0,get1,get2',i2 k hk,e1,e2,e3,q1,q2,q3,q4]
  ·rw[Yw (by simp) (by rw[hc'];simp)];simp[YP,Ze,Zr,get0,get1,get2',s2 k hk,e1,e2,e3,q1,q2,q3,q4]
 by_cases e6:b.Op=0∧b.N=0∧c.Op=0∧c.N=1
 ·obtain⟨q1,q2,q3,q4⟩:=e6;refine .go 5 6 (u:=⟨1,1,0,⟨[]⟩,[a]⟩) (X7 (Zgi (.inl rfl) ha h1) rfl (by rw[cnt1,cnt3];omega)) (fun k hk=>?_) (fun k hk=>?_)
  ·rw[Yy (by simp) (by simp) hc'];simp[Yk,Zp,Ze,Zq,Zb,get0,get1,get2',i2 k hk,e1,e2,e3,q1,q2,q3,q4]
  ·rw[Yw (by simp) (by rw[hc'];simp)];simp[YP,Ze,Zr,get0,get1,get2',s2 k hk,e1,e2,e3,q1,q2,q3,q4]
 refine .fin me rfl (ZmG _) (fun k hk=>?_) (fun k hk=>?_)
 ·rw[Yy (by simp) (by simp) hc'];simp[Yk,Zp,Ze,Zq,Zb,get0,get1,get2',i2 k hk,e1,e2,e3];by_cases q1:b.Op=0<;>by_cases q2:c.Op=0<;>by_cases q3:b.N=0<;>by_cases q4:b.N=1<;>by_cases q5:c.N=0<;>by_cases q6:c.N=1<;>simp_all
 ·rw[Yw (by simp) (by rw[hc'];simp)];simp[YP,Ze,Zr,get0,get1,get2',s2 k hk,e1,e2,e3];by_cases q1:b.Op=0<;>by_cases q2:c.Op=0<;>by_cases q3:b.N=0<;>by_cases q4:b.N=1<;>by_cases q5:c.N=0<;>by_cases q6:c.N=1<;>simp_all
end Go.Proofs.YtbidabmbbieeiabGreatDoor
end
section
namespace Go.Proofs.YtbidabmbbieeiabGreatDoor
open Go.GL
set_option linter.unusedSimpArgs false
set_option maxRecDepth 100000
variable{fuel:Nat}[FU fuel]
theorem Zu{k:Nat}{op w:Int}{a b:D.Term}(h3:3≤op)(h16:op≤16)(hc:(a.Op==0&&b.Op==0)=false):ZF (k+8) ⟨op,w,0,⟨[]⟩,[a,b]⟩=Za (k+7) ⟨op,w,0,⟨[]⟩,[a,b]⟩:=by
 rw[Yy (by simp) (by simp) (by simpa using hc)];rw[show((op==1)||(op==2))=false by simp;omega,show(op==17)=false by simp;omega,show(op==19)=false by simp;omega,show((op==20)||(op==21))=false by simp;omega,show(op==18)=false by simp;omega];rfl
theorem Zv{k:Nat}{op w:Int}{a b:D.Term}(h3:3≤op)(h16:op≤16)(hc:(a.Op==0&&b.Op==0)=false):Z4 (k+8) ⟨op,w,0,⟨[]⟩,[a,b]⟩=Zh (k+7) ⟨op,w,0,⟨[]⟩,[a,b]⟩:=by
 rw[Yw (by simp) (by rw[show([a,b].all fun x=>x.Op==0)=false by simpa using hc];simp)];rw[show decide (3≤op∧op≤16)=true by simp;omega];rfl
theorem Zd8{w:Int}(h1:1≤w)(h2:w≤16):wordB w 0=true:=by
 obtain⟨p1,p2,p3⟩:=ZdS h1 h2;rw[ZZ h1 h2,p1];omega
theorem Zjr{op w:Int}{a b:D.Term}(ho:op=3∨op=5∨op=8∨op=9∨op=10∨op=14)(ha:nodeB a=true)(hb:nodeB b=true)(hw:a.W=b.W)(h1:op≤13→a.W=w)(h2:14≤op→w=1)
  (hc:(a.Op==0&&b.Op==0)=false)(hn:cnt a≤240)(hs:ctm a b=1):Stp ⟨op,w,0,⟨[]⟩,[a,b]⟩:=by
 have hma:=ZbL ha;have i1:∀k,1100000≤k→ZI (k+6) a b=some (ctm a b):=fun k hk=>ZcD _ _ _ (by omega) (by omega);have s1:∀k,1100000≤k→ZH (k+6) a b=some (ctm a b):=fun k hk=>ZcC _ _ _ (by omega) (by omega);refine .go 5 6 (u:=⟨op,w,0,⟨[]⟩,[b,a]⟩) ⟨ZdW (by omega) (by omega) hb ha hw.symm (fun o=>by have:=h1 o;omega) h2,rfl,by rw[cnt2,cnt2];omega,?_⟩ (fun k hk=>?_) (fun k hk=>?_)
 ·have e:ctm b a=-1:=by rw[ZlL,hs]
  unfold mea swp;rw[cnt2,cnt2];simp[e,hs];omega
 ·rw[Zu (by omega) (by omega) hc];rcases ho with rfl|rfl|rfl|rfl|rfl|rfl<;>simp[Za,Zp,Ze,Zd,get0,get1,i1 k hk,hs]
 ·rw[Zv (by omega) (by omega) hc];rcases ho with rfl|rfl|rfl|rfl|rfl|rfl<;>simp[Zh,Ze,get0,get1,s1 k hk,hs,Zk]
theorem ZbH{op w:Int}{a b:D.Term}(ho:op=3∨op=5∨op=8∨op=9∨op=10)(ha:nodeB a=true)(hb:nodeB b=true)(hw:a.W=b.W)(h1:a.W=w)
  (ha0:a.Op=0)(hb0:b.Op≠0)(hn:cnt a≤240)(hs:ctm a b≠1)(hs2:ctm a b≠0)
  (f1:∀k,1100000≤k→∃x,Zy (k+6) op w a b=some (x,false))(f2:∀k,1100000≤k→∃x,Z5 (k+6) ⟨op,w,0,⟨[]⟩,[a,b]⟩=some (x,false)):Stp ⟨op,w,0,⟨[]⟩,[a,b]⟩:=by
 have hma:=ZbL ha;have hc:(a.Op==0&&b.Op==0)=false:=by simp[hb0]
 have gt:¬0<ctm a b:=by have:=ZeI a b;omega
 have i1:∀k,1100000≤k→ZI (k+6) a b=some (ctm a b):=fun k hk=>ZcD _ _ _ (by omega) (by omega);have s1:∀k,1100000≤k→ZH (k+6) a b=some (ctm a b):=fun k hk=>ZcC _ _ _ (by omega) (by omega);have i2:∀k,1100000≤k→Yj (k+6) a b=some (ctm a b==0):=fun k hk=>Zb8 (by omega) (by omega);have s2:∀k,1100000≤k→Yn (k+6) a b=some (ctm a b==0):=fun k hk=>ZbB (by omega) (by omega);have me:nodeB ⟨op,w,0,⟨[]⟩,[a,b]⟩=true:=ZdW (by omega) (by omega) ha hb hw (fun _=>h1) (fun o=>by omega);obtain⟨ea,va⟩:=Xa ha ha0;by_cases e1:b.Op=op;rotate_left
 ·refine .fin me rfl (ZmG _) (fun k hk=> ?_) (fun k hk=> ?_)
  ·obtain⟨x,f⟩:=f1 k hk;rw[Zu (by omega) (by omega) hc];rcases ho with rfl|rfl|rfl|rfl|rfl<;>simp[Za,Ze,Zd,Zq,Zb,get0,get1,i1 k hk,i2 k hk,hs,hs2,ha0,hb0,f,e1]
  ·obtain⟨x,f⟩:=f2 k hk;rw[Zv (by omega) (by omega) hc];rcases ho with rfl|rfl|rfl|rfl|rfl<;>simp[Zh,Ze,Zr,get0,get1,s1 k hk,s2 k hk,gt,hs2,ha0,hb0,f,e1,Zk]
 obtain⟨c,d,eb,hcc,hd,hcd,hcw⟩:=Zl3 hb e1 (by omega) (by omega);have ekb:b.Kids=[c,d]:=by rw[eb]
 by_cases e2:c.Op=0;rotate_left
 ·refine .fin me rfl (ZmG _) (fun k hk=> ?_) (fun k hk=> ?_)
  ·obtain⟨x,f⟩:=f1 k hk;rw[Zu (by omega) (by omega) hc];rcases ho with rfl|rfl|rfl|rfl|rfl<;>simp[Za,Ze,Zd,Zq,Zb,get0,get1,i1 k hk,i2 k hk,hs,hs2,ha0,hb0,f,e1,ekb,e2]
  ·obtain⟨x,f⟩:=f2 k hk;rw[Zv (by omega) (by omega) hc];rcases ho with rfl|rfl|rfl|rfl|rfl<;>simp[Zh,Ze,Zr,get0,get1,s1 k hk,s2 k hk,gt,hs2,ha0,hb0,f,e1,Zk,ekb,e2]
 obtain⟨ec,vc⟩:=Xa hcc e2;obtain⟨r,q1,q2⟩:=ZcB op w a.N c.N;have vr:wordB w r=true:=(ZkK q1 (by rw[←h1];exact va) (by rw[←h1,hw,←hcw (by omega)];exact vc)).1 ⟨by omega,by omega⟩;have gw:=Yp vr
 refine .go 5 6 (u:=⟨op,w,0,⟨[]⟩,[⟨0,w,r,⟨[]⟩,[]⟩,d]⟩) (X7 (ZdW (by omega) (by omega) (ZaQ vr) hd (by show w=d.W;have:=hcw (by omega);omega) (fun _=>rfl) (fun o=>by omega)) rfl (by
  have pa:=ZbQ a;have pc:=ZbQ c
  rw[eb,cnt2,cnt2,cnt2,cnt0];omega)) (fun k hk=>?_) (fun k hk=>?_)
 ·obtain⟨x,f⟩:=f1 k hk;rw[Zu (by omega) (by omega) hc];rcases ho with rfl|rfl|rfl|rfl|rfl<;>simp[Za,Zp,Ze,Zd,Zq,Zb,get0,get1,i1 k hk,i2 k hk,hs,hs2,ha0,hb0,f,e1,ekb,e2,q2,ZX vr]
 ·obtain⟨x,f⟩:=f2 k hk;rw[Zv (by omega) (by omega) hc];rcases ho with rfl|rfl|rfl|rfl|rfl<;>simp[Zh,Ze,Zr,get0,get1,s1 k hk,s2 k hk,gt,hs2,ha0,hb0,f,e1,Zk,ekb,e2,q1,Zi]
theorem Zid{a:D.Term}(ha:nodeB a=true)(ha0:a.Op=0):∃o,Zbp a.W=some o∧ZaG a=some (a.N==o)∧1≤o∧wordB a.W o=true:=by
 have g:=YM ha;obtain⟨a1,a2,a3,a4,a5⟩:=Zbd g.1 g.2;refine⟨2^a.W.toNat-1,?_,?_,by omega,by rw[ZZ g.1 g.2];omega⟩
 ·unfold Zbp;rw[a2];simp only[Zm9];rw[a3]
 ·unfold ZaG;simp only[ha0,Zn7,ZmT,a1,Zm9,Znk];rw[a3]
theorem ZhG{op w:Int}{a b:D.Term}(ho:op=3∨op=5∨op=8∨op=9∨op=10∨op=14)(ha:nodeB a=true)(hb:nodeB b=true)(hw:a.W=b.W)(h1:op≤13→a.W=w)(h2:14≤op→w=1)
  (ha0:a.Op=0)(hb0:b.Op≠0)(hn:cnt a≤240)(hs:ctm a b≠1):Stp ⟨op,w,0,⟨[]⟩,[a,b]⟩:=by
 have hma:=ZbL ha;have hc:(a.Op==0&&b.Op==0)=false:=by simp[hb0]
 have gt:¬0<ctm a b:=by have:=ZeI a b;omega
 have hs2:ctm a b≠0:=fun e=>by
  rw[ZcG]at e;by_cases q:sg a.Op b.Op=0
  ·unfold sg at q;split at q<;>(try split at q)<;>omega
  ·simp[q]at e
 have i1:∀k,1100000≤k→ZI (k+6) a b=some (ctm a b):=fun k hk=>ZcD _ _ _ (by omega) (by omega);have s1:∀k,1100000≤k→ZH (k+6) a b=some (ctm a b):=fun k hk=>ZcC _ _ _ (by omega) (by omega);have i2:∀k,1100000≤k→Yj (k+6) a b=some (ctm a b==0):=fun k hk=>Zb8 (by omega) (by omega);have s2:∀k,1100000≤k→Yn (k+6) a b=some (ctm a b==0):=fun k hk=>ZbB (by omega) (by omega);have me:nodeB ⟨op,w,0,⟨[]⟩,[a,b]⟩=true:=ZdW (by omega) (by omega) ha hb hw h1 h2;obtain⟨o,o1,o2,o3,o4⟩:=Zid ha ha0;obtain⟨ea,va⟩:=Xa ha ha0;have ga:=YM ha;have tb:cnt b≤cnt ⟨op,w,0,⟨[]⟩,[a,b]⟩:=by rw[cnt2];omega
 have tc:∀v,cnt ⟨0,w,v,⟨[]⟩,[]⟩≤cnt ⟨op,w,0,⟨[]⟩,[a,b]⟩:=fun v=>by rw[cnt2,cnt0];omega
 have ea0:op≤13→a.N=0→a=⟨0,w,0,⟨[]⟩,[]⟩:=fun q e=>by rw[ea,e,h1 q]
 have eao:op≤13→a.N=o→a=⟨0,w,o,⟨[]⟩,[]⟩:=fun q e=>by rw[ea,e,h1 q]
 rcases ho with rfl|rfl|rfl|rfl|rfl|rfl
 ·by_cases e0:a.N=0
  ·refine .fin hb (by show b.W=w;have:=h1 (by omega);omega) tb (fun k hk=> ?_) (fun k hk=> ?_)
   ·rw[Zu (by omega) (by omega) hc];simp[Za,Zy,Zp,Ze,Zd,Zq,Zb,get0,get1,i1 k hk,i2 k hk,hs,hs2,ha0,hb0,o1,e0]
   ·rw[Zv (by omega) (by omega) hc];simp[Zh,Z5,Ze,Zr,Zi,get0,get1,s1 k hk,s2 k hk,gt,hs2,ha0,hb0,o2,Zk,e0]
  refine ZbH (by simp) ha hb hw (h1 (by omega)) ha0 hb0 hn hs hs2 (fun k hk=>?_) (fun k hk=>?_)
  ·exact⟨⟨0,0,0,⟨[]⟩,[]⟩,by simp[Zy,ha0,o1,e0]⟩
  ·exact⟨_,by simp[Z5,Zr,get0,get1,ha0,o2,e0];rfl⟩
 ·by_cases e0:a.N=1
  ·refine .fin hb (by show b.W=w;have:=h1 (by omega);omega) tb (fun k hk=> ?_) (fun k hk=> ?_)
   ·rw[Zu (by omega) (by omega) hc];simp[Za,Zy,Zp,Ze,Zd,Zq,Zb,get0,get1,i1 k hk,i2 k hk,hs,hs2,ha0,hb0,o1,e0]
   ·rw[Zv (by omega) (by omega) hc];simp[Zh,Z5,Ze,Zr,Zi,get0,get1,s1 k hk,s2 k hk,gt,hs2,ha0,hb0,o2,Zk,e0]
  by_cases e1:a.N=0
  ·refine .fin ha (h1 (by omega)) (by rw[cnt2];omega) (fun k hk=> ?_) (fun k hk=> ?_)
   ·rw[Zu (by omega) (by omega) hc];simp[Za,Zy,Zp,Ze,Zd,Zq,Zb,get0,get1,i1 k hk,i2 k hk,hs,hs2,ha0,hb0,o1,e0,e1,ZX (w:=w) (v:=0) (by have:=h1 (by omega);exact Zd8 (by omega) (by omega))];exact(ea0 (by omega) (by assumption)).symm
   ·rw[Zv (by omega) (by omega) hc];simp[Zh,Z5,Ze,Zr,Zi,get0,get1,s1 k hk,s2 k hk,gt,hs2,ha0,hb0,o2,Zk,e0,e1,ZX (w:=w) (v:=0) (by have:=h1 (by omega);exact Zd8 (by omega) (by omega))]
  refine ZbH (by simp) ha hb hw (h1 (by omega)) ha0 hb0 hn hs hs2 (fun k hk=>?_) (fun k hk=>?_)
  ·exact⟨⟨0,0,0,⟨[]⟩,[]⟩,by simp[Zy,ha0,o1,e0,e1]⟩
  ·exact⟨_,by simp[Z5,Zr,get0,get1,ha0,o2,e0,e1];rfl⟩
 ·by_cases e0:a.N=o
  ·refine .fin hb (by show b.W=w;have:=h1 (by omega);omega) tb (fun k hk=> ?_) (fun k hk=> ?_)
   ·rw[Zu (by omega) (by omega) hc];simp[Za,Zy,Zp,Ze,Zd,Zq,Zb,get0,get1,i1 k hk,i2 k hk,hs,hs2,ha0,hb0,o1,e0,show¬o=0 by omega]
   ·rw[Zv (by omega) (by omega) hc];simp[Zh,Z5,Ze,Zr,Zi,get0,get1,s1 k hk,s2 k hk,gt,hs2,ha0,hb0,o2,Zk,e0,show¬o=0 by omega]
  by_cases e1:a.N=0
  ·refine .fin ha (h1 (by omega)) (by rw[cnt2];omega) (fun k hk=> ?_) (fun k hk=> ?_)
   ·rw[Zu (by omega) (by omega) hc];simp[Za,Zy,Zp,Ze,Zd,Zq,Zb,get0,get1,i1 k hk,i2 k hk,hs,hs2,ha0,hb0,o1,e0,e1,ZX (w:=w) (v:=0) (by have:=h1 (by omega);exact Zd8 (by omega) (by omega)),show¬0=o by omega];exact(ea0 (by omega) (by assumption)).symm
   ·rw[Zv (by omega) (by omega) hc];simp[Zh,Z5,Ze,Zr,Zi,get0,get1,s1 k hk,s2 k hk,gt,hs2,ha0,hb0,o2,Zk,e0,e1,ZX (w:=w) (v:=0) (by have:=h1 (by omega);exact Zd8 (by omega) (by omega)),show¬0=o by omega]
  refine ZbH (by simp) ha hb hw (h1 (by omega)) ha0 hb0 hn hs hs2 (fun k hk=>?_) (fun k hk=>?_)
  ·exact⟨⟨0,0,0,⟨[]⟩,[]⟩,by simp[Zy,ha0,o1,e0,e1]⟩
  ·exact⟨_,by simp[Z5,Zr,get0,get1,ha0,o2,e0,e1];rfl⟩
 ·by_cases e0:a.N=0
  ·refine .fin hb (by show b.W=w;have:=h1 (by omega);omega) tb (fun k hk=> ?_) (fun k hk=> ?_)
   ·rw[Zu (by omega) (by omega) hc];simp[Za,Zy,Zp,Ze,Zd,Zq,Zb,get0,get1,i1 k hk,i2 k hk,hs,hs2,ha0,hb0,o1,e0]
   ·rw[Zv (by omega) (by omega) hc];simp[Zh,Z5,Ze,Zr,Zi,get0,get1,s1 k hk,s2 k hk,gt,hs2,ha0,hb0,o2,Zk,e0]
  by_cases e1:a.N=o
  ·refine .fin ha (h1 (by omega)) (by rw[cnt2];omega) (fun k hk=> ?_) (fun k hk=> ?_)
   ·rw[Zu (by omega) (by omega) hc];simp[Za,Zy,Zp,Ze,Zd,Zq,Zb,get0,get1,i1 k hk,i2 k hk,hs,hs2,ha0,hb0,o1,e0,e1,ZX (w:=w) (v:=o) (by have:=h1 (by omega);rw[←this];exact o4),show¬o=0 by omega];exact(eao (by omega) (by assumption)).symm
   ·rw[Zv (by omega) (by omega) hc];simp[Zh,Z5,Ze,Zr,Zi,get0,get1,s1 k hk,s2 k hk,gt,hs2,ha0,hb0,o2,Zk,e0,e1,ZX (w:=w) (v:=o) (by have:=h1 (by omega);rw[←this];exact o4),show¬o=0 by omega]
  refine ZbH (by simp) ha hb hw (h1 (by omega)) ha0 hb0 hn hs hs2 (fun k hk=>?_) (fun k hk=>?_)
  ·exact⟨⟨0,0,0,⟨[]⟩,[]⟩,by simp[Zy,ha0,o1,e0,e1]⟩
  ·exact⟨_,by simp[Z5,Zr,get0,get1,ha0,o2,e0,e1];rfl⟩
 ·by_cases e0:a.N=0
  ·refine .fin hb (by show b.W=w;have:=h1 (by omega);omega) tb (fun k hk=> ?_) (fun k hk=> ?_)
   ·rw[Zu (by omega) (by omega) hc];simp[Za,Zy,Zp,Ze,Zd,Zq,Zb,get0,get1,i1 k hk,i2 k hk,hs,hs2,ha0,hb0,o1,e0]
   ·rw[Zv (by omega) (by omega) hc];simp[Zh,Z5,Ze,Zr,Zi,get0,get1,s1 k hk,s2 k hk,gt,hs2,ha0,hb0,o2,Zk,e0]
  by_cases e1:a.N=o
  ·refine .go 4 5 (u:=⟨1,w,0,⟨[]⟩,[b]⟩) (X7 (Zgi (.inl rfl) hb (by have:=h1 (by omega);omega)) rfl (by have:=ZbQ a;rw[cnt1,cnt2];omega)) (fun k hk=> ?_) (fun k hk=> ?_)
   ·rw[Zu (by omega) (by omega) hc];simp[Za,Zy,Zp,Ze,Zd,Zq,Zb,get0,get1,i1 k hk,i2 k hk,hs,hs2,ha0,hb0,o1,e0,e1,show¬o=0 by omega];generalize ZF (k+4) _=z;cases z<;>simp
   ·rw[Zv (by omega) (by omega) hc];simp[Zh,Z5,Ze,Zr,Zi,get0,get1,s1 k hk,s2 k hk,gt,hs2,ha0,hb0,o2,Zk,e0,e1,show¬o=0 by omega];generalize Z4 (k+5) _=z;cases z<;>simp
  refine ZbH (by simp) ha hb hw (h1 (by omega)) ha0 hb0 hn hs hs2 (fun k hk=>?_) (fun k hk=>?_)
  ·exact⟨⟨0,0,0,⟨[]⟩,[]⟩,by simp[Zy,ha0,o1,e0,e1]⟩
  ·exact⟨_,by simp[Z5,Zr,get0,get1,ha0,o2,e0,e1];rfl⟩
 ·have hw1:=h2 (by omega);by_cases q:a.W=1
  ·rw[q]at va o1;have hv:=(ZZ (by omega) (by omega) a.N).1 va;have hv2:a.N=0∨a.N=1:=by
    have:(2:Int)^(1:Int).toNat=2:=rfl;omega
   rcases hv2 with e|e
   ·refine .go 4 5 (u:=⟨1,1,0,⟨[]⟩,[b]⟩) (X7 (Zgi (.inl rfl) hb (by omega)) hw1.symm (by have:=ZbQ a;rw[cnt1,cnt2];omega)) (fun k hk=> ?_) (fun k hk=> ?_)
    ·rw[Zu (by omega) (by omega) hc];simp[Za,Zy,Zp,Ze,Zd,Zq,Zb,get0,get1,i1 k hk,i2 k hk,hs,hs2,ha0,hb0,o1,e,q,hw1];generalize ZF (k+4) _=z;cases z<;>simp
    ·rw[Zv (by omega) (by omega) hc];simp[Zh,Z5,Ze,Zr,Zi,get0,get1,s1 k hk,s2 k hk,gt,hs2,ha0,hb0,o2,Zk,e,q,hw1];generalize Z4 (k+5) _=z;cases z<;>simp
   ·refine .fin hb (by show b.W=w;omega) tb (fun k hk=> ?_) (fun k hk=> ?_)
    ·rw[Zu (by omega) (by omega) hc];simp[Za,Zy,Zp,Ze,Zd,Zq,Zb,get0,get1,i1 k hk,i2 k hk,hs,hs2,ha0,hb0,o1,e,q]
    ·rw[Zv (by omega) (by omega) hc];simp[Zh,Z5,Ze,Zr,Zi,get0,get1,s1 k hk,s2 k hk,gt,hs2,ha0,hb0,o2,Zk,e,q]
  ·refine .fin me rfl (ZmG _) (fun k hk=> ?_) (fun k hk=> ?_)
   ·rw[Zu (by omega) (by omega) hc];simp[Za,Zy,Zp,Ze,Zd,Zq,Zb,get0,get1,i1 k hk,i2 k hk,hs,hs2,ha0,hb0,o1,q]
   ·rw[Zv (by omega) (by omega) hc];simp[Zh,Z5,Ze,Zr,Zi,get0,get1,s1 k hk,s2 k hk,gt,hs2,ha0,hb0,o2,Zk,q]
theorem ZgW{op w:Int}{a b:D.Term}(ho:op=4∨op=6∨op=7∨op=11∨op=12∨op=13∨op=15∨op=16)(ha:nodeB a=true)(hb:nodeB b=true)(hw:a.W=b.W)(h1:op≤13→a.W=w)(h2:14≤op→w=1)
  (ha0:a.Op=0)(hb0:b.Op≠0)(hn:cnt a≤240):Stp ⟨op,w,0,⟨[]⟩,[a,b]⟩:=by
 have hma:=ZbL ha;have hc:(a.Op==0&&b.Op==0)=false:=by simp[hb0]
 have hs2:ctm a b≠0:=fun e=>by
  rw[ZcG]at e;by_cases q:sg a.Op b.Op=0
  ·unfold sg at q;split at q<;>(try split at q)<;>omega
  ·simp[q]at e
 have i2:∀k,1100000≤k→Yj (k+6) a b=some (ctm a b==0):=fun k hk=>Zb8 (by omega) (by omega);have s2:∀k,1100000≤k→Yn (k+6) a b=some (ctm a b==0):=fun k hk=>ZbB (by omega) (by omega);have me:nodeB ⟨op,w,0,⟨[]⟩,[a,b]⟩=true:=ZdW (by omega) (by omega) ha hb hw h1 h2;obtain⟨o,o1,o2,o3,o4⟩:=Zid ha ha0;refine .fin me rfl (ZmG _) (fun k hk=>?_) (fun k hk=>?_)
 ·rw[Zu (by omega) (by omega) hc];rcases ho with rfl|rfl|rfl|rfl|rfl|rfl|rfl|rfl<;>simp[Za,Zy,Ze,Zd,Zq,Zb,get0,get1,i2 k hk,hs2,ha0,hb0,o1]
 ·rw[Zv (by omega) (by omega) hc];rcases ho with rfl|rfl|rfl|rfl|rfl|rfl|rfl|rfl<;>simp[Zh,Z5,Ze,Zr,get0,get1,s2 k hk,hs2,ha0,hb0,o2,Zk]
theorem ZfO{op w:Int}{a b:D.Term}(h3:3≤op)(h16:op≤16)(ha:nodeB a=true)(hb:nodeB b=true)(hw:a.W=b.W)(h1:op≤13→a.W=w)(h2:14≤op→w=1)
  (ha0:a.Op≠0)(hn:cnt a≤240)(hs:op=3∨op=5∨op=8∨op=9∨op=10∨op=14→ctm a b≠1):Stp ⟨op,w,0,⟨[]⟩,[a,b]⟩:=by
 have hma:=ZbL ha;have hc:(a.Op==0&&b.Op==0)=false:=by simp[ha0]
 have ga:=YM ha;have i1:∀k,1100000≤k→ZI (k+6) a b=some (ctm a b):=fun k hk=>ZcD _ _ _ (by omega) (by omega);have s1:∀k,1100000≤k→ZH (k+6) a b=some (ctm a b):=fun k hk=>ZcC _ _ _ (by omega) (by omega);have i2:∀k,1100000≤k→Yj (k+6) a b=some (ctm a b==0):=fun k hk=>Zb8 (by omega) (by omega);have s2:∀k,1100000≤k→Yn (k+6) a b=some (ctm a b==0):=fun k hk=>ZbB (by omega) (by omega);have me:nodeB ⟨op,w,0,⟨[]⟩,[a,b]⟩=true:=ZdW (by omega) (by omega) ha hb hw h1 h2;have hw1:1≤w∧w≤16:=by omega
 have hz:=Zd8 hw1.1 hw1.2;have ta:cnt a≤cnt ⟨op,w,0,⟨[]⟩,[a,b]⟩:=by rw[cnt2];omega
 have tc:∀v,cnt ⟨0,w,v,⟨[]⟩,[]⟩≤cnt ⟨op,w,0,⟨[]⟩,[a,b]⟩:=fun v=>by rw[cnt2,cnt0];omega
 have hop:op=3∨op=4∨op=5∨op=6∨op=7∨op=8∨op=9∨op=10∨op=11∨op=12∨op=13∨op=14∨op=15∨op=16:=by omega
 have gt:op=3∨op=5∨op=8∨op=9∨op=10∨op=14→¬0<ctm a b:=fun o=>by have:=ZeI a b;have:=hs o;omega
 by_cases z:b.Op=0∧b.N=0
 ·have c1:Zq b 0=some true:=by simp[Zq,z.1,z.2]
  have c2:Zr b 0=some true:=by simp[Zr,z.1,z.2]
  have hs2:ctm a b≠0:=fun e=>by
   rw[ZcG]at e;by_cases q:sg a.Op b.Op=0
   ·unfold sg at q;split at q<;>(try split at q)<;>omega
   ·simp[q]at e
  rcases hop with rfl|rfl|rfl|rfl|rfl|rfl|rfl|rfl|rfl|rfl|rfl|rfl|rfl|rfl
  ·refine .fin me rfl (ZmG _) (fun k hk=> ?_) (fun k hk=> ?_)
   ·rw[Zu (by omega) (by omega) hc];simp[Za,Ze,Zd,Zb,get0,get1,i1 k hk,i2 k hk,ha0,c1,hs2,hs (by simp)]
   ·rw[Zv (by omega) (by omega) hc];simp[Zh,Zj,Ze,Zi,get0,get1,s1 k hk,s2 k hk,ha0,c2,Zk,hs2,gt (by simp)]
  ·refine .fin ha (h1 (by omega)) ta (fun k hk=> ?_) (fun k hk=> ?_)
   ·rw[Zu (by omega) (by omega) hc];simp[Za,Ze,Zd,Zb,get0,get1,i1 k hk,i2 k hk,ha0,c1]
   ·rw[Zv (by omega) (by omega) hc];simp[Zh,Zj,Ze,Zi,get0,get1,s1 k hk,s2 k hk,ha0,c2,Zk]
  ·refine .fin me rfl (ZmG _) (fun k hk=> ?_) (fun k hk=> ?_)
   ·rw[Zu (by omega) (by omega) hc];simp[Za,Ze,Zd,Zb,get0,get1,i1 k hk,i2 k hk,ha0,c1,hs2,hs (by simp)]
   ·rw[Zv (by omega) (by omega) hc];simp[Zh,Zj,Ze,Zi,get0,get1,s1 k hk,s2 k hk,ha0,c2,Zk,hs2,gt (by simp)]
  ·refine .fin me rfl (ZmG _) (fun k hk=> ?_) (fun k hk=> ?_)
   ·rw[Zu (by omega) (by omega) hc];simp[Za,Ze,Zd,Zb,get0,get1,i1 k hk,i2 k hk,ha0,c1,hs2]
   ·rw[Zv (by omega) (by omega) hc];simp[Zh,Zj,Ze,Zi,get0,get1,s1 k hk,s2 k hk,ha0,c2,Zk,hs2]
  ·refine .fin me rfl (ZmG _) (fun k hk=> ?_) (fun k hk=> ?_)
   ·rw[Zu (by omega) (by omega) hc];simp[Za,Ze,Zd,Zb,get0,get1,i1 k hk,i2 k hk,ha0,c1,hs2]
   ·rw[Zv (by omega) (by omega) hc];simp[Zh,Zj,Ze,Zi,get0,get1,s1 k hk,s2 k hk,ha0,c2,Zk,hs2]
  ·refine .fin me rfl (ZmG _) (fun k hk=> ?_) (fun k hk=> ?_)
   ·rw[Zu (by omega) (by omega) hc];simp[Za,Ze,Zd,Zb,get0,get1,i1 k hk,i2 k hk,ha0,c1,hs2,hs (by simp)]
   ·rw[Zv (by omega) (by omega) hc];simp[Zh,Zj,Ze,Zi,get0,get1,s1 k hk,s2 k hk,ha0,c2,Zk,hs2,gt (by simp)]
  ·refine .fin me rfl (ZmG _) (fun k hk=> ?_) (fun k hk=> ?_)
   ·rw[Zu (by omega) (by omega) hc];simp[Za,Ze,Zd,Zb,get0,get1,i1 k hk,i2 k hk,ha0,c1,hs2,hs (by simp)]
   ·rw[Zv (by omega) (by omega) hc];simp[Zh,Zj,Ze,Zi,get0,get1,s1 k hk,s2 k hk,ha0,c2,Zk,hs2,gt (by simp)]
  ·refine .fin me rfl (ZmG _) (fun k hk=> ?_) (fun k hk=> ?_)
   ·rw[Zu (by omega) (by omega) hc];simp[Za,Ze,Zd,Zb,get0,get1,i1 k hk,i2 k hk,ha0,c1,hs2,hs (by simp)]
   ·rw[Zv (by omega) (by omega) hc];simp[Zh,Zj,Ze,Zi,get0,get1,s1 k hk,s2 k hk,ha0,c2,Zk,hs2,gt (by simp)]
  ·refine .fin ha (h1 (by omega)) ta (fun k hk=> ?_) (fun k hk=> ?_)
   ·rw[Zu (by omega) (by omega) hc];simp[Za,Ze,Zd,Zb,get0,get1,i1 k hk,i2 k hk,ha0,c1]
   ·rw[Zv (by omega) (by omega) hc];simp[Zh,Zj,Ze,Zi,get0,get1,s1 k hk,s2 k hk,ha0,c2,Zk]
  ·refine .fin ha (h1 (by omega)) ta (fun k hk=> ?_) (fun k hk=> ?_)
   ·rw[Zu (by omega) (by omega) hc];simp[Za,Ze,Zd,Zb,get0,get1,i1 k hk,i2 k hk,ha0,c1]
   ·rw[Zv (by omega) (by omega) hc];simp[Zh,Zj,Ze,Zi,get0,get1,s1 k hk,s2 k hk,ha0,c2,Zk]
  ·refine .fin ha (h1 (by omega)) ta (fun k hk=> ?_) (fun k hk=> ?_)
   ·rw[Zu (by omega) (by omega) hc];simp[Za,Ze,Zd,Zb,get0,get1,i1 k hk,i2 k hk,ha0,c1]
   ·rw[Zv (by omega) (by omega) hc];simp[Zh,Zj,Ze,Zi,get0,get1,s1 k hk,s2 k hk,ha0,c2,Zk]
  ·refine .fin me rfl (ZmG _) (fun k hk=> ?_) (fun k hk=> ?_)
   ·rw[Zu (by omega) (by omega) hc];simp[Za,Ze,Zd,Zb,get0,get1,i1 k hk,i2 k hk,ha0,c1,hs2,hs (by simp)]
   ·rw[Zv (by omega) (by omega) hc];simp[Zh,Zj,Ze,Zi,get0,get1,s1 k hk,s2 k hk,ha0,c2,Zk,hs2,gt (by simp)]
  ·obtain rfl:=h2 (by omega);refine .fin (ZaQ (w:=1) (v:=0) (hz)) rfl (tc _) (fun k hk=>?_) (fun k hk=>?_)
   ·rw[Zu (by omega) (by omega) hc];simp[Za,Ze,Zd,Zb,get0,get1,i1 k hk,i2 k hk,ha0,c1,ZX hz]
   ·rw[Zv (by omega) (by omega) hc];simp[Zh,Zj,Ze,Zi,get0,get1,s1 k hk,s2 k hk,ha0,c2,Zk]
  ·refine .fin me rfl (ZmG _) (fun k hk=> ?_) (fun k hk=> ?_)
   ·rw[Zu (by omega) (by omega) hc];simp[Za,Ze,Zd,Zb,get0,get1,i1 k hk,i2 k hk,ha0,c1,hs2]
   ·rw[Zv (by omega) (by omega) hc];simp[Zh,Zj,Ze,Zi,get0,get1,s1 k hk,s2 k hk,ha0,c2,Zk,hs2]
 ·have c1:Zq b 0=some false:=by
   unfold Zq;cases h:(b.Op==0&&b.N==0)
   ·rfl
   ·rw[ZmC,Zng,Zng]at h;exact absurd h z
  have c2:Zr b 0=some false:=by
   unfold Zr;cases h:(b.Op==0&&b.N==0)
   ·rfl
   ·rw[ZmC,Zng,Zng]at h;exact absurd h z
  by_cases e:ctm a b=0
  ·rcases hop with rfl|rfl|rfl|rfl|rfl|rfl|rfl|rfl|rfl|rfl|rfl|rfl|rfl|rfl
   ·refine .fin me rfl (ZmG _) (fun k hk=> ?_) (fun k hk=> ?_)
    ·rw[Zu (by omega) (by omega) hc];simp[Za,Ze,Zd,Zb,get0,get1,i1 k hk,i2 k hk,ha0,c1,e]
    ·rw[Zv (by omega) (by omega) hc];simp[Zh,Zj,Ze,Zi,get0,get1,s1 k hk,s2 k hk,ha0,c2,Zk,e]
   ·refine .fin (ZaQ (w:=w) (v:=0) (hz)) rfl (tc _) (fun k hk=> ?_) (fun k hk=> ?_)
    ·rw[Zu (by omega) (by omega) hc];simp[Za,Ze,Zd,Zb,get0,get1,i1 k hk,i2 k hk,ha0,c1,e,ZX hz]
    ·rw[Zv (by omega) (by omega) hc];simp[Zh,Zj,Ze,Zi,get0,get1,s1 k hk,s2 k hk,ha0,c2,Zk,e]
   ·refine .fin me rfl (ZmG _) (fun k hk=> ?_) (fun k hk=> ?_)
    ·rw[Zu (by omega) (by omega) hc];simp[Za,Ze,Zd,Zb,get0,get1,i1 k hk,i2 k hk,ha0,c1,e]
    ·rw[Zv (by omega) (by omega) hc];simp[Zh,Zj,Ze,Zi,get0,get1,s1 k hk,s2 k hk,ha0,c2,Zk,e]
   ·refine .fin me rfl (ZmG _) (fun k hk=> ?_) (fun k hk=> ?_)
    ·rw[Zu (by omega) (by omega) hc];simp[Za,Ze,Zd,Zb,get0,get1,i1 k hk,i2 k hk,ha0,c1,e]
    ·rw[Zv (by omega) (by omega) hc];simp[Zh,Zj,Ze,Zi,get0,get1,s1 k hk,s2 k hk,ha0,c2,Zk,e]
   ·refine .fin me rfl (ZmG _) (fun k hk=> ?_) (fun k hk=> ?_)
    ·rw[Zu (by omega) (by omega) hc];simp[Za,Ze,Zd,Zb,get0,get1,i1 k hk,i2 k hk,ha0,c1,e]
    ·rw[Zv (by omega) (by omega) hc];simp[Zh,Zj,Ze,Zi,get0,get1,s1 k hk,s2 k hk,ha0,c2,Zk,e]
   ·refine .fin ha (h1 (by omega)) ta (fun k hk=> ?_) (fun k hk=> ?_)
    ·rw[Zu (by omega) (by omega) hc];simp[Za,Ze,Zd,Zb,get0,get1,i1 k hk,i2 k hk,ha0,c1,e]
    ·rw[Zv (by omega) (by omega) hc];simp[Zh,Zj,Ze,Zi,get0,get1,s1 k hk,s2 k hk,ha0,c2,Zk,e]
   ·refine .fin ha (h1 (by omega)) ta (fun k hk=> ?_) (fun k hk=> ?_)
    ·rw[Zu (by omega) (by omega) hc];simp[Za,Ze,Zd,Zb,get0,get1,i1 k hk,i2 k hk,ha0,c1,e]
    ·rw[Zv (by omega) (by omega) hc];simp[Zh,Zj,Ze,Zi,get0,get1,s1 k hk,s2 k hk,ha0,c2,Zk,e]
   ·refine .fin (ZaQ (w:=w) (v:=0) (hz)) rfl (tc _) (fun k hk=> ?_) (fun k hk=> ?_)
    ·rw[Zu (by omega) (by omega) hc];simp[Za,Ze,Zd,Zb,get0,get1,i1 k hk,i2 k hk,ha0,c1,e,ZX hz]
    ·rw[Zv (by omega) (by omega) hc];simp[Zh,Zj,Ze,Zi,get0,get1,s1 k hk,s2 k hk,ha0,c2,Zk,e]
   ·refine .fin me rfl (ZmG _) (fun k hk=> ?_) (fun k hk=> ?_)
    ·rw[Zu (by omega) (by omega) hc];simp[Za,Ze,Zd,Zb,get0,get1,i1 k hk,i2 k hk,ha0,c1,e]
    ·rw[Zv (by omega) (by omega) hc];simp[Zh,Zj,Ze,Zi,get0,get1,s1 k hk,s2 k hk,ha0,c2,Zk,e]
   ·refine .fin me rfl (ZmG _) (fun k hk=> ?_) (fun k hk=> ?_)
    ·rw[Zu (by omega) (by omega) hc];simp[Za,Ze,Zd,Zb,get0,get1,i1 k hk,i2 k hk,ha0,c1,e]
    ·rw[Zv (by omega) (by omega) hc];simp[Zh,Zj,Ze,Zi,get0,get1,s1 k hk,s2 k hk,ha0,c2,Zk,e]
   ·refine .fin me rfl (ZmG _) (fun k hk=> ?_) (fun k hk=> ?_)
    ·rw[Zu (by omega) (by omega) hc];simp[Za,Ze,Zd,Zb,get0,get1,i1 k hk,i2 k hk,ha0,c1,e]
    ·rw[Zv (by omega) (by omega) hc];simp[Zh,Zj,Ze,Zi,get0,get1,s1 k hk,s2 k hk,ha0,c2,Zk,e]
   ·obtain rfl:=h2 (by omega);refine .fin (ZaQ (w:=1) (v:=1) (by decide)) rfl (tc _) (fun k hk=>?_) (fun k hk=>?_)
    ·rw[Zu (by omega) (by omega) hc];simp[Za,Ze,Zd,Zb,get0,get1,i1 k hk,i2 k hk,ha0,c1,e,ZX (w:=1) (v:=1) (by decide)]
    ·rw[Zv (by omega) (by omega) hc];simp[Zh,Zj,Ze,Zi,get0,get1,s1 k hk,s2 k hk,ha0,c2,Zk,e]
   ·refine .fin (ZaQ (w:=w) (v:=0) (hz)) rfl (tc _) (fun k hk=> ?_) (fun k hk=> ?_)
    ·rw[Zu (by omega) (by omega) hc];simp[Za,Ze,Zd,Zb,get0,get1,i1 k hk,i2 k hk,ha0,c1,e,ZX hz]
    ·rw[Zv (by omega) (by omega) hc];simp[Zh,Zj,Ze,Zi,get0,get1,s1 k hk,s2 k hk,ha0,c2,Zk,e]
   ·refine .fin (ZaQ (w:=w) (v:=0) (hz)) rfl (tc _) (fun k hk=> ?_) (fun k hk=> ?_)
    ·rw[Zu (by omega) (by omega) hc];simp[Za,Ze,Zd,Zb,get0,get1,i1 k hk,i2 k hk,ha0,c1,e,ZX hz]
    ·rw[Zv (by omega) (by omega) hc];simp[Zh,Zj,Ze,Zi,get0,get1,s1 k hk,s2 k hk,ha0,c2,Zk,e]
  ·rcases hop with rfl|rfl|rfl|rfl|rfl|rfl|rfl|rfl|rfl|rfl|rfl|rfl|rfl|rfl
   ·refine .fin me rfl (ZmG _) (fun k hk=> ?_) (fun k hk=> ?_)
    ·rw[Zu (by omega) (by omega) hc];simp[Za,Ze,Zd,Zb,get0,get1,i1 k hk,i2 k hk,ha0,c1,e,hs (by simp)]
    ·rw[Zv (by omega) (by omega) hc];simp[Zh,Zj,Ze,Zi,get0,get1,s1 k hk,s2 k hk,ha0,c2,Zk,e,gt (by simp)]
   ·refine .fin me rfl (ZmG _) (fun k hk=> ?_) (fun k hk=> ?_)
    ·rw[Zu (by omega) (by omega) hc];simp[Za,Ze,Zd,Zb,get0,get1,i1 k hk,i2 k hk,ha0,c1,e]
    ·rw[Zv (by omega) (by omega) hc];simp[Zh,Zj,Ze,Zi,get0,get1,s1 k hk,s2 k hk,ha0,c2,Zk,e]
   ·refine .fin me rfl (ZmG _) (fun k hk=> ?_) (fun k hk=> ?_)
    ·rw[Zu (by omega) (by omega) hc];simp[Za,Ze,Zd,Zb,get0,get1,i1 k hk,i2 k hk,ha0,c1,e,hs (by simp)]
    ·rw[Zv (by omega) (by omega) hc];simp[Zh,Zj,Ze,Zi,get0,get1,s1 k hk,s2 k hk,ha0,c2,Zk,e,gt (by simp)]
   ·refine .fin me rfl (ZmG _) (fun k hk=> ?_) (fun k hk=> ?_)
    ·rw[Zu (by omega) (by omega) hc];simp[Za,Ze,Zd,Zb,get0,get1,i1 k hk,i2 k hk,ha0,c1,e]
    ·rw[Zv (by omega) (by omega) hc];simp[Zh,Zj,Ze,Zi,get0,get1,s1 k hk,s2 k hk,ha0,c2,Zk,e]
   ·refine .fin me rfl (ZmG _) (fun k hk=> ?_) (fun k hk=> ?_)
    ·rw[Zu (by omega) (by omega) hc];simp[Za,Ze,Zd,Zb,get0,get1,i1 k hk,i2 k hk,ha0,c1,e]
    ·rw[Zv (by omega) (by omega) hc];simp[Zh,Zj,Ze,Zi,get0,get1,s1 k hk,s2 k hk,ha0,c2,Zk,e]
   ·refine .fin me rfl (ZmG _) (fun k hk=> ?_) (fun k hk=> ?_)
    ·rw[Zu (by omega) (by omega) hc];simp[Za,Ze,Zd,Zb,get0,get1,i1 k hk,i2 k hk,ha0,c1,e,hs (by simp)]
    ·rw[Zv (by omega) (by omega) hc];simp[Zh,Zj,Ze,Zi,get0,get1,s1 k hk,s2 k hk,ha0,c2,Zk,e,gt (by simp)]
   ·refine .fin me rfl (ZmG _) (fun k hk=> ?_) (fun k hk=> ?_)
    ·rw[Zu (by omega) (by omega) hc];simp[Za,Ze,Zd,Zb,get0,get1,i1 k hk,i2 k hk,ha0,c1,e,hs (by simp)]
    ·rw[Zv (by omega) (by omega) hc];simp[Zh,Zj,Ze,Zi,get0,get1,s1 k hk,s2 k hk,ha0,c2,Zk,e,gt (by simp)]
   ·refine .fin me rfl (ZmG _) (fun k hk=> ?_) (fun k hk=> ?_)
    ·rw[Zu (by omega) (by omega) hc];simp[Za,Ze,Zd,Zb,get0,get1,i1 k hk,i2 k hk,ha0,c1,e,hs (by simp)]
    ·rw[Zv (by omega) (by omega) hc];simp[Zh,Zj,Ze,Zi,get0,get1,s1 k hk,s2 k hk,ha0,c2,Zk,e,gt (by simp)]
   ·refine .fin me rfl (ZmG _) (fun k hk=> ?_) (fun k hk=> ?_)
    ·rw[Zu (by omega) (by omega) hc];simp[Za,Ze,Zd,Zb,get0,get1,i1 k hk,i2 k hk,ha0,c1,e]
    ·rw[Zv (by omega) (by omega) hc];simp[Zh,Zj,Ze,Zi,get0,get1,s1 k hk,s2 k hk,ha0,c2,Zk,e]
   ·refine .fin me rfl (ZmG _) (fun k hk=> ?_) (fun k hk=> ?_)
    ·rw[Zu (by omega) (by omega) hc];simp[Za,Ze,Zd,Zb,get0,get1,i1 k hk,i2 k hk,ha0,c1,e]
    ·rw[Zv (by omega) (by omega) hc];simp[Zh,Zj,Ze,Zi,get0,get1,s1 k hk,s2 k hk,ha0,c2,Zk,e]
   ·refine .fin me rfl (ZmG _) (fun k hk=> ?_) (fun k hk=> ?_)
    ·rw[Zu (by omega) (by omega) hc];simp[Za,Ze,Zd,Zb,get0,get1,i1 k hk,i2 k hk,ha0,c1,e]
    ·rw[Zv (by omega) (by omega) hc];simp[Zh,Zj,Ze,Zi,get0,get1,s1 k hk,s2 k hk,ha0,c2,Zk,e]
   ·refine .fin me rfl (ZmG _) (fun k hk=> ?_) (fun k hk=> ?_)
    ·rw[Zu (by omega) (by omega) hc];simp[Za,Ze,Zd,Zb,get0,get1,i1 k hk,i2 k hk,ha0,c1,e,hs (by simp)]
    ·rw[Zv (by omega) (by omega) hc];simp[Zh,Zj,Ze,Zi,get0,get1,s1 k hk,s2 k hk,ha0,c2,Zk,e,gt (by simp)]
   ·refine .fin me rfl (ZmG _) (fun k hk=> ?_) (fun k hk=> ?_)
    ·rw[Zu (by omega) (by omega) hc];simp[Za,Ze,Zd,Zb,get0,get1,i1 k hk,i2 k hk,ha0,c1,e]
    ·rw[Zv (by omega) (by omega) hc];simp[Zh,Zj,Ze,Zi,get0,get1,s1 k hk,s2 k hk,ha0,c2,Zk,e]
   ·refine .fin me rfl (ZmG _) (fun k hk=> ?_) (fun k hk=> ?_)
    ·rw[Zu (by omega) (by omega) hc];simp[Za,Ze,Zd,Zb,get0,get1,i1 k hk,i2 k hk,ha0,c1,e]
    ·rw[Zv (by omega) (by omega) hc];simp[Zh,Zj,Ze,Zi,get0,get1,s1 k hk,s2 k hk,ha0,c2,Zk,e]
theorem Zk6{op w:Int}{a b:D.Term}(h3:3≤op)(h16:op≤16)(ha:nodeB a=true)(hb:nodeB b=true)(hw:a.W=b.W)(h1:op≤13→a.W=w)(h2:14≤op→w=1)(hc:(a.Op==0&&b.Op==0)=false)(hn:cnt a≤240):Stp ⟨op,w,0,⟨[]⟩,[a,b]⟩:=by
 by_cases ho:op=3∨op=5∨op=8∨op=9∨op=10∨op=14
 ·by_cases hs:ctm a b=1
  ·exact Zjr ho ha hb hw h1 h2 hc hn hs
  by_cases ha0:a.Op=0
  ·exact ZhG ho ha hb hw h1 h2 ha0 (fun e=>by simp[ha0,e]at hc) hn hs
  ·exact ZfO h3 h16 ha hb hw h1 h2 ha0 hn fun _=>hs
 ·by_cases ha0:a.Op=0
  ·exact ZgW (by omega) ha hb hw h1 h2 ha0 (fun e=>by simp[ha0,e]at hc) hn
  ·exact ZfO h3 h16 ha hb hw h1 h2 ha0 hn fun o=>absurd o ho
theorem step{t:D.Term}(h:nodeB t=true)(hn:cnt t≤240):Stp t:=by
 obtain⟨op,w,m,nm,ks⟩:=t;obtain⟨⟨w1,w2⟩,hs⟩:=XE h;by_cases hc:ks≠[]∧(ks.all fun x=>x.Op==0)=true
 ·refine Zh2 h hc.1 ?_ hc.2;rcases hs with⟨_,rfl,_⟩|⟨_,rfl,_⟩|⟨_,_,_,a,rfl,_⟩|⟨_,_,_,_,a,b,rfl,_⟩|⟨_,_,_,a,b,c,rfl,_⟩|⟨_,_,_,a,b,rfl,_⟩|⟨_,_,_,_,a,rfl,_⟩|⟨_,_,_,a,rfl,_⟩<;>simp
 have hc:ks≠[]→(ks.all fun x=>x.Op==0)=false:=fun e=>by
  cases q:ks.all fun x=>x.Op==0
  ·rfl
  ·exact absurd ⟨e,q⟩ hc
 rcases hs with⟨ho,rfl,rfl,hv⟩|⟨ho,rfl,rfl⟩|⟨ho,rfl,rfl,a,rfl,ha,hw⟩|⟨h3,h16,rfl,rfl,a,b,rfl,ha,hb,hab,e1,e2⟩|⟨rfl,rfl,rfl,a,b,c,rfl,ha,hb,hcc,aw,bw,cw⟩|⟨rfl,rfl,rfl,a,b,rfl,ha,hb,hab⟩|⟨rfl,rfl,m0,m16,a,rfl,ha,haw⟩|⟨ho,rfl,rfl,a,rfl,ha,haw⟩
 ·exact ZfT h (.inl ho)
 ·exact ZfT h (.inr ho)
 ·exact Zl7 ho ha hw (by have:=hc (by simp);simpa using this)
 ·rw[cnt2]at hn;exact Zk6 h3 h16 ha hb hab e1 e2 (by have:=hc (by simp);simpa using this) (by omega)
 ·rw[cnt3]at hn;exact Zlc ha hb hcc aw bw cw (by have:=hc (by simp);simpa using this) (by omega)
 ·rw[cnt2]at hn;exact Zjl ha hb hab w2 (by have:=hc (by simp);simpa using this) (by omega)
 ·exact ZjM ha m0 m16 w1 haw (by have:=hc (by simp);simpa using this)
 ·exact ZkV ho ha haw w2 (by have:=hc (by simp);simpa using this)
theorem simpler:∀(d:Nat)(t:D.Term),mea t≤d→nodeB t=true→cnt t≤240→∃r,nodeB r=true∧r.W=t.W∧cnt r≤cnt t∧(∀n,1100000+8*(d+1)≤n→ZF n t=some r)∧∀n,1100000+8*(d+1)≤n→Z4 n t=some r:=by
 intro d
 induction d with
 |zero=>
  intro t h;have:=ZbQ t;unfold mea at h;omega
 | succ d ih=>
  intro t hm h hn;obtain⟨s,hg,h1,h2⟩:=step h hn;cases s with
  | inl r=>
   refine⟨r,hg.1,hg.2.1,hg.2.2,fun n hn=>?_,fun n hn=>?_⟩
   ·obtain⟨k,rfl⟩:∃k,n=k+8:=⟨n-8,by omega⟩;obtain⟨k',_,e⟩:=h1 k (by omega);exact e
   ·obtain⟨k,rfl⟩:∃k,n=k+8:=⟨n-8,by omega⟩;obtain⟨k',_,e⟩:=h2 k (by omega);exact e
  | inr u=>
   obtain⟨g1,g2,g3,g4⟩:=hg;obtain⟨r,q1,q2,q3,q4,q5⟩:=ih u (by omega) g1 (by omega);refine⟨r,q1,by rw[q2,g2],by omega,fun n hn=>?_,fun n hn=>?_⟩
   ·obtain⟨k,rfl⟩:∃k,n=k+8:=⟨n-8,by omega⟩;obtain⟨k',hk',e⟩:=h1 k (by omega);rw[e];exact q4 k' (by omega)
   ·obtain⟨k,rfl⟩:∃k,n=k+8:=⟨n-8,by omega⟩;obtain⟨k',hk',e⟩:=h2 k (by omega);rw[e];exact q5 k' (by omega)
end Go.Proofs.YtbidabmbbieeiabGreatDoor
end
