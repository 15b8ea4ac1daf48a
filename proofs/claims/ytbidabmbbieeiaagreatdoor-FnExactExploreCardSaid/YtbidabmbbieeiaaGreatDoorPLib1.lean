/- Texts of this claim put into one: library or plain laws, without the program under test. -/
import Derived.Test.YtbidabmbbieeiaaGreatDoorLib3
import Derived.Test.YtbidabmbbieeiaaGreatDoorDefs
import Derived.Lib.Strings
set_option linter.unusedSimpArgs false
set_option linter.unusedVariables false
section
namespace Go.Proofs.YtbidabmbbieeiaaGreatDoor
open Go.GL
class FU(n:Nat):Prop where
 le:4194400≤n
def fuel0:Nat:=4195400
instance:FU fuel0:=⟨by decide⟩
theorem Za0{n fuel:Nat}[q:FU fuel](h:n≤1048576):n<fuel:=by have:=q.le;omega
variable{fuel:Nat}[FU fuel]
theorem ZfM{p q:List Int}(h:p.length≤1048576):Zbe fuel p q=some (decide (p=q)):=ZgW (by omega) (Za0 h)
theorem Zdj{α:Type}{l:List α}{f:α→Option Bool}{b:α→Bool}(hf:∀x∈l,f x=some (b x))(hb:l.length≤9223372036854775807):∀(d i:Nat),i+d=l.length→∀n,d<n→
  iterN (fun(s1:Int)=>if(decide (s1<(len l)))then(get? l s1).bind fun x1=>(f x1).bind fun x2=>if(!x2)then some (.inr (.inr false))else some (.inl ((w64 (s1+1))))else some (.inr (.inl ()))) n (i:Int)=some (if(l.drop i).all b then(.inl ():Unit⊕Bool)else .inr false)
 |0,i,hi,n,hn=>by
  obtain⟨n,rfl⟩:∃j,n=j+1:=⟨n-1,by omega⟩;unfold iterN;rw[Zml (by rw[Zf];simp;omega)];simp[Zng (show l.length≤i by omega)]
 | d+1,i,hi,n,hn=>by
  obtain⟨n,rfl⟩:∃j,n=j+1:=⟨n-1,by omega⟩;have hp:i<l.length:=by omega
  unfold iterN;rw[Zmm (by rw[Zf];simp;omega),get?_nat,Zmn hp];simp only[Zmh];rw[hf _ (Znw hp),Zm4 hp];simp only[Zmh,ZnW];by_cases h:b l[i]=true
  ·rw[Zml (by simp[h])];simp only;rw[Zn (by omega) (by omega),show((i:Int)+1)=((i+1:Nat):Int) by omega,Zdj hf hb d (i+1) (by omega) n (by omega)];simp only[h,ZmJ]
  ·rw[Zmm (by simp[h])];simp[h]
theorem Zjn{l:List D.Ins}{m:Int}(hl:l.length≤9223372036854775807)(h0:0≤m)(h1:m≤1048576):Zbd l m=some (if m-l.length<0 then-1 else m-l.length):=by
 unfold Zbd;rw[Zf,Zn (by omega) (by omega)];by_cases h:m-(l.length:Int)<0
 ·rw[Zmm (by simpa using h),Zmm h]
 ·rw[Zml (by simpa using h),Zml h]
theorem Zgh{x:D.Program}{m:Int}(hx:Zcz x)(h0:0≤m)(h1:m≤1048576):∃r,Zae x m=some r∧(r<0∨0≤r∧r≤1048576∧x.Code.length≤1048576):=by
 obtain⟨-,-,-,hr,-⟩:=hx;unfold Zae;rw[Zjn hr h0 h1];simp only[Zmh];by_cases c1:m-(x.Code.length:Int)<0
 ·rw[Zmm c1];exact⟨_,rfl,.inl (by omega)⟩
 rw[Zml c1,Zml (by simpa using c1)];exact⟨_,rfl,.inr ⟨by omega,by omega,by omega⟩⟩
theorem Zi3{l:List D.Ins}(h:l.length≤1048576):Zba fuel l=some l:=by
 unfold Zba;rw[mk?_len (by unfold room;omega)];simp only[Zmh,Zct];rw[Zhm (by omega) (Za0 h)];rfl
theorem Zgd{x:D.Program}(h:x.Code.length≤1048576):YO fuel x=some x:=by
 unfold YO;rw[Zi3 h];rfl
theorem ZjX(x y:D.Ins):ZbB x y=some (decide (x=y)):=by
 unfold ZbB;cases x;cases y;simp only[D.Ins.mk.injEq];grind
theorem Zi9{p q:List D.Ins}(h:p.length≤1048576):Zbl fuel p q=some (decide (p=q)):=by
 unfold Zbl;simp only[ZjX,Zmh];exact ZgW (by omega) (Za0 h)
theorem ZeM{x:D.Program}(h:x.Code.length≤1048576):Zac fuel x x=some true:=by
 unfold Zac;rw[Zi9 h];simp
theorem Zif{w:Int}(h1:1≤w)(h2:w≤16):∃m:Int,shl? 1 w=some m∧shl? 1 (IntKind.u64.wrap w)=some m∧w64 (m-1)=m-1:=by
 have:w=1∨w=2∨w=3∨w=4∨w=5∨w=6∨w=7∨w=8∨w=9∨w=10∨w=11∨w=12∨w=13∨w=14∨w=15∨w=16:=by omega
 rcases this with rfl|rfl|rfl|rfl|rfl|rfl|rfl|rfl|rfl|rfl|rfl|rfl|rfl|rfl|rfl|rfl<;>exact⟨_,rfl,by decide,by decide⟩
theorem ZdX(w v:Int):∃b,ZH w v=some b∧ZX w v=some b:=by
 unfold ZH ZX Zl ZL;by_cases h:1≤w∧w≤16
 ·obtain⟨m,h1,h2,h3⟩:=Zif h.1 h.2;refine⟨decide (0≤v)&&decide (v<m),?_,?_⟩
  ·simp only[ge_iff_le,h.1,h.2,decide_true,Znv,Zmh,Zm0,h1,h3,ZmJ,Option.some.injEq];rw[Zn5];simp only[Zmk,Zms];omega
  ·by_cases hv:0≤v
   ·simp[h.1,h.2,hv,h2]
   ·simp[h.1,h.2,hv]
 ·refine⟨false, ?_, ?_⟩
  ·by_cases a:1≤w
   ·have b:¬w≤16:=fun b=>h ⟨a,b⟩;simp[a,b]
   ·simp[a]
  ·by_cases a:1≤w
   ·have b:¬w≤16:=fun b=>h ⟨a,b⟩;simp[a,b]
   ·simp[a]
theorem ZcR{c:Bool}{b:Bool}:(if c=true then some b else some default)=some (if c=true then b else default):=by split<;>rfl
theorem ZgR{c:Bool}{b:Bool}:(if c=true then some default else some b)=some (if c=true then default else b):=by split<;>rfl
theorem Zha(p:D.Ins)(w n:Int):∃b,Xo p w n=some b∧Za3 p w n=some b:=by
 obtain⟨wb,hw1,hw2⟩:=ZdX w p.B;have hr:∀a,Y3 a=some (decide (0≤a∧a≤3)):=by
  intro a;simp[Y3,Zl]
 have hr':∀a,Xg a=some (decide (0≤a∧a≤3)):=by
  intro a;simp only[Xg,Bool.decide_and];grind
 have hi:∀a b c,Zl a b c=some (decide (b≤a)&&decide (a≤c)):=by
  intro a b c;simp[Zl]
 have ht:∀a,XI a=some (decide (3≤a)&&decide (a≤16)):=by
  intro a;simp[XI]
 obtain⟨op,a,b,c⟩:=p;simp only at hw1 hw2;unfold Xo Za3;simp only[hr,hr',hi,ht,hw1,hw2,Zmh,ZcR];by_cases e1:op=1
 ·subst e1;grind
 by_cases e2:op=2
 ·subst e2;grind
 by_cases e3:op=3
 ·subst e3;grind
 by_cases e4:op=4
 ·subst e4;grind
 by_cases e5:op=5
 ·subst e5;grind
 by_cases e6:op=6
 ·subst e6;grind
 by_cases e7:op=7
 ·subst e7;grind
 by_cases e8:op=8
 ·subst e8;grind
 by_cases e9:op=9
 ·subst e9;grind
 by_cases e10:op=10
 ·subst e10;grind
 by_cases e11:op=11
 ·subst e11;grind
 by_cases e12:op=12
 ·subst e12;grind
 by_cases e13:op=13
 ·subst e13;grind
 by_cases e14:op=14
 ·subst e14;grind
 simp[e1,e2,e3,e4,e5,e6,e7,e8,e9,e10,e11,e12,e13,e14]
def insB(w n:Int)(p:D.Ins):Bool:=(Xo p w n).getD false
theorem ZkC(w n:Int)(p:D.Ins):Xo p w n=some (insB w n p):=by
 obtain⟨b,h,-⟩:=Zha p w n;simp[insB,h]
theorem Zkj(w n:Int)(p:D.Ins):Za3 p w n=some (insB w n p):=by
 obtain⟨b,h,h'⟩:=Zha p w n;simp[insB,h,h']
def wordB(w v:Int):Bool:=(ZH w v).getD false
theorem YQ(w v:Int):ZH w v=some (wordB w v):=by
 obtain⟨b,h,-⟩:=ZdX w v;simp[wordB,h]
theorem Zai(w v:Int):ZX w v=some (wordB w v):=by
 obtain⟨b,h,h'⟩:=ZdX w v;simp[wordB,h,h']
def progB(x:D.Program):Bool:=
 decide (2≤x.W∧x.W≤8)&&decide (1≤x.Mem∧x.Mem≤6)&&wordB x.W x.Mem&&decide (0≤x.In∧x.In≤3)&&decide (1≤(x.Code.length:Int)∧(x.Code.length:Int)≤40)&&x.Code.all (insB x.W x.Code.length)
theorem Zf4{x:D.Program}(h:x.Code.length≤1048576):X5 fuel x=some (progB x):=by
 unfold X5;have hi:∀a b c,Zl a b c=some (decide (b≤a∧a≤c)):=by
  intro a b c;simp[Zl]
 have hl:=Zdj (l:=x.Code) (f:=fun p=>Xo p x.W (len x.Code)) (b:=insB x.W x.Code.length) (fun p _=>ZkC _ _ p) (by omega) x.Code.length 0 (by omega) fuel (Za0 h);rw[show((0:Nat):Int)=0 from rfl]at hl;simp only[hi,YQ,Zmh,ZgR];rw[hl,Zf];unfold progB;simp only[Znq];cases x.Code.all (insB x.W x.Code.length)<;>cases wordB x.W x.Mem<;>simp only[Zmh,Zm0,Zmr,Zmi]<;>grind
theorem ZiB{x:D.Program}(h:x.Code.length≤1048576):XQ fuel x=some (progB x):=by
 unfold XQ;have hl:=Zdj (l:=x.Code) (f:=fun p=>Za3 p x.W (len x.Code)) (b:=insB x.W x.Code.length) (fun p _=>Zkj _ _ p) (by omega) x.Code.length 0 (by omega) fuel (Za0 h);rw[show((0:Nat):Int)=0 from rfl]at hl;simp only[Zbw,Zai,Zmh,ZgR];rw[hl,Zf];unfold progB;simp only[Znq];clear hl;by_cases a1:2≤x.W<;>by_cases a2:x.W≤8<;>by_cases a3:1≤(x.Code.length:Int)<;>by_cases a4:(x.Code.length:Int)≤40<;>simp only[ge_iff_le,a1,a2,a3,a4,decide_true,decide_false,Znk,Bool.and_false,ZmJ,ZmY,Znv,and_self,ZnG,and_false]<;>
  cases x.Code.all (insB x.W x.Code.length)<;>cases wordB x.W x.Mem<;>simp only[Zmh,Zm0,Zmr,Zmi,Bool.decide_and]<;>grind
theorem Xk{σt ρt:Type}{B:σt→Option (σt⊕ρt)}{s:σt}{r:ρt}{n:Nat}(h:B s=some (.inr r))(hn:0<n):iterN B n s=some r:=by
 obtain⟨m,rfl⟩:∃m,n=m+1:=⟨n-1,by omega⟩;rw[iterN,h]
theorem Zao(s:Str):Str.eqb s s=true:=by unfold Str.eqb;simp
theorem Zf6{S ρ α σ:Type}{l:List α}{B:S→Option (S⊕ρ)}(enc:Nat→σ→S)(I:List α→σ→Prop)(R:ρ→Prop)
  (hs:∀k x xs a,k<l.length→l[k]? =some x→l.length=k+(x::xs).length→I (x::xs) a→(∃a',B (enc k a)=some (.inl (enc (k+1) a'))∧I xs a')∨∃r,B (enc k a)=some (.inr r)∧R r)
  (he:∀a,I [] a→∃r,B (enc l.length a)=some (.inr r)∧R r):
  ∀(ys:List α)(k:Nat)(a:σ)(n:Nat),l.drop k=ys→k≤l.length→I ys a→ys.length<n→∃r,iterN B n (enc k a)=some r∧R r
 | [],k,a,n,hd,hk,hI,hn=>by
  obtain⟨n,rfl⟩:∃j,n=j+1:=⟨n-1,by omega⟩;have:k=l.length:=by
   have:=congrArg List.length hd;simp at this;omega
  subst this;obtain⟨r,h1,h2⟩:=he a hI;exact⟨r,by unfold iterN;rw[h1],h2⟩
 | x::xs,k,a,n,hd,hk,hI,hn=>by
  obtain⟨n,rfl⟩:∃j,n=j+1:=⟨n-1,by omega⟩;have hl:l.length=k+(x::xs).length:=by
   have:=congrArg List.length hd;simp at this⊢;omega
  have hk':k<l.length:=by simp at hl;omega
  have hx:l[k]? =some x:=by
   have h0:(l.drop k)[0]? =some x:=by rw[hd];rfl
   rw[Znc]at h0;simpa using h0
  rcases hs k x xs a hk' hx hl hI with⟨a',h1,h2⟩|⟨r,h1,h2⟩
  ·obtain⟨r,g1,g2⟩:=Zf6 enc I R hs he xs (k+1) a' n (by rw[←List.drop_drop,hd];rfl) (by omega) h2 (by simp at hn;omega);exact⟨r,by unfold iterN;rw[h1];exact g1,g2⟩
  ·exact⟨r,by unfold iterN;rw[h1],h2⟩
theorem Yq{S ρ α σ:Type}{l:List α}{B:S→Option (S⊕ρ)}(enc:Nat→σ→S)(I:List α→σ→Prop)(R:ρ→Prop)
  (hs:∀k x xs a,k<l.length→l[k]? =some x→l.length=k+(x::xs).length→I (x::xs) a→(∃a',B (enc k a)=some (.inl (enc (k+1) a'))∧I xs a')∨∃r,B (enc k a)=some (.inr r)∧R r)
  (he:∀a,I [] a→∃r,B (enc l.length a)=some (.inr r)∧R r){a:σ}{n:Nat}(hI:I l a)(hn:l.length<n):∃r,iterN B n (enc 0 a)=some r∧R r:=
 Zf6 enc I R hs he l 0 a n rfl (Znn _) hI hn
end Go.Proofs.YtbidabmbbieeiaaGreatDoor
end
section
namespace Go.Proofs.YtbidabmbbieeiaaGreatDoor
open Go.GL
variable{fuel:Nat}[FU fuel]
mutual
def msz:D.Term→Nat
 |⟨_,_,_,s,k⟩=>s.bytes.length+k.length+mszs k
def mszs:List D.Term→Nat
 |[]=>0
 |x::l=>msz x+mszs l
end
theorem ZaK(t:D.Term):msz t=t.Name.bytes.length+t.Kids.length+mszs t.Kids:=by cases t;rw[msz]
theorem Xn(x:D.Term)(l:List D.Term):mszs (x::l)=msz x+mszs l:=by rw[mszs]
theorem Zcg:mszs []=0:=by rw[mszs]
theorem Zat{x:D.Term}:∀{l:List D.Term},x∈l→msz x≤mszs l
 |y::l,h=>by
  rw[Xn];rcases ZmZ.1 h with rfl|h
  ·omega
  ·have:=Zat h;omega
def sml(l:List D.Term):Prop:=l.length+mszs l≤1048576
theorem eqT:∀n:Nat,(∀t:D.Term,msz t≤1048576→1048580+2*msz t+1≤n→Zag n t t=some true)∧(∀l:List D.Term,sml l→1048580+2*(l.length+mszs l)≤n→Yy n l l=some true):=by
 intro n
 induction n with
 |zero=>exact⟨fun t _ _=>by omega,fun l _ _=>by omega⟩
 | succ n ih=>
  refine⟨fun t h hn=>?_,fun l h hn=>?_⟩
  ·have:=ZaK t;unfold Zag;rw[ih.2 t.Kids (by unfold sml;omega) (by omega)];simp[Zao]
  ·unfold sml at h;unfold Yy;rw[Zml (by simp)];obtain⟨r,g1,g2⟩:=Yq (l:=l) (n:=n) (σ:=Unit) (ρ:=Unit⊕Bool) (B:=fun(s1:Int)=>if(decide (s1<(len l)))then(get? l s1).bind fun x1=>(get? l s1).bind fun x2=>(Zag n x1 x2).bind fun x3=>if(!x3)then some (.inr (.inr false))else some (.inl ((w64 (s1+1))))else some (.inr (.inl ()))) (fun k(_:Unit)=>(k:Int)) (fun ys _=>∀x∈ys,x∈l) (fun r=>r=(.inl ():Unit⊕Bool))
     (fun k x xs a hk' hx hlen hm=>by
      have hxl:=hm x (by simp);have:=Zat hxl;have hpos:0<l.length:=by omega
      simp only[get?_nat,hx,Zmh,Zf];rw[Zmm (by simpa using hk'),ih.1 x (by omega) (by omega)];refine .inl ⟨(),?_,fun y hy=>hm y (by simp[hy])⟩;simp only[Zmh]
      rw[Zml (by simp),Zn (by omega) (by omega)];rfl)
     (fun a _=>by
      rw[Zml (by rw[Zf];simp)]
      exact⟨_,rfl,rfl⟩) (a:=()) (fun x hx=>hx) (by omega)
   rw[show((0:Nat):Int)=0 from rfl]at g1;rw[g1,g2];rfl
theorem eqTS{l:List D.Term}(h:sml l):Yy fuel l l=some true:=(eqT fuel).2 l h (by unfold sml at h;have:=FU.le (n:=fuel);omega)
def smallP(x:D.Path):Prop:=sml x.Regs∧sml x.Mem∧x.Stack.length≤1048576∧sml x.Out∧sml x.Cond∧x.Turns.length≤1048576
theorem ZgK{x:D.Path}(h:smallP x):Za6 fuel x x=some true:=by
 obtain⟨h1,h2,h3,h4,h5,h6⟩:=h;unfold Za6;simp[eqTS h1,eqTS h2,ZfM h3,eqTS h4,eqTS h5,ZfM h6]
end Go.Proofs.YtbidabmbbieeiaaGreatDoor
end
section
namespace Go.Proofs.YtbidabmbbieeiaaGreatDoor
open Go.GL
set_option maxRecDepth 100000
variable{fuel:Nat}[FU fuel]
mutual
def cnt:D.Term→Nat
 |⟨_,_,_,_,k⟩=>1+cnts k
def cnts:List D.Term→Nat
 |[]=>0
 |x::l=>cnt x+cnts l
end
theorem Zaa(t:D.Term):cnt t=1+cnts t.Kids:=by cases t;rw[cnt]
theorem Za9(x:D.Term)(l:List D.Term):cnts (x::l)=cnt x+cnts l:=by rw[cnts]
theorem XR:cnts []=0:=by rw[cnts]
theorem ZbW{x:D.Term}:∀{l:List D.Term},x∈l→cnt x≤cnts l
 |y::l,h=>by
  rw[Za9];rcases ZmZ.1 h with rfl|h
  ·omega
  ·have:=ZbW h;omega
def lf(m:Int)(c:Nat):Int:=if m-c<0 then-1 else m-c
theorem few:∀(n:Nat)(t:D.Term)(m:Int),msz t≤1048576→0≤m→m≤240→1048580+m≤n→X9 n t m=some (decide (lf m (cnt t)≥0),lf m (cnt t)):=by
 intro n
 induction n with
 |zero=>intro t m _ _ _ _;omega
 |succ n ih=>
  intro t m hs h0 h1 hn;have hz:=ZaK t;unfold X9;rw[Zn (by omega) (by omega)];obtain⟨r,g1,g2⟩:=Yq (l:=t.Kids) (n:=n) (σ:=Int) (ρ:=Int) (B:=fun(s1:Int×Int)=>if((decide (s1.1<(len t.Kids)))&&(decide (s1.2≥0)))then(get? t.Kids s1.1).bind fun x1=>(X9 n x1 s1.2).bind fun x2=>some (.inl ((w64 (s1.1+1)),x2.2))else some (.inr (s1.2))) (fun k a=>((k:Int),a)) (fun ys a=>-1≤a∧a≤m-1∧lf a (cnts ys)=lf (m-1) (cnts t.Kids)∧∀x∈ys,x∈t.Kids) (fun r=>r=lf (m-1) (cnts t.Kids))
    (fun k x xs a hk' hx hlen⟨i0,i1,i2,i3⟩=>by
     have:=Zat (i3 x (by simp));rw[Za9]at i2;simp only;by_cases ha:0≤a
     ·refine .inl ⟨lf a (cnt x), ?_, ?_, ?_, ?_,fun y hy=>i3 y (by simp[hy])⟩
      ·rw[Zmm (by rw[Zf];simp;omega),get?_nat,hx];simp only[Zmh];rw[ih x a (by omega) ha (by omega) (by omega),Zn (by omega) (by omega)];rfl
      ·unfold lf;split<;>omega
      ·unfold lf;split<;>omega
      ·rw[←i2];unfold lf;split<;>split<;>split<;>omega
     ·refine .inr ⟨a,by rw[Zml (by simp;omega)], ?_⟩
      rw[←i2];unfold lf;split<;>omega)
    (fun a⟨i0,i1,i2,_⟩=>by
     rw[XR]at i2;simp only;rw[Zml (by rw[Zf];simp)];refine⟨_,rfl,?_⟩
     rw[←i2];unfold lf;split<;>omega) (a:=m-1) ⟨by omega,by omega,rfl,fun x hx=>hx⟩ (by omega)
  rw[show((0:Nat):Int)=0 from rfl]at g1;rw[g1,g2];have e:lf (m-1) (cnts t.Kids)=lf m (cnt t):=by rw[Zaa];unfold lf;split<;>split<;>omega
  simp only[Zmh,e]
def okF(k:Nat):List UInt8→Bool
 |[]=>true
 |b::l=>(decide (97≤b.toNat∧b.toNat≤122)||(decide (k≠0)&&decide (48≤b.toNat∧b.toNat≤57)))&&okF (k+1) l
theorem Zgv(k:Nat)(b:UInt8)(l:List UInt8):okF k (b::l)=((decide (97≤b.toNat∧b.toNat≤122)||(decide (k≠0)&&decide (48≤b.toNat∧b.toNat≤57)))&&okF (k+1) l):=rfl
def nameB(s:Str):Bool:=okF 0 s.bytes&&decide (1≤s.bytes.length∧s.bytes.length≤8)
theorem Zg1{s:Str}{k:Nat}{b:UInt8}(h:s.bytes[k]? =some b):sidx? s (k:Int)=some (b.toNat:Int):=by
 unfold sidx?;rw[Zmm (by omega)];simp[h]
theorem Zk(a b c:Int):Zl a b c=some (decide (b≤a∧a≤c)):=by simp[Zl]
theorem Zix{n:Nat}{s:Str}(hl:s.bytes.length≤1048576)(hn:s.bytes.length<n):Za5 n s=some (nameB s):=by
 unfold Za5;obtain⟨r,g1,g2⟩:=Yq (l:=s.bytes) (n:=n) (σ:=Unit) (ρ:=Unit⊕Bool) (B:=fun(s1:Int)=>if(decide (s1<(len s.bytes)))then(sidx? s s1).bind fun x1=>(Zl (w64 x1) 97 122).bind fun x2=>(if(s1==0)then some default else(if(!x2)then(sidx? s s1)else some default)).bind fun x3=>(if(s1==0)then some default else(if(!x2)then(Zl (w64 x3) 48 57)else some default)).bind fun x4=>if((!x2)&&((s1==0)||(!x4)))then some (.inr (.inr false))else some (.inl ((w64 (s1+1))))else some (.inr (.inl ()))) (fun k _=>(k:Int)) (fun ys _=>okF (s.bytes.length-ys.length) ys=okF 0 s.bytes) (fun r=>r=if okF 0 s.bytes then(.inl ():Unit⊕Bool)else .inr false)
  (fun k x xs a hk' hx hlen hi=>by
   have e1:s.bytes.length-(x::xs).length=k:=by omega
   have e2:s.bytes.length-xs.length=k+1:=by simp at hlen;omega
   rw[e1]at hi;rw[e2];have hb:=x.toNat_lt;rw[←hi];simp only[Zg1 hx,Zmh,Zk];rw[Zmm (by rw[Zf];simp;omega),Zn (x:=(x.toNat:Int)) (by omega) (by omega),Zn (x:=(k:Int)+1) (by omega) (by omega)];have wx:w64 (x.toNat:Int)=x.toNat:=Zn (by omega) (by omega);rw[Zgv];by_cases c1:97≤x.toNat∧x.toNat≤122
   ·refine .inl ⟨(), ?_, ?_⟩
    ·have:((97:Int)≤x.toNat∧(x.toNat:Int)≤122):=by omega
     simp[this]
    ·simp[c1]
   ·have c1':¬((97:Int)≤x.toNat∧(x.toNat:Int)≤122):=by omega
    by_cases c2:k=0
    ·subst c2;exact .inr ⟨.inr false,by simp[c1',wx],by simp[c1]⟩
    ·by_cases c3:48≤x.toNat∧x.toNat≤57
     ·have:((48:Int)≤x.toNat∧(x.toNat:Int)≤57):=by omega
      exact .inl ⟨(),by simp[c1',c2,this,wx],by simp[c1,c2,c3]⟩
     ·have:¬((48:Int)≤x.toNat∧(x.toNat:Int)≤57):=by omega
      exact .inr ⟨.inr false,by simp[c1',c2,this,wx],by simp[c1,c2,c3]⟩)
  (fun a hi=>by
   rw[Zml (by rw[Zf];simp)];refine⟨_,rfl,?_⟩
   rw[←hi];simp[okF]) (a:=()) (by simp) hn
 rw[show((0:Nat):Int)=0 from rfl]at g1;rw[g1,g2];unfold nameB;cases okF 0 s.bytes
 ·simp
 ·simp only[Zk,Zf,Zm0,Zmh,ZmJ,Option.some.injEq,decide_eq_decide];omega
def shB(op w m:Int)(name:Str)(ws:List Int):Bool:=
 if op=0 then ws.isEmpty&&wordB w m
 else if op=22 then ws.isEmpty&&nameB name
 else if 1≤op∧op≤2 then(match ws with|[a]=>a==w|_=>false)
 else if 3≤op∧op≤13 then(match ws with|[a,b]=>a==w&&b==w|_=>false)
 else if 14≤op∧op≤16 then(match ws with|[a,b]=>a==b&&w==1|_=>false)
 else if op=17 then(match ws with|[a,b,c]=>a==1&&b==w&&c==w|_=>false)
 else if op=18 then(match ws with|[a,b]=>a+b==w|_=>false)
 else if op=19 then(match ws with|[a]=>decide (0≤m∧m≤16)&&decide (m+w≤a)|_=>false)
 else if 20≤op∧op≤21 then(match ws with|[a]=>decide (a≤w)|_=>false)
 else false
def locB(t:D.Term):Bool:=
 decide (1≤t.W∧t.W≤16)&&(Str.eqb t.Name ⟨[]⟩||t.Op==22)&&(t.N==0||t.Op==0||t.Op==19)&&shB t.Op t.W t.N t.Name (t.Kids.map (·.W))
mutual
def nodeB:D.Term→Bool
 |⟨o,w,m,s,k⟩=>locB ⟨o,w,m,s,k⟩&&nodesB k
def nodesB:List D.Term→Bool
 |[]=>true
 |x::l=>nodeB x&&nodesB l
end
theorem X6(t:D.Term):nodeB t=(locB t&&nodesB t.Kids):=by cases t;rw[nodeB]
theorem ZY:∀l:List D.Term,nodesB l=l.all nodeB
 |[]=>by rw[nodesB];rfl
 |x::l=>by rw[nodesB,ZY l];rfl
theorem YH{t:D.Term}(h:nodeB t=true):1≤t.W∧t.W≤16:=by
 rw[X6]at h;unfold locB at h;simp only[Zmk,Zms]at h;exact h.1.1.1.1
def pad3:List D.Term→List Int
 |[]=>[0,0,0]
 |[a]=>[a.W,0,0]
 |[a,b]=>[a.W,b.W,0]
 |a::b::c::_=>[a.W,b.W,c.W]
theorem ZkT{l:List D.Term}{n:Nat}(hn:4≤n):iterN (fun(s2:Int×(List Int))=>if((decide (s2.1<(len l)))&&(decide (s2.1<3)))then(get? l s2.1).bind fun x4=>(set? s2.2 s2.1 x4.W).bind fun x5=>some (.inl ((w64 (s2.1+1)),x5))else some (.inr (s2.2))) n (0,([0,0,0]:List Int))=some (pad3 l):=by
 obtain⟨n,rfl⟩:∃j,n=j+4:=⟨n-4,by omega⟩;rcases l with _|⟨a,_|⟨b,_|⟨c,l⟩⟩⟩
 ·simp[iterN,len,pad3]
 ·simp[iterN,len,pad3,get?,set?,Zn]
 ·simp[iterN,len,pad3,get?,set?,Zn]
 ·have h1:(0:Int)<(l.length:Int)+1+1+1:=by omega
  have h2:(1:Int)<(l.length:Int)+1+1+1:=by omega
  have h3:(2:Int)<(l.length:Int)+1+1+1:=by omega
  simp[iterN,len,pad3,get?,set?,Zn,h1,h2,h3]
end Go.Proofs.YtbidabmbbieeiaaGreatDoor
end
section
namespace Go.Proofs.YtbidabmbbieeiaaGreatDoor
open Go.GL
set_option maxRecDepth 100000
variable{fuel:Nat}[FU fuel]
theorem Zkx {n:Nat}{p0:D.Term}(ih:∀x∈p0.Kids,YC n x=some (nodeB x))(hk:p0.Kids.length≤1048576)(hs:p0.Name.bytes.length≤1048576)(hn:1048580≤n)(hw:1≤p0.W∧p0.W≤16):
   ((iterN (fun(s1:Int)=>if(decide (s1<(len p0.Kids)))then(get? p0.Kids s1).bind fun x2=>(YC n x2).bind fun x3=>if(!x3)then some (.inr (.inr false))else some (.inl ((w64 (s1+1))))else some (.inr (.inl ()))) n (0)).bind fun(rl1:(Unit)⊕Bool)=>match rl1 with| .inl s1r=>(iterN (fun(s2:Int×(List Int))=>if((decide (s2.1<(len p0.Kids)))&&(decide (s2.1<3)))then(get? p0.Kids s2.1).bind fun x4=>(set? s2.2 s2.1 x4.W).bind fun x5=>some (.inl ((w64 (s2.1+1)),x5))else some (.inr (s2.2))) n (0,([0,0,0]:List Int))).bind fun(rl2:(List Int))=>if(p0.Op==0)then(if((len p0.Kids)==0)then(ZH p0.W p0.N)else some default).bind fun x6=>some (((len p0.Kids)==0)&&x6)else if(p0.Op==22)then(if((len p0.Kids)==0)then(Za5 n p0.Name)else some default).bind fun x7=>some (((len p0.Kids)==0)&&x7)else(Zl p0.Op 1 2).bind fun x8=>if x8 then(if((len p0.Kids)==1)then(get? rl2 0)else some default).bind fun x9=>some (((len p0.Kids)==1)&&(x9==p0.W))else(Zl p0.Op 3 13).bind fun x10=>if x10 then(if((len p0.Kids)==2)then(get? rl2 0)else some default).bind fun x11=>(if(((len p0.Kids)==2)&&(x11==p0.W))then(get? rl2 1)else some default).bind fun x12=>some ((((len p0.Kids)==2)&&(x11==p0.W))&&(x12==p0.W))else(Zl p0.Op 14 16).bind fun x13=>if x13 then(if((len p0.Kids)==2)then(get? rl2 0)else some default).bind fun x14=>(if((len p0.Kids)==2)then(get? rl2 1)else some default).bind fun x15=>some ((((len p0.Kids)==2)&&(x14==x15))&&(p0.W==1))else if(p0.Op==17)then(if((len p0.Kids)==3)then(get? rl2 0)else some default).bind fun x16=>(if(((len p0.Kids)==3)&&(x16==1))then(get? rl2 1)else some default).bind fun x17=>(if((((len p0.Kids)==3)&&(x16==1))&&(x17==p0.W))then(get? rl2 2)else some default).bind fun x18=>some (((((len p0.Kids)==3)&&(x16==1))&&(x17==p0.W))&&(x18==p0.W))else if(p0.Op==18)then(if((len p0.Kids)==2)then(get? rl2 0)else some default).bind fun x19=>(if((len p0.Kids)==2)then(get? rl2 1)else some default).bind fun x20=>some (((len p0.Kids)==2)&&((w64 (x19+x20))==p0.W))else if(p0.Op==19)then(if((len p0.Kids)==1)then(Zl p0.N 0 16)else some default).bind fun x21=>(if(((len p0.Kids)==1)&&x21)then(get? rl2 0)else some default).bind fun x22=>some ((((len p0.Kids)==1)&&x21)&&(decide ((w64 (p0.N+p0.W))≤x22)))else(Zl p0.Op 20 21).bind fun x23=>(if(x23&&((len p0.Kids)==1))then(get? rl2 0)else some default).bind fun x24=>some ((x23&&((len p0.Kids)==1))&&(decide (x24≤p0.W)))|.inr v=>some v)=some (nodesB p0.Kids&&shB p0.Op p0.W p0.N p0.Name (p0.Kids.map (·.W))):=by
 have hl:=Zdj (l:=p0.Kids) (f:=fun x=>YC n x) (b:=nodeB) ih (by omega) p0.Kids.length 0 (by omega) n (by omega);rw[show((0:Nat):Int)=0 from rfl]at hl;rw[hl,Znq,ZY];by_cases ha:p0.Kids.all nodeB=true
 ·rw [ha]
  have hkw:∀x∈p0.Kids,1≤x.W∧x.W≤16:=fun x hx=>YH (Zmu.1 ha x hx);simp only[Zm0,Zmh,ZmJ,Zk,YQ,Zix hs (show p0.Name.bytes.length<n by omega)];rw[ZkT (by omega)];simp only[Zmh];generalize hks:p0.Kids=ks;rw[hks]at hkw;obtain⟨op,w,m,nm,_⟩:=p0;simp only at hw⊢;have g0:∀x y z:Int,get? [x,y,z] 0=some x:=fun _ _ _=>rfl;have g1:∀x y z:Int,get? [x,y,z] 1=some y:=fun _ _ _=>rfl;have g2:∀x y z:Int,get? [x,y,z] 2=some z:=fun _ _ _=>rfl;have q0:∀x y z:D.Term,∀l:List D.Term,((l.length:Int)+1+1+1+1==0)=false:=fun x y z l=>by simp;omega
  have hA:ks=[]∨(∃a:D.Term,ks=[a]∧1≤a.W∧a.W≤16)∨(∃a b:D.Term,ks=[a,b]∧(1≤a.W∧a.W≤16)∧1≤b.W∧b.W≤16)∨(∃a b c:D.Term,ks=[a,b,c])∨∃(a b c d:D.Term)(l:List D.Term),ks=a::b::c::d::l:=by
   rcases ks with _|⟨a,_|⟨b,_|⟨c,_|⟨d,l⟩⟩⟩⟩
   ·exact .inl rfl
   ·exact .inr (.inl ⟨a,rfl,hkw a (by simp)⟩)
   ·exact .inr (.inr (.inl ⟨a,b,rfl,hkw a (by simp),hkw b (by simp)⟩))
   ·exact .inr (.inr (.inr (.inl ⟨a,b,c,rfl⟩)))
   ·exact .inr (.inr (.inr (.inr ⟨a,b,c,d,l,rfl⟩)))
  rcases hA with rfl|⟨a,rfl,ha⟩|⟨a,b,rfl,ha,hb⟩|⟨a,b,c,rfl⟩|⟨a,b,c,d,l,rfl⟩
  ·simp only[pad3,Zf,ZmX,ZnB,g0,g1,g2,Zmh,ZcR];unfold shB;by_cases o0:op=0
   ·simp[o0]
   by_cases o1:op=22
   ·simp[o1]
   simp[o0,o1]
  ·have e19:∀h:0≤m∧m≤16,w64 (m+w)=m+w:=fun h=>Zn (by omega) (by omega);simp only[pad3,Zf,ZmX,Zm5,ZnB,ZmM,g0,g1,g2,Zmh,ZcR];unfold shB;by_cases o0:op=0
   ·simp[o0]
   by_cases o1:op=22
   ·simp[o1]
   by_cases o2:1≤op∧op≤2
   ·simp[o0,o1,o2]
   by_cases o3:3≤op∧op≤13
   ·simp[o0,o1,o2,o3]
   by_cases o4:14≤op∧op≤16
   ·simp[o0,o1,o2,o3,o4]
   by_cases o5:op=17
   ·simp[o5]
   by_cases o6:op=18
   ·simp[o6]
   by_cases o7:op=19
   ·by_cases hm:0≤m∧m≤16
    ·simp[o7,hm,e19 hm]
    ·simp[o7,hm]
   by_cases o8:20≤op∧op≤21
   ·simp[o0,o1,o2,o3,o4,o5,o6,o7,o8]
   simp[o0,o1,o2,o3,o4,o5,o6,o7,o8]
  ·have e18:w64 (a.W+b.W)=a.W+b.W:=Zn (by omega) (by omega);simp only[pad3,Zf,ZmX,Zm5,ZnB,ZmM,g0,g1,g2,Zmh,ZcR,e18];unfold shB;by_cases o0:op=0
   ·simp[o0]
   by_cases o1:op=22
   ·simp[o1]
   by_cases o2:1≤op∧op≤2
   ·simp[o0,o1,o2]
   by_cases o3:3≤op∧op≤13
   ·by_cases c:a.W=w
    ·simp[o0,o1,o2,o3,c]
    ·have c':(a.W==w)=false:=by simpa using c
     simp[o0,o1,o2,o3,c,c']
   by_cases o4:14≤op∧op≤16
   ·simp[o0,o1,o2,o3,o4]
   by_cases o5:op=17
   ·simp[o5]
   by_cases o6:op=18
   ·simp[o6,e18]
   by_cases o7:op=19
   ·simp[o7]
   simp[o0,o1,o2,o3,o4,o5,o6,o7]
  ·simp only[pad3,Zf,ZmX,Zm5,ZnB,ZmM,g0,g1,g2,Zmh,ZcR];unfold shB;by_cases o0:op=0
   ·simp[o0]
   by_cases o1:op=22
   ·simp[o1]
   by_cases o2:1≤op∧op≤2
   ·simp[o0,o1,o2]
   by_cases o3:3≤op∧op≤13
   ·simp[o0,o1,o2,o3]
   by_cases o4:14≤op∧op≤16
   ·simp[o0,o1,o2,o3,o4]
   by_cases o5:op=17
   ·by_cases c1:a.W=1
    ·by_cases c2:b.W=w
     ·simp[o5,c1,c2]
     ·have c2':(b.W==w)=false:=by simpa using c2
      simp[o5,c1,c2,c2']
    ·have c1':(a.W==1)=false:=by simpa using c1
     simp[o5,c1,c1']
   by_cases o6:op=18
   ·simp[o6]
   by_cases o7:op=19
   ·simp[o7]
   simp[o0,o1,o2,o3,o4,o5,o6,o7]
  ·have e0:(len (a::b::c::d::l)==0)=false:=by rw[Zf];simp;omega
   have e1:(len (a::b::c::d::l)==1)=false:=by rw[Zf];simp;omega
   have e2:(len (a::b::c::d::l)==2)=false:=by rw[Zf];simp;omega
   have e3:(len (a::b::c::d::l)==3)=false:=by rw[Zf];simp;omega
   simp only[pad3,ZmM,g0,g1,g2,Zmh,ZcR,e0,e1,e2,e3,ZmY,Bool.and_false,Zmr,Zmi];unfold shB;simp
 ·rw[Bool.not_eq_true]at ha;rw[ha];simp
theorem ZiZ:∀(n:Nat)(t:D.Term),msz t≤1048576→1048580+cnt t≤n→YC n t=some (nodeB t):=by
 intro n
 induction n with
 |zero=>intro t _ _;omega
 | succ n ih=>
  intro t hs hn;have hz:=ZaK t;have hc:=Zaa t;have ih':∀x∈t.Kids,YC n x=some (nodeB x):=fun x hx=>by
   have:=Zat hx;have:=ZbW hx;exact ih x (by omega) (by omega)
  have e0:∀c:Bool,nodeB t=(decide (1≤t.W∧t.W≤16)&&(Str.eqb t.Name ⟨[]⟩||t.Op==22)&&(t.N==0||t.Op==0||t.Op==19)&&(nodesB t.Kids&&shB t.Op t.W t.N t.Name (t.Kids.map (·.W)))):=fun _=>by
   rw[X6];unfold locB;cases nodesB t.Kids<;>simp
  have e0:=e0 true;unfold YC;rw[Zk];simp only[Zmh];have hx:∀a b c d e f:Bool,((!a||(!b&& !c))||((!d&& !e)&& !f))= !(a&&(b||c)&&(d||e||f)):=by decide
  rw[show((!decide (1≤t.W∧t.W≤16)||((!Str.eqb t.Name ⟨[]⟩)&&(t.Op !=22)))||(((t.N !=0)&&(t.Op !=0))&&(t.Op !=19)))=_ from hx _ _ _ _ _ _];cases c:(decide (1≤t.W∧t.W≤16)&&(Str.eqb t.Name ⟨[]⟩||t.Op==22)&&(t.N==0||t.Op==0||t.Op==19))
  ·rw[e0,c];rfl
  ·have hw:1≤t.W∧t.W≤16:=by
    simp only[Zmk,Zms]at c;exact c.1.1
   rw[e0,c,Zml (by decide),ZmJ];exact Zkx ih' (by omega) (by omega) (by omega) hw
end Go.Proofs.YtbidabmbbieeiaaGreatDoor
end
section
namespace Go.Proofs.YtbidabmbbieeiaaGreatDoor
open Go.GL
set_option linter.unusedSimpArgs false
variable{fuel:Nat}[FU fuel]
theorem Zjw:∀x:List UInt8,Op.bytesLess x x=false
 |[]=>rfl
 |a::x=>by simp[Op.bytesLess,Zjw x]
theorem ZgD:∀x y z:List UInt8,Op.bytesLess x y=true→Op.bytesLess y z=true→Op.bytesLess x z=true
 |_,_,[]=>by intro _ h;cases ‹List UInt8› <;>simp[Op.bytesLess]at h
 |_,[],_::_=>by intro h _;cases ‹List UInt8› <;>simp[Op.bytesLess]at h
 |[],_::_,_::_=>by intro _ _;rfl
 | a::x,b::y,c::z=>by
  intro h1 h2;simp only[Op.bytesLess,ZmR,Zms,Zmk,ZmE]at h1 h2⊢;rcases h1 with h1|⟨rfl,h1⟩
  ·rcases h2 with h2|⟨rfl,h2⟩
   ·exact .inl (UInt8.lt_trans h1 h2)
   ·exact .inl h1
  ·rcases h2 with h2|⟨rfl,h2⟩
   ·exact .inl h2
   ·exact .inr ⟨rfl,ZgD x y z h1 h2⟩
theorem Zky:∀x y:List UInt8,Op.bytesLess x y=false→x≠y→Op.bytesLess y x=true
 |[],[]=>fun _ h=>absurd rfl h
 |_::_,[]=>fun _ _=>rfl
 |[],_::_=>fun h _=>by simp[Op.bytesLess]at h
 | a::x,b::y=>by
  intro h1 h2;simp only[Op.bytesLess,Bool.or_eq_false_iff,decide_eq_false_iff_not,ZmR,Zms,Zmk,ZmE]at h1⊢;by_cases e:a=b
  ·subst e;have:Op.bytesLess x y=false:=by simpa using h1.2
   exact .inr ⟨rfl,Zky x y this (fun h=>h2 (by rw[h]))⟩
  ·rcases UInt8.lt_or_lt_of_ne e with h|h
   ·exact absurd h h1.1
   ·exact .inl h
theorem toList_mk(l:List UInt8):(ByteArray.mk l.toArray).toList=l:=by
 exact(Lib.toList_data _)
theorem Zgj(a b:Str):Str.ltb a b=Op.bytesLess a.bytes b.bytes:=by unfold Str.ltb;rw[toList_mk,toList_mk]
theorem ZcJ(a b:Str):Str.eqb a b=decide (a=b):=by
 unfold Str.eqb;rw[toList_mk,toList_mk];by_cases h:a=b
 ·subst h;simp
 ·have:a.bytes≠b.bytes:=fun e=>h (by cases a;cases b;simpa using e);simp[h,this]
theorem ZjA(a:Str):Str.ltb a a=false:=by rw[Zgj];exact Zjw _
theorem lt_trans{a b c:Str}(h1:Str.ltb a b=true)(h2:Str.ltb b c=true):Str.ltb a c=true:=by rw[Zgj]at*;exact ZgD _ _ _ h1 h2
theorem ZjP{a b:Str}(h1:Str.ltb a b=false)(h2:a≠b):Str.ltb b a=true:=by
 rw[Zgj]at*;exact Zky _ _ h1 fun e=>h2 (by cases a;cases b;simpa using e)
mutual
def vrs:D.Term→List (Str×Int)
 |⟨o,w,_,s,k⟩=>if o=22 then[(s,w)]else vrss k
def vrss:List D.Term→List (Str×Int)
 |[]=>[]
 |x::l=>vrs x++vrss l
end
theorem Ze2(t:D.Term):vrs t=if t.Op=22 then[(t.Name,t.W)]else vrss t.Kids:=by cases t;rw[vrs]
theorem ZcK(x:D.Term)(l:List D.Term):vrss (x::l)=vrs x++vrss l:=by rw[vrss]
theorem Zdq:vrss []=[]:=by rw[vrss]
def stp(g:List (Str×Int))(v:Str×Int):Option (List (Str×Int)):=
 match g.lookup v.1 with
 |some w=>if w=v.2 then some g else none
 |none=>some (v::g)
def runV(g:List (Str×Int)):List (Str×Int)→Option (List (Str×Int))
 |[]=>some g
 |v::l=>(stp g v).bind fun g'=>runV g' l
theorem ZgN(l m:List (Str×Int)):∀g,runV g (l++m)=(runV g l).bind fun g'=>runV g' m:=by
 induction l with
 |nil=>intro g;rfl
 |cons v l ih=>
  intro g;simp only[List.cons_append,runV];cases stp g v with
  |none=>rfl
  |some g'=>simp only[Zmh];exact ih g'
theorem ZhQ{g g':List (Str×Int)}{v:Str×Int}(h:stp g v=some g'):g'.length≤g.length+1:=by
 unfold stp at h;split at h
 ·split at h
  ·cases h;omega
  ·cases h
 ·cases h;simp
theorem ZeZ:∀{l g g':List (Str×Int)},runV g l=some g'→g'.length≤g.length+l.length
 |[],g,g',h=>by simp only[runV,Option.some.injEq]at h;subst h;simp
 |v::l,g,g',h=>by
  simp only[runV,Znp]at h;obtain⟨g1,h1,h2⟩:=h;have:=ZhQ h1;have:=ZeZ h2;simp only[Zm5];omega
def Rel(l:List D.Value)(g:List (Str×Int)):Prop:=
 l.Pairwise (fun a b=>Str.ltb a.Name b.Name=true)∧l.length=g.length∧(∀v∈l,g.lookup v.Name=some v.W)∧∀s w,g.lookup s=some w→∃v∈l,v.Name=s
def before(s:Str)(l:List D.Value):Nat:=(l.takeWhile fun v=>Str.ltb v.Name s).length
theorem ZdO(s:Str)(l:List D.Value):before s l≤l.length:=(List.takeWhile_sublist _).length_le
theorem ZcI{s:Str}:∀{l:List D.Value}{i:Nat}{v:D.Value},i<before s l→l[i]? =some v→Str.ltb v.Name s=true
 |[],i,v,h,hv=>by simp at hv
 | x::l,i,v,h,hv=>by
  unfold before at h;rw[List.takeWhile_cons]at h;split at h
  ·cases i with
   |zero=>simp at hv;subst hv;assumption
   |succ i=>exact ZcI (l:=l) (i:=i) (by unfold before;simpa using h) (by simpa using hv)
  ·simp at h
theorem ZcS{s:Str}:∀{l:List D.Value}{v:D.Value},l[before s l]? =some v→Str.ltb v.Name s=false
 |[],v,hv=>by simp at hv
 | x::l,v,hv=>by
  unfold before at hv;rw[List.takeWhile_cons]at hv;by_cases h:Str.ltb x.Name s=true
  ·rw[Zmm h]at hv;exact ZcS (l:=l) (by unfold before;simpa using hv)
  ·rw[Zml h]at hv;simp at hv;subst hv;simpa using h
theorem Zjv{l:List D.Value}{s:Str}{n:Nat}(hl:l.length≤1048576)(hn:l.length<n):iterN (fun(s1:Int)=>(if(decide (s1<(len l)))then(get? l s1)else some default).bind fun x1=>if((decide (s1<(len l)))&&(Str.ltb x1.Name s))then some (.inl ((w64 (s1+1))))else some (.inr (s1))) n (0)=some (before s l:Int):=by
 obtain⟨r,g1,g2⟩:=Yq (l:=l) (n:=n) (σ:=Unit) (ρ:=Int) (B:=fun(s1:Int)=>(if(decide (s1<(len l)))then(get? l s1)else some default).bind fun x1=>if((decide (s1<(len l)))&&(Str.ltb x1.Name s))then some (.inl ((w64 (s1+1))))else some (.inr (s1))) (fun k _=>(k:Int)) (fun ys _=>l.length≤before s l+ys.length) (fun r=>r=(before s l:Int))
  (fun k x xs a hk' hx hlen hi=>by
   simp only[Zm5]at hlen hi;have hd:decide ((k:Int)<len l)=true:=by rw[Zf];simp;omega
   rw[Zmm hd,get?_nat,hx];simp only[Zmh,hd,ZmJ];by_cases c:Str.ltb x.Name s=true
   ·refine .inl ⟨(),by rw[Zmm c,Zn (by omega) (by omega)];rfl, ?_⟩;have:k≠before s l:=fun e=>by
     rw[e]at hx;rw[ZcS hx]at c;cases c
    omega
   ·refine .inr ⟨(k:Int),by rw[Zml c], ?_⟩;have:¬k<before s l:=fun h=>c (ZcI h hx)
    omega)
  (fun a hi=>by
   have hd:decide ((l.length:Int)<len l)=false:=by rw[Zf];simp
   simp only[hd,Zmi,Zmr,Zmh,ZmY];have:=ZdO s l
   exact⟨_,rfl,by simp at hi;omega⟩) (a:=()) (by omega) hn
 rw[show((0:Nat):Int)=0 from rfl]at g1;rw[g1,g2]
theorem Rel.none{l:List D.Value}{g:List (Str×Int)}{s:Str}(h:Rel l g)(hn:∀v,l[before s l]? =some v→v.Name≠s):g.lookup s=none:=by
 cases e:g.lookup s with
 |none=>rfl
 | some w=>
  exfalso;obtain⟨v,hv,rfl⟩:=h.2.2.2 s w e;obtain⟨j,hj⟩:=Zn4.1 hv;rcases ZnU j (before v.Name l)with h1|h1|h1
  ·have:=ZcI h1 hj;rw[ZjA]at this;cases this
  ·rw[h1]at hj;exact hn v hj rfl
  ·obtain⟨hj',e2⟩:=Zmq.1 hj;have hu:l[before v.Name l]? =some l[before v.Name l]:=Zmn (by omega);have h2:=ZcS hu;have h3:=Zn8.1 h.1 _ _ (by omega) hj' h1;rw[e2]at h3;rw[h2]at h3;cases h3
theorem Rel.put{l:List D.Value}{g:List (Str×Int)}{s:Str}{w:Int}(h:Rel l g)(hn:∀v,l[before s l]? =some v→v.Name≠s):Rel (l.take (before s l)++[⟨s,w,0⟩]++l.drop (before s l)) ((s,w)::g):=by
 have hno:=h.none hn;have hb:=ZdO s l;have hlt:∀v∈l.take (before s l),Str.ltb v.Name s=true:=fun v hv=>by
  obtain⟨j,hj⟩:=Zn4.1 hv;rw[ZmA]at hj;split at hj
  ·exact ZcI (by assumption) hj
  ·cases hj
 have hgt:∀v∈l.drop (before s l),Str.ltb s v.Name=true:=fun v hv=>by
  obtain⟨j,hj⟩:=Zn4.1 hv;rw[Znc]at hj;obtain⟨hj',e2⟩:=Zmq.1 hj;have hu:l[before s l]? =some l[before s l]:=Zmn (by omega);have h1:=ZjP (ZcS hu) (hn _ hu);rcases Nat.eq_zero_or_pos j with rfl|hp
  ·simp only[Nat.add_zero]at e2;rw[←e2];exact h1
  ·have h3:=Zn8.1 h.1 _ _ (by omega) hj' (show before s l<before s l+j by omega);rw[e2]at h3;exact lt_trans h1 h3
 have hmem:∀v,v∈l.take (before s l)++[⟨s,w,0⟩]++l.drop (before s l)↔v=⟨s,w,0⟩∨v∈l:=fun v=>by
  have:v∈l↔v∈l.take (before s l)∨v∈l.drop (before s l):=by
   rw[←ZmD,Zn1]
  simp only[ZmD,Zmw,this];grind
 have hp:(l.take (before s l)++l.drop (before s l)).Pairwise (fun a b=>Str.ltb a.Name b.Name=true):=by rw[Zn1];exact h.1
 rw[List.pairwise_append]at hp;refine⟨?_,?_,fun v hv=>?_,fun s' w' hs=>?_⟩
 ·rw[Znj,List.pairwise_append];refine⟨hp.1,?_,fun a ha b hb=>?_⟩
  ·rw[Znl,List.pairwise_cons];exact⟨fun b hb=>hgt b hb,hp.2.1⟩
  ·rw[Znl]at hb;rcases ZmZ.1 hb with rfl|hb
   ·exact hlt a ha
   ·exact hp.2.2 a ha b hb
 ·have:=h.2.1;simp;omega
 ·rcases(hmem v).1 hv with rfl|hv
  ·simp
  ·have h1:=h.2.2.1 v hv;have:v.Name≠s:=fun e=>by rw[e,hno]at h1;cases h1
   rw[ZmK];have:(v.Name==s)=false:=by simpa using this
   rw[this];exact h1
 ·rw[ZmK]at hs;by_cases e:s'=s
  ·exact⟨_,(hmem _).2 (.inl rfl),e.symm⟩
  ·have:(s'==s)=false:=by simpa using e
   rw[this]at hs;obtain⟨v,h1,h2⟩:=h.2.2.2 s' w' hs;exact⟨v,(hmem _).2 (.inr h1),h2⟩
theorem Zlu:∀n:Nat,(∀t:D.Term,msz t<n→(vrs t).length≤cnt t)∧∀l:List D.Term,l.length+mszs l<n→(vrss l).length≤cnts l:=by
 intro n
 induction n with
 |zero=>exact⟨fun _ h=>by omega,fun _ h=>by omega⟩
 | succ n ih=>
  have hT:∀t:D.Term,msz t<n+1→(∀l:List D.Term,l.length+mszs l<n+1→(vrss l).length≤cnts l)→(vrs t).length≤cnt t:=fun t h hl=>by
   have:=ZaK t;rw[Ze2,Zaa];split
   ·simp
   ·have:=hl t.Kids (by omega);omega
  have hL:∀l:List D.Term,l.length+mszs l<n+1→(vrss l).length≤cnts l:=fun l h=>by
   cases l with
   |nil=>rw[Zdq,XR];simp
   |cons x l=>
    rw[Xn]at h;simp only[Zm5]at h;rw[ZcK,Za9,Zmz];have h1:=ih.1 x (by omega);have h2:=ih.2 l (by omega);omega
  exact⟨fun t h=>hT t h hL,hL⟩
theorem ZkD(t:D.Term):(vrs t).length≤cnt t:=(Zlu (msz t+1)).1 t (by omega)
theorem ZiF:∀(n:Nat)(t:D.Term)(l:List D.Value)(g:List (Str×Int)),msz t≤1048576→Rel l g→g.length+(vrs t).length≤1000→1048580+cnt t≤n→
  ∃l' b,YX n t l=some (l',b)∧(b=true→∃g',runV g (vrs t)=some g'∧Rel l' g')∧(b=false→runV g (vrs t)=none):=by
 intro n
 induction n with
 |zero=>intro t l g _ _ _ _;omega
 | succ n ih=>
  intro t l g hs hr hg hn;have hz:=ZaK t;have hc:=Zaa t;have hlen:=hr.2.1;unfold YX;by_cases ho:t.Op=22
  ·rw [Zmm (by simpa using ho),Zjv (by omega) (by omega)]
   simp only[Zmh];have hb:=ZdO t.Name l;have hv:vrs t=[(t.Name,t.W)]:=by rw[Ze2,Zmm ho]
   rw[hv];have hrun:runV g [(t.Name,t.W)]=stp g (t.Name,t.W):=by
    simp only[runV];cases stp g (t.Name,t.W)<;>rfl
   rw[hrun];by_cases hf:∃v,l[before t.Name l]? =some v∧v.Name=t.Name
   ·obtain⟨v,hv1,hv2⟩:=hf;obtain⟨hlt,-⟩:=Zmq.1 hv1;have hd:decide ((before t.Name l:Int)<len l)=true:=by rw[Zf];simp;omega
    have hk:g.lookup t.Name=some v.W:=by rw[←hv2];exact hr.2.2.1 v (Zne hv1)
    simp only[hd,Zm0,get?_nat,hv1,Zmh,ZmJ,ZcJ,hv2,decide_true];refine⟨_,_,rfl,fun h=>⟨g,?_,hr⟩,fun h=>?_⟩
    ·unfold stp;rw[hk];simp only;rw[Zmm (by simpa using h)]
    ·unfold stp;rw[hk];simp only;rw[Zml (by simpa using h)]
   ·have hne:∀v,l[before t.Name l]? =some v→v.Name≠t.Name:=fun v h e=>hf ⟨v,h,e⟩;have hno:=hr.none hne;have hx:∃x2,(if(decide ((before t.Name l:Int)<(len l)))=true then(get? l (before t.Name l:Int))else some default)=some x2∧(decide ((before t.Name l:Int)<(len l))&&Str.eqb x2.Name t.Name)=false:=by
     by_cases hlt:before t.Name l<l.length
     ·have hd:decide ((before t.Name l:Int)<len l)=true:=by rw[Zf];simp;omega
      refine⟨l[before t.Name l],?_,?_⟩
      ·rw[Zmm hd,get?_nat,Zmn hlt]
      ·rw[ZcJ,decide_eq_false (hne _ (Zmn hlt))];simp
     ·have hd:decide ((before t.Name l:Int)<len l)=false:=by rw[Zf];simp;omega
      exact⟨default,by rw[hd];rfl,by rw[hd];rfl⟩
    obtain⟨x2,hx1,hx2⟩:=hx;rw[hx1];simp only[Zmh,hx2,Zmi,Zmr];have c1:cut? l 0 (before t.Name l:Int)=some (l.take (before t.Name l)):=by
     unfold cut?;rw[Zmm ⟨by omega,by omega,by omega⟩];simp
    have c2:cut? l (before t.Name l:Int) (len l)=some (l.drop (before t.Name l)):=by
     unfold cut?;rw[Zf,Zmm ⟨by omega,by omega,by omega⟩];simp
    have c3:app? ([]:List D.Value) (l.take (before t.Name l))=some (l.take (before t.Name l)):=by
     unfold app?;rw[Zmm (by unfold room;simp;omega)];rfl
    have c4:app? (l.take (before t.Name l)) [(⟨t.Name,t.W,0⟩:D.Value)]=some (l.take (before t.Name l)++[⟨t.Name,t.W,0⟩]):=by
     unfold app?;rw[Zmm (by unfold room;simp;omega)]
    have c5:app? (l.take (before t.Name l)++[(⟨t.Name,t.W,0⟩:D.Value)]) (l.drop (before t.Name l))=some (l.take (before t.Name l)++[⟨t.Name,t.W,0⟩]++l.drop (before t.Name l)):=by
     unfold app?;rw[Zmm (by unfold room;simp;omega)]
    simp only[c1,c2,c3,c4,c5,Zmh];refine⟨_,_,rfl,fun _=>⟨(t.Name,t.W)::g,?_,hr.put hne⟩,fun h=>by cases h⟩;unfold stp;rw[hno]
  ·rw [Zml (by simpa using ho)]
   have hv:vrs t=vrss t.Kids:=by rw[Ze2,Zml ho]
   rw[hv]at hg⊢;obtain⟨r,g1,g2⟩:=Yq (l:=t.Kids) (n:=n) (σ:=List D.Value) (ρ:=(List D.Value)⊕((List D.Value)×Bool)) (B:=fun(s2:(List D.Value)×Int)=>if(decide (s2.2<(len t.Kids)))then(get? t.Kids s2.2).bind fun x9=>(YX n x9 s2.1).bind fun x10=>if(!x10.2)then some (.inr (.inr (([]:List D.Value),false)))else some (.inl (x10.1,(w64 (s2.2+1))))else some (.inr (.inl (s2.1)))) (fun k a=>(a,(k:Int))) (fun ys a=>∃ga,Rel a ga∧runV ga (vrss ys)=runV g (vrss t.Kids)∧ga.length+(vrss ys).length≤1000∧∀x∈ys,x∈t.Kids)
     (fun r=>(∃l',r= .inl l'∧∃g',runV g (vrss t.Kids)=some g'∧Rel l' g')∨(r= .inr ([],false)∧runV g (vrss t.Kids)=none))
     (fun k x xs a hk' hx hlen⟨ga,i0,i1,i2,i3⟩=>by
      have hxk:=i3 x (by simp);have:=Zat hxk;have:=ZbW hxk;rw[ZcK,ZgN]at i1;rw[ZcK,Zmz]at i2;obtain⟨l',b,e1,e2,e3⟩:=ih x a ga (by omega) i0 (by omega) (by omega);have hd:decide ((k:Int)<len t.Kids)=true:=by rw[Zf];simp;omega
      simp only[hd,Zm0,get?_nat,hx,Zmh,e1];cases b with
      |false=>
       refine .inr ⟨_,rfl,.inr ⟨rfl,?_⟩⟩;rw[e3 rfl]at i1;exact i1.symm
      |true=>
       obtain⟨g',h1,h2⟩:=e2 rfl;refine .inl ⟨l',by simp only[Zmp,Zmi,Zmr];rw[Zn (by omega) (by omega)];rfl,g',h2,?_,?_,fun y hy=>i3 y (by simp[hy])⟩
       ·rw[h1]at i1;exact i1
       ·have:=ZeZ h1;omega)
     (fun a⟨ga,i0,i1,i2,i3⟩=>by
      have hd:decide ((t.Kids.length:Int)<len t.Kids)=false:=by rw[Zf];simp
      simp only[hd,Zmi,Zmr];rw[Zdq]at i1
      exact⟨_,rfl,.inl ⟨a,rfl,ga,i1.symm,i0⟩⟩) (a:=l) ⟨g,hr,rfl,hg,fun x hx=>hx⟩ (by omega)
   rw[show((0:Nat):Int)=0 from rfl]at g1;rw[g1];rcases g2 with⟨l',rfl,g',h1,h2⟩|⟨rfl,h1⟩
   ·exact⟨l',true,rfl,fun _=>⟨g',h1,h2⟩,fun h=>by cases h⟩
   ·exact⟨[],false,rfl,fun h=>(by cases h),fun _=>h1⟩
def termB(t:D.Term):Bool:=decide (cnt t≤240)&&nodeB t&&(runV [] (vrs t)).isSome
theorem Zjg{t:D.Term}(h:msz t≤1048576):Zbo fuel t=some (termB t):=by
 unfold Zbo termB;rw[few fuel t 240 h (by omega) (by omega) (by have:=FU.le (n:=fuel);omega)];simp only[Zmh];by_cases hc:cnt t≤240
 ·have e:decide (lf 240 (cnt t)≥0)=true:=by unfold lf;rw[Zml (by omega)];simp;omega
  rw[ZiZ fuel t h (by have:=FU.le (n:=fuel);omega)];simp only[e,Zmp,Zmi,Zmr,Zmh,hc,decide_true,ZmJ];cases hb:nodeB t
  ·simp
  ·have hv:=ZkD t;obtain⟨l',b,e1,e2,e3⟩:=ZiF fuel t [] [] h ⟨List.Pairwise.nil,rfl,by simp,by simp⟩ (by simp;omega) (by have:=FU.le (n:=fuel);omega);rw[e1];cases b with
   |false=>rw[e3 rfl];rfl
   |true=>obtain⟨g',h1,-⟩:=e2 rfl;rw[h1];rfl
 ·have e:decide (lf 240 (cnt t)≥0)=false:=by unfold lf;rw[Zmm (by omega)];rfl
  simp[e,hc]
end Go.Proofs.YtbidabmbbieeiaaGreatDoor
end
section
namespace Go.Proofs.YtbidabmbbieeiaaGreatDoor
open Go.GL
set_option linter.unusedSimpArgs false
set_option maxRecDepth 100000
variable{fuel:Nat}[FU fuel]
theorem ZfI{n:Nat}{s:Str}(hl:s.bytes.length≤1048576)(hn:s.bytes.length<n):ZaA n s=some (nameB s):=by
 unfold ZaA;by_cases hlen:1≤s.bytes.length∧s.bytes.length≤8
 ·rw [Zml (by rw[Zf];simp;omega)]
  obtain⟨r,g1,g2⟩:=Yq (l:=s.bytes) (n:=n) (σ:=Unit) (ρ:=Unit⊕Bool) (B:=fun(s1:Int)=>if(decide (s1<(len s.bytes)))then(sidx? s s1).bind fun x1=>(if(decide (x1≥97))then(sidx? s s1)else some default).bind fun x2=>(sidx? s s1).bind fun x3=>(if(decide (x3≥48))then(sidx? s s1)else some default).bind fun x4=>if((!((decide (x1≥97))&&(decide (x2≤122))))&&(!(((decide (x3≥48))&&(decide (x4≤57)))&&(decide (s1>0)))))then some (.inr (.inr false))else some (.inl ((w64 (s1+1))))else some (.inr (.inl ()))) (fun k _=>(k:Int)) (fun ys _=>okF (s.bytes.length-ys.length) ys=okF 0 s.bytes) (fun r=>r=if okF 0 s.bytes then(.inl ():Unit⊕Bool)else .inr false)
   (fun k x xs a hk' hx hlen hi=>by
    have e1:s.bytes.length-(x::xs).length=k:=by omega
    have e2:s.bytes.length-xs.length=k+1:=by simp at hlen;omega
    rw[e1]at hi;rw[e2];have hb:=x.toNat_lt;rw[←hi];simp only[Zg1 hx,Zmh];rw[Zmm (by rw[Zf];simp;omega),Zn (by omega) (by omega)];have hd:∀c:Bool,∃y:Int,(if c=true then(some (x.toNat:Int))else some default)=some y∧(c=true→y=x.toNat):=fun c=>by
     cases c
     ·exact⟨_,rfl,fun h=>by cases h⟩
     ·exact⟨_,rfl,fun _=>rfl⟩
    obtain⟨y2,h2,i2⟩:=hd (decide ((x.toNat:Int)≥97));obtain⟨y4,h4,i4⟩:=hd (decide ((x.toNat:Int)≥48));rw[h2,h4];simp only[Zmh];have j2:(decide ((x.toNat:Int)≥97)&&decide (y2≤122))=decide (97≤x.toNat∧x.toNat≤122):=by
     by_cases c:(x.toNat:Int)≥97
     ·rw[i2 (by simpa using c),Zn5];simp only[Zmk,Zms];omega
     ·rw[Zn5];simp only[Zmk,Zms];omega
    have j4:(decide ((x.toNat:Int)≥48)&&decide (y4≤57))=decide (48≤x.toNat∧x.toNat≤57):=by
     by_cases c:(x.toNat:Int)≥48
     ·rw[i4 (by simpa using c),Zn5];simp only[Zmk,Zms];omega
     ·rw[Zn5];simp only[Zmk,Zms];omega
    rw[j2,j4,Zgv];by_cases c1:97≤x.toNat∧x.toNat≤122
    ·exact .inl ⟨(),by simp[c1],by simp[c1]⟩
    ·by_cases c3:48≤x.toNat∧x.toNat≤57
     ·by_cases c2:k=0
      ·subst c2;exact .inr ⟨.inr false,by simp[c1,c3],by simp[c1]⟩
      ·have:(0:Int)<(k:Int):=by omega
       exact .inl ⟨(),by simp[c1,c3,this,c2],by simp[c1,c2,c3]⟩
     ·exact .inr ⟨.inr false,by simp[c1,c3],by simp[c1,c3]⟩)
   (fun a hi=>by
    rw[Zml (by rw[Zf];simp)];refine⟨_,rfl,?_⟩
    rw[←hi];simp[okF]) (a:=()) (by simp) hn
  rw[show((0:Nat):Int)=0 from rfl]at g1;rw[g1,g2];unfold nameB;rw[decide_eq_true hlen];cases okF 0 s.bytes<;>rfl
 ·rw[Zmm (by rw[Zf];simp;omega)];unfold nameB;rw[decide_eq_false hlen];simp
def kc(o:Int):Int:=(YL o).getD 0
theorem ZlC(o:Int):YL o=some (kc o):=by
 unfold kc;have:∃k,YL o=some k:=by
  unfold YL;split
  ·exact⟨_,rfl⟩
  ·split
   ·exact⟨_,rfl⟩
   ·split
    ·exact⟨_,rfl⟩
    ·split
     ·exact⟨_,rfl⟩
     ·exact⟨_,rfl⟩
 obtain⟨k,h⟩:=this;rw[h];rfl
theorem Zgu(w:Int):ZL w=some (decide (1≤w∧w≤16)):=by simp[ZL]
theorem ZkU{t:D.Term}(hw:1≤t.W∧t.W≤16)(hk:∀x∈t.Kids,1≤x.W∧x.W≤16)(hl:(t.Kids.length:Int)=kc t.Op):
  ∃f,Zaf t=some f∧shB t.Op t.W t.N t.Name (t.Kids.map (·.W))=(f&&(t.Op !=0||wordB t.W t.N)&&(t.Op !=22||nameB t.Name)):=by
 obtain⟨op,w,m,nm,ks⟩:=t;simp only at hw hk hl⊢;unfold Zaf shB;simp only;have g0:∀(x:D.Term)(l:List D.Term),get? (x::l) 0=some x:=fun _ _=>rfl;have g1:∀(x y:D.Term)(l:List D.Term),get? (x::y::l) 1=some y:=fun _ _ _=>rfl;have g2:∀(x y z:D.Term)(l:List D.Term),get? (x::y::z::l) 2=some z:=fun _ _ _ _=>rfl;have l0:ks.length=0→ks=[]:=fun h=>ZmH.1 h;have l1:ks.length=1→∃a,ks=[a]:=fun h=>List.length_eq_one_iff.1 h;have l2:ks.length=2→∃a b,ks=[a,b]:=fun h=>by
  rcases ks with _|⟨a,_|⟨b,_|⟨c,l⟩⟩⟩<;>simp at h;exact⟨_,_,rfl⟩
 have l3:ks.length=3→∃a b c,ks=[a,b,c]:=fun h=>by
  rcases ks with _|⟨a,_|⟨b,_|⟨c,_|⟨d,l⟩⟩⟩⟩<;>simp at h;exact⟨_,_,_,rfl⟩
 unfold kc YL at hl;by_cases o0:op=0
 ·subst o0;obtain rfl:=l0 (by simp at hl;simp[hl]);exact⟨true,by simp,by simp⟩
 by_cases o1:op=22
 ·subst o1;obtain rfl:=l0 (by simp at hl;simp[hl]);exact⟨true,by simp,by simp⟩
 have q0:(op !=0)=true:=by simpa using o0
 have q1:(op !=22)=true:=by simpa using o1
 by_cases o2:1≤op∧op≤2
 ·have:op=1∨op=2:=by omega
  obtain⟨a,rfl⟩:=l1 (by rcases this with rfl|rfl<;>simp at hl<;>omega);refine⟨a.W==w,?_,?_⟩
  ·rcases this with rfl|rfl<;>simp[g0]
  ·simp[o0,o1,o2,q0,q1]
 by_cases o3:3≤op∧op≤13
 ·obtain⟨a,b,rfl⟩:=l2 (by
   have h1:¬(op=1):=by omega
   have h2:¬(op=2):=by omega
   have h3:¬(op=19):=by omega
   have h4:¬(op=20):=by omega
   have h5:¬(op=21):=by omega
   have h6:3≤op∧op≤16:=by omega
   simp[o0,o1,h1,h2,h3,h4,h5,h6]at hl;omega)
  refine⟨a.W==w&&b.W==w,?_,?_⟩
  ·have h1:¬(op=1):=by omega
   have h2:¬(op=2):=by omega
   by_cases c:a.W=w
   ·simp[g0,g1,o0,o1,h1,h2,o3,c]
   ·have c':(a.W==w)=false:=by simpa using c
    simp[g0,g1,o0,o1,h1,h2,o3,c,c']
  ·simp[o0,o1,o2,o3,q0,q1]
 by_cases o4:14≤op∧op≤16
 ·obtain⟨a,b,rfl⟩:=l2 (by
   have h1:¬(op=1):=by omega
   have h2:¬(op=2):=by omega
   have h3:¬(op=19):=by omega
   have h4:¬(op=20):=by omega
   have h5:¬(op=21):=by omega
   have h6:3≤op∧op≤16:=by omega
   simp[o0,o1,h1,h2,h3,h4,h5,h6]at hl;omega)
  refine⟨a.W==b.W&&w==1,?_,?_⟩
  ·have h1:¬(op=1):=by omega
   have h2:¬(op=2):=by omega
   simp[g0,g1,o0,o1,h1,h2,o3,o4]
  ·simp[o0,o1,o2,o3,o4,q0,q1]
 by_cases o5:op=17
 ·subst o5;obtain⟨a,b,c,rfl⟩:=l3 (by simp at hl;omega);refine⟨a.W==1&&b.W==w&&c.W==w,?_,?_⟩
  ·by_cases c1:a.W=1
   ·by_cases c2:b.W=w
    ·simp[g0,g1,g2,c1,c2]
    ·have c2':(b.W==w)=false:=by simpa using c2
     simp[g0,g1,g2,c1,c2,c2']
   ·have c1':(a.W==1)=false:=by simpa using c1
    simp[g0,g1,g2,c1,c1']
  ·simp
 by_cases o6:op=18
 ·subst o6;obtain⟨a,b,rfl⟩:=l2 (by simp at hl;omega);have ha:=hk a (by simp);have hb:=hk b (by simp);have e18:w64 (a.W+b.W)=a.W+b.W:=Zn (by omega) (by omega);exact⟨a.W+b.W==w,by simp[g0,g1,e18],by simp⟩
 by_cases o7:op=19
 ·subst o7;obtain⟨a,rfl⟩:=l1 (by simp at hl;omega);have ha:=hk a (by simp);have e19:w64 (a.W-w)=a.W-w:=Zn (by omega) (by omega);refine⟨decide (0≤m)&&decide (m≤a.W-w),?_,?_⟩
  ·by_cases c:0≤m
   ·simp[g0,e19,c]
   ·simp[g0,e19,c]
  ·simp only[ZmM,ZnB];rw[Zn5];simp;omega
 by_cases o8:20≤op∧op≤21
 ·have:op=20∨op=21:=by omega
  obtain⟨a,rfl⟩:=l1 (by rcases this with rfl|rfl<;>simp at hl<;>omega);refine⟨decide (a.W≤w),?_,?_⟩
  ·rcases this with rfl|rfl<;>simp[g0]
  ·rcases this with rfl|rfl<;>simp
 exfalso;have h1:¬(op=1):=by omega
 have h2:¬(op=2):=by omega
 have h4:¬(op=20):=by omega
 have h5:¬(op=21):=by omega
 have h6:¬(3≤op∧op≤16):=by omega
 simp[o0,o1,h1,h2,o7,h4,h5,h6,o6,o5]at hl
theorem Zlk{t:D.Term}(hl:¬(t.Kids.length:Int)=kc t.Op):shB t.Op t.W t.N t.Name (t.Kids.map (·.W))=false:=by
 obtain⟨op,w,m,nm,ks⟩:=t;simp only at hl⊢;unfold shB;unfold kc YL at hl;have hks:ks=[]∨(∃a:D.Term,ks=[a])∨(∃a b:D.Term,ks=[a,b])∨(∃a b c:D.Term,ks=[a,b,c])∨∃(a b c d:D.Term)(l:List D.Term),ks=a::b::c::d::l:=by
  rcases ks with _|⟨a,_|⟨b,_|⟨c,_|⟨d,l⟩⟩⟩⟩
  ·exact .inl rfl
  ·exact .inr (.inl ⟨a,rfl⟩)
  ·exact .inr (.inr (.inl ⟨a,b,rfl⟩))
  ·exact .inr (.inr (.inr (.inl ⟨a,b,c,rfl⟩)))
  ·exact .inr (.inr (.inr (.inr ⟨a,b,c,d,l,rfl⟩)))
 by_cases o0:op=0
 ·subst o0;rcases hks with rfl|⟨a,rfl⟩|⟨a,b,rfl⟩|⟨a,b,c,rfl⟩|⟨a,b,c,d,l,rfl⟩<;>simp at hl⊢
 by_cases o1:op=22
 ·subst o1;rcases hks with rfl|⟨a,rfl⟩|⟨a,b,rfl⟩|⟨a,b,c,rfl⟩|⟨a,b,c,d,l,rfl⟩<;>simp at hl⊢
 by_cases o2:1≤op∧op≤2
 ·have:op=1∨op=2:=by omega
  rcases this with rfl|rfl<;>rcases hks with rfl|⟨a,rfl⟩|⟨a,b,rfl⟩|⟨a,b,c,rfl⟩|⟨a,b,c,d,l,rfl⟩<;>simp at hl⊢
 have h1:¬(op=1):=by omega
 have h2:¬(op=2):=by omega
 by_cases o3:3≤op∧op≤13
 ·have h3:¬(op=19):=by omega
  have h4:¬(op=20):=by omega
  have h5:¬(op=21):=by omega
  have h6:3≤op∧op≤16:=by omega
  simp[o0,o1,h1,h2,h3,h4,h5,h6]at hl;rcases hks with rfl|⟨a,rfl⟩|⟨a,b,rfl⟩|⟨a,b,c,rfl⟩|⟨a,b,c,d,l,rfl⟩<;>simp[o0,o1,o2,o3]at hl⊢
 by_cases o4:14≤op∧op≤16
 ·have h3:¬(op=19):=by omega
  have h4:¬(op=20):=by omega
  have h5:¬(op=21):=by omega
  have h6:3≤op∧op≤16:=by omega
  simp[o0,o1,h1,h2,h3,h4,h5,h6]at hl;rcases hks with rfl|⟨a,rfl⟩|⟨a,b,rfl⟩|⟨a,b,c,rfl⟩|⟨a,b,c,d,l,rfl⟩<;>simp[o0,o1,o2,o3,o4]at hl⊢
 by_cases o5:op=17
 ·subst o5;rcases hks with rfl|⟨a,rfl⟩|⟨a,b,rfl⟩|⟨a,b,c,rfl⟩|⟨a,b,c,d,l,rfl⟩<;>simp at hl⊢
 by_cases o6:op=18
 ·subst o6;rcases hks with rfl|⟨a,rfl⟩|⟨a,b,rfl⟩|⟨a,b,c,rfl⟩|⟨a,b,c,d,l,rfl⟩<;>simp at hl⊢
 by_cases o7:op=19
 ·subst o7;rcases hks with rfl|⟨a,rfl⟩|⟨a,b,rfl⟩|⟨a,b,c,rfl⟩|⟨a,b,c,d,l,rfl⟩<;>simp at hl⊢
 by_cases o8:20≤op∧op≤21
 ·have:op=20∨op=21:=by omega
  rcases this with rfl|rfl<;>rcases hks with rfl|⟨a,rfl⟩|⟨a,b,rfl⟩|⟨a,b,c,rfl⟩|⟨a,b,c,d,l,rfl⟩<;>simp at hl⊢
 simp[o0,o1,o2,o3,o4,o5,o6,o7,o8]
end Go.Proofs.YtbidabmbbieeiaaGreatDoor
end
section
namespace Go.Proofs.YtbidabmbbieeiaaGreatDoor
open Go.GL
set_option linter.unusedSimpArgs false
set_option maxRecDepth 100000
variable{fuel:Nat}[FU fuel]
abbrev tab(m:Option (List (Str×Int))):List (Str×Int):=m.getD []
theorem get2{g:List (Str×Int)}{s:Str}(hs:s.bytes.length≤1048576):mget2? fitS (0:Int) g s=some ((g.lookup s).getD 0,(g.lookup s).isSome):=by
 unfold mget2?;rw[Zmm (by unfold fitS;simp;omega)]
theorem put1{g:List (Str×Int)}{s:Str}{w:Int}(hs:s.bytes.length≤1048576)(hw:1≤w∧w≤16)(hg:g.length≤1000):mputE? fitS fitZ g s w=some ((s,w)::g):=by
 unfold mputE?;rw[Zmm ⟨by unfold fitS;simp;omega,by unfold fitZ;simp[Lit.wf];exact⟨by show(-9223372036854775808:Int)≤w;omega,by omega⟩,by unfold room;omega⟩]
theorem ZjC{n:Nat}{c:D.termCheck}{t:D.Term}(hs:t.Name.bytes.length≤1048576)(hn:1048580≤n)(hw:1≤t.W∧t.W≤16)(hg:(tab c.widths).length≤1000):
  ∃b m,Yz n c t=some (b,⟨c.count,m⟩)∧(b=true→nameB t.Name=true∧stp (tab c.widths) (t.Name,t.W)=some (tab m))∧(b=false→nameB t.Name=false∨stp (tab c.widths) (t.Name,t.W)=none):=by
 obtain⟨cc,ww⟩:=c;unfold Yz;rw[ZfI hs (by omega)];simp only[Zmh];cases hb:nameB t.Name
 ·exact⟨false,ww,rfl,fun h=>(by cases h),fun _=>.inl rfl⟩
 ·simp only[Zmp,Zmi,Zmr];cases ww with
  |none=>
   simp only[Option.isNone_none,Zm0];rw[get2 hs];simp only[Zmh,List.lookup_nil,Option.isSome_none,Zmi,Zmr];rw[put1 hs hw (by simp)];exact⟨true,_,rfl,fun _=>⟨trivial,rfl⟩,fun h=>(by cases h)⟩
  | some g=>
   simp only[Option.isNone_some,Zmi,Zmr,ZmN];rw[get2 hs];simp only[Zmh];unfold stp;simp only[tab,ZmN]at hg⊢;cases hl:g.lookup t.Name with
   |some w=>
    simp only[Option.isSome_some,Zm0,ZmN];refine⟨_,_,rfl,fun h=>⟨trivial,?_⟩,fun h=>.inr ?_⟩
    ·rw[Zmm (by simpa using h)];rfl
    ·rw[Zml (by simpa using h)]
   |none=>
    simp only[Option.isSome_none,Zmi,Zmr];rw[put1 hs hw hg];exact⟨true,_,rfl,fun _=>⟨trivial,rfl⟩,fun h=>(by cases h)⟩
theorem Zf9 {n:Nat}{ks:List D.Term}{c0:Int}{w0:Option (List (Str×Int))}(hn:1048580≤n)(hks:ks.length≤1048576)(hc:0≤c0)(hc':c0≤240)(hg:(tab w0).length≤c0)
    (ih:∀x∈ks,∀c:D.termCheck,c0≤c.count→c.count≤240→(tab c.widths).length≤c.count→∃b c',ZG n c x=some (b,c')∧(b=true→c.count+cnt x≤240∧nodeB x=true∧c'.count=c.count+cnt x∧runV (tab c.widths) (vrs x)=some (tab c'.widths))∧(b=false→¬(c.count+cnt x≤240∧nodeB x=true∧(runV (tab c.widths) (vrs x)).isSome=true))):
    ∃ r,iterN (fun(s2:Int×Int×(Option (List (Str×Int))))=>if (decide (s2.1<(len ks)))then(get? ks s2.1).bind fun x7=>(ZG n (D.termCheck.mk s2.2.1 s2.2.2) x7).bind fun x8=>if(!x8.1)then some (.inr (.inr (false,x8.2)))else some (.inl ((w64 (s2.1+1)),x8.2.count,x8.2.widths))else some (.inr (.inl (s2.2.1,s2.2.2)))) n (0,c0,w0)=some (r:(Int×(Option (List (Str×Int))))⊕(Bool×D.termCheck))∧
      ((∃cc ww,r= .inl (cc,ww)∧cc=c0+cnts ks∧cc≤240∧nodesB ks=true∧runV (tab w0) (vrss ks)=some (tab ww))∨∃c',r= .inr (false,c')∧¬(c0+cnts ks≤240∧nodesB ks=true∧(runV (tab w0) (vrss ks)).isSome=true)):=by
  have hrl:=ZkD
  exact Yq (l:=ks) (n:=n) (σ:=Int×(Option (List (Str×Int)))) (ρ:=(Int×(Option (List (Str×Int))))⊕(Bool×D.termCheck)) (B:=fun(s2:Int×Int×(Option (List (Str×Int))))=>if (decide (s2.1<(len ks)))then(get? ks s2.1).bind fun x7=>(ZG n (D.termCheck.mk s2.2.1 s2.2.2) x7).bind fun x8=>if(!x8.1)then some (.inr (.inr (false,x8.2)))else some (.inl ((w64 (s2.1+1)),x8.2.count,x8.2.widths))else some (.inr (.inl (s2.2.1,s2.2.2)))) (fun k a=>((k:Int),a.1,a.2))
      (fun ys a=>c0≤a.1∧a.1≤240∧(tab a.2).length≤a.1∧a.1+cnts ys=c0+cnts ks∧nodesB ys=nodesB ks∧runV (tab a.2) (vrss ys)=runV (tab w0) (vrss ks)∧∀x∈ys,x∈ks) _
      (fun k x xs a hk' hx hlen⟨i0,i1,i2,i3,i4,i5,i6⟩=>by
        obtain⟨ac,aw⟩:=a;simp only at i0 i1 i2 i3 i5;rw[Za9]at i3;rw[ZY,ZnW,←ZY]at i4;rw[ZcK,ZgN]at i5;have hd:decide ((k:Int)<len ks)=true:=by rw[Zf];simp;omega
        obtain⟨b,c',e1,e2,e3⟩:=ih x (i6 x (by simp)) ⟨ac,aw⟩ i0 i1 i2;simp only[hd,Zm0,get?_nat,hx,Zmh,e1];cases b with
        | false=>
          refine .inr ⟨_,rfl,.inr ⟨c',rfl,fun⟨h1,h2,h3⟩=>e3 rfl ⟨?_,?_,?_⟩⟩⟩
          · simp only;omega
          · rw[←i4,Zmk]at h2;exact h2.1
          · rw[←i5]at h3
            simp only;cases hq:runV (tab aw) (vrs x)with
            |none=>rw[hq]at h3;cases h3
            |some _=>rfl
        | true=>
          obtain⟨h1,h2,h3,h4⟩:=e2 rfl;simp only at h1 h3 h4;refine .inl ⟨(c'.count,c'.widths),by simp only[Zmp,Zmi,Zmr];rw[Zn (by omega) (by omega)];rfl,by simp only;omega,by simp only;omega,?_,by simp only;omega,by rw[←i4,h2,ZmJ],?_,fun y hy=>i6 y (by simp[hy])⟩
          · have:=ZeZ h4
            have:=hrl x;simp only;omega
          · rw[h4]at i5;exact i5)
      (fun a⟨i0,i1,i2,i3,i4,i5,i6⟩=>by
        obtain⟨ac,aw⟩:=a;have hd:decide ((ks.length:Int)<len ks)=false:=by rw[Zf];simp
        simp only[hd,Zmi,Zmr];rw[XR]at i3;rw[Zdq]at i5;refine⟨_,rfl,.inl ⟨ac,aw,rfl,by simp only at i3;omega,i1,?_,i5.symm⟩⟩
        rw[←i4,ZY];rfl) (a:=(c0,w0)) ⟨by simp only;omega,hc',hg,rfl,rfl,rfl,fun x hx=>hx⟩ (by omega)
end Go.Proofs.YtbidabmbbieeiaaGreatDoor
end
section
namespace Go.Proofs.YtbidabmbbieeiaaGreatDoor
open Go.GL
set_option linter.unusedSimpArgs false
set_option maxRecDepth 100000
variable{fuel:Nat}[FU fuel]
def wsB(ks:List D.Term):Bool:=ks.all fun x=>decide (1≤x.W∧x.W≤16)
theorem ZlF{ks:List D.Term}(h:nodesB ks=true):wsB ks=true:=by
 rw[ZY,Zmu]at h;unfold wsB;rw[Zmu];exact fun x hx=>decide_eq_true (YH (h x hx))
theorem Zhj{n:Nat}{ks:List D.Term}{v:Bool×D.termCheck}(hn:ks.length<n)(hk:ks.length≤1048576):iterN (fun(s1:Int)=>if(decide (s1<(len ks)))then(get? ks s1).bind fun x3=>(ZL x3.W).bind fun x4=>if(!x4)then some (.inr (.inr v))else some (.inl ((w64 (s1+1))))else some (.inr (.inl ()))) n (0)=some (if wsB ks=true then(.inl ():Unit⊕(Bool×D.termCheck))else .inr v):=by
 obtain⟨r,g1,g2⟩:=Yq (l:=ks) (n:=n) (σ:=Unit) (ρ:=Unit⊕(Bool×D.termCheck)) (B:=fun(s1:Int)=>if(decide (s1<(len ks)))then(get? ks s1).bind fun x3=>(ZL x3.W).bind fun x4=>if(!x4)then some (.inr (.inr v))else some (.inl ((w64 (s1+1))))else some (.inr (.inl ()))) (fun k _=>(k:Int)) (fun ys _=>wsB ys=wsB ks) (fun r=>r=if wsB ks=true then(.inl ():Unit⊕(Bool×D.termCheck))else .inr v)
  (fun k x xs a hk' hx hlen hi=>by
   have hd:decide ((k:Int)<len ks)=true:=by rw[Zf];simp;omega
   simp only[hd,Zm0,get?_nat,hx,Zmh,Zgu];have e:wsB (x::xs)=(decide (1≤x.W∧x.W≤16)&&wsB xs):=rfl;rw[e]at hi;by_cases c:1≤x.W∧x.W≤16
   ·rw[decide_eq_true c,ZmJ]at hi;exact .inl ⟨(),by rw[decide_eq_true c,Zml (by decide),Zn (by omega) (by omega)];rfl,hi⟩
   ·rw[decide_eq_false c,ZmY]at hi
    exact .inr ⟨_,by rw[decide_eq_false c,Zmm (by decide)],by rw[←hi];rfl⟩)
  (fun a hi=>by
   have hd:decide ((ks.length:Int)<len ks)=false:=by rw[Zf];simp
   simp only[hd,Zmi,Zmr]
   exact⟨_,rfl,by rw[←hi];rfl⟩) (a:=()) rfl hn
 rw[show((0:Nat):Int)=0 from rfl]at g1;rw[g1,g2]
theorem ZiI:∀(n:Nat)(t:D.Term)(c:D.termCheck),msz t≤1048576→0≤c.count→c.count≤240→(tab c.widths).length≤c.count→1048580+(241-c.count)≤(n:Int)→∃b c',ZG n c t=some (b,c')∧
   (b=true→c.count+cnt t≤240∧nodeB t=true∧c'.count=c.count+cnt t∧runV (tab c.widths) (vrs t)=some (tab c'.widths))∧(b=false→¬(c.count+cnt t≤240∧nodeB t=true∧(runV (tab c.widths) (vrs t)).isSome=true)):=by
 intro n
 induction n with
 |zero=>intro t c _ _ _ _ _;omega
 | succ n ih=>
  intro t c hs h0 h1 hg hn;have hz:=ZaK t;have hc:=Zaa t;have hb:=X6 t;have bad:nodeB t=false→¬(c.count+cnt t≤240∧nodeB t=true∧(runV (tab c.widths) (vrs t)).isSome=true):=fun h⟨_,h2,_⟩=>by rw[h]at h2;cases h2
  unfold ZG;rw[Zn (by omega) (by omega)];by_cases hC:c.count+1>240
  ·simp only[hC,decide_true,Zm0,Zmh,Zoh];exact⟨false,_,rfl,fun h=>(by cases h),fun _⟨h,_,_⟩=>by omega⟩
  simp only[hC,decide_false,Zmi,Zmr,Zgu t.W,Zmh,Zm9];by_cases hw:1≤t.W∧t.W≤16;rotate_left
  ·simp only[hw,decide_false,ZmO,Zm0,Zmh,Zoh];exact⟨false,_,rfl,fun h=>(by cases h),fun _=>bad (by rw[hb];unfold locB;rw[decide_eq_false hw];simp)⟩
  simp only[hw,decide_true,Zmp,Zmi,Zmr,Zmh,Zm9,and_self,ZlC];by_cases hl:(t.Kids.length:Int)=kc t.Op;rotate_left
  ·have:(len t.Kids !=kc t.Op)=true:=by rw[Zf];simpa using hl
   rw[Zmm this];exact⟨false,_,rfl,fun h=>(by cases h),fun _=>bad (by rw[hb];unfold locB;rw[Zlk hl];simp)⟩
  have hl':¬(len t.Kids !=kc t.Op)=true:=by rw[Zf];simpa using hl
  rw[Zml hl',Zhj (by omega) (by omega)];simp only[Zmh];by_cases hk:wsB t.Kids=true;rotate_left
  ·rw[Zml hk];refine⟨false,_,rfl,fun h=>(by cases h),fun _=>bad ?_⟩;rw[hb];cases h:nodesB t.Kids
   ·simp
   ·exact absurd (ZlF h) hk
  rw[Zmm hk];have hkw:∀x∈t.Kids,1≤x.W∧x.W≤16:=fun x hx=>by
   unfold wsB at hk;rw[Zmu]at hk;exact of_decide_eq_true (hk x hx)
  obtain⟨f,hf1,hf2⟩:=ZkU hw hkw hl;have hloc:locB t=((Str.eqb t.Name ⟨[]⟩||t.Op==22)&&(t.N==0||t.Op==0||t.Op==19)&&(f&&(t.Op !=0||wordB t.W t.N)&&(t.Op !=22||nameB t.Name))):=by
   unfold locB;rw[hf2,decide_eq_true hw,ZmJ]
  simp only[hf1,Zmh];cases f with
  |false=>
   exact⟨false,_,rfl,fun h=>(by cases h),fun _=>bad (by rw[hb,hloc];simp)⟩
  |true=>
  simp only[Zmp,Zmi,Zmr,Zai];have hx6:∃x6,(if(t.Op==0)=true then some (wordB t.W t.N)else some default)=some x6∧(t.Op=0→x6=wordB t.W t.N):=by
   by_cases o:t.Op=0
   ·exact⟨_,Zmm (by simpa using o),fun _=>rfl⟩
   ·exact⟨_,Zml (by simpa using o),fun h=>absurd h o⟩
  obtain⟨x6,h6,h6'⟩:=hx6;rw[h6];simp only[Zmh];by_cases c6:(t.Op==0&& !x6)=true
  ·rw[Zmm c6];simp only[Zmk,ZmE,Znh]at c6;refine⟨false,_,rfl,fun h=>(by cases h),fun _=>bad ?_⟩;rw[hb,hloc,←h6' c6.1,c6.2,c6.1];simp
  rw[Zml c6];have d6:(t.Op !=0||wordB t.W t.N)=true:=by
   by_cases o:t.Op=0
   ·rw[←h6' o,o];simp[o]at c6;simp[c6]
   ·simp[o]
  by_cases c7:(t.Op !=0&&t.Op !=19&&t.N !=0)=true
  ·rw[Zmm c7];simp only[Zmk,bne_iff_ne,ne_eq]at c7;refine⟨false,_,rfl,fun h=>(by cases h),fun _=>bad ?_⟩;rw[hb,hloc];have:(t.N==0||t.Op==0||t.Op==19)=false:=by simp[c7]
   rw[this];simp
  rw[Zml c7];have d7:(t.N==0||t.Op==0||t.Op==19)=true:=by
   simp only[Zmk,bne_iff_ne,ne_eq]at c7;by_cases a1:t.N=0<;>by_cases a2:t.Op=0<;>by_cases a3:t.Op=19<;>simp[a1,a2,a3]at c7⊢
  rw[d6,d7]at hloc;simp only[ZmJ,Znk]at hloc;have ih':∀x∈t.Kids,∀c1:D.termCheck,c.count+1≤c1.count→c1.count≤240→(tab c1.widths).length≤c1.count→∃b c',ZG n c1 x=some (b,c')∧
   (b=true→c1.count+cnt x≤240∧nodeB x=true∧c'.count=c1.count+cnt x∧runV (tab c1.widths) (vrs x)=some (tab c'.widths))∧(b=false→¬(c1.count+cnt x≤240∧nodeB x=true∧(runV (tab c1.widths) (vrs x)).isSome=true)):=fun x hx c1 k1 k2 k3=>by
   have:=Zat hx;exact ih x c1 (by omega) (by omega) k2 k3 (by omega)
  by_cases ho:t.Op=22
  ·rw [Zml (by simp[ho])]
   have hv:vrs t=[(t.Name,t.W)]:=by rw[Ze2,Zmm ho]
   have hrun:runV (tab c.widths) (vrs t)=stp (tab c.widths) (t.Name,t.W):=by
    rw[hv];simp only[runV];cases stp (tab c.widths) (t.Name,t.W)<;>rfl
   have hks:t.Kids=[]:=by
    rw[ho]at hl;exact ZmH.1 (by have:kc 22=0:=rfl;omega)
   obtain⟨b,m,e1,e2,e3⟩:=ZjC (n:=n) (c:=⟨c.count+1,c.widths⟩) (t:=t) (by omega) (by omega) hw (by simp only;omega);rw[e1];simp only[Zmh];rw[ho]at hloc;cases b with
   | false=>
    refine⟨false,_,rfl,fun h=>(by cases h),fun _=>?_⟩;rcases e3 rfl with e3|e3
    ·exact bad (by rw[hb,hloc,e3];simp)
    ·rw[hrun];simp only at e3;rw[e3];exact fun⟨_,_,h⟩=>by cases h
   | true=>
    obtain⟨e4,e5⟩:=e2 rfl;simp only at e5;have hml:(tab m).length≤c.count+1:=by have:=ZhQ e5;omega
    obtain⟨r,g1,g2⟩:=Zf9 (n:=n) (ks:=t.Kids) (c0:=c.count+1) (w0:=m) (by omega) (by omega) (by omega) (by omega) hml ih';rw[hks,XR,Zdq]at g2;have hcn:cnts t.Kids=0:=by rw[hks,XR]
    have hnb:nodesB t.Kids=true:=by rw[hks,ZY];rfl
    simp only[Zmp,Zmi,Zmr];rw[g1];rcases g2 with⟨cc,ww,rfl,k1,k2,k3,k4⟩|⟨c',rfl,k1⟩
    ·refine⟨true,⟨cc,ww⟩,rfl,fun _=>⟨by omega, ?_,by simp only;omega, ?_⟩,fun h=>(by cases h)⟩
     ·rw[hb,hloc,e4,hnb];simp
     ·rw[hrun,e5];simp only[runV,Option.some.injEq]at k4;rw[k4]
    ·exfalso;apply k1;refine⟨by omega,by rw[ZY];rfl,rfl⟩
  ·rw[Zmm (by simp[ho])];have hv:vrs t=vrss t.Kids:=by rw[Ze2,Zml ho]
   by_cases c8:Str.eqb t.Name ⟨[]⟩=true;rotate_left
   ·rw[Zmm (by simpa using c8)];refine⟨false,_,rfl,fun h=>(by cases h),fun _=>bad ?_⟩;rw[hb,hloc];simp[c8,ho]
   rw[Zml (by simp[c8])];have hloc':locB t=true:=by rw[hloc,c8];simp[ho]
   obtain⟨r,g1,g2⟩:=Zf9 (n:=n) (ks:=t.Kids) (c0:=c.count+1) (w0:=c.widths) (by omega) (by omega) (by omega) (by omega) (by omega) ih';rw[g1,hv,hb,hloc'];simp only[ZmJ];rcases g2 with⟨cc,ww,rfl,k1,k2,k3,k4⟩|⟨c',rfl,k1⟩
   ·exact⟨true,⟨cc,ww⟩,rfl,fun _=>⟨by omega,k3,by simp only;omega,k4⟩,fun h=>(by cases h)⟩
   ·exact⟨false,c',rfl,fun h=>(by cases h),fun _⟨h1,h2,h3⟩=>k1 ⟨by omega,h2,h3⟩⟩
theorem ZiW{t:D.Term}(h:msz t≤1048576):Zbi fuel t=some (termB t):=by
 unfold Zbi;obtain⟨b,c',e1,e2,e3⟩:=ZiI fuel t ⟨0,none⟩ h (by simp) (by simp) (by simp[tab]) (by have:=FU.le (n:=fuel);simp;omega);rw[e1];simp only[Zmh,Option.some.injEq];unfold termB;simp only[tab,Option.getD_none]at e2 e3;cases b with
 |true=>
  obtain⟨h1,h2,-,h3⟩:=e2 rfl;rw[h2,h3,decide_eq_true (by omega)];rfl
 | false=>
  have:=e3 rfl;cases hb:nodeB t
  ·simp
  ·cases hr:(runV [] (vrs t)).isSome
   ·simp
   ·have:¬cnt t≤240:=fun hc=>this ⟨by omega,hb,hr⟩;simp[this]
end Go.Proofs.YtbidabmbbieeiaaGreatDoor
end
section
namespace Go.Proofs.YtbidabmbbieeiaaGreatDoor
open Go.GL
set_option linter.unusedSimpArgs false
set_option maxRecDepth 100000
variable{fuel:Nat}[FU fuel]
end Go.Proofs.YtbidabmbbieeiaaGreatDoor
end
section
namespace Go.Proofs.YtbidabmbbieeiaaGreatDoor
open Go.GL
set_option linter.unusedSimpArgs false
variable{fuel:Nat}[FU fuel]
theorem ZfP(w v:Int):∃b,Yg w v=some b∧YD w v=some b:=by
 unfold Yg YD Zl ZL;by_cases h:1≤w∧w≤16
 ·obtain⟨m,h1,h2,h3⟩:=Zif h.1 h.2;exact⟨band v (w64 (m-1)),by simp[h.1,h.2,h1],by simp[h.1,h.2,h2]⟩
 ·refine⟨-1, ?_, ?_⟩
  ·by_cases a:1≤w
   ·have b:¬w≤16:=fun b=>h ⟨a,b⟩;simp[a,b]
   ·simp[a]
  ·by_cases a:1≤w
   ·have b:¬w≤16:=fun b=>h ⟨a,b⟩;simp[a,b]
   ·simp[a]
def wordOf(w v:Int):Int:=(Yg w v).getD 0
theorem Yn(w v:Int):Yg w v=some (wordOf w v):=by
 obtain⟨b,h,-⟩:=ZfP w v;simp[wordOf,h]
theorem X7(w v:Int):YD w v=some (wordOf w v):=by
 obtain⟨b,h,h'⟩:=ZfP w v;simp[wordOf,h,h']
theorem Zef{w:Int}(h1:1≤w)(h2:w≤16):w=1∨w=2∨w=3∨w=4∨w=5∨w=6∨w=7∨w=8∨w=9∨w=10∨w=11∨w=12∨w=13∨w=14∨w=15∨w=16:=by omega
theorem ZaX{w:Int}(h1:1≤w)(h2:w≤16):shl? 1 w=some (2^w.toNat)∧shl? 1 (IntKind.u64.wrap w)=some (2^w.toNat)∧w64 ((2:Int)^w.toNat-1)=2^w.toNat-1∧(2:Int)≤2^w.toNat∧(2:Int)^w.toNat≤65536:=by
 rcases Zef h1 h2 with rfl|rfl|rfl|rfl|rfl|rfl|rfl|rfl|rfl|rfl|rfl|rfl|rfl|rfl|rfl|rfl<;>exact⟨rfl,rfl,by decide,by decide,by decide⟩
theorem ZV{w:Int}(h1:1≤w)(h2:w≤16)(v:Int):wordB w v=true↔0≤v∧v<2^w.toNat:=by
 obtain⟨a1,a2,a3,a4,a5⟩:=ZaX h1 h2;have hs:=YQ w v;unfold ZH Zl at hs;have e:(decide (w≥1)&&decide (w≤16))=true:=by simp;omega
 simp only[e,Zmh]at hs;by_cases hv:0≤v
 ·simp only[hv,decide_true,Zm0,a1,Zmh]at hs;rw[a3]at hs;simp at hs;rw[←hs];simp[hv];omega
 ·simp[hv,a1]at hs;rw[hs];simp;omega
theorem Ym{w v:Int}(h:wordB w v=true):1≤w∧w≤16:=by
 have hs:=YQ w v;rw[h]at hs;unfold ZH Zl at hs;by_cases a:1≤w
 ·by_cases b:w≤16
  ·exact⟨a,b⟩
  ·have e:(decide (w≥1)&&decide (w≤16))=false:=by simp[b]
   simp only[e,Zmh]at hs;simp at hs
 ·have e:(decide (w≥1)&&decide (w≤16))=false:=by simp[a]
  simp only[e,Zmh]at hs;simp at hs
theorem Zg8{w v:Int}(h:wordB w v=true):0≤v∧v<65536:=by
 obtain⟨a,b⟩:=Ym h;obtain⟨_,_,_,_,h5⟩:=ZaX a b;have:=(ZV a b v).1 h;omega
theorem ZdR{x:Int}(h1:0≤x)(h2:x≤100000):IntKind.u64.wrap x=x:=by
 have:IntKind.u64.wrap x=x%18446744073709551616:=by simp[IntKind.wrap,IntKind.bits,IntKind.signed]
 rw[this];omega
theorem Zdc(x:Int){y:Int}(h:0≤y):shr? x y=some (x.fdiv (2^min y.toNat 64)):=by unfold shr?;rw[Zml (by omega)]
theorem Zgo(x:Int){y:Int}(h:0≤y):shl? x y=some (w64 (x*2^min y.toNat 64)):=by unfold shl?;rw[Zml (by omega)]
theorem Zee(w v:Int):∃r,Y6 w v=some r∧YM w v=some r:=by
 unfold Y6 YM;rw[YQ,Zai];simp only[Zmh];cases hb:wordB w v with
 |false=>exact⟨0,rfl,rfl⟩
 | true=>
  obtain⟨h1,h2⟩:=Ym hb;obtain⟨a1,a2,a3,a4,a5⟩:=ZaX h1 h2;obtain⟨c1,c2⟩:=(ZV h1 h2 v).1 hb;have e1:w64 (w-1)=w-1:=Zn (by omega) (by omega);have hsh:v.fdiv (2^min (w-1).toNat 64)=0∨v.fdiv (2^min (w-1).toNat 64)=1:=by
   have e2:min (w-1).toNat 64=(w-1).toNat:=by omega
   rw[e2,ZnO _ (Int.pow_nonneg (by decide))];have e3:(2:Int)^w.toNat=2*2^(w-1).toNat:=by
    have:w.toNat=(w-1).toNat+1:=by omega
    rw[this,Int.pow_succ];omega
   have hp:(0:Int)<2^(w-1).toNat:=Zou (by decide);rw[e3]at c2;by_cases hlt:v<2^(w-1).toNat
   ·left;exact Int.ediv_eq_zero_of_lt c1 hlt
   ·right;have g1:1≤v/2^(w-1).toNat:=Int.le_ediv_of_mul_le hp (by omega);have g2:v/2^(w-1).toNat<2:=Int.ediv_lt_of_lt_mul hp (by omega);omega
  simp only[Zmp,Zmi,Zmr,e1,ZdR (show 0≤w-1 by omega) (show w-1≤100000 by omega),Zdc v (show 0≤w-1 by omega),Zmh,a1,a2];rcases hsh with e|e
  ·rw[e];exact⟨v,by simp,by simp⟩
  ·rw[e];exact⟨w64 (v-2^w.toNat),by simp,by simp⟩
def signedOf(w v:Int):Int:=(Y6 w v).getD 0
theorem Zbk(w v:Int):Y6 w v=some (signedOf w v):=by
 obtain⟨b,h,-⟩:=Zee w v;simp[signedOf,h]
theorem Zed(w v:Int):YM w v=some (signedOf w v):=by
 obtain⟨b,h,h'⟩:=Zee w v;simp[signedOf,h,h']
theorem ZeP(b:Bool):Xu b=some (if b then 1 else 0)∧XK b=some (if b then 1 else 0):=by
 cases b<;>exact⟨rfl,rfl⟩
theorem Zc7(op w a b:Int):∃r,Yt op w a b=some r∧Xa op w a b=some r:=by
 unfold Yt Xa;simp only[YQ,Zai,Yn,X7,Zmh];cases ha:wordB w a with
 |false=>exact⟨-1,rfl,rfl⟩
 | true=>
  simp only[Zmp,Zmi,Zmr,Zmh,Zm9];cases hb:wordB w b with
  |false=>exact⟨-1,rfl,rfl⟩
  | true=>
   obtain⟨h1,h2⟩:=Ym ha;obtain⟨a1,a2,a3,a4,a5⟩:=ZaX h1 h2;obtain⟨c1,c2⟩:=Zg8 ha;obtain⟨d1,d2⟩:=Zg8 hb;have hquo:b≠0→quo? a b=some (w64 (a.tdiv b)):=fun h=>by unfold quo?;rw[Zml h]
   have hrem:b≠0→rem? a b=some (a.tmod b):=fun h=>by unfold rem?;rw[Zml h]
   have hw1:w64 (w-1)=w-1:=Zn (by omega) (by omega);simp only[Zmp,Zmi,Zmr,ZaD,Yn,X7,Zbk,Zed,(ZeP _).1,(ZeP _).2,Zmh,a1,a2,hw1];by_cases e3:op=3
   ·subst e3;exact⟨_,rfl,rfl⟩
   by_cases e4:op=4
   ·subst e4;exact⟨_,rfl,rfl⟩
   by_cases e5:op=5
   ·subst e5;exact⟨_,rfl,rfl⟩
   by_cases e6:op=6
   ·subst e6;by_cases z:b=0
    ·subst z;exact⟨_,rfl,rfl⟩
    ·refine⟨w64 (a.tdiv b),?_,?_⟩<;>simp[z,hquo z]
   by_cases e7:op=7
   ·subst e7;by_cases z:b=0
    ·subst z;exact⟨_,rfl,rfl⟩
    ·refine⟨a.tmod b,?_,?_⟩<;>simp[z,hrem z]
   by_cases e8:op=8
   ·subst e8;exact⟨_,rfl,rfl⟩
   by_cases e9:op=9
   ·subst e9;exact⟨_,rfl,rfl⟩
   by_cases e10:op=10
   ·subst e10;exact⟨_,rfl,rfl⟩
   by_cases e11:op=11
   ·subst e11;by_cases z:b≥w
    ·refine⟨0,?_,?_⟩<;>simp[z]
    ·have hb':=ZdR d1 (by omega);refine⟨wordOf w (w64 (a*2^min b.toNat 64)),?_,?_⟩<;>simp[z,hb',Zgo a d1,Yn,X7]
   by_cases e12:op=12
   ·subst e12;by_cases z:b≥w
    ·refine⟨0,?_,?_⟩<;>simp[z]
    ·have hb':=ZdR d1 (by omega);refine⟨a.fdiv (2^min b.toNat 64),?_,?_⟩<;>simp[z,hb',Zdc a d1]
   by_cases e13:op=13
   ·subst e13;have hmin:imin b (w-1)=(bif decide (b≥w)then w-1 else b):=by
     unfold imin;by_cases z:b≥w
     ·rw[Zmm (by omega)];simp[z]
     ·rw[Zml (by omega)];simp[z]
    rw[hmin];have hq:0≤(bif decide (b≥w)then w-1 else b)∧(bif decide (b≥w)then w-1 else b)≤1000:=by
     by_cases z:b≥w
     ·simp[z];omega
     ·simp[z];omega
    generalize (bif decide (b≥w)then w-1 else b)=y at hq⊢;rw[ZdR hq.1 (by omega),Zdc _ hq.1];refine⟨wordOf w ((signedOf w a).fdiv (2^min y.toNat 64)),?_,?_⟩<;>simp[Yn,X7]
   by_cases e14:op=14
   ·subst e14;exact⟨_,rfl,rfl⟩
   by_cases e15:op=15
   ·subst e15;exact⟨_,rfl,rfl⟩
   by_cases e16:op=16
   ·subst e16;exact⟨_,rfl,rfl⟩
   refine⟨-1,?_,?_⟩<;>simp[e3,e4,e5,e6,e7,e8,e9,e10,e11,e12,e13,e14,e15,e16]
theorem Zfw(op w a:Int):∃r,YS op w a=some r∧XJ op w a=some r:=by
 unfold YS XJ;simp only[YQ,Zai,Yn,X7,Zmh];cases ha:wordB w a with
 |false=>exact⟨-1,rfl,rfl⟩
 |true=>
  obtain⟨h1,h2⟩:=Ym ha;obtain⟨a1,a2,a3,a4,a5⟩:=ZaX h1 h2;simp only[a1,a2,Zmh];by_cases e1:op=1
  ·subst e1;exact⟨_,rfl,rfl⟩
  by_cases e2:op=2
  ·subst e2;exact⟨_,rfl,rfl⟩
  exact⟨-1,by simp[e1,e2],by simp[e1,e2]⟩
theorem Zge(w a v b:Int):∃r,Xj w a v b=some r∧XT w a v b=some r:=by
 unfold Xj XT;simp only[YQ,Zai,Zmh];cases ha:wordB w a with
 |false=>exact⟨-1,rfl,rfl⟩
 | true=>
  simp only[Zmp,Zmi,Zmr,Zmh,Zm9];cases hb:wordB v b with
  |false=>exact⟨-1,rfl,rfl⟩
  |true=>
   obtain⟨h1,h2⟩:=Ym hb;rw[ZdR (show 0≤v by omega) (by omega)];simp only[Zgo a (show 0≤v by omega),Zmh];by_cases c:w64 (w+v)>16
   ·exact⟨-1,by simp[c],by simp[c]⟩
   ·exact⟨w64 (w64 (a*2^min v.toNat 64)+b),by simp[c],by simp[c]⟩
theorem ZfV(w a n:Int)(s:Bool):∃r,Xd w a n s=some r∧Zad w a n s=some r:=by
 unfold Xd Zad;simp only[YQ,Zai,Yn,X7,Zbk,Zed,Zmh];cases ha:wordB w a with
 |false=>exact⟨-1,rfl,rfl⟩
 | true=>
  obtain⟨h1,h2⟩:=Ym ha;have hi:ZL n=some (decide (1≤n∧n≤16)):=by simp[ZL]
  simp only[Zmp,Zmi,Zmr,Zmh,Zm9,hi];by_cases c1:n<w
  ·exact⟨-1,by simp[c1],by simp[c1]⟩
  ·by_cases c2:n≤16
   ·have c3:1≤n∧n≤16:=by omega
    have c4:¬n>16:=by omega
    cases s
    ·exact⟨a,by simp[c1,c4],by simp[c1,c3]⟩
    ·exact⟨wordOf n (signedOf w a),by simp[c1,c4,Yn],by simp[c1,c3,X7]⟩
   ·have c3:¬(1≤n∧n≤16):=by omega
    have c4:n>16:=by omega
    exact⟨-1,by simp[c4],by simp[c3]⟩
theorem ZhC{w a l n:Int}(hl:0≤l∧l≤100)(hn:-100≤n∧n≤100):∃r,XC w a l n=some r∧ZaG w a l n=some r:=by
 unfold XC ZaG;simp only[YQ,Zai,Yn,X7,Zmh];cases ha:wordB w a with
 |false=>exact⟨-1,rfl,rfl⟩
 | true=>
  obtain⟨h1,h2⟩:=Ym ha;have e1:w64 (w-n)=w-n:=Zn (by omega) (by omega);have e2:w64 (w-l)=w-l:=Zn (by omega) (by omega);simp only[Zmp,Zm9,e1,e2];have hl0:¬l<0:=by omega
  by_cases c1:n<1
  ·exact⟨-1,by simp[c1],by simp[c1]⟩
  ·by_cases c2:n>w-l
   ·have:n>w∨l>w-n:=by omega
    refine⟨-1,?_,by simp[c2]⟩;rcases this with h|h<;>simp[h]
   ·have c3:¬n>w:=by omega
    have c4:¬l>w-n:=by omega
    obtain⟨a1,a2,a3,_⟩:=ZaX (w:=n) (by omega) (by omega);have hw:∀x,wordOf n x=band x (w64 (2^n.toNat-1)):=fun x=>by
     have hs:=Yn n x;unfold Yg Zl at hs;have e:(decide (n≥1)&&decide (n≤16))=true:=by simp;omega
     simp only[e,Zmh,Zmp,Zmi,Zmr,a1,Option.some.injEq]at hs;exact hs.symm
    refine⟨wordOf n (a.fdiv (2^min l.toNat 64)),?_,?_⟩
    ·simp[hl0,c1,c3,c4,Zdc a hl.1,Yn]
    ·simp only[hl0,c1,c2,decide_false,Bool.or_self,Zmi,Zmr,ZdR hl.1 (by omega),Zdc a hl.1,a2,Zmh,hw]
end Go.Proofs.YtbidabmbbieeiaaGreatDoor
end
section
namespace Go.Proofs.YtbidabmbbieeiaaGreatDoor
open Go.GL
set_option linter.unusedSimpArgs false
set_option maxRecDepth 100000
variable{fuel:Nat}[FU fuel]
theorem Zay{α:Type}{l m:List α}(h:l.length+m.length≤1048576):app? l m=some (l++m):=by
 unfold app?;rw[Zmm (by unfold room;omega)]
theorem get0(x:D.Term)(l:List D.Term):get? (x::l) 0=some x:=rfl
theorem get1(x y:D.Term)(l:List D.Term):get? (x::y::l) 1=some y:=rfl
theorem get2'(x y z:D.Term)(l:List D.Term):get? (x::y::z::l) 2=some z:=rfl
theorem geti0(x:Int)(l:List Int):get? (x::l) 0=some x:=rfl
theorem geti1(x y:Int)(l:List Int):get? (x::y::l) 1=some y:=rfl
theorem geti2(x y z:Int)(l:List Int):get? (x::y::z::l) 2=some z:=rfl
theorem Zjd{t:D.Term}(h:locB t=true):(t.Op=0∧t.Kids=[])∨(t.Op=22∧t.Kids=[])∨((t.Op=1∨t.Op=2)∧∃a,t.Kids=[a]∧a.W=t.W)∨(3≤t.Op∧t.Op≤16∧∃a b,t.Kids=[a,b]∧a.W=b.W)∨(t.Op=17∧∃a b c,t.Kids=[a,b,c])∨(t.Op=18∧∃a b,t.Kids=[a,b])∨(t.Op=19∧0≤t.N∧t.N≤16∧∃a,t.Kids=[a])∨((t.Op=20∨t.Op=21)∧∃a,t.Kids=[a]):=by
 unfold locB at h;simp only[Zmk]at h;have h:=h.2;unfold shB at h;by_cases o0:t.Op=0
 ·rw[Zmm o0]at h;simp only[Zmk,Zno,ZnA]at h;exact .inl ⟨o0,h.1⟩
 rw[Zml o0]at h;by_cases o1:t.Op=22
 ·rw[Zmm o1]at h;simp only[Zmk,Zno,ZnA]at h;exact .inr (.inl ⟨o1,h.1⟩)
 rw[Zml o1]at h;have k1:∀f:Int→Bool,(match t.Kids.map (·.W)with|[a]=>f a|_=>false)=true→∃a,t.Kids=[a]∧f a.W=true:=fun f h=>by
  rcases hk:t.Kids with _|⟨a,_|⟨b,l⟩⟩<;>rw[hk]at h<;>simp at h;exact⟨a,rfl,h⟩
 have k2:∀f:Int→Int→Bool,(match t.Kids.map (·.W)with|[a,b]=>f a b|_=>false)=true→∃a b,t.Kids=[a,b]∧f a.W b.W=true:=fun f h=>by
  rcases hk:t.Kids with _|⟨a,_|⟨b,_|⟨c,l⟩⟩⟩<;>rw[hk]at h<;>simp at h;exact⟨a,b,rfl,h⟩
 have k3:∀f:Int→Int→Int→Bool,(match t.Kids.map (·.W)with|[a,b,c]=>f a b c|_=>false)=true→∃a b c,t.Kids=[a,b,c]∧f a.W b.W c.W=true:=fun f h=>by
  rcases hk:t.Kids with _|⟨a,_|⟨b,_|⟨c,_|⟨d,l⟩⟩⟩⟩<;>rw[hk]at h<;>simp at h;exact⟨a,b,c,rfl,h⟩
 by_cases o2:1≤t.Op∧t.Op≤2
 ·rw[Zmm o2]at h;obtain⟨a,ha,hf⟩:=k1 (fun a=>a==t.W) h;exact .inr (.inr (.inl ⟨by omega,a,ha,by simpa using hf⟩))
 rw[Zml o2]at h;by_cases o3:3≤t.Op∧t.Op≤13
 ·rw[Zmm o3]at h;obtain⟨a,b,ha,hf⟩:=k2 (fun a b=>a==t.W&&b==t.W) h;simp only[Zmk,ZmE]at hf;exact .inr (.inr (.inr (.inl ⟨by omega,by omega,a,b,ha,by omega⟩)))
 rw[Zml o3]at h;by_cases o4:14≤t.Op∧t.Op≤16
 ·rw[Zmm o4]at h;obtain⟨a,b,ha,hf⟩:=k2 (fun a b=>a==b&&t.W==1) h;simp only[Zmk,ZmE]at hf;exact .inr (.inr (.inr (.inl ⟨by omega,by omega,a,b,ha,hf.1⟩)))
 rw[Zml o4]at h;by_cases o5:t.Op=17
 ·rw[Zmm o5]at h;obtain⟨a,b,c,ha,hf⟩:=k3 (fun a b c=>a==1&&b==t.W&&c==t.W) h;exact .inr (.inr (.inr (.inr (.inl ⟨o5,a,b,c,ha⟩))))
 rw[Zml o5]at h;by_cases o6:t.Op=18
 ·rw[Zmm o6]at h;obtain⟨a,b,ha,hf⟩:=k2 (fun a b=>a+b==t.W) h;exact .inr (.inr (.inr (.inr (.inr (.inl ⟨o6,a,b,ha⟩)))))
 rw[Zml o6]at h;by_cases o7:t.Op=19
 ·rw[Zmm o7]at h;obtain⟨a,ha,hf⟩:=k1 (fun a=>decide (0≤t.N∧t.N≤16)&&decide (t.N+t.W≤a)) h;simp only[Zmk,Zms]at hf;exact .inr (.inr (.inr (.inr (.inr (.inr (.inl ⟨o7,by omega,by omega,a,ha⟩))))))
 rw[Zml o7]at h;by_cases o8:20≤t.Op∧t.Op≤21
 ·rw[Zmm o8]at h;obtain⟨a,ha,hf⟩:=k1 (fun a=>decide (a≤t.W)) h;exact .inr (.inr (.inr (.inr (.inr (.inr (.inr ⟨by omega,a,ha⟩))))))
 rw[Zml o8]at h;cases h
end Go.Proofs.YtbidabmbbieeiaaGreatDoor
end
section
namespace Go.Proofs.YtbidabmbbieeiaaGreatDoor
open Go.GL
set_option linter.unusedSimpArgs false
set_option maxRecDepth 100000
variable{fuel:Nat}[FU fuel]
def upI(k:Int)(L:Nat):List Int:=(List.range L).map fun(j:Nat)=>k+(j:Int)
theorem ZhY(k:Int)(L:Nat):(upI k L).length=L:=by simp[upI]
theorem ZkR{k:Int}{L i:Nat}(h:i<L):(upI k L)[i]? =some (k+(i:Int)):=by simp[upI,h]
theorem Zeh{p:List Int}{k:Int}(hk:0≤k)(hb:k≤100000000000000000)(hp:p.length≤1048576):YY fuel p k=some (k+p.length,upI k p.length):=by
 unfold YY;rw[Zcy (I:=fun i s=>s=(k+(i:Int),(i:Int),pre (fun(j:Nat)=>k+(j:Int)) p i)) (m:=p.length) (r:=(k+(p.length:Int),upI k p.length)) (fun i s hi hs=>?_) (fun s hs=>?_) p.length 0 _ (by omega) (by simp[Zg4]) fuel (Za0 hp)]
 ·rfl
 ·subst hs;refine⟨_,?_,rfl⟩;simp only;rw[Zmm (by rw[Zf];simp;omega),set?_nat (by rw[ZhR (by omega)];exact hi),Zir hi];simp only[Zmh];rw[Zn (by omega) (by omega),Zn (by omega) (by omega)];simp only[Option.some.injEq,Sum.inl.injEq,Prod.mk.injEq,ZnG];omega
 ·subst hs;simp only;rw[Zml (by rw[Zf];simp),ZhT];rfl
theorem Zeb{L:Nat}{k:Int}(hk:0≤k)(hb:k≤100000000000000000)(hp:L≤1048576):Yr fuel (upI k L) k=some (k+L):=by
 unfold Yr;rw[Zcy (I:=fun i s=>s=(k+(i:Int),(i:Int))) (m:=L) (r:=.inl (k+(L:Int))) (fun i s hi hs=>?_) (fun s hs=>?_) L 0 _ (by omega) (by simp) fuel (Za0 hp)]
 ·rfl
 ·subst hs;refine⟨_,?_,rfl⟩;simp only;rw[Zmm (by rw[Zf,ZhY];simp;omega),get?_nat,ZkR hi];simp only[Zmh];rw[Zml (by simp),Zn (by omega) (by omega),Zn (by omega) (by omega)];simp only[Option.some.injEq,Sum.inl.injEq,Prod.mk.injEq];omega
 ·subst hs;simp only;rw[Zml (by rw[Zf,ZhY];simp)]
theorem Zg7{p:List D.Ins}{k:Int}(hk:0≤k)(hb:k≤100000000000000000)(hp:p.length≤1048576):∃r,Zas fuel p k=some (k+4*p.length,r):=by
 refine⟨(List.range p.length).map fun(j:Nat)=>⟨k+4*(j:Int),k+4*(j:Int)+1,k+4*(j:Int)+2,k+4*(j:Int)+3⟩,?_⟩;unfold Zas;rw[Zcy (I:=fun i s=>s=(k+4*(i:Int),(i:Int),pre (fun(j:Nat)=>(⟨k+4*(j:Int),k+4*(j:Int)+1,k+4*(j:Int)+2,k+4*(j:Int)+3⟩:D.Ins)) p i)) (m:=p.length) (r:=(k+4*(p.length:Int),(List.range p.length).map fun(j:Nat)=>(⟨k+4*(j:Int),k+4*(j:Int)+1,k+4*(j:Int)+2,k+4*(j:Int)+3⟩:D.Ins))) (fun i s hi hs=>?_) (fun s hs=>?_) p.length 0 _ (by omega) (by simp[Zg4]) fuel (Za0 hp)]
 ·rfl
 ·subst hs;refine⟨_,?_,rfl⟩;have hl:=ZhR (f:=fun(j:Nat)=>(⟨k+4*(j:Int),k+4*(j:Int)+1,k+4*(j:Int)+2,k+4*(j:Int)+3⟩:D.Ins)) (p:=p) (i:=i) (by omega);simp only;rw[Zmm (by rw[Zf];simp;omega),get?_nat,Zlt hi,Zmn hi];simp only[Zmh];rw[set?_nat (by rw[hl];exact hi)];simp only[Zmh];rw[get?_nat,Zny (by rw[hl];exact hi)];simp only[Zmh];rw[set?_nat (by simp[hl];exact hi),List.set_set];simp only[Zmh];rw[get?_nat,Zny (by rw[hl];exact hi)];simp only[Zmh];rw[set?_nat (by simp[hl];exact hi),List.set_set];simp only[Zmh];rw[get?_nat,Zny (by rw[hl];exact hi)];simp only[Zmh];rw[set?_nat (by simp[hl];exact hi),List.set_set];simp only[Zmh];rw[Zn (x:=k+4*(i:Int)+1) (by omega) (by omega),Zn (x:=k+4*(i:Int)+1+1) (by omega) (by omega),Zn (x:=k+4*(i:Int)+1+1+1) (by omega) (by omega),Zn (x:=k+4*(i:Int)+1+1+1+1) (by omega) (by omega),Zn (x:=(i:Int)+1) (by omega) (by omega),←Zir hi];simp only[Option.some.injEq,Sum.inl.injEq,Prod.mk.injEq];refine⟨by omega,by omega,?_⟩;refine congrArg (fun q=>List.set _ i q) ?_;simp only[D.Ins.mk.injEq];refine⟨trivial,trivial,?_,?_⟩<;>omega
 ·subst hs;simp only;rw[Zml (by rw[Zf];simp),ZhT]
theorem Ze6{x:D.Program}{k:Int}(hk:0≤k)(hb:k≤100000000000000000)(hp:x.Code.length≤1048576):∃k' r,X4 fuel x k=some (k',r)∧k≤k'∧k'≤k+4194304:=by
 obtain⟨r,hr⟩:=Zg7 (fuel:=fuel) hk hb hp;unfold X4;rw[hr];exact⟨_,_,rfl,by simp only;omega,by simp only;omega⟩
end Go.Proofs.YtbidabmbbieeiaaGreatDoor
end
section
namespace Go.Proofs.YtbidabmbbieeiaaGreatDoor
open Go.GL
set_option linter.unusedSimpArgs false
set_option maxRecDepth 100000
variable{fuel:Nat}[FU fuel]
end Go.Proofs.YtbidabmbbieeiaaGreatDoor
end
section
namespace Go.Proofs.YtbidabmbbieeiaaGreatDoor
open Go.GL
set_option linter.unusedSimpArgs false
set_option maxRecDepth 100000
variable{fuel:Nat}[FU fuel]
end Go.Proofs.YtbidabmbbieeiaaGreatDoor
end
section
namespace Go.Proofs.YtbidabmbbieeiaaGreatDoor
open Go.GL
set_option linter.unusedSimpArgs false
set_option maxRecDepth 100000
variable{fuel:Nat}[FU fuel]
theorem Zfk:∀(d:Nat)(j:Int)(s:Str),0≤j→j≤200000000000000000→j<10^d→s.bytes.length+d≤1000→∃o:Str,(∀n,d<n→iterN (fun(s1:Int×Str)=>if(decide (s1.1>0))then(rem? s1.1 10).bind fun x1=>(cat? (strOf ([(Byt.mk (IntKind.u8.wrap (w64 (48+x1))))]:List Byt)) s1.2).bind fun x2=>(quo? s1.1 10).bind fun x3=>some (.inl (x3,x2))else some (.inr (s1.2))) n (j,s)=some o)∧o.bytes.length≤1000
 |0,j,s,h0,_,h1,h2=>by
  have:j=0:=by simp at h1;omega
  subst this;exact⟨s,fun n hn=>by obtain⟨n,rfl⟩:∃m,n=m+1:=⟨n-1,by omega⟩;unfold iterN;rfl,by omega⟩
 | d+1,j,s,h0,hb,h1,h2=>by
  by_cases c:0<j
  ·have c1:decide (j>0)=true:=decide_eq_true c;have c2:rem? j 10=some (j.tmod 10):=by unfold rem?;rw[Zml (by omega)]
   have hj:j/10<10^d:=by
    rw[Int.pow_succ]at h1;omega
   have c3:quo? j 10=some (j/10):=by
    unfold quo?;rw[Zml (by omega),Int.tdiv_eq_ediv_of_nonneg h0,Zn (by omega) (by omega)]
   have c4:cat? (strOf ([(Byt.mk (IntKind.u8.wrap (w64 (48+j.tmod 10))))]:List Byt)) s=some ⟨(strOf ([(Byt.mk (IntKind.u8.wrap (w64 (48+j.tmod 10))))]:List Byt)).bytes++s.bytes⟩:=by
    unfold cat?;rw[Zmm (by simp[strOf];omega)]
   obtain⟨o,g1,g2⟩:=Zfk d (j/10) ⟨(strOf ([(Byt.mk (IntKind.u8.wrap (w64 (48+j.tmod 10))))]:List Byt)).bytes++s.bytes⟩ (by omega) (by omega) hj (by simp[strOf];omega);refine⟨o,fun n hn=>?_,g2⟩;obtain⟨n,rfl⟩:∃m,n=m+1:=⟨n-1,by omega⟩;unfold iterN;simp only[c1,Zm0,c2,Zmh,c4,c3];exact g1 n (by omega)
  ·have:decide (j>0)=false:=decide_eq_false c;exact⟨s,fun n hn=>by obtain⟨n,rfl⟩:∃m,n=m+1:=⟨n-1,by omega⟩;unfold iterN;simp only[this,Zmi,Zmr],by omega⟩
theorem Zkq{k:Int}(h0:0≤k)(h1:k≤200000000000000000):∃s,∀n,20≤n→Y5 n k=some s:=by
 by_cases c:k≤0
 ·refine⟨⟨[109,48]⟩,fun n _=> ?_⟩;unfold Y5;rw[Zmm (by simpa using c)]
 obtain⟨o,e1,e2⟩:=Zfk 18 k ⟨[]⟩ h0 h1 (by omega) (by simp);refine⟨⟨[109]++o.bytes⟩,fun n hn=>?_⟩;unfold Y5;rw[Zml (by simpa using c),e1 n (by omega)];simp only[Zmh];unfold cat?;rw[Zmm (by simp;omega)];rfl
def El(M:Nat)(q:Int)(x:D.Term)(q':Int):Prop:=0≤q∧q≤100000000000000000∧∃tx ks,x=⟨q,q+1,q+2,tx,ks⟩∧(∀n,20≤n→Y5 n (q+3)=some tx)∧0≤q'∧∀m,1048580+M≤m→Zz m ks (q+4)=some q'
def Ch(M:Nat):Int→List D.Term→Int→Prop
 |q,[],e=>q=e
 |q,x::l,e=>∃q',El M q x q'∧Ch M q' l e
theorem Ch.snoc{M:Nat}{x:D.Term}{e e':Int}(h':El M e x e'):∀{l:List D.Term}{q:Int},Ch M q l e→Ch M q (l++[x]) e'
 |[],q,h=>by cases h;exact⟨e',h',rfl⟩
 |y::l,q,⟨q',h1,h2⟩=>⟨q',h1,h2.snoc h'⟩
theorem Zlb{M:Nat}{l:List D.Term}{k e:Int}{m:Nat}(h:Ch M k l e)(h0:0≤k)(hl:l.length≤1048576)(hm:1048580+M≤m):Zz (m+1) l k=some e:=by
 rw[Zz];obtain ⟨r,g1,g2⟩:=Yq (l:=l) (n:=m) (σ:=Int) (ρ:=Int⊕Int) (B:=fun(s1:Int×Int)=>if (decide (s1.2<(len l)))then(get? l s1.2).bind fun x1=>if(x1.Op !=s1.1)then some (.inr (.inr (-1)))else(get? l s1.2).bind fun x2=>if(x2.W !=(w64 (s1.1+1)))then some (.inr (.inr (-1)))else(get? l s1.2).bind fun x3=>if(x3.N !=(w64 ((w64 (s1.1+1))+1)))then some (.inr (.inr (-1)))else(get? l s1.2).bind fun x4=>(Y5 m (w64 ((w64 ((w64 (s1.1+1))+1))+1))).bind fun x5=>if(!(Str.eqb x4.Name x5))then some (.inr (.inr (-1)))else(get? l s1.2).bind fun x6=>(Zz m x6.Kids (w64 ((w64 ((w64 ((w64 (s1.1+1))+1))+1))+1))).bind fun x7=>if(decide (x7<0))then some (.inr (.inr (-1)))else some (.inl (x7,(w64 (s1.2+1))))else some (.inr (.inl (s1.1)))) (fun j a=>(a,(j:Int))) (fun ys a=>Ch M a ys e) (fun r=>r= .inl e)
  (fun j x xs a hj hx hlen hch=>by
   obtain⟨q',⟨q0,q1,tx,ks,rfl,ht,hq,hh⟩,hc⟩:=hch;have hd:decide ((j:Int)<len l)=true:=by rw[Zf];simp;omega
   simp only[hd,Zm0,get?_nat,hx,Zmh];rw[Zn (x:=a+1) (by omega) (by omega),Zn (x:=a+1+1) (by omega) (by omega),Zn (x:=a+1+1+1) (by omega) (by omega),Zn (x:=a+1+1+1+1) (by omega) (by omega)];have e1:a+1+1+1=a+3:=by omega
   have e2:a+3+1=a+4:=by omega
   have e3:a+1+1=a+2:=by omega
   rw[e1,e2,e3,ht m (by omega),hh m hm];simp only[Zmh,bne_self_eq_false,Zmi,Zmr,Zao,Zmp];rw[Zml (by simpa using hq)]
   exact .inl ⟨q',by rw[Zn (by omega) (by omega)];rfl,hc⟩)
  (fun a hch=>by
   have hd:decide ((l.length:Int)<len l)=false:=by rw[Zf];simp
   simp only[hd,Zmi,Zmr]
   exact⟨_,rfl,by rw[show a=e from hch]⟩) (a:=k) h (by omega)
 rw[show((0:Nat):Int)=0 from rfl]at g1;rw[g1,g2];rfl
theorem Zjb:∀(n:Nat)(l:List D.Term)(k:Int),l.length+mszs l≤1048576→1048580+(l.length+mszs l)≤n→0≤k→k+4*((l.length:Int)+mszs l)≤50000000000000000→
  ∃r,ZN n l k=some r∧k≤r.1∧r.1≤k+4*((l.length:Int)+mszs l)∧∀m,1048581+(l.length+mszs l)≤m→Zz m r.2 k=some r.1:=by
 intro n
 induction n with
 |zero=>intro l k _ h;omega
 | succ n ih=>
  intro l k hs hn h0 hb;rw[ZN];obtain⟨r,g1,g2,g3,g4,g5⟩:=Yq (l:=l) (n:=n) (σ:=Int×List D.Term) (ρ:=Int×List D.Term) (B:=fun(s1:Int×Int×(List D.Term))=>if(decide (s1.2.1<(len l)))then(get? s1.2.2 s1.2.1).bind fun x1=>(Y5 n (w64 ((w64 ((w64 (s1.1+1))+1))+1))).bind fun x2=>(ZN n x1.Kids (w64 ((w64 ((w64 ((w64 (s1.1+1))+1))+1))+1))).bind fun x3=>(set? s1.2.2 s1.2.1 (D.Term.mk s1.1 (w64 (s1.1+1)) (w64 ((w64 (s1.1+1))+1)) x2 x3.2)).bind fun x4=>some (.inl (x3.1,(w64 (s1.2.1+1)),x4))else some (.inr (s1.1,s1.2.2))) (fun j a=>(a.1,(j:Int),a.2))
   (fun ys a=>(∃pre,a.2=pre++ys∧pre.length+ys.length=l.length∧Ch (l.length+mszs l) k pre a.1)∧ys.length+mszs ys≤l.length+mszs l∧k≤a.1∧a.1+4*((ys.length:Int)+mszs ys)≤k+4*((l.length:Int)+mszs l))
   (fun r=>k≤r.1∧r.1≤k+4*((l.length:Int)+mszs l)∧r.2.length=l.length∧Ch (l.length+mszs l) k r.2 r.1)
   (fun j x xs a hj hx hlen⟨⟨pre,i1,i2,i6⟩,i3,i4,i5⟩=>by
    obtain⟨q,z⟩:=a;simp only at i1 i4 i5 i6⊢;have hz:=ZaK x;rw[Xn]at i3 i5;simp only[Zm5]at i2 i3 i5 hlen;have hp:pre.length=j:=by omega
    have hd:decide ((j:Int)<len l)=true:=by rw[Zf];simp;omega
    have hg:z[j]? =some x:=by rw[i1,Zm6 (by omega),hp,Znt];rfl
    simp only[hd,Zm0,get?_nat,hg,Zmh];rw[Zn (x:=q+1) (by omega) (by omega),Zn (x:=q+1+1) (by omega) (by omega),Zn (x:=q+1+1+1) (by omega) (by omega),Zn (x:=q+1+1+1+1) (by omega) (by omega)];obtain⟨tx,ht⟩:=Zkq (k:=q+1+1+1) (by omega) (by omega);obtain⟨⟨k3,r3⟩,m1,m2,m3,m4⟩:=ih x.Kids (q+1+1+1+1) (by omega) (by omega) (by omega) (by omega);simp only at m2 m3 m4;rw[ht n (by omega)];simp only[Zmh];rw[m1];simp only[Zmh];rw[set?_nat (by rw[i1];simp;omega)];have e1:q+1+1+1=q+3:=by omega
    have e2:q+1+1+1+1=q+4:=by omega
    have e3:q+1+1=q+2:=by omega
    rw[e2]at m4;rw[e1]at ht;refine .inl ⟨(k3,z.set j (D.Term.mk q (q+1) (q+1+1) tx r3)),by simp only[Zmh];rw[Zn (by omega) (by omega)];rfl,⟨pre++[D.Term.mk q (q+1) (q+1+1) tx r3],?_,by simp;omega,i6.snoc ⟨by omega,by omega,tx,r3,by rw[e3],ht,by omega,fun m hm=>m4 m (by omega)⟩⟩,by omega,by show k≤k3;omega,by show k3+_≤_;omega⟩;show z.set j _=_
    rw[i1,Zn6 _ _ (by omega),hp,Znt];simp)
   (fun a⟨⟨pre,j1,j2,j3⟩,_,i4,i5⟩=>by
    have hd:decide ((l.length:Int)<len l)=false:=by rw[Zf];simp
    simp only[hd,Zmi,Zmr];rw[Zcg]at i5;simp only[ZmX]at i5 j2;rw[Zn3]at j1
    exact⟨_,rfl,i4,by omega,by rw[j1];omega,by rw[j1];exact j3⟩) (a:=(k,l)) ⟨⟨[],rfl,by simp,rfl⟩,by omega,by show k≤k;omega,by show k+_≤_;omega⟩ (by omega)
  rw[show((0:Nat):Int)=0 from rfl]at g1;rw[g1];refine⟨_,rfl,g2,g3,fun m hm=>?_⟩;obtain⟨m,rfl⟩:∃m',m=m'+1:=⟨m-1,by omega⟩;exact Zlb g5 h0 (by show r.2.length≤_;omega) (by omega)
end Go.Proofs.YtbidabmbbieeiaaGreatDoor
end
section
namespace Go.Proofs.YtbidabmbbieeiaaGreatDoor
open Go.GL
set_option linter.unusedSimpArgs false
set_option maxRecDepth 100000
variable{fuel:Nat}[FU fuel]
def sg(a b:Int):Int:=if a<b then-1 else if a>b then 1 else 0
def ss(a b:Str):Int:=if a=b then 0 else if Str.ltb a b=true then-1 else 1
mutual
def ctm:D.Term→D.Term→Int
 |⟨o,w,m,s,k⟩,t=>if sg o t.Op≠0 then sg o t.Op else if sg w t.W≠0 then sg w t.W else if sg m t.N≠0 then sg m t.N else if ss s t.Name≠0 then ss s t.Name else cts k t.Kids
def cts:List D.Term→List D.Term→Int
 |[],l=>sg 0 l.length
 |_::_,[]=>1
 |x::l,y::m=>if ctm x y≠0 then ctm x y else cts l m
end
theorem ZcG(a t:D.Term):ctm a t=if sg a.Op t.Op≠0 then sg a.Op t.Op else if sg a.W t.W≠0 then sg a.W t.W else if sg a.N t.N≠0 then sg a.N t.N else if ss a.Name t.Name≠0 then ss a.Name t.Name else cts a.Kids t.Kids:=by cases a;rw[ctm]
theorem Zdo(l:List D.Term):cts [] l=sg 0 l.length:=by rw[cts]
theorem Ze0(x:D.Term)(l:List D.Term):cts (x::l) []=1:=by rw[cts]
theorem Zd5(x y:D.Term)(l m:List D.Term):cts (x::l) (y::m)=if ctm x y≠0 then ctm x y else cts l m:=by rw[cts]
theorem Zh5(a b:Int):sg b a=-sg a b:=by unfold sg;split<;>split<;>(try split)<;>omega
theorem ZlM(a b:Str):ss b a=-ss a b:=by
 unfold ss;by_cases e:a=b
 ·rw[Zmm e,Zmm e.symm];rfl
 rw[Zml e,Zml fun h=>e h.symm];cases h:Str.ltb a b
 ·rw[ZjP h e];rfl
 ·have:Str.ltb b a=false:=by
   cases h2:Str.ltb b a
   ·rfl
   ·have:=lt_trans h h2;rw[ZjA]at this;cases this
  rw[this];rfl
theorem ZfY(a b:Int):sg a b=-1∨sg a b=0∨sg a b=1:=by unfold sg;split<;>(try split)<;>simp
theorem Zlo(a b:Str):ss a b=-1∨ss a b=0∨ss a b=1:=by unfold ss;split<;>(try split)<;>simp
theorem ZjY:∀n:Nat,(∀a b:D.Term,msz a<n→ctm b a=-ctm a b∧(ctm a b=-1∨ctm a b=0∨ctm a b=1))∧∀l m:List D.Term,l.length+mszs l<n→cts m l=-cts l m∧(cts l m=-1∨cts l m=0∨cts l m=1):=by
 intro n
 induction n with
 |zero=>exact⟨fun _ _ h=>by omega,fun _ _ h=>by omega⟩
 | succ n ih=>
  have hl:∀l m:List D.Term,l.length+mszs l<n+1→cts m l=-cts l m∧(cts l m=-1∨cts l m=0∨cts l m=1):=by
   intro l m h;cases l with
   |nil=>
    cases m with
    |nil=>rw[Zdo];decide
    |cons y m=>rw[Zdo,Ze0];unfold sg;simp
   | cons x l=>
    cases m with
    |nil=>rw[Zdo,Ze0];unfold sg;simp
    |cons y m=>
     rw[Xn]at h;simp only[Zm5]at h;obtain⟨a1,a2⟩:=ih.1 x y (by omega);obtain⟨b1,b2⟩:=ih.2 l m (by omega);rw[Zd5,Zd5,a1];by_cases e:ctm x y=0
     ·rw[e];simpa using⟨b1,b2⟩
     ·rw[Zmm (by omega),Zmm e];exact⟨rfl,a2⟩
  refine⟨fun a b h=>?_,hl⟩;have hz:=ZaK a;obtain⟨b1,b2⟩:=hl a.Kids b.Kids (by omega);rw[ZcG,ZcG,Zh5 a.Op,Zh5 a.W,Zh5 a.N,ZlM a.Name,b1];have h1:=ZfY a.Op b.Op;have h2:=ZfY a.W b.W;have h3:=ZfY a.N b.N;have h4:=Zlo a.Name b.Name;by_cases e1:sg a.Op b.Op=0
  ·by_cases e2:sg a.W b.W=0
   ·by_cases e3:sg a.N b.N=0
    ·by_cases e4:ss a.Name b.Name=0
     ·simp[e1,e2,e3,e4,b2]
     ·simp[e1,e2,e3,e4];omega
    ·simp[e1,e2,e3];omega
   ·simp[e1,e2];omega
  ·simp[e1];omega
theorem Zld(a b:D.Term):ctm b a=-ctm a b:=((ZjY (msz a+1)).1 a b (by omega)).1
theorem ZeC(a b:D.Term):ctm a b=-1∨ctm a b=0∨ctm a b=1:=((ZjY (msz a+1)).1 a b (by omega)).2
theorem Zl5:∀x y:List UInt8,Lib.compareBytes x y=if x=y then 0 else if Op.bytesLess x y=true then-1 else 1
 |[],[]=>by simp[Lib.compareBytes]
 |[],_::_=>by simp[Lib.compareBytes,Op.bytesLess]
 |_::_,[]=>by simp[Lib.compareBytes,Op.bytesLess]
 | a ::x,b::y=>by
  rw[Lib.compareBytes,Zl5 x y];by_cases h1:a<b
  ·have:a≠b:=fun e=>by subst e;exact absurd h1 (UInt8.lt_irrefl a)
   simp[h1,this,Op.bytesLess]
  ·by_cases h2:b<a
   ·have:a≠b:=fun e=>by subst e;exact absurd h2 (UInt8.lt_irrefl a)
    simp[h1,h2,this,Op.bytesLess]
   ·have:a=b:=by
     have h3:¬a.toNat<b.toNat:=h1;have h4:¬b.toNat<a.toNat:=h2;exact UInt8.toNat_inj.1 (by omega)
    subst this;simp[h1,Op.bytesLess]
theorem Zlg(a b:Str):strings_Compare a b=some (ss a b):=by
 unfold strings_Compare ss;rw[Zl5,Zgj];have:(a.bytes=b.bytes)=(a=b):=by
  cases a;cases b;simp
 simp only[this]
theorem ZkF(a b:Int):Xq a b=some (sg a b):=by
 unfold Xq sg;by_cases h1:a<b
 ·simp[h1]
 ·by_cases h2:a>b<;>simp[h1,h2]
theorem ZkI(a b:Int):Y1 a b=some (sg a b):=by
 unfold Y1 XV sg;by_cases h1:a<b
 ·simp[h1]
 ·by_cases h2:a>b<;>simp[h1,h2]
theorem Zh8(x y z:Int){n:Nat}(hn:4≤n):iterN (fun(s1:Int)=>if(decide (s1<(len ([x,y,z]:List Int))))then(get? ([x,y,z]:List Int) s1).bind fun x4=>if(x4 !=0)then some (.inr (.inr x4))else some (.inl ((w64 (s1+1))))else some (.inr (.inl ()))) n 0=some (if x≠0 then(.inr x:Unit⊕Int)else if y≠0 then .inr y else if z≠0 then .inr z else .inl ()):=by
 obtain⟨n,rfl⟩:∃m,n=m+4:=⟨n-4,by omega⟩;by_cases h1:x=0
 ·by_cases h2:y=0
  ·by_cases h3:z=0
   ·subst h1 h2 h3;rfl
   ·subst h1 h2;simp[iterN,Zf,get?,h3,Zn]
  ·subst h1;simp[iterN,Zf,get?,h2,Zn]
 ·simp[iterN,Zf,get?,h1]
theorem ZcE:∀(n:Nat)(a b:D.Term),msz a≤1048576→1048580+cnt a≤n→ZK n a b=some (ctm a b):=by
 intro n
 induction n with
 |zero=>intro a b _ _;omega
 | succ n ih=>
  intro a b hs hn;have hz:=ZaK a;have hc:=Zaa a;unfold ZK;simp only[ZkF,Zmh,Zh8 _ _ _ (show 4≤n by omega)];rw[ZcG];by_cases e1:sg a.Op b.Op=0;rotate_left
  ·simp[e1]
  by_cases e2:sg a.W b.W=0;rotate_left
  ·simp[e1,e2]
  by_cases e3:sg a.N b.N=0;rotate_left
  ·simp[e1,e2,e3]
  simp only[e1,e2,e3,ne_eq,not_true_eq_false,Zmr];by_cases e4:a.Name=b.Name;rotate_left
  ·have:Str.eqb a.Name b.Name=false:=by rw[ZcJ];simpa using e4
   simp only[this,ZmO,Zm0];unfold ss;rw[Zml e4];cases Str.ltb a.Name b.Name<;>simp
  have:Str.eqb a.Name b.Name=true:=by rw[ZcJ];simpa using e4
  have e5:ss a.Name b.Name=0:=by unfold ss;rw[Zmm e4]
  simp only[this,e5,Zmp,Zmi,not_true_eq_false,Zmr];obtain⟨r,g1,g2⟩:=Yq (l:=a.Kids) (n:=n) (σ:=Unit) (ρ:=Unit⊕Int) (B:=fun(s2:Int)=>if (decide (s2<(len a.Kids)))then(get? a.Kids s2).bind fun x5=>if(s2==(len b.Kids))then some (.inr (.inr 1))else(get? b.Kids s2).bind fun x6=>(ZK n x5 x6).bind fun x7=>if(x7 !=0)then some (.inr (.inr x7))else some (.inl ((w64 (s2+1))))else some (.inr (.inl ()))) (fun k _=>(k:Int)) (fun ys _=>a.Kids.length-ys.length≤b.Kids.length∧ys.length≤a.Kids.length∧cts ys (b.Kids.drop (a.Kids.length-ys.length))=cts a.Kids b.Kids∧∀x∈ys,x∈a.Kids)
    (fun r=>(r= .inl ()∧sg a.Kids.length b.Kids.length=cts a.Kids b.Kids)∨r= .inr (cts a.Kids b.Kids))
    (fun k x xs _ hk' hx hlen⟨i0,i1,i2,i3⟩=>by
     have hm:=Zat (i3 x (by simp));have hcm:=ZbW (i3 x (by simp));have hk:a.Kids.length-(x::xs).length=k:=by omega
     rw[hk]at i0 i2;have hd:decide ((k:Int)<len a.Kids)=true:=by rw[Zf];simp;omega
     simp only[hd,Zm0,get?_nat,hx,Zmh];by_cases hb:k=b.Kids.length
     ·refine .inr ⟨.inr 1,by rw[Zf];simp[hb],.inr ?_⟩;rw[←i2,hb,List.drop_length,Ze0]
     ·have hbk:k<b.Kids.length:=by omega
      have hy:b.Kids[k]? =some b.Kids[k]:=Zmn hbk;have hbeq:((k:Int)==len b.Kids)=false:=by rw[Zf];simp;omega
      rw[Zm4 hbk,Zd5]at i2;simp only[hbeq,Zmi,Zmr,hy,Zmh];rw[ih x b.Kids[k] (by omega) (by omega)];simp only[Zmh];by_cases e:ctm x b.Kids[k]=0
      ·rw[e]at i2⊢;refine .inl ⟨(),by rw[Zn (by omega) (by omega)];rfl,by simp at hlen;omega,by simp at hlen;omega,?_,fun y hy=>i3 y (by simp[hy])⟩;have:a.Kids.length-xs.length=k+1:=by simp at hlen;omega
       rw[this];simpa using i2
      ·refine .inr ⟨.inr (ctm x b.Kids[k]),by simp[e],.inr ?_⟩
       rw[←i2,Zmm e])
    (fun _⟨i0,i1,i2,_⟩=>by
     have hd:decide ((a.Kids.length:Int)<len a.Kids)=false:=by rw[Zf];simp
     simp only[hd,Zmi,Zmr];refine⟨.inl (),rfl,.inl ⟨rfl,?_⟩⟩;rw[←i2,Zdo];simp only[ZmX,Nat.sub_zero,Zn9]at i0⊢;unfold sg
     split<;>split<;>(try split)<;>(try split)<;>omega) (a:=()) ⟨by omega,by omega,by rw[Znt];rfl,fun x hx=>hx⟩ (by omega)
  rw[show((0:Nat):Int)=0 from rfl]at g1;rw[g1];rcases g2 with⟨rfl,g2⟩|rfl
  ·simp only[Zmh,Zf,g2]
  ·rfl
theorem Zc0:∀(n:Nat)(a b:D.Term),msz a≤1048576→1048580+cnt a≤n→ZJ n a b=some (ctm a b):=by
 intro n
 induction n with
 |zero=>intro a b _ _;omega
 | succ n ih=>
  intro a b hs hn;have hz:=ZaK a;have hc:=Zaa a;unfold ZJ;simp only[ZkI,Zlg,Zmh];rw[ZcG];by_cases e1:sg a.Op b.Op=0;rotate_left
  ·simp[e1]
  by_cases e2:sg a.W b.W=0;rotate_left
  ·simp[e1,e2]
  by_cases e3:sg a.N b.N=0;rotate_left
  ·simp[e1,e2,e3]
  by_cases e4:ss a.Name b.Name=0;rotate_left
  ·simp[e1,e2,e3,e4]
  simp only[e1,e2,e3,e4,ne_eq,not_true_eq_false,Zmr,bne_self_eq_false,Zmi];obtain⟨r,g1,g2⟩:=Yq (l:=a.Kids) (n:=n) (σ:=Unit) (ρ:=Unit⊕Int) (B:=fun(s1:Int)=>if((decide (s1<(len a.Kids)))&&(decide (s1<(len b.Kids))))then(get? a.Kids s1).bind fun x5=>(get? b.Kids s1).bind fun x6=>(ZJ n x5 x6).bind fun x7=>if(x7 !=0)then some (.inr (.inr x7))else some (.inl ((w64 (s1+1))))else some (.inr (.inl ()))) (fun k _=>(k:Int)) (fun ys _=>a.Kids.length-ys.length≤b.Kids.length∧ys.length≤a.Kids.length∧cts ys (b.Kids.drop (a.Kids.length-ys.length))=cts a.Kids b.Kids∧∀x∈ys,x∈a.Kids)
    (fun r=>(r= .inl ()∧sg a.Kids.length b.Kids.length=cts a.Kids b.Kids)∨r= .inr (cts a.Kids b.Kids))
    (fun k x xs _ hk' hx hlen⟨i0,i1,i2,i3⟩=>by
     have hm:=Zat (i3 x (by simp));have hcm:=ZbW (i3 x (by simp));have hk:a.Kids.length-(x::xs).length=k:=by omega
     rw[hk]at i0 i2;have hd:decide ((k:Int)<len a.Kids)=true:=by rw[Zf];simp;omega
     by_cases hb:k=b.Kids.length
     ·refine .inr ⟨.inl (),by rw[Zf,Zf];simp[hb],.inl ⟨rfl, ?_⟩⟩;rw[←i2,hb,List.drop_length,Ze0];unfold sg;rw[Zml (by omega),Zmm (by omega)]
     ·have hbk:k<b.Kids.length:=by omega
      have hy:b.Kids[k]? =some b.Kids[k]:=Zmn hbk;have hd2:decide ((k:Int)<len b.Kids)=true:=by rw[Zf];simp;omega
      rw[Zm4 hbk,Zd5]at i2;simp only[hd,hd2,Znv,Zm0,get?_nat,hx,hy,Zmh];rw[ih x b.Kids[k] (by omega) (by omega)];simp only[Zmh];by_cases e:ctm x b.Kids[k]=0
      ·rw[e]at i2⊢;refine .inl ⟨(),by rw[Zn (by omega) (by omega)];rfl,by simp at hlen;omega,by simp at hlen;omega,?_,fun y hy=>i3 y (by simp[hy])⟩;have:a.Kids.length-xs.length=k+1:=by simp at hlen;omega
       rw[this];simpa using i2
      ·refine .inr ⟨.inr (ctm x b.Kids[k]),by simp[e],.inr ?_⟩
       rw[←i2,Zmm e])
    (fun _⟨i0,i1,i2,_⟩=>by
     have hd:decide ((a.Kids.length:Int)<len a.Kids)=false:=by rw[Zf];simp
     simp only[hd,ZmY,Zmi,Zmr];refine⟨.inl (),rfl,.inl ⟨rfl,?_⟩⟩;rw[←i2,Zdo];simp only[ZmX,Nat.sub_zero,Zn9]at i0⊢;unfold sg
     split<;>split<;>(try split)<;>(try split)<;>omega) (a:=()) ⟨by omega,by omega,by rw[Znt];rfl,fun x hx=>hx⟩ (by omega)
  rw[show((0:Nat):Int)=0 from rfl]at g1;rw[g1];rcases g2 with⟨rfl,g2⟩|rfl
  ·simp only[Zmh,Zf,g2]
  ·rfl
theorem Zb2{n:Nat}{a b:D.Term}(h1:msz a≤1048576)(h2:1048580+cnt a≤n):Yj n a b=some (ctm a b==0):=by
 unfold Yj;rw[ZcE n a b h1 h2];rfl
theorem Zb0{n:Nat}{a b:D.Term}(h1:msz a≤1048576)(h2:1048580+cnt a≤n):Yf n a b=some (ctm a b==0):=by
 unfold Yf;rw[Zc0 n a b h1 h2];rfl
end Go.Proofs.YtbidabmbbieeiaaGreatDoor
end
section
namespace Go.Proofs.YtbidabmbbieeiaaGreatDoor
open Go.GL
set_option linter.unusedSimpArgs false
set_option maxRecDepth 100000
variable{fuel:Nat}[FU fuel]
theorem Zc8{x:Int}(h0:0≤x)(h1:x<65536):(BitVec.ofInt 64 x).toNat=x.toNat:=by
 rw[BitVec.toNat_ofInt];rw[Int.emod_eq_of_lt h0 (by omega)]
theorem ZdI{w:Int}(h1:1≤w)(h2:w≤16):(2:Int)^w.toNat=((2^w.toNat:Nat):Int)∧(2^w.toNat:Nat)≤65536∧2≤(2^w.toNat:Nat):=by
 rcases Zef h1 h2 with rfl|rfl|rfl|rfl|rfl|rfl|rfl|rfl|rfl|rfl|rfl|rfl|rfl|rfl|rfl|rfl<;>decide
theorem ZkV{w a b:Int}(h1:1≤w)(h2:w≤16)(ha:wordB w a=true)(hb:wordB w b=true):wordB w (band a b)=true∧wordB w (bor a b)=true∧wordB w (bxor a b)=true:=by
 obtain⟨p1,p2,p3⟩:=ZdI h1 h2;rw[ZV h1 h2]at ha hb;rw[p1]at ha hb;have ea:=Zc8 ha.1 (by omega);have eb:=Zc8 hb.1 (by omega);have la:a.toNat<2^w.toNat:=by omega
 have lb:b.toNat<2^w.toNat:=by omega
 refine⟨?_,?_,?_⟩<;>rw[ZV h1 h2,p1]
 ·unfold band;rw[BitVec.toNat_and,ea,eb];have:=Nat.and_lt_two_pow a.toNat lb;rw[Zn (by omega) (by omega)];omega
 ·unfold bor;rw[BitVec.toNat_or,ea,eb];have:=Nat.or_lt_two_pow la lb;rw[Zn (by omega) (by omega)];omega
 ·unfold bxor;rw[BitVec.toNat_xor,ea,eb];have:=Nat.xor_lt_two_pow la lb;rw[Zn (by omega) (by omega)];omega
theorem Za4{w:Int}(h1:1≤w)(h2:w≤16)(v:Int):wordB w (wordOf w v)=true:=by
 have h:=Yn w v;obtain⟨p1,p2,p3⟩:=ZdI h1 h2;obtain⟨a1,_,a3,_,_⟩:=ZaX h1 h2;unfold Yg Zl at h;have e:(decide (w≥1)&&decide (w≤16))=true:=by simp;omega
 simp only[e,Zmh,Zmp,Zmi,Zmr,a1,Option.some.injEq]at h;rw[a3]at h;rw[←h,ZV h1 h2,p1];unfold band;rw[BitVec.toNat_and,Zc8 (x:=((2^w.toNat:Nat):Int)-1) (by omega) (by omega)];have:=Nat.and_le_right (n:=(BitVec.ofInt 64 v).toNat) (m:=(((2^w.toNat:Nat):Int)-1).toNat);rw[Zn (by omega) (by omega)];omega
theorem Zcj{w a:Int}(h:wordB w a=true):ZH w a=some true:=by rw[YQ,h]
theorem Ze8(b:Bool):wordB 1 (if b=true then 1 else 0)=true:=by cases b<;>decide
theorem Zmd{op w a r:Int}(h:YS op w a=some r)(ho:op=1∨op=2)(ha:wordB w a=true):wordB w r=true:=by
 obtain⟨h1,h2⟩:=Ym ha;obtain⟨a1,_,a3,a4,a5⟩:=ZaX h1 h2;unfold YS at h;simp only[Zcj ha,Zmh,Zmp,Zmi,Zmr,Yn]at h;have hv:=(ZV h1 h2 a).1 ha;rcases ho with rfl|rfl
 ·simp only[Znf,Zm0,a1,Zmh,Option.some.injEq]at h;rw[a3,Zn (by omega) (by omega)]at h;rw[ZV h1 h2];omega
 ·simp at h;rw[←h];exact Za4 h1 h2 _
theorem Zju{op w a b r:Int}(h:Yt op w a b=some r)(ha:wordB w a=true)(hb:wordB w b=true):(3≤op∧op≤13→wordB w r=true)∧(14≤op∧op≤16→wordB 1 r=true):=by
 obtain⟨h1,h2⟩:=Ym ha;obtain⟨a1,_,a3,a4,a5⟩:=ZaX h1 h2;obtain⟨b1,b2,b3⟩:=ZkV h1 h2 ha hb;have hv:=(ZV h1 h2 a).1 ha;have hu:=(ZV h1 h2 b).1 hb;unfold Yt at h;simp only[Zcj ha,Zcj hb,Zmh,Zmp,Zmi,Zmr,Bool.or_self,Yn,(ZeP _).1]at h;refine⟨fun⟨g1,g2⟩=>?_,fun⟨g1,g2⟩=>?_⟩
 ·have:op=3∨op=4∨op=5∨op=6∨op=7∨op=8∨op=9∨op=10∨op=11∨op=12∨op=13:=by omega
  rcases this with rfl|rfl|rfl|rfl|rfl|rfl|rfl|rfl|rfl|rfl|rfl
  ·simp at h;rw[←h];exact Za4 h1 h2 _
  ·simp at h;rw[←h];exact Za4 h1 h2 _
  ·simp at h;rw[←h];exact Za4 h1 h2 _
  ·simp only[show((6:Int)==3)=false from rfl,show((6:Int)==4)=false from rfl,show((6:Int)==5)=false from rfl,Znf,Zmi,Zmr,Zm0]at h;by_cases e:b=0
   ·subst e;simp only[Znf,Zm0,a1,Zmh,Option.some.injEq]at h;rw[a3]at h;rw[ZV h1 h2];omega
   ·have e':(b==0)=false:=by simpa using e
    unfold quo? at h;simp only[e',Zmi,Zmr,e,Zmh,Option.some.injEq]at h;have q1:=Int.tdiv_nonneg hv.1 hu.1;have q2:=Int.tdiv_le_self b hv.1;rw[Zn (by omega) (by omega)]at h;rw[ZV h1 h2];omega
  ·simp only[show((7:Int)==3)=false from rfl,show((7:Int)==4)=false from rfl,show((7:Int)==5)=false from rfl,show((7:Int)==6)=false from rfl,Znf,Zmi,Zmr,Zm0]at h;by_cases e:b=0
   ·subst e;simp at h;rw[←h];exact ha
   ·have e':(b==0)=false:=by simpa using e
    unfold rem? at h;simp only[e',Zmi,Zmr,e,Zmh,Option.some.injEq]at h;have q1:=Int.tmod_nonneg b hv.1;have q2:=Int.tmod_lt_of_pos a (show 0<b by omega);rw[ZV h1 h2];omega
  ·simp at h;rw[←h];exact b1
  ·simp at h;rw[←h];exact b2
  ·simp at h;rw[←h];exact b3
  ·simp only[show((11:Int)==3)=false from rfl,show((11:Int)==4)=false from rfl,show((11:Int)==5)=false from rfl,show((11:Int)==6)=false from rfl,show((11:Int)==7)=false from rfl,show((11:Int)==8)=false from rfl,show((11:Int)==9)=false from rfl,show((11:Int)==10)=false from rfl,Znf,Zmi,Zmr,Zm0]at h;by_cases e:b≥w
   ·simp[e]at h;rw[←h,ZV h1 h2];omega
   ·rw[Zml (by simpa using e),Zgo _ hu.1]at h;simp at h;rw[←h];exact Za4 h1 h2 _
  ·simp only[show((12:Int)==3)=false from rfl,show((12:Int)==4)=false from rfl,show((12:Int)==5)=false from rfl,show((12:Int)==6)=false from rfl,show((12:Int)==7)=false from rfl,show((12:Int)==8)=false from rfl,show((12:Int)==9)=false from rfl,show((12:Int)==10)=false from rfl,show((12:Int)==11)=false from rfl,Znf,Zmi,Zmr,Zm0]at h;by_cases e:b≥w
   ·simp[e]at h;rw[←h,ZV h1 h2];omega
   ·rw[Zml (by simpa using e),Zdc _ hu.1]at h;simp only[Zmh,Option.some.injEq]at h;have hp:(0:Int)<2^min b.toNat 64:=Zou (by omega);rw[ZnO _ (by omega)]at h;have q1:=Int.ediv_nonneg hv.1 (show(0:Int)≤2^min b.toNat 64 by omega);have q2:=Int.ediv_le_self (2^min b.toNat 64) hv.1;rw[ZV h1 h2];omega
  ·simp only[Zbk,Zmh]at h;simp only[show((13:Int)==3)=false from rfl,show((13:Int)==4)=false from rfl,show((13:Int)==5)=false from rfl,show((13:Int)==6)=false from rfl,show((13:Int)==7)=false from rfl,show((13:Int)==8)=false from rfl,show((13:Int)==9)=false from rfl,show((13:Int)==10)=false from rfl,show((13:Int)==11)=false from rfl,show((13:Int)==12)=false from rfl,Znf,Zmi,Zmr,Zm0]at h;rw[Znp]at h;obtain⟨x,_,h⟩:=h;simp at h;rw[←h];exact Za4 h1 h2 _
 ·have:op=14∨op=15∨op=16:=by omega
  rcases this with rfl|rfl|rfl
  ·simp at h;rw[←h];exact by have:=Ze8 (decide (a=b));simpa using this
  ·simp at h;rw[←h];exact by have:=Ze8 (decide (a<b));simpa using this
  ·simp[Zbk]at h;rw[←h];exact by have:=Ze8 (decide (signedOf w a<signedOf w b));simpa using this
theorem Zlf{w a v b r:Int}(h:Xj w a v b=some r)(ha:wordB w a=true)(hb:wordB v b=true)(hs:w+v≤16):wordB (w+v) r=true:=by
 obtain⟨h1,h2⟩:=Ym ha;obtain⟨h3,h4⟩:=Ym hb;have hv:=(ZV h1 h2 a).1 ha;have hu:=(ZV h3 h4 b).1 hb;unfold Xj at h;simp only[Zcj ha,Zcj hb,Zmh,Zmp,Zmi,Zmr,Bool.or_self,Zm9]at h;rw[Zn (by omega) (by omega),Zml (by simp;omega),Zgo _ (by omega)]at h;have hm:min v.toNat 64=v.toNat:=by omega
 rw[hm]at h;obtain⟨p1,p2,p3⟩:=ZdI h1 h2;obtain⟨q1,q2,q3⟩:=ZdI h3 h4;obtain⟨s1,s2,s3⟩:=ZdI (w:=w+v) (by omega) hs;have hadd:(2:Int)^(w+v).toNat=2^w.toNat*2^v.toNat:=by
  rw[show(w+v).toNat=w.toNat+v.toNat by omega,Int.pow_add]
 have hbig:(2:Int)^(w+v).toNat≤65536:=by rw[s1];omega
 have hmul:(a+1)*2^v.toNat≤2^w.toNat*2^v.toNat:=Int.mul_le_mul_of_nonneg_right (by omega) (by omega);have hnn:0≤a*2^v.toNat:=Int.mul_nonneg hv.1 (by omega);rw[Int.add_mul,Int.one_mul]at hmul;rw[ZV (by omega) hs,hadd];rw[hadd]at hbig;rw[Zn (x:=a*2^v.toNat) (by omega) (by omega)]at h;simp only[Zmh,Option.some.injEq]at h;rw[Zn (by omega) (by omega)]at h;omega
theorem ZlN{w a l n r:Int}(h:XC w a l n=some r)(ha:wordB w a=true)(hl:0≤l)(hn:1≤n)(hs:l+n≤w):wordB n r=true:=by
 obtain⟨h1,h2⟩:=Ym ha;unfold XC at h;simp only[Zcj ha,Zmh,Yn]at h;rw[Zn (by omega) (by omega),Zml (by simp;omega),Zdc _ hl]at h;simp only[Zmh,Option.some.injEq]at h;rw[←h];exact Za4 hn (by omega) _
theorem Zkp{w a n r:Int}{s:Bool}(h:Xd w a n s=some r)(ha:wordB w a=true)(hs:w≤n)(hn:n≤16):wordB n r=true:=by
 obtain⟨h1,h2⟩:=Ym ha;have hv:=(ZV h1 h2 a).1 ha;unfold Xd at h;simp only[Zcj ha,Zmh,Yn,Zbk]at h;rw[Zml (by simp;omega)]at h;cases s
 ·simp at h;rw[←h,ZV (by omega) hn];have:(2:Int)^n.toNat=2^w.toNat*2^(n-w).toNat:=by rw[←Int.pow_add];congr 1;omega
  have hp:(0:Int)<2^(n-w).toNat:=Zou (by omega);have hp2:(0:Int)<2^w.toNat:=Zou (by omega);have:=Int.mul_le_mul_of_nonneg_left (show(1:Int)≤2^(n-w).toNat by omega) (show(0:Int)≤2^w.toNat by omega);omega
 ·simp at h;rw[←h];exact Za4 (by omega) hn _
end Go.Proofs.YtbidabmbbieeiaaGreatDoor
end
section
namespace Go.Proofs.YtbidabmbbieeiaaGreatDoor
open Go.GL
set_option linter.unusedSimpArgs false
set_option maxRecDepth 100000
variable{fuel:Nat}[FU fuel]
theorem XG{op w m:Int}{nm:Str}{ks:List D.Term}(h:nodeB ⟨op,w,m,nm,ks⟩=true):(1≤w∧w≤16)∧((op=0∧ks=[]∧nm=⟨[]⟩∧wordB w m=true)∨(op=22∧ks=[]∧m=0)∨((op=1∨op=2)∧m=0∧nm=⟨[]⟩∧∃a,ks=[a]∧nodeB a=true∧a.W=w)∨(3≤op∧op≤16∧m=0∧nm=⟨[]⟩∧∃a b,ks=[a,b]∧nodeB a=true∧nodeB b=true∧a.W=b.W∧(op≤13→a.W=w)∧(14≤op→w=1))∨(op=17∧m=0∧nm=⟨[]⟩∧∃a b c,ks=[a,b,c]∧nodeB a=true∧nodeB b=true∧nodeB c=true∧a.W=1∧b.W=w∧c.W=w)∨(op=18∧m=0∧nm=⟨[]⟩∧∃a b,ks=[a,b]∧nodeB a=true∧nodeB b=true∧a.W+b.W=w)∨(op=19∧nm=⟨[]⟩∧0≤m∧m≤16∧∃a,ks=[a]∧nodeB a=true∧m+w≤a.W)∨((op=20∨op=21)∧m=0∧nm=⟨[]⟩∧∃a,ks=[a]∧nodeB a=true∧a.W≤w)):=by
 rw[X6,Zmk]at h;obtain⟨h,hk⟩:=h;unfold locB at h;simp only[Zmk,Zms,ZmR,ZmE,ZcJ]at h;obtain⟨⟨⟨hw,hn⟩,hm⟩,h⟩:=h;refine⟨hw,?_⟩;simp only at hk;unfold shB at h;by_cases o0:op=0
 ·rw[Zmm o0]at h;simp only[Zmk,Zno,ZnA]at h;exact .inl ⟨o0,h.1,by rcases hn with hn|hn;exact hn;omega,h.2⟩
 rw[Zml o0]at h;by_cases o1:op=22
 ·rw[Zmm o1]at h;simp only[Zmk,Zno,ZnA]at h;exact .inr (.inl ⟨o1,h.1,by omega⟩)
 rw[Zml o1]at h;have hn:nm=⟨[]⟩:=by rcases hn with hn|hn;exact hn;exact absurd hn o1
 have hm:op≠19→m=0:=fun o=>by omega
 clear o0 o1;have k1:∀f:Int→Bool,(match ks.map (·.W)with|[a]=>f a|_=>false)=true→∃a,ks=[a]∧nodeB a=true∧f a.W=true:=fun f h=>by
  rcases ks with _|⟨a,_|⟨b,l⟩⟩<;>simp at h;rw[ZY]at hk;simp at hk;exact⟨a,rfl,hk,h⟩
 have k2:∀f:Int→Int→Bool,(match ks.map (·.W)with|[a,b]=>f a b|_=>false)=true→∃a b,ks=[a,b]∧nodeB a=true∧nodeB b=true∧f a.W b.W=true:=fun f h=>by
  rcases ks with _|⟨a,_|⟨b,_|⟨c,l⟩⟩⟩<;>simp at h;rw[ZY]at hk;simp at hk;exact⟨a,b,rfl,hk.1,hk.2,h⟩
 have k3:∀f:Int→Int→Int→Bool,(match ks.map (·.W)with|[a,b,c]=>f a b c|_=>false)=true→∃a b c,ks=[a,b,c]∧nodeB a=true∧nodeB b=true∧nodeB c=true∧f a.W b.W c.W=true:=fun f h=>by
  rcases ks with _|⟨a,_|⟨b,_|⟨c,_|⟨d,l⟩⟩⟩⟩<;>simp at h;rw[ZY]at hk;simp at hk;exact⟨a,b,c,rfl,hk.1,hk.2.1,hk.2.2,h⟩
 by_cases o2:1≤op∧op≤2
 ·rw[Zmm o2]at h;obtain⟨a,ha,hb,hf⟩:=k1 (fun a=>a==w) h;exact .inr (.inr (.inl ⟨by omega,hm (by omega),hn,a,ha,hb,by simpa using hf⟩))
 rw[Zml o2]at h;by_cases o3:3≤op∧op≤13
 ·rw[Zmm o3]at h;obtain⟨a,b,ha,hb,hc,hf⟩:=k2 (fun a b=>a==w&&b==w) h;simp only[Zmk,ZmE]at hf;exact .inr (.inr (.inr (.inl ⟨by omega,by omega,hm (by omega),hn,a,b,ha,hb,hc,by omega,by omega,by omega⟩)))
 rw[Zml o3]at h;by_cases o4:14≤op∧op≤16
 ·rw[Zmm o4]at h;obtain⟨a,b,ha,hb,hc,hf⟩:=k2 (fun a b=>a==b&&w==1) h;simp only[Zmk,ZmE]at hf;exact .inr (.inr (.inr (.inl ⟨by omega,by omega,hm (by omega),hn,a,b,ha,hb,hc,hf.1,by omega,by omega⟩)))
 rw[Zml o4]at h;by_cases o5:op=17
 ·rw[Zmm o5]at h;obtain⟨a,b,c,ha,hb,hc,hd,hf⟩:=k3 (fun a b c=>a==1&&b==w&&c==w) h;simp only[Zmk,ZmE]at hf;exact .inr (.inr (.inr (.inr (.inl ⟨o5,hm (by omega),hn,a,b,c,ha,hb,hc,hd,hf.1.1,hf.1.2,hf.2⟩))))
 rw[Zml o5]at h;by_cases o6:op=18
 ·rw[Zmm o6]at h;obtain⟨a,b,ha,hb,hc,hf⟩:=k2 (fun a b=>a+b==w) h;exact .inr (.inr (.inr (.inr (.inr (.inl ⟨o6,hm (by omega),hn,a,b,ha,hb,hc,by simpa using hf⟩)))))
 rw[Zml o6]at h;by_cases o7:op=19
 ·rw[Zmm o7]at h;obtain⟨a,ha,hb,hf⟩:=k1 (fun a=>decide (0≤m∧m≤16)&&decide (m+w≤a)) h;simp only[Zmk,Zms]at hf;exact .inr (.inr (.inr (.inr (.inr (.inr (.inl ⟨o7,hn,hf.1.1,hf.1.2,a,ha,hb,hf.2⟩))))))
 rw[Zml o7]at h;by_cases o8:20≤op∧op≤21
 ·rw[Zmm o8]at h;obtain⟨a,ha,hb,hf⟩:=k1 (fun a=>decide (a≤w)) h;exact .inr (.inr (.inr (.inr (.inr (.inr (.inr ⟨by omega,hm (by omega),hn,a,ha,hb,by simpa using hf⟩))))))
 rw[Zml o8]at h;cases h
theorem ZaN{w v:Int}(h:wordB w v=true):nodeB ⟨0,w,v,⟨[]⟩,[]⟩=true:=by
 obtain⟨h1,h2⟩:=Ym h;rw[X6,ZY];simp[locB,shB,Zao,h,h1,h2]
theorem Zmc{op:Int}{a:D.Term}(ho:op=1∨op=2)(ha:nodeB a=true):nodeB ⟨op,a.W,0,⟨[]⟩,[a]⟩=true:=by
 have h1:=YH ha;rw[X6,ZY];rcases ho with rfl|rfl<;>simp[locB,shB,Zao,ha,h1.1,h1.2]
theorem ZdJ{op w:Int}{a b:D.Term}(h3:3≤op)(h16:op≤16)(ha:nodeB a=true)(hb:nodeB b=true)(hw:a.W=b.W)(h1:op≤13→a.W=w)(h2:14≤op→w=1):nodeB ⟨op,w,0,⟨[]⟩,[a,b]⟩=true:=by
 have g1:=YH ha;have g2:1≤w∧w≤16:=by omega
 rw[X6,ZY];by_cases o:op≤13
 ·have e1:=h1 o;simp[locB,shB,Zao,ha,hb,g2.1,g2.2,e1,hw▸e1,show¬op=0 by omega,show¬op=22 by omega,show¬op≤2 by omega,h3,o]
 ·have e1:=h2 (by omega);simp[locB,shB,Zao,ha,hb,e1,hw,show¬op=0 by omega,show¬op=22 by omega,show¬op≤2 by omega,o,show 14≤op by omega,h16]
theorem Zl7{w:Int}{a b c:D.Term}(ha:nodeB a=true)(hb:nodeB b=true)(hc:nodeB c=true)(h1:a.W=1)(h2:b.W=w)(h3:c.W=w):nodeB ⟨17,w,0,⟨[]⟩,[a,b,c]⟩=true:=by
 have g2:=YH hb;rw[h2]at g2;rw[X6,ZY];simp[locB,shB,Zao,ha,hb,hc,h1,h2,h3,g2.1,g2.2]
theorem Zc5{w m:Int}{a:D.Term}(ha:nodeB a=true)(h0:0≤m)(h1:1≤w)(h2:m+w≤a.W):nodeB ⟨19,w,m,⟨[]⟩,[a]⟩=true:=by
 have g:=YH ha;rw[X6,ZY];simp[locB,shB,Zao,ha,h0,h1,h2,show w≤16 by omega,show m≤16 by omega]
theorem Zk7{op w:Int}{a:D.Term}(ho:op=20∨op=21)(ha:nodeB a=true)(h1:w≤16)(h2:a.W≤w):nodeB ⟨op,w,0,⟨[]⟩,[a]⟩=true:=by
 have g:=YH ha;rw[X6,ZY];rcases ho with rfl|rfl<;>simp[locB,shB,Zao,ha,h1,h2,show 1≤w by omega]
theorem YV{a:D.Term}(h:nodeB a=true)(ho:a.Op=0):a=⟨0,a.W,a.N,⟨[]⟩,[]⟩∧wordB a.W a.N=true:=by
 obtain⟨op,w,m,nm,ks⟩:=a;simp only at ho⊢;subst ho;obtain⟨_,hs⟩:=XG h;rcases hs with⟨_,rfl,rfl,hv⟩|hs|hs|hs|hs|hs|hs|hs
 ·exact⟨rfl,hv⟩
 all_goals(exfalso;have:=hs.1;omega)
theorem names:∀n:Nat,(∀t:D.Term,msz t<n→nodeB t=true→msz t≤11*cnt t)∧∀l:List D.Term,l.length+mszs l<n→nodesB l=true→mszs l≤11*cnts l:=by
 intro n
 induction n with
 |zero=>exact⟨fun _ h=>by omega,fun _ h=>by omega⟩
 | succ n ih=>
  have hl:∀l:List D.Term,l.length+mszs l<n+1→nodesB l=true→mszs l≤11*cnts l:=by
   intro l h hb;cases l with
   |nil=>rw[Zcg];omega
   |cons x l=>
    rw[Xn]at h⊢;rw[Za9];rw[nodesB,Zmk]at hb;simp only[Zm5]at h;have h1:=ih.1 x (by omega) hb.1;have h2:=ih.2 l (by omega) hb.2;omega
  refine⟨fun t h hb=>?_,hl⟩;have hz:=ZaK t;have hc:=Zaa t;have hb':=hb;rw[X6,Zmk]at hb';have h2:=hl t.Kids (by omega) hb'.2;have h3:t.Name.bytes.length≤8∧t.Kids.length≤3:=by
   have hk:=hb'.1;unfold locB at hk;simp only[Zmk,ZmR,ZmE,ZcJ,Zms]at hk;obtain⟨⟨⟨_,hn⟩,_⟩,hs⟩:=hk;refine⟨?_,?_⟩
   ·rcases hn with hn|hn
    ·rw[hn];simp
    ·unfold shB at hs;rw[Zml (by omega),Zmm hn,Zmk]at hs;have:=hs.2;unfold nameB at this;simp only[Zmk,Zms]at this;omega
   ·have:=Zjd hb'.1;rcases this with⟨_,e⟩|⟨_,e⟩|⟨_,a,e,_⟩|⟨_,_,a,b,e,_⟩|⟨_,a,b,c,e⟩|⟨_,a,b,e⟩|⟨_,_,_,a,e⟩|⟨_,a,e⟩<;>rw[e]<;>simp
  omega
theorem ZbH{t:D.Term}(h:nodeB t=true):msz t≤11*cnt t:=(names (msz t+1)).1 t (by omega) h
theorem Zi(w v:Int):Z8 w v=some ⟨0,w,v,⟨[]⟩,[]⟩:=rfl
theorem ZT{w v:Int}(h:wordB w v=true):ZC w v=some ⟨0,w,v,⟨[]⟩,[]⟩:=by unfold ZC;rw[Zai,h];rfl
theorem Zdg{ks:List D.Term}{n:Nat}(hn:ks.length<n)(hk:ks.length≤1000):iterN (fun(s1:Bool×Int)=>if(decide (s1.2<(len ks)))then(if s1.1 then(get? ks s1.2)else some default).bind fun x1=>(if s1.1 then(Zb x1)else some default).bind fun x2=>some (.inl ((s1.1&&x2),(w64 (s1.2+1))))else some (.inr (s1.1))) n (true,0)=some (ks.all fun x=>x.Op==0):=by
 obtain⟨r,g1,g2⟩:=Yq (l:=ks) (n:=n) (σ:=Bool) (ρ:=Bool) (B:=fun(s1:Bool×Int)=>if(decide (s1.2<(len ks)))then(if s1.1 then(get? ks s1.2)else some default).bind fun x1=>(if s1.1 then(Zb x1)else some default).bind fun x2=>some (.inl ((s1.1&&x2),(w64 (s1.2+1))))else some (.inr (s1.1))) (fun k a=>(a,(k:Int))) (fun ys a=>(a&&ys.all fun x=>x.Op==0)=ks.all fun x=>x.Op==0) (fun r=>r=ks.all fun x=>x.Op==0)
  (fun k x xs a hk' hx hlen hi=>by
   have hd:decide ((k:Int)<len ks)=true:=by rw[Zf];simp;omega
   rw[ZnW]at hi;refine .inl ⟨a&&x.Op==0,?_,by rw[←hi,Bool.and_assoc]⟩;simp only[hd,Zm0];cases a
   ·simp only[Zmi,Zmr,Zmh,ZmY];rw[Zn (by omega) (by omega)];rfl
   ·simp only[Zm0,get?_nat,hx,Zmh,Zb,ZmJ]
    rw[Zn (by omega) (by omega)];rfl)
  (fun a hi=>by
   have hd:decide ((ks.length:Int)<len ks)=false:=by rw[Zf];simp
   simp only[hd,Zmi,Zmr]
   exact⟨_,rfl,by simpa using hi⟩) (a:=true) rfl hn
 rw[show((0:Nat):Int)=0 from rfl]at g1;rw[g1,g2]
theorem ZeA{ks:List D.Term}{n:Nat}{b:Bool}(hn:ks.length<n)(hk:ks.length≤1000):iterN (fun(s1:Bool×Int×(List Int))=>if(decide (s1.2.1<(len ks)))then(get? ks s1.2.1).bind fun x1=>(app? s1.2.2 ([x1.N]:List Int)).bind fun x2=>some (.inl ((s1.1&&(x1.Op==0)),(w64 (s1.2.1+1)),x2))else some (.inr (s1.1,s1.2.2))) n (b,0,([]:List Int))=some ((b&&ks.all fun x=>x.Op==0),ks.map (·.N)):=by
 obtain⟨r,g1,g2⟩:=Yq (l:=ks) (n:=n) (σ:=Bool×List Int) (ρ:=Bool×List Int) (B:=fun(s1:Bool×Int×(List Int))=>if(decide (s1.2.1<(len ks)))then(get? ks s1.2.1).bind fun x1=>(app? s1.2.2 ([x1.N]:List Int)).bind fun x2=>some (.inl ((s1.1&&(x1.Op==0)),(w64 (s1.2.1+1)),x2))else some (.inr (s1.1,s1.2.2))) (fun k a=>(a.1,(k:Int),a.2)) (fun ys a=>(a.1&&ys.all fun x=>x.Op==0)=(b&&ks.all fun x=>x.Op==0)∧a.2++ys.map (·.N)=ks.map (·.N)) (fun r=>r=((b&&ks.all fun x=>x.Op==0),ks.map (·.N)))
  (fun k x xs a hk' hx hlen⟨hi,hj⟩=>by
   have hd:decide ((k:Int)<len ks)=true:=by rw[Zf];simp;omega
   rw[ZnW]at hi;have hl:a.2.length≤1000:=by
    have:=congrArg List.length hj;simp at this;omega
   refine .inl ⟨(a.1&&x.Op==0,a.2++[x.N]),?_,by rw[←hi,Bool.and_assoc],by rw[←hj];simp⟩;simp only[hd,Zm0,get?_nat,hx,Zmh]
   rw[Zay (by simp;omega),Zn (by omega) (by omega)];rfl)
  (fun a⟨hi,hj⟩=>by
   have hd:decide ((ks.length:Int)<len ks)=false:=by rw[Zf];simp
   simp only[hd,Zmi,Zmr];refine⟨_,rfl,?_⟩
   rw[←hi,←hj];simp) (a:=(b,[])) ⟨rfl,rfl⟩ hn
 rw[show((0:Nat):Int)=0 from rfl]at g1;rw[g1,g2]
theorem Zaw(n:Nat)(w v:Int)(e:Option (List (Str×Int))):Z0 (n+1) ⟨0,w,v,⟨[]⟩,[]⟩ e=some v:=by simp[Z0]
theorem known{op w m:Int}{nm:Str}{ks:List D.Term}(h:nodeB ⟨op,w,m,nm,ks⟩=true)(hne:ks≠[])(hc:(ks.all fun x=>x.Op==0)=true):
  ∃v,wordB w v=true∧ZW ⟨op,w,m,nm,ks⟩ (ks.map (·.N))=some v∧∀n,2≤n→Z0 n ⟨op,w,m,nm,ks⟩ none=some v:=by
 obtain⟨⟨w1,w2⟩,h⟩:=XG h;rcases h with⟨_,h,_⟩|⟨_,h,_⟩|⟨ho,rfl,rfl,a,rfl,ha,rfl⟩|⟨o3,o16,rfl,rfl,a,b,rfl,ha,hb,hab,e1,e2⟩|⟨rfl,rfl,rfl,a,b,c,rfl,ha,hb,hcc,aw,bw,cw⟩|⟨rfl,rfl,rfl,a,b,rfl,ha,hb,hab⟩|⟨rfl,rfl,m0,m16,a,rfl,ha,haw⟩|⟨ho,rfl,rfl,a,rfl,ha,haw⟩
 ·exact absurd h hne
 ·exact absurd h hne
 ·simp at hc;obtain⟨ea,va⟩:=YV ha hc;obtain⟨r,s1,s2⟩:=Zfw op a.W a.N;refine⟨r,Zmd s1 ho va,?_,fun n hn=>?_⟩
  ·unfold ZW;rw[Zk,show decide (1≤op∧op≤2)=true by simp;omega];simp[geti0,s1]
  ·obtain⟨n,rfl⟩:∃k,n=k+2:=⟨n-2,by omega⟩;have e3:Z0 (n+1) a none=some a.N:=by rw[ea];exact Zaw n _ _ _
   rw[show n+2=(n+1)+1 from rfl];unfold Z0;rcases ho with rfl|rfl<;>simp[get0,e3,s2]
 ·simp at hc;obtain⟨ea,va⟩:=YV ha hc.1;obtain⟨eb,vb⟩:=YV hb hc.2;obtain⟨r,s1,s2⟩:=Zc7 op a.W a.N b.N;have hr:=Zju s1 va (hab▸vb);refine⟨r,?_,?_,fun n hn=>?_⟩
  ·by_cases o:op≤13
   ·rw[←e1 o];exact hr.1 ⟨o3,o⟩
   ·rw[e2 (by omega)];exact hr.2 ⟨by omega,o16⟩
  ·unfold ZW;rw[Zk,show decide (1≤op∧op≤2)=false by simp;omega,Zk,show decide (3≤op∧op≤16)=true by simp;omega];simp[get0,geti0,geti1,s1]
  ·obtain⟨n,rfl⟩:∃k,n=k+2:=⟨n-2,by omega⟩;have e3:Z0 (n+1) a none=some a.N:=by rw[ea];exact Zaw n _ _ _
   have e4:Z0 (n+1) b none=some b.N:=by rw[eb];exact Zaw n _ _ _
   rw[show n+2=(n+1)+1 from rfl];unfold Z0;simp[get0,get1,e3,e4,s2,show¬op=0 by omega,show¬op=22 by omega,show¬op=17 by omega,show¬op=1 by omega,show¬op=2 by omega,show¬op=19 by omega,show¬op=20 by omega,show¬op=21 by omega,show¬op=18 by omega]
 ·simp at hc;obtain⟨ea,va⟩:=YV ha hc.1;obtain⟨eb,vb⟩:=YV hb hc.2.1;obtain⟨ec,vc⟩:=YV hcc hc.2.2;refine⟨if a.N=1 then b.N else c.N,?_,?_,fun n hn=>?_⟩
  ·split
   ·rw[←bw];exact vb
   ·rw[←cw];exact vc
  ·unfold ZW;rw[Zk,Zk];by_cases e:a.N=1<;>simp[geti0,geti1,geti2,e]
  ·obtain⟨n,rfl⟩:∃k,n=k+2:=⟨n-2,by omega⟩;have e3:Z0 (n+1) a none=some a.N:=by rw[ea];exact Zaw n _ _ _
   have e4:Z0 (n+1) b none=some b.N:=by rw[eb];exact Zaw n _ _ _
   have e5:Z0 (n+1) c none=some c.N:=by rw[ec];exact Zaw n _ _ _
   rw[show n+2=(n+1)+1 from rfl];unfold Z0;by_cases e:a.N=1<;>simp[get0,get1,get2',e3,e4,e5,e]
 ·simp at hc;obtain⟨ea,va⟩:=YV ha hc.1;obtain⟨eb,vb⟩:=YV hb hc.2;obtain⟨r,s1,s2⟩:=Zge a.W a.N b.W b.N;refine⟨r,by rw[←hab];exact Zlf s1 va vb (by omega),?_,fun n hn=>?_⟩
  ·unfold ZW;rw[Zk,Zk];simp[get0,get1,geti0,geti1,s1]
  ·obtain⟨n,rfl⟩:∃k,n=k+2:=⟨n-2,by omega⟩;have e3:Z0 (n+1) a none=some a.N:=by rw[ea];exact Zaw n _ _ _
   have e4:Z0 (n+1) b none=some b.N:=by rw[eb];exact Zaw n _ _ _
   rw[show n+2=(n+1)+1 from rfl];unfold Z0;simp[get0,get1,e3,e4,s2]
 ·simp at hc;obtain⟨ea,va⟩:=YV ha hc;obtain⟨r,s1,s2⟩:=ZhC (w:=a.W) (a:=a.N) (l:=m) (n:=w) (by omega) (by omega);refine⟨r,ZlN s1 va m0 w1 haw,?_,fun n hn=>?_⟩
  ·unfold ZW;rw[Zk,Zk];simp[get0,geti0,s1]
  ·obtain⟨n,rfl⟩:∃k,n=k+2:=⟨n-2,by omega⟩;have e3:Z0 (n+1) a none=some a.N:=by rw[ea];exact Zaw n _ _ _
   rw[show n+2=(n+1)+1 from rfl];unfold Z0;simp[get0,e3,s2]
 ·simp at hc;obtain⟨ea,va⟩:=YV ha hc;obtain⟨r,s1,s2⟩:=ZfV a.W a.N w (op==21);refine⟨r,Zkp s1 va haw w2,?_,fun n hn=>?_⟩
  ·unfold ZW;rw[Zk,show decide (1≤op∧op≤2)=false by simp;omega,Zk,show decide (3≤op∧op≤16)=false by simp;omega];rcases ho with rfl|rfl<;>simp at s1<;>simp[get0,geti0,s1]
  ·obtain⟨n,rfl⟩:∃k,n=k+2:=⟨n-2,by omega⟩;have e3:Z0 (n+1) a none=some a.N:=by rw[ea];exact Zaw n _ _ _
   rw[show n+2=(n+1)+1 from rfl];unfold Z0;rcases ho with rfl|rfl<;>simp at s2<;>simp[get0,e3,s2]
end Go.Proofs.YtbidabmbbieeiaaGreatDoor
end
section
namespace Go.Proofs.YtbidabmbbieeiaaGreatDoor
open Go.GL
set_option linter.unusedSimpArgs false
set_option maxRecDepth 100000
variable{fuel:Nat}[FU fuel]
def runS(f:Nat→D.Term→Option D.Term)(k:Nat):D.Term⊕D.Term→Option D.Term
 |.inl r=>some r
 |.inr t=>f k t
def swp(t:D.Term):Nat:=match t.Kids with
 |[a,b]=>if 0<ctm a b then 1 else 0
 |_=>0
def mea(t:D.Term):Nat:=2*cnt t+swp t
theorem Zkb(t:D.Term):swp t≤1:=by
 unfold swp;split
 ·split<;>omega
 ·omega
def Good(t:D.Term):D.Term⊕D.Term→Prop
 |.inl r=>nodeB r=true∧r.W=t.W∧cnt r≤cnt t
 |.inr u=>nodeB u=true∧u.W=t.W∧cnt u≤cnt t∧mea u<mea t
theorem Xz{t u:D.Term}(h:nodeB u=true)(hw:u.W=t.W)(hc:cnt u<cnt t):Good t (.inr u):=by
 have:=Zkb u;exact⟨h,hw,by omega,by unfold mea;omega⟩
def Stp(t:D.Term):Prop:=∃s,Good t s∧(∀k,1100000≤k→∃k',k≤k'∧ZI (k+8) t=runS ZI k' s)∧(∀k,1100000≤k→∃k',k≤k'∧Z4 (k+8) t=runS Z4 k' s)
theorem Stp.fin{t r:D.Term}(h:nodeB r=true)(hw:r.W=t.W)(hc:cnt r≤cnt t)(h1:∀k,1100000≤k→ZI (k+8) t=some r)(h2:∀k,1100000≤k→Z4 (k+8) t=some r):Stp t:=
 ⟨.inl r,⟨h,hw,hc⟩,fun k hk=>⟨k,Zmo _,h1 k hk⟩,fun k hk=>⟨k,Zmo _,h2 k hk⟩⟩
theorem Stp.go{t u:D.Term}(i j:Nat)(h:Good t (.inr u))(h1:∀k,1100000≤k→ZI (k+8) t=ZI (k+i) u)(h2:∀k,1100000≤k→Z4 (k+8) t=Z4 (k+j) u):Stp t:=
 ⟨.inr u,h,fun k hk=>⟨k+i,by omega,h1 k hk⟩,fun k hk=>⟨k+j,by omega,h2 k hk⟩⟩
theorem Ze{α:Type}(x:Option α):(x.bind fun y=>some y)=x:=by cases x<;>rfl
theorem Yv{k:Nat}{op w m:Int}{nm:Str}{ks:List D.Term}(hk:ks≠[])(hl:ks.length≤3)(hc:(ks.all fun x=>x.Op==0)=false):ZI (k+8) ⟨op,w,m,nm,ks⟩=
   if((op==1)||(op==2))then
    Xb ⟨op,w,m,nm,ks⟩
   else
    if(op==17)then
     Ye (k+7) ⟨op,w,m,nm,ks⟩
    else
     if(op==19)then
      ZU (k+7) ⟨op,w,m,nm,ks⟩
     else
      if((op==20)||(op==21))then
       Y0 (k+7) ⟨op,w,m,nm,ks⟩
      else
       if(op==18)then
        Yx (k+7) ⟨op,w,m,nm,ks⟩
       else
        Za (k+7) ⟨op,w,m,nm,ks⟩:=by
 rw[show k+8=(k+7)+1 from rfl,ZI];simp only[Ze];rw[Zml (by rw[Zf];simpa using hk),Zdg (by omega) (by omega),hc];simp only[Zmh,Zmi,Zmr]
theorem Yu{k:Nat}{op w m:Int}{nm:Str}{ks:List D.Term}(hl:ks.length≤3)(hc:(decide (len ks>0)&&ks.all fun x=>x.Op==0)=false):Z4 (k+8) ⟨op,w,m,nm,ks⟩=
  if decide (3≤op∧op≤16)then
   Zh (k+7) ⟨op,w,m,nm,ks⟩
  else
   if((op==1)||(op==2))then
    (get? ks 0).bind fun x7=>
    if(x7.Op==op)then
     (get? ks 0).bind fun x8=>
     get? x8.Kids 0
    else
     some ⟨op,w,m,nm,ks⟩
   else
    if(op==17)then
     YK (k+7) ⟨op,w,m,nm,ks⟩
    else
     if(op==19)then
      Y4 (k+7) ⟨op,w,m,nm,ks⟩
     else
      if ((op==20)||(op==21))then
       (get? ks 0).bind fun x12=>
       if(x12.W==w)then
        some x12
       else
        if(x12.Op==op)then
         Z4 (k+7) (D.Term.mk op w 0 ⟨[]⟩ x12.Kids)
        else
         some ⟨op,w,m,nm,ks⟩
      else
       if(op==18)then
        (get? ks 0).bind fun x14=>
        (get? ks 1).bind fun x15=>
        (if((x14.Op==19)&&(x15.Op==19))then(get? x14.Kids 0)else some default).bind fun x16=>
        (if((x14.Op==19)&&(x15.Op==19))then(get? x15.Kids 0)else some default).bind fun x17=>
        (if((x14.Op==19)&&(x15.Op==19))then(Yj (k+7) x16 x17)else some default).bind fun x18=>
        if((((x14.Op==19)&&(x15.Op==19))&&x18)&&(x14.N==(w64 (x15.N+x15.W))))then
         Z4 (k+7) (D.Term.mk 19 w x15.N ⟨[]⟩ x15.Kids)
        else
         some ⟨op,w,m,nm,ks⟩
       else
        some ⟨op,w,m,nm,ks⟩:=by
 rw[show k+8=(k+7)+1 from rfl,Z4];simp only[Ze,Zk];rw[ZeA (by omega) (by omega),hc];simp only[Zmh,Zmi,Zmr]
theorem ZfL{op w m:Int}{nm:Str}(h:nodeB ⟨op,w,m,nm,[]⟩=true)(ho:op=0∨op=22):Stp ⟨op,w,m,nm,[]⟩:=by
 refine .fin h rfl (Zmo _) (fun k hk=>?_) (fun k hk=>?_)
 ·rw[show k+8=(k+7)+1 from rfl,ZI,Zmm (by rfl)]
 ·rw[Yu (by simp) (by rfl)];rcases ho with rfl|rfl<;>simp
theorem Zhy{op w m:Int}{nm:Str}{ks:List D.Term}(h:nodeB ⟨op,w,m,nm,ks⟩=true)(hne:ks≠[])(hl:ks.length≤3)(hc:(ks.all fun x=>x.Op==0)=true):Stp ⟨op,w,m,nm,ks⟩:=by
 obtain⟨v,hv,h1,h2⟩:=known h hne hc;refine .fin (ZaN hv) rfl (by rw[Zaa,Zaa];simp only[XR];omega) (fun k hk=>?_) (fun k hk=>?_)
 ·rw[show k+8=(k+7)+1 from rfl,ZI];rw[Zml (by rw[Zf];simpa using hne),Zdg (ks:=ks) (n:=k+7) (by omega) (by omega),hc];simp only[Zmh,Zm0,h2 (k+7) (by omega),ZT hv]
 ·rw[show k+8=(k+7)+1 from rfl,Z4];have hd:decide (len ks>0)=true:=by
   rw[Zf];simp only[Zms];rcases ks with _|⟨x,l⟩
   ·exact absurd rfl hne
   ·simp
  rw[ZeA (ks:=ks) (n:=k+7) (by omega) (by omega),hc,hd];simp only[Zmh,Znv,Zm0,h1,Zi]
theorem cnt1(op w m:Int)(nm:Str)(a:D.Term):cnt ⟨op,w,m,nm,[a]⟩=1+cnt a:=by rw[Zaa];simp only[Za9,XR];omega
theorem cnt2(op w m:Int)(nm:Str)(a b:D.Term):cnt ⟨op,w,m,nm,[a,b]⟩=1+cnt a+cnt b:=by rw[Zaa];simp only[Za9,XR];omega
theorem cnt3(op w m:Int)(nm:Str)(a b c:D.Term):cnt ⟨op,w,m,nm,[a,b,c]⟩=1+cnt a+cnt b+cnt c:=by rw[Zaa];simp only[Za9,XR];omega
theorem cnt0(w v:Int):cnt ⟨0,w,v,⟨[]⟩,[]⟩=1:=by rw[Zaa];simp only[XR]
theorem ZbQ(t:D.Term):1≤cnt t:=by rw[Zaa];omega
theorem Zgi{op w:Int}{a:D.Term}(ho:op=1∨op=2)(ha:nodeB a=true)(hw:a.W=w):nodeB ⟨op,w,0,⟨[]⟩,[a]⟩=true:=hw▸Zmc ho ha
theorem ZkZ{op w:Int}{a:D.Term}(ho:op=1∨op=2)(ha:nodeB a=true)(hw:a.W=w)(hc:(a.Op==0)=false):Stp ⟨op,w,0,⟨[]⟩,[a]⟩:=by
 have ho':((op==1)||(op==2))=true:=by simpa using ho
 have hn:decide (3≤op∧op≤16)=false:=by simp;omega
 by_cases e:a.Op=op
 ·obtain⟨aop,aw,am,anm,aks⟩:=a;simp only at e hw hc;subst e hw;obtain⟨_,hs⟩:=XG ha;obtain⟨c,rfl,hcc,hcw⟩:∃c,aks=[c]∧nodeB c=true∧c.W=aw:=by
   rcases hs with h|h|⟨_,_,_,c,h,h2,h3⟩|h|h|h|h|h
   ·exfalso;have:=h.1;omega
   ·exfalso;have:=h.1;omega
   ·exact⟨c,h,h2,h3⟩
   all_goals(exfalso;have:=h.1;omega)
  refine .fin hcc hcw (by rw[cnt1,cnt1];omega) (fun k hk=>?_) (fun k hk=>?_)
  ·rw[Yv (by simp) (by simp) (by simp[hc]),Zmm ho'];simp[Xb,get0]
  ·rw[Yu (by simp) (by simp[hc]),hn,ho'];simp[get0]
 ·have e':(a.Op==op)=false:=by simpa using e
  refine .fin (Zgi ho ha hw) rfl (Zmo _) (fun k hk=>?_) (fun k hk=>?_)
  ·rw[Yv (by simp) (by simp) (by simp[hc]),Zmm ho'];simp[Xb,get0,e]
  ·rw[Yu (by simp) (by simp[hc]),hn,ho'];simp[get0,e]
theorem Zga{a:D.Term}(h:nodeB a=true)(ho:a.Op=19):∃c,a=⟨19,a.W,a.N,⟨[]⟩,[c]⟩∧nodeB c=true∧0≤a.N∧a.N≤16∧a.N+a.W≤c.W:=by
 obtain⟨aop,aw,am,anm,aks⟩:=a;simp only at ho;subst ho;obtain⟨_,hs⟩:=XG h;rcases hs with h|h|h|h|h|h|⟨_,rfl,h0,h1,c,rfl,h2,h3⟩|h
 ·exfalso;have:=h.1;omega
 ·exfalso;have:=h.1;omega
 ·exfalso;have:=h.1;omega
 ·exfalso;have:=h.2.1;omega
 ·exfalso;have:=h.1;omega
 ·exfalso;have:=h.1;omega
 ·exact⟨c,rfl,h2,h0,h1,h3⟩
 ·exfalso;have:=h.1;omega
theorem Zio{a:D.Term}{op:Int}(h:nodeB a=true)(ho:a.Op=op)(hop:op=20∨op=21):∃c,a=⟨op,a.W,0,⟨[]⟩,[c]⟩∧nodeB c=true∧c.W≤a.W:=by
 obtain⟨aop,aw,am,anm,aks⟩:=a;simp only at ho;subst ho;obtain⟨_,hs⟩:=XG h;rcases hs with h|h|h|h|h|h|h|⟨_,rfl,rfl,c,rfl,h2,h3⟩
 ·exfalso;have:=h.1;omega
 ·exfalso;have:=h.1;omega
 ·exfalso;have:=h.1;omega
 ·exfalso;have:=h.2.1;omega
 ·exfalso;have:=h.1;omega
 ·exfalso;have:=h.1;omega
 ·exfalso;have:=h.1;omega
 ·exact⟨c,rfl,h2,h3⟩
theorem Zlh{a:D.Term}(h:nodeB a=true)(ho:a.Op=1):∃c,a=⟨1,a.W,0,⟨[]⟩,[c]⟩∧nodeB c=true∧c.W=a.W:=by
 obtain⟨aop,aw,am,anm,aks⟩:=a;simp only at ho;subst ho;obtain⟨_,hs⟩:=XG h;rcases hs with h|h|⟨_,rfl,rfl,c,rfl,h2,h3⟩|h|h|h|h|h
 ·exfalso;have:=h.1;omega
 ·exfalso;have:=h.1;omega
 ·exact⟨c,rfl,h2,h3⟩
 ·exfalso;have:=h.1;omega
 ·exfalso;have:=h.1;omega
 ·exfalso;have:=h.1;omega
 ·exfalso;have:=h.1;omega
 ·exfalso;have:=h.1;omega
theorem ZjK{a:D.Term}(h:nodeB a=true)(ho:a.Op=18):∃b c,a=⟨18,a.W,0,⟨[]⟩,[b,c]⟩∧nodeB b=true∧nodeB c=true∧b.W+c.W=a.W:=by
 obtain⟨aop,aw,am,anm,aks⟩:=a;simp only at ho;subst ho;obtain⟨_,hs⟩:=XG h;rcases hs with h|h|h|h|h|⟨_,rfl,rfl,b,c,rfl,h2,h3,h4⟩|h|h
 ·exfalso;have:=h.1;omega
 ·exfalso;have:=h.1;omega
 ·exfalso;have:=h.1;omega
 ·exfalso;have:=h.2.1;omega
 ·exfalso;have:=h.1;omega
 ·exact⟨b,c,rfl,h2,h3,h4⟩
 ·exfalso;have:=h.1;omega
 ·exfalso;have:=h.1;omega
theorem ZkG{a:D.Term}{op:Int}(h:nodeB a=true)(ho:a.Op=op)(h3:3≤op)(h16:op≤16):∃b c,a=⟨op,a.W,0,⟨[]⟩,[b,c]⟩∧nodeB b=true∧nodeB c=true∧b.W=c.W∧(op≤13→b.W=a.W):=by
 obtain⟨aop,aw,am,anm,aks⟩:=a;simp only at ho;subst ho;obtain⟨_,hs⟩:=XG h;rcases hs with h|h|h|⟨_,_,rfl,rfl,b,c,rfl,h2,h3,h4,h5,h6⟩|h|h|h|h
 ·exfalso;have:=h.1;omega
 ·exfalso;have:=h.1;omega
 ·exfalso;have:=h.1;omega
 ·exact⟨b,c,rfl,h2,h3,h4,h5⟩
 ·exfalso;have:=h.1;omega
 ·exfalso;have:=h.1;omega
 ·exfalso;have:=h.1;omega
 ·exfalso;have:=h.1;omega
theorem Zjt{op w:Int}{a:D.Term}(ho:op=20∨op=21)(ha:nodeB a=true)(hw:a.W≤w)(h16:w≤16)(hc:(a.Op==0)=false):Stp ⟨op,w,0,⟨[]⟩,[a]⟩:=by
 have n1:((op==1)||(op==2))=false:=by simp;omega
 have n2:(op==17)=false:=by simp;omega
 have n3:(op==19)=false:=by simp;omega
 have n4:((op==20)||(op==21))=true:=by simpa using ho
 have hn:decide (3≤op∧op≤16)=false:=by simp;omega
 by_cases e1:a.W=w
 ·refine .fin ha e1 (by rw[cnt1];omega) (fun k hk=> ?_) (fun k hk=> ?_)
  ·rw[Yv (by simp) (by simp) (by simp[hc]),n1,n2,n3,n4];simp[Y0,get0,e1]
  ·rw[Yu (by simp) (by simp[hc]),hn,n1,n2,n3,n4];simp[get0,e1]
 by_cases e2:a.Op=op
 ·obtain⟨c,ea,hcc,hcw⟩:=Zio ha e2 ho;refine .go 5 7 (u:=⟨op,w,0,⟨[]⟩,[c]⟩) (Xz (Zk7 ho hcc h16 (by omega)) rfl (by rw[ea,cnt1,cnt1,cnt1];omega)) (fun k hk=>?_) (fun k hk=>?_)
  ·rw[Yv (by simp) (by simp) (by simp[hc]),n1,n2,n3,n4];have ek:a.Kids=[c]:=by rw[ea]
   simp[Y0,Zo,Ze,get0,show¬w=a.W by omega,e2,ek]
  ·rw[Yu (by simp) (by simp[hc]),hn,n1,n2,n3,n4];have ek:a.Kids=[c]:=by rw[ea]
   simp[get0,e1,e2,ek]
 ·refine .fin (Zk7 ho ha h16 hw) rfl (Zmo _) (fun k hk=> ?_) (fun k hk=> ?_)
  ·rw[Yv (by simp) (by simp) (by simp[hc]),n1,n2,n3,n4];simp[Y0,get0,show¬w=a.W by omega,e2]
  ·rw[Yu (by simp) (by simp[hc]),hn,n1,n2,n3,n4];simp[get0,e1,e2]
theorem Zkm{w m:Int}{a:D.Term}(ha:nodeB a=true)(h0:0≤m)(hm:m≤16)(h1:1≤w)(hw:m+w≤a.W)(hc:(a.Op==0)=false):Stp ⟨19,w,m,⟨[]⟩,[a]⟩:=by
 have g:=YH ha;by_cases e1:w=a.W
 ·have e0:m=0:=by omega
  refine .fin ha e1.symm (by rw[cnt1];omega) (fun k hk=>?_) (fun k hk=>?_)
  ·rw[Yv (by simp) (by simp) (by simp[hc])];simp[ZU,get0,e1,e0]
  ·rw[Yu (by simp) (by simp[hc])];simp[Y4,get0,e1]
 by_cases e2:a.Op=19
 ·obtain⟨c,ea,hcc,b0,b16,hcw⟩:=Zga ha e2;have gc:=YH hcc;have ek:a.Kids=[c]:=by rw[ea]
  refine .go 5 5 (u:=⟨19,w,m+a.N,⟨[]⟩,[c]⟩) (Xz (Zc5 hcc (by omega) h1 (by omega)) rfl (by rw[ea,cnt1,cnt1,cnt1];omega)) (fun k hk=>?_) (fun k hk=>?_)
  ·rw[Yv (by simp) (by simp) (by simp[hc])];simp[ZU,Zo,Ze,get0,e1,e2,ek,Zn (x:=m+a.N) (by omega) (by omega)]
  ·rw[Yu (by simp) (by simp[hc])];simp[Y4,Yw,Ze,get0,e1,e2,ek,Zn (x:=m+a.N) (by omega) (by omega)]
 have w1:w64 (m+w)=m+w:=Zn (by omega) (by omega);by_cases e3:a.Op=18
 ·obtain⟨b,c,ea,hb,hcc,hbc⟩:=ZjK ha e3;have gb:=YH hb;have gc:=YH hcc;have ek:a.Kids=[b,c]:=by rw[ea]
  by_cases e4:m+w≤c.W
  ·refine .go 5 5 (u:=⟨19,w,m,⟨[]⟩,[c]⟩) (Xz (Zc5 hcc h0 h1 e4) rfl (by rw[ea,cnt1,cnt1,cnt2];omega)) (fun k hk=> ?_) (fun k hk=> ?_)
   ·rw[Yv (by simp) (by simp) (by simp[hc])];simp[ZU,Zo,Ze,get0,get1,e1,e3,ek,w1,e4]
   ·rw[Yu (by simp) (by simp[hc])];simp[Y4,Yw,Ze,get0,get1,e1,e3,ek,w1,e4]
  by_cases e5:c.W≤m
  ·have w2:w64 (m-c.W)=m-c.W:=Zn (by omega) (by omega);refine .go 5 5 (u:=⟨19,w,m-c.W,⟨[]⟩,[b]⟩) (Xz (Zc5 hb (by omega) h1 (by omega)) rfl (by rw[ea,cnt1,cnt1,cnt2];omega)) (fun k hk=>?_) (fun k hk=>?_)
   ·rw[Yv (by simp) (by simp) (by simp[hc])];simp[ZU,Zo,Ze,get0,get1,e1,e3,ek,w1,e4,e5,w2]
   ·rw[Yu (by simp) (by simp[hc])];simp[Y4,Yw,Ze,get0,get1,e1,e3,ek,w1,e4,e5,w2]
  ·refine .fin (Zc5 ha h0 h1 hw) rfl (Zmo _) (fun k hk=> ?_) (fun k hk=> ?_)
   ·rw[Yv (by simp) (by simp) (by simp[hc])];simp[ZU,Zo,Ze,get0,get1,e1,e3,ek,w1,e4,e5]
   ·rw[Yu (by simp) (by simp[hc])];simp[Y4,Yw,Ze,get0,get1,e1,e3,ek,w1,e4,e5,Zk]
 by_cases e6:a.Op=20∨a.Op=21
 ·obtain⟨c,ea,hcc,hcw⟩:=Zio ha rfl e6;have gc:=YH hcc;have ek:a.Kids=[c]:=by rw[ea]
  have e7:20≤a.Op∧a.Op≤21:=by omega
  have e8:(a.Op==20||a.Op==21)=true:=by simpa using e6
  by_cases e4:m+w≤c.W
  ·refine .go 5 5 (u:=⟨19,w,m,⟨[]⟩,[c]⟩) (Xz (Zc5 hcc h0 h1 e4) rfl (by rw[ea,cnt1,cnt1,cnt1];omega)) (fun k hk=> ?_) (fun k hk=> ?_)
   ·rw[Yv (by simp) (by simp) (by simp[hc])];simp[ZU,Zo,Ze,get0,get1,e1,e2,e3,e6,ek,w1,e4]
   ·rw[Yu (by simp) (by simp[hc])];simp only[Y4,Yw,Ze,Zk];simp[get0,get1,e1,e2,e3,ek,w1,e4,e7.1,e7.2]
  ·refine .fin (Zc5 ha h0 h1 hw) rfl (Zmo _) (fun k hk=> ?_) (fun k hk=> ?_)
   ·rw[Yv (by simp) (by simp) (by simp[hc])];simp[ZU,Zo,Ze,get0,get1,e1,e2,e3,e6,ek,w1,e4]
   ·rw[Yu (by simp) (by simp[hc])];simp only[Y4,Yw,Ze,Zk];simp[get0,get1,e1,e2,e3,ek,w1,e4,e7.1,e7.2]
 ·have e7:¬(20≤a.Op∧a.Op≤21):=by omega
  refine .fin (Zc5 ha h0 h1 hw) rfl (Zmo _) (fun k hk=>?_) (fun k hk=>?_)
  ·rw[Yv (by simp) (by simp) (by simp[hc])];simp[ZU,Zo,Ze,get0,get1,e1,e2,e3,e6]
  ·rw[Yu (by simp) (by simp[hc])];simp only[Y4,Yw,Ze,Zk];simp[get0,get1,e1,e2,e3,e7]
theorem Zgg{w:Int}{a b:D.Term}(ha:nodeB a=true)(hb:nodeB b=true)(hw:a.W+b.W=w)(h16:w≤16):nodeB ⟨18,w,0,⟨[]⟩,[a,b]⟩=true:=by
 have g1:=YH ha;have g2:=YH hb;rw[X6,ZY];simp[locB,shB,Zao,ha,hb,hw,h16,show 1≤w by omega]
theorem Zjf{w:Int}{a b:D.Term}(ha:nodeB a=true)(hb:nodeB b=true)(hw:a.W+b.W=w)(h16:w≤16)(hc:(a.Op==0&&b.Op==0)=false)(hn:cnt a≤240):Stp ⟨18,w,0,⟨[]⟩,[a,b]⟩:=by
 have hc':([a,b].all fun x=>x.Op==0)=false:=by simpa using hc
 have ga:=YH ha;have gb:=YH hb;by_cases e1:a.Op=19∧b.Op=19
 ·obtain⟨c,ea,hcc,a0,a16,hcw⟩:=Zga ha e1.1;obtain⟨d,eb,hd,b0,b16,hdw⟩:=Zga hb e1.2;have gc:=YH hcc;have gd:=YH hd;have eka:a.Kids=[c]:=by rw[ea]
  have ekb:b.Kids=[d]:=by rw[eb]
  have w1:w64 (b.N+b.W)=b.N+b.W:=Zn (by omega) (by omega);have hcn:cnt c≤240:=by rw[ea,cnt1]at hn;omega
  have hmc:=ZbH hcc;have i2:∀k,1100000≤k→Yf (k+6) c d=some (ctm c d==0):=fun k hk=>Zb0 (by omega) (by omega);have s2:∀k,1100000≤k→Yj (k+7) c d=some (ctm c d==0):=fun k hk=>Zb2 (by omega) (by omega);by_cases e2:a.N=b.N+b.W
  ·by_cases e3:ctm c d=0
   ·have hcd:c.W=d.W:=by
     rw[ZcG]at e3;by_cases q1:sg c.Op d.Op=0
     ·by_cases q2:sg c.W d.W=0
      ·unfold sg at q2;split at q2<;>(try split at q2)<;>omega
      ·simp[q1,q2]at e3
     ·simp[q1]at e3
    refine .go 5 7 (u:=⟨19,w,b.N,⟨[]⟩,[d]⟩) (Xz (Zc5 hd b0 (by omega) (by omega)) rfl (by rw[ea,eb,cnt1,cnt2,cnt1,cnt1];omega)) (fun k hk=>?_) (fun k hk=>?_)
    ·rw[Yv (by simp) (by simp) hc'];simp[Yx,Zo,Ze,get0,get1,e1.1,e1.2,eka,ekb,w1,e2,i2 k hk,e3]
    ·rw[Yu (by simp) (by rw[hc'];simp)];simp[get0,get1,e1.1,e1.2,eka,ekb,w1,e2,s2 k hk,e3]
   ·refine .fin (Zgg ha hb hw h16) rfl (Zmo _) (fun k hk=> ?_) (fun k hk=> ?_)
    ·rw[Yv (by simp) (by simp) hc'];simp[Yx,Zo,Ze,get0,get1,e1.1,e1.2,eka,ekb,w1,e2,i2 k hk,e3]
    ·rw[Yu (by simp) (by rw[hc'];simp)];simp[get0,get1,e1.1,e1.2,eka,ekb,w1,e2,s2 k hk,e3]
  ·refine .fin (Zgg ha hb hw h16) rfl (Zmo _) (fun k hk=> ?_) (fun k hk=> ?_)
   ·rw[Yv (by simp) (by simp) hc'];simp[Yx,Zo,Ze,get0,get1,e1.1,e1.2,eka,ekb,w1,e2]
   ·rw[Yu (by simp) (by rw[hc'];simp)];simp[get0,get1,e1.1,e1.2,eka,ekb,w1,e2,s2 k hk]
 ·have e2:(a.Op==19&&b.Op==19)=false:=by
   cases h:(a.Op==19&&b.Op==19)
   ·rfl
   ·rw[Zmk,ZmE,ZmE]at h;exact absurd h e1
  refine .fin (Zgg ha hb hw h16) rfl (Zmo _) (fun k hk=>?_) (fun k hk=>?_)
  ·rw[Yv (by simp) (by simp) hc'];simp only[Yx,get0,get1,Zmh,e2,ZmY,Zmi,Zmr];rfl
  ·rw[Yu (by simp) (by rw[hc'];simp)];simp only[get0,get1,Zmh,e2,ZmY,Zmi,Zmr];rfl
theorem ZkM{w:Int}{a b c:D.Term}(ha:nodeB a=true)(hb:nodeB b=true)(hcc:nodeB c=true)(h1:a.W=1)(h2:b.W=w)(h3:c.W=w)(hc:(a.Op==0&&(b.Op==0&&c.Op==0))=false)(hn:cnt b≤240):Stp ⟨17,w,0,⟨[]⟩,[a,b,c]⟩:=by
 have hc':([a,b,c].all fun x=>x.Op==0)=false:=by simpa using hc
 have gb:=YH hb;have pa:=ZbQ a;have pb:=ZbQ b;have pc:=ZbQ c;have hmb:=ZbH hb;have i2:∀k,1100000≤k→Yf (k+6) b c=some (ctm b c==0):=fun k hk=>Zb0 (by omega) (by omega);have s2:∀k,1100000≤k→Yj (k+6) b c=some (ctm b c==0):=fun k hk=>Zb2 (by omega) (by omega);have me:=Zl7 ha hb hcc h1 h2 h3;by_cases e1:a.Op=0
 ·obtain⟨ea,va⟩:=YV ha e1;rw[h1]at va;have hv:=(ZV (by omega) (by omega) a.N).1 va;have hv2:a.N=0∨a.N=1:=by
   have:(2:Int)^(1:Int).toNat=2:=rfl;omega
  rcases hv2 with e2|e2
  ·refine .fin hcc h3 (by rw[cnt3];omega) (fun k hk=> ?_) (fun k hk=> ?_)
   ·rw[Yv (by simp) (by simp) hc'];simp[Ye,Zp,Zb,get0,get1,get2',e1,e2]
   ·rw[Yu (by simp) (by rw[hc'];simp)];simp[YK,Zq,get0,get1,get2',e1,e2]
  ·refine .fin hb h2 (by rw[cnt3];omega) (fun k hk=> ?_) (fun k hk=> ?_)
   ·rw[Yv (by simp) (by simp) hc'];simp[Ye,Zp,Zb,get0,get1,get2',e1,e2]
   ·rw[Yu (by simp) (by rw[hc'];simp)];simp[YK,Zq,get0,get1,get2',e1,e2]
 by_cases e2:ctm b c=0
 ·refine .fin hb h2 (by rw[cnt3];omega) (fun k hk=> ?_) (fun k hk=> ?_)
  ·rw[Yv (by simp) (by simp) hc'];simp[Ye,Zp,Zb,get0,get1,get2',e1,i2 k hk,e2]
  ·rw[Yu (by simp) (by rw[hc'];simp)];simp[YK,Zq,get0,get1,get2',e1,s2 k hk,e2]
 by_cases e3:a.Op=1
 ·obtain⟨d,ea,hd,hdw⟩:=Zlh ha e3;have ek:a.Kids=[d]:=by rw[ea]
  refine .go 5 6 (u:=⟨17,w,0,⟨[]⟩,[d,c,b]⟩) (Xz (Zl7 hd hcc hb (by omega) h3 h2) rfl (by rw[ea,cnt3,cnt3,cnt1];omega)) (fun k hk=>?_) (fun k hk=>?_)
  ·rw[Yv (by simp) (by simp) hc'];simp[Ye,Zo,Ze,Zp,Zb,get0,get1,get2',i2 k hk,e2,e3,ek]
  ·rw[Yu (by simp) (by rw[hc'];simp)];simp[YK,Ze,Zq,get0,get1,get2',s2 k hk,e2,e3,ek]
 by_cases e4:w=1;rotate_left
 ·refine .fin me rfl (Zmo _) (fun k hk=> ?_) (fun k hk=> ?_)
  ·rw[Yv (by simp) (by simp) hc'];simp[Ye,Zo,Ze,Zp,Zb,get0,get1,get2',i2 k hk,e1,e2,e3,e4]
  ·rw[Yu (by simp) (by rw[hc'];simp)];simp[YK,Ze,Zq,get0,get1,get2',s2 k hk,e1,e2,e3,e4]
 subst e4;by_cases e5:b.Op=0∧b.N=1∧c.Op=0∧c.N=0
 ·obtain⟨q1,q2,q3,q4⟩:=e5;refine .fin ha h1 (by rw[cnt3];omega) (fun k hk=>?_) (fun k hk=>?_)
  ·rw[Yv (by simp) (by simp) hc'];simp[Ye,Zo,Ze,Zp,Zb,get0,get1,get2',i2 k hk,e1,e2,e3,q1,q2,q3,q4]
  ·rw[Yu (by simp) (by rw[hc'];simp)];simp[YK,Ze,Zq,get0,get1,get2',s2 k hk,e1,e2,e3,q1,q2,q3,q4]
 by_cases e6:b.Op=0∧b.N=0∧c.Op=0∧c.N=1
 ·obtain⟨q1,q2,q3,q4⟩:=e6;refine .go 5 6 (u:=⟨1,1,0,⟨[]⟩,[a]⟩) (Xz (Zgi (.inl rfl) ha h1) rfl (by rw[cnt1,cnt3];omega)) (fun k hk=>?_) (fun k hk=>?_)
  ·rw[Yv (by simp) (by simp) hc'];simp[Ye,Zo,Ze,Zp,Zb,get0,get1,get2',i2 k hk,e1,e2,e3,q1,q2,q3,q4]
  ·rw[Yu (by simp) (by rw[hc'];simp)];simp[YK,Ze,Zq,get0,get1,get2',s2 k hk,e1,e2,e3,q1,q2,q3,q4]
 refine .fin me rfl (Zmo _) (fun k hk=>?_) (fun k hk=>?_)
 ·rw[Yv (by simp) (by simp) hc'];simp[Ye,Zo,Ze,Zp,Zb,get0,get1,get2',i2 k hk,e1,e2,e3];by_cases q1:b.Op=0<;>by_cases q2:c.Op=0<;>by_cases q3:b.N=0<;>by_cases q4:b.N=1<;>by_cases q5:c.N=0<;>by_cases q6:c.N=1<;>simp_all
 ·rw[Yu (by simp) (by rw[hc'];simp)];simp[YK,Ze,Zq,get0,get1,get2',s2 k hk,e1,e2,e3];by_cases q1:b.Op=0<;>by_cases q2:c.Op=0<;>by_cases q3:b.N=0<;>by_cases q4:b.N=1<;>by_cases q5:c.N=0<;>by_cases q6:c.N=1<;>simp_all
end Go.Proofs.YtbidabmbbieeiaaGreatDoor
end
section
namespace Go.Proofs.YtbidabmbbieeiaaGreatDoor
open Go.GL
set_option linter.unusedSimpArgs false
set_option maxRecDepth 100000
variable{fuel:Nat}[FU fuel]
theorem Zu{k:Nat}{op w:Int}{a b:D.Term}(h3:3≤op)(h16:op≤16)(hc:(a.Op==0&&b.Op==0)=false):ZI (k+8) ⟨op,w,0,⟨[]⟩,[a,b]⟩=Za (k+7) ⟨op,w,0,⟨[]⟩,[a,b]⟩:=by
 rw[Yv (by simp) (by simp) (by simpa using hc)];rw[show((op==1)||(op==2))=false by simp;omega,show(op==17)=false by simp;omega,show(op==19)=false by simp;omega,show((op==20)||(op==21))=false by simp;omega,show(op==18)=false by simp;omega];rfl
theorem Zt{k:Nat}{op w:Int}{a b:D.Term}(h3:3≤op)(h16:op≤16)(hc:(a.Op==0&&b.Op==0)=false):Z4 (k+8) ⟨op,w,0,⟨[]⟩,[a,b]⟩=Zh (k+7) ⟨op,w,0,⟨[]⟩,[a,b]⟩:=by
 rw[Yu (by simp) (by rw[show([a,b].all fun x=>x.Op==0)=false by simpa using hc];simp)];rw[show decide (3≤op∧op≤16)=true by simp;omega];rfl
theorem Zd0{w:Int}(h1:1≤w)(h2:w≤16):wordB w 0=true:=by
 obtain⟨p1,p2,p3⟩:=ZdI h1 h2;rw[ZV h1 h2,p1];omega
theorem Zjl{op w:Int}{a b:D.Term}(ho:op=3∨op=5∨op=8∨op=9∨op=10∨op=14)(ha:nodeB a=true)(hb:nodeB b=true)(hw:a.W=b.W)(h1:op≤13→a.W=w)(h2:14≤op→w=1)
  (hc:(a.Op==0&&b.Op==0)=false)(hn:cnt a≤240)(hs:ctm a b=1):Stp ⟨op,w,0,⟨[]⟩,[a,b]⟩:=by
 have hma:=ZbH ha;have i1:∀k,1100000≤k→ZJ (k+6) a b=some (ctm a b):=fun k hk=>Zc0 _ _ _ (by omega) (by omega);have s1:∀k,1100000≤k→ZK (k+6) a b=some (ctm a b):=fun k hk=>ZcE _ _ _ (by omega) (by omega);refine .go 5 6 (u:=⟨op,w,0,⟨[]⟩,[b,a]⟩) ⟨ZdJ (by omega) (by omega) hb ha hw.symm (fun o=>by have:=h1 o;omega) h2,rfl,by rw[cnt2,cnt2];omega,?_⟩ (fun k hk=>?_) (fun k hk=>?_)
 ·have e:ctm b a=-1:=by rw[Zld,hs]
  unfold mea swp;rw[cnt2,cnt2];simp[e,hs];omega
 ·rw[Zu (by omega) (by omega) hc];rcases ho with rfl|rfl|rfl|rfl|rfl|rfl<;>simp[Za,Zo,Ze,Zd,get0,get1,i1 k hk,hs]
 ·rw[Zt (by omega) (by omega) hc];rcases ho with rfl|rfl|rfl|rfl|rfl|rfl<;>simp[Zh,Ze,get0,get1,s1 k hk,hs,Zk]
theorem ZbA{op w:Int}{a b:D.Term}(ho:op=3∨op=5∨op=8∨op=9∨op=10)(ha:nodeB a=true)(hb:nodeB b=true)(hw:a.W=b.W)(h1:a.W=w)
  (ha0:a.Op=0)(hb0:b.Op≠0)(hn:cnt a≤240)(hs:ctm a b≠1)(hs2:ctm a b≠0)
  (f1:∀k,1100000≤k→∃x,Zw (k+6) op w a b=some (x,false))(f2:∀k,1100000≤k→∃x,Z5 (k+6) ⟨op,w,0,⟨[]⟩,[a,b]⟩=some (x,false)):Stp ⟨op,w,0,⟨[]⟩,[a,b]⟩:=by
 have hma:=ZbH ha;have hc:(a.Op==0&&b.Op==0)=false:=by simp[hb0]
 have gt:¬0<ctm a b:=by have:=ZeC a b;omega
 have i1:∀k,1100000≤k→ZJ (k+6) a b=some (ctm a b):=fun k hk=>Zc0 _ _ _ (by omega) (by omega);have s1:∀k,1100000≤k→ZK (k+6) a b=some (ctm a b):=fun k hk=>ZcE _ _ _ (by omega) (by omega);have i2:∀k,1100000≤k→Yf (k+6) a b=some (ctm a b==0):=fun k hk=>Zb0 (by omega) (by omega);have s2:∀k,1100000≤k→Yj (k+6) a b=some (ctm a b==0):=fun k hk=>Zb2 (by omega) (by omega);have me:nodeB ⟨op,w,0,⟨[]⟩,[a,b]⟩=true:=ZdJ (by omega) (by omega) ha hb hw (fun _=>h1) (fun o=>by omega);obtain⟨ea,va⟩:=YV ha ha0;by_cases e1:b.Op=op;rotate_left
 ·refine .fin me rfl (Zmo _) (fun k hk=> ?_) (fun k hk=> ?_)
  ·obtain⟨x,f⟩:=f1 k hk;rw[Zu (by omega) (by omega) hc];rcases ho with rfl|rfl|rfl|rfl|rfl<;>simp[Za,Ze,Zd,Zp,Zb,get0,get1,i1 k hk,i2 k hk,hs,hs2,ha0,hb0,f,e1]
  ·obtain⟨x,f⟩:=f2 k hk;rw[Zt (by omega) (by omega) hc];rcases ho with rfl|rfl|rfl|rfl|rfl<;>simp[Zh,Ze,Zq,get0,get1,s1 k hk,s2 k hk,gt,hs2,ha0,hb0,f,e1,Zk]
 obtain⟨c,d,eb,hcc,hd,hcd,hcw⟩:=ZkG hb e1 (by omega) (by omega);have ekb:b.Kids=[c,d]:=by rw[eb]
 by_cases e2:c.Op=0;rotate_left
 ·refine .fin me rfl (Zmo _) (fun k hk=> ?_) (fun k hk=> ?_)
  ·obtain⟨x,f⟩:=f1 k hk;rw[Zu (by omega) (by omega) hc];rcases ho with rfl|rfl|rfl|rfl|rfl<;>simp[Za,Ze,Zd,Zp,Zb,get0,get1,i1 k hk,i2 k hk,hs,hs2,ha0,hb0,f,e1,ekb,e2]
  ·obtain⟨x,f⟩:=f2 k hk;rw[Zt (by omega) (by omega) hc];rcases ho with rfl|rfl|rfl|rfl|rfl<;>simp[Zh,Ze,Zq,get0,get1,s1 k hk,s2 k hk,gt,hs2,ha0,hb0,f,e1,Zk,ekb,e2]
 obtain⟨ec,vc⟩:=YV hcc e2;obtain⟨r,q1,q2⟩:=Zc7 op w a.N c.N;have vr:wordB w r=true:=(Zju q1 (by rw[←h1];exact va) (by rw[←h1,hw,←hcw (by omega)];exact vc)).1 ⟨by omega,by omega⟩;have gw:=Ym vr
 refine .go 5 6 (u:=⟨op,w,0,⟨[]⟩,[⟨0,w,r,⟨[]⟩,[]⟩,d]⟩) (Xz (ZdJ (by omega) (by omega) (ZaN vr) hd (by show w=d.W;have:=hcw (by omega);omega) (fun _=>rfl) (fun o=>by omega)) rfl (by
  have pa:=ZbQ a;have pc:=ZbQ c
  rw[eb,cnt2,cnt2,cnt2,cnt0];omega)) (fun k hk=>?_) (fun k hk=>?_)
 ·obtain⟨x,f⟩:=f1 k hk;rw[Zu (by omega) (by omega) hc];rcases ho with rfl|rfl|rfl|rfl|rfl<;>simp[Za,Zo,Ze,Zd,Zp,Zb,get0,get1,i1 k hk,i2 k hk,hs,hs2,ha0,hb0,f,e1,ekb,e2,q2,ZT vr]
 ·obtain⟨x,f⟩:=f2 k hk;rw[Zt (by omega) (by omega) hc];rcases ho with rfl|rfl|rfl|rfl|rfl<;>simp[Zh,Ze,Zq,get0,get1,s1 k hk,s2 k hk,gt,hs2,ha0,hb0,f,e1,Zk,ekb,e2,q1,Zi]
theorem Zid{a:D.Term}(ha:nodeB a=true)(ha0:a.Op=0):∃o,ZaZ a.W=some o∧ZaM a=some (a.N==o)∧1≤o∧wordB a.W o=true:=by
 have g:=YH ha;obtain⟨a1,a2,a3,a4,a5⟩:=ZaX g.1 g.2;refine⟨2^a.W.toNat-1,?_,?_,by omega,by rw[ZV g.1 g.2];omega⟩
 ·unfold ZaZ;rw[a2];simp only[Zmh];rw[a3]
 ·unfold ZaM;simp only[ha0,Znf,Zm0,a1,Zmh,ZmJ];rw[a3]
theorem Zhs{op w:Int}{a b:D.Term}(ho:op=3∨op=5∨op=8∨op=9∨op=10∨op=14)(ha:nodeB a=true)(hb:nodeB b=true)(hw:a.W=b.W)(h1:op≤13→a.W=w)(h2:14≤op→w=1)
  (ha0:a.Op=0)(hb0:b.Op≠0)(hn:cnt a≤240)(hs:ctm a b≠1):Stp ⟨op,w,0,⟨[]⟩,[a,b]⟩:=by
 have hma:=ZbH ha;have hc:(a.Op==0&&b.Op==0)=false:=by simp[hb0]
 have gt:¬0<ctm a b:=by have:=ZeC a b;omega
 have hs2:ctm a b≠0:=fun e=>by
  rw[ZcG]at e;by_cases q:sg a.Op b.Op=0
  ·unfold sg at q;split at q<;>(try split at q)<;>omega
  ·simp[q]at e
 have i1:∀k,1100000≤k→ZJ (k+6) a b=some (ctm a b):=fun k hk=>Zc0 _ _ _ (by omega) (by omega);have s1:∀k,1100000≤k→ZK (k+6) a b=some (ctm a b):=fun k hk=>ZcE _ _ _ (by omega) (by omega);have i2:∀k,1100000≤k→Yf (k+6) a b=some (ctm a b==0):=fun k hk=>Zb0 (by omega) (by omega);have s2:∀k,1100000≤k→Yj (k+6) a b=some (ctm a b==0):=fun k hk=>Zb2 (by omega) (by omega);have me:nodeB ⟨op,w,0,⟨[]⟩,[a,b]⟩=true:=ZdJ (by omega) (by omega) ha hb hw h1 h2;obtain⟨o,o1,o2,o3,o4⟩:=Zid ha ha0;obtain⟨ea,va⟩:=YV ha ha0;have ga:=YH ha;have tb:cnt b≤cnt ⟨op,w,0,⟨[]⟩,[a,b]⟩:=by rw[cnt2];omega
 have tc:∀v,cnt ⟨0,w,v,⟨[]⟩,[]⟩≤cnt ⟨op,w,0,⟨[]⟩,[a,b]⟩:=fun v=>by rw[cnt2,cnt0];omega
 have ea0:op≤13→a.N=0→a=⟨0,w,0,⟨[]⟩,[]⟩:=fun q e=>by rw[ea,e,h1 q]
 have eao:op≤13→a.N=o→a=⟨0,w,o,⟨[]⟩,[]⟩:=fun q e=>by rw[ea,e,h1 q]
 rcases ho with rfl|rfl|rfl|rfl|rfl|rfl
 ·by_cases e0:a.N=0
  ·refine .fin hb (by show b.W=w;have:=h1 (by omega);omega) tb (fun k hk=> ?_) (fun k hk=> ?_)
   ·rw[Zu (by omega) (by omega) hc];simp[Za,Zw,Zo,Ze,Zd,Zp,Zb,get0,get1,i1 k hk,i2 k hk,hs,hs2,ha0,hb0,o1,e0]
   ·rw[Zt (by omega) (by omega) hc];simp[Zh,Z5,Ze,Zq,Zi,get0,get1,s1 k hk,s2 k hk,gt,hs2,ha0,hb0,o2,Zk,e0]
  refine ZbA (by simp) ha hb hw (h1 (by omega)) ha0 hb0 hn hs hs2 (fun k hk=>?_) (fun k hk=>?_)
  ·exact⟨⟨0,0,0,⟨[]⟩,[]⟩,by simp[Zw,ha0,o1,e0]⟩
  ·exact⟨_,by simp[Z5,Zq,get0,get1,ha0,o2,e0];rfl⟩
 ·by_cases e0:a.N=1
  ·refine .fin hb (by show b.W=w;have:=h1 (by omega);omega) tb (fun k hk=> ?_) (fun k hk=> ?_)
   ·rw[Zu (by omega) (by omega) hc];simp[Za,Zw,Zo,Ze,Zd,Zp,Zb,get0,get1,i1 k hk,i2 k hk,hs,hs2,ha0,hb0,o1,e0]
   ·rw[Zt (by omega) (by omega) hc];simp[Zh,Z5,Ze,Zq,Zi,get0,get1,s1 k hk,s2 k hk,gt,hs2,ha0,hb0,o2,Zk,e0]
  by_cases e1:a.N=0
  ·refine .fin ha (h1 (by omega)) (by rw[cnt2];omega) (fun k hk=> ?_) (fun k hk=> ?_)
   ·rw[Zu (by omega) (by omega) hc];simp[Za,Zw,Zo,Ze,Zd,Zp,Zb,get0,get1,i1 k hk,i2 k hk,hs,hs2,ha0,hb0,o1,e0,e1,ZT (w:=w) (v:=0) (by have:=h1 (by omega);exact Zd0 (by omega) (by omega))];exact(ea0 (by omega) (by assumption)).symm
   ·rw[Zt (by omega) (by omega) hc];simp[Zh,Z5,Ze,Zq,Zi,get0,get1,s1 k hk,s2 k hk,gt,hs2,ha0,hb0,o2,Zk,e0,e1,ZT (w:=w) (v:=0) (by have:=h1 (by omega);exact Zd0 (by omega) (by omega))]
  refine ZbA (by simp) ha hb hw (h1 (by omega)) ha0 hb0 hn hs hs2 (fun k hk=>?_) (fun k hk=>?_)
  ·exact⟨⟨0,0,0,⟨[]⟩,[]⟩,by simp[Zw,ha0,o1,e0,e1]⟩
  ·exact⟨_,by simp[Z5,Zq,get0,get1,ha0,o2,e0,e1];rfl⟩
 ·by_cases e0:a.N=o
  ·refine .fin hb (by show b.W=w;have:=h1 (by omega);omega) tb (fun k hk=> ?_) (fun k hk=> ?_)
   ·rw[Zu (by omega) (by omega) hc];simp[Za,Zw,Zo,Ze,Zd,Zp,Zb,get0,get1,i1 k hk,i2 k hk,hs,hs2,ha0,hb0,o1,e0,show¬o=0 by omega]
   ·rw[Zt (by omega) (by omega) hc];simp[Zh,Z5,Ze,Zq,Zi,get0,get1,s1 k hk,s2 k hk,gt,hs2,ha0,hb0,o2,Zk,e0,show¬o=0 by omega]
  by_cases e1:a.N=0
  ·refine .fin ha (h1 (by omega)) (by rw[cnt2];omega) (fun k hk=> ?_) (fun k hk=> ?_)
   ·rw[Zu (by omega) (by omega) hc];simp[Za,Zw,Zo,Ze,Zd,Zp,Zb,get0,get1,i1 k hk,i2 k hk,hs,hs2,ha0,hb0,o1,e0,e1,ZT (w:=w) (v:=0) (by have:=h1 (by omega);exact Zd0 (by omega) (by omega)),show¬0=o by omega];exact(ea0 (by omega) (by assumption)).symm
   ·rw[Zt (by omega) (by omega) hc];simp[Zh,Z5,Ze,Zq,Zi,get0,get1,s1 k hk,s2 k hk,gt,hs2,ha0,hb0,o2,Zk,e0,e1,ZT (w:=w) (v:=0) (by have:=h1 (by omega);exact Zd0 (by omega) (by omega)),show¬0=o by omega]
  refine ZbA (by simp) ha hb hw (h1 (by omega)) ha0 hb0 hn hs hs2 (fun k hk=>?_) (fun k hk=>?_)
  ·exact⟨⟨0,0,0,⟨[]⟩,[]⟩,by simp[Zw,ha0,o1,e0,e1]⟩
  ·exact⟨_,by simp[Z5,Zq,get0,get1,ha0,o2,e0,e1];rfl⟩
 ·by_cases e0:a.N=0
  ·refine .fin hb (by show b.W=w;have:=h1 (by omega);omega) tb (fun k hk=> ?_) (fun k hk=> ?_)
   ·rw[Zu (by omega) (by omega) hc];simp[Za,Zw,Zo,Ze,Zd,Zp,Zb,get0,get1,i1 k hk,i2 k hk,hs,hs2,ha0,hb0,o1,e0]
   ·rw[Zt (by omega) (by omega) hc];simp[Zh,Z5,Ze,Zq,Zi,get0,get1,s1 k hk,s2 k hk,gt,hs2,ha0,hb0,o2,Zk,e0]
  by_cases e1:a.N=o
  ·refine .fin ha (h1 (by omega)) (by rw[cnt2];omega) (fun k hk=> ?_) (fun k hk=> ?_)
   ·rw[Zu (by omega) (by omega) hc];simp[Za,Zw,Zo,Ze,Zd,Zp,Zb,get0,get1,i1 k hk,i2 k hk,hs,hs2,ha0,hb0,o1,e0,e1,ZT (w:=w) (v:=o) (by have:=h1 (by omega);rw[←this];exact o4),show¬o=0 by omega];exact(eao (by omega) (by assumption)).symm
   ·rw[Zt (by omega) (by omega) hc];simp[Zh,Z5,Ze,Zq,Zi,get0,get1,s1 k hk,s2 k hk,gt,hs2,ha0,hb0,o2,Zk,e0,e1,ZT (w:=w) (v:=o) (by have:=h1 (by omega);rw[←this];exact o4),show¬o=0 by omega]
  refine ZbA (by simp) ha hb hw (h1 (by omega)) ha0 hb0 hn hs hs2 (fun k hk=>?_) (fun k hk=>?_)
  ·exact⟨⟨0,0,0,⟨[]⟩,[]⟩,by simp[Zw,ha0,o1,e0,e1]⟩
  ·exact⟨_,by simp[Z5,Zq,get0,get1,ha0,o2,e0,e1];rfl⟩
 ·by_cases e0:a.N=0
  ·refine .fin hb (by show b.W=w;have:=h1 (by omega);omega) tb (fun k hk=> ?_) (fun k hk=> ?_)
   ·rw[Zu (by omega) (by omega) hc];simp[Za,Zw,Zo,Ze,Zd,Zp,Zb,get0,get1,i1 k hk,i2 k hk,hs,hs2,ha0,hb0,o1,e0]
   ·rw[Zt (by omega) (by omega) hc];simp[Zh,Z5,Ze,Zq,Zi,get0,get1,s1 k hk,s2 k hk,gt,hs2,ha0,hb0,o2,Zk,e0]
  by_cases e1:a.N=o
  ·refine .go 4 5 (u:=⟨1,w,0,⟨[]⟩,[b]⟩) (Xz (Zgi (.inl rfl) hb (by have:=h1 (by omega);omega)) rfl (by have:=ZbQ a;rw[cnt1,cnt2];omega)) (fun k hk=> ?_) (fun k hk=> ?_)
   ·rw[Zu (by omega) (by omega) hc];simp[Za,Zw,Zo,Ze,Zd,Zp,Zb,get0,get1,i1 k hk,i2 k hk,hs,hs2,ha0,hb0,o1,e0,e1,show¬o=0 by omega];generalize ZI (k+4) _=z;cases z<;>simp
   ·rw[Zt (by omega) (by omega) hc];simp[Zh,Z5,Ze,Zq,Zi,get0,get1,s1 k hk,s2 k hk,gt,hs2,ha0,hb0,o2,Zk,e0,e1,show¬o=0 by omega];generalize Z4 (k+5) _=z;cases z<;>simp
  refine ZbA (by simp) ha hb hw (h1 (by omega)) ha0 hb0 hn hs hs2 (fun k hk=>?_) (fun k hk=>?_)
  ·exact⟨⟨0,0,0,⟨[]⟩,[]⟩,by simp[Zw,ha0,o1,e0,e1]⟩
  ·exact⟨_,by simp[Z5,Zq,get0,get1,ha0,o2,e0,e1];rfl⟩
 ·have hw1:=h2 (by omega);by_cases q:a.W=1
  ·rw[q]at va o1;have hv:=(ZV (by omega) (by omega) a.N).1 va;have hv2:a.N=0∨a.N=1:=by
    have:(2:Int)^(1:Int).toNat=2:=rfl;omega
   rcases hv2 with e|e
   ·refine .go 4 5 (u:=⟨1,1,0,⟨[]⟩,[b]⟩) (Xz (Zgi (.inl rfl) hb (by omega)) hw1.symm (by have:=ZbQ a;rw[cnt1,cnt2];omega)) (fun k hk=> ?_) (fun k hk=> ?_)
    ·rw[Zu (by omega) (by omega) hc];simp[Za,Zw,Zo,Ze,Zd,Zp,Zb,get0,get1,i1 k hk,i2 k hk,hs,hs2,ha0,hb0,o1,e,q,hw1];generalize ZI (k+4) _=z;cases z<;>simp
    ·rw[Zt (by omega) (by omega) hc];simp[Zh,Z5,Ze,Zq,Zi,get0,get1,s1 k hk,s2 k hk,gt,hs2,ha0,hb0,o2,Zk,e,q,hw1];generalize Z4 (k+5) _=z;cases z<;>simp
   ·refine .fin hb (by show b.W=w;omega) tb (fun k hk=> ?_) (fun k hk=> ?_)
    ·rw[Zu (by omega) (by omega) hc];simp[Za,Zw,Zo,Ze,Zd,Zp,Zb,get0,get1,i1 k hk,i2 k hk,hs,hs2,ha0,hb0,o1,e,q]
    ·rw[Zt (by omega) (by omega) hc];simp[Zh,Z5,Ze,Zq,Zi,get0,get1,s1 k hk,s2 k hk,gt,hs2,ha0,hb0,o2,Zk,e,q]
  ·refine .fin me rfl (Zmo _) (fun k hk=> ?_) (fun k hk=> ?_)
   ·rw[Zu (by omega) (by omega) hc];simp[Za,Zw,Zo,Ze,Zd,Zp,Zb,get0,get1,i1 k hk,i2 k hk,hs,hs2,ha0,hb0,o1,q]
   ·rw[Zt (by omega) (by omega) hc];simp[Zh,Z5,Ze,Zq,Zi,get0,get1,s1 k hk,s2 k hk,gt,hs2,ha0,hb0,o2,Zk,q]
theorem Zhc{op w:Int}{a b:D.Term}(ho:op=4∨op=6∨op=7∨op=11∨op=12∨op=13∨op=15∨op=16)(ha:nodeB a=true)(hb:nodeB b=true)(hw:a.W=b.W)(h1:op≤13→a.W=w)(h2:14≤op→w=1)
  (ha0:a.Op=0)(hb0:b.Op≠0)(hn:cnt a≤240):Stp ⟨op,w,0,⟨[]⟩,[a,b]⟩:=by
 have hma:=ZbH ha;have hc:(a.Op==0&&b.Op==0)=false:=by simp[hb0]
 have hs2:ctm a b≠0:=fun e=>by
  rw[ZcG]at e;by_cases q:sg a.Op b.Op=0
  ·unfold sg at q;split at q<;>(try split at q)<;>omega
  ·simp[q]at e
 have i2:∀k,1100000≤k→Yf (k+6) a b=some (ctm a b==0):=fun k hk=>Zb0 (by omega) (by omega);have s2:∀k,1100000≤k→Yj (k+6) a b=some (ctm a b==0):=fun k hk=>Zb2 (by omega) (by omega);have me:nodeB ⟨op,w,0,⟨[]⟩,[a,b]⟩=true:=ZdJ (by omega) (by omega) ha hb hw h1 h2;obtain⟨o,o1,o2,o3,o4⟩:=Zid ha ha0;refine .fin me rfl (Zmo _) (fun k hk=>?_) (fun k hk=>?_)
 ·rw[Zu (by omega) (by omega) hc];rcases ho with rfl|rfl|rfl|rfl|rfl|rfl|rfl|rfl<;>simp[Za,Zw,Ze,Zd,Zp,Zb,get0,get1,i2 k hk,hs2,ha0,hb0,o1]
 ·rw[Zt (by omega) (by omega) hc];rcases ho with rfl|rfl|rfl|rfl|rfl|rfl|rfl|rfl<;>simp[Zh,Z5,Ze,Zq,get0,get1,s2 k hk,hs2,ha0,hb0,o2,Zk]
theorem ZfN{op w:Int}{a b:D.Term}(h3:3≤op)(h16:op≤16)(ha:nodeB a=true)(hb:nodeB b=true)(hw:a.W=b.W)(h1:op≤13→a.W=w)(h2:14≤op→w=1)
  (ha0:a.Op≠0)(hn:cnt a≤240)(hs:op=3∨op=5∨op=8∨op=9∨op=10∨op=14→ctm a b≠1):Stp ⟨op,w,0,⟨[]⟩,[a,b]⟩:=by
 have hma:=ZbH ha;have hc:(a.Op==0&&b.Op==0)=false:=by simp[ha0]
 have ga:=YH ha;have i1:∀k,1100000≤k→ZJ (k+6) a b=some (ctm a b):=fun k hk=>Zc0 _ _ _ (by omega) (by omega);have s1:∀k,1100000≤k→ZK (k+6) a b=some (ctm a b):=fun k hk=>ZcE _ _ _ (by omega) (by omega);have i2:∀k,1100000≤k→Yf (k+6) a b=some (ctm a b==0):=fun k hk=>Zb0 (by omega) (by omega);have s2:∀k,1100000≤k→Yj (k+6) a b=some (ctm a b==0):=fun k hk=>Zb2 (by omega) (by omega);have me:nodeB ⟨op,w,0,⟨[]⟩,[a,b]⟩=true:=ZdJ (by omega) (by omega) ha hb hw h1 h2;have hw1:1≤w∧w≤16:=by omega
 have hz:=Zd0 hw1.1 hw1.2;have ta:cnt a≤cnt ⟨op,w,0,⟨[]⟩,[a,b]⟩:=by rw[cnt2];omega
 have tc:∀v,cnt ⟨0,w,v,⟨[]⟩,[]⟩≤cnt ⟨op,w,0,⟨[]⟩,[a,b]⟩:=fun v=>by rw[cnt2,cnt0];omega
 have hop:op=3∨op=4∨op=5∨op=6∨op=7∨op=8∨op=9∨op=10∨op=11∨op=12∨op=13∨op=14∨op=15∨op=16:=by omega
 have gt:op=3∨op=5∨op=8∨op=9∨op=10∨op=14→¬0<ctm a b:=fun o=>by have:=ZeC a b;have:=hs o;omega
 by_cases z:b.Op=0∧b.N=0
 ·have c1:Zp b 0=some true:=by simp[Zp,z.1,z.2]
  have c2:Zq b 0=some true:=by simp[Zq,z.1,z.2]
  have hs2:ctm a b≠0:=fun e=>by
   rw[ZcG]at e;by_cases q:sg a.Op b.Op=0
   ·unfold sg at q;split at q<;>(try split at q)<;>omega
   ·simp[q]at e
  rcases hop with rfl|rfl|rfl|rfl|rfl|rfl|rfl|rfl|rfl|rfl|rfl|rfl|rfl|rfl
  ·refine .fin me rfl (Zmo _) (fun k hk=> ?_) (fun k hk=> ?_)
   ·rw[Zu (by omega) (by omega) hc];simp[Za,Ze,Zd,Zb,get0,get1,i1 k hk,i2 k hk,ha0,c1,hs2,hs (by simp)]
   ·rw[Zt (by omega) (by omega) hc];simp[Zh,Zj,Ze,Zi,get0,get1,s1 k hk,s2 k hk,ha0,c2,Zk,hs2,gt (by simp)]
  ·refine .fin ha (h1 (by omega)) ta (fun k hk=> ?_) (fun k hk=> ?_)
   ·rw[Zu (by omega) (by omega) hc];simp[Za,Ze,Zd,Zb,get0,get1,i1 k hk,i2 k hk,ha0,c1]
   ·rw[Zt (by omega) (by omega) hc];simp[Zh,Zj,Ze,Zi,get0,get1,s1 k hk,s2 k hk,ha0,c2,Zk]
  ·refine .fin me rfl (Zmo _) (fun k hk=> ?_) (fun k hk=> ?_)
   ·rw[Zu (by omega) (by omega) hc];simp[Za,Ze,Zd,Zb,get0,get1,i1 k hk,i2 k hk,ha0,c1,hs2,hs (by simp)]
   ·rw[Zt (by omega) (by omega) hc];simp[Zh,Zj,Ze,Zi,get0,get1,s1 k hk,s2 k hk,ha0,c2,Zk,hs2,gt (by simp)]
  ·refine .fin me rfl (Zmo _) (fun k hk=> ?_) (fun k hk=> ?_)
   ·rw[Zu (by omega) (by omega) hc];simp[Za,Ze,Zd,Zb,get0,get1,i1 k hk,i2 k hk,ha0,c1,hs2]
   ·rw[Zt (by omega) (by omega) hc];simp[Zh,Zj,Ze,Zi,get0,get1,s1 k hk,s2 k hk,ha0,c2,Zk,hs2]
  ·refine .fin me rfl (Zmo _) (fun k hk=> ?_) (fun k hk=> ?_)
   ·rw[Zu (by omega) (by omega) hc];simp[Za,Ze,Zd,Zb,get0,get1,i1 k hk,i2 k hk,ha0,c1,hs2]
   ·rw[Zt (by omega) (by omega) hc];simp[Zh,Zj,Ze,Zi,get0,get1,s1 k hk,s2 k hk,ha0,c2,Zk,hs2]
  ·refine .fin me rfl (Zmo _) (fun k hk=> ?_) (fun k hk=> ?_)
   ·rw[Zu (by omega) (by omega) hc];simp[Za,Ze,Zd,Zb,get0,get1,i1 k hk,i2 k hk,ha0,c1,hs2,hs (by simp)]
   ·rw[Zt (by omega) (by omega) hc];simp[Zh,Zj,Ze,Zi,get0,get1,s1 k hk,s2 k hk,ha0,c2,Zk,hs2,gt (by simp)]
  ·refine .fin me rfl (Zmo _) (fun k hk=> ?_) (fun k hk=> ?_)
   ·rw[Zu (by omega) (by omega) hc];simp[Za,Ze,Zd,Zb,get0,get1,i1 k hk,i2 k hk,ha0,c1,hs2,hs (by simp)]
   ·rw[Zt (by omega) (by omega) hc];simp[Zh,Zj,Ze,Zi,get0,get1,s1 k hk,s2 k hk,ha0,c2,Zk,hs2,gt (by simp)]
  ·refine .fin me rfl (Zmo _) (fun k hk=> ?_) (fun k hk=> ?_)
   ·rw[Zu (by omega) (by omega) hc];simp[Za,Ze,Zd,Zb,get0,get1,i1 k hk,i2 k hk,ha0,c1,hs2,hs (by simp)]
   ·rw[Zt (by omega) (by omega) hc];simp[Zh,Zj,Ze,Zi,get0,get1,s1 k hk,s2 k hk,ha0,c2,Zk,hs2,gt (by simp)]
  ·refine .fin ha (h1 (by omega)) ta (fun k hk=> ?_) (fun k hk=> ?_)
   ·rw[Zu (by omega) (by omega) hc];simp[Za,Ze,Zd,Zb,get0,get1,i1 k hk,i2 k hk,ha0,c1]
   ·rw[Zt (by omega) (by omega) hc];simp[Zh,Zj,Ze,Zi,get0,get1,s1 k hk,s2 k hk,ha0,c2,Zk]
  ·refine .fin ha (h1 (by omega)) ta (fun k hk=> ?_) (fun k hk=> ?_)
   ·rw[Zu (by omega) (by omega) hc];simp[Za,Ze,Zd,Zb,get0,get1,i1 k hk,i2 k hk,ha0,c1]
   ·rw[Zt (by omega) (by omega) hc];simp[Zh,Zj,Ze,Zi,get0,get1,s1 k hk,s2 k hk,ha0,c2,Zk]
  ·refine .fin ha (h1 (by omega)) ta (fun k hk=> ?_) (fun k hk=> ?_)
   ·rw[Zu (by omega) (by omega) hc];simp[Za,Ze,Zd,Zb,get0,get1,i1 k hk,i2 k hk,ha0,c1]
   ·rw[Zt (by omega) (by omega) hc];simp[Zh,Zj,Ze,Zi,get0,get1,s1 k hk,s2 k hk,ha0,c2,Zk]
  ·refine .fin me rfl (Zmo _) (fun k hk=> ?_) (fun k hk=> ?_)
   ·rw[Zu (by omega) (by omega) hc];simp[Za,Ze,Zd,Zb,get0,get1,i1 k hk,i2 k hk,ha0,c1,hs2,hs (by simp)]
   ·rw[Zt (by omega) (by omega) hc];simp[Zh,Zj,Ze,Zi,get0,get1,s1 k hk,s2 k hk,ha0,c2,Zk,hs2,gt (by simp)]
  ·obtain rfl:=h2 (by omega);refine .fin (ZaN (w:=1) (v:=0) (hz)) rfl (tc _) (fun k hk=>?_) (fun k hk=>?_)
   ·rw[Zu (by omega) (by omega) hc];simp[Za,Ze,Zd,Zb,get0,get1,i1 k hk,i2 k hk,ha0,c1,ZT hz]
   ·rw[Zt (by omega) (by omega) hc];simp[Zh,Zj,Ze,Zi,get0,get1,s1 k hk,s2 k hk,ha0,c2,Zk]
  ·refine .fin me rfl (Zmo _) (fun k hk=> ?_) (fun k hk=> ?_)
   ·rw[Zu (by omega) (by omega) hc];simp[Za,Ze,Zd,Zb,get0,get1,i1 k hk,i2 k hk,ha0,c1,hs2]
   ·rw[Zt (by omega) (by omega) hc];simp[Zh,Zj,Ze,Zi,get0,get1,s1 k hk,s2 k hk,ha0,c2,Zk,hs2]
 ·have c1:Zp b 0=some false:=by
   unfold Zp;cases h:(b.Op==0&&b.N==0)
   ·rfl
   ·rw[Zmk,ZmE,ZmE]at h;exact absurd h z
  have c2:Zq b 0=some false:=by
   unfold Zq;cases h:(b.Op==0&&b.N==0)
   ·rfl
   ·rw[Zmk,ZmE,ZmE]at h;exact absurd h z
  by_cases e:ctm a b=0
  ·rcases hop with rfl|rfl|rfl|rfl|rfl|rfl|rfl|rfl|rfl|rfl|rfl|rfl|rfl|rfl
   ·refine .fin me rfl (Zmo _) (fun k hk=> ?_) (fun k hk=> ?_)
    ·rw[Zu (by omega) (by omega) hc];simp[Za,Ze,Zd,Zb,get0,get1,i1 k hk,i2 k hk,ha0,c1,e]
    ·rw[Zt (by omega) (by omega) hc];simp[Zh,Zj,Ze,Zi,get0,get1,s1 k hk,s2 k hk,ha0,c2,Zk,e]
   ·refine .fin (ZaN (w:=w) (v:=0) (hz)) rfl (tc _) (fun k hk=> ?_) (fun k hk=> ?_)
    ·rw[Zu (by omega) (by omega) hc];simp[Za,Ze,Zd,Zb,get0,get1,i1 k hk,i2 k hk,ha0,c1,e,ZT hz]
    ·rw[Zt (by omega) (by omega) hc];simp[Zh,Zj,Ze,Zi,get0,get1,s1 k hk,s2 k hk,ha0,c2,Zk,e]
   ·refine .fin me rfl (Zmo _) (fun k hk=> ?_) (fun k hk=> ?_)
    ·rw[Zu (by omega) (by omega) hc];simp[Za,Ze,Zd,Zb,get0,get1,i1 k hk,i2 k hk,ha0,c1,e]
    ·rw[Zt (by omega) (by omega) hc];simp[Zh,Zj,Ze,Zi,get0,get1,s1 k hk,s2 k hk,ha0,c2,Zk,e]
   ·refine .fin me rfl (Zmo _) (fun k hk=> ?_) (fun k hk=> ?_)
    ·rw[Zu (by omega) (by omega) hc];simp[Za,Ze,Zd,Zb,get0,get1,i1 k hk,i2 k hk,ha0,c1,e]
    ·rw[Zt (by omega) (by omega) hc];simp[Zh,Zj,Ze,Zi,get0,get1,s1 k hk,s2 k hk,ha0,c2,Zk,e]
   ·refine .fin me rfl (Zmo _) (fun k hk=> ?_) (fun k hk=> ?_)
    ·rw[Zu (by omega) (by omega) hc];simp[Za,Ze,Zd,Zb,get0,get1,i1 k hk,i2 k hk,ha0,c1,e]
    ·rw[Zt (by omega) (by omega) hc];simp[Zh,Zj,Ze,Zi,get0,get1,s1 k hk,s2 k hk,ha0,c2,Zk,e]
   ·refine .fin ha (h1 (by omega)) ta (fun k hk=> ?_) (fun k hk=> ?_)
    ·rw[Zu (by omega) (by omega) hc];simp[Za,Ze,Zd,Zb,get0,get1,i1 k hk,i2 k hk,ha0,c1,e]
    ·rw[Zt (by omega) (by omega) hc];simp[Zh,Zj,Ze,Zi,get0,get1,s1 k hk,s2 k hk,ha0,c2,Zk,e]
   ·refine .fin ha (h1 (by omega)) ta (fun k hk=> ?_) (fun k hk=> ?_)
    ·rw[Zu (by omega) (by omega) hc];simp[Za,Ze,Zd,Zb,get0,get1,i1 k hk,i2 k hk,ha0,c1,e]
    ·rw[Zt (by omega) (by omega) hc];simp[Zh,Zj,Ze,Zi,get0,get1,s1 k hk,s2 k hk,ha0,c2,Zk,e]
   ·refine .fin (ZaN (w:=w) (v:=0) (hz)) rfl (tc _) (fun k hk=> ?_) (fun k hk=> ?_)
    ·rw[Zu (by omega) (by omega) hc];simp[Za,Ze,Zd,Zb,get0,get1,i1 k hk,i2 k hk,ha0,c1,e,ZT hz]
    ·rw[Zt (by omega) (by omega) hc];simp[Zh,Zj,Ze,Zi,get0,get1,s1 k hk,s2 k hk,ha0,c2,Zk,e]
   ·refine .fin me rfl (Zmo _) (fun k hk=> ?_) (fun k hk=> ?_)
    ·rw[Zu (by omega) (by omega) hc];simp[Za,Ze,Zd,Zb,get0,get1,i1 k hk,i2 k hk,ha0,c1,e]
    ·rw[Zt (by omega) (by omega) hc];simp[Zh,Zj,Ze,Zi,get0,get1,s1 k hk,s2 k hk,ha0,c2,Zk,e]
   ·refine .fin me rfl (Zmo _) (fun k hk=> ?_) (fun k hk=> ?_)
    ·rw[Zu (by omega) (by omega) hc];simp[Za,Ze,Zd,Zb,get0,get1,i1 k hk,i2 k hk,ha0,c1,e]
    ·rw[Zt (by omega) (by omega) hc];simp[Zh,Zj,Ze,Zi,get0,get1,s1 k hk,s2 k hk,ha0,c2,Zk,e]
   ·refine .fin me rfl (Zmo _) (fun k hk=> ?_) (fun k hk=> ?_)
    ·rw[Zu (by omega) (by omega) hc];simp[Za,Ze,Zd,Zb,get0,get1,i1 k hk,i2 k hk,ha0,c1,e]
    ·rw[Zt (by omega) (by omega) hc];simp[Zh,Zj,Ze,Zi,get0,get1,s1 k hk,s2 k hk,ha0,c2,Zk,e]
   ·obtain rfl:=h2 (by omega);refine .fin (ZaN (w:=1) (v:=1) (by decide)) rfl (tc _) (fun k hk=>?_) (fun k hk=>?_)
    ·rw[Zu (by omega) (by omega) hc];simp[Za,Ze,Zd,Zb,get0,get1,i1 k hk,i2 k hk,ha0,c1,e,ZT (w:=1) (v:=1) (by decide)]
    ·rw[Zt (by omega) (by omega) hc];simp[Zh,Zj,Ze,Zi,get0,get1,s1 k hk,s2 k hk,ha0,c2,Zk,e]
   ·refine .fin (ZaN (w:=w) (v:=0) (hz)) rfl (tc _) (fun k hk=> ?_) (fun k hk=> ?_)
    ·rw[Zu (by omega) (by omega) hc];simp[Za,Ze,Zd,Zb,get0,get1,i1 k hk,i2 k hk,ha0,c1,e,ZT hz]
    ·rw[Zt (by omega) (by omega) hc];simp[Zh,Zj,Ze,Zi,get0,get1,s1 k hk,s2 k hk,ha0,c2,Zk,e]
   ·refine .fin (ZaN (w:=w) (v:=0) (hz)) rfl (tc _) (fun k hk=> ?_) (fun k hk=> ?_)
    ·rw[Zu (by omega) (by omega) hc];simp[Za,Ze,Zd,Zb,get0,get1,i1 k hk,i2 k hk,ha0,c1,e,ZT hz]
    ·rw[Zt (by omega) (by omega) hc];simp[Zh,Zj,Ze,Zi,get0,get1,s1 k hk,s2 k hk,ha0,c2,Zk,e]
  ·rcases hop with rfl|rfl|rfl|rfl|rfl|rfl|rfl|rfl|rfl|rfl|rfl|rfl|rfl|rfl
   ·refine .fin me rfl (Zmo _) (fun k hk=> ?_) (fun k hk=> ?_)
    ·rw[Zu (by omega) (by omega) hc];simp[Za,Ze,Zd,Zb,get0,get1,i1 k hk,i2 k hk,ha0,c1,e,hs (by simp)]
    ·rw[Zt (by omega) (by omega) hc];simp[Zh,Zj,Ze,Zi,get0,get1,s1 k hk,s2 k hk,ha0,c2,Zk,e,gt (by simp)]
   ·refine .fin me rfl (Zmo _) (fun k hk=> ?_) (fun k hk=> ?_)
    ·rw[Zu (by omega) (by omega) hc];simp[Za,Ze,Zd,Zb,get0,get1,i1 k hk,i2 k hk,ha0,c1,e]
    ·rw[Zt (by omega) (by omega) hc];simp[Zh,Zj,Ze,Zi,get0,get1,s1 k hk,s2 k hk,ha0,c2,Zk,e]
   ·refine .fin me rfl (Zmo _) (fun k hk=> ?_) (fun k hk=> ?_)
    ·rw[Zu (by omega) (by omega) hc];simp[Za,Ze,Zd,Zb,get0,get1,i1 k hk,i2 k hk,ha0,c1,e,hs (by simp)]
    ·rw[Zt (by omega) (by omega) hc];simp[Zh,Zj,Ze,Zi,get0,get1,s1 k hk,s2 k hk,ha0,c2,Zk,e,gt (by simp)]
   ·refine .fin me rfl (Zmo _) (fun k hk=> ?_) (fun k hk=> ?_)
    ·rw[Zu (by omega) (by omega) hc];simp[Za,Ze,Zd,Zb,get0,get1,i1 k hk,i2 k hk,ha0,c1,e]
    ·rw[Zt (by omega) (by omega) hc];simp[Zh,Zj,Ze,Zi,get0,get1,s1 k hk,s2 k hk,ha0,c2,Zk,e]
   ·refine .fin me rfl (Zmo _) (fun k hk=> ?_) (fun k hk=> ?_)
    ·rw[Zu (by omega) (by omega) hc];simp[Za,Ze,Zd,Zb,get0,get1,i1 k hk,i2 k hk,ha0,c1,e]
    ·rw[Zt (by omega) (by omega) hc];simp[Zh,Zj,Ze,Zi,get0,get1,s1 k hk,s2 k hk,ha0,c2,Zk,e]
   ·refine .fin me rfl (Zmo _) (fun k hk=> ?_) (fun k hk=> ?_)
    ·rw[Zu (by omega) (by omega) hc];simp[Za,Ze,Zd,Zb,get0,get1,i1 k hk,i2 k hk,ha0,c1,e,hs (by simp)]
    ·rw[Zt (by omega) (by omega) hc];simp[Zh,Zj,Ze,Zi,get0,get1,s1 k hk,s2 k hk,ha0,c2,Zk,e,gt (by simp)]
   ·refine .fin me rfl (Zmo _) (fun k hk=> ?_) (fun k hk=> ?_)
    ·rw[Zu (by omega) (by omega) hc];simp[Za,Ze,Zd,Zb,get0,get1,i1 k hk,i2 k hk,ha0,c1,e,hs (by simp)]
    ·rw[Zt (by omega) (by omega) hc];simp[Zh,Zj,Ze,Zi,get0,get1,s1 k hk,s2 k hk,ha0,c2,Zk,e,gt (by simp)]
   ·refine .fin me rfl (Zmo _) (fun k hk=> ?_) (fun k hk=> ?_)
    ·rw[Zu (by omega) (by omega) hc];simp[Za,Ze,Zd,Zb,get0,get1,i1 k hk,i2 k hk,ha0,c1,e,hs (by simp)]
    ·rw[Zt (by omega) (by omega) hc];simp[Zh,Zj,Ze,Zi,get0,get1,s1 k hk,s2 k hk,ha0,c2,Zk,e,gt (by simp)]
   ·refine .fin me rfl (Zmo _) (fun k hk=> ?_) (fun k hk=> ?_)
    ·rw[Zu (by omega) (by omega) hc];simp[Za,Ze,Zd,Zb,get0,get1,i1 k hk,i2 k hk,ha0,c1,e]
    ·rw[Zt (by omega) (by omega) hc];simp[Zh,Zj,Ze,Zi,get0,get1,s1 k hk,s2 k hk,ha0,c2,Zk,e]
   ·refine .fin me rfl (Zmo _) (fun k hk=> ?_) (fun k hk=> ?_)
    ·rw[Zu (by omega) (by omega) hc];simp[Za,Ze,Zd,Zb,get0,get1,i1 k hk,i2 k hk,ha0,c1,e]
    ·rw[Zt (by omega) (by omega) hc];simp[Zh,Zj,Ze,Zi,get0,get1,s1 k hk,s2 k hk,ha0,c2,Zk,e]
   ·refine .fin me rfl (Zmo _) (fun k hk=> ?_) (fun k hk=> ?_)
    ·rw[Zu (by omega) (by omega) hc];simp[Za,Ze,Zd,Zb,get0,get1,i1 k hk,i2 k hk,ha0,c1,e]
    ·rw[Zt (by omega) (by omega) hc];simp[Zh,Zj,Ze,Zi,get0,get1,s1 k hk,s2 k hk,ha0,c2,Zk,e]
   ·refine .fin me rfl (Zmo _) (fun k hk=> ?_) (fun k hk=> ?_)
    ·rw[Zu (by omega) (by omega) hc];simp[Za,Ze,Zd,Zb,get0,get1,i1 k hk,i2 k hk,ha0,c1,e,hs (by simp)]
    ·rw[Zt (by omega) (by omega) hc];simp[Zh,Zj,Ze,Zi,get0,get1,s1 k hk,s2 k hk,ha0,c2,Zk,e,gt (by simp)]
   ·refine .fin me rfl (Zmo _) (fun k hk=> ?_) (fun k hk=> ?_)
    ·rw[Zu (by omega) (by omega) hc];simp[Za,Ze,Zd,Zb,get0,get1,i1 k hk,i2 k hk,ha0,c1,e]
    ·rw[Zt (by omega) (by omega) hc];simp[Zh,Zj,Ze,Zi,get0,get1,s1 k hk,s2 k hk,ha0,c2,Zk,e]
   ·refine .fin me rfl (Zmo _) (fun k hk=> ?_) (fun k hk=> ?_)
    ·rw[Zu (by omega) (by omega) hc];simp[Za,Ze,Zd,Zb,get0,get1,i1 k hk,i2 k hk,ha0,c1,e]
    ·rw[Zt (by omega) (by omega) hc];simp[Zh,Zj,Ze,Zi,get0,get1,s1 k hk,s2 k hk,ha0,c2,Zk,e]
theorem Zks{op w:Int}{a b:D.Term}(h3:3≤op)(h16:op≤16)(ha:nodeB a=true)(hb:nodeB b=true)(hw:a.W=b.W)(h1:op≤13→a.W=w)(h2:14≤op→w=1)(hc:(a.Op==0&&b.Op==0)=false)(hn:cnt a≤240):Stp ⟨op,w,0,⟨[]⟩,[a,b]⟩:=by
 by_cases ho:op=3∨op=5∨op=8∨op=9∨op=10∨op=14
 ·by_cases hs:ctm a b=1
  ·exact Zjl ho ha hb hw h1 h2 hc hn hs
  by_cases ha0:a.Op=0
  ·exact Zhs ho ha hb hw h1 h2 ha0 (fun e=>by simp[ha0,e]at hc) hn hs
  ·exact ZfN h3 h16 ha hb hw h1 h2 ha0 hn fun _=>hs
 ·by_cases ha0:a.Op=0
  ·exact Zhc (by omega) ha hb hw h1 h2 ha0 (fun e=>by simp[ha0,e]at hc) hn
  ·exact ZfN h3 h16 ha hb hw h1 h2 ha0 hn fun o=>absurd o ho
theorem step{t:D.Term}(h:nodeB t=true)(hn:cnt t≤240):Stp t:=by
 obtain⟨op,w,m,nm,ks⟩:=t;obtain⟨⟨w1,w2⟩,hs⟩:=XG h;by_cases hc:ks≠[]∧(ks.all fun x=>x.Op==0)=true
 ·refine Zhy h hc.1 ?_ hc.2;rcases hs with⟨_,rfl,_⟩|⟨_,rfl,_⟩|⟨_,_,_,a,rfl,_⟩|⟨_,_,_,_,a,b,rfl,_⟩|⟨_,_,_,a,b,c,rfl,_⟩|⟨_,_,_,a,b,rfl,_⟩|⟨_,_,_,_,a,rfl,_⟩|⟨_,_,_,a,rfl,_⟩<;>simp
 have hc:ks≠[]→(ks.all fun x=>x.Op==0)=false:=fun e=>by
  cases q:ks.all fun x=>x.Op==0
  ·rfl
  ·exact absurd ⟨e,q⟩ hc
 rcases hs with⟨ho,rfl,rfl,hv⟩|⟨ho,rfl,rfl⟩|⟨ho,rfl,rfl,a,rfl,ha,hw⟩|⟨h3,h16,rfl,rfl,a,b,rfl,ha,hb,hab,e1,e2⟩|⟨rfl,rfl,rfl,a,b,c,rfl,ha,hb,hcc,aw,bw,cw⟩|⟨rfl,rfl,rfl,a,b,rfl,ha,hb,hab⟩|⟨rfl,rfl,m0,m16,a,rfl,ha,haw⟩|⟨ho,rfl,rfl,a,rfl,ha,haw⟩
 ·exact ZfL h (.inl ho)
 ·exact ZfL h (.inr ho)
 ·exact ZkZ ho ha hw (by have:=hc (by simp);simpa using this)
 ·rw[cnt2]at hn;exact Zks h3 h16 ha hb hab e1 e2 (by have:=hc (by simp);simpa using this) (by omega)
 ·rw[cnt3]at hn;exact ZkM ha hb hcc aw bw cw (by have:=hc (by simp);simpa using this) (by omega)
 ·rw[cnt2]at hn;exact Zjf ha hb hab w2 (by have:=hc (by simp);simpa using this) (by omega)
 ·exact Zkm ha m0 m16 w1 haw (by have:=hc (by simp);simpa using this)
 ·exact Zjt ho ha haw w2 (by have:=hc (by simp);simpa using this)
theorem simpler:∀(d:Nat)(t:D.Term),mea t≤d→nodeB t=true→cnt t≤240→∃r,nodeB r=true∧r.W=t.W∧cnt r≤cnt t∧(∀n,1100000+8*(d+1)≤n→ZI n t=some r)∧∀n,1100000+8*(d+1)≤n→Z4 n t=some r:=by
 intro d
 induction d with
 |zero=>
  intro t h;have:=ZbQ t;unfold mea at h;omega
 | succ d ih=>
  intro t hm h hn;obtain⟨s,hg,h1,h2⟩:=step h hn;cases s with
  | inl r=>
   refine⟨r,hg.1,hg.2.1,hg.2.2,fun n hn=>?_,fun n hn=>?_⟩
   ·obtain⟨k,rfl⟩:∃k,n=k+8:=⟨n-8,by omega⟩;obtain⟨k',_,e⟩:=h1 k (by omega);exact e
   ·obtain⟨k,rfl⟩:∃k,n=k+8:=⟨n-8,by omega⟩;obtain⟨k',_,e⟩:=h2 k (by omega);exact e
  | inr u=>
   obtain⟨g1,g2,g3,g4⟩:=hg;obtain⟨r,q1,q2,q3,q4,q5⟩:=ih u (by omega) g1 (by omega);refine⟨r,q1,by rw[q2,g2],by omega,fun n hn=>?_,fun n hn=>?_⟩
   ·obtain⟨k,rfl⟩:∃k,n=k+8:=⟨n-8,by omega⟩;obtain⟨k',hk',e⟩:=h1 k (by omega);rw[e];exact q4 k' (by omega)
   ·obtain⟨k,rfl⟩:∃k,n=k+8:=⟨n-8,by omega⟩;obtain⟨k',hk',e⟩:=h2 k (by omega);rw[e];exact q5 k' (by omega)
end Go.Proofs.YtbidabmbbieeiaaGreatDoor
end
