/- Texts of this claim put into one: library or plain laws, without the program under test. -/
import Derived.Test.YtbidabmbbieeiacGreatDoorLib3
import Derived.Test.YtbidabmbbieeiacGreatDoorDefs
import Derived.Lib.Strings
set_option linter.unusedSimpArgs false
set_option linter.unusedVariables false
section
namespace Go.Proofs.YtbidabmbbieeiacGreatDoor
open Go.GL
def fuel:Nat:=4194400
theorem Yb{n:Nat}(h:n≤1048576):n<fuel:=by unfold fuel;omega
theorem ZgY{p q:List Int}(h:p.length≤1048576):ZbF fuel p q=some (decide (p=q)):=Ze4 (by omega) (Yb h)
theorem Zce{α:Type}{l:List α}{f:α→Option Bool}{b:α→Bool}(hf:∀x∈l,f x=some (b x))(hb:l.length≤9223372036854775807):∀(d i:Nat),i+d=l.length→∀n,d<n→
  iterN (fun(s1:Int)=>if(decide (s1<(len l)))then(get? l s1).bind fun x1=>(f x1).bind fun x2=>if(!x2)then some (.inr (.inr false))else some (.inl ((w64 (s1+1))))else some (.inr (.inl ()))) n (i:Int)=some (if(l.drop i).all b then(.inl ():Unit⊕Bool)else .inr false)
 |0,i,hi,n,hn=>by
  obtain⟨n,rfl⟩:∃j,n=j+1:=⟨n-1,by omega⟩;unfold iterN;rw[ZoC (by rw[Zb];simp;omega)];simp[ZpF (show l.length≤i by omega)]
 | d+1,i,hi,n,hn=>by
  obtain⟨n,rfl⟩:∃j,n=j+1:=⟨n-1,by omega⟩;have hp:i<l.length:=by omega
  unfold iterN;rw[ZoD (by rw[Zb];simp;omega),get?_nat,ZoE hp];simp only[Zo8];rw[hf _ (Zph hp),ZoN hp];simp only[Zo8,Zqp];by_cases h:b l[i]=true
  ·rw[ZoC (by simp[h])];simp only;rw[Zm (by omega) (by omega),show((i:Int)+1)=((i+1:Nat):Int) by omega,Zce hf hb d (i+1) (by omega) n (by omega)];simp only[h,Zpa]
  ·rw[ZoD (by simp[h])];simp[h]
theorem ZkS{l:List D.Ins}{m:Int}(hl:l.length≤9223372036854775807)(h0:0≤m)(h1:m≤1048576):ZbC l m=some (if m-l.length<0 then-1 else m-l.length):=by
 unfold ZbC;rw[Zb,Zm (by omega) (by omega)];by_cases h:m-(l.length:Int)<0
 ·rw[ZoD (by simpa using h),ZoD h]
 ·rw[ZoC (by simpa using h),ZoC h]
theorem Zhy{x:D.Program}{m:Int}(hx:Zdx x)(h0:0≤m)(h1:m≤1048576):∃r,Zaw x m=some r∧(r<0∨0≤r∧r≤1048576∧x.Code.length≤1048576):=by
 obtain⟨-,-,-,hr,-⟩:=hx;unfold Zaw;rw[ZkS hr h0 h1];simp only[Zo8];by_cases c1:m-(x.Code.length:Int)<0
 ·rw[ZoD c1];exact⟨_,rfl,.inl (by omega)⟩
 rw[ZoC c1,ZoC (by simpa using c1)];exact⟨_,rfl,.inr ⟨by omega,by omega,by omega⟩⟩
theorem Zk5{l:List D.Ins}(h:l.length≤1048576):ZbJ fuel l=some l:=by
 unfold ZbJ;rw[mk?_len (by unfold room;omega)];simp only[Zo8,ZcY];rw[ZiQ (by omega) (Yb h)];rfl
theorem ZhJ{x:D.Program}(h:x.Code.length≤1048576):YW fuel x=some x:=by
 unfold YW;rw[Zk5 h];rfl
theorem Zmv(x y:D.Ins):Zck x y=some (decide (x=y)):=by
 unfold Zck;cases x;cases y;simp only[D.Ins.mk.injEq];grind
theorem Zk1{p q:List D.Ins}(h:p.length≤1048576):ZbA fuel p q=some (decide (p=q)):=by
 unfold ZbA;simp only[Zmv,Zo8];exact Ze4 (by omega) (Yb h)
theorem Zgj{x:D.Program}(h:x.Code.length≤1048576):Za8 fuel x x=some true:=by
 unfold Za8;rw[Zk1 h];simp
theorem ZjF{w:Int}(h1:1≤w)(h2:w≤16):∃m:Int,shl? 1 w=some m∧shl? 1 (IntKind.u64.wrap w)=some m∧w64 (m-1)=m-1:=by
 have:w=1∨w=2∨w=3∨w=4∨w=5∨w=6∨w=7∨w=8∨w=9∨w=10∨w=11∨w=12∨w=13∨w=14∨w=15∨w=16:=by omega
 rcases this with rfl|rfl|rfl|rfl|rfl|rfl|rfl|rfl|rfl|rfl|rfl|rfl|rfl|rfl|rfl|rfl<;>exact⟨_,rfl,by decide,by decide⟩
theorem Zfc(w v:Int):∃b,ZI w v=some b∧Yi w v=some b:=by
 unfold ZI Yi Zj ZM;by_cases h:1≤w∧w≤16
 ·obtain⟨m,h1,h2,h3⟩:=ZjF h.1 h.2;refine⟨decide (0≤v)&&decide (v<m),?_,?_⟩
  ·simp only[ge_iff_le,h.1,h.2,decide_true,Zp6,Zo8,ZoO,h1,h3,Zpa,Option.some.injEq];rw[Zqc];simp only[ZoB,ZoJ];omega
  ·by_cases hv:0≤v
   ·simp[h.1,h.2,hv,h2]
   ·simp[h.1,h.2,hv]
 ·refine⟨false, ?_, ?_⟩
  ·by_cases a:1≤w
   ·have b:¬w≤16:=fun b=>h ⟨a,b⟩;simp[a,b]
   ·simp[a]
  ·by_cases a:1≤w
   ·have b:¬w≤16:=fun b=>h ⟨a,b⟩;simp[a,b]
   ·simp[a]
theorem Zcx{c:Bool}{b:Bool}:(if c=true then some b else some default)=some (if c=true then b else default):=by split<;>rfl
theorem Zds{c:Bool}{b:Bool}:(if c=true then some default else some b)=some (if c=true then default else b):=by split<;>rfl
theorem Zis(p:D.Ins)(w n:Int):∃b,X7 p w n=some b∧ZaU p w n=some b:=by
 obtain⟨wb,hw1,hw2⟩:=Zfc w p.B;have hr:∀a,Y3 a=some (decide (0≤a∧a≤3)):=by
  intro a;simp[Y3,Zj]
 have hr':∀a,Xu a=some (decide (0≤a∧a≤3)):=by
  intro a;simp only[Xu,Bool.decide_and];grind
 have hi:∀a b c,Zj a b c=some (decide (b≤a)&&decide (a≤c)):=by
  intro a b c;simp[Zj]
 have ht:∀a,Zaf a=some (decide (3≤a)&&decide (a≤16)):=by
  intro a;simp[Zaf]
 obtain⟨op,a,b,c⟩:=p;simp only at hw1 hw2;unfold X7 ZaU;simp only[hr,hr',hi,ht,hw1,hw2,Zo8,Zcx];by_cases e1:op=1
 ·subst e1;grind
 by_cases e2:op=2
 ·subst e2;grind
 by_cases e3:op=3
 ·subst e3;grind
 by_cases e4:op=4
 ·subst e4;grind
 by_cases e5:op=5
 ·subst e5;grind
 by_cases e6:op=6
 ·subst e6;grind
 by_cases e7:op=7
 ·subst e7;grind
 by_cases e8:op=8
 ·subst e8;grind
 by_cases e9:op=9
 ·subst e9;grind
 by_cases e10:op=10
 ·subst e10;grind
 by_cases e11:op=11
 ·subst e11;grind
 by_cases e12:op=12
 ·subst e12;grind
 by_cases e13:op=13
 ·subst e13;grind
 by_cases e14:op=14
 ·subst e14;grind
 simp[e1,e2,e3,e4,e5,e6,e7,e8,e9,e10,e11,e12,e13,e14]
def insB(w n:Int)(p:D.Ins):Bool:=(X7 p w n).getD false
theorem Zl5(w n:Int)(p:D.Ins):X7 p w n=some (insB w n p):=by
 obtain⟨b,h,-⟩:=Zis p w n;simp[insB,h]
theorem Zmg(w n:Int)(p:D.Ins):ZaU p w n=some (insB w n p):=by
 obtain⟨b,h,h'⟩:=Zis p w n;simp[insB,h,h']
def wordB(w v:Int):Bool:=(ZI w v).getD false
theorem Xb(w v:Int):ZI w v=some (wordB w v):=by
 obtain⟨b,h,-⟩:=Zfc w v;simp[wordB,h]
theorem ZaF(w v:Int):Yi w v=some (wordB w v):=by
 obtain⟨b,h,h'⟩:=Zfc w v;simp[wordB,h,h']
def progB(x:D.Program):Bool:=
 decide (2≤x.W∧x.W≤8)&&decide (1≤x.Mem∧x.Mem≤6)&&wordB x.W x.Mem&&decide (0≤x.In∧x.In≤3)&&decide (1≤(x.Code.length:Int)∧(x.Code.length:Int)≤40)&&x.Code.all (insB x.W x.Code.length)
theorem ZeT{x:D.Program}(h:x.Code.length≤1048576):Xr fuel x=some (progB x):=by
 unfold Xr;have hi:∀a b c,Zj a b c=some (decide (b≤a∧a≤c)):=by
  intro a b c;simp[Zj]
 have hl:=Zce (l:=x.Code) (f:=fun p=>X7 p x.W (len x.Code)) (b:=insB x.W x.Code.length) (fun p _=>Zl5 _ _ p) (by omega) x.Code.length 0 (by omega) fuel (Yb h);rw[show((0:Nat):Int)=0 from rfl]at hl;simp only[hi,Xb,Zo8,Zds];rw[hl,Zb];unfold progB;simp only[Zpp];cases x.Code.all (insB x.W x.Code.length)<;>cases wordB x.W x.Mem<;>simp only[Zo8,ZoO,ZoG,Zo9]<;>grind
theorem ZgQ{x:D.Program}(h:x.Code.length≤1048576):XL fuel x=some (progB x):=by
 unfold XL;have hl:=Zce (l:=x.Code) (f:=fun p=>ZaU p x.W (len x.Code)) (b:=insB x.W x.Code.length) (fun p _=>Zmg _ _ p) (by omega) x.Code.length 0 (by omega) fuel (Yb h);rw[show((0:Nat):Int)=0 from rfl]at hl;simp only[ZbV,ZaF,Zo8,Zds];rw[hl,Zb];unfold progB;simp only[Zpp];clear hl;by_cases a1:2≤x.W<;>by_cases a2:x.W≤8<;>by_cases a3:1≤(x.Code.length:Int)<;>by_cases a4:(x.Code.length:Int)≤40<;>simp only[ge_iff_le,a1,a2,a3,a4,decide_true,decide_false,Zpz,Zq6,Zpa,Zpk,Zp6,and_self,Zqt,and_false]<;>
  cases x.Code.all (insB x.W x.Code.length)<;>cases wordB x.W x.Mem<;>simp only[Zo8,ZoO,ZoG,Zo9,Bool.decide_and]<;>grind
theorem Yw{σt ρt:Type}{B:σt→Option (σt⊕ρt)}{s:σt}{r:ρt}{n:Nat}(h:B s=some (.inr r))(hn:0<n):iterN B n s=some r:=by
 obtain⟨m,rfl⟩:∃m,n=m+1:=⟨n-1,by omega⟩;rw[iterN,h]
theorem ZaL(s:Str):Str.eqb s s=true:=by unfold Str.eqb;simp
theorem ZgZ{S ρ α σ:Type}{l:List α}{B:S→Option (S⊕ρ)}(enc:Nat→σ→S)(I:List α→σ→Prop)(R:ρ→Prop)
  (hs:∀k x xs a,k<l.length→l[k]? =some x→l.length=k+(x::xs).length→I (x::xs) a→(∃a',B (enc k a)=some (.inl (enc (k+1) a'))∧I xs a')∨∃r,B (enc k a)=some (.inr r)∧R r)
  (he:∀a,I [] a→∃r,B (enc l.length a)=some (.inr r)∧R r):
  ∀(ys:List α)(k:Nat)(a:σ)(n:Nat),l.drop k=ys→k≤l.length→I ys a→ys.length<n→∃r,iterN B n (enc k a)=some r∧R r
 | [],k,a,n,hd,hk,hI,hn=>by
  obtain⟨n,rfl⟩:∃j,n=j+1:=⟨n-1,by omega⟩;have:k=l.length:=by
   have:=congrArg List.length hd;simp at this;omega
  subst this;obtain⟨r,h1,h2⟩:=he a hI;exact⟨r,by unfold iterN;rw[h1],h2⟩
 | x::xs,k,a,n,hd,hk,hI,hn=>by
  obtain⟨n,rfl⟩:∃j,n=j+1:=⟨n-1,by omega⟩;have hl:l.length=k+(x::xs).length:=by
   have:=congrArg List.length hd;simp at this⊢;omega
  have hk':k<l.length:=by simp at hl;omega
  have hx:l[k]? =some x:=by
   have h0:(l.drop k)[0]? =some x:=by rw[hd];rfl
   rw[ZpC]at h0;simpa using h0
  rcases hs k x xs a hk' hx hl hI with⟨a',h1,h2⟩|⟨r,h1,h2⟩
  ·obtain⟨r,g1,g2⟩:=ZgZ enc I R hs he xs (k+1) a' n (by rw[←List.drop_drop,hd];rfl) (by omega) h2 (by simp at hn;omega);exact⟨r,by unfold iterN;rw[h1];exact g1,g2⟩
  ·exact⟨r,by unfold iterN;rw[h1],h2⟩
theorem ZT{S ρ α σ:Type}{l:List α}{B:S→Option (S⊕ρ)}(enc:Nat→σ→S)(I:List α→σ→Prop)(R:ρ→Prop)
  (hs:∀k x xs a,k<l.length→l[k]? =some x→l.length=k+(x::xs).length→I (x::xs) a→(∃a',B (enc k a)=some (.inl (enc (k+1) a'))∧I xs a')∨∃r,B (enc k a)=some (.inr r)∧R r)
  (he:∀a,I [] a→∃r,B (enc l.length a)=some (.inr r)∧R r){a:σ}{n:Nat}(hI:I l a)(hn:l.length<n):∃r,iterN B n (enc 0 a)=some r∧R r:=
 ZgZ enc I R hs he l 0 a n rfl (ZpO _) hI hn
mutual
def msz:D.Term→Nat
 |⟨_,_,_,s,k⟩=>s.bytes.length+k.length+mszs k
def mszs:List D.Term→Nat
 |[]=>0
 |x::l=>msz x+mszs l
end
theorem ZaV(t:D.Term):msz t=t.Name.bytes.length+t.Kids.length+mszs t.Kids:=by cases t;rw[msz]
theorem Xj(x:D.Term)(l:List D.Term):mszs (x::l)=msz x+mszs l:=by rw[mszs]
theorem ZcH:mszs []=0:=by rw[mszs]
theorem Zax{x:D.Term}:∀{l:List D.Term},x∈l→msz x≤mszs l
 |y::l,h=>by
  rw[Xj];rcases Zpc.1 h with rfl|h
  ·omega
  ·have:=Zax h;omega
def sml(l:List D.Term):Prop:=l.length+mszs l≤1048576
theorem eqT:∀n:Nat,(∀t:D.Term,msz t≤1048576→1048580+2*msz t+1≤n→Zaz n t t=some true)∧(∀l:List D.Term,sml l→1048580+2*(l.length+mszs l)≤n→Y2 n l l=some true):=by
 intro n
 induction n with
 |zero=>exact⟨fun t _ _=>by omega,fun l _ _=>by omega⟩
 | succ n ih=>
  refine⟨fun t h hn=>?_,fun l h hn=>?_⟩
  ·have:=ZaV t;unfold Zaz;rw[ih.2 t.Kids (by unfold sml;omega) (by omega)];simp[ZaL]
  ·unfold sml at h;unfold Y2;rw[ZoC (by simp)];obtain⟨r,g1,g2⟩:=ZT (l:=l) (n:=n) (σ:=Unit) (ρ:=Unit⊕Bool) (B:=fun(s1:Int)=>if(decide (s1<(len l)))then(get? l s1).bind fun x1=>(get? l s1).bind fun x2=>(Zaz n x1 x2).bind fun x3=>if(!x3)then some (.inr (.inr false))else some (.inl ((w64 (s1+1))))else some (.inr (.inl ()))) (fun k(_:Unit)=>(k:Int)) (fun ys _=>∀x∈ys,x∈l) (fun r=>r=(.inl ():Unit⊕Bool))
     (fun k x xs a hk' hx hlen hm=>by
      have hxl:=hm x (by simp);have:=Zax hxl;have hpos:0<l.length:=by omega
      simp only[get?_nat,hx,Zo8,Zb];rw[ZoD (by simpa using hk'),ih.1 x (by omega) (by omega)];refine .inl ⟨(),?_,fun y hy=>hm y (by simp[hy])⟩;simp only[Zo8]
      rw[ZoC (by simp),Zm (by omega) (by omega)];rfl)
     (fun a _=>by
      rw[ZoC (by rw[Zb];simp)]
      exact⟨_,rfl,rfl⟩) (a:=()) (fun x hx=>hx) (by omega)
   rw[show((0:Nat):Int)=0 from rfl]at g1;rw[g1,g2];rfl
theorem eqTS{l:List D.Term}(h:sml l):Y2 fuel l l=some true:=(eqT fuel).2 l h (by unfold sml at h;unfold fuel;omega)
def smallP(x:D.Path):Prop:=sml x.Regs∧sml x.Mem∧x.Stack.length≤1048576∧sml x.Out∧sml x.Cond∧x.Turns.length≤1048576
theorem ZiG{x:D.Path}(h:smallP x):Zbe fuel x x=some true:=by
 obtain⟨h1,h2,h3,h4,h5,h6⟩:=h;unfold Zbe;simp[eqTS h1,eqTS h2,ZgY h3,eqTS h4,eqTS h5,ZgY h6]
set_option maxRecDepth 100000
mutual
def cnt:D.Term→Nat
 |⟨_,_,_,_,k⟩=>1+cnts k
def cnts:List D.Term→Nat
 |[]=>0
 |x::l=>cnt x+cnts l
end
theorem Za3(t:D.Term):cnt t=1+cnts t.Kids:=by cases t;rw[cnt]
theorem Zbb(x:D.Term)(l:List D.Term):cnts (x::l)=cnt x+cnts l:=by rw[cnts]
theorem Zau:cnts []=0:=by rw[cnts]
theorem ZcI{x:D.Term}:∀{l:List D.Term},x∈l→cnt x≤cnts l
 |y::l,h=>by
  rw[Zbb];rcases Zpc.1 h with rfl|h
  ·omega
  ·have:=ZcI h;omega
def lf(m:Int)(c:Nat):Int:=if m-c<0 then-1 else m-c
theorem few:∀(n:Nat)(t:D.Term)(m:Int),msz t≤1048576→0≤m→m≤240→1048580+m≤n→XM n t m=some (decide (lf m (cnt t)≥0),lf m (cnt t)):=by
 intro n
 induction n with
 |zero=>intro t m _ _ _ _;omega
 |succ n ih=>
  intro t m hs h0 h1 hn;have hz:=ZaV t;unfold XM;rw[Zm (by omega) (by omega)];obtain⟨r,g1,g2⟩:=ZT (l:=t.Kids) (n:=n) (σ:=Int) (ρ:=Int) (B:=fun(s1:Int×Int)=>if((decide (s1.1<(len t.Kids)))&&(decide (s1.2≥0)))then(get? t.Kids s1.1).bind fun x1=>(XM n x1 s1.2).bind fun x2=>some (.inl ((w64 (s1.1+1)),x2.2))else some (.inr (s1.2))) (fun k a=>((k:Int),a)) (fun ys a=>-1≤a∧a≤m-1∧lf a (cnts ys)=lf (m-1) (cnts t.Kids)∧∀x∈ys,x∈t.Kids) (fun r=>r=lf (m-1) (cnts t.Kids))
    (fun k x xs a hk' hx hlen⟨i0,i1,i2,i3⟩=>by
     have:=Zax (i3 x (by simp));rw[Zbb]at i2;simp only;by_cases ha:0≤a
     ·refine .inl ⟨lf a (cnt x), ?_, ?_, ?_, ?_,fun y hy=>i3 y (by simp[hy])⟩
      ·rw[ZoD (by rw[Zb];simp;omega),get?_nat,hx];simp only[Zo8];rw[ih x a (by omega) ha (by omega) (by omega),Zm (by omega) (by omega)];rfl
      ·unfold lf;split<;>omega
      ·unfold lf;split<;>omega
      ·rw[←i2];unfold lf;split<;>split<;>split<;>omega
     ·refine .inr ⟨a,by rw[ZoC (by simp;omega)], ?_⟩
      rw[←i2];unfold lf;split<;>omega)
    (fun a⟨i0,i1,i2,_⟩=>by
     rw[Zau]at i2;simp only;rw[ZoC (by rw[Zb];simp)];refine⟨_,rfl,?_⟩
     rw[←i2];unfold lf;split<;>omega) (a:=m-1) ⟨by omega,by omega,rfl,fun x hx=>hx⟩ (by omega)
  rw[show((0:Nat):Int)=0 from rfl]at g1;rw[g1,g2];have e:lf (m-1) (cnts t.Kids)=lf m (cnt t):=by rw[Za3];unfold lf;split<;>split<;>omega
  simp only[Zo8,e]
def okF(k:Nat):List UInt8→Bool
 |[]=>true
 |b::l=>(decide (97≤b.toNat∧b.toNat≤122)||(decide (k≠0)&&decide (48≤b.toNat∧b.toNat≤57)))&&okF (k+1) l
theorem Zib(k:Nat)(b:UInt8)(l:List UInt8):okF k (b::l)=((decide (97≤b.toNat∧b.toNat≤122)||(decide (k≠0)&&decide (48≤b.toNat∧b.toNat≤57)))&&okF (k+1) l):=rfl
def nameB(s:Str):Bool:=okF 0 s.bytes&&decide (1≤s.bytes.length∧s.bytes.length≤8)
theorem ZhQ{s:Str}{k:Nat}{b:UInt8}(h:s.bytes[k]? =some b):sidx? s (k:Int)=some (b.toNat:Int):=by
 unfold sidx?;rw[ZoD (by omega)];simp[h]
theorem Zk(a b c:Int):Zj a b c=some (decide (b≤a∧a≤c)):=by simp[Zj]
theorem ZkK{n:Nat}{s:Str}(hl:s.bytes.length≤1048576)(hn:s.bytes.length<n):ZaZ n s=some (nameB s):=by
 unfold ZaZ;obtain⟨r,g1,g2⟩:=ZT (l:=s.bytes) (n:=n) (σ:=Unit) (ρ:=Unit⊕Bool) (B:=fun(s1:Int)=>if(decide (s1<(len s.bytes)))then(sidx? s s1).bind fun x1=>(Zj (w64 x1) 97 122).bind fun x2=>(if(s1==0)then some default else(if(!x2)then(sidx? s s1)else some default)).bind fun x3=>(if(s1==0)then some default else(if(!x2)then(Zj (w64 x3) 48 57)else some default)).bind fun x4=>if((!x2)&&((s1==0)||(!x4)))then some (.inr (.inr false))else some (.inl ((w64 (s1+1))))else some (.inr (.inl ()))) (fun k _=>(k:Int)) (fun ys _=>okF (s.bytes.length-ys.length) ys=okF 0 s.bytes) (fun r=>r=if okF 0 s.bytes then(.inl ():Unit⊕Bool)else .inr false)
  (fun k x xs a hk' hx hlen hi=>by
   have e1:s.bytes.length-(x::xs).length=k:=by omega
   have e2:s.bytes.length-xs.length=k+1:=by simp at hlen;omega
   rw[e1]at hi;rw[e2];have hb:=x.toNat_lt;rw[←hi];simp only[ZhQ hx,Zo8,Zk];rw[ZoD (by rw[Zb];simp;omega),Zm (x:=(x.toNat:Int)) (by omega) (by omega),Zm (x:=(k:Int)+1) (by omega) (by omega)];have wx:w64 (x.toNat:Int)=x.toNat:=Zm (by omega) (by omega);rw[Zib];by_cases c1:97≤x.toNat∧x.toNat≤122
   ·refine .inl ⟨(), ?_, ?_⟩
    ·have:((97:Int)≤x.toNat∧(x.toNat:Int)≤122):=by omega
     simp[this]
    ·simp[c1]
   ·have c1':¬((97:Int)≤x.toNat∧(x.toNat:Int)≤122):=by omega
    by_cases c2:k=0
    ·subst c2;exact .inr ⟨.inr false,by simp[c1',wx],by simp[c1]⟩
    ·by_cases c3:48≤x.toNat∧x.toNat≤57
     ·have:((48:Int)≤x.toNat∧(x.toNat:Int)≤57):=by omega
      exact .inl ⟨(),by simp[c1',c2,this,wx],by simp[c1,c2,c3]⟩
     ·have:¬((48:Int)≤x.toNat∧(x.toNat:Int)≤57):=by omega
      exact .inr ⟨.inr false,by simp[c1',c2,this,wx],by simp[c1,c2,c3]⟩)
  (fun a hi=>by
   rw[ZoC (by rw[Zb];simp)];refine⟨_,rfl,?_⟩
   rw[←hi];simp[okF]) (a:=()) (by simp) hn
 rw[show((0:Nat):Int)=0 from rfl]at g1;rw[g1,g2];unfold nameB;cases okF 0 s.bytes
 ·simp
 ·simp only[Zk,Zb,ZoO,Zo8,Zpa,Option.some.injEq,decide_eq_decide];omega
def shB(op w m:Int)(name:Str)(ws:List Int):Bool:=
 if op=0 then ws.isEmpty&&wordB w m
 else if op=22 then ws.isEmpty&&nameB name
 else if 1≤op∧op≤2 then(match ws with|[a]=>a==w|_=>false)
 else if 3≤op∧op≤13 then(match ws with|[a,b]=>a==w&&b==w|_=>false)
 else if 14≤op∧op≤16 then(match ws with|[a,b]=>a==b&&w==1|_=>false)
 else if op=17 then(match ws with|[a,b,c]=>a==1&&b==w&&c==w|_=>false)
 else if op=18 then(match ws with|[a,b]=>a+b==w|_=>false)
 else if op=19 then(match ws with|[a]=>decide (0≤m∧m≤16)&&decide (m+w≤a)|_=>false)
 else if 20≤op∧op≤21 then(match ws with|[a]=>decide (a≤w)|_=>false)
 else false
def locB(t:D.Term):Bool:=
 decide (1≤t.W∧t.W≤16)&&(Str.eqb t.Name ⟨[]⟩||t.Op==22)&&(t.N==0||t.Op==0||t.Op==19)&&shB t.Op t.W t.N t.Name (t.Kids.map (·.W))
mutual
def nodeB:D.Term→Bool
 |⟨o,w,m,s,k⟩=>locB ⟨o,w,m,s,k⟩&&nodesB k
def nodesB:List D.Term→Bool
 |[]=>true
 |x::l=>nodeB x&&nodesB l
end
theorem X6(t:D.Term):nodeB t=(locB t&&nodesB t.Kids):=by cases t;rw[nodeB]
theorem Yc:∀l:List D.Term,nodesB l=l.all nodeB
 |[]=>by rw[nodesB];rfl
 |x::l=>by rw[nodesB,Yc l];rfl
theorem YM{t:D.Term}(h:nodeB t=true):1≤t.W∧t.W≤16:=by
 rw[X6]at h;unfold locB at h;simp only[ZoB,ZoJ]at h;exact h.1.1.1.1
def pad3:List D.Term→List Int
 |[]=>[0,0,0]
 |[a]=>[a.W,0,0]
 |[a,b]=>[a.W,b.W,0]
 |a::b::c::_=>[a.W,b.W,c.W]
theorem Znc{l:List D.Term}{n:Nat}(hn:4≤n):iterN (fun(s2:Int×(List Int))=>if((decide (s2.1<(len l)))&&(decide (s2.1<3)))then(get? l s2.1).bind fun x4=>(set? s2.2 s2.1 x4.W).bind fun x5=>some (.inl ((w64 (s2.1+1)),x5))else some (.inr (s2.2))) n (0,([0,0,0]:List Int))=some (pad3 l):=by
 obtain⟨n,rfl⟩:∃j,n=j+4:=⟨n-4,by omega⟩;rcases l with _|⟨a,_|⟨b,_|⟨c,l⟩⟩⟩
 ·simp[iterN,len,pad3]
 ·simp[iterN,len,pad3,get?,set?,Zm]
 ·simp[iterN,len,pad3,get?,set?,Zm]
 ·have h1:(0:Int)<(l.length:Int)+1+1+1:=by omega
  have h2:(1:Int)<(l.length:Int)+1+1+1:=by omega
  have h3:(2:Int)<(l.length:Int)+1+1+1:=by omega
  simp[iterN,len,pad3,get?,set?,Zm,h1,h2,h3]
theorem ZmH {n:Nat}{p0:D.Term}(ih:∀x∈p0.Kids,YB n x=some (nodeB x))(hk:p0.Kids.length≤1048576)(hs:p0.Name.bytes.length≤1048576)(hn:1048580≤n)(hw:1≤p0.W∧p0.W≤16):
   ((iterN (fun(s1:Int)=>if(decide (s1<(len p0.Kids)))then(get? p0.Kids s1).bind fun x2=>(YB n x2).bind fun x3=>if(!x3)then some (.inr (.inr false))else some (.inl ((w64 (s1+1))))else some (.inr (.inl ()))) n (0)).bind fun(rl1:(Unit)⊕Bool)=>match rl1 with| .inl s1r=>(iterN (fun(s2:Int×(List Int))=>if((decide (s2.1<(len p0.Kids)))&&(decide (s2.1<3)))then(get? p0.Kids s2.1).bind fun x4=>(set? s2.2 s2.1 x4.W).bind fun x5=>some (.inl ((w64 (s2.1+1)),x5))else some (.inr (s2.2))) n (0,([0,0,0]:List Int))).bind fun(rl2:(List Int))=>if(p0.Op==0)then(if((len p0.Kids)==0)then(ZI p0.W p0.N)else some default).bind fun x6=>some (((len p0.Kids)==0)&&x6)else if(p0.Op==22)then(if((len p0.Kids)==0)then(ZaZ n p0.Name)else some default).bind fun x7=>some (((len p0.Kids)==0)&&x7)else(Zj p0.Op 1 2).bind fun x8=>if x8 then(if((len p0.Kids)==1)then(get? rl2 0)else some default).bind fun x9=>some (((len p0.Kids)==1)&&(x9==p0.W))else(Zj p0.Op 3 13).bind fun x10=>if x10 then(if((len p0.Kids)==2)then(get? rl2 0)else some default).bind fun x11=>(if(((len p0.Kids)==2)&&(x11==p0.W))then(get? rl2 1)else some default).bind fun x12=>some ((((len p0.Kids)==2)&&(x11==p0.W))&&(x12==p0.W))else(Zj p0.Op 14 16).bind fun x13=>if x13 then(if((len p0.Kids)==2)then(get? rl2 0)else some default).bind fun x14=>(if((len p0.Kids)==2)then(get? rl2 1)else some default).bind fun x15=>some ((((len p0.Kids)==2)&&(x14==x15))&&(p0.W==1))else if(p0.Op==17)then(if((len p0.Kids)==3)then(get? rl2 0)else some default).bind fun x16=>(if(((len p0.Kids)==3)&&(x16==1))then(get? rl2 1)else some default).bind fun x17=>(if((((len p0.Kids)==3)&&(x16==1))&&(x17==p0.W))then(get? rl2 2)else some default).bind fun x18=>some (((((len p0.Kids)==3)&&(x16==1))&&(x17==p0.W))&&(x18==p0.W))else if(p0.Op==18)then(if((len p0.Kids)==2)then(get? rl2 0)else some default).bind fun x19=>(if((len p0.Kids)==2)then(get? rl2 1)else some default).bind fun x20=>some (((len p0.Kids)==2)&&((w64 (x19+x20))==p0.W))else if(p0.Op==19)then(if((len p0.Kids)==1)then(Zj p0.N 0 16)else some default).bind fun x21=>(if(((len p0.Kids)==1)&&x21)then(get? rl2 0)else some default).bind fun x22=>some ((((len p0.Kids)==1)&&x21)&&(decide ((w64 (p0.N+p0.W))≤x22)))else(Zj p0.Op 20 21).bind fun x23=>(if(x23&&((len p0.Kids)==1))then(get? rl2 0)else some default).bind fun x24=>some ((x23&&((len p0.Kids)==1))&&(decide (x24≤p0.W)))|.inr v=>some v)=some (nodesB p0.Kids&&shB p0.Op p0.W p0.N p0.Name (p0.Kids.map (·.W))):=by
 have hl:=Zce (l:=p0.Kids) (f:=fun x=>YB n x) (b:=nodeB) ih (by omega) p0.Kids.length 0 (by omega) n (by omega);rw[show((0:Nat):Int)=0 from rfl]at hl;rw[hl,Zpp,Yc];by_cases ha:p0.Kids.all nodeB=true
 ·rw [ha]
  have hkw:∀x∈p0.Kids,1≤x.W∧x.W≤16:=fun x hx=>YM (ZoK.1 ha x hx);simp only[ZoO,Zo8,Zpa,Zk,Xb,ZkK hs (show p0.Name.bytes.length<n by omega)];rw[Znc (by omega)];simp only[Zo8];generalize hks:p0.Kids=ks;rw[hks]at hkw;obtain⟨op,w,m,nm,_⟩:=p0;simp only at hw⊢;have g0:∀x y z:Int,get? [x,y,z] 0=some x:=fun _ _ _=>rfl;have g1:∀x y z:Int,get? [x,y,z] 1=some y:=fun _ _ _=>rfl;have g2:∀x y z:Int,get? [x,y,z] 2=some z:=fun _ _ _=>rfl;have q0:∀x y z:D.Term,∀l:List D.Term,((l.length:Int)+1+1+1+1==0)=false:=fun x y z l=>by simp;omega
  have hA:ks=[]∨(∃a:D.Term,ks=[a]∧1≤a.W∧a.W≤16)∨(∃a b:D.Term,ks=[a,b]∧(1≤a.W∧a.W≤16)∧1≤b.W∧b.W≤16)∨(∃a b c:D.Term,ks=[a,b,c])∨∃(a b c d:D.Term)(l:List D.Term),ks=a::b::c::d::l:=by
   rcases ks with _|⟨a,_|⟨b,_|⟨c,_|⟨d,l⟩⟩⟩⟩
   ·exact .inl rfl
   ·exact .inr (.inl ⟨a,rfl,hkw a (by simp)⟩)
   ·exact .inr (.inr (.inl ⟨a,b,rfl,hkw a (by simp),hkw b (by simp)⟩))
   ·exact .inr (.inr (.inr (.inl ⟨a,b,c,rfl⟩)))
   ·exact .inr (.inr (.inr (.inr ⟨a,b,c,d,l,rfl⟩)))
  rcases hA with rfl|⟨a,rfl,ha⟩|⟨a,b,rfl,ha,hb⟩|⟨a,b,c,rfl⟩|⟨a,b,c,d,l,rfl⟩
  ·simp only[pad3,Zb,Zpv,Zql,g0,g1,g2,Zo8,Zcx];unfold shB;by_cases o0:op=0
   ·simp[o0]
   by_cases o1:op=22
   ·simp[o1]
   simp[o0,o1]
  ·have e19:∀h:0≤m∧m≤16,w64 (m+w)=m+w:=fun h=>Zm (by omega) (by omega);simp only[pad3,Zb,Zpv,ZoP,Zql,Zps,g0,g1,g2,Zo8,Zcx];unfold shB;by_cases o0:op=0
   ·simp[o0]
   by_cases o1:op=22
   ·simp[o1]
   by_cases o2:1≤op∧op≤2
   ·simp[o0,o1,o2]
   by_cases o3:3≤op∧op≤13
   ·simp[o0,o1,o2,o3]
   by_cases o4:14≤op∧op≤16
   ·simp[o0,o1,o2,o3,o4]
   by_cases o5:op=17
   ·simp[o5]
   by_cases o6:op=18
   ·simp[o6]
   by_cases o7:op=19
   ·by_cases hm:0≤m∧m≤16
    ·simp[o7,hm,e19 hm]
    ·simp[o7,hm]
   by_cases o8:20≤op∧op≤21
   ·simp[o0,o1,o2,o3,o4,o5,o6,o7,o8]
   simp[o0,o1,o2,o3,o4,o5,o6,o7,o8]
  ·have e18:w64 (a.W+b.W)=a.W+b.W:=Zm (by omega) (by omega);simp only[pad3,Zb,Zpv,ZoP,Zql,Zps,g0,g1,g2,Zo8,Zcx,e18];unfold shB;by_cases o0:op=0
   ·simp[o0]
   by_cases o1:op=22
   ·simp[o1]
   by_cases o2:1≤op∧op≤2
   ·simp[o0,o1,o2]
   by_cases o3:3≤op∧op≤13
   ·by_cases c:a.W=w
    ·simp[o0,o1,o2,o3,c]
    ·have c':(a.W==w)=false:=by simpa using c
     simp[o0,o1,o2,o3,c,c']
   by_cases o4:14≤op∧op≤16
   ·simp[o0,o1,o2,o3,o4]
   by_cases o5:op=17
   ·simp[o5]
   by_cases o6:op=18
   ·simp[o6,e18]
   by_cases o7:op=19
   ·simp[o7]
   simp[o0,o1,o2,o3,o4,o5,o6,o7]
  ·simp only[pad3,Zb,Zpv,ZoP,Zql,Zps,g0,g1,g2,Zo8,Zcx];unfold shB;by_cases o0:op=0
   ·simp[o0]
   by_cases o1:op=22
   ·simp[o1]
   by_cases o2:1≤op∧op≤2
   ·simp[o0,o1,o2]
   by_cases o3:3≤op∧op≤13
   ·simp[o0,o1,o2,o3]
   by_cases o4:14≤op∧op≤16
   ·simp[o0,o1,o2,o3,o4]
   by_cases o5:op=17
   ·by_cases c1:a.W=1
    ·by_cases c2:b.W=w
     ·simp[o5,c1,c2]
     ·have c2':(b.W==w)=false:=by simpa using c2
      simp[o5,c1,c2,c2']
    ·have c1':(a.W==1)=false:=by simpa using c1
     simp[o5,c1,c1']
   by_cases o6:op=18
   ·simp[o6]
   by_cases o7:op=19
   ·simp[o7]
   simp[o0,o1,o2,o3,o4,o5,o6,o7]
  ·have e0:(len (a::b::c::d::l)==0)=false:=by rw[Zb];simp;omega
   have e1:(len (a::b::c::d::l)==1)=false:=by rw[Zb];simp;omega
   have e2:(len (a::b::c::d::l)==2)=false:=by rw[Zb];simp;omega
   have e3:(len (a::b::c::d::l)==3)=false:=by rw[Zb];simp;omega
   simp only[pad3,Zps,g0,g1,g2,Zo8,Zcx,e0,e1,e2,e3,Zpk,Zq6,ZoG,Zo9];unfold shB;simp
 ·rw[Bool.not_eq_true]at ha;rw[ha];simp
theorem Zk3:∀(n:Nat)(t:D.Term),msz t≤1048576→1048580+cnt t≤n→YB n t=some (nodeB t):=by
 intro n
 induction n with
 |zero=>intro t _ _;omega
 | succ n ih=>
  intro t hs hn;have hz:=ZaV t;have hc:=Za3 t;have ih':∀x∈t.Kids,YB n x=some (nodeB x):=fun x hx=>by
   have:=Zax hx;have:=ZcI hx;exact ih x (by omega) (by omega)
  have e0:∀c:Bool,nodeB t=(decide (1≤t.W∧t.W≤16)&&(Str.eqb t.Name ⟨[]⟩||t.Op==22)&&(t.N==0||t.Op==0||t.Op==19)&&(nodesB t.Kids&&shB t.Op t.W t.N t.Name (t.Kids.map (·.W)))):=fun _=>by
   rw[X6];unfold locB;cases nodesB t.Kids<;>simp
  have e0:=e0 true;unfold YB;rw[Zk];simp only[Zo8];have hx:∀a b c d e f:Bool,((!a||(!b&& !c))||((!d&& !e)&& !f))= !(a&&(b||c)&&(d||e||f)):=by decide
  rw[show((!decide (1≤t.W∧t.W≤16)||((!Str.eqb t.Name ⟨[]⟩)&&(t.Op !=22)))||(((t.N !=0)&&(t.Op !=0))&&(t.Op !=19)))=_ from hx _ _ _ _ _ _];cases c:(decide (1≤t.W∧t.W≤16)&&(Str.eqb t.Name ⟨[]⟩||t.Op==22)&&(t.N==0||t.Op==0||t.Op==19))
  ·rw[e0,c];rfl
  ·have hw:1≤t.W∧t.W≤16:=by
    simp only[ZoB,ZoJ]at c;exact c.1.1
   rw[e0,c,ZoC (by decide),Zpa];exact ZmH ih' (by omega) (by omega) (by omega) hw
set_option linter.unusedSimpArgs false
theorem ZmM:∀x:List UInt8,Op.bytesLess x x=false
 |[]=>rfl
 |a::x=>by simp[Op.bytesLess,ZmM x]
theorem ZhT:∀x y z:List UInt8,Op.bytesLess x y=true→Op.bytesLess y z=true→Op.bytesLess x z=true
 |_,_,[]=>by intro _ h;cases ‹List UInt8› <;>simp[Op.bytesLess]at h
 |_,[],_::_=>by intro h _;cases ‹List UInt8› <;>simp[Op.bytesLess]at h
 |[],_::_,_::_=>by intro _ _;rfl
 | a::x,b::y,c::z=>by
  intro h1 h2;simp only[Op.bytesLess,Zp1,ZoJ,ZoB,Zpf]at h1 h2⊢;rcases h1 with h1|⟨rfl,h1⟩
  ·rcases h2 with h2|⟨rfl,h2⟩
   ·exact .inl (UInt8.lt_trans h1 h2)
   ·exact .inl h1
  ·rcases h2 with h2|⟨rfl,h2⟩
   ·exact .inl h2
   ·exact .inr ⟨rfl,ZhT x y z h1 h2⟩
theorem Zl0:∀x y:List UInt8,Op.bytesLess x y=false→x≠y→Op.bytesLess y x=true
 |[],[]=>fun _ h=>absurd rfl h
 |_::_,[]=>fun _ _=>rfl
 |[],_::_=>fun h _=>by simp[Op.bytesLess]at h
 | a::x,b::y=>by
  intro h1 h2;simp only[Op.bytesLess,Bool.or_eq_false_iff,decide_eq_false_iff_not,Zp1,ZoJ,ZoB,Zpf]at h1⊢;by_cases e:a=b
  ·subst e;have:Op.bytesLess x y=false:=by simpa using h1.2
   exact .inr ⟨rfl,Zl0 x y this (fun h=>h2 (by rw[h]))⟩
  ·rcases UInt8.lt_or_lt_of_ne e with h|h
   ·exact absurd h h1.1
   ·exact .inl h
theorem toList_mk(l:List UInt8):(ByteArray.mk l.toArray).toList=l:=by
 exact(Lib.toList_data _)
theorem ZhH(a b:Str):Str.ltb a b=Op.bytesLess a.bytes b.bytes:=by unfold Str.ltb;rw[toList_mk,toList_mk]
theorem Zd3(a b:Str):Str.eqb a b=decide (a=b):=by
 unfold Str.eqb;rw[toList_mk,toList_mk];by_cases h:a=b
 ·subst h;simp
 ·have:a.bytes≠b.bytes:=fun e=>h (by cases a;cases b;simpa using e);simp[h,this]
theorem Zll(a:Str):Str.ltb a a=false:=by rw[ZhH];exact ZmM _
theorem lt_trans{a b c:Str}(h1:Str.ltb a b=true)(h2:Str.ltb b c=true):Str.ltb a c=true:=by rw[ZhH]at*;exact ZhT _ _ _ h1 h2
theorem Zmp{a b:Str}(h1:Str.ltb a b=false)(h2:a≠b):Str.ltb b a=true:=by
 rw[ZhH]at*;exact Zl0 _ _ h1 fun e=>h2 (by cases a;cases b;simpa using e)
mutual
def vrs:D.Term→List (Str×Int)
 |⟨o,w,_,s,k⟩=>if o=22 then[(s,w)]else vrss k
def vrss:List D.Term→List (Str×Int)
 |[]=>[]
 |x::l=>vrs x++vrss l
end
theorem ZeM(t:D.Term):vrs t=if t.Op=22 then[(t.Name,t.W)]else vrss t.Kids:=by cases t;rw[vrs]
theorem ZcN(x:D.Term)(l:List D.Term):vrss (x::l)=vrs x++vrss l:=by rw[vrss]
theorem Zdp:vrss []=[]:=by rw[vrss]
def stp(g:List (Str×Int))(v:Str×Int):Option (List (Str×Int)):=
 match g.lookup v.1 with
 |some w=>if w=v.2 then some g else none
 |none=>some (v::g)
def runV(g:List (Str×Int)):List (Str×Int)→Option (List (Str×Int))
 |[]=>some g
 |v::l=>(stp g v).bind fun g'=>runV g' l
theorem Zil(l m:List (Str×Int)):∀g,runV g (l++m)=(runV g l).bind fun g'=>runV g' m:=by
 induction l with
 |nil=>intro g;rfl
 |cons v l ih=>
  intro g;simp only[Zq9,runV];cases stp g v with
  |none=>rfl
  |some g'=>simp only[Zo8];exact ih g'
theorem Zki{g g':List (Str×Int)}{v:Str×Int}(h:stp g v=some g'):g'.length≤g.length+1:=by
 unfold stp at h;split at h
 ·split at h
  ·cases h;omega
  ·cases h
 ·cases h;simp
theorem ZfE:∀{l g g':List (Str×Int)},runV g l=some g'→g'.length≤g.length+l.length
 |[],g,g',h=>by simp only[runV,Option.some.injEq]at h;subst h;simp
 |v::l,g,g',h=>by
  simp only[runV,Zp3]at h;obtain⟨g1,h1,h2⟩:=h;have:=Zki h1;have:=ZfE h2;simp only[ZoP];omega
def Rel(l:List D.Value)(g:List (Str×Int)):Prop:=
 l.Pairwise (fun a b=>Str.ltb a.Name b.Name=true)∧l.length=g.length∧(∀v∈l,g.lookup v.Name=some v.W)∧∀s w,g.lookup s=some w→∃v∈l,v.Name=s
def before(s:Str)(l:List D.Value):Nat:=(l.takeWhile fun v=>Str.ltb v.Name s).length
theorem ZeL(s:Str)(l:List D.Value):before s l≤l.length:=(List.takeWhile_sublist _).length_le
theorem Zd6{s:Str}:∀{l:List D.Value}{i:Nat}{v:D.Value},i<before s l→l[i]? =some v→Str.ltb v.Name s=true
 |[],i,v,h,hv=>by simp at hv
 | x::l,i,v,h,hv=>by
  unfold before at h;rw[List.takeWhile_cons]at h;split at h
  ·cases i with
   |zero=>simp at hv;subst hv;assumption
   |succ i=>exact Zd6 (l:=l) (i:=i) (by unfold before;simpa using h) (by simpa using hv)
  ·simp at h
theorem Zd7{s:Str}:∀{l:List D.Value}{v:D.Value},l[before s l]? =some v→Str.ltb v.Name s=false
 |[],v,hv=>by simp at hv
 | x::l,v,hv=>by
  unfold before at hv;rw[List.takeWhile_cons]at hv;by_cases h:Str.ltb x.Name s=true
  ·rw[ZoD h]at hv;exact Zd7 (l:=l) (by unfold before;simpa using hv)
  ·rw[ZoC h]at hv;simp at hv;subst hv;simpa using h
theorem ZlZ{l:List D.Value}{s:Str}{n:Nat}(hl:l.length≤1048576)(hn:l.length<n):iterN (fun(s1:Int)=>(if(decide (s1<(len l)))then(get? l s1)else some default).bind fun x1=>if((decide (s1<(len l)))&&(Str.ltb x1.Name s))then some (.inl ((w64 (s1+1))))else some (.inr (s1))) n (0)=some (before s l:Int):=by
 obtain⟨r,g1,g2⟩:=ZT (l:=l) (n:=n) (σ:=Unit) (ρ:=Int) (B:=fun(s1:Int)=>(if(decide (s1<(len l)))then(get? l s1)else some default).bind fun x1=>if((decide (s1<(len l)))&&(Str.ltb x1.Name s))then some (.inl ((w64 (s1+1))))else some (.inr (s1))) (fun k _=>(k:Int)) (fun ys _=>l.length≤before s l+ys.length) (fun r=>r=(before s l:Int))
  (fun k x xs a hk' hx hlen hi=>by
   simp only[ZoP]at hlen hi;have hd:decide ((k:Int)<len l)=true:=by rw[Zb];simp;omega
   rw[ZoD hd,get?_nat,hx];simp only[Zo8,hd,Zpa];by_cases c:Str.ltb x.Name s=true
   ·refine .inl ⟨(),by rw[ZoD c,Zm (by omega) (by omega)];rfl, ?_⟩;have:k≠before s l:=fun e=>by
     rw[e]at hx;rw[Zd7 hx]at c;cases c
    omega
   ·refine .inr ⟨(k:Int),by rw[ZoC c], ?_⟩;have:¬k<before s l:=fun h=>c (Zd6 h hx)
    omega)
  (fun a hi=>by
   have hd:decide ((l.length:Int)<len l)=false:=by rw[Zb];simp
   simp only[hd,Zo9,ZoG,Zo8,Zpk];have:=ZeL s l
   exact⟨_,rfl,by simp at hi;omega⟩) (a:=()) (by omega) hn
 rw[show((0:Nat):Int)=0 from rfl]at g1;rw[g1,g2]
theorem Rel.none{l:List D.Value}{g:List (Str×Int)}{s:Str}(h:Rel l g)(hn:∀v,l[before s l]? =some v→v.Name≠s):g.lookup s=none:=by
 cases e:g.lookup s with
 |none=>rfl
 | some w=>
  exfalso;obtain⟨v,hv,rfl⟩:=h.2.2.2 s w e;obtain⟨j,hj⟩:=Zqb.1 hv;rcases Zq7 j (before v.Name l)with h1|h1|h1
  ·have:=Zd6 h1 hj;rw[Zll]at this;cases this
  ·rw[h1]at hj;exact hn v hj rfl
  ·obtain⟨hj',e2⟩:=ZoI.1 hj;have hu:l[before v.Name l]? =some l[before v.Name l]:=ZoE (by omega);have h2:=Zd7 hu;have h3:=Zqh.1 h.1 _ _ (by omega) hj' h1;rw[e2]at h3;rw[h2]at h3;cases h3
theorem Rel.put{l:List D.Value}{g:List (Str×Int)}{s:Str}{w:Int}(h:Rel l g)(hn:∀v,l[before s l]? =some v→v.Name≠s):Rel (l.take (before s l)++[⟨s,w,0⟩]++l.drop (before s l)) ((s,w)::g):=by
 have hno:=h.none hn;have hb:=ZeL s l;have hlt:∀v∈l.take (before s l),Str.ltb v.Name s=true:=fun v hv=>by
  obtain⟨j,hj⟩:=Zqb.1 hv;rw[Zpg]at hj;split at hj
  ·exact Zd6 (by assumption) hj
  ·cases hj
 have hgt:∀v∈l.drop (before s l),Str.ltb s v.Name=true:=fun v hv=>by
  obtain⟨j,hj⟩:=Zqb.1 hv;rw[ZpC]at hj;obtain⟨hj',e2⟩:=ZoI.1 hj;have hu:l[before s l]? =some l[before s l]:=ZoE (by omega);have h1:=Zmp (Zd7 hu) (hn _ hu);rcases Nat.eq_zero_or_pos j with rfl|hp
  ·simp only[Nat.add_zero]at e2;rw[←e2];exact h1
  ·have h3:=Zqh.1 h.1 _ _ (by omega) hj' (show before s l<before s l+j by omega);rw[e2]at h3;exact lt_trans h1 h3
 have hmem:∀v,v∈l.take (before s l)++[⟨s,w,0⟩]++l.drop (before s l)↔v=⟨s,w,0⟩∨v∈l:=fun v=>by
  have:v∈l↔v∈l.take (before s l)∨v∈l.drop (before s l):=by
   rw[←ZoZ,ZpZ]
  simp only[ZoZ,ZoM,this];grind
 have hp:(l.take (before s l)++l.drop (before s l)).Pairwise (fun a b=>Str.ltb a.Name b.Name=true):=by rw[ZpZ];exact h.1
 rw[List.pairwise_append]at hp;refine⟨?_,?_,fun v hv=>?_,fun s' w' hs=>?_⟩
 ·rw[ZpI,List.pairwise_append];refine⟨hp.1,?_,fun a ha b hb=>?_⟩
  ·rw[ZpK,List.pairwise_cons];exact⟨fun b hb=>hgt b hb,hp.2.1⟩
  ·rw[ZpK]at hb;rcases Zpc.1 hb with rfl|hb
   ·exact hlt a ha
   ·exact hp.2.2 a ha b hb
 ·have:=h.2.1;simp;omega
 ·rcases(hmem v).1 hv with rfl|hv
  ·simp
  ·have h1:=h.2.2.1 v hv;have:v.Name≠s:=fun e=>by rw[e,hno]at h1;cases h1
   rw[Zpl];have:(v.Name==s)=false:=by simpa using this
   rw[this];exact h1
 ·rw[Zpl]at hs;by_cases e:s'=s
  ·exact⟨_,(hmem _).2 (.inl rfl),e.symm⟩
  ·have:(s'==s)=false:=by simpa using e
   rw[this]at hs;obtain⟨v,h1,h2⟩:=h.2.2.2 s' w' hs;exact⟨v,(hmem _).2 (.inr h1),h2⟩
theorem Znd:∀n:Nat,(∀t:D.Term,msz t<n→(vrs t).length≤cnt t)∧∀l:List D.Term,l.length+mszs l<n→(vrss l).length≤cnts l:=by
 intro n
 induction n with
 |zero=>exact⟨fun _ h=>by omega,fun _ h=>by omega⟩
 | succ n ih=>
  have hT:∀t:D.Term,msz t<n+1→(∀l:List D.Term,l.length+mszs l<n+1→(vrss l).length≤cnts l)→(vrs t).length≤cnt t:=fun t h hl=>by
   have:=ZaV t;rw[ZeM,Za3];split
   ·simp
   ·have:=hl t.Kids (by omega);omega
  have hL:∀l:List D.Term,l.length+mszs l<n+1→(vrss l).length≤cnts l:=fun l h=>by
   cases l with
   |nil=>rw[Zdp,Zau];simp
   |cons x l=>
    rw[Xj]at h;simp only[ZoP]at h;rw[ZcN,Zbb,ZoT];have h1:=ih.1 x (by omega);have h2:=ih.2 l (by omega);omega
  exact⟨fun t h=>hT t h hL,hL⟩
theorem Zmt(t:D.Term):(vrs t).length≤cnt t:=(Znd (msz t+1)).1 t (by omega)
theorem Zlf:∀(n:Nat)(t:D.Term)(l:List D.Value)(g:List (Str×Int)),msz t≤1048576→Rel l g→g.length+(vrs t).length≤1000→1048580+cnt t≤n→
  ∃l' b,Xg n t l=some (l',b)∧(b=true→∃g',runV g (vrs t)=some g'∧Rel l' g')∧(b=false→runV g (vrs t)=none):=by
 intro n
 induction n with
 |zero=>intro t l g _ _ _ _;omega
 | succ n ih=>
  intro t l g hs hr hg hn;have hz:=ZaV t;have hc:=Za3 t;have hlen:=hr.2.1;unfold Xg;by_cases ho:t.Op=22
  ·rw [ZoD (by simpa using ho),ZlZ (by omega) (by omega)]
   simp only[Zo8];have hb:=ZeL t.Name l;have hv:vrs t=[(t.Name,t.W)]:=by rw[ZeM,ZoD ho]
   rw[hv];have hrun:runV g [(t.Name,t.W)]=stp g (t.Name,t.W):=by
    simp only[runV];cases stp g (t.Name,t.W)<;>rfl
   rw[hrun];by_cases hf:∃v,l[before t.Name l]? =some v∧v.Name=t.Name
   ·obtain⟨v,hv1,hv2⟩:=hf;obtain⟨hlt,-⟩:=ZoI.1 hv1;have hd:decide ((before t.Name l:Int)<len l)=true:=by rw[Zb];simp;omega
    have hk:g.lookup t.Name=some v.W:=by rw[←hv2];exact hr.2.2.1 v (Zpd hv1)
    simp only[hd,ZoO,get?_nat,hv1,Zo8,Zpa,Zd3,hv2,decide_true];refine⟨_,_,rfl,fun h=>⟨g,?_,hr⟩,fun h=>?_⟩
    ·unfold stp;rw[hk];simp only;rw[ZoD (by simpa using h)]
    ·unfold stp;rw[hk];simp only;rw[ZoC (by simpa using h)]
   ·have hne:∀v,l[before t.Name l]? =some v→v.Name≠t.Name:=fun v h e=>hf ⟨v,h,e⟩;have hno:=hr.none hne;have hx:∃x2,(if(decide ((before t.Name l:Int)<(len l)))=true then(get? l (before t.Name l:Int))else some default)=some x2∧(decide ((before t.Name l:Int)<(len l))&&Str.eqb x2.Name t.Name)=false:=by
     by_cases hlt:before t.Name l<l.length
     ·have hd:decide ((before t.Name l:Int)<len l)=true:=by rw[Zb];simp;omega
      refine⟨l[before t.Name l],?_,?_⟩
      ·rw[ZoD hd,get?_nat,ZoE hlt]
      ·rw[Zd3,decide_eq_false (hne _ (ZoE hlt))];simp
     ·have hd:decide ((before t.Name l:Int)<len l)=false:=by rw[Zb];simp;omega
      exact⟨default,by rw[hd];rfl,by rw[hd];rfl⟩
    obtain⟨x2,hx1,hx2⟩:=hx;rw[hx1];simp only[Zo8,hx2,Zo9,ZoG];have c1:cut? l 0 (before t.Name l:Int)=some (l.take (before t.Name l)):=by
     unfold cut?;rw[ZoD ⟨by omega,by omega,by omega⟩];simp
    have c2:cut? l (before t.Name l:Int) (len l)=some (l.drop (before t.Name l)):=by
     unfold cut?;rw[Zb,ZoD ⟨by omega,by omega,by omega⟩];simp
    have c3:app? ([]:List D.Value) (l.take (before t.Name l))=some (l.take (before t.Name l)):=by
     unfold app?;rw[ZoD (by unfold room;simp;omega)];rfl
    have c4:app? (l.take (before t.Name l)) [(⟨t.Name,t.W,0⟩:D.Value)]=some (l.take (before t.Name l)++[⟨t.Name,t.W,0⟩]):=by
     unfold app?;rw[ZoD (by unfold room;simp;omega)]
    have c5:app? (l.take (before t.Name l)++[(⟨t.Name,t.W,0⟩:D.Value)]) (l.drop (before t.Name l))=some (l.take (before t.Name l)++[⟨t.Name,t.W,0⟩]++l.drop (before t.Name l)):=by
     unfold app?;rw[ZoD (by unfold room;simp;omega)]
    simp only[c1,c2,c3,c4,c5,Zo8];refine⟨_,_,rfl,fun _=>⟨(t.Name,t.W)::g,?_,hr.put hne⟩,fun h=>by cases h⟩;unfold stp;rw[hno]
  ·rw [ZoC (by simpa using ho)]
   have hv:vrs t=vrss t.Kids:=by rw[ZeM,ZoC ho]
   rw[hv]at hg⊢;obtain⟨r,g1,g2⟩:=ZT (l:=t.Kids) (n:=n) (σ:=List D.Value) (ρ:=(List D.Value)⊕((List D.Value)×Bool)) (B:=fun(s2:(List D.Value)×Int)=>if(decide (s2.2<(len t.Kids)))then(get? t.Kids s2.2).bind fun x9=>(Xg n x9 s2.1).bind fun x10=>if(!x10.2)then some (.inr (.inr (([]:List D.Value),false)))else some (.inl (x10.1,(w64 (s2.2+1))))else some (.inr (.inl (s2.1)))) (fun k a=>(a,(k:Int))) (fun ys a=>∃ga,Rel a ga∧runV ga (vrss ys)=runV g (vrss t.Kids)∧ga.length+(vrss ys).length≤1000∧∀x∈ys,x∈t.Kids)
     (fun r=>(∃l',r= .inl l'∧∃g',runV g (vrss t.Kids)=some g'∧Rel l' g')∨(r= .inr ([],false)∧runV g (vrss t.Kids)=none))
     (fun k x xs a hk' hx hlen⟨ga,i0,i1,i2,i3⟩=>by
      have hxk:=i3 x (by simp);have:=Zax hxk;have:=ZcI hxk;rw[ZcN,Zil]at i1;rw[ZcN,ZoT]at i2;obtain⟨l',b,e1,e2,e3⟩:=ih x a ga (by omega) i0 (by omega) (by omega);have hd:decide ((k:Int)<len t.Kids)=true:=by rw[Zb];simp;omega
      simp only[hd,ZoO,get?_nat,hx,Zo8,e1];cases b with
      |false=>
       refine .inr ⟨_,rfl,.inr ⟨rfl,?_⟩⟩;rw[e3 rfl]at i1;exact i1.symm
      |true=>
       obtain⟨g',h1,h2⟩:=e2 rfl;refine .inl ⟨l',by simp only[ZoF,Zo9,ZoG];rw[Zm (by omega) (by omega)];rfl,g',h2,?_,?_,fun y hy=>i3 y (by simp[hy])⟩
       ·rw[h1]at i1;exact i1
       ·have:=ZfE h1;omega)
     (fun a⟨ga,i0,i1,i2,i3⟩=>by
      have hd:decide ((t.Kids.length:Int)<len t.Kids)=false:=by rw[Zb];simp
      simp only[hd,Zo9,ZoG];rw[Zdp]at i1
      exact⟨_,rfl,.inl ⟨a,rfl,ga,i1.symm,i0⟩⟩) (a:=l) ⟨g,hr,rfl,hg,fun x hx=>hx⟩ (by omega)
   rw[show((0:Nat):Int)=0 from rfl]at g1;rw[g1];rcases g2 with⟨l',rfl,g',h1,h2⟩|⟨rfl,h1⟩
   ·exact⟨l',true,rfl,fun _=>⟨g',h1,h2⟩,fun h=>by cases h⟩
   ·exact⟨[],false,rfl,fun h=>(by cases h),fun _=>h1⟩
def termB(t:D.Term):Bool:=decide (cnt t≤240)&&nodeB t&&(runV [] (vrs t)).isSome
theorem ZeI{t:D.Term}(h:msz t≤1048576):X5 fuel t=some (termB t):=by
 unfold X5 termB;rw[few fuel t 240 h (by omega) (by omega) (by unfold fuel;omega)];simp only[Zo8];by_cases hc:cnt t≤240
 ·have e:decide (lf 240 (cnt t)≥0)=true:=by unfold lf;rw[ZoC (by omega)];simp;omega
  rw[Zk3 fuel t h (by unfold fuel;omega)];simp only[e,ZoF,Zo9,ZoG,Zo8,hc,decide_true,Zpa];cases hb:nodeB t
  ·simp
  ·have hv:=Zmt t;obtain⟨l',b,e1,e2,e3⟩:=Zlf fuel t [] [] h ⟨List.Pairwise.nil,rfl,by simp,by simp⟩ (by simp;omega) (by unfold fuel;omega);rw[e1];cases b with
   |false=>rw[e3 rfl];rfl
   |true=>obtain⟨g',h1,-⟩:=e2 rfl;rw[h1];rfl
 ·have e:decide (lf 240 (cnt t)≥0)=false:=by unfold lf;rw[ZoD (by omega)];rfl
  simp[e,hc]
theorem Zhl{n:Nat}{s:Str}(hl:s.bytes.length≤1048576)(hn:s.bytes.length<n):Zbc n s=some (nameB s):=by
 unfold Zbc;by_cases hlen:1≤s.bytes.length∧s.bytes.length≤8
 ·rw [ZoC (by rw[Zb];simp;omega)]
  obtain⟨r,g1,g2⟩:=ZT (l:=s.bytes) (n:=n) (σ:=Unit) (ρ:=Unit⊕Bool) (B:=fun(s1:Int)=>if(decide (s1<(len s.bytes)))then(sidx? s s1).bind fun x1=>(if(decide (x1≥97))then(sidx? s s1)else some default).bind fun x2=>(sidx? s s1).bind fun x3=>(if(decide (x3≥48))then(sidx? s s1)else some default).bind fun x4=>if((!((decide (x1≥97))&&(decide (x2≤122))))&&(!(((decide (x3≥48))&&(decide (x4≤57)))&&(decide (s1>0)))))then some (.inr (.inr false))else some (.inl ((w64 (s1+1))))else some (.inr (.inl ()))) (fun k _=>(k:Int)) (fun ys _=>okF (s.bytes.length-ys.length) ys=okF 0 s.bytes) (fun r=>r=if okF 0 s.bytes then(.inl ():Unit⊕Bool)else .inr false)
   (fun k x xs a hk' hx hlen hi=>by
    have e1:s.bytes.length-(x::xs).length=k:=by omega
    have e2:s.bytes.length-xs.length=k+1:=by simp at hlen;omega
    rw[e1]at hi;rw[e2];have hb:=x.toNat_lt;rw[←hi];simp only[ZhQ hx,Zo8];rw[ZoD (by rw[Zb];simp;omega),Zm (by omega) (by omega)];have hd:∀c:Bool,∃y:Int,(if c=true then(some (x.toNat:Int))else some default)=some y∧(c=true→y=x.toNat):=fun c=>by
     cases c
     ·exact⟨_,rfl,fun h=>by cases h⟩
     ·exact⟨_,rfl,fun _=>rfl⟩
    obtain⟨y2,h2,i2⟩:=hd (decide ((x.toNat:Int)≥97));obtain⟨y4,h4,i4⟩:=hd (decide ((x.toNat:Int)≥48));rw[h2,h4];simp only[Zo8];have j2:(decide ((x.toNat:Int)≥97)&&decide (y2≤122))=decide (97≤x.toNat∧x.toNat≤122):=by
     by_cases c:(x.toNat:Int)≥97
     ·rw[i2 (by simpa using c),Zqc];simp only[ZoB,ZoJ];omega
     ·rw[Zqc];simp only[ZoB,ZoJ];omega
    have j4:(decide ((x.toNat:Int)≥48)&&decide (y4≤57))=decide (48≤x.toNat∧x.toNat≤57):=by
     by_cases c:(x.toNat:Int)≥48
     ·rw[i4 (by simpa using c),Zqc];simp only[ZoB,ZoJ];omega
     ·rw[Zqc];simp only[ZoB,ZoJ];omega
    rw[j2,j4,Zib];by_cases c1:97≤x.toNat∧x.toNat≤122
    ·exact .inl ⟨(),by simp[c1],by simp[c1]⟩
    ·by_cases c3:48≤x.toNat∧x.toNat≤57
     ·by_cases c2:k=0
      ·subst c2;exact .inr ⟨.inr false,by simp[c1,c3],by simp[c1]⟩
      ·have:(0:Int)<(k:Int):=by omega
       exact .inl ⟨(),by simp[c1,c3,this,c2],by simp[c1,c2,c3]⟩
     ·exact .inr ⟨.inr false,by simp[c1,c3],by simp[c1,c3]⟩)
   (fun a hi=>by
    rw[ZoC (by rw[Zb];simp)];refine⟨_,rfl,?_⟩
    rw[←hi];simp[okF]) (a:=()) (by simp) hn
  rw[show((0:Nat):Int)=0 from rfl]at g1;rw[g1,g2];unfold nameB;rw[decide_eq_true hlen];cases okF 0 s.bytes<;>rfl
 ·rw[ZoD (by rw[Zb];simp;omega)];unfold nameB;rw[decide_eq_false hlen];simp
def kc(o:Int):Int:=(YT o).getD 0
theorem Zop(o:Int):YT o=some (kc o):=by
 unfold kc;have:∃k,YT o=some k:=by
  unfold YT;split
  ·exact⟨_,rfl⟩
  ·split
   ·exact⟨_,rfl⟩
   ·split
    ·exact⟨_,rfl⟩
    ·split
     ·exact⟨_,rfl⟩
     ·exact⟨_,rfl⟩
 obtain⟨k,h⟩:=this;rw[h];rfl
theorem ZiK(w:Int):ZM w=some (decide (1≤w∧w≤16)):=by simp[ZM]
theorem ZmT{t:D.Term}(hw:1≤t.W∧t.W≤16)(hk:∀x∈t.Kids,1≤x.W∧x.W≤16)(hl:(t.Kids.length:Int)=kc t.Op):
  ∃f,Zaq t=some f∧shB t.Op t.W t.N t.Name (t.Kids.map (·.W))=(f&&(t.Op !=0||wordB t.W t.N)&&(t.Op !=22||nameB t.Name)):=by
 obtain⟨op,w,m,nm,ks⟩:=t;simp only at hw hk hl⊢;unfold Zaq shB;simp only;have g0:∀(x:D.Term)(l:List D.Term),get? (x::l) 0=some x:=fun _ _=>rfl;have g1:∀(x y:D.Term)(l:List D.Term),get? (x::y::l) 1=some y:=fun _ _ _=>rfl;have g2:∀(x y z:D.Term)(l:List D.Term),get? (x::y::z::l) 2=some z:=fun _ _ _ _=>rfl;have l0:ks.length=0→ks=[]:=fun h=>Zp5.1 h;have l1:ks.length=1→∃a,ks=[a]:=fun h=>List.length_eq_one_iff.1 h;have l2:ks.length=2→∃a b,ks=[a,b]:=fun h=>by
  rcases ks with _|⟨a,_|⟨b,_|⟨c,l⟩⟩⟩<;>simp at h;exact⟨_,_,rfl⟩
 have l3:ks.length=3→∃a b c,ks=[a,b,c]:=fun h=>by
  rcases ks with _|⟨a,_|⟨b,_|⟨c,_|⟨d,l⟩⟩⟩⟩<;>simp at h;exact⟨_,_,_,rfl⟩
 unfold kc YT at hl;by_cases o0:op=0
 ·subst o0;obtain rfl:=l0 (by simp at hl;simp[hl]);exact⟨true,by simp,by simp⟩
 by_cases o1:op=22
 ·subst o1;obtain rfl:=l0 (by simp at hl;simp[hl]);exact⟨true,by simp,by simp⟩
 have q0:(op !=0)=true:=by simpa using o0
 have q1:(op !=22)=true:=by simpa using o1
 by_cases o2:1≤op∧op≤2
 ·have:op=1∨op=2:=by omega
  obtain⟨a,rfl⟩:=l1 (by rcases this with rfl|rfl<;>simp at hl<;>omega);refine⟨a.W==w,?_,?_⟩
  ·rcases this with rfl|rfl<;>simp[g0]
  ·simp[o0,o1,o2,q0,q1]
 by_cases o3:3≤op∧op≤13
 ·obtain⟨a,b,rfl⟩:=l2 (by
   have h1:¬(op=1):=by omega
   have h2:¬(op=2):=by omega
   have h3:¬(op=19):=by omega
   have h4:¬(op=20):=by omega
   have h5:¬(op=21):=by omega
   have h6:3≤op∧op≤16:=by omega
   simp[o0,o1,h1,h2,h3,h4,h5,h6]at hl;omega)
  refine⟨a.W==w&&b.W==w,?_,?_⟩
  ·have h1:¬(op=1):=by omega
   have h2:¬(op=2):=by omega
   by_cases c:a.W=w
   ·simp[g0,g1,o0,o1,h1,h2,o3,c]
   ·have c':(a.W==w)=false:=by simpa using c
    simp[g0,g1,o0,o1,h1,h2,o3,c,c']
  ·simp[o0,o1,o2,o3,q0,q1]
 by_cases o4:14≤op∧op≤16
 ·obtain⟨a,b,rfl⟩:=l2 (by
   have h1:¬(op=1):=by omega
   have h2:¬(op=2):=by omega
   have h3:¬(op=19):=by omega
   have h4:¬(op=20):=by omega
   have h5:¬(op=21):=by omega
   have h6:3≤op∧op≤16:=by omega
   simp[o0,o1,h1,h2,h3,h4,h5,h6]at hl;omega)
  refine⟨a.W==b.W&&w==1,?_,?_⟩
  ·have h1:¬(op=1):=by omega
   have h2:¬(op=2):=by omega
   simp[g0,g1,o0,o1,h1,h2,o3,o4]
  ·simp[o0,o1,o2,o3,o4,q0,q1]
 by_cases o5:op=17
 ·subst o5;obtain⟨a,b,c,rfl⟩:=l3 (by simp at hl;omega);refine⟨a.W==1&&b.W==w&&c.W==w,?_,?_⟩
  ·by_cases c1:a.W=1
   ·by_cases c2:b.W=w
    ·simp[g0,g1,g2,c1,c2]
    ·have c2':(b.W==w)=false:=by simpa using c2
     simp[g0,g1,g2,c1,c2,c2']
   ·have c1':(a.W==1)=false:=by simpa using c1
    simp[g0,g1,g2,c1,c1']
  ·simp
 by_cases o6:op=18
 ·subst o6;obtain⟨a,b,rfl⟩:=l2 (by simp at hl;omega);have ha:=hk a (by simp);have hb:=hk b (by simp);have e18:w64 (a.W+b.W)=a.W+b.W:=Zm (by omega) (by omega);exact⟨a.W+b.W==w,by simp[g0,g1,e18],by simp⟩
 by_cases o7:op=19
 ·subst o7;obtain⟨a,rfl⟩:=l1 (by simp at hl;omega);have ha:=hk a (by simp);have e19:w64 (a.W-w)=a.W-w:=Zm (by omega) (by omega);refine⟨decide (0≤m)&&decide (m≤a.W-w),?_,?_⟩
  ·by_cases c:0≤m
   ·simp[g0,e19,c]
   ·simp[g0,e19,c]
  ·simp only[Zps,Zql];rw[Zqc];simp;omega
 by_cases o8:20≤op∧op≤21
 ·have:op=20∨op=21:=by omega
  obtain⟨a,rfl⟩:=l1 (by rcases this with rfl|rfl<;>simp at hl<;>omega);refine⟨decide (a.W≤w),?_,?_⟩
  ·rcases this with rfl|rfl<;>simp[g0]
  ·rcases this with rfl|rfl<;>simp
 exfalso;have h1:¬(op=1):=by omega
 have h2:¬(op=2):=by omega
 have h4:¬(op=20):=by omega
 have h5:¬(op=21):=by omega
 have h6:¬(3≤op∧op≤16):=by omega
 simp[o0,o1,h1,h2,o7,h4,h5,h6,o6,o5]at hl
theorem Zno{t:D.Term}(hl:¬(t.Kids.length:Int)=kc t.Op):shB t.Op t.W t.N t.Name (t.Kids.map (·.W))=false:=by
 obtain⟨op,w,m,nm,ks⟩:=t;simp only at hl⊢;unfold shB;unfold kc YT at hl;have hks:ks=[]∨(∃a:D.Term,ks=[a])∨(∃a b:D.Term,ks=[a,b])∨(∃a b c:D.Term,ks=[a,b,c])∨∃(a b c d:D.Term)(l:List D.Term),ks=a::b::c::d::l:=by
  rcases ks with _|⟨a,_|⟨b,_|⟨c,_|⟨d,l⟩⟩⟩⟩
  ·exact .inl rfl
  ·exact .inr (.inl ⟨a,rfl⟩)
  ·exact .inr (.inr (.inl ⟨a,b,rfl⟩))
  ·exact .inr (.inr (.inr (.inl ⟨a,b,c,rfl⟩)))
  ·exact .inr (.inr (.inr (.inr ⟨a,b,c,d,l,rfl⟩)))
 by_cases o0:op=0
 ·subst o0;rcases hks with rfl|⟨a,rfl⟩|⟨a,b,rfl⟩|⟨a,b,c,rfl⟩|⟨a,b,c,d,l,rfl⟩<;>simp at hl⊢
 by_cases o1:op=22
 ·subst o1;rcases hks with rfl|⟨a,rfl⟩|⟨a,b,rfl⟩|⟨a,b,c,rfl⟩|⟨a,b,c,d,l,rfl⟩<;>simp at hl⊢
 by_cases o2:1≤op∧op≤2
 ·have:op=1∨op=2:=by omega
  rcases this with rfl|rfl<;>rcases hks with rfl|⟨a,rfl⟩|⟨a,b,rfl⟩|⟨a,b,c,rfl⟩|⟨a,b,c,d,l,rfl⟩<;>simp at hl⊢
 have h1:¬(op=1):=by omega
 have h2:¬(op=2):=by omega
 by_cases o3:3≤op∧op≤13
 ·have h3:¬(op=19):=by omega
  have h4:¬(op=20):=by omega
  have h5:¬(op=21):=by omega
  have h6:3≤op∧op≤16:=by omega
  simp[o0,o1,h1,h2,h3,h4,h5,h6]at hl;rcases hks with rfl|⟨a,rfl⟩|⟨a,b,rfl⟩|⟨a,b,c,rfl⟩|⟨a,b,c,d,l,rfl⟩<;>simp[o0,o1,o2,o3]at hl⊢
 by_cases o4:14≤op∧op≤16
 ·have h3:¬(op=19):=by omega
  have h4:¬(op=20):=by omega
  have h5:¬(op=21):=by omega
  have h6:3≤op∧op≤16:=by omega
  simp[o0,o1,h1,h2,h3,h4,h5,h6]at hl;rcases hks with rfl|⟨a,rfl⟩|⟨a,b,rfl⟩|⟨a,b,c,rfl⟩|⟨a,b,c,d,l,rfl⟩<;>simp[o0,o1,o2,o3,o4]at hl⊢
 by_cases o5:op=17
 ·subst o5;rcases hks with rfl|⟨a,rfl⟩|⟨a,b,rfl⟩|⟨a,b,c,rfl⟩|⟨a,b,c,d,l,rfl⟩<;>simp at hl⊢
 by_cases o6:op=18
 ·subst o6;rcases hks with rfl|⟨a,rfl⟩|⟨a,b,rfl⟩|⟨a,b,c,rfl⟩|⟨a,b,c,d,l,rfl⟩<;>simp at hl⊢
 by_cases o7:op=19
 ·subst o7;rcases hks with rfl|⟨a,rfl⟩|⟨a,b,rfl⟩|⟨a,b,c,rfl⟩|⟨a,b,c,d,l,rfl⟩<;>simp at hl⊢
 by_cases o8:20≤op∧op≤21
 ·have:op=20∨op=21:=by omega
  rcases this with rfl|rfl<;>rcases hks with rfl|⟨a,rfl⟩|⟨a,b,rfl⟩|⟨a,b,c,rfl⟩|⟨a,b,c,d,l,rfl⟩<;>simp at hl⊢
 simp[o0,o1,o2,o3,o4,o5,o6,o7,o8]
abbrev tab(m:Option (List (Str×Int))):List (Str×Int):=m.getD []
theorem get2{g:List (Str×Int)}{s:Str}(hs:s.bytes.length≤1048576):mget2? fitS (0:Int) g s=some ((g.lookup s).getD 0,(g.lookup s).isSome):=by
 unfold mget2?;rw[ZoD (by unfold fitS;simp;omega)]
theorem put1{g:List (Str×Int)}{s:Str}{w:Int}(hs:s.bytes.length≤1048576)(hw:1≤w∧w≤16)(hg:g.length≤1000):mputE? fitS fitZ g s w=some ((s,w)::g):=by
 unfold mputE?;rw[ZoD ⟨by unfold fitS;simp;omega,by unfold fitZ;simp[Lit.wf];exact⟨by show(-9223372036854775808:Int)≤w;omega,by omega⟩,by unfold room;omega⟩]
theorem Zm2{n:Nat}{c:D.termCheck}{t:D.Term}(hs:t.Name.bytes.length≤1048576)(hn:1048580≤n)(hw:1≤t.W∧t.W≤16)(hg:(tab c.widths).length≤1000):
  ∃b m,Y4 n c t=some (b,⟨c.count,m⟩)∧(b=true→nameB t.Name=true∧stp (tab c.widths) (t.Name,t.W)=some (tab m))∧(b=false→nameB t.Name=false∨stp (tab c.widths) (t.Name,t.W)=none):=by
 obtain⟨cc,ww⟩:=c;unfold Y4;rw[Zhl hs (by omega)];simp only[Zo8];cases hb:nameB t.Name
 ·exact⟨false,ww,rfl,fun h=>(by cases h),fun _=>.inl rfl⟩
 ·simp only[ZoF,Zo9,ZoG];cases ww with
  |none=>
   simp only[Option.isNone_none,ZoO];rw[get2 hs];simp only[Zo8,List.lookup_nil,Option.isSome_none,Zo9,ZoG];rw[put1 hs hw (by simp)];exact⟨true,_,rfl,fun _=>⟨trivial,rfl⟩,fun h=>(by cases h)⟩
  | some g=>
   simp only[Option.isNone_some,Zo9,ZoG,Zpu];rw[get2 hs];simp only[Zo8];unfold stp;simp only[tab,Zpu]at hg⊢;cases hl:g.lookup t.Name with
   |some w=>
    simp only[Option.isSome_some,ZoO,Zpu];refine⟨_,_,rfl,fun h=>⟨trivial,?_⟩,fun h=>.inr ?_⟩
    ·rw[ZoD (by simpa using h)];rfl
    ·rw[ZoC (by simpa using h)]
   |none=>
    simp only[Option.isSome_none,Zo9,ZoG];rw[put1 hs hw hg];exact⟨true,_,rfl,fun _=>⟨trivial,rfl⟩,fun h=>(by cases h)⟩
theorem ZgW {n:Nat}{ks:List D.Term}{c0:Int}{w0:Option (List (Str×Int))}(hn:1048580≤n)(hks:ks.length≤1048576)(hc:0≤c0)(hc':c0≤240)(hg:(tab w0).length≤c0)
    (ih:∀x∈ks,∀c:D.termCheck,c0≤c.count→c.count≤240→(tab c.widths).length≤c.count→∃b c',ZH n c x=some (b,c')∧(b=true→c.count+cnt x≤240∧nodeB x=true∧c'.count=c.count+cnt x∧runV (tab c.widths) (vrs x)=some (tab c'.widths))∧(b=false→¬(c.count+cnt x≤240∧nodeB x=true∧(runV (tab c.widths) (vrs x)).isSome=true))):
    ∃ r,iterN (fun(s2:Int×Int×(Option (List (Str×Int))))=>if (decide (s2.1<(len ks)))then(get? ks s2.1).bind fun x7=>(ZH n (D.termCheck.mk s2.2.1 s2.2.2) x7).bind fun x8=>if(!x8.1)then some (.inr (.inr (false,x8.2)))else some (.inl ((w64 (s2.1+1)),x8.2.count,x8.2.widths))else some (.inr (.inl (s2.2.1,s2.2.2)))) n (0,c0,w0)=some (r:(Int×(Option (List (Str×Int))))⊕(Bool×D.termCheck))∧
      ((∃cc ww,r= .inl (cc,ww)∧cc=c0+cnts ks∧cc≤240∧nodesB ks=true∧runV (tab w0) (vrss ks)=some (tab ww))∨∃c',r= .inr (false,c')∧¬(c0+cnts ks≤240∧nodesB ks=true∧(runV (tab w0) (vrss ks)).isSome=true)):=by
  have hrl:=Zmt
  exact ZT (l:=ks) (n:=n) (σ:=Int×(Option (List (Str×Int)))) (ρ:=(Int×(Option (List (Str×Int))))⊕(Bool×D.termCheck)) (B:=fun(s2:Int×Int×(Option (List (Str×Int))))=>if (decide (s2.1<(len ks)))then(get? ks s2.1).bind fun x7=>(ZH n (D.termCheck.mk s2.2.1 s2.2.2) x7).bind fun x8=>if(!x8.1)then some (.inr (.inr (false,x8.2)))else some (.inl ((w64 (s2.1+1)),x8.2.count,x8.2.widths))else some (.inr (.inl (s2.2.1,s2.2.2)))) (fun k a=>((k:Int),a.1,a.2))
      (fun ys a=>c0≤a.1∧a.1≤240∧(tab a.2).length≤a.1∧a.1+cnts ys=c0+cnts ks∧nodesB ys=nodesB ks∧runV (tab a.2) (vrss ys)=runV (tab w0) (vrss ks)∧∀x∈ys,x∈ks) _
      (fun k x xs a hk' hx hlen⟨i0,i1,i2,i3,i4,i5,i6⟩=>by
        obtain⟨ac,aw⟩:=a;simp only at i0 i1 i2 i3 i5;rw[Zbb]at i3;rw[Yc,Zqp,←Yc]at i4;rw[ZcN,Zil]at i5;have hd:decide ((k:Int)<len ks)=true:=by rw[Zb];simp;omega
        obtain⟨b,c',e1,e2,e3⟩:=ih x (i6 x (by simp)) ⟨ac,aw⟩ i0 i1 i2;simp only[hd,ZoO,get?_nat,hx,Zo8,e1];cases b with
        | false=>
          refine .inr ⟨_,rfl,.inr ⟨c',rfl,fun⟨h1,h2,h3⟩=>e3 rfl ⟨?_,?_,?_⟩⟩⟩
          · simp only;omega
          · rw[←i4,ZoB]at h2;exact h2.1
          · rw[←i5]at h3
            simp only;cases hq:runV (tab aw) (vrs x)with
            |none=>rw[hq]at h3;cases h3
            |some _=>rfl
        | true=>
          obtain⟨h1,h2,h3,h4⟩:=e2 rfl;simp only at h1 h3 h4;refine .inl ⟨(c'.count,c'.widths),by simp only[ZoF,Zo9,ZoG];rw[Zm (by omega) (by omega)];rfl,by simp only;omega,by simp only;omega,?_,by simp only;omega,by rw[←i4,h2,Zpa],?_,fun y hy=>i6 y (by simp[hy])⟩
          · have:=ZfE h4
            have:=hrl x;simp only;omega
          · rw[h4]at i5;exact i5)
      (fun a⟨i0,i1,i2,i3,i4,i5,i6⟩=>by
        obtain⟨ac,aw⟩:=a;have hd:decide ((ks.length:Int)<len ks)=false:=by rw[Zb];simp
        simp only[hd,Zo9,ZoG];rw[Zau]at i3;rw[Zdp]at i5;refine⟨_,rfl,.inl ⟨ac,aw,rfl,by simp only at i3;omega,i1,?_,i5.symm⟩⟩
        rw[←i4,Yc];rfl) (a:=(c0,w0)) ⟨by simp only;omega,hc',hg,rfl,rfl,rfl,fun x hx=>hx⟩ (by omega)
def wsB(ks:List D.Term):Bool:=ks.all fun x=>decide (1≤x.W∧x.W≤16)
theorem ZnN{ks:List D.Term}(h:nodesB ks=true):wsB ks=true:=by
 rw[Yc,ZoK]at h;unfold wsB;rw[ZoK];exact fun x hx=>decide_eq_true (YM (h x hx))
theorem ZiP{n:Nat}{ks:List D.Term}{v:Bool×D.termCheck}(hn:ks.length<n)(hk:ks.length≤1048576):iterN (fun(s1:Int)=>if(decide (s1<(len ks)))then(get? ks s1).bind fun x3=>(ZM x3.W).bind fun x4=>if(!x4)then some (.inr (.inr v))else some (.inl ((w64 (s1+1))))else some (.inr (.inl ()))) n (0)=some (if wsB ks=true then(.inl ():Unit⊕(Bool×D.termCheck))else .inr v):=by
 obtain⟨r,g1,g2⟩:=ZT (l:=ks) (n:=n) (σ:=Unit) (ρ:=Unit⊕(Bool×D.termCheck)) (B:=fun(s1:Int)=>if(decide (s1<(len ks)))then(get? ks s1).bind fun x3=>(ZM x3.W).bind fun x4=>if(!x4)then some (.inr (.inr v))else some (.inl ((w64 (s1+1))))else some (.inr (.inl ()))) (fun k _=>(k:Int)) (fun ys _=>wsB ys=wsB ks) (fun r=>r=if wsB ks=true then(.inl ():Unit⊕(Bool×D.termCheck))else .inr v)
  (fun k x xs a hk' hx hlen hi=>by
   have hd:decide ((k:Int)<len ks)=true:=by rw[Zb];simp;omega
   simp only[hd,ZoO,get?_nat,hx,Zo8,ZiK];have e:wsB (x::xs)=(decide (1≤x.W∧x.W≤16)&&wsB xs):=rfl;rw[e]at hi;by_cases c:1≤x.W∧x.W≤16
   ·rw[decide_eq_true c,Zpa]at hi;exact .inl ⟨(),by rw[decide_eq_true c,ZoC (by decide),Zm (by omega) (by omega)];rfl,hi⟩
   ·rw[decide_eq_false c,Zpk]at hi
    exact .inr ⟨_,by rw[decide_eq_false c,ZoD (by decide)],by rw[←hi];rfl⟩)
  (fun a hi=>by
   have hd:decide ((ks.length:Int)<len ks)=false:=by rw[Zb];simp
   simp only[hd,Zo9,ZoG]
   exact⟨_,rfl,by rw[←hi];rfl⟩) (a:=()) rfl hn
 rw[show((0:Nat):Int)=0 from rfl]at g1;rw[g1,g2]
theorem ZkE:∀(n:Nat)(t:D.Term)(c:D.termCheck),msz t≤1048576→0≤c.count→c.count≤240→(tab c.widths).length≤c.count→1048580+(241-c.count)≤(n:Int)→∃b c',ZH n c t=some (b,c')∧
   (b=true→c.count+cnt t≤240∧nodeB t=true∧c'.count=c.count+cnt t∧runV (tab c.widths) (vrs t)=some (tab c'.widths))∧(b=false→¬(c.count+cnt t≤240∧nodeB t=true∧(runV (tab c.widths) (vrs t)).isSome=true)):=by
 intro n
 induction n with
 |zero=>intro t c _ _ _ _ _;omega
 | succ n ih=>
  intro t c hs h0 h1 hg hn;have hz:=ZaV t;have hc:=Za3 t;have hb:=X6 t;have bad:nodeB t=false→¬(c.count+cnt t≤240∧nodeB t=true∧(runV (tab c.widths) (vrs t)).isSome=true):=fun h⟨_,h2,_⟩=>by rw[h]at h2;cases h2
  unfold ZH;rw[Zm (by omega) (by omega)];by_cases hC:c.count+1>240
  ·simp only[hC,decide_true,ZoO,Zo8,Zq2];exact⟨false,_,rfl,fun h=>(by cases h),fun _⟨h,_,_⟩=>by omega⟩
  simp only[hC,decide_false,Zo9,ZoG,ZiK t.W,Zo8,ZoW];by_cases hw:1≤t.W∧t.W≤16;rotate_left
  ·simp only[hw,decide_false,Zpr,ZoO,Zo8,Zq2];exact⟨false,_,rfl,fun h=>(by cases h),fun _=>bad (by rw[hb];unfold locB;rw[decide_eq_false hw];simp)⟩
  simp only[hw,decide_true,ZoF,Zo9,ZoG,Zo8,ZoW,and_self,Zop];by_cases hl:(t.Kids.length:Int)=kc t.Op;rotate_left
  ·have:(len t.Kids !=kc t.Op)=true:=by rw[Zb];simpa using hl
   rw[ZoD this];exact⟨false,_,rfl,fun h=>(by cases h),fun _=>bad (by rw[hb];unfold locB;rw[Zno hl];simp)⟩
  have hl':¬(len t.Kids !=kc t.Op)=true:=by rw[Zb];simpa using hl
  rw[ZoC hl',ZiP (by omega) (by omega)];simp only[Zo8];by_cases hk:wsB t.Kids=true;rotate_left
  ·rw[ZoC hk];refine⟨false,_,rfl,fun h=>(by cases h),fun _=>bad ?_⟩;rw[hb];cases h:nodesB t.Kids
   ·simp
   ·exact absurd (ZnN h) hk
  rw[ZoD hk];have hkw:∀x∈t.Kids,1≤x.W∧x.W≤16:=fun x hx=>by
   unfold wsB at hk;rw[ZoK]at hk;exact of_decide_eq_true (hk x hx)
  obtain⟨f,hf1,hf2⟩:=ZmT hw hkw hl;have hloc:locB t=((Str.eqb t.Name ⟨[]⟩||t.Op==22)&&(t.N==0||t.Op==0||t.Op==19)&&(f&&(t.Op !=0||wordB t.W t.N)&&(t.Op !=22||nameB t.Name))):=by
   unfold locB;rw[hf2,decide_eq_true hw,Zpa]
  simp only[hf1,Zo8];cases f with
  |false=>
   exact⟨false,_,rfl,fun h=>(by cases h),fun _=>bad (by rw[hb,hloc];simp)⟩
  |true=>
  simp only[ZoF,Zo9,ZoG,ZaF];have hx6:∃x6,(if(t.Op==0)=true then some (wordB t.W t.N)else some default)=some x6∧(t.Op=0→x6=wordB t.W t.N):=by
   by_cases o:t.Op=0
   ·exact⟨_,ZoD (by simpa using o),fun _=>rfl⟩
   ·exact⟨_,ZoC (by simpa using o),fun h=>absurd h o⟩
  obtain⟨x6,h6,h6'⟩:=hx6;rw[h6];simp only[Zo8];by_cases c6:(t.Op==0&& !x6)=true
  ·rw[ZoD c6];simp only[ZoB,Zpf,ZpG]at c6;refine⟨false,_,rfl,fun h=>(by cases h),fun _=>bad ?_⟩;rw[hb,hloc,←h6' c6.1,c6.2,c6.1];simp
  rw[ZoC c6];have d6:(t.Op !=0||wordB t.W t.N)=true:=by
   by_cases o:t.Op=0
   ·rw[←h6' o,o];simp[o]at c6;simp[c6]
   ·simp[o]
  by_cases c7:(t.Op !=0&&t.Op !=19&&t.N !=0)=true
  ·rw[ZoD c7];simp only[ZoB,bne_iff_ne,ne_eq]at c7;refine⟨false,_,rfl,fun h=>(by cases h),fun _=>bad ?_⟩;rw[hb,hloc];have:(t.N==0||t.Op==0||t.Op==19)=false:=by simp[c7]
   rw[this];simp
  rw[ZoC c7];have d7:(t.N==0||t.Op==0||t.Op==19)=true:=by
   simp only[ZoB,bne_iff_ne,ne_eq]at c7;by_cases a1:t.N=0<;>by_cases a2:t.Op=0<;>by_cases a3:t.Op=19<;>simp[a1,a2,a3]at c7⊢
  rw[d6,d7]at hloc;simp only[Zpa,Zpz]at hloc;have ih':∀x∈t.Kids,∀c1:D.termCheck,c.count+1≤c1.count→c1.count≤240→(tab c1.widths).length≤c1.count→∃b c',ZH n c1 x=some (b,c')∧
   (b=true→c1.count+cnt x≤240∧nodeB x=true∧c'.count=c1.count+cnt x∧runV (tab c1.widths) (vrs x)=some (tab c'.widths))∧(b=false→¬(c1.count+cnt x≤240∧nodeB x=true∧(runV (tab c1.widths) (vrs x)).isSome=true)):=fun x hx c1 k1 k2 k3=>by
   have:=Zax hx;exact ih x c1 (by omega) (by omega) k2 k3 (by omega)
  by_cases ho:t.Op=22
  ·rw [ZoC (by simp[ho])]
   have hv:vrs t=[(t.Name,t.W)]:=by rw[ZeM,ZoD ho]
   have hrun:runV (tab c.widths) (vrs t)=stp (tab c.widths) (t.Name,t.W):=by
    rw[hv];simp only[runV];cases stp (tab c.widths) (t.Name,t.W)<;>rfl
   have hks:t.Kids=[]:=by
    rw[ho]at hl;exact Zp5.1 (by have:kc 22=0:=rfl;omega)
   obtain⟨b,m,e1,e2,e3⟩:=Zm2 (n:=n) (c:=⟨c.count+1,c.widths⟩) (t:=t) (by omega) (by omega) hw (by simp only;omega);rw[e1];simp only[Zo8];rw[ho]at hloc;cases b with
   | false=>
    refine⟨false,_,rfl,fun h=>(by cases h),fun _=>?_⟩;rcases e3 rfl with e3|e3
    ·exact bad (by rw[hb,hloc,e3];simp)
    ·rw[hrun];simp only at e3;rw[e3];exact fun⟨_,_,h⟩=>by cases h
   | true=>
    obtain⟨e4,e5⟩:=e2 rfl;simp only at e5;have hml:(tab m).length≤c.count+1:=by have:=Zki e5;omega
    obtain⟨r,g1,g2⟩:=ZgW (n:=n) (ks:=t.Kids) (c0:=c.count+1) (w0:=m) (by omega) (by omega) (by omega) (by omega) hml ih';rw[hks,Zau,Zdp]at g2;have hcn:cnts t.Kids=0:=by rw[hks,Zau]
    have hnb:nodesB t.Kids=true:=by rw[hks,Yc];rfl
    simp only[ZoF,Zo9,ZoG];rw[g1];rcases g2 with⟨cc,ww,rfl,k1,k2,k3,k4⟩|⟨c',rfl,k1⟩
    ·refine⟨true,⟨cc,ww⟩,rfl,fun _=>⟨by omega, ?_,by simp only;omega, ?_⟩,fun h=>(by cases h)⟩
     ·rw[hb,hloc,e4,hnb];simp
     ·rw[hrun,e5];simp only[runV,Option.some.injEq]at k4;rw[k4]
    ·exfalso;apply k1;refine⟨by omega,by rw[Yc];rfl,rfl⟩
  ·rw[ZoD (by simp[ho])];have hv:vrs t=vrss t.Kids:=by rw[ZeM,ZoC ho]
   by_cases c8:Str.eqb t.Name ⟨[]⟩=true;rotate_left
   ·rw[ZoD (by simpa using c8)];refine⟨false,_,rfl,fun h=>(by cases h),fun _=>bad ?_⟩;rw[hb,hloc];simp[c8,ho]
   rw[ZoC (by simp[c8])];have hloc':locB t=true:=by rw[hloc,c8];simp[ho]
   obtain⟨r,g1,g2⟩:=ZgW (n:=n) (ks:=t.Kids) (c0:=c.count+1) (w0:=c.widths) (by omega) (by omega) (by omega) (by omega) (by omega) ih';rw[g1,hv,hb,hloc'];simp only[Zpa];rcases g2 with⟨cc,ww,rfl,k1,k2,k3,k4⟩|⟨c',rfl,k1⟩
   ·exact⟨true,⟨cc,ww⟩,rfl,fun _=>⟨by omega,k3,by simp only;omega,k4⟩,fun h=>(by cases h)⟩
   ·exact⟨false,c',rfl,fun h=>(by cases h),fun _⟨h1,h2,h3⟩=>k1 ⟨by omega,h2,h3⟩⟩
theorem ZeX{t:D.Term}(h:msz t≤1048576):X3 fuel t=some (termB t):=by
 unfold X3;obtain⟨b,c',e1,e2,e3⟩:=ZkE fuel t ⟨0,none⟩ h (by simp) (by simp) (by simp[tab]) (by unfold fuel;simp);rw[e1];simp only[Zo8,Option.some.injEq];unfold termB;simp only[tab,Option.getD_none]at e2 e3;cases b with
 |true=>
  obtain⟨h1,h2,-,h3⟩:=e2 rfl;rw[h2,h3,decide_eq_true (by omega)];rfl
 | false=>
  have:=e3 rfl;cases hb:nodeB t
  ·simp
  ·cases hr:(runV [] (vrs t)).isSome
   ·simp
   ·have:¬cnt t≤240:=fun hc=>this ⟨by omega,hb,hr⟩;simp[this]
theorem Zhu{α:Type}{l:List α}{b:α→Bool}(G:α→Int→Option (Int⊕(Unit⊕Bool)))(hG:∀(k:Nat)(x:α),l[k]? =some x→G x k=if b x=true then some (.inl (w64 ((k:Int)+1)))else some (.inr (.inr false)))(hb:l.length≤1048576){n:Nat}(hn:l.length<n):
  iterN (fun(s1:Int)=>if(decide (s1<(len l)))then(get? l s1).bind fun x1=>G x1 s1 else some (.inr (.inl ()))) n 0=some (if l.all b=true then(.inl ():Unit⊕Bool)else .inr false):=by
 obtain⟨r,g1,g2⟩:=ZT (l:=l) (n:=n) (σ:=Unit) (ρ:=Unit⊕Bool) (B:=fun(s1:Int)=>if(decide (s1<(len l)))then(get? l s1).bind fun x1=>G x1 s1 else some (.inr (.inl ())))
  (fun k _=>(k:Int)) (fun ys _=>ys.all b=l.all b) (fun r=>r=if l.all b=true then(.inl ():Unit⊕Bool)else .inr false)
  (fun k x xs a hk' hx hlen hi=>by
   have hd:decide ((k:Int)<len l)=true:=by rw[Zb];simp;omega
   simp only[hd,ZoO,get?_nat,hx,Zo8];rw[hG k x hx];rw[Zqp]at hi;cases c:b x
   ·rw[c,Zpk]at hi;exact .inr ⟨_,rfl,by rw[←hi];rfl⟩
   ·rw[c,Zpa]at hi
    exact .inl ⟨(),by rw[Zm (by omega) (by omega)];rfl,hi⟩)
  (fun a hi=>by
   have hd:decide ((l.length:Int)<len l)=false:=by rw[Zb];simp
   simp only[hd,Zo9,ZoG]
   exact⟨_,rfl,by rw[←hi];rfl⟩) (a:=()) rfl hn
 rw[show((0:Nat):Int)=0 from rfl]at g1;rw[g1,g2]
def tsB(l:List D.Term)(w:Int):Bool:=l.all fun t=>termB t&&t.W==w
theorem Zf7{l:List D.Term}(h:sml l){x:D.Term}(hx:x∈l):msz x≤1048576:=by
 have:=Zax hx;unfold sml at h;omega
theorem Zb4{l:List D.Term}(h:sml l):l.length≤1048576:=by unfold sml at h;omega
theorem ZcU{l:List D.Term}{w:Int}(h:sml l):Xi fuel l w=some (tsB l w):=by
 unfold Xi
 have hl:=Zhu (l:=l) (b:=fun t=>termB t&&t.W==w) (fun x1 s1=>(X5 fuel x1).bind fun x2=>if((!x2)||(x1.W !=w))then some (.inr (.inr false))else some (.inl ((w64 (s1+1))))) (fun k x hx=>by
  simp only[ZeI (Zf7 h (Zpd hx)),Zo8]
  cases termB x<;>by_cases c:x.W=w<;>simp[c]) (Zb4 h) (Yb (Zb4 h))
 rw[hl];unfold tsB;cases l.all (fun t=>termB t&&t.W==w)<;>rfl
theorem ZcP{l:List D.Term}{w:Int}(h:sml l):X4 fuel w l=some (tsB l w):=by
 unfold X4
 have hl:=Zhu (l:=l) (b:=fun t=>termB t&&t.W==w) (fun x1 s1=>(if(x1.W !=w)then some default else(get? l s1)).bind fun x2=>(if(x1.W !=w)then some default else(X3 fuel x2)).bind fun x3=>if((x1.W !=w)||(!x3))then some (.inr (.inr false))else some (.inl ((w64 (s1+1))))) (fun k x hx=>by
  have ht:=ZeX (Zf7 h (Zpd hx));by_cases c:x.W=w
  ·simp only[c,bne_self_eq_false,Zo9,ZoG,get?_nat,hx,Zo8,ht,ZoW];cases termB x<;>simp
  ·have c':(x.W !=w)=true:=by simpa using c
   have c2:(x.W==w)=false:=by simpa using c
   simp[c',c2]) (Zb4 h) (Yb (Zb4 h))
 rw[hl];unfold tsB;cases l.all (fun t=>termB t&&t.W==w)<;>rfl
theorem Zjv{l:List Int}(h:l.length≤1048576):Zbf fuel l=some (l.all fun x=>decide (0≤x∧x≤1)):=by
 unfold Zbf
 have hl:=Zhu (l:=l) (b:=fun x=>decide (0≤x∧x≤1)) (fun x1 s1=>if((x1 !=0)&&(x1 !=1))then some (.inr (.inr false))else some (.inl ((w64 (s1+1))))) (fun k x hx=>by
  by_cases c:0≤x∧x≤1
  ·have:x=0∨x=1:=by omega
   rcases this with rfl|rfl<;>simp
  ·have h1:(x !=0)=true:=by simp;omega
   have h2:(x !=1)=true:=by simp;omega
   rw[h1,h2,decide_eq_false c];rfl) h (Yb h)
 rw[hl];cases l.all (fun x=>decide (0≤x∧x≤1))<;>rfl
def pathB(p:D.Program)(s:D.Path):Bool:=
 progB p&&decide (0≤s.Pc∧s.Pc≤len p.Code)&&(len s.Regs==4)&&(len s.Mem==p.Mem)&&decide (len s.Stack≤3)&&decide (0≤s.In∧s.In≤p.In)&&decide (len s.Out≤6)&&decide (0≤s.Code∧s.Code≤9)&&decide (0≤s.Steps∧s.Steps≤400)&&decide (len s.Cond≤60)&&decide (len s.Turns≤60)&&
 (s.Stack.all fun x=>decide (0≤x∧x≤len p.Code))&&(s.Turns.all fun x=>decide (0≤x∧x≤1))&&tsB s.Regs p.W&&tsB s.Mem p.W&&tsB s.Out p.W&&tsB s.Cond 1
theorem ZeG{p:D.Program}{s:D.Path}(hp:p.Code.length≤1048576)(hs:smallP s):Za1 fuel p s=some (pathB p s):=by
 obtain⟨s1,s2,s3,s4,s5,s6⟩:=hs;unfold Za1;have l1:=Zce (l:=s.Stack) (f:=fun x=>Zj x 0 (len p.Code)) (b:=fun x=>decide (0≤x∧x≤len p.Code)) (fun x _=>Zk _ _ _) (by omega) s.Stack.length 0 (by omega) fuel (Yb s3);have l2:=Zce (l:=s.Turns) (f:=fun x=>Zj x 0 1) (b:=fun x=>decide (0≤x∧x≤1)) (fun x _=>Zk _ _ _) (by omega) s.Turns.length 0 (by omega) fuel (Yb s6);rw[show((0:Nat):Int)=0 from rfl,Zpp]at l1 l2;rw[l1,l2];simp only[ZeT hp,Zk,Zo8,Zds,Zcx,ZcU s1,ZcU s2,ZcU s4,ZcU s5];unfold pathB;cases progB p
 ·simp
 by_cases a2:0≤s.Pc∧s.Pc≤len p.Code;rotate_left
 ·simp[a2]
 by_cases a3:len s.Regs=4;rotate_left
 ·simp[a2,a3]
 by_cases a4:len s.Mem=p.Mem;rotate_left
 ·simp[a2,a3,a4]
 by_cases a5:len s.Stack≤3;rotate_left
 ·have:len s.Stack>3:=by omega
  simp[a2,a3,a4,a5,this]
 by_cases a6:0≤s.In∧s.In≤p.In;rotate_left
 ·simp[a2,a3,a4,a5,a6,Zpy.2 a5]
 by_cases a7:len s.Out≤6;rotate_left
 ·have:len s.Out>6:=by omega
  simp[a2,a3,a4,a5,a6,a7,Zpy.2 a5,this]
 by_cases a8:0≤s.Code∧s.Code≤9;rotate_left
 ·simp[a2,a3,a4,a5,a6,a7,a8,Zpy.2 a5,Zpy.2 a7]
 by_cases a9:0≤s.Steps∧s.Steps≤400;rotate_left
 ·simp[a2,a3,a4,a5,a6,a7,a8,a9,Zpy.2 a5,Zpy.2 a7]
 by_cases b1:len s.Cond≤60;rotate_left
 ·have:len s.Cond>60:=by omega
  simp[a2,a3,a4,a5,a6,a7,a8,a9,b1,Zpy.2 a5,Zpy.2 a7,this]
 by_cases b2:len s.Turns≤60;rotate_left
 ·have:len s.Turns>60:=by omega
  simp[a2,a3,a4,a5,a6,a7,a8,a9,b1,b2,Zpy.2 a5,Zpy.2 a7,Zpy.2 b1,this]
 simp only[a2,a3,a4,a5,a6,a7,a8,a9,b1,b2,gt_iff_lt,Zpy.2 a5,Zpy.2 a7,Zpy.2 b1,Zpy.2 b2,decide_true,decide_false,ZoF,Zqd,ZpL,Zo9,ZoG,bne_self_eq_false,Zpw,Zpa,Zpz,Zp6,and_self];cases s.Stack.all (fun x=>decide (0≤x∧x≤len p.Code))
 ·simp
 cases s.Turns.all (fun x=>decide (0≤x∧x≤1))
 ·simp
 cases tsB s.Regs p.W<;>cases tsB s.Mem p.W<;>cases tsB s.Out p.W<;>cases tsB s.Cond 1<;>rfl
theorem ZkH{p:D.Program}{s:D.Path}(hp:p.Code.length≤1048576)(hs:smallP s):ZbE fuel p s=some (pathB p s):=by
 obtain⟨s1,s2,s3,s4,s5,s6⟩:=hs;have hpl:∀x,XY p x=some (decide (0≤x∧x≤len p.Code)):=fun x=>by simp[XY]
 have hfu:∀x,Za0 x=some (decide (0≤x∧x≤400)):=fun x=>by simp[Za0]
 unfold ZbE;have l1:=Zce (l:=s.Stack) (f:=fun x=>XY p x) (b:=fun x=>decide (0≤x∧x≤len p.Code)) (fun x _=>hpl _) (by omega) s.Stack.length 0 (by omega) fuel (Yb s3);rw[show((0:Nat):Int)=0 from rfl,Zpp]at l1;rw[l1];simp only[ZgQ hp,hpl,hfu,Zjv s6,Zo8,Zds,Zcx,ZcP s1,ZcP s2,ZcP s4,ZcP s5];unfold pathB;cases progB p
 ·simp
 by_cases a2:0≤s.Pc∧s.Pc≤len p.Code;rotate_left
 ·simp[a2]
 by_cases a3:len s.Regs=4;rotate_left
 ·simp[a2,a3]
 by_cases a4:len s.Mem=p.Mem;rotate_left
 ·simp[a2,a3,a4]
 by_cases a5:len s.Stack≤3;rotate_left
 ·have:len s.Stack>3:=by omega
  simp[a2,a3,a4,a5,this]
 by_cases a6:0≤s.In∧s.In≤p.In;rotate_left
 ·have:s.In<0∨s.In>p.In:=by omega
  rcases this with h|h<;>simp[a2,a3,a4,a5,a6,Zpy.2 a5,h]
 by_cases a7:len s.Out≤6;rotate_left
 ·have:len s.Out>6:=by omega
  simp[a2,a3,a4,a5,a6,a7,Zpy.2 a5,this]
 have c6:¬s.In<0:=by omega
 have c6':¬s.In>p.In:=by omega
 simp only[a2,a3,a4,a5,a6,a7,c6,c6',gt_iff_lt,Zpy.2 a5,Zpy.2 a7,Zpy.2 a6.2,decide_true,decide_false,ZoF,Zqd,ZpL,Zo9,ZoG,bne_self_eq_false,Zpw,Zpa,Zpz,Zp6,and_self];cases hst:s.Stack.all (fun x=>decide (0≤x∧x≤len p.Code))
 ·simp
 simp only[ZoO];by_cases a8:0≤s.Code∧s.Code≤9;rotate_left
 ·have:s.Code<0∨9<s.Code:=by omega
  rcases this with h|h<;>simp[a8,h]
 have c8:¬s.Code<0:=by omega
 have c8':¬9<s.Code:=by omega
 by_cases a9:0≤s.Steps∧s.Steps≤400;rotate_left
 ·simp[a8,a9,c8,c8']
 by_cases b1:len s.Cond≤60;rotate_left
 ·have:60<len s.Cond:=by omega
  simp[a8,a9,b1,c8,c8',this]
 by_cases b2:len s.Turns≤60;rotate_left
 ·have:60<len s.Turns:=by omega
  simp[a8,a9,b1,b2,c8,c8',this]
 simp only[a8,a9,b1,b2,c8,c8',Zpy.2 b1,Zpy.2 b2,decide_true,decide_false,ZoF,Zqd,ZoW,ZpL,Zo9,ZoG,Zpa,Zpz,Zp6,and_self];cases s.Turns.all (fun x=>decide (0≤x∧x≤1))
 ·simp
 cases tsB s.Regs p.W<;>cases tsB s.Mem p.W<;>cases tsB s.Out p.W<;>cases tsB s.Cond 1<;>rfl
theorem ZgR(w v:Int):∃b,Yl w v=some b∧YJ w v=some b:=by
 unfold Yl YJ Zj ZM;by_cases h:1≤w∧w≤16
 ·obtain⟨m,h1,h2,h3⟩:=ZjF h.1 h.2;exact⟨band v (w64 (m-1)),by simp[h.1,h.2,h1],by simp[h.1,h.2,h2]⟩
 ·refine⟨-1, ?_, ?_⟩
  ·by_cases a:1≤w
   ·have b:¬w≤16:=fun b=>h ⟨a,b⟩;simp[a,b]
   ·simp[a]
  ·by_cases a:1≤w
   ·have b:¬w≤16:=fun b=>h ⟨a,b⟩;simp[a,b]
   ·simp[a]
def wordOf(w v:Int):Int:=(Yl w v).getD 0
theorem Yo(w v:Int):Yl w v=some (wordOf w v):=by
 obtain⟨b,h,-⟩:=ZgR w v;simp[wordOf,h]
theorem XO(w v:Int):YJ w v=some (wordOf w v):=by
 obtain⟨b,h,h'⟩:=ZgR w v;simp[wordOf,h,h']
theorem Zfi{w:Int}(h1:1≤w)(h2:w≤16):w=1∨w=2∨w=3∨w=4∨w=5∨w=6∨w=7∨w=8∨w=9∨w=10∨w=11∨w=12∨w=13∨w=14∨w=15∨w=16:=by omega
theorem Zb3{w:Int}(h1:1≤w)(h2:w≤16):shl? 1 w=some (2^w.toNat)∧shl? 1 (IntKind.u64.wrap w)=some (2^w.toNat)∧w64 ((2:Int)^w.toNat-1)=2^w.toNat-1∧(2:Int)≤2^w.toNat∧(2:Int)^w.toNat≤65536:=by
 rcases Zfi h1 h2 with rfl|rfl|rfl|rfl|rfl|rfl|rfl|rfl|rfl|rfl|rfl|rfl|rfl|rfl|rfl|rfl<;>exact⟨rfl,rfl,by decide,by decide,by decide⟩
theorem Yf{w:Int}(h1:1≤w)(h2:w≤16)(v:Int):wordB w v=true↔0≤v∧v<2^w.toNat:=by
 obtain⟨a1,a2,a3,a4,a5⟩:=Zb3 h1 h2;have hs:=Xb w v;unfold ZI Zj at hs;have e:(decide (w≥1)&&decide (w≤16))=true:=by simp;omega
 simp only[e,Zo8]at hs;by_cases hv:0≤v
 ·simp only[hv,decide_true,ZoO,a1,Zo8]at hs;rw[a3]at hs;simp at hs;rw[←hs];simp[hv];omega
 ·simp[hv,a1]at hs;rw[hs];simp;omega
theorem Yp{w v:Int}(h:wordB w v=true):1≤w∧w≤16:=by
 have hs:=Xb w v;rw[h]at hs;unfold ZI Zj at hs;by_cases a:1≤w
 ·by_cases b:w≤16
  ·exact⟨a,b⟩
  ·have e:(decide (w≥1)&&decide (w≤16))=false:=by simp[b]
   simp only[e,Zo8]at hs;simp at hs
 ·have e:(decide (w≥1)&&decide (w≤16))=false:=by simp[a]
  simp only[e,Zo8]at hs;simp at hs
theorem ZiB{w v:Int}(h:wordB w v=true):0≤v∧v<65536:=by
 obtain⟨a,b⟩:=Yp h;obtain⟨_,_,_,_,h5⟩:=Zb3 a b;have:=(Yf a b v).1 h;omega
theorem Zfd{x:Int}(h1:0≤x)(h2:x≤100000):IntKind.u64.wrap x=x:=by
 have:IntKind.u64.wrap x=x%18446744073709551616:=by simp[IntKind.wrap,IntKind.bits,IntKind.signed]
 rw[this];omega
theorem ZdW(x:Int){y:Int}(h:0≤y):shr? x y=some (x.fdiv (2^min y.toNat 64)):=by unfold shr?;rw[ZoC (by omega)]
theorem Zhr(x:Int){y:Int}(h:0≤y):shl? x y=some (w64 (x*2^min y.toNat 64)):=by unfold shl?;rw[ZoC (by omega)]
theorem Zfl(w v:Int):∃r,YA w v=some r∧YS w v=some r:=by
 unfold YA YS;rw[Xb,ZaF];simp only[Zo8];cases hb:wordB w v with
 |false=>exact⟨0,rfl,rfl⟩
 | true=>
  obtain⟨h1,h2⟩:=Yp hb;obtain⟨a1,a2,a3,a4,a5⟩:=Zb3 h1 h2;obtain⟨c1,c2⟩:=(Yf h1 h2 v).1 hb;have e1:w64 (w-1)=w-1:=Zm (by omega) (by omega);have hsh:v.fdiv (2^min (w-1).toNat 64)=0∨v.fdiv (2^min (w-1).toNat 64)=1:=by
   have e2:min (w-1).toNat 64=(w-1).toNat:=by omega
   rw[e2,Zq0 _ (Int.pow_nonneg (by decide))];have e3:(2:Int)^w.toNat=2*2^(w-1).toNat:=by
    have:w.toNat=(w-1).toNat+1:=by omega
    rw[this,Int.pow_succ];omega
   have hp:(0:Int)<2^(w-1).toNat:=ZqV (by decide);rw[e3]at c2;by_cases hlt:v<2^(w-1).toNat
   ·left;exact Int.ediv_eq_zero_of_lt c1 hlt
   ·right;have g1:1≤v/2^(w-1).toNat:=Int.le_ediv_of_mul_le hp (by omega);have g2:v/2^(w-1).toNat<2:=Int.ediv_lt_of_lt_mul hp (by omega);omega
  simp only[ZoF,Zo9,ZoG,e1,Zfd (show 0≤w-1 by omega) (show w-1≤100000 by omega),ZdW v (show 0≤w-1 by omega),Zo8,a1,a2];rcases hsh with e|e
  ·rw[e];exact⟨v,by simp,by simp⟩
  ·rw[e];exact⟨w64 (v-2^w.toNat),by simp,by simp⟩
def signedOf(w v:Int):Int:=(YA w v).getD 0
theorem ZbB(w v:Int):YA w v=some (signedOf w v):=by
 obtain⟨b,h,-⟩:=Zfl w v;simp[signedOf,h]
theorem Zff(w v:Int):YS w v=some (signedOf w v):=by
 obtain⟨b,h,h'⟩:=Zfl w v;simp[signedOf,h,h']
theorem Zgi(b:Bool):X8 b=some (if b then 1 else 0)∧Zai b=some (if b then 1 else 0):=by
 cases b<;>exact⟨rfl,rfl⟩
theorem Zdq(op w a b:Int):∃r,Yu op w a b=some r∧Xm op w a b=some r:=by
 unfold Yu Xm;simp only[Xb,ZaF,Yo,XO,Zo8];cases ha:wordB w a with
 |false=>exact⟨-1,rfl,rfl⟩
 | true=>
  simp only[ZoF,Zo9,ZoG,Zo8,ZoW];cases hb:wordB w b with
  |false=>exact⟨-1,rfl,rfl⟩
  | true=>
   obtain⟨h1,h2⟩:=Yp ha;obtain⟨a1,a2,a3,a4,a5⟩:=Zb3 h1 h2;obtain⟨c1,c2⟩:=ZiB ha;obtain⟨d1,d2⟩:=ZiB hb;have hquo:b≠0→quo? a b=some (w64 (a.tdiv b)):=fun h=>by unfold quo?;rw[ZoC h]
   have hrem:b≠0→rem? a b=some (a.tmod b):=fun h=>by unfold rem?;rw[ZoC h]
   have hw1:w64 (w-1)=w-1:=Zm (by omega) (by omega);simp only[ZoF,Zo9,ZoG,Zbm,Yo,XO,ZbB,Zff,(Zgi _).1,(Zgi _).2,Zo8,a1,a2,hw1];by_cases e3:op=3
   ·subst e3;exact⟨_,rfl,rfl⟩
   by_cases e4:op=4
   ·subst e4;exact⟨_,rfl,rfl⟩
   by_cases e5:op=5
   ·subst e5;exact⟨_,rfl,rfl⟩
   by_cases e6:op=6
   ·subst e6;by_cases z:b=0
    ·subst z;exact⟨_,rfl,rfl⟩
    ·refine⟨w64 (a.tdiv b),?_,?_⟩<;>simp[z,hquo z]
   by_cases e7:op=7
   ·subst e7;by_cases z:b=0
    ·subst z;exact⟨_,rfl,rfl⟩
    ·refine⟨a.tmod b,?_,?_⟩<;>simp[z,hrem z]
   by_cases e8:op=8
   ·subst e8;exact⟨_,rfl,rfl⟩
   by_cases e9:op=9
   ·subst e9;exact⟨_,rfl,rfl⟩
   by_cases e10:op=10
   ·subst e10;exact⟨_,rfl,rfl⟩
   by_cases e11:op=11
   ·subst e11;by_cases z:b≥w
    ·refine⟨0,?_,?_⟩<;>simp[z]
    ·have hb':=Zfd d1 (by omega);refine⟨wordOf w (w64 (a*2^min b.toNat 64)),?_,?_⟩<;>simp[z,hb',Zhr a d1,Yo,XO]
   by_cases e12:op=12
   ·subst e12;by_cases z:b≥w
    ·refine⟨0,?_,?_⟩<;>simp[z]
    ·have hb':=Zfd d1 (by omega);refine⟨a.fdiv (2^min b.toNat 64),?_,?_⟩<;>simp[z,hb',ZdW a d1]
   by_cases e13:op=13
   ·subst e13;have hmin:imin b (w-1)=(bif decide (b≥w)then w-1 else b):=by
     unfold imin;by_cases z:b≥w
     ·rw[ZoD (by omega)];simp[z]
     ·rw[ZoC (by omega)];simp[z]
    rw[hmin];have hq:0≤(bif decide (b≥w)then w-1 else b)∧(bif decide (b≥w)then w-1 else b)≤1000:=by
     by_cases z:b≥w
     ·simp[z];omega
     ·simp[z];omega
    generalize (bif decide (b≥w)then w-1 else b)=y at hq⊢;rw[Zfd hq.1 (by omega),ZdW _ hq.1];refine⟨wordOf w ((signedOf w a).fdiv (2^min y.toNat 64)),?_,?_⟩<;>simp[Yo,XO]
   by_cases e14:op=14
   ·subst e14;exact⟨_,rfl,rfl⟩
   by_cases e15:op=15
   ·subst e15;exact⟨_,rfl,rfl⟩
   by_cases e16:op=16
   ·subst e16;exact⟨_,rfl,rfl⟩
   refine⟨-1,?_,?_⟩<;>simp[e3,e4,e5,e6,e7,e8,e9,e10,e11,e12,e13,e14,e15,e16]
theorem ZgL(op w a:Int):∃r,Xc op w a=some r∧Zad op w a=some r:=by
 unfold Xc Zad;simp only[Xb,ZaF,Yo,XO,Zo8];cases ha:wordB w a with
 |false=>exact⟨-1,rfl,rfl⟩
 |true=>
  obtain⟨h1,h2⟩:=Yp ha;obtain⟨a1,a2,a3,a4,a5⟩:=Zb3 h1 h2;simp only[a1,a2,Zo8];by_cases e1:op=1
  ·subst e1;exact⟨_,rfl,rfl⟩
  by_cases e2:op=2
  ·subst e2;exact⟨_,rfl,rfl⟩
  exact⟨-1,by simp[e1,e2],by simp[e1,e2]⟩
theorem ZhA(w a v b:Int):∃r,Xw w a v b=some r∧Za7 w a v b=some r:=by
 unfold Xw Za7;simp only[Xb,ZaF,Zo8];cases ha:wordB w a with
 |false=>exact⟨-1,rfl,rfl⟩
 | true=>
  simp only[ZoF,Zo9,ZoG,Zo8,ZoW];cases hb:wordB v b with
  |false=>exact⟨-1,rfl,rfl⟩
  |true=>
   obtain⟨h1,h2⟩:=Yp hb;rw[Zfd (show 0≤v by omega) (by omega)];simp only[Zhr a (show 0≤v by omega),Zo8];by_cases c:w64 (w+v)>16
   ·exact⟨-1,by simp[c],by simp[c]⟩
   ·exact⟨w64 (w64 (a*2^min v.toNat 64)+b),by simp[c],by simp[c]⟩
theorem ZhG(w a n:Int)(s:Bool):∃r,Xp w a n s=some r∧Za2 w a n s=some r:=by
 unfold Xp Za2;simp only[Xb,ZaF,Yo,XO,ZbB,Zff,Zo8];cases ha:wordB w a with
 |false=>exact⟨-1,rfl,rfl⟩
 | true=>
  obtain⟨h1,h2⟩:=Yp ha;have hi:ZM n=some (decide (1≤n∧n≤16)):=by simp[ZM]
  simp only[ZoF,Zo9,ZoG,Zo8,ZoW,hi];by_cases c1:n<w
  ·exact⟨-1,by simp[c1],by simp[c1]⟩
  ·by_cases c2:n≤16
   ·have c3:1≤n∧n≤16:=by omega
    have c4:¬n>16:=by omega
    cases s
    ·exact⟨a,by simp[c1,c4],by simp[c1,c3]⟩
    ·exact⟨wordOf n (signedOf w a),by simp[c1,c4,Yo],by simp[c1,c3,XO]⟩
   ·have c3:¬(1≤n∧n≤16):=by omega
    have c4:n>16:=by omega
    exact⟨-1,by simp[c4],by simp[c3]⟩
theorem ZiT{w a l n:Int}(hl:0≤l∧l≤100)(hn:-100≤n∧n≤100):∃r,XV w a l n=some r∧Zbn w a l n=some r:=by
 unfold XV Zbn;simp only[Xb,ZaF,Yo,XO,Zo8];cases ha:wordB w a with
 |false=>exact⟨-1,rfl,rfl⟩
 | true=>
  obtain⟨h1,h2⟩:=Yp ha;have e1:w64 (w-n)=w-n:=Zm (by omega) (by omega);have e2:w64 (w-l)=w-l:=Zm (by omega) (by omega);simp only[ZoF,ZoW,e1,e2];have hl0:¬l<0:=by omega
  by_cases c1:n<1
  ·exact⟨-1,by simp[c1],by simp[c1]⟩
  ·by_cases c2:n>w-l
   ·have:n>w∨l>w-n:=by omega
    refine⟨-1,?_,by simp[c2]⟩;rcases this with h|h<;>simp[h]
   ·have c3:¬n>w:=by omega
    have c4:¬l>w-n:=by omega
    obtain⟨a1,a2,a3,_⟩:=Zb3 (w:=n) (by omega) (by omega);have hw:∀x,wordOf n x=band x (w64 (2^n.toNat-1)):=fun x=>by
     have hs:=Yo n x;unfold Yl Zj at hs;have e:(decide (n≥1)&&decide (n≤16))=true:=by simp;omega
     simp only[e,Zo8,ZoF,Zo9,ZoG,a1,Option.some.injEq]at hs;exact hs.symm
    refine⟨wordOf n (a.fdiv (2^min l.toNat 64)),?_,?_⟩
    ·simp[hl0,c1,c3,c4,ZdW a hl.1,Yo]
    ·simp only[hl0,c1,c2,decide_false,ZpL,Zo9,ZoG,Zfd hl.1 (by omega),ZdW a hl.1,a2,Zo8,hw]
theorem XW{α:Type}{l m:List α}(h:l.length+m.length≤1048576):app? l m=some (l++m):=by
 unfold app?;rw[ZoD (by unfold room;omega)]
theorem get0(x:D.Term)(l:List D.Term):get? (x::l) 0=some x:=rfl
theorem get1(x y:D.Term)(l:List D.Term):get? (x::y::l) 1=some y:=rfl
theorem get2'(x y z:D.Term)(l:List D.Term):get? (x::y::z::l) 2=some z:=rfl
theorem geti0(x:Int)(l:List Int):get? (x::l) 0=some x:=rfl
theorem geti1(x y:Int)(l:List Int):get? (x::y::l) 1=some y:=rfl
theorem geti2(x y z:Int)(l:List Int):get? (x::y::z::l) 2=some z:=rfl
theorem ZgX{t:D.Term}(h:locB t=true):(t.Op=0∧t.Kids=[])∨(t.Op=22∧t.Kids=[])∨((t.Op=1∨t.Op=2)∧∃a,t.Kids=[a]∧a.W=t.W)∨(3≤t.Op∧t.Op≤16∧∃a b,t.Kids=[a,b]∧a.W=b.W)∨(t.Op=17∧∃a b c,t.Kids=[a,b,c])∨(t.Op=18∧∃a b,t.Kids=[a,b])∨(t.Op=19∧0≤t.N∧t.N≤16∧∃a,t.Kids=[a])∨((t.Op=20∨t.Op=21)∧∃a,t.Kids=[a]):=by
 unfold locB at h;simp only[ZoB]at h;have h:=h.2;unfold shB at h;by_cases o0:t.Op=0
 ·rw[ZoD o0]at h;simp only[ZoB,ZpT,Zqj]at h;exact .inl ⟨o0,h.1⟩
 rw[ZoC o0]at h;by_cases o1:t.Op=22
 ·rw[ZoD o1]at h;simp only[ZoB,ZpT,Zqj]at h;exact .inr (.inl ⟨o1,h.1⟩)
 rw[ZoC o1]at h;have k1:∀f:Int→Bool,(match t.Kids.map (·.W)with|[a]=>f a|_=>false)=true→∃a,t.Kids=[a]∧f a.W=true:=fun f h=>by
  rcases hk:t.Kids with _|⟨a,_|⟨b,l⟩⟩<;>rw[hk]at h<;>simp at h;exact⟨a,rfl,h⟩
 have k2:∀f:Int→Int→Bool,(match t.Kids.map (·.W)with|[a,b]=>f a b|_=>false)=true→∃a b,t.Kids=[a,b]∧f a.W b.W=true:=fun f h=>by
  rcases hk:t.Kids with _|⟨a,_|⟨b,_|⟨c,l⟩⟩⟩<;>rw[hk]at h<;>simp at h;exact⟨a,b,rfl,h⟩
 have k3:∀f:Int→Int→Int→Bool,(match t.Kids.map (·.W)with|[a,b,c]=>f a b c|_=>false)=true→∃a b c,t.Kids=[a,b,c]∧f a.W b.W c.W=true:=fun f h=>by
  rcases hk:t.Kids with _|⟨a,_|⟨b,_|⟨c,_|⟨d,l⟩⟩⟩⟩<;>rw[hk]at h<;>simp at h;exact⟨a,b,c,rfl,h⟩
 by_cases o2:1≤t.Op∧t.Op≤2
 ·rw[ZoD o2]at h;obtain⟨a,ha,hf⟩:=k1 (fun a=>a==t.W) h;exact .inr (.inr (.inl ⟨by omega,a,ha,by simpa using hf⟩))
 rw[ZoC o2]at h;by_cases o3:3≤t.Op∧t.Op≤13
 ·rw[ZoD o3]at h;obtain⟨a,b,ha,hf⟩:=k2 (fun a b=>a==t.W&&b==t.W) h;simp only[ZoB,Zpf]at hf;exact .inr (.inr (.inr (.inl ⟨by omega,by omega,a,b,ha,by omega⟩)))
 rw[ZoC o3]at h;by_cases o4:14≤t.Op∧t.Op≤16
 ·rw[ZoD o4]at h;obtain⟨a,b,ha,hf⟩:=k2 (fun a b=>a==b&&t.W==1) h;simp only[ZoB,Zpf]at hf;exact .inr (.inr (.inr (.inl ⟨by omega,by omega,a,b,ha,hf.1⟩)))
 rw[ZoC o4]at h;by_cases o5:t.Op=17
 ·rw[ZoD o5]at h;obtain⟨a,b,c,ha,hf⟩:=k3 (fun a b c=>a==1&&b==t.W&&c==t.W) h;exact .inr (.inr (.inr (.inr (.inl ⟨o5,a,b,c,ha⟩))))
 rw[ZoC o5]at h;by_cases o6:t.Op=18
 ·rw[ZoD o6]at h;obtain⟨a,b,ha,hf⟩:=k2 (fun a b=>a+b==t.W) h;exact .inr (.inr (.inr (.inr (.inr (.inl ⟨o6,a,b,ha⟩)))))
 rw[ZoC o6]at h;by_cases o7:t.Op=19
 ·rw[ZoD o7]at h;obtain⟨a,ha,hf⟩:=k1 (fun a=>decide (0≤t.N∧t.N≤16)&&decide (t.N+t.W≤a)) h;simp only[ZoB,ZoJ]at hf;exact .inr (.inr (.inr (.inr (.inr (.inr (.inl ⟨o7,by omega,by omega,a,ha⟩))))))
 rw[ZoC o7]at h;by_cases o8:20≤t.Op∧t.Op≤21
 ·rw[ZoD o8]at h;obtain⟨a,ha,hf⟩:=k1 (fun a=>decide (a≤t.W)) h;exact .inr (.inr (.inr (.inr (.inr (.inr (.inr ⟨by omega,a,ha⟩))))))
 rw[ZoC o8]at h;cases h
def upI(k:Int)(L:Nat):List Int:=(List.range L).map fun(j:Nat)=>k+(j:Int)
theorem ZjQ(k:Int)(L:Nat):(upI k L).length=L:=by simp[upI]
theorem ZnA{k:Int}{L i:Nat}(h:i<L):(upI k L)[i]? =some (k+(i:Int)):=by simp[upI,h]
theorem Zfj{p:List Int}{k:Int}(hk:0≤k)(hb:k≤100000000000000000)(hp:p.length≤1048576):Xh fuel p k=some (k+p.length,upI k p.length):=by
 unfold Xh;rw[Zcb (I:=fun i s=>s=(k+(i:Int),(i:Int),pre (fun(j:Nat)=>k+(j:Int)) p i)) (m:=p.length) (r:=(k+(p.length:Int),upI k p.length)) (fun i s hi hs=>?_) (fun s hs=>?_) p.length 0 _ (by omega) (by simp[Zi3]) fuel (Yb hp)]
 ·rfl
 ·subst hs;refine⟨_,?_,rfl⟩;simp only;rw[ZoD (by rw[Zb];simp;omega),set?_nat (by rw[ZjM (by omega)];exact hi),Zj7 hi];simp only[Zo8];rw[Zm (by omega) (by omega),Zm (by omega) (by omega)];simp only[Option.some.injEq,Sum.inl.injEq,Prod.mk.injEq,Zqt];omega
 ·subst hs;simp only;rw[ZoC (by rw[Zb];simp),ZjY];rfl
theorem Zfk{L:Nat}{k:Int}(hk:0≤k)(hb:k≤100000000000000000)(hp:L≤1048576):Yt fuel (upI k L) k=some (k+L):=by
 unfold Yt;rw[Zcb (I:=fun i s=>s=(k+(i:Int),(i:Int))) (m:=L) (r:=.inl (k+(L:Int))) (fun i s hi hs=>?_) (fun s hs=>?_) L 0 _ (by omega) (by simp) fuel (Yb hp)]
 ·rfl
 ·subst hs;refine⟨_,?_,rfl⟩;simp only;rw[ZoD (by rw[Zb,ZjQ];simp;omega),get?_nat,ZnA hi];simp only[Zo8];rw[ZoC (by simp),Zm (by omega) (by omega),Zm (by omega) (by omega)];simp only[Option.some.injEq,Sum.inl.injEq,Prod.mk.injEq];omega
 ·subst hs;simp only;rw[ZoC (by rw[Zb,ZjQ];simp)]
theorem Zig{p:List D.Ins}{k:Int}(hk:0≤k)(hb:k≤100000000000000000)(hp:p.length≤1048576):∃r,ZaI fuel p k=some (k+4*p.length,r):=by
 refine⟨(List.range p.length).map fun(j:Nat)=>⟨k+4*(j:Int),k+4*(j:Int)+1,k+4*(j:Int)+2,k+4*(j:Int)+3⟩,?_⟩;unfold ZaI;rw[Zcb (I:=fun i s=>s=(k+4*(i:Int),(i:Int),pre (fun(j:Nat)=>(⟨k+4*(j:Int),k+4*(j:Int)+1,k+4*(j:Int)+2,k+4*(j:Int)+3⟩:D.Ins)) p i)) (m:=p.length) (r:=(k+4*(p.length:Int),(List.range p.length).map fun(j:Nat)=>(⟨k+4*(j:Int),k+4*(j:Int)+1,k+4*(j:Int)+2,k+4*(j:Int)+3⟩:D.Ins))) (fun i s hi hs=>?_) (fun s hs=>?_) p.length 0 _ (by omega) (by simp[Zi3]) fuel (Yb hp)]
 ·rfl
 ·subst hs;refine⟨_,?_,rfl⟩;have hl:=ZjM (f:=fun(j:Nat)=>(⟨k+4*(j:Int),k+4*(j:Int)+1,k+4*(j:Int)+2,k+4*(j:Int)+3⟩:D.Ins)) (p:=p) (i:=i) (by omega);simp only;rw[ZoD (by rw[Zb];simp;omega),get?_nat,Zni hi,ZoE hi];simp only[Zo8];rw[set?_nat (by rw[hl];exact hi)];simp only[Zo8];rw[get?_nat,ZpU (by rw[hl];exact hi)];simp only[Zo8];rw[set?_nat (by simp[hl];exact hi),List.set_set];simp only[Zo8];rw[get?_nat,ZpU (by rw[hl];exact hi)];simp only[Zo8];rw[set?_nat (by simp[hl];exact hi),List.set_set];simp only[Zo8];rw[get?_nat,ZpU (by rw[hl];exact hi)];simp only[Zo8];rw[set?_nat (by simp[hl];exact hi),List.set_set];simp only[Zo8];rw[Zm (x:=k+4*(i:Int)+1) (by omega) (by omega),Zm (x:=k+4*(i:Int)+1+1) (by omega) (by omega),Zm (x:=k+4*(i:Int)+1+1+1) (by omega) (by omega),Zm (x:=k+4*(i:Int)+1+1+1+1) (by omega) (by omega),Zm (x:=(i:Int)+1) (by omega) (by omega),←Zj7 hi];simp only[Option.some.injEq,Sum.inl.injEq,Prod.mk.injEq];refine⟨by omega,by omega,?_⟩;refine congrArg (fun q=>List.set _ i q) ?_;simp only[D.Ins.mk.injEq];refine⟨trivial,trivial,?_,?_⟩<;>omega
 ·subst hs;simp only;rw[ZoC (by rw[Zb];simp),ZjY]
theorem Zgu{x:D.Program}{k:Int}(hk:0≤k)(hb:k≤100000000000000000)(hp:x.Code.length≤1048576):∃k' r,XK fuel x k=some (k',r)∧k≤k'∧k'≤k+4194304:=by
 obtain⟨r,hr⟩:=Zig hk hb hp;unfold XK;rw[hr];exact⟨_,_,rfl,by simp only;omega,by simp only;omega⟩
theorem ZfC:∀(d:Nat)(j:Int)(s:Str),0≤j→j≤200000000000000000→j<10^d→s.bytes.length+d≤1000→∃o:Str,(∀n,d<n→iterN (fun(s1:Int×Str)=>if(decide (s1.1>0))then(rem? s1.1 10).bind fun x1=>(cat? (strOf ([(Byt.mk (IntKind.u8.wrap (w64 (48+x1))))]:List Byt)) s1.2).bind fun x2=>(quo? s1.1 10).bind fun x3=>some (.inl (x3,x2))else some (.inr (s1.2))) n (j,s)=some o)∧o.bytes.length≤1000
 |0,j,s,h0,_,h1,h2=>by
  have:j=0:=by simp at h1;omega
  subst this;exact⟨s,fun n hn=>by obtain⟨n,rfl⟩:∃m,n=m+1:=⟨n-1,by omega⟩;unfold iterN;rfl,by omega⟩
 | d+1,j,s,h0,hb,h1,h2=>by
  by_cases c:0<j
  ·have c1:decide (j>0)=true:=decide_eq_true c;have c2:rem? j 10=some (j.tmod 10):=by unfold rem?;rw[ZoC (by omega)]
   have hj:j/10<10^d:=by
    rw[Int.pow_succ]at h1;omega
   have c3:quo? j 10=some (j/10):=by
    unfold quo?;rw[ZoC (by omega),Int.tdiv_eq_ediv_of_nonneg h0,Zm (by omega) (by omega)]
   have c4:cat? (strOf ([(Byt.mk (IntKind.u8.wrap (w64 (48+j.tmod 10))))]:List Byt)) s=some ⟨(strOf ([(Byt.mk (IntKind.u8.wrap (w64 (48+j.tmod 10))))]:List Byt)).bytes++s.bytes⟩:=by
    unfold cat?;rw[ZoD (by simp[strOf];omega)]
   obtain⟨o,g1,g2⟩:=ZfC d (j/10) ⟨(strOf ([(Byt.mk (IntKind.u8.wrap (w64 (48+j.tmod 10))))]:List Byt)).bytes++s.bytes⟩ (by omega) (by omega) hj (by simp[strOf];omega);refine⟨o,fun n hn=>?_,g2⟩;obtain⟨n,rfl⟩:∃m,n=m+1:=⟨n-1,by omega⟩;unfold iterN;simp only[c1,ZoO,c2,Zo8,c4,c3];exact g1 n (by omega)
  ·have:decide (j>0)=false:=decide_eq_false c;exact⟨s,fun n hn=>by obtain⟨n,rfl⟩:∃m,n=m+1:=⟨n-1,by omega⟩;unfold iterN;simp only[this,Zo9,ZoG],by omega⟩
theorem Zl8{k:Int}(h0:0≤k)(h1:k≤200000000000000000):∃s,∀n,20≤n→Y9 n k=some s:=by
 by_cases c:k≤0
 ·refine⟨⟨[109,48]⟩,fun n _=> ?_⟩;unfold Y9;rw[ZoD (by simpa using c)]
 obtain⟨o,e1,e2⟩:=ZfC 18 k ⟨[]⟩ h0 h1 (by omega) (by simp);refine⟨⟨[109]++o.bytes⟩,fun n hn=>?_⟩;unfold Y9;rw[ZoC (by simpa using c),e1 n (by omega)];simp only[Zo8];unfold cat?;rw[ZoD (by simp;omega)];rfl
def El(M:Nat)(q:Int)(x:D.Term)(q':Int):Prop:=0≤q∧q≤100000000000000000∧∃tx ks,x=⟨q,q+1,q+2,tx,ks⟩∧(∀n,20≤n→Y9 n (q+3)=some tx)∧0≤q'∧∀m,1048580+M≤m→Zz m ks (q+4)=some q'
def Ch(M:Nat):Int→List D.Term→Int→Prop
 |q,[],e=>q=e
 |q,x::l,e=>∃q',El M q x q'∧Ch M q' l e
theorem Ch.snoc{M:Nat}{x:D.Term}{e e':Int}(h':El M e x e'):∀{l:List D.Term}{q:Int},Ch M q l e→Ch M q (l++[x]) e'
 |[],q,h=>by cases h;exact⟨e',h',rfl⟩
 |y::l,q,⟨q',h1,h2⟩=>⟨q',h1,h2.snoc h'⟩
theorem Znj{M:Nat}{l:List D.Term}{k e:Int}{m:Nat}(h:Ch M k l e)(h0:0≤k)(hl:l.length≤1048576)(hm:1048580+M≤m):Zz (m+1) l k=some e:=by
 rw[Zz];obtain ⟨r,g1,g2⟩:=ZT (l:=l) (n:=m) (σ:=Int) (ρ:=Int⊕Int) (B:=fun(s1:Int×Int)=>if (decide (s1.2<(len l)))then(get? l s1.2).bind fun x1=>if(x1.Op !=s1.1)then some (.inr (.inr (-1)))else(get? l s1.2).bind fun x2=>if(x2.W !=(w64 (s1.1+1)))then some (.inr (.inr (-1)))else(get? l s1.2).bind fun x3=>if(x3.N !=(w64 ((w64 (s1.1+1))+1)))then some (.inr (.inr (-1)))else(get? l s1.2).bind fun x4=>(Y9 m (w64 ((w64 ((w64 (s1.1+1))+1))+1))).bind fun x5=>if(!(Str.eqb x4.Name x5))then some (.inr (.inr (-1)))else(get? l s1.2).bind fun x6=>(Zz m x6.Kids (w64 ((w64 ((w64 ((w64 (s1.1+1))+1))+1))+1))).bind fun x7=>if(decide (x7<0))then some (.inr (.inr (-1)))else some (.inl (x7,(w64 (s1.2+1))))else some (.inr (.inl (s1.1)))) (fun j a=>(a,(j:Int))) (fun ys a=>Ch M a ys e) (fun r=>r= .inl e)
  (fun j x xs a hj hx hlen hch=>by
   obtain⟨q',⟨q0,q1,tx,ks,rfl,ht,hq,hh⟩,hc⟩:=hch;have hd:decide ((j:Int)<len l)=true:=by rw[Zb];simp;omega
   simp only[hd,ZoO,get?_nat,hx,Zo8];rw[Zm (x:=a+1) (by omega) (by omega),Zm (x:=a+1+1) (by omega) (by omega),Zm (x:=a+1+1+1) (by omega) (by omega),Zm (x:=a+1+1+1+1) (by omega) (by omega)];have e1:a+1+1+1=a+3:=by omega
   have e2:a+3+1=a+4:=by omega
   have e3:a+1+1=a+2:=by omega
   rw[e1,e2,e3,ht m (by omega),hh m hm];simp only[Zo8,bne_self_eq_false,Zo9,ZoG,ZaL,ZoF];rw[ZoC (by simpa using hq)]
   exact .inl ⟨q',by rw[Zm (by omega) (by omega)];rfl,hc⟩)
  (fun a hch=>by
   have hd:decide ((l.length:Int)<len l)=false:=by rw[Zb];simp
   simp only[hd,Zo9,ZoG]
   exact⟨_,rfl,by rw[show a=e from hch]⟩) (a:=k) h (by omega)
 rw[show((0:Nat):Int)=0 from rfl]at g1;rw[g1,g2];rfl
theorem ZkW:∀(n:Nat)(l:List D.Term)(k:Int),l.length+mszs l≤1048576→1048580+(l.length+mszs l)≤n→0≤k→k+4*((l.length:Int)+mszs l)≤50000000000000000→
  ∃r,ZQ n l k=some r∧k≤r.1∧r.1≤k+4*((l.length:Int)+mszs l)∧∀m,1048581+(l.length+mszs l)≤m→Zz m r.2 k=some r.1:=by
 intro n
 induction n with
 |zero=>intro l k _ h;omega
 | succ n ih=>
  intro l k hs hn h0 hb;rw[ZQ];obtain⟨r,g1,g2,g3,g4,g5⟩:=ZT (l:=l) (n:=n) (σ:=Int×List D.Term) (ρ:=Int×List D.Term) (B:=fun(s1:Int×Int×(List D.Term))=>if(decide (s1.2.1<(len l)))then(get? s1.2.2 s1.2.1).bind fun x1=>(Y9 n (w64 ((w64 ((w64 (s1.1+1))+1))+1))).bind fun x2=>(ZQ n x1.Kids (w64 ((w64 ((w64 ((w64 (s1.1+1))+1))+1))+1))).bind fun x3=>(set? s1.2.2 s1.2.1 (D.Term.mk s1.1 (w64 (s1.1+1)) (w64 ((w64 (s1.1+1))+1)) x2 x3.2)).bind fun x4=>some (.inl (x3.1,(w64 (s1.2.1+1)),x4))else some (.inr (s1.1,s1.2.2))) (fun j a=>(a.1,(j:Int),a.2))
   (fun ys a=>(∃pre,a.2=pre++ys∧pre.length+ys.length=l.length∧Ch (l.length+mszs l) k pre a.1)∧ys.length+mszs ys≤l.length+mszs l∧k≤a.1∧a.1+4*((ys.length:Int)+mszs ys)≤k+4*((l.length:Int)+mszs l))
   (fun r=>k≤r.1∧r.1≤k+4*((l.length:Int)+mszs l)∧r.2.length=l.length∧Ch (l.length+mszs l) k r.2 r.1)
   (fun j x xs a hj hx hlen⟨⟨pre,i1,i2,i6⟩,i3,i4,i5⟩=>by
    obtain⟨q,z⟩:=a;simp only at i1 i4 i5 i6⊢;have hz:=ZaV x;rw[Xj]at i3 i5;simp only[ZoP]at i2 i3 i5 hlen;have hp:pre.length=j:=by omega
    have hd:decide ((j:Int)<len l)=true:=by rw[Zb];simp;omega
    have hg:z[j]? =some x:=by rw[i1,ZoX (by omega),hp,ZpJ];rfl
    simp only[hd,ZoO,get?_nat,hg,Zo8];rw[Zm (x:=q+1) (by omega) (by omega),Zm (x:=q+1+1) (by omega) (by omega),Zm (x:=q+1+1+1) (by omega) (by omega),Zm (x:=q+1+1+1+1) (by omega) (by omega)];obtain⟨tx,ht⟩:=Zl8 (k:=q+1+1+1) (by omega) (by omega);obtain⟨⟨k3,r3⟩,m1,m2,m3,m4⟩:=ih x.Kids (q+1+1+1+1) (by omega) (by omega) (by omega) (by omega);simp only at m2 m3 m4;rw[ht n (by omega)];simp only[Zo8];rw[m1];simp only[Zo8];rw[set?_nat (by rw[i1];simp;omega)];have e1:q+1+1+1=q+3:=by omega
    have e2:q+1+1+1+1=q+4:=by omega
    have e3:q+1+1=q+2:=by omega
    rw[e2]at m4;rw[e1]at ht;refine .inl ⟨(k3,z.set j (D.Term.mk q (q+1) (q+1+1) tx r3)),by simp only[Zo8];rw[Zm (by omega) (by omega)];rfl,⟨pre++[D.Term.mk q (q+1) (q+1+1) tx r3],?_,by simp;omega,i6.snoc ⟨by omega,by omega,tx,r3,by rw[e3],ht,by omega,fun m hm=>m4 m (by omega)⟩⟩,by omega,by show k≤k3;omega,by show k3+_≤_;omega⟩;show z.set j _=_
    rw[i1,ZpR _ _ (by omega),hp,ZpJ];simp)
   (fun a⟨⟨pre,j1,j2,j3⟩,_,i4,i5⟩=>by
    have hd:decide ((l.length:Int)<len l)=false:=by rw[Zb];simp
    simp only[hd,Zo9,ZoG];rw[ZcH]at i5;simp only[Zpv]at i5 j2;rw[ZpD]at j1
    exact⟨_,rfl,i4,by omega,by rw[j1];omega,by rw[j1];exact j3⟩) (a:=(k,l)) ⟨⟨[],rfl,by simp,rfl⟩,by omega,by show k≤k;omega,by show k+_≤_;omega⟩ (by omega)
  rw[show((0:Nat):Int)=0 from rfl]at g1;rw[g1];refine⟨_,rfl,g2,g3,fun m hm=>?_⟩;obtain⟨m,rfl⟩:∃m',m=m'+1:=⟨m-1,by omega⟩;exact Znj g5 h0 (by show r.2.length≤_;omega) (by omega)
def sg(a b:Int):Int:=if a<b then-1 else if a>b then 1 else 0
def ss(a b:Str):Int:=if a=b then 0 else if Str.ltb a b=true then-1 else 1
mutual
def ctm:D.Term→D.Term→Int
 |⟨o,w,m,s,k⟩,t=>if sg o t.Op≠0 then sg o t.Op else if sg w t.W≠0 then sg w t.W else if sg m t.N≠0 then sg m t.N else if ss s t.Name≠0 then ss s t.Name else cts k t.Kids
def cts:List D.Term→List D.Term→Int
 |[],l=>sg 0 l.length
 |_::_,[]=>1
 |x::l,y::m=>if ctm x y≠0 then ctm x y else cts l m
end
theorem Zdf(a t:D.Term):ctm a t=if sg a.Op t.Op≠0 then sg a.Op t.Op else if sg a.W t.W≠0 then sg a.W t.W else if sg a.N t.N≠0 then sg a.N t.N else if ss a.Name t.Name≠0 then ss a.Name t.Name else cts a.Kids t.Kids:=by cases a;rw[ctm]
theorem Zex(l:List D.Term):cts [] l=sg 0 l.length:=by rw[cts]
theorem Zf9(x:D.Term)(l:List D.Term):cts (x::l) []=1:=by rw[cts]
theorem Zen(x y:D.Term)(l m:List D.Term):cts (x::l) (y::m)=if ctm x y≠0 then ctm x y else cts l m:=by rw[cts]
theorem Zjn(a b:Int):sg b a=-sg a b:=by unfold sg;split<;>split<;>(try split)<;>omega
theorem ZnW(a b:Str):ss b a=-ss a b:=by
 unfold ss;by_cases e:a=b
 ·rw[ZoD e,ZoD e.symm];rfl
 rw[ZoC e,ZoC fun h=>e h.symm];cases h:Str.ltb a b
 ·rw[Zmp h e];rfl
 ·have:Str.ltb b a=false:=by
   cases h2:Str.ltb b a
   ·rfl
   ·have:=lt_trans h h2;rw[Zll]at this;cases this
  rw[this];rfl
theorem Zhq(a b:Int):sg a b=-1∨sg a b=0∨sg a b=1:=by unfold sg;split<;>(try split)<;>simp
theorem Znq(a b:Str):ss a b=-1∨ss a b=0∨ss a b=1:=by unfold ss;split<;>(try split)<;>simp
theorem Zmh:∀n:Nat,(∀a b:D.Term,msz a<n→ctm b a=-ctm a b∧(ctm a b=-1∨ctm a b=0∨ctm a b=1))∧∀l m:List D.Term,l.length+mszs l<n→cts m l=-cts l m∧(cts l m=-1∨cts l m=0∨cts l m=1):=by
 intro n
 induction n with
 |zero=>exact⟨fun _ _ h=>by omega,fun _ _ h=>by omega⟩
 | succ n ih=>
  have hl:∀l m:List D.Term,l.length+mszs l<n+1→cts m l=-cts l m∧(cts l m=-1∨cts l m=0∨cts l m=1):=by
   intro l m h;cases l with
   |nil=>
    cases m with
    |nil=>rw[Zex];decide
    |cons y m=>rw[Zex,Zf9];unfold sg;simp
   | cons x l=>
    cases m with
    |nil=>rw[Zex,Zf9];unfold sg;simp
    |cons y m=>
     rw[Xj]at h;simp only[ZoP]at h;obtain⟨a1,a2⟩:=ih.1 x y (by omega);obtain⟨b1,b2⟩:=ih.2 l m (by omega);rw[Zen,Zen,a1];by_cases e:ctm x y=0
     ·rw[e];simpa using⟨b1,b2⟩
     ·rw[ZoD (by omega),ZoD e];exact⟨rfl,a2⟩
  refine⟨fun a b h=>?_,hl⟩;have hz:=ZaV a;obtain⟨b1,b2⟩:=hl a.Kids b.Kids (by omega);rw[Zdf,Zdf,Zjn a.Op,Zjn a.W,Zjn a.N,ZnW a.Name,b1];have h1:=Zhq a.Op b.Op;have h2:=Zhq a.W b.W;have h3:=Zhq a.N b.N;have h4:=Znq a.Name b.Name;by_cases e1:sg a.Op b.Op=0
  ·by_cases e2:sg a.W b.W=0
   ·by_cases e3:sg a.N b.N=0
    ·by_cases e4:ss a.Name b.Name=0
     ·simp[e1,e2,e3,e4,b2]
     ·simp[e1,e2,e3,e4];omega
    ·simp[e1,e2,e3];omega
   ·simp[e1,e2];omega
  ·simp[e1];omega
theorem Znz(a b:D.Term):ctm b a=-ctm a b:=((Zmh (msz a+1)).1 a b (by omega)).1
theorem Zgh(a b:D.Term):ctm a b=-1∨ctm a b=0∨ctm a b=1:=((Zmh (msz a+1)).1 a b (by omega)).2
theorem ZnE:∀x y:List UInt8,Lib.compareBytes x y=if x=y then 0 else if Op.bytesLess x y=true then-1 else 1
 |[],[]=>by simp[Lib.compareBytes]
 |[],_::_=>by simp[Lib.compareBytes,Op.bytesLess]
 |_::_,[]=>by simp[Lib.compareBytes,Op.bytesLess]
 | a ::x,b::y=>by
  rw[Lib.compareBytes,ZnE x y];by_cases h1:a<b
  ·have:a≠b:=fun e=>by subst e;exact absurd h1 (UInt8.lt_irrefl a)
   simp[h1,this,Op.bytesLess]
  ·by_cases h2:b<a
   ·have:a≠b:=fun e=>by subst e;exact absurd h2 (UInt8.lt_irrefl a)
    simp[h1,h2,this,Op.bytesLess]
   ·have:a=b:=by
     have h3:¬a.toNat<b.toNat:=h1;have h4:¬b.toNat<a.toNat:=h2;exact UInt8.toNat_inj.1 (by omega)
    subst this;simp[h1,Op.bytesLess]
theorem ZmQ(a b:Str):strings_Compare a b=some (ss a b):=by
 unfold strings_Compare ss;rw[ZnE,ZhH];have:(a.bytes=b.bytes)=(a=b):=by
  cases a;cases b;simp
 simp only[this]
theorem Zn1(a b:Int):X0 a b=some (sg a b):=by
 unfold X0 sg;by_cases h1:a<b
 ·simp[h1]
 ·by_cases h2:a>b<;>simp[h1,h2]
theorem Znn(a b:Int):Y5 a b=some (sg a b):=by
 unfold Y5 Zat sg;by_cases h1:a<b
 ·simp[h1]
 ·by_cases h2:a>b<;>simp[h1,h2]
theorem ZiO(x y z:Int){n:Nat}(hn:4≤n):iterN (fun(s1:Int)=>if(decide (s1<(len ([x,y,z]:List Int))))then(get? ([x,y,z]:List Int) s1).bind fun x4=>if(x4 !=0)then some (.inr (.inr x4))else some (.inl ((w64 (s1+1))))else some (.inr (.inl ()))) n 0=some (if x≠0 then(.inr x:Unit⊕Int)else if y≠0 then .inr y else if z≠0 then .inr z else .inl ()):=by
 obtain⟨n,rfl⟩:∃m,n=m+4:=⟨n-4,by omega⟩;by_cases h1:x=0
 ·by_cases h2:y=0
  ·by_cases h3:z=0
   ·subst h1 h2 h3;rfl
   ·subst h1 h2;simp[iterN,Zb,get?,h3,Zm]
  ·subst h1;simp[iterN,Zb,get?,h2,Zm]
 ·simp[iterN,Zb,get?,h1]
theorem Zdj:∀(n:Nat)(a b:D.Term),msz a≤1048576→1048580+cnt a≤n→ZK n a b=some (ctm a b):=by
 intro n
 induction n with
 |zero=>intro a b _ _;omega
 | succ n ih=>
  intro a b hs hn;have hz:=ZaV a;have hc:=Za3 a;unfold ZK;simp only[Zn1,Zo8,ZiO _ _ _ (show 4≤n by omega)];rw[Zdf];by_cases e1:sg a.Op b.Op=0;rotate_left
  ·simp[e1]
  by_cases e2:sg a.W b.W=0;rotate_left
  ·simp[e1,e2]
  by_cases e3:sg a.N b.N=0;rotate_left
  ·simp[e1,e2,e3]
  simp only[e1,e2,e3,ne_eq,not_true_eq_false,ZoG];by_cases e4:a.Name=b.Name;rotate_left
  ·have:Str.eqb a.Name b.Name=false:=by rw[Zd3];simpa using e4
   simp only[this,Zpr,ZoO];unfold ss;rw[ZoC e4];cases Str.ltb a.Name b.Name<;>simp
  have:Str.eqb a.Name b.Name=true:=by rw[Zd3];simpa using e4
  have e5:ss a.Name b.Name=0:=by unfold ss;rw[ZoD e4]
  simp only[this,e5,ZoF,Zo9,not_true_eq_false,ZoG];obtain⟨r,g1,g2⟩:=ZT (l:=a.Kids) (n:=n) (σ:=Unit) (ρ:=Unit⊕Int) (B:=fun(s2:Int)=>if (decide (s2<(len a.Kids)))then(get? a.Kids s2).bind fun x5=>if(s2==(len b.Kids))then some (.inr (.inr 1))else(get? b.Kids s2).bind fun x6=>(ZK n x5 x6).bind fun x7=>if(x7 !=0)then some (.inr (.inr x7))else some (.inl ((w64 (s2+1))))else some (.inr (.inl ()))) (fun k _=>(k:Int)) (fun ys _=>a.Kids.length-ys.length≤b.Kids.length∧ys.length≤a.Kids.length∧cts ys (b.Kids.drop (a.Kids.length-ys.length))=cts a.Kids b.Kids∧∀x∈ys,x∈a.Kids)
    (fun r=>(r= .inl ()∧sg a.Kids.length b.Kids.length=cts a.Kids b.Kids)∨r= .inr (cts a.Kids b.Kids))
    (fun k x xs _ hk' hx hlen⟨i0,i1,i2,i3⟩=>by
     have hm:=Zax (i3 x (by simp));have hcm:=ZcI (i3 x (by simp));have hk:a.Kids.length-(x::xs).length=k:=by omega
     rw[hk]at i0 i2;have hd:decide ((k:Int)<len a.Kids)=true:=by rw[Zb];simp;omega
     simp only[hd,ZoO,get?_nat,hx,Zo8];by_cases hb:k=b.Kids.length
     ·refine .inr ⟨.inr 1,by rw[Zb];simp[hb],.inr ?_⟩;rw[←i2,hb,List.drop_length,Zf9]
     ·have hbk:k<b.Kids.length:=by omega
      have hy:b.Kids[k]? =some b.Kids[k]:=ZoE hbk;have hbeq:((k:Int)==len b.Kids)=false:=by rw[Zb];simp;omega
      rw[ZoN hbk,Zen]at i2;simp only[hbeq,Zo9,ZoG,hy,Zo8];rw[ih x b.Kids[k] (by omega) (by omega)];simp only[Zo8];by_cases e:ctm x b.Kids[k]=0
      ·rw[e]at i2⊢;refine .inl ⟨(),by rw[Zm (by omega) (by omega)];rfl,by simp at hlen;omega,by simp at hlen;omega,?_,fun y hy=>i3 y (by simp[hy])⟩;have:a.Kids.length-xs.length=k+1:=by simp at hlen;omega
       rw[this];simpa using i2
      ·refine .inr ⟨.inr (ctm x b.Kids[k]),by simp[e],.inr ?_⟩
       rw[←i2,ZoD e])
    (fun _⟨i0,i1,i2,_⟩=>by
     have hd:decide ((a.Kids.length:Int)<len a.Kids)=false:=by rw[Zb];simp
     simp only[hd,Zo9,ZoG];refine⟨.inl (),rfl,.inl ⟨rfl,?_⟩⟩;rw[←i2,Zex];simp only[Zpv,ZqJ,Zqi]at i0⊢;unfold sg
     split<;>split<;>(try split)<;>(try split)<;>omega) (a:=()) ⟨by omega,by omega,by rw[ZpJ];rfl,fun x hx=>hx⟩ (by omega)
  rw[show((0:Nat):Int)=0 from rfl]at g1;rw[g1];rcases g2 with⟨rfl,g2⟩|rfl
  ·simp only[Zo8,Zb,g2]
  ·rfl
theorem Zdg:∀(n:Nat)(a b:D.Term),msz a≤1048576→1048580+cnt a≤n→ZL n a b=some (ctm a b):=by
 intro n
 induction n with
 |zero=>intro a b _ _;omega
 | succ n ih=>
  intro a b hs hn;have hz:=ZaV a;have hc:=Za3 a;unfold ZL;simp only[Znn,ZmQ,Zo8];rw[Zdf];by_cases e1:sg a.Op b.Op=0;rotate_left
  ·simp[e1]
  by_cases e2:sg a.W b.W=0;rotate_left
  ·simp[e1,e2]
  by_cases e3:sg a.N b.N=0;rotate_left
  ·simp[e1,e2,e3]
  by_cases e4:ss a.Name b.Name=0;rotate_left
  ·simp[e1,e2,e3,e4]
  simp only[e1,e2,e3,e4,ne_eq,not_true_eq_false,ZoG,bne_self_eq_false,Zo9];obtain⟨r,g1,g2⟩:=ZT (l:=a.Kids) (n:=n) (σ:=Unit) (ρ:=Unit⊕Int) (B:=fun(s1:Int)=>if((decide (s1<(len a.Kids)))&&(decide (s1<(len b.Kids))))then(get? a.Kids s1).bind fun x5=>(get? b.Kids s1).bind fun x6=>(ZL n x5 x6).bind fun x7=>if(x7 !=0)then some (.inr (.inr x7))else some (.inl ((w64 (s1+1))))else some (.inr (.inl ()))) (fun k _=>(k:Int)) (fun ys _=>a.Kids.length-ys.length≤b.Kids.length∧ys.length≤a.Kids.length∧cts ys (b.Kids.drop (a.Kids.length-ys.length))=cts a.Kids b.Kids∧∀x∈ys,x∈a.Kids)
    (fun r=>(r= .inl ()∧sg a.Kids.length b.Kids.length=cts a.Kids b.Kids)∨r= .inr (cts a.Kids b.Kids))
    (fun k x xs _ hk' hx hlen⟨i0,i1,i2,i3⟩=>by
     have hm:=Zax (i3 x (by simp));have hcm:=ZcI (i3 x (by simp));have hk:a.Kids.length-(x::xs).length=k:=by omega
     rw[hk]at i0 i2;have hd:decide ((k:Int)<len a.Kids)=true:=by rw[Zb];simp;omega
     by_cases hb:k=b.Kids.length
     ·refine .inr ⟨.inl (),by rw[Zb,Zb];simp[hb],.inl ⟨rfl, ?_⟩⟩;rw[←i2,hb,List.drop_length,Zf9];unfold sg;rw[ZoC (by omega),ZoD (by omega)]
     ·have hbk:k<b.Kids.length:=by omega
      have hy:b.Kids[k]? =some b.Kids[k]:=ZoE hbk;have hd2:decide ((k:Int)<len b.Kids)=true:=by rw[Zb];simp;omega
      rw[ZoN hbk,Zen]at i2;simp only[hd,hd2,Zp6,ZoO,get?_nat,hx,hy,Zo8];rw[ih x b.Kids[k] (by omega) (by omega)];simp only[Zo8];by_cases e:ctm x b.Kids[k]=0
      ·rw[e]at i2⊢;refine .inl ⟨(),by rw[Zm (by omega) (by omega)];rfl,by simp at hlen;omega,by simp at hlen;omega,?_,fun y hy=>i3 y (by simp[hy])⟩;have:a.Kids.length-xs.length=k+1:=by simp at hlen;omega
       rw[this];simpa using i2
      ·refine .inr ⟨.inr (ctm x b.Kids[k]),by simp[e],.inr ?_⟩
       rw[←i2,ZoD e])
    (fun _⟨i0,i1,i2,_⟩=>by
     have hd:decide ((a.Kids.length:Int)<len a.Kids)=false:=by rw[Zb];simp
     simp only[hd,Zpk,Zo9,ZoG];refine⟨.inl (),rfl,.inl ⟨rfl,?_⟩⟩;rw[←i2,Zex];simp only[Zpv,ZqJ,Zqi]at i0⊢;unfold sg
     split<;>split<;>(try split)<;>(try split)<;>omega) (a:=()) ⟨by omega,by omega,by rw[ZpJ];rfl,fun x hx=>hx⟩ (by omega)
  rw[show((0:Nat):Int)=0 from rfl]at g1;rw[g1];rcases g2 with⟨rfl,g2⟩|rfl
  ·simp only[Zo8,Zb,g2]
  ·rfl
theorem Zbw{n:Nat}{a b:D.Term}(h1:msz a≤1048576)(h2:1048580+cnt a≤n):ZN n a b=some (ctm a b==0):=by
 unfold ZN;rw[Zdj n a b h1 h2];rfl
theorem Zbu{n:Nat}{a b:D.Term}(h1:msz a≤1048576)(h2:1048580+cnt a≤n):ZO n a b=some (ctm a b==0):=by
 unfold ZO;rw[Zdg n a b h1 h2];rfl
theorem Zdu{x:Int}(h0:0≤x)(h1:x<65536):(BitVec.ofInt 64 x).toNat=x.toNat:=by
 rw[BitVec.toNat_ofInt];rw[Int.emod_eq_of_lt h0 (by omega)]
theorem ZeD{w:Int}(h1:1≤w)(h2:w≤16):(2:Int)^w.toNat=((2^w.toNat:Nat):Int)∧(2^w.toNat:Nat)≤65536∧2≤(2^w.toNat:Nat):=by
 rcases Zfi h1 h2 with rfl|rfl|rfl|rfl|rfl|rfl|rfl|rfl|rfl|rfl|rfl|rfl|rfl|rfl|rfl|rfl<;>decide
theorem Zng{w a b:Int}(h1:1≤w)(h2:w≤16)(ha:wordB w a=true)(hb:wordB w b=true):wordB w (band a b)=true∧wordB w (bor a b)=true∧wordB w (bxor a b)=true:=by
 obtain⟨p1,p2,p3⟩:=ZeD h1 h2;rw[Yf h1 h2]at ha hb;rw[p1]at ha hb;have ea:=Zdu ha.1 (by omega);have eb:=Zdu hb.1 (by omega);have la:a.toNat<2^w.toNat:=by omega
 have lb:b.toNat<2^w.toNat:=by omega
 refine⟨?_,?_,?_⟩<;>rw[Yf h1 h2,p1]
 ·unfold band;rw[BitVec.toNat_and,ea,eb];have:=Nat.and_lt_two_pow a.toNat lb;rw[Zm (by omega) (by omega)];omega
 ·unfold bor;rw[BitVec.toNat_or,ea,eb];have:=Nat.or_lt_two_pow la lb;rw[Zm (by omega) (by omega)];omega
 ·unfold bxor;rw[BitVec.toNat_xor,ea,eb];have:=Nat.xor_lt_two_pow la lb;rw[Zm (by omega) (by omega)];omega
theorem Zba{w:Int}(h1:1≤w)(h2:w≤16)(v:Int):wordB w (wordOf w v)=true:=by
 have h:=Yo w v;obtain⟨p1,p2,p3⟩:=ZeD h1 h2;obtain⟨a1,_,a3,_,_⟩:=Zb3 h1 h2;unfold Yl Zj at h;have e:(decide (w≥1)&&decide (w≤16))=true:=by simp;omega
 simp only[e,Zo8,ZoF,Zo9,ZoG,a1,Option.some.injEq]at h;rw[a3]at h;rw[←h,Yf h1 h2,p1];unfold band;rw[BitVec.toNat_and,Zdu (x:=((2^w.toNat:Nat):Int)-1) (by omega) (by omega)];have:=Nat.and_le_right (n:=(BitVec.ofInt 64 v).toNat) (m:=(((2^w.toNat:Nat):Int)-1).toNat);rw[Zm (by omega) (by omega)];omega
theorem ZcV{w a:Int}(h:wordB w a=true):ZI w a=some true:=by rw[Xb,h]
theorem ZfZ(b:Bool):wordB 1 (if b=true then 1 else 0)=true:=by cases b<;>decide
theorem Zo2{op w a r:Int}(h:Xc op w a=some r)(ho:op=1∨op=2)(ha:wordB w a=true):wordB w r=true:=by
 obtain⟨h1,h2⟩:=Yp ha;obtain⟨a1,_,a3,a4,a5⟩:=Zb3 h1 h2;unfold Xc at h;simp only[ZcV ha,Zo8,ZoF,Zo9,ZoG,Yo]at h;have hv:=(Yf h1 h2 a).1 ha;rcases ho with rfl|rfl
 ·simp only[Zpw,ZoO,a1,Zo8,Option.some.injEq]at h;rw[a3,Zm (by omega) (by omega)]at h;rw[Yf h1 h2];omega
 ·simp at h;rw[←h];exact Zba h1 h2 _
theorem Zlr{op w a b r:Int}(h:Yu op w a b=some r)(ha:wordB w a=true)(hb:wordB w b=true):(3≤op∧op≤13→wordB w r=true)∧(14≤op∧op≤16→wordB 1 r=true):=by
 obtain⟨h1,h2⟩:=Yp ha;obtain⟨a1,_,a3,a4,a5⟩:=Zb3 h1 h2;obtain⟨b1,b2,b3⟩:=Zng h1 h2 ha hb;have hv:=(Yf h1 h2 a).1 ha;have hu:=(Yf h1 h2 b).1 hb;unfold Yu at h;simp only[ZcV ha,ZcV hb,Zo8,ZoF,Zo9,ZoG,ZpL,Yo,(Zgi _).1]at h;refine⟨fun⟨g1,g2⟩=>?_,fun⟨g1,g2⟩=>?_⟩
 ·have:op=3∨op=4∨op=5∨op=6∨op=7∨op=8∨op=9∨op=10∨op=11∨op=12∨op=13:=by omega
  rcases this with rfl|rfl|rfl|rfl|rfl|rfl|rfl|rfl|rfl|rfl|rfl
  ·simp at h;rw[←h];exact Zba h1 h2 _
  ·simp at h;rw[←h];exact Zba h1 h2 _
  ·simp at h;rw[←h];exact Zba h1 h2 _
  ·simp only[show((6:Int)==3)=false from rfl,show((6:Int)==4)=false from rfl,show((6:Int)==5)=false from rfl,Zpw,Zo9,ZoG,ZoO]at h;by_cases e:b=0
   ·subst e;simp only[Zpw,ZoO,a1,Zo8,Option.some.injEq]at h;rw[a3]at h;rw[Yf h1 h2];omega
   ·have e':(b==0)=false:=by simpa using e
    unfold quo? at h;simp only[e',Zo9,ZoG,e,Zo8,Option.some.injEq]at h;have q1:=Int.tdiv_nonneg hv.1 hu.1;have q2:=Int.tdiv_le_self b hv.1;rw[Zm (by omega) (by omega)]at h;rw[Yf h1 h2];omega
  ·simp only[show((7:Int)==3)=false from rfl,show((7:Int)==4)=false from rfl,show((7:Int)==5)=false from rfl,show((7:Int)==6)=false from rfl,Zpw,Zo9,ZoG,ZoO]at h;by_cases e:b=0
   ·subst e;simp at h;rw[←h];exact ha
   ·have e':(b==0)=false:=by simpa using e
    unfold rem? at h;simp only[e',Zo9,ZoG,e,Zo8,Option.some.injEq]at h;have q1:=Int.tmod_nonneg b hv.1;have q2:=Int.tmod_lt_of_pos a (show 0<b by omega);rw[Yf h1 h2];omega
  ·simp at h;rw[←h];exact b1
  ·simp at h;rw[←h];exact b2
  ·simp at h;rw[←h];exact b3
  ·simp only[show((11:Int)==3)=false from rfl,show((11:Int)==4)=false from rfl,show((11:Int)==5)=false from rfl,show((11:Int)==6)=false from rfl,show((11:Int)==7)=false from rfl,show((11:Int)==8)=false from rfl,show((11:Int)==9)=false from rfl,show((11:Int)==10)=false from rfl,Zpw,Zo9,ZoG,ZoO]at h;by_cases e:b≥w
   ·simp[e]at h;rw[←h,Yf h1 h2];omega
   ·rw[ZoC (by simpa using e),Zhr _ hu.1]at h;simp at h;rw[←h];exact Zba h1 h2 _
  ·simp only[show((12:Int)==3)=false from rfl,show((12:Int)==4)=false from rfl,show((12:Int)==5)=false from rfl,show((12:Int)==6)=false from rfl,show((12:Int)==7)=false from rfl,show((12:Int)==8)=false from rfl,show((12:Int)==9)=false from rfl,show((12:Int)==10)=false from rfl,show((12:Int)==11)=false from rfl,Zpw,Zo9,ZoG,ZoO]at h;by_cases e:b≥w
   ·simp[e]at h;rw[←h,Yf h1 h2];omega
   ·rw[ZoC (by simpa using e),ZdW _ hu.1]at h;simp only[Zo8,Option.some.injEq]at h;have hp:(0:Int)<2^min b.toNat 64:=ZqV (by omega);rw[Zq0 _ (by omega)]at h;have q1:=Int.ediv_nonneg hv.1 (show(0:Int)≤2^min b.toNat 64 by omega);have q2:=Int.ediv_le_self (2^min b.toNat 64) hv.1;rw[Yf h1 h2];omega
  ·simp only[ZbB,Zo8]at h;simp only[show((13:Int)==3)=false from rfl,show((13:Int)==4)=false from rfl,show((13:Int)==5)=false from rfl,show((13:Int)==6)=false from rfl,show((13:Int)==7)=false from rfl,show((13:Int)==8)=false from rfl,show((13:Int)==9)=false from rfl,show((13:Int)==10)=false from rfl,show((13:Int)==11)=false from rfl,show((13:Int)==12)=false from rfl,Zpw,Zo9,ZoG,ZoO]at h;rw[Zp3]at h;obtain⟨x,_,h⟩:=h;simp at h;rw[←h];exact Zba h1 h2 _
 ·have:op=14∨op=15∨op=16:=by omega
  rcases this with rfl|rfl|rfl
  ·simp at h;rw[←h];exact by have:=ZfZ (decide (a=b));simpa using this
  ·simp at h;rw[←h];exact by have:=ZfZ (decide (a<b));simpa using this
  ·simp[ZbB]at h;rw[←h];exact by have:=ZfZ (decide (signedOf w a<signedOf w b));simpa using this
theorem Zny{w a v b r:Int}(h:Xw w a v b=some r)(ha:wordB w a=true)(hb:wordB v b=true)(hs:w+v≤16):wordB (w+v) r=true:=by
 obtain⟨h1,h2⟩:=Yp ha;obtain⟨h3,h4⟩:=Yp hb;have hv:=(Yf h1 h2 a).1 ha;have hu:=(Yf h3 h4 b).1 hb;unfold Xw at h;simp only[ZcV ha,ZcV hb,Zo8,ZoF,Zo9,ZoG,ZpL,ZoW]at h;rw[Zm (by omega) (by omega),ZoC (by simp;omega),Zhr _ (by omega)]at h;have hm:min v.toNat 64=v.toNat:=by omega
 rw[hm]at h;obtain⟨p1,p2,p3⟩:=ZeD h1 h2;obtain⟨q1,q2,q3⟩:=ZeD h3 h4;obtain⟨s1,s2,s3⟩:=ZeD (w:=w+v) (by omega) hs;have hadd:(2:Int)^(w+v).toNat=2^w.toNat*2^v.toNat:=by
  rw[show(w+v).toNat=w.toNat+v.toNat by omega,Int.pow_add]
 have hbig:(2:Int)^(w+v).toNat≤65536:=by rw[s1];omega
 have hmul:(a+1)*2^v.toNat≤2^w.toNat*2^v.toNat:=Int.mul_le_mul_of_nonneg_right (by omega) (by omega);have hnn:0≤a*2^v.toNat:=Int.mul_nonneg hv.1 (by omega);rw[Int.add_mul,Int.one_mul]at hmul;rw[Yf (by omega) hs,hadd];rw[hadd]at hbig;rw[Zm (x:=a*2^v.toNat) (by omega) (by omega)]at h;simp only[Zo8,Option.some.injEq]at h;rw[Zm (by omega) (by omega)]at h;omega
theorem Zom{w a l n r:Int}(h:XV w a l n=some r)(ha:wordB w a=true)(hl:0≤l)(hn:1≤n)(hs:l+n≤w):wordB n r=true:=by
 obtain⟨h1,h2⟩:=Yp ha;unfold XV at h;simp only[ZcV ha,Zo8,Yo]at h;rw[Zm (by omega) (by omega),ZoC (by simp;omega),ZdW _ hl]at h;simp only[Zo8,Option.some.injEq]at h;rw[←h];exact Zba hn (by omega) _
theorem ZmP{w a n r:Int}{s:Bool}(h:Xp w a n s=some r)(ha:wordB w a=true)(hs:w≤n)(hn:n≤16):wordB n r=true:=by
 obtain⟨h1,h2⟩:=Yp ha;have hv:=(Yf h1 h2 a).1 ha;unfold Xp at h;simp only[ZcV ha,Zo8,Yo,ZbB]at h;rw[ZoC (by simp;omega)]at h;cases s
 ·simp at h;rw[←h,Yf (by omega) hn];have:(2:Int)^n.toNat=2^w.toNat*2^(n-w).toNat:=by rw[←Int.pow_add];congr 1;omega
  have hp:(0:Int)<2^(n-w).toNat:=ZqV (by omega);have hp2:(0:Int)<2^w.toNat:=ZqV (by omega);have:=Int.mul_le_mul_of_nonneg_left (show(1:Int)≤2^(n-w).toNat by omega) (show(0:Int)≤2^w.toNat by omega);omega
 ·simp at h;rw[←h];exact Zba (by omega) hn _
theorem XU{op w m:Int}{nm:Str}{ks:List D.Term}(h:nodeB ⟨op,w,m,nm,ks⟩=true):(1≤w∧w≤16)∧((op=0∧ks=[]∧nm=⟨[]⟩∧wordB w m=true)∨(op=22∧ks=[]∧m=0)∨((op=1∨op=2)∧m=0∧nm=⟨[]⟩∧∃a,ks=[a]∧nodeB a=true∧a.W=w)∨(3≤op∧op≤16∧m=0∧nm=⟨[]⟩∧∃a b,ks=[a,b]∧nodeB a=true∧nodeB b=true∧a.W=b.W∧(op≤13→a.W=w)∧(14≤op→w=1))∨(op=17∧m=0∧nm=⟨[]⟩∧∃a b c,ks=[a,b,c]∧nodeB a=true∧nodeB b=true∧nodeB c=true∧a.W=1∧b.W=w∧c.W=w)∨(op=18∧m=0∧nm=⟨[]⟩∧∃a b,ks=[a,b]∧nodeB a=true∧nodeB b=true∧a.W+b.W=w)∨(op=19∧nm=⟨[]⟩∧0≤m∧m≤16∧∃a,ks=[a]∧nodeB a=true∧m+w≤a.W)∨((op=20∨op=21)∧m=0∧nm=⟨[]⟩∧∃a,ks=[a]∧nodeB a=true∧a.W≤w)):=by
 rw[X6,ZoB]at h;obtain⟨h,hk⟩:=h;unfold locB at h;simp only[ZoB,ZoJ,Zp1,Zpf,Zd3]at h;obtain⟨⟨⟨hw,hn⟩,hm⟩,h⟩:=h;refine⟨hw,?_⟩;simp only at hk;unfold shB at h;by_cases o0:op=0
 ·rw[ZoD o0]at h;simp only[ZoB,ZpT,Zqj]at h;exact .inl ⟨o0,h.1,by rcases hn with hn|hn;exact hn;omega,h.2⟩
 rw[ZoC o0]at h;by_cases o1:op=22
 ·rw[ZoD o1]at h;simp only[ZoB,ZpT,Zqj]at h;exact .inr (.inl ⟨o1,h.1,by omega⟩)
 rw[ZoC o1]at h;have hn:nm=⟨[]⟩:=by rcases hn with hn|hn;exact hn;exact absurd hn o1
 have hm:op≠19→m=0:=fun o=>by omega
 clear o0 o1;have k1:∀f:Int→Bool,(match ks.map (·.W)with|[a]=>f a|_=>false)=true→∃a,ks=[a]∧nodeB a=true∧f a.W=true:=fun f h=>by
  rcases ks with _|⟨a,_|⟨b,l⟩⟩<;>simp at h;rw[Yc]at hk;simp at hk;exact⟨a,rfl,hk,h⟩
 have k2:∀f:Int→Int→Bool,(match ks.map (·.W)with|[a,b]=>f a b|_=>false)=true→∃a b,ks=[a,b]∧nodeB a=true∧nodeB b=true∧f a.W b.W=true:=fun f h=>by
  rcases ks with _|⟨a,_|⟨b,_|⟨c,l⟩⟩⟩<;>simp at h;rw[Yc]at hk;simp at hk;exact⟨a,b,rfl,hk.1,hk.2,h⟩
 have k3:∀f:Int→Int→Int→Bool,(match ks.map (·.W)with|[a,b,c]=>f a b c|_=>false)=true→∃a b c,ks=[a,b,c]∧nodeB a=true∧nodeB b=true∧nodeB c=true∧f a.W b.W c.W=true:=fun f h=>by
  rcases ks with _|⟨a,_|⟨b,_|⟨c,_|⟨d,l⟩⟩⟩⟩<;>simp at h;rw[Yc]at hk;simp at hk;exact⟨a,b,c,rfl,hk.1,hk.2.1,hk.2.2,h⟩
 by_cases o2:1≤op∧op≤2
 ·rw[ZoD o2]at h;obtain⟨a,ha,hb,hf⟩:=k1 (fun a=>a==w) h;exact .inr (.inr (.inl ⟨by omega,hm (by omega),hn,a,ha,hb,by simpa using hf⟩))
 rw[ZoC o2]at h;by_cases o3:3≤op∧op≤13
 ·rw[ZoD o3]at h;obtain⟨a,b,ha,hb,hc,hf⟩:=k2 (fun a b=>a==w&&b==w) h;simp only[ZoB,Zpf]at hf;exact .inr (.inr (.inr (.inl ⟨by omega,by omega,hm (by omega),hn,a,b,ha,hb,hc,by omega,by omega,by omega⟩)))
 rw[ZoC o3]at h;by_cases o4:14≤op∧op≤16
 ·rw[ZoD o4]at h;obtain⟨a,b,ha,hb,hc,hf⟩:=k2 (fun a b=>a==b&&w==1) h;simp only[ZoB,Zpf]at hf;exact .inr (.inr (.inr (.inl ⟨by omega,by omega,hm (by omega),hn,a,b,ha,hb,hc,hf.1,by omega,by omega⟩)))
 rw[ZoC o4]at h;by_cases o5:op=17
 ·rw[ZoD o5]at h;obtain⟨a,b,c,ha,hb,hc,hd,hf⟩:=k3 (fun a b c=>a==1&&b==w&&c==w) h;simp only[ZoB,Zpf]at hf;exact .inr (.inr (.inr (.inr (.inl ⟨o5,hm (by omega),hn,a,b,c,ha,hb,hc,hd,hf.1.1,hf.1.2,hf.2⟩))))
 rw[ZoC o5]at h;by_cases o6:op=18
 ·rw[ZoD o6]at h;obtain⟨a,b,ha,hb,hc,hf⟩:=k2 (fun a b=>a+b==w) h;exact .inr (.inr (.inr (.inr (.inr (.inl ⟨o6,hm (by omega),hn,a,b,ha,hb,hc,by simpa using hf⟩)))))
 rw[ZoC o6]at h;by_cases o7:op=19
 ·rw[ZoD o7]at h;obtain⟨a,ha,hb,hf⟩:=k1 (fun a=>decide (0≤m∧m≤16)&&decide (m+w≤a)) h;simp only[ZoB,ZoJ]at hf;exact .inr (.inr (.inr (.inr (.inr (.inr (.inl ⟨o7,hn,hf.1.1,hf.1.2,a,ha,hb,hf.2⟩))))))
 rw[ZoC o7]at h;by_cases o8:20≤op∧op≤21
 ·rw[ZoD o8]at h;obtain⟨a,ha,hb,hf⟩:=k1 (fun a=>decide (a≤w)) h;exact .inr (.inr (.inr (.inr (.inr (.inr (.inr ⟨by omega,hm (by omega),hn,a,ha,hb,by simpa using hf⟩))))))
 rw[ZoC o8]at h;cases h
theorem ZaO{w v:Int}(h:wordB w v=true):nodeB ⟨0,w,v,⟨[]⟩,[]⟩=true:=by
 obtain⟨h1,h2⟩:=Yp h;rw[X6,Yc];simp[locB,shB,ZaL,h,h1,h2]
theorem Zo3{op:Int}{a:D.Term}(ho:op=1∨op=2)(ha:nodeB a=true):nodeB ⟨op,a.W,0,⟨[]⟩,[a]⟩=true:=by
 have h1:=YM ha;rw[X6,Yc];rcases ho with rfl|rfl<;>simp[locB,shB,ZaL,ha,h1.1,h1.2]
theorem ZeW{op w:Int}{a b:D.Term}(h3:3≤op)(h16:op≤16)(ha:nodeB a=true)(hb:nodeB b=true)(hw:a.W=b.W)(h1:op≤13→a.W=w)(h2:14≤op→w=1):nodeB ⟨op,w,0,⟨[]⟩,[a,b]⟩=true:=by
 have g1:=YM ha;have g2:1≤w∧w≤16:=by omega
 rw[X6,Yc];by_cases o:op≤13
 ·have e1:=h1 o;simp[locB,shB,ZaL,ha,hb,g2.1,g2.2,e1,hw▸e1,show¬op=0 by omega,show¬op=22 by omega,show¬op≤2 by omega,h3,o]
 ·have e1:=h2 (by omega);simp[locB,shB,ZaL,ha,hb,e1,hw,show¬op=0 by omega,show¬op=22 by omega,show¬op≤2 by omega,o,show 14≤op by omega,h16]
theorem ZnL{w:Int}{a b c:D.Term}(ha:nodeB a=true)(hb:nodeB b=true)(hc:nodeB c=true)(h1:a.W=1)(h2:b.W=w)(h3:c.W=w):nodeB ⟨17,w,0,⟨[]⟩,[a,b,c]⟩=true:=by
 have g2:=YM hb;rw[h2]at g2;rw[X6,Yc];simp[locB,shB,ZaL,ha,hb,hc,h1,h2,h3,g2.1,g2.2]
theorem Zdl{w m:Int}{a:D.Term}(ha:nodeB a=true)(h0:0≤m)(h1:1≤w)(h2:m+w≤a.W):nodeB ⟨19,w,m,⟨[]⟩,[a]⟩=true:=by
 have g:=YM ha;rw[X6,Yc];simp[locB,shB,ZaL,ha,h0,h1,h2,show w≤16 by omega,show m≤16 by omega]
theorem Zl6{op w:Int}{a:D.Term}(ho:op=20∨op=21)(ha:nodeB a=true)(h1:w≤16)(h2:a.W≤w):nodeB ⟨op,w,0,⟨[]⟩,[a]⟩=true:=by
 have g:=YM ha;rw[X6,Yc];rcases ho with rfl|rfl<;>simp[locB,shB,ZaL,ha,h1,h2,show 1≤w by omega]
theorem Xf{a:D.Term}(h:nodeB a=true)(ho:a.Op=0):a=⟨0,a.W,a.N,⟨[]⟩,[]⟩∧wordB a.W a.N=true:=by
 obtain⟨op,w,m,nm,ks⟩:=a;simp only at ho⊢;subst ho;obtain⟨_,hs⟩:=XU h;rcases hs with⟨_,rfl,rfl,hv⟩|hs|hs|hs|hs|hs|hs|hs
 ·exact⟨rfl,hv⟩
 all_goals(exfalso;have:=hs.1;omega)
theorem names:∀n:Nat,(∀t:D.Term,msz t<n→nodeB t=true→msz t≤11*cnt t)∧∀l:List D.Term,l.length+mszs l<n→nodesB l=true→mszs l≤11*cnts l:=by
 intro n
 induction n with
 |zero=>exact⟨fun _ h=>by omega,fun _ h=>by omega⟩
 | succ n ih=>
  have hl:∀l:List D.Term,l.length+mszs l<n+1→nodesB l=true→mszs l≤11*cnts l:=by
   intro l h hb;cases l with
   |nil=>rw[ZcH];omega
   |cons x l=>
    rw[Xj]at h⊢;rw[Zbb];rw[nodesB,ZoB]at hb;simp only[ZoP]at h;have h1:=ih.1 x (by omega) hb.1;have h2:=ih.2 l (by omega) hb.2;omega
  refine⟨fun t h hb=>?_,hl⟩;have hz:=ZaV t;have hc:=Za3 t;have hb':=hb;rw[X6,ZoB]at hb';have h2:=hl t.Kids (by omega) hb'.2;have h3:t.Name.bytes.length≤8∧t.Kids.length≤3:=by
   have hk:=hb'.1;unfold locB at hk;simp only[ZoB,Zp1,Zpf,Zd3,ZoJ]at hk;obtain⟨⟨⟨_,hn⟩,_⟩,hs⟩:=hk;refine⟨?_,?_⟩
   ·rcases hn with hn|hn
    ·rw[hn];simp
    ·unfold shB at hs;rw[ZoC (by omega),ZoD hn,ZoB]at hs;have:=hs.2;unfold nameB at this;simp only[ZoB,ZoJ]at this;omega
   ·have:=ZgX hb'.1;rcases this with⟨_,e⟩|⟨_,e⟩|⟨_,a,e,_⟩|⟨_,_,a,b,e,_⟩|⟨_,a,b,c,e⟩|⟨_,a,b,e⟩|⟨_,_,_,a,e⟩|⟨_,a,e⟩<;>rw[e]<;>simp
  omega
theorem Zcq{t:D.Term}(h:nodeB t=true):msz t≤11*cnt t:=(names (msz t+1)).1 t (by omega) h
theorem Zi(w v:Int):ZC w v=some ⟨0,w,v,⟨[]⟩,[]⟩:=rfl
theorem ZZ{w v:Int}(h:wordB w v=true):Z9 w v=some ⟨0,w,v,⟨[]⟩,[]⟩:=by unfold Z9;rw[ZaF,h];rfl
theorem ZdM{ks:List D.Term}{n:Nat}(hn:ks.length<n)(hk:ks.length≤1000):iterN (fun(s1:Bool×Int)=>if(decide (s1.2<(len ks)))then(if s1.1 then(get? ks s1.2)else some default).bind fun x1=>(if s1.1 then(Zc x1)else some default).bind fun x2=>some (.inl ((s1.1&&x2),(w64 (s1.2+1))))else some (.inr (s1.1))) n (true,0)=some (ks.all fun x=>x.Op==0):=by
 obtain⟨r,g1,g2⟩:=ZT (l:=ks) (n:=n) (σ:=Bool) (ρ:=Bool) (B:=fun(s1:Bool×Int)=>if(decide (s1.2<(len ks)))then(if s1.1 then(get? ks s1.2)else some default).bind fun x1=>(if s1.1 then(Zc x1)else some default).bind fun x2=>some (.inl ((s1.1&&x2),(w64 (s1.2+1))))else some (.inr (s1.1))) (fun k a=>(a,(k:Int))) (fun ys a=>(a&&ys.all fun x=>x.Op==0)=ks.all fun x=>x.Op==0) (fun r=>r=ks.all fun x=>x.Op==0)
  (fun k x xs a hk' hx hlen hi=>by
   have hd:decide ((k:Int)<len ks)=true:=by rw[Zb];simp;omega
   rw[Zqp]at hi;refine .inl ⟨a&&x.Op==0,?_,by rw[←hi,Bool.and_assoc]⟩;simp only[hd,ZoO];cases a
   ·simp only[Zo9,ZoG,Zo8,Zpk];rw[Zm (by omega) (by omega)];rfl
   ·simp only[ZoO,get?_nat,hx,Zo8,Zc,Zpa]
    rw[Zm (by omega) (by omega)];rfl)
  (fun a hi=>by
   have hd:decide ((ks.length:Int)<len ks)=false:=by rw[Zb];simp
   simp only[hd,Zo9,ZoG]
   exact⟨_,rfl,by simpa using hi⟩) (a:=true) rfl hn
 rw[show((0:Nat):Int)=0 from rfl]at g1;rw[g1,g2]
theorem Zg5{ks:List D.Term}{n:Nat}{b:Bool}(hn:ks.length<n)(hk:ks.length≤1000):iterN (fun(s1:Bool×Int×(List Int))=>if(decide (s1.2.1<(len ks)))then(get? ks s1.2.1).bind fun x1=>(app? s1.2.2 ([x1.N]:List Int)).bind fun x2=>some (.inl ((s1.1&&(x1.Op==0)),(w64 (s1.2.1+1)),x2))else some (.inr (s1.1,s1.2.2))) n (b,0,([]:List Int))=some ((b&&ks.all fun x=>x.Op==0),ks.map (·.N)):=by
 obtain⟨r,g1,g2⟩:=ZT (l:=ks) (n:=n) (σ:=Bool×List Int) (ρ:=Bool×List Int) (B:=fun(s1:Bool×Int×(List Int))=>if(decide (s1.2.1<(len ks)))then(get? ks s1.2.1).bind fun x1=>(app? s1.2.2 ([x1.N]:List Int)).bind fun x2=>some (.inl ((s1.1&&(x1.Op==0)),(w64 (s1.2.1+1)),x2))else some (.inr (s1.1,s1.2.2))) (fun k a=>(a.1,(k:Int),a.2)) (fun ys a=>(a.1&&ys.all fun x=>x.Op==0)=(b&&ks.all fun x=>x.Op==0)∧a.2++ys.map (·.N)=ks.map (·.N)) (fun r=>r=((b&&ks.all fun x=>x.Op==0),ks.map (·.N)))
  (fun k x xs a hk' hx hlen⟨hi,hj⟩=>by
   have hd:decide ((k:Int)<len ks)=true:=by rw[Zb];simp;omega
   rw[Zqp]at hi;have hl:a.2.length≤1000:=by
    have:=congrArg List.length hj;simp at this;omega
   refine .inl ⟨(a.1&&x.Op==0,a.2++[x.N]),?_,by rw[←hi,Bool.and_assoc],by rw[←hj];simp⟩;simp only[hd,ZoO,get?_nat,hx,Zo8]
   rw[XW (by simp;omega),Zm (by omega) (by omega)];rfl)
  (fun a⟨hi,hj⟩=>by
   have hd:decide ((ks.length:Int)<len ks)=false:=by rw[Zb];simp
   simp only[hd,Zo9,ZoG];refine⟨_,rfl,?_⟩
   rw[←hi,←hj];simp) (a:=(b,[])) ⟨rfl,rfl⟩ hn
 rw[show((0:Nat):Int)=0 from rfl]at g1;rw[g1,g2]
theorem ZaH(n:Nat)(w v:Int)(e:Option (List (Str×Int))):Z0 (n+1) ⟨0,w,v,⟨[]⟩,[]⟩ e=some v:=by simp[Z0]
theorem known{op w m:Int}{nm:Str}{ks:List D.Term}(h:nodeB ⟨op,w,m,nm,ks⟩=true)(hne:ks≠[])(hc:(ks.all fun x=>x.Op==0)=true):
  ∃v,wordB w v=true∧Yh ⟨op,w,m,nm,ks⟩ (ks.map (·.N))=some v∧∀n,2≤n→Z0 n ⟨op,w,m,nm,ks⟩ none=some v:=by
 obtain⟨⟨w1,w2⟩,h⟩:=XU h;rcases h with⟨_,h,_⟩|⟨_,h,_⟩|⟨ho,rfl,rfl,a,rfl,ha,rfl⟩|⟨o3,o16,rfl,rfl,a,b,rfl,ha,hb,hab,e1,e2⟩|⟨rfl,rfl,rfl,a,b,c,rfl,ha,hb,hcc,aw,bw,cw⟩|⟨rfl,rfl,rfl,a,b,rfl,ha,hb,hab⟩|⟨rfl,rfl,m0,m16,a,rfl,ha,haw⟩|⟨ho,rfl,rfl,a,rfl,ha,haw⟩
 ·exact absurd h hne
 ·exact absurd h hne
 ·simp at hc;obtain⟨ea,va⟩:=Xf ha hc;obtain⟨r,s1,s2⟩:=ZgL op a.W a.N;refine⟨r,Zo2 s1 ho va,?_,fun n hn=>?_⟩
  ·unfold Yh;rw[Zk,show decide (1≤op∧op≤2)=true by simp;omega];simp[geti0,s1]
  ·obtain⟨n,rfl⟩:∃k,n=k+2:=⟨n-2,by omega⟩;have e3:Z0 (n+1) a none=some a.N:=by rw[ea];exact ZaH n _ _ _
   rw[show n+2=(n+1)+1 from rfl];unfold Z0;rcases ho with rfl|rfl<;>simp[get0,e3,s2]
 ·simp at hc;obtain⟨ea,va⟩:=Xf ha hc.1;obtain⟨eb,vb⟩:=Xf hb hc.2;obtain⟨r,s1,s2⟩:=Zdq op a.W a.N b.N;have hr:=Zlr s1 va (hab▸vb);refine⟨r,?_,?_,fun n hn=>?_⟩
  ·by_cases o:op≤13
   ·rw[←e1 o];exact hr.1 ⟨o3,o⟩
   ·rw[e2 (by omega)];exact hr.2 ⟨by omega,o16⟩
  ·unfold Yh;rw[Zk,show decide (1≤op∧op≤2)=false by simp;omega,Zk,show decide (3≤op∧op≤16)=true by simp;omega];simp[get0,geti0,geti1,s1]
  ·obtain⟨n,rfl⟩:∃k,n=k+2:=⟨n-2,by omega⟩;have e3:Z0 (n+1) a none=some a.N:=by rw[ea];exact ZaH n _ _ _
   have e4:Z0 (n+1) b none=some b.N:=by rw[eb];exact ZaH n _ _ _
   rw[show n+2=(n+1)+1 from rfl];unfold Z0;simp[get0,get1,e3,e4,s2,show¬op=0 by omega,show¬op=22 by omega,show¬op=17 by omega,show¬op=1 by omega,show¬op=2 by omega,show¬op=19 by omega,show¬op=20 by omega,show¬op=21 by omega,show¬op=18 by omega]
 ·simp at hc;obtain⟨ea,va⟩:=Xf ha hc.1;obtain⟨eb,vb⟩:=Xf hb hc.2.1;obtain⟨ec,vc⟩:=Xf hcc hc.2.2;refine⟨if a.N=1 then b.N else c.N,?_,?_,fun n hn=>?_⟩
  ·split
   ·rw[←bw];exact vb
   ·rw[←cw];exact vc
  ·unfold Yh;rw[Zk,Zk];by_cases e:a.N=1<;>simp[geti0,geti1,geti2,e]
  ·obtain⟨n,rfl⟩:∃k,n=k+2:=⟨n-2,by omega⟩;have e3:Z0 (n+1) a none=some a.N:=by rw[ea];exact ZaH n _ _ _
   have e4:Z0 (n+1) b none=some b.N:=by rw[eb];exact ZaH n _ _ _
   have e5:Z0 (n+1) c none=some c.N:=by rw[ec];exact ZaH n _ _ _
   rw[show n+2=(n+1)+1 from rfl];unfold Z0;by_cases e:a.N=1<;>simp[get0,get1,get2',e3,e4,e5,e]
 ·simp at hc;obtain⟨ea,va⟩:=Xf ha hc.1;obtain⟨eb,vb⟩:=Xf hb hc.2;obtain⟨r,s1,s2⟩:=ZhA a.W a.N b.W b.N;refine⟨r,by rw[←hab];exact Zny s1 va vb (by omega),?_,fun n hn=>?_⟩
  ·unfold Yh;rw[Zk,Zk];simp[get0,get1,geti0,geti1,s1]
  ·obtain⟨n,rfl⟩:∃k,n=k+2:=⟨n-2,by omega⟩;have e3:Z0 (n+1) a none=some a.N:=by rw[ea];exact ZaH n _ _ _
   have e4:Z0 (n+1) b none=some b.N:=by rw[eb];exact ZaH n _ _ _
   rw[show n+2=(n+1)+1 from rfl];unfold Z0;simp[get0,get1,e3,e4,s2]
 ·simp at hc;obtain⟨ea,va⟩:=Xf ha hc;obtain⟨r,s1,s2⟩:=ZiT (w:=a.W) (a:=a.N) (l:=m) (n:=w) (by omega) (by omega);refine⟨r,Zom s1 va m0 w1 haw,?_,fun n hn=>?_⟩
  ·unfold Yh;rw[Zk,Zk];simp[get0,geti0,s1]
  ·obtain⟨n,rfl⟩:∃k,n=k+2:=⟨n-2,by omega⟩;have e3:Z0 (n+1) a none=some a.N:=by rw[ea];exact ZaH n _ _ _
   rw[show n+2=(n+1)+1 from rfl];unfold Z0;simp[get0,e3,s2]
 ·simp at hc;obtain⟨ea,va⟩:=Xf ha hc;obtain⟨r,s1,s2⟩:=ZhG a.W a.N w (op==21);refine⟨r,ZmP s1 va haw w2,?_,fun n hn=>?_⟩
  ·unfold Yh;rw[Zk,show decide (1≤op∧op≤2)=false by simp;omega,Zk,show decide (3≤op∧op≤16)=false by simp;omega];rcases ho with rfl|rfl<;>simp at s1<;>simp[get0,geti0,s1]
  ·obtain⟨n,rfl⟩:∃k,n=k+2:=⟨n-2,by omega⟩;have e3:Z0 (n+1) a none=some a.N:=by rw[ea];exact ZaH n _ _ _
   rw[show n+2=(n+1)+1 from rfl];unfold Z0;rcases ho with rfl|rfl<;>simp at s2<;>simp[get0,e3,s2]
def runS(f:Nat→D.Term→Option D.Term)(k:Nat):D.Term⊕D.Term→Option D.Term
 |.inl r=>some r
 |.inr t=>f k t
def swp(t:D.Term):Nat:=match t.Kids with
 |[a,b]=>if 0<ctm a b then 1 else 0
 |_=>0
def mea(t:D.Term):Nat:=2*cnt t+swp t
theorem Zmy(t:D.Term):swp t≤1:=by
 unfold swp;split
 ·split<;>omega
 ·omega
def Good(t:D.Term):D.Term⊕D.Term→Prop
 |.inl r=>nodeB r=true∧r.W=t.W∧cnt r≤cnt t
 |.inr u=>nodeB u=true∧u.W=t.W∧cnt u≤cnt t∧mea u<mea t
theorem XI{t u:D.Term}(h:nodeB u=true)(hw:u.W=t.W)(hc:cnt u<cnt t):Good t (.inr u):=by
 have:=Zmy u;exact⟨h,hw,by omega,by unfold mea;omega⟩
def Stp(t:D.Term):Prop:=∃s,Good t s∧(∀k,1100000≤k→∃k',k≤k'∧ZE (k+8) t=runS ZE k' s)∧(∀k,1100000≤k→∃k',k≤k'∧Z4 (k+8) t=runS Z4 k' s)
theorem Stp.fin{t r:D.Term}(h:nodeB r=true)(hw:r.W=t.W)(hc:cnt r≤cnt t)(h1:∀k,1100000≤k→ZE (k+8) t=some r)(h2:∀k,1100000≤k→Z4 (k+8) t=some r):Stp t:=
 ⟨.inl r,⟨h,hw,hc⟩,fun k hk=>⟨k,ZoH _,h1 k hk⟩,fun k hk=>⟨k,ZoH _,h2 k hk⟩⟩
theorem Stp.go{t u:D.Term}(i j:Nat)(h:Good t (.inr u))(h1:∀k,1100000≤k→ZE (k+8) t=ZE (k+i) u)(h2:∀k,1100000≤k→Z4 (k+8) t=Z4 (k+j) u):Stp t:=
 ⟨.inr u,h,fun k hk=>⟨k+i,by omega,h1 k hk⟩,fun k hk=>⟨k+j,by omega,h2 k hk⟩⟩
theorem Zg{α:Type}(x:Option α):(x.bind fun y=>some y)=x:=by cases x<;>rfl
theorem Yx{k:Nat}{op w m:Int}{nm:Str}{ks:List D.Term}(hk:ks≠[])(hl:ks.length≤3)(hc:(ks.all fun x=>x.Op==0)=false):ZE (k+8) ⟨op,w,m,nm,ks⟩=
   if((op==1)||(op==2))then
    YQ ⟨op,w,m,nm,ks⟩
   else
    if(op==17)then
     ZW (k+7) ⟨op,w,m,nm,ks⟩
    else
     if(op==19)then
      ZR (k+7) ⟨op,w,m,nm,ks⟩
     else
      if((op==20)||(op==21))then
       Yg (k+7) ⟨op,w,m,nm,ks⟩
      else
       if(op==18)then
        Yd (k+7) ⟨op,w,m,nm,ks⟩
       else
        Za (k+7) ⟨op,w,m,nm,ks⟩:=by
 rw[show k+8=(k+7)+1 from rfl,ZE];simp only[Zg];rw[ZoC (by rw[Zb];simpa using hk),ZdM (by omega) (by omega),hc];simp only[Zo8,Zo9,ZoG]
theorem Yv{k:Nat}{op w m:Int}{nm:Str}{ks:List D.Term}(hl:ks.length≤3)(hc:(decide (len ks>0)&&ks.all fun x=>x.Op==0)=false):Z4 (k+8) ⟨op,w,m,nm,ks⟩=
  if decide (3≤op∧op≤16)then
   Zh (k+7) ⟨op,w,m,nm,ks⟩
  else
   if((op==1)||(op==2))then
    (get? ks 0).bind fun x7=>
    if(x7.Op==op)then
     (get? ks 0).bind fun x8=>
     get? x8.Kids 0
    else
     some ⟨op,w,m,nm,ks⟩
   else
    if(op==17)then
     YP (k+7) ⟨op,w,m,nm,ks⟩
    else
     if(op==19)then
      Y8 (k+7) ⟨op,w,m,nm,ks⟩
     else
      if ((op==20)||(op==21))then
       (get? ks 0).bind fun x12=>
       if(x12.W==w)then
        some x12
       else
        if(x12.Op==op)then
         Z4 (k+7) (D.Term.mk op w 0 ⟨[]⟩ x12.Kids)
        else
         some ⟨op,w,m,nm,ks⟩
      else
       if(op==18)then
        (get? ks 0).bind fun x14=>
        (get? ks 1).bind fun x15=>
        (if((x14.Op==19)&&(x15.Op==19))then(get? x14.Kids 0)else some default).bind fun x16=>
        (if((x14.Op==19)&&(x15.Op==19))then(get? x15.Kids 0)else some default).bind fun x17=>
        (if((x14.Op==19)&&(x15.Op==19))then(ZN (k+7) x16 x17)else some default).bind fun x18=>
        if((((x14.Op==19)&&(x15.Op==19))&&x18)&&(x14.N==(w64 (x15.N+x15.W))))then
         Z4 (k+7) (D.Term.mk 19 w x15.N ⟨[]⟩ x15.Kids)
        else
         some ⟨op,w,m,nm,ks⟩
       else
        some ⟨op,w,m,nm,ks⟩:=by
 rw[show k+8=(k+7)+1 from rfl,Z4];simp only[Zg,Zk];rw[Zg5 (by omega) (by omega),hc];simp only[Zo8,Zo9,ZoG]
theorem Zhg{op w m:Int}{nm:Str}(h:nodeB ⟨op,w,m,nm,[]⟩=true)(ho:op=0∨op=22):Stp ⟨op,w,m,nm,[]⟩:=by
 refine .fin h rfl (ZoH _) (fun k hk=>?_) (fun k hk=>?_)
 ·rw[show k+8=(k+7)+1 from rfl,ZE,ZoD (by rfl)]
 ·rw[Yv (by simp) (by rfl)];rcases ho with rfl|rfl<;>simp
theorem Zjy{op w m:Int}{nm:Str}{ks:List D.Term}(h:nodeB ⟨op,w,m,nm,ks⟩=true)(hne:ks≠[])(hl:ks.length≤3)(hc:(ks.all fun x=>x.Op==0)=true):Stp ⟨op,w,m,nm,ks⟩:=by
 obtain⟨v,hv,h1,h2⟩:=known h hne hc;refine .fin (ZaO hv) rfl (by rw[Za3,Za3];simp only[Zau];omega) (fun k hk=>?_) (fun k hk=>?_)
 ·rw[show k+8=(k+7)+1 from rfl,ZE];rw[ZoC (by rw[Zb];simpa using hne),ZdM (ks:=ks) (n:=k+7) (by omega) (by omega),hc];simp only[Zo8,ZoO,h2 (k+7) (by omega),ZZ hv]
 ·rw[show k+8=(k+7)+1 from rfl,Z4];have hd:decide (len ks>0)=true:=by
   rw[Zb];simp only[ZoJ];rcases ks with _|⟨x,l⟩
   ·exact absurd rfl hne
   ·simp
  rw[Zg5 (ks:=ks) (n:=k+7) (by omega) (by omega),hc,hd];simp only[Zo8,Zp6,ZoO,h1,Zi]
theorem cnt1(op w m:Int)(nm:Str)(a:D.Term):cnt ⟨op,w,m,nm,[a]⟩=1+cnt a:=by rw[Za3];simp only[Zbb,Zau];omega
theorem cnt2(op w m:Int)(nm:Str)(a b:D.Term):cnt ⟨op,w,m,nm,[a,b]⟩=1+cnt a+cnt b:=by rw[Za3];simp only[Zbb,Zau];omega
theorem cnt3(op w m:Int)(nm:Str)(a b c:D.Term):cnt ⟨op,w,m,nm,[a,b,c]⟩=1+cnt a+cnt b+cnt c:=by rw[Za3];simp only[Zbb,Zau];omega
theorem cnt0(w v:Int):cnt ⟨0,w,v,⟨[]⟩,[]⟩=1:=by rw[Za3];simp only[Zau]
theorem Zcp(t:D.Term):1≤cnt t:=by rw[Za3];omega
theorem Zhs{op w:Int}{a:D.Term}(ho:op=1∨op=2)(ha:nodeB a=true)(hw:a.W=w):nodeB ⟨op,w,0,⟨[]⟩,[a]⟩=true:=hw▸Zo3 ho ha
theorem Zn7{op w:Int}{a:D.Term}(ho:op=1∨op=2)(ha:nodeB a=true)(hw:a.W=w)(hc:(a.Op==0)=false):Stp ⟨op,w,0,⟨[]⟩,[a]⟩:=by
 have ho':((op==1)||(op==2))=true:=by simpa using ho
 have hn:decide (3≤op∧op≤16)=false:=by simp;omega
 by_cases e:a.Op=op
 ·obtain⟨aop,aw,am,anm,aks⟩:=a;simp only at e hw hc;subst e hw;obtain⟨_,hs⟩:=XU ha;obtain⟨c,rfl,hcc,hcw⟩:∃c,aks=[c]∧nodeB c=true∧c.W=aw:=by
   rcases hs with h|h|⟨_,_,_,c,h,h2,h3⟩|h|h|h|h|h
   ·exfalso;have:=h.1;omega
   ·exfalso;have:=h.1;omega
   ·exact⟨c,h,h2,h3⟩
   all_goals(exfalso;have:=h.1;omega)
  refine .fin hcc hcw (by rw[cnt1,cnt1];omega) (fun k hk=>?_) (fun k hk=>?_)
  ·rw[Yx (by simp) (by simp) (by simp[hc]),ZoD ho'];simp[YQ,get0]
  ·rw[Yv (by simp) (by simp[hc]),hn,ho'];simp[get0]
 ·have e':(a.Op==op)=false:=by simpa using e
  refine .fin (Zhs ho ha hw) rfl (ZoH _) (fun k hk=>?_) (fun k hk=>?_)
  ·rw[Yx (by simp) (by simp) (by simp[hc]),ZoD ho'];simp[YQ,get0,e]
  ·rw[Yv (by simp) (by simp[hc]),hn,ho'];simp[get0,e]
theorem ZhK{a:D.Term}(h:nodeB a=true)(ho:a.Op=19):∃c,a=⟨19,a.W,a.N,⟨[]⟩,[c]⟩∧nodeB c=true∧0≤a.N∧a.N≤16∧a.N+a.W≤c.W:=by
 obtain⟨aop,aw,am,anm,aks⟩:=a;simp only at ho;subst ho;obtain⟨_,hs⟩:=XU h;rcases hs with h|h|h|h|h|h|⟨_,rfl,h0,h1,c,rfl,h2,h3⟩|h
 ·exfalso;have:=h.1;omega
 ·exfalso;have:=h.1;omega
 ·exfalso;have:=h.1;omega
 ·exfalso;have:=h.2.1;omega
 ·exfalso;have:=h.1;omega
 ·exfalso;have:=h.1;omega
 ·exact⟨c,rfl,h2,h0,h1,h3⟩
 ·exfalso;have:=h.1;omega
theorem ZjW{a:D.Term}{op:Int}(h:nodeB a=true)(ho:a.Op=op)(hop:op=20∨op=21):∃c,a=⟨op,a.W,0,⟨[]⟩,[c]⟩∧nodeB c=true∧c.W≤a.W:=by
 obtain⟨aop,aw,am,anm,aks⟩:=a;simp only at ho;subst ho;obtain⟨_,hs⟩:=XU h;rcases hs with h|h|h|h|h|h|h|⟨_,rfl,rfl,c,rfl,h2,h3⟩
 ·exfalso;have:=h.1;omega
 ·exfalso;have:=h.1;omega
 ·exfalso;have:=h.1;omega
 ·exfalso;have:=h.2.1;omega
 ·exfalso;have:=h.1;omega
 ·exfalso;have:=h.1;omega
 ·exfalso;have:=h.1;omega
 ·exact⟨c,rfl,h2,h3⟩
theorem Zn9{a:D.Term}(h:nodeB a=true)(ho:a.Op=1):∃c,a=⟨1,a.W,0,⟨[]⟩,[c]⟩∧nodeB c=true∧c.W=a.W:=by
 obtain⟨aop,aw,am,anm,aks⟩:=a;simp only at ho;subst ho;obtain⟨_,hs⟩:=XU h;rcases hs with h|h|⟨_,rfl,rfl,c,rfl,h2,h3⟩|h|h|h|h|h
 ·exfalso;have:=h.1;omega
 ·exfalso;have:=h.1;omega
 ·exact⟨c,rfl,h2,h3⟩
 ·exfalso;have:=h.1;omega
 ·exfalso;have:=h.1;omega
 ·exfalso;have:=h.1;omega
 ·exfalso;have:=h.1;omega
 ·exfalso;have:=h.1;omega
theorem Zms{a:D.Term}(h:nodeB a=true)(ho:a.Op=18):∃b c,a=⟨18,a.W,0,⟨[]⟩,[b,c]⟩∧nodeB b=true∧nodeB c=true∧b.W+c.W=a.W:=by
 obtain⟨aop,aw,am,anm,aks⟩:=a;simp only at ho;subst ho;obtain⟨_,hs⟩:=XU h;rcases hs with h|h|h|h|h|⟨_,rfl,rfl,b,c,rfl,h2,h3,h4⟩|h|h
 ·exfalso;have:=h.1;omega
 ·exfalso;have:=h.1;omega
 ·exfalso;have:=h.1;omega
 ·exfalso;have:=h.2.1;omega
 ·exfalso;have:=h.1;omega
 ·exact⟨b,c,rfl,h2,h3,h4⟩
 ·exfalso;have:=h.1;omega
 ·exfalso;have:=h.1;omega
theorem Znr{a:D.Term}{op:Int}(h:nodeB a=true)(ho:a.Op=op)(h3:3≤op)(h16:op≤16):∃b c,a=⟨op,a.W,0,⟨[]⟩,[b,c]⟩∧nodeB b=true∧nodeB c=true∧b.W=c.W∧(op≤13→b.W=a.W):=by
 obtain⟨aop,aw,am,anm,aks⟩:=a;simp only at ho;subst ho;obtain⟨_,hs⟩:=XU h;rcases hs with h|h|h|⟨_,_,rfl,rfl,b,c,rfl,h2,h3,h4,h5,h6⟩|h|h|h|h
 ·exfalso;have:=h.1;omega
 ·exfalso;have:=h.1;omega
 ·exfalso;have:=h.1;omega
 ·exact⟨b,c,rfl,h2,h3,h4,h5⟩
 ·exfalso;have:=h.1;omega
 ·exfalso;have:=h.1;omega
 ·exfalso;have:=h.1;omega
 ·exfalso;have:=h.1;omega
theorem ZlQ{op w:Int}{a:D.Term}(ho:op=20∨op=21)(ha:nodeB a=true)(hw:a.W≤w)(h16:w≤16)(hc:(a.Op==0)=false):Stp ⟨op,w,0,⟨[]⟩,[a]⟩:=by
 have n1:((op==1)||(op==2))=false:=by simp;omega
 have n2:(op==17)=false:=by simp;omega
 have n3:(op==19)=false:=by simp;omega
 have n4:((op==20)||(op==21))=true:=by simpa using ho
 have hn:decide (3≤op∧op≤16)=false:=by simp;omega
 by_cases e1:a.W=w
 ·refine .fin ha e1 (by rw[cnt1];omega) (fun k hk=> ?_) (fun k hk=> ?_)
  ·rw[Yx (by simp) (by simp) (by simp[hc]),n1,n2,n3,n4];simp[Yg,get0,e1]
  ·rw[Yv (by simp) (by simp[hc]),hn,n1,n2,n3,n4];simp[get0,e1]
 by_cases e2:a.Op=op
 ·obtain⟨c,ea,hcc,hcw⟩:=ZjW ha e2 ho;refine .go 5 7 (u:=⟨op,w,0,⟨[]⟩,[c]⟩) (XI (Zl6 ho hcc h16 (by omega)) rfl (by rw[ea,cnt1,cnt1,cnt1];omega)) (fun k hk=>?_) (fun k hk=>?_)
  ·rw[Yx (by simp) (by simp) (by simp[hc]),n1,n2,n3,n4];have ek:a.Kids=[c]:=by rw[ea]
   simp[Yg,Zo,Zg,get0,show¬w=a.W by omega,e2,ek]
  ·rw[Yv (by simp) (by simp[hc]),hn,n1,n2,n3,n4];have ek:a.Kids=[c]:=by rw[ea]
   simp[get0,e1,e2,ek]
 ·refine .fin (Zl6 ho ha h16 hw) rfl (ZoH _) (fun k hk=> ?_) (fun k hk=> ?_)
  ·rw[Yx (by simp) (by simp) (by simp[hc]),n1,n2,n3,n4];simp[Yg,get0,show¬w=a.W by omega,e2]
  ·rw[Yv (by simp) (by simp[hc]),hn,n1,n2,n3,n4];simp[get0,e1,e2]
theorem ZlT{w m:Int}{a:D.Term}(ha:nodeB a=true)(h0:0≤m)(hm:m≤16)(h1:1≤w)(hw:m+w≤a.W)(hc:(a.Op==0)=false):Stp ⟨19,w,m,⟨[]⟩,[a]⟩:=by
 have g:=YM ha;by_cases e1:w=a.W
 ·have e0:m=0:=by omega
  refine .fin ha e1.symm (by rw[cnt1];omega) (fun k hk=>?_) (fun k hk=>?_)
  ·rw[Yx (by simp) (by simp) (by simp[hc])];simp[ZR,get0,e1,e0]
  ·rw[Yv (by simp) (by simp[hc])];simp[Y8,get0,e1]
 by_cases e2:a.Op=19
 ·obtain⟨c,ea,hcc,b0,b16,hcw⟩:=ZhK ha e2;have gc:=YM hcc;have ek:a.Kids=[c]:=by rw[ea]
  refine .go 5 5 (u:=⟨19,w,m+a.N,⟨[]⟩,[c]⟩) (XI (Zdl hcc (by omega) h1 (by omega)) rfl (by rw[ea,cnt1,cnt1,cnt1];omega)) (fun k hk=>?_) (fun k hk=>?_)
  ·rw[Yx (by simp) (by simp) (by simp[hc])];simp[ZR,Zo,Zg,get0,e1,e2,ek,Zm (x:=m+a.N) (by omega) (by omega)]
  ·rw[Yv (by simp) (by simp[hc])];simp[Y8,Yy,Zg,get0,e1,e2,ek,Zm (x:=m+a.N) (by omega) (by omega)]
 have w1:w64 (m+w)=m+w:=Zm (by omega) (by omega);by_cases e3:a.Op=18
 ·obtain⟨b,c,ea,hb,hcc,hbc⟩:=Zms ha e3;have gb:=YM hb;have gc:=YM hcc;have ek:a.Kids=[b,c]:=by rw[ea]
  by_cases e4:m+w≤c.W
  ·refine .go 5 5 (u:=⟨19,w,m,⟨[]⟩,[c]⟩) (XI (Zdl hcc h0 h1 e4) rfl (by rw[ea,cnt1,cnt1,cnt2];omega)) (fun k hk=> ?_) (fun k hk=> ?_)
   ·rw[Yx (by simp) (by simp) (by simp[hc])];simp[ZR,Zo,Zg,get0,get1,e1,e3,ek,w1,e4]
   ·rw[Yv (by simp) (by simp[hc])];simp[Y8,Yy,Zg,get0,get1,e1,e3,ek,w1,e4]
  by_cases e5:c.W≤m
  ·have w2:w64 (m-c.W)=m-c.W:=Zm (by omega) (by omega);refine .go 5 5 (u:=⟨19,w,m-c.W,⟨[]⟩,[b]⟩) (XI (Zdl hb (by omega) h1 (by omega)) rfl (by rw[ea,cnt1,cnt1,cnt2];omega)) (fun k hk=>?_) (fun k hk=>?_)
   ·rw[Yx (by simp) (by simp) (by simp[hc])];simp[ZR,Zo,Zg,get0,get1,e1,e3,ek,w1,e4,e5,w2]
   ·rw[Yv (by simp) (by simp[hc])];simp[Y8,Yy,Zg,get0,get1,e1,e3,ek,w1,e4,e5,w2]
  ·refine .fin (Zdl ha h0 h1 hw) rfl (ZoH _) (fun k hk=> ?_) (fun k hk=> ?_)
   ·rw[Yx (by simp) (by simp) (by simp[hc])];simp[ZR,Zo,Zg,get0,get1,e1,e3,ek,w1,e4,e5]
   ·rw[Yv (by simp) (by simp[hc])];simp[Y8,Yy,Zg,get0,get1,e1,e3,ek,w1,e4,e5,Zk]
 by_cases e6:a.Op=20∨a.Op=21
 ·obtain⟨c,ea,hcc,hcw⟩:=ZjW ha rfl e6;have gc:=YM hcc;have ek:a.Kids=[c]:=by rw[ea]
  have e7:20≤a.Op∧a.Op≤21:=by omega
  have e8:(a.Op==20||a.Op==21)=true:=by simpa using e6
  by_cases e4:m+w≤c.W
  ·refine .go 5 5 (u:=⟨19,w,m,⟨[]⟩,[c]⟩) (XI (Zdl hcc h0 h1 e4) rfl (by rw[ea,cnt1,cnt1,cnt1];omega)) (fun k hk=> ?_) (fun k hk=> ?_)
   ·rw[Yx (by simp) (by simp) (by simp[hc])];simp[ZR,Zo,Zg,get0,get1,e1,e2,e3,e6,ek,w1,e4]
   ·rw[Yv (by simp) (by simp[hc])];simp only[Y8,Yy,Zg,Zk];simp[get0,get1,e1,e2,e3,ek,w1,e4,e7.1,e7.2]
  ·refine .fin (Zdl ha h0 h1 hw) rfl (ZoH _) (fun k hk=> ?_) (fun k hk=> ?_)
   ·rw[Yx (by simp) (by simp) (by simp[hc])];simp[ZR,Zo,Zg,get0,get1,e1,e2,e3,e6,ek,w1,e4]
   ·rw[Yv (by simp) (by simp[hc])];simp only[Y8,Yy,Zg,Zk];simp[get0,get1,e1,e2,e3,ek,w1,e4,e7.1,e7.2]
 ·have e7:¬(20≤a.Op∧a.Op≤21):=by omega
  refine .fin (Zdl ha h0 h1 hw) rfl (ZoH _) (fun k hk=>?_) (fun k hk=>?_)
  ·rw[Yx (by simp) (by simp) (by simp[hc])];simp[ZR,Zo,Zg,get0,get1,e1,e2,e3,e6]
  ·rw[Yv (by simp) (by simp[hc])];simp only[Y8,Yy,Zg,Zk];simp[get0,get1,e1,e2,e3,e7]
theorem Zh0{w:Int}{a b:D.Term}(ha:nodeB a=true)(hb:nodeB b=true)(hw:a.W+b.W=w)(h16:w≤16):nodeB ⟨18,w,0,⟨[]⟩,[a,b]⟩=true:=by
 have g1:=YM ha;have g2:=YM hb;rw[X6,Yc];simp[locB,shB,ZaL,ha,hb,hw,h16,show 1≤w by omega]
theorem ZkL{w:Int}{a b:D.Term}(ha:nodeB a=true)(hb:nodeB b=true)(hw:a.W+b.W=w)(h16:w≤16)(hc:(a.Op==0&&b.Op==0)=false)(hn:cnt a≤240):Stp ⟨18,w,0,⟨[]⟩,[a,b]⟩:=by
 have hc':([a,b].all fun x=>x.Op==0)=false:=by simpa using hc
 have ga:=YM ha;have gb:=YM hb;by_cases e1:a.Op=19∧b.Op=19
 ·obtain⟨c,ea,hcc,a0,a16,hcw⟩:=ZhK ha e1.1;obtain⟨d,eb,hd,b0,b16,hdw⟩:=ZhK hb e1.2;have gc:=YM hcc;have gd:=YM hd;have eka:a.Kids=[c]:=by rw[ea]
  have ekb:b.Kids=[d]:=by rw[eb]
  have w1:w64 (b.N+b.W)=b.N+b.W:=Zm (by omega) (by omega);have hcn:cnt c≤240:=by rw[ea,cnt1]at hn;omega
  have hmc:=Zcq hcc;have i2:∀k,1100000≤k→ZO (k+6) c d=some (ctm c d==0):=fun k hk=>Zbu (by omega) (by omega);have s2:∀k,1100000≤k→ZN (k+7) c d=some (ctm c d==0):=fun k hk=>Zbw (by omega) (by omega);by_cases e2:a.N=b.N+b.W
  ·by_cases e3:ctm c d=0
   ·have hcd:c.W=d.W:=by
     rw[Zdf]at e3;by_cases q1:sg c.Op d.Op=0
     ·by_cases q2:sg c.W d.W=0
      ·unfold sg at q2;split at q2<;>(try split at q2)<;>omega
      ·simp[q1,q2]at e3
     ·simp[q1]at e3
    refine .go 5 7 (u:=⟨19,w,b.N,⟨[]⟩,[d]⟩) (XI (Zdl hd b0 (by omega) (by omega)) rfl (by rw[ea,eb,cnt1,cnt2,cnt1,cnt1];omega)) (fun k hk=>?_) (fun k hk=>?_)
    ·rw[Yx (by simp) (by simp) hc'];simp[Yd,Zo,Zg,get0,get1,e1.1,e1.2,eka,ekb,w1,e2,i2 k hk,e3]
    ·rw[Yv (by simp) (by rw[hc'];simp)];simp[get0,get1,e1.1,e1.2,eka,ekb,w1,e2,s2 k hk,e3]
   ·refine .fin (Zh0 ha hb hw h16) rfl (ZoH _) (fun k hk=> ?_) (fun k hk=> ?_)
    ·rw[Yx (by simp) (by simp) hc'];simp[Yd,Zo,Zg,get0,get1,e1.1,e1.2,eka,ekb,w1,e2,i2 k hk,e3]
    ·rw[Yv (by simp) (by rw[hc'];simp)];simp[get0,get1,e1.1,e1.2,eka,ekb,w1,e2,s2 k hk,e3]
  ·refine .fin (Zh0 ha hb hw h16) rfl (ZoH _) (fun k hk=> ?_) (fun k hk=> ?_)
   ·rw[Yx (by simp) (by simp) hc'];simp[Yd,Zo,Zg,get0,get1,e1.1,e1.2,eka,ekb,w1,e2]
   ·rw[Yv (by simp) (by rw[hc'];simp)];simp[get0,get1,e1.1,e1.2,eka,ekb,w1,e2,s2 k hk]
 ·have e2:(a.Op==19&&b.Op==19)=false:=by
   cases h:(a.Op==19&&b.Op==19)
   ·rfl
   ·rw[ZoB,Zpf,Zpf]at h;exact absurd h e1
  refine .fin (Zh0 ha hb hw h16) rfl (ZoH _) (fun k hk=>?_) (fun k hk=>?_)
  ·rw[Yx (by simp) (by simp) hc'];simp only[Yd,get0,get1,Zo8,e2,Zpk,Zo9,ZoG];rfl
  ·rw[Yv (by simp) (by rw[hc'];simp)];simp only[get0,get1,Zo8,e2,Zpk,Zo9,ZoG];rfl
theorem Zn3{w:Int}{a b c:D.Term}(ha:nodeB a=true)(hb:nodeB b=true)(hcc:nodeB c=true)(h1:a.W=1)(h2:b.W=w)(h3:c.W=w)(hc:(a.Op==0&&(b.Op==0&&c.Op==0))=false)(hn:cnt b≤240):Stp ⟨17,w,0,⟨[]⟩,[a,b,c]⟩:=by
 have hc':([a,b,c].all fun x=>x.Op==0)=false:=by simpa using hc
 have gb:=YM hb;have pa:=Zcp a;have pb:=Zcp b;have pc:=Zcp c;have hmb:=Zcq hb;have i2:∀k,1100000≤k→ZO (k+6) b c=some (ctm b c==0):=fun k hk=>Zbu (by omega) (by omega);have s2:∀k,1100000≤k→ZN (k+6) b c=some (ctm b c==0):=fun k hk=>Zbw (by omega) (by omega);have me:=ZnL ha hb hcc h1 h2 h3;by_cases e1:a.Op=0
 ·obtain⟨ea,va⟩:=Xf ha e1;rw[h1]at va;have hv:=(Yf (by omega) (by omega) a.N).1 va;have hv2:a.N=0∨a.N=1:=by
   have:(2:Int)^(1:Int).toNat=2:=rfl;omega
  rcases hv2 with e2|e2
  ·refine .fin hcc h3 (by rw[cnt3];omega) (fun k hk=> ?_) (fun k hk=> ?_)
   ·rw[Yx (by simp) (by simp) hc'];simp[ZW,Zp,Zc,get0,get1,get2',e1,e2]
   ·rw[Yv (by simp) (by rw[hc'];simp)];simp[YP,Zq,get0,get1,get2',e1,e2]
  ·refine .fin hb h2 (by rw[cnt3];omega) (fun k hk=> ?_) (fun k hk=> ?_)
   ·rw[Yx (by simp) (by simp) hc'];simp[ZW,Zp,Zc,get0,get1,get2',e1,e2]
   ·rw[Yv (by simp) (by rw[hc'];simp)];simp[YP,Zq,get0,get1,get2',e1,e2]
 by_cases e2:ctm b c=0
 ·refine .fin hb h2 (by rw[cnt3];omega) (fun k hk=> ?_) (fun k hk=> ?_)
  ·rw[Yx (by simp) (by simp) hc'];simp[ZW,Zp,Zc,get0,get1,get2',e1,i2 k hk,e2]
  ·rw[Yv (by simp) (by rw[hc'];simp)];simp[YP,Zq,get0,get1,get2',e1,s2 k hk,e2]
 by_cases e3:a.Op=1
 ·obtain⟨d,ea,hd,hdw⟩:=Zn9 ha e3;have ek:a.Kids=[d]:=by rw[ea]
  refine .go 5 6 (u:=⟨17,w,0,⟨[]⟩,[d,c,b]⟩) (XI (ZnL hd hcc hb (by omega) h3 h2) rfl (by rw[ea,cnt3,cnt3,cnt1];omega)) (fun k hk=>?_) (fun k hk=>?_)
  ·rw[Yx (by simp) (by simp) hc'];simp[ZW,Zo,Zg,Zp,Zc,get0,get1,get2',i2 k hk,e2,e3,ek]
  ·rw[Yv (by simp) (by rw[hc'];simp)];simp[YP,Zg,Zq,get0,get1,get2',s2 k hk,e2,e3,ek]
 by_cases e4:w=1;rotate_left
 ·refine .fin me rfl (ZoH _) (fun k hk=> ?_) (fun k hk=> ?_)
  ·rw[Yx (by simp) (by simp) hc'];simp[ZW,Zo,Zg,Zp,Zc,get0,get1,get2',i2 k hk,e1,e2,e3,e4]
  ·rw[Yv (by simp) (by rw[hc'];simp)];simp[YP,Zg,Zq,get0,get1,get2',s2 k hk,e1,e2,e3,e4]
 subst e4;by_cases e5:b.Op=0∧b.N=1∧c.Op=0∧c.N=0
 ·obtain⟨q1,q2,q3,q4⟩:=e5;refine .fin ha h1 (by rw[cnt3];omega) (fun k hk=>?_) (fun k hk=>?_)
  ·rw[Yx (by simp) (by simp) hc'];simp[ZW,Zo,Zg,Zp,Zc,get0,get1,get2',i2 k hk,e1,e2,e3,q1,q2,q3,q4]
  ·rw[Yv (by simp) (by rw[hc'];simp)];simp[YP,Zg,Zq,get0,get1,get2',s2 k hk,e1,e2,e3,q1,q2,q3,q4]
 by_cases e6:b.Op=0∧b.N=0∧c.Op=0∧c.N=1
 ·obtain⟨q1,q2,q3,q4⟩:=e6;refine .go 5 6 (u:=⟨1,1,0,⟨[]⟩,[a]⟩) (XI (Zhs (.inl rfl) ha h1) rfl (by rw[cnt1,cnt3];omega)) (fun k hk=>?_) (fun k hk=>?_)
  ·rw[Yx (by simp) (by simp) hc'];simp[ZW,Zo,Zg,Zp,Zc,get0,get1,get2',i2 k hk,e1,e2,e3,q1,q2,q3,q4]
  ·rw[Yv (by simp) (by rw[hc'];simp)];simp[YP,Zg,Zq,get0,get1,get2',s2 k hk,e1,e2,e3,q1,q2,q3,q4]
 refine .fin me rfl (ZoH _) (fun k hk=>?_) (fun k hk=>?_)
 ·rw[Yx (by simp) (by simp) hc'];simp[ZW,Zo,Zg,Zp,Zc,get0,get1,get2',i2 k hk,e1,e2,e3];by_cases q1:b.Op=0<;>by_cases q2:c.Op=0<;>by_cases q3:b.N=0<;>by_cases q4:b.N=1<;>by_cases q5:c.N=0<;>by_cases q6:c.N=1<;>simp_all
 ·rw[Yv (by simp) (by rw[hc'];simp)];simp[YP,Zg,Zq,get0,get1,get2',s2 k hk,e1,e2,e3];by_cases q1:b.Op=0<;>by_cases q2:c.Op=0<;>by_cases q3:b.N=0<;>by_cases q4:b.N=1<;>by_cases q5:c.N=0<;>by_cases q6:c.N=1<;>simp_all
end Go.Proofs.YtbidabmbbieeiacGreatDoor
end
