/- Texts of this claim put into one: library or plain laws, without the program under test. -/
import Derived.Test.YtjhiajehpjpibaaGreatDoorPLib1
import Derived.Test.YtjhiajehpjpibaaGreatDoorLib3
set_option linter.unusedSimpArgs false
set_option linter.unusedVariables false
set_option linter.defProp false
section
namespace Go.Proofs.YtjhiajehpjpibaaGreatDoor
open Go.GL
open Cc (BS LS CircP Grow GoodL Good litN lines negs seqP ifP opP net RelB FOk FU)
set_option maxRecDepth 100000
variable{fuel:Nat}[FV fuel]
def wide1(t:D.Term):Bool:=(t.Op==2||decide (3<=t.Op/\t.Op<=16))&&(match t.Kids with|a::_=>a.W==16|[]=>false)
mutual
def wideB:D.Term->Bool
 |⟨op,w,m,nm,ks⟩=>wide1 ⟨op,w,m,nm,ks⟩||wideBs ks
def wideBs:List D.Term->Bool
 |[]=>false
 |t::l=>wideB t||wideBs l
end
def PY(t:D.Term):wideB t=(wide1 t||wideBs t.Kids):=by cases t;rw[wideB]
def PV(t:D.Term)(l:List D.Term):wideBs (t::l)=(wideB t||wideBs l):=by rw[wideBs]
def QM:wideBs []=false:=by rw[wideBs]
theorem JU{x:D.Term}:∀{l:List D.Term},wideBs l=false->x∈l->wideB x=false
 |y::l,h,hx=>by
  rw[PV,Zhe]at h;rcases ZfY.1 hx with rfl|hx
  ·exact h.1
  ·exact JU h.2 hx
theorem ZaF:∀(n:Nat)(t:D.Term),1048600+cnt t<=n->nodeB t=true->WP n t=some (wideB t):=by
 intro n
 induction n with
 |zero=>intro t h;omega
 | succ n ih=>
  intro t hn hb;have hcn:=Xk t;have hkl:t.Kids.length<=3:=by
   obtain⟨op,w,m,nm,ks⟩:=t;obtain⟨-,hsh⟩:=ZW hb;rcases hsh with⟨-,rfl,-⟩|⟨-,rfl,-⟩|⟨-,-,-,a,rfl,-⟩|⟨-,-,-,-,a,b,rfl,-⟩|⟨-,-,-,a,b,c,rfl,-⟩|⟨-,-,-,a,b,rfl,-⟩|⟨-,-,-,-,a,rfl,-⟩|⟨-,-,-,a,rfl,-⟩<;>simp
  have hone:((if(t.Op==2)then some default else(Xq t.Op)).bind λx1=>(if((t.Op==2)||x1)then(get? t.Kids 0)else some default).bind λx2=>some (((t.Op==2)||x1)&&(x2.W==16)))=some (wide1 t):=by
   have hk:(t.Op=2\/3<=t.Op/\t.Op<=16)->∃a l,t.Kids=a::l:=λho=>by
    obtain⟨op,w,m,nm,ks⟩:=t;obtain⟨-,hsh⟩:=ZW hb;simp only at ho;rcases hsh with⟨rfl,-⟩|⟨rfl,-⟩|⟨-,-,-,a,rfl,-⟩|⟨-,-,-,-,a,b,rfl,-⟩|⟨rfl,-⟩|⟨rfl,-⟩|⟨rfl,-⟩|⟨h1,-⟩
    ·omega
    ·omega
    ·exact⟨_,_,rfl⟩
    ·exact⟨_,_,rfl⟩
    ·omega
    ·omega
    ·omega
    ·omega
   unfold wide1 Xq;by_cases h2:t.Op=2
   ·obtain⟨a,l,hl⟩:=hk (.inl h2);simp[h2,hl,g0]
   ·have b2:(t.Op==2)=false:=by simpa using h2
    by_cases h3:3<=t.Op/\t.Op<=16
    ·obtain⟨a,l,hl⟩:=hk (.inr h3);simp[b2,hl,g0,h3]
    ·have:¬(t.Op>=3/\t.Op<=16):=h3;have e:(decide (t.Op>=3)&&decide (t.Op<=16))=false:=by simp;omega
     simp[b2,e,h3]
  rw[WP,PY];obtain⟨y1,hy1,hone⟩:=Zgf.1 hone;obtain⟨y2,hy2,hone⟩:=Zgf.1 hone;rw[hy1];simp only[Zf9];rw[hy2];simp only[Zf9];rw[Option.some.inj hone];cases hw1:wide1 t
  ·simp only[ZfB,ZfK,Zgl];refine Y5 (l:=t.Kids) (n:=n) (σ:=Unit) (λk _=>(k:Int)) (λys _=>wideBs ys=wideBs t.Kids/\∀y∈ys,y∈t.Kids) (λr=>r=if wideBs t.Kids=true then(.inr true:Unit⊕Bool)else .inl ())
    (λk x xs a hk hx hlen⟨h1,h2⟩=>by
     have hd:decide ((k:Int)<len t.Kids)=true:=by rw[Za];simp;omega
     have hxk:=h2 x U;have hc:=WC hxk;simp only[hd,ZfR,get?_nat,hx,Zf9,ih x O (nodeK hb x hxk)];rw[PV]at h1;cases hx':wideB x
     ·rw[hx']at h1;simp only[Zgl]at h1;simp only[ZfB,ZfK];exact .inl ⟨(),by rw[Zb];rfl,h1,λy hy=>h2 y ao⟩
     ·rw[hx']at h1;simp only[ZhE]at h1
      exact .inr ⟨_,rfl,by rw[<-h1];rfl⟩)
    (λa⟨h1,_⟩=>by
     have hd:decide ((t.Kids.length:Int)<len t.Kids)=false:=by rw[Za];simp
     simp only[hd,ZfB,ZfK];rw[QM]at h1
     exact⟨_,rfl,by rw[<-h1];rfl⟩) (a:=()) ⟨rfl,λ_ h=>h⟩ O λr g2=>?_
   rw[g2];cases wideBs t.Kids<;>rfl
  ·rfl
theorem DW {n:Nat}{x:Int}{w:Nat}(hw:w<=16):∀(d:Nat)(l:List Int),l.length+d=w->d<n->iterN (λ(s3:(List Int))=>if(decide ((len s3)<(w:Int)))then(app? s3 ([x]:List Int)).bind λx24=>some (.inl (x24))else some (.inr (s3))) n l=some (l++List.replicate d x)
  | 0,l,h,hn=>by
    obtain⟨n,rfl⟩:∃j,n=j+1:=⟨n-1,by omega⟩;rw[iterN];rw[ZfD ai];simp
  | d+1,l,h,hn=>by
    obtain⟨n,rfl⟩:∃j,n=j+1:=⟨n-1,by omega⟩;rw[iterN];rw[ZfC ai,Pi aa];simp only[Zf9];rw[DW hw d (l++[x]) aa O];rw[ZfO,Zgq,<-ZhA]
end Go.Proofs.YtjhiajehpjpibaaGreatDoor
end
section
namespace Go.Proofs.YtjhiajehpjpibaaGreatDoor
open Go.GL
open Cc (BS LS CircP Grow GoodL Good litN lines negs seqP ifP opP net RelB FOk FU)
set_option maxRecDepth 100000
variable{fuel:Nat}[FV fuel]
def MapOk(vs:List D.Value)(mp:List (Str×List Int)):Prop:=∀v∈vs,v.Name.bytes.length<=1000/\(mp.lookup v.Name).getD []=varL vs v.Name v.W.toNat
section
variable{vs:List D.Value}(hp:vs.Pairwise λx y=>x.Name≠y.Name){mp:List (Str×List Int)}(hmp:MapOk vs mp)
include hp hmp
theorem Zdr:∀(n:Nat)(t:D.Term)(s:BS)(m:D.builder),1048600+cnt t<=n->nodeB t=true->wideB t=false->TV vs t->CircP s.1->VF vs s.1->RelB m s->∃m',ZT n m t (some mp)=some ((nP vs t s).1,m')/\RelB m' (nP vs t s).2:=by
  intro n
  induction n with
  |zero=>omega
  | succ n ih=>
    intro t s m hn hb hwd ht hs hv hm
    haveI:FU n:=⟨by omega⟩
    have hw:=ZH hb;have hcn:=Xk t;have eW:((t.W.toNat:Nat):Int)=t.W:=by omega
    rw[PY,Zhe]at hwd;rw[ZT,Ac];by_cases h0:t.Op=0
    · rw[ZfC ah,ZfC h0,<-eW,IE O]
      simp_all
    rw[ZfD ah,ZfD h0];by_cases h22:t.Op=22
    · rw[ZfC ah,ZfC h22]
      obtain⟨v,hv1,hv2,hv3⟩:=ht (t.Name,t.W) (by simp_all[VS,ZfC]);simp only at hv2 hv3;obtain⟨q1,q2⟩:=hmp v hv1;rw[hv2]at q1 q2;rw[hv3]at q2;have e:mgeto? fitS ([]:List Int) (some mp) t.Name=some (varL vs t.Name t.W.toNat):=by
        simp_all[mgeto?,mget?,ZfC,fitS]<;>grind
      grind[Zg,varL,Pi,ER]
    rw[ZfD (by simpa using h22),ZfD h22];have hkg:∀x∈t.Kids,∀s:BS,CircP s.1->VF vs s.1->GoodL s x.W.toNat (nP vs x s):=λx hx s' hs' hv'=>OC hp _ x s' (ZfP _) (nodeK hb x hx) (Na ht h22 hx) hs' hv';obtain⟨q1,q2,q3⟩:=PE t.Kids s hkg hs hv;have hkl:t.Kids.length<=3:=by
      obtain⟨op,w,m,nm,ks⟩:=t;obtain⟨-,hsh⟩:=ZW hb;rcases hsh with⟨-,rfl,-⟩|⟨-,rfl,-⟩|⟨-,-,-,a,rfl,-⟩|⟨-,-,-,-,a,b,rfl,-⟩|⟨-,-,-,a,b,c,rfl,-⟩|⟨-,-,-,a,b,rfl,-⟩|⟨-,-,-,-,a,rfl,-⟩|⟨-,-,-,a,rfl,-⟩<;>simp
    rw[show mk? (len t.Kids) (([]:List Int):List Int)=some (List.replicate t.Kids.length [])from by rw[Za];unfold mk?;rw[ZfC ⟨by omega,by unfold room;omega⟩];simp];simp only[Zf9];obtain⟨r,g1,m',rfl,g2⟩:=Va (l:=t.Kids) (n:=n) (σ:=List (List Int)×D.builder) (ρ:=Int×Bool×(List D.Gate)×(List (D.Gate×Int))×(List (List Int))) (B:=λ(s1:Int×Int×Bool×(List D.Gate)×(List (D.Gate×Int))×(List (List Int)))=>if(decide (s1.1<(len t.Kids)))then(get? t.Kids s1.1).bind λx5=>(ZT n (D.builder.mk (D.Circuit.mk s1.2.1 s1.2.2.2.1) s1.2.2.2.2.1 s1.2.2.1) x5 (some mp)).bind λx6=>(set? s1.2.2.2.2.2 s1.1 x6.1).bind λx7=>some (.inl ((w64 (s1.1+1)),x6.2.c.Inputs,x6.2.full,x6.2.c.Gates,x6.2.line,x7))else some (.inr (s1.2.1,s1.2.2.1,s1.2.2.2.1,s1.2.2.2.2.1,s1.2.2.2.2.2))) (λk a=>((k:Int),a.2.c.Inputs,a.2.full,a.2.c.Gates,a.2.line,a.1))
      (λys a=>∃(pre:List (List Int))(s':BS),a.1=pre++List.replicate ys.length []/\pre++(nPs vs ys s').1=(nPs vs t.Kids s).1/\(nPs vs ys s').2=(nPs vs t.Kids s).2/\RelB a.2 s'/\CircP s'.1/\VF vs s'.1/\pre.length+ys.length=t.Kids.length/\∀y∈ys,y∈t.Kids)
      (λr=>∃m':D.builder,r=(m'.c.Inputs,m'.full,m'.c.Gates,m'.line,(nPs vs t.Kids s).1)/\RelB m' (nPs vs t.Kids s).2)
      (λk x xs a hk hx hlen'⟨pre,s',h0,h1,h2,hr,h3,h4,h5,h6⟩=>by
        have hd:decide ((k:Int)<len t.Kids)=true:=by rw[Za];simp;omega
        have hxk:=h6 x U;have hc:=WC hxk;obtain⟨m1,e,r1⟩:=ih x s' a.2 O (nodeK hb x hxk) (JU hwd.2 hxk) (Na ht h22 hxk) h3 h4 hr;have e':ZT n (D.builder.mk (D.Circuit.mk a.2.c.Inputs a.2.c.Gates) a.2.line a.2.full) x (some mp)=_:=e;have g:=hkg x hxk s' h3 h4;simp only[ZfS]at h5 hlen';have hpk:pre.length=k:=by omega
        have hset:set? a.1 (k:Int) (nP vs x s').1=some ((pre++[(nP vs x s').1])++List.replicate xs.length []):=by
          rw[h0,set?_nat aa,ZgI _ _ O,hpk,Zhm,ZfS,ZhA,Zht,ZfO,Zgq]
        simp only[hd,ZfR,get?_nat,hx,Zf9,e',hset];rw[Zb];rw[Jd]at h1 h2
        exact .inl ⟨((pre++[(nP vs x s').1])++List.replicate xs.length [],m1),rfl,pre++[(nP vs x s').1],(nP vs x s').2,rfl,by rw[<-h1];simp,h2,r1,g.circ,h4.mono g.grow,by simp;omega,λy hy=>h6 y ao⟩)
      (λa⟨pre,s',h0,h1,h2,hr,h3,h4,h5,h6⟩=>by
        have hd:decide ((t.Kids.length:Int)<len t.Kids)=false:=by rw[Za];simp
        simp only[hd,ZfB,ZfK];rw[Zaf]at h1 h2;simp only[Zgb,ZgR,ZhB]at h1 h0
        exact⟨_,rfl,a.2,by rw[h0,h1],by rw[<-h2];exact hr⟩) (a:=(List.replicate t.Kids.length [],m)) ⟨[],s,by simp,by simp,rfl,hm,hs,hv,by simp,λ_ h=>h⟩ O
    rw[show((0:Nat):Int)=0 from rfl]at g1;rw[show((List.replicate t.Kids.length ([]:List Int),m).2)=m from rfl,show((List.replicate t.Kids.length ([]:List Int),m).1)=List.replicate t.Kids.length []from rfl]at g1;rw[g1];simp only[Zf9]
    replace hwd:=hwd.1
    clear ih hkg g1 hv hs hkl eW hw hcn ht hn hm m
    rename D.builder=>m
    generalize nPs vs t.Kids s=z at q1 q2 q3 g2⊢;obtain⟨ls,s⟩:=z;have hs:=q1;have hk:=q3;have hm:=g2;clear q1 q2 q3 g2;simp only at hs hk hm⊢;obtain⟨op,w,mm,nm,ks⟩:=t;obtain⟨hw,hsh⟩:=ZW hb;simp only at h0 h22 hk⊢;have eW:((w.toNat:Nat):Int)=w:=by omega
    rcases hsh with⟨rfl,-⟩|⟨rfl,-⟩|⟨ho,-,-,a,rfl,ha,haw⟩|⟨h3,h16,-,-,a,b,rfl,ha,hb',hab,h13,h14⟩|⟨rfl,-,-,a,b,c,rfl,ha,hb',hc,ha1,hbw,hcw⟩|⟨rfl,-,-,a,b,rfl,ha,hb',habw⟩|⟨rfl,-,hm0,hm1,a,rfl,ha,haw⟩|⟨ho,-,-,a,rfl,ha,haw⟩
    · exact absurd rfl h0
    · exact absurd rfl h22
    · obtain⟨la,r1,k1,hn1,rfl⟩:=KK1 hk
      obtain rfl:=KK0 hn1;have hl:la.length=w.toNat:=by rw[k1.1,haw]
      rw[g0];simp only[Zf9];unfold fin;simp only[Zge];rcases ho with rfl|rfl
      · rw[ZfC ap,ZfC ax,Cc.impl_opp hs.lines1 O k1.2]
        exact⟨m,rfl,hm⟩
      · have hne:¬w.toNat=16:=λe=>by
          have:a.W=16:=by omega
          simp[wide1,this]at hwd
        rw[ifn,ZfC ap,ifn,ZfC ax,<-eW,IE O,Jv];simp only[Zf9,Zgr];rw[ZfD hne];obtain⟨m',e,r⟩:=Cc.impl_op (fuel:=n) hs (op:=4) (a:=List.replicate w.toNat (-1)) (b:=la) O (by simp[hl]) aa aa (NM hs) k1.2 hm;have e':Yr n (D.builder.mk (D.Circuit.mk m.c.Inputs m.c.Gates) m.line m.full) 4 (List.replicate w.toNat (-1)) la=_:=e;rw[e'];exact⟨m',rfl,r⟩
    · obtain⟨la,r1,k1,hn1,rfl⟩:=KK1 hk
      obtain⟨lb,r2,k2,hn2,rfl⟩:=KK1 hn1;obtain rfl:=KK0 hn2;have hA:=ZH ha;have hla:=k1.1;have hne:¬la.length=16:=λe=>by
        have:a.W=16:=by omega
        simp[wide1,this]at hwd;omega
      unfold fin;simp only[Zge,ZgC,g0,g1,Zf9];have bb:∀k:Int,k<=2\/17<=k->(op==k)=false:=λk hk=>by simp;omega
      have cc:∀k:Int,k<=2\/17<=k->¬op=k:=λk hk=>by omega
      simp only[bb 1 O,bb 2 O,bb 17 O,bb 18 O,bb 19 O,bb 20 O,bb 21 O,cc 1 O,cc 2 O,cc 17 O,cc 18 O,cc 19 O,cc 20 O,cc 21 O,ZfB,ZfK,Zhn];rw[ZfD hne];obtain⟨m',e,r⟩:=Cc.impl_op (fuel:=n) hs (op:=op) (a:=la) (b:=lb) ⟨h3,h16⟩ (by rw[k1.1,k2.1,hab]) O O k1.2 k2.2 hm;have e':Yr n (D.builder.mk (D.Circuit.mk m.c.Inputs m.c.Gates) m.line m.full) op la lb=_:=e;rw[e'];exact⟨m',rfl,r⟩
    · obtain⟨la,r1,k1,hn1,rfl⟩:=KK1 hk
      obtain⟨lb,r2,k2,hn2,rfl⟩:=KK1 hn1;obtain⟨lc,r3,k3,hn3,rfl⟩:=KK1 hn2;obtain rfl:=KK0 hn3;unfold fin;simp only[Zge,ZgC,g0,g1,g2,Zf9];rw[ifn,ifn,ZfC ap];rw[ifn,ifn,ZfC ax];have hla:=k1.1;have hlb:=k2.1;have hlc:=k3.1;rw[ha1]at hla;rw[hbw]at hlb;rw[hcw]at hlc;have hl1:la.length=1:=by simpa using hla
      have hg0:get? la 0=some (la.getD 0 0):=by
        obtain⟨z,hz⟩:=List.length_eq_one_iff.1 hl1;rw[hz];rfl
      have hc0:litN (lines s.1) (la.getD 0 0)=true:=k1.2 _ (Cc.getD_mem O);have hz:(lb.zip lc).length=w.toNat:=by rw[ZhI,hlb,hlc,Zim]
      rw[show mk? w (0:Int)=some (List.replicate w.toNat 0)from by unfold mk?;rw[ZfC ⟨by omega,by unfold room;omega⟩]];simp only[Zf9];refine Cc.ex_pair (Cc.seqE (λj L m=>((j:Int),L,m.c.Inputs,m.full,m.c.Gates,m.line)) (λL m=>(L,m.c.Inputs,m.full,m.c.Gates,m.line)) hs O (Zde hs hc0 k2.2 k3.2) (L0:=List.replicate w.toNat 0) (by rw[hz,Zg0]) (λj L m1 s' x hx hc' hg hr hL _=>?_) (λL m1=>?_) hm λm' r=>⟨_,rfl,m',rfl,r⟩)
      · have hj:j<w.toNat:=by have:=(ZfE.1 hx).1;omega
        have hz2:=Cc.zip_mem hx;obtain⟨m4,e4,r4⟩:=Cc.iif hc' (Tk hc0 hg) (Tk (k2.2 _ (ZfH hz2.1)) hg) (Tk (k3.2 _ (ZfH hz2.2)) hg) hr;refine⟨m4,?_,r4⟩;simp only;rw[ZfC ai,hg0];simp only[Zf9];rw[get?_nat,get?_nat,hz2.1,hz2.2];simp only[Zf9]
        erw [e4]
        simp only[Zf9];rw[set?_nat O];simp only[Zf9];rw[Zb];rfl
      · simp only
        rw[ZfD ai]
    · obtain⟨la,r1,k1,hn1,rfl⟩:=KK1 hk
      obtain⟨lb,r2,k2,hn2,rfl⟩:=KK1 hn1;obtain rfl:=KK0 hn2;have hA:=ZH ha;have hB:=ZH hb';have hla:=k1.1;have hlb:=k2.1;unfold fin;simp only[Zge,ZgC,g0,g1,Zf9];rw[ifn,ifn,ifn,ZfC ap];rw[ifn,ifn,ifn,ZfC ax];rw[Pi O];exact⟨m,rfl,hm⟩
    · obtain⟨la,r1,k1,hn1,rfl⟩:=KK1 hk
      obtain rfl:=KK0 hn1;have hA:=ZH ha;have hla:=k1.1;unfold fin;simp only[Zge,g0,Zf9];rw[ifn,ifn,ifn,ifn,ZfC ap];rw[ifn,ifn,ifn,ifn,ZfC ax];have:=Ah (l:=la) (m:=mm.toNat) (w:=w.toNat) O O;rw[show((mm.toNat:Nat):Int)=mm by omega,eW]at this;rw[this];exact⟨m,rfl,hm⟩
    · obtain⟨la,r1,k1,hn1,rfl⟩:=KK1 hk
      obtain rfl:=KK0 hn1;have hA:=ZH ha;have hla:=k1.1;have hpad:∀x:Int,_:=λx=>DW (n:=n) (x:=x) (w:=w.toNat) O (w.toNat-la.length) la O (by have:=FU.le (n:=n);omega);rw[eW]at hpad;unfold fin;simp only[Zge,g0,Zf9];rcases ho with rfl|rfl
      · rw[ifn,ifn,ifn,ifn,ifn,ZfC ap,ifn]
        rw[ifn,ifn,ifn,ifn,ifn,ZfC ax];rw[hpad];exact⟨m,rfl,hm⟩
      · rw[ifn,ifn,ifn,ifn,ifn,ZfC ap,ZfC ap]
        rw[ZcO O O];simp only[Zf9];rw[hpad];exact⟨m,rfl,hm⟩
end
end Go.Proofs.YtjhiajehpjpibaaGreatDoor
end
section
namespace Go.Proofs.YtjhiajehpjpibaaGreatDoor
open Go.GL
open Cc (BS LS CircP Grow GoodL Good litN lines negs seqP ifP opP net RelB FOk FU andP orP xorP addP accP mulK divK shP shK)
set_option maxRecDepth 100000
variable{fuel:Nat}[FV fuel]
def Qn{s:BS}{a b:Int}(h:s.2=true):(andP s a b).2.2=true:=by
 unfold andP;split
 ·exact h
 split
 ·exact h
 split
 ·exact h
 split
 ·exact h
 split
 ·rfl
 ·exact h
def Dv{s:BS}{a b:Int}(h:s.2=true):(orP s a b).2.2=true:=Qn h
def Fj{s:BS}{a b:Int}(h:s.2=true):(xorP s a b).2.2=true:=Dv (Qn (Qn h))
def Az{s:BS}{c a b:Int}(h:s.2=true):(ifP s c a b).2.2=true:=Dv (Qn (Qn h))
theorem Zcw{α:Type}{f:BS->α->Int×BS}(hf:∀s x,s.2=true->(f s x).2.2=true):∀{l:List α}{t:LS},t.2.2=true->(l.foldl (λt x=>(t.1++[(f t.2 x).1],(f t.2 x).2)) t).2.2=true
 |[],t,h=>h
 |x::l,t,h=>Zcw hf (l:=l) (t:=(t.1++[(f t.2 x).1],(f t.2 x).2)) (hf _ _ h)
def RU{α:Type}{f:BS->α->Int×BS}(hf:∀s x,s.2=true->(f s x).2.2=true){l:List α}{s:BS}(h:s.2=true):(seqP f s l).2.2=true:=Zcw hf (t:=([],s)) h
theorem Zab{α:Type}{f:BS->Int->α->Int×BS}(hf:∀s c x,s.2=true->(f s c x).2.2=true):∀{l:List α}{s:BS}{c:Int},s.2=true->(accP f s c l).2.2=true:=by
 have:∀{l:List α}{t:Int×BS},t.2.2=true->(l.foldl (λt x=>f t.2 t.1 x) t).2.2=true:=λ{l}=>by
  induction l with
  |nil=>intro t h;exact h
  |cons x l ih=>intro t h;exact ih (hf _ _ _ h)
 exact λ{l s c}h=>this (t:=(c,s)) h
theorem MG{s:BS}{a b:List Int}{c:Int}(h:s.2=true):(addP s a b c).2.2.2=true:=by
 have:∀{l:List (Int×Int)}{t:Cc.AS},t.2.2.2=true->(l.foldl Cc.addStep t).2.2.2=true:=λ{l}=>by
  induction l with
  |nil=>intro t h;exact h
  |cons x l ih=>intro t h;exact ih (Dv (Qn (Qn (Fj (Fj h)))))
 exact this (t:=([],c,s)) h
theorem Zc7{s:BS}{a b:List Int}(h:s.2=true):∀k,(mulK s a b k).2.2=true
 |0=>h
 |k+1=>by rw[Cc.mulK_succ];exact MG (RU (λs x h=>Qn h) (Zc7 h k))
theorem CL{s:BS}{a b:List Int}(h:s.2=true):∀k,(divK s a b k).2.2.2=true
 |0=>h
 |k+1=>by rw[Cc.divK_succ];exact RU (λs x h=>Az h) (MG (CL h k))
theorem Zdb{s:BS}{a b:List Int}{L:Bool}{fill:Int}(h:s.2=true):∀k,(shK s a b L fill k).2.2=true
 |0=>h
 |k+1=>by rw[Cc.shK_succ];exact RU (λs x h=>Az h) (Zdb h k)
def Zdn{s:BS}{a b:List Int}{L:Bool}{fill:Int}(h:s.2=true):(shP s a b L fill).2.2=true:=RU (λs x h=>Az h) (Zab (λs c x h=>Dv h) (Zdb h _))
def WA{c:Prop}[Decidable c]{x y:LS}(h1:x.2.2=true)(h2:y.2.2=true):(if c then x else y).2.2=true:=by split<;>assumption
def Zf3{s:BS}{op:Int}{a b:List Int}(h:s.2=true):(opP s op a b).2.2=true:=by
 unfold opP;exact WA (MG h) (WA (MG h) (WA (Zc7 h _) (WA (CL h _) (WA (CL h _) (WA (RU (λs x h=>Qn h) h) (WA (RU (λs x h=>Dv h) h) (WA (RU (λs x h=>Fj h) h) (WA (Zdn h) (WA (Zdn h) (WA (Zdn h) (WA (Zab (λs c x h=>Qn (Fj h)) h) (WA (MG h) (MG h)))))))))))))
def ZbH{op:Int}{w m:Nat}{ls:List (List Int)}{s:BS}(h:s.2=true):(fin op w m ls s).2.2=true:=by
 unfold fin
 repeat' split
 all_goals first|exact h|rfl|exact Zf3 h|exact RU (λs x h=>Az h) h
mutual
theorem Zf7(vs:List D.Value):∀(t:D.Term)(s:BS),s.2=true->(nP vs t s).2.2=true
 |⟨op,w,m,nm,ks⟩,s,h=>by
  rw[nP];split
  ·exact h
  split
  ·exact h
  ·exact ZbH (Bd vs ks s h)
theorem Bd(vs:List D.Value):∀(l:List D.Term)(s:BS),s.2=true->(nPs vs l s).2.2=true
 |[],s,h=>by rw[nPs];exact h
 |t::l,s,h=>by rw[nPs];exact Bd vs l _ (Zf7 vs t s h)
end
theorem Zbh{vs:List D.Value}(hp:vs.Pairwise λx y=>x.Name≠y.Name):∀(n:Nat)(t:D.Term)(s:BS),cnt t<=n->nodeB t=true->wideB t=true->TV vs t->CircP s.1->VF vs s.1->(nP vs t s).2.2=true:=by
 intro n
 induction n with
 |zero=>intro t s h;have:=Xk t;omega
 | succ n ih=>
  intro t s hc hb hwd ht hs hv;have hcn:=Xk t;rw[Ac];by_cases h0:t.Op=0
  ·exfalso;obtain⟨op,w,m,nm,ks⟩:=t;obtain⟨-,hsh⟩:=ZW hb;simp only at h0;subst h0;rcases hsh with⟨-,rfl,-⟩|⟨h,-⟩|⟨h,-⟩|⟨h,-⟩|⟨h,-⟩|⟨h,-⟩|⟨h,-⟩|⟨h,-⟩
   ·rw[PY]at hwd;simp[wide1,QM]at hwd
   all_goals omega
  rw[ZfD h0];by_cases h22:t.Op=22
  ·exfalso;obtain⟨op,w,m,nm,ks⟩:=t;obtain⟨-,hsh⟩:=ZW hb;simp only at h22;subst h22;rcases hsh with⟨h,-⟩|⟨-,rfl,-⟩|⟨h,-⟩|⟨-,h,-⟩|⟨h,-⟩|⟨h,-⟩|⟨h,-⟩|⟨h,-⟩
   ·omega
   ·rw[PY]at hwd;simp[wide1,QM]at hwd
   all_goals omega
  rw[ZfD h22];have hkg:∀x∈t.Kids,∀s:BS,CircP s.1->VF vs s.1->GoodL s x.W.toNat (nP vs x s):=λx hx s' hs' hv'=>OC hp _ x s' (ZfP _) (nodeK hb x hx) (Na ht h22 hx) hs' hv';obtain⟨q1,q2,q3⟩:=PE t.Kids s hkg hs hv;rw[PY,Zgx]at hwd;rcases hwd with hwd|hwd
  ·
   obtain⟨op,w,m,nm,ks⟩:=t;obtain⟨hw,hsh⟩:=ZW hb;unfold wide1 at hwd;simp only[ZfF,Zgx,Zhc,ZfN]at hwd;obtain⟨ho,hk⟩:=hwd;simp only at h0 h22 q1 q2 q3⊢;rcases hsh with⟨rfl,-⟩|⟨rfl,-⟩|⟨ho',-,-,a,rfl,ha,haw⟩|⟨h3,h16,-,-,a,b,rfl,ha,hb',hab,h13,h14⟩|⟨rfl,-⟩|⟨rfl,-⟩|⟨rfl,-⟩|⟨ho',-⟩
   ·omega
   ·omega
   ·have h2:op=2:=by omega
    subst h2;simp only[Zhc]at hk;unfold fin;rw[ifn,ZfC rfl,ifp]
   ·simp only[Zhc]at hk;obtain⟨la,r1,k1,hn1,e⟩:=KK1 q3;have hl:((nPs vs [a,b] s).1.getD 0 []).length=16:=by rw[e,Zge,k1.1,hk];rfl
    unfold fin;rw[ifn,ifn,ifn,ifn,ifn,ifn,ifn,ZfC hl]
   all_goals omega
  ·refine ZbH ?_;have:∀(l:List D.Term)(s:BS),(∀x∈l,x∈t.Kids)->wideBs l=true->CircP s.1->VF vs s.1->(nPs vs l s).2.2=true:=λl=>by
    induction l with
    |nil=>intro s _ h;rw[QM]at h;cases h
    |cons x l ihl=>
     intro s hm h hs' hv';rw[PV,Zgx]at h;rw[Jd];have hx:=hm x U;have g:=hkg x hx s hs' hv';rcases h with h|h
     ·exact Bd vs l _ (ih x s (by have:=WC hx;omega) (nodeK hb x hx) h (Na ht h22 hx) hs' hv')
     ·exact ihl _ (λy hy=>hm y ao) h g.circ (hv'.mono g.grow)
   exact this t.Kids s (λ_ h=>h) hwd hs hv
end Go.Proofs.YtjhiajehpjpibaaGreatDoor
end
section
namespace Go.Proofs.YtjhiajehpjpibaaGreatDoor
open Go.GL
set_option maxRecDepth 100000
variable{fuel:Nat}[FV fuel]
def Ev{t:D.Term}(h:nodeB t=true)(ho:t.Op=22):t.Name.bytes.length<=8/\t.Kids=[]:=by
 rw[X3,ZfF]at h;have h:=h.1;unfold locB shB at h;simp only[ho,ZfF]at h;have h:=h.2;simp[nameB]at h;exact⟨by omega,by simpa using h.1⟩
theorem collect:∀(n:Nat)(t:D.Term)(g:List (Str×Int)),nodeB t=true->msz t<=1048576->g.length+(vrs t).length<=1000->1048580+cnt t<=n->YC n t (some g)=some (some ((vrs t).reverse++g)):=by
 intro n
 induction n with
 |zero=>intro t g _ _ _ _;omega
 | succ n ih=>
  intro t g hb hs hg hn;have hz:=Ux t;have hcn:=Xk t;rw[YC];by_cases o1:t.Op=22
  ·obtain⟨h1,h2⟩:=Ev hb o1;have hv:vrs t=[(t.Name,t.W)]:=by rw[VS,ZfC o1]
   have c1:(t.Op==22)=true:=by simpa using o1
   have hw:=ZH hb;rw[hv]at hg;simp only[c1,ZfR,Zf9,put1 (g:=g) (s:=t.Name) O hw (by simp at hg;omega)];obtain⟨m,rfl⟩:∃m,n=m+1:=⟨n-1,by omega⟩;rw[h2,hv];rfl
  ·have c1:(t.Op==22)=false:=by simpa using o1
   have hv:vrs t=vrss t.Kids:=by rw[VS,ZfD o1]
   simp only[c1,ZfB,ZfK];rw[X3,ZfF,Ye,ZfV]at hb;rw[hv]at hg⊢;refine Y5 (l:=t.Kids) (n:=n) (σ:=Option (List (Str×Int))) (λk a=>((k:Int),a)) (λys a=>∃ga,a=some ga/\(vrss ys).reverse++ga=(vrss t.Kids).reverse++g/\ga.length+(vrss ys).length<=1000/\∀x∈ys,x∈t.Kids)
     (λr=>r=some ((vrss t.Kids).reverse++g))
     (λk x xs a hk' hx hlen⟨ga,i0,i1,i2,i3⟩=>by
      have hxk:=i3 x U;have:=VU hxk;have:=WC hxk;have hd:decide ((k:Int)<len t.Kids)=true:=by rw[Za];simp;omega
      rw[Xm,ZfI]at i2;rw[Xm,List.reverse_append]at i1;subst i0;simp only[hd,ZfR,get?_nat,hx,Zf9];rw[ih x ga (hb.2 x hxk) O O O]
      refine .inl ⟨some ((vrs x).reverse++ga),by simp only[Zf9];rw[Zb];rfl,_,rfl,by rw[<-i1,ZfO],by simp;omega,λy hy=>i3 y ao⟩)
     (λa⟨ga,i0,i1,i2,i3⟩=>by
      have hd:decide ((t.Kids.length:Int)<len t.Kids)=false:=by rw[Za];simp
      simp only[hd,ZfB,ZfK];rw[WX]at i1
      exact⟨_,rfl,by rw[i0,<-i1];rfl⟩) (a:=some g) ⟨g,rfl,rfl,hg,λx hx=>hx⟩ O λr g2=>?_
   subst g2;rfl
theorem KQ{κ β:Type}[BEq κ][LawfulBEq κ]{x:κ}{y:β}:∀{m:List (κ×β)},m.lookup x=some y->(x,y)∈m
 |[],h=>by cases h
 | (u,z)::m,h=>by
  rw[ZfZ]at h;by_cases e:x==u
  ·rw[e]at h;simp only[Option.some.injEq]at h;rw[eq_of_beq e,h];exact Zgi
  ·simp only[e]at h;exact ZfT _ (KQ h)
theorem GD{κ β:Type}[BEq κ][LawfulBEq κ]{x:κ}{y:β}:∀{m:List (κ×β)},(x,y)∈m->∃z,m.lookup x=some z
 | (u,z)::m,h=>by
  rw[ZfZ];by_cases e:x==u
  ·rw[e];exact⟨z,rfl⟩
  ·simp only[e];rcases ZfY.1 h with h|h
   ·simp only[Prod.mk.injEq]at h;rw[h.1]at e;simp at e
   ·exact GD h
def Gb{t:D.Term}(h:termB t=true)(hs:msz t<=1048576):Vw fuel t=some (vtab (vrs t).reverse):=by
 unfold Vw;rw[Qu hs,h];unfold termB at h;simp only[ZfF,ZfN]at h;have hv:=Jl t;simp only[Zf9,ZfJ,ZfB,ZfK];rw[collect fuel t [] h.1.2 hs aa ag];simp only[Zf9,Zgb];rw[ZfC aa]
end Go.Proofs.YtjhiajehpjpibaaGreatDoor
end
section
namespace Go.Proofs.YtjhiajehpjpibaaGreatDoor
open Go.GL
open Cc (BS LS CircP Grow GoodL Good litN lines negs seqP ifP opP net RelB FOk FU)
set_option maxRecDepth 100000
variable{fuel:Nat}[FV fuel]
instance:FU fuel:=⟨by have:=FV.le (n:=fuel);omega⟩
theorem DX:∀{l g g':List (Str×Int)},runV g l=some g'->∀p:Str×Int,g'.lookup p.1=some p.2->g.lookup p.1=some p.2\/p∈l
 |[],g,g',h,p,hp=>by simp only[runV,Option.some.injEq]at h;subst h;exact .inl hp
 | v ::l,g,g',h,p,hp=>by
  simp only[runV,Zgf]at h;obtain⟨g1,h1,h2⟩:=h;rcases DX h2 p hp with h3|h3
  ·unfold stp at h1;split at h1
   ·split at h1
    ·cases h1;exact .inl h3
    ·cases h1
   ·cases h1;obtain⟨s,w⟩:=p;obtain⟨s',w'⟩:=v;simp only[List.lookup]at h3;split at h3
    ·rename_i e;have e:s=s':=by simpa using e
     cases h3;exact .inr (by rw[e];simp)
    ·exact .inl h3
  ·exact .inr (ZfT _ h3)
def vrt(t:D.Term):List D.Value:=vtab (vrs t).reverse
structure VL(t:D.Term)(L:List D.Value):Prop where
 eq:L=vrt t
 nm:L.Pairwise λx y=>x.Name≠y.Name
 mem:∀v∈L,(v.Name,v.W)∈vrs t
 all:TV L t
def ZeX{a b:Str}(h:Str.ltb a b=true):a≠b:=λe=>by
 subst e;have:=QV a;rw[this]at h;cases h
theorem OU{t:D.Term}(h:termB t=true)(hs:msz t<=1048576):WM fuel t=some (vrt t)/\VL t (vrt t):=by
 suffices∃L,WM fuel t=some L/\VL t L by
  obtain⟨L,h1,h2⟩:=this;have:=h2.eq;subst this;exact⟨h1,h2⟩
 have hb:=h;unfold termB at hb;simp only[ZfF,ZfN]at hb;obtain⟨⟨hc,hn⟩,hr⟩:=hb;have hv:=Jl t;obtain⟨l',b,e,hT,hF⟩:=Ho fuel t [] [] hs ⟨List.Pairwise.nil,rfl,λv hv=>(by cases hv),λs w h=>(by simp at h)⟩ aa ag;cases b with
 |false=>rw[hF rfl]at hr;cases hr
 | true=>
  obtain⟨g',hg,hR⟩:=hT rfl;obtain⟨r1,r2,r3,r4⟩:=hR;have hlk:=(LA hg).2;have hmem:∀s w,g'.lookup s=some w->(s,w)∈vrs t:=λs w h=>by
   rcases DX hg (s,w) h with h|h
   ·simp at h
   ·exact h
  have hrev:∀s w,(vrs t).reverse.lookup s=some w↔g'.lookup s=some w:=λs w=>by
   constructor
   ·intro h;exact hlk (s,w) (Zif.1 (KQ h))
   ·intro h;obtain⟨z,hz⟩:=GD (Zif.2 (hmem s w h));have:=hlk (s,z) (Zif.1 (KQ hz));rw[h]at this;rw[hz,Option.some.inj this]
  refine⟨l',?_,?_,?_,?_,?_⟩
  ·unfold WM;rw[Ul hs,h];simp only[Zf9,ZfJ,ZfB,ZfK];rw[e];rfl
  ·refine Zcq r1 (Oj _) λv=> ?_;rw[vrt,Qo];constructor
   ·exact λhx=>⟨(hrev _ _).2 (r3 v hx).1,(r3 v hx).2⟩
   ·rintro⟨h1,h2⟩;have h1':=(hrev _ _).1 h1;obtain⟨x,hx,hxn⟩:=r4 _ _ h1';have:=r3 x hx;rw[hxn,h1']at this;cases v;cases x;simp_all
  ·exact r1.imp λh=>ZeX h
  ·exact λv hv=>hmem _ _ (r3 v hv).1
  ·intro p hp;have:=hlk p hp;obtain⟨x,hx,hxn⟩:=r4 _ _ this;have h2:=(r3 x hx).1;rw[hxn,this]at h2;exact⟨x,hx,hxn,(Option.some.inj h2).symm⟩
end Go.Proofs.YtjhiajehpjpibaaGreatDoor
end
section
namespace Go.Proofs.YtjhiajehpjpibaaGreatDoor
open Go.GL
open Cc (BS LS CircP Grow GoodL Good litN lines negs seqP ifP opP net RelB FOk FU)
set_option maxRecDepth 100000
variable{fuel:Nat}[FV fuel]
def bitsV(l:List D.Value)(a:Int):Int:=(l.map (·.W)).foldl (· + ·) a
def Bf(v:D.Value)(l:List D.Value)(a:Int):bitsV (v::l) a=bitsV l (a+v.W):=rfl
def Zax{L:List D.Value}(hl:L.length<=1000)(hw:∀v∈L,1<=v.W/\v.W<=16):Su fuel L=some (bitsV L 0):=by
 refine Y5 (l:=L) (n:=fuel) (σ:=Int) (λk a=>(a,(k:Int))) (λys a=>bitsV ys a=bitsV L 0/\0<=a/\a<=16*(L.length-ys.length:Int)/\∀y∈ys,y∈L) (λr=>r=bitsV L 0)
  (λk x xs a hk hx hlen⟨h1,h2,h3,h4⟩=>by
   have hd:decide ((k:Int)<len L)=true:=by grind[Za]
   have hxw:=hw x (h4 x U);simp only[ZfS]at hlen h3;simp only[hd,ZfR,get?_nat,hx,Zf9]
   exact .inl ⟨a+x.W,by grind[Zb],h1,by omega,by omega,λy hy=>h4 y ao⟩)
  (λa⟨h1,_⟩=>by
   have hd:decide ((L.length:Int)<len L)=false:=by simp[Za]
   simp only[hd,ZfB,ZfK]
   exact⟨_,rfl,h1⟩) (a:=0) ⟨rfl,by omega,by omega,λy h=>h⟩ (lt_fuel (fuel:=fuel)) λr g2=>?_
 simp_all
def Zap{a:Int}{w:Nat}(hw:w<=16)(h0:0<=a)(h1:a<=100000):iterN (λ(s2:Int×Int×(List Int))=>if(decide (s2.2.1>=0))then(set? s2.2.2 s2.2.1 (w64 (2+s2.1))).bind λx6=>some (.inl ((w64 (s2.1+1)),(w64 (s2.2.1-1)),x6))else some (.inr (s2.1,s2.2.2))) fuel (a,(w:Int)-1,List.replicate w 0)=some (a+w,(List.range w).map λk:Nat=>1+a+(w:Int)-(k:Int)):=by
  rw[ZG (I:=λk t=>t=(a+(k:Int),(w:Int)-1-(k:Int),List.replicate (w-k) 0++(List.range k).map λi:Nat=>1+a+(k:Int)-(i:Int))) (m:=w) (r:=(a+(w:Int),(List.range w).map λk:Nat=>1+a+(w:Int)-(k:Int))) (λk t hk ht=>?_) (λt ht=>?_) w 0 _ O U fuel (lt_fuel (fuel:=fuel))]
  all_goals subst ht
  · simp only
    rw[ZfC aa,show(w:Int)-1-(k:Int)=((w-1-k:Nat):Int) by omega,set?_nat aa,Zb (x:=2+(a+(k:Int))) O O];rw[Zb,Zb];have e:(List.replicate (w-k) (0:Int)++(List.range k).map λi:Nat=>1+a+(k:Int)-(i:Int)).set (w-1-k) (2+(a+(k:Int)))=List.replicate (w-(k+1)) 0++(List.range (k+1)).map λi:Nat=>1+a+((k+1:Nat):Int)-(i:Int):=by
      rw[List.set_append_left _ _ aa,show w-k=(w-(k+1))+1 by omega,Zhg,ZgI _ _ aa,Zg0,show w-1-k-(w-(k+1))=0 by omega,Zht,ZfO,Zgq,List.range_succ_eq_map,Zgu,List.map_map];simp_all[List.map_congr_left,Function.comp]<;>grind
    grind
  grind
theorem AO{x:D.Value}{ys:List D.Value}:∀{pre:List D.Value}{a:Int},(∀v∈pre,v.Name≠x.Name)->atV (pre++x::ys) a x.Name=bitsV pre a+x.W
 |[],a,_=>by
  show(if Str.eqb x.Name x.Name=true then a+x.W else _)=_;rw[ZfC (UV _)];rfl
 |v::pre,a,h=>by
  show(if Str.eqb v.Name x.Name=true then a+v.W else atV (pre++x::ys) (a+v.W) x.Name)=_;rw[ZfD (by simp_all[Sw])];exact AO λu hu=>h u (by simp[hu])
def Zc4{L:List D.Value}(hl:L.length<=1000)(hw:∀v∈L,1<=v.W/\v.W<=16)(hn:∀v∈L,v.Name.bytes.length<=1000)(hp:L.Pairwise λx y=>x.Name≠y.Name):∃mp,iterN (λ(s1:Int×Int×(List (Str×List Int)))=>if (decide (s1.2.1<(len L)))then(get? L s1.2.1).bind λx4=>(mk? x4.W (0:Int)).bind λx5=>(iterN (λ(s2:Int×Int×(List Int))=>if(decide (s2.2.1>=0))then(set? s2.2.2 s2.2.1 (w64 (2+s2.1))).bind λx6=>some (.inl ((w64 (s2.1+1)),(w64 (s2.2.1-1)),x6))else some (.inr (s2.1,s2.2.2))) fuel (s1.1,(w64 (x4.W-1)),x5)).bind λ(rl2:Int×(List Int))=>(mput? fitS s1.2.2 x4.Name rl2.2).bind λx7=>some (.inl (rl2.1,(w64 (s1.2.1+1)),x7))else some (.inr (s1.1,s1.2.2))) fuel (0,0,([]:List (Str×List Int)))=some (bitsV L 0,mp)/\MapOk L mp:=by
  refine Cc.ex_pair (Va (l:=L) (n:=fuel) (σ:=Int×List (Str×List Int)) (ρ:=Int×List (Str×List Int)) (λk a=>(a.1,(k:Int),a.2))
    (λys a=>∃pre,pre++ys=L/\a.1=bitsV pre 0/\0<=a.1/\a.1<=16*pre.length/\a.2.length=pre.length/\∀v∈pre,a.2.lookup v.Name=some (varL L v.Name v.W.toNat))
    (λr=>∃mp,r=(bitsV L 0,mp)/\MapOk L mp)
    (λk x xs a hk hx hlen⟨pre,h1,h2,h3,h4,h5,h6⟩=>by
      have hxL:x∈L:=by grind
      have hxw:=hw x hxL;have hpl:pre.length<=L.length:=by grind
      have hd:decide ((k:Int)<len L)=true:=by grind[Za]
      have eW:((x.W.toNat:Nat):Int)=x.W:=by omega
      have hz:L[k]? =some x:=by simp_all
      have hne:∀v∈pre,v.Name≠x.Name:=λv hv=>by
        grind
      have hat:atV L 1 x.Name=1+a.1+x.W:=by
        rw[<-h1,AO hne,h2];have:=Oy (pre.map (·.W)) 1 0;unfold bitsV;rw[show(1:Int)+0=1 from rfl]at this;rw[this]
      simp only[hd,ZfR,get?_nat,hz,Zf9];rw[show mk? x.W (0:Int)=some (List.replicate x.W.toNat 0)from by unfold mk?;rw[ZfC ⟨by omega,by unfold room;omega⟩]];simp only[Zf9];rw[Zb (x:=x.W-1)];have:=Zap (fuel:=fuel) (a:=a.1) (w:=x.W.toNat) O h3 O;rw[eW]at this;rw[this];simp only[Zf9]
      rw[show mput? fitS a.2 x.Name ((List.range x.W.toNat).map λk:Nat=>1+a.1+x.W-(k:Int))=some ((x.Name,varL L x.Name x.W.toNat)::a.2)from by
        unfold mput?;rw[ZfC ⟨by have:=hn x hxL;unfold fitS;simp;omega,by unfold room;omega⟩]
        unfold varL;rw[hat]]
      simp only[Zf9];rw[Zb];refine .inl ⟨(a.1+x.W,(x.Name,varL L x.Name x.W.toNat)::a.2),rfl,pre++[x],by rw[ZfO];exact h1,?_,by show 0<=a.1+x.W;omega,by simp;omega,by simp[h5],λv hv=>?_⟩
      · show a.1+x.W=bitsV (pre++[x]) 0
        unfold bitsV;rw[ZgA,ZgD,h2];rfl
      · rcases ZfG.1 hv with hv|hv
        · have hn:=hne v hv
          rw[ZfZ,show(v.Name==x.Name)=false by simpa using hn];exact h6 v hv
        · rw[ZfL]at hv
          subst hv
          simp)
    (λa⟨pre,h1,h2,h3,h4,h5,h6⟩=>by
      have hd:decide ((L.length:Int)<len L)=false:=by rw[Za];simp
      simp only[hd,ZfB,ZfK];rw[Zgb]at h1;subst h1
      exact⟨_,rfl,a.2,by rw[h2],λv hv=>⟨hn v hv,by rw[h6 v hv];rfl⟩⟩) (a:=(0,[])) ⟨[],rfl,rfl,by omega,by simp,rfl,λv hv=>by cases hv⟩ (lt_fuel (fuel:=fuel)))
end Go.Proofs.YtjhiajehpjpibaaGreatDoor
end
section
namespace Go.Proofs.YtjhiajehpjpibaaGreatDoor
open Go.GL
set_option maxRecDepth 100000
variable{fuel:Nat}[FV fuel]
def upI(k:Int)(L:Nat):List Int:=(List.range L).map λ(j:Nat)=>k+(j:Int)
def NQ(k:Int)(L:Nat):(upI k L).length=L:=by simp[upI]
def Eg{k:Int}{L i:Nat}(h:i<L):(upI k L)[i]? =some (k+(i:Int)):=by simp[upI,h]
def LM{p:List Int}{k:Int}(hk:0<=k)(hb:k<=100000000000000000)(hp:p.length<=1048576):Vb fuel p k=some (k+p.length,upI k p.length):=by
 unfold Vb;rw[ZG (I:=λi s=>s=(k+(i:Int),(i:Int),pre (λ(j:Nat)=>k+(j:Int)) p i)) (m:=p.length) (r:=(k+(p.length:Int),upI k p.length)) (λi s hi hs=>?_) (λs hs=>?_) p.length 0 _ O (by simp[KS]) fuel (lt_fuel (fuel:=fuel) hp)]
 ·rfl
 ·subst hs;refine⟨_,?_,rfl⟩;simp only;rw[ZfC ai,set?_nat (by rw[FM O];exact hi),Fx hi];simp only[Zf9];rw[Zb,Zb];simp only[Option.some.injEq,Sum.inl.injEq,Prod.mk.injEq,Zh6];omega
 ·subst hs;simp only;rw[ZfD ar,FC];rfl
theorem LY{L:Nat}{k:Int}(hk:0<=k)(hb:k<=100000000000000000)(hp:L<=1048576):Vf fuel (upI k L) k=some (k+L):=by
 unfold Vf;rw[ZG (I:=λi s=>s=(k+(i:Int),(i:Int))) (m:=L) (r:=.inl (k+(L:Int))) (λi s hi hs=>?_) (λs hs=>?_) L 0 _ O U fuel (lt_fuel (fuel:=fuel) hp)]
 ·rfl
 ·subst hs;refine⟨_,?_,rfl⟩;simp only;rw[ZfC (by rw[Za,NQ];simp;omega),get?_nat,Eg hi];simp only[Zf9];rw[ifn,Zb,Zb];simp only[Option.some.injEq,Sum.inl.injEq,Prod.mk.injEq];omega
 ·subst hs;simp only;rw[ZfD (by rw[Za,NQ];simp)]
def DL{p:List D.Ins}{k:Int}(hk:0<=k)(hb:k<=100000000000000000)(hp:p.length<=1048576):∃r,TH fuel p k=some (k+4*p.length,r):=by
 refine⟨(List.range p.length).map λ(j:Nat)=>⟨k+4*(j:Int),k+4*(j:Int)+1,k+4*(j:Int)+2,k+4*(j:Int)+3⟩,?_⟩;unfold TH;rw[ZG (I:=λi s=>s=(k+4*(i:Int),(i:Int),pre (λ(j:Nat)=>(⟨k+4*(j:Int),k+4*(j:Int)+1,k+4*(j:Int)+2,k+4*(j:Int)+3⟩:D.Ins)) p i)) (m:=p.length) (r:=(k+4*(p.length:Int),(List.range p.length).map λ(j:Nat)=>(⟨k+4*(j:Int),k+4*(j:Int)+1,k+4*(j:Int)+2,k+4*(j:Int)+3⟩:D.Ins))) (λi s hi hs=>?_) (λs hs=>?_) p.length 0 _ O (by simp[KS]) fuel (lt_fuel (fuel:=fuel) hp)]
 ·rfl
 ·subst hs;refine⟨_,?_,rfl⟩;have hl:=FM (f:=λ(j:Nat)=>(⟨k+4*(j:Int),k+4*(j:Int)+1,k+4*(j:Int)+2,k+4*(j:Int)+3⟩:D.Ins)) (p:=p) (i:=i) O;simp only;rw[ZfC ai,get?_nat,ZdE hi,ZfA hi];simp only[Zf9];rw[set?_nat aS];simp only[Zf9];rw[get?_nat,Zhr aS];simp only[Zf9];rw[set?_nat (by simp[hl];exact hi),List.set_set];simp only[Zf9];rw[get?_nat,Zhr aS];simp only[Zf9];rw[set?_nat (by simp[hl];exact hi),List.set_set];simp only[Zf9];rw[get?_nat,Zhr aS];simp only[Zf9];rw[set?_nat (by simp[hl];exact hi),List.set_set];simp only[Zf9];rw[Zb (x:=k+4*(i:Int)+1),Zb (x:=k+4*(i:Int)+1+1),Zb (x:=k+4*(i:Int)+1+1+1),Zb (x:=k+4*(i:Int)+1+1+1+1),Zb (x:=(i:Int)+1),<-Fx hi];simp only[Option.some.injEq,Sum.inl.injEq,Prod.mk.injEq];refine⟨by omega,by omega,?_⟩;refine congrArg (λq=>List.set _ i q) ?_;simp only[D.Ins.mk.injEq];refine⟨trivial,trivial,?_,?_⟩<;>omega
 ·subst hs;simp only;rw[ZfD ar,FC]
def IG{x:D.Program}{k:Int}(hk:0<=k)(hb:k<=100000000000000000)(hp:x.Code.length<=1048576):∃k' r,VE fuel x k=some (k',r)/\k<=k'/\k'<=k+4194304:=by
 obtain⟨r,hr⟩:=DL (fuel:=fuel) hk hb hp;unfold VE;rw[hr];exact⟨_,_,rfl,by simp only;omega,by simp only;omega⟩
end Go.Proofs.YtjhiajehpjpibaaGreatDoor
end
section
namespace Go.Proofs.YtjhiajehpjpibaaGreatDoor
open Go.GL
set_option maxRecDepth 100000
variable{fuel:Nat}[FV fuel]
end Go.Proofs.YtjhiajehpjpibaaGreatDoor
end
section
namespace Go.Proofs.YtjhiajehpjpibaaGreatDoor
open Go.GL
set_option maxRecDepth 100000
variable{fuel:Nat}[FV fuel]
end Go.Proofs.YtjhiajehpjpibaaGreatDoor
end
section
namespace Go.Proofs.YtjhiajehpjpibaaGreatDoor
open Go.GL
set_option maxRecDepth 100000
variable{fuel:Nat}[FV fuel]
end Go.Proofs.YtjhiajehpjpibaaGreatDoor
end
section
namespace Go.Proofs.YtjhiajehpjpibaaGreatDoor
open Go.GL
set_option maxRecDepth 100000
variable{fuel:Nat}[FV fuel]
def sg(a b:Int):Int:=if a<b then-1 else if a>b then 1 else 0
def ss(a b:Str):Int:=if a=b then 0 else if Str.ltb a b=true then-1 else 1
mutual
def ctm:D.Term->D.Term->Int
 |⟨o,w,m,s,k⟩,t=>if sg o t.Op≠0 then sg o t.Op else if sg w t.W≠0 then sg w t.W else if sg m t.N≠0 then sg m t.N else if ss s t.Name≠0 then ss s t.Name else cts k t.Kids
def cts:List D.Term->List D.Term->Int
 |[],l=>sg 0 l.length
 |_::_,[]=>1
 |x::l,y::m=>if ctm x y≠0 then ctm x y else cts l m
end
theorem Ee(a t:D.Term):ctm a t=if sg a.Op t.Op≠0 then sg a.Op t.Op else if sg a.W t.W≠0 then sg a.W t.W else if sg a.N t.N≠0 then sg a.N t.N else if ss a.Name t.Name≠0 then ss a.Name t.Name else cts a.Kids t.Kids:=by cases a;rw[ctm]
def Ku(l:List D.Term):cts [] l=sg 0 l.length:=by rw[cts]
def KI(x:D.Term)(l:List D.Term):cts (x::l) []=1:=by rw[cts]
theorem Ii(x y:D.Term)(l m:List D.Term):cts (x::l) (y::m)=if ctm x y≠0 then ctm x y else cts l m:=by rw[cts]
theorem ZeM(a b:Int):sg b a=-sg a b:=by grind[sg]
theorem Zfl(a b:Str):ss b a=-ss a b:=by
 unfold ss;by_cases e:a=b
 ·simp_all
 grind[Str.ltb,ZcM,lt_trans,ZbR]
theorem ZdL(a b:Int):sg a b=-1\/sg a b=0\/sg a b=1:=by grind[sg]
theorem Zef(a b:Str):ss a b=-1\/ss a b=0\/ss a b=1:=by grind[ss]
theorem Zby:∀n:Nat,(∀a b:D.Term,msz a<n->ctm b a=-ctm a b/\(ctm a b=-1\/ctm a b=0\/ctm a b=1))/\∀l m:List D.Term,l.length+mszs l<n->cts m l=-cts l m/\(cts l m=-1\/cts l m=0\/cts l m=1):=by
 intro n
 induction n with
 |zero=>simp
 | succ n ih=>
  have hl:∀l m:List D.Term,l.length+mszs l<n+1->cts m l=-cts l m/\(cts l m=-1\/cts l m=0\/cts l m=1):=by
   intro l m h;cases l with
   |nil=>
    cases m with
    |nil=>decide
    |cons y m=>simp[Ku,KI,sg]
   | cons x l=>
    cases m with
    |nil=>simp[Ku,KI,sg]
    |cons y m=>
     grind[Uj,List.length_cons,Ii]
  grind[Ux,Ee,ZeM,Zfl,ZdL,Zef,sg,ss]
def Zdw(a b:D.Term):ctm b a=-ctm a b:=((Zby (msz a+1)).1 a b O).1
def ZbG(a b:D.Term):ctm a b=-1\/ctm a b=0\/ctm a b=1:=((Zby (msz a+1)).1 a b O).2
theorem ZeD:∀x y:List UInt8,Lib.compareBytes x y=if x=y then 0 else if Op.bytesLess x y=true then-1 else 1
 |[],[]=>by rfl
 |[],_::_=>by rfl
 |_::_,[]=>by rfl
 |a::x,b::y=>by
  rw[Lib.compareBytes,ZeD x y];grind[absurd,UInt8.lt_irrefl,Op.bytesLess,UInt8.toNat_inj]
def Zeh(a b:Str):strings_Compare a b=some (ss a b):=by
 unfold strings_Compare ss;rw[ZeD,Eb];have:(a.bytes=b.bytes)=(a=b):=by
  cases a;cases b;simp
 simp_all
def Zel(a b:Int):WQ a b=some (sg a b):=by
 grind[WQ,sg]
def Zez(a b:Int):ZY a b=some (sg a b):=by
 grind[ZY,Wy,sg]
def Cy(x y z:Int){n:Nat}(hn:4<=n):iterN (λ(s1:Int)=>if(decide (s1<(len ([x,y,z]:List Int))))then(get? ([x,y,z]:List Int) s1).bind λx4=>if(x4 !=0)then some (.inr (.inr x4))else some (.inl ((w64 (s1+1))))else some (.inr (.inl ()))) n 0=some (if x≠0 then(.inr x:Unit⊕Int)else if y≠0 then .inr y else if z≠0 then .inr z else .inl ()):=by
 obtain⟨n,rfl⟩:∃m,n=m+4:=⟨n-4,by omega⟩;by_cases h1:x=0
 ·by_cases h2:y=0
  all_goals simp_all[iterN,Za,get?,Zb]<;>grind
 simp_all[iterN,Za,get?]
theorem EU:∀(n:Nat)(a b:D.Term),msz a<=1048576->1048580+cnt a<=n->Yl n a b=some (ctm a b):=by
 intro n
 induction n with
 |zero=>omega
 | succ n ih=>
  intro a b hs hn;have hz:=Ux a;have hc:=Xk a;unfold Yl;simp only[Zel,Zf9,Cy _ _ _ (show 4<=n by omega)];rw[Ee];by_cases e1:sg a.Op b.Op=0;rotate_left
  ·simp[e1]
  by_cases e2:sg a.W b.W=0;rotate_left
  ·simp[e1,e2]
  by_cases e3:sg a.N b.N=0;rotate_left
  ·simp_all
  simp only[e1,e2,e3,ne_eq,not_true_eq_false,ZfK];by_cases e4:a.Name=b.Name;rotate_left
  ·have:Str.eqb a.Name b.Name=false:=by simp_all[Sw]
   simp_all[ZgP,ZfR,ss,ZfD,Str.ltb]<;>grind
  have:Str.eqb a.Name b.Name=true:=by simp_all[Sw]
  have e5:ss a.Name b.Name=0:=by simp_all[ss,ZfC]
  simp only[this,e5,ZfJ,ZfB,not_true_eq_false,ZfK];refine Y5 (l:=a.Kids) (n:=n) (σ:=Unit) (λk _=>(k:Int)) (λys _=>a.Kids.length-ys.length<=b.Kids.length/\ys.length<=a.Kids.length/\cts ys (b.Kids.drop (a.Kids.length-ys.length))=cts a.Kids b.Kids/\∀x∈ys,x∈a.Kids)
    (λr=>(r= .inl ()/\sg a.Kids.length b.Kids.length=cts a.Kids b.Kids)\/r= .inr (cts a.Kids b.Kids))
    (λk x xs _ hk' hx hlen⟨i0,i1,i2,i3⟩=>by
     have hm:=VU (i3 x U);have hcm:=WC (i3 x U);have hk:a.Kids.length-(x::xs).length=k:=by omega
     rw[hk]at i0 i2;have hd:decide ((k:Int)<len a.Kids)=true:=by grind[Za]
     simp only[hd,ZfR,get?_nat,hx,Zf9];by_cases hb:k=b.Kids.length
     ·simp_all[Za,List.drop_length,KI]
     ·have hbk:k<b.Kids.length:=by omega
      have hy:b.Kids[k]? =some b.Kids[k]:=ZfA hbk;have hbeq:((k:Int)==len b.Kids)=false:=by rw[Za];simp;omega
      rw[Zgc hbk,Ii]at i2;simp only[hbeq,ZfB,ZfK,hy,Zf9];rw[ih x b.Kids[k] O O];simp only[Zf9];by_cases e:ctm x b.Kids[k]=0
      ·rw[e]at i2⊢;refine .inl ⟨(),by rw[Zb];rfl,by simp at hlen;omega,by simp at hlen;omega,?_,λy hy=>i3 y ao⟩;have:a.Kids.length-xs.length=k+1:=by simp at hlen;omega
       rw[this];simpa using i2
      ·refine .inr ⟨.inr (ctm x b.Kids[k]),by simp[e],.inr ?_⟩
       rw[<-i2,ZfC e])
    (λ_⟨i0,i1,i2,_⟩=>by
     have hd:decide ((a.Kids.length:Int)<len a.Kids)=false:=by rw[Za];simp
     simp only[hd,ZfB,ZfK];refine⟨.inl (),rfl,.inl ⟨rfl,?_⟩⟩;rw[<-i2,Ku];simp only[ZgR,Nat.sub_zero,ZfX]at i0⊢;unfold sg
     split<;>split<;>(try split)<;>(try split)<;>omega) (a:=()) ⟨by omega,by omega,by rw[Zhm];rfl,λx hx=>hx⟩ O λr g2=>?_
  rcases g2 with⟨rfl,g2⟩|rfl
  ·simp only[Zf9,Za,g2]
  ·rfl
theorem Ew:∀(n:Nat)(a b:D.Term),msz a<=1048576->1048580+cnt a<=n->Yo n a b=some (ctm a b):=by
 intro n
 induction n with
 |zero=>omega
 |succ n ih=>
  intro a b hs hn;have hz:=Ux a;have hc:=Xk a;unfold Yo;simp only[Zez,Zeh,Zf9];rw[Ee];by_cases e1:sg a.Op b.Op=0;rotate_left
  ·simp[e1]
  by_cases e2:sg a.W b.W=0;rotate_left
  ·simp[e1,e2]
  by_cases e3:sg a.N b.N=0;rotate_left
  ·simp_all
  by_cases e4:ss a.Name b.Name=0;rotate_left
  ·simp_all
  simp only[e1,e2,e3,e4,ne_eq,not_true_eq_false,ZfK,bne_self_eq_false,ZfB];refine Y5 (l:=a.Kids) (n:=n) (σ:=Unit) (λk _=>(k:Int)) (λys _=>a.Kids.length-ys.length<=b.Kids.length/\ys.length<=a.Kids.length/\cts ys (b.Kids.drop (a.Kids.length-ys.length))=cts a.Kids b.Kids/\∀x∈ys,x∈a.Kids)
    (λr=>(r= .inl ()/\sg a.Kids.length b.Kids.length=cts a.Kids b.Kids)\/r= .inr (cts a.Kids b.Kids))
    (λk x xs _ hk' hx hlen⟨i0,i1,i2,i3⟩=>by
     have hm:=VU (i3 x U);have hcm:=WC (i3 x U);have hk:a.Kids.length-(x::xs).length=k:=by omega
     rw[hk]at i0 i2;have hd:decide ((k:Int)<len a.Kids)=true:=by grind[Za]
     by_cases hb:k=b.Kids.length
     ·refine .inr ⟨.inl (),by simp_all[Za],.inl ⟨rfl, ?_⟩⟩;simp_all[List.drop_length,KI,sg,ifn,ifp]<;>grind
     ·have hbk:k<b.Kids.length:=by omega
      have hy:b.Kids[k]? =some b.Kids[k]:=ZfA hbk;have hd2:decide ((k:Int)<len b.Kids)=true:=by simp_all[Za]
      rw[Zgc hbk,Ii]at i2;simp only[hd,hd2,ZgX,ZfR,get?_nat,hx,hy,Zf9];rw[ih x b.Kids[k] O O];simp only[Zf9];by_cases e:ctm x b.Kids[k]=0
      ·rw[e]at i2⊢;refine .inl ⟨(),by rw[Zb];rfl,by simp at hlen;omega,by simp at hlen;omega,?_,λy hy=>i3 y ao⟩;have:a.Kids.length-xs.length=k+1:=by simp at hlen;omega
       rw[this];simpa using i2
      ·refine .inr ⟨.inr (ctm x b.Kids[k]),by simp[e],.inr ?_⟩
       rw[<-i2,ZfC e])
    (λ_⟨i0,i1,i2,_⟩=>by
     have hd:decide ((a.Kids.length:Int)<len a.Kids)=false:=by rw[Za];simp
     simp only[hd,Zhd,ZfB,ZfK];refine⟨.inl (),rfl,.inl ⟨rfl,?_⟩⟩;rw[<-i2,Ku];simp only[ZgR,Nat.sub_zero,ZfX]at i0⊢;unfold sg
     split<;>split<;>(try split)<;>(try split)<;>omega) (a:=()) ⟨by omega,by omega,by rw[Zhm];rfl,λx hx=>hx⟩ O λr g2=>?_
  rcases g2 with⟨rfl,g2⟩|rfl
  ·simp only[Zf9,Za,g2]
  ·rfl
def Lr{n:Nat}{a b:D.Term}(h1:msz a<=1048576)(h2:1048580+cnt a<=n):Xc n a b=some (ctm a b==0):=by
 simp_all[Xc,EU]
def Lu{n:Nat}{a b:D.Term}(h1:msz a<=1048576)(h2:1048580+cnt a<=n):YY n a b=some (ctm a b==0):=by
 simp_all[YY,Ew]
end Go.Proofs.YtjhiajehpjpibaaGreatDoor
end
section
namespace Go.Proofs.YtjhiajehpjpibaaGreatDoor
open Go.GL
set_option maxRecDepth 100000
variable{fuel:Nat}[FV fuel]
def Od{x:Int}(h0:0<=x)(h1:x<65536):(BitVec.ofInt 64 x).toNat=x.toNat:=by
 rw[BitVec.toNat_ofInt];rw[Int.emod_eq_of_lt h0 O]
def Ng{w:Int}(h1:1<=w)(h2:w<=16):(2:Int)^w.toNat=((2^w.toNat:Nat):Int)/\(2^w.toNat:Nat)<=65536/\2<=(2^w.toNat:Nat):=by
 rcases LQ h1 h2 with rfl|rfl|rfl|rfl|rfl|rfl|rfl|rfl|rfl|rfl|rfl|rfl|rfl|rfl|rfl|rfl<;>decide
def ZdB{w a b:Int}(h1:1<=w)(h2:w<=16)(ha:wordB w a=true)(hb:wordB w b=true):wordB w (band a b)=true/\wordB w (bor a b)=true/\wordB w (bxor a b)=true:=by
 obtain⟨p1,p2,p3⟩:=Ng h1 h2;rw[Yp h1 h2]at ha hb;rw[p1]at ha hb;have ea:=Od ha.1 O;have eb:=Od hb.1 O;have la:a.toNat<2^w.toNat:=by omega
 have lb:b.toNat<2^w.toNat:=by omega
 refine⟨?_,?_,?_⟩<;>rw[Yp h1 h2,p1]
 ·unfold band;rw[BitVec.toNat_and,ea,eb];have:=Nat.and_lt_two_pow a.toNat lb;rw[Zb];omega
 ·unfold bor;rw[BitVec.toNat_or,ea,eb];have:=Nat.or_lt_two_pow la lb;rw[Zb];omega
 ·unfold bxor;rw[BitVec.toNat_xor,ea,eb];have:=Nat.xor_lt_two_pow la lb;rw[Zb];omega
def OB{w:Int}(h1:1<=w)(h2:w<=16)(v:Int):wordB w (wordOf w v)=true:=by
 have h:=YQ w v;obtain⟨p1,p2,p3⟩:=Ng h1 h2;obtain⟨a1,_,a3,_,_⟩:=TG h1 h2;unfold Yu Zc at h;have e:(decide (w>=1)&&decide (w<=16))=true:=by simp;omega
 simp only[e,Zf9,ZfJ,ZfB,ZfK,a1,Option.some.injEq]at h;rw[a3]at h;rw[<-h,Yp h1 h2,p1];unfold band;rw[BitVec.toNat_and,Od (x:=((2^w.toNat:Nat):Int)-1) O O];have:=Nat.and_le_right (n:=(BitVec.ofInt 64 v).toNat) (m:=(((2^w.toNat:Nat):Int)-1).toNat);rw[Zb];omega
def QT{w a:Int}(h:wordB w a=true):ZE w a=some true:=by rw[YM,h]
def ZbU(b:Bool):wordB 1 (if b=true then 1 else 0)=true:=by cases b<;>decide
def Zfs{op w a r:Int}(h:XT op w a=some r)(ho:op=1\/op=2)(ha:wordB w a=true):wordB w r=true:=by
 obtain⟨h1,h2⟩:=Y3 ha;obtain⟨a1,_,a3,a4,a5⟩:=TG h1 h2;unfold XT at h;simp only[QT ha,Zf9,ZfJ,ZfB,ZfK,YQ]at h;have hv:=(Yp h1 h2 a).1 ha;rcases ho with rfl|rfl
 ·simp only[Zh8,ZfR,a1,Zf9,Option.some.injEq]at h;rw[a3,Zb]at h;rw[Yp h1 h2];omega
 ·simp at h;rw[<-h];exact OB h1 h2 _
def CV{op w a b r:Int}(h:ZX op w a b=some r)(ha:wordB w a=true)(hb:wordB w b=true):(3<=op/\op<=13->wordB w r=true)/\(14<=op/\op<=16->wordB 1 r=true):=by
 obtain⟨h1,h2⟩:=Y3 ha;obtain⟨a1,_,a3,a4,a5⟩:=TG h1 h2;obtain⟨b1,b2,b3⟩:=ZdB h1 h2 ha hb;have hv:=(Yp h1 h2 a).1 ha;have hu:=(Yp h1 h2 b).1 hb;have hw:=OB h1 h2;have ht:=ZbU;have q1:=Int.tdiv_nonneg hv.1 hu.1;have q2:=Int.tdiv_le_self b hv.1;have q3:=Int.tmod_nonneg b hv.1;have q4:=λh=>Int.tmod_lt_of_pos a (show 0<b from h);have q5:(0:Int)<2^min b.toNat 64:=Zi3 O;have q6:=Int.ediv_nonneg hv.1 (show(0:Int)<=2^min b.toNat 64 by omega);have q7:=Int.ediv_le_self (2^min b.toNat 64) hv.1;have q8:=ZhT a (show(0:Int)<=2^min b.toNat 64 by omega);unfold ZX at h;simp only[QT ha,QT hb,Zf9,ZfJ,ZfB,ZfK,Zhn,YQ,(Jc _).1,RN,FQ _ hu.1,OV _ hu.1]at h;grind(splits:=40) [quo?,rem?,Yp,Zb,Option.bind_eq_some_iff]
def ZdS{w a v b r:Int}(h:WE w a v b=some r)(ha:wordB w a=true)(hb:wordB v b=true)(hs:w+v<=16):wordB (w+v) r=true:=by
 obtain⟨h1,h2⟩:=Y3 ha;obtain⟨h3,h4⟩:=Y3 hb;have hv:=(Yp h1 h2 a).1 ha;have hu:=(Yp h3 h4 b).1 hb;unfold WE at h;simp only[QT ha,QT hb,Zf9,ZfJ,ZfB,ZfK,Zhn,Zgl]at h;rw[Zb,ZfD aa,FQ _ O]at h;have hm:min v.toNat 64=v.toNat:=by omega
 rw[hm]at h;obtain⟨p1,p2,p3⟩:=Ng h1 h2;obtain⟨q1,q2,q3⟩:=Ng h3 h4;obtain⟨s1,s2,s3⟩:=Ng (w:=w+v) O hs;have hadd:(2:Int)^(w+v).toNat=2^w.toNat*2^v.toNat:=by
  rw[show(w+v).toNat=w.toNat+v.toNat by omega,Int.pow_add]
 have hbig:(2:Int)^(w+v).toNat<=65536:=by rw[s1];omega
 have hmul:(a+1)*2^v.toNat<=2^w.toNat*2^v.toNat:=Int.mul_le_mul_of_nonneg_right O O;have hnn:0<=a*2^v.toNat:=Int.mul_nonneg hv.1 O;rw[Int.add_mul,Int.one_mul]at hmul;rw[Yp O hs,hadd];rw[hadd]at hbig;rw[Zb (x:=a*2^v.toNat)]at h;simp only[Zf9,Option.some.injEq]at h;rw[Zb]at h;omega
def ZeU{w a l n r:Int}(h:VD w a l n=some r)(ha:wordB w a=true)(hl:0<=l)(hn:1<=n)(hs:l+n<=w):wordB n r=true:=by
 obtain⟨h1,h2⟩:=Y3 ha;unfold VD at h;simp only[QT ha,Zf9,YQ]at h;rw[Zb,ZfD aa,OV _ hl]at h;simp only[Zf9,Option.some.injEq]at h;rw[<-h];exact OB hn O _
def ZcL{w a n r:Int}{s:Bool}(h:Wo w a n s=some r)(ha:wordB w a=true)(hs:w<=n)(hn:n<=16):wordB n r=true:=by
 obtain⟨h1,h2⟩:=Y3 ha;have hv:=(Yp h1 h2 a).1 ha;unfold Wo at h;simp only[QT ha,Zf9,YQ,RN]at h;rw[ZfD aa]at h;cases s
 ·simp at h;rw[<-h,Yp O hn];have:(2:Int)^n.toNat=2^w.toNat*2^(n-w).toNat:=by rw[<-Int.pow_add];congr 1;omega
  have hp:(0:Int)<2^(n-w).toNat:=Zi3 O;have hp2:(0:Int)<2^w.toNat:=Zi3 O;have:=Int.mul_le_mul_of_nonneg_left (show(1:Int)<=2^(n-w).toNat by omega) (show(0:Int)<=2^w.toNat by omega);omega
 ·simp at h;rw[<-h];exact OB O hn _
end Go.Proofs.YtjhiajehpjpibaaGreatDoor
end
section
namespace Go.Proofs.YtjhiajehpjpibaaGreatDoor
open Go.GL
set_option maxRecDepth 100000
variable{fuel:Nat}[FV fuel]
def SN{w v:Int}(h:wordB w v=true):nodeB ⟨0,w,v,⟨[]⟩,[]⟩=true:=by
 grind[Y3,X3,Ye,locB,shB,UV]
def Zfu{op:Int}{a:D.Term}(ho:op=1\/op=2)(ha:nodeB a=true):nodeB ⟨op,a.W,0,⟨[]⟩,[a]⟩=true:=by
 have h1:=ZH ha;rw[X3,Ye];rcases ho with rfl|rfl<;>simp[locB,shB,UV,ha,h1.1,h1.2]
def Bo{op w:Int}{a b:D.Term}(h3:3<=op)(h16:op<=16)(ha:nodeB a=true)(hb:nodeB b=true)(hw:a.W=b.W)(h1:op<=13->a.W=w)(h2:14<=op->w=1):nodeB ⟨op,w,0,⟨[]⟩,[a,b]⟩=true:=by
 grind[ZH,X3,Ye,locB,shB,UV]
def ZeH{w:Int}{a b c:D.Term}(ha:nodeB a=true)(hb:nodeB b=true)(hc:nodeB c=true)(h1:a.W=1)(h2:b.W=w)(h3:c.W=w):nodeB ⟨17,w,0,⟨[]⟩,[a,b,c]⟩=true:=by
 grind[ZH,X3,Ye,locB,shB,UV]
def Lg{w m:Int}{a:D.Term}(ha:nodeB a=true)(h0:0<=m)(h1:1<=w)(h2:m+w<=a.W):nodeB ⟨19,w,m,⟨[]⟩,[a]⟩=true:=by
 grind[ZH,X3,Ye,locB,shB,UV]
def ZcW{op w:Int}{a:D.Term}(ho:op=20\/op=21)(ha:nodeB a=true)(h1:w<=16)(h2:a.W<=w):nodeB ⟨op,w,0,⟨[]⟩,[a]⟩=true:=by
 have g:=ZH ha;rw[X3,Ye];rcases ho with rfl|rfl<;>simp[locB,shB,UV,ha,h1,h2,show 1<=w by omega]
def YK{a:D.Term}(h:nodeB a=true)(ho:a.Op=0):a=⟨0,a.W,a.N,⟨[]⟩,[]⟩/\wordB a.W a.N=true:=by
 obtain⟨op,w,m,nm,ks⟩:=a;obtain⟨_,hs⟩:=ZW h;simp_all
theorem names:∀n:Nat,(∀t:D.Term,msz t<n->nodeB t=true->msz t<=11*cnt t)/\∀l:List D.Term,l.length+mszs l<n->nodesB l=true->mszs l<=11*cnts l:=by
 intro n
 induction n with
 |zero=>simp
 | succ n ih=>
  have hl:∀l:List D.Term,l.length+mszs l<n+1->nodesB l=true->mszs l<=11*cnts l:=by
   intro l h hb;cases l with
   |nil=>simp[SX]
   |cons x l=>
    simp_all[Uj,Ug,nodesB,ZfF,ZfS]<;>grind
  refine⟨λt h hb=>?_,hl⟩;have hz:=Ux t;have hc:=Xk t;have hb':=hb;rw[X3,ZfF]at hb';have h2:=hl t.Kids O hb'.2;have h3:t.Name.bytes.length<=8/\t.Kids.length<=3:=by
   have hk:=hb'.1;unfold locB at hk;simp only[ZfF,Zgx,Zhc,Sw,ZfN]at hk;obtain⟨⟨⟨_,hn⟩,_⟩,hs⟩:=hk;refine⟨?_,?_⟩
   ·rcases hn with hn|hn
    ·rw[hn];simp
    simp_all[shB,ifn,ZfC,ZfF,nameB,ZfN]
   grind[Zan]
  omega
theorem ME{t:D.Term}(h:nodeB t=true):msz t<=11*cnt t:=(names (msz t+1)).1 t O h
def Y9(w v:Int):Zu w v=some ⟨0,w,v,⟨[]⟩,[]⟩:=rfl
def YI{w v:Int}(h:wordB w v=true):Zw w v=some ⟨0,w,v,⟨[]⟩,[]⟩:=by simp_all[Zw,Wp]
def Nn{ks:List D.Term}{n:Nat}(hn:ks.length<n)(hk:ks.length<=1000):iterN (λ(s1:Bool×Int)=>if(decide (s1.2<(len ks)))then(if s1.1 then(get? ks s1.2)else some default).bind λx1=>(if s1.1 then(ZJ x1)else some default).bind λx2=>some (.inl ((s1.1&&x2),(w64 (s1.2+1))))else some (.inr (s1.1))) n (true,0)=some (ks.all λx=>x.Op==0):=by
 refine VQ (l:=ks) (n:=n) (σ:=Bool) (λk a=>(a,(k:Int))) (λys a=>(a&&ys.all λx=>x.Op==0)=ks.all λx=>x.Op==0) (λr=>r=ks.all λx=>x.Op==0)
  (λk x xs a hk' hx hlen hi=>by
   have hd:decide ((k:Int)<len ks)=true:=by grind[Za]
   cases a
   ·grind[Zb]
   ·simp only[ZfR,get?_nat,hx,Zf9,ZJ,Zgk]
    grind[Zb])
  (λa hi=>by
   grind[decide,len,Za]) (a:=true) rfl hn λr g2=>?_
 rw[g2]
def Jw{ks:List D.Term}{n:Nat}{b:Bool}(hn:ks.length<n)(hk:ks.length<=1000):iterN (λ(s1:Bool×Int×(List Int))=>if(decide (s1.2.1<(len ks)))then(get? ks s1.2.1).bind λx1=>(app? s1.2.2 ([x1.N]:List Int)).bind λx2=>some (.inl ((s1.1&&(x1.Op==0)),(w64 (s1.2.1+1)),x2))else some (.inr (s1.1,s1.2.2))) n (b,0,([]:List Int))=some ((b&&ks.all λx=>x.Op==0),ks.map (·.N)):=by
 refine VQ (l:=ks) (n:=n) (σ:=Bool×List Int) (λk a=>(a.1,(k:Int),a.2)) (λys a=>(a.1&&ys.all λx=>x.Op==0)=(b&&ks.all λx=>x.Op==0)/\a.2++ys.map (·.N)=ks.map (·.N)) (λr=>r=((b&&ks.all λx=>x.Op==0),ks.map (·.N)))
  (λk x xs a hk' hx hlen⟨hi,hj⟩=>by
   have hd:decide ((k:Int)<len ks)=true:=by grind[Za]
   have hl:a.2.length<=1000:=by
    have:=congrArg List.length hj;grind
   refine .inl ⟨(a.1&&x.Op==0,a.2++[x.N]),?_,by grind,by simp_all⟩;simp only[hd,ZfR,get?_nat,hx,Zf9]
   rw[VZ aa,Zb];rfl)
  (λa⟨hi,hj⟩=>by
   have hd:decide ((ks.length:Int)<len ks)=false:=by rw[Za];simp
   simp only[hd,ZfB,ZfK]
   rw[<-hi,<-hj];simp) (a:=(b,[])) ⟨rfl,rfl⟩ hn λr g2=>?_
 rw[g2]
def known{op w m:Int}{nm:Str}{ks:List D.Term}(h:nodeB ⟨op,w,m,nm,ks⟩=true)(hne:ks≠[])(hc:(ks.all λx=>x.Op==0)=true):
  ∃v,wordB w v=true/\XC ⟨op,w,m,nm,ks⟩ (ks.map (·.N))=some v/\∀n,2<=n->Z0 n ⟨op,w,m,nm,ks⟩ none=some v:=by
 obtain⟨⟨w1,w2⟩,h⟩:=ZW h;have ev:∀{x:D.Term},nodeB x=true->x.Op=0->∀n,Z0 (n+1) x none=some x.N:=λh e n=>by
  rw[(YK h e).1];rfl
 suffices∃v,wordB w v=true/\XC ⟨op,w,m,nm,ks⟩ (ks.map (·.N))=some v/\∀n,Z0 (n+1+1) ⟨op,w,m,nm,ks⟩ none=some v by
  obtain⟨v,h1,h2,h3⟩:=this;exact⟨v,h1,h2,λn hn=>by rw[show n=n-2+1+1 by omega];exact h3 _⟩
 unfold XC;simp only[Wz];rcases h with⟨_,h,_⟩|⟨_,h,_⟩|⟨ho,rfl,rfl,a,rfl,ha,rfl⟩|⟨o3,o16,rfl,rfl,a,b,rfl,ha,hb,hab,e1,e2⟩|⟨rfl,rfl,rfl,a,b,c,rfl,ha,hb,hcc,aw,bw,cw⟩|⟨rfl,rfl,rfl,a,b,rfl,ha,hb,hab⟩|⟨rfl,rfl,m0,m16,a,rfl,ha,haw⟩|⟨ho,rfl,rfl,a,rfl,ha,haw⟩
 ·simp_all
 ·simp_all
 all_goals simp at hc
 ·obtain⟨ea,va⟩:=YK ha hc;obtain⟨r,s1,s2⟩:=IX op a.W a.N;refine⟨r,Zfs s1 ho va,?_,λn=>?_⟩
  ·rcases ho with rfl|rfl<;>simp[geti0,s1]
  ·unfold Z0;rcases ho with rfl|rfl<;>simp[get0,ev ha hc,s2]
 ·obtain⟨ea,va⟩:=YK ha hc.1;obtain⟨eb,vb⟩:=YK hb hc.2;obtain⟨r,s1,s2⟩:=UR op a.W a.N b.N;have hr:=CV s1 va (hab▸vb);refine⟨r,by grind,?_,λn=>?_⟩
  ·simp[get0,geti0,geti1,s1,show¬(1<=op/\op<=2) by omega,o3,o16]
  ·unfold Z0;have:=ev ha hc.1 n;have:=ev hb hc.2 n;simp only[get0,get1];grind
 ·obtain⟨ea,va⟩:=YK ha hc.1;obtain⟨eb,vb⟩:=YK hb hc.2.1;obtain⟨ec,vc⟩:=YK hcc hc.2.2;refine⟨if a.N=1 then b.N else c.N,by grind,?_,λn=>?_⟩
  ·by_cases e:a.N=1<;>simp[geti0,geti1,geti2,e]
  ·unfold Z0;by_cases e:a.N=1<;>simp[get0,get1,get2',ev ha hc.1,ev hb hc.2.1,ev hcc hc.2.2,e]
 ·obtain⟨ea,va⟩:=YK ha hc.1;obtain⟨eb,vb⟩:=YK hb hc.2;obtain⟨r,s1,s2⟩:=FD a.W a.N b.W b.N;refine⟨r,by rw[<-hab];exact ZdS s1 va vb O,?_,λn=>?_⟩
  ·simp[get0,get1,geti0,geti1,s1]
  ·unfold Z0;simp[get0,get1,ev ha hc.1,ev hb hc.2,s2]
 ·obtain⟨ea,va⟩:=YK ha hc;obtain⟨r,s1,s2⟩:=Br (w:=a.W) (a:=a.N) (l:=m) (n:=w) O O;refine⟨r,ZeU s1 va m0 w1 haw,?_,λn=>?_⟩
  ·simp[get0,geti0,s1]
  ·unfold Z0;simp[get0,ev ha hc,s2]
 ·obtain⟨ea,va⟩:=YK ha hc;obtain⟨r,s1,s2⟩:=Ef a.W a.N w (op==21);refine⟨r,ZcL s1 va haw w2,?_,λn=>?_⟩
  ·rcases ho with rfl|rfl<;>simp at s1<;>simp[get0,geti0,s1]
  ·unfold Z0;rcases ho with rfl|rfl<;>simp at s2<;>simp[get0,ev ha hc,s2]
end Go.Proofs.YtjhiajehpjpibaaGreatDoor
end
section
namespace Go.Proofs.YtjhiajehpjpibaaGreatDoor
open Go.GL
set_option maxRecDepth 100000
set_option maxHeartbeats 4000000
variable{fuel:Nat}[FV fuel]
def runS(f:Nat->D.Term->Option D.Term)(k:Nat):D.Term⊕D.Term->Option D.Term
 |.inl r=>some r
 |.inr t=>f k t
def kd(t:D.Term)(i:Nat):D.Term:=(t.Kids[i]?).getD default
def ons(w:Int):Int:=2^w.toNat-1
def sws(op:Int):Bool:=op==3||op==5||op==8||op==9||op==10||op==14
def rdB(op w:Int)(a b:D.Term):D.Term⊕D.Term:=
 if sws op=true/\ctm a b=1 then .inr ⟨op,w,0,⟨[]⟩,[b,a]⟩
 else if a.Op=0/\((op=3\/op=9\/op=10)/\a.N=0\/op=5/\a.N=1\/op=8/\a.N=ons a.W\/op=14/\a.W=1/\a.N=1)then .inl b
 else if a.Op=0/\((op=5\/op=8)/\a.N=0\/op=9/\a.N=ons a.W)then .inl a
 else if a.Op=0/\(op=10/\a.N=ons a.W\/op=14/\a.W=1)then .inr ⟨1,w,0,⟨[]⟩,[b]⟩
 else if b.Op=0/\b.N=0/\(op=4\/11<=op/\op<=13)then .inl a
 else if b.Op=0/\b.N=0/\op=15 then .inl ⟨0,1,0,⟨[]⟩,[]⟩
 else if ctm a b=0/\(op=8\/op=9)then .inl a
 else if ctm a b=0/\(op=4\/op=10\/op=15\/op=16)then .inl ⟨0,w,0,⟨[]⟩,[]⟩
 else if ctm a b=0/\op=14 then .inl ⟨0,1,1,⟨[]⟩,[]⟩
 else if sws op=true/\op≠14/\a.Op=0/\b.Op=op/\(kd b 0).Op=0 then .inr ⟨op,w,0,⟨[]⟩,[⟨0,w,(Yy op w a.N (kd b 0).N).getD 0,⟨[]⟩,[]⟩,kd b 1]⟩
 else .inl ⟨op,w,0,⟨[]⟩,[a,b]⟩
def Zfw{c d:D.Term}(e3:ctm c d=0):c.W=d.W:=by
 rw[Ee]at e3;by_cases q1:sg c.Op d.Op=0
 ·by_cases q2:sg c.W d.W=0
  ·unfold sg at q2;split at q2<;>(try split at q2)<;>omega
  ·simp[q1,q2]at e3
 ·simp[q1]at e3
def Vn{α:Type}(x:Option α):(x.bind λy=>some y)=x:=by cases x<;>rfl
def Ej{a:D.Term}{op:Int}(h:nodeB a=true)(ho:a.Op=op)(h3:3<=op)(h16:op<=16):∃b c,a=⟨op,a.W,0,⟨[]⟩,[b,c]⟩/\nodeB b=true/\nodeB c=true/\b.W=c.W/\(op<=13->b.W=a.W):=by
 obtain⟨aop,aw,am,anm,aks⟩:=a;simp only at ho;subst ho;obtain⟨_,hs⟩:=ZW h;rcases hs with h|h|h|⟨_,_,rfl,rfl,b,c,rfl,h2,h3,h4,h5,h6⟩|h|h|h|h
 ·exfalso;have:=h.1;omega
 ·exfalso;have:=h.1;omega
 ·exfalso;have:=h.1;omega
 ·exact⟨b,c,rfl,h2,h3,h4,h5⟩
 ·exfalso;have:=h.1;omega
 ·exfalso;have:=h.1;omega
 ·exfalso;have:=h.1;omega
 ·exfalso;have:=h.1;omega
def BU{w:Int}(h1:1<=w)(h2:w<=16):wordB w 0=true:=by
 obtain⟨p1,p2,p3⟩:=Ng h1 h2;rw[Yp h1 h2,p1];omega
def ZbI{a:D.Term}(ha:nodeB a=true):RS a.W=some (ons a.W)/\Sz a=some (a.Op==0&&(a.N==ons a.W))/\1<=ons a.W/\wordB a.W (ons a.W)=true:=by
 have g:=ZH ha;obtain⟨a1,a2,a3,a4,a5⟩:=TG g.1 g.2;unfold ons;refine⟨?_,?_,by omega,by rw[Yp g.1 g.2];omega⟩
 ·unfold RS;rw[a2];simp only[Zf9];rw[a3]
 ·unfold Sz;by_cases c:a.Op=0
  ·simp[c,a1,a3]
  ·rw[show(a.Op==0)=false by simpa using c];rfl
def cnt1(op w m:Int)(nm:Str)(a:D.Term):cnt ⟨op,w,m,nm,[a]⟩=1+cnt a:=by rw[Xk];simp only[Ug,Vp];omega
def cnt2(op w m:Int)(nm:Str)(a b:D.Term):cnt ⟨op,w,m,nm,[a,b]⟩=1+cnt a+cnt b:=by rw[Xk];simp only[Ug,Vp];omega
def cnt3(op w m:Int)(nm:Str)(a b c:D.Term):cnt ⟨op,w,m,nm,[a,b,c]⟩=1+cnt a+cnt b+cnt c:=by rw[Xk];simp only[Ug,Vp];omega
def cnt0(w v:Int):cnt ⟨0,w,v,⟨[]⟩,[]⟩=1:=by rw[Xk];simp only[Vp]
def QN(t:D.Term):1<=cnt t:=by rw[Xk];omega
def Ot{a:D.Term}(h:nodeB a=true)(ho:a.Op=19):∃c,a=⟨19,a.W,a.N,⟨[]⟩,[c]⟩/\nodeB c=true/\0<=a.N/\a.N<=16/\a.N+a.W<=c.W:=by
 obtain⟨aop,aw,am,anm,aks⟩:=a;simp only at ho;subst ho;obtain⟨_,hs⟩:=ZW h;rcases hs with h|h|h|h|h|h|⟨_,rfl,h0,h1,c,rfl,h2,h3⟩|h
 ·exfalso;have:=h.1;omega
 ·exfalso;have:=h.1;omega
 ·exfalso;have:=h.1;omega
 ·exfalso;have:=h.2.1;omega
 ·exfalso;have:=h.1;omega
 ·exfalso;have:=h.1;omega
 ·exact⟨c,rfl,h2,h0,h1,h3⟩
 ·exfalso;have:=h.1;omega
def KJ{a:D.Term}{op:Int}(h:nodeB a=true)(ho:a.Op=op)(hop:op=20\/op=21):∃c,a=⟨op,a.W,0,⟨[]⟩,[c]⟩/\nodeB c=true/\c.W<=a.W:=by
 obtain⟨aop,aw,am,anm,aks⟩:=a;simp only at ho;subst ho;obtain⟨_,hs⟩:=ZW h;rcases hs with h|h|h|h|h|h|h|⟨_,rfl,rfl,c,rfl,h2,h3⟩
 ·exfalso;have:=h.1;omega
 ·exfalso;have:=h.1;omega
 ·exfalso;have:=h.1;omega
 ·exfalso;have:=h.2.1;omega
 ·exfalso;have:=h.1;omega
 ·exfalso;have:=h.1;omega
 ·exfalso;have:=h.1;omega
 ·exact⟨c,rfl,h2,h3⟩
def Ar{a:D.Term}(h:nodeB a=true)(ho:a.Op=1):∃c,a=⟨1,a.W,0,⟨[]⟩,[c]⟩/\nodeB c=true/\c.W=a.W:=by
 obtain⟨aop,aw,am,anm,aks⟩:=a;simp only at ho;subst ho;obtain⟨_,hs⟩:=ZW h;rcases hs with h|h|⟨_,rfl,rfl,c,rfl,h2,h3⟩|h|h|h|h|h
 ·exfalso;have:=h.1;omega
 ·exfalso;have:=h.1;omega
 ·exact⟨c,rfl,h2,h3⟩
 ·exfalso;have:=h.1;omega
 ·exfalso;have:=h.1;omega
 ·exfalso;have:=h.1;omega
 ·exfalso;have:=h.1;omega
 ·exfalso;have:=h.1;omega
def Ju{a:D.Term}(h:nodeB a=true)(ho:a.Op=18):∃b c,a=⟨18,a.W,0,⟨[]⟩,[b,c]⟩/\nodeB b=true/\nodeB c=true/\b.W+c.W=a.W:=by
 obtain⟨aop,aw,am,anm,aks⟩:=a;simp only at ho;subst ho;obtain⟨_,hs⟩:=ZW h;rcases hs with h|h|h|h|h|⟨_,rfl,rfl,b,c,rfl,h2,h3,h4⟩|h|h
 ·exfalso;have:=h.1;omega
 ·exfalso;have:=h.1;omega
 ·exfalso;have:=h.1;omega
 ·exfalso;have:=h.2.1;omega
 ·exfalso;have:=h.1;omega
 ·exact⟨b,c,rfl,h2,h3,h4⟩
 ·exfalso;have:=h.1;omega
 ·exfalso;have:=h.1;omega
def Zc8{a:D.Term}{op:Int}(h:nodeB a=true)(e:a.Op=op)(ho:op=1\/op=2):∃c,a=⟨op,a.W,0,⟨[]⟩,[c]⟩/\nodeB c=true/\c.W=a.W:=by
 obtain⟨aop,aw,am,anm,aks⟩:=a;obtain⟨_,hs⟩:=ZW h;grind
def Ow{k:Nat}{op w m:Int}{nm:Str}{ks:List D.Term}(hk:ks≠[])(hl:ks.length<=3)(hc:(ks.all λx=>x.Op==0)=false):ZP (k+8) ⟨op,w,m,nm,ks⟩=
   if((op==1)||(op==2))then
    VP ⟨op,w,m,nm,ks⟩
   else
    if(op==17)then
     Vj (k+7) ⟨op,w,m,nm,ks⟩
    else
     if(op==19)then
      Wt (k+7) ⟨op,w,m,nm,ks⟩
     else
      if((op==20)||(op==21))then
       XE (k+7) ⟨op,w,m,nm,ks⟩
      else
       if(op==18)then
        Xw (k+7) ⟨op,w,m,nm,ks⟩
       else
        Yk (k+7) ⟨op,w,m,nm,ks⟩:=by
 rw[show k+8=(k+7)+1 from rfl,ZP];simp only[Vn];rw[ZfD (by rw[Za];simpa using hk),Nn O O,hc];simp only[Zf9,ZfB,ZfK]
def QI{k:Nat}{op w m:Int}{nm:Str}{ks:List D.Term}(hl:ks.length<=3)(hc:(decide (len ks>0)&&ks.all λx=>x.Op==0)=false):Zq (k+8) ⟨op,w,m,nm,ks⟩=
  if decide (3<=op/\op<=16)then
   WK (k+7) ⟨op,w,m,nm,ks⟩
  else
   if((op==1)||(op==2))then
    (get? ks 0).bind λx7=>
    if(x7.Op==op)then
     (get? ks 0).bind λx8=>
     get? x8.Kids 0
    else
     some ⟨op,w,m,nm,ks⟩
   else
    if(op==17)then
     Td (k+7) ⟨op,w,m,nm,ks⟩
    else
     if(op==19)then
      Un (k+7) ⟨op,w,m,nm,ks⟩
     else
      if ((op==20)||(op==21))then
       (get? ks 0).bind λx12=>
       if(x12.W==w)then
        some x12
       else
        if(x12.Op==op)then
         Zq (k+7) (D.Term.mk op w 0 ⟨[]⟩ x12.Kids)
        else
         some ⟨op,w,m,nm,ks⟩
      else
       if(op==18)then
        (get? ks 0).bind λx14=>
        (get? ks 1).bind λx15=>
        (if((x14.Op==19)&&(x15.Op==19))then(get? x14.Kids 0)else some default).bind λx16=>
        (if((x14.Op==19)&&(x15.Op==19))then(get? x15.Kids 0)else some default).bind λx17=>
        (if((x14.Op==19)&&(x15.Op==19))then(Xc (k+7) x16 x17)else some default).bind λx18=>
        if((((x14.Op==19)&&(x15.Op==19))&&x18)&&(x14.N==(w64 (x15.N+x15.W))))then
         Zq (k+7) (D.Term.mk 19 w x15.N ⟨[]⟩ x15.Kids)
        else
         some ⟨op,w,m,nm,ks⟩
       else
        some ⟨op,w,m,nm,ks⟩:=by
 rw[show k+8=(k+7)+1 from rfl,Zq];simp only[Vn,Wz];rw[Jw O O,hc];simp only[Zf9,ZfB,ZfK]
def rdI(w:Int)(a b c:D.Term):D.Term⊕D.Term:=
 if a.Op=0/\a.N=1 then .inl b else if a.Op=0 then .inl c else if ctm b c=0 then .inl b
 else if a.Op=1 then .inr ⟨17,w,0,⟨[]⟩,[kd a 0,c,b]⟩
 else if w=1/\b.Op=0/\b.N=1/\c.Op=0/\c.N=0 then .inl a
 else if w=1/\b.Op=0/\b.N=0/\c.Op=0/\c.N=1 then .inr ⟨1,1,0,⟨[]⟩,[a]⟩
 else .inl ⟨17,w,0,⟨[]⟩,[a,b,c]⟩
def rdC(w m:Int)(a:D.Term):D.Term⊕D.Term:=
 if w=a.W then .inl a
 else if a.Op=19 then .inr ⟨19,w,m+a.N,⟨[]⟩,[kd a 0]⟩
 else if a.Op=18/\m+w<=(kd a 1).W then .inr ⟨19,w,m,⟨[]⟩,[kd a 1]⟩
 else if a.Op=18/\(kd a 1).W<=m then .inr ⟨19,w,m-(kd a 1).W,⟨[]⟩,[kd a 0]⟩
 else if(a.Op=20\/a.Op=21)/\m+w<=(kd a 0).W then .inr ⟨19,w,m,⟨[]⟩,[kd a 0]⟩
 else .inl ⟨19,w,m,⟨[]⟩,[a]⟩
def rdW(op w:Int)(a:D.Term):D.Term⊕D.Term:=
 if a.W=w then .inl a else if a.Op=op then .inr ⟨op,w,0,⟨[]⟩,[kd a 0]⟩else .inl ⟨op,w,0,⟨[]⟩,[a]⟩
def rdJ(w:Int)(a b:D.Term):D.Term⊕D.Term:=
 if a.Op=19/\b.Op=19/\a.N=b.N+b.W/\ctm (kd a 0) (kd b 0)=0 then .inr ⟨19,w,b.N,⟨[]⟩,[kd b 0]⟩else .inl ⟨18,w,0,⟨[]⟩,[a,b]⟩
def rdU(op w:Int)(a:D.Term):D.Term⊕D.Term:=if a.Op=op then .inl (kd a 0)else .inl ⟨op,w,0,⟨[]⟩,[a]⟩
def Stp(t:D.Term)(s:D.Term⊕D.Term):Prop:=∀k out,1100000<=k->((∀m,k<=m->runS ZP m s=some out)->ZP (k+8) t=some out)/\((∀m,k<=m->runS Zq m s=some out)->Zq (k+8) t=some out)
def Zeq{op w:Int}{a:D.Term}(ho:op=1\/op=2)(ha:nodeB a=true)(hc:(a.Op==0)=false):Stp ⟨op,w,0,⟨[]⟩,[a]⟩ (rdU op w a):=λk out hk=>by
 rw[Ow U U aV,QI U aV];have kb:a.Op=op->get? a.Kids 0=some (kd a 0):=λe=>by
  obtain⟨c,eb,-⟩:=Zc8 ha e ho;unfold kd;rw[eb];rfl
 unfold rdU;refine⟨λh=>?_,λh=>?_⟩<;>replace h:=h k O<;>by_cases e:a.Op=op
 all_goals(rcases ho with rfl|rfl<;>simp[VP,get0,e]at kb h⊢<;>grind[runS])
def Zek{w:Int}{a b c:D.Term}(ha:nodeB a=true)(hb:nodeB b=true)(h1:a.W=1)(hc:(a.Op==0&&(b.Op==0&&c.Op==0))=false)(hn:cnt b<=240):Stp ⟨17,w,0,⟨[]⟩,[a,b,c]⟩ (rdI w a b c):=λk out hk=>by
 have hc':([a,b,c].all λx=>x.Op==0)=false:=by simpa using hc
 have hmb:=ME hb;have i2:YY (k+6) b c=some (ctm b c==0):=Lu O O;have s2:Xc (k+6) b c=some (ctm b c==0):=Lr O O;have w1:a.Op=0->a.N=0\/a.N=1:=λe0=>by
  have:=(YK ha e0).2;rw[h1]at this;have:=(Yp O O a.N).1 this;have:(2:Int)^(1:Int).toNat=2:=rfl;omega
 have kb:a.Op=1->get? a.Kids 0=some (kd a 0):=λe=>by
  obtain⟨c,eb,-⟩:=Ar ha e;unfold kd;rw[eb];rfl
 rw[Ow U U hc',QI U (by rw[hc'];simp)];unfold rdI;clear hc hc';refine⟨λh=>?_,λh=>?_⟩
 ·have h5:=h (k+5) O;clear h;by_cases e:a.Op=1<;>by_cases e0:a.Op=0<;>by_cases e1:w=1<;>by_cases q1:b.Op=0<;>by_cases q2:c.Op=0<;>simp[q1,q2,Vj,ZB,Yc,ZJ,Vn,get0,get1,get2',i2,e,e0,e1]at h5⊢<;>grind[runS]
 ·have h5:=h (k+6) O;clear h;by_cases e:a.Op=1<;>by_cases e0:a.Op=0<;>by_cases e1:w=1<;>by_cases q1:b.Op=0<;>by_cases q2:c.Op=0<;>simp[q1,q2,Td,Yq,Vn,get0,get1,get2',s2,e,e0,e1]at h5⊢<;>grind[runS]
def ZbW{op w:Int}{a:D.Term}(ho:op=20\/op=21)(ha:nodeB a=true)(hc:(a.Op==0)=false):Stp ⟨op,w,0,⟨[]⟩,[a]⟩ (rdW op w a):=λk out hk=>by
 have kb:a.Op=op->get? a.Kids 0=some (kd a 0)/\a.Kids=[kd a 0]:=λe=>by
  obtain⟨c,eb,-⟩:=KJ ha e ho;unfold kd;rw[eb];exact⟨rfl,rfl⟩
 rw[Ow U U aV,QI U aV];unfold rdW;refine⟨λh=>?_,λh=>?_⟩
 ·have h5:=h (k+5) O;rcases ho with rfl|rfl<;>simp[XE,ZB,Vn,get0]<;>grind[runS]
 ·have h5:=h (k+7) O;rcases ho with rfl|rfl<;>simp[Vn,get0]<;>grind[runS]
def Zdm{w m:Int}{a:D.Term}(ha:nodeB a=true)(h0:0<=m)(hm:m<=16)(h1:1<=w)(hw:m+w<=a.W)(hc:(a.Op==0)=false):Stp ⟨19,w,m,⟨[]⟩,[a]⟩ (rdC w m a):=λk out hk=>by
 have g:=ZH ha;have w1:w64 (m+w)=m+w:=Zb;have k9:a.Op=19->get? a.Kids 0=some (kd a 0)/\w64 (m+a.N)=m+a.N:=λe=>by
  obtain⟨c,eb,-,n0,n1,-⟩:=Ot ha e;unfold kd;rw[Zb,eb];exact⟨rfl,rfl⟩
 have k8:a.Op=18->get? a.Kids 0=some (kd a 0)/\get? a.Kids 1=some (kd a 1)/\w64 (m-(kd a 1).W)=m-(kd a 1).W:=λe=>by
  obtain⟨b,c,eb,h2,h3,-⟩:=Ju ha e;have:=ZH h3;have e1:kd a 1=c:=by unfold kd;rw[eb];rfl
  rw[e1,Zb];unfold kd;rw[eb];exact⟨rfl,rfl,rfl⟩
 have k0:a.Op=20\/a.Op=21->get? a.Kids 0=some (kd a 0):=λe=>by
  obtain⟨c,eb,-⟩:=KJ ha rfl e;unfold kd;rw[eb];rfl
 rw[Ow U U aV,QI U aV];unfold rdC;refine⟨λh=>?_,λh=>?_⟩<;>replace h:=h (k+5) O<;>by_cases e:w=a.W
 all_goals by_cases e9:a.Op=19
 all_goals by_cases e8:a.Op=18
 all_goals by_cases e0:a.Op=20\/a.Op=21
 all_goals simp[Wt,ZB,Un,WI,Vn,Wz,get0,w1,e,e9,e8,e0]at k9 k8 k0 h⊢
 all_goals grind[runS]
def Za9{w:Int}{a b:D.Term}(ha:nodeB a=true)(hb:nodeB b=true)(hc:(a.Op==0&&b.Op==0)=false)(hn:cnt a<=240):Stp ⟨18,w,0,⟨[]⟩,[a,b]⟩ (rdJ w a b):=λk out hk=>by
 have hc':([a,b].all λx=>x.Op==0)=false:=by simpa using hc
 have gb:=ZH hb;have kb:a.Op=19->b.Op=19->get? a.Kids 0=some (kd a 0)/\b.Kids=[kd b 0]/\w64 (b.N+b.W)=b.N+b.W/\YY (k+6) (kd a 0) (kd b 0)=some (ctm (kd a 0) (kd b 0)==0)/\Xc (k+7) (kd a 0) (kd b 0)=some (ctm (kd a 0) (kd b 0)==0):=λe e1=>by
  obtain⟨c,ea,hcc,-⟩:=Ot ha e;obtain⟨d,eb,-,n0,n1,-⟩:=Ot hb e1;have:=ME hcc;rw[ea,cnt1]at hn;have e2:kd a 0=c:=by unfold kd;rw[ea];rfl
  have e3:kd b 0=d:=by unfold kd;rw[eb];rfl
  rw[e2,e3,Zb,Lu O O,Lr O O,ea,eb];exact⟨rfl,rfl,rfl,rfl,rfl⟩
 rw[Ow U U hc',QI U (by rw[hc'];simp)];clear hc hc';unfold rdJ;by_cases e:a.Op=19/\b.Op=19
 ·obtain⟨k1,k2,k3,k4,k5⟩:=kb e.1 e.2;refine⟨λh=>?_,λh=>?_⟩<;>have h5:=h (k+5) O<;>have h7:=h (k+7) O<;>clear h<;>by_cases q:a.N=b.N+b.W
  all_goals simp[Xw,ZB,Vn,get0,get1,e.1,e.2,k1,k2,k3,k4,k5,q]at h5 h7⊢
  all_goals grind[runS]
 ·refine⟨λh=> ?_,λh=> ?_⟩<;>replace h:=h k O<;>by_cases e1:a.Op=19<;>by_cases e2:b.Op=19
  all_goals simp[Xw,get0,get1,e1,e2]at e h⊢
  all_goals grind[runS]
def Zen{k:Nat}{op w:Int}{a b out:D.Term}(h3:3<=op)(h16:op<=16)(ha:nodeB a=true)(hb:nodeB b=true)(hw:a.W=b.W)(h1:op<=13->a.W=w)(h2:14<=op->w=1)
  (hc:(a.Op==0&&b.Op==0)=false)(hn:cnt a<=240)(hk:1100000<=k)(h:∀m,k<=m->runS ZP m (rdB op w a b)=some out):Yk (k+7) ⟨op,w,0,⟨[]⟩,[a,b]⟩=some out:=by
 have hma:=ME ha;have i1:Yo (k+6) a b=some (ctm a b):=Ew _ _ _ O O;have i2:YY (k+6) a b=some (ctm a b==0):=Lu O O;obtain⟨o1,-,o3,o4⟩:=ZbI ha;have ga:=ZH ha;have hz:=BU (w:=w) O O;have ea:a.Op=0->a=⟨0,a.W,a.N,⟨[]⟩,[]⟩/\wordB a.W a.N=true:=YK ha;have c0:=YI hz;have c1:=YI (w:=1) (v:=0) au;have c2:=YI (w:=1) (v:=1) au;have c3:=YI o4;have w1:a.W=1->a.Op=0->a.N=0\/a.N=1:=λe e0=>by
  have:=(ea e0).2;rw[e]at this;have:=(Yp O O a.N).1 this;have:(2:Int)^(1:Int).toNat=2:=rfl;omega
 have hop:op=3\/op=4\/op=5\/op=6\/op=7\/op=8\/op=9\/op=10\/op=11\/op=12\/op=13\/op=14\/op=15\/op=16:=by omega
 have kb:b.Op=op->get? b.Kids 0=some (kd b 0)/\get? b.Kids 1=some (kd b 1)/\((kd b 0).Op=0->op<=13->a.Op=0->∃r,Yy op w a.N (kd b 0).N=some r/\Zw w r=some ⟨0,w,r,⟨[]⟩,[]⟩):=λe=>by
  obtain⟨c,d,eb,hcc,hd,hcd,hcw⟩:=Ej hb e h3 h16;unfold kd;rw[eb];refine⟨rfl,rfl,λe2 o e0=>?_⟩;obtain⟨ec,vc⟩:=YK hcc e2;obtain⟨r,q1,q2⟩:=UR op w a.N c.N;exact⟨r,q2,YI ((CV q1 (by rw[<-h1 o];exact(ea e0).2) (by rw[<-h1 o,hw,<-hcw o];exact vc)).1 ⟨h3,o⟩)⟩
 have h4:=h (k+4) O;have h5:=h (k+5) O;clear h;unfold rdB at h4 h5;by_cases e0:a.Op=0<;>by_cases e1:b.Op=op
 ·obtain⟨g0,g1,g2⟩:=kb e1;by_cases e2:(kd b 0).Op=0/\op<=13
  ·obtain⟨r,g3,g4⟩:=g2 e2.1 e2.2 e0;have e3:=e2.1;rcases hop with rfl|rfl|rfl|rfl|rfl|rfl|rfl|rfl|rfl|rfl|rfl|rfl|rfl|rfl<;>by_cases z:a.N=0<;>simp[z,Yk,Ww,Yc,ZJ,get0,get1,i1,i2,o1,sws,YW,ZB,Vn,e0,e1,e3,g0,g1,g3,g4]at h4 h5⊢<;>grind[runS]
  ·rcases hop with rfl|rfl|rfl|rfl|rfl|rfl|rfl|rfl|rfl|rfl|rfl|rfl|rfl|rfl<;>by_cases z:a.N=0<;>simp[z,Yk,Ww,Yc,ZJ,get0,get1,i1,i2,o1,sws,YW,ZB,Vn,e0,e1,g0,g1]at e2 h4 h5⊢<;>grind[runS]
 all_goals rcases hop with rfl|rfl|rfl|rfl|rfl|rfl|rfl|rfl|rfl|rfl|rfl|rfl|rfl|rfl<;>by_cases z:a.N=0<;>simp[z,Yk,Ww,Yc,ZJ,get0,get1,i1,i2,o1,sws,YW,ZB,Vn,e0,e1]at h4 h5⊢<;>grind[runS]
def ZdQ{k:Nat}{op w:Int}{a b out:D.Term}(h3:3<=op)(h16:op<=16)(ha:nodeB a=true)(hb:nodeB b=true)(hw:a.W=b.W)(h1:op<=13->a.W=w)(h2:14<=op->w=1)
  (hc:(a.Op==0&&b.Op==0)=false)(hn:cnt a<=240)(hk:1100000<=k)(h:∀m,k<=m->runS Zq m (rdB op w a b)=some out):WK (k+7) ⟨op,w,0,⟨[]⟩,[a,b]⟩=some out:=by
 have hma:=ME ha;have i1:Yl (k+6) a b=some (ctm a b):=EU _ _ _ O O;have i2:Xc (k+6) a b=some (ctm a b==0):=Lr O O;have gt:=ZbG a b;obtain⟨-,o1,o3,o4⟩:=ZbI ha;have ea:a.Op=0->a=⟨0,a.W,a.N,⟨[]⟩,[]⟩/\wordB a.W a.N=true:=YK ha;have w1:a.W=1->a.Op=0->a.N=0\/a.N=1:=λe e0=>by
  have:=(ea e0).2;rw[e]at this;have:=(Yp O O a.N).1 this;have:(2:Int)^(1:Int).toNat=2:=rfl;omega
 have hop:op=3\/op=4\/op=5\/op=6\/op=7\/op=8\/op=9\/op=10\/op=11\/op=12\/op=13\/op=14\/op=15\/op=16:=by omega
 have h4:=h (k+5) O;have h5:=h (k+6) O;clear h;unfold rdB at h4 h5;obtain⟨r,q1,q2⟩:=UR op w a.N (kd b 0).N;have kb:b.Op=op->get? b.Kids 0=some (kd b 0)/\get? b.Kids 1=some (kd b 1):=λe=>by
  obtain⟨c,d,eb,-⟩:=Ej hb e h3 h16;unfold kd;rw[eb];exact⟨rfl,rfl⟩
 by_cases e1:b.Op=op
 ·obtain⟨g0,g1⟩:=kb e1;rcases hop with rfl|rfl|rfl|rfl|rfl|rfl|rfl|rfl|rfl|rfl|rfl|rfl|rfl|rfl<;>by_cases e0:a.Op=0<;>by_cases z:a.N=0<;>simp[z,WK,Ve,TI,Yq,Vn,Y9,get0,get1,i1,i2,o1,sws,Wz,e0,e1,g0,g1,q1,q2]at h4 h5⊢<;>grind[runS]
 ·rcases hop with rfl|rfl|rfl|rfl|rfl|rfl|rfl|rfl|rfl|rfl|rfl|rfl|rfl|rfl<;>by_cases e0:a.Op=0<;>by_cases z:a.N=0<;>simp[z,WK,Ve,TI,Yq,Vn,Y9,get0,get1,i1,i2,o1,sws,Wz,e0,e1]at h4 h5⊢<;>grind[runS]
def swp(t:D.Term):Nat:=match t.Kids with
 |[a,b]=>if 0<ctm a b then 1 else 0
 |_=>0
def mea(t:D.Term):Nat:=2*cnt t+swp t
def Zdo(t:D.Term):swp t<=1:=by
 unfold swp;split
 ·split<;>omega
 ·omega
def Good(t:D.Term):D.Term⊕D.Term->Prop
 |.inl r=>nodeB r=true/\r.W=t.W/\cnt r<=cnt t
 |.inr u=>nodeB u=true/\u.W=t.W/\cnt u<=cnt t/\mea u<mea t
def Vh{t u:D.Term}(h:nodeB u=true)(hw:u.W=t.W)(hc:cnt u<cnt t):Good t (.inr u):=by
 have:=Zdo u;exact⟨h,hw,by omega,by unfold mea;omega⟩
def CE{op w:Int}{a:D.Term}(ho:op=1\/op=2)(ha:nodeB a=true)(hw:a.W=w):nodeB ⟨op,w,0,⟨[]⟩,[a]⟩=true:=hw▸Zfu ho ha
def Zd3{w:Int}{a b:D.Term}(ha:nodeB a=true)(hb:nodeB b=true)(hw:a.W+b.W=w)(h16:w<=16):nodeB ⟨18,w,0,⟨[]⟩,[a,b]⟩=true:=by
 have g1:=ZH ha;have g2:=ZH hb;rw[X3,Ye];simp[locB,shB,UV,ha,hb,hw,h16,show 1<=w by omega]
def kd0(op w m:Int)(nm:Str)(x:D.Term)(l:List D.Term):kd ⟨op,w,m,nm,x::l⟩ 0=x:=rfl
def kd1(op w m:Int)(nm:Str)(x y:D.Term)(l:List D.Term):kd ⟨op,w,m,nm,x::y::l⟩ 1=y:=rfl
def Zei{op w:Int}{a:D.Term}(ho:op=1\/op=2)(ha:nodeB a=true)(hw:a.W=w):Good ⟨op,w,0,⟨[]⟩,[a]⟩ (rdU op w a):=by
 unfold rdU;split
 ·rename_i e;obtain⟨c,ea,hcc,hcw⟩:=Zc8 ha e ho;rw[ea,kd0];exact⟨hcc,by rw[hcw,hw],by rw[cnt1,cnt1];omega⟩
 ·exact⟨CE ho ha hw,rfl,ZfP _⟩
def Zdf{op w:Int}{a:D.Term}(ho:op=20\/op=21)(ha:nodeB a=true)(hw:a.W<=w)(h16:w<=16):Good ⟨op,w,0,⟨[]⟩,[a]⟩ (rdW op w a):=by
 unfold rdW;split
 ·exact⟨ha,‹_›,by rw[cnt1];omega⟩
 ·split
  ·rename_i e;obtain⟨c,ea,hcc,hcw⟩:=KJ ha e ho;rw[ea,kd0];exact Vh (ZcW ho hcc h16 O) rfl (by rw[cnt1,cnt1,cnt1];omega)
  ·exact⟨ZcW ho ha h16 hw,rfl,ZfP _⟩
def Zey{w:Int}{a b c:D.Term}(ha:nodeB a=true)(hb:nodeB b=true)(hcc:nodeB c=true)(h1:a.W=1)(h2:b.W=w)(h3:c.W=w):Good ⟨17,w,0,⟨[]⟩,[a,b,c]⟩ (rdI w a b c):=by
 have pa:=QN a;have pb:=QN b;have pc:=QN c;unfold rdI
 repeat' split
 ·exact⟨hb,h2,by rw[cnt3];omega⟩
 ·exact⟨hcc,h3,by rw[cnt3];omega⟩
 ·exact⟨hb,h2,by rw[cnt3];omega⟩
 ·obtain⟨d,ea,hd,hdw⟩:=Ar ha ‹_›;rw[ea,kd0];exact Vh (ZeH hd hcc hb O h3 h2) rfl (by rw[cnt3,cnt3,cnt1];omega)
 ·exact⟨ha,by rw[h1];exact Eq.symm (And.left ‹_›),by rw[cnt3];omega⟩
 ·exact Vh (CE (.inl rfl) ha h1) (Eq.symm (And.left ‹_›)) (by rw[cnt1,cnt3];omega)
 ·exact⟨ZeH ha hb hcc h1 h2 h3,rfl,ZfP _⟩
def Zat{w:Int}{a b:D.Term}(ha:nodeB a=true)(hb:nodeB b=true)(hw:a.W+b.W=w)(h16:w<=16):Good ⟨18,w,0,⟨[]⟩,[a,b]⟩ (rdJ w a b):=by
 have ga:=ZH ha;have gb:=ZH hb;unfold rdJ;split
 ·rename_i h;obtain⟨e1,e2,e3,e4⟩:=h;obtain⟨c,ea,hcc,a0,a16,hcw⟩:=Ot ha e1;obtain⟨d,eb,hd,b0,b16,hdw⟩:=Ot hb e2;rw[ea,eb,kd0,kd0]at e4;have hcd:=Zfw e4;rw[show kd b 0=d by rw[eb];rfl];exact Vh (Lg hd b0 O O) rfl (by rw[ea,eb,cnt1,cnt2,cnt1,cnt1];omega)
 ·exact⟨Zd3 ha hb hw h16,rfl,ZfP _⟩
def ZcZ{w m:Int}{a:D.Term}(ha:nodeB a=true)(h0:0<=m)(hm:m<=16)(h1:1<=w)(hw:m+w<=a.W):Good ⟨19,w,m,⟨[]⟩,[a]⟩ (rdC w m a):=by
 unfold rdC
 repeat' split
 ·exact⟨ha,Eq.symm ‹_›,by rw[cnt1];omega⟩
 ·obtain⟨c,ea,hcc,b0,b16,hcw⟩:=Ot ha ‹_›;rw[ea,kd0];exact Vh (Lg hcc (by show 0<=m+a.N;omega) h1 (by show m+a.N+w<=_;omega)) rfl (by rw[cnt1,cnt1,cnt1];omega)
 ·rename_i h;obtain⟨b,c,ea,hb,hcc,hbc⟩:=Ju ha h.1;rw[ea,kd1]at h⊢;exact Vh (Lg hcc h0 h1 h.2) rfl (by rw[cnt1,cnt1,cnt2];omega)
 ·rename_i h;obtain⟨b,c,ea,hb,hcc,hbc⟩:=Ju ha h.1;rw[ea,kd1]at h;rw[ea,kd1,kd0];exact Vh (Lg hb O h1 O) rfl (by rw[cnt1,cnt1,cnt2];omega)
 ·rename_i h;obtain⟨c,ea,hcc,hcw⟩:=KJ ha rfl h.1;rw[ea,kd0]at h;rw[show kd a 0=c by rw[ea];rfl];exact Vh (Lg hcc h0 h1 h.2) rfl (by rw[ea,cnt1,cnt1,cnt1];omega)
 ·exact⟨Lg ha h0 h1 hw,rfl,ZfP _⟩
def ZcH{op w:Int}{a b:D.Term}(h3:3<=op)(h16:op<=16)(ha:nodeB a=true)(hb:nodeB b=true)(hw:a.W=b.W)(h1:op<=13->a.W=w)(h2:14<=op->w=1):Good ⟨op,w,0,⟨[]⟩,[a,b]⟩ (rdB op w a b):=by
 have ga:=ZH ha;have pa:=QN a;have pb:=QN b;have hs:sws op=true->op=3\/op=5\/op=8\/op=9\/op=10\/op=14:=λe=>by simpa[sws,or_assoc]using e
 have hz:=BU (w:=w) O O;unfold rdB
 repeat' split
 ·rename_i h;refine⟨Bo h3 h16 hb ha hw.symm (λo=>by have:=h1 o;omega) h2,rfl,by rw[cnt2,cnt2];omega,?_⟩;have e:ctm b a=-1:=by rw[Zdw,h.2]
  unfold mea swp;rw[cnt2,cnt2];simp[e,h.2];omega
 ·exact⟨hb,by show b.W=w;grind,by rw[cnt2];omega⟩
 ·exact⟨ha,by show a.W=w;grind,by rw[cnt2];omega⟩
 ·exact Vh (CE (.inl rfl) hb al) rfl (by rw[cnt1,cnt2];omega)
 ·exact⟨ha,by show a.W=w;grind,by rw[cnt2];omega⟩
 ·exact⟨SN au,by show 1=w;grind,by rw[cnt2,cnt0];omega⟩
 ·exact⟨ha,by show a.W=w;grind,by rw[cnt2];omega⟩
 ·exact⟨SN hz,rfl,by rw[cnt2,cnt0];omega⟩
 ·exact⟨SN au,by show 1=w;grind,by rw[cnt2,cnt0];omega⟩
 ·rename_i h;obtain⟨q1,q2,q3,q4,q5⟩:=h;have:=hs q1;obtain⟨c,d,eb,hcc,hd,hcd,hcw⟩:=Ej hb q4 h3 h16;rw[show kd b 0=c by rw[eb];rfl]at q5⊢;rw[show kd b 1=d by rw[eb];rfl];obtain⟨ea,va⟩:=YK ha q3;obtain⟨ec,vc⟩:=YK hcc q5;obtain⟨r,s1,s2⟩:=UR op w a.N c.N;have o:op<=13:=by omega
  have vr:wordB w r=true:=(CV s1 (by rw[<-h1 o];exact va) (by rw[<-h1 o,hw,<-hcw o];exact vc)).1 ⟨h3,o⟩;rw[s2,Zg8];have pc:=QN c;exact Vh (Bo h3 h16 (SN vr) hd (by show w=d.W;have:=hcw o;have:=h1 o;omega) (λ_=>rfl) (λo=>by omega)) rfl (by rw[eb,cnt2,cnt2,cnt2,cnt0];omega)
 ·exact⟨Bo h3 h16 ha hb hw h1 h2,rfl,ZfP _⟩
def ZbY{op w:Int}{a b:D.Term}(h3:3<=op)(h16:op<=16)(ha:nodeB a=true)(hb:nodeB b=true)(hw:a.W=b.W)(h1:op<=13->a.W=w)(h2:14<=op->w=1)(hc:(a.Op==0&&b.Op==0)=false)(hn:cnt a<=240):Stp ⟨op,w,0,⟨[]⟩,[a,b]⟩ (rdB op w a b):=λk out hk=>by
 have hc':([a,b].all λx=>x.Op==0)=false:=by simpa using hc
 rw[Ow U U hc',QI U (by rw[hc'];simp),show((op==1)||(op==2))=false by simp;omega,show(op==17)=false by simp;omega,show(op==19)=false by simp;omega,show((op==20)||(op==21))=false by simp;omega,show(op==18)=false by simp;omega,decide_eq_true (show 3<=op/\op<=16 from⟨h3,h16⟩)];exact⟨Zen h3 h16 ha hb hw h1 h2 hc hn hk,ZdQ h3 h16 ha hb hw h1 h2 hc hn hk⟩
def rd(t:D.Term):D.Term⊕D.Term:=
 if t.Kids≠[]/\(t.Kids.all λx=>x.Op==0)=true then .inl ⟨0,t.W,(Z0 2 t none).getD 0,⟨[]⟩,[]⟩else
 match t.Kids with
 |[a]=>if t.Op<=2 then rdU t.Op t.W a else if t.Op=19 then rdC t.W t.N a else rdW t.Op t.W a
 |[a,b]=>if t.Op=18 then rdJ t.W a b else rdB t.Op t.W a b
 |[a,b,c]=>rdI t.W a b c
 |_=>.inl t
def step{t:D.Term}(h:nodeB t=true)(hn:cnt t<=240):Good t (rd t)/\Stp t (rd t):=by
 obtain⟨op,w,m,nm,ks⟩:=t;obtain⟨⟨w1,w2⟩,hs⟩:=ZW h;by_cases hc:ks≠[]/\(ks.all λx=>x.Op==0)=true
 ·obtain⟨v,hv,h1,h2⟩:=known h hc.1 hc.2;have hl:ks.length<=3:=by
   rcases hs with⟨_,rfl,_⟩|⟨_,rfl,_⟩|⟨_,_,_,a,rfl,_⟩|⟨_,_,_,_,a,b,rfl,_⟩|⟨_,_,_,a,b,c,rfl,_⟩|⟨_,_,_,a,b,rfl,_⟩|⟨_,_,_,_,a,rfl,_⟩|⟨_,_,_,a,rfl,_⟩<;>simp
  rw[rd,ZfC hc,h2 2 (ZfP _),Zg8];refine⟨⟨SN hv,rfl,by rw[Xk,Xk];simp only[Vp];omega⟩,λk out hk=>⟨λh=>?_,λh=>?_⟩⟩<;>rw[<-h k (ZfP _)]
  ·rw[show k+8=(k+7)+1 from rfl,ZP,ZfD (by rw[Za];simpa using hc.1),Nn (ks:=ks) (n:=k+7) O O,hc.2];simp only[Zf9,ZfR,h2 (k+7) O,YI hv];rfl
  ·have hd:decide (len ks>0)=true:=by
    rw[Za];simp only[ZfN];have:=List.length_pos_iff.2 hc.1;omega
   rw[show k+8=(k+7)+1 from rfl,Zq,Jw (ks:=ks) (n:=k+7) O O,hc.2,hd];simp only[Zf9,ZgX,ZfR,h1,Y9];rfl
 rw[rd,ZfD hc];have hc:ks≠[]->(ks.all λx=>x.Op==0)=false:=λe=>by
  cases q:ks.all λx=>x.Op==0
  ·rfl
  ·exact absurd ⟨e,q⟩ hc
 have lf:ks=[]->op=0\/op=22->Good ⟨op,w,m,nm,ks⟩ (.inl ⟨op,w,m,nm,ks⟩)/\Stp ⟨op,w,m,nm,ks⟩ (.inl ⟨op,w,m,nm,ks⟩):=λe ho=>by
  subst e;refine⟨⟨h,rfl,ZfP _⟩,λk out hk=>⟨λh=>?_,λh=>?_⟩⟩<;>rw[<-h k (ZfP _)]
  ·rw[show k+8=(k+7)+1 from rfl,ZP,ZfC ap];rfl
  ·rw[QI U ap];rcases ho with rfl|rfl<;>simp[runS]
 rcases hs with⟨ho,rfl,rfl,hv⟩|⟨ho,rfl,rfl⟩|⟨ho,rfl,rfl,a,rfl,ha,hw⟩|⟨h3,h16,rfl,rfl,a,b,rfl,ha,hb,hab,e1,e2⟩|⟨rfl,rfl,rfl,a,b,c,rfl,ha,hb,hcc,aw,bw,cw⟩|⟨rfl,rfl,rfl,a,b,rfl,ha,hb,hab⟩|⟨rfl,rfl,m0,m16,a,rfl,ha,haw⟩|⟨ho,rfl,rfl,a,rfl,ha,haw⟩
 ·exact lf rfl (.inl ho)
 ·exact lf rfl (.inr ho)
 ·have hc:(a.Op==0)=false:=by simpa using hc U
  show Good _ (if op<=2 then _ else _)/\Stp _ (if op<=2 then _ else _);rw[ZfC O];exact⟨Zei ho ha hw,Zeq ho ha hc⟩
 ·have hc:(a.Op==0&&b.Op==0)=false:=by simpa using hc U
  rw[cnt2]at hn;show Good _ (if op=18 then _ else _)/\Stp _ (if op=18 then _ else _);rw[ZfD O];exact⟨ZcH h3 h16 ha hb hab e1 e2,ZbY h3 h16 ha hb hab e1 e2 hc O⟩
 ·rw[cnt3]at hn;exact⟨Zey ha hb hcc aw bw cw,Zek ha hb aw aT O⟩
 ·rw[cnt2]at hn;exact⟨Zat ha hb hab w2,Za9 ha hb aT O⟩
 ·exact⟨ZcZ ha m0 m16 w1 haw,Zdm ha m0 m16 w1 haw aT⟩
 ·have hc:(a.Op==0)=false:=by simpa using hc U
  show Good _ (if op<=2 then _ else if op=19 then _ else _)/\Stp _ (if op<=2 then _ else if op=19 then _ else _);rw[ZfD O,ZfD O];exact⟨Zdf ho ha haw w2,ZbW ho ha hc⟩
def out:D.Term⊕D.Term->D.Term
 |.inl r=>r
 |.inr r=>r
theorem ZeY{a:D.Term}{i:Nat}{v:Str×Int}(h:v∈vrs (kd a i))(ho:a.Op≠22):v∈vrs a:=by
 have hl:∀(l:List D.Term)(j:Nat),v∈vrs ((l[j]?).getD default)->v∈vrss l:=λl=>by
  induction l with
  |nil=>intro j h;rw[VS]at h;exact h
  |cons x l ih=>
   intro j h;rw[Xm,ZfG];cases j with
   |zero=>exact .inl h
   |succ j=>exact .inr (ih j aA)
 rw[VS,ZfD ho];exact hl _ i h
def vrsK{o w m:Int}{s:Str}{l:List D.Term}(h:o≠22):vrs ⟨o,w,m,s,l⟩=vrss l:=by rw[VS,ZfD h]
def Zfi{t:D.Term}(h:t.Op=22->t.Kids=[]){v:Str×Int}(hv:v∈vrs (out (rd t))):v∈vrs t:=by
 obtain⟨op,w,m,nm,ks⟩:=t;have hk:=@ZeY;unfold rd at hv;split at hv
 ·simp[out,VS,WX]at hv
 split at hv
 rotate_right
 ·exact hv
 all_goals
  rename_i e;simp only at e h hv;subst e;have h22:op≠22:=λe=>by simp_all
  rw[vrsK h22];simp only[Xm,WX,Zgb];revert hv
 ·unfold rdU rdC rdW
  repeat' split
  all_goals simp[out,vrsK,Xm,WX,h22]<;>grind
 ·split
  ·unfold rdJ;split<;>simp[out,vrsK,Xm,WX]<;>grind
  ·unfold rdB
   repeat' split
   all_goals simp[out,vrsK,Xm,WX,h22]<;>grind
 ·unfold rdI
  repeat' split
  all_goals simp[out,vrsK,Xm,WX,h22]<;>grind
theorem simpler:∀(d:Nat)(t:D.Term),mea t<=d->nodeB t=true->cnt t<=240->∃r,nodeB r=true/\r.W=t.W/\cnt r<=cnt t/\(∀v∈vrs r,v∈vrs t)/\∀n,1100000+8*(d+1)<=n->ZP n t=some r/\Zq n t=some r:=by
 intro d
 induction d with
 |zero=>
  intro t h;have:=QN t;unfold mea at h;omega
 | succ d ih=>
  intro t hm h hn;obtain⟨hg,h1⟩:=step h hn;have hr:=@Zfi t λe=>by
   obtain⟨op,w,m,nm,ks⟩:=t;have:=(ZW h).2;simp only at e;grind
  cases e:rd t with
  |inl r=>
   rw[e]at hg h1 hr;refine⟨r,hg.1,hg.2.1,hg.2.2,λv=>hr,λn hn=>?_⟩;obtain⟨k,rfl⟩:∃k,n=k+8:=⟨n-8,by omega⟩;exact⟨(h1 k r O).1 λ_ _=>rfl,(h1 k r O).2 λ_ _=>rfl⟩
  |inr u=>
   rw[e]at hg h1 hr;obtain⟨g1,g2,g3,g4⟩:=hg;obtain⟨r,q1,q2,q3,q0,q4⟩:=ih u O g1 O;refine⟨r,q1,by rw[q2,g2],by omega,λv hv=>hr (q0 v hv),λn hn=>?_⟩;obtain⟨k,rfl⟩:∃k,n=k+8:=⟨n-8,by omega⟩;exact⟨(h1 k r O).1 λm hm=>(q4 m O).1,(h1 k r O).2 λm hm=>(q4 m O).2⟩
def simple{t:D.Term}(h:nodeB t=true)(hn:cnt t<=240):∃r,nodeB r=true/\r.W=t.W/\cnt r<=cnt t/\(∀v∈vrs r,v∈vrs t)/\∀n,4194400<=n->ZP n t=some r/\Zq n t=some r:=by
 obtain⟨r,q1,q2,q3,q0,q4⟩:=simpler (mea t) t (ZfP _) h hn;have:=Zdo t;have e:mea t=2*cnt t+swp t:=rfl;exact⟨r,q1,q2,q3,q0,λn hn=>q4 n O⟩
end Go.Proofs.YtjhiajehpjpibaaGreatDoor
end
section
namespace Go.Proofs.YtjhiajehpjpibaaGreatDoor
open Go.GL
set_option maxRecDepth 100000
variable{fuel:Nat}[FV fuel]
theorem ZaS:∀(n:Nat)(t:D.Term),msz t<=1048576->1048580+cnt t<=n->XA n t=some t:=by
 intro n
 induction n with
 |zero=>omega
 | succ n ih=>
  intro t hs hn;have hz:=Ux t;have hc:=Xk t;refine Y5 (l:=t.Kids) (n:=n) (σ:=List D.Term) (λj a=>((j:Int),a)) (λys a=>a++ys=t.Kids/\(∀x∈ys,x∈t.Kids)) (λr=>r=t.Kids)
   (λj x xs a hj hx hlen⟨h1,h2⟩=>by
    have hd:decide ((j:Int)<len t.Kids)=true:=by grind[Za]
    have hm:=h2 x U;have m1:=VU hm;have m2:=WC hm;simp only[hd,ZfR,get?_nat,hx,Zf9,ih x O O]
    grind[VZ,Zb])
   (λa⟨h1,_⟩=>by
    have hd:decide ((t.Kids.length:Int)<len t.Kids)=false:=by rw[Za];simp
    simp only[hd,ZfB,ZfK]
    exact⟨_,rfl,by simpa using h1⟩) (a:=[]) ⟨rfl,λ_ h=>h⟩ O λr g2=>?_
  rw[g2];cases t;rfl
theorem JM{t:D.Term}(h:nodeB t=true)(hn:cnt t<=240):msz t<=2640:=by
 grind[ME]
def Ap{t:D.Term}(h:nodeB t=true)(hn:cnt t<=240):XA fuel t=some t:=ZaS _ _ (by grind[JM]) ag
def t0:D.Term:=⟨0,0,0,⟨[]⟩,[]⟩
noncomputable def simp1(t:D.Term):D.Term:=(ZP fuel0 t).getD t0
def Iq{t:D.Term}(h:nodeB t=true)(hn:cnt t<=240):nodeB (simp1 t)=true/\(simp1 t).W=t.W/\cnt (simp1 t)<=cnt t/\ZP fuel t=some (simp1 t)/\Zq fuel t=some (simp1 t)/\∀v∈vrs (simp1 t),v∈vrs t:=by
 obtain⟨r,q1,q2,q3,q0,q⟩:=simple h hn;have e:simp1 t=r:=by unfold simp1;rw[(q fuel0 au).1];rfl
 rw[e];exact⟨q1,q2,q3,(q fuel FV.le).1,(q fuel FV.le).2,q0⟩
def RZ{t:D.Term}(h:termB t=true):nodeB t=true/\cnt t<=240:=by
 simp_all[termB,ZfF,ZfN]
noncomputable def mkT(op w m:Int)(ks:List D.Term):D.Term×Bool:=if termB ⟨op,w,m,⟨[]⟩,ks⟩=true then(simp1 ⟨op,w,m,⟨[]⟩,ks⟩,true)else(t0,false)
def ZeB{op w m:Int}{ks:List D.Term}(h:sml ks):msz ⟨op,w,m,⟨[]⟩,ks⟩<=1048576:=by
 simp_all[Ux,sml]
theorem Ae{op w m:Int}{ks:List D.Term}(h:sml ks):Vi fuel op w m ks=some (mkT op w m ks):=by
 unfold Vi mkT;rw[Ul (ZeB h)];cases c:termB ⟨op,w,m,⟨[]⟩,ks⟩
 ·rfl
 ·obtain⟨a,b⟩:=RZ c;obtain⟨q1,q2,q3,q4,q5,-⟩:=Iq (fuel:=fuel) a b;simp only[ZfJ,ZfB,ZfK,ZfR,q5,Zf9,Ap q1 O]
def Tw{op w m:Int}{ks:List D.Term}(h:sml ks):Z4 fuel op w m ks=some (mkT op w m ks):=by
 unfold Z4 mkT;rw[Qu (ZeB h)];cases c:termB ⟨op,w,m,⟨[]⟩,ks⟩
 ·rfl
 simp_all[RZ,Iq,ZfJ,ZfB,ZfK,ZfR,Zf9]
def fine(t:D.Term):Prop:=nodeB t=true/\cnt t<=240/\(runV [] (vrs t)).isSome=true
def NG{t:D.Term}:termB t=true↔fine t:=by
 simp[termB,fine,and_comm,and_assoc,and_left_comm]
theorem II{F:Str->Option Int}:∀(l g:List (Str×Int)),(∀s v,g.lookup s=some v->F s=some v)->(∀q∈l,F q.1=some q.2)->(runV g l).isSome=true
 |[],g,_,_=>rfl
 | q::l,g,hg,hl=>by
  unfold runV stp;have hq:=hl q U;cases e:g.lookup q.1 with
  |some v=>
   simp only;rw[ZfC (Option.some.inj ((hg _ _ e).symm.trans hq)),Zf9];exact II l g hg λy hy=>hl y ao
  |none=>
   rw[Zf9];refine II l (q::g) (λs v h=>?_) λy hy=>hl y ao;rw[ZfZ]at h;grind
def YT{op w m:Int}{ks:List D.Term}(h:(mkT op w m ks).2=true):fine (mkT op w m ks).1/\(mkT op w m ks).1.W=w:=by
 unfold mkT at h⊢;cases c:termB ⟨op,w,m,⟨[]⟩,ks⟩
 ·simp_all
 ·obtain⟨a,b⟩:=RZ c;obtain⟨q1,q2,q3,q4,q5,q6⟩:=Iq (fuel:=fuel0) a b;obtain⟨g,hg⟩:=ZhC.1 (NG.1 c).2.2;exact⟨⟨q1,by simp only[ZfR];omega,II (F:=λs=>g.lookup s) _ [] (λs v h=>by cases h) λq hq=>(LA hg).2 q (q6 q hq)⟩,q2⟩
theorem Uc{t:D.Term}(h:fine t):msz t<=2640:=JM h.1 h.2.1
def sml2{a b:D.Term}(ha:msz a<=2640)(hb:msz b<=1000000):sml [a,b]:=by
 grind[sml,Uj,SX]
noncomputable def andT:D.Term->List D.Term->D.Term×Bool
 |a,[]=>(a,true)
 |a,x::l=>if(mkT 8 1 0 [a,x]).2=true then andT (mkT 8 1 0 [a,x]).1 l else(t0,false)
def ZbB(a:D.Term):andT a []=(a,true):=by rw[andT]
def Ce{p:D.Term×Bool}(h:p.2=true):(D.Term.mk p.1.Op p.1.W p.1.N p.1.Name p.1.Kids,true)=p:=by
 obtain⟨⟨a,b,c,d,e⟩,q⟩:=p;cases h;rfl
theorem GI:∀{l:List D.Term}{a:D.Term},fine a/\a.W=1->(andT a l).2=true->fine (andT a l).1/\(andT a l).1.W=1
 |[],a,ha,_=>ha
 |x::l,a,ha,h=>by
  unfold andT at h⊢;by_cases c:(mkT 8 1 0 [a,x]).2=true
  ·rw[ZfC c]at h⊢;exact GI (YT c) h
  simp_all
def Dy{mk:Int->Int->Int->List D.Term->Option (D.Term×Bool)}(hmk:∀ks,sml ks->mk 8 1 0 ks=some (mkT 8 1 0 ks)){l:List D.Term}{a:D.Term}(ha:fine a)(hl:l.length<=1048576)(hs:∀x∈l,msz x<=2640):
    iterN (λ(s2:Int×Int×Int×Int×Str×(List D.Term))=>if (decide (s2.1<(len l)))then(get? l s2.1).bind λx4=>(mk 8 1 0 ([(D.Term.mk s2.2.1 s2.2.2.1 s2.2.2.2.1 s2.2.2.2.2.1 s2.2.2.2.2.2),x4]:List D.Term)).bind λx5=>if(!x5.2)then some (.inr (.inr ((D.Term.mk 0 0 0 ⟨[]⟩ ([]:List D.Term)),false)))else some (.inl ((w64 (s2.1+1)),x5.1.Op,x5.1.W,x5.1.N,x5.1.Name,x5.1.Kids))else some (.inr (.inl (s2.2.1,s2.2.2.1,s2.2.2.2.1,s2.2.2.2.2.1,s2.2.2.2.2.2))):Int×Int×Int×Int×Str×(List D.Term)->Option ((Int×Int×Int×Int×Str×(List D.Term))⊕((Int×Int×Int×Str×(List D.Term))⊕(D.Term×Bool)))) fuel (0,a.Op,a.W,a.N,a.Name,a.Kids)=some (if(andT a l).2=true then(.inl ((andT a l).1.Op,(andT a l).1.W,(andT a l).1.N,(andT a l).1.Name,(andT a l).1.Kids):((Int×Int×Int×Str×(List D.Term))⊕(D.Term×Bool)))else .inr (t0,false)):=by
  refine VQ (l:=l) (n:=fuel) (σ:=D.Term) (λk a=>((k:Int),a.Op,a.W,a.N,a.Name,a.Kids))
    (λys b=>fine b/\andT b ys=andT a l/\∀x∈ys,msz x<=2640) (λr=>r=if(andT a l).2=true then(.inl ((andT a l).1.Op,(andT a l).1.W,(andT a l).1.N,(andT a l).1.Name,(andT a l).1.Kids):((Int×Int×Int×Str×(List D.Term))⊕(D.Term×Bool)))else .inr (t0,false))
    (λk x xs b hk hx hlen⟨h1,h2,h3⟩=>by
      have hd:decide ((k:Int)<len l)=true:=by grind[Za]
      have hsz:=Uc h1;have e:(D.Term.mk b.Op b.W b.N b.Name b.Kids)=b:=by cases b;rfl
      simp only[hd,ZfR,get?_nat,hx,Zf9,e];rw[hmk [b,x] (sml2 hsz al)];by_cases c:(mkT 8 1 0 [b,x]).2=true
      · refine .inl ⟨(mkT 8 1 0 [b,x]).1,by grind[Zb],(YT c).1, ?_,λy hy=>h3 y ao⟩
        simp_all[andT,ZfC]
      · simp_all[andT,t0,ZfD]<;>grind)
    (λb⟨h1,h2,_⟩=>by
      have hd:decide ((l.length:Int)<len l)=false:=by simp[Za]
      simp_all[ZfB,ZfK,ZbB]<;>grind) (a:=a) ⟨ha,rfl,hs⟩ (lt_fuel (fuel:=fuel) hl) λr g2=>?_
  rw[g2]
def c11:D.Term:=⟨0,1,1,⟨[]⟩,[]⟩
def JV:fine c11:=⟨SN au,by simp[c11,cnt0],by simp[c11,VS,WX,runV]⟩
noncomputable def allT(l:List D.Term):D.Term×Bool:=if tsB l 1=true then andT c11 l else(t0,false)
def BP{l:List D.Term}{w:Int}(h:tsB l w=true){x:D.Term}(hx:x∈l):termB x=true/\x.W=w:=by
 simp_all[tsB,ZfV]
theorem KP:∀{l:List D.Term}{a:D.Term},(andT a l).2=false->andT a l=(t0,false)
 |[],a,h=>by cases h
 |x::l,a,h=>by
  unfold andT at h⊢;by_cases c:(mkT 8 1 0 [a,x]).2=true
  ·rw[ZfC c]at h⊢;exact KP h
  simp_all
def EE{α ρ:Type}{l:List α}{b:α->Bool}{z:ρ}(G:α->Int->Option (Int⊕(Unit⊕ρ)))(hG:∀(k:Nat)(x:α),l[k]? =some x->G x k=if b x=true then some (.inl (w64 ((k:Int)+1)))else some (.inr (.inr z)))(hb:l.length<=1048576){n:Nat}(hn:l.length<n):
  iterN (λ(s1:Int)=>if(decide (s1<(len l)))then(get? l s1).bind λx1=>G x1 s1 else some (.inr (.inl ()))) n 0=some (if l.all b=true then(.inl ():Unit⊕ρ)else .inr z):=by
 refine VQ (l:=l) (n:=n) (σ:=Unit) (λk _=>(k:Int)) (λys _=>ys.all b=l.all b) (λr=>r=if l.all b=true then(.inl ():Unit⊕ρ)else .inr z)
  (λk x xs a hk' hx hlen hi=>by
   have hd:decide ((k:Int)<len l)=true:=by grind[Za]
   simp only[hd,ZfR,get?_nat,hx,Zf9];rw[ZhQ]at hi;cases c:b x
   ·simp_all
   ·rw[c,Zgk]at hi
    exact .inl ⟨(),by grind[Zb],hi⟩)
  (λa hi=>by
   grind[decide,len,Za]) (a:=()) rfl hn λr g2=>?_
 rw[g2]
def Zbx{l:List D.Term}(h:sml l):QO fuel l=some (allT l):=by
 unfold QO allT
 have hl:=EE (l:=l) (b:=λt=>termB t&&t.W==1) (z:=((D.Term.mk 0 0 0 ⟨[]⟩ ([]:List D.Term)),false)) (λx1 s1=>(Xf fuel x1).bind λx2=>if((!x2)||(x1.W !=1))then some (.inr (.inr ((D.Term.mk 0 0 0 ⟨[]⟩ ([]:List D.Term)),false)))else some (.inl ((w64 (s1+1))))) (λk x hx=>by
  grind[Ul,Ec,List.mem_of_getElem?,termB]) (Ry h) (lt_fuel (fuel:=fuel) (Ry h))
 rw[hl];cases c:tsB l 1
 ·unfold tsB at c;rw[c];rfl
 have hm:=λx hx=>Uc (NG.1 (BP c (x:=x) hx).1);unfold tsB at c;rw[c];simp only[ZfR,Y9,Zf9];have:=Dy (fuel:=fuel) (mk:=Vi fuel) (λks hk=>Ae hk) JV (Ry h) hm;unfold c11 at this;rw[this];cases e:(andT ⟨0,1,1,⟨[]⟩,[]⟩ l).2
 ·simp_all[andT,c11,t0,KP]
 ·exact congrArg some (Ce e)
def Zbq{l:List D.Term}(h:sml l):Pf fuel l=some (allT l):=by
 unfold Pf allT;rw[YI au];simp only[Zf9]
 have hl:=EE (l:=l) (b:=λt=>termB t&&t.W==1) (z:=((D.Term.mk 0 0 0 ⟨[]⟩ ([]:List D.Term)),false)) (λx2 s1=>(XX fuel x2).bind λx3=>(if(!x3)then some default else(get? l s1)).bind λx4=>if((!x3)||(x4.W !=1))then some (.inr (.inr ((D.Term.mk 0 0 0 ⟨[]⟩ ([]:List D.Term)),false)))else some (.inl ((w64 (s1+1))))) (λk x hx=>by
  grind[Qu,Ec,List.mem_of_getElem?,get?_nat,termB]) (Ry h) (lt_fuel (fuel:=fuel) (Ry h))
 rw[hl];cases c:tsB l 1
 ·unfold tsB at c;rw[c];rfl
 have hm:=λx hx=>Uc (NG.1 (BP c (x:=x) hx).1);unfold tsB at c;rw[c];have:=Dy (fuel:=fuel) (mk:=Z4 fuel) (λks hk=>Tw hk) JV (Ry h) hm;unfold c11 at this;rw[this];cases e:(andT ⟨0,1,1,⟨[]⟩,[]⟩ l).2
 ·simp_all[andT,c11,t0,KP]
 ·exact congrArg some (Ce e)
def HY{l:List D.Term}(h:(allT l).2=true):fine (allT l).1/\(allT l).1.W=1:=by
 unfold allT at h⊢;split at h
 ·rw[ZfC ‹_›];exact GI ⟨JV,rfl⟩ h
 ·cases h
def ZdA{l:List D.Term}(h:(allT l).2=false):allT l=(t0,false):=by
 unfold allT at h⊢;split
 all_goals simp_all[ZfC,KP]
end Go.Proofs.YtjhiajehpjpibaaGreatDoor
end
section
namespace Go.Proofs.YtjhiajehpjpibaaGreatDoor
open Go.GL
set_option maxRecDepth 100000
variable{fuel:Nat}[FV fuel]
def ZeS:sml t0.Kids:=by show[].length+mszs []<=1048576;rw[SX];simp
def Zft:msz t0<=1048576:=by rw[Ux];show 0+0+mszs []<=_;rw[SX];simp
def Zb8{t:D.Term}(h:fine t):sml t.Kids:=by
 have:=Uc h;have:=Ux t;unfold sml;omega
def Zae(l:List D.Term):msz (allT l).1<=1048576/\sml (allT l).1.Kids:=by
 cases c:(allT l).2
 ·rw[ZdA c];exact⟨Zft,ZeS⟩
 ·have:=(HY c).1;exact⟨by have:=Uc this;omega,Zb8 this⟩
end Go.Proofs.YtjhiajehpjpibaaGreatDoor
end
section
namespace Go.Proofs.YtjhiajehpjpibaaGreatDoor
open Go.GL
open Cc (BS LS CircP Grow GoodL Good litN lines negs seqP ifP opP net RelB FOk FU)
set_option maxRecDepth 100000
variable{fuel:Nat}[FV fuel]
theorem Zfp:∀n:Nat,(∀t:D.Term,cnt t<n->nodeB t=true->∀p∈vrs t,1<=p.2/\p.2<=16/\p.1.bytes.length<=8):=by
 intro n
 induction n with
 |zero=>omega
 | succ n ih=>
  intro t h hb p hp;have hc:=Xk t;rw[VS]at hp;by_cases h22:t.Op=22
  ·simp_all[ZfC,ZfL,ZH,Ev]
  ·rw[ZfD h22]at hp;have:∀l:List D.Term,(∀x∈l,x∈t.Kids)->p∈vrss l->∃x∈t.Kids,p∈vrs x:=λl=>by
    induction l with
    |nil=>simp[WX]
    |cons y l ihl=>
     grind[Xm]
   obtain⟨x,hx,hpx⟩:=this t.Kids (λ_ h=>h) hp;exact ih x (by have:=WC hx;omega) (nodeK hb x hx) p hpx
def c0:D.Circuit:=⟨0,[]⟩
def circT(t:D.Term):D.Circuit×List Int×Bool:=
 if termB t=true then
  let r:=nP (vrt t) t (⟨bitsV (vrt t) 0,[]⟩,false)
  if bitsV (vrt t) 0>30\/r.2.2=true then(c0,[],false)else(r.2.1,r.1,true)
 else(c0,[],false)
def Mc{b:Int}(h0:0<=b)(h1:b<=30):CircP ⟨b,[]⟩:=⟨h0,h1,by simp,λk g hg=>by simp at hg⟩
section
variable{t:D.Term}(h:termB t=true)(hs:msz t<=1048576)
include h hs
theorem QR:VL t (vrt t)/\nodeB t=true/\cnt t<=240/\(∀v∈vrt t,1<=v.W/\v.W<=16)/\(∀v∈vrt t,v.Name.bytes.length<=1000)/\(vrt t).length<=1000/\0<=bitsV (vrt t) 0:=by
 obtain⟨-,hL⟩:=OU (fuel:=fuel0) h hs;have hb:=h;unfold termB at hb;simp only[ZfF,ZfN]at hb;obtain⟨⟨hc,hn⟩,-⟩:=hb;have hw:∀v∈vrt t,1<=v.W/\v.W<=16/\v.Name.bytes.length<=8:=λv hv=>Zfp _ t (Nat.lt_succ_self _) hn _ (hL.mem v hv);have hlen:(vrt t).length<=1000:=by
  grind[vrt,Md,vrs,List.length_reverse,Jl]
 have hb0:=FB (l:=vrt t) (a:=0) λv hv=>(hw v hv).1;grind[bitsV]
end
def Cr{t:D.Term}(hs:msz t<=1048576):Uv fuel t=some (circT t):=by
 unfold Uv circT;by_cases h:termB t=true
 ·obtain⟨hL,hn,hc,hw,hnm,hlen,hb0⟩:=QR h hs;rw[(OU h hs).1,Ul hs,h];simp only[Zf9,ZfJ,ZfB,ZfK,Zgl,ZfR];rw[Zax hlen hw];simp only[Zf9];by_cases hb:bitsV (vrt t) 0>30
  ·rw[ZfC ah,ZfC (.inl hb)];rfl
  ·rw[ZfD ah];have hC:=Mc hb0 O;rw[Cc.spec_new hC];simp only[Zf9];have hv:VF (vrt t) (⟨bitsV (vrt t) 0,[]⟩:D.Circuit):=⟨λv hv=>(hw v hv).1,rfl⟩;rw[ZcX hL.nm (λv hv=>(hw v hv).2) fuel t (⟨bitsV (vrt t) 0,[]⟩,false) ag hn hL.all hC hv];simp only[Zf9];have g:=OC hL.nm _ t (⟨bitsV (vrt t) 0,[]⟩,false) (ZfP _) hn hL.all hC hv;generalize nP (vrt t) t (⟨bitsV (vrt t) 0,[]⟩,false)=r at g⊢;have hw16:=ZH hn;have hl:=g.len;cases hf:r.2.2
   ·grind[Pi]
   ·rw[ZfC rfl,ZfC (.inr rfl)];rfl
 ·have h':termB t=false:=by simpa using h
  have e:WM fuel t=some []:=by
   simp_all[WM,Ul]
  rw[e,Ul hs,h',ifn];rfl
def BA{t:D.Term}(hs:msz t<=1048576):Uw fuel t=some (circT t):=by
 unfold Uw circT;rw[Qu hs];simp only[Zf9];by_cases h:termB t=true
 ·obtain⟨hL,hn,hc,hw,hnm,hlen,hb0⟩:=QR h hs;rw[h];simp only[ZfJ,ZfB,ZfK,Zgl,ZfR];rw[ZaF fuel t ag hn];simp only[Zf9];have hv:VF (vrt t) (⟨bitsV (vrt t) 0,[]⟩:D.Circuit):=⟨λv hv=>(hw v hv).1,rfl⟩;cases hwd:wideB t
  ·simp only[ZfB,ZfK];rw[Gb h hs];simp only[Zf9];obtain⟨mp,hl1,hmp⟩:=Zc4 (fuel:=fuel) hlen hw hnm hL.nm;rw[show vtab (vrs t).reverse=vrt t from rfl,hl1];simp only[Zf9];by_cases hb:bitsV (vrt t) 0>30
   ·rw[ZfC ah,ZfC (.inl hb)];rfl
   ·rw[ZfD ah];have hC:=Mc hb0 O;obtain⟨m0,e0,r0⟩:=Cc.impl_new (fuel:=fuel) hC;rw[e0];simp only[Zf9];obtain⟨m1,e1,r1⟩:=Zdr hL.nm hmp fuel t (⟨bitsV (vrt t) 0,[]⟩,false) m0 ag hn hwd hL.all hC hv r0;rw[e1];simp only[Zf9];have g:=OC hL.nm _ t (⟨bitsV (vrt t) 0,[]⟩,false) (ZfP _) hn hL.all hC hv;generalize nP (vrt t) t (⟨bitsV (vrt t) 0,[]⟩,false)=r at g r1⊢;have hw16:=ZH hn;have hl:=g.len;rw[r1.full];cases hf:r.2.2
    ·rw[ifn,ZfD ah];rw[show Zg r.1=some r.1 from by grind[Zg,Pi]];simp only[Zf9];rw[r1.c]
    ·rw[ZfC rfl,ZfC (.inr rfl)];rfl
  ·simp only[ZfR];by_cases hb:bitsV (vrt t) 0>30
   ·rw[ZfC (.inl hb)];rfl
   ·have hC:=Mc hb0 O;rw[ZfC (.inr (Zbh hL.nm _ t (⟨bitsV (vrt t) 0,[]⟩,false) (ZfP _) hn hwd hL.all hC hv))];rfl
 ·have h':termB t=false:=by simpa using h
  rw[h'];rfl
end Go.Proofs.YtjhiajehpjpibaaGreatDoor
end
section
namespace Go.Proofs.YtjhiajehpjpibaaGreatDoor.Cc
open Go.GL
variable{fuel:Nat}[FU fuel]
def j0:w64 0=0:=by decide
def j1:w64 1=1:=by decide
def j2:w64 2=2:=by decide
def j3:w64 3=3:=by decide
def cmpv{x y:Int}(hx:litN 391 x=true)(hy:litN 391 y=true)(h:iab x<iab y):Xn x y=some (-1):=by
 unfold Xn;obtain⟨fx,fx'⟩:=X9 hx (Zgm _);obtain⟨fy,fy'⟩:=X9 hy (Zgm _);simp_all[Xh,ZY,Wy]
def cmpv'{x y:Int}(hx:litN 391 x=true)(hy:litN 391 y=true)(h:iab y<iab x):Xn x y=some 1:=by
 unfold Xn;obtain⟨fx,fx'⟩:=X9 hx (Zgm _);obtain⟨fy,fy'⟩:=X9 hy (Zgm _);grind[Xh,iab,ZY,Wy]
def insC2(n:Nat){x y:Int}(hx:litN 391 x=true)(hy:litN 391 y=true)(h:iab y<iab x):Zj (n+6) [x,y] 0 2=some [y,x]:=by
 simp_all[Zj,cmpv,iterN,get?,set?,j0,j1,j2]
def insC3(n:Nat){x y z:Int}(hx:litN 391 x=true)(hy:litN 391 y=true)(hz:litN 391 z=true)(h:iab y<iab z)(h2:iab z<iab x):Zj (n+6) [x,y,z] 0 3=some [y,z,x]:=by
 unfold Zj;have e1:=cmpv hy hx O;simp_all[cmpv,cmpv',iterN,get?,set?,j0,j1,j2,j3]
theorem sortC2(n:Nat){x y:Int}(hx:litN 391 x=true)(hy:litN 391 y=true)(h:iab y<iab x):Zi (n+6) [x,y]=some [y,x]:=by
 unfold Zi;have hl:len [x,y]=2:=rfl;have hb:Tx (IntKind.u64.wrap 2)=some 2:=by decide
 simp_all[Zf9,Z6,iterN,insC2,j2]
theorem sortC3(n:Nat){x y z:Int}(hx:litN 391 x=true)(hy:litN 391 y=true)(hz:litN 391 z=true)(h:iab y<iab z)(h2:iab z<iab x):Zi (n+6) [x,y,z]=some [y,z,x]:=by
 unfold Zi;have hl:len [x,y,z]=3:=rfl;have hb:Tx (IntKind.u64.wrap 3)=some 2:=by decide
 simp_all[Zf9,Z6,iterN,insC3,j3]
def Lt{x y:Int}(h:iab x<iab y):¬x=y/\¬y=x/\¬y=-x/\¬x=-y:=by
 grind[iab]
theorem compC2(n:Nat){x y:Int}(h:iab y<iab x):ZA (n+6) [y,x]=some [y,x]:=by
 unfold ZA;have hl:len [y,x]=2:=rfl;simp_all[Lt,iterN,get?,j1,j2,j0]
theorem compC3(n:Nat){x y z:Int}(h:iab y<iab z)(h2:iab z<iab x):ZA (n+6) [y,z,x]=some [y,z,x]:=by
 unfold ZA;have hl:len [y,z,x]=3:=rfl;simp_all[Lt,iterN,get?,j1,j2,j0,j3]
def lit400{x:Int}(h:litN 391 x=true):litN 400 x=true:=litN_mono h au
theorem clauseOk2{x y:Int}(hx:litN 391 x=true)(hy:litN 391 y=true)(h:iab y<iab x):Xb fuel [y,x] 400=some true:=by
 unfold Xb;rw[QA au au U];obtain⟨fx,fx'⟩:=X9 hx (Zgm _);obtain⟨fy,fy'⟩:=X9 hy (Zgm _);have v1:=Xh fx fx';have v2:=Xh fy fy';have ha:[y,x].all (litN 400)=true:=by simp_all[lit400]
 have hl:len [y,x]=2:=rfl;obtain⟨n,hf⟩:∃n,fuel=n+6:=⟨fuel-6,by have:=FU.le (n:=fuel);omega⟩;have hn:¬iab x<=iab y:=by omega
 rw[ha,hl,hf];simp[iterN,get?,v1,v2,hn,j0,j1,j2]
theorem clauseOk3{x y z:Int}(hx:litN 391 x=true)(hy:litN 391 y=true)(hz:litN 391 z=true)(h:iab y<iab z)(h2:iab z<iab x):Xb fuel [y,z,x] 400=some true:=by
 unfold Xb;rw[QA au au U];obtain⟨fx,fx'⟩:=X9 hx (Zgm _);obtain⟨fy,fy'⟩:=X9 hy (Zgm _);obtain⟨fz,fz'⟩:=X9 hz (Zgm _);have v1:=Xh fx fx';have v2:=Xh fy fy';have v3:=Xh fz fz';have ha:[y,z,x].all (litN 400)=true:=by simp_all[lit400]
 have hl:len [y,z,x]=3:=rfl;obtain⟨n,hf⟩:∃n,fuel=n+6:=⟨fuel-6,by have:=FU.le (n:=fuel);omega⟩;have hn:¬iab z<=iab y:=by omega
 have hn2:¬iab x<=iab z:=by omega
 rw[ha,hl,hf];simp[iterN,get?,v1,v2,v3,hn,hn2,j0,j1,j2,j3]
def mkI2(n:Nat)[FU (n+6)]{x y:Int}(hx:litN 391 x=true)(hy:litN 391 y=true)(h:iab y<iab x):Yw (n+6) [x,y]=some ([y,x],true):=by
 unfold Yw;have ha:[x,y].all (litN 400)=true:=by simp_all[lit400]
 have hc:Zg [x,y]=some [x,y]:=rfl;grind[QA,Zi,sortC2,ZA,compC2,clauseOk2]
def mkI3(n:Nat)[FU (n+6)]{x y z:Int}(hx:litN 391 x=true)(hy:litN 391 y=true)(hz:litN 391 z=true)(h:iab y<iab z)(h2:iab z<iab x):Yw (n+6) [x,y,z]=some ([y,z,x],true):=by
 unfold Yw;have ha:[x,y,z].all (litN 400)=true:=by simp_all[lit400]
 have hc:Zg [x,y,z]=some [x,y,z]:=rfl;grind[QA,Zi,sortC3,ZA,compC3,clauseOk3]
def in400{x:Int}(h:litN 391 x=true):Zc x (-400) 400=some true/\¬x=0:=by
 simp_all[litN_iff,iab,Zc]<;>grind
def mkS2(n:Nat){x y:Int}(hx:litN 391 x=true)(hy:litN 391 y=true)(h:iab y<iab x):Yg (n+6) [x,y]=some ([y,x],true):=by
 unfold Yg;obtain⟨fx,fx'⟩:=X9 hx (Zgm _);obtain⟨fy,fy'⟩:=X9 hy (Zgm _);have v1:=WB fx fx';have v2:=WB fy fy';obtain⟨i1,m1⟩:=in400 hx;obtain⟨i2,m2⟩:=in400 hy;have hn:¬iab x<iab y:=by omega
 have t1:=Lt h;have w2:=Yn hy (Zgm _);have w1:=Yn hx (Zgm _);rw[Int.zero_sub]at w1 w2;simp[iterN,get?,cut?,vcut,app?,room,len,v1,v2,i1,i2,m1,m2,hn,t1,w1,w2,j0,j1,j2]
def mkS3(n:Nat){x y z:Int}(hx:litN 391 x=true)(hy:litN 391 y=true)(hz:litN 391 z=true)(h:iab y<iab z)(h2:iab z<iab x):Yg (n+6) [x,y,z]=some ([y,z,x],true):=by
 unfold Yg;obtain⟨fx,fx'⟩:=X9 hx (Zgm _);obtain⟨fy,fy'⟩:=X9 hy (Zgm _);obtain⟨fz,fz'⟩:=X9 hz (Zgm _);have v1:=WB fx fx';have v2:=WB fy fy';have v3:=WB fz fz';obtain⟨i1,m1⟩:=in400 hx;obtain⟨i2,m2⟩:=in400 hy;obtain⟨i3,m3⟩:=in400 hz;have hn:¬iab x<iab y:=by omega
 have hn2:¬iab x<iab z:=by omega
 have t1:=Lt (show iab y<iab x by omega);have t2:=Lt h2;have t3:=Lt h;have w2:=Yn hy (Zgm _);have w1:=Yn hx (Zgm _);have w3:=Yn hz (Zgm _);rw[Int.zero_sub]at w1 w2 w3;simp[iterN,get?,cut?,vcut,app?,room,len,v1,v2,v3,i1,i2,i3,m1,m2,m3,h,hn,hn2,t1,t2,t3,w1,w2,w3,j0,j1,j2,j3]
def Zdu{n x:Int}:[x].all (litN n)=litN n x:=by simp
def inner3(n:Nat){MC:List Int->Option (List Int×Bool)}{l1 l2 l3 r1 r2 r3:List Int}(h1:MC l1=some (r1,true))(h2:MC l2=some (r2,true))(h3:MC l3=some (r3,true)){out:List (List Int)}(hl:out.length<=100000):
  iterN (λ(s2:Int×(List (List Int)))=>if(decide (s2.1<(len ([l1,l2,l3]:List (List Int)))))then(get? ([l1,l2,l3]:List (List Int)) s2.1).bind λx4=>(MC x4).bind λx5=>(app? s2.2 ([x5.1]:List (List Int))).bind λx6=>some (.inl ((w64 (s2.1+1)),x6))else some (.inr (s2.2))) (n+6) (0,out)=some (out++[r1,r2,r3]):=by
 have hc:len ([l1,l2,l3]:List (List Int))=3:=rfl;have ha:∀(l:List (List Int))(q:List Int),l.length<=100003->app? l [q]=some (l++[q]):=λl q h=>by unfold app?;rw[ZfC aU]
 have a1:=ha out r1 O;have a2:=ha (out++[r1]) r2 aa;have a3:=ha (out++[r1]++[r2]) r3 aa;simp_all[ZfO,Zgq,iterN,get?,j0,j1,j2,j3]
def stepF(c:D.Circuit)(i:Nat)(g:D.Gate):List (List Int):=[[g.A,-(c.Inputs+2+i)],[g.B,-(c.Inputs+2+i)],[-g.A,-g.B,c.Inputs+2+i]]
def accF(c:D.Circuit):Nat->List (List Int)
 |0=>[[1]]
 |k+1=>accF c k++stepF c k (c.Gates.getD k ⟨0,0⟩)
theorem accF_len(c:D.Circuit)(k:Nat):(accF c k).length=1+3*k:=by
 induction k with
 |zero=>rfl
 |succ k ih=>grind[accF,List.length_append,stepF,List.length_cons,List.length_nil]
structure GateOk(c:D.Circuit)(k:Nat)(g:D.Gate):Prop where
 a:litN 391 g.A=true
 b:litN 391 g.B=true
 na:litN 391 (-g.A)=true
 nb:litN 391 (-g.B)=true
 l:litN 391 (c.Inputs+2+k)=true
 nl:litN 391 (-(c.Inputs+2+k))=true
 ab:iab (-g.A)<iab (-g.B)
 bl:iab (-g.B)<iab (c.Inputs+2+k)
 al':iab g.A<iab (-(c.Inputs+2+k))
 bl':iab g.B<iab (-(c.Inputs+2+k))
def GY{c:D.Circuit}(hc:CircP c){k:Nat}{g:D.Gate}(hg:c.Gates[k]? =some g):GateOk c k g:=by
 have h:=Qy.1 (hc.gate k g hg);have hk:=(ZfE.1 hg).1;have hl:=hc.lines1;unfold lines at hl;have e1:iab (c.Inputs+2+k)=c.Inputs+2+k:=by grind[iab]
 have b2:iab g.B<=c.Inputs+1+k:=by grind[iab]
 refine⟨litN_iff.2 O,litN_iff.2 O,?_,?_,litN_iff.2 O,?_,?_,?_,?_,?_⟩
 ·grind[ZV,litN_iff]
 ·grind[ZV,litN_iff]
 ·rw[ZV];grind[litN_iff]
 ·simp_all[Ub]
 ·grind[Ub]
 ·rw[Ub];omega
 ·rw[Ub];omega
def formP(c:D.Circuit)(lit:Int):D.Formula×Bool:=if circB2 c&&litN (lines c) lit then(⟨lines c,accF c c.Gates.length++[[lit]]⟩,true)else(⟨0,[]⟩,false)
def SG{c:D.Circuit}{k:Nat}(hk:k<c.Gates.length):c.Gates[k]? =some (c.Gates.getD k ⟨0,0⟩):=by
 simp_all
theorem spec_FormulaOf_eq{c:D.Circuit}{lit:Int}(hc:TN c)(hg:c.Gates.length<=1048576):UG fuel c lit=some (formP c lit):=by
 obtain⟨N,rfl⟩:∃n,fuel=n+6:=⟨fuel-6,by have:=FU.le (n:=fuel);omega⟩;unfold UG formP;rw[Zau hc hg];cases h1:circB2 c with
 |false=>simp
 | true=>
  have hp:=circP_iff.1 h1;rw[CZ hp U];simp only[ZfJ,ZfB,ZfK,Zf9,Zgl,Zgk,Zdu];cases h2:litN (lines c) lit with
  |false=>simp
  | true=>
   have hi0:=hp.i0;have hi1:=hp.i1;have hl:=hp.len;rw[ZG (I:=λk t=>t=((k:Int),accF c k)) (m:=c.Gates.length) (r:=accF c c.Gates.length) (λk t hk ht=>?_) (λt ht=>?_) c.Gates.length 0 (0,[[1]]) O rfl (N+6) lt_fuel]
   ·simp only[Zf9];have ha:app? (accF c c.Gates.length) [[lit]]=some (accF c c.Gates.length++[[lit]]):=by unfold app?;rw[ZfC (by grind[accF_len,room])]
    rw[ha];rw[Za,Zb (x:=c.Inputs+1),Zb];rfl
   all_goals subst ht
   ·refine⟨_, ?_,rfl⟩;have o:=GY hp (SG hk);simp only[accF];rw[ZfC ak,get?_nat,SG hk];simp only[Zf9];generalize c.Gates.getD k ⟨0,0⟩=g at o⊢;rw[Zb (x:=c.Inputs+2),Zb (x:=c.Inputs+2+(k:Int)),Yn o.a (Zgm _),Yn o.b (Zgm _),Yn o.l (Zgm _)];have m1:Yg (N+6) [-(c.Inputs+2+(k:Int)),g.A]=_:=mkS2 N o.nl o.a o.al';have m2:Yg (N+6) [-(c.Inputs+2+(k:Int)),g.B]=_:=mkS2 N o.nl o.b o.bl';have m3:Yg (N+6) [c.Inputs+2+(k:Int),-g.A,-g.B]=_:=mkS3 N o.l o.na o.nb o.ab o.bl;have q:=inner3 N (MC:=Yg (N+6)) m1 m2 m3 (out:=accF c k) (by grind[accF_len]);have q':iterN _ (N+6) _=_:=q;rw[q'];rw[Zb];rfl
   simp[ZfD,Za]
theorem impl_FormulaOf_eq{c:D.Circuit}{lit:Int}(hc:TN c)(hg:c.Gates.length<=1048576):UW fuel c lit=some (formP c lit):=by
 obtain⟨N,rfl⟩:∃n,fuel=n+6:=⟨fuel-6,by have:=FU.le (n:=fuel);omega⟩;unfold UW formP;rw[Zam hc hg];cases h1:circB2 c with
 |false=>simp
 | true=>
  have hp:=circP_iff.1 h1;have hl0:=hp.lines0;have hl1:=hp.lines1;simp only[ZfJ,ZfB,ZfK,Cj hp,Zf9,Zgl,Zgk,Nv (x:=lit) (n:=lines c) O O];cases h2:litN (lines c) lit with
  |false=>simp
  | true=>
   have hi0:=hp.i0;have hi1:=hp.i1;have hl:=hp.len;rw[ZG (I:=λk t=>t=((k:Int),accF c k)) (m:=c.Gates.length) (r:=accF c c.Gates.length) (λk t hk ht=>?_) (λt ht=>?_) c.Gates.length 0 (0,[[1]]) O rfl (N+6) lt_fuel]
   ·have ha:app? (accF c c.Gates.length) [[lit]]=some (accF c c.Gates.length++[[lit]]):=by unfold app?;rw[ZfC (by grind[accF_len,room])]
    simp_all
   all_goals subst ht
   ·refine⟨_, ?_,rfl⟩;have o:=GY hp (SG hk);simp only[accF];rw[ZfC ak,get?_nat,SG hk];simp only[Zf9];generalize c.Gates.getD k ⟨0,0⟩=g at o⊢;rw[show w64 (2+c.Inputs)=c.Inputs+2 by grind[Zb],Zb (x:=c.Inputs+2+(k:Int)),Yn o.a (Zgm _),Yn o.b (Zgm _),Yn o.l (Zgm _)];have m1:Yw (N+6) [-(c.Inputs+2+(k:Int)),g.A]=_:=mkI2 N o.nl o.a o.al';have m2:Yw (N+6) [-(c.Inputs+2+(k:Int)),g.B]=_:=mkI2 N o.nl o.b o.bl';have m3:Yw (N+6) [c.Inputs+2+(k:Int),-g.A,-g.B]=_:=mkI3 N o.l o.na o.nb o.ab o.bl;have q:=inner3 N (MC:=Yw (N+6)) m1 m2 m3 (out:=accF c k) (by grind[accF_len]);have q':iterN _ (N+6) _=_:=q;rw[q'];rw[Zb];rfl
   simp[ZfD,Za]
def IncI(n:Int)(c:List Int):Prop:=(∀x∈c,litN n x=true)/\c.Pairwise λx y=>iab x<iab y
theorem ZcS{c:D.Circuit}:∀k,∀x∈accF c k,x=[1]\/∃i,i<k/\x∈stepF c i (c.Gates.getD i ⟨0,0⟩):=by
 intro k
 induction k with
 |zero=>intro x hx;exact .inl (ZfL.1 hx)
 |succ k ih=>
  intro x hx;rcases ZfG.1 hx with h|h
  all_goals grind
theorem inc1{n x:Int}(h:litN n x=true):IncI n [x]:=⟨λy hy=>by simp_all,by simp⟩
def form_inc{c:D.Circuit}(hc:CircP c){lit:Int}(hl:litN (lines c) lit=true):∀x∈accF c c.Gates.length++[[lit]],IncI (lines c) x/\x.length<=3:=by
 intro x hx;rcases ZfG.1 hx with hx|hx
 ·rcases ZcS _ x hx with rfl|⟨i,hi,h⟩
  ·grind[inc1,litN_iff,iab]
  ·have o:=GY hc (SG hi);have hb:=Qy.1 (hc.gate i _ (SG hi));have hlt:(c.Gates.take i).length=i:=by simp;omega
   rw[hlt]at hb;obtain⟨h1,h2,h3,h4,-⟩:=hb;have eN:lines c=c.Inputs+1+(c.Gates.length:Int):=rfl;have lt:∀y:Int,1<=iab y->iab y<=c.Inputs+2+(i:Int)->litN (lines c) y=true:=λy a b=>litN_iff.2 ⟨a,by omega⟩;have o1:=(litN_iff.1 o.a).1;have o2:=(litN_iff.1 o.b).1;have o3:=(litN_iff.1 o.l).1;have e1:iab (c.Inputs+2+(i:Int))=c.Inputs+2+(i:Int):=by grind[iab]
   have oa:=o.al';have ob:=o.bl';rw[Ub,e1]at oa ob;unfold stepF at h;simp only[ZfY,Zh7,or_false]at h;rcases h with rfl|rfl|rfl
   ·exact⟨⟨by simp only[ZfY,Zh7,or_false];rintro y (rfl|rfl);exact lt _ o1 O;simp_all[Ub],by simp_all[Ub]⟩,by simp⟩
   ·exact⟨⟨by simp only[ZfY,Zh7,or_false];rintro y (rfl|rfl);exact lt _ o2 O;simp_all[Ub],by simp_all[Ub]⟩,by simp⟩
   ·exact⟨⟨by all_goals grind[Ub],by simp_all[Ub]⟩,by simp⟩
 simp_all[ZfL,inc1]
def prv(c:List Int):Nat->Int
 |0=>0
 |k+1=>iab (c.getD k 0)
theorem Cw{n:Int}{c:List Int}(h:IncI n c){k:Nat}(hk:k<c.length):1<=iab c[k]/\iab c[k]<=n/\prv c k<iab c[k]:=by
 have h1:=litN_iff.1 (h.1 _ (Zgn hk));refine⟨h1.1,h1.2,?_⟩;cases k with
 |zero=>show(0:Int)<_;omega
 |succ k=>
  show iab (c.getD k 0)<_;rw[Zgj,ZfA O];exact(ZgM.1 h.2) k (k+1) O hk O
def Zcl{n:Int}{c:List Int}(h0:0<=n)(h1:n<=400)(h:IncI n c)(hl:c.length<=1000):Ut fuel c n=some true:=by
 unfold Ut;rw[ZG (I:=λk t=>t=(prv c k,(k:Int))) (m:=c.length) (r:=.inl ()) (λk t hk ht=>?_) (λt ht=>?_) c.length 0 (0,0) O rfl fuel lt_fuel]
 ·rfl
 all_goals subst ht
 ·obtain⟨a1,a2,a3⟩:=Cw h hk;have hb:-1000<=c[k]/\fitInt c[k]:=by grind[fitInt,iab]
  rw[ZfC ak,get?_nat,ZfA hk];simp only[Zf9];have hi:Zc c[k] (w64 (0-n)) n=some true:=by
   unfold Zc;rw[Zb];unfold iab at a2;split at a2<;>simp<;>omega
  rw[hi];simp only[Zf9,ZfJ,ZfB,ZfK,Zgl,WB hb.2 hb.1];rw[ZfD aa,Zb];simp_all[prv,Zgj,ZfA]
 simp[ZfD,Za]
def Zcc{n:Int}{c:List Int}(h0:0<=n)(h1:n<=400)(h:IncI n c)(hl:c.length<=1000):Xb fuel c n=some true:=by
 unfold Xb;rw[QA h0 O O,show c.all (litN n)=true from ZfV.2 h.1];rw[ZG (I:=λk t=>t=((k+1:Nat):Int)) (m:=c.length-1) (r:=.inl ()) (λk t hk ht=>?_) (λt ht=>?_) (c.length-1) 0 1 O rfl fuel lt_fuel]
 ·rfl
 all_goals subst ht
 ·refine⟨_, ?_,rfl⟩;have hk1:k+1<c.length:=by omega
  have hk0:k<c.length:=by omega
  obtain⟨a1,a2,a3⟩:=Cw h hk1;obtain⟨b1,b2,b3⟩:=Cw h hk0;have hx:-1000<=c[k+1]/\fitInt c[k+1]:=by grind[fitInt,iab]
  have hy:-1000<=c[k]/\fitInt c[k]:=by grind[fitInt,iab]
  replace a3:iab (c.getD k 0)<_:=a3
  have e1:w64 (((k+1:Nat):Int)-1)=(k:Int):=by grind[Zb]
  rw[ZfC aq,e1,get?_nat,get?_nat,ZfA hk1,ZfA hk0];simp only[Zf9,Xh hx.2 hx.1,Xh hy.2 hy.1];rw[ZfD ah,Zb];rfl
 ·rw[ZfD aq]
section
variable{f:D.Formula}(h0:0<=f.Vars)(h1:f.Vars<=400)(hn:f.Clauses.length<=1600)(h:∀c∈f.Clauses,IncI f.Vars c/\c.length<=1000)
include h0 h1 hn h
theorem spec_fok:Ws fuel f=some true:=by
 unfold Ws;rw[show Zc f.Vars 0 400=some true by simp_all[Zc]];simp only[Zf9];rw[ZfD aq];rw[ZG (I:=λk t=>t=(k:Int)) (m:=f.Clauses.length) (r:=.inl ()) (λk t hk ht=>?_) (λt ht=>?_) f.Clauses.length 0 0 O rfl fuel lt_fuel]
 ·rfl
 all_goals subst ht
 ·refine⟨((k+1:Nat):Int), ?_,rfl⟩;have hc:=h _ (Zgn hk);rw[ZfC ak,get?_nat,ZfA hk];simp only[Zf9];rw[Zcl h0 h1 hc.1 hc.2];simp only[Zf9];rw[ifn,Zb];rfl
 simp[ZfD,Za]
theorem impl_fok:WG fuel f=some true:=by
 unfold WG;rw[ZfD ai];rw[ZG (I:=λk t=>t=(k:Int)) (m:=f.Clauses.length) (r:=.inl ()) (λk t hk ht=>?_) (λt ht=>?_) f.Clauses.length 0 0 O rfl fuel lt_fuel]
 ·rfl
 all_goals subst ht
 ·refine⟨((k+1:Nat):Int), ?_,rfl⟩;have hc:=h _ (Zgn hk);rw[ZfC ai,get?_nat,ZfA hk];simp only[Zf9];rw[Zcc h0 h1 hc.1 hc.2];simp only[Zf9];rw[ifn,Zb];rfl
 ·rw[ZfD ar]
end
end Go.Proofs.YtjhiajehpjpibaaGreatDoor.Cc
end
section
namespace Go.Proofs.YtjhiajehpjpibaaGreatDoor
open Go.GL
set_option maxRecDepth 100000
variable{fuel:Nat}[FV fuel]
def itS{σt ρt:Type}{B:σt->Option (σt⊕ρt)}{s s':σt}{n:Nat}(h:B s=some (.inl s')):iterN B (n+1) s=iterN B n s':=by
 rw[iterN,h]
def itE{σt ρt:Type}{B:σt->Option (σt⊕ρt)}{s:σt}{r:ρt}{n:Nat}(h:B s=some (.inr r))(hn:0<n):iterN B n s=some r:=by
 obtain⟨n,rfl⟩:∃k,n=k+1:=⟨n-1,by omega⟩;rw[iterN,h]
def bit(b:Bool):Int:=if b then 1 else 0
def wrd(l:List Bool):Int:=l.foldl (λa b=>w64 (w64 (2*a)+bit b)) 0
theorem Db(l:List Bool)(b:Bool):wrd (l++[b])=w64 (w64 (2*wrd l)+bit b):=by simp[wrd,ZgD]
def valsP(model:List Bool):Nat->List D.Value->List D.Value
 |_,[]=>[]
 |off,v::L=>⟨v.Name,v.W,wrd ((model.drop off).take v.W.toNat)⟩::valsP model (off+v.W.toNat) L
theorem Gf(model:List Bool):∀(L:List D.Value)(off:Nat),(valsP model off L).length=L.length
 |[],_=>rfl
 |v::L,off=>by rw[valsP,ZfS,Gf model L,ZfS]
def wsum(L:List D.Value):Nat:=(L.map λv=>v.W.toNat).sum
theorem Hr:∀(L:List D.Value)(a:Int),(∀v∈L,1<=v.W/\v.W<=16)->bitsV L a=a+(wsum L:Int)
 |[],a,_=>by simp[wsum,bitsV]
 |v::L,a,h=>by
  rw[Bf,Hr L _ λx hx=>h x (by simp[hx])];grind[wsum]
section
variable{model:List Bool}(hM:model.length<=1000)
theorem HV{off j:Nat}(h:off+j<model.length):(model.drop off).take (j+1)=(model.drop off).take j++[model[off+j]]:=by
 grind[List.take_succ_eq_append_getElem,List.length_drop]
include hM
theorem CF{off W:Nat}{w:Int}(hw:w=(W:Int))(h:off+W<=model.length){n:Nat}(hn:2000<=n):iterN (λ(s2:Int×Int×Int)=>if(decide (s2.2.2<w))then(get? model s2.1).bind λx2=>(Y8 x2).bind λx3=>some (.inl ((w64 (s2.1+1)),(w64 ((w64 (2*s2.2.1))+x3)),(w64 (s2.2.2+1))))else some (.inr (s2.1,s2.2.1))) n ((off:Int),0,0)=some (((off+W:Nat):Int),wrd ((model.drop off).take W)):=by
  rw[ZG (I:=λk t=>t=(((off+k:Nat):Int),wrd ((model.drop off).take k),(k:Int))) (m:=W) (r:=(((off+W:Nat):Int),wrd ((model.drop off).take W))) (λk t hk ht=>?_) (λt ht=>?_) W 0 _ O (by simp[wrd]) n O]
  all_goals subst ht
  · have ht:Y8 model[off+k]=some (bit model[off+k]):=by grind[Y8,bit]
    rw[get?_nat,ZfA O];grind[HV,Db,Zb]
  simp_all
theorem FH{L:List D.Value}(hL:L.length<=1000)(hw:∀v∈L,1<=v.W/\v.W<=16){n:Nat}(hn:4000<=n)(hs:1+wsum L<=model.length):Ur n L model=some (valsP model 1 L):=by
  unfold Ur;have key:∀(rest pre out:List D.Value)(off k:Nat),pre++rest=L->off+wsum rest<=model.length->out.length=pre.length->rest.length<k->iterN (λ(s1:Int×Int×(List D.Value))=>if (decide (s1.2.1<(len L)))then(get? L s1.2.1).bind λx1=>(iterN (λ(s2:Int×Int×Int)=>if(decide (s2.2.2<x1.W))then(get? model s2.1).bind λx2=>(Y8 x2).bind λx3=>some (.inl ((w64 (s2.1+1)),(w64 ((w64 (2*s2.2.1))+x3)),(w64 (s2.2.2+1))))else some (.inr (s2.1,s2.2.1))) n (s1.1,0,0)).bind λ(rl2:Int×Int)=>(app? s1.2.2 ([(D.Value.mk x1.Name x1.W rl2.2)]:List D.Value)).bind λx4=>some (.inl (rl2.1,(w64 (s1.2.1+1)),x4))else some (.inr (s1.2.2))) k ((off:Int),(pre.length:Int),out)=some (out++valsP model off rest):=by
    intro rest
    induction rest with
    | nil=>
      intro pre out off k he hb ho hk;have hd:decide ((pre.length:Int)<len L)=false:=by simp_all[Za,Zgb]
      refine itE ?_ O;simp_all[ZfB,ZfK,valsP,Zgb]<;>grind
    | cons v rest ih=>
      intro pre out off k he hb ho hk;have hlen:pre.length+(rest.length+1)=L.length:=by grind
      simp only[ZfS]at hk;obtain⟨k,rfl⟩:∃j,k=j+1:=⟨k-1,by omega⟩;have hd:decide ((pre.length:Int)<len L)=true:=by grind[Za,decide_eq_true]
      have hv:=hw v al;have hg:L[pre.length]? =some v:=by grind
      have hws:wsum (v::rest)=v.W.toNat+wsum rest:=by rfl
      rw[itS (s':=(((off+v.W.toNat:Nat):Int),((pre++[v]).length:Int),out++[⟨v.Name,v.W,wrd ((model.drop off).take v.W.toNat)⟩])) (by
        simp only[hd,ZfR];rw[get?_nat,hg];simp only[Zf9];rw[CF hM (W:=v.W.toNat) O O O];simp only[Zf9];unfold app?;rw[ZfC (by simp only[ZfS,ZgR];unfold room;omega),Zb]
        simp)]
      rw[ih (pre++[v]) _ _ k (by rw[ZfO];exact he) O (by rw[ZfI,ZfI,ho];rfl) O,valsP,ZfO];rfl
  have:=key L [] [] 1 n rfl hs rfl O;exact congrArg (λo=>Option.bind o λ(rl1:List D.Value)=>some rl1) this
theorem BH{off W:Nat}{out rest:List D.Value}{nm:Str}(h:off+W<=model.length)(ho:out.length<=1000){n:Nat}(hn:2000<=n):iterN (λ(s2:Int×Int×(List D.Value))=>(get? s2.2.2 (out.length:Int)).bind λx2=>if(decide (s2.2.1<x2.W))then(get? s2.2.2 (out.length:Int)).bind λx3=>(get? model (w64 (s2.1-1))).bind λx4=>(YD x4).bind λx5=>(get? s2.2.2 (out.length:Int)).bind λx6=>(set? s2.2.2 (out.length:Int) ({x6 with N:=(w64 ((w64 (2*x3.N))+x5))}:D.Value)).bind λx7=>some (.inl ((w64 (s2.1+1)),(w64 (s2.2.1+1)),x7))else some (.inr (s2.1,s2.2.2))) n (((off+1:Nat):Int),0,out++⟨nm,(W:Int),0⟩::rest)=some (((off+W+1:Nat):Int),out++⟨nm,(W:Int),wrd ((model.drop off).take W)⟩::rest):=by
  have hat:∀v:D.Value,get? (out++v::rest) (out.length:Int)=some v:=λv=>by simp[get?_nat]
  have hst:∀v v':D.Value,set? (out++v::rest) (out.length:Int) v'=some (out++v'::rest):=λv v'=>by simp[set?_nat]
  rw[ZG (I:=λk t=>t=(((off+k+1:Nat):Int),(k:Int),out++⟨nm,(W:Int),wrd ((model.drop off).take k)⟩::rest)) (m:=W) (r:=(((off+W+1:Nat):Int),out++⟨nm,(W:Int),wrd ((model.drop off).take W)⟩::rest)) (λk t hk ht=>?_) (λt ht=>?_) W 0 _ O (by simp[wrd]) n O]
  all_goals subst ht
  · have hd:decide ((k:Int)<(W:Int))=true:=decide_eq_true O
    have ht:YD model[off+k]=some (bit model[off+k]):=by grind[YD,bit]
    have e1:w64 (((off+k+1:Nat):Int)-1)=((off+k:Nat):Int):=by grind[Zb]
    simp only[hat,Zf9,hd,ZfR,e1];rw[get?_nat,ZfA O];grind[HV,Db,Zb]
  simp_all
theorem Fq{L:List D.Value}(hL:L.length<=1000)(hw:∀v∈L,1<=v.W/\v.W<=16){n:Nat}(hn:4000<=n)(hs:1+wsum L<=model.length){t:D.Term}(hv:Vw n t=some L)(h0:∀v∈L,v.N=0):TC n t model=some (valsP model 1 L):=by
  unfold TC;rw[hv];have key:∀(rest pre out:List D.Value)(off k:Nat),pre++rest=L->off+wsum rest<=model.length->out.length=pre.length->rest.length<k->iterN (λ(s1:Int×Int×(List D.Value))=>if (decide (s1.2.1<(len L)))then(iterN (λ(s2:Int×Int×(List D.Value))=>(get? s2.2.2 s1.2.1).bind λx2=>if(decide (s2.2.1<x2.W))then(get? s2.2.2 s1.2.1).bind λx3=>(get? model (w64 (s2.1-1))).bind λx4=>(YD x4).bind λx5=>(get? s2.2.2 s1.2.1).bind λx6=>(set? s2.2.2 s1.2.1 ({x6 with N:=(w64 ((w64 (2*x3.N))+x5))}:D.Value)).bind λx7=>some (.inl ((w64 (s2.1+1)),(w64 (s2.2.1+1)),x7))else some (.inr (s2.1,s2.2.2))) n (s1.1,0,s1.2.2)).bind λ(rl2:Int×(List D.Value))=>some (.inl (rl2.1,(w64 (s1.2.1+1)),rl2.2))else some (.inr (s1.2.2))) k (((off+1:Nat):Int),(pre.length:Int),out++rest)=some (out++valsP model off rest):=by
    intro rest
    induction rest with
    | nil=>
      intro pre out off k he hb ho hk;have hd:decide ((pre.length:Int)<len L)=false:=by simp_all[Za,Zgb]
      refine itE ?_ O;simp_all[ZfB,ZfK,valsP,Zgb]<;>grind
    | cons v rest ih=>
      intro pre out off k he hb ho hk;have hlen:pre.length+(rest.length+1)=L.length:=by grind
      simp only[ZfS]at hk;obtain⟨k,rfl⟩:∃j,k=j+1:=⟨k-1,by omega⟩;have hd:decide ((pre.length:Int)<len L)=true:=by rw[Za];exact decide_eq_true O
      have hv:=hw v (by rw[<-he];simp);have hws:wsum (v::rest)=v.W.toNat+wsum rest:=by unfold wsum;rw[Zgu,List.sum_cons]
      have hvw:((v.W.toNat:Nat):Int)=v.W:=by omega
      have hin:=BH hM (off:=off) (W:=v.W.toNat) (out:=out) (rest:=rest) (nm:=v.Name) (n:=n) O O O;have hz:(⟨v.Name,v.W,0⟩:D.Value)=v:=by
        have:=h0 v (by rw[<-he];simp);cases v;simp_all
      rw[hvw,hz]at hin
      rw[itS (s':=(((off+v.W.toNat+1:Nat):Int),((pre++[v]).length:Int),(out++[⟨v.Name,v.W,wrd ((model.drop off).take v.W.toNat)⟩])++rest)) (by
        simp only[hd,ZfR];rw[<-ho];refine(congrArg (λo=>Option.bind o (λ(rl2:Int×(List D.Value))=>some (.inl (rl2.1,w64 ((out.length:Int)+1),rl2.2):(Int×Int×List D.Value)⊕List D.Value))) hin).trans ?_;rw[Zb]
        simp[ho])]
      rw[ih (pre++[v]) _ _ k (by rw[ZfO];exact he) O (by rw[ZfI,ZfI,ho];rfl) O,valsP,ZfO];rfl
  have:=key L [] [] 1 n rfl hs rfl O;exact congrArg (λo=>Option.bind o λ(rl1:List D.Value)=>some rl1) this
end
end Go.Proofs.YtjhiajehpjpibaaGreatDoor
end
section
namespace Go.Proofs.YtjhiajehpjpibaaGreatDoor
open Go.GL
set_option maxRecDepth 100000
variable{fuel:Nat}[FV fuel]
end Go.Proofs.YtjhiajehpjpibaaGreatDoor
end
section
namespace Go.Proofs.YtjhiajehpjpibaaGreatDoor.Sv
open Go.GL
variable{fuel:Nat}[FV fuel]
def lv(a:List Int)(x:Int):Int:=if x<0 then-(a.getD x.natAbs 0)else a.getD x.natAbs 0
def isL(m:Nat)(x:Int):Prop:=x≠0/\x.natAbs<=m
structure Asg(m:Nat)(a:List Int):Prop where
 len:a.length=m+1
 val:∀i,a.getD i 0=-1\/a.getD i 0=0\/a.getD i 0=1
 nul:a.getD 0 0=0
structure ClM(m:Nat)(c:List Int):Prop where
 lit:∀x∈c,isL m x
 dif:c.Pairwise λx y=>x.natAbs≠y.natAbs
def stA(a:List Int)(l:Int):List Int:=a.set l.natAbs (if l<0 then-1 else 1)
def Qj{a:List Int}{x:Int}(h:x≠0):lv a (-x)=-lv a x:=by
 unfold lv;rw[ZhL];by_cases c:x<0
 ·rw[ifn,ZfC c];omega
 ·rw[ifp,ZfD c]
def Au{m:Nat}{a:List Int}(h:Asg m a)(x:Int):lv a x=-1\/lv a x=0\/lv a x=1:=by
 unfold lv;have:=h.val x.natAbs;split<;>omega
def JA{a:List Int}{i j:Nat}{v:Int}(h:i<a.length):(a.set i v).getD j 0=if j=i then v else a.getD j 0:=by
 rw[Zgj,Zha,Zgj];by_cases e:i=j
 ·subst e;rw[ZfC rfl,ZfC h,ZfC rfl];rfl
 ·rw[ZfD e,ZfD (Ne.symm e)]
def Pe{m:Nat}{a:List Int}{l x:Int}(ha:a.length=m+1)(hl:isL m l)(hx:x≠0):lv (stA a l) x=if x=l then 1 else if x=-l then-1 else lv a x:=by
 obtain⟨l0,l1⟩:=hl;unfold lv stA;rw[JA O];by_cases e:x.natAbs=l.natAbs
 ·rw[ZfC e];by_cases e1:x=l
  ·subst e1;rw[ZfC rfl];by_cases c:x<0
   ·rw[ZfC c,ZfC c];omega
   ·rw[ZfD c,ZfD c]
  ·have e2:x=-l:=by omega
   rw[ZfD e1,ZfC e2];by_cases c:x<0
   ·rw[ZfC c,ifn]
   ·rw[ZfD c,ifp]
 ·rw[ZfD e,ZfD (show¬x=l by intro h;exact e (by rw[h])),ZfD (show¬x=-l by intro h;exact e (by rw[h,ZhL]))]
def Kz{m:Nat}{a:List Int}{l:Int}(h:Asg m a)(hl:isL m l):Asg m (stA a l):=by
 obtain⟨l0,l1⟩:=hl;have h1:=h.len;refine⟨by unfold stA;rw[Zhv];exact h1,λi=>?_,?_⟩
 ·unfold stA;rw[JA O];split
  ·split<;>omega
  ·exact h.val i
 ·unfold stA;rw[JA O,ifn];exact h.nul
def ZdD{m:Nat}{a b:List Int}(ha:Asg m a)(hb:Asg m b)(h:∀x,isL m x->(lv a x=1↔lv b x=1)):a=b:=by
 refine List.ext_getElem (ha.len.trans hb.len.symm) λi h1 h2=>?_;have g1:a.getD i 0=a[i]:=by rw[Zgj,ZfA h1];rfl
 have g2:b.getD i 0=b[i]:=by rw[Zgj,ZfA h2];rfl
 rw[<-g1,<-g2];by_cases hi:i=0
 ·subst hi;rw[ha.nul,hb.nul]
 have hm:i<=m:=by have:=ha.len;omega
 have p:=h (i:Int) ⟨by omega,by omega⟩;have q:=h (-(i:Int)) ⟨by omega,by omega⟩;rw[Qj O,Qj O]at q;have e:∀c:List Int,lv c (i:Int)=c.getD i 0:=λc=>by unfold lv;rw[ifn];simp
 rw[e,e]at p q;have va:=ha.val i;have vb:=hb.val i;omega
inductive Der(cs:List (List Int))(S:Int->Prop):Int->Prop
 |base {x:Int}:S x->Der cs S x
 |unit {c:List Int} {x:Int}:c∈cs->x∈c->(∀y∈c,y≠x->Der cs S (-y))->Der cs S x
def good(a:List Int)(c:List Int):Prop:=(∃x∈c,lv a x=1)\/∃x∈c,∃y∈c,x≠y/\lv a x=0/\lv a y=0
structure Okc(m:Nat)(cs:List (List Int))(S:Int->Prop)(a:List Int):Prop where
 asg:Asg m a
 ext:∀x,S x->lv a x=1
 snd:∀x,isL m x->lv a x=1->Der cs S x
 cl:∀c∈cs,good a c
def Bad(cs:List (List Int))(S:Int->Prop):Prop:=∃c∈cs,∀y∈c,Der cs S (-y)
section
variable{m:Nat}{cs:List (List Int)}{S:Int->Prop}{a b:List Int}
theorem BJ(hcs:∀c∈cs,ClM m c)(h:Okc m cs S a){x:Int}(hd:Der cs S x):lv a x=1:=by
 induction hd with
 |base hx=>exact h.ext _ hx
 | @unit c x hc hx _ ih=>
  have ih':∀y∈c,y≠x->lv a y=-1:=λy hy hne=>by
   have:=ih y hy hne;rw[Qj ((hcs c hc).lit y hy).1]at this;omega
  rcases h.cl c hc with⟨z,hz,hz1⟩|⟨y,hy,z,hz,hne,hy0,hz0⟩
  ·by_cases e:z=x
   ·subst e;exact hz1
   ·have:=ih' z hz e;omega
  ·by_cases e:y=x
   ·have:=ih' z hz (λe'=>hne (e.trans e'.symm));omega
   ·have:=ih' y hy e;omega
def DJ(hcs:∀c∈cs,ClM m c)(h:Okc m cs S a):¬Bad cs S:=λ⟨c,hc,hb⟩=>by
 have ih:∀y∈c,lv a y=-1:=λy hy=>by
  have:=BJ hcs h (hb y hy);rw[Qj ((hcs c hc).lit y hy).1]at this;omega
 rcases h.cl c hc with⟨z,hz,hz1⟩|⟨y,hy,z,hz,hne,hy0,hz0⟩
 ·have:=ih z hz;omega
 ·have:=ih y hy;omega
def ZbM(hcs:∀c∈cs,ClM m c)(h:Okc m cs S a)(h':Okc m cs S b):a=b:=
 ZdD h.asg h'.asg λx hx=>⟨λe=>BJ hcs h' (h.snd x hx e),λe=>BJ hcs h (h'.snd x hx e)⟩
def Res(m:Nat)(cs:List (List Int))(S:Int->Prop):Option (List Int)->Prop
 |some a=>Okc m cs S a
 |none=>Bad cs S
def free(a:List Int)(c:List Int):List Int:=c.filter λx=>lv a x==0
def PZ{c:List Int}{x:Int}:x∈free a c↔x∈c/\lv a x=0:=by unfold free;rw[Zgv];simp
theorem Df{c:List Int}(hc:ClM m c)(h:2<=(free a c).length):good a c:=by
 have hp:(free a c).Pairwise λx y=>x.natAbs≠y.natAbs:=hc.dif.filter _
 match hf:free a c,h with
 |x::y::l,_=>
  rw[hf]at hp;have hx:x∈free a c:=by rw[hf];simp
  have hy:y∈free a c:=by rw[hf];simp
  rw[PZ]at hx hy;refine .inr ⟨x,hx.1,y,hy.1,λe=>?_,hx.2,hy.2⟩;rw[Zhs]at hp;exact hp.1 y U (by rw[e])
def Snd(m:Nat)(cs:List (List Int))(S:Int->Prop)(a:List Int):Prop:=∀x,isL m x->lv a x=1->Der cs S x
def AJ(hA:Asg m a)(hs:Snd m cs S a){c:List Int}(hc:ClM m c){y:Int}(hy:y∈c)(h1:lv a y≠1)(h0:lv a y≠0):Der cs S (-y):=by
 have hl:=hc.lit y hy;have:=Au hA y;exact hs (-y) ⟨by have:=hl.1;omega,by rw[ZhL];exact hl.2⟩ (by rw[Qj hl.1];omega)
def DV(hA:Asg m a)(hs:Snd m cs S a){c:List Int}(hcs:c∈cs)(hc:ClM m c)(hn:∀x∈c,lv a x≠1)(hf:free a c=[]):Bad cs S:=
 ⟨c,hcs,λy hy=>AJ hA hs hc hy (hn y hy) λh=>by
  have:y∈free a c:=PZ.2 ⟨hy,h⟩
  rw[hf]at this;cases this⟩
def Zc2(hA:Asg m a)(hs:Snd m cs S a){c:List Int}(hcs:c∈cs)(hc:ClM m c)(hn:∀x∈c,lv a x≠1){l:Int}(hf:free a c=[l]):isL m l/\l∈c/\lv a l=0/\Asg m (stA a l)/\Snd m cs S (stA a l):=by
 have hl:l∈free a c:=by rw[hf];simp
 rw[PZ]at hl;have hL:=hc.lit l hl.1;refine⟨hL,hl.1,hl.2,Kz hA hL,λx hx h=>?_⟩;rw[Pe hA.len hL hx.1]at h;by_cases e:x=l
 ·subst e;refine .unit hcs hl.1 λy hy hne=>AJ hA hs hc hy (hn y hy) λh0=>?_;have:y∈free a c:=PZ.2 ⟨hy,h0⟩;rw[hf,ZfL]at this;exact hne this
 ·rw[ZfD e]at h;split at h
  ·omega
  ·exact hs x hx h
def KC(hA:Asg m a){l:Int}(hl:isL m l)(h0:lv a l=0){x:Int}(hx:x≠0)(h:lv a x≠0):lv (stA a l) x=lv a x:=by
 rw[Pe hA.len hl hx,ZfD (show¬x=l from λe=>h (e▸h0)),ZfD (show¬x=-l from λe=>h (by rw[e,Qj hl.1,h0];rfl))]
def EI(hA:Asg m a){l:Int}(hl:isL m l)(h0:lv a l=0){c:List Int}(hc:ClM m c)(h:good a c):good (stA a l) c∨-l∈c:=by
 by_cases hn:-l∈c
 ·exact .inr hn
 refine .inl ?_;rcases h with⟨x,hx,h1⟩|⟨x,hx,y,hy,hne,hx0,hy0⟩
 ·exact .inl ⟨x,hx,by rw[KC hA hl h0 (hc.lit x hx).1 O];exact h1⟩
 ·by_cases e:l∈c
  ·exact .inl ⟨l,e,by rw[Pe hA.len hl hl.1,ZfC rfl]⟩
  ·have k:∀z∈c,lv a z=0->lv (stA a l) z=0:=λz hz hz0=>by
    rw[Pe hA.len hl (hc.lit z hz).1,ZfD (show¬z=l from λe'=>e (e'▸hz)),ZfD (show¬z=-l from λe'=>hn (e'▸hz))];exact hz0
   exact .inr ⟨x,hx,y,hy,hne,k x hx hx0,k y hy hy0⟩
end
end Go.Proofs.YtjhiajehpjpibaaGreatDoor.Sv
end
section
namespace Go.Proofs.YtjhiajehpjpibaaGreatDoor.Sv
open Go.GL
set_option maxRecDepth 100000
variable{fuel:Nat}[FV fuel]
structure FmP(f:D.Formula)(m:Nat):Prop where
 vars:f.Vars=m
 small:m<=400
 num:f.Clauses.length<=1600
 cl:∀c∈f.Clauses,ClM m c/\c.length<=1000
def Sv(m:Nat)(v:List Int)(x:Int):Prop:=isL m x/\lv v x=1
def zer(v:List Int):Nat:=v.count 0
section
variable{m:Nat}{a:List Int}{x:Int}
theorem Ro{i:Nat}(h:i<a.length):a[i]? =some (a.getD i 0):=by
 simp_all
def ND(hA:Asg m a)(hl:isL m x)(h0:lv a x=0):zer (stA a x)+1=zer a:=by
 obtain⟨l0,l1⟩:=hl;have hi:x.natAbs<a.length:=by have:=hA.len;omega
 have hg:a[x.natAbs]=0:=by
  grind[Ro,List.getElem?_eq_getElem,Option.some.inj,lv]
 simp_all[ZhW,Zgn,zer,stA,List.count_set,Zh8,ZfR,ZfB,ZfK]<;>grind
def AP(hm:m<=400)(hl:isL m x):(if(decide (x<0))=true then some (w64 (0-x))else some x)=some (x.natAbs:Int):=by
 obtain⟨l0,l1⟩:=hl;by_cases h:x<0
 ·rw[ZfC aA,Zb];grind
 grind
def WB(hm:m<=400)(hl:isL m x):ZL x=some (x.natAbs:Int):=AP hm hl
def Co(hA:Asg m a)(hl:isL m x):get? a (x.natAbs:Int)=some (a.getD x.natAbs 0):=by
 exact Ro (by have:=hA.len;have:=hl.2;omega)
def Ze5(hA:Asg m a)(x:Int):(cond (decide (x<0)) (w64 (0-a.getD x.natAbs 0)) (a.getD x.natAbs 0))=lv a x:=by
 unfold lv;have:=hA.val x.natAbs;by_cases h:x<0
 ·rw[ZfC h,decide_eq_true h,cond_true,Zb];omega
 grind
def lst(l:List Int):Int:=l.getLastD 0
def Jr(c d:List Int):free a (c++d)=free a c++free a d:=by simp[free,List.filter_append]
def Ao(l:List Int)(y:Int):lst (l++[y])=y:=by simp[lst]
def Za7(hA:Asg m a)(hm:m<=400){c:List Int}(hc:∀x∈c,isL m x)(hlen:c.length<=1000){n:Nat}(hn:2000<=n):iterN (λ(s3:Int×Int×Bool×Int)=>if(decide (s3.2.2.2<(len c)))then(get? c s3.2.2.2).bind λx2=>(ZL x2).bind λx3=>(get? a x3).bind λx4=>if((cond (decide (x2<0)) (w64 (0-x4)) x4)==0)then some (.inl ((w64 (s3.1+1)),x2,(s3.2.2.1||(decide ((cond (decide (x2<0)) (w64 (0-x4)) x4)>0))),(w64 (s3.2.2.2+1))))else some (.inl (s3.1,s3.2.1,(s3.2.2.1||(decide ((cond (decide (x2<0)) (w64 (0-x4)) x4)>0))),(w64 (s3.2.2.2+1))))else some (.inr (s3.1,s3.2.1,s3.2.2.1))) n (0,0,false,0)=some (((free a c).length:Int),lst (free a c),c.any λx=>lv a x==1):=by
  refine VQ (l:=c) (n:=n) (σ:=Int×Int×Bool) (λk q=>(q.1,q.2.1,q.2.2,(k:Int)))
    (λys q=>∃pre,pre++ys=c/\q=(((free a pre).length:Int),lst (free a pre),pre.any λx=>lv a x==1))
    (λr=>r=(((free a c).length:Int),lst (free a c),c.any λx=>lv a x==1))
    (λk x xs q hk hx hl⟨pre,h1,h2⟩=>by
      have hd:decide ((k:Int)<len c)=true:=by grind[Za]
      have hlx:=hc x (ZfH hx);have hfl:(free a pre).length<=c.length:=by
        rw[<-h1];exact ZgY (ZhO _ _) U
      subst h2;simp only[hd,ZfR,get?_nat,hx,Zf9];rw[WB hm hlx];simp only[Zf9];rw[Co hA hlx];simp only[Zf9,Ze5 hA x];have hv:=Au hA x;have hk1:w64 ((k:Int)+1)=((k+1:Nat):Int):=by grind[Zb]
      have hany:((pre++[x]).any λx=>lv a x==1)=((pre.any λx=>lv a x==1)||decide (lv a x>0)):=by
        rw[Ziq];simp only[List.any_cons,List.any_nil,ZhJ];congr 1;rcases hv with e|e|e<;>rw[e]<;>decide
      by_cases h0:lv a x=0
      · have hb:(lv a x==0)=true:=by simpa using h0
        refine .inl ⟨(((free a (pre++[x])).length:Int),lst (free a (pre++[x])),(pre++[x]).any λx=>lv a x==1),?_,pre++[x],by rw[ZfO];exact h1,rfl⟩;have hfr:free a (pre++[x])=free a pre++[x]:=by
          unfold free;simp[h0]
        rw[ZfC hb,hk1,hany,hfr,Ao,Zb];simp
      · have hb:(lv a x==0)=false:=by simpa using h0
        refine .inl ⟨(((free a (pre++[x])).length:Int),lst (free a (pre++[x])),(pre++[x]).any λx=>lv a x==1),?_,pre++[x],by rw[ZfO];exact h1,rfl⟩;have hfr:free a (pre++[x])=free a pre:=by
          rw[Jr];have:free a [x]=[]:=by unfold free;simp[h0]
          rw[this,Zgb]
        rw[ZfD (by rw[hb];decide),hk1,hany,hfr])
    (λq⟨pre,h1,h2⟩=>by
      have hd:decide ((c.length:Int)<len c)=false:=by rw[Za];simp
      simp only[hd,ZfB,ZfK];rw[Zgb]at h1;subst h1
      exact⟨_,rfl,h2⟩) (a:=(0,0,false)) ⟨[],rfl,rfl⟩ O λr g2=>?_
  rw[g2]
def Zdi(hm:m<=400)(hl:isL m x):quo? x (x.natAbs:Int)=some (if x<0 then-1 else 1):=by
 obtain⟨l0,l1⟩:=hl;unfold quo?;rw[ifn];by_cases h:x<0
 ·have e:(x.natAbs:Int)=-x:=by omega
  rw[ZfC h,e,Int.tdiv_neg,Int.tdiv_self l0];rfl
 ·have e:(x.natAbs:Int)=x:=by omega
  rw[ZfD h,e,Int.tdiv_self l0];rfl
def Aw(hA:Asg m a)(hl:isL m x):set? a (x.natAbs:Int) (if x<0 then-1 else 1)=some (stA a x):=by
 unfold set? stA;rw[ZfC ⟨by omega,by have:=hA.len;have:=hl.2;omega⟩];simp
end
end Go.Proofs.YtjhiajehpjpibaaGreatDoor.Sv
end
section
namespace Go.Proofs.YtjhiajehpjpibaaGreatDoor.Sv
open Go.GL
set_option maxRecDepth 100000
variable{fuel:Nat}[FV fuel]
section
variable{f:D.Formula}{m:Nat}{S:Int->Prop}
structure Way(m:Nat)(cs:List (List Int))(S:Int->Prop)(a:List Int):Prop where
 asg:Asg m a
 ext:∀x,S x->lv a x=1
 snd:Snd m cs S a
def Way.unit{cs:List (List Int)}{a:List Int}(h:Way m cs S a)(hS:∀x,S x->isL m x){c:List Int}(hc:c∈cs)(hm:ClM m c)(hn:∀x∈c,lv a x≠1){l:Int}(hf:free a c=[l]):Way m cs S (stA a l)/\isL m l/\lv a l=0/\l∈c:=by
 obtain⟨h1,h2,h3,h4,h5⟩:=Zc2 h.asg h.snd hc hm hn hf;refine⟨⟨h4,λx hx=>?_,h5⟩,h1,h3,h2⟩;rw[KC h.asg h1 h3 (hS x hx).1 (by rw[h.ext x hx];decide)];exact h.ext x hx
def Jp{a:List Int}{c:List Int}:(c.any λx=>lv a x==1)=true↔∃x∈c,lv a x=1:=by
 simp
theorem EK(hf:FmP f m)(hS:∀x,S x->isL m x){a:List Int}(hw:Way m f.Clauses S a){c:List Int}(hc:c∈f.Clauses):
  (((c.any λx=>lv a x==1)||decide (((free a c).length:Int)>1))=true/\good a c)\/
  (((c.any λx=>lv a x==1)||decide (((free a c).length:Int)>1))=false/\((((free a c).length:Int)==0)=true/\Bad f.Clauses S\/(((free a c).length:Int)==0)=false/\isL m (lst (free a c))/\Way m f.Clauses S (stA a (lst (free a c)))/\zer (stA a (lst (free a c)))+1=zer a)):=by
 have hcl:=(hf.cl c hc).1;cases hany:c.any λx=>lv a x==1 with
 |true=>exact .inl ⟨by simp,.inl (Jp.1 hany)⟩
 | false=>
  have hn:∀x∈c,lv a x≠1:=λx hx e=>by
   simp_all
  match hfr:free a c with
  |[]=>exact .inr ⟨by simp,.inl ⟨by simp,DV hw.asg hw.snd hc hcl hn hfr⟩⟩
  |[l]=>
   obtain⟨h1,h2,h3,_⟩:=hw.unit hS hc hcl hn hfr;exact .inr ⟨by simp,.inr ⟨by simp,h2,h1,ND hw.asg h2 h3⟩⟩
  |x::y::l=>grind[Df]
def CG{a:List Int}(h:Asg m a):zer a<=m+1:=by
 rw[<-h.len];exact List.count_le_length
def Stp{S ρ:Type}(I:Nat->S->Prop)(R:ρ->Prop)(M:Nat)(Y:Option (S⊕ρ)):Prop:=(∃s' M',Y=some (.inl s')/\M'<M/\I M' s')\/∃r,Y=some (.inr r)/\R r
theorem DF{S ρ γ:Type}{B:S->Option (S⊕ρ)}{K:ρ->Option γ}{z:Option γ}(I:Nat->S->Prop)(R:ρ->Prop)(hs:∀M s,I M s->Stp I R M (B s)){M n:Nat}{s:S}(hI:I M s)(hn:M<n)(h:(iterN B n s).bind K=z):∃r,R r/\K r=z:=by
 induction n generalizing M s with
 |zero=>omega
 |succ n ih=>
  rcases hs M s hI with⟨s',M',h1,h2,h3⟩|⟨r,h1,h2⟩
  ·rw[YB h1]at h;exact ih h3 O h
  ·rw[Zr h1 O]at h;exact⟨r,h2,h⟩
theorem DN(hf:FmP f m)(hS:∀x,S x->isL m x){v:List Int}(hw:Way m f.Clauses S v){n:Nat}(hn:2000<=n):
  ∃b v',Wu n f v=some (b,v')/\v'.length=m+1/\(b=true->Okc m f.Clauses S v')/\(b=false->Bad f.Clauses S):=by
 have hnum:=hf.num;generalize hX:Wu n f v=X;unfold Wu at hX
 obtain ⟨r,g2,hX⟩:=DF (λM(s:Bool×List Int)=>(s.1=true->Way m f.Clauses S s.2/\zer s.2<M)/\(s.1=false->Okc m f.Clauses S s.2)) (λ(r:List Int⊕(Bool×List Int))=>(∃a,r= .inl a/\Okc m f.Clauses S a)\/∃a,r= .inr (false,a)/\a.length=m+1/\Bad f.Clauses S) (λM⟨b,v0⟩⟨h1,h2⟩=>by
  cases b with
  |false=>exact .inr ⟨_,rfl,.inl ⟨v0,rfl,h2 rfl⟩⟩
  | true=>
   obtain⟨hw,hM⟩:=h1 rfl;simp only at hw hM;simp only[ZfR];refine Gw (P:=Stp _ _ M) (l:=f.Clauses) (n:=n) (σ:=Bool×List Int) (ρ:=(Bool×(List Int))⊕(Bool×(List Int))) (λk q=>(q.1,(k:Int),q.2))
     (λys q=>Way m f.Clauses S q.2/\(q.1=false->q.2=v0/\∃pre,pre++ys=f.Clauses/\∀c∈pre,good q.2 c)/\(q.1=true->zer q.2<zer v0))
     (λr=>(∃b v,r= .inl (b,v)/\Way m f.Clauses S v/\(b=false->v=v0/\∀c∈f.Clauses,good v c)/\(b=true->zer v<zer v0))\/∃v,r= .inr (false,v)/\v.length=m+1/\Bad f.Clauses S)
     (λk c xs q hk hx hl⟨i1,i2,i3⟩=>by
      have hd:decide ((k:Int)<len f.Clauses)=true:=by rw[Za];simp;omega
      have hcm:=ZfH hx;have hcl:=hf.cl c hcm;have hk1:w64 ((k:Int)+1)=((k+1:Nat):Int):=by rw[Zb];rfl
      have hsc:=Za7 i1.asg hf.small hcl.1.lit hcl.2 hn;simp only[hd,ZfR,get?_nat,hx,Zf9];rw[hsc];simp only[Zf9];rcases EK hf hS i1 hcm with⟨e,hg⟩|⟨e,⟨e0,hb⟩|⟨e0,hl1,hw1,hz⟩⟩
      ·refine .inl ⟨q,by rw[ZfC e,hk1],i1,λhq=> ?_,i3⟩;obtain⟨j1,pre,j2,j3⟩:=i2 hq;refine⟨j1,pre++[c],by rw[ZfO];exact j2,λd hd=>?_⟩;rcases ZfG.1 hd with hd|hd
       ·exact j3 d hd
       ·rw[ZfL]at hd;subst hd;exact hg
      ·exact .inr ⟨_,by rw[ZfD (by rw[e];decide),ZfC e0],.inr ⟨_,rfl,i1.asg.len,hb⟩⟩
      ·refine .inl ⟨(true,stA q.2 (lst (free q.2 c))), ?_,hw1,λh=>ay,λ_=> ?_⟩
       ·rw[ZfD (by rw[e];decide),ZfD (by rw[e0];decide),WB hf.small hl1];simp only[Zf9];rw[Zdi hf.small hl1];simp only[Zf9];rw[Aw i1.asg hl1];simp only[Zf9,hk1]
       ·show zer (stA q.2 (lst (free q.2 c)))<zer v0;cases hq:q.1
        ·have:=(i2 hq).1;rw[this]at hz⊢;omega
        ·have:=i3 hq;omega)
     (λq⟨i1,i2,i3⟩=>by
      have hd:decide ((f.Clauses.length:Int)<len f.Clauses)=false:=by rw[Za];simp
      simp only[hd,ZfB,ZfK];refine⟨_,rfl,.inl ⟨q.1,q.2,rfl,i1,λhq=>?_,i3⟩⟩;obtain⟨j1,pre,j2,j3⟩:=i2 hq;rw[Zgb]at j2
      exact⟨j1,j2▸j3⟩) (a:=(false,v0)) ⟨hw,λ_=>⟨rfl,[],rfl,λ_ h=>ay⟩,λh=>ay⟩ O λr hr=>?_
   rcases hr with⟨b,a,rfl,h1,h2,h3⟩|⟨a,rfl,h1,h2⟩
   ·refine .inl ⟨(b,a),if b=true then zer a+1 else 0,rfl, ?_, ?_⟩
    ·cases b with
     |true=>have:=h3 rfl;simp;omega
     |false=>simp;omega
    ·cases b with
     |true=>exact⟨λ_=>⟨h1,by simp⟩,λh=>by cases h⟩
     |false=>
      obtain⟨e,hg⟩:=h2 rfl;exact⟨λh=>ay,λ_=>⟨h1.asg,h1.ext,h1.snd,hg⟩⟩
   ·exact .inr ⟨_,rfl,.inr ⟨a,rfl,h1,h2⟩⟩) (M:=zer v+1) ⟨λ_=>⟨hw,by simp⟩,λh=>ay⟩ (by have:=CG hw.asg;have:=hf.small;omega) hX
 subst hX;rcases g2 with⟨a,rfl,h⟩|⟨a,rfl,h1,h2⟩
 ·exact⟨true,a,rfl,h.asg.len,λ_=>h,λh=>ay⟩
 ·exact⟨false,a,rfl,h1,λh=>ay,λ_=>h2⟩
end
end Go.Proofs.YtjhiajehpjpibaaGreatDoor.Sv
end
section
namespace Go.Proofs.YtjhiajehpjpibaaGreatDoor.Sv
open Go.GL
set_option maxRecDepth 100000
variable{fuel:Nat}[FV fuel]
section
variable{f:D.Formula}{m:Nat}{S:Int->Prop}
theorem Xh{x:Int}(hm:m<=400)(hl:isL m x):YJ x=some (x.natAbs:Int):=AP hm hl
def Zcs{x:Int}(hm:m<=400)(hl:isL m x):(cond (decide (x<0)) (w64 (0-x)) x)=(x.natAbs:Int):=by
 obtain⟨l0,l1⟩:=hl;by_cases h:x<0
 ·rw[decide_eq_true h,cond_true,Zb];omega
 grind
def ZcI{x:Int}:(cond (decide (x<0)) (-1) 1:Int)=if x<0 then-1 else 1:=by
 simp
def Ze8{α:Type}{l:List α}{x:α}(h:l.length<=1000000):app? l [x]=some (l++[x]):=by
 simp_all[app?,room,ZfC]<;>grind
def Dg{a q:List Int}{l:Int}(hA:Asg m a)(hm:m<=400)(hl:isL m l)(h0:lv a l=0)(hq:q.length<=1000000):Y2 ⟨a,q⟩ l=some (true,⟨stA a l,q++[l]⟩):=by
 have hg:a.getD l.natAbs 0=0:=by grind[lv]
 unfold Y2;rw[Zcs hm hl,Co hA hl,hg];simp only[Zf9];rw[ifn,ZcI,Aw hA hl];simp_all[Zf9,Ze8]
theorem Zas{a q:List Int}(hA:Asg m a)(hm:m<=400){c:List Int}(hc:∀x∈c,isL m x)(hlen:c.length<=1000)(hq:q.length<=1000000){n:Nat}(hn:2000<=n):
  ((c.any λx=>lv a x==1)=true/\Z5 n ⟨a,q⟩ c=some (true,⟨a,q⟩))\/
  ((c.any λx=>lv a x==1)=false/\((free a c=[]/\Z5 n ⟨a,q⟩ c=some (false,⟨a,q⟩))\/(∃l,free a c=[l]/\Z5 n ⟨a,q⟩ c=some (true,⟨stA a l,q++[l]⟩))\/(2<=(free a c).length/\Z5 n ⟨a,q⟩ c=some (true,⟨a,q⟩)))):=by
 generalize hX:Z5 n ⟨a,q⟩ c=X;unfold Z5 at hX;obtain⟨r,g2,hX⟩:=Hl (l:=c) (n:=n) (σ:=Int×Int) (ρ:=(Int×Int)⊕(Bool×D.assignment)) (λk z=>(z.1,z.2,(k:Int)))
  (λys z=>∃pre,pre++ys=c/\z=(((free a pre).length:Int),lst (free a pre))/\(pre.any λx=>lv a x==1)=false)
  (λr=>(r= .inl (((free a c).length:Int),lst (free a c))/\(c.any λx=>lv a x==1)=false)\/(r= .inr (true,⟨a,q⟩)/\(c.any λx=>lv a x==1)=true))
  (λk x xs z hk hx hl⟨pre,h1,h2,h3⟩=>by
   have hd:decide ((k:Int)<len c)=true:=by grind[Za]
   have hlx:=hc x (ZfH hx);have hfl:(free a pre).length<=c.length:=by
    rw[<-h1];exact ZgY (ZhO _ _) U
   have hk1:w64 ((k:Int)+1)=((k+1:Nat):Int):=by grind[Zb]
   have hv:=hA.val x.natAbs;have hx0:=hlx.1;subst h2;simp only[hd,ZfR,get?_nat,hx,Zf9];rw[Xh hm hlx];simp only[Zf9];rw[Co hA hlx];simp only[Zf9];by_cases h0:a.getD x.natAbs 0=0
   ·have hl0:lv a x=0:=by unfold lv;rw[h0];split<;>rfl
    have hfr:free a (pre++[x])=free a pre++[x]:=by
     rw[Jr];congr 1;unfold free;simp[hl0]
    refine .inl ⟨(((free a (pre++[x])).length:Int),lst (free a (pre++[x]))),?_,pre++[x],by rw[ZfO];exact h1,rfl,?_⟩
    ·rw[ZfC (by simpa using h0),hk1,hfr,Ao,Zb];simp
    ·rw[Ziq,h3];simp[hl0]
   ·have hl0:lv a x≠0:=λe=>h0 (by unfold lv at e;split at e<;>omega);rw[ZfD (by simpa using h0)];by_cases h4:lv a x=1
    ·refine .inr ⟨_, ?_,.inr ⟨rfl,Jp.2 ⟨x,ZfH hx,h4⟩⟩⟩;rw[ZfC];unfold lv at h4;by_cases hneg:x<0
     ·rw[ZfC hneg]at h4;have e1:a.getD x.natAbs 0=-1:=by omega
      rw[e1,decide_eq_false (show¬x>0 by omega)];decide
     ·rw[ZfD hneg]at h4;rw[h4,decide_eq_true (show x>0 by omega)];decide
    ·have hfr:free a (pre++[x])=free a pre:=by
      rw[Jr];have:free a [x]=[]:=by unfold free;simp[hl0]
      rw[this,Zgb]
     refine .inl ⟨(((free a (pre++[x])).length:Int),lst (free a (pre++[x]))),?_,pre++[x],by rw[ZfO];exact h1,rfl,?_⟩
     ·rw[ZfD,hk1,hfr];unfold lv at h4;by_cases hneg:x<0
      ·rw[ZfC hneg]at h4;have e1:a.getD x.natAbs 0=1:=by omega
       rw[e1,decide_eq_false (show¬x>0 by omega)];decide
      ·rw[ZfD hneg]at h4;have e1:a.getD x.natAbs 0=-1:=by omega
       rw[e1,decide_eq_true (show x>0 by omega)];decide
     ·rw[Ziq,h3];simp[h4])
  (λz⟨pre,h1,h2,h3⟩=>by
   have hd:decide ((c.length:Int)<len c)=false:=by rw[Za];simp
   simp only[hd,ZfB,ZfK];rw[Zgb]at h1;subst h1
   exact⟨_,rfl,.inl ⟨by rw[h2],h3⟩⟩) (a:=(0,0)) ⟨[],rfl,rfl,rfl⟩ O hX
 subst hX;rcases g2 with⟨rfl,hany⟩|⟨rfl,hany⟩
 ·refine .inr ⟨hany, ?_⟩
  match hfr:free a c with
  |[]=>exact .inl ⟨rfl,rfl⟩
  |[l]=>
   have hlm:l∈free a c:=by rw[hfr];simp
   rw[PZ]at hlm;refine .inr (.inl ⟨l,rfl,?_⟩);show((Y2 ⟨a,q⟩ l).bind λx4=>some (x4.1,x4.2))=_;rw[Dg hA hm (hc l hlm.1) hlm.2 hq];rfl
  |x::y::l=>
   refine .inr (.inr ⟨by simp,?_⟩);simp only;rw[ZfD aa,ZfD aa]
 ·exact .inl ⟨hany,rfl⟩
def pend(a q:List Int)(c:List Int):Prop:=∃x∈c,lv a x=-1∧-x∈q
structure Wq(m:Nat)(cs:List (List Int))(S:Int->Prop)(a q:List Int):Prop where
 way:Way m cs S a
 tru:∀l∈q,isL m l/\lv a l=1
 len:q.length+zer a<=1000
def GH(hf:FmP f m)(hS:∀x,S x->isL m x){a q:List Int}(hw:Wq m f.Clauses S a q){c:List Int}(hc:c∈f.Clauses)(P:List Int->Prop)(hJ:∀d∈f.Clauses,P d\/good a d\/pend a q d){n:Nat}(hn:2000<=n):
  (Z5 n ⟨a,q⟩ c=some (false,⟨a,q⟩)/\Bad f.Clauses S)\/
  ∃a' q',Z5 n ⟨a,q⟩ c=some (true,⟨a',q'⟩)/\Wq m f.Clauses S a' q'/\q'.length+2*zer a'<=q.length+2*zer a/\good a' c/\∀d∈f.Clauses,P d\/good a' d\/pend a' q' d:=by
 have hcl:=hf.cl c hc;have hA:=hw.way.asg;rcases Zas (q:=q) hA hf.small hcl.1.lit hcl.2 (by have:=hw.len;omega) hn with⟨h1,h2⟩|⟨h1,⟨h3,h2⟩|⟨l,h3,h2⟩|⟨h3,h2⟩⟩
 ·exact .inr ⟨a,q,h2,hw,ZfP _,.inl (Jp.1 h1),hJ⟩
 ·have hn1:∀x∈c,lv a x≠1:=λx hx e=>by
   simp_all
  exact .inl ⟨h2,DV hA hw.way.snd hc hcl.1 hn1 h3⟩
 ·have hn1:∀x∈c,lv a x≠1:=λx hx e=>by
   simp_all
  obtain⟨k1,k2,k3,k4⟩:=hw.way.unit hS hc hcl.1 hn1 h3;have hz:=ND hA k2 k3;have hlen:=hw.len;refine .inr ⟨stA a l,q++[l],h2,⟨k1,λy hy=>?_,by grind⟩,by grind,.inl ⟨l,k4,by rw[Pe hA.len k2 k2.1,ZfC rfl]⟩,λd hd=>?_⟩
  ·rcases ZfG.1 hy with hy|hy
   ·have:=hw.tru y hy;exact⟨this.1,by rw[KC hA k2 k3 this.1.1 O];exact this.2⟩
   ·rw[ZfL]at hy;subst hy;exact⟨k2,by rw[Pe hA.len k2 k2.1,ZfC rfl]⟩
  ·rcases hJ d hd with h|h|⟨x,hx,hx1,hx2⟩
   ·exact .inl h
   ·rcases EI hA k2 k3 (hf.cl d hd).1 h with h|h
    ·simp_all
    ·exact .inr (.inr ⟨-l,h,by rw[Qj k2.1,Pe hA.len k2 k2.1,ZfC rfl],by simp⟩)
   ·exact .inr (.inr ⟨x,hx,by rw[KC hA k2 k3 ((hf.cl d hd).1.lit x hx).1 O];exact hx1,Zh3 _ hx2⟩)
 ·exact .inr ⟨a,q,h2,hw,ZfP _,Df hcl.1 h3,hJ⟩
end
end Go.Proofs.YtjhiajehpjpibaaGreatDoor.Sv
end
section
namespace Go.Proofs.YtjhiajehpjpibaaGreatDoor.Sv
open Go.GL
set_option maxRecDepth 100000
variable{fuel:Nat}[FV fuel]
structure OccP(f:D.Formula)(m:Nat)(occ:List (List Int)):Prop where
 len:occ.length=2*m+1
 val:∀j,∀i∈occ.getD j [],0<=i/\i<(f.Clauses.length:Int)
 all:∀(i:Nat)(c:List Int),f.Clauses[i]? =some c->∀y∈c,(i:Int)∈occ.getD (y+m).toNat []
 small:∀j,(occ.getD j []).length<=1700000
def AC{α:Type}{l:List α}{x:α}(h:l.length<=4000000):app? l [x]=some (l++[x]):=by
 simp_all[app?,room,ZfC]<;>grind
def Mx{l:List (List Int)}{i j:Nat}{v:List Int}(h:i<l.length):(l.set i v).getD j []=if j=i then v else l.getD j []:=by
 grind
def AL{l:List (List Int)}{i:Nat}(h:i<l.length):l[i]? =some (l.getD i []):=by
 simp_all
section
variable{f:D.Formula}{m:Nat}{S:Int->Prop}{occ:List (List Int)}
def ZcU{y:Int}(hm:m<=400)(hl:isL m y):w64 (y+(m:Int))=(((y+m).toNat:Nat):Int)/\(y+m).toNat<2*m+1:=by
 obtain⟨l0,l1⟩:=hl;grind[Zb]
structure OccK(f:D.Formula)(m k:Nat)(pre:List Int)(occ:List (List Int)):Prop where
 len:occ.length=2*m+1
 val:∀j,∀i∈occ.getD j [],0<=i/\i<(f.Clauses.length:Int)
 all:∀(i:Nat)(c:List Int),i<k->f.Clauses[i]? =some c->∀y∈c,(i:Int)∈occ.getD (y+m).toNat []
 cur:∀y∈pre,(k:Int)∈occ.getD (y+m).toNat []
 small:∀j,(occ.getD j []).length<=1000*k+pre.length
def Zak(hf:FmP f m){k:Nat}{c:List Int}(hk:f.Clauses[k]? =some c)(h:OccK f m k [] occ){n:Nat}(hn:4000000<=n):∃occ',iterN (λ(s2:Int×(List (List Int)))=>if(decide (s2.1<(len c)))then(get? c s2.1).bind λx3=>(get? s2.2 (w64 (x3+f.Vars))).bind λx4=>(app? x4 ([(k:Int)]:List Int)).bind λx5=>(set? s2.2 (w64 (x3+f.Vars)) x5).bind λx6=>some (.inl ((w64 (s2.1+1)),x6))else some (.inr (s2.2))) n (0,occ)=some occ'/\OccK f m k c occ':=by
  have hcl:=hf.cl c (ZfH hk);have hkl:k<f.Clauses.length:=(ZfE.1 hk).1;have hnum:=hf.num;refine Va (l:=c) (n:=n) (σ:=List (List Int)) (λj a=>((j:Int),a)) (λys a=>∃pre,pre++ys=c/\OccK f m k pre a) (λr=>OccK f m k c r)
    (λj y ys a hj hy hl⟨pre,h1,h2⟩=>by
      have hd:decide ((j:Int)<len c)=true:=by grind[Za]
      have hly:=hcl.1.lit y (ZfH hy);have hk1:w64 ((j:Int)+1)=((j+1:Nat):Int):=by grind[Zb]
      obtain⟨e1,e2⟩:=ZcU hf.small hly;have hpl:pre.length<=c.length:=by grind
      have hsm:=h2.small (y+m).toNat;simp only[hd,ZfR,get?_nat,hy,Zf9];rw[hf.vars,e1,get?_nat,AL (by rw[h2.len];exact e2)];simp only[Zf9];rw[AC O];simp only[Zf9];have hst:set? a (((y+m).toNat:Nat):Int) (a.getD (y+m).toNat []++[(k:Int)])=some (a.set (y+m).toNat (a.getD (y+m).toNat []++[(k:Int)])):=by
        unfold set?;rw[ZfC ⟨by omega,by have:=h2.len;rw[Zgr];omega⟩,Zgr]
      rw[hst];have hlt:(y+m).toNat<a.length:=by rw[h2.len];exact e2
      have hmem:∀j' i,i∈a.getD j' []->i∈(a.set (y+m).toNat (a.getD (y+m).toNat []++[(k:Int)])).getD j' []:=λj' i hi=>by
        rw[Mx hlt];split
        · rename_i e;subst e;exact Zh3 _ hi
        · exact hi
      refine .inl ⟨_,by simp only[Zf9,hk1],pre++[y],by rw[ZfO];exact h1,?_,λj' i hi=>?_,λi d hi hd' z hz=>hmem _ _ (h2.all i d hi hd' z hz),λz hz=>?_,λj'=>?_⟩
      · rw[Zhv];exact h2.len
      · rw[Mx hlt]at hi
        split at hi
        · rcases ZfG.1 hi with hi|hi
          · exact h2.val _ i hi
          · rw[ZfL]at hi;omega
        · exact h2.val _ i hi
      · rcases ZfG.1 hz with hz|hz
        · exact hmem _ _ (h2.cur z hz)
        · rw[ZfL]at hz;subst hz
          rw[Mx hlt,ZfC rfl];simp
      · have e:(pre++[y]).length=pre.length+1:=by simp
        have h3:=h2.small j';rw[Mx hlt,e];split
        · rw[ZfI,ZgB];omega
        · omega)
    (λa⟨pre,h1,h2⟩=>by
      have hd:decide ((c.length:Int)<len c)=false:=by rw[Za];simp
      simp only[hd,ZfB,ZfK];rw[Zgb]at h1;subst h1
      exact⟨_,rfl,h2⟩) (a:=occ) ⟨[],rfl,h⟩ O
def GZ{α:Type}{k:Nat}{z:α}(h:k<=100000):mk? (k:Int) z=some (List.replicate k z):=by
 grind[mk?,room]
def CQ(hf:FmP f m){n:Nat}(hn:4000000<=n):∃occ,Uu n f=some ⟨f,occ⟩/\OccP f m occ:=by
  have hnum:=hf.num;have hm:=hf.small;have e0:w64 (w64 (2*f.Vars)+1)=((2*m+1:Nat):Int):=by rw[hf.vars,Zb (x:=2*(m:Int)),Zb];omega
  have hgl:∀j,(List.replicate (2*m+1) ([]:List Int)).getD j []=[]:=λj=>by
    grind
  obtain⟨r,g1,g2⟩:=Va (l:=f.Clauses) (n:=n) (σ:=List (List Int)) (ρ:=List (List Int)) (B:=λ(s1:Int×(List (List Int)))=>if (decide (s1.1<(len f.Clauses)))then(get? f.Clauses s1.1).bind λx2=>(iterN (λ(s2:Int×(List (List Int)))=>if(decide (s2.1<(len x2)))then(get? x2 s2.1).bind λx3=>(get? s2.2 (w64 (x3+f.Vars))).bind λx4=>(app? x4 ([s1.1]:List Int)).bind λx5=>(set? s2.2 (w64 (x3+f.Vars)) x5).bind λx6=>some (.inl ((w64 (s2.1+1)),x6))else some (.inr (s2.2))) n (0,s1.2)).bind λ(rl2:(List (List Int)))=>some (.inl ((w64 (s1.1+1)),rl2))else some (.inr (s1.2))) (λj a=>((j:Int),a)) (λys a=>∃k,k+ys.length=f.Clauses.length/\OccK f m k [] a) (λr=>OccK f m f.Clauses.length [] r)
    (λj c xs a hj hx hl⟨k,h1,h2⟩=>by
      have hd:decide ((j:Int)<len f.Clauses)=true:=by grind[Za]
      have hkj:k=j:=by omega
      subst hkj;have hk1:w64 ((k:Int)+1)=((k+1:Nat):Int):=by grind[Zb]
      have hcl:=hf.cl c (ZfH hx);obtain⟨o',q1,q2⟩:=Zak hf hx h2 hn;simp only[hd,ZfR,get?_nat,hx,Zf9];rw[q1];refine .inl ⟨o',by simp_all,k+1,by grind,q2.len,q2.val,λi d hi hd' y hy=>?_,λy hy=>(by cases hy),λj'=>?_⟩
      · by_cases e:i=k
        · subst e
          rw[hx]at hd';cases hd';exact q2.cur y hy
        · exact q2.all i d O hd' y hy
      · have h3:=q2.small j'
        omega)
    (λa⟨k,h1,h2⟩=>by
      have hd:decide ((f.Clauses.length:Int)<len f.Clauses)=false:=by simp[Za]
      simp_all[ZfB,ZfK]<;>grind) (a:=List.replicate (2*m+1) []) ⟨0,by simp,by simp,λj i hi=>ah,λi c hi=>O,λy hy=>(by cases hy),λj=>ah⟩ O
  refine⟨r,?_,g2.len,g2.val,λi c hc y hy=>g2.all i c (ZfE.1 hc).1 hc y hy,λj=>?_⟩
  · unfold Uu
    rw[e0,GZ O];simp_all
  · have h3:=g2.small j
    grind
def EY(hf:FmP f m)(hS:∀x,S x->isL m x)(ho:OccP f m occ){n:Nat}(hn:4000000<=n){a q:List Int}(hw:Wq m f.Clauses S a q)(hJ:∀d∈f.Clauses,good a d\/pend a q d):
  ∃b a',Xp n ⟨f,occ⟩ ⟨a,q⟩=some (b,a')/\((b=true/\a'.queue=[]/\Okc m f.Clauses S a'.val)\/(b=false/\Bad f.Clauses S)):=by
 have hz:=hw.len;generalize hX:Xp n ⟨f,occ⟩ ⟨a,q⟩=X;unfold Xp at hX
 obtain ⟨r,g2,hX⟩:=DF (λM(s:List Int×List Int)=>s.2.length+2*zer s.1<M/\Wq m f.Clauses S s.1 s.2/\∀d∈f.Clauses,good s.1 d\/pend s.1 s.2 d) (λ(r:(List Int×List Int)⊕(Bool×D.assignment))=>(∃a',r= .inl (a',[])/\Okc m f.Clauses S a')\/∃x,r= .inr (false,x)/\Bad f.Clauses S) (λM⟨a,q⟩⟨hM,hw,hJ⟩=>by
  simp only at hM hw hJ;rcases List.eq_nil_or_concat q with rfl|⟨q0,l,rfl⟩
  ·refine .inr ⟨_,rfl,.inl ⟨a,rfl,hw.way.asg,hw.way.ext,hw.way.snd,λd hd=> ?_⟩⟩;rcases hJ d hd with h|⟨x,_,_,h⟩
   ·exact h
   ·cases h
  ·obtain⟨M,rfl⟩:∃k,M=k+2:=⟨M-2,by rw[List.concat_eq_append,ZfI]at hM;simp at hM;omega⟩;have hlen:=hw.len;rw[List.concat_eq_append]at*;rw[ZfI]at hlen hM;simp only[ZgB]at hlen hM;obtain⟨hl,hl1⟩:=hw.tru l U;have hln:isL m (-l):=⟨by have:=hl.1;omega,by rw[ZhL];exact hl.2⟩;have e1:w64 (len (q0++[l])-1)=(q0.length:Int):=by rw[Za,ZfI];simp;exact Zb
   have e2:get? (q0++[l]) (q0.length:Int)=some l:=by rw[get?_nat,Zgo (ZfP _)];simp
   have e3:cut? (q0++[l]) 0 (q0.length:Int)=some q0:=by
    unfold cut?;rw[ZfC ⟨Zgm _,by omega,by rw[ZfI,ZgB];omega⟩,Zgr];simp
   obtain⟨x1,x2⟩:=ZcU hf.small hln;have e4:get? occ (w64 (f.Vars-l))=some (occ.getD (-l+m).toNat []):=by
    rw[hf.vars,show((m:Int)-l)=-l+m by omega,x1,get?_nat,AL (by rw[ho.len];exact x2)]
   have hgt:decide (len (q0++[l])>0)=true:=by rw[Za];exact decide_eq_true (by rw[ZfI,ZgB];omega)
   have hw0:Wq m f.Clauses S a q0:=⟨hw.way,λy hy=>hw.tru y (Zh3 _ hy),by omega⟩;have hsm:=ho.small (-l+m).toNat;simp only[hgt,ZfR,e1,e2,e3,Zf9];rw[e4];simp only[Zf9];refine Gw (P:=Stp _ _ (M+2)) (l:=occ.getD (-l+m).toNat []) (n:=n) (σ:=List Int×List Int) (ρ:=((List Int)×(List Int))⊕(Bool×D.assignment)) (λj z=>((j:Int),z.1,z.2))
    (λys z=>Wq m f.Clauses S z.1 z.2/\z.2.length+2*zer z.1<=M/\∀d∈f.Clauses,(∃i∈ys,f.Clauses[i.toNat]? =some d)\/good z.1 d\/pend z.1 z.2 d)
    (λr=>(∃z,r= .inl z/\Wq m f.Clauses S z.1 z.2/\z.2.length+2*zer z.1<=M/\∀d∈f.Clauses,good z.1 d\/pend z.1 z.2 d)\/∃x,r= .inr (false,x)/\Bad f.Clauses S)
    (λj i ys z hj hi hl'⟨i1,i2,i3⟩=>by
     have hd:decide ((j:Int)<len (occ.getD (-l+m).toNat []))=true:=by rw[Za];exact decide_eq_true O
     have hk1:w64 ((j:Int)+1)=((j+1:Nat):Int):=by rw[Zb];rfl
     have hiv:=ho.val _ i (ZfH hi);have hic:f.Clauses[i.toNat]? =some f.Clauses[i.toNat]:=ZfA O;have hg:get? f.Clauses i=some f.Clauses[i.toNat]:=by unfold get?;rw[ZfC hiv.1];exact hic
     simp only[hd,ZfR,get?_nat,hi,Zf9];rw[hg];simp only[Zf9]
     rcases GH hf hS i1 (Zgn (show i.toNat<f.Clauses.length by omega)) (λd=>(∃i∈ys,f.Clauses[i.toNat]? =some d)\/d=f.Clauses[i.toNat]) (λd hd'=>by
      rcases i3 d hd' with⟨i',h1,h2⟩|h|h
      ·rcases ZfY.1 h1 with rfl|h1
       ·rw[hic]at h2;exact .inl (.inr (Option.some.inj h2).symm)
       ·exact .inl (.inl ⟨i',h1,h2⟩)
      ·exact .inr (.inl h)
      ·exact .inr (.inr h)) (n:=n) O with⟨h1,h2⟩|⟨a',q',h1,h2,h3,h4,h5⟩
     ·rw[h1];exact .inr ⟨_,rfl,.inr ⟨_,rfl,h2⟩⟩
     ·rw[h1];refine .inl ⟨(a',q'),by simp only[Zf9,hk1];rfl,h2,by simp only;omega,λd hd'=>?_⟩;rcases h5 d hd' with(h|h)|h|h
      ·exact .inl h
      ·exact .inr (.inl (h▸h4))
      ·exact .inr (.inl h)
      ·exact .inr (.inr h))
    (λz⟨i1,i2,i3⟩=>by
     have hd:decide (((occ.getD (-l+m).toNat []).length:Int)<len (occ.getD (-l+m).toNat []))=false:=by rw[Za];simp
     simp only[hd,ZfB,ZfK];refine⟨_,rfl,.inl ⟨z,rfl,i1,i2,λd hd'=>?_⟩⟩;rcases i3 d hd' with⟨i',h1,_⟩|h
     ·cases h1
     ·exact h) (a:=(a,q0)) ⟨hw0,by simp only;omega,λd hd'=>by
      rcases hJ d hd' with h|⟨x,hx,hx1,hx2⟩
      ·exact .inr (.inl h)
      ·rcases ZfG.1 hx2 with h|h
       ·exact .inr (.inr ⟨x,hx,hx1,h⟩)
       ·rw[ZfL]at h;obtain⟨i,hi⟩:=ZgW hd';have hxl:x=-l:=by omega
        exact .inl ⟨(i:Int),ho.all i d hi (-l) (hxl▸hx),by simpa using hi⟩⟩ O λr hr=>?_
   rcases hr with⟨z,rfl,h1,h2,h3⟩|⟨x,rfl,h1⟩
   ·exact .inl ⟨(z.1,z.2),M+1,rfl,by omega,by simp only;omega,h1,h3⟩
   ·exact .inr ⟨_,rfl,.inr ⟨x,rfl,h1⟩⟩) (M:=q.length+2*zer a+1) ⟨by simp,hw,hJ⟩ O hX
 subst hX;rcases g2 with⟨a',rfl,h⟩|⟨x,rfl,h⟩
 ·exact⟨true,⟨a',[]⟩,rfl,.inl ⟨rfl,rfl,h⟩⟩
 ·exact⟨false,x,rfl,.inr ⟨rfl,h⟩⟩
end
end Go.Proofs.YtjhiajehpjpibaaGreatDoor.Sv
end
section
namespace Go.Proofs.YtjhiajehpjpibaaGreatDoor.Sv
open Go.GL
set_option maxRecDepth 100000
variable{fuel:Nat}[FV fuel]
section
variable{f:D.Formula}{m:Nat}{S:Int->Prop}{occ:List (List Int)}
def JH{cs:List (List Int)}{a:List Int}(hA:Asg m a):Way m cs (Sv m a) a:=⟨hA,λ_ hx=>hx.2,λ_ h1 h2=>.base ⟨h1,h2⟩⟩
def FE{a:List Int}:∀x,Sv m a x->isL m x:=λ_ h=>h.1
def FmP.cls(hf:FmP f m):∀c∈f.Clauses,ClM m c:=λc hc=>(hf.cl c hc).1
noncomputable def clo(m:Nat)(cs:List (List Int))(v:List Int):Option (List Int):=open Classical in if h:∃a,Okc m cs (Sv m v) a then some h.choose else none
def CR{cs:List (List Int)}(hcs:∀c∈cs,ClM m c){v a:List Int}(h:Okc m cs (Sv m v) a):clo m cs v=some a:=by
 have hx:∃a,Okc m cs (Sv m v) a:=⟨a,h⟩;unfold clo;rw[dif_pos hx,ZbM hcs hx.choose_spec h]
def Ky{cs:List (List Int)}(hcs:∀c∈cs,ClM m c){v:List Int}(h:Bad cs (Sv m v)):clo m cs v=none:=by
 unfold clo;rw[dif_neg (λ⟨a,ha⟩=>DJ hcs ha h)]
def PG{cs:List (List Int)}{v a:List Int}(h:clo m cs v=some a):Okc m cs (Sv m v) a:=by
 simp_all[clo]<;>grind
theorem Za1(hf:FmP f m){v:List Int}(hA:Asg m v){n:Nat}(hn:2000<=n):∃b v',Wu n f v=some (b,v')/\((b=true/\clo m f.Clauses v=some v')\/(b=false/\clo m f.Clauses v=none)):=by
 obtain⟨b,v',h1,h2,h3,h4⟩:=DN hf FE (JH (cs:=f.Clauses) hA) hn;refine⟨b,v',h1,?_⟩;cases b with
 |true=>exact .inl ⟨rfl,CR hf.cls (h3 rfl)⟩
 |false=>exact .inr ⟨rfl,Ky hf.cls (h4 rfl)⟩
def Zeb{l:List Int}(h:l.length<=1000000):Zg l=some l:=by
 simp_all[Zg,app?,room,ZfC]<;>grind
def Za5(hf:FmP f m)(ho:OccP f m occ){n:Nat}(hn:4000000<=n){a q:List Int}{l:Int}(hA:Asg m a)(hg:∀c∈f.Clauses,good a c)(hl:isL m l)(h0:lv a l=0):
  ∃a' b,ZQ n ⟨f,occ⟩ ⟨a,q⟩ l=some (a',b)/\((b=true/\a'.queue=[]/\clo m f.Clauses (stA a l)=some a'.val)\/(b=false/\clo m f.Clauses (stA a l)=none)):=by
 have hm:=hf.small;have hz:=CG hA;have hz1:=ND hA hl h0;have hA1:=Kz hA hl
 have hw:Wq m f.Clauses (Sv m (stA a l)) (stA a l) [l]:=⟨JH hA1,λy hy=>by
  rw[ZfL]at hy;subst hy
  exact⟨hl,by rw[Pe hA.len hl hl.1,ZfC rfl]⟩,by simp;omega⟩
 obtain⟨b,a',h1,h2⟩:=EY hf FE ho hn hw λd hd=>by
  rcases EI hA hl h0 (hf.cl d hd).1 (hg d hd)with h|h
  ·exact .inl h
  ·exact .inr ⟨-l,h,by rw[Qj hl.1,Pe hA.len hl hl.1,ZfC rfl],by simp⟩
 unfold ZQ;rw[Zeb (l:=a) (by have:=hA.len;omega)];simp only[Zf9];rw[Dg hA hm hl h0 U];simp only[Zf9,ZfJ,ZfB,ZfK,Zhx];rw[h1];rcases h2 with⟨rfl,h3,h4⟩|⟨rfl,h3⟩
 ·exact⟨a',true,rfl,.inl ⟨rfl,h3,CR hf.cls h4⟩⟩
 ·exact⟨default,false,rfl,.inr ⟨rfl,Ky hf.cls h3⟩⟩
def Hw(m:Nat):Asg m (List.replicate (m+1) 0):=by
 have h:∀i,(List.replicate (m+1) (0:Int)).getD i 0=0:=λi=>by
  grind
 exact⟨by simp,λi=>by rw[h];omega,h 0⟩
def start_eq(hf:FmP f m)(ho:OccP f m occ){n:Nat}(hn:4000000<=n):
  ∃a' b,XY n ⟨f,occ⟩ []=some (a',b)/\((b=true/\a'.queue=[]/\clo m f.Clauses (List.replicate (m+1) 0)=some a'.val)\/(b=false/\clo m f.Clauses (List.replicate (m+1) 0)=none)):=by
 have hm:=hf.small;have hnum:=hf.num;have hA:=Hw m;have hz:=CG hA;have e0:w64 (f.Vars+1)=((m+1:Nat):Int):=by rw[hf.vars,Zb];rfl
 have hw:Wq m f.Clauses (Sv m (List.replicate (m+1) 0)) (List.replicate (m+1) 0) []:=⟨JH hA,λy hy=>(by cases hy),by grind⟩;generalize hX:XY n ⟨f,occ⟩ []=X;unfold XY at hX;rw[e0,GZ O]at hX;simp only[Zf9]at hX;rw[Zr (r:=.inl (List.replicate (m+1) 0,[])) ap O]at hX;obtain⟨r,g2,hX⟩:=Hl (l:=f.Clauses) (n:=n) (σ:=List Int×List Int) (ρ:=((List Int)×(List Int))⊕(D.assignment×Bool)) (λj z=>((j:Int),z.1,z.2))
  (λys z=>Wq m f.Clauses (Sv m (List.replicate (m+1) 0)) z.1 z.2/\∀d∈f.Clauses,d∈ys\/good z.1 d\/pend z.1 z.2 d)
  (λr=>(∃z,r= .inl z/\Wq m f.Clauses (Sv m (List.replicate (m+1) 0)) z.1 z.2/\∀d∈f.Clauses,good z.1 d\/pend z.1 z.2 d)\/r= .inr (default,false)/\Bad f.Clauses (Sv m (List.replicate (m+1) 0)))
  (λj c ys z hj hx hl⟨i1,i2⟩=>by
   have hd:decide ((j:Int)<len f.Clauses)=true:=by grind[Za,decide_eq_true]
   have hk1:w64 ((j:Int)+1)=((j+1:Nat):Int):=by grind[Zb]
   simp only[hd,ZfR,get?_nat,hx,Zf9]
   rcases GH hf FE i1 (ZfH hx) (λd=>d∈ys\/d=c) (λd hd'=>by
    grind) (n:=n) O with⟨h1,h2⟩|⟨a',q',h1,h2,h3,h4,h5⟩
   all_goals simp_all[Zf9]<;>grind)
  (λz⟨i1,i2⟩=>by
   grind[decide,len,Za]) (a:=(List.replicate (m+1) 0,[])) ⟨hw,λd hd=>.inl hd⟩ O hX
 subst hX;rcases g2 with⟨z,rfl,h1,h2⟩|⟨rfl,h⟩
 ·obtain⟨b,a',k1,k2⟩:=EY hf FE ho hn h1 h2;simp only;rw[k1];rcases k2 with⟨rfl,k3,k4⟩|⟨rfl,k3⟩
  ·exact⟨a',true,rfl,.inl ⟨rfl,k3,CR hf.cls k4⟩⟩
  ·exact⟨default,false,rfl,.inr ⟨rfl,Ky hf.cls k3⟩⟩
 ·exact⟨default,false,rfl,.inr ⟨rfl,Ky hf.cls h⟩⟩
def LF(a:List Int)(v:Nat):Prop:=(v=0/\∀i,1<=i->i<a.length->a.getD i 0≠0)\/(1<=v/\v<a.length/\a.getD v 0=0/\∀i,1<=i->i<v->a.getD i 0≠0)
def LF.uniq{a:List Int}{v w:Nat}(h:LF a v)(h':LF a w):v=w:=by
 rcases h with⟨h1,h2⟩|⟨h1,h2,h3,h4⟩<;>rcases h' with⟨k1,k2⟩|⟨k1,k2,k3,k4⟩
 all_goals grind
theorem ZdG{a q:List Int}{n:Nat}(hl:1<=a.length/\a.length<=1000)(hn:2000<=n):∃v:Nat,LF a v/\YS n ⟨a,q⟩=some (v:Int):=by
  have key:∀(d i k:Nat),i+d=a.length->1<=i->(∀j,1<=j->j<i->a.getD j 0≠0)->d<k->∃r:Unit⊕Int,iterN (λ(s1:Int)=>if(decide (s1<(len a)))then(get? a s1).bind λx1=>if(x1==0)then some (.inr (.inr s1))else some (.inl ((w64 (s1+1))))else some (.inr (.inl ()))) k (i:Int)=some r/\((r= .inl ()/\LF a 0)\/∃v:Nat,r= .inr (v:Int)/\LF a v):=by
    intro d
    induction d with
    | zero=>
      intro i k hi h1 hp hk;have hd:decide ((i:Int)<len a)=false:=by simp_all[Za,decide_eq_false]
      exact⟨.inl (),Zr al O,.inl ⟨rfl,.inl ⟨rfl,λj hj hj'=>hp j hj O⟩⟩⟩
    | succ d ih=>
      intro i k hi h1 hp hk;obtain⟨k,rfl⟩:∃j,k=j+1:=⟨k-1,by omega⟩;have hd:decide ((i:Int)<len a)=true:=by grind[Za,decide_eq_true]
      have hg:get? a (i:Int)=some (a.getD i 0):=by grind[get?_nat,Ro]
      by_cases h0:a.getD i 0=0
      · exact⟨.inr (i:Int),Zr ah O,.inr ⟨i,rfl,.inr ⟨h1,by omega,h0,hp⟩⟩⟩
      · obtain⟨r,q1,q2⟩:=ih (i+1) k O O (λj hj hj'=>by
          by_cases e:j=i
          · subst e;exact h0
          · exact hp j hj O) O
        refine⟨r,?_,q2⟩
        rw[YB (s':=((i+1:Nat):Int)) (by
          simp only[hd,ZfR,hg,Zf9]
          rw[ZfD (by simpa using h0),Zb];rfl)]
        exact q1
  obtain⟨r,g1,g2⟩:=key (a.length-1) 1 n O O (λj hj hj'=>by omega) O;have G:∀z,r=z->YS n ⟨a,q⟩=(match z with|.inl _=>some 0|.inr v=>some v):=λz e=>by
    subst e;exact congrArg (λo=>Option.bind o (λ(rl1:Unit⊕Int)=>match rl1 with|.inl _=>some 0|.inr v=>some v)) g1
  rcases g2 with⟨e,h⟩|⟨v,e,h⟩
  · exact⟨0,h,G _ e⟩
  · exact⟨v,h,G _ e⟩
theorem ZdW{a:List Int}{n:Nat}{N:Int}(hN:N=(a.length:Int))(hl:1<=a.length/\a.length<=1000)(hn:2000<=n):∃v:Nat,LF a v/\iterN (λ(s1:Int)=>(if(decide (s1<N))then(get? a s1)else some default).bind λx2=>if((decide (s1<N))&&(x2 !=0))then some (.inl ((w64 (s1+1))))else some (.inr (s1))) n 1=some (if v=0 then N else(v:Int)):=by
  subst hN;have key:∀(d i k:Nat),i+d=a.length->1<=i->(∀j,1<=j->j<i->a.getD j 0≠0)->d<k->∃v:Nat,LF a v/\iterN (λ(s1:Int)=>(if(decide (s1<(a.length:Int)))then(get? a s1)else some default).bind λx2=>if((decide (s1<(a.length:Int)))&&(x2 !=0))then some (.inl ((w64 (s1+1))))else some (.inr (s1))) k (i:Int)=some (if v=0 then(a.length:Int)else(v:Int)):=by
    intro d
    induction d with
    | zero=>
      intro i k hi h1 hp hk;refine⟨0,.inl ⟨rfl,λj hj hj'=>hp j hj O⟩,?_⟩;simp_all[Zr]
    | succ d ih=>
      intro i k hi h1 hp hk;obtain⟨k,rfl⟩:∃j,k=j+1:=⟨k-1,by omega⟩;have hd:decide ((i:Int)<(a.length:Int))=true:=decide_eq_true O;have hg:get? a (i:Int)=some (a.getD i 0):=by simp_all[get?_nat,Ro]
      by_cases h0:a.getD i 0=0
      · refine⟨i,.inr ⟨h1,by omega,h0,hp⟩, ?_⟩
        rw[ifn];exact Zr (by simp only[hd,ZfR,hg,Zf9,Zgk];rw[ZfD (by rw[h0];decide)]) O
      · obtain⟨v,q1,q2⟩:=ih (i+1) k O O (λj hj hj'=>by
          by_cases e:j=i
          · subst e;exact h0
          · exact hp j hj O) O
        refine⟨v,q1,?_⟩
        rw[YB (s':=((i+1:Nat):Int)) (by
          simp only[hd,ZfR,hg,Zf9,Zgk]
          rw[ZfC (by simpa using h0),Zb];rfl)]
        exact q2
  exact key (a.length-1) 1 n O O (λj hj hj'=>by omega) O
end
end Go.Proofs.YtjhiajehpjpibaaGreatDoor.Sv
end
section
namespace Go.Proofs.YtjhiajehpjpibaaGreatDoor.Sv
open Go.GL
set_option maxRecDepth 100000
variable{fuel:Nat}[FV fuel]
theorem JN:∀(l l':List Int),l.length=l'.length->(∀i:Nat,l'[i]? =some (0:Int)->l[i]? =some (0:Int))->l'.count 0<=l.count 0
 |[],[],_,_=>ZfP _
 | x::l,y::l',h,hi=>by
  have ih:=JN l l' aA λi e=>by simpa using hi (i+1) (by simpa using e)
  by_cases hy:y=0
  ·have:x=0:=by simpa[hy]using hi 0
   simp_all
  grind
section
variable{f:D.Formula}{m:Nat}{occ:List (List Int)}{limit:Int}
def Eo{cs:List (List Int)}{v b:List Int}(hv:Asg m v)(h:Okc m cs (Sv m v) b):zer b<=zer v:=by
 refine JN v b (hv.len.trans h.asg.len.symm) λi hi=>?_;have hlt:i<b.length:=(ZfE.1 hi).1;rw[Ro (by rw[hv.len,<-h.asg.len];exact hlt)];congr 1;by_cases h0:i=0
 ·subst h0;exact hv.nul
 have hlen:=h.asg.len;have e:∀c:List Int,lv c (i:Int)=c.getD i 0:=λc=>by rfl
 have en:∀c:List Int,lv c (-(i:Int))=-c.getD i 0:=λc=>by simp_all[Qj]
 rcases hv.val i with h1|h1|h1
 ·have:=h.ext (-(i:Int)) ⟨⟨by omega,by omega⟩,by simp_all⟩;simp_all
 ·exact h1
 ·have:=h.ext (i:Int) ⟨⟨by omega,by omega⟩,by rw[e,h1]⟩;simp_all
noncomputable def lfr(a:List Int):Nat:=open Classical in if h:∃v,LF a v then h.choose else 0
def Zcj{a:List Int}{v:Nat}(h:LF a v):lfr a=v:=by
 have hx:∃v,LF a v:=⟨v,h⟩;unfold lfr;rw[dif_pos hx];exact hx.choose_spec.uniq h
noncomputable def srch(m:Nat)(cs:List (List Int))(limit:Int):Nat->List Int->Int->Int×List Int×Int
 |0,_,s=>(2,[],s)
 |d+1,a,s=>if lfr a=0 then(1,a,s)else if s=limit then(3,[],s)else
  let r:Int×List Int×Int:=match clo m cs (stA a (-(lfr a:Int)))with|none=>(2,[],s+1)|some b=>srch m cs limit d b (s+1)
  if r.1=2 then(match clo m cs (stA a (lfr a:Int))with|none=>(2,[],r.2.2)|some b=>srch m cs limit d b r.2.2)else r
noncomputable def brn(m:Nat)(cs:List (List Int))(limit:Int)(d:Nat)(v:List Int)(s:Int):Int×List Int×Int:=match clo m cs v with|none=>(2,[],s)|some b=>srch m cs limit d b s
def OH(m:Nat)(cs:List (List Int))(limit:Int)(d:Nat)(a:List Int)(s:Int):srch m cs limit (d+1) a s=if lfr a=0 then(1,a,s)else if s=limit then(3,[],s)else
  if(brn m cs limit d (stA a (-(lfr a:Int))) (s+1)).1=2 then brn m cs limit d (stA a (lfr a:Int)) (brn m cs limit d (stA a (-(lfr a:Int))) (s+1)).2.2 else brn m cs limit d (stA a (-(lfr a:Int))) (s+1):=by
 rfl
structure SOk(limit s:Int)(r:Int×List Int×Int):Prop where
 code:r.1=1\/r.1=2\/r.1=3
 nil:r.1≠1->r.2.1=[]
 lo:s<=r.2.2
 hi:r.2.2<=limit
theorem srch_ok(m:Nat)(cs:List (List Int))(limit:Int):∀(d:Nat)(a:List Int)(s:Int),s<=limit->SOk limit s (srch m cs limit d a s)
 |0,a,s,h=>⟨.inr (.inl rfl),λ_=>rfl,Zgm _,h⟩
 | d+1,a,s,h=>by
  have hb:∀v s',s'<=limit->SOk limit s' (brn m cs limit d v s'):=λv s' h'=>by
   unfold brn;cases clo m cs v with
   |none=>exact⟨.inr (.inl rfl),λ_=>rfl,Zgm _,h'⟩
   |some b=>exact srch_ok m cs limit d b s' h'
  rw[OH];by_cases c1:lfr a=0
  ·rw[ZfC c1];exact⟨.inl rfl,λh=>absurd rfl h,Zgm _,h⟩
  rw[ZfD c1];by_cases c2:s=limit
  ·rw[ZfC c2];exact⟨.inr (.inr rfl),λ_=>rfl,Zgm _,h⟩
  rw[ZfD c2];have h1:=hb (stA a (-(lfr a:Int))) (s+1) O;by_cases c3:(brn m cs limit d (stA a (-(lfr a:Int))) (s+1)).1=2
  ·rw[ZfC c3];have h2:=hb (stA a (lfr a:Int)) _ h1.hi;exact⟨h2.code,h2.nil,by have:=h1.lo;have:=h2.lo;omega,h2.hi⟩
  ·rw[ZfD c3];exact⟨h1.code,h1.nil,by have:=h1.lo;omega,h1.hi⟩
theorem FL(m:Nat)(cs:List (List Int))(limit:Int)(d:Nat)(v:List Int)(s:Int)(h:s<=limit):SOk limit s (brn m cs limit d v s):=by
 unfold brn;cases clo m cs v with
 |none=>exact⟨.inr (.inl rfl),λ_=>rfl,Zgm _,h⟩
 |some b=>simp_all[srch_ok]
def bls(a:List Int):List Bool:=(a.drop 1).map λx=>decide (x>0)
theorem bls_len{a:List Int}(h:Asg m a):(bls a).length=m:=by unfold bls;rw[ZhG,ZfX,h.len];rfl
theorem CW{a:List Int}(hA:Asg m a)(hm:m<=400){n:Nat}(hn:2000<=n):iterN (λ(s1:Int×(List Bool))=>if(decide (s1.1<(len (List.replicate m false))))then(get? a (w64 (s1.1+1))).bind λx3=>(set? s1.2 s1.1 (decide (x3>0))).bind λx4=>some (.inl ((w64 (s1.1+1)),x4))else some (.inr (s1.2))) n (0,List.replicate m false)=some (bls a):=by
  have hlen:=hA.len;have key:∀(d i k:Nat),i+d=m->d<k->iterN (λ(s1:Int×(List Bool))=>if(decide (s1.1<(len (List.replicate m false))))then(get? a (w64 (s1.1+1))).bind λx3=>(set? s1.2 s1.1 (decide (x3>0))).bind λx4=>some (.inl ((w64 (s1.1+1)),x4))else some (.inr (s1.2))) k ((i:Int),(bls a).take i++List.replicate d false)=some (bls a):=by
    intro d
    induction d with
    | zero=>
      intro i k hi hk;have hd:decide ((i:Int)<len (List.replicate m false))=false:=by simp_all[Za,Zg0,decide_eq_false]
      refine Zr ?_ O;simp only[hd,ZfB,ZfK];grind[List.take_of_length_le,bls_len]
    | succ d ih=>
      intro i k hi hk;obtain⟨k,rfl⟩:∃j,k=j+1:=⟨k-1,by omega⟩;have hd:decide ((i:Int)<len (List.replicate m false))=true:=by grind[Za,List.length_replicate,decide_eq_true]
      have e1:w64 ((i:Int)+1)=((i+1:Nat):Int):=by grind[Zb]
      have hil:i<(bls a).length:=by grind[bls_len]
      have e2:(bls a)[i]=decide (a.getD (i+1) 0>0):=by
        simp_all[bls,List.getElem_map,List.getElem_drop]<;>grind
      have hlt:((bls a).take i).length=i:=by rw[Zga];omega
      rw[YB (s':=(((i+1:Nat):Int),(bls a).take (i+1)++List.replicate d false)) (by
        simp only[hd,ZfR,e1];rw[get?_nat,Ro O];simp only[Zf9];unfold set?;rw[ZfC ⟨by omega,by rw[Zgr,ZfI,hlt,Zg0];omega⟩,Zgr]
        rw[ZgI _ _ O,hlt,Zhm,ZhA,Zht,ZfU hil,e2,ZfO];rfl)]
      exact ih (i+1) k O O
  exact key m 0 n O O
def DI{a:List Int}(hA:Asg m a){v:Nat}(h:LF a v)(h0:v≠0):isL m (v:Int)/\isL m (-(v:Int))/\lv a (v:Int)=0/\lv a (-(v:Int))=0:=by
 rcases h with⟨h1,_⟩|⟨h1,h2,h3,_⟩
 ·omega
 ·have:=hA.len;have e:lv a (v:Int)=0:=by simp_all[lv,ifn]
  exact⟨⟨by omega,by omega⟩,⟨by omega,by omega⟩,e,by simp_all[Qj]⟩
theorem Zfa(hf:FmP f m)(ho:OccP f m occ)(hl3:limit<=3000):∀(d:Nat)(a q:List Int)(s:Int)(mo:List Bool)(n:Nat),Asg m a->(∀c∈f.Clauses,good a c)->zer a<=d->4000000+d<=n->0<=s->s<=limit->
  Y4 n ⟨⟨f,occ⟩,limit,s,mo⟩ ⟨a,q⟩=some ((srch m f.Clauses limit d a s).1,⟨⟨f,occ⟩,limit,(srch m f.Clauses limit d a s).2.2,if(srch m f.Clauses limit d a s).1=1 then bls (srch m f.Clauses limit d a s).2.1 else mo⟩):=by
 intro d
 induction d with
 | zero=>
  intro a q s mo n hA hg hz
  have:0<zer a:=ZhW.2 (by
   have h1:=hA.nul;have h2:=Ro (a:=a) (i:=0) (by have:=hA.len;omega)
   grind)
  omega
 | succ d ih=>
  intro a q s mo n hA hg hz hn h0 hs;obtain⟨n,rfl⟩:∃k,n=k+1:=⟨n-1,by omega⟩;have hm:=hf.small;have hlen:=hA.len;obtain⟨v,hv,e1⟩:=ZdG (a:=a) (q:=q) (n:=n) O O;rw[Y4,e1,OH,Zcj hv];simp only[Zf9];by_cases c1:v=0
  ·rw[ZfC ah,ZfC c1];simp only[ZfR];rw[hf.vars,GZ O];grind[CW]
  ·rw [ZfD ah,ZfD c1]
   by_cases c2:s=limit
   ·simp_all
   ·rw [ZfD ah,ZfD c2]
    obtain⟨k1,k2,k3,k4⟩:=DI hA hv c1;have e3:w64 (0-(v:Int))=-(v:Int):=by have:=k1.2;grind[Zb]
    have e4:w64 (s+1)=s+1:=Zb;have one:∀(l:Int),isL m l->lv a l=0->∀(s':Int)(mo':List Bool),0<=s'->s'<=limit->
      ∃a' b,ZQ n ⟨f,occ⟩ ⟨a,q⟩ l=some (a',b)/\((b=false/\brn m f.Clauses limit d (stA a l) s'=(2,[],s'))\/(b=true/\Y4 n ⟨⟨f,occ⟩,limit,s',mo'⟩ a'=some ((brn m f.Clauses limit d (stA a l) s').1,⟨⟨f,occ⟩,limit,(brn m f.Clauses limit d (stA a l) s').2.2,if(brn m f.Clauses limit d (stA a l) s').1=1 then bls (brn m f.Clauses limit d (stA a l) s').2.1 else mo'⟩))):=λl hl hl0 s' mo' hs0 hs1=>by
     obtain⟨a',b,g1,g2⟩:=Za5 hf ho (n:=n) O (q:=q) hA hg hl hl0;refine⟨a',b,g1,?_⟩;rcases g2 with⟨rfl,g3,g4⟩|⟨rfl,g3⟩
     ·have hok:=PG g4;have hz1:=ND hA hl hl0;have hz2:=Eo (Kz hA hl) hok;refine .inr ⟨rfl,?_⟩;have:=ih a'.val a'.queue s' mo' n hok.asg hok.cl O O hs0 hs1;unfold brn;rw[g4];exact this
     ·exact .inl ⟨rfl,by grind[brn]⟩
    generalize hQ:(if(brn m f.Clauses limit d (stA a (-(v:Int))) (s+1)).1=2 then brn m f.Clauses limit d (stA a (v:Int)) (brn m f.Clauses limit d (stA a (-(v:Int))) (s+1)).2.2 else brn m f.Clauses limit d (stA a (-(v:Int))) (s+1))=Q;have hb1:=FL m f.Clauses limit d (stA a (-(v:Int))) (s+1) O;rw[e3,e4];obtain⟨k,rfl⟩:∃j,n=j+3:=⟨n-3,by omega⟩;generalize hR1:brn m f.Clauses limit d (stA a (-(v:Int))) (s+1)=R1 at*;obtain⟨a1,b1,g1,g2⟩:=one (-(v:Int)) k2 k4 (s+1) mo O O;rw[hR1]at g2;have hw:w64 1=1:=by decide
    have hw':w64 2=2:=by decide
    by_cases cc:b1=true/\R1.1≠2
    ·obtain⟨rfl,cc⟩:=cc;rcases g2 with⟨h,-⟩|⟨-,g3⟩
     ·cases h
     rw[Zr (r:=.inr (R1.1,⟨⟨f,occ⟩,limit,R1.2.2,if R1.1=1 then bls R1.2.1 else mo⟩)) (by
      show((ZQ (k+3) ⟨f,occ⟩ ⟨a,q⟩ (-(v:Int))).bind _)=_;rw[g1];simp only[Zf9,ZfJ,ZfB,ZfK];rw[g3];simp only[Zf9]
      rw[ZfC (by simpa using cc)]) O,<-hQ,ZfD cc]
     rfl
    have⟨s2,l1,l2,hs2,hq⟩:∃s2,0<=s2/\s2<=limit/\s2=(if b1=true then R1.2.2 else s+1)/\Q=brn m f.Clauses limit d (stA a (v:Int)) s2:=by
     rcases g2 with⟨rfl,g3⟩|⟨rfl,g3⟩
     ·exact⟨s+1,by omega,by omega,rfl,by rw[<-hQ,g3,ZfC rfl]⟩
     ·exact⟨R1.2.2,by have:=hb1.lo;omega,hb1.hi,rfl,by rw[<-hQ,ZfC (by simpa using cc)]⟩
    rw[YB (n:=k+2) (s':=(1,limit,s2,mo)) (by
     show((ZQ (k+3) ⟨f,occ⟩ ⟨a,q⟩ (-(v:Int))).bind _)=_;rw[g1];rcases g2 with⟨rfl,g3⟩|⟨rfl,g3⟩
     ·rw[hs2];rfl
     ·simp only[Zf9,ZfJ,ZfB,ZfK];rw[g3];have cc:R1.1=2:=by simpa using cc
      simp[cc,hs2,hw])]
    obtain⟨a2,b2,g4,g5⟩:=one (v:Int) k1 k3 s2 mo l1 l2;rw[hq];generalize brn m f.Clauses limit d (stA a (v:Int)) s2=R at*;rcases g5 with⟨rfl,g3⟩|⟨rfl,g3⟩
    ·rw[YB (n:=k+1) (s':=(2,limit,s2,mo)) (by
      show((ZQ (k+3) ⟨f,occ⟩ ⟨a,q⟩ (v:Int)).bind _)=_
      rw[g4];rfl),Zr (r:=.inl (limit,s2,mo)) rfl O,g3];rfl
    ·by_cases c:R.1=2
     ·rw[YB (n:=k+1) (s':=(2,limit,R.2.2,mo)) (by
       show((ZQ (k+3) ⟨f,occ⟩ ⟨a,q⟩ (v:Int)).bind _)=_;rw[g4];simp only[Zf9,ZfJ,ZfB,ZfK];rw[g3]
       simp[c,hw']),Zr (r:=.inl (limit,R.2.2,mo)) rfl O,c];rfl
     ·rw[Zr (r:=.inr (R.1,⟨⟨f,occ⟩,limit,R.2.2,if R.1=1 then bls R.2.1 else mo⟩)) (by
       show((ZQ (k+3) ⟨f,occ⟩ ⟨a,q⟩ (v:Int)).bind _)=_;rw[g4];simp only[Zf9,ZfJ,ZfB,ZfK];rw[g3];simp only[Zf9]
       rw[ZfC an]) O]
      rfl
end
end Go.Proofs.YtjhiajehpjpibaaGreatDoor.Sv
end
section
namespace Go.Proofs.YtjhiajehpjpibaaGreatDoor.Sv
open Go.GL
set_option maxRecDepth 100000
variable{fuel:Nat}[FV fuel]
section
variable{f:D.Formula}{m:Nat}{occ:List (List Int)}{limit:Int}
def Zcp{l:List Int}(h:l.length<=1000000):app? ([]:List Int) l=some l:=by
 simp_all[app?,room,ZfC]<;>grind
def Zfo{a:List Int}(hA:Asg m a){v:Nat}(h1:1<=v)(h2:v<=m):set? a (v:Int) (-1)=some (stA a (-(v:Int)))/\set? a (v:Int) 1=some (stA a (v:Int)):=by
 have:=hA.len;simp_all[Zgr,set?,stA,ZfC,ZhL,ZfD]<;>grind
theorem Zfh(hf:FmP f m)(hl3:limit<=3000):∀(d:Nat)(v:List Int)(s:Int)(n:Nat),Asg m v->zer v<=d->4000000+d<=n->0<=s->s<=limit->
  Zz n ⟨f,limit,s,false⟩ v=some ((brn m f.Clauses limit d v s).2.1,D.Prf.mk,(brn m f.Clauses limit d v s).1==1,⟨f,limit,(brn m f.Clauses limit d v s).2.2,(brn m f.Clauses limit d v s).1==3⟩):=by
 intro d
 induction d with
 | zero=>
  intro v s n hA hz
  have:0<zer v:=ZhW.2 (by
   have h1:=hA.nul;have h2:=Ro (a:=v) (i:=0) (by have:=hA.len;omega)
   grind)
  omega
 | succ d ih=>
  intro v s n hA hz hn h0 hs;obtain⟨n,rfl⟩:∃k,n=k+1:=⟨n-1,by omega⟩;have hm:=hf.small;have hvl:=hA.len;obtain⟨b,a,e1,e2⟩:=Za1 hf hA (n:=n) O;rw[Zz,e1];simp only[Zf9];rcases e2 with⟨rfl,e2⟩|⟨rfl,e2⟩;rotate_left
  ·simp_all[brn,ifp]
  have hb:brn m f.Clauses limit (d+1) v s=srch m f.Clauses limit (d+1) a s:=by grind[brn]
  have hok:=PG e2;have hza:=Eo hA hok;have hal:=hok.asg.len;rw[ifn,hb,OH];obtain⟨w,hw,e3⟩:=ZdW (a:=a) (n:=n) (N:=len v) ak O O;rw[e3,Zcj hw];simp only[Zf9];by_cases c1:w=0
  ·simp_all
  rw[ZfD c1];obtain⟨k1,k2,k3,k4⟩:=DI hok.asg hw c1;have hwm:1<=w/\w<=m:=by have:=k1.2;omega
  rw[ZfD aq,ZfD c1];by_cases c2:s=limit
  ·simp_all
  rw[ZfD ah,ZfD c2];have e4:w64 (s+1)=s+1:=Zb;obtain⟨t1,t2⟩:=Zfo hok.asg hwm.1 hwm.2;have one:∀(l:Int),isL m l->lv a l=0->∀s':Int,0<=s'->s'<=limit->Zz n ⟨f,limit,s',false⟩ (stA a l)=some ((brn m f.Clauses limit d (stA a l) s').2.1,D.Prf.mk,(brn m f.Clauses limit d (stA a l) s').1==1,⟨f,limit,(brn m f.Clauses limit d (stA a l) s').2.2,(brn m f.Clauses limit d (stA a l) s').1==3⟩):=λl hl hl0 s' hs0 hs1=>by
   have hz1:=ND hok.asg hl hl0;exact ih (stA a l) s' n (Kz hok.asg hl) O O hs0 hs1
  generalize hQ:(if(brn m f.Clauses limit d (stA a (-(w:Int))) (s+1)).1=2 then brn m f.Clauses limit d (stA a (w:Int)) (brn m f.Clauses limit d (stA a (-(w:Int))) (s+1)).2.2 else brn m f.Clauses limit d (stA a (-(w:Int))) (s+1))=Q;have hb1:=FL m f.Clauses limit d (stA a (-(w:Int))) (s+1) O;have ha0:=Zcp (l:=a) O;rw[e4];obtain⟨k,rfl⟩:∃j,n=j+3:=⟨n-3,by omega⟩;generalize hR1:brn m f.Clauses limit d (stA a (-(w:Int))) (s+1)=R1 at*;have g:=one (-(w:Int)) k2 k4 (s+1) O O;rw[hR1]at g;by_cases c:R1.1=2
  ·rw [YB (n:=k+2) (s':=(1,limit,R1.2.2,false,[D.Prf.mk])) (by
      show((app? ([]:List Int) a).bind λx4=>(set? x4 (w:Int) (-1)).bind λx5=>(Zz (k+3) (D.l03Work.mk f limit (s+1) false) x5).bind _)=_;rw[ha0];simp only[Zf9];rw[t1];simp only[Zf9];rw[g];simp only[Zf9]
      rw[ZfD (by rw[c];decide),show w64 (0+1)=1 by decide,c];rfl),<-hQ,ZfC c]
   have g:=one (w:Int) k1 k3 R1.2.2 (by have:=hb1.lo;omega) hb1.hi;have hk:=FL m f.Clauses limit d (stA a (w:Int)) R1.2.2 hb1.hi;generalize brn m f.Clauses limit d (stA a (w:Int)) R1.2.2=R at*;by_cases c:R.1=2
   ·rw[YB (n:=k+1) (s':=(2,limit,R.2.2,R.1==3,[D.Prf.mk,D.Prf.mk])) (by
      show((app? ([]:List Int) a).bind λx4=>(set? x4 (w:Int) 1).bind λx5=>(Zz (k+3) (D.l03Work.mk f limit R1.2.2 false) x5).bind _)=_;rw[ha0];simp only[Zf9];rw[t2];simp only[Zf9];rw[g];simp only[Zf9]
      rw[ZfD (by rw[c];decide),show w64 (1+1)=2 by decide];rfl),Zr (r:=.inl (limit,R.2.2,R.1==3,[D.Prf.mk,D.Prf.mk])) rfl O,hk.nil O,c];rfl
   ·rw[Zr (r:=.inr (R.2.1,D.Prf.mk,R.1==1,⟨f,limit,R.2.2,R.1==3⟩)) (by
      show((app? ([]:List Int) a).bind λx4=>(set? x4 (w:Int) 1).bind λx5=>(Zz (k+3) (D.l03Work.mk f limit R1.2.2 false) x5).bind _)=_;rw[ha0];simp only[Zf9];rw[t2];simp only[Zf9];rw[g];simp only[Zf9]
      rw[ZfC (by rcases hk.code with h|h|h<;>simp[h]at c⊢)]) O];rfl
  ·rw [Zr (r:=.inr (R1.2.1,D.Prf.mk,R1.1==1,⟨f,limit,R1.2.2,R1.1==3⟩)) (by
      show((app? ([]:List Int) a).bind λx4=>(set? x4 (w:Int) (-1)).bind λx5=>(Zz (k+3) (D.l03Work.mk f limit (s+1) false) x5).bind _)=_;rw[ha0];simp only[Zf9];rw[t1];simp only[Zf9];rw[g];simp only[Zf9]
      rw[ZfC (by rcases hb1.code with h|h|h<;>simp[h]at c⊢)]) O,<-hQ,ZfD c];rfl
end
end Go.Proofs.YtjhiajehpjpibaaGreatDoor.Sv
end
section
namespace Go.Proofs.YtjhiajehpjpibaaGreatDoor.Sv
open Go.GL
set_option maxRecDepth 100000
variable{fuel:Nat}[FV fuel]
section
variable{f:D.Formula}{m:Nat}{limit:Int}
noncomputable def serP(f:D.Formula)(m:Nat)(limit:Int):Int×List Bool×Int:=
 let r:=brn m f.Clauses limit (m+1) (List.replicate (m+1) 0) 0
 (r.1,if r.1=1 then bls r.2.1 else[],r.2.2)
def AZ{a:List Int}(hA:Asg m a):zer a<=m+1:=by
 have:=List.count_le_length (a:=(0:Int)) (l:=a);have:=hA.len;unfold zer;omega
def impl_search(hf:FmP f m)(h0:0<=limit)(hl3:limit<=3000){n:Nat}(hn:4002000<=n)(hk:WG n f=some true):Qc n f [] limit=some (serP f m limit):=by
 have hm:=hf.small;obtain⟨occ,e1,ho⟩:=CQ hf (n:=n) O;have e0:YN n [] f.Vars=some true:=by
  unfold YN;rw[Zr (r:=.inl ()) (by simp[len]) O];rfl
 have e2:X5 limit=some true:=by unfold X5;simp;omega
 unfold Qc;rw[hk];simp only[Zf9,ZfJ,ZfB,ZfK,Zgl,e0,e2,e1];obtain⟨a',b,g1,g2⟩:=start_eq hf ho (n:=n) O;unfold Ue serP brn;rw[g1];simp only[Zf9];rcases g2 with⟨rfl,g3,g4⟩|⟨rfl,g4⟩
 ·have hok:=PG g4;rw[ifn,g4];have:=Zfa hf ho hl3 (m+1) a'.val a'.queue 0 [] n hok.asg hok.cl (AZ hok.asg) O O h0;rw[show a'=⟨a'.val,a'.queue⟩from rfl,this];rfl
 ·rw[ifp,g4];rfl
theorem ZbD{a:List Int}(hA:Asg m a)(hm:m<=400){n:Nat}(hn:2000<=n):iterN (λ(s1:Int×(List Bool))=>if(decide (s1.1<(len (a.drop 1))))then(get? (a.drop 1) s1.1).bind λx7=>(app? s1.2 ([(decide (x7>0))]:List Bool)).bind λx8=>some (.inl ((w64 (s1.1+1)),x8))else some (.inr (s1.2))) n (0,([]:List Bool))=some (bls a):=by
  have hlen:=hA.len;have hd:(a.drop 1).length=m:=by rw[ZfX];omega
  have key:∀(d i k:Nat),i+d=m->d<k->iterN (λ(s1:Int×(List Bool))=>if(decide (s1.1<(len (a.drop 1))))then(get? (a.drop 1) s1.1).bind λx7=>(app? s1.2 ([(decide (x7>0))]:List Bool)).bind λx8=>some (.inl ((w64 (s1.1+1)),x8))else some (.inr (s1.2))) k ((i:Int),(bls a).take i)=some (bls a):=by
    intro d
    induction d with
    | zero=>
      intro i k hi hk;have hd':decide ((i:Int)<len (a.drop 1))=false:=by rw[Za,hd];exact decide_eq_false O
      refine Zr ?_ O;simp only[hd',ZfB,ZfK];rw[Zg4 (by rw[bls_len hA];omega)]
    | succ d ih=>
      intro i k hi hk;obtain⟨k,rfl⟩:∃j,k=j+1:=⟨k-1,by omega⟩;have hd':decide ((i:Int)<len (a.drop 1))=true:=by rw[Za,hd];exact decide_eq_true O
      have e1:w64 ((i:Int)+1)=((i+1:Nat):Int):=by rw[Zb];rfl
      have hil:i<(bls a).length:=by rw[bls_len hA];omega
      have hig:i<(a.drop 1).length:=by omega
      rw[YB (s':=(((i+1:Nat):Int),(bls a).take (i+1))) (by
        simp only[hd',ZfR,e1];rw[get?_nat,ZfA hig];simp only[Zf9];rw[AC (by rw[Zga];omega)];simp only[Zf9];rw[ZfU hil]
        simp only[bls,List.getElem_map])]
      exact ih (i+1) k O O
  exact key m 0 n O O
def ZaP(hm:m<=400){n:Nat}(hn:1<=n):Rs n (m:Int) []=some (List.replicate (m+1) 0,true):=by
 unfold Rs;rw[Zb,show((m:Int)+1)=((m+1:Nat):Int)from rfl,GZ O];simp only[Zf9];rw[Zr (r:=.inl (List.replicate (m+1) 0)) (by simp[len]) O];rfl
theorem Da{cs:List (List Int)}:∀(d:Nat)(a:List Int)(s:Int),Asg m a->(srch m cs limit d a s).1=1->Asg m (srch m cs limit d a s).2.1
 |0,_,_,_,h=>by simp[srch]at h
 | d+1,a,s,hA,h=>by
  have hb:∀(v:List Int)(s':Int),(brn m cs limit d v s').1=1->Asg m (brn m cs limit d v s').2.1:=λv s' h'=>by
   unfold brn at h'⊢;cases hc:clo m cs v with
   |none=>rw[hc]at h';simp at h'
   |some b=>rw[hc]at h';exact Da d b s' (PG hc).asg h'
  rw[OH]at h⊢;by_cases c1:lfr a=0
  ·rw[ZfC c1];exact hA
  rw[ZfD c1]at h⊢;by_cases c2:s=limit
  ·rw[ZfC c2]at h;simp at h
  rw[ZfD c2]at h⊢;by_cases c3:(brn m cs limit d (stA a (-(lfr a:Int))) (s+1)).1=2
  ·rw[ZfC c3]at h⊢;exact hb _ _ h
  ·rw[ZfD c3]at h⊢;exact hb _ _ h
theorem brn_asg{cs:List (List Int)}(d:Nat)(v:List Int)(s:Int)(h:(brn m cs limit d v s).1=1):Asg m (brn m cs limit d v s).2.1:=by
 unfold brn at h⊢;cases hc:clo m cs v with
 |none=>rw[hc]at h;simp at h
 |some b=>rw[hc]at h;exact Da d b s (PG hc).asg h
def spec_search(hf:FmP f m)(h0:0<=limit)(hl3:limit<=3000){n:Nat}(hn:4002000<=n)(hk:Ws n f=some true):Qa n f [] limit=some (serP f m limit):=by
 have hm:=hf.small;have e0:XZ n [] f.Vars=some true:=by
  unfold XZ;rw[Zr (r:=.inl ()) (by simp[len]) O];rfl
 have e2:Zc limit 0 3000=some true:=by unfold Zc;simp;omega
 unfold Qa;rw[hk];simp only[Zf9,ZfJ,ZfB,ZfK,Zgl,e0,e2];rw[hf.vars,ZaP hm O];simp only[Zf9,ZfJ,ZfB,ZfK];have hz:=Hw m;rw[Zfh hf hl3 (m+1) _ 0 n hz (AZ hz) O O h0];simp only[Zf9];unfold serP;have hb:=FL m f.Clauses limit (m+1) (List.replicate (m+1) 0) 0 h0;have hasg:(brn m f.Clauses limit (m+1) (List.replicate (m+1) 0) 0).1=1->Asg m (brn m f.Clauses limit (m+1) (List.replicate (m+1) 0) 0).2.1:=λh=>brn_asg _ _ _ h;generalize brn m f.Clauses limit (m+1) (List.replicate (m+1) 0) 0=R at*;dsimp only;by_cases c:R.1=1
 ·have hA:=hasg c;have hlen:=hA.len;rw[ZfD (by rw[c];decide),ZfC c,c];have e4:cut? R.2.1 1 (len R.2.1)=some (R.2.1.drop 1):=by
   unfold cut?;rw[Za,ifp,Zgr,ZgV];rfl
  rw[e4];simp only[Zf9];rw[ZbD hA hm O];rfl
 ·rw[ZfC an,ZfD c];rcases hb.code with h|h|h
  ·exact absurd h c
  ·rw[ZfD (by rw[h];decide),h]
  ·rw[ZfC (by rw[h];decide),h]
end
end Go.Proofs.YtjhiajehpjpibaaGreatDoor.Sv
end
