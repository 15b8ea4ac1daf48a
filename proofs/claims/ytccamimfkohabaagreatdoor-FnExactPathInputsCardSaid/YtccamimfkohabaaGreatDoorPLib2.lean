/- Texts of this claim put into one: library or plain laws, without the program under test. -/
import Derived.Test.YtccamimfkohabaaGreatDoorPLib1
import Derived.Test.YtccamimfkohabaaGreatDoorLib4
set_option linter.unusedSimpArgs false
set_option linter.unusedVariables false
set_option linter.defProp false
section
namespace Go.Proofs.YtccamimfkohabaaGreatDoor
open Go.GL
open Cc (BS LS CircP Grow GoodL Good litN lines negs seqP ifP opP net RelB FOk FU)
set_option maxRecDepth 100000
theorem Gj:∀{l:List D.Value}{a:Int},(∀v∈l,1<=v.W)->a+l.length<=(l.map (·.W)).foldl (· + ·) a
 |[],a,_=>by simp
 |v::l,a,h=>by
  have:=Gj (l:=l) (a:=a+v.W) λx hx=>h x (by simp[hx]);grind
def Te{c c':D.Circuit}{x:Int}(h:litN (lines c) x=true)(g:Grow c c'):litN (lines c') x=true:=Cc.litN_mono h g.lines
section
variable{n:Nat}[FU n]{s:BS}
def CQ{l:List Int}{m w:Nat}(h:m+w<=l.length)(hl:l.length<=1000):cut? l (m:Int) (w64 ((m:Int)+(w:Int)))=some ((l.drop m).take w):=by
 rw[Zb];unfold cut?;rw[Zei ⟨by omega,by omega,by omega⟩];have e1:((m:Int)+(w:Int)).toNat=m+w:=by omega
 rw[e1,ZeS,Zgy,Nat.add_sub_cancel_left]
theorem QJ{l m:List Int}(h:l.length+m.length<=1000):app? l m=some (l++m):=by unfold app?;rw[Zei av]
def g0{α:Type}{a:α}{l:List α}:get? (a::l) 0=some a:=rfl
def g1{α:Type}{a b:α}{l:List α}:get? (a::b::l) 1=some b:=rfl
def g2{α:Type}{a b c:α}{l:List α}:get? (a::b::c::l) 2=some c:=rfl
def Zb4{l:List Int}(h:1<=l.length)(h2:l.length<=1000):get? l (w64 (len l-1))=some (l.getD (l.length-1) 0):=by
 rw[Za,Zb,show(l.length:Int)-1=((l.length-1:Nat):Int) by omega,get?_nat,Cc.getD_get O]
end
section
variable{vs:List D.Value}(hp:vs.Pairwise λx y=>x.Name≠y.Name)(hw16:∀v∈vs,v.W<=16)
include hp hw16
theorem Zbj:∀(n:Nat)(t:D.Term)(s:BS),1048600+cnt t<=n->nodeB t=true->TV vs t->CircP s.1->VF vs s.1->Yc n (net s) t vs=some ((nP vs t s).1,net (nP vs t s).2):=by
 intro n
 induction n with
 |zero=>omega
 | succ n ih=>
  intro t s hn hb ht hs hv
  haveI:FU n:=⟨by omega⟩
  have hw:=Z9 hb;have hcn:=Xr t;have hlen:vs.length<=30:=by have:=Gj (l:=vs) (a:=0) hv.w1;have:=hv.sum;have:=hs.i1;omega
  have eW:((t.W.toNat:Nat):Int)=t.W:=by omega
  rw[Yc,Bv];by_cases h0:t.Op=0
  ·rw[Zei ag,Zei h0,<-eW,LY O];rfl
  rw[Zem ag,Zem h0];by_cases h22:t.Op=22
  ·rw[Zei ag,Zei h22,at_loop O (λv hv'=>⟨hv.w1 v hv',hw16 v hv'⟩)];simp only[Zee];have h1:=(Za1 (s:=t.Name) hv.w1 (a:=1));have h2:=PN (vs.map (·.W)) 1 0;rw[show(1:Int)+0=1 from rfl,hv.sum]at h2;rw[h2]at h1;have:=hs.i1;rw[<-eW,Zal O h1.1 O];rfl
  rw[Zem ag,Zem h22];have hkg:∀x∈t.Kids,∀s:BS,CircP s.1->VF vs s.1->GoodL s x.W.toNat (nP vs x s):=λx hx s' hs' hv'=>PS hp _ x s' (Zes _) (nodeK hb x hx) (Ow ht h22 hx) hs' hv';obtain⟨q1,q2,q3⟩:=Pw t.Kids s hkg hs hv;have hkl:t.Kids.length<=3:=by
   obtain⟨op,w,m,nm,ks⟩:=t;obtain⟨-,hsh⟩:=ZW hb;grind
  refine We (l:=t.Kids) (n:=n) (σ:=List (List Int)×BS) (λk a=>((k:Int),a.1,a.2.1.Inputs,a.2.2,a.2.1.Gates))
   (λys a=>a.1++(nPs vs ys a.2).1=(nPs vs t.Kids s).1/\(nPs vs ys a.2).2=(nPs vs t.Kids s).2/\CircP a.2.1/\VF vs a.2.1/\a.1.length+ys.length=t.Kids.length/\∀y∈ys,y∈t.Kids)
   (λr=>r=((nPs vs t.Kids s).1,(nPs vs t.Kids s).2.1.Inputs,(nPs vs t.Kids s).2.2,(nPs vs t.Kids s).2.1.Gates))
   (λk x xs a hk hx hlen'⟨h1,h2,h3,h4,h5,h6⟩=>by
    have hd:decide ((k:Int)<len t.Kids)=true:=by rw[Za];simp;omega
    have hxk:=h6 x U;have hc:=Wy hxk;have e:=ih x a.2 O (nodeK hb x hxk) (Ow ht h22 hxk) h3 h4;have e':Yc n (D.l04Net.mk (D.Circuit.mk a.2.1.Inputs a.2.1.Gates) a.2.2) x vs=_:=e;have g:=hkg x hxk a.2 h3 h4;simp only[Ze3]at h5;simp only[hd,Ze2,get?_nat,hx,Zee,e'];rw[show app? a.1 [(nP vs x a.2).1]=some (a.1++[(nP vs x a.2).1])from by unfold app?;rw[Zei (by simp;unfold room;omega)]];simp only[Zee];rw[Zb];rw[Ko]at h1 h2
    exact .inl ⟨(a.1++[(nP vs x a.2).1],(nP vs x a.2).2),rfl,by rw[<-h1];simp,h2,g.circ,h4.mono g.grow,by simp;omega,λy hy=>h6 y au⟩)
   (λa⟨h1,h2,h3,h4,h5,h6⟩=>by
    have hd:decide ((t.Kids.length:Int)<len t.Kids)=false:=by rw[Za];simp
    simp only[hd,Zeg,Zen];rw[CF]at h1 h2;simp only[ZeM]at h1
    exact⟨_,rfl,by rw[<-h1,<-h2]⟩) (a:=([],s)) ⟨by simp,rfl,hs,hv,by simp,λ_ h=>h⟩ O λr g2=>?_
  subst g2;clear ih hkg hv hs hkl eW hw hcn ht hn;generalize nPs vs t.Kids s=z at q1 q2 q3⊢;obtain⟨ls,s⟩:=z;have hs:=q1;have hk:=q3;clear q1 q2 q3;simp only at hs hk⊢;obtain⟨op,w,m,nm,ks⟩:=t;obtain⟨hw,hsh⟩:=ZW hb;simp only at h0 h22 hk⊢;have eW:((w.toNat:Nat):Int)=w:=by omega
  rcases hsh with⟨rfl,-⟩|⟨rfl,-⟩|⟨ho,-,-,a,rfl,ha,haw⟩|⟨h3,h16,-,-,a,b,rfl,ha,hb',hab,h13,h14⟩|⟨rfl,-,-,a,b,c,rfl,ha,hb',hc,ha1,hbw,hcw⟩|⟨rfl,-,-,a,b,rfl,ha,hb',habw⟩|⟨rfl,-,hm0,hm1,a,rfl,ha,haw⟩|⟨ho,-,-,a,rfl,ha,haw⟩
  ·exact absurd rfl h0
  ·exact absurd rfl h22
  ·obtain⟨la,r1,k1,hn1,rfl⟩:=KK1 hk;obtain rfl:=KK0 hn1;have hl:la.length=w.toNat:=by rw[k1.1,haw]
   rw[g0];simp only[Zee];unfold fin;simp only[Ze9];rcases ho with rfl|rfl
   ·rw[Zei ar,Zei aq,Cc.spec_not hs.lines1 O k1.2];rfl
   ·rw[ifn,Zei ar,ifn,Zei aq,<-eW,LY O,Kn];simp only[Zee,g0,g1,ZeS,Za,ZeT];by_cases c:w.toNat=16
    ·rw[Zei aa,Zei c,Cc.spec_fill O];rfl
    ·rw[Zem aa,Zem c];have:=Cc.spec_op (fuel:=n) hs (op:=4) (a:=List.replicate w.toNat (-1)) (b:=la) O (by simp[hl]) aa aa (Nb hs) k1.2;have this':Yt n (D.l04Net.mk (D.Circuit.mk s.1.Inputs s.1.Gates) s.2) (cond ((2:Int)==2) 4 2) (List.replicate w.toNat (-1)) la=_:=this;rw[this'];rfl
  ·obtain⟨la,r1,k1,hn1,rfl⟩:=KK1 hk;obtain⟨lb,r2,k2,hn2,rfl⟩:=KK1 hn1;obtain rfl:=KK0 hn2;have hA:=Z9 ha;unfold fin;simp only[Ze9,Zfl,g0,g1,Zee];have bb:∀k:Int,k<=2\/17<=k->(op==k)=false:=λk hk=>by simp;omega
   have cc:∀k:Int,k<=2\/17<=k->¬op=k:=λk hk=>by omega
   simp only[bb 1 O,bb 2 O,bb 17 O,bb 18 O,bb 19 O,bb 20 O,bb 21 O,cc 1 O,cc 2 O,cc 17 O,cc 18 O,cc 19 O,cc 20 O,cc 21 O,Zeg,Zen,cond_false];have hla:=k1.1;by_cases c:la.length=16
   ·rw[Zei ah,Zei c,<-eW,Cc.spec_fill O];simp only[ZeS];rfl
   ·rw[Zem ah,Zem c];have:=Cc.spec_op (fuel:=n) hs (op:=op) (a:=la) (b:=lb) ⟨h3,h16⟩ (by rw[k1.1,k2.1,hab]) O O k1.2 k2.2;have this':Yt n (D.l04Net.mk (D.Circuit.mk s.1.Inputs s.1.Gates) s.2) op la lb=_:=this;rw[this'];rfl
  ·obtain⟨la,r1,k1,hn1,rfl⟩:=KK1 hk;obtain⟨lb,r2,k2,hn2,rfl⟩:=KK1 hn1;obtain⟨lc,r3,k3,hn3,rfl⟩:=KK1 hn2;obtain rfl:=KK0 hn3;unfold fin;simp only[Ze9,Zfl,g0,g1,g2,Zee];rw[ifn,ifn,Zei ar];rw[ifn,ifn,Zei aq];have hla:=k1.1;have hlb:=k2.1;have hlc:=k3.1;rw[ha1]at hla;rw[hbw]at hlb;rw[hcw]at hlc;have hl1:la.length=1:=by simpa using hla
   have hg0:get? la 0=some (la.getD 0 0):=by
    obtain⟨z,hz⟩:=List.length_eq_one_iff.1 hl1;rw[hz];rfl
   have hc0:litN (lines s.1) (la.getD 0 0)=true:=k1.2 _ (Cc.getD_mem O);have hz:(lb.zip lc).length=w.toNat:=by rw[Zga,hlb,hlc,ZgF]
   rw[Cc.spec_seq (fuel:=n) hs O (Zbi hs hc0 k2.2 k3.2) (λj out s' x hx hc' hg hout=>?_) (λout s'=>?_)]
   ·rfl
   ·have hj:j<w.toNat:=by have:=(Zej.1 hx).1;omega
    have hz2:=Cc.zip_mem hx;have e:=Cc.spec_if (fuel:=n) hc' (Te hc0 hg) (Te (k2.2 _ (Zel hz2.1)) hg) (Te (k3.2 _ (Zel hz2.2)) hg);have e':ZJ n (D.l04Net.mk (D.Circuit.mk s'.1.Inputs s'.1.Gates) s'.2) (la.getD 0 0) x.1 x.2=_:=e;simp only;rw[Zei aa,hg0];simp only[Zee];rw[get?_nat,get?_nat,hz2.1,hz2.2];simp only[Zee,e'];rw[QJ aa];simp only[Zee];rw[Zb];rfl
   ·simp only;rw[Zem aa]
  ·obtain⟨la,r1,k1,hn1,rfl⟩:=KK1 hk;obtain⟨lb,r2,k2,hn2,rfl⟩:=KK1 hn1;obtain rfl:=KK0 hn2;have hA:=Z9 ha;have hB:=Z9 hb';have hla:=k1.1;have hlb:=k2.1;unfold fin;simp only[Ze9,Zfl,g0,g1,Zee];rw[ifn,ifn,ifn,Zei ar];rw[ifn,ifn,ifn,Zei aq];rw[QJ aa];simp only[Zee,ZfY];rw[QJ O];rfl
  ·obtain⟨la,r1,k1,hn1,rfl⟩:=KK1 hk;obtain rfl:=KK0 hn1;have hA:=Z9 ha;have hla:=k1.1;unfold fin;simp only[Ze9,g0,Zee];rw[ifn,ifn,ifn,ifn,Zei ar];rw[ifn,ifn,ifn,ifn,Zei aq];have:=CQ (l:=la) (m:=m.toNat) (w:=w.toNat) O O;rw[show((m.toNat:Nat):Int)=m by omega,eW]at this;rw[this];rfl
  ·obtain⟨la,r1,k1,hn1,rfl⟩:=KK1 hk;obtain rfl:=KK0 hn1;have hA:=Z9 ha;have hla:=k1.1;have e:w64 (w-len la)=((w.toNat-la.length:Nat):Int):=by rw[Za,Zb];omega
   unfold fin;simp only[Ze9,g0,Zee];rcases ho with rfl|rfl
   ·rw[ifn,ifn,ifn,ifn,ifn,Zei ar];rw[ifn,ifn,ifn,ifn,ifn,Zei aq];rw[QJ aa,e,Cc.spec_fill O];simp only[Zee,ZfY];rw[QJ aa];rfl
   ·rw[ifn,ifn,ifn,ifn,ifn,ifn,Zei ar];rw[ifn,ifn,ifn,ifn,ifn,ifn,Zei aq];rw[QJ aa,Zb4 O O];simp only[Zee,ZfY];rw[e,Cc.spec_fill O];simp only[Zee];rw[QJ aa];rfl
end
def wide1(t:D.Term):Bool:=(t.Op==2||decide (3<=t.Op/\t.Op<=16))&&(match t.Kids with|a::_=>a.W==16|[]=>false)
mutual
def wideB:D.Term->Bool
 |⟨op,w,m,nm,ks⟩=>wide1 ⟨op,w,m,nm,ks⟩||wideBs ks
def wideBs:List D.Term->Bool
 |[]=>false
 |t::l=>wideB t||wideBs l
end
def QX(t:D.Term):wideB t=(wide1 t||wideBs t.Kids):=by cases t;rw[wideB]
def Ph(t:D.Term)(l:List D.Term):wideBs (t::l)=(wideB t||wideBs l):=by rw[wideBs]
def Qx:wideBs []=false:=by rw[wideBs]
theorem KL{x:D.Term}:∀{l:List D.Term},wideBs l=false->x∈l->wideB x=false
 |y::l,h,hx=>by
  rw[Ph,ZfP]at h;rcases ZeR.1 hx with rfl|hx
  ·exact h.1
  ·exact KL h.2 hx
theorem Zag:∀(n:Nat)(t:D.Term),1048600+cnt t<=n->nodeB t=true->WM n t=some (wideB t):=by
 intro n
 induction n with
 |zero=>intro t h;omega
 | succ n ih=>
  intro t hn hb;have hcn:=Xr t;have hkl:t.Kids.length<=3:=by
   obtain⟨op,w,m,nm,ks⟩:=t;obtain⟨-,hsh⟩:=ZW hb;rcases hsh with⟨-,rfl,-⟩|⟨-,rfl,-⟩|⟨-,-,-,a,rfl,-⟩|⟨-,-,-,-,a,b,rfl,-⟩|⟨-,-,-,a,b,c,rfl,-⟩|⟨-,-,-,a,b,rfl,-⟩|⟨-,-,-,-,a,rfl,-⟩|⟨-,-,-,a,rfl,-⟩<;>simp
  have hone:((if(t.Op==2)then some default else(YP t.Op)).bind λx1=>(if((t.Op==2)||x1)then(get? t.Kids 0)else some default).bind λx2=>some (((t.Op==2)||x1)&&(x2.W==16)))=some (wide1 t):=by
   have hk:(t.Op=2\/3<=t.Op/\t.Op<=16)->∃a l,t.Kids=a::l:=λho=>by
    obtain⟨op,w,m,nm,ks⟩:=t;obtain⟨-,hsh⟩:=ZW hb;simp only at ho;rcases hsh with⟨rfl,-⟩|⟨rfl,-⟩|⟨-,-,-,a,rfl,-⟩|⟨-,-,-,-,a,b,rfl,-⟩|⟨rfl,-⟩|⟨rfl,-⟩|⟨rfl,-⟩|⟨h1,-⟩
    ·omega
    ·omega
    ·exact⟨_,_,rfl⟩
    ·exact⟨_,_,rfl⟩
    ·omega
    ·omega
    ·omega
    ·omega
   unfold wide1 YP;by_cases h2:t.Op=2
   ·obtain⟨a,l,hl⟩:=hk (.inl h2);simp[h2,hl,g0]
   ·have b2:(t.Op==2)=false:=by simpa using h2
    by_cases h3:3<=t.Op/\t.Op<=16
    ·obtain⟨a,l,hl⟩:=hk (.inr h3);simp[b2,hl,g0,h3]
    ·have:¬(t.Op>=3/\t.Op<=16):=h3;have e:(decide (t.Op>=3)&&decide (t.Op<=16))=false:=by simp;omega
     simp[b2,e,h3]
  rw[WM,QX];obtain⟨y1,hy1,hone⟩:=ZeV.1 hone;obtain⟨y2,hy2,hone⟩:=ZeV.1 hone;rw[hy1];simp only[Zee];rw[hy2];simp only[Zee];rw[Option.some.inj hone];cases hw1:wide1 t
  ·simp only[Zeg,Zen,ZeN];refine We (l:=t.Kids) (n:=n) (σ:=Unit) (λk _=>(k:Int)) (λys _=>wideBs ys=wideBs t.Kids/\∀y∈ys,y∈t.Kids) (λr=>r=if wideBs t.Kids=true then(.inr true:Unit⊕Bool)else .inl ())
    (λk x xs a hk hx hlen⟨h1,h2⟩=>by
     have hd:decide ((k:Int)<len t.Kids)=true:=by rw[Za];simp;omega
     have hxk:=h2 x U;have hc:=Wy hxk;simp only[hd,Ze2,get?_nat,hx,Zee,ih x O (nodeK hb x hxk)];rw[Ph]at h1;cases hx':wideB x
     ·rw[hx']at h1;simp only[ZeN]at h1;simp only[Zeg,Zen];exact .inl ⟨(),by rw[Zb];rfl,h1,λy hy=>h2 y au⟩
     ·rw[hx']at h1;simp only[Zgs]at h1
      exact .inr ⟨_,rfl,by rw[<-h1];rfl⟩)
    (λa⟨h1,_⟩=>by
     have hd:decide ((t.Kids.length:Int)<len t.Kids)=false:=by rw[Za];simp
     simp only[hd,Zeg,Zen];rw[Qx]at h1
     exact⟨_,rfl,by rw[<-h1];rfl⟩) (a:=()) ⟨rfl,λ_ h=>h⟩ O λr g2=>?_
   rw[g2];cases wideBs t.Kids<;>rfl
  ·rfl
theorem Fv {n:Nat}{x:Int}{w:Nat}(hw:w<=16):∀(d:Nat)(l:List Int),l.length+d=w->d<n->iterN (λ(s3:(List Int))=>if(decide ((len s3)<(w:Int)))then(app? s3 ([x]:List Int)).bind λx24=>some (.inl (x24))else some (.inr (s3))) n l=some (l++List.replicate d x)
  | 0,l,h,hn=>by
    obtain⟨n,rfl⟩:∃j,n=j+1:=⟨n-1,by omega⟩;rw[iterN];rw[Zem ah];simp
  | d+1,l,h,hn=>by
    obtain⟨n,rfl⟩:∃j,n=j+1:=⟨n-1,by omega⟩;rw[iterN];rw[Zei ah,QJ aa];simp only[Zee];rw[Fv hw d (l++[x]) aa O];rw[Zez,ZeW,<-Zgn]
def MapOk(vs:List D.Value)(mp:List (Str×List Int)):Prop:=∀v∈vs,v.Name.bytes.length<=1000/\(mp.lookup v.Name).getD []=varL vs v.Name v.W.toNat
section
variable{vs:List D.Value}(hp:vs.Pairwise λx y=>x.Name≠y.Name){mp:List (Str×List Int)}(hmp:MapOk vs mp)
include hp hmp
theorem Zb7:∀(n:Nat)(t:D.Term)(s:BS)(m:D.builder),1048600+cnt t<=n->nodeB t=true->wideB t=false->TV vs t->CircP s.1->VF vs s.1->RelB m s->∃m',ZM n m t (some mp)=some ((nP vs t s).1,m')/\RelB m' (nP vs t s).2:=by
  intro n
  induction n with
  |zero=>omega
  | succ n ih=>
    intro t s m hn hb hwd ht hs hv hm
    haveI:FU n:=⟨by omega⟩
    have hw:=Z9 hb;have hcn:=Xr t;have eW:((t.W.toNat:Nat):Int)=t.W:=by omega
    rw[QX,ZfP]at hwd;rw[ZM,Bv];by_cases h0:t.Op=0
    · rw[Zei ag,Zei h0,<-eW,KU O]
      simp_all
    rw[Zem ag,Zem h0];by_cases h22:t.Op=22
    · rw[Zei ag,Zei h22]
      obtain⟨v,hv1,hv2,hv3⟩:=ht (t.Name,t.W) (by simp_all[Re,Zei]);simp only at hv2 hv3;obtain⟨q1,q2⟩:=hmp v hv1;rw[hv2]at q1 q2;rw[hv3]at q2;have e:mgeto? fitS ([]:List Int) (some mp) t.Name=some (varL vs t.Name t.W.toNat):=by
        simp_all[mgeto?,mget?,Zei,fitS]<;>grind
      grind[Zi,varL,QJ,FO]
    rw[Zem (by simpa using h22),Zem h22];have hkg:∀x∈t.Kids,∀s:BS,CircP s.1->VF vs s.1->GoodL s x.W.toNat (nP vs x s):=λx hx s' hs' hv'=>PS hp _ x s' (Zes _) (nodeK hb x hx) (Ow ht h22 hx) hs' hv';obtain⟨q1,q2,q3⟩:=Pw t.Kids s hkg hs hv;have hkl:t.Kids.length<=3:=by
      obtain⟨op,w,m,nm,ks⟩:=t;obtain⟨-,hsh⟩:=ZW hb;rcases hsh with⟨-,rfl,-⟩|⟨-,rfl,-⟩|⟨-,-,-,a,rfl,-⟩|⟨-,-,-,-,a,b,rfl,-⟩|⟨-,-,-,a,b,c,rfl,-⟩|⟨-,-,-,a,b,rfl,-⟩|⟨-,-,-,-,a,rfl,-⟩|⟨-,-,-,a,rfl,-⟩<;>simp
    rw[show mk? (len t.Kids) (([]:List Int):List Int)=some (List.replicate t.Kids.length [])from by rw[Za];unfold mk?;rw[Zei ⟨by omega,by unfold room;omega⟩];simp];simp only[Zee];obtain⟨r,g1,m',rfl,g2⟩:=Wx (l:=t.Kids) (n:=n) (σ:=List (List Int)×D.builder) (ρ:=Int×Bool×(List D.Gate)×(List (D.Gate×Int))×(List (List Int))) (B:=λ(s1:Int×Int×Bool×(List D.Gate)×(List (D.Gate×Int))×(List (List Int)))=>if(decide (s1.1<(len t.Kids)))then(get? t.Kids s1.1).bind λx5=>(ZM n (D.builder.mk (D.Circuit.mk s1.2.1 s1.2.2.2.1) s1.2.2.2.2.1 s1.2.2.1) x5 (some mp)).bind λx6=>(set? s1.2.2.2.2.2 s1.1 x6.1).bind λx7=>some (.inl ((w64 (s1.1+1)),x6.2.c.Inputs,x6.2.full,x6.2.c.Gates,x6.2.line,x7))else some (.inr (s1.2.1,s1.2.2.1,s1.2.2.2.1,s1.2.2.2.2.1,s1.2.2.2.2.2))) (λk a=>((k:Int),a.2.c.Inputs,a.2.full,a.2.c.Gates,a.2.line,a.1))
      (λys a=>∃(pre:List (List Int))(s':BS),a.1=pre++List.replicate ys.length []/\pre++(nPs vs ys s').1=(nPs vs t.Kids s).1/\(nPs vs ys s').2=(nPs vs t.Kids s).2/\RelB a.2 s'/\CircP s'.1/\VF vs s'.1/\pre.length+ys.length=t.Kids.length/\∀y∈ys,y∈t.Kids)
      (λr=>∃m':D.builder,r=(m'.c.Inputs,m'.full,m'.c.Gates,m'.line,(nPs vs t.Kids s).1)/\RelB m' (nPs vs t.Kids s).2)
      (λk x xs a hk hx hlen'⟨pre,s',h0,h1,h2,hr,h3,h4,h5,h6⟩=>by
        have hd:decide ((k:Int)<len t.Kids)=true:=by rw[Za];simp;omega
        have hxk:=h6 x U;have hc:=Wy hxk;obtain⟨m1,e,r1⟩:=ih x s' a.2 O (nodeK hb x hxk) (KL hwd.2 hxk) (Ow ht h22 hxk) h3 h4 hr;have e':ZM n (D.builder.mk (D.Circuit.mk a.2.c.Inputs a.2.c.Gates) a.2.line a.2.full) x (some mp)=_:=e;have g:=hkg x hxk s' h3 h4;simp only[Ze3]at h5 hlen';have hpk:pre.length=k:=by omega
        have hset:set? a.1 (k:Int) (nP vs x s').1=some ((pre++[(nP vs x s').1])++List.replicate xs.length []):=by
          rw[h0,set?_nat aa,Zfq _ _ O,hpk,ZfD,Ze3,Zgn,ZfF,Zez,ZeW]
        simp only[hd,Ze2,get?_nat,hx,Zee,e',hset];rw[Zb];rw[Ko]at h1 h2
        exact .inl ⟨((pre++[(nP vs x s').1])++List.replicate xs.length [],m1),rfl,pre++[(nP vs x s').1],(nP vs x s').2,rfl,by rw[<-h1];simp,h2,r1,g.circ,h4.mono g.grow,by simp;omega,λy hy=>h6 y au⟩)
      (λa⟨pre,s',h0,h1,h2,hr,h3,h4,h5,h6⟩=>by
        have hd:decide ((t.Kids.length:Int)<len t.Kids)=false:=by rw[Za];simp
        simp only[hd,Zeg,Zen];rw[CF]at h1 h2;simp only[ZeM,Zf4,List.replicate_zero]at h1 h0
        exact⟨_,rfl,a.2,by rw[h0,h1],by rw[<-h2];exact hr⟩) (a:=(List.replicate t.Kids.length [],m)) ⟨[],s,by simp,by simp,rfl,hm,hs,hv,by simp,λ_ h=>h⟩ O
    rw[show((0:Nat):Int)=0 from rfl]at g1;rw[show((List.replicate t.Kids.length ([]:List Int),m).2)=m from rfl,show((List.replicate t.Kids.length ([]:List Int),m).1)=List.replicate t.Kids.length []from rfl]at g1;rw[g1];simp only[Zee]
    replace hwd:=hwd.1
    clear ih hkg g1 hv hs hkl eW hw hcn ht hn hm m
    rename D.builder=>m
    generalize nPs vs t.Kids s=z at q1 q2 q3 g2⊢;obtain⟨ls,s⟩:=z;have hs:=q1;have hk:=q3;have hm:=g2;clear q1 q2 q3 g2;simp only at hs hk hm⊢;obtain⟨op,w,mm,nm,ks⟩:=t;obtain⟨hw,hsh⟩:=ZW hb;simp only at h0 h22 hk⊢;have eW:((w.toNat:Nat):Int)=w:=by omega
    rcases hsh with⟨rfl,-⟩|⟨rfl,-⟩|⟨ho,-,-,a,rfl,ha,haw⟩|⟨h3,h16,-,-,a,b,rfl,ha,hb',hab,h13,h14⟩|⟨rfl,-,-,a,b,c,rfl,ha,hb',hc,ha1,hbw,hcw⟩|⟨rfl,-,-,a,b,rfl,ha,hb',habw⟩|⟨rfl,-,hm0,hm1,a,rfl,ha,haw⟩|⟨ho,-,-,a,rfl,ha,haw⟩
    · exact absurd rfl h0
    · exact absurd rfl h22
    · obtain⟨la,r1,k1,hn1,rfl⟩:=KK1 hk
      obtain rfl:=KK0 hn1;have hl:la.length=w.toNat:=by rw[k1.1,haw]
      rw[g0];simp only[Zee];unfold fin;simp only[Ze9];rcases ho with rfl|rfl
      · rw[Zei ar,Zei aq,Cc.impl_opp hs.lines1 O k1.2]
        exact⟨m,rfl,hm⟩
      · have hne:¬w.toNat=16:=λe=>by
          have:a.W=16:=by omega
          simp[wide1,this]at hwd
        rw[ifn,Zei ar,ifn,Zei aq,<-eW,KU O,Kn];simp only[Zee,ZeS];rw[Zem hne];obtain⟨m',e,r⟩:=Cc.impl_op (fuel:=n) hs (op:=4) (a:=List.replicate w.toNat (-1)) (b:=la) O (by simp[hl]) aa aa (Nb hs) k1.2 hm;have e':ZT n (D.builder.mk (D.Circuit.mk m.c.Inputs m.c.Gates) m.line m.full) 4 (List.replicate w.toNat (-1)) la=_:=e;rw[e'];exact⟨m',rfl,r⟩
    · obtain⟨la,r1,k1,hn1,rfl⟩:=KK1 hk
      obtain⟨lb,r2,k2,hn2,rfl⟩:=KK1 hn1;obtain rfl:=KK0 hn2;have hA:=Z9 ha;have hla:=k1.1;have hne:¬la.length=16:=λe=>by
        have:a.W=16:=by omega
        simp[wide1,this]at hwd;omega
      unfold fin;simp only[Ze9,Zfl,g0,g1,Zee];have bb:∀k:Int,k<=2\/17<=k->(op==k)=false:=λk hk=>by simp;omega
      have cc:∀k:Int,k<=2\/17<=k->¬op=k:=λk hk=>by omega
      simp only[bb 1 O,bb 2 O,bb 17 O,bb 18 O,bb 19 O,bb 20 O,bb 21 O,cc 1 O,cc 2 O,cc 17 O,cc 18 O,cc 19 O,cc 20 O,cc 21 O,Zeg,Zen,Zf9];rw[Zem hne];obtain⟨m',e,r⟩:=Cc.impl_op (fuel:=n) hs (op:=op) (a:=la) (b:=lb) ⟨h3,h16⟩ (by rw[k1.1,k2.1,hab]) O O k1.2 k2.2 hm;have e':ZT n (D.builder.mk (D.Circuit.mk m.c.Inputs m.c.Gates) m.line m.full) op la lb=_:=e;rw[e'];exact⟨m',rfl,r⟩
    · obtain⟨la,r1,k1,hn1,rfl⟩:=KK1 hk
      obtain⟨lb,r2,k2,hn2,rfl⟩:=KK1 hn1;obtain⟨lc,r3,k3,hn3,rfl⟩:=KK1 hn2;obtain rfl:=KK0 hn3;unfold fin;simp only[Ze9,Zfl,g0,g1,g2,Zee];rw[ifn,ifn,Zei ar];rw[ifn,ifn,Zei aq];have hla:=k1.1;have hlb:=k2.1;have hlc:=k3.1;rw[ha1]at hla;rw[hbw]at hlb;rw[hcw]at hlc;have hl1:la.length=1:=by simpa using hla
      have hg0:get? la 0=some (la.getD 0 0):=by
        obtain⟨z,hz⟩:=List.length_eq_one_iff.1 hl1;rw[hz];rfl
      have hc0:litN (lines s.1) (la.getD 0 0)=true:=k1.2 _ (Cc.getD_mem O);have hz:(lb.zip lc).length=w.toNat:=by rw[Zga,hlb,hlc,ZgF]
      rw[show mk? w (0:Int)=some (List.replicate w.toNat 0)from by unfold mk?;rw[Zei ⟨by omega,by unfold room;omega⟩]];simp only[Zee];refine Cc.ex_pair (Cc.seqE (λj L m=>((j:Int),L,m.c.Inputs,m.full,m.c.Gates,m.line)) (λL m=>(L,m.c.Inputs,m.full,m.c.Gates,m.line)) hs O (Zbi hs hc0 k2.2 k3.2) (L0:=List.replicate w.toNat 0) (by rw[hz,ZeT]) (λj L m1 s' x hx hc' hg hr hL _=>?_) (λL m1=>?_) hm λm' r=>⟨_,rfl,m',rfl,r⟩)
      · have hj:j<w.toNat:=by have:=(Zej.1 hx).1;omega
        have hz2:=Cc.zip_mem hx;obtain⟨m4,e4,r4⟩:=Cc.iif hc' (Te hc0 hg) (Te (k2.2 _ (Zel hz2.1)) hg) (Te (k3.2 _ (Zel hz2.2)) hg) hr;refine⟨m4,?_,r4⟩;simp only;rw[Zei ah,hg0];simp only[Zee];rw[get?_nat,get?_nat,hz2.1,hz2.2];simp only[Zee]
        erw [e4]
        simp only[Zee];rw[set?_nat O];simp only[Zee];rw[Zb];rfl
      · simp only
        rw[Zem ah]
    · obtain⟨la,r1,k1,hn1,rfl⟩:=KK1 hk
      obtain⟨lb,r2,k2,hn2,rfl⟩:=KK1 hn1;obtain rfl:=KK0 hn2;have hA:=Z9 ha;have hB:=Z9 hb';have hla:=k1.1;have hlb:=k2.1;unfold fin;simp only[Ze9,Zfl,g0,g1,Zee];rw[ifn,ifn,ifn,Zei ar];rw[ifn,ifn,ifn,Zei aq];rw[QJ O];exact⟨m,rfl,hm⟩
    · obtain⟨la,r1,k1,hn1,rfl⟩:=KK1 hk
      obtain rfl:=KK0 hn1;have hA:=Z9 ha;have hla:=k1.1;unfold fin;simp only[Ze9,g0,Zee];rw[ifn,ifn,ifn,ifn,Zei ar];rw[ifn,ifn,ifn,ifn,Zei aq];have:=CQ (l:=la) (m:=mm.toNat) (w:=w.toNat) O O;rw[show((mm.toNat:Nat):Int)=mm by omega,eW]at this;rw[this];exact⟨m,rfl,hm⟩
    · obtain⟨la,r1,k1,hn1,rfl⟩:=KK1 hk
      obtain rfl:=KK0 hn1;have hA:=Z9 ha;have hla:=k1.1;have hpad:∀x:Int,_:=λx=>Fv (n:=n) (x:=x) (w:=w.toNat) O (w.toNat-la.length) la O (by have:=FU.le (n:=n);omega);rw[eW]at hpad;unfold fin;simp only[Ze9,g0,Zee];rcases ho with rfl|rfl
      · rw[ifn,ifn,ifn,ifn,ifn,Zei ar,ifn]
        rw[ifn,ifn,ifn,ifn,ifn,Zei aq];rw[hpad];exact⟨m,rfl,hm⟩
      · rw[ifn,ifn,ifn,ifn,ifn,Zei ar,Zei ar]
        rw[ifn,ifn,ifn,ifn,ifn,ifn,Zei aq];rw[Zb4 O O];simp only[Zee];rw[hpad];exact⟨m,rfl,hm⟩
end
open Cc (BS LS CircP Grow GoodL Good litN lines negs seqP ifP opP net RelB FOk FU andP orP xorP addP accP mulK divK shP shK)
def RL{s:BS}{a b:Int}(h:s.2=true):(andP s a b).2.2=true:=by
 unfold andP;split
 ·exact h
 split
 ·exact h
 split
 ·exact h
 split
 ·exact h
 split
 ·rfl
 ·exact h
def Ez{s:BS}{a b:Int}(h:s.2=true):(orP s a b).2.2=true:=RL h
def IX{s:BS}{a b:Int}(h:s.2=true):(xorP s a b).2.2=true:=Ez (RL (RL h))
def Co{s:BS}{c a b:Int}(h:s.2=true):(ifP s c a b).2.2=true:=Ez (RL (RL h))
theorem ZbZ{α:Type}{f:BS->α->Int×BS}(hf:∀s x,s.2=true->(f s x).2.2=true):∀{l:List α}{t:LS},t.2.2=true->(l.foldl (λt x=>(t.1++[(f t.2 x).1],(f t.2 x).2)) t).2.2=true
 |[],t,h=>h
 |x::l,t,h=>ZbZ hf (l:=l) (t:=(t.1++[(f t.2 x).1],(f t.2 x).2)) (hf _ _ h)
def Rx{α:Type}{f:BS->α->Int×BS}(hf:∀s x,s.2=true->(f s x).2.2=true){l:List α}{s:BS}(h:s.2=true):(seqP f s l).2.2=true:=ZbZ hf (t:=([],s)) h
theorem CY{α:Type}{f:BS->Int->α->Int×BS}(hf:∀s c x,s.2=true->(f s c x).2.2=true):∀{l:List α}{s:BS}{c:Int},s.2=true->(accP f s c l).2.2=true:=by
 have:∀{l:List α}{t:Int×BS},t.2.2=true->(l.foldl (λt x=>f t.2 t.1 x) t).2.2=true:=λ{l}=>by
  induction l with
  |nil=>intro t h;exact h
  |cons x l ih=>intro t h;exact ih (hf _ _ _ h)
 exact λ{l s c}h=>this (t:=(c,s)) h
theorem Mc{s:BS}{a b:List Int}{c:Int}(h:s.2=true):(addP s a b c).2.2.2=true:=by
 have:∀{l:List (Int×Int)}{t:Cc.AS},t.2.2.2=true->(l.foldl Cc.addStep t).2.2.2=true:=λ{l}=>by
  induction l with
  |nil=>intro t h;exact h
  |cons x l ih=>intro t h;exact ih (Ez (RL (RL (IX (IX h)))))
 exact this (t:=([],c,s)) h
theorem Zcn{s:BS}{a b:List Int}(h:s.2=true):∀k,(mulK s a b k).2.2=true
 |0=>h
 |k+1=>by rw[Cc.mulK_succ];exact Mc (Rx (λs x h=>RL h) (Zcn h k))
theorem EE{s:BS}{a b:List Int}(h:s.2=true):∀k,(divK s a b k).2.2.2=true
 |0=>h
 |k+1=>by rw[Cc.divK_succ];exact Rx (λs x h=>Co h) (Mc (EE h k))
theorem ZaE{s:BS}{a b:List Int}{L:Bool}{fill:Int}(h:s.2=true):∀k,(shK s a b L fill k).2.2=true
 |0=>h
 |k+1=>by rw[Cc.shK_succ];exact Rx (λs x h=>Co h) (ZaE h k)
def ZaC{s:BS}{a b:List Int}{L:Bool}{fill:Int}(h:s.2=true):(shP s a b L fill).2.2=true:=Rx (λs x h=>Co h) (CY (λs c x h=>Ez h) (ZaE h _))
def Ww{c:Prop}[Decidable c]{x y:LS}(h1:x.2.2=true)(h2:y.2.2=true):(if c then x else y).2.2=true:=by split<;>assumption
def ZdY{s:BS}{op:Int}{a b:List Int}(h:s.2=true):(opP s op a b).2.2=true:=by
 unfold opP;exact Ww (Mc h) (Ww (Mc h) (Ww (Zcn h _) (Ww (EE h _) (Ww (EE h _) (Ww (Rx (λs x h=>RL h) h) (Ww (Rx (λs x h=>Ez h) h) (Ww (Rx (λs x h=>IX h) h) (Ww (ZaC h) (Ww (ZaC h) (Ww (ZaC h) (Ww (CY (λs c x h=>RL (IX h)) h) (Ww (Mc h) (Mc h)))))))))))))
def Zcj{op:Int}{w m:Nat}{ls:List (List Int)}{s:BS}(h:s.2=true):(fin op w m ls s).2.2=true:=by
 unfold fin
 repeat' split
 all_goals first|exact h|rfl|exact ZdY h|exact Rx (λs x h=>Co h) h
mutual
theorem ZdS(vs:List D.Value):∀(t:D.Term)(s:BS),s.2=true->(nP vs t s).2.2=true
 |⟨op,w,m,nm,ks⟩,s,h=>by
  rw[nP];split
  ·exact h
  split
  ·exact h
  ·exact Zcj (Dy vs ks s h)
theorem Dy(vs:List D.Value):∀(l:List D.Term)(s:BS),s.2=true->(nPs vs l s).2.2=true
 |[],s,h=>by rw[nPs];exact h
 |t::l,s,h=>by rw[nPs];exact Dy vs l _ (ZdS vs t s h)
end
theorem BM{vs:List D.Value}(hp:vs.Pairwise λx y=>x.Name≠y.Name):∀(n:Nat)(t:D.Term)(s:BS),cnt t<=n->nodeB t=true->wideB t=true->TV vs t->CircP s.1->VF vs s.1->(nP vs t s).2.2=true:=by
 intro n
 induction n with
 |zero=>intro t s h;have:=Xr t;omega
 | succ n ih=>
  intro t s hc hb hwd ht hs hv;have hcn:=Xr t;rw[Bv];by_cases h0:t.Op=0
  ·exfalso;obtain⟨op,w,m,nm,ks⟩:=t;obtain⟨-,hsh⟩:=ZW hb;simp only at h0;subst h0;rcases hsh with⟨-,rfl,-⟩|⟨h,-⟩|⟨h,-⟩|⟨h,-⟩|⟨h,-⟩|⟨h,-⟩|⟨h,-⟩|⟨h,-⟩
   ·rw[QX]at hwd;simp[wide1,Qx]at hwd
   all_goals omega
  rw[Zem h0];by_cases h22:t.Op=22
  ·exfalso;obtain⟨op,w,m,nm,ks⟩:=t;obtain⟨-,hsh⟩:=ZW hb;simp only at h22;subst h22;rcases hsh with⟨h,-⟩|⟨-,rfl,-⟩|⟨h,-⟩|⟨-,h,-⟩|⟨h,-⟩|⟨h,-⟩|⟨h,-⟩|⟨h,-⟩
   ·omega
   ·rw[QX]at hwd;simp[wide1,Qx]at hwd
   all_goals omega
  rw[Zem h22];have hkg:∀x∈t.Kids,∀s:BS,CircP s.1->VF vs s.1->GoodL s x.W.toNat (nP vs x s):=λx hx s' hs' hv'=>PS hp _ x s' (Zes _) (nodeK hb x hx) (Ow ht h22 hx) hs' hv';obtain⟨q1,q2,q3⟩:=Pw t.Kids s hkg hs hv;rw[QX,ZeX]at hwd;rcases hwd with hwd|hwd
  ·
   obtain⟨op,w,m,nm,ks⟩:=t;obtain⟨hw,hsh⟩:=ZW hb;unfold wide1 at hwd;simp only[Zek,ZeX,Zft,Zeq]at hwd;obtain⟨ho,hk⟩:=hwd;simp only at h0 h22 q1 q2 q3⊢;rcases hsh with⟨rfl,-⟩|⟨rfl,-⟩|⟨ho',-,-,a,rfl,ha,haw⟩|⟨h3,h16,-,-,a,b,rfl,ha,hb',hab,h13,h14⟩|⟨rfl,-⟩|⟨rfl,-⟩|⟨rfl,-⟩|⟨ho',-⟩
   ·omega
   ·omega
   ·have h2:op=2:=by omega
    subst h2;simp only[Zft]at hk;unfold fin;rw[ifn,Zei rfl,ifp]
   ·simp only[Zft]at hk;obtain⟨la,r1,k1,hn1,e⟩:=KK1 q3;have hl:((nPs vs [a,b] s).1.getD 0 []).length=16:=by rw[e,Ze9,k1.1,hk];rfl
    unfold fin;rw[ifn,ifn,ifn,ifn,ifn,ifn,ifn,Zei hl]
   all_goals omega
  ·refine Zcj ?_;have:∀(l:List D.Term)(s:BS),(∀x∈l,x∈t.Kids)->wideBs l=true->CircP s.1->VF vs s.1->(nPs vs l s).2.2=true:=λl=>by
    induction l with
    |nil=>intro s _ h;rw[Qx]at h;cases h
    |cons x l ihl=>
     intro s hm h hs' hv';rw[Ph,ZeX]at h;rw[Ko];have hx:=hm x U;have g:=hkg x hx s hs' hv';rcases h with h|h
     ·exact Dy vs l _ (ih x s (by have:=Wy hx;omega) (nodeK hb x hx) h (Ow ht h22 hx) hs' hv')
     ·exact ihl _ (λy hy=>hm y au) h g.circ (hv'.mono g.grow)
   exact this t.Kids s (λ_ h=>h) hwd hs hv
def Fy{t:D.Term}(h:nodeB t=true)(ho:t.Op=22):t.Name.bytes.length<=8/\t.Kids=[]:=by
 rw[XJ,Zek]at h;have h:=h.1;unfold locB shB at h;simp only[ho,Zek]at h;have h:=h.2;simp[nameB]at h;exact⟨by omega,by simpa using h.1⟩
theorem collect:∀(n:Nat)(t:D.Term)(g:List (Str×Int)),nodeB t=true->msz t<=1048576->g.length+(vrs t).length<=1000->1048580+cnt t<=n->Y7 n t (some g)=some (some ((vrs t).reverse++g)):=by
 intro n
 induction n with
 |zero=>intro t g _ _ _ _;omega
 | succ n ih=>
  intro t g hb hs hg hn;have hz:=Vi t;have hcn:=Xr t;rw[Y7];by_cases o1:t.Op=22
  ·obtain⟨h1,h2⟩:=Fy hb o1;have hv:vrs t=[(t.Name,t.W)]:=by rw[Re,Zei o1]
   have c1:(t.Op==22)=true:=by simpa using o1
   have hw:=Z9 hb;rw[hv]at hg;simp only[c1,Ze2,Zee,put1 (g:=g) (s:=t.Name) O hw (by simp at hg;omega)];obtain⟨m,rfl⟩:∃m,n=m+1:=⟨n-1,by omega⟩;rw[h2,hv];rfl
  ·have c1:(t.Op==22)=false:=by simpa using o1
   have hv:vrs t=vrss t.Kids:=by rw[Re,Zem o1]
   simp only[c1,Zeg,Zen];rw[XJ,Zek,Yf,Zev]at hb;rw[hv]at hg⊢;refine We (l:=t.Kids) (n:=n) (σ:=Option (List (Str×Int))) (λk a=>((k:Int),a)) (λys a=>∃ga,a=some ga/\(vrss ys).reverse++ga=(vrss t.Kids).reverse++g/\ga.length+(vrss ys).length<=1000/\∀x∈ys,x∈t.Kids)
     (λr=>r=some ((vrss t.Kids).reverse++g))
     (λk x xs a hk' hx hlen⟨ga,i0,i1,i2,i3⟩=>by
      have hxk:=i3 x U;have:=WT hxk;have:=Wy hxk;have hd:decide ((k:Int)<len t.Kids)=true:=by rw[Za];simp;omega
      rw[Uz,Zeo]at i2;rw[Uz,List.reverse_append]at i1;subst i0;simp only[hd,Ze2,get?_nat,hx,Zee];rw[ih x ga (hb.2 x hxk) O O O]
      refine .inl ⟨some ((vrs x).reverse++ga),by simp only[Zee];rw[Zb];rfl,_,rfl,by rw[<-i1,Zez],by simp;omega,λy hy=>i3 y au⟩)
     (λa⟨ga,i0,i1,i2,i3⟩=>by
      have hd:decide ((t.Kids.length:Int)<len t.Kids)=false:=by rw[Za];simp
      simp only[hd,Zeg,Zen];rw[Pt]at i1
      exact⟨_,rfl,by rw[i0,<-i1];rfl⟩) (a:=some g) ⟨g,rfl,rfl,hg,λx hx=>hx⟩ O λr g2=>?_
   subst g2;rfl
theorem Ik:∀{l g g':List (Str×Int)},runV g l=some g'->(∀p:Str×Int,g.lookup p.1=some p.2->g'.lookup p.1=some p.2)/\∀p∈l,g'.lookup p.1=some p.2
 |[],g,g',h=>by simp only[runV,Option.some.injEq]at h;subst h;exact⟨λp hp=>hp,λp hp=>by cases hp⟩
 | v::l,g,g',h=>by
  simp only[runV,ZeV]at h;obtain⟨g1,h1,h2⟩:=h;obtain⟨i1,i2⟩:=Ik h2;have hv:g1.lookup v.1=some v.2:=by
   unfold stp at h1;split at h1
   ·rename_i w hw;split at h1
    ·rename_i e;cases h1;rw[hw,e]
    ·cases h1
   ·cases h1;rw[ZeG];simp
  have hk:∀p:Str×Int,g.lookup p.1=some p.2->g1.lookup p.1=some p.2:=λp hp=>by
   unfold stp at h1;split at h1
   ·split at h1
    ·cases h1;exact hp
    ·cases h1
   ·rename_i hn;cases h1;have:p.1≠v.1:=λe=>by rw[e,hn]at hp;cases hp
    rw[ZeG];have:(p.1==v.1)=false:=by simpa using this
    rw[this];exact hp
  refine⟨λp hp=>i1 p (hk p hp),λp hp=>?_⟩;rcases ZeR.1 hp with rfl|hp
  ·exact i1 p hv
  ·exact i2 p hp
theorem Kl{κ β:Type}[BEq κ][LawfulBEq κ]{x:κ}{y:β}:∀{m:List (κ×β)},m.lookup x=some y->(x,y)∈m
 |[],h=>by cases h
 | (u,z)::m,h=>by
  rw[ZeG]at h;by_cases e:x==u
  ·rw[e]at h;simp only[Option.some.injEq]at h;rw[eq_of_beq e,h];exact ZeK
  ·simp only[e]at h;exact ZeB _ (Kl h)
theorem II{κ β:Type}[BEq κ][LawfulBEq κ]{x:κ}{y:β}:∀{m:List (κ×β)},(x,y)∈m->∃z,m.lookup x=some z
 | (u,z)::m,h=>by
  rw[ZeG];by_cases e:x==u
  ·rw[e];exact⟨z,rfl⟩
  ·simp only[e];rcases ZeR.1 h with h|h
   ·simp only[Prod.mk.injEq]at h;rw[h.1]at e;simp at e
   ·exact II h
def Iz{t:D.Term}(h:termB t=true)(hs:msz t<=1048576):WL fuel t=some (vtab (vrs t).reverse):=by
 unfold WL;rw[SI hs,h];unfold termB at h;simp only[Zek,Zeq]at h;have hv:=Js t;simp only[Zee,Zep,Zeg,Zen];rw[collect fuel t [] h.1.2 hs aa al];simp only[Zee,ZeM];rw[Zei aa]
instance:FU fuel:=⟨by unfold fuel;omega⟩
theorem GD:∀{l g g':List (Str×Int)},runV g l=some g'->∀p:Str×Int,g'.lookup p.1=some p.2->g.lookup p.1=some p.2\/p∈l
 |[],g,g',h,p,hp=>by simp only[runV,Option.some.injEq]at h;subst h;exact .inl hp
 | v ::l,g,g',h,p,hp=>by
  simp only[runV,ZeV]at h;obtain⟨g1,h1,h2⟩:=h;rcases GD h2 p hp with h3|h3
  ·unfold stp at h1;split at h1
   ·split at h1
    ·cases h1;exact .inl h3
    ·cases h1
   ·cases h1;obtain⟨s,w⟩:=p;obtain⟨s',w'⟩:=v;simp only[List.lookup]at h3;split at h3
    ·rename_i e;have e:s=s':=by simpa using e
     cases h3;exact .inr (by rw[e];simp)
    ·exact .inl h3
  ·exact .inr (ZeB _ h3)
def zv(v:D.Value):D.Value:=⟨v.Name,v.W,0⟩
structure VL(t:D.Term)(L:List D.Value):Prop where
 eq:L.map zv=vtab (vrs t).reverse
 nm:L.Pairwise λx y=>x.Name≠y.Name
 mem:∀v∈L,(v.Name,v.W)∈vrs t
 all:TV L t
def Zdy{a b:Str}(h:Str.ltb a b=true):a≠b:=λe=>by
 subst e;have:=QF a;rw[this]at h;cases h
theorem Dr{t:D.Term}(h:termB t=true)(hs:msz t<=1048576):∃L,Y5 fuel t=some L/\VL t L:=by
 have hb:=h;unfold termB at hb;simp only[Zek,Zeq]at hb;obtain⟨⟨hc,hn⟩,hr⟩:=hb;have hv:=Js t;obtain⟨l',b,e,hT,hF⟩:=Ib fuel t [] [] hs ⟨List.Pairwise.nil,rfl,λv hv=>(by cases hv),λs w h=>(by simp at h)⟩ aa al;cases b with
 |false=>rw[hF rfl]at hr;cases hr
 | true=>
  obtain⟨g',hg,hR⟩:=hT rfl;obtain⟨r1,r2,r3,r4⟩:=hR;have hlk:=(Ik hg).2;have hmem:∀s w,g'.lookup s=some w->(s,w)∈vrs t:=λs w h=>by
   rcases GD hg (s,w) h with h|h
   ·simp at h
   ·exact h
  have hrev:∀s w,(vrs t).reverse.lookup s=some w↔g'.lookup s=some w:=λs w=>by
   constructor
   ·intro h;exact hlk (s,w) (Zg7.1 (Kl h))
   ·intro h;obtain⟨z,hz⟩:=II (Zg7.2 (hmem s w h));have:=hlk (s,z) (Zg7.1 (Kl hz));rw[h]at this;rw[hz,Option.some.inj this]
  refine⟨l',?_,?_,?_,?_,?_⟩
  ·unfold Y5;rw[UA hs,h];simp only[Zee,Zep,Zeg,Zen];rw[e];rfl
  ·refine ZbO (List.pairwise_map.2 r1) (PG _) λv=> ?_;rw[QW,Zfz];constructor
   ·rintro⟨x,hx,rfl⟩;exact⟨(hrev _ _).2 (r3 x hx),rfl⟩
   ·rintro⟨h1,h2⟩;have h1':=(hrev _ _).1 h1;obtain⟨x,hx,hxn⟩:=r4 _ _ h1';have:=r3 x hx;rw[hxn,h1']at this;refine⟨x,hx,?_⟩;cases v;simp only[zv]at*;rw[hxn,<-Option.some.inj this,h2]
  ·exact r1.imp λh=>Zdy h
  ·exact λv hv=>hmem _ _ (r3 v hv)
  ·intro p hp;have:=hlk p hp;obtain⟨x,hx,hxn⟩:=r4 _ _ this;have h2:=r3 x hx;rw[hxn,this]at h2;exact⟨x,hx,hxn,(Option.some.inj h2).symm⟩
def bitsV(l:List D.Value)(a:Int):Int:=(l.map (·.W)).foldl (· + ·) a
def Ch(v:D.Value)(l:List D.Value)(a:Int):bitsV (v::l) a=bitsV l (a+v.W):=rfl
def Ab{L:List D.Value}(hl:L.length<=1000)(hw:∀v∈L,1<=v.W/\v.W<=16):UT fuel L=some (bitsV L 0):=by
 refine We (l:=L) (n:=fuel) (σ:=Int) (λk a=>(a,(k:Int))) (λys a=>bitsV ys a=bitsV L 0/\0<=a/\a<=16*(L.length-ys.length:Int)/\∀y∈ys,y∈L) (λr=>r=bitsV L 0)
  (λk x xs a hk hx hlen⟨h1,h2,h3,h4⟩=>by
   have hd:decide ((k:Int)<len L)=true:=by grind[Za]
   have hxw:=hw x (h4 x U);simp only[Ze3]at hlen h3;simp only[hd,Ze2,get?_nat,hx,Zee]
   exact .inl ⟨a+x.W,by grind[Zb],h1,by omega,by omega,λy hy=>h4 y au⟩)
  (λa⟨h1,_⟩=>by
   have hd:decide ((L.length:Int)<len L)=false:=by simp[Za]
   simp only[hd,Zeg,Zen]
   exact⟨_,rfl,h1⟩) (a:=0) ⟨rfl,by omega,by omega,λy h=>h⟩ lt_fuel λr g2=>?_
 simp_all
def Ak{a:Int}{w:Nat}(hw:w<=16)(h0:0<=a)(h1:a<=100000):iterN (λ(s2:Int×Int×(List Int))=>if(decide (s2.2.1>=0))then(set? s2.2.2 s2.2.1 (w64 (2+s2.1))).bind λx6=>some (.inl ((w64 (s2.1+1)),(w64 (s2.2.1-1)),x6))else some (.inr (s2.1,s2.2.2))) fuel (a,(w:Int)-1,List.replicate w 0)=some (a+w,(List.range w).map λk:Nat=>1+a+(w:Int)-(k:Int)):=by
  rw[Z5 (I:=λk t=>t=(a+(k:Int),(w:Int)-1-(k:Int),List.replicate (w-k) 0++(List.range k).map λi:Nat=>1+a+(k:Int)-(i:Int))) (m:=w) (r:=(a+(w:Int),(List.range w).map λk:Nat=>1+a+(w:Int)-(k:Int))) (λk t hk ht=>?_) (λt ht=>?_) w 0 _ O U fuel lt_fuel]
  all_goals subst ht
  · simp only
    rw[Zei aa,show(w:Int)-1-(k:Int)=((w-1-k:Nat):Int) by omega,set?_nat aa,Zb (x:=2+(a+(k:Int))) O O];rw[Zb,Zb];have e:(List.replicate (w-k) (0:Int)++(List.range k).map λi:Nat=>1+a+(k:Int)-(i:Int)).set (w-1-k) (2+(a+(k:Int)))=List.replicate (w-(k+1)) 0++(List.range (k+1)).map λi:Nat=>1+a+((k+1:Nat):Int)-(i:Int):=by
      rw[List.set_append_left _ _ aa,show w-k=(w-(k+1))+1 by omega,Zge,Zfq _ _ aa,ZeT,show w-1-k-(w-(k+1))=0 by omega,ZfF,Zez,ZeW,List.range_succ_eq_map,ZeQ,List.map_map];simp_all[List.map_congr_left,Function.comp]<;>grind
    grind
  grind
theorem CJ{x:D.Value}{ys:List D.Value}:∀{pre:List D.Value}{a:Int},(∀v∈pre,v.Name≠x.Name)->atV (pre++x::ys) a x.Name=bitsV pre a+x.W
 |[],a,_=>by
  show(if Str.eqb x.Name x.Name=true then a+x.W else _)=_;rw[Zei (Uc _)];rfl
 |v::pre,a,h=>by
  show(if Str.eqb v.Name x.Name=true then a+v.W else atV (pre++x::ys) (a+v.W) x.Name)=_;rw[Zem (by simp_all[Sw])];exact CJ λu hu=>h u (by simp[hu])
def ZbX{L:List D.Value}(hl:L.length<=1000)(hw:∀v∈L,1<=v.W/\v.W<=16)(hn:∀v∈L,v.Name.bytes.length<=1000)(hp:L.Pairwise λx y=>x.Name≠y.Name):∃mp,iterN (λ(s1:Int×Int×(List (Str×List Int)))=>if (decide (s1.2.1<(len (L.map zv))))then(get? (L.map zv) s1.2.1).bind λx4=>(mk? x4.W (0:Int)).bind λx5=>(iterN (λ(s2:Int×Int×(List Int))=>if(decide (s2.2.1>=0))then(set? s2.2.2 s2.2.1 (w64 (2+s2.1))).bind λx6=>some (.inl ((w64 (s2.1+1)),(w64 (s2.2.1-1)),x6))else some (.inr (s2.1,s2.2.2))) fuel (s1.1,(w64 (x4.W-1)),x5)).bind λ(rl2:Int×(List Int))=>(mput? fitS s1.2.2 x4.Name rl2.2).bind λx7=>some (.inl (rl2.1,(w64 (s1.2.1+1)),x7))else some (.inr (s1.1,s1.2.2))) fuel (0,0,([]:List (Str×List Int)))=some (bitsV L 0,mp)/\MapOk L mp:=by
  refine Cc.ex_pair (Wx (l:=L) (n:=fuel) (σ:=Int×List (Str×List Int)) (ρ:=Int×List (Str×List Int)) (λk a=>(a.1,(k:Int),a.2))
    (λys a=>∃pre,pre++ys=L/\a.1=bitsV pre 0/\0<=a.1/\a.1<=16*pre.length/\a.2.length=pre.length/\∀v∈pre,a.2.lookup v.Name=some (varL L v.Name v.W.toNat))
    (λr=>∃mp,r=(bitsV L 0,mp)/\MapOk L mp)
    (λk x xs a hk hx hlen⟨pre,h1,h2,h3,h4,h5,h6⟩=>by
      have hxL:x∈L:=by grind
      have hxw:=hw x hxL;have hpl:pre.length<=L.length:=by grind
      have hd:decide ((k:Int)<len (L.map zv))=true:=by grind[Za]
      have eW:((x.W.toNat:Nat):Int)=x.W:=by omega
      have hz:(L.map zv)[k]? =some (zv x):=by simp_all
      have hne:∀v∈pre,v.Name≠x.Name:=λv hv=>by
        grind
      have hat:atV L 1 x.Name=1+a.1+x.W:=by
        rw[<-h1,CJ hne,h2];have:=PN (pre.map (·.W)) 1 0;unfold bitsV;rw[show(1:Int)+0=1 from rfl]at this;rw[this]
      simp only[hd,Ze2,get?_nat,hz,Zee];rw[show(zv x).W=x.W from rfl,show(zv x).Name=x.Name from rfl,show mk? x.W (0:Int)=some (List.replicate x.W.toNat 0)from by unfold mk?;rw[Zei ⟨by omega,by unfold room;omega⟩]];simp only[Zee];rw[Zb (x:=x.W-1)];have:=Ak (a:=a.1) (w:=x.W.toNat) O h3 O;rw[eW]at this;rw[this];simp only[Zee]
      rw[show mput? fitS a.2 x.Name ((List.range x.W.toNat).map λk:Nat=>1+a.1+x.W-(k:Int))=some ((x.Name,varL L x.Name x.W.toNat)::a.2)from by
        unfold mput?;rw[Zei ⟨by have:=hn x hxL;unfold fitS;simp;omega,by unfold room;omega⟩]
        unfold varL;rw[hat]]
      simp only[Zee];rw[Zb];refine .inl ⟨(a.1+x.W,(x.Name,varL L x.Name x.W.toNat)::a.2),rfl,pre++[x],by rw[Zez];exact h1,?_,by show 0<=a.1+x.W;omega,by simp;omega,by simp[h5],λv hv=>?_⟩
      · show a.1+x.W=bitsV (pre++[x]) 0
        unfold bitsV;rw[Zfj,Zfm,h2];rfl
      · rcases Zew.1 hv with hv|hv
        · have hn:=hne v hv
          rw[ZeG,show(v.Name==x.Name)=false by simpa using hn];exact h6 v hv
        · rw[ZeA]at hv
          subst hv
          simp)
    (λa⟨pre,h1,h2,h3,h4,h5,h6⟩=>by
      have hd:decide ((L.length:Int)<len (L.map zv))=false:=by rw[Za];simp
      simp only[hd,Zeg,Zen];rw[ZeM]at h1;subst h1
      exact⟨_,rfl,a.2,by rw[h2],λv hv=>⟨hn v hv,by rw[h6 v hv];rfl⟩⟩) (a:=(0,[])) ⟨[],rfl,rfl,by omega,by simp,rfl,λv hv=>by cases hv⟩ lt_fuel)
def upI(k:Int)(L:Nat):List Int:=(List.range L).map λ(j:Nat)=>k+(j:Int)
def Nh(k:Int)(L:Nat):(upI k L).length=L:=by simp[upI]
def Hg{k:Int}{L i:Nat}(h:i<L):(upI k L)[i]? =some (k+(i:Int)):=by simp[upI,h]
def Rl{p:List Int}{k:Int}(hk:0<=k)(hb:k<=100000000000000000)(hp:p.length<=1048576):Xd fuel p k=some (k+p.length,upI k p.length):=by
 unfold Xd;rw[Z5 (I:=λi s=>s=(k+(i:Int),(i:Int),pre (λ(j:Nat)=>k+(j:Int)) p i)) (m:=p.length) (r:=(k+(p.length:Int),upI k p.length)) (λi s hi hs=>?_) (λs hs=>?_) p.length 0 _ O (by simp[Kv]) fuel (lt_fuel hp)]
 ·rfl
 ·subst hs;refine⟨_,?_,rfl⟩;simp only;rw[Zei ah,set?_nat (by rw[Gd O];exact hi),Gg hi];simp only[Zee];rw[Zb,Zb];simp only[Option.some.injEq,Sum.inl.injEq,Prod.mk.injEq,ZgK];omega
 ·subst hs;simp only;rw[Zem ao,Hz];rfl
def MI{L:Nat}{k:Int}(hk:0<=k)(hb:k<=100000000000000000)(hp:L<=1048576):X8 fuel (upI k L) k=some (k+L):=by
 unfold X8;rw[Z5 (I:=λi s=>s=(k+(i:Int),(i:Int))) (m:=L) (r:=.inl (k+(L:Int))) (λi s hi hs=>?_) (λs hs=>?_) L 0 _ O U fuel (lt_fuel hp)]
 ·rfl
 ·subst hs;refine⟨_,?_,rfl⟩;simp only;rw[Zei (by rw[Za,Nh];simp;omega),get?_nat,Hg hi];simp only[Zee];rw[ifn,Zb,Zb];simp only[Option.some.injEq,Sum.inl.injEq,Prod.mk.injEq];omega
 ·subst hs;simp only;rw[Zem (by rw[Za,Nh];simp)]
def El{p:List D.Ins}{k:Int}(hk:0<=k)(hb:k<=100000000000000000)(hp:p.length<=1048576):∃r,Uf fuel p k=some (k+4*p.length,r):=by
 refine⟨(List.range p.length).map λ(j:Nat)=>⟨k+4*(j:Int),k+4*(j:Int)+1,k+4*(j:Int)+2,k+4*(j:Int)+3⟩,?_⟩;unfold Uf;rw[Z5 (I:=λi s=>s=(k+4*(i:Int),(i:Int),pre (λ(j:Nat)=>(⟨k+4*(j:Int),k+4*(j:Int)+1,k+4*(j:Int)+2,k+4*(j:Int)+3⟩:D.Ins)) p i)) (m:=p.length) (r:=(k+4*(p.length:Int),(List.range p.length).map λ(j:Nat)=>(⟨k+4*(j:Int),k+4*(j:Int)+1,k+4*(j:Int)+2,k+4*(j:Int)+3⟩:D.Ins))) (λi s hi hs=>?_) (λs hs=>?_) p.length 0 _ O (by simp[Kv]) fuel (lt_fuel hp)]
 ·rfl
 ·subst hs;refine⟨_,?_,rfl⟩;have hl:=Gd (f:=λ(j:Nat)=>(⟨k+4*(j:Int),k+4*(j:Int)+1,k+4*(j:Int)+2,k+4*(j:Int)+3⟩:D.Ins)) (p:=p) (i:=i) O;simp only;rw[Zei ah,get?_nat,ZcQ hi,Zef hi];simp only[Zee];rw[set?_nat aU];simp only[Zee];rw[get?_nat,Zf7 aU];simp only[Zee];rw[set?_nat (by simp[hl];exact hi),List.set_set];simp only[Zee];rw[get?_nat,Zf7 aU];simp only[Zee];rw[set?_nat (by simp[hl];exact hi),List.set_set];simp only[Zee];rw[get?_nat,Zf7 aU];simp only[Zee];rw[set?_nat (by simp[hl];exact hi),List.set_set];simp only[Zee];rw[Zb (x:=k+4*(i:Int)+1),Zb (x:=k+4*(i:Int)+1+1),Zb (x:=k+4*(i:Int)+1+1+1),Zb (x:=k+4*(i:Int)+1+1+1+1),Zb (x:=(i:Int)+1),<-Gg hi];simp only[Option.some.injEq,Sum.inl.injEq,Prod.mk.injEq];refine⟨by omega,by omega,?_⟩;refine congrArg (λq=>List.set _ i q) ?_;simp only[D.Ins.mk.injEq];refine⟨trivial,trivial,?_,?_⟩<;>omega
 ·subst hs;simp only;rw[Zem ao,Hz]
def KD{x:D.Program}{k:Int}(hk:0<=k)(hb:k<=100000000000000000)(hp:x.Code.length<=1048576):∃k' r,Wo fuel x k=some (k',r)/\k<=k'/\k'<=k+4194304:=by
 obtain⟨r,hr⟩:=El hk hb hp;unfold Wo;rw[hr];exact⟨_,_,rfl,by simp only;omega,by simp only;omega⟩
theorem JK:∀(d:Nat)(j:Int)(s:Str)(n:Nat),0<=j->j<=200000000000000000->j<10^d->s.bytes.length+d<=1000->d<n->∃o:Str,iterN (λ(s1:Int×Str)=>if(decide (s1.1>0))then(rem? s1.1 10).bind λx1=>(cat? (strOf ([(Byt.mk (IntKind.u8.wrap (w64 (48+x1))))]:List Byt)) s1.2).bind λx2=>(quo? s1.1 10).bind λx3=>some (.inl (x3,x2))else some (.inr (s1.2))) n (j,s)=some o/\o.bytes.length<=1000
 |d,j,s,0,_,_,_,_,h=>by omega
 |0,j,s,n+1,h0,_,h1,h2,_=>by
  grind[iterN]
 | d+1,j,s,n+1,h0,hb,h1,h2,h3=>by
  by_cases c:0<j
  ·have c2:rem? j 10=some (j.tmod 10):=by rfl
   have hj:j/10<10^d:=by
    omega
   have c3:quo? j 10=some (j/10):=by
    unfold quo?;rw[ifn,Int.tdiv_eq_ediv_of_nonneg h0,Zb]
   have c4:cat? (strOf ([(Byt.mk (IntKind.u8.wrap (w64 (48+j.tmod 10))))]:List Byt)) s=some ⟨(strOf ([(Byt.mk (IntKind.u8.wrap (w64 (48+j.tmod 10))))]:List Byt)).bytes++s.bytes⟩:=by
    simp_all[cat?,Zei,strOf]<;>grind
   obtain⟨o,g1,g2⟩:=JK d (j/10) ⟨(strOf ([(Byt.mk (IntKind.u8.wrap (w64 (48+j.tmod 10))))]:List Byt)).bytes++s.bytes⟩ n O O hj (by grind[strOf]) O;simp_all[iterN,Ze2,Zee]
  ·simp_all[iterN,Zeg,Zen]<;>grind
def Az{k:Int}{n:Nat}(h0:0<=k)(h1:k<=200000000000000000)(hn:20<=n):∃s,Vf n k=some s:=by
 unfold Vf;by_cases c:k<=0
 ·simp_all
 obtain⟨o,e1,e2⟩:=JK 18 k ⟨[]⟩ n h0 h1 O U O;grind[cat?]
theorem EF:∀(n:Nat)(l:List D.Term)(k:Int),l.length+mszs l<=1048576->1048580+(l.length+mszs l)<=n->0<=k->k+4*((l.length:Int)+mszs l)<=100000000000000000->∃r,ZZ n l k=some r/\k<=r.1/\r.1<=k+4*((l.length:Int)+mszs l):=by
 intro n
 induction n with
 |zero=>omega
 | succ n ih=>
  intro l k hs hn h0 hb;rw[ZZ];obtain⟨r,g1,g2⟩:=Wx (l:=l) (n:=n) (σ:=Int×List D.Term) (ρ:=Int×List D.Term) (B:=λ(s1:Int×Int×(List D.Term))=>if(decide (s1.2.1<(len l)))then(get? s1.2.2 s1.2.1).bind λx1=>(Vf n (w64 ((w64 ((w64 (s1.1+1))+1))+1))).bind λx2=>(ZZ n x1.Kids (w64 ((w64 ((w64 ((w64 (s1.1+1))+1))+1))+1))).bind λx3=>(set? s1.2.2 s1.2.1 (D.Term.mk s1.1 (w64 (s1.1+1)) (w64 ((w64 (s1.1+1))+1)) x2 x3.2)).bind λx4=>some (.inl (x3.1,(w64 (s1.2.1+1)),x4))else some (.inr (s1.1,s1.2.2))) (λj a=>(a.1,(j:Int),a.2))
   (λys a=>(∃pre,a.2=pre++ys/\pre.length+ys.length=l.length)/\ys.length+mszs ys<=l.length+mszs l/\k<=a.1/\a.1+4*((ys.length:Int)+mszs ys)<=k+4*((l.length:Int)+mszs l))
   (λr=>k<=r.1/\r.1<=k+4*((l.length:Int)+mszs l))
   (λj x xs a hj hx hlen⟨⟨pre,i1,i2⟩,i3,i4,i5⟩=>by
    obtain⟨q,z⟩:=a;simp only at i1 i4 i5⊢;have hz:=Vi x;rw[UZ]at i3 i5;simp only[Ze3]at i2 i3 i5 hlen;have hp:pre.length=j:=by omega
    have hd:decide ((j:Int)<len l)=true:=by grind[Za]
    have hg:z[j]? =some x:=by simp_all
    simp only[hd,Ze2,get?_nat,hg,Zee];rw[Zb (x:=q+1),Zb (x:=q+1+1),Zb (x:=q+1+1+1),Zb (x:=q+1+1+1+1)];obtain⟨tx,ht⟩:=Az (k:=q+1+1+1) (n:=n) O O O;obtain⟨⟨k3,r3⟩,m1,m2,m3⟩:=ih x.Kids (q+1+1+1+1) O O O O;simp only at m2 m3;rw[ht];simp only[Zee];rw[m1];simp only[Zee];rw[set?_nat (by rw[i1];simp;omega)];refine .inl ⟨(k3,z.set j (D.Term.mk q (q+1) (q+1+1) tx r3)),by simp only[Zee];rw[Zb];rfl,⟨pre++[D.Term.mk q (q+1) (q+1+1) tx r3],?_,by simp;omega⟩,by omega,by show k<=k3;omega,by show k3+_<=_;omega⟩
    rw[i1,Zfq _ _ O,hp,ZfD];simp)
   (λa⟨_,_,i4,i5⟩=>by
    have hd:decide ((l.length:Int)<len l)=false:=by rw[Za];simp
    simp only[hd,Zeg,Zen]
    exact⟨_,rfl,i4,by omega⟩) (a:=(k,l)) ⟨⟨[],rfl,by simp⟩,by omega,by omega,by omega⟩ O
  rw[show((0:Nat):Int)=0 from rfl]at g1;rw[g1];exact⟨_,rfl,g2⟩
def LK{l:List D.Term}{k:Int}(h:sml l)(h0:0<=k)(h1:k<=90000000000000000):∃k' r,ZZ fuel l k=some (k',r)/\k<=k'/\k'<=k+4194304:=by
 unfold sml at h;obtain⟨⟨k',r⟩,e,a,b⟩:=EF fuel l k h aP h0 O;grind
def Aa{x:D.Path}{k:Int}(h:smallP x)(h0:0<=k)(h1:k<=50000000000000000):∃k' r,Ui fuel x k=some (k',r)/\k<=k'/\k'<=k+30000000:=by
 obtain⟨s1,s2,s3,s4,s5,s6⟩:=h;obtain⟨k1,r1,e1,a1,b1⟩:=LK (k:=k) s1 O O;obtain⟨k2,r2,e2,a2,b2⟩:=LK (k:=k1) s2 O O;have e3:=Rl (p:=x.Stack) (k:=k2) O O s3;obtain⟨k4,r4,e4,a4,b4⟩:=LK (k:=k2+x.Stack.length) s4 O O;obtain⟨k5,r5,e5,a5,b5⟩:=LK (k:=k4) s5 O O;have e6:=Rl (p:=x.Turns) (k:=k5) O O s6;unfold Ui;simp only[e1,e2,e3,e4,e5,e6,Zee];exact⟨_,_,rfl,by omega,by omega⟩
def sg(a b:Int):Int:=if a<b then-1 else if a>b then 1 else 0
def ss(a b:Str):Int:=if a=b then 0 else if Str.ltb a b=true then-1 else 1
mutual
def ctm:D.Term->D.Term->Int
 |⟨o,w,m,s,k⟩,t=>if sg o t.Op≠0 then sg o t.Op else if sg w t.W≠0 then sg w t.W else if sg m t.N≠0 then sg m t.N else if ss s t.Name≠0 then ss s t.Name else cts k t.Kids
def cts:List D.Term->List D.Term->Int
 |[],l=>sg 0 l.length
 |_::_,[]=>1
 |x::l,y::m=>if ctm x y≠0 then ctm x y else cts l m
end
theorem Gr(a t:D.Term):ctm a t=if sg a.Op t.Op≠0 then sg a.Op t.Op else if sg a.W t.W≠0 then sg a.W t.W else if sg a.N t.N≠0 then sg a.N t.N else if ss a.Name t.Name≠0 then ss a.Name t.Name else cts a.Kids t.Kids:=by cases a;rw[ctm]
def Lt(l:List D.Term):cts [] l=sg 0 l.length:=by rw[cts]
def LH(x:D.Term)(l:List D.Term):cts (x::l) []=1:=by rw[cts]
theorem Jy(x y:D.Term)(l m:List D.Term):cts (x::l) (y::m)=if ctm x y≠0 then ctm x y else cts l m:=by rw[cts]
theorem Zd2(a b:Int):sg b a=-sg a b:=by grind[sg]
theorem Zdv(a b:Str):ss b a=-ss a b:=by
 unfold ss;by_cases e:a=b
 ·simp_all
 grind[Str.ltb,ZaW,lt_trans,Zce]
theorem Zde(a b:Int):sg a b=-1\/sg a b=0\/sg a b=1:=by grind[sg]
theorem ZcS(a b:Str):ss a b=-1\/ss a b=0\/ss a b=1:=by grind[ss]
theorem ZbG:∀n:Nat,(∀a b:D.Term,msz a<n->ctm b a=-ctm a b/\(ctm a b=-1\/ctm a b=0\/ctm a b=1))/\∀l m:List D.Term,l.length+mszs l<n->cts m l=-cts l m/\(cts l m=-1\/cts l m=0\/cts l m=1):=by
 intro n
 induction n with
 |zero=>simp
 | succ n ih=>
  have hl:∀l m:List D.Term,l.length+mszs l<n+1->cts m l=-cts l m/\(cts l m=-1\/cts l m=0\/cts l m=1):=by
   intro l m h;cases l with
   |nil=>
    cases m with
    |nil=>decide
    |cons y m=>simp[Lt,LH,sg]
   | cons x l=>
    cases m with
    |nil=>simp[Lt,LH,sg]
    |cons y m=>
     grind[UZ,List.length_cons,Jy]
  grind[Vi,Gr,Zd2,Zdv,Zde,ZcS,sg,ss]
def Zc6(a b:D.Term):ctm b a=-ctm a b:=((ZbG (msz a+1)).1 a b O).1
def ZaQ(a b:D.Term):ctm a b=-1\/ctm a b=0\/ctm a b=1:=((ZbG (msz a+1)).1 a b O).2
theorem Zdr:∀x y:List UInt8,Lib.compareBytes x y=if x=y then 0 else if Op.bytesLess x y=true then-1 else 1
 |[],[]=>by rfl
 |[],_::_=>by rfl
 |_::_,[]=>by rfl
 |a::x,b::y=>by
  rw[Lib.compareBytes,Zdr x y];grind[absurd,UInt8.lt_irrefl,Op.bytesLess,UInt8.toNat_inj]
def ZcF(a b:Str):strings_Compare a b=some (ss a b):=by
 unfold strings_Compare ss;rw[Zdr,Ha];have:(a.bytes=b.bytes)=(a=b):=by
  cases a;cases b;simp
 simp_all
def ZcA(a b:Int):Wh a b=some (sg a b):=by
 grind[Wh,sg]
def Zdm(a b:Int):ZI a b=some (sg a b):=by
 grind[ZI,XU,sg]
def DN(x y z:Int){n:Nat}(hn:4<=n):iterN (λ(s1:Int)=>if(decide (s1<(len ([x,y,z]:List Int))))then(get? ([x,y,z]:List Int) s1).bind λx4=>if(x4 !=0)then some (.inr (.inr x4))else some (.inl ((w64 (s1+1))))else some (.inr (.inl ()))) n 0=some (if x≠0 then(.inr x:Unit⊕Int)else if y≠0 then .inr y else if z≠0 then .inr z else .inl ()):=by
 obtain⟨n,rfl⟩:∃m,n=m+4:=⟨n-4,by omega⟩;by_cases h1:x=0
 ·by_cases h2:y=0
  all_goals simp_all[iterN,Za,get?,Zb]<;>grind
 simp_all[iterN,Za,get?]
theorem Eb:∀(n:Nat)(a b:D.Term),msz a<=1048576->1048580+cnt a<=n->Yj n a b=some (ctm a b):=by
 intro n
 induction n with
 |zero=>omega
 | succ n ih=>
  intro a b hs hn;have hz:=Vi a;have hc:=Xr a;unfold Yj;simp only[ZcA,Zee,DN _ _ _ (show 4<=n by omega)];rw[Gr];by_cases e1:sg a.Op b.Op=0;rotate_left
  ·simp[e1]
  by_cases e2:sg a.W b.W=0;rotate_left
  ·simp[e1,e2]
  by_cases e3:sg a.N b.N=0;rotate_left
  ·simp_all
  simp only[e1,e2,e3,ne_eq,not_true_eq_false,Zen];by_cases e4:a.Name=b.Name;rotate_left
  ·have:Str.eqb a.Name b.Name=false:=by simp_all[Sw]
   simp_all[Zgv,Ze2,ss,Zem,Str.ltb]<;>grind
  have:Str.eqb a.Name b.Name=true:=by simp_all[Sw]
  have e5:ss a.Name b.Name=0:=by simp_all[ss,Zei]
  simp only[this,e5,Zep,Zeg,not_true_eq_false,Zen];refine We (l:=a.Kids) (n:=n) (σ:=Unit) (λk _=>(k:Int)) (λys _=>a.Kids.length-ys.length<=b.Kids.length/\ys.length<=a.Kids.length/\cts ys (b.Kids.drop (a.Kids.length-ys.length))=cts a.Kids b.Kids/\∀x∈ys,x∈a.Kids)
    (λr=>(r= .inl ()/\sg a.Kids.length b.Kids.length=cts a.Kids b.Kids)\/r= .inr (cts a.Kids b.Kids))
    (λk x xs _ hk' hx hlen⟨i0,i1,i2,i3⟩=>by
     have hm:=WT (i3 x U);have hcm:=Wy (i3 x U);have hk:a.Kids.length-(x::xs).length=k:=by omega
     rw[hk]at i0 i2;have hd:decide ((k:Int)<len a.Kids)=true:=by grind[Za]
     simp only[hd,Ze2,get?_nat,hx,Zee];by_cases hb:k=b.Kids.length
     ·simp_all[Za,List.drop_length,LH]
     ·have hbk:k<b.Kids.length:=by omega
      have hy:b.Kids[k]? =some b.Kids[k]:=Zef hbk;have hbeq:((k:Int)==len b.Kids)=false:=by rw[Za];simp;omega
      rw[Ze8 hbk,Jy]at i2;simp only[hbeq,Zeg,Zen,hy,Zee];rw[ih x b.Kids[k] O O];simp only[Zee];by_cases e:ctm x b.Kids[k]=0
      ·rw[e]at i2⊢;refine .inl ⟨(),by rw[Zb];rfl,by simp at hlen;omega,by simp at hlen;omega,?_,λy hy=>i3 y au⟩;have:a.Kids.length-xs.length=k+1:=by simp at hlen;omega
       rw[this];simpa using i2
      ·refine .inr ⟨.inr (ctm x b.Kids[k]),by simp[e],.inr ?_⟩
       rw[<-i2,Zei e])
    (λ_⟨i0,i1,i2,_⟩=>by
     have hd:decide ((a.Kids.length:Int)<len a.Kids)=false:=by rw[Za];simp
     simp only[hd,Zeg,Zen];refine⟨.inl (),rfl,.inl ⟨rfl,?_⟩⟩;rw[<-i2,Lt];simp only[Zf4,Nat.sub_zero,Zex]at i0⊢;unfold sg
     split<;>split<;>(try split)<;>(try split)<;>omega) (a:=()) ⟨by omega,by omega,by rw[ZfD];rfl,λx hx=>hx⟩ O λr g2=>?_
  rcases g2 with⟨rfl,g2⟩|rfl
  ·simp only[Zee,Za,g2]
  ·rfl
theorem GG:∀(n:Nat)(a b:D.Term),msz a<=1048576->1048580+cnt a<=n->Yi n a b=some (ctm a b):=by
 intro n
 induction n with
 |zero=>omega
 |succ n ih=>
  intro a b hs hn;have hz:=Vi a;have hc:=Xr a;unfold Yi;simp only[Zdm,ZcF,Zee];rw[Gr];by_cases e1:sg a.Op b.Op=0;rotate_left
  ·simp[e1]
  by_cases e2:sg a.W b.W=0;rotate_left
  ·simp[e1,e2]
  by_cases e3:sg a.N b.N=0;rotate_left
  ·simp_all
  by_cases e4:ss a.Name b.Name=0;rotate_left
  ·simp_all
  simp only[e1,e2,e3,e4,ne_eq,not_true_eq_false,Zen,bne_self_eq_false,Zeg];refine We (l:=a.Kids) (n:=n) (σ:=Unit) (λk _=>(k:Int)) (λys _=>a.Kids.length-ys.length<=b.Kids.length/\ys.length<=a.Kids.length/\cts ys (b.Kids.drop (a.Kids.length-ys.length))=cts a.Kids b.Kids/\∀x∈ys,x∈a.Kids)
    (λr=>(r= .inl ()/\sg a.Kids.length b.Kids.length=cts a.Kids b.Kids)\/r= .inr (cts a.Kids b.Kids))
    (λk x xs _ hk' hx hlen⟨i0,i1,i2,i3⟩=>by
     have hm:=WT (i3 x U);have hcm:=Wy (i3 x U);have hk:a.Kids.length-(x::xs).length=k:=by omega
     rw[hk]at i0 i2;have hd:decide ((k:Int)<len a.Kids)=true:=by grind[Za]
     by_cases hb:k=b.Kids.length
     ·refine .inr ⟨.inl (),by simp_all[Za],.inl ⟨rfl, ?_⟩⟩;simp_all[List.drop_length,LH,sg,ifn,ifp]<;>grind
     ·have hbk:k<b.Kids.length:=by omega
      have hy:b.Kids[k]? =some b.Kids[k]:=Zef hbk;have hd2:decide ((k:Int)<len b.Kids)=true:=by simp_all[Za]
      rw[Ze8 hbk,Jy]at i2;simp only[hd,hd2,Zf8,Ze2,get?_nat,hx,hy,Zee];rw[ih x b.Kids[k] O O];simp only[Zee];by_cases e:ctm x b.Kids[k]=0
      ·rw[e]at i2⊢;refine .inl ⟨(),by rw[Zb];rfl,by simp at hlen;omega,by simp at hlen;omega,?_,λy hy=>i3 y au⟩;have:a.Kids.length-xs.length=k+1:=by simp at hlen;omega
       rw[this];simpa using i2
      ·refine .inr ⟨.inr (ctm x b.Kids[k]),by simp[e],.inr ?_⟩
       rw[<-i2,Zei e])
    (λ_⟨i0,i1,i2,_⟩=>by
     have hd:decide ((a.Kids.length:Int)<len a.Kids)=false:=by rw[Za];simp
     simp only[hd,Zg0,Zeg,Zen];refine⟨.inl (),rfl,.inl ⟨rfl,?_⟩⟩;rw[<-i2,Lt];simp only[Zf4,Nat.sub_zero,Zex]at i0⊢;unfold sg
     split<;>split<;>(try split)<;>(try split)<;>omega) (a:=()) ⟨by omega,by omega,by rw[ZfD];rfl,λx hx=>hx⟩ O λr g2=>?_
  rcases g2 with⟨rfl,g2⟩|rfl
  ·simp only[Zee,Za,g2]
  ·rfl
def Ma{n:Nat}{a b:D.Term}(h1:msz a<=1048576)(h2:1048580+cnt a<=n):YF n a b=some (ctm a b==0):=by
 simp_all[YF,Eb]
def NY{n:Nat}{a b:D.Term}(h1:msz a<=1048576)(h2:1048580+cnt a<=n):YA n a b=some (ctm a b==0):=by
 simp_all[YA,GG]
def QZ{x:Int}(h0:0<=x)(h1:x<65536):(BitVec.ofInt 64 x).toNat=x.toNat:=by
 rw[BitVec.toNat_ofInt];rw[Int.emod_eq_of_lt h0 O]
def Oj{w:Int}(h1:1<=w)(h2:w<=16):(2:Int)^w.toNat=((2^w.toNat:Nat):Int)/\(2^w.toNat:Nat)<=65536/\2<=(2^w.toNat:Nat):=by
 rcases MQ h1 h2 with rfl|rfl|rfl|rfl|rfl|rfl|rfl|rfl|rfl|rfl|rfl|rfl|rfl|rfl|rfl|rfl<;>decide
def ZcN{w a b:Int}(h1:1<=w)(h2:w<=16)(ha:wordB w a=true)(hb:wordB w b=true):wordB w (band a b)=true/\wordB w (bor a b)=true/\wordB w (bxor a b)=true:=by
 obtain⟨p1,p2,p3⟩:=Oj h1 h2;rw[Y6 h1 h2]at ha hb;rw[p1]at ha hb;have ea:=QZ ha.1 O;have eb:=QZ hb.1 O;have la:a.toNat<2^w.toNat:=by omega
 have lb:b.toNat<2^w.toNat:=by omega
 refine⟨?_,?_,?_⟩<;>rw[Y6 h1 h2,p1]
 ·unfold band;rw[BitVec.toNat_and,ea,eb];have:=Nat.and_lt_two_pow a.toNat lb;rw[Zb];omega
 ·unfold bor;rw[BitVec.toNat_or,ea,eb];have:=Nat.or_lt_two_pow la lb;rw[Zb];omega
 ·unfold bxor;rw[BitVec.toNat_xor,ea,eb];have:=Nat.xor_lt_two_pow la lb;rw[Zb];omega
def Oa{w:Int}(h1:1<=w)(h2:w<=16)(v:Int):wordB w (wordOf w v)=true:=by
 have h:=YS w v;obtain⟨p1,p2,p3⟩:=Oj h1 h2;obtain⟨a1,_,a3,_,_⟩:=Tn h1 h2;unfold Ye Zc at h;have e:(decide (w>=1)&&decide (w<=16))=true:=by simp;omega
 simp only[e,Zee,Zep,Zeg,Zen,a1,Option.some.injEq]at h;rw[a3]at h;rw[<-h,Y6 h1 h2,p1];unfold band;rw[BitVec.toNat_and,QZ (x:=((2^w.toNat:Nat):Int)-1) O O];have:=Nat.and_le_right (n:=(BitVec.ofInt 64 v).toNat) (m:=(((2^w.toNat:Nat):Int)-1).toNat);rw[Zb];omega
def QG{w a:Int}(h:wordB w a=true):ZF w a=some true:=by rw[XC,h]
def Za7(b:Bool):wordB 1 (if b=true then 1 else 0)=true:=by cases b<;>decide
def ZdW{op w a r:Int}(h:Xt op w a=some r)(ho:op=1\/op=2)(ha:wordB w a=true):wordB w r=true:=by
 obtain⟨h1,h2⟩:=Yr ha;obtain⟨a1,_,a3,a4,a5⟩:=Tn h1 h2;unfold Xt at h;simp only[QG ha,Zee,Zep,Zeg,Zen,YS]at h;have hv:=(Y6 h1 h2 a).1 ha;rcases ho with rfl|rfl
 ·simp only[ZfS,Ze2,a1,Zee,Option.some.injEq]at h;rw[a3,Zb]at h;rw[Y6 h1 h2];omega
 ·simp at h;rw[<-h];exact Oa h1 h2 _
def DV{op w a b r:Int}(h:ZQ op w a b=some r)(ha:wordB w a=true)(hb:wordB w b=true):(3<=op/\op<=13->wordB w r=true)/\(14<=op/\op<=16->wordB 1 r=true):=by
 obtain⟨h1,h2⟩:=Yr ha;obtain⟨a1,_,a3,a4,a5⟩:=Tn h1 h2;obtain⟨b1,b2,b3⟩:=ZcN h1 h2 ha hb;have hv:=(Y6 h1 h2 a).1 ha;have hu:=(Y6 h1 h2 b).1 hb;have hw:=Oa h1 h2;have ht:=Za7;have q1:=Int.tdiv_nonneg hv.1 hu.1;have q2:=Int.tdiv_le_self b hv.1;have q3:=Int.tmod_nonneg b hv.1;have q4:=λh=>Int.tmod_lt_of_pos a (show 0<b from h);have q5:(0:Int)<2^min b.toNat 64:=ZgY O;have q6:=Int.ediv_nonneg hv.1 (show(0:Int)<=2^min b.toNat 64 by omega);have q7:=Int.ediv_le_self (2^min b.toNat 64) hv.1;have q8:=Zgo a (show(0:Int)<=2^min b.toNat 64 by omega);unfold ZQ at h;simp only[QG ha,QG hb,Zee,Zep,Zeg,Zen,Zf9,YS,(Kz _).1,RH,Gb _ hu.1,Oo _ hu.1]at h;grind(splits:=40) [quo?,rem?,Y6,Zb,Option.bind_eq_some_iff]
def ZcE{w a v b r:Int}(h:XR w a v b=some r)(ha:wordB w a=true)(hb:wordB v b=true)(hs:w+v<=16):wordB (w+v) r=true:=by
 obtain⟨h1,h2⟩:=Yr ha;obtain⟨h3,h4⟩:=Yr hb;have hv:=(Y6 h1 h2 a).1 ha;have hu:=(Y6 h3 h4 b).1 hb;unfold XR at h;simp only[QG ha,QG hb,Zee,Zep,Zeg,Zen,Zf9,ZeN]at h;rw[Zb,Zem aa,Gb _ O]at h;have hm:min v.toNat 64=v.toNat:=by omega
 rw[hm]at h;obtain⟨p1,p2,p3⟩:=Oj h1 h2;obtain⟨q1,q2,q3⟩:=Oj h3 h4;obtain⟨s1,s2,s3⟩:=Oj (w:=w+v) O hs;have hadd:(2:Int)^(w+v).toNat=2^w.toNat*2^v.toNat:=by
  rw[show(w+v).toNat=w.toNat+v.toNat by omega,Int.pow_add]
 have hbig:(2:Int)^(w+v).toNat<=65536:=by rw[s1];omega
 have hmul:(a+1)*2^v.toNat<=2^w.toNat*2^v.toNat:=Int.mul_le_mul_of_nonneg_right O O;have hnn:0<=a*2^v.toNat:=Int.mul_nonneg hv.1 O;rw[Int.add_mul,Int.one_mul]at hmul;rw[Y6 O hs,hadd];rw[hadd]at hbig;rw[Zb (x:=a*2^v.toNat)]at h;simp only[Zee,Option.some.injEq]at h;rw[Zb]at h;omega
def ZdK{w a l n r:Int}(h:WQ w a l n=some r)(ha:wordB w a=true)(hl:0<=l)(hn:1<=n)(hs:l+n<=w):wordB n r=true:=by
 obtain⟨h1,h2⟩:=Yr ha;unfold WQ at h;simp only[QG ha,Zee,YS]at h;rw[Zb,Zem aa,Oo _ hl]at h;simp only[Zee,Option.some.injEq]at h;rw[<-h];exact Oa hn O _
def Za6{w a n r:Int}{s:Bool}(h:XL w a n s=some r)(ha:wordB w a=true)(hs:w<=n)(hn:n<=16):wordB n r=true:=by
 obtain⟨h1,h2⟩:=Yr ha;have hv:=(Y6 h1 h2 a).1 ha;unfold XL at h;simp only[QG ha,Zee,YS,RH]at h;rw[Zem aa]at h;cases s
 ·simp at h;rw[<-h,Y6 O hn];have:(2:Int)^n.toNat=2^w.toNat*2^(n-w).toNat:=by rw[<-Int.pow_add];congr 1;omega
  have hp:(0:Int)<2^(n-w).toNat:=ZgY O;have hp2:(0:Int)<2^w.toNat:=ZgY O;have:=Int.mul_le_mul_of_nonneg_left (show(1:Int)<=2^(n-w).toNat by omega) (show(0:Int)<=2^w.toNat by omega);omega
 ·simp at h;rw[<-h];exact Oa O hn _
def Qi{w v:Int}(h:wordB w v=true):nodeB ⟨0,w,v,⟨[]⟩,[]⟩=true:=by
 grind[Yr,XJ,Yf,locB,shB,Uc]
def ZdT{op:Int}{a:D.Term}(ho:op=1\/op=2)(ha:nodeB a=true):nodeB ⟨op,a.W,0,⟨[]⟩,[a]⟩=true:=by
 have h1:=Z9 ha;rw[XJ,Yf];rcases ho with rfl|rfl<;>simp[locB,shB,Uc,ha,h1.1,h1.2]
def Dp{op w:Int}{a b:D.Term}(h3:3<=op)(h16:op<=16)(ha:nodeB a=true)(hb:nodeB b=true)(hw:a.W=b.W)(h1:op<=13->a.W=w)(h2:14<=op->w=1):nodeB ⟨op,w,0,⟨[]⟩,[a,b]⟩=true:=by
 grind[Z9,XJ,Yf,locB,shB,Uc]
def Zdq{w:Int}{a b c:D.Term}(ha:nodeB a=true)(hb:nodeB b=true)(hc:nodeB c=true)(h1:a.W=1)(h2:b.W=w)(h3:c.W=w):nodeB ⟨17,w,0,⟨[]⟩,[a,b,c]⟩=true:=by
 grind[Z9,XJ,Yf,locB,shB,Uc]
def MF{w m:Int}{a:D.Term}(ha:nodeB a=true)(h0:0<=m)(h1:1<=w)(h2:m+w<=a.W):nodeB ⟨19,w,m,⟨[]⟩,[a]⟩=true:=by
 grind[Z9,XJ,Yf,locB,shB,Uc]
def ZaL{op w:Int}{a:D.Term}(ho:op=20\/op=21)(ha:nodeB a=true)(h1:w<=16)(h2:a.W<=w):nodeB ⟨op,w,0,⟨[]⟩,[a]⟩=true:=by
 have g:=Z9 ha;rw[XJ,Yf];rcases ho with rfl|rfl<;>simp[locB,shB,Uc,ha,h1,h2,show 1<=w by omega]
def Xg{a:D.Term}(h:nodeB a=true)(ho:a.Op=0):a=⟨0,a.W,a.N,⟨[]⟩,[]⟩/\wordB a.W a.N=true:=by
 obtain⟨op,w,m,nm,ks⟩:=a;obtain⟨_,hs⟩:=ZW h;simp_all
theorem names:∀n:Nat,(∀t:D.Term,msz t<n->nodeB t=true->msz t<=11*cnt t)/\∀l:List D.Term,l.length+mszs l<n->nodesB l=true->mszs l<=11*cnts l:=by
 intro n
 induction n with
 |zero=>simp
 | succ n ih=>
  have hl:∀l:List D.Term,l.length+mszs l<n+1->nodesB l=true->mszs l<=11*cnts l:=by
   intro l h hb;cases l with
   |nil=>simp[PH]
   |cons x l=>
    simp_all[UZ,Uy,nodesB,Zek,Ze3]<;>grind
  refine⟨λt h hb=>?_,hl⟩;have hz:=Vi t;have hc:=Xr t;have hb':=hb;rw[XJ,Zek]at hb';have h2:=hl t.Kids O hb'.2;have h3:t.Name.bytes.length<=8/\t.Kids.length<=3:=by
   have hk:=hb'.1;unfold locB at hk;simp only[Zek,ZeX,Zft,Sw,Zeq]at hk;obtain⟨⟨⟨_,hn⟩,_⟩,hs⟩:=hk;refine⟨?_,?_⟩
   ·rcases hn with hn|hn
    ·rw[hn];simp
    simp_all[shB,ifn,Zei,Zek,nameB,Zeq]
   grind[BI]
  omega
theorem NK{t:D.Term}(h:nodeB t=true):msz t<=11*cnt t:=(names (msz t+1)).1 t O h
def Qv(w v:Int):Xc w v=some ⟨0,w,v,⟨[]⟩,[]⟩:=rfl
def Ut{w v:Int}(h:wordB w v=true):ZP w v=some ⟨0,w,v,⟨[]⟩,[]⟩:=by simp_all[ZP,Wp]
def Jl{ks:List D.Term}{n:Nat}(hn:ks.length<n)(hk:ks.length<=1000):iterN (λ(s1:Bool×Int)=>if(decide (s1.2<(len ks)))then(if s1.1 then(get? ks s1.2)else some default).bind λx1=>(if s1.1 then(Yp x1)else some default).bind λx2=>some (.inl ((s1.1&&x2),(w64 (s1.2+1))))else some (.inr (s1.1))) n (true,0)=some (ks.all λx=>x.Op==0):=by
 refine VQ (l:=ks) (n:=n) (σ:=Bool) (λk a=>(a,(k:Int))) (λys a=>(a&&ys.all λx=>x.Op==0)=ks.all λx=>x.Op==0) (λr=>r=ks.all λx=>x.Op==0)
  (λk x xs a hk' hx hlen hi=>by
   have hd:decide ((k:Int)<len ks)=true:=by grind[Za]
   cases a
   ·grind[Zb]
   ·simp only[Ze2,get?_nat,hx,Zee,Yp,ZeJ]
    grind[Zb])
  (λa hi=>by
   grind[decide,len,Za]) (a:=true) rfl hn λr g2=>?_
 rw[g2]
def KF{ks:List D.Term}{n:Nat}{b:Bool}(hn:ks.length<n)(hk:ks.length<=1000):iterN (λ(s1:Bool×Int×(List Int))=>if(decide (s1.2.1<(len ks)))then(get? ks s1.2.1).bind λx1=>(app? s1.2.2 ([x1.N]:List Int)).bind λx2=>some (.inl ((s1.1&&(x1.Op==0)),(w64 (s1.2.1+1)),x2))else some (.inr (s1.1,s1.2.2))) n (b,0,([]:List Int))=some ((b&&ks.all λx=>x.Op==0),ks.map (·.N)):=by
 refine VQ (l:=ks) (n:=n) (σ:=Bool×List Int) (λk a=>(a.1,(k:Int),a.2)) (λys a=>(a.1&&ys.all λx=>x.Op==0)=(b&&ks.all λx=>x.Op==0)/\a.2++ys.map (·.N)=ks.map (·.N)) (λr=>r=((b&&ks.all λx=>x.Op==0),ks.map (·.N)))
  (λk x xs a hk' hx hlen⟨hi,hj⟩=>by
   have hd:decide ((k:Int)<len ks)=true:=by grind[Za]
   have hl:a.2.length<=1000:=by
    have:=congrArg List.length hj;grind
   refine .inl ⟨(a.1&&x.Op==0,a.2++[x.N]),?_,by grind,by simp_all⟩;simp only[hd,Ze2,get?_nat,hx,Zee]
   rw[Cn aa,Zb];rfl)
  (λa⟨hi,hj⟩=>by
   have hd:decide ((ks.length:Int)<len ks)=false:=by rw[Za];simp
   simp only[hd,Zeg,Zen]
   rw[<-hi,<-hj];simp) (a:=(b,[])) ⟨rfl,rfl⟩ hn λr g2=>?_
 rw[g2]
def known{op w m:Int}{nm:Str}{ks:List D.Term}(h:nodeB ⟨op,w,m,nm,ks⟩=true)(hne:ks≠[])(hc:(ks.all λx=>x.Op==0)=true):
  ∃v,wordB w v=true/\Va ⟨op,w,m,nm,ks⟩ (ks.map (·.N))=some v/\∀n,2<=n->Zy n ⟨op,w,m,nm,ks⟩ none=some v:=by
 obtain⟨⟨w1,w2⟩,h⟩:=ZW h;have ev:∀{x:D.Term},nodeB x=true->x.Op=0->∀n,Zy (n+1) x none=some x.N:=λh e n=>by
  rw[(Xg h e).1];rfl
 suffices∃v,wordB w v=true/\Va ⟨op,w,m,nm,ks⟩ (ks.map (·.N))=some v/\∀n,Zy (n+1+1) ⟨op,w,m,nm,ks⟩ none=some v by
  obtain⟨v,h1,h2,h3⟩:=this;exact⟨v,h1,h2,λn hn=>by rw[show n=n-2+1+1 by omega];exact h3 _⟩
 unfold Va;simp only[WW];rcases h with⟨_,h,_⟩|⟨_,h,_⟩|⟨ho,rfl,rfl,a,rfl,ha,rfl⟩|⟨o3,o16,rfl,rfl,a,b,rfl,ha,hb,hab,e1,e2⟩|⟨rfl,rfl,rfl,a,b,c,rfl,ha,hb,hcc,aw,bw,cw⟩|⟨rfl,rfl,rfl,a,b,rfl,ha,hb,hab⟩|⟨rfl,rfl,m0,m16,a,rfl,ha,haw⟩|⟨ho,rfl,rfl,a,rfl,ha,haw⟩
 ·simp_all
 ·simp_all
 all_goals simp at hc
 ·obtain⟨ea,va⟩:=Xg ha hc;obtain⟨r,s1,s2⟩:=JF op a.W a.N;refine⟨r,ZdW s1 ho va,?_,λn=>?_⟩
  ·rcases ho with rfl|rfl<;>simp[geti0,s1]
  ·unfold Zy;rcases ho with rfl|rfl<;>simp[get0,ev ha hc,s2]
 ·obtain⟨ea,va⟩:=Xg ha hc.1;obtain⟨eb,vb⟩:=Xg hb hc.2;obtain⟨r,s1,s2⟩:=UV op a.W a.N b.N;have hr:=DV s1 va (hab▸vb);refine⟨r,by grind,?_,λn=>?_⟩
  ·simp[get0,geti0,geti1,s1,show¬(1<=op/\op<=2) by omega,o3,o16]
  ·unfold Zy;have:=ev ha hc.1 n;have:=ev hb hc.2 n;simp only[get0,get1];grind
 ·obtain⟨ea,va⟩:=Xg ha hc.1;obtain⟨eb,vb⟩:=Xg hb hc.2.1;obtain⟨ec,vc⟩:=Xg hcc hc.2.2;refine⟨if a.N=1 then b.N else c.N,by grind,?_,λn=>?_⟩
  ·by_cases e:a.N=1<;>simp[geti0,geti1,geti2,e]
  ·unfold Zy;by_cases e:a.N=1<;>simp[get0,get1,get2',ev ha hc.1,ev hb hc.2.1,ev hcc hc.2.2,e]
 ·obtain⟨ea,va⟩:=Xg ha hc.1;obtain⟨eb,vb⟩:=Xg hb hc.2;obtain⟨r,s1,s2⟩:=IV a.W a.N b.W b.N;refine⟨r,by rw[<-hab];exact ZcE s1 va vb O,?_,λn=>?_⟩
  ·simp[get0,get1,geti0,geti1,s1]
  ·unfold Zy;simp[get0,get1,ev ha hc.1,ev hb hc.2,s2]
 ·obtain⟨ea,va⟩:=Xg ha hc;obtain⟨r,s1,s2⟩:=Dm (w:=a.W) (a:=a.N) (l:=m) (n:=w) O O;refine⟨r,ZdK s1 va m0 w1 haw,?_,λn=>?_⟩
  ·simp[get0,geti0,s1]
  ·unfold Zy;simp[get0,ev ha hc,s2]
 ·obtain⟨ea,va⟩:=Xg ha hc;obtain⟨r,s1,s2⟩:=Gu a.W a.N w (op==21);refine⟨r,Za6 s1 va haw w2,?_,λn=>?_⟩
  ·rcases ho with rfl|rfl<;>simp at s1<;>simp[get0,geti0,s1]
  ·unfold Zy;rcases ho with rfl|rfl<;>simp at s2<;>simp[get0,ev ha hc,s2]
set_option maxHeartbeats 4000000
def runS(f:Nat->D.Term->Option D.Term)(k:Nat):D.Term⊕D.Term->Option D.Term
 |.inl r=>some r
 |.inr t=>f k t
def kd(t:D.Term)(i:Nat):D.Term:=(t.Kids[i]?).getD default
def ons(w:Int):Int:=2^w.toNat-1
def sws(op:Int):Bool:=op==3||op==5||op==8||op==9||op==10||op==14
def rdB(op w:Int)(a b:D.Term):D.Term⊕D.Term:=
 if sws op=true/\ctm a b=1 then .inr ⟨op,w,0,⟨[]⟩,[b,a]⟩
 else if a.Op=0/\((op=3\/op=9\/op=10)/\a.N=0\/op=5/\a.N=1\/op=8/\a.N=ons a.W\/op=14/\a.W=1/\a.N=1)then .inl b
 else if a.Op=0/\((op=5\/op=8)/\a.N=0\/op=9/\a.N=ons a.W)then .inl a
 else if a.Op=0/\(op=10/\a.N=ons a.W\/op=14/\a.W=1)then .inr ⟨1,w,0,⟨[]⟩,[b]⟩
 else if b.Op=0/\b.N=0/\(op=4\/11<=op/\op<=13)then .inl a
 else if b.Op=0/\b.N=0/\op=15 then .inl ⟨0,1,0,⟨[]⟩,[]⟩
 else if ctm a b=0/\(op=8\/op=9)then .inl a
 else if ctm a b=0/\(op=4\/op=10\/op=15\/op=16)then .inl ⟨0,w,0,⟨[]⟩,[]⟩
 else if ctm a b=0/\op=14 then .inl ⟨0,1,1,⟨[]⟩,[]⟩
 else if sws op=true/\op≠14/\a.Op=0/\b.Op=op/\(kd b 0).Op=0 then .inr ⟨op,w,0,⟨[]⟩,[⟨0,w,(Yb op w a.N (kd b 0).N).getD 0,⟨[]⟩,[]⟩,kd b 1]⟩
 else .inl ⟨op,w,0,⟨[]⟩,[a,b]⟩
def ZdN{c d:D.Term}(e3:ctm c d=0):c.W=d.W:=by
 rw[Gr]at e3;by_cases q1:sg c.Op d.Op=0
 ·by_cases q2:sg c.W d.W=0
  ·unfold sg at q2;split at q2<;>(try split at q2)<;>omega
  ·simp[q1,q2]at e3
 ·simp[q1]at e3
def VT{α:Type}(x:Option α):(x.bind λy=>some y)=x:=by cases x<;>rfl
def Gn{a:D.Term}{op:Int}(h:nodeB a=true)(ho:a.Op=op)(h3:3<=op)(h16:op<=16):∃b c,a=⟨op,a.W,0,⟨[]⟩,[b,c]⟩/\nodeB b=true/\nodeB c=true/\b.W=c.W/\(op<=13->b.W=a.W):=by
 obtain⟨aop,aw,am,anm,aks⟩:=a;simp only at ho;subst ho;obtain⟨_,hs⟩:=ZW h;rcases hs with h|h|h|⟨_,_,rfl,rfl,b,c,rfl,h2,h3,h4,h5,h6⟩|h|h|h|h
 ·exfalso;have:=h.1;omega
 ·exfalso;have:=h.1;omega
 ·exfalso;have:=h.1;omega
 ·exact⟨b,c,rfl,h2,h3,h4,h5⟩
 ·exfalso;have:=h.1;omega
 ·exfalso;have:=h.1;omega
 ·exfalso;have:=h.1;omega
 ·exfalso;have:=h.1;omega
def Cz{w:Int}(h1:1<=w)(h2:w<=16):wordB w 0=true:=by
 obtain⟨p1,p2,p3⟩:=Oj h1 h2;rw[Y6 h1 h2,p1];omega
def ZaZ{a:D.Term}(ha:nodeB a=true):TD a.W=some (ons a.W)/\UW a=some (a.Op==0&&(a.N==ons a.W))/\1<=ons a.W/\wordB a.W (ons a.W)=true:=by
 have g:=Z9 ha;obtain⟨a1,a2,a3,a4,a5⟩:=Tn g.1 g.2;unfold ons;refine⟨?_,?_,by omega,by rw[Y6 g.1 g.2];omega⟩
 ·unfold TD;rw[a2];simp only[Zee];rw[a3]
 ·unfold UW;by_cases c:a.Op=0
  ·simp[c,a1,a3]
  ·rw[show(a.Op==0)=false by simpa using c];rfl
def cnt1(op w m:Int)(nm:Str)(a:D.Term):cnt ⟨op,w,m,nm,[a]⟩=1+cnt a:=by rw[Xr];simp only[Uy,Uh];omega
def cnt2(op w m:Int)(nm:Str)(a b:D.Term):cnt ⟨op,w,m,nm,[a,b]⟩=1+cnt a+cnt b:=by rw[Xr];simp only[Uy,Uh];omega
def cnt3(op w m:Int)(nm:Str)(a b c:D.Term):cnt ⟨op,w,m,nm,[a,b,c]⟩=1+cnt a+cnt b+cnt c:=by rw[Xr];simp only[Uy,Uh];omega
def cnt0(w v:Int):cnt ⟨0,w,v,⟨[]⟩,[]⟩=1:=by rw[Xr];simp only[Uh]
def QD(t:D.Term):1<=cnt t:=by rw[Xr];omega
def PP{a:D.Term}(h:nodeB a=true)(ho:a.Op=19):∃c,a=⟨19,a.W,a.N,⟨[]⟩,[c]⟩/\nodeB c=true/\0<=a.N/\a.N<=16/\a.N+a.W<=c.W:=by
 obtain⟨aop,aw,am,anm,aks⟩:=a;simp only at ho;subst ho;obtain⟨_,hs⟩:=ZW h;rcases hs with h|h|h|h|h|h|⟨_,rfl,h0,h1,c,rfl,h2,h3⟩|h
 ·exfalso;have:=h.1;omega
 ·exfalso;have:=h.1;omega
 ·exfalso;have:=h.1;omega
 ·exfalso;have:=h.2.1;omega
 ·exfalso;have:=h.1;omega
 ·exfalso;have:=h.1;omega
 ·exact⟨c,rfl,h2,h0,h1,h3⟩
 ·exfalso;have:=h.1;omega
def LB{a:D.Term}{op:Int}(h:nodeB a=true)(ho:a.Op=op)(hop:op=20\/op=21):∃c,a=⟨op,a.W,0,⟨[]⟩,[c]⟩/\nodeB c=true/\c.W<=a.W:=by
 obtain⟨aop,aw,am,anm,aks⟩:=a;simp only at ho;subst ho;obtain⟨_,hs⟩:=ZW h;rcases hs with h|h|h|h|h|h|h|⟨_,rfl,rfl,c,rfl,h2,h3⟩
 ·exfalso;have:=h.1;omega
 ·exfalso;have:=h.1;omega
 ·exfalso;have:=h.1;omega
 ·exfalso;have:=h.2.1;omega
 ·exfalso;have:=h.1;omega
 ·exfalso;have:=h.1;omega
 ·exfalso;have:=h.1;omega
 ·exact⟨c,rfl,h2,h3⟩
def CP{a:D.Term}(h:nodeB a=true)(ho:a.Op=1):∃c,a=⟨1,a.W,0,⟨[]⟩,[c]⟩/\nodeB c=true/\c.W=a.W:=by
 obtain⟨aop,aw,am,anm,aks⟩:=a;simp only at ho;subst ho;obtain⟨_,hs⟩:=ZW h;rcases hs with h|h|⟨_,rfl,rfl,c,rfl,h2,h3⟩|h|h|h|h|h
 ·exfalso;have:=h.1;omega
 ·exfalso;have:=h.1;omega
 ·exact⟨c,rfl,h2,h3⟩
 ·exfalso;have:=h.1;omega
 ·exfalso;have:=h.1;omega
 ·exfalso;have:=h.1;omega
 ·exfalso;have:=h.1;omega
 ·exfalso;have:=h.1;omega
def Km{a:D.Term}(h:nodeB a=true)(ho:a.Op=18):∃b c,a=⟨18,a.W,0,⟨[]⟩,[b,c]⟩/\nodeB b=true/\nodeB c=true/\b.W+c.W=a.W:=by
 obtain⟨aop,aw,am,anm,aks⟩:=a;simp only at ho;subst ho;obtain⟨_,hs⟩:=ZW h;rcases hs with h|h|h|h|h|⟨_,rfl,rfl,b,c,rfl,h2,h3,h4⟩|h|h
 ·exfalso;have:=h.1;omega
 ·exfalso;have:=h.1;omega
 ·exfalso;have:=h.1;omega
 ·exfalso;have:=h.2.1;omega
 ·exfalso;have:=h.1;omega
 ·exact⟨b,c,rfl,h2,h3,h4⟩
 ·exfalso;have:=h.1;omega
 ·exfalso;have:=h.1;omega
def Zbk{a:D.Term}{op:Int}(h:nodeB a=true)(e:a.Op=op)(ho:op=1\/op=2):∃c,a=⟨op,a.W,0,⟨[]⟩,[c]⟩/\nodeB c=true/\c.W=a.W:=by
 obtain⟨aop,aw,am,anm,aks⟩:=a;obtain⟨_,hs⟩:=ZW h;grind
def PR{k:Nat}{op w m:Int}{nm:Str}{ks:List D.Term}(hk:ks≠[])(hl:ks.length<=3)(hc:(ks.all λx=>x.Op==0)=false):ZL (k+8) ⟨op,w,m,nm,ks⟩=
   if((op==1)||(op==2))then
    Wz ⟨op,w,m,nm,ks⟩
   else
    if(op==17)then
     Vg (k+7) ⟨op,w,m,nm,ks⟩
    else
     if(op==19)then
      WB (k+7) ⟨op,w,m,nm,ks⟩
     else
      if((op==20)||(op==21))then
       XD (k+7) ⟨op,w,m,nm,ks⟩
      else
       if(op==18)then
        Xw (k+7) ⟨op,w,m,nm,ks⟩
       else
        Yg (k+7) ⟨op,w,m,nm,ks⟩:=by
 rw[show k+8=(k+7)+1 from rfl,ZL];simp only[VT];rw[Zem (by rw[Za];simpa using hk),Jl O O,hc];simp only[Zee,Zeg,Zen]
def QC{k:Nat}{op w m:Int}{nm:Str}{ks:List D.Term}(hl:ks.length<=3)(hc:(decide (len ks>0)&&ks.all λx=>x.Op==0)=false):Zm (k+8) ⟨op,w,m,nm,ks⟩=
  if decide (3<=op/\op<=16)then
   WJ (k+7) ⟨op,w,m,nm,ks⟩
  else
   if((op==1)||(op==2))then
    (get? ks 0).bind λx7=>
    if(x7.Op==op)then
     (get? ks 0).bind λx8=>
     get? x8.Kids 0
    else
     some ⟨op,w,m,nm,ks⟩
   else
    if(op==17)then
     Tc (k+7) ⟨op,w,m,nm,ks⟩
    else
     if(op==19)then
      UI (k+7) ⟨op,w,m,nm,ks⟩
     else
      if ((op==20)||(op==21))then
       (get? ks 0).bind λx12=>
       if(x12.W==w)then
        some x12
       else
        if(x12.Op==op)then
         Zm (k+7) (D.Term.mk op w 0 ⟨[]⟩ x12.Kids)
        else
         some ⟨op,w,m,nm,ks⟩
      else
       if(op==18)then
        (get? ks 0).bind λx14=>
        (get? ks 1).bind λx15=>
        (if((x14.Op==19)&&(x15.Op==19))then(get? x14.Kids 0)else some default).bind λx16=>
        (if((x14.Op==19)&&(x15.Op==19))then(get? x15.Kids 0)else some default).bind λx17=>
        (if((x14.Op==19)&&(x15.Op==19))then(YF (k+7) x16 x17)else some default).bind λx18=>
        if((((x14.Op==19)&&(x15.Op==19))&&x18)&&(x14.N==(w64 (x15.N+x15.W))))then
         Zm (k+7) (D.Term.mk 19 w x15.N ⟨[]⟩ x15.Kids)
        else
         some ⟨op,w,m,nm,ks⟩
       else
        some ⟨op,w,m,nm,ks⟩:=by
 rw[show k+8=(k+7)+1 from rfl,Zm];simp only[VT,WW];rw[KF O O,hc];simp only[Zee,Zeg,Zen]
def rdI(w:Int)(a b c:D.Term):D.Term⊕D.Term:=
 if a.Op=0/\a.N=1 then .inl b else if a.Op=0 then .inl c else if ctm b c=0 then .inl b
 else if a.Op=1 then .inr ⟨17,w,0,⟨[]⟩,[kd a 0,c,b]⟩
 else if w=1/\b.Op=0/\b.N=1/\c.Op=0/\c.N=0 then .inl a
 else if w=1/\b.Op=0/\b.N=0/\c.Op=0/\c.N=1 then .inr ⟨1,1,0,⟨[]⟩,[a]⟩
 else .inl ⟨17,w,0,⟨[]⟩,[a,b,c]⟩
def rdC(w m:Int)(a:D.Term):D.Term⊕D.Term:=
 if w=a.W then .inl a
 else if a.Op=19 then .inr ⟨19,w,m+a.N,⟨[]⟩,[kd a 0]⟩
 else if a.Op=18/\m+w<=(kd a 1).W then .inr ⟨19,w,m,⟨[]⟩,[kd a 1]⟩
 else if a.Op=18/\(kd a 1).W<=m then .inr ⟨19,w,m-(kd a 1).W,⟨[]⟩,[kd a 0]⟩
 else if(a.Op=20\/a.Op=21)/\m+w<=(kd a 0).W then .inr ⟨19,w,m,⟨[]⟩,[kd a 0]⟩
 else .inl ⟨19,w,m,⟨[]⟩,[a]⟩
def rdW(op w:Int)(a:D.Term):D.Term⊕D.Term:=
 if a.W=w then .inl a else if a.Op=op then .inr ⟨op,w,0,⟨[]⟩,[kd a 0]⟩else .inl ⟨op,w,0,⟨[]⟩,[a]⟩
def rdJ(w:Int)(a b:D.Term):D.Term⊕D.Term:=
 if a.Op=19/\b.Op=19/\a.N=b.N+b.W/\ctm (kd a 0) (kd b 0)=0 then .inr ⟨19,w,b.N,⟨[]⟩,[kd b 0]⟩else .inl ⟨18,w,0,⟨[]⟩,[a,b]⟩
def rdU(op w:Int)(a:D.Term):D.Term⊕D.Term:=if a.Op=op then .inl (kd a 0)else .inl ⟨op,w,0,⟨[]⟩,[a]⟩
def Stp(t:D.Term)(s:D.Term⊕D.Term):Prop:=∀k out,1100000<=k->((∀m,k<=m->runS ZL m s=some out)->ZL (k+8) t=some out)/\((∀m,k<=m->runS Zm m s=some out)->Zm (k+8) t=some out)
def Zdf{op w:Int}{a:D.Term}(ho:op=1\/op=2)(ha:nodeB a=true)(hc:(a.Op==0)=false):Stp ⟨op,w,0,⟨[]⟩,[a]⟩ (rdU op w a):=λk out hk=>by
 rw[PR U U aW,QC U aW];have kb:a.Op=op->get? a.Kids 0=some (kd a 0):=λe=>by
  obtain⟨c,eb,-⟩:=Zbk ha e ho;unfold kd;rw[eb];rfl
 unfold rdU;refine⟨λh=>?_,λh=>?_⟩<;>replace h:=h k O<;>by_cases e:a.Op=op
 all_goals(rcases ho with rfl|rfl<;>simp[Wz,get0,e]at kb h⊢<;>grind[runS])
def ZcG{w:Int}{a b c:D.Term}(ha:nodeB a=true)(hb:nodeB b=true)(h1:a.W=1)(hc:(a.Op==0&&(b.Op==0&&c.Op==0))=false)(hn:cnt b<=240):Stp ⟨17,w,0,⟨[]⟩,[a,b,c]⟩ (rdI w a b c):=λk out hk=>by
 have hc':([a,b,c].all λx=>x.Op==0)=false:=by simpa using hc
 have hmb:=NK hb;have i2:YA (k+6) b c=some (ctm b c==0):=NY O O;have s2:YF (k+6) b c=some (ctm b c==0):=Ma O O;have w1:a.Op=0->a.N=0\/a.N=1:=λe0=>by
  have:=(Xg ha e0).2;rw[h1]at this;have:=(Y6 O O a.N).1 this;have:(2:Int)^(1:Int).toNat=2:=rfl;omega
 have kb:a.Op=1->get? a.Kids 0=some (kd a 0):=λe=>by
  obtain⟨c,eb,-⟩:=CP ha e;unfold kd;rw[eb];rfl
 rw[PR U U hc',QC U (by rw[hc'];simp)];unfold rdI;clear hc hc';refine⟨λh=>?_,λh=>?_⟩
 ·have h5:=h (k+5) O;clear h;by_cases e:a.Op=1<;>by_cases e0:a.Op=0<;>by_cases e1:w=1<;>by_cases q1:b.Op=0<;>by_cases q2:c.Op=0<;>simp[q1,q2,Vg,Z0,Y1,Yp,VT,get0,get1,get2',i2,e,e0,e1]at h5⊢<;>grind[runS]
 ·have h5:=h (k+6) O;clear h;by_cases e:a.Op=1<;>by_cases e0:a.Op=0<;>by_cases e1:w=1<;>by_cases q1:b.Op=0<;>by_cases q2:c.Op=0<;>simp[q1,q2,Tc,YZ,VT,get0,get1,get2',s2,e,e0,e1]at h5⊢<;>grind[runS]
def ZbP{op w:Int}{a:D.Term}(ho:op=20\/op=21)(ha:nodeB a=true)(hc:(a.Op==0)=false):Stp ⟨op,w,0,⟨[]⟩,[a]⟩ (rdW op w a):=λk out hk=>by
 have kb:a.Op=op->get? a.Kids 0=some (kd a 0)/\a.Kids=[kd a 0]:=λe=>by
  obtain⟨c,eb,-⟩:=LB ha e ho;unfold kd;rw[eb];exact⟨rfl,rfl⟩
 rw[PR U U aW,QC U aW];unfold rdW;refine⟨λh=>?_,λh=>?_⟩
 ·have h5:=h (k+5) O;rcases ho with rfl|rfl<;>simp[XD,Z0,VT,get0]<;>grind[runS]
 ·have h5:=h (k+7) O;rcases ho with rfl|rfl<;>simp[VT,get0]<;>grind[runS]
def ZbJ{w m:Int}{a:D.Term}(ha:nodeB a=true)(h0:0<=m)(hm:m<=16)(h1:1<=w)(hw:m+w<=a.W)(hc:(a.Op==0)=false):Stp ⟨19,w,m,⟨[]⟩,[a]⟩ (rdC w m a):=λk out hk=>by
 have g:=Z9 ha;have w1:w64 (m+w)=m+w:=Zb;have k9:a.Op=19->get? a.Kids 0=some (kd a 0)/\w64 (m+a.N)=m+a.N:=λe=>by
  obtain⟨c,eb,-,n0,n1,-⟩:=PP ha e;unfold kd;rw[Zb,eb];exact⟨rfl,rfl⟩
 have k8:a.Op=18->get? a.Kids 0=some (kd a 0)/\get? a.Kids 1=some (kd a 1)/\w64 (m-(kd a 1).W)=m-(kd a 1).W:=λe=>by
  obtain⟨b,c,eb,h2,h3,-⟩:=Km ha e;have:=Z9 h3;have e1:kd a 1=c:=by unfold kd;rw[eb];rfl
  rw[e1,Zb];unfold kd;rw[eb];exact⟨rfl,rfl,rfl⟩
 have k0:a.Op=20\/a.Op=21->get? a.Kids 0=some (kd a 0):=λe=>by
  obtain⟨c,eb,-⟩:=LB ha rfl e;unfold kd;rw[eb];rfl
 rw[PR U U aW,QC U aW];unfold rdC;refine⟨λh=>?_,λh=>?_⟩<;>replace h:=h (k+5) O<;>by_cases e:w=a.W
 all_goals by_cases e9:a.Op=19
 all_goals by_cases e8:a.Op=18
 all_goals by_cases e0:a.Op=20\/a.Op=21
 all_goals simp[WB,Z0,UI,WI,VT,WW,get0,w1,e,e9,e8,e0]at k9 k8 k0 h⊢
 all_goals grind[runS]
def Ap{w:Int}{a b:D.Term}(ha:nodeB a=true)(hb:nodeB b=true)(hc:(a.Op==0&&b.Op==0)=false)(hn:cnt a<=240):Stp ⟨18,w,0,⟨[]⟩,[a,b]⟩ (rdJ w a b):=λk out hk=>by
 have hc':([a,b].all λx=>x.Op==0)=false:=by simpa using hc
 have gb:=Z9 hb;have kb:a.Op=19->b.Op=19->get? a.Kids 0=some (kd a 0)/\b.Kids=[kd b 0]/\w64 (b.N+b.W)=b.N+b.W/\YA (k+6) (kd a 0) (kd b 0)=some (ctm (kd a 0) (kd b 0)==0)/\YF (k+7) (kd a 0) (kd b 0)=some (ctm (kd a 0) (kd b 0)==0):=λe e1=>by
  obtain⟨c,ea,hcc,-⟩:=PP ha e;obtain⟨d,eb,-,n0,n1,-⟩:=PP hb e1;have:=NK hcc;rw[ea,cnt1]at hn;have e2:kd a 0=c:=by unfold kd;rw[ea];rfl
  have e3:kd b 0=d:=by unfold kd;rw[eb];rfl
  rw[e2,e3,Zb,NY O O,Ma O O,ea,eb];exact⟨rfl,rfl,rfl,rfl,rfl⟩
 rw[PR U U hc',QC U (by rw[hc'];simp)];clear hc hc';unfold rdJ;by_cases e:a.Op=19/\b.Op=19
 ·obtain⟨k1,k2,k3,k4,k5⟩:=kb e.1 e.2;refine⟨λh=>?_,λh=>?_⟩<;>have h5:=h (k+5) O<;>have h7:=h (k+7) O<;>clear h<;>by_cases q:a.N=b.N+b.W
  all_goals simp[Xw,Z0,VT,get0,get1,e.1,e.2,k1,k2,k3,k4,k5,q]at h5 h7⊢
  all_goals grind[runS]
 ·refine⟨λh=> ?_,λh=> ?_⟩<;>replace h:=h k O<;>by_cases e1:a.Op=19<;>by_cases e2:b.Op=19
  all_goals simp[Xw,get0,get1,e1,e2]at e h⊢
  all_goals grind[runS]
def Zc3{k:Nat}{op w:Int}{a b out:D.Term}(h3:3<=op)(h16:op<=16)(ha:nodeB a=true)(hb:nodeB b=true)(hw:a.W=b.W)(h1:op<=13->a.W=w)(h2:14<=op->w=1)
  (hc:(a.Op==0&&b.Op==0)=false)(hn:cnt a<=240)(hk:1100000<=k)(h:∀m,k<=m->runS ZL m (rdB op w a b)=some out):Yg (k+7) ⟨op,w,0,⟨[]⟩,[a,b]⟩=some out:=by
 have hma:=NK ha;have i1:Yi (k+6) a b=some (ctm a b):=GG _ _ _ O O;have i2:YA (k+6) a b=some (ctm a b==0):=NY O O;obtain⟨o1,-,o3,o4⟩:=ZaZ ha;have ga:=Z9 ha;have hz:=Cz (w:=w) O O;have ea:a.Op=0->a=⟨0,a.W,a.N,⟨[]⟩,[]⟩/\wordB a.W a.N=true:=Xg ha;have c0:=Ut hz;have c1:=Ut (w:=1) (v:=0) ay;have c2:=Ut (w:=1) (v:=1) ay;have c3:=Ut o4;have w1:a.W=1->a.Op=0->a.N=0\/a.N=1:=λe e0=>by
  have:=(ea e0).2;rw[e]at this;have:=(Y6 O O a.N).1 this;have:(2:Int)^(1:Int).toNat=2:=rfl;omega
 have hop:op=3\/op=4\/op=5\/op=6\/op=7\/op=8\/op=9\/op=10\/op=11\/op=12\/op=13\/op=14\/op=15\/op=16:=by omega
 have kb:b.Op=op->get? b.Kids 0=some (kd b 0)/\get? b.Kids 1=some (kd b 1)/\((kd b 0).Op=0->op<=13->a.Op=0->∃r,Yb op w a.N (kd b 0).N=some r/\ZP w r=some ⟨0,w,r,⟨[]⟩,[]⟩):=λe=>by
  obtain⟨c,d,eb,hcc,hd,hcd,hcw⟩:=Gn hb e h3 h16;unfold kd;rw[eb];refine⟨rfl,rfl,λe2 o e0=>?_⟩;obtain⟨ec,vc⟩:=Xg hcc e2;obtain⟨r,q1,q2⟩:=UV op w a.N c.N;exact⟨r,q2,Ut ((DV q1 (by rw[<-h1 o];exact(ea e0).2) (by rw[<-h1 o,hw,<-hcw o];exact vc)).1 ⟨h3,o⟩)⟩
 have h4:=h (k+4) O;have h5:=h (k+5) O;clear h;unfold rdB at h4 h5;by_cases e0:a.Op=0<;>by_cases e1:b.Op=op
 ·obtain⟨g0,g1,g2⟩:=kb e1;by_cases e2:(kd b 0).Op=0/\op<=13
  ·obtain⟨r,g3,g4⟩:=g2 e2.1 e2.2 e0;have e3:=e2.1;rcases hop with rfl|rfl|rfl|rfl|rfl|rfl|rfl|rfl|rfl|rfl|rfl|rfl|rfl|rfl<;>by_cases z:a.N=0<;>simp[z,Yg,XO,Y1,Yp,get0,get1,i1,i2,o1,sws,YX,Z0,VT,e0,e1,e3,g0,g1,g3,g4]at h4 h5⊢<;>grind[runS]
  ·rcases hop with rfl|rfl|rfl|rfl|rfl|rfl|rfl|rfl|rfl|rfl|rfl|rfl|rfl|rfl<;>by_cases z:a.N=0<;>simp[z,Yg,XO,Y1,Yp,get0,get1,i1,i2,o1,sws,YX,Z0,VT,e0,e1,g0,g1]at e2 h4 h5⊢<;>grind[runS]
 all_goals rcases hop with rfl|rfl|rfl|rfl|rfl|rfl|rfl|rfl|rfl|rfl|rfl|rfl|rfl|rfl<;>by_cases z:a.N=0<;>simp[z,Yg,XO,Y1,Yp,get0,get1,i1,i2,o1,sws,YX,Z0,VT,e0,e1]at h4 h5⊢<;>grind[runS]
def ZcP{k:Nat}{op w:Int}{a b out:D.Term}(h3:3<=op)(h16:op<=16)(ha:nodeB a=true)(hb:nodeB b=true)(hw:a.W=b.W)(h1:op<=13->a.W=w)(h2:14<=op->w=1)
  (hc:(a.Op==0&&b.Op==0)=false)(hn:cnt a<=240)(hk:1100000<=k)(h:∀m,k<=m->runS Zm m (rdB op w a b)=some out):WJ (k+7) ⟨op,w,0,⟨[]⟩,[a,b]⟩=some out:=by
 have hma:=NK ha;have i1:Yj (k+6) a b=some (ctm a b):=Eb _ _ _ O O;have i2:YF (k+6) a b=some (ctm a b==0):=Ma O O;have gt:=ZaQ a b;obtain⟨-,o1,o3,o4⟩:=ZaZ ha;have ea:a.Op=0->a=⟨0,a.W,a.N,⟨[]⟩,[]⟩/\wordB a.W a.N=true:=Xg ha;have w1:a.W=1->a.Op=0->a.N=0\/a.N=1:=λe e0=>by
  have:=(ea e0).2;rw[e]at this;have:=(Y6 O O a.N).1 this;have:(2:Int)^(1:Int).toNat=2:=rfl;omega
 have hop:op=3\/op=4\/op=5\/op=6\/op=7\/op=8\/op=9\/op=10\/op=11\/op=12\/op=13\/op=14\/op=15\/op=16:=by omega
 have h4:=h (k+5) O;have h5:=h (k+6) O;clear h;unfold rdB at h4 h5;obtain⟨r,q1,q2⟩:=UV op w a.N (kd b 0).N;have kb:b.Op=op->get? b.Kids 0=some (kd b 0)/\get? b.Kids 1=some (kd b 1):=λe=>by
  obtain⟨c,d,eb,-⟩:=Gn hb e h3 h16;unfold kd;rw[eb];exact⟨rfl,rfl⟩
 by_cases e1:b.Op=op
 ·obtain⟨g0,g1⟩:=kb e1;rcases hop with rfl|rfl|rfl|rfl|rfl|rfl|rfl|rfl|rfl|rfl|rfl|rfl|rfl|rfl<;>by_cases e0:a.Op=0<;>by_cases z:a.N=0<;>simp[z,WJ,Vh,Ua,YZ,VT,Qv,get0,get1,i1,i2,o1,sws,WW,e0,e1,g0,g1,q1,q2]at h4 h5⊢<;>grind[runS]
 ·rcases hop with rfl|rfl|rfl|rfl|rfl|rfl|rfl|rfl|rfl|rfl|rfl|rfl|rfl|rfl<;>by_cases e0:a.Op=0<;>by_cases z:a.N=0<;>simp[z,WJ,Vh,Ua,YZ,VT,Qv,get0,get1,i1,i2,o1,sws,WW,e0,e1]at h4 h5⊢<;>grind[runS]
def swp(t:D.Term):Nat:=match t.Kids with
 |[a,b]=>if 0<ctm a b then 1 else 0
 |_=>0
def mea(t:D.Term):Nat:=2*cnt t+swp t
def ZbT(t:D.Term):swp t<=1:=by
 unfold swp;split
 ·split<;>omega
 ·omega
def Good(t:D.Term):D.Term⊕D.Term->Prop
 |.inl r=>nodeB r=true/\r.W=t.W/\cnt r<=cnt t
 |.inr u=>nodeB u=true/\u.W=t.W/\cnt u<=cnt t/\mea u<mea t
def Vd{t u:D.Term}(h:nodeB u=true)(hw:u.W=t.W)(hc:cnt u<cnt t):Good t (.inr u):=by
 have:=ZbT u;exact⟨h,hw,by omega,by unfold mea;omega⟩
def Dt{op w:Int}{a:D.Term}(ho:op=1\/op=2)(ha:nodeB a=true)(hw:a.W=w):nodeB ⟨op,w,0,⟨[]⟩,[a]⟩=true:=hw▸ZdT ho ha
def ZcH{w:Int}{a b:D.Term}(ha:nodeB a=true)(hb:nodeB b=true)(hw:a.W+b.W=w)(h16:w<=16):nodeB ⟨18,w,0,⟨[]⟩,[a,b]⟩=true:=by
 have g1:=Z9 ha;have g2:=Z9 hb;rw[XJ,Yf];simp[locB,shB,Uc,ha,hb,hw,h16,show 1<=w by omega]
def kd0(op w m:Int)(nm:Str)(x:D.Term)(l:List D.Term):kd ⟨op,w,m,nm,x::l⟩ 0=x:=rfl
def kd1(op w m:Int)(nm:Str)(x y:D.Term)(l:List D.Term):kd ⟨op,w,m,nm,x::y::l⟩ 1=y:=rfl
def ZcR{op w:Int}{a:D.Term}(ho:op=1\/op=2)(ha:nodeB a=true)(hw:a.W=w):Good ⟨op,w,0,⟨[]⟩,[a]⟩ (rdU op w a):=by
 unfold rdU;split
 ·rename_i e;obtain⟨c,ea,hcc,hcw⟩:=Zbk ha e ho;rw[ea,kd0];exact⟨hcc,by rw[hcw,hw],by rw[cnt1,cnt1];omega⟩
 ·exact⟨Dt ho ha hw,rfl,Zes _⟩
def ZaP{op w:Int}{a:D.Term}(ho:op=20\/op=21)(ha:nodeB a=true)(hw:a.W<=w)(h16:w<=16):Good ⟨op,w,0,⟨[]⟩,[a]⟩ (rdW op w a):=by
 unfold rdW;split
 ·exact⟨ha,‹_›,by rw[cnt1];omega⟩
 ·split
  ·rename_i e;obtain⟨c,ea,hcc,hcw⟩:=LB ha e ho;rw[ea,kd0];exact Vd (ZaL ho hcc h16 O) rfl (by rw[cnt1,cnt1,cnt1];omega)
  ·exact⟨ZaL ho ha h16 hw,rfl,Zes _⟩
def ZcU{w:Int}{a b c:D.Term}(ha:nodeB a=true)(hb:nodeB b=true)(hcc:nodeB c=true)(h1:a.W=1)(h2:b.W=w)(h3:c.W=w):Good ⟨17,w,0,⟨[]⟩,[a,b,c]⟩ (rdI w a b c):=by
 have pa:=QD a;have pb:=QD b;have pc:=QD c;unfold rdI
 repeat' split
 ·exact⟨hb,h2,by rw[cnt3];omega⟩
 ·exact⟨hcc,h3,by rw[cnt3];omega⟩
 ·exact⟨hb,h2,by rw[cnt3];omega⟩
 ·obtain⟨d,ea,hd,hdw⟩:=CP ha ‹_›;rw[ea,kd0];exact Vd (Zdq hd hcc hb O h3 h2) rfl (by rw[cnt3,cnt3,cnt1];omega)
 ·exact⟨ha,by rw[h1];exact Eq.symm (And.left ‹_›),by rw[cnt3];omega⟩
 ·exact Vd (Dt (.inl rfl) ha h1) (Eq.symm (And.left ‹_›)) (by rw[cnt1,cnt3];omega)
 ·exact⟨Zdq ha hb hcc h1 h2 h3,rfl,Zes _⟩
def AY{w:Int}{a b:D.Term}(ha:nodeB a=true)(hb:nodeB b=true)(hw:a.W+b.W=w)(h16:w<=16):Good ⟨18,w,0,⟨[]⟩,[a,b]⟩ (rdJ w a b):=by
 have ga:=Z9 ha;have gb:=Z9 hb;unfold rdJ;split
 ·rename_i h;obtain⟨e1,e2,e3,e4⟩:=h;obtain⟨c,ea,hcc,a0,a16,hcw⟩:=PP ha e1;obtain⟨d,eb,hd,b0,b16,hdw⟩:=PP hb e2;rw[ea,eb,kd0,kd0]at e4;have hcd:=ZdN e4;rw[show kd b 0=d by rw[eb];rfl];exact Vd (MF hd b0 O O) rfl (by rw[ea,eb,cnt1,cnt2,cnt1,cnt1];omega)
 ·exact⟨ZcH ha hb hw h16,rfl,Zes _⟩
def ZbA{w m:Int}{a:D.Term}(ha:nodeB a=true)(h0:0<=m)(hm:m<=16)(h1:1<=w)(hw:m+w<=a.W):Good ⟨19,w,m,⟨[]⟩,[a]⟩ (rdC w m a):=by
 unfold rdC
 repeat' split
 ·exact⟨ha,Eq.symm ‹_›,by rw[cnt1];omega⟩
 ·obtain⟨c,ea,hcc,b0,b16,hcw⟩:=PP ha ‹_›;rw[ea,kd0];exact Vd (MF hcc (by show 0<=m+a.N;omega) h1 (by show m+a.N+w<=_;omega)) rfl (by rw[cnt1,cnt1,cnt1];omega)
 ·rename_i h;obtain⟨b,c,ea,hb,hcc,hbc⟩:=Km ha h.1;rw[ea,kd1]at h⊢;exact Vd (MF hcc h0 h1 h.2) rfl (by rw[cnt1,cnt1,cnt2];omega)
 ·rename_i h;obtain⟨b,c,ea,hb,hcc,hbc⟩:=Km ha h.1;rw[ea,kd1]at h;rw[ea,kd1,kd0];exact Vd (MF hb O h1 O) rfl (by rw[cnt1,cnt1,cnt2];omega)
 ·rename_i h;obtain⟨c,ea,hcc,hcw⟩:=LB ha rfl h.1;rw[ea,kd0]at h;rw[show kd a 0=c by rw[ea];rfl];exact Vd (MF hcc h0 h1 h.2) rfl (by rw[ea,cnt1,cnt1,cnt1];omega)
 ·exact⟨MF ha h0 h1 hw,rfl,Zes _⟩
def Za4{op w:Int}{a b:D.Term}(h3:3<=op)(h16:op<=16)(ha:nodeB a=true)(hb:nodeB b=true)(hw:a.W=b.W)(h1:op<=13->a.W=w)(h2:14<=op->w=1):Good ⟨op,w,0,⟨[]⟩,[a,b]⟩ (rdB op w a b):=by
 have ga:=Z9 ha;have pa:=QD a;have pb:=QD b;have hs:sws op=true->op=3\/op=5\/op=8\/op=9\/op=10\/op=14:=λe=>by simpa[sws,or_assoc]using e
 have hz:=Cz (w:=w) O O;unfold rdB
 repeat' split
 ·rename_i h;refine⟨Dp h3 h16 hb ha hw.symm (λo=>by have:=h1 o;omega) h2,rfl,by rw[cnt2,cnt2];omega,?_⟩;have e:ctm b a=-1:=by rw[Zc6,h.2]
  unfold mea swp;rw[cnt2,cnt2];simp[e,h.2];omega
 ·exact⟨hb,by show b.W=w;grind,by rw[cnt2];omega⟩
 ·exact⟨ha,by show a.W=w;grind,by rw[cnt2];omega⟩
 ·exact Vd (Dt (.inl rfl) hb an) rfl (by rw[cnt1,cnt2];omega)
 ·exact⟨ha,by show a.W=w;grind,by rw[cnt2];omega⟩
 ·exact⟨Qi ay,by show 1=w;grind,by rw[cnt2,cnt0];omega⟩
 ·exact⟨ha,by show a.W=w;grind,by rw[cnt2];omega⟩
 ·exact⟨Qi hz,rfl,by rw[cnt2,cnt0];omega⟩
 ·exact⟨Qi ay,by show 1=w;grind,by rw[cnt2,cnt0];omega⟩
 ·rename_i h;obtain⟨q1,q2,q3,q4,q5⟩:=h;have:=hs q1;obtain⟨c,d,eb,hcc,hd,hcd,hcw⟩:=Gn hb q4 h3 h16;rw[show kd b 0=c by rw[eb];rfl]at q5⊢;rw[show kd b 1=d by rw[eb];rfl];obtain⟨ea,va⟩:=Xg ha q3;obtain⟨ec,vc⟩:=Xg hcc q5;obtain⟨r,s1,s2⟩:=UV op w a.N c.N;have o:op<=13:=by omega
  have vr:wordB w r=true:=(DV s1 (by rw[<-h1 o];exact va) (by rw[<-h1 o,hw,<-hcw o];exact vc)).1 ⟨h3,o⟩;rw[s2,ZeF];have pc:=QD c;exact Vd (Dp h3 h16 (Qi vr) hd (by show w=d.W;have:=hcw o;have:=h1 o;omega) (λ_=>rfl) (λo=>by omega)) rfl (by rw[eb,cnt2,cnt2,cnt2,cnt0];omega)
 ·exact⟨Dp h3 h16 ha hb hw h1 h2,rfl,Zes _⟩
def Zbr{op w:Int}{a b:D.Term}(h3:3<=op)(h16:op<=16)(ha:nodeB a=true)(hb:nodeB b=true)(hw:a.W=b.W)(h1:op<=13->a.W=w)(h2:14<=op->w=1)(hc:(a.Op==0&&b.Op==0)=false)(hn:cnt a<=240):Stp ⟨op,w,0,⟨[]⟩,[a,b]⟩ (rdB op w a b):=λk out hk=>by
 have hc':([a,b].all λx=>x.Op==0)=false:=by simpa using hc
 rw[PR U U hc',QC U (by rw[hc'];simp),show((op==1)||(op==2))=false by simp;omega,show(op==17)=false by simp;omega,show(op==19)=false by simp;omega,show((op==20)||(op==21))=false by simp;omega,show(op==18)=false by simp;omega,decide_eq_true (show 3<=op/\op<=16 from⟨h3,h16⟩)];exact⟨Zc3 h3 h16 ha hb hw h1 h2 hc hn hk,ZcP h3 h16 ha hb hw h1 h2 hc hn hk⟩
def rd(t:D.Term):D.Term⊕D.Term:=
 if t.Kids≠[]/\(t.Kids.all λx=>x.Op==0)=true then .inl ⟨0,t.W,(Zy 2 t none).getD 0,⟨[]⟩,[]⟩else
 match t.Kids with
 |[a]=>if t.Op<=2 then rdU t.Op t.W a else if t.Op=19 then rdC t.W t.N a else rdW t.Op t.W a
 |[a,b]=>if t.Op=18 then rdJ t.W a b else rdB t.Op t.W a b
 |[a,b,c]=>rdI t.W a b c
 |_=>.inl t
def step{t:D.Term}(h:nodeB t=true)(hn:cnt t<=240):Good t (rd t)/\Stp t (rd t):=by
 obtain⟨op,w,m,nm,ks⟩:=t;obtain⟨⟨w1,w2⟩,hs⟩:=ZW h;by_cases hc:ks≠[]/\(ks.all λx=>x.Op==0)=true
 ·obtain⟨v,hv,h1,h2⟩:=known h hc.1 hc.2;have hl:ks.length<=3:=by
   rcases hs with⟨_,rfl,_⟩|⟨_,rfl,_⟩|⟨_,_,_,a,rfl,_⟩|⟨_,_,_,_,a,b,rfl,_⟩|⟨_,_,_,a,b,c,rfl,_⟩|⟨_,_,_,a,b,rfl,_⟩|⟨_,_,_,_,a,rfl,_⟩|⟨_,_,_,a,rfl,_⟩<;>simp
  rw[rd,Zei hc,h2 2 (Zes _),ZeF];refine⟨⟨Qi hv,rfl,by rw[Xr,Xr];simp only[Uh];omega⟩,λk out hk=>⟨λh=>?_,λh=>?_⟩⟩<;>rw[<-h k (Zes _)]
  ·rw[show k+8=(k+7)+1 from rfl,ZL,Zem (by rw[Za];simpa using hc.1),Jl (ks:=ks) (n:=k+7) O O,hc.2];simp only[Zee,Ze2,h2 (k+7) O,Ut hv];rfl
  ·have hd:decide (len ks>0)=true:=by
    rw[Za];simp only[Zeq];have:=List.length_pos_iff.2 hc.1;omega
   rw[show k+8=(k+7)+1 from rfl,Zm,KF (ks:=ks) (n:=k+7) O O,hc.2,hd];simp only[Zee,Zf8,Ze2,h1,Qv];rfl
 rw[rd,Zem hc];have hc:ks≠[]->(ks.all λx=>x.Op==0)=false:=λe=>by
  cases q:ks.all λx=>x.Op==0
  ·rfl
  ·exact absurd ⟨e,q⟩ hc
 have lf:ks=[]->op=0\/op=22->Good ⟨op,w,m,nm,ks⟩ (.inl ⟨op,w,m,nm,ks⟩)/\Stp ⟨op,w,m,nm,ks⟩ (.inl ⟨op,w,m,nm,ks⟩):=λe ho=>by
  subst e;refine⟨⟨h,rfl,Zes _⟩,λk out hk=>⟨λh=>?_,λh=>?_⟩⟩<;>rw[<-h k (Zes _)]
  ·rw[show k+8=(k+7)+1 from rfl,ZL,Zei ar];rfl
  ·rw[QC U ar];rcases ho with rfl|rfl<;>simp[runS]
 rcases hs with⟨ho,rfl,rfl,hv⟩|⟨ho,rfl,rfl⟩|⟨ho,rfl,rfl,a,rfl,ha,hw⟩|⟨h3,h16,rfl,rfl,a,b,rfl,ha,hb,hab,e1,e2⟩|⟨rfl,rfl,rfl,a,b,c,rfl,ha,hb,hcc,aw,bw,cw⟩|⟨rfl,rfl,rfl,a,b,rfl,ha,hb,hab⟩|⟨rfl,rfl,m0,m16,a,rfl,ha,haw⟩|⟨ho,rfl,rfl,a,rfl,ha,haw⟩
 ·exact lf rfl (.inl ho)
 ·exact lf rfl (.inr ho)
 ·have hc:(a.Op==0)=false:=by simpa using hc U
  show Good _ (if op<=2 then _ else _)/\Stp _ (if op<=2 then _ else _);rw[Zei O];exact⟨ZcR ho ha hw,Zdf ho ha hc⟩
 ·have hc:(a.Op==0&&b.Op==0)=false:=by simpa using hc U
  rw[cnt2]at hn;show Good _ (if op=18 then _ else _)/\Stp _ (if op=18 then _ else _);rw[Zem O];exact⟨Za4 h3 h16 ha hb hab e1 e2,Zbr h3 h16 ha hb hab e1 e2 hc O⟩
 ·rw[cnt3]at hn;exact⟨ZcU ha hb hcc aw bw cw,ZcG ha hb aw aV O⟩
 ·rw[cnt2]at hn;exact⟨AY ha hb hab w2,Ap ha hb aV O⟩
 ·exact⟨ZbA ha m0 m16 w1 haw,ZbJ ha m0 m16 w1 haw aV⟩
 ·have hc:(a.Op==0)=false:=by simpa using hc U
  show Good _ (if op<=2 then _ else if op=19 then _ else _)/\Stp _ (if op<=2 then _ else if op=19 then _ else _);rw[Zem O,Zem O];exact⟨ZaP ho ha haw w2,ZbP ho ha hc⟩
inductive Rch:D.Term->D.Term->Prop
 |fin {t r:D.Term}:rd t= .inl r->Rch t r
 |go {t u r:D.Term}:rd t= .inr u->Rch u r->Rch t r
theorem simpler:∀(d:Nat)(t:D.Term),mea t<=d->nodeB t=true->cnt t<=240->∃r,nodeB r=true/\r.W=t.W/\cnt r<=cnt t/\Rch t r/\∀n,1100000+8*(d+1)<=n->ZL n t=some r/\Zm n t=some r:=by
 intro d
 induction d with
 |zero=>
  intro t h;have:=QD t;unfold mea at h;omega
 | succ d ih=>
  intro t hm h hn;obtain⟨hg,h1⟩:=step h hn;cases e:rd t with
  |inl r=>
   rw[e]at hg h1;refine⟨r,hg.1,hg.2.1,hg.2.2,.fin e,λn hn=>?_⟩;obtain⟨k,rfl⟩:∃k,n=k+8:=⟨n-8,by omega⟩;exact⟨(h1 k r O).1 λ_ _=>rfl,(h1 k r O).2 λ_ _=>rfl⟩
  |inr u=>
   rw[e]at hg h1;obtain⟨g1,g2,g3,g4⟩:=hg;obtain⟨r,q1,q2,q3,q0,q4⟩:=ih u O g1 O;refine⟨r,q1,by rw[q2,g2],by omega,.go e q0,λn hn=>?_⟩;obtain⟨k,rfl⟩:∃k,n=k+8:=⟨n-8,by omega⟩;exact⟨(h1 k r O).1 λm hm=>(q4 m O).1,(h1 k r O).2 λm hm=>(q4 m O).2⟩
def simple'{t:D.Term}(h:nodeB t=true)(hn:cnt t<=240):∃r,nodeB r=true/\r.W=t.W/\cnt r<=cnt t/\Rch t r/\ZL fuel t=some r/\Zm fuel t=some r:=by
 obtain⟨r,q1,q2,q3,q0,q4⟩:=simpler (mea t) t (Zes _) h hn;have:=ZbT t;have e:mea t=2*cnt t+swp t:=rfl;exact⟨r,q1,q2,q3,q0,q4 _ al⟩
theorem simple{t:D.Term}(h:nodeB t=true)(hn:cnt t<=240):∃r,nodeB r=true/\r.W=t.W/\cnt r<=cnt t/\ZL fuel t=some r/\Zm fuel t=some r:=by
 obtain⟨r,q1,q2,q3,-,q⟩:=simple' h hn;exact⟨r,q1,q2,q3,q⟩
theorem BQ:∀(n:Nat)(t:D.Term),msz t<=1048576->1048580+cnt t<=n->WN n t=some t:=by
 intro n
 induction n with
 |zero=>omega
 | succ n ih=>
  intro t hs hn;have hz:=Vi t;have hc:=Xr t;refine We (l:=t.Kids) (n:=n) (σ:=List D.Term) (λj a=>((j:Int),a)) (λys a=>a++ys=t.Kids/\(∀x∈ys,x∈t.Kids)) (λr=>r=t.Kids)
   (λj x xs a hj hx hlen⟨h1,h2⟩=>by
    have hd:decide ((j:Int)<len t.Kids)=true:=by grind[Za]
    have hm:=h2 x U;have m1:=WT hm;have m2:=Wy hm;simp only[hd,Ze2,get?_nat,hx,Zee,ih x O O]
    grind[Cn,Zb])
   (λa⟨h1,_⟩=>by
    have hd:decide ((t.Kids.length:Int)<len t.Kids)=false:=by rw[Za];simp
    simp only[hd,Zeg,Zen]
    exact⟨_,rfl,by simpa using h1⟩) (a:=[]) ⟨rfl,λ_ h=>h⟩ O λr g2=>?_
  rw[g2];cases t;rfl
theorem KA{t:D.Term}(h:nodeB t=true)(hn:cnt t<=240):msz t<=2640:=by
 grind[NK]
def Zc0{t:D.Term}(h:nodeB t=true)(hn:cnt t<=240):WN fuel t=some t:=BQ _ _ (by grind[KA]) aP
def t0:D.Term:=⟨0,0,0,⟨[]⟩,[]⟩
noncomputable def simp1(t:D.Term):D.Term:=(ZL fuel t).getD t0
def KG{t:D.Term}(h:nodeB t=true)(hn:cnt t<=240):nodeB (simp1 t)=true/\(simp1 t).W=t.W/\cnt (simp1 t)<=cnt t/\ZL fuel t=some (simp1 t)/\Zm fuel t=some (simp1 t):=by
 grind[simple,simp1]
def RD{t:D.Term}(h:termB t=true):nodeB t=true/\cnt t<=240:=by
 simp_all[termB,Zek,Zeq]
noncomputable def mkT(op w m:Int)(ks:List D.Term):D.Term×Bool:=if termB ⟨op,w,m,⟨[]⟩,ks⟩=true then(simp1 ⟨op,w,m,⟨[]⟩,ks⟩,true)else(t0,false)
def Zdo{op w m:Int}{ks:List D.Term}(h:sml ks):msz ⟨op,w,m,⟨[]⟩,ks⟩<=1048576:=by
 simp_all[Vi,sml]
def ZcV{op w m:Int}{ks:List D.Term}(h:sml ks):Vb fuel op w m ks=some (mkT op w m ks):=by
 unfold Vb mkT;rw[UA (Zdo h)];cases c:termB ⟨op,w,m,⟨[]⟩,ks⟩
 ·rfl
 ·obtain⟨a,b⟩:=RD c;obtain⟨q1,q2,q3,q4,q5⟩:=KG a b;simp only[Zep,Zeg,Zen,Ze2,q5,Zee,Zc0 q1 O]
def ZcI{op w m:Int}{ks:List D.Term}(h:sml ks):Ve fuel op w m ks=some (mkT op w m ks):=by
 unfold Ve mkT;rw[SI (Zdo h)];cases c:termB ⟨op,w,m,⟨[]⟩,ks⟩
 ·rfl
 simp_all[RD,KG,Zep,Zeg,Zen,Ze2,Zee]
def fine(t:D.Term):Prop:=nodeB t=true/\cnt t<=240
def Bj{t:D.Term}(h:termB t=true):fine t:=RD h
def FY{op w m:Int}{ks:List D.Term}(h:(mkT op w m ks).2=true):fine (mkT op w m ks).1/\(mkT op w m ks).1.W=w:=by
 unfold mkT at h⊢;cases c:termB ⟨op,w,m,⟨[]⟩,ks⟩
 ·simp_all
 ·obtain⟨a,b⟩:=RD c;obtain⟨q1,q2,q3,q4,q5⟩:=KG a b;simp only[Ze2];exact⟨⟨q1,by omega⟩,q2⟩
def OW{t:D.Term}(h:fine t):msz t<=2640:=KA h.1 h.2
def sml2{a b:D.Term}(ha:msz a<=2640)(hb:msz b<=1000000):sml [a,b]:=by
 grind[sml,UZ,PH]
noncomputable def andT:D.Term->List D.Term->D.Term×Bool
 |a,[]=>(a,true)
 |a,x::l=>if(mkT 8 1 0 [a,x]).2=true then andT (mkT 8 1 0 [a,x]).1 l else(t0,false)
def Zbo(a:D.Term):andT a []=(a,true):=by rw[andT]
def FR{p:D.Term×Bool}(h:p.2=true):(D.Term.mk p.1.Op p.1.W p.1.N p.1.Name p.1.Kids,true)=p:=by
 obtain⟨⟨a,b,c,d,e⟩,q⟩:=p;cases h;rfl
theorem JV:∀{l:List D.Term}{a:D.Term},fine a->(andT a l).2=true->fine (andT a l).1
 |[],a,ha,_=>ha
 |x::l,a,ha,h=>by
  unfold andT at h⊢;by_cases c:(mkT 8 1 0 [a,x]).2=true
  ·rw[Zei c]at h⊢;exact JV (FY c).1 h
  simp_all
def Ff{mk:Int->Int->Int->List D.Term->Option (D.Term×Bool)}(hmk:∀ks,sml ks->mk 8 1 0 ks=some (mkT 8 1 0 ks)){l:List D.Term}{a:D.Term}(ha:fine a)(hl:l.length<=1048576)(hs:∀x∈l,msz x<=2640):
    iterN (λ(s2:Int×Int×Int×Int×Str×(List D.Term))=>if (decide (s2.1<(len l)))then(get? l s2.1).bind λx4=>(mk 8 1 0 ([(D.Term.mk s2.2.1 s2.2.2.1 s2.2.2.2.1 s2.2.2.2.2.1 s2.2.2.2.2.2),x4]:List D.Term)).bind λx5=>if(!x5.2)then some (.inr (.inr ((D.Term.mk 0 0 0 ⟨[]⟩ ([]:List D.Term)),false)))else some (.inl ((w64 (s2.1+1)),x5.1.Op,x5.1.W,x5.1.N,x5.1.Name,x5.1.Kids))else some (.inr (.inl (s2.2.1,s2.2.2.1,s2.2.2.2.1,s2.2.2.2.2.1,s2.2.2.2.2.2))):Int×Int×Int×Int×Str×(List D.Term)->Option ((Int×Int×Int×Int×Str×(List D.Term))⊕((Int×Int×Int×Str×(List D.Term))⊕(D.Term×Bool)))) fuel (0,a.Op,a.W,a.N,a.Name,a.Kids)=some (if(andT a l).2=true then(.inl ((andT a l).1.Op,(andT a l).1.W,(andT a l).1.N,(andT a l).1.Name,(andT a l).1.Kids):((Int×Int×Int×Str×(List D.Term))⊕(D.Term×Bool)))else .inr (t0,false)):=by
  refine VQ (l:=l) (n:=fuel) (σ:=D.Term) (λk a=>((k:Int),a.Op,a.W,a.N,a.Name,a.Kids))
    (λys b=>fine b/\andT b ys=andT a l/\∀x∈ys,msz x<=2640) (λr=>r=if(andT a l).2=true then(.inl ((andT a l).1.Op,(andT a l).1.W,(andT a l).1.N,(andT a l).1.Name,(andT a l).1.Kids):((Int×Int×Int×Str×(List D.Term))⊕(D.Term×Bool)))else .inr (t0,false))
    (λk x xs b hk hx hlen⟨h1,h2,h3⟩=>by
      have hd:decide ((k:Int)<len l)=true:=by grind[Za]
      have hsz:=OW h1;have e:(D.Term.mk b.Op b.W b.N b.Name b.Kids)=b:=by cases b;rfl
      simp only[hd,Ze2,get?_nat,hx,Zee,e];rw[hmk [b,x] (sml2 hsz an)];by_cases c:(mkT 8 1 0 [b,x]).2=true
      · refine .inl ⟨(mkT 8 1 0 [b,x]).1,by grind[Zb],(FY c).1, ?_,λy hy=>h3 y au⟩
        simp_all[andT,Zei]
      · simp_all[andT,t0,Zem]<;>grind)
    (λb⟨h1,h2,_⟩=>by
      have hd:decide ((l.length:Int)<len l)=false:=by simp[Za]
      simp_all[Zeg,Zen,Zbo]<;>grind) (a:=a) ⟨ha,rfl,hs⟩ (lt_fuel hl) λr g2=>?_
  rw[g2]
def c11:D.Term:=⟨0,1,1,⟨[]⟩,[]⟩
def KM:fine c11:=⟨Qi ay,by simp[c11,cnt0]⟩
noncomputable def allT(l:List D.Term):D.Term×Bool:=if tsB l 1=true then andT c11 l else(t0,false)
def CX{l:List D.Term}{w:Int}(h:tsB l w=true){x:D.Term}(hx:x∈l):termB x=true/\x.W=w:=by
 simp_all[tsB,Zev]
theorem Lx:∀{l:List D.Term}{a:D.Term},(andT a l).2=false->andT a l=(t0,false)
 |[],a,h=>by cases h
 |x::l,a,h=>by
  unfold andT at h⊢;by_cases c:(mkT 8 1 0 [a,x]).2=true
  ·rw[Zei c]at h⊢;exact Lx h
  simp_all
def FK{α ρ:Type}{l:List α}{b:α->Bool}{z:ρ}(G:α->Int->Option (Int⊕(Unit⊕ρ)))(hG:∀(k:Nat)(x:α),l[k]? =some x->G x k=if b x=true then some (.inl (w64 ((k:Int)+1)))else some (.inr (.inr z)))(hb:l.length<=1048576){n:Nat}(hn:l.length<n):
  iterN (λ(s1:Int)=>if(decide (s1<(len l)))then(get? l s1).bind λx1=>G x1 s1 else some (.inr (.inl ()))) n 0=some (if l.all b=true then(.inl ():Unit⊕ρ)else .inr z):=by
 refine VQ (l:=l) (n:=n) (σ:=Unit) (λk _=>(k:Int)) (λys _=>ys.all b=l.all b) (λr=>r=if l.all b=true then(.inl ():Unit⊕ρ)else .inr z)
  (λk x xs a hk' hx hlen hi=>by
   have hd:decide ((k:Int)<len l)=true:=by grind[Za]
   simp only[hd,Ze2,get?_nat,hx,Zee];rw[Zgf]at hi;cases c:b x
   ·simp_all
   ·rw[c,ZeJ]at hi
    exact .inl ⟨(),by grind[Zb],hi⟩)
  (λa hi=>by
   grind[decide,len,Za]) (a:=()) rfl hn λr g2=>?_
 rw[g2]
def ZaN{l:List D.Term}(h:sml l):SY fuel l=some (allT l):=by
 unfold SY allT
 have hl:=FK (l:=l) (b:=λt=>termB t&&t.W==1) (z:=((D.Term.mk 0 0 0 ⟨[]⟩ ([]:List D.Term)),false)) (λx1 s1=>(YQ fuel x1).bind λx2=>if((!x2)||(x1.W !=1))then some (.inr (.inr ((D.Term.mk 0 0 0 ⟨[]⟩ ([]:List D.Term)),false)))else some (.inl ((w64 (s1+1))))) (λk x hx=>by
  grind[UA,LG,List.mem_of_getElem?,termB]) (Tp h) (lt_fuel (Tp h))
 rw[hl];cases c:tsB l 1
 ·unfold tsB at c;rw[c];rfl
 have hm:=λx hx=>OW (Bj (CX c (x:=x) hx).1);unfold tsB at c;rw[c];simp only[Ze2,Qv,Zee];have:=Ff (mk:=Vb fuel) (λks hk=>ZcV hk) KM (Tp h) hm;unfold c11 at this;rw[this];cases e:(andT ⟨0,1,1,⟨[]⟩,[]⟩ l).2
 ·simp_all[andT,c11,t0,Lx]
 ·exact congrArg some (FR e)
def Af{l:List D.Term}(h:sml l):SS fuel l=some (allT l):=by
 unfold SS allT;rw[Ut ay];simp only[Zee]
 have hl:=FK (l:=l) (b:=λt=>termB t&&t.W==1) (z:=((D.Term.mk 0 0 0 ⟨[]⟩ ([]:List D.Term)),false)) (λx2 s1=>(YR fuel x2).bind λx3=>(if(!x3)then some default else(get? l s1)).bind λx4=>if((!x3)||(x4.W !=1))then some (.inr (.inr ((D.Term.mk 0 0 0 ⟨[]⟩ ([]:List D.Term)),false)))else some (.inl ((w64 (s1+1))))) (λk x hx=>by
  grind[SI,LG,List.mem_of_getElem?,get?_nat,termB]) (Tp h) (lt_fuel (Tp h))
 rw[hl];cases c:tsB l 1
 ·unfold tsB at c;rw[c];rfl
 have hm:=λx hx=>OW (Bj (CX c (x:=x) hx).1);unfold tsB at c;rw[c];have:=Ff (mk:=Ve fuel) (λks hk=>ZcI hk) KM (Tp h) hm;unfold c11 at this;rw[this];cases e:(andT ⟨0,1,1,⟨[]⟩,[]⟩ l).2
 ·simp_all[andT,c11,t0,Lx]
 ·exact congrArg some (FR e)
def Ac{l:List D.Term}(h:(allT l).2=true):fine (allT l).1:=by
 unfold allT at h⊢;split at h
 all_goals simp_all[Zei,JV,KM]
def ZcL{l:List D.Term}(h:(allT l).2=false):allT l=(t0,false):=by
 unfold allT at h⊢;split
 all_goals simp_all[Zei,Lx]
def Zd3:sml t0.Kids:=by show[].length+mszs []<=1048576;rw[PH];simp
def ZdU:msz t0<=1048576:=by rw[Vi];show 0+0+mszs []<=_;rw[PH];simp
def Zco{t:D.Term}(h:fine t):sml t.Kids:=by
 have:=OW h;have:=Vi t;unfold sml;omega
def Bc(l:List D.Term):msz (allT l).1<=1048576/\sml (allT l).1.Kids:=by
 cases c:(allT l).2
 ·rw[ZcL c];exact⟨ZdU,Zd3⟩
 ·have:=Ac c;exact⟨by have:=OW this;omega,Zco this⟩
theorem ZdX:∀n:Nat,(∀t:D.Term,cnt t<n->nodeB t=true->∀p∈vrs t,1<=p.2/\p.2<=16/\p.1.bytes.length<=8):=by
 intro n
 induction n with
 |zero=>omega
 | succ n ih=>
  intro t h hb p hp;have hc:=Xr t;rw[Re]at hp;by_cases h22:t.Op=22
  ·simp_all[Zei,ZeA,Z9,Fy]
  ·rw[Zem h22]at hp;have:∀l:List D.Term,(∀x∈l,x∈t.Kids)->p∈vrss l->∃x∈t.Kids,p∈vrs x:=λl=>by
    induction l with
    |nil=>simp[Pt]
    |cons y l ihl=>
     grind[Uz]
   obtain⟨x,hx,hpx⟩:=this t.Kids (λ_ h=>h) hp;exact ih x (by have:=Wy hx;omega) (nodeK hb x hx) p hpx
def c0:D.Circuit:=⟨0,[]⟩
def circT(t:D.Term):D.Circuit×List Int×Bool:=
 if termB t=true then
  let L:=(Y5 fuel t).getD []
  let r:=nP L t (⟨bitsV L 0,[]⟩,false)
  if bitsV L 0>30\/r.2.2=true then(c0,[],false)else(r.2.1,r.1,true)
 else(c0,[],false)
def ND{b:Int}(h0:0<=b)(h1:b<=30):CircP ⟨b,[]⟩:=⟨h0,h1,by simp,λk g hg=>by simp at hg⟩
section
variable{t:D.Term}(h:termB t=true)(hs:msz t<=1048576)
include h hs
theorem Qw:∃L,Y5 fuel t=some L/\VL t L/\nodeB t=true/\cnt t<=240/\(∀v∈L,1<=v.W/\v.W<=16)/\(∀v∈L,v.Name.bytes.length<=1000)/\L.length<=1000/\0<=bitsV L 0:=by
 obtain⟨L,e,hL⟩:=Dr h hs;have hb:=h;unfold termB at hb;simp only[Zek,Zeq]at hb;obtain⟨⟨hc,hn⟩,-⟩:=hb;have hw:∀v∈L,1<=v.W/\v.W<=16/\v.Name.bytes.length<=8:=λv hv=>ZdX _ t (Nat.lt_succ_self _) hn _ (hL.mem v hv);have hlen:L.length<=1000:=by
  have h1:=congrArg List.length hL.eq;grind[List.length_map,NB,vrs,List.length_reverse,Js]
 have hb0:=Gj (l:=L) (a:=0) λv hv=>(hw v hv).1;grind[bitsV]
end
def ER{t:D.Term}(hs:msz t<=1048576):Vv fuel t=some (circT t):=by
 unfold Vv circT;by_cases h:termB t=true
 ·obtain⟨L,e,hL,hn,hc,hw,hnm,hlen,hb0⟩:=Qw h hs;rw[e,UA hs,h];simp only[Zee,Zep,Zeg,Zen,ZeN,Ze2,ZeF];rw[Ab hlen hw];simp only[Zee];by_cases hb:bitsV L 0>30
  ·rw[Zei ag,Zei (.inl hb)];rfl
  ·rw[Zem ag];have hC:=ND hb0 O;rw[Cc.spec_new hC];simp only[Zee];have hv:VF L (⟨bitsV L 0,[]⟩:D.Circuit):=⟨λv hv=>(hw v hv).1,rfl⟩;rw[Zbj hL.nm (λv hv=>(hw v hv).2) fuel t (⟨bitsV L 0,[]⟩,false) aP hn hL.all hC hv];simp only[Zee];have g:=PS hL.nm _ t (⟨bitsV L 0,[]⟩,false) (Zes _) hn hL.all hC hv;generalize nP L t (⟨bitsV L 0,[]⟩,false)=r at g⊢;have hw16:=Z9 hn;have hl:=g.len;cases hf:r.2.2
   ·grind[QJ]
   ·rw[Zei rfl,Zei (.inr rfl)];rfl
 ·have h':termB t=false:=by simpa using h
  have e:Y5 fuel t=some []:=by
   simp_all[Y5,UA]
  rw[e,UA hs,h',ifn];rfl
def Dv{t:D.Term}(hs:msz t<=1048576):Vy fuel t=some (circT t):=by
 unfold Vy circT;rw[SI hs];simp only[Zee];by_cases h:termB t=true
 ·obtain⟨L,e,hL,hn,hc,hw,hnm,hlen,hb0⟩:=Qw h hs;rw[h];simp only[Zep,Zeg,Zen,ZeN,Ze2];rw[Zag fuel t aP hn];simp only[Zee,e,ZeF];have hv:VF L (⟨bitsV L 0,[]⟩:D.Circuit):=⟨λv hv=>(hw v hv).1,rfl⟩;cases hwd:wideB t
  ·simp only[Zeg,Zen];rw[Iz h hs,<-hL.eq];simp only[Zee];obtain⟨mp,hl1,hmp⟩:=ZbX hlen hw hnm hL.nm;rw[hl1];simp only[Zee];by_cases hb:bitsV L 0>30
   ·rw[Zei ag,Zei (.inl hb)];rfl
   ·rw[Zem ag];have hC:=ND hb0 O;obtain⟨m0,e0,r0⟩:=Cc.impl_new (fuel:=fuel) hC;rw[e0];simp only[Zee];obtain⟨m1,e1,r1⟩:=Zb7 hL.nm hmp fuel t (⟨bitsV L 0,[]⟩,false) m0 aP hn hwd hL.all hC hv r0;rw[e1];simp only[Zee];have g:=PS hL.nm _ t (⟨bitsV L 0,[]⟩,false) (Zes _) hn hL.all hC hv;generalize nP L t (⟨bitsV L 0,[]⟩,false)=r at g r1⊢;have hw16:=Z9 hn;have hl:=g.len;rw[r1.full];cases hf:r.2.2
    ·rw[ifn,Zem ag];rw[show Zi r.1=some r.1 from by grind[Zi,QJ]];simp only[Zee];rw[r1.c]
    ·rw[Zei rfl,Zei (.inr rfl)];rfl
  ·simp only[Ze2];by_cases hb:bitsV L 0>30
   ·rw[Zei (.inl hb)];rfl
   ·have hC:=ND hb0 O;rw[Zei (.inr (BM hL.nm _ t (⟨bitsV L 0,[]⟩,false) (Zes _) hn hwd hL.all hC hv))];rfl
 ·have h':termB t=false:=by simpa using h
  rw[h'];rfl
end Go.Proofs.YtccamimfkohabaaGreatDoor
end
section
namespace Go.Proofs.YtccamimfkohabaaGreatDoor.Cc
open Go.GL
variable{fuel:Nat}[FU fuel]
def j0:w64 0=0:=by decide
def j1:w64 1=1:=by decide
def j2:w64 2=2:=by decide
def j3:w64 3=3:=by decide
def cmpv{x y:Int}(hx:litN 391 x=true)(hy:litN 391 y=true)(h:iab x<iab y):YI x y=some (-1):=by
 unfold YI;obtain⟨fx,fx'⟩:=Xz hx (ZeH _);obtain⟨fy,fy'⟩:=Xz hy (ZeH _);simp_all[Xf,ZI,XU]
def cmpv'{x y:Int}(hx:litN 391 x=true)(hy:litN 391 y=true)(h:iab y<iab x):YI x y=some 1:=by
 unfold YI;obtain⟨fx,fx'⟩:=Xz hx (ZeH _);obtain⟨fy,fy'⟩:=Xz hy (ZeH _);grind[Xf,iab,ZI,XU]
def insC2(n:Nat){x y:Int}(hx:litN 391 x=true)(hy:litN 391 y=true)(h:iab y<iab x):Zj (n+6) [x,y] 0 2=some [y,x]:=by
 simp_all[Zj,cmpv,iterN,get?,set?,j0,j1,j2]
def insC3(n:Nat){x y z:Int}(hx:litN 391 x=true)(hy:litN 391 y=true)(hz:litN 391 z=true)(h:iab y<iab z)(h2:iab z<iab x):Zj (n+6) [x,y,z] 0 3=some [y,z,x]:=by
 unfold Zj;have e1:=cmpv hy hx O;simp_all[cmpv,cmpv',iterN,get?,set?,j0,j1,j2,j3]
theorem sortC2(n:Nat){x y:Int}(hx:litN 391 x=true)(hy:litN 391 y=true)(h:iab y<iab x):Zg (n+6) [x,y]=some [y,x]:=by
 unfold Zg;have hl:len [x,y]=2:=rfl;have hb:Ud (IntKind.u64.wrap 2)=some 2:=by decide
 simp_all[Zee,Zo,iterN,insC2,j2]
theorem sortC3(n:Nat){x y z:Int}(hx:litN 391 x=true)(hy:litN 391 y=true)(hz:litN 391 z=true)(h:iab y<iab z)(h2:iab z<iab x):Zg (n+6) [x,y,z]=some [y,z,x]:=by
 unfold Zg;have hl:len [x,y,z]=3:=rfl;have hb:Ud (IntKind.u64.wrap 3)=some 2:=by decide
 simp_all[Zee,Zo,iterN,insC3,j3]
def NT{x y:Int}(h:iab x<iab y):¬x=y/\¬y=x/\¬y=-x/\¬x=-y:=by
 grind[iab]
theorem compC2(n:Nat){x y:Int}(h:iab y<iab x):Zv (n+6) [y,x]=some [y,x]:=by
 unfold Zv;have hl:len [y,x]=2:=rfl;simp_all[NT,iterN,get?,j1,j2,j0]
theorem compC3(n:Nat){x y z:Int}(h:iab y<iab z)(h2:iab z<iab x):Zv (n+6) [y,z,x]=some [y,z,x]:=by
 unfold Zv;have hl:len [y,z,x]=3:=rfl;simp_all[NT,iterN,get?,j1,j2,j0,j3]
def lit400{x:Int}(h:litN 391 x=true):litN 400 x=true:=litN_mono h ay
theorem clauseOk2{x y:Int}(hx:litN 391 x=true)(hy:litN 391 y=true)(h:iab y<iab x):YB fuel [y,x] 400=some true:=by
 unfold YB;rw[Ql ay ay U];obtain⟨fx,fx'⟩:=Xz hx (ZeH _);obtain⟨fy,fy'⟩:=Xz hy (ZeH _);have v1:=Xf fx fx';have v2:=Xf fy fy';have ha:[y,x].all (litN 400)=true:=by simp_all[lit400]
 have hl:len [y,x]=2:=rfl;obtain⟨n,hf⟩:∃n,fuel=n+6:=⟨fuel-6,by have:=FU.le (n:=fuel);omega⟩;have hn:¬iab x<=iab y:=by omega
 rw[ha,hl,hf];simp[iterN,get?,v1,v2,hn,j0,j1,j2]
theorem clauseOk3{x y z:Int}(hx:litN 391 x=true)(hy:litN 391 y=true)(hz:litN 391 z=true)(h:iab y<iab z)(h2:iab z<iab x):YB fuel [y,z,x] 400=some true:=by
 unfold YB;rw[Ql ay ay U];obtain⟨fx,fx'⟩:=Xz hx (ZeH _);obtain⟨fy,fy'⟩:=Xz hy (ZeH _);obtain⟨fz,fz'⟩:=Xz hz (ZeH _);have v1:=Xf fx fx';have v2:=Xf fy fy';have v3:=Xf fz fz';have ha:[y,z,x].all (litN 400)=true:=by simp_all[lit400]
 have hl:len [y,z,x]=3:=rfl;obtain⟨n,hf⟩:∃n,fuel=n+6:=⟨fuel-6,by have:=FU.le (n:=fuel);omega⟩;have hn:¬iab z<=iab y:=by omega
 have hn2:¬iab x<=iab z:=by omega
 rw[ha,hl,hf];simp[iterN,get?,v1,v2,v3,hn,hn2,j0,j1,j2,j3]
def mkI2(n:Nat)[FU (n+6)]{x y:Int}(hx:litN 391 x=true)(hy:litN 391 y=true)(h:iab y<iab x):ZX (n+6) [x,y]=some ([y,x],true):=by
 unfold ZX;have ha:[x,y].all (litN 400)=true:=by simp_all[lit400]
 have hc:Zi [x,y]=some [x,y]:=rfl;grind[Ql,Zg,sortC2,Zv,compC2,clauseOk2]
def mkI3(n:Nat)[FU (n+6)]{x y z:Int}(hx:litN 391 x=true)(hy:litN 391 y=true)(hz:litN 391 z=true)(h:iab y<iab z)(h2:iab z<iab x):ZX (n+6) [x,y,z]=some ([y,z,x],true):=by
 unfold ZX;have ha:[x,y,z].all (litN 400)=true:=by simp_all[lit400]
 have hc:Zi [x,y,z]=some [x,y,z]:=rfl;grind[Ql,Zg,sortC3,Zv,compC3,clauseOk3]
def in400{x:Int}(h:litN 391 x=true):Zc x (-400) 400=some true/\¬x=0:=by
 simp_all[litN_iff,iab,Zc]<;>grind
def mkS2(n:Nat){x y:Int}(hx:litN 391 x=true)(hy:litN 391 y=true)(h:iab y<iab x):ZO (n+6) [x,y]=some ([y,x],true):=by
 unfold ZO;obtain⟨fx,fx'⟩:=Xz hx (ZeH _);obtain⟨fy,fy'⟩:=Xz hy (ZeH _);have v1:=WC fx fx';have v2:=WC fy fy';obtain⟨i1,m1⟩:=in400 hx;obtain⟨i2,m2⟩:=in400 hy;have hn:¬iab x<iab y:=by omega
 have t1:=NT h;have w2:=Yh hy (ZeH _);have w1:=Yh hx (ZeH _);rw[Int.zero_sub]at w1 w2;simp[iterN,get?,cut?,vcut,app?,room,len,v1,v2,i1,i2,m1,m2,hn,t1,w1,w2,j0,j1,j2]
def mkS3(n:Nat){x y z:Int}(hx:litN 391 x=true)(hy:litN 391 y=true)(hz:litN 391 z=true)(h:iab y<iab z)(h2:iab z<iab x):ZO (n+6) [x,y,z]=some ([y,z,x],true):=by
 unfold ZO;obtain⟨fx,fx'⟩:=Xz hx (ZeH _);obtain⟨fy,fy'⟩:=Xz hy (ZeH _);obtain⟨fz,fz'⟩:=Xz hz (ZeH _);have v1:=WC fx fx';have v2:=WC fy fy';have v3:=WC fz fz';obtain⟨i1,m1⟩:=in400 hx;obtain⟨i2,m2⟩:=in400 hy;obtain⟨i3,m3⟩:=in400 hz;have hn:¬iab x<iab y:=by omega
 have hn2:¬iab x<iab z:=by omega
 have t1:=NT (show iab y<iab x by omega);have t2:=NT h2;have t3:=NT h;have w2:=Yh hy (ZeH _);have w1:=Yh hx (ZeH _);have w3:=Yh hz (ZeH _);rw[Int.zero_sub]at w1 w2 w3;simp[iterN,get?,cut?,vcut,app?,room,len,v1,v2,v3,i1,i2,i3,m1,m2,m3,h,hn,hn2,t1,t2,t3,w1,w2,w3,j0,j1,j2,j3]
def Za2{n x:Int}:[x].all (litN n)=litN n x:=by simp
def inner3(n:Nat){MC:List Int->Option (List Int×Bool)}{l1 l2 l3 r1 r2 r3:List Int}(h1:MC l1=some (r1,true))(h2:MC l2=some (r2,true))(h3:MC l3=some (r3,true)){out:List (List Int)}(hl:out.length<=100000):
  iterN (λ(s2:Int×(List (List Int)))=>if(decide (s2.1<(len ([l1,l2,l3]:List (List Int)))))then(get? ([l1,l2,l3]:List (List Int)) s2.1).bind λx4=>(MC x4).bind λx5=>(app? s2.2 ([x5.1]:List (List Int))).bind λx6=>some (.inl ((w64 (s2.1+1)),x6))else some (.inr (s2.2))) (n+6) (0,out)=some (out++[r1,r2,r3]):=by
 have hc:len ([l1,l2,l3]:List (List Int))=3:=rfl;have ha:∀(l:List (List Int))(q:List Int),l.length<=100003->app? l [q]=some (l++[q]):=λl q h=>by unfold app?;rw[Zei aO]
 have a1:=ha out r1 O;have a2:=ha (out++[r1]) r2 aa;have a3:=ha (out++[r1]++[r2]) r3 aa;simp_all[Zez,ZeW,iterN,get?,j0,j1,j2,j3]
def stepF(c:D.Circuit)(i:Nat)(g:D.Gate):List (List Int):=[[g.A,-(c.Inputs+2+i)],[g.B,-(c.Inputs+2+i)],[-g.A,-g.B,c.Inputs+2+i]]
def accF(c:D.Circuit):Nat->List (List Int)
 |0=>[[1]]
 |k+1=>accF c k++stepF c k (c.Gates.getD k ⟨0,0⟩)
theorem accF_len(c:D.Circuit)(k:Nat):(accF c k).length=1+3*k:=by
 induction k with
 |zero=>rfl
 |succ k ih=>grind[accF,List.length_append,stepF,List.length_cons,List.length_nil]
structure GateOk(c:D.Circuit)(k:Nat)(g:D.Gate):Prop where
 a:litN 391 g.A=true
 b:litN 391 g.B=true
 na:litN 391 (-g.A)=true
 nb:litN 391 (-g.B)=true
 l:litN 391 (c.Inputs+2+k)=true
 nl:litN 391 (-(c.Inputs+2+k))=true
 ab:iab (-g.A)<iab (-g.B)
 bl:iab (-g.B)<iab (c.Inputs+2+k)
 al':iab g.A<iab (-(c.Inputs+2+k))
 bl':iab g.B<iab (-(c.Inputs+2+k))
def Hq{c:D.Circuit}(hc:CircP c){k:Nat}{g:D.Gate}(hg:c.Gates[k]? =some g):GateOk c k g:=by
 have h:=Qe.1 (hc.gate k g hg);have hk:=(Zej.1 hg).1;have hl:=hc.lines1;unfold lines at hl;have e1:iab (c.Inputs+2+k)=c.Inputs+2+k:=by grind[iab]
 have b2:iab g.B<=c.Inputs+1+k:=by grind[iab]
 refine⟨litN_iff.2 O,litN_iff.2 O,?_,?_,litN_iff.2 O,?_,?_,?_,?_,?_⟩
 ·grind[ZR,litN_iff]
 ·grind[ZR,litN_iff]
 ·rw[ZR];grind[litN_iff]
 ·simp_all[Uq]
 ·grind[Uq]
 ·rw[Uq];omega
 ·rw[Uq];omega
def formP(c:D.Circuit)(lit:Int):D.Formula×Bool:=if circB2 c&&litN (lines c) lit then(⟨lines c,accF c c.Gates.length++[[lit]]⟩,true)else(⟨0,[]⟩,false)
def SF{c:D.Circuit}{k:Nat}(hk:k<c.Gates.length):c.Gates[k]? =some (c.Gates.getD k ⟨0,0⟩):=by
 simp_all
theorem spec_FormulaOf_eq{c:D.Circuit}{lit:Int}(hc:Sa c)(hg:c.Gates.length<=1048576):Vs fuel c lit=some (formP c lit):=by
 obtain⟨N,rfl⟩:∃n,fuel=n+6:=⟨fuel-6,by have:=FU.le (n:=fuel);omega⟩;unfold Vs formP;rw[Ar hc hg];cases h1:circB2 c with
 |false=>simp
 | true=>
  have hp:=circP_iff.1 h1;rw[Cj hp U];simp only[Zep,Zeg,Zen,Zee,ZeN,ZeJ,Za2];cases h2:litN (lines c) lit with
  |false=>simp
  | true=>
   have hi0:=hp.i0;have hi1:=hp.i1;have hl:=hp.len;rw[Z5 (I:=λk t=>t=((k:Int),accF c k)) (m:=c.Gates.length) (r:=accF c c.Gates.length) (λk t hk ht=>?_) (λt ht=>?_) c.Gates.length 0 (0,[[1]]) O rfl (N+6) lt_fuel]
   ·simp only[Zee];have ha:app? (accF c c.Gates.length) [[lit]]=some (accF c c.Gates.length++[[lit]]):=by unfold app?;rw[Zei (by grind[accF_len,room])]
    rw[ha];rw[Za,Zb (x:=c.Inputs+1),Zb];rfl
   all_goals subst ht
   ·refine⟨_, ?_,rfl⟩;have o:=Hq hp (SF hk);simp only[accF];rw[Zei aj,get?_nat,SF hk];simp only[Zee];generalize c.Gates.getD k ⟨0,0⟩=g at o⊢;rw[Zb (x:=c.Inputs+2),Zb (x:=c.Inputs+2+(k:Int)),Yh o.a (ZeH _),Yh o.b (ZeH _),Yh o.l (ZeH _)];have m1:ZO (N+6) [-(c.Inputs+2+(k:Int)),g.A]=_:=mkS2 N o.nl o.a o.al';have m2:ZO (N+6) [-(c.Inputs+2+(k:Int)),g.B]=_:=mkS2 N o.nl o.b o.bl';have m3:ZO (N+6) [c.Inputs+2+(k:Int),-g.A,-g.B]=_:=mkS3 N o.l o.na o.nb o.ab o.bl;have q:=inner3 N (MC:=ZO (N+6)) m1 m2 m3 (out:=accF c k) (by grind[accF_len]);have q':iterN _ (N+6) _=_:=q;rw[q'];rw[Zb];rfl
   simp[Zem,Za]
theorem impl_FormulaOf_eq{c:D.Circuit}{lit:Int}(hc:Sa c)(hg:c.Gates.length<=1048576):Vr fuel c lit=some (formP c lit):=by
 obtain⟨N,rfl⟩:∃n,fuel=n+6:=⟨fuel-6,by have:=FU.le (n:=fuel);omega⟩;unfold Vr formP;rw[Av hc hg];cases h1:circB2 c with
 |false=>simp
 | true=>
  have hp:=circP_iff.1 h1;have hl0:=hp.lines0;have hl1:=hp.lines1;simp only[Zep,Zeg,Zen,Du hp,Zee,ZeN,ZeJ,Ot (x:=lit) (n:=lines c) O O];cases h2:litN (lines c) lit with
  |false=>simp
  | true=>
   have hi0:=hp.i0;have hi1:=hp.i1;have hl:=hp.len;rw[Z5 (I:=λk t=>t=((k:Int),accF c k)) (m:=c.Gates.length) (r:=accF c c.Gates.length) (λk t hk ht=>?_) (λt ht=>?_) c.Gates.length 0 (0,[[1]]) O rfl (N+6) lt_fuel]
   ·have ha:app? (accF c c.Gates.length) [[lit]]=some (accF c c.Gates.length++[[lit]]):=by unfold app?;rw[Zei (by grind[accF_len,room])]
    simp_all
   all_goals subst ht
   ·refine⟨_, ?_,rfl⟩;have o:=Hq hp (SF hk);simp only[accF];rw[Zei aj,get?_nat,SF hk];simp only[Zee];generalize c.Gates.getD k ⟨0,0⟩=g at o⊢;rw[show w64 (2+c.Inputs)=c.Inputs+2 by grind[Zb],Zb (x:=c.Inputs+2+(k:Int)),Yh o.a (ZeH _),Yh o.b (ZeH _),Yh o.l (ZeH _)];have m1:ZX (N+6) [-(c.Inputs+2+(k:Int)),g.A]=_:=mkI2 N o.nl o.a o.al';have m2:ZX (N+6) [-(c.Inputs+2+(k:Int)),g.B]=_:=mkI2 N o.nl o.b o.bl';have m3:ZX (N+6) [c.Inputs+2+(k:Int),-g.A,-g.B]=_:=mkI3 N o.l o.na o.nb o.ab o.bl;have q:=inner3 N (MC:=ZX (N+6)) m1 m2 m3 (out:=accF c k) (by grind[accF_len]);have q':iterN _ (N+6) _=_:=q;rw[q'];rw[Zb];rfl
   simp[Zem,Za]
def IncI(n:Int)(c:List Int):Prop:=(∀x∈c,litN n x=true)/\c.Pairwise λx y=>iab x<iab y
theorem Zcm{c:D.Circuit}:∀k,∀x∈accF c k,x=[1]\/∃i,i<k/\x∈stepF c i (c.Gates.getD i ⟨0,0⟩):=by
 intro k
 induction k with
 |zero=>intro x hx;exact .inl (ZeA.1 hx)
 |succ k ih=>
  intro x hx;rcases Zew.1 hx with h|h
  all_goals grind
theorem inc1{n x:Int}(h:litN n x=true):IncI n [x]:=⟨λy hy=>by simp_all,by simp⟩
def form_inc{c:D.Circuit}(hc:CircP c){lit:Int}(hl:litN (lines c) lit=true):∀x∈accF c c.Gates.length++[[lit]],IncI (lines c) x/\x.length<=3:=by
 intro x hx;rcases Zew.1 hx with hx|hx
 ·rcases Zcm _ x hx with rfl|⟨i,hi,h⟩
  ·grind[inc1,litN_iff,iab]
  ·have o:=Hq hc (SF hi);have hb:=Qe.1 (hc.gate i _ (SF hi));have hlt:(c.Gates.take i).length=i:=by simp;omega
   rw[hlt]at hb;obtain⟨h1,h2,h3,h4,-⟩:=hb;have eN:lines c=c.Inputs+1+(c.Gates.length:Int):=rfl;have lt:∀y:Int,1<=iab y->iab y<=c.Inputs+2+(i:Int)->litN (lines c) y=true:=λy a b=>litN_iff.2 ⟨a,by omega⟩;have o1:=(litN_iff.1 o.a).1;have o2:=(litN_iff.1 o.b).1;have o3:=(litN_iff.1 o.l).1;have e1:iab (c.Inputs+2+(i:Int))=c.Inputs+2+(i:Int):=by grind[iab]
   have oa:=o.al';have ob:=o.bl';rw[Uq,e1]at oa ob;unfold stepF at h;simp only[ZeR,ZfR,or_false]at h;rcases h with rfl|rfl|rfl
   ·exact⟨⟨by simp only[ZeR,ZfR,or_false];rintro y (rfl|rfl);exact lt _ o1 O;simp_all[Uq],by simp_all[Uq]⟩,by simp⟩
   ·exact⟨⟨by simp only[ZeR,ZfR,or_false];rintro y (rfl|rfl);exact lt _ o2 O;simp_all[Uq],by simp_all[Uq]⟩,by simp⟩
   ·exact⟨⟨by all_goals grind[Uq],by simp_all[Uq]⟩,by simp⟩
 simp_all[ZeA,inc1]
def prv(c:List Int):Nat->Int
 |0=>0
 |k+1=>iab (c.getD k 0)
theorem Dw{n:Int}{c:List Int}(h:IncI n c){k:Nat}(hk:k<c.length):1<=iab c[k]/\iab c[k]<=n/\prv c k<iab c[k]:=by
 have h1:=litN_iff.1 (h.1 _ (ZeI hk));refine⟨h1.1,h1.2,?_⟩;cases k with
 |zero=>show(0:Int)<_;omega
 |succ k=>
  show iab (c.getD k 0)<_;rw[Zer,Zef O];exact(Zfx.1 h.2) k (k+1) O hk O
def ZaR{n:Int}{c:List Int}(h0:0<=n)(h1:n<=400)(h:IncI n c)(hl:c.length<=1000):VJ fuel c n=some true:=by
 unfold VJ;rw[Z5 (I:=λk t=>t=(prv c k,(k:Int))) (m:=c.length) (r:=.inl ()) (λk t hk ht=>?_) (λt ht=>?_) c.length 0 (0,0) O rfl fuel lt_fuel]
 ·rfl
 all_goals subst ht
 ·obtain⟨a1,a2,a3⟩:=Dw h hk;have hb:-1000<=c[k]/\fitInt c[k]:=by grind[fitInt,iab]
  rw[Zei aj,get?_nat,Zef hk];simp only[Zee];have hi:Zc c[k] (w64 (0-n)) n=some true:=by
   unfold Zc;rw[Zb];unfold iab at a2;split at a2<;>simp<;>omega
  rw[hi];simp only[Zee,Zep,Zeg,Zen,ZeN,WC hb.2 hb.1];rw[Zem aa,Zb];simp_all[prv,Zer,Zef]
 simp[Zem,Za]
def Zck{n:Int}{c:List Int}(h0:0<=n)(h1:n<=400)(h:IncI n c)(hl:c.length<=1000):YB fuel c n=some true:=by
 unfold YB;rw[Ql h0 O O,show c.all (litN n)=true from Zev.2 h.1];rw[Z5 (I:=λk t=>t=((k+1:Nat):Int)) (m:=c.length-1) (r:=.inl ()) (λk t hk ht=>?_) (λt ht=>?_) (c.length-1) 0 1 O rfl fuel lt_fuel]
 ·rfl
 all_goals subst ht
 ·refine⟨_, ?_,rfl⟩;have hk1:k+1<c.length:=by omega
  have hk0:k<c.length:=by omega
  obtain⟨a1,a2,a3⟩:=Dw h hk1;obtain⟨b1,b2,b3⟩:=Dw h hk0;have hx:-1000<=c[k+1]/\fitInt c[k+1]:=by grind[fitInt,iab]
  have hy:-1000<=c[k]/\fitInt c[k]:=by grind[fitInt,iab]
  replace a3:iab (c.getD k 0)<_:=a3
  have e1:w64 (((k+1:Nat):Int)-1)=(k:Int):=by grind[Zb]
  rw[Zei aD,e1,get?_nat,get?_nat,Zef hk1,Zef hk0];simp only[Zee,Xf hx.2 hx.1,Xf hy.2 hy.1];rw[Zem ag,Zb];rfl
 ·rw[Zem aD]
section
variable{f:D.Formula}(h0:0<=f.Vars)(h1:f.Vars<=400)(hn:f.Clauses.length<=1600)(h:∀c∈f.Clauses,IncI f.Vars c/\c.length<=1000)
include h0 h1 hn h
theorem spec_fok:XQ fuel f=some true:=by
 unfold XQ;rw[show Zc f.Vars 0 400=some true by simp_all[Zc]];simp only[Zee];rw[Zem aD];rw[Z5 (I:=λk t=>t=(k:Int)) (m:=f.Clauses.length) (r:=.inl ()) (λk t hk ht=>?_) (λt ht=>?_) f.Clauses.length 0 0 O rfl fuel lt_fuel]
 ·rfl
 all_goals subst ht
 ·refine⟨((k+1:Nat):Int), ?_,rfl⟩;have hc:=h _ (ZeI hk);rw[Zei aj,get?_nat,Zef hk];simp only[Zee];rw[ZaR h0 h1 hc.1 hc.2];simp only[Zee];rw[ifn,Zb];rfl
 simp[Zem,Za]
theorem impl_fok:XG fuel f=some true:=by
 unfold XG;rw[Zem ah];rw[Z5 (I:=λk t=>t=(k:Int)) (m:=f.Clauses.length) (r:=.inl ()) (λk t hk ht=>?_) (λt ht=>?_) f.Clauses.length 0 0 O rfl fuel lt_fuel]
 ·rfl
 all_goals subst ht
 ·refine⟨((k+1:Nat):Int), ?_,rfl⟩;have hc:=h _ (ZeI hk);rw[Zei ah,get?_nat,Zef hk];simp only[Zee];rw[Zck h0 h1 hc.1 hc.2];simp only[Zee];rw[ifn,Zb];rfl
 ·rw[Zem ao]
end
end Go.Proofs.YtccamimfkohabaaGreatDoor.Cc
end
section
namespace Go.Proofs.YtccamimfkohabaaGreatDoor
open Go.GL
set_option maxRecDepth 100000
def itS{σt ρt:Type}{B:σt->Option (σt⊕ρt)}{s s':σt}{n:Nat}(h:B s=some (.inl s')):iterN B (n+1) s=iterN B n s':=by
 rw[iterN,h]
def itE{σt ρt:Type}{B:σt->Option (σt⊕ρt)}{s:σt}{r:ρt}{n:Nat}(h:B s=some (.inr r))(hn:0<n):iterN B n s=some r:=by
 obtain⟨n,rfl⟩:∃k,n=k+1:=⟨n-1,by omega⟩;rw[iterN,h]
def bit(b:Bool):Int:=if b then 1 else 0
def wrd(l:List Bool):Int:=l.foldl (λa b=>w64 (w64 (2*a)+bit b)) 0
theorem EC(l:List Bool)(b:Bool):wrd (l++[b])=w64 (w64 (2*wrd l)+bit b):=by simp[wrd,Zfm]
def valsP(model:List Bool):Nat->List D.Value->List D.Value
 |_,[]=>[]
 |off,v::L=>⟨v.Name,v.W,wrd ((model.drop off).take v.W.toNat)⟩::valsP model (off+v.W.toNat) L
theorem JX(model:List Bool):∀(L:List D.Value)(off:Nat),(valsP model off L).length=L.length
 |[],_=>rfl
 |v::L,off=>by rw[valsP,Ze3,JX model L,Ze3]
def wsum(L:List D.Value):Nat:=(L.map λv=>v.W.toNat).sum
theorem IK:∀(L:List D.Value)(a:Int),(∀v∈L,1<=v.W/\v.W<=16)->bitsV L a=a+(wsum L:Int)
 |[],a,_=>by simp[wsum,bitsV]
 |v::L,a,h=>by
  rw[Ch,IK L _ λx hx=>h x (by simp[hx])];grind[wsum]
section
variable{model:List Bool}(hM:model.length<=1000)
theorem Ij{off j:Nat}(h:off+j<model.length):(model.drop off).take (j+1)=(model.drop off).take j++[model[off+j]]:=by
 grind[List.take_succ_eq_append_getElem,List.length_drop]
include hM
theorem EO{off W:Nat}{w:Int}(hw:w=(W:Int))(h:off+W<=model.length){n:Nat}(hn:2000<=n):iterN (λ(s2:Int×Int×Int)=>if(decide (s2.2.2<w))then(get? model s2.1).bind λx2=>(Yw x2).bind λx3=>some (.inl ((w64 (s2.1+1)),(w64 ((w64 (2*s2.2.1))+x3)),(w64 (s2.2.2+1))))else some (.inr (s2.1,s2.2.1))) n ((off:Int),0,0)=some (((off+W:Nat):Int),wrd ((model.drop off).take W)):=by
  rw[Z5 (I:=λk t=>t=(((off+k:Nat):Int),wrd ((model.drop off).take k),(k:Int))) (m:=W) (r:=(((off+W:Nat):Int),wrd ((model.drop off).take W))) (λk t hk ht=>?_) (λt ht=>?_) W 0 _ O (by simp[wrd]) n O]
  all_goals subst ht
  · have ht:Yw model[off+k]=some (bit model[off+k]):=by grind[Yw,bit]
    rw[get?_nat,Zef O];grind[Ij,EC,Zb]
  simp_all
theorem Gx{L:List D.Value}(hL:L.length<=1000)(hw:∀v∈L,1<=v.W/\v.W<=16){n:Nat}(hn:4000<=n)(hs:1+wsum L<=model.length):VB n L model=some (valsP model 1 L):=by
  unfold VB;have key:∀(rest pre out:List D.Value)(off k:Nat),pre++rest=L->off+wsum rest<=model.length->out.length=pre.length->rest.length<k->iterN (λ(s1:Int×Int×(List D.Value))=>if (decide (s1.2.1<(len L)))then(get? L s1.2.1).bind λx1=>(iterN (λ(s2:Int×Int×Int)=>if(decide (s2.2.2<x1.W))then(get? model s2.1).bind λx2=>(Yw x2).bind λx3=>some (.inl ((w64 (s2.1+1)),(w64 ((w64 (2*s2.2.1))+x3)),(w64 (s2.2.2+1))))else some (.inr (s2.1,s2.2.1))) n (s1.1,0,0)).bind λ(rl2:Int×Int)=>(app? s1.2.2 ([(D.Value.mk x1.Name x1.W rl2.2)]:List D.Value)).bind λx4=>some (.inl (rl2.1,(w64 (s1.2.1+1)),x4))else some (.inr (s1.2.2))) k ((off:Int),(pre.length:Int),out)=some (out++valsP model off rest):=by
    intro rest
    induction rest with
    | nil=>
      intro pre out off k he hb ho hk;have hd:decide ((pre.length:Int)<len L)=false:=by simp_all[Za,ZeM]
      refine itE ?_ O;simp_all[Zeg,Zen,valsP,ZeM]<;>grind
    | cons v rest ih=>
      intro pre out off k he hb ho hk;have hlen:pre.length+(rest.length+1)=L.length:=by grind
      simp only[Ze3]at hk;obtain⟨k,rfl⟩:∃j,k=j+1:=⟨k-1,by omega⟩;have hd:decide ((pre.length:Int)<len L)=true:=by grind[Za,decide_eq_true]
      have hv:=hw v an;have hg:L[pre.length]? =some v:=by grind
      have hws:wsum (v::rest)=v.W.toNat+wsum rest:=by rfl
      rw[itS (s':=(((off+v.W.toNat:Nat):Int),((pre++[v]).length:Int),out++[⟨v.Name,v.W,wrd ((model.drop off).take v.W.toNat)⟩])) (by
        simp only[hd,Ze2];rw[get?_nat,hg];simp only[Zee];rw[EO hM (W:=v.W.toNat) O O O];simp only[Zee];unfold app?;rw[Zei (by simp only[Ze3,Zf4];unfold room;omega),Zb]
        simp)]
      rw[ih (pre++[v]) _ _ k (by rw[Zez];exact he) O (by rw[Zeo,Zeo,ho];rfl) O,valsP,Zez];rfl
  have:=key L [] [] 1 n rfl hs rfl O;exact congrArg (λo=>Option.bind o λ(rl1:List D.Value)=>some rl1) this
theorem EI{off W:Nat}{out rest:List D.Value}{nm:Str}(h:off+W<=model.length)(ho:out.length<=1000){n:Nat}(hn:2000<=n):iterN (λ(s2:Int×Int×(List D.Value))=>(get? s2.2.2 (out.length:Int)).bind λx2=>if(decide (s2.2.1<x2.W))then(get? s2.2.2 (out.length:Int)).bind λx3=>(get? model (w64 (s2.1-1))).bind λx4=>(Yx x4).bind λx5=>(get? s2.2.2 (out.length:Int)).bind λx6=>(set? s2.2.2 (out.length:Int) ({x6 with N:=(w64 ((w64 (2*x3.N))+x5))}:D.Value)).bind λx7=>some (.inl ((w64 (s2.1+1)),(w64 (s2.2.1+1)),x7))else some (.inr (s2.1,s2.2.2))) n (((off+1:Nat):Int),0,out++⟨nm,(W:Int),0⟩::rest)=some (((off+W+1:Nat):Int),out++⟨nm,(W:Int),wrd ((model.drop off).take W)⟩::rest):=by
  have hat:∀v:D.Value,get? (out++v::rest) (out.length:Int)=some v:=λv=>by simp[get?_nat]
  have hst:∀v v':D.Value,set? (out++v::rest) (out.length:Int) v'=some (out++v'::rest):=λv v'=>by simp[set?_nat]
  rw[Z5 (I:=λk t=>t=(((off+k+1:Nat):Int),(k:Int),out++⟨nm,(W:Int),wrd ((model.drop off).take k)⟩::rest)) (m:=W) (r:=(((off+W+1:Nat):Int),out++⟨nm,(W:Int),wrd ((model.drop off).take W)⟩::rest)) (λk t hk ht=>?_) (λt ht=>?_) W 0 _ O (by simp[wrd]) n O]
  all_goals subst ht
  · have hd:decide ((k:Int)<(W:Int))=true:=decide_eq_true O
    have ht:Yx model[off+k]=some (bit model[off+k]):=by grind[Yx,bit]
    have e1:w64 (((off+k+1:Nat):Int)-1)=((off+k:Nat):Int):=by grind[Zb]
    simp only[hat,Zee,hd,Ze2,e1];rw[get?_nat,Zef O];grind[Ij,EC,Zb]
  simp_all
theorem IZ{L:List D.Value}(hL:L.length<=1000)(hw:∀v∈L,1<=v.W/\v.W<=16){n:Nat}(hn:4000<=n)(hs:1+wsum L<=model.length){t:D.Term}(hv:WL n t=some (L.map zv)):Ub n t model=some (valsP model 1 L):=by
  unfold Ub;rw[hv];have key:∀(rest pre out:List D.Value)(off k:Nat),pre++rest=L->off+wsum rest<=model.length->out.length=pre.length->rest.length<k->iterN (λ(s1:Int×Int×(List D.Value))=>if (decide (s1.2.1<(len (L.map zv))))then(iterN (λ(s2:Int×Int×(List D.Value))=>(get? s2.2.2 s1.2.1).bind λx2=>if(decide (s2.2.1<x2.W))then(get? s2.2.2 s1.2.1).bind λx3=>(get? model (w64 (s2.1-1))).bind λx4=>(Yx x4).bind λx5=>(get? s2.2.2 s1.2.1).bind λx6=>(set? s2.2.2 s1.2.1 ({x6 with N:=(w64 ((w64 (2*x3.N))+x5))}:D.Value)).bind λx7=>some (.inl ((w64 (s2.1+1)),(w64 (s2.2.1+1)),x7))else some (.inr (s2.1,s2.2.2))) n (s1.1,0,s1.2.2)).bind λ(rl2:Int×(List D.Value))=>some (.inl (rl2.1,(w64 (s1.2.1+1)),rl2.2))else some (.inr (s1.2.2))) k (((off+1:Nat):Int),(pre.length:Int),out++rest.map zv)=some (out++valsP model off rest):=by
    intro rest
    induction rest with
    | nil=>
      intro pre out off k he hb ho hk;have hd:decide ((pre.length:Int)<len (L.map zv))=false:=by simp_all[Za,Zf5,ZeM]
      refine itE ?_ O;simp_all[Zeg,Zen,valsP,ZeM,ZgD]<;>grind
    | cons v rest ih=>
      intro pre out off k he hb ho hk;have hlen:pre.length+(rest.length+1)=L.length:=by grind
      simp only[Ze3]at hk;obtain⟨k,rfl⟩:∃j,k=j+1:=⟨k-1,by omega⟩;have hd:decide ((pre.length:Int)<len (L.map zv))=true:=by rw[Za,Zf5];exact decide_eq_true O
      have hv:=hw v (by rw[<-he];simp);have hws:wsum (v::rest)=v.W.toNat+wsum rest:=by unfold wsum;rw[ZeQ,List.sum_cons]
      have hvw:((v.W.toNat:Nat):Int)=v.W:=by omega
      have hin:=EI hM (off:=off) (W:=v.W.toNat) (out:=out) (rest:=rest.map zv) (nm:=v.Name) (n:=n) O O O;rw[hvw]at hin
      rw[itS (s':=(((off+v.W.toNat+1:Nat):Int),((pre++[v]).length:Int),(out++[⟨v.Name,v.W,wrd ((model.drop off).take v.W.toNat)⟩])++rest.map zv)) (by
        simp only[hd,Ze2];rw[<-ho];refine(congrArg (λo=>Option.bind o (λ(rl2:Int×(List D.Value))=>some (.inl (rl2.1,w64 ((out.length:Int)+1),rl2.2):(Int×Int×List D.Value)⊕List D.Value))) hin).trans ?_;rw[Zb]
        simp[ho])]
      rw[ih (pre++[v]) _ _ k (by rw[Zez];exact he) O (by rw[Zeo,Zeo,ho];rfl) O,valsP,Zez];rfl
  have:=key L [] [] 1 n rfl hs rfl O;exact congrArg (λo=>Option.bind o λ(rl1:List D.Value)=>some rl1) this
end
end Go.Proofs.YtccamimfkohabaaGreatDoor
end
section
namespace Go.Proofs.YtccamimfkohabaaGreatDoor.Sv
open Go.GL
def lv(a:List Int)(x:Int):Int:=if x<0 then-(a.getD x.natAbs 0)else a.getD x.natAbs 0
def isL(m:Nat)(x:Int):Prop:=x≠0/\x.natAbs<=m
structure Asg(m:Nat)(a:List Int):Prop where
 len:a.length=m+1
 val:∀i,a.getD i 0=-1\/a.getD i 0=0\/a.getD i 0=1
 nul:a.getD 0 0=0
structure ClM(m:Nat)(c:List Int):Prop where
 lit:∀x∈c,isL m x
 dif:c.Pairwise λx y=>x.natAbs≠y.natAbs
def stA(a:List Int)(l:Int):List Int:=a.set l.natAbs (if l<0 then-1 else 1)
def RI{a:List Int}{x:Int}(h:x≠0):lv a (-x)=-lv a x:=by
 unfold lv;rw[Zgc];by_cases c:x<0
 ·rw[ifn,Zei c];omega
 ·rw[ifp,Zem c]
def Bq{m:Nat}{a:List Int}(h:Asg m a)(x:Int):lv a x=-1\/lv a x=0\/lv a x=1:=by
 unfold lv;have:=h.val x.natAbs;split<;>omega
def Jh{a:List Int}{i j:Nat}{v:Int}(h:i<a.length):(a.set i v).getD j 0=if j=i then v else a.getD j 0:=by
 rw[Zer,ZfK,Zer];by_cases e:i=j
 ·subst e;rw[Zei rfl,Zei h,Zei rfl];rfl
 ·rw[Zem e,Zem (Ne.symm e)]
def Qu{m:Nat}{a:List Int}{l x:Int}(ha:a.length=m+1)(hl:isL m l)(hx:x≠0):lv (stA a l) x=if x=l then 1 else if x=-l then-1 else lv a x:=by
 obtain⟨l0,l1⟩:=hl;unfold lv stA;rw[Jh O];by_cases e:x.natAbs=l.natAbs
 ·rw[Zei e];by_cases e1:x=l
  ·subst e1;rw[Zei rfl];by_cases c:x<0
   ·rw[Zei c,Zei c];omega
   ·rw[Zem c,Zem c]
  ·have e2:x=-l:=by omega
   rw[Zem e1,Zei e2];by_cases c:x<0
   ·rw[Zei c,ifn]
   ·rw[Zem c,ifp]
 ·rw[Zem e,Zem (show¬x=l by intro h;exact e (by rw[h])),Zem (show¬x=-l by intro h;exact e (by rw[h,Zgc]))]
def Lv{m:Nat}{a:List Int}{l:Int}(h:Asg m a)(hl:isL m l):Asg m (stA a l):=by
 obtain⟨l0,l1⟩:=hl;have h1:=h.len;refine⟨by unfold stA;rw[ZfX];exact h1,λi=>?_,?_⟩
 ·unfold stA;rw[Jh O];split
  ·split<;>omega
  ·exact h.val i
 ·unfold stA;rw[Jh O,ifn];exact h.nul
def ZcK{m:Nat}{a b:List Int}(ha:Asg m a)(hb:Asg m b)(h:∀x,isL m x->(lv a x=1↔lv b x=1)):a=b:=by
 refine List.ext_getElem (ha.len.trans hb.len.symm) λi h1 h2=>?_;have g1:a.getD i 0=a[i]:=by rw[Zer,Zef h1];rfl
 have g2:b.getD i 0=b[i]:=by rw[Zer,Zef h2];rfl
 rw[<-g1,<-g2];by_cases hi:i=0
 ·subst hi;rw[ha.nul,hb.nul]
 have hm:i<=m:=by have:=ha.len;omega
 have p:=h (i:Int) ⟨by omega,by omega⟩;have q:=h (-(i:Int)) ⟨by omega,by omega⟩;rw[RI O,RI O]at q;have e:∀c:List Int,lv c (i:Int)=c.getD i 0:=λc=>by unfold lv;rw[ifn];simp
 rw[e,e]at p q;have va:=ha.val i;have vb:=hb.val i;omega
inductive Der(cs:List (List Int))(S:Int->Prop):Int->Prop
 |base {x:Int}:S x->Der cs S x
 |unit {c:List Int} {x:Int}:c∈cs->x∈c->(∀y∈c,y≠x->Der cs S (-y))->Der cs S x
def good(a:List Int)(c:List Int):Prop:=(∃x∈c,lv a x=1)\/∃x∈c,∃y∈c,x≠y/\lv a x=0/\lv a y=0
structure Okc(m:Nat)(cs:List (List Int))(S:Int->Prop)(a:List Int):Prop where
 asg:Asg m a
 ext:∀x,S x->lv a x=1
 snd:∀x,isL m x->lv a x=1->Der cs S x
 cl:∀c∈cs,good a c
def Bad(cs:List (List Int))(S:Int->Prop):Prop:=∃c∈cs,∀y∈c,Der cs S (-y)
section
variable{m:Nat}{cs:List (List Int)}{S:Int->Prop}{a b:List Int}
theorem EX(hcs:∀c∈cs,ClM m c)(h:Okc m cs S a){x:Int}(hd:Der cs S x):lv a x=1:=by
 induction hd with
 |base hx=>exact h.ext _ hx
 | @unit c x hc hx _ ih=>
  have ih':∀y∈c,y≠x->lv a y=-1:=λy hy hne=>by
   have:=ih y hy hne;rw[RI ((hcs c hc).lit y hy).1]at this;omega
  rcases h.cl c hc with⟨z,hz,hz1⟩|⟨y,hy,z,hz,hne,hy0,hz0⟩
  ·by_cases e:z=x
   ·subst e;exact hz1
   ·have:=ih' z hz e;omega
  ·by_cases e:y=x
   ·have:=ih' z hz (λe'=>hne (e.trans e'.symm));omega
   ·have:=ih' y hy e;omega
def Ed(hcs:∀c∈cs,ClM m c)(h:Okc m cs S a):¬Bad cs S:=λ⟨c,hc,hb⟩=>by
 have ih:∀y∈c,lv a y=-1:=λy hy=>by
  have:=EX hcs h (hb y hy);rw[RI ((hcs c hc).lit y hy).1]at this;omega
 rcases h.cl c hc with⟨z,hz,hz1⟩|⟨y,hy,z,hz,hne,hy0,hz0⟩
 ·have:=ih z hz;omega
 ·have:=ih y hy;omega
def Za3(hcs:∀c∈cs,ClM m c)(h:Okc m cs S a)(h':Okc m cs S b):a=b:=
 ZcK h.asg h'.asg λx hx=>⟨λe=>EX hcs h' (h.snd x hx e),λe=>EX hcs h (h'.snd x hx e)⟩
def Res(m:Nat)(cs:List (List Int))(S:Int->Prop):Option (List Int)->Prop
 |some a=>Okc m cs S a
 |none=>Bad cs S
def free(a:List Int)(c:List Int):List Int:=c.filter λx=>lv a x==0
def Ps{c:List Int}{x:Int}:x∈free a c↔x∈c/\lv a x=0:=by unfold free;rw[Ze6];simp
theorem Fb{c:List Int}(hc:ClM m c)(h:2<=(free a c).length):good a c:=by
 have hp:(free a c).Pairwise λx y=>x.natAbs≠y.natAbs:=hc.dif.filter _
 match hf:free a c,h with
 |x::y::l,_=>
  rw[hf]at hp;have hx:x∈free a c:=by rw[hf];simp
  have hy:y∈free a c:=by rw[hf];simp
  rw[Ps]at hx hy;refine .inr ⟨x,hx.1,y,hy.1,λe=>?_,hx.2,hy.2⟩;rw[ZfE]at hp;exact hp.1 y U (by rw[e])
def Snd(m:Nat)(cs:List (List Int))(S:Int->Prop)(a:List Int):Prop:=∀x,isL m x->lv a x=1->Der cs S x
def Br(hA:Asg m a)(hs:Snd m cs S a){c:List Int}(hc:ClM m c){y:Int}(hy:y∈c)(h1:lv a y≠1)(h0:lv a y≠0):Der cs S (-y):=by
 have hl:=hc.lit y hy;have:=Bq hA y;exact hs (-y) ⟨by have:=hl.1;omega,by rw[Zgc];exact hl.2⟩ (by rw[RI hl.1];omega)
def Fj(hA:Asg m a)(hs:Snd m cs S a){c:List Int}(hcs:c∈cs)(hc:ClM m c)(hn:∀x∈c,lv a x≠1)(hf:free a c=[]):Bad cs S:=
 ⟨c,hcs,λy hy=>Br hA hs hc hy (hn y hy) λh=>by
  have:y∈free a c:=Ps.2 ⟨hy,h⟩
  rw[hf]at this;cases this⟩
def Zby(hA:Asg m a)(hs:Snd m cs S a){c:List Int}(hcs:c∈cs)(hc:ClM m c)(hn:∀x∈c,lv a x≠1){l:Int}(hf:free a c=[l]):isL m l/\l∈c/\lv a l=0/\Asg m (stA a l)/\Snd m cs S (stA a l):=by
 have hl:l∈free a c:=by rw[hf];simp
 rw[Ps]at hl;have hL:=hc.lit l hl.1;refine⟨hL,hl.1,hl.2,Lv hA hL,λx hx h=>?_⟩;rw[Qu hA.len hL hx.1]at h;by_cases e:x=l
 ·subst e;refine .unit hcs hl.1 λy hy hne=>Br hA hs hc hy (hn y hy) λh0=>?_;have:y∈free a c:=Ps.2 ⟨hy,h0⟩;rw[hf,ZeA]at this;exact hne this
 ·rw[Zem e]at h;split at h
  ·omega
  ·exact hs x hx h
def LD(hA:Asg m a){l:Int}(hl:isL m l)(h0:lv a l=0){x:Int}(hx:x≠0)(h:lv a x≠0):lv (stA a l) x=lv a x:=by
 rw[Qu hA.len hl hx,Zem (show¬x=l from λe=>h (e▸h0)),Zem (show¬x=-l from λe=>h (by rw[e,RI hl.1,h0];rfl))]
def FW(hA:Asg m a){l:Int}(hl:isL m l)(h0:lv a l=0){c:List Int}(hc:ClM m c)(h:good a c):good (stA a l) c∨-l∈c:=by
 by_cases hn:-l∈c
 ·exact .inr hn
 refine .inl ?_;rcases h with⟨x,hx,h1⟩|⟨x,hx,y,hy,hne,hx0,hy0⟩
 ·exact .inl ⟨x,hx,by rw[LD hA hl h0 (hc.lit x hx).1 O];exact h1⟩
 ·by_cases e:l∈c
  ·exact .inl ⟨l,e,by rw[Qu hA.len hl hl.1,Zei rfl]⟩
  ·have k:∀z∈c,lv a z=0->lv (stA a l) z=0:=λz hz hz0=>by
    rw[Qu hA.len hl (hc.lit z hz).1,Zem (show¬z=l from λe'=>e (e'▸hz)),Zem (show¬z=-l from λe'=>hn (e'▸hz))];exact hz0
   exact .inr ⟨x,hx,y,hy,hne,k x hx hx0,k y hy hy0⟩
end
set_option maxRecDepth 100000
structure FmP(f:D.Formula)(m:Nat):Prop where
 vars:f.Vars=m
 small:m<=400
 num:f.Clauses.length<=1600
 cl:∀c∈f.Clauses,ClM m c/\c.length<=1000
def Sv(m:Nat)(v:List Int)(x:Int):Prop:=isL m x/\lv v x=1
def zer(v:List Int):Nat:=v.count 0
def RP{σt ρt:Type}{B:σt->Option (σt⊕ρt)}{s s':σt}{n:Nat}(h:B s=some (.inl s')):iterN B (n+1) s=iterN B n s':=by
 rw[iterN,h]
section
variable{m:Nat}{a:List Int}{x:Int}
theorem SA{i:Nat}(h:i<a.length):a[i]? =some (a.getD i 0):=by
 simp_all
def OQ(hA:Asg m a)(hl:isL m x)(h0:lv a x=0):zer (stA a x)+1=zer a:=by
 obtain⟨l0,l1⟩:=hl;have hi:x.natAbs<a.length:=by have:=hA.len;omega
 have hg:a[x.natAbs]=0:=by
  grind[SA,List.getElem?_eq_getElem,Option.some.inj,lv]
 simp_all[Zgu,ZeI,zer,stA,List.count_set,ZfS,Ze2,Zeg,Zen]<;>grind
def CK(hm:m<=400)(hl:isL m x):(if(decide (x<0))=true then some (w64 (0-x))else some x)=some (x.natAbs:Int):=by
 obtain⟨l0,l1⟩:=hl;by_cases h:x<0
 ·rw[Zei az,Zb];grind
 grind
def WC(hm:m<=400)(hl:isL m x):Z6 x=some (x.natAbs:Int):=CK hm hl
def EU(hA:Asg m a)(hl:isL m x):get? a (x.natAbs:Int)=some (a.getD x.natAbs 0):=by
 exact SA (by have:=hA.len;have:=hl.2;omega)
def Zdh(hA:Asg m a)(x:Int):(cond (decide (x<0)) (w64 (0-a.getD x.natAbs 0)) (a.getD x.natAbs 0))=lv a x:=by
 unfold lv;have:=hA.val x.natAbs;by_cases h:x<0
 ·rw[Zei h,decide_eq_true h,cond_true,Zb];omega
 grind
def lst(l:List Int):Int:=l.getLastD 0
def KY(c d:List Int):free a (c++d)=free a c++free a d:=by simp[free,List.filter_append]
def Bn(l:List Int)(y:Int):lst (l++[y])=y:=by simp[lst]
def Zap(hA:Asg m a)(hm:m<=400){c:List Int}(hc:∀x∈c,isL m x)(hlen:c.length<=1000){n:Nat}(hn:2000<=n):iterN (λ(s3:Int×Int×Bool×Int)=>if(decide (s3.2.2.2<(len c)))then(get? c s3.2.2.2).bind λx2=>(Z6 x2).bind λx3=>(get? a x3).bind λx4=>if((cond (decide (x2<0)) (w64 (0-x4)) x4)==0)then some (.inl ((w64 (s3.1+1)),x2,(s3.2.2.1||(decide ((cond (decide (x2<0)) (w64 (0-x4)) x4)>0))),(w64 (s3.2.2.2+1))))else some (.inl (s3.1,s3.2.1,(s3.2.2.1||(decide ((cond (decide (x2<0)) (w64 (0-x4)) x4)>0))),(w64 (s3.2.2.2+1))))else some (.inr (s3.1,s3.2.1,s3.2.2.1))) n (0,0,false,0)=some (((free a c).length:Int),lst (free a c),c.any λx=>lv a x==1):=by
  refine VQ (l:=c) (n:=n) (σ:=Int×Int×Bool) (λk q=>(q.1,q.2.1,q.2.2,(k:Int)))
    (λys q=>∃pre,pre++ys=c/\q=(((free a pre).length:Int),lst (free a pre),pre.any λx=>lv a x==1))
    (λr=>r=(((free a c).length:Int),lst (free a c),c.any λx=>lv a x==1))
    (λk x xs q hk hx hl⟨pre,h1,h2⟩=>by
      have hd:decide ((k:Int)<len c)=true:=by grind[Za]
      have hlx:=hc x (Zel hx);have hfl:(free a pre).length<=c.length:=by
        rw[<-h1];exact Zfh (List.length_filter_le _ _) U
      subst h2;simp only[hd,Ze2,get?_nat,hx,Zee];rw[WC hm hlx];simp only[Zee];rw[EU hA hlx];simp only[Zee,Zdh hA x];have hv:=Bq hA x;have hk1:w64 ((k:Int)+1)=((k+1:Nat):Int):=by grind[Zb]
      have hany:((pre++[x]).any λx=>lv a x==1)=((pre.any λx=>lv a x==1)||decide (lv a x>0)):=by
        rw[ZgI];simp only[List.any_cons,List.any_nil,Zg6];congr 1;rcases hv with e|e|e<;>rw[e]<;>decide
      by_cases h0:lv a x=0
      · have hb:(lv a x==0)=true:=by simpa using h0
        refine .inl ⟨(((free a (pre++[x])).length:Int),lst (free a (pre++[x])),(pre++[x]).any λx=>lv a x==1),?_,pre++[x],by rw[Zez];exact h1,rfl⟩;have hfr:free a (pre++[x])=free a pre++[x]:=by
          unfold free;simp[h0]
        rw[Zei hb,hk1,hany,hfr,Bn,Zb];simp
      · have hb:(lv a x==0)=false:=by simpa using h0
        refine .inl ⟨(((free a (pre++[x])).length:Int),lst (free a (pre++[x])),(pre++[x]).any λx=>lv a x==1),?_,pre++[x],by rw[Zez];exact h1,rfl⟩;have hfr:free a (pre++[x])=free a pre:=by
          rw[KY];have:free a [x]=[]:=by unfold free;simp[h0]
          rw[this,ZeM]
        rw[Zem (by rw[hb];decide),hk1,hany,hfr])
    (λq⟨pre,h1,h2⟩=>by
      have hd:decide ((c.length:Int)<len c)=false:=by rw[Za];simp
      simp only[hd,Zeg,Zen];rw[ZeM]at h1;subst h1
      exact⟨_,rfl,h2⟩) (a:=(0,0,false)) ⟨[],rfl,rfl⟩ O λr g2=>?_
  rw[g2]
def Zbv(hm:m<=400)(hl:isL m x):quo? x (x.natAbs:Int)=some (if x<0 then-1 else 1):=by
 obtain⟨l0,l1⟩:=hl;unfold quo?;rw[ifn];by_cases h:x<0
 ·have e:(x.natAbs:Int)=-x:=by omega
  rw[Zei h,e,Int.tdiv_neg,Int.tdiv_self l0];rfl
 ·have e:(x.natAbs:Int)=x:=by omega
  rw[Zem h,e,Int.tdiv_self l0];rfl
def Cr(hA:Asg m a)(hl:isL m x):set? a (x.natAbs:Int) (if x<0 then-1 else 1)=some (stA a x):=by
 unfold set? stA;rw[Zei ⟨by omega,by have:=hA.len;have:=hl.2;omega⟩];simp
end
section
variable{f:D.Formula}{m:Nat}{S:Int->Prop}
structure Way(m:Nat)(cs:List (List Int))(S:Int->Prop)(a:List Int):Prop where
 asg:Asg m a
 ext:∀x,S x->lv a x=1
 snd:Snd m cs S a
def Way.unit{cs:List (List Int)}{a:List Int}(h:Way m cs S a)(hS:∀x,S x->isL m x){c:List Int}(hc:c∈cs)(hm:ClM m c)(hn:∀x∈c,lv a x≠1){l:Int}(hf:free a c=[l]):Way m cs S (stA a l)/\isL m l/\lv a l=0/\l∈c:=by
 obtain⟨h1,h2,h3,h4,h5⟩:=Zby h.asg h.snd hc hm hn hf;refine⟨⟨h4,λx hx=>?_,h5⟩,h1,h3,h2⟩;rw[LD h.asg h1 h3 (hS x hx).1 (by rw[h.ext x hx];decide)];exact h.ext x hx
def Jd{a:List Int}{c:List Int}:(c.any λx=>lv a x==1)=true↔∃x∈c,lv a x=1:=by
 simp
theorem Et(hf:FmP f m)(hS:∀x,S x->isL m x){a:List Int}(hw:Way m f.Clauses S a){c:List Int}(hc:c∈f.Clauses):
  (((c.any λx=>lv a x==1)||decide (((free a c).length:Int)>1))=true/\good a c)\/
  (((c.any λx=>lv a x==1)||decide (((free a c).length:Int)>1))=false/\((((free a c).length:Int)==0)=true/\Bad f.Clauses S\/(((free a c).length:Int)==0)=false/\isL m (lst (free a c))/\Way m f.Clauses S (stA a (lst (free a c)))/\zer (stA a (lst (free a c)))+1=zer a)):=by
 have hcl:=(hf.cl c hc).1;cases hany:c.any λx=>lv a x==1 with
 |true=>exact .inl ⟨by simp,.inl (Jd.1 hany)⟩
 | false=>
  have hn:∀x∈c,lv a x≠1:=λx hx e=>by
   simp_all
  match hfr:free a c with
  |[]=>exact .inr ⟨by simp,.inl ⟨by simp,Fj hw.asg hw.snd hc hcl hn hfr⟩⟩
  |[l]=>
   obtain⟨h1,h2,h3,_⟩:=hw.unit hS hc hcl hn hfr;exact .inr ⟨by simp,.inr ⟨by simp,h2,h1,OQ hw.asg h2 h3⟩⟩
  |x::y::l=>grind[Fb]
def DF{a:List Int}(h:Asg m a):zer a<=m+1:=by
 rw[<-h.len];exact List.count_le_length
def Stp{S ρ:Type}(I:Nat->S->Prop)(R:ρ->Prop)(M:Nat)(Y:Option (S⊕ρ)):Prop:=(∃s' M',Y=some (.inl s')/\M'<M/\I M' s')\/∃r,Y=some (.inr r)/\R r
theorem GR{S ρ γ:Type}{B:S->Option (S⊕ρ)}{K:ρ->Option γ}{z:Option γ}(I:Nat->S->Prop)(R:ρ->Prop)(hs:∀M s,I M s->Stp I R M (B s)){M n:Nat}{s:S}(hI:I M s)(hn:M<n)(h:(iterN B n s).bind K=z):∃r,R r/\K r=z:=by
 induction n generalizing M s with
 |zero=>omega
 |succ n ih=>
  rcases hs M s hI with⟨s',M',h1,h2,h3⟩|⟨r,h1,h2⟩
  ·rw[RP h1]at h;exact ih h3 O h
  ·rw[ZV h1 O]at h;exact⟨r,h2,h⟩
theorem Eu(hf:FmP f m)(hS:∀x,S x->isL m x){v:List Int}(hw:Way m f.Clauses S v){n:Nat}(hn:2000<=n):
  ∃b v',XP n f v=some (b,v')/\v'.length=m+1/\(b=true->Okc m f.Clauses S v')/\(b=false->Bad f.Clauses S):=by
 have hnum:=hf.num;generalize hX:XP n f v=X;unfold XP at hX
 obtain ⟨r,g2,hX⟩:=GR (λM(s:Bool×List Int)=>(s.1=true->Way m f.Clauses S s.2/\zer s.2<M)/\(s.1=false->Okc m f.Clauses S s.2)) (λ(r:List Int⊕(Bool×List Int))=>(∃a,r= .inl a/\Okc m f.Clauses S a)\/∃a,r= .inr (false,a)/\a.length=m+1/\Bad f.Clauses S) (λM⟨b,v0⟩⟨h1,h2⟩=>by
  cases b with
  |false=>exact .inr ⟨_,rfl,.inl ⟨v0,rfl,h2 rfl⟩⟩
  | true=>
   obtain⟨hw,hM⟩:=h1 rfl;simp only at hw hM;simp only[Ze2];refine Iu (P:=Stp _ _ M) (l:=f.Clauses) (n:=n) (σ:=Bool×List Int) (ρ:=(Bool×(List Int))⊕(Bool×(List Int))) (λk q=>(q.1,(k:Int),q.2))
     (λys q=>Way m f.Clauses S q.2/\(q.1=false->q.2=v0/\∃pre,pre++ys=f.Clauses/\∀c∈pre,good q.2 c)/\(q.1=true->zer q.2<zer v0))
     (λr=>(∃b v,r= .inl (b,v)/\Way m f.Clauses S v/\(b=false->v=v0/\∀c∈f.Clauses,good v c)/\(b=true->zer v<zer v0))\/∃v,r= .inr (false,v)/\v.length=m+1/\Bad f.Clauses S)
     (λk c xs q hk hx hl⟨i1,i2,i3⟩=>by
      have hd:decide ((k:Int)<len f.Clauses)=true:=by rw[Za];simp;omega
      have hcm:=Zel hx;have hcl:=hf.cl c hcm;have hk1:w64 ((k:Int)+1)=((k+1:Nat):Int):=by rw[Zb];rfl
      have hsc:=Zap i1.asg hf.small hcl.1.lit hcl.2 hn;simp only[hd,Ze2,get?_nat,hx,Zee];rw[hsc];simp only[Zee];rcases Et hf hS i1 hcm with⟨e,hg⟩|⟨e,⟨e0,hb⟩|⟨e0,hl1,hw1,hz⟩⟩
      ·refine .inl ⟨q,by rw[Zei e,hk1],i1,λhq=> ?_,i3⟩;obtain⟨j1,pre,j2,j3⟩:=i2 hq;refine⟨j1,pre++[c],by rw[Zez];exact j2,λd hd=>?_⟩;rcases Zew.1 hd with hd|hd
       ·exact j3 d hd
       ·rw[ZeA]at hd;subst hd;exact hg
      ·exact .inr ⟨_,by rw[Zem (by rw[e];decide),Zei e0],.inr ⟨_,rfl,i1.asg.len,hb⟩⟩
      ·refine .inl ⟨(true,stA q.2 (lst (free q.2 c))), ?_,hw1,λh=>ax,λ_=> ?_⟩
       ·rw[Zem (by rw[e];decide),Zem (by rw[e0];decide),WC hf.small hl1];simp only[Zee];rw[Zbv hf.small hl1];simp only[Zee];rw[Cr i1.asg hl1];simp only[Zee,hk1]
       ·show zer (stA q.2 (lst (free q.2 c)))<zer v0;cases hq:q.1
        ·have:=(i2 hq).1;rw[this]at hz⊢;omega
        ·have:=i3 hq;omega)
     (λq⟨i1,i2,i3⟩=>by
      have hd:decide ((f.Clauses.length:Int)<len f.Clauses)=false:=by rw[Za];simp
      simp only[hd,Zeg,Zen];refine⟨_,rfl,.inl ⟨q.1,q.2,rfl,i1,λhq=>?_,i3⟩⟩;obtain⟨j1,pre,j2,j3⟩:=i2 hq;rw[ZeM]at j2
      exact⟨j1,j2▸j3⟩) (a:=(false,v0)) ⟨hw,λ_=>⟨rfl,[],rfl,λ_ h=>ax⟩,λh=>ax⟩ O λr hr=>?_
   rcases hr with⟨b,a,rfl,h1,h2,h3⟩|⟨a,rfl,h1,h2⟩
   ·refine .inl ⟨(b,a),if b=true then zer a+1 else 0,rfl, ?_, ?_⟩
    ·cases b with
     |true=>have:=h3 rfl;simp;omega
     |false=>simp;omega
    ·cases b with
     |true=>exact⟨λ_=>⟨h1,by simp⟩,λh=>by cases h⟩
     |false=>
      obtain⟨e,hg⟩:=h2 rfl;exact⟨λh=>ax,λ_=>⟨h1.asg,h1.ext,h1.snd,hg⟩⟩
   ·exact .inr ⟨_,rfl,.inr ⟨a,rfl,h1,h2⟩⟩) (M:=zer v+1) ⟨λ_=>⟨hw,by simp⟩,λh=>ax⟩ (by have:=DF hw.asg;have:=hf.small;omega) hX
 subst hX;rcases g2 with⟨a,rfl,h⟩|⟨a,rfl,h1,h2⟩
 ·exact⟨true,a,rfl,h.asg.len,λ_=>h,λh=>ax⟩
 ·exact⟨false,a,rfl,h1,λh=>ax,λ_=>h2⟩
end
section
variable{f:D.Formula}{m:Nat}{S:Int->Prop}
theorem Xf{x:Int}(hm:m<=400)(hl:isL m x):Y4 x=some (x.natAbs:Int):=CK hm hl
def ZaT{x:Int}(hm:m<=400)(hl:isL m x):(cond (decide (x<0)) (w64 (0-x)) x)=(x.natAbs:Int):=by
 obtain⟨l0,l1⟩:=hl;by_cases h:x<0
 ·rw[decide_eq_true h,cond_true,Zb];omega
 grind
def Zb5{x:Int}:(cond (decide (x<0)) (-1) 1:Int)=if x<0 then-1 else 1:=by
 simp
def ZcY{α:Type}{l:List α}{x:α}(h:l.length<=1000000):app? l [x]=some (l++[x]):=by
 simp_all[app?,room,Zei]<;>grind
def FP{a q:List Int}{l:Int}(hA:Asg m a)(hm:m<=400)(hl:isL m l)(h0:lv a l=0)(hq:q.length<=1000000):Yd ⟨a,q⟩ l=some (true,⟨stA a l,q++[l]⟩):=by
 have hg:a.getD l.natAbs 0=0:=by grind[lv]
 unfold Yd;rw[ZaT hm hl,EU hA hl,hg];simp only[Zee];rw[ifn,Zb5,Cr hA hl];simp_all[Zee,ZcY]
theorem Zax{a q:List Int}(hA:Asg m a)(hm:m<=400){c:List Int}(hc:∀x∈c,isL m x)(hlen:c.length<=1000)(hq:q.length<=1000000){n:Nat}(hn:2000<=n):
  ((c.any λx=>lv a x==1)=true/\Zt n ⟨a,q⟩ c=some (true,⟨a,q⟩))\/
  ((c.any λx=>lv a x==1)=false/\((free a c=[]/\Zt n ⟨a,q⟩ c=some (false,⟨a,q⟩))\/(∃l,free a c=[l]/\Zt n ⟨a,q⟩ c=some (true,⟨stA a l,q++[l]⟩))\/(2<=(free a c).length/\Zt n ⟨a,q⟩ c=some (true,⟨a,q⟩)))):=by
 generalize hX:Zt n ⟨a,q⟩ c=X;unfold Zt at hX;obtain⟨r,g2,hX⟩:=IQ (l:=c) (n:=n) (σ:=Int×Int) (ρ:=(Int×Int)⊕(Bool×D.assignment)) (λk z=>(z.1,z.2,(k:Int)))
  (λys z=>∃pre,pre++ys=c/\z=(((free a pre).length:Int),lst (free a pre))/\(pre.any λx=>lv a x==1)=false)
  (λr=>(r= .inl (((free a c).length:Int),lst (free a c))/\(c.any λx=>lv a x==1)=false)\/(r= .inr (true,⟨a,q⟩)/\(c.any λx=>lv a x==1)=true))
  (λk x xs z hk hx hl⟨pre,h1,h2,h3⟩=>by
   have hd:decide ((k:Int)<len c)=true:=by grind[Za]
   have hlx:=hc x (Zel hx);have hfl:(free a pre).length<=c.length:=by
    rw[<-h1];exact Zfh (List.length_filter_le _ _) U
   have hk1:w64 ((k:Int)+1)=((k+1:Nat):Int):=by grind[Zb]
   have hv:=hA.val x.natAbs;have hx0:=hlx.1;subst h2;simp only[hd,Ze2,get?_nat,hx,Zee];rw[Xf hm hlx];simp only[Zee];rw[EU hA hlx];simp only[Zee];by_cases h0:a.getD x.natAbs 0=0
   ·have hl0:lv a x=0:=by unfold lv;rw[h0];split<;>rfl
    have hfr:free a (pre++[x])=free a pre++[x]:=by
     rw[KY];congr 1;unfold free;simp[hl0]
    refine .inl ⟨(((free a (pre++[x])).length:Int),lst (free a (pre++[x]))),?_,pre++[x],by rw[Zez];exact h1,rfl,?_⟩
    ·rw[Zei (by simpa using h0),hk1,hfr,Bn,Zb];simp
    ·rw[ZgI,h3];simp[hl0]
   ·have hl0:lv a x≠0:=λe=>h0 (by unfold lv at e;split at e<;>omega);rw[Zem (by simpa using h0)];by_cases h4:lv a x=1
    ·refine .inr ⟨_, ?_,.inr ⟨rfl,Jd.2 ⟨x,Zel hx,h4⟩⟩⟩;rw[Zei];unfold lv at h4;by_cases hneg:x<0
     ·rw[Zei hneg]at h4;have e1:a.getD x.natAbs 0=-1:=by omega
      rw[e1,decide_eq_false (show¬x>0 by omega)];decide
     ·rw[Zem hneg]at h4;rw[h4,decide_eq_true (show x>0 by omega)];decide
    ·have hfr:free a (pre++[x])=free a pre:=by
      rw[KY];have:free a [x]=[]:=by unfold free;simp[hl0]
      rw[this,ZeM]
     refine .inl ⟨(((free a (pre++[x])).length:Int),lst (free a (pre++[x]))),?_,pre++[x],by rw[Zez];exact h1,rfl,?_⟩
     ·rw[Zem,hk1,hfr];unfold lv at h4;by_cases hneg:x<0
      ·rw[Zei hneg]at h4;have e1:a.getD x.natAbs 0=1:=by omega
       rw[e1,decide_eq_false (show¬x>0 by omega)];decide
      ·rw[Zem hneg]at h4;have e1:a.getD x.natAbs 0=-1:=by omega
       rw[e1,decide_eq_true (show x>0 by omega)];decide
     ·rw[ZgI,h3];simp[h4])
  (λz⟨pre,h1,h2,h3⟩=>by
   have hd:decide ((c.length:Int)<len c)=false:=by rw[Za];simp
   simp only[hd,Zeg,Zen];rw[ZeM]at h1;subst h1
   exact⟨_,rfl,.inl ⟨by rw[h2],h3⟩⟩) (a:=(0,0)) ⟨[],rfl,rfl,rfl⟩ O hX
 subst hX;rcases g2 with⟨rfl,hany⟩|⟨rfl,hany⟩
 ·refine .inr ⟨hany, ?_⟩
  match hfr:free a c with
  |[]=>exact .inl ⟨rfl,rfl⟩
  |[l]=>
   have hlm:l∈free a c:=by rw[hfr];simp
   rw[Ps]at hlm;refine .inr (.inl ⟨l,rfl,?_⟩);show((Yd ⟨a,q⟩ l).bind λx4=>some (x4.1,x4.2))=_;rw[FP hA hm (hc l hlm.1) hlm.2 hq];rfl
  |x::y::l=>
   refine .inr (.inr ⟨by simp,?_⟩);simp only;rw[Zem aa,Zem aa]
 ·exact .inl ⟨hany,rfl⟩
def pend(a q:List Int)(c:List Int):Prop:=∃x∈c,lv a x=-1∧-x∈q
structure Wq(m:Nat)(cs:List (List Int))(S:Int->Prop)(a q:List Int):Prop where
 way:Way m cs S a
 tru:∀l∈q,isL m l/\lv a l=1
 len:q.length+zer a<=1000
def Ie(hf:FmP f m)(hS:∀x,S x->isL m x){a q:List Int}(hw:Wq m f.Clauses S a q){c:List Int}(hc:c∈f.Clauses)(P:List Int->Prop)(hJ:∀d∈f.Clauses,P d\/good a d\/pend a q d){n:Nat}(hn:2000<=n):
  (Zt n ⟨a,q⟩ c=some (false,⟨a,q⟩)/\Bad f.Clauses S)\/
  ∃a' q',Zt n ⟨a,q⟩ c=some (true,⟨a',q'⟩)/\Wq m f.Clauses S a' q'/\q'.length+2*zer a'<=q.length+2*zer a/\good a' c/\∀d∈f.Clauses,P d\/good a' d\/pend a' q' d:=by
 have hcl:=hf.cl c hc;have hA:=hw.way.asg;rcases Zax (q:=q) hA hf.small hcl.1.lit hcl.2 (by have:=hw.len;omega) hn with⟨h1,h2⟩|⟨h1,⟨h3,h2⟩|⟨l,h3,h2⟩|⟨h3,h2⟩⟩
 ·exact .inr ⟨a,q,h2,hw,Zes _,.inl (Jd.1 h1),hJ⟩
 ·have hn1:∀x∈c,lv a x≠1:=λx hx e=>by
   simp_all
  exact .inl ⟨h2,Fj hA hw.way.snd hc hcl.1 hn1 h3⟩
 ·have hn1:∀x∈c,lv a x≠1:=λx hx e=>by
   simp_all
  obtain⟨k1,k2,k3,k4⟩:=hw.way.unit hS hc hcl.1 hn1 h3;have hz:=OQ hA k2 k3;have hlen:=hw.len;refine .inr ⟨stA a l,q++[l],h2,⟨k1,λy hy=>?_,by grind⟩,by grind,.inl ⟨l,k4,by rw[Qu hA.len k2 k2.1,Zei rfl]⟩,λd hd=>?_⟩
  ·rcases Zew.1 hy with hy|hy
   ·have:=hw.tru y hy;exact⟨this.1,by rw[LD hA k2 k3 this.1.1 O];exact this.2⟩
   ·rw[ZeA]at hy;subst hy;exact⟨k2,by rw[Qu hA.len k2 k2.1,Zei rfl]⟩
  ·rcases hJ d hd with h|h|⟨x,hx,hx1,hx2⟩
   ·exact .inl h
   ·rcases FW hA k2 k3 (hf.cl d hd).1 h with h|h
    ·simp_all
    ·exact .inr (.inr ⟨-l,h,by rw[RI k2.1,Qu hA.len k2 k2.1,Zei rfl],by simp⟩)
   ·exact .inr (.inr ⟨x,hx,by rw[LD hA k2 k3 ((hf.cl d hd).1.lit x hx).1 O];exact hx1,ZfO _ hx2⟩)
 ·exact .inr ⟨a,q,h2,hw,Zes _,Fb hcl.1 h3,hJ⟩
end
structure OccP(f:D.Formula)(m:Nat)(occ:List (List Int)):Prop where
 len:occ.length=2*m+1
 val:∀j,∀i∈occ.getD j [],0<=i/\i<(f.Clauses.length:Int)
 all:∀(i:Nat)(c:List Int),f.Clauses[i]? =some c->∀y∈c,(i:Int)∈occ.getD (y+m).toNat []
 small:∀j,(occ.getD j []).length<=1700000
def CG{α:Type}{l:List α}{x:α}(h:l.length<=4000000):app? l [x]=some (l++[x]):=by
 simp_all[app?,room,Zei]<;>grind
def NG{l:List (List Int)}{i j:Nat}{v:List Int}(h:i<l.length):(l.set i v).getD j []=if j=i then v else l.getD j []:=by
 grind
def Cv{l:List (List Int)}{i:Nat}(h:i<l.length):l[i]? =some (l.getD i []):=by
 simp_all
section
variable{f:D.Formula}{m:Nat}{S:Int->Prop}{occ:List (List Int)}
def Zbw{y:Int}(hm:m<=400)(hl:isL m y):w64 (y+(m:Int))=(((y+m).toNat:Nat):Int)/\(y+m).toNat<2*m+1:=by
 obtain⟨l0,l1⟩:=hl;grind[Zb]
structure OccK(f:D.Formula)(m k:Nat)(pre:List Int)(occ:List (List Int)):Prop where
 len:occ.length=2*m+1
 val:∀j,∀i∈occ.getD j [],0<=i/\i<(f.Clauses.length:Int)
 all:∀(i:Nat)(c:List Int),i<k->f.Clauses[i]? =some c->∀y∈c,(i:Int)∈occ.getD (y+m).toNat []
 cur:∀y∈pre,(k:Int)∈occ.getD (y+m).toNat []
 small:∀j,(occ.getD j []).length<=1000*k+pre.length
def Zad(hf:FmP f m){k:Nat}{c:List Int}(hk:f.Clauses[k]? =some c)(h:OccK f m k [] occ){n:Nat}(hn:4000000<=n):∃occ',iterN (λ(s2:Int×(List (List Int)))=>if(decide (s2.1<(len c)))then(get? c s2.1).bind λx3=>(get? s2.2 (w64 (x3+f.Vars))).bind λx4=>(app? x4 ([(k:Int)]:List Int)).bind λx5=>(set? s2.2 (w64 (x3+f.Vars)) x5).bind λx6=>some (.inl ((w64 (s2.1+1)),x6))else some (.inr (s2.2))) n (0,occ)=some occ'/\OccK f m k c occ':=by
  have hcl:=hf.cl c (Zel hk);have hkl:k<f.Clauses.length:=(Zej.1 hk).1;have hnum:=hf.num;refine Wx (l:=c) (n:=n) (σ:=List (List Int)) (λj a=>((j:Int),a)) (λys a=>∃pre,pre++ys=c/\OccK f m k pre a) (λr=>OccK f m k c r)
    (λj y ys a hj hy hl⟨pre,h1,h2⟩=>by
      have hd:decide ((j:Int)<len c)=true:=by grind[Za]
      have hly:=hcl.1.lit y (Zel hy);have hk1:w64 ((j:Int)+1)=((j+1:Nat):Int):=by grind[Zb]
      obtain⟨e1,e2⟩:=Zbw hf.small hly;have hpl:pre.length<=c.length:=by grind
      have hsm:=h2.small (y+m).toNat;simp only[hd,Ze2,get?_nat,hy,Zee];rw[hf.vars,e1,get?_nat,Cv (by rw[h2.len];exact e2)];simp only[Zee];rw[CG O];simp only[Zee];have hst:set? a (((y+m).toNat:Nat):Int) (a.getD (y+m).toNat []++[(k:Int)])=some (a.set (y+m).toNat (a.getD (y+m).toNat []++[(k:Int)])):=by
        unfold set?;rw[Zei ⟨by omega,by have:=h2.len;rw[ZeS];omega⟩,ZeS]
      rw[hst];have hlt:(y+m).toNat<a.length:=by rw[h2.len];exact e2
      have hmem:∀j' i,i∈a.getD j' []->i∈(a.set (y+m).toNat (a.getD (y+m).toNat []++[(k:Int)])).getD j' []:=λj' i hi=>by
        rw[NG hlt];split
        · rename_i e;subst e;exact ZfO _ hi
        · exact hi
      refine .inl ⟨_,by simp only[Zee,hk1],pre++[y],by rw[Zez];exact h1,?_,λj' i hi=>?_,λi d hi hd' z hz=>hmem _ _ (h2.all i d hi hd' z hz),λz hz=>?_,λj'=>?_⟩
      · rw[ZfX];exact h2.len
      · rw[NG hlt]at hi
        split at hi
        · rcases Zew.1 hi with hi|hi
          · exact h2.val _ i hi
          · rw[ZeA]at hi;omega
        · exact h2.val _ i hi
      · rcases Zew.1 hz with hz|hz
        · exact hmem _ _ (h2.cur z hz)
        · rw[ZeA]at hz;subst hz
          rw[NG hlt,Zei rfl];simp
      · have e:(pre++[y]).length=pre.length+1:=by simp
        have h3:=h2.small j';rw[NG hlt,e];split
        · rw[Zeo,Zfk];omega
        · omega)
    (λa⟨pre,h1,h2⟩=>by
      have hd:decide ((c.length:Int)<len c)=false:=by rw[Za];simp
      simp only[hd,Zeg,Zen];rw[ZeM]at h1;subst h1
      exact⟨_,rfl,h2⟩) (a:=occ) ⟨[],rfl,h⟩ O
def Hy{α:Type}{k:Nat}{z:α}(h:k<=100000):mk? (k:Int) z=some (List.replicate k z):=by
 grind[mk?,room]
def DU(hf:FmP f m){n:Nat}(hn:4000000<=n):∃occ,VD n f=some ⟨f,occ⟩/\OccP f m occ:=by
  have hnum:=hf.num;have hm:=hf.small;have e0:w64 (w64 (2*f.Vars)+1)=((2*m+1:Nat):Int):=by rw[hf.vars,Zb (x:=2*(m:Int)),Zb];omega
  have hgl:∀j,(List.replicate (2*m+1) ([]:List Int)).getD j []=[]:=λj=>by
    grind
  obtain⟨r,g1,g2⟩:=Wx (l:=f.Clauses) (n:=n) (σ:=List (List Int)) (ρ:=List (List Int)) (B:=λ(s1:Int×(List (List Int)))=>if (decide (s1.1<(len f.Clauses)))then(get? f.Clauses s1.1).bind λx2=>(iterN (λ(s2:Int×(List (List Int)))=>if(decide (s2.1<(len x2)))then(get? x2 s2.1).bind λx3=>(get? s2.2 (w64 (x3+f.Vars))).bind λx4=>(app? x4 ([s1.1]:List Int)).bind λx5=>(set? s2.2 (w64 (x3+f.Vars)) x5).bind λx6=>some (.inl ((w64 (s2.1+1)),x6))else some (.inr (s2.2))) n (0,s1.2)).bind λ(rl2:(List (List Int)))=>some (.inl ((w64 (s1.1+1)),rl2))else some (.inr (s1.2))) (λj a=>((j:Int),a)) (λys a=>∃k,k+ys.length=f.Clauses.length/\OccK f m k [] a) (λr=>OccK f m f.Clauses.length [] r)
    (λj c xs a hj hx hl⟨k,h1,h2⟩=>by
      have hd:decide ((j:Int)<len f.Clauses)=true:=by grind[Za]
      have hkj:k=j:=by omega
      subst hkj;have hk1:w64 ((k:Int)+1)=((k+1:Nat):Int):=by grind[Zb]
      have hcl:=hf.cl c (Zel hx);obtain⟨o',q1,q2⟩:=Zad hf hx h2 hn;simp only[hd,Ze2,get?_nat,hx,Zee];rw[q1];refine .inl ⟨o',by simp_all,k+1,by grind,q2.len,q2.val,λi d hi hd' y hy=>?_,λy hy=>(by cases hy),λj'=>?_⟩
      · by_cases e:i=k
        · subst e
          rw[hx]at hd';cases hd';exact q2.cur y hy
        · exact q2.all i d O hd' y hy
      · have h3:=q2.small j'
        omega)
    (λa⟨k,h1,h2⟩=>by
      have hd:decide ((f.Clauses.length:Int)<len f.Clauses)=false:=by simp[Za]
      simp_all[Zeg,Zen]<;>grind) (a:=List.replicate (2*m+1) []) ⟨0,by simp,by simp,λj i hi=>ag,λi c hi=>O,λy hy=>(by cases hy),λj=>ag⟩ O
  refine⟨r,?_,g2.len,g2.val,λi c hc y hy=>g2.all i c (Zej.1 hc).1 hc y hy,λj=>?_⟩
  · unfold VD
    rw[e0,Hy O];simp_all
  · have h3:=g2.small j
    grind
def Fw(hf:FmP f m)(hS:∀x,S x->isL m x)(ho:OccP f m occ){n:Nat}(hn:4000000<=n){a q:List Int}(hw:Wq m f.Clauses S a q)(hJ:∀d∈f.Clauses,good a d\/pend a q d):
  ∃b a',YE n ⟨f,occ⟩ ⟨a,q⟩=some (b,a')/\((b=true/\a'.queue=[]/\Okc m f.Clauses S a'.val)\/(b=false/\Bad f.Clauses S)):=by
 have hz:=hw.len;generalize hX:YE n ⟨f,occ⟩ ⟨a,q⟩=X;unfold YE at hX
 obtain ⟨r,g2,hX⟩:=GR (λM(s:List Int×List Int)=>s.2.length+2*zer s.1<M/\Wq m f.Clauses S s.1 s.2/\∀d∈f.Clauses,good s.1 d\/pend s.1 s.2 d) (λ(r:(List Int×List Int)⊕(Bool×D.assignment))=>(∃a',r= .inl (a',[])/\Okc m f.Clauses S a')\/∃x,r= .inr (false,x)/\Bad f.Clauses S) (λM⟨a,q⟩⟨hM,hw,hJ⟩=>by
  simp only at hM hw hJ;rcases List.eq_nil_or_concat q with rfl|⟨q0,l,rfl⟩
  ·refine .inr ⟨_,rfl,.inl ⟨a,rfl,hw.way.asg,hw.way.ext,hw.way.snd,λd hd=> ?_⟩⟩;rcases hJ d hd with h|⟨x,_,_,h⟩
   ·exact h
   ·cases h
  ·obtain⟨M,rfl⟩:∃k,M=k+2:=⟨M-2,by rw[List.concat_eq_append,Zeo]at hM;simp at hM;omega⟩;have hlen:=hw.len;rw[List.concat_eq_append]at*;rw[Zeo]at hlen hM;simp only[Zfk]at hlen hM;obtain⟨hl,hl1⟩:=hw.tru l U;have hln:isL m (-l):=⟨by have:=hl.1;omega,by rw[Zgc];exact hl.2⟩;have e1:w64 (len (q0++[l])-1)=(q0.length:Int):=by rw[Za,Zeo];simp;exact Zb
   have e2:get? (q0++[l]) (q0.length:Int)=some l:=by rw[get?_nat,ZeE (Zes _)];simp
   have e3:cut? (q0++[l]) 0 (q0.length:Int)=some q0:=by
    unfold cut?;rw[Zei ⟨ZeH _,by omega,by rw[Zeo,Zfk];omega⟩,ZeS];simp
   obtain⟨x1,x2⟩:=Zbw hf.small hln;have e4:get? occ (w64 (f.Vars-l))=some (occ.getD (-l+m).toNat []):=by
    rw[hf.vars,show((m:Int)-l)=-l+m by omega,x1,get?_nat,Cv (by rw[ho.len];exact x2)]
   have hgt:decide (len (q0++[l])>0)=true:=by rw[Za];exact decide_eq_true (by rw[Zeo,Zfk];omega)
   have hw0:Wq m f.Clauses S a q0:=⟨hw.way,λy hy=>hw.tru y (ZfO _ hy),by omega⟩;have hsm:=ho.small (-l+m).toNat;simp only[hgt,Ze2,e1,e2,e3,Zee];rw[e4];simp only[Zee];refine Iu (P:=Stp _ _ (M+2)) (l:=occ.getD (-l+m).toNat []) (n:=n) (σ:=List Int×List Int) (ρ:=((List Int)×(List Int))⊕(Bool×D.assignment)) (λj z=>((j:Int),z.1,z.2))
    (λys z=>Wq m f.Clauses S z.1 z.2/\z.2.length+2*zer z.1<=M/\∀d∈f.Clauses,(∃i∈ys,f.Clauses[i.toNat]? =some d)\/good z.1 d\/pend z.1 z.2 d)
    (λr=>(∃z,r= .inl z/\Wq m f.Clauses S z.1 z.2/\z.2.length+2*zer z.1<=M/\∀d∈f.Clauses,good z.1 d\/pend z.1 z.2 d)\/∃x,r= .inr (false,x)/\Bad f.Clauses S)
    (λj i ys z hj hi hl'⟨i1,i2,i3⟩=>by
     have hd:decide ((j:Int)<len (occ.getD (-l+m).toNat []))=true:=by rw[Za];exact decide_eq_true O
     have hk1:w64 ((j:Int)+1)=((j+1:Nat):Int):=by rw[Zb];rfl
     have hiv:=ho.val _ i (Zel hi);have hic:f.Clauses[i.toNat]? =some f.Clauses[i.toNat]:=Zef O;have hg:get? f.Clauses i=some f.Clauses[i.toNat]:=by unfold get?;rw[Zei hiv.1];exact hic
     simp only[hd,Ze2,get?_nat,hi,Zee];rw[hg];simp only[Zee]
     rcases Ie hf hS i1 (ZeI (show i.toNat<f.Clauses.length by omega)) (λd=>(∃i∈ys,f.Clauses[i.toNat]? =some d)\/d=f.Clauses[i.toNat]) (λd hd'=>by
      rcases i3 d hd' with⟨i',h1,h2⟩|h|h
      ·rcases ZeR.1 h1 with rfl|h1
       ·rw[hic]at h2;exact .inl (.inr (Option.some.inj h2).symm)
       ·exact .inl (.inl ⟨i',h1,h2⟩)
      ·exact .inr (.inl h)
      ·exact .inr (.inr h)) (n:=n) O with⟨h1,h2⟩|⟨a',q',h1,h2,h3,h4,h5⟩
     ·rw[h1];exact .inr ⟨_,rfl,.inr ⟨_,rfl,h2⟩⟩
     ·rw[h1];refine .inl ⟨(a',q'),by simp only[Zee,hk1];rfl,h2,by simp only;omega,λd hd'=>?_⟩;rcases h5 d hd' with(h|h)|h|h
      ·exact .inl h
      ·exact .inr (.inl (h▸h4))
      ·exact .inr (.inl h)
      ·exact .inr (.inr h))
    (λz⟨i1,i2,i3⟩=>by
     have hd:decide (((occ.getD (-l+m).toNat []).length:Int)<len (occ.getD (-l+m).toNat []))=false:=by rw[Za];simp
     simp only[hd,Zeg,Zen];refine⟨_,rfl,.inl ⟨z,rfl,i1,i2,λd hd'=>?_⟩⟩;rcases i3 d hd' with⟨i',h1,_⟩|h
     ·cases h1
     ·exact h) (a:=(a,q0)) ⟨hw0,by simp only;omega,λd hd'=>by
      rcases hJ d hd' with h|⟨x,hx,hx1,hx2⟩
      ·exact .inr (.inl h)
      ·rcases Zew.1 hx2 with h|h
       ·exact .inr (.inr ⟨x,hx,hx1,h⟩)
       ·rw[ZeA]at h;obtain⟨i,hi⟩:=ZfA hd';have hxl:x=-l:=by omega
        exact .inl ⟨(i:Int),ho.all i d hi (-l) (hxl▸hx),by simpa using hi⟩⟩ O λr hr=>?_
   rcases hr with⟨z,rfl,h1,h2,h3⟩|⟨x,rfl,h1⟩
   ·exact .inl ⟨(z.1,z.2),M+1,rfl,by omega,by simp only;omega,h1,h3⟩
   ·exact .inr ⟨_,rfl,.inr ⟨x,rfl,h1⟩⟩) (M:=q.length+2*zer a+1) ⟨by simp,hw,hJ⟩ O hX
 subst hX;rcases g2 with⟨a',rfl,h⟩|⟨x,rfl,h⟩
 ·exact⟨true,⟨a',[]⟩,rfl,.inl ⟨rfl,rfl,h⟩⟩
 ·exact⟨false,x,rfl,.inr ⟨rfl,h⟩⟩
end
section
variable{f:D.Formula}{m:Nat}{S:Int->Prop}{occ:List (List Int)}
def KI{cs:List (List Int)}{a:List Int}(hA:Asg m a):Way m cs (Sv m a) a:=⟨hA,λ_ hx=>hx.2,λ_ h1 h2=>.base ⟨h1,h2⟩⟩
def Gq{a:List Int}:∀x,Sv m a x->isL m x:=λ_ h=>h.1
def FmP.cls(hf:FmP f m):∀c∈f.Clauses,ClM m c:=λc hc=>(hf.cl c hc).1
noncomputable def clo(m:Nat)(cs:List (List Int))(v:List Int):Option (List Int):=open Classical in if h:∃a,Okc m cs (Sv m v) a then some h.choose else none
def Db{cs:List (List Int)}(hcs:∀c∈cs,ClM m c){v a:List Int}(h:Okc m cs (Sv m v) a):clo m cs v=some a:=by
 have hx:∃a,Okc m cs (Sv m v) a:=⟨a,h⟩;unfold clo;rw[dif_pos hx,Za3 hcs hx.choose_spec h]
def LC{cs:List (List Int)}(hcs:∀c∈cs,ClM m c){v:List Int}(h:Bad cs (Sv m v)):clo m cs v=none:=by
 unfold clo;rw[dif_neg (λ⟨a,ha⟩=>Ed hcs ha h)]
def Pn{cs:List (List Int)}{v a:List Int}(h:clo m cs v=some a):Okc m cs (Sv m v) a:=by
 simp_all[clo]<;>grind
theorem Zai(hf:FmP f m){v:List Int}(hA:Asg m v){n:Nat}(hn:2000<=n):∃b v',XP n f v=some (b,v')/\((b=true/\clo m f.Clauses v=some v')\/(b=false/\clo m f.Clauses v=none)):=by
 obtain⟨b,v',h1,h2,h3,h4⟩:=Eu hf Gq (KI (cs:=f.Clauses) hA) hn;refine⟨b,v',h1,?_⟩;cases b with
 |true=>exact .inl ⟨rfl,Db hf.cls (h3 rfl)⟩
 |false=>exact .inr ⟨rfl,LC hf.cls (h4 rfl)⟩
def Zc9{l:List Int}(h:l.length<=1000000):Zi l=some l:=by
 simp_all[Zi,app?,room,Zei]<;>grind
def Zac(hf:FmP f m)(ho:OccP f m occ){n:Nat}(hn:4000000<=n){a q:List Int}{l:Int}(hA:Asg m a)(hg:∀c∈f.Clauses,good a c)(hl:isL m l)(h0:lv a l=0):
  ∃a' b,ZA n ⟨f,occ⟩ ⟨a,q⟩ l=some (a',b)/\((b=true/\a'.queue=[]/\clo m f.Clauses (stA a l)=some a'.val)\/(b=false/\clo m f.Clauses (stA a l)=none)):=by
 have hm:=hf.small;have hz:=DF hA;have hz1:=OQ hA hl h0;have hA1:=Lv hA hl
 have hw:Wq m f.Clauses (Sv m (stA a l)) (stA a l) [l]:=⟨KI hA1,λy hy=>by
  rw[ZeA]at hy;subst hy
  exact⟨hl,by rw[Qu hA.len hl hl.1,Zei rfl]⟩,by simp;omega⟩
 obtain⟨b,a',h1,h2⟩:=Fw hf Gq ho hn hw λd hd=>by
  rcases FW hA hl h0 (hf.cl d hd).1 (hg d hd)with h|h
  ·exact .inl h
  ·exact .inr ⟨-l,h,by rw[RI hl.1,Qu hA.len hl hl.1,Zei rfl],by simp⟩
 unfold ZA;rw[Zc9 (l:=a) (by have:=hA.len;omega)];simp only[Zee];rw[FP hA hm hl h0 U];simp only[Zee,Zep,Zeg,Zen,ZfY];rw[h1];rcases h2 with⟨rfl,h3,h4⟩|⟨rfl,h3⟩
 ·exact⟨a',true,rfl,.inl ⟨rfl,h3,Db hf.cls h4⟩⟩
 ·exact⟨default,false,rfl,.inr ⟨rfl,LC hf.cls h3⟩⟩
def IP(m:Nat):Asg m (List.replicate (m+1) 0):=by
 have h:∀i,(List.replicate (m+1) (0:Int)).getD i 0=0:=λi=>by
  grind
 exact⟨by simp,λi=>by rw[h];omega,h 0⟩
def start_eq(hf:FmP f m)(ho:OccP f m occ){n:Nat}(hn:4000000<=n):
  ∃a' b,Xp n ⟨f,occ⟩ []=some (a',b)/\((b=true/\a'.queue=[]/\clo m f.Clauses (List.replicate (m+1) 0)=some a'.val)\/(b=false/\clo m f.Clauses (List.replicate (m+1) 0)=none)):=by
 have hm:=hf.small;have hnum:=hf.num;have hA:=IP m;have hz:=DF hA;have e0:w64 (f.Vars+1)=((m+1:Nat):Int):=by rw[hf.vars,Zb];rfl
 have hw:Wq m f.Clauses (Sv m (List.replicate (m+1) 0)) (List.replicate (m+1) 0) []:=⟨KI hA,λy hy=>(by cases hy),by grind⟩;generalize hX:Xp n ⟨f,occ⟩ []=X;unfold Xp at hX;rw[e0,Hy O]at hX;simp only[Zee]at hX;rw[ZV (r:=.inl (List.replicate (m+1) 0,[])) ar O]at hX;obtain⟨r,g2,hX⟩:=IQ (l:=f.Clauses) (n:=n) (σ:=List Int×List Int) (ρ:=((List Int)×(List Int))⊕(D.assignment×Bool)) (λj z=>((j:Int),z.1,z.2))
  (λys z=>Wq m f.Clauses (Sv m (List.replicate (m+1) 0)) z.1 z.2/\∀d∈f.Clauses,d∈ys\/good z.1 d\/pend z.1 z.2 d)
  (λr=>(∃z,r= .inl z/\Wq m f.Clauses (Sv m (List.replicate (m+1) 0)) z.1 z.2/\∀d∈f.Clauses,good z.1 d\/pend z.1 z.2 d)\/r= .inr (default,false)/\Bad f.Clauses (Sv m (List.replicate (m+1) 0)))
  (λj c ys z hj hx hl⟨i1,i2⟩=>by
   have hd:decide ((j:Int)<len f.Clauses)=true:=by grind[Za,decide_eq_true]
   have hk1:w64 ((j:Int)+1)=((j+1:Nat):Int):=by grind[Zb]
   simp only[hd,Ze2,get?_nat,hx,Zee]
   rcases Ie hf Gq i1 (Zel hx) (λd=>d∈ys\/d=c) (λd hd'=>by
    grind) (n:=n) O with⟨h1,h2⟩|⟨a',q',h1,h2,h3,h4,h5⟩
   all_goals simp_all[Zee]<;>grind)
  (λz⟨i1,i2⟩=>by
   grind[decide,len,Za]) (a:=(List.replicate (m+1) 0,[])) ⟨hw,λd hd=>.inl hd⟩ O hX
 subst hX;rcases g2 with⟨z,rfl,h1,h2⟩|⟨rfl,h⟩
 ·obtain⟨b,a',k1,k2⟩:=Fw hf Gq ho hn h1 h2;simp only;rw[k1];rcases k2 with⟨rfl,k3,k4⟩|⟨rfl,k3⟩
  ·exact⟨a',true,rfl,.inl ⟨rfl,k3,Db hf.cls k4⟩⟩
  ·exact⟨default,false,rfl,.inr ⟨rfl,LC hf.cls k3⟩⟩
 ·exact⟨default,false,rfl,.inr ⟨rfl,LC hf.cls h⟩⟩
def LF(a:List Int)(v:Nat):Prop:=(v=0/\∀i,1<=i->i<a.length->a.getD i 0≠0)\/(1<=v/\v<a.length/\a.getD v 0=0/\∀i,1<=i->i<v->a.getD i 0≠0)
def LF.uniq{a:List Int}{v w:Nat}(h:LF a v)(h':LF a w):v=w:=by
 rcases h with⟨h1,h2⟩|⟨h1,h2,h3,h4⟩<;>rcases h' with⟨k1,k2⟩|⟨k1,k2,k3,k4⟩
 all_goals grind
theorem Zdj{a q:List Int}{n:Nat}(hl:1<=a.length/\a.length<=1000)(hn:2000<=n):∃v:Nat,LF a v/\Yq n ⟨a,q⟩=some (v:Int):=by
  have key:∀(d i k:Nat),i+d=a.length->1<=i->(∀j,1<=j->j<i->a.getD j 0≠0)->d<k->∃r:Unit⊕Int,iterN (λ(s1:Int)=>if(decide (s1<(len a)))then(get? a s1).bind λx1=>if(x1==0)then some (.inr (.inr s1))else some (.inl ((w64 (s1+1))))else some (.inr (.inl ()))) k (i:Int)=some r/\((r= .inl ()/\LF a 0)\/∃v:Nat,r= .inr (v:Int)/\LF a v):=by
    intro d
    induction d with
    | zero=>
      intro i k hi h1 hp hk;have hd:decide ((i:Int)<len a)=false:=by simp_all[Za,decide_eq_false]
      exact⟨.inl (),ZV an O,.inl ⟨rfl,.inl ⟨rfl,λj hj hj'=>hp j hj O⟩⟩⟩
    | succ d ih=>
      intro i k hi h1 hp hk;obtain⟨k,rfl⟩:∃j,k=j+1:=⟨k-1,by omega⟩;have hd:decide ((i:Int)<len a)=true:=by grind[Za,decide_eq_true]
      have hg:get? a (i:Int)=some (a.getD i 0):=by grind[get?_nat,SA]
      by_cases h0:a.getD i 0=0
      · exact⟨.inr (i:Int),ZV ag O,.inr ⟨i,rfl,.inr ⟨h1,by omega,h0,hp⟩⟩⟩
      · obtain⟨r,q1,q2⟩:=ih (i+1) k O O (λj hj hj'=>by
          by_cases e:j=i
          · subst e;exact h0
          · exact hp j hj O) O
        refine⟨r,?_,q2⟩
        rw[RP (s':=((i+1:Nat):Int)) (by
          simp only[hd,Ze2,hg,Zee]
          rw[Zem (by simpa using h0),Zb];rfl)]
        exact q1
  obtain⟨r,g1,g2⟩:=key (a.length-1) 1 n O O (λj hj hj'=>by omega) O;have G:∀z,r=z->Yq n ⟨a,q⟩=(match z with|.inl _=>some 0|.inr v=>some v):=λz e=>by
    subst e;exact congrArg (λo=>Option.bind o (λ(rl1:Unit⊕Int)=>match rl1 with|.inl _=>some 0|.inr v=>some v)) g1
  rcases g2 with⟨e,h⟩|⟨v,e,h⟩
  · exact⟨0,h,G _ e⟩
  · exact⟨v,h,G _ e⟩
theorem Zc7{a:List Int}{n:Nat}{N:Int}(hN:N=(a.length:Int))(hl:1<=a.length/\a.length<=1000)(hn:2000<=n):∃v:Nat,LF a v/\iterN (λ(s1:Int)=>(if(decide (s1<N))then(get? a s1)else some default).bind λx2=>if((decide (s1<N))&&(x2 !=0))then some (.inl ((w64 (s1+1))))else some (.inr (s1))) n 1=some (if v=0 then N else(v:Int)):=by
  subst hN;have key:∀(d i k:Nat),i+d=a.length->1<=i->(∀j,1<=j->j<i->a.getD j 0≠0)->d<k->∃v:Nat,LF a v/\iterN (λ(s1:Int)=>(if(decide (s1<(a.length:Int)))then(get? a s1)else some default).bind λx2=>if((decide (s1<(a.length:Int)))&&(x2 !=0))then some (.inl ((w64 (s1+1))))else some (.inr (s1))) k (i:Int)=some (if v=0 then(a.length:Int)else(v:Int)):=by
    intro d
    induction d with
    | zero=>
      intro i k hi h1 hp hk;refine⟨0,.inl ⟨rfl,λj hj hj'=>hp j hj O⟩,?_⟩;simp_all[ZV]
    | succ d ih=>
      intro i k hi h1 hp hk;obtain⟨k,rfl⟩:∃j,k=j+1:=⟨k-1,by omega⟩;have hd:decide ((i:Int)<(a.length:Int))=true:=decide_eq_true O;have hg:get? a (i:Int)=some (a.getD i 0):=by simp_all[get?_nat,SA]
      by_cases h0:a.getD i 0=0
      · refine⟨i,.inr ⟨h1,by omega,h0,hp⟩, ?_⟩
        rw[ifn];exact ZV (by simp only[hd,Ze2,hg,Zee,ZeJ];rw[Zem (by rw[h0];decide)]) O
      · obtain⟨v,q1,q2⟩:=ih (i+1) k O O (λj hj hj'=>by
          by_cases e:j=i
          · subst e;exact h0
          · exact hp j hj O) O
        refine⟨v,q1,?_⟩
        rw[RP (s':=((i+1:Nat):Int)) (by
          simp only[hd,Ze2,hg,Zee,ZeJ]
          rw[Zei (by simpa using h0),Zb];rfl)]
        exact q2
  exact key (a.length-1) 1 n O O (λj hj hj'=>by omega) O
end
theorem Kt:∀(l l':List Int),l.length=l'.length->(∀i:Nat,l'[i]? =some (0:Int)->l[i]? =some (0:Int))->l'.count 0<=l.count 0
 |[],[],_,_=>Zes _
 | x::l,y::l',h,hi=>by
  have ih:=Kt l l' az λi e=>by simpa using hi (i+1) (by simpa using e)
  rw[List.count_cons,List.count_cons];by_cases hy:y=0
  ·have:x=0:=by simpa[hy]using hi 0
   rw[hy,this];omega
  ·have:(y==0)=false:=by simpa using hy
   rw[this];simp only[Zeg,Zen];omega
section
variable{f:D.Formula}{m:Nat}{occ:List (List Int)}{limit:Int}
def Fh{cs:List (List Int)}{v b:List Int}(hv:Asg m v)(h:Okc m cs (Sv m v) b):zer b<=zer v:=by
 refine Kt v b (hv.len.trans h.asg.len.symm) λi hi=>?_;have hlt:i<b.length:=(Zej.1 hi).1;have hb0:b.getD i 0=0:=by
  have:=SA hlt;rw[hi]at this;exact(Option.some.inj this).symm
 rw[SA (by rw[hv.len,<-h.asg.len];exact hlt)];congr 1;by_cases h0:i=0
 ·subst h0;exact hv.nul
 have hlen:=h.asg.len;have e:∀c:List Int,lv c (i:Int)=c.getD i 0:=λc=>by unfold lv;rw[ifn];simp
 have en:∀c:List Int,lv c (-(i:Int))=-c.getD i 0:=λc=>by rw[RI O,e]
 rcases hv.val i with h1|h1|h1
 ·have:=h.ext (-(i:Int)) ⟨⟨by omega,by omega⟩,by rw[en,h1];rfl⟩;rw[en,hb0]at this;omega
 ·exact h1
 ·have:=h.ext (i:Int) ⟨⟨by omega,by omega⟩,by rw[e,h1]⟩;rw[e,hb0]at this;omega
noncomputable def lfr(a:List Int):Nat:=open Classical in if h:∃v,LF a v then h.choose else 0
def ZbS{a:List Int}{v:Nat}(h:LF a v):lfr a=v:=by
 have hx:∃v,LF a v:=⟨v,h⟩;unfold lfr;rw[dif_pos hx];exact hx.choose_spec.uniq h
noncomputable def srch(m:Nat)(cs:List (List Int))(limit:Int):Nat->List Int->Int->Int×List Int×Int
 |0,_,s=>(2,[],s)
 |d+1,a,s=>if lfr a=0 then(1,a,s)else if s=limit then(3,[],s)else
  let r:Int×List Int×Int:=match clo m cs (stA a (-(lfr a:Int)))with|none=>(2,[],s+1)|some b=>srch m cs limit d b (s+1)
  if r.1=2 then(match clo m cs (stA a (lfr a:Int))with|none=>(2,[],r.2.2)|some b=>srch m cs limit d b r.2.2)else r
noncomputable def brn(m:Nat)(cs:List (List Int))(limit:Int)(d:Nat)(v:List Int)(s:Int):Int×List Int×Int:=match clo m cs v with|none=>(2,[],s)|some b=>srch m cs limit d b s
def PW(m:Nat)(cs:List (List Int))(limit:Int)(d:Nat)(a:List Int)(s:Int):srch m cs limit (d+1) a s=if lfr a=0 then(1,a,s)else if s=limit then(3,[],s)else
  if(brn m cs limit d (stA a (-(lfr a:Int))) (s+1)).1=2 then brn m cs limit d (stA a (lfr a:Int)) (brn m cs limit d (stA a (-(lfr a:Int))) (s+1)).2.2 else brn m cs limit d (stA a (-(lfr a:Int))) (s+1):=by
 rw[srch];rfl
structure SOk(limit s:Int)(r:Int×List Int×Int):Prop where
 code:r.1=1\/r.1=2\/r.1=3
 nil:r.1≠1->r.2.1=[]
 lo:s<=r.2.2
 hi:r.2.2<=limit
theorem Cu(m:Nat)(cs:List (List Int))(limit:Int):∀(d:Nat)(a:List Int)(s:Int),s<=limit->SOk limit s (srch m cs limit d a s)
 |0,a,s,h=>⟨.inr (.inl rfl),λ_=>rfl,ZeH _,h⟩
 | d+1,a,s,h=>by
  have hb:∀v s',s'<=limit->SOk limit s' (brn m cs limit d v s'):=λv s' h'=>by
   unfold brn;cases clo m cs v with
   |none=>exact⟨.inr (.inl rfl),λ_=>rfl,ZeH _,h'⟩
   |some b=>exact Cu m cs limit d b s' h'
  rw[PW];by_cases c1:lfr a=0
  ·rw[Zei c1];exact⟨.inl rfl,λh=>absurd rfl h,ZeH _,h⟩
  rw[Zem c1];by_cases c2:s=limit
  ·rw[Zei c2];exact⟨.inr (.inr rfl),λ_=>rfl,ZeH _,h⟩
  rw[Zem c2];have h1:=hb (stA a (-(lfr a:Int))) (s+1) O;by_cases c3:(brn m cs limit d (stA a (-(lfr a:Int))) (s+1)).1=2
  ·rw[Zei c3];have h2:=hb (stA a (lfr a:Int)) _ h1.hi;exact⟨h2.code,h2.nil,by have:=h1.lo;have:=h2.lo;omega,h2.hi⟩
  ·rw[Zem c3];exact⟨h1.code,h1.nil,by have:=h1.lo;omega,h1.hi⟩
theorem He(m:Nat)(cs:List (List Int))(limit:Int)(d:Nat)(v:List Int)(s:Int)(h:s<=limit):SOk limit s (brn m cs limit d v s):=by
 unfold brn;cases clo m cs v with
 |none=>exact⟨.inr (.inl rfl),λ_=>rfl,ZeH _,h⟩
 |some b=>exact Cu m cs limit d b s h
def bls(a:List Int):List Bool:=(a.drop 1).map λx=>decide (x>0)
def bls_len{a:List Int}(h:Asg m a):(bls a).length=m:=by unfold bls;rw[Zf5,Zex,h.len];rfl
theorem ET{a:List Int}(hA:Asg m a)(hm:m<=400){n:Nat}(hn:2000<=n):iterN (λ(s1:Int×(List Bool))=>if(decide (s1.1<(len (List.replicate m false))))then(get? a (w64 (s1.1+1))).bind λx3=>(set? s1.2 s1.1 (decide (x3>0))).bind λx4=>some (.inl ((w64 (s1.1+1)),x4))else some (.inr (s1.2))) n (0,List.replicate m false)=some (bls a):=by
  have hlen:=hA.len;have key:∀(d i k:Nat),i+d=m->d<k->iterN (λ(s1:Int×(List Bool))=>if(decide (s1.1<(len (List.replicate m false))))then(get? a (w64 (s1.1+1))).bind λx3=>(set? s1.2 s1.1 (decide (x3>0))).bind λx4=>some (.inl ((w64 (s1.1+1)),x4))else some (.inr (s1.2))) k ((i:Int),(bls a).take i++List.replicate d false)=some (bls a):=by
    intro d
    induction d with
    | zero=>
      intro i k hi hk;have hd:decide ((i:Int)<len (List.replicate m false))=false:=by rw[Za,ZeT];exact decide_eq_false O
      refine ZV ?_ O;simp only[hd,Zeg,Zen];rw[List.replicate_zero,ZeM,Zfa (by rw[bls_len hA];omega)]
    | succ d ih=>
      intro i k hi hk;obtain⟨k,rfl⟩:∃j,k=j+1:=⟨k-1,by omega⟩;have hd:decide ((i:Int)<len (List.replicate m false))=true:=by rw[Za,ZeT];exact decide_eq_true O
      have e1:w64 ((i:Int)+1)=((i+1:Nat):Int):=by rw[Zb];rfl
      have hil:i<(bls a).length:=by rw[bls_len hA];omega
      have e2:(bls a)[i]=decide (a.getD (i+1) 0>0):=by
        have e3:a.getD (i+1) 0=a[1+i]' O:=by
          rw[Zer,show i+1=1+i from Nat.add_comm _ _,Zef O];rfl
        simp only[bls,List.getElem_map,List.getElem_drop,e3]
      have hlt:((bls a).take i).length=i:=by rw[Ze1];omega
      rw[RP (s':=(((i+1:Nat):Int),(bls a).take (i+1)++List.replicate d false)) (by
        simp only[hd,Ze2,e1];rw[get?_nat,SA O];simp only[Zee];unfold set?;rw[Zei ⟨by omega,by rw[ZeS,Zeo,hlt,ZeT];omega⟩,ZeS];simp only[Zee];congr 3
        rw[Zfq _ _ O,hlt,ZfD,Zgn,ZfF,Zet hil,e2,Zez];rfl)]
      exact ih (i+1) k O O
  exact key m 0 n O O
def GM{a:List Int}(hA:Asg m a){v:Nat}(h:LF a v)(h0:v≠0):isL m (v:Int)/\isL m (-(v:Int))/\lv a (v:Int)=0/\lv a (-(v:Int))=0:=by
 rcases h with⟨h1,_⟩|⟨h1,h2,h3,_⟩
 ·exact absurd h1 h0
 ·have:=hA.len;have e:lv a (v:Int)=0:=by unfold lv;rw[ifn];simpa using h3
  exact⟨⟨by omega,by omega⟩,⟨by omega,by omega⟩,e,by rw[RI O,e];rfl⟩
theorem Zd9(hf:FmP f m)(ho:OccP f m occ)(hl3:limit<=3000):∀(d:Nat)(a q:List Int)(s:Int)(mo:List Bool)(n:Nat),Asg m a->(∀c∈f.Clauses,good a c)->zer a<=d->4000000+d<=n->0<=s->s<=limit->
  Yu n ⟨⟨f,occ⟩,limit,s,mo⟩ ⟨a,q⟩=some ((srch m f.Clauses limit d a s).1,⟨⟨f,occ⟩,limit,(srch m f.Clauses limit d a s).2.2,if(srch m f.Clauses limit d a s).1=1 then bls (srch m f.Clauses limit d a s).2.1 else mo⟩):=by
 intro d
 induction d with
 | zero=>
  intro a q s mo n hA hg hz
  have:0<zer a:=Zgu.2 (by
   have h1:=hA.nul;have h2:=SA (a:=a) (i:=0) (by have:=hA.len;omega);rw[h1]at h2
   exact Zel h2)
  omega
 | succ d ih=>
  intro a q s mo n hA hg hz hn h0 hs;obtain⟨n,rfl⟩:∃k,n=k+1:=⟨n-1,by omega⟩;have hm:=hf.small;have hlen:=hA.len;obtain⟨v,hv,e1⟩:=Zdj (a:=a) (q:=q) (n:=n) O O;rw[Yu,e1,PW,ZbS hv];simp only[Zee];by_cases c1:v=0
  ·rw[Zei (by simpa using c1),Zei c1];simp only[Ze2];rw[hf.vars,Hy O];simp only[Zee];rw[ET hA hm O];rfl
  ·rw [Zem (by simpa using c1),Zem c1]
   by_cases c2:s=limit
   ·rw[Zei aT,Zei c2];rfl
   ·rw [Zem aT,Zem c2]
    obtain⟨k1,k2,k3,k4⟩:=GM hA hv c1;have e3:w64 (0-(v:Int))=-(v:Int):=by have:=k1.2;rw[Zb];omega
    have e4:w64 (s+1)=s+1:=Zb;have one:∀(l:Int),isL m l->lv a l=0->∀(s':Int)(mo':List Bool),0<=s'->s'<=limit->
      ∃a' b,ZA n ⟨f,occ⟩ ⟨a,q⟩ l=some (a',b)/\((b=false/\brn m f.Clauses limit d (stA a l) s'=(2,[],s'))\/(b=true/\Yu n ⟨⟨f,occ⟩,limit,s',mo'⟩ a'=some ((brn m f.Clauses limit d (stA a l) s').1,⟨⟨f,occ⟩,limit,(brn m f.Clauses limit d (stA a l) s').2.2,if(brn m f.Clauses limit d (stA a l) s').1=1 then bls (brn m f.Clauses limit d (stA a l) s').2.1 else mo'⟩))):=λl hl hl0 s' mo' hs0 hs1=>by
     obtain⟨a',b,g1,g2⟩:=Zac hf ho (n:=n) O (q:=q) hA hg hl hl0;refine⟨a',b,g1,?_⟩;rcases g2 with⟨rfl,g3,g4⟩|⟨rfl,g3⟩
     ·have hok:=Pn g4;have hz1:=OQ hA hl hl0;have hz2:=Fh (Lv hA hl) hok;refine .inr ⟨rfl,?_⟩;have:=ih a'.val a'.queue s' mo' n hok.asg hok.cl O O hs0 hs1;unfold brn;rw[g4];exact this
     ·exact .inl ⟨rfl,by unfold brn;rw[g3]⟩
    generalize hQ:(if(brn m f.Clauses limit d (stA a (-(v:Int))) (s+1)).1=2 then brn m f.Clauses limit d (stA a (v:Int)) (brn m f.Clauses limit d (stA a (-(v:Int))) (s+1)).2.2 else brn m f.Clauses limit d (stA a (-(v:Int))) (s+1))=Q;have hb1:=He m f.Clauses limit d (stA a (-(v:Int))) (s+1) O;rw[e3,e4];obtain⟨k,rfl⟩:∃j,n=j+3:=⟨n-3,by omega⟩;generalize hR1:brn m f.Clauses limit d (stA a (-(v:Int))) (s+1)=R1 at*;obtain⟨a1,b1,g1,g2⟩:=one (-(v:Int)) k2 k4 (s+1) mo O O;rw[hR1]at g2;have hw:w64 1=1:=by decide
    have hw':w64 2=2:=by decide
    by_cases cc:b1=true/\R1.1≠2
    ·obtain⟨rfl,cc⟩:=cc;rcases g2 with⟨h,-⟩|⟨-,g3⟩
     ·cases h
     rw[ZV (r:=.inr (R1.1,⟨⟨f,occ⟩,limit,R1.2.2,if R1.1=1 then bls R1.2.1 else mo⟩)) (by
      show((ZA (k+3) ⟨f,occ⟩ ⟨a,q⟩ (-(v:Int))).bind _)=_;rw[g1];simp only[Zee,Zep,Zeg,Zen];rw[g3];simp only[Zee]
      rw[Zei (by simpa using cc)]) O,<-hQ,Zem cc]
     rfl
    have⟨s2,l1,l2,hs2,hq⟩:∃s2,0<=s2/\s2<=limit/\s2=(if b1=true then R1.2.2 else s+1)/\Q=brn m f.Clauses limit d (stA a (v:Int)) s2:=by
     rcases g2 with⟨rfl,g3⟩|⟨rfl,g3⟩
     ·exact⟨s+1,by omega,by omega,rfl,by rw[<-hQ,g3,Zei rfl]⟩
     ·exact⟨R1.2.2,by have:=hb1.lo;omega,hb1.hi,rfl,by rw[<-hQ,Zei (by simpa using cc)]⟩
    rw[RP (n:=k+2) (s':=(1,limit,s2,mo)) (by
     show((ZA (k+3) ⟨f,occ⟩ ⟨a,q⟩ (-(v:Int))).bind _)=_;rw[g1];rcases g2 with⟨rfl,g3⟩|⟨rfl,g3⟩
     ·rw[hs2];rfl
     ·simp only[Zee,Zep,Zeg,Zen];rw[g3];have cc:R1.1=2:=by simpa using cc
      simp[cc,hs2,hw])]
    obtain⟨a2,b2,g4,g5⟩:=one (v:Int) k1 k3 s2 mo l1 l2;rw[hq];generalize brn m f.Clauses limit d (stA a (v:Int)) s2=R at*;rcases g5 with⟨rfl,g3⟩|⟨rfl,g3⟩
    ·rw[RP (n:=k+1) (s':=(2,limit,s2,mo)) (by
      show((ZA (k+3) ⟨f,occ⟩ ⟨a,q⟩ (v:Int)).bind _)=_
      rw[g4];rfl),ZV (r:=.inl (limit,s2,mo)) rfl O,g3];rfl
    ·by_cases c:R.1=2
     ·rw[RP (n:=k+1) (s':=(2,limit,R.2.2,mo)) (by
       show((ZA (k+3) ⟨f,occ⟩ ⟨a,q⟩ (v:Int)).bind _)=_;rw[g4];simp only[Zee,Zep,Zeg,Zen];rw[g3]
       simp[c,hw']),ZV (r:=.inl (limit,R.2.2,mo)) rfl O,c];rfl
     ·rw[ZV (r:=.inr (R.1,⟨⟨f,occ⟩,limit,R.2.2,if R.1=1 then bls R.2.1 else mo⟩)) (by
       show((ZA (k+3) ⟨f,occ⟩ ⟨a,q⟩ (v:Int)).bind _)=_;rw[g4];simp only[Zee,Zep,Zeg,Zen];rw[g3];simp only[Zee]
       rw[Zei aA]) O]
      rfl
end
end Go.Proofs.YtccamimfkohabaaGreatDoor.Sv
end
