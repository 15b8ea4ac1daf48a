/- Texts of this claim put into one: library or plain laws, without the program under test. -/
import Derived.Test.YtjhiajehpjpibaaGreatDoorPLib2
set_option linter.unusedSimpArgs false
set_option linter.unusedVariables false
set_option linter.defProp false
section
namespace Go.Proofs.YtjhiajehpjpibaaGreatDoor
open Go.GL
open Cc (BS LS CircP Grow GoodL Good litN lines negs seqP ifP opP net RelB FOk FU)
set_option maxRecDepth 100000
variable{fuel:Nat}[FV fuel]
structure CircT(t:D.Term)(L:List D.Value):Prop where
 vars:L=vrt t
 circ:CircP (circT t).1
 len:(circT t).2.1.length=t.W.toNat
 lits:∀x∈(circT t).2.1,litN (lines (circT t).1) x=true
 sum:(circT t).1.Inputs=(wsum L:Int)
 wid:∀v∈L,1<=v.W/\v.W<=16
 num:L.length<=1000
def Ia{t:D.Term}(h:termB t=true)(hs:msz t<=1048576)(h3:(circT t).2.2=true):∃L,CircT t L:=by
 obtain⟨hL,hn,hc,hw,hnm,hlen,hb0⟩:=QR h hs;have hE:circT t=(if bitsV (vrt t) 0>30\/(nP (vrt t) t (⟨bitsV (vrt t) 0,[]⟩,false)).2.2=true then(c0,[],false)else((nP (vrt t) t (⟨bitsV (vrt t) 0,[]⟩,false)).2.1,(nP (vrt t) t (⟨bitsV (vrt t) 0,[]⟩,false)).1,true)):=by
  simp_all[circT,ZfC]
 by_cases hb:bitsV (vrt t) 0>30\/(nP (vrt t) t (⟨bitsV (vrt t) 0,[]⟩,false)).2.2=true
 ·simp_all
 ·rw[ZfD hb]at hE;have hC:=Mc hb0 O;have hv:VF (vrt t) (⟨bitsV (vrt t) 0,[]⟩:D.Circuit):=⟨λv hv=>(hw v hv).1,rfl⟩;have g:=OC hL.nm _ t (⟨bitsV (vrt t) 0,[]⟩,false) (ZfP _) hn hL.all hC hv;refine⟨vrt t,rfl,by rw[hE];exact g.circ,by rw[hE];exact g.len,by rw[hE];exact g.lits,?_,hw,hlen⟩;have:=g.grow.inputs;simp_all[Hr,vrt]
def formT(t:D.Term):D.Formula:=⟨lines (circT t).1,Cc.accF (circT t).1 (circT t).1.Gates.length++[[(circT t).2.1.getD 0 0]]⟩
noncomputable def solP(t:D.Term)(limit:Int):Int×List D.Value:=
 if termB t=true/\t.W=1/\0<=limit/\limit<=3000 then
  if(circT t).2.2=true then
   if(Sv.serP (formT t) (lines (circT t).1).toNat limit).1=1 then(1,valsP (Sv.serP (formT t) (lines (circT t).1).toNat limit).2.1 1 (vrt t))else((Sv.serP (formT t) (lines (circT t).1).toNat limit).1,[])
  else(3,[])
 else(0,[])
theorem BZ(x:Int):Cc.iab x=(x.natAbs:Int):=by grind[Cc.iab]
section
variable{t:D.Term}{L:List D.Value}(hT:CircT t L)(hw1:t.W=1)
include hT hw1
theorem lit0:(circT t).2.1[0]? =some ((circT t).2.1.getD 0 0)/\litN (lines (circT t).1) ((circT t).2.1.getD 0 0)=true:=by
 have hl:=hT.len;have h0:0<(circT t).2.1.length:=by omega
 have hg:(circT t).2.1.getD 0 0=(circT t).2.1[0]:=by simp_all
 exact⟨by simp_all,by rw[hg];exact hT.lits _ (Zgn h0)⟩
theorem Ex:Cc.formP (circT t).1 ((circT t).2.1.getD 0 0)=(formT t,true):=by
 unfold Cc.formP formT;rw[Cc.circP_iff.2 hT.circ,(lit0 hT hw1).2];rfl
theorem Ms:Sv.FmP (formT t) (lines (circT t).1).toNat/\(formT t).Clauses.length<=1600:=by
 have h0:=hT.circ.lines0;have h1:=hT.circ.lines1;have hg:=hT.circ.len;have hi:=Cc.form_inc hT.circ (lit0 hT hw1).2;have hn:(formT t).Clauses.length<=1600:=by grind[formT,List.length_append,Cc.accF_len,List.length_cons,List.length_nil]
 have hv:(formT t).Vars=lines (circT t).1:=rfl;refine⟨⟨by omega,by omega,hn,λc hc=>?_⟩,hn⟩;obtain⟨⟨a1,a2⟩,a3⟩:=hi c hc;refine⟨⟨λx hx=>?_,a2.imp λh=>?_⟩,by omega⟩
 ·have:=Cc.litN_iff.1 (a1 x hx);rw[BZ]at this;exact⟨by omega,by omega⟩
 grind[BZ]
theorem Zc9:WG fuel (formT t)=some true:=by
 have h1:=hT.circ.lines1;have h0:=hT.circ.lines0;have hi:=Cc.form_inc hT.circ (lit0 hT hw1).2;have hv:(formT t).Vars=lines (circT t).1:=rfl;exact Cc.impl_fok O O (Ms hT hw1).2 λc hc=>⟨(hi c hc).1,by have:=(hi c hc).2;omega⟩
theorem ZcT:Ws fuel (formT t)=some true:=by
 have h1:=hT.circ.lines1;have h0:=hT.circ.lines0;have hi:=Cc.form_inc hT.circ (lit0 hT hw1).2;have hv:(formT t).Vars=lines (circT t).1:=rfl;exact Cc.spec_fok O O (Ms hT hw1).2 λc hc=>⟨(hi c hc).1,by have:=(hi c hc).2;omega⟩
omit hw1 in
theorem Jn{limit:Int}(h:(Sv.serP (formT t) (lines (circT t).1).toNat limit).1=1):(Sv.serP (formT t) (lines (circT t).1).toNat limit).2.1.length<=1000/\1+wsum L<=(Sv.serP (formT t) (lines (circT t).1).toNat limit).2.1.length:=by
 unfold Sv.serP at h⊢;dsimp only at h⊢;rw[ZfC h,Sv.bls_len (Sv.brn_asg _ _ _ h)];have h1:=hT.circ.lines1;have hs:=hT.sum;unfold Cc.lines at h1⊢;omega
end
def Zfd(limit:Int):Zc limit 0 3000=some (decide (0<=limit/\limit<=3000)):=by
 simp[Zc,ZgS]
def ZdZ(limit:Int):X5 limit=some (decide (0<=limit/\limit<=3000)):=by
 simp[X5,ZgS]
theorem Ld{t:D.Term}{limit:Int}(h:¬(termB t=true/\t.W=1/\0<=limit/\limit<=3000)):solP t limit=(0,[]):=by simp_all[solP,ZfD]
def ZcV{t:D.Term}{limit:Int}(h:termB t=true/\t.W=1/\0<=limit/\limit<=3000)(h3:¬(circT t).2.2=true):solP t limit=(3,[]):=by simp_all[solP,ZfC,ZfD]
def ZbO{t:D.Term}{limit:Int}(h:termB t=true/\t.W=1/\0<=limit/\limit<=3000)(h3:(circT t).2.2=true):solP t limit=if(Sv.serP (formT t) (lines (circT t).1).toNat limit).1=1 then(1,valsP (Sv.serP (formT t) (lines (circT t).1).toNat limit).2.1 1 (vrt t))else((Sv.serP (formT t) (lines (circT t).1).toNat limit).1,[]):=by simp_all[solP,ZfC]
def Cs{t:D.Term}{limit:Int}(hs:msz t<=1048576):Us fuel t limit=some (solP t limit):=by
 unfold Us;rw[Ul hs];by_cases h:termB t=true;rotate_left
 ·grind[Ld,termB]
 by_cases hw:t.W=1;rotate_left
 ·simp_all[Ld]
 rw[h,show(t.W !=1)=false by simp_all,Zfd];simp only[ZfJ,Zgl,ZfB,ZfK,Zf9];by_cases hl:0<=limit/\limit<=3000;rotate_left
 ·simp_all[Ld,decide_eq_false]
 simp only[ZfJ,ZfB,ZfK,Cr hs,Zf9];by_cases h3:(circT t).2.2=true;rotate_left
 ·simp_all[ZcV,ZfC]
 rw[ZbO ⟨h,hw,hl⟩ h3,ZfD ah];obtain⟨L,hT⟩:=Ia h hs h3;have hg:=hT.circ.len;have f1:=(Ms hT hw).1;have f2:=ZcT (fuel:=fuel) hT hw;rw[show get? (circT t).2.1 0=_ from(get?_nat (i:=0)).trans (lit0 hT hw).1];simp only[Zf9];rw[Cc.spec_FormulaOf_eq hT.circ.fit O,Ex hT hw];simp only[Zf9];rw[Sv.spec_search f1 hl.1 hl.2 ag f2];simp only[Zf9];by_cases h4:(Sv.serP (formT t) (lines (circT t).1).toNat limit).1=1
 ·obtain⟨m1,m2⟩:=Jn hT h4;rw[ZfD ah,ZfC h4,(OU h hs).1,<-hT.vars];simp only[Zf9];rw[FH m1 hT.num hT.wid ag m2,h4];rfl
 simp_all
def BK{t:D.Term}{limit:Int}(hs:msz t<=1048576):UB fuel t limit=some (solP t limit):=by
 unfold UB;rw[Qu hs];by_cases h:termB t=true;rotate_left
 ·grind[Ld,termB]
 by_cases hw:t.W=1;rotate_left
 ·simp_all[Ld]
 rw[h,show(t.W !=1)=false by simp_all,ZdZ];simp only[ZfJ,Zgl,ZfB,ZfK,Zf9];by_cases hl:0<=limit/\limit<=3000;rotate_left
 ·simp_all[Ld,decide_eq_false]
 rw[decide_eq_true hl];simp only[ZfJ,ZfB,ZfK,BA hs,Zf9];by_cases h3:(circT t).2.2=true;rotate_left
 ·simp_all[ZcV,ZfC]
 rw[ZbO ⟨h,hw,hl⟩ h3,ZfD ah];obtain⟨L,hT⟩:=Ia h hs h3;have hg:=hT.circ.len;have f1:=(Ms hT hw).1;have f3:=Zc9 (fuel:=fuel) hT hw;rw[show get? (circT t).2.1 0=_ from(get?_nat (i:=0)).trans (lit0 hT hw).1];simp only[Zf9];rw[Cc.impl_FormulaOf_eq hT.circ.fit O,Ex hT hw];simp only[Zf9,ZfJ,ZfB,ZfK];rw[Sv.impl_search f1 hl.1 hl.2 ag f3];simp only[Zf9];by_cases h4:(Sv.serP (formT t) (lines (circT t).1).toNat limit).1=1
 ·obtain⟨m1,m2⟩:=Jn hT h4;rw[ZfD ah,ZfC h4,<-hT.vars];rw[Fq m1 hT.num hT.wid ag m2 (by rw[hT.vars];exact Gb h hs) λv hv=>((Qo v _).1 (hT.vars▸hv)).2];rfl
 simp_all
theorem EM{t:D.Term}{limit:Int}(hs:msz t<=1048576):(solP t limit).2.length<=100000:=by
 unfold solP;split
 ·rename_i h;split
  ·rename_i h3;obtain⟨L,hT⟩:=Ia h.1 hs h3;have:=hT.num;split
   ·rw[<-hT.vars,Gf];omega
   ·simp
  ·simp
 ·simp
end Go.Proofs.YtjhiajehpjpibaaGreatDoor
end
section
namespace Go.Proofs.YtjhiajehpjpibaaGreatDoor
open Go.GL
set_option maxRecDepth 100000
variable{fuel:Nat}[FV fuel]
def nmI(k:Nat):Str:=⟨[105,UInt8.ofNat (48+k)]⟩
def ZaB{n k:Nat}(h:k<=9)(hn:2<=n):Yv n (k:Int)=some ⟨[UInt8.ofNat (48+k)]⟩:=by
 obtain⟨n,rfl⟩:∃m,n=m+1:=⟨n-1,by omega⟩;rw[Yv];have hd:decide ((k:Int)<0)=false:=by simp
 simp only[hd,ZfB,ZfK];rw[Zr (n:=n) (r:=((k:Int),(⟨[]⟩:Str))) al O];have:k=0\/k=1\/k=2\/k=3\/k=4\/k=5\/k=6\/k=7\/k=8\/k=9:=by omega
 rcases this with rfl|rfl|rfl|rfl|rfl|rfl|rfl|rfl|rfl|rfl<;>decide
def ZaD{k:Nat}(h:k<=9):Y6 (k:Int)=some ⟨[UInt8.ofNat (48+k)]⟩:=by
 unfold Y6 strconv_Itoa;rw[ifp,Lib.itoa,ifn];have e:((k:Int)).toNat=k:=by omega
 rw[e,Lib.decDigits,dif_pos O];rfl
def AY(k:Nat):cat? ⟨[105]⟩ ⟨[UInt8.ofNat (48+k)]⟩=some (nmI k):=by
 rfl
def updV(W:Int)(o:Option D.Value)(k:Nat)(b:List Int):List Int:=
 match o with
 |some v=>if(v.W==W)=true then b.set k v.N else b
 |none=>b
def insI(W:Int)(vs:List D.Value)(m:Nat):Nat->List Int
 |0=>List.replicate m 0
 |k+1=>updV W (vs.find? λv=>Str.eqb v.Name (nmI k)) k (insI W vs m k)
def ZbQ{W:Int}{o:Option D.Value}{k:Nat}{b:List Int}:(updV W o k b).length=b.length:=by
 simp_all[updV]<;>grind
theorem Mw{W:Int}{vs:List D.Value}{m:Nat}:∀k,(insI W vs m k).length=m
 |0=>by simp[insI]
 |k+1=>by rw[insI,ZbQ,Mw k]
section
variable{vs:List D.Value}(hl:vs.length<=100000)
include hl
theorem find_ok(s:Str):∃r:Int,UM fuel vs s=some r/\((r=-1/\vs.find? (λv=>Str.eqb v.Name s)=none)\/∃(k:Nat)(v:D.Value),r=k/\vs[k]? =some v/\vs.find? (λv=>Str.eqb v.Name s)=some v):=by
  unfold UM;obtain⟨r,g1,g2⟩:=Va (l:=vs) (n:=fuel) (σ:=Unit) (ρ:=Unit⊕Int) (B:=λ(s1:Int)=>if(decide (s1<(len vs)))then(get? vs s1).bind λx1=>if(Str.eqb x1.Name s)then some (.inr (.inr s1))else some (.inl ((w64 (s1+1))))else some (.inr (.inl ())))
    (λk _=>(k:Int)) (λxs _=>vs.find? (λv=>Str.eqb v.Name s)=xs.find? (λv=>Str.eqb v.Name s)) (λr=>(r= .inl ()/\vs.find? (λv=>Str.eqb v.Name s)=none)\/∃(k:Nat)(v:D.Value),r= .inr (k:Int)/\vs[k]? =some v/\vs.find? (λv=>Str.eqb v.Name s)=some v)
    (λk x xs a hk hx hlen hi=>by
      have hd:decide ((k:Int)<len vs)=true:=by grind[Za]
      simp only[hd,ZfR,get?_nat,hx,Zf9];rw[Zil]at hi;cases c:Str.eqb x.Name s
      · rw[c]at hi
        exact .inl ⟨(),by rw[ifn,Zb];rfl,hi⟩
      grind)
    (λa hi=>by
      grind[decide,len,Za]) (a:=()) rfl ag
  grind
theorem Zar{p:D.Program}{m:Nat}(hm:m<=9):(iterN (λ(s1:Int×(List Int))=>if(decide (s1.1<(len (List.replicate m (0:Int)))))then(Yv fuel s1.1).bind λx6=>(cat? ⟨[105]⟩ x6).bind λx7=>(UM fuel vs x7).bind λx8=>(if(decide (x8>=0))then(get? vs x8)else some default).bind λx9=>if((decide (x8>=0))&&(x9.W==p.W))then(get? vs x8).bind λx10=>(set? s1.2 s1.1 x10.N).bind λx11=>some (.inl ((w64 (s1.1+1)),x11))else some (.inl ((w64 (s1.1+1)),s1.2))else some (.inr (s1.2))) fuel (0,List.replicate m (0:Int)))=some (insI p.W vs m m):=by
  refine ZG (I:=λk s=>s=((k:Int),insI p.W vs m k)) (m:=m) (λk s hk hs=>?_) (λs hs=>?_) m 0 _ O rfl fuel ag
  · subst hs
    refine⟨_,?_,rfl⟩;have hset:∀x,set? (insI p.W vs m k) (k:Int) x=some ((insI p.W vs m k).set k x):=λx=>set?_nat (by simp_all[Mw]);rw[ZfC ak,ZaB O ag];simp only[Zf9,AY];rw[insI,Zb];obtain⟨r,e,⟨rfl,hf⟩|⟨j,v,rfl,hv,hf⟩⟩:=find_ok (fuel:=fuel) hl (nmI k)
    · rw[e,hf];rfl
    · simp_all[Zf9,ZfR,get?_nat,Zgk,updV]<;>grind
  simp_all[ZfD,Za]
theorem Zaz{p:D.Program}{m:Nat}(hm:m<=9)(hn:vs.Pairwise λx y=>x.Name≠y.Name)(hp:p.In=(m:Int)):TD fuel p vs=some (insI p.W vs m m):=by
 unfold TD;have e0:mk? p.In (0:Int)=some (List.replicate m 0):=by
  simp_all[mk?,ZfC,room]<;>grind
 rw[e0];simp only[Zf9];rw[ZG (I:=λk s=>s=((k:Int),insI p.W vs m k)) (m:=m) (r:=insI p.W vs m m) (λk s hk hs=>?_) (λs hs=>?_) m 0 (0,List.replicate m 0) O rfl fuel ag]
 ·rfl
 ·subst hs;have hb:=Mw (W:=p.W) (vs:=vs) (m:=m) k;rw[ZfC ak,insI];generalize insI p.W vs m k=b at hb⊢;rw[ZG (I:=λj s=>s=((j:Int),updV p.W ((vs.take j).find? λv=>Str.eqb v.Name (nmI k)) k b)) (m:=vs.length) (r:=updV p.W (vs.find? λv=>Str.eqb v.Name (nmI k)) k b) (λj s hj hs=>?_) (λs hs=>?_) vs.length 0 (0,b) O rfl fuel ag]
  ·grind[Zb]
  ·subst hs;rw[ZfC ak,get?_nat,ZfA hj];rw[ZaD O];simp only[Zf9,AY];rw[ZfU hj,List.find?_append,Zb];have hset:∀x,set? b (k:Int) x=some (b.set k x):=λx=>set?_nat O;cases c:Str.eqb vs[j].Name (nmI k)
   ·simp_all
   ·have hno:(vs.take j).find? (λv=>Str.eqb v.Name (nmI k))=none:=by
     refine List.find?_eq_none.2 λu hu hq=>?_;rw[<-ZgQ j vs,Zgc hj]at hn;refine(Zhf.1 hn).2.2 u hu vs[j] (.head _) ?_;simp_all[Sw,of_decide_eq_true]
    simp_all[Str.eqb,nmI,Option.none_or,Zgk,updV,ZfR,Zf9]<;>grind
  simp_all[ZfD,Za,ZgV]
 simp_all[ZfD,Za]
end
theorem EC(model:List Bool):∀(L:List D.Value)(off:Nat),(valsP model off L).map (·.Name)=L.map (·.Name)
 |[],_=>rfl
 |v::L,off=>by rw[valsP,Zgu,Zgu,EC model L]
def ZdF{t:D.Term}{limit:Int}(hs:msz t<=1048576):(solP t limit).2.Pairwise λx y=>x.Name≠y.Name:=by
 unfold solP;split
 ·rename_i h;split
  ·split
   ·have h2:=(QR h.1 hs).1.nm;rw[<-List.pairwise_map (R:=λx y:Str=>x≠y)]at h2⊢;simp_all[EC]
   ·simp
  ·simp
 ·simp
def KU{p:D.Program}{s:D.Path}(h:pathB p s=true):0<=p.In/\p.In<=3:=by
 simp_all[pathB,progB,ZfF,ZfN]
noncomputable def pinP(p:D.Program)(s:D.Path)(limit:Int):Int×List Int:=
 if pathB p s=true/\0<=limit/\limit<=3000 then
  if(allT s.Cond).2=true then
   if(solP (allT s.Cond).1 limit).1=1 then(1,insI p.W (solP (allT s.Cond).1 limit).2 p.In.toNat p.In.toNat)else((solP (allT s.Cond).1 limit).1,[])
  else(3,[])
 else(0,[])
theorem ZcC{p:D.Program}{s:D.Path}{limit:Int}:(pinP p s limit).2.length<=1000:=by
 unfold pinP;split
 ·rename_i h;have:=KU h.1;grind[Mw]
 ·simp
section
variable{p:D.Program}{s:D.Path}{limit:Int}(hp:p.Code.length<=1048576)(hs:smallP s)
include hp hs
theorem DT:WZ fuel p s limit=some (pinP p s limit):=by
 unfold WZ pinP;rw[Zah hp hs];cases h1:pathB p s
 ·rfl
 have hin:=KU h1;have e1:Zc limit 0 3000=some (decide (0<=limit/\limit<=3000)):=by simp[Zc]
 simp only[ZfJ,ZfB,ZfK,e1,Zf9,Zgl,Zi5];by_cases hl:0<=limit/\limit<=3000;rotate_left
 ·grind
 rw[decide_eq_true hl,ZfC hl];have a1:TF fuel s=some (allT s.Cond):=by unfold TF;rw[Zbx hs.2.2.2.2.1];rfl
 obtain⟨z1,z2⟩:=Zae s.Cond;simp only[ZfJ,ZfB,ZfK,a1,Zf9];cases h2:(allT s.Cond).2
 ·rfl
 simp only[ZfJ,ZfB,ZfK,ZfR,Cs z1,Zf9];by_cases h3:(solP (allT s.Cond).1 limit).1=1;rotate_left
 ·simp_all
 obtain⟨m,hm⟩:∃m:Nat,p.In=m:=⟨p.In.toNat,by omega⟩;have e0:mk? p.In (0:Int)=some (List.replicate m 0):=by
  simp_all[mk?,ZfC,room]<;>grind
 grind[Zar,EM,Int.toNat_natCast]
omit hp in
theorem Gn(h1:pathB p s=true)(hl:0<=limit/\limit<=3000):WV fuel p s limit=some (pinP p s limit):=by
 have hin:=KU h1;obtain⟨z1,z2⟩:=Zae s.Cond;unfold WV pinP;simp only[Zbq hs.2.2.2.2.1,Zf9];rw[ZfC (show pathB p s=true/\0<=limit/\limit<=3000 from⟨h1,hl⟩)];cases h2:(allT s.Cond).2
 ·rfl
 simp only[ZfJ,ZfB,ZfK,ZfR,BK z1,Zf9];by_cases h3:(solP (allT s.Cond).1 limit).1=1;rotate_left
 ·rw[ZfC (by simpa using h3),ZfD h3]
 rw[ZfD (by simpa using h3),ZfC h3];obtain⟨m,hm⟩:∃m:Nat,p.In=m:=⟨p.In.toNat,by omega⟩;rw[Zaz (EM z1) O (ZdF z1) hm,hm,Zgr];rfl
end
end Go.Proofs.YtjhiajehpjpibaaGreatDoor
end
section
namespace Go.Proofs.YtjhiajehpjpibaaGreatDoor
open Go.GL
set_option maxRecDepth 100000
variable{fuel:Nat}[FV fuel]
def fineL(l:List D.Term):Prop:=l.length<=100/\∀x∈l,fine x
theorem KZ{m:Nat}:∀{l:List D.Term},(∀x∈l,msz x<=m)->mszs l<=l.length*m
 |[],_=>by simp[SX]
 |x::l,h=>by
  have h2:=KZ (l:=l) λy hy=>h y ao;grind[Uj,List.length_cons,Nat.succ_mul]
def Ov{l:List D.Term}(h:fineL l):sml l:=by
 have h1:=KZ (m:=2640) λx hx=>Uc (h.2 x hx);have h2:=h.1;grind[sml,Nat.mul_le_mul_right]
def ET{l:List D.Term}(h:fineL l):Xu fuel l=some l:=by
 unfold Xu;have hl:=h.1;obtain⟨r,g1,g2⟩:=Va (l:=l) (n:=fuel) (σ:=List D.Term) (ρ:=List D.Term) (B:=λ(s1:Int×(List D.Term))=>if(decide (s1.1<(len l)))then(get? l s1.1).bind λx1=>(XA fuel x1).bind λx2=>(app? s1.2 ([x2]:List D.Term)).bind λx3=>some (.inl ((w64 (s1.1+1)),x3))else some (.inr (s1.2))) (λj a=>((j:Int),a)) (λys a=>a++ys=l/\∀x∈ys,x∈l) (λr=>r=l)
  (λj x xs a hj hx hlen⟨h1,h2⟩=>by
   have hd:decide ((j:Int)<len l)=true:=by grind[Za]
   have hm:=h2 x U;simp only[hd,ZfR,get?_nat,hx,Zf9,Ap (h.2 x hm).1 (h.2 x hm).2.1]
   grind[VZ,Zb])
  (λa⟨h1,_⟩=>by
   grind[decide,len,Za]) (a:=[]) ⟨rfl,λ_ h=>h⟩ ag
 simp_all
def fineP(s:D.Path):Prop:=fineL s.Regs/\fineL s.Mem/\s.Stack.length<=100/\fineL s.Out/\fineL s.Cond/\s.Turns.length<=100
def RP{s:D.Path}(h:fineP s):smallP s:=⟨Ov h.1,Ov h.2.1,by have:=h.2.2.1;omega,Ov h.2.2.2.1,Ov h.2.2.2.2.1,by have:=h.2.2.2.2.2;omega⟩
theorem Zb2{l:List Int}(h:l.length<=100):app? ([]:List Int) l=some l:=by
 grind[VZ]
def ZeJ{l:List D.Term}(h:l.length<=1000):app? ([]:List D.Term) l=some l:=by
 grind[VZ]
def TY{s:D.Path}(h:fineP s):Yx fuel s=some s:=by
 obtain⟨h1,h2,h3,h4,h5,h6⟩:=h;simp_all[Yx,ET,Zb2,Zf9]
def Ox{p:D.Program}(h:progB p=true):1<=p.W/\p.W<=16/\0<=p.Mem/\p.Mem<=6/\0<=p.In/\p.In<=3:=by
 simp_all[progB,ZfF,ZfN]<;>grind
def sml3'{a b c:D.Term}(ha:msz a<=2640)(hb:msz b<=2640)(hc:msz c<=2640):sml [a,b,c]:=by
 grind[sml,Uj,SX]
end Go.Proofs.YtjhiajehpjpibaaGreatDoor
end
section
namespace Go.Proofs.YtjhiajehpjpibaaGreatDoor
open Go.GL
set_option maxRecDepth 100000
variable{fuel:Nat}[FV fuel]
def fw(w:Int)(l:List D.Term):Prop:=∀t∈l,fine t/\t.W=w
structure okP(p:D.Program)(s:D.Path):Prop where
 pc:0<=s.Pc/\s.Pc<=len p.Code
 rl:s.Regs.length=4
 rf:fw p.W s.Regs
 ml:(s.Mem.length:Int)=p.Mem
 mf:fw p.W s.Mem
 sl:s.Stack.length<=3
 sp:∀x∈s.Stack,0<=x/\x<=len p.Code
 inn:0<=s.In/\s.In<=p.In
 ol:s.Out.length<=6
 of:fw p.W s.Out
 cd:0<=s.Code/\s.Code<=9
 st:0<=s.Steps/\s.Steps<=400
 cl:s.Cond.length<=60
 cf:fw 1 s.Cond
 tl:s.Turns.length<=60/\∀x∈s.Turns,0<=x/\x<=1
def KO{w:Int}{l:List D.Term}(h:fw w l)(hl:l.length<=100):fineL l:=⟨hl,λx hx=>(h x hx).1⟩
def okP.fine{p:D.Program}{s:D.Path}(h:okP p s)(hp:progB p=true):fineP s:=by
 have hm:=Ox hp;have:=h.ml;exact⟨KO h.rf (by have:=h.rl;omega),KO h.mf O,by have:=h.sl;omega,KO h.of (by have:=h.ol;omega),KO h.cf (by have:=h.cl;omega),by have:=h.tl;omega⟩
def ZbK{w:Int}{l:List D.Term}(h:fw w l){k:Nat}{t:D.Term}(ht:fine t/\t.W=w):fw w (l.set k t):=λx hx=>by
 rcases Zh4 hx with hx|rfl
 ·exact h x hx
 ·exact ht
def Zci{w:Int}{l:List D.Term}(h:fw w l){t:D.Term}(ht:fine t/\t.W=w):fw w (l++[t]):=λx hx=>by
 rcases ZfG.1 hx with hx|hx
 ·exact h x hx
 simp_all
def rg(l:List D.Term)(k:Int):D.Term:=(l[k.toNat]?).getD t0
def Qk{l:List D.Term}{k:Int}(h0:0<=k)(h1:k<l.length):get? l k=some (rg l k):=by
 obtain⟨j,rfl⟩:∃j:Nat,k=(j:Int):=⟨k.toNat,by omega⟩;simp_all[rg,get?_nat,Zgr,ZfA]
theorem Qq{w:Int}{l:List D.Term}{k:Int}(h:fw w l)(h0:0<=k)(h1:k<l.length):fine (rg l k)/\(rg l k).W=w:=by
 unfold rg;rw[ZfA O];exact h _ (Zgn _)
def Bl{α:Type}{l:List α}{k:Int}(h0:0<=k)(h1:k<l.length)(x:α):set? l k x=some (l.set k.toNat x):=by
 obtain⟨j,rfl⟩:∃j:Nat,k=(j:Int):=⟨k.toNat,by omega⟩;simp_all[set?_nat,Zgr]
theorem Aq{l:List D.Term}(h:l.length<=1000):ZF l=some l:=by
 simp_all[ZF,ZeJ]
def put_eq{l:List D.Term}{k:Int}{t:D.Term}(hl:l.length<=1000)(h0:0<=k)(h1:k<l.length):Vt l k t=some (l.set k.toNat t):=by
 simp_all[Vt,Aq,Zf9,Bl]
def FR{l:List D.Term}{t:D.Term}(hl:l.length<=1000):SF l t=some (l++[t]):=by
 grind[SF,YA,Aq,VZ]
def FW{l:List Int}{x:Int}(hl:l.length<=100):SH l x=some (l++[x]):=by
 grind[SH,Zg,Zb2,VZ]
def kT(w v:Int):D.Term:=⟨0,w,v,⟨[]⟩,[]⟩
def Qe{w v:Int}(h:wordB w v=true):fine (kT w v):=⟨SN h,by simp[kT,cnt0],by rfl⟩
theorem Y1{p:D.Program}(hp:progB p=true):wordB p.W p.Mem=true/\2<=p.W/\p.W<=8/\1<=p.Mem/\p.Mem<=6:=by
 simp_all[progB,ZfF,ZfN]
def Qs{p:D.Program}(hp:progB p=true){k:Int}(h0:0<=k)(h1:k<=p.Mem):wordB p.W k=true:=by
 grind[Y1,Yp]
def sml2f{a b:D.Term}(ha:fine a)(hb:fine b):sml [a,b]:=sml2 (Uc ha) (by grind[Uc])
def sml1f{a:D.Term}(ha:fine a):sml [a]:=by
 grind[Uc,sml,Uj,SX]
def sml3f{a b c:D.Term}(ha:fine a)(hb:fine b)(hc:fine c):sml [a,b,c]:=sml3' (Uc ha) (Uc hb) (Uc hc)
noncomputable def cel(w k:Int)(x a b:D.Term):D.Term×Bool:=
 if(mkT 14 1 0 [kT w k,x]).2=true then mkT 17 w 0 [(mkT 14 1 0 [kT w k,x]).1,a,b]else(t0,false)
def IB{w k:Int}{x a b:D.Term}(h:(cel w k x a b).2=true):fine (cel w k x a b).1/\(cel w k x a b).1.W=w:=by
 unfold cel at h⊢;split at h
 all_goals simp_all[ZfC,YT]
def Dl{p:D.Program}{k:Int}{x a b:D.Term}(hw:wordB p.W k=true)(hx:fine x)(ha:fine a)(hb:fine b):Vr fuel p k x a b=some (cel p.W k x a b):=by
 unfold Vr cel;rw[YI hw];show((Z4 fuel 14 1 0 [kT p.W k,x]).bind _)=_;rw[Tw (sml2f (Qe hw) hx)];simp only[Zf9];by_cases c:(mkT 14 1 0 [kT p.W k,x]).2=true
 ·rw[ZfD (by rw[c];simp),ZfC c,Tw (sml3f (YT c).1 ha hb)];rfl
 ·rw[ZfC an,ZfD c];rfl
def WF{b:Bool}{op w:Int}{ks:List D.Term}(h:sml ks):Ze fuel ⟨b⟩ op w ks=some ((mkT op w 0 ks).1,⟨b|| !(mkT op w 0 ks).2⟩):=by
 grind[Ze,Ae,mkT]
noncomputable def ldT(w:Int)(x:D.Term)(mem:List D.Term):Nat->D.Term->D.Term×Bool
 |0,t=>(t,true)
 |j+1,t=>if(cel w (j:Int) x (rg mem j) t).2=true then ldT w x mem j (cel w (j:Int) x (rg mem j) t).1 else(t0,false)
theorem EX{w:Int}{x:D.Term}{mem:List D.Term}:∀{j:Nat}{t:D.Term},fine t/\t.W=w->(ldT w x mem j t).2=true->fine (ldT w x mem j t).1/\(ldT w x mem j t).1.W=w
 |0,t,ht,_=>ht
 |j+1,t,ht,h=>by
  unfold ldT at h⊢;split at h
  ·rename_i c;rw[ZfC c];exact EX (IB c) h
  ·cases h
theorem Zc3{w:Int}{x:D.Term}{mem:List D.Term}:∀{j:Nat}{t:D.Term},(ldT w x mem j t).2=false->ldT w x mem j t=(t0,false)
 |0,t,h=>by cases h
 |j+1,t,h=>by
  unfold ldT at h⊢;split at h
  ·rename_i c;rw[ZfC c];exact Zc3 h
  simp_all
noncomputable def load(w:Int)(mem:List D.Term)(x:D.Term):D.Term×Bool:=if x.Op=0 then(rg mem x.N,true)else ldT w x mem (mem.length-1) (rg mem ((mem.length-1:Nat):Int))
abbrev T5:=Int×Int×Int×Str×(List D.Term)
abbrev tup5(t:D.Term):T5:=(t.Op,t.W,t.N,t.Name,t.Kids)
def LG(t:D.Term):(D.Term.mk t.Op t.W t.N t.Name t.Kids)=t:=by cases t;rfl
theorem ZdK{p:D.Program}{mem:List D.Term}{x:D.Term}(hp:progB p=true)(hm:(mem.length:Int)=p.Mem)(hf:fw p.W mem)(hx:fine x):∀(j:Nat)(t:D.Term)(n:Nat),fine t/\t.W=p.W->j<=mem.length->j<n->
    iterN (λ(s1:Int×Int×Int×Int×Str×(List D.Term))=>if(decide (s1.1>=0))then(get? mem s1.1).bind λx4=>(Vr fuel p s1.1 x x4 (D.Term.mk s1.2.1 s1.2.2.1 s1.2.2.2.1 s1.2.2.2.2.1 s1.2.2.2.2.2)).bind λx5=>if(!x5.2)then some (.inr (.inr ((D.Term.mk 0 0 0 ⟨[]⟩ ([]:List D.Term)),false)))else some (.inl ((w64 (s1.1-1)),x5.1.Op,x5.1.W,x5.1.N,x5.1.Name,x5.1.Kids))else some (.inr (.inl (s1.2.1,s1.2.2.1,s1.2.2.2.1,s1.2.2.2.2.1,s1.2.2.2.2.2))):Int×T5->Option ((Int×T5)⊕(T5⊕(D.Term×Bool))))
     n ((j:Int)-1,tup5 t)=some (if(ldT p.W x mem j t).2=true then(.inl (tup5 (ldT p.W x mem j t).1):T5⊕(D.Term×Bool))else .inr (t0,false)):=by
  intro j
  induction j with
  | zero=>
    intro t n ht _ hn;refine Zr ?_ hn;rfl
  | succ j ih=>
    intro t n ht hj hn;obtain⟨n,rfl⟩:∃m,n=m+1:=⟨n-1,by omega⟩;have hm6:=Y1 hp;have e1:((j+1:Nat):Int)-1=(j:Int):=by omega
    have eg:=Qk (l:=mem) (k:=(j:Int)) O O;have ec:=Dl (fuel:=fuel) (p:=p) (k:=(j:Int)) (x:=x) (a:=rg mem j) (b:=t) (Qs hp O O) hx (Qq hf O O).1 ht.1;rw[e1];unfold ldT;by_cases c:(cel p.W (j:Int) x (rg mem j) t).2=true
    · rw[ZfC c,<-ih _ n (IB c) O O]
      refine YB ?_;simp only[tup5,eg,Zf9,LG,ec,c];rw[ifp,ifn,Zb]
    · rw[ZfD c]
      refine Zr ?_ O;simp only[tup5,eg,Zf9,LG,ec];rw[ifp,ZfC an];rfl
def Zao{p:D.Program}{s:D.Path}{x:D.Term}(hp:progB p=true)(hm:(s.Mem.length:Int)=p.Mem)(hf:fw p.W s.Mem)(hx:fine x)(hc:x.Op=0->0<=x.N/\x.N<p.Mem):RB fuel p s x=some (load p.W s.Mem x):=by
 have hm6:=Y1 hp;unfold RB load ZJ;simp only[Zf9];by_cases c:x.Op=0
 ·simp_all[ZfC,Qk]
 ·rw[ZfD an,ZfD c];have e1:w64 (p.Mem-1)=((s.Mem.length-1:Nat):Int):=by grind[Zb]
  have e2:w64 (p.Mem-2)=((s.Mem.length-1:Nat):Int)-1:=by grind[Zb]
  rw[e1,e2,Qk O O];have:=ZdK (fuel:=fuel) hp hm hf hx (s.Mem.length-1) (rg s.Mem ((s.Mem.length-1:Nat):Int)) fuel (Qq hf O O) O ag;cases h:(ldT p.W x s.Mem (s.Mem.length-1) (rg s.Mem ((s.Mem.length-1:Nat):Int))).2
  all_goals simp_all[Zc3,ZfR,LG]<;>grind
theorem Zd5{p:D.Program}{mem:List D.Term}{x:D.Term}(hp:progB p=true)(hm:(mem.length:Int)=p.Mem)(hf:fw p.W mem)(hx:fine x):∀(j:Nat)(t:D.Term)(n:Nat),fine t/\t.W=p.W->j<=mem.length->j+1<n->
    ∃t',iterN (λ(s1:Int×Bool×Int×Int×Int×Str×(List D.Term))=>if((decide (s1.1>=0))&&(!s1.2.1))then(Zu p.W s1.1).bind λx3=>(Ze fuel (D.l06Maker.mk s1.2.1) 14 1 ([(D.Term.mk x3.Op x3.W x3.N x3.Name ([]:List D.Term)),x]:List D.Term)).bind λx4=>if(!x4.2.bad)then(get? mem s1.1).bind λx5=>(Ze fuel x4.2 17 p.W ([x4.1,x5,(D.Term.mk s1.2.2.1 s1.2.2.2.1 s1.2.2.2.2.1 s1.2.2.2.2.2.1 s1.2.2.2.2.2.2)]:List D.Term)).bind λx6=>some (.inl ((w64 (s1.1-1)),x6.2.bad,x6.1.Op,x6.1.W,x6.1.N,x6.1.Name,x6.1.Kids))else some (.inl ((w64 (s1.1-1)),x4.2.bad,s1.2.2.1,s1.2.2.2.1,s1.2.2.2.2.1,s1.2.2.2.2.2.1,s1.2.2.2.2.2.2))else some (.inr (s1.2.1,s1.2.2.1,s1.2.2.2.1,s1.2.2.2.2.1,s1.2.2.2.2.2.1,s1.2.2.2.2.2.2)):Int×Bool×T5->Option ((Int×Bool×T5)⊕(Bool×T5))) n ((j:Int)-1,false,tup5 t)=some (!(ldT p.W x mem j t).2,tup5 t')/\((ldT p.W x mem j t).2=true->t'=(ldT p.W x mem j t).1):=by
  intro j
  induction j with
  | zero=>
    intro t n ht _ hn;refine⟨t,Zr ?_ O,λ_=>rfl⟩;rfl
  | succ j ih=>
    intro t n ht hj hn;obtain⟨n,rfl⟩:∃m,n=m+1:=⟨n-1,by omega⟩;have hm6:=Y1 hp;have e1:((j+1:Nat):Int)-1=(j:Int):=by omega
    have eg:=Qk (l:=mem) (k:=(j:Int)) O O;have hw:=Qs hp (k:=(j:Int)) O O;have em:=WF (fuel:=fuel) (b:=false) (op:=14) (w:=1) (ks:=[kT p.W j,x]) (sml2f (Qe hw) hx);unfold kT at em;rw[e1];have stop:∀u:D.Term,∀i:Int,0<n->iterN (λ(s1:Int×Bool×Int×Int×Int×Str×(List D.Term))=>if((decide (s1.1>=0))&&(!s1.2.1))then(Zu p.W s1.1).bind λx3=>(Ze fuel (D.l06Maker.mk s1.2.1) 14 1 ([(D.Term.mk x3.Op x3.W x3.N x3.Name ([]:List D.Term)),x]:List D.Term)).bind λx4=>if(!x4.2.bad)then(get? mem s1.1).bind λx5=>(Ze fuel x4.2 17 p.W ([x4.1,x5,(D.Term.mk s1.2.2.1 s1.2.2.2.1 s1.2.2.2.2.1 s1.2.2.2.2.2.1 s1.2.2.2.2.2.2)]:List D.Term)).bind λx6=>some (.inl ((w64 (s1.1-1)),x6.2.bad,x6.1.Op,x6.1.W,x6.1.N,x6.1.Name,x6.1.Kids))else some (.inl ((w64 (s1.1-1)),x4.2.bad,s1.2.2.1,s1.2.2.2.1,s1.2.2.2.2.1,s1.2.2.2.2.2.1,s1.2.2.2.2.2.2))else some (.inr (s1.2.1,s1.2.2.1,s1.2.2.2.1,s1.2.2.2.2.1,s1.2.2.2.2.2.1,s1.2.2.2.2.2.2)):Int×Bool×T5->Option ((Int×Bool×T5)⊕(Bool×T5))) n (i,true,tup5 u)=some (true,tup5 u):=λu i h0=>by
      grind[Zr]
    have hd:decide ((j:Int)>=0)=true:=by simp
    by_cases c1:(mkT 14 1 0 [⟨0,p.W,(j:Int),⟨[]⟩,[]⟩,x]).2=true
    · have hf1:fine (mkT 14 1 0 [⟨0,p.W,(j:Int),⟨[]⟩,[]⟩,x]).1:=(YT c1).1
      have em2:=WF (fuel:=fuel) (b:=false) (op:=17) (w:=p.W) (ks:=[(mkT 14 1 0 [⟨0,p.W,(j:Int),⟨[]⟩,[]⟩,x]).1,rg mem j,t]) (sml3f hf1 (Qq hf O O).1 ht.1);have ecel:cel p.W (j:Int) x (rg mem j) t=mkT 17 p.W 0 [(mkT 14 1 0 [⟨0,p.W,(j:Int),⟨[]⟩,[]⟩,x]).1,rg mem j,t]:=by unfold cel kT;rw[ZfC c1]
      by_cases c2:(mkT 17 p.W 0 [(mkT 14 1 0 [⟨0,p.W,(j:Int),⟨[]⟩,[]⟩,x]).1,rg mem j,t]).2=true
      · obtain⟨t',h1,h2⟩:=ih (mkT 17 p.W 0 [(mkT 14 1 0 [⟨0,p.W,(j:Int),⟨[]⟩,[]⟩,x]).1,rg mem j,t]).1 n (YT c2) O O
        have hl:ldT p.W x mem (j+1) t=ldT p.W x mem j (mkT 17 p.W 0 [(mkT 14 1 0 [⟨0,p.W,(j:Int),⟨[]⟩,[]⟩,x]).1,rg mem j,t]).1:=by
          conv=>lhs;unfold ldT
          rw[ecel,ZfC c2]
        rw[hl];refine⟨t',?_,h2⟩;rw[<-h1];refine YB ?_;simp only[tup5,hd,ZgG,ZfR,Y9,Zf9,em,c1,ZfJ,ZhJ,ZgP,ZgG,eg,LG,em2,c2];rw[Zb]
      · have hl:ldT p.W x mem (j+1) t=(t0,false):=by
          conv=>lhs;unfold ldT
          rw[ecel,ZfD c2]
        have c2':(mkT 17 p.W 0 [(mkT 14 1 0 [⟨0,p.W,(j:Int),⟨[]⟩,[]⟩,x]).1,rg mem j,t]).2=false:=by simpa using c2
        rw[hl];refine⟨(mkT 17 p.W 0 [(mkT 14 1 0 [⟨0,p.W,(j:Int),⟨[]⟩,[]⟩,x]).1,rg mem j,t]).1,?_,λh=>by cases h⟩;rw[YB (s':=(w64 ((j:Int)-1),true,tup5 (mkT 17 p.W 0 [(mkT 14 1 0 [⟨0,p.W,(j:Int),⟨[]⟩,[]⟩,x]).1,rg mem j,t]).1)),stop _ _ O]
        · rfl
        · simp only[tup5,hd,ZgG,ZfR,Y9,Zf9,em,c1,ZfJ,ZhJ,ZgP,eg,LG,em2,c2',Zgl]
    · have c1':(mkT 14 1 0 [⟨0,p.W,(j:Int),⟨[]⟩,[]⟩,x]).2=false:=by simpa using c1
      have hl:ldT p.W x mem (j+1) t=(t0,false):=by
        conv=>lhs;unfold ldT
        have:cel p.W (j:Int) x (rg mem j) t=(t0,false):=by unfold cel kT;rw[ZfD c1]
        rw[this];rfl
      rw[hl];refine⟨t,?_,λh=>by cases h⟩;rw[YB (s':=(w64 ((j:Int)-1),true,tup5 t)),stop _ _ O]
      · rfl
      · simp only[tup5,hd,ZgG,ZfR,Y9,Zf9,em,c1',ZgP,Zio,ZfJ,ZfB,ZfK,Zgl]
def Zai{p:D.Program}{s:D.Path}{x:D.Term}(hp:progB p=true)(hm:(s.Mem.length:Int)=p.Mem)(hf:fw p.W s.Mem)(hx:fine x)(hc:x.Op=0->0<=x.N/\x.N<p.Mem):
  ∃t',XO fuel ⟨false⟩ p s x=some (t',⟨!(load p.W s.Mem x).2⟩)/\((load p.W s.Mem x).2=true->t'=(load p.W s.Mem x).1):=by
 have hm6:=Y1 hp;unfold XO load;by_cases c:x.Op=0
 ·simp_all[rg,ZfC,Qk]
 ·have e1:w64 (p.Mem-1)=((s.Mem.length-1:Nat):Int):=by grind[Zb]
  have e2:w64 (p.Mem-2)=((s.Mem.length-1:Nat):Int)-1:=by grind[Zb]
  obtain⟨t',h1,h2⟩:=Zd5 (fuel:=fuel) hp hm hf hx (s.Mem.length-1) (rg s.Mem ((s.Mem.length-1:Nat):Int)) fuel (Qq hf O O) O ag;rw[ZfD an,ZfD c,e1,e2,Qk O O];simp_all[Zf9,LG]
def Za6{p:D.Program}{s:D.Path}{x:D.Term}(hp:progB p=true)(hm:(s.Mem.length:Int)=p.Mem)(hf:fw p.W s.Mem)(hc:x.Op=0->0<=x.N/\x.N<p.Mem)(h:(load p.W s.Mem x).2=true):fine (load p.W s.Mem x).1/\(load p.W s.Mem x).1.W=p.W:=by
 have hm6:=Y1 hp;unfold load at h⊢;by_cases c:x.Op=0
 ·grind[Qq]
 ·grind[EX,Qq]
end Go.Proofs.YtjhiajehpjpibaaGreatDoor
end
section
namespace Go.Proofs.YtjhiajehpjpibaaGreatDoor
open Go.GL
set_option maxRecDepth 100000
variable{fuel:Nat}[FV fuel]
def Al{α:Type}{m1 m2:List α}{t:α}{i:Int}(h:i=(m1.length:Int)):get? (m1++t::m2) i=some t:=by
 simp_all[get?_nat]
def set_mid{α:Type}{m1 m2:List α}{t u:α}{i:Int}(h:i=(m1.length:Int)):set? (m1++t::m2) i u=some (m1++u::m2):=by
 simp_all[set?_nat]
noncomputable def stG(w:Int)(x v:D.Term):Nat->List D.Term->List D.Term×Bool
 |_,[]=>([],true)
 |i,t::l=>if(cel w (i:Int) x v t).2=true then((cel w (i:Int) x v t).1::(stG w x v (i+1) l).1,(stG w x v (i+1) l).2)else([],false)
theorem AB{w:Int}{x v:D.Term}:∀{l:List D.Term}{i:Nat},(stG w x v i l).2=true->(stG w x v i l).1.length=l.length
 |[],i,_=>rfl
 |t::l,i,h=>by
  unfold stG at h⊢;split at h
  ·rename_i c;rw[ZfC c];simp only[ZfS,AB (l:=l) (i:=i+1) h]
  ·cases h
theorem Zbv{w:Int}{x v:D.Term}:∀{l:List D.Term}{i:Nat},(stG w x v i l).2=true->fw w (stG w x v i l).1
 |[],i,_=>λt ht=>by cases ht
 | t::l,i,h=>by
  unfold stG at h⊢;split at h
  ·rename_i c;rw[ZfC c];intro y hy;rcases ZfY.1 hy with rfl|hy
   ·exact IB c
   ·exact Zbv (l:=l) (i:=i+1) h y hy
  ·cases h
theorem Ze7{p:D.Program}{mem x3:List D.Term}{x v:D.Term}(hp:progB p=true)(hm:(mem.length:Int)=p.Mem)(hf:fw p.W mem)(hx:fine x)(hv:fine v)(h3:len x3=(mem.length:Int)):∀(m2 m1 done rest:List D.Term)(n:Nat),mem=m1++m2->done.length=m1.length->rest.length=m2.length->m2.length<n->
    iterN (λ(s1:Int×(List D.Term))=>if(decide (s1.1<(len x3)))then(get? mem s1.1).bind λx4=>(Vr fuel p s1.1 x v x4).bind λx5=>if(!x5.2)then some (.inr (.inr (([]:List D.Term),false)))else(set? s1.2 s1.1 x5.1).bind λx6=>some (.inl ((w64 (s1.1+1)),x6))else some (.inr (.inl (s1.2))):Int×List D.Term->Option ((Int×List D.Term)⊕(List D.Term⊕(List D.Term×Bool))))
     n ((m1.length:Int),done++rest)=some (if(stG p.W x v m1.length m2).2=true then(.inl (done++(stG p.W x v m1.length m2).1):List D.Term⊕(List D.Term×Bool))else .inr ([],false)):=by
  have hm6:=Y1 hp;intro m2
  induction m2 with
  | nil=>
    intro m1 done rest n he hd hr hn;simp_all[Zhq,Zr,ZfD,stG]
  | cons t m2 ih=>
    intro m1 done rest n he hd hr hn;obtain⟨n,rfl⟩:∃m,n=m+1:=⟨n-1,by omega⟩;obtain⟨r,rest,rfl⟩:∃r l,rest=r::l:=by
      cases rest with
      |nil=>simp at hr
      |cons r l=>simp
    have hml:(mem.length:Int)=m1.length+(m2.length+1):=by rw[he];simp
    have ht:fine t/\t.W=p.W:=hf t (by rw[he];simp);have hg:get? mem (m1.length:Int)=some t:=by rw[he];exact Al rfl
    have ec:=Dl (fuel:=fuel) (p:=p) (k:=(m1.length:Int)) (x:=x) (a:=v) (b:=t) (Qs hp O O) hx hv ht.1;have hc:decide ((m1.length:Int)<len x3)=true:=by grind
    have e1:w64 ((m1.length:Int)+1)=((m1++[t]).length:Int):=by grind[Zb]
    unfold stG;by_cases c:(cel p.W (m1.length:Int) x v t).2=true
    · rw[ZfC c]
      have:=ih (m1++[t]) (done++[(cel p.W (m1.length:Int) x v t).1]) rest n (by rw[he];simp) (by simp[hd]) (by simpa using hr) (by simp at hn;omega);have el:(m1++[t]).length=m1.length+1:=by simp
      rw[el]at this;simp only[ZfO,Zgq]at this;rw[<-this];refine YB ?_;simp only[hc,hg,Zf9,ec,c,ZfR,ZfJ,ZfB,ZfK];rw[set_mid (by rw[hd])];simp only[Zf9,e1,el]
    · rw[ZfD c]
      refine Zr ?_ O;simp only[hc,hg,Zf9,ec,ZfR];rw[ZfC an];rfl
noncomputable def store(w:Int)(mem:List D.Term)(x v:D.Term):List D.Term×Bool:=if x.Op=0 then(mem.set x.N.toNat v,true)else if(stG w x v 0 mem).2=true then((stG w x v 0 mem).1,true)else([],false)
def Ba{p:D.Program}{s:D.Path}{x v:D.Term}(hp:progB p=true)(hm:(s.Mem.length:Int)=p.Mem)(hf:fw p.W s.Mem)(hx:fine x)(hv:fine v)(hc:x.Op=0->0<=x.N/\x.N<p.Mem):Rx fuel p s x v=some (store p.W s.Mem x v):=by
 have hm6:=Y1 hp;unfold Rx store ZJ;simp only[Zf9];by_cases c:x.Op=0
 ·obtain⟨n0,n1⟩:=hc c;rw[ZfC an,ZfC c,put_eq O n0 O];rfl
 ·obtain⟨x3,e3,l3⟩:∃x3,mk? p.Mem (D.Term.mk 0 0 0 ⟨[]⟩ ([]:List D.Term))=some x3/\x3.length=s.Mem.length:=by
   refine⟨List.replicate p.Mem.toNat (D.Term.mk 0 0 0 ⟨[]⟩ ([]:List D.Term)),?_,by simp;omega⟩;simp_all[mk?,ZfC,room]<;>grind
  have:=Ze7 (fuel:=fuel) hp hm hf hx hv (x3:=x3) (by grind[len]) s.Mem [] [] x3 fuel rfl rfl l3 ag;grind
theorem Ze6{p:D.Program}{mem:List D.Term}{x v:D.Term}(hp:progB p=true)(hm:(mem.length:Int)=p.Mem)(hf:fw p.W mem)(hx:fine x)(hv:fine v):∀(m2 m1 done rest:List D.Term)(n:Nat),mem=m1++m2->done.length=m1.length->rest.length=m2.length->m2.length+1<n->
    ∃l',iterN (λ(s1:Int×(List D.Term)×Bool)=>if((decide (s1.1<p.Mem))&&(!s1.2.2))then(Zu p.W s1.1).bind λx3=>(Ze fuel (D.l06Maker.mk s1.2.2) 14 1 ([(D.Term.mk x3.Op x3.W x3.N x3.Name ([]:List D.Term)),x]:List D.Term)).bind λx4=>if(!x4.2.bad)then(get? mem s1.1).bind λx5=>(Ze fuel x4.2 17 p.W ([x4.1,v,x5]:List D.Term)).bind λx6=>(set? s1.2.1 s1.1 x6.1).bind λx7=>some (.inl ((w64 (s1.1+1)),x7,x6.2.bad))else some (.inl ((w64 (s1.1+1)),s1.2.1,x4.2.bad))else some (.inr (s1.2.1,s1.2.2)):Int×List D.Term×Bool->Option ((Int×List D.Term×Bool)⊕(List D.Term×Bool)))
     n ((m1.length:Int),done++rest,false)=some (l',!(stG p.W x v m1.length m2).2)/\l'.length=mem.length/\((stG p.W x v m1.length m2).2=true->l'=done++(stG p.W x v m1.length m2).1):=by
  have hm6:=Y1 hp;intro m2
  induction m2 with
  | nil=>
    intro m1 done rest n he hd hr hn;have:rest=[]:=Zhq.1 hr;subst this;have hml:(m1.length:Int)=mem.length:=by rw[he];simp
    refine⟨done,?_,by omega,λ_=>by simp[stG]⟩;refine Zr ?_ O;simp_all[ZfD,stG]
  | cons t m2 ih=>
    intro m1 done rest n he hd hr hn;obtain⟨n,rfl⟩:∃m,n=m+1:=⟨n-1,by omega⟩;obtain⟨r,rest,rfl⟩:∃r l,rest=r::l:=by
      cases rest with
      |nil=>simp at hr
      |cons r l=>simp
    simp only[ZfS]at hr hn;have hml:(mem.length:Int)=m1.length+(m2.length+1):=by rw[he];simp
    have hmn:mem.length=m1.length+(m2.length+1):=by omega
    have ht:fine t/\t.W=p.W:=hf t (by rw[he];simp);have hg:get? mem (m1.length:Int)=some t:=by rw[he];exact Al rfl
    have hw:=Qs hp (k:=(m1.length:Int)) O O;have em:=WF (fuel:=fuel) (b:=false) (op:=14) (w:=1) (ks:=[kT p.W m1.length,x]) (sml2f (Qe hw) hx);unfold kT at em;have hc:decide ((m1.length:Int)<p.Mem)=true:=by simp;omega
    have e1:w64 ((m1.length:Int)+1)=((m1++[t]).length:Int):=by rw[Zb];simp
    have el:(m1++[t]).length=m1.length+1:=by simp
    have stop:∀u:List D.Term,∀i:Int,0<n->iterN (λ(s1:Int×(List D.Term)×Bool)=>if((decide (s1.1<p.Mem))&&(!s1.2.2))then(Zu p.W s1.1).bind λx3=>(Ze fuel (D.l06Maker.mk s1.2.2) 14 1 ([(D.Term.mk x3.Op x3.W x3.N x3.Name ([]:List D.Term)),x]:List D.Term)).bind λx4=>if(!x4.2.bad)then(get? mem s1.1).bind λx5=>(Ze fuel x4.2 17 p.W ([x4.1,v,x5]:List D.Term)).bind λx6=>(set? s1.2.1 s1.1 x6.1).bind λx7=>some (.inl ((w64 (s1.1+1)),x7,x6.2.bad))else some (.inl ((w64 (s1.1+1)),s1.2.1,x4.2.bad))else some (.inr (s1.2.1,s1.2.2)):Int×List D.Term×Bool->Option ((Int×List D.Term×Bool)⊕(List D.Term×Bool))) n (i,u,true)=some (u,true):=λu i h0=>by
      refine Zr ?_ h0;simp
    by_cases c1:(mkT 14 1 0 [⟨0,p.W,(m1.length:Int),⟨[]⟩,[]⟩,x]).2=true
    · have hf1:fine (mkT 14 1 0 [⟨0,p.W,(m1.length:Int),⟨[]⟩,[]⟩,x]).1:=(YT c1).1
      have em2:=WF (fuel:=fuel) (b:=false) (op:=17) (w:=p.W) (ks:=[(mkT 14 1 0 [⟨0,p.W,(m1.length:Int),⟨[]⟩,[]⟩,x]).1,v,t]) (sml3f hf1 hv ht.1);have ecel:cel p.W (m1.length:Int) x v t=mkT 17 p.W 0 [(mkT 14 1 0 [⟨0,p.W,(m1.length:Int),⟨[]⟩,[]⟩,x]).1,v,t]:=by unfold cel kT;rw[ZfC c1]
      by_cases c2:(mkT 17 p.W 0 [(mkT 14 1 0 [⟨0,p.W,(m1.length:Int),⟨[]⟩,[]⟩,x]).1,v,t]).2=true
      · have hl:stG p.W x v m1.length (t::m2)=((mkT 17 p.W 0 [(mkT 14 1 0 [⟨0,p.W,(m1.length:Int),⟨[]⟩,[]⟩,x]).1,v,t]).1::(stG p.W x v (m1.length+1) m2).1,(stG p.W x v (m1.length+1) m2).2):=by
          conv=>lhs;unfold stG
          rw[ecel,ZfC c2]
        obtain⟨l',h1,h2,h3⟩:=ih (m1++[t]) (done++[(mkT 17 p.W 0 [(mkT 14 1 0 [⟨0,p.W,(m1.length:Int),⟨[]⟩,[]⟩,x]).1,v,t]).1]) rest n (by rw[he];simp) (by simp[hd]) O O;rw[el]at h1 h3;simp only[ZfO,Zgq]at h1 h3;rw[hl];refine⟨l',?_,h2,h3⟩;rw[<-h1];refine YB ?_;simp only[hc,ZgG,ZfR,Y9,Zf9,em,c1,ZfJ,ZhJ,ZgP,hg,em2,c2];rw[set_mid (by rw[hd])];simp only[Zf9,e1,el]
      · have c2':(mkT 17 p.W 0 [(mkT 14 1 0 [⟨0,p.W,(m1.length:Int),⟨[]⟩,[]⟩,x]).1,v,t]).2=false:=by simpa using c2
        have hl:stG p.W x v m1.length (t::m2)=([],false):=by
          conv=>lhs;unfold stG
          rw[ecel,ZfD c2]
        rw[hl];refine⟨done++(mkT 17 p.W 0 [(mkT 14 1 0 [⟨0,p.W,(m1.length:Int),⟨[]⟩,[]⟩,x]).1,v,t]).1::rest,?_,by simp;omega,λh=>by cases h⟩;rw[YB (s':=(w64 ((m1.length:Int)+1),done++(mkT 17 p.W 0 [(mkT 14 1 0 [⟨0,p.W,(m1.length:Int),⟨[]⟩,[]⟩,x]).1,v,t]).1::rest,true)),stop _ _ O]
        · rfl
        · simp only[hc,ZgG,ZfR,Y9,Zf9,em,c1,ZfJ,ZhJ,ZgP,hg,em2,c2',Zgl]
          rw[set_mid (by rw[hd])];simp only[Zf9]
    · have c1':(mkT 14 1 0 [⟨0,p.W,(m1.length:Int),⟨[]⟩,[]⟩,x]).2=false:=by simpa using c1
      have hl:stG p.W x v m1.length (t::m2)=([],false):=by
        conv=>lhs;unfold stG
        have:cel p.W (m1.length:Int) x v t=(t0,false):=by unfold cel kT;rw[ZfD c1]
        rw[this];rfl
      rw[hl];refine⟨done++r::rest,?_,by simp;omega,λh=>by cases h⟩;rw[YB (s':=(w64 ((m1.length:Int)+1),done++r::rest,true)),stop _ _ O]
      · rfl
      · simp only[hc,ZgG,ZfR,Y9,Zf9,em,c1',ZgP,Zio,ZfJ,ZfB,ZfK,Zgl]
def Ci{p:D.Program}{s:D.Path}{x v:D.Term}(hp:progB p=true)(hm:(s.Mem.length:Int)=p.Mem)(hf:fw p.W s.Mem)(hx:fine x)(hv:fine v)(hc:x.Op=0->0<=x.N/\x.N<p.Mem):
  ∃l',X8 fuel ⟨false⟩ p s x v=some (l',⟨!(store p.W s.Mem x v).2⟩)/\l'.length=s.Mem.length/\((store p.W s.Mem x v).2=true->l'=(store p.W s.Mem x v).1):=by
 have hm6:=Y1 hp;unfold X8 store;rw[ZeJ O];by_cases c:x.Op=0
 ·simp_all[ZfC,Bl]
 ·obtain⟨l',h1,h2,h3⟩:=Ze6 (fuel:=fuel) hp hm hf hx hv s.Mem [] [] s.Mem fuel rfl rfl rfl ag;grind
def Bi{p:D.Program}{s:D.Path}{x v:D.Term}(hf:fw p.W s.Mem)(hv:fine v/\v.W=p.W)(h:(store p.W s.Mem x v).2=true):fw p.W (store p.W s.Mem x v).1/\(store p.W s.Mem x v).1.length=s.Mem.length:=by
 unfold store at h⊢;by_cases c:x.Op=0
 ·simp_all[ZfC,ZbK]
 ·by_cases d:(stG p.W x v 0 s.Mem).2=true
  all_goals simp_all[ZfC,Zbv,AB,ZfD]
end Go.Proofs.YtjhiajehpjpibaaGreatDoor
end
section
namespace Go.Proofs.YtjhiajehpjpibaaGreatDoor
open Go.GL
set_option maxRecDepth 100000
variable{fuel:Nat}[FV fuel]
structure insF(w n:Int)(i:D.Ins):Prop where
 op:1<=i.Op/\i.Op<=14
 a:i.Op≠9->i.Op≠11->i.Op≠12->i.Op≠14->0<=i.A/\i.A<4
 b:i.Op=2\/i.Op=3\/i.Op=7\/i.Op=8->0<=i.B/\i.B<4
 v:i.Op=1->wordB w i.B=true
 c:i.Op=3->3<=i.C/\i.C<=16
 t:i.Op=9\/i.Op=10\/i.Op=11->0<=i.B/\i.B<=n
def Zfv(a:Int):YR a=some (decide (0<=a/\a<4)):=by
 unfold YR Zc;by_cases h:0<=a/\a<4
 ·have h1:=h.1;have h2:a<=3:=by omega
  simp[h1,h2,h]
 ·have:¬(0<=a/\a<=3):=by omega
  simp only[decide_eq_false h,Option.some.injEq];simp;omega
theorem ZaI{w n:Int}{i:D.Ins}(h:insB w n i=true):insF w n i:=by
 unfold insB WL Zc at h;simp only[Zfv,YM,Zf9]at h;by_cases c:1<=i.Op/\i.Op<=14
 ·have:i.Op=1\/i.Op=2\/i.Op=3\/i.Op=4\/i.Op=5\/i.Op=6\/i.Op=7\/i.Op=8\/i.Op=9\/i.Op=10\/i.Op=11\/i.Op=12\/i.Op=13\/i.Op=14:=by omega
  rcases this with c|c|c|c|c|c|c|c|c|c|c|c|c|c<;>simp[c,Zc]at h
  all_goals(by_cases ha:0<=i.A/\i.A<4)
  all_goals(by_cases hb:0<=i.B/\i.B<4)
  all_goals(try simp[ha,hb]at h)
  all_goals(first
   |(exfalso;omega)
   |exact⟨by omega,λ_ _ _ _=>by omega,λ_=>by omega,λe=>by first|omega|exact h.1|exact h.2.1|simp_all,λ_=>by omega,λ_=>by omega⟩)
 ·exfalso;have n1:∀k:Int,1<=k->k<=14->i.Op≠k:=λk h1 h2 e=>c O;simp[n1 1,n1 2,n1 3,n1 4,n1 5,n1 6,n1 7,n1 8,n1 9,n1 10,n1 11,n1 12,n1 13,n1 14]at h
def Jj{p:D.Program}(hp:progB p=true){i:D.Ins}(hi:i∈p.Code):insF p.W p.Code.length i:=by
 unfold progB at hp;simp only[ZfF,ZfV]at hp;exact ZaI (hp.2 i hi)
noncomputable def qad(p:D.Program)(x:D.Term):D.Term×Bool×Bool:=
 if(mkT 15 1 0 [x,kT p.W p.Mem]).2=true then((mkT 1 1 0 [(mkT 15 1 0 [x,kT p.W p.Mem]).1]).1,true,(mkT 1 1 0 [(mkT 15 1 0 [x,kT p.W p.Mem]).1]).2)else(t0,true,false)
noncomputable def qze(p:D.Program)(x:D.Term):D.Term×Bool×Bool:=((mkT 14 1 0 [kT p.W 0,x]).1,true,(mkT 14 1 0 [kT p.W 0,x]).2)
noncomputable def qst(p:D.Program)(rs:List D.Term)(i:D.Ins):D.Term×Bool×Bool:=
 if i.Op=10\/i.Op=13 then qze p (rg rs i.A)
 else if i.Op=3 then(if i.C=6\/i.C=7 then qze p (rg rs i.B)else(t0,false,true))
 else if i.Op=7 then qad p (rg rs i.B)
 else if i.Op=8 then qad p (rg rs i.A)
 else(t0,false,true)
def Qt{p:D.Program}(hp:progB p=true):wordB p.W 0=true:=Qs hp O (by have:=Y1 hp;omega)
def Dq{p:D.Program}(hp:progB p=true){x:D.Term}(hx:fine x):Z4 fuel 14 1 0 [⟨0,p.W,0,⟨[]⟩,[]⟩,x]=some ((qze p x).1,(qze p x).2.2):=Tw (fuel:=fuel) (sml2f (Qe (Qt hp)) hx)
def IV{p:D.Program}{s:D.Path}{i:D.Ins}(hp:progB p=true)(hs:okP p s)(hi:insF p.W p.Code.length i):Tt fuel p s i=some (qst p s.Regs i):=by
 have hz:=Qt hp;have hm:=(Y1 hp).1;have hr:∀k:Int,0<=k/\k<4->get? s.Regs k=some (rg s.Regs k)/\fine (rg s.Regs k):=λk hk=>⟨Qk hk.1 az,(Qq hs.rf hk.1 az).1⟩;have had:∀x:D.Term,fine x->((Z4 fuel 15 1 0 [x,⟨0,p.W,p.Mem,⟨[]⟩,[]⟩]).bind λx8=>if(!x8.2)then some ((D.Term.mk 0 0 0 ⟨[]⟩ ([]:List D.Term)),true,false)else(Z4 fuel 1 1 0 ([x8.1]:List D.Term)).bind λx9=>some (x9.1,true,x9.2))=some (qad p x):=by
  intro x hx;have:=Tw (fuel:=fuel) (op:=15) (w:=1) (m:=0) (sml2f hx (Qe hm));unfold kT at this;rw[this];simp only[Zf9];unfold qad kT;by_cases c:(mkT 15 1 0 [x,⟨0,p.W,p.Mem,⟨[]⟩,[]⟩]).2=true
  ·rw[ZfC c,ZfD (by rw[c];simp),Tw (sml1f (YT c).1)];rfl
  ·rw[ZfD c,ZfC an];rfl
 unfold Tt qst;rw[YI hz];simp only[Zf9];by_cases c1:i.Op=10\/i.Op=13
 ·obtain⟨g,f⟩:=hr i.A (hi.a O O O O);rw[ZfC aP,ZfC c1,g];simp only[Zf9];rw[Dq hp f];rfl
 ·rw [ZfD aP,ZfD c1]
  by_cases c2:i.Op=3
  ·rw[ZfC (by simpa using c2),ZfC c2];by_cases c3:i.C=6\/i.C=7
   ·obtain⟨g,f⟩:=hr i.B (hi.b O);rw[ZfD aa,ZfC c3,g];simp only[Zf9];rw[Dq hp f];rfl
   ·rw[ZfC aa,ZfD c3];rfl
  ·rw[ZfD (by simpa using c2),ZfD c2];by_cases c4:i.Op=7
   ·obtain⟨g,f⟩:=hr i.B (hi.b O);rw[ZfC (by simpa using c4),ZfC c4];simp only[Zf9];rw[g,YI hm];simp only[Zf9];exact had _ f
   ·rw[ZfD (by simpa using c4),ZfD c4];by_cases c5:i.Op=8
    ·obtain⟨g,f⟩:=hr i.A (hi.a O O O O);rw[ZfC (by simpa using c5),ZfC c5];simp only[Zf9];rw[g,YI hm];simp only[Zf9];exact had _ f
    ·rw[ZfD (by simpa using c5),ZfD c5];rfl
def He{p:D.Program}{s:D.Path}{i:D.Ins}(hp:progB p=true)(hs:okP p s)(hi:insF p.W p.Code.length i):
  ∃t',Xl fuel ⟨false⟩ p s i=some (t',(qst p s.Regs i).2.1,⟨!(qst p s.Regs i).2.2⟩)/\((qst p s.Regs i).2.2=true->t'=(qst p s.Regs i).1):=by
 have hz:=Qt hp;have hm:=(Y1 hp).1;have hr:∀k:Int,0<=k/\k<4->get? s.Regs k=some (rg s.Regs k)/\fine (rg s.Regs k):=λk hk=>⟨Qk hk.1 az,(Qq hs.rf hk.1 az).1⟩;have hqz:∀x:D.Term,fine x->Ze fuel ⟨false⟩ 14 1 [⟨0,p.W,0,⟨[]⟩,[]⟩,x]=some ((qze p x).1,⟨!(qze p x).2.2⟩):=λx hx=>by
  rw[WF (b:=false) (sml2f (a:=⟨0,p.W,0,⟨[]⟩,[]⟩) (Qe hz) hx)];rfl
 have had:∀x:D.Term,fine x->∃t',((Ze fuel ⟨false⟩ 15 1 [x,⟨0,p.W,p.Mem,⟨[]⟩,[]⟩]).bind λx9=>if x9.2.bad then some (x9.1,true,x9.2)else(Ze fuel x9.2 1 1 ([x9.1]:List D.Term)).bind λx10=>some (x10.1,true,x10.2))=some (t',true,⟨!(qad p x).2.2⟩)/\(qad p x).2.1=true/\((qad p x).2.2=true->t'=(qad p x).1):=by
  intro x hx;rw[WF (b:=false) (sml2f (b:=⟨0,p.W,p.Mem,⟨[]⟩,[]⟩) hx (Qe hm))];simp only[Zf9];unfold qad kT;by_cases c:(mkT 15 1 0 [x,⟨0,p.W,p.Mem,⟨[]⟩,[]⟩]).2=true
  ·refine⟨(mkT 1 1 0 [(mkT 15 1 0 [x,⟨0,p.W,p.Mem,⟨[]⟩,[]⟩]).1]).1, ?_,by rw[ZfC c],λ_=>by rw[ZfC c]⟩;rw[ZfD (by rw[c];simp),c,ZfC rfl];rw[show(false|| !true)=false from rfl,WF (b:=false) (sml1f (YT c).1)];rfl
  ·refine⟨(mkT 15 1 0 [x,⟨0,p.W,p.Mem,⟨[]⟩,[]⟩]).1, ?_,by rw[ZfD c],λh=>by rw[ZfD c]at h;cases h⟩;have c':(mkT 15 1 0 [x,⟨0,p.W,p.Mem,⟨[]⟩,[]⟩]).2=false:=by simpa using c
   rw[c',ifp,ifn];rfl
 unfold Xl qst;rw[Y9];simp only[Zf9];by_cases c1:i.Op=10\/i.Op=13
 ·obtain⟨g,f⟩:=hr i.A (hi.a O O O O);rw[ZfC aP,ZfC c1,g];simp only[Zf9];rw[hqz _ f];exact⟨_,rfl,λ_=>rfl⟩
 ·rw [ZfD aP,ZfD c1]
  by_cases c2:i.Op=3
  ·rw[ZfC c2];by_cases c3:i.C=6\/i.C=7
   ·obtain⟨g,f⟩:=hr i.B (hi.b O);rw[ZfC aa,ZfC c3,g];simp only[Zf9];rw[hqz _ f];exact⟨_,rfl,λ_=>rfl⟩
   ·rw[ZfD aa,ZfD aa,ZfD c3];exact⟨_,rfl,λ_=>rfl⟩
  ·rw[ZfD aa,ZfD c2];by_cases c4:i.Op=7
   ·obtain⟨g,f⟩:=hr i.B (hi.b O);rw[ZfC aa,ZfC c4,g,Y9];simp only[Zf9];rw[ZfD aa];obtain⟨t',h1,h2,h3⟩:=had _ f;rw[h1,h2];exact⟨t',rfl,h3⟩
   ·rw[ZfD c4];by_cases c5:i.Op=8
    ·obtain⟨g,f⟩:=hr i.A (hi.a O O O O);obtain⟨g2,f2⟩:=hr i.B (hi.b O);rw[ZfC aa,ZfC c5,g,g2,Y9];simp only[Zf9];rw[ZfC aa];obtain⟨t',h1,h2,h3⟩:=had _ f;rw[h1,h2];exact⟨t',rfl,h3⟩
    ·rw[ZfD aa,ZfD c5];exact⟨_,rfl,λ_=>rfl⟩
end Go.Proofs.YtjhiajehpjpibaaGreatDoor
end
section
namespace Go.Proofs.YtjhiajehpjpibaaGreatDoor
open Go.GL
set_option maxRecDepth 100000
variable{fuel:Nat}[FV fuel]
def DU{op w m:Int}{ks:List D.Term}(h:(mkT op w m ks).2=true)(hne:ks≠[])(hl:ks.length<=3)(hc:(ks.all λx=>x.Op==0)=true):∃v,XC ⟨op,w,m,⟨[]⟩,ks⟩ (ks.map (·.N))=some v/\mkT op w m ks=(kT w v,true):=by
 unfold mkT at h⊢;split at h
 ·rename_i c;obtain⟨a,b⟩:=RZ c;obtain⟨v,hv,h1,h2⟩:=known a hne hc;have e:ZP fuel0 ⟨op,w,m,⟨[]⟩,ks⟩=some (kT w v):=by
   obtain⟨k,hk,hk2⟩:∃k,fuel0=k+1/\1000<=k:=⟨fuel0-1,by rfl,by simp[FV.le,fuel0]⟩;rw[hk,ZP,ZfD ak,Nn (ks:=ks) (n:=k) O O,hc];simp only[Zf9,ZfR,h2 k O,YI hv];rfl
  simp_all[simp1]
 ·cases h
def Gu{p:D.Program}{x:D.Term}(hp:progB p=true)(hx:fine x)(hw:x.W=p.W)(h0:x.Op=0)(hok:(qad p x).2.2=true)(hn:¬((qad p x).1.Op=0/\(qad p x).1.N=1)):0<=x.N/\x.N<p.Mem:=by
 obtain⟨ex,vx⟩:=YK hx.1 (by simp[h0]);have hm:=Y1 hp;have hx0:0<=x.N:=by
  grind[Yp]
 refine⟨hx0,?_⟩;unfold qad at hok hn;split at hok
 ·rename_i c;obtain⟨v,a1,a2⟩:=DU c U U (by simp[h0,kT]);rw[a2]at hok hn;obtain⟨u,b1,b2⟩:=DU hok U U (by simp[kT]);rw[b2]at hn;refine Decidable.byContradiction λhlt=>hn ⟨rfl,?_⟩;have ev:v=0:=by
   have:XC ⟨15,1,0,⟨[]⟩,[x,kT p.W p.Mem]⟩ ([x,kT p.W p.Mem].map (·.N))=some 0:=by
    have e1:ZE x.W x.N=some true:=by grind[YM]
    have e2:ZE x.W p.Mem=some true:=by rw[YM,hw,hm.1]
    simp[XC,Zc,kT,get?,ZX,e1,e2,Y8,hlt]
   grind
  subst ev;exact(Option.some.inj b1).symm
 ·cases hok
def QL{p:D.Program}{s:D.Path}{i:D.Ins}(hp:progB p=true)(hs:okP p s)(hi:insF p.W p.Code.length i)(hok:(qst p s.Regs i).2.2=true)(hn:¬((qst p s.Regs i).1.Op=0/\(qst p s.Regs i).1.N=1)):
  (i.Op=7->(rg s.Regs i.B).Op=0->0<=(rg s.Regs i.B).N/\(rg s.Regs i.B).N<p.Mem)/\(i.Op=8->(rg s.Regs i.A).Op=0->0<=(rg s.Regs i.A).N/\(rg s.Regs i.A).N<p.Mem):=by
 constructor
 ·intro c h0;unfold qst at hok hn;rw[ifn,ifn,ZfC c]at hok hn;obtain⟨b0,b1⟩:=hi.b O;have:=Qq hs.rf b0 az;exact Gu hp this.1 this.2 h0 hok hn
 ·intro c h0;unfold qst at hok hn;rw[ifn,ifn,ifn,ZfC c]at hok hn;obtain⟨b0,b1⟩:=hi.a O O O O;have:=Qq hs.rf b0 az;exact Gu hp this.1 this.2 h0 hok hn
end Go.Proofs.YtjhiajehpjpibaaGreatDoor
end
section
namespace Go.Proofs.YtjhiajehpjpibaaGreatDoor
open Go.GL
set_option maxRecDepth 100000
variable{fuel:Nat}[FV fuel]
def rwd(c w:Int):Int:=if 14<=c then 1 else w
def Ip{c w:Int}(hw:1<=w/\w<=16)(hc:1<=c/\c<=16):Wv c w=some (rwd c w):=by
 grind[Wv,Zc,rwd]
def ZcP{c w:Int}(hw:1<=w/\w<=16)(hc:1<=c/\c<=16):VG c w=some (rwd c w):=by
 grind[VG,ZK,rwd]
noncomputable def opd(p:D.Program)(c:Int)(a b:D.Term):D.Term×Bool:=
 if(mkT c (rwd c p.W) 0 [a,b]).2=true/\14<=c then mkT 20 p.W 0 [(mkT c (rwd c p.W) 0 [a,b]).1]else mkT c (rwd c p.W) 0 [a,b]
def Zbt{p:D.Program}{c:Int}{a b:D.Term}(h:(opd p c a b).2=true):fine (opd p c a b).1/\(opd p c a b).1.W=p.W:=by
 unfold opd at h⊢;split at h
 ·simp_all[ZfC,YT]
 simp_all[ZfD,YT,trans,rwd]
def Zb6{p:D.Program}{c:Int}{a b:D.Term}(hp:progB p=true)(hc:3<=c/\c<=16)(ha:fine a)(hb:fine b):Tp fuel p c a b=some (opd p c a b):=by
 have hm:=Y1 hp;unfold Tp opd;rw[ZcP O O];simp only[Zf9];rw[Tw (sml2f ha hb)];simp only[Zf9];by_cases h:(mkT c (rwd c p.W) 0 [a,b]).2=true
 ·by_cases h14:14<=c
  ·rw[ZfD ah,ZfC ⟨h,h14⟩,Tw (sml1f (YT h).1)];rfl
  grind
 grind
def ZcD{p:D.Program}{c:Int}{a b:D.Term}(hp:progB p=true)(hc:3<=c/\c<=16)(ha:fine a)(hb:fine b){β:Type}(f:D.Term->D.l06Maker->Option β):
  ((Wv c p.W).bind λx8=>(Ze fuel ⟨false⟩ c x8 [a,b]).bind λx11=>if((decide (c>=14))&&(!x11.2.bad))then(Ze fuel x11.2 20 p.W ([x11.1]:List D.Term)).bind λx12=>f x12.1 x12.2 else f x11.1 x11.2)=f (opd p c a b).1 ⟨!(opd p c a b).2⟩:=by
 have hm:=Y1 hp;rw[Ip O O];simp only[Zf9];rw[WF (sml2f ha hb)];simp only[Zf9];unfold opd;by_cases h:(mkT c (rwd c p.W) 0 [a,b]).2=true
 ·by_cases h14:14<=c
  ·rw[ZfC ah,ZfC ⟨h,h14⟩,h,show(false|| !true)=false from rfl,WF (sml1f (YT h).1)];rfl
  grind
 simp_all
def Za4{k:Int}(h0:0<=k)(h9:k<=9):Yv fuel k=cat? (strOf [Byt.mk (IntKind.u8.wrap (w64 (48+k)))]) ⟨[]⟩:=by
 obtain⟨n,hn⟩:∃n,fuel=n+2:=⟨fuel-2,by have:=FV.le (n:=fuel);omega⟩;simp_all[Yv,ZfD,Zr,Zf9,Vn]
def inT(w k:Int):D.Term:=⟨22,w,0,if k=0 then⟨[105,48]⟩else if k=1 then⟨[105,49]⟩else⟨[105,50]⟩,[]⟩
def Zew{p:D.Program}{k:Int}(h0:0<=k)(h2:k<=2):Tu fuel p k=some (inT p.W k):=by
 unfold Tu inT;rw[Za4 h0 O];have:k=0\/k=1\/k=2:=by omega
 rcases this with rfl|rfl|rfl
 all_goals rfl
def Zed{p:D.Program}(hp:progB p=true){k:Int}(h0:0<=k)(h2:k<=2):((Y6 k).bind λx12=>(cat? ⟨[105]⟩ x12).bind λx13=>VR fuel p.W x13)=some (inT p.W k):=by
 have hm:=Y1 hp;have hw:ZK p.W=some true:=by
  grind[ZK]
 have:k=0\/k=1\/k=2:=by omega
 have hv:∀s:Str,s.bytes.length<=100->nameB s=true->VR fuel p.W s=some ⟨22,p.W,0,s,[]⟩:=λs hl hn=>by
  unfold VR;rw[hw];rw[GM O ag,hn];rfl
 rcases this with rfl|rfl|rfl
 ·rw[show Y6 0=some ⟨[48]⟩from by decide+kernel];simp only[Zf9];rw[show cat? ⟨[105]⟩ ⟨[48]⟩=some ⟨[105,48]⟩from by rfl];simp only[Zf9];rw[hv _ au ap];rfl
 ·rw[show Y6 1=some ⟨[49]⟩from by decide+kernel];simp only[Zf9];rw[show cat? ⟨[105]⟩ ⟨[49]⟩=some ⟨[105,49]⟩from by rfl];simp only[Zf9];rw[hv _ au ap];rfl
 ·rw[show Y6 2=some ⟨[50]⟩from by decide+kernel];simp only[Zf9];rw[show cat? ⟨[105]⟩ ⟨[50]⟩=some ⟨[105,50]⟩from by rfl];simp only[Zf9];rw[hv _ au ap];rfl
def Zcm{p:D.Program}(hp:progB p=true){k:Int}:fine (inT p.W k)/\(inT p.W k).W=p.W:=by
 have hm:=Y1 hp;refine⟨⟨?_,by simp[inT,Xk,Vp],by rfl⟩,rfl⟩;have w1:1<=p.W:=by omega
 have w2:p.W<=16:=by omega
 have hn:nameB (inT p.W k).Name=true:=by
  unfold inT;by_cases c:k=0
  ·simp only[c,ZfR];rfl
  ·by_cases d:k=1
   ·simp only[d,ZfR];rfl
   ·simp only[c,d,ZfK];rfl
 simp_all[X3,Ye,locB,shB,inT]
end Go.Proofs.YtjhiajehpjpibaaGreatDoor
end
section
namespace Go.Proofs.YtjhiajehpjpibaaGreatDoor
open Go.GL
set_option maxRecDepth 100000
variable{fuel:Nat}[FV fuel]
def stk(p:D.Program)(s:D.Path)(i:D.Ins):Int:=
 if i.Op=5/\s.In=p.In then 3 else if i.Op=6/\s.Out.length=6 then 4 else if i.Op=11/\s.Stack.length=3 then 7 else if i.Op=12/\s.Stack.length=0 then 7 else 0
noncomputable def flw(p:D.Program)(s:D.Path)(i:D.Ins):D.Path×Bool:=
 if i.Op=1 then({s with Pc:=s.Pc+1,Regs:=s.Regs.set i.A.toNat (kT p.W i.B)},true)
 else if i.Op=2 then({s with Pc:=s.Pc+1,Regs:=s.Regs.set i.A.toNat (rg s.Regs i.B)},true)
 else if i.Op=3 then({s with Pc:=s.Pc+1,Regs:=s.Regs.set i.A.toNat (opd p i.C (rg s.Regs i.A) (rg s.Regs i.B)).1},(opd p i.C (rg s.Regs i.A) (rg s.Regs i.B)).2)
 else if i.Op=4 then({s with Pc:=s.Pc+1,Regs:=s.Regs.set i.A.toNat (mkT 1 p.W 0 [rg s.Regs i.A]).1},(mkT 1 p.W 0 [rg s.Regs i.A]).2)
 else if i.Op=5 then({s with Pc:=s.Pc+1,Regs:=s.Regs.set i.A.toNat (inT p.W s.In),In:=s.In+1},true)
 else if i.Op=6 then({s with Pc:=s.Pc+1,Out:=s.Out++[rg s.Regs i.A]},true)
 else if i.Op=7 then({s with Pc:=s.Pc+1,Regs:=s.Regs.set i.A.toNat (load p.W s.Mem (rg s.Regs i.B)).1},(load p.W s.Mem (rg s.Regs i.B)).2)
 else if i.Op=8 then({s with Pc:=s.Pc+1,Mem:=(store p.W s.Mem (rg s.Regs i.A) (rg s.Regs i.B)).1},(store p.W s.Mem (rg s.Regs i.A) (rg s.Regs i.B)).2)
 else if i.Op=9 then({s with Pc:=i.B},true)
 else if i.Op=11 then({s with Pc:=i.B,Stack:=s.Stack++[s.Pc+1]},true)
 else if i.Op=12 then({s with Pc:=(s.Stack[s.Stack.length-1]?).getD 0,Stack:=s.Stack.take (s.Stack.length-1)},true)
 else if i.Op=14 then({s with Code:=1},true)
 else({s with Pc:=s.Pc+1},true)
def AV{l:List Int}(h:0<l.length)(h9:l.length<=9):get? l (w64 (len l-1))=some ((l[l.length-1]?).getD 0)/\cut? l 0 (w64 (len l-1))=some (l.take (l.length-1)):=by
 have e:w64 (len l-1)=((l.length-1:Nat):Int):=by rw[Za,Zb];omega
 rw[e];constructor
 ·rw[get?_nat,ZfA O];rfl
 ·unfold cut?;rw[ifp];simp
def Zd8{l:List Int}(h:l.length<=100):Zg l=some l:=by
 unfold Zg;rw[Zb2 h];rfl
def DY{p:D.Program}{s:D.Path}{i:D.Ins}(hp:progB p=true)(hs:okP p s)(hi:insF p.W p.Code.length i)(hpc:s.Pc<p.Code.length)(hk:stk p s i=0)
  (h7:i.Op=7->(rg s.Regs i.B).Op=0->0<=(rg s.Regs i.B).N/\(rg s.Regs i.B).N<p.Mem)(h8:i.Op=8->(rg s.Regs i.A).Op=0->0<=(rg s.Regs i.A).N/\(rg s.Regs i.A).N<p.Mem):TU fuel p s i=some (flw p s i):=by
 have hm:=Y1 hp;have hl:=hs.rl;have hcl:(p.Code.length:Int)<=40:=by
  unfold progB at hp;simp only[ZfF,ZfN]at hp;omega
 have hin:=Ox hp;have e1:w64 (s.Pc+1)=s.Pc+1:=Zb (by have:=hs.pc.1;omega) O;have e2:w64 (s.In+1)=s.In+1:=Zb aM aM;have hr:∀k:Int,0<=k/\k<4->get? s.Regs k=some (rg s.Regs k)/\fine (rg s.Regs k):=λk hk=>⟨Qk hk.1 O,(Qq hs.rf hk.1 O).1⟩;have hput:∀t:D.Term,0<=i.A/\i.A<4->Vt s.Regs i.A t=some (s.Regs.set i.A.toNat t):=λt ha=>put_eq O ha.1 O;have hop:=hi.op;have hc:i.Op=1\/i.Op=2\/i.Op=3\/i.Op=4\/i.Op=5\/i.Op=6\/i.Op=7\/i.Op=8\/i.Op=9\/i.Op=10\/i.Op=11\/i.Op=12\/i.Op=13\/i.Op=14:=by omega
 have hA:=hi.a;have hB:=hi.b;unfold TU flw;rcases hc with c|c|c|c|c|c|c|c|c|c|c|c|c|c<;>simp only[c,Int.reduceBEq,Int.reduceEq,reduceIte,ZfB,e1,e2]
 ·rw[YI (hi.v c)];simp only[Zf9];rw[hput _ (hA O O O O)];rfl
 ·rw[(hr _ (hB O)).1];simp only[Zf9];rw[hput _ (hA O O O O)];rfl
 ·obtain⟨a1,a2⟩:=hr _ (hA O O O O);obtain⟨b1,b2⟩:=hr _ (hB O);rw[a1,b1];simp only[Zf9];rw[Zb6 hp (hi.c c) a2 b2];simp only[Zf9];rw[hput _ (hA O O O O)];rfl
 ·obtain⟨a1,a2⟩:=hr _ (hA O O O O);rw[a1];simp only[Zf9];rw[Tw (sml1f a2)];simp only[Zf9];rw[hput _ (hA O O O O)];rfl
 ·have hk3:s.In≠p.In:=λe=>by unfold stk at hk;rw[ZfC ⟨c,e⟩]at hk;cases hk
  have:=Zed (fuel:=fuel) hp (k:=s.In) hs.inn.1 (by have:=hs.inn.2;omega);have hf:∀{β:Type}(f:D.Term->Option β),((Y6 s.In).bind λx12=>(cat? ⟨[105]⟩ x12).bind λx13=>(VR fuel p.W x13).bind f)=f (inT p.W s.In):=λf=>by
   rw[<-Zf9 (inT p.W s.In) f,<-this];simp only[Option.bind_assoc]
  rw[hf,hput _ (hA O O O O)];rfl
 ·rw[(hr _ (hA O O O O)).1];simp only[Zf9];rw[FR (by have:=hs.ol;omega)];rfl
 ·obtain⟨b1,b2⟩:=hr _ (hB O);rw[b1];simp only[Zf9];rw[Zao hp hs.ml hs.mf b2 (h7 c)];simp only[Zf9];rw[hput _ (hA O O O O)];rfl
 ·obtain⟨a1,a2⟩:=hr _ (hA O O O O);obtain⟨b1,b2⟩:=hr _ (hB O);rw[a1,b1];simp only[Zf9];rw[Ba hp hs.ml hs.mf a2 b2 (h8 c)];rfl
 ·rw[FW (by have:=hs.sl;omega)];rfl
 ·have hk0:s.Stack.length≠0:=λe=>by unfold stk at hk;rw[ifn,ifn,ifn,ZfC ⟨c,e⟩]at hk;cases hk
  obtain⟨g1,g2⟩:=AV (l:=s.Stack) O (by have:=hs.sl;omega);rw[g1,g2];simp only[Zf9];rw[Zd8 (by simp;have:=hs.sl;omega)];rfl
end Go.Proofs.YtjhiajehpjpibaaGreatDoor
end
section
namespace Go.Proofs.YtjhiajehpjpibaaGreatDoor
open Go.GL
set_option maxRecDepth 100000
variable{fuel:Nat}[FV fuel]
def Aa{p:D.Program}{s:D.Path}{i:D.Ins}(hp:progB p=true)(hs:okP p s)(h0:s.Code=0)(hi:insF p.W p.Code.length i)(hpc:s.Pc<p.Code.length)(hk:stk p s i=0)
  (h7:i.Op=7->(rg s.Regs i.B).Op=0->0<=(rg s.Regs i.B).N/\(rg s.Regs i.B).N<p.Mem)(h8:i.Op=8->(rg s.Regs i.A).Op=0->0<=(rg s.Regs i.A).N/\(rg s.Regs i.A).N<p.Mem):
  ∃s',ZN fuel ⟨false⟩ p s i=some (s',⟨!(flw p s i).2⟩)/\((flw p s i).2=true->s'=(flw p s i).1):=by
 have hm:=Y1 hp;have hl:=hs.rl;have hcl:(p.Code.length:Int)<=40:=by
  simp_all[progB,ZfF,ZfN]
 have hin:=Ox hp;have e1:w64 (s.Pc+1)=s.Pc+1:=Zb (by have:=hs.pc.1;omega) O;have e2:w64 (s.In+1)=s.In+1:=Zb aM aM;have hr:∀k:Int,0<=k/\k<4->get? s.Regs k=some (rg s.Regs k)/\fine (rg s.Regs k):=λk hk=>⟨Qk hk.1 O,(Qq hs.rf hk.1 O).1⟩;have hput:∀t:D.Term,0<=i.A/\i.A<4->set? s.Regs i.A t=some (s.Regs.set i.A.toNat t):=λt ha=>Bl ha.1 O t;have hop:=hi.op;have hc:i.Op=1\/i.Op=2\/i.Op=3\/i.Op=4\/i.Op=5\/i.Op=6\/i.Op=7\/i.Op=8\/i.Op=9\/i.Op=10\/i.Op=11\/i.Op=12\/i.Op=13\/i.Op=14:=by omega
 have hA:=hi.a;have hB:=hi.b;have k5:i.Op=5->(s.In==p.In)=false:=λc=>by
  simp_all[stk,ZfC]
 have k6:i.Op=6->(len s.Out==6)=false:=λc=>by
  simp_all[stk,ifn,ZfC,Za]<;>grind
 have k11:i.Op=11->(len s.Stack==3)=false:=λc=>by
  simp_all[stk,ifn,ZfC,Za]<;>grind
 have k12:i.Op=12->(len s.Stack==0)=false/\0<s.Stack.length:=λc=>by
  simp_all[stk,ifn,ZfC,Za]<;>grind
 unfold ZN;rw[TY (hs.fine hp)];simp only[Zf9];unfold flw;rcases hc with c|c|c|c|c|c|c|c|c|c|c|c|c|c
 all_goals simp only[c,Int.reduceBEq,Int.reduceEq,Int.reduceBNe,reduceIte,ZfB,Zhd,Zgk,cond_true,cond_false,k5,k6,k11,k12,Zf9,bne_self_eq_false,e1,e2]
 ·rw[Y9];simp only[Zf9];rw[hput _ (hA O O O O)];exact⟨_,rfl,λ_=>by rw[h0];rfl⟩
 ·rw[(hr _ (hB O)).1];simp only[Zf9];rw[hput _ (hA O O O O)];exact⟨_,rfl,λ_=>by rw[h0]⟩
 ·obtain⟨a1,a2⟩:=hr _ (hA O O O O);obtain⟨b1,b2⟩:=hr _ (hB O);rw[a1,b1];simp only[Zf9];have q:=ZcD (fuel:=fuel) (p:=p) hp (hi.c c) a2 b2 (λt m=>(set? s.Regs i.A t).bind λx13=>(some (.inl (m.bad,s.Pc+1,s.Mem,s.In,x13,s.Stack,s.Out)):Option ((Bool×Int×List D.Term×Int×List D.Term×List Int×List D.Term)⊕(D.Path×D.l06Maker))));have hcc:=hi.c c;rw[Ip O O]at q;rw[Ip O O];simp only[Zf9]at q⊢;rw[q,hput _ (hA O O O O)];exact⟨_,rfl,λ_=>by rw[h0]⟩
 ·obtain⟨a1,a2⟩:=hr _ (hA O O O O);rw[a1];simp only[Zf9];rw[WF (sml1f a2)];simp only[Zf9];rw[hput _ (hA O O O O)];exact⟨_,rfl,λ_=>by rw[h0]⟩
 ·have hk3:s.In≠p.In:=λe=>by have:=k5 c;rw[e]at this;simp at this
  rw[Zew (p:=p) hs.inn.1 (by have:=hs.inn.2;omega)];simp only[Zf9];rw[hput _ (hA O O O O)];exact⟨_,rfl,λ_=>by rw[h0];rfl⟩
 ·rw[(hr _ (hA O O O O)).1];simp only[Zf9];rw[VZ (by simp;have:=hs.ol;omega)];exact⟨_,rfl,λ_=>by rw[h0]⟩
 ·obtain⟨b1,b2⟩:=hr _ (hB O);simp only[b1,Zf9];obtain⟨t',q1,q2⟩:=Zai (fuel:=fuel) (s:=D.Path.mk (s.Pc+1) s.Regs s.Mem s.Stack s.In s.Out 0 s.Steps s.Cond s.Turns) (x:=rg s.Regs i.B) hp hs.ml hs.mf b2 (h7 c);rw[q1];simp only[Zf9];rw[hput _ (hA O O O O)];exact⟨_,rfl,λh=>by rw[h0,q2 h]⟩
 ·obtain⟨a1,a2⟩:=hr _ (hA O O O O);obtain⟨b1,b2⟩:=hr _ (hB O);rw[a1,b1];simp only[Zf9];obtain⟨t',q1,-,q2⟩:=Ci (fuel:=fuel) (s:=D.Path.mk (s.Pc+1) s.Regs s.Mem s.Stack s.In s.Out 0 s.Steps s.Cond s.Turns) (x:=rg s.Regs i.A) (v:=rg s.Regs i.B) hp hs.ml hs.mf a2 b2 (h8 c);rw[q1];simp only[Zf9];exact⟨_,rfl,λh=>by rw[h0,q2 h]⟩
 ·exact⟨_,rfl,λ_=>by rw[h0]⟩
 ·exact⟨_,rfl,λ_=>by rw[h0]⟩
 ·rw[VZ (by simp;have:=hs.sl;omega)];exact⟨_,rfl,λ_=>by rw[h0]⟩
 ·obtain⟨g1,g2⟩:=AV (l:=s.Stack) (k12 c).2 (by have:=hs.sl;omega);rw[g1,g2];exact⟨_,rfl,λ_=>by rw[h0]⟩
 ·exact⟨_,rfl,λ_=>by rw[h0]⟩
 ·exact⟨_,rfl,λ_=>rfl⟩
def Zc5{p:D.Program}{s:D.Path}{i:D.Ins}(hp:progB p=true)(hs:okP p s)(hk:stk p s i≠0):ZN fuel ⟨false⟩ p s i=some ({s with Code:=stk p s i},⟨false⟩):=by
 unfold ZN;rw[TY (hs.fine hp)];unfold stk at hk⊢;by_cases c5:i.Op=5/\s.In=p.In
 ·simp_all
 ·by_cases c6:i.Op=6/\s.Out.length=6
  ·simp_all[len,Za,and_self,ZfR,Int.reduceBEq,ZgX,ZfB,ZfK,Zhd,Zf9,Int.reduceBNe]
  ·by_cases c11:i.Op=11/\s.Stack.length=3
   ·simp[len,Za,c11,and_self,ZfR,Int.reduceBEq,ZgX,ZfB,ZfK,Zhd,Zf9,Int.reduceBNe]
   ·simp_all[len,Za,and_self,ZfR,Int.reduceBEq,ZgX,ZfB,ZfK,Zhd,Zf9,Int.reduceBNe]
def Ck{p:D.Program}{s:D.Path}{i:D.Ins}(hs:okP p s):QZ p s i=some (stk p s i):=by
 have h1:=hs.inn.2;have h2:=hs.ol;have h3:=hs.sl;unfold QZ stk;by_cases c5:i.Op=5/\s.In=p.In
 all_goals simp_all[ZfC,ZfD,Za,c11,ZfF,Zhc]<;>grind
end Go.Proofs.YtjhiajehpjpibaaGreatDoor
end
section
namespace Go.Proofs.YtjhiajehpjpibaaGreatDoor
open Go.GL
set_option maxRecDepth 100000
variable{fuel:Nat}[FV fuel]
def ZeE{w v:Int}(h:wordB w v=true):fine (kT w v)/\(kT w v).W=w:=⟨Qe h,rfl⟩
def Oz{p:D.Program}{s:D.Path}(hs:okP p s)(hpc:s.Pc<p.Code.length){k:Nat}{t:D.Term}(ht:fine t/\t.W=p.W):okP p {s with Pc:=s.Pc+1,Regs:=s.Regs.set k t}:=
 ⟨⟨by have:=hs.pc.1;grind,by grind[Za]⟩,by rw[Zhv,hs.rl],ZbK hs.rf ht,hs.ml,hs.mf,hs.sl,hs.sp,hs.inn,hs.ol,hs.of,hs.cd,hs.st,hs.cl,hs.cf,hs.tl⟩
def GX{p:D.Program}{s:D.Path}{i:D.Ins}(hp:progB p=true)(hs:okP p s)(hi:insF p.W p.Code.length i)(hpc:s.Pc<p.Code.length)(hk:stk p s i=0)
  (h7:i.Op=7->(rg s.Regs i.B).Op=0->0<=(rg s.Regs i.B).N/\(rg s.Regs i.B).N<p.Mem)(hok:(flw p s i).2=true):okP p (flw p s i).1:=by
 have hop:=hi.op;have hl:=hs.rl;have hr:∀k:Int,0<=k/\k<4->fine (rg s.Regs k)/\(rg s.Regs k).W=p.W:=λk hk=>Qq hs.rf hk.1 O;have hc:i.Op=1\/i.Op=2\/i.Op=3\/i.Op=4\/i.Op=5\/i.Op=6\/i.Op=7\/i.Op=8\/i.Op=9\/i.Op=10\/i.Op=11\/i.Op=12\/i.Op=13\/i.Op=14:=by omega
 have hA:=hi.a;have hB:=hi.b;have hT:=hi.t;have hn:0<=s.Pc+1/\s.Pc+1<=len p.Code:=⟨by have:=hs.pc.1;omega,by grind[Za]⟩;unfold flw at hok⊢;rcases hc with c|c|c|c|c|c|c|c|c|c|c|c|c|c<;>simp only[c,Int.reduceEq,reduceIte]at hok⊢
 ·exact Oz hs hpc (ZeE (hi.v c))
 ·simp_all[Oz]
 ·simp_all[Oz,Zbt]
 ·simp_all[Oz,YT]
 ·have h5:s.In≠p.In:=λe=>by simp_all[stk,ZfC]
  have:=Oz hs hpc (k:=i.A.toNat) (Zcm hp (k:=s.In));exact⟨this.pc,this.rl,this.rf,this.ml,this.mf,this.sl,this.sp,⟨by have:=hs.inn.1;grind,by have:=hs.inn.2;grind⟩,this.ol,this.of,this.cd,this.st,this.cl,this.cf,this.tl⟩
 ·have h6:s.Out.length≠6:=λe=>by simp_all[stk,ifn,ZfC]
  exact⟨hn,hs.rl,hs.rf,hs.ml,hs.mf,hs.sl,hs.sp,hs.inn,by have:=hs.ol;grind,Zci hs.of (hr _ (hA O O O O)),hs.cd,hs.st,hs.cl,hs.cf,hs.tl⟩
 ·exact Oz hs hpc (Za6 hp hs.ml hs.mf (h7 c) hok)
 ·obtain⟨q1,q2⟩:=Bi (p:=p) (s:=s) hs.mf (hr _ (hB O)) hok;exact⟨hn,hs.rl,hs.rf,by show((store _ _ _ _).1.length:Int)=_;rw[q2];exact hs.ml,q1,hs.sl,hs.sp,hs.inn,hs.ol,hs.of,hs.cd,hs.st,hs.cl,hs.cf,hs.tl⟩
 ·exact⟨by simp_all[Za],hs.rl,hs.rf,hs.ml,hs.mf,hs.sl,hs.sp,hs.inn,hs.ol,hs.of,hs.cd,hs.st,hs.cl,hs.cf,hs.tl⟩
 ·exact⟨hn,hs.rl,hs.rf,hs.ml,hs.mf,hs.sl,hs.sp,hs.inn,hs.ol,hs.of,hs.cd,hs.st,hs.cl,hs.cf,hs.tl⟩
 ·have h11:s.Stack.length≠3:=λe=>by simp_all[stk,ifn,ZfC]
  refine⟨by simp_all[Za],hs.rl,hs.rf,hs.ml,hs.mf,by have:=hs.sl;grind,λx hx=>?_,hs.inn,hs.ol,hs.of,hs.cd,hs.st,hs.cl,hs.cf,hs.tl⟩;rcases ZfG.1 hx with hx|hx
  ·exact hs.sp x hx
  simp_all
 ·have h12:s.Stack.length≠0:=λe=>by simp_all[stk,ifn,ZfC]
  refine⟨?_,hs.rl,hs.rf,hs.ml,hs.mf,by have:=hs.sl;grind,λx hx=>hs.sp x (Zhh hx),hs.inn,hs.ol,hs.of,hs.cd,hs.st,hs.cl,hs.cf,hs.tl⟩;rw[ZfA O];exact hs.sp _ (Zgn _)
 ·exact⟨hn,hs.rl,hs.rf,hs.ml,hs.mf,hs.sl,hs.sp,hs.inn,hs.ol,hs.of,hs.cd,hs.st,hs.cl,hs.cf,hs.tl⟩
 ·exact⟨hs.pc,hs.rl,hs.rf,hs.ml,hs.mf,hs.sl,hs.sp,hs.inn,hs.ol,hs.of,by show(0:Int)<=1/\(1:Int)<=9;omega,hs.st,hs.cl,hs.cf,hs.tl⟩
def Ir{p:D.Program}{s:D.Path}{i:D.Ins}{c:List D.Term}{t:List Int}:flw p {s with Cond:=c,Turns:=t} i=({(flw p s i).1 with Cond:=c,Turns:=t},(flw p s i).2):=by
 grind(splits:=30) [flw,reduceIte,Int.reduceEq,c11]
end Go.Proofs.YtjhiajehpjpibaaGreatDoor
end
section
namespace Go.Proofs.YtjhiajehpjpibaaGreatDoor
open Go.GL
set_option maxRecDepth 100000
variable{fuel:Nat}[FV fuel]
def nmd(s:D.Path)(i:D.Ins):D.Path:=
 if i.Op=10 then{s with Pc:=i.B}else if i.Op=13 then{s with Code:=8}else if i.Op=3 then{s with Code:=6}else{s with Code:=5}
def JC(s:D.Path)(i:D.Ins):SK s i=some (nmd s i):=by
 unfold SK nmd;by_cases c1:i.Op=10
 ·simp[c1]
 by_cases c2:i.Op=13
 ·simp[c2]
 by_cases c3:i.Op=3
 ·simp[c3]
 simp[c1,c2,c3]
def Dc(s:D.Path)(i:D.Ins):VA s i=some (nmd s i):=by
 unfold VA nmd;by_cases c1:i.Op=10
 ·simp[c1]
 by_cases c2:i.Op=13
 ·simp[c2]
 by_cases c3:i.Op=3
 ·simp[c3]
 simp[c1,c2,c3]
def SC{p:D.Program}{s:D.Path}(hs:okP p s){k:Int}(hk:0<=k/\k<=9):okP p {s with Code:=k}:=⟨hs.pc,hs.rl,hs.rf,hs.ml,hs.mf,hs.sl,hs.sp,hs.inn,hs.ol,hs.of,hk,hs.st,hs.cl,hs.cf,hs.tl⟩
def ZcA{p:D.Program}{s:D.Path}{i:D.Ins}(hs:okP p s)(hi:insF p.W p.Code.length i):okP p (nmd s i):=by
 unfold nmd;split
 ·rename_i c;exact⟨by rw[Za];exact hi.t O,hs.rl,hs.rf,hs.ml,hs.mf,hs.sl,hs.sp,hs.inn,hs.ol,hs.of,hs.cd,hs.st,hs.cl,hs.cf,hs.tl⟩
 ·split
  ·exact SC hs O
  ·split
   ·exact SC hs O
   ·exact SC hs O
def Ei{p:D.Program}{s:D.Path}(hs:okP p s){t:D.Term}{k:Int}(ht:fine t/\t.W=1){c:List D.Term}{l:List Int}(hc:fw 1 c)(hcl:c.length<60)(hl:l.length<60)(hl':∀x∈l,0<=x/\x<=1)(hk:0<=k/\k<=1):okP p {s with Cond:=c++[t],Turns:=l++[k]}:=
 ⟨hs.pc,hs.rl,hs.rf,hs.ml,hs.mf,hs.sl,hs.sp,hs.inn,hs.ol,hs.of,hs.cd,hs.st,by show(c++[t]).length<=60;rw[ZfI];simp;omega,Zci hc ht,by show(l++[k]).length<=60;rw[ZfI];simp;omega,λx hx=>by rcases ZfG.1 hx with h|h;all_goals first|exact hl' x h|exact ZfL.1 h▸hk⟩
def BD{p:D.Program}{rs:List D.Term}{i:D.Ins}(h:(qst p rs i).2.1=false):(qst p rs i).1=t0:=by
 unfold qst at h⊢;by_cases c1:i.Op=10\/i.Op=13
 ·rw[ZfC c1]at h;cases h
 rw[ZfD c1]at h⊢;by_cases c2:i.Op=3
 ·rw[ZfC c2]at h⊢;by_cases c3:i.C=6\/i.C=7
  ·rw[ZfC c3]at h;cases h
  ·rw[ZfD c3]
 rw[ZfD c2]at h⊢;have hq:∀x:D.Term,(qad p x).2.1=true:=λx=>by unfold qad;split<;>rfl
 by_cases c4:i.Op=7
 ·rw[ZfC c4,hq]at h;cases h
 rw[ZfD c4]at h⊢;by_cases c5:i.Op=8
 ·rw[ZfC c5,hq]at h;cases h
 rw[ZfD c5]
def Jg{p:D.Program}{rs:List D.Term}{i:D.Ins}(h:(qst p rs i).2.1=true)(hok:(qst p rs i).2.2=true):fine (qst p rs i).1/\(qst p rs i).1.W=1:=by
 have hz:∀x:D.Term,(qze p x).2.2=true->fine (qze p x).1/\(qze p x).1.W=1:=λx h=>YT h;have hq:∀x:D.Term,(qad p x).2.2=true->fine (qad p x).1/\(qad p x).1.W=1:=λx h=>by
  unfold qad at h⊢;split at h
  ·rename_i c;rw[ZfC c];exact YT h
  ·cases h
 unfold qst at h hok⊢;by_cases c1:i.Op=10\/i.Op=13
 ·rw[ZfC c1]at h hok⊢;exact hz _ hok
 rw[ZfD c1]at h hok⊢;by_cases c2:i.Op=3
 ·rw[ZfC c2]at h hok⊢;by_cases c3:i.C=6\/i.C=7
  ·rw[ZfC c3]at h hok⊢;exact hz _ hok
  ·rw[ZfD c3]at h;cases h
 rw[ZfD c2]at h hok⊢;by_cases c4:i.Op=7
 ·rw[ZfC c4]at h hok⊢;exact hq _ hok
 rw[ZfD c4]at h hok⊢;by_cases c5:i.Op=8
 ·rw[ZfC c5]at h hok⊢;exact hq _ hok
 rw[ZfD c5]at h;cases h
noncomputable def dvd(p:D.Program)(s:D.Path)(i:D.Ins):List D.Path:=
 if(qst p s.Regs i).2.2=false then[{s with Code:=9}]
 else if(qst p s.Regs i).2.1=true/\(qst p s.Regs i).1.Op=0/\(qst p s.Regs i).1.N=1 then[nmd s i]
 else if(flw p s i).2=false then[{s with Code:=9}]
 else if(qst p s.Regs i).2.1=false\/(qst p s.Regs i).1.Op=0 then[(flw p s i).1]
 else if(mkT 1 1 0 [(qst p s.Regs i).1]).2=false\/s.Cond.length=60\/s.Turns.length=60 then[{s with Code:=9}]
 else[{nmd s i with Cond:=s.Cond++[(qst p s.Regs i).1],Turns:=s.Turns++[1]},{(flw p s i).1 with Cond:=s.Cond++[(mkT 1 1 0 [(qst p s.Regs i).1]).1],Turns:=s.Turns++[0]}]
def Dr{p:D.Program}{s:D.Path}{i:D.Ins}(hp:progB p=true)(hs:okP p s)(hi:insF p.W p.Code.length i)(hpc:s.Pc<p.Code.length)(hk:stk p s i=0):Qh fuel p s i=some (dvd p s i):=by
 unfold Qh dvd;rw[IV hp hs hi];simp only[Zf9];by_cases q1:(qst p s.Regs i).2.2=true
 ·have hfl:¬((qst p s.Regs i).2.1=true/\(qst p s.Regs i).1.Op=0/\(qst p s.Regs i).1.N=1)->TU fuel p s i=some (flw p s i):=λhn=>by
   have:=QL hp hs hi q1 (λe=>by
    cases ha:(qst p s.Regs i).2.1
    ·rw[BD ha]at e;exact absurd e.2 au
    ·exact hn ⟨ha,e⟩)
   exact DY hp hs hi hpc hk this.1 this.2
  rw[ZfD (show¬(!(qst p s.Regs i).2.2)=true by rw[q1];simp),ZfD (show¬(qst p s.Regs i).2.2=false by rw[q1];simp)];by_cases q2:(qst p s.Regs i).2.1=true/\(qst p s.Regs i).1.Op=0/\(qst p s.Regs i).1.N=1
  ·rw[ZfC q2,ZfC q2.1];unfold Yc;simp only[Zf9];rw[ZfC (by simp[q2]),JC];rfl
  ·rw [ZfD q2]
   have e:∀{β:Type}(x y:Option β),((if(qst p s.Regs i).2.1=true then Yc (qst p s.Regs i).1 1 else some default).bind λx2=>if((qst p s.Regs i).2.1&&x2)=true then x else y)=y:=λx y=>by
    cases ha:(qst p s.Regs i).2.1
    ·rfl
    ·unfold Yc;simp only[ZfR,Zf9];rw[ZfD (by simp;intro h1 h2;exact q2 ⟨ha,h1,h2⟩)]
   rw[e,hfl q2];simp only[Zf9];by_cases q3:(flw p s i).2=true
   ·rw[ZfD (show¬(!(flw p s i).2)=true by rw[q3];simp),ZfD (show¬(flw p s i).2=false by rw[q3];simp)];cases ha:(qst p s.Regs i).2.1
    ·simp
    ·obtain⟨f1,f2⟩:=Jg ha q1;unfold ZJ;simp only[ZfJ,ZfB,ZfK,Zf9,Zgl,false_or];by_cases q4:(qst p s.Regs i).1.Op=0
     ·simp[q4]
     ·rw[ZfD (by simpa using q4),ZfD (by simp;exact q4),Tw (sml1f f1)];simp only[Zf9];have hcl:=hs.cl;have htl:=hs.tl;by_cases q5:(mkT 1 1 0 [(qst p s.Regs i).1]).2=false\/s.Cond.length=60\/s.Turns.length=60
      ·rw[ZfC q5,ZfC (by rw[Za,Za];simp;rcases q5 with h|h|h<;>simp[h])]
      ·rw[ZfD q5,ZfD (by rw[Za,Za];simp at q5⊢;exact⟨⟨q5.1,by omega⟩,by omega⟩),JC,FR O,FR O,FW O,FW O];rfl
   ·rw[ZfC (by simpa using q3),ZfC (by simpa using q3)]
 ·rw[ZfC (by simpa using q1),ZfC (by simpa using q1)]
end Go.Proofs.YtjhiajehpjpibaaGreatDoor
end
section
namespace Go.Proofs.YtjhiajehpjpibaaGreatDoor
open Go.GL
set_option maxRecDepth 100000
variable{fuel:Nat}[FV fuel]
def insAt(p:D.Program)(k:Int):D.Ins:=(p.Code[k.toNat]?).getD ⟨0,0,0,0⟩
def MS{p:D.Program}{k:Int}(h0:0<=k)(h1:k<p.Code.length):get? p.Code k=some (insAt p k)/\insAt p k∈p.Code:=by
 obtain⟨j,rfl⟩:∃j:Nat,k=(j:Int):=⟨k.toNat,by omega⟩;simp_all[insAt,get?_nat,Zgr,ZfA]
def JG{p:D.Program}{s:D.Path}(hs:okP p s)(h:s.Steps<400):okP p {s with Steps:=s.Steps+1}:=⟨hs.pc,hs.rl,hs.rf,hs.ml,hs.mf,hs.sl,hs.sp,hs.inn,hs.ol,hs.of,hs.cd,by have:=hs.st;grind,hs.cl,hs.cf,hs.tl⟩
noncomputable def stp1(p:D.Program)(s:D.Path):List D.Path:=
 if s.Code≠0\/s.Steps=400 then[]
 else if s.Pc=len p.Code then[{s with Code:=2}]
 else if stk p {s with Steps:=s.Steps+1} (insAt p s.Pc)≠0 then[{s with Steps:=s.Steps+1,Code:=stk p {s with Steps:=s.Steps+1} (insAt p s.Pc)}]
 else dvd p {s with Steps:=s.Steps+1} (insAt p s.Pc)
def Zbp{p:D.Program}{s:D.Path}(hp:progB p=true)(hs:okP p s):RH fuel p s=some (stp1 p s):=by
 have hst:=hs.st;have hpc:=hs.pc;rw[Za]at hpc;unfold RH stp1;by_cases c1:s.Code≠0\/s.Steps=400
 ·grind
 ·have d1:s.Code=0/\s.Steps<400:=by omega
  rw[ZfD c1,ZfD aa];by_cases c2:s.Pc=len p.Code
  ·simp_all
  ·rw[ZfD c2,ZfD ah];rw[Za]at c2;obtain⟨g1,g2⟩:=MS (p:=p) (k:=s.Pc) hpc.1 O;have hs1:=JG hs d1.2;rw[g1];simp only[Zf9];rw[Zb,Ck hs1];simp only[Zf9];by_cases c3:stk p {s with Steps:=s.Steps+1} (insAt p s.Pc)=0
   ·rw[ZfD (by rw[c3];simp),ZfD (by rw[c3];simp),Dr hp hs1 (Jj hp g2) al c3];rfl
   simp_all
end Go.Proofs.YtjhiajehpjpibaaGreatDoor
end
section
namespace Go.Proofs.YtjhiajehpjpibaaGreatDoor
open Go.GL
set_option maxRecDepth 100000
variable{fuel:Nat}[FV fuel]
def Zb3{s:D.Path}{i:D.Ins}{c:List D.Term}{t:List Int}:nmd {s with Cond:=c,Turns:=t} i={nmd s i with Cond:=c,Turns:=t}:=by
 grind[nmd,reduceIte,Int.reduceEq]
def Zb4{p:D.Program}{s:D.Path}{i:D.Ins}(h:stk p s i≠0):qst p s.Regs i=(t0,false,true):=by
 simp_all[stk,qst,ifn]<;>grind
def Ga{p:D.Program}{s:D.Path}{t:D.Term}{k:Int}(hp:progB p=true)(hs:okP p s):WS fuel s t k=some {s with Cond:=s.Cond++[t],Turns:=s.Turns++[k]}:=by
 unfold WS;rw[TY (hs.fine hp)];simp only[Zf9];rw[VZ (by simp;have:=hs.cl;omega)];rw[VZ (by simp;have:=hs.tl;omega)];rfl
def Zbo{q:D.Term}(hf:fine q/\q.W=1)(h0:q.Op=0):q.N=0\/q.N=1:=by
 obtain⟨e,hv⟩:=YK hf.1.1 (by simp[h0]);grind[Yp]
def ZcG {p:D.Program}{u:D.Path}{i:D.Ins}(hp:progB p=true)(hs:okP p u)(h0:u.Code=0)(hi:insF p.W p.Code.length i)(hpc:u.Pc<p.Code.length):
    ((Yx fuel u).bind λx2=>(Xl fuel (D.l06Maker.mk false) p u i).bind λx4=>if x4.2.2.bad then some ([(D.Path.mk x2.Pc x2.Regs x2.Mem x2.Stack x2.In x2.Out 9 x2.Steps x2.Cond x2.Turns)]:List D.Path)else(if(!x4.2.1)then some default else(Yq x4.1 0)).bind λx5=>if((!x4.2.1)||x5)then(ZN fuel x4.2.2 p u i).bind λx6=>if x6.2.bad then some ([(D.Path.mk x2.Pc x2.Regs x2.Mem x2.Stack x2.In x2.Out 9 x2.Steps x2.Cond x2.Turns)]:List D.Path)else(Yx fuel x6.1).bind λx7=>some ([x7]:List D.Path)else(Yq x4.1 1).bind λx8=>if x8 then(VA u i).bind λx9=>some ([x9]:List D.Path)else(Ze fuel x4.2.2 1 1 ([x4.1]:List D.Term)).bind λx10=>if((x10.2.bad||((len u.Cond)==60))||((len u.Turns)==60))then some ([(D.Path.mk x2.Pc x2.Regs x2.Mem x2.Stack x2.In x2.Out 9 x2.Steps x2.Cond x2.Turns)]:List D.Path)else(WS fuel u x10.1 0).bind λx11=>(ZN fuel x10.2 p x11 i).bind λx12=>if x12.2.bad then some ([(D.Path.mk x2.Pc x2.Regs x2.Mem x2.Stack x2.In x2.Out 9 x2.Steps x2.Cond x2.Turns)]:List D.Path)else(WS fuel u x4.1 1).bind λx13=>(VA x13 i).bind λx14=>(Yx fuel x12.1).bind λx15=>some ([x14,x15]:List D.Path))=some (if stk p u i≠0 then[{u with Code:=stk p u i}]else dvd p u i):=by
  rw[TY (hs.fine hp)];obtain⟨t',h1,h2⟩:=He (fuel:=fuel) hp hs hi;rw[h1];simp only[Zf9];by_cases hk:stk p u i=0
  · rw [ZfD (show¬(stk p u i≠0)from λh=>h hk)]
    unfold dvd;by_cases q1:(qst p u.Regs i).2.2=true
    · have ht :=h2 q1
      subst ht;rw[ZfD (show¬(!(qst p u.Regs i).2.2)=true by rw[q1];simp),ZfD (show¬(qst p u.Regs i).2.2=false by rw[q1];simp),q1]
      have hfc:¬((qst p u.Regs i).2.1=true/\(qst p u.Regs i).1.Op=0/\(qst p u.Regs i).1.N=1)->_:=λhn=>QL hp hs hi q1 (λe=>by
        cases ha:(qst p u.Regs i).2.1
        · rw[BD ha]at e;exact absurd e.2 au
        simp_all)
      have hno:¬((qst p u.Regs i).2.1=true/\(qst p u.Regs i).1.Op=0/\(qst p u.Regs i).1.N=1)->((ZN fuel ⟨!true⟩ p u i).bind λx6=>if x6.2.bad then some ([(D.Path.mk u.Pc u.Regs u.Mem u.Stack u.In u.Out 9 u.Steps u.Cond u.Turns)]:List D.Path)else(Yx fuel x6.1).bind λx7=>some ([x7]:List D.Path))=some (if(flw p u i).2=false then[{u with Code:=9}]else[(flw p u i).1]):=λhn=>by
        obtain⟨f7,f8⟩:=hfc hn;obtain⟨s',e1,e2⟩:=Aa (fuel:=fuel) hp hs h0 hi hpc hk f7 f8;rw[show(!true)=false from rfl,e1];simp only[Zf9];cases hb:(flw p u i).2
        · simp
        · have:=e2 hb
          subst this;simp only[ZfJ,ZfB,ZfK];rw[TY ((GX hp hs hi hpc hk f7 hb).fine hp)];simp
      cases ha:(qst p u.Regs i).2.1
      · rw[ha]at hno
        simp only[ZgP,ZfR,Zf9,ZhE];rw[hno U];cases(flw p u i).2<;>simp
      · have hf:=Jg ha q1
        rw[ha]at hno hfc;simp only[ZfJ,ZfB,ZfK,Zgl,Yq,Zf9];by_cases z:(qst p u.Regs i).1.Op=0
        · rcases Zbo hf z with n0|n1
          · have r1:¬(true=true/\(qst p u.Regs i).1.Op=0/\(qst p u.Regs i).1.N=1):=by rw[n0];simp
            rw[ZfC (show((qst p u.Regs i).1.Op==0&&(qst p u.Regs i).1.N==0)=true by simp[z,n0]),ZfD (λh=>r1 ⟨rfl,h.2⟩:¬(True/\(qst p u.Regs i).1.Op=0/\(qst p u.Regs i).1.N=1))];have:=hno r1;simp only[ZfJ]at this;rw[this];cases(flw p u i).2<;>simp[z]
          · rw[ZfD (show¬((qst p u.Regs i).1.Op==0&&(qst p u.Regs i).1.N==0)=true by simp[z,n1]),ZfC (show((qst p u.Regs i).1.Op==0&&(qst p u.Regs i).1.N==1)=true by simp[z,n1]),ZfC (⟨trivial,z,n1⟩:True/\(qst p u.Regs i).1.Op=0/\(qst p u.Regs i).1.N=1),Dc];rfl
        · have r1:¬(true=true/\(qst p u.Regs i).1.Op=0/\(qst p u.Regs i).1.N=1):=λh=>z h.2.1
          rw[ZfD (show¬((qst p u.Regs i).1.Op==0&&(qst p u.Regs i).1.N==0)=true by simp[z]),ZfD (show¬((qst p u.Regs i).1.Op==0&&(qst p u.Regs i).1.N==1)=true by simp[z]),ZfD (λh=>r1 ⟨rfl,h.2⟩:¬(True/\(qst p u.Regs i).1.Op=0/\(qst p u.Regs i).1.N=1)),WF (sml1f hf.1)];simp only[Zf9,Zgl];have hcl:=hs.cl;have htl:=hs.tl;by_cases q5:(mkT 1 1 0 [(qst p u.Regs i).1]).2=false\/u.Cond.length=60\/u.Turns.length=60
          · rw[ZfC (show(!(mkT 1 1 0 [(qst p u.Regs i).1]).2||len u.Cond==60||len u.Turns==60)=true by rw[Za,Za];simp;rcases q5 with h|h|h<;>simp[h])]
            cases(flw p u i).2
            · simp
            · simp[z,q5]
          · have q6:(mkT 1 1 0 [(qst p u.Regs i).1]).2=true/\u.Cond.length≠60/\u.Turns.length≠60:=by simpa using q5
            rw[ZfD (show¬(!(mkT 1 1 0 [(qst p u.Regs i).1]).2||len u.Cond==60||len u.Turns==60)=true by rw[Za,Za,q6.1];simp;omega),Ga hp hs];simp only[Zf9];obtain⟨f7,f8⟩:=hfc r1;have hs':okP p {u with Cond:=u.Cond++[(mkT 1 1 0 [(qst p u.Regs i).1]).1],Turns:=u.Turns++[0]}:=Ei hs (YT q6.1) hs.cf O O hs.tl.2 O;obtain⟨s',e1,e2⟩:=Aa (fuel:=fuel) (s:={u with Cond:=u.Cond++[(mkT 1 1 0 [(qst p u.Regs i).1]).1],Turns:=u.Turns++[0]}) hp hs' h0 hi hpc hk f7 f8;rw[q6.1,show(!true)=false from rfl,e1];simp only[Zf9];rw[Ir]at e2⊢;cases hb:(flw p u i).2
            · simp
            · have hfo:=GX (s:={u with Cond:=u.Cond++[(mkT 1 1 0 [(qst p u.Regs i).1]).1],Turns:=u.Turns++[0]}) hp hs' hi hpc hk f7 (by rw[Ir];exact hb)
              rw[Ir]at hfo;have:=e2 hb;subst this;rw[Ga hp hs];simp only[Zf9];rw[Dc,Zb3];rw[TY (hfo.fine hp)];simp[z,q6]
    simp_all
  · have hq:=Zb4 hk
    have h9:0<=stk p u i/\stk p u i<=9:=by
      unfold stk
      all_goals omega
    rw[hq,ZfC hk];simp only[ZfJ,ZfB,ZfK,ZgP,ZfR,Zf9,ZhE];rw[Zc5 hp hs hk];simp only[Zf9,ZfB,ZfK];rw[TY ((SC hs h9).fine hp)];rfl
def ZaC{p:D.Program}{s:D.Path}(hp:progB p=true)(hs:okP p s):Sy fuel p s=some (stp1 p s):=by
 have hst:=hs.st;have hpc:=hs.pc;rw[Za]at hpc;unfold Sy stp1;by_cases c1:s.Code≠0\/s.Steps=400
 ·simp_all
 have d1:s.Code=0/\s.Steps<400:=by omega
 rw[ZfD c1,ZfD aa,TY (hs.fine hp)];simp only[Zf9];by_cases c2:s.Pc=len p.Code
 ·simp_all
 rw[ZfD c2,ZfD ah];rw[Za]at c2;obtain⟨g1,g2⟩:=MS (p:=p) (k:=s.Pc) hpc.1 O;have hi:=Jj hp g2;have hs1:=JG hs d1.2;rw[g1,Zb];have hz:({s with Steps:=s.Steps+1}:D.Path).Code=0:=d1.1;have:=ZcG (fuel:=fuel) (u:={s with Steps:=s.Steps+1}) hp hs1 hz hi (by show s.Pc<_;omega);refine Eq.trans ?_ (this.trans ?_)
 ·rfl
 ·split<;>rfl
end Go.Proofs.YtjhiajehpjpibaaGreatDoor
end
section
namespace Go.Proofs.YtjhiajehpjpibaaGreatDoor
open Go.GL
set_option maxRecDepth 100000
variable{fuel:Nat}[FV fuel]
def ZeL{p:D.Program}{s:D.Path}{i:D.Ins}(hp:progB p=true)(hs:okP p s)(hi:insF p.W p.Code.length i)(hpc:s.Pc<p.Code.length)(hk:stk p s i=0):∀x∈dvd p s i,okP p x:=by
 intro x hx;unfold dvd at hx;by_cases q1:(qst p s.Regs i).2.2=false
 ·rw[ZfC q1,ZfL]at hx;subst hx;exact SC hs O
 rw[ZfD q1]at hx;have q1':(qst p s.Regs i).2.2=true:=by simpa using q1
 by_cases q2:(qst p s.Regs i).2.1=true/\(qst p s.Regs i).1.Op=0/\(qst p s.Regs i).1.N=1
 ·rw[ZfC q2,ZfL]at hx;subst hx;exact ZcA hs hi
 rw[ZfD q2]at hx
 have hfc:=QL hp hs hi q1' (λe=>by
  cases ha:(qst p s.Regs i).2.1
  ·rw[BD ha]at e;exact absurd e.2 au
  ·exact q2 ⟨ha,e⟩)
 by_cases q3:(flw p s i).2=false
 ·rw[ZfC q3,ZfL]at hx;subst hx;exact SC hs O
 rw[ZfD q3]at hx;have q3':(flw p s i).2=true:=by simpa using q3
 by_cases q4:(qst p s.Regs i).2.1=false\/(qst p s.Regs i).1.Op=0
 ·rw[ZfC q4,ZfL]at hx;subst hx;exact GX hp hs hi hpc hk hfc.1 q3'
 rw[ZfD q4]at hx;by_cases q5:(mkT 1 1 0 [(qst p s.Regs i).1]).2=false\/s.Cond.length=60\/s.Turns.length=60
 ·rw[ZfC q5,ZfL]at hx;subst hx;exact SC hs O
 rw[ZfD q5]at hx;have q6:(mkT 1 1 0 [(qst p s.Regs i).1]).2=true/\s.Cond.length≠60/\s.Turns.length≠60:=by simpa using q5
 have hcl:=hs.cl;have htl:=hs.tl;have ha:(qst p s.Regs i).2.1=true:=by
  cases h:(qst p s.Regs i).2.1
  ·exact absurd (.inl h) q4
  ·rfl
 rcases ZfY.1 hx with rfl|hx
 ·exact Ei (ZcA hs hi) (Jg ha q1') hs.cf O O hs.tl.2 O
 ·rw[ZfL]at hx;subst hx;exact Ei (GX hp hs hi hpc hk hfc.1 q3') (YT q6.1) hs.cf O O hs.tl.2 O
def ZdU(p:D.Program)(s:D.Path)(i:D.Ins):(dvd p s i).length=1\/(dvd p s i).length=2:=by
 unfold dvd
 repeat' split
 all_goals first|exact .inl rfl|exact .inr rfl
theorem Fa(p:D.Program)(s:D.Path):(stp1 p s).length<=2:=by
 unfold stp1;split
 ·simp
 ·split
  ·simp
  ·split
   ·simp
   ·rcases ZdU p {s with Steps:=s.Steps+1} (insAt p s.Pc)with h|h<;>omega
def Bc{p:D.Program}{s:D.Path}(hp:progB p=true)(hs:okP p s):∀x∈stp1 p s,okP p x:=by
 have hst:=hs.st;have hpc:=hs.pc;rw[Za]at hpc;intro x hx;unfold stp1 at hx;by_cases c1:s.Code≠0\/s.Steps=400
 ·rw[ZfC c1]at hx;cases hx
 rw[ZfD c1]at hx;by_cases c2:s.Pc=len p.Code
 ·rw[ZfC c2,ZfL]at hx;subst hx;exact SC hs O
 rw[ZfD c2]at hx;rw[Za]at c2;have hs1:=JG hs O;obtain⟨g1,g2⟩:=MS (p:=p) (k:=s.Pc) hpc.1 O;by_cases c3:stk p {s with Steps:=s.Steps+1} (insAt p s.Pc)=0
 ·rw[ZfD (λh=>h c3)]at hx;exact ZeL hp hs1 (Jj hp g2) (by show s.Pc<_;omega) c3 x hx
 ·rw[ZfC c3,ZfL]at hx;subst hx;refine SC hs1 ?_;unfold stk
  repeat' split
  all_goals omega
end Go.Proofs.YtjhiajehpjpibaaGreatDoor
end
section
namespace Go.Proofs.YtjhiajehpjpibaaGreatDoor
open Go.GL
set_option maxRecDepth 100000
variable{fuel:Nat}[FV fuel]
theorem Hz{w b:Int}{m:Nat}(hb:b=(m:Int))(hm:m<=100):∀(k j n:Nat),j+k=m->k<n->iterN (λ(s1:Int×(List D.Term))=>if(decide (s1.1<b))then(Zu w 0).bind λx2=>(app? s1.2 ([(D.Term.mk x2.Op x2.W x2.N x2.Name ([]:List D.Term))]:List D.Term)).bind λx3=>some (.inl ((w64 (s1.1+1)),x3))else some (.inr (s1.2)):Int×List D.Term->Option ((Int×List D.Term)⊕List D.Term)) n ((j:Int),List.replicate j (kT w 0))=some (List.replicate m (kT w 0)):=by
  intro k
  induction k with
  | zero=>
    simp_all[Zr,ZfD]
  | succ k ih=>
    intro j n hj hn;obtain⟨n,rfl⟩:∃q,n=q+1:=⟨n-1,by omega⟩;rw[<-ih (j+1) n O O];refine YB ?_;simp only[Y9,Zf9];rw[ZfC aa,VZ aa];rw[Zb,Zhg];rfl
theorem GJ{w b:Int}{m:Nat}{z:D.Term}(hw:wordB w 0=true)(hb:b=(m:Int))(hm:m<=100):∀(k j n:Nat),j+k=m->k<n->iterN (λ(s1:Int×(List D.Term))=>if(decide (s1.1<b))then(Zw w 0).bind λx3=>(set? s1.2 s1.1 (D.Term.mk x3.Op x3.W x3.N x3.Name ([]:List D.Term))).bind λx4=>some (.inl ((w64 (s1.1+1)),x4))else some (.inr (s1.2)):Int×List D.Term->Option ((Int×List D.Term)⊕List D.Term)) n ((j:Int),List.replicate j (kT w 0)++List.replicate k z)=some (List.replicate m (kT w 0)):=by
  intro k
  induction k with
  | zero=>
    simp_all[Zr,ZfD]
  | succ k ih=>
    intro j n hj hn;obtain⟨n,rfl⟩:∃q,n=q+1:=⟨n-1,by omega⟩;rw[<-ih (j+1) n O O];refine YB ?_;simp only[YI hw,Zf9];rw[ZfC aa,ZhA (n:=k),set_mid U];rw[Zb,Zhg (n:=j)];simp only[ZfO,Zgq];rfl
def path0(p:D.Program):D.Path:=⟨0,List.replicate 4 (kT p.W 0),List.replicate p.Mem.toNat (kT p.W 0),[],0,[],0,0,[],[]⟩
def Ig{p:D.Program}(hp:progB p=true):okP p (path0 p):=by
 have hq:=Ox hp;have hz:=ZeE (Qt hp);refine⟨⟨by show(0:Int)<=0;omega,by show(0:Int)<=_;simp[Za]⟩,rfl,λx hx=>?_,by show((List.replicate p.Mem.toNat (kT p.W 0)).length:Int)=_;simp;omega,λx hx=>?_,by show(0:Nat)<=3;omega,λx hx=>aQ,⟨by show(0:Int)<=0;omega,by show(0:Int)<=_;omega⟩,by show(0:Nat)<=6;omega,λx hx=>aQ,by show(0:Int)<=0/\(0:Int)<=9;omega,by show(0:Int)<=0/\(0:Int)<=400;omega,by show(0:Nat)<=60;omega,λx hx=>aQ,by show(0:Nat)<=60;omega,λx hx=>aQ⟩
 ·rw[(Zhu.1 hx).2];exact hz
 ·rw[(Zhu.1 hx).2];exact hz
def CX{p:D.Program}(hp:progB p=true)(hl:p.Code.length<=1048576):UU fuel p=some (path0 p):=by
 have hm:=Y1 hp;unfold UU;rw[MH hl,hp];have h1:=Hz (w:=p.W) (b:=4) (m:=4) rfl O 4 0 fuel rfl ag;have h2:=Hz (w:=p.W) (b:=p.Mem) (m:=p.Mem.toNat) O O p.Mem.toNat 0 fuel O ag;rw[show((0:Nat):Int)=0 from rfl,ZhB]at h1 h2;rw[h1];rw[h2];rfl
theorem CU{p:D.Program}(hp:progB p=true):Uy fuel p=some (path0 p):=by
 have hm:=Y1 hp;have hz:=Qt hp;unfold Uy;have m1:mk? 4 (D.Term.mk 0 0 0 ⟨[]⟩ ([]:List D.Term))=some (List.replicate 4 t0):=by
  rfl
 have m2:mk? p.Mem (D.Term.mk 0 0 0 ⟨[]⟩ ([]:List D.Term))=some (List.replicate p.Mem.toNat t0):=by
  simp_all[mk?,ZfC,room]<;>grind
 rw[m1,m2];simp only[Zf9];have h1:=GJ (z:=t0) (b:=len (List.replicate 4 t0)) (m:=4) hz ap O 4 0 fuel rfl ag;have h2:=GJ (z:=t0) (b:=len (List.replicate p.Mem.toNat t0)) (m:=p.Mem.toNat) hz (by simp[Za]) O p.Mem.toNat 0 fuel O ag;rw[show((0:Nat):Int)=0 from rfl,ZhB,Zhx]at h1 h2;rw[h1];rw[h2];rfl
end Go.Proofs.YtjhiajehpjpibaaGreatDoor
end
section
namespace Go.Proofs.YtjhiajehpjpibaaGreatDoor
open Go.GL
set_option maxRecDepth 100000
variable{fuel:Nat}[FV fuel]
def Zac{w:Int}{l:List D.Term}(h:fw w l):tsB l w=true:=by
 unfold tsB;rw[ZfV];intro t ht;rw[NG.2 (h t ht).1,(h t ht).2];simp
def okP.path{p:D.Program}{s:D.Path}(k:okP p s)(hp:progB p=true):pathB p s=true:=by
 unfold pathB;rw[hp,ZfV.2 λx hx=>by simpa using k.sp x hx,ZfV.2 λx hx=>by simpa using k.tl.2 x hx,Zac k.rf,Zac k.mf,Zac k.of,Zac k.cf];obtain⟨a1,a2,-,a3,-,a4,-,a5,a6,-,a7,a8,a9,-,a10,-⟩:=k;simp_all[Za,ZgG,Zgk,ZfF,ZfN,Zhc,decide_eq_true]<;>grind
section
variable{p:D.Program}{m:Int}(hp:progB p=true)(hm:0<=m/\m<=3000)
noncomputable def stF(p:D.Program)(m:Int)(s:D.Path):List D.Path:=if(stp1 p s).length=2 then(stp1 p s).filter λt=>(pinP p t m).1 !=2 else stp1 p s
include hp hm
theorem feas{s:D.Path}{k:Int}(hs:okP p s):Ua fuel s k p m=some (stF p m s,!(stp1 p s).isEmpty):=by
 have hl:=Fa p s;have ho:=Bc hp hs;unfold Ua Ri stF;rw[Zbp hp hs];simp only[Zf9];generalize stp1 p s=l at*;by_cases c:l.length=2
 ·rw[ZfD ak,ZfC c];refine Y5 (l:=l) (λj(a:List D.Path)=>((j:Int),a)) (λys a=>(∀y∈ys,okP p y)/\a.length+ys.length<=2/\a++ys.filter (λt=>(pinP p t m).1 !=2)=l.filter λt=>(pinP p t m).1 !=2) (λr=>r=l.filter λt=>(pinP p t m).1 !=2) (λj x xs a hj hx hlen⟨h1,h2,h3⟩=>?_) (λa⟨_,_,h⟩=>?_) (a:=[]) ⟨ho,by simp;omega,rfl⟩ lt_fuel λr hr=>?_
  ·have h0:=h1 x U;have h4:app? a [x]=some (a++[x]):=by simp_all[app?,room,ZfC]<;>grind
   rw[ZfC aq,get?_nat,hx];simp only[Zf9];rw[Gn (RP (h0.fine hp)) (h0.path hp) hm];grind[Zb]
  all_goals simp_all[ZfD,Za]<;>grind
 ·rw[ZfC aq,ZfD c,Za];cases l<;>simp
noncomputable def goF(p:D.Program)(most m:Int):Nat->D.Path->List D.Path×Bool->List D.Path×Bool
 |0,s,a=>if a.2=true then(a.1++[s],decide (len (a.1++[s])<=most))else a
 |k+1,s,a=>if a.2=true then if(stp1 p s).isEmpty=true then(a.1++[s],decide (len (a.1++[s])<=most))else(stF p m s).foldl (λa t=>goF p most m k t a) a else a
omit hp hm in
theorem ZeN{most:Int}{k:Nat}{s:D.Path}{a:List D.Path×Bool}(h:a.2=false):goF p most m k s a=a:=by
 cases k<;>simp[goF,h]
def EndsP(p:D.Program)(most:Int)(a:List D.Path×Bool):Prop:=(∀x∈a.1,okP p x)/\a.1.length<=65/\(a.2=true->(a.1.length:Int)<=most)
omit hm in
theorem Zb5{s:D.Path}(hs:okP p s):∀x∈stF p m s,okP p x:=λx hx=>Bc hp hs x (by unfold stF at hx;split at hx;all_goals first|exact(Zgv.1 hx).1|exact hx)
omit hm in
theorem FK{most:Int}(h64:most<=64):∀(k:Nat)(s:D.Path)(a:List D.Path×Bool),okP p s->EndsP p most a->EndsP p most (goF p most m k s a):=by
 have hf:∀{s:D.Path}{a:List D.Path×Bool},okP p s->EndsP p most a->a.2=true->EndsP p most (a.1++[s],decide (len (a.1++[s])<=most)):=λhs⟨h1,h2,h3⟩ha=>by
  have:=h3 ha;refine⟨λx hx=>?_,by simp;omega,λh=>by simpa[Za]using h⟩;rcases ZfG.1 hx with hx|hx
  all_goals first|exact h1 x hx|exact ZfL.1 hx▸hs
 intro k
 induction k with
 |zero=>
  intro s a hs he;unfold goF;split
  all_goals first|exact hf hs he ‹_› |exact he
 | succ k ih=>
  intro s a hs he;have key:∀(l:List D.Path)a,(∀x∈l,okP p x)->EndsP p most a->EndsP p most (l.foldl (λa t=>goF p most m k t a) a):=λl=>by
   induction l with
   |nil=>exact λ_ _ h=>h
   |cons x l il=>exact λa ho h=>il _ (λy hy=>ho y ao) (ih x a (ho x U) h)
  unfold goF;split
  ·split
   ·exact hf hs he ‹_›
   exact key _ _ (Zb5 hp hs) he
  ·exact he
def okS(n:Int)(z:D.Path×Bool):Prop:=z.1.Code≠2/\z.1.Steps=n
omit hp hm in
theorem Zeo{p:D.Program}{s:D.Path}{i:D.Ins}(h:s.Code=0):okS s.Steps (flw p s i):=by
 have h2:s.Code≠2:=by omega
 unfold flw;by_cases c1:i.Op=1
 ·rw[ZfC c1];exact⟨h2,rfl⟩
 rw[ZfD c1];by_cases c2:i.Op=2
 ·rw[ZfC c2];exact⟨h2,rfl⟩
 rw[ZfD c2];by_cases c3:i.Op=3
 ·rw[ZfC c3];exact⟨h2,rfl⟩
 rw[ZfD c3];by_cases c4:i.Op=4
 ·rw[ZfC c4];exact⟨h2,rfl⟩
 rw[ZfD c4];by_cases c5:i.Op=5
 ·rw[ZfC c5];exact⟨h2,rfl⟩
 rw[ZfD c5];by_cases c6:i.Op=6
 ·rw[ZfC c6];exact⟨h2,rfl⟩
 rw[ZfD c6];by_cases c7:i.Op=7
 ·rw[ZfC c7];exact⟨h2,rfl⟩
 rw[ZfD c7];by_cases c8:i.Op=8
 ·rw[ZfC c8];exact⟨h2,rfl⟩
 rw[ZfD c8]
 repeat' split
 all_goals first|exact⟨h2,rfl⟩|exact⟨by simp,rfl⟩
omit hp hm in
theorem ZaU{s t:D.Path}(h:t∈stp1 p s):(t.Code=2/\t.Steps=s.Steps)\/(t.Code≠2/\t.Steps=s.Steps+1):=by
 unfold stp1 at h;split at h
 ·cases h
 rename_i c0;have hc:s.Code=0:=by omega
 split at h
 ·rw[ZfL.1 h];exact .inl ⟨rfl,rfl⟩
 split at h
 ·rw[ZfL.1 h];refine .inr ⟨?_,rfl⟩;show stk p {s with Steps:=s.Steps+1} (insAt p s.Pc)≠2;unfold stk
  repeat' split
  all_goals decide
 have hn:(nmd {s with Steps:=s.Steps+1} (insAt p s.Pc)).Code≠2/\(nmd {s with Steps:=s.Steps+1} (insAt p s.Pc)).Steps=s.Steps+1:=by
  unfold nmd
  repeat' split
  all_goals first|exact⟨by show s.Code≠2;omega,rfl⟩|exact⟨by simp,rfl⟩
 have hf:(flw p {s with Steps:=s.Steps+1} (insAt p s.Pc)).1.Code≠2/\(flw p {s with Steps:=s.Steps+1} (insAt p s.Pc)).1.Steps=s.Steps+1:=by
  exact Zeo (s:={s with Steps:=s.Steps+1}) hc
 right;unfold dvd at h;split at h
 ·rw[ZfL.1 h];exact⟨by simp,rfl⟩
 split at h
 ·rw[ZfL.1 h];exact hn
 split at h
 ·rw[ZfL.1 h];exact⟨by simp,rfl⟩
 split at h
 ·rw[ZfL.1 h];exact hf
 split at h
 ·rw[ZfL.1 h];exact⟨by simp,rfl⟩
 ·rcases ZfY.1 h with rfl|h
  ·exact hn
  ·rw[ZfL.1 h];exact hf
omit hp hm in
theorem took{s t:D.Path}(hs:okP p s)(h:t∈stp1 p s):XU s t=some 1:=by
 have hst:=hs.st;unfold XU;rcases ZaU h with⟨h1,h2⟩|⟨h1,h2⟩
 ·rw[h1,h2,Zb (x:=s.Steps-s.Steps),Zb];simp
 ·rw[h2,show(t.Code==2)=false by simpa using h1,Zb (x:=s.Steps+1-s.Steps)];simp;omega
omit hp hm in
theorem BR{e:List D.Path}{s:D.Path}(h:e.length<=65):app? e ([s]:List D.Path)=some (e++[s]):=by
 unfold app? room;rw[ZfC aa]
theorem Zej{most:Int}(hc:p.Code.length<=1048576)(h64:most<=64):∀(k:Nat)(s:D.Path)(e:List D.Path)(n:Nat),okP p s->EndsP p most (e,true)->4194400+k<n->k<=400->
  Yd n ⟨p,most,m,e⟩ s (k:Int)=some ((goF p most m k s (e,true)).2,⟨p,most,m,(goF p most m k s (e,true)).1⟩):=by
 intro k
 induction k with
 |zero=>
  intro s e n hs he hn _;obtain⟨n,rfl⟩:∃m,n=m+1:=⟨n-1,by omega⟩;rw[Yd,goF,ifn];simp only[Zf9];rw[ZfC (by simp[len]),BR he.2.1];rfl
 | succ k ih=>
  intro s e n hs he hn hk;obtain⟨n,rfl⟩:∃m,n=m+1:=⟨n-1,by omega⟩
  haveI:FV n:=⟨by omega⟩
  rw[Yd,goF,ifp];simp only;rw[ZaC hp hs];simp only[Zf9,ZfR];have hl:=Fa p s;have ho:=Bc hp hs;by_cases c:(stp1 p s).isEmpty=true
  ·rw[ZfC c,Zie.1 c,ZfC (by simp[len]),BR he.2.1];rfl
  rw[ZfD c,ZfD ak,show w64 (((k+1:Nat):Int)-1)=(k:Int) by grind[Zb]];unfold stF;generalize stp1 p s=l at*
  rw[show(if l.length=2 then l.filter λt=>(pinP p t m).1 !=2 else l)=l.filter λt=>!(l.length==2)||(pinP p t m).1 !=2 from(by
   by_cases h:l.length=2
   ·simp[h]
   ·rw[ZfD h];grind[List.filter_eq_self]),List.foldl_filter]
  generalize hf:(λ(a:List D.Path×Bool)t=>if(!(l.length==2)||(pinP p t m).1 !=2)=true then goF p most m k t a else a)=f;have hno:∀(ys:List D.Path)a,ys.foldl f (a,false)=(a,false):=λys a=>by
   induction ys with
   |nil=>rfl
   |cons y ys ih=>rw[Zhk,show f (a,false) y=(a,false) by rw[<-hf];simp[ZeN],ih]
  refine Y5 (l:=l) (λj(a:List D.Path)=>((j:Int),most,m,a)) (λys a=>(∀y∈ys,okP p y)/\EndsP p most (a,true)/\l.foldl f (e,true)=ys.foldl f (a,true)) (λr=>r=(match l.foldl f (e,true)with|(e',true)=>.inl (most,m,e')|(e',false)=>.inr (false,⟨p,most,m,e'⟩))) (λj x xs a hj hx hlen⟨h1,ha,h3⟩=>?_) (λa⟨_,_,h⟩=>?_) ⟨ho,he,rfl⟩ O λr hr=>?_
  ·have h0:=h1 x U;have h5:∀y∈xs,okP p y:=λy hy=>h1 y ao;have hg:=FK (m:=m) hp h64 k x (a,true) h0 ha;have hr:=ih x a n h0 ha O O;rw[ZfC ai,get?_nat,hx];simp only[Zf9];rw[Zhk]at h3;rw[Zb];have hq:(len l==2&&decide (m>=0))=(l.length==2):=by
    rw[Za,decide_eq_true (show m>=0 from hm.1),ZgG,ZgS];simp;omega
   have hcode:∀{α:Type}(Y Z:α),(if(l.length==2)=true then(if((pinP p x m).1==2)=true then Y else Z)else Z)=if(!(l.length==2)||(pinP p x m).1 !=2)=true then Z else Y:=λY Z=>by
    cases l.length==2<;>cases h:(pinP p x m).1==2<;>simp_all[bne]
   simp only[hq,DT hc (RP (h0.fine hp)),Zf9,hr,hcode];rw[show f (a,true) x=if(!(l.length==2)||(pinP p x m).1 !=2)=true then goF p most m k x (a,true)else(a,true) by rw[<-hf]]at h3;by_cases hk:(!(l.length==2)||(pinP p x m).1 !=2)=true
   ·rw[ZfC hk]at h3;simp only[ZfC hk];generalize goF p most m k x (a,true)=z at*;obtain⟨z,b⟩:=z;cases b
    ·exact .inr ⟨_,rfl,by rw[h3,hno]⟩
    ·exact .inl ⟨z,rfl,h5,hg,h3⟩
   ·rw[ZfD hk]at h3;simp only[ZfD hk];exact .inl ⟨a,rfl,h5,ha,h3⟩
  ·rw[ZfD ar];rw[h];exact⟨_,rfl,rfl⟩
  ·rw[hr];generalize l.foldl f (e,true)=z;obtain⟨z,b⟩:=z;cases b<;>rfl
theorem Zee{most:Int}(h64:most<=64):∀(k:Nat)(s:D.Path)(a:List D.Path×Bool)(n:Nat),okP p s->EndsP p most a->4194400+k<n->k<=400->
  Zl n ⟨most,a.1,!a.2,(),()⟩ s (k:Int) p m=some ⟨most,(goF p most m k s a).1,!(goF p most m k s a).2,(),()⟩:=by
 intro k
 induction k with
 |zero=>
  intro s a n hs he hn _;obtain⟨n,rfl⟩:∃m,n=m+1:=⟨n-1,by omega⟩;rw[Zl,goF];obtain⟨a,b⟩:=a;cases b
  ·rfl
  simp only[ZfJ,ZfB,ZfK,ZfR];rw[ifn,BR he.2.1];grind
 | succ k ih=>
  intro s a n hs he hn hk;obtain⟨n,rfl⟩:∃m,n=m+1:=⟨n-1,by omega⟩
  haveI:FV n:=⟨by omega⟩
  rw[Zl,goF];obtain⟨a,b⟩:=a;cases b
  ·rfl
  simp only[ZfJ,ZfB,ZfK,ZfR];rw[ifp,feas hp hm hs];simp only[Zf9];by_cases c:(stp1 p s).isEmpty=true
  ·rw[ZfC c,c,ifn,BR he.2.1];grind
  rw[ZfD c,show(stp1 p s).isEmpty=false by simpa using c];have ho:∀t∈stF p m s,okP p t/\XU s t=some 1:=λt ht=>⟨Zb5 hp hs t ht,took hs (by grind[stF])⟩;have hl:(stF p m s).length<=2:=by
   grind[Fa,stF,List.length_filter_le,pinP,stp1]
  have hw:w64 (((k+1:Nat):Int)-1)=(k:Int):=by grind[Zb]
  generalize stF p m s=l at*;refine Y5 (l:=l) (λj(a:List D.Path×Bool)=>((j:Int),most,!a.2,a.1)) (λys b=>(∀t∈ys,okP p t/\XU s t=some 1)/\EndsP p most b/\l.foldl (λa t=>goF p most m k t a) (a,true)=ys.foldl (λa t=>goF p most m k t a) b) (λr=>r=(most,!(l.foldl (λa t=>goF p most m k t a) (a,true)).2,(l.foldl (λa t=>goF p most m k t a) (a,true)).1)) (a:=(a,true)) (λj x xs b hj hx hlen⟨h1,ha,h3⟩=>?_) (λb⟨_,_,h⟩=>?_) ⟨ho,he,rfl⟩ O λr hr=>?_
  ·obtain⟨h0,h2⟩:=h1 x U;rw[ZfC ai,get?_nat,hx];simp only[Zf9,h2,hw,ih x b n h0 ha O O];exact .inl ⟨goF p most m k x b,by rw[Zb];rfl,λy hy=>h1 y ao,FK hp h64 k x b h0 ha,h3⟩
  ·rw[ZfD ar];rw[h];exact⟨_,rfl,rfl⟩
  ·rw[hr]
end
end Go.Proofs.YtjhiajehpjpibaaGreatDoor
end
