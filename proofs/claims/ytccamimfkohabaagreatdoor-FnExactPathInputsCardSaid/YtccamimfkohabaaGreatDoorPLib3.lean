/- Texts of this claim put into one: library or plain laws, without the program under test. -/
import Derived.Test.YtccamimfkohabaaGreatDoorPLib2
set_option linter.unusedSimpArgs false
set_option linter.unusedVariables false
set_option linter.defProp false
section
namespace Go.Proofs.YtccamimfkohabaaGreatDoor.Sv
open Go.GL
set_option maxRecDepth 100000
section
variable{f:D.Formula}{m:Nat}{occ:List (List Int)}{limit:Int}
def Zbu{l:List Int}(h:l.length<=1000000):app? ([]:List Int) l=some l:=by
 unfold app? room;rw[Zei aa];rfl
def ZdP{a:List Int}(hA:Asg m a){v:Nat}(h1:1<=v)(h2:v<=m):set? a (v:Int) (-1)=some (stA a (-(v:Int)))/\set? a (v:Int) 1=some (stA a (v:Int)):=by
 have:=hA.len;have hb:0<=(v:Int)/\(v:Int).toNat<a.length:=⟨by omega,by rw[ZeS];omega⟩;unfold set? stA;constructor
 ·rw[Zei hb,Zei (show-(v:Int)<0 by omega),ZeS,Zgc];rfl
 ·rw[Zei hb,Zem (show¬(v:Int)<0 by omega),ZeS];rfl
theorem ZdE(hf:FmP f m)(hl3:limit<=3000):∀(d:Nat)(v:List Int)(s:Int)(n:Nat),Asg m v->zer v<=d->4000000+d<=n->0<=s->s<=limit->
  Zx n ⟨f,limit,s,false⟩ v=some ((brn m f.Clauses limit d v s).2.1,D.Prf.mk,(brn m f.Clauses limit d v s).1==1,⟨f,limit,(brn m f.Clauses limit d v s).2.2,(brn m f.Clauses limit d v s).1==3⟩):=by
 intro d
 induction d with
 | zero=>
  intro v s n hA hz
  have:0<zer v:=Zgu.2 (by
   have h1:=hA.nul;have h2:=SA (a:=v) (i:=0) (by have:=hA.len;omega);rw[h1]at h2
   exact Zel h2)
  omega
 | succ d ih=>
  intro v s n hA hz hn h0 hs;obtain⟨n,rfl⟩:∃k,n=k+1:=⟨n-1,by omega⟩;have hm:=hf.small;have hvl:=hA.len;obtain⟨b,a,e1,e2⟩:=Zai hf hA (n:=n) O;rw[Zx,e1];simp only[Zee];rcases e2 with⟨rfl,e2⟩|⟨rfl,e2⟩;rotate_left
  ·have hb:brn m f.Clauses limit (d+1) v s=(2,[],s):=by unfold brn;rw[e2]
   rw[ifp,hb];rfl
  have hb:brn m f.Clauses limit (d+1) v s=srch m f.Clauses limit (d+1) a s:=by unfold brn;rw[e2]
  have hok:=Pn e2;have hza:=Fh hA hok;have hal:=hok.asg.len;rw[ifn,hb,PW];obtain⟨w,hw,e3⟩:=Zc7 (a:=a) (n:=n) (N:=len v) (by rw[Za];omega) O O;rw[e3,ZbS hw];simp only[Zee];by_cases c1:w=0
  ·rw[Zei c1,ifp,Zei c1];rfl
  rw[Zem c1];obtain⟨k1,k2,k3,k4⟩:=GM hok.asg hw c1;have hwm:1<=w/\w<=m:=by have:=k1.2;omega
  rw[Zem ah,Zem c1];by_cases c2:s=limit
  ·rw[Zei aT,Zei c2];rfl
  rw[Zem aT,Zem c2];have e4:w64 (s+1)=s+1:=Zb;obtain⟨t1,t2⟩:=ZdP hok.asg hwm.1 hwm.2;have one:∀(l:Int),isL m l->lv a l=0->∀s':Int,0<=s'->s'<=limit->Zx n ⟨f,limit,s',false⟩ (stA a l)=some ((brn m f.Clauses limit d (stA a l) s').2.1,D.Prf.mk,(brn m f.Clauses limit d (stA a l) s').1==1,⟨f,limit,(brn m f.Clauses limit d (stA a l) s').2.2,(brn m f.Clauses limit d (stA a l) s').1==3⟩):=λl hl hl0 s' hs0 hs1=>by
   have hz1:=OQ hok.asg hl hl0;exact ih (stA a l) s' n (Lv hok.asg hl) O O hs0 hs1
  generalize hQ:(if(brn m f.Clauses limit d (stA a (-(w:Int))) (s+1)).1=2 then brn m f.Clauses limit d (stA a (w:Int)) (brn m f.Clauses limit d (stA a (-(w:Int))) (s+1)).2.2 else brn m f.Clauses limit d (stA a (-(w:Int))) (s+1))=Q;have hb1:=He m f.Clauses limit d (stA a (-(w:Int))) (s+1) O;have ha0:=Zbu (l:=a) O;rw[e4];obtain⟨k,rfl⟩:∃j,n=j+3:=⟨n-3,by omega⟩;generalize hR1:brn m f.Clauses limit d (stA a (-(w:Int))) (s+1)=R1 at*;have g:=one (-(w:Int)) k2 k4 (s+1) O O;rw[hR1]at g;by_cases c:R1.1=2
  ·rw [RP (n:=k+2) (s':=(1,limit,R1.2.2,false,[D.Prf.mk])) (by
      show((app? ([]:List Int) a).bind λx4=>(set? x4 (w:Int) (-1)).bind λx5=>(Zx (k+3) (D.l03Work.mk f limit (s+1) false) x5).bind _)=_;rw[ha0];simp only[Zee];rw[t1];simp only[Zee];rw[g];simp only[Zee]
      rw[Zem (by rw[c];decide),show w64 (0+1)=1 by decide,c];rfl),<-hQ,Zei c]
   have g:=one (w:Int) k1 k3 R1.2.2 (by have:=hb1.lo;omega) hb1.hi;have hk:=He m f.Clauses limit d (stA a (w:Int)) R1.2.2 hb1.hi;generalize brn m f.Clauses limit d (stA a (w:Int)) R1.2.2=R at*;by_cases c:R.1=2
   ·rw[RP (n:=k+1) (s':=(2,limit,R.2.2,R.1==3,[D.Prf.mk,D.Prf.mk])) (by
      show((app? ([]:List Int) a).bind λx4=>(set? x4 (w:Int) 1).bind λx5=>(Zx (k+3) (D.l03Work.mk f limit R1.2.2 false) x5).bind _)=_;rw[ha0];simp only[Zee];rw[t2];simp only[Zee];rw[g];simp only[Zee]
      rw[Zem (by rw[c];decide),show w64 (1+1)=2 by decide];rfl),ZV (r:=.inl (limit,R.2.2,R.1==3,[D.Prf.mk,D.Prf.mk])) rfl O,hk.nil O,c];rfl
   ·rw[ZV (r:=.inr (R.2.1,D.Prf.mk,R.1==1,⟨f,limit,R.2.2,R.1==3⟩)) (by
      show((app? ([]:List Int) a).bind λx4=>(set? x4 (w:Int) 1).bind λx5=>(Zx (k+3) (D.l03Work.mk f limit R1.2.2 false) x5).bind _)=_;rw[ha0];simp only[Zee];rw[t2];simp only[Zee];rw[g];simp only[Zee]
      rw[Zei (by rcases hk.code with h|h|h<;>simp[h]at c⊢)]) O];rfl
  ·rw [ZV (r:=.inr (R1.2.1,D.Prf.mk,R1.1==1,⟨f,limit,R1.2.2,R1.1==3⟩)) (by
      show((app? ([]:List Int) a).bind λx4=>(set? x4 (w:Int) (-1)).bind λx5=>(Zx (k+3) (D.l03Work.mk f limit (s+1) false) x5).bind _)=_;rw[ha0];simp only[Zee];rw[t1];simp only[Zee];rw[g];simp only[Zee]
      rw[Zei (by rcases hb1.code with h|h|h<;>simp[h]at c⊢)]) O,<-hQ,Zem c];rfl
end
section
variable{f:D.Formula}{m:Nat}{limit:Int}
noncomputable def serP(f:D.Formula)(m:Nat)(limit:Int):Int×List Bool×Int:=
 let r:=brn m f.Clauses limit (m+1) (List.replicate (m+1) 0) 0
 (r.1,if r.1=1 then bls r.2.1 else[],r.2.2)
def Cs{a:List Int}(hA:Asg m a):zer a<=m+1:=by
 have:=List.count_le_length (a:=(0:Int)) (l:=a);have:=hA.len;unfold zer;omega
def impl_search(hf:FmP f m)(h0:0<=limit)(hl3:limit<=3000){n:Nat}(hn:4002000<=n)(hk:XG n f=some true):TJ n f [] limit=some (serP f m limit):=by
 have hm:=hf.small;obtain⟨occ,e1,ho⟩:=DU hf (n:=n) O;have e0:Y3 n [] f.Vars=some true:=by
  unfold Y3;rw[ZV (r:=.inl ()) (by simp[len]) O];rfl
 have e2:YG limit=some true:=by unfold YG;simp;omega
 unfold TJ;rw[hk];simp only[Zee,Zep,Zeg,Zen,ZeN,e0,e2,e1];obtain⟨a',b,g1,g2⟩:=start_eq hf ho (n:=n) O;unfold WP serP brn;rw[g1];simp only[Zee];rcases g2 with⟨rfl,g3,g4⟩|⟨rfl,g4⟩
 ·have hok:=Pn g4;rw[ifn,g4];have:=Zd9 hf ho hl3 (m+1) a'.val a'.queue 0 [] n hok.asg hok.cl (Cs hok.asg) O O h0;rw[show a'=⟨a'.val,a'.queue⟩from rfl,this];rfl
 ·rw[ifp,g4];rfl
theorem ZaI{a:List Int}(hA:Asg m a)(hm:m<=400){n:Nat}(hn:2000<=n):iterN (λ(s1:Int×(List Bool))=>if(decide (s1.1<(len (a.drop 1))))then(get? (a.drop 1) s1.1).bind λx7=>(app? s1.2 ([(decide (x7>0))]:List Bool)).bind λx8=>some (.inl ((w64 (s1.1+1)),x8))else some (.inr (s1.2))) n (0,([]:List Bool))=some (bls a):=by
  have hlen:=hA.len;have hd:(a.drop 1).length=m:=by rw[Zex];omega
  have key:∀(d i k:Nat),i+d=m->d<k->iterN (λ(s1:Int×(List Bool))=>if(decide (s1.1<(len (a.drop 1))))then(get? (a.drop 1) s1.1).bind λx7=>(app? s1.2 ([(decide (x7>0))]:List Bool)).bind λx8=>some (.inl ((w64 (s1.1+1)),x8))else some (.inr (s1.2))) k ((i:Int),(bls a).take i)=some (bls a):=by
    intro d
    induction d with
    | zero=>
      intro i k hi hk;have hd':decide ((i:Int)<len (a.drop 1))=false:=by rw[Za,hd];exact decide_eq_false O
      refine ZV ?_ O;simp only[hd',Zeg,Zen];rw[Zfa (by rw[bls_len hA];omega)]
    | succ d ih=>
      intro i k hi hk;obtain⟨k,rfl⟩:∃j,k=j+1:=⟨k-1,by omega⟩;have hd':decide ((i:Int)<len (a.drop 1))=true:=by rw[Za,hd];exact decide_eq_true O
      have e1:w64 ((i:Int)+1)=((i+1:Nat):Int):=by rw[Zb];rfl
      have hil:i<(bls a).length:=by rw[bls_len hA];omega
      have hig:i<(a.drop 1).length:=by omega
      rw[RP (s':=(((i+1:Nat):Int),(bls a).take (i+1))) (by
        simp only[hd',Ze2,e1];rw[get?_nat,Zef hig];simp only[Zee];rw[CG (by rw[Ze1];omega)];simp only[Zee];rw[Zet hil]
        simp only[bls,List.getElem_map])]
      exact ih (i+1) k O O
  exact key m 0 n O O
def BN(hm:m<=400){n:Nat}(hn:1<=n):Tx n (m:Int) []=some (List.replicate (m+1) 0,true):=by
 unfold Tx;rw[Zb,show((m:Int)+1)=((m+1:Nat):Int)from rfl,Hy O];simp only[Zee];rw[ZV (r:=.inl (List.replicate (m+1) 0)) (by simp[len]) O];rfl
theorem Ea{cs:List (List Int)}:∀(d:Nat)(a:List Int)(s:Int),Asg m a->(srch m cs limit d a s).1=1->Asg m (srch m cs limit d a s).2.1
 |0,_,_,_,h=>by simp[srch]at h
 | d+1,a,s,hA,h=>by
  have hb:∀(v:List Int)(s':Int),(brn m cs limit d v s').1=1->Asg m (brn m cs limit d v s').2.1:=λv s' h'=>by
   unfold brn at h'⊢;cases hc:clo m cs v with
   |none=>rw[hc]at h';simp at h'
   |some b=>rw[hc]at h';exact Ea d b s' (Pn hc).asg h'
  rw[PW]at h⊢;by_cases c1:lfr a=0
  ·rw[Zei c1];exact hA
  rw[Zem c1]at h⊢;by_cases c2:s=limit
  ·rw[Zei c2]at h;simp at h
  rw[Zem c2]at h⊢;by_cases c3:(brn m cs limit d (stA a (-(lfr a:Int))) (s+1)).1=2
  ·rw[Zei c3]at h⊢;exact hb _ _ h
  ·rw[Zem c3]at h⊢;exact hb _ _ h
theorem brn_asg{cs:List (List Int)}(d:Nat)(v:List Int)(s:Int)(h:(brn m cs limit d v s).1=1):Asg m (brn m cs limit d v s).2.1:=by
 unfold brn at h⊢;cases hc:clo m cs v with
 |none=>rw[hc]at h;simp at h
 |some b=>rw[hc]at h;exact Ea d b s (Pn hc).asg h
def spec_search(hf:FmP f m)(h0:0<=limit)(hl3:limit<=3000){n:Nat}(hn:4002000<=n)(hk:XQ n f=some true):TH n f [] limit=some (serP f m limit):=by
 have hm:=hf.small;have e0:X0 n [] f.Vars=some true:=by
  unfold X0;rw[ZV (r:=.inl ()) (by simp[len]) O];rfl
 have e2:Zc limit 0 3000=some true:=by unfold Zc;simp;omega
 unfold TH;rw[hk];simp only[Zee,Zep,Zeg,Zen,ZeN,e0,e2];rw[hf.vars,BN hm O];simp only[Zee,Zep,Zeg,Zen];have hz:=IP m;rw[ZdE hf hl3 (m+1) _ 0 n hz (Cs hz) O O h0];simp only[Zee];unfold serP;have hb:=He m f.Clauses limit (m+1) (List.replicate (m+1) 0) 0 h0;have hasg:(brn m f.Clauses limit (m+1) (List.replicate (m+1) 0) 0).1=1->Asg m (brn m f.Clauses limit (m+1) (List.replicate (m+1) 0) 0).2.1:=λh=>brn_asg _ _ _ h;generalize brn m f.Clauses limit (m+1) (List.replicate (m+1) 0) 0=R at*;dsimp only;by_cases c:R.1=1
 ·have hA:=hasg c;have hlen:=hA.len;rw[Zem (by rw[c];decide),Zei c,c];have e4:cut? R.2.1 1 (len R.2.1)=some (R.2.1.drop 1):=by
   unfold cut?;rw[Za,ifp,ZeS,Zf1];rfl
  rw[e4];simp only[Zee];rw[ZaI hA hm O];rfl
 ·rw[Zei aA,Zem c];rcases hb.code with h|h|h
  ·exact absurd h c
  ·rw[Zem (by rw[h];decide),h]
  ·rw[Zei (by rw[h];decide),h]
end
end Go.Proofs.YtccamimfkohabaaGreatDoor.Sv
end
section
namespace Go.Proofs.YtccamimfkohabaaGreatDoor
open Go.GL
open Cc (BS LS CircP Grow GoodL Good litN lines negs seqP ifP opP net RelB FOk FU)
set_option maxRecDepth 100000
structure CircT(t:D.Term)(L:List D.Value):Prop where
 vars:Y5 fuel t=some L
 ivars:WL fuel t=some (L.map zv)
 circ:CircP (circT t).1
 len:(circT t).2.1.length=t.W.toNat
 lits:∀x∈(circT t).2.1,litN (lines (circT t).1) x=true
 sum:(circT t).1.Inputs=(wsum L:Int)
 wid:∀v∈L,1<=v.W/\v.W<=16
 num:L.length<=1000
def Ka{t:D.Term}(h:termB t=true)(hs:msz t<=1048576)(h3:(circT t).2.2=true):∃L,CircT t L:=by
 obtain⟨L,e,hL,hn,hc,hw,hnm,hlen,hb0⟩:=Qw h hs;unfold circT at h3;rw[Zei h]at h3;simp only[e,ZeF]at h3;have hE:circT t=(if bitsV L 0>30\/(nP L t (⟨bitsV L 0,[]⟩,false)).2.2=true then(c0,[],false)else((nP L t (⟨bitsV L 0,[]⟩,false)).2.1,(nP L t (⟨bitsV L 0,[]⟩,false)).1,true)):=by
  unfold circT;rw[Zei h];simp only[e,ZeF]
 by_cases hb:bitsV L 0>30\/(nP L t (⟨bitsV L 0,[]⟩,false)).2.2=true
 ·rw[Zei hb]at h3;cases h3
 ·rw[Zem hb]at hE;have hC:=ND hb0 O;have hv:VF L (⟨bitsV L 0,[]⟩:D.Circuit):=⟨λv hv=>(hw v hv).1,rfl⟩;have g:=PS hL.nm _ t (⟨bitsV L 0,[]⟩,false) (Zes _) hn hL.all hC hv;refine⟨L,e,by rw[Iz h hs,<-hL.eq],by rw[hE];exact g.circ,by rw[hE];exact g.len,by rw[hE];exact g.lits,?_,hw,hlen⟩;rw[hE];have:=g.grow.inputs;have:=IK L 0 hw;simp only at*;omega
def formT(t:D.Term):D.Formula:=⟨lines (circT t).1,Cc.accF (circT t).1 (circT t).1.Gates.length++[[(circT t).2.1.getD 0 0]]⟩
noncomputable def solP(t:D.Term)(limit:Int):Int×List D.Value:=
 if termB t=true/\t.W=1/\0<=limit/\limit<=3000 then
  if(circT t).2.2=true then
   if(Sv.serP (formT t) (lines (circT t).1).toNat limit).1=1 then(1,valsP (Sv.serP (formT t) (lines (circT t).1).toNat limit).2.1 1 ((Y5 fuel t).getD []))else((Sv.serP (formT t) (lines (circT t).1).toNat limit).1,[])
  else(3,[])
 else(0,[])
def Gw(x:Int):Cc.iab x=(x.natAbs:Int):=by unfold Cc.iab;split<;>omega
section
variable{t:D.Term}{L:List D.Value}(hT:CircT t L)(hw1:t.W=1)
include hT hw1
theorem lit0:(circT t).2.1[0]? =some ((circT t).2.1.getD 0 0)/\litN (lines (circT t).1) ((circT t).2.1.getD 0 0)=true:=by
 have hl:=hT.len;rw[hw1]at hl;have h0:0<(circT t).2.1.length:=by rw[hl];decide
 have hg:(circT t).2.1.getD 0 0=(circT t).2.1[0]:=by rw[Zer,Zef h0];rfl
 exact⟨by rw[Zef h0,hg],by rw[hg];exact hT.lits _ (ZeI h0)⟩
theorem FZ:Cc.formP (circT t).1 ((circT t).2.1.getD 0 0)=(formT t,true):=by
 unfold Cc.formP formT;rw[Cc.circP_iff.2 hT.circ,(lit0 hT hw1).2];rfl
theorem Ni:Sv.FmP (formT t) (lines (circT t).1).toNat/\(formT t).Clauses.length<=1600:=by
 have h0:=hT.circ.lines0;have h1:=hT.circ.lines1;have hg:=hT.circ.len;have hi:=Cc.form_inc hT.circ (lit0 hT hw1).2;have hn:(formT t).Clauses.length<=1600:=by unfold formT;simp only[Zeo,Cc.accF_len,Ze3,Zf4];omega
 have hv:(formT t).Vars=lines (circT t).1:=rfl;refine⟨⟨by rw[hv];omega,by omega,hn,λc hc=>?_⟩,hn⟩;obtain⟨⟨a1,a2⟩,a3⟩:=hi c hc;refine⟨⟨λx hx=>?_,a2.imp λh=>?_⟩,by omega⟩
 ·have:=Cc.litN_iff.1 (a1 x hx);rw[Gw]at this;exact⟨by omega,by omega⟩
 ·rw[Gw,Gw]at h;intro e;rw[e]at h;omega
theorem Zcp:XG fuel (formT t)=some true:=by
 have h1:=hT.circ.lines1;have h0:=hT.circ.lines0;have hi:=Cc.form_inc hT.circ (lit0 hT hw1).2;have hv:(formT t).Vars=lines (circT t).1:=rfl;exact Cc.impl_fok (by rw[hv];omega) (by rw[hv];omega) (Ni hT hw1).2 λc hc=>⟨(hi c hc).1,by have:=(hi c hc).2;omega⟩
theorem Zcg:XQ fuel (formT t)=some true:=by
 have h1:=hT.circ.lines1;have h0:=hT.circ.lines0;have hi:=Cc.form_inc hT.circ (lit0 hT hw1).2;have hv:(formT t).Vars=lines (circT t).1:=rfl;exact Cc.spec_fok (by rw[hv];omega) (by rw[hv];omega) (Ni hT hw1).2 λc hc=>⟨(hi c hc).1,by have:=(hi c hc).2;omega⟩
omit hw1 in
theorem KR{limit:Int}(h:(Sv.serP (formT t) (lines (circT t).1).toNat limit).1=1):(Sv.serP (formT t) (lines (circT t).1).toNat limit).2.1.length<=1000/\1+wsum L<=(Sv.serP (formT t) (lines (circT t).1).toNat limit).2.1.length:=by
 unfold Sv.serP at h⊢;dsimp only at h⊢;rw[Zei h,Sv.bls_len (Sv.brn_asg _ _ _ h)];have h1:=hT.circ.lines1;have hs:=hT.sum;unfold Cc.lines at h1⊢;omega
end
def ZdC(limit:Int):Zc limit 0 3000=some (decide (0<=limit/\limit<=3000)):=by
 unfold Zc;congr 1;rw[Zf6];simp
def ZcO(limit:Int):YG limit=some (decide (0<=limit/\limit<=3000)):=by
 unfold YG;congr 1;rw[Zf6];simp
def Ml{t:D.Term}{limit:Int}(h:¬(termB t=true/\t.W=1/\0<=limit/\limit<=3000)):solP t limit=(0,[]):=by unfold solP;rw[Zem h]
def ZaD{t:D.Term}{limit:Int}(h:termB t=true/\t.W=1/\0<=limit/\limit<=3000)(h3:¬(circT t).2.2=true):solP t limit=(3,[]):=by unfold solP;rw[Zei h,Zem h3]
def ZbV{t:D.Term}{limit:Int}(h:termB t=true/\t.W=1/\0<=limit/\limit<=3000)(h3:(circT t).2.2=true):solP t limit=if(Sv.serP (formT t) (lines (circT t).1).toNat limit).1=1 then(1,valsP (Sv.serP (formT t) (lines (circT t).1).toNat limit).2.1 1 ((Y5 fuel t).getD []))else((Sv.serP (formT t) (lines (circT t).1).toNat limit).1,[]):=by unfold solP;rw[Zei h,Zei h3]
def Ci{t:D.Term}{limit:Int}(hs:msz t<=1048576):VK fuel t limit=some (solP t limit):=by
 unfold VK;rw[UA hs];simp only[Zee];by_cases h:termB t=true;rotate_left
 ·rw[Ml (λq=>h q.1)];have h':termB t=false:=by simpa using h
  rw[h'];rfl
 by_cases hw:t.W=1;rotate_left
 ·rw[Ml (λq=>hw q.2.1),h,show(t.W !=1)=true by simpa using hw];rfl
 rw[h,show(t.W !=1)=false by simpa using hw,ZdC];simp only[Zep,ZeN,Zeg,Zen,Zee];by_cases hl:0<=limit/\limit<=3000;rotate_left
 ·rw[Ml (λq=>hl q.2.2),decide_eq_false hl];rfl
 rw[decide_eq_true hl];simp only[Zep,Zeg,Zen,ER hs,Zee];by_cases h3:(circT t).2.2=true;rotate_left
 ·rw[ZaD ⟨h,hw,hl⟩ h3,Zei aK]
 rw[ZbV ⟨h,hw,hl⟩ h3,Zem (by rw[h3];decide)];obtain⟨L,hT⟩:=Ka h hs h3;have hg:=hT.circ.len;have f1:=(Ni hT hw).1;have f2:=Zcg hT hw;rw[show get? (circT t).2.1 0=_ from(get?_nat (i:=0)).trans (lit0 hT hw).1];simp only[Zee];rw[Cc.spec_FormulaOf_eq hT.circ.fit O,FZ hT hw];simp only[Zee];rw[Sv.spec_search f1 hl.1 hl.2 al f2];simp only[Zee];by_cases h4:(Sv.serP (formT t) (lines (circT t).1).toNat limit).1=1
 ·obtain⟨m1,m2⟩:=KR hT h4;rw[Zem (by simpa using h4),Zei h4,hT.vars];simp only[Zee,ZeF];rw[Gx m1 hT.num hT.wid al m2,h4];rfl
 ·rw[Zei (by simpa using h4),Zem h4]
def EQ{t:D.Term}{limit:Int}(hs:msz t<=1048576):Vp fuel t limit=some (solP t limit):=by
 unfold Vp;rw[SI hs];simp only[Zee];by_cases h:termB t=true;rotate_left
 ·rw[Ml (λq=>h q.1)];have h':termB t=false:=by simpa using h
  rw[h'];rfl
 by_cases hw:t.W=1;rotate_left
 ·rw[Ml (λq=>hw q.2.1),h,show(t.W !=1)=true by simpa using hw];rfl
 rw[h,show(t.W !=1)=false by simpa using hw,ZcO];simp only[Zep,ZeN,Zeg,Zen,Zee];by_cases hl:0<=limit/\limit<=3000;rotate_left
 ·rw[Ml (λq=>hl q.2.2),decide_eq_false hl];rfl
 rw[decide_eq_true hl];simp only[Zep,Zeg,Zen,Dv hs,Zee];by_cases h3:(circT t).2.2=true;rotate_left
 ·rw[ZaD ⟨h,hw,hl⟩ h3,Zei aK]
 rw[ZbV ⟨h,hw,hl⟩ h3,Zem (by rw[h3];decide)];obtain⟨L,hT⟩:=Ka h hs h3;have hg:=hT.circ.len;have f1:=(Ni hT hw).1;have f3:=Zcp hT hw;rw[show get? (circT t).2.1 0=_ from(get?_nat (i:=0)).trans (lit0 hT hw).1];simp only[Zee];rw[Cc.impl_FormulaOf_eq hT.circ.fit O,FZ hT hw];simp only[Zee,Zep,Zeg,Zen];rw[Sv.impl_search f1 hl.1 hl.2 al f3];simp only[Zee];by_cases h4:(Sv.serP (formT t) (lines (circT t).1).toNat limit).1=1
 ·obtain⟨m1,m2⟩:=KR hT h4;rw[Zem (by simpa using h4),Zei h4,hT.vars];simp only[ZeF];rw[IZ m1 hT.num hT.wid al m2 hT.ivars];rfl
 ·rw[Zei (by simpa using h4),Zem h4]
def Ew{t:D.Term}{limit:Int}(hs:msz t<=1048576):(solP t limit).2.length<=100000:=by
 unfold solP;split
 ·rename_i h;split
  ·rename_i h3;obtain⟨L,hT⟩:=Ka h.1 hs h3;have:=hT.num;split
   ·rw[hT.vars];simp only[ZeF,JX];omega
   ·simp
  ·simp
 ·simp
end Go.Proofs.YtccamimfkohabaaGreatDoor
end
