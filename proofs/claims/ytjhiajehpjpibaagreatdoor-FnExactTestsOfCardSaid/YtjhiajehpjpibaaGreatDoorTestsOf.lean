/- The plain law of this claim: TestsOf. No program in sight. -/
import Derived.Test.YtjhiajehpjpibaaGreatDoorPLib3
namespace Go.Proofs.YtjhiajehpjpibaaGreatDoor
open Go.GL
set_option linter.unusedSimpArgs false
set_option maxRecDepth 100000
noncomputable def feaX(p:D.Program)(f most m:Int):List D.Path×Bool:=
 if progB p=true/\(0<=f/\f<=400)/\(1<=most/\most<=64)/\0<=m/\m<=3000 then goF p most m f.toNat (path0 p) ([],true)else([],false)
section
variable{p:D.Program}{f most m:Int}(hl:p.Code.length<=1048576)
theorem Bp(h:(feaX p f most m).2=true):progB p=true/\(0<=m/\m<=3000)/\EndsP p most (feaX p f most m):=by
 unfold feaX at*;split at h
 ·rename_i c;rw[ZfC c];exact⟨c.1,c.2.2.2,FK c.1 c.2.2.1.2 _ _ _ (Ig c.1) ⟨λx hx=>aQ,by simp,λ_=>by simp;omega⟩⟩
 ·cases h
include hl
theorem Zck:XW fuel0 p f most m=some (if(feaX p f most m).2=true then feaX p f most m else([],false)):=by
 unfold XW Sk;simp only[Wz,MH hl,Zf9];by_cases c:progB p=true/\(0<=f/\f<=400)/\(1<=most/\most<=64)/\0<=m/\m<=3000
 ·obtain⟨c1,c2,c3,c4⟩:=c;have hg:=Zej c1 c4 hl c3.2 f.toNat (path0 p) [] fuel0 (Ig c1) ⟨λx hx=>aQ,by simp,λ_=>by simp;omega⟩ aI O;simp_all[feaX,CX,and_self,decide_true,ZfJ,Zhn,ZfB,ZfK,ZfR,Zf9,goF,path0]<;>grind
 grind[feaX]
theorem Zb9:TE fuel0 p f most m=some (feaX p f most m):=by
 unfold TE PS Ol X5;simp only[Zav hl,Zf9,<-Zip];by_cases c:progB p=true/\(0<=f/\f<=400)/\(1<=most/\most<=64)/\0<=m/\m<=3000
 ·obtain⟨c1,c2,c3,c4⟩:=c;have hg:=Zee c1 c4 c3.2 f.toNat (path0 p) ([],true) fuel0 (Ig c1) ⟨λx hx=>aQ,by simp,λ_=>by simp;omega⟩ aI O;grind[Bool.not_true,feaX,CU]
 grind[feaX]
end
theorem Zc1{p:D.Program}{s:D.Path}{m:Int}(h:pathB p s=true)(hm:0<=m/\m<=3000):(pinP p s m).1=1\/(pinP p s m).1=2\/(pinP p s m).1=3:=by
 unfold pinP;rw[ZfC ⟨h,hm⟩];split
 ·have hser:∀f k,(Sv.serP f k m).1=1\/(Sv.serP f k m).1=2\/(Sv.serP f k m).1=3:=λf k=>by
   show(Sv.brn k f.Clauses m (k+1) _ 0).1=1\/(Sv.brn k f.Clauses m (k+1) _ 0).1=2\/(Sv.brn k f.Clauses m (k+1) _ 0).1=3;unfold Sv.brn;split
   ·omega
   ·exact(Sv.srch_ok _ _ _ _ _ _ hm.1).code
  have hs:(solP (allT s.Cond).1 m).1=1\/(solP (allT s.Cond).1 m).1=2\/(solP (allT s.Cond).1 m).1=3:=by
   simp_all[solP,ZfC,NG,HY]<;>grind
  grind
 omega
noncomputable def tsT(p:D.Program)(m:Int):List D.Path->List (List Int)->List (List Int)×Bool
 |[],a=>(a,true)
 |s::l,a=>if(pinP p s m).1=3 then([],false)else tsT p m l (if(pinP p s m).1=1 then a++[(pinP p s m).2]else a)
noncomputable def tsX(p:D.Program)(f most m:Int):List (List Int)×Bool:=if(feaX p f most m).2=true then tsT p m (feaX p f most m).1 []else([],false)
section
variable{p:D.Program}{f most m:Int}(hl:p.Code.length<=1048576)
include hl
theorem CY:SA fuel0 p f most m=some (tsX p f most m):=by
 unfold SA tsX;rw[Zck hl];simp only[Zf9];cases h:(feaX p f most m).2
 ·rfl
 obtain⟨hp,hm,ho,h65,-⟩:=Bp h;simp only[ZfR,h,ZfJ,ZfB,ZfK];generalize (feaX p f most m).1=l at*;refine Y5 (l:=l) (λj(a:List (List Int))=>((j:Int),a)) (λys a=>(∀y∈ys,okP p y)/\a.length+ys.length<=65/\tsT p m ys a=tsT p m l []) (λr=>(match r with|.inl v=>(v,true)|.inr v=>v)=tsT p m l []) (λj x xs a hj hx hlen⟨h1,h2,h3⟩=>?_) (λa⟨_,_,h⟩=>?_) (a:=[]) ⟨ho,by simp;omega,rfl⟩ aI λr hr=>?_
 ·have h0:=h1 x U;have h4:app? a [(pinP p x m).2]=some (a++[(pinP p x m).2]):=by simp_all[app?,room,ZfC]<;>grind
  rw[ZfC aq,get?_nat,hx];simp only[Zf9];rw[DT hl (RP (h0.fine hp)),Zb];grind[tsT]
 ·rw[ZfD (by simp[Za])];exact⟨_,rfl,h⟩
 grind
theorem Bt:UN fuel0 p f most m=some (tsX p f most m):=by
 unfold UN tsX;rw[Zb9 hl];simp only[Zf9];cases h:(feaX p f most m).2
 ·rfl
 obtain⟨hp,hm,ho,h65,-⟩:=Bp h;generalize (feaX p f most m).1=l at*;refine Y5 (l:=l) (λj(a:List (List Int))=>((j:Int),a)) (λys a=>(∀y∈ys,okP p y)/\a.length+ys.length<=65/\tsT p m ys a=tsT p m l []) (λr=>(match r with|.inl v=>(v,true)|.inr v=>v)=tsT p m l []) (λj x xs a hj hx hlen⟨h1,h2,h3⟩=>?_) (λa⟨_,_,h⟩=>?_) (a:=[]) ⟨ho,by simp;omega,rfl⟩ aI λr hr=>?_
 ·have h0:=h1 x U;have h4:app? a [(pinP p x m).2]=some (a++[(pinP p x m).2]):=by simp_all[app?,room,ZfC]<;>grind
  rw[ZfC aq,get?_nat,hx];simp only[Zf9];rw[Gn (RP (h0.fine hp)) (h0.path hp) hm,Zb];rw[tsT]at h3;rcases Zc1 (h0.path hp) hm with c|c|c<;>simp[c]at h3
  all_goals grind
 ·rw[ZfD (by simp[Za])];exact⟨_,rfl,h⟩
 grind
end
def fewT(l:List (List Int)):Prop:=l.length<=65/\∀x∈l,x.length<=1000
theorem AQ{p:D.Program}{m:Int}:∀(l:List D.Path)(a:List (List Int)),a.length+l.length<=65->(∀x∈a,x.length<=1000)->fewT (tsT p m l a).1
 |[],a,h,ha=>⟨by grind[tsT],ha⟩
 | s::l,a,h,ha=>by
  rw[tsT];split
  ·exact⟨by simp,λx hx=>by cases hx⟩
  ·refine AQ l _ al λx hx=> ?_;grind[List.mem_singleton,ZcC]
theorem Zd1(p:D.Program)(f most m:Int):fewT (tsX p f most m).1:=by
 unfold tsX;split
 ·exact AQ _ _ (by have:=(Bp ‹_›).2.2.2.1;simp_all) λx hx=>by cases hx
 ·exact⟨by simp,λx hx=>by cases hx⟩
def mkL:List (List Int)->Int->List (List Int)
 |[],_=>[]
 |x::l,k=>upI k x.length::mkL l (k+x.length)
def smL:List (List Int)->Int
 |[]=>0
 |x::l=>x.length+smL l
theorem eqSS{l:List (List Int)}(h:fewT l):VK fuel0 l l=some true:=by
 have hb:l.length<=65:=h.1;unfold VK;rw[ifn];refine Y5 (l:=l) (λj(_:Unit)=>(j:Int)) (λys _=>∀y∈ys,y.length<=1000) (λr=>r= .inl ()) (λj x xs a hj hx hlen h1=>?_) (λa _=>?_) (a:=()) h.2 aI λr hr=>by rw[hr]
 ·have:=h1 x U;rw[ZfC aq,get?_nat,hx];simp only[Zf9];rw[Gr O,Zb];simp_all
 simp[ZfD,Za]
theorem markSS{l:List (List Int)}(h:fewT l):Rb fuel0 l 1=some (1+smL l,mkL l 1):=by
 have hb:l.length<=65:=h.1;refine Y5 (l:=l) (λj(a:Int×List (List Int))=>(a.1,(j:Int),a.2)) (λys a=>(∀y∈ys,y.length<=1000)/\0<=a.1/\a.1+1000*ys.length<=100000/\a.1+smL ys=1+smL l/\∃pre,a.2=pre++ys/\pre.length+ys.length=l.length/\pre++mkL ys a.1=mkL l 1) (λr=>r=(1+smL l,mkL l 1)) (λj x xs a hj hx hlen⟨h1,h2,h3,h4,pre,h5,h6,h7⟩=>?_) (λa⟨_,_,_,h4,pre,h5,_,h7⟩=>?_) (a:=(1,l)) ⟨h.2,by omega,by omega,rfl,[],rfl,by simp,rfl⟩ aI λr hr=>by rw[hr]
 ·have h0:=h1 x U;simp only[ZfS]at h3 h6 hlen;obtain rfl:j=pre.length:=by omega
  rw[ZfC aq,get?_nat,h5,Zgo (ZfP _),Zhm];simp only[Zgz,Zf9];rw[LM h2 O O,Zb];simp only[Zf9,Zgr];rw[ZgI _ _ (ZfP _),Zhm];exact .inl ⟨(a.1+x.length,pre++upI a.1 x.length::xs),rfl,λy hy=>h1 y ao,by omega,by omega,by grind[smL],pre++[upI a.1 x.length],by simp,by simp;omega,by grind[mkL]⟩
 simp_all[ZfD,Za,smL,mkL,Zgb]
theorem AA:∀(l:List (List Int))(k:Int),(mkL l k).length=l.length
 |[],_=>rfl
 |x::l,k=>by rw[mkL,ZfS,AA l,ZfS]
theorem heldSS{l:List (List Int)}(h:fewT l):UJ fuel0 (mkL l 1) 1=some (1+smL l):=by
 have hl:=AA l 1;have hb:l.length<=65:=h.1;refine Y5 (l:=mkL l 1) (λj(a:Int)=>(a,(j:Int))) (λys a=>∃zs,ys=mkL zs a/\(∀y∈zs,y.length<=1000)/\0<=a/\a+1000*zs.length<=100000/\a+smL zs=1+smL l) (λr=>r= .inl (1+smL l)) (λj x xs a hj hx hlen⟨zs,h5,h1,h2,h3,h4⟩=>?_) (λa⟨zs,h5,_,_,_,h4⟩=>?_) (a:=1) ⟨l,rfl,h.2,by omega,by omega,rfl⟩ aI λr hr=>by rw[hr]
 ·cases zs with
  |nil=>cases h5
  |cons z zs=>
   simp only[mkL,List.cons.injEq]at h5;simp only[ZfS,smL]at h3 h4;rw[ZfC ak,get?_nat,hx,h5.1];grind[LY,Zb]
 ·rw[ZfD (by simp[Za])];cases zs with
  |nil=>exact⟨_,rfl,by grind[smL]⟩
  |cons z zs=>cases h5
theorem fin_FnExactTestsOf(x:D.Program)(hx:PT x)(y:Int)(_:fitInt y)(z:Int)(_:fitInt z)(w:Int)(_:fitInt w):∃n,VT n x y z w=some true:=by
 refine⟨fuel0,?_⟩;unfold VT;obtain⟨r1,h1,c1⟩:=Fv (m:=1048576) hx O O;rw[h1];rcases c1 with c1|⟨c1,c1',s1⟩
 ·simp_all
 have hf:=Zd1 x y z w;obtain⟨k1,q1,m1,b1,b1'⟩:=IG (fuel:=fuel0) (x:=x) (k:=1) O O s1;have hs:∀l:List (List Int),0<=smL l:=λl=>by induction l<;>simp only[smL]<;>omega
 have e1:¬k1<0:=by omega
 have e2:¬1+smL (tsX x y z w).1<0:=by grind
 simp[Fh s1,CY s1,Bt s1,IM s1,eqSS hf,markSS hf,heldSS hf,m1,e1,e2]
end Go.Proofs.YtjhiajehpjpibaaGreatDoor
