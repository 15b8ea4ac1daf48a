/- Texts of this claim put into one: library or plain laws, without the program under test. -/
import Derived.Test.YtikabgjjcifidaaGreatLib3
import Derived.Test.YtikabgjjcifidaaGreatDefs
set_option linter.unusedSimpArgs false
set_option linter.unusedVariables false
set_option linter.defProp false
section
namespace Go.Proofs.YtikabgjjcifidaaGreat.Cc
open Go.GL
class FU(n:Nat):Prop where
 le:1048577<=n
def lt_fuel{n fuel:Nat}[q:FU fuel](h:n<=1048576:=by omega):n<fuel:=by have:=q.le;omega
variable{fuel:Nat}[FU fuel]
def iab(x:Int):Int:=if x<0 then-x else x
def gateB(n:Int)(seen:List D.Gate)(g:D.Gate):Bool:=
 decide (-(n+1+(seen.length:Int))<=g.A/\g.A<=n+1+seen.length)&&decide (-(n+1+(seen.length:Int))<=g.B/\g.B<=n+1+seen.length)&&decide (2<=iab g.A)&&decide (iab g.A<iab g.B)&& !(seen.contains g)
def YX{a:Int}(h:fitInt a)(h':-1000<=a):Zq a=some (iab a):=by
 unfold Zq iab;by_cases c:a<0
 ·rw[Zbq (by simpa using c),Zbq c,Zb];simp
 grind
theorem YY{a:Int}(h:fitInt a)(h':-1000<=a):Yx a=some (iab a):=by
 unfold Yx iab;by_cases c:a<0
 ·rw[Zbq (by simpa using c),Zbq c,Zb];simp
 grind
theorem NN{l:List D.Gate}{g:D.Gate}(hb:l.length<=1048576):
  iterN (λ(s2:Int)=>if(decide (s2<(len l)))then(get? l s2).bind λx9=>if(decide (g=x9))then some (.inr (.inr false))else some (.inl ((w64 (s2+1))))else some (.inr (.inl ()))) fuel 0=some (if l.contains g then .inr false else(.inl ():Unit⊕Bool)):=by
 rw[WT (I:=λk s=>s=(k:Int)) (m:=l.length) (ok:=λk=>decide (l[k]? ≠some g)) (r:=.inl ()) (r':=.inr false) (λk s hk hs hok=>?_) (λk s hk hs hok=>?_) (λs hs=>?_) l.length 0 _ (by omega) (by simp) fuel (lt_fuel hb)]
 ·have:((List.range' 0 l.length).all λk=>decide (l[k]? ≠some g))= !(l.contains g):=by
   cases hc:l.contains g with
   |true=>
    simp_all[List.contains_eq_mem,Zb8,Zcq,Zbu,Zb4,List.all_eq_false,Zdf]
   |false=>
    grind
  simp_all
 ·subst hs;refine⟨_,?_,rfl⟩;rw[Zbq (by simp_all[Za]),get?_nat,Zbo hk];simp only[Zbn];rw[Zbv (by grind),Zb];rfl
 all_goals simp_all[Zbq,Za,get?_nat,Zbo,Zbn,Zbv]
def gateAt(x:D.Circuit)(k:Nat):Bool:=match x.Gates[k]? with|some g=>gateB x.Inputs (x.Gates.take k) g|none=>false
def circB2(x:D.Circuit):Bool:=decide (0<=x.Inputs/\x.Inputs<=30)&&decide ((x.Gates.length:Int)<=360)&&(List.range' 0 x.Gates.length).all (gateAt x)
def fitK{g:D.Gate}(h:VD g):ZG g=true:=by
 obtain⟨h1,h2⟩:=h;unfold fitInt at h1 h2;simp_all[ZG,fitZ,Lit.wf,IntKind.min,IntKind.max,Zbt,IntKind.bits,IntKind.signed]
def Ed{x:D.Circuit}(hx:VA x)(hl:x.Gates.length<=1048576):Wu fuel x=some (circB2 x):=by
 unfold Wu circB2;simp only[Zf,Zbn];by_cases c:(0<=x.Inputs/\x.Inputs<=30)/\(x.Gates.length:Int)<=360
 ·obtain⟨⟨h0,h1⟩,hl3⟩:=c;rw[Zbv (by simp_all[Za])];rw[WT (I:=λk s=>s=(k:Int)) (m:=x.Gates.length) (ok:=gateAt x) (r:=.inl ()) (r':=.inr false) (λk s hk hs hok=>?_) (λk s hk hs hok=>?_) (λs hs=>?_) x.Gates.length 0 _ (by omega) (by simp) fuel (lt_fuel hl)]
  ·grind
  all_goals subst hs
  ·refine⟨((k+1:Nat):Int), ?_,rfl⟩;have hfit:VD x.Gates[k]:=hx.2.2 _ (ZbJ hk);have hlt:(x.Gates.take k).length=k:=by simp;omega
   rw[Zbq (by simp_all[Za]),get?_nat,Zbo hk];simp only[Zbn];unfold gateAt at hok;rw[Zbo hk]at hok;simp only at hok;unfold gateB at hok;rw[hlt]at hok;generalize x.Gates[k]=g at hfit hok⊢;simp only[Zbt,Zb8,Zc6]at hok;obtain⟨⟨⟨⟨cA,cB⟩,c2⟩,c3⟩,c4⟩:=hok;rw[Zb (x:=x.Inputs+1),Zb (x:=x.Inputs+1+(k:Int)),Zb (x:=0-(x.Inputs+1+(k:Int))) (by omega) (by omega)];have e1:(decide (g.A>=0-(x.Inputs+1+(k:Int)))&&decide (g.A<=x.Inputs+1+(k:Int)))=true:=by simp;omega
   have e2:(decide (g.B>=0-(x.Inputs+1+(k:Int)))&&decide (g.B<=x.Inputs+1+(k:Int)))=true:=by simp;omega
   have e3:decide (iab g.A<2)=false:=by simp;omega
   have e4:decide (iab g.A>=iab g.B)=false:=by simp;omega
   have hcut:cut? x.Gates 0 (k:Int)=some (x.Gates.take k):=by
    unfold cut?;rw[Zbq ⟨by omega,by omega,by omega⟩];simp
   simp only[e1,e2,Zb4,ZcL,Zbp,Zbx,Zbn,YX hfit.1 (by omega),YX hfit.2 (by omega),ZbL,e3,e4,hcut];rw[NN (by omega),c4];simp only[Zbp,Zbx,Zbn];rw[Zb];rfl
  ·have hfit:VD x.Gates[k]:=hx.2.2 _ (ZbJ hk)
   have hlt:(x.Gates.take k).length=k:=by simp;omega
   rw[Zbq (by rw[Za];simp;omega),get?_nat,Zbo hk];simp only[Zbn];unfold gateAt at hok;rw[Zbo hk]at hok;simp only at hok;unfold gateB at hok;rw[hlt]at hok;generalize x.Gates[k]=g at hfit hok⊢;rw[Zb (x:=x.Inputs+1),Zb (x:=x.Inputs+1+(k:Int)),Zb (x:=0-(x.Inputs+1+(k:Int))) (by omega) (by omega)];by_cases cA:-(x.Inputs+1+(k:Int))<=g.A/\g.A<=x.Inputs+1+k
   ·have e1:(decide (g.A>=0-(x.Inputs+1+(k:Int)))&&decide (g.A<=x.Inputs+1+(k:Int)))=true:=by simp;omega
    by_cases cB:-(x.Inputs+1+(k:Int))<=g.B/\g.B<=x.Inputs+1+k
    ·have e2:(decide (g.B>=0-(x.Inputs+1+(k:Int)))&&decide (g.B<=x.Inputs+1+(k:Int)))=true:=by simp;omega
     simp only[e1,e2,Zb4,ZcL,Zbp,Zbx,Zbn,YX hfit.1 (by omega),YX hfit.2 (by omega),ZbL];by_cases c2:2<=iab g.A
     ·have e3:decide (iab g.A<2)=false:=by simp;omega
      simp only[e3,Zbp,Zbx,Zbn,ZbL];by_cases c3:iab g.A<iab g.B
      ·have e4:decide (iab g.A>=iab g.B)=false:=by simp;omega
       simp only[cA,cB,c2,c3,and_self,decide_true,Zcn,Bool.not_eq_false']at hok;have hcut:cut? x.Gates 0 (k:Int)=some (x.Gates.take k):=by
        unfold cut?;rw[Zbq ⟨by omega,by omega,by omega⟩];simp
       simp only[e4,Zbp,Zbx,hcut,Zbn];rw[NN (by omega),hok];simp
      ·have e4:decide (iab g.A>=iab g.B)=true:=by simp;omega
       simp only[e4,Zb4,Zdb,Zdo,ZdT,ZbL,ZdX,ZcL,Zbp,Zb5,Zbx,Zbn]
     ·have e3:decide (iab g.A<2)=true:=by simp;omega
      simp only[e3,Zb4,Zdb,Zdo,ZdT,ZbL,ZdX,ZcL,Zbp,Zb5,Zbx,Zbn]
    ·have e2:(decide (g.B>=0-(x.Inputs+1+(k:Int)))&&decide (g.B<=x.Inputs+1+(k:Int)))=false:=by
      simp only[Zd2,decide_eq_false_iff_not];omega
     simp only[e1,e2,Zb4,Zdb,Zdo,ZdT,ZbL,ZdX,ZcL,Zbp,Zb5,Zbx,Zbn]
   ·have e1:(decide (g.A>=0-(x.Inputs+1+(k:Int)))&&decide (g.A<=x.Inputs+1+(k:Int)))=false:=by
     simp only[Zd2,decide_eq_false_iff_not];omega
    simp only[e1,Zb4,Zdb,Zdo,ZdT,ZbL,ZdX,ZcL,Zbp,Zb5,Zbx,Zbn]
  ·rw[Zbv (by rw[Za];simp)]
 ·rw[Zbq (by rw[Za];simp;omega)];have:(decide (0<=x.Inputs/\x.Inputs<=30)&&decide ((x.Gates.length:Int)<=360))=false:=by
   simp only[Zd2,decide_eq_false_iff_not];omega
  rw[this];rfl
theorem NL{l:List D.Gate}{g:D.Gate}:((l.reverse.map λq=>(q,true)).lookup g).getD false=l.contains g:=by
 have key:∀m:List D.Gate,((m.map λq=>(q,true)).lookup g).getD false=m.contains g:=by
  intro m
  induction m with
  |nil=>rfl
  |cons q m ih=>
   grind
 grind
theorem FO{x:D.Circuit}(hx:VA x)(hl:x.Gates.length<=1048576):Wi fuel x=some (circB2 x):=by
 unfold Wi circB2;by_cases c:(0<=x.Inputs/\x.Inputs<=30)/\(x.Gates.length:Int)<=360
 ·obtain ⟨⟨h0,h1⟩,hl3⟩:=c
  rw[Zbv (by simp_all[Za])];rw[WT (I:=λk s=>s=((k:Int),(x.Gates.take k).reverse.map λq=>(q,true))) (m:=x.Gates.length) (ok:=gateAt x) (r:=.inl (x.Gates.reverse.map λq=>(q,true))) (r':=.inr false) (λk s hk hs hok=>?_) (λk s hk hs hok=>?_) (λs hs=>?_) x.Gates.length 0 _ (by omega) (by simp) fuel (lt_fuel hl)]
  ·grind
  all_goals subst hs
  ·refine⟨(((k+1:Nat):Int),(x.Gates.take (k+1)).reverse.map λq=>(q,true)), ?_,rfl⟩;have hfit:VD x.Gates[k]:=hx.2.2 _ (ZbJ hk);have hlt:(x.Gates.take k).length=k:=by simp;omega
   rw[Zbq (by simp_all[Za]),get?_nat,Zbo hk];simp only[Zbn];unfold gateAt at hok;rw[Zbo hk]at hok;simp only at hok;unfold gateB at hok;rw[hlt]at hok;rw[Zby hk];generalize x.Gates[k]=g at hfit hok⊢;simp only[Zbt,Zb8,Zc6]at hok;obtain⟨⟨⟨⟨cA,cB⟩,c2⟩,c3⟩,c4⟩:=hok;have nA:g.A≠0:=by grind[iab]
   have nB:g.B≠0:=by grind[iab]
   rw[Zb (x:=1+x.Inputs),Zb (x:=1+x.Inputs+(k:Int))];have e1:ZR g.A (1+x.Inputs+(k:Int))=some true:=by
    unfold ZR;rw[Zb];simp;omega
   have e2:ZR g.B (1+x.Inputs+(k:Int))=some true:=by
    unfold ZR;rw[Zb];simp;omega
   have e3:decide (iab g.A<2)=false:=by simp;omega
   have e4:decide (iab g.A>=iab g.B)=false:=by simp;omega
   have hg:mget? ZG false ((x.Gates.take k).reverse.map λq=>(q,true)) g=some false:=by
    unfold mget?;rw[Zbq (fitK hfit),NL,c4]
   have hp:mput? ZG ((x.Gates.take k).reverse.map λq=>(q,true)) g true=some ((g,true)::((x.Gates.take k).reverse.map λq=>(q,true))):=by
    unfold mput?;rw[Zbq ⟨fitK hfit,by simp;unfold room;omega⟩]
   simp only[e1,e2,Zb4,ZcL,Zbp,Zbx,Zbn,YY hfit.1 (by omega),YY hfit.2 (by omega),ZbL,e3,e4,hg,hp];rw[Zb];simp
  ·have hfit:VD x.Gates[k]:=hx.2.2 _ (ZbJ hk)
   have hlt:(x.Gates.take k).length=k:=by simp;omega
   rw[Zbq (by rw[Za];simp;omega),get?_nat,Zbo hk];simp only[Zbn];unfold gateAt at hok;rw[Zbo hk]at hok;simp only at hok;unfold gateB at hok;rw[hlt]at hok;generalize x.Gates[k]=g at hfit hok⊢;rw[Zb (x:=1+x.Inputs),Zb (x:=1+x.Inputs+(k:Int))];have lit:∀a:Int,ZR a (1+x.Inputs+(k:Int))=some (decide (a≠0∧-(1+x.Inputs+(k:Int))<=a/\a<=1+x.Inputs+(k:Int))):=by
    intro a;unfold ZR;rw[Zb];congr 1;rw[ZcI];simp;omega
   have hg:mget? ZG false ((x.Gates.take k).reverse.map λq=>(q,true)) g=some ((x.Gates.take k).contains g):=by
    unfold mget?;rw[Zbq (fitK hfit),NL]
   simp only[lit,Zbn];by_cases cA:g.A≠0∧-(1+x.Inputs+(k:Int))<=g.A/\g.A<=1+x.Inputs+(k:Int)
   ·by_cases cB:g.B≠0∧-(1+x.Inputs+(k:Int))<=g.B/\g.B<=1+x.Inputs+(k:Int)
    ·simp only[cA,cB,ne_eq,not_false_eq_true,and_self,decide_true,Zb4,ZcL,Zbp,Zbx,Zbn,hg,ZbL];cases hc:(x.Gates.take k).contains g with
     |true=>simp
     | false=>
      simp only[Zbp,Zbx,YY hfit.1 (by omega),YY hfit.2 (by omega),Zbn];by_cases c2:iab g.A<2
      ·simp[c2]
      ·have e3:decide (iab g.A<2)=false:=by simp;omega
       simp only[e3,Zbp,Zbx,Zbn,ZbL];by_cases c3:iab g.A>=iab g.B
       ·simp[c3]
       ·exfalso;rw[hc]at hok;have:(decide (-(x.Inputs+1+(k:Int))<=g.A/\g.A<=x.Inputs+1+(k:Int))&&decide (-(x.Inputs+1+(k:Int))<=g.B/\g.B<=x.Inputs+1+(k:Int))&&decide (2<=iab g.A)&&decide (iab g.A<iab g.B)&& !false)=true:=by
         simp;omega
        rw[this]at hok;cases hok
    ·have eB:decide (g.B≠0∧-(1+x.Inputs+(k:Int))<=g.B/\g.B<=1+x.Inputs+(k:Int))=false:=by simpa using cB
     rw[eB];simp[cA]
   ·have eA:decide (g.A≠0∧-(1+x.Inputs+(k:Int))<=g.A/\g.A<=1+x.Inputs+(k:Int))=false:=by simpa using cA
    rw[eA];simp
  ·simp only;rw[Zbv (by rw[Za];simp),Zc0]
 ·rw[Zbq (by rw[Za];simp;omega)];have:(decide (0<=x.Inputs/\x.Inputs<=30)&&decide ((x.Gates.length:Int)<=360))=false:=by
   simp only[Zd2,decide_eq_false_iff_not];omega
  rw[this];rfl
end Go.Proofs.YtikabgjjcifidaaGreat.Cc
end
section
namespace Go.Proofs.YtikabgjjcifidaaGreat.Cc
open Go.GL
variable{fuel:Nat}[FU fuel]
theorem Nw{σt ρt:Type}{B:σt->Option (σt⊕ρt)}{I:Nat->σt->Prop}{m:Nat}{ok:Nat->Bool}{r:ρt}{r':Nat->ρt}(hs:∀k s,k<m->I k s->ok k=false->∃s',B s=some (.inl s')/\I (k+1) s')(hn:∀k s,k<m->I k s->ok k=true->B s=some (.inr (r' k)))
  (hf:∀s,I m s->B s=some (.inr r)):∀(d k:Nat)(s:σt),k+d=m->I k s->∀n,d<n->iterN B n s=some (match(List.range' k d).find? ok with|some i=>r' i|none=>r)
 |0,k,s,hk,hi,n,hn'=>by
  obtain⟨n,rfl⟩:∃j,n=j+1:=⟨n-1,by omega⟩;simp_all[iterN]
 | d+1,k,s,hk,hi,n,hn'=>by
  obtain⟨n,rfl⟩:∃j,n=j+1:=⟨n-1,by omega⟩;unfold iterN;rw[ZdU];cases hok:ok k with
  |false=>
   obtain⟨s',h1,h2⟩:=hs k s (by omega) hi hok;rw[h1];simp only;rw[Nw hs hn hf d (k+1) s' (by omega) h2 n (by omega),Zeb,hok]
  |true=>
   grind
def find(l:List D.Gate)(g:D.Gate):Option Nat:=(List.range' 0 l.length).find? λi=>decide (l[i]? =some g)
def MF{l:List D.Gate}{g:D.Gate}{i:Nat}(h:find l g=some i):i<l.length/\l[i]? =some g:=by
 have:=List.find?_some h;grind
def Mg{l:List D.Gate}{g:D.Gate}:find l g=none↔g∉l:=by
 unfold find;simp_all[Zdf,Zdc,ZcA,true_and,Zb8,Zcq,Zbu,Zbz]
theorem Ey{l:List D.Gate}{g h:D.Gate}:find (l++[h]) g=(find l g).or (if g=h then some l.length else none):=by
 unfold find;rw[Zbw,Zcb,List.range'_concat,List.find?_append];congr 1
 ·have:∀n,n<=l.length->∀k,k+n<=l.length->(List.range' k n).find? (λi=>decide ((l++[h])[i]? =some g))=(List.range' k n).find? (λi=>decide (l[i]? =some g)):=by
   intro n
   induction n with
   |zero=>simp
   |succ n ih=>
    grind[List.range'_succ,List.getElem?_append_left]
  simp_all
 grind
def lines(c:D.Circuit):Int:=c.Inputs+1+c.Gates.length
def litN(n x:Int):Bool:=decide (1<=iab x)&&decide (iab x<=n)
theorem litN_iff{n x:Int}:litN n x=true↔1<=iab x/\iab x<=n:=by simp[litN]
theorem iab_neg(x:Int):iab (-x)=iab x:=by grind[iab]
theorem ZA{n x:Int}:litN n (-x)=litN n x:=by simp[litN,iab_neg]
def litN_mono{n n' x:Int}(h:litN n x=true)(hn:n<=n'):litN n' x=true:=by grind[litN_iff]
structure CircP(c:D.Circuit):Prop where
 i0:0<=c.Inputs
 i1:c.Inputs<=30
 len:c.Gates.length<=360
 gate:∀k g,c.Gates[k]? =some g->gateB c.Inputs (c.Gates.take k) g=true
def circP_iff{c:D.Circuit}:circB2 c=true↔CircP c:=by
 unfold circB2;simp only[Zbt,Zb8,ZbC,Zdf,Zdc,ZcA,true_and];constructor
 ·rintro⟨⟨⟨h1,h2⟩,h3⟩,h4⟩;refine⟨h1,h2,by omega,λk g hg=>?_⟩;grind[List.getElem?_eq_some_iff,gateAt]
 ·rintro⟨h1,h2,h3,h4⟩;grind[gateAt,List.getElem?_eq_getElem]
def CircP.lines0{c:D.Circuit}(h:CircP c):1<=lines c:=by have:=h.i0;grind[lines]
def CircP.lines1{c:D.Circuit}(h:CircP c):lines c<=391:=by have:=h.i1;have:=h.len;grind[lines]
def UT{n:Int}{l:List D.Gate}{g:D.Gate}:gateB n l g=true↔(-(n+1+(l.length:Int))<=g.A/\g.A<=n+1+l.length)/\(-(n+1+(l.length:Int))<=g.B/\g.B<=n+1+l.length)/\2<=iab g.A/\iab g.A<iab g.B/\g∉l:=by
 simp[gateB,Zbt,Zb8,Zc6,List.contains_eq_mem,decide_eq_false_iff_not,and_assoc]
def CircP.fit{c:D.Circuit}(h:CircP c):VA c:=by
 refine⟨by have:=h.i0;have:=h.i1;grind[fitInt],by have:=h.len;omega,λg hg=>?_⟩;obtain⟨k,hk⟩:=Zcq.1 hg;have h1:=UT.1 (h.gate k g hk);have h2:=h.len;have h3:=h.i1;grind[List.length_take,VD,fitInt]
def CircP.snoc{c:D.Circuit}(h:CircP c){g:D.Gate}(hl:c.Gates.length<360)(hg:gateB c.Inputs c.Gates g=true):CircP ⟨c.Inputs,c.Gates++[g]⟩:=by
 refine⟨h.i0,h.i1,by simp;omega,λk x hx=>?_⟩;by_cases hk:k<c.Gates.length
 ·rw[ZbH hk]at hx;rw[List.take_append_of_le_length (by omega)];exact h.gate k x hx
 grind
def CircP.find_take{c:D.Circuit}(h:CircP c){k:Nat}{g:D.Gate}(hk:c.Gates[k]? =some g):find (c.Gates.take k) g=none:=Mg.2 (UT.1 (h.gate k g hk)).2.2.2.2
structure Grow(c c':D.Circuit):Prop where
 inputs:c'.Inputs=c.Inputs
 gates:c.Gates<+:c'.Gates
def Grow.refl(c:D.Circuit):Grow c c:=⟨rfl,List.prefix_rfl⟩
def Grow.trans{a b c:D.Circuit}(h:Grow a b)(k:Grow b c):Grow a c:=⟨k.1.trans h.1,h.2.trans k.2⟩
def Grow.lines{c c':D.Circuit}(h:Grow c c'):lines c<=lines c':=by
 have:=h.2.length_le;have:=h.1;unfold Proofs.YtikabgjjcifidaaGreat.Cc.lines;omega
def gate2(a b:Int):D.Gate:=if iab a>iab b then⟨b,a⟩else⟨a,b⟩
abbrev BS:=D.Circuit×Bool
def andP(s:BS)(a b:Int):Int×BS:=
 if a=-1\/b=-1\/a=-b then(-1,s)else if a=1 then(b,s)else if b=1\/a=b then(a,s)else
 match find s.1.Gates (gate2 a b)with
 |some i=>(s.1.Inputs+2+i,s)
 |none=>if 360<=s.1.Gates.length then(-1,(s.1,true))else(s.1.Inputs+2+s.1.Gates.length,(⟨s.1.Inputs,s.1.Gates++[gate2 a b]⟩,s.2))
def DV{s:BS}(hs:CircP s.1){a b:Int}(ha:litN (lines s.1) a=true)(hb:litN (lines s.1) b=true)(h1:¬(a=-1\/b=-1\/a=-b))(h2:¬a=1)(h3:¬(b=1\/a=b))(hf:find s.1.Gates (gate2 a b)=none):gateB s.1.Inputs s.1.Gates (gate2 a b)=true:=by
 rw[UT];have hn:=Mg.1 hf;rw[litN_iff]at ha hb;have hl:lines s.1=s.1.Inputs+1+s.1.Gates.length:=rfl;grind[gate2,iab]
def BH{s:BS}(hs:CircP s.1){a b:Int}(ha:litN (lines s.1) a=true)(hb:litN (lines s.1) b=true):
  CircP (andP s a b).2.1/\Grow s.1 (andP s a b).2.1/\litN (lines (andP s a b).2.1) (andP s a b).1=true:=by
 have h1n:=hs.lines0;have hi:=hs.i0;unfold andP;split
 ·simp_all[Grow.refl,litN_iff,iab]
 ·rename_i c1;split
  ·simp_all[Grow.refl]
  ·rename_i c2;split
   ·simp_all[Grow.refl]
   ·rename_i c3;split
    ·rename_i i hf;refine⟨hs,Grow.refl _,litN_iff.2 ?_⟩;have:=(MF hf).1;grind[iab,lines]
    ·rename_i hf;split
     ·simp_all[Grow.refl,litN_iff,iab]
     ·refine⟨hs.snoc (by omega) (DV hs ha hb c1 c2 c3 hf),⟨rfl,List.prefix_append _ _⟩,litN_iff.2 ?_⟩;grind[iab,lines]
def Xj{n a:Int}(h:litN n a=true)(hn:n<=391):fitInt a∧-1000<=a:=by
 grind[litN_iff,iab,fitInt]
def FM(a b:Int):(D.Gate.mk (cond (decide (iab a>iab b)) b a) (cond (decide (iab a>iab b)) a b))=gate2 a b:=by
 grind[gate2]
def dec3{a b:Int}(hb:-1000<=b/\b<=1000):((((a==(-1))||(b==(-1)))||(a==(w64 (0-b))))=true)↔(a=-1\/b=-1\/a=-b):=by
 grind[Zb]
theorem VK{s:BS}(hs:CircP s.1){a b:Int}(ha:litN (lines s.1) a=true)(hb:litN (lines s.1) b=true):
  Zk fuel ⟨s.1,s.2⟩ a b=some ((andP s a b).1,⟨(andP s a b).2.1,(andP s a b).2.2⟩):=by
 have hln:=hs.lines1;have hi0:=hs.i0;have hi1:=hs.i1;have hlen:=hs.len;have fa:=Xj ha hln;have fb:=Xj hb hln;have hb2:=litN_iff.1 hb;have hbb:-1000<=b/\b<=1000:=by grind[iab]
 unfold Zk andP;by_cases c1:a=-1\/b=-1\/a=-b
 ·rw[Zbq ((dec3 hbb).2 c1),Zbq c1]
 rw[Zbv (λh=>c1 ((dec3 hbb).1 h)),Zbv c1];by_cases c2:a=1
 ·simp_all
 rw[Zbv (by simp_all),Zbv c2];by_cases c3:b=1\/a=b
 ·simp_all
 rw[Zbv (by simp_all),Zbv c3];simp only[YX fa.1 fa.2,YX fb.1 fb.2,Zbn,FM];rw[Nw (I:=λk t=>t=(k:Int)) (m:=s.1.Gates.length) (ok:=λk=>decide (s.1.Gates[k]? =some (gate2 a b))) (r:=.inl ()) (r':=λk=>.inr (s.1.Inputs+2+k,⟨s.1,s.2⟩)) (λk t hk ht hok=>?_) (λk t hk ht hok=>?_) (λt ht=>?_) s.1.Gates.length 0 _ (by omega) (by simp) fuel lt_fuel]
 ·show Option.bind (some (match find s.1.Gates (gate2 a b)with|some i=>_|none=>_)) _=_;cases hf:find s.1.Gates (gate2 a b)with
  |some i=>rfl
  | none=>
   simp only[Zbn];by_cases c4:360<=s.1.Gates.length
   ·rw[Zbq (by grind[Za]),Zbq c4]
   ·have happ:app? s.1.Gates [gate2 a b]=some (s.1.Gates++[gate2 a b]):=by
     unfold app?;rw[Zbq (by grind[room])]
    grind[Za,List.length_append,List.length_singleton,Zb]
 all_goals subst ht
 ·refine⟨((k+1:Nat):Int), ?_,rfl⟩;rw[Zbq (by simp_all[Za]),get?_nat,Zbo hk];simp only[Zbn];rw[Zbv (by grind),Zb];rfl
 ·rw[Zbq (by simp_all[Za]),get?_nat,Zbo hk];simp only[Zbn];rw[Zbq (by simp_all),Zb (x:=s.1.Inputs+2),Zb]
 simp[Zbv,Za]
structure LineOk(n:Int)(l:List D.Gate)(m:List (D.Gate×Int)):Prop where
 look:∀g,m.lookup g=(find l g).map λ(i:Nat)=>n+2+(i:Int)
 len:m.length=l.length
def LineOk.nil(n:Int):LineOk n [] []:=⟨λ_=>rfl,rfl⟩
def LineOk.snoc{n:Int}{l:List D.Gate}{m:List (D.Gate×Int)}(h:LineOk n l m){g:D.Gate}(hg:find l g=none):LineOk n (l++[g]) ((g,n+2+(l.length:Int))::m):=by
 refine⟨λx=>?_,by simp[h.len]⟩;rw[Zcc,Ey];by_cases e:x=g
 ·simp_all
 ·have:(x==g)=false:=by simpa using e
  rw[this,Zbv e,h.look x];simp
structure RelB(m:D.builder)(s:BS):Prop where
 c:m.c=s.1
 full:m.full=s.2
 line:LineOk s.1.Inputs s.1.Gates m.line
def EI{a b:Int}(ha:fitInt a)(hb:fitInt b):ZG (gate2 a b)=true:=by
 refine fitK ?_;unfold gate2;split
 ·exact⟨hb,ha⟩
 ·exact⟨ha,hb⟩
def GN{a:Int}(h:fitInt a):fitZ a=true:=by
 simp_all[fitInt,fitZ,Lit.wf,IntKind.min,IntKind.max,Zbt,IntKind.bits,IntKind.signed]
theorem Vy{m:D.builder}{s:BS}(hr:RelB m s)(hs:CircP s.1){a b:Int}(ha:litN (lines s.1) a=true)(hb:litN (lines s.1) b=true):
  ∃m',Zo m a b=some ((andP s a b).1,m')/\RelB m' (andP s a b).2:=by
 obtain⟨mc,ml,mf⟩:=m;obtain⟨sc,sf⟩:=s;obtain⟨hc,hf,hl⟩:=hr;simp only at hc hf hl;subst hc;subst hf;simp only at hs ha hb;have hln:=hs.lines1;have hi0:=hs.i0;have hi1:=hs.i1;have hlen:=hs.len;have fa:=Xj ha hln;have fb:=Xj hb hln;have hb2:=litN_iff.1 hb;have hbb:-1000<=b/\b<=1000:=by grind[iab]
 unfold Zo andP;by_cases c1:a=-1\/b=-1\/a=-b
 ·rw[Zbq ((dec3 hbb).2 c1),Zbq c1];exact⟨_,rfl,⟨rfl,rfl,hl⟩⟩
 rw[Zbv (λh=>c1 ((dec3 hbb).1 h)),Zbv c1];by_cases c2:a=1
 ·rw[Zbq (by simp_all),Zbq c2];exact⟨_,rfl,⟨rfl,rfl,hl⟩⟩
 rw[Zbv (by simp_all),Zbv c2];by_cases c3:b=1\/a=b
 ·rw[Zbq (by simp_all),Zbq c3];exact⟨_,rfl,⟨rfl,rfl,hl⟩⟩
 rw[Zbv (by simp_all),Zbv c3];simp only[YY fa.1 fa.2,YY fb.1 fb.2,Zbn];have hgf:=EI fa.1 fb.1;have hgm:mget2? ZG (0:Int) ml (gate2 a b)=some (((find mc.Gates (gate2 a b)).map λ(i:Nat)=>mc.Inputs+2+(i:Int)).getD 0,((find mc.Gates (gate2 a b)).map λ(i:Nat)=>mc.Inputs+2+(i:Int)).isSome):=by
  unfold mget2?;rw[Zbq hgf,hl.look]
 have key:((mget2? ZG (0:Int) ml (gate2 a b)).bind λx3=>if x3.2 then some (x3.1,(⟨mc,ml,mf⟩:D.builder))else if(decide ((len mc.Gates)>=360))then some ((-1),(D.builder.mk mc ml true))else(app? mc.Gates ([gate2 a b]:List D.Gate)).bind λx4=>(Yr (D.Circuit.mk mc.Inputs x4)).bind λx5=>(mputE? ZG fitZ ml (gate2 a b) x5).bind λx6=>some (x5,(D.builder.mk (D.Circuit.mk mc.Inputs x4) x6 mf)))=match find mc.Gates (gate2 a b)with
    |some i=>some (mc.Inputs+2+i,⟨mc,ml,mf⟩)
    |none=>if 360<=mc.Gates.length then some (-1,⟨mc,ml,true⟩)else some (mc.Inputs+2+mc.Gates.length,⟨⟨mc.Inputs,mc.Gates++[gate2 a b]⟩,(gate2 a b,mc.Inputs+2+(mc.Gates.length:Int))::ml,mf⟩):=by
  rw[hgm];cases hf:find mc.Gates (gate2 a b)with
  |some i=>rfl
  | none=>
   simp only[Zbn,Option.map_none,ZdJ,Zbp,Zbx];by_cases c4:360<=mc.Gates.length
   ·rw[Zbq (by grind[Za]),Zbq c4]
   ·rw[Zbv (by grind[Za]),Zbv c4];have happ:app? mc.Gates [gate2 a b]=some (mc.Gates++[gate2 a b]):=by
     unfold app?;rw[Zbq (by grind[room])]
    have hlo:Yr (D.Circuit.mk mc.Inputs (mc.Gates++[gate2 a b]))=some (mc.Inputs+2+mc.Gates.length):=by
     grind[Yr,Za,List.length_append,List.length_singleton,Zb]
    have hpt:mputE? ZG fitZ ml (gate2 a b) (mc.Inputs+2+mc.Gates.length)=some ((gate2 a b,mc.Inputs+2+(mc.Gates.length:Int))::ml):=by
     unfold mputE?;rw[Zbq ⟨hgf,GN (by grind[fitInt]),by rw[hl.len];grind[room]⟩]
    simp_all
 have hbr:(if(decide (iab a>iab b))then(mget2? ZG (0:Int) ml (D.Gate.mk b a)).bind λx3=>if x3.2 then some (x3.1,(⟨mc,ml,mf⟩:D.builder))else if(decide ((len mc.Gates)>=360))then some ((-1),(D.builder.mk mc ml true))else(app? mc.Gates ([(D.Gate.mk b a)]:List D.Gate)).bind λx4=>(Yr (D.Circuit.mk mc.Inputs x4)).bind λx5=>(mputE? ZG fitZ ml (D.Gate.mk b a) x5).bind λx6=>some (x5,(D.builder.mk (D.Circuit.mk mc.Inputs x4) x6 mf))else(mget2? ZG (0:Int) ml (D.Gate.mk a b)).bind λx7=>if x7.2 then some (x7.1,(⟨mc,ml,mf⟩:D.builder))else if(decide ((len mc.Gates)>=360))then some ((-1),(D.builder.mk mc ml true))else(app? mc.Gates ([(D.Gate.mk a b)]:List D.Gate)).bind λx8=>(Yr (D.Circuit.mk mc.Inputs x8)).bind λx9=>(mputE? ZG fitZ ml (D.Gate.mk a b) x9).bind λx10=>some (x9,(D.builder.mk (D.Circuit.mk mc.Inputs x8) x10 mf)))=match find mc.Gates (gate2 a b)with
    |some i=>some (mc.Inputs+2+i,⟨mc,ml,mf⟩)
    |none=>if 360<=mc.Gates.length then some (-1,⟨mc,ml,true⟩)else some (mc.Inputs+2+mc.Gates.length,⟨⟨mc.Inputs,mc.Gates++[gate2 a b]⟩,(gate2 a b,mc.Inputs+2+(mc.Gates.length:Int))::ml,mf⟩):=by
  rw[<-key];by_cases c5:iab a>iab b
  all_goals simp_all[Zbq,gate2,Zbv]
 rw[hbr];cases hf:find mc.Gates (gate2 a b)with
 |some i=>exact⟨_,rfl,⟨rfl,rfl,hl⟩⟩
 |none=>
  by_cases c4:360<=mc.Gates.length
  ·rw[Zbq c4,Zbq c4];exact⟨_,rfl,⟨rfl,rfl,hl⟩⟩
  ·rw[Zbv c4,Zbv c4];exact⟨_,rfl,⟨rfl,rfl,hl.snoc hf⟩⟩
end Go.Proofs.YtikabgjjcifidaaGreat.Cc
end
section
namespace Go.Proofs.YtikabgjjcifidaaGreat.Cc
open Go.GL
variable{fuel:Nat}[FU fuel]
abbrev net(s:BS):D.l04Net:=⟨s.1,s.2⟩
structure Good(s:BS)(r:Int×BS):Prop where
 circ:CircP r.2.1
 grow:Grow s.1 r.2.1
 lit:litN (lines r.2.1) r.1=true
def SpecOp(f:D.l04Net->Option (Int×D.l04Net))(s:BS)(r:Int×BS):Prop:=f (net s)=some (r.1,net r.2)
def ImplOp(f:D.builder->Option (Int×D.builder))(s:BS)(r:Int×BS):Prop:=∀m,RelB m s->∃m',f m=some (r.1,m')/\RelB m' r.2
def orP(s:BS)(a b:Int):Int×BS:=let r:=andP s (-a) (-b);(-r.1,r.2)
def xorP(s:BS)(a b:Int):Int×BS:=let p:=andP s a (-b);let q:=andP p.2 (-a) b;orP q.2 p.1 q.1
def ifP(s:BS)(c a b:Int):Int×BS:=let p:=andP s c a;let q:=andP p.2 (-c) b;orP q.2 p.1 q.1
def Yl{n x:Int}(h:litN n x=true)(hn:n<=391):w64 (0-x)=-x:=by
 have:=Xj h hn;rw[litN_iff]at h;unfold iab at h;rw[Zb (by split at h<;>omega) (by split at h<;>omega)];omega
section
variable{s:BS}(hs:CircP s.1)
include hs
theorem Yf{a b:Int}(ha:litN (lines s.1) a=true)(hb:litN (lines s.1) b=true):Good s (andP s a b):=by
 obtain⟨h1,h2,h3⟩:=BH hs ha hb;exact⟨h1,h2,h3⟩
theorem Tt{a b:Int}(ha:litN (lines s.1) a=true)(hb:litN (lines s.1) b=true):Good s (orP s a b):=by
 obtain⟨h1,h2,h3⟩:=Yf hs (a:=-a) (b:=-b) (by rw[ZA];exact ha) (by rw[ZA];exact hb);exact⟨h1,h2,by simp only[orP];rw[ZA];exact h3⟩
theorem PR{a b:Int}(ha:litN (lines s.1) a=true)(hb:litN (lines s.1) b=true):SpecOp (λn=>Zu fuel n a b) s (orP s a b):=by
 have hn:=hs.lines1;have g:=Yf hs (a:=-a) (b:=-b) (by rw[ZA];exact ha) (by rw[ZA];exact hb);unfold SpecOp Zu orP;simp only;rw[Yl ha hn,Yl hb hn,VK hs (by rw[ZA];exact ha) (by rw[ZA];exact hb)];simp only[Zbn];rw[Yl g.lit g.circ.lines1]
theorem PO{a b:Int}(ha:litN (lines s.1) a=true)(hb:litN (lines s.1) b=true):ImplOp (λm=>Z7 m a b) s (orP s a b):=by
 intro m hm;have hn:=hs.lines1;have g:=Yf hs (a:=-a) (b:=-b) (by rw[ZA];exact ha) (by rw[ZA];exact hb);obtain⟨m',h1,h2⟩:=Vy hm hs (a:=-a) (b:=-b) (by rw[ZA];exact ha) (by rw[ZA];exact hb);refine⟨m',?_,h2⟩;unfold Z7 orP;simp only;rw[Yl ha hn,Yl hb hn,h1];simp only[Zbn];rw[Yl g.lit g.circ.lines1]
theorem if_good{c a b:Int}(hc:litN (lines s.1) c=true)(ha:litN (lines s.1) a=true)(hb:litN (lines s.1) b=true):Good s (ifP s c a b):=by
 have g1:=Yf hs hc ha;have g2:=Yf g1.circ (a:=-c) (b:=b) (by rw[ZA];exact litN_mono hc g1.grow.lines) (litN_mono hb g1.grow.lines);have g3:=Tt g2.circ (a:=(andP s c a).1) (b:=(andP (andP s c a).2 (-c) b).1) (litN_mono g1.lit g2.grow.lines) g2.lit;exact⟨g3.circ,(g1.grow.trans g2.grow).trans g3.grow,g3.lit⟩
theorem NT{c a b:Int}(hc:litN (lines s.1) c=true)(ha:litN (lines s.1) a=true)(hb:litN (lines s.1) b=true):((Zk fuel (net s) c a).bind λx1=>(Zk fuel x1.2 (w64 (0-c)) b).bind λx2=>(Zu fuel x2.2 x1.1 x2.1).bind λx3=>some (x3.1,x3.2))=some ((ifP s c a b).1,net (ifP s c a b).2):=by
 have g1:=Yf hs hc ha;have hc':litN (lines (andP s c a).2.1) (-c)=true:=by rw[ZA];exact litN_mono hc g1.grow.lines
 have g2:=Yf g1.circ (a:=-c) (b:=b) hc' (litN_mono hb g1.grow.lines);unfold ifP;simp only;rw[VK hs hc ha];simp only[Zbn];rw[Yl hc hs.lines1,VK g1.circ hc' (litN_mono hb g1.grow.lines)];simp only[Zbn];have h3:Zu fuel _ _ _=_:=PR (fuel:=fuel) g2.circ (a:=(andP s c a).1) (b:=(andP (andP s c a).2 (-c) b).1) (litN_mono g1.lit g2.grow.lines) g2.lit;rw[h3];rfl
theorem MJ{c a b:Int}(hc:litN (lines s.1) c=true)(ha:litN (lines s.1) a=true)(hb:litN (lines s.1) b=true):∀m,RelB m s->∃m',((Zo m c a).bind λx1=>(Zo x1.2 (w64 (0-c)) b).bind λx2=>(Z7 x2.2 x1.1 x2.1).bind λx3=>some (x3.1,x3.2))=some ((ifP s c a b).1,m')/\RelB m' (ifP s c a b).2:=by
 intro m hm;have g1:=Yf hs hc ha;have hc':litN (lines (andP s c a).2.1) (-c)=true:=by rw[ZA];exact litN_mono hc g1.grow.lines
 have g2:=Yf g1.circ (a:=-c) (b:=b) hc' (litN_mono hb g1.grow.lines);obtain⟨m1,e1,r1⟩:=Vy hm hs hc ha;obtain⟨m2,e2,r2⟩:=Vy r1 g1.circ hc' (litN_mono hb g1.grow.lines);obtain⟨m3,e3,r3⟩:=PO g2.circ (a:=(andP s c a).1) (b:=(andP (andP s c a).2 (-c) b).1) (litN_mono g1.lit g2.grow.lines) g2.lit m2 r2;refine⟨m3,?_,r3⟩;unfold ifP;simp only;rw[e1];simp only[Zbn];rw[Yl hc hs.lines1,e2];simp only[Zbn];simp only at e3;rw[e3];rfl
theorem spec_if{c a b:Int}(hc:litN (lines s.1) c=true)(ha:litN (lines s.1) a=true)(hb:litN (lines s.1) b=true):SpecOp (λn=>Zl fuel n c a b) s (ifP s c a b):=by
 unfold SpecOp Zl;exact NT hs hc ha hb
theorem impl_if{c a b:Int}(hc:litN (lines s.1) c=true)(ha:litN (lines s.1) a=true)(hb:litN (lines s.1) b=true):ImplOp (λm=>Zd m c a b) s (ifP s c a b):=by
 unfold ImplOp Zd;exact MJ hs hc ha hb
theorem X7{a b:Int}(ha:litN (lines s.1) a=true)(hb:litN (lines s.1) b=true):Good s (xorP s a b):=
 if_good hs (c:=a) (a:=-b) (b:=b) ha (by rw[ZA];exact hb) hb
theorem Qp{a b:Int}(ha:litN (lines s.1) a=true)(hb:litN (lines s.1) b=true):SpecOp (λn=>Zr fuel n a b) s (xorP s a b):=by
 have h:=NT (fuel:=fuel) hs (c:=a) (a:=-b) (b:=b) ha (by rw[ZA];exact hb) hb;unfold SpecOp;unfold Zr;rw[Yl hb hs.lines1];exact h
theorem Qe{a b:Int}(ha:litN (lines s.1) a=true)(hb:litN (lines s.1) b=true):ImplOp (λm=>Z9 m a b) s (xorP s a b):=by
 intro m hm;obtain⟨m',e,r⟩:=MJ hs (c:=a) (a:=-b) (b:=b) ha (by rw[ZA];exact hb) hb m hm;refine⟨m',?_,r⟩;simp only at e⊢;unfold Z9;rw[Yl hb hs.lines1];exact e
end
def Rl{n x:Int}(hn:0<=n):(decide (x≠0)&&(decide (-n<=x)&&decide (x<=n)))=litN n x:=by
 unfold litN iab;split<;>grind
def spec_lits{l:List Int}{n:Int}(h0:0<=n)(h1:n<=1000)(hl:l.length<=1048576):YO fuel l n=some (l.all (litN n)):=by
 unfold YO;rw[WT (I:=λk t=>t=(k:Int)) (m:=l.length) (ok:=λk=>(l[k]?).all (litN n)) (r:=.inl ()) (r':=.inr false) (λk t hk ht hok=>?_) (λk t hk ht hok=>?_) (λt ht=>?_) l.length 0 _ (by omega) (by simp) fuel (lt_fuel hl)]
 ·have:((List.range' 0 l.length).all λk=>(l[k]?).all (litN n))=l.all (litN n):=by
   rw[ZcI,ZbC,ZbC];constructor
   ·intro h x hx;obtain⟨i,hi⟩:=Zcq.1 hx;have:=h i (by simp[Zdf];exact(Zbu.1 hi).1);rw[hi]at this;simpa using this
   ·intro h i hi;simp[Zdf]at hi;rw[Zbo hi];simpa using h _ (ZbJ hi)
  rw[this];cases l.all (litN n)<;>simp
 all_goals subst ht
 ·refine⟨((k+1:Nat):Int), ?_,rfl⟩;rw[Zbq (by rw[Za];simp;omega),get?_nat,Zbo hk];rw[Zbo hk]at hok;simp only[Zec]at hok;rw[<-Rl h0]at hok;simp only[Zbt,Zb8]at hok;simp only[Zbn];rw[Zbv (by simpa using hok.1),Zf,Zb (x:=0-n)];simp only[Zbn];rw[Zbv (by simp;omega),Zb];rfl
 ·rw[Zbq (by rw[Za];simp;omega),get?_nat,Zbo hk];rw[Zbo hk]at hok;simp only[Zec]at hok;rw[<-Rl h0]at hok;simp only[Zbn];by_cases c:l[k]=0
  ·rw[Zbq (by simpa using c)];simp[c]
  ·rw[Zbv (by simpa using c),Zf,Zb (x:=0-n)];simp only[Zbn];have:(decide (l[k]>=0-n)&&decide (l[k]<=n))=false:=by
    simp only[ne_eq,c,not_false_eq_true,decide_true,Zcn]at hok;rw[<-hok];congr 2;simp
   rw[this];simp
 ·rw[Zbv (by rw[Za];simp)]
def Ro{x n:Int}(h0:0<=n)(h1:n<=1000):ZR x n=some (litN n x):=by
 unfold ZR;rw[Zb,<-Rl h0,Bool.and_assoc];congr 1;have e1:(x !=0)=decide (x≠0):=by cases h:x !=0<;>simp_all
 have e2:decide (x>=0-n)=decide (-n<=x):=by simp
 rw[e1,e2]
def SS{l:List Int}{n:Int}(h0:0<=n)(h1:n<=1000)(hl:l.length<=1048576):Xu fuel l n=some (l.all (litN n)):=by
 unfold Xu;rw[WT (I:=λk t=>t=(k:Int)) (m:=l.length) (ok:=λk=>(l[k]?).all (litN n)) (r:=.inl ()) (r':=.inr false) (λk t hk ht hok=>?_) (λk t hk ht hok=>?_) (λt ht=>?_) l.length 0 _ (by omega) (by simp) fuel (lt_fuel hl)]
 ·have:((List.range' 0 l.length).all λk=>(l[k]?).all (litN n))=l.all (litN n):=by
   rw[ZcI,ZbC,ZbC];constructor
   ·intro h x hx;obtain⟨i,hi⟩:=Zcq.1 hx;have:=h i (by simp[Zdf];exact(Zbu.1 hi).1);rw[hi]at this;simpa using this
   ·intro h i hi;simp[Zdf]at hi;rw[Zbo hi];simpa using h _ (ZbJ hi)
  rw[this];cases l.all (litN n)<;>simp
 all_goals subst ht
 ·refine⟨((k+1:Nat):Int), ?_,rfl⟩;rw[Zbq (by rw[Za];simp;omega),get?_nat,Zbo hk];rw[Zbo hk]at hok;simp only[Zec]at hok;simp only[Zbn,Ro h0 h1,hok];rw[ifn,Zb];rfl
 ·rw[Zbq (by rw[Za];simp;omega),get?_nat,Zbo hk];rw[Zbo hk]at hok;simp only[Zec]at hok;simp only[Zbn,Ro h0 h1,hok];rw[ifp]
 ·rw[Zbv (by rw[Za];simp)]
def Im{c:D.Circuit}(hc:CircP c){l:List Int}(hl:l.length<=1048576):Vh fuel c l=some (l.all (litN (lines c))):=by
 have:=hc.i0;have:=hc.i1;have:=hc.len;unfold Vh;rw[Za,Zb (x:=c.Inputs+1),Zb];show Option.bind (YO fuel l (lines c)) _=_;rw[spec_lits (by have:=hc.lines0;omega) (by have:=hc.lines1;omega) hl];rfl
def Iu{c:D.Circuit}(hc:CircP c):Yr c=some (lines c):=by
 have:=hc.i0;have:=hc.i1;have:=hc.len;unfold Yr;rw[Za,Zb (x:=1+c.Inputs),Zb];unfold lines;congr 1;omega
def spec_new{c:D.Circuit}(hc:CircP c):Vz c=some (net (c,false)):=by
 have:=hc.len;unfold Vz;have:app? ([]:List D.Gate) c.Gates=some c.Gates:=by
  unfold app?;rw[Zbq (by simp;unfold room;omega)];simp
 rw[this];rfl
theorem impl_new{c:D.Circuit}(hc:CircP c):∃m,XP fuel c=some m/\RelB m (c,false):=by
 have h0:=hc.i0;have h1:=hc.i1;have h2:=hc.len;have hcl:ZJ c.Gates=some c.Gates:=by
  unfold ZJ;have:app? ([]:List D.Gate) c.Gates=some c.Gates:=by
   unfold app?;rw[Zbq (by simp;unfold room;omega)];simp
  rw[this];rfl
 let mk:Nat->List (D.Gate×Int):=λk=>((List.range k).reverse.map λi=>(c.Gates.getD i default,c.Inputs+2+(i:Int)))
 have hmk:∀k,k<c.Gates.length->mk (k+1)=(c.Gates.getD k default,c.Inputs+2+(k:Int))::mk k:=by
  intro k hk;simp only[mk];rw[ZcC,Zed,List.reverse_singleton,Zcp,Zb1]
 have hln:∀k,k<=c.Gates.length->LineOk c.Inputs (c.Gates.take k) (mk k):=by
  intro k
  induction k with
  |zero=>intro _;exact LineOk.nil _
  | succ k ih=>
   intro hk;have hk':k<c.Gates.length:=by omega
   have hg:c.Gates[k]? =some (c.Gates.getD k default):=by
    rw[Zbo hk',Zbr,Zbo hk'];rfl
   rw[hmk k hk',Zby hk'];have:=(ih (by omega)).snoc (hc.find_take hg);have e:c.Gates.getD k default=c.Gates[k]:=by rw[Zbo hk']at hg;exact(Option.some.inj hg).symm
   rw[e]at this⊢;rw[Zb2,Zcj (by omega)]at this;exact this
 refine⟨⟨c,mk c.Gates.length,false⟩,?_,⟨rfl,rfl,?_⟩⟩
 ·unfold XP;rw[hcl];simp only[Zbn];rw[YE (I:=λk t=>t=((k:Int),mk k)) (m:=c.Gates.length) (r:=mk c.Gates.length) (λk t hk ht=>?_) (λt ht=>?_) c.Gates.length 0 _ (by omega) (by simp[mk]) fuel lt_fuel]
  ·rfl
  all_goals subst ht
  ·refine⟨(((k+1:Nat):Int),mk (k+1)), ?_,rfl⟩;have hfit:VD c.Gates[k]:=hc.fit.2.2 _ (ZbJ hk);simp only;rw[Zbq (by rw[Za];simp;omega),get?_nat,Zbo hk];simp only[Zbn];rw[Zb (x:=2+c.Inputs),Zb (x:=2+c.Inputs+(k:Int))];have e:c.Gates.getD k default=c.Gates[k]:=by rw[Zbr,Zbo hk];rfl
   have hp:mputE? ZG fitZ (mk k) c.Gates[k] (2+c.Inputs+(k:Int))=some (mk (k+1)):=by
    unfold mputE?;rw[Zbq ⟨fitK hfit,GN (by unfold fitInt;omega),by rw[(hln k (by omega)).len];unfold room;simp;omega⟩,hmk k hk,e];congr 3;omega
   rw[hp];simp only[Zbn];rw[Zb];rfl
  ·simp only;rw[Zbv (by rw[Za];simp)]
 ·have:=hln c.Gates.length (Zb0 _);rw[Zc0]at this;exact this
abbrev AS:=List Int×Int×BS
def addStep(t:AS)(p:Int×Int):AS:=
 let x:=xorP t.2.2 p.1 p.2
 let o:=xorP x.2 x.1 t.2.1
 let y:=andP o.2 p.1 p.2
 let z:=andP y.2 x.1 t.2.1
 let w:=orP z.2 y.1 z.1
 (t.1++[o.1],w.1,w.2)
def addP(s:BS)(a b:List Int)(c:Int):AS:=(a.zip b).foldl addStep ([],c,s)
theorem Oz{U β:Type}(f:β->U->β)(Pp:Nat->β->Prop)(l:List U)(b:β)(h0:Pp 0 b)(hs:∀k x t,l[k]? =some x->Pp k t->Pp (k+1) (f t x)):∀k,k<=l.length->Pp k ((l.take k).foldl f b):=by
 intro k
 induction k with
 |zero=>intro _;exact h0
 |succ k ih=>
  intro hk;rw[Zby (by omega),ZbU];exact hs k _ _ (Zbo (by omega)) (ih (by omega))
structure GoodA(s:BS)(k:Nat)(t:AS):Prop where
 circ:CircP t.2.2.1
 grow:Grow s.1 t.2.2.1
 lit:litN (lines t.2.2.1) t.2.1=true
 len:t.1.length=k
 lits:∀x∈t.1,litN (lines t.2.2.1) x=true
def DJ{s:BS}{k:Nat}{t:AS}(h:GoodA s k t){p:Int×Int}(h1:litN (lines s.1) p.1=true)(h2:litN (lines s.1) p.2=true):GoodA s (k+1) (addStep t p):=by
 have a1:=litN_mono h1 h.grow.lines;have a2:=litN_mono h2 h.grow.lines;have gx:=X7 h.circ a1 a2;have go:=X7 gx.circ gx.lit (litN_mono h.lit gx.grow.lines);have e1:=gx.grow.trans go.grow;have gy:=Yf go.circ (litN_mono a1 e1.lines) (litN_mono a2 e1.lines);have e2:=go.grow.trans gy.grow;have e3:=gx.grow.trans e2;have gz:=Yf gy.circ (litN_mono gx.lit e2.lines) (litN_mono h.lit e3.lines);have gw:=Tt gz.circ (litN_mono gy.lit gz.grow.lines) gz.lit;have e4:=gy.grow.trans (gz.grow.trans gw.grow);have e5:=e1.trans e4;refine⟨gw.circ,h.grow.trans e5,gw.lit,by simp[addStep,h.len],λx hx=>?_⟩;simp only[addStep,Zb7,Zb3]at hx;rcases hx with hx|rfl
 ·exact litN_mono (h.lits x hx) e5.lines
 ·exact litN_mono go.lit e4.lines
def zip_mem{a b:List Int}{p:Int×Int}{k:Nat}(h:(a.zip b)[k]? =some p):a[k]? =some p.1/\b[k]? =some p.2:=by
 rw[List.getElem?_zip_eq_some]at h;exact h
def Te{s:BS}(hs:CircP s.1){a b:List Int}{c:Int}(ha:∀x∈a,litN (lines s.1) x=true)(hb:∀x∈b,litN (lines s.1) x=true)(hc:litN (lines s.1) c=true):
  ∀k,k<=(a.zip b).length->GoodA s k (((a.zip b).take k).foldl addStep ([],c,s)):=
 Oz addStep (GoodA s) _ _ ⟨hs,Grow.refl _,hc,rfl,λ_ h=>by cases h⟩ λk p t hp ht=>DJ ht (ha _ (Zbz (zip_mem hp).1)) (hb _ (Zbz (zip_mem hp).2))
def YN{s:BS}(hs:CircP s.1){a b:List Int}{c:Int}(hab:a.length=b.length)(ha:∀x∈a,litN (lines s.1) x=true)(hb:∀x∈b,litN (lines s.1) x=true)(hc:litN (lines s.1) c=true):GoodA s a.length (addP s a b c):=by
 have:=Te hs ha hb hc (a.zip b).length (Zb0 _);rw[Zc0,Zc4,<-hab,Zdu]at this;exact this
def Sj{s:BS}(hs:CircP s.1){a b:List Int}{c:Int}(hl:a.length<=1048576)(hab:a.length=b.length)(ha:∀x∈a,litN (lines s.1) x=true)(hb:∀x∈b,litN (lines s.1) x=true)(hc:litN (lines s.1) c=true):
  ZN fuel (net s) a b c=some ((addP s a b c).1,(addP s a b c).2.1,net (addP s a b c).2.2):=by
 have hz:(a.zip b).length=a.length:=by rw[Zc4,<-hab,Zdu]
 unfold ZN;rw[YE (I:=λk t=>t=(let r:=((a.zip b).take k).foldl addStep ([],c,s);(r.2.1,(k:Int),r.1,r.2.2.1.Inputs,r.2.2.2,r.2.2.1.Gates))) (m:=a.length) (r:=(let r:=addP s a b c;(r.2.1,r.1,r.2.2.1.Inputs,r.2.2.2,r.2.2.1.Gates))) (λk t hk ht=>?_) (λt ht=>?_) a.length 0 _ (by omega) (by simp) fuel (lt_fuel hl)]
 ·rfl
 all_goals subst ht
 ·refine⟨_, ?_,rfl⟩;have hk':k<(a.zip b).length:=by omega
  have hkb:k<b.length:=by omega
  have h:=Te hs ha hb hc k (by omega);rw[Zby hk',ZbU,Ze2];generalize ((a.zip b).take k).foldl addStep ([],c,s)=t at h⊢;have a1:=litN_mono (ha _ (ZbJ hk)) h.grow.lines;have a2:=litN_mono (hb _ (ZbJ hkb)) h.grow.lines;have gx:=X7 h.circ a1 a2;have go:=X7 gx.circ gx.lit (litN_mono h.lit gx.grow.lines);have e1:=gx.grow.trans go.grow;have gy:=Yf go.circ (litN_mono a1 e1.lines) (litN_mono a2 e1.lines);have e2:=go.grow.trans gy.grow;have e3:=gx.grow.trans e2;have gz:=Yf gy.circ (litN_mono gx.lit e2.lines) (litN_mono h.lit e3.lines);have sx:Zr fuel (net t.2.2) _ _=_:=Qp (fuel:=fuel) h.circ a1 a2;have so:Zr fuel (net _) _ _=_:=Qp (fuel:=fuel) gx.circ gx.lit (litN_mono h.lit gx.grow.lines);have sy:=VK (fuel:=fuel) go.circ (litN_mono a1 e1.lines) (litN_mono a2 e1.lines);have sz:=VK (fuel:=fuel) gy.circ (litN_mono gx.lit e2.lines) (litN_mono h.lit e3.lines);have sw:Zu fuel (net _) _ _=_:=PR (fuel:=fuel) gz.circ (litN_mono gy.lit gz.grow.lines) gz.lit;simp only;rw[Zbq (by rw[Za];simp;omega),get?_nat,get?_nat,Zbo hk,Zbo hkb];simp only[Zbn];have sx':Zr fuel (D.l04Net.mk (D.Circuit.mk t.2.2.1.Inputs t.2.2.1.Gates) t.2.2.2) a[k] b[k]=_:=sx;rw[sx'];simp only[Zbn];rw[so];simp only[Zbn];have happ:app? t.1 [(xorP (xorP t.2.2 a[k] b[k]).2 (xorP t.2.2 a[k] b[k]).1 t.2.1).1]=some (t.1++[(xorP (xorP t.2.2 a[k] b[k]).2 (xorP t.2.2 a[k] b[k]).1 t.2.1).1]):=by
   unfold app?;rw[Zbq (by simp[h.len];unfold room;omega)]
  rw[happ];simp only[Zbn];rw[sy];simp only[Zbn];rw[sz];simp only[Zbn];rw[sw];simp only[Zbn];rw[Zb];rfl
 ·simp only;rw[Zbv (by rw[Za];simp)];unfold addP;rw[ZbX (by omega)]
def set_fill{l:List Int}{n:Nat}{x:Int}:(l++List.replicate (n+1) 0).set l.length x=(l++[x])++List.replicate n 0:=by
 rw[ZcD _ _ (Zb0 _),ZcG,Zdh,ZcX,ZbI,Zcp]
theorem TK{s:BS}(hs:CircP s.1){m:D.builder}(hm:RelB m s){a b:List Int}{c:Int}(hl:a.length<=1048576)(hab:a.length=b.length)(ha:∀x∈a,litN (lines s.1) x=true)(hb:∀x∈b,litN (lines s.1) x=true)(hc:litN (lines s.1) c=true):
  ∃m',Ya fuel m a b c=some ((addP s a b c).1,(addP s a b c).2.1,m')/\RelB m' (addP s a b c).2.2:=by
 have hz:(a.zip b).length=a.length:=by rw[Zc4,<-hab,Zdu]
 obtain⟨mc,ml,mf⟩:=m;obtain⟨sc,sf⟩:=s;obtain⟨hc1,hf1,hl1⟩:=hm;simp only at hc1 hf1 hl1;subst hc1;subst hf1;simp only at hs ha hb hc;have main:∀(d k:Nat)(ln:List (D.Gate×Int)),k+d=a.length->
   (let r:=((a.zip b).take k).foldl addStep ([],c,(mc,mf));RelB ⟨r.2.2.1,ln,r.2.2.2⟩ r.2.2)->∀n,d<n->∃ln',
   iterN (λ(s1:Int×Int×(List Int)×Int×Bool×(List D.Gate)×(List (D.Gate×Int)))=>if(decide (s1.2.1<(len a)))then(get? a s1.2.1).bind λx2=>(get? b s1.2.1).bind λx3=>(Z9 (D.builder.mk (D.Circuit.mk s1.2.2.2.1 s1.2.2.2.2.2.1) s1.2.2.2.2.2.2 s1.2.2.2.2.1) x2 x3).bind λx4=>(Z9 x4.2 x4.1 s1.1).bind λx5=>(set? s1.2.2.1 s1.2.1 x5.1).bind λx6=>(get? a s1.2.1).bind λx7=>(get? b s1.2.1).bind λx8=>(Zo x5.2 x7 x8).bind λx9=>(Zo x9.2 x4.1 s1.1).bind λx10=>(Z7 x10.2 x9.1 x10.1).bind λx11=>some (.inl (x11.1,(w64 (s1.2.1+1)),x6,x11.2.c.Inputs,x11.2.full,x11.2.c.Gates,x11.2.line))else some (.inr (s1.1,s1.2.2.1,s1.2.2.2.1,s1.2.2.2.2.1,s1.2.2.2.2.2.1,s1.2.2.2.2.2.2))) n
    (let r:=((a.zip b).take k).foldl addStep ([],c,(mc,mf));(r.2.1,(k:Int),r.1++List.replicate d 0,r.2.2.1.Inputs,r.2.2.2,r.2.2.1.Gates,ln))=
    some (let r:=addP (mc,mf) a b c;(r.2.1,r.1,r.2.2.1.Inputs,r.2.2.2,r.2.2.1.Gates,ln'))/\(let r:=addP (mc,mf) a b c;RelB ⟨r.2.2.1,ln',r.2.2.2⟩ r.2.2):=by
  intro d
  induction d with
  | zero=>
   intro k ln hk hr n hn;obtain⟨n,rfl⟩:∃j,n=j+1:=⟨n-1,by omega⟩;obtain rfl:k=a.length:=by omega
   refine⟨ln,?_,?_⟩
   ·unfold iterN addP;rw[ZbX (by omega)];simp only;rw[Zbv (by rw[Za];simp)];simp
   ·unfold addP;rw[ZbX (by omega)]at hr;exact hr
  | succ d ih=>
   intro k ln hk hr n hn;obtain⟨n,rfl⟩:∃j,n=j+1:=⟨n-1,by omega⟩;have hka:k<a.length:=by omega
   have hk':k<(a.zip b).length:=by omega
   have hkb:k<b.length:=by omega
   have h:=Te (s:=(mc,mf)) hs ha hb hc k (by omega);have ih1:=ih (k+1);rw[Zby hk',ZbU,Ze2]at ih1;generalize ((a.zip b).take k).foldl addStep ([],c,(mc,mf))=t at h hr ih1⊢;have a1:=litN_mono (ha _ (ZbJ hka)) h.grow.lines;have a2:=litN_mono (hb _ (ZbJ hkb)) h.grow.lines;have gx:=X7 h.circ a1 a2;have go:=X7 gx.circ gx.lit (litN_mono h.lit gx.grow.lines);have e1:=gx.grow.trans go.grow;have gy:=Yf go.circ (litN_mono a1 e1.lines) (litN_mono a2 e1.lines);have e2:=go.grow.trans gy.grow;have e3:=gx.grow.trans e2;have gz:=Yf gy.circ (litN_mono gx.lit e2.lines) (litN_mono h.lit e3.lines);obtain⟨m1,sx,r1⟩:=Qe h.circ a1 a2 _ hr;obtain⟨m2,so,r2⟩:=Qe gx.circ gx.lit (litN_mono h.lit gx.grow.lines) _ r1;obtain⟨m3,sy,r3⟩:=Vy r2 go.circ (litN_mono a1 e1.lines) (litN_mono a2 e1.lines);obtain⟨m4,sz,r4⟩:=Vy r3 gy.circ (litN_mono gx.lit e2.lines) (litN_mono h.lit e3.lines);obtain⟨m5,sw,r5⟩:=PO gz.circ (litN_mono gy.lit gz.grow.lines) gz.lit _ r4;simp only at sx so sw;obtain⟨c5,l5,f5⟩:=m5;obtain⟨hc5,hf5,hl5⟩:=r5;simp only at hc5 hf5 hl5;have hnext:=ih1 l5 (by omega) (by simp only[Zcx,ZcJ];exact⟨rfl,rfl,hl5⟩) n (by omega);obtain⟨ln',hi,hrr⟩:=hnext;refine⟨ln',?_,hrr⟩;rw[<-hi]
   conv=>lhs;unfold iterN
   simp only;rw[Zbq (by rw[Za];simp;omega),get?_nat,get?_nat,Zbo hka,Zbo hkb];simp only[Zbn];have sx':Z9 (D.builder.mk (D.Circuit.mk t.2.2.1.Inputs t.2.2.1.Gates) ln t.2.2.2) a[k] b[k]=_:=sx;rw[sx'];simp only[Zbn];rw[so];simp only[Zbn];have hset:∀q,set? (t.1++List.replicate (d+1) 0) (k:Int) q=some ((t.1++[q])++List.replicate d 0):=λq=>by
    have e:=set_fill (l:=t.1) (n:=d) (x:=q);rw[h.len]at e;rw[set?_nat (by simp[h.len]),e]
   rw[hset];simp only[Zbn];rw[sy];simp only[Zbn];rw[sz];simp only[Zbn];rw[sw];simp only[Zbn];rw[Zb,hc5,hf5];rfl
 obtain⟨ln',hi,hr⟩:=main a.length 0 ml (by omega) (by simp only[ZdR,ZcJ];exact⟨rfl,rfl,hl1⟩) fuel (lt_fuel hl);refine⟨_,?_,hr⟩;unfold Ya;rw[mk?_len (by unfold room;omega)];simp only[Zbn];simp only[ZdR,ZcJ,Zds]at hi;have hi':=congrArg (λr=>Option.bind r λ(rl1:Int×(List Int)×Int×Bool×(List D.Gate)×(List (D.Gate×Int)))=>some (rl1.2.1,rl1.1,(D.builder.mk (D.Circuit.mk rl1.2.2.1 rl1.2.2.2.2.1) rl1.2.2.2.2.2 rl1.2.2.2.1))) hi;exact hi'
end Go.Proofs.YtikabgjjcifidaaGreat.Cc
end
section
namespace Go.Proofs.YtikabgjjcifidaaGreat.Cc
open Go.GL
variable{fuel:Nat}[FU fuel]
end Go.Proofs.YtikabgjjcifidaaGreat.Cc
end
section
namespace Go.Proofs.YtikabgjjcifidaaGreat.Cc
open Go.GL
variable{fuel:Nat}[FU fuel]
abbrev LS:=List Int×BS
section
variable{U:Type}
def seqP(f:BS->U->Int×BS)(s:BS)(l:List U):LS:=l.foldl (λt x=>(t.1++[(f t.2 x).1],(f t.2 x).2)) ([],s)
structure GoodL(s:BS)(n:Nat)(t:LS):Prop where
 circ:CircP t.2.1
 grow:Grow s.1 t.2.1
 len:t.1.length=n
 lits:∀x∈t.1,litN (lines t.2.1) x=true
def FOk(f:BS->U->Int×BS)(s:BS)(l:List U):Prop:=∀s' x,CircP s'.1->Grow s.1 s'.1->x∈l->Good s' (f s' x)
def Uh{f:BS->U->Int×BS}{s:BS}{l:List U}(hs:CircP s.1)(hf:FOk f s l):∀k,k<=l.length->GoodL s k (seqP f s (l.take k)):=
 Oz _ (GoodL s) l _ ⟨hs,Grow.refl _,rfl,λ_ h=>by cases h⟩ λk x t hx ht=>by
  have g:=hf t.2 x ht.circ ht.grow (Zbz hx);refine⟨g.circ,ht.grow.trans g.grow,by simp[ht.len],λy hy=>?_⟩;simp only[Zb7,Zb3]at hy;rcases hy with hy|rfl
  ·exact litN_mono (ht.lits y hy) g.grow.lines
  ·exact g.lit
def seq_good{f:BS->U->Int×BS}{s:BS}{l:List U}(hs:CircP s.1)(hf:FOk f s l):GoodL s l.length (seqP f s l):=by
 have:=Uh hs hf l.length (Zb0 _);simp_all
def UX{f:BS->U->Int×BS}{s:BS}{l:List U}{k:Nat}{x:U}(hx:l[k]? =some x):seqP f s (l.take (k+1))=((seqP f s (l.take k)).1++[(f (seqP f s (l.take k)).2 x).1],(f (seqP f s (l.take k)).2 x).2):=by
 grind[seqP,List.take_succ_eq_append_getElem]
def spec_seq{f:BS->U->Int×BS}{l:List U}{s:BS}{B:Int×List Int×Int×Bool×List D.Gate->Option ((Int×List Int×Int×Bool×List D.Gate)⊕(List Int×Int×Bool×List D.Gate))}(hs:CircP s.1)(hl:l.length<=1000)(hf:FOk f s l)
  (hB:∀(j:Nat)(out:List Int)(s':BS)(x:U),l[j]? =some x->CircP s'.1->Grow s.1 s'.1->out.length=j->B ((j:Int),out,s'.1.Inputs,s'.2,s'.1.Gates)=some (.inl (((j+1:Nat):Int),out++[(f s' x).1],(f s' x).2.1.Inputs,(f s' x).2.2,(f s' x).2.1.Gates)))
  (hE:∀(out:List Int)(s':BS),B (((l.length:Nat):Int),out,s'.1.Inputs,s'.2,s'.1.Gates)=some (.inr (out,s'.1.Inputs,s'.2,s'.1.Gates))):
  iterN B fuel (0,[],s.1.Inputs,s.2,s.1.Gates)=some ((seqP f s l).1,(seqP f s l).2.1.Inputs,(seqP f s l).2.2,(seqP f s l).2.1.Gates):=by
 refine YE (I:=λk t=>t=((k:Int),(seqP f s (l.take k)).1,(seqP f s (l.take k)).2.1.Inputs,(seqP f s (l.take k)).2.2,(seqP f s (l.take k)).2.1.Gates)) (m:=l.length) (λk t hk ht=>?_) (λt ht=>?_) l.length 0 _ (by omega) rfl fuel lt_fuel
 ·subst ht;have g:=Uh hs hf k (by omega);refine⟨_,hB k _ _ l[k] (Zbo hk) g.circ g.grow g.len,?_⟩;simp_all[UX,Zbo]
 grind
theorem UQ{σt ρt:Type}{B:σt->Option (σt⊕ρt)}{I:Nat->σt->Prop}{m:Nat}{R:ρt->Prop}(hs:∀k s,k<m->I k s->∃s',B s=some (.inl s')/\I (k+1) s')(hf:∀s,I m s->∃r,B s=some (.inr r)/\R r):
  ∀(d k:Nat)(s:σt),k+d=m->I k s->∀n,d<n->∃r,iterN B n s=some r/\R r
 |0,k,s,hk,hi,n,hn=>by
  obtain⟨n,rfl⟩:∃j,n=j+1:=⟨n-1,by omega⟩;obtain rfl:k=m:=by omega
  grind[iterN]
 |d+1,k,s,hk,hi,n,hn=>by
  obtain⟨n,rfl⟩:∃j,n=j+1:=⟨n-1,by omega⟩;obtain⟨s',h1,h2⟩:=hs k s (by omega) hi;obtain⟨r,h3,h4⟩:=UQ hs hf d (k+1) s' (by omega) h2 n (by omega);simp_all[iterN]
def Sn{σt ρt γ:Type}{B:σt->Option (σt⊕ρt)}{I:Nat->σt->Prop}{m:Nat}{R:ρt->Prop}{f:ρt->Option γ}{G:γ->Prop}(hs:∀k s,k<m->I k s->∃s',B s=some (.inl s')/\I (k+1) s')(hf:∀s,I m s->∃r,B s=some (.inr r)/\R r)
  (d k:Nat)(s:σt)(hk:k+d=m)(hi:I k s)(n:Nat)(hn:d<n)(hfin:∀r,R r->∃y,f r=some y/\G y):∃y,(iterN B n s).bind f=some y/\G y:=by
 obtain⟨r,h1,h2⟩:=UQ hs hf d k s hk hi n hn;simp_all
def HY{U β:Type}{X:Option (U×β)}{v:U}{R:β->Prop}(h:∃y,X=some y/\∃m,y=(v,m)/\R m):∃m,X=some (v,m)/\R m:=by
 grind
def IX{l L0:List Int}{k:Nat}{x:Int}(hl:l.length=k)(hk:k<L0.length):(l++L0.drop k).set k x=(l++[x])++L0.drop (k+1):=by
 subst hl;rw[ZcD _ _ (Zb0 _),ZcG,ZbT hk,ZcX,ZbI,Zcp]
def impl_seq{f:BS->U->Int×BS}{l:List U}{s:BS}{B:Int×List Int×Int×Bool×List D.Gate×List (D.Gate×Int)->Option ((Int×List Int×Int×Bool×List D.Gate×List (D.Gate×Int))⊕(List Int×Int×Bool×List D.Gate×List (D.Gate×Int)))}(hs:CircP s.1)(hl:l.length<=1000)(hf:FOk f s l){L0:List Int}(hL:L0.length=l.length)
  (hB:∀(j:Nat)(L:List Int)(m:D.builder)(s':BS)(x:U),l[j]? =some x->CircP s'.1->Grow s.1 s'.1->RelB m s'->L.length=l.length->(∀i,j<=i->L[i]? =L0[i]?)->∃m',B ((j:Int),L,m.c.Inputs,m.full,m.c.Gates,m.line)=some (.inl (((j+1:Nat):Int),L.set j (f s' x).1,m'.c.Inputs,m'.full,m'.c.Gates,m'.line))/\RelB m' (f s' x).2)
  (hE:∀(L:List Int)(m:D.builder),B (((l.length:Nat):Int),L,m.c.Inputs,m.full,m.c.Gates,m.line)=some (.inr (L,m.c.Inputs,m.full,m.c.Gates,m.line))){m:D.builder}(hm:RelB m s):
  ∃m',iterN B fuel (0,L0,m.c.Inputs,m.full,m.c.Gates,m.line)=some ((seqP f s l).1,m'.c.Inputs,m'.full,m'.c.Gates,m'.line)/\RelB m' (seqP f s l).2:=by
 have key:∃r,iterN B fuel (0,L0,m.c.Inputs,m.full,m.c.Gates,m.line)=some r/\∃m':D.builder,r=((seqP f s l).1,m'.c.Inputs,m'.full,m'.c.Gates,m'.line)/\RelB m' (seqP f s l).2:=by
  refine UQ (B:=B) (I:=λk t=>∃m':D.builder,t=((k:Int),(seqP f s (l.take k)).1++L0.drop k,m'.c.Inputs,m'.full,m'.c.Gates,m'.line)/\RelB m' (seqP f s (l.take k)).2) (m:=l.length) (λk t hk ht=>?_) (λt ht=>?_) l.length 0 _ (by omega) ⟨m,rfl,hm⟩ fuel lt_fuel
  ·obtain⟨m1,rfl,hr⟩:=ht;have g:=Uh hs hf k (by omega);obtain⟨m2,h3,h4⟩:=hB k ((seqP f s (l.take k)).1++L0.drop k) m1 (seqP f s (l.take k)).2 l[k] (Zbo hk) g.circ g.grow hr (by rw[Zbw,g.len,ZbD];omega) (λi hi=>by rw[ZbB (by rw[g.len];omega),g.len,Zc1];simp_all);refine⟨_,h3,m2,?_,?_⟩
   ·rw[UX (Zbo hk),IX g.len (by omega)]
   simp_all[UX,Zbo]
  grind
 grind
end
def negs(l:List Int):List Int:=l.map λx=>-x
theorem negs_len(l:List Int):(negs l).length=l.length:=by simp[negs]
def negs_lits{n:Int}{l:List Int}(h:∀x∈l,litN n x=true):∀x∈negs l,litN n x=true:=by
 intro x hx;obtain⟨y,hy,rfl⟩:=ZcB.1 hx;simp_all[ZA]
def spec_not{n:Int}{l:List Int}(hn:n<=391)(hl:l.length<=1000)(h:∀x∈l,litN n x=true):X0 fuel l=some (negs l):=by
 unfold X0;rw[YE (I:=λk t=>t=((k:Int),negs (l.take k))) (m:=l.length) (r:=negs l) (λk t hk ht=>?_) (λt ht=>?_) l.length 0 _ (by omega) (by simp[negs]) fuel lt_fuel]
 ·rfl
 all_goals subst ht
 ·rw[Zbq (by simp_all[Za]),get?_nat,Zbo hk];simp only[Zbn];rw[Yl (h _ (ZbJ hk)) hn];have:app? (negs (l.take k)) [-l[k]]=some (negs (l.take (k+1))):=by
   unfold app?;rw[Zbq (by grind[negs,room]),Zby hk];grind[negs]
  grind[Zb]
 simp[Zbv,Za,Zc0]
def impl_opp{n:Int}{l:List Int}(hn:n<=391)(hl:l.length<=1000)(h:∀x∈l,litN n x=true):YA fuel l=some (negs l):=by
 unfold YA;rw[mk?_len (by grind[room])];simp only[Zbn];rw[YE (I:=λk t=>t=((k:Int),negs (l.take k)++List.replicate (l.length-k) 0)) (m:=l.length) (r:=negs l) (λk t hk ht=>?_) (λt ht=>?_) l.length 0 _ (by omega) (by simp[negs]) fuel lt_fuel]
 ·rfl
 all_goals subst ht
 ·rw[Zbq (by simp_all[Za]),get?_nat,Zbo hk];simp only[Zbn];have hln:(negs (l.take k)).length=k:=by grind[negs_len,List.length_take]
  rw[Yl (h _ (ZbJ hk)) hn,set?_nat (by grind)];have e:(negs (l.take k)++List.replicate (l.length-k) 0).set k (-l[k])=negs (l.take (k+1))++List.replicate (l.length-(k+1)) 0:=by
   have:=set_fill (l:=negs (l.take k)) (n:=l.length-(k+1)) (x:=-l[k]);grind[List.take_succ_eq_append_getElem,negs]
  grind[Zb]
 simp[Zbv,Za,Zc0]
def spec_fill{w:Nat}(hw:w<=1000)(x:Int):Yh fuel (w:Int) x=some (List.replicate w x):=by
 unfold Yh;rw[YE (I:=λk t=>t=((k:Int),List.replicate k x)) (m:=w) (r:=List.replicate w x) (λk t hk ht=>?_) (λt ht=>?_) w 0 _ (by omega) (by simp) fuel lt_fuel]
 ·rfl
 all_goals subst ht
 ·have:app? (List.replicate k x) [x]=some (List.replicate (k+1) x):=by
   unfold app?;rw[Zbq (by grind[room]),ZdV]
  grind[Zb]
 simp
def band01:(band 0 1==1)=false:=by decide
def Mh{w:Nat}(hw:w<=1000):Y1 fuel (w:Int) 0=some (List.replicate w (-1)):=by
 unfold Y1;have hmk:mk? (w:Int) (0:Int)=some (List.replicate w 0):=by
  unfold mk?;rw[Zbq ⟨by omega,by grind[room]⟩];rfl
 rw[hmk];simp only[Zbn];rw[YE (I:=λk t=>t=((k:Int),List.replicate k (-1)++List.replicate (w-k) 0)) (m:=w) (r:=List.replicate w (-1)) (λk t hk ht=>?_) (λt ht=>?_) w 0 _ (by omega) (by simp) fuel lt_fuel]
 ·rfl
 all_goals subst ht
 ·rw[Zbq (by simp_all[Za]),set?_nat (by simp;omega)];have hw:IntKind.u64.wrap (k:Int)=k:=by grind[IntKind.wrap,IntKind.bits,IntKind.signed]
  have hsh:shr? 0 (k:Int)=some 0:=by
   rfl
  rw[hw,hsh];simp only[Zbn];rw[Zbv (by simp[band01])];have e:(List.replicate k (-1)++List.replicate (w-k) 0).set k (-1)=List.replicate (k+1) (-1)++List.replicate (w-(k+1)) 0:=by
   have:=set_fill (l:=List.replicate k (-1)) (n:=w-(k+1)) (x:=-1);grind[List.length_replicate,List.replicate_succ']
  grind[Zb]
 simp[Zbv,Za]
theorem Yw{c:D.Circuit}(h:CircP c):litN (lines c) (-1)=true:=litN_iff.2 ⟨by simp[iab],by have:=h.lines0;grind[iab]⟩
def XR{c:D.Circuit}(h:CircP c):litN (lines c) 1=true:=litN_iff.2 ⟨by simp[iab],by have:=h.lines0;grind[iab]⟩
def partF(bk:Int):BS->Int->Int×BS:=λs x=>andP s bk x
def mulStep(a b:List Int)(t:LS)(k:Nat):LS:=
 let p:=seqP (partF (b.getD k 0)) t.2 (a.take (a.length-k))
 let q:=addP p.2 (t.1.drop k) p.1 (-1)
 (t.1.take k++q.1,q.2.2)
def mulK(s:BS)(a b:List Int)(k:Nat):LS:=(List.range k).foldl (mulStep a b) (List.replicate a.length (-1),s)
def mulK_succ(s:BS)(a b:List Int)(k:Nat):mulK s a b (k+1)=mulStep a b (mulK s a b k) k:=by
 simp[mulK,ZcC,ZbU]
def PS{s:BS}{a b:List Int}(ha:∀x∈a,litN (lines s.1) x=true)(hb:∀x∈b,litN (lines s.1) x=true){t:LS}(hg:Grow s.1 t.2.1){k:Nat}(hk:k<b.length):FOk (partF (b.getD k 0)) t.2 (a.take (a.length-k)):=by
 intro s' x hc hgr hx;have hbk:b.getD k 0∈b:=by simp_all
 have e:=hg.trans hgr;exact Yf hc (litN_mono (hb _ hbk) e.lines) (litN_mono (ha _ (Zc8 hx)) e.lines)
section
variable{s:BS}(hs:CircP s.1){a b:List Int}(hab:a.length=b.length)(ha:∀x∈a,litN (lines s.1) x=true)(hb:∀x∈b,litN (lines s.1) x=true)
include hs hab ha hb
theorem UK(k:Nat)(hk:k<=a.length):GoodL s a.length (mulK s a b k):=by
 induction k with
 | zero=>exact⟨hs,Grow.refl _,by simp[mulK],λx hx=>by
   grind[mulK,Yw]⟩
 | succ k ih=>
  have g:=ih (by omega);rw[mulK_succ];generalize mulK s a b k=t at g⊢;have gp:=seq_good g.circ (PS ha hb g.grow (k:=k) (by omega));have gpl:(seqP (partF (b.getD k 0)) t.2 (a.take (a.length-k))).1.length=a.length-k:=by rw[gp.len,Zb2];omega
  have gq:=YN gp.circ (a:=t.1.drop k) (b:=(seqP (partF (b.getD k 0)) t.2 (a.take (a.length-k))).1) (c:=-1) (by rw[gpl,ZbD,g.len]) (λx hx=>litN_mono (g.lits x (Zco hx)) gp.grow.lines) gp.lits (Yw gp.circ);refine⟨gq.circ,(g.grow.trans gp.grow).trans gq.grow,?_,λx hx=>?_⟩
  ·simp only[mulStep,Zbw,Zb2,gq.len,ZbD,g.len];omega
  ·simp only[mulStep,Zb7]at hx;rcases hx with hx|hx
   ·exact litN_mono (g.lits x (Zc8 hx)) (gp.grow.trans gq.grow).lines
   ·exact gq.lits x hx
end
theorem getD_get{l:List Int}{k:Nat}(hk:k<l.length):l[k]? =some (l.getD k 0):=by
 simp_all
theorem getD_mem{l:List Int}{k:Nat}(hk:k<l.length):l.getD k 0∈l:=Zbz (getD_get hk)
def Ka{l:List Int}{k:Nat}(hk:k<=l.length):cut? l (k:Int) (len l)=some (l.drop k):=by
 simp_all[cut?,Za,Zbq]
def Ee{l:List Int}{k:Nat}(hk:k<=l.length):cut? l 0 (k:Int)=some (l.take k):=by
 simp_all[cut?,Zbq]
def PQ{l:List Int}(h:l.length<=1000):app? ([]:List Int) l=some l:=by
 unfold app?;rw[Zbq (by grind[room])];rfl
theorem Un{l m:List Int}(h:l.length+m.length<=100000):app? l m=some (l++m):=by
 unfold app?;rw[Zbq (by grind[room])]
def JD{l m:List Int}{k:Nat}(hk:k<=l.length)(hm:m.length=l.length-k):vcopy l (k:Int) (l.length-k) m=l.take k++m:=by
 simp_all[vcopy,ZbE,ZbX,Zdj,Zcg]
section
variable{s:BS}(hs:CircP s.1){a b:List Int}(hab:a.length=b.length)(hl:a.length<=16)(ha:∀x∈a,litN (lines s.1) x=true)(hb:∀x∈b,litN (lines s.1) x=true)
include hs hab hl ha hb
theorem Dr:Xq fuel (net s) a b=some ((mulK s a b a.length).1,net (mulK s a b a.length).2):=by
 unfold Xq;rw[Za,spec_fill (by omega)];simp only[Zbn];rw[YE (I:=λk t=>t=((k:Int),(mulK s a b k).1,(mulK s a b k).2.1.Inputs,(mulK s a b k).2.2,(mulK s a b k).2.1.Gates)) (m:=a.length) (r:=((mulK s a b a.length).1,(mulK s a b a.length).2.1.Inputs,(mulK s a b a.length).2.2,(mulK s a b a.length).2.1.Gates)) (λk t hk ht=>?_) (λt ht=>?_) a.length 0 _ (by omega) (by simp[mulK]) fuel lt_fuel]
 ·rfl
 all_goals subst ht
 ·have g:=UK hs hab ha hb k (by omega);have hok:=PS ha hb g.grow (k:=k) (by omega);have gp:=seq_good g.circ hok;refine⟨_,?_,rfl⟩;rw[mulK_succ];generalize mulK s a b k=t at g gp hok⊢;have gpl:(seqP (partF (b.getD k 0)) t.2 (a.take (a.length-k))).1.length=a.length-k:=by rw[gp.len,Zb2];omega
  have gq:=YN gp.circ (a:=t.1.drop k) (b:=(seqP (partF (b.getD k 0)) t.2 (a.take (a.length-k))).1) (c:=-1) (by rw[gpl,ZbD,g.len]) (λx hx=>litN_mono (g.lits x (Zco hx)) gp.grow.lines) gp.lits (Yw gp.circ);have sq:=Sj (fuel:=fuel) (s:=(seqP (partF (b.getD k 0)) t.2 (a.take (a.length-k))).2) gp.circ (a:=t.1.drop k) (b:=(seqP (partF (b.getD k 0)) t.2 (a.take (a.length-k))).1) (c:=-1) (by rw[ZbD,g.len];omega) (by rw[gpl,ZbD,g.len]) (λx hx=>litN_mono (g.lits x (Zco hx)) gp.grow.lines) gp.lits (Yw gp.circ);simp only;rw[Zbq (by simp;omega),Zb (x:=(a.length:Int)-(k:Int))];rw[spec_seq (f:=partF (b.getD k 0)) (l:=a.take (a.length-k)) (s:=t.2) g.circ (by grind) hok (λj out s' x hx hc hgr hout=>?_) (λout s'=>?_)]
  ·simp only[Zbn];have hcr:=Ka (l:=t.1) (k:=k) (by rw[g.len];omega);rw[hcr];simp only[Zbn];have sq':ZN fuel (D.l04Net.mk (D.Circuit.mk (seqP (partF (b.getD k 0)) t.2 (a.take (a.length-k))).2.1.Inputs (seqP (partF (b.getD k 0)) t.2 (a.take (a.length-k))).2.1.Gates) (seqP (partF (b.getD k 0)) t.2 (a.take (a.length-k))).2.2) (t.1.drop k) (seqP (partF (b.getD k 0)) t.2 (a.take (a.length-k))).1 (-1)=_:=sq;rw[sq'];simp only[Zbn];rw[Ee (by rw[g.len];omega)];simp only[Zbn];have l1:(t.1.take k).length<=1000:=by grind
   rw[PQ l1];simp only[Zbn];rw[Un (by rw[Zb2,gq.len,ZbD,g.len];omega)];rw[Zb];rfl
  ·have hj:j<a.length-k/\j<a.length:=by
    grind
   have hax:a[j]? =some x:=by simp_all
   rw[Zbq (by simp;omega),get?_nat,get?_nat,getD_get (l:=b) (by omega),hax];simp only[Zbn];have hga:=g.grow.trans hgr;have sa:Zk fuel (D.l04Net.mk (D.Circuit.mk s'.1.Inputs s'.1.Gates) s'.2) (b.getD k 0) x=_:=VK (fuel:=fuel) hc (litN_mono (hb _ (getD_mem (by omega))) hga.lines) (litN_mono (ha _ (Zbz hax)) hga.lines);rw[sa];simp only[Zbn];rw[Un (by simp;omega)];rw[Zb];rfl
  grind
 simp
theorem Dp{m:D.builder}(hm:RelB m s):∃m',YJ fuel m a b=some ((mulK s a b a.length).1,m')/\RelB m' (mulK s a b a.length).2:=by
 unfold YJ;rw[Za,Mh (by omega)];simp only[Zbn];refine HY ?_;refine Sn (I:=λk t=>∃m':D.builder,t=((k:Int),(mulK s a b k).1,m'.c.Inputs,m'.full,m'.c.Gates,m'.line)/\RelB m' (mulK s a b k).2) (R:=λr=>∃m':D.builder,r=((mulK s a b a.length).1,m'.c.Inputs,m'.full,m'.c.Gates,m'.line)/\RelB m' (mulK s a b a.length).2) (m:=a.length) (λk t hk ht=>?_) (λt ht=>?_) a.length 0 _ (by omega) ⟨m,rfl,hm⟩ fuel lt_fuel (λr hr=>?_)
 ·obtain⟨m1,rfl,hr⟩:=ht;have g:=UK hs hab ha hb k (by omega);have hok:=PS ha hb g.grow (k:=k) (by omega);have gp:=seq_good g.circ hok;rw[mulK_succ];generalize mulK s a b k=t at g gp hok hr⊢;have gpl:(seqP (partF (b.getD k 0)) t.2 (a.take (a.length-k))).1.length=a.length-k:=by rw[gp.len,Zb2];omega
  have gq:=YN gp.circ (a:=t.1.drop k) (b:=(seqP (partF (b.getD k 0)) t.2 (a.take (a.length-k))).1) (c:=-1) (by rw[gpl,ZbD,g.len]) (λx hx=>litN_mono (g.lits x (Zco hx)) gp.grow.lines) gp.lits (Yw gp.circ);have hmk:mk? (w64 ((a.length:Int)-(k:Int))) (0:Int)=some (List.replicate (a.length-k) 0):=by
   rw[Zb];unfold mk?;rw[Zbq ⟨by omega,by grind[room]⟩];simp
  obtain⟨m2,h2,r2⟩:=impl_seq (fuel:=fuel) (f:=partF (b.getD k 0)) (l:=a.take (a.length-k)) (s:=t.2) (L0:=List.replicate (a.length-k) 0) (B:=λ(s2:Int×(List Int)×Int×Bool×(List D.Gate)×(List (D.Gate×Int)))=>if(decide (s2.1<(len (List.replicate (a.length-k) (0:Int)))))then(get? b (k:Int)).bind λx3=>(get? a s2.1).bind λx4=>(Zo (D.builder.mk (D.Circuit.mk s2.2.2.1 s2.2.2.2.2.1) s2.2.2.2.2.2 s2.2.2.2.1) x3 x4).bind λx5=>(set? s2.2.1 s2.1 x5.1).bind λx6=>some (.inl ((w64 (s2.1+1)),x6,x5.2.c.Inputs,x5.2.full,x5.2.c.Gates,x5.2.line))else some (.inr (s2.2.1,s2.2.2.1,s2.2.2.2.1,s2.2.2.2.2.1,s2.2.2.2.2.2))) g.circ (by grind) hok (by simp) (λj L mm s' x hx hc hgr hrr hL hpre=>by
    have hj:j<a.length-k/\j<a.length:=by
     grind
    have hax:a[j]? =some x:=by simp_all
    have hga:=g.grow.trans hgr;obtain⟨m3,e3,r3⟩:=Vy hrr hc (litN_mono (hb _ (getD_mem (k:=k) (by omega))) hga.lines) (litN_mono (ha _ (Zbz hax)) hga.lines);refine⟨m3,?_,r3⟩;simp only;rw[Zbq (by simp_all[Za]),get?_nat,get?_nat,getD_get (l:=b) (by omega),hax];simp only[Zbn];have e3':Zo (D.builder.mk (D.Circuit.mk mm.c.Inputs mm.c.Gates) mm.line mm.full) (b.getD k 0) x=_:=e3;rw[e3'];simp only[Zbn];rw[set?_nat (by rw[hL,Zb2];omega)];simp only[Zbn];rw[Zb]
    rfl) (λL mm=>by
    simp only
    rw[Zbv (by rw[Za];simp)]) hr
  obtain⟨m3,h3,r3⟩:=TK (fuel:=fuel) (s:=(seqP (partF (b.getD k 0)) t.2 (a.take (a.length-k))).2) gp.circ r2 (a:=t.1.drop k) (b:=(seqP (partF (b.getD k 0)) t.2 (a.take (a.length-k))).1) (c:=-1) (by rw[ZbD,g.len];omega) (by rw[gpl,ZbD,g.len]) (λx hx=>litN_mono (g.lits x (Zco hx)) gp.grow.lines) gp.lits (Yw gp.circ);refine⟨_,?_,m3,rfl,r3⟩;simp only;rw[Zbq (by rw[Za];simp;omega),hmk];simp only[Zbn];rw[h2];have hcr:=Ka (l:=t.1) (k:=k) (by rw[g.len];omega);rw[hcr];simp only[Zbn];have h3':Ya fuel (D.builder.mk (D.Circuit.mk m2.c.Inputs m2.c.Gates) m2.line m2.full) (t.1.drop k) (seqP (partF (b.getD k 0)) t.2 (a.take (a.length-k))).1 (-1)=_:=h3;rw[h3'];simp only[Zbn];rw[ZbD,JD (by rw[g.len];omega) (by rw[gq.len,ZbD]),Zb];rfl
 ·obtain⟨m1,rfl,hr⟩:=ht;refine⟨_,?_,m1,rfl,hr⟩;rw[Zbv (by rw[Za];simp;omega)]
 ·obtain⟨m',rfl,h2⟩:=hr;exact⟨_,rfl,m',rfl,h2⟩
end
section
variable{U σt ρt:Type}
def QQ{f:BS->U->Int×BS}{l:List U}{s:BS}{B:σt->Option (σt⊕ρt)}(enc:Nat->List Int->D.builder->σt)(dec:List Int->D.builder->ρt)(hs:CircP s.1)(hl:l.length<=1000)(hf:FOk f s l){L0:List Int}(hL:L0.length=l.length)
  (hB:∀(j:Nat)(L:List Int)(m:D.builder)(s':BS)(x:U),l[j]? =some x->CircP s'.1->Grow s.1 s'.1->RelB m s'->L.length=l.length->(∀i,j<=i->L[i]? =L0[i]?)->∃m',B (enc j L m)=some (.inl (enc (j+1) (L.set j (f s' x).1) m'))/\RelB m' (f s' x).2)
  (hE:∀(L:List Int)(m:D.builder),B (enc l.length L m)=some (.inr (dec L m))){m:D.builder}(hm:RelB m s):
  ∃m',iterN B fuel (enc 0 L0 m)=some (dec (seqP f s l).1 m')/\RelB m' (seqP f s l).2:=by
 have key:∃r,iterN B fuel (enc 0 L0 m)=some r/\∃m':D.builder,r=dec (seqP f s l).1 m'/\RelB m' (seqP f s l).2:=by
  refine UQ (B:=B) (I:=λk t=>∃m':D.builder,t=enc k ((seqP f s (l.take k)).1++L0.drop k) m'/\RelB m' (seqP f s (l.take k)).2) (m:=l.length) (λk t hk ht=>?_) (λt ht=>?_) l.length 0 _ (by omega) ⟨m,rfl,hm⟩ fuel lt_fuel
  ·obtain⟨m1,rfl,hr⟩:=ht;have g:=Uh hs hf k (by omega);obtain⟨m2,h3,h4⟩:=hB k ((seqP f s (l.take k)).1++L0.drop k) m1 (seqP f s (l.take k)).2 l[k] (Zbo hk) g.circ g.grow hr (by rw[Zbw,g.len,ZbD];omega) (λi hi=>by rw[ZbB (by rw[g.len];omega),g.len,Zc1];simp_all);refine⟨_,h3,m2,?_,?_⟩
   ·rw[UX (Zbo hk),IX g.len (by omega)]
   simp_all[UX,Zbo]
  grind
 grind
def accP(f:BS->Int->U->Int×BS)(s:BS)(c:Int)(l:List U):Int×BS:=l.foldl (λt x=>f t.2 t.1 x) (c,s)
def AOk(f:BS->Int->U->Int×BS)(s:BS)(l:List U):Prop:=∀s' c x,CircP s'.1->Grow s.1 s'.1->litN (lines s'.1) c=true->x∈l->Good s' (f s' c x)
def Ra{f:BS->Int->U->Int×BS}{s:BS}{c:Int}{l:List U}(hs:CircP s.1)(hc:litN (lines s.1) c=true)(hf:AOk f s l):∀k,k<=l.length->Good s (accP f s c (l.take k)):=
 Oz _ (λ_ t=>Good s t) l _ ⟨hs,Grow.refl _,hc⟩ λk x t hx ht=>by
  have g:=hf t.2 t.1 x ht.circ ht.grow ht.lit (Zbz hx);exact⟨g.circ,ht.grow.trans g.grow,g.lit⟩
def Nb{f:BS->Int->U->Int×BS}{s:BS}{c:Int}{l:List U}(hs:CircP s.1)(hc:litN (lines s.1) c=true)(hf:AOk f s l):Good s (accP f s c l):=by
 have:=Ra hs hc hf l.length (Zb0 _);simp_all
def OW{f:BS->Int->U->Int×BS}{s:BS}{c:Int}{l:List U}{k:Nat}{x:U}(hx:l[k]? =some x):accP f s c (l.take (k+1))=f (accP f s c (l.take k)).2 (accP f s c (l.take k)).1 x:=by
 grind[accP,List.take_succ_eq_append_getElem]
def NY{f:BS->Int->U->Int×BS}{l:List U}{s:BS}{c:Int}{B:σt->Option (σt⊕ρt)}(enc:Nat->Int->BS->σt)(dec:Int->BS->ρt)(hs:CircP s.1)(hc:litN (lines s.1) c=true)(hf:AOk f s l)
  (hB:∀(j:Nat)(c':Int)(s':BS)(x:U),l[j]? =some x->CircP s'.1->Grow s.1 s'.1->litN (lines s'.1) c'=true->B (enc j c' s')=some (.inl (enc (j+1) (f s' c' x).1 (f s' c' x).2)))
  (hE:∀(c':Int)(s':BS),B (enc l.length c' s')=some (.inr (dec c' s'))){n:Nat}(hn:l.length<n):
  iterN B n (enc 0 c s)=some (dec (accP f s c l).1 (accP f s c l).2):=by
 refine YE (I:=λk t=>t=enc k (accP f s c (l.take k)).1 (accP f s c (l.take k)).2) (m:=l.length) (λk t hk ht=>?_) (λt ht=>?_) l.length 0 _ (by omega) rfl n hn
 ·subst ht;have g:=Ra hs hc hf k (by omega);refine⟨_,hB k _ _ l[k] (Zbo hk) g.circ g.grow g.lit,?_⟩;simp_all[OW,Zbo]
 grind
def Md{f:BS->Int->U->Int×BS}{l:List U}{s:BS}{c:Int}{B:σt->Option (σt⊕ρt)}(enc:Nat->Int->D.builder->σt)(dec:Int->D.builder->ρt)(hs:CircP s.1)(hc:litN (lines s.1) c=true)(hl:l.length<=1000)(hf:AOk f s l)
  (hB:∀(j:Nat)(c':Int)(m:D.builder)(s':BS)(x:U),l[j]? =some x->CircP s'.1->Grow s.1 s'.1->RelB m s'->litN (lines s'.1) c'=true->∃m',B (enc j c' m)=some (.inl (enc (j+1) (f s' c' x).1 m'))/\RelB m' (f s' c' x).2)
  (hE:∀(c':Int)(m:D.builder),B (enc l.length c' m)=some (.inr (dec c' m))){m:D.builder}(hm:RelB m s):
  ∃m',iterN B fuel (enc 0 c m)=some (dec (accP f s c l).1 m')/\RelB m' (accP f s c l).2:=by
 have key:∃r,iterN B fuel (enc 0 c m)=some r/\∃m':D.builder,r=dec (accP f s c l).1 m'/\RelB m' (accP f s c l).2:=by
  refine UQ (B:=B) (I:=λk t=>∃m':D.builder,t=enc k (accP f s c (l.take k)).1 m'/\RelB m' (accP f s c (l.take k)).2) (m:=l.length) (λk t hk ht=>?_) (λt ht=>?_) l.length 0 _ (by omega) ⟨m,rfl,hm⟩ fuel lt_fuel
  ·obtain⟨m1,rfl,hr⟩:=ht;have g:=Ra hs hc hf k (by omega);obtain⟨m2,h3,h4⟩:=hB k _ m1 _ l[k] (Zbo hk) g.circ g.grow hr g.lit;refine⟨_,h3,m2,?_,?_⟩
   all_goals simp_all[OW,Zbo]
  grind
 grind
end
abbrev DS:=List Int×List Int×BS
def selF(c:Int):BS->Int×Int->Int×BS:=λs p=>ifP s c p.1 p.2
def divStep(a less:List Int)(t:DS)(k:Nat):DS:=
 let d:=addP t.2.2 (a.getD k 0::t.1) less 1
 let q:=seqP (selF d.2.1) d.2.2 ((d.1.zip (a.getD k 0::t.1)).take a.length)
 (q.1,d.2.1::t.2.1,q.2)
def lessOf(b:List Int):List Int:=negs b++[1]
def divK(s:BS)(a b:List Int)(k:Nat):DS:=(List.range k).foldl (λt i=>divStep a (lessOf b) t (a.length-1-i)) (List.replicate a.length (-1),[],s)
def divK_succ(s:BS)(a b:List Int)(k:Nat):divK s a b (k+1)=divStep a (lessOf b) (divK s a b k) (a.length-1-k):=by
 simp[divK,ZcC,ZbU]
structure GoodD(s:BS)(w k:Nat)(t:DS):Prop where
 circ:CircP t.2.2.1
 grow:Grow s.1 t.2.2.1
 len:t.1.length=w
 lits:∀x∈t.1,litN (lines t.2.2.1) x=true
 clen:t.2.1.length=k
 clits:∀x∈t.2.1,litN (lines t.2.2.1) x=true
structure DivOk(a less:List Int)(t:DS)(k:Nat):Prop where
 ga:GoodA t.2.2 (a.length+1) (addP t.2.2 (a.getD k 0::t.1) less 1)
 tl:∀x∈a.getD k 0::t.1,litN (lines t.2.2.1) x=true
 ll:∀x∈less,litN (lines t.2.2.1) x=true
 l1:litN (lines t.2.2.1) 1=true
 fok:FOk (selF (addP t.2.2 (a.getD k 0::t.1) less 1).2.1) (addP t.2.2 (a.getD k 0::t.1) less 1).2.2 (((addP t.2.2 (a.getD k 0::t.1) less 1).1.zip (a.getD k 0::t.1)).take a.length)
 zl:(((addP t.2.2 (a.getD k 0::t.1) less 1).1.zip (a.getD k 0::t.1)).take a.length).length=a.length
section
variable{s:BS}{a b:List Int}(hab:a.length=b.length)(ha:∀x∈a,litN (lines s.1) x=true)(hb:∀x∈b,litN (lines s.1) x=true)
include hab ha hb
theorem LJ{t:DS}{i:Nat}(g:GoodD s a.length i t){k:Nat}(hk:k<a.length):DivOk a (lessOf b) t k:=by
 have htl:∀x∈a.getD k 0::t.1,litN (lines t.2.2.1) x=true:=λx hx=>by
  rcases ZbN.1 hx with rfl|hx
  ·exact litN_mono (ha _ (getD_mem hk)) g.grow.lines
  ·exact g.lits x hx
 have hll:∀x∈lessOf b,litN (lines t.2.2.1) x=true:=λx hx=>by
  rcases Zb7.1 hx with hx|hx
  ·exact litN_mono (negs_lits hb x hx) g.grow.lines
  ·rw[Zb3.1 hx];exact XR g.circ
 have hlen:(a.getD k 0::t.1).length=(lessOf b).length:=by simp[lessOf,negs_len,g.len,hab]
 have ga:=YN g.circ hlen htl hll (XR g.circ);have hw:(a.getD k 0::t.1).length=a.length+1:=by simp[g.len]
 rw[hw]at ga;refine⟨ga,htl,hll,XR g.circ,λs' p hc hgr hp=>?_,?_⟩
 ·have hp':=Zc8 hp;have h1:=ZdK hp';exact if_good hc (litN_mono ga.lit hgr.lines) (litN_mono (ga.lits _ h1.1) hgr.lines) (litN_mono (htl _ h1.2) (ga.grow.trans hgr).lines)
 ·rw[Zb2,Zc4,ga.len,hw];omega
theorem Vq(hs:CircP s.1)(k:Nat)(hk:k<=a.length):GoodD s a.length k (divK s a b k):=by
 induction k with
 | zero=>exact⟨hs,Grow.refl _,by simp[divK],λx hx=>by
   grind[divK,Yw],rfl,λx hx=>by cases hx⟩
 |succ k ih=>
  have g:=ih (by omega);rw[divK_succ];have o:=LJ hab ha hb g (k:=a.length-1-k) (by omega);have gq:=seq_good o.ga.circ o.fok;rw[o.zl]at gq;refine⟨gq.circ,(g.grow.trans o.ga.grow).trans gq.grow,gq.len,gq.lits,by simp[divStep,g.clen],λx hx=>?_⟩;simp only[divStep,ZbN]at hx;rcases hx with rfl|hx
  ·exact litN_mono o.ga.lit gq.grow.lines
  ·exact litN_mono (g.clits x hx) (o.ga.grow.trans gq.grow).lines
end
def Jc{q0 cs:List Int}{w k:Nat}{c:Int}(hq:q0.length=w)(hk:k<w):(q0.take (w-k)++cs).set (w-1-k) c=q0.take (w-(k+1))++(c::cs):=by
 have e:w-k=(w-1-k)+1:=by omega
 have hl:(q0.take (w-1-k)).length=w-1-k:=by grind
 have hlt:w-1-k<q0.length:=by omega
 rw[e,Zby hlt,ZbI,ZcD _ _ (by omega),hl,ZcG];grind
section
variable{s:BS}(hs:CircP s.1){a b:List Int}(hab:a.length=b.length)(hl:a.length<=16)(ha:∀x∈a,litN (lines s.1) x=true)(hb:∀x∈b,litN (lines s.1) x=true)
include hs hab hl ha hb
theorem KP:YM fuel (net s) a b=some ((divK s a b a.length).2.1,(divK s a b a.length).1,net (divK s a b a.length).2.2):=by
 unfold YM;rw[Za,spec_fill (by omega)];simp only[Zbn];rw[spec_not hs.lines1 (by omega) hb];simp only[Zbn];rw[Un (by grind[negs_len])];simp only[Zbn];rw[YE (I:=λk t=>t=((a.length:Int)-1-(k:Int),(List.replicate a.length (-1)).take (a.length-k)++(divK s a b k).2.1,(divK s a b k).1,(divK s a b k).2.2.1.Inputs,(divK s a b k).2.2.2,(divK s a b k).2.2.1.Gates)) (m:=a.length) (r:=((divK s a b a.length).2.1,(divK s a b a.length).1,(divK s a b a.length).2.2.1.Inputs,(divK s a b a.length).2.2.2,(divK s a b a.length).2.2.1.Gates)) (λk t hk ht=>?_) (λt ht=>?_) a.length 0 _ (by omega) (by grind[Zb,divK]) fuel lt_fuel]
 ·rfl
 all_goals subst ht
 ·have g:=Vq hab ha hb hs k (by omega);have o:=LJ hab ha hb g (k:=a.length-1-k) (by omega);refine⟨_,?_,rfl⟩;rw[divK_succ];generalize divK s a b k=t at g o⊢;have hidx:(a.length:Int)-1-(k:Int)=((a.length-1-k:Nat):Int):=by omega
  have hlen:(a.getD (a.length-1-k) 0::t.1).length=(lessOf b).length:=by simp[lessOf,negs_len,g.len,hab]
  have sd:=Sj (fuel:=fuel) (s:=t.2.2) g.circ (a:=a.getD (a.length-1-k) 0::t.1) (b:=lessOf b) (c:=1) (by simp[g.len];omega) hlen o.tl o.ll o.l1;simp only;rw[Zbq (by simp;omega),hidx,get?_nat,getD_get (l:=a) (by omega)];simp only[Zbn];rw[Un (by simp[g.len];omega)];simp only[Zbn];have sd':ZN fuel (D.l04Net.mk (D.Circuit.mk t.2.2.1.Inputs t.2.2.1.Gates) t.2.2.2) ([a.getD (a.length-1-k) 0]++t.1) (negs b++[1]) 1=_:=sd;rw[sd'];simp only[Zbn];rw[set?_nat (by grind),Jc (by simp) hk];simp only[Zbn];rw[spec_seq (f:=selF (addP t.2.2 (a.getD (a.length-1-k) 0::t.1) (lessOf b) 1).2.1) (s:=(addP t.2.2 (a.getD (a.length-1-k) 0::t.1) (lessOf b) 1).2.2) (l:=((addP t.2.2 (a.getD (a.length-1-k) 0::t.1) (lessOf b) 1).1.zip (a.getD (a.length-1-k) 0::t.1)).take a.length) o.ga.circ (by grind) o.fok (λj out s' x hx hc hgr hout=>?_) (λout s'=>?_)]
  ·simp only[Zbn];rw[Zb];simp only[Option.some.injEq,Sum.inl.injEq,Prod.mk.injEq];exact⟨by omega,rfl,rfl,rfl,rfl,rfl⟩
  ·have hj:j<a.length:=by
    grind
   have hx':((addP t.2.2 (a.getD (a.length-1-k) 0::t.1) (lessOf b) 1).1.zip (a.getD (a.length-1-k) 0::t.1))[j]? =some x:=by
    rw[Zci,Zbq hj]at hx;exact hx
   have hz:=zip_mem hx';have h1:=o.ga.lits _ (Zbz hz.1);have h2:=o.tl _ (Zbz hz.2);rw[Zbq (by simp;omega),get?_nat,get?_nat,hz.1];have hz2:([a.getD (a.length-1-k) 0]++t.1)[j]? =some x.2:=hz.2;rw[hz2];simp only[Zbn];have si:Zl fuel (D.l04Net.mk (D.Circuit.mk s'.1.Inputs s'.1.Gates) s'.2) (addP t.2.2 (a.getD (a.length-1-k) 0::t.1) (lessOf b) 1).2.1 x.1 x.2=_:=spec_if (fuel:=fuel) hc (litN_mono o.ga.lit hgr.lines) (litN_mono h1 hgr.lines) (litN_mono h2 (o.ga.grow.trans hgr).lines);rw[si];simp only[Zbn];rw[Un (by simp;omega)];rw[Zb];rfl
  ·rw[o.zl,ifn]
 grind
theorem Km{m:D.builder}(hm:RelB m s):∃m',YF fuel m a b=some ((divK s a b a.length).2.1,(divK s a b a.length).1,m')/\RelB m' (divK s a b a.length).2.2:=by
 unfold YF;rw[mk?_len (by grind[room])];simp only[Zbn];rw[Za,Mh (by omega)];simp only[Zbn];rw[impl_opp hs.lines1 (by omega) hb];simp only[Zbn];rw[Un (by grind[negs_len])];simp only[Zbn];have hfin:∀{X:Option (List Int×List Int×D.builder)}{u v:List Int}{s':BS},(∃y,X=some y/\∃m',y=(u,v,m')/\RelB m' s')->∃m',X=some (u,v,m')/\RelB m' s':=λ⟨y,h1,m',h2,h3⟩=>⟨m',by rw[h1,h2],h3⟩;refine hfin ?_;refine Sn (I:=λk t=>∃m':D.builder,t=((a.length:Int)-1-(k:Int),(List.replicate a.length 0).take (a.length-k)++(divK s a b k).2.1,(divK s a b k).1,m'.c.Inputs,m'.full,m'.c.Gates,m'.line)/\RelB m' (divK s a b k).2.2) (R:=λr=>∃m':D.builder,r=((divK s a b a.length).2.1,(divK s a b a.length).1,m'.c.Inputs,m'.full,m'.c.Gates,m'.line)/\RelB m' (divK s a b a.length).2.2) (m:=a.length) (λk t hk ht=>?_) (λt ht=>?_) a.length 0 _ (by omega) ⟨m,by grind[Zb,divK],hm⟩ fuel lt_fuel (λr hr=>?_)
 ·obtain⟨m1,rfl,hr⟩:=ht;have g:=Vq hab ha hb hs k (by omega);have o:=LJ hab ha hb g (k:=a.length-1-k) (by omega);rw[divK_succ];generalize divK s a b k=t at g o hr⊢;have hidx:(a.length:Int)-1-(k:Int)=((a.length-1-k:Nat):Int):=by omega
  have hlen:(a.getD (a.length-1-k) 0::t.1).length=(lessOf b).length:=by simp[lessOf,negs_len,g.len,hab]
  obtain⟨m2,h2,r2⟩:=TK (fuel:=fuel) (s:=t.2.2) g.circ hr (a:=a.getD (a.length-1-k) 0::t.1) (b:=lessOf b) (c:=1) (by simp[g.len];omega) hlen o.tl o.ll o.l1
  obtain⟨m3,h3,r3⟩:=QQ (fuel:=fuel) (f:=selF (addP t.2.2 (a.getD (a.length-1-k) 0::t.1) (lessOf b) 1).2.1) (s:=(addP t.2.2 (a.getD (a.length-1-k) 0::t.1) (lessOf b) 1).2.2) (l:=((addP t.2.2 (a.getD (a.length-1-k) 0::t.1) (lessOf b) 1).1.zip (a.getD (a.length-1-k) 0::t.1)).take a.length) (L0:=t.1) (B:=λ(s2:Int×(List Int)×Int×Bool×(List D.Gate)×(List (D.Gate×Int)))=>if(decide (s2.1<(len (List.replicate a.length (-1:Int)))))then(get? (addP t.2.2 (a.getD (a.length-1-k) 0::t.1) (lessOf b) 1).1 s2.1).bind λx9=>(get? ([a.getD (a.length-1-k) 0]++t.1) s2.1).bind λx10=>(Zd (D.builder.mk (D.Circuit.mk s2.2.2.1 s2.2.2.2.2.1) s2.2.2.2.2.2 s2.2.2.2.1) (addP t.2.2 (a.getD (a.length-1-k) 0::t.1) (lessOf b) 1).2.1 x9 x10).bind λx11=>(set? s2.2.1 s2.1 x11.1).bind λx12=>some (.inl ((w64 (s2.1+1)),x12,x11.2.c.Inputs,x11.2.full,x11.2.c.Gates,x11.2.line))else some (.inr (s2.2.1,s2.2.2.1,s2.2.2.2.1,s2.2.2.2.2.1,s2.2.2.2.2.2))) (λj L m=>((j:Int),L,m.c.Inputs,m.full,m.c.Gates,m.line)) (λL m=>(L,m.c.Inputs,m.full,m.c.Gates,m.line)) o.ga.circ (by grind) o.fok (by rw[o.zl,g.len]) (λj L mm s' x hx hc hgr hrr hL hpre=>by
    have hj:j<a.length:=by
     have:=(Zbu.1 hx).1;rw[o.zl]at this;exact this
    have hx':((addP t.2.2 (a.getD (a.length-1-k) 0::t.1) (lessOf b) 1).1.zip (a.getD (a.length-1-k) 0::t.1))[j]? =some x:=by
     rw[Zci,Zbq hj]at hx;exact hx
    have hz:=zip_mem hx';have h1:=o.ga.lits _ (Zbz hz.1);have h2:=o.tl _ (Zbz hz.2);obtain⟨m4,e4,r4⟩:=impl_if hc (c:=(addP t.2.2 (a.getD (a.length-1-k) 0::t.1) (lessOf b) 1).2.1) (a:=x.1) (b:=x.2) (litN_mono o.ga.lit hgr.lines) (litN_mono h1 hgr.lines) (litN_mono h2 (o.ga.grow.trans hgr).lines) mm hrr;refine⟨m4,?_,r4⟩;have hz2:([a.getD (a.length-1-k) 0]++t.1)[j]? =some x.2:=hz.2;simp only;rw[Zbq (by rw[Za];simp;omega),get?_nat,get?_nat,hz.1,hz2];simp only[Zbn];have e4':Zd (D.builder.mk (D.Circuit.mk mm.c.Inputs mm.c.Gates) mm.line mm.full) (addP t.2.2 (a.getD (a.length-1-k) 0::t.1) (lessOf b) 1).2.1 x.1 x.2=_:=e4;rw[e4'];simp only[Zbn];rw[set?_nat (by rw[hL,o.zl];exact hj)];simp only[Zbn];rw[Zb]
    rfl) (λL mm=>by
    simp only
    rw[o.zl,Zbv (by rw[Za];simp)]) r2
  refine⟨_,?_,m3,rfl,r3⟩;simp only;rw[Zbq (by simp;omega),hidx,get?_nat,getD_get (l:=a) (by omega)];simp only[Zbn];rw[Un (by simp[g.len];omega)];simp only[Zbn];have h2':Ya fuel (D.builder.mk (D.Circuit.mk m1.c.Inputs m1.c.Gates) m1.line m1.full) ([a.getD (a.length-1-k) 0]++t.1) (negs b++[1]) 1=_:=h2;rw[h2'];simp only[Zbn];rw[set?_nat (by simp[g.clen];omega),Jc (by simp) hk];have h3':=h3;simp only[Ze3]at h3';rw[h3'];simp only[Zbn];rw[Zb];simp only[Option.some.injEq,Sum.inl.injEq,Prod.mk.injEq];exact⟨by omega,rfl,rfl,trivial⟩
 ·obtain⟨m1,rfl,hr⟩:=ht;refine⟨_,?_,m1,rfl,hr⟩;rw[Zbv (by simp;omega)];simp
 ·obtain⟨m',rfl,h2⟩:=hr;exact⟨_,rfl,m',rfl,h2⟩
end
end Go.Proofs.YtikabgjjcifidaaGreat.Cc
end
section
namespace Go.Proofs.YtikabgjjcifidaaGreat.Cc
open Go.GL
variable{fuel:Nat}[FU fuel]
def lg(w:Nat):Nat:=if w<=1 then 0 else if w<=2 then 1 else if w<=4 then 2 else if w<=8 then 3 else 4
def LM:∀w,w<16->∀k,k<16->(2^k<w↔k<lg w):=by decide
def NQ:∀w,w<16->1<=w->lg w<w:=by decide
def Zad(w:Nat):lg w<=4:=by
 grind[lg]
theorem Gw:∀k:Nat,k<16->shl? 1 (k:Int)=some ((2^k:Nat):Int):=by decide
theorem u64k{k:Nat}(h:k<1000):IntKind.u64.wrap (k:Int)=k:=by grind[IntKind.wrap,IntKind.bits,IntKind.signed]
theorem Pg{σt ρt:Type}{B:σt->Option (σt⊕ρt)}{I:Nat->σt->Prop}{m:Nat}(hs:∀k s,k<m->I k s->∃s',B s=some (.inl s')/\I (k+1) s'):
  ∀(d k:Nat)(s:σt),k+d=m->I k s->∀n,∃s',I m s'/\iterN B (n+d) s=iterN B n s'
 |0,k,s,hk,hi,n=>by
  grind
 |d+1,k,s,hk,hi,n=>by
  obtain⟨s1,h1,h2⟩:=hs k s (by omega) hi;obtain⟨s',h3,h4⟩:=Pg hs d (k+1) s1 (by omega) h2 n;grind[Nat.add_assoc,iterN]
def pick(L:Bool)(d:Nat)(fill:Int)(out:List Int)(j:Nat):Int:=
 if L then(if d<=j then out.getD (j-d) 0 else fill)else(if j+d<out.length then out.getD (j+d) 0 else fill)
def Jq{L:Bool}{d:Nat}{fill:Int}{out:List Int}{j:Nat}(hj:j<out.length):pick L d fill out j=fill\/pick L d fill out j∈out:=by
 grind[pick]
def shPairs(L:Bool)(d:Nat)(fill:Int)(out:List Int):List (Int×Int):=(List.range out.length).map λj=>(pick L d fill out j,out.getD j 0)
theorem XH{L:Bool}{d:Nat}{fill:Int}{out:List Int}:(shPairs L d fill out).length=out.length:=by simp[shPairs]
def Uz{L:Bool}{d:Nat}{fill:Int}{out:List Int}{j:Nat}{x:Int×Int}(h:(shPairs L d fill out)[j]? =some x):j<out.length/\x=(pick L d fill out j,out.getD j 0):=by
 grind[List.getElem?_eq_some_iff,XH,shPairs,List.getElem?_range,Option.some.inj]
def shStep(L:Bool)(fill:Int)(b:List Int)(t:LS)(k:Nat):LS:=seqP (selF (b.getD k 0)) t.2 (shPairs L (2^k) fill t.1)
def shK(s:BS)(a b:List Int)(L:Bool)(fill:Int)(k:Nat):LS:=(List.range k).foldl (shStep L fill b) (a,s)
def shK_succ(s:BS)(a b:List Int)(L:Bool)(fill:Int)(k:Nat):shK s a b L fill (k+1)=shStep L fill b (shK s a b L fill k) k:=by
 simp[shK,ZcC,ZbU]
def orF:BS->Int->Int->Int×BS:=λs c x=>orP s c x
def finF(c fill:Int):BS->Int->Int×BS:=λs x=>ifP s c fill x
def shFar(s:BS)(a b:List Int)(L:Bool)(fill:Int):Int×BS:=accP orF (shK s a b L fill (lg a.length)).2 (-1) (b.drop (lg a.length))
def shP(s:BS)(a b:List Int)(L:Bool)(fill:Int):LS:=seqP (finF (shFar s a b L fill).1 fill) (shFar s a b L fill).2 (shK s a b L fill (lg a.length)).1
section
variable{s:BS}{a b:List Int}{L:Bool}{fill:Int}(hab:a.length=b.length)(hl:a.length<=15)(ha:∀x∈a,litN (lines s.1) x=true)(hb:∀x∈b,litN (lines s.1) x=true)(hf:litN (lines s.1) fill=true)
include hab hl ha hb hf
omit hl ha in
theorem Gm{t:LS}(g:GoodL s a.length t){k:Nat}(hk:k<a.length)(d:Nat):FOk (selF (b.getD k 0)) t.2 (shPairs L d fill t.1):=by
 intro s' p hc hgr hp;obtain⟨j,hj⟩:=ZcZ hp;obtain⟨hj',rfl⟩:=Uz hj;have e:=g.grow.trans hgr;refine if_good hc (litN_mono (hb _ (getD_mem (by omega))) e.lines) ?_ (litN_mono (g.lits _ (getD_mem hj')) hgr.lines);rcases Jq (L:=L) (d:=d) (fill:=fill) hj' with h|h
 ·simp only[h];exact litN_mono hf e.lines
 ·exact litN_mono (g.lits _ h) hgr.lines
omit hl in
theorem VX(hs:CircP s.1)(k:Nat)(hk:k<=a.length):GoodL s a.length (shK s a b L fill k):=by
 induction k with
 |zero=>exact⟨hs,Grow.refl _,rfl,ha⟩
 |succ k ih=>
  have g:=ih (by omega);rw[shK_succ];generalize shK s a b L fill k=t at g⊢;have o:=Gm hab hb hf g (k:=k) (by omega) (L:=L) (2^k);have gq:=seq_good g.circ o;rw[XH,g.len]at gq;exact⟨gq.circ,g.grow.trans gq.grow,gq.len,gq.lits⟩
omit hab hl ha hf in
theorem Ld{t:LS}(g:GoodL s a.length t)(k:Nat):AOk orF t.2 (b.drop k):=by
 intro s' c x hc hgr hlc hx;exact Tt hc hlc (litN_mono (hb _ (Zco hx)) (g.grow.trans hgr).lines)
theorem Si(hs:CircP s.1)(hw:1<=a.length):Good (shK s a b L fill (lg a.length)).2 (shFar s a b L fill):=by
 have g:=VX hab ha hb hf hs (L:=L) (lg a.length) (by have:=NQ a.length (by omega) hw;omega);exact Nb g.circ (Yw g.circ) (Ld hb g _)
theorem fin_ok(hs:CircP s.1)(hw:1<=a.length):FOk (finF (shFar s a b L fill).1 fill) (shFar s a b L fill).2 (shK s a b L fill (lg a.length)).1:=by
 have g:=VX hab ha hb hf hs (L:=L) (lg a.length) (by have:=NQ a.length (by omega) hw;omega);have gf:=Si hab hl ha hb hf hs hw (L:=L);intro s' x hc hgr hx;exact if_good hc (litN_mono gf.lit hgr.lines) (litN_mono hf ((g.grow.trans gf.grow).trans hgr).lines) (litN_mono (g.lits _ hx) (gf.grow.trans hgr).lines)
theorem UZ(hs:CircP s.1)(hw:1<=a.length):GoodL s a.length (shP s a b L fill):=by
 have g:=VX hab ha hb hf hs (L:=L) (lg a.length) (by have:=NQ a.length (by omega) hw;omega);have gf:=Si hab hl ha hb hf hs hw (L:=L);have gq:=seq_good gf.circ (fin_ok hab hl ha hb hf hs hw);rw[g.len]at gq;exact⟨gq.circ,(g.grow.trans gf.grow).trans gq.grow,gq.len,gq.lits⟩
end
def Bc{L:Bool}{d j:Nat}{fill:Int}{out:List Int}(hd:d<=40000)(hj:j<out.length)(hl:out.length<=15):
  (∃i:Nat,i<out.length/\(cond L (w64 ((j:Int)-(d:Int))) (w64 ((j:Int)+(d:Int))))=(i:Int)/\pick L d fill out j=out.getD i 0)\/
  (((cond L (w64 ((j:Int)-(d:Int))) (w64 ((j:Int)+(d:Int))))<0\/(out.length:Int)<=(cond L (w64 ((j:Int)-(d:Int))) (w64 ((j:Int)+(d:Int)))))/\pick L d fill out j=fill):=by
 cases L
 ·grind[Zb,pick]
 ·grind[Zb,pick]
section
variable{s:BS}(hs:CircP s.1){a b:List Int}{op fill:Int}(hab:a.length=b.length)(hl:a.length<=15)(hw:1<=a.length)(ha:∀x∈a,litN (lines s.1) x=true)(hb:∀x∈b,litN (lines s.1) x=true)(hf:litN (lines s.1) fill=true)
include hs hab hl hw ha hb hf
theorem TN:((iterN (λ(s1:Int×Bool×(List Int)×Int×Int×Bool×(List D.Gate))=>if (decide (s1.2.2.2.1<(len a)))then(shl? 1 s1.2.2.2.1).bind λx2=>if(decide (x2>=(len a)))then(get? b s1.2.2.2.1).bind λx3=>(Zu fuel (D.l04Net.mk (D.Circuit.mk s1.2.2.2.2.1 s1.2.2.2.2.2.2) s1.2.2.2.2.2.1) s1.1 x3).bind λx4=>some (.inl (x4.1,true,s1.2.2.1,(w64 (s1.2.2.2.1+1)),x4.2.c.Inputs,x4.2.full,x4.2.c.Gates))else(iterN (λ(s2:Int×(List Int)×Int×Bool×(List D.Gate))=>if(decide (s2.1<(len a)))then(Zf (cond (op==11) (w64 (s2.1-x2)) (w64 (s2.1+x2))) 0 (w64 ((len a)-1))).bind λx5=>if x5 then(get? s1.2.2.1 (cond (op==11) (w64 (s2.1-x2)) (w64 (s2.1+x2)))).bind λx6=>(get? b s1.2.2.2.1).bind λx7=>(get? s1.2.2.1 s2.1).bind λx8=>(Zl fuel (D.l04Net.mk (D.Circuit.mk s2.2.2.1 s2.2.2.2.2) s2.2.2.2.1) x7 x6 x8).bind λx9=>(app? s2.2.1 ([x9.1]:List Int)).bind λx10=>some (.inl ((w64 (s2.1+1)),x10,x9.2.c.Inputs,x9.2.full,x9.2.c.Gates))else(get? b s1.2.2.2.1).bind λx11=>(get? s1.2.2.1 s2.1).bind λx12=>(Zl fuel (D.l04Net.mk (D.Circuit.mk s2.2.2.1 s2.2.2.2.2) s2.2.2.2.1) x11 fill x12).bind λx13=>(app? s2.2.1 ([x13.1]:List Int)).bind λx14=>some (.inl ((w64 (s2.1+1)),x14,x13.2.c.Inputs,x13.2.full,x13.2.c.Gates))else some (.inr (s2.2.1,s2.2.2.1,s2.2.2.2.1,s2.2.2.2.2))) fuel (0,([]:List Int),s1.2.2.2.2.1,s1.2.2.2.2.2.1,s1.2.2.2.2.2.2)).bind λ(rl2:(List Int)×Int×Bool×(List D.Gate))=>some (.inl (s1.1,s1.2.1,rl2.1,(w64 (s1.2.2.2.1+1)),rl2.2.1,rl2.2.2.1,rl2.2.2.2))else some (.inr (s1.1,s1.2.1,s1.2.2.1,s1.2.2.2.2.1,s1.2.2.2.2.2.1,s1.2.2.2.2.2.2))) fuel ((-1),false,a,0,(net s).c.Inputs,(net s).full,(net s).c.Gates)).bind λ(rl1:Int×Bool×(List Int)×Int×Bool×(List D.Gate))=>if(!rl1.2.1)then some (rl1.2.2.1,(D.l04Net.mk (D.Circuit.mk rl1.2.2.2.1 rl1.2.2.2.2.2) rl1.2.2.2.2.1))else(iterN (λ(s3:Int×(List Int)×Int×Bool×(List D.Gate))=>if(decide (s3.1<(len a)))then(get? rl1.2.2.1 s3.1).bind λx15=>(Zl fuel (D.l04Net.mk (D.Circuit.mk s3.2.2.1 s3.2.2.2.2) s3.2.2.2.1) rl1.1 fill x15).bind λx16=>(app? s3.2.1 ([x16.1]:List Int)).bind λx17=>some (.inl ((w64 (s3.1+1)),x17,x16.2.c.Inputs,x16.2.full,x16.2.c.Gates))else some (.inr (s3.2.1,s3.2.2.1,s3.2.2.2.1,s3.2.2.2.2))) fuel (0,([]:List Int),rl1.2.2.2.1,rl1.2.2.2.2.1,rl1.2.2.2.2.2)).bind λ(rl3:(List Int)×Int×Bool×(List D.Gate))=>some (rl3.1,(D.l04Net.mk (D.Circuit.mk rl3.2.1 rl3.2.2.2) rl3.2.2.1)))=some ((shP s a b (op==11) fill).1,net (shP s a b (op==11) fill).2):=by
 generalize hL:(op==11)=L;have hlg:=NQ a.length (by omega) hw;have gl:=VX hab ha hb hf hs (L:=L) (lg a.length) (by omega)
 obtain ⟨t1,ht1,e1⟩:=Pg (B:=(λ(s1:Int×Bool×(List Int)×Int×Int×Bool×(List D.Gate))=>if (decide (s1.2.2.2.1<(len a)))then(shl? 1 s1.2.2.2.1).bind λx2=>if(decide (x2>=(len a)))then(get? b s1.2.2.2.1).bind λx3=>(Zu fuel (D.l04Net.mk (D.Circuit.mk s1.2.2.2.2.1 s1.2.2.2.2.2.2) s1.2.2.2.2.2.1) s1.1 x3).bind λx4=>some (.inl (x4.1,true,s1.2.2.1,(w64 (s1.2.2.2.1+1)),x4.2.c.Inputs,x4.2.full,x4.2.c.Gates))else(iterN (λ(s2:Int×(List Int)×Int×Bool×(List D.Gate))=>if(decide (s2.1<(len a)))then(Zf (cond L (w64 (s2.1-x2)) (w64 (s2.1+x2))) 0 (w64 ((len a)-1))).bind λx5=>if x5 then(get? s1.2.2.1 (cond L (w64 (s2.1-x2)) (w64 (s2.1+x2)))).bind λx6=>(get? b s1.2.2.2.1).bind λx7=>(get? s1.2.2.1 s2.1).bind λx8=>(Zl fuel (D.l04Net.mk (D.Circuit.mk s2.2.2.1 s2.2.2.2.2) s2.2.2.2.1) x7 x6 x8).bind λx9=>(app? s2.2.1 ([x9.1]:List Int)).bind λx10=>some (.inl ((w64 (s2.1+1)),x10,x9.2.c.Inputs,x9.2.full,x9.2.c.Gates))else(get? b s1.2.2.2.1).bind λx11=>(get? s1.2.2.1 s2.1).bind λx12=>(Zl fuel (D.l04Net.mk (D.Circuit.mk s2.2.2.1 s2.2.2.2.2) s2.2.2.2.1) x11 fill x12).bind λx13=>(app? s2.2.1 ([x13.1]:List Int)).bind λx14=>some (.inl ((w64 (s2.1+1)),x14,x13.2.c.Inputs,x13.2.full,x13.2.c.Gates))else some (.inr (s2.2.1,s2.2.2.1,s2.2.2.2.1,s2.2.2.2.2))) fuel (0,([]:List Int),s1.2.2.2.2.1,s1.2.2.2.2.2.1,s1.2.2.2.2.2.2)).bind λ(rl2:(List Int)×Int×Bool×(List D.Gate))=>some (.inl (s1.1,s1.2.1,rl2.1,(w64 (s1.2.2.2.1+1)),rl2.2.1,rl2.2.2.1,rl2.2.2.2))else some (.inr (s1.1,s1.2.1,s1.2.2.1,s1.2.2.2.2.1,s1.2.2.2.2.2.1,s1.2.2.2.2.2.2)))) (I:=λk t=>t=((-1:Int),false,(shK s a b L fill k).1,(k:Int),(shK s a b L fill k).2.1.Inputs,(shK s a b L fill k).2.2,(shK s a b L fill k).2.1.Gates)) (m:=lg a.length) (λk t hk ht=>by
  subst ht;have g:=VX hab ha hb hf hs (L:=L) k (by omega);have o:=Gm hab hb hf g (k:=k) (by omega) (L:=L) (2^k);refine⟨_,?_,rfl⟩;rw[shK_succ];generalize shK s a b L fill k=t at g o⊢;have hp:2^k<a.length:=by rw[LM _ (by omega) _ (by omega)];omega
  simp only;rw[Zbq (by grind[Za]),Gw _ (by omega)];simp only[Zbn];rw[Zbv (by grind[Za])];rw[spec_seq (f:=selF (b.getD k 0)) (s:=t.2) (l:=shPairs L (2^k) fill t.1) g.circ (by rw[XH,g.len];omega) o (λj out s' x hx hc hgr hout=>?_) (λout s'=>?_)]
  ·simp only[Zbn];rw[Zb];rfl
  ·obtain⟨hj,rfl⟩:=Uz hx;have e:=g.grow.trans hgr;have hbk:=litN_mono (hb _ (getD_mem (l:=b) (k:=k) (by omega))) e.lines;have hoj:=litN_mono (g.lits _ (getD_mem hj)) hgr.lines;have hln:=g.len;simp only;rw[Zbq (by simp_all[Za]),Za,Zb (x:=(a.length:Int)-1)];rcases Bc (L:=L) (d:=2^k) (j:=j) (fill:=fill) (out:=t.1) (by omega) hj (by omega)with⟨i,hi,h1,h2⟩|⟨h1,h2⟩
   ·have e1:Zf (i:Int) 0 ((a.length:Int)-1)=some true:=by
     unfold Zf;simp;omega
    rw[h1,e1];simp only[Zbn,Zb5];rw[get?_nat,get?_nat,get?_nat,getD_get hi,getD_get (l:=b) (by omega),getD_get hj];simp only[Zbn];have si:Zl fuel (D.l04Net.mk (D.Circuit.mk s'.1.Inputs s'.1.Gates) s'.2) (b.getD k 0) (t.1.getD i 0) (t.1.getD j 0)=_:=spec_if (fuel:=fuel) hc hbk (litN_mono (g.lits _ (getD_mem hi)) hgr.lines) hoj;rw[si];simp only[Zbn];rw[Un (by simp;omega)];simp only[Zbn];rw[Zb];unfold selF;simp only[h2];rfl
   ·have e1:∀z:Int,(z<0\/(t.1.length:Int)<=z)->Zf z 0 ((a.length:Int)-1)=some false:=by
     intro z hz;unfold Zf;simp;omega
    rw[e1 _ h1];simp only[Zbn,Zbp,Zbx];rw[get?_nat,get?_nat,getD_get (l:=b) (by omega),getD_get hj];simp only[Zbn];have si:Zl fuel (D.l04Net.mk (D.Circuit.mk s'.1.Inputs s'.1.Gates) s'.2) (b.getD k 0) fill (t.1.getD j 0)=_:=spec_if (fuel:=fuel) hc hbk (litN_mono hf e.lines) hoj;rw[si];simp only[Zbn];rw[Un (by simp;omega)];simp only[Zbn];rw[Zb];unfold selF;simp only[h2];rfl
  ·simp only
   rw[Zbv (by rw[Za,XH,g.len];simp)]) (lg a.length) 0 ((-1:Int),false,a,0,(net s).c.Inputs,(net s).full,(net s).c.Gates) (by omega) rfl (fuel-lg a.length)
 ·subst ht1;rw[Nat.sub_add_cancel (by have:=Zad a.length;have:=FU.le (n:=fuel);omega)]at e1;rw[e1];refine Eq.trans (congrArg (λo=>Option.bind o _) (NY (f:=orF) (l:=b.drop (lg a.length)) (s:=(shK s a b L fill (lg a.length)).2) (c:=-1) (λj c s'=>(c,decide (0<j),(shK s a b L fill (lg a.length)).1,((lg a.length+j:Nat):Int),s'.1.Inputs,s'.2,s'.1.Gates)) (λc s'=>(c,true,(shK s a b L fill (lg a.length)).1,s'.1.Inputs,s'.2,s'.1.Gates)) gl.circ (Yw gl.circ) (Ld hb gl _) (λj c s' x hx hc hgr hlc=>?_) (λc s'=>?_) (by have:=Zad a.length;rw[ZbD];have:=FU.le (n:=fuel);omega))) ?_;rotate_left 2
  ·simp only[Zbn,Zb4,Zbp,Zbx];have gf:=Si hab hl ha hb hf hs hw (L:=L);have hfar:accP orF (shK s a b L fill (lg a.length)).2 (-1) (b.drop (lg a.length))=shFar s a b L fill:=rfl;rw[hfar];rw[spec_seq (f:=finF (shFar s a b L fill).1 fill) (s:=(shFar s a b L fill).2) (l:=(shK s a b L fill (lg a.length)).1) gf.circ (by rw[gl.len];omega) (fin_ok hab hl ha hb hf hs hw) (λj out s' x hx hc hgr hout=>?_) (λout s'=>?_)]
   ·rfl
   ·have hj:j<a.length:=by
     have:=(Zbu.1 hx).1;rw[gl.len]at this;exact this
    simp only;rw[Zbq (by rw[Za];simp;omega),get?_nat,hx];simp only[Zbn];have si:Zl fuel (D.l04Net.mk (D.Circuit.mk s'.1.Inputs s'.1.Gates) s'.2) (shFar s a b L fill).1 fill x=_:=spec_if (fuel:=fuel) hc (litN_mono gf.lit hgr.lines) (litN_mono hf ((gl.grow.trans gf.grow).trans hgr).lines) (litN_mono (gl.lits _ (Zbz hx)) (gf.grow.trans hgr).lines);rw[si];simp only[Zbn];rw[Un (by simp;omega)];simp only[Zbn];rw[Zb];rfl
   ·simp only;rw[Zbv (by rw[Za,gl.len];simp)]
  ·have hj:lg a.length+j<b.length/\b[lg a.length+j]? =some x:=by
    rw[Zc1]at hx;exact⟨(Zbu.1 hx).1,hx⟩
   simp only;have hp:¬(2^(lg a.length+j)<a.length):=by rw[LM _ (by omega) _ (by omega)];omega
   rw[Zbq (by rw[Za];simp;omega),Gw _ (by omega)];simp only[Zbn];rw[Zbq (by rw[Za];simp only[ge_iff_le,Zb8];exact Int.ofNat_le.2 (by omega)),get?_nat,hj.2];simp only[Zbn];have so:Zu fuel (D.l04Net.mk (D.Circuit.mk s'.1.Inputs s'.1.Gates) s'.2) c x=_:=PR (fuel:=fuel) hc hlc (litN_mono (hb _ (Zbz hj.2)) (gl.grow.trans hgr).lines);rw[so];simp only[Zbn];rw[Zb];simp only[Option.some.injEq,Sum.inl.injEq,Prod.mk.injEq];exact⟨by trivial,by simp,by trivial,by omega,by trivial,by trivial,by trivial⟩
  ·rw[Zbv (by rw[Za,ZbD];simp;omega)];rw[ZbD];have:decide (0<b.length-lg a.length)=true:=by simp;omega
   rw[this]
theorem TR{m:D.builder}(hm:RelB m s):∃m',((Ze a).bind λx2=>(iterN (λ(s1:Int×(List Int)×Int×Bool×(List D.Gate)×(List (D.Gate×Int)))=>(if(decide (s1.1<(len a)))then(shl? 1 (IntKind.u64.wrap s1.1))else some default).bind λx3=>if ((decide (s1.1<(len a)))&&(decide (x3<(len a))))then(Ze s1.2.1).bind λx4=>(iterN (λ(s2:Int×(List Int)×Int×Bool×(List D.Gate)×(List (D.Gate×Int)))=>if (decide (s2.1<(len s1.2.1)))then(shl? 1 (IntKind.u64.wrap s1.1)).bind λx5=>if(op==11)then(shl? 1 (IntKind.u64.wrap s1.1)).bind λx6=>if((decide ((w64 (s2.1-x6))>=0))&&(decide ((w64 (s2.1-x6))<(len a))))then(get? x4 (w64 (s2.1-x6))).bind λx7=>(get? b s1.1).bind λx8=>(get? x4 s2.1).bind λx9=>(Zd (D.builder.mk (D.Circuit.mk s2.2.2.1 s2.2.2.2.2.1) s2.2.2.2.2.2 s2.2.2.2.1) x8 x7 x9).bind λx10=>(set? s2.2.1 s2.1 x10.1).bind λx11=>some (.inl ((w64 (s2.1+1)),x11,x10.2.c.Inputs,x10.2.full,x10.2.c.Gates,x10.2.line))else(get? b s1.1).bind λx12=>(get? x4 s2.1).bind λx13=>(Zd (D.builder.mk (D.Circuit.mk s2.2.2.1 s2.2.2.2.2.1) s2.2.2.2.2.2 s2.2.2.2.1) x12 fill x13).bind λx14=>(set? s2.2.1 s2.1 x14.1).bind λx15=>some (.inl ((w64 (s2.1+1)),x15,x14.2.c.Inputs,x14.2.full,x14.2.c.Gates,x14.2.line))else if((decide ((w64 (s2.1+x5))>=0))&&(decide ((w64 (s2.1+x5))<(len a))))then(get? x4 (w64 (s2.1+x5))).bind λx16=>(get? b s1.1).bind λx17=>(get? x4 s2.1).bind λx18=>(Zd (D.builder.mk (D.Circuit.mk s2.2.2.1 s2.2.2.2.2.1) s2.2.2.2.2.2 s2.2.2.2.1) x17 x16 x18).bind λx19=>(set? s2.2.1 s2.1 x19.1).bind λx20=>some (.inl ((w64 (s2.1+1)),x20,x19.2.c.Inputs,x19.2.full,x19.2.c.Gates,x19.2.line))else(get? b s1.1).bind λx21=>(get? x4 s2.1).bind λx22=>(Zd (D.builder.mk (D.Circuit.mk s2.2.2.1 s2.2.2.2.2.1) s2.2.2.2.2.2 s2.2.2.2.1) x21 fill x22).bind λx23=>(set? s2.2.1 s2.1 x23.1).bind λx24=>some (.inl ((w64 (s2.1+1)),x24,x23.2.c.Inputs,x23.2.full,x23.2.c.Gates,x23.2.line))else some (.inr (s2.2.1,s2.2.2.1,s2.2.2.2.1,s2.2.2.2.2.1,s2.2.2.2.2.2))) fuel (0,s1.2.1,s1.2.2.1,s1.2.2.2.1,s1.2.2.2.2.1,s1.2.2.2.2.2)).bind λ(rl2:(List Int)×Int×Bool×(List D.Gate)×(List (D.Gate×Int)))=>some (.inl ((w64 (s1.1+1)),rl2.1,rl2.2.1,rl2.2.2.1,rl2.2.2.2.1,rl2.2.2.2.2))else some (.inr (s1.1,s1.2.1,s1.2.2.1,s1.2.2.2.1,s1.2.2.2.2.1,s1.2.2.2.2.2))) fuel (0,x2,m.c.Inputs,m.full,m.c.Gates,m.line)).bind λ(rl1:Int×(List Int)×Int×Bool×(List D.Gate)×(List (D.Gate×Int)))=>if (decide (rl1.1<(len a)))then(iterN (λ(s3:Int×Int×Int×Bool×(List D.Gate)×(List (D.Gate×Int)))=>if(decide (s3.1<(len a)))then(get? b s3.1).bind λx25=>(Z7 (D.builder.mk (D.Circuit.mk s3.2.2.1 s3.2.2.2.2.1) s3.2.2.2.2.2 s3.2.2.2.1) s3.2.1 x25).bind λx26=>some (.inl ((w64 (s3.1+1)),x26.1,x26.2.c.Inputs,x26.2.full,x26.2.c.Gates,x26.2.line))else some (.inr (s3.2.1,s3.2.2.1,s3.2.2.2.1,s3.2.2.2.2.1,s3.2.2.2.2.2))) fuel (rl1.1,(-1),rl1.2.2.1,rl1.2.2.2.1,rl1.2.2.2.2.1,rl1.2.2.2.2.2)).bind λ(rl3:Int×Int×Bool×(List D.Gate)×(List (D.Gate×Int)))=>(iterN (λ(s4:Int×(List Int)×Int×Bool×(List D.Gate)×(List (D.Gate×Int)))=>if(decide (s4.1<(len rl1.2.1)))then(get? s4.2.1 s4.1).bind λx27=>(Zd (D.builder.mk (D.Circuit.mk s4.2.2.1 s4.2.2.2.2.1) s4.2.2.2.2.2 s4.2.2.2.1) rl3.1 fill x27).bind λx28=>(set? s4.2.1 s4.1 x28.1).bind λx29=>some (.inl ((w64 (s4.1+1)),x29,x28.2.c.Inputs,x28.2.full,x28.2.c.Gates,x28.2.line))else some (.inr (s4.2.1,s4.2.2.1,s4.2.2.2.1,s4.2.2.2.2.1,s4.2.2.2.2.2))) fuel (0,rl1.2.1,rl3.2.1,rl3.2.2.1,rl3.2.2.2.1,rl3.2.2.2.2)).bind λ(rl4:(List Int)×Int×Bool×(List D.Gate)×(List (D.Gate×Int)))=>some (rl4.1,(D.builder.mk (D.Circuit.mk rl4.2.1 rl4.2.2.2.1) rl4.2.2.2.2 rl4.2.2.1))else some (rl1.2.1,(D.builder.mk (D.Circuit.mk rl1.2.2.1 rl1.2.2.2.2.1) rl1.2.2.2.2.2 rl1.2.2.2.1)))=some ((shP s a b (op==11) fill).1,m')/\RelB m' (shP s a b (op==11) fill).2:=by
 generalize hL:(op==11)=L;have hlg:=NQ a.length (by omega) hw;have gl:=VX hab ha hb hf hs (L:=L) (lg a.length) (by omega);have hcl:∀l:List Int,l.length<=1000->Ze l=some l:=λl h=>by simp_all[Ze,PQ]
 rw[hcl a (by omega)];simp only[Zbn];refine HY ?_;refine Sn (I:=λk t=>∃m':D.builder,t=((k:Int),(shK s a b L fill k).1,m'.c.Inputs,m'.full,m'.c.Gates,m'.line)/\RelB m' (shK s a b L fill k).2) (R:=λr=>∃m':D.builder,r=(((lg a.length:Nat):Int),(shK s a b L fill (lg a.length)).1,m'.c.Inputs,m'.full,m'.c.Gates,m'.line)/\RelB m' (shK s a b L fill (lg a.length)).2) (m:=lg a.length) (λk t hk ht=>?_) (λt ht=>?_) (lg a.length) 0 _ (by omega) ⟨m,rfl,hm⟩ fuel lt_fuel (λr hr=>?_)
 ·obtain⟨m1,rfl,hr⟩:=ht;have g:=VX hab ha hb hf hs (L:=L) k (by omega);have o:=Gm hab hb hf g (k:=k) (by omega) (L:=L) (2^k);rw[shK_succ];generalize shK s a b L fill k=t at g o hr⊢;have hln:=g.len;have hp:2^k<a.length:=by rw[LM _ (by omega) _ (by omega)];omega
  have hsh:shl? 1 (IntKind.u64.wrap (k:Int))=some ((2^k:Nat):Int):=by grind[u64k,Gw]
  have hkl:decide ((k:Int)<len a)=true:=by grind[Za]
  have hpl:decide (((2^k:Nat):Int)<len a)=true:=by rw[Za,Zb8];exact Int.ofNat_lt.2 hp
  simp only[hkl,Zb5,hsh,Zbn,hpl,Ze0];rw[hcl t.1 (by omega)];simp only[Zbn];rw[show len t.1=len a by rw[Za,Za,g.len]]
  obtain⟨m3,h3,r3⟩:=QQ (fuel:=fuel) (f:=selF (b.getD k 0)) (s:=t.2) (l:=shPairs L (2^k) fill t.1) (L0:=t.1) (B:=(λ(s2:Int×(List Int)×Int×Bool×(List D.Gate)×(List (D.Gate×Int)))=>if (decide (s2.1<(len a)))then(shl? 1 (IntKind.u64.wrap (k:Int))).bind λx5=>if L then(shl? 1 (IntKind.u64.wrap (k:Int))).bind λx6=>if((decide ((w64 (s2.1-x6))>=0))&&(decide ((w64 (s2.1-x6))<(len a))))then(get? t.1 (w64 (s2.1-x6))).bind λx7=>(get? b (k:Int)).bind λx8=>(get? t.1 s2.1).bind λx9=>(Zd (D.builder.mk (D.Circuit.mk s2.2.2.1 s2.2.2.2.2.1) s2.2.2.2.2.2 s2.2.2.2.1) x8 x7 x9).bind λx10=>(set? s2.2.1 s2.1 x10.1).bind λx11=>some (.inl ((w64 (s2.1+1)),x11,x10.2.c.Inputs,x10.2.full,x10.2.c.Gates,x10.2.line))else(get? b (k:Int)).bind λx12=>(get? t.1 s2.1).bind λx13=>(Zd (D.builder.mk (D.Circuit.mk s2.2.2.1 s2.2.2.2.2.1) s2.2.2.2.2.2 s2.2.2.2.1) x12 fill x13).bind λx14=>(set? s2.2.1 s2.1 x14.1).bind λx15=>some (.inl ((w64 (s2.1+1)),x15,x14.2.c.Inputs,x14.2.full,x14.2.c.Gates,x14.2.line))else if((decide ((w64 (s2.1+x5))>=0))&&(decide ((w64 (s2.1+x5))<(len a))))then(get? t.1 (w64 (s2.1+x5))).bind λx16=>(get? b (k:Int)).bind λx17=>(get? t.1 s2.1).bind λx18=>(Zd (D.builder.mk (D.Circuit.mk s2.2.2.1 s2.2.2.2.2.1) s2.2.2.2.2.2 s2.2.2.2.1) x17 x16 x18).bind λx19=>(set? s2.2.1 s2.1 x19.1).bind λx20=>some (.inl ((w64 (s2.1+1)),x20,x19.2.c.Inputs,x19.2.full,x19.2.c.Gates,x19.2.line))else(get? b (k:Int)).bind λx21=>(get? t.1 s2.1).bind λx22=>(Zd (D.builder.mk (D.Circuit.mk s2.2.2.1 s2.2.2.2.2.1) s2.2.2.2.2.2 s2.2.2.2.1) x21 fill x22).bind λx23=>(set? s2.2.1 s2.1 x23.1).bind λx24=>some (.inl ((w64 (s2.1+1)),x24,x23.2.c.Inputs,x23.2.full,x23.2.c.Gates,x23.2.line))else some (.inr (s2.2.1,s2.2.2.1,s2.2.2.2.1,s2.2.2.2.2.1,s2.2.2.2.2.2)))) (λj L m=>((j:Int),L,m.c.Inputs,m.full,m.c.Gates,m.line)) (λL m=>(L,m.c.Inputs,m.full,m.c.Gates,m.line)) g.circ (by rw[XH];omega) o (by rw[XH]) (λj Lj mm s' x hx hc hgr hrr hLl hpre=>by
    obtain⟨hj,rfl⟩:=Uz hx;rw[XH]at hLl;have e:=g.grow.trans hgr;have hbk:=litN_mono (hb _ (getD_mem (l:=b) (k:=k) (by omega))) e.lines;have hoj:=litN_mono (g.lits _ (getD_mem hj)) hgr.lines;simp only;rw[Zbq (by rw[Za];simp;omega),hsh];simp only[Zbn];rcases Bc (L:=L) (d:=2^k) (j:=j) (fill:=fill) (out:=t.1) (by omega) hj (by omega)with⟨i,hi,h1,h2⟩|⟨h1,h2⟩
    ·obtain⟨m4,e4,r4⟩:=impl_if hc (c:=b.getD k 0) (a:=t.1.getD i 0) (b:=t.1.getD j 0) hbk (litN_mono (g.lits _ (getD_mem hi)) hgr.lines) hoj mm hrr;have e4':Zd (D.builder.mk (D.Circuit.mk mm.c.Inputs mm.c.Gates) mm.line mm.full) (b.getD k 0) (t.1.getD i 0) (t.1.getD j 0)=_:=e4;refine⟨m4,?_,by unfold selF;simp only[h2];exact r4⟩;have hin:(decide ((i:Int)>=0)&&decide ((i:Int)<len a))=true:=by rw[Za];simp;omega
     cases L
     ·simp only[cond_false]at h1;simp only[Zbp,Zbx,h1,hin,Zb5];rw[get?_nat,get?_nat,get?_nat,getD_get hi,getD_get (l:=b) (by omega),getD_get hj];simp only[Zbn];rw[e4'];simp only[Zbn];rw[set?_nat (by omega)];simp only[Zbn];rw[Zb];unfold selF;simp only[h2];rfl
     ·simp only[cond_true]at h1;simp only[Zb5,h1,hin];rw[get?_nat,get?_nat,get?_nat,getD_get hi,getD_get (l:=b) (by omega),getD_get hj];simp only[Zbn];rw[e4'];simp only[Zbn];rw[set?_nat (by omega)];simp only[Zbn];rw[Zb];unfold selF;simp only[h2];rfl
    ·obtain⟨m4,e4,r4⟩:=impl_if hc (c:=b.getD k 0) (a:=fill) (b:=t.1.getD j 0) hbk (litN_mono hf e.lines) hoj mm hrr;have e4':Zd (D.builder.mk (D.Circuit.mk mm.c.Inputs mm.c.Gates) mm.line mm.full) (b.getD k 0) fill (t.1.getD j 0)=_:=e4;refine⟨m4,?_,by unfold selF;simp only[h2];exact r4⟩;have hin:∀z:Int,(z<0\/(t.1.length:Int)<=z)->(decide (z>=0)&&decide (z<len a))=false:=by
      intro z hz;rw[Za];simp;omega
     cases L
     ·simp only[cond_false]at h1;simp only[Zbp,Zbx,hin _ h1];rw[get?_nat,get?_nat,getD_get (l:=b) (by omega),getD_get hj];simp only[Zbn];rw[e4'];simp only[Zbn];rw[set?_nat (by omega)];simp only[Zbn];rw[Zb];unfold selF;simp only[h2];rfl
     ·simp only[cond_true]at h1;simp only[Zb5,hin _ h1,Zbp,Zbx];rw[get?_nat,get?_nat,getD_get (l:=b) (by omega),getD_get hj];simp only[Zbn];rw[e4'];simp only[Zbn];rw[set?_nat (by omega)];simp only[Zbn];rw[Zb];unfold selF;simp only[h2]
      rfl) (λL mm=>by
    simp only
    rw[Zbv (by rw[Za,XH,g.len];simp)]) hr
  simp only[Ze3,hsh,Zbn]at h3;refine⟨_,?_,m3,rfl,r3⟩;rw[h3];simp only[Zbn];rw[Zb];rfl
 ·obtain⟨m1,rfl,hr⟩:=ht;refine⟨_,?_,m1,rfl,hr⟩;have hp:¬2^lg a.length<a.length:=by rw[LM _ (by omega) _ (by omega)];omega
  have hsh:shl? 1 (IntKind.u64.wrap ((lg a.length:Nat):Int))=some ((2^lg a.length:Nat):Int):=by rw[u64k (by omega),Gw _ (by omega)]
  have hkl:decide (((lg a.length:Nat):Int)<len a)=true:=by rw[Za];simp;omega
  have hpl:decide (((2^lg a.length:Nat):Int)<len a)=false:=by rw[Za,decide_eq_false_iff_not];exact λh=>hp (Int.ofNat_lt.1 h)
  simp only[hkl,Zb5,hsh,Zbn,hpl,Zes,Zbp,Zbx]
 ·obtain⟨m1,rfl,hr⟩:=hr;have gf:=Si hab hl ha hb hf hs hw (L:=L);simp only;rw[show len (shK s a b L fill (lg a.length)).1=len a by rw[Za,Za,gl.len]];rw[Zbq (by rw[Za];simp;omega)]
  obtain⟨m2,h2,r2⟩:=Md (fuel:=fuel) (f:=orF) (l:=b.drop (lg a.length)) (s:=(shK s a b L fill (lg a.length)).2) (c:=-1) (B:=(λ(s3:Int×Int×Int×Bool×(List D.Gate)×(List (D.Gate×Int)))=>if(decide (s3.1<(len a)))then(get? b s3.1).bind λx25=>(Z7 (D.builder.mk (D.Circuit.mk s3.2.2.1 s3.2.2.2.2.1) s3.2.2.2.2.2 s3.2.2.2.1) s3.2.1 x25).bind λx26=>some (.inl ((w64 (s3.1+1)),x26.1,x26.2.c.Inputs,x26.2.full,x26.2.c.Gates,x26.2.line))else some (.inr (s3.2.1,s3.2.2.1,s3.2.2.2.1,s3.2.2.2.2.1,s3.2.2.2.2.2)))) (λj c m=>(((lg a.length+j:Nat):Int),c,m.c.Inputs,m.full,m.c.Gates,m.line)) (λc m=>(c,m.c.Inputs,m.full,m.c.Gates,m.line)) gl.circ (Yw gl.circ) (by rw[ZbD];omega) (Ld hb gl _) (λj c mm s' x hx hc hgr hrr hlc=>by
    have hj:lg a.length+j<b.length/\b[lg a.length+j]? =some x:=by
     rw[Zc1]at hx;exact⟨(Zbu.1 hx).1,hx⟩
    obtain⟨m4,e4,r4⟩:=PO hc hlc (litN_mono (hb _ (Zbz hj.2)) (gl.grow.trans hgr).lines) mm hrr;have e4':Z7 (D.builder.mk (D.Circuit.mk mm.c.Inputs mm.c.Gates) mm.line mm.full) c x=_:=e4;refine⟨m4,?_,r4⟩;simp only;rw[Zbq (by rw[Za];simp;omega),get?_nat,hj.2];simp only[Zbn];rw[e4'];simp only[Zbn];rw[Zb]
    rfl) (λc mm=>by
    simp only
    rw[Zbv (by rw[Za,ZbD];simp;omega)]) hr
  simp only[ZcP]at h2;rw[h2];simp only[Zbn]
  obtain⟨m3,h3,r3⟩:=QQ (fuel:=fuel) (f:=finF (shFar s a b L fill).1 fill) (s:=(shFar s a b L fill).2) (l:=(shK s a b L fill (lg a.length)).1) (L0:=(shK s a b L fill (lg a.length)).1) (B:=(λ(s4:Int×(List Int)×Int×Bool×(List D.Gate)×(List (D.Gate×Int)))=>if(decide (s4.1<(len a)))then(get? s4.2.1 s4.1).bind λx27=>(Zd (D.builder.mk (D.Circuit.mk s4.2.2.1 s4.2.2.2.2.1) s4.2.2.2.2.2 s4.2.2.2.1) (shFar s a b L fill).1 fill x27).bind λx28=>(set? s4.2.1 s4.1 x28.1).bind λx29=>some (.inl ((w64 (s4.1+1)),x29,x28.2.c.Inputs,x28.2.full,x28.2.c.Gates,x28.2.line))else some (.inr (s4.2.1,s4.2.2.1,s4.2.2.2.1,s4.2.2.2.2.1,s4.2.2.2.2.2)))) (λj L m=>((j:Int),L,m.c.Inputs,m.full,m.c.Gates,m.line)) (λL m=>(L,m.c.Inputs,m.full,m.c.Gates,m.line)) gf.circ (by rw[gl.len];omega) (fin_ok hab hl ha hb hf hs hw) rfl (λj Lj mm s' x hx hc hgr hrr hLl hpre=>by
    have hj:j<a.length:=by
     have:=(Zbu.1 hx).1;rw[gl.len]at this;exact this
    rw[gl.len]at hLl;obtain⟨m4,e4,r4⟩:=impl_if hc (c:=(shFar s a b L fill).1) (a:=fill) (b:=x) (litN_mono gf.lit hgr.lines) (litN_mono hf ((gl.grow.trans gf.grow).trans hgr).lines) (litN_mono (gl.lits _ (Zbz hx)) (gf.grow.trans hgr).lines) mm hrr;have e4':Zd (D.builder.mk (D.Circuit.mk mm.c.Inputs mm.c.Gates) mm.line mm.full) (shFar s a b L fill).1 fill x=_:=e4;refine⟨m4,?_,r4⟩;simp only;rw[Zbq (by rw[Za];simp;omega),get?_nat,hpre j (Zb0 _),hx];simp only[Zbn];rw[e4'];simp only[Zbn];rw[set?_nat (by omega)];rw[Zb]
    rfl) (λL mm=>by
    rw[Zbv (by rw[Za,gl.len];simp)]) r2
  simp only[Ze3]at h3;have hfar:accP orF (shK s a b L fill (lg a.length)).2 (-1) (b.drop (lg a.length))=shFar s a b L fill:=rfl;rw[hfar];rw[h3];exact⟨_,rfl,m3,rfl,r3⟩
end
end Go.Proofs.YtikabgjjcifidaaGreat.Cc
end
section
namespace Go.Proofs.YtikabgjjcifidaaGreat.Cc
open Go.GL
variable{fuel:Nat}[FU fuel]
def andF2:BS->Int×Int->Int×BS:=λs p=>andP s p.1 p.2
def orF2:BS->Int×Int->Int×BS:=λs p=>orP s p.1 p.2
def xorF2:BS->Int×Int->Int×BS:=λs p=>xorP s p.1 p.2
def eqF:BS->Int->Int×Int->Int×BS:=λs c p=>andP (xorP s p.1 p.2).2 c (-(xorP s p.1 p.2).1)
def flipP(l:List Int):List Int:=l.set (l.length-1) (-(l.getD (l.length-1) 0))
def XE(l:List Int):(flipP l).length=l.length:=by simp[flipP]
def Wh{n:Int}{l:List Int}(hl:1<=l.length)(h:∀x∈l,litN n x=true):∀x∈flipP l,litN n x=true:=by
 intro x hx;rcases Zep hx with hx|rfl
 all_goals grind[ZA,getD_mem]
def lessP(s:BS)(a b:List Int):LS:=let r:=addP s a (negs b) 1;([-r.2.1],r.2.2)
def equalP(s:BS)(a b:List Int):LS:=let r:=accP eqF s 1 (a.zip b);([r.1],r.2)
def opP(s:BS)(op:Int)(a b:List Int):LS:=
 if op=3 then((addP s a b (-1)).1,(addP s a b (-1)).2.2)
 else if op=4 then((addP s a (negs b) 1).1,(addP s a (negs b) 1).2.2)
 else if op=5 then mulK s a b a.length
 else if op=6 then((divK s a b a.length).2.1,(divK s a b a.length).2.2)
 else if op=7 then((divK s a b a.length).1,(divK s a b a.length).2.2)
 else if op=8 then seqP andF2 s (a.zip b)
 else if op=9 then seqP orF2 s (a.zip b)
 else if op=10 then seqP xorF2 s (a.zip b)
 else if op=11 then shP s a b true (-1)
 else if op=12 then shP s a b false (-1)
 else if op=13 then shP s a b false (a.getD (a.length-1) 0)
 else if op=14 then equalP s a b
 else if op=15 then lessP s a b
 else lessP s (flipP a) (flipP b)
def op_cases{op:Int}(h:3<=op/\op<=16):op=3\/op=4\/op=5\/op=6\/op=7\/op=8\/op=9\/op=10\/op=11\/op=12\/op=13\/op=14\/op=15\/op=16:=by omega
def Tw{l:List Int}(h:1<=l.length)(h2:l.length<=1000):get? l (w64 (len l-1))=some (l.getD (l.length-1) 0):=by
 grind[Za,Zb,get?_nat,getD_get]
def Ou{l:List Int}{x:Int}(h:1<=l.length)(h2:l.length<=1000):set? l (w64 (len l-1)) x=some (l.set (l.length-1) x):=by
 grind[Za,Zb,set?_nat]
def MI{n:Int}{l:List Int}(hn:n<=391)(h:1<=l.length)(h2:l.length<=1000)(hl:∀x∈l,litN n x=true):Y2 l=some (flipP l):=by
 unfold Y2;rw[PQ h2];simp only[Zbn];rw[Tw h h2];simp only[Zbn];rw[Yl (hl _ (getD_mem (by omega))) hn,Ou h h2];rfl
def MB{n:Int}{l:List Int}(hn:n<=391)(h:1<=l.length)(h2:l.length<=1000)(hl:∀x∈l,litN n x=true):YG l=some (flipP l):=by
 unfold YG Ze;rw[PQ h2];simp only[Zbn];rw[Tw h h2];simp only[Zbn];rw[Yl (hl _ (getD_mem (by omega))) hn,Ou h h2];rfl
section
variable{s:BS}{a b:List Int}(ha:∀x∈a,litN (lines s.1) x=true)(hb:∀x∈b,litN (lines s.1) x=true)
include ha hb
theorem Xy{s':BS}(hg:Grow s.1 s'.1){p:Int×Int}(hp:p∈a.zip b):litN (lines s'.1) p.1=true/\litN (lines s'.1) p.2=true:=by
 have:=ZdK hp;exact⟨litN_mono (ha _ this.1) hg.lines,litN_mono (hb _ this.2) hg.lines⟩
theorem TQ:FOk andF2 s (a.zip b):=λs' p hc hg hp=>have h:=Xy ha hb (s':=s') hg hp;Yf hc h.1 h.2
theorem Qs:FOk orF2 s (a.zip b):=λs' p hc hg hp=>have h:=Xy ha hb (s':=s') hg hp;Tt hc h.1 h.2
theorem Sq:FOk xorF2 s (a.zip b):=λs' p hc hg hp=>have h:=Xy ha hb (s':=s') hg hp;X7 hc h.1 h.2
theorem Oq:AOk eqF s (a.zip b):=λs' c p hc hg hl hp=>by
 have h:=Xy ha hb (s':=s') hg hp;have g1:=X7 hc h.1 h.2;have g2:=Yf g1.circ (a:=c) (b:=-(xorP s' p.1 p.2).1) (litN_mono hl g1.grow.lines) (by rw[ZA];exact g1.lit);exact⟨g2.circ,g1.grow.trans g2.grow,g2.lit⟩
end
section
variable{s:BS}(hs:CircP s.1){a b:List Int}(hab:a.length=b.length)(hl:a.length<=15)(ha:∀x∈a,litN (lines s.1) x=true)(hb:∀x∈b,litN (lines s.1) x=true)
include hs hab hl
theorem QU{f:BS->Int×Int->Int×BS}(hf:FOk f s (a.zip b)){G:D.l04Net->Int->Int->Option (Int×D.l04Net)}
  (hG:∀(s':BS)(p:Int×Int),CircP s'.1->Grow s.1 s'.1->p∈a.zip b->G (net s') p.1 p.2=some ((f s' p).1,net (f s' p).2)):
  iterN (λ(s1:Int×(List Int)×Int×Bool×(List D.Gate))=>if(decide (s1.1<(len a)))then(get? a s1.1).bind λx7=>(get? b s1.1).bind λx8=>(G (D.l04Net.mk (D.Circuit.mk s1.2.2.1 s1.2.2.2.2) s1.2.2.2.1) x7 x8).bind λx9=>(app? s1.2.1 ([x9.1]:List Int)).bind λx10=>some (.inl ((w64 (s1.1+1)),x10,x9.2.c.Inputs,x9.2.full,x9.2.c.Gates))else some (.inr (s1.2.1,s1.2.2.1,s1.2.2.2.1,s1.2.2.2.2))) fuel (0,([]:List Int),s.1.Inputs,s.2,s.1.Gates)=some ((seqP f s (a.zip b)).1,(seqP f s (a.zip b)).2.1.Inputs,(seqP f s (a.zip b)).2.2,(seqP f s (a.zip b)).2.1.Gates):=by
 have hzl:(a.zip b).length=a.length:=by simp_all
 refine spec_seq hs (by omega) hf (λj out s' x hx hc hgr hout=>?_) (λout s'=>?_)
 ·have hj:j<a.length:=by
   grind
  have hz:=zip_mem hx;rw[Zbq (by simp_all[Za]),get?_nat,get?_nat,hz.1,hz.2];have e:=hG s' x hc hgr (Zbz hx);have e':G (D.l04Net.mk (D.Circuit.mk s'.1.Inputs s'.1.Gates) s'.2) x.1 x.2=_:=e;grind[Un,Zb]
 simp_all[Zbv,Za]
theorem QS{f:BS->Int×Int->Int×BS}(hf:FOk f s (a.zip b)){G:D.builder->Int->Int->Option (Int×D.builder)}
  (hG:∀(s':BS)(p:Int×Int),CircP s'.1->Grow s.1 s'.1->p∈a.zip b->∀m,RelB m s'->∃m',G m p.1 p.2=some ((f s' p).1,m')/\RelB m' (f s' p).2){m:D.builder}(hm:RelB m s):
  ∃ m',iterN (λ(s1:Int×(List Int)×Int×Bool×(List D.Gate)×(List (D.Gate×Int)))=>if(decide (s1.1<(len a)))then(get? a s1.1).bind λx14=>(get? b s1.1).bind λx15=>(G (D.builder.mk (D.Circuit.mk s1.2.2.1 s1.2.2.2.2.1) s1.2.2.2.2.2 s1.2.2.2.1) x14 x15).bind λx16=>(set? s1.2.1 s1.1 x16.1).bind λx17=>some (.inl ((w64 (s1.1+1)),x17,x16.2.c.Inputs,x16.2.full,x16.2.c.Gates,x16.2.line))else some (.inr (s1.2.1,s1.2.2.1,s1.2.2.2.1,s1.2.2.2.2.1,s1.2.2.2.2.2))) fuel (0,List.replicate a.length (0:Int),m.c.Inputs,m.full,m.c.Gates,m.line)=some ((seqP f s (a.zip b)).1,m'.c.Inputs,m'.full,m'.c.Gates,m'.line)/\RelB m' (seqP f s (a.zip b)).2:=by
 have hzl:(a.zip b).length=a.length:=by simp_all
 refine impl_seq hs (by omega) hf (by simp_all) (λj L mm s' x hx hc hgr hrr hLl hpre=>?_) (λL mm=>?_) hm
 ·have hj:j<a.length:=by
   grind
  have hz:=zip_mem hx;obtain⟨m4,e4,r4⟩:=hG s' x hc hgr (Zbz hx) mm hrr;have e4':G (D.builder.mk (D.Circuit.mk mm.c.Inputs mm.c.Gates) mm.line mm.full) x.1 x.2=_:=e4;rw[Zbq (by simp_all[Za]),get?_nat,get?_nat,hz.1,hz.2];grind[set?_nat,Zb]
 simp_all[Zbv,Za]
include ha hb
theorem Bw:iterN (λ(s2:Int×Int×Int×Bool×(List D.Gate))=>if(decide (s2.2.1<(len a)))then(get? a s2.2.1).bind λx20=>(get? b s2.2.1).bind λx21=>(Zr fuel (D.l04Net.mk (D.Circuit.mk s2.2.2.1 s2.2.2.2.2) s2.2.2.2.1) x20 x21).bind λx22=>(Zk fuel x22.2 s2.1 (w64 (0-x22.1))).bind λx23=>some (.inl (x23.1,(w64 (s2.2.1+1)),x23.2.c.Inputs,x23.2.full,x23.2.c.Gates))else some (.inr (s2.1,s2.2.2.1,s2.2.2.2.1,s2.2.2.2.2))) fuel (1,0,s.1.Inputs,s.2,s.1.Gates)=some ((accP eqF s 1 (a.zip b)).1,(accP eqF s 1 (a.zip b)).2.1.Inputs,(accP eqF s 1 (a.zip b)).2.2,(accP eqF s 1 (a.zip b)).2.1.Gates):=by
 have hzl:(a.zip b).length=a.length:=by simp_all
 refine NY (f:=eqF) (s:=s) (c:=1) (l:=a.zip b) (λj c s'=>(c,(j:Int),s'.1.Inputs,s'.2,s'.1.Gates)) (λc s'=>(c,s'.1.Inputs,s'.2,s'.1.Gates)) hs (XR hs) (Oq ha hb) (λj c s' x hx hc hgr hlc=>?_) (λc s'=>?_) lt_fuel
 ·have hj:j<a.length:=by
   grind
  have hz:=zip_mem hx;have hxl:=Xy ha hb (s':=s') hgr (Zbz hx);have g1:=X7 hc hxl.1 hxl.2;rw[Zbq (by simp_all[Za]),get?_nat,get?_nat,hz.1,hz.2];simp only[Zbn];have e1:Zr fuel (D.l04Net.mk (D.Circuit.mk s'.1.Inputs s'.1.Gates) s'.2) x.1 x.2=_:=Qp (fuel:=fuel) hc hxl.1 hxl.2;rw[e1];simp only[Zbn];have e2:=VK (fuel:=fuel) g1.circ (a:=c) (b:=-(xorP s' x.1 x.2).1) (litN_mono hlc g1.grow.lines) (by rw[ZA];exact g1.lit);rw[Yl g1.lit g1.circ.lines1,e2];rw[Zb];rfl
 simp_all[Zbv,Za]
theorem AJ{m:D.builder}(hm:RelB m s):∃m',YK fuel m a b=some ((accP eqF s 1 (a.zip b)).1,m')/\RelB m' (accP eqF s 1 (a.zip b)).2:=by
 have hzl:(a.zip b).length=a.length:=by simp_all
 unfold YK
 obtain⟨m2,h2,r2⟩:=Md (fuel:=fuel) (f:=eqF) (l:=a.zip b) (s:=s) (c:=1) (B:=λ(s1:Int×Int×Int×Bool×(List D.Gate)×(List (D.Gate×Int)))=>if(decide (s1.2.1<(len a)))then(get? a s1.2.1).bind λx1=>(get? b s1.2.1).bind λx2=>(Z9 (D.builder.mk (D.Circuit.mk s1.2.2.1 s1.2.2.2.2.1) s1.2.2.2.2.2 s1.2.2.2.1) x1 x2).bind λx3=>(Zo x3.2 s1.1 (w64 (0-x3.1))).bind λx4=>some (.inl (x4.1,(w64 (s1.2.1+1)),x4.2.c.Inputs,x4.2.full,x4.2.c.Gates,x4.2.line))else some (.inr (s1.1,s1.2.2.1,s1.2.2.2.1,s1.2.2.2.2.1,s1.2.2.2.2.2))) (λj c m=>(c,(j:Int),m.c.Inputs,m.full,m.c.Gates,m.line)) (λc m=>(c,m.c.Inputs,m.full,m.c.Gates,m.line)) hs (XR hs) (by omega) (Oq ha hb) (λj c mm s' x hx hc hgr hrr hlc=>by
   have hj:j<a.length:=by
    grind
   have hz:=zip_mem hx;have hxl:=Xy ha hb (s':=s') hgr (Zbz hx);have g1:=X7 hc hxl.1 hxl.2;obtain⟨m3,e3,r3⟩:=Qe hc hxl.1 hxl.2 mm hrr;obtain⟨m4,e4,r4⟩:=Vy r3 g1.circ (a:=c) (b:=-(xorP s' x.1 x.2).1) (litN_mono hlc g1.grow.lines) (by rw[ZA];exact g1.lit);refine⟨m4,?_,r4⟩;rw[Zbq (by simp_all[Za]),get?_nat,get?_nat,hz.1,hz.2];simp only[Zbn];have e3':Z9 (D.builder.mk (D.Circuit.mk mm.c.Inputs mm.c.Gates) mm.line mm.full) x.1 x.2=_:=e3;rw[e3'];simp only[Zbn];rw[Yl g1.lit g1.circ.lines1,e4];rw[Zb]
   rfl) (λc mm=>by
   simp_all[Zbv,Za]) hm
 simp_all
theorem Ms:ZB fuel (net s) a b=some (-(addP s a (negs b) 1).2.1,net (addP s a (negs b) 1).2.2):=by
 have hnl:=negs_lits hb;have ga:=YN hs (by simp_all[negs_len]) ha hnl (XR hs);unfold ZB;rw[spec_not hs.lines1 (by omega) hb];simp only[Zbn];rw[Sj hs (by omega) (by simp_all[negs_len]) ha hnl (XR hs)];simp only[Zbn];rw[Yl ga.lit ga.circ.lines1]
theorem Mt{m:D.builder}(hm:RelB m s):∃m',Yy fuel m a b=some (-(addP s a (negs b) 1).2.1,m')/\RelB m' (addP s a (negs b) 1).2.2:=by
 have hnl:=negs_lits hb;have ga:=YN hs (by simp_all[negs_len]) ha hnl (XR hs);obtain⟨m2,h2,r2⟩:=TK (fuel:=fuel) hs hm (by omega) (by simp_all[negs_len]) ha hnl (XR hs);unfold Yy;rw[impl_opp hs.lines1 (by omega) hb];simp only[Zbn];rw[h2];simp only[Zbn];rw[Yl ga.lit ga.circ.lines1];simp_all
end
end Go.Proofs.YtikabgjjcifidaaGreat.Cc
end
section
namespace Go.Proofs.YtikabgjjcifidaaGreat.Cc
open Go.GL
variable{fuel:Nat}[FU fuel]
section
variable{s:BS}(hs:CircP s.1){op:Int}{a b:List Int}(ho:3<=op/\op<=16)(hab:a.length=b.length)(hl:a.length<=15)(hw:1<=a.length)(ha:∀x∈a,litN (lines s.1) x=true)(hb:∀x∈b,litN (lines s.1) x=true)
include hs ho hab hl hw ha hb
def opW(op:Int)(n:Nat):Nat:=if 14<=op then 1 else n
theorem op_good:GoodL s (opW op a.length) (opP s op a b):=by
 have hnl:=negs_lits hb;have hzl:(a.zip b).length=a.length:=by simp_all
 have hla:litN (lines s.1) (a.getD (a.length-1) 0)=true:=ha _ (getD_mem (by omega));have one:∀{x:Int}{t:BS},litN (lines t.1) x=true->∀y∈[x],litN (lines t.1) y=true:=λh y hy=>by simp_all
 have less:∀{u v:List Int},u.length=v.length->(∀x∈u,litN (lines s.1) x=true)->(∀x∈v,litN (lines s.1) x=true)->GoodL s 1 (lessP s u v):=λhuv hu hv=>by
  have g:=YN hs (by simp_all[negs_len]) hu (negs_lits hv) (XR hs);exact⟨g.circ,g.grow,rfl,one (by rw[ZA];exact g.lit)⟩
 rcases op_cases ho with rfl|rfl|rfl|rfl|rfl|rfl|rfl|rfl|rfl|rfl|rfl|rfl|rfl|rfl
 ·have g:=YN hs hab ha hb (Yw hs);exact⟨g.circ,g.grow,g.len,g.lits⟩
 ·have g:=YN hs (by simp_all[negs_len]) ha hnl (XR hs);exact⟨g.circ,g.grow,g.len,g.lits⟩
 ·exact UK hs hab ha hb a.length (Zb0 _)
 ·have g:=Vq hab ha hb hs a.length (Zb0 _);exact⟨g.circ,g.grow,g.clen,g.clits⟩
 ·have g:=Vq hab ha hb hs a.length (Zb0 _);exact⟨g.circ,g.grow,g.len,g.lits⟩
 ·have g:=seq_good hs (TQ ha hb);exact⟨g.circ,g.grow,g.len.trans hzl,g.lits⟩
 ·have g:=seq_good hs (Qs ha hb);exact⟨g.circ,g.grow,g.len.trans hzl,g.lits⟩
 ·have g:=seq_good hs (Sq ha hb);exact⟨g.circ,g.grow,g.len.trans hzl,g.lits⟩
 ·exact UZ hab hl ha hb (Yw hs) hs hw (L:=true)
 ·exact UZ hab hl ha hb (Yw hs) hs hw (L:=false)
 ·exact UZ hab hl ha hb hla hs hw (L:=false)
 ·have g:=Nb hs (XR hs) (Oq ha hb);exact⟨g.circ,g.grow,rfl,one g.lit⟩
 ·exact less hab ha hb
 ·exact less (by simp_all[XE]) (Wh (by omega) ha) (Wh (by omega) hb)
theorem spec_op:Yb fuel (net s) op a b=some ((opP s op a b).1,net (opP s op a b).2):=by
 have hnl:=negs_lits hb;have hla:litN (lines s.1) (a.getD (a.length-1) 0)=true:=ha _ (getD_mem (by omega));rcases op_cases ho with rfl|rfl|rfl|rfl|rfl|rfl|rfl|rfl|rfl|rfl|rfl|rfl|rfl|rfl
 all_goals unfold Yb opP
 all_goals simp only[Int.reduceBEq,Int.reduceEq,ZcL,ZdT,Zdo,Zbp,Zb5,Zbx]
 ·rw[Sj hs (by omega) hab ha hb (Yw hs)];rfl
 ·rw[spec_not hs.lines1 (by omega) hb];simp only[Zbn];rw[Sj hs (by omega) (by rw[negs_len];exact hab) ha hnl (XR hs)];rfl
 ·rw[Dr hs hab (by omega) ha hb];rfl
 ·rw[KP hs hab (by omega) ha hb];rfl
 ·rw[KP hs hab (by omega) ha hb];rfl
 ·have h:=QU (fuel:=fuel) hs hab hl (TQ ha hb) (G:=Zk fuel) (λs' p hc hg hp=>have h:=Xy ha hb (s':=s') hg hp;VK hc h.1 h.2);rw[h];rfl
 ·have h:=QU (fuel:=fuel) hs hab hl (Qs ha hb) (G:=Zu fuel) (λs' p hc hg hp=>have h:=Xy ha hb (s':=s') hg hp;PR hc h.1 h.2);rw[h];rfl
 ·have h:=QU (fuel:=fuel) hs hab hl (Sq ha hb) (G:=Zr fuel) (λs' p hc hg hp=>have h:=Xy ha hb (s':=s') hg hp;Qp hc h.1 h.2);rw[h];rfl
 ·have h:=TN (fuel:=fuel) hs hab hl hw ha hb (Yw hs) (op:=11);unfold ZT;rw[ifn,h];rfl
 ·have h:=TN (fuel:=fuel) hs hab hl hw ha hb (Yw hs) (op:=12);unfold ZT;rw[ifn,h];rfl
 ·have h:=TN (fuel:=fuel) hs hab hl hw ha hb hla (op:=13);unfold ZT;rw[ifp,Tw hw (by omega)];simp only[Zbn];rw[h];rfl
 ·have h:=Bw (fuel:=fuel) hs hab hl ha hb;rw[h];rfl
 ·rw[Ms hs hab hl ha hb];rfl
 ·rw[MI hs.lines1 hw (by omega) ha,MI hs.lines1 (by omega) (by omega) hb];simp only[Zbn];rw[Ms hs (by rw[XE,XE];exact hab) (by rw[XE];exact hl) (Wh (by omega) ha) (Wh (by omega) hb)];rfl
theorem impl_op{m:D.builder}(hm:RelB m s):∃m',ZK fuel m op a b=some ((opP s op a b).1,m')/\RelB m' (opP s op a b).2:=by
 have hnl:=negs_lits hb;have hla:litN (lines s.1) (a.getD (a.length-1) 0)=true:=ha _ (getD_mem (by omega));rcases op_cases ho with rfl|rfl|rfl|rfl|rfl|rfl|rfl|rfl|rfl|rfl|rfl|rfl|rfl|rfl
 all_goals unfold ZK opP
 all_goals simp only[Int.reduceBEq,Int.reduceEq,ZcL,ZdT,Zdo,Zbp,Zb5,Zbx]
 ·obtain⟨m1,h1,r1⟩:=TK (fuel:=fuel) hs hm (by omega) hab ha hb (Yw hs);rw[h1];exact⟨m1,rfl,r1⟩
 ·rw[impl_opp hs.lines1 (by omega) hb];simp only[Zbn];obtain⟨m1,h1,r1⟩:=TK (fuel:=fuel) hs hm (by omega) (by rw[negs_len];exact hab) ha hnl (XR hs);rw[h1];exact⟨m1,rfl,r1⟩
 ·obtain⟨m1,h1,r1⟩:=Dp (fuel:=fuel) hs hab (by omega) ha hb hm;rw[h1];exact⟨m1,rfl,r1⟩
 ·obtain⟨m1,h1,r1⟩:=Km (fuel:=fuel) hs hab (by omega) ha hb hm;rw[h1];exact⟨m1,rfl,r1⟩
 ·obtain⟨m1,h1,r1⟩:=Km (fuel:=fuel) hs hab (by omega) ha hb hm;rw[h1];exact⟨m1,rfl,r1⟩
 ·obtain⟨m1,h1,r1⟩:=QS (fuel:=fuel) hs hab hl (TQ ha hb) (G:=Zo) (λs' p hc hg hp m hm=>have h:=Xy ha hb (s':=s') hg hp;Vy hm hc h.1 h.2) hm;rw[mk?_len (by unfold room;omega)];simp only[Zbn];rw[h1];exact⟨m1,rfl,r1⟩
 ·obtain⟨m1,h1,r1⟩:=QS (fuel:=fuel) hs hab hl (Qs ha hb) (G:=Z7) (λs' p hc hg hp m hm=>have h:=Xy ha hb (s':=s') hg hp;PO hc h.1 h.2 m hm) hm;rw[mk?_len (by unfold room;omega)];simp only[Zbn];rw[h1];exact⟨m1,rfl,r1⟩
 ·obtain⟨m1,h1,r1⟩:=QS (fuel:=fuel) hs hab hl (Sq ha hb) (G:=Z9) (λs' p hc hg hp m hm=>have h:=Xy ha hb (s':=s') hg hp;Qe hc h.1 h.2 m hm) hm;rw[mk?_len (by unfold room;omega)];simp only[Zbn];rw[h1];exact⟨m1,rfl,r1⟩
 ·obtain⟨m1,h1,r1⟩:=TR (fuel:=fuel) hs hab hl hw ha hb (Yw hs) (op:=11) hm;unfold Y5;rw[ifn,h1];exact⟨m1,rfl,r1⟩
 ·obtain⟨m1,h1,r1⟩:=TR (fuel:=fuel) hs hab hl hw ha hb (Yw hs) (op:=12) hm;unfold Y5;rw[ifn,h1];exact⟨m1,rfl,r1⟩
 ·obtain⟨m1,h1,r1⟩:=TR (fuel:=fuel) hs hab hl hw ha hb hla (op:=13) hm;unfold Y5;rw[ifp,Tw hw (by omega)];simp only[Zbn];rw[h1];exact⟨m1,rfl,r1⟩
 ·obtain⟨m1,h1,r1⟩:=AJ (fuel:=fuel) hs hab hl ha hb hm;rw[h1];exact⟨m1,rfl,r1⟩
 ·obtain⟨m1,h1,r1⟩:=Mt (fuel:=fuel) hs hab hl ha hb hm;rw[h1];exact⟨m1,rfl,r1⟩
 ·rw[MB hs.lines1 hw (by omega) ha,MB hs.lines1 (by omega) (by omega) hb];simp only[Zbn];obtain⟨m1,h1,r1⟩:=Mt (fuel:=fuel) hs (by rw[XE,XE];exact hab) (by rw[XE];exact hl) (Wh (by omega) ha) (Wh (by omega) hb) hm;rw[h1];exact⟨m1,rfl,r1⟩
end
end Go.Proofs.YtikabgjjcifidaaGreat.Cc
end
section
namespace Go.Proofs.YtikabgjjcifidaaGreat.Cc
open Go.GL
variable{fuel:Nat}[FU fuel]
def litV(l:List Bool)(a:Int):Bool:=if a<0 then !((l[(iab a-1).toNat]?).getD false)else(l[(iab a-1).toNat]?).getD false
def stepV(l:List Bool)(g:D.Gate):List Bool:=l++[litV l g.A&&litV l g.B]
def outV'(x:D.Circuit)(l:List Bool)(k:Nat):List Bool:=(x.Gates.take k).foldl stepV ([true]++l)
theorem EH(gs:List D.Gate)(l:List Bool):(gs.foldl stepV l).length=l.length+gs.length:=by
 induction gs generalizing l with
 |nil=>simp
 |cons g gs ih=>grind[stepV]
def OX{x:D.Circuit}{l:List Bool}{k:Nat}(h:k<=x.Gates.length):(outV' x l k).length=1+l.length+k:=by
 grind[outV',EH]
def FH{x:D.Circuit}{l:List Bool}{k:Nat}(h:k<x.Gates.length):outV' x l (k+1)=stepV (outV' x l k) x.Gates[k]:=by
 grind[outV',List.take_succ_eq_append_getElem]
def Aj{x:D.Circuit}(h:circB2 x=true){k:Nat}(hk:k<x.Gates.length):0<=x.Inputs/\x.Inputs<=30/\x.Gates.length<=360/\1<=iab x.Gates[k].A/\iab x.Gates[k].A<=x.Inputs+1+k/\1<=iab x.Gates[k].B/\iab x.Gates[k].B<=x.Inputs+1+k:=by
 unfold circB2 at h;simp only[Zbt,Zb8,ZbC]at h;obtain⟨⟨h1,h2⟩,h3⟩:=h;have hg:=h3 k (by simp_all);unfold gateAt at hg;unfold gateB at hg;grind[iab]
end Go.Proofs.YtikabgjjcifidaaGreat.Cc
end
section
namespace Go.Proofs.YtikabgjjcifidaaGreat.Cc
open Go.GL
def ev(c:D.Circuit)(v:List Bool):List Bool:=outV' c v c.Gates.length
theorem Du(gs:List D.Gate)(l:List Bool):l<+:gs.foldl stepV l:=by
 induction gs generalizing l with
 |nil=>simp
 |cons g gs ih=>exact(List.prefix_append _ _).trans (ih _)
def outV_pre{c:D.Circuit}{v:List Bool}{k:Nat}(hk:k<=c.Gates.length):outV' c v k<+:ev c v:=by
 grind[ev,outV',List.take_length,List.take_append_drop,Du]
def RX{l m:List Bool}(h:l<+:m){a:Int}(h1:1<=iab a)(h2:iab a<=l.length):litV m a=litV l a:=by
 obtain⟨t,rfl⟩:=h;unfold litV;rw[ZbH (by omega)]
theorem WJ{l:List Bool}{a:Int}(h:1<=iab a):litV l (-a)= !litV l a:=by
 unfold litV;rw[iab_neg];unfold iab at h;by_cases c:a<0
 ·rw[Zbq c,ifn,Bool.not_not]
 ·rw[Zbv c]at h;rw[Zbv c,ifp]
def ev_len{c:D.Circuit}{v:List Bool}(hv:(v.length:Int)=c.Inputs):((ev c v).length:Int)=lines c:=by
 unfold ev lines;rw[OX (Zb0 _)];omega
theorem ev_one{c:D.Circuit}{v:List Bool}:litV (ev c v) 1=true:=by
 have h:=outV_pre (c:=c) (v:=v) (k:=0) (by omega);rw[RX h (a:=1) (by decide) (by grind[outV',iab])];rfl
theorem ev_m1{c:D.Circuit}{v:List Bool}:litV (ev c v) (-1)=false:=by
 rw[WJ (by decide),ev_one];rfl
def IV{c:D.Circuit}(hc:CircP c){v:List Bool}(hv:(v.length:Int)=c.Inputs){k:Nat}{g:D.Gate}(hg:c.Gates[k]? =some g):litV (ev c v) (c.Inputs+2+k)=(litV (ev c v) g.A&&litV (ev c v) g.B):=by
 obtain⟨hk,rfl⟩:=Zbu.1 hg;obtain⟨b1,b2,b3,b4,b5,b6,b7⟩:=Aj (circP_iff.2 hc) hk;have hlen:=OX (x:=c) (l:=v) (k:=k) (by omega);have hlen1:=OX (x:=c) (l:=v) (k:=k+1) (by omega);have hp:=outV_pre (c:=c) (v:=v) (k:=k) (by omega);have hp1:=outV_pre (c:=c) (v:=v) (k:=k+1) (by omega);rw[RX hp b4 (by omega),RX hp b6 (by omega)];have hi:iab (c.Inputs+2+k)=c.Inputs+2+k:=by unfold iab;rw[ifn]
 rw[RX hp1 (by omega) (by omega),FH hk];unfold litV;rw[hi,ifn];unfold stepV;rw[ZbB (by omega),show(c.Inputs+2+(k:Int)-1).toNat-(outV' c v k).length=0 by omega];rfl
def LD{l m:List D.Gate}(h:l<+:m){k:Nat}{g:D.Gate}(hg:l[k]? =some g):m[k]? =some g:=by
 obtain⟨t,rfl⟩:=h;grind
def Sem(s:D.Circuit)(x:Int)(f:List Bool->Bool):Prop:=∀c',CircP c'->Grow s c'->∀v:List Bool,(v.length:Int)=c'.Inputs->litV (ev c' v) x=f (ev c' v)
def Sem.mono{s s':D.Circuit}{x:Int}{f:List Bool->Bool}(h:Sem s x f)(hg:Grow s s'):Sem s' x f:=λc' hc hg' v hv=>h c' hc (hg.trans hg') v hv
def Sem.neg{s:D.Circuit}{x:Int}{f:List Bool->Bool}(h:Sem s x f)(hx:1<=iab x):Sem s (-x) (λe=>!f e):=λc' hc hg v hv=>by rw[WJ hx,h c' hc hg v hv]
def NS(e:List Bool)(a b:Int):(litV e (gate2 a b).A&&litV e (gate2 a b).B)=(litV e a&&litV e b):=by
 grind[gate2,Bool.and_comm]
theorem UO{s:BS}{a b:Int}(ha:litN (lines s.1) a=true)(hb:litN (lines s.1) b=true)(hn:(andP s a b).2.2=false):Sem (andP s a b).2.1 (andP s a b).1 (λe=>litV e a&&litV e b):=by
 have b1:=(litN_iff.1 hb).1;unfold andP at hn⊢;split
 ·rename_i h;intro c' hc hg v hv;rw[ev_m1];rcases h with rfl|rfl|rfl
  ·simp[ev_m1]
  ·simp[ev_m1,Zes]
  grind[WJ,litV,ev]
 ·split
  ·intro c' hc hg v hv;simp_all[ev_one,Zcn]
  ·split
   ·rename_i h;intro c' hc hg v hv;rcases h with rfl|rfl
    all_goals simp[ev_one,Zey,Ze0]
   ·cases hf:find s.1.Gates (gate2 a b)with
    |some i=>
     intro c' hc hg v hv;have h1:=LD hg.2 (MF hf).2;rw[<-hg.1,IV hc hv h1,NS]
    | none=>
     by_cases hl:360<=s.1.Gates.length
     ·simp_all
     ·simp only[Zbv hl];intro c' hc hg v hv;have h1:c'.Gates[s.1.Gates.length]? =some (gate2 a b):=LD hg.2 (by simp);have h2:s.1.Inputs=c'.Inputs:=hg.1.symm;simp_all[IV,NS]
def WQ{s:BS}{a b:Int}(hn:(andP s a b).2.2=false):s.2=false:=by
 grind[andP]
structure OneF(s:BS)(r:Int×BS)(F:List Bool->Bool):Prop where
 full:r.2.2=false->s.2=false
 sem:r.2.2=false->Sem r.2.1 r.1 F
section
variable{s:BS}{a b c:Int}(hs:CircP s.1)(ha:litN (lines s.1) a=true)(hb:litN (lines s.1) b=true)
include ha hb
theorem Nr:OneF s (andP s a b) (λe=>litV e a&&litV e b):=⟨WQ,UO ha hb⟩
include hs
theorem Ky:OneF s (orP s a b) (λe=>litV e a||litV e b):=by
 have na:litN (lines s.1) (-a)=true:=by simp_all[ZA]
 have nb:litN (lines s.1) (-b)=true:=by simp_all[ZA]
 refine⟨λh=>WQ h,λh=>?_⟩;have g:=Yf hs na nb;have h1:=(UO na nb h).neg (litN_iff.1 g.lit).1;intro c' hc hg v hv;have:=h1 c' hc hg v hv;show litV (ev c' v) (-(andP s (-a) (-b)).1)=_;grind[WJ,litN_iff,litV,ev]
theorem if_nf(hc:litN (lines s.1) c=true):OneF s (ifP s c a b) (λe=>cond (litV e c) (litV e a) (litV e b)):=by
 have g1:=Yf hs hc ha;have nc:litN (lines (andP s c a).2.1) (-c)=true:=by rw[ZA];exact litN_mono hc g1.grow.lines
 have b1:=litN_mono hb g1.grow.lines;have g2:=Yf g1.circ nc b1;have p1:=litN_mono g1.lit g2.grow.lines;have O:=Ky (s:=(andP (andP s c a).2 (-c) b).2) g2.circ p1 g2.lit;refine⟨λh=>WQ (WQ (O.full h)),λh=>?_⟩;have f2:=O.full h;have f1:=WQ f2;have go:=Tt g2.circ p1 g2.lit;have m1:=((UO hc ha f1).mono g2.grow).mono go.grow;have m2:=(UO nc b1 f2).mono go.grow;intro c' hcc hg v hv;have q1:=m1 c' hcc hg v hv;have q2:=m2 c' hcc hg v hv;have q3:=O.sem h c' hcc hg v hv;show litV (ev c' v) (orP (andP (andP s c a).2 (-c) b).2 (andP s c a).1 (andP (andP s c a).2 (-c) b).1).1=_;grind[WJ,litN_iff,litV,ev]
theorem Lf:OneF s (xorP s a b) (λe=>xor (litV e a) (litV e b)):=by
 have nb:litN (lines s.1) (-b)=true:=by simp_all[ZA]
 have g1:=Yf hs ha nb;have na:litN (lines (andP s a (-b)).2.1) (-a)=true:=by rw[ZA];exact litN_mono ha g1.grow.lines
 have b1:=litN_mono hb g1.grow.lines;have g2:=Yf g1.circ na b1;have p1:=litN_mono g1.lit g2.grow.lines;have O:=Ky (s:=(andP (andP s a (-b)).2 (-a) b).2) g2.circ p1 g2.lit;refine⟨λh=>WQ (WQ (O.full h)),λh=>?_⟩;have f2:=O.full h;have f1:=WQ f2;have go:=Tt g2.circ p1 g2.lit;have m1:=((UO ha nb f1).mono g2.grow).mono go.grow;have m2:=(UO na b1 f2).mono go.grow;intro c' hcc hg v hv;have q1:=m1 c' hcc hg v hv;have q2:=m2 c' hcc hg v hv;have q3:=O.sem h c' hcc hg v hv;show litV (ev c' v) (orP (andP (andP s a (-b)).2 (-a) b).2 (andP s a (-b)).1 (andP (andP s a (-b)).2 (-a) b).1).1=_;grind[WJ,litN_iff,litV,ev]
end
def SemL(s:D.Circuit)(l:List Int)(F:List Bool->List Bool):Prop:=∀c',CircP c'->Grow s c'->∀v:List Bool,(v.length:Int)=c'.Inputs->l.map (litV (ev c' v))=F (ev c' v)
def SemL.mono{s s':D.Circuit}{l:List Int}{F:List Bool->List Bool}(h:SemL s l F)(hg:Grow s s'):SemL s' l F:=λc' hc hg' v hv=>h c' hc (hg.trans hg') v hv
structure LstF(s:BS)(t:LS)(F:List Bool->List Bool):Prop where
 full:t.2.2=false->s.2=false
 sem:t.2.2=false->SemL t.2.1 t.1 F
section
variable{U:Type}
theorem seq_nf{f:BS->U->Int×BS}{s:BS}{l:List U}{g:U->List Bool->Bool}(hs:CircP s.1)(hf:FOk f s l)
  (h:∀s' x,CircP s'.1->Grow s.1 s'.1->x∈l->OneF s' (f s' x) (g x)):LstF s (seqP f s l) (λe=>l.map λx=>g x e):=by
 have key:∀k,k<=l.length->GoodL s k (seqP f s (l.take k))/\LstF s (seqP f s (l.take k)) (λe=>(l.take k).map λx=>g x e):=by
  intro k
  induction k with
  |zero=>intro _;exact⟨Uh hs hf 0 (by omega),λh=>h,λ_ c' _ _ v _=>by simp[seqP]⟩
  |succ k ih=>
   intro hk;obtain⟨gk,q⟩:=ih (by omega);have gk1:=Uh hs hf (k+1) hk;refine⟨gk1,?_⟩;have hx:l[k]? =some l[k]:=Zbo (by omega);have o:=h (seqP f s (l.take k)).2 l[k] gk.circ gk.grow (ZbJ (by omega));have og:=hf (seqP f s (l.take k)).2 l[k] gk.circ gk.grow (ZbJ (by omega));rw[UX hx];refine⟨λhn=>q.full (o.full hn),λhn c' hc hg v hv=>?_⟩;rw[Zce,q.sem (o.full hn) c' hc (og.grow.trans hg) v hv,Zby (by omega),Zce];simp only[Zb1,Zch];rw[o.sem hn c' hc hg v hv]
 have:=(key l.length (Zb0 _)).2;simp_all
theorem Cu{f:BS->Int->U->Int×BS}{s:BS}{c:Int}{l:List U}{g:U->List Bool->Bool->Bool}(hs:CircP s.1)(hc:litN (lines s.1) c=true)(hf:AOk f s l)
  (h:∀s' c x,CircP s'.1->Grow s.1 s'.1->litN (lines s'.1) c=true->x∈l->OneF s' (f s' c x) (λe=>g x e (litV e c))):OneF s (accP f s c l) (λe=>l.foldl (λb x=>g x e b) (litV e c)):=by
 have key:∀k,k<=l.length->OneF s (accP f s c (l.take k)) (λe=>(l.take k).foldl (λb x=>g x e b) (litV e c)):=by
  intro k
  induction k with
  |zero=>intro _;exact⟨λh=>h,λ_ c' _ _ v _=>by simp[accP]⟩
  |succ k ih=>
   intro hk;have q:=ih (by omega);have gk:=Ra hs hc hf k (by omega);have hx:l[k]? =some l[k]:=Zbo (by omega);have o:=h (accP f s c (l.take k)).2 (accP f s c (l.take k)).1 l[k] gk.circ gk.grow gk.lit (ZbJ (by omega));have og:=hf (accP f s c (l.take k)).2 (accP f s c (l.take k)).1 l[k] gk.circ gk.grow gk.lit (ZbJ (by omega));rw[OW hx];refine⟨λhn=>q.full (o.full hn),λhn c' hc hg v hv=>?_⟩;rw[o.sem hn c' hc hg v hv];simp only;rw[q.sem (o.full hn) c' hc (og.grow.trans hg) v hv,Zby (by omega),ZbU];rfl
 have:=key l.length (Zb0 _);simp_all
end
def Aq{s:BS}{k:Nat}{t:AS}(h:GoodA s k t){p:Int×Int}(h1:litN (lines s.1) p.1=true)(h2:litN (lines s.1) p.2=true):
  ((addStep t p).2.2.2=false->t.2.2.2=false)/\∃o,(addStep t p).1=t.1++[o]/\Grow t.2.2.1 (addStep t p).2.2.1/\((addStep t p).2.2.2=false->Sem (addStep t p).2.2.1 o (λE=>xor (xor (litV E p.1) (litV E p.2)) (litV E t.2.1))/\Sem (addStep t p).2.2.1 (addStep t p).2.1 (λE=>(litV E p.1&&litV E p.2)||(xor (litV E p.1) (litV E p.2)&&litV E t.2.1))):=by
 have a1:=litN_mono h1 h.grow.lines;have a2:=litN_mono h2 h.grow.lines;have gx:=X7 h.circ a1 a2;have go:=X7 gx.circ gx.lit (litN_mono h.lit gx.grow.lines);have e1:=gx.grow.trans go.grow;have gy:=Yf go.circ (litN_mono a1 e1.lines) (litN_mono a2 e1.lines);have e2:=go.grow.trans gy.grow;have e3:=gx.grow.trans e2;have gz:=Yf gy.circ (litN_mono gx.lit e2.lines) (litN_mono h.lit e3.lines);have gw:=Tt gz.circ (litN_mono gy.lit gz.grow.lines) gz.lit;have fx:=Lf h.circ a1 a2;have fo:=Lf gx.circ gx.lit (litN_mono h.lit gx.grow.lines);have fy:=Nr (litN_mono a1 e1.lines) (litN_mono a2 e1.lines);have fz:=Nr (litN_mono gx.lit e2.lines) (litN_mono h.lit e3.lines);have fw:=Ky gz.circ (litN_mono gy.lit gz.grow.lines) gz.lit;refine⟨λhn=>fx.full (fo.full (fy.full (fz.full (fw.full hn)))),(xorP (xorP t.2.2 p.1 p.2).2 (xorP t.2.2 p.1 p.2).1 t.2.1).1,rfl,e3.trans (gz.grow.trans gw.grow),λhn=>?_⟩;have nz:=fw.full hn;have ny:=fz.full nz;have no:=fy.full ny;have nx:=fo.full no;have m1:=(fx.sem nx).mono (e2.trans (gz.grow.trans gw.grow));have m2:=(fo.sem no).mono (gy.grow.trans (gz.grow.trans gw.grow));have m3:=(fy.sem ny).mono (gz.grow.trans gw.grow);have m4:=(fz.sem nz).mono gw.grow;have m5:=fw.sem hn;constructor
 ·intro c' hc hg v hv;have q1:=m1 c' hc hg v hv;have q2:=m2 c' hc hg v hv;simp_all
 ·intro c' hc hg v hv;have q1:=m1 c' hc hg v hv;have q3:=m3 c' hc hg v hv;have q4:=m4 c' hc hg v hv;have q5:=m5 c' hc hg v hv;refine q5.trans ?_;simp_all
def addB1(t:List Bool×Bool)(p:Bool×Bool):List Bool×Bool:=(t.1++[xor (xor p.1 p.2) t.2],(p.1&&p.2)||((xor p.1 p.2)&&t.2))
def addB(a b:List Bool)(c:Bool):List Bool×Bool:=(a.zip b).foldl addB1 ([],c)
def SemA(s:D.Circuit)(l:List Int)(x:Int)(F:List Bool->List Bool×Bool):Prop:=∀c',CircP c'->Grow s c'->∀v:List Bool,(v.length:Int)=c'.Inputs->(l.map (litV (ev c' v)),litV (ev c' v) x)=F (ev c' v)
structure AddF(s:BS)(t:AS)(F:List Bool->List Bool×Bool):Prop where
 full:t.2.2.2=false->s.2=false
 sem:t.2.2.2=false->SemA t.2.2.1 t.1 t.2.1 F
theorem Lb{s:BS}(hs:CircP s.1){a b:List Int}{c:Int}(hab:a.length=b.length)(ha:∀x∈a,litN (lines s.1) x=true)(hb:∀x∈b,litN (lines s.1) x=true)(hc:litN (lines s.1) c=true):
  AddF s (addP s a b c) (λE=>addB (a.map (litV E)) (b.map (litV E)) (litV E c)):=by
 have key:∀k,k<=(a.zip b).length->GoodA s k (((a.zip b).take k).foldl addStep ([],c,s))/\AddF s (((a.zip b).take k).foldl addStep ([],c,s)) (λE=>((a.zip b).take k).foldl (λt p=>addB1 t (litV E p.1,litV E p.2)) ([],litV E c)):=by
  intro k
  induction k with
  |zero=>intro _;exact⟨Te hs ha hb hc 0 (by omega),λh=>h,λ_ c' _ _ v _=>rfl⟩
  |succ k ih=>
   intro hk;obtain⟨g,q⟩:=ih (by omega);refine⟨Te hs ha hb hc (k+1) hk,?_⟩;have hp:(a.zip b)[k]? =some (a.zip b)[k]:=Zbo (by omega);obtain⟨hpa,hpb⟩:=zip_mem hp;have h1:=ha _ (Zbz hpa);have h2:=hb _ (Zbz hpb);obtain⟨f2,o,ho,hgr,hm⟩:=Aq g h1 h2;rw[Zby (by omega),ZbU];simp only[Zcx,ZcJ];refine⟨λhn=>q.full (f2 hn),λhn c' hc' hg' v hv=>?_⟩;have q2:=q.sem (f2 hn) c' hc' (hgr.trans hg') v hv;obtain⟨m1,m2⟩:=hm hn;have e1:=m1 c' hc' hg' v hv;have e2:=m2 c' hc' hg' v hv;simp only at q2 e1 e2⊢;rw[ho,Zce,e2];simp only[Zb1,Zch];rw[e1,ZbU];rw[<-q2];rfl
 have h:=(key (a.zip b).length (Zb0 _)).2;rw[Zc0]at h;refine⟨h.full,λhn c' hc' hg' v hv=>?_⟩;have h2:=h.sem hn c' hc' hg' v hv;have h3:(List.map (litV (ev c' v)) (addP s a b c).1,litV (ev c' v) (addP s a b c).2.1)=_:=h2;grind[addB,List.foldl_map]
theorem PL{n x:Int}(h:litN n x=true):1<=iab x:=(litN_iff.1 h).1
def negs_bits{E:List Bool}{n:Int}{l:List Int}(h:∀x∈l,litN n x=true):(negs l).map (litV E)=(l.map (litV E)).map (λb=>!b):=by
 unfold negs;rw[Zc2,Zc2];refine Zcz λx hx=>?_;grind[WJ,PL]
theorem getD_bits{E:List Bool}{l:List Int}{k:Nat}(hk:k<l.length):litV E (l.getD k 0)=(l.map (litV E)).getD k false:=by
 simp_all
def mulB1(a b:List Bool)(t:List Bool)(k:Nat):List Bool:=
 t.take k++(addB (t.drop k) ((a.take (a.length-k)).map λx=>b.getD k false&&x) false).1
def mulB(a b:List Bool)(k:Nat):List Bool:=(List.range k).foldl (mulB1 a b) (List.replicate a.length false)
def divB1(a less:List Bool)(t:List Bool×List Bool)(k:Nat):List Bool×List Bool:=
 let d:=addB (a.getD k false::t.1) less true
 (((d.1.zip (a.getD k false::t.1)).take a.length).map λp=>cond d.2 p.1 p.2,d.2::t.2)
def lessB(b:List Bool):List Bool:=b.map (λx=>!x)++[true]
def divB(a b:List Bool)(k:Nat):List Bool×List Bool:=(List.range k).foldl (λt i=>divB1 a (lessB b) t (a.length-1-i)) (List.replicate a.length false,[])
def pickB(L:Bool)(d:Nat)(fill:Bool)(out:List Bool)(j:Nat):Bool:=
 if L then(if d<=j then out.getD (j-d) false else fill)else(if j+d<out.length then out.getD (j+d) false else fill)
def shB1(L:Bool)(fill:Bool)(b:List Bool)(t:List Bool)(k:Nat):List Bool:=(List.range t.length).map λj=>cond (b.getD k false) (pickB L (2^k) fill t j) (t.getD j false)
def shB(a b:List Bool)(L fill:Bool)(k:Nat):List Bool:=(List.range k).foldl (shB1 L fill b) a
def shPB(a b:List Bool)(L fill:Bool):List Bool:=
 (shB a b L fill (lg a.length)).map λx=>cond ((b.drop (lg a.length)).foldl (λc y=>c||y) false) fill x
section
variable{s:BS}{a b:List Int}(hs:CircP s.1)(hab:a.length=b.length)(ha:∀x∈a,litN (lines s.1) x=true)(hb:∀x∈b,litN (lines s.1) x=true)
include hs hab ha hb
theorem ZaC(k:Nat)(hk:k<=a.length):LstF s (mulK s a b k) (λE=>mulB (a.map (litV E)) (b.map (litV E)) k):=by
 induction k with
 |zero=>exact⟨λh=>h,λ_ c' _ _ v _=>by simp[mulK,mulB,ev_m1]⟩
 |succ k ih=>
  have g:=UK hs hab ha hb k (by omega);have q:=ih (by omega);have hok:=PS ha hb g.grow (k:=k) (by omega);rw[mulK_succ];generalize mulK s a b k=t at g q hok⊢;have gp:=seq_good g.circ hok;have hbk:b.getD k 0∈b:=getD_mem (by omega);have hlt:(a.take (a.length-k)).length=a.length-k:=by simp
  have o:=seq_nf (g:=λx e=>litV e (b.getD k 0)&&litV e x) g.circ hok (λs' x hc hgr hx=>Nr (litN_mono (hb _ hbk) (g.grow.trans hgr).lines) (litN_mono (ha _ (Zc8 hx)) (g.grow.trans hgr).lines));have gpl:(seqP (partF (b.getD k 0)) t.2 (a.take (a.length-k))).1.length=a.length-k:=by rw[gp.len,hlt]
  have hdl:(t.1.drop k).length=a.length-k:=by rw[ZbD,g.len]
  have la:∀x∈t.1.drop k,litN (lines (seqP (partF (b.getD k 0)) t.2 (a.take (a.length-k))).2.1) x=true:=λx hx=>litN_mono (g.lits x (Zco hx)) gp.grow.lines;have gq:=YN gp.circ (a:=t.1.drop k) (b:=(seqP (partF (b.getD k 0)) t.2 (a.take (a.length-k))).1) (c:=-1) (by rw[gpl,hdl]) la gp.lits (Yw gp.circ);have z:=Lb gp.circ (a:=t.1.drop k) (b:=(seqP (partF (b.getD k 0)) t.2 (a.take (a.length-k))).1) (c:=-1) (by rw[gpl,hdl]) la gp.lits (Yw gp.circ);refine⟨λhn=>q.full (o.full (z.full hn)),λhn c' hc hg v hv=>?_⟩;have hg':Grow (addP (seqP (partF (b.getD k 0)) t.2 (a.take (a.length-k))).2 (t.1.drop k) (seqP (partF (b.getD k 0)) t.2 (a.take (a.length-k))).1 (-1)).2.2.1 c':=hg;have e3:=z.sem hn c' hc hg' v hv;have e2:=o.sem (z.full hn) c' hc (gq.grow.trans hg') v hv;have e1:=q.sem (o.full (z.full hn)) c' hc ((gp.grow.trans gq.grow).trans hg') v hv;simp only[mulStep];rw[Zce];have e4:=congrArg Prod.fst e3
  try simp only at e4
  rw[e4,e2,ev_m1,Zdn,Zez,e1];unfold mulB;rw[ZcC,ZbU];simp only[Zcx,ZcJ];unfold mulB1;rw[ZbK,<-getD_bits (by omega),<-Zdn,Zc2];rfl
end
section
variable{s:BS}{a b:List Int}(hab:a.length=b.length)(ha:∀x∈a,litN (lines s.1) x=true)(hb:∀x∈b,litN (lines s.1) x=true)
include hab ha hb
structure LstD(s:BS)(t:DS)(F:List Bool->List Bool×List Bool):Prop where
 full:t.2.2.2=false->s.2=false
 sem:t.2.2.2=false->∀c',CircP c'->Grow t.2.2.1 c'->∀v:List Bool,(v.length:Int)=c'.Inputs->(t.1.map (litV (ev c' v)),t.2.1.map (litV (ev c' v)))=F (ev c' v)
theorem Bh(hs:CircP s.1)(k:Nat)(hk:k<=a.length):LstD s (divK s a b k) (λE=>divB (a.map (litV E)) (b.map (litV E)) k):=by
 induction k with
 |zero=>exact⟨λh=>h,λ_ c' _ _ v _=>by simp[divK,divB,ev_m1]⟩
 | succ k ih=>
  have g:=Vq hab ha hb hs k (by omega);have q:=ih (by omega);have o:=LJ hab ha hb g (k:=a.length-1-k) (by omega);rw[divK_succ];generalize hki:a.length-1-k=i at o⊢;have hi:i<a.length:=by omega
  generalize divK s a b k=t at g q o⊢;have hlen:(a.getD i 0::t.1).length=(lessOf b).length:=by simp[lessOf,negs_len,g.len,hab]
  have z:=Lb g.circ (a:=a.getD i 0::t.1) (b:=lessOf b) (c:=1) hlen o.tl o.ll o.l1;have z2:=z.full;have z3:=z.sem;have ga:=o.ga;have fok:=o.fok;have zl:=o.zl;have tl:=o.tl;generalize hA:addP t.2.2 (a.getD i 0::t.1) (lessOf b) 1=A at z2 z3 ga fok zl;have gq:=seq_good ga.circ fok
  have y:=seq_nf (g:=λp e=>cond (litV e A.2.1) (litV e p.1) (litV e p.2)) ga.circ fok (λs' p hc hgr hp=>by
   have hp':=ZdK (Zc8 hp)
   exact if_nf hc (litN_mono (ga.lits _ hp'.1) hgr.lines) (litN_mono (tl _ hp'.2) (ga.grow.trans hgr).lines) (litN_mono ga.lit hgr.lines))
  have hst:divStep a (lessOf b) t i=((seqP (selF A.2.1) A.2.2 ((A.1.zip (a.getD i 0::t.1)).take a.length)).1,A.2.1::t.2.1,(seqP (selF A.2.1) A.2.2 ((A.1.zip (a.getD i 0::t.1)).take a.length)).2):=by
   simp_all[divStep]
  rw[hst];refine⟨λhn=>q.full (z2 (y.full hn)),λhn c' hc hg v hv=>?_⟩;have e3:=z3 (y.full hn) c' hc (gq.grow.trans hg) v hv;have e2:=y.sem hn c' hc hg v hv;have e1:=q.sem (z2 (y.full hn)) c' hc ((ga.grow.trans gq.grow).trans hg) v hv
  try simp only at e3
  rw[e2];unfold divB;rw[ZcC,ZbU];simp only[Zcx,ZcJ,ZbK];rw[hki];unfold divB at e1;simp only[ZbK]at e1;rw[<-e1];unfold divB1;simp only[ZbK];have e4:lessB (List.map (litV (ev c' v)) b)=List.map (litV (ev c' v)) (lessOf b):=by
   unfold lessB lessOf;rw[Zce,negs_bits hb];simp[Zb1,Zch,ev_one]
  rw[<-getD_bits hi,e4];have e5:litV (ev c' v) (a.getD i 0)::List.map (litV (ev c' v)) t.1=List.map (litV (ev c' v)) (a.getD i 0::t.1):=rfl;rw[e5];rw[ev_one]at e3;rw[<-e3];simp only[Zb1];rw[show(litV (ev c' v) (a.getD i 0)::List.map (litV (ev c' v)) t.1)=List.map (litV (ev c' v)) (a.getD i 0::t.1)from rfl,Zek,<-Zdn,Zc2];rfl
end
section
variable{s:BS}{a b:List Int}{L:Bool}{fill:Int}(hab:a.length=b.length)(hl:a.length<=15)(ha:∀x∈a,litN (lines s.1) x=true)(hb:∀x∈b,litN (lines s.1) x=true)(hf:litN (lines s.1) fill=true)
include hab ha hb hf
omit hab ha hb hf in
theorem GY{E:List Bool}{d j:Nat}{out:List Int}(hj:j<out.length):litV E (pick L d fill out j)=pickB L d (litV E fill) (out.map (litV E)) j:=by
 unfold pick pickB;rw[ZbK];cases L
 ·simp only[Zbp,Zbx];split
  ·exact getD_bits (by assumption)
  ·rfl
 ·simp only[Zb5];split
  ·exact getD_bits (by omega)
  ·rfl
theorem Zbj(hs:CircP s.1)(k:Nat)(hk:k<=a.length):LstF s (shK s a b L fill k) (λE=>shB (a.map (litV E)) (b.map (litV E)) L (litV E fill) k):=by
 induction k with
 |zero=>exact⟨λh=>h,λ_ c' _ _ v _=>by rfl⟩
 | succ k ih=>
  have g:=VX hab ha hb hf hs (L:=L) k (by omega);have q:=ih (by omega);have o:=Gm hab hb hf g (k:=k) (by omega) (L:=L) (2^k);rw[shK_succ]
  have y:=seq_nf (g:=λp e=>cond (litV e (b.getD k 0)) (litV e p.1) (litV e p.2)) g.circ o (λs' p hc hgr hp=>by
   obtain⟨j,hj⟩:=ZcZ hp;obtain⟨hj',rfl⟩:=Uz hj;have e:=g.grow.trans hgr;refine if_nf hc ?_ (litN_mono (g.lits _ (getD_mem hj')) hgr.lines) (litN_mono (hb _ (getD_mem (by omega))) e.lines);rcases Jq (L:=L) (d:=2^k) (fill:=fill) hj' with h|h
   ·simp only[h];exact litN_mono hf e.lines
   ·exact litN_mono (g.lits _ h) hgr.lines)
  have gq:=seq_good g.circ o;refine⟨λhn=>q.full (y.full hn),λhn c' hc hg v hv=>?_⟩;unfold shStep at hg hn⊢;have e2:=y.sem hn c' hc hg v hv;have e1:=q.sem (y.full hn) c' hc (gq.grow.trans hg) v hv
  try simp only at e1
  rw[e2];unfold shB at e1⊢;rw[ZcC,ZbU,<-e1];simp only[Zcx,ZcJ];unfold shB1 shPairs;rw[ZbK,Zc2];refine Zcz λj hj=>?_;grind[getD_bits,GY]
end
def lessB'(a b:List Bool):List Bool:=[!(addB a (b.map λx=>!x) true).2]
def flipB(l:List Bool):List Bool:=l.set (l.length-1) (!(l.getD (l.length-1) false))
def opB(op:Int)(a b:List Bool):List Bool:=
 if op=3 then(addB a b false).1
 else if op=4 then(addB a (b.map λx=>!x) true).1
 else if op=5 then mulB a b a.length
 else if op=6 then(divB a b a.length).2
 else if op=7 then(divB a b a.length).1
 else if op=8 then(a.zip b).map λp=>p.1&&p.2
 else if op=9 then(a.zip b).map λp=>p.1||p.2
 else if op=10 then(a.zip b).map λp=>xor p.1 p.2
 else if op=11 then shPB a b true false
 else if op=12 then shPB a b false false
 else if op=13 then shPB a b false (a.getD (a.length-1) false)
 else if op=14 then[(a.zip b).foldl (λc p=>c&& !(xor p.1 p.2)) true]
 else if op=15 then lessB' a b
 else lessB' (flipB a) (flipB b)
def Mf{E:List Bool}{n:Int}{l:List Int}(h1:1<=l.length)(h:∀x∈l,litN n x=true):(flipP l).map (litV E)=flipB (l.map (litV E)):=by
 grind[flipP,flipB,List.map_set,List.length_map,WJ,PL,getD_mem,getD_bits]
structure GoodX(s:BS)(t:LS):Prop where
 circ:CircP t.2.1
 grow:Grow s.1 t.2.1
 lits:∀x∈t.1,litN (lines t.2.1) x=true
def LstF.cong{s:BS}{t:LS}{F G:List Bool->List Bool}(h:LstF s t F)(hm:∀c v,F (ev c v)=G (ev c v)):LstF s t G:=⟨h.full,λhn c' hc hg v hv=>by rw[h.sem hn c' hc hg v hv,hm]⟩
section
variable{s:BS}{a b:List Int}(hab:a.length=b.length)(hl:a.length<=15)(hw:1<=a.length)(ha:∀x∈a,litN (lines s.1) x=true)(hb:∀x∈b,litN (lines s.1) x=true)(hs:CircP s.1)
include hab hl hw ha hb hs
theorem JF{L:Bool}{fill:Int}(hf:litN (lines s.1) fill=true):LstF s (shP s a b L fill) (λE=>shPB (a.map (litV E)) (b.map (litV E)) L (litV E fill)):=by
 have hlg:=NQ a.length (by omega) hw;have g:=VX hab ha hb hf hs (L:=L) (lg a.length) (by omega);have q:=Zbj hab ha hb hf hs (L:=L) (lg a.length) (by omega);have gf:=Si hab (by omega) ha hb hf hs hw (L:=L);have f:OneF (shK s a b L fill (lg a.length)).2 (shFar s a b L fill) _:=Cu (g:=λx e c=>c||litV e x) g.circ (Yw g.circ) (Ld hb g (lg a.length)) (λs' c x hc hgr hlc hx=>Ky hc hlc (litN_mono (hb _ (Zco hx)) (g.grow.trans hgr).lines));have y:=seq_nf (g:=λx e=>cond (litV e (shFar s a b L fill).1) (litV e fill) (litV e x)) gf.circ (fin_ok hab (by omega) ha hb hf hs hw (L:=L)) (λs' x hc hgr hx=>if_nf hc (litN_mono hf ((g.grow.trans gf.grow).trans hgr).lines) (litN_mono (g.lits _ hx) (gf.grow.trans hgr).lines) (litN_mono gf.lit hgr.lines));have gq:=seq_good gf.circ (fin_ok hab (by omega) ha hb hf hs hw (L:=L));refine⟨λhn=>q.full (f.full (y.full hn)),λhn c' hc hg v hv=>?_⟩;have e3:=y.sem hn c' hc hg v hv;have e2:=f.sem (y.full hn) c' hc (gq.grow.trans hg) v hv;have e1:=q.sem (f.full (y.full hn)) c' hc ((gf.grow.trans gq.grow).trans hg) v hv
 try simp only at e1
 try simp only at e2
 unfold shP;rw[e3];unfold shPB;rw[ZbK,<-e1,Zc2];refine Zcz λx _=>?_;simp only[Function.comp];rw[e2,ev_m1,<-Zez,ZeN]
omit hl hw in
theorem MZ{f:BS->Int×Int->Int×BS}{g:Bool->Bool->Bool}(hf:FOk f s (a.zip b))
  (h:∀s' p,CircP s'.1->Grow s.1 s'.1->litN (lines s'.1) p.1=true->litN (lines s'.1) p.2=true->OneF s' (f s' p) (λe=>g (litV e p.1) (litV e p.2))):
  LstF s (seqP f s (a.zip b)) (λE=>((a.map (litV E)).zip (b.map (litV E))).map λp=>g p.1 p.2):=by
 have hz:(a.zip b).length=a.length:=by rw[Zc4];omega
 have y:=seq_nf (g:=λp e=>g (litV e p.1) (litV e p.2)) hs hf (λs' p hc hgr hp=>by
  have hp':=Xy ha hb (s':=s') hgr hp
  exact h s' p hc hgr hp'.1 hp'.2)
 refine⟨y.full,λhn c' hc hg v hv=>?_⟩;rw[y.sem hn c' hc hg v hv,Zek,Zc2];rfl
omit hl hw in
theorem IU{c:Int}(hc:litN (lines s.1) c=true):LstF s ((addP s a b c).1,(addP s a b c).2.2) (λE=>(addB (a.map (litV E)) (b.map (litV E)) (litV E c)).1):=by
 have z:=Lb hs hab ha hb hc;exact⟨z.full,λhn c' hc' hg v hv=>congrArg Prod.fst (z.sem hn c' hc' hg v hv)⟩
omit hl hw in
theorem Kl:LstF s (lessP s a b) (λE=>lessB' (a.map (litV E)) (b.map (litV E))):=by
 have hnl:=negs_lits hb;have z:=Lb hs (a:=a) (b:=negs b) (c:=1) (by rw[negs_len];exact hab) ha hnl (XR hs);have ga:=YN hs (a:=a) (b:=negs b) (c:=1) (by rw[negs_len];exact hab) ha hnl (XR hs);refine⟨z.full,λhn c' hc' hg v hv=>?_⟩;have hg':Grow (addP s a (negs b) 1).2.2.1 c':=hg;have e:=congrArg Prod.snd (z.sem hn c' hc' hg' v hv);simp only at e;unfold lessP lessB';simp only[Zb1,Zch];rw[WJ (PL ga.lit),e,negs_bits hb,ev_one]
theorem op_nf{op:Int}(ho:3<=op/\op<=16):GoodX s (opP s op a b)/\LstF s (opP s op a b) (λE=>opB op (a.map (litV E)) (b.map (litV E))):=by
 have hnl:=negs_lits hb;have hla:litN (lines s.1) (a.getD (a.length-1) 0)=true:=ha _ (getD_mem (by omega));rcases op_cases ho with rfl|rfl|rfl|rfl|rfl|rfl|rfl|rfl|rfl|rfl|rfl|rfl|rfl|rfl
 all_goals unfold opP opB
 all_goals simp only[Int.reduceEq,Zb5,Zbx,ZbK]
 ·have g:=YN hs hab ha hb (Yw hs);have y:=IU hab ha hb hs (Yw hs);exact⟨⟨g.circ,g.grow,g.lits⟩,y.cong λc' v=>by rw[ev_m1]⟩
 ·have hab':a.length=(negs b).length:=by simp_all[negs_len]
  have g:=YN hs hab' ha hnl (XR hs);have y:=IU hab' ha hnl hs (XR hs);exact⟨⟨g.circ,g.grow,g.lits⟩,y.cong λc' v=>by rw[ev_one,negs_bits hb]⟩
 ·have g:=UK hs hab ha hb a.length (Zb0 _);have y:=ZaC hs hab ha hb a.length (Zb0 _);exact⟨⟨g.circ,g.grow,g.lits⟩,y⟩
 ·have g:=Vq hab ha hb hs a.length (Zb0 _);have y:=Bh hab ha hb hs a.length (Zb0 _);exact⟨⟨g.circ,g.grow,g.clits⟩,⟨y.full,λhn c' hc hg v hv=>congrArg Prod.snd (y.sem hn c' hc hg v hv)⟩⟩
 ·have g:=Vq hab ha hb hs a.length (Zb0 _);have y:=Bh hab ha hb hs a.length (Zb0 _);exact⟨⟨g.circ,g.grow,g.lits⟩,⟨y.full,λhn c' hc hg v hv=>congrArg Prod.fst (y.sem hn c' hc hg v hv)⟩⟩
 ·have g:=seq_good hs (TQ ha hb);have y:=MZ hab ha hb hs (g:=λp q=>p&&q) (TQ ha hb) (λs' p hc hgr h1 h2=>Nr h1 h2);exact⟨⟨g.circ,g.grow,g.lits⟩,y⟩
 ·have g:=seq_good hs (Qs ha hb);have y:=MZ hab ha hb hs (g:=λp q=>p||q) (Qs ha hb) (λs' p hc hgr h1 h2=>Ky hc h1 h2);exact⟨⟨g.circ,g.grow,g.lits⟩,y⟩
 ·have g:=seq_good hs (Sq ha hb);have y:=MZ hab ha hb hs (g:=λp q=>xor p q) (Sq ha hb) (λs' p hc hgr h1 h2=>Lf hc h1 h2);exact⟨⟨g.circ,g.grow,g.lits⟩,y⟩
 ·have g:=UZ hab (by omega) ha hb (Yw hs) hs hw (L:=true);have y:=JF hab hl hw ha hb hs (L:=true) (Yw hs);exact⟨⟨g.circ,g.grow,g.lits⟩,y.cong λc' v=>by rw[ev_m1]⟩
 ·have g:=UZ hab (by omega) ha hb (Yw hs) hs hw (L:=false);have y:=JF hab hl hw ha hb hs (L:=false) (Yw hs);exact⟨⟨g.circ,g.grow,g.lits⟩,y.cong λc' v=>by rw[ev_m1]⟩
 ·have g:=UZ hab (by omega) ha hb hla hs hw (L:=false);have y:=JF hab hl hw ha hb hs (L:=false) hla;exact⟨⟨g.circ,g.grow,g.lits⟩,y.cong λc' v=>by grind⟩
 ·have hz:(a.zip b).length=a.length:=by simp_all
  have g:=Nb hs (XR hs) (Oq ha hb)
  have y:=Cu (g:=λp e c=>c&& !(xor (litV e p.1) (litV e p.2))) hs (XR hs) (Oq ha hb) (λs' c p hc hgr hlc hp=>by
   have hp':=Xy ha hb (s':=s') hgr hp;have x:=Lf hc hp'.1 hp'.2;have gx:=X7 hc hp'.1 hp'.2;have gn:litN (lines (xorP s' p.1 p.2).2.1) (-(xorP s' p.1 p.2).1)=true:=by rw[ZA];exact gx.lit
   have z:=Nr (s:=(xorP s' p.1 p.2).2) (a:=c) (b:=-(xorP s' p.1 p.2).1) (litN_mono hlc gx.grow.lines) gn;have gz:=Yf gx.circ (a:=c) (b:=-(xorP s' p.1 p.2).1) (litN_mono hlc gx.grow.lines) gn;refine⟨λhn=>x.full (z.full hn),λhn c' hc' hg v hv=>?_⟩;have e2:=z.sem hn c' hc' hg v hv;have e1:=x.sem (z.full hn) c' hc' (gz.grow.trans hg) v hv
   try simp only at e1
   try simp only at e2
   unfold eqF
   rw[e2,WJ (PL gx.lit),e1])
  refine⟨⟨g.circ,g.grow,λx hx=>by rw[Zb3.1 hx];exact g.lit⟩,⟨y.full,λhn c' hc hg v hv=>?_⟩⟩;have e:=y.sem hn c' hc hg v hv
  try simp only at e
  unfold equalP;simp only[Zb1,Zch];rw[e,ev_one,Zek,ZeN];rfl
 ·have g:=YN hs (by rw[negs_len];exact hab) ha hnl (XR hs);have y:=Kl hab ha hb hs;exact⟨⟨g.circ,g.grow,λx hx=>by rw[Zb3.1 hx,ZA];exact g.lit⟩,y⟩
 ·have fa:=Wh (by omega) ha;have fb:=Wh (by omega) hb;have g:=YN hs (by rw[negs_len,XE,XE];exact hab) fa (negs_lits fb) (XR hs);have y:=Kl (a:=flipP a) (b:=flipP b) (by rw[XE,XE];exact hab) fa fb hs;exact⟨⟨g.circ,g.grow,λx hx=>by rw[Zb3.1 hx,ZA];exact g.lit⟩,y.cong λc' v=>by rw[Mf (by omega) ha,Mf (by omega) hb]⟩
end
def bi(b:Bool):Nat:=if b then 1 else 0
def vB:List Bool->Nat
 |[]=>0
 |b::l=>bi b+2*vB l
theorem vB_snoc(b:Bool):∀l:List Bool,vB (l++[b])=vB l+bi b*2^l.length
 |[]=>by simp[vB]
 |x::l=>by
  rw[Zdk,vB,vB_snoc b l,vB,Zb6,ZcU];have e:bi b*(2^l.length*2)=2*(bi b*2^l.length):=by rw[<-Zcs,Zcl]
  rw[e,ZdB];omega
theorem Yz:∀l:List Bool,vB l<2^l.length
 |[]=>by decide
 |b::l=>by
  have:=Yz l;have hb:bi b<=1:=by cases b<;>decide
  rw[vB,Zb6,ZcU];omega
theorem vB_inj:∀{a b:List Bool},a.length=b.length->vB a=vB b->a=b
 |[],[],_,_=>rfl
 |x::a,y::b,h,e=>by
  rw[vB,vB]at e;have hx:bi x<=1:=by cases x<;>decide
  have hy:bi y<=1:=by cases y<;>decide
  have e1:bi x=bi y:=by omega
  have e2:vB a=vB b:=by omega
  have e3:x=y:=by cases x<;>cases y<;>first|rfl|(exact absurd e1 (by decide))
  rw[e3,vB_inj (by simpa using h) e2]
def BF:∀x y c:Bool,bi (xor (xor x y) c)+2*bi ((x&&y)||((xor x y)&&c))=bi x+bi y+bi c:=by decide
theorem addB_val{a b:List Bool}(h:a.length=b.length)(c:Bool):(addB a b c).1.length=a.length/\vB (addB a b c).1+bi (addB a b c).2*2^a.length=vB a+vB b+bi c:=by
 have key:∀k,k<=a.length->(((a.zip b).take k).foldl addB1 ([],c)).1.length=k/\vB (((a.zip b).take k).foldl addB1 ([],c)).1+bi (((a.zip b).take k).foldl addB1 ([],c)).2*2^k=vB (a.take k)+vB (b.take k)+bi c:=by
  intro k
  induction k with
  |zero=>intro _;simp[vB]
  |succ k ih=>
   intro hk;obtain⟨h1,h2⟩:=ih (by omega);have hz:k<(a.zip b).length:=by rw[Zc4];omega
   rw[Zby hz,ZbU];simp only[Zcx,ZcJ,Ze2];generalize ((a.zip b).take k).foldl addB1 ([],c)=t at h1 h2⊢;unfold addB1;simp only;have hb:=BF a[k] (b[k]'(by omega)) t.2;refine⟨by rw[Zbw,h1];rfl,?_⟩;rw[vB_snoc,h1,Zby (by omega:k<a.length),Zby (by omega:k<b.length),vB_snoc,vB_snoc,Zb2,Zb2,Zcj (by omega),Zcj (by omega),ZcU];generalize bi (xor (xor a[k] (b[k]'(by omega))) t.2)=o at*;generalize bi (a[k]&&b[k]'(by omega)||xor a[k] (b[k]'(by omega))&&t.2)=w at*;generalize bi a[k]=x at*;generalize bi (b[k]'(by omega))=y at*;generalize bi t.2=z at*;generalize 2^k=T at*;have e:(o+2*w)*T=(x+y+z)*T:=by rw[hb]
   simp only[Zdv,Zcs]at e;have e2:w*(T*2)=2*(w*T):=by rw[Zcl T 2,<-Zcs,Zcl w 2,Zcs]
   rw[e2];omega
 have:=key a.length (Zb0 _);have hz:(a.zip b).take a.length=a.zip b:=ZbX (by rw[Zc4];omega);rw[hz,Zc0,ZbX (by omega:b.length<=a.length)]at this;exact this
theorem bi_le(b:Bool):bi b<=1:=by cases b<;>decide
theorem vB_app(b:List Bool):∀a:List Bool,vB (a++b)=vB a+2^a.length*vB b
 |[]=>by simp[vB]
 |x::a=>by rw[Zdk,vB,vB_app b a,vB,Zb6,ZcU,ZdB,Zcl (2^a.length) 2,Zcs];omega
def vB_split(l:List Bool){k:Nat}(hk:k<=l.length):vB l=vB (l.take k)+2^k*vB (l.drop k):=by
 have:=vB_app (l.drop k) (l.take k);rw[Zcw,Zb2,Zcj hk]at this;exact this
theorem Za9(b:Bool)(l:List Bool):vB (l.map λx=>b&&x)=bi b*vB l:=by
 induction l with
 |nil=>simp[vB]
 |cons x l ih=>
  rw[Zb1,vB,vB,ih,ZdB];have:bi (b&&x)=bi b*bi x:=by cases b<;>cases x<;>rfl
  rw[this,<-Zcs,Zcl 2,Zcs]
theorem vB_rep(n:Nat):vB (List.replicate n false)=0:=by
 induction n with
 |zero=>rfl
 |succ n ih=>rw[Zdh,vB,ih];rfl
theorem vB_ones(n:Nat):vB (List.replicate n true)+1=2^n:=by
 induction n with
 |zero=>rfl
 |succ n ih=>rw[Zdh,vB,ZcU,<-ih];simp only[bi,Zb5];omega
theorem vB_not(l:List Bool):vB (l.map λx=>!x)+vB l+1=2^l.length:=by
 induction l with
 |nil=>rfl
 |cons x l ih=>
  rw[Zb1,vB,vB,Zb6,ZcU,<-ih];have:bi (!x)+bi x=1:=by cases x<;>rfl
  omega
theorem AX{a b:List Bool}(h:a.length=b.length)(k:Nat)(hk:k<=a.length):(mulB a b k).length=a.length/\∃q,vB a*vB (b.take k)=vB (mulB a b k)+2^a.length*q:=by
 induction k with
 |zero=>exact⟨by simp[mulB],0,by simp[mulB,vB_rep,vB]⟩
 | succ k ih=>
  obtain⟨h1,q,h2⟩:=ih (by omega);have e:mulB a b (k+1)=mulB1 a b (mulB a b k) k:=by unfold mulB;rw[ZcC,ZbU];rfl
  rw[e];generalize mulB a b k=t at h1 h2⊢;unfold mulB1;have hP:((a.take (a.length-k)).map λx=>b.getD k false&&x).length=a.length-k:=by rw[ZbK,Zb2];omega
  have hd:(t.drop k).length=a.length-k:=by rw[ZbD,h1]
  obtain⟨g1,g2⟩:=addB_val (hd.trans hP.symm) false;have ht:(t.take k).length=k:=by rw[Zb2];omega
  refine⟨by rw[Zbw,ht,g1,hd];omega,?_⟩;rw[vB_app,ht];rw[hd,Za9]at g2;generalize addB (t.drop k) ((a.take (a.length-k)).map λx=>b.getD k false&&x) false=S at g1 g2⊢;have hb:vB (b.take (k+1))=vB (b.take k)+bi (b.getD k false)*2^k:=by
   rw[Zby (by omega:k<b.length),vB_snoc,Zb2,Zcj (by omega),Zbr,Zbo (by omega)];rfl
  have ha:=vB_split a (k:=a.length-k) (by omega);have htt:=vB_split t (k:=k) (by omega);have hp:2^a.length=2^k*2^(a.length-k):=by rw[<-ZdC];congr 1;omega
  refine⟨bi S.2+bi (b.getD k false)*vB (a.drop (a.length-k))+q,?_⟩;rw[hb,ZdB,h2,htt];simp only[bi,Zbp,Zbx,ZcP]at g2⊢;generalize vB (a.take (a.length-k))=A1 at*;generalize vB (a.drop (a.length-k))=A2 at*;generalize (if b.getD k false=true then 1 else 0)=B at*;generalize (if S.2=true then 1 else 0)=C at*;generalize vB (t.take k)=T1 at*;generalize vB (t.drop k)=T2 at*;generalize vB S.1=V at*;rw[ha,hp];generalize 2^(a.length-k)=X at*;generalize 2^k=Y at*;have e1:Y*(V+C*X)=Y*(T2+B*A1):=by rw[g2]
  simp only[ZdB,Zdv]at e1⊢;have r1:A1*(B*Y)=Y*(B*A1):=by rw[Zcl B Y,<-Zcs,Zcl A1 Y,Zcs,Zcl A1 B]
  have r2:X*A2*(B*Y)=Y*X*(B*A2):=by
   rw[Zcl B Y,<-Zcs,Zcl (X*A2) Y,<-Zcs,Zcs (Y*X),Zcl A2 B]
  have r3:Y*(C*X)=Y*X*C:=by rw[Zcl C X,Zcs]
  rw[r1,r2];rw[r3]at e1;omega
def mul_num{a b:List Bool}(h:a.length=b.length):(mulB a b a.length).length=a.length/\vB (mulB a b a.length)=(vB a*vB b)%2^a.length:=by
 obtain⟨h1,q,h2⟩:=AX h a.length (Zb0 _);refine⟨h1,?_⟩;rw[ZbX (by omega)]at h2;have:=Yz (mulB a b a.length);rw[h1]at this;rw[h2,Zdp,ZcQ this]
theorem BK{a b:List Bool}(h:a.length=b.length)(k:Nat)(hk:k<=a.length):(divB a b k).1.length=a.length/\(divB a b k).2.length=k/\(vB b≠0->vB (a.drop (a.length-k))=vB b*vB (divB a b k).2+vB (divB a b k).1/\vB (divB a b k).1<vB b)/\
  (vB b=0->vB (divB a b k).1=vB (a.drop (a.length-k))/\(divB a b k).2=List.replicate k true):=by
 induction k with
 |zero=>exact⟨by simp[divB],rfl,λhb=>⟨by simp[divB,vB_rep,vB],by simp only[divB,Zee,ZcJ,vB_rep];omega⟩,λ_=>⟨by simp[divB,vB_rep,vB],rfl⟩⟩
 | succ k ih=>
  obtain⟨h1,h2,h3,h4⟩:=ih (by omega);have e:divB a b (k+1)=divB1 a (lessB b) (divB a b k) (a.length-1-k):=by unfold divB;rw[ZcC,ZbU];rfl
  rw[e];generalize divB a b k=t at h1 h2 h3 h4⊢;have hi:a.length-1-k<a.length:=by omega
  have hdrop:vB (a.drop (a.length-(k+1)))=bi (a.getD (a.length-1-k) false)+2*vB (a.drop (a.length-k)):=by
   rw[show a.length-(k+1)=a.length-1-k by omega,ZbT hi,vB,Zbr,Zbo hi,show a.length-1-k+1=a.length-k by omega];rfl
  have hlt:=Yz (a.drop (a.length-(k+1)));rw[ZbD]at hlt;have hbl:=Yz b;rw[<-h]at hbl;have hll:(lessB b).length=a.length+1:=by simp[lessB,h]
  have hxl:(a.getD (a.length-1-k) false::t.1).length=a.length+1:=by simp[h1]
  obtain⟨g1,g2⟩:=addB_val (a:=a.getD (a.length-1-k) false::t.1) (b:=lessB b) (by rw[hxl,hll]) true;have hless:vB (lessB b)+vB b+1=2^(a.length+1):=by
   unfold lessB;rw[vB_snoc,ZbK,ZcU,h];have:=vB_not b;simp only[bi,Zb5,ZdA];omega
  have hX:vB (a.getD (a.length-1-k) false::t.1)=bi (a.getD (a.length-1-k) false)+2*vB t.1:=rfl;unfold divB1;rw[hxl]at g1 g2;generalize addB (a.getD (a.length-1-k) false::t.1) (lessB b) true=d at g1 g2⊢;simp only;have hres:(((d.1.zip (a.getD (a.length-1-k) false::t.1)).take a.length).map λp=>cond d.2 p.1 p.2)=if d.2 then d.1.take a.length else(a.getD (a.length-1-k) false::t.1).take a.length:=by
   rw[Zdn];cases hd2:d.2
   ·have:=List.map_snd_zip (l₁:=d.1) (l₂:=a.getD (a.length-1-k) false::t.1) (by rw[g1,hxl];exact Zb0 _);simp only[cond_false,Zbp,Zbx];exact congrArg (List.take a.length) this
   ·have:=List.map_fst_zip (l₁:=d.1) (l₂:=a.getD (a.length-1-k) false::t.1) (by rw[g1,hxl];exact Zb0 _);simp only[cond_true,Zb5];exact congrArg (List.take a.length) this
  rw[hres];have hlen:(if d.2 then d.1.take a.length else(a.getD (a.length-1-k) false::t.1).take a.length).length=a.length:=by
   split<;>(rw[Zb2];omega)
  refine⟨hlen,by simp[h2],?_⟩;have hs1:=vB_split d.1 (k:=a.length) (by omega);have hs2:=vB_split (a.getD (a.length-1-k) false::t.1) (k:=a.length) (by omega);have hpw:(2:Nat)^(a.length+1)=2*2^a.length:=by rw[ZcU,Zcl]
  have small:∀(x y z:Nat),x=y+2^a.length*z->x<2^a.length->y=x:=λx y z e hx=>by
   cases z with
   |zero=>simpa using e.symm
   |succ z=>
    have hpos:2^a.length<=2^a.length*(z+1):=Ze1 _ (by omega);omega
  have hdr:(2:Nat)^(a.length-(a.length-(k+1)))<=2^a.length:=Zck (by omega) (by omega);rw[hdrop];rw[hX]at g2 hs2;rw[hdrop]at hlt;constructor
  ·intro hb;obtain⟨r1,r2⟩:=h3 hb;rw[r1];cases hd2:d.2
   ·simp only[Zbp,Zbx];rw[hd2]at g2;simp only[bi,Zbp,Zbx,Zb5,Zel,ZcP]at g2 hs2⊢;have hdl:=Yz d.1;rw[g1]at hdl;have hx:=small _ _ _ hs2 (by omega);rw[hx,vB];simp only[bi,Zbp,Zbx,Zdc];rw[show vB b*(2*vB t.2)=2*(vB b*vB t.2) by rw[<-Zcs,Zcl (vB b) 2,Zcs]];omega
   ·simp only[Zb5];rw[hd2]at g2;simp only[bi,Zbp,Zbx,Zb5,ZdA]at g2 hs2⊢;have hb1:(if a.getD (a.length-1-k) false=true then 1 else 0)<=1:=by split<;>omega
    have hx:=small _ _ _ hs1 (by omega);rw[hx,vB];simp only[bi,Zb5];rw[show vB b*(1+2*vB t.2)=vB b+2*(vB b*vB t.2) by rw[ZdB,<-Zcs (vB b),Zcl (vB b) 2,Zcs,Zd0]];omega
  ·intro hb;obtain⟨r1,r2⟩:=h4 hb;cases hd2:d.2
   ·rw[hd2]at g2;have hdl:=Yz d.1;rw[g1]at hdl;simp only[bi,Zbp,Zbx,Zb5,Zel,ZcP]at g2;omega
   ·simp only[Zb5];rw[hd2]at g2;simp only[bi,Zbp,Zbx,Zb5,ZdA]at g2 hlt hs1⊢;refine⟨?_,by rw[r2];rfl⟩;have hx:=small _ _ _ hs1 (by rw[r1]at g2;omega);rw[hx,<-r1];omega
def div_num{a b:List Bool}(h:a.length=b.length):(divB a b a.length).1.length=a.length/\(divB a b a.length).2.length=a.length/\vB (divB a b a.length).1=(if vB b=0 then vB a else vB a%vB b)/\vB (divB a b a.length).2=(if vB b=0 then 2^a.length-1 else vB a/vB b):=by
 obtain⟨h1,h2,h3,h4⟩:=BK h a.length (Zb0 _);rw[ZcG,ZcT]at h3 h4;refine⟨h1,h2,?_⟩;split
 ·rename_i hb;obtain⟨r1,r2⟩:=h4 hb;have:=vB_ones a.length;exact⟨r1,by rw[r2];omega⟩
 ·rename_i hb;obtain⟨r1,r2⟩:=h3 hb;have hp:0<vB b:=by omega
  constructor
  ·rw[r1,Nat.mul_add_mod,ZcQ r2]
  ·rw[r1,ZeC hp,ZcE r2,ZcP]
theorem Zat{a b:List Bool}{L fill:Bool}(k:Nat)(hk:k<=b.length):shB a b L fill k=(List.range a.length).map (pickB L (vB (b.take k)) fill a):=by
 induction k with
 | zero=>
  simp only[shB,Zee,ZcJ,ZdR,vB];refine Zd8 (by simp) λi h1 h2=>?_;simp only[Zdw,ZdL];unfold pickB;cases L
  ·simp only[Zbp,Zbx,ZcP];rw[Zbq h1,Zbr,Zbo h1];rfl
  ·simp only[Zb5,ZcA,Nat.sub_zero];rw[Zbr,Zbo h1];rfl
 | succ k ih=>
  have e:shB a b L fill (k+1)=shB1 L fill b (shB a b L fill k) k:=by unfold shB;rw[ZcC,ZbU];rfl
  rw[e,ih (by omega)];have hb:vB (b.take (k+1))=vB (b.take k)+bi (b.getD k false)*2^k:=by
   rw[Zby (by omega:k<b.length),vB_snoc,Zb2,Zcj (by omega),Zbr,Zbo (by omega)];rfl
  rw[hb];unfold shB1;rw[ZbK,ZdQ];refine Zcz λj hj=>?_;have hj:=ZbM.1 hj;have hget:∀i,i<a.length->((List.range a.length).map (pickB L (vB (b.take k)) fill a)).getD i false=pickB L (vB (b.take k)) fill a i:=λi hi=>by
   rw[Zbr,ZbO,Zdg hi];rfl
  rw[hget j hj];cases b.getD k false
  ·simp only[cond_false,bi,Zbp,Zbx,Zel,ZcP]
  ·simp only[cond_true,bi,Zb5,ZdA];generalize vB (b.take k)=s at hget⊢;generalize 2^k=d;unfold pickB at hget⊢;rw[ZbK,ZdQ];cases L
   ·simp only[Zbp,Zbx]at hget⊢;split
    ·rename_i h1;rw[hget _ h1,show j+d+s=j+(s+d) by omega]
    ·rw[ifn]
   ·simp only[Zb5]at hget⊢;split
    ·rename_i h1;rw[hget _ (by omega)];by_cases h2:s<=j-d
     ·rw[Zbq h2,ifp,show j-d-s=j-(s+d) by omega]
     ·rw[Zbv h2,ifn]
    ·rw[ifn]
theorem HV(l:List Bool)(c:Bool):l.foldl (λc y=>c||y) c=true↔c=true\/vB l≠0:=by
 induction l generalizing c with
 |nil=>simp[vB]
 |cons x l ih=>
  rw[Zcx,ih,vB];cases c<;>cases x<;>simp[bi]<;>omega
def shP_val{a b:List Bool}{L fill:Bool}(h:a.length=b.length)(hlg:lg a.length<=a.length)(hp:a.length<=2^lg a.length):shPB a b L fill=(List.range a.length).map (pickB L (vB b) fill a):=by
 unfold shPB;rw[Zat _ (by omega),Zc2];refine Zcz λj hj=>?_;have hj:=ZbM.1 hj;simp only[Function.comp];have hs:=vB_split b (k:=lg a.length) (by omega);cases hc:(b.drop (lg a.length)).foldl (λc y=>c||y) false
 ·have:¬(vB (b.drop (lg a.length))≠0):=λhne=>by
   rw[(HV _ _).2 (.inr hne)]at hc;cases hc
  rw[cond_false,hs,show vB (b.drop (lg a.length))=0 by omega];rfl
 ·have hne:vB (b.drop (lg a.length))≠0:=((HV _ _).1 hc).resolve_left (by decide);have:2^lg a.length<=2^lg a.length*vB (b.drop (lg a.length)):=Ze1 _ (by omega);rw[cond_true];unfold pickB;cases L
  ·simp only[Zbp,Zbx];rw[ifn]
  ·simp only[Zb5];rw[ifn]
def shl_num{a:List Bool}(s:Nat):vB ((List.range a.length).map (pickB true s false a))=(vB a*2^s)%2^a.length:=by
 have e:(List.range a.length).map (pickB true s false a)=List.replicate (min s a.length) false++a.take (a.length-s):=by
  refine Zd8 (by simp;omega) λi h1 h2=>?_;simp only[Zdw,ZdL];have hi:i<a.length:=by simpa using h1
  rw[List.getElem_append];unfold pickB;simp only[Zb5,ZbV];by_cases c:s<=i
  ·rw[Zbq c,dif_neg (by omega),Zbr,Zbo (by omega),List.getElem_take];simp only[ZbY,ZbV,show i-min s a.length=i-s by omega]
  ·rw[Zbv c,dif_pos (by omega),List.getElem_replicate]
 rw[e,vB_app,vB_rep,ZbV];by_cases c:s<=a.length
 ·have hs:=vB_split a (k:=a.length-s) (by omega);have hl:=Yz (a.take (a.length-s));rw[Zb2,Zcj (by omega)]at hl;have hp:2^a.length=2^s*2^(a.length-s):=by rw[<-ZdC];congr 1;omega
  rw[Zcj c,Zdc,hp,Zcl (vB a),Nat.mul_mod_mul_left,hs,Zdp,ZcQ hl]
 ·have hp:2^s=2^a.length*2^(s-a.length):=by rw[<-ZdC];congr 1;omega
  rw[show a.length-s=0 by omega,ZdR,hp,Zcl (vB a),Zcs,Nat.mul_mod_right];simp[vB]
def Kt{a:List Bool}(s:Nat)(fill:Bool):(List.range a.length).map (pickB false s fill a)=a.drop s++List.replicate (min s a.length) fill:=by
 refine Zd8 (by simp;omega) λi h1 h2=>?_;simp only[Zdw,ZdL];have hi:i<a.length:=by simpa using h1
 rw[List.getElem_append];unfold pickB;simp only[Zbp,Zbx,ZbD];by_cases c:i+s<a.length
 ·rw[Zbq c,dif_pos (by omega),Zbr,Zbo c,List.getElem_drop];simp only[ZbY,Nat.add_comm s i]
 ·rw[Zbv c,dif_neg (by omega),List.getElem_replicate]
def vB_drop(a:List Bool)(s:Nat):vB (a.drop s)=vB a/2^s:=by
 by_cases c:s<=a.length
 ·have hs:=vB_split a c;have hl:=Yz (a.take s);rw[Zb2,Zcj c]at hl;rw[hs,Nat.add_mul_div_left _ _ (Zc5 s),ZcE hl,Zdc]
 ·have hl:=Yz a;have hp:2^a.length<=2^s:=Zck (by omega) (by omega);rw[List.drop_eq_nil_of_le (by omega),ZcE (by omega)];rfl
def shr_num{a:List Bool}(s:Nat):vB ((List.range a.length).map (pickB false s false a))=vB a/2^s:=by
 rw[Kt,vB_app,vB_rep,vB_drop];simp
def sar_num{a:List Bool}(s:Nat):vB ((List.range a.length).map (pickB false s true a))=vB a/2^s+(2^a.length-2^(a.length-s)):=by
 rw[Kt,vB_app,vB_drop,ZbD];have h1:=vB_ones (min s a.length);have hp:2^a.length=2^(a.length-s)*2^min s a.length:=by rw[<-ZdC];congr 1;omega
 rw[hp,<-h1,ZdB,Zd0];omega
end Go.Proofs.YtikabgjjcifidaaGreat.Cc
end
section
namespace Go.Proofs.YtikabgjjcifidaaGreat
open Go.GL
def fuel:Nat:=4194400
def lt_fuel{n:Nat}(h:n<=1048576:=by omega):n<fuel:=by unfold fuel;omega
theorem Jd{U:Type}{l:List U}{f:U->Option Bool}{b:U->Bool}(hf:∀x∈l,f x=some (b x))(hb:l.length<=9223372036854775807):∀(d i:Nat),i+d=l.length->∀n,d<n->
  iterN (λ(s1:Int)=>if(decide (s1<(len l)))then(get? l s1).bind λx1=>(f x1).bind λx2=>if(!x2)then some (.inr (.inr false))else some (.inl ((w64 (s1+1))))else some (.inr (.inl ()))) n (i:Int)=some (if(l.drop i).all b then(.inl ():Unit⊕Bool)else .inr false)
 |0,i,hi,n,hn=>by
  obtain⟨n,rfl⟩:∃j,n=j+1:=⟨n-1,by omega⟩;unfold iterN;rw[Zbv (by rw[Za];simp;omega)];simp[Zdj (show l.length<=i by omega)]
 | d+1,i,hi,n,hn=>by
  obtain⟨n,rfl⟩:∃j,n=j+1:=⟨n-1,by omega⟩;have hp:i<l.length:=by omega
  unfold iterN;rw[Zbq (by rw[Za];simp;omega),get?_nat,Zbo hp];simp only[Zbn];rw[hf _ (ZbJ hp),ZbT hp];simp only[Zbn,ZdW];by_cases h:b l[i]=true
  ·rw[Zbv (by simp[h])];simp only;rw[Zb,show((i:Int)+1)=((i+1:Nat):Int) by omega,Jd hf hb d (i+1) (by omega) n (by omega)];simp only[h,Zcn]
  ·rw[Zbq (by simp[h])];simp[h]
def Gu{w:Int}(h1:1<=w)(h2:w<=16):∃m:Int,shl? 1 w=some m/\shl? 1 (IntKind.u64.wrap w)=some m/\w64 (m-1)=m-1:=by
 have:w=1\/w=2\/w=3\/w=4\/w=5\/w=6\/w=7\/w=8\/w=9\/w=10\/w=11\/w=12\/w=13\/w=14\/w=15\/w=16:=by omega
 rcases this with rfl|rfl|rfl|rfl|rfl|rfl|rfl|rfl|rfl|rfl|rfl|rfl|rfl|rfl|rfl|rfl<;>exact⟨_,rfl,by decide,by decide⟩
def Mc(w v:Int):∃b,ZV w v=some b/\WS w v=some b:=by
 unfold ZV WS Zf YQ;by_cases h:1<=w/\w<=16
 ·obtain⟨m,h1,h2,h3⟩:=Gu h.1 h.2;refine⟨decide (0<=v)&&decide (v<m),?_,?_⟩
  ·simp only[ge_iff_le,h.1,h.2,decide_true,Ze0,Zbn,Zb5,h1,h3,Zcn,Option.some.injEq];rw[ZcI];simp only[Zbt,Zb8];omega
  ·by_cases hv:0<=v
   ·simp[h.1,h.2,hv,h2]
   ·simp[h.1,h.2,hv]
 ·refine⟨false, ?_, ?_⟩
  ·by_cases a:1<=w
   ·have b:¬w<=16:=λb=>h ⟨a,b⟩;simp[a,b]
   ·simp[a]
  ·by_cases a:1<=w
   ·have b:¬w<=16:=λb=>h ⟨a,b⟩;simp[a,b]
   ·simp[a]
def RQ{c:Bool}{b:Bool}:(if c=true then some b else some default)=some (if c=true then b else default):=by split<;>rfl
def wordB(w v:Int):Bool:=(ZV w v).getD false
theorem QV(w v:Int):ZV w v=some (wordB w v):=by
 obtain⟨b,h,-⟩:=Mc w v;simp[wordB,h]
def Fs(w v:Int):WS w v=some (wordB w v):=by
 obtain⟨b,h,h'⟩:=Mc w v;simp[wordB,h,h']
def ZI{σt ρt:Type}{B:σt->Option (σt⊕ρt)}{s:σt}{r:ρt}{n:Nat}(h:B s=some (.inr r))(hn:0<n):iterN B n s=some r:=by
 obtain⟨m,rfl⟩:∃m,n=m+1:=⟨n-1,by omega⟩;rw[iterN,h]
def OA(s:Str):Str.eqb s s=true:=by unfold Str.eqb;simp
theorem Mq{S ρ U Z:Type}{l:List U}{B:S->Option (S⊕ρ)}(enc:Nat->Z->S)(I:List U->Z->Prop)(R:ρ->Prop)
  (hs:∀k x xs a,k<l.length->l[k]? =some x->l.length=k+(x::xs).length->I (x::xs) a->(∃a',B (enc k a)=some (.inl (enc (k+1) a'))/\I xs a')\/∃r,B (enc k a)=some (.inr r)/\R r)
  (he:∀a,I [] a->∃r,B (enc l.length a)=some (.inr r)/\R r):
  ∀(ys:List U)(k:Nat)(a:Z)(n:Nat),l.drop k=ys->k<=l.length->I ys a->ys.length<n->∃r,iterN B n (enc k a)=some r/\R r
 | [],k,a,n,hd,hk,hI,hn=>by
  obtain⟨n,rfl⟩:∃j,n=j+1:=⟨n-1,by omega⟩;have:k=l.length:=by
   have:=congrArg List.length hd;simp at this;omega
  subst this;obtain⟨r,h1,h2⟩:=he a hI;exact⟨r,by unfold iterN;rw[h1],h2⟩
 | x::xs,k,a,n,hd,hk,hI,hn=>by
  obtain⟨n,rfl⟩:∃j,n=j+1:=⟨n-1,by omega⟩;have hl:l.length=k+(x::xs).length:=by
   have:=congrArg List.length hd;simp at this⊢;omega
  have hk':k<l.length:=by simp at hl;omega
  have hx:l[k]? =some x:=by
   have h0:(l.drop k)[0]? =some x:=by rw[hd];rfl
   rw[Zc1]at h0;simpa using h0
  rcases hs k x xs a hk' hx hl hI with⟨a',h1,h2⟩|⟨r,h1,h2⟩
  ·obtain⟨r,g1,g2⟩:=Mq enc I R hs he xs (k+1) a' n (by rw[<-ZeM,hd];rfl) (by omega) h2 (by simp at hn;omega);exact⟨r,by unfold iterN;rw[h1];exact g1,g2⟩
  ·exact⟨r,by unfold iterN;rw[h1],h2⟩
def Yn{S ρ U Z:Type}{l:List U}{B:S->Option (S⊕ρ)}(enc:Nat->Z->S)(I:List U->Z->Prop)(R:ρ->Prop)
  (hs:∀k x xs a,k<l.length->l[k]? =some x->l.length=k+(x::xs).length->I (x::xs) a->(∃a',B (enc k a)=some (.inl (enc (k+1) a'))/\I xs a')\/∃r,B (enc k a)=some (.inr r)/\R r)
  (he:∀a,I [] a->∃r,B (enc l.length a)=some (.inr r)/\R r){a:Z}{n:Nat}(hI:I l a)(hn:l.length<n):∃r,iterN B n (enc 0 a)=some r/\R r:=
 Mq enc I R hs he l 0 a n rfl (ZcA _) hI hn
mutual
def msz:D.Term->Nat
 |⟨_,_,_,s,k⟩=>s.bytes.length+k.length+mszs k
def mszs:List D.Term->Nat
 |[]=>0
 |x::l=>msz x+mszs l
end
def UH(t:D.Term):msz t=t.Name.bytes.length+t.Kids.length+mszs t.Kids:=by cases t;rw[msz]
def Y0(x:D.Term)(l:List D.Term):mszs (x::l)=msz x+mszs l:=by rw[mszs]
def Xi:mszs []=0:=by rw[mszs]
theorem Ti{x:D.Term}:∀{l:List D.Term},x∈l->msz x<=mszs l
 |y::l,h=>by
  rw[Y0];rcases ZbN.1 h with rfl|h
  ·omega
  ·have:=Ti h;omega
set_option maxRecDepth 100000
mutual
def cnt:D.Term->Nat
 |⟨_,_,_,_,k⟩=>1+cnts k
def cnts:List D.Term->Nat
 |[]=>0
 |x::l=>cnt x+cnts l
end
def X8(t:D.Term):cnt t=1+cnts t.Kids:=by cases t;rw[cnt]
def UV(x:D.Term)(l:List D.Term):cnts (x::l)=cnt x+cnts l:=by rw[cnts]
def SC:cnts []=0:=by rw[cnts]
theorem XT{x:D.Term}:∀{l:List D.Term},x∈l->cnt x<=cnts l
 |y::l,h=>by
  rw[UV];rcases ZbN.1 h with rfl|h
  ·omega
  ·have:=XT h;omega
def lf(m:Int)(c:Nat):Int:=if m-c<0 then-1 else m-c
theorem few:∀(n:Nat)(t:D.Term)(m:Int),msz t<=1048576->0<=m->m<=240->1048580+m<=n->XG n t m=some (decide (lf m (cnt t)>=0),lf m (cnt t)):=by
 intro n
 induction n with
 |zero=>intro t m _ _ _ _;omega
 |succ n ih=>
  intro t m hs h0 h1 hn;have hz:=UH t;unfold XG;rw[Zb];obtain⟨r,g1,g2⟩:=Yn (l:=t.Kids) (n:=n) (Z:=Int) (ρ:=Int) (B:=λ(s1:Int×Int)=>if((decide (s1.1<(len t.Kids)))&&(decide (s1.2>=0)))then(get? t.Kids s1.1).bind λx1=>(XG n x1 s1.2).bind λx2=>some (.inl ((w64 (s1.1+1)),x2.2))else some (.inr (s1.2))) (λk a=>((k:Int),a)) (λys a=>-1<=a/\a<=m-1/\lf a (cnts ys)=lf (m-1) (cnts t.Kids)/\∀x∈ys,x∈t.Kids) (λr=>r=lf (m-1) (cnts t.Kids))
    (λk x xs a hk' hx hlen⟨i0,i1,i2,i3⟩=>by
     have:=Ti (i3 x (by simp));rw[UV]at i2;simp only;by_cases ha:0<=a
     ·refine .inl ⟨lf a (cnt x), ?_, ?_, ?_, ?_,λy hy=>i3 y (by simp[hy])⟩
      ·rw[Zbq (by rw[Za];simp;omega),get?_nat,hx];simp only[Zbn];rw[ih x a (by omega) ha (by omega) (by omega),Zb];rfl
      ·unfold lf;split<;>omega
      ·unfold lf;split<;>omega
      ·rw[<-i2];unfold lf;split<;>split<;>split<;>omega
     ·refine .inr ⟨a,by rw[Zbv (by simp;omega)], ?_⟩
      rw[<-i2];unfold lf;split<;>omega)
    (λa⟨i0,i1,i2,_⟩=>by
     rw[SC]at i2;simp only;rw[Zbv (by rw[Za];simp)];refine⟨_,rfl,?_⟩
     rw[<-i2];unfold lf;split<;>omega) (a:=m-1) ⟨by omega,by omega,rfl,λx hx=>hx⟩ (by omega)
  rw[show((0:Nat):Int)=0 from rfl]at g1;rw[g1,g2];have e:lf (m-1) (cnts t.Kids)=lf m (cnt t):=by rw[X8];unfold lf;split<;>split<;>omega
  simp only[Zbn,e]
def okF(k:Nat):List UInt8->Bool
 |[]=>true
 |b::l=>(decide (97<=b.toNat/\b.toNat<=122)||(decide (k≠0)&&decide (48<=b.toNat/\b.toNat<=57)))&&okF (k+1) l
def Jh(k:Nat)(b:UInt8)(l:List UInt8):okF k (b::l)=((decide (97<=b.toNat/\b.toNat<=122)||(decide (k≠0)&&decide (48<=b.toNat/\b.toNat<=57)))&&okF (k+1) l):=rfl
def nameB(s:Str):Bool:=okF 0 s.bytes&&decide (1<=s.bytes.length/\s.bytes.length<=8)
def Kz{s:Str}{k:Nat}{b:UInt8}(h:s.bytes[k]? =some b):sidx? s (k:Int)=some (b.toNat:Int):=by
 unfold sidx?;rw[ifp];simp[h]
def Sd(a b c:Int):Zf a b c=some (decide (b<=a/\a<=c)):=by simp[Zf]
def Fy{n:Nat}{s:Str}(hl:s.bytes.length<=1048576)(hn:s.bytes.length<n):WP n s=some (nameB s):=by
 unfold WP;obtain⟨r,g1,g2⟩:=Yn (l:=s.bytes) (n:=n) (Z:=Unit) (ρ:=Unit⊕Bool) (B:=λ(s1:Int)=>if(decide (s1<(len s.bytes)))then(sidx? s s1).bind λx1=>(Zf (w64 x1) 97 122).bind λx2=>(if(s1==0)then some default else(if(!x2)then(sidx? s s1)else some default)).bind λx3=>(if(s1==0)then some default else(if(!x2)then(Zf (w64 x3) 48 57)else some default)).bind λx4=>if((!x2)&&((s1==0)||(!x4)))then some (.inr (.inr false))else some (.inl ((w64 (s1+1))))else some (.inr (.inl ()))) (λk _=>(k:Int)) (λys _=>okF (s.bytes.length-ys.length) ys=okF 0 s.bytes) (λr=>r=if okF 0 s.bytes then(.inl ():Unit⊕Bool)else .inr false)
  (λk x xs a hk' hx hlen hi=>by
   have e1:s.bytes.length-(x::xs).length=k:=by omega
   have e2:s.bytes.length-xs.length=k+1:=by simp at hlen;omega
   rw[e1]at hi;rw[e2];have hb:=x.toNat_lt;rw[<-hi];simp only[Kz hx,Zbn,Sd];rw[Zbq (by rw[Za];simp;omega),Zb (x:=(x.toNat:Int)),Zb (x:=(k:Int)+1)];have wx:w64 (x.toNat:Int)=x.toNat:=Zb;rw[Jh];by_cases c1:97<=x.toNat/\x.toNat<=122
   ·refine .inl ⟨(), ?_, ?_⟩
    ·have:((97:Int)<=x.toNat/\(x.toNat:Int)<=122):=by omega
     simp[this]
    ·simp[c1]
   ·have c1':¬((97:Int)<=x.toNat/\(x.toNat:Int)<=122):=by omega
    by_cases c2:k=0
    ·subst c2;exact .inr ⟨.inr false,by simp[c1',wx],by simp[c1]⟩
    ·by_cases c3:48<=x.toNat/\x.toNat<=57
     ·have:((48:Int)<=x.toNat/\(x.toNat:Int)<=57):=by omega
      exact .inl ⟨(),by simp[c1',c2,this,wx],by simp[c1,c2,c3]⟩
     ·have:¬((48:Int)<=x.toNat/\(x.toNat:Int)<=57):=by omega
      exact .inr ⟨.inr false,by simp[c1',c2,this,wx],by simp[c1,c2,c3]⟩)
  (λa hi=>by
   rw[Zbv (by rw[Za];simp)];refine⟨_,rfl,?_⟩
   rw[<-hi];simp[okF]) (a:=()) (by simp) hn
 rw[show((0:Nat):Int)=0 from rfl]at g1;rw[g1,g2];unfold nameB;cases okF 0 s.bytes
 ·simp
 ·simp only[Sd,Za,Zb5,Zbn,Zcn,Option.some.injEq,decide_eq_decide];omega
def shB(op w m:Int)(name:Str)(ws:List Int):Bool:=
 if op=0 then ws.isEmpty&&wordB w m
 else if op=22 then ws.isEmpty&&nameB name
 else if 1<=op/\op<=2 then(match ws with|[a]=>a==w|_=>false)
 else if 3<=op/\op<=13 then(match ws with|[a,b]=>a==w&&b==w|_=>false)
 else if 14<=op/\op<=16 then(match ws with|[a,b]=>a==b&&w==1|_=>false)
 else if op=17 then(match ws with|[a,b,c]=>a==1&&b==w&&c==w|_=>false)
 else if op=18 then(match ws with|[a,b]=>a+b==w|_=>false)
 else if op=19 then(match ws with|[a]=>decide (0<=m/\m<=16)&&decide (m+w<=a)|_=>false)
 else if 20<=op/\op<=21 then(match ws with|[a]=>decide (a<=w)|_=>false)
 else false
def locB(t:D.Term):Bool:=
 decide (1<=t.W/\t.W<=16)&&(Str.eqb t.Name ⟨[]⟩||t.Op==22)&&(t.N==0||t.Op==0||t.Op==19)&&shB t.Op t.W t.N t.Name (t.Kids.map (·.W))
mutual
def nodeB:D.Term->Bool
 |⟨o,w,m,s,k⟩=>locB ⟨o,w,m,s,k⟩&&nodesB k
def nodesB:List D.Term->Bool
 |[]=>true
 |x::l=>nodeB x&&nodesB l
end
def Ul(t:D.Term):nodeB t=(locB t&&nodesB t.Kids):=by cases t;rw[nodeB]
theorem YL:∀l:List D.Term,nodesB l=l.all nodeB
 |[]=>by rw[nodesB];rfl
 |x::l=>by rw[nodesB,YL l];rfl
def ZY{t:D.Term}(h:nodeB t=true):1<=t.W/\t.W<=16:=by
 rw[Ul]at h;unfold locB at h;simp only[Zbt,Zb8]at h;exact h.1.1.1.1
def pad3:List D.Term->List Int
 |[]=>[0,0,0]
 |[a]=>[a.W,0,0]
 |[a,b]=>[a.W,b.W,0]
 |a::b::c::_=>[a.W,b.W,c.W]
def BC{l:List D.Term}{n:Nat}(hn:4<=n):iterN (λ(s2:Int×(List Int))=>if((decide (s2.1<(len l)))&&(decide (s2.1<3)))then(get? l s2.1).bind λx4=>(set? s2.2 s2.1 x4.W).bind λx5=>some (.inl ((w64 (s2.1+1)),x5))else some (.inr (s2.2))) n (0,([0,0,0]:List Int))=some (pad3 l):=by
 obtain⟨n,rfl⟩:∃j,n=j+4:=⟨n-4,by omega⟩;rcases l with _|⟨a,_|⟨b,_|⟨c,l⟩⟩⟩
 ·simp[iterN,len,pad3]
 ·simp[iterN,len,pad3,get?,set?,Zb]
 ·simp[iterN,len,pad3,get?,set?,Zb]
 ·have h1:(0:Int)<(l.length:Int)+1+1+1:=by omega
  have h2:(1:Int)<(l.length:Int)+1+1+1:=by omega
  have h3:(2:Int)<(l.length:Int)+1+1+1:=by omega
  simp[iterN,len,pad3,get?,set?,Zb,h1,h2,h3]
def Dw {n:Nat}{p0:D.Term}(ih:∀x∈p0.Kids,YD n x=some (nodeB x))(hk:p0.Kids.length<=1048576)(hs:p0.Name.bytes.length<=1048576)(hn:1048580<=n)(hw:1<=p0.W/\p0.W<=16):
   ((iterN (λ(s1:Int)=>if(decide (s1<(len p0.Kids)))then(get? p0.Kids s1).bind λx2=>(YD n x2).bind λx3=>if(!x3)then some (.inr (.inr false))else some (.inl ((w64 (s1+1))))else some (.inr (.inl ()))) n (0)).bind λ(rl1:(Unit)⊕Bool)=>match rl1 with| .inl s1r=>(iterN (λ(s2:Int×(List Int))=>if((decide (s2.1<(len p0.Kids)))&&(decide (s2.1<3)))then(get? p0.Kids s2.1).bind λx4=>(set? s2.2 s2.1 x4.W).bind λx5=>some (.inl ((w64 (s2.1+1)),x5))else some (.inr (s2.2))) n (0,([0,0,0]:List Int))).bind λ(rl2:(List Int))=>if(p0.Op==0)then(if((len p0.Kids)==0)then(ZV p0.W p0.N)else some default).bind λx6=>some (((len p0.Kids)==0)&&x6)else if(p0.Op==22)then(if((len p0.Kids)==0)then(WP n p0.Name)else some default).bind λx7=>some (((len p0.Kids)==0)&&x7)else(Zf p0.Op 1 2).bind λx8=>if x8 then(if((len p0.Kids)==1)then(get? rl2 0)else some default).bind λx9=>some (((len p0.Kids)==1)&&(x9==p0.W))else(Zf p0.Op 3 13).bind λx10=>if x10 then(if((len p0.Kids)==2)then(get? rl2 0)else some default).bind λx11=>(if(((len p0.Kids)==2)&&(x11==p0.W))then(get? rl2 1)else some default).bind λx12=>some ((((len p0.Kids)==2)&&(x11==p0.W))&&(x12==p0.W))else(Zf p0.Op 14 16).bind λx13=>if x13 then(if((len p0.Kids)==2)then(get? rl2 0)else some default).bind λx14=>(if((len p0.Kids)==2)then(get? rl2 1)else some default).bind λx15=>some ((((len p0.Kids)==2)&&(x14==x15))&&(p0.W==1))else if(p0.Op==17)then(if((len p0.Kids)==3)then(get? rl2 0)else some default).bind λx16=>(if(((len p0.Kids)==3)&&(x16==1))then(get? rl2 1)else some default).bind λx17=>(if((((len p0.Kids)==3)&&(x16==1))&&(x17==p0.W))then(get? rl2 2)else some default).bind λx18=>some (((((len p0.Kids)==3)&&(x16==1))&&(x17==p0.W))&&(x18==p0.W))else if(p0.Op==18)then(if((len p0.Kids)==2)then(get? rl2 0)else some default).bind λx19=>(if((len p0.Kids)==2)then(get? rl2 1)else some default).bind λx20=>some (((len p0.Kids)==2)&&((w64 (x19+x20))==p0.W))else if(p0.Op==19)then(if((len p0.Kids)==1)then(Zf p0.N 0 16)else some default).bind λx21=>(if(((len p0.Kids)==1)&&x21)then(get? rl2 0)else some default).bind λx22=>some ((((len p0.Kids)==1)&&x21)&&(decide ((w64 (p0.N+p0.W))<=x22)))else(Zf p0.Op 20 21).bind λx23=>(if(x23&&((len p0.Kids)==1))then(get? rl2 0)else some default).bind λx24=>some ((x23&&((len p0.Kids)==1))&&(decide (x24<=p0.W)))|.inr v=>some v)=some (nodesB p0.Kids&&shB p0.Op p0.W p0.N p0.Name (p0.Kids.map (·.W))):=by
 have hl:=Jd (l:=p0.Kids) (f:=λx=>YD n x) (b:=nodeB) ih (by omega) p0.Kids.length 0 (by omega) n (by omega);rw[show((0:Nat):Int)=0 from rfl]at hl;rw[hl,ZcT,YL];by_cases ha:p0.Kids.all nodeB=true
 ·rw [ha]
  have hkw:∀x∈p0.Kids,1<=x.W/\x.W<=16:=λx hx=>ZY (ZbC.1 ha x hx);simp only[Zb5,Zbn,Zcn,Sd,QV,Fy hs (show p0.Name.bytes.length<n by omega)];rw[BC (by omega)];simp only[Zbn];generalize hks:p0.Kids=ks;rw[hks]at hkw;obtain⟨op,w,m,nm,_⟩:=p0;simp only at hw⊢;have g0:∀x y z:Int,get? [x,y,z] 0=some x:=λ_ _ _=>rfl;have g1:∀x y z:Int,get? [x,y,z] 1=some y:=λ_ _ _=>rfl;have g2:∀x y z:Int,get? [x,y,z] 2=some z:=λ_ _ _=>rfl;have q0:∀x y z:D.Term,∀l:List D.Term,((l.length:Int)+1+1+1+1==0)=false:=λx y z l=>by simp;omega
  have hA:ks=[]\/(∃a:D.Term,ks=[a]/\1<=a.W/\a.W<=16)\/(∃a b:D.Term,ks=[a,b]/\(1<=a.W/\a.W<=16)/\1<=b.W/\b.W<=16)\/(∃a b c:D.Term,ks=[a,b,c])\/∃(a b c d:D.Term)(l:List D.Term),ks=a::b::c::d::l:=by
   rcases ks with _|⟨a,_|⟨b,_|⟨c,_|⟨d,l⟩⟩⟩⟩
   ·exact .inl rfl
   ·exact .inr (.inl ⟨a,rfl,hkw a (by simp)⟩)
   ·exact .inr (.inr (.inl ⟨a,b,rfl,hkw a (by simp),hkw b (by simp)⟩))
   ·exact .inr (.inr (.inr (.inl ⟨a,b,c,rfl⟩)))
   ·exact .inr (.inr (.inr (.inr ⟨a,b,c,d,l,rfl⟩)))
  rcases hA with rfl|⟨a,rfl,ha⟩|⟨a,b,rfl,ha,hb⟩|⟨a,b,c,rfl⟩|⟨a,b,c,d,l,rfl⟩
  ·simp only[pad3,Za,Zcf,Zch,g0,g1,g2,Zbn,RQ];unfold shB;by_cases o0:op=0
   ·simp[o0]
   by_cases o1:op=22
   ·simp[o1]
   simp[o0,o1]
  ·have e19:∀h:0<=m/\m<=16,w64 (m+w)=m+w:=λh=>Zb;simp only[pad3,Za,Zcf,Zb6,Zch,Zb1,g0,g1,g2,Zbn,RQ];unfold shB;by_cases o0:op=0
   ·simp[o0]
   by_cases o1:op=22
   ·simp[o1]
   by_cases o2:1<=op/\op<=2
   ·simp[o0,o1,o2]
   by_cases o3:3<=op/\op<=13
   ·simp[o0,o1,o2,o3]
   by_cases o4:14<=op/\op<=16
   ·simp[o0,o1,o2,o3,o4]
   by_cases o5:op=17
   ·simp[o5]
   by_cases o6:op=18
   ·simp[o6]
   by_cases o7:op=19
   ·by_cases hm:0<=m/\m<=16
    ·simp[o7,hm,e19 hm]
    ·simp[o7,hm]
   by_cases o8:20<=op/\op<=21
   ·simp[o0,o1,o2,o3,o4,o5,o6,o7,o8]
   simp[o0,o1,o2,o3,o4,o5,o6,o7,o8]
  ·have e18:w64 (a.W+b.W)=a.W+b.W:=Zb;simp only[pad3,Za,Zcf,Zb6,Zch,Zb1,g0,g1,g2,Zbn,RQ,e18];unfold shB;by_cases o0:op=0
   ·simp[o0]
   by_cases o1:op=22
   ·simp[o1]
   by_cases o2:1<=op/\op<=2
   ·simp[o0,o1,o2]
   by_cases o3:3<=op/\op<=13
   ·by_cases c:a.W=w
    ·simp[o0,o1,o2,o3,c]
    ·have c':(a.W==w)=false:=by simpa using c
     simp[o0,o1,o2,o3,c,c']
   by_cases o4:14<=op/\op<=16
   ·simp[o0,o1,o2,o3,o4]
   by_cases o5:op=17
   ·simp[o5]
   by_cases o6:op=18
   ·simp[o6,e18]
   by_cases o7:op=19
   ·simp[o7]
   simp[o0,o1,o2,o3,o4,o5,o6,o7]
  ·simp only[pad3,Za,Zcf,Zb6,Zch,Zb1,g0,g1,g2,Zbn,RQ];unfold shB;by_cases o0:op=0
   ·simp[o0]
   by_cases o1:op=22
   ·simp[o1]
   by_cases o2:1<=op/\op<=2
   ·simp[o0,o1,o2]
   by_cases o3:3<=op/\op<=13
   ·simp[o0,o1,o2,o3]
   by_cases o4:14<=op/\op<=16
   ·simp[o0,o1,o2,o3,o4]
   by_cases o5:op=17
   ·by_cases c1:a.W=1
    ·by_cases c2:b.W=w
     ·simp[o5,c1,c2]
     ·have c2':(b.W==w)=false:=by simpa using c2
      simp[o5,c1,c2,c2']
    ·have c1':(a.W==1)=false:=by simpa using c1
     simp[o5,c1,c1']
   by_cases o6:op=18
   ·simp[o6]
   by_cases o7:op=19
   ·simp[o7]
   simp[o0,o1,o2,o3,o4,o5,o6,o7]
  ·have e0:(len (a::b::c::d::l)==0)=false:=by rw[Za];simp;omega
   have e1:(len (a::b::c::d::l)==1)=false:=by rw[Za];simp;omega
   have e2:(len (a::b::c::d::l)==2)=false:=by rw[Za];simp;omega
   have e3:(len (a::b::c::d::l)==3)=false:=by rw[Za];simp;omega
   simp only[pad3,Zb1,g0,g1,g2,Zbn,RQ,e0,e1,e2,e3,ZdS,Zes,Zbx,Zbp];unfold shB;simp
 ·rw[Bool.not_eq_true]at ha;rw[ha];simp
theorem Ef:∀(n:Nat)(t:D.Term),msz t<=1048576->1048580+cnt t<=n->YD n t=some (nodeB t):=by
 intro n
 induction n with
 |zero=>intro t _ _;omega
 | succ n ih=>
  intro t hs hn;have hz:=UH t;have hc:=X8 t;have ih':∀x∈t.Kids,YD n x=some (nodeB x):=λx hx=>by
   have:=Ti hx;have:=XT hx;exact ih x (by omega) (by omega)
  have e0:∀c:Bool,nodeB t=(decide (1<=t.W/\t.W<=16)&&(Str.eqb t.Name ⟨[]⟩||t.Op==22)&&(t.N==0||t.Op==0||t.Op==19)&&(nodesB t.Kids&&shB t.Op t.W t.N t.Name (t.Kids.map (·.W)))):=λ_=>by
   rw[Ul];unfold locB;cases nodesB t.Kids<;>simp
  have e0:=e0 true;unfold YD;rw[Sd];simp only[Zbn];have hx:∀a b c d e f:Bool,((!a||(!b&& !c))||((!d&& !e)&& !f))= !(a&&(b||c)&&(d||e||f)):=by decide
  rw[show((!decide (1<=t.W/\t.W<=16)||((!Str.eqb t.Name ⟨[]⟩)&&(t.Op !=22)))||(((t.N !=0)&&(t.Op !=0))&&(t.Op !=19)))=_ from hx _ _ _ _ _ _];cases c:(decide (1<=t.W/\t.W<=16)&&(Str.eqb t.Name ⟨[]⟩||t.Op==22)&&(t.N==0||t.Op==0||t.Op==19))
  ·rw[e0,c];rfl
  ·have hw:1<=t.W/\t.W<=16:=by
    simp only[Zbt,Zb8]at c;exact c.1.1
   rw[e0,c,ifn,Zcn];exact Dw ih' (by omega) (by omega) (by omega) hw
end Go.Proofs.YtikabgjjcifidaaGreat
end
