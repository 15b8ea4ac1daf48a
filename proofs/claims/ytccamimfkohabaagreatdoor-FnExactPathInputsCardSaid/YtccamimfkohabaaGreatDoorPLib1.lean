/- Texts of this claim put into one: library or plain laws, without the program under test. -/
import Derived.Test.YtccamimfkohabaaGreatDoorLib3
import Derived.Test.YtccamimfkohabaaGreatDoorDefs
import Derived.Lib.Strings
set_option linter.unusedSimpArgs false
set_option linter.unusedVariables false
set_option linter.defProp false
section
namespace Go.Proofs.YtccamimfkohabaaGreatDoor.Cc
open Go.GL
class FU(n:Nat):Prop where
 le:1048577<=n
theorem lt_fuel{n fuel:Nat}[q:FU fuel](h:n<=1048576:=by omega):n<fuel:=by have:=q.le;omega
variable{fuel:Nat}[FU fuel]
def iab(x:Int):Int:=if x<0 then-x else x
def gateB(n:Int)(seen:List D.Gate)(g:D.Gate):Bool:=
 decide (-(n+1+(seen.length:Int))<=g.A/\g.A<=n+1+seen.length)&&decide (-(n+1+(seen.length:Int))<=g.B/\g.B<=n+1+seen.length)&&decide (2<=iab g.A)&&decide (iab g.A<iab g.B)&& !(seen.contains g)
def WC{a:Int}(h:fitInt a)(h':-1000<=a):Z6 a=some (iab a):=by
 unfold Z6 iab;by_cases c:a<0
 ·rw[Zei aA,Zei c,Zb];simp
 grind
theorem Xf{a:Int}(h:fitInt a)(h':-1000<=a):Y4 a=some (iab a):=by
 unfold Y4 iab;by_cases c:a<0
 ·rw[Zei aA,Zei c,Zb];simp
 grind
theorem Ag{l:List D.Gate}{g:D.Gate}(hb:l.length<=1048576):
  iterN (λ(s2:Int)=>if(decide (s2<(len l)))then(get? l s2).bind λx9=>if(decide (g=x9))then some (.inr (.inr false))else some (.inl ((w64 (s2+1))))else some (.inr (.inl ()))) fuel 0=some (if l.contains g then .inr false else(.inl ():Unit⊕Bool)):=by
 rw[Ux (I:=λk s=>s=(k:Int)) (m:=l.length) (ok:=λk=>decide (l[k]? ≠some g)) (r:=.inl ()) (r':=.inr false) (λk s hk hs hok=>?_) (λk s hk hs hok=>?_) (λs hs=>?_) l.length 0 _ O U fuel (lt_fuel hb)]
 ·have:((List.range' 0 l.length).all λk=>decide (l[k]? ≠some g))= !(l.contains g):=by
   cases hc:l.contains g with
   |true=>
    simp_all[List.contains_eq_mem,Zeq,ZeZ,Zej,Zep,List.all_eq_false,ZfM]
   |false=>
    grind
  simp_all
 ·subst hs;refine⟨_,?_,rfl⟩;rw[Zei aj,get?_nat,Zef hk];simp only[Zee];rw[Zem an,Zb];rfl
 all_goals simp_all[Zei,Za,get?_nat,Zef,Zee,Zem]
def gateAt(x:D.Circuit)(k:Nat):Bool:=match x.Gates[k]? with|some g=>gateB x.Inputs (x.Gates.take k) g|none=>false
def circB2(x:D.Circuit):Bool:=decide (0<=x.Inputs/\x.Inputs<=30)&&decide ((x.Gates.length:Int)<=360)&&(List.range' 0 x.Gates.length).all (gateAt x)
def fitK{g:D.Gate}(h:Qk g):Yo g=true:=by
 obtain⟨h1,h2⟩:=h;unfold fitInt at h1 h2;simp_all[Yo,fitZ,Lit.wf,IntKind.min,IntKind.max,Zek,IntKind.bits,IntKind.signed]
def Ar{x:D.Circuit}(hx:Sa x)(hl:x.Gates.length<=1048576):Vx fuel x=some (circB2 x):=by
 unfold Vx circB2;simp only[Zc,Zee];by_cases c:(0<=x.Inputs/\x.Inputs<=30)/\(x.Gates.length:Int)<=360
 ·obtain⟨⟨h0,h1⟩,hl3⟩:=c;rw[Zem aj];rw[Ux (I:=λk s=>s=(k:Int)) (m:=x.Gates.length) (ok:=gateAt x) (r:=.inl ()) (r':=.inr false) (λk s hk hs hok=>?_) (λk s hk hs hok=>?_) (λs hs=>?_) x.Gates.length 0 _ O U fuel (lt_fuel hl)]
  ·grind
  rotate_left 2
  ·subst hs;rw[Zem ao]
  all_goals
   subst hs;have hfit:Qk x.Gates[k]:=hx.2.2 _ (ZeI hk);have hlt:(x.Gates.take k).length=k:=by simp;omega
   have hcut:cut? x.Gates 0 (k:Int)=some (x.Gates.take k):=by
    unfold cut?;rw[Zei ⟨by omega,by omega,by omega⟩];simp
   unfold gateAt gateB at hok;rw[Zef hk]at hok;simp only[hlt]at hok;rw[Zei aj,get?_nat,Zef hk];generalize x.Gates[k]=g at hfit hok⊢;have hA:=λh=>WC hfit.1 h;have hB:=λh=>WC hfit.2 h;simp only[Zee,hcut];rw[Zb (x:=x.Inputs+1),Zb (x:=x.Inputs+1+(k:Int)),Zb (x:=0-(x.Inputs+1+(k:Int))) O O,Zb (x:=(k:Int)+1)];simp only[Ag (fuel:=fuel) (show(x.Gates.take k).length<=1048576 by omega)]
  ·refine⟨((k+1:Nat):Int), ?_,rfl⟩;grind(splits:=30)
  ·grind(splits:=30)
 ·rw[Zei ah];grind
theorem Aq{l:List D.Gate}{g:D.Gate}:((l.reverse.map λq=>(q,true)).lookup g).getD false=l.contains g:=by
 have key:∀m:List D.Gate,((m.map λq=>(q,true)).lookup g).getD false=m.contains g:=by
  intro m
  induction m with
  |nil=>rfl
  |cons q m ih=>
   grind
 grind
def Av{x:D.Circuit}(hx:Sa x)(hl:x.Gates.length<=1048576):VH fuel x=some (circB2 x):=by
 unfold VH circB2;by_cases c:(0<=x.Inputs/\x.Inputs<=30)/\(x.Gates.length:Int)<=360
 ·obtain⟨⟨h0,h1⟩,hl3⟩:=c;rw[Zem aj];rw[Ux (I:=λk s=>s=((k:Int),(x.Gates.take k).reverse.map λq=>(q,true))) (m:=x.Gates.length) (ok:=gateAt x) (r:=.inl (x.Gates.reverse.map λq=>(q,true))) (r':=.inr false) (λk s hk hs hok=>?_) (λk s hk hs hok=>?_) (λs hs=>?_) x.Gates.length 0 _ O U fuel (lt_fuel hl)]
  ·grind
  rotate_left 2
  ·subst hs;simp only;rw[Zem ao,Zf1]
  all_goals
   subst hs;have hfit:Qk x.Gates[k]:=hx.2.2 _ (ZeI hk);have hlt:(x.Gates.take k).length=k:=by simp;omega
   unfold gateAt gateB at hok;rw[Zef hk]at hok;simp only[hlt]at hok
   try refine⟨(((k+1:Nat):Int),(x.Gates.take (k+1)).reverse.map λq=>(q,true)),?_,rfl⟩
   rw[Zei aj,get?_nat,Zef hk]
   try rw[Zet hk]
   generalize x.Gates[k]=g at hfit hok⊢;have hA:=λh=>Xf hfit.1 h;have hB:=λh=>Xf hfit.2 h;have lit:∀a:Int,Yy a (1+x.Inputs+(k:Int))=some (decide (a≠0∧-(1+x.Inputs+(k:Int))<=a/\a<=1+x.Inputs+(k:Int))):=by
    intro a;unfold Yy;rw[Zb];congr 1;rw[Zf6];simp;omega
   have hg:mget? Yo false ((x.Gates.take k).reverse.map λq=>(q,true)) g=some ((x.Gates.take k).contains g):=by
    unfold mget?;rw[Zei (fitK hfit),Aq]
   have hp:mput? Yo ((x.Gates.take k).reverse.map λq=>(q,true)) g true=some ((g,true)::((x.Gates.take k).reverse.map λq=>(q,true))):=by
    unfold mput?;rw[Zei ⟨fitK hfit,by simp;unfold room;omega⟩]
   simp only[Zee,hg,hp];rw[Zb (x:=1+x.Inputs),Zb (x:=1+x.Inputs+(k:Int)),Zb (x:=(k:Int)+1)];simp only[lit,Zee];grind(splits:=30) [iab]
 ·rw[Zei ah];grind
end Go.Proofs.YtccamimfkohabaaGreatDoor.Cc
end
section
namespace Go.Proofs.YtccamimfkohabaaGreatDoor.Cc
open Go.GL
variable{fuel:Nat}[FU fuel]
theorem Ku{σt ρt:Type}{B:σt->Option (σt⊕ρt)}{I:Nat->σt->Prop}{m:Nat}{ok:Nat->Bool}{r:ρt}{r':Nat->ρt}(hs:∀k s,k<m->I k s->ok k=false->∃s',B s=some (.inl s')/\I (k+1) s')(hn:∀k s,k<m->I k s->ok k=true->B s=some (.inr (r' k)))
  (hf:∀s,I m s->B s=some (.inr r)):∀(d k:Nat)(s:σt),k+d=m->I k s->∀n,d<n->iterN B n s=some (match(List.range' k d).find? ok with|some i=>r' i|none=>r)
 |0,k,s,hk,hi,n,hn'=>by
  obtain⟨n,rfl⟩:∃j,n=j+1:=⟨n-1,by omega⟩;simp_all[iterN]
 | d+1,k,s,hk,hi,n,hn'=>by
  obtain⟨n,rfl⟩:∃j,n=j+1:=⟨n-1,by omega⟩;unfold iterN;rw[Zgd];cases hok:ok k with
  |false=>
   obtain⟨s',h1,h2⟩:=hs k s O hi hok;rw[h1];simp only;rw[Ku hs hn hf d (k+1) s' O h2 n O,ZgE,hok]
  |true=>
   grind
def find(l:List D.Gate)(g:D.Gate):Option Nat:=(List.range' 0 l.length).find? λi=>decide (l[i]? =some g)
def BP{l:List D.Gate}{g:D.Gate}{i:Nat}(h:find l g=some i):i<l.length/\l[i]? =some g:=by
 have:=List.find?_some h;grind
def IC{l:List D.Gate}{g:D.Gate}:find l g=none↔g∉l:=by
 unfold find;simp_all[ZfM,ZfV,Zfi,Zha,Zeq,ZeZ,Zej,Zel]
theorem BL{l:List D.Gate}{g h:D.Gate}:find (l++[h]) g=(find l g).or (if g=h then some l.length else none):=by
 unfold find;rw[Zeo,Zfk,List.range'_concat,List.find?_append];congr 1
 ·have:∀n,n<=l.length->∀k,k+n<=l.length->(List.range' k n).find? (λi=>decide ((l++[h])[i]? =some g))=(List.range' k n).find? (λi=>decide (l[i]? =some g)):=by
   intro n
   induction n with
   |zero=>simp
   |succ n ih=>
    grind[List.range'_succ,List.getElem?_append_left]
  simp_all
 grind
def lines(c:D.Circuit):Int:=c.Inputs+1+c.Gates.length
def litN(n x:Int):Bool:=decide (1<=iab x)&&decide (iab x<=n)
theorem litN_iff{n x:Int}:litN n x=true↔1<=iab x/\iab x<=n:=by simp[litN]
theorem Uq(x:Int):iab (-x)=iab x:=by grind[iab]
theorem ZR{n x:Int}:litN n (-x)=litN n x:=by simp[litN,Uq]
def litN_mono{n n' x:Int}(h:litN n x=true)(hn:n<=n'):litN n' x=true:=by grind[litN_iff]
structure CircP(c:D.Circuit):Prop where
 i0:0<=c.Inputs
 i1:c.Inputs<=30
 len:c.Gates.length<=360
 gate:∀k g,c.Gates[k]? =some g->gateB c.Inputs (c.Gates.take k) g=true
def circP_iff{c:D.Circuit}:circB2 c=true↔CircP c:=by
 unfold circB2;simp only[Zek,Zeq,Zev,ZfM,ZfV,Zfi,Zha];constructor
 ·rintro⟨⟨⟨h1,h2⟩,h3⟩,h4⟩;refine⟨h1,h2,by omega,λk g hg=>?_⟩;grind[List.getElem?_eq_some_iff,gateAt]
 ·rintro⟨h1,h2,h3,h4⟩;grind[gateAt,List.getElem?_eq_getElem]
def CircP.lines0{c:D.Circuit}(h:CircP c):1<=lines c:=by have:=h.i0;grind[lines]
def CircP.lines1{c:D.Circuit}(h:CircP c):lines c<=391:=by have:=h.i1;have:=h.len;grind[lines]
def Qe{n:Int}{l:List D.Gate}{g:D.Gate}:gateB n l g=true↔(-(n+1+(l.length:Int))<=g.A/\g.A<=n+1+l.length)/\(-(n+1+(l.length:Int))<=g.B/\g.B<=n+1+l.length)/\2<=iab g.A/\iab g.A<iab g.B/\g∉l:=by
 simp[gateB,Zek,Zeq,Zfp,List.contains_eq_mem,decide_eq_false_iff_not,and_assoc]
def CircP.fit{c:D.Circuit}(h:CircP c):Sa c:=by
 refine⟨by have:=h.i0;have:=h.i1;grind[fitInt],by have:=h.len;omega,λg hg=>?_⟩;obtain⟨k,hk⟩:=ZeZ.1 hg;have h1:=Qe.1 (h.gate k g hk);have h2:=h.len;have h3:=h.i1;grind[List.length_take,Qk,fitInt]
def CircP.snoc{c:D.Circuit}(h:CircP c){g:D.Gate}(hl:c.Gates.length<360)(hg:gateB c.Inputs c.Gates g=true):CircP ⟨c.Inputs,c.Gates++[g]⟩:=by
 refine⟨h.i0,h.i1,by simp;omega,λk x hx=>?_⟩;by_cases hk:k<c.Gates.length
 ·rw[ZeD hk]at hx;rw[List.take_append_of_le_length O];exact h.gate k x hx
 grind
def CircP.find_take{c:D.Circuit}(h:CircP c){k:Nat}{g:D.Gate}(hk:c.Gates[k]? =some g):find (c.Gates.take k) g=none:=IC.2 (Qe.1 (h.gate k g hk)).2.2.2.2
structure Grow(c c':D.Circuit):Prop where
 inputs:c'.Inputs=c.Inputs
 gates:c.Gates<+:c'.Gates
def Grow.refl(c:D.Circuit):Grow c c:=⟨rfl,List.prefix_rfl⟩
def Grow.trans{a b c:D.Circuit}(h:Grow a b)(k:Grow b c):Grow a c:=⟨k.1.trans h.1,h.2.trans k.2⟩
def Grow.lines{c c':D.Circuit}(h:Grow c c'):lines c<=lines c':=by
 have:=h.2.length_le;have:=h.1;unfold Proofs.YtccamimfkohabaaGreatDoor.Cc.lines;omega
def gate2(a b:Int):D.Gate:=if iab a>iab b then⟨b,a⟩else⟨a,b⟩
abbrev BS:=D.Circuit×Bool
def andP(s:BS)(a b:Int):Int×BS:=
 if a=-1\/b=-1\/a=-b then(-1,s)else if a=1 then(b,s)else if b=1\/a=b then(a,s)else
 match find s.1.Gates (gate2 a b)with
 |some i=>(s.1.Inputs+2+i,s)
 |none=>if 360<=s.1.Gates.length then(-1,(s.1,true))else(s.1.Inputs+2+s.1.Gates.length,(⟨s.1.Inputs,s.1.Gates++[gate2 a b]⟩,s.2))
def ZaF{s:BS}(hs:CircP s.1){a b:Int}(ha:litN (lines s.1) a=true)(hb:litN (lines s.1) b=true)(h1:¬(a=-1\/b=-1\/a=-b))(h2:¬a=1)(h3:¬(b=1\/a=b))(hf:find s.1.Gates (gate2 a b)=none):gateB s.1.Inputs s.1.Gates (gate2 a b)=true:=by
 rw[Qe];have hn:=IC.1 hf;rw[litN_iff]at ha hb;have hl:lines s.1=s.1.Inputs+1+s.1.Gates.length:=rfl;grind[gate2,iab]
def Zcx{s:BS}(hs:CircP s.1){a b:Int}(ha:litN (lines s.1) a=true)(hb:litN (lines s.1) b=true):
  CircP (andP s a b).2.1/\Grow s.1 (andP s a b).2.1/\litN (lines (andP s a b).2.1) (andP s a b).1=true:=by
 have h1n:=hs.lines0;have hi:=hs.i0;unfold andP;split
 ·simp_all[Grow.refl,litN_iff,iab]
 ·rename_i c1;split
  ·simp_all[Grow.refl]
  ·rename_i c2;split
   ·simp_all[Grow.refl]
   ·rename_i c3;split
    ·rename_i i hf;refine⟨hs,Grow.refl _,litN_iff.2 ?_⟩;have:=(BP hf).1;grind[iab,lines]
    ·rename_i hf;split
     ·simp_all[Grow.refl,litN_iff,iab]
     ·refine⟨hs.snoc O (ZaF hs ha hb c1 c2 c3 hf),⟨rfl,List.prefix_append _ _⟩,litN_iff.2 ?_⟩;grind[iab,lines]
theorem Xz{n a:Int}(h:litN n a=true)(hn:n<=391):fitInt a∧-1000<=a:=by
 grind[litN_iff,iab,fitInt]
def Zak(a b:Int):(D.Gate.mk (cond (decide (iab a>iab b)) b a) (cond (decide (iab a>iab b)) a b))=gate2 a b:=by
 grind[gate2]
def dec3{a b:Int}(hb:-1000<=b/\b<=1000):((((a==(-1))||(b==(-1)))||(a==(w64 (0-b))))=true)↔(a=-1\/b=-1\/a=-b):=by
 grind[Zb]
theorem TI{s:BS}(hs:CircP s.1){a b:Int}(ha:litN (lines s.1) a=true)(hb:litN (lines s.1) b=true):
  Zk fuel ⟨s.1,s.2⟩ a b=some ((andP s a b).1,⟨(andP s a b).2.1,(andP s a b).2.2⟩):=by
 have hln:=hs.lines1;have hi0:=hs.i0;have hi1:=hs.i1;have hlen:=hs.len;have fa:=Xz ha hln;have fb:=Xz hb hln;have hb2:=litN_iff.1 hb;have hbb:-1000<=b/\b<=1000:=by grind[iab]
 unfold Zk andP;by_cases c1:a=-1\/b=-1\/a=-b
 ·rw[Zei ((dec3 hbb).2 c1),Zei c1]
 rw[Zem (λh=>c1 ((dec3 hbb).1 h)),Zem c1];by_cases c2:a=1
 ·simp_all
 rw[Zem ag,Zem c2];by_cases c3:b=1\/a=b
 ·simp_all
 rw[Zem ag,Zem c3];simp only[WC fa.1 fa.2,WC fb.1 fb.2,Zee,Zak];rw[Ku (I:=λk t=>t=(k:Int)) (m:=s.1.Gates.length) (ok:=λk=>decide (s.1.Gates[k]? =some (gate2 a b))) (r:=.inl ()) (r':=λk=>.inr (s.1.Inputs+2+k,⟨s.1,s.2⟩)) (λk t hk ht hok=>?_) (λk t hk ht hok=>?_) (λt ht=>?_) s.1.Gates.length 0 _ O U fuel lt_fuel]
 ·show Option.bind (some (match find s.1.Gates (gate2 a b)with|some i=>_|none=>_)) _=_;cases hf:find s.1.Gates (gate2 a b)with
  |some i=>rfl
  | none=>
   simp only[Zee];by_cases c4:360<=s.1.Gates.length
   ·rw[Zei aD,Zei c4]
   ·have happ:app? s.1.Gates [gate2 a b]=some (s.1.Gates++[gate2 a b]):=by
     unfold app?;rw[Zei aO]
    grind[Za,List.length_append,List.length_singleton,Zb]
 all_goals subst ht
 ·refine⟨((k+1:Nat):Int), ?_,rfl⟩;rw[Zei aj,get?_nat,Zef hk];simp only[Zee];rw[Zem an,Zb];rfl
 ·rw[Zei aj,get?_nat,Zef hk];simp only[Zee];rw[Zei ag,Zb (x:=s.1.Inputs+2),Zb]
 simp[Zem,Za]
structure LineOk(n:Int)(l:List D.Gate)(m:List (D.Gate×Int)):Prop where
 look:∀g,m.lookup g=(find l g).map λ(i:Nat)=>n+2+(i:Int)
 len:m.length=l.length
theorem LineOk.nil(n:Int):LineOk n [] []:=⟨λ_=>rfl,rfl⟩
def LineOk.snoc{n:Int}{l:List D.Gate}{m:List (D.Gate×Int)}(h:LineOk n l m){g:D.Gate}(hg:find l g=none):LineOk n (l++[g]) ((g,n+2+(l.length:Int))::m):=by
 refine⟨λx=>?_,by simp[h.len]⟩;rw[ZeG,BL];by_cases e:x=g
 ·simp_all
 ·have:(x==g)=false:=by simpa using e
  rw[this,Zem e,h.look x];simp
structure RelB(m:D.builder)(s:BS):Prop where
 c:m.c=s.1
 full:m.full=s.2
 line:LineOk s.1.Inputs s.1.Gates m.line
def ZaK{a b:Int}(ha:fitInt a)(hb:fitInt b):Yo (gate2 a b)=true:=by
 refine fitK ?_;unfold gate2;split
 ·exact⟨hb,ha⟩
 ·exact⟨ha,hb⟩
def Bl{a:Int}(h:fitInt a):fitZ a=true:=by
 simp_all[fitInt,fitZ,Lit.wf,IntKind.min,IntKind.max,Zek,IntKind.bits,IntKind.signed]
theorem Tz{m:D.builder}{s:BS}(hr:RelB m s)(hs:CircP s.1){a b:Int}(ha:litN (lines s.1) a=true)(hb:litN (lines s.1) b=true):
  ∃m',Zl m a b=some ((andP s a b).1,m')/\RelB m' (andP s a b).2:=by
 obtain⟨mc,ml,mf⟩:=m;obtain⟨sc,sf⟩:=s;obtain⟨hc,hf,hl⟩:=hr;simp only at hc hf hl;subst hc;subst hf;simp only at hs ha hb;have hln:=hs.lines1;have hi0:=hs.i0;have hi1:=hs.i1;have hlen:=hs.len;have fa:=Xz ha hln;have fb:=Xz hb hln;have hb2:=litN_iff.1 hb;have hbb:-1000<=b/\b<=1000:=by grind[iab]
 unfold Zl andP;by_cases c1:a=-1\/b=-1\/a=-b
 ·rw[Zei ((dec3 hbb).2 c1),Zei c1];exact⟨_,rfl,⟨rfl,rfl,hl⟩⟩
 rw[Zem (λh=>c1 ((dec3 hbb).1 h)),Zem c1];by_cases c2:a=1
 ·rw[Zei ag,Zei c2];exact⟨_,rfl,⟨rfl,rfl,hl⟩⟩
 rw[Zem ag,Zem c2];by_cases c3:b=1\/a=b
 ·rw[Zei ag,Zei c3];exact⟨_,rfl,⟨rfl,rfl,hl⟩⟩
 rw[Zem ag,Zem c3];simp only[Xf fa.1 fa.2,Xf fb.1 fb.2,Zee];have hgf:=ZaK fa.1 fb.1;have hgm:mget2? Yo (0:Int) ml (gate2 a b)=some (((find mc.Gates (gate2 a b)).map λ(i:Nat)=>mc.Inputs+2+(i:Int)).getD 0,((find mc.Gates (gate2 a b)).map λ(i:Nat)=>mc.Inputs+2+(i:Int)).isSome):=by
  unfold mget2?;rw[Zei hgf,hl.look]
 rw[show(if decide (iab a>iab b)=true then some (b,a)else some (a,b))=some ((gate2 a b).A,(gate2 a b).B) by grind[gate2]];simp only[Zee];rw[hgm];cases hf:find mc.Gates (gate2 a b)with
 |some i=>exact⟨_,rfl,⟨rfl,rfl,hl⟩⟩
 | none=>
  simp only[Zee,Option.map_none,Zgr,Zeg,Zen];by_cases c4:360<=mc.Gates.length
  ·rw[Zei aD,Zei c4];exact⟨_,rfl,⟨rfl,rfl,hl⟩⟩
  ·rw[Zem aD,Zem c4];have happ:app? mc.Gates [gate2 a b]=some (mc.Gates++[gate2 a b]):=by
    unfold app?;rw[Zei aO]
   have hlo:X5 (D.Circuit.mk mc.Inputs (mc.Gates++[gate2 a b]))=some (mc.Inputs+2+mc.Gates.length):=by
    grind[X5,Za,List.length_append,List.length_singleton,Zb]
   have hpt:mputE? Yo fitZ ml (gate2 a b) (mc.Inputs+2+mc.Gates.length)=some ((gate2 a b,mc.Inputs+2+(mc.Gates.length:Int))::ml):=by
    unfold mputE?;rw[Zei ⟨hgf,Bl (by grind[fitInt]),by rw[hl.len];grind[room]⟩]
   simp only[happ,hlo,hpt,Zee];exact⟨_,rfl,⟨rfl,rfl,hl.snoc hf⟩⟩
end Go.Proofs.YtccamimfkohabaaGreatDoor.Cc
end
section
namespace Go.Proofs.YtccamimfkohabaaGreatDoor.Cc
open Go.GL
variable{fuel:Nat}[FU fuel]
def Iq{l:List Int}(h:l.length<=1048576):WG fuel l=some l:=by
 grind[WG,mk?_len,room,OC,lt_fuel]
def Mt{p q:List Int}(h:p.length<=1048576):Wl fuel p q=some (decide (p=q)):=Kb O (lt_fuel h)
def upI(k:Int)(L:Nat):List Int:=(List.range L).map λ(j:Nat)=>k+(j:Int)
def Nh(k:Int)(L:Nat):(upI k L).length=L:=by simp[upI]
def Hg{k:Int}{L i:Nat}(h:i<L):(upI k L)[i]? =some (k+(i:Int)):=by simp[upI,h]
def Rl{p:List Int}{k:Int}(hk:0<=k)(hb:k<=4000000000000)(hp:p.length<=1048576):Xd fuel p k=some (k+p.length,upI k p.length):=by
 unfold Xd;rw[Z5 (I:=λi s=>s=(k+(i:Int),(i:Int),pre (λ(j:Nat)=>k+(j:Int)) p i)) (m:=p.length) (r:=(k+(p.length:Int),upI k p.length)) (λi s hi hs=>?_) (λs hs=>?_) p.length 0 _ O (by simp[Kv]) fuel (lt_fuel hp)]
 ·rfl
 ·subst hs;rw[Zei aj,set?_nat (by grind[Gd]),Gg hi];grind[Zb]
 ·subst hs;rw[Zem (by simp[Za]),Hz];rfl
def MI{L:Nat}{k:Int}(hk:0<=k)(hb:k<=4000000000000)(hp:L<=1048576):X8 fuel (upI k L) k=some (k+L):=by
 unfold X8;rw[Z5 (I:=λi s=>s=(k+(i:Int),(i:Int))) (m:=L) (r:=.inl (k+(L:Int))) (λi s hi hs=>?_) (λs hs=>?_) L 0 _ O U fuel (lt_fuel hp)]
 ·rfl
 ·subst hs;rw[Zei (by simp_all[Za,Nh]),get?_nat,Hg hi];simp only[Zee];rw[ifn,Zb,Zb];grind
 simp_all[Zem,Za,Nh]
abbrev net(s:BS):D.l04Net:=⟨s.1,s.2⟩
structure Good(s:BS)(r:Int×BS):Prop where
 circ:CircP r.2.1
 grow:Grow s.1 r.2.1
 lit:litN (lines r.2.1) r.1=true
def SpecOp(f:D.l04Net->Option (Int×D.l04Net))(s:BS)(r:Int×BS):Prop:=f (net s)=some (r.1,net r.2)
def ImplOp(f:D.builder->Option (Int×D.builder))(s:BS)(r:Int×BS):Prop:=∀m,RelB m s->∃m',f m=some (r.1,m')/\RelB m' r.2
def orP(s:BS)(a b:Int):Int×BS:=let r:=andP s (-a) (-b);(-r.1,r.2)
def xorP(s:BS)(a b:Int):Int×BS:=let p:=andP s a (-b);let q:=andP p.2 (-a) b;orP q.2 p.1 q.1
def ifP(s:BS)(c a b:Int):Int×BS:=let p:=andP s c a;let q:=andP p.2 (-c) b;orP q.2 p.1 q.1
def Yh{n x:Int}(h:litN n x=true)(hn:n<=391):w64 (0-x)=-x:=by
 grind[Xz,litN_iff,iab,Zb]
section
variable{s:BS}(hs:CircP s.1)
include hs
theorem YT{a b:Int}(ha:litN (lines s.1) a=true)(hb:litN (lines s.1) b=true):Good s (andP s a b):=by
 obtain⟨h1,h2,h3⟩:=Zcx hs ha hb;exact⟨h1,h2,h3⟩
theorem LM{a b:Int}(ha:litN (lines s.1) a=true)(hb:litN (lines s.1) b=true):Good s (orP s a b):=by
 obtain⟨h1,h2,h3⟩:=YT hs (a:=-a) (b:=-b) ap ap;exact⟨h1,h2,by simp_all[orP,ZR]⟩
theorem LP{a b:Int}(ha:litN (lines s.1) a=true)(hb:litN (lines s.1) b=true):SpecOp (λn=>Zw fuel n a b) s (orP s a b):=by
 have hn:=hs.lines1;have g:=YT hs (a:=-a) (b:=-b) ap ap;unfold SpecOp Zw orP;simp only;rw[Yh ha hn,Yh hb hn,TI hs ap ap];simp only[Zee];rw[Yh g.lit g.circ.lines1]
theorem Ls{a b:Int}(ha:litN (lines s.1) a=true)(hb:litN (lines s.1) b=true):ImplOp (λm=>ZH m a b) s (orP s a b):=by
 intro m hm;have hn:=hs.lines1;have g:=YT hs (a:=-a) (b:=-b) ap ap;obtain⟨m',h1,h2⟩:=Tz hm hs (a:=-a) (b:=-b) ap ap;refine⟨m',?_,h2⟩;unfold ZH orP;simp only;rw[Yh ha hn,Yh hb hn,h1];simp only[Zee];rw[Yh g.lit g.circ.lines1]
theorem if_good{c a b:Int}(hc:litN (lines s.1) c=true)(ha:litN (lines s.1) a=true)(hb:litN (lines s.1) b=true):Good s (ifP s c a b):=by
 have g1:=YT hs hc ha;have g2:=YT g1.circ (a:=-c) (b:=b) (by rw[ZR];exact litN_mono hc g1.grow.lines) (litN_mono hb g1.grow.lines);have g3:=LM g2.circ (a:=(andP s c a).1) (b:=(andP (andP s c a).2 (-c) b).1) (litN_mono g1.lit g2.grow.lines) g2.lit;exact⟨g3.circ,(g1.grow.trans g2.grow).trans g3.grow,g3.lit⟩
theorem IU{c a b:Int}(hc:litN (lines s.1) c=true)(ha:litN (lines s.1) a=true)(hb:litN (lines s.1) b=true):((Zk fuel (net s) c a).bind λx1=>(Zk fuel x1.2 (w64 (0-c)) b).bind λx2=>(Zw fuel x2.2 x1.1 x2.1).bind λx3=>some (x3.1,x3.2))=some ((ifP s c a b).1,net (ifP s c a b).2):=by
 have g1:=YT hs hc ha;have hc':litN (lines (andP s c a).2.1) (-c)=true:=by rw[ZR];exact litN_mono hc g1.grow.lines
 have g2:=YT g1.circ (a:=-c) (b:=b) hc' (litN_mono hb g1.grow.lines);rw[TI hs hc ha];simp only[Zee];rw[Yh hc hs.lines1,TI g1.circ hc' (litN_mono hb g1.grow.lines)];simp only[Zee];have h3:Zw fuel _ _ _=_:=LP (fuel:=fuel) g2.circ (a:=(andP s c a).1) (b:=(andP (andP s c a).2 (-c) b).1) (litN_mono g1.lit g2.grow.lines) g2.lit;rw[h3];rfl
theorem Ic{c a b:Int}(hc:litN (lines s.1) c=true)(ha:litN (lines s.1) a=true)(hb:litN (lines s.1) b=true):∀m,RelB m s->∃m',((Zl m c a).bind λx1=>(Zl x1.2 (w64 (0-c)) b).bind λx2=>(ZH x2.2 x1.1 x2.1).bind λx3=>some (x3.1,x3.2))=some ((ifP s c a b).1,m')/\RelB m' (ifP s c a b).2:=by
 intro m hm;have g1:=YT hs hc ha;have hc':litN (lines (andP s c a).2.1) (-c)=true:=by rw[ZR];exact litN_mono hc g1.grow.lines
 have g2:=YT g1.circ (a:=-c) (b:=b) hc' (litN_mono hb g1.grow.lines);obtain⟨m1,e1,r1⟩:=Tz hm hs hc ha;obtain⟨m2,e2,r2⟩:=Tz r1 g1.circ hc' (litN_mono hb g1.grow.lines);obtain⟨m3,e3,r3⟩:=Ls g2.circ (a:=(andP s c a).1) (b:=(andP (andP s c a).2 (-c) b).1) (litN_mono g1.lit g2.grow.lines) g2.lit m2 r2;unfold ifP;rw[e1];simp only[Zee];rw[Yh hc hs.lines1,e2];simp_all
theorem spec_if{c a b:Int}(hc:litN (lines s.1) c=true)(ha:litN (lines s.1) a=true)(hb:litN (lines s.1) b=true):SpecOp (λn=>ZJ fuel n c a b) s (ifP s c a b):=by
 grind[SpecOp,ZJ,IU]
theorem Zdi{c a b:Int}(hc:litN (lines s.1) c=true)(ha:litN (lines s.1) a=true)(hb:litN (lines s.1) b=true):ImplOp (λm=>ZN m c a b) s (ifP s c a b):=by
 grind[ImplOp,ZN,Ic]
theorem VZ{a b:Int}(ha:litN (lines s.1) a=true)(hb:litN (lines s.1) b=true):Good s (xorP s a b):=
 if_good hs (c:=a) (a:=-b) (b:=b) ha ap hb
theorem Np{a b:Int}(ha:litN (lines s.1) a=true)(hb:litN (lines s.1) b=true):SpecOp (λn=>Zr fuel n a b) s (xorP s a b):=by
 have h:=IU (fuel:=fuel) hs (c:=a) (a:=-b) (b:=b) ha ap hb;unfold Zr;rw[Yh hb hs.lines1];exact h
theorem Ny{a b:Int}(ha:litN (lines s.1) a=true)(hb:litN (lines s.1) b=true):ImplOp (λm=>Z8 m a b) s (xorP s a b):=by
 intro m hm;obtain⟨m',e,r⟩:=Ic hs (c:=a) (a:=-b) (b:=b) ha ap hb m hm;refine⟨m',?_,r⟩;unfold Z8;rw[Yh hb hs.lines1];exact e
end
def Oq{n x:Int}(hn:0<=n):(decide (x≠0)&&(decide (-n<=x)&&decide (x<=n)))=litN n x:=by
 grind[litN,iab]
theorem Zav{l:List Int}{n:Int}(h0:0<=n)(h1:n<=1000)(hl:l.length<=1048576):X0 fuel l n=some (l.all (litN n)):=by
 unfold X0;rw[Ux (I:=λk t=>t=(k:Int)) (m:=l.length) (ok:=λk=>(l[k]?).all (litN n)) (r:=.inl ()) (r':=.inr false) (λk t hk ht hok=>?_) (λk t hk ht hok=>?_) (λt ht=>?_) l.length 0 _ O U fuel (lt_fuel hl)]
 ·have:((List.range' 0 l.length).all λk=>(l[k]?).all (litN n))=l.all (litN n):=by
   grind[List.mem_iff_getElem?,List.getElem?_eq_some_iff,List.getElem?_eq_getElem,List.getElem_mem]
  grind
 all_goals subst ht
 ·refine⟨((k+1:Nat):Int), ?_,rfl⟩;rw[Zei aj,get?_nat,Zef hk];rw[Zef hk]at hok;simp only[Zgm]at hok;rw[<-Oq h0]at hok;simp only[Zek,Zeq]at hok;simp only[Zee];rw[Zem ag,Zc,Zb (x:=0-n)];simp only[Zee];rw[Zem aa,Zb];rfl
 ·rw[Zei aj,get?_nat,Zef hk];rw[Zef hk]at hok;simp only[Zgm]at hok;rw[<-Oq h0]at hok;simp only[Zee];by_cases c:l[k]=0
  ·simp_all
  ·rw[Zem aA,Zc,Zb (x:=0-n)];simp_all
 simp[Zem,Za]
def Ot{x n:Int}(h0:0<=n)(h1:n<=1000):Yy x n=some (litN n x):=by
 unfold Yy;rw[Zb,<-Oq h0,Bool.and_assoc];grind
theorem Ql{l:List Int}{n:Int}(h0:0<=n)(h1:n<=1000)(hl:l.length<=1048576):Y3 fuel l n=some (l.all (litN n)):=by
 unfold Y3;rw[Ux (I:=λk t=>t=(k:Int)) (m:=l.length) (ok:=λk=>(l[k]?).all (litN n)) (r:=.inl ()) (r':=.inr false) (λk t hk ht hok=>?_) (λk t hk ht hok=>?_) (λt ht=>?_) l.length 0 _ O U fuel (lt_fuel hl)]
 ·have:((List.range' 0 l.length).all λk=>(l[k]?).all (litN n))=l.all (litN n):=by
   grind[List.mem_iff_getElem?,List.getElem?_eq_some_iff,List.getElem?_eq_getElem,List.getElem_mem]
  grind
 all_goals subst ht
 ·refine⟨((k+1:Nat):Int), ?_,rfl⟩;rw[Zei aj,get?_nat,Zef hk];rw[Zef hk]at hok;simp only[Zgm]at hok;simp only[Zee,Ot h0 h1,hok];rw[ifn,Zb];rfl
 all_goals simp_all[Zei,Za,get?_nat,Zef,Zgm,Zee,Ot,ifp,Zem]
def Cj{c:D.Circuit}(hc:CircP c){l:List Int}(hl:l.length<=1048576):UQ fuel c l=some (l.all (litN (lines c))):=by
 have:=hc.i0;have:=hc.i1;have:=hc.len;grind[UQ,Za,Zb,Option.bind,X0,lines,Zav]
def Du{c:D.Circuit}(hc:CircP c):X5 c=some (lines c):=by
 have:=hc.i0;have:=hc.i1;have:=hc.len;grind[X5,Za,Zb,lines]
def spec_new{c:D.Circuit}(hc:CircP c):TZ c=some (net (c,false)):=by
 have:=hc.len;unfold TZ;have:app? ([]:List D.Gate) c.Gates=some c.Gates:=by
  simp_all[app?,Zei,room]<;>grind
 simp_all
theorem impl_new{c:D.Circuit}(hc:CircP c):∃m,WY fuel c=some m/\RelB m (c,false):=by
 have h0:=hc.i0;have h1:=hc.i1;have h2:=hc.len;have hcl:Z7 c.Gates=some c.Gates:=by
  simp_all[Z7,app?,Zei,room]<;>grind
 let mk:Nat->List (D.Gate×Int):=λk=>((List.range k).reverse.map λi=>(c.Gates.getD i default,c.Inputs+2+(i:Int)))
 have hmk:∀k,k<c.Gates.length->mk (k+1)=(c.Gates.getD k default,c.Inputs+2+(k:Int))::mk k:=by
  grind[List.range_succ,List.reverse_append,List.reverse_singleton,List.singleton_append]
 have hln:∀k,k<=c.Gates.length->LineOk c.Inputs (c.Gates.take k) (mk k):=by
  intro k
  induction k with
  |zero=>grind[LineOk.nil]
  | succ k ih=>
   intro hk;have hk':k<c.Gates.length:=by omega
   have hg:c.Gates[k]? =some (c.Gates.getD k default):=by
    rw[Zef hk',Zer,Zef hk'];rfl
   rw[hmk k hk',Zet hk'];have:=(ih O).snoc (hc.find_take hg);have e:c.Gates.getD k default=c.Gates[k]:=by rw[Zef hk']at hg;exact(Option.some.inj hg).symm
   rw[e]at this⊢;rw[Ze1,Nat.min_eq_left O]at this;exact this
 refine⟨⟨c,mk c.Gates.length,false⟩,?_,⟨rfl,rfl,?_⟩⟩
 ·unfold WY;rw[hcl];rw[Z5 (I:=λk t=>t=((k:Int),mk k)) (m:=c.Gates.length) (r:=mk c.Gates.length) (λk t hk ht=>?_) (λt ht=>?_) c.Gates.length 0 _ O (by simp[mk]) fuel lt_fuel]
  ·rfl
  all_goals subst ht
  ·refine⟨(((k+1:Nat):Int),mk (k+1)), ?_,rfl⟩;have hfit:Qk c.Gates[k]:=hc.fit.2.2 _ (ZeI hk);rw[Zei ah,get?_nat,Zef hk];simp only[Zee];rw[Zb (x:=2+c.Inputs),Zb (x:=2+c.Inputs+(k:Int))];have e:c.Gates.getD k default=c.Gates[k]:=by rw[Zer,Zef hk];rfl
   have hp:mputE? Yo fitZ (mk k) c.Gates[k] (2+c.Inputs+(k:Int))=some (mk (k+1)):=by
    unfold mputE?;rw[Zei ⟨fitK hfit,Bl (by unfold fitInt;omega),by rw[(hln k O).len];unfold room;simp;omega⟩,hmk k hk,e];congr 3;omega
   rw[hp];rw[Zb];rfl
  ·rw[Zem ao]
 ·have:=hln c.Gates.length (Zes _);rw[Zf1]at this;exact this
abbrev AS:=List Int×Int×BS
def addStep(t:AS)(p:Int×Int):AS:=
 let x:=xorP t.2.2 p.1 p.2
 let o:=xorP x.2 x.1 t.2.1
 let y:=andP o.2 p.1 p.2
 let z:=andP y.2 x.1 t.2.1
 let w:=orP z.2 y.1 z.1
 (t.1++[o.1],w.1,w.2)
def addP(s:BS)(a b:List Int)(c:Int):AS:=(a.zip b).foldl addStep ([],c,s)
theorem Jj{α β:Type}(f:β->α->β)(Pp:Nat->β->Prop)(l:List α)(b:β)(h0:Pp 0 b)(hs:∀k x t,l[k]? =some x->Pp k t->Pp (k+1) (f t x)):∀k,k<=l.length->Pp k ((l.take k).foldl f b):=by
 intro k
 induction k with
 |zero=>simp_all
 |succ k ih=>
  grind[List.take_succ_eq_append_getElem,List.getElem?_eq_getElem]
structure GoodA(s:BS)(k:Nat)(t:AS):Prop where
 circ:CircP t.2.2.1
 grow:Grow s.1 t.2.2.1
 lit:litN (lines t.2.2.1) t.2.1=true
 len:t.1.length=k
 lits:∀x∈t.1,litN (lines t.2.2.1) x=true
def Zbq{s:BS}{k:Nat}{t:AS}(h:GoodA s k t){p:Int×Int}(h1:litN (lines s.1) p.1=true)(h2:litN (lines s.1) p.2=true):GoodA s (k+1) (addStep t p):=by
 have a1:=litN_mono h1 h.grow.lines;have a2:=litN_mono h2 h.grow.lines;have gx:=VZ h.circ a1 a2;have go:=VZ gx.circ gx.lit (litN_mono h.lit gx.grow.lines);have e1:=gx.grow.trans go.grow;have gy:=YT go.circ (litN_mono a1 e1.lines) (litN_mono a2 e1.lines);have e2:=go.grow.trans gy.grow;have e3:=gx.grow.trans e2;have gz:=YT gy.circ (litN_mono gx.lit e2.lines) (litN_mono h.lit e3.lines);have gw:=LM gz.circ (litN_mono gy.lit gz.grow.lines) gz.lit;have e4:=gy.grow.trans (gz.grow.trans gw.grow);have e5:=e1.trans e4;refine⟨gw.circ,h.grow.trans e5,gw.lit,by simp[addStep,h.len],λx hx=>?_⟩;simp only[addStep,Zew,ZeA]at hx;rcases hx with hx|rfl
 ·exact litN_mono (h.lits x hx) e5.lines
 ·exact litN_mono go.lit e4.lines
def zip_mem{a b:List Int}{p:Int×Int}{k:Nat}(h:(a.zip b)[k]? =some p):a[k]? =some p.1/\b[k]? =some p.2:=by
 grind
def Mw{s:BS}(hs:CircP s.1){a b:List Int}{c:Int}(ha:∀x∈a,litN (lines s.1) x=true)(hb:∀x∈b,litN (lines s.1) x=true)(hc:litN (lines s.1) c=true):
  ∀k,k<=(a.zip b).length->GoodA s k (((a.zip b).take k).foldl addStep ([],c,s)):=
 Jj addStep (GoodA s) _ _ ⟨hs,Grow.refl _,hc,rfl,λ_ h=>by cases h⟩ λk p t hp ht=>Zbq ht (ha _ (Zel (zip_mem hp).1)) (hb _ (Zel (zip_mem hp).2))
def VP{s:BS}(hs:CircP s.1){a b:List Int}{c:Int}(hab:a.length=b.length)(ha:∀x∈a,litN (lines s.1) x=true)(hb:∀x∈b,litN (lines s.1) x=true)(hc:litN (lines s.1) c=true):GoodA s a.length (addP s a b c):=by
 have:=Mw hs ha hb hc (a.zip b).length (Zes _);rw[Zf1,Zga,<-hab,ZgF]at this;exact this
def Pm{s:BS}(hs:CircP s.1){a b:List Int}{c:Int}(hl:a.length<=1048576)(hab:a.length=b.length)(ha:∀x∈a,litN (lines s.1) x=true)(hb:∀x∈b,litN (lines s.1) x=true)(hc:litN (lines s.1) c=true):
  ZC fuel (net s) a b c=some ((addP s a b c).1,(addP s a b c).2.1,net (addP s a b c).2.2):=by
 have hz:(a.zip b).length=a.length:=by simp_all
 unfold ZC;rw[Z5 (I:=λk t=>t=(let r:=((a.zip b).take k).foldl addStep ([],c,s);(r.2.1,(k:Int),r.1,r.2.2.1.Inputs,r.2.2.2,r.2.2.1.Gates))) (m:=a.length) (r:=(let r:=addP s a b c;(r.2.1,r.1,r.2.2.1.Inputs,r.2.2.2,r.2.2.1.Gates))) (λk t hk ht=>?_) (λt ht=>?_) a.length 0 _ O U fuel (lt_fuel hl)]
 ·rfl
 all_goals subst ht
 ·refine⟨_, ?_,rfl⟩;have hk':k<(a.zip b).length:=by omega
  have hkb:k<b.length:=by omega
  have h:=Mw hs ha hb hc k O;rw[Zet hk',Zfm,List.getElem_zip];generalize ((a.zip b).take k).foldl addStep ([],c,s)=t at h⊢;have a1:=litN_mono (ha _ (ZeI hk)) h.grow.lines;have a2:=litN_mono (hb _ (ZeI hkb)) h.grow.lines;have gx:=VZ h.circ a1 a2;have go:=VZ gx.circ gx.lit (litN_mono h.lit gx.grow.lines);have e1:=gx.grow.trans go.grow;have gy:=YT go.circ (litN_mono a1 e1.lines) (litN_mono a2 e1.lines);have e2:=go.grow.trans gy.grow;have e3:=gx.grow.trans e2;have gz:=YT gy.circ (litN_mono gx.lit e2.lines) (litN_mono h.lit e3.lines);have sx:Zr fuel (net t.2.2) _ _=_:=Np (fuel:=fuel) h.circ a1 a2;have so:Zr fuel (net _) _ _=_:=Np (fuel:=fuel) gx.circ gx.lit (litN_mono h.lit gx.grow.lines);have sy:=TI (fuel:=fuel) go.circ (litN_mono a1 e1.lines) (litN_mono a2 e1.lines);have sz:=TI (fuel:=fuel) gy.circ (litN_mono gx.lit e2.lines) (litN_mono h.lit e3.lines);have sw:Zw fuel (net _) _ _=_:=LP (fuel:=fuel) gz.circ (litN_mono gy.lit gz.grow.lines) gz.lit;rw[Zei aj,get?_nat,get?_nat,Zef hk,Zef hkb];simp only[Zee];have sx':Zr fuel (D.l04Net.mk (D.Circuit.mk t.2.2.1.Inputs t.2.2.1.Gates) t.2.2.2) a[k] b[k]=_:=sx;rw[sx'];simp only[Zee];rw[so];simp only[Zee];have happ:app? t.1 [(xorP (xorP t.2.2 a[k] b[k]).2 (xorP t.2.2 a[k] b[k]).1 t.2.1).1]=some (t.1++[(xorP (xorP t.2.2 a[k] b[k]).2 (xorP t.2.2 a[k] b[k]).1 t.2.1).1]):=by
   unfold app?;rw[Zei (by simp[h.len];unfold room;omega)]
  rw[happ];rw[sy];simp only[Zee];rw[sz];simp only[Zee];rw[sw];rw[Zb];rfl
 simp_all[Zem,Za,addP,Zfa]
def set_fill{l:List Int}{n:Nat}{x:Int}:(l++List.replicate (n+1) 0).set l.length x=(l++[x])++List.replicate n 0:=by
 grind
theorem QY{s:BS}(hs:CircP s.1){m:D.builder}(hm:RelB m s){a b:List Int}{c:Int}(hl:a.length<=1048576)(hab:a.length=b.length)(ha:∀x∈a,litN (lines s.1) x=true)(hb:∀x∈b,litN (lines s.1) x=true)(hc:litN (lines s.1) c=true):
  ∃m',Ya fuel m a b c=some ((addP s a b c).1,(addP s a b c).2.1,m')/\RelB m' (addP s a b c).2.2:=by
 have hz:(a.zip b).length=a.length:=by simp_all
 obtain⟨mc,ml,mf⟩:=m;obtain⟨sc,sf⟩:=s;obtain⟨hc1,hf1,hl1⟩:=hm;simp only at hc1 hf1 hl1;subst hc1;subst hf1;simp only at hs ha hb hc;have main:∀(d k:Nat)(ln:List (D.Gate×Int)),k+d=a.length->
   (let r:=((a.zip b).take k).foldl addStep ([],c,(mc,mf));RelB ⟨r.2.2.1,ln,r.2.2.2⟩ r.2.2)->∀n,d<n->∃ln',
   iterN (λ(s1:Int×Int×(List Int)×Int×Bool×(List D.Gate)×(List (D.Gate×Int)))=>if(decide (s1.2.1<(len a)))then(get? a s1.2.1).bind λx2=>(get? b s1.2.1).bind λx3=>(Z8 (D.builder.mk (D.Circuit.mk s1.2.2.2.1 s1.2.2.2.2.2.1) s1.2.2.2.2.2.2 s1.2.2.2.2.1) x2 x3).bind λx4=>(Z8 x4.2 x4.1 s1.1).bind λx5=>(set? s1.2.2.1 s1.2.1 x5.1).bind λx6=>(get? a s1.2.1).bind λx7=>(get? b s1.2.1).bind λx8=>(Zl x5.2 x7 x8).bind λx9=>(Zl x9.2 x4.1 s1.1).bind λx10=>(ZH x10.2 x9.1 x10.1).bind λx11=>some (.inl (x11.1,(w64 (s1.2.1+1)),x6,x11.2.c.Inputs,x11.2.full,x11.2.c.Gates,x11.2.line))else some (.inr (s1.1,s1.2.2.1,s1.2.2.2.1,s1.2.2.2.2.1,s1.2.2.2.2.2.1,s1.2.2.2.2.2.2))) n
    (let r:=((a.zip b).take k).foldl addStep ([],c,(mc,mf));(r.2.1,(k:Int),r.1++List.replicate d 0,r.2.2.1.Inputs,r.2.2.2,r.2.2.1.Gates,ln))=
    some (let r:=addP (mc,mf) a b c;(r.2.1,r.1,r.2.2.1.Inputs,r.2.2.2,r.2.2.1.Gates,ln'))/\(let r:=addP (mc,mf) a b c;RelB ⟨r.2.2.1,ln',r.2.2.2⟩ r.2.2):=by
  intro d
  induction d with
  |zero=>
   intro k ln hk hr n hn;obtain⟨n,rfl⟩:∃j,n=j+1:=⟨n-1,by omega⟩;obtain rfl:k=a.length:=by omega
   simp_all[iterN,addP,Zfa,Zem,Za]
  | succ d ih=>
   intro k ln hk hr n hn;obtain⟨n,rfl⟩:∃j,n=j+1:=⟨n-1,by omega⟩;have hka:k<a.length:=by omega
   have hk':k<(a.zip b).length:=by omega
   have hkb:k<b.length:=by omega
   have h:=Mw (s:=(mc,mf)) hs ha hb hc k O;have ih1:=ih (k+1);rw[Zet hk',Zfm,List.getElem_zip]at ih1;generalize ((a.zip b).take k).foldl addStep ([],c,(mc,mf))=t at h hr ih1⊢;have a1:=litN_mono (ha _ (ZeI hka)) h.grow.lines;have a2:=litN_mono (hb _ (ZeI hkb)) h.grow.lines;have gx:=VZ h.circ a1 a2;have go:=VZ gx.circ gx.lit (litN_mono h.lit gx.grow.lines);have e1:=gx.grow.trans go.grow;have gy:=YT go.circ (litN_mono a1 e1.lines) (litN_mono a2 e1.lines);have e2:=go.grow.trans gy.grow;have e3:=gx.grow.trans e2;have gz:=YT gy.circ (litN_mono gx.lit e2.lines) (litN_mono h.lit e3.lines);obtain⟨m1,sx,r1⟩:=Ny h.circ a1 a2 _ hr;obtain⟨m2,so,r2⟩:=Ny gx.circ gx.lit (litN_mono h.lit gx.grow.lines) _ r1;obtain⟨m3,sy,r3⟩:=Tz r2 go.circ (litN_mono a1 e1.lines) (litN_mono a2 e1.lines);obtain⟨m4,sz,r4⟩:=Tz r3 gy.circ (litN_mono gx.lit e2.lines) (litN_mono h.lit e3.lines);obtain⟨m5,sw,r5⟩:=Ls gz.circ (litN_mono gy.lit gz.grow.lines) gz.lit _ r4;simp only at sx so sw;obtain⟨c5,l5,f5⟩:=m5;obtain⟨hc5,hf5,hl5⟩:=r5;simp only at hc5 hf5 hl5;have hnext:=ih1 l5 O (by simp only[Zgk,ZgR];exact⟨rfl,rfl,hl5⟩) n O;obtain⟨ln',hi,hrr⟩:=hnext;refine⟨ln',?_,hrr⟩;rw[<-hi]
   conv=>lhs;unfold iterN
   simp only;rw[Zei ah,get?_nat,get?_nat,Zef hka,Zef hkb];simp only[Zee];have sx':Z8 (D.builder.mk (D.Circuit.mk t.2.2.1.Inputs t.2.2.1.Gates) ln t.2.2.2) a[k] b[k]=_:=sx;rw[sx'];simp only[Zee];rw[so];simp only[Zee];have hset:∀q,set? (t.1++List.replicate (d+1) 0) (k:Int) q=some ((t.1++[q])++List.replicate d 0):=λq=>by
    have e:=set_fill (l:=t.1) (n:=d) (x:=q);rw[h.len]at e;rw[set?_nat (by simp[h.len]),e]
   rw[hset];rw[sy];simp only[Zee];rw[sz];simp only[Zee];rw[sw];rw[Zb,hc5,hf5];rfl
 obtain⟨ln',hi,hr⟩:=main a.length 0 ml O (by exact⟨rfl,rfl,hl1⟩) fuel (lt_fuel hl);refine⟨_,?_,hr⟩;unfold Ya;rw[mk?_len av];have hi':=congrArg (λr=>Option.bind r λ(rl1:Int×(List Int)×Int×Bool×(List D.Gate)×(List (D.Gate×Int)))=>some (rl1.2.1,rl1.1,(D.builder.mk (D.Circuit.mk rl1.2.2.1 rl1.2.2.2.2.1) rl1.2.2.2.2.2 rl1.2.2.2.1))) hi;exact hi'
end Go.Proofs.YtccamimfkohabaaGreatDoor.Cc
end
section
namespace Go.Proofs.YtccamimfkohabaaGreatDoor.Cc
open Go.GL
variable{fuel:Nat}[FU fuel]
end Go.Proofs.YtccamimfkohabaaGreatDoor.Cc
end
section
namespace Go.Proofs.YtccamimfkohabaaGreatDoor.Cc
open Go.GL
variable{fuel:Nat}[FU fuel]
abbrev LS:=List Int×BS
section
variable{α:Type}
def seqP(f:BS->α->Int×BS)(s:BS)(l:List α):LS:=l.foldl (λt x=>(t.1++[(f t.2 x).1],(f t.2 x).2)) ([],s)
structure GoodL(s:BS)(n:Nat)(t:LS):Prop where
 circ:CircP t.2.1
 grow:Grow s.1 t.2.1
 len:t.1.length=n
 lits:∀x∈t.1,litN (lines t.2.1) x=true
def FOk(f:BS->α->Int×BS)(s:BS)(l:List α):Prop:=∀s' x,CircP s'.1->Grow s.1 s'.1->x∈l->Good s' (f s' x)
def NW{f:BS->α->Int×BS}{s:BS}{l:List α}(hs:CircP s.1)(hf:FOk f s l):∀k,k<=l.length->GoodL s k (seqP f s (l.take k)):=
 Jj _ (GoodL s) l _ ⟨hs,Grow.refl _,rfl,λ_ h=>by cases h⟩ λk x t hx ht=>by
  have g:=hf t.2 x ht.circ ht.grow (Zel hx);refine⟨g.circ,ht.grow.trans g.grow,by simp[ht.len],λy hy=>?_⟩;simp only[Zew,ZeA]at hy;rcases hy with hy|rfl
  ·exact litN_mono (ht.lits y hy) g.grow.lines
  ·exact g.lit
def seq_good{f:BS->α->Int×BS}{s:BS}{l:List α}(hs:CircP s.1)(hf:FOk f s l):GoodL s l.length (seqP f s l):=by
 have:=NW hs hf l.length (Zes _);simp_all
def LZ{f:BS->α->Int×BS}{s:BS}{l:List α}{k:Nat}{x:α}(hx:l[k]? =some x):seqP f s (l.take (k+1))=((seqP f s (l.take k)).1++[(f (seqP f s (l.take k)).2 x).1],(f (seqP f s (l.take k)).2 x).2):=by
 grind[seqP,List.take_succ_eq_append_getElem]
def spec_seq{f:BS->α->Int×BS}{l:List α}{s:BS}{B:Int×List Int×Int×Bool×List D.Gate->Option ((Int×List Int×Int×Bool×List D.Gate)⊕(List Int×Int×Bool×List D.Gate))}(hs:CircP s.1)(hl:l.length<=1000)(hf:FOk f s l)
  (hB:∀(j:Nat)(out:List Int)(s':BS)(x:α),l[j]? =some x->CircP s'.1->Grow s.1 s'.1->out.length=j->B ((j:Int),out,s'.1.Inputs,s'.2,s'.1.Gates)=some (.inl (((j+1:Nat):Int),out++[(f s' x).1],(f s' x).2.1.Inputs,(f s' x).2.2,(f s' x).2.1.Gates)))
  (hE:∀(out:List Int)(s':BS),B (((l.length:Nat):Int),out,s'.1.Inputs,s'.2,s'.1.Gates)=some (.inr (out,s'.1.Inputs,s'.2,s'.1.Gates))):
  iterN B fuel (0,[],s.1.Inputs,s.2,s.1.Gates)=some ((seqP f s l).1,(seqP f s l).2.1.Inputs,(seqP f s l).2.2,(seqP f s l).2.1.Gates):=by
 refine Z5 (I:=λk t=>t=((k:Int),(seqP f s (l.take k)).1,(seqP f s (l.take k)).2.1.Inputs,(seqP f s (l.take k)).2.2,(seqP f s (l.take k)).2.1.Gates)) (m:=l.length) (λk t hk ht=>?_) (λt ht=>?_) l.length 0 _ O rfl fuel lt_fuel
 ·subst ht;have g:=NW hs hf k O;refine⟨_,hB k _ _ l[k] (Zef hk) g.circ g.grow g.len,?_⟩;simp_all[LZ,Zef]
 grind
theorem Oc{σt ρt:Type}{B:σt->Option (σt⊕ρt)}{I:Nat->σt->Prop}{m:Nat}{R:ρt->Prop}(hs:∀k s,k<m->I k s->∃s',B s=some (.inl s')/\I (k+1) s')(hf:∀s,I m s->∃r,B s=some (.inr r)/\R r):
  ∀(d k:Nat)(s:σt),k+d=m->I k s->∀n,d<n->∃r,iterN B n s=some r/\R r
 |0,k,s,hk,hi,n,hn=>by
  obtain⟨n,rfl⟩:∃j,n=j+1:=⟨n-1,by omega⟩;grind[iterN]
 |d+1,k,s,hk,hi,n,hn=>by
  obtain⟨n,rfl⟩:∃j,n=j+1:=⟨n-1,by omega⟩;obtain⟨s',h1,h2⟩:=hs k s O hi;obtain⟨r,h3,h4⟩:=Oc hs hf d (k+1) s' O h2 n O;simp_all[iterN]
def PD{σt ρt γ:Type}{B:σt->Option (σt⊕ρt)}{I:Nat->σt->Prop}{m:Nat}{R:ρt->Prop}{f:ρt->Option γ}{G:γ->Prop}(hs:∀k s,k<m->I k s->∃s',B s=some (.inl s')/\I (k+1) s')(hf:∀s,I m s->∃r,B s=some (.inr r)/\R r)
  (d k:Nat)(s:σt)(hk:k+d=m)(hi:I k s)(n:Nat)(hn:d<n)(hfin:∀r,R r->∃y,f r=some y/\G y):∃y,(iterN B n s).bind f=some y/\G y:=by
 obtain⟨r,h1,h2⟩:=Oc hs hf d k s hk hi n hn;simp_all
def ex_pair{α β:Type}{X:Option (α×β)}{v:α}{R:β->Prop}(h:∃y,X=some y/\∃m,y=(v,m)/\R m):∃m,X=some (v,m)/\R m:=by
 grind
def Zct{l L0:List Int}{k:Nat}{x:Int}(hl:l.length=k)(hk:k<L0.length):(l++L0.drop k).set k x=(l++[x])++L0.drop (k+1):=by
 subst hl;rw[Zfq _ _ (Zes _),ZfD,Ze8 hk,ZfF,Zez,ZeW]
end
section
variable{α σt ρt:Type}
def JW{f:BS->α->Int×BS}{l:List α}{s:BS}{B:σt->Option (σt⊕ρt)}(enc:Nat->List Int->D.builder->σt)(dec:List Int->D.builder->ρt)(hs:CircP s.1)(hl:l.length<=1000)(hf:FOk f s l){L0:List Int}(hL:L0.length=l.length)
  (hB:∀(j:Nat)(L:List Int)(m:D.builder)(s':BS)(x:α),l[j]? =some x->CircP s'.1->Grow s.1 s'.1->RelB m s'->L.length=l.length->(∀i,j<=i->L[i]? =L0[i]?)->∃m',B (enc j L m)=some (.inl (enc (j+1) (L.set j (f s' x).1) m'))/\RelB m' (f s' x).2)
  (hE:∀(L:List Int)(m:D.builder),B (enc l.length L m)=some (.inr (dec L m))){m:D.builder}(hm:RelB m s):
  ∃m',iterN B fuel (enc 0 L0 m)=some (dec (seqP f s l).1 m')/\RelB m' (seqP f s l).2:=by
 have key:∃r,iterN B fuel (enc 0 L0 m)=some r/\∃m':D.builder,r=dec (seqP f s l).1 m'/\RelB m' (seqP f s l).2:=by
  refine Oc (B:=B) (I:=λk t=>∃m':D.builder,t=enc k ((seqP f s (l.take k)).1++L0.drop k) m'/\RelB m' (seqP f s (l.take k)).2) (m:=l.length) (λk t hk ht=>?_) (λt ht=>?_) l.length 0 _ O ⟨m,rfl,hm⟩ fuel lt_fuel
  ·obtain⟨m1,rfl,hr⟩:=ht;have g:=NW hs hf k O;obtain⟨m2,h3,h4⟩:=hB k ((seqP f s (l.take k)).1++L0.drop k) m1 (seqP f s (l.take k)).2 l[k] (Zef hk) g.circ g.grow hr (by rw[Zeo,g.len,Zex];omega) (λi hi=>by rw[ZeE aM,g.len,Zfb];simp_all);refine⟨_,h3,m2,?_,?_⟩
   ·rw[LZ (Zef hk),Zct g.len O]
   simp_all[LZ,Zef]
  grind
 grind
def accP(f:BS->Int->α->Int×BS)(s:BS)(c:Int)(l:List α):Int×BS:=l.foldl (λt x=>f t.2 t.1 x) (c,s)
def AOk(f:BS->Int->α->Int×BS)(s:BS)(l:List α):Prop:=∀s' c x,CircP s'.1->Grow s.1 s'.1->litN (lines s'.1) c=true->x∈l->Good s' (f s' c x)
def NU{f:BS->Int->α->Int×BS}{s:BS}{c:Int}{l:List α}(hs:CircP s.1)(hc:litN (lines s.1) c=true)(hf:AOk f s l):∀k,k<=l.length->Good s (accP f s c (l.take k)):=
 Jj _ (λ_ t=>Good s t) l _ ⟨hs,Grow.refl _,hc⟩ λk x t hx ht=>by
  have g:=hf t.2 t.1 x ht.circ ht.grow ht.lit (Zel hx);exact⟨g.circ,ht.grow.trans g.grow,g.lit⟩
def Fx{f:BS->Int->α->Int×BS}{s:BS}{c:Int}{l:List α}(hs:CircP s.1)(hc:litN (lines s.1) c=true)(hf:AOk f s l):Good s (accP f s c l):=by
 have:=NU hs hc hf l.length (Zes _);simp_all
def GJ{f:BS->Int->α->Int×BS}{s:BS}{c:Int}{l:List α}{k:Nat}{x:α}(hx:l[k]? =some x):accP f s c (l.take (k+1))=f (accP f s c (l.take k)).2 (accP f s c (l.take k)).1 x:=by
 grind[accP,List.take_succ_eq_append_getElem]
def JU{f:BS->Int->α->Int×BS}{l:List α}{s:BS}{c:Int}{B:σt->Option (σt⊕ρt)}(enc:Nat->Int->BS->σt)(dec:Int->BS->ρt)(hs:CircP s.1)(hc:litN (lines s.1) c=true)(hf:AOk f s l)
  (hB:∀(j:Nat)(c':Int)(s':BS)(x:α),l[j]? =some x->CircP s'.1->Grow s.1 s'.1->litN (lines s'.1) c'=true->B (enc j c' s')=some (.inl (enc (j+1) (f s' c' x).1 (f s' c' x).2)))
  (hE:∀(c':Int)(s':BS),B (enc l.length c' s')=some (.inr (dec c' s'))){n:Nat}(hn:l.length<n):
  iterN B n (enc 0 c s)=some (dec (accP f s c l).1 (accP f s c l).2):=by
 refine Z5 (I:=λk t=>t=enc k (accP f s c (l.take k)).1 (accP f s c (l.take k)).2) (m:=l.length) (λk t hk ht=>?_) (λt ht=>?_) l.length 0 _ O rfl n hn
 ·subst ht;have g:=NU hs hc hf k O;refine⟨_,hB k _ _ l[k] (Zef hk) g.circ g.grow g.lit,?_⟩;simp_all[GJ,Zef]
 grind
def Ay{f:BS->Int->α->Int×BS}{l:List α}{s:BS}{c:Int}{B:σt->Option (σt⊕ρt)}(enc:Nat->Int->D.builder->σt)(dec:Int->D.builder->ρt)(hs:CircP s.1)(hc:litN (lines s.1) c=true)(hl:l.length<=1000)(hf:AOk f s l)
  (hB:∀(j:Nat)(c':Int)(m:D.builder)(s':BS)(x:α),l[j]? =some x->CircP s'.1->Grow s.1 s'.1->RelB m s'->litN (lines s'.1) c'=true->∃m',B (enc j c' m)=some (.inl (enc (j+1) (f s' c' x).1 m'))/\RelB m' (f s' c' x).2)
  (hE:∀(c':Int)(m:D.builder),B (enc l.length c' m)=some (.inr (dec c' m))){m:D.builder}(hm:RelB m s):
  ∃m',iterN B fuel (enc 0 c m)=some (dec (accP f s c l).1 m')/\RelB m' (accP f s c l).2:=by
 have key:∃r,iterN B fuel (enc 0 c m)=some r/\∃m':D.builder,r=dec (accP f s c l).1 m'/\RelB m' (accP f s c l).2:=by
  refine Oc (B:=B) (I:=λk t=>∃m':D.builder,t=enc k (accP f s c (l.take k)).1 m'/\RelB m' (accP f s c (l.take k)).2) (m:=l.length) (λk t hk ht=>?_) (λt ht=>?_) l.length 0 _ O ⟨m,rfl,hm⟩ fuel lt_fuel
  ·obtain⟨m1,rfl,hr⟩:=ht;have g:=NU hs hc hf k O;obtain⟨m2,h3,h4⟩:=hB k _ m1 _ l[k] (Zef hk) g.circ g.grow hr g.lit;simp_all[GJ,Zef]<;>grind
  grind
 grind
end
def DW{σt ρt:Type}{X:Option (σt⊕ρt)}{I:σt->Prop}(h:∃y,X=some y/\∃s',y= .inl s'/\I s'):∃s',X=some (.inl s')/\I s':=by
 grind
section
variable{α σt ρt γ:Type}{K:ρt->Option γ}{G:γ->Prop}
def seqE{f:BS->α->Int×BS}{l:List α}{s:BS}{B:σt->Option (σt⊕ρt)}(enc:Nat->List Int->D.builder->σt)(dec:List Int->D.builder->ρt)(hs:CircP s.1)(hl:l.length<=1000)(hf:FOk f s l){L0:List Int}(hL:L0.length=l.length)
  (hB:∀(j:Nat)(L:List Int)(m:D.builder)(s':BS)(x:α),l[j]? =some x->CircP s'.1->Grow s.1 s'.1->RelB m s'->L.length=l.length->(∀i,j<=i->L[i]? =L0[i]?)->∃m',B (enc j L m)=some (.inl (enc (j+1) (L.set j (f s' x).1) m'))/\RelB m' (f s' x).2)
  (hE:∀(L:List Int)(m:D.builder),B (enc l.length L m)=some (.inr (dec L m))){m:D.builder}(hm:RelB m s)(h:∀m',RelB m' (seqP f s l).2->∃y,K (dec (seqP f s l).1 m')=some y/\G y):∃y,(iterN B fuel (enc 0 L0 m)).bind K=some y/\G y:=by
 obtain⟨m',h1,h2⟩:=JW (fuel:=fuel) enc dec hs hl hf hL hB hE hm;simp_all
def accE{f:BS->Int->α->Int×BS}{l:List α}{s:BS}{c:Int}{B:σt->Option (σt⊕ρt)}(enc:Nat->Int->D.builder->σt)(dec:Int->D.builder->ρt)(hs:CircP s.1)(hc:litN (lines s.1) c=true)(hl:l.length<=1000)(hf:AOk f s l)
  (hB:∀(j:Nat)(c':Int)(m:D.builder)(s':BS)(x:α),l[j]? =some x->CircP s'.1->Grow s.1 s'.1->RelB m s'->litN (lines s'.1) c'=true->∃m',B (enc j c' m)=some (.inl (enc (j+1) (f s' c' x).1 m'))/\RelB m' (f s' c' x).2)
  (hE:∀(c':Int)(m:D.builder),B (enc l.length c' m)=some (.inr (dec c' m))){m:D.builder}(hm:RelB m s)(h:∀m',RelB m' (accP f s c l).2->∃y,K (dec (accP f s c l).1 m')=some y/\G y):∃y,(iterN B fuel (enc 0 c m)).bind K=some y/\G y:=by
 obtain⟨m',h1,h2⟩:=Ay (fuel:=fuel) enc dec hs hc hl hf hB hE hm;simp_all
end
def eif{s:BS}{c a b:Int}(h:CircP s.1)(hc:litN (lines s.1) c=true)(ha:litN (lines s.1) a=true)(hb:litN (lines s.1) b=true):ZJ fuel (net s) c a b=some ((ifP s c a b).1,net (ifP s c a b).2):=spec_if h hc ha hb
def eor{s:BS}{a b:Int}(h:CircP s.1)(ha:litN (lines s.1) a=true)(hb:litN (lines s.1) b=true):Zw fuel (net s) a b=some ((orP s a b).1,net (orP s a b).2):=LP h ha hb
def iif{s:BS}{c a b:Int}(h:CircP s.1)(hc:litN (lines s.1) c=true)(ha:litN (lines s.1) a=true)(hb:litN (lines s.1) b=true){m:D.builder}(hm:RelB m s):∃m',ZN m c a b=some ((ifP s c a b).1,m')/\RelB m' (ifP s c a b).2:=Zdi h hc ha hb m hm
def ior{s:BS}{a b:Int}(h:CircP s.1)(ha:litN (lines s.1) a=true)(hb:litN (lines s.1) b=true){m:D.builder}(hm:RelB m s):∃m',ZH m a b=some ((orP s a b).1,m')/\RelB m' (orP s a b).2:=Ls h ha hb m hm
def negs(l:List Int):List Int:=l.map λx=>-x
theorem negs_len(l:List Int):(negs l).length=l.length:=by simp[negs]
def negs_lits{n:Int}{l:List Int}(h:∀x∈l,litN n x=true):∀x∈negs l,litN n x=true:=by
 intro x hx;obtain⟨y,hy,rfl⟩:=Zfz.1 hx;simp_all[ZR]
def spec_not{n:Int}{l:List Int}(hn:n<=391)(hl:l.length<=1000)(h:∀x∈l,litN n x=true):WH fuel l=some (negs l):=by
 unfold WH;rw[Z5 (I:=λk t=>t=((k:Int),negs (l.take k))) (m:=l.length) (r:=negs l) (λk t hk ht=>?_) (λt ht=>?_) l.length 0 _ O (by simp[negs]) fuel lt_fuel]
 ·rfl
 all_goals subst ht
 ·rw[Zei aj,get?_nat,Zef hk];simp only[Zee];rw[Yh (h _ (ZeI hk)) hn];have:app? (negs (l.take k)) [-l[k]]=some (negs (l.take (k+1))):=by
   unfold app?;rw[Zei (by grind[negs,room]),Zet hk];grind[negs]
  grind[Zb]
 simp[Zem,Za,Zf1]
def impl_opp{n:Int}{l:List Int}(hn:n<=391)(hl:l.length<=1000)(h:∀x∈l,litN n x=true):Xm fuel l=some (negs l):=by
 unfold Xm;rw[mk?_len aO];simp only[Zee];rw[Z5 (I:=λk t=>t=((k:Int),negs (l.take k)++List.replicate (l.length-k) 0)) (m:=l.length) (r:=negs l) (λk t hk ht=>?_) (λt ht=>?_) l.length 0 _ O (by simp[negs]) fuel lt_fuel]
 ·rfl
 all_goals subst ht
 ·rw[Zei aj,get?_nat,Zef hk];simp only[Zee];have hln:(negs (l.take k)).length=k:=by grind[negs_len,List.length_take]
  rw[Yh (h _ (ZeI hk)) hn,set?_nat an];have e:(negs (l.take k)++List.replicate (l.length-k) 0).set k (-l[k])=negs (l.take (k+1))++List.replicate (l.length-(k+1)) 0:=by
   have:=set_fill (l:=negs (l.take k)) (n:=l.length-(k+1)) (x:=-l[k]);grind[List.take_succ_eq_append_getElem,negs]
  grind[Zb]
 simp[Zem,Za,Zf1]
def spec_fill{w:Nat}(hw:w<=1000)(x:Int):YH fuel (w:Int) x=some (List.replicate w x):=by
 unfold YH;rw[Z5 (I:=λk t=>t=((k:Int),List.replicate k x)) (m:=w) (r:=List.replicate w x) (λk t hk ht=>?_) (λt ht=>?_) w 0 _ O U fuel lt_fuel]
 ·rfl
 all_goals subst ht
 ·have:app? (List.replicate k x) [x]=some (List.replicate (k+1) x):=by
   simp_all[app?,Zei,room,Zge]<;>grind
  grind[Zb]
 simp
def band01:(band 0 1==1)=false:=by decide
def JS{w:Nat}(hw:w<=1000):YD fuel (w:Int) 0=some (List.replicate w (-1)):=by
 unfold YD;have hmk:mk? (w:Int) (0:Int)=some (List.replicate w 0):=by
  simp_all[mk?,Zei,room]<;>grind
 rw[hmk];simp only[Zee];rw[Z5 (I:=λk t=>t=((k:Int),List.replicate k (-1)++List.replicate (w-k) 0)) (m:=w) (r:=List.replicate w (-1)) (λk t hk ht=>?_) (λt ht=>?_) w 0 _ O U fuel lt_fuel]
 ·rfl
 all_goals subst ht
 ·rw[Zei aj,set?_nat aa];have hw:IntKind.u64.wrap (k:Int)=k:=by grind[IntKind.wrap,IntKind.bits,IntKind.signed]
  have hsh:shr? 0 (k:Int)=some 0:=by
   rfl
  rw[hw,hsh];simp only[Zee];rw[Zem (by simp[band01])];have e:(List.replicate k (-1)++List.replicate (w-k) 0).set k (-1)=List.replicate (k+1) (-1)++List.replicate (w-(k+1)) 0:=by
   have:=set_fill (l:=List.replicate k (-1)) (n:=w-(k+1)) (x:=-1);grind[List.length_replicate,List.replicate_succ']
  grind[Zb]
 simp[Zem,Za]
theorem XN{c:D.Circuit}(h:CircP c):litN (lines c) (-1)=true:=litN_iff.2 ⟨by simp[iab],by have:=h.lines0;grind[iab]⟩
theorem Su{c:D.Circuit}(h:CircP c):litN (lines c) 1=true:=litN_iff.2 ⟨by simp[iab],by have:=h.lines0;grind[iab]⟩
def partF(bk:Int):BS->Int->Int×BS:=λs x=>andP s bk x
def mulStep(a b:List Int)(t:LS)(k:Nat):LS:=
 let p:=seqP (partF (b.getD k 0)) t.2 (a.take (a.length-k))
 let q:=addP p.2 (t.1.drop k) p.1 (-1)
 (t.1.take k++q.1,q.2.2)
def mulK(s:BS)(a b:List Int)(k:Nat):LS:=(List.range k).foldl (mulStep a b) (List.replicate a.length (-1),s)
def mulK_succ(s:BS)(a b:List Int)(k:Nat):mulK s a b (k+1)=mulStep a b (mulK s a b k) k:=by
 simp[mulK,ZfJ,Zfm]
def Hf{s:BS}{a b:List Int}(ha:∀x∈a,litN (lines s.1) x=true)(hb:∀x∈b,litN (lines s.1) x=true){t:LS}(hg:Grow s.1 t.2.1){k:Nat}(hk:k<b.length):FOk (partF (b.getD k 0)) t.2 (a.take (a.length-k)):=by
 intro s' x hc hgr hx;have hbk:b.getD k 0∈b:=by simp_all
 have e:=hg.trans hgr;exact YT hc (litN_mono (hb _ hbk) e.lines) (litN_mono (ha _ (ZfQ hx)) e.lines)
section
variable{s:BS}(hs:CircP s.1){a b:List Int}(hab:a.length=b.length)(ha:∀x∈a,litN (lines s.1) x=true)(hb:∀x∈b,litN (lines s.1) x=true)
include hs hab ha hb
theorem ME(k:Nat)(hk:k<=a.length):GoodL s a.length (mulK s a b k):=by
 induction k with
 | zero=>exact⟨hs,Grow.refl _,by simp[mulK],λx hx=>by
   grind[mulK,XN]⟩
 | succ k ih=>
  have g:=ih O;rw[mulK_succ];generalize mulK s a b k=t at g⊢;have gp:=seq_good g.circ (Hf ha hb g.grow (k:=k) O);have gpl:(seqP (partF (b.getD k 0)) t.2 (a.take (a.length-k))).1.length=a.length-k:=by rw[gp.len,Ze1];omega
  have gq:=VP gp.circ (a:=t.1.drop k) (b:=(seqP (partF (b.getD k 0)) t.2 (a.take (a.length-k))).1) (c:=-1) aI (λx hx=>litN_mono (g.lits x (Zfv hx)) gp.grow.lines) gp.lits (XN gp.circ);refine⟨gq.circ,(g.grow.trans gp.grow).trans gq.grow,?_,λx hx=>?_⟩
  ·simp only[mulStep,Zeo,Ze1,gq.len,Zex,g.len];omega
  ·simp only[mulStep,Zew]at hx;rcases hx with hx|hx
   ·exact litN_mono (g.lits x (ZfQ hx)) (gp.grow.trans gq.grow).lines
   ·exact gq.lits x hx
end
theorem getD_get{l:List Int}{k:Nat}(hk:k<l.length):l[k]? =some (l.getD k 0):=by
 simp_all
theorem getD_mem{l:List Int}{k:Nat}(hk:k<l.length):l.getD k 0∈l:=Zel (getD_get hk)
def FT{l:List Int}{k:Nat}(hk:k<=l.length):cut? l (k:Int) (len l)=some (l.drop k):=by
 simp_all[cut?,Za,Zei]
def BZ{l:List Int}{k:Nat}(hk:k<=l.length):cut? l 0 (k:Int)=some (l.take k):=by
 simp_all[cut?,Zei]
def LA{l:List Int}(h:l.length<=1000):app? ([]:List Int) l=some l:=by
 simp_all[app?,Zei,room]<;>grind
theorem RN{l m:List Int}(h:l.length+m.length<=100000):app? l m=some (l++m):=by
 simp_all[app?,Zei,room]<;>grind
def De{l m:List Int}{k:Nat}(hk:k<=l.length)(hm:m.length=l.length-k):vcopy l (k:Int) (l.length-k) m=l.take k++m:=by
 simp_all[vcopy,ZeS,Zfa,Zfw,ZeM]
section
variable{s:BS}(hs:CircP s.1){a b:List Int}(hab:a.length=b.length)(hl:a.length<=16)(ha:∀x∈a,litN (lines s.1) x=true)(hb:∀x∈b,litN (lines s.1) x=true)
include hs hab hl ha hb
theorem Zb9:XK fuel (net s) a b=some ((mulK s a b a.length).1,net (mulK s a b a.length).2):=by
 unfold XK;rw[Za,spec_fill O];simp only[Zee];rw[Z5 (I:=λk t=>t=((k:Int),(mulK s a b k).1,(mulK s a b k).2.1.Inputs,(mulK s a b k).2.2,(mulK s a b k).2.1.Gates)) (m:=a.length) (r:=((mulK s a b a.length).1,(mulK s a b a.length).2.1.Inputs,(mulK s a b a.length).2.2,(mulK s a b a.length).2.1.Gates)) (λk t hk ht=>?_) (λt ht=>?_) a.length 0 _ O (by simp[mulK]) fuel lt_fuel]
 ·rfl
 all_goals subst ht
 ·have g:=ME hs hab ha hb k O;have hok:=Hf ha hb g.grow (k:=k) O;have gp:=seq_good g.circ hok;refine⟨_,?_,rfl⟩;rw[mulK_succ];generalize mulK s a b k=t at g gp hok⊢;have gpl:(seqP (partF (b.getD k 0)) t.2 (a.take (a.length-k))).1.length=a.length-k:=by rw[gp.len,Ze1];omega
  have gq:=VP gp.circ (a:=t.1.drop k) (b:=(seqP (partF (b.getD k 0)) t.2 (a.take (a.length-k))).1) (c:=-1) aI (λx hx=>litN_mono (g.lits x (Zfv hx)) gp.grow.lines) gp.lits (XN gp.circ);have sq:=Pm (fuel:=fuel) (s:=(seqP (partF (b.getD k 0)) t.2 (a.take (a.length-k))).2) gp.circ (a:=t.1.drop k) (b:=(seqP (partF (b.getD k 0)) t.2 (a.take (a.length-k))).1) (c:=-1) (by rw[Zex,g.len];omega) aI (λx hx=>litN_mono (g.lits x (Zfv hx)) gp.grow.lines) gp.lits (XN gp.circ);simp only;rw[Zei aa,Zb (x:=(a.length:Int)-(k:Int))];rw[spec_seq (f:=partF (b.getD k 0)) (l:=a.take (a.length-k)) (s:=t.2) g.circ an hok (λj out s' x hx hc hgr hout=>?_) (λout s'=>?_)]
  ·simp only[Zee];have hcr:=FT (l:=t.1) (k:=k) aM;rw[hcr];simp only[Zee];have sq':ZC fuel (D.l04Net.mk (D.Circuit.mk (seqP (partF (b.getD k 0)) t.2 (a.take (a.length-k))).2.1.Inputs (seqP (partF (b.getD k 0)) t.2 (a.take (a.length-k))).2.1.Gates) (seqP (partF (b.getD k 0)) t.2 (a.take (a.length-k))).2.2) (t.1.drop k) (seqP (partF (b.getD k 0)) t.2 (a.take (a.length-k))).1 (-1)=_:=sq;rw[sq'];simp only[Zee];rw[BZ aM];simp only[Zee];have l1:(t.1.take k).length<=1000:=by grind
   rw[LA l1];simp only[Zee];rw[RN (by rw[Ze1,gq.len,Zex,g.len];omega)];rw[Zb];rfl
  ·have hj:j<a.length-k/\j<a.length:=by
    grind
   have hax:a[j]? =some x:=by simp_all
   rw[Zei aa,get?_nat,get?_nat,getD_get (l:=b) O,hax];simp only[Zee];have hga:=g.grow.trans hgr;have sa:Zk fuel (D.l04Net.mk (D.Circuit.mk s'.1.Inputs s'.1.Gates) s'.2) (b.getD k 0) x=_:=TI (fuel:=fuel) hc (litN_mono (hb _ (getD_mem O)) hga.lines) (litN_mono (ha _ (Zel hax)) hga.lines);rw[sa];simp only[Zee];rw[RN aa];rw[Zb];rfl
  grind
 simp
theorem Zcc{m:D.builder}(hm:RelB m s):∃m',YW fuel m a b=some ((mulK s a b a.length).1,m')/\RelB m' (mulK s a b a.length).2:=by
 unfold YW;rw[Za,JS O];simp only[Zee];refine ex_pair ?_;refine PD (I:=λk t=>∃m':D.builder,t=((k:Int),(mulK s a b k).1,m'.c.Inputs,m'.full,m'.c.Gates,m'.line)/\RelB m' (mulK s a b k).2) (R:=λr=>∃m':D.builder,r=((mulK s a b a.length).1,m'.c.Inputs,m'.full,m'.c.Gates,m'.line)/\RelB m' (mulK s a b a.length).2) (m:=a.length) (λk t hk ht=>?_) (λt ht=>?_) a.length 0 _ O ⟨m,rfl,hm⟩ fuel lt_fuel (λr hr=>?_)
 ·obtain⟨m1,rfl,hr⟩:=ht;have g:=ME hs hab ha hb k O;have hok:=Hf ha hb g.grow (k:=k) O;have gp:=seq_good g.circ hok;rw[mulK_succ];generalize mulK s a b k=t at g gp hok hr⊢;have gpl:(seqP (partF (b.getD k 0)) t.2 (a.take (a.length-k))).1.length=a.length-k:=by rw[gp.len,Ze1];omega
  have gq:=VP gp.circ (a:=t.1.drop k) (b:=(seqP (partF (b.getD k 0)) t.2 (a.take (a.length-k))).1) (c:=-1) aI (λx hx=>litN_mono (g.lits x (Zfv hx)) gp.grow.lines) gp.lits (XN gp.circ);have hmk:mk? (w64 ((a.length:Int)-(k:Int))) (0:Int)=some (List.replicate (a.length-k) 0):=by
   rw[Zb];unfold mk?;rw[Zei ⟨by omega,by grind[room]⟩];simp
  simp only;rw[Zei ah,hmk];simp only[Zee];refine DW (seqE (f:=partF (b.getD k 0)) (l:=a.take (a.length-k)) (s:=t.2) (λj L m=>((j:Int),L,m.c.Inputs,m.full,m.c.Gates,m.line)) (λL m=>(L,m.c.Inputs,m.full,m.c.Gates,m.line)) g.circ an hok (L0:=List.replicate (a.length-k) 0) U (λj L mm s' x hx hc hgr hrr hL hpre=>?_) (λL mm=>?_) hr λm2 r2=>?_)
  ·have hj:j<a.length-k/\j<a.length:=by
    grind
   have hax:a[j]? =some x:=by simp_all
   have hga:=g.grow.trans hgr;obtain⟨m3,e3,r3⟩:=Tz hrr hc (litN_mono (hb _ (getD_mem (k:=k) O)) hga.lines) (litN_mono (ha _ (Zel hax)) hga.lines);refine⟨m3,?_,r3⟩;simp only;rw[Zei aj,get?_nat,get?_nat,getD_get (l:=b) O,hax];simp only[Zee]
   erw [e3]
   simp only[Zee];rw[set?_nat (by rw[hL,Ze1];omega)];simp only[Zee];rw[Zb];rfl
  ·simp only;rw[Zem ao]
  ·obtain⟨m3,h3,r3⟩:=QY (fuel:=fuel) (s:=(seqP (partF (b.getD k 0)) t.2 (a.take (a.length-k))).2) gp.circ r2 (a:=t.1.drop k) (b:=(seqP (partF (b.getD k 0)) t.2 (a.take (a.length-k))).1) (c:=-1) (by rw[Zex,g.len];omega) aI (λx hx=>litN_mono (g.lits x (Zfv hx)) gp.grow.lines) gp.lits (XN gp.circ);refine⟨_,?_,_,rfl,m3,rfl,r3⟩;rw[FT (l:=t.1) (k:=k) aM];simp only[Zee]
   erw [h3]
   simp only[Zee];rw[Zex,De aM (by rw[gq.len,Zex]),Zb];rfl
 ·obtain⟨m1,rfl,hr⟩:=ht;refine⟨_,?_,m1,rfl,hr⟩;rw[Zem ah]
 ·obtain⟨m',rfl,h2⟩:=hr;exact⟨_,rfl,m',rfl,h2⟩
end
abbrev DS:=List Int×List Int×BS
def selF(c:Int):BS->Int×Int->Int×BS:=λs p=>ifP s c p.1 p.2
def divStep(a less:List Int)(t:DS)(k:Nat):DS:=
 let d:=addP t.2.2 (a.getD k 0::t.1) less 1
 let q:=seqP (selF d.2.1) d.2.2 ((d.1.zip (a.getD k 0::t.1)).take a.length)
 (q.1,d.2.1::t.2.1,q.2)
def lessOf(b:List Int):List Int:=negs b++[1]
def divK(s:BS)(a b:List Int)(k:Nat):DS:=(List.range k).foldl (λt i=>divStep a (lessOf b) t (a.length-1-i)) (List.replicate a.length (-1),[],s)
def divK_succ(s:BS)(a b:List Int)(k:Nat):divK s a b (k+1)=divStep a (lessOf b) (divK s a b k) (a.length-1-k):=by
 simp[divK,ZfJ,Zfm]
structure GoodD(s:BS)(w k:Nat)(t:DS):Prop where
 circ:CircP t.2.2.1
 grow:Grow s.1 t.2.2.1
 len:t.1.length=w
 lits:∀x∈t.1,litN (lines t.2.2.1) x=true
 clen:t.2.1.length=k
 clits:∀x∈t.2.1,litN (lines t.2.2.1) x=true
structure DivOk(a less:List Int)(t:DS)(k:Nat):Prop where
 ga:GoodA t.2.2 (a.length+1) (addP t.2.2 (a.getD k 0::t.1) less 1)
 tl:∀x∈a.getD k 0::t.1,litN (lines t.2.2.1) x=true
 ll:∀x∈less,litN (lines t.2.2.1) x=true
 l1:litN (lines t.2.2.1) 1=true
 fok:FOk (selF (addP t.2.2 (a.getD k 0::t.1) less 1).2.1) (addP t.2.2 (a.getD k 0::t.1) less 1).2.2 (((addP t.2.2 (a.getD k 0::t.1) less 1).1.zip (a.getD k 0::t.1)).take a.length)
 zl:(((addP t.2.2 (a.getD k 0::t.1) less 1).1.zip (a.getD k 0::t.1)).take a.length).length=a.length
section
variable{s:BS}{a b:List Int}(hab:a.length=b.length)(ha:∀x∈a,litN (lines s.1) x=true)(hb:∀x∈b,litN (lines s.1) x=true)
include hab ha hb
theorem DT{t:DS}{i:Nat}(g:GoodD s a.length i t){k:Nat}(hk:k<a.length):DivOk a (lessOf b) t k:=by
 have htl:∀x∈a.getD k 0::t.1,litN (lines t.2.2.1) x=true:=λx hx=>by
  rcases ZeR.1 hx with rfl|hx
  ·exact litN_mono (ha _ (getD_mem hk)) g.grow.lines
  ·exact g.lits x hx
 have hll:∀x∈lessOf b,litN (lines t.2.2.1) x=true:=λx hx=>by
  rcases Zew.1 hx with hx|hx
  ·exact litN_mono (negs_lits hb x hx) g.grow.lines
  ·rw[ZeA.1 hx];exact Su g.circ
 have hlen:(a.getD k 0::t.1).length=(lessOf b).length:=by simp[lessOf,negs_len,g.len,hab]
 have ga:=VP g.circ hlen htl hll (Su g.circ);have hw:(a.getD k 0::t.1).length=a.length+1:=by simp[g.len]
 rw[hw]at ga;refine⟨ga,htl,hll,Su g.circ,λs' p hc hgr hp=>?_,?_⟩
 ·have hp':=ZfQ hp;have h1:=ZgG hp';exact if_good hc (litN_mono ga.lit hgr.lines) (litN_mono (ga.lits _ h1.1) hgr.lines) (litN_mono (htl _ h1.2) (ga.grow.trans hgr).lines)
 ·rw[Ze1,Zga,ga.len,hw];omega
theorem PQ(hs:CircP s.1)(k:Nat)(hk:k<=a.length):GoodD s a.length k (divK s a b k):=by
 induction k with
 | zero=>exact⟨hs,Grow.refl _,by simp[divK],λx hx=>by
   grind[divK,XN],rfl,λx hx=>by cases hx⟩
 |succ k ih=>
  have g:=ih O;rw[divK_succ];have o:=DT hab ha hb g (k:=a.length-1-k) O;have gq:=seq_good o.ga.circ o.fok;rw[o.zl]at gq;refine⟨gq.circ,(g.grow.trans o.ga.grow).trans gq.grow,gq.len,gq.lits,by simp[divStep,g.clen],λx hx=>?_⟩;simp only[divStep,ZeR]at hx;rcases hx with rfl|hx
  ·exact litN_mono o.ga.lit gq.grow.lines
  ·exact litN_mono (g.clits x hx) (o.ga.grow.trans gq.grow).lines
end
def GX{q0 cs:List Int}{w k:Nat}{c:Int}(hq:q0.length=w)(hk:k<w):(q0.take (w-k)++cs).set (w-1-k) c=q0.take (w-(k+1))++(c::cs):=by
 have e:w-k=(w-1-k)+1:=by omega
 have hl:(q0.take (w-1-k)).length=w-1-k:=by grind
 have hlt:w-1-k<q0.length:=by omega
 rw[e,Zet hlt,Zez,Zfq _ _ O,hl,ZfD];grind
section
variable{s:BS}(hs:CircP s.1){a b:List Int}(hab:a.length=b.length)(hl:a.length<=16)(ha:∀x∈a,litN (lines s.1) x=true)(hb:∀x∈b,litN (lines s.1) x=true)
include hs hab hl ha hb
theorem Ep:YY fuel (net s) a b=some ((divK s a b a.length).2.1,(divK s a b a.length).1,net (divK s a b a.length).2.2):=by
 unfold YY;rw[Za,spec_fill O];simp only[Zee];rw[spec_not hs.lines1 O hb];simp only[Zee];rw[RN (by grind[negs_len])];simp only[Zee];rw[Z5 (I:=λk t=>t=((a.length:Int)-1-(k:Int),(List.replicate a.length (-1)).take (a.length-k)++(divK s a b k).2.1,(divK s a b k).1,(divK s a b k).2.2.1.Inputs,(divK s a b k).2.2.2,(divK s a b k).2.2.1.Gates)) (m:=a.length) (r:=((divK s a b a.length).2.1,(divK s a b a.length).1,(divK s a b a.length).2.2.1.Inputs,(divK s a b a.length).2.2.2,(divK s a b a.length).2.2.1.Gates)) (λk t hk ht=>?_) (λt ht=>?_) a.length 0 _ O (by grind[Zb,divK]) fuel lt_fuel]
 ·rfl
 all_goals subst ht
 ·have g:=PQ hab ha hb hs k O;have o:=DT hab ha hb g (k:=a.length-1-k) O;refine⟨_,?_,rfl⟩;rw[divK_succ];generalize divK s a b k=t at g o⊢;have hidx:(a.length:Int)-1-(k:Int)=((a.length-1-k:Nat):Int):=by omega
  have hlen:(a.getD (a.length-1-k) 0::t.1).length=(lessOf b).length:=by simp[lessOf,negs_len,g.len,hab]
  have sd:=Pm (fuel:=fuel) (s:=t.2.2) g.circ (a:=a.getD (a.length-1-k) 0::t.1) (b:=lessOf b) (c:=1) aQ hlen o.tl o.ll o.l1;simp only;rw[Zei aa,hidx,get?_nat,getD_get (l:=a) O];simp only[Zee];rw[RN aQ];simp only[Zee];have sd':ZC fuel (D.l04Net.mk (D.Circuit.mk t.2.2.1.Inputs t.2.2.1.Gates) t.2.2.2) ([a.getD (a.length-1-k) 0]++t.1) (negs b++[1]) 1=_:=sd;rw[sd'];simp only[Zee];rw[set?_nat an,GX U hk];simp only[Zee];rw[spec_seq (f:=selF (addP t.2.2 (a.getD (a.length-1-k) 0::t.1) (lessOf b) 1).2.1) (s:=(addP t.2.2 (a.getD (a.length-1-k) 0::t.1) (lessOf b) 1).2.2) (l:=((addP t.2.2 (a.getD (a.length-1-k) 0::t.1) (lessOf b) 1).1.zip (a.getD (a.length-1-k) 0::t.1)).take a.length) o.ga.circ an o.fok (λj out s' x hx hc hgr hout=>?_) (λout s'=>?_)]
  ·simp only[Zee];rw[Zb];simp only[Option.some.injEq,Sum.inl.injEq,Prod.mk.injEq];exact⟨by omega,rfl,rfl,rfl,rfl,rfl⟩
  ·have hj:j<a.length:=by
    grind
   have hx':((addP t.2.2 (a.getD (a.length-1-k) 0::t.1) (lessOf b) 1).1.zip (a.getD (a.length-1-k) 0::t.1))[j]? =some x:=by
    rw[ZeO,Zei hj]at hx;exact hx
   have hz:=zip_mem hx';have h1:=o.ga.lits _ (Zel hz.1);have h2:=o.tl _ (Zel hz.2);rw[Zei aa,get?_nat,get?_nat,hz.1];have hz2:([a.getD (a.length-1-k) 0]++t.1)[j]? =some x.2:=hz.2;rw[hz2];simp only[Zee];have si:ZJ fuel (D.l04Net.mk (D.Circuit.mk s'.1.Inputs s'.1.Gates) s'.2) (addP t.2.2 (a.getD (a.length-1-k) 0::t.1) (lessOf b) 1).2.1 x.1 x.2=_:=spec_if (fuel:=fuel) hc (litN_mono o.ga.lit hgr.lines) (litN_mono h1 hgr.lines) (litN_mono h2 (o.ga.grow.trans hgr).lines);rw[si];simp only[Zee];rw[RN aa];rw[Zb];rfl
  ·rw[o.zl,ifn]
 grind
theorem FN{m:D.builder}(hm:RelB m s):∃m',YJ fuel m a b=some ((divK s a b a.length).2.1,(divK s a b a.length).1,m')/\RelB m' (divK s a b a.length).2.2:=by
 unfold YJ;rw[mk?_len aO];simp only[Zee];rw[Za,JS O];simp only[Zee];rw[impl_opp hs.lines1 O hb];simp only[Zee];rw[RN (by grind[negs_len])];simp only[Zee];have hfin:∀{X:Option (List Int×List Int×D.builder)}{u v:List Int}{s':BS},(∃y,X=some y/\∃m',y=(u,v,m')/\RelB m' s')->∃m',X=some (u,v,m')/\RelB m' s':=λ⟨y,h1,m',h2,h3⟩=>⟨m',by rw[h1,h2],h3⟩;refine hfin ?_;refine PD (I:=λk t=>∃m':D.builder,t=((a.length:Int)-1-(k:Int),(List.replicate a.length 0).take (a.length-k)++(divK s a b k).2.1,(divK s a b k).1,m'.c.Inputs,m'.full,m'.c.Gates,m'.line)/\RelB m' (divK s a b k).2.2) (R:=λr=>∃m':D.builder,r=((divK s a b a.length).2.1,(divK s a b a.length).1,m'.c.Inputs,m'.full,m'.c.Gates,m'.line)/\RelB m' (divK s a b a.length).2.2) (m:=a.length) (λk t hk ht=>?_) (λt ht=>?_) a.length 0 _ O ⟨m,by grind[Zb,divK],hm⟩ fuel lt_fuel (λr hr=>?_)
 ·obtain⟨m1,rfl,hr⟩:=ht;have g:=PQ hab ha hb hs k O;have o:=DT hab ha hb g (k:=a.length-1-k) O;rw[divK_succ];generalize divK s a b k=t at g o hr⊢;have hidx:(a.length:Int)-1-(k:Int)=((a.length-1-k:Nat):Int):=by omega
  have hlen:(a.getD (a.length-1-k) 0::t.1).length=(lessOf b).length:=by simp[lessOf,negs_len,g.len,hab]
  obtain⟨m2,h2,r2⟩:=QY (fuel:=fuel) (s:=t.2.2) g.circ hr (a:=a.getD (a.length-1-k) 0::t.1) (b:=lessOf b) (c:=1) aQ hlen o.tl o.ll o.l1;simp only;rw[Zei aa,hidx,get?_nat,getD_get (l:=a) O];simp only[Zee];rw[RN aQ];simp only[Zee];have h2':Ya fuel (D.builder.mk (D.Circuit.mk m1.c.Inputs m1.c.Gates) m1.line m1.full) ([a.getD (a.length-1-k) 0]++t.1) (negs b++[1]) 1=_:=h2;rw[h2'];simp only[Zee];rw[set?_nat (by simp[g.clen];omega),GX U hk];simp only[Zee];refine DW (seqE (f:=selF (addP t.2.2 (a.getD (a.length-1-k) 0::t.1) (lessOf b) 1).2.1) (s:=(addP t.2.2 (a.getD (a.length-1-k) 0::t.1) (lessOf b) 1).2.2) (l:=((addP t.2.2 (a.getD (a.length-1-k) 0::t.1) (lessOf b) 1).1.zip (a.getD (a.length-1-k) 0::t.1)).take a.length) (λj L m=>((j:Int),L,m.c.Inputs,m.full,m.c.Gates,m.line)) (λL m=>(L,m.c.Inputs,m.full,m.c.Gates,m.line)) o.ga.circ an o.fok (L0:=t.1) (by rw[o.zl,g.len]) (λj L mm s' x hx hc hgr hrr hL hpre=>?_) (λL mm=>?_) r2 λm3 r3=>?_)
  ·have hj:=(Zej.1 hx).1;rw[o.zl]at hj;rw[ZeO,Zei hj]at hx;have hz:=zip_mem hx;obtain⟨m4,e4,r4⟩:=iif hc (litN_mono o.ga.lit hgr.lines) (litN_mono (o.ga.lits _ (Zel hz.1)) hgr.lines) (litN_mono (o.tl _ (Zel hz.2)) (o.ga.grow.trans hgr).lines) hrr;refine⟨m4,?_,r4⟩;have hz2:([a.getD (a.length-1-k) 0]++t.1)[j]? =some x.2:=hz.2;simp only;rw[Zei ah,get?_nat,get?_nat,hz.1,hz2];simp only[Zee]
   erw [e4]
   simp only[Zee];rw[set?_nat (by rw[hL,o.zl];exact hj)];simp only[Zee];rw[Zb];rfl
  ·simp only;rw[o.zl,Zem ao]
  ·refine⟨_,rfl,_, ?_,m3,rfl,r3⟩;simp only;rw[Zb];simp only[Sum.inl.injEq,Prod.mk.injEq];exact⟨by omega,rfl,rfl,trivial⟩
 ·obtain⟨m1,rfl,hr⟩:=ht;refine⟨_,?_,m1,rfl,hr⟩;rw[Zem aa];simp
 ·obtain⟨m',rfl,h2⟩:=hr;exact⟨_,rfl,m',rfl,h2⟩
end
end Go.Proofs.YtccamimfkohabaaGreatDoor.Cc
end
section
namespace Go.Proofs.YtccamimfkohabaaGreatDoor.Cc
open Go.GL
variable{fuel:Nat}[FU fuel]
def lg(w:Nat):Nat:=if w<=1 then 0 else if w<=2 then 1 else if w<=4 then 2 else if w<=8 then 3 else 4
def Hm:∀w,w<16->∀k,k<16->(2^k<w↔k<lg w):=by decide
def GV:∀w,w<16->1<=w->lg w<w:=by decide
def Zdt(w:Nat):lg w<=4:=by
 grind[lg]
theorem ZaV:∀k:Nat,k<16->shl? 1 (k:Int)=some ((2^k:Nat):Int):=by decide
def Oj:∀k,k<=4->2^k<=16:=by decide
theorem u64k{k:Nat}(h:k<1000):IntKind.u64.wrap (k:Int)=k:=by grind[IntKind.wrap,IntKind.bits,IntKind.signed]
theorem MJ{σt ρt:Type}{B:σt->Option (σt⊕ρt)}{I:Nat->σt->Prop}{m:Nat}(hs:∀k s,k<m->I k s->∃s',B s=some (.inl s')/\I (k+1) s'):
  ∀(d k:Nat)(s:σt),k+d=m->I k s->∀n,∃s',I m s'/\iterN B (n+d) s=iterN B n s'
 |0,k,s,hk,hi,n=>by
  grind
 |d+1,k,s,hk,hi,n=>by
  obtain⟨s1,h1,h2⟩:=hs k s O hi;obtain⟨s',h3,h4⟩:=MJ hs d (k+1) s1 O h2 n;grind[Nat.add_assoc,iterN]
def AJ{σt ρt γ:Type}{B:σt->Option (σt⊕ρt)}{I:Nat->σt->Prop}{m n:Nat}{K:ρt->Option γ}{z:Option γ}{s0:σt}(hs:∀k s,k<m->I k s->∃s',B s=some (.inl s')/\I (k+1) s')(hi:I 0 s0)(hn:m<=n)(h:∀s',I m s'->(iterN B (n-m) s').bind K=z):(iterN B n s0).bind K=z:=by
 obtain⟨s',h1,h2⟩:=MJ hs m 0 s0 O hi (n-m);rw[Nat.sub_add_cancel hn]at h2;rw[h2];exact h s' h1
def pick(L:Bool)(d:Nat)(fill:Int)(out:List Int)(j:Nat):Int:=
 if L then(if d<=j then out.getD (j-d) 0 else fill)else(if j+d<out.length then out.getD (j+d) 0 else fill)
def Zb1{L:Bool}{d:Nat}{fill:Int}{out:List Int}{j:Nat}(hj:j<out.length):pick L d fill out j=fill\/pick L d fill out j∈out:=by
 grind[pick]
def shPairs(L:Bool)(d:Nat)(fill:Int)(out:List Int):List (Int×Int):=(List.range out.length).map λj=>(pick L d fill out j,out.getD j 0)
theorem WE{L:Bool}{d:Nat}{fill:Int}{out:List Int}:(shPairs L d fill out).length=out.length:=by simp[shPairs]
def PL{L:Bool}{d:Nat}{fill:Int}{out:List Int}{j:Nat}{x:Int×Int}(h:(shPairs L d fill out)[j]? =some x):j<out.length/\x=(pick L d fill out j,out.getD j 0):=by
 grind[List.getElem?_eq_some_iff,WE,shPairs,List.getElem?_range,Option.some.inj]
def shStep(L:Bool)(fill:Int)(b:List Int)(t:LS)(k:Nat):LS:=seqP (selF (b.getD k 0)) t.2 (shPairs L (2^k) fill t.1)
def shK(s:BS)(a b:List Int)(L:Bool)(fill:Int)(k:Nat):LS:=(List.range k).foldl (shStep L fill b) (a,s)
def shK_succ(s:BS)(a b:List Int)(L:Bool)(fill:Int)(k:Nat):shK s a b L fill (k+1)=shStep L fill b (shK s a b L fill k) k:=by
 simp[shK,ZfJ,Zfm]
def orF:BS->Int->Int->Int×BS:=λs c x=>orP s c x
def finF(c fill:Int):BS->Int->Int×BS:=λs x=>ifP s c fill x
def shFar(s:BS)(a b:List Int)(L:Bool)(fill:Int):Int×BS:=accP orF (shK s a b L fill (lg a.length)).2 (-1) (b.drop (lg a.length))
def shP(s:BS)(a b:List Int)(L:Bool)(fill:Int):LS:=seqP (finF (shFar s a b L fill).1 fill) (shFar s a b L fill).2 (shK s a b L fill (lg a.length)).1
section
variable{s:BS}{a b:List Int}{L:Bool}{fill:Int}(hab:a.length=b.length)(hl:a.length<=15)(ha:∀x∈a,litN (lines s.1) x=true)(hb:∀x∈b,litN (lines s.1) x=true)(hf:litN (lines s.1) fill=true)
include hab hl ha hb hf
omit hab hl ha hb in
theorem Jb{t:LS}{n d j:Nat}{s':BS}(g:GoodL s n t)(hgr:Grow t.2.1 s'.1)(hj:j<t.1.length):litN (lines s'.1) (pick L d fill t.1 j)=true:=by
 rcases Zb1 (L:=L) (d:=d) (fill:=fill) hj with h|h
 ·rw[h];exact litN_mono hf (g.grow.trans hgr).lines
 ·exact litN_mono (g.lits _ h) hgr.lines
omit hl ha in
theorem Za5{t:LS}(g:GoodL s a.length t){k:Nat}(hk:k<a.length)(d:Nat):FOk (selF (b.getD k 0)) t.2 (shPairs L d fill t.1):=by
 intro s' p hc hgr hp;obtain⟨j,hj⟩:=ZfA hp;obtain⟨hj',rfl⟩:=PL hj;have e:=g.grow.trans hgr;exact if_good hc (litN_mono (hb _ (getD_mem O)) e.lines) (Jb hf g hgr hj') (litN_mono (g.lits _ (getD_mem hj')) hgr.lines)
omit hl in
theorem Qo(hs:CircP s.1)(k:Nat)(hk:k<=a.length):GoodL s a.length (shK s a b L fill k):=by
 induction k with
 |zero=>exact⟨hs,Grow.refl _,rfl,ha⟩
 |succ k ih=>
  have g:=ih O;rw[shK_succ];generalize shK s a b L fill k=t at g⊢;have o:=Za5 hab hb hf g (k:=k) O (L:=L) (2^k);have gq:=seq_good g.circ o;rw[WE,g.len]at gq;exact⟨gq.circ,g.grow.trans gq.grow,gq.len,gq.lits⟩
omit hab hl ha hf in
theorem Dk{t:LS}(g:GoodL s a.length t)(k:Nat):AOk orF t.2 (b.drop k):=by
 intro s' c x hc hgr hlc hx;exact LM hc hlc (litN_mono (hb _ (Zfv hx)) (g.grow.trans hgr).lines)
theorem NS(hs:CircP s.1)(hw:1<=a.length):Good (shK s a b L fill (lg a.length)).2 (shFar s a b L fill):=by
 have g:=Qo hab ha hb hf hs (L:=L) (lg a.length) aF;exact Fx g.circ (XN g.circ) (Dk hb g _)
theorem fin_ok(hs:CircP s.1)(hw:1<=a.length):FOk (finF (shFar s a b L fill).1 fill) (shFar s a b L fill).2 (shK s a b L fill (lg a.length)).1:=by
 have g:=Qo hab ha hb hf hs (L:=L) (lg a.length) aF;have gf:=NS hab hl ha hb hf hs hw (L:=L);intro s' x hc hgr hx;exact if_good hc (litN_mono gf.lit hgr.lines) (litN_mono hf ((g.grow.trans gf.grow).trans hgr).lines) (litN_mono (g.lits _ hx) (gf.grow.trans hgr).lines)
theorem KQ(hs:CircP s.1)(hw:1<=a.length):GoodL s a.length (shP s a b L fill):=by
 have g:=Qo hab ha hb hf hs (L:=L) (lg a.length) aF;have gf:=NS hab hl ha hb hf hs hw (L:=L);have gq:=seq_good gf.circ (fin_ok hab hl ha hb hf hs hw);rw[g.len]at gq;exact⟨gq.circ,(g.grow.trans gf.grow).trans gq.grow,gq.len,gq.lits⟩
end
def idx(L:Bool)(d j:Nat):Int:=cond L (w64 ((j:Int)-(d:Int))) (w64 ((j:Int)+(d:Int)))
def ZbM{L:Bool}{d j:Nat}{fill:Int}{out:List Int}(hd:d<=40000)(hj:j<out.length)(hl:out.length<=15):
  (if(decide (idx L d j>=0)&&decide (idx L d j<out.length))=true then(get? out (idx L d j)).bind λx=>some x else some fill)=some (pick L d fill out j):=by
 have key:∀i:Nat,i<out.length->(get? out (i:Int)).bind (λx=>some x)=some (out.getD i 0):=λi h=>by rw[get?_nat,getD_get h];rfl
 have e:idx L d j=cond L ((j:Int)-d) (((j+d:Nat):Int)):=by cases L<;>grind[idx,Zb]
 rw[e];cases L
 ·grind[pick]
 ·have e2:d<=j->(j:Int)-d=((j-d:Nat):Int):=by omega
  grind[pick]
section
variable{s:BS}(hs:CircP s.1){a b:List Int}{op fill:Int}(hab:a.length=b.length)(hl:a.length<=15)(hw:1<=a.length)(ha:∀x∈a,litN (lines s.1) x=true)(hb:∀x∈b,litN (lines s.1) x=true)(hf:litN (lines s.1) fill=true)
  (hF:(if(op==13)=true then(get? a (w64 (len a-1))).bind λx=>some x else some (-1))=some fill)
include hs hab hl hw ha hb hf hF
theorem Oz:Xn fuel (net s) op a b=some ((shP s a b (op==11) fill).1,net (shP s a b (op==11) fill).2):=by
 unfold Xn;rw[hF];simp only[Zee];generalize hL:(op==11)=L;have hlg:=GV a.length O hw;have hlg4:=Zdt a.length;have hfu:=FU.le (n:=fuel);have gl:=Qo hab ha hb hf hs (L:=L) (lg a.length) O;refine AJ (I:=λk t=>t=((-1:Int),false,(shK s a b L fill k).1,(k:Int),(shK s a b L fill k).2.1.Inputs,(shK s a b L fill k).2.2,(shK s a b L fill k).2.1.Gates)) (m:=lg a.length) (λk t hk ht=>?_) rfl O λt ht=>?_
 ·subst ht;have g:=Qo hab ha hb hf hs (L:=L) k O;have o:=Za5 hab hb hf g (k:=k) O (L:=L) (2^k);refine⟨_,?_,rfl⟩;rw[shK_succ];generalize shK s a b L fill k=t at g o⊢;have hp:2^k<a.length:=by rw[Hm _ O _ O];omega
  have hln:=g.len;simp only;rw[Zei aD,ZaV _ O];simp only[Zee];rw[Zem aD];rw[spec_seq (f:=selF (b.getD k 0)) (s:=t.2) (l:=shPairs L (2^k) fill t.1) g.circ (by rw[WE];omega) o (λj out s' x hx hc hgr hout=>?_) (λout s'=>?_)]
  ·simp only[Zee];rw[Zb];rfl
  ·obtain⟨hj,rfl⟩:=PL hx;have h1:=ZbM (L:=L) (d:=2^k) (j:=j) (fill:=fill) (out:=t.1) O hj O;have h2:Zc (idx L (2^k) j) 0 (w64 (len a-1))=some (decide (idx L (2^k) j>=0)&&decide (idx L (2^k) j<t.1.length)):=by
    unfold Zc;rw[Za,Zb];grind
   simp only;rw[Zei aj]
   erw [h2]
   simp only[Zee]
   erw [h1]
   simp only[Zee,get?_nat];rw[getD_get (l:=b) O,getD_get hj];simp only[Zee]
   erw [eif hc (litN_mono (hb _ (getD_mem (l:=b) (k:=k) O)) (g.grow.trans hgr).lines) (Jb hf g hgr hj) (litN_mono (g.lits _ (getD_mem hj)) hgr.lines)]
   simp only[Zee];rw[RN aa];simp only[Zee];rw[Zb];rfl
  ·simp only;rw[Zem (by rw[Za,WE,g.len];simp)]
 ·subst ht;refine Eq.trans (congrArg (λo=>Option.bind o _) (JU (f:=orF) (l:=b.drop (lg a.length)) (s:=(shK s a b L fill (lg a.length)).2) (c:=-1) (λj c s'=>(c,decide (0<j),(shK s a b L fill (lg a.length)).1,((lg a.length+j:Nat):Int),s'.1.Inputs,s'.2,s'.1.Gates)) (λc s'=>(c,true,(shK s a b L fill (lg a.length)).1,s'.1.Inputs,s'.2,s'.1.Gates)) gl.circ (XN gl.circ) (Dk hb gl _) (λj c s' x hx hc hgr hlc=>?_) (λc s'=>?_) (by rw[Zex];omega))) ?_;rotate_left 2
  ·simp only[Zee,Zep,Zeg,Zen];have gf:=NS hab hl ha hb hf hs hw (L:=L);rw[show accP orF (shK s a b L fill (lg a.length)).2 (-1) (b.drop (lg a.length))=shFar s a b L fill from rfl];rw[spec_seq (f:=finF (shFar s a b L fill).1 fill) (s:=(shFar s a b L fill).2) (l:=(shK s a b L fill (lg a.length)).1) gf.circ (by rw[gl.len];omega) (fin_ok hab hl ha hb hf hs hw) (λj out s' x hx hc hgr hout=>?_) (λout s'=>?_)]
   ·rfl
   ·have hj:=(Zej.1 hx).1;rw[gl.len]at hj;simp only;rw[Zei ah,get?_nat,hx];simp only[Zee]
    erw [eif hc (litN_mono gf.lit hgr.lines) (litN_mono hf ((gl.grow.trans gf.grow).trans hgr).lines) (litN_mono (gl.lits _ (Zel hx)) (gf.grow.trans hgr).lines)]
    simp only[Zee];rw[RN aa];simp only[Zee];rw[Zb];rfl
   ·simp only;rw[Zem (by rw[Za,gl.len];simp)]
  ·rw[Zfb]at hx;have hj:=(Zej.1 hx).1;have hp:¬(2^(lg a.length+j)<a.length):=by rw[Hm _ O _ O];omega
   simp only;rw[Zei ah,ZaV _ O];simp only[Zee];rw[Zei (by rw[Za];simp only[ge_iff_le,Zeq];exact Int.ofNat_le.2 O),get?_nat,hx];simp only[Zee]
   erw [eor hc hlc (litN_mono (hb _ (Zel hx)) (gl.grow.trans hgr).lines)]
   simp only[Zee];rw[Zb];simp[orF];omega
  ·simp only;rw[Zem (by rw[Za,Zex];simp;omega),Zex,show decide (0<b.length-lg a.length)=true by simp;omega]
theorem OA{m:D.builder}(hm:RelB m s):∃m',XI fuel m op a b=some ((shP s a b (op==11) fill).1,m')/\RelB m' (shP s a b (op==11) fill).2:=by
 unfold XI;rw[hF];generalize hL:(op==11)=L;have hlg:=GV a.length O hw;have hlg4:=Zdt a.length;have gl:=Qo hab ha hb hf hs (L:=L) (lg a.length) O;have hcl:∀l:List Int,l.length<=1000->Zi l=some l:=λl h=>by simp_all[Zi,LA]
 have hsh:∀k:Nat,k<16->shl? 1 (IntKind.u64.wrap (k:Int))=some ((2^k:Nat):Int):=λk h=>by grind[u64k,ZaV]
 rw[hcl a O];simp only[Zee];refine ex_pair ?_;refine PD (I:=λk t=>∃m':D.builder,t=((k:Int),(shK s a b L fill k).1,m'.c.Inputs,m'.full,m'.c.Gates,m'.line)/\RelB m' (shK s a b L fill k).2) (R:=λr=>∃m':D.builder,r=(((lg a.length:Nat):Int),(shK s a b L fill (lg a.length)).1,m'.c.Inputs,m'.full,m'.c.Gates,m'.line)/\RelB m' (shK s a b L fill (lg a.length)).2) (m:=lg a.length) (λk t hk ht=>?_) (λt ht=>?_) (lg a.length) 0 _ O ⟨m,rfl,hm⟩ fuel lt_fuel (λr hr=>?_)
 ·obtain⟨m1,rfl,hr⟩:=ht;have g:=Qo hab ha hb hf hs (L:=L) k O;have o:=Za5 hab hb hf g (k:=k) O (L:=L) (2^k);rw[shK_succ];generalize shK s a b L fill k=t at g o hr⊢;have hln:=g.len;have hp:2^k<a.length:=by rw[Hm _ O _ O];omega
  have hkl:decide ((k:Int)<len a)=true:=by grind[Za]
  have hpl:decide (((2^k:Nat):Int)<len a)=true:=by rw[Za,Zeq];exact Int.ofNat_lt.2 hp
  simp only[hkl,Ze2,hsh k O,Zee,hpl,Zf8];rw[hcl t.1 O];simp only[Zee];rw[show len t.1=len a by rw[Za,Za,g.len]];refine DW (seqE (f:=selF (b.getD k 0)) (s:=t.2) (l:=shPairs L (2^k) fill t.1) (λj L m=>((j:Int),L,m.c.Inputs,m.full,m.c.Gates,m.line)) (λL m=>(L,m.c.Inputs,m.full,m.c.Gates,m.line)) g.circ (by rw[WE];omega) o (L0:=t.1) (by rw[WE]) (λj Lj mm s' x hx hc hgr hrr hLl hpre=>?_) (λL mm=>?_) hr λm3 r3=>?_)
  ·obtain⟨hj,rfl⟩:=PL hx;rw[WE]at hLl;have h1:=ZbM (L:=L) (d:=2^k) (j:=j) (fill:=fill) (out:=t.1) O hj O;rw[hln,<-Za]at h1;obtain⟨m4,e4,r4⟩:=iif hc (litN_mono (hb _ (getD_mem (l:=b) (k:=k) O)) (g.grow.trans hgr).lines) (Jb hf g hgr hj) (litN_mono (g.lits _ (getD_mem hj)) hgr.lines) hrr;refine⟨m4,?_,r4⟩;simp only;rw[Zei ah];rw[show(if L=true then some (w64 ((j:Int)-((2^k:Nat):Int)))else some (w64 ((j:Int)+((2^k:Nat):Int))))=some (idx L (2^k) j) by cases L<;>rfl];simp only[Zee];rw[h1,get?_nat,get?_nat,getD_get (l:=b) O,getD_get hj];simp only[Zee]
   erw [e4]
   simp only[Zee];rw[set?_nat O];simp only[Zee];rw[Zb];rfl
  ·simp only;rw[Zem (by rw[Za,WE,g.len];simp)]
  ·refine⟨_,rfl,_, ?_,m3,rfl,r3⟩;simp only;rw[Zb];rfl
 ·obtain⟨m1,rfl,hr⟩:=ht;refine⟨_,?_,m1,rfl,hr⟩;have hp:¬2^lg a.length<a.length:=by rw[Hm _ O _ O];omega
  have hkl:decide (((lg a.length:Nat):Int)<len a)=true:=by rw[Za];simp;omega
  have hpl:decide (((2^lg a.length:Nat):Int)<len a)=false:=by rw[Za,decide_eq_false_iff_not];exact λh=>hp (Int.ofNat_lt.1 h)
  simp only[hkl,Ze2,hsh _ (show lg a.length<16 by omega),Zee,hpl,ZgQ,Zeg,Zen]
 ·obtain⟨m1,rfl,hr⟩:=hr;have gf:=NS hab hl ha hb hf hs hw (L:=L);simp only;rw[show len (shK s a b L fill (lg a.length)).1=len a by rw[Za,Za,gl.len]];rw[Zei ah];refine accE (f:=orF) (l:=b.drop (lg a.length)) (s:=(shK s a b L fill (lg a.length)).2) (c:=-1) (λj c m=>(((lg a.length+j:Nat):Int),c,m.c.Inputs,m.full,m.c.Gates,m.line)) (λc m=>(c,m.c.Inputs,m.full,m.c.Gates,m.line)) gl.circ (XN gl.circ) (by rw[Zex];omega) (Dk hb gl _) (λj c mm s' x hx hc hgr hrr hlc=>?_) (λc mm=>?_) hr λm2 r2=>?_
  ·rw[Zfb]at hx;have hj:=(Zej.1 hx).1;obtain⟨m4,e4,r4⟩:=ior hc hlc (litN_mono (hb _ (Zel hx)) (gl.grow.trans hgr).lines) hrr;refine⟨m4,?_,r4⟩;simp only;rw[Zei ah,get?_nat,hx];simp only[Zee]
   erw [e4]
   simp only[Zee];rw[Zb];rfl
  ·simp only;rw[Zem (by rw[Za,Zex];simp;omega)]
  ·refine seqE (f:=finF (shFar s a b L fill).1 fill) (s:=(shFar s a b L fill).2) (l:=(shK s a b L fill (lg a.length)).1) (L0:=(shK s a b L fill (lg a.length)).1) (λj L m=>((j:Int),L,m.c.Inputs,m.full,m.c.Gates,m.line)) (λL m=>(L,m.c.Inputs,m.full,m.c.Gates,m.line)) gf.circ (by rw[gl.len];omega) (fin_ok hab hl ha hb hf hs hw) rfl (λj Lj mm s' x hx hc hgr hrr hLl hpre=> ?_) (λL mm=> ?_) r2 λm3 r3=>⟨_,rfl,m3,rfl,r3⟩
   ·have hj:=(Zej.1 hx).1;rw[gl.len]at hj hLl;obtain⟨m4,e4,r4⟩:=iif hc (litN_mono gf.lit hgr.lines) (litN_mono hf ((gl.grow.trans gf.grow).trans hgr).lines) (litN_mono (gl.lits _ (Zel hx)) (gf.grow.trans hgr).lines) hrr;refine⟨m4,?_,r4⟩;simp only;rw[Zei ah,get?_nat,hpre j (Zes _),hx];simp only[Zee]
    erw [e4]
    simp only[Zee];rw[set?_nat O];rw[Zb];rfl
   ·rw[Zem (by rw[Za,gl.len];simp)]
end
end Go.Proofs.YtccamimfkohabaaGreatDoor.Cc
end
section
namespace Go.Proofs.YtccamimfkohabaaGreatDoor.Cc
open Go.GL
variable{fuel:Nat}[FU fuel]
def andF2:BS->Int×Int->Int×BS:=λs p=>andP s p.1 p.2
def orF2:BS->Int×Int->Int×BS:=λs p=>orP s p.1 p.2
def xorF2:BS->Int×Int->Int×BS:=λs p=>xorP s p.1 p.2
def eqF:BS->Int->Int×Int->Int×BS:=λs c p=>andP (xorP s p.1 p.2).2 c (-(xorP s p.1 p.2).1)
def flipP(l:List Int):List Int:=l.set (l.length-1) (-(l.getD (l.length-1) 0))
def Tg(l:List Int):(flipP l).length=l.length:=by simp[flipP]
def Tm{n:Int}{l:List Int}(hl:1<=l.length)(h:∀x∈l,litN n x=true):∀x∈flipP l,litN n x=true:=by
 intro x hx;rcases Zgx hx with hx|rfl
 all_goals grind[ZR,getD_mem]
def lessP(s:BS)(a b:List Int):LS:=let r:=addP s a (negs b) 1;([-r.2.1],r.2.2)
def equalP(s:BS)(a b:List Int):LS:=let r:=accP eqF s 1 (a.zip b);([r.1],r.2)
def opP(s:BS)(op:Int)(a b:List Int):LS:=
 if op=3 then((addP s a b (-1)).1,(addP s a b (-1)).2.2)
 else if op=4 then((addP s a (negs b) 1).1,(addP s a (negs b) 1).2.2)
 else if op=5 then mulK s a b a.length
 else if op=6 then((divK s a b a.length).2.1,(divK s a b a.length).2.2)
 else if op=7 then((divK s a b a.length).1,(divK s a b a.length).2.2)
 else if op=8 then seqP andF2 s (a.zip b)
 else if op=9 then seqP orF2 s (a.zip b)
 else if op=10 then seqP xorF2 s (a.zip b)
 else if op=11 then shP s a b true (-1)
 else if op=12 then shP s a b false (-1)
 else if op=13 then shP s a b false (a.getD (a.length-1) 0)
 else if op=14 then equalP s a b
 else if op=15 then lessP s a b
 else lessP s (flipP a) (flipP b)
def KE{op:Int}(h:3<=op/\op<=16):op=3\/op=4\/op=5\/op=6\/op=7\/op=8\/op=9\/op=10\/op=11\/op=12\/op=13\/op=14\/op=15\/op=16:=by omega
def Qq{l:List Int}(h:1<=l.length)(h2:l.length<=1000):get? l (w64 (len l-1))=some (l.getD (l.length-1) 0):=by
 grind[Za,Zb,get?_nat,getD_get]
def Jc{l:List Int}{x:Int}(h:1<=l.length)(h2:l.length<=1000):set? l (w64 (len l-1)) x=some (l.set (l.length-1) x):=by
 grind[Za,Zb,set?_nat]
def Iw{n:Int}{l:List Int}(hn:n<=391)(h:1<=l.length)(h2:l.length<=1000)(hl:∀x∈l,litN n x=true):VX l=some (flipP l):=by
 unfold VX;rw[LA h2];simp only[Zee];rw[Qq h h2];simp only[Zee];rw[Yh (hl _ (getD_mem O)) hn,Jc h h2];rfl
def JN{n:Int}{l:List Int}(hn:n<=391)(h:1<=l.length)(h2:l.length<=1000)(hl:∀x∈l,litN n x=true):XZ l=some (flipP l):=by
 unfold XZ Zi;rw[LA h2];simp only[Zee];rw[Qq h h2];simp only[Zee];rw[Yh (hl _ (getD_mem O)) hn,Jc h h2];rfl
section
variable{s:BS}{a b:List Int}(ha:∀x∈a,litN (lines s.1) x=true)(hb:∀x∈b,litN (lines s.1) x=true)
include ha hb
theorem WS{s':BS}(hg:Grow s.1 s'.1){p:Int×Int}(hp:p∈a.zip b):litN (lines s'.1) p.1=true/\litN (lines s'.1) p.2=true:=by
 have:=ZgG hp;exact⟨litN_mono (ha _ this.1) hg.lines,litN_mono (hb _ this.2) hg.lines⟩
theorem Jg:FOk andF2 s (a.zip b):=λs' p hc hg hp=>have h:=WS ha hb (s':=s') hg hp;YT hc h.1 h.2
theorem HZ:FOk orF2 s (a.zip b):=λs' p hc hg hp=>have h:=WS ha hb (s':=s') hg hp;LM hc h.1 h.2
theorem Ky:FOk xorF2 s (a.zip b):=λs' p hc hg hp=>have h:=WS ha hb (s':=s') hg hp;VZ hc h.1 h.2
theorem Dn:AOk eqF s (a.zip b):=λs' c p hc hg hl hp=>by
 have h:=WS ha hb (s':=s') hg hp;have g1:=VZ hc h.1 h.2;have g2:=YT g1.circ (a:=c) (b:=-(xorP s' p.1 p.2).1) (litN_mono hl g1.grow.lines) (by rw[ZR];exact g1.lit);exact⟨g2.circ,g1.grow.trans g2.grow,g2.lit⟩
end
section
variable{s:BS}(hs:CircP s.1){a b:List Int}(hab:a.length=b.length)(hl:a.length<=15)(ha:∀x∈a,litN (lines s.1) x=true)(hb:∀x∈b,litN (lines s.1) x=true)
include hs hab hl
theorem Mk{f:BS->Int×Int->Int×BS}(hf:FOk f s (a.zip b)){G:D.l04Net->Int->Int->Option (Int×D.l04Net)}
  (hG:∀(s':BS)(p:Int×Int),CircP s'.1->Grow s.1 s'.1->p∈a.zip b->G (net s') p.1 p.2=some ((f s' p).1,net (f s' p).2)):
  iterN (λ(s1:Int×(List Int)×Int×Bool×(List D.Gate))=>if(decide (s1.1<(len a)))then(get? a s1.1).bind λx7=>(get? b s1.1).bind λx8=>(G (D.l04Net.mk (D.Circuit.mk s1.2.2.1 s1.2.2.2.2) s1.2.2.2.1) x7 x8).bind λx9=>(app? s1.2.1 ([x9.1]:List Int)).bind λx10=>some (.inl ((w64 (s1.1+1)),x10,x9.2.c.Inputs,x9.2.full,x9.2.c.Gates))else some (.inr (s1.2.1,s1.2.2.1,s1.2.2.2.1,s1.2.2.2.2))) fuel (0,([]:List Int),s.1.Inputs,s.2,s.1.Gates)=some ((seqP f s (a.zip b)).1,(seqP f s (a.zip b)).2.1.Inputs,(seqP f s (a.zip b)).2.2,(seqP f s (a.zip b)).2.1.Gates):=by
 have hzl:(a.zip b).length=a.length:=by simp_all
 refine spec_seq hs O hf (λj out s' x hx hc hgr hout=>?_) (λout s'=>?_)
 ·have hj:j<a.length:=by
   grind
  have hz:=zip_mem hx;rw[Zei aj,get?_nat,get?_nat,hz.1,hz.2];have e:=hG s' x hc hgr (Zel hx);have e':G (D.l04Net.mk (D.Circuit.mk s'.1.Inputs s'.1.Gates) s'.2) x.1 x.2=_:=e;grind[RN,Zb]
 simp_all[Zem,Za]
theorem NZ{f:BS->Int×Int->Int×BS}(hf:FOk f s (a.zip b)){G:D.builder->Int->Int->Option (Int×D.builder)}
  (hG:∀(s':BS)(p:Int×Int),CircP s'.1->Grow s.1 s'.1->p∈a.zip b->∀m,RelB m s'->∃m',G m p.1 p.2=some ((f s' p).1,m')/\RelB m' (f s' p).2){m:D.builder}(hm:RelB m s):
  ∃ m',iterN (λ(s1:Int×(List Int)×Int×Bool×(List D.Gate)×(List (D.Gate×Int)))=>if(decide (s1.1<(len a)))then(get? a s1.1).bind λx14=>(get? b s1.1).bind λx15=>(G (D.builder.mk (D.Circuit.mk s1.2.2.1 s1.2.2.2.2.1) s1.2.2.2.2.2 s1.2.2.2.1) x14 x15).bind λx16=>(set? s1.2.1 s1.1 x16.1).bind λx17=>some (.inl ((w64 (s1.1+1)),x17,x16.2.c.Inputs,x16.2.full,x16.2.c.Gates,x16.2.line))else some (.inr (s1.2.1,s1.2.2.1,s1.2.2.2.1,s1.2.2.2.2.1,s1.2.2.2.2.2))) fuel (0,List.replicate a.length (0:Int),m.c.Inputs,m.full,m.c.Gates,m.line)=some ((seqP f s (a.zip b)).1,m'.c.Inputs,m'.full,m'.c.Gates,m'.line)/\RelB m' (seqP f s (a.zip b)).2:=by
 have hzl:(a.zip b).length=a.length:=by simp_all
 refine JW (λj L m=>((j:Int),L,m.c.Inputs,m.full,m.c.Gates,m.line)) (λL m=>(L,m.c.Inputs,m.full,m.c.Gates,m.line)) hs O hf ag (λj L mm s' x hx hc hgr hrr hLl hpre=>?_) (λL mm=>?_) hm
 ·have hj:j<a.length:=by
   grind
  have hz:=zip_mem hx;obtain⟨m4,e4,r4⟩:=hG s' x hc hgr (Zel hx) mm hrr;have e4':G (D.builder.mk (D.Circuit.mk mm.c.Inputs mm.c.Gates) mm.line mm.full) x.1 x.2=_:=e4;rw[Zei aj,get?_nat,get?_nat,hz.1,hz.2];grind[set?_nat,Zb]
 simp_all[Zem,Za]
include ha hb
theorem ZcX:iterN (λ(s2:Int×Int×Int×Bool×(List D.Gate))=>if(decide (s2.2.1<(len a)))then(get? a s2.2.1).bind λx20=>(get? b s2.2.1).bind λx21=>(Zr fuel (D.l04Net.mk (D.Circuit.mk s2.2.2.1 s2.2.2.2.2) s2.2.2.2.1) x20 x21).bind λx22=>(Zk fuel x22.2 s2.1 (w64 (0-x22.1))).bind λx23=>some (.inl (x23.1,(w64 (s2.2.1+1)),x23.2.c.Inputs,x23.2.full,x23.2.c.Gates))else some (.inr (s2.1,s2.2.2.1,s2.2.2.2.1,s2.2.2.2.2))) fuel (1,0,s.1.Inputs,s.2,s.1.Gates)=some ((accP eqF s 1 (a.zip b)).1,(accP eqF s 1 (a.zip b)).2.1.Inputs,(accP eqF s 1 (a.zip b)).2.2,(accP eqF s 1 (a.zip b)).2.1.Gates):=by
 have hzl:(a.zip b).length=a.length:=by simp_all
 refine JU (f:=eqF) (s:=s) (c:=1) (l:=a.zip b) (λj c s'=>(c,(j:Int),s'.1.Inputs,s'.2,s'.1.Gates)) (λc s'=>(c,s'.1.Inputs,s'.2,s'.1.Gates)) hs (Su hs) (Dn ha hb) (λj c s' x hx hc hgr hlc=>?_) (λc s'=>?_) lt_fuel
 ·have hj:j<a.length:=by
   grind
  have hz:=zip_mem hx;have hxl:=WS ha hb (s':=s') hgr (Zel hx);have g1:=VZ hc hxl.1 hxl.2;rw[Zei aj,get?_nat,get?_nat,hz.1,hz.2];simp only[Zee];have e1:Zr fuel (D.l04Net.mk (D.Circuit.mk s'.1.Inputs s'.1.Gates) s'.2) x.1 x.2=_:=Np (fuel:=fuel) hc hxl.1 hxl.2;rw[e1];simp only[Zee];have e2:=TI (fuel:=fuel) g1.circ (a:=c) (b:=-(xorP s' x.1 x.2).1) (litN_mono hlc g1.grow.lines) (by rw[ZR];exact g1.lit);rw[Yh g1.lit g1.circ.lines1,e2];rw[Zb];rfl
 simp_all[Zem,Za]
theorem Zcr{m:D.builder}(hm:RelB m s):∃m',XT fuel m a b=some ((accP eqF s 1 (a.zip b)).1,m')/\RelB m' (accP eqF s 1 (a.zip b)).2:=by
 have hzl:(a.zip b).length=a.length:=by simp_all
 unfold XT;refine ex_pair (accE (f:=eqF) (l:=a.zip b) (s:=s) (c:=1) (λj c m=>(c,(j:Int),m.c.Inputs,m.full,m.c.Gates,m.line)) (λc m=>(c,m.c.Inputs,m.full,m.c.Gates,m.line)) hs (Su hs) O (Dn ha hb) (λj c mm s' x hx hc hgr hrr hlc=>?_) (λc mm=>?_) hm λm2 r2=>⟨_,rfl,m2,rfl,r2⟩)
 ·have hj:j<a.length:=by
   grind
  have hz:=zip_mem hx;have hxl:=WS ha hb (s':=s') hgr (Zel hx);have g1:=VZ hc hxl.1 hxl.2;obtain⟨m3,e3,r3⟩:=Ny hc hxl.1 hxl.2 mm hrr;obtain⟨m4,e4,r4⟩:=Tz r3 g1.circ (a:=c) (b:=-(xorP s' x.1 x.2).1) (litN_mono hlc g1.grow.lines) (by rw[ZR];exact g1.lit);refine⟨m4,?_,r4⟩;rw[Zei aj,get?_nat,get?_nat,hz.1,hz.2];simp only[Zee];have e3':Z8 (D.builder.mk (D.Circuit.mk mm.c.Inputs mm.c.Gates) mm.line mm.full) x.1 x.2=_:=e3;rw[e3'];simp only[Zee];rw[Yh g1.lit g1.circ.lines1,e4];rw[Zb];rfl
 ·simp_all[Zem,Za]
theorem Ii:YK fuel (net s) a b=some (-(addP s a (negs b) 1).2.1,net (addP s a (negs b) 1).2.2):=by
 have hnl:=negs_lits hb;have ga:=VP hs aB ha hnl (Su hs);unfold YK;rw[spec_not hs.lines1 O hb];simp only[Zee];rw[Pm hs O aB ha hnl (Su hs)];simp only[Zee];rw[Yh ga.lit ga.circ.lines1]
theorem Im{m:D.builder}(hm:RelB m s):∃m',Xq fuel m a b=some (-(addP s a (negs b) 1).2.1,m')/\RelB m' (addP s a (negs b) 1).2.2:=by
 have hnl:=negs_lits hb;have ga:=VP hs aB ha hnl (Su hs);obtain⟨m2,h2,r2⟩:=QY (fuel:=fuel) hs hm O aB ha hnl (Su hs);unfold Xq;rw[impl_opp hs.lines1 O hb];simp only[Zee];rw[h2];simp only[Zee];rw[Yh ga.lit ga.circ.lines1];simp_all
end
end Go.Proofs.YtccamimfkohabaaGreatDoor.Cc
end
section
namespace Go.Proofs.YtccamimfkohabaaGreatDoor.Cc
open Go.GL
variable{fuel:Nat}[FU fuel]
section
variable{s:BS}(hs:CircP s.1){op:Int}{a b:List Int}(ho:3<=op/\op<=16)(hab:a.length=b.length)(hl:a.length<=15)(hw:1<=a.length)(ha:∀x∈a,litN (lines s.1) x=true)(hb:∀x∈b,litN (lines s.1) x=true)
include hs ho hab hl hw ha hb
def opW(op:Int)(n:Nat):Nat:=if 14<=op then 1 else n
theorem op_good:GoodL s (opW op a.length) (opP s op a b):=by
 have hnl:=negs_lits hb;have hzl:(a.zip b).length=a.length:=by simp_all
 have hla:litN (lines s.1) (a.getD (a.length-1) 0)=true:=ha _ (getD_mem O);have one:∀{x:Int}{t:BS},litN (lines t.1) x=true->∀y∈[x],litN (lines t.1) y=true:=λh y hy=>by simp_all
 have less:∀{u v:List Int},u.length=v.length->(∀x∈u,litN (lines s.1) x=true)->(∀x∈v,litN (lines s.1) x=true)->GoodL s 1 (lessP s u v):=λhuv hu hv=>by
  have g:=VP hs aB hu (negs_lits hv) (Su hs);exact⟨g.circ,g.grow,rfl,one (by rw[ZR];exact g.lit)⟩
 rcases KE ho with rfl|rfl|rfl|rfl|rfl|rfl|rfl|rfl|rfl|rfl|rfl|rfl|rfl|rfl
 ·have g:=VP hs hab ha hb (XN hs);exact⟨g.circ,g.grow,g.len,g.lits⟩
 ·have g:=VP hs aB ha hnl (Su hs);exact⟨g.circ,g.grow,g.len,g.lits⟩
 ·exact ME hs hab ha hb a.length (Zes _)
 ·have g:=PQ hab ha hb hs a.length (Zes _);exact⟨g.circ,g.grow,g.clen,g.clits⟩
 ·have g:=PQ hab ha hb hs a.length (Zes _);exact⟨g.circ,g.grow,g.len,g.lits⟩
 ·have g:=seq_good hs (Jg ha hb);exact⟨g.circ,g.grow,g.len.trans hzl,g.lits⟩
 ·have g:=seq_good hs (HZ ha hb);exact⟨g.circ,g.grow,g.len.trans hzl,g.lits⟩
 ·have g:=seq_good hs (Ky ha hb);exact⟨g.circ,g.grow,g.len.trans hzl,g.lits⟩
 ·exact KQ hab hl ha hb (XN hs) hs hw (L:=true)
 ·exact KQ hab hl ha hb (XN hs) hs hw (L:=false)
 ·exact KQ hab hl ha hb hla hs hw (L:=false)
 ·have g:=Fx hs (Su hs) (Dn ha hb);exact⟨g.circ,g.grow,rfl,one g.lit⟩
 ·exact less hab ha hb
 ·exact less (by simp_all[Tg]) (Tm O ha) (Tm O hb)
theorem spec_op:Yt fuel (net s) op a b=some ((opP s op a b).1,net (opP s op a b).2):=by
 have hnl:=negs_lits hb;have hla:litN (lines s.1) (a.getD (a.length-1) 0)=true:=ha _ (getD_mem O);rcases KE ho with rfl|rfl|rfl|rfl|rfl|rfl|rfl|rfl|rfl|rfl|rfl|rfl|rfl|rfl
 all_goals unfold Yt opP
 all_goals simp only[Int.reduceBEq,Int.reduceEq,Zf9,Bool.or_true,Zgs,Zeg,Ze2,Zen,Zee]
 ·rw[Pm hs O hab ha hb (XN hs)];rfl
 ·rw[spec_not hs.lines1 O hb];simp only[Zee];rw[Pm hs O (by rw[negs_len];exact hab) ha hnl (Su hs)];rfl
 ·rw[Zb9 hs hab O ha hb];rfl
 ·rw[Ep hs hab O ha hb];rfl
 ·rw[Ep hs hab O ha hb];rfl
 ·have h:=Mk (fuel:=fuel) hs hab hl (Jg ha hb) (G:=Zk fuel) (λs' p hc hg hp=>have h:=WS ha hb (s':=s') hg hp;TI hc h.1 h.2);rw[h];rfl
 ·have h:=Mk (fuel:=fuel) hs hab hl (HZ ha hb) (G:=Zw fuel) (λs' p hc hg hp=>have h:=WS ha hb (s':=s') hg hp;LP hc h.1 h.2);rw[h];rfl
 ·have h:=Mk (fuel:=fuel) hs hab hl (Ky ha hb) (G:=Zr fuel) (λs' p hc hg hp=>have h:=WS ha hb (s':=s') hg hp;Np hc h.1 h.2);rw[h];rfl
 ·rw[Oz hs hab hl hw ha hb (XN hs) rfl];rfl
 ·rw[Oz hs hab hl hw ha hb (XN hs) rfl];rfl
 ·rw[Oz hs hab hl hw ha hb hla (by rw[ifp,Qq hw O];rfl)];rfl
 ·have h:=ZcX (fuel:=fuel) hs hab hl ha hb;rw[h];rfl
 ·rw[Ii hs hab hl ha hb];rfl
 ·rw[Iw hs.lines1 hw O ha,Iw hs.lines1 O O hb];simp only[Zee];rw[Ii hs (by rw[Tg,Tg];exact hab) (by rw[Tg];exact hl) (Tm O ha) (Tm O hb)];rfl
theorem impl_op{m:D.builder}(hm:RelB m s):∃m',ZT fuel m op a b=some ((opP s op a b).1,m')/\RelB m' (opP s op a b).2:=by
 have hnl:=negs_lits hb;have hla:litN (lines s.1) (a.getD (a.length-1) 0)=true:=ha _ (getD_mem O);rcases KE ho with rfl|rfl|rfl|rfl|rfl|rfl|rfl|rfl|rfl|rfl|rfl|rfl|rfl|rfl
 all_goals unfold ZT opP
 all_goals simp only[Int.reduceBEq,Int.reduceEq,Zf9,Bool.or_true,Zgs,Zeg,Ze2,Zen,Zee]
 ·obtain⟨m1,h1,r1⟩:=QY (fuel:=fuel) hs hm O hab ha hb (XN hs);rw[h1];exact⟨m1,rfl,r1⟩
 ·rw[impl_opp hs.lines1 O hb];simp only[Zee];obtain⟨m1,h1,r1⟩:=QY (fuel:=fuel) hs hm O (by rw[negs_len];exact hab) ha hnl (Su hs);rw[h1];exact⟨m1,rfl,r1⟩
 ·obtain⟨m1,h1,r1⟩:=Zcc (fuel:=fuel) hs hab O ha hb hm;rw[h1];exact⟨m1,rfl,r1⟩
 ·obtain⟨m1,h1,r1⟩:=FN (fuel:=fuel) hs hab O ha hb hm;rw[h1];exact⟨m1,rfl,r1⟩
 ·obtain⟨m1,h1,r1⟩:=FN (fuel:=fuel) hs hab O ha hb hm;rw[h1];exact⟨m1,rfl,r1⟩
 ·obtain⟨m1,h1,r1⟩:=NZ (fuel:=fuel) hs hab hl (Jg ha hb) (G:=Zl) (λs' p hc hg hp m hm=>have h:=WS ha hb (s':=s') hg hp;Tz hm hc h.1 h.2) hm;rw[mk?_len av];simp only[Zee];rw[h1];exact⟨m1,rfl,r1⟩
 ·obtain⟨m1,h1,r1⟩:=NZ (fuel:=fuel) hs hab hl (HZ ha hb) (G:=ZH) (λs' p hc hg hp m hm=>have h:=WS ha hb (s':=s') hg hp;Ls hc h.1 h.2 m hm) hm;rw[mk?_len av];simp only[Zee];rw[h1];exact⟨m1,rfl,r1⟩
 ·obtain⟨m1,h1,r1⟩:=NZ (fuel:=fuel) hs hab hl (Ky ha hb) (G:=Z8) (λs' p hc hg hp m hm=>have h:=WS ha hb (s':=s') hg hp;Ny hc h.1 h.2 m hm) hm;rw[mk?_len av];simp only[Zee];rw[h1];exact⟨m1,rfl,r1⟩
 ·obtain⟨m1,h1,r1⟩:=OA (fuel:=fuel) (op:=11) hs hab hl hw ha hb (XN hs) rfl hm;rw[h1];exact⟨m1,rfl,r1⟩
 ·obtain⟨m1,h1,r1⟩:=OA (fuel:=fuel) (op:=12) hs hab hl hw ha hb (XN hs) rfl hm;rw[h1];exact⟨m1,rfl,r1⟩
 ·obtain⟨m1,h1,r1⟩:=OA (fuel:=fuel) (op:=13) hs hab hl hw ha hb hla (by rw[ifp,Qq hw O];rfl) hm;rw[h1];exact⟨m1,rfl,r1⟩
 ·obtain⟨m1,h1,r1⟩:=Zcr (fuel:=fuel) hs hab hl ha hb hm;rw[h1];exact⟨m1,rfl,r1⟩
 ·obtain⟨m1,h1,r1⟩:=Im (fuel:=fuel) hs hab hl ha hb hm;rw[h1];exact⟨m1,rfl,r1⟩
 ·rw[JN hs.lines1 hw O ha,JN hs.lines1 O O hb];simp only[Zee];obtain⟨m1,h1,r1⟩:=Im (fuel:=fuel) hs (by rw[Tg,Tg];exact hab) (by rw[Tg];exact hl) (Tm O ha) (Tm O hb) hm;rw[h1];exact⟨m1,rfl,r1⟩
end
end Go.Proofs.YtccamimfkohabaaGreatDoor.Cc
end
section
namespace Go.Proofs.YtccamimfkohabaaGreatDoor
open Go.GL
def Ia{l:List Int}{m:Int}(hl:l.length<=9223372036854775807)(h0:0<=m)(h1:m<=1048576):UD l m=some (if m-l.length<0 then-1 else m-l.length):=by
 unfold UD;rw[Za,Zb];by_cases h:m-(l.length:Int)<0
 ·rw[Zei az,Zei h]
 ·rw[Zem az,Zem h]
def fuel:Nat:=4194400
theorem lt_fuel{n:Nat}(h:n<=1048576:=by omega):n<fuel:=by unfold fuel;omega
def Iq{l:List Int}(h:l.length<=1048576):WG fuel l=some l:=by
 unfold WG;rw[mk?_len av];simp only[Zee];rw[OC O (lt_fuel h)];rfl
def Mt{p q:List Int}(h:p.length<=1048576):Wl fuel p q=some (decide (p=q)):=Kb O (lt_fuel h)
theorem SX{α:Type}{l:List α}{f:α->Option Bool}{b:α->Bool}(hf:∀x∈l,f x=some (b x))(hb:l.length<=9223372036854775807):∀(d i:Nat),i+d=l.length->∀n,d<n->
  iterN (λ(s1:Int)=>if(decide (s1<(len l)))then(get? l s1).bind λx1=>(f x1).bind λx2=>if(!x2)then some (.inr (.inr false))else some (.inl ((w64 (s1+1))))else some (.inr (.inl ()))) n (i:Int)=some (if(l.drop i).all b then(.inl ():Unit⊕Bool)else .inr false)
 |0,i,hi,n,hn=>by
  obtain⟨n,rfl⟩:∃j,n=j+1:=⟨n-1,by omega⟩;unfold iterN;rw[Zem ah];simp[Zfw (show l.length<=i by omega)]
 | d+1,i,hi,n,hn=>by
  obtain⟨n,rfl⟩:∃j,n=j+1:=⟨n-1,by omega⟩;have hp:i<l.length:=by omega
  unfold iterN;rw[Zei ah,get?_nat,Zef hp];simp only[Zee];rw[hf _ (ZeI hp),Ze8 hp];simp only[Zee,Zgf];by_cases h:b l[i]=true
  ·rw[Zem (by simp[h])];simp only;rw[Zb,show((i:Int)+1)=((i+1:Nat):Int) by omega,SX hf hb d (i+1) O n O];simp only[h,ZeJ]
  ·rw[Zei (by simp[h])];simp[h]
def Zar{l:List D.Ins}{m:Int}(hl:l.length<=9223372036854775807)(h0:0<=m)(h1:m<=1048576):TC l m=some (if m-l.length<0 then-1 else m-l.length):=by
 unfold TC;rw[Za,Zb];by_cases h:m-(l.length:Int)<0
 ·rw[Zei az,Zei h]
 ·rw[Zem az,Zem h]
def Gm{x:D.Program}{m:Int}(hx:PM x)(h0:0<=m)(h1:m<=1048576):∃r,Vz x m=some r/\(r<0\/0<=r/\r<=1048576/\x.Code.length<=1048576):=by
 obtain⟨-,-,-,hr,-⟩:=hx;unfold Vz;rw[Zar hr h0 h1];simp only[Zee];by_cases c1:m-(x.Code.length:Int)<0
 ·rw[Zei c1];exact⟨_,rfl,.inl O⟩
 rw[Zem c1,Zem (by simpa using c1)];exact⟨_,rfl,.inr ⟨by omega,by omega,by omega⟩⟩
def Zan{l:List D.Ins}(h:l.length<=1048576):TM fuel l=some l:=by
 unfold TM;rw[mk?_len av];simp only[Zee,Qs];rw[OC O (lt_fuel h)];rfl
def IW{x:D.Program}(h:x.Code.length<=1048576):Xo fuel x=some x:=by
 unfold Xo;rw[Zan h];rfl
def Zbs(x y:D.Ins):SN x y=some (decide (x=y)):=by
 unfold SN;cases x;cases y;simp only[D.Ins.mk.injEq];grind
def Ah{p q:List D.Ins}(h:p.length<=1048576):TR fuel p q=some (decide (p=q)):=by
 unfold TR;simp only[Zbs,Zee];exact Kb O (lt_fuel h)
def Kk{x:D.Program}(h:x.Code.length<=1048576):Vn fuel x x=some true:=by
 unfold Vn;rw[Ah h];simp
theorem CU{w:Int}(h1:1<=w)(h2:w<=16):∃m:Int,shl? 1 w=some m/\shl? 1 (IntKind.u64.wrap w)=some m/\w64 (m-1)=m-1:=by
 have:w=1\/w=2\/w=3\/w=4\/w=5\/w=6\/w=7\/w=8\/w=9\/w=10\/w=11\/w=12\/w=13\/w=14\/w=15\/w=16:=by omega
 rcases this with rfl|rfl|rfl|rfl|rfl|rfl|rfl|rfl|rfl|rfl|rfl|rfl|rfl|rfl|rfl|rfl<;>exact⟨_,rfl,by decide,by decide⟩
def Mh(w v:Int):∃b,ZF w v=some b/\ZU w v=some b:=by
 unfold ZF ZU Zc Yk;by_cases h:1<=w/\w<=16
 ·obtain⟨m,h1,h2,h3⟩:=CU h.1 h.2;refine⟨decide (0<=v)&&decide (v<m),?_,?_⟩
  ·simp only[ge_iff_le,h.1,h.2,decide_true,Zf8,Zee,Ze2,h1,h3,ZeJ,Option.some.injEq];rw[Zf6];simp only[Zek,Zeq];omega
  ·by_cases hv:0<=v
   ·simp[h.1,h.2,hv,h2]
   ·simp[h.1,h.2,hv]
 ·refine⟨false, ?_, ?_⟩
  ·by_cases a:1<=w
   ·have b:¬w<=16:=λb=>h ⟨a,b⟩;simp[a,b]
   ·simp[a]
  ·by_cases a:1<=w
   ·have b:¬w<=16:=λb=>h ⟨a,b⟩;simp[a,b]
   ·simp[a]
def Gf{c:Bool}{b:Bool}:(if c=true then some b else some default)=some (if c=true then b else default):=by split<;>rfl
def OV{c:Bool}{b:Bool}:(if c=true then some default else some b)=some (if c=true then default else b):=by split<;>rfl
def Eg(p:D.Ins)(w n:Int):∃b,WK p w n=some b/\Uw p w n=some b:=by
 obtain⟨wb,hw1,hw2⟩:=Mh w p.B;have hr:∀a,Xj a=some (decide (0<=a/\a<=3)):=by
  intro a;simp[Xj,Zc]
 have hr':∀a,XM a=some (decide (0<=a/\a<=3)):=by
  intro a;simp only[XM,Bool.decide_and];grind
 have hi:∀a b c,Zc a b c=some (decide (b<=a)&&decide (a<=c)):=by
  intro a b c;simp[Zc]
 have ht:∀a,YP a=some (decide (3<=a)&&decide (a<=16)):=by
  intro a;simp[YP]
 obtain⟨op,a,b,c⟩:=p;simp only at hw1 hw2;unfold WK Uw;simp only[hr,hr',hi,ht,hw1,hw2,Zee,Gf];by_cases e1:op=1
 ·subst e1;grind
 by_cases e2:op=2
 ·subst e2;grind
 by_cases e3:op=3
 ·subst e3;grind
 by_cases e4:op=4
 ·subst e4;grind
 by_cases e5:op=5
 ·subst e5;grind
 by_cases e6:op=6
 ·subst e6;grind
 by_cases e7:op=7
 ·subst e7;grind
 by_cases e8:op=8
 ·subst e8;grind
 by_cases e9:op=9
 ·subst e9;grind
 by_cases e10:op=10
 ·subst e10;grind
 by_cases e11:op=11
 ·subst e11;grind
 by_cases e12:op=12
 ·subst e12;grind
 by_cases e13:op=13
 ·subst e13;grind
 by_cases e14:op=14
 ·subst e14;grind
 simp[e1,e2,e3,e4,e5,e6,e7,e8,e9,e10,e11,e12,e13,e14]
def insB(w n:Int)(p:D.Ins):Bool:=(WK p w n).getD false
def Zb2(w n:Int)(p:D.Ins):WK p w n=some (insB w n p):=by
 obtain⟨b,h,-⟩:=Eg p w n;simp[insB,h]
def Zbz(w n:Int)(p:D.Ins):Uw p w n=some (insB w n p):=by
 obtain⟨b,h,h'⟩:=Eg p w n;simp[insB,h,h']
def wordB(w v:Int):Bool:=(ZF w v).getD false
def XC(w v:Int):ZF w v=some (wordB w v):=by
 obtain⟨b,h,-⟩:=Mh w v;simp[wordB,h]
def Wp(w v:Int):ZU w v=some (wordB w v):=by
 obtain⟨b,h,h'⟩:=Mh w v;simp[wordB,h,h']
def progB(x:D.Program):Bool:=
 decide (2<=x.W/\x.W<=8)&&decide (1<=x.Mem/\x.Mem<=6)&&wordB x.W x.Mem&&decide (0<=x.In/\x.In<=3)&&decide (1<=(x.Code.length:Int)/\(x.Code.length:Int)<=40)&&x.Code.all (insB x.W x.Code.length)
def AQ{x:D.Program}(h:x.Code.length<=1048576):VC fuel x=some (progB x):=by
 unfold VC;have hi:∀a b c,Zc a b c=some (decide (b<=a/\a<=c)):=by
  intro a b c;simp[Zc]
 have hl:=SX (l:=x.Code) (f:=λp=>WK p x.W (len x.Code)) (b:=insB x.W x.Code.length) (λp _=>Zb2 _ _ p) O x.Code.length 0 O fuel (lt_fuel h);rw[show((0:Nat):Int)=0 from rfl]at hl;simp only[hi,XC,Zee,OV];rw[hl,Za];unfold progB;simp only[Zfr];cases x.Code.all (insB x.W x.Code.length)<;>cases wordB x.W x.Mem<;>simp only[Zee,Ze2,Zen,Zeg]<;>grind
def Zat{x:D.Program}(h:x.Code.length<=1048576):VA fuel x=some (progB x):=by
 unfold VA;have hl:=SX (l:=x.Code) (f:=λp=>Uw p x.W (len x.Code)) (b:=insB x.W x.Code.length) (λp _=>Zbz _ _ p) O x.Code.length 0 O fuel (lt_fuel h);rw[show((0:Nat):Int)=0 from rfl]at hl;simp only[SB,Wp,Zee,OV];rw[hl,Za];unfold progB;simp only[Zfr];clear hl;by_cases a1:2<=x.W<;>by_cases a2:x.W<=8<;>by_cases a3:1<=(x.Code.length:Int)<;>by_cases a4:(x.Code.length:Int)<=40<;>simp only[ge_iff_le,a1,a2,a3,a4,decide_true,decide_false,ZfL,ZgQ,ZeJ,Zg0,Zf8,and_self,ZgK,and_false]<;>
  cases x.Code.all (insB x.W x.Code.length)<;>cases wordB x.W x.Mem<;>simp only[Zee,Ze2,Zen,Zeg,Bool.decide_and]<;>grind
def ZV{σt ρt:Type}{B:σt->Option (σt⊕ρt)}{s:σt}{r:ρt}{n:Nat}(h:B s=some (.inr r))(hn:0<n):iterN B n s=some r:=by
 obtain⟨m,rfl⟩:∃m,n=m+1:=⟨n-1,by omega⟩;rw[iterN,h]
theorem Uc(s:Str):Str.eqb s s=true:=by unfold Str.eqb;simp
theorem JJ{S ρ α σ:Type}{l:List α}{B:S->Option (S⊕ρ)}(enc:Nat->σ->S)(I:List α->σ->Prop)(R:ρ->Prop)
  (hs:∀k x xs a,k<l.length->l[k]? =some x->l.length=k+(x::xs).length->I (x::xs) a->(∃a',B (enc k a)=some (.inl (enc (k+1) a'))/\I xs a')\/∃r,B (enc k a)=some (.inr r)/\R r)
  (he:∀a,I [] a->∃r,B (enc l.length a)=some (.inr r)/\R r):
  ∀(ys:List α)(k:Nat)(a:σ)(n:Nat),l.drop k=ys->k<=l.length->I ys a->ys.length<n->∃r,iterN B n (enc k a)=some r/\R r
 | [],k,a,n,hd,hk,hI,hn=>by
  obtain⟨n,rfl⟩:∃j,n=j+1:=⟨n-1,by omega⟩;have:k=l.length:=by
   have:=congrArg List.length hd;simp at this;omega
  subst this;obtain⟨r,h1,h2⟩:=he a hI;exact⟨r,by unfold iterN;rw[h1],h2⟩
 | x::xs,k,a,n,hd,hk,hI,hn=>by
  obtain⟨n,rfl⟩:∃j,n=j+1:=⟨n-1,by omega⟩;have hl:l.length=k+(x::xs).length:=by
   have:=congrArg List.length hd;simp at this⊢;omega
  have hk':k<l.length:=by simp at hl;omega
  have hx:l[k]? =some x:=by
   have h0:(l.drop k)[0]? =some x:=by rw[hd];rfl
   rw[Zfb]at h0;simpa using h0
  rcases hs k x xs a hk' hx hl hI with⟨a',h1,h2⟩|⟨r,h1,h2⟩
  ·obtain⟨r,g1,g2⟩:=JJ enc I R hs he xs (k+1) a' n (by rw[<-List.drop_drop,hd];rfl) O h2 (by simp at hn;omega);exact⟨r,by unfold iterN;rw[h1];exact g1,g2⟩
  ·exact⟨r,by unfold iterN;rw[h1],h2⟩
def Wx{S ρ α σ:Type}{l:List α}{B:S->Option (S⊕ρ)}(enc:Nat->σ->S)(I:List α->σ->Prop)(R:ρ->Prop)
  (hs:∀k x xs a,k<l.length->l[k]? =some x->l.length=k+(x::xs).length->I (x::xs) a->(∃a',B (enc k a)=some (.inl (enc (k+1) a'))/\I xs a')\/∃r,B (enc k a)=some (.inr r)/\R r)
  (he:∀a,I [] a->∃r,B (enc l.length a)=some (.inr r)/\R r){a:σ}{n:Nat}(hI:I l a)(hn:l.length<n):∃r,iterN B n (enc 0 a)=some r/\R r:=
 JJ enc I R hs he l 0 a n rfl (Zfi _) hI hn
def We{S ρ α σ γ:Type}{l:List α}{B:S->Option (S⊕ρ)}{K:ρ->Option γ}{z:Option γ}(enc:Nat->σ->S)(I:List α->σ->Prop)(R:ρ->Prop)
  (hs:∀k x xs a,k<l.length->l[k]? =some x->l.length=k+(x::xs).length->I (x::xs) a->(∃a',B (enc k a)=some (.inl (enc (k+1) a'))/\I xs a')\/∃r,B (enc k a)=some (.inr r)/\R r)
  (he:∀a,I [] a->∃r,B (enc l.length a)=some (.inr r)/\R r){a:σ}{n:Nat}(hI:I l a)(hn:l.length<n)(h:∀r,R r->K r=z):(iterN B n (enc 0 a)).bind K=z:=by
 obtain⟨r,h1,h2⟩:=Wx enc I R hs he hI hn;rw[h1];exact h r h2
def VQ{S ρ α σ:Type}{l:List α}{B:S->Option (S⊕ρ)}{z:Option ρ}(enc:Nat->σ->S)(I:List α->σ->Prop)(R:ρ->Prop)
  (hs:∀k x xs a,k<l.length->l[k]? =some x->l.length=k+(x::xs).length->I (x::xs) a->(∃a',B (enc k a)=some (.inl (enc (k+1) a'))/\I xs a')\/∃r,B (enc k a)=some (.inr r)/\R r)
  (he:∀a,I [] a->∃r,B (enc l.length a)=some (.inr r)/\R r){a:σ}{n:Nat}(hI:I l a)(hn:l.length<n)(h:∀r,R r->some r=z):iterN B n (enc 0 a)=z:=by
 obtain⟨r,h1,h2⟩:=Wx enc I R hs he hI hn;rw[h1];exact h r h2
def IQ{S ρ α σ γ:Type}{l:List α}{B:S->Option (S⊕ρ)}{K:ρ->Option γ}{z:Option γ}(enc:Nat->σ->S)(I:List α->σ->Prop)(R:ρ->Prop)
  (hs:∀k x xs a,k<l.length->l[k]? =some x->l.length=k+(x::xs).length->I (x::xs) a->(∃a',B (enc k a)=some (.inl (enc (k+1) a'))/\I xs a')\/∃r,B (enc k a)=some (.inr r)/\R r)
  (he:∀a,I [] a->∃r,B (enc l.length a)=some (.inr r)/\R r){a:σ}{n:Nat}(hI:I l a)(hn:l.length<n)(h:(iterN B n (enc 0 a)).bind K=z):∃r,R r/\K r=z:=by
 obtain⟨r,h1,h2⟩:=Wx enc I R hs he hI hn;rw[h1]at h;exact⟨r,h2,h⟩
def Iu{S ρ α σ γ:Type}{l:List α}{B:S->Option (S⊕ρ)}{K:ρ->Option γ}{P:Option γ->Prop}(enc:Nat->σ->S)(I:List α->σ->Prop)(R:ρ->Prop)
  (hs:∀k x xs a,k<l.length->l[k]? =some x->l.length=k+(x::xs).length->I (x::xs) a->(∃a',B (enc k a)=some (.inl (enc (k+1) a'))/\I xs a')\/∃r,B (enc k a)=some (.inr r)/\R r)
  (he:∀a,I [] a->∃r,B (enc l.length a)=some (.inr r)/\R r){a:σ}{n:Nat}(hI:I l a)(hn:l.length<n)(h:∀r,R r->P (K r)):P ((iterN B n (enc 0 a)).bind K):=by
 obtain⟨r,h1,h2⟩:=Wx enc I R hs he hI hn;rw[h1];exact h r h2
mutual
def msz:D.Term->Nat
 |⟨_,_,_,s,k⟩=>s.bytes.length+k.length+mszs k
def mszs:List D.Term->Nat
 |[]=>0
 |x::l=>msz x+mszs l
end
theorem Vi(t:D.Term):msz t=t.Name.bytes.length+t.Kids.length+mszs t.Kids:=by cases t;rw[msz]
theorem UZ(x:D.Term)(l:List D.Term):mszs (x::l)=msz x+mszs l:=by rw[mszs]
theorem PH:mszs []=0:=by rw[mszs]
theorem WT{x:D.Term}:∀{l:List D.Term},x∈l->msz x<=mszs l
 |y::l,h=>by
  rw[UZ];rcases ZeR.1 h with rfl|h
  ·omega
  ·have:=WT h;omega
def Fz(t:D.Term):Xy t↔fitInt t.Op/\fitInt t.W/\fitInt t.N/\t.Name.bytes.length<=9223372036854775807/\fitList Xy t.Kids:=by
 cases t;rw[Xy,RQ];rfl
theorem szT:∀n:Nat,(∀(t:D.Term)(m:Int),Xy t->0<=m->m<=1048576->2*m+3<=n->∃r,VE n t m=some r/\(r<0\/0<=r/\r=m-msz t))/\
  (∀(l:List D.Term)(m:Int),fitList Xy l->0<=m->m<=1048576->2*m+2<=n->∃r,Y0 n l m=some r/\(r<0\/0<=r/\r=m-l.length-mszs l)):=by
 intro n
 induction n with
 |zero=>grind
 | succ n ih=>
  refine⟨λt m hf h0 h1 hn=>?_,λl m hf h0 h1 hn=>?_⟩
  ·obtain⟨-,-,-,hs,hk⟩:=(Fz t).1 hf;rw[Vi];unfold VE;rw[Za,Zb];by_cases c:m-(t.Name.bytes.length:Int)<0
   ·simp_all
   ·rw[Zem aA];obtain⟨r,g1,g2⟩:=ih.2 t.Kids (m-(t.Name.bytes.length:Int)) hk O O O;grind
  ·obtain⟨hl,hk⟩:=hf;unfold Y0;rw[Za,Zb];by_cases c:m-(l.length:Int)<0
   ·simp_all
   ·rw [Zem aA]
    obtain⟨r,g1,g2⟩:=Wx (l:=l) (n:=n) (σ:=Int) (ρ:=Int⊕Int) (B:=λ(s1:Int×Int)=>if(decide (s1.2<(l.length:Int)))then(get? l s1.2).bind λx1=>(VE n x1 s1.1).bind λx2=>if(decide (x2<0))then some (.inr (.inr (-1)))else some (.inl (x2,(w64 (s1.2+1))))else some (.inr (.inl (s1.1)))) (λk(a:Int)=>(a,(k:Int))) (λys a=>0<=a/\a<=m-l.length/\a-mszs ys=m-l.length-mszs l/\∀x∈ys,Xy x) (λr=>r= .inr (-1)\/∃v,r= .inl v/\0<=v/\v=m-l.length-mszs l)
      (λk x xs a hk' hx hlen⟨i0,i1,i2,i3⟩=>by
       rw[UZ]at i2;obtain⟨r,g1,g2⟩:=ih.1 x a (i3 x U) i0 O O;simp only[get?_nat,hx,Zee,g1];rw[Zei (by simpa using hk')];rcases g2 with g2|⟨g2,g3⟩
       ·rw[Zei (by simpa using g2)];exact .inr ⟨_,rfl,.inl rfl⟩
       ·rw[Zem (by simpa using g2)]
        refine .inl ⟨r,by rw[Zb];rfl,g2,by omega,by omega,λy hy=>i3 y au⟩)
      (λa⟨i0,i1,i2,_⟩=>by
       rw[PH]at i2;rw[ifn]
       exact⟨_,rfl,.inr ⟨a,rfl,i0,by omega⟩⟩) (a:=m-l.length) ⟨by omega,by omega,rfl,hk⟩ O
    rw[show((0:Nat):Int)=0 from rfl]at g1;rw[g1];rcases g2 with rfl|⟨v,rfl,g2,g3⟩
    ·exact⟨_,rfl,.inl ay⟩
    ·exact⟨_,rfl,.inr ⟨g2,by omega⟩⟩
def sml(l:List D.Term):Prop:=l.length+mszs l<=1048576
def szTS{l:List D.Term}{m:Int}(hf:fitList Xy l)(h0:0<=m)(h1:m<=1048576):∃r,Y0 fuel l m=some r/\(r<0\/0<=r/\r<=m/\sml l):=by
 obtain⟨r,h2,h3⟩:=(szT fuel).2 l m hf h0 h1 aP;grind[sml]
theorem toT:∀n:Nat,(∀t:D.Term,msz t<=1048576->1048580+2*msz t+1<=n->UG n t=some t)/\(∀l:List D.Term,sml l->1048580+2*(l.length+mszs l)<=n->Yz n l=some l):=by
 intro n
 induction n with
 |zero=>simp
 | succ n ih=>
  refine⟨λt h hn=>?_,λl h hn=>?_⟩
  ·have:=Vi t;unfold UG;rw[ih.2 t.Kids (by grind[sml]) O];cases t;rfl
  ·unfold sml at h;unfold Yz;rw[mk?_len aO];refine We (l:=l) (n:=n) (σ:=List D.Term) (λk(a:List D.Term)=>((k:Int),a)) (λys a=>(∃zs:List D.Term,a=l.take (l.length-ys.length)++zs/\zs.length=ys.length)/\∀x∈ys,x∈l) (λr=>r=l)
     (λk x xs a hk' hx hlen⟨⟨zs,hz,hz'⟩,hm⟩=>by
      have hxl:=hm x U;have:=WT hxl;simp only[Ze3]at hlen hz' hz;simp only[get?_nat,hx,Zee,Za];rw[Zei an,ih.1 x O O];simp only[Zee];obtain⟨z,zs,rfl⟩:∃z zs',zs=z::zs':=by cases zs with|nil=>simp at hz'|cons z zs=>simp
      have e1:l.length-(xs.length+1)=k:=by omega
      rw[e1]at hz;subst hz;rw[set?_nat ag];refine .inl ⟨_,by rw[Zb];rfl,⟨zs,?_,by simpa using hz'⟩,λy hy=>hm y au⟩;have e2:l.length-xs.length=k+1:=by omega
      rw[e2,List.take_add_one,hx];have e3:(l.take k).length=k:=by simp;omega
      simp[e3])
     (λa⟨⟨zs,hz,hz'⟩,_⟩=>by
      rw[Zem ao];simp at hz';subst hz';simp at hz
      exact⟨_,rfl,hz⟩) (a:=List.replicate l.length _) ⟨⟨_,(by simp;rfl),U⟩,λx hx=>hx⟩ O λr g2=>?_
   subst g2;rfl
def toTS{l:List D.Term}(h:sml l):Yz fuel l=some l:=(toT fuel).2 l h (by grind[sml,fuel])
theorem eqT:∀n:Nat,(∀t:D.Term,msz t<=1048576->1048580+2*msz t+1<=n->UH n t t=some true)/\(∀l:List D.Term,sml l->1048580+2*(l.length+mszs l)<=n->Y2 n l l=some true):=by
 intro n
 induction n with
 |zero=>simp
 | succ n ih=>
  refine⟨λt h hn=>?_,λl h hn=>?_⟩
  ·grind[Vi,UH,sml,Uc]
  ·unfold sml at h;unfold Y2;rw[ifn];refine We (l:=l) (n:=n) (σ:=Unit) (λk(_:Unit)=>(k:Int)) (λys _=>∀x∈ys,x∈l) (λr=>r=(.inl ():Unit⊕Bool))
     (λk x xs a hk' hx hlen hm=>by
      have hxl:=hm x U;have:=WT hxl;simp only[get?_nat,hx,Zee,Za];rw[Zei an,ih.1 x O O];refine .inl ⟨(),?_,λy hy=>hm y au⟩;simp only[Zee]
      rw[ifn,Zb];rfl)
     (λa _=>by
      simp[Zem,Za]) (a:=()) (λx hx=>hx) O λr g2=>?_
   simp_all
def eqTS{l:List D.Term}(h:sml l):Y2 fuel l l=some true:=(eqT fuel).2 l h (by grind[sml,fuel])
def smallP(x:D.Path):Prop:=sml x.Regs/\sml x.Mem/\x.Stack.length<=1048576/\sml x.Out/\sml x.Cond/\x.Turns.length<=1048576
theorem Ae{x:D.Path}{m:Int}(hx:NN x)(h0:0<=m)(h1:m<=1048576):∃r,UE fuel x m=some r/\(r<0\/0<=r/\r<=m/\smallP x):=by
 obtain⟨-,f1,f2,f3,-,f4,-,-,f5,f6⟩:=hx;unfold UE;obtain⟨r1,e1,c1⟩:=szTS f1 h0 h1;rw[e1];simp only[Zee];rcases c1 with c1|⟨c1,d1,s1⟩
 ·simp_all
 rw[Zem ag];obtain⟨r2,e2,c2⟩:=szTS f2 c1 O;rw[e2];simp only[Zee];rcases c2 with c2|⟨c2,d2,s2⟩
 ·simp_all
 rw[Zem ag,Ia f3.1 c2 O];simp only[Zee];by_cases c3:r2-(x.Stack.length:Int)<0
 ·simp_all
 rw[Zem c3,Zem ag];obtain⟨r4,e4,c4⟩:=szTS f4 (m:=r2-(x.Stack.length:Int)) O O;rw[e4];simp only[Zee];rcases c4 with c4|⟨c4,d4,s4⟩
 ·simp_all
 rw[Zem ag];obtain⟨r5,e5,c5⟩:=szTS f5 c4 O;rw[e5];simp only[Zee];rcases c5 with c5|⟨c5,d5,s5⟩
 ·simp_all
 rw[Zem ag,Ia f6.1 c5 O];simp only[Zee];by_cases c6:r5-(x.Turns.length:Int)<0
 ·simp_all
 rw[Zem c6,Zem ag];exact⟨_,rfl,.inr ⟨by omega,by omega,s1,s2,by omega,s4,s5,by omega⟩⟩
def BD{x:D.Path}{m:Int}(hx:NN x)(h0:0<=m)(h1:m<=1048576):∃r,UE fuel x m=some r/\(r<0\/0<=r/\smallP x):=by
 grind[Ae,id]
def BA{x:D.Path}(h:smallP x):WF fuel x=some x:=by
 obtain⟨h1,h2,h3,h4,h5,h6⟩:=h;simp_all[WF,toTS,Iq]
def FJ{x:D.Path}(h:smallP x):TA fuel x x=some true:=by
 obtain⟨h1,h2,h3,h4,h5,h6⟩:=h;simp_all[TA,eqTS,Mt]
set_option maxRecDepth 100000
mutual
def cnt:D.Term->Nat
 |⟨_,_,_,_,k⟩=>1+cnts k
def cnts:List D.Term->Nat
 |[]=>0
 |x::l=>cnt x+cnts l
end
def Xr(t:D.Term):cnt t=1+cnts t.Kids:=by cases t;rw[cnt]
def Uy(x:D.Term)(l:List D.Term):cnts (x::l)=cnt x+cnts l:=by rw[cnts]
def Uh:cnts []=0:=by rw[cnts]
theorem Wy{x:D.Term}:∀{l:List D.Term},x∈l->cnt x<=cnts l
 |y::l,h=>by
  rw[Uy];rcases ZeR.1 h with rfl|h
  ·omega
  ·have:=Wy h;omega
def lf(m:Int)(c:Nat):Int:=if m-c<0 then-1 else m-c
theorem few:∀(n:Nat)(t:D.Term)(m:Int),msz t<=1048576->0<=m->m<=240->1048580+m<=n->VG n t m=some (decide (lf m (cnt t)>=0),lf m (cnt t)):=by
 intro n
 induction n with
 |zero=>intro t m _ _ _ _;omega
 |succ n ih=>
  intro t m hs h0 h1 hn;have hz:=Vi t;unfold VG;rw[Zb];refine We (l:=t.Kids) (n:=n) (σ:=Int) (λk a=>((k:Int),a)) (λys a=>-1<=a/\a<=m-1/\lf a (cnts ys)=lf (m-1) (cnts t.Kids)/\∀x∈ys,x∈t.Kids) (λr=>r=lf (m-1) (cnts t.Kids))
    (λk x xs a hk' hx hlen⟨i0,i1,i2,i3⟩=>by
     have:=WT (i3 x U);rw[Uy]at i2;simp only;by_cases ha:0<=a
     ·refine .inl ⟨lf a (cnt x), ?_, ?_, ?_, ?_,λy hy=>i3 y au⟩
      ·rw[Zei ah,get?_nat,hx];simp only[Zee];rw[ih x a O ha O O,Zb];rfl
      ·unfold lf;split<;>omega
      ·unfold lf;split<;>omega
      ·rw[<-i2];unfold lf;split<;>split<;>split<;>omega
     ·refine .inr ⟨a,by rw[Zem aa], ?_⟩
      rw[<-i2];unfold lf;split<;>omega)
    (λa⟨i0,i1,i2,_⟩=>by
     rw[Uh]at i2;simp only;rw[Zem ao];refine⟨_,rfl,?_⟩
     rw[<-i2];unfold lf;split<;>omega) (a:=m-1) ⟨by omega,by omega,rfl,λx hx=>hx⟩ O λr g2=>?_
  rw[g2];have e:lf (m-1) (cnts t.Kids)=lf m (cnt t):=by rw[Xr];unfold lf;split<;>split<;>omega
  simp only[Zee,e]
def okF(k:Nat):List UInt8->Bool
 |[]=>true
 |b::l=>(decide (97<=b.toNat/\b.toNat<=122)||(decide (k≠0)&&decide (48<=b.toNat/\b.toNat<=57)))&&okF (k+1) l
def Fa(k:Nat)(b:UInt8)(l:List UInt8):okF k (b::l)=((decide (97<=b.toNat/\b.toNat<=122)||(decide (k≠0)&&decide (48<=b.toNat/\b.toNat<=57)))&&okF (k+1) l):=rfl
def nameB(s:Str):Bool:=okF 0 s.bytes&&decide (1<=s.bytes.length/\s.bytes.length<=8)
def FL{s:Str}{k:Nat}{b:UInt8}(h:s.bytes[k]? =some b):sidx? s (k:Int)=some (b.toNat:Int):=by
 unfold sidx?;rw[ifp];simp[h]
def WW(a b c:Int):Zc a b c=some (decide (b<=a/\a<=c)):=by simp[Zc]
def Ao{n:Nat}{s:Str}(hl:s.bytes.length<=1048576)(hn:s.bytes.length<n):TS n s=some (nameB s):=by
 unfold TS;refine We (l:=s.bytes) (n:=n) (σ:=Unit) (λk _=>(k:Int)) (λys _=>okF (s.bytes.length-ys.length) ys=okF 0 s.bytes) (λr=>r=if okF 0 s.bytes then(.inl ():Unit⊕Bool)else .inr false)
  (λk x xs a hk' hx hlen hi=>by
   have e1:s.bytes.length-(x::xs).length=k:=by omega
   have e2:s.bytes.length-xs.length=k+1:=by simp at hlen;omega
   rw[e1]at hi;rw[e2];have hb:=x.toNat_lt;rw[<-hi];simp only[FL hx,Zee,WW];rw[Zei ah,Zb (x:=(x.toNat:Int)),Zb (x:=(k:Int)+1)];have wx:w64 (x.toNat:Int)=x.toNat:=Zb;rw[Fa];by_cases c1:97<=x.toNat/\x.toNat<=122
   ·refine .inl ⟨(), ?_, ?_⟩
    ·have:((97:Int)<=x.toNat/\(x.toNat:Int)<=122):=by omega
     simp[this]
    ·simp[c1]
   ·have c1':¬((97:Int)<=x.toNat/\(x.toNat:Int)<=122):=by omega
    by_cases c2:k=0
    ·subst c2;exact .inr ⟨.inr false,by simp[c1',wx],by simp[c1]⟩
    ·by_cases c3:48<=x.toNat/\x.toNat<=57
     ·have:((48:Int)<=x.toNat/\(x.toNat:Int)<=57):=by omega
      exact .inl ⟨(),by simp[c1',c2,this,wx],by simp[c1,c2,c3]⟩
     ·have:¬((48:Int)<=x.toNat/\(x.toNat:Int)<=57):=by omega
      exact .inr ⟨.inr false,by simp[c1',c2,this,wx],by simp[c1,c2,c3]⟩)
  (λa hi=>by
   rw[Zem ao];refine⟨_,rfl,?_⟩
   rw[<-hi];simp[okF]) (a:=()) U hn λr g2=>?_
 rw[g2];unfold nameB;cases okF 0 s.bytes
 ·simp
 ·simp only[WW,Za,Ze2,Zee,ZeJ,Option.some.injEq,decide_eq_decide];omega
def shB(op w m:Int)(name:Str)(ws:List Int):Bool:=
 if op=0 then ws.isEmpty&&wordB w m
 else if op=22 then ws.isEmpty&&nameB name
 else if 1<=op/\op<=2 then(match ws with|[a]=>a==w|_=>false)
 else if 3<=op/\op<=13 then(match ws with|[a,b]=>a==w&&b==w|_=>false)
 else if 14<=op/\op<=16 then(match ws with|[a,b]=>a==b&&w==1|_=>false)
 else if op=17 then(match ws with|[a,b,c]=>a==1&&b==w&&c==w|_=>false)
 else if op=18 then(match ws with|[a,b]=>a+b==w|_=>false)
 else if op=19 then(match ws with|[a]=>decide (0<=m/\m<=16)&&decide (m+w<=a)|_=>false)
 else if 20<=op/\op<=21 then(match ws with|[a]=>decide (a<=w)|_=>false)
 else false
def locB(t:D.Term):Bool:=
 decide (1<=t.W/\t.W<=16)&&(Str.eqb t.Name ⟨[]⟩||t.Op==22)&&(t.N==0||t.Op==0||t.Op==19)&&shB t.Op t.W t.N t.Name (t.Kids.map (·.W))
mutual
def nodeB:D.Term->Bool
 |⟨o,w,m,s,k⟩=>locB ⟨o,w,m,s,k⟩&&nodesB k
def nodesB:List D.Term->Bool
 |[]=>true
 |x::l=>nodeB x&&nodesB l
end
theorem XJ(t:D.Term):nodeB t=(locB t&&nodesB t.Kids):=by cases t;rw[nodeB]
theorem Yf:∀l:List D.Term,nodesB l=l.all nodeB
 |[]=>by rw[nodesB];rfl
 |x::l=>by rw[nodesB,Yf l];rfl
theorem Z9{t:D.Term}(h:nodeB t=true):1<=t.W/\t.W<=16:=by
 rw[XJ]at h;unfold locB at h;simp only[Zek,Zeq]at h;exact h.1.1.1.1
def pad3:List D.Term->List Int
 |[]=>[0,0,0]
 |[a]=>[a.W,0,0]
 |[a,b]=>[a.W,b.W,0]
 |a::b::c::_=>[a.W,b.W,c.W]
def Zdg{l:List D.Term}{n:Nat}(hn:4<=n):iterN (λ(s2:Int×(List Int))=>if((decide (s2.1<(len l)))&&(decide (s2.1<3)))then(get? l s2.1).bind λx4=>(set? s2.2 s2.1 x4.W).bind λx5=>some (.inl ((w64 (s2.1+1)),x5))else some (.inr (s2.2))) n (0,([0,0,0]:List Int))=some (pad3 l):=by
 obtain⟨n,rfl⟩:∃j,n=j+4:=⟨n-4,by omega⟩;rcases l with _|⟨a,_|⟨b,_|⟨c,l⟩⟩⟩
 ·simp[iterN,len,pad3]
 ·simp[iterN,len,pad3,get?,set?,Zb]
 ·simp[iterN,len,pad3,get?,set?,Zb]
 ·have h1:(0:Int)<(l.length:Int)+1+1+1:=by omega
  have h2:(1:Int)<(l.length:Int)+1+1+1:=by omega
  have h3:(2:Int)<(l.length:Int)+1+1+1:=by omega
  simp[iterN,len,pad3,get?,set?,Zb,h1,h2,h3]
set_option maxHeartbeats 2000000 in
theorem Ai:∀(n:Nat)(t:D.Term),msz t<=1048576->1048580+cnt t<=n->X4 n t=some (nodeB t):=by
 intro n
 induction n with
 |zero=>intro t _ _;omega
 | succ n ih=>
  intro t hs hn;have hz:=Vi t;have hc:=Xr t;have ih':∀x∈t.Kids,X4 n x=some (nodeB x):=λx hx=>by
   have:=WT hx;have:=Wy hx;exact ih x O O
  have e0:∀c:Bool,nodeB t=(decide (1<=t.W/\t.W<=16)&&(Str.eqb t.Name ⟨[]⟩||t.Op==22)&&(t.N==0||t.Op==0||t.Op==19)&&(nodesB t.Kids&&shB t.Op t.W t.N t.Name (t.Kids.map (·.W)))):=λ_=>by
   rw[XJ];unfold locB;cases nodesB t.Kids<;>simp
  have e0:=e0 true;unfold X4;rw[WW];simp only[Zee];have hx:∀a b c d e f:Bool,((!a||(!b&& !c))||((!d&& !e)&& !f))= !(a&&(b||c)&&(d||e||f)):=by decide
  rw[show((!decide (1<=t.W/\t.W<=16)||((!Str.eqb t.Name ⟨[]⟩)&&(t.Op !=22)))||(((t.N !=0)&&(t.Op !=0))&&(t.Op !=19)))=_ from hx _ _ _ _ _ _];cases c:(decide (1<=t.W/\t.W<=16)&&(Str.eqb t.Name ⟨[]⟩||t.Op==22)&&(t.N==0||t.Op==0||t.Op==19))
  ·rw[e0,c];rfl
  ·have hw:1<=t.W/\t.W<=16:=by
    simp only[Zek,Zeq]at c;exact c.1.1
   rw[e0,c,ifn,ZeJ];have hl:=SX (l:=t.Kids) (f:=λx=>X4 n x) (b:=nodeB) ih' O t.Kids.length 0 O n O;rw[show((0:Nat):Int)=0 from rfl]at hl;rw[hl,Zfr,Yf];by_cases ha:t.Kids.all nodeB=true
   ·have hkw:∀x∈t.Kids,1<=x.W/\x.W<=16:=λx hx=>Z9 (Zev.1 ha x hx);rw[ha];simp only[Ze2,Zee,ZeJ,WW,XC,Ao (show t.Name.bytes.length<=1048576 by omega) (show t.Name.bytes.length<n by omega)];rw[Zdg O];simp only[Zee];clear hl ha e0 hx c ih ih' hz hc hs hn;obtain⟨op,w,m,nm,ks⟩:=t;simp only at hw hkw⊢;have g0:∀x y z:Int,get? [x,y,z] 0=some x/\get? [x,y,z] 1=some y/\get? [x,y,z] 2=some z:=λ_ _ _=>⟨rfl,rfl,rfl⟩;have e18:∀a b:Int,1<=a->a<=16->1<=b->b<=16->(w64 (a+b)==w)=(a+b==w):=λa b _ _ _ _=>by rw[Zb]
    have e19:∀x:Int,0<=m->m<=16->decide (w64 (m+w)<=x)=decide (m+w<=x):=λx _ _=>by rw[Zb]
    rcases ks with _|⟨a,_|⟨b,_|⟨c,_|⟨d,l⟩⟩⟩⟩<;>simp only[pad3,ZeQ,ZgD,Za,Ze3,Zf4,g0]<;>simp at hkw<;>unfold shB<;>grind(splits:=40) [Zb]
   ·simp[ha]
theorem Zbx:∀x:List UInt8,Op.bytesLess x x=false
 |[]=>rfl
 |a::x=>by simp[Op.bytesLess,Zbx x]
theorem FH:∀x y z:List UInt8,Op.bytesLess x y=true->Op.bytesLess y z=true->Op.bytesLess x z=true
 |_,_,[]=>by intro _ h;cases ‹List UInt8› <;>simp[Op.bytesLess]at h
 |_,[],_::_=>by intro h _;cases ‹List UInt8› <;>simp[Op.bytesLess]at h
 |[],_::_,_::_=>by intro _ _;rfl
 | a::x,b::y,c::z=>by
  intro h1 h2;simp only[Op.bytesLess,ZeX,Zeq,Zek,Zft]at h1 h2⊢;rcases h1 with h1|⟨rfl,h1⟩
  ·rcases h2 with h2|⟨rfl,h2⟩
   ·exact .inl (UInt8.lt_trans h1 h2)
   ·exact .inl h1
  ·rcases h2 with h2|⟨rfl,h2⟩
   ·exact .inl h2
   ·exact .inr ⟨rfl,FH x y z h1 h2⟩
theorem ZaG:∀x y:List UInt8,Op.bytesLess x y=false->x≠y->Op.bytesLess y x=true
 |[],[]=>λ_ h=>absurd rfl h
 |_::_,[]=>λ_ _=>rfl
 |[],_::_=>λh _=>by simp[Op.bytesLess]at h
 | a::x,b::y=>by
  intro h1 h2;simp only[Op.bytesLess,ZfP,decide_eq_false_iff_not,ZeX,Zeq,Zek,Zft]at h1⊢;by_cases e:a=b
  ·subst e;have:Op.bytesLess x y=false:=by simpa using h1.2
   exact .inr ⟨rfl,ZaG x y this (λh=>h2 (by rw[h]))⟩
  ·rcases UInt8.lt_or_lt_of_ne e with h|h
   ·exact absurd h h1.1
   ·exact .inl h
def toList_mk(l:List UInt8):(ByteArray.mk l.toArray).toList=l:=by
 exact(Lib.toList_data _)
def Ha(a b:Str):Str.ltb a b=Op.bytesLess a.bytes b.bytes:=by unfold Str.ltb;rw[toList_mk,toList_mk]
def Sw(a b:Str):Str.eqb a b=decide (a=b):=by
 unfold Str.eqb;rw[toList_mk,toList_mk];by_cases h:a=b
 ·subst h;simp
 ·have:a.bytes≠b.bytes:=λe=>h (by cases a;cases b;simpa using e);simp[h,this]
theorem Zce(a:Str):Str.ltb a a=false:=by rw[Ha];exact Zbx _
theorem lt_trans{a b c:Str}(h1:Str.ltb a b=true)(h2:Str.ltb b c=true):Str.ltb a c=true:=by rw[Ha]at*;exact FH _ _ _ h1 h2
theorem ZaW{a b:Str}(h1:Str.ltb a b=false)(h2:a≠b):Str.ltb b a=true:=by
 rw[Ha]at*;exact ZaG _ _ h1 λe=>h2 (by cases a;cases b;simpa using e)
mutual
def vrs:D.Term->List (Str×Int)
 |⟨o,w,_,s,k⟩=>if o=22 then[(s,w)]else vrss k
def vrss:List D.Term->List (Str×Int)
 |[]=>[]
 |x::l=>vrs x++vrss l
end
def Re(t:D.Term):vrs t=if t.Op=22 then[(t.Name,t.W)]else vrss t.Kids:=by cases t;rw[vrs]
theorem Uz(x:D.Term)(l:List D.Term):vrss (x::l)=vrs x++vrss l:=by rw[vrss]
def Pt:vrss []=[]:=by rw[vrss]
def stp(g:List (Str×Int))(v:Str×Int):Option (List (Str×Int)):=
 match g.lookup v.1 with
 |some w=>if w=v.2 then some g else none
 |none=>some (v::g)
def runV(g:List (Str×Int)):List (Str×Int)->Option (List (Str×Int))
 |[]=>some g
 |v::l=>(stp g v).bind λg'=>runV g' l
theorem Fg(l m:List (Str×Int)):∀g,runV g (l++m)=(runV g l).bind λg'=>runV g' m:=by
 induction l with
 |nil=>intro g;rfl
 |cons v l ih=>
  intro g;simp only[List.cons_append,runV];cases stp g v with
  |none=>rfl
  |some g'=>simp only[Zee];exact ih g'
def Bi{g g':List (Str×Int)}{v:Str×Int}(h:stp g v=some g'):g'.length<=g.length+1:=by
 unfold stp at h;split at h
 ·split at h
  ·cases h;omega
  ·cases h
 ·cases h;simp
theorem Jz:∀{l g g':List (Str×Int)},runV g l=some g'->g'.length<=g.length+l.length
 |[],g,g',h=>by simp only[runV,Option.some.injEq]at h;subst h;simp
 |v::l,g,g',h=>by
  simp only[runV,ZeV]at h;obtain⟨g1,h1,h2⟩:=h;have:=Bi h1;have:=Jz h2;simp only[Ze3];omega
def Rel(l:List D.Value)(g:List (Str×Int)):Prop:=
 l.Pairwise (λa b=>Str.ltb a.Name b.Name=true)/\l.length=g.length/\(∀v∈l,g.lookup v.Name=some v.W)/\∀s w,g.lookup s=some w->∃v∈l,v.Name=s
def before(s:Str)(l:List D.Value):Nat:=(l.takeWhile λv=>Str.ltb v.Name s).length
def Me(s:Str)(l:List D.Value):before s l<=l.length:=(List.takeWhile_sublist _).length_le
theorem PY{s:Str}:∀{l:List D.Value}{i:Nat}{v:D.Value},i<before s l->l[i]? =some v->Str.ltb v.Name s=true
 |[],i,v,h,hv=>by simp at hv
 | x::l,i,v,h,hv=>by
  unfold before at h;rw[List.takeWhile_cons]at h;split at h
  ·cases i with
   |zero=>simp at hv;subst hv;assumption
   |succ i=>exact PY (l:=l) (i:=i) (by unfold before;simpa using h) (by simpa using hv)
  ·simp at h
theorem PU{s:Str}:∀{l:List D.Value}{v:D.Value},l[before s l]? =some v->Str.ltb v.Name s=false
 |[],v,hv=>by simp at hv
 | x::l,v,hv=>by
  unfold before at hv;rw[List.takeWhile_cons]at hv;by_cases h:Str.ltb x.Name s=true
  ·rw[Zei h]at hv;exact PU (l:=l) (by unfold before;simpa using hv)
  ·rw[Zem h]at hv;simp at hv;subst hv;simpa using h
def ZaJ{l:List D.Value}{s:Str}{n:Nat}(hl:l.length<=1048576)(hn:l.length<n):iterN (λ(s1:Int)=>(if(decide (s1<(len l)))then(get? l s1)else some default).bind λx1=>if((decide (s1<(len l)))&&(Str.ltb x1.Name s))then some (.inl ((w64 (s1+1))))else some (.inr (s1))) n (0)=some (before s l:Int):=by
 refine VQ (l:=l) (n:=n) (σ:=Unit) (λk _=>(k:Int)) (λys _=>l.length<=before s l+ys.length) (λr=>r=(before s l:Int))
  (λk x xs a hk' hx hlen hi=>by
   simp only[Ze3]at hlen hi;have hd:decide ((k:Int)<len l)=true:=by rw[Za];simp;omega
   rw[Zei hd,get?_nat,hx];simp only[Zee,hd,ZeJ];by_cases c:Str.ltb x.Name s=true
   ·refine .inl ⟨(),by rw[Zei c,Zb];rfl, ?_⟩;have:k≠before s l:=λe=>by
     rw[e]at hx;rw[PU hx]at c;cases c
    omega
   ·refine .inr ⟨(k:Int),by rw[Zem c], ?_⟩;have:¬k<before s l:=λh=>c (PY h hx)
    omega)
  (λa hi=>by
   have hd:decide ((l.length:Int)<len l)=false:=by rw[Za];simp
   simp only[hd,Zeg,Zen,Zee,Zg0];have:=Me s l
   exact⟨_,rfl,by simp at hi;omega⟩) (a:=()) O hn λr g2=>?_
 rw[g2]
theorem Rel.none{l:List D.Value}{g:List (Str×Int)}{s:Str}(h:Rel l g)(hn:∀v,l[before s l]? =some v->v.Name≠s):g.lookup s=none:=by
 cases e:g.lookup s with
 |none=>rfl
 | some w=>
  exfalso;obtain⟨v,hv,rfl⟩:=h.2.2.2 s w e;obtain⟨j,hj⟩:=ZeZ.1 hv;rcases Zg1 j (before v.Name l)with h1|h1|h1
  ·have:=PY h1 hj;rw[Zce]at this;cases this
  ·rw[h1]at hj;exact hn v hj rfl
  ·obtain⟨hj',e2⟩:=Zej.1 hj;have hu:l[before v.Name l]? =some l[before v.Name l]:=Zef O;have h2:=PU hu;have h3:=Zfx.1 h.1 _ _ O hj' h1;rw[e2]at h3;rw[h2]at h3;cases h3
def Rel.put{l:List D.Value}{g:List (Str×Int)}{s:Str}{w:Int}(h:Rel l g)(hn:∀v,l[before s l]? =some v->v.Name≠s):Rel (l.take (before s l)++[⟨s,w,0⟩]++l.drop (before s l)) ((s,w)::g):=by
 have hno:=h.none hn;have hb:=Me s l;have hlt:∀v∈l.take (before s l),Str.ltb v.Name s=true:=λv hv=>by
  obtain⟨j,hj⟩:=ZeZ.1 hv;rw[ZeO]at hj;split at hj
  ·exact PY (by assumption) hj
  ·cases hj
 have hgt:∀v∈l.drop (before s l),Str.ltb s v.Name=true:=λv hv=>by
  obtain⟨j,hj⟩:=ZeZ.1 hv;rw[Zfb]at hj;obtain⟨hj',e2⟩:=Zej.1 hj;have hu:l[before s l]? =some l[before s l]:=Zef O;have h1:=ZaW (PU hu) (hn _ hu);rcases Nat.eq_zero_or_pos j with rfl|hp
  ·simp only[ZgC]at e2;rw[<-e2];exact h1
  ·have h3:=Zfx.1 h.1 _ _ O hj' (show before s l<before s l+j by omega);rw[e2]at h3;exact lt_trans h1 h3
 have hmem:∀v,v∈l.take (before s l)++[⟨s,w,0⟩]++l.drop (before s l)↔v=⟨s,w,0⟩\/v∈l:=λv=>by
  have:v∈l↔v∈l.take (before s l)\/v∈l.drop (before s l):=by
   rw[<-Zew,Zfy]
  simp only[Zew,ZeA,this];grind
 have hp:(l.take (before s l)++l.drop (before s l)).Pairwise (λa b=>Str.ltb a.Name b.Name=true):=by rw[Zfy];exact h.1
 rw[ZfC]at hp;refine⟨?_,?_,λv hv=>?_,λs' w' hs=>?_⟩
 ·rw[Zez,ZfC];refine⟨hp.1,?_,λa ha b hb=>?_⟩
  ·rw[ZeW,ZfE];exact⟨λb hb=>hgt b hb,hp.2.1⟩
  ·rw[ZeW]at hb;rcases ZeR.1 hb with rfl|hb
   ·exact hlt a ha
   ·exact hp.2.2 a ha b hb
 ·have:=h.2.1;simp;omega
 ·rcases(hmem v).1 hv with rfl|hv
  ·simp
  ·have h1:=h.2.2.1 v hv;have:v.Name≠s:=λe=>by rw[e,hno]at h1;cases h1
   rw[ZeG];have:(v.Name==s)=false:=by simpa using this
   rw[this];exact h1
 ·rw[ZeG]at hs;by_cases e:s'=s
  ·exact⟨_,(hmem _).2 (.inl rfl),e.symm⟩
  ·have:(s'==s)=false:=by simpa using e
   rw[this]at hs;obtain⟨v,h1,h2⟩:=h.2.2.2 s' w' hs;exact⟨v,(hmem _).2 (.inr h1),h2⟩
theorem ZcZ:∀n:Nat,(∀t:D.Term,msz t<n->(vrs t).length<=cnt t)/\∀l:List D.Term,l.length+mszs l<n->(vrss l).length<=cnts l:=by
 intro n
 induction n with
 |zero=>exact⟨λ_ h=>by omega,λ_ h=>by omega⟩
 | succ n ih=>
  have hT:∀t:D.Term,msz t<n+1->(∀l:List D.Term,l.length+mszs l<n+1->(vrss l).length<=cnts l)->(vrs t).length<=cnt t:=λt h hl=>by
   have:=Vi t;rw[Re,Xr];split
   ·simp
   ·have:=hl t.Kids O;omega
  have hL:∀l:List D.Term,l.length+mszs l<n+1->(vrss l).length<=cnts l:=λl h=>by
   cases l with
   |nil=>rw[Pt,Uh];simp
   |cons x l=>
    rw[UZ]at h;simp only[Ze3]at h;rw[Uz,Uy,Zeo];have h1:=ih.1 x O;have h2:=ih.2 l O;omega
  exact⟨λt h=>hT t h hL,hL⟩
theorem Js(t:D.Term):(vrs t).length<=cnt t:=(ZcZ (msz t+1)).1 t O
theorem Ib:∀(n:Nat)(t:D.Term)(l:List D.Value)(g:List (Str×Int)),msz t<=1048576->Rel l g->g.length+(vrs t).length<=1000->1048580+cnt t<=n->
  ∃l' b,Xe n t l=some (l',b)/\(b=true->∃g',runV g (vrs t)=some g'/\Rel l' g')/\(b=false->runV g (vrs t)=none):=by
 intro n
 induction n with
 |zero=>intro t l g _ _ _ _;omega
 | succ n ih=>
  intro t l g hs hr hg hn;have hz:=Vi t;have hc:=Xr t;have hlen:=hr.2.1;unfold Xe;by_cases ho:t.Op=22
  ·rw [Zei (by simpa using ho),ZaJ O O]
   simp only[Zee];have hb:=Me t.Name l;have hv:vrs t=[(t.Name,t.W)]:=by rw[Re,Zei ho]
   rw[hv];have hrun:runV g [(t.Name,t.W)]=stp g (t.Name,t.W):=by
    simp only[runV];cases stp g (t.Name,t.W)<;>rfl
   rw[hrun];by_cases hf:∃v,l[before t.Name l]? =some v/\v.Name=t.Name
   ·obtain⟨v,hv1,hv2⟩:=hf;obtain⟨hlt,-⟩:=Zej.1 hv1;have hd:decide ((before t.Name l:Int)<len l)=true:=by rw[Za];simp;omega
    have hk:g.lookup t.Name=some v.W:=by rw[<-hv2];exact hr.2.2.1 v (Zel hv1)
    simp only[hd,Ze2,get?_nat,hv1,Zee,ZeJ,Sw,hv2,decide_true];refine⟨_,_,rfl,λh=>⟨g,?_,hr⟩,λh=>?_⟩
    ·unfold stp;rw[hk];simp only;rw[Zei az]
    ·unfold stp;rw[hk];simp only;rw[Zem az]
   ·have hne:∀v,l[before t.Name l]? =some v->v.Name≠t.Name:=λv h e=>hf ⟨v,h,e⟩;have hno:=hr.none hne;have hx:∃x2,(if(decide ((before t.Name l:Int)<(len l)))=true then(get? l (before t.Name l:Int))else some default)=some x2/\(decide ((before t.Name l:Int)<(len l))&&Str.eqb x2.Name t.Name)=false:=by
     by_cases hlt:before t.Name l<l.length
     ·have hd:decide ((before t.Name l:Int)<len l)=true:=by rw[Za];simp;omega
      refine⟨l[before t.Name l],?_,?_⟩
      ·rw[Zei hd,get?_nat,Zef hlt]
      ·rw[Sw,decide_eq_false (hne _ (Zef hlt))];simp
     ·have hd:decide ((before t.Name l:Int)<len l)=false:=by rw[Za];simp;omega
      exact⟨default,by rw[hd];rfl,by rw[hd];rfl⟩
    obtain⟨x2,hx1,hx2⟩:=hx;rw[hx1];simp only[Zee,hx2,Zeg,Zen];have c1:cut? l 0 (before t.Name l:Int)=some (l.take (before t.Name l)):=by
     unfold cut?;rw[Zei ⟨by omega,by omega,by omega⟩];simp
    have c2:cut? l (before t.Name l:Int) (len l)=some (l.drop (before t.Name l)):=by
     unfold cut?;rw[Za,Zei ⟨by omega,by omega,by omega⟩];simp
    have c3:app? ([]:List D.Value) (l.take (before t.Name l))=some (l.take (before t.Name l)):=by
     unfold app?;rw[Zei aJ];rfl
    have c4:app? (l.take (before t.Name l)) [(⟨t.Name,t.W,0⟩:D.Value)]=some (l.take (before t.Name l)++[⟨t.Name,t.W,0⟩]):=by
     unfold app?;rw[Zei aJ]
    have c5:app? (l.take (before t.Name l)++[(⟨t.Name,t.W,0⟩:D.Value)]) (l.drop (before t.Name l))=some (l.take (before t.Name l)++[⟨t.Name,t.W,0⟩]++l.drop (before t.Name l)):=by
     unfold app?;rw[Zei aJ]
    simp only[c1,c2,c3,c4,c5,Zee];refine⟨_,_,rfl,λ_=>⟨(t.Name,t.W)::g,?_,hr.put hne⟩,λh=>by cases h⟩;unfold stp;rw[hno]
  ·rw [Zem (by simpa using ho)]
   have hv:vrs t=vrss t.Kids:=by rw[Re,Zem ho]
   rw[hv]at hg⊢;obtain⟨r,g1,g2⟩:=Wx (l:=t.Kids) (n:=n) (σ:=List D.Value) (ρ:=(List D.Value)⊕((List D.Value)×Bool)) (B:=λ(s2:(List D.Value)×Int)=>if(decide (s2.2<(len t.Kids)))then(get? t.Kids s2.2).bind λx9=>(Xe n x9 s2.1).bind λx10=>if(!x10.2)then some (.inr (.inr (([]:List D.Value),false)))else some (.inl (x10.1,(w64 (s2.2+1))))else some (.inr (.inl (s2.1)))) (λk a=>(a,(k:Int))) (λys a=>∃ga,Rel a ga/\runV ga (vrss ys)=runV g (vrss t.Kids)/\ga.length+(vrss ys).length<=1000/\∀x∈ys,x∈t.Kids)
     (λr=>(∃l',r= .inl l'/\∃g',runV g (vrss t.Kids)=some g'/\Rel l' g')\/(r= .inr ([],false)/\runV g (vrss t.Kids)=none))
     (λk x xs a hk' hx hlen⟨ga,i0,i1,i2,i3⟩=>by
      have hxk:=i3 x U;have:=WT hxk;have:=Wy hxk;rw[Uz,Fg]at i1;rw[Uz,Zeo]at i2;obtain⟨l',b,e1,e2,e3⟩:=ih x a ga O i0 O O;have hd:decide ((k:Int)<len t.Kids)=true:=by rw[Za];simp;omega
      simp only[hd,Ze2,get?_nat,hx,Zee,e1];cases b with
      |false=>
       refine .inr ⟨_,rfl,.inr ⟨rfl,?_⟩⟩;rw[e3 rfl]at i1;exact i1.symm
      |true=>
       obtain⟨g',h1,h2⟩:=e2 rfl;refine .inl ⟨l',by simp only[Zep,Zeg,Zen];rw[Zb];rfl,g',h2,?_,?_,λy hy=>i3 y au⟩
       ·rw[h1]at i1;exact i1
       ·have:=Jz h1;omega)
     (λa⟨ga,i0,i1,i2,i3⟩=>by
      have hd:decide ((t.Kids.length:Int)<len t.Kids)=false:=by rw[Za];simp
      simp only[hd,Zeg,Zen];rw[Pt]at i1
      exact⟨_,rfl,.inl ⟨a,rfl,ga,i1.symm,i0⟩⟩) (a:=l) ⟨g,hr,rfl,hg,λx hx=>hx⟩ O
   rw[show((0:Nat):Int)=0 from rfl]at g1;rw[g1];rcases g2 with⟨l',rfl,g',h1,h2⟩|⟨rfl,h1⟩
   ·exact⟨l',true,rfl,λ_=>⟨g',h1,h2⟩,λh=>by cases h⟩
   ·exact⟨[],false,rfl,λh=>ax,λ_=>h1⟩
def termB(t:D.Term):Bool:=decide (cnt t<=240)&&nodeB t&&(runV [] (vrs t)).isSome
theorem UA{t:D.Term}(h:msz t<=1048576):YQ fuel t=some (termB t):=by
 unfold YQ termB;rw[few fuel t 240 h O O al];simp only[Zee];by_cases hc:cnt t<=240
 ·have e:decide (lf 240 (cnt t)>=0)=true:=by unfold lf;rw[ifn];simp;omega
  rw[Ai fuel t h al];simp only[e,Zep,Zeg,Zen,Zee,hc,decide_true,ZeJ];cases hb:nodeB t
  ·simp
  ·have hv:=Js t;obtain⟨l',b,e1,e2,e3⟩:=Ib fuel t [] [] h ⟨List.Pairwise.nil,rfl,by simp,by simp⟩ aa al;rw[e1];cases b with
   |false=>rw[e3 rfl];rfl
   |true=>obtain⟨g',h1,-⟩:=e2 rfl;rw[h1];rfl
 ·have e:decide (lf 240 (cnt t)>=0)=false:=by unfold lf;rw[ifp];rfl
  simp[e,hc]
def BC{n:Nat}{s:Str}(hl:s.bytes.length<=1048576)(hn:s.bytes.length<n):TW n s=some (nameB s):=by
 unfold TW;by_cases hlen:1<=s.bytes.length/\s.bytes.length<=8
 ·rw [Zem ah]
  refine We (l:=s.bytes) (n:=n) (σ:=Unit) (λk _=>(k:Int)) (λys _=>okF (s.bytes.length-ys.length) ys=okF 0 s.bytes) (λr=>r=if okF 0 s.bytes then(.inl ():Unit⊕Bool)else .inr false)
   (λk x xs a hk' hx hlen hi=>by
    have e1:s.bytes.length-(x::xs).length=k:=by omega
    have e2:s.bytes.length-xs.length=k+1:=by simp at hlen;omega
    rw[e1]at hi;rw[e2];have hb:=x.toNat_lt;rw[<-hi];simp only[FL hx,Zee];rw[Zei ah,Zb];have hd:∀c:Bool,∃y:Int,(if c=true then(some (x.toNat:Int))else some default)=some y/\(c=true->y=x.toNat):=λc=>by
     cases c
     ·exact⟨_,rfl,λh=>by cases h⟩
     ·exact⟨_,rfl,λ_=>rfl⟩
    obtain⟨y2,h2,i2⟩:=hd (decide ((x.toNat:Int)>=97));obtain⟨y4,h4,i4⟩:=hd (decide ((x.toNat:Int)>=48));rw[h2,h4];simp only[Zee];have j2:(decide ((x.toNat:Int)>=97)&&decide (y2<=122))=decide (97<=x.toNat/\x.toNat<=122):=by
     by_cases c:(x.toNat:Int)>=97
     ·rw[i2 aA,Zf6];simp only[Zek,Zeq];omega
     ·rw[Zf6];simp only[Zek,Zeq];omega
    have j4:(decide ((x.toNat:Int)>=48)&&decide (y4<=57))=decide (48<=x.toNat/\x.toNat<=57):=by
     by_cases c:(x.toNat:Int)>=48
     ·rw[i4 aA,Zf6];simp only[Zek,Zeq];omega
     ·rw[Zf6];simp only[Zek,Zeq];omega
    rw[j2,j4,Fa];by_cases c1:97<=x.toNat/\x.toNat<=122
    ·exact .inl ⟨(),by simp[c1],by simp[c1]⟩
    ·by_cases c3:48<=x.toNat/\x.toNat<=57
     ·by_cases c2:k=0
      ·subst c2;exact .inr ⟨.inr false,by simp[c1,c3],by simp[c1]⟩
      ·have:(0:Int)<(k:Int):=by omega
       exact .inl ⟨(),by simp[c1,c3,this,c2],by simp[c1,c2,c3]⟩
     ·exact .inr ⟨.inr false,by simp[c1,c3],by simp[c1,c3]⟩)
   (λa hi=>by
    rw[Zem ao];refine⟨_,rfl,?_⟩
    rw[<-hi];simp[okF]) (a:=()) U hn λr g2=>?_
  rw[g2];unfold nameB;rw[decide_eq_true hlen];cases okF 0 s.bytes<;>rfl
 ·rw[Zei ah];unfold nameB;rw[decide_eq_false hlen];simp
def kc(o:Int):Int:=(Xa o).getD 0
def Zd8(o:Int):Xa o=some (kc o):=by
 unfold kc;have:∃k,Xa o=some k:=by
  unfold Xa;split
  ·exact⟨_,rfl⟩
  ·split
   ·exact⟨_,rfl⟩
   ·split
    ·exact⟨_,rfl⟩
    ·split
     ·exact⟨_,rfl⟩
     ·exact⟨_,rfl⟩
 obtain⟨k,h⟩:=this;rw[h];rfl
def Ey(w:Int):Yk w=some (decide (1<=w/\w<=16)):=by simp[Yk]
def Zcu{t:D.Term}(hw:1<=t.W/\t.W<=16)(hk:∀x∈t.Kids,1<=x.W/\x.W<=16)(hl:(t.Kids.length:Int)=kc t.Op):
  ∃f,Wu t=some f/\shB t.Op t.W t.N t.Name (t.Kids.map (·.W))=(f&&(t.Op !=0||wordB t.W t.N)&&(t.Op !=22||nameB t.Name)):=by
 obtain⟨op,w,m,nm,ks⟩:=t;simp only at hw hk hl⊢;refine⟨(Wu ⟨op,w,m,nm,ks⟩).getD false,?_,?_⟩
 all_goals unfold Wu
 all_goals unfold kc Xa at hl
 ·rcases ks with _|⟨a,_|⟨b,_|⟨c,_|⟨d,l⟩⟩⟩⟩<;>simp[get?]at hl hk⊢<;>grind(splits:=40) [Zb]
 ·unfold shB;have e:∀x∈ks,w64 (x.W-w)=x.W-w:=λx h=>by have:=hk x h;exact Zb
  by_cases o:op=19
  ·subst o;rcases ks with _|⟨a,_|⟨b,l⟩⟩<;>simp[get?]at hl hk e⊢<;>by_cases hm:0<=m<;>simp[hm,e]<;>grind
  rcases ks with _|⟨a,_|⟨b,_|⟨c,_|⟨d,l⟩⟩⟩⟩<;>simp[get?]at hl hk e⊢<;>grind(splits:=40) [Zb]
def Zc4{t:D.Term}(hl:¬(t.Kids.length:Int)=kc t.Op):shB t.Op t.W t.N t.Name (t.Kids.map (·.W))=false:=by
 obtain⟨op,w,m,nm,ks⟩:=t;simp only at hl⊢;unfold shB;unfold kc Xa at hl;rcases ks with _|⟨a,_|⟨b,_|⟨c,_|⟨d,l⟩⟩⟩⟩<;>simp at hl<;>grind(splits:=40)
abbrev tab(m:Option (List (Str×Int))):List (Str×Int):=m.getD []
def get2{g:List (Str×Int)}{s:Str}(hs:s.bytes.length<=1048576):mget2? fitS (0:Int) g s=some ((g.lookup s).getD 0,(g.lookup s).isSome):=by
 simp_all[mget2?,Zei,fitS]<;>grind
def put1{g:List (Str×Int)}{s:Str}{w:Int}(hs:s.bytes.length<=1048576)(hw:1<=w/\w<=16)(hg:g.length<=1000):mputE? fitS fitZ g s w=some ((s,w)::g):=by
 unfold mputE?;rw[Zei ⟨by grind[fitS],by unfold fitZ;simp[Lit.wf];exact⟨by show(-9223372036854775808:Int)<=w;omega,by omega⟩,by grind[room]⟩]
theorem Xf{n:Nat}{c:D.termCheck}{t:D.Term}(hs:t.Name.bytes.length<=1048576)(hn:1048580<=n)(hw:1<=t.W/\t.W<=16)(hg:(tab c.widths).length<=1000):
  ∃b m,Y8 n c t=some (b,⟨c.count,m⟩)/\(b=true->nameB t.Name=true/\stp (tab c.widths) (t.Name,t.W)=some (tab m))/\(b=false->nameB t.Name=false\/stp (tab c.widths) (t.Name,t.W)=none):=by
 obtain⟨cc,ww⟩:=c;unfold Y8;rw[BC hs O];cases hb:nameB t.Name
 ·simp
 ·simp only[Zep,Zeg,Zen];cases ww with
  |none=>
   rw[get2 hs];rw[put1 hs hw U];exact⟨true,_,rfl,λ_=>⟨trivial,rfl⟩,λh=>ax⟩
  | some g=>
   simp only[Option.isNone_some,Zeg,Zen,ZeF];rw[get2 hs];unfold stp;cases hl:g.lookup t.Name with
   |some w=>
    simp_all[Option.isSome_some,Ze2,ZeF]<;>grind
   |none=>
    simp_all[Zgr,Zeg,Zen,put1]
theorem IJ {n:Nat}{ks:List D.Term}{c0:Int}{w0:Option (List (Str×Int))}(hn:1048580<=n)(hks:ks.length<=1048576)(hc:0<=c0)(hc':c0<=240)(hg:(tab w0).length<=c0)
    (ih:∀x∈ks,∀c:D.termCheck,c0<=c.count->c.count<=240->(tab c.widths).length<=c.count->∃b c',Z4 n c x=some (b,c')/\(b=true->c.count+cnt x<=240/\nodeB x=true/\c'.count=c.count+cnt x/\runV (tab c.widths) (vrs x)=some (tab c'.widths))/\(b=false->¬(c.count+cnt x<=240/\nodeB x=true/\(runV (tab c.widths) (vrs x)).isSome=true))):
    ∃ r,iterN (λ(s2:Int×Int×(Option (List (Str×Int))))=>if (decide (s2.1<(len ks)))then(get? ks s2.1).bind λx7=>(Z4 n (D.termCheck.mk s2.2.1 s2.2.2) x7).bind λx8=>if(!x8.1)then some (.inr (.inr (false,x8.2)))else some (.inl ((w64 (s2.1+1)),x8.2.count,x8.2.widths))else some (.inr (.inl (s2.2.1,s2.2.2)))) n (0,c0,w0)=some (r:(Int×(Option (List (Str×Int))))⊕(Bool×D.termCheck))/\
      ((∃cc ww,r= .inl (cc,ww)/\cc=c0+cnts ks/\cc<=240/\nodesB ks=true/\runV (tab w0) (vrss ks)=some (tab ww))\/∃c',r= .inr (false,c')/\¬(c0+cnts ks<=240/\nodesB ks=true/\(runV (tab w0) (vrss ks)).isSome=true)):=by
  have hrl:=Js
  refine Wx (l:=ks) (n:=n) (σ:=Int×(Option (List (Str×Int)))) (ρ:=(Int×(Option (List (Str×Int))))⊕(Bool×D.termCheck)) (λk a=>((k:Int),a.1,a.2))
      (λys a=>c0<=a.1/\a.1<=240/\(tab a.2).length<=a.1/\a.1+cnts ys=c0+cnts ks/\nodesB ys=nodesB ks/\runV (tab a.2) (vrss ys)=runV (tab w0) (vrss ks)/\∀x∈ys,x∈ks) _
      (λk x xs a hk' hx hlen⟨i0,i1,i2,i3,i4,i5,i6⟩=>by
        obtain⟨ac,aw⟩:=a;simp only at i0 i1 i2 i3 i5;rw[Uy]at i3;rw[Yf,Zgf,<-Yf]at i4;rw[Uz,Fg]at i5;have hd:decide ((k:Int)<len ks)=true:=by grind[Za]
        obtain⟨b,c',e1,e2,e3⟩:=ih x (i6 x U) ⟨ac,aw⟩ i0 i1 i2;simp only[hd,Ze2,get?_nat,hx,Zee,e1];cases b with
        | false=>
          refine .inr ⟨_,rfl,.inr ⟨c',rfl,λ⟨h1,h2,h3⟩=>e3 rfl ⟨?_,?_,?_⟩⟩⟩
          · grind
          · simp_all
          simp_all[runV,tab,vrs]<;>grind
        | true=>
          obtain⟨h1,h2,h3,h4⟩:=e2 rfl;simp only at h1 h3 h4;refine .inl ⟨(c'.count,c'.widths),by simp only[Zep,Zeg,Zen];rw[Zb];rfl,by simp only;omega,by simp only;omega,?_,by simp only;omega,by rw[<-i4,h2,ZeJ],?_,λy hy=>i6 y au⟩
          · have:=Jz h4
            have:=hrl x;simp only;omega
          · rw[h4]at i5;exact i5)
      (λa⟨i0,i1,i2,i3,i4,i5,i6⟩=>by
        obtain⟨ac,aw⟩:=a;have hd:decide ((ks.length:Int)<len ks)=false:=by rw[Za];simp
        simp only[hd,Zeg,Zen];rw[Uh]at i3;refine⟨_,rfl,.inl ⟨ac,aw,rfl,by omega,i1,?_,i5.symm⟩⟩
        rw[<-i4,Yf];rfl) (a:=(c0,w0)) ⟨by omega,hc',hg,rfl,rfl,rfl,λx hx=>hx⟩ O
def wsB(ks:List D.Term):Bool:=ks.all λx=>decide (1<=x.W/\x.W<=16)
def ZdA{ks:List D.Term}(h:nodesB ks=true):wsB ks=true:=by
 simp_all[Yf,Zev,wsB,decide_eq_true,Z9]
def EZ{n:Nat}{ks:List D.Term}{v:Bool×D.termCheck}(hn:ks.length<n)(hk:ks.length<=1048576):iterN (λ(s1:Int)=>if(decide (s1<(len ks)))then(get? ks s1).bind λx3=>(Yk x3.W).bind λx4=>if(!x4)then some (.inr (.inr v))else some (.inl ((w64 (s1+1))))else some (.inr (.inl ()))) n (0)=some (if wsB ks=true then(.inl ():Unit⊕(Bool×D.termCheck))else .inr v):=by
 refine VQ (l:=ks) (n:=n) (σ:=Unit) (λk _=>(k:Int)) (λys _=>wsB ys=wsB ks) (λr=>r=if wsB ks=true then(.inl ():Unit⊕(Bool×D.termCheck))else .inr v)
  (λk x xs a hk' hx hlen hi=>by
   have hd:decide ((k:Int)<len ks)=true:=by grind[Za]
   simp only[hd,Ze2,get?_nat,hx,Zee,Ey];have e:wsB (x::xs)=(decide (1<=x.W/\x.W<=16)&&wsB xs):=rfl;rw[e]at hi;by_cases c:1<=x.W/\x.W<=16
   ·rw[decide_eq_true c,ZeJ]at hi;exact .inl ⟨(),by rw[decide_eq_true c,ifn,Zb];rfl,hi⟩
   simp_all)
  (λa hi=>by
   have hd:decide ((ks.length:Int)<len ks)=false:=by simp[Za]
   simp only[hd,Zeg,Zen]
   exact⟨_,rfl,by rw[<-hi];rfl⟩) (a:=()) rfl hn λr g2=>?_
 rw[g2]
def nr{γ:Type}{c:γ}{P:γ->Prop}{Q:Prop}(h:¬Q):∃b c',some (false,c)=some (b,c')/\(b=true->P c')/\(b=false->¬Q):=⟨false,c,rfl,λh=>ax,λ_=>h⟩
theorem AU:∀(n:Nat)(t:D.Term)(c:D.termCheck),msz t<=1048576->0<=c.count->c.count<=240->(tab c.widths).length<=c.count->1048580+(241-c.count)<=(n:Int)->∃b c',Z4 n c t=some (b,c')/\
   (b=true->c.count+cnt t<=240/\nodeB t=true/\c'.count=c.count+cnt t/\runV (tab c.widths) (vrs t)=some (tab c'.widths))/\(b=false->¬(c.count+cnt t<=240/\nodeB t=true/\(runV (tab c.widths) (vrs t)).isSome=true)):=by
 intro n
 induction n with
 |zero=>omega
 | succ n ih=>
  intro t c hs h0 h1 hg hn;have hz:=Vi t;have hc:=Xr t;have hb:=XJ t;have bad:nodeB t=false->¬(c.count+cnt t<=240/\nodeB t=true/\(runV (tab c.widths) (vrs t)).isSome=true):=λh⟨_,h2,_⟩=>by simp_all
  unfold Z4;rw[Zb];by_cases hC:c.count+1>240
  ·simp_all[decide_true,Ze2,Zee,Zgs]<;>grind
  simp only[hC,decide_false,Zeg,Zen,Ey t.W,Zee,ZeN];by_cases hw:1<=t.W/\t.W<=16;rotate_left
  ·simp only[hw,decide_false,Zgv,Ze2,Zee,Zgs];exact nr (bad (by simp_all[locB,decide_eq_false]))
  simp only[hw,decide_true,Zep,Zeg,Zen,Zee,ZeN,and_self,Zd8];by_cases hl:(t.Kids.length:Int)=kc t.Op;rotate_left
  ·have:(len t.Kids !=kc t.Op)=true:=by rw[Za];simpa using hl
   rw[Zei this];exact nr (bad (by rw[hb];unfold locB;rw[Zc4 hl];simp))
  have hl':¬(len t.Kids !=kc t.Op)=true:=by rw[Za];simpa using hl
  rw[Zem hl',EZ O O];simp only[Zee];by_cases hk:wsB t.Kids=true;rotate_left
  ·rw[Zem hk];refine nr (bad ?_);rw[hb];cases h:nodesB t.Kids
   ·simp
   ·exact absurd (ZdA h) hk
  rw[Zei hk];have hkw:∀x∈t.Kids,1<=x.W/\x.W<=16:=λx hx=>by
   unfold wsB at hk;rw[Zev]at hk;exact of_decide_eq_true (hk x hx)
  obtain⟨f,hf1,hf2⟩:=Zcu hw hkw hl;have hloc:locB t=((Str.eqb t.Name ⟨[]⟩||t.Op==22)&&(t.N==0||t.Op==0||t.Op==19)&&(f&&(t.Op !=0||wordB t.W t.N)&&(t.Op !=22||nameB t.Name))):=by
   unfold locB;rw[hf2,decide_eq_true hw,ZeJ]
  simp only[hf1,Zee];cases f with
  |false=>
   exact nr (bad (by rw[hb,hloc];simp))
  |true=>
  simp only[Zep,Zeg,Zen,Wp];have hx6:∃x6,(if(t.Op==0)=true then some (wordB t.W t.N)else some default)=some x6/\(t.Op=0->x6=wordB t.W t.N):=by
   by_cases o:t.Op=0
   ·exact⟨_,Zei (by simpa using o),λ_=>rfl⟩
   ·exact⟨_,Zem (by simpa using o),λh=>absurd h o⟩
  obtain⟨x6,h6,h6'⟩:=hx6;rw[h6];simp only[Zee];by_cases c6:(t.Op==0&& !x6)=true
  ·rw[Zei c6];simp only[Zek,Zft,Zfp]at c6;refine nr (bad ?_);rw[hb,hloc,<-h6' c6.1,c6.2,c6.1];simp
  rw[Zem c6];have d6:(t.Op !=0||wordB t.W t.N)=true:=by
   by_cases o:t.Op=0
   ·rw[<-h6' o,o];simp[o]at c6;simp[c6]
   ·simp[o]
  by_cases c7:(t.Op !=0&&t.Op !=19&&t.N !=0)=true
  ·rw[Zei c7];simp only[Zek,bne_iff_ne,ne_eq]at c7;refine nr (bad ?_);rw[hb,hloc];have:(t.N==0||t.Op==0||t.Op==19)=false:=by simp[c7]
   rw[this];simp
  rw[Zem c7];have d7:(t.N==0||t.Op==0||t.Op==19)=true:=by
   simp only[Zek,bne_iff_ne,ne_eq]at c7;by_cases a1:t.N=0<;>by_cases a2:t.Op=0<;>by_cases a3:t.Op=19<;>simp[a1,a2,a3]at c7⊢
  rw[d6,d7]at hloc;simp only[ZeJ,ZfL]at hloc;have ih':∀x∈t.Kids,∀c1:D.termCheck,c.count+1<=c1.count->c1.count<=240->(tab c1.widths).length<=c1.count->∃b c',Z4 n c1 x=some (b,c')/\
   (b=true->c1.count+cnt x<=240/\nodeB x=true/\c'.count=c1.count+cnt x/\runV (tab c1.widths) (vrs x)=some (tab c'.widths))/\(b=false->¬(c1.count+cnt x<=240/\nodeB x=true/\(runV (tab c1.widths) (vrs x)).isSome=true)):=λx hx c1 k1 k2 k3=>by
   have:=WT hx;exact ih x c1 O O k2 k3 O
  by_cases ho:t.Op=22
  ·rw [Zem (by simp[ho])]
   have hv:vrs t=[(t.Name,t.W)]:=by rw[Re,Zei ho]
   have hrun:runV (tab c.widths) (vrs t)=stp (tab c.widths) (t.Name,t.W):=by
    rw[hv];simp only[runV];cases stp (tab c.widths) (t.Name,t.W)<;>rfl
   have hks:t.Kids=[]:=by
    rw[ho]at hl;exact Zg5.1 (by have:kc 22=0:=rfl;omega)
   obtain⟨b,m,e1,e2,e3⟩:=Xf (n:=n) (c:=⟨c.count+1,c.widths⟩) (t:=t) O O hw (by simp only;omega);rw[e1];simp only[Zee];rw[ho]at hloc;cases b with
   | false=>
    refine nr ?_;rcases e3 rfl with e3|e3
    ·exact bad (by rw[hb,hloc,e3];simp)
    ·rw[hrun];simp only at e3;rw[e3];exact λ⟨_,_,h⟩=>by cases h
   | true=>
    obtain⟨e4,e5⟩:=e2 rfl;simp only at e5;have hml:(tab m).length<=c.count+1:=by have:=Bi e5;omega
    obtain⟨r,g1,g2⟩:=IJ (n:=n) (ks:=t.Kids) (c0:=c.count+1) (w0:=m) O O O O hml ih';rw[hks,Uh,Pt]at g2;have hcn:cnts t.Kids=0:=by rw[hks,Uh]
    have hnb:nodesB t.Kids=true:=by rw[hks,Yf];rfl
    simp only[Zep,Zeg,Zen];rw[g1];rcases g2 with⟨cc,ww,rfl,k1,k2,k3,k4⟩|⟨c',rfl,k1⟩
    ·refine⟨true,⟨cc,ww⟩,rfl,λ_=>⟨by omega, ?_,by simp only;omega, ?_⟩,λh=>ax⟩
     ·rw[hb,hloc,e4,hnb];simp
     ·rw[hrun,e5];simp only[runV,Option.some.injEq]at k4;rw[k4]
    ·exfalso;apply k1;refine⟨by omega,by rw[Yf];rfl,rfl⟩
  ·rw[Zei (by simp[ho])];have hv:vrs t=vrss t.Kids:=by rw[Re,Zem ho]
   by_cases c8:Str.eqb t.Name ⟨[]⟩=true;rotate_left
   ·rw[Zei (by simpa using c8)];refine nr (bad ?_);rw[hb,hloc];simp[c8,ho]
   rw[Zem (by simp[c8])];have hloc':locB t=true:=by rw[hloc,c8];simp[ho]
   obtain⟨r,g1,g2⟩:=IJ (n:=n) (ks:=t.Kids) (c0:=c.count+1) (w0:=c.widths) O O O O O ih';rw[g1,hv,hb,hloc'];rcases g2 with⟨cc,ww,rfl,k1,k2,k3,k4⟩|⟨c',rfl,k1⟩
   ·exact⟨true,⟨cc,ww⟩,rfl,λ_=>⟨by omega,k3,by simp only;omega,k4⟩,λh=>ax⟩
   ·exact⟨false,c',rfl,λh=>ax,λ_⟨h1,h2,h3⟩=>k1 ⟨by omega,h2,h3⟩⟩
theorem SI{t:D.Term}(h:msz t<=1048576):YR fuel t=some (termB t):=by
 unfold YR;obtain⟨b,c',e1,e2,e3⟩:=AU fuel t ⟨0,none⟩ h U U (by simp[tab]) (by simp[fuel]);unfold termB;cases b with
 |true=>
  grind
 |false=>
  grind
def Gh{α:Type}{l:List α}{b:α->Bool}(G:α->Int->Option (Int⊕(Unit⊕Bool)))(hG:∀(k:Nat)(x:α),l[k]? =some x->G x k=if b x=true then some (.inl (w64 ((k:Int)+1)))else some (.inr (.inr false)))(hb:l.length<=1048576){n:Nat}(hn:l.length<n):
  iterN (λ(s1:Int)=>if(decide (s1<(len l)))then(get? l s1).bind λx1=>G x1 s1 else some (.inr (.inl ()))) n 0=some (if l.all b=true then(.inl ():Unit⊕Bool)else .inr false):=by
 refine VQ (l:=l) (n:=n) (σ:=Unit) (λk _=>(k:Int)) (λys _=>ys.all b=l.all b) (λr=>r=if l.all b=true then(.inl ():Unit⊕Bool)else .inr false)
  (λk x xs a hk' hx hlen hi=>by
   have hd:decide ((k:Int)<len l)=true:=by rw[Za];simp;omega
   simp only[hd,Ze2,get?_nat,hx,Zee];rw[hG k x hx];rw[Zgf]at hi;cases c:b x
   ·rw[c,Zg0]at hi;exact .inr ⟨_,rfl,by rw[<-hi];rfl⟩
   ·rw[c,ZeJ]at hi
    exact .inl ⟨(),by rw[Zb];rfl,hi⟩)
  (λa hi=>by
   have hd:decide ((l.length:Int)<len l)=false:=by rw[Za];simp
   simp only[hd,Zeg,Zen]
   exact⟨_,rfl,by rw[<-hi];rfl⟩) (a:=()) rfl hn λr g2=>?_
 rw[g2]
def tsB(l:List D.Term)(w:Int):Bool:=l.all λt=>termB t&&t.W==w
theorem LG{l:List D.Term}(h:sml l){x:D.Term}(hx:x∈l):msz x<=1048576:=by
 have:=WT hx;unfold sml at h;omega
def Tp{l:List D.Term}(h:sml l):l.length<=1048576:=by unfold sml at h;omega
def Qz{l:List D.Term}{w:Int}(h:sml l):X9 fuel l w=some (tsB l w):=by
 unfold X9
 have hl:=Gh (l:=l) (b:=λt=>termB t&&t.W==w) (λx1 s1=>(YQ fuel x1).bind λx2=>if((!x2)||(x1.W !=w))then some (.inr (.inr false))else some (.inl ((w64 (s1+1))))) (λk x hx=>by
  simp only[UA (LG h (Zel hx)),Zee]
  cases termB x<;>by_cases c:x.W=w<;>simp[c]) (Tp h) (lt_fuel (Tp h))
 rw[hl];unfold tsB;cases l.all (λt=>termB t&&t.W==w)<;>rfl
def Qp{l:List D.Term}{w:Int}(h:sml l):Wi fuel w l=some (tsB l w):=by
 unfold Wi
 have hl:=Gh (l:=l) (b:=λt=>termB t&&t.W==w) (λx1 s1=>(if(x1.W !=w)then some default else(get? l s1)).bind λx2=>(if(x1.W !=w)then some default else(YR fuel x2)).bind λx3=>if((x1.W !=w)||(!x3))then some (.inr (.inr false))else some (.inl ((w64 (s1+1))))) (λk x hx=>by
  have ht:=SI (LG h (Zel hx));by_cases c:x.W=w
  ·simp only[c,bne_self_eq_false,Zeg,Zen,get?_nat,hx,Zee,ht,ZeN];cases termB x<;>simp
  ·have c':(x.W !=w)=true:=by simpa using c
   have c2:(x.W==w)=false:=by simpa using c
   simp[c',c2]) (Tp h) (lt_fuel (Tp h))
 rw[hl];unfold tsB;cases l.all (λt=>termB t&&t.W==w)<;>rfl
def Da{l:List Int}(h:l.length<=1048576):UK fuel l=some (l.all λx=>decide (0<=x/\x<=1)):=by
 unfold UK
 have hl:=Gh (l:=l) (b:=λx=>decide (0<=x/\x<=1)) (λx1 s1=>if((x1 !=0)&&(x1 !=1))then some (.inr (.inr false))else some (.inl ((w64 (s1+1))))) (λk x hx=>by
  by_cases c:0<=x/\x<=1
  ·have:x=0\/x=1:=by omega
   rcases this with rfl|rfl<;>simp
  ·have h1:(x !=0)=true:=by simp;omega
   have h2:(x !=1)=true:=by simp;omega
   rw[h1,h2,decide_eq_false c];rfl) h (lt_fuel h)
 rw[hl];cases l.all (λx=>decide (0<=x/\x<=1))<;>rfl
def pathB(p:D.Program)(s:D.Path):Bool:=
 progB p&&decide (0<=s.Pc/\s.Pc<=len p.Code)&&(len s.Regs==4)&&(len s.Mem==p.Mem)&&decide (len s.Stack<=3)&&decide (0<=s.In/\s.In<=p.In)&&decide (len s.Out<=6)&&decide (0<=s.Code/\s.Code<=9)&&decide (0<=s.Steps/\s.Steps<=400)&&decide (len s.Cond<=60)&&decide (len s.Turns<=60)&&
 (s.Stack.all λx=>decide (0<=x/\x<=len p.Code))&&(s.Turns.all λx=>decide (0<=x/\x<=1))&&tsB s.Regs p.W&&tsB s.Mem p.W&&tsB s.Out p.W&&tsB s.Cond 1
def Zaj{p:D.Program}{s:D.Path}(hp:p.Code.length<=1048576)(hs:smallP s):TF fuel p s=some (pathB p s):=by
 obtain⟨s1,s2,s3,s4,s5,s6⟩:=hs;unfold TF;have l1:=SX (l:=s.Stack) (f:=λx=>Zc x 0 (len p.Code)) (b:=λx=>decide (0<=x/\x<=len p.Code)) (λx _=>WW _ _ _) O s.Stack.length 0 O fuel (lt_fuel s3);have l2:=SX (l:=s.Turns) (f:=λx=>Zc x 0 1) (b:=λx=>decide (0<=x/\x<=1)) (λx _=>WW _ _ _) O s.Turns.length 0 O fuel (lt_fuel s6);rw[show((0:Nat):Int)=0 from rfl,Zfr]at l1 l2;rw[l1,l2];simp only[AQ hp,WW,Zee,OV,Gf,Qz s1,Qz s2,Qz s4,Qz s5];unfold pathB;cases progB p
 ·simp
 by_cases a2:0<=s.Pc/\s.Pc<=len p.Code;rotate_left
 ·simp[a2]
 by_cases a3:len s.Regs=4;rotate_left
 ·simp[a2,a3]
 by_cases a4:len s.Mem=p.Mem;rotate_left
 ·simp[a2,a3,a4]
 by_cases a5:len s.Stack<=3;rotate_left
 ·have:len s.Stack>3:=by omega
  simp[a2,a3,a4,a5,this]
 by_cases a6:0<=s.In/\s.In<=p.In;rotate_left
 ·simp[a2,a3,a4,a5,a6,Zfg.2 a5]
 by_cases a7:len s.Out<=6;rotate_left
 ·have:len s.Out>6:=by omega
  simp[a2,a3,a4,a5,a6,a7,Zfg.2 a5,this]
 by_cases a8:0<=s.Code/\s.Code<=9;rotate_left
 ·simp[a2,a3,a4,a5,a6,a7,a8,Zfg.2 a5,Zfg.2 a7]
 by_cases a9:0<=s.Steps/\s.Steps<=400;rotate_left
 ·simp[a2,a3,a4,a5,a6,a7,a8,a9,Zfg.2 a5,Zfg.2 a7]
 by_cases b1:len s.Cond<=60;rotate_left
 ·have:len s.Cond>60:=by omega
  simp[a2,a3,a4,a5,a6,a7,a8,a9,b1,Zfg.2 a5,Zfg.2 a7,this]
 by_cases b2:len s.Turns<=60;rotate_left
 ·have:len s.Turns>60:=by omega
  simp[a2,a3,a4,a5,a6,a7,a8,a9,b1,b2,Zfg.2 a5,Zfg.2 a7,Zfg.2 b1,this]
 simp only[a2,a3,a4,a5,a6,a7,a8,a9,b1,b2,gt_iff_lt,Zfg.2 a5,Zfg.2 a7,Zfg.2 b1,Zfg.2 b2,decide_true,decide_false,Zep,Zg6,Zf9,Zeg,Zen,bne_self_eq_false,ZfS,ZeJ,ZfL,Zf8,and_self];cases s.Stack.all (λx=>decide (0<=x/\x<=len p.Code))
 ·simp
 cases s.Turns.all (λx=>decide (0<=x/\x<=1))
 ·simp
 cases tsB s.Regs p.W<;>cases tsB s.Mem p.W<;>cases tsB s.Out p.W<;>cases tsB s.Cond 1<;>rfl
def Zas{p:D.Program}{s:D.Path}(hp:p.Code.length<=1048576)(hs:smallP s):TY fuel p s=some (pathB p s):=by
 obtain⟨s1,s2,s3,s4,s5,s6⟩:=hs;have hpl:∀x,WR p x=some (decide (0<=x/\x<=len p.Code)):=λx=>by simp[WR]
 have hfu:∀x,TK x=some (decide (0<=x/\x<=400)):=λx=>by simp[TK]
 unfold TY;have l1:=SX (l:=s.Stack) (f:=λx=>WR p x) (b:=λx=>decide (0<=x/\x<=len p.Code)) (λx _=>hpl _) O s.Stack.length 0 O fuel (lt_fuel s3);rw[show((0:Nat):Int)=0 from rfl,Zfr]at l1;rw[l1];simp only[Zat hp,hpl,hfu,Da s6,Zee,OV,Gf,Qp s1,Qp s2,Qp s4,Qp s5];unfold pathB;cases progB p
 ·simp
 by_cases a2:0<=s.Pc/\s.Pc<=len p.Code;rotate_left
 ·simp[a2]
 by_cases a3:len s.Regs=4;rotate_left
 ·simp[a2,a3]
 by_cases a4:len s.Mem=p.Mem;rotate_left
 ·simp[a2,a3,a4]
 by_cases a5:len s.Stack<=3;rotate_left
 ·have:len s.Stack>3:=by omega
  simp[a2,a3,a4,a5,this]
 by_cases a6:0<=s.In/\s.In<=p.In;rotate_left
 ·have:s.In<0\/s.In>p.In:=by omega
  rcases this with h|h<;>simp[a2,a3,a4,a5,a6,Zfg.2 a5,h]
 by_cases a7:len s.Out<=6;rotate_left
 ·have:len s.Out>6:=by omega
  simp[a2,a3,a4,a5,a6,a7,Zfg.2 a5,this]
 have c6:¬s.In<0:=by omega
 have c6':¬s.In>p.In:=by omega
 simp only[a2,a3,a4,a5,a6,a7,c6,c6',gt_iff_lt,Zfg.2 a5,Zfg.2 a7,Zfg.2 a6.2,decide_true,decide_false,Zep,Zg6,Zf9,Zeg,Zen,bne_self_eq_false,ZfS,ZeJ,ZfL,Zf8,and_self];cases hst:s.Stack.all (λx=>decide (0<=x/\x<=len p.Code))
 ·simp
 simp only[Ze2];by_cases a8:0<=s.Code/\s.Code<=9;rotate_left
 ·have:s.Code<0\/9<s.Code:=by omega
  rcases this with h|h<;>simp[a8,h]
 have c8:¬s.Code<0:=by omega
 have c8':¬9<s.Code:=by omega
 by_cases a9:0<=s.Steps/\s.Steps<=400;rotate_left
 ·simp[a8,a9,c8,c8']
 by_cases b1:len s.Cond<=60;rotate_left
 ·have:60<len s.Cond:=by omega
  simp[a8,a9,b1,c8,c8',this]
 by_cases b2:len s.Turns<=60;rotate_left
 ·have:60<len s.Turns:=by omega
  simp[a8,a9,b1,b2,c8,c8',this]
 simp only[a8,a9,b1,b2,c8,c8',Zfg.2 b1,Zfg.2 b2,decide_true,decide_false,Zep,Zg6,ZeN,Zf9,Zeg,Zen,ZeJ,ZfL,Zf8,and_self];cases s.Turns.all (λx=>decide (0<=x/\x<=1))
 ·simp
 cases tsB s.Regs p.W<;>cases tsB s.Mem p.W<;>cases tsB s.Out p.W<;>cases tsB s.Cond 1<;>rfl
def JR(w v:Int):∃b,Ye w v=some b/\YN w v=some b:=by
 unfold Ye YN Zc Yk;by_cases h:1<=w/\w<=16
 ·grind[CU]
 simp_all
def wordOf(w v:Int):Int:=(Ye w v).getD 0
def YS(w v:Int):Ye w v=some (wordOf w v):=by
 obtain⟨b,h,-⟩:=JR w v;simp[wordOf,h]
def TG(w v:Int):YN w v=some (wordOf w v):=by
 obtain⟨b,h,h'⟩:=JR w v;simp_all[wordOf]
def MQ{w:Int}(h1:1<=w)(h2:w<=16):w=1\/w=2\/w=3\/w=4\/w=5\/w=6\/w=7\/w=8\/w=9\/w=10\/w=11\/w=12\/w=13\/w=14\/w=15\/w=16:=by omega
def Tn{w:Int}(h1:1<=w)(h2:w<=16):shl? 1 w=some (2^w.toNat)/\shl? 1 (IntKind.u64.wrap w)=some (2^w.toNat)/\w64 ((2:Int)^w.toNat-1)=2^w.toNat-1/\(2:Int)<=2^w.toNat/\(2:Int)^w.toNat<=65536:=by
 rcases MQ h1 h2 with rfl|rfl|rfl|rfl|rfl|rfl|rfl|rfl|rfl|rfl|rfl|rfl|rfl|rfl|rfl|rfl<;>exact⟨rfl,rfl,by decide,by decide,by decide⟩
theorem Y6{w:Int}(h1:1<=w)(h2:w<=16)(v:Int):wordB w v=true↔0<=v/\v<2^w.toNat:=by
 obtain⟨a1,a2,a3,a4,a5⟩:=Tn h1 h2;have hs:=XC w v;unfold ZF Zc at hs;have e:(decide (w>=1)&&decide (w<=16))=true:=by simp;omega
 simp only[e,Zee]at hs;by_cases hv:0<=v
 ·simp only[hv,decide_true,Ze2,a1,Zee]at hs;rw[a3]at hs;simp at hs;rw[<-hs];simp[hv];omega
 ·simp[hv,a1]at hs;rw[hs];simp;omega
theorem Yr{w v:Int}(h:wordB w v=true):1<=w/\w<=16:=by
 have hs:=XC w v;rw[h]at hs;unfold ZF Zc at hs;by_cases a:1<=w
 ·by_cases b:w<=16
  ·exact⟨a,b⟩
  ·have e:(decide (w>=1)&&decide (w<=16))=false:=by simp[b]
   simp only[e,Zee]at hs;simp at hs
 ·have e:(decide (w>=1)&&decide (w<=16))=false:=by simp[a]
  simp only[e,Zee]at hs;simp at hs
def GQ{w v:Int}(h:wordB w v=true):0<=v/\v<65536:=by
 obtain⟨a,b⟩:=Yr h;obtain⟨_,_,_,_,h5⟩:=Tn a b;have:=(Y6 a b v).1 h;omega
def KW{x:Int}(h1:0<=x)(h2:x<=100000):IntKind.u64.wrap x=x:=by
 have:IntKind.u64.wrap x=x%18446744073709551616:=by simp[IntKind.wrap,IntKind.bits,IntKind.signed]
 rw[this];omega
def Oo(x:Int){y:Int}(h:0<=y):shr? x y=some (x.fdiv (2^min y.toNat 64)):=by unfold shr?;rw[ifn]
def Gb(x:Int){y:Int}(h:0<=y):shl? x y=some (w64 (x*2^min y.toNat 64)):=by unfold shl?;rw[ifn]
theorem MX(w v:Int):∃r,Y9 w v=some r/\Xb w v=some r:=by
 unfold Y9 Xb;rw[XC,Wp];simp only[Zee];cases hb:wordB w v with
 |false=>exact⟨0,rfl,rfl⟩
 | true=>
  obtain⟨h1,h2⟩:=Yr hb;obtain⟨a1,a2,a3,a4,a5⟩:=Tn h1 h2;obtain⟨c1,c2⟩:=(Y6 h1 h2 v).1 hb;have e1:w64 (w-1)=w-1:=Zb;have hsh:v.fdiv (2^min (w-1).toNat 64)=0\/v.fdiv (2^min (w-1).toNat 64)=1:=by
   have e2:min (w-1).toNat 64=(w-1).toNat:=by omega
   rw[e2,Zgo _ (Int.pow_nonneg ay)];have e3:(2:Int)^w.toNat=2*2^(w-1).toNat:=by
    have:w.toNat=(w-1).toNat+1:=by omega
    rw[this,Int.pow_succ];omega
   have hp:(0:Int)<2^(w-1).toNat:=ZgY ay;rw[e3]at c2;by_cases hlt:v<2^(w-1).toNat
   ·left;exact Int.ediv_eq_zero_of_lt c1 hlt
   ·right;have g1:1<=v/2^(w-1).toNat:=Int.le_ediv_of_mul_le hp O;have g2:v/2^(w-1).toNat<2:=Int.ediv_lt_of_lt_mul hp O;omega
  simp only[Zep,Zeg,Zen,e1,KW (show 0<=w-1 by omega) (show w-1<=100000 by omega),Oo v (show 0<=w-1 by omega),Zee,a1,a2];rcases hsh with e|e
  ·rw[e];exact⟨v,by simp,by simp⟩
  ·rw[e];exact⟨w64 (v-2^w.toNat),by simp,by simp⟩
def signedOf(w v:Int):Int:=(Y9 w v).getD 0
def RH(w v:Int):Y9 w v=some (signedOf w v):=by
 obtain⟨b,h,-⟩:=MX w v;simp[signedOf,h]
def MK(w v:Int):Xb w v=some (signedOf w v):=by
 obtain⟨b,h,h'⟩:=MX w v;simp[signedOf,h,h']
def Kz(b:Bool):Yw b=some (if b then 1 else 0)/\Yx b=some (if b then 1 else 0):=by
 cases b<;>exact⟨rfl,rfl⟩
theorem UV(op w a b:Int):∃r,ZQ op w a b=some r/\Yb op w a b=some r:=by
 cases ha:wordB w a with
 |false=>exact⟨-1,by simp[ZQ,XC,ha],by simp[Yb,Wp,ha]⟩
 | true=>
  cases hb:wordB w b with
  |false=>exact⟨-1,by simp[ZQ,XC,ha,hb],by simp[Yb,Wp,ha,hb]⟩
  |true=>
   obtain⟨h1,h2⟩:=Yr ha;obtain⟨a1,a2,a3,a4,a5⟩:=Tn h1 h2;obtain⟨c1,c2⟩:=GQ ha;obtain⟨d1,d2⟩:=GQ hb;have hb':=KW d1 O;have hw':=KW (show 0<=w-1 by omega) O;have hw1:w64 (w-1)=w-1:=Zb;have s1:=Gb a d1;have s2:=λx=>Oo x d1;have s3:=λx=>Oo x (show 0<=w-1 by omega);refine⟨(ZQ op w a b).getD (-1),?_,?_⟩<;>unfold ZQ
   all_goals try unfold Yb
   all_goals simp only[XC,Wp,ha,hb,YS,TG,Zee,Zep,Zeg,Zen,Zf9,UX,RH,MK,(Kz _).1,(Kz _).2,a1,a2,hw1]
   all_goals grind(splits:=40) [quo?,rem?,imin]
theorem JF(op w a:Int):∃r,Xt op w a=some r/\WZ op w a=some r:=by
 unfold Xt WZ;simp only[XC,Wp,YS,TG,Zee];cases ha:wordB w a with
 |false=>exact⟨-1,rfl,rfl⟩
 |true=>
  obtain⟨h1,h2⟩:=Yr ha;obtain⟨a1,a2,a3,a4,a5⟩:=Tn h1 h2;simp only[a1,a2,Zee];by_cases e1:op=1
  ·subst e1;exact⟨_,rfl,rfl⟩
  by_cases e2:op=2
  ·subst e2;exact⟨_,rfl,rfl⟩
  exact⟨-1,by simp[e1,e2],by simp[e1,e2]⟩
theorem IV(w a v b:Int):∃r,XR w a v b=some r/\Vu w a v b=some r:=by
 unfold XR Vu;simp only[XC,Wp,Zee];cases ha:wordB w a with
 |false=>exact⟨-1,rfl,rfl⟩
 | true=>
  simp only[Zep,Zeg,Zen,Zee,ZeN];cases hb:wordB v b with
  |false=>exact⟨-1,rfl,rfl⟩
  |true=>
   obtain⟨h1,h2⟩:=Yr hb;rw[KW (show 0<=v by omega) O];simp only[Gb a (show 0<=v by omega),Zee];by_cases c:w64 (w+v)>16
   ·exact⟨-1,by simp[c],by simp[c]⟩
   ·exact⟨w64 (w64 (a*2^min v.toNat 64)+b),by simp[c],by simp[c]⟩
theorem Gu(w a n:Int)(s:Bool):∃r,XL w a n s=some r/\Vo w a n s=some r:=by
 unfold XL Vo;simp only[XC,Wp,YS,TG,RH,MK,Zee];cases ha:wordB w a with
 |false=>exact⟨-1,rfl,rfl⟩
 | true=>
  obtain⟨h1,h2⟩:=Yr ha;have hi:Yk n=some (decide (1<=n/\n<=16)):=by simp[Yk]
  simp only[Zep,Zeg,Zen,Zee,ZeN,hi];by_cases c1:n<w
  ·exact⟨-1,by simp[c1],by simp[c1]⟩
  ·by_cases c2:n<=16
   ·have c3:1<=n/\n<=16:=by omega
    have c4:¬n>16:=by omega
    cases s
    ·exact⟨a,by simp[c1,c4],by simp[c1,c3]⟩
    ·exact⟨wordOf n (signedOf w a),by simp[c1,c4,YS],by simp[c1,c3,TG]⟩
   ·have c3:¬(1<=n/\n<=16):=by omega
    have c4:n>16:=by omega
    exact⟨-1,by simp[c4],by simp[c3]⟩
theorem Dm{w a l n:Int}(hl:0<=l/\l<=100)(hn:-100<=n/\n<=100):∃r,WQ w a l n=some r/\UL w a l n=some r:=by
 unfold WQ UL;simp only[XC,Wp,YS,TG,Zee];cases ha:wordB w a with
 |false=>exact⟨-1,rfl,rfl⟩
 | true=>
  obtain⟨h1,h2⟩:=Yr ha;have e1:w64 (w-n)=w-n:=Zb;have e2:w64 (w-l)=w-l:=Zb;simp only[Zep,ZeN,e1,e2];have hl0:¬l<0:=by omega
  by_cases c1:n<1
  ·exact⟨-1,by simp[c1],by simp[c1]⟩
  ·by_cases c2:n>w-l
   ·have:n>w\/l>w-n:=by omega
    refine⟨-1,?_,by simp[c2]⟩;rcases this with h|h<;>simp[h]
   ·have c3:¬n>w:=by omega
    have c4:¬l>w-n:=by omega
    obtain⟨a1,a2,a3,_⟩:=Tn (w:=n) O O;have hw:∀x,wordOf n x=band x (w64 (2^n.toNat-1)):=λx=>by
     have hs:=YS n x;unfold Ye Zc at hs;have e:(decide (n>=1)&&decide (n<=16))=true:=by simp;omega
     simp only[e,Zee,Zep,Zeg,Zen,a1,Option.some.injEq]at hs;exact hs.symm
    refine⟨wordOf n (a.fdiv (2^min l.toNat 64)),?_,?_⟩
    ·simp[hl0,c1,c3,c4,Oo a hl.1,YS]
    ·simp only[hl0,c1,c2,decide_false,Zf9,Zeg,Zen,KW hl.1 O,Oo a hl.1,a2,Zee,hw]
theorem Cn{α:Type}{l m:List α}(h:l.length+m.length<=1048576):app? l m=some (l++m):=by
 simp_all[app?,Zei,room]<;>grind
def get0(x:D.Term)(l:List D.Term):get? (x::l) 0=some x:=rfl
def get1(x y:D.Term)(l:List D.Term):get? (x::y::l) 1=some y:=rfl
def get2'(x y z:D.Term)(l:List D.Term):get? (x::y::z::l) 2=some z:=rfl
def geti0(x:Int)(l:List Int):get? (x::l) 0=some x:=rfl
def geti1(x y:Int)(l:List Int):get? (x::y::l) 1=some y:=rfl
def geti2(x y z:Int)(l:List Int):get? (x::y::z::l) 2=some z:=rfl
theorem BI{t:D.Term}(h:locB t=true):(t.Op=0/\t.Kids=[])\/(t.Op=22/\t.Kids=[])\/((t.Op=1\/t.Op=2)/\∃a,t.Kids=[a]/\a.W=t.W)\/(3<=t.Op/\t.Op<=16/\∃a b,t.Kids=[a,b]/\a.W=b.W)\/(t.Op=17/\∃a b c,t.Kids=[a,b,c])\/(t.Op=18/\∃a b,t.Kids=[a,b])\/(t.Op=19/\0<=t.N/\t.N<=16/\∃a,t.Kids=[a])\/((t.Op=20\/t.Op=21)/\∃a,t.Kids=[a]):=by
 obtain⟨op,w,m,nm,ks⟩:=t;unfold locB shB at h;rcases ks with _|⟨a,_|⟨b,_|⟨c,_|⟨d,l⟩⟩⟩⟩<;>simp at h⊢<;>grind
def ZW{op w m:Int}{nm:Str}{ks:List D.Term}(h:nodeB ⟨op,w,m,nm,ks⟩=true):(1<=w/\w<=16)/\((op=0/\ks=[]/\nm=⟨[]⟩/\wordB w m=true)\/(op=22/\ks=[]/\m=0)\/((op=1\/op=2)/\m=0/\nm=⟨[]⟩/\∃a,ks=[a]/\nodeB a=true/\a.W=w)\/(3<=op/\op<=16/\m=0/\nm=⟨[]⟩/\∃a b,ks=[a,b]/\nodeB a=true/\nodeB b=true/\a.W=b.W/\(op<=13->a.W=w)/\(14<=op->w=1))\/(op=17/\m=0/\nm=⟨[]⟩/\∃a b c,ks=[a,b,c]/\nodeB a=true/\nodeB b=true/\nodeB c=true/\a.W=1/\b.W=w/\c.W=w)\/(op=18/\m=0/\nm=⟨[]⟩/\∃a b,ks=[a,b]/\nodeB a=true/\nodeB b=true/\a.W+b.W=w)\/(op=19/\nm=⟨[]⟩/\0<=m/\m<=16/\∃a,ks=[a]/\nodeB a=true/\m+w<=a.W)\/((op=20\/op=21)/\m=0/\nm=⟨[]⟩/\∃a,ks=[a]/\nodeB a=true/\a.W<=w)):=by
 rw[XJ,Zek]at h;obtain⟨h,hk⟩:=h;rw[Yf]at hk;unfold locB shB at h;rcases ks with _|⟨a,_|⟨b,_|⟨c,_|⟨d,l⟩⟩⟩⟩<;>simp[Sw]at h hk⊢<;>grind
open Cc (BS LS CircP Grow GoodL Good litN lines negs seqP ifP opP net RelB FOk)
def bitI(v:Int)(k:Nat):Bool:=match shr? v (k:Int)with|some x=>band x 1==1|none=>false
def wordL(w:Nat)(v:Int):List Int:=(List.range w).map λk=>if bitI v k then 1 else-1
def Ta(w:Nat)(v:Int):(wordL w v).length=w:=by simp[wordL]
def atV:List D.Value->Int->Str->Int
 |[],a,_=>a
 |v::l,a,s=>if Str.eqb v.Name s then a+v.W else atV l (a+v.W) s
def varL(vs:List D.Value)(s:Str)(w:Nat):List Int:=(List.range w).map λk:Nat=>atV vs 1 s-(k:Int)
theorem FO(vs:List D.Value)(s:Str)(w:Nat):(varL vs s w).length=w:=by simp[varL]
def fin(op:Int)(w m:Nat)(ks:List (List Int))(s:BS):LS:=
 if op=1 then(negs (ks.getD 0 []),s)
 else if op=2 then if w=16 then(List.replicate w (-1),(s.1,true))else opP s 4 (List.replicate w (-1)) (ks.getD 0 [])
 else if op=17 then seqP (λs p=>ifP s ((ks.getD 0 []).getD 0 0) p.1 p.2) s ((ks.getD 1 []).zip (ks.getD 2 []))
 else if op=18 then(ks.getD 1 []++ks.getD 0 [],s)
 else if op=19 then(((ks.getD 0 []).drop m).take w,s)
 else if op=20 then(ks.getD 0 []++List.replicate (w-(ks.getD 0 []).length) (-1),s)
 else if op=21 then(ks.getD 0 []++List.replicate (w-(ks.getD 0 []).length) ((ks.getD 0 []).getD ((ks.getD 0 []).length-1) 0),s)
 else if(ks.getD 0 []).length=16 then(List.replicate w (-1),(s.1,true))else opP s op (ks.getD 0 []) (ks.getD 1 [])
mutual
def nP(vs:List D.Value):D.Term->BS->LS
 |⟨op,w,m,nm,ks⟩,s=>if op=0 then(wordL w.toNat m,s)else if op=22 then(varL vs nm w.toNat,s)else let r:=nPs vs ks s;fin op w.toNat m.toNat r.1 r.2
def nPs(vs:List D.Value):List D.Term->BS->List (List Int)×BS
 |[],s=>([],s)
 |t::l,s=>let r:=nP vs t s;let q:=nPs vs l r.2;(r.1::q.1,q.2)
end
def Bv(vs:List D.Value)(t:D.Term)(s:BS):nP vs t s=if t.Op=0 then(wordL t.W.toNat t.N,s)else if t.Op=22 then(varL vs t.Name t.W.toNat,s)else fin t.Op t.W.toNat t.N.toNat (nPs vs t.Kids s).1 (nPs vs t.Kids s).2:=by cases t;rw[nP]
def CF(vs:List D.Value)(s:BS):nPs vs [] s=([],s):=by rw[nPs]
def Ko(vs:List D.Value)(t:D.Term)(l:List D.Term)(s:BS):nPs vs (t::l) s=((nP vs t s).1::(nPs vs l (nP vs t s).2).1,(nPs vs l (nP vs t s).2).2):=by rw[nPs]
structure VF(vs:List D.Value)(c:D.Circuit):Prop where
 w1:∀v∈vs,1<=v.W
 sum:(vs.map (·.W)).foldl (· + ·) 0=c.Inputs
def TV(vs:List D.Value)(t:D.Term):Prop:=∀p∈vrs t,∃v∈vs,v.Name=p.1/\v.W=p.2
open Cc (BS LS CircP Grow GoodL Good litN lines negs seqP ifP opP net RelB FOk Su XN litN_iff litN_mono ZR)
theorem Za1{vs:List D.Value}{s:Str}(h1:∀v∈vs,1<=v.W):∀{a:Int},a<=atV vs a s/\atV vs a s<=(vs.map (·.W)).foldl (· + ·) a:=by
 induction vs with
 |nil=>simp[atV]
 |cons v l ih=>
  grind[atV]
theorem Zcf{s:Str}{w:Int}:∀{vs:List D.Value}{a:Int},(∀v∈vs,1<=v.W)->vs.Pairwise (λx y=>x.Name≠y.Name)->(∃v∈vs,v.Name=s/\v.W=w)->a+w<=atV vs a s
 |[],a,_,_,⟨v,hv,_⟩=>by cases hv
 | v::l,a,h1,hp,⟨x,hx,hn,hw⟩=>by
  unfold atV;rw[ZfE]at hp;by_cases c:v.Name=s
  ·grind[Str.eqb,Uc]
  ·have e:Str.eqb v.Name s=false:=by simp_all[Sw]
   rcases ZeR.1 hx with rfl|hx
   ·simp_all
   ·have:=Zcf (a:=a+v.W) (λv hv=>h1 v (by simp[hv])) hp.2 ⟨x,hx,hn,hw⟩;grind
theorem PN:∀(l:List Int)(a b:Int),l.foldl (· + ·) (a+b)=a+l.foldl (· + ·) b
 |[],a,b=>rfl
 |x::l,a,b=>by simp only[Zgk];rw[Int.add_assoc];exact PN l a (b+x)
def Zbn{vs:List D.Value}{s:BS}{nm:Str}{w:Int}(hs:CircP s.1)(hv:VF vs s.1)(hp:vs.Pairwise λx y=>x.Name≠y.Name)(h:∃v∈vs,v.Name=nm/\v.W=w)(hw:1<=w):GoodL s w.toNat (varL vs nm w.toNat,s):=by
 refine⟨hs,Grow.refl _,FO _ _ _,λx hx=>?_⟩;obtain⟨k,hk,rfl⟩:=Zfz.1 hx;have h1:=Zcf (a:=1) hv.w1 hp h;have h2:=(Za1 (s:=nm) hv.w1 (a:=1)).2;have h3:=PN (vs.map (·.W)) 1 0;rw[show(1:Int)+0=1 from rfl,hv.sum]at h3;rw[litN_iff];show 1<=Cc.iab (atV vs 1 nm-(k:Int))/\Cc.iab (atV vs 1 nm-(k:Int))<=s.1.Inputs+1+(s.1.Gates.length:Int);grind[Cc.iab]
def Zau{s:BS}{w:Nat}{v:Int}(hs:CircP s.1):GoodL s w (wordL w v,s):=by
 refine⟨hs,Grow.refl _,Ta _ _,λx hx=>?_⟩;unfold wordL at hx;grind[Su,XN]
def K2(s:BS)(t:D.Term)(l:List Int):Prop:=l.length=t.W.toNat/\∀x∈l,litN (lines s.1) x=true
def KK(s:BS):List D.Term->List (List Int)->Prop
 |[],[]=>True
 |t::ts,l::ls=>K2 s t l/\KK s ts ls
 |_,_=>False
theorem KK1{s:BS}{t:D.Term}{ts:List D.Term}{ls:List (List Int)}(h:KK s (t::ts) ls):∃l l',K2 s t l/\KK s ts l'/\ls=l::l':=by
 cases ls with
 |nil=>exact h.elim
 |cons l l'=>exact⟨l,l',h.1,h.2,rfl⟩
theorem KK0{s:BS}{ls:List (List Int)}(h:KK s [] ls):ls=[]:=by
 cases ls with
 |nil=>rfl
 |cons l l'=>exact h.elim
def K2.mono{s s':BS}{t:D.Term}{l:List Int}(h:K2 s t l)(g:Grow s.1 s'.1):K2 s' t l:=⟨h.1,λx hx=>litN_mono (h.2 x hx) g.lines⟩
theorem GZ{s:BS}{w:Nat}(hs:CircP s.1)(f:Bool):GoodL s w (List.replicate w (-1),(s.1,f)):=⟨hs,Grow.refl _,by simp,λx hx=>by simp_all[Zgt,XN]⟩
def Nb{s:BS}{w:Nat}(hs:CircP s.1):∀x∈List.replicate w (-1:Int),litN (lines s.1) x=true:=λx hx=>by simp_all[Zgt,XN]
def Zbi{s:BS}{c:Int}{a b:List Int}(hs:CircP s.1)(hc:litN (lines s.1) c=true)(ha:∀x∈a,litN (lines s.1) x=true)(hb:∀x∈b,litN (lines s.1) x=true):FOk (λs p=>ifP s c p.1 p.2) s (a.zip b):=λs' p hc' hg hp=>by
 have h1:=ZgG hp;exact Cc.if_good hc' (litN_mono hc hg.lines) (litN_mono (ha _ h1.1) hg.lines) (litN_mono (hb _ h1.2) hg.lines)
def fin_good{s:BS}{t:D.Term}{ls:List (List Int)}(hb:nodeB t=true)(hs:CircP s.1)(h0:t.Op≠0)(h22:t.Op≠22)(hk:KK s t.Kids ls):GoodL s t.W.toNat (fin t.Op t.W.toNat t.N.toNat ls s):=by
 obtain⟨op,w,m,nm,ks⟩:=t;obtain⟨hw,hsh⟩:=ZW hb;simp only at h0 h22 hk⊢;rcases hsh with⟨rfl,-⟩|⟨rfl,-⟩|⟨ho,-,-,a,rfl,ha,haw⟩|⟨h3,h16,-,-,a,b,rfl,ha,hb',hab,h13,h14⟩|⟨rfl,-,-,a,b,c,rfl,ha,hb',hc,ha1,hbw,hcw⟩|⟨rfl,-,-,a,b,rfl,ha,hb',habw⟩|⟨rfl,-,hm0,hm1,a,rfl,ha,haw⟩|⟨ho,-,-,a,rfl,ha,haw⟩
 ·omega
 ·omega
 ·obtain⟨la,r1,k1,hn1,rfl⟩:=KK1 hk;obtain rfl:=KK0 hn1;have hl:la.length=w.toNat:=by rw[k1.1,haw]
  unfold fin;simp only[Ze9];rcases ho with rfl|rfl
  ·simp only[Ze2];exact⟨hs,Grow.refl _,by simp_all[Cc.negs_len],Cc.negs_lits k1.2⟩
  ·simp only[show¬((2:Int)=1) by decide,Zen,Ze2];split
   ·grind[GZ]
   ·rename_i h16;have:=Cc.op_good hs (op:=4) (a:=List.replicate w.toNat (-1)) (b:=la) O (by simp[hl]) aa aa (Nb hs) k1.2;simp_all[Cc.opW]
 ·obtain⟨la,r1,k1,hn1,rfl⟩:=KK1 hk;obtain⟨lb,r2,k2,hn2,rfl⟩:=KK1 hn1;obtain rfl:=KK0 hn2;have hA:=Z9 ha;unfold fin;simp only[Ze9,Zfl];rw[ifn,ifn,ifn,ifn,ifn,ifn,ifn];split
  ·simp_all[GZ]
  ·rename_i h16';have:=Cc.op_good hs (op:=op) (a:=la) (b:=lb) ⟨h3,h16⟩ (by rw[k1.1,k2.1,hab]) aR aR k1.2 k2.2;have e:Cc.opW op la.length=w.toNat:=by
    unfold Cc.opW;split
    ·omega
    ·rw[k1.1,h13 O]
   simp_all
 ·obtain⟨la,r1,k1,hn1,rfl⟩:=KK1 hk;obtain⟨lb,r2,k2,hn2,rfl⟩:=KK1 hn1;obtain⟨lc,r3,k3,hn3,rfl⟩:=KK1 hn2;obtain rfl:=KK0 hn3;unfold fin;simp only[Ze9,Zfl];rw[ifn,ifn,Zei aq];have hc0:litN (lines s.1) (la.getD 0 0)=true:=k1.2 _ (Cc.getD_mem aR);have g:=Cc.seq_good hs (Zbi hs hc0 k2.2 k3.2);rw[Zga,k2.1,k3.1,hbw,hcw,ZgF]at g;exact g
 ·obtain⟨la,r1,k1,hn1,rfl⟩:=KK1 hk;obtain⟨lb,r2,k2,hn2,rfl⟩:=KK1 hn1;obtain rfl:=KK0 hn2;have hA:=Z9 ha;have hB:=Z9 hb';unfold fin;simp only[Ze9,Zfl];rw[ifn,ifn,ifn,Zei aq];exact⟨hs,Grow.refl _,by rw[Zeo,k1.1,k2.1];omega,λx hx=>(Zew.1 hx).elim (k2.2 x) (k1.2 x)⟩
 ·obtain⟨la,r1,k1,hn1,rfl⟩:=KK1 hk;obtain rfl:=KK0 hn1;unfold fin;simp only[Ze9];rw[ifn,ifn,ifn,ifn,Zei aq];exact⟨hs,Grow.refl _,by rw[Ze1,Zex,k1.1];omega,λx hx=>k1.2 x (Zfv (ZfQ hx))⟩
 ·obtain⟨la,r1,k1,hn1,rfl⟩:=KK1 hk;have hA:=Z9 ha;unfold fin;simp only[Ze9];rcases ho with rfl|rfl
  ·rw[ifn,ifn,ifn,ifn,ifn,Zei aq];exact⟨hs,Grow.refl _,by rw[Zeo,ZeT,k1.1];omega,λx hx=>(Zew.1 hx).elim (k1.2 x) (Nb hs x)⟩
  ·rw[ifn,ifn,ifn,ifn,ifn,ifn,Zei aq];refine⟨hs,Grow.refl _,by rw[Zeo,ZeT,k1.1];omega,λx hx=>(Zew.1 hx).elim (k1.2 x) λh=>?_⟩;rw[(Zgt.1 h).2];exact k1.2 _ (Cc.getD_mem aR)
theorem KK.mono{s s':BS}(g:Grow s.1 s'.1):∀{ts:List D.Term}{ls:List (List Int)},KK s ts ls->KK s' ts ls
 |[],[],_=>trivial
 |[],_::_,h=>h.elim
 |_::_,[],h=>h.elim
 |_::_,_::_,h=>⟨h.1.mono g,KK.mono g h.2⟩
def VF.mono{vs:List D.Value}{c c':D.Circuit}(h:VF vs c)(g:Grow c c'):VF vs c':=⟨h.w1,h.sum.trans g.inputs.symm⟩
theorem Ow{vs:List D.Value}{t x:D.Term}(h:TV vs t)(ho:t.Op≠22)(hx:x∈t.Kids):TV vs x:=λp hp=>by
 refine h p ?_;rw[Re,Zem ho];have:∀{l:List D.Term},x∈l->p∈vrss l:=λ{l}=>by
  induction l with
  |nil=>simp
  |cons y l ih=>
   grind[Uz]
 exact this hx
theorem Pw{vs:List D.Value}:∀(l:List D.Term)(s:BS),(∀t∈l,∀s:BS,CircP s.1->VF vs s.1->GoodL s t.W.toNat (nP vs t s))->CircP s.1->VF vs s.1->CircP (nPs vs l s).2.1/\Grow s.1 (nPs vs l s).2.1/\KK (nPs vs l s).2 l (nPs vs l s).1
 |[],s,_,hs,_=>by exact⟨hs,Grow.refl _,trivial⟩
 |t::l,s,h,hs,hv=>by
  have g:=h t U s hs hv;obtain⟨q1,q2,q3⟩:=Pw l (nP vs t s).2 (λx hx=>h x (by simp[hx])) g.circ (hv.mono g.grow);exact⟨q1,g.grow.trans q2,⟨g.len,λx hx=>litN_mono (g.lits x hx) q2.lines⟩,q3⟩
def nodeK{t:D.Term}(hb:nodeB t=true):∀x∈t.Kids,nodeB x=true:=λx hx=>by
 rw[XJ,Zek,Yf,Zev]at hb;simp_all
theorem PS{vs:List D.Value}(hp:vs.Pairwise λx y=>x.Name≠y.Name):∀(n:Nat)(t:D.Term)(s:BS),cnt t<=n->nodeB t=true->TV vs t->CircP s.1->VF vs s.1->GoodL s t.W.toNat (nP vs t s):=by
 intro n
 induction n with
 |zero=>simp[Xr]
 | succ n ih=>
  intro t s hc hb ht hs hv;have hw:=Z9 hb;rw[Bv];by_cases h0:t.Op=0
  ·simp_all[Zei,Zau]
  rw[Zem h0];by_cases h22:t.Op=22
  ·rw[Zei h22];refine Zbn hs hv hp (ht (t.Name,t.W) ?_) hw.1;simp_all[Re,Zei]
  rw[Zem h22];have hcn:=Xr t;obtain⟨q1,q2,q3⟩:=Pw t.Kids s (λx hx s' hs' hv'=>ih x s' (by have:=Wy hx;omega) (nodeK hb x hx) (Ow ht h22 hx) hs' hv') hs hv;have g:=fin_good hb q1 h0 h22 q3;exact⟨g.circ,q2.trans g.grow,g.len,g.lits⟩
open Cc (BS LS CircP Grow GoodL Good litN lines negs seqP ifP opP net RelB FOk FU)
def Fq(v:Int)(k:Nat):∃x,shr? v (k:Int)=some x/\bitI v k=(band x 1==1):=by
 have:∃x,shr? v (k:Int)=some x:=by unfold shr?;rw[ifn];exact⟨_,rfl⟩
 obtain⟨x,hx⟩:=this;exact⟨x,hx,by unfold bitI;rw[hx]⟩
def Jm(k:Nat)(v:Int):wordL (k+1) v=wordL k v++[if bitI v k then 1 else-1]:=by unfold wordL;rw[ZfJ,Zfj];rfl
def Kn(w:Nat):wordL w 0=List.replicate w (-1):=by
 have:∀k,bitI 0 k=false:=λk=>by
  have h:shr? 0 (k:Int)=some 0:=by unfold shr?;rw[ifn];simp
  unfold bitI;rw[h];exact Cc.band01
 unfold wordL;simp only[this,Zeg,Zen];rw[List.map_const'];simp
section
variable{fu:Nat}[FU fu]
def LY{w:Nat}(hw:w<=1000)(v:Int):VO fu (w:Int) v=some (wordL w v):=by
 unfold VO;rw[Z5 (I:=λk t=>t=((k:Int),wordL k v)) (m:=w) (r:=wordL w v) (λk t hk ht=>?_) (λt ht=>?_) w 0 _ O (by simp[wordL]) fu (Cc.lt_fuel O)]
 ·rfl
 all_goals subst ht
 ·refine⟨_, ?_,rfl⟩;obtain⟨x,hx,hb⟩:=Fq v k;have ha:∀y:Int,app? (wordL k v) [y]=some (wordL k v++[y]):=λy=>by
   unfold app?;rw[Zei (by rw[Ta];simp;unfold room;omega)]
  simp only;rw[Zei aa,hx];simp only[Zee];rw[Jm,hb];by_cases c:(band x 1==1)=true
  ·rw[Zei c,Zei c,ha,Zb];rfl
  ·rw[Zem c,Zem c,ha,Zb];rfl
 ·simp only;rw[ifn]
def KU{w:Nat}(hw:w<=900)(v:Int):YD fu (w:Int) v=some (wordL w v):=by
 unfold YD;have hmk:mk? (w:Int) (0:Int)=some (List.replicate w 0):=by
  unfold mk?;rw[Zei ⟨by omega,by unfold room;omega⟩];rfl
 rw[hmk];simp only[Zee];rw[Z5 (I:=λk t=>t=((k:Int),wordL k v++List.replicate (w-k) 0)) (m:=w) (r:=wordL w v) (λk t hk ht=>?_) (λt ht=>?_) w 0 _ O (by simp[wordL]) fu (Cc.lt_fuel O)]
 ·rfl
 all_goals subst ht
 ·refine⟨_, ?_,rfl⟩;obtain⟨x,hx,hb⟩:=Fq v k;have e:∀y:Int,(wordL k v++List.replicate (w-k) 0).set k y=(wordL k v++[y])++List.replicate (w-(k+1)) 0:=λy=>by
   have:=Cc.set_fill (l:=wordL k v) (n:=w-(k+1)) (x:=y);rw[Ta,show w-(k+1)+1=w-k by omega]at this;exact this
  have e2:∀y z:Int,((wordL k v++[y])++List.replicate (w-(k+1)) 0).set k z=(wordL k v++[z])++List.replicate (w-(k+1)) 0:=λy z=>by
   rw[Zez,Zfq _ _ (by rw[Ta];omega),Ta,ZfD,ZeW,ZfF,Zez,ZeW]
  simp only;rw[Zei ah,set?_nat (by simp[Ta];omega)];simp only[Zee];rw[Cc.u64k O,hx];simp only[Zee];rw[e,Jm,hb];by_cases c:(band x 1==1)=true
  ·rw[Zei c,Zei c,set?_nat (by simp[Ta]<;>omega),e2];simp only[Zee];rw[Zb];rfl
  ·rw[Zem c,Zem c,Zb];rfl
 ·simp only;rw[Zem ao];simp
def at_loop{vs:List D.Value}{s:Str}(hl:vs.length<=1000)(hw:∀v∈vs,1<=v.W/\v.W<=16):iterN (λ(s1:Int×Int)=>if(decide (s1.2<(len vs)))then(get? vs s1.2).bind λx2=>if(Str.eqb x2.Name s)then some (.inr ((w64 (s1.1+x2.W))))else some (.inl ((w64 (s1.1+x2.W)),(w64 (s1.2+1))))else some (.inr (s1.1))) fu (1,0)=some (atV vs 1 s):=by
  refine VQ (l:=vs) (n:=fu) (σ:=Int) (λk a=>(a,(k:Int))) (λys a=>atV ys a s=atV vs 1 s/\1<=a/\a<=1+16*(vs.length-ys.length:Int)/\∀y∈ys,y∈vs) (λr=>r=atV vs 1 s)
    (λk x xs a hk hx hlen⟨h1,h2,h3,h4⟩=>by
      have hd:decide ((k:Int)<len vs)=true:=by rw[Za];simp;omega
      have hxw:=hw x (h4 x U);simp only[Ze3]at hlen h3;simp only[hd,Ze2,get?_nat,hx,Zee];have e1:w64 (a+x.W)=a+x.W:=Zb;rw[e1];have h1:(if Str.eqb x.Name s=true then a+x.W else atV xs (a+x.W) s)=atV vs 1 s:=h1;cases c:Str.eqb x.Name s
      · rw[c]at h1
        simp only[Zeg,Zen]at h1⊢;exact .inl ⟨a+x.W,by rw[Zb];rfl,h1,by omega,by omega,λy hy=>h4 y au⟩
      · rw[c]at h1
        simp only[Ze2]at h1⊢
        exact .inr ⟨_,rfl,h1⟩)
    (λa⟨h1,_⟩=>by
      have hd:decide ((vs.length:Int)<len vs)=false:=by rw[Za];simp
      simp only[hd,Zeg,Zen]
      exact⟨_,rfl,h1⟩) (a:=1) ⟨rfl,by omega,by omega,λy h=>h⟩ (Cc.lt_fuel O) λr g2=>?_
  rw[g2]
def Zal{a:Int}{w:Nat}(hw:w<=16)(h1:1<=a)(h2:a<=100000):iterN (λ(s2:Int×(List Int))=>if(decide (s2.1<(w:Int)))then(app? s2.2 ([(w64 (a-s2.1))]:List Int)).bind λx3=>some (.inl ((w64 (s2.1+1)),x3))else some (.inr (s2.2))) fu (0,([]:List Int))=some ((List.range w).map λk:Nat=>a-(k:Int)):=by
  rw[Z5 (I:=λk t=>t=((k:Int),(List.range k).map λk:Nat=>a-(k:Int))) (m:=w) (r:=(List.range w).map λk:Nat=>a-(k:Int)) (λk t hk ht=>?_) (λt ht=>?_) w 0 _ O U fu (Cc.lt_fuel O)]
  all_goals subst ht
  · refine⟨_, ?_,rfl⟩
    simp only;have ha:∀y:Int,app? ((List.range k).map λk:Nat=>a-(k:Int)) [y]=some (((List.range k).map λk:Nat=>a-(k:Int))++[y]):=λy=>by
      unfold app?;rw[Zei (by simp;unfold room;omega)]
    rw[Zei aa,Zb (x:=a-(k:Int)),ha];simp only[Zee];rw[Zb,ZfJ,Zfj];rfl
  · simp only
    rw[ifn]
end
end Go.Proofs.YtccamimfkohabaaGreatDoor
end
