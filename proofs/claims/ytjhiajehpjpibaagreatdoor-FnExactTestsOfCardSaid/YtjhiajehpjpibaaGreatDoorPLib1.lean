/- Texts of this claim put into one: library or plain laws, without the program under test. -/
import Derived.Test.YtjhiajehpjpibaaGreatDoorLib2
import Derived.Test.YtjhiajehpjpibaaGreatDoorDefs
import Derived.Lib.Strings
set_option linter.unusedSimpArgs false
set_option linter.unusedVariables false
set_option linter.defProp false
section
namespace Go.Proofs.YtjhiajehpjpibaaGreatDoor.Cc
open Go.GL
class FU(n:Nat):Prop where
 le:1048577<=n
def lt_fuel{n fuel:Nat}[q:FU fuel](h:n<=1048576:=by omega):n<fuel:=by have:=q.le;omega
variable{fuel:Nat}[FU fuel]
def iab(x:Int):Int:=if x<0 then-x else x
def gateB(n:Int)(seen:List D.Gate)(g:D.Gate):Bool:=
 decide (-(n+1+(seen.length:Int))<=g.A/\g.A<=n+1+seen.length)&&decide (-(n+1+(seen.length:Int))<=g.B/\g.B<=n+1+seen.length)&&decide (2<=iab g.A)&&decide (iab g.A<iab g.B)&& !(seen.contains g)
def WB{a:Int}(h:fitInt a)(h':-1000<=a):ZL a=some (iab a):=by
 unfold ZL iab;by_cases c:a<0
 ·rw[ZfC an,ZfC c,Zb];simp
 grind
theorem Xh{a:Int}(h:fitInt a)(h':-1000<=a):YJ a=some (iab a):=by
 unfold YJ iab;by_cases c:a<0
 ·rw[ZfC an,ZfC c,Zb];simp
 grind
theorem ZaE{l:List D.Gate}{g:D.Gate}(hb:l.length<=1048576):
  iterN (λ(s2:Int)=>if(decide (s2<(len l)))then(get? l s2).bind λx9=>if(decide (g=x9))then some (.inr (.inr false))else some (.inl ((w64 (s2+1))))else some (.inr (.inl ()))) fuel 0=some (if l.contains g then .inr false else(.inl ():Unit⊕Bool)):=by
 rw[Uo (I:=λk s=>s=(k:Int)) (m:=l.length) (ok:=λk=>decide (l[k]? ≠some g)) (r:=.inl ()) (r':=.inr false) (λk s hk hs hok=>?_) (λk s hk hs hok=>?_) (λs hs=>?_) l.length 0 _ O U fuel (lt_fuel hb)]
 ·have:((List.range' 0 l.length).all λk=>decide (l[k]? ≠some g))= !(l.contains g):=by
   cases hc:l.contains g with
   |true=>
    simp_all[List.contains_eq_mem,ZfN,Zg3,ZfE,ZfJ,List.all_eq_false,Zh1]
   |false=>
    grind
  simp_all
 ·subst hs;refine⟨_,?_,rfl⟩;rw[ZfC ak,get?_nat,ZfA hk];simp only[Zf9];rw[ZfD al,Zb];rfl
 all_goals simp_all[ZfC,Za,get?_nat,ZfA,Zf9,ZfD]
def gateAt(x:D.Circuit)(k:Nat):Bool:=match x.Gates[k]? with|some g=>gateB x.Inputs (x.Gates.take k) g|none=>false
def circB2(x:D.Circuit):Bool:=decide (0<=x.Inputs/\x.Inputs<=30)&&decide ((x.Gates.length:Int)<=360)&&(List.range' 0 x.Gates.length).all (gateAt x)
def fitK{g:D.Gate}(h:Qp g):Yz g=true:=by
 obtain⟨h1,h2⟩:=h;unfold fitInt at h1 h2;simp_all[Yz,fitZ,Lit.wf,IntKind.min,IntKind.max,ZfF,IntKind.bits,IntKind.signed]
def Zau{x:D.Circuit}(hx:TN x)(hl:x.Gates.length<=1048576):UF fuel x=some (circB2 x):=by
 unfold UF circB2;simp only[Zc,Zf9];by_cases c:(0<=x.Inputs/\x.Inputs<=30)/\(x.Gates.length:Int)<=360
 ·obtain⟨⟨h0,h1⟩,hl3⟩:=c;rw[ZfD ak];rw[Uo (I:=λk s=>s=(k:Int)) (m:=x.Gates.length) (ok:=gateAt x) (r:=.inl ()) (r':=.inr false) (λk s hk hs hok=>?_) (λk s hk hs hok=>?_) (λs hs=>?_) x.Gates.length 0 _ O U fuel (lt_fuel hl)]
  ·grind
  rotate_left 2
  ·subst hs;rw[ZfD ar]
  all_goals
   subst hs;have hfit:Qp x.Gates[k]:=hx.2.2 _ (Zgn hk);have hlt:(x.Gates.take k).length=k:=by simp;omega
   have hcut:cut? x.Gates 0 (k:Int)=some (x.Gates.take k):=by
    unfold cut?;rw[ZfC ⟨by omega,by omega,by omega⟩];simp
   unfold gateAt gateB at hok;rw[ZfA hk]at hok;simp only[hlt]at hok;rw[ZfC ak,get?_nat,ZfA hk];generalize x.Gates[k]=g at hfit hok⊢;have hA:=λh=>WB hfit.1 h;have hB:=λh=>WB hfit.2 h;simp only[Zf9,hcut];rw[Zb (x:=x.Inputs+1),Zb (x:=x.Inputs+1+(k:Int)),Zb (x:=0-(x.Inputs+1+(k:Int))) O O,Zb (x:=(k:Int)+1)];simp only[ZaE (fuel:=fuel) (show(x.Gates.take k).length<=1048576 by omega)]
  ·refine⟨((k+1:Nat):Int), ?_,rfl⟩;grind(splits:=30)
  ·grind(splits:=30)
 ·rw[ZfC ai];grind
theorem Zbs{l:List D.Gate}{g:D.Gate}:((l.reverse.map λq=>(q,true)).lookup g).getD false=l.contains g:=by
 have key:∀m:List D.Gate,((m.map λq=>(q,true)).lookup g).getD false=m.contains g:=by
  intro m
  induction m with
  |nil=>rfl
  |cons q m ih=>
   grind
 grind
def Zam{x:D.Circuit}(hx:TN x)(hl:x.Gates.length<=1048576):UO fuel x=some (circB2 x):=by
 unfold UO circB2;by_cases c:(0<=x.Inputs/\x.Inputs<=30)/\(x.Gates.length:Int)<=360
 ·obtain⟨⟨h0,h1⟩,hl3⟩:=c;rw[ZfD ak];rw[Uo (I:=λk s=>s=((k:Int),(x.Gates.take k).reverse.map λq=>(q,true))) (m:=x.Gates.length) (ok:=gateAt x) (r:=.inl (x.Gates.reverse.map λq=>(q,true))) (r':=.inr false) (λk s hk hs hok=>?_) (λk s hk hs hok=>?_) (λs hs=>?_) x.Gates.length 0 _ O U fuel (lt_fuel hl)]
  ·grind
  rotate_left 2
  ·subst hs;simp only;rw[ZfD ar,ZgV]
  all_goals
   subst hs;have hfit:Qp x.Gates[k]:=hx.2.2 _ (Zgn hk);have hlt:(x.Gates.take k).length=k:=by simp;omega
   unfold gateAt gateB at hok;rw[ZfA hk]at hok;simp only[hlt]at hok
   try refine⟨(((k+1:Nat):Int),(x.Gates.take (k+1)).reverse.map λq=>(q,true)),?_,rfl⟩
   rw[ZfC ak,get?_nat,ZfA hk]
   try rw[ZfU hk]
   generalize x.Gates[k]=g at hfit hok⊢;have hA:=λh=>Xh hfit.1 h;have hB:=λh=>Xh hfit.2 h;have lit:∀a:Int,YG a (1+x.Inputs+(k:Int))=some (decide (a≠0∧-(1+x.Inputs+(k:Int))<=a/\a<=1+x.Inputs+(k:Int))):=by
    intro a;unfold YG;rw[Zb];congr 1;rw[ZgS];simp;omega
   have hg:mget? Yz false ((x.Gates.take k).reverse.map λq=>(q,true)) g=some ((x.Gates.take k).contains g):=by
    unfold mget?;rw[ZfC (fitK hfit),Zbs]
   have hp:mput? Yz ((x.Gates.take k).reverse.map λq=>(q,true)) g true=some ((g,true)::((x.Gates.take k).reverse.map λq=>(q,true))):=by
    unfold mput?;rw[ZfC ⟨fitK hfit,by simp;unfold room;omega⟩]
   simp only[Zf9,hg,hp];rw[Zb (x:=1+x.Inputs),Zb (x:=1+x.Inputs+(k:Int)),Zb (x:=(k:Int)+1)];simp only[lit,Zf9];grind(splits:=30) [iab]
 ·rw[ZfC ai];grind
end Go.Proofs.YtjhiajehpjpibaaGreatDoor.Cc
end
section
namespace Go.Proofs.YtjhiajehpjpibaaGreatDoor.Cc
open Go.GL
variable{fuel:Nat}[FU fuel]
theorem JK{σt ρt:Type}{B:σt->Option (σt⊕ρt)}{I:Nat->σt->Prop}{m:Nat}{ok:Nat->Bool}{r:ρt}{r':Nat->ρt}(hs:∀k s,k<m->I k s->ok k=false->∃s',B s=some (.inl s')/\I (k+1) s')(hn:∀k s,k<m->I k s->ok k=true->B s=some (.inr (r' k)))
  (hf:∀s,I m s->B s=some (.inr r)):∀(d k:Nat)(s:σt),k+d=m->I k s->∀n,d<n->iterN B n s=some (match(List.range' k d).find? ok with|some i=>r' i|none=>r)
 |0,k,s,hk,hi,n,hn'=>by
  obtain⟨n,rfl⟩:∃j,n=j+1:=⟨n-1,by omega⟩;simp_all[iterN]
 | d+1,k,s,hk,hi,n,hn'=>by
  obtain⟨n,rfl⟩:∃j,n=j+1:=⟨n-1,by omega⟩;unfold iterN;rw[ZhP];cases hok:ok k with
  |false=>
   obtain⟨s',h1,h2⟩:=hs k s O hi hok;rw[h1];simp only;rw[JK hs hn hf d (k+1) s' O h2 n O,Zil,hok]
  |true=>
   grind
def find(l:List D.Gate)(g:D.Gate):Option Nat:=(List.range' 0 l.length).find? λi=>decide (l[i]? =some g)
def Za2{l:List D.Gate}{g:D.Gate}{i:Nat}(h:find l g=some i):i<l.length/\l[i]? =some g:=by
 have:=List.find?_some h;grind
def Gc{l:List D.Gate}{g:D.Gate}:find l g=none↔g∉l:=by
 unfold find;simp_all[Zh1,Zhl,Zg9,Zi5,ZfN,Zg3,ZfE,ZfH]
theorem ZaM{l:List D.Gate}{g h:D.Gate}:find (l++[h]) g=(find l g).or (if g=h then some l.length else none):=by
 unfold find;rw[ZfI,ZgB,List.range'_concat,List.find?_append];congr 1
 ·have:∀n,n<=l.length->∀k,k+n<=l.length->(List.range' k n).find? (λi=>decide ((l++[h])[i]? =some g))=(List.range' k n).find? (λi=>decide (l[i]? =some g)):=by
   intro n
   induction n with
   |zero=>simp
   |succ n ih=>
    grind[List.range'_succ,List.getElem?_append_left]
  simp_all
 grind
def lines(c:D.Circuit):Int:=c.Inputs+1+c.Gates.length
def litN(n x:Int):Bool:=decide (1<=iab x)&&decide (iab x<=n)
theorem litN_iff{n x:Int}:litN n x=true↔1<=iab x/\iab x<=n:=by simp[litN]
theorem Ub(x:Int):iab (-x)=iab x:=by grind[iab]
theorem ZV{n x:Int}:litN n (-x)=litN n x:=by simp[litN,Ub]
def litN_mono{n n' x:Int}(h:litN n x=true)(hn:n<=n'):litN n' x=true:=by grind[litN_iff]
structure CircP(c:D.Circuit):Prop where
 i0:0<=c.Inputs
 i1:c.Inputs<=30
 len:c.Gates.length<=360
 gate:∀k g,c.Gates[k]? =some g->gateB c.Inputs (c.Gates.take k) g=true
def circP_iff{c:D.Circuit}:circB2 c=true↔CircP c:=by
 unfold circB2;simp only[ZfF,ZfN,ZfV,Zh1,Zhl,Zg9,Zi5];constructor
 ·rintro⟨⟨⟨h1,h2⟩,h3⟩,h4⟩;refine⟨h1,h2,by omega,λk g hg=>?_⟩;grind[List.getElem?_eq_some_iff,gateAt]
 ·rintro⟨h1,h2,h3,h4⟩;grind[gateAt,List.getElem?_eq_getElem]
def CircP.lines0{c:D.Circuit}(h:CircP c):1<=lines c:=by have:=h.i0;grind[lines]
def CircP.lines1{c:D.Circuit}(h:CircP c):lines c<=391:=by have:=h.i1;have:=h.len;grind[lines]
def Qy{n:Int}{l:List D.Gate}{g:D.Gate}:gateB n l g=true↔(-(n+1+(l.length:Int))<=g.A/\g.A<=n+1+l.length)/\(-(n+1+(l.length:Int))<=g.B/\g.B<=n+1+l.length)/\2<=iab g.A/\iab g.A<iab g.B/\g∉l:=by
 simp[gateB,ZfF,ZfN,Zhi,List.contains_eq_mem,decide_eq_false_iff_not,and_assoc]
def CircP.fit{c:D.Circuit}(h:CircP c):TN c:=by
 refine⟨by have:=h.i0;have:=h.i1;grind[fitInt],by have:=h.len;omega,λg hg=>?_⟩;obtain⟨k,hk⟩:=Zg3.1 hg;have h1:=Qy.1 (h.gate k g hk);have h2:=h.len;have h3:=h.i1;grind[List.length_take,Qp,fitInt]
def CircP.snoc{c:D.Circuit}(h:CircP c){g:D.Gate}(hl:c.Gates.length<360)(hg:gateB c.Inputs c.Gates g=true):CircP ⟨c.Inputs,c.Gates++[g]⟩:=by
 refine⟨h.i0,h.i1,by simp;omega,λk x hx=>?_⟩;by_cases hk:k<c.Gates.length
 ·rw[Zgs hk]at hx;rw[List.take_append_of_le_length O];exact h.gate k x hx
 grind
def CircP.find_take{c:D.Circuit}(h:CircP c){k:Nat}{g:D.Gate}(hk:c.Gates[k]? =some g):find (c.Gates.take k) g=none:=Gc.2 (Qy.1 (h.gate k g hk)).2.2.2.2
structure Grow(c c':D.Circuit):Prop where
 inputs:c'.Inputs=c.Inputs
 gates:c.Gates<+:c'.Gates
def Grow.refl(c:D.Circuit):Grow c c:=⟨rfl,List.prefix_rfl⟩
def Grow.trans{a b c:D.Circuit}(h:Grow a b)(k:Grow b c):Grow a c:=⟨k.1.trans h.1,h.2.trans k.2⟩
def Grow.lines{c c':D.Circuit}(h:Grow c c'):lines c<=lines c':=by
 have:=h.2.length_le;have:=h.1;unfold Proofs.YtjhiajehpjpibaaGreatDoor.Cc.lines;omega
def gate2(a b:Int):D.Gate:=if iab a>iab b then⟨b,a⟩else⟨a,b⟩
abbrev BS:=D.Circuit×Bool
def andP(s:BS)(a b:Int):Int×BS:=
 if a=-1\/b=-1\/a=-b then(-1,s)else if a=1 then(b,s)else if b=1\/a=b then(a,s)else
 match find s.1.Gates (gate2 a b)with
 |some i=>(s.1.Inputs+2+i,s)
 |none=>if 360<=s.1.Gates.length then(-1,(s.1,true))else(s.1.Inputs+2+s.1.Gates.length,(⟨s.1.Inputs,s.1.Gates++[gate2 a b]⟩,s.2))
def Zdt{s:BS}(hs:CircP s.1){a b:Int}(ha:litN (lines s.1) a=true)(hb:litN (lines s.1) b=true)(h1:¬(a=-1\/b=-1\/a=-b))(h2:¬a=1)(h3:¬(b=1\/a=b))(hf:find s.1.Gates (gate2 a b)=none):gateB s.1.Inputs s.1.Gates (gate2 a b)=true:=by
 rw[Qy];have hn:=Gc.1 hf;rw[litN_iff]at ha hb;have hl:lines s.1=s.1.Inputs+1+s.1.Gates.length:=rfl;grind[gate2,iab]
def Zd9{s:BS}(hs:CircP s.1){a b:Int}(ha:litN (lines s.1) a=true)(hb:litN (lines s.1) b=true):
  CircP (andP s a b).2.1/\Grow s.1 (andP s a b).2.1/\litN (lines (andP s a b).2.1) (andP s a b).1=true:=by
 have h1n:=hs.lines0;have hi:=hs.i0;unfold andP;split
 ·simp_all[Grow.refl,litN_iff,iab]
 ·rename_i c1;split
  ·simp_all[Grow.refl]
  ·rename_i c2;split
   ·simp_all[Grow.refl]
   ·rename_i c3;split
    ·rename_i i hf;refine⟨hs,Grow.refl _,litN_iff.2 ?_⟩;have:=(Za2 hf).1;grind[iab,lines]
    ·rename_i hf;split
     ·simp_all[Grow.refl,litN_iff,iab]
     ·refine⟨hs.snoc O (Zdt hs ha hb c1 c2 c3 hf),⟨rfl,List.prefix_append _ _⟩,litN_iff.2 ?_⟩;grind[iab,lines]
theorem X9{n a:Int}(h:litN n a=true)(hn:n<=391):fitInt a∧-1000<=a:=by
 grind[litN_iff,iab,fitInt]
def Zbe(a b:Int):(D.Gate.mk (cond (decide (iab a>iab b)) b a) (cond (decide (iab a>iab b)) a b))=gate2 a b:=by
 grind[gate2]
def dec3{a b:Int}(hb:-1000<=b/\b<=1000):((((a==(-1))||(b==(-1)))||(a==(w64 (0-b))))=true)↔(a=-1\/b=-1\/a=-b):=by
 grind[Zb]
theorem TK{s:BS}(hs:CircP s.1){a b:Int}(ha:litN (lines s.1) a=true)(hb:litN (lines s.1) b=true):
  Zm fuel ⟨s.1,s.2⟩ a b=some ((andP s a b).1,⟨(andP s a b).2.1,(andP s a b).2.2⟩):=by
 have hln:=hs.lines1;have hi0:=hs.i0;have hi1:=hs.i1;have hlen:=hs.len;have fa:=X9 ha hln;have fb:=X9 hb hln;have hb2:=litN_iff.1 hb;have hbb:-1000<=b/\b<=1000:=by grind[iab]
 unfold Zm andP;by_cases c1:a=-1\/b=-1\/a=-b
 ·rw[ZfC ((dec3 hbb).2 c1),ZfC c1]
 rw[ZfD (λh=>c1 ((dec3 hbb).1 h)),ZfD c1];by_cases c2:a=1
 ·simp_all
 rw[ZfD ah,ZfD c2];by_cases c3:b=1\/a=b
 ·simp_all
 rw[ZfD ah,ZfD c3];simp only[WB fa.1 fa.2,WB fb.1 fb.2,Zf9,Zbe];rw[JK (I:=λk t=>t=(k:Int)) (m:=s.1.Gates.length) (ok:=λk=>decide (s.1.Gates[k]? =some (gate2 a b))) (r:=.inl ()) (r':=λk=>.inr (s.1.Inputs+2+k,⟨s.1,s.2⟩)) (λk t hk ht hok=>?_) (λk t hk ht hok=>?_) (λt ht=>?_) s.1.Gates.length 0 _ O U fuel lt_fuel]
 ·show Option.bind (some (match find s.1.Gates (gate2 a b)with|some i=>_|none=>_)) _=_;cases hf:find s.1.Gates (gate2 a b)with
  |some i=>rfl
  | none=>
   simp only[Zf9];by_cases c4:360<=s.1.Gates.length
   ·rw[ZfC aq,ZfC c4]
   ·have happ:app? s.1.Gates [gate2 a b]=some (s.1.Gates++[gate2 a b]):=by
     unfold app?;rw[ZfC aU]
    grind[Za,List.length_append,List.length_singleton,Zb]
 all_goals subst ht
 ·refine⟨((k+1:Nat):Int), ?_,rfl⟩;rw[ZfC ak,get?_nat,ZfA hk];simp only[Zf9];rw[ZfD al,Zb];rfl
 ·rw[ZfC ak,get?_nat,ZfA hk];simp only[Zf9];rw[ZfC ah,Zb (x:=s.1.Inputs+2),Zb]
 simp[ZfD,Za]
structure LineOk(n:Int)(l:List D.Gate)(m:List (D.Gate×Int)):Prop where
 look:∀g,m.lookup g=(find l g).map λ(i:Nat)=>n+2+(i:Int)
 len:m.length=l.length
theorem LineOk.nil(n:Int):LineOk n [] []:=⟨λ_=>rfl,rfl⟩
def LineOk.snoc{n:Int}{l:List D.Gate}{m:List (D.Gate×Int)}(h:LineOk n l m){g:D.Gate}(hg:find l g=none):LineOk n (l++[g]) ((g,n+2+(l.length:Int))::m):=by
 refine⟨λx=>?_,by simp[h.len]⟩;rw[ZfZ,ZaM];by_cases e:x=g
 ·simp_all
 ·have:(x==g)=false:=by simpa using e
  rw[this,ZfD e,h.look x];simp
structure RelB(m:D.builder)(s:BS):Prop where
 c:m.c=s.1
 full:m.full=s.2
 line:LineOk s.1.Inputs s.1.Gates m.line
def Zcn{a b:Int}(ha:fitInt a)(hb:fitInt b):Yz (gate2 a b)=true:=by
 refine fitK ?_;unfold gate2;split
 ·exact⟨hb,ha⟩
 ·exact⟨ha,hb⟩
def Zad{a:Int}(h:fitInt a):fitZ a=true:=by
 simp_all[fitInt,fitZ,Lit.wf,IntKind.min,IntKind.max,ZfF,IntKind.bits,IntKind.signed]
theorem TS{m:D.builder}{s:BS}(hr:RelB m s)(hs:CircP s.1){a b:Int}(ha:litN (lines s.1) a=true)(hb:litN (lines s.1) b=true):
  ∃m',Zo m a b=some ((andP s a b).1,m')/\RelB m' (andP s a b).2:=by
 obtain⟨mc,ml,mf⟩:=m;obtain⟨sc,sf⟩:=s;obtain⟨hc,hf,hl⟩:=hr;simp only at hc hf hl;subst hc;subst hf;simp only at hs ha hb;have hln:=hs.lines1;have hi0:=hs.i0;have hi1:=hs.i1;have hlen:=hs.len;have fa:=X9 ha hln;have fb:=X9 hb hln;have hb2:=litN_iff.1 hb;have hbb:-1000<=b/\b<=1000:=by grind[iab]
 unfold Zo andP;by_cases c1:a=-1\/b=-1\/a=-b
 ·rw[ZfC ((dec3 hbb).2 c1),ZfC c1];exact⟨_,rfl,⟨rfl,rfl,hl⟩⟩
 rw[ZfD (λh=>c1 ((dec3 hbb).1 h)),ZfD c1];by_cases c2:a=1
 ·rw[ZfC ah,ZfC c2];exact⟨_,rfl,⟨rfl,rfl,hl⟩⟩
 rw[ZfD ah,ZfD c2];by_cases c3:b=1\/a=b
 ·rw[ZfC ah,ZfC c3];exact⟨_,rfl,⟨rfl,rfl,hl⟩⟩
 rw[ZfD ah,ZfD c3];simp only[Xh fa.1 fa.2,Xh fb.1 fb.2,Zf9];have hgf:=Zcn fa.1 fb.1;have hgm:mget2? Yz (0:Int) ml (gate2 a b)=some (((find mc.Gates (gate2 a b)).map λ(i:Nat)=>mc.Inputs+2+(i:Int)).getD 0,((find mc.Gates (gate2 a b)).map λ(i:Nat)=>mc.Inputs+2+(i:Int)).isSome):=by
  unfold mget2?;rw[ZfC hgf,hl.look]
 rw[show(if decide (iab a>iab b)=true then some (b,a)else some (a,b))=some ((gate2 a b).A,(gate2 a b).B) by grind[gate2]];simp only[Zf9];rw[hgm];cases hf:find mc.Gates (gate2 a b)with
 |some i=>exact⟨_,rfl,⟨rfl,rfl,hl⟩⟩
 | none=>
  simp only[Zf9,Option.map_none,ZhV,ZfB,ZfK];by_cases c4:360<=mc.Gates.length
  ·rw[ZfC aq,ZfC c4];exact⟨_,rfl,⟨rfl,rfl,hl⟩⟩
  ·rw[ZfD aq,ZfD c4];have happ:app? mc.Gates [gate2 a b]=some (mc.Gates++[gate2 a b]):=by
    unfold app?;rw[ZfC aU]
   have hlo:XV (D.Circuit.mk mc.Inputs (mc.Gates++[gate2 a b]))=some (mc.Inputs+2+mc.Gates.length):=by
    grind[XV,Za,List.length_append,List.length_singleton,Zb]
   have hpt:mputE? Yz fitZ ml (gate2 a b) (mc.Inputs+2+mc.Gates.length)=some ((gate2 a b,mc.Inputs+2+(mc.Gates.length:Int))::ml):=by
    unfold mputE?;rw[ZfC ⟨hgf,Zad (by grind[fitInt]),by rw[hl.len];grind[room]⟩]
   simp only[happ,hlo,hpt,Zf9];exact⟨_,rfl,⟨rfl,rfl,hl.snoc hf⟩⟩
end Go.Proofs.YtjhiajehpjpibaaGreatDoor.Cc
end
section
namespace Go.Proofs.YtjhiajehpjpibaaGreatDoor.Cc
open Go.GL
variable{fuel:Nat}[FU fuel]
def Gr{p q:List Int}(h:p.length<=1048576):RJ fuel p q=some (decide (p=q)):=KX O (lt_fuel h)
def upI(k:Int)(L:Nat):List Int:=(List.range L).map λ(j:Nat)=>k+(j:Int)
def NQ(k:Int)(L:Nat):(upI k L).length=L:=by simp[upI]
def Eg{k:Int}{L i:Nat}(h:i<L):(upI k L)[i]? =some (k+(i:Int)):=by simp[upI,h]
def LM{p:List Int}{k:Int}(hk:0<=k)(hb:k<=4000000000000)(hp:p.length<=1048576):Vb fuel p k=some (k+p.length,upI k p.length):=by
 unfold Vb;rw[ZG (I:=λi s=>s=(k+(i:Int),(i:Int),pre (λ(j:Nat)=>k+(j:Int)) p i)) (m:=p.length) (r:=(k+(p.length:Int),upI k p.length)) (λi s hi hs=>?_) (λs hs=>?_) p.length 0 _ O (by simp[KS]) fuel (lt_fuel hp)]
 ·rfl
 ·subst hs;rw[ZfC ak,set?_nat (by grind[FM]),Fx hi];grind[Zb]
 ·subst hs;rw[ZfD (by simp[Za]),FC];rfl
theorem LY{L:Nat}{k:Int}(hk:0<=k)(hb:k<=4000000000000)(hp:L<=1048576):Vf fuel (upI k L) k=some (k+L):=by
 unfold Vf;rw[ZG (I:=λi s=>s=(k+(i:Int),(i:Int))) (m:=L) (r:=.inl (k+(L:Int))) (λi s hi hs=>?_) (λs hs=>?_) L 0 _ O U fuel (lt_fuel hp)]
 ·rfl
 ·subst hs;rw[ZfC (by simp_all[Za,NQ]),get?_nat,Eg hi];simp only[Zf9];rw[ifn,Zb,Zb];grind
 simp_all[ZfD,Za,NQ]
abbrev net(s:BS):D.l04Net:=⟨s.1,s.2⟩
structure Good(s:BS)(r:Int×BS):Prop where
 circ:CircP r.2.1
 grow:Grow s.1 r.2.1
 lit:litN (lines r.2.1) r.1=true
def SpecOp(f:D.l04Net->Option (Int×D.l04Net))(s:BS)(r:Int×BS):Prop:=f (net s)=some (r.1,net r.2)
def ImplOp(f:D.builder->Option (Int×D.builder))(s:BS)(r:Int×BS):Prop:=∀m,RelB m s->∃m',f m=some (r.1,m')/\RelB m' r.2
def orP(s:BS)(a b:Int):Int×BS:=let r:=andP s (-a) (-b);(-r.1,r.2)
def xorP(s:BS)(a b:Int):Int×BS:=let p:=andP s a (-b);let q:=andP p.2 (-a) b;orP q.2 p.1 q.1
def ifP(s:BS)(c a b:Int):Int×BS:=let p:=andP s c a;let q:=andP p.2 (-c) b;orP q.2 p.1 q.1
def Yn{n x:Int}(h:litN n x=true)(hn:n<=391):w64 (0-x)=-x:=by
 grind[X9,litN_iff,iab,Zb]
section
variable{s:BS}(hs:CircP s.1)
include hs
theorem YU{a b:Int}(ha:litN (lines s.1) a=true)(hb:litN (lines s.1) b=true):Good s (andP s a b):=by
 obtain⟨h1,h2,h3⟩:=Zd9 hs ha hb;exact⟨h1,h2,h3⟩
theorem Kv{a b:Int}(ha:litN (lines s.1) a=true)(hb:litN (lines s.1) b=true):Good s (orP s a b):=by
 obtain⟨h1,h2,h3⟩:=YU hs (a:=-a) (b:=-b) av av;exact⟨h1,h2,by simp_all[orP,ZV]⟩
theorem Kw{a b:Int}(ha:litN (lines s.1) a=true)(hb:litN (lines s.1) b=true):SpecOp (λn=>Z8 fuel n a b) s (orP s a b):=by
 have hn:=hs.lines1;have g:=YU hs (a:=-a) (b:=-b) av av;unfold SpecOp Z8 orP;simp only;rw[Yn ha hn,Yn hb hn,TK hs av av];simp only[Zf9];rw[Yn g.lit g.circ.lines1]
theorem KG{a b:Int}(ha:litN (lines s.1) a=true)(hb:litN (lines s.1) b=true):ImplOp (λm=>ZU m a b) s (orP s a b):=by
 intro m hm;have hn:=hs.lines1;have g:=YU hs (a:=-a) (b:=-b) av av;obtain⟨m',h1,h2⟩:=TS hm hs (a:=-a) (b:=-b) av av;refine⟨m',?_,h2⟩;unfold ZU orP;simp only;rw[Yn ha hn,Yn hb hn,h1];simp only[Zf9];rw[Yn g.lit g.circ.lines1]
theorem if_good{c a b:Int}(hc:litN (lines s.1) c=true)(ha:litN (lines s.1) a=true)(hb:litN (lines s.1) b=true):Good s (ifP s c a b):=by
 have g1:=YU hs hc ha;have g2:=YU g1.circ (a:=-c) (b:=b) (by rw[ZV];exact litN_mono hc g1.grow.lines) (litN_mono hb g1.grow.lines);have g3:=Kv g2.circ (a:=(andP s c a).1) (b:=(andP (andP s c a).2 (-c) b).1) (litN_mono g1.lit g2.grow.lines) g2.lit;exact⟨g3.circ,(g1.grow.trans g2.grow).trans g3.grow,g3.lit⟩
theorem Gv{c a b:Int}(hc:litN (lines s.1) c=true)(ha:litN (lines s.1) a=true)(hb:litN (lines s.1) b=true):((Zm fuel (net s) c a).bind λx1=>(Zm fuel x1.2 (w64 (0-c)) b).bind λx2=>(Z8 fuel x2.2 x1.1 x2.1).bind λx3=>some (x3.1,x3.2))=some ((ifP s c a b).1,net (ifP s c a b).2):=by
 have g1:=YU hs hc ha;have hc':litN (lines (andP s c a).2.1) (-c)=true:=by rw[ZV];exact litN_mono hc g1.grow.lines
 have g2:=YU g1.circ (a:=-c) (b:=b) hc' (litN_mono hb g1.grow.lines);rw[TK hs hc ha];simp only[Zf9];rw[Yn hc hs.lines1,TK g1.circ hc' (litN_mono hb g1.grow.lines)];simp only[Zf9];have h3:Z8 fuel _ _ _=_:=Kw (fuel:=fuel) g2.circ (a:=(andP s c a).1) (b:=(andP (andP s c a).2 (-c) b).1) (litN_mono g1.lit g2.grow.lines) g2.lit;rw[h3];rfl
theorem Gz{c a b:Int}(hc:litN (lines s.1) c=true)(ha:litN (lines s.1) a=true)(hb:litN (lines s.1) b=true):∀m,RelB m s->∃m',((Zo m c a).bind λx1=>(Zo x1.2 (w64 (0-c)) b).bind λx2=>(ZU x2.2 x1.1 x2.1).bind λx3=>some (x3.1,x3.2))=some ((ifP s c a b).1,m')/\RelB m' (ifP s c a b).2:=by
 intro m hm;have g1:=YU hs hc ha;have hc':litN (lines (andP s c a).2.1) (-c)=true:=by rw[ZV];exact litN_mono hc g1.grow.lines
 have g2:=YU g1.circ (a:=-c) (b:=b) hc' (litN_mono hb g1.grow.lines);obtain⟨m1,e1,r1⟩:=TS hm hs hc ha;obtain⟨m2,e2,r2⟩:=TS r1 g1.circ hc' (litN_mono hb g1.grow.lines);obtain⟨m3,e3,r3⟩:=KG g2.circ (a:=(andP s c a).1) (b:=(andP (andP s c a).2 (-c) b).1) (litN_mono g1.lit g2.grow.lines) g2.lit m2 r2;unfold ifP;rw[e1];simp only[Zf9];rw[Yn hc hs.lines1,e2];simp_all
theorem spec_if{c a b:Int}(hc:litN (lines s.1) c=true)(ha:litN (lines s.1) a=true)(hb:litN (lines s.1) b=true):SpecOp (λn=>Ya fuel n c a b) s (ifP s c a b):=by
 grind[SpecOp,Ya,Gv]
theorem ZdV{c a b:Int}(hc:litN (lines s.1) c=true)(ha:litN (lines s.1) a=true)(hb:litN (lines s.1) b=true):ImplOp (λm=>Yi m c a b) s (ifP s c a b):=by
 grind[ImplOp,Yi,Gz]
theorem VV{a b:Int}(ha:litN (lines s.1) a=true)(hb:litN (lines s.1) b=true):Good s (xorP s a b):=
 if_good hs (c:=a) (a:=-b) (b:=b) ha av hb
theorem Ma{a b:Int}(ha:litN (lines s.1) a=true)(hb:litN (lines s.1) b=true):SpecOp (λn=>Zy fuel n a b) s (xorP s a b):=by
 have h:=Gv (fuel:=fuel) hs (c:=a) (a:=-b) (b:=b) ha av hb;unfold Zy;rw[Yn hb hs.lines1];exact h
theorem NA{a b:Int}(ha:litN (lines s.1) a=true)(hb:litN (lines s.1) b=true):ImplOp (λm=>ZO m a b) s (xorP s a b):=by
 intro m hm;obtain⟨m',e,r⟩:=Gz hs (c:=a) (a:=-b) (b:=b) ha av hb m hm;refine⟨m',?_,r⟩;unfold ZO;rw[Yn hb hs.lines1];exact e
end
def Np{n x:Int}(hn:0<=n):(decide (x≠0)&&(decide (-n<=x)&&decide (x<=n)))=litN n x:=by
 grind[litN,iab]
theorem ZaV{l:List Int}{n:Int}(h0:0<=n)(h1:n<=1000)(hl:l.length<=1048576):XZ fuel l n=some (l.all (litN n)):=by
 unfold XZ;rw[Uo (I:=λk t=>t=(k:Int)) (m:=l.length) (ok:=λk=>(l[k]?).all (litN n)) (r:=.inl ()) (r':=.inr false) (λk t hk ht hok=>?_) (λk t hk ht hok=>?_) (λt ht=>?_) l.length 0 _ O U fuel (lt_fuel hl)]
 ·have:((List.range' 0 l.length).all λk=>(l[k]?).all (litN n))=l.all (litN n):=by
   grind[List.mem_iff_getElem?,List.getElem?_eq_some_iff,List.getElem?_eq_getElem,List.getElem_mem]
  grind
 all_goals subst ht
 ·refine⟨((k+1:Nat):Int), ?_,rfl⟩;rw[ZfC ak,get?_nat,ZfA hk];rw[ZfA hk]at hok;simp only[ZhS]at hok;rw[<-Np h0]at hok;simp only[ZfF,ZfN]at hok;simp only[Zf9];rw[ZfD ah,Zc,Zb (x:=0-n)];simp only[Zf9];rw[ZfD aa,Zb];rfl
 ·rw[ZfC ak,get?_nat,ZfA hk];rw[ZfA hk]at hok;simp only[ZhS]at hok;rw[<-Np h0]at hok;simp only[Zf9];by_cases c:l[k]=0
  ·simp_all
  ·rw[ZfD an,Zc,Zb (x:=0-n)];simp_all
 simp[ZfD,Za]
def Nv{x n:Int}(h0:0<=n)(h1:n<=1000):YG x n=some (litN n x):=by
 unfold YG;rw[Zb,<-Np h0,Bool.and_assoc];grind
theorem QA{l:List Int}{n:Int}(h0:0<=n)(h1:n<=1000)(hl:l.length<=1048576):YN fuel l n=some (l.all (litN n)):=by
 unfold YN;rw[Uo (I:=λk t=>t=(k:Int)) (m:=l.length) (ok:=λk=>(l[k]?).all (litN n)) (r:=.inl ()) (r':=.inr false) (λk t hk ht hok=>?_) (λk t hk ht hok=>?_) (λt ht=>?_) l.length 0 _ O U fuel (lt_fuel hl)]
 ·have:((List.range' 0 l.length).all λk=>(l[k]?).all (litN n))=l.all (litN n):=by
   grind[List.mem_iff_getElem?,List.getElem?_eq_some_iff,List.getElem?_eq_getElem,List.getElem_mem]
  grind
 all_goals subst ht
 ·refine⟨((k+1:Nat):Int), ?_,rfl⟩;rw[ZfC ak,get?_nat,ZfA hk];rw[ZfA hk]at hok;simp only[ZhS]at hok;simp only[Zf9,Nv h0 h1,hok];rw[ifn,Zb];rfl
 all_goals simp_all[ZfC,Za,get?_nat,ZfA,ZhS,Zf9,Nv,ifp,ZfD]
def CZ{c:D.Circuit}(hc:CircP c){l:List Int}(hl:l.length<=1048576):SB fuel c l=some (l.all (litN (lines c))):=by
 have:=hc.i0;have:=hc.i1;have:=hc.len;grind[SB,Za,Zb,Option.bind,XZ,lines,ZaV]
def Cj{c:D.Circuit}(hc:CircP c):XV c=some (lines c):=by
 have:=hc.i0;have:=hc.i1;have:=hc.len;grind[XV,Za,Zb,lines]
def spec_new{c:D.Circuit}(hc:CircP c):RL c=some (net (c,false)):=by
 have:=hc.len;unfold RL;have:app? ([]:List D.Gate) c.Gates=some c.Gates:=by
  simp_all[app?,ZfC,room]<;>grind
 simp_all
theorem impl_new{c:D.Circuit}(hc:CircP c):∃m,Ud fuel c=some m/\RelB m (c,false):=by
 have h0:=hc.i0;have h1:=hc.i1;have h2:=hc.len;have hcl:Yb c.Gates=some c.Gates:=by
  simp_all[Yb,app?,ZfC,room]<;>grind
 let mk:Nat->List (D.Gate×Int):=λk=>((List.range k).reverse.map λi=>(c.Gates.getD i default,c.Inputs+2+(i:Int)))
 have hmk:∀k,k<c.Gates.length->mk (k+1)=(c.Gates.getD k default,c.Inputs+2+(k:Int))::mk k:=by
  grind[List.range_succ,List.reverse_append,List.reverse_singleton,List.singleton_append]
 have hln:∀k,k<=c.Gates.length->LineOk c.Inputs (c.Gates.take k) (mk k):=by
  intro k
  induction k with
  |zero=>grind[LineOk.nil]
  | succ k ih=>
   intro hk;have hk':k<c.Gates.length:=by omega
   have hg:c.Gates[k]? =some (c.Gates.getD k default):=by
    rw[ZfA hk',Zgj,ZfA hk'];rfl
   rw[hmk k hk',ZfU hk'];have:=(ih O).snoc (hc.find_take hg);have e:c.Gates.getD k default=c.Gates[k]:=by rw[ZfA hk']at hg;exact(Option.some.inj hg).symm
   rw[e]at this⊢;rw[Zga,Nat.min_eq_left O]at this;exact this
 refine⟨⟨c,mk c.Gates.length,false⟩,?_,⟨rfl,rfl,?_⟩⟩
 ·unfold Ud;rw[hcl];rw[ZG (I:=λk t=>t=((k:Int),mk k)) (m:=c.Gates.length) (r:=mk c.Gates.length) (λk t hk ht=>?_) (λt ht=>?_) c.Gates.length 0 _ O (by simp[mk]) fuel lt_fuel]
  ·rfl
  all_goals subst ht
  ·refine⟨(((k+1:Nat):Int),mk (k+1)), ?_,rfl⟩;have hfit:Qp c.Gates[k]:=hc.fit.2.2 _ (Zgn hk);rw[ZfC ai,get?_nat,ZfA hk];simp only[Zf9];rw[Zb (x:=2+c.Inputs),Zb (x:=2+c.Inputs+(k:Int))];have e:c.Gates.getD k default=c.Gates[k]:=by rw[Zgj,ZfA hk];rfl
   have hp:mputE? Yz fitZ (mk k) c.Gates[k] (2+c.Inputs+(k:Int))=some (mk (k+1)):=by
    unfold mputE?;rw[ZfC ⟨fitK hfit,Zad (by unfold fitInt;omega),by rw[(hln k O).len];unfold room;simp;omega⟩,hmk k hk,e];congr 3;omega
   rw[hp];rw[Zb];rfl
  ·rw[ZfD ar]
 ·have:=hln c.Gates.length (ZfP _);rw[ZgV]at this;exact this
abbrev AS:=List Int×Int×BS
def addStep(t:AS)(p:Int×Int):AS:=
 let x:=xorP t.2.2 p.1 p.2
 let o:=xorP x.2 x.1 t.2.1
 let y:=andP o.2 p.1 p.2
 let z:=andP y.2 x.1 t.2.1
 let w:=orP z.2 y.1 z.1
 (t.1++[o.1],w.1,w.2)
def addP(s:BS)(a b:List Int)(c:Int):AS:=(a.zip b).foldl addStep ([],c,s)
theorem IC{α β:Type}(f:β->α->β)(Pp:Nat->β->Prop)(l:List α)(b:β)(h0:Pp 0 b)(hs:∀k x t,l[k]? =some x->Pp k t->Pp (k+1) (f t x)):∀k,k<=l.length->Pp k ((l.take k).foldl f b):=by
 intro k
 induction k with
 |zero=>simp_all
 |succ k ih=>
  grind[List.take_succ_eq_append_getElem,List.getElem?_eq_getElem]
structure GoodA(s:BS)(k:Nat)(t:AS):Prop where
 circ:CircP t.2.2.1
 grow:Grow s.1 t.2.2.1
 lit:litN (lines t.2.2.1) t.2.1=true
 len:t.1.length=k
 lits:∀x∈t.1,litN (lines t.2.2.1) x=true
def ZbN{s:BS}{k:Nat}{t:AS}(h:GoodA s k t){p:Int×Int}(h1:litN (lines s.1) p.1=true)(h2:litN (lines s.1) p.2=true):GoodA s (k+1) (addStep t p):=by
 have a1:=litN_mono h1 h.grow.lines;have a2:=litN_mono h2 h.grow.lines;have gx:=VV h.circ a1 a2;have go:=VV gx.circ gx.lit (litN_mono h.lit gx.grow.lines);have e1:=gx.grow.trans go.grow;have gy:=YU go.circ (litN_mono a1 e1.lines) (litN_mono a2 e1.lines);have e2:=go.grow.trans gy.grow;have e3:=gx.grow.trans e2;have gz:=YU gy.circ (litN_mono gx.lit e2.lines) (litN_mono h.lit e3.lines);have gw:=Kv gz.circ (litN_mono gy.lit gz.grow.lines) gz.lit;have e4:=gy.grow.trans (gz.grow.trans gw.grow);have e5:=e1.trans e4;refine⟨gw.circ,h.grow.trans e5,gw.lit,by simp[addStep,h.len],λx hx=>?_⟩;simp only[addStep,ZfG,ZfL]at hx;rcases hx with hx|rfl
 ·exact litN_mono (h.lits x hx) e5.lines
 ·exact litN_mono go.lit e4.lines
def zip_mem{a b:List Int}{p:Int×Int}{k:Nat}(h:(a.zip b)[k]? =some p):a[k]? =some p.1/\b[k]? =some p.2:=by
 grind
def MQ{s:BS}(hs:CircP s.1){a b:List Int}{c:Int}(ha:∀x∈a,litN (lines s.1) x=true)(hb:∀x∈b,litN (lines s.1) x=true)(hc:litN (lines s.1) c=true):
  ∀k,k<=(a.zip b).length->GoodA s k (((a.zip b).take k).foldl addStep ([],c,s)):=
 IC addStep (GoodA s) _ _ ⟨hs,Grow.refl _,hc,rfl,λ_ h=>by cases h⟩ λk p t hp ht=>ZbN ht (ha _ (ZfH (zip_mem hp).1)) (hb _ (ZfH (zip_mem hp).2))
def VM{s:BS}(hs:CircP s.1){a b:List Int}{c:Int}(hab:a.length=b.length)(ha:∀x∈a,litN (lines s.1) x=true)(hb:∀x∈b,litN (lines s.1) x=true)(hc:litN (lines s.1) c=true):GoodA s a.length (addP s a b c):=by
 have:=MQ hs ha hb hc (a.zip b).length (ZfP _);rw[ZgV,ZhI,<-hab,Zim]at this;exact this
def PP{s:BS}(hs:CircP s.1){a b:List Int}{c:Int}(hl:a.length<=1048576)(hab:a.length=b.length)(ha:∀x∈a,litN (lines s.1) x=true)(hb:∀x∈b,litN (lines s.1) x=true)(hc:litN (lines s.1) c=true):
  ZR fuel (net s) a b c=some ((addP s a b c).1,(addP s a b c).2.1,net (addP s a b c).2.2):=by
 have hz:(a.zip b).length=a.length:=by simp_all
 unfold ZR;rw[ZG (I:=λk t=>t=(let r:=((a.zip b).take k).foldl addStep ([],c,s);(r.2.1,(k:Int),r.1,r.2.2.1.Inputs,r.2.2.2,r.2.2.1.Gates))) (m:=a.length) (r:=(let r:=addP s a b c;(r.2.1,r.1,r.2.2.1.Inputs,r.2.2.2,r.2.2.1.Gates))) (λk t hk ht=>?_) (λt ht=>?_) a.length 0 _ O U fuel (lt_fuel hl)]
 ·rfl
 all_goals subst ht
 ·refine⟨_, ?_,rfl⟩;have hk':k<(a.zip b).length:=by omega
  have hkb:k<b.length:=by omega
  have h:=MQ hs ha hb hc k O;rw[ZfU hk',ZgD,List.getElem_zip];generalize ((a.zip b).take k).foldl addStep ([],c,s)=t at h⊢;have a1:=litN_mono (ha _ (Zgn hk)) h.grow.lines;have a2:=litN_mono (hb _ (Zgn hkb)) h.grow.lines;have gx:=VV h.circ a1 a2;have go:=VV gx.circ gx.lit (litN_mono h.lit gx.grow.lines);have e1:=gx.grow.trans go.grow;have gy:=YU go.circ (litN_mono a1 e1.lines) (litN_mono a2 e1.lines);have e2:=go.grow.trans gy.grow;have e3:=gx.grow.trans e2;have gz:=YU gy.circ (litN_mono gx.lit e2.lines) (litN_mono h.lit e3.lines);have sx:Zy fuel (net t.2.2) _ _=_:=Ma (fuel:=fuel) h.circ a1 a2;have so:Zy fuel (net _) _ _=_:=Ma (fuel:=fuel) gx.circ gx.lit (litN_mono h.lit gx.grow.lines);have sy:=TK (fuel:=fuel) go.circ (litN_mono a1 e1.lines) (litN_mono a2 e1.lines);have sz:=TK (fuel:=fuel) gy.circ (litN_mono gx.lit e2.lines) (litN_mono h.lit e3.lines);have sw:Z8 fuel (net _) _ _=_:=Kw (fuel:=fuel) gz.circ (litN_mono gy.lit gz.grow.lines) gz.lit;rw[ZfC ak,get?_nat,get?_nat,ZfA hk,ZfA hkb];simp only[Zf9];have sx':Zy fuel (D.l04Net.mk (D.Circuit.mk t.2.2.1.Inputs t.2.2.1.Gates) t.2.2.2) a[k] b[k]=_:=sx;rw[sx'];simp only[Zf9];rw[so];simp only[Zf9];have happ:app? t.1 [(xorP (xorP t.2.2 a[k] b[k]).2 (xorP t.2.2 a[k] b[k]).1 t.2.1).1]=some (t.1++[(xorP (xorP t.2.2 a[k] b[k]).2 (xorP t.2.2 a[k] b[k]).1 t.2.1).1]):=by
   unfold app?;rw[ZfC (by simp[h.len];unfold room;omega)]
  rw[happ];rw[sy];simp only[Zf9];rw[sz];simp only[Zf9];rw[sw];rw[Zb];rfl
 simp_all[ZfD,Za,addP,Zg4]
def set_fill{l:List Int}{n:Nat}{x:Int}:(l++List.replicate (n+1) 0).set l.length x=(l++[x])++List.replicate n 0:=by
 grind
theorem PL{s:BS}(hs:CircP s.1){m:D.builder}(hm:RelB m s){a b:List Int}{c:Int}(hl:a.length<=1048576)(hab:a.length=b.length)(ha:∀x∈a,litN (lines s.1) x=true)(hb:∀x∈b,litN (lines s.1) x=true)(hc:litN (lines s.1) c=true):
  ∃m',Y0 fuel m a b c=some ((addP s a b c).1,(addP s a b c).2.1,m')/\RelB m' (addP s a b c).2.2:=by
 have hz:(a.zip b).length=a.length:=by simp_all
 obtain⟨mc,ml,mf⟩:=m;obtain⟨sc,sf⟩:=s;obtain⟨hc1,hf1,hl1⟩:=hm;simp only at hc1 hf1 hl1;subst hc1;subst hf1;simp only at hs ha hb hc;have main:∀(d k:Nat)(ln:List (D.Gate×Int)),k+d=a.length->
   (let r:=((a.zip b).take k).foldl addStep ([],c,(mc,mf));RelB ⟨r.2.2.1,ln,r.2.2.2⟩ r.2.2)->∀n,d<n->∃ln',
   iterN (λ(s1:Int×Int×(List Int)×Int×Bool×(List D.Gate)×(List (D.Gate×Int)))=>if(decide (s1.2.1<(len a)))then(get? a s1.2.1).bind λx2=>(get? b s1.2.1).bind λx3=>(ZO (D.builder.mk (D.Circuit.mk s1.2.2.2.1 s1.2.2.2.2.2.1) s1.2.2.2.2.2.2 s1.2.2.2.2.1) x2 x3).bind λx4=>(ZO x4.2 x4.1 s1.1).bind λx5=>(set? s1.2.2.1 s1.2.1 x5.1).bind λx6=>(get? a s1.2.1).bind λx7=>(get? b s1.2.1).bind λx8=>(Zo x5.2 x7 x8).bind λx9=>(Zo x9.2 x4.1 s1.1).bind λx10=>(ZU x10.2 x9.1 x10.1).bind λx11=>some (.inl (x11.1,(w64 (s1.2.1+1)),x6,x11.2.c.Inputs,x11.2.full,x11.2.c.Gates,x11.2.line))else some (.inr (s1.1,s1.2.2.1,s1.2.2.2.1,s1.2.2.2.2.1,s1.2.2.2.2.2.1,s1.2.2.2.2.2.2))) n
    (let r:=((a.zip b).take k).foldl addStep ([],c,(mc,mf));(r.2.1,(k:Int),r.1++List.replicate d 0,r.2.2.1.Inputs,r.2.2.2,r.2.2.1.Gates,ln))=
    some (let r:=addP (mc,mf) a b c;(r.2.1,r.1,r.2.2.1.Inputs,r.2.2.2,r.2.2.1.Gates,ln'))/\(let r:=addP (mc,mf) a b c;RelB ⟨r.2.2.1,ln',r.2.2.2⟩ r.2.2):=by
  intro d
  induction d with
  |zero=>
   intro k ln hk hr n hn;obtain⟨n,rfl⟩:∃j,n=j+1:=⟨n-1,by omega⟩;obtain rfl:k=a.length:=by omega
   simp_all[iterN,addP,Zg4,ZfD,Za]
  | succ d ih=>
   intro k ln hk hr n hn;obtain⟨n,rfl⟩:∃j,n=j+1:=⟨n-1,by omega⟩;have hka:k<a.length:=by omega
   have hk':k<(a.zip b).length:=by omega
   have hkb:k<b.length:=by omega
   have h:=MQ (s:=(mc,mf)) hs ha hb hc k O;have ih1:=ih (k+1);rw[ZfU hk',ZgD,List.getElem_zip]at ih1;generalize ((a.zip b).take k).foldl addStep ([],c,(mc,mf))=t at h hr ih1⊢;have a1:=litN_mono (ha _ (Zgn hka)) h.grow.lines;have a2:=litN_mono (hb _ (Zgn hkb)) h.grow.lines;have gx:=VV h.circ a1 a2;have go:=VV gx.circ gx.lit (litN_mono h.lit gx.grow.lines);have e1:=gx.grow.trans go.grow;have gy:=YU go.circ (litN_mono a1 e1.lines) (litN_mono a2 e1.lines);have e2:=go.grow.trans gy.grow;have e3:=gx.grow.trans e2;have gz:=YU gy.circ (litN_mono gx.lit e2.lines) (litN_mono h.lit e3.lines);obtain⟨m1,sx,r1⟩:=NA h.circ a1 a2 _ hr;obtain⟨m2,so,r2⟩:=NA gx.circ gx.lit (litN_mono h.lit gx.grow.lines) _ r1;obtain⟨m3,sy,r3⟩:=TS r2 go.circ (litN_mono a1 e1.lines) (litN_mono a2 e1.lines);obtain⟨m4,sz,r4⟩:=TS r3 gy.circ (litN_mono gx.lit e2.lines) (litN_mono h.lit e3.lines);obtain⟨m5,sw,r5⟩:=KG gz.circ (litN_mono gy.lit gz.grow.lines) gz.lit _ r4;simp only at sx so sw;obtain⟨c5,l5,f5⟩:=m5;obtain⟨hc5,hf5,hl5⟩:=r5;simp only at hc5 hf5 hl5;have hnext:=ih1 l5 O (by simp only[Zhk,Ziw];exact⟨rfl,rfl,hl5⟩) n O;obtain⟨ln',hi,hrr⟩:=hnext;refine⟨ln',?_,hrr⟩;rw[<-hi]
   conv=>lhs;unfold iterN
   simp only;rw[ZfC ai,get?_nat,get?_nat,ZfA hka,ZfA hkb];simp only[Zf9];have sx':ZO (D.builder.mk (D.Circuit.mk t.2.2.1.Inputs t.2.2.1.Gates) ln t.2.2.2) a[k] b[k]=_:=sx;rw[sx'];simp only[Zf9];rw[so];simp only[Zf9];have hset:∀q,set? (t.1++List.replicate (d+1) 0) (k:Int) q=some ((t.1++[q])++List.replicate d 0):=λq=>by
    have e:=set_fill (l:=t.1) (n:=d) (x:=q);rw[h.len]at e;rw[set?_nat (by simp[h.len]),e]
   rw[hset];rw[sy];simp only[Zf9];rw[sz];simp only[Zf9];rw[sw];rw[Zb,hc5,hf5];rfl
 obtain⟨ln',hi,hr⟩:=main a.length 0 ml O (by exact⟨rfl,rfl,hl1⟩) fuel (lt_fuel hl);refine⟨_,?_,hr⟩;unfold Y0;rw[mk?_len aD];have hi':=congrArg (λr=>Option.bind r λ(rl1:Int×(List Int)×Int×Bool×(List D.Gate)×(List (D.Gate×Int)))=>some (rl1.2.1,rl1.1,(D.builder.mk (D.Circuit.mk rl1.2.2.1 rl1.2.2.2.2.1) rl1.2.2.2.2.2 rl1.2.2.2.1))) hi;exact hi'
end Go.Proofs.YtjhiajehpjpibaaGreatDoor.Cc
end
section
namespace Go.Proofs.YtjhiajehpjpibaaGreatDoor.Cc
open Go.GL
variable{fuel:Nat}[FU fuel]
end Go.Proofs.YtjhiajehpjpibaaGreatDoor.Cc
end
section
namespace Go.Proofs.YtjhiajehpjpibaaGreatDoor.Cc
open Go.GL
variable{fuel:Nat}[FU fuel]
abbrev LS:=List Int×BS
section
variable{α:Type}
def seqP(f:BS->α->Int×BS)(s:BS)(l:List α):LS:=l.foldl (λt x=>(t.1++[(f t.2 x).1],(f t.2 x).2)) ([],s)
structure GoodL(s:BS)(n:Nat)(t:LS):Prop where
 circ:CircP t.2.1
 grow:Grow s.1 t.2.1
 len:t.1.length=n
 lits:∀x∈t.1,litN (lines t.2.1) x=true
def FOk(f:BS->α->Int×BS)(s:BS)(l:List α):Prop:=∀s' x,CircP s'.1->Grow s.1 s'.1->x∈l->Good s' (f s' x)
def MF{f:BS->α->Int×BS}{s:BS}{l:List α}(hs:CircP s.1)(hf:FOk f s l):∀k,k<=l.length->GoodL s k (seqP f s (l.take k)):=
 IC _ (GoodL s) l _ ⟨hs,Grow.refl _,rfl,λ_ h=>by cases h⟩ λk x t hx ht=>by
  have g:=hf t.2 x ht.circ ht.grow (ZfH hx);refine⟨g.circ,ht.grow.trans g.grow,by simp[ht.len],λy hy=>?_⟩;simp only[ZfG,ZfL]at hy;rcases hy with hy|rfl
  ·exact litN_mono (ht.lits y hy) g.grow.lines
  ·exact g.lit
def seq_good{f:BS->α->Int×BS}{s:BS}{l:List α}(hs:CircP s.1)(hf:FOk f s l):GoodL s l.length (seqP f s l):=by
 have:=MF hs hf l.length (ZfP _);simp_all
def KT{f:BS->α->Int×BS}{s:BS}{l:List α}{k:Nat}{x:α}(hx:l[k]? =some x):seqP f s (l.take (k+1))=((seqP f s (l.take k)).1++[(f (seqP f s (l.take k)).2 x).1],(f (seqP f s (l.take k)).2 x).2):=by
 grind[seqP,List.take_succ_eq_append_getElem]
def spec_seq{f:BS->α->Int×BS}{l:List α}{s:BS}{B:Int×List Int×Int×Bool×List D.Gate->Option ((Int×List Int×Int×Bool×List D.Gate)⊕(List Int×Int×Bool×List D.Gate))}(hs:CircP s.1)(hl:l.length<=1000)(hf:FOk f s l)
  (hB:∀(j:Nat)(out:List Int)(s':BS)(x:α),l[j]? =some x->CircP s'.1->Grow s.1 s'.1->out.length=j->B ((j:Int),out,s'.1.Inputs,s'.2,s'.1.Gates)=some (.inl (((j+1:Nat):Int),out++[(f s' x).1],(f s' x).2.1.Inputs,(f s' x).2.2,(f s' x).2.1.Gates)))
  (hE:∀(out:List Int)(s':BS),B (((l.length:Nat):Int),out,s'.1.Inputs,s'.2,s'.1.Gates)=some (.inr (out,s'.1.Inputs,s'.2,s'.1.Gates))):
  iterN B fuel (0,[],s.1.Inputs,s.2,s.1.Gates)=some ((seqP f s l).1,(seqP f s l).2.1.Inputs,(seqP f s l).2.2,(seqP f s l).2.1.Gates):=by
 refine ZG (I:=λk t=>t=((k:Int),(seqP f s (l.take k)).1,(seqP f s (l.take k)).2.1.Inputs,(seqP f s (l.take k)).2.2,(seqP f s (l.take k)).2.1.Gates)) (m:=l.length) (λk t hk ht=>?_) (λt ht=>?_) l.length 0 _ O rfl fuel lt_fuel
 ·subst ht;have g:=MF hs hf k O;refine⟨_,hB k _ _ l[k] (ZfA hk) g.circ g.grow g.len,?_⟩;simp_all[KT,ZfA]
 grind
theorem Ou{σt ρt:Type}{B:σt->Option (σt⊕ρt)}{I:Nat->σt->Prop}{m:Nat}{R:ρt->Prop}(hs:∀k s,k<m->I k s->∃s',B s=some (.inl s')/\I (k+1) s')(hf:∀s,I m s->∃r,B s=some (.inr r)/\R r):
  ∀(d k:Nat)(s:σt),k+d=m->I k s->∀n,d<n->∃r,iterN B n s=some r/\R r
 |0,k,s,hk,hi,n,hn=>by
  obtain⟨n,rfl⟩:∃j,n=j+1:=⟨n-1,by omega⟩;grind[iterN]
 |d+1,k,s,hk,hi,n,hn=>by
  obtain⟨n,rfl⟩:∃j,n=j+1:=⟨n-1,by omega⟩;obtain⟨s',h1,h2⟩:=hs k s O hi;obtain⟨r,h3,h4⟩:=Ou hs hf d (k+1) s' O h2 n O;simp_all[iterN]
def PR{σt ρt γ:Type}{B:σt->Option (σt⊕ρt)}{I:Nat->σt->Prop}{m:Nat}{R:ρt->Prop}{f:ρt->Option γ}{G:γ->Prop}(hs:∀k s,k<m->I k s->∃s',B s=some (.inl s')/\I (k+1) s')(hf:∀s,I m s->∃r,B s=some (.inr r)/\R r)
  (d k:Nat)(s:σt)(hk:k+d=m)(hi:I k s)(n:Nat)(hn:d<n)(hfin:∀r,R r->∃y,f r=some y/\G y):∃y,(iterN B n s).bind f=some y/\G y:=by
 obtain⟨r,h1,h2⟩:=Ou hs hf d k s hk hi n hn;simp_all
def ex_pair{α β:Type}{X:Option (α×β)}{v:α}{R:β->Prop}(h:∃y,X=some y/\∃m,y=(v,m)/\R m):∃m,X=some (v,m)/\R m:=by
 grind
def ZdH{l L0:List Int}{k:Nat}{x:Int}(hl:l.length=k)(hk:k<L0.length):(l++L0.drop k).set k x=(l++[x])++L0.drop (k+1):=by
 subst hl;rw[ZgI _ _ (ZfP _),Zhm,Zgc hk,Zht,ZfO,Zgq]
end
section
variable{α σt ρt:Type}
def GN{f:BS->α->Int×BS}{l:List α}{s:BS}{B:σt->Option (σt⊕ρt)}(enc:Nat->List Int->D.builder->σt)(dec:List Int->D.builder->ρt)(hs:CircP s.1)(hl:l.length<=1000)(hf:FOk f s l){L0:List Int}(hL:L0.length=l.length)
  (hB:∀(j:Nat)(L:List Int)(m:D.builder)(s':BS)(x:α),l[j]? =some x->CircP s'.1->Grow s.1 s'.1->RelB m s'->L.length=l.length->(∀i,j<=i->L[i]? =L0[i]?)->∃m',B (enc j L m)=some (.inl (enc (j+1) (L.set j (f s' x).1) m'))/\RelB m' (f s' x).2)
  (hE:∀(L:List Int)(m:D.builder),B (enc l.length L m)=some (.inr (dec L m))){m:D.builder}(hm:RelB m s):
  ∃m',iterN B fuel (enc 0 L0 m)=some (dec (seqP f s l).1 m')/\RelB m' (seqP f s l).2:=by
 have key:∃r,iterN B fuel (enc 0 L0 m)=some r/\∃m':D.builder,r=dec (seqP f s l).1 m'/\RelB m' (seqP f s l).2:=by
  refine Ou (B:=B) (I:=λk t=>∃m':D.builder,t=enc k ((seqP f s (l.take k)).1++L0.drop k) m'/\RelB m' (seqP f s (l.take k)).2) (m:=l.length) (λk t hk ht=>?_) (λt ht=>?_) l.length 0 _ O ⟨m,rfl,hm⟩ fuel lt_fuel
  ·obtain⟨m1,rfl,hr⟩:=ht;have g:=MF hs hf k O;obtain⟨m2,h3,h4⟩:=hB k ((seqP f s (l.take k)).1++L0.drop k) m1 (seqP f s (l.take k)).2 l[k] (ZfA hk) g.circ g.grow hr (by rw[ZfI,g.len,ZfX];omega) (λi hi=>by rw[Zgo aL,g.len,Zg1];simp_all);refine⟨_,h3,m2,?_,?_⟩
   ·rw[KT (ZfA hk),ZdH g.len O]
   simp_all[KT,ZfA]
  grind
 grind
def accP(f:BS->Int->α->Int×BS)(s:BS)(c:Int)(l:List α):Int×BS:=l.foldl (λt x=>f t.2 t.1 x) (c,s)
def AOk(f:BS->Int->α->Int×BS)(s:BS)(l:List α):Prop:=∀s' c x,CircP s'.1->Grow s.1 s'.1->litN (lines s'.1) c=true->x∈l->Good s' (f s' c x)
def MX{f:BS->Int->α->Int×BS}{s:BS}{c:Int}{l:List α}(hs:CircP s.1)(hc:litN (lines s.1) c=true)(hf:AOk f s l):∀k,k<=l.length->Good s (accP f s c (l.take k)):=
 IC _ (λ_ t=>Good s t) l _ ⟨hs,Grow.refl _,hc⟩ λk x t hx ht=>by
  have g:=hf t.2 t.1 x ht.circ ht.grow ht.lit (ZfH hx);exact⟨g.circ,ht.grow.trans g.grow,g.lit⟩
def DC{f:BS->Int->α->Int×BS}{s:BS}{c:Int}{l:List α}(hs:CircP s.1)(hc:litN (lines s.1) c=true)(hf:AOk f s l):Good s (accP f s c l):=by
 have:=MX hs hc hf l.length (ZfP _);simp_all
def Dw{f:BS->Int->α->Int×BS}{s:BS}{c:Int}{l:List α}{k:Nat}{x:α}(hx:l[k]? =some x):accP f s c (l.take (k+1))=f (accP f s c (l.take k)).2 (accP f s c (l.take k)).1 x:=by
 grind[accP,List.take_succ_eq_append_getElem]
def Hq{f:BS->Int->α->Int×BS}{l:List α}{s:BS}{c:Int}{B:σt->Option (σt⊕ρt)}(enc:Nat->Int->BS->σt)(dec:Int->BS->ρt)(hs:CircP s.1)(hc:litN (lines s.1) c=true)(hf:AOk f s l)
  (hB:∀(j:Nat)(c':Int)(s':BS)(x:α),l[j]? =some x->CircP s'.1->Grow s.1 s'.1->litN (lines s'.1) c'=true->B (enc j c' s')=some (.inl (enc (j+1) (f s' c' x).1 (f s' c' x).2)))
  (hE:∀(c':Int)(s':BS),B (enc l.length c' s')=some (.inr (dec c' s'))){n:Nat}(hn:l.length<n):
  iterN B n (enc 0 c s)=some (dec (accP f s c l).1 (accP f s c l).2):=by
 refine ZG (I:=λk t=>t=enc k (accP f s c (l.take k)).1 (accP f s c (l.take k)).2) (m:=l.length) (λk t hk ht=>?_) (λt ht=>?_) l.length 0 _ O rfl n hn
 ·subst ht;have g:=MX hs hc hf k O;refine⟨_,hB k _ _ l[k] (ZfA hk) g.circ g.grow g.lit,?_⟩;simp_all[Dw,ZfA]
 grind
def ZaY{f:BS->Int->α->Int×BS}{l:List α}{s:BS}{c:Int}{B:σt->Option (σt⊕ρt)}(enc:Nat->Int->D.builder->σt)(dec:Int->D.builder->ρt)(hs:CircP s.1)(hc:litN (lines s.1) c=true)(hl:l.length<=1000)(hf:AOk f s l)
  (hB:∀(j:Nat)(c':Int)(m:D.builder)(s':BS)(x:α),l[j]? =some x->CircP s'.1->Grow s.1 s'.1->RelB m s'->litN (lines s'.1) c'=true->∃m',B (enc j c' m)=some (.inl (enc (j+1) (f s' c' x).1 m'))/\RelB m' (f s' c' x).2)
  (hE:∀(c':Int)(m:D.builder),B (enc l.length c' m)=some (.inr (dec c' m))){m:D.builder}(hm:RelB m s):
  ∃m',iterN B fuel (enc 0 c m)=some (dec (accP f s c l).1 m')/\RelB m' (accP f s c l).2:=by
 have key:∃r,iterN B fuel (enc 0 c m)=some r/\∃m':D.builder,r=dec (accP f s c l).1 m'/\RelB m' (accP f s c l).2:=by
  refine Ou (B:=B) (I:=λk t=>∃m':D.builder,t=enc k (accP f s c (l.take k)).1 m'/\RelB m' (accP f s c (l.take k)).2) (m:=l.length) (λk t hk ht=>?_) (λt ht=>?_) l.length 0 _ O ⟨m,rfl,hm⟩ fuel lt_fuel
  ·obtain⟨m1,rfl,hr⟩:=ht;have g:=MX hs hc hf k O;obtain⟨m2,h3,h4⟩:=hB k _ m1 _ l[k] (ZfA hk) g.circ g.grow hr g.lit;simp_all[Dw,ZfA]<;>grind
  grind
 grind
end
def BF{σt ρt:Type}{X:Option (σt⊕ρt)}{I:σt->Prop}(h:∃y,X=some y/\∃s',y= .inl s'/\I s'):∃s',X=some (.inl s')/\I s':=by
 grind
section
variable{α σt ρt γ:Type}{K:ρt->Option γ}{G:γ->Prop}
def seqE{f:BS->α->Int×BS}{l:List α}{s:BS}{B:σt->Option (σt⊕ρt)}(enc:Nat->List Int->D.builder->σt)(dec:List Int->D.builder->ρt)(hs:CircP s.1)(hl:l.length<=1000)(hf:FOk f s l){L0:List Int}(hL:L0.length=l.length)
  (hB:∀(j:Nat)(L:List Int)(m:D.builder)(s':BS)(x:α),l[j]? =some x->CircP s'.1->Grow s.1 s'.1->RelB m s'->L.length=l.length->(∀i,j<=i->L[i]? =L0[i]?)->∃m',B (enc j L m)=some (.inl (enc (j+1) (L.set j (f s' x).1) m'))/\RelB m' (f s' x).2)
  (hE:∀(L:List Int)(m:D.builder),B (enc l.length L m)=some (.inr (dec L m))){m:D.builder}(hm:RelB m s)(h:∀m',RelB m' (seqP f s l).2->∃y,K (dec (seqP f s l).1 m')=some y/\G y):∃y,(iterN B fuel (enc 0 L0 m)).bind K=some y/\G y:=by
 obtain⟨m',h1,h2⟩:=GN (fuel:=fuel) enc dec hs hl hf hL hB hE hm;simp_all
def accE{f:BS->Int->α->Int×BS}{l:List α}{s:BS}{c:Int}{B:σt->Option (σt⊕ρt)}(enc:Nat->Int->D.builder->σt)(dec:Int->D.builder->ρt)(hs:CircP s.1)(hc:litN (lines s.1) c=true)(hl:l.length<=1000)(hf:AOk f s l)
  (hB:∀(j:Nat)(c':Int)(m:D.builder)(s':BS)(x:α),l[j]? =some x->CircP s'.1->Grow s.1 s'.1->RelB m s'->litN (lines s'.1) c'=true->∃m',B (enc j c' m)=some (.inl (enc (j+1) (f s' c' x).1 m'))/\RelB m' (f s' c' x).2)
  (hE:∀(c':Int)(m:D.builder),B (enc l.length c' m)=some (.inr (dec c' m))){m:D.builder}(hm:RelB m s)(h:∀m',RelB m' (accP f s c l).2->∃y,K (dec (accP f s c l).1 m')=some y/\G y):∃y,(iterN B fuel (enc 0 c m)).bind K=some y/\G y:=by
 obtain⟨m',h1,h2⟩:=ZaY (fuel:=fuel) enc dec hs hc hl hf hB hE hm;simp_all
end
def eif{s:BS}{c a b:Int}(h:CircP s.1)(hc:litN (lines s.1) c=true)(ha:litN (lines s.1) a=true)(hb:litN (lines s.1) b=true):Ya fuel (net s) c a b=some ((ifP s c a b).1,net (ifP s c a b).2):=spec_if h hc ha hb
def eor{s:BS}{a b:Int}(h:CircP s.1)(ha:litN (lines s.1) a=true)(hb:litN (lines s.1) b=true):Z8 fuel (net s) a b=some ((orP s a b).1,net (orP s a b).2):=Kw h ha hb
def iif{s:BS}{c a b:Int}(h:CircP s.1)(hc:litN (lines s.1) c=true)(ha:litN (lines s.1) a=true)(hb:litN (lines s.1) b=true){m:D.builder}(hm:RelB m s):∃m',Yi m c a b=some ((ifP s c a b).1,m')/\RelB m' (ifP s c a b).2:=ZdV h hc ha hb m hm
def ior{s:BS}{a b:Int}(h:CircP s.1)(ha:litN (lines s.1) a=true)(hb:litN (lines s.1) b=true){m:D.builder}(hm:RelB m s):∃m',ZU m a b=some ((orP s a b).1,m')/\RelB m' (orP s a b).2:=KG h ha hb m hm
def negs(l:List Int):List Int:=l.map λx=>-x
theorem negs_len(l:List Int):(negs l).length=l.length:=by simp[negs]
def negs_lits{n:Int}{l:List Int}(h:∀x∈l,litN n x=true):∀x∈negs l,litN n x=true:=by
 intro x hx;obtain⟨y,hy,rfl⟩:=Zg5.1 hx;simp_all[ZV]
def spec_not{n:Int}{l:List Int}(hn:n<=391)(hl:l.length<=1000)(h:∀x∈l,litN n x=true):Vy fuel l=some (negs l):=by
 unfold Vy;rw[ZG (I:=λk t=>t=((k:Int),negs (l.take k))) (m:=l.length) (r:=negs l) (λk t hk ht=>?_) (λt ht=>?_) l.length 0 _ O (by simp[negs]) fuel lt_fuel]
 ·rfl
 all_goals subst ht
 ·rw[ZfC ak,get?_nat,ZfA hk];simp only[Zf9];rw[Yn (h _ (Zgn hk)) hn];have:app? (negs (l.take k)) [-l[k]]=some (negs (l.take (k+1))):=by
   unfold app?;rw[ZfC (by grind[negs,room]),ZfU hk];grind[negs]
  grind[Zb]
 simp[ZfD,Za,ZgV]
def impl_opp{n:Int}{l:List Int}(hn:n<=391)(hl:l.length<=1000)(h:∀x∈l,litN n x=true):XJ fuel l=some (negs l):=by
 unfold XJ;rw[mk?_len aU];simp only[Zf9];rw[ZG (I:=λk t=>t=((k:Int),negs (l.take k)++List.replicate (l.length-k) 0)) (m:=l.length) (r:=negs l) (λk t hk ht=>?_) (λt ht=>?_) l.length 0 _ O (by simp[negs]) fuel lt_fuel]
 ·rfl
 all_goals subst ht
 ·rw[ZfC ak,get?_nat,ZfA hk];simp only[Zf9];have hln:(negs (l.take k)).length=k:=by grind[negs_len,List.length_take]
  rw[Yn (h _ (Zgn hk)) hn,set?_nat al];have e:(negs (l.take k)++List.replicate (l.length-k) 0).set k (-l[k])=negs (l.take (k+1))++List.replicate (l.length-(k+1)) 0:=by
   have:=set_fill (l:=negs (l.take k)) (n:=l.length-(k+1)) (x:=-l[k]);grind[List.take_succ_eq_append_getElem,negs]
  grind[Zb]
 simp[ZfD,Za,ZgV]
def spec_fill{w:Nat}(hw:w<=1000)(x:Int):Xa fuel (w:Int) x=some (List.replicate w x):=by
 unfold Xa;rw[ZG (I:=λk t=>t=((k:Int),List.replicate k x)) (m:=w) (r:=List.replicate w x) (λk t hk ht=>?_) (λt ht=>?_) w 0 _ O U fuel lt_fuel]
 ·rfl
 all_goals subst ht
 ·have:app? (List.replicate k x) [x]=some (List.replicate (k+1) x):=by
   simp_all[app?,ZfC,room,Zhg]<;>grind
  grind[Zb]
 simp
def band01:(band 0 1==1)=false:=by decide
def Gm{w:Nat}(hw:w<=1000):Xd fuel (w:Int) 0=some (List.replicate w (-1)):=by
 unfold Xd;have hmk:mk? (w:Int) (0:Int)=some (List.replicate w 0):=by
  simp_all[mk?,ZfC,room]<;>grind
 rw[hmk];simp only[Zf9];rw[ZG (I:=λk t=>t=((k:Int),List.replicate k (-1)++List.replicate (w-k) 0)) (m:=w) (r:=List.replicate w (-1)) (λk t hk ht=>?_) (λt ht=>?_) w 0 _ O U fuel lt_fuel]
 ·rfl
 all_goals subst ht
 ·rw[ZfC ak,set?_nat aa];have hw:IntKind.u64.wrap (k:Int)=k:=by grind[IntKind.wrap,IntKind.bits,IntKind.signed]
  have hsh:shr? 0 (k:Int)=some 0:=by
   rfl
  rw[hw,hsh];simp only[Zf9];rw[ZfD (by simp[band01])];have e:(List.replicate k (-1)++List.replicate (w-k) 0).set k (-1)=List.replicate (k+1) (-1)++List.replicate (w-(k+1)) 0:=by
   have:=set_fill (l:=List.replicate k (-1)) (n:=w-(k+1)) (x:=-1);grind[List.length_replicate,List.replicate_succ']
  grind[Zb]
 simp[ZfD,Za]
theorem XH{c:D.Circuit}(h:CircP c):litN (lines c) (-1)=true:=litN_iff.2 ⟨by simp[iab],by have:=h.lines0;grind[iab]⟩
theorem Sq{c:D.Circuit}(h:CircP c):litN (lines c) 1=true:=litN_iff.2 ⟨by simp[iab],by have:=h.lines0;grind[iab]⟩
def partF(bk:Int):BS->Int->Int×BS:=λs x=>andP s bk x
def mulStep(a b:List Int)(t:LS)(k:Nat):LS:=
 let p:=seqP (partF (b.getD k 0)) t.2 (a.take (a.length-k))
 let q:=addP p.2 (t.1.drop k) p.1 (-1)
 (t.1.take k++q.1,q.2.2)
def mulK(s:BS)(a b:List Int)(k:Nat):LS:=(List.range k).foldl (mulStep a b) (List.replicate a.length (-1),s)
def mulK_succ(s:BS)(a b:List Int)(k:Nat):mulK s a b (k+1)=mulStep a b (mulK s a b k) k:=by
 simp[mulK,Zhy,ZgD]
def Fw{s:BS}{a b:List Int}(ha:∀x∈a,litN (lines s.1) x=true)(hb:∀x∈b,litN (lines s.1) x=true){t:LS}(hg:Grow s.1 t.2.1){k:Nat}(hk:k<b.length):FOk (partF (b.getD k 0)) t.2 (a.take (a.length-k)):=by
 intro s' x hc hgr hx;have hbk:b.getD k 0∈b:=by simp_all
 have e:=hg.trans hgr;exact YU hc (litN_mono (hb _ hbk) e.lines) (litN_mono (ha _ (Zhh hx)) e.lines)
section
variable{s:BS}(hs:CircP s.1){a b:List Int}(hab:a.length=b.length)(ha:∀x∈a,litN (lines s.1) x=true)(hb:∀x∈b,litN (lines s.1) x=true)
include hs hab ha hb
theorem LD(k:Nat)(hk:k<=a.length):GoodL s a.length (mulK s a b k):=by
 induction k with
 | zero=>exact⟨hs,Grow.refl _,by simp[mulK],λx hx=>by
   grind[mulK,XH]⟩
 | succ k ih=>
  have g:=ih O;rw[mulK_succ];generalize mulK s a b k=t at g⊢;have gp:=seq_good g.circ (Fw ha hb g.grow (k:=k) O);have gpl:(seqP (partF (b.getD k 0)) t.2 (a.take (a.length-k))).1.length=a.length-k:=by rw[gp.len,Zga];omega
  have gq:=VM gp.circ (a:=t.1.drop k) (b:=(seqP (partF (b.getD k 0)) t.2 (a.take (a.length-k))).1) (c:=-1) aJ (λx hx=>litN_mono (g.lits x (ZgJ hx)) gp.grow.lines) gp.lits (XH gp.circ);refine⟨gq.circ,(g.grow.trans gp.grow).trans gq.grow,?_,λx hx=>?_⟩
  ·simp only[mulStep,ZfI,Zga,gq.len,ZfX,g.len];omega
  ·simp only[mulStep,ZfG]at hx;rcases hx with hx|hx
   ·exact litN_mono (g.lits x (Zhh hx)) (gp.grow.trans gq.grow).lines
   ·exact gq.lits x hx
end
theorem getD_get{l:List Int}{k:Nat}(hk:k<l.length):l[k]? =some (l.getD k 0):=by
 simp_all
theorem getD_mem{l:List Int}{k:Nat}(hk:k<l.length):l.getD k 0∈l:=ZfH (getD_get hk)
def EN{l:List Int}{k:Nat}(hk:k<=l.length):cut? l (k:Int) (len l)=some (l.drop k):=by
 simp_all[cut?,Za,ZfC]
def ZaH{l:List Int}{k:Nat}(hk:k<=l.length):cut? l 0 (k:Int)=some (l.take k):=by
 simp_all[cut?,ZfC]
def KF{l:List Int}(h:l.length<=1000):app? ([]:List Int) l=some l:=by
 simp_all[app?,ZfC,room]<;>grind
theorem Ql{l m:List Int}(h:l.length+m.length<=100000):app? l m=some (l++m):=by
 simp_all[app?,ZfC,room]<;>grind
def Bh{l m:List Int}{k:Nat}(hk:k<=l.length)(hm:m.length=l.length-k):vcopy l (k:Int) (l.length-k) m=l.take k++m:=by
 simp_all[vcopy,Zgr,Zg4,ZgK,Zgb]
section
variable{s:BS}(hs:CircP s.1){a b:List Int}(hab:a.length=b.length)(hl:a.length<=16)(ha:∀x∈a,litN (lines s.1) x=true)(hb:∀x∈b,litN (lines s.1) x=true)
include hs hab hl ha hb
theorem ZbE:WN fuel (net s) a b=some ((mulK s a b a.length).1,net (mulK s a b a.length).2):=by
 unfold WN;rw[Za,spec_fill O];simp only[Zf9];rw[ZG (I:=λk t=>t=((k:Int),(mulK s a b k).1,(mulK s a b k).2.1.Inputs,(mulK s a b k).2.2,(mulK s a b k).2.1.Gates)) (m:=a.length) (r:=((mulK s a b a.length).1,(mulK s a b a.length).2.1.Inputs,(mulK s a b a.length).2.2,(mulK s a b a.length).2.1.Gates)) (λk t hk ht=>?_) (λt ht=>?_) a.length 0 _ O (by simp[mulK]) fuel lt_fuel]
 ·rfl
 all_goals subst ht
 ·have g:=LD hs hab ha hb k O;have hok:=Fw ha hb g.grow (k:=k) O;have gp:=seq_good g.circ hok;refine⟨_,?_,rfl⟩;rw[mulK_succ];generalize mulK s a b k=t at g gp hok⊢;have gpl:(seqP (partF (b.getD k 0)) t.2 (a.take (a.length-k))).1.length=a.length-k:=by rw[gp.len,Zga];omega
  have gq:=VM gp.circ (a:=t.1.drop k) (b:=(seqP (partF (b.getD k 0)) t.2 (a.take (a.length-k))).1) (c:=-1) aJ (λx hx=>litN_mono (g.lits x (ZgJ hx)) gp.grow.lines) gp.lits (XH gp.circ);have sq:=PP (fuel:=fuel) (s:=(seqP (partF (b.getD k 0)) t.2 (a.take (a.length-k))).2) gp.circ (a:=t.1.drop k) (b:=(seqP (partF (b.getD k 0)) t.2 (a.take (a.length-k))).1) (c:=-1) (by rw[ZfX,g.len];omega) aJ (λx hx=>litN_mono (g.lits x (ZgJ hx)) gp.grow.lines) gp.lits (XH gp.circ);simp only;rw[ZfC aa,Zb (x:=(a.length:Int)-(k:Int))];rw[spec_seq (f:=partF (b.getD k 0)) (l:=a.take (a.length-k)) (s:=t.2) g.circ al hok (λj out s' x hx hc hgr hout=>?_) (λout s'=>?_)]
  ·simp only[Zf9];have hcr:=EN (l:=t.1) (k:=k) aL;rw[hcr];simp only[Zf9];have sq':ZR fuel (D.l04Net.mk (D.Circuit.mk (seqP (partF (b.getD k 0)) t.2 (a.take (a.length-k))).2.1.Inputs (seqP (partF (b.getD k 0)) t.2 (a.take (a.length-k))).2.1.Gates) (seqP (partF (b.getD k 0)) t.2 (a.take (a.length-k))).2.2) (t.1.drop k) (seqP (partF (b.getD k 0)) t.2 (a.take (a.length-k))).1 (-1)=_:=sq;rw[sq'];simp only[Zf9];rw[ZaH aL];simp only[Zf9];have l1:(t.1.take k).length<=1000:=by grind
   rw[KF l1];simp only[Zf9];rw[Ql (by rw[Zga,gq.len,ZfX,g.len];omega)];rw[Zb];rfl
  ·have hj:j<a.length-k/\j<a.length:=by
    grind
   have hax:a[j]? =some x:=by simp_all
   rw[ZfC aa,get?_nat,get?_nat,getD_get (l:=b) O,hax];simp only[Zf9];have hga:=g.grow.trans hgr;have sa:Zm fuel (D.l04Net.mk (D.Circuit.mk s'.1.Inputs s'.1.Gates) s'.2) (b.getD k 0) x=_:=TK (fuel:=fuel) hc (litN_mono (hb _ (getD_mem O)) hga.lines) (litN_mono (ha _ (ZfH hax)) hga.lines);rw[sa];simp only[Zf9];rw[Ql aa];rw[Zb];rfl
  grind
 simp
theorem Zc0{m:D.builder}(hm:RelB m s):∃m',XN fuel m a b=some ((mulK s a b a.length).1,m')/\RelB m' (mulK s a b a.length).2:=by
 unfold XN;rw[Za,Gm O];simp only[Zf9];refine ex_pair ?_;refine PR (I:=λk t=>∃m':D.builder,t=((k:Int),(mulK s a b k).1,m'.c.Inputs,m'.full,m'.c.Gates,m'.line)/\RelB m' (mulK s a b k).2) (R:=λr=>∃m':D.builder,r=((mulK s a b a.length).1,m'.c.Inputs,m'.full,m'.c.Gates,m'.line)/\RelB m' (mulK s a b a.length).2) (m:=a.length) (λk t hk ht=>?_) (λt ht=>?_) a.length 0 _ O ⟨m,rfl,hm⟩ fuel lt_fuel (λr hr=>?_)
 ·obtain⟨m1,rfl,hr⟩:=ht;have g:=LD hs hab ha hb k O;have hok:=Fw ha hb g.grow (k:=k) O;have gp:=seq_good g.circ hok;rw[mulK_succ];generalize mulK s a b k=t at g gp hok hr⊢;have gpl:(seqP (partF (b.getD k 0)) t.2 (a.take (a.length-k))).1.length=a.length-k:=by rw[gp.len,Zga];omega
  have gq:=VM gp.circ (a:=t.1.drop k) (b:=(seqP (partF (b.getD k 0)) t.2 (a.take (a.length-k))).1) (c:=-1) aJ (λx hx=>litN_mono (g.lits x (ZgJ hx)) gp.grow.lines) gp.lits (XH gp.circ);have hmk:mk? (w64 ((a.length:Int)-(k:Int))) (0:Int)=some (List.replicate (a.length-k) 0):=by
   rw[Zb];unfold mk?;rw[ZfC ⟨by omega,by grind[room]⟩];simp
  simp only;rw[ZfC ai,hmk];simp only[Zf9];refine BF (seqE (f:=partF (b.getD k 0)) (l:=a.take (a.length-k)) (s:=t.2) (λj L m=>((j:Int),L,m.c.Inputs,m.full,m.c.Gates,m.line)) (λL m=>(L,m.c.Inputs,m.full,m.c.Gates,m.line)) g.circ al hok (L0:=List.replicate (a.length-k) 0) U (λj L mm s' x hx hc hgr hrr hL hpre=>?_) (λL mm=>?_) hr λm2 r2=>?_)
  ·have hj:j<a.length-k/\j<a.length:=by
    grind
   have hax:a[j]? =some x:=by simp_all
   have hga:=g.grow.trans hgr;obtain⟨m3,e3,r3⟩:=TS hrr hc (litN_mono (hb _ (getD_mem (k:=k) O)) hga.lines) (litN_mono (ha _ (ZfH hax)) hga.lines);refine⟨m3,?_,r3⟩;simp only;rw[ZfC ak,get?_nat,get?_nat,getD_get (l:=b) O,hax];simp only[Zf9]
   erw [e3]
   simp only[Zf9];rw[set?_nat (by rw[hL,Zga];omega)];simp only[Zf9];rw[Zb];rfl
  ·simp only;rw[ZfD ar]
  ·obtain⟨m3,h3,r3⟩:=PL (fuel:=fuel) (s:=(seqP (partF (b.getD k 0)) t.2 (a.take (a.length-k))).2) gp.circ r2 (a:=t.1.drop k) (b:=(seqP (partF (b.getD k 0)) t.2 (a.take (a.length-k))).1) (c:=-1) (by rw[ZfX,g.len];omega) aJ (λx hx=>litN_mono (g.lits x (ZgJ hx)) gp.grow.lines) gp.lits (XH gp.circ);refine⟨_,?_,_,rfl,m3,rfl,r3⟩;rw[EN (l:=t.1) (k:=k) aL];simp only[Zf9]
   erw [h3]
   simp only[Zf9];rw[ZfX,Bh aL (by rw[gq.len,ZfX]),Zb];rfl
 ·obtain⟨m1,rfl,hr⟩:=ht;refine⟨_,?_,m1,rfl,hr⟩;rw[ZfD ai]
 ·obtain⟨m',rfl,h2⟩:=hr;exact⟨_,rfl,m',rfl,h2⟩
end
abbrev DS:=List Int×List Int×BS
def selF(c:Int):BS->Int×Int->Int×BS:=λs p=>ifP s c p.1 p.2
def divStep(a less:List Int)(t:DS)(k:Nat):DS:=
 let d:=addP t.2.2 (a.getD k 0::t.1) less 1
 let q:=seqP (selF d.2.1) d.2.2 ((d.1.zip (a.getD k 0::t.1)).take a.length)
 (q.1,d.2.1::t.2.1,q.2)
def lessOf(b:List Int):List Int:=negs b++[1]
def divK(s:BS)(a b:List Int)(k:Nat):DS:=(List.range k).foldl (λt i=>divStep a (lessOf b) t (a.length-1-i)) (List.replicate a.length (-1),[],s)
def divK_succ(s:BS)(a b:List Int)(k:Nat):divK s a b (k+1)=divStep a (lessOf b) (divK s a b k) (a.length-1-k):=by
 simp[divK,Zhy,ZgD]
structure GoodD(s:BS)(w k:Nat)(t:DS):Prop where
 circ:CircP t.2.2.1
 grow:Grow s.1 t.2.2.1
 len:t.1.length=w
 lits:∀x∈t.1,litN (lines t.2.2.1) x=true
 clen:t.2.1.length=k
 clits:∀x∈t.2.1,litN (lines t.2.2.1) x=true
structure DivOk(a less:List Int)(t:DS)(k:Nat):Prop where
 ga:GoodA t.2.2 (a.length+1) (addP t.2.2 (a.getD k 0::t.1) less 1)
 tl:∀x∈a.getD k 0::t.1,litN (lines t.2.2.1) x=true
 ll:∀x∈less,litN (lines t.2.2.1) x=true
 l1:litN (lines t.2.2.1) 1=true
 fok:FOk (selF (addP t.2.2 (a.getD k 0::t.1) less 1).2.1) (addP t.2.2 (a.getD k 0::t.1) less 1).2.2 (((addP t.2.2 (a.getD k 0::t.1) less 1).1.zip (a.getD k 0::t.1)).take a.length)
 zl:(((addP t.2.2 (a.getD k 0::t.1) less 1).1.zip (a.getD k 0::t.1)).take a.length).length=a.length
section
variable{s:BS}{a b:List Int}(hab:a.length=b.length)(ha:∀x∈a,litN (lines s.1) x=true)(hb:∀x∈b,litN (lines s.1) x=true)
include hab ha hb
theorem BG{t:DS}{i:Nat}(g:GoodD s a.length i t){k:Nat}(hk:k<a.length):DivOk a (lessOf b) t k:=by
 have htl:∀x∈a.getD k 0::t.1,litN (lines t.2.2.1) x=true:=λx hx=>by
  rcases ZfY.1 hx with rfl|hx
  ·exact litN_mono (ha _ (getD_mem hk)) g.grow.lines
  ·exact g.lits x hx
 have hll:∀x∈lessOf b,litN (lines t.2.2.1) x=true:=λx hx=>by
  rcases ZfG.1 hx with hx|hx
  ·exact litN_mono (negs_lits hb x hx) g.grow.lines
  ·rw[ZfL.1 hx];exact Sq g.circ
 have hlen:(a.getD k 0::t.1).length=(lessOf b).length:=by simp[lessOf,negs_len,g.len,hab]
 have ga:=VM g.circ hlen htl hll (Sq g.circ);have hw:(a.getD k 0::t.1).length=a.length+1:=by simp[g.len]
 rw[hw]at ga;refine⟨ga,htl,hll,Sq g.circ,λs' p hc hgr hp=>?_,?_⟩
 ·have hp':=Zhh hp;have h1:=Zin hp';exact if_good hc (litN_mono ga.lit hgr.lines) (litN_mono (ga.lits _ h1.1) hgr.lines) (litN_mono (htl _ h1.2) (ga.grow.trans hgr).lines)
 ·rw[Zga,ZhI,ga.len,hw];omega
theorem OG(hs:CircP s.1)(k:Nat)(hk:k<=a.length):GoodD s a.length k (divK s a b k):=by
 induction k with
 | zero=>exact⟨hs,Grow.refl _,by simp[divK],λx hx=>by
   grind[divK,XH],rfl,λx hx=>by cases hx⟩
 |succ k ih=>
  have g:=ih O;rw[divK_succ];have o:=BG hab ha hb g (k:=a.length-1-k) O;have gq:=seq_good o.ga.circ o.fok;rw[o.zl]at gq;refine⟨gq.circ,(g.grow.trans o.ga.grow).trans gq.grow,gq.len,gq.lits,by simp[divStep,g.clen],λx hx=>?_⟩;simp only[divStep,ZfY]at hx;rcases hx with rfl|hx
  ·exact litN_mono o.ga.lit gq.grow.lines
  ·exact litN_mono (g.clits x hx) (o.ga.grow.trans gq.grow).lines
end
def EG{q0 cs:List Int}{w k:Nat}{c:Int}(hq:q0.length=w)(hk:k<w):(q0.take (w-k)++cs).set (w-1-k) c=q0.take (w-(k+1))++(c::cs):=by
 have e:w-k=(w-1-k)+1:=by omega
 have hl:(q0.take (w-1-k)).length=w-1-k:=by grind
 have hlt:w-1-k<q0.length:=by omega
 rw[e,ZfU hlt,ZfO,ZgI _ _ O,hl,Zhm];grind
section
variable{s:BS}(hs:CircP s.1){a b:List Int}(hab:a.length=b.length)(hl:a.length<=16)(ha:∀x∈a,litN (lines s.1) x=true)(hb:∀x∈b,litN (lines s.1) x=true)
include hs hab hl ha hb
theorem DD:XI fuel (net s) a b=some ((divK s a b a.length).2.1,(divK s a b a.length).1,net (divK s a b a.length).2.2):=by
 unfold XI;rw[Za,spec_fill O];simp only[Zf9];rw[spec_not hs.lines1 O hb];simp only[Zf9];rw[Ql (by grind[negs_len])];simp only[Zf9];rw[ZG (I:=λk t=>t=((a.length:Int)-1-(k:Int),(List.replicate a.length (-1)).take (a.length-k)++(divK s a b k).2.1,(divK s a b k).1,(divK s a b k).2.2.1.Inputs,(divK s a b k).2.2.2,(divK s a b k).2.2.1.Gates)) (m:=a.length) (r:=((divK s a b a.length).2.1,(divK s a b a.length).1,(divK s a b a.length).2.2.1.Inputs,(divK s a b a.length).2.2.2,(divK s a b a.length).2.2.1.Gates)) (λk t hk ht=>?_) (λt ht=>?_) a.length 0 _ O (by grind[Zb,divK]) fuel lt_fuel]
 ·rfl
 all_goals subst ht
 ·have g:=OG hab ha hb hs k O;have o:=BG hab ha hb g (k:=a.length-1-k) O;refine⟨_,?_,rfl⟩;rw[divK_succ];generalize divK s a b k=t at g o⊢;have hidx:(a.length:Int)-1-(k:Int)=((a.length-1-k:Nat):Int):=by omega
  have hlen:(a.getD (a.length-1-k) 0::t.1).length=(lessOf b).length:=by simp[lessOf,negs_len,g.len,hab]
  have sd:=PP (fuel:=fuel) (s:=t.2.2) g.circ (a:=a.getD (a.length-1-k) 0::t.1) (b:=lessOf b) (c:=1) aN hlen o.tl o.ll o.l1;simp only;rw[ZfC aa,hidx,get?_nat,getD_get (l:=a) O];simp only[Zf9];rw[Ql aN];simp only[Zf9];have sd':ZR fuel (D.l04Net.mk (D.Circuit.mk t.2.2.1.Inputs t.2.2.1.Gates) t.2.2.2) ([a.getD (a.length-1-k) 0]++t.1) (negs b++[1]) 1=_:=sd;rw[sd'];simp only[Zf9];rw[set?_nat al,EG U hk];simp only[Zf9];rw[spec_seq (f:=selF (addP t.2.2 (a.getD (a.length-1-k) 0::t.1) (lessOf b) 1).2.1) (s:=(addP t.2.2 (a.getD (a.length-1-k) 0::t.1) (lessOf b) 1).2.2) (l:=((addP t.2.2 (a.getD (a.length-1-k) 0::t.1) (lessOf b) 1).1.zip (a.getD (a.length-1-k) 0::t.1)).take a.length) o.ga.circ al o.fok (λj out s' x hx hc hgr hout=>?_) (λout s'=>?_)]
  ·simp only[Zf9];rw[Zb];simp only[Option.some.injEq,Sum.inl.injEq,Prod.mk.injEq];exact⟨by omega,rfl,rfl,rfl,rfl,rfl⟩
  ·have hj:j<a.length:=by
    grind
   have hx':((addP t.2.2 (a.getD (a.length-1-k) 0::t.1) (lessOf b) 1).1.zip (a.getD (a.length-1-k) 0::t.1))[j]? =some x:=by
    rw[Zgw,ZfC hj]at hx;exact hx
   have hz:=zip_mem hx';have h1:=o.ga.lits _ (ZfH hz.1);have h2:=o.tl _ (ZfH hz.2);rw[ZfC aa,get?_nat,get?_nat,hz.1];have hz2:([a.getD (a.length-1-k) 0]++t.1)[j]? =some x.2:=hz.2;rw[hz2];simp only[Zf9];have si:Ya fuel (D.l04Net.mk (D.Circuit.mk s'.1.Inputs s'.1.Gates) s'.2) (addP t.2.2 (a.getD (a.length-1-k) 0::t.1) (lessOf b) 1).2.1 x.1 x.2=_:=spec_if (fuel:=fuel) hc (litN_mono o.ga.lit hgr.lines) (litN_mono h1 hgr.lines) (litN_mono h2 (o.ga.grow.trans hgr).lines);rw[si];simp only[Zf9];rw[Ql aa];rw[Zb];rfl
  ·rw[o.zl,ifn]
 grind
theorem Dk{m:D.builder}(hm:RelB m s):∃m',Xz fuel m a b=some ((divK s a b a.length).2.1,(divK s a b a.length).1,m')/\RelB m' (divK s a b a.length).2.2:=by
 unfold Xz;rw[mk?_len aU];simp only[Zf9];rw[Za,Gm O];simp only[Zf9];rw[impl_opp hs.lines1 O hb];simp only[Zf9];rw[Ql (by grind[negs_len])];simp only[Zf9];have hfin:∀{X:Option (List Int×List Int×D.builder)}{u v:List Int}{s':BS},(∃y,X=some y/\∃m',y=(u,v,m')/\RelB m' s')->∃m',X=some (u,v,m')/\RelB m' s':=λ⟨y,h1,m',h2,h3⟩=>⟨m',by rw[h1,h2],h3⟩;refine hfin ?_;refine PR (I:=λk t=>∃m':D.builder,t=((a.length:Int)-1-(k:Int),(List.replicate a.length 0).take (a.length-k)++(divK s a b k).2.1,(divK s a b k).1,m'.c.Inputs,m'.full,m'.c.Gates,m'.line)/\RelB m' (divK s a b k).2.2) (R:=λr=>∃m':D.builder,r=((divK s a b a.length).2.1,(divK s a b a.length).1,m'.c.Inputs,m'.full,m'.c.Gates,m'.line)/\RelB m' (divK s a b a.length).2.2) (m:=a.length) (λk t hk ht=>?_) (λt ht=>?_) a.length 0 _ O ⟨m,by grind[Zb,divK],hm⟩ fuel lt_fuel (λr hr=>?_)
 ·obtain⟨m1,rfl,hr⟩:=ht;have g:=OG hab ha hb hs k O;have o:=BG hab ha hb g (k:=a.length-1-k) O;rw[divK_succ];generalize divK s a b k=t at g o hr⊢;have hidx:(a.length:Int)-1-(k:Int)=((a.length-1-k:Nat):Int):=by omega
  have hlen:(a.getD (a.length-1-k) 0::t.1).length=(lessOf b).length:=by simp[lessOf,negs_len,g.len,hab]
  obtain⟨m2,h2,r2⟩:=PL (fuel:=fuel) (s:=t.2.2) g.circ hr (a:=a.getD (a.length-1-k) 0::t.1) (b:=lessOf b) (c:=1) aN hlen o.tl o.ll o.l1;simp only;rw[ZfC aa,hidx,get?_nat,getD_get (l:=a) O];simp only[Zf9];rw[Ql aN];simp only[Zf9];have h2':Y0 fuel (D.builder.mk (D.Circuit.mk m1.c.Inputs m1.c.Gates) m1.line m1.full) ([a.getD (a.length-1-k) 0]++t.1) (negs b++[1]) 1=_:=h2;rw[h2'];simp only[Zf9];rw[set?_nat (by simp[g.clen];omega),EG U hk];simp only[Zf9];refine BF (seqE (f:=selF (addP t.2.2 (a.getD (a.length-1-k) 0::t.1) (lessOf b) 1).2.1) (s:=(addP t.2.2 (a.getD (a.length-1-k) 0::t.1) (lessOf b) 1).2.2) (l:=((addP t.2.2 (a.getD (a.length-1-k) 0::t.1) (lessOf b) 1).1.zip (a.getD (a.length-1-k) 0::t.1)).take a.length) (λj L m=>((j:Int),L,m.c.Inputs,m.full,m.c.Gates,m.line)) (λL m=>(L,m.c.Inputs,m.full,m.c.Gates,m.line)) o.ga.circ al o.fok (L0:=t.1) (by rw[o.zl,g.len]) (λj L mm s' x hx hc hgr hrr hL hpre=>?_) (λL mm=>?_) r2 λm3 r3=>?_)
  ·have hj:=(ZfE.1 hx).1;rw[o.zl]at hj;rw[Zgw,ZfC hj]at hx;have hz:=zip_mem hx;obtain⟨m4,e4,r4⟩:=iif hc (litN_mono o.ga.lit hgr.lines) (litN_mono (o.ga.lits _ (ZfH hz.1)) hgr.lines) (litN_mono (o.tl _ (ZfH hz.2)) (o.ga.grow.trans hgr).lines) hrr;refine⟨m4,?_,r4⟩;have hz2:([a.getD (a.length-1-k) 0]++t.1)[j]? =some x.2:=hz.2;simp only;rw[ZfC ai,get?_nat,get?_nat,hz.1,hz2];simp only[Zf9]
   erw [e4]
   simp only[Zf9];rw[set?_nat (by rw[hL,o.zl];exact hj)];simp only[Zf9];rw[Zb];rfl
  ·simp only;rw[o.zl,ZfD ar]
  ·refine⟨_,rfl,_, ?_,m3,rfl,r3⟩;simp only;rw[Zb];simp only[Sum.inl.injEq,Prod.mk.injEq];exact⟨by omega,rfl,rfl,trivial⟩
 ·obtain⟨m1,rfl,hr⟩:=ht;refine⟨_,?_,m1,rfl,hr⟩;rw[ZfD aa];simp
 ·obtain⟨m',rfl,h2⟩:=hr;exact⟨_,rfl,m',rfl,h2⟩
end
end Go.Proofs.YtjhiajehpjpibaaGreatDoor.Cc
end
section
namespace Go.Proofs.YtjhiajehpjpibaaGreatDoor.Cc
open Go.GL
variable{fuel:Nat}[FU fuel]
def lg(w:Nat):Nat:=if w<=1 then 0 else if w<=2 then 1 else if w<=4 then 2 else if w<=8 then 3 else 4
def Eh:∀w,w<16->∀k,k<16->(2^k<w↔k<lg w):=by decide
def EB:∀w,w<16->1<=w->lg w<w:=by decide
def ZeF(w:Nat):lg w<=4:=by
 grind[lg]
theorem Zch:∀k:Nat,k<16->shl? 1 (k:Int)=some ((2^k:Nat):Int):=by decide
def Ng:∀k,k<=4->2^k<=16:=by decide
theorem u64k{k:Nat}(h:k<1000):IntKind.u64.wrap (k:Int)=k:=by grind[IntKind.wrap,IntKind.bits,IntKind.signed]
theorem LX{σt ρt:Type}{B:σt->Option (σt⊕ρt)}{I:Nat->σt->Prop}{m:Nat}(hs:∀k s,k<m->I k s->∃s',B s=some (.inl s')/\I (k+1) s'):
  ∀(d k:Nat)(s:σt),k+d=m->I k s->∀n,∃s',I m s'/\iterN B (n+d) s=iterN B n s'
 |0,k,s,hk,hi,n=>by
  grind
 |d+1,k,s,hk,hi,n=>by
  obtain⟨s1,h1,h2⟩:=hs k s O hi;obtain⟨s',h3,h4⟩:=LX hs d (k+1) s1 O h2 n;grind[Nat.add_assoc,iterN]
def Zay{σt ρt γ:Type}{B:σt->Option (σt⊕ρt)}{I:Nat->σt->Prop}{m n:Nat}{K:ρt->Option γ}{z:Option γ}{s0:σt}(hs:∀k s,k<m->I k s->∃s',B s=some (.inl s')/\I (k+1) s')(hi:I 0 s0)(hn:m<=n)(h:∀s',I m s'->(iterN B (n-m) s').bind K=z):(iterN B n s0).bind K=z:=by
 obtain⟨s',h1,h2⟩:=LX hs m 0 s0 O hi (n-m);rw[Nat.sub_add_cancel hn]at h2;rw[h2];exact h s' h1
def pick(L:Bool)(d:Nat)(fill:Int)(out:List Int)(j:Nat):Int:=
 if L then(if d<=j then out.getD (j-d) 0 else fill)else(if j+d<out.length then out.getD (j+d) 0 else fill)
def Zdh{L:Bool}{d:Nat}{fill:Int}{out:List Int}{j:Nat}(hj:j<out.length):pick L d fill out j=fill\/pick L d fill out j∈out:=by
 grind[pick]
def shPairs(L:Bool)(d:Nat)(fill:Int)(out:List Int):List (Int×Int):=(List.range out.length).map λj=>(pick L d fill out j,out.getD j 0)
theorem WJ{L:Bool}{d:Nat}{fill:Int}{out:List Int}:(shPairs L d fill out).length=out.length:=by simp[shPairs]
def Om{L:Bool}{d:Nat}{fill:Int}{out:List Int}{j:Nat}{x:Int×Int}(h:(shPairs L d fill out)[j]? =some x):j<out.length/\x=(pick L d fill out j,out.getD j 0):=by
 grind[List.getElem?_eq_some_iff,WJ,shPairs,List.getElem?_range,Option.some.inj]
def shStep(L:Bool)(fill:Int)(b:List Int)(t:LS)(k:Nat):LS:=seqP (selF (b.getD k 0)) t.2 (shPairs L (2^k) fill t.1)
def shK(s:BS)(a b:List Int)(L:Bool)(fill:Int)(k:Nat):LS:=(List.range k).foldl (shStep L fill b) (a,s)
def shK_succ(s:BS)(a b:List Int)(L:Bool)(fill:Int)(k:Nat):shK s a b L fill (k+1)=shStep L fill b (shK s a b L fill k) k:=by
 simp[shK,Zhy,ZgD]
def orF:BS->Int->Int->Int×BS:=λs c x=>orP s c x
def finF(c fill:Int):BS->Int->Int×BS:=λs x=>ifP s c fill x
def shFar(s:BS)(a b:List Int)(L:Bool)(fill:Int):Int×BS:=accP orF (shK s a b L fill (lg a.length)).2 (-1) (b.drop (lg a.length))
def shP(s:BS)(a b:List Int)(L:Bool)(fill:Int):LS:=seqP (finF (shFar s a b L fill).1 fill) (shFar s a b L fill).2 (shK s a b L fill (lg a.length)).1
section
variable{s:BS}{a b:List Int}{L:Bool}{fill:Int}(hab:a.length=b.length)(hl:a.length<=15)(ha:∀x∈a,litN (lines s.1) x=true)(hb:∀x∈b,litN (lines s.1) x=true)(hf:litN (lines s.1) fill=true)
include hab hl ha hb hf
omit hab hl ha hb in
theorem Il{t:LS}{n d j:Nat}{s':BS}(g:GoodL s n t)(hgr:Grow t.2.1 s'.1)(hj:j<t.1.length):litN (lines s'.1) (pick L d fill t.1 j)=true:=by
 rcases Zdh (L:=L) (d:=d) (fill:=fill) hj with h|h
 ·rw[h];exact litN_mono hf (g.grow.trans hgr).lines
 ·exact litN_mono (g.lits _ h) hgr.lines
omit hl ha in
theorem ZbZ{t:LS}(g:GoodL s a.length t){k:Nat}(hk:k<a.length)(d:Nat):FOk (selF (b.getD k 0)) t.2 (shPairs L d fill t.1):=by
 intro s' p hc hgr hp;obtain⟨j,hj⟩:=ZgW hp;obtain⟨hj',rfl⟩:=Om hj;have e:=g.grow.trans hgr;exact if_good hc (litN_mono (hb _ (getD_mem O)) e.lines) (Il hf g hgr hj') (litN_mono (g.lits _ (getD_mem hj')) hgr.lines)
omit hl in
theorem Pb(hs:CircP s.1)(k:Nat)(hk:k<=a.length):GoodL s a.length (shK s a b L fill k):=by
 induction k with
 |zero=>exact⟨hs,Grow.refl _,rfl,ha⟩
 |succ k ih=>
  have g:=ih O;rw[shK_succ];generalize shK s a b L fill k=t at g⊢;have o:=ZbZ hab hb hf g (k:=k) O (L:=L) (2^k);have gq:=seq_good g.circ o;rw[WJ,g.len]at gq;exact⟨gq.circ,g.grow.trans gq.grow,gq.len,gq.lits⟩
omit hab hl ha hf in
theorem BB{t:LS}(g:GoodL s a.length t)(k:Nat):AOk orF t.2 (b.drop k):=by
 intro s' c x hc hgr hlc hx;exact Kv hc hlc (litN_mono (hb _ (ZgJ hx)) (g.grow.trans hgr).lines)
theorem Mt(hs:CircP s.1)(hw:1<=a.length):Good (shK s a b L fill (lg a.length)).2 (shFar s a b L fill):=by
 have g:=Pb hab ha hb hf hs (L:=L) (lg a.length) aF;exact DC g.circ (XH g.circ) (BB hb g _)
theorem fin_ok(hs:CircP s.1)(hw:1<=a.length):FOk (finF (shFar s a b L fill).1 fill) (shFar s a b L fill).2 (shK s a b L fill (lg a.length)).1:=by
 have g:=Pb hab ha hb hf hs (L:=L) (lg a.length) aF;have gf:=Mt hab hl ha hb hf hs hw (L:=L);intro s' x hc hgr hx;exact if_good hc (litN_mono gf.lit hgr.lines) (litN_mono hf ((g.grow.trans gf.grow).trans hgr).lines) (litN_mono (g.lits _ hx) (gf.grow.trans hgr).lines)
theorem Jb(hs:CircP s.1)(hw:1<=a.length):GoodL s a.length (shP s a b L fill):=by
 have g:=Pb hab ha hb hf hs (L:=L) (lg a.length) aF;have gf:=Mt hab hl ha hb hf hs hw (L:=L);have gq:=seq_good gf.circ (fin_ok hab hl ha hb hf hs hw);rw[g.len]at gq;exact⟨gq.circ,(g.grow.trans gf.grow).trans gq.grow,gq.len,gq.lits⟩
end
def idx(L:Bool)(d j:Nat):Int:=cond L (w64 ((j:Int)-(d:Int))) (w64 ((j:Int)+(d:Int)))
def ZbP{L:Bool}{d j:Nat}{fill:Int}{out:List Int}(hd:d<=40000)(hj:j<out.length)(hl:out.length<=15):
  (if(decide (idx L d j>=0)&&decide (idx L d j<out.length))=true then(get? out (idx L d j)).bind λx=>some x else some fill)=some (pick L d fill out j):=by
 have key:∀i:Nat,i<out.length->(get? out (i:Int)).bind (λx=>some x)=some (out.getD i 0):=λi h=>by rw[get?_nat,getD_get h];rfl
 have e:idx L d j=cond L ((j:Int)-d) (((j+d:Nat):Int)):=by cases L<;>grind[idx,Zb]
 rw[e];cases L
 ·grind[pick]
 ·have e2:d<=j->(j:Int)-d=((j-d:Nat):Int):=by omega
  grind[pick]
section
variable{s:BS}(hs:CircP s.1){a b:List Int}{op fill:Int}(hab:a.length=b.length)(hl:a.length<=15)(hw:1<=a.length)(ha:∀x∈a,litN (lines s.1) x=true)(hb:∀x∈b,litN (lines s.1) x=true)(hf:litN (lines s.1) fill=true)
  (hF:(if(op==13)=true then(get? a (w64 (len a-1))).bind λx=>some x else some (-1))=some fill)
include hs hab hl hw ha hb hf hF
theorem Nh:Wd fuel (net s) op a b=some ((shP s a b (op==11) fill).1,net (shP s a b (op==11) fill).2):=by
 unfold Wd;rw[hF];simp only[Zf9];generalize hL:(op==11)=L;have hlg:=EB a.length O hw;have hlg4:=ZeF a.length;have hfu:=FU.le (n:=fuel);have gl:=Pb hab ha hb hf hs (L:=L) (lg a.length) O;refine Zay (I:=λk t=>t=((-1:Int),false,(shK s a b L fill k).1,(k:Int),(shK s a b L fill k).2.1.Inputs,(shK s a b L fill k).2.2,(shK s a b L fill k).2.1.Gates)) (m:=lg a.length) (λk t hk ht=>?_) rfl O λt ht=>?_
 ·subst ht;have g:=Pb hab ha hb hf hs (L:=L) k O;have o:=ZbZ hab hb hf g (k:=k) O (L:=L) (2^k);refine⟨_,?_,rfl⟩;rw[shK_succ];generalize shK s a b L fill k=t at g o⊢;have hp:2^k<a.length:=by rw[Eh _ O _ O];omega
  have hln:=g.len;simp only;rw[ZfC aq,Zch _ O];simp only[Zf9];rw[ZfD aq];rw[spec_seq (f:=selF (b.getD k 0)) (s:=t.2) (l:=shPairs L (2^k) fill t.1) g.circ (by rw[WJ];omega) o (λj out s' x hx hc hgr hout=>?_) (λout s'=>?_)]
  ·simp only[Zf9];rw[Zb];rfl
  ·obtain⟨hj,rfl⟩:=Om hx;have h1:=ZbP (L:=L) (d:=2^k) (j:=j) (fill:=fill) (out:=t.1) O hj O;have h2:Zc (idx L (2^k) j) 0 (w64 (len a-1))=some (decide (idx L (2^k) j>=0)&&decide (idx L (2^k) j<t.1.length)):=by
    unfold Zc;rw[Za,Zb];grind
   simp only;rw[ZfC ak]
   erw [h2]
   simp only[Zf9]
   erw [h1]
   simp only[Zf9,get?_nat];rw[getD_get (l:=b) O,getD_get hj];simp only[Zf9]
   erw [eif hc (litN_mono (hb _ (getD_mem (l:=b) (k:=k) O)) (g.grow.trans hgr).lines) (Il hf g hgr hj) (litN_mono (g.lits _ (getD_mem hj)) hgr.lines)]
   simp only[Zf9];rw[Ql aa];simp only[Zf9];rw[Zb];rfl
  ·simp only;rw[ZfD (by rw[Za,WJ,g.len];simp)]
 ·subst ht;refine Eq.trans (congrArg (λo=>Option.bind o _) (Hq (f:=orF) (l:=b.drop (lg a.length)) (s:=(shK s a b L fill (lg a.length)).2) (c:=-1) (λj c s'=>(c,decide (0<j),(shK s a b L fill (lg a.length)).1,((lg a.length+j:Nat):Int),s'.1.Inputs,s'.2,s'.1.Gates)) (λc s'=>(c,true,(shK s a b L fill (lg a.length)).1,s'.1.Inputs,s'.2,s'.1.Gates)) gl.circ (XH gl.circ) (BB hb gl _) (λj c s' x hx hc hgr hlc=>?_) (λc s'=>?_) (by rw[ZfX];omega))) ?_;rotate_left 2
  ·simp only[Zf9,ZfJ,ZfB,ZfK];have gf:=Mt hab hl ha hb hf hs hw (L:=L);rw[show accP orF (shK s a b L fill (lg a.length)).2 (-1) (b.drop (lg a.length))=shFar s a b L fill from rfl];rw[spec_seq (f:=finF (shFar s a b L fill).1 fill) (s:=(shFar s a b L fill).2) (l:=(shK s a b L fill (lg a.length)).1) gf.circ (by rw[gl.len];omega) (fin_ok hab hl ha hb hf hs hw) (λj out s' x hx hc hgr hout=>?_) (λout s'=>?_)]
   ·rfl
   ·have hj:=(ZfE.1 hx).1;rw[gl.len]at hj;simp only;rw[ZfC ai,get?_nat,hx];simp only[Zf9]
    erw [eif hc (litN_mono gf.lit hgr.lines) (litN_mono hf ((gl.grow.trans gf.grow).trans hgr).lines) (litN_mono (gl.lits _ (ZfH hx)) (gf.grow.trans hgr).lines)]
    simp only[Zf9];rw[Ql aa];simp only[Zf9];rw[Zb];rfl
   ·simp only;rw[ZfD (by rw[Za,gl.len];simp)]
  ·rw[Zg1]at hx;have hj:=(ZfE.1 hx).1;have hp:¬(2^(lg a.length+j)<a.length):=by rw[Eh _ O _ O];omega
   simp only;rw[ZfC ai,Zch _ O];simp only[Zf9];rw[ZfC (by rw[Za];simp only[ge_iff_le,ZfN];exact Int.ofNat_le.2 O),get?_nat,hx];simp only[Zf9]
   erw [eor hc hlc (litN_mono (hb _ (ZfH hx)) (gl.grow.trans hgr).lines)]
   simp only[Zf9];rw[Zb];simp[orF];omega
  ·simp only;rw[ZfD (by rw[Za,ZfX];simp;omega),ZfX,show decide (0<b.length-lg a.length)=true by simp;omega]
theorem Nj{m:D.builder}(hm:RelB m s):∃m',WT fuel m op a b=some ((shP s a b (op==11) fill).1,m')/\RelB m' (shP s a b (op==11) fill).2:=by
 unfold WT;rw[hF];generalize hL:(op==11)=L;have hlg:=EB a.length O hw;have hlg4:=ZeF a.length;have gl:=Pb hab ha hb hf hs (L:=L) (lg a.length) O;have hcl:∀l:List Int,l.length<=1000->Zg l=some l:=λl h=>by simp_all[Zg,KF]
 have hsh:∀k:Nat,k<16->shl? 1 (IntKind.u64.wrap (k:Int))=some ((2^k:Nat):Int):=λk h=>by grind[u64k,Zch]
 rw[hcl a O];simp only[Zf9];refine ex_pair ?_;refine PR (I:=λk t=>∃m':D.builder,t=((k:Int),(shK s a b L fill k).1,m'.c.Inputs,m'.full,m'.c.Gates,m'.line)/\RelB m' (shK s a b L fill k).2) (R:=λr=>∃m':D.builder,r=(((lg a.length:Nat):Int),(shK s a b L fill (lg a.length)).1,m'.c.Inputs,m'.full,m'.c.Gates,m'.line)/\RelB m' (shK s a b L fill (lg a.length)).2) (m:=lg a.length) (λk t hk ht=>?_) (λt ht=>?_) (lg a.length) 0 _ O ⟨m,rfl,hm⟩ fuel lt_fuel (λr hr=>?_)
 ·obtain⟨m1,rfl,hr⟩:=ht;have g:=Pb hab ha hb hf hs (L:=L) k O;have o:=ZbZ hab hb hf g (k:=k) O (L:=L) (2^k);rw[shK_succ];generalize shK s a b L fill k=t at g o hr⊢;have hln:=g.len;have hp:2^k<a.length:=by rw[Eh _ O _ O];omega
  have hkl:decide ((k:Int)<len a)=true:=by grind[Za]
  have hpl:decide (((2^k:Nat):Int)<len a)=true:=by rw[Za,ZfN];exact Int.ofNat_lt.2 hp
  simp only[hkl,ZfR,hsh k O,Zf9,hpl,ZgX];rw[hcl t.1 O];simp only[Zf9];rw[show len t.1=len a by rw[Za,Za,g.len]];refine BF (seqE (f:=selF (b.getD k 0)) (s:=t.2) (l:=shPairs L (2^k) fill t.1) (λj L m=>((j:Int),L,m.c.Inputs,m.full,m.c.Gates,m.line)) (λL m=>(L,m.c.Inputs,m.full,m.c.Gates,m.line)) g.circ (by rw[WJ];omega) o (L0:=t.1) (by rw[WJ]) (λj Lj mm s' x hx hc hgr hrr hLl hpre=>?_) (λL mm=>?_) hr λm3 r3=>?_)
  ·obtain⟨hj,rfl⟩:=Om hx;rw[WJ]at hLl;have h1:=ZbP (L:=L) (d:=2^k) (j:=j) (fill:=fill) (out:=t.1) O hj O;rw[hln,<-Za]at h1;obtain⟨m4,e4,r4⟩:=iif hc (litN_mono (hb _ (getD_mem (l:=b) (k:=k) O)) (g.grow.trans hgr).lines) (Il hf g hgr hj) (litN_mono (g.lits _ (getD_mem hj)) hgr.lines) hrr;refine⟨m4,?_,r4⟩;simp only;rw[ZfC ai];rw[show(if L=true then some (w64 ((j:Int)-((2^k:Nat):Int)))else some (w64 ((j:Int)+((2^k:Nat):Int))))=some (idx L (2^k) j) by cases L<;>rfl];simp only[Zf9];rw[h1,get?_nat,get?_nat,getD_get (l:=b) O,getD_get hj];simp only[Zf9]
   erw [e4]
   simp only[Zf9];rw[set?_nat O];simp only[Zf9];rw[Zb];rfl
  ·simp only;rw[ZfD (by rw[Za,WJ,g.len];simp)]
  ·refine⟨_,rfl,_, ?_,m3,rfl,r3⟩;simp only;rw[Zb];rfl
 ·obtain⟨m1,rfl,hr⟩:=ht;refine⟨_,?_,m1,rfl,hr⟩;have hp:¬2^lg a.length<a.length:=by rw[Eh _ O _ O];omega
  have hkl:decide (((lg a.length:Nat):Int)<len a)=true:=by rw[Za];simp;omega
  have hpl:decide (((2^lg a.length:Nat):Int)<len a)=false:=by rw[Za,decide_eq_false_iff_not];exact λh=>hp (Int.ofNat_lt.1 h)
  simp only[hkl,ZfR,hsh _ (show lg a.length<16 by omega),Zf9,hpl,Ziv,ZfB,ZfK]
 ·obtain⟨m1,rfl,hr⟩:=hr;have gf:=Mt hab hl ha hb hf hs hw (L:=L);simp only;rw[show len (shK s a b L fill (lg a.length)).1=len a by rw[Za,Za,gl.len]];rw[ZfC ai];refine accE (f:=orF) (l:=b.drop (lg a.length)) (s:=(shK s a b L fill (lg a.length)).2) (c:=-1) (λj c m=>(((lg a.length+j:Nat):Int),c,m.c.Inputs,m.full,m.c.Gates,m.line)) (λc m=>(c,m.c.Inputs,m.full,m.c.Gates,m.line)) gl.circ (XH gl.circ) (by rw[ZfX];omega) (BB hb gl _) (λj c mm s' x hx hc hgr hrr hlc=>?_) (λc mm=>?_) hr λm2 r2=>?_
  ·rw[Zg1]at hx;have hj:=(ZfE.1 hx).1;obtain⟨m4,e4,r4⟩:=ior hc hlc (litN_mono (hb _ (ZfH hx)) (gl.grow.trans hgr).lines) hrr;refine⟨m4,?_,r4⟩;simp only;rw[ZfC ai,get?_nat,hx];simp only[Zf9]
   erw [e4]
   simp only[Zf9];rw[Zb];rfl
  ·simp only;rw[ZfD (by rw[Za,ZfX];simp;omega)]
  ·refine seqE (f:=finF (shFar s a b L fill).1 fill) (s:=(shFar s a b L fill).2) (l:=(shK s a b L fill (lg a.length)).1) (L0:=(shK s a b L fill (lg a.length)).1) (λj L m=>((j:Int),L,m.c.Inputs,m.full,m.c.Gates,m.line)) (λL m=>(L,m.c.Inputs,m.full,m.c.Gates,m.line)) gf.circ (by rw[gl.len];omega) (fin_ok hab hl ha hb hf hs hw) rfl (λj Lj mm s' x hx hc hgr hrr hLl hpre=> ?_) (λL mm=> ?_) r2 λm3 r3=>⟨_,rfl,m3,rfl,r3⟩
   ·have hj:=(ZfE.1 hx).1;rw[gl.len]at hj hLl;obtain⟨m4,e4,r4⟩:=iif hc (litN_mono gf.lit hgr.lines) (litN_mono hf ((gl.grow.trans gf.grow).trans hgr).lines) (litN_mono (gl.lits _ (ZfH hx)) (gf.grow.trans hgr).lines) hrr;refine⟨m4,?_,r4⟩;simp only;rw[ZfC ai,get?_nat,hpre j (ZfP _),hx];simp only[Zf9]
    erw [e4]
    simp only[Zf9];rw[set?_nat O];rw[Zb];rfl
   ·rw[ZfD (by rw[Za,gl.len];simp)]
end
end Go.Proofs.YtjhiajehpjpibaaGreatDoor.Cc
end
section
namespace Go.Proofs.YtjhiajehpjpibaaGreatDoor.Cc
open Go.GL
variable{fuel:Nat}[FU fuel]
def andF2:BS->Int×Int->Int×BS:=λs p=>andP s p.1 p.2
def orF2:BS->Int×Int->Int×BS:=λs p=>orP s p.1 p.2
def xorF2:BS->Int×Int->Int×BS:=λs p=>xorP s p.1 p.2
def eqF:BS->Int->Int×Int->Int×BS:=λs c p=>andP (xorP s p.1 p.2).2 c (-(xorP s p.1 p.2).1)
def flipP(l:List Int):List Int:=l.set (l.length-1) (-(l.getD (l.length-1) 0))
def Tm(l:List Int):(flipP l).length=l.length:=by simp[flipP]
def Tf{n:Int}{l:List Int}(hl:1<=l.length)(h:∀x∈l,litN n x=true):∀x∈flipP l,litN n x=true:=by
 intro x hx;rcases Zh4 hx with hx|rfl
 all_goals grind[ZV,getD_mem]
def lessP(s:BS)(a b:List Int):LS:=let r:=addP s a (negs b) 1;([-r.2.1],r.2.2)
def equalP(s:BS)(a b:List Int):LS:=let r:=accP eqF s 1 (a.zip b);([r.1],r.2)
def opP(s:BS)(op:Int)(a b:List Int):LS:=
 if op=3 then((addP s a b (-1)).1,(addP s a b (-1)).2.2)
 else if op=4 then((addP s a (negs b) 1).1,(addP s a (negs b) 1).2.2)
 else if op=5 then mulK s a b a.length
 else if op=6 then((divK s a b a.length).2.1,(divK s a b a.length).2.2)
 else if op=7 then((divK s a b a.length).1,(divK s a b a.length).2.2)
 else if op=8 then seqP andF2 s (a.zip b)
 else if op=9 then seqP orF2 s (a.zip b)
 else if op=10 then seqP xorF2 s (a.zip b)
 else if op=11 then shP s a b true (-1)
 else if op=12 then shP s a b false (-1)
 else if op=13 then shP s a b false (a.getD (a.length-1) 0)
 else if op=14 then equalP s a b
 else if op=15 then lessP s a b
 else lessP s (flipP a) (flipP b)
def Iy{op:Int}(h:3<=op/\op<=16):op=3\/op=4\/op=5\/op=6\/op=7\/op=8\/op=9\/op=10\/op=11\/op=12\/op=13\/op=14\/op=15\/op=16:=by omega
def Pg{l:List Int}(h:1<=l.length)(h2:l.length<=1000):get? l (w64 (len l-1))=some (l.getD (l.length-1) 0):=by
 grind[Za,Zb,get?_nat,getD_get]
def Js{l:List Int}{x:Int}(h:1<=l.length)(h2:l.length<=1000):set? l (w64 (len l-1)) x=some (l.set (l.length-1) x):=by
 grind[Za,Zb,set?_nat]
def HZ{n:Int}{l:List Int}(hn:n<=391)(h:1<=l.length)(h2:l.length<=1000)(hl:∀x∈l,litN n x=true):UI l=some (flipP l):=by
 unfold UI;rw[KF h2];simp only[Zf9];rw[Pg h h2];simp only[Zf9];rw[Yn (hl _ (getD_mem O)) hn,Js h h2];rfl
def GA{n:Int}{l:List Int}(hn:n<=391)(h:1<=l.length)(h2:l.length<=1000)(hl:∀x∈l,litN n x=true):WY l=some (flipP l):=by
 unfold WY Zg;rw[KF h2];simp only[Zf9];rw[Pg h h2];simp only[Zf9];rw[Yn (hl _ (getD_mem O)) hn,Js h h2];rfl
section
variable{s:BS}{a b:List Int}(ha:∀x∈a,litN (lines s.1) x=true)(hb:∀x∈b,litN (lines s.1) x=true)
include ha hb
theorem WW{s':BS}(hg:Grow s.1 s'.1){p:Int×Int}(hp:p∈a.zip b):litN (lines s'.1) p.1=true/\litN (lines s'.1) p.2=true:=by
 have:=Zin hp;exact⟨litN_mono (ha _ this.1) hg.lines,litN_mono (hb _ this.2) hg.lines⟩
theorem KR:FOk andF2 s (a.zip b):=λs' p hc hg hp=>have h:=WW ha hb (s':=s') hg hp;YU hc h.1 h.2
theorem FP:FOk orF2 s (a.zip b):=λs' p hc hg hp=>have h:=WW ha hb (s':=s') hg hp;Kv hc h.1 h.2
theorem JD:FOk xorF2 s (a.zip b):=λs' p hc hg hp=>have h:=WW ha hb (s':=s') hg hp;VV hc h.1 h.2
theorem Cv:AOk eqF s (a.zip b):=λs' c p hc hg hl hp=>by
 have h:=WW ha hb (s':=s') hg hp;have g1:=VV hc h.1 h.2;have g2:=YU g1.circ (a:=c) (b:=-(xorP s' p.1 p.2).1) (litN_mono hl g1.grow.lines) (by rw[ZV];exact g1.lit);exact⟨g2.circ,g1.grow.trans g2.grow,g2.lit⟩
end
section
variable{s:BS}(hs:CircP s.1){a b:List Int}(hab:a.length=b.length)(hl:a.length<=15)(ha:∀x∈a,litN (lines s.1) x=true)(hb:∀x∈b,litN (lines s.1) x=true)
include hs hab hl
theorem MU{f:BS->Int×Int->Int×BS}(hf:FOk f s (a.zip b)){G:D.l04Net->Int->Int->Option (Int×D.l04Net)}
  (hG:∀(s':BS)(p:Int×Int),CircP s'.1->Grow s.1 s'.1->p∈a.zip b->G (net s') p.1 p.2=some ((f s' p).1,net (f s' p).2)):
  iterN (λ(s1:Int×(List Int)×Int×Bool×(List D.Gate))=>if(decide (s1.1<(len a)))then(get? a s1.1).bind λx7=>(get? b s1.1).bind λx8=>(G (D.l04Net.mk (D.Circuit.mk s1.2.2.1 s1.2.2.2.2) s1.2.2.2.1) x7 x8).bind λx9=>(app? s1.2.1 ([x9.1]:List Int)).bind λx10=>some (.inl ((w64 (s1.1+1)),x10,x9.2.c.Inputs,x9.2.full,x9.2.c.Gates))else some (.inr (s1.2.1,s1.2.2.1,s1.2.2.2.1,s1.2.2.2.2))) fuel (0,([]:List Int),s.1.Inputs,s.2,s.1.Gates)=some ((seqP f s (a.zip b)).1,(seqP f s (a.zip b)).2.1.Inputs,(seqP f s (a.zip b)).2.2,(seqP f s (a.zip b)).2.1.Gates):=by
 have hzl:(a.zip b).length=a.length:=by simp_all
 refine spec_seq hs O hf (λj out s' x hx hc hgr hout=>?_) (λout s'=>?_)
 ·have hj:j<a.length:=by
   grind
  have hz:=zip_mem hx;rw[ZfC ak,get?_nat,get?_nat,hz.1,hz.2];have e:=hG s' x hc hgr (ZfH hx);have e':G (D.l04Net.mk (D.Circuit.mk s'.1.Inputs s'.1.Gates) s'.2) x.1 x.2=_:=e;grind[Ql,Zb]
 simp_all[ZfD,Za]
theorem MW{f:BS->Int×Int->Int×BS}(hf:FOk f s (a.zip b)){G:D.builder->Int->Int->Option (Int×D.builder)}
  (hG:∀(s':BS)(p:Int×Int),CircP s'.1->Grow s.1 s'.1->p∈a.zip b->∀m,RelB m s'->∃m',G m p.1 p.2=some ((f s' p).1,m')/\RelB m' (f s' p).2){m:D.builder}(hm:RelB m s):
  ∃ m',iterN (λ(s1:Int×(List Int)×Int×Bool×(List D.Gate)×(List (D.Gate×Int)))=>if(decide (s1.1<(len a)))then(get? a s1.1).bind λx14=>(get? b s1.1).bind λx15=>(G (D.builder.mk (D.Circuit.mk s1.2.2.1 s1.2.2.2.2.1) s1.2.2.2.2.2 s1.2.2.2.1) x14 x15).bind λx16=>(set? s1.2.1 s1.1 x16.1).bind λx17=>some (.inl ((w64 (s1.1+1)),x17,x16.2.c.Inputs,x16.2.full,x16.2.c.Gates,x16.2.line))else some (.inr (s1.2.1,s1.2.2.1,s1.2.2.2.1,s1.2.2.2.2.1,s1.2.2.2.2.2))) fuel (0,List.replicate a.length (0:Int),m.c.Inputs,m.full,m.c.Gates,m.line)=some ((seqP f s (a.zip b)).1,m'.c.Inputs,m'.full,m'.c.Gates,m'.line)/\RelB m' (seqP f s (a.zip b)).2:=by
 have hzl:(a.zip b).length=a.length:=by simp_all
 refine GN (λj L m=>((j:Int),L,m.c.Inputs,m.full,m.c.Gates,m.line)) (λL m=>(L,m.c.Inputs,m.full,m.c.Gates,m.line)) hs O hf ah (λj L mm s' x hx hc hgr hrr hLl hpre=>?_) (λL mm=>?_) hm
 ·have hj:j<a.length:=by
   grind
  have hz:=zip_mem hx;obtain⟨m4,e4,r4⟩:=hG s' x hc hgr (ZfH hx) mm hrr;have e4':G (D.builder.mk (D.Circuit.mk mm.c.Inputs mm.c.Gates) mm.line mm.full) x.1 x.2=_:=e4;rw[ZfC ak,get?_nat,get?_nat,hz.1,hz.2];grind[set?_nat,Zb]
 simp_all[ZfD,Za]
include ha hb
theorem Zdx:iterN (λ(s2:Int×Int×Int×Bool×(List D.Gate))=>if(decide (s2.2.1<(len a)))then(get? a s2.2.1).bind λx20=>(get? b s2.2.1).bind λx21=>(Zy fuel (D.l04Net.mk (D.Circuit.mk s2.2.2.1 s2.2.2.2.2) s2.2.2.2.1) x20 x21).bind λx22=>(Zm fuel x22.2 s2.1 (w64 (0-x22.1))).bind λx23=>some (.inl (x23.1,(w64 (s2.2.1+1)),x23.2.c.Inputs,x23.2.full,x23.2.c.Gates))else some (.inr (s2.1,s2.2.2.1,s2.2.2.2.1,s2.2.2.2.2))) fuel (1,0,s.1.Inputs,s.2,s.1.Gates)=some ((accP eqF s 1 (a.zip b)).1,(accP eqF s 1 (a.zip b)).2.1.Inputs,(accP eqF s 1 (a.zip b)).2.2,(accP eqF s 1 (a.zip b)).2.1.Gates):=by
 have hzl:(a.zip b).length=a.length:=by simp_all
 refine Hq (f:=eqF) (s:=s) (c:=1) (l:=a.zip b) (λj c s'=>(c,(j:Int),s'.1.Inputs,s'.2,s'.1.Gates)) (λc s'=>(c,s'.1.Inputs,s'.2,s'.1.Gates)) hs (Sq hs) (Cv ha hb) (λj c s' x hx hc hgr hlc=>?_) (λc s'=>?_) lt_fuel
 ·have hj:j<a.length:=by
   grind
  have hz:=zip_mem hx;have hxl:=WW ha hb (s':=s') hgr (ZfH hx);have g1:=VV hc hxl.1 hxl.2;rw[ZfC ak,get?_nat,get?_nat,hz.1,hz.2];simp only[Zf9];have e1:Zy fuel (D.l04Net.mk (D.Circuit.mk s'.1.Inputs s'.1.Gates) s'.2) x.1 x.2=_:=Ma (fuel:=fuel) hc hxl.1 hxl.2;rw[e1];simp only[Zf9];have e2:=TK (fuel:=fuel) g1.circ (a:=c) (b:=-(xorP s' x.1 x.2).1) (litN_mono hlc g1.grow.lines) (by rw[ZV];exact g1.lit);rw[Yn g1.lit g1.circ.lines1,e2];rw[Zb];rfl
 simp_all[ZfD,Za]
theorem ZdN{m:D.builder}(hm:RelB m s):∃m',WU fuel m a b=some ((accP eqF s 1 (a.zip b)).1,m')/\RelB m' (accP eqF s 1 (a.zip b)).2:=by
 have hzl:(a.zip b).length=a.length:=by simp_all
 unfold WU;refine ex_pair (accE (f:=eqF) (l:=a.zip b) (s:=s) (c:=1) (λj c m=>(c,(j:Int),m.c.Inputs,m.full,m.c.Gates,m.line)) (λc m=>(c,m.c.Inputs,m.full,m.c.Gates,m.line)) hs (Sq hs) O (Cv ha hb) (λj c mm s' x hx hc hgr hrr hlc=>?_) (λc mm=>?_) hm λm2 r2=>⟨_,rfl,m2,rfl,r2⟩)
 ·have hj:j<a.length:=by
   grind
  have hz:=zip_mem hx;have hxl:=WW ha hb (s':=s') hgr (ZfH hx);have g1:=VV hc hxl.1 hxl.2;obtain⟨m3,e3,r3⟩:=NA hc hxl.1 hxl.2 mm hrr;obtain⟨m4,e4,r4⟩:=TS r3 g1.circ (a:=c) (b:=-(xorP s' x.1 x.2).1) (litN_mono hlc g1.grow.lines) (by rw[ZV];exact g1.lit);refine⟨m4,?_,r4⟩;rw[ZfC ak,get?_nat,get?_nat,hz.1,hz.2];simp only[Zf9];have e3':ZO (D.builder.mk (D.Circuit.mk mm.c.Inputs mm.c.Gates) mm.line mm.full) x.1 x.2=_:=e3;rw[e3'];simp only[Zf9];rw[Yn g1.lit g1.circ.lines1,e4];rw[Zb];rfl
 ·simp_all[ZfD,Za]
theorem GG:X4 fuel (net s) a b=some (-(addP s a (negs b) 1).2.1,net (addP s a (negs b) 1).2.2):=by
 have hnl:=negs_lits hb;have ga:=VM hs aC ha hnl (Sq hs);unfold X4;rw[spec_not hs.lines1 O hb];simp only[Zf9];rw[PP hs O aC ha hnl (Sq hs)];simp only[Zf9];rw[Yn ga.lit ga.circ.lines1]
theorem Gd{m:D.builder}(hm:RelB m s):∃m',We fuel m a b=some (-(addP s a (negs b) 1).2.1,m')/\RelB m' (addP s a (negs b) 1).2.2:=by
 have hnl:=negs_lits hb;have ga:=VM hs aC ha hnl (Sq hs);obtain⟨m2,h2,r2⟩:=PL (fuel:=fuel) hs hm O aC ha hnl (Sq hs);unfold We;rw[impl_opp hs.lines1 O hb];simp only[Zf9];rw[h2];simp only[Zf9];rw[Yn ga.lit ga.circ.lines1];simp_all
end
end Go.Proofs.YtjhiajehpjpibaaGreatDoor.Cc
end
section
namespace Go.Proofs.YtjhiajehpjpibaaGreatDoor.Cc
open Go.GL
variable{fuel:Nat}[FU fuel]
section
variable{s:BS}(hs:CircP s.1){op:Int}{a b:List Int}(ho:3<=op/\op<=16)(hab:a.length=b.length)(hl:a.length<=15)(hw:1<=a.length)(ha:∀x∈a,litN (lines s.1) x=true)(hb:∀x∈b,litN (lines s.1) x=true)
include hs ho hab hl hw ha hb
def opW(op:Int)(n:Nat):Nat:=if 14<=op then 1 else n
theorem op_good:GoodL s (opW op a.length) (opP s op a b):=by
 have hnl:=negs_lits hb;have hzl:(a.zip b).length=a.length:=by simp_all
 have hla:litN (lines s.1) (a.getD (a.length-1) 0)=true:=ha _ (getD_mem O);have one:∀{x:Int}{t:BS},litN (lines t.1) x=true->∀y∈[x],litN (lines t.1) y=true:=λh y hy=>by simp_all
 have less:∀{u v:List Int},u.length=v.length->(∀x∈u,litN (lines s.1) x=true)->(∀x∈v,litN (lines s.1) x=true)->GoodL s 1 (lessP s u v):=λhuv hu hv=>by
  have g:=VM hs aC hu (negs_lits hv) (Sq hs);exact⟨g.circ,g.grow,rfl,one (by rw[ZV];exact g.lit)⟩
 rcases Iy ho with rfl|rfl|rfl|rfl|rfl|rfl|rfl|rfl|rfl|rfl|rfl|rfl|rfl|rfl
 ·have g:=VM hs hab ha hb (XH hs);exact⟨g.circ,g.grow,g.len,g.lits⟩
 ·have g:=VM hs aC ha hnl (Sq hs);exact⟨g.circ,g.grow,g.len,g.lits⟩
 ·exact LD hs hab ha hb a.length (ZfP _)
 ·have g:=OG hab ha hb hs a.length (ZfP _);exact⟨g.circ,g.grow,g.clen,g.clits⟩
 ·have g:=OG hab ha hb hs a.length (ZfP _);exact⟨g.circ,g.grow,g.len,g.lits⟩
 ·have g:=seq_good hs (KR ha hb);exact⟨g.circ,g.grow,g.len.trans hzl,g.lits⟩
 ·have g:=seq_good hs (FP ha hb);exact⟨g.circ,g.grow,g.len.trans hzl,g.lits⟩
 ·have g:=seq_good hs (JD ha hb);exact⟨g.circ,g.grow,g.len.trans hzl,g.lits⟩
 ·exact Jb hab hl ha hb (XH hs) hs hw (L:=true)
 ·exact Jb hab hl ha hb (XH hs) hs hw (L:=false)
 ·exact Jb hab hl ha hb hla hs hw (L:=false)
 ·have g:=DC hs (Sq hs) (Cv ha hb);exact⟨g.circ,g.grow,rfl,one g.lit⟩
 ·exact less hab ha hb
 ·exact less (by simp_all[Tm]) (Tf O ha) (Tf O hb)
theorem spec_op:YH fuel (net s) op a b=some ((opP s op a b).1,net (opP s op a b).2):=by
 have hnl:=negs_lits hb;have hla:litN (lines s.1) (a.getD (a.length-1) 0)=true:=ha _ (getD_mem O);rcases Iy ho with rfl|rfl|rfl|rfl|rfl|rfl|rfl|rfl|rfl|rfl|rfl|rfl|rfl|rfl
 all_goals unfold YH opP
 all_goals simp only[Int.reduceBEq,Int.reduceEq,Zhn,Zio,ZhE,ZfB,ZfR,ZfK,Zf9]
 ·rw[PP hs O hab ha hb (XH hs)];rfl
 ·rw[spec_not hs.lines1 O hb];simp only[Zf9];rw[PP hs O (by rw[negs_len];exact hab) ha hnl (Sq hs)];rfl
 ·rw[ZbE hs hab O ha hb];rfl
 ·rw[DD hs hab O ha hb];rfl
 ·rw[DD hs hab O ha hb];rfl
 ·have h:=MU (fuel:=fuel) hs hab hl (KR ha hb) (G:=Zm fuel) (λs' p hc hg hp=>have h:=WW ha hb (s':=s') hg hp;TK hc h.1 h.2);rw[h];rfl
 ·have h:=MU (fuel:=fuel) hs hab hl (FP ha hb) (G:=Z8 fuel) (λs' p hc hg hp=>have h:=WW ha hb (s':=s') hg hp;Kw hc h.1 h.2);rw[h];rfl
 ·have h:=MU (fuel:=fuel) hs hab hl (JD ha hb) (G:=Zy fuel) (λs' p hc hg hp=>have h:=WW ha hb (s':=s') hg hp;Ma hc h.1 h.2);rw[h];rfl
 ·rw[Nh hs hab hl hw ha hb (XH hs) rfl];rfl
 ·rw[Nh hs hab hl hw ha hb (XH hs) rfl];rfl
 ·rw[Nh hs hab hl hw ha hb hla (by rw[ifp,Pg hw O];rfl)];rfl
 ·have h:=Zdx (fuel:=fuel) hs hab hl ha hb;rw[h];rfl
 ·rw[GG hs hab hl ha hb];rfl
 ·rw[HZ hs.lines1 hw O ha,HZ hs.lines1 O O hb];simp only[Zf9];rw[GG hs (by rw[Tm,Tm];exact hab) (by rw[Tm];exact hl) (Tf O ha) (Tf O hb)];rfl
theorem impl_op{m:D.builder}(hm:RelB m s):∃m',Yr fuel m op a b=some ((opP s op a b).1,m')/\RelB m' (opP s op a b).2:=by
 have hnl:=negs_lits hb;have hla:litN (lines s.1) (a.getD (a.length-1) 0)=true:=ha _ (getD_mem O);rcases Iy ho with rfl|rfl|rfl|rfl|rfl|rfl|rfl|rfl|rfl|rfl|rfl|rfl|rfl|rfl
 all_goals unfold Yr opP
 all_goals simp only[Int.reduceBEq,Int.reduceEq,Zhn,Zio,ZhE,ZfB,ZfR,ZfK,Zf9]
 ·obtain⟨m1,h1,r1⟩:=PL (fuel:=fuel) hs hm O hab ha hb (XH hs);rw[h1];exact⟨m1,rfl,r1⟩
 ·rw[impl_opp hs.lines1 O hb];simp only[Zf9];obtain⟨m1,h1,r1⟩:=PL (fuel:=fuel) hs hm O (by rw[negs_len];exact hab) ha hnl (Sq hs);rw[h1];exact⟨m1,rfl,r1⟩
 ·obtain⟨m1,h1,r1⟩:=Zc0 (fuel:=fuel) hs hab O ha hb hm;rw[h1];exact⟨m1,rfl,r1⟩
 ·obtain⟨m1,h1,r1⟩:=Dk (fuel:=fuel) hs hab O ha hb hm;rw[h1];exact⟨m1,rfl,r1⟩
 ·obtain⟨m1,h1,r1⟩:=Dk (fuel:=fuel) hs hab O ha hb hm;rw[h1];exact⟨m1,rfl,r1⟩
 ·obtain⟨m1,h1,r1⟩:=MW (fuel:=fuel) hs hab hl (KR ha hb) (G:=Zo) (λs' p hc hg hp m hm=>have h:=WW ha hb (s':=s') hg hp;TS hm hc h.1 h.2) hm;rw[mk?_len aD];simp only[Zf9];rw[h1];exact⟨m1,rfl,r1⟩
 ·obtain⟨m1,h1,r1⟩:=MW (fuel:=fuel) hs hab hl (FP ha hb) (G:=ZU) (λs' p hc hg hp m hm=>have h:=WW ha hb (s':=s') hg hp;KG hc h.1 h.2 m hm) hm;rw[mk?_len aD];simp only[Zf9];rw[h1];exact⟨m1,rfl,r1⟩
 ·obtain⟨m1,h1,r1⟩:=MW (fuel:=fuel) hs hab hl (JD ha hb) (G:=ZO) (λs' p hc hg hp m hm=>have h:=WW ha hb (s':=s') hg hp;NA hc h.1 h.2 m hm) hm;rw[mk?_len aD];simp only[Zf9];rw[h1];exact⟨m1,rfl,r1⟩
 ·obtain⟨m1,h1,r1⟩:=Nj (fuel:=fuel) (op:=11) hs hab hl hw ha hb (XH hs) rfl hm;rw[h1];exact⟨m1,rfl,r1⟩
 ·obtain⟨m1,h1,r1⟩:=Nj (fuel:=fuel) (op:=12) hs hab hl hw ha hb (XH hs) rfl hm;rw[h1];exact⟨m1,rfl,r1⟩
 ·obtain⟨m1,h1,r1⟩:=Nj (fuel:=fuel) (op:=13) hs hab hl hw ha hb hla (by rw[ifp,Pg hw O];rfl) hm;rw[h1];exact⟨m1,rfl,r1⟩
 ·obtain⟨m1,h1,r1⟩:=ZdN (fuel:=fuel) hs hab hl ha hb hm;rw[h1];exact⟨m1,rfl,r1⟩
 ·obtain⟨m1,h1,r1⟩:=Gd (fuel:=fuel) hs hab hl ha hb hm;rw[h1];exact⟨m1,rfl,r1⟩
 ·rw[GA hs.lines1 hw O ha,GA hs.lines1 O O hb];simp only[Zf9];obtain⟨m1,h1,r1⟩:=Gd (fuel:=fuel) hs (by rw[Tm,Tm];exact hab) (by rw[Tm];exact hl) (Tf O ha) (Tf O hb) hm;rw[h1];exact⟨m1,rfl,r1⟩
end
end Go.Proofs.YtjhiajehpjpibaaGreatDoor.Cc
end
section
namespace Go.Proofs.YtjhiajehpjpibaaGreatDoor
open Go.GL
class FV(n:Nat):Prop where
 le:4194400<=n
def fuel0:Nat:=4195400
instance:FV fuel0:=⟨by decide⟩
def lt_fuel{n fuel:Nat}[q:FV fuel](h:n<=1048576:=by omega):n<fuel:=by have:=q.le;omega
variable{fuel:Nat}[FV fuel]
def Gr{p q:List Int}(h:p.length<=1048576):RJ fuel p q=some (decide (p=q)):=KX O (lt_fuel h)
theorem QF{α:Type}{l:List α}{f:α->Option Bool}{b:α->Bool}(hf:∀x∈l,f x=some (b x))(hb:l.length<=9223372036854775807):∀(d i:Nat),i+d=l.length->∀n,d<n->
  iterN (λ(s1:Int)=>if(decide (s1<(len l)))then(get? l s1).bind λx1=>(f x1).bind λx2=>if(!x2)then some (.inr (.inr false))else some (.inl ((w64 (s1+1))))else some (.inr (.inl ()))) n (i:Int)=some (if(l.drop i).all b then(.inl ():Unit⊕Bool)else .inr false)
 |0,i,hi,n,hn=>by
  obtain⟨n,rfl⟩:∃j,n=j+1:=⟨n-1,by omega⟩;unfold iterN;rw[ZfD ai];simp[ZgK (show l.length<=i by omega)]
 | d+1,i,hi,n,hn=>by
  obtain⟨n,rfl⟩:∃j,n=j+1:=⟨n-1,by omega⟩;have hp:i<l.length:=by omega
  unfold iterN;rw[ZfC ai,get?_nat,ZfA hp];simp only[Zf9];rw[hf _ (Zgn hp),Zgc hp];simp only[Zf9,ZhQ];by_cases h:b l[i]=true
  ·rw[ZfD (by simp[h])];simp only;rw[Zb,show((i:Int)+1)=((i+1:Nat):Int) by omega,QF hf hb d (i+1) O n O];simp only[h,Zgk]
  ·rw[ZfC (by simp[h])];simp[h]
def ZaT{l:List D.Ins}{m:Int}(hl:l.length<=9223372036854775807)(h0:0<=m)(h1:m<=1048576):Qf l m=some (if m-l.length<0 then-1 else m-l.length):=by
 unfold Qf;rw[Za,Zb];by_cases h:m-(l.length:Int)<0
 ·rw[ZfC aA,ZfC h]
 ·rw[ZfD aA,ZfD h]
def Fv{x:D.Program}{m:Int}(hx:PT x)(h0:0<=m)(h1:m<=1048576):∃r,UK x m=some r/\(r<0\/0<=r/\r<=1048576/\x.Code.length<=1048576):=by
 obtain⟨-,-,-,hr,-⟩:=hx;unfold UK;rw[ZaT hr h0 h1];simp only[Zf9];by_cases c1:m-(x.Code.length:Int)<0
 ·rw[ZfC c1];exact⟨_,rfl,.inl O⟩
 rw[ZfD c1,ZfD aP];exact⟨_,rfl,.inr ⟨by omega,by omega,by omega⟩⟩
def Zba{l:List D.Ins}(h:l.length<=1048576):RX fuel l=some l:=by
 unfold RX;rw[mk?_len aD];simp only[Zf9,Nl];rw[CP O (lt_fuel h)];rfl
def Fh{x:D.Program}(h:x.Code.length<=1048576):XL fuel x=some x:=by
 unfold XL;rw[Zba h];rfl
def Zdc(x y:D.Ins):Pd x y=some (decide (x=y)):=by
 unfold Pd;cases x;cases y;simp only[D.Ins.mk.injEq];grind
def Zbb{p q:List D.Ins}(h:p.length<=1048576):Qg fuel p q=some (decide (p=q)):=by
 unfold Qg;simp only[Zdc,Zf9];exact KX O (lt_fuel h)
def IM{x:D.Program}(h:x.Code.length<=1048576):UE fuel x x=some true:=by
 unfold UE;rw[Zbb h];simp
theorem Ak{w:Int}(h1:1<=w)(h2:w<=16):∃m:Int,shl? 1 w=some m/\shl? 1 (IntKind.u64.wrap w)=some m/\w64 (m-1)=m-1:=by
 have:w=1\/w=2\/w=3\/w=4\/w=5\/w=6\/w=7\/w=8\/w=9\/w=10\/w=11\/w=12\/w=13\/w=14\/w=15\/w=16:=by omega
 rcases this with rfl|rfl|rfl|rfl|rfl|rfl|rfl|rfl|rfl|rfl|rfl|rfl|rfl|rfl|rfl|rfl<;>exact⟨_,rfl,by decide,by decide⟩
def MK(w v:Int):∃b,ZE w v=some b/\Yj w v=some b:=by
 unfold ZE Yj Zc ZK;by_cases h:1<=w/\w<=16
 ·obtain⟨m,h1,h2,h3⟩:=Ak h.1 h.2;refine⟨decide (0<=v)&&decide (v<m),?_,?_⟩
  ·simp only[ge_iff_le,h.1,h.2,decide_true,ZgX,Zf9,ZfR,h1,h3,Zgk,Option.some.injEq];rw[ZgS];simp only[ZfF,ZfN];omega
  ·by_cases hv:0<=v
   ·simp[h.1,h.2,hv,h2]
   ·simp[h.1,h.2,hv]
 ·refine⟨false, ?_, ?_⟩
  ·by_cases a:1<=w
   ·have b:¬w<=16:=λb=>h ⟨a,b⟩;simp[a,b]
   ·simp[a]
  ·by_cases a:1<=w
   ·have b:¬w<=16:=λb=>h ⟨a,b⟩;simp[a,b]
   ·simp[a]
def Ay{c:Bool}{b:Bool}:(if c=true then some b else some default)=some (if c=true then b else default):=by split<;>rfl
def Ib{c:Bool}{b:Bool}:(if c=true then some default else some b)=some (if c=true then default else b):=by split<;>rfl
def EL(p:D.Ins)(w n:Int):∃b,WL p w n=some b/\Te p w n=some b:=by
 obtain⟨wb,hw1,hw2⟩:=MK w p.B;have hr:∀a,YR a=some (decide (0<=a/\a<=3)):=by
  intro a;simp[YR,Zc]
 have hr':∀a,Wm a=some (decide (0<=a/\a<=3)):=by
  intro a;simp only[Wm,Zip];grind
 have hi:∀a b c,Zc a b c=some (decide (b<=a)&&decide (a<=c)):=by
  intro a b c;simp[Zc]
 have ht:∀a,Xq a=some (decide (3<=a)&&decide (a<=16)):=by
  intro a;simp[Xq]
 obtain⟨op,a,b,c⟩:=p;simp only at hw1 hw2;unfold WL Te;simp only[hr,hr',hi,ht,hw1,hw2,Zf9,Ay];by_cases e1:op=1
 ·subst e1;grind
 by_cases e2:op=2
 ·subst e2;grind
 by_cases e3:op=3
 ·subst e3;grind
 by_cases e4:op=4
 ·subst e4;grind
 by_cases e5:op=5
 ·subst e5;grind
 by_cases e6:op=6
 ·subst e6;grind
 by_cases e7:op=7
 ·subst e7;grind
 by_cases e8:op=8
 ·subst e8;grind
 by_cases e9:op=9
 ·subst e9;grind
 by_cases e10:op=10
 ·subst e10;grind
 by_cases e11:op=11
 ·subst e11;grind
 by_cases e12:op=12
 ·subst e12;grind
 by_cases e13:op=13
 ·subst e13;grind
 by_cases e14:op=14
 ·subst e14;grind
 simp[e1,e2,e3,e4,e5,e6,e7,e8,e9,e10,e11,e12,e13,e14]
def insB(w n:Int)(p:D.Ins):Bool:=(WL p w n).getD false
def ZcN(w n:Int)(p:D.Ins):WL p w n=some (insB w n p):=by
 obtain⟨b,h,-⟩:=EL p w n;simp[insB,h]
def ZcR(w n:Int)(p:D.Ins):Te p w n=some (insB w n p):=by
 obtain⟨b,h,h'⟩:=EL p w n;simp[insB,h,h']
def wordB(w v:Int):Bool:=(ZE w v).getD false
theorem YM(w v:Int):ZE w v=some (wordB w v):=by
 obtain⟨b,h,-⟩:=MK w v;simp[wordB,h]
def Wp(w v:Int):Yj w v=some (wordB w v):=by
 obtain⟨b,h,h'⟩:=MK w v;simp[wordB,h,h']
def progB(x:D.Program):Bool:=
 decide (2<=x.W/\x.W<=8)&&decide (1<=x.Mem/\x.Mem<=6)&&wordB x.W x.Mem&&decide (0<=x.In/\x.In<=3)&&decide (1<=(x.Code.length:Int)/\(x.Code.length:Int)<=40)&&x.Code.all (insB x.W x.Code.length)
def MH{x:D.Program}(h:x.Code.length<=1048576):Wx fuel x=some (progB x):=by
 unfold Wx;have hi:∀a b c,Zc a b c=some (decide (b<=a/\a<=c)):=by
  intro a b c;simp[Zc]
 have hl:=QF (l:=x.Code) (f:=λp=>WL p x.W (len x.Code)) (b:=insB x.W x.Code.length) (λp _=>ZcN _ _ p) O x.Code.length 0 O fuel (lt_fuel h);rw[show((0:Nat):Int)=0 from rfl]at hl;simp only[hi,YM,Zf9,Ib];rw[hl,Za];unfold progB;simp only[ZgN];cases x.Code.all (insB x.W x.Code.length)<;>cases wordB x.W x.Mem<;>simp only[Zf9,ZfR,ZfK,ZfB]<;>grind
def Zav{x:D.Program}(h:x.Code.length<=1048576):UL fuel x=some (progB x):=by
 unfold UL;have hl:=QF (l:=x.Code) (f:=λp=>Te p x.W (len x.Code)) (b:=insB x.W x.Code.length) (λp _=>ZcR _ _ p) O x.Code.length 0 O fuel (lt_fuel h);rw[show((0:Nat):Int)=0 from rfl]at hl;simp only[QJ,Wp,Zf9,Ib];rw[hl,Za];unfold progB;simp only[ZgN];clear hl;by_cases a1:2<=x.W<;>by_cases a2:x.W<=8<;>by_cases a3:1<=(x.Code.length:Int)<;>by_cases a4:(x.Code.length:Int)<=40<;>simp only[ge_iff_le,a1,a2,a3,a4,decide_true,decide_false,ZgG,Ziv,Zgk,Zhd,ZgX,and_self,Zh6,and_false]<;>
  cases x.Code.all (insB x.W x.Code.length)<;>cases wordB x.W x.Mem<;>simp only[Zf9,ZfR,ZfK,ZfB,Zip]<;>grind
theorem Zr{σt ρt:Type}{B:σt->Option (σt⊕ρt)}{s:σt}{r:ρt}{n:Nat}(h:B s=some (.inr r))(hn:0<n):iterN B n s=some r:=by
 obtain⟨m,rfl⟩:∃m,n=m+1:=⟨n-1,by omega⟩;rw[iterN,h]
def YB{σt ρt:Type}{B:σt->Option (σt⊕ρt)}{s s':σt}{n:Nat}(h:B s=some (.inl s')):iterN B (n+1) s=iterN B n s':=by
 rw[iterN,h]
theorem UV(s:Str):Str.eqb s s=true:=by unfold Str.eqb;simp
theorem Hy{S ρ α σ:Type}{l:List α}{B:S->Option (S⊕ρ)}(enc:Nat->σ->S)(I:List α->σ->Prop)(R:ρ->Prop)
  (hs:∀k x xs a,k<l.length->l[k]? =some x->l.length=k+(x::xs).length->I (x::xs) a->(∃a',B (enc k a)=some (.inl (enc (k+1) a'))/\I xs a')\/∃r,B (enc k a)=some (.inr r)/\R r)
  (he:∀a,I [] a->∃r,B (enc l.length a)=some (.inr r)/\R r):
  ∀(ys:List α)(k:Nat)(a:σ)(n:Nat),l.drop k=ys->k<=l.length->I ys a->ys.length<n->∃r,iterN B n (enc k a)=some r/\R r
 | [],k,a,n,hd,hk,hI,hn=>by
  obtain⟨n,rfl⟩:∃j,n=j+1:=⟨n-1,by omega⟩;have:k=l.length:=by
   have:=congrArg List.length hd;simp at this;omega
  subst this;obtain⟨r,h1,h2⟩:=he a hI;exact⟨r,by unfold iterN;rw[h1],h2⟩
 | x::xs,k,a,n,hd,hk,hI,hn=>by
  obtain⟨n,rfl⟩:∃j,n=j+1:=⟨n-1,by omega⟩;have hl:l.length=k+(x::xs).length:=by
   have:=congrArg List.length hd;simp at this⊢;omega
  have hk':k<l.length:=by simp at hl;omega
  have hx:l[k]? =some x:=by
   have h0:(l.drop k)[0]? =some x:=by rw[hd];rfl
   rw[Zg1]at h0;simpa using h0
  rcases hs k x xs a hk' hx hl hI with⟨a',h1,h2⟩|⟨r,h1,h2⟩
  ·obtain⟨r,g1,g2⟩:=Hy enc I R hs he xs (k+1) a' n (by rw[<-List.drop_drop,hd];rfl) O h2 (by simp at hn;omega);exact⟨r,by unfold iterN;rw[h1];exact g1,g2⟩
  ·exact⟨r,by unfold iterN;rw[h1],h2⟩
def Va{S ρ α σ:Type}{l:List α}{B:S->Option (S⊕ρ)}(enc:Nat->σ->S)(I:List α->σ->Prop)(R:ρ->Prop)
  (hs:∀k x xs a,k<l.length->l[k]? =some x->l.length=k+(x::xs).length->I (x::xs) a->(∃a',B (enc k a)=some (.inl (enc (k+1) a'))/\I xs a')\/∃r,B (enc k a)=some (.inr r)/\R r)
  (he:∀a,I [] a->∃r,B (enc l.length a)=some (.inr r)/\R r){a:σ}{n:Nat}(hI:I l a)(hn:l.length<n):∃r,iterN B n (enc 0 a)=some r/\R r:=
 Hy enc I R hs he l 0 a n rfl (Zg9 _) hI hn
def Y5{S ρ α σ γ:Type}{l:List α}{B:S->Option (S⊕ρ)}{K:ρ->Option γ}{z:Option γ}(enc:Nat->σ->S)(I:List α->σ->Prop)(R:ρ->Prop)
  (hs:∀k x xs a,k<l.length->l[k]? =some x->l.length=k+(x::xs).length->I (x::xs) a->(∃a',B (enc k a)=some (.inl (enc (k+1) a'))/\I xs a')\/∃r,B (enc k a)=some (.inr r)/\R r)
  (he:∀a,I [] a->∃r,B (enc l.length a)=some (.inr r)/\R r){a:σ}{n:Nat}(hI:I l a)(hn:l.length<n)(h:∀r,R r->K r=z):(iterN B n (enc 0 a)).bind K=z:=by
 obtain⟨r,h1,h2⟩:=Va enc I R hs he hI hn;rw[h1];exact h r h2
def VQ{S ρ α σ:Type}{l:List α}{B:S->Option (S⊕ρ)}{z:Option ρ}(enc:Nat->σ->S)(I:List α->σ->Prop)(R:ρ->Prop)
  (hs:∀k x xs a,k<l.length->l[k]? =some x->l.length=k+(x::xs).length->I (x::xs) a->(∃a',B (enc k a)=some (.inl (enc (k+1) a'))/\I xs a')\/∃r,B (enc k a)=some (.inr r)/\R r)
  (he:∀a,I [] a->∃r,B (enc l.length a)=some (.inr r)/\R r){a:σ}{n:Nat}(hI:I l a)(hn:l.length<n)(h:∀r,R r->some r=z):iterN B n (enc 0 a)=z:=by
 obtain⟨r,h1,h2⟩:=Va enc I R hs he hI hn;rw[h1];exact h r h2
def Hl{S ρ α σ γ:Type}{l:List α}{B:S->Option (S⊕ρ)}{K:ρ->Option γ}{z:Option γ}(enc:Nat->σ->S)(I:List α->σ->Prop)(R:ρ->Prop)
  (hs:∀k x xs a,k<l.length->l[k]? =some x->l.length=k+(x::xs).length->I (x::xs) a->(∃a',B (enc k a)=some (.inl (enc (k+1) a'))/\I xs a')\/∃r,B (enc k a)=some (.inr r)/\R r)
  (he:∀a,I [] a->∃r,B (enc l.length a)=some (.inr r)/\R r){a:σ}{n:Nat}(hI:I l a)(hn:l.length<n)(h:(iterN B n (enc 0 a)).bind K=z):∃r,R r/\K r=z:=by
 obtain⟨r,h1,h2⟩:=Va enc I R hs he hI hn;rw[h1]at h;exact⟨r,h2,h⟩
def Gw{S ρ α σ γ:Type}{l:List α}{B:S->Option (S⊕ρ)}{K:ρ->Option γ}{P:Option γ->Prop}(enc:Nat->σ->S)(I:List α->σ->Prop)(R:ρ->Prop)
  (hs:∀k x xs a,k<l.length->l[k]? =some x->l.length=k+(x::xs).length->I (x::xs) a->(∃a',B (enc k a)=some (.inl (enc (k+1) a'))/\I xs a')\/∃r,B (enc k a)=some (.inr r)/\R r)
  (he:∀a,I [] a->∃r,B (enc l.length a)=some (.inr r)/\R r){a:σ}{n:Nat}(hI:I l a)(hn:l.length<n)(h:∀r,R r->P (K r)):P ((iterN B n (enc 0 a)).bind K):=by
 obtain⟨r,h1,h2⟩:=Va enc I R hs he hI hn;rw[h1];exact h r h2
end Go.Proofs.YtjhiajehpjpibaaGreatDoor
end
section
namespace Go.Proofs.YtjhiajehpjpibaaGreatDoor
open Go.GL
variable{fuel:Nat}[FV fuel]
mutual
def msz:D.Term->Nat
 |⟨_,_,_,s,k⟩=>s.bytes.length+k.length+mszs k
def mszs:List D.Term->Nat
 |[]=>0
 |x::l=>msz x+mszs l
end
theorem Ux(t:D.Term):msz t=t.Name.bytes.length+t.Kids.length+mszs t.Kids:=by cases t;rw[msz]
theorem Uj(x:D.Term)(l:List D.Term):mszs (x::l)=msz x+mszs l:=by rw[mszs]
theorem SX:mszs []=0:=by rw[mszs]
theorem VU{x:D.Term}:∀{l:List D.Term},x∈l->msz x<=mszs l
 |y::l,h=>by
  rw[Uj];rcases ZfY.1 h with rfl|h
  ·omega
  ·have:=VU h;omega
def sml(l:List D.Term):Prop:=l.length+mszs l<=1048576
def smallP(x:D.Path):Prop:=sml x.Regs/\sml x.Mem/\x.Stack.length<=1048576/\sml x.Out/\sml x.Cond/\x.Turns.length<=1048576
end Go.Proofs.YtjhiajehpjpibaaGreatDoor
end
section
namespace Go.Proofs.YtjhiajehpjpibaaGreatDoor
open Go.GL
set_option maxRecDepth 100000
variable{fuel:Nat}[FV fuel]
mutual
def cnt:D.Term->Nat
 |⟨_,_,_,_,k⟩=>1+cnts k
def cnts:List D.Term->Nat
 |[]=>0
 |x::l=>cnt x+cnts l
end
def Xk(t:D.Term):cnt t=1+cnts t.Kids:=by cases t;rw[cnt]
def Ug(x:D.Term)(l:List D.Term):cnts (x::l)=cnt x+cnts l:=by rw[cnts]
def Vp:cnts []=0:=by rw[cnts]
theorem WC{x:D.Term}:∀{l:List D.Term},x∈l->cnt x<=cnts l
 |y::l,h=>by
  rw[Ug];rcases ZfY.1 h with rfl|h
  ·omega
  ·have:=WC h;omega
def lf(m:Int)(c:Nat):Int:=if m-c<0 then-1 else m-c
theorem few:∀(n:Nat)(t:D.Term)(m:Int),msz t<=1048576->0<=m->m<=240->1048580+m<=n->Vv n t m=some (decide (lf m (cnt t)>=0),lf m (cnt t)):=by
 intro n
 induction n with
 |zero=>omega
 |succ n ih=>
  intro t m hs h0 h1 hn;have hz:=Ux t;unfold Vv;rw[Zb];refine Y5 (l:=t.Kids) (n:=n) (σ:=Int) (λk a=>((k:Int),a)) (λys a=>-1<=a/\a<=m-1/\lf a (cnts ys)=lf (m-1) (cnts t.Kids)/\∀x∈ys,x∈t.Kids) (λr=>r=lf (m-1) (cnts t.Kids))
    (λk x xs a hk' hx hlen⟨i0,i1,i2,i3⟩=>by
     have:=VU (i3 x U);rw[Ug]at i2;simp only;by_cases ha:0<=a
     ·refine .inl ⟨lf a (cnt x), ?_, ?_, ?_, ?_,λy hy=>i3 y ao⟩
      ·rw[ZfC ai,get?_nat,hx];simp only[Zf9];rw[ih x a O ha O O,Zb];rfl
      ·unfold lf;split<;>omega
      ·unfold lf;split<;>omega
      ·rw[<-i2];unfold lf;split<;>split<;>split<;>omega
     ·refine .inr ⟨a,by rw[ZfD aa], ?_⟩
      rw[<-i2];unfold lf;split<;>omega)
    (λa⟨i0,i1,i2,_⟩=>by
     rw[Vp]at i2;rw[ZfD ar];refine⟨_,rfl,?_⟩
     rw[<-i2];unfold lf;split<;>omega) (a:=m-1) ⟨by omega,by omega,rfl,λx hx=>hx⟩ O λr g2=>?_
  rw[g2];have e:lf (m-1) (cnts t.Kids)=lf m (cnt t):=by rw[Xk];unfold lf;split<;>split<;>omega
  simp only[Zf9,e]
def okF(k:Nat):List UInt8->Bool
 |[]=>true
 |b::l=>(decide (97<=b.toNat/\b.toNat<=122)||(decide (k≠0)&&decide (48<=b.toNat/\b.toNat<=57)))&&okF (k+1) l
def DK(k:Nat)(b:UInt8)(l:List UInt8):okF k (b::l)=((decide (97<=b.toNat/\b.toNat<=122)||(decide (k≠0)&&decide (48<=b.toNat/\b.toNat<=57)))&&okF (k+1) l):=rfl
def nameB(s:Str):Bool:=okF 0 s.bytes&&decide (1<=s.bytes.length/\s.bytes.length<=8)
def EZ{s:Str}{k:Nat}{b:UInt8}(h:s.bytes[k]? =some b):sidx? s (k:Int)=some (b.toNat:Int):=by
 simp_all[sidx?,ifp]
def Wz(a b c:Int):Zc a b c=some (decide (b<=a/\a<=c)):=by simp[Zc]
def ZaG{n:Nat}{s:Str}(hl:s.bytes.length<=1048576)(hn:s.bytes.length<n):PQ n s=some (nameB s):=by
 refine Y5 (l:=s.bytes) (n:=n) (σ:=Unit) (λk _=>(k:Int)) (λys _=>okF (s.bytes.length-ys.length) ys=okF 0 s.bytes) (λr=>r=if okF 0 s.bytes then(.inl ():Unit⊕Bool)else .inr false)
  (λk x xs a hk' hx hlen hi=>by
   have e1:s.bytes.length-(x::xs).length=k:=by omega
   have e2:s.bytes.length-xs.length=k+1:=by grind
   rw[e1]at hi;rw[e2];have hb:=x.toNat_lt;rw[<-hi];simp only[EZ hx,Zf9,Wz];rw[ZfC aq,Zb (x:=(x.toNat:Int)),Zb (x:=(k:Int)+1)];have wx:w64 (x.toNat:Int)=x.toNat:=Zb;rw[DK];by_cases c1:97<=x.toNat/\x.toNat<=122
   ·refine .inl ⟨(), ?_, ?_⟩
    ·have:((97:Int)<=x.toNat/\(x.toNat:Int)<=122):=by omega
     simp[this]
    ·simp[c1]
   ·have c1':¬((97:Int)<=x.toNat/\(x.toNat:Int)<=122):=by omega
    by_cases c2:k=0
    ·subst c2;exact .inr ⟨.inr false,by simp[c1',wx],by simp[c1]⟩
    ·by_cases c3:48<=x.toNat/\x.toNat<=57
     ·have:((48:Int)<=x.toNat/\(x.toNat:Int)<=57):=by omega
      exact .inl ⟨(),by simp[c1',c2,this,wx],by simp[c1,c2,c3]⟩
     ·have:¬((48:Int)<=x.toNat/\(x.toNat:Int)<=57):=by omega
      exact .inr ⟨.inr false,by simp[c1',c2,this,wx],by simp[c1,c2,c3]⟩)
  (λa hi=>by
   rw[ZfD ar]
   rw[<-hi];simp[okF]) (a:=()) U hn λr g2=>?_
 rw[g2];unfold nameB;cases okF 0 s.bytes
 ·simp
 ·simp only[Wz,Za,ZfR,Zf9,Zgk,Option.some.injEq,decide_eq_decide];omega
def shB(op w m:Int)(name:Str)(ws:List Int):Bool:=
 if op=0 then ws.isEmpty&&wordB w m
 else if op=22 then ws.isEmpty&&nameB name
 else if 1<=op/\op<=2 then(match ws with|[a]=>a==w|_=>false)
 else if 3<=op/\op<=13 then(match ws with|[a,b]=>a==w&&b==w|_=>false)
 else if 14<=op/\op<=16 then(match ws with|[a,b]=>a==b&&w==1|_=>false)
 else if op=17 then(match ws with|[a,b,c]=>a==1&&b==w&&c==w|_=>false)
 else if op=18 then(match ws with|[a,b]=>a+b==w|_=>false)
 else if op=19 then(match ws with|[a]=>decide (0<=m/\m<=16)&&decide (m+w<=a)|_=>false)
 else if 20<=op/\op<=21 then(match ws with|[a]=>decide (a<=w)|_=>false)
 else false
def locB(t:D.Term):Bool:=
 decide (1<=t.W/\t.W<=16)&&(Str.eqb t.Name ⟨[]⟩||t.Op==22)&&(t.N==0||t.Op==0||t.Op==19)&&shB t.Op t.W t.N t.Name (t.Kids.map (·.W))
mutual
def nodeB:D.Term->Bool
 |⟨o,w,m,s,k⟩=>locB ⟨o,w,m,s,k⟩&&nodesB k
def nodesB:List D.Term->Bool
 |[]=>true
 |x::l=>nodeB x&&nodesB l
end
theorem X3(t:D.Term):nodeB t=(locB t&&nodesB t.Kids):=by cases t;rw[nodeB]
theorem Ye:∀l:List D.Term,nodesB l=l.all nodeB
 |[]=>by rfl
 |x::l=>by rw[nodesB,Ye l];rfl
theorem ZH{t:D.Term}(h:nodeB t=true):1<=t.W/\t.W<=16:=by
 simp_all[X3,locB,ZfF,ZfN]
def pad3:List D.Term->List Int
 |[]=>[0,0,0]
 |[a]=>[a.W,0,0]
 |[a,b]=>[a.W,b.W,0]
 |a::b::c::_=>[a.W,b.W,c.W]
def ZeA{l:List D.Term}{n:Nat}(hn:4<=n):iterN (λ(s2:Int×(List Int))=>if((decide (s2.1<(len l)))&&(decide (s2.1<3)))then(get? l s2.1).bind λx4=>(set? s2.2 s2.1 x4.W).bind λx5=>some (.inl ((w64 (s2.1+1)),x5))else some (.inr (s2.2))) n (0,([0,0,0]:List Int))=some (pad3 l):=by
 obtain⟨n,rfl⟩:∃j,n=j+4:=⟨n-4,by omega⟩;rcases l with _|⟨a,_|⟨b,_|⟨c,l⟩⟩⟩
 ·rfl
 ·rfl
 ·rfl
 ·have h1:(0:Int)<(l.length:Int)+1+1+1:=by omega
  have h2:(1:Int)<(l.length:Int)+1+1+1:=by omega
  have h3:(2:Int)<(l.length:Int)+1+1+1:=by omega
  simp_all[iterN,len,pad3,get?,set?,Zb]
end Go.Proofs.YtjhiajehpjpibaaGreatDoor
end
section
namespace Go.Proofs.YtjhiajehpjpibaaGreatDoor
open Go.GL
set_option maxRecDepth 100000
variable{fuel:Nat}[FV fuel]
set_option maxHeartbeats 2000000 in
theorem Zag:∀(n:Nat)(t:D.Term),msz t<=1048576->1048580+cnt t<=n->X6 n t=some (nodeB t):=by
 intro n
 induction n with
 |zero=>intro t _ _;omega
 | succ n ih=>
  intro t hs hn;have hz:=Ux t;have hc:=Xk t;have ih':∀x∈t.Kids,X6 n x=some (nodeB x):=λx hx=>by
   have:=VU hx;have:=WC hx;exact ih x O O
  have e0:∀c:Bool,nodeB t=(decide (1<=t.W/\t.W<=16)&&(Str.eqb t.Name ⟨[]⟩||t.Op==22)&&(t.N==0||t.Op==0||t.Op==19)&&(nodesB t.Kids&&shB t.Op t.W t.N t.Name (t.Kids.map (·.W)))):=λ_=>by
   rw[X3];unfold locB;cases nodesB t.Kids<;>simp
  have e0:=e0 true;unfold X6;rw[Wz];simp only[Zf9];have hx:∀a b c d e f:Bool,((!a||(!b&& !c))||((!d&& !e)&& !f))= !(a&&(b||c)&&(d||e||f)):=by decide
  rw[show((!decide (1<=t.W/\t.W<=16)||((!Str.eqb t.Name ⟨[]⟩)&&(t.Op !=22)))||(((t.N !=0)&&(t.Op !=0))&&(t.Op !=19)))=_ from hx _ _ _ _ _ _];cases c:(decide (1<=t.W/\t.W<=16)&&(Str.eqb t.Name ⟨[]⟩||t.Op==22)&&(t.N==0||t.Op==0||t.Op==19))
  ·rw[e0,c];rfl
  ·have hw:1<=t.W/\t.W<=16:=by
    simp only[ZfF,ZfN]at c;exact c.1.1
   rw[e0,c,ifn,Zgk];have hl:=QF (l:=t.Kids) (f:=λx=>X6 n x) (b:=nodeB) ih' O t.Kids.length 0 O n O;rw[show((0:Nat):Int)=0 from rfl]at hl;rw[hl,ZgN,Ye];by_cases ha:t.Kids.all nodeB=true
   ·have hkw:∀x∈t.Kids,1<=x.W/\x.W<=16:=λx hx=>ZH (ZfV.1 ha x hx);rw[ha];simp only[ZfR,Zf9,Zgk,Wz,YM,ZaG (show t.Name.bytes.length<=1048576 by omega) (show t.Name.bytes.length<n by omega)];rw[ZeA O];simp only[Zf9];clear hl ha e0 hx c ih ih' hz hc hs hn;obtain⟨op,w,m,nm,ks⟩:=t;simp only at hw hkw⊢;have g0:∀x y z:Int,get? [x,y,z] 0=some x/\get? [x,y,z] 1=some y/\get? [x,y,z] 2=some z:=λ_ _ _=>⟨rfl,rfl,rfl⟩;have e18:∀a b:Int,1<=a->a<=16->1<=b->b<=16->(w64 (a+b)==w)=(a+b==w):=λa b _ _ _ _=>by rw[Zb]
    have e19:∀x:Int,0<=m->m<=16->decide (w64 (m+w)<=x)=decide (m+w<=x):=λx _ _=>by rw[Zb]
    rcases ks with _|⟨a,_|⟨b,_|⟨c,_|⟨d,l⟩⟩⟩⟩<;>simp only[pad3,Zgu,List.map_nil,Za,ZfS,ZgR,g0]<;>simp at hkw<;>unfold shB<;>grind(splits:=40) [Zb]
   ·simp[ha]
end Go.Proofs.YtjhiajehpjpibaaGreatDoor
end
section
namespace Go.Proofs.YtjhiajehpjpibaaGreatDoor
open Go.GL
variable{fuel:Nat}[FV fuel]
theorem Zcb:∀x:List UInt8,Op.bytesLess x x=false
 |[]=>rfl
 |a::x=>by simp[Op.bytesLess,Zcb x]
theorem Dz:∀x y z:List UInt8,Op.bytesLess x y=true->Op.bytesLess y z=true->Op.bytesLess x z=true
 |_,_,[]=>by intro _ h;cases ‹List UInt8› <;>simp[Op.bytesLess]at h
 |_,[],_::_=>by intro h _;cases ‹List UInt8› <;>simp[Op.bytesLess]at h
 |[],_::_,_::_=>by intro _ _;rfl
 | a::x,b::y,c::z=>by
  intro h1 h2;simp only[Op.bytesLess,Zgx,ZfN,ZfF,Zhc]at h1 h2⊢;rcases h1 with h1|⟨rfl,h1⟩
  ·rcases h2 with h2|⟨rfl,h2⟩
   ·exact .inl (UInt8.lt_trans h1 h2)
   ·exact .inl h1
  ·rcases h2 with h2|⟨rfl,h2⟩
   ·exact .inl h2
   ·exact .inr ⟨rfl,Dz x y z h1 h2⟩
theorem ZcE:∀x y:List UInt8,Op.bytesLess x y=false->x≠y->Op.bytesLess y x=true
 |[],[]=>λ_ h=>absurd rfl h
 |_::_,[]=>λ_ _=>rfl
 |[],_::_=>λh _=>by simp[Op.bytesLess]at h
 | a::x,b::y=>by
  intro h1 h2;simp only[Op.bytesLess,Zhe,decide_eq_false_iff_not,Zgx,ZfN,ZfF,Zhc]at h1⊢;by_cases e:a=b
  ·subst e;have:Op.bytesLess x y=false:=by simpa using h1.2
   exact .inr ⟨rfl,ZcE x y this (λh=>h2 (by rw[h]))⟩
  ·rcases UInt8.lt_or_lt_of_ne e with h|h
   ·exact absurd h h1.1
   ·exact .inl h
def toList_mk(l:List UInt8):(ByteArray.mk l.toArray).toList=l:=by
 exact(Lib.toList_data _)
def Eb(a b:Str):Str.ltb a b=Op.bytesLess a.bytes b.bytes:=by unfold Str.ltb;rw[toList_mk,toList_mk]
def Sw(a b:Str):Str.eqb a b=decide (a=b):=by
 unfold Str.eqb;rw[toList_mk,toList_mk];by_cases h:a=b
 ·subst h;simp
 ·have:a.bytes≠b.bytes:=λe=>h (by cases a;cases b;simpa using e);simp[h,this]
theorem ZbR(a:Str):Str.ltb a a=false:=by rw[Eb];exact Zcb _
theorem lt_trans{a b c:Str}(h1:Str.ltb a b=true)(h2:Str.ltb b c=true):Str.ltb a c=true:=by rw[Eb]at*;exact Dz _ _ _ h1 h2
theorem ZcM{a b:Str}(h1:Str.ltb a b=false)(h2:a≠b):Str.ltb b a=true:=by
 rw[Eb]at*;exact ZcE _ _ h1 λe=>h2 (by cases a;cases b;simpa using e)
mutual
def vrs:D.Term->List (Str×Int)
 |⟨o,w,_,s,k⟩=>if o=22 then[(s,w)]else vrss k
def vrss:List D.Term->List (Str×Int)
 |[]=>[]
 |x::l=>vrs x++vrss l
end
def VS(t:D.Term):vrs t=if t.Op=22 then[(t.Name,t.W)]else vrss t.Kids:=by cases t;rw[vrs]
theorem Xm(x:D.Term)(l:List D.Term):vrss (x::l)=vrs x++vrss l:=by rw[vrss]
def WX:vrss []=[]:=by rw[vrss]
def stp(g:List (Str×Int))(v:Str×Int):Option (List (Str×Int)):=
 match g.lookup v.1 with
 |some w=>if w=v.2 then some g else none
 |none=>some (v::g)
def runV(g:List (Str×Int)):List (Str×Int)->Option (List (Str×Int))
 |[]=>some g
 |v::l=>(stp g v).bind λg'=>runV g' l
theorem Dh(l m:List (Str×Int)):∀g,runV g (l++m)=(runV g l).bind λg'=>runV g' m:=by
 induction l with
 |nil=>intro g;rfl
 |cons v l ih=>
  intro g;simp only[List.cons_append,runV];cases stp g v with
  |none=>rfl
  |some g'=>simp only[Zf9];exact ih g'
def Ad{g g':List (Str×Int)}{v:Str×Int}(h:stp g v=some g'):g'.length<=g.length+1:=by
 unfold stp at h;split at h
 ·split at h
  ·cases h;omega
  ·cases h
 ·cases h;simp
theorem JO:∀{l g g':List (Str×Int)},runV g l=some g'->g'.length<=g.length+l.length
 |[],g,g',h=>by simp only[runV,Option.some.injEq]at h;subst h;simp
 |v::l,g,g',h=>by
  simp only[runV,Zgf]at h;obtain⟨g1,h1,h2⟩:=h;have:=Ad h1;have:=JO h2;simp only[ZfS];omega
theorem LA:∀{l g g':List (Str×Int)},runV g l=some g'->(∀p:Str×Int,g.lookup p.1=some p.2->g'.lookup p.1=some p.2)/\∀p∈l,g'.lookup p.1=some p.2
 |[],g,g',h=>by simp only[runV,Option.some.injEq]at h;subst h;exact⟨λp hp=>hp,λp hp=>by cases hp⟩
 | v::l,g,g',h=>by
  simp only[runV,Zgf]at h;obtain⟨g1,h1,h2⟩:=h;obtain⟨i1,i2⟩:=LA h2;have hv:g1.lookup v.1=some v.2:=by
   unfold stp at h1;split at h1
   ·rename_i w hw;split at h1
    ·rename_i e;cases h1;rw[hw,e]
    ·cases h1
   ·cases h1;rw[ZfZ];simp
  have hk:∀p:Str×Int,g.lookup p.1=some p.2->g1.lookup p.1=some p.2:=λp hp=>by
   unfold stp at h1;split at h1
   ·split at h1
    ·cases h1;exact hp
    ·cases h1
   ·rename_i hn;cases h1;have:p.1≠v.1:=λe=>by rw[e,hn]at hp;cases hp
    rw[ZfZ];have:(p.1==v.1)=false:=by simpa using this
    rw[this];exact hp
  refine⟨λp hp=>i1 p (hk p hp),λp hp=>?_⟩;rcases ZfY.1 hp with rfl|hp
  ·exact i1 p hv
  ·exact i2 p hp
def Rel(l:List D.Value)(g:List (Str×Int)):Prop:=
 l.Pairwise (λa b=>Str.ltb a.Name b.Name=true)/\l.length=g.length/\(∀v∈l,g.lookup v.Name=some v.W/\v.N=0)/\∀s w,g.lookup s=some w->∃v∈l,v.Name=s
def before(s:Str)(l:List D.Value):Nat:=(l.takeWhile λv=>Str.ltb v.Name s).length
def Ll(s:Str)(l:List D.Value):before s l<=l.length:=(List.takeWhile_sublist _).length_le
theorem OE{s:Str}:∀{l:List D.Value}{i:Nat}{v:D.Value},i<before s l->l[i]? =some v->Str.ltb v.Name s=true
 |[],i,v,h,hv=>by simp at hv
 | x::l,i,v,h,hv=>by
  unfold before at h;rw[List.takeWhile_cons]at h;split at h
  ·cases i with
   |zero=>simp at hv;subst hv;assumption
   |succ i=>exact OE (l:=l) (i:=i) (by unfold before;simpa using h) (by simpa using hv)
  ·simp at h
theorem OA{s:Str}:∀{l:List D.Value}{v:D.Value},l[before s l]? =some v->Str.ltb v.Name s=false
 |[],v,hv=>by simp at hv
 | x::l,v,hv=>by
  unfold before at hv;rw[List.takeWhile_cons]at hv;by_cases h:Str.ltb x.Name s=true
  ·rw[ZfC h]at hv;exact OA (l:=l) (by unfold before;simpa using hv)
  ·rw[ZfD h]at hv;simp at hv;subst hv;simpa using h
def Zdq{l:List D.Value}{s:Str}{n:Nat}(hl:l.length<=1048576)(hn:l.length<n):iterN (λ(s1:Int)=>(if(decide (s1<(len l)))then(get? l s1)else some default).bind λx1=>if((decide (s1<(len l)))&&(Str.ltb x1.Name s))then some (.inl ((w64 (s1+1))))else some (.inr (s1))) n (0)=some (before s l:Int):=by
 refine VQ (l:=l) (n:=n) (σ:=Unit) (λk _=>(k:Int)) (λys _=>l.length<=before s l+ys.length) (λr=>r=(before s l:Int))
  (λk x xs a hk' hx hlen hi=>by
   simp only[ZfS]at hlen hi;have hd:decide ((k:Int)<len l)=true:=by rw[Za];simp;omega
   rw[ZfC hd,get?_nat,hx];simp only[Zf9,hd,Zgk];by_cases c:Str.ltb x.Name s=true
   ·refine .inl ⟨(),by rw[ZfC c,Zb];rfl, ?_⟩;have:k≠before s l:=λe=>by
     rw[e]at hx;rw[OA hx]at c;cases c
    omega
   ·refine .inr ⟨(k:Int),by rw[ZfD c], ?_⟩;have:¬k<before s l:=λh=>c (OE h hx)
    omega)
  (λa hi=>by
   have hd:decide ((l.length:Int)<len l)=false:=by rw[Za];simp
   simp only[hd,ZfB,ZfK,Zf9,Zhd];have:=Ll s l
   exact⟨_,rfl,by simp at hi;omega⟩) (a:=()) O hn λr g2=>?_
 rw[g2]
theorem Rel.none{l:List D.Value}{g:List (Str×Int)}{s:Str}(h:Rel l g)(hn:∀v,l[before s l]? =some v->v.Name≠s):g.lookup s=none:=by
 cases e:g.lookup s with
 |none=>rfl
 | some w=>
  exfalso;obtain⟨v,hv,rfl⟩:=h.2.2.2 s w e;obtain⟨j,hj⟩:=Zg3.1 hv;rcases Nat.lt_trichotomy j (before v.Name l)with h1|h1|h1
  ·have:=OE h1 hj;rw[ZbR]at this;cases this
  ·rw[h1]at hj;exact hn v hj rfl
  ·obtain⟨hj',e2⟩:=ZfE.1 hj;have hu:l[before v.Name l]? =some l[before v.Name l]:=ZfA O;have h2:=OA hu;have h3:=ZgM.1 h.1 _ _ O hj' h1;rw[e2]at h3;rw[h2]at h3;cases h3
def Rel.put{l:List D.Value}{g:List (Str×Int)}{s:Str}{w:Int}(h:Rel l g)(hn:∀v,l[before s l]? =some v->v.Name≠s):Rel (l.take (before s l)++[⟨s,w,0⟩]++l.drop (before s l)) ((s,w)::g):=by
 have hno:=h.none hn;have hb:=Ll s l;have hlt:∀v∈l.take (before s l),Str.ltb v.Name s=true:=λv hv=>by
  obtain⟨j,hj⟩:=Zg3.1 hv;rw[Zgw]at hj;split at hj
  ·exact OE (by assumption) hj
  ·cases hj
 have hgt:∀v∈l.drop (before s l),Str.ltb s v.Name=true:=λv hv=>by
  obtain⟨j,hj⟩:=Zg3.1 hv;rw[Zg1]at hj;obtain⟨hj',e2⟩:=ZfE.1 hj;have hu:l[before s l]? =some l[before s l]:=ZfA O;have h1:=ZcM (OA hu) (hn _ hu);rcases Nat.eq_zero_or_pos j with rfl|hp
  ·simp only[Zij]at e2;rw[<-e2];exact h1
  ·have h3:=ZgM.1 h.1 _ _ O hj' (show before s l<before s l+j by omega);rw[e2]at h3;exact lt_trans h1 h3
 have hmem:∀v,v∈l.take (before s l)++[⟨s,w,0⟩]++l.drop (before s l)↔v=⟨s,w,0⟩\/v∈l:=λv=>by
  have:v∈l↔v∈l.take (before s l)\/v∈l.drop (before s l):=by
   rw[<-ZfG,ZgQ]
  simp only[ZfG,ZfL,this];grind
 have hp:(l.take (before s l)++l.drop (before s l)).Pairwise (λa b=>Str.ltb a.Name b.Name=true):=by rw[ZgQ];exact h.1
 rw[Zhf]at hp;refine⟨?_,?_,λv hv=>?_,λs' w' hs=>?_⟩
 ·rw[ZfO,Zhf];refine⟨hp.1,?_,λa ha b hb=>?_⟩
  ·rw[Zgq,Zhs];exact⟨λb hb=>hgt b hb,hp.2.1⟩
  ·rw[Zgq]at hb;rcases ZfY.1 hb with rfl|hb
   ·exact hlt a ha
   ·exact hp.2.2 a ha b hb
 ·have:=h.2.1;simp;omega
 ·rcases(hmem v).1 hv with rfl|hv
  ·simp
  ·obtain⟨h1,h2⟩:=h.2.2.1 v hv;have:v.Name≠s:=λe=>by rw[e,hno]at h1;cases h1
   rw[ZfZ];have:(v.Name==s)=false:=by simpa using this
   rw[this];exact⟨h1,h2⟩
 ·rw[ZfZ]at hs;by_cases e:s'=s
  ·exact⟨_,(hmem _).2 (.inl rfl),e.symm⟩
  ·have:(s'==s)=false:=by simpa using e
   rw[this]at hs;obtain⟨v,h1,h2⟩:=h.2.2.2 s' w' hs;exact⟨v,(hmem _).2 (.inr h1),h2⟩
theorem Zdv:∀n:Nat,(∀t:D.Term,msz t<n->(vrs t).length<=cnt t)/\∀l:List D.Term,l.length+mszs l<n->(vrss l).length<=cnts l:=by
 intro n
 induction n with
 |zero=>exact⟨λ_ h=>by omega,λ_ h=>by omega⟩
 | succ n ih=>
  have hT:∀t:D.Term,msz t<n+1->(∀l:List D.Term,l.length+mszs l<n+1->(vrss l).length<=cnts l)->(vrs t).length<=cnt t:=λt h hl=>by
   have:=Ux t;rw[VS,Xk];split
   ·simp
   ·have:=hl t.Kids O;omega
  have hL:∀l:List D.Term,l.length+mszs l<n+1->(vrss l).length<=cnts l:=λl h=>by
   cases l with
   |nil=>rw[WX,Vp];simp
   |cons x l=>
    rw[Uj]at h;simp only[ZfS]at h;rw[Xm,Ug,ZfI];have h1:=ih.1 x O;have h2:=ih.2 l O;omega
  exact⟨λt h=>hT t h hL,hL⟩
theorem Jl(t:D.Term):(vrs t).length<=cnt t:=(Zdv (msz t+1)).1 t O
theorem Ho:∀(n:Nat)(t:D.Term)(l:List D.Value)(g:List (Str×Int)),msz t<=1048576->Rel l g->g.length+(vrs t).length<=1000->1048580+cnt t<=n->
  ∃l' b,YZ n t l=some (l',b)/\(b=true->∃g',runV g (vrs t)=some g'/\Rel l' g')/\(b=false->runV g (vrs t)=none):=by
 intro n
 induction n with
 |zero=>intro t l g _ _ _ _;omega
 | succ n ih=>
  intro t l g hs hr hg hn;have hz:=Ux t;have hc:=Xk t;have hlen:=hr.2.1;unfold YZ;by_cases ho:t.Op=22
  ·rw [ZfC (by simpa using ho),Zdq O O]
   simp only[Zf9];have hb:=Ll t.Name l;have hv:vrs t=[(t.Name,t.W)]:=by rw[VS,ZfC ho]
   rw[hv];have hrun:runV g [(t.Name,t.W)]=stp g (t.Name,t.W):=by
    simp only[runV];cases stp g (t.Name,t.W)<;>rfl
   rw[hrun];by_cases hf:∃v,l[before t.Name l]? =some v/\v.Name=t.Name
   ·obtain⟨v,hv1,hv2⟩:=hf;obtain⟨hlt,-⟩:=ZfE.1 hv1;have hd:decide ((before t.Name l:Int)<len l)=true:=by rw[Za];simp;omega
    have hk:g.lookup t.Name=some v.W:=by rw[<-hv2];exact(hr.2.2.1 v (ZfH hv1)).1
    simp only[hd,ZfR,get?_nat,hv1,Zf9,Zgk,Sw,hv2,decide_true];refine⟨_,_,rfl,λh=>⟨g,?_,hr⟩,λh=>?_⟩
    ·unfold stp;rw[hk];simp only;rw[ZfC aA]
    ·unfold stp;rw[hk];simp only;rw[ZfD aA]
   ·have hne:∀v,l[before t.Name l]? =some v->v.Name≠t.Name:=λv h e=>hf ⟨v,h,e⟩;have hno:=hr.none hne;have hx:∃x2,(if(decide ((before t.Name l:Int)<(len l)))=true then(get? l (before t.Name l:Int))else some default)=some x2/\(decide ((before t.Name l:Int)<(len l))&&Str.eqb x2.Name t.Name)=false:=by
     by_cases hlt:before t.Name l<l.length
     ·have hd:decide ((before t.Name l:Int)<len l)=true:=by rw[Za];simp;omega
      refine⟨l[before t.Name l],?_,?_⟩
      ·rw[ZfC hd,get?_nat,ZfA hlt]
      ·rw[Sw,decide_eq_false (hne _ (ZfA hlt))];simp
     ·have hd:decide ((before t.Name l:Int)<len l)=false:=by rw[Za];simp;omega
      exact⟨default,by rw[hd];rfl,by rw[hd];rfl⟩
    obtain⟨x2,hx1,hx2⟩:=hx;rw[hx1];simp only[Zf9,hx2,ZfB,ZfK];have c1:cut? l 0 (before t.Name l:Int)=some (l.take (before t.Name l)):=by
     unfold cut?;rw[ZfC ⟨by omega,by omega,by omega⟩];simp
    have c2:cut? l (before t.Name l:Int) (len l)=some (l.drop (before t.Name l)):=by
     unfold cut?;rw[Za,ZfC ⟨by omega,by omega,by omega⟩];simp
    have c3:app? ([]:List D.Value) (l.take (before t.Name l))=some (l.take (before t.Name l)):=by
     unfold app?;rw[ZfC aK];rfl
    have c4:app? (l.take (before t.Name l)) [(⟨t.Name,t.W,0⟩:D.Value)]=some (l.take (before t.Name l)++[⟨t.Name,t.W,0⟩]):=by
     unfold app?;rw[ZfC aK]
    have c5:app? (l.take (before t.Name l)++[(⟨t.Name,t.W,0⟩:D.Value)]) (l.drop (before t.Name l))=some (l.take (before t.Name l)++[⟨t.Name,t.W,0⟩]++l.drop (before t.Name l)):=by
     unfold app?;rw[ZfC aK]
    simp only[c1,c2,c3,c4,c5,Zf9];refine⟨_,_,rfl,λ_=>⟨(t.Name,t.W)::g,?_,hr.put hne⟩,λh=>by cases h⟩;unfold stp;rw[hno]
  ·rw [ZfD (by simpa using ho)]
   have hv:vrs t=vrss t.Kids:=by rw[VS,ZfD ho]
   rw[hv]at hg⊢;obtain⟨r,g1,g2⟩:=Va (l:=t.Kids) (n:=n) (σ:=List D.Value) (ρ:=(List D.Value)⊕((List D.Value)×Bool)) (B:=λ(s2:(List D.Value)×Int)=>if(decide (s2.2<(len t.Kids)))then(get? t.Kids s2.2).bind λx9=>(YZ n x9 s2.1).bind λx10=>if(!x10.2)then some (.inr (.inr (([]:List D.Value),false)))else some (.inl (x10.1,(w64 (s2.2+1))))else some (.inr (.inl (s2.1)))) (λk a=>(a,(k:Int))) (λys a=>∃ga,Rel a ga/\runV ga (vrss ys)=runV g (vrss t.Kids)/\ga.length+(vrss ys).length<=1000/\∀x∈ys,x∈t.Kids)
     (λr=>(∃l',r= .inl l'/\∃g',runV g (vrss t.Kids)=some g'/\Rel l' g')\/(r= .inr ([],false)/\runV g (vrss t.Kids)=none))
     (λk x xs a hk' hx hlen⟨ga,i0,i1,i2,i3⟩=>by
      have hxk:=i3 x U;have:=VU hxk;have:=WC hxk;rw[Xm,Dh]at i1;rw[Xm,ZfI]at i2;obtain⟨l',b,e1,e2,e3⟩:=ih x a ga O i0 O O;have hd:decide ((k:Int)<len t.Kids)=true:=by rw[Za];simp;omega
      simp only[hd,ZfR,get?_nat,hx,Zf9,e1];cases b with
      |false=>
       refine .inr ⟨_,rfl,.inr ⟨rfl,?_⟩⟩;rw[e3 rfl]at i1;exact i1.symm
      |true=>
       obtain⟨g',h1,h2⟩:=e2 rfl;refine .inl ⟨l',by simp only[ZfJ,ZfB,ZfK];rw[Zb];rfl,g',h2,?_,?_,λy hy=>i3 y ao⟩
       ·rw[h1]at i1;exact i1
       ·have:=JO h1;omega)
     (λa⟨ga,i0,i1,i2,i3⟩=>by
      have hd:decide ((t.Kids.length:Int)<len t.Kids)=false:=by rw[Za];simp
      simp only[hd,ZfB,ZfK];rw[WX]at i1
      exact⟨_,rfl,.inl ⟨a,rfl,ga,i1.symm,i0⟩⟩) (a:=l) ⟨g,hr,rfl,hg,λx hx=>hx⟩ O
   rw[show((0:Nat):Int)=0 from rfl]at g1;rw[g1];rcases g2 with⟨l',rfl,g',h1,h2⟩|⟨rfl,h1⟩
   ·exact⟨l',true,rfl,λ_=>⟨g',h1,h2⟩,λh=>by cases h⟩
   ·exact⟨[],false,rfl,λh=>ay,λ_=>h1⟩
def termB(t:D.Term):Bool:=decide (cnt t<=240)&&nodeB t&&(runV [] (vrs t)).isSome
theorem Ul{t:D.Term}(h:msz t<=1048576):Xf fuel t=some (termB t):=by
 unfold Xf termB;rw[few fuel t 240 h O O ag];simp only[Zf9];by_cases hc:cnt t<=240
 ·have e:decide (lf 240 (cnt t)>=0)=true:=by unfold lf;rw[ifn];simp;omega
  rw[Zag fuel t h ag];simp only[e,ZfJ,ZfB,ZfK,Zf9,hc,decide_true,Zgk];cases hb:nodeB t
  ·simp
  ·have hv:=Jl t;obtain⟨l',b,e1,e2,e3⟩:=Ho fuel t [] [] h ⟨List.Pairwise.nil,rfl,by simp,by simp⟩ aa ag;rw[e1];cases b with
   |false=>rw[e3 rfl];rfl
   |true=>obtain⟨g',h1,-⟩:=e2 rfl;rw[h1];rfl
 ·have e:decide (lf 240 (cnt t)>=0)=false:=by unfold lf;rw[ifp];rfl
  simp[e,hc]
end Go.Proofs.YtjhiajehpjpibaaGreatDoor
end
section
namespace Go.Proofs.YtjhiajehpjpibaaGreatDoor
open Go.GL
set_option maxRecDepth 100000
variable{fuel:Nat}[FV fuel]
def GM{n:Nat}{s:Str}(hl:s.bytes.length<=1048576)(hn:s.bytes.length<n):TR n s=some (nameB s):=by
 unfold TR;by_cases hlen:1<=s.bytes.length/\s.bytes.length<=8
 ·rw [ZfD ai]
  refine Y5 (l:=s.bytes) (n:=n) (σ:=Unit) (λk _=>(k:Int)) (λys _=>okF (s.bytes.length-ys.length) ys=okF 0 s.bytes) (λr=>r=if okF 0 s.bytes then(.inl ():Unit⊕Bool)else .inr false)
   (λk x xs a hk' hx hlen hi=>by
    have e1:s.bytes.length-(x::xs).length=k:=by omega
    have e2:s.bytes.length-xs.length=k+1:=by simp at hlen;omega
    rw[e1]at hi;rw[e2];have hb:=x.toNat_lt;rw[<-hi];simp only[EZ hx,Zf9];rw[ZfC ai,Zb];have hd:∀c:Bool,∃y:Int,(if c=true then(some (x.toNat:Int))else some default)=some y/\(c=true->y=x.toNat):=λc=>by
     cases c
     ·exact⟨_,rfl,λh=>by cases h⟩
     ·exact⟨_,rfl,λ_=>rfl⟩
    obtain⟨y2,h2,i2⟩:=hd (decide ((x.toNat:Int)>=97));obtain⟨y4,h4,i4⟩:=hd (decide ((x.toNat:Int)>=48));rw[h2,h4];simp only[Zf9];have j2:(decide ((x.toNat:Int)>=97)&&decide (y2<=122))=decide (97<=x.toNat/\x.toNat<=122):=by
     by_cases c:(x.toNat:Int)>=97
     ·rw[i2 an,ZgS];simp only[ZfF,ZfN];omega
     ·rw[ZgS];simp only[ZfF,ZfN];omega
    have j4:(decide ((x.toNat:Int)>=48)&&decide (y4<=57))=decide (48<=x.toNat/\x.toNat<=57):=by
     by_cases c:(x.toNat:Int)>=48
     ·rw[i4 an,ZgS];simp only[ZfF,ZfN];omega
     ·rw[ZgS];simp only[ZfF,ZfN];omega
    rw[j2,j4,DK];by_cases c1:97<=x.toNat/\x.toNat<=122
    ·exact .inl ⟨(),by simp[c1],by simp[c1]⟩
    ·by_cases c3:48<=x.toNat/\x.toNat<=57
     ·by_cases c2:k=0
      ·subst c2;exact .inr ⟨.inr false,by simp[c1,c3],by simp[c1]⟩
      ·have:(0:Int)<(k:Int):=by omega
       exact .inl ⟨(),by simp[c1,c3,this,c2],by simp[c1,c2,c3]⟩
     ·exact .inr ⟨.inr false,by simp[c1,c3],by simp[c1,c3]⟩)
   (λa hi=>by
    rw[ZfD ar];refine⟨_,rfl,?_⟩
    rw[<-hi];simp[okF]) (a:=()) U hn λr g2=>?_
  rw[g2];unfold nameB;rw[decide_eq_true hlen];cases okF 0 s.bytes<;>rfl
 ·rw[ZfC ai];unfold nameB;rw[decide_eq_false hlen];simp
def kc(o:Int):Int:=(XD o).getD 0
def ZeT(o:Int):XD o=some (kc o):=by
 unfold kc;have:∃k,XD o=some k:=by
  unfold XD;split
  ·exact⟨_,rfl⟩
  ·split
   ·exact⟨_,rfl⟩
   ·split
    ·exact⟨_,rfl⟩
    ·split
     ·exact⟨_,rfl⟩
     ·exact⟨_,rfl⟩
 obtain⟨k,h⟩:=this;rw[h];rfl
def Dx(w:Int):ZK w=some (decide (1<=w/\w<=16)):=by simp[ZK]
def ZdM{t:D.Term}(hw:1<=t.W/\t.W<=16)(hk:∀x∈t.Kids,1<=x.W/\x.W<=16)(hl:(t.Kids.length:Int)=kc t.Op):
  ∃f,Vs t=some f/\shB t.Op t.W t.N t.Name (t.Kids.map (·.W))=(f&&(t.Op !=0||wordB t.W t.N)&&(t.Op !=22||nameB t.Name)):=by
 obtain⟨op,w,m,nm,ks⟩:=t;simp only at hw hk hl⊢;refine⟨(Vs ⟨op,w,m,nm,ks⟩).getD false,?_,?_⟩
 all_goals unfold Vs
 all_goals unfold kc XD at hl
 ·rcases ks with _|⟨a,_|⟨b,_|⟨c,_|⟨d,l⟩⟩⟩⟩<;>simp[get?]at hl hk⊢<;>grind(splits:=40) [Zb]
 ·unfold shB;have e:∀x∈ks,w64 (x.W-w)=x.W-w:=λx h=>by have:=hk x h;exact Zb
  by_cases o:op=19
  ·subst o;rcases ks with _|⟨a,_|⟨b,l⟩⟩<;>simp[get?]at hl hk e⊢<;>by_cases hm:0<=m<;>simp[hm,e]<;>grind
  rcases ks with _|⟨a,_|⟨b,_|⟨c,_|⟨d,l⟩⟩⟩⟩<;>simp[get?]at hl hk e⊢<;>grind(splits:=40) [Zb]
def Ze9{t:D.Term}(hl:¬(t.Kids.length:Int)=kc t.Op):shB t.Op t.W t.N t.Name (t.Kids.map (·.W))=false:=by
 obtain⟨op,w,m,nm,ks⟩:=t;simp only at hl⊢;unfold shB;unfold kc XD at hl;rcases ks with _|⟨a,_|⟨b,_|⟨c,_|⟨d,l⟩⟩⟩⟩<;>simp at hl<;>grind(splits:=40)
end Go.Proofs.YtjhiajehpjpibaaGreatDoor
end
section
namespace Go.Proofs.YtjhiajehpjpibaaGreatDoor
open Go.GL
set_option maxRecDepth 100000
variable{fuel:Nat}[FV fuel]
abbrev tab(m:Option (List (Str×Int))):List (Str×Int):=m.getD []
def get2{g:List (Str×Int)}{s:Str}(hs:s.bytes.length<=1048576):mget2? fitS (0:Int) g s=some ((g.lookup s).getD 0,(g.lookup s).isSome):=by
 simp_all[mget2?,ZfC,fitS]<;>grind
def put1{g:List (Str×Int)}{s:Str}{w:Int}(hs:s.bytes.length<=1048576)(hw:1<=w/\w<=16)(hg:g.length<=1000):mputE? fitS fitZ g s w=some ((s,w)::g):=by
 unfold mputE?;rw[ZfC ⟨by grind[fitS],by unfold fitZ;simp[Lit.wf];exact⟨by show(-9223372036854775808:Int)<=w;omega,by omega⟩,by grind[room]⟩]
theorem Xh{n:Nat}{c:D.termCheck}{t:D.Term}(hs:t.Name.bytes.length<=1048576)(hn:1048580<=n)(hw:1<=t.W/\t.W<=16)(hg:(tab c.widths).length<=1000):
  ∃b m,Xo n c t=some (b,⟨c.count,m⟩)/\(b=true->nameB t.Name=true/\stp (tab c.widths) (t.Name,t.W)=some (tab m))/\(b=false->nameB t.Name=false\/stp (tab c.widths) (t.Name,t.W)=none):=by
 obtain⟨cc,ww⟩:=c;unfold Xo;rw[GM hs O];cases hb:nameB t.Name
 ·simp
 ·simp only[ZfJ,ZfB,ZfK];cases ww with
  |none=>
   rw[get2 hs];rw[put1 hs hw U];exact⟨true,_,rfl,λ_=>⟨trivial,rfl⟩,λh=>ay⟩
  | some g=>
   simp only[Option.isNone_some,ZfB,ZfK,Zg8];rw[get2 hs];unfold stp;cases hl:g.lookup t.Name with
   |some w=>
    simp_all[Option.isSome_some,ZfR,Zg8]<;>grind
   |none=>
    simp_all[ZhV,ZfB,ZfK,put1]
theorem Gi {n:Nat}{ks:List D.Term}{c0:Int}{w0:Option (List (Str×Int))}(hn:1048580<=n)(hks:ks.length<=1048576)(hc:0<=c0)(hc':c0<=240)(hg:(tab w0).length<=c0)
    (ih:∀x∈ks,∀c:D.termCheck,c0<=c.count->c.count<=240->(tab c.widths).length<=c.count->∃b c',ZC n c x=some (b,c')/\(b=true->c.count+cnt x<=240/\nodeB x=true/\c'.count=c.count+cnt x/\runV (tab c.widths) (vrs x)=some (tab c'.widths))/\(b=false->¬(c.count+cnt x<=240/\nodeB x=true/\(runV (tab c.widths) (vrs x)).isSome=true))):
    ∃ r,iterN (λ(s2:Int×Int×(Option (List (Str×Int))))=>if (decide (s2.1<(len ks)))then(get? ks s2.1).bind λx7=>(ZC n (D.termCheck.mk s2.2.1 s2.2.2) x7).bind λx8=>if(!x8.1)then some (.inr (.inr (false,x8.2)))else some (.inl ((w64 (s2.1+1)),x8.2.count,x8.2.widths))else some (.inr (.inl (s2.2.1,s2.2.2)))) n (0,c0,w0)=some (r:(Int×(Option (List (Str×Int))))⊕(Bool×D.termCheck))/\
      ((∃cc ww,r= .inl (cc,ww)/\cc=c0+cnts ks/\cc<=240/\nodesB ks=true/\runV (tab w0) (vrss ks)=some (tab ww))\/∃c',r= .inr (false,c')/\¬(c0+cnts ks<=240/\nodesB ks=true/\(runV (tab w0) (vrss ks)).isSome=true)):=by
  have hrl:=Jl
  refine Va (l:=ks) (n:=n) (σ:=Int×(Option (List (Str×Int)))) (ρ:=(Int×(Option (List (Str×Int))))⊕(Bool×D.termCheck)) (λk a=>((k:Int),a.1,a.2))
      (λys a=>c0<=a.1/\a.1<=240/\(tab a.2).length<=a.1/\a.1+cnts ys=c0+cnts ks/\nodesB ys=nodesB ks/\runV (tab a.2) (vrss ys)=runV (tab w0) (vrss ks)/\∀x∈ys,x∈ks) _
      (λk x xs a hk' hx hlen⟨i0,i1,i2,i3,i4,i5,i6⟩=>by
        obtain⟨ac,aw⟩:=a;simp only at i0 i1 i2 i3 i5;rw[Ug]at i3;rw[Ye,ZhQ,<-Ye]at i4;rw[Xm,Dh]at i5;have hd:decide ((k:Int)<len ks)=true:=by grind[Za]
        obtain⟨b,c',e1,e2,e3⟩:=ih x (i6 x U) ⟨ac,aw⟩ i0 i1 i2;simp only[hd,ZfR,get?_nat,hx,Zf9,e1];cases b with
        | false=>
          refine .inr ⟨_,rfl,.inr ⟨c',rfl,λ⟨h1,h2,h3⟩=>e3 rfl ⟨?_,?_,?_⟩⟩⟩
          · grind
          · simp_all
          simp_all[runV,tab,vrs]<;>grind
        | true=>
          obtain⟨h1,h2,h3,h4⟩:=e2 rfl;simp only at h1 h3 h4;refine .inl ⟨(c'.count,c'.widths),by simp only[ZfJ,ZfB,ZfK];rw[Zb];rfl,by simp only;omega,by simp only;omega,?_,by simp only;omega,by rw[<-i4,h2,Zgk],?_,λy hy=>i6 y ao⟩
          · have:=JO h4
            have:=hrl x;simp only;omega
          · rw[h4]at i5;exact i5)
      (λa⟨i0,i1,i2,i3,i4,i5,i6⟩=>by
        obtain⟨ac,aw⟩:=a;have hd:decide ((ks.length:Int)<len ks)=false:=by rw[Za];simp
        simp only[hd,ZfB,ZfK];rw[Vp]at i3;refine⟨_,rfl,.inl ⟨ac,aw,rfl,by omega,i1,?_,i5.symm⟩⟩
        rw[<-i4,Ye];rfl) (a:=(c0,w0)) ⟨by omega,hc',hg,rfl,rfl,rfl,λx hx=>hx⟩ O
end Go.Proofs.YtjhiajehpjpibaaGreatDoor
end
section
namespace Go.Proofs.YtjhiajehpjpibaaGreatDoor
open Go.GL
set_option maxRecDepth 100000
variable{fuel:Nat}[FV fuel]
def wsB(ks:List D.Term):Bool:=ks.all λx=>decide (1<=x.W/\x.W<=16)
def ZeO{ks:List D.Term}(h:nodesB ks=true):wsB ks=true:=by
 simp_all[Ye,ZfV,wsB,decide_eq_true,ZH]
def BC{n:Nat}{ks:List D.Term}{v:Bool×D.termCheck}(hn:ks.length<n)(hk:ks.length<=1048576):iterN (λ(s1:Int)=>if(decide (s1<(len ks)))then(get? ks s1).bind λx3=>(ZK x3.W).bind λx4=>if(!x4)then some (.inr (.inr v))else some (.inl ((w64 (s1+1))))else some (.inr (.inl ()))) n (0)=some (if wsB ks=true then(.inl ():Unit⊕(Bool×D.termCheck))else .inr v):=by
 refine VQ (l:=ks) (n:=n) (σ:=Unit) (λk _=>(k:Int)) (λys _=>wsB ys=wsB ks) (λr=>r=if wsB ks=true then(.inl ():Unit⊕(Bool×D.termCheck))else .inr v)
  (λk x xs a hk' hx hlen hi=>by
   have hd:decide ((k:Int)<len ks)=true:=by grind[Za]
   simp only[hd,ZfR,get?_nat,hx,Zf9,Dx];have e:wsB (x::xs)=(decide (1<=x.W/\x.W<=16)&&wsB xs):=rfl;rw[e]at hi;by_cases c:1<=x.W/\x.W<=16
   ·rw[decide_eq_true c,Zgk]at hi;exact .inl ⟨(),by rw[decide_eq_true c,ifn,Zb];rfl,hi⟩
   simp_all)
  (λa hi=>by
   have hd:decide ((ks.length:Int)<len ks)=false:=by simp[Za]
   simp only[hd,ZfB,ZfK]
   exact⟨_,rfl,by rw[<-hi];rfl⟩) (a:=()) rfl hn λr g2=>?_
 rw[g2]
def nr{γ:Type}{c:γ}{P:γ->Prop}{Q:Prop}(h:¬Q):∃b c',some (false,c)=some (b,c')/\(b=true->P c')/\(b=false->¬Q):=⟨false,c,rfl,λh=>ay,λ_=>h⟩
theorem Zbi:∀(n:Nat)(t:D.Term)(c:D.termCheck),msz t<=1048576->0<=c.count->c.count<=240->(tab c.widths).length<=c.count->1048580+(241-c.count)<=(n:Int)->∃b c',ZC n c t=some (b,c')/\
   (b=true->c.count+cnt t<=240/\nodeB t=true/\c'.count=c.count+cnt t/\runV (tab c.widths) (vrs t)=some (tab c'.widths))/\(b=false->¬(c.count+cnt t<=240/\nodeB t=true/\(runV (tab c.widths) (vrs t)).isSome=true)):=by
 intro n
 induction n with
 |zero=>omega
 | succ n ih=>
  intro t c hs h0 h1 hg hn;have hz:=Ux t;have hc:=Xk t;have hb:=X3 t;have bad:nodeB t=false->¬(c.count+cnt t<=240/\nodeB t=true/\(runV (tab c.widths) (vrs t)).isSome=true):=λh⟨_,h2,_⟩=>by simp_all
  unfold ZC;rw[Zb];by_cases hC:c.count+1>240
  ·simp_all[decide_true,ZfR,Zf9,ZhE]<;>grind
  simp only[hC,decide_false,ZfB,ZfK,Dx t.W,Zf9,Zgl];by_cases hw:1<=t.W/\t.W<=16;rotate_left
  ·simp only[hw,decide_false,ZgP,ZfR,Zf9,ZhE];exact nr (bad (by simp_all[locB,decide_eq_false]))
  simp only[hw,decide_true,ZfJ,ZfB,ZfK,Zf9,Zgl,and_self,ZeT];by_cases hl:(t.Kids.length:Int)=kc t.Op;rotate_left
  ·have:(len t.Kids !=kc t.Op)=true:=by rw[Za];simpa using hl
   rw[ZfC this];exact nr (bad (by rw[hb];unfold locB;rw[Ze9 hl];simp))
  have hl':¬(len t.Kids !=kc t.Op)=true:=by rw[Za];simpa using hl
  rw[ZfD hl',BC O O];simp only[Zf9];by_cases hk:wsB t.Kids=true;rotate_left
  ·rw[ZfD hk];refine nr (bad ?_);rw[hb];cases h:nodesB t.Kids
   ·simp
   ·exact absurd (ZeO h) hk
  rw[ZfC hk];have hkw:∀x∈t.Kids,1<=x.W/\x.W<=16:=λx hx=>by
   unfold wsB at hk;rw[ZfV]at hk;exact of_decide_eq_true (hk x hx)
  obtain⟨f,hf1,hf2⟩:=ZdM hw hkw hl;have hloc:locB t=((Str.eqb t.Name ⟨[]⟩||t.Op==22)&&(t.N==0||t.Op==0||t.Op==19)&&(f&&(t.Op !=0||wordB t.W t.N)&&(t.Op !=22||nameB t.Name))):=by
   unfold locB;rw[hf2,decide_eq_true hw,Zgk]
  simp only[hf1,Zf9];cases f with
  |false=>
   exact nr (bad (by rw[hb,hloc];simp))
  |true=>
  simp only[ZfJ,ZfB,ZfK,Wp];have hx6:∃x6,(if(t.Op==0)=true then some (wordB t.W t.N)else some default)=some x6/\(t.Op=0->x6=wordB t.W t.N):=by
   by_cases o:t.Op=0
   ·exact⟨_,ZfC (by simpa using o),λ_=>rfl⟩
   ·exact⟨_,ZfD (by simpa using o),λh=>absurd h o⟩
  obtain⟨x6,h6,h6'⟩:=hx6;rw[h6];simp only[Zf9];by_cases c6:(t.Op==0&& !x6)=true
  ·rw[ZfC c6];simp only[ZfF,Zhc,Zhi]at c6;refine nr (bad ?_);rw[hb,hloc,<-h6' c6.1,c6.2,c6.1];simp
  rw[ZfD c6];have d6:(t.Op !=0||wordB t.W t.N)=true:=by
   by_cases o:t.Op=0
   ·rw[<-h6' o,o];simp[o]at c6;simp[c6]
   ·simp[o]
  by_cases c7:(t.Op !=0&&t.Op !=19&&t.N !=0)=true
  ·rw[ZfC c7];simp only[ZfF,bne_iff_ne,ne_eq]at c7;refine nr (bad ?_);rw[hb,hloc];have:(t.N==0||t.Op==0||t.Op==19)=false:=by simp[c7]
   rw[this];simp
  rw[ZfD c7];have d7:(t.N==0||t.Op==0||t.Op==19)=true:=by
   simp only[ZfF,bne_iff_ne,ne_eq]at c7;by_cases a1:t.N=0<;>by_cases a2:t.Op=0<;>by_cases a3:t.Op=19<;>simp[a1,a2,a3]at c7⊢
  rw[d6,d7]at hloc;simp only[Zgk,ZgG]at hloc;have ih':∀x∈t.Kids,∀c1:D.termCheck,c.count+1<=c1.count->c1.count<=240->(tab c1.widths).length<=c1.count->∃b c',ZC n c1 x=some (b,c')/\
   (b=true->c1.count+cnt x<=240/\nodeB x=true/\c'.count=c1.count+cnt x/\runV (tab c1.widths) (vrs x)=some (tab c'.widths))/\(b=false->¬(c1.count+cnt x<=240/\nodeB x=true/\(runV (tab c1.widths) (vrs x)).isSome=true)):=λx hx c1 k1 k2 k3=>by
   have:=VU hx;exact ih x c1 O O k2 k3 O
  by_cases ho:t.Op=22
  ·rw [ZfD (by simp[ho])]
   have hv:vrs t=[(t.Name,t.W)]:=by rw[VS,ZfC ho]
   have hrun:runV (tab c.widths) (vrs t)=stp (tab c.widths) (t.Name,t.W):=by
    rw[hv];simp only[runV];cases stp (tab c.widths) (t.Name,t.W)<;>rfl
   have hks:t.Kids=[]:=by
    rw[ho]at hl;exact Zhq.1 (by have:kc 22=0:=rfl;omega)
   obtain⟨b,m,e1,e2,e3⟩:=Xh (n:=n) (c:=⟨c.count+1,c.widths⟩) (t:=t) O O hw (by simp only;omega);rw[e1];simp only[Zf9];rw[ho]at hloc;cases b with
   | false=>
    refine nr ?_;rcases e3 rfl with e3|e3
    ·exact bad (by rw[hb,hloc,e3];simp)
    ·rw[hrun];simp only at e3;rw[e3];exact λ⟨_,_,h⟩=>by cases h
   | true=>
    obtain⟨e4,e5⟩:=e2 rfl;simp only at e5;have hml:(tab m).length<=c.count+1:=by have:=Ad e5;omega
    obtain⟨r,g1,g2⟩:=Gi (n:=n) (ks:=t.Kids) (c0:=c.count+1) (w0:=m) O O O O hml ih';rw[hks,Vp,WX]at g2;have hcn:cnts t.Kids=0:=by rw[hks,Vp]
    have hnb:nodesB t.Kids=true:=by rw[hks,Ye];rfl
    simp only[ZfJ,ZfB,ZfK];rw[g1];rcases g2 with⟨cc,ww,rfl,k1,k2,k3,k4⟩|⟨c',rfl,k1⟩
    ·refine⟨true,⟨cc,ww⟩,rfl,λ_=>⟨by omega, ?_,by simp only;omega, ?_⟩,λh=>ay⟩
     ·rw[hb,hloc,e4,hnb];simp
     ·rw[hrun,e5];simp only[runV,Option.some.injEq]at k4;rw[k4]
    ·exfalso;apply k1;refine⟨by omega,by rw[Ye];rfl,rfl⟩
  ·rw[ZfC (by simp[ho])];have hv:vrs t=vrss t.Kids:=by rw[VS,ZfD ho]
   by_cases c8:Str.eqb t.Name ⟨[]⟩=true;rotate_left
   ·rw[ZfC (by simpa using c8)];refine nr (bad ?_);rw[hb,hloc];simp[c8,ho]
   rw[ZfD (by simp[c8])];have hloc':locB t=true:=by rw[hloc,c8];simp[ho]
   obtain⟨r,g1,g2⟩:=Gi (n:=n) (ks:=t.Kids) (c0:=c.count+1) (w0:=c.widths) O O O O O ih';rw[g1,hv,hb,hloc'];rcases g2 with⟨cc,ww,rfl,k1,k2,k3,k4⟩|⟨c',rfl,k1⟩
   ·exact⟨true,⟨cc,ww⟩,rfl,λ_=>⟨by omega,k3,by simp only;omega,k4⟩,λh=>ay⟩
   ·exact⟨false,c',rfl,λh=>ay,λ_⟨h1,h2,h3⟩=>k1 ⟨by omega,h2,h3⟩⟩
theorem Qu{t:D.Term}(h:msz t<=1048576):XX fuel t=some (termB t):=by
 unfold XX;obtain⟨b,c',e1,e2,e3⟩:=Zbi fuel t ⟨0,none⟩ h U U (by simp[tab]) (by have:=FV.le (n:=fuel);simp;omega);unfold termB;cases b with
 |true=>
  grind
 |false=>
  grind
end Go.Proofs.YtjhiajehpjpibaaGreatDoor
end
section
namespace Go.Proofs.YtjhiajehpjpibaaGreatDoor
open Go.GL
set_option maxRecDepth 100000
variable{fuel:Nat}[FV fuel]
def Zdz{α:Type}{l:List α}{b:α->Bool}(G:α->Int->Option (Int⊕(Unit⊕Bool)))(hG:∀(k:Nat)(x:α),l[k]? =some x->G x k=if b x=true then some (.inl (w64 ((k:Int)+1)))else some (.inr (.inr false)))(hb:l.length<=1048576){n:Nat}(hn:l.length<n):
  iterN (λ(s1:Int)=>if(decide (s1<(len l)))then(get? l s1).bind λx1=>G x1 s1 else some (.inr (.inl ()))) n 0=some (if l.all b=true then(.inl ():Unit⊕Bool)else .inr false):=by
 refine VQ (l:=l) (n:=n) (σ:=Unit) (λk _=>(k:Int)) (λys _=>ys.all b=l.all b) (λr=>r=if l.all b=true then(.inl ():Unit⊕Bool)else .inr false)
  (λk x xs a hk' hx hlen hi=>by
   have hd:decide ((k:Int)<len l)=true:=by rw[Za];simp;omega
   simp only[hd,ZfR,get?_nat,hx,Zf9];rw[hG k x hx];rw[ZhQ]at hi;cases c:b x
   ·rw[c,Zhd]at hi;exact .inr ⟨_,rfl,by rw[<-hi];rfl⟩
   ·rw[c,Zgk]at hi
    exact .inl ⟨(),by rw[Zb];rfl,hi⟩)
  (λa hi=>by
   have hd:decide ((l.length:Int)<len l)=false:=by rw[Za];simp
   simp only[hd,ZfB,ZfK]
   exact⟨_,rfl,by rw[<-hi];rfl⟩) (a:=()) rfl hn λr g2=>?_
 rw[g2]
def tsB(l:List D.Term)(w:Int):Bool:=l.all λt=>termB t&&t.W==w
theorem Ec{l:List D.Term}(h:sml l){x:D.Term}(hx:x∈l):msz x<=1048576:=by
 have:=VU hx;unfold sml at h;omega
def Ry{l:List D.Term}(h:sml l):l.length<=1048576:=by unfold sml at h;omega
def QQ{l:List D.Term}{w:Int}(h:sml l):Wl fuel l w=some (tsB l w):=by
 unfold Wl
 have hl:=Zdz (l:=l) (b:=λt=>termB t&&t.W==w) (λx1 s1=>(Xf fuel x1).bind λx2=>if((!x2)||(x1.W !=w))then some (.inr (.inr false))else some (.inl ((w64 (s1+1))))) (λk x hx=>by
  simp only[Ul (Ec h (ZfH hx)),Zf9]
  cases termB x<;>by_cases c:x.W=w<;>simp[c]) (Ry h) (lt_fuel (fuel:=fuel) (Ry h))
 rw[hl];unfold tsB;cases l.all (λt=>termB t&&t.W==w)<;>rfl
def pathB(p:D.Program)(s:D.Path):Bool:=
 progB p&&decide (0<=s.Pc/\s.Pc<=len p.Code)&&(len s.Regs==4)&&(len s.Mem==p.Mem)&&decide (len s.Stack<=3)&&decide (0<=s.In/\s.In<=p.In)&&decide (len s.Out<=6)&&decide (0<=s.Code/\s.Code<=9)&&decide (0<=s.Steps/\s.Steps<=400)&&decide (len s.Cond<=60)&&decide (len s.Turns<=60)&&
 (s.Stack.all λx=>decide (0<=x/\x<=len p.Code))&&(s.Turns.all λx=>decide (0<=x/\x<=1))&&tsB s.Regs p.W&&tsB s.Mem p.W&&tsB s.Out p.W&&tsB s.Cond 1
def Zah{p:D.Program}{s:D.Path}(hp:p.Code.length<=1048576)(hs:smallP s):RQ fuel p s=some (pathB p s):=by
 obtain⟨s1,s2,s3,s4,s5,s6⟩:=hs;unfold RQ;have l1:=QF (l:=s.Stack) (f:=λx=>Zc x 0 (len p.Code)) (b:=λx=>decide (0<=x/\x<=len p.Code)) (λx _=>Wz _ _ _) O s.Stack.length 0 O fuel (lt_fuel (fuel:=fuel) s3);have l2:=QF (l:=s.Turns) (f:=λx=>Zc x 0 1) (b:=λx=>decide (0<=x/\x<=1)) (λx _=>Wz _ _ _) O s.Turns.length 0 O fuel (lt_fuel (fuel:=fuel) s6);rw[show((0:Nat):Int)=0 from rfl,ZgN]at l1 l2;rw[l1,l2];simp only[MH hp,Wz,Zf9,Ib,Ay,QQ s1,QQ s2,QQ s4,QQ s5];unfold pathB;cases progB p
 ·simp
 by_cases a2:0<=s.Pc/\s.Pc<=len p.Code;rotate_left
 ·simp[a2]
 by_cases a3:len s.Regs=4;rotate_left
 ·simp[a2,a3]
 by_cases a4:len s.Mem=p.Mem;rotate_left
 ·simp[a2,a3,a4]
 by_cases a5:len s.Stack<=3;rotate_left
 ·have:len s.Stack>3:=by omega
  simp[a2,a3,a4,a5,this]
 by_cases a6:0<=s.In/\s.In<=p.In;rotate_left
 ·simp[a2,a3,a4,a5,a6,ZgU.2 a5]
 by_cases a7:len s.Out<=6;rotate_left
 ·have:len s.Out>6:=by omega
  simp[a2,a3,a4,a5,a6,a7,ZgU.2 a5,this]
 by_cases a8:0<=s.Code/\s.Code<=9;rotate_left
 ·simp[a2,a3,a4,a5,a6,a7,a8,ZgU.2 a5,ZgU.2 a7]
 by_cases a9:0<=s.Steps/\s.Steps<=400;rotate_left
 ·simp[a2,a3,a4,a5,a6,a7,a8,a9,ZgU.2 a5,ZgU.2 a7]
 by_cases b1:len s.Cond<=60;rotate_left
 ·have:len s.Cond>60:=by omega
  simp[a2,a3,a4,a5,a6,a7,a8,a9,b1,ZgU.2 a5,ZgU.2 a7,this]
 by_cases b2:len s.Turns<=60;rotate_left
 ·have:len s.Turns>60:=by omega
  simp[a2,a3,a4,a5,a6,a7,a8,a9,b1,b2,ZgU.2 a5,ZgU.2 a7,ZgU.2 b1,this]
 simp only[a2,a3,a4,a5,a6,a7,a8,a9,b1,b2,gt_iff_lt,ZgU.2 a5,ZgU.2 a7,ZgU.2 b1,ZgU.2 b2,decide_true,decide_false,ZfJ,ZhJ,Zhn,ZfB,ZfK,bne_self_eq_false,Zh8,Zgk,ZgG,ZgX,and_self];cases s.Stack.all (λx=>decide (0<=x/\x<=len p.Code))
 ·simp
 cases s.Turns.all (λx=>decide (0<=x/\x<=1))
 ·simp
 cases tsB s.Regs p.W<;>cases tsB s.Mem p.W<;>cases tsB s.Out p.W<;>cases tsB s.Cond 1<;>rfl
end Go.Proofs.YtjhiajehpjpibaaGreatDoor
end
section
namespace Go.Proofs.YtjhiajehpjpibaaGreatDoor
open Go.GL
variable{fuel:Nat}[FV fuel]
def GQ(w v:Int):∃b,Yu w v=some b/\Xi w v=some b:=by
 unfold Yu Xi Zc ZK;by_cases h:1<=w/\w<=16
 ·grind[Ak]
 simp_all
def wordOf(w v:Int):Int:=(Yu w v).getD 0
def YQ(w v:Int):Yu w v=some (wordOf w v):=by
 obtain⟨b,h,-⟩:=GQ w v;simp[wordOf,h]
def TZ(w v:Int):Xi w v=some (wordOf w v):=by
 obtain⟨b,h,h'⟩:=GQ w v;simp_all[wordOf]
def LQ{w:Int}(h1:1<=w)(h2:w<=16):w=1\/w=2\/w=3\/w=4\/w=5\/w=6\/w=7\/w=8\/w=9\/w=10\/w=11\/w=12\/w=13\/w=14\/w=15\/w=16:=by omega
def TG{w:Int}(h1:1<=w)(h2:w<=16):shl? 1 w=some (2^w.toNat)/\shl? 1 (IntKind.u64.wrap w)=some (2^w.toNat)/\w64 ((2:Int)^w.toNat-1)=2^w.toNat-1/\(2:Int)<=2^w.toNat/\(2:Int)^w.toNat<=65536:=by
 rcases LQ h1 h2 with rfl|rfl|rfl|rfl|rfl|rfl|rfl|rfl|rfl|rfl|rfl|rfl|rfl|rfl|rfl|rfl<;>exact⟨rfl,rfl,by decide,by decide,by decide⟩
theorem Yp{w:Int}(h1:1<=w)(h2:w<=16)(v:Int):wordB w v=true↔0<=v/\v<2^w.toNat:=by
 obtain⟨a1,a2,a3,a4,a5⟩:=TG h1 h2;have hs:=YM w v;unfold ZE Zc at hs;have e:(decide (w>=1)&&decide (w<=16))=true:=by simp;omega
 simp only[e,Zf9]at hs;by_cases hv:0<=v
 ·simp only[hv,decide_true,ZfR,a1,Zf9]at hs;rw[a3]at hs;simp at hs;rw[<-hs];simp[hv];omega
 ·simp[hv,a1]at hs;rw[hs];simp;omega
theorem Y3{w v:Int}(h:wordB w v=true):1<=w/\w<=16:=by
 have hs:=YM w v;rw[h]at hs;unfold ZE Zc at hs;by_cases a:1<=w
 ·by_cases b:w<=16
  ·exact⟨a,b⟩
  ·have e:(decide (w>=1)&&decide (w<=16))=false:=by simp[b]
   simp only[e,Zf9]at hs;simp at hs
 ·have e:(decide (w>=1)&&decide (w<=16))=false:=by simp[a]
  simp only[e,Zf9]at hs;simp at hs
def Dp{w v:Int}(h:wordB w v=true):0<=v/\v<65536:=by
 obtain⟨a,b⟩:=Y3 h;obtain⟨_,_,_,_,h5⟩:=TG a b;have:=(Yp a b v).1 h;omega
def Ic{x:Int}(h1:0<=x)(h2:x<=100000):IntKind.u64.wrap x=x:=by
 have:IntKind.u64.wrap x=x%18446744073709551616:=by simp[IntKind.wrap,IntKind.bits,IntKind.signed]
 rw[this];omega
def OV(x:Int){y:Int}(h:0<=y):shr? x y=some (x.fdiv (2^min y.toNat 64)):=by unfold shr?;rw[ifn]
def FQ(x:Int){y:Int}(h:0<=y):shl? x y=some (w64 (x*2^min y.toNat 64)):=by unfold shl?;rw[ifn]
theorem LP(w v:Int):∃r,YX w v=some r/\XB w v=some r:=by
 unfold YX XB;rw[YM,Wp];simp only[Zf9];cases hb:wordB w v with
 |false=>exact⟨0,rfl,rfl⟩
 | true=>
  obtain⟨h1,h2⟩:=Y3 hb;obtain⟨a1,a2,a3,a4,a5⟩:=TG h1 h2;obtain⟨c1,c2⟩:=(Yp h1 h2 v).1 hb;have e1:w64 (w-1)=w-1:=Zb;have hsh:v.fdiv (2^min (w-1).toNat 64)=0\/v.fdiv (2^min (w-1).toNat 64)=1:=by
   have e2:min (w-1).toNat 64=(w-1).toNat:=by omega
   rw[e2,ZhT _ (Int.pow_nonneg au)];have e3:(2:Int)^w.toNat=2*2^(w-1).toNat:=by
    have:w.toNat=(w-1).toNat+1:=by omega
    rw[this,Int.pow_succ];omega
   have hp:(0:Int)<2^(w-1).toNat:=Zi3 au;rw[e3]at c2;by_cases hlt:v<2^(w-1).toNat
   ·left;exact Int.ediv_eq_zero_of_lt c1 hlt
   ·right;have g1:1<=v/2^(w-1).toNat:=Int.le_ediv_of_mul_le hp O;have g2:v/2^(w-1).toNat<2:=Int.ediv_lt_of_lt_mul hp O;omega
  simp only[ZfJ,ZfB,ZfK,e1,Ic (show 0<=w-1 by omega) (show w-1<=100000 by omega),OV v (show 0<=w-1 by omega),Zf9,a1,a2];rcases hsh with e|e
  ·rw[e];exact⟨v,by simp,by simp⟩
  ·rw[e];exact⟨w64 (v-2^w.toNat),by simp,by simp⟩
def signedOf(w v:Int):Int:=(YX w v).getD 0
def RN(w v:Int):YX w v=some (signedOf w v):=by
 obtain⟨b,h,-⟩:=LP w v;simp[signedOf,h]
def LU(w v:Int):XB w v=some (signedOf w v):=by
 obtain⟨b,h,h'⟩:=LP w v;simp[signedOf,h,h']
def Jc(b:Bool):Y8 b=some (if b then 1 else 0)/\YD b=some (if b then 1 else 0):=by
 cases b<;>exact⟨rfl,rfl⟩
theorem UR(op w a b:Int):∃r,ZX op w a b=some r/\Yy op w a b=some r:=by
 cases ha:wordB w a with
 |false=>exact⟨-1,by simp[ZX,YM,ha],by simp[Yy,Wp,ha]⟩
 | true=>
  cases hb:wordB w b with
  |false=>exact⟨-1,by simp[ZX,YM,ha,hb],by simp[Yy,Wp,ha,hb]⟩
  |true=>
   obtain⟨h1,h2⟩:=Y3 ha;obtain⟨a1,a2,a3,a4,a5⟩:=TG h1 h2;obtain⟨c1,c2⟩:=Dp ha;obtain⟨d1,d2⟩:=Dp hb;have hb':=Ic d1 O;have hw':=Ic (show 0<=w-1 by omega) O;have hw1:w64 (w-1)=w-1:=Zb;have s1:=FQ a d1;have s2:=λx=>OV x d1;have s3:=λx=>OV x (show 0<=w-1 by omega);refine⟨(ZX op w a b).getD (-1),?_,?_⟩<;>unfold ZX
   all_goals try unfold Yy
   all_goals simp only[YM,Wp,ha,hb,YQ,TZ,Zf9,ZfJ,ZfB,ZfK,Zhn,SQ,RN,LU,(Jc _).1,(Jc _).2,a1,a2,hw1]
   all_goals grind(splits:=40) [quo?,rem?,imin]
theorem IX(op w a:Int):∃r,XT op w a=some r/\VX op w a=some r:=by
 unfold XT VX;simp only[YM,Wp,YQ,TZ,Zf9];cases ha:wordB w a with
 |false=>exact⟨-1,rfl,rfl⟩
 |true=>
  obtain⟨h1,h2⟩:=Y3 ha;obtain⟨a1,a2,a3,a4,a5⟩:=TG h1 h2;simp only[a1,a2,Zf9];by_cases e1:op=1
  ·subst e1;exact⟨_,rfl,rfl⟩
  by_cases e2:op=2
  ·subst e2;exact⟨_,rfl,rfl⟩
  exact⟨-1,by simp[e1,e2],by simp[e1,e2]⟩
theorem FD(w a v b:Int):∃r,WE w a v b=some r/\Uq w a v b=some r:=by
 unfold WE Uq;simp only[YM,Wp,Zf9];cases ha:wordB w a with
 |false=>exact⟨-1,rfl,rfl⟩
 | true=>
  simp only[ZfJ,ZfB,ZfK,Zf9,Zgl];cases hb:wordB v b with
  |false=>exact⟨-1,rfl,rfl⟩
  |true=>
   obtain⟨h1,h2⟩:=Y3 hb;rw[Ic (show 0<=v by omega) O];simp only[FQ a (show 0<=v by omega),Zf9];by_cases c:w64 (w+v)>16
   ·exact⟨-1,by simp[c],by simp[c]⟩
   ·exact⟨w64 (w64 (a*2^min v.toNat 64)+b),by simp[c],by simp[c]⟩
theorem Ef(w a n:Int)(s:Bool):∃r,Wo w a n s=some r/\UQ w a n s=some r:=by
 unfold Wo UQ;simp only[YM,Wp,YQ,TZ,RN,LU,Zf9];cases ha:wordB w a with
 |false=>exact⟨-1,rfl,rfl⟩
 | true=>
  obtain⟨h1,h2⟩:=Y3 ha;have hi:ZK n=some (decide (1<=n/\n<=16)):=by simp[ZK]
  simp only[ZfJ,ZfB,ZfK,Zf9,Zgl,hi];by_cases c1:n<w
  ·exact⟨-1,by simp[c1],by simp[c1]⟩
  ·by_cases c2:n<=16
   ·have c3:1<=n/\n<=16:=by omega
    have c4:¬n>16:=by omega
    cases s
    ·exact⟨a,by simp[c1,c4],by simp[c1,c3]⟩
    ·exact⟨wordOf n (signedOf w a),by simp[c1,c4,YQ],by simp[c1,c3,TZ]⟩
   ·have c3:¬(1<=n/\n<=16):=by omega
    have c4:n>16:=by omega
    exact⟨-1,by simp[c4],by simp[c3]⟩
theorem Br{w a l n:Int}(hl:0<=l/\l<=100)(hn:-100<=n/\n<=100):∃r,VD w a l n=some r/\Sr w a l n=some r:=by
 unfold VD Sr;simp only[YM,Wp,YQ,TZ,Zf9];cases ha:wordB w a with
 |false=>exact⟨-1,rfl,rfl⟩
 | true=>
  obtain⟨h1,h2⟩:=Y3 ha;have e1:w64 (w-n)=w-n:=Zb;have e2:w64 (w-l)=w-l:=Zb;simp only[ZfJ,Zgl,e1,e2];have hl0:¬l<0:=by omega
  by_cases c1:n<1
  ·exact⟨-1,by simp[c1],by simp[c1]⟩
  ·by_cases c2:n>w-l
   ·have:n>w\/l>w-n:=by omega
    refine⟨-1,?_,by simp[c2]⟩;rcases this with h|h<;>simp[h]
   ·have c3:¬n>w:=by omega
    have c4:¬l>w-n:=by omega
    obtain⟨a1,a2,a3,_⟩:=TG (w:=n) O O;have hw:∀x,wordOf n x=band x (w64 (2^n.toNat-1)):=λx=>by
     have hs:=YQ n x;unfold Yu Zc at hs;have e:(decide (n>=1)&&decide (n<=16))=true:=by simp;omega
     simp only[e,Zf9,ZfJ,ZfB,ZfK,a1,Option.some.injEq]at hs;exact hs.symm
    refine⟨wordOf n (a.fdiv (2^min l.toNat 64)),?_,?_⟩
    ·simp[hl0,c1,c3,c4,OV a hl.1,YQ]
    ·simp only[hl0,c1,c2,decide_false,Zhn,ZfB,ZfK,Ic hl.1 O,OV a hl.1,a2,Zf9,hw]
end Go.Proofs.YtjhiajehpjpibaaGreatDoor
end
section
namespace Go.Proofs.YtjhiajehpjpibaaGreatDoor
open Go.GL
set_option maxRecDepth 100000
variable{fuel:Nat}[FV fuel]
theorem VZ{α:Type}{l m:List α}(h:l.length+m.length<=1048576):app? l m=some (l++m):=by
 simp_all[app?,ZfC,room]<;>grind
def get0(x:D.Term)(l:List D.Term):get? (x::l) 0=some x:=rfl
def get1(x y:D.Term)(l:List D.Term):get? (x::y::l) 1=some y:=rfl
def get2'(x y z:D.Term)(l:List D.Term):get? (x::y::z::l) 2=some z:=rfl
def geti0(x:Int)(l:List Int):get? (x::l) 0=some x:=rfl
def geti1(x y:Int)(l:List Int):get? (x::y::l) 1=some y:=rfl
def geti2(x y z:Int)(l:List Int):get? (x::y::z::l) 2=some z:=rfl
theorem Zan{t:D.Term}(h:locB t=true):(t.Op=0/\t.Kids=[])\/(t.Op=22/\t.Kids=[])\/((t.Op=1\/t.Op=2)/\∃a,t.Kids=[a]/\a.W=t.W)\/(3<=t.Op/\t.Op<=16/\∃a b,t.Kids=[a,b]/\a.W=b.W)\/(t.Op=17/\∃a b c,t.Kids=[a,b,c])\/(t.Op=18/\∃a b,t.Kids=[a,b])\/(t.Op=19/\0<=t.N/\t.N<=16/\∃a,t.Kids=[a])\/((t.Op=20\/t.Op=21)/\∃a,t.Kids=[a]):=by
 obtain⟨op,w,m,nm,ks⟩:=t;unfold locB shB at h;rcases ks with _|⟨a,_|⟨b,_|⟨c,_|⟨d,l⟩⟩⟩⟩<;>simp at h⊢<;>grind
end Go.Proofs.YtjhiajehpjpibaaGreatDoor
end
section
namespace Go.Proofs.YtjhiajehpjpibaaGreatDoor
open Go.GL
set_option maxRecDepth 100000
variable{fuel:Nat}[FV fuel]
def ZW{op w m:Int}{nm:Str}{ks:List D.Term}(h:nodeB ⟨op,w,m,nm,ks⟩=true):(1<=w/\w<=16)/\((op=0/\ks=[]/\nm=⟨[]⟩/\wordB w m=true)\/(op=22/\ks=[]/\m=0)\/((op=1\/op=2)/\m=0/\nm=⟨[]⟩/\∃a,ks=[a]/\nodeB a=true/\a.W=w)\/(3<=op/\op<=16/\m=0/\nm=⟨[]⟩/\∃a b,ks=[a,b]/\nodeB a=true/\nodeB b=true/\a.W=b.W/\(op<=13->a.W=w)/\(14<=op->w=1))\/(op=17/\m=0/\nm=⟨[]⟩/\∃a b c,ks=[a,b,c]/\nodeB a=true/\nodeB b=true/\nodeB c=true/\a.W=1/\b.W=w/\c.W=w)\/(op=18/\m=0/\nm=⟨[]⟩/\∃a b,ks=[a,b]/\nodeB a=true/\nodeB b=true/\a.W+b.W=w)\/(op=19/\nm=⟨[]⟩/\0<=m/\m<=16/\∃a,ks=[a]/\nodeB a=true/\m+w<=a.W)\/((op=20\/op=21)/\m=0/\nm=⟨[]⟩/\∃a,ks=[a]/\nodeB a=true/\a.W<=w)):=by
 rw[X3,ZfF]at h;obtain⟨h,hk⟩:=h;rw[Ye]at hk;unfold locB shB at h;rcases ks with _|⟨a,_|⟨b,_|⟨c,_|⟨d,l⟩⟩⟩⟩<;>simp[Sw]at h hk⊢<;>grind
end Go.Proofs.YtjhiajehpjpibaaGreatDoor
end
section
namespace Go.Proofs.YtjhiajehpjpibaaGreatDoor
open Go.GL
open Cc (BS LS CircP Grow GoodL Good litN lines negs seqP ifP opP net RelB FOk)
set_option maxRecDepth 100000
variable{fuel:Nat}[FV fuel]
def bitI(v:Int)(k:Nat):Bool:=match shr? v (k:Int)with|some x=>band x 1==1|none=>false
def wordL(w:Nat)(v:Int):List Int:=(List.range w).map λk=>if bitI v k then 1 else-1
def Tc(w:Nat)(v:Int):(wordL w v).length=w:=by simp[wordL]
def atV:List D.Value->Int->Str->Int
 |[],a,_=>a
 |v::l,a,s=>if Str.eqb v.Name s then a+v.W else atV l (a+v.W) s
def varL(vs:List D.Value)(s:Str)(w:Nat):List Int:=(List.range w).map λk:Nat=>atV vs 1 s-(k:Int)
theorem ER(vs:List D.Value)(s:Str)(w:Nat):(varL vs s w).length=w:=by simp[varL]
def fin(op:Int)(w m:Nat)(ks:List (List Int))(s:BS):LS:=
 if op=1 then(negs (ks.getD 0 []),s)
 else if op=2 then if w=16 then(List.replicate w (-1),(s.1,true))else opP s 4 (List.replicate w (-1)) (ks.getD 0 [])
 else if op=17 then seqP (λs p=>ifP s ((ks.getD 0 []).getD 0 0) p.1 p.2) s ((ks.getD 1 []).zip (ks.getD 2 []))
 else if op=18 then(ks.getD 1 []++ks.getD 0 [],s)
 else if op=19 then(((ks.getD 0 []).drop m).take w,s)
 else if op=20 then(ks.getD 0 []++List.replicate (w-(ks.getD 0 []).length) (-1),s)
 else if op=21 then(ks.getD 0 []++List.replicate (w-(ks.getD 0 []).length) ((ks.getD 0 []).getD ((ks.getD 0 []).length-1) 0),s)
 else if(ks.getD 0 []).length=16 then(List.replicate w (-1),(s.1,true))else opP s op (ks.getD 0 []) (ks.getD 1 [])
mutual
def nP(vs:List D.Value):D.Term->BS->LS
 |⟨op,w,m,nm,ks⟩,s=>if op=0 then(wordL w.toNat m,s)else if op=22 then(varL vs nm w.toNat,s)else let r:=nPs vs ks s;fin op w.toNat m.toNat r.1 r.2
def nPs(vs:List D.Value):List D.Term->BS->List (List Int)×BS
 |[],s=>([],s)
 |t::l,s=>let r:=nP vs t s;let q:=nPs vs l r.2;(r.1::q.1,q.2)
end
def Ac(vs:List D.Value)(t:D.Term)(s:BS):nP vs t s=if t.Op=0 then(wordL t.W.toNat t.N,s)else if t.Op=22 then(varL vs t.Name t.W.toNat,s)else fin t.Op t.W.toNat t.N.toNat (nPs vs t.Kids s).1 (nPs vs t.Kids s).2:=by cases t;rw[nP]
def Zaf(vs:List D.Value)(s:BS):nPs vs [] s=([],s):=by rw[nPs]
def Jd(vs:List D.Value)(t:D.Term)(l:List D.Term)(s:BS):nPs vs (t::l) s=((nP vs t s).1::(nPs vs l (nP vs t s).2).1,(nPs vs l (nP vs t s).2).2):=by rw[nPs]
structure VF(vs:List D.Value)(c:D.Circuit):Prop where
 w1:∀v∈vs,1<=v.W
 sum:(vs.map (·.W)).foldl (· + ·) 0=c.Inputs
def TV(vs:List D.Value)(t:D.Term):Prop:=∀p∈vrs t,∃v∈vs,v.Name=p.1/\v.W=p.2
end Go.Proofs.YtjhiajehpjpibaaGreatDoor
end
section
namespace Go.Proofs.YtjhiajehpjpibaaGreatDoor
open Go.GL
open Cc (BS LS CircP Grow GoodL Good litN lines negs seqP ifP opP net RelB FOk Sq XH litN_iff litN_mono ZV)
set_option maxRecDepth 100000
variable{fuel:Nat}[FV fuel]
theorem Zdl{vs:List D.Value}{s:Str}(h1:∀v∈vs,1<=v.W):∀{a:Int},a<=atV vs a s/\atV vs a s<=(vs.map (·.W)).foldl (· + ·) a:=by
 induction vs with
 |nil=>simp[atV]
 |cons v l ih=>
  grind[atV]
theorem Zcx{s:Str}{w:Int}:∀{vs:List D.Value}{a:Int},(∀v∈vs,1<=v.W)->vs.Pairwise (λx y=>x.Name≠y.Name)->(∃v∈vs,v.Name=s/\v.W=w)->a+w<=atV vs a s
 |[],a,_,_,⟨v,hv,_⟩=>by cases hv
 | v::l,a,h1,hp,⟨x,hx,hn,hw⟩=>by
  unfold atV;rw[Zhs]at hp;by_cases c:v.Name=s
  ·grind[Str.eqb,UV]
  ·have e:Str.eqb v.Name s=false:=by simp_all[Sw]
   rcases ZfY.1 hx with rfl|hx
   ·simp_all
   ·have:=Zcx (a:=a+v.W) (λv hv=>h1 v (by simp[hv])) hp.2 ⟨x,hx,hn,hw⟩;grind
theorem Oy:∀(l:List Int)(a b:Int),l.foldl (· + ·) (a+b)=a+l.foldl (· + ·) b
 |[],a,b=>rfl
 |x::l,a,b=>by simp only[Zhk];rw[Int.add_assoc];exact Oy l a (b+x)
def ZcK{vs:List D.Value}{s:BS}{nm:Str}{w:Int}(hs:CircP s.1)(hv:VF vs s.1)(hp:vs.Pairwise λx y=>x.Name≠y.Name)(h:∃v∈vs,v.Name=nm/\v.W=w)(hw:1<=w):GoodL s w.toNat (varL vs nm w.toNat,s):=by
 refine⟨hs,Grow.refl _,ER _ _ _,λx hx=>?_⟩;obtain⟨k,hk,rfl⟩:=Zg5.1 hx;have h1:=Zcx (a:=1) hv.w1 hp h;have h2:=(Zdl (s:=nm) hv.w1 (a:=1)).2;have h3:=Oy (vs.map (·.W)) 1 0;rw[show(1:Int)+0=1 from rfl,hv.sum]at h3;rw[litN_iff];show 1<=Cc.iab (atV vs 1 nm-(k:Int))/\Cc.iab (atV vs 1 nm-(k:Int))<=s.1.Inputs+1+(s.1.Gates.length:Int);grind[Cc.iab]
def Zaq{s:BS}{w:Nat}{v:Int}(hs:CircP s.1):GoodL s w (wordL w v,s):=by
 refine⟨hs,Grow.refl _,Tc _ _,λx hx=>?_⟩;unfold wordL at hx;grind[Sq,XH]
def K2(s:BS)(t:D.Term)(l:List Int):Prop:=l.length=t.W.toNat/\∀x∈l,litN (lines s.1) x=true
def KK(s:BS):List D.Term->List (List Int)->Prop
 |[],[]=>True
 |t::ts,l::ls=>K2 s t l/\KK s ts ls
 |_,_=>False
theorem KK1{s:BS}{t:D.Term}{ts:List D.Term}{ls:List (List Int)}(h:KK s (t::ts) ls):∃l l',K2 s t l/\KK s ts l'/\ls=l::l':=by
 cases ls with
 |nil=>exact h.elim
 |cons l l'=>exact⟨l,l',h.1,h.2,rfl⟩
theorem KK0{s:BS}{ls:List (List Int)}(h:KK s [] ls):ls=[]:=by
 cases ls with
 |nil=>rfl
 |cons l l'=>exact h.elim
def K2.mono{s s':BS}{t:D.Term}{l:List Int}(h:K2 s t l)(g:Grow s.1 s'.1):K2 s' t l:=⟨h.1,λx hx=>litN_mono (h.2 x hx) g.lines⟩
theorem Di{s:BS}{w:Nat}(hs:CircP s.1)(f:Bool):GoodL s w (List.replicate w (-1),(s.1,f)):=⟨hs,Grow.refl _,by simp,λx hx=>by simp_all[Zhu,XH]⟩
def NM{s:BS}{w:Nat}(hs:CircP s.1):∀x∈List.replicate w (-1:Int),litN (lines s.1) x=true:=λx hx=>by simp_all[Zhu,XH]
def Zde{s:BS}{c:Int}{a b:List Int}(hs:CircP s.1)(hc:litN (lines s.1) c=true)(ha:∀x∈a,litN (lines s.1) x=true)(hb:∀x∈b,litN (lines s.1) x=true):FOk (λs p=>ifP s c p.1 p.2) s (a.zip b):=λs' p hc' hg hp=>by
 have h1:=Zin hp;exact Cc.if_good hc' (litN_mono hc hg.lines) (litN_mono (ha _ h1.1) hg.lines) (litN_mono (hb _ h1.2) hg.lines)
def fin_good{s:BS}{t:D.Term}{ls:List (List Int)}(hb:nodeB t=true)(hs:CircP s.1)(h0:t.Op≠0)(h22:t.Op≠22)(hk:KK s t.Kids ls):GoodL s t.W.toNat (fin t.Op t.W.toNat t.N.toNat ls s):=by
 obtain⟨op,w,m,nm,ks⟩:=t;obtain⟨hw,hsh⟩:=ZW hb;simp only at h0 h22 hk⊢;rcases hsh with⟨rfl,-⟩|⟨rfl,-⟩|⟨ho,-,-,a,rfl,ha,haw⟩|⟨h3,h16,-,-,a,b,rfl,ha,hb',hab,h13,h14⟩|⟨rfl,-,-,a,b,c,rfl,ha,hb',hc,ha1,hbw,hcw⟩|⟨rfl,-,-,a,b,rfl,ha,hb',habw⟩|⟨rfl,-,hm0,hm1,a,rfl,ha,haw⟩|⟨ho,-,-,a,rfl,ha,haw⟩
 ·omega
 ·omega
 ·obtain⟨la,r1,k1,hn1,rfl⟩:=KK1 hk;obtain rfl:=KK0 hn1;have hl:la.length=w.toNat:=by rw[k1.1,haw]
  unfold fin;simp only[Zge];rcases ho with rfl|rfl
  ·simp only[ZfR];exact⟨hs,Grow.refl _,by simp_all[Cc.negs_len],Cc.negs_lits k1.2⟩
  ·simp only[show¬((2:Int)=1) by decide,ZfK,ZfR];split
   ·grind[Di]
   ·rename_i h16;have:=Cc.op_good hs (op:=4) (a:=List.replicate w.toNat (-1)) (b:=la) O (by simp[hl]) aa aa (NM hs) k1.2;simp_all[Cc.opW]
 ·obtain⟨la,r1,k1,hn1,rfl⟩:=KK1 hk;obtain⟨lb,r2,k2,hn2,rfl⟩:=KK1 hn1;obtain rfl:=KK0 hn2;have hA:=ZH ha;unfold fin;simp only[Zge,ZgC];rw[ifn,ifn,ifn,ifn,ifn,ifn,ifn];split
  ·simp_all[Di]
  ·rename_i h16';have:=Cc.op_good hs (op:=op) (a:=la) (b:=lb) ⟨h3,h16⟩ (by rw[k1.1,k2.1,hab]) aO aO k1.2 k2.2;have e:Cc.opW op la.length=w.toNat:=by
    unfold Cc.opW;split
    ·omega
    ·rw[k1.1,h13 O]
   simp_all
 ·obtain⟨la,r1,k1,hn1,rfl⟩:=KK1 hk;obtain⟨lb,r2,k2,hn2,rfl⟩:=KK1 hn1;obtain⟨lc,r3,k3,hn3,rfl⟩:=KK1 hn2;obtain rfl:=KK0 hn3;unfold fin;simp only[Zge,ZgC];rw[ifn,ifn,ZfC ax];have hc0:litN (lines s.1) (la.getD 0 0)=true:=k1.2 _ (Cc.getD_mem aO);have g:=Cc.seq_good hs (Zde hs hc0 k2.2 k3.2);rw[ZhI,k2.1,k3.1,hbw,hcw,Zim]at g;exact g
 ·obtain⟨la,r1,k1,hn1,rfl⟩:=KK1 hk;obtain⟨lb,r2,k2,hn2,rfl⟩:=KK1 hn1;obtain rfl:=KK0 hn2;have hA:=ZH ha;have hB:=ZH hb';unfold fin;simp only[Zge,ZgC];rw[ifn,ifn,ifn,ZfC ax];exact⟨hs,Grow.refl _,by rw[ZfI,k1.1,k2.1];omega,λx hx=>(ZfG.1 hx).elim (k2.2 x) (k1.2 x)⟩
 ·obtain⟨la,r1,k1,hn1,rfl⟩:=KK1 hk;obtain rfl:=KK0 hn1;unfold fin;simp only[Zge];rw[ifn,ifn,ifn,ifn,ZfC ax];exact⟨hs,Grow.refl _,by rw[Zga,ZfX,k1.1];omega,λx hx=>k1.2 x (ZgJ (Zhh hx))⟩
 ·obtain⟨la,r1,k1,hn1,rfl⟩:=KK1 hk;have hA:=ZH ha;unfold fin;simp only[Zge];rcases ho with rfl|rfl
  ·rw[ifn,ifn,ifn,ifn,ifn,ZfC ax];exact⟨hs,Grow.refl _,by rw[ZfI,Zg0,k1.1];omega,λx hx=>(ZfG.1 hx).elim (k1.2 x) (NM hs x)⟩
  ·rw[ifn,ifn,ifn,ifn,ifn,ifn,ZfC ax];refine⟨hs,Grow.refl _,by rw[ZfI,Zg0,k1.1];omega,λx hx=>(ZfG.1 hx).elim (k1.2 x) λh=>?_⟩;rw[(Zhu.1 h).2];exact k1.2 _ (Cc.getD_mem aO)
theorem KK.mono{s s':BS}(g:Grow s.1 s'.1):∀{ts:List D.Term}{ls:List (List Int)},KK s ts ls->KK s' ts ls
 |[],[],_=>trivial
 |[],_::_,h=>h.elim
 |_::_,[],h=>h.elim
 |_::_,_::_,h=>⟨h.1.mono g,KK.mono g h.2⟩
def VF.mono{vs:List D.Value}{c c':D.Circuit}(h:VF vs c)(g:Grow c c'):VF vs c':=⟨h.w1,h.sum.trans g.inputs.symm⟩
theorem Na{vs:List D.Value}{t x:D.Term}(h:TV vs t)(ho:t.Op≠22)(hx:x∈t.Kids):TV vs x:=λp hp=>by
 refine h p ?_;rw[VS,ZfD ho];have:∀{l:List D.Term},x∈l->p∈vrss l:=λ{l}=>by
  induction l with
  |nil=>simp
  |cons y l ih=>
   grind[Xm]
 exact this hx
theorem PE{vs:List D.Value}:∀(l:List D.Term)(s:BS),(∀t∈l,∀s:BS,CircP s.1->VF vs s.1->GoodL s t.W.toNat (nP vs t s))->CircP s.1->VF vs s.1->CircP (nPs vs l s).2.1/\Grow s.1 (nPs vs l s).2.1/\KK (nPs vs l s).2 l (nPs vs l s).1
 |[],s,_,hs,_=>by exact⟨hs,Grow.refl _,trivial⟩
 |t::l,s,h,hs,hv=>by
  have g:=h t U s hs hv;obtain⟨q1,q2,q3⟩:=PE l (nP vs t s).2 (λx hx=>h x (by simp[hx])) g.circ (hv.mono g.grow);exact⟨q1,g.grow.trans q2,⟨g.len,λx hx=>litN_mono (g.lits x hx) q2.lines⟩,q3⟩
def nodeK{t:D.Term}(hb:nodeB t=true):∀x∈t.Kids,nodeB x=true:=λx hx=>by
 rw[X3,ZfF,Ye,ZfV]at hb;simp_all
theorem OC{vs:List D.Value}(hp:vs.Pairwise λx y=>x.Name≠y.Name):∀(n:Nat)(t:D.Term)(s:BS),cnt t<=n->nodeB t=true->TV vs t->CircP s.1->VF vs s.1->GoodL s t.W.toNat (nP vs t s):=by
 intro n
 induction n with
 |zero=>simp[Xk]
 | succ n ih=>
  intro t s hc hb ht hs hv;have hw:=ZH hb;rw[Ac];by_cases h0:t.Op=0
  ·simp_all[ZfC,Zaq]
  rw[ZfD h0];by_cases h22:t.Op=22
  ·rw[ZfC h22];refine ZcK hs hv hp (ht (t.Name,t.W) ?_) hw.1;simp_all[VS,ZfC]
  rw[ZfD h22];have hcn:=Xk t;obtain⟨q1,q2,q3⟩:=PE t.Kids s (λx hx s' hs' hv'=>ih x s' (by have:=WC hx;omega) (nodeK hb x hx) (Na ht h22 hx) hs' hv') hs hv;have g:=fin_good hb q1 h0 h22 q3;exact⟨g.circ,q2.trans g.grow,g.len,g.lits⟩
end Go.Proofs.YtjhiajehpjpibaaGreatDoor
end
section
namespace Go.Proofs.YtjhiajehpjpibaaGreatDoor
open Go.GL
open Cc (BS LS CircP Grow GoodL Good litN lines negs seqP ifP opP net RelB FOk FU)
set_option maxRecDepth 100000
variable{fuel:Nat}[FV fuel]
def Du(v:Int)(k:Nat):∃x,shr? v (k:Int)=some x/\bitI v k=(band x 1==1):=by
 have:∃x,shr? v (k:Int)=some x:=by unfold shr?;rw[ifn];exact⟨_,rfl⟩
 obtain⟨x,hx⟩:=this;exact⟨x,hx,by unfold bitI;rw[hx]⟩
def Jy(k:Nat)(v:Int):wordL (k+1) v=wordL k v++[if bitI v k then 1 else-1]:=by unfold wordL;rw[Zhy,ZgA];rfl
def Jv(w:Nat):wordL w 0=List.replicate w (-1):=by
 have:∀k,bitI 0 k=false:=λk=>by
  have h:shr? 0 (k:Int)=some 0:=by unfold shr?;rw[ifn];simp
  unfold bitI;rw[h];exact Cc.band01
 unfold wordL;simp only[this,ZfB,ZfK];rw[List.map_const'];simp
section
variable{fu:Nat}[FU fu]
def IK{w:Nat}(hw:w<=1000)(v:Int):UD fu (w:Int) v=some (wordL w v):=by
 unfold UD;rw[ZG (I:=λk t=>t=((k:Int),wordL k v)) (m:=w) (r:=wordL w v) (λk t hk ht=>?_) (λt ht=>?_) w 0 _ O (by simp[wordL]) fu (Cc.lt_fuel O)]
 ·rfl
 all_goals subst ht
 ·refine⟨_, ?_,rfl⟩;obtain⟨x,hx,hb⟩:=Du v k;have ha:∀y:Int,app? (wordL k v) [y]=some (wordL k v++[y]):=λy=>by
   unfold app?;rw[ZfC (by rw[Tc];simp;unfold room;omega)]
  simp only;rw[ZfC aa,hx];simp only[Zf9];rw[Jy,hb];by_cases c:(band x 1==1)=true
  ·rw[ZfC c,ZfC c,ha,Zb];rfl
  ·rw[ZfD c,ZfD c,ha,Zb];rfl
 ·simp only;rw[ifn]
def IE{w:Nat}(hw:w<=900)(v:Int):Xd fu (w:Int) v=some (wordL w v):=by
 unfold Xd;have hmk:mk? (w:Int) (0:Int)=some (List.replicate w 0):=by
  unfold mk?;rw[ZfC ⟨by omega,by unfold room;omega⟩];rfl
 rw[hmk];simp only[Zf9];rw[ZG (I:=λk t=>t=((k:Int),wordL k v++List.replicate (w-k) 0)) (m:=w) (r:=wordL w v) (λk t hk ht=>?_) (λt ht=>?_) w 0 _ O (by simp[wordL]) fu (Cc.lt_fuel O)]
 ·rfl
 all_goals subst ht
 ·refine⟨_, ?_,rfl⟩;obtain⟨x,hx,hb⟩:=Du v k;have e:∀y:Int,(wordL k v++List.replicate (w-k) 0).set k y=(wordL k v++[y])++List.replicate (w-(k+1)) 0:=λy=>by
   have:=Cc.set_fill (l:=wordL k v) (n:=w-(k+1)) (x:=y);rw[Tc,show w-(k+1)+1=w-k by omega]at this;exact this
  have e2:∀y z:Int,((wordL k v++[y])++List.replicate (w-(k+1)) 0).set k z=(wordL k v++[z])++List.replicate (w-(k+1)) 0:=λy z=>by
   rw[ZfO,ZgI _ _ (by rw[Tc];omega),Tc,Zhm,Zgq,Zht,ZfO,Zgq]
  simp only;rw[ZfC ai,set?_nat (by simp[Tc];omega)];simp only[Zf9];rw[Cc.u64k O,hx];simp only[Zf9];rw[e,Jy,hb];by_cases c:(band x 1==1)=true
  ·rw[ZfC c,ZfC c,set?_nat (by simp[Tc]<;>omega),e2];simp only[Zf9];rw[Zb];rfl
  ·rw[ZfD c,ZfD c,Zb];rfl
 ·simp only;rw[ZfD ar];simp
def at_loop{vs:List D.Value}{s:Str}(hl:vs.length<=1000)(hw:∀v∈vs,1<=v.W/\v.W<=16):iterN (λ(s1:Int×Int)=>if(decide (s1.2<(len vs)))then(get? vs s1.2).bind λx2=>if(Str.eqb x2.Name s)then some (.inr ((w64 (s1.1+x2.W))))else some (.inl ((w64 (s1.1+x2.W)),(w64 (s1.2+1))))else some (.inr (s1.1))) fu (1,0)=some (atV vs 1 s):=by
  refine VQ (l:=vs) (n:=fu) (σ:=Int) (λk a=>(a,(k:Int))) (λys a=>atV ys a s=atV vs 1 s/\1<=a/\a<=1+16*(vs.length-ys.length:Int)/\∀y∈ys,y∈vs) (λr=>r=atV vs 1 s)
    (λk x xs a hk hx hlen⟨h1,h2,h3,h4⟩=>by
      have hd:decide ((k:Int)<len vs)=true:=by rw[Za];simp;omega
      have hxw:=hw x (h4 x U);simp only[ZfS]at hlen h3;simp only[hd,ZfR,get?_nat,hx,Zf9];have e1:w64 (a+x.W)=a+x.W:=Zb;rw[e1];have h1:(if Str.eqb x.Name s=true then a+x.W else atV xs (a+x.W) s)=atV vs 1 s:=h1;cases c:Str.eqb x.Name s
      · rw[c]at h1
        simp only[ZfB,ZfK]at h1⊢;exact .inl ⟨a+x.W,by rw[Zb];rfl,h1,by omega,by omega,λy hy=>h4 y ao⟩
      · rw[c]at h1
        simp only[ZfR]at h1⊢
        exact .inr ⟨_,rfl,h1⟩)
    (λa⟨h1,_⟩=>by
      have hd:decide ((vs.length:Int)<len vs)=false:=by rw[Za];simp
      simp only[hd,ZfB,ZfK]
      exact⟨_,rfl,h1⟩) (a:=1) ⟨rfl,by omega,by omega,λy h=>h⟩ (Cc.lt_fuel O) λr g2=>?_
  rw[g2]
def ZaX{a:Int}{w:Nat}(hw:w<=16)(h1:1<=a)(h2:a<=100000):iterN (λ(s2:Int×(List Int))=>if(decide (s2.1<(w:Int)))then(app? s2.2 ([(w64 (a-s2.1))]:List Int)).bind λx3=>some (.inl ((w64 (s2.1+1)),x3))else some (.inr (s2.2))) fu (0,([]:List Int))=some ((List.range w).map λk:Nat=>a-(k:Int)):=by
  rw[ZG (I:=λk t=>t=((k:Int),(List.range k).map λk:Nat=>a-(k:Int))) (m:=w) (r:=(List.range w).map λk:Nat=>a-(k:Int)) (λk t hk ht=>?_) (λt ht=>?_) w 0 _ O U fu (Cc.lt_fuel O)]
  all_goals subst ht
  · refine⟨_, ?_,rfl⟩
    simp only;have ha:∀y:Int,app? ((List.range k).map λk:Nat=>a-(k:Int)) [y]=some (((List.range k).map λk:Nat=>a-(k:Int))++[y]):=λy=>by
      unfold app?;rw[ZfC (by simp;unfold room;omega)]
    rw[ZfC aa,Zb (x:=a-(k:Int)),ha];simp only[Zf9];rw[Zb,Zhy,ZgA];rfl
  · simp only
    rw[ifn]
end
end Go.Proofs.YtjhiajehpjpibaaGreatDoor
end
section
namespace Go.Proofs.YtjhiajehpjpibaaGreatDoor
open Go.GL
open Cc (BS LS CircP Grow GoodL Good litN lines negs seqP ifP opP net RelB FOk FU)
set_option maxRecDepth 100000
variable{fuel:Nat}[FV fuel]
theorem FB:∀{l:List D.Value}{a:Int},(∀v∈l,1<=v.W)->a+l.length<=(l.map (·.W)).foldl (· + ·) a
 |[],a,_=>by simp
 |v::l,a,h=>by
  have:=FB (l:=l) (a:=a+v.W) λx hx=>h x (by simp[hx]);grind
def Tk{c c':D.Circuit}{x:Int}(h:litN (lines c) x=true)(g:Grow c c'):litN (lines c') x=true:=Cc.litN_mono h g.lines
section
variable{n:Nat}[FU n]{s:BS}
def Ah{l:List Int}{m w:Nat}(h:m+w<=l.length)(hl:l.length<=1000):cut? l (m:Int) (w64 ((m:Int)+(w:Int)))=some ((l.drop m).take w):=by
 rw[Zb];unfold cut?;rw[ZfC ⟨by omega,by omega,by omega⟩];have e1:((m:Int)+(w:Int)).toNat=m+w:=by omega
 rw[e1,Zgr,ZhZ,Nat.add_sub_cancel_left]
theorem Pi{l m:List Int}(h:l.length+m.length<=1000):app? l m=some (l++m):=by unfold app?;rw[ZfC aD]
def g0{α:Type}{a:α}{l:List α}:get? (a::l) 0=some a:=rfl
def g1{α:Type}{a b:α}{l:List α}:get? (a::b::l) 1=some b:=rfl
def g2{α:Type}{a b c:α}{l:List α}:get? (a::b::c::l) 2=some c:=rfl
def ZcO{l:List Int}(h:1<=l.length)(h2:l.length<=1000):get? l (w64 (len l-1))=some (l.getD (l.length-1) 0):=by
 rw[Za,Zb,show(l.length:Int)-1=((l.length-1:Nat):Int) by omega,get?_nat,Cc.getD_get O]
end
section
variable{vs:List D.Value}(hp:vs.Pairwise λx y=>x.Name≠y.Name)(hw16:∀v∈vs,v.W<=16)
include hp hw16
theorem ZcX:∀(n:Nat)(t:D.Term)(s:BS),1048600+cnt t<=n->nodeB t=true->TV vs t->CircP s.1->VF vs s.1->Yh n (net s) t vs=some ((nP vs t s).1,net (nP vs t s).2):=by
 intro n
 induction n with
 |zero=>omega
 | succ n ih=>
  intro t s hn hb ht hs hv
  haveI:FU n:=⟨by omega⟩
  have hw:=ZH hb;have hcn:=Xk t;have hlen:vs.length<=30:=by have:=FB (l:=vs) (a:=0) hv.w1;have:=hv.sum;have:=hs.i1;omega
  have eW:((t.W.toNat:Nat):Int)=t.W:=by omega
  rw[Yh,Ac];by_cases h0:t.Op=0
  ·rw[ZfC ah,ZfC h0,<-eW,IK O];rfl
  rw[ZfD ah,ZfD h0];by_cases h22:t.Op=22
  ·rw[ZfC ah,ZfC h22,at_loop O (λv hv'=>⟨hv.w1 v hv',hw16 v hv'⟩)];simp only[Zf9];have h1:=(Zdl (s:=t.Name) hv.w1 (a:=1));have h2:=Oy (vs.map (·.W)) 1 0;rw[show(1:Int)+0=1 from rfl,hv.sum]at h2;rw[h2]at h1;have:=hs.i1;rw[<-eW,ZaX O h1.1 O];rfl
  rw[ZfD ah,ZfD h22];have hkg:∀x∈t.Kids,∀s:BS,CircP s.1->VF vs s.1->GoodL s x.W.toNat (nP vs x s):=λx hx s' hs' hv'=>OC hp _ x s' (ZfP _) (nodeK hb x hx) (Na ht h22 hx) hs' hv';obtain⟨q1,q2,q3⟩:=PE t.Kids s hkg hs hv;have hkl:t.Kids.length<=3:=by
   obtain⟨op,w,m,nm,ks⟩:=t;obtain⟨-,hsh⟩:=ZW hb;grind
  refine Y5 (l:=t.Kids) (n:=n) (σ:=List (List Int)×BS) (λk a=>((k:Int),a.1,a.2.1.Inputs,a.2.2,a.2.1.Gates))
   (λys a=>a.1++(nPs vs ys a.2).1=(nPs vs t.Kids s).1/\(nPs vs ys a.2).2=(nPs vs t.Kids s).2/\CircP a.2.1/\VF vs a.2.1/\a.1.length+ys.length=t.Kids.length/\∀y∈ys,y∈t.Kids)
   (λr=>r=((nPs vs t.Kids s).1,(nPs vs t.Kids s).2.1.Inputs,(nPs vs t.Kids s).2.2,(nPs vs t.Kids s).2.1.Gates))
   (λk x xs a hk hx hlen'⟨h1,h2,h3,h4,h5,h6⟩=>by
    have hd:decide ((k:Int)<len t.Kids)=true:=by rw[Za];simp;omega
    have hxk:=h6 x U;have hc:=WC hxk;have e:=ih x a.2 O (nodeK hb x hxk) (Na ht h22 hxk) h3 h4;have e':Yh n (D.l04Net.mk (D.Circuit.mk a.2.1.Inputs a.2.1.Gates) a.2.2) x vs=_:=e;have g:=hkg x hxk a.2 h3 h4;simp only[ZfS]at h5;simp only[hd,ZfR,get?_nat,hx,Zf9,e'];rw[show app? a.1 [(nP vs x a.2).1]=some (a.1++[(nP vs x a.2).1])from by unfold app?;rw[ZfC (by simp;unfold room;omega)]];simp only[Zf9];rw[Zb];rw[Jd]at h1 h2
    exact .inl ⟨(a.1++[(nP vs x a.2).1],(nP vs x a.2).2),rfl,by rw[<-h1];simp,h2,g.circ,h4.mono g.grow,by simp;omega,λy hy=>h6 y ao⟩)
   (λa⟨h1,h2,h3,h4,h5,h6⟩=>by
    have hd:decide ((t.Kids.length:Int)<len t.Kids)=false:=by rw[Za];simp
    simp only[hd,ZfB,ZfK];rw[Zaf]at h1 h2;simp only[Zgb]at h1
    exact⟨_,rfl,by rw[<-h1,<-h2]⟩) (a:=([],s)) ⟨by simp,rfl,hs,hv,by simp,λ_ h=>h⟩ O λr g2=>?_
  subst g2;clear ih hkg hv hs hkl eW hw hcn ht hn;generalize nPs vs t.Kids s=z at q1 q2 q3⊢;obtain⟨ls,s⟩:=z;have hs:=q1;have hk:=q3;clear q1 q2 q3;simp only at hs hk⊢;obtain⟨op,w,m,nm,ks⟩:=t;obtain⟨hw,hsh⟩:=ZW hb;simp only at h0 h22 hk⊢;have eW:((w.toNat:Nat):Int)=w:=by omega
  rcases hsh with⟨rfl,-⟩|⟨rfl,-⟩|⟨ho,-,-,a,rfl,ha,haw⟩|⟨h3,h16,-,-,a,b,rfl,ha,hb',hab,h13,h14⟩|⟨rfl,-,-,a,b,c,rfl,ha,hb',hc,ha1,hbw,hcw⟩|⟨rfl,-,-,a,b,rfl,ha,hb',habw⟩|⟨rfl,-,hm0,hm1,a,rfl,ha,haw⟩|⟨ho,-,-,a,rfl,ha,haw⟩
  ·exact absurd rfl h0
  ·exact absurd rfl h22
  ·obtain⟨la,r1,k1,hn1,rfl⟩:=KK1 hk;obtain rfl:=KK0 hn1;have hl:la.length=w.toNat:=by rw[k1.1,haw]
   rw[g0];simp only[Zf9];unfold fin;simp only[Zge];rcases ho with rfl|rfl
   ·rw[ZfC ap,ZfC ax,Cc.spec_not hs.lines1 O k1.2];rfl
   ·rw[ifn,ZfC ap,ifn,ZfC ax,<-eW,IK O,Jv];simp only[Zf9,g0,g1,Zgr,Za,Zg0];by_cases c:w.toNat=16
    ·rw[ZfC aa,ZfC c,Cc.spec_fill O];rfl
    ·rw[ZfD aa,ZfD c];have:=Cc.spec_op (fuel:=n) hs (op:=4) (a:=List.replicate w.toNat (-1)) (b:=la) O (by simp[hl]) aa aa (NM hs) k1.2;have this':YH n (D.l04Net.mk (D.Circuit.mk s.1.Inputs s.1.Gates) s.2) (cond ((2:Int)==2) 4 2) (List.replicate w.toNat (-1)) la=_:=this;rw[this'];rfl
  ·obtain⟨la,r1,k1,hn1,rfl⟩:=KK1 hk;obtain⟨lb,r2,k2,hn2,rfl⟩:=KK1 hn1;obtain rfl:=KK0 hn2;have hA:=ZH ha;unfold fin;simp only[Zge,ZgC,g0,g1,Zf9];have bb:∀k:Int,k<=2\/17<=k->(op==k)=false:=λk hk=>by simp;omega
   have cc:∀k:Int,k<=2\/17<=k->¬op=k:=λk hk=>by omega
   simp only[bb 1 O,bb 2 O,bb 17 O,bb 18 O,bb 19 O,bb 20 O,bb 21 O,cc 1 O,cc 2 O,cc 17 O,cc 18 O,cc 19 O,cc 20 O,cc 21 O,ZfB,ZfK,cond_false];have hla:=k1.1;by_cases c:la.length=16
   ·rw[ZfC ai,ZfC c,<-eW,Cc.spec_fill O];simp only[Zgr];rfl
   ·rw[ZfD ai,ZfD c];have:=Cc.spec_op (fuel:=n) hs (op:=op) (a:=la) (b:=lb) ⟨h3,h16⟩ (by rw[k1.1,k2.1,hab]) O O k1.2 k2.2;have this':YH n (D.l04Net.mk (D.Circuit.mk s.1.Inputs s.1.Gates) s.2) op la lb=_:=this;rw[this'];rfl
  ·obtain⟨la,r1,k1,hn1,rfl⟩:=KK1 hk;obtain⟨lb,r2,k2,hn2,rfl⟩:=KK1 hn1;obtain⟨lc,r3,k3,hn3,rfl⟩:=KK1 hn2;obtain rfl:=KK0 hn3;unfold fin;simp only[Zge,ZgC,g0,g1,g2,Zf9];rw[ifn,ifn,ZfC ap];rw[ifn,ifn,ZfC ax];have hla:=k1.1;have hlb:=k2.1;have hlc:=k3.1;rw[ha1]at hla;rw[hbw]at hlb;rw[hcw]at hlc;have hl1:la.length=1:=by simpa using hla
   have hg0:get? la 0=some (la.getD 0 0):=by
    obtain⟨z,hz⟩:=List.length_eq_one_iff.1 hl1;rw[hz];rfl
   have hc0:litN (lines s.1) (la.getD 0 0)=true:=k1.2 _ (Cc.getD_mem O);have hz:(lb.zip lc).length=w.toNat:=by rw[ZhI,hlb,hlc,Zim]
   rw[Cc.spec_seq (fuel:=n) hs O (Zde hs hc0 k2.2 k3.2) (λj out s' x hx hc' hg hout=>?_) (λout s'=>?_)]
   ·rfl
   ·have hj:j<w.toNat:=by have:=(ZfE.1 hx).1;omega
    have hz2:=Cc.zip_mem hx;have e:=Cc.spec_if (fuel:=n) hc' (Tk hc0 hg) (Tk (k2.2 _ (ZfH hz2.1)) hg) (Tk (k3.2 _ (ZfH hz2.2)) hg);have e':Ya n (D.l04Net.mk (D.Circuit.mk s'.1.Inputs s'.1.Gates) s'.2) (la.getD 0 0) x.1 x.2=_:=e;simp only;rw[ZfC aa,hg0];simp only[Zf9];rw[get?_nat,get?_nat,hz2.1,hz2.2];simp only[Zf9,e'];rw[Pi aa];simp only[Zf9];rw[Zb];rfl
   ·simp only;rw[ZfD aa]
  ·obtain⟨la,r1,k1,hn1,rfl⟩:=KK1 hk;obtain⟨lb,r2,k2,hn2,rfl⟩:=KK1 hn1;obtain rfl:=KK0 hn2;have hA:=ZH ha;have hB:=ZH hb';have hla:=k1.1;have hlb:=k2.1;unfold fin;simp only[Zge,ZgC,g0,g1,Zf9];rw[ifn,ifn,ifn,ZfC ap];rw[ifn,ifn,ifn,ZfC ax];rw[Pi aa];simp only[Zf9,Zhx];rw[Pi O];rfl
  ·obtain⟨la,r1,k1,hn1,rfl⟩:=KK1 hk;obtain rfl:=KK0 hn1;have hA:=ZH ha;have hla:=k1.1;unfold fin;simp only[Zge,g0,Zf9];rw[ifn,ifn,ifn,ifn,ZfC ap];rw[ifn,ifn,ifn,ifn,ZfC ax];have:=Ah (l:=la) (m:=m.toNat) (w:=w.toNat) O O;rw[show((m.toNat:Nat):Int)=m by omega,eW]at this;rw[this];rfl
  ·obtain⟨la,r1,k1,hn1,rfl⟩:=KK1 hk;obtain rfl:=KK0 hn1;have hA:=ZH ha;have hla:=k1.1;have e:w64 (w-len la)=((w.toNat-la.length:Nat):Int):=by rw[Za,Zb];omega
   unfold fin;simp only[Zge,g0,Zf9];rcases ho with rfl|rfl
   ·rw[ifn,ifn,ifn,ifn,ifn,ZfC ap];rw[ifn,ifn,ifn,ifn,ifn,ZfC ax];rw[Pi aa,e,Cc.spec_fill O];simp only[Zf9,Zhx];rw[Pi aa];rfl
   ·rw[ifn,ifn,ifn,ifn,ifn,ifn,ZfC ap];rw[ifn,ifn,ifn,ifn,ifn,ifn,ZfC ax];rw[Pi aa,ZcO O O];simp only[Zf9,Zhx];rw[e,Cc.spec_fill O];simp only[Zf9];rw[Pi aa];rfl
end
end Go.Proofs.YtjhiajehpjpibaaGreatDoor
end
