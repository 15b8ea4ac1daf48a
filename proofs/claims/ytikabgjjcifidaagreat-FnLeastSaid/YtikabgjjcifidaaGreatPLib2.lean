/- Texts of this claim put into one: library or plain laws, without the program under test. -/
import Derived.Test.YtikabgjjcifidaaGreatPLib1
import Derived.Lib.Strings
import Derived.Test.YtikabgjjcifidaaGreatLib3
set_option linter.unusedSimpArgs false
set_option linter.unusedVariables false
set_option linter.defProp false
section
namespace Go.Proofs.YtikabgjjcifidaaGreat
open Go.GL
theorem DR:∀x:List UInt8,Op.bytesLess x x=false
 |[]=>rfl
 |a::x=>by simp[Op.bytesLess,DR x]
theorem Jo:∀x y z:List UInt8,Op.bytesLess x y=true->Op.bytesLess y z=true->Op.bytesLess x z=true
 |_,_,[]=>by intro _ h;cases ‹List UInt8› <;>simp[Op.bytesLess]at h
 |_,[],_::_=>by intro h _;cases ‹List UInt8› <;>simp[Op.bytesLess]at h
 |[],_::_,_::_=>by intro _ _;rfl
 | a::x,b::y,c::z=>by
  intro h1 h2;simp only[Op.bytesLess,Zcr,Zb8,Zbt,ZcF]at h1 h2⊢;rcases h1 with h1|⟨rfl,h1⟩
  ·rcases h2 with h2|⟨rfl,h2⟩
   ·exact .inl (UInt8.lt_trans h1 h2)
   ·exact .inl h1
  ·rcases h2 with h2|⟨rfl,h2⟩
   ·exact .inl h2
   ·exact .inr ⟨rfl,Jo x y z h1 h2⟩
theorem Cq:∀x y:List UInt8,Op.bytesLess x y=false->x≠y->Op.bytesLess y x=true
 |[],[]=>λ_ h=>absurd rfl h
 |_::_,[]=>λ_ _=>rfl
 |[],_::_=>λh _=>by simp[Op.bytesLess]at h
 | a::x,b::y=>by
  intro h1 h2;simp only[Op.bytesLess,Zd5,decide_eq_false_iff_not,Zcr,Zb8,Zbt,ZcF]at h1⊢;by_cases e:a=b
  ·subst e;have:Op.bytesLess x y=false:=by simpa using h1.2
   exact .inr ⟨rfl,Cq x y this (λh=>h2 (by rw[h]))⟩
  ·rcases UInt8.lt_or_lt_of_ne e with h|h
   ·exact absurd h h1.1
   ·exact .inl h
def toList_mk(l:List UInt8):(ByteArray.mk l.toArray).toList=l:=by
 exact(Lib.toList_data _)
def IA(a b:Str):Str.ltb a b=Op.bytesLess a.bytes b.bytes:=by unfold Str.ltb;rw[toList_mk,toList_mk]
def Tm(a b:Str):Str.eqb a b=decide (a=b):=by
 unfold Str.eqb;rw[toList_mk,toList_mk];by_cases h:a=b
 ·subst h;simp
 ·have:a.bytes≠b.bytes:=λe=>h (by cases a;cases b;simpa using e);simp[h,this]
def ZaI(a:Str):Str.ltb a a=false:=by rw[IA];exact DR _
def lt_trans{a b c:Str}(h1:Str.ltb a b=true)(h2:Str.ltb b c=true):Str.ltb a c=true:=by rw[IA]at*;exact Jo _ _ _ h1 h2
def Zaw{a b:Str}(h1:Str.ltb a b=false)(h2:a≠b):Str.ltb b a=true:=by
 rw[IA]at*;exact Cq _ _ h1 λe=>h2 (by cases a;cases b;simpa using e)
mutual
def vrs:D.Term->List (Str×Int)
 |⟨o,w,_,s,k⟩=>if o=22 then[(s,w)]else vrss k
def vrss:List D.Term->List (Str×Int)
 |[]=>[]
 |x::l=>vrs x++vrss l
end
def Vs(t:D.Term):vrs t=if t.Op=22 then[(t.Name,t.W)]else vrss t.Kids:=by cases t;rw[vrs]
theorem WE(x:D.Term)(l:List D.Term):vrss (x::l)=vrs x++vrss l:=by rw[vrss]
def UJ:vrss []=[]:=by rw[vrss]
def stp(g:List (Str×Int))(v:Str×Int):Option (List (Str×Int)):=
 match g.lookup v.1 with
 |some w=>if w=v.2 then some g else none
 |none=>some (v::g)
def runV(g:List (Str×Int)):List (Str×Int)->Option (List (Str×Int))
 |[]=>some g
 |v::l=>(stp g v).bind λg'=>runV g' l
theorem KM(l m:List (Str×Int)):∀g,runV g (l++m)=(runV g l).bind λg'=>runV g' m:=by
 induction l with
 |nil=>intro g;rfl
 |cons v l ih=>
  intro g;simp only[Zdk,runV];cases stp g v with
  |none=>rfl
  |some g'=>simp only[Zbn];exact ih g'
def Ht{g g':List (Str×Int)}{v:Str×Int}(h:stp g v=some g'):g'.length<=g.length+1:=by
 unfold stp at h;split at h
 ·split at h
  ·cases h;omega
  ·cases h
 ·cases h;simp
theorem OH:∀{l g g':List (Str×Int)},runV g l=some g'->g'.length<=g.length+l.length
 |[],g,g',h=>by simp only[runV,Option.some.injEq]at h;subst h;simp
 |v::l,g,g',h=>by
  simp only[runV,ZbG]at h;obtain⟨g1,h1,h2⟩:=h;have:=Ht h1;have:=OH h2;simp only[Zb6];omega
def Rel(l:List D.Value)(g:List (Str×Int)):Prop:=
 l.Pairwise (λa b=>Str.ltb a.Name b.Name=true)/\l.length=g.length/\(∀v∈l,g.lookup v.Name=some v.W)/\∀s w,g.lookup s=some w->∃v∈l,v.Name=s
def before(s:Str)(l:List D.Value):Nat:=(l.takeWhile λv=>Str.ltb v.Name s).length
def QW(s:Str)(l:List D.Value):before s l<=l.length:=(List.takeWhile_sublist _).length_le
theorem SV{s:Str}:∀{l:List D.Value}{i:Nat}{v:D.Value},i<before s l->l[i]? =some v->Str.ltb v.Name s=true
 |[],i,v,h,hv=>by simp at hv
 | x::l,i,v,h,hv=>by
  unfold before at h;rw[List.takeWhile_cons]at h;split at h
  ·cases i with
   |zero=>simp at hv;subst hv;assumption
   |succ i=>exact SV (l:=l) (i:=i) (by unfold before;simpa using h) (by simpa using hv)
  ·simp at h
theorem Rb{s:Str}:∀{l:List D.Value}{v:D.Value},l[before s l]? =some v->Str.ltb v.Name s=false
 |[],v,hv=>by simp at hv
 | x::l,v,hv=>by
  unfold before at hv;rw[List.takeWhile_cons]at hv;by_cases h:Str.ltb x.Name s=true
  ·rw[Zbq h]at hv;exact Rb (l:=l) (by unfold before;simpa using hv)
  ·rw[Zbv h]at hv;simp at hv;subst hv;simpa using h
def EO{l:List D.Value}{s:Str}{n:Nat}(hl:l.length<=1048576)(hn:l.length<n):iterN (λ(s1:Int)=>(if(decide (s1<(len l)))then(get? l s1)else some default).bind λx1=>if((decide (s1<(len l)))&&(Str.ltb x1.Name s))then some (.inl ((w64 (s1+1))))else some (.inr (s1))) n (0)=some (before s l:Int):=by
 obtain⟨r,g1,g2⟩:=Yn (l:=l) (n:=n) (Z:=Unit) (ρ:=Int) (B:=λ(s1:Int)=>(if(decide (s1<(len l)))then(get? l s1)else some default).bind λx1=>if((decide (s1<(len l)))&&(Str.ltb x1.Name s))then some (.inl ((w64 (s1+1))))else some (.inr (s1))) (λk _=>(k:Int)) (λys _=>l.length<=before s l+ys.length) (λr=>r=(before s l:Int))
  (λk x xs a hk' hx hlen hi=>by
   simp only[Zb6]at hlen hi;have hd:decide ((k:Int)<len l)=true:=by rw[Za];simp;omega
   rw[Zbq hd,get?_nat,hx];simp only[Zbn,hd,Zcn];by_cases c:Str.ltb x.Name s=true
   ·refine .inl ⟨(),by rw[Zbq c,Zb];rfl, ?_⟩;have:k≠before s l:=λe=>by
     rw[e]at hx;rw[Rb hx]at c;cases c
    omega
   ·refine .inr ⟨(k:Int),by rw[Zbv c], ?_⟩;have:¬k<before s l:=λh=>c (SV h hx)
    omega)
  (λa hi=>by
   have hd:decide ((l.length:Int)<len l)=false:=by rw[Za];simp
   simp only[hd,Zbp,Zbx,Zbn,ZdS];have:=QW s l
   exact⟨_,rfl,by simp at hi;omega⟩) (a:=()) (by omega) hn
 rw[show((0:Nat):Int)=0 from rfl]at g1;rw[g1,g2]
theorem Rel.none{l:List D.Value}{g:List (Str×Int)}{s:Str}(h:Rel l g)(hn:∀v,l[before s l]? =some v->v.Name≠s):g.lookup s=none:=by
 cases e:g.lookup s with
 |none=>rfl
 | some w=>
  exfalso;obtain⟨v,hv,rfl⟩:=h.2.2.2 s w e;obtain⟨j,hj⟩:=Zcq.1 hv;rcases Zet j (before v.Name l)with h1|h1|h1
  ·have:=SV h1 hj;rw[ZaI]at this;cases this
  ·rw[h1]at hj;exact hn v hj rfl
  ·obtain⟨hj',e2⟩:=Zbu.1 hj;have hu:l[before v.Name l]? =some l[before v.Name l]:=Zbo (by omega);have h2:=Rb hu;have h3:=ZcS.1 h.1 _ _ (by omega) hj' h1;rw[e2]at h3;rw[h2]at h3;cases h3
def Rel.put{l:List D.Value}{g:List (Str×Int)}{s:Str}{w:Int}(h:Rel l g)(hn:∀v,l[before s l]? =some v->v.Name≠s):Rel (l.take (before s l)++[⟨s,w,0⟩]++l.drop (before s l)) ((s,w)::g):=by
 have hno:=h.none hn;have hb:=QW s l;have hlt:∀v∈l.take (before s l),Str.ltb v.Name s=true:=λv hv=>by
  obtain⟨j,hj⟩:=Zcq.1 hv;rw[Zci]at hj;split at hj
  ·exact SV (by assumption) hj
  ·cases hj
 have hgt:∀v∈l.drop (before s l),Str.ltb s v.Name=true:=λv hv=>by
  obtain⟨j,hj⟩:=Zcq.1 hv;rw[Zc1]at hj;obtain⟨hj',e2⟩:=Zbu.1 hj;have hu:l[before s l]? =some l[before s l]:=Zbo (by omega);have h1:=Zaw (Rb hu) (hn _ hu);rcases Nat.eq_zero_or_pos j with rfl|hp
  ·simp only[ZcP]at e2;rw[<-e2];exact h1
  ·have h3:=ZcS.1 h.1 _ _ (by omega) hj' (show before s l<before s l+j by omega);rw[e2]at h3;exact lt_trans h1 h3
 have hmem:∀v,v∈l.take (before s l)++[⟨s,w,0⟩]++l.drop (before s l)↔v=⟨s,w,0⟩\/v∈l:=λv=>by
  have:v∈l↔v∈l.take (before s l)\/v∈l.drop (before s l):=by
   rw[<-Zb7,Zcw]
  simp only[Zb7,Zb3,this];grind
 have hp:(l.take (before s l)++l.drop (before s l)).Pairwise (λa b=>Str.ltb a.Name b.Name=true):=by rw[Zcw];exact h.1
 rw[Zdr]at hp;refine⟨?_,?_,λv hv=>?_,λs' w' hs=>?_⟩
 ·rw[ZbI,Zdr];refine⟨hp.1,?_,λa ha b hb=>?_⟩
  ·rw[Zcp,ZcW];exact⟨λb hb=>hgt b hb,hp.2.1⟩
  ·rw[Zcp]at hb;rcases ZbN.1 hb with rfl|hb
   ·exact hlt a ha
   ·exact hp.2.2 a ha b hb
 ·have:=h.2.1;simp;omega
 ·rcases(hmem v).1 hv with rfl|hv
  ·simp
  ·have h1:=h.2.2.1 v hv;have:v.Name≠s:=λe=>by rw[e,hno]at h1;cases h1
   rw[Zcc];have:(v.Name==s)=false:=by simpa using this
   rw[this];exact h1
 ·rw[Zcc]at hs;by_cases e:s'=s
  ·exact⟨_,(hmem _).2 (.inl rfl),e.symm⟩
  ·have:(s'==s)=false:=by simpa using e
   rw[this]at hs;obtain⟨v,h1,h2⟩:=h.2.2.2 s' w' hs;exact⟨v,(hmem _).2 (.inr h1),h2⟩
theorem AR:∀n:Nat,(∀t:D.Term,msz t<n->(vrs t).length<=cnt t)/\∀l:List D.Term,l.length+mszs l<n->(vrss l).length<=cnts l:=by
 intro n
 induction n with
 |zero=>exact⟨λ_ h=>by omega,λ_ h=>by omega⟩
 | succ n ih=>
  have hT:∀t:D.Term,msz t<n+1->(∀l:List D.Term,l.length+mszs l<n+1->(vrss l).length<=cnts l)->(vrs t).length<=cnt t:=λt h hl=>by
   have:=UH t;rw[Vs,X8];split
   ·simp
   ·have:=hl t.Kids (by omega);omega
  have hL:∀l:List D.Term,l.length+mszs l<n+1->(vrss l).length<=cnts l:=λl h=>by
   cases l with
   |nil=>rw[UJ,SC];simp
   |cons x l=>
    rw[Y0]at h;simp only[Zb6]at h;rw[WE,UV,Zbw];have h1:=ih.1 x (by omega);have h2:=ih.2 l (by omega);omega
  exact⟨λt h=>hT t h hL,hL⟩
theorem OO(t:D.Term):(vrs t).length<=cnt t:=(AR (msz t+1)).1 t (by omega)
theorem NG:∀(n:Nat)(t:D.Term)(l:List D.Value)(g:List (Str×Int)),msz t<=1048576->Rel l g->g.length+(vrs t).length<=1000->1048580+cnt t<=n->
  ∃l' b,Yt n t l=some (l',b)/\(b=true->∃g',runV g (vrs t)=some g'/\Rel l' g')/\(b=false->runV g (vrs t)=none):=by
 intro n
 induction n with
 |zero=>intro t l g _ _ _ _;omega
 | succ n ih=>
  intro t l g hs hr hg hn;have hz:=UH t;have hc:=X8 t;have hlen:=hr.2.1;unfold Yt;by_cases ho:t.Op=22
  ·rw [Zbq (by simpa using ho),EO (by omega) (by omega)]
   simp only[Zbn];have hb:=QW t.Name l;have hv:vrs t=[(t.Name,t.W)]:=by rw[Vs,Zbq ho]
   rw[hv];have hrun:runV g [(t.Name,t.W)]=stp g (t.Name,t.W):=by
    simp only[runV];cases stp g (t.Name,t.W)<;>rfl
   rw[hrun];by_cases hf:∃v,l[before t.Name l]? =some v/\v.Name=t.Name
   ·obtain⟨v,hv1,hv2⟩:=hf;obtain⟨hlt,-⟩:=Zbu.1 hv1;have hd:decide ((before t.Name l:Int)<len l)=true:=by rw[Za];simp;omega
    have hk:g.lookup t.Name=some v.W:=by rw[<-hv2];exact hr.2.2.1 v (Zbz hv1)
    simp only[hd,Zb5,get?_nat,hv1,Zbn,Zcn,Tm,hv2,decide_true];refine⟨_,_,rfl,λh=>⟨g,?_,hr⟩,λh=>?_⟩
    ·unfold stp;rw[hk];simp only;rw[Zbq (by simpa using h)]
    ·unfold stp;rw[hk];simp only;rw[Zbv (by simpa using h)]
   ·have hne:∀v,l[before t.Name l]? =some v->v.Name≠t.Name:=λv h e=>hf ⟨v,h,e⟩;have hno:=hr.none hne;have hx:∃x2,(if(decide ((before t.Name l:Int)<(len l)))=true then(get? l (before t.Name l:Int))else some default)=some x2/\(decide ((before t.Name l:Int)<(len l))&&Str.eqb x2.Name t.Name)=false:=by
     by_cases hlt:before t.Name l<l.length
     ·have hd:decide ((before t.Name l:Int)<len l)=true:=by rw[Za];simp;omega
      refine⟨l[before t.Name l],?_,?_⟩
      ·rw[Zbq hd,get?_nat,Zbo hlt]
      ·rw[Tm,decide_eq_false (hne _ (Zbo hlt))];simp
     ·have hd:decide ((before t.Name l:Int)<len l)=false:=by rw[Za];simp;omega
      exact⟨default,by rw[hd];rfl,by rw[hd];rfl⟩
    obtain⟨x2,hx1,hx2⟩:=hx;rw[hx1];simp only[Zbn,hx2,Zbp,Zbx];have c1:cut? l 0 (before t.Name l:Int)=some (l.take (before t.Name l)):=by
     unfold cut?;rw[Zbq ⟨by omega,by omega,by omega⟩];simp
    have c2:cut? l (before t.Name l:Int) (len l)=some (l.drop (before t.Name l)):=by
     unfold cut?;rw[Za,Zbq ⟨by omega,by omega,by omega⟩];simp
    have c3:app? ([]:List D.Value) (l.take (before t.Name l))=some (l.take (before t.Name l)):=by
     unfold app?;rw[Zbq (by unfold room;simp;omega)];rfl
    have c4:app? (l.take (before t.Name l)) [(⟨t.Name,t.W,0⟩:D.Value)]=some (l.take (before t.Name l)++[⟨t.Name,t.W,0⟩]):=by
     unfold app?;rw[Zbq (by unfold room;simp;omega)]
    have c5:app? (l.take (before t.Name l)++[(⟨t.Name,t.W,0⟩:D.Value)]) (l.drop (before t.Name l))=some (l.take (before t.Name l)++[⟨t.Name,t.W,0⟩]++l.drop (before t.Name l)):=by
     unfold app?;rw[Zbq (by unfold room;simp;omega)]
    simp only[c1,c2,c3,c4,c5,Zbn];refine⟨_,_,rfl,λ_=>⟨(t.Name,t.W)::g,?_,hr.put hne⟩,λh=>by cases h⟩;unfold stp;rw[hno]
  ·rw [Zbv (by simpa using ho)]
   have hv:vrs t=vrss t.Kids:=by rw[Vs,Zbv ho]
   rw[hv]at hg⊢;obtain⟨r,g1,g2⟩:=Yn (l:=t.Kids) (n:=n) (Z:=List D.Value) (ρ:=(List D.Value)⊕((List D.Value)×Bool)) (B:=λ(s2:Int×(List D.Value))=>if(decide (s2.1<(len t.Kids)))then(get? t.Kids s2.1).bind λx9=>(Yt n x9 s2.2).bind λx10=>if(!x10.2)then some (.inr (.inr (([]:List D.Value),false)))else some (.inl ((w64 (s2.1+1)),x10.1))else some (.inr (.inl (s2.2)))) (λk a=>((k:Int),a)) (λys a=>∃ga,Rel a ga/\runV ga (vrss ys)=runV g (vrss t.Kids)/\ga.length+(vrss ys).length<=1000/\∀x∈ys,x∈t.Kids)
     (λr=>(∃l',r= .inl l'/\∃g',runV g (vrss t.Kids)=some g'/\Rel l' g')\/(r= .inr ([],false)/\runV g (vrss t.Kids)=none))
     (λk x xs a hk' hx hlen⟨ga,i0,i1,i2,i3⟩=>by
      have hxk:=i3 x (by simp);have:=Ti hxk;have:=XT hxk;rw[WE,KM]at i1;rw[WE,Zbw]at i2;obtain⟨l',b,e1,e2,e3⟩:=ih x a ga (by omega) i0 (by omega) (by omega);have hd:decide ((k:Int)<len t.Kids)=true:=by rw[Za];simp;omega
      simp only[hd,Zb5,get?_nat,hx,Zbn,e1];cases b with
      |false=>
       refine .inr ⟨_,rfl,.inr ⟨rfl,?_⟩⟩;rw[e3 rfl]at i1;exact i1.symm
      |true=>
       obtain⟨g',h1,h2⟩:=e2 rfl;refine .inl ⟨l',by simp only[Zb4,Zbp,Zbx];rw[Zb];rfl,g',h2,?_,?_,λy hy=>i3 y (by simp[hy])⟩
       ·rw[h1]at i1;exact i1
       ·have:=OH h1;omega)
     (λa⟨ga,i0,i1,i2,i3⟩=>by
      have hd:decide ((t.Kids.length:Int)<len t.Kids)=false:=by rw[Za];simp
      simp only[hd,Zbp,Zbx];rw[UJ]at i1
      exact⟨_,rfl,.inl ⟨a,rfl,ga,i1.symm,i0⟩⟩) (a:=l) ⟨g,hr,rfl,hg,λx hx=>hx⟩ (by omega)
   rw[show((0:Nat):Int)=0 from rfl]at g1;rw[g1];rcases g2 with⟨l',rfl,g',h1,h2⟩|⟨rfl,h1⟩
   ·exact⟨l',true,rfl,λ_=>⟨g',h1,h2⟩,λh=>by cases h⟩
   ·exact⟨[],false,rfl,λh=>(by cases h),λ_=>h1⟩
def termB(t:D.Term):Bool:=decide (cnt t<=240)&&nodeB t&&(runV [] (vrs t)).isSome
theorem XX{t:D.Term}(h:msz t<=1048576):YZ fuel t=some (termB t):=by
 unfold YZ termB;rw[few fuel t 240 h (by omega) (by omega) (by unfold fuel;omega)];simp only[Zbn];by_cases hc:cnt t<=240
 ·have e:decide (lf 240 (cnt t)>=0)=true:=by unfold lf;rw[ifn];simp;omega
  rw[Ef fuel t h (by unfold fuel;omega)];simp only[e,Zb4,Zbp,Zbx,Zbn,hc,decide_true,Zcn];cases hb:nodeB t
  ·simp
  ·have hv:=OO t;obtain⟨l',b,e1,e2,e3⟩:=NG fuel t [] [] h ⟨List.Pairwise.nil,rfl,by simp,by simp⟩ (by simp;omega) (by unfold fuel;omega);rw[e1];cases b with
   |false=>rw[e3 rfl];rfl
   |true=>obtain⟨g',h1,-⟩:=e2 rfl;rw[h1];rfl
 ·have e:decide (lf 240 (cnt t)>=0)=false:=by unfold lf;rw[ifp];rfl
  simp[e,hc]
set_option maxRecDepth 100000
def EE{n:Nat}{s:Str}(hl:s.bytes.length<=1048576)(hn:s.bytes.length<n):VE n s=some (nameB s):=by
 unfold VE;by_cases hlen:1<=s.bytes.length/\s.bytes.length<=8
 ·rw [Zbv (by rw[Za];simp;omega)]
  obtain⟨r,g1,g2⟩:=Yn (l:=s.bytes) (n:=n) (Z:=Unit) (ρ:=Unit⊕Bool) (B:=λ(s1:Int)=>if(decide (s1<(len s.bytes)))then(sidx? s s1).bind λx1=>(if(decide (x1>=97))then(sidx? s s1)else some default).bind λx2=>(sidx? s s1).bind λx3=>(if(decide (x3>=48))then(sidx? s s1)else some default).bind λx4=>if((!((decide (x1>=97))&&(decide (x2<=122))))&&(!(((decide (x3>=48))&&(decide (x4<=57)))&&(decide (s1>0)))))then some (.inr (.inr false))else some (.inl ((w64 (s1+1))))else some (.inr (.inl ()))) (λk _=>(k:Int)) (λys _=>okF (s.bytes.length-ys.length) ys=okF 0 s.bytes) (λr=>r=if okF 0 s.bytes then(.inl ():Unit⊕Bool)else .inr false)
   (λk x xs a hk' hx hlen hi=>by
    have e1:s.bytes.length-(x::xs).length=k:=by omega
    have e2:s.bytes.length-xs.length=k+1:=by simp at hlen;omega
    rw[e1]at hi;rw[e2];have hb:=x.toNat_lt;rw[<-hi];simp only[Kz hx,Zbn];rw[Zbq (by rw[Za];simp;omega),Zb];have hd:∀c:Bool,∃y:Int,(if c=true then(some (x.toNat:Int))else some default)=some y/\(c=true->y=x.toNat):=λc=>by
     cases c
     ·exact⟨_,rfl,λh=>by cases h⟩
     ·exact⟨_,rfl,λ_=>rfl⟩
    obtain⟨y2,h2,i2⟩:=hd (decide ((x.toNat:Int)>=97));obtain⟨y4,h4,i4⟩:=hd (decide ((x.toNat:Int)>=48));rw[h2,h4];simp only[Zbn];have j2:(decide ((x.toNat:Int)>=97)&&decide (y2<=122))=decide (97<=x.toNat/\x.toNat<=122):=by
     by_cases c:(x.toNat:Int)>=97
     ·rw[i2 (by simpa using c),ZcI];simp only[Zbt,Zb8];omega
     ·rw[ZcI];simp only[Zbt,Zb8];omega
    have j4:(decide ((x.toNat:Int)>=48)&&decide (y4<=57))=decide (48<=x.toNat/\x.toNat<=57):=by
     by_cases c:(x.toNat:Int)>=48
     ·rw[i4 (by simpa using c),ZcI];simp only[Zbt,Zb8];omega
     ·rw[ZcI];simp only[Zbt,Zb8];omega
    rw[j2,j4,Jh];by_cases c1:97<=x.toNat/\x.toNat<=122
    ·exact .inl ⟨(),by simp[c1],by simp[c1]⟩
    ·by_cases c3:48<=x.toNat/\x.toNat<=57
     ·by_cases c2:k=0
      ·subst c2;exact .inr ⟨.inr false,by simp[c1,c3],by simp[c1]⟩
      ·have:(0:Int)<(k:Int):=by omega
       exact .inl ⟨(),by simp[c1,c3,this,c2],by simp[c1,c2,c3]⟩
     ·exact .inr ⟨.inr false,by simp[c1,c3],by simp[c1,c3]⟩)
   (λa hi=>by
    rw[Zbv (by rw[Za];simp)];refine⟨_,rfl,?_⟩
    rw[<-hi];simp[okF]) (a:=()) (by simp) hn
  rw[show((0:Nat):Int)=0 from rfl]at g1;rw[g1,g2];unfold nameB;rw[decide_eq_true hlen];cases okF 0 s.bytes<;>rfl
 ·rw[Zbq (by rw[Za];simp;omega)];unfold nameB;rw[decide_eq_false hlen];simp
def kc(o:Int):Int:=(YS o).getD 0
def Za2(o:Int):YS o=some (kc o):=by
 unfold kc;have:∃k,YS o=some k:=by
  unfold YS;split
  ·exact⟨_,rfl⟩
  ·split
   ·exact⟨_,rfl⟩
   ·split
    ·exact⟨_,rfl⟩
    ·split
     ·exact⟨_,rfl⟩
     ·exact⟨_,rfl⟩
 obtain⟨k,h⟩:=this;rw[h];rfl
def KQ(w:Int):YQ w=some (decide (1<=w/\w<=16)):=by simp[YQ]
def Zaa{t:D.Term}(hw:1<=t.W/\t.W<=16)(hk:∀x∈t.Kids,1<=x.W/\x.W<=16)(hl:(t.Kids.length:Int)=kc t.Op):
  ∃f,Ww t=some f/\shB t.Op t.W t.N t.Name (t.Kids.map (·.W))=(f&&(t.Op !=0||wordB t.W t.N)&&(t.Op !=22||nameB t.Name)):=by
 obtain⟨op,w,m,nm,ks⟩:=t;simp only at hw hk hl⊢;unfold Ww shB;simp only;have g0:∀(x:D.Term)(l:List D.Term),get? (x::l) 0=some x:=λ_ _=>rfl;have g1:∀(x y:D.Term)(l:List D.Term),get? (x::y::l) 1=some y:=λ_ _ _=>rfl;have g2:∀(x y z:D.Term)(l:List D.Term),get? (x::y::z::l) 2=some z:=λ_ _ _ _=>rfl;have l0:ks.length=0->ks=[]:=λh=>ZdI.1 h;have l1:ks.length=1->∃a,ks=[a]:=λh=>ZdO.1 h;have l2:ks.length=2->∃a b,ks=[a,b]:=λh=>by
  rcases ks with _|⟨a,_|⟨b,_|⟨c,l⟩⟩⟩<;>simp at h;exact⟨_,_,rfl⟩
 have l3:ks.length=3->∃a b c,ks=[a,b,c]:=λh=>by
  rcases ks with _|⟨a,_|⟨b,_|⟨c,_|⟨d,l⟩⟩⟩⟩<;>simp at h;exact⟨_,_,_,rfl⟩
 unfold kc YS at hl;by_cases o0:op=0
 ·subst o0;obtain rfl:=l0 (by simp at hl;simp[hl]);exact⟨true,by simp,by simp⟩
 by_cases o1:op=22
 ·subst o1;obtain rfl:=l0 (by simp at hl;simp[hl]);exact⟨true,by simp,by simp⟩
 have q0:(op !=0)=true:=by simpa using o0
 have q1:(op !=22)=true:=by simpa using o1
 by_cases o2:1<=op/\op<=2
 ·have:op=1\/op=2:=by omega
  obtain⟨a,rfl⟩:=l1 (by rcases this with rfl|rfl<;>simp at hl<;>omega);refine⟨a.W==w,?_,?_⟩
  ·rcases this with rfl|rfl<;>simp[g0]
  ·simp[o0,o1,o2,q0,q1]
 by_cases o3:3<=op/\op<=13
 ·obtain⟨a,b,rfl⟩:=l2 (by
   have h1:¬(op=1):=by omega
   have h2:¬(op=2):=by omega
   have h3:¬(op=19):=by omega
   have h4:¬(op=20):=by omega
   have h5:¬(op=21):=by omega
   have h6:3<=op/\op<=16:=by omega
   simp[o0,o1,h1,h2,h3,h4,h5,h6]at hl;omega)
  refine⟨a.W==w&&b.W==w,?_,?_⟩
  ·have h1:¬(op=1):=by omega
   have h2:¬(op=2):=by omega
   by_cases c:a.W=w
   ·simp[g0,g1,o0,o1,h1,h2,o3,c]
   ·have c':(a.W==w)=false:=by simpa using c
    simp[g0,g1,o0,o1,h1,h2,o3,c,c']
  ·simp[o0,o1,o2,o3,q0,q1]
 by_cases o4:14<=op/\op<=16
 ·obtain⟨a,b,rfl⟩:=l2 (by
   have h1:¬(op=1):=by omega
   have h2:¬(op=2):=by omega
   have h3:¬(op=19):=by omega
   have h4:¬(op=20):=by omega
   have h5:¬(op=21):=by omega
   have h6:3<=op/\op<=16:=by omega
   simp[o0,o1,h1,h2,h3,h4,h5,h6]at hl;omega)
  refine⟨a.W==b.W&&w==1,?_,?_⟩
  ·have h1:¬(op=1):=by omega
   have h2:¬(op=2):=by omega
   simp[g0,g1,o0,o1,h1,h2,o3,o4]
  ·simp[o0,o1,o2,o3,o4,q0,q1]
 by_cases o5:op=17
 ·subst o5;obtain⟨a,b,c,rfl⟩:=l3 (by simp at hl;omega);refine⟨a.W==1&&b.W==w&&c.W==w,?_,?_⟩
  ·by_cases c1:a.W=1
   ·by_cases c2:b.W=w
    ·simp[g0,g1,g2,c1,c2]
    ·have c2':(b.W==w)=false:=by simpa using c2
     simp[g0,g1,g2,c1,c2,c2']
   ·have c1':(a.W==1)=false:=by simpa using c1
    simp[g0,g1,g2,c1,c1']
  ·simp
 by_cases o6:op=18
 ·subst o6;obtain⟨a,b,rfl⟩:=l2 (by simp at hl;omega);have ha:=hk a (by simp);have hb:=hk b (by simp);have e18:w64 (a.W+b.W)=a.W+b.W:=Zb;exact⟨a.W+b.W==w,by simp[g0,g1,e18],by simp⟩
 by_cases o7:op=19
 ·subst o7;obtain⟨a,rfl⟩:=l1 (by simp at hl;omega);have ha:=hk a (by simp);have e19:w64 (a.W-w)=a.W-w:=Zb;refine⟨decide (0<=m)&&decide (m<=a.W-w),?_,?_⟩
  ·by_cases c:0<=m
   ·simp[g0,e19,c]
   ·simp[g0,e19,c]
  ·simp only[Zb1,Zch];rw[ZcI];simp;omega
 by_cases o8:20<=op/\op<=21
 ·have:op=20\/op=21:=by omega
  obtain⟨a,rfl⟩:=l1 (by rcases this with rfl|rfl<;>simp at hl<;>omega);refine⟨decide (a.W<=w),?_,?_⟩
  ·rcases this with rfl|rfl<;>simp[g0]
  ·rcases this with rfl|rfl<;>simp
 exfalso;have h1:¬(op=1):=by omega
 have h2:¬(op=2):=by omega
 have h4:¬(op=20):=by omega
 have h5:¬(op=21):=by omega
 have h6:¬(3<=op/\op<=16):=by omega
 simp[o0,o1,h1,h2,o7,h4,h5,h6,o6,o5]at hl
def Ao{t:D.Term}(hl:¬(t.Kids.length:Int)=kc t.Op):shB t.Op t.W t.N t.Name (t.Kids.map (·.W))=false:=by
 obtain⟨op,w,m,nm,ks⟩:=t;simp only at hl⊢;unfold shB;unfold kc YS at hl;have hks:ks=[]\/(∃a:D.Term,ks=[a])\/(∃a b:D.Term,ks=[a,b])\/(∃a b c:D.Term,ks=[a,b,c])\/∃(a b c d:D.Term)(l:List D.Term),ks=a::b::c::d::l:=by
  rcases ks with _|⟨a,_|⟨b,_|⟨c,_|⟨d,l⟩⟩⟩⟩
  ·exact .inl rfl
  ·exact .inr (.inl ⟨a,rfl⟩)
  ·exact .inr (.inr (.inl ⟨a,b,rfl⟩))
  ·exact .inr (.inr (.inr (.inl ⟨a,b,c,rfl⟩)))
  ·exact .inr (.inr (.inr (.inr ⟨a,b,c,d,l,rfl⟩)))
 by_cases o0:op=0
 ·subst o0;rcases hks with rfl|⟨a,rfl⟩|⟨a,b,rfl⟩|⟨a,b,c,rfl⟩|⟨a,b,c,d,l,rfl⟩<;>simp at hl⊢
 by_cases o1:op=22
 ·subst o1;rcases hks with rfl|⟨a,rfl⟩|⟨a,b,rfl⟩|⟨a,b,c,rfl⟩|⟨a,b,c,d,l,rfl⟩<;>simp at hl⊢
 by_cases o2:1<=op/\op<=2
 ·have:op=1\/op=2:=by omega
  rcases this with rfl|rfl<;>rcases hks with rfl|⟨a,rfl⟩|⟨a,b,rfl⟩|⟨a,b,c,rfl⟩|⟨a,b,c,d,l,rfl⟩<;>simp at hl⊢
 have h1:¬(op=1):=by omega
 have h2:¬(op=2):=by omega
 by_cases o3:3<=op/\op<=13
 ·have h3:¬(op=19):=by omega
  have h4:¬(op=20):=by omega
  have h5:¬(op=21):=by omega
  have h6:3<=op/\op<=16:=by omega
  simp[o0,o1,h1,h2,h3,h4,h5,h6]at hl;rcases hks with rfl|⟨a,rfl⟩|⟨a,b,rfl⟩|⟨a,b,c,rfl⟩|⟨a,b,c,d,l,rfl⟩<;>simp[o0,o1,o2,o3]at hl⊢
 by_cases o4:14<=op/\op<=16
 ·have h3:¬(op=19):=by omega
  have h4:¬(op=20):=by omega
  have h5:¬(op=21):=by omega
  have h6:3<=op/\op<=16:=by omega
  simp[o0,o1,h1,h2,h3,h4,h5,h6]at hl;rcases hks with rfl|⟨a,rfl⟩|⟨a,b,rfl⟩|⟨a,b,c,rfl⟩|⟨a,b,c,d,l,rfl⟩<;>simp[o0,o1,o2,o3,o4]at hl⊢
 by_cases o5:op=17
 ·subst o5;rcases hks with rfl|⟨a,rfl⟩|⟨a,b,rfl⟩|⟨a,b,c,rfl⟩|⟨a,b,c,d,l,rfl⟩<;>simp at hl⊢
 by_cases o6:op=18
 ·subst o6;rcases hks with rfl|⟨a,rfl⟩|⟨a,b,rfl⟩|⟨a,b,c,rfl⟩|⟨a,b,c,d,l,rfl⟩<;>simp at hl⊢
 by_cases o7:op=19
 ·subst o7;rcases hks with rfl|⟨a,rfl⟩|⟨a,b,rfl⟩|⟨a,b,c,rfl⟩|⟨a,b,c,d,l,rfl⟩<;>simp at hl⊢
 by_cases o8:20<=op/\op<=21
 ·have:op=20\/op=21:=by omega
  rcases this with rfl|rfl<;>rcases hks with rfl|⟨a,rfl⟩|⟨a,b,rfl⟩|⟨a,b,c,rfl⟩|⟨a,b,c,d,l,rfl⟩<;>simp at hl⊢
 simp[o0,o1,o2,o3,o4,o5,o6,o7,o8]
abbrev tab(m:Option (List (Str×Int))):List (Str×Int):=m.getD []
def get2{g:List (Str×Int)}{s:Str}(hs:s.bytes.length<=1048576):mget2? fitS (0:Int) g s=some ((g.lookup s).getD 0,(g.lookup s).isSome):=by
 unfold mget2?;rw[Zbq (by unfold fitS;simp;omega)]
def put1{g:List (Str×Int)}{s:Str}{w:Int}(hs:s.bytes.length<=1048576)(hw:1<=w/\w<=16)(hg:g.length<=1000):mputE? fitS fitZ g s w=some ((s,w)::g):=by
 unfold mputE?;rw[Zbq ⟨by unfold fitS;simp;omega,by unfold fitZ;simp[Lit.wf];exact⟨by show(-9223372036854775808:Int)<=w;omega,by omega⟩,by unfold room;omega⟩]
theorem YY{n:Nat}{c:D.termCheck}{t:D.Term}(hs:t.Name.bytes.length<=1048576)(hn:1048580<=n)(hw:1<=t.W/\t.W<=16)(hg:(tab c.widths).length<=1000):
  ∃b m,Y8 n c t=some (b,⟨c.count,m⟩)/\(b=true->nameB t.Name=true/\stp (tab c.widths) (t.Name,t.W)=some (tab m))/\(b=false->nameB t.Name=false\/stp (tab c.widths) (t.Name,t.W)=none):=by
 obtain⟨cc,ww⟩:=c;unfold Y8;rw[EE hs (by omega)];simp only[Zbn];cases hb:nameB t.Name
 ·exact⟨false,ww,rfl,λh=>(by cases h),λ_=>.inl rfl⟩
 ·simp only[Zb4,Zbp,Zbx];cases ww with
  |none=>
   simp only[Option.isNone_none,Zb5];rw[get2 hs];simp only[Zbn,List.lookup_nil,ZdJ,Zbp,Zbx];rw[put1 hs hw (by simp)];exact⟨true,_,rfl,λ_=>⟨trivial,rfl⟩,λh=>(by cases h)⟩
  | some g=>
   simp only[Option.isNone_some,Zbp,Zbx,ZbY];rw[get2 hs];simp only[Zbn];unfold stp;simp only[tab,ZbY]at hg⊢;cases hl:g.lookup t.Name with
   |some w=>
    simp only[Option.isSome_some,Zb5,ZbY];refine⟨_,_,rfl,λh=>⟨trivial,?_⟩,λh=>.inr ?_⟩
    ·rw[Zbq (by simpa using h)];rfl
    ·rw[Zbv (by simpa using h)]
   |none=>
    simp only[ZdJ,Zbp,Zbx];rw[put1 hs hw hg];exact⟨true,_,rfl,λ_=>⟨trivial,rfl⟩,λh=>(by cases h)⟩
theorem NV {n:Nat}{ks:List D.Term}{c0:Int}{w0:Option (List (Str×Int))}(hn:1048580<=n)(hks:ks.length<=1048576)(hc:0<=c0)(hc':c0<=240)(hg:(tab w0).length<=c0)
    (ih:∀x∈ks,∀c:D.termCheck,c0<=c.count->c.count<=240->(tab c.widths).length<=c.count->∃b c',ZC n c x=some (b,c')/\(b=true->c.count+cnt x<=240/\nodeB x=true/\c'.count=c.count+cnt x/\runV (tab c.widths) (vrs x)=some (tab c'.widths))/\(b=false->¬(c.count+cnt x<=240/\nodeB x=true/\(runV (tab c.widths) (vrs x)).isSome=true))):
    ∃ r,iterN (λ(s2:Int×Int×(Option (List (Str×Int))))=>if (decide (s2.1<(len ks)))then(get? ks s2.1).bind λx7=>(ZC n (D.termCheck.mk s2.2.1 s2.2.2) x7).bind λx8=>if(!x8.1)then some (.inr (.inr (false,x8.2)))else some (.inl ((w64 (s2.1+1)),x8.2.count,x8.2.widths))else some (.inr (.inl (s2.2.1,s2.2.2)))) n (0,c0,w0)=some (r:(Int×(Option (List (Str×Int))))⊕(Bool×D.termCheck))/\
      ((∃cc ww,r= .inl (cc,ww)/\cc=c0+cnts ks/\cc<=240/\nodesB ks=true/\runV (tab w0) (vrss ks)=some (tab ww))\/∃c',r= .inr (false,c')/\¬(c0+cnts ks<=240/\nodesB ks=true/\(runV (tab w0) (vrss ks)).isSome=true)):=by
  have hrl:=OO
  exact Yn (l:=ks) (n:=n) (Z:=Int×(Option (List (Str×Int)))) (ρ:=(Int×(Option (List (Str×Int))))⊕(Bool×D.termCheck)) (B:=λ(s2:Int×Int×(Option (List (Str×Int))))=>if (decide (s2.1<(len ks)))then(get? ks s2.1).bind λx7=>(ZC n (D.termCheck.mk s2.2.1 s2.2.2) x7).bind λx8=>if(!x8.1)then some (.inr (.inr (false,x8.2)))else some (.inl ((w64 (s2.1+1)),x8.2.count,x8.2.widths))else some (.inr (.inl (s2.2.1,s2.2.2)))) (λk a=>((k:Int),a.1,a.2))
      (λys a=>c0<=a.1/\a.1<=240/\(tab a.2).length<=a.1/\a.1+cnts ys=c0+cnts ks/\nodesB ys=nodesB ks/\runV (tab a.2) (vrss ys)=runV (tab w0) (vrss ks)/\∀x∈ys,x∈ks) _
      (λk x xs a hk' hx hlen⟨i0,i1,i2,i3,i4,i5,i6⟩=>by
        obtain⟨ac,aw⟩:=a;simp only at i0 i1 i2 i3 i5;rw[UV]at i3;rw[YL,ZdW,<-YL]at i4;rw[WE,KM]at i5;have hd:decide ((k:Int)<len ks)=true:=by rw[Za];simp;omega
        obtain⟨b,c',e1,e2,e3⟩:=ih x (i6 x (by simp)) ⟨ac,aw⟩ i0 i1 i2;simp only[hd,Zb5,get?_nat,hx,Zbn,e1];cases b with
        | false=>
          refine .inr ⟨_,rfl,.inr ⟨c',rfl,λ⟨h1,h2,h3⟩=>e3 rfl ⟨?_,?_,?_⟩⟩⟩
          · simp only;omega
          · rw[<-i4,Zbt]at h2;exact h2.1
          · rw[<-i5]at h3
            simp only;cases hq:runV (tab aw) (vrs x)with
            |none=>rw[hq]at h3;cases h3
            |some _=>rfl
        | true=>
          obtain⟨h1,h2,h3,h4⟩:=e2 rfl;simp only at h1 h3 h4;refine .inl ⟨(c'.count,c'.widths),by simp only[Zb4,Zbp,Zbx];rw[Zb];rfl,by simp only;omega,by simp only;omega,?_,by simp only;omega,by rw[<-i4,h2,Zcn],?_,λy hy=>i6 y (by simp[hy])⟩
          · have:=OH h4
            have:=hrl x;simp only;omega
          · rw[h4]at i5;exact i5)
      (λa⟨i0,i1,i2,i3,i4,i5,i6⟩=>by
        obtain⟨ac,aw⟩:=a;have hd:decide ((ks.length:Int)<len ks)=false:=by rw[Za];simp
        simp only[hd,Zbp,Zbx];rw[SC]at i3;rw[UJ]at i5;refine⟨_,rfl,.inl ⟨ac,aw,rfl,by simp only at i3;omega,i1,?_,i5.symm⟩⟩
        rw[<-i4,YL];rfl) (a:=(c0,w0)) ⟨by simp only;omega,hc',hg,rfl,rfl,rfl,λx hx=>hx⟩ (by omega)
def wsB(ks:List D.Term):Bool:=ks.all λx=>decide (1<=x.W/\x.W<=16)
def Za7{ks:List D.Term}(h:nodesB ks=true):wsB ks=true:=by
 rw[YL,ZbC]at h;unfold wsB;rw[ZbC];exact λx hx=>decide_eq_true (ZY (h x hx))
def Ic{n:Nat}{ks:List D.Term}{v:Bool×D.termCheck}(hn:ks.length<n)(hk:ks.length<=1048576):iterN (λ(s1:Int)=>if(decide (s1<(len ks)))then(get? ks s1).bind λx3=>(YQ x3.W).bind λx4=>if(!x4)then some (.inr (.inr v))else some (.inl ((w64 (s1+1))))else some (.inr (.inl ()))) n (0)=some (if wsB ks=true then(.inl ():Unit⊕(Bool×D.termCheck))else .inr v):=by
 obtain⟨r,g1,g2⟩:=Yn (l:=ks) (n:=n) (Z:=Unit) (ρ:=Unit⊕(Bool×D.termCheck)) (B:=λ(s1:Int)=>if(decide (s1<(len ks)))then(get? ks s1).bind λx3=>(YQ x3.W).bind λx4=>if(!x4)then some (.inr (.inr v))else some (.inl ((w64 (s1+1))))else some (.inr (.inl ()))) (λk _=>(k:Int)) (λys _=>wsB ys=wsB ks) (λr=>r=if wsB ks=true then(.inl ():Unit⊕(Bool×D.termCheck))else .inr v)
  (λk x xs a hk' hx hlen hi=>by
   have hd:decide ((k:Int)<len ks)=true:=by rw[Za];simp;omega
   simp only[hd,Zb5,get?_nat,hx,Zbn,KQ];have e:wsB (x::xs)=(decide (1<=x.W/\x.W<=16)&&wsB xs):=rfl;rw[e]at hi;by_cases c:1<=x.W/\x.W<=16
   ·rw[decide_eq_true c,Zcn]at hi;exact .inl ⟨(),by rw[decide_eq_true c,ifn,Zb];rfl,hi⟩
   ·rw[decide_eq_false c,ZdS]at hi
    exact .inr ⟨_,by rw[decide_eq_false c,ifp],by rw[<-hi];rfl⟩)
  (λa hi=>by
   have hd:decide ((ks.length:Int)<len ks)=false:=by rw[Za];simp
   simp only[hd,Zbp,Zbx]
   exact⟨_,rfl,by rw[<-hi];rfl⟩) (a:=()) rfl hn
 rw[show((0:Nat):Int)=0 from rfl]at g1;rw[g1,g2]
theorem FJ:∀(n:Nat)(t:D.Term)(c:D.termCheck),msz t<=1048576->0<=c.count->c.count<=240->(tab c.widths).length<=c.count->1048580+(241-c.count)<=(n:Int)->∃b c',ZC n c t=some (b,c')/\
   (b=true->c.count+cnt t<=240/\nodeB t=true/\c'.count=c.count+cnt t/\runV (tab c.widths) (vrs t)=some (tab c'.widths))/\(b=false->¬(c.count+cnt t<=240/\nodeB t=true/\(runV (tab c.widths) (vrs t)).isSome=true)):=by
 intro n
 induction n with
 |zero=>intro t c _ _ _ _ _;omega
 | succ n ih=>
  intro t c hs h0 h1 hg hn;have hz:=UH t;have hc:=X8 t;have hb:=Ul t;have bad:nodeB t=false->¬(c.count+cnt t<=240/\nodeB t=true/\(runV (tab c.widths) (vrs t)).isSome=true):=λh⟨_,h2,_⟩=>by rw[h]at h2;cases h2
  unfold ZC;rw[Zb];by_cases hC:c.count+1>240
  ·simp only[hC,decide_true,Zb5,Zbn,Zdo];exact⟨false,_,rfl,λh=>(by cases h),λ_⟨h,_,_⟩=>by omega⟩
  simp only[hC,decide_false,Zbp,Zbx,KQ t.W,Zbn,ZbL];by_cases hw:1<=t.W/\t.W<=16;rotate_left
  ·simp only[hw,decide_false,Zdb,Zb5,Zbn,Zdo];exact⟨false,_,rfl,λh=>(by cases h),λ_=>bad (by rw[hb];unfold locB;rw[decide_eq_false hw];simp)⟩
  simp only[hw,decide_true,Zb4,Zbp,Zbx,Zbn,ZbL,and_self,Za2];by_cases hl:(t.Kids.length:Int)=kc t.Op;rotate_left
  ·have:(len t.Kids !=kc t.Op)=true:=by rw[Za];simpa using hl
   rw[Zbq this];exact⟨false,_,rfl,λh=>(by cases h),λ_=>bad (by rw[hb];unfold locB;rw[Ao hl];simp)⟩
  have hl':¬(len t.Kids !=kc t.Op)=true:=by rw[Za];simpa using hl
  rw[Zbv hl',Ic (by omega) (by omega)];simp only[Zbn];by_cases hk:wsB t.Kids=true;rotate_left
  ·rw[Zbv hk];refine⟨false,_,rfl,λh=>(by cases h),λ_=>bad ?_⟩;rw[hb];cases h:nodesB t.Kids
   ·simp
   ·exact absurd (Za7 h) hk
  rw[Zbq hk];have hkw:∀x∈t.Kids,1<=x.W/\x.W<=16:=λx hx=>by
   unfold wsB at hk;rw[ZbC]at hk;exact of_decide_eq_true (hk x hx)
  obtain⟨f,hf1,hf2⟩:=Zaa hw hkw hl;have hloc:locB t=((Str.eqb t.Name ⟨[]⟩||t.Op==22)&&(t.N==0||t.Op==0||t.Op==19)&&(f&&(t.Op !=0||wordB t.W t.N)&&(t.Op !=22||nameB t.Name))):=by
   unfold locB;rw[hf2,decide_eq_true hw,Zcn]
  simp only[hf1,Zbn];cases f with
  |false=>
   exact⟨false,_,rfl,λh=>(by cases h),λ_=>bad (by rw[hb,hloc];simp)⟩
  |true=>
  simp only[Zb4,Zbp,Zbx,Fs];have hx6:∃x6,(if(t.Op==0)=true then some (wordB t.W t.N)else some default)=some x6/\(t.Op=0->x6=wordB t.W t.N):=by
   by_cases o:t.Op=0
   ·exact⟨_,Zbq (by simpa using o),λ_=>rfl⟩
   ·exact⟨_,Zbv (by simpa using o),λh=>absurd h o⟩
  obtain⟨x6,h6,h6'⟩:=hx6;rw[h6];simp only[Zbn];by_cases c6:(t.Op==0&& !x6)=true
  ·rw[Zbq c6];simp only[Zbt,ZcF,Zc6]at c6;refine⟨false,_,rfl,λh=>(by cases h),λ_=>bad ?_⟩;rw[hb,hloc,<-h6' c6.1,c6.2,c6.1];simp
  rw[Zbv c6];have d6:(t.Op !=0||wordB t.W t.N)=true:=by
   by_cases o:t.Op=0
   ·rw[<-h6' o,o];simp[o]at c6;simp[c6]
   ·simp[o]
  by_cases c7:(t.Op !=0&&t.Op !=19&&t.N !=0)=true
  ·rw[Zbq c7];simp only[Zbt,bne_iff_ne,ne_eq]at c7;refine⟨false,_,rfl,λh=>(by cases h),λ_=>bad ?_⟩;rw[hb,hloc];have:(t.N==0||t.Op==0||t.Op==19)=false:=by simp[c7]
   rw[this];simp
  rw[Zbv c7];have d7:(t.N==0||t.Op==0||t.Op==19)=true:=by
   simp only[Zbt,bne_iff_ne,ne_eq]at c7;by_cases a1:t.N=0<;>by_cases a2:t.Op=0<;>by_cases a3:t.Op=19<;>simp[a1,a2,a3]at c7⊢
  rw[d6,d7]at hloc;simp only[Zcn,Zey]at hloc;have ih':∀x∈t.Kids,∀c1:D.termCheck,c.count+1<=c1.count->c1.count<=240->(tab c1.widths).length<=c1.count->∃b c',ZC n c1 x=some (b,c')/\
   (b=true->c1.count+cnt x<=240/\nodeB x=true/\c'.count=c1.count+cnt x/\runV (tab c1.widths) (vrs x)=some (tab c'.widths))/\(b=false->¬(c1.count+cnt x<=240/\nodeB x=true/\(runV (tab c1.widths) (vrs x)).isSome=true)):=λx hx c1 k1 k2 k3=>by
   have:=Ti hx;exact ih x c1 (by omega) (by omega) k2 k3 (by omega)
  by_cases ho:t.Op=22
  ·rw [Zbv (by simp[ho])]
   have hv:vrs t=[(t.Name,t.W)]:=by rw[Vs,Zbq ho]
   have hrun:runV (tab c.widths) (vrs t)=stp (tab c.widths) (t.Name,t.W):=by
    rw[hv];simp only[runV];cases stp (tab c.widths) (t.Name,t.W)<;>rfl
   have hks:t.Kids=[]:=by
    rw[ho]at hl;exact ZdI.1 (by have:kc 22=0:=rfl;omega)
   obtain⟨b,m,e1,e2,e3⟩:=YY (n:=n) (c:=⟨c.count+1,c.widths⟩) (t:=t) (by omega) (by omega) hw (by simp only;omega);rw[e1];simp only[Zbn];rw[ho]at hloc;cases b with
   | false=>
    refine⟨false,_,rfl,λh=>(by cases h),λ_=>?_⟩;rcases e3 rfl with e3|e3
    ·exact bad (by rw[hb,hloc,e3];simp)
    ·rw[hrun];simp only at e3;rw[e3];exact λ⟨_,_,h⟩=>by cases h
   | true=>
    obtain⟨e4,e5⟩:=e2 rfl;simp only at e5;have hml:(tab m).length<=c.count+1:=by have:=Ht e5;omega
    obtain⟨r,g1,g2⟩:=NV (n:=n) (ks:=t.Kids) (c0:=c.count+1) (w0:=m) (by omega) (by omega) (by omega) (by omega) hml ih';rw[hks,SC,UJ]at g2;have hcn:cnts t.Kids=0:=by rw[hks,SC]
    have hnb:nodesB t.Kids=true:=by rw[hks,YL];rfl
    simp only[Zb4,Zbp,Zbx];rw[g1];rcases g2 with⟨cc,ww,rfl,k1,k2,k3,k4⟩|⟨c',rfl,k1⟩
    ·refine⟨true,⟨cc,ww⟩,rfl,λ_=>⟨by omega, ?_,by simp only;omega, ?_⟩,λh=>(by cases h)⟩
     ·rw[hb,hloc,e4,hnb];simp
     ·rw[hrun,e5];simp only[runV,Option.some.injEq]at k4;rw[k4]
    ·exfalso;apply k1;refine⟨by omega,by rw[YL];rfl,rfl⟩
  ·rw[Zbq (by simp[ho])];have hv:vrs t=vrss t.Kids:=by rw[Vs,Zbv ho]
   by_cases c8:Str.eqb t.Name ⟨[]⟩=true;rotate_left
   ·rw[Zbq (by simpa using c8)];refine⟨false,_,rfl,λh=>(by cases h),λ_=>bad ?_⟩;rw[hb,hloc];simp[c8,ho]
   rw[Zbv (by simp[c8])];have hloc':locB t=true:=by rw[hloc,c8];simp[ho]
   obtain⟨r,g1,g2⟩:=NV (n:=n) (ks:=t.Kids) (c0:=c.count+1) (w0:=c.widths) (by omega) (by omega) (by omega) (by omega) (by omega) ih';rw[g1,hv,hb,hloc'];simp only[Zcn];rcases g2 with⟨cc,ww,rfl,k1,k2,k3,k4⟩|⟨c',rfl,k1⟩
   ·exact⟨true,⟨cc,ww⟩,rfl,λ_=>⟨by omega,k3,by simp only;omega,k4⟩,λh=>(by cases h)⟩
   ·exact⟨false,c',rfl,λh=>(by cases h),λ_⟨h1,h2,h3⟩=>k1 ⟨by omega,h2,h3⟩⟩
theorem UN{t:D.Term}(h:msz t<=1048576):Xk fuel t=some (termB t):=by
 unfold Xk;obtain⟨b,c',e1,e2,e3⟩:=FJ fuel t ⟨0,none⟩ h (by simp) (by simp) (by simp[tab]) (by unfold fuel;simp);rw[e1];simp only[Zbn,Option.some.injEq];unfold termB;simp only[tab,Option.getD_none]at e2 e3;cases b with
 |true=>
  obtain⟨h1,h2,-,h3⟩:=e2 rfl;rw[h2,h3,decide_eq_true (by omega)];rfl
 | false=>
  have:=e3 rfl;cases hb:nodeB t
  ·simp
  ·cases hr:(runV [] (vrs t)).isSome
   ·simp
   ·have:¬cnt t<=240:=λhc=>this ⟨by omega,hb,hr⟩;simp[this]
def KV{w:Int}(h1:1<=w)(h2:w<=16):w=1\/w=2\/w=3\/w=4\/w=5\/w=6\/w=7\/w=8\/w=9\/w=10\/w=11\/w=12\/w=13\/w=14\/w=15\/w=16:=by omega
theorem SN{w:Int}(h1:1<=w)(h2:w<=16):shl? 1 w=some (2^w.toNat)/\shl? 1 (IntKind.u64.wrap w)=some (2^w.toNat)/\w64 ((2:Int)^w.toNat-1)=2^w.toNat-1/\(2:Int)<=2^w.toNat/\(2:Int)^w.toNat<=65536:=by
 rcases KV h1 h2 with rfl|rfl|rfl|rfl|rfl|rfl|rfl|rfl|rfl|rfl|rfl|rfl|rfl|rfl|rfl|rfl<;>exact⟨rfl,rfl,by decide,by decide,by decide⟩
theorem KX{w:Int}(h1:1<=w)(h2:w<=16)(v:Int):wordB w v=true↔0<=v/\v<2^w.toNat:=by
 obtain⟨a1,a2,a3,a4,a5⟩:=SN h1 h2;have hs:=QV w v;unfold ZV Zf at hs;have e:(decide (w>=1)&&decide (w<=16))=true:=by simp;omega
 simp only[e,Zbn]at hs;by_cases hv:0<=v
 ·simp only[hv,decide_true,Zb5,a1,Zbn]at hs;rw[a3]at hs;simp at hs;rw[<-hs];simp[hv];omega
 ·simp[hv,a1]at hs;rw[hs];simp;omega
theorem QR(x:Int){y:Int}(h:0<=y):shr? x y=some (x.fdiv (2^min y.toNat 64)):=by unfold shr?;rw[ifn]
def JM(x:Int){y:Int}(h:0<=y):shl? x y=some (w64 (x*2^min y.toNat 64)):=by unfold shl?;rw[ifn]
def fnd(v:List D.Value)(s:Str):Option D.Value:=v.find? λx=>decide (x.Name=s)
def FL{n:Nat}{v:List D.Value}{s:Str}(hn:v.length<n)(hv:v.length<=1048576):(fnd v s=none/\WC n v s=some (-1))\/∃(k:Nat)(x:D.Value),fnd v s=some x/\v[k]? =some x/\WC n v s=some (k:Int):=by
 unfold WC;obtain⟨r,g1,g2⟩:=Yn (l:=v) (n:=n) (Z:=Unit) (ρ:=Unit⊕Int) (B:=λ(s1:Int)=>if(decide (s1<(len v)))then(get? v s1).bind λx1=>if(Str.eqb x1.Name s)then some (.inr (.inr s1))else some (.inl ((w64 (s1+1))))else some (.inr (.inl ()))) (λk _=>(k:Int)) (λys _=>fnd ys s=fnd v s) (λr=>(fnd v s=none/\r= .inl ())\/∃(k:Nat)(x:D.Value),fnd v s=some x/\v[k]? =some x/\r= .inr (k:Int))
  (λk x xs a hk' hx hlen hi=>by
   have hd:decide ((k:Int)<len v)=true:=by rw[Za];simp;omega
   simp only[hd,Zb5,get?_nat,hx,Zbn,Tm];have hf:fnd (x::xs) s=if x.Name=s then some x else fnd xs s:=by
    unfold fnd;by_cases e:x.Name=s<;>simp[Zeb,e]
   rw[hf]at hi;by_cases e:x.Name=s
   ·rw[Zbq e]at hi;exact .inr ⟨_,by rw[Zbq (by simpa using e)],.inr ⟨k,x,hi.symm,hx,rfl⟩⟩
   ·rw[Zbv e]at hi
    exact .inl ⟨(),by rw[Zbv (by simpa using e),Zb];rfl,hi⟩)
  (λa hi=>by
   have hd:decide ((v.length:Int)<len v)=false:=by rw[Za];simp
   simp only[hd,Zbp,Zbx]
   exact⟨_,rfl,.inl ⟨by rw[<-hi];rfl,rfl⟩⟩) (a:=()) rfl hn
 rw[show((0:Nat):Int)=0 from rfl]at g1;rw[g1];rcases g2 with⟨h1,rfl⟩|⟨k,x,h1,h2,rfl⟩
 ·exact .inl ⟨h1,rfl⟩
 ·exact .inr ⟨k,x,h1,h2,rfl⟩
def Ho{U:Type}{l m:List U}(h:l.length+m.length<=1048576):app? l m=some (l++m):=by
 unfold app?;rw[Zbq (by unfold room;omega)]
def get0(x:D.Term)(l:List D.Term):get? (x::l) 0=some x:=rfl
def get1(x y:D.Term)(l:List D.Term):get? (x::y::l) 1=some y:=rfl
def geti0(x:Int)(l:List Int):get? (x::l) 0=some x:=rfl
def geti1(x y:Int)(l:List Int):get? (x::y::l) 1=some y:=rfl
def geti2(x y z:Int)(l:List Int):get? (x::y::z::l) 2=some z:=rfl
def Fb{ks:List D.Term}{f:D.Term->Option (Int×Bool)}{g:D.Term->Int×Bool}{n:Nat}(hf:∀x∈ks,f x=some (g x))(hn:ks.length<n)(hk:ks.length<=1000000):
  iterN (λ(s1:Int×(List Int))=>if(decide (s1.1<(len ks)))then(get? ks s1.1).bind λx4=>(f x4).bind λx5=>if(!x5.2)then some (.inr (.inr ((0:Int),false)))else(app? s1.2 ([x5.1]:List Int)).bind λx6=>some (.inl ((w64 (s1.1+1)),x6))else some (.inr (.inl (s1.2)))) n (0,([]:List Int))=some (if ks.all (λx=>(g x).2)=true then(.inl (ks.map λx=>(g x).1):List Int⊕(Int×Bool))else .inr ((0:Int),false)):=by
 obtain⟨r,g1,g2⟩:=Yn (l:=ks) (n:=n) (Z:=List Int) (ρ:=List Int⊕(Int×Bool)) (B:=λ(s1:Int×(List Int))=>if(decide (s1.1<(len ks)))then(get? ks s1.1).bind λx4=>(f x4).bind λx5=>if(!x5.2)then some (.inr (.inr ((0:Int),false)))else(app? s1.2 ([x5.1]:List Int)).bind λx6=>some (.inl ((w64 (s1.1+1)),x6))else some (.inr (.inl (s1.2)))) (λk a=>((k:Int),a)) (λys a=>∃pre,pre++ys=ks/\a=pre.map (λx=>(g x).1)/\pre.all (λx=>(g x).2)=true)
   (λr=>r=if ks.all (λx=>(g x).2)=true then(.inl (ks.map λx=>(g x).1):List Int⊕(Int×Bool))else .inr ((0:Int),false))
   (λk x xs a hk' hx hlen⟨pre,h1,h2,h3⟩=>by
    have hd:decide ((k:Int)<len ks)=true:=by rw[Za];simp;omega
    have hpl:pre.length<=ks.length:=by rw[<-h1];simp
    simp only[hd,Zb5,get?_nat,hx,Zbn,hf x (Zbz hx)];cases hb:(g x).2
    ·refine .inr ⟨_,rfl, ?_⟩;have:ks.all (λx=>(g x).2)=false:=by rw[<-h1,List.all_append,ZdW,hb];simp
     rw[this];rfl
    ·refine .inl ⟨a++[(g x).1], ?_,pre++[x],by rw[ZbI];exact h1,by rw[h2];simp,by rw[List.all_append,h3];simp[hb]⟩;simp only[Zb4,Zbp,Zbx]
     rw[Ho (by rw[h2];simp;omega),Zb];rfl)
   (λa⟨pre,h1,h2,h3⟩=>by
    have hd:decide ((ks.length:Int)<len ks)=false:=by rw[Za];simp
    simp only[hd,Zbp,Zbx];rw[Zcg]at h1;subst h1
    exact⟨_,rfl,by rw[h3,Zbq rfl,h2]⟩) (a:=[]) ⟨[],rfl,rfl,rfl⟩ hn
 rw[show((0:Nat):Int)=0 from rfl]at g1;rw[g1,g2]
def Y6{op w m:Int}{nm:Str}{ks:List D.Term}(h:nodeB ⟨op,w,m,nm,ks⟩=true):(1<=w/\w<=16)/\((op=0/\ks=[]/\nm=⟨[]⟩/\wordB w m=true)\/(op=22/\ks=[]/\m=0)\/((op=1\/op=2)/\m=0/\nm=⟨[]⟩/\∃a,ks=[a]/\nodeB a=true/\a.W=w)\/(3<=op/\op<=16/\m=0/\nm=⟨[]⟩/\∃a b,ks=[a,b]/\nodeB a=true/\nodeB b=true/\a.W=b.W/\(op<=13->a.W=w)/\(14<=op->w=1))\/(op=17/\m=0/\nm=⟨[]⟩/\∃a b c,ks=[a,b,c]/\nodeB a=true/\nodeB b=true/\nodeB c=true/\a.W=1/\b.W=w/\c.W=w)\/(op=18/\m=0/\nm=⟨[]⟩/\∃a b,ks=[a,b]/\nodeB a=true/\nodeB b=true/\a.W+b.W=w)\/(op=19/\nm=⟨[]⟩/\0<=m/\m<=16/\∃a,ks=[a]/\nodeB a=true/\m+w<=a.W)\/((op=20\/op=21)/\m=0/\nm=⟨[]⟩/\∃a,ks=[a]/\nodeB a=true/\a.W<=w)):=by
 rw[Ul,Zbt]at h;obtain⟨h,hk⟩:=h;unfold locB at h;simp only[Zbt,Zb8,Zcr,ZcF,Tm]at h;obtain⟨⟨⟨hw,hn⟩,hm⟩,h⟩:=h;refine⟨hw,?_⟩;simp only at hk;unfold shB at h;by_cases o0:op=0
 ·rw[Zbq o0]at h;simp only[Zbt,List.isEmpty_iff,List.map_eq_nil_iff]at h;exact .inl ⟨o0,h.1,by rcases hn with hn|hn;exact hn;omega,h.2⟩
 rw[Zbv o0]at h;by_cases o1:op=22
 ·rw[Zbq o1]at h;simp only[Zbt,List.isEmpty_iff,List.map_eq_nil_iff]at h;exact .inr (.inl ⟨o1,h.1,by omega⟩)
 rw[Zbv o1]at h;have hn:nm=⟨[]⟩:=by rcases hn with hn|hn;exact hn;exact absurd hn o1
 have hm:op≠19->m=0:=λo=>by omega
 clear o0 o1;have k1:∀f:Int->Bool,(match ks.map (·.W)with|[a]=>f a|_=>false)=true->∃a,ks=[a]/\nodeB a=true/\f a.W=true:=λf h=>by
  rcases ks with _|⟨a,_|⟨b,l⟩⟩<;>simp at h;rw[YL]at hk;simp at hk;exact⟨a,rfl,hk,h⟩
 have k2:∀f:Int->Int->Bool,(match ks.map (·.W)with|[a,b]=>f a b|_=>false)=true->∃a b,ks=[a,b]/\nodeB a=true/\nodeB b=true/\f a.W b.W=true:=λf h=>by
  rcases ks with _|⟨a,_|⟨b,_|⟨c,l⟩⟩⟩<;>simp at h;rw[YL]at hk;simp at hk;exact⟨a,b,rfl,hk.1,hk.2,h⟩
 have k3:∀f:Int->Int->Int->Bool,(match ks.map (·.W)with|[a,b,c]=>f a b c|_=>false)=true->∃a b c,ks=[a,b,c]/\nodeB a=true/\nodeB b=true/\nodeB c=true/\f a.W b.W c.W=true:=λf h=>by
  rcases ks with _|⟨a,_|⟨b,_|⟨c,_|⟨d,l⟩⟩⟩⟩<;>simp at h;rw[YL]at hk;simp at hk;exact⟨a,b,c,rfl,hk.1,hk.2.1,hk.2.2,h⟩
 by_cases o2:1<=op/\op<=2
 ·rw[Zbq o2]at h;obtain⟨a,ha,hb,hf⟩:=k1 (λa=>a==w) h;exact .inr (.inr (.inl ⟨by omega,hm (by omega),hn,a,ha,hb,by simpa using hf⟩))
 rw[Zbv o2]at h;by_cases o3:3<=op/\op<=13
 ·rw[Zbq o3]at h;obtain⟨a,b,ha,hb,hc,hf⟩:=k2 (λa b=>a==w&&b==w) h;simp only[Zbt,ZcF]at hf;exact .inr (.inr (.inr (.inl ⟨by omega,by omega,hm (by omega),hn,a,b,ha,hb,hc,by omega,by omega,by omega⟩)))
 rw[Zbv o3]at h;by_cases o4:14<=op/\op<=16
 ·rw[Zbq o4]at h;obtain⟨a,b,ha,hb,hc,hf⟩:=k2 (λa b=>a==b&&w==1) h;simp only[Zbt,ZcF]at hf;exact .inr (.inr (.inr (.inl ⟨by omega,by omega,hm (by omega),hn,a,b,ha,hb,hc,hf.1,by omega,by omega⟩)))
 rw[Zbv o4]at h;by_cases o5:op=17
 ·rw[Zbq o5]at h;obtain⟨a,b,c,ha,hb,hc,hd,hf⟩:=k3 (λa b c=>a==1&&b==w&&c==w) h;simp only[Zbt,ZcF]at hf;exact .inr (.inr (.inr (.inr (.inl ⟨o5,hm (by omega),hn,a,b,c,ha,hb,hc,hd,hf.1.1,hf.1.2,hf.2⟩))))
 rw[Zbv o5]at h;by_cases o6:op=18
 ·rw[Zbq o6]at h;obtain⟨a,b,ha,hb,hc,hf⟩:=k2 (λa b=>a+b==w) h;exact .inr (.inr (.inr (.inr (.inr (.inl ⟨o6,hm (by omega),hn,a,b,ha,hb,hc,by simpa using hf⟩)))))
 rw[Zbv o6]at h;by_cases o7:op=19
 ·rw[Zbq o7]at h;obtain⟨a,ha,hb,hf⟩:=k1 (λa=>decide (0<=m/\m<=16)&&decide (m+w<=a)) h;simp only[Zbt,Zb8]at hf;exact .inr (.inr (.inr (.inr (.inr (.inr (.inl ⟨o7,hn,hf.1.1,hf.1.2,a,ha,hb,hf.2⟩))))))
 rw[Zbv o7]at h;by_cases o8:20<=op/\op<=21
 ·rw[Zbq o8]at h;obtain⟨a,ha,hb,hf⟩:=k1 (λa=>decide (a<=w)) h;exact .inr (.inr (.inr (.inr (.inr (.inr (.inr ⟨by omega,hm (by omega),hn,a,ha,hb,by simpa using hf⟩))))))
 rw[Zbv o8]at h;cases h
open Cc (BS LS CircP Grow GoodL Good litN lines negs seqP ifP opP net RelB FOk)
def bitI(v:Int)(k:Nat):Bool:=match shr? v (k:Int)with|some x=>band x 1==1|none=>false
def wordL(w:Nat)(v:Int):List Int:=(List.range w).map λk=>if bitI v k then 1 else-1
def Vn(w:Nat)(v:Int):(wordL w v).length=w:=by simp[wordL]
def atV:List D.Value->Int->Str->Int
 |[],a,_=>a
 |v::l,a,s=>if Str.eqb v.Name s then a+v.W else atV l (a+v.W) s
def varL(vs:List D.Value)(s:Str)(w:Nat):List Int:=(List.range w).map λk:Nat=>atV vs 1 s-(k:Int)
def Ni(vs:List D.Value)(s:Str)(w:Nat):(varL vs s w).length=w:=by simp[varL]
def fin(op:Int)(w m:Nat)(ks:List (List Int))(s:BS):LS:=
 if op=1 then(negs (ks.getD 0 []),s)
 else if op=2 then if w=16 then(List.replicate w (-1),(s.1,true))else opP s 4 (List.replicate w (-1)) (ks.getD 0 [])
 else if op=17 then seqP (λs p=>ifP s ((ks.getD 0 []).getD 0 0) p.1 p.2) s ((ks.getD 1 []).zip (ks.getD 2 []))
 else if op=18 then(ks.getD 1 []++ks.getD 0 [],s)
 else if op=19 then(((ks.getD 0 []).drop m).take w,s)
 else if op=20 then(ks.getD 0 []++List.replicate (w-(ks.getD 0 []).length) (-1),s)
 else if op=21 then(ks.getD 0 []++List.replicate (w-(ks.getD 0 []).length) ((ks.getD 0 []).getD ((ks.getD 0 []).length-1) 0),s)
 else if(ks.getD 0 []).length=16 then(List.replicate w (-1),(s.1,true))else opP s op (ks.getD 0 []) (ks.getD 1 [])
mutual
def nP(vs:List D.Value):D.Term->BS->LS
 |⟨op,w,m,nm,ks⟩,s=>if op=0 then(wordL w.toNat m,s)else if op=22 then(varL vs nm w.toNat,s)else let r:=nPs vs ks s;fin op w.toNat m.toNat r.1 r.2
def nPs(vs:List D.Value):List D.Term->BS->List (List Int)×BS
 |[],s=>([],s)
 |t::l,s=>let r:=nP vs t s;let q:=nPs vs l r.2;(r.1::q.1,q.2)
end
def Kg(vs:List D.Value)(t:D.Term)(s:BS):nP vs t s=if t.Op=0 then(wordL t.W.toNat t.N,s)else if t.Op=22 then(varL vs t.Name t.W.toNat,s)else fin t.Op t.W.toNat t.N.toNat (nPs vs t.Kids s).1 (nPs vs t.Kids s).2:=by cases t;rw[nP]
def PX(vs:List D.Value)(s:BS):nPs vs [] s=([],s):=by rw[nPs]
def TU(vs:List D.Value)(t:D.Term)(l:List D.Term)(s:BS):nPs vs (t::l) s=((nP vs t s).1::(nPs vs l (nP vs t s).2).1,(nPs vs l (nP vs t s).2).2):=by rw[nPs]
structure VF(vs:List D.Value)(c:D.Circuit):Prop where
 w1:∀v∈vs,1<=v.W
 sum:(vs.map (·.W)).foldl (· + ·) 0=c.Inputs
def TV(vs:List D.Value)(t:D.Term):Prop:=∀p∈vrs t,∃v∈vs,v.Name=p.1/\v.W=p.2
open Cc (BS LS CircP Grow GoodL Good litN lines negs seqP ifP opP net RelB FOk XR Yw litN_iff litN_mono ZA)
theorem Dy{vs:List D.Value}{s:Str}(h1:∀v∈vs,1<=v.W):∀{a:Int},a<=atV vs a s/\atV vs a s<=(vs.map (·.W)).foldl (· + ·) a:=by
 induction vs with
 |nil=>intro a;simp[atV]
 | cons v l ih=>
  intro a;have hv:=h1 v (by simp);have hf:∀(l:List D.Value)(a:Int),(∀v∈l,1<=v.W)->a<=(l.map (·.W)).foldl (· + ·) a:=λl=>by
   induction l with
   |nil=>intro a _;simp
   |cons x l ih=>intro a hx;have:=ih (a+x.W) (λv hv=>hx v (by simp[hv]));have:=hx x (by simp);simp only[Zb1,Zcx];omega
  unfold atV;simp only[Zb1,Zcx];split
  ·have:=hf l (a+v.W) (λv hv=>h1 v (by simp[hv]));omega
  ·have:=ih (λv hv=>h1 v (by simp[hv])) (a:=a+v.W);omega
theorem Br{s:Str}{w:Int}:∀{vs:List D.Value}{a:Int},(∀v∈vs,1<=v.W)->vs.Pairwise (λx y=>x.Name≠y.Name)->(∃v∈vs,v.Name=s/\v.W=w)->a+w<=atV vs a s
 |[],a,_,_,⟨v,hv,_⟩=>by cases hv
 | v::l,a,h1,hp,⟨x,hx,hn,hw⟩=>by
  unfold atV;rw[ZcW]at hp;by_cases c:v.Name=s
  ·have e:Str.eqb v.Name s=true:=by rw[c];exact OA s
   rw[Zbq e];rcases ZbN.1 hx with rfl|hx
   ·omega
   ·exact absurd (c.trans hn.symm) (hp.1 x hx)
  ·have e:Str.eqb v.Name s=false:=by rw[Tm];simpa using c
   rw[e];simp only[Zbp,Zbx];rcases ZbN.1 hx with rfl|hx
   ·exact absurd hn c
   ·have:=Br (a:=a+v.W) (λv hv=>h1 v (by simp[hv])) hp.2 ⟨x,hx,hn,hw⟩;have:=h1 v (by simp);omega
theorem Rc:∀(l:List Int)(a b:Int),l.foldl (· + ·) (a+b)=a+l.foldl (· + ·) b
 |[],a,b=>rfl
 |x::l,a,b=>by simp only[Zcx];rw[Int.add_assoc];exact Rc l a (b+x)
def Co{vs:List D.Value}{s:BS}{nm:Str}{w:Int}(hs:CircP s.1)(hv:VF vs s.1)(hp:vs.Pairwise λx y=>x.Name≠y.Name)(h:∃v∈vs,v.Name=nm/\v.W=w)(hw:1<=w):GoodL s w.toNat (varL vs nm w.toNat,s):=by
 refine⟨hs,Grow.refl _,Ni _ _ _,λx hx=>?_⟩;unfold varL at hx;obtain⟨k,hk,rfl⟩:=ZcB.1 hx;have hk:=ZbM.1 hk;have h1:=Br (a:=1) hv.w1 hp h;have h2:=(Dy (s:=nm) hv.w1 (a:=1)).2;have h3:=Rc (vs.map (·.W)) 1 0;rw[show(1:Int)+0=1 from rfl,hv.sum]at h3;rw[h3]at h2;rw[litN_iff];show 1<=Cc.iab (atV vs 1 nm-(k:Int))/\Cc.iab (atV vs 1 nm-(k:Int))<=s.1.Inputs+1+(s.1.Gates.length:Int);unfold Cc.iab;have:=hs.i0;constructor<;>split<;>omega
def EB{s:BS}{w:Nat}{v:Int}(hs:CircP s.1):GoodL s w (wordL w v,s):=by
 refine⟨hs,Grow.refl _,Vn _ _,λx hx=>?_⟩;unfold wordL at hx;obtain⟨k,hk,rfl⟩:=ZcB.1 hx;split
 ·exact XR hs
 ·exact Yw hs
def K2(s:BS)(t:D.Term)(l:List Int):Prop:=l.length=t.W.toNat/\∀x∈l,litN (lines s.1) x=true
def KK(s:BS):List D.Term->List (List Int)->Prop
 |[],[]=>True
 |t::ts,l::ls=>K2 s t l/\KK s ts ls
 |_,_=>False
theorem KK1{s:BS}{t:D.Term}{ts:List D.Term}{ls:List (List Int)}(h:KK s (t::ts) ls):∃l l',K2 s t l/\KK s ts l'/\ls=l::l':=by
 cases ls with
 |nil=>exact h.elim
 |cons l l'=>exact⟨l,l',h.1,h.2,rfl⟩
theorem KK0{s:BS}{ls:List (List Int)}(h:KK s [] ls):ls=[]:=by
 cases ls with
 |nil=>rfl
 |cons l l'=>exact h.elim
def K2.mono{s s':BS}{t:D.Term}{l:List Int}(h:K2 s t l)(g:Grow s.1 s'.1):K2 s' t l:=⟨h.1,λx hx=>litN_mono (h.2 x hx) g.lines⟩
def KO{s:BS}{w:Nat}(hs:CircP s.1)(f:Bool):GoodL s w (List.replicate w (-1),(s.1,f)):=⟨hs,Grow.refl _,by simp,λx hx=>by rw[(Zem.1 hx).2];exact Yw hs⟩
def TP{s:BS}{w:Nat}(hs:CircP s.1):∀x∈List.replicate w (-1:Int),litN (lines s.1) x=true:=λx hx=>by rw[(Zem.1 hx).2];exact Yw hs
def Gd{s:BS}{c:Int}{a b:List Int}(hs:CircP s.1)(hc:litN (lines s.1) c=true)(ha:∀x∈a,litN (lines s.1) x=true)(hb:∀x∈b,litN (lines s.1) x=true):FOk (λs p=>ifP s c p.1 p.2) s (a.zip b):=λs' p hc' hg hp=>by
 have h1:=ZdK hp;exact Cc.if_good hc' (litN_mono hc hg.lines) (litN_mono (ha _ h1.1) hg.lines) (litN_mono (hb _ h1.2) hg.lines)
def fin_good{s:BS}{t:D.Term}{ls:List (List Int)}(hb:nodeB t=true)(hs:CircP s.1)(h0:t.Op≠0)(h22:t.Op≠22)(hk:KK s t.Kids ls):GoodL s t.W.toNat (fin t.Op t.W.toNat t.N.toNat ls s):=by
 obtain⟨op,w,m,nm,ks⟩:=t;obtain⟨hw,hsh⟩:=Y6 hb;simp only at h0 h22 hk⊢;rcases hsh with⟨rfl,-⟩|⟨rfl,-⟩|⟨ho,-,-,a,rfl,ha,haw⟩|⟨h3,h16,-,-,a,b,rfl,ha,hb',hab,h13,h14⟩|⟨rfl,-,-,a,b,c,rfl,ha,hb',hc,ha1,hbw,hcw⟩|⟨rfl,-,-,a,b,rfl,ha,hb',habw⟩|⟨rfl,-,hm0,hm1,a,rfl,ha,haw⟩|⟨ho,-,-,a,rfl,ha,haw⟩
 ·exact absurd rfl h0
 ·exact absurd rfl h22
 ·obtain⟨la,r1,k1,hn1,rfl⟩:=KK1 hk;obtain rfl:=KK0 hn1;have hl:la.length=w.toNat:=by rw[k1.1,haw]
  unfold fin;simp only[Zb9];rcases ho with rfl|rfl
  ·simp only[Zb5];exact⟨hs,Grow.refl _,by rw[Cc.negs_len,hl],Cc.negs_lits k1.2⟩
  ·simp only[show¬((2:Int)=1) by decide,Zbx,Zb5];split
   ·exact KO hs true
   ·rename_i h16;have:=Cc.op_good hs (op:=4) (a:=List.replicate w.toNat (-1)) (b:=la) (by omega) (by simp[hl]) (by simp;omega) (by simp;omega) (TP hs) k1.2;simpa[Cc.opW]using this
 ·obtain⟨la,r1,k1,hn1,rfl⟩:=KK1 hk;obtain⟨lb,r2,k2,hn2,rfl⟩:=KK1 hn1;obtain rfl:=KK0 hn2;have hA:=ZY ha;unfold fin;simp only[Zb9,ZbQ];rw[ifn,ifn,ifn,ifn,ifn,ifn,ifn];split
  ·exact KO hs true
  ·rename_i h16';have:=Cc.op_good hs (op:=op) (a:=la) (b:=lb) ⟨h3,h16⟩ (by rw[k1.1,k2.1,hab]) (by have:=k1.1;omega) (by have:=k1.1;omega) k1.2 k2.2;have e:Cc.opW op la.length=w.toNat:=by
    unfold Cc.opW;split
    ·rw[h14 (by omega)];rfl
    ·rw[k1.1,h13 (by omega)]
   rw[e]at this;exact this
 ·obtain⟨la,r1,k1,hn1,rfl⟩:=KK1 hk;obtain⟨lb,r2,k2,hn2,rfl⟩:=KK1 hn1;obtain⟨lc,r3,k3,hn3,rfl⟩:=KK1 hn2;obtain rfl:=KK0 hn3;unfold fin;simp only[Zb9,ZbQ];rw[ifn,ifn,Zbq (by trivial)];have hc0:litN (lines s.1) (la.getD 0 0)=true:=k1.2 _ (Cc.getD_mem (by have:=k1.1;rw[ha1]at this;simp at this;omega));have g:=Cc.seq_good hs (Gd hs hc0 k2.2 k3.2);rw[Zc4,k2.1,k3.1,hbw,hcw,Zdu]at g;exact g
 ·obtain⟨la,r1,k1,hn1,rfl⟩:=KK1 hk;obtain⟨lb,r2,k2,hn2,rfl⟩:=KK1 hn1;obtain rfl:=KK0 hn2;have hA:=ZY ha;have hB:=ZY hb';unfold fin;simp only[Zb9,ZbQ];rw[ifn,ifn,ifn,Zbq (by trivial)];exact⟨hs,Grow.refl _,by rw[Zbw,k1.1,k2.1];omega,λx hx=>(Zb7.1 hx).elim (k2.2 x) (k1.2 x)⟩
 ·obtain⟨la,r1,k1,hn1,rfl⟩:=KK1 hk;obtain rfl:=KK0 hn1;unfold fin;simp only[Zb9];rw[ifn,ifn,ifn,ifn,Zbq (by trivial)];exact⟨hs,Grow.refl _,by rw[Zb2,ZbD,k1.1];omega,λx hx=>k1.2 x (Zco (Zc8 hx))⟩
 ·obtain⟨la,r1,k1,hn1,rfl⟩:=KK1 hk;obtain rfl:=KK0 hn1;have hA:=ZY ha;unfold fin;simp only[Zb9];rcases ho with rfl|rfl
  ·rw[ifn,ifn,ifn,ifn,ifn,Zbq (by trivial)];exact⟨hs,Grow.refl _,by rw[Zbw,ZbV,k1.1];omega,λx hx=>(Zb7.1 hx).elim (k1.2 x) (TP hs x)⟩
  ·rw[ifn,ifn,ifn,ifn,ifn,ifn,Zbq (by trivial)];refine⟨hs,Grow.refl _,by rw[Zbw,ZbV,k1.1];omega,λx hx=>(Zb7.1 hx).elim (k1.2 x) λh=>?_⟩;rw[(Zem.1 h).2];exact k1.2 _ (Cc.getD_mem (by have:=k1.1;omega))
theorem KK.mono{s s':BS}(g:Grow s.1 s'.1):∀{ts:List D.Term}{ls:List (List Int)},KK s ts ls->KK s' ts ls
 |[],[],_=>trivial
 |[],_::_,h=>h.elim
 |_::_,[],h=>h.elim
 |_::_,_::_,h=>⟨h.1.mono g,KK.mono g h.2⟩
def VF.mono{vs:List D.Value}{c c':D.Circuit}(h:VF vs c)(g:Grow c c'):VF vs c':=⟨h.w1,h.sum.trans g.inputs.symm⟩
theorem Tu{vs:List D.Value}{t x:D.Term}(h:TV vs t)(ho:t.Op≠22)(hx:x∈t.Kids):TV vs x:=λp hp=>by
 refine h p ?_;rw[Vs,Zbv ho];have:∀{l:List D.Term},x∈l->p∈vrss l:=λ{l}=>by
  induction l with
  |nil=>intro h;cases h
  |cons y l ih=>
   intro hy;rw[WE,Zb7];rcases ZbN.1 hy with rfl|hy
   ·exact .inl hp
   ·exact .inr (ih hy)
 exact this hx
theorem Um{vs:List D.Value}:∀(l:List D.Term)(s:BS),(∀t∈l,∀s:BS,CircP s.1->VF vs s.1->GoodL s t.W.toNat (nP vs t s))->CircP s.1->VF vs s.1->CircP (nPs vs l s).2.1/\Grow s.1 (nPs vs l s).2.1/\KK (nPs vs l s).2 l (nPs vs l s).1
 |[],s,_,hs,_=>by rw[PX];exact⟨hs,Grow.refl _,trivial⟩
 |t::l,s,h,hs,hv=>by
  rw[TU];have g:=h t (by simp) s hs hv;obtain⟨q1,q2,q3⟩:=Um l (nP vs t s).2 (λx hx=>h x (by simp[hx])) g.circ (hv.mono g.grow);exact⟨q1,g.grow.trans q2,⟨g.len,λx hx=>litN_mono (g.lits x hx) q2.lines⟩,q3⟩
def nodeK{t:D.Term}(hb:nodeB t=true):∀x∈t.Kids,nodeB x=true:=λx hx=>by
 rw[Ul,Zbt,YL,ZbC]at hb;exact hb.2 x hx
theorem UC{vs:List D.Value}(hp:vs.Pairwise λx y=>x.Name≠y.Name):∀(n:Nat)(t:D.Term)(s:BS),cnt t<=n->nodeB t=true->TV vs t->CircP s.1->VF vs s.1->GoodL s t.W.toNat (nP vs t s):=by
 intro n
 induction n with
 |zero=>intro t s h;have:=X8 t;omega
 | succ n ih=>
  intro t s hc hb ht hs hv;have hw:=ZY hb;rw[Kg];by_cases h0:t.Op=0
  ·rw[Zbq h0];exact EB hs
  rw[Zbv h0];by_cases h22:t.Op=22
  ·rw[Zbq h22];refine Co hs hv hp (ht (t.Name,t.W) ?_) hw.1;rw[Vs,Zbq h22];simp
  rw[Zbv h22];have hcn:=X8 t;obtain⟨q1,q2,q3⟩:=Um t.Kids s (λx hx s' hs' hv'=>ih x s' (by have:=XT hx;omega) (nodeK hb x hx) (Tu ht h22 hx) hs' hv') hs hv;have g:=fin_good hb q1 h0 h22 q3;exact⟨g.circ,q2.trans g.grow,g.len,g.lits⟩
open Cc (BS LS CircP Grow GoodL Good litN lines negs seqP ifP opP net RelB FOk FU)
def Ko(v:Int)(k:Nat):∃x,shr? v (k:Int)=some x/\bitI v k=(band x 1==1):=by
 have:∃x,shr? v (k:Int)=some x:=by unfold shr?;rw[ifn];exact⟨_,rfl⟩
 obtain⟨x,hx⟩:=this;exact⟨x,hx,by unfold bitI;rw[hx]⟩
def OI(k:Nat)(v:Int):wordL (k+1) v=wordL k v++[if bitI v k then 1 else-1]:=by unfold wordL;rw[ZcC,Zce];rfl
def Ox(w:Nat):wordL w 0=List.replicate w (-1):=by
 have:∀k,bitI 0 k=false:=λk=>by
  have h:shr? 0 (k:Int)=some 0:=by unfold shr?;rw[ifn];simp
  unfold bitI;rw[h];exact Cc.band01
 unfold wordL;simp only[this,Zbp,Zbx];rw[List.map_const'];simp
section
variable{fu:Nat}[FU fu]
def Ng{w:Nat}(hw:w<=1000)(v:Int):XM fu (w:Int) v=some (wordL w v):=by
 unfold XM;rw[YE (I:=λk t=>t=((k:Int),wordL k v)) (m:=w) (r:=wordL w v) (λk t hk ht=>?_) (λt ht=>?_) w 0 _ (by omega) (by simp[wordL]) fu (Cc.lt_fuel (by omega))]
 ·rfl
 all_goals subst ht
 ·refine⟨_, ?_,rfl⟩;obtain⟨x,hx,hb⟩:=Ko v k;have ha:∀y:Int,app? (wordL k v) [y]=some (wordL k v++[y]):=λy=>by
   unfold app?;rw[Zbq (by rw[Vn];simp;unfold room;omega)]
  simp only;rw[Zbq (by simp;omega),hx];simp only[Zbn];rw[OI,hb];by_cases c:(band x 1==1)=true
  ·rw[Zbq c,Zbq c,ha,Zb];rfl
  ·rw[Zbv c,Zbv c,ha,Zb];rfl
 ·simp only;rw[ifn]
def OC{w:Nat}(hw:w<=900)(v:Int):Y1 fu (w:Int) v=some (wordL w v):=by
 unfold Y1;have hmk:mk? (w:Int) (0:Int)=some (List.replicate w 0):=by
  unfold mk?;rw[Zbq ⟨by omega,by unfold room;omega⟩];rfl
 rw[hmk];simp only[Zbn];rw[YE (I:=λk t=>t=((k:Int),wordL k v++List.replicate (w-k) 0)) (m:=w) (r:=wordL w v) (λk t hk ht=>?_) (λt ht=>?_) w 0 _ (by omega) (by simp[wordL]) fu (Cc.lt_fuel (by omega))]
 ·rfl
 all_goals subst ht
 ·refine⟨_, ?_,rfl⟩;obtain⟨x,hx,hb⟩:=Ko v k;have e:∀y:Int,(wordL k v++List.replicate (w-k) 0).set k y=(wordL k v++[y])++List.replicate (w-(k+1)) 0:=λy=>by
   have:=Cc.set_fill (l:=wordL k v) (n:=w-(k+1)) (x:=y);rw[Vn,show w-(k+1)+1=w-k by omega]at this;exact this
  have e2:∀y z:Int,((wordL k v++[y])++List.replicate (w-(k+1)) 0).set k z=(wordL k v++[z])++List.replicate (w-(k+1)) 0:=λy z=>by
   rw[ZbI,ZcD _ _ (by rw[Vn];omega),Vn,ZcG,Zcp,ZcX,ZbI,Zcp]
  simp only;rw[Zbq (by rw[Za];simp;omega),set?_nat (by simp[Vn];omega)];simp only[Zbn];rw[Cc.u64k (by omega),hx];simp only[Zbn];rw[e,OI,hb];by_cases c:(band x 1==1)=true
  ·rw[Zbq c,Zbq c,set?_nat (by simp[Vn]<;>omega),e2];simp only[Zbn];rw[Zb];rfl
  ·rw[Zbv c,Zbv c,Zb];rfl
 ·simp only;rw[Zbv (by rw[Za];simp)];simp
def at_loop{vs:List D.Value}{s:Str}(hl:vs.length<=1000)(hw:∀v∈vs,1<=v.W/\v.W<=16):iterN (λ(s1:Int×Int)=>if(decide (s1.2<(len vs)))then(get? vs s1.2).bind λx2=>if(Str.eqb x2.Name s)then some (.inr ((w64 (s1.1+x2.W))))else some (.inl ((w64 (s1.1+x2.W)),(w64 (s1.2+1))))else some (.inr (s1.1))) fu (1,0)=some (atV vs 1 s):=by
  obtain⟨r,g1,g2⟩:=Yn (l:=vs) (n:=fu) (Z:=Int) (ρ:=Int) (B:=λ(s1:Int×Int)=>if(decide (s1.2<(len vs)))then(get? vs s1.2).bind λx2=>if(Str.eqb x2.Name s)then some (.inr ((w64 (s1.1+x2.W))))else some (.inl ((w64 (s1.1+x2.W)),(w64 (s1.2+1))))else some (.inr (s1.1))) (λk a=>(a,(k:Int))) (λys a=>atV ys a s=atV vs 1 s/\1<=a/\a<=1+16*(vs.length-ys.length:Int)/\∀y∈ys,y∈vs) (λr=>r=atV vs 1 s)
    (λk x xs a hk hx hlen⟨h1,h2,h3,h4⟩=>by
      have hd:decide ((k:Int)<len vs)=true:=by rw[Za];simp;omega
      have hxw:=hw x (h4 x (by simp));simp only[Zb6]at hlen h3;simp only[hd,Zb5,get?_nat,hx,Zbn];have e1:w64 (a+x.W)=a+x.W:=Zb;rw[e1];have h1:(if Str.eqb x.Name s=true then a+x.W else atV xs (a+x.W) s)=atV vs 1 s:=h1;cases c:Str.eqb x.Name s
      · rw[c]at h1
        simp only[Zbp,Zbx]at h1⊢;exact .inl ⟨a+x.W,by rw[Zb];rfl,h1,by omega,by omega,λy hy=>h4 y (by simp[hy])⟩
      · rw[c]at h1
        simp only[Zb5]at h1⊢
        exact .inr ⟨_,rfl,h1⟩)
    (λa⟨h1,_⟩=>by
      have hd:decide ((vs.length:Int)<len vs)=false:=by rw[Za];simp
      simp only[hd,Zbp,Zbx]
      exact⟨_,rfl,h1⟩) (a:=1) ⟨rfl,by omega,by omega,λy h=>h⟩ (Cc.lt_fuel (by omega))
  rw[show((0:Nat):Int)=0 from rfl]at g1;rw[g1,g2]
def FY{a:Int}{w:Nat}(hw:w<=16)(h1:1<=a)(h2:a<=100000):iterN (λ(s2:Int×(List Int))=>if(decide (s2.1<(w:Int)))then(app? s2.2 ([(w64 (a-s2.1))]:List Int)).bind λx3=>some (.inl ((w64 (s2.1+1)),x3))else some (.inr (s2.2))) fu (0,([]:List Int))=some ((List.range w).map λk:Nat=>a-(k:Int)):=by
  rw[YE (I:=λk t=>t=((k:Int),(List.range k).map λk:Nat=>a-(k:Int))) (m:=w) (r:=(List.range w).map λk:Nat=>a-(k:Int)) (λk t hk ht=>?_) (λt ht=>?_) w 0 _ (by omega) (by simp) fu (Cc.lt_fuel (by omega))]
  all_goals subst ht
  · refine⟨_, ?_,rfl⟩
    simp only;have ha:∀y:Int,app? ((List.range k).map λk:Nat=>a-(k:Int)) [y]=some (((List.range k).map λk:Nat=>a-(k:Int))++[y]):=λy=>by
      unfold app?;rw[Zbq (by simp;unfold room;omega)]
    rw[Zbq (by simp;omega),Zb (x:=a-(k:Int)),ha];simp only[Zbn];rw[Zb,ZcC,Zce];rfl
  · simp only
    rw[ifn]
end
theorem MR:∀{l:List D.Value}{a:Int},(∀v∈l,1<=v.W)->a+l.length<=(l.map (·.W)).foldl (· + ·) a
 |[],a,_=>by simp
 |v::l,a,h=>by
  have:=MR (l:=l) (a:=a+v.W) λx hx=>h x (by simp[hx]);have:=h v (by simp);simp only[Zb1,Zcx,Zb6];omega
def Vo{c c':D.Circuit}{x:Int}(h:litN (lines c) x=true)(g:Grow c c'):litN (lines c') x=true:=Cc.litN_mono h g.lines
section
variable{n:Nat}[FU n]{s:BS}
def sfin (n:Nat)(p1:D.Term)(ls:List (List Int))(s:BS):Option ((List Int)×D.l04Net):=
   (get? ls 0).bind λx7=>
   if(p1.Op==1)then
    (X0 n x7).bind λx8=>
    some (x8,(D.l04Net.mk (D.Circuit.mk s.1.Inputs s.1.Gates) s.2))
   else
    if(p1.Op==2)then
     (XM n p1.W 0).bind λx9=>
     (get? ([x9,x7]:List (List Int)) 0).bind λx10=>
     if((len x10)==16)then
      (Yh n p1.W (-1)).bind λx11=>
      some (x11,(D.l04Net.mk (D.Circuit.mk s.1.Inputs s.1.Gates) true))
     else
      (get? ([x9,x7]:List (List Int)) 0).bind λx12=>
      (get? ([x9,x7]:List (List Int)) 1).bind λx13=>
      (Yb n (D.l04Net.mk (D.Circuit.mk s.1.Inputs s.1.Gates) s.2) (cond (p1.Op==2) 4 p1.Op) x12 x13).bind λx14=>
      some (x14.1,x14.2)
    else
     if (p1.Op==17)then
      (iterN (λ(s4:Int×(List Int)×Int×Bool×(List D.Gate))=>if(decide (s4.1<p1.W))then(get? x7 0).bind λx15=>(get? ls 1).bind λx16=>(get? x16 s4.1).bind λx17=>(get? ls 2).bind λx18=>(get? x18 s4.1).bind λx19=>(Zl n (D.l04Net.mk (D.Circuit.mk s4.2.2.1 s4.2.2.2.2) s4.2.2.2.1) x15 x17 x19).bind λx20=>(app? s4.2.1 ([x20.1]:List Int)).bind λx21=>some (.inl ((w64 (s4.1+1)),x21,x20.2.c.Inputs,x20.2.full,x20.2.c.Gates))else some (.inr (s4.2.1,s4.2.2.1,s4.2.2.2.1,s4.2.2.2.2))) n (0,([]:List Int),s.1.Inputs,s.2,s.1.Gates)).bind λ(rl4:(List Int)×Int×Bool×(List D.Gate))=>
      some (rl4.1,(D.l04Net.mk (D.Circuit.mk rl4.2.1 rl4.2.2.2) rl4.2.2.1))
     else
      if(p1.Op==18)then
       (get? ls 1).bind λx22=>
       (app? ([]:List Int) x22).bind λx23=>
       (app? x23 x7).bind λx24=>
       some (x24,(D.l04Net.mk (D.Circuit.mk s.1.Inputs s.1.Gates) s.2))
      else
       if(p1.Op==19)then
        (cut? x7 p1.N (w64 (p1.N+p1.W))).bind λx25=>
        some (x25,(D.l04Net.mk (D.Circuit.mk s.1.Inputs s.1.Gates) s.2))
       else
        if(p1.Op==20)then
         (app? ([]:List Int) x7).bind λx26=>
         (Yh n (w64 (p1.W-(len x7))) (-1)).bind λx27=>
         (app? x26 x27).bind λx28=>
         some (x28,(D.l04Net.mk (D.Circuit.mk s.1.Inputs s.1.Gates) s.2))
        else
         if(p1.Op==21)then
          (app? ([]:List Int) x7).bind λx29=>
          (get? x7 (w64 ((len x7)-1))).bind λx30=>
          (Yh n (w64 (p1.W-(len x7))) x30).bind λx31=>
          (app? x29 x31).bind λx32=>
          some (x32,(D.l04Net.mk (D.Circuit.mk s.1.Inputs s.1.Gates) s.2))
         else
          (get? ls 0).bind λx33=>
          if((len x33)==16)then
           (Yh n p1.W (-1)).bind λx34=>
           some (x34,(D.l04Net.mk (D.Circuit.mk s.1.Inputs s.1.Gates) true))
          else
           (get? ls 0).bind λx35=>
           (get? ls 1).bind λx36=>
           (Yb n (D.l04Net.mk (D.Circuit.mk s.1.Inputs s.1.Gates) s.2) (cond (p1.Op==2) 4 p1.Op) x35 x36).bind λx37=>
           some (x37.1,x37.2)
def IL{l:List Int}{m w:Nat}(h:m+w<=l.length)(hl:l.length<=1000):cut? l (m:Int) (w64 ((m:Int)+(w:Int)))=some ((l.drop m).take w):=by
 rw[Zb];unfold cut?;rw[Zbq ⟨by omega,by omega,by omega⟩];have e1:((m:Int)+(w:Int)).toNat=m+w:=by omega
 rw[e1,ZbE,Zeq,Nat.add_sub_cancel_left]
theorem TG{l m:List Int}(h:l.length+m.length<=1000):app? l m=some (l++m):=by unfold app?;rw[Zbq (by unfold room;omega)]
def g0{U:Type}{a:U}{l:List U}:get? (a::l) 0=some a:=rfl
def g1{U:Type}{a b:U}{l:List U}:get? (a::b::l) 1=some b:=rfl
def g2{U:Type}{a b c:U}{l:List U}:get? (a::b::c::l) 2=some c:=rfl
def Dh{l:List Int}(h:1<=l.length)(h2:l.length<=1000):get? l (w64 (len l-1))=some (l.getD (l.length-1) 0):=by
 rw[Za,Zb,show(l.length:Int)-1=((l.length-1:Nat):Int) by omega,get?_nat,Cc.getD_get (by omega)]
def CV{t:D.Term}{ls:List (List Int)}(hb:nodeB t=true)(hs:CircP s.1)(h0:t.Op≠0)(h22:t.Op≠22)(hk:KK s t.Kids ls):sfin n t ls s=some ((fin t.Op t.W.toNat t.N.toNat ls s).1,net (fin t.Op t.W.toNat t.N.toNat ls s).2):=by
 obtain⟨op,w,m,nm,ks⟩:=t;obtain⟨hw,hsh⟩:=Y6 hb;simp only at h0 h22 hk⊢;have eW:((w.toNat:Nat):Int)=w:=by omega
 unfold sfin;simp only;rcases hsh with⟨rfl,-⟩|⟨rfl,-⟩|⟨ho,-,-,a,rfl,ha,haw⟩|⟨h3,h16,-,-,a,b,rfl,ha,hb',hab,h13,h14⟩|⟨rfl,-,-,a,b,c,rfl,ha,hb',hc,ha1,hbw,hcw⟩|⟨rfl,-,-,a,b,rfl,ha,hb',habw⟩|⟨rfl,-,hm0,hm1,a,rfl,ha,haw⟩|⟨ho,-,-,a,rfl,ha,haw⟩
 ·exact absurd rfl h0
 ·exact absurd rfl h22
 ·obtain⟨la,r1,k1,hn1,rfl⟩:=KK1 hk;obtain rfl:=KK0 hn1;have hl:la.length=w.toNat:=by rw[k1.1,haw]
  rw[g0];simp only[Zbn];unfold fin;simp only[Zb9];rcases ho with rfl|rfl
  ·rw[Zbq (by rfl),Zbq (by trivial),Cc.spec_not hs.lines1 (by omega) k1.2];rfl
  ·rw[ifn,Zbq (by rfl),ifn,Zbq (by trivial),<-eW,Ng (by omega),Ox];simp only[Zbn,g0,g1,ZbE,Za,ZbV];by_cases c:w.toNat=16
   ·rw[Zbq (by simp;omega),Zbq c,Cc.spec_fill (by omega)];rfl
   ·rw[Zbv (by simp;omega),Zbv c];have:=Cc.spec_op (fuel:=n) hs (op:=4) (a:=List.replicate w.toNat (-1)) (b:=la) (by omega) (by simp[hl]) (by simp;omega) (by simp;omega) (TP hs) k1.2;have this':Yb n (D.l04Net.mk (D.Circuit.mk s.1.Inputs s.1.Gates) s.2) (cond ((2:Int)==2) 4 2) (List.replicate w.toNat (-1)) la=_:=this;rw[this'];rfl
 ·obtain⟨la,r1,k1,hn1,rfl⟩:=KK1 hk;obtain⟨lb,r2,k2,hn2,rfl⟩:=KK1 hn1;obtain rfl:=KK0 hn2;have hA:=ZY ha;unfold fin;simp only[Zb9,ZbQ,g0,g1,Zbn];have bb:∀k:Int,k<=2\/17<=k->(op==k)=false:=λk hk=>by simp;omega
  have cc:∀k:Int,k<=2\/17<=k->¬op=k:=λk hk=>by omega
  simp only[bb 1 (by omega),bb 2 (by omega),bb 17 (by omega),bb 18 (by omega),bb 19 (by omega),bb 20 (by omega),bb 21 (by omega),cc 1 (by omega),cc 2 (by omega),cc 17 (by omega),cc 18 (by omega),cc 19 (by omega),cc 20 (by omega),cc 21 (by omega),Zbp,Zbx,cond_false];have hla:=k1.1;by_cases c:la.length=16
  ·rw[Zbq (by rw[Za];simp;omega),Zbq c,<-eW,Cc.spec_fill (by omega)];simp only[ZbE];rfl
  ·rw[Zbv (by rw[Za];simp;omega),Zbv c];have:=Cc.spec_op (fuel:=n) hs (op:=op) (a:=la) (b:=lb) ⟨h3,h16⟩ (by rw[k1.1,k2.1,hab]) (by omega) (by omega) k1.2 k2.2;have this':Yb n (D.l04Net.mk (D.Circuit.mk s.1.Inputs s.1.Gates) s.2) op la lb=_:=this;rw[this'];rfl
 ·obtain⟨la,r1,k1,hn1,rfl⟩:=KK1 hk;obtain⟨lb,r2,k2,hn2,rfl⟩:=KK1 hn1;obtain⟨lc,r3,k3,hn3,rfl⟩:=KK1 hn2;obtain rfl:=KK0 hn3;unfold fin;simp only[Zb9,ZbQ,g0,g1,g2,Zbn];rw[ifn,ifn,Zbq (by rfl)];rw[ifn,ifn,Zbq (by trivial)];have hla:=k1.1;have hlb:=k2.1;have hlc:=k3.1;rw[ha1]at hla;rw[hbw]at hlb;rw[hcw]at hlc;have hl1:la.length=1:=by simpa using hla
  have hg0:get? la 0=some (la.getD 0 0):=by
   obtain⟨z,hz⟩:=ZdO.1 hl1;rw[hz];rfl
  have hc0:litN (lines s.1) (la.getD 0 0)=true:=k1.2 _ (Cc.getD_mem (by omega));have hz:(lb.zip lc).length=w.toNat:=by rw[Zc4,hlb,hlc,Zdu]
  rw[Cc.spec_seq (fuel:=n) hs (by omega) (Gd hs hc0 k2.2 k3.2) (λj out s' x hx hc' hg hout=>?_) (λout s'=>?_)]
  ·rfl
  ·have hj:j<w.toNat:=by have:=(Zbu.1 hx).1;omega
   have hz2:=Cc.zip_mem hx;have e:=Cc.spec_if (fuel:=n) hc' (Vo hc0 hg) (Vo (k2.2 _ (Zbz hz2.1)) hg) (Vo (k3.2 _ (Zbz hz2.2)) hg);have e':Zl n (D.l04Net.mk (D.Circuit.mk s'.1.Inputs s'.1.Gates) s'.2) (la.getD 0 0) x.1 x.2=_:=e;simp only;rw[Zbq (by simp;omega),hg0];simp only[Zbn];rw[get?_nat,get?_nat,hz2.1,hz2.2];simp only[Zbn,e'];rw[TG (by simp;omega)];simp only[Zbn];rw[Zb];rfl
  ·simp only;rw[Zbv (by simp;omega)]
 ·obtain⟨la,r1,k1,hn1,rfl⟩:=KK1 hk;obtain⟨lb,r2,k2,hn2,rfl⟩:=KK1 hn1;obtain rfl:=KK0 hn2;have hA:=ZY ha;have hB:=ZY hb';have hla:=k1.1;have hlb:=k2.1;unfold fin;simp only[Zb9,ZbQ,g0,g1,Zbn];rw[ifn,ifn,ifn,Zbq (by rfl)];rw[ifn,ifn,ifn,Zbq (by trivial)];rw[TG (by simp;omega)];simp only[Zbn,Zds];rw[TG (by omega)];rfl
 ·obtain⟨la,r1,k1,hn1,rfl⟩:=KK1 hk;obtain rfl:=KK0 hn1;have hA:=ZY ha;have hla:=k1.1;unfold fin;simp only[Zb9,g0,Zbn];rw[ifn,ifn,ifn,ifn,Zbq (by rfl)];rw[ifn,ifn,ifn,ifn,Zbq (by trivial)];have:=IL (l:=la) (m:=m.toNat) (w:=w.toNat) (by omega) (by omega);rw[show((m.toNat:Nat):Int)=m by omega,eW]at this;rw[this];rfl
 ·obtain⟨la,r1,k1,hn1,rfl⟩:=KK1 hk;obtain rfl:=KK0 hn1;have hA:=ZY ha;have hla:=k1.1;have e:w64 (w-len la)=((w.toNat-la.length:Nat):Int):=by rw[Za,Zb];omega
  unfold fin;simp only[Zb9,g0,Zbn];rcases ho with rfl|rfl
  ·rw[ifn,ifn,ifn,ifn,ifn,Zbq (by rfl)];rw[ifn,ifn,ifn,ifn,ifn,Zbq (by trivial)];rw[TG (by simp;omega),e,Cc.spec_fill (by omega)];simp only[Zbn,Zds];rw[TG (by simp;omega)];rfl
  ·rw[ifn,ifn,ifn,ifn,ifn,ifn,Zbq (by rfl)];rw[ifn,ifn,ifn,ifn,ifn,ifn,Zbq (by trivial)];rw[TG (by simp;omega),Dh (by omega) (by omega)];simp only[Zbn,Zds];rw[e,Cc.spec_fill (by omega)];simp only[Zbn];rw[TG (by simp;omega)];rfl
end
section
variable{vs:List D.Value}(hp:vs.Pairwise λx y=>x.Name≠y.Name)(hw16:∀v∈vs,v.W<=16)
include hp hw16
theorem Ba:∀(n:Nat)(t:D.Term)(s:BS),1048600+cnt t<=n->nodeB t=true->TV vs t->CircP s.1->VF vs s.1->ZW n (net s) t vs=some ((nP vs t s).1,net (nP vs t s).2):=by
  intro n
  induction n with
  |zero=>intro t s h;omega
  | succ n ih=>
    intro t s hn hb ht hs hv
    haveI:FU n:=⟨by omega⟩
    have hw:=ZY hb;have hcn:=X8 t;have hlen:vs.length<=30:=by have:=MR (l:=vs) (a:=0) hv.w1;have:=hv.sum;have:=hs.i1;omega
    have eW:((t.W.toNat:Nat):Int)=t.W:=by omega
    rw[ZW,Kg];by_cases h0:t.Op=0
    · rw[Zbq (by simpa using h0),Zbq h0,<-eW,Ng (by omega)]
      simp only[Zbn,ZbE]
    rw[Zbv (by simpa using h0),Zbv h0];by_cases h22:t.Op=22
    · rw[Zbq (by simpa using h22),Zbq h22,at_loop (by omega) (λv hv'=>⟨hv.w1 v hv',hw16 v hv'⟩)]
      simp only[Zbn];have h1:=(Dy (s:=t.Name) hv.w1 (a:=1));have h2:=Rc (vs.map (·.W)) 1 0;rw[show(1:Int)+0=1 from rfl,hv.sum]at h2;rw[h2]at h1;have:=hs.i1;rw[<-eW,FY (by omega) h1.1 (by omega)];simp only[Zbn,ZbE];rfl
    rw[Zbv (by simpa using h22),Zbv h22];have hkg:∀x∈t.Kids,∀s:BS,CircP s.1->VF vs s.1->GoodL s x.W.toNat (nP vs x s):=λx hx s' hs' hv'=>UC hp _ x s' (Zb0 _) (nodeK hb x hx) (Tu ht h22 hx) hs' hv';obtain⟨q1,q2,q3⟩:=Um t.Kids s hkg hs hv;have hkl:t.Kids.length<=3:=by
      obtain⟨op,w,m,nm,ks⟩:=t;obtain⟨-,hsh⟩:=Y6 hb;rcases hsh with⟨-,rfl,-⟩|⟨-,rfl,-⟩|⟨-,-,-,a,rfl,-⟩|⟨-,-,-,-,a,b,rfl,-⟩|⟨-,-,-,a,b,c,rfl,-⟩|⟨-,-,-,a,b,rfl,-⟩|⟨-,-,-,-,a,rfl,-⟩|⟨-,-,-,a,rfl,-⟩<;>simp
    obtain⟨r,g1,g2⟩:=Yn (l:=t.Kids) (n:=n) (Z:=List (List Int)×BS) (ρ:=(List (List Int))×Int×Bool×(List D.Gate)) (B:=λ(s3:Int×(List (List Int))×Int×Bool×(List D.Gate))=>if(decide (s3.1<(len t.Kids)))then(get? t.Kids s3.1).bind λx4=>(ZW n (D.l04Net.mk (D.Circuit.mk s3.2.2.1 s3.2.2.2.2) s3.2.2.2.1) x4 vs).bind λx5=>(app? s3.2.1 ([x5.1]:List (List Int))).bind λx6=>some (.inl ((w64 (s3.1+1)),x6,x5.2.c.Inputs,x5.2.full,x5.2.c.Gates))else some (.inr (s3.2.1,s3.2.2.1,s3.2.2.2.1,s3.2.2.2.2))) (λk a=>((k:Int),a.1,a.2.1.Inputs,a.2.2,a.2.1.Gates))
      (λys a=>a.1++(nPs vs ys a.2).1=(nPs vs t.Kids s).1/\(nPs vs ys a.2).2=(nPs vs t.Kids s).2/\CircP a.2.1/\VF vs a.2.1/\a.1.length+ys.length=t.Kids.length/\∀y∈ys,y∈t.Kids)
      (λr=>r=((nPs vs t.Kids s).1,(nPs vs t.Kids s).2.1.Inputs,(nPs vs t.Kids s).2.2,(nPs vs t.Kids s).2.1.Gates))
      (λk x xs a hk hx hlen'⟨h1,h2,h3,h4,h5,h6⟩=>by
        have hd:decide ((k:Int)<len t.Kids)=true:=by rw[Za];simp;omega
        have hxk:=h6 x (by simp);have hc:=XT hxk;have e:=ih x a.2 (by omega) (nodeK hb x hxk) (Tu ht h22 hxk) h3 h4;have e':ZW n (D.l04Net.mk (D.Circuit.mk a.2.1.Inputs a.2.1.Gates) a.2.2) x vs=_:=e;have g:=hkg x hxk a.2 h3 h4;simp only[Zb6]at h5;simp only[hd,Zb5,get?_nat,hx,Zbn,e'];rw[show app? a.1 [(nP vs x a.2).1]=some (a.1++[(nP vs x a.2).1])from by unfold app?;rw[Zbq (by simp;unfold room;omega)]];simp only[Zbn];rw[Zb];rw[TU]at h1 h2
        exact .inl ⟨(a.1++[(nP vs x a.2).1],(nP vs x a.2).2),rfl,by rw[<-h1];simp,h2,g.circ,h4.mono g.grow,by simp;omega,λy hy=>h6 y (by simp[hy])⟩)
      (λa⟨h1,h2,h3,h4,h5,h6⟩=>by
        have hd:decide ((t.Kids.length:Int)<len t.Kids)=false:=by rw[Za];simp
        simp only[hd,Zbp,Zbx];rw[PX]at h1 h2;simp only[Zcg]at h1
        exact⟨_,rfl,by rw[<-h1,<-h2]⟩) (a:=([],s)) ⟨by simp,rfl,hs,hv,by simp,λ_ h=>h⟩ (by omega)
    rw[show((0:Nat):Int)=0 from rfl]at g1;have g1':=g1;rw[show((([]:List (List Int)),s).1)=[]from rfl]at g1';rw[show(net s).c.Inputs=s.1.Inputs from rfl,show(net s).full=s.2 from rfl,show(net s).c.Gates=s.1.Gates from rfl,g1',g2];simp only[Zbn];exact CV hb q1 h0 h22 q3
end
def wide1(t:D.Term):Bool:=(t.Op==2||decide (3<=t.Op/\t.Op<=16))&&(match t.Kids with|a::_=>a.W==16|[]=>false)
mutual
def wideB:D.Term->Bool
 |⟨op,w,m,nm,ks⟩=>wide1 ⟨op,w,m,nm,ks⟩||wideBs ks
def wideBs:List D.Term->Bool
 |[]=>false
 |t::l=>wideB t||wideBs l
end
def Sb(t:D.Term):wideB t=(wide1 t||wideBs t.Kids):=by cases t;rw[wideB]
def TS(t:D.Term)(l:List D.Term):wideBs (t::l)=(wideB t||wideBs l):=by rw[wideBs]
def Tz:wideBs []=false:=by rw[wideBs]
theorem Oi{x:D.Term}:∀{l:List D.Term},wideBs l=false->x∈l->wideB x=false
 |y::l,h,hx=>by
  rw[TS,Zd5]at h;rcases ZbN.1 hx with rfl|hx
  ·exact h.1
  ·exact Oi h.2 hx
theorem Ex:∀(n:Nat)(t:D.Term),1048600+cnt t<=n->nodeB t=true->Xv n t=some (wideB t):=by
  intro n
  induction n with
  |zero=>intro t h;omega
  | succ n ih=>
    intro t hn hb;have hcn:=X8 t;have hkl:t.Kids.length<=3:=by
      obtain⟨op,w,m,nm,ks⟩:=t;obtain⟨-,hsh⟩:=Y6 hb;rcases hsh with⟨-,rfl,-⟩|⟨-,rfl,-⟩|⟨-,-,-,a,rfl,-⟩|⟨-,-,-,-,a,b,rfl,-⟩|⟨-,-,-,a,b,c,rfl,-⟩|⟨-,-,-,a,b,rfl,-⟩|⟨-,-,-,-,a,rfl,-⟩|⟨-,-,-,a,rfl,-⟩<;>simp
    have hone:((if(t.Op==2)then some default else(XQ t.Op)).bind λx1=>(if((t.Op==2)||x1)then(get? t.Kids 0)else some default).bind λx2=>some (((t.Op==2)||x1)&&(x2.W==16)))=some (wide1 t):=by
      have hk:(t.Op=2\/3<=t.Op/\t.Op<=16)->∃a l,t.Kids=a::l:=λho=>by
        obtain⟨op,w,m,nm,ks⟩:=t;obtain⟨-,hsh⟩:=Y6 hb;simp only at ho;rcases hsh with⟨rfl,-⟩|⟨rfl,-⟩|⟨-,-,-,a,rfl,-⟩|⟨-,-,-,-,a,b,rfl,-⟩|⟨rfl,-⟩|⟨rfl,-⟩|⟨rfl,-⟩|⟨h1,-⟩
        · omega
        · omega
        · exact⟨_,_,rfl⟩
        · exact⟨_,_,rfl⟩
        · omega
        · omega
        · omega
        · omega
      unfold wide1 XQ;by_cases h2:t.Op=2
      · obtain⟨a,l,hl⟩:=hk (.inl h2)
        simp[h2,hl,g0]
      · have b2:(t.Op==2)=false:=by simpa using h2
        by_cases h3:3<=t.Op/\t.Op<=16
        · obtain⟨a,l,hl⟩:=hk (.inr h3)
          simp[b2,hl,g0,h3]
        · have:¬(t.Op>=3/\t.Op<=16):=h3
          have e:(decide (t.Op>=3)&&decide (t.Op<=16))=false:=by simp;omega
          simp[b2,e,h3]
    rw[Xv,Sb];obtain⟨y1,hy1,hone⟩:=ZbG.1 hone;obtain⟨y2,hy2,hone⟩:=ZbG.1 hone;rw[hy1];simp only[Zbn];rw[hy2];simp only[Zbn];rw[Option.some.inj hone];cases hw1:wide1 t
    · simp only[Zbp,Zbx,ZbL]
      obtain⟨r,g1,g2⟩:=Yn (l:=t.Kids) (n:=n) (Z:=Unit) (ρ:=Unit⊕Bool) (B:=λ(s1:Int)=>if(decide (s1<(len t.Kids)))then(get? t.Kids s1).bind λx3=>(Xv n x3).bind λx4=>if x4 then some (.inr (.inr true))else some (.inl ((w64 (s1+1))))else some (.inr (.inl ()))) (λk _=>(k:Int)) (λys _=>wideBs ys=wideBs t.Kids/\∀y∈ys,y∈t.Kids) (λr=>r=if wideBs t.Kids=true then(.inr true:Unit⊕Bool)else .inl ())
        (λk x xs a hk hx hlen⟨h1,h2⟩=>by
          have hd:decide ((k:Int)<len t.Kids)=true:=by rw[Za];simp;omega
          have hxk:=h2 x (by simp);have hc:=XT hxk;simp only[hd,Zb5,get?_nat,hx,Zbn,ih x (by omega) (nodeK hb x hxk)];rw[TS]at h1;cases hx':wideB x
          · rw[hx']at h1
            simp only[ZbL]at h1;simp only[Zbp,Zbx];exact .inl ⟨(),by rw[Zb];rfl,h1,λy hy=>h2 y (by simp[hy])⟩
          · rw[hx']at h1
            simp only[Zdo]at h1
            exact .inr ⟨_,rfl,by rw[<-h1];rfl⟩)
        (λa⟨h1,_⟩=>by
          have hd:decide ((t.Kids.length:Int)<len t.Kids)=false:=by rw[Za];simp
          simp only[hd,Zbp,Zbx];rw[Tz]at h1
          exact⟨_,rfl,by rw[<-h1];rfl⟩) (a:=()) ⟨rfl,λ_ h=>h⟩ (by omega)
      rw[show((0:Nat):Int)=0 from rfl]at g1;rw[g1,g2];cases wideBs t.Kids<;>rfl
    · rfl
theorem KL {n:Nat}{x:Int}{w:Nat}(hw:w<=16):∀(d:Nat)(l:List Int),l.length+d=w->d<n->iterN (λ(s3:(List Int))=>if(decide ((len s3)<(w:Int)))then(app? s3 ([x]:List Int)).bind λx24=>some (.inl (x24))else some (.inr (s3))) n l=some (l++List.replicate d x)
  | 0,l,h,hn=>by
    obtain⟨n,rfl⟩:∃j,n=j+1:=⟨n-1,by omega⟩;rw[iterN];rw[Zbv (by rw[Za];simp;omega)];simp
  | d+1,l,h,hn=>by
    obtain⟨n,rfl⟩:∃j,n=j+1:=⟨n-1,by omega⟩;rw[iterN];rw[Zbq (by rw[Za];simp;omega),TG (by simp;omega)];simp only[Zbn];rw[KL hw d (l++[x]) (by simp;omega) (by omega)];rw[ZbI,Zcp,<-Zdh]
section
variable{n:Nat}[FU n]{s:BS}
def ifin (n:Nat)(p1:D.Term)(ls:List (List Int))(m:D.builder):Option ((List Int)×D.builder):=
   (get? ls 0).bind λx8=>
   if(p1.Op==1)then
    (YA n x8).bind λx9=>
    some (x9,(D.builder.mk (D.Circuit.mk m.c.Inputs m.c.Gates) m.line m.full))
   else
    if(p1.Op==2)then
     (Y1 n p1.W 0).bind λx10=>
     (ZK n (D.builder.mk (D.Circuit.mk m.c.Inputs m.c.Gates) m.line m.full) 4 x10 x8).bind λx11=>
     some (x11.1,x11.2)
    else
     if (p1.Op==17)then
      (mk? p1.W (0:Int)).bind λx12=>
      (iterN (λ(s2:Int×(List Int)×Int×Bool×(List D.Gate)×(List (D.Gate×Int)))=>if(decide (s2.1<(len x12)))then(get? x8 0).bind λx13=>(get? ls 1).bind λx14=>(get? x14 s2.1).bind λx15=>(get? ls 2).bind λx16=>(get? x16 s2.1).bind λx17=>(Zd (D.builder.mk (D.Circuit.mk s2.2.2.1 s2.2.2.2.2.1) s2.2.2.2.2.2 s2.2.2.2.1) x13 x15 x17).bind λx18=>(set? s2.2.1 s2.1 x18.1).bind λx19=>some (.inl ((w64 (s2.1+1)),x19,x18.2.c.Inputs,x18.2.full,x18.2.c.Gates,x18.2.line))else some (.inr (s2.2.1,s2.2.2.1,s2.2.2.2.1,s2.2.2.2.2.1,s2.2.2.2.2.2))) n (0,x12,m.c.Inputs,m.full,m.c.Gates,m.line)).bind λ(rl2:(List Int)×Int×Bool×(List D.Gate)×(List (D.Gate×Int)))=>
      some (rl2.1,(D.builder.mk (D.Circuit.mk rl2.2.1 rl2.2.2.2.1) rl2.2.2.2.2 rl2.2.2.1))
     else
      if(p1.Op==18)then
       (get? ls 1).bind λx20=>
       (app? x20 x8).bind λx21=>
       some (x21,(D.builder.mk (D.Circuit.mk m.c.Inputs m.c.Gates) m.line m.full))
      else
       if(p1.Op==19)then
        (cut? x8 p1.N (w64 (p1.N+p1.W))).bind λx22=>
        some (x22,(D.builder.mk (D.Circuit.mk m.c.Inputs m.c.Gates) m.line m.full))
       else
        if ((p1.Op==20)||(p1.Op==21))then
         if (p1.Op==21)then
          (get? x8 (w64 ((len x8)-1))).bind λx23=>
          (iterN (λ(s3:(List Int))=>if(decide ((len s3)<p1.W))then(app? s3 ([x23]:List Int)).bind λx24=>some (.inl (x24))else some (.inr (s3))) n (x8)).bind λ(rl3:(List Int))=>
          some (rl3,(D.builder.mk (D.Circuit.mk m.c.Inputs m.c.Gates) m.line m.full))
         else
          (iterN (λ(s4:(List Int))=>if(decide ((len s4)<p1.W))then(app? s4 ([(-1)]:List Int)).bind λx25=>some (.inl (x25))else some (.inr (s4))) n (x8)).bind λ(rl4:(List Int))=>
          some (rl4,(D.builder.mk (D.Circuit.mk m.c.Inputs m.c.Gates) m.line m.full))
        else
         (get? ls 1).bind λx26=>
         (ZK n (D.builder.mk (D.Circuit.mk m.c.Inputs m.c.Gates) m.line m.full) p1.Op x8 x26).bind λx27=>
         some (x27.1,x27.2)
def DI{t:D.Term}{ls:List (List Int)}{m:D.builder}(hb:nodeB t=true)(hwd:wide1 t=false)(hs:CircP s.1)(hm:RelB m s)(h0:t.Op≠0)(h22:t.Op≠22)(hk:KK s t.Kids ls):∃m',ifin n t ls m=some ((fin t.Op t.W.toNat t.N.toNat ls s).1,m')/\RelB m' (fin t.Op t.W.toNat t.N.toNat ls s).2:=by
  obtain⟨op,w,mm,nm,ks⟩:=t;obtain⟨hw,hsh⟩:=Y6 hb;simp only at h0 h22 hk⊢;have eW:((w.toNat:Nat):Int)=w:=by omega
  unfold ifin;simp only;rcases hsh with⟨rfl,-⟩|⟨rfl,-⟩|⟨ho,-,-,a,rfl,ha,haw⟩|⟨h3,h16,-,-,a,b,rfl,ha,hb',hab,h13,h14⟩|⟨rfl,-,-,a,b,c,rfl,ha,hb',hc,ha1,hbw,hcw⟩|⟨rfl,-,-,a,b,rfl,ha,hb',habw⟩|⟨rfl,-,hm0,hm1,a,rfl,ha,haw⟩|⟨ho,-,-,a,rfl,ha,haw⟩
  · exact absurd rfl h0
  · exact absurd rfl h22
  · obtain⟨la,r1,k1,hn1,rfl⟩:=KK1 hk
    obtain rfl:=KK0 hn1;have hl:la.length=w.toNat:=by rw[k1.1,haw]
    rw[g0];simp only[Zbn];unfold fin;simp only[Zb9];rcases ho with rfl|rfl
    · rw[Zbq (by rfl),Zbq (by trivial),Cc.impl_opp hs.lines1 (by omega) k1.2]
      exact⟨m,rfl,hm⟩
    · have hne:¬w.toNat=16:=λe=>by
        have:a.W=16:=by omega
        simp[wide1,this]at hwd
      rw[ifn,Zbq (by rfl),ifn,Zbq (by trivial),<-eW,OC (by omega),Ox];simp only[Zbn,ZbE];rw[Zbv hne];obtain⟨m',e,r⟩:=Cc.impl_op (fuel:=n) hs (op:=4) (a:=List.replicate w.toNat (-1)) (b:=la) (by omega) (by simp[hl]) (by simp;omega) (by simp;omega) (TP hs) k1.2 hm;have e':ZK n (D.builder.mk (D.Circuit.mk m.c.Inputs m.c.Gates) m.line m.full) 4 (List.replicate w.toNat (-1)) la=_:=e;rw[e'];exact⟨m',rfl,r⟩
  · obtain⟨la,r1,k1,hn1,rfl⟩:=KK1 hk
    obtain⟨lb,r2,k2,hn2,rfl⟩:=KK1 hn1;obtain rfl:=KK0 hn2;have hA:=ZY ha;have hla:=k1.1;have hne:¬la.length=16:=λe=>by
      have:a.W=16:=by omega
      simp[wide1,this]at hwd;omega
    unfold fin;simp only[Zb9,ZbQ,g0,g1,Zbn];have bb:∀k:Int,k<=2\/17<=k->(op==k)=false:=λk hk=>by simp;omega
    have cc:∀k:Int,k<=2\/17<=k->¬op=k:=λk hk=>by omega
    simp only[bb 1 (by omega),bb 2 (by omega),bb 17 (by omega),bb 18 (by omega),bb 19 (by omega),bb 20 (by omega),bb 21 (by omega),cc 1 (by omega),cc 2 (by omega),cc 17 (by omega),cc 18 (by omega),cc 19 (by omega),cc 20 (by omega),cc 21 (by omega),Zbp,Zbx,ZcL];rw[Zbv hne];obtain⟨m',e,r⟩:=Cc.impl_op (fuel:=n) hs (op:=op) (a:=la) (b:=lb) ⟨h3,h16⟩ (by rw[k1.1,k2.1,hab]) (by omega) (by omega) k1.2 k2.2 hm;have e':ZK n (D.builder.mk (D.Circuit.mk m.c.Inputs m.c.Gates) m.line m.full) op la lb=_:=e;rw[e'];exact⟨m',rfl,r⟩
  · obtain⟨la,r1,k1,hn1,rfl⟩:=KK1 hk
    obtain⟨lb,r2,k2,hn2,rfl⟩:=KK1 hn1;obtain⟨lc,r3,k3,hn3,rfl⟩:=KK1 hn2;obtain rfl:=KK0 hn3;unfold fin;simp only[Zb9,ZbQ,g0,g1,g2,Zbn];rw[ifn,ifn,Zbq (by rfl)];rw[ifn,ifn,Zbq (by trivial)];have hla:=k1.1;have hlb:=k2.1;have hlc:=k3.1;rw[ha1]at hla;rw[hbw]at hlb;rw[hcw]at hlc;have hl1:la.length=1:=by simpa using hla
    have hg0:get? la 0=some (la.getD 0 0):=by
      obtain⟨z,hz⟩:=ZdO.1 hl1;rw[hz];rfl
    have hc0:litN (lines s.1) (la.getD 0 0)=true:=k1.2 _ (Cc.getD_mem (by omega));have hz:(lb.zip lc).length=w.toNat:=by rw[Zc4,hlb,hlc,Zdu]
    rw[show mk? w (0:Int)=some (List.replicate w.toNat 0)from by unfold mk?;rw[Zbq ⟨by omega,by unfold room;omega⟩]];simp only[Zbn]
    obtain⟨m',e,r⟩:=Cc.impl_seq (fuel:=n) (B:=(λ(s2:Int×(List Int)×Int×Bool×(List D.Gate)×(List (D.Gate×Int)))=>if(decide (s2.1<(len (List.replicate w.toNat (0:Int)))))then(get? la 0).bind λx13=>(get? lb s2.1).bind λx15=>(get? lc s2.1).bind λx17=>(Zd (D.builder.mk (D.Circuit.mk s2.2.2.1 s2.2.2.2.2.1) s2.2.2.2.2.2 s2.2.2.2.1) x13 x15 x17).bind λx18=>(set? s2.2.1 s2.1 x18.1).bind λx19=>some (.inl ((w64 (s2.1+1)),x19,x18.2.c.Inputs,x18.2.full,x18.2.c.Gates,x18.2.line))else some (.inr (s2.2.1,s2.2.2.1,s2.2.2.2.1,s2.2.2.2.2.1,s2.2.2.2.2.2)))) hs (by omega) (Gd hs hc0 k2.2 k3.2) (L0:=List.replicate w.toNat 0) (by rw[hz,ZbV]) (λj L m1 s' x hx hc' hg hr hL _=>by
          have hj:j<w.toNat:=by have:=(Zbu.1 hx).1;omega
          have hz2:=Cc.zip_mem hx;obtain⟨m4,e4,r4⟩:=Cc.impl_if hc' (Vo hc0 hg) (Vo (k2.2 _ (Zbz hz2.1)) hg) (Vo (k3.2 _ (Zbz hz2.2)) hg) m1 hr;have e4':Zd (D.builder.mk (D.Circuit.mk m1.c.Inputs m1.c.Gates) m1.line m1.full) (la.getD 0 0) x.1 x.2=_:=e4;refine⟨m4,?_,r4⟩;simp only;rw[Zbq (by rw[Za];simp;omega),hg0];simp only[Zbn];rw[get?_nat,get?_nat,hz2.1,hz2.2];simp only[Zbn,e4'];rw[set?_nat (by omega)];simp only[Zbn];rw[Zb]
          rfl) (λL m1=>by
          simp only
          rw[Zbv (by rw[Za];simp;omega)]) hm
    rw[e];exact⟨m',rfl,r⟩
  · obtain⟨la,r1,k1,hn1,rfl⟩:=KK1 hk
    obtain⟨lb,r2,k2,hn2,rfl⟩:=KK1 hn1;obtain rfl:=KK0 hn2;have hA:=ZY ha;have hB:=ZY hb';have hla:=k1.1;have hlb:=k2.1;unfold fin;simp only[Zb9,ZbQ,g0,g1,Zbn];rw[ifn,ifn,ifn,Zbq (by rfl)];rw[ifn,ifn,ifn,Zbq (by trivial)];rw[TG (by omega)];exact⟨m,rfl,hm⟩
  · obtain⟨la,r1,k1,hn1,rfl⟩:=KK1 hk
    obtain rfl:=KK0 hn1;have hA:=ZY ha;have hla:=k1.1;unfold fin;simp only[Zb9,g0,Zbn];rw[ifn,ifn,ifn,ifn,Zbq (by rfl)];rw[ifn,ifn,ifn,ifn,Zbq (by trivial)];have:=IL (l:=la) (m:=mm.toNat) (w:=w.toNat) (by omega) (by omega);rw[show((mm.toNat:Nat):Int)=mm by omega,eW]at this;rw[this];exact⟨m,rfl,hm⟩
  · obtain⟨la,r1,k1,hn1,rfl⟩:=KK1 hk
    obtain rfl:=KK0 hn1;have hA:=ZY ha;have hla:=k1.1;have hpad:∀x:Int,_:=λx=>KL (n:=n) (x:=x) (w:=w.toNat) (by omega) (w.toNat-la.length) la (by omega) (by have:=FU.le (n:=n);omega);rw[eW]at hpad;unfold fin;simp only[Zb9,g0,Zbn];rcases ho with rfl|rfl
    · rw[ifn,ifn,ifn,ifn,ifn,Zbq (by rfl),ifn]
      rw[ifn,ifn,ifn,ifn,ifn,Zbq (by trivial)];rw[hpad];exact⟨m,rfl,hm⟩
    · rw[ifn,ifn,ifn,ifn,ifn,Zbq (by rfl),Zbq (by rfl)]
      rw[ifn,ifn,ifn,ifn,ifn,ifn,Zbq (by trivial)];rw[Dh (by omega) (by omega)];simp only[Zbn];rw[hpad];exact⟨m,rfl,hm⟩
end
def MapOk(vs:List D.Value)(mp:List (Str×List Int)):Prop:=∀v∈vs,v.Name.bytes.length<=1000/\(mp.lookup v.Name).getD []=varL vs v.Name v.W.toNat
section
variable{vs:List D.Value}(hp:vs.Pairwise λx y=>x.Name≠y.Name){mp:List (Str×List Int)}(hmp:MapOk vs mp)
include hp hmp
theorem Dx:∀(n:Nat)(t:D.Term)(s:BS)(m:D.builder),1048600+cnt t<=n->nodeB t=true->wideB t=false->TV vs t->CircP s.1->VF vs s.1->RelB m s->∃m',ZX n m t (some mp)=some ((nP vs t s).1,m')/\RelB m' (nP vs t s).2:=by
  intro n
  induction n with
  |zero=>intro t s m h;omega
  | succ n ih=>
    intro t s m hn hb hwd ht hs hv hm
    haveI:FU n:=⟨by omega⟩
    have hw:=ZY hb;have hcn:=X8 t;have eW:((t.W.toNat:Nat):Int)=t.W:=by omega
    rw[Sb,Zd5]at hwd;rw[ZX,Kg];by_cases h0:t.Op=0
    · rw[Zbq (by simpa using h0),Zbq h0,<-eW,OC (by omega)]
      simp only[Zbn,ZbE];exact⟨m,rfl,hm⟩
    rw[Zbv (by simpa using h0),Zbv h0];by_cases h22:t.Op=22
    · rw[Zbq (by simpa using h22),Zbq h22]
      obtain⟨v,hv1,hv2,hv3⟩:=ht (t.Name,t.W) (by rw[Vs,Zbq h22];simp);simp only at hv2 hv3;obtain⟨q1,q2⟩:=hmp v hv1;rw[hv2]at q1 q2;rw[hv3]at q2;have e:mgeto? fitS ([]:List Int) (some mp) t.Name=some (varL vs t.Name t.W.toNat):=by
        unfold mgeto? mget?;rw[Zbq (by unfold fitS;simp;omega)];exact congrArg some q2
      rw[e];simp only[Zbn];rw[show Ze (varL vs t.Name t.W.toNat)=some (varL vs t.Name t.W.toNat)from by unfold Ze;rw[TG (by rw[Ni];simp;omega)];rfl];exact⟨m,rfl,hm⟩
    rw[Zbv (by simpa using h22),Zbv h22];have hkg:∀x∈t.Kids,∀s:BS,CircP s.1->VF vs s.1->GoodL s x.W.toNat (nP vs x s):=λx hx s' hs' hv'=>UC hp _ x s' (Zb0 _) (nodeK hb x hx) (Tu ht h22 hx) hs' hv';obtain⟨q1,q2,q3⟩:=Um t.Kids s hkg hs hv;have hkl:t.Kids.length<=3:=by
      obtain⟨op,w,m,nm,ks⟩:=t;obtain⟨-,hsh⟩:=Y6 hb;rcases hsh with⟨-,rfl,-⟩|⟨-,rfl,-⟩|⟨-,-,-,a,rfl,-⟩|⟨-,-,-,-,a,b,rfl,-⟩|⟨-,-,-,a,b,c,rfl,-⟩|⟨-,-,-,a,b,rfl,-⟩|⟨-,-,-,-,a,rfl,-⟩|⟨-,-,-,a,rfl,-⟩<;>simp
    rw[show mk? (len t.Kids) (([]:List Int):List Int)=some (List.replicate t.Kids.length [])from by rw[Za];unfold mk?;rw[Zbq ⟨by omega,by unfold room;omega⟩];simp];simp only[Zbn];obtain⟨r,g1,m',rfl,g2⟩:=Yn (l:=t.Kids) (n:=n) (Z:=List (List Int)×D.builder) (ρ:=Int×Bool×(List D.Gate)×(List (D.Gate×Int))×(List (List Int))) (B:=λ(s1:Int×Int×Bool×(List D.Gate)×(List (D.Gate×Int))×(List (List Int)))=>if(decide (s1.1<(len t.Kids)))then(get? t.Kids s1.1).bind λx5=>(ZX n (D.builder.mk (D.Circuit.mk s1.2.1 s1.2.2.2.1) s1.2.2.2.2.1 s1.2.2.1) x5 (some mp)).bind λx6=>(set? s1.2.2.2.2.2 s1.1 x6.1).bind λx7=>some (.inl ((w64 (s1.1+1)),x6.2.c.Inputs,x6.2.full,x6.2.c.Gates,x6.2.line,x7))else some (.inr (s1.2.1,s1.2.2.1,s1.2.2.2.1,s1.2.2.2.2.1,s1.2.2.2.2.2))) (λk a=>((k:Int),a.2.c.Inputs,a.2.full,a.2.c.Gates,a.2.line,a.1))
      (λys a=>∃(pre:List (List Int))(s':BS),a.1=pre++List.replicate ys.length []/\pre++(nPs vs ys s').1=(nPs vs t.Kids s).1/\(nPs vs ys s').2=(nPs vs t.Kids s).2/\RelB a.2 s'/\CircP s'.1/\VF vs s'.1/\pre.length+ys.length=t.Kids.length/\∀y∈ys,y∈t.Kids)
      (λr=>∃m':D.builder,r=(m'.c.Inputs,m'.full,m'.c.Gates,m'.line,(nPs vs t.Kids s).1)/\RelB m' (nPs vs t.Kids s).2)
      (λk x xs a hk hx hlen'⟨pre,s',h0,h1,h2,hr,h3,h4,h5,h6⟩=>by
        have hd:decide ((k:Int)<len t.Kids)=true:=by rw[Za];simp;omega
        have hxk:=h6 x (by simp);have hc:=XT hxk;obtain⟨m1,e,r1⟩:=ih x s' a.2 (by omega) (nodeK hb x hxk) (Oi hwd.2 hxk) (Tu ht h22 hxk) h3 h4 hr;have e':ZX n (D.builder.mk (D.Circuit.mk a.2.c.Inputs a.2.c.Gates) a.2.line a.2.full) x (some mp)=_:=e;have g:=hkg x hxk s' h3 h4;simp only[Zb6]at h5 hlen';have hpk:pre.length=k:=by omega
        have hset:set? a.1 (k:Int) (nP vs x s').1=some ((pre++[(nP vs x s').1])++List.replicate xs.length []):=by
          rw[h0,set?_nat (by simp;omega),ZcD _ _ (by omega),hpk,ZcG,Zb6,Zdh,ZcX,ZbI,Zcp]
        simp only[hd,Zb5,get?_nat,hx,Zbn,e',hset];rw[Zb];rw[TU]at h1 h2
        exact .inl ⟨((pre++[(nP vs x s').1])++List.replicate xs.length [],m1),rfl,pre++[(nP vs x s').1],(nP vs x s').2,rfl,by rw[<-h1];simp,h2,r1,g.circ,h4.mono g.grow,by simp;omega,λy hy=>h6 y (by simp[hy])⟩)
      (λa⟨pre,s',h0,h1,h2,hr,h3,h4,h5,h6⟩=>by
        have hd:decide ((t.Kids.length:Int)<len t.Kids)=false:=by rw[Za];simp
        simp only[hd,Zbp,Zbx];rw[PX]at h1 h2;simp only[Zcg,Zcf,List.replicate_zero]at h1 h0
        exact⟨_,rfl,a.2,by rw[h0,h1],by rw[<-h2];exact hr⟩) (a:=(List.replicate t.Kids.length [],m)) ⟨[],s,by simp,by simp,rfl,hm,hs,hv,by simp,λ_ h=>h⟩ (by omega)
    rw[show((0:Nat):Int)=0 from rfl]at g1;rw[show((List.replicate t.Kids.length ([]:List Int),m).2)=m from rfl,show((List.replicate t.Kids.length ([]:List Int),m).1)=List.replicate t.Kids.length []from rfl]at g1;rw[g1];simp only[Zbn];exact DI hb hwd.1 q1 g2 h0 h22 q3
end
open Cc (BS LS CircP Grow GoodL Good litN lines negs seqP ifP opP net RelB FOk FU andP orP xorP addP accP mulK divK shP shK)
def UG{s:BS}{a b:Int}(h:s.2=true):(andP s a b).2.2=true:=by
 unfold andP;split
 ·exact h
 split
 ·exact h
 split
 ·exact h
 split
 ·exact h
 split
 ·rfl
 ·exact h
def KW{s:BS}{a b:Int}(h:s.2=true):(orP s a b).2.2=true:=UG h
def LH{s:BS}{a b:Int}(h:s.2=true):(xorP s a b).2.2=true:=KW (UG (UG h))
def Gn{s:BS}{c a b:Int}(h:s.2=true):(ifP s c a b).2.2=true:=KW (UG (UG h))
theorem Bj{U:Type}{f:BS->U->Int×BS}(hf:∀s x,s.2=true->(f s x).2.2=true):∀{l:List U}{t:LS},t.2.2=true->(l.foldl (λt x=>(t.1++[(f t.2 x).1],(f t.2 x).2)) t).2.2=true
 |[],t,h=>h
 |x::l,t,h=>Bj hf (l:=l) (t:=(t.1++[(f t.2 x).1],(f t.2 x).2)) (hf _ _ h)
def UA{U:Type}{f:BS->U->Int×BS}(hf:∀s x,s.2=true->(f s x).2.2=true){l:List U}{s:BS}(h:s.2=true):(seqP f s l).2.2=true:=Bj hf (t:=([],s)) h
theorem Hu{U:Type}{f:BS->Int->U->Int×BS}(hf:∀s c x,s.2=true->(f s c x).2.2=true):∀{l:List U}{s:BS}{c:Int},s.2=true->(accP f s c l).2.2=true:=by
 have:∀{l:List U}{t:Int×BS},t.2.2=true->(l.foldl (λt x=>f t.2 t.1 x) t).2.2=true:=λ{l}=>by
  induction l with
  |nil=>intro t h;exact h
  |cons x l ih=>intro t h;exact ih (hf _ _ _ h)
 exact λ{l s c}h=>this (t:=(c,s)) h
theorem QO{s:BS}{a b:List Int}{c:Int}(h:s.2=true):(addP s a b c).2.2.2=true:=by
 have:∀{l:List (Int×Int)}{t:Cc.AS},t.2.2.2=true->(l.foldl Cc.addStep t).2.2.2=true:=λ{l}=>by
  induction l with
  |nil=>intro t h;exact h
  |cons x l ih=>intro t h;exact ih (KW (UG (UG (LH (LH h)))))
 exact this (t:=([],c,s)) h
theorem Dg{s:BS}{a b:List Int}(h:s.2=true):∀k,(mulK s a b k).2.2=true
 |0=>h
 |k+1=>by rw[Cc.mulK_succ];exact QO (UA (λs x h=>UG h) (Dg h k))
theorem JE{s:BS}{a b:List Int}(h:s.2=true):∀k,(divK s a b k).2.2.2=true
 |0=>h
 |k+1=>by rw[Cc.divK_succ];exact UA (λs x h=>Gn h) (QO (JE h k))
theorem Cv{s:BS}{a b:List Int}{L:Bool}{fill:Int}(h:s.2=true):∀k,(shK s a b L fill k).2.2=true
 |0=>h
 |k+1=>by rw[Cc.shK_succ];exact UA (λs x h=>Gn h) (Cv h k)
def CY{s:BS}{a b:List Int}{L:Bool}{fill:Int}(h:s.2=true):(shP s a b L fill).2.2=true:=UA (λs x h=>Gn h) (Hu (λs c x h=>KW h) (Cv h _))
def XC{c:Prop}[Decidable c]{x y:LS}(h1:x.2.2=true)(h2:y.2.2=true):(if c then x else y).2.2=true:=by split<;>assumption
def ZaX{s:BS}{op:Int}{a b:List Int}(h:s.2=true):(opP s op a b).2.2=true:=by
 unfold opP;exact XC (QO h) (XC (QO h) (XC (Dg h _) (XC (JE h _) (XC (JE h _) (XC (UA (λs x h=>UG h) h) (XC (UA (λs x h=>KW h) h) (XC (UA (λs x h=>LH h) h) (XC (CY h) (XC (CY h) (XC (CY h) (XC (Hu (λs c x h=>UG (LH h)) h) (XC (QO h) (QO h)))))))))))))
def Ck{op:Int}{w m:Nat}{ls:List (List Int)}{s:BS}(h:s.2=true):(fin op w m ls s).2.2=true:=by
 unfold fin
 repeat' split
 all_goals first|exact h|rfl|exact ZaX h|exact UA (λs x h=>Gn h) h
mutual
theorem Zbh(vs:List D.Value):∀(t:D.Term)(s:BS),s.2=true->(nP vs t s).2.2=true
 |⟨op,w,m,nm,ks⟩,s,h=>by
  rw[nP];split
  ·exact h
  split
  ·exact h
  ·exact Ck (JX vs ks s h)
theorem JX(vs:List D.Value):∀(l:List D.Term)(s:BS),s.2=true->(nPs vs l s).2.2=true
 |[],s,h=>by rw[nPs];exact h
 |t::l,s,h=>by rw[nPs];exact JX vs l _ (Zbh vs t s h)
end
theorem FQ{vs:List D.Value}(hp:vs.Pairwise λx y=>x.Name≠y.Name):∀(n:Nat)(t:D.Term)(s:BS),cnt t<=n->nodeB t=true->wideB t=true->TV vs t->CircP s.1->VF vs s.1->(nP vs t s).2.2=true:=by
 intro n
 induction n with
 |zero=>intro t s h;have:=X8 t;omega
 | succ n ih=>
  intro t s hc hb hwd ht hs hv;have hcn:=X8 t;rw[Kg];by_cases h0:t.Op=0
  ·exfalso;obtain⟨op,w,m,nm,ks⟩:=t;obtain⟨-,hsh⟩:=Y6 hb;simp only at h0;subst h0;rcases hsh with⟨-,rfl,-⟩|⟨h,-⟩|⟨h,-⟩|⟨h,-⟩|⟨h,-⟩|⟨h,-⟩|⟨h,-⟩|⟨h,-⟩
   ·rw[Sb]at hwd;simp[wide1,Tz]at hwd
   all_goals omega
  rw[Zbv h0];by_cases h22:t.Op=22
  ·exfalso;obtain⟨op,w,m,nm,ks⟩:=t;obtain⟨-,hsh⟩:=Y6 hb;simp only at h22;subst h22;rcases hsh with⟨h,-⟩|⟨-,rfl,-⟩|⟨h,-⟩|⟨-,h,-⟩|⟨h,-⟩|⟨h,-⟩|⟨h,-⟩|⟨h,-⟩
   ·omega
   ·rw[Sb]at hwd;simp[wide1,Tz]at hwd
   all_goals omega
  rw[Zbv h22];have hkg:∀x∈t.Kids,∀s:BS,CircP s.1->VF vs s.1->GoodL s x.W.toNat (nP vs x s):=λx hx s' hs' hv'=>UC hp _ x s' (Zb0 _) (nodeK hb x hx) (Tu ht h22 hx) hs' hv';obtain⟨q1,q2,q3⟩:=Um t.Kids s hkg hs hv;rw[Sb,Zcr]at hwd;rcases hwd with hwd|hwd
  ·
   obtain⟨op,w,m,nm,ks⟩:=t;obtain⟨hw,hsh⟩:=Y6 hb;unfold wide1 at hwd;simp only[Zbt,Zcr,ZcF,Zb8]at hwd;obtain⟨ho,hk⟩:=hwd;simp only at h0 h22 q1 q2 q3⊢;rcases hsh with⟨rfl,-⟩|⟨rfl,-⟩|⟨ho',-,-,a,rfl,ha,haw⟩|⟨h3,h16,-,-,a,b,rfl,ha,hb',hab,h13,h14⟩|⟨rfl,-⟩|⟨rfl,-⟩|⟨rfl,-⟩|⟨ho',-⟩
   ·omega
   ·omega
   ·have h2:op=2:=by omega
    subst h2;simp only[ZcF]at hk;unfold fin;rw[ifn,Zbq rfl,ifp]
   ·simp only[ZcF]at hk;obtain⟨la,r1,k1,hn1,e⟩:=KK1 q3;have hl:((nPs vs [a,b] s).1.getD 0 []).length=16:=by rw[e,Zb9,k1.1,hk];rfl
    unfold fin;rw[ifn,ifn,ifn,ifn,ifn,ifn,ifn,Zbq hl]
   all_goals omega
  ·refine Ck ?_;have:∀(l:List D.Term)(s:BS),(∀x∈l,x∈t.Kids)->wideBs l=true->CircP s.1->VF vs s.1->(nPs vs l s).2.2=true:=λl=>by
    induction l with
    |nil=>intro s _ h;rw[Tz]at h;cases h
    |cons x l ihl=>
     intro s hm h hs' hv';rw[TS,Zcr]at h;rw[TU];have hx:=hm x (by simp);have g:=hkg x hx s hs' hv';rcases h with h|h
     ·exact JX vs l _ (ih x s (by have:=XT hx;omega) (nodeK hb x hx) h (Tu ht h22 hx) hs' hv')
     ·exact ihl _ (λy hy=>hm y (by simp[hy])) h g.circ (hv'.mono g.grow)
   exact this t.Kids s (λ_ h=>h) hwd hs hv
def Ot{t:D.Term}(h:nodeB t=true)(ho:t.Op=22):t.Name.bytes.length<=8/\t.Kids=[]:=by
 rw[Ul,Zbt]at h;have h:=h.1;unfold locB shB at h;simp only[ho,Zbt]at h;have h:=h.2;simp[nameB]at h;exact⟨by omega,by simpa using h.1⟩
theorem collect:∀(n:Nat)(t:D.Term)(g:List (Str×Int)),nodeB t=true->msz t<=1048576->g.length+(vrs t).length<=1000->1048580+cnt t<=n->Yu n t (some g)=some (some ((vrs t).reverse++g)):=by
 intro n
 induction n with
 |zero=>intro t g _ _ _ _;omega
 | succ n ih=>
  intro t g hb hs hg hn;have hz:=UH t;have hcn:=X8 t;rw[Yu];by_cases o1:t.Op=22
  ·obtain⟨h1,h2⟩:=Ot hb o1;have hv:vrs t=[(t.Name,t.W)]:=by rw[Vs,Zbq o1]
   have c1:(t.Op==22)=true:=by simpa using o1
   have hw:=ZY hb;rw[hv]at hg;simp only[c1,Zb5,Zbn,put1 (g:=g) (s:=t.Name) (by omega) hw (by simp at hg;omega)];obtain⟨m,rfl⟩:∃m,n=m+1:=⟨n-1,by omega⟩;rw[h2,hv];rfl
  ·have c1:(t.Op==22)=false:=by simpa using o1
   have hv:vrs t=vrss t.Kids:=by rw[Vs,Zbv o1]
   simp only[c1,Zbp,Zbx];rw[Ul,Zbt,YL,ZbC]at hb;rw[hv]at hg⊢;obtain⟨r,g1,g2⟩:=Yn (l:=t.Kids) (n:=n) (Z:=Option (List (Str×Int))) (ρ:=Option (List (Str×Int))) (B:=λ(s2:Int×(Option (List (Str×Int))))=>if(decide (s2.1<(len t.Kids)))then(get? t.Kids s2.1).bind λx5=>(Yu n x5 s2.2).bind λx6=>some (.inl ((w64 (s2.1+1)),x6))else some (.inr (s2.2))) (λk a=>((k:Int),a)) (λys a=>∃ga,a=some ga/\(vrss ys).reverse++ga=(vrss t.Kids).reverse++g/\ga.length+(vrss ys).length<=1000/\∀x∈ys,x∈t.Kids)
     (λr=>r=some ((vrss t.Kids).reverse++g))
     (λk x xs a hk' hx hlen⟨ga,i0,i1,i2,i3⟩=>by
      have hxk:=i3 x (by simp);have:=Ti hxk;have:=XT hxk;have hd:decide ((k:Int)<len t.Kids)=true:=by rw[Za];simp;omega
      rw[WE,Zbw]at i2;rw[WE,Zed]at i1;subst i0;simp only[hd,Zb5,get?_nat,hx,Zbn];rw[ih x ga (hb.2 x hxk) (by omega) (by omega) (by omega)]
      refine .inl ⟨some ((vrs x).reverse++ga),by simp only[Zbn];rw[Zb];rfl,_,rfl,by rw[<-i1,ZbI],by simp;omega,λy hy=>i3 y (by simp[hy])⟩)
     (λa⟨ga,i0,i1,i2,i3⟩=>by
      have hd:decide ((t.Kids.length:Int)<len t.Kids)=false:=by rw[Za];simp
      simp only[hd,Zbp,Zbx];rw[UJ]at i1
      exact⟨_,rfl,by rw[i0,<-i1];rfl⟩) (a:=some g) ⟨g,rfl,rfl,hg,λx hx=>hx⟩ (by omega)
   rw[show((0:Nat):Int)=0 from rfl]at g1;rw[g1,g2];rfl
theorem Mm:∀{l g g':List (Str×Int)},runV g l=some g'->(∀p:Str×Int,g.lookup p.1=some p.2->g'.lookup p.1=some p.2)/\∀p∈l,g'.lookup p.1=some p.2
 |[],g,g',h=>by simp only[runV,Option.some.injEq]at h;subst h;exact⟨λp hp=>hp,λp hp=>by cases hp⟩
 | v::l,g,g',h=>by
  simp only[runV,ZbG]at h;obtain⟨g1,h1,h2⟩:=h;obtain⟨i1,i2⟩:=Mm h2;have hv:g1.lookup v.1=some v.2:=by
   unfold stp at h1;split at h1
   ·rename_i w hw;split at h1
    ·rename_i e;cases h1;rw[hw,e]
    ·cases h1
   ·cases h1;rw[Zcc];simp
  have hk:∀p:Str×Int,g.lookup p.1=some p.2->g1.lookup p.1=some p.2:=λp hp=>by
   unfold stp at h1;split at h1
   ·split at h1
    ·cases h1;exact hp
    ·cases h1
   ·rename_i hn;cases h1;have:p.1≠v.1:=λe=>by rw[e,hn]at hp;cases hp
    rw[Zcc];have:(p.1==v.1)=false:=by simpa using this
    rw[this];exact hp
  refine⟨λp hp=>i1 p (hk p hp),λp hp=>?_⟩;rcases ZbN.1 hp with rfl|hp
  ·exact i1 p hv
  ·exact i2 p hp
theorem OL{κ β:Type}[BEq κ][LawfulBEq κ]{x:κ}{y:β}:∀{m:List (κ×β)},m.lookup x=some y->(x,y)∈m
 |[],h=>by cases h
 | (u,z)::m,h=>by
  rw[Zcc]at h;by_cases e:x==u
  ·rw[e]at h;simp only[Option.some.injEq]at h;rw[eq_of_beq e,h];exact Zcd
  ·simp only[e]at h;exact Zca _ (OL h)
theorem NU{κ β:Type}[BEq κ][LawfulBEq κ]{x:κ}{y:β}:∀{m:List (κ×β)},(x,y)∈m->∃z,m.lookup x=some z
 | (u,z)::m,h=>by
  rw[Zcc];by_cases e:x==u
  ·rw[e];exact⟨z,rfl⟩
  ·simp only[e];rcases ZbN.1 h with h|h
   ·simp only[Prod.mk.injEq]at h;rw[h.1]at e;simp at e
   ·exact NU h
def ND{t:D.Term}(h:termB t=true)(hs:msz t<=1048576):WW fuel t=some (vtab (vrs t).reverse):=by
 unfold WW;rw[UN hs,h];unfold termB at h;simp only[Zbt,Zb8]at h;have hv:=OO t;simp only[Zbn,Zb4,Zbp,Zbx];rw[collect fuel t [] h.1.2 hs (by simp;omega) (by unfold fuel;omega)];simp only[Zbn,Zcg];rw[Zbq (by simp;omega)]
open Cc (vB Yz opB bi)
theorem X4{a:Int}(h0:-9223372036854775808<=a:=by omega)(h1:a<=9223372036854775807:=by omega):w64 a=a:=Zb
theorem CX{x:Nat}(h:x<65536):(BitVec.ofInt 64 (x:Int)).toNat=x:=by
 grind
theorem ZaF{x y:Nat}(h:x<65536):x&&& y<65536:=Nat.lt_of_le_of_lt Nat.and_le_left h
theorem Ki{x y:Nat}(hx:x<65536)(hy:y<65536):band (x:Int) (y:Int)=((x&&& y:Nat):Int):=by
 grind[band,BitVec.toNat_and,CX,ZaF,X4]
theorem Bv{x y:Nat}(hx:x<65536)(hy:y<65536):bor (x:Int) (y:Int)=((x|||y:Nat):Int):=by
 unfold bor;have:x|||y<2^16:=Nat.or_lt_two_pow (by omega) (by omega)
 grind[X4]
theorem Dm{x y:Nat}(hx:x<65536)(hy:y<65536):bxor (x:Int) (y:Int)=((x^^^y:Nat):Int):=by
 unfold bxor;have:x^^^y<2^16:=Nat.xor_lt_two_pow (by omega) (by omega);grind[X4]
def p16{w:Nat}(hw:w<=16):(2:Nat)^w<=65536/\0<(2:Nat)^w:=⟨Zck (by omega) hw,Zc5 w⟩
def MH(x:Int){w:Nat}(hw:w<=16):band x (2^w-1)=x%2^w:=by
 unfold band;obtain⟨p1,p2⟩:=p16 hw;have e:((2:Int)^w-1)=((2^w-1:Nat):Int):=by grind
 rw[BitVec.toNat_and,e,CX (by omega),Nat.and_two_pow_sub_one_eq_mod,BitVec.toNat_ofInt];have hm:((x%((2^64:Nat):Int)).toNat%2^w:Nat)=(x%(2^w:Nat)).toNat:=by
  have hd:((2^w:Nat):Int)∣((2^64:Nat):Int):=Int.natCast_dvd_natCast.2 (Nat.pow_dvd_pow 2 (by omega));grind[Int.emod_emod_of_dvd,Int.natCast_emod,Int.toNat_of_nonneg]
 have h3:0<=x%((2^w:Nat):Int):=Int.emod_nonneg _ (by omega);have h4:x%((2^w:Nat):Int)<((2^w:Nat):Int):=Int.emod_lt_of_pos _ (by omega);grind[Int.toNat_of_nonneg,X4]
theorem WA{w:Nat}(h1:1<=w)(h2:w<=16)(x:Int):Yq (w:Int) x=some (x%2^w):=by
 obtain⟨a1,_,a3,_,_⟩:=SN (w:=(w:Int)) (by omega) (by omega);unfold Yq Zf;have e:(decide ((w:Int)>=1)&&decide ((w:Int)<=16))=true:=by simp;omega
 simp_all[Zbn,Zb4,Zbp,Zbx,ZbE,MH]
def UF{l:List Bool}{w:Nat}(h:l.length=w)(h1:1<=w)(h2:w<=16):ZV (w:Int) (vB l:Int)=some true:=by
 grind[QV,KX,Yz,Int.toNat_natCast]
theorem VS:∀(l:List Bool)(i:Nat),(vB l).testBit i=l.getD i false
 |[],i=>by simp[vB]
 |b::l,0=>by
  grind[vB,bi]
 |b::l,i+1=>by
  have e:(bi b+2*vB l)/2=vB l:=by grind[Cc.bi_le]
  rw[vB,Nat.testBit_succ,e,VS l i];simp
def Lm{a b:List Bool}(h:a.length=b.length){f:Bool->Bool->Bool}(hf:f false false=false)(i:Nat):((a.zip b).map λp=>f p.1 p.2).getD i false=f (a.getD i false) (b.getD i false):=by
 grind
theorem AB{a b:List Bool}(h:a.length=b.length):vB ((a.zip b).map λp=>p.1&&p.2)=vB a&&& vB b:=Zd6 λi=>by
 rw[Nat.testBit_and,VS,VS,VS,Lm (f:=λp q=>p&&q) h rfl]
theorem Zax{a b:List Bool}(h:a.length=b.length):vB ((a.zip b).map λp=>p.1||p.2)=vB a|||vB b:=Zd6 λi=>by
 rw[Nat.testBit_or,VS,VS,VS,Lm (f:=λp q=>p||q) h rfl]
theorem BQ{a b:List Bool}(h:a.length=b.length):vB ((a.zip b).map λp=>xor p.1 p.2)=vB a^^^vB b:=Zd6 λi=>by
 rw[Nat.testBit_xor,VS,VS,VS,Lm (f:=λp q=>xor p q) h rfl]
theorem GG:∀{a b:List Bool}(c:Bool),a.length=b.length->(a.zip b).foldl (λc p=>c&& !(xor p.1 p.2)) c=(c&&decide (a=b))
 |[],[],c,_=>by simp
 |x::a,y::b,c,h=>by
  rw[ZdG,Zcx,GG _ (by simpa using h)];grind
def Iw(b:Bool):vB [b]=bi b:=by simp[vB]
def RZ{a b:List Bool}(h:a.length=b.length):Cc.lessB' a b=[decide (vB a<vB b)]:=by
 unfold Cc.lessB';obtain⟨g1,g2⟩:=Cc.addB_val (a:=a) (b:=b.map λx=>!x) (by simp_all) true;have hn:=Cc.vB_not b;have hl:=Yz (Cc.addB a (b.map λx=>!x) true).1;congr 1;cases hc:(Cc.addB a (b.map λx=>!x) true).2
 ·simp only[bi,Zbp,Zbx,Zb5,Zel]at g2;grind
 ·simp only[bi,Zbp,Zbx,Zb5,ZdA]at g2;grind
def Qj{l:List Bool}(h1:1<=l.length):(Cc.flipB l).length=l.length/\vB (Cc.flipB l)+(if l.getD (l.length-1) false then 2^(l.length-1)else 0)=vB l+(if l.getD (l.length-1) false then 0 else 2^(l.length-1)):=by
 unfold Cc.flipB;obtain⟨m,b,rfl⟩:∃m b,l=m++[b]:=⟨l.dropLast,l.getLast (by grind),(ZdY _).symm⟩;grind[List.getElem?_append_right,Cc.vB_snoc,bi]
def PU{l:List Bool}(h1:1<=l.length):l.getD (l.length-1) false=decide (2^(l.length-1)<=vB l):=by
 obtain⟨m,b,rfl⟩:∃m b,l=m++[b]:=⟨l.dropLast,l.getLast (by grind),(ZdY _).symm⟩;grind[List.getElem?_append_right,Cc.vB_snoc,Yz,bi]
def TA{l:List Bool}{w:Nat}(h:l.length=w)(h1:1<=w)(h2:w<=16):YP (w:Int) (vB l:Int)=some (if l.getD (w-1) false then(vB l:Int)-2^w else vB l):=by
 obtain⟨a1,_,a3,_,a5⟩:=SN (w:=(w:Int)) (by omega) (by omega);unfold YP;rw[UF h h1 h2];have hv:=Yz l;rw[h]at hv;have ew:w64 ((w:Int)-1)=((w-1:Nat):Int):=by grind[X4]
 rw[ew,QR _ (by omega),ZbE,Zcj (by omega)];have hpw:2^w=2*2^(w-1):=by rw[show w=w-1+1 by omega,ZcU,Zcl];rfl
 have ht:=PU (l:=l) (by omega);by_cases c:2^(w-1)<=vB l
 ·have e:vB l/2^(w-1)=1:=by
   have:vB l=2^(w-1)*1+(vB l-2^(w-1)):=by omega
   rw[this,ZeC (Zc5 _),ZcE (by omega)]
  grind[X4]
 grind[vB,Nat.div_eq_of_lt]
theorem cpow(w:Nat):((2:Int)^w)=((2^w:Nat):Int):=by simp
def Zag:∀w:Nat,w<17->1<=w->Cc.lg w<=w/\w<=2^Cc.lg w:=by decide
theorem Tg(x:Nat)(w:Nat):(x:Int)%2^w=((x%2^w:Nat):Int):=by rfl
def Gy{q S W:Nat}(h1:q<S)(h2:S<=W):((q:Int)-(S:Int))%(W:Int)=((q+(W-S):Nat):Int):=by
 rw[show((q:Int)-S)=((q+(W-S):Nat):Int)+(W:Int)*(-1) by omega,Zef,Zev (by omega) (by omega)]
section
variable{w:Nat}{a b:List Bool}(h1:1<=w)(h2:w<=16)(ha:a.length=w)(hb:b.length=w)
include h1 h2 ha hb
theorem ZaQ:Yq (w:Int) (w64 ((vB a:Int)+vB b))=some (vB (Cc.addB a b false).1:Int):=by
 have va:=Yz a;have vb:=Yz b;obtain⟨g1,g2⟩:=Cc.addB_val (ha.trans hb.symm) false;have gl:=Yz (Cc.addB a b false).1;rw[g1]at gl;rw[ha]at va gl g2;rw[hb]at vb;have hp:=p16 (w:=w) (by omega);rw[X4,WA h1 (by omega),show((vB a:Int)+vB b)=((vB a+vB b:Nat):Int) by omega,Tg];have e:(vB a+vB b)%2^w=vB (Cc.addB a b false).1:=by
  have:vB a+vB b=vB (Cc.addB a b false).1+2^w*bi (Cc.addB a b false).2:=by
   simp_all[Zcl,bi,Zbp,Zbx]
  simp_all[Zdp,ZcQ]
 rw[e]
theorem Zae:Yq (w:Int) (w64 ((vB a:Int)-vB b))=some (vB (Cc.addB a (b.map λx=>!x) true).1:Int):=by
 have va:=Yz a;have vb:=Yz b;obtain⟨g1,g2⟩:=Cc.addB_val (a:=a) (b:=b.map λx=>!x) (by simp_all) true;have gl:=Yz (Cc.addB a (b.map λx=>!x) true).1;have hn:=Cc.vB_not b;rw[g1]at gl;rw[ha]at va gl g2;rw[hb]at vb hn;have hp:=p16 (w:=w) (by omega);rw[X4,WA h1 (by omega)];generalize Cc.addB a (b.map λx=>!x) true=S at*;have hb1:=Cc.bi_le S.2;have e:((vB a:Int)-vB b)%2^w=(vB S.1:Int):=by
  rw[cpow];rcases Zdt (bi S.2) 1 with c|c
  ·have c0:bi S.2=0:=by omega
   rw[c0]at g2;simp only[bi,Zb5,Zel,ZcP]at g2;rw[show((vB a:Int)-vB b)=(vB S.1:Int)+((2^w:Nat):Int)*(-1) by omega,Zef,Zev (by omega) (by omega)]
  ·have c0:bi S.2=1:=by omega
   rw[c0]at g2;simp only[bi,Zb5,ZdA]at g2;rw[show((vB a:Int)-vB b)=(vB S.1:Int) by omega,Zev (by omega) (by omega)]
 rw[e]
theorem Zbc:Yq (w:Int) (w64 ((vB a:Int)*vB b))=some (vB (Cc.mulB a b a.length):Int):=by
 have va:=Yz a;have vb:=Yz b;obtain⟨-,g2⟩:=Cc.mul_num (ha.trans hb.symm);rw[ha]at va;rw[hb]at vb;have hp:=p16 (w:=w) (by omega);have hm:vB a*vB b<65536*65536:=Zeg (by omega) (by omega);grind[Int.natCast_mul,X4,WA,Tg]
omit hb in
theorem ZaZ:YP (w:Int) (vB a:Int)=some (if a.getD (w-1) false then(vB a:Int)-2^w else vB a):=TA ha h1 (by omega)
theorem Ay{op:Int}(ho:3<=op/\op<=16):XD op (w:Int) (vB a) (vB b)=some (vB (opB op a b):Int):=by
 have va:=Yz a;have vb:=Yz b;rw[ha]at va;rw[hb]at vb;have hp:=p16 (w:=w) (by omega);have hab:=ha.trans hb.symm;obtain⟨lg1,lg2⟩:=Zag a.length (by omega) (by omega);unfold XD;rw[UF ha h1 (by omega),UF hb h1 (by omega)];simp only[Zbn,Zb4,Zbp,Zbx,ZcL];unfold opB;rcases Cc.op_cases ho with rfl|rfl|rfl|rfl|rfl|rfl|rfl|rfl|rfl|rfl|rfl|rfl|rfl|rfl
 all_goals simp only[Int.reduceBEq,Int.reduceEq,Zbp,Zb5,Zbx]
 ·simp_all[ZaQ]
 ·simp_all[Zae]
 ·simp_all[Zbc]
 ·obtain⟨-,-,-,g⟩:=Cc.div_num hab;rw[g];by_cases c:vB b=0
  ·grind[SN]
  ·have:((vB b:Int)==0)=false:=by simpa using c
   rw[this];simp only[Zbp,Zbx,Zbv c];unfold quo?;rw[ifn];simp only[Zbn];have hd:vB a/vB b<=vB a:=Nat.div_le_self _ _;grind[Int.tdiv_eq_ediv_of_nonneg,Int.natCast_ediv,vB,X4]
 ·obtain⟨-,-,g,-⟩:=Cc.div_num hab;rw[g];by_cases c:vB b=0
  ·rw[c];simp
  ·have:((vB b:Int)==0)=false:=by simpa using c
   rw[this];simp only[Zbp,Zbx,Zbv c];simp_all[rem?,Zbv,Zbn,vB,Nat.mod_le,Int.tmod_eq_emod_of_nonneg,Int.natCast_emod]
 ·grind[Ki,AB]
 ·grind[Bv,Zax]
 ·grind[Dm,BQ]
 ·rw[Cc.shP_val hab lg1 lg2,Cc.shl_num,ha];by_cases c:w<=vB b
  ·have:decide ((vB b:Int)>=w)=true:=decide_eq_true (by omega);rw[this];have hq:2^vB b=2^w*2^(vB b-w):=by rw[<-ZdC];simp_all
   rw[hq,Zcl (vB a),Zcs,Nat.mul_mod_right];rfl
  ·have:decide ((vB b:Int)>=w)=false:=decide_eq_false (by omega);rw[this];simp only[Zbp,Zbx];rw[JM _ (by omega),ZbE,Zcj (by omega)];have hm:vB a*2^vB b<65536*65536:=Zeg (by omega) (ZbA (Nat.pow_lt_pow_right (by omega) (by omega)) (p16 (w:=w) (by omega)).1);grind[cpow,Int.natCast_mul,X4,WA,Tg]
 ·rw[Cc.shP_val hab lg1 lg2,Cc.shr_num];by_cases c:w<=vB b
  ·have:decide ((vB b:Int)>=w)=true:=decide_eq_true (by omega);rw[this,ZcE (ZbA va (Zck (by omega) c))];rfl
  ·have:decide ((vB b:Int)>=w)=false:=decide_eq_false (by omega);rw[this];simp only[Zbp,Zbx];grind[QR,Int.toNat_natCast,Nat.min_eq_left,cpow,Int.fdiv_eq_ediv_of_nonneg,Int.natCast_nonneg,Int.natCast_ediv]
 ·rw [Cc.shP_val hab lg1 lg2,ZaZ h1 h2 ha]
  simp only[Zbn];obtain⟨s,hs1,hs2,hs3⟩:∃s:Nat,cond (decide ((vB b:Int)>=w)) (w64 ((w:Int)-1)) (vB b:Int)=s/\s<=w-1/\(s=vB b\/s=w-1/\w<=vB b):=by
   by_cases c:w<=vB b
   ·refine⟨w-1, ?_,Zb0 _,.inr ⟨rfl,c⟩⟩;rw[decide_eq_true (show(vB b:Int)>=w by omega),cond_true,X4];omega
   grind
  rw[hs1,QR _ (by omega),ZbE,Zcj (by omega)];simp only[Zbn];have ht:=PU (l:=a) (by omega);rw[ha]at ht⊢;have hfd:∀x:Int,x.fdiv (2^s)=x/2^s:=λx=>ZcR _ (by grind);have hps:0<2^s:=Zc5 s;have hpw:2^w=2^(w-s)*2^s:=by rw[<-ZdC];congr 1;omega
  have hpu:2^(w-s)<=2^w:=Zck (by omega) (by omega);have hdl:vB a/2^s<2^(w-s):=Nat.div_lt_of_lt_mul (by rw[Zcl,<-hpw];exact va);have hw1:2^w=2*2^(w-1):=by rw[show w=w-1+1 by omega,ZcU,Zcl];rfl
  rw[hfd];cases hf:a.getD (w-1) false
  ·simp only[Zbp,Zbx];have e0:(vB a:Int)/2^s=((vB a/2^s:Nat):Int):=by rw[cpow,Zdx]
   rw[e0,WA h1 (by omega),Tg];have hl:=Cc.shr_num (a:=a) (vB b);rw[ha]at hl;rw[hl,ZcQ (by omega)];rcases hs3 with rfl|⟨rfl,hs4⟩
   ·rfl
   ·rw[hf]at ht;have hlt:¬2^(w-1)<=vB a:=λh=>by rw[decide_eq_true h]at ht;cases ht
    rw[ZcE (by omega),ZcE (ZbA va (Zck (by omega) hs4))];rfl
  ·simp only[Zb5];rw[hf]at ht;have hle:2^(w-1)<=vB a:=of_decide_eq_true ht.symm;have e0:((vB a:Int)-2^w)/2^s=((vB a/2^s:Nat):Int)-((2^(w-s):Nat):Int):=by
    rw[cpow,cpow,hpw,show((vB a:Int)-((2^(w-s)*2^s:Nat):Int))=(vB a:Int)+((2^s:Nat):Int)*(-((2^(w-s):Nat):Int)) by rw[ZdM,Int.mul_neg,Int.mul_comm];omega,Int.add_mul_ediv_left _ _ (by omega),Zdx];omega
   rw[e0,WA h1 (by omega)];have hl:=Cc.sar_num (a:=a) (vB b);rw[ha]at hl;rw[hl];have e1:(((vB a/2^s:Nat):Int)-((2^(w-s):Nat):Int))%2^w=((vB a/2^s+(2^w-2^(w-s)):Nat):Int):=by
    rw[cpow];exact Gy hdl hpu
   rw[e1];rcases hs3 with rfl|⟨rfl,hs4⟩
   ·rfl
   ·have d1:vB a/2^(w-1)=1:=by
     have:vB a=2^(w-1)*1+(vB a-2^(w-1)):=by omega
     rw[this,ZeC (Zc5 _),ZcE (by omega)]
    have d2:vB a/2^vB b=0:=ZcE (ZbA va (Zck (by omega) hs4));have:=Zc5 (w-1);rw[d1,d2,show w-(w-1)=1 by omega,show w-vB b=0 by omega,Nat.pow_one,Nat.pow_zero];exact congrArg (λn:Nat=>some (n:Int)) (by omega)
 ·rw[GG _ hab];unfold Yc;rw[Iw,Zcn];by_cases c:a=b
  ·subst c;simp[bi]
  ·have:((vB a:Int)==vB b)=false:=by
    simp only[beq_eq_false_iff_ne,ne_eq];exact λh=>c (Cc.vB_inj hab (by omega))
   rw[this];simp[c,bi]
 ·rw[RZ hab,Iw];unfold Yc;by_cases c:vB a<vB b
  ·rw[decide_eq_true (show(vB a:Int)<vB b by omega),decide_eq_true c];rfl
  ·rw[decide_eq_false (show¬(vB a:Int)<vB b by omega),decide_eq_false c];rfl
 ·obtain⟨fa1,fa2⟩:=Qj (l:=a) (by omega);obtain⟨fb1,fb2⟩:=Qj (l:=b) (by omega);have ta:=PU (l:=a) (by omega);have tb:=PU (l:=b) (by omega);rw[ha]at fa2 ta;rw[hb]at fb2 tb;rw[RZ (fa1.trans (hab.trans fb1.symm)),Iw,TA ha h1 (by omega),TA hb h1 (by omega)];simp only[Zbn];unfold Yc;have hw1:2^w=2*2^(w-1):=by rw[show w=w-1+1 by omega,ZcU,Zcl];rfl
  have key:decide ((if a.getD (w-1) false then(vB a:Int)-2^w else vB a)<(if b.getD (w-1) false then(vB b:Int)-2^w else vB b))=decide (vB (Cc.flipB a)<vB (Cc.flipB b)):=by
   rw[cpow];cases xa:a.getD (w-1) false<;>cases xb:b.getD (w-1) false<;>simp only[xa,xb,Zbp,Zbx,Zb5]at fa2 fb2⊢<;>rw[xa]at ta<;>rw[xb]at tb<;>refine decide_eq_decide.2 ?_<;>simp only[eq_comm (a:=false),eq_comm (a:=true),decide_eq_false_iff_not,Zb8]at ta tb<;>omega
  rw[key];cases decide (vB (Cc.flipB a)<vB (Cc.flipB b))<;>rfl
end
open Cc (BS LS CircP Grow GoodL Good litN lines negs seqP ifP opP net RelB FOk XR Yw litN_iff litN_mono ZA litV ev LstF SemL vB Yz opB bi)
def finB(op:Int)(w m:Nat)(ks:List (List Bool)):List Bool:=
 if op=1 then(ks.getD 0 []).map (λb=>!b)
 else if op=2 then opB 4 (List.replicate w false) (ks.getD 0 [])
 else if op=17 then((ks.getD 1 []).zip (ks.getD 2 [])).map λp=>cond ((ks.getD 0 []).getD 0 false) p.1 p.2
 else if op=18 then ks.getD 1 []++ks.getD 0 []
 else if op=19 then((ks.getD 0 []).drop m).take w
 else if op=20 then ks.getD 0 []++List.replicate (w-(ks.getD 0 []).length) false
 else if op=21 then ks.getD 0 []++List.replicate (w-(ks.getD 0 []).length) ((ks.getD 0 []).getD ((ks.getD 0 []).length-1) false)
 else opB op (ks.getD 0 []) (ks.getD 1 [])
mutual
def tB(vs:List D.Value)(E:List Bool):D.Term->List Bool
 |⟨op,w,m,nm,ks⟩=>if op=0 then(List.range w.toNat).map (bitI m)else if op=22 then(varL vs nm w.toNat).map (litV E)else finB op w.toNat m.toNat (tBs vs E ks)
def tBs(vs:List D.Value)(E:List Bool):List D.Term->List (List Bool)
 |[]=>[]
 |t::l=>tB vs E t::tBs vs E l
end
def Zal(vs:List D.Value)(E:List Bool)(t:D.Term):tB vs E t=if t.Op=0 then(List.range t.W.toNat).map (bitI t.N)else if t.Op=22 then(varL vs t.Name t.W.toNat).map (litV E)else finB t.Op t.W.toNat t.N.toNat (tBs vs E t.Kids):=by cases t;rw[tB]
def Gz(vs:List D.Value)(E:List Bool):tBs vs E []=[]:=by rw[tBs]
def KR(vs:List D.Value)(E:List Bool)(t:D.Term)(l:List D.Term):tBs vs E (t::l)=tB vs E t::tBs vs E l:=by rw[tBs]
def Ke{c:D.Circuit}{v:List Bool}(n:Nat):(List.replicate n (-1:Int)).map (litV (ev c v))=List.replicate n false:=by rw[Zej,Cc.ev_m1]
def fin_nf{s:BS}{t:D.Term}{ls:List (List Int)}(hb:nodeB t=true)(hs:CircP s.1)(h0:t.Op≠0)(h22:t.Op≠22)(hk:KK s t.Kids ls):LstF s (fin t.Op t.W.toNat t.N.toNat ls s) (λE=>finB t.Op t.W.toNat t.N.toNat (ls.map λl=>l.map (litV E))):=by
 obtain⟨op,w,m,nm,ks⟩:=t;obtain⟨hw,hsh⟩:=Y6 hb;simp only at h0 h22 hk⊢;rcases hsh with⟨rfl,-⟩|⟨rfl,-⟩|⟨ho,-,-,a,rfl,ha,haw⟩|⟨h3,h16,-,-,a,b,rfl,ha,hb',hab,h13,h14⟩|⟨rfl,-,-,a,b,c,rfl,ha,hb',hc,ha1,hbw,hcw⟩|⟨rfl,-,-,a,b,rfl,ha,hb',habw⟩|⟨rfl,-,hm0,hm1,a,rfl,ha,haw⟩|⟨ho,-,-,a,rfl,ha,haw⟩
 ·omega
 ·omega
 ·obtain⟨la,r1,k1,hn1,rfl⟩:=KK1 hk;obtain rfl:=KK0 hn1;have hl:la.length=w.toNat:=by rw[k1.1,haw]
  unfold fin finB;simp only[Zb1,Zch,Zb9];rcases ho with rfl|rfl
  ·simp only[Zb5];exact⟨λh=>h,λ_ c' _ _ v _=>Cc.negs_bits k1.2⟩
  ·simp only[show¬((2:Int)=1) by decide,Zbx,Zb5];split
   ·exact⟨λh=>(by cases h),λh=>(by cases h)⟩
   ·rename_i h16;have q:=(Cc.op_nf (s:=s) (a:=List.replicate w.toNat (-1)) (b:=la) (by simp[hl]) (by simp;omega) (by simp;omega) (TP hs) k1.2 hs (op:=4) (by omega)).2;exact q.cong λc' v=>by rw[Ke]
 ·obtain⟨la,r1,k1,hn1,rfl⟩:=KK1 hk;obtain⟨lb,r2,k2,hn2,rfl⟩:=KK1 hn1;obtain rfl:=KK0 hn2;have hA:=ZY ha;unfold fin finB;simp only[Zb1,Zch,Zb9,ZbQ];rw[ifn,ifn,ifn,ifn,ifn,ifn,ifn];have e:∀E:List Bool,(if op=1 then(la.map (litV E)).map (λb=>!b)else if op=2 then opB 4 (List.replicate w.toNat false) (la.map (litV E))else if op=17 then((lb.map (litV E)).zip ([]:List Bool)).map (λp=>cond ((la.map (litV E)).getD 0 false) p.1 p.2)else if op=18 then lb.map (litV E)++la.map (litV E)else if op=19 then((la.map (litV E)).drop m.toNat).take w.toNat else if op=20 then la.map (litV E)++List.replicate (w.toNat-(la.map (litV E)).length) false else if op=21 then la.map (litV E)++List.replicate (w.toNat-(la.map (litV E)).length) ((la.map (litV E)).getD ((la.map (litV E)).length-1) false)else opB op (la.map (litV E)) (lb.map (litV E)))=opB op (la.map (litV E)) (lb.map (litV E)):=λE=>by
   grind
  split
  ·exact⟨λh=>(by cases h),λh=>(by cases h)⟩
  ·rename_i h16';have q:=(Cc.op_nf (s:=s) (a:=la) (b:=lb) (by rw[k1.1,k2.1,hab]) (by have:=k1.1;omega) (by have:=k1.1;omega) k1.2 k2.2 hs (op:=op) ⟨h3,h16⟩).2;grind
 ·obtain⟨la,r1,k1,hn1,rfl⟩:=KK1 hk;obtain⟨lb,r2,k2,hn2,rfl⟩:=KK1 hn1;obtain⟨lc,r3,k3,hn3,rfl⟩:=KK1 hn2;obtain rfl:=KK0 hn3;unfold fin finB;simp only[Zb1,Zch,Zb9,ZbQ,show¬((17:Int)=1) by decide,show¬((17:Int)=2) by decide,Zbx,Zb5];have hla:0<la.length:=by rw[k1.1,ha1];decide
  have hc0:litN (lines s.1) (la.getD 0 0)=true:=k1.2 _ (Cc.getD_mem hla)
  have q:=Cc.seq_nf (s:=s) (l:=lb.zip lc) (g:=λp e=>cond (litV e (la.getD 0 0)) (litV e p.1) (litV e p.2)) hs (Gd hs hc0 k2.2 k3.2) (λs' p hc' hgr hp=>by
   have hp':=ZdK hp
   exact Cc.if_nf hc' (litN_mono (k2.2 _ hp'.1) hgr.lines) (litN_mono (k3.2 _ hp'.2) hgr.lines) (litN_mono hc0 hgr.lines))
  exact q.cong λc' v=>by rw[<-Cc.getD_bits hla,Zek,Zc2];rfl
 ·obtain⟨la,r1,k1,hn1,rfl⟩:=KK1 hk;obtain⟨lb,r2,k2,hn2,rfl⟩:=KK1 hn1;obtain rfl:=KK0 hn2;unfold fin finB;simp only[Zb1,Zch,Zb9,ZbQ,show¬((18:Int)=1) by decide,show¬((18:Int)=2) by decide,show¬((18:Int)=17) by decide,Zbx,Zb5];exact⟨λh=>h,λ_ c' _ _ v _=>Zce⟩
 ·obtain⟨la,r1,k1,hn1,rfl⟩:=KK1 hk;obtain rfl:=KK0 hn1;unfold fin finB;simp only[Zb1,Zch,Zb9,ZbQ,show¬((19:Int)=1) by decide,show¬((19:Int)=2) by decide,show¬((19:Int)=17) by decide,show¬((19:Int)=18) by decide,Zbx,Zb5];exact⟨λh=>h,λ_ c' _ _ v _=>by rw[Zdn,Zez]⟩
 ·obtain⟨la,r1,k1,hn1,rfl⟩:=KK1 hk;have hA:=ZY ha;have hla:0<la.length:=by rw[k1.1];omega
  unfold fin finB;rcases ho with rfl|rfl
  ·simp only[Zb1,Zch,Zb9,ZbQ,show¬((20:Int)=1) by decide,show¬((20:Int)=2) by decide,show¬((20:Int)=17) by decide,show¬((20:Int)=18) by decide,show¬((20:Int)=19) by decide,Zbx,Zb5];exact⟨λh=>h,λ_ c' _ _ v _=>by rw[Zce,Ke,ZbK]⟩
  ·simp only[Zb1,Zch,Zb9,ZbQ,show¬((21:Int)=1) by decide,show¬((21:Int)=2) by decide,show¬((21:Int)=17) by decide,show¬((21:Int)=18) by decide,show¬((21:Int)=19) by decide,show¬((21:Int)=20) by decide,Zbx,Zb5];exact⟨λh=>h,λ_ c' _ _ v _=>by rw[Zce,Zej,ZbK,<-Cc.getD_bits (by omega)]⟩
def BJ{s:BS}(w:Nat)(v:Int):LstF s (wordL w v,s) (λ_=>(List.range w).map (bitI v)):=⟨λh=>h,λ_ c' _ _ x _=>by
 unfold wordL;rw[Zc2];refine Zcz λk _=>?_
 grind[bitI,Cc.ev_m1,Cc.ev_one]⟩
theorem Bt{vs:List D.Value}:∀(l:List D.Term)(s:BS),(∀t∈l,∀s:BS,CircP s.1->VF vs s.1->GoodL s t.W.toNat (nP vs t s)/\LstF s (nP vs t s) (λE=>tB vs E t))->CircP s.1->VF vs s.1->
  ((nPs vs l s).2.2=false->s.2=false/\∀c',CircP c'->Grow (nPs vs l s).2.1 c'->∀v:List Bool,(v.length:Int)=c'.Inputs->(nPs vs l s).1.map (λx=>x.map (litV (ev c' v)))=tBs vs (ev c' v) l)
 |[],s,_,hs,_=>by simp[PX,Gz]
 |t::l,s,h,hs,hv=>by
  rw[TU];obtain⟨g,f⟩:=h t (by simp) s hs hv;have q:=Bt l (nP vs t s).2 (λx hx=>h x (by simp[hx])) g.circ (hv.mono g.grow);obtain⟨-,qg,-⟩:=Um l (nP vs t s).2 (λx hx s hs hv=>(h x (by simp[hx]) s hs hv).1) g.circ (hv.mono g.grow);intro hn;obtain⟨q1,q2⟩:=q hn;refine⟨f.full q1,λc' hc hg v hv'=>?_⟩;simp only[Zb1];rw[q2 c' hc hg v hv',f.sem q1 c' hc (qg.trans hg) v hv',KR]
theorem Zbi{vs:List D.Value}(hp:vs.Pairwise λx y=>x.Name≠y.Name):∀(n:Nat)(t:D.Term)(s:BS),cnt t<=n->nodeB t=true->TV vs t->CircP s.1->VF vs s.1->LstF s (nP vs t s) (λE=>tB vs E t):=by
 intro n
 induction n with
 |zero=>simp[X8]
 | succ n ih=>
  intro t s hc hb ht hs hv;have e:(λE=>tB vs E t)=λE=>if t.Op=0 then(List.range t.W.toNat).map (bitI t.N)else if t.Op=22 then(varL vs t.Name t.W.toNat).map (litV E)else finB t.Op t.W.toNat t.N.toNat (tBs vs E t.Kids):=funext λE=>Zal vs E t;rw[Kg,e];by_cases h0:t.Op=0
  ·simp_all[Zbq,BJ]
  simp only[Zbv h0];by_cases h22:t.Op=22
  ·simp only[Zbq h22];exact⟨λh=>h,λ_ c' _ _ v _=>rfl⟩
  simp only[Zbv h22];have hcn:=X8 t;have hkid:∀x∈t.Kids,∀s':BS,CircP s'.1->VF vs s'.1->GoodL s' x.W.toNat (nP vs x s')/\LstF s' (nP vs x s') (λE=>tB vs E x):=λx hx s' hs' hv'=>⟨UC hp _ x s' (Zb0 _) (nodeK hb x hx) (Tu ht h22 hx) hs' hv',ih x s' (by have:=XT hx;omega) (nodeK hb x hx) (Tu ht h22 hx) hs' hv'⟩;obtain⟨q1,q2,q3⟩:=Um t.Kids s (λx hx s' hs' hv'=>(hkid x hx s' hs' hv').1) hs hv;have g:=fin_good hb q1 h0 h22 q3;have f:=fin_nf hb q1 h0 h22 q3;have k:=Bt t.Kids s hkid hs hv;refine⟨λhn=>(k (f.full hn)).1,λhn c' hc' hg v hv'=>?_⟩;exact(f.sem hn c' hc' hg v hv').trans (congrArg (finB t.Op t.W.toNat t.N.toNat) ((k (f.full hn)).2 c' hc' (g.grow.trans hg) v hv'))
open Cc (BS LS CircP Grow litV ev vB Yz opB bi)
def Kb{m:Nat}(hm:m<65536)(k:Nat)(hk:k<=60):bitI (m:Int) k=m.testBit k:=by
 unfold bitI;rw[QR _ (by omega),ZbE,Zcj (by omega),cpow,ZcR _ (Zen _),<-Zdx];have hd:m/2^k<=m:=Nat.div_le_self _ _;simp only;rw[show(1:Int)=((1:Nat):Int)from rfl,Ki (by omega) (by omega),Nat.and_one_is_mod,Nat.testBit_eq_decide_div_mod_eq];rcases Nat.mod_two_eq_zero_or_one (m/2^k)with h|h<;>rw[h]<;>rfl
def Oy{w:Nat}(hw:w<=16){v:Int}(h0:0<=v)(h1:v<2^w):(vB ((List.range w).map (bitI v)):Int)=v:=by
 obtain⟨m,rfl⟩:=ZdN h0;have hp:=p16 hw;rw[cpow]at h1;have hm:m<2^w:=by exact Int.ofNat_lt.1 h1
 have:vB ((List.range w).map (bitI (m:Int)))=m:=Zd6 λi=>by
  rw[VS,Zbr,ZbO];by_cases c:i<w
  ·rw[Zdg c];exact Kb (by omega) i (by omega)
  ·rw[ZbP (by simp;omega)];exact(Nat.testBit_lt_two_pow (ZbA hm (Zck (by omega) (by omega)))).symm
 rw[this]
theorem CU:∀{a b:List Bool}(c:Bool),a.length=b.length->((a.zip b).map λp=>cond c p.1 p.2)=cond c a b
 |a,b,true,h=>by simp only[cond_true];exact List.map_fst_zip (by omega)
 |a,b,false,h=>by simp only[cond_false];exact List.map_snd_zip (by omega)
def BD(l:List Bool)(k:Nat):vB (l.take k)=vB l%2^k:=by
 by_cases c:k<=l.length
 ·have h:=Cc.vB_split l c;have hl:=Yz (l.take k);rw[Zb2,Zcj c]at hl;rw[h,Zdp,ZcQ hl]
 ·have hl:=Yz l;rw[ZbX (by omega),ZcQ (ZbA hl (Zck (by omega) (by omega)))]
section
variable{w:Nat}(h1:1<=w)(h2:w<=16)
include h1 h2
theorem Zbe{a:List Bool}(ha:a.length=w):Xe 1 (w:Int) (vB a)=some (vB (a.map λb=>!b):Int):=by
 obtain⟨a1,_,a3,_,_⟩:=SN (w:=(w:Int)) (by omega) (by omega);unfold Xe;rw[UF ha h1 h2];simp only[Zbn,Zb4,Zbp,Zbx,ZcY,Zb5,a1];rw[a3,ZbE,cpow];have hn:=Cc.vB_not a;have hp:=p16 h2;rw[ha]at hn;rw[X4];congr 1;omega
theorem ZaS{a:List Bool}(ha:a.length=w):Xe 2 (w:Int) (vB a)=some (vB (opB 4 (List.replicate w false) a):Int):=by
 unfold Xe;rw[UF ha h1 h2];simp only[Zbn,Zb4,Zbp,Zbx,Int.reduceBEq,Zb5];have q:=Zae h1 h2 (a:=List.replicate w false) (b:=a) (by simp) ha;rw[Cc.vB_rep]at q;rw[show(0:Int)-(vB a:Int)=((0:Nat):Int)-vB a from rfl,q];unfold opB;simp only[Int.reduceEq,Zbx,Zb5];rfl
theorem Zar{a:List Bool}{n:Nat}(ha:a.length=n)(hn1:1<=n)(hn:n<=w):Xp (n:Int) (vB a) (w:Int) false=some (vB (a++List.replicate (w-n) false):Int):=by
 unfold Xp;rw[UF ha hn1 (by omega)];simp only[Zbn,Zb4,ZbL];rw[decide_eq_false (show¬(w:Int)<n by omega),decide_eq_false (show¬(w:Int)>16 by omega),Cc.vB_app,Cc.vB_rep];simp
theorem FZ{a:List Bool}{n:Nat}(ha:a.length=n)(hn1:1<=n)(hn:n<=w):Xp (n:Int) (vB a) (w:Int) true=some (vB (a++List.replicate (w-n) (a.getD (n-1) false)):Int):=by
 unfold Xp;rw[UF ha hn1 (by omega)];simp only[Zbn,Zb4,ZbL];rw[decide_eq_false (show¬(w:Int)<n by omega),decide_eq_false (show¬(w:Int)>16 by omega),TA ha hn1 (by omega)];simp only[ZcL,Zbp,Zbx,Zb5,Zbn];have va:=Yz a;rw[ha]at va;have hpn:2^n<=2^w:=Zck (by omega) hn;rw[Cc.vB_app,ha];cases hf:a.getD (n-1) false
 ·simp only[Zbp,Zbx];rw[WA h1 h2,Tg,ZcQ (by omega),Cc.vB_rep];simp
 ·simp only[Zb5];rw[cpow,WA h1 h2,cpow,Gy va hpn];have ho:=Cc.vB_ones (w-n);have hpw:2^w=2^n*2^(w-n):=by rw[<-ZdC];congr 1;omega
  simp only[Zbn];have e:2^w-2^n=2^n*vB (List.replicate (w-n) true):=by rw[hpw,<-ho,ZdB,Zd0];omega
  rw[e]
theorem ZaW{a:List Bool}{n m:Nat}(ha:a.length=n)(hn1:1<=n)(hn2:n<=16)(hm:m+w<=n):WZ (n:Int) (vB a) (m:Int) (w:Int)=some (vB ((a.drop m).take w):Int):=by
 unfold WZ;rw[UF ha hn1 hn2];simp only[Zbn,Zb4,ZbL];rw[decide_eq_false (show¬(m:Int)<0 by omega),decide_eq_false (show¬(w:Int)<1 by omega),decide_eq_false (show¬(w:Int)>n by omega),X4,decide_eq_false (show¬(m:Int)>(n:Int)-w by omega)];simp only[ZcL,Zbp,Zbx];rw[QR _ (by omega),ZbE,Zcj (by omega),cpow,ZcR _ (Zen _),<-Zdx];simp only[Zbn];rw[WA h1 h2,Tg,BD,Cc.vB_drop];rfl
end
def ZaE{a b:List Bool}{n m:Nat}(ha:a.length=n)(hb:b.length=m)(hn:1<=n)(hm:1<=m)(h:n+m<=16):Wv (n:Int) (vB a) (m:Int) (vB b)=some (vB (b++a):Int):=by
 unfold Wv;rw[UF ha hn (by omega),UF hb hm (by omega)];simp only[Zbn,Zb4,Zbp,Zbx,ZbL];rw[X4 (a:=(n:Int)+m) (by omega) (by omega),decide_eq_false (show¬(n:Int)+m>16 by omega)];simp only[Zbp,Zbx];have va:=Yz a;have vb:=Yz b;rw[ha]at va;rw[hb]at vb;have hpn:=p16 (w:=n) (by omega);have hpm:=p16 (w:=m) (by omega);have hm1:vB a*2^m<65536*65537:=Nat.mul_lt_mul_of_lt_of_le (by omega) (by omega) (by omega);rw[JM _ (by omega),ZbE,Zcj (by omega),cpow,<-ZdM,X4];simp only[Zbn];rw[Cc.vB_app,hb,Zcl (2^m)];generalize vB a*2^m=q at hm1⊢;rw[X4];congr 1;omega
def BG{op:Int}{a b:List Bool}(h1:1<=a.length)(h2:a.length<=16)(hab:a.length=b.length)(ho:3<=op/\op<=16):(opB op a b).length=if op<=13 then a.length else 1:=by
 obtain⟨lg1,lg2⟩:=Zag a.length (by omega) h1;unfold opB;rcases Cc.op_cases ho with rfl|rfl|rfl|rfl|rfl|rfl|rfl|rfl|rfl|rfl|rfl|rfl|rfl|rfl
 all_goals simp only[Int.reduceEq,Int.reduceLE,Zb5,Zbx]
 ·exact(Cc.addB_val hab false).1
 ·exact(Cc.addB_val (by rw[ZbK];exact hab) true).1
 ·exact(Cc.mul_num hab).1
 ·exact(Cc.div_num hab).2.1
 ·exact(Cc.div_num hab).1
 ·rw[ZbK,Zc4,<-hab,Zdu]
 ·rw[ZbK,Zc4,<-hab,Zdu]
 ·rw[ZbK,Zc4,<-hab,Zdu]
 ·rw[Cc.shP_val hab lg1 lg2];simp
 ·rw[Cc.shP_val hab lg1 lg2];simp
 ·rw[Cc.shP_val hab lg1 lg2];simp
 ·rfl
 ·rw[RZ hab];rfl
 ·rw[RZ (by rw[(Qj (l:=a) (by omega)).1,(Qj (l:=b) (by omega)).1];exact hab)];rfl
open Cc (litV vB Yz opB bi)
def EV(vs l:List D.Value)(E:List Bool)(p:Str×Int):Prop:=∃x,fnd l p.1=some x/\x.W=p.2/\0<=x.N/\x.N<2^x.W.toNat/\(varL vs p.1 p.2.toNat).map (litV E)=(List.range p.2.toNat).map (bitI x.N)
def OQ{x:Int}(h:1<=x):((x.toNat:Nat):Int)=x:=ZdD (by omega)
theorem bs1{bs:List (List Bool)}{n:Nat}(h:bs.map List.length=[n]):∃x,bs=[x]/\x.length=n:=by
 cases bs with
 |nil=>simp at h
 |cons x l=>simp at h;exact⟨x,by rw[h.2],h.1⟩
theorem bs2{bs:List (List Bool)}{n m:Nat}(h:bs.map List.length=[n,m]):∃x y,bs=[x,y]/\x.length=n/\y.length=m:=by
 cases bs with
 |nil=>simp at h
 |cons x l=>
  simp only[Zb1,List.cons.injEq]at h;obtain⟨y,rfl,hy⟩:=bs1 h.2;exact⟨x,y,rfl,h.1,hy⟩
theorem bs3{bs:List (List Bool)}{n m k:Nat}(h:bs.map List.length=[n,m,k]):∃x y z,bs=[x,y,z]/\x.length=n/\y.length=m/\z.length=k:=by
 cases bs with
 |nil=>simp at h
 |cons x l=>
  simp only[Zb1,List.cons.injEq]at h;obtain⟨y,z,rfl,hy,hz⟩:=bs2 h.2;exact⟨x,y,z,rfl,h.1,hy,hz⟩
theorem Di{t:D.Term}{bs:List (List Bool)}(hb:nodeB t=true)(h0:t.Op≠0)(h22:t.Op≠22)(hl:bs.map List.length=t.Kids.map λx=>x.W.toNat):
  WG t (bs.map λb=>(vB b:Int))=some (vB (finB t.Op t.W.toNat t.N.toNat bs):Int)/\(finB t.Op t.W.toNat t.N.toNat bs).length=t.W.toNat:=by
 obtain⟨op,w,m,nm,ks⟩:=t;obtain⟨hw16,hsh⟩:=Y6 hb;have hwn:=OQ hw16.1;simp only at h0 h22 hl⊢;unfold WG Zf;simp only;rcases hsh with⟨rfl,-⟩|⟨rfl,-⟩|⟨ho,-,-,a,rfl,ha,haw⟩|⟨h3,h16,-,-,a,b,rfl,ha,hb',hab,h13,h14⟩|⟨rfl,-,-,a,b,c,rfl,ha,hb',hc,ha1,hbw,hcw⟩|⟨rfl,-,-,a,b,rfl,ha,hb',habw⟩|⟨rfl,-,hm0,hm1,a,rfl,ha,haw⟩|⟨ho,-,-,a,rfl,ha,haw⟩
 ·exact absurd rfl h0
 ·exact absurd rfl h22
 ·obtain⟨x,rfl,hx⟩:=bs1 (n:=a.W.toNat) hl;rw[haw]at hx;have e:(decide (op>=1)&&decide (op<=2))=true:=by simp;omega
  simp only[e,Zbn,Zb5,Zb1,Zch,geti0];unfold finB;simp only[Zb9];rcases ho with rfl|rfl
  ·simp only[Zb5];have q:=Zbe (w:=w.toNat) (by omega) (by omega) hx;rw[hwn]at q;rw[q];exact⟨rfl,by simp[hx]⟩
  ·simp only[show¬((2:Int)=1) by decide,Zbx,Zb5];have q:=ZaS (w:=w.toNat) (by omega) (by omega) hx;rw[hwn]at q;rw[q];refine⟨rfl,?_⟩;have ga:=Cc.addB_val (a:=List.replicate w.toNat false) (b:=x.map λb=>!b) (by simp[hx]) true;have:opB 4 (List.replicate w.toNat false) x=(Cc.addB (List.replicate w.toNat false) (x.map λb=>!b) true).1:=by unfold opB;simp
   rw[this,ga.1];simp
 ·obtain⟨x,y,rfl,hx,hy⟩:=bs2 (n:=a.W.toNat) (m:=b.W.toNat) hl;have hA:=ZY ha;have e1:(decide (op>=1)&&decide (op<=2))=false:=by simp;omega
  have e2:(decide (op>=3)&&decide (op<=16))=true:=by simp;omega
  rw[e1,e2];simp only[Zbn,Zb5,Zbp,Zbx];simp only[Zb1,Zch];rw[get0,geti0];rw[geti1];simp only[Zbn];have z1:1<=a.W.toNat:=by omega
  have z2:a.W.toNat<=16:=by omega
  have z3:y.length=a.W.toNat:=by rw[hy,hab]
  have q:=Ay z1 z2 hx z3 (op:=op) ⟨h3,h16⟩;rw[OQ hA.1]at q;rw[q];unfold finB;simp only[Zb9,ZbQ];rw[ifn,ifn,ifn,ifn,ifn,ifn,ifn];refine⟨rfl,?_⟩;rw[BG (by omega) (by omega) (by rw[hx,hy,hab]) ⟨h3,h16⟩];split
  ·rename_i h;rw[hx,h13 h]
  ·rename_i h;rw[h14 (by omega)];rfl
 ·obtain⟨x,y,z,rfl,hx,hy,hz⟩:=bs3 (n:=a.W.toNat) (m:=b.W.toNat) (k:=c.W.toNat) hl;rw[ha1]at hx;rw[hbw]at hy;rw[hcw]at hz;simp only[show(decide ((17:Int)>=1)&&decide ((17:Int)<=2))=false by decide,show(decide ((17:Int)>=3)&&decide ((17:Int)<=16))=false by decide,Zbn,Zb5,Zbp,Zbx,Zb1,Zch,geti0,geti1,geti2,ZcY];unfold finB;simp only[Zb9,ZbQ,show¬((17:Int)=1) by decide,show¬((17:Int)=2) by decide,Zbx,Zb5];rw[CU _ (hy.trans hz.symm)]
  match x,hx with
  |[true],_=>
   rw[show vB [true]=1 from rfl,show((((1:Nat):Int)==1)=true)from rfl,Zbq rfl];exact⟨rfl,hy⟩
  |[false],_=>
   rw[show vB [false]=0 from rfl,show((((0:Nat):Int)==1)=false)from rfl,ifn];exact⟨rfl,hz⟩
 ·obtain⟨x,y,rfl,hx,hy⟩:=bs2 (n:=a.W.toNat) (m:=b.W.toNat) hl;have hA:=ZY ha;have hB:=ZY hb';simp only[show(decide ((18:Int)>=1)&&decide ((18:Int)<=2))=false by decide,show(decide ((18:Int)>=3)&&decide ((18:Int)<=16))=false by decide,show((18:Int)==17)=false by decide,Zbn,Zb5,Zbp,Zbx,Zb1,Zch,geti0,geti1,get0,get1,ZcY];have q:=ZaE hx hy (by omega) (by omega) (by omega);rw[OQ hA.1,OQ hB.1]at q;rw[q];unfold finB;simp only[Zb9,ZbQ,show¬((18:Int)=1) by decide,show¬((18:Int)=2) by decide,show¬((18:Int)=17) by decide,Zbx,Zb5];exact⟨rfl,by rw[Zbw,hx,hy];omega⟩
 ·obtain⟨x,rfl,hx⟩:=bs1 (n:=a.W.toNat) hl;have hA:=ZY ha;simp only[show(decide ((19:Int)>=1)&&decide ((19:Int)<=2))=false by decide,show(decide ((19:Int)>=3)&&decide ((19:Int)<=16))=false by decide,show((19:Int)==17)=false by decide,show((19:Int)==18)=false by decide,Zbn,Zb5,Zbp,Zbx,Zb1,Zch,geti0,get0,ZcY];have q:=ZaW (w:=w.toNat) (m:=m.toNat) (by omega) (by omega) hx (by omega) (by omega) (by omega);rw[OQ hA.1,hwn,ZdD hm0]at q;rw[q];unfold finB;simp only[Zb9,ZbQ,show¬((19:Int)=1) by decide,show¬((19:Int)=2) by decide,show¬((19:Int)=17) by decide,show¬((19:Int)=18) by decide,Zbx,Zb5];exact⟨rfl,by rw[Zb2,ZbD,hx];omega⟩
 ·obtain⟨x,rfl,hx⟩:=bs1 (n:=a.W.toNat) hl;have hA:=ZY ha;rcases ho with rfl|rfl
  ·simp only[show(decide ((20:Int)>=1)&&decide ((20:Int)<=2))=false by decide,show(decide ((20:Int)>=3)&&decide ((20:Int)<=16))=false by decide,show((20:Int)==17)=false by decide,show((20:Int)==18)=false by decide,show((20:Int)==19)=false by decide,show((20:Int)==21)=false by decide,Zbn,Zb5,Zbp,Zbx,Zb1,Zch,geti0,get0];have q:=Zar (w:=w.toNat) (by omega) (by omega) hx (by omega) (by omega);rw[OQ hA.1,hwn]at q;rw[q];unfold finB;simp only[Zb9,ZbQ,show¬((20:Int)=1) by decide,show¬((20:Int)=2) by decide,show¬((20:Int)=17) by decide,show¬((20:Int)=18) by decide,show¬((20:Int)=19) by decide,Zbx,Zb5,hx];exact⟨rfl,by rw[Zbw,ZbV,hx];omega⟩
  ·simp only[show(decide ((21:Int)>=1)&&decide ((21:Int)<=2))=false by decide,show(decide ((21:Int)>=3)&&decide ((21:Int)<=16))=false by decide,show((21:Int)==17)=false by decide,show((21:Int)==18)=false by decide,show((21:Int)==19)=false by decide,ZcY,Zbn,Zb5,Zbp,Zbx,Zb1,Zch,geti0,get0];have q:=FZ (w:=w.toNat) (by omega) (by omega) hx (by omega) (by omega);rw[OQ hA.1,hwn]at q;rw[q];unfold finB;simp only[Zb9,ZbQ,show¬((21:Int)=1) by decide,show¬((21:Int)=2) by decide,show¬((21:Int)=17) by decide,show¬((21:Int)=18) by decide,show¬((21:Int)=19) by decide,show¬((21:Int)=20) by decide,Zbx,Zb5,hx];exact⟨rfl,by rw[Zbw,ZbV,hx];omega⟩
theorem LC(vs:List D.Value)(E:List Bool):∀l:List D.Term,tBs vs E l=l.map (tB vs E)
 |[]=>by rw[Gz];rfl
 |t::l=>by rw[KR,LC vs E l];rfl
theorem Ag{t x:D.Term}(h22:t.Op≠22)(hx:x∈t.Kids):∀p∈vrs x,p∈vrs t:=λp hp=>by
 rw[Vs,Zbv h22];have:∀l:List D.Term,x∈l->p∈vrss l:=λl=>by
  induction l with
  |nil=>intro h;cases h
  |cons y l ih=>
   intro hy;rw[WE,Zb7];rcases ZbN.1 hy with rfl|hy
   ·exact .inl hp
   ·exact .inr (ih hy)
 exact this _ hx
theorem Ga{vs l:List D.Value}{E:List Bool}(hl:l.length<=30):∀(d:Nat)(t:D.Term),cnt t<=d->nodeB t=true->(∀p∈vrs t,EV vs l E p)->∀n:Nat,d+1048590<=n->Y4 n t l=some ((vB (tB vs E t):Int),true)/\(tB vs E t).length=t.W.toNat:=by
 intro d
 induction d with
 |zero=>intro t h;have:=X8 t;omega
 | succ d ih=>
  intro t hc hb hv n hn;obtain⟨n,rfl⟩:∃j,n=j+1:=⟨n-1,by omega⟩;have hcn:=X8 t;have hW:=ZY hb;rw[Y4,Zal];by_cases o0:t.Op=0
  ·have c0:(t.Op==0)=true:=by simpa using o0
   rw[Zbq c0,Zbq o0];refine⟨?_,by simp⟩;have hword:wordB t.W t.N=true:=by
    obtain⟨op,w,m,nm,ks⟩:=t;obtain⟨-,hsh⟩:=Y6 hb;simp only at o0;rcases hsh with⟨-,-,-,h⟩|⟨h,-⟩|⟨h,-⟩|⟨h,-⟩|⟨h,-⟩|⟨h,-⟩|⟨h,-⟩|⟨h,-⟩
    ·exact h
    all_goals omega
   have hb2:=(KX hW.1 hW.2 t.N).1 hword;rw[Oy (by omega) hb2.1 hb2.2]
  ·have c0:(t.Op==0)=false:=by simpa using o0
   rw[Zbv (by rw[c0];decide),Zbv o0];by_cases o22:t.Op=22
   ·have c22:(t.Op==22)=true:=by simpa using o22
    rw[Zbq c22,Zbq o22];obtain⟨x,x1,x2,x3,x4,x5⟩:=hv (t.Name,t.W) (by rw[Vs,Zbq o22];simp);simp only at x1 x2 x5;refine⟨?_,by simp[Ni]⟩;rcases FL (n:=n) (v:=l) (s:=t.Name) (by omega) (by omega)with⟨f1,-⟩|⟨k,y,f1,f2,f3⟩
    ·rw[x1]at f1;cases f1
    ·rw[x1,Option.some.injEq]at f1;subst f1;rw[f3];have hd:decide ((k:Int)<0)=false:=decide_eq_false (by omega);have hne:(x.W !=t.W)=false:=by rw[x2];simp
     simp only[Zbn,hd,Zbp,Zbx,get?_nat,f2,ZbL,hne];rw[x5,<-x2,Oy (by omega) x3 x4]
   ·have c22:(t.Op==22)=false:=by simpa using o22
    rw[Zbv (by rw[c22];decide),Zbv o22];have hwk:=λ(x:D.Term)(hx:x∈t.Kids)=>ih x (by have:=XT hx;omega) (nodeK hb x hx) (λp hp=>hv p (Ag o22 hx p hp)) n (by omega);have hkl:t.Kids.length<=3:=by
     obtain⟨op,w,m,nm,ks⟩:=t;obtain⟨-,hsh⟩:=Y6 hb;rcases hsh with⟨-,rfl,-⟩|⟨-,rfl,-⟩|⟨-,-,-,a,rfl,-⟩|⟨-,-,-,-,a,b,rfl,-⟩|⟨-,-,-,a,b,c,rfl,-⟩|⟨-,-,-,a,b,rfl,-⟩|⟨-,-,-,-,a,rfl,-⟩|⟨-,-,-,a,rfl,-⟩<;>simp
    have hek:=Fb (ks:=t.Kids) (f:=λx=>Y4 n x l) (g:=λx=>((vB (tB vs E x):Int),true)) (n:=n) (λx hx=>(hwk x hx).1) (by omega) (by omega);rw[hek,ifp];simp only[Zbn]
    have q:=Di (bs:=tBs vs E t.Kids) hb o0 o22 (by
     rw[LC,Zc2]
     exact Zcz λx hx=>(hwk x hx).2)
    have e:(t.Kids.map λx=>((λx=>((vB (tB vs E x):Int),true)) x).1)=(tBs vs E t.Kids).map λb=>(vB b:Int):=by rw[LC,Zc2];rfl
    rw[e,q.1];exact⟨rfl,q.2⟩
instance:FU fuel:=⟨by unfold fuel;omega⟩
theorem KI:∀{l g g':List (Str×Int)},runV g l=some g'->∀p:Str×Int,g'.lookup p.1=some p.2->g.lookup p.1=some p.2\/p∈l
 |[],g,g',h,p,hp=>by simp only[runV,Option.some.injEq]at h;subst h;exact .inl hp
 | v ::l,g,g',h,p,hp=>by
  simp only[runV,ZbG]at h;obtain⟨g1,h1,h2⟩:=h;rcases KI h2 p hp with h3|h3
  ·unfold stp at h1;split at h1
   ·split at h1
    ·cases h1;exact .inl h3
    ·cases h1
   ·cases h1;obtain⟨s,w⟩:=p;obtain⟨s',w'⟩:=v;simp only[List.lookup]at h3;split at h3
    ·rename_i e;have e:s=s':=by simpa using e
     cases h3;exact .inr (by rw[e];simp)
    ·exact .inl h3
  ·exact .inr (Zca _ h3)
def zv(v:D.Value):D.Value:=⟨v.Name,v.W,0⟩
structure VL(t:D.Term)(L:List D.Value):Prop where
 eq:L.map zv=vtab (vrs t).reverse
 nm:L.Pairwise λx y=>x.Name≠y.Name
 mem:∀v∈L,(v.Name,v.W)∈vrs t
 all:TV L t
def Za4{a b:Str}(h:Str.ltb a b=true):a≠b:=λe=>by
 subst e;have:=Tp a;rw[this]at h;cases h
theorem JG{t:D.Term}(h:termB t=true)(hs:msz t<=1048576):∃L,ZP fuel t=some L/\VL t L:=by
 have hb:=h;unfold termB at hb;simp only[Zbt,Zb8]at hb;obtain⟨⟨hc,hn⟩,hr⟩:=hb;have hv:=OO t;obtain⟨l',b,e,hT,hF⟩:=NG fuel t [] [] hs ⟨List.Pairwise.nil,rfl,λv hv=>(by cases hv),λs w h=>(by simp at h)⟩ (by simp;omega) (by unfold fuel;omega);cases b with
 |false=>rw[hF rfl]at hr;cases hr
 | true=>
  obtain⟨g',hg,hR⟩:=hT rfl;obtain⟨r1,r2,r3,r4⟩:=hR;have hlk:=(Mm hg).2;have hmem:∀s w,g'.lookup s=some w->(s,w)∈vrs t:=λs w h=>by
   rcases KI hg (s,w) h with h|h
   ·simp at h
   ·exact h
  have hrev:∀s w,(vrs t).reverse.lookup s=some w↔g'.lookup s=some w:=λs w=>by
   constructor
   ·intro h;exact hlk (s,w) (Ze4.1 (OL h))
   ·intro h;obtain⟨z,hz⟩:=NU (Ze4.2 (hmem s w h));have:=hlk (s,z) (Ze4.1 (OL hz));rw[h]at this;rw[hz,Option.some.inj this]
  refine⟨l',?_,?_,?_,?_,?_⟩
  ·unfold ZP;rw[XX hs,h];simp only[Zbn,Zb4,Zbp,Zbx];rw[e];rfl
  ·refine De (Zew.2 r1) (Sg _) λv=> ?_;rw[Sr,ZcB];constructor
   ·rintro⟨x,hx,rfl⟩;exact⟨(hrev _ _).2 (r3 x hx),rfl⟩
   ·rintro⟨h1,h2⟩;have h1':=(hrev _ _).1 h1;obtain⟨x,hx,hxn⟩:=r4 _ _ h1';have:=r3 x hx;rw[hxn,h1']at this;refine⟨x,hx,?_⟩;cases v;simp only[zv]at*;rw[hxn,<-Option.some.inj this,h2]
  ·exact r1.imp λh=>Za4 h
  ·exact λv hv=>hmem _ _ (r3 v hv)
  ·intro p hp;have:=hlk p hp;obtain⟨x,hx,hxn⟩:=r4 _ _ this;have h2:=r3 x hx;rw[hxn,this]at h2;exact⟨x,hx,hxn,(Option.some.inj h2).symm⟩
def bitsV(l:List D.Value)(a:Int):Int:=(l.map (·.W)).foldl (· + ·) a
def Tk(v:D.Value)(l:List D.Value)(a:Int):bitsV (v::l) a=bitsV l (a+v.W):=rfl
def Mv{L:List D.Value}(hl:L.length<=1000)(hw:∀v∈L,1<=v.W/\v.W<=16):XL fuel L=some (bitsV L 0):=by
  unfold XL;obtain⟨r,g1,g2⟩:=Yn (l:=L) (n:=fuel) (Z:=Int) (ρ:=Int) (B:=λ(s1:Int×Int)=>if(decide (s1.2<(len L)))then(get? L s1.2).bind λx1=>some (.inl ((w64 (s1.1+x1.W)),(w64 (s1.2+1))))else some (.inr (s1.1))) (λk a=>(a,(k:Int))) (λys a=>bitsV ys a=bitsV L 0/\0<=a/\a<=16*(L.length-ys.length:Int)/\∀y∈ys,y∈L) (λr=>r=bitsV L 0)
    (λk x xs a hk hx hlen⟨h1,h2,h3,h4⟩=>by
      have hd:decide ((k:Int)<len L)=true:=by rw[Za];simp;omega
      have hxw:=hw x (h4 x (by simp));simp only[Zb6]at hlen h3;simp only[hd,Zb5,get?_nat,hx,Zbn]
      exact .inl ⟨a+x.W,by rw[Zb,Zb];rfl,h1,by omega,by omega,λy hy=>h4 y (by simp[hy])⟩)
    (λa⟨h1,_⟩=>by
      have hd:decide ((L.length:Int)<len L)=false:=by rw[Za];simp
      simp only[hd,Zbp,Zbx]
      exact⟨_,rfl,h1⟩) (a:=0) ⟨rfl,by omega,by omega,λy h=>h⟩ lt_fuel
  rw[show((0:Nat):Int)=0 from rfl]at g1;rw[g1,g2];rfl
def Eg{a:Int}{w:Nat}(hw:w<=16)(h0:0<=a)(h1:a<=100000):iterN (λ(s2:Int×Int×(List Int))=>if(decide (s2.2.1>=0))then(set? s2.2.2 s2.2.1 (w64 (2+s2.1))).bind λx6=>some (.inl ((w64 (s2.1+1)),(w64 (s2.2.1-1)),x6))else some (.inr (s2.1,s2.2.2))) fuel (a,(w:Int)-1,List.replicate w 0)=some (a+w,(List.range w).map λk:Nat=>1+a+(w:Int)-(k:Int)):=by
  rw[YE (I:=λk t=>t=(a+(k:Int),(w:Int)-1-(k:Int),List.replicate (w-k) 0++(List.range k).map λi:Nat=>1+a+(k:Int)-(i:Int))) (m:=w) (r:=(a+(w:Int),(List.range w).map λk:Nat=>1+a+(w:Int)-(k:Int))) (λk t hk ht=>?_) (λt ht=>?_) w 0 _ (by omega) (by simp) fuel lt_fuel]
  all_goals subst ht
  · refine⟨_, ?_,rfl⟩
    simp only;rw[Zbq (by simp;omega),show(w:Int)-1-(k:Int)=((w-1-k:Nat):Int) by omega,set?_nat (by simp;omega),Zb (x:=2+(a+(k:Int))) (by omega) (by omega)];simp only[Zbn];rw[Zb,Zb];have e:(List.replicate (w-k) (0:Int)++(List.range k).map λi:Nat=>1+a+(k:Int)-(i:Int)).set (w-1-k) (2+(a+(k:Int)))=List.replicate (w-(k+1)) 0++(List.range (k+1)).map λi:Nat=>1+a+((k+1:Nat):Int)-(i:Int):=by
      rw[List.set_append_left _ _ (by simp;omega),show w-k=(w-(k+1))+1 by omega,ZdV,ZcD _ _ (by simp;omega),ZbV,show w-1-k-(w-(k+1))=0 by omega,ZcX,ZbI,Zcp,List.range_succ_eq_map,Zb1,Zc2];congr 2
      · omega
      · apply Zcz
        intro i _;simp only[Function.comp];omega
    rw[e];simp only[Option.some.injEq,Sum.inl.injEq,Prod.mk.injEq];exact⟨by omega,by omega,trivial⟩
  · simp only
    rw[Zbv (by simp;omega),ZcG];rfl
theorem Gr{x:D.Value}{ys:List D.Value}:∀{pre:List D.Value}{a:Int},(∀v∈pre,v.Name≠x.Name)->atV (pre++x::ys) a x.Name=bitsV pre a+x.W
 |[],a,_=>by
  show(if Str.eqb x.Name x.Name=true then a+x.W else _)=_;rw[Zbq (OA _)];rfl
 |v::pre,a,h=>by
  show(if Str.eqb v.Name x.Name=true then a+v.W else atV (pre++x::ys) (a+v.W) x.Name)=_;rw[Zbv (by rw[Tm];simpa using h v (by simp))];exact Gr λu hu=>h u (by simp[hu])
def CP{L:List D.Value}(hl:L.length<=1000)(hw:∀v∈L,1<=v.W/\v.W<=16)(hn:∀v∈L,v.Name.bytes.length<=1000)(hp:L.Pairwise λx y=>x.Name≠y.Name):∃mp,iterN (λ(s1:Int×Int×(List (Str×List Int)))=>if (decide (s1.2.1<(len (L.map zv))))then(get? (L.map zv) s1.2.1).bind λx4=>(mk? x4.W (0:Int)).bind λx5=>(iterN (λ(s2:Int×Int×(List Int))=>if(decide (s2.2.1>=0))then(set? s2.2.2 s2.2.1 (w64 (2+s2.1))).bind λx6=>some (.inl ((w64 (s2.1+1)),(w64 (s2.2.1-1)),x6))else some (.inr (s2.1,s2.2.2))) fuel (s1.1,(w64 (x4.W-1)),x5)).bind λ(rl2:Int×(List Int))=>(mput? fitS s1.2.2 x4.Name rl2.2).bind λx7=>some (.inl (rl2.1,(w64 (s1.2.1+1)),x7))else some (.inr (s1.1,s1.2.2))) fuel (0,0,([]:List (Str×List Int)))=some (bitsV L 0,mp)/\MapOk L mp:=by
  obtain ⟨r,g1,mp,rfl,g2⟩:=Yn (l:=L) (n:=fuel) (Z:=Int×List (Str×List Int)) (ρ:=Int×List (Str×List Int)) (B:=λ(s1:Int×Int×(List (Str×List Int)))=>if (decide (s1.2.1<(len (L.map zv))))then(get? (L.map zv) s1.2.1).bind λx4=>(mk? x4.W (0:Int)).bind λx5=>(iterN (λ(s2:Int×Int×(List Int))=>if(decide (s2.2.1>=0))then(set? s2.2.2 s2.2.1 (w64 (2+s2.1))).bind λx6=>some (.inl ((w64 (s2.1+1)),(w64 (s2.2.1-1)),x6))else some (.inr (s2.1,s2.2.2))) fuel (s1.1,(w64 (x4.W-1)),x5)).bind λ(rl2:Int×(List Int))=>(mput? fitS s1.2.2 x4.Name rl2.2).bind λx7=>some (.inl (rl2.1,(w64 (s1.2.1+1)),x7))else some (.inr (s1.1,s1.2.2))) (λk a=>(a.1,(k:Int),a.2))
    (λys a=>∃pre,pre++ys=L/\a.1=bitsV pre 0/\0<=a.1/\a.1<=16*pre.length/\a.2.length=pre.length/\∀v∈pre,a.2.lookup v.Name=some (varL L v.Name v.W.toNat))
    (λr=>∃mp,r=(bitsV L 0,mp)/\MapOk L mp)
    (λk x xs a hk hx hlen⟨pre,h1,h2,h3,h4,h5,h6⟩=>by
      have hxL:x∈L:=by rw[<-h1];simp
      have hxw:=hw x hxL;have hpl:pre.length<=L.length:=by rw[<-h1];simp
      have hd:decide ((k:Int)<len (L.map zv))=true:=by rw[Za];simp;omega
      have eW:((x.W.toNat:Nat):Int)=x.W:=by omega
      have hz:(L.map zv)[k]? =some (zv x):=by rw[ZbO,hx];rfl
      have hne:∀v∈pre,v.Name≠x.Name:=λv hv=>by
        rw[<-h1]at hp;exact(Zdr.1 hp).2.2 v hv x (by simp)
      have hat:atV L 1 x.Name=1+a.1+x.W:=by
        rw[<-h1,Gr hne,h2];have:=Rc (pre.map (·.W)) 1 0;unfold bitsV;rw[show(1:Int)+0=1 from rfl]at this;rw[this]
      simp only[hd,Zb5,get?_nat,hz,Zbn];rw[show(zv x).W=x.W from rfl,show(zv x).Name=x.Name from rfl,show mk? x.W (0:Int)=some (List.replicate x.W.toNat 0)from by unfold mk?;rw[Zbq ⟨by omega,by unfold room;omega⟩]];simp only[Zbn];rw[Zb (x:=x.W-1)];have:=Eg (a:=a.1) (w:=x.W.toNat) (by omega) h3 (by omega);rw[eW]at this;rw[this];simp only[Zbn]
      rw[show mput? fitS a.2 x.Name ((List.range x.W.toNat).map λk:Nat=>1+a.1+x.W-(k:Int))=some ((x.Name,varL L x.Name x.W.toNat)::a.2)from by
        unfold mput?;rw[Zbq ⟨by have:=hn x hxL;unfold fitS;simp;omega,by unfold room;omega⟩]
        unfold varL;rw[hat]]
      simp only[Zbn];rw[Zb];refine .inl ⟨(a.1+x.W,(x.Name,varL L x.Name x.W.toNat)::a.2),rfl,pre++[x],by rw[ZbI];exact h1,?_,by show 0<=a.1+x.W;omega,by simp;omega,by simp[h5],λv hv=>?_⟩
      · show a.1+x.W=bitsV (pre++[x]) 0
        unfold bitsV;rw[Zce,ZbU,h2];rfl
      · rcases Zb7.1 hv with hv|hv
        · have hn:=hne v hv
          rw[Zcc,show(v.Name==x.Name)=false by simpa using hn];exact h6 v hv
        · rw[Zb3]at hv
          subst hv
          rw[Zcc];simp)
    (λa⟨pre,h1,h2,h3,h4,h5,h6⟩=>by
      have hd:decide ((L.length:Int)<len (L.map zv))=false:=by rw[Za];simp
      simp only[hd,Zbp,Zbx];rw[Zcg]at h1;subst h1
      exact⟨_,rfl,a.2,by rw[h2],λv hv=>⟨hn v hv,by rw[h6 v hv];rfl⟩⟩) (a:=(0,[])) ⟨[],rfl,rfl,by omega,by simp,rfl,λv hv=>by cases hv⟩ lt_fuel
  rw[show((0:Nat):Int)=0 from rfl]at g1;exact⟨mp,g1,g2⟩
theorem ZaN:∀n:Nat,(∀t:D.Term,cnt t<n->nodeB t=true->∀p∈vrs t,1<=p.2/\p.2<=16/\p.1.bytes.length<=8):=by
 intro n
 induction n with
 |zero=>omega
 | succ n ih=>
  intro t h hb p hp;have hc:=X8 t;rw[Vs]at hp;by_cases h22:t.Op=22
  ·simp_all[Zbq,Zb3,ZY,Ot]
  ·rw[Zbv h22]at hp;have:∀l:List D.Term,(∀x∈l,x∈t.Kids)->p∈vrss l->∃x∈t.Kids,p∈vrs x:=λl=>by
    induction l with
    |nil=>simp[UJ]
    |cons y l ihl=>
     grind[WE]
   obtain⟨x,hx,hpx⟩:=this t.Kids (λ_ h=>h) hp;exact ih x (by have:=XT hx;omega) (nodeK hb x hx) p hpx
def c0:D.Circuit:=⟨0,[]⟩
def circT(t:D.Term):D.Circuit×List Int×Bool:=
 if termB t=true then
  let L:=(ZP fuel t).getD []
  let r:=nP L t (⟨bitsV L 0,[]⟩,false)
  if bitsV L 0>30\/r.2.2=true then(c0,[],false)else(r.2.1,r.1,true)
 else(c0,[],false)
def Sl{b:Int}(h0:0<=b)(h1:b<=30):CircP ⟨b,[]⟩:=⟨h0,h1,by simp,λk g hg=>by simp at hg⟩
section
variable{t:D.Term}(h:termB t=true)(hs:msz t<=1048576)
include h hs
theorem Uk:∃L,ZP fuel t=some L/\VL t L/\nodeB t=true/\cnt t<=240/\(∀v∈L,1<=v.W/\v.W<=16)/\(∀v∈L,v.Name.bytes.length<=1000)/\L.length<=1000/\0<=bitsV L 0:=by
 obtain⟨L,e,hL⟩:=JG h hs;have hb:=h;unfold termB at hb;simp only[Zbt,Zb8]at hb;obtain⟨⟨hc,hn⟩,-⟩:=hb;have hw:∀v∈L,1<=v.W/\v.W<=16/\v.Name.bytes.length<=8:=λv hv=>ZaN _ t (Nat.lt_succ_self _) hn _ (hL.mem v hv);have hlen:L.length<=1000:=by
  have h1:=congrArg List.length hL.eq;grind[List.length_map,Qc,vrs,List.length_reverse,OO]
 have hb0:=MR (l:=L) (a:=0) λv hv=>(hw v hv).1;grind[bitsV]
end
def Ij{t:D.Term}(hs:msz t<=1048576):XF fuel t=some (circT t):=by
 unfold XF circT;by_cases h:termB t=true
 ·obtain⟨L,e,hL,hn,hc,hw,hnm,hlen,hb0⟩:=Uk h hs;rw[e,XX hs,h];simp only[Zbn,Zb4,Zbp,Zbx,ZbL,Zb5,ZbY];rw[Mv hlen hw];simp only[Zbn];by_cases hb:bitsV L 0>30
  ·rw[Zbq (by simp_all),Zbq (.inl hb)];rfl
  ·rw[Zbv (by simp_all)];have hC:=Sl hb0 (by omega);rw[Cc.spec_new hC];simp only[Zbn];have hv:VF L (⟨bitsV L 0,[]⟩:D.Circuit):=⟨λv hv=>(hw v hv).1,rfl⟩;rw[Ba hL.nm (λv hv=>(hw v hv).2) fuel t (⟨bitsV L 0,[]⟩,false) (by grind[fuel]) hn hL.all hC hv];simp only[Zbn];have g:=UC hL.nm _ t (⟨bitsV L 0,[]⟩,false) (Zb0 _) hn hL.all hC hv;generalize nP L t (⟨bitsV L 0,[]⟩,false)=r at g⊢;have hw16:=ZY hn;have hl:=g.len;cases hf:r.2.2
   ·grind[TG]
   ·rw[Zbq rfl,Zbq (.inr rfl)];rfl
 ·have h':termB t=false:=by simpa using h
  have e:ZP fuel t=some []:=by
   simp_all[ZP,XX]
  rw[e,XX hs,h',ifn];rfl
def JJ{t:D.Term}(hs:msz t<=1048576):XB fuel t=some (circT t):=by
 unfold XB circT;rw[UN hs];simp only[Zbn];by_cases h:termB t=true
 ·obtain⟨L,e,hL,hn,hc,hw,hnm,hlen,hb0⟩:=Uk h hs;rw[h];simp only[Zb4,Zbp,Zbx,ZbL,Zb5];rw[Ex fuel t (by grind[fuel]) hn];simp only[Zbn,e,ZbY];have hv:VF L (⟨bitsV L 0,[]⟩:D.Circuit):=⟨λv hv=>(hw v hv).1,rfl⟩;cases hwd:wideB t
  ·simp only[Zbp,Zbx];rw[ND h hs,<-hL.eq];simp only[Zbn];obtain⟨mp,hl1,hmp⟩:=CP hlen hw hnm hL.nm;rw[hl1];simp only[Zbn];by_cases hb:bitsV L 0>30
   ·rw[Zbq (by simp_all),Zbq (.inl hb)];rfl
   ·rw[Zbv (by simp_all)];have hC:=Sl hb0 (by omega);obtain⟨m0,e0,r0⟩:=Cc.impl_new (fuel:=fuel) hC;rw[e0];simp only[Zbn];obtain⟨m1,e1,r1⟩:=Dx hL.nm hmp fuel t (⟨bitsV L 0,[]⟩,false) m0 (by grind[fuel]) hn hwd hL.all hC hv r0;rw[e1];simp only[Zbn];have g:=UC hL.nm _ t (⟨bitsV L 0,[]⟩,false) (Zb0 _) hn hL.all hC hv;generalize nP L t (⟨bitsV L 0,[]⟩,false)=r at g r1⊢;have hw16:=ZY hn;have hl:=g.len;rw[r1.full];cases hf:r.2.2
    ·rw[ifn,Zbv (by simp_all)];rw[show Ze r.1=some r.1 from by grind[Ze,TG]];simp only[Zbn];rw[r1.c]
    ·rw[Zbq rfl,Zbq (.inr rfl)];rfl
  ·simp only[Zb5];by_cases hb:bitsV L 0>30
   ·rw[Zbq (.inl hb)];rfl
   ·have hC:=Sl hb0 (by omega);rw[Zbq (.inr (FQ hL.nm _ t (⟨bitsV L 0,[]⟩,false) (Zb0 _) hn hwd hL.all hC hv))];rfl
 ·have h':termB t=false:=by simpa using h
  rw[h'];rfl
end Go.Proofs.YtikabgjjcifidaaGreat
end
section
namespace Go.Proofs.YtikabgjjcifidaaGreat.Cc
open Go.GL
variable{fuel:Nat}[FU fuel]
def j0:w64 0=0:=by decide
def j1:w64 1=1:=by decide
def j2:w64 2=2:=by decide
def j3:w64 3=3:=by decide
def cmpv{x y:Int}(hx:litN 391 x=true)(hy:litN 391 y=true)(h:iab x<iab y):YC x y=some (-1):=by
 unfold YC;obtain⟨fx,fx'⟩:=Xj hx (ZbW _);obtain⟨fy,fy'⟩:=Xj hy (ZbW _);simp_all[YY,Xl,XA]
def cmpv'{x y:Int}(hx:litN 391 x=true)(hy:litN 391 y=true)(h:iab y<iab x):YC x y=some 1:=by
 unfold YC;obtain⟨fx,fx'⟩:=Xj hx (ZbW _);obtain⟨fy,fy'⟩:=Xj hy (ZbW _);grind[YY,iab,Xl,XA]
def insC2(n:Nat){x y:Int}(hx:litN 391 x=true)(hy:litN 391 y=true)(h:iab y<iab x):Zj (n+6) [x,y] 0 2=some [y,x]:=by
 simp_all[Zj,cmpv,iterN,get?,set?,j0,j1,j2]
def insC3(n:Nat){x y z:Int}(hx:litN 391 x=true)(hy:litN 391 y=true)(hz:litN 391 z=true)(h:iab y<iab z)(h2:iab z<iab x):Zj (n+6) [x,y,z] 0 3=some [y,z,x]:=by
 unfold Zj;have e1:=cmpv hy hx (by omega);have e2:=cmpv hz hx h2;simp_all[cmpv',iterN,get?,set?,j0,j1,j2,j3]
theorem sortC2(n:Nat){x y:Int}(hx:litN 391 x=true)(hy:litN 391 y=true)(h:iab y<iab x):Zh (n+6) [x,y]=some [y,x]:=by
 unfold Zh;have hl:len [x,y]=2:=rfl;have hb:WH (IntKind.u64.wrap 2)=some 2:=by decide
 simp_all[Zbn,Zy,iterN,insC2,j2]
theorem sortC3(n:Nat){x y z:Int}(hx:litN 391 x=true)(hy:litN 391 y=true)(hz:litN 391 z=true)(h:iab y<iab z)(h2:iab z<iab x):Zh (n+6) [x,y,z]=some [y,z,x]:=by
 unfold Zh;have hl:len [x,y,z]=3:=rfl;have hb:WH (IntKind.u64.wrap 3)=some 2:=by decide
 simp_all[Zbn,Zy,iterN,insC3,j3]
def QL{x y:Int}(h:iab x<iab y):¬x=y/\¬y=x/\¬y=-x/\¬x=-y:=by
 grind[iab]
theorem compC2(n:Nat){x y:Int}(h:iab y<iab x):Z8 (n+6) [y,x]=some [y,x]:=by
 unfold Z8;have hl:len [y,x]=2:=rfl;simp_all[QL,iterN,get?,j1,j2,j0]
theorem compC3(n:Nat){x y z:Int}(h:iab y<iab z)(h2:iab z<iab x):Z8 (n+6) [y,z,x]=some [y,z,x]:=by
 unfold Z8;have hl:len [y,z,x]=3:=rfl;simp_all[QL,iterN,get?,j1,j2,j0,j3]
def lit400{x:Int}(h:litN 391 x=true):litN 400 x=true:=litN_mono h (by decide)
theorem clauseOk2{x y:Int}(hx:litN 391 x=true)(hy:litN 391 y=true)(h:iab y<iab x):X3 fuel [y,x] 400=some true:=by
 unfold X3;rw[SS (by decide) (by decide) (by simp)];obtain⟨fx,fx'⟩:=Xj hx (ZbW _);obtain⟨fy,fy'⟩:=Xj hy (ZbW _);have v1:=YY fx fx';have v2:=YY fy fy';have ha:[y,x].all (litN 400)=true:=by simp_all[lit400]
 have hl:len [y,x]=2:=rfl;obtain⟨n,hf⟩:∃n,fuel=n+6:=⟨fuel-6,by have:=FU.le (n:=fuel);omega⟩;have hn:¬iab x<=iab y:=by omega
 rw[ha,hl,hf];simp[iterN,get?,v1,v2,hn,j0,j1,j2]
theorem clauseOk3{x y z:Int}(hx:litN 391 x=true)(hy:litN 391 y=true)(hz:litN 391 z=true)(h:iab y<iab z)(h2:iab z<iab x):X3 fuel [y,z,x] 400=some true:=by
 unfold X3;rw[SS (by decide) (by decide) (by simp)];obtain⟨fx,fx'⟩:=Xj hx (ZbW _);obtain⟨fy,fy'⟩:=Xj hy (ZbW _);obtain⟨fz,fz'⟩:=Xj hz (ZbW _);have v1:=YY fx fx';have v2:=YY fy fy';have v3:=YY fz fz';have ha:[y,z,x].all (litN 400)=true:=by simp_all[lit400]
 have hl:len [y,z,x]=3:=rfl;obtain⟨n,hf⟩:∃n,fuel=n+6:=⟨fuel-6,by have:=FU.le (n:=fuel);omega⟩;have hn:¬iab z<=iab y:=by omega
 have hn2:¬iab x<=iab z:=by omega
 rw[ha,hl,hf];simp[iterN,get?,v1,v2,v3,hn,hn2,j0,j1,j2,j3]
def mkI2(n:Nat)[FU (n+6)]{x y:Int}(hx:litN 391 x=true)(hy:litN 391 y=true)(h:iab y<iab x):Yj (n+6) [x,y]=some ([y,x],true):=by
 unfold Yj;have ha:[x,y].all (litN 400)=true:=by simp_all[lit400]
 have hc:Ze [x,y]=some [x,y]:=rfl;rw[SS (by decide) (by decide) (by simp),ha,hc];grind[Zh,sortC2,Z8,compC2,clauseOk2]
def mkI3(n:Nat)[FU (n+6)]{x y z:Int}(hx:litN 391 x=true)(hy:litN 391 y=true)(hz:litN 391 z=true)(h:iab y<iab z)(h2:iab z<iab x):Yj (n+6) [x,y,z]=some ([y,z,x],true):=by
 unfold Yj;have ha:[x,y,z].all (litN 400)=true:=by simp_all[lit400]
 have hc:Ze [x,y,z]=some [x,y,z]:=rfl;rw[SS (by decide) (by decide) (by simp),ha,hc];grind[Zh,sortC3,Z8,compC3,clauseOk3]
def in400{x:Int}(h:litN 391 x=true):Zf x (-400) 400=some true/\¬x=0:=by
 rw[litN_iff]at h;unfold iab at h;unfold Zf;split at h<;>(grind)
def mkS2(n:Nat){x y:Int}(hx:litN 391 x=true)(hy:litN 391 y=true)(h:iab y<iab x):ZZ (n+6) [x,y]=some ([y,x],true):=by
 unfold ZZ;obtain⟨fx,fx'⟩:=Xj hx (ZbW _);obtain⟨fy,fy'⟩:=Xj hy (ZbW _);have v1:=YX fx fx';have v2:=YX fy fy';obtain⟨i1,m1⟩:=in400 hx;obtain⟨i2,m2⟩:=in400 hy;have hn:¬iab x<iab y:=by omega
 have t1:=QL h;have w2:=Yl hy (ZbW _);have w1:=Yl hx (ZbW _);rw[Int.zero_sub]at w1 w2;simp[iterN,get?,cut?,vcut,app?,room,len,v1,v2,i1,i2,m1,m2,hn,t1,w1,w2,j0,j1,j2]
def mkS3(n:Nat){x y z:Int}(hx:litN 391 x=true)(hy:litN 391 y=true)(hz:litN 391 z=true)(h:iab y<iab z)(h2:iab z<iab x):ZZ (n+6) [x,y,z]=some ([y,z,x],true):=by
 unfold ZZ;obtain⟨fx,fx'⟩:=Xj hx (ZbW _);obtain⟨fy,fy'⟩:=Xj hy (ZbW _);obtain⟨fz,fz'⟩:=Xj hz (ZbW _);have v1:=YX fx fx';have v2:=YX fy fy';have v3:=YX fz fz';obtain⟨i1,m1⟩:=in400 hx;obtain⟨i2,m2⟩:=in400 hy;obtain⟨i3,m3⟩:=in400 hz;have hn:¬iab x<iab y:=by omega
 have hn2:¬iab x<iab z:=by omega
 have t1:=QL (show iab y<iab x by omega);have t2:=QL h2;have t3:=QL h;have w2:=Yl hy (ZbW _);have w1:=Yl hx (ZbW _);have w3:=Yl hz (ZbW _);rw[Int.zero_sub]at w1 w2 w3;simp[iterN,get?,cut?,vcut,app?,room,len,v1,v2,v3,i1,i2,i3,m1,m2,m3,h,hn,hn2,t1,t2,t3,w1,w2,w3,j0,j1,j2,j3]
def EL{n x:Int}:[x].all (litN n)=litN n x:=by simp
def inner3(n:Nat){MC:List Int->Option (List Int×Bool)}{l1 l2 l3 r1 r2 r3:List Int}(h1:MC l1=some (r1,true))(h2:MC l2=some (r2,true))(h3:MC l3=some (r3,true)){out:List (List Int)}(hl:out.length<=100000):
  iterN (λ(s2:Int×(List (List Int)))=>if(decide (s2.1<(len ([l1,l2,l3]:List (List Int)))))then(get? ([l1,l2,l3]:List (List Int)) s2.1).bind λx4=>(MC x4).bind λx5=>(app? s2.2 ([x5.1]:List (List Int))).bind λx6=>some (.inl ((w64 (s2.1+1)),x6))else some (.inr (s2.2))) (n+6) (0,out)=some (out++[r1,r2,r3]):=by
 have hc:len ([l1,l2,l3]:List (List Int))=3:=rfl;have ha:∀(l:List (List Int))(q:List Int),l.length<=100003->app? l [q]=some (l++[q]):=λl q h=>by unfold app?;rw[Zbq (by grind[room])]
 have a1:=ha out r1 (by omega);have a2:=ha (out++[r1]) r2 (by simp;omega);have a3:=ha (out++[r1]++[r2]) r3 (by simp;omega);simp_all[ZbI,Zcp,iterN,get?,j0,j1,j2,j3]
def stepF(c:D.Circuit)(i:Nat)(g:D.Gate):List (List Int):=[[g.A,-(c.Inputs+2+i)],[g.B,-(c.Inputs+2+i)],[-g.A,-g.B,c.Inputs+2+i]]
def accF(c:D.Circuit):Nat->List (List Int)
 |0=>[[1]]
 |k+1=>accF c k++stepF c k (c.Gates.getD k ⟨0,0⟩)
theorem accF_len(c:D.Circuit)(k:Nat):(accF c k).length=1+3*k:=by
 induction k with
 |zero=>rfl
 |succ k ih=>grind[accF,List.length_append,stepF,List.length_cons,List.length_nil]
structure GateOk(c:D.Circuit)(k:Nat)(g:D.Gate):Prop where
 a:litN 391 g.A=true
 b:litN 391 g.B=true
 na:litN 391 (-g.A)=true
 nb:litN 391 (-g.B)=true
 l:litN 391 (c.Inputs+2+k)=true
 nl:litN 391 (-(c.Inputs+2+k))=true
 ab:iab (-g.A)<iab (-g.B)
 bl:iab (-g.B)<iab (c.Inputs+2+k)
 al':iab g.A<iab (-(c.Inputs+2+k))
 bl':iab g.B<iab (-(c.Inputs+2+k))
def gate_ok{c:D.Circuit}(hc:CircP c){k:Nat}{g:D.Gate}(hg:c.Gates[k]? =some g):GateOk c k g:=by
 have h:=UT.1 (hc.gate k g hg);have hk:=(Zbu.1 hg).1;have hl:=hc.lines1;unfold lines at hl;have e1:iab (c.Inputs+2+k)=c.Inputs+2+k:=by grind[iab]
 have b2:iab g.B<=c.Inputs+1+k:=by grind[iab]
 refine⟨litN_iff.2 (by omega),litN_iff.2 (by omega),?_,?_,litN_iff.2 (by omega),?_,?_,?_,?_,?_⟩
 ·grind[ZA,litN_iff]
 ·grind[ZA,litN_iff]
 ·rw[ZA];grind[litN_iff]
 ·simp_all[iab_neg]
 ·grind[iab_neg]
 ·rw[iab_neg];omega
 ·rw[iab_neg];omega
def formP(c:D.Circuit)(lit:Int):D.Formula×Bool:=if circB2 c&&litN (lines c) lit then(⟨lines c,accF c c.Gates.length++[[lit]]⟩,true)else(⟨0,[]⟩,false)
def Uf{c:D.Circuit}{k:Nat}(hk:k<c.Gates.length):c.Gates[k]? =some (c.Gates.getD k ⟨0,0⟩):=by
 simp_all
theorem spec_FormulaOf_eq{c:D.Circuit}{lit:Int}(hc:VA c)(hg:c.Gates.length<=1048576):Wj fuel c lit=some (formP c lit):=by
 obtain⟨N,rfl⟩:∃n,fuel=n+6:=⟨fuel-6,by have:=FU.le (n:=fuel);omega⟩;unfold Wj formP;rw[Ed hc hg];cases h1:circB2 c with
 |false=>simp
 | true=>
  have hp:=circP_iff.1 h1;rw[Im hp (by simp)];simp only[Zb4,Zbp,Zbx,Zbn,ZbL,Zcn,EL];cases h2:litN (lines c) lit with
  |false=>simp
  | true=>
   have hi0:=hp.i0;have hi1:=hp.i1;have hl:=hp.len;rw[YE (I:=λk t=>t=((k:Int),accF c k)) (m:=c.Gates.length) (r:=accF c c.Gates.length) (λk t hk ht=>?_) (λt ht=>?_) c.Gates.length 0 (0,[[1]]) (by omega) rfl (N+6) lt_fuel]
   ·simp only[Zbn];have ha:app? (accF c c.Gates.length) [[lit]]=some (accF c c.Gates.length++[[lit]]):=by unfold app?;rw[Zbq (by grind[accF_len,room])]
    rw[ha];rw[Za,Zb (x:=c.Inputs+1),Zb];rfl
   all_goals subst ht
   ·refine⟨_, ?_,rfl⟩;have o:=gate_ok hp (Uf hk);simp only[accF];rw[Zbq (by simp_all[Za]),get?_nat,Uf hk];simp only[Zbn];generalize c.Gates.getD k ⟨0,0⟩=g at o⊢;rw[Zb (x:=c.Inputs+2),Zb (x:=c.Inputs+2+(k:Int)),Yl o.a (ZbW _),Yl o.b (ZbW _),Yl o.l (ZbW _)];have m1:ZZ (N+6) [-(c.Inputs+2+(k:Int)),g.A]=_:=mkS2 N o.nl o.a o.al';have m2:ZZ (N+6) [-(c.Inputs+2+(k:Int)),g.B]=_:=mkS2 N o.nl o.b o.bl';have m3:ZZ (N+6) [c.Inputs+2+(k:Int),-g.A,-g.B]=_:=mkS3 N o.l o.na o.nb o.ab o.bl;have q:=inner3 N (MC:=ZZ (N+6)) m1 m2 m3 (out:=accF c k) (by grind[accF_len]);have q':iterN _ (N+6) _=_:=q;rw[q'];rw[Zb];rfl
   simp[Zbv,Za]
theorem impl_FormulaOf_eq{c:D.Circuit}{lit:Int}(hc:VA c)(hg:c.Gates.length<=1048576):Wo fuel c lit=some (formP c lit):=by
 obtain⟨N,rfl⟩:∃n,fuel=n+6:=⟨fuel-6,by have:=FU.le (n:=fuel);omega⟩;unfold Wo formP;rw[FO hc hg];cases h1:circB2 c with
 |false=>simp
 | true=>
  have hp:=circP_iff.1 h1;have hl0:=hp.lines0;have hl1:=hp.lines1;simp only[Zb4,Zbp,Zbx,Iu hp,Zbn,ZbL,Zcn,Ro (x:=lit) (n:=lines c) (by omega) (by omega)];cases h2:litN (lines c) lit with
  |false=>simp
  | true=>
   have hi0:=hp.i0;have hi1:=hp.i1;have hl:=hp.len;rw[YE (I:=λk t=>t=((k:Int),accF c k)) (m:=c.Gates.length) (r:=accF c c.Gates.length) (λk t hk ht=>?_) (λt ht=>?_) c.Gates.length 0 (0,[[1]]) (by omega) rfl (N+6) lt_fuel]
   ·have ha:app? (accF c c.Gates.length) [[lit]]=some (accF c c.Gates.length++[[lit]]):=by unfold app?;rw[Zbq (by grind[accF_len,room])]
    simp_all
   all_goals subst ht
   ·refine⟨_, ?_,rfl⟩;have o:=gate_ok hp (Uf hk);simp only[accF];rw[Zbq (by simp_all[Za]),get?_nat,Uf hk];simp only[Zbn];generalize c.Gates.getD k ⟨0,0⟩=g at o⊢;rw[show w64 (2+c.Inputs)=c.Inputs+2 by grind[Zb],Zb (x:=c.Inputs+2+(k:Int)),Yl o.a (ZbW _),Yl o.b (ZbW _),Yl o.l (ZbW _)];have m1:Yj (N+6) [-(c.Inputs+2+(k:Int)),g.A]=_:=mkI2 N o.nl o.a o.al';have m2:Yj (N+6) [-(c.Inputs+2+(k:Int)),g.B]=_:=mkI2 N o.nl o.b o.bl';have m3:Yj (N+6) [c.Inputs+2+(k:Int),-g.A,-g.B]=_:=mkI3 N o.l o.na o.nb o.ab o.bl;have q:=inner3 N (MC:=Yj (N+6)) m1 m2 m3 (out:=accF c k) (by grind[accF_len]);have q':iterN _ (N+6) _=_:=q;rw[q'];rw[Zb];rfl
   simp[Zbv,Za]
def IncI(n:Int)(c:List Int):Prop:=(∀x∈c,litN n x=true)/\c.Pairwise λx y=>iab x<iab y
theorem CL{c:D.Circuit}:∀k,∀x∈accF c k,x=[1]\/∃i,i<k/\x∈stepF c i (c.Gates.getD i ⟨0,0⟩):=by
 intro k
 induction k with
 |zero=>intro x hx;exact .inl (Zb3.1 hx)
 |succ k ih=>
  intro x hx;rcases Zb7.1 hx with h|h
  all_goals grind
theorem inc1{n x:Int}(h:litN n x=true):IncI n [x]:=⟨λy hy=>by simp_all,by simp⟩
def form_inc{c:D.Circuit}(hc:CircP c){lit:Int}(hl:litN (lines c) lit=true):∀x∈accF c c.Gates.length++[[lit]],IncI (lines c) x/\x.length<=3:=by
 intro x hx;rcases Zb7.1 hx with hx|hx
 ·rcases CL _ x hx with rfl|⟨i,hi,h⟩
  ·grind[inc1,litN_iff,iab]
  ·have o:=gate_ok hc (Uf hi);have hb:=UT.1 (hc.gate i _ (Uf hi));have hlt:(c.Gates.take i).length=i:=by simp;omega
   rw[hlt]at hb;obtain⟨h1,h2,h3,h4,-⟩:=hb;have eN:lines c=c.Inputs+1+(c.Gates.length:Int):=rfl;have lt:∀y:Int,1<=iab y->iab y<=c.Inputs+2+(i:Int)->litN (lines c) y=true:=λy a b=>litN_iff.2 ⟨a,by omega⟩;have o1:=(litN_iff.1 o.a).1;have o2:=(litN_iff.1 o.b).1;have o3:=(litN_iff.1 o.l).1;have e1:iab (c.Inputs+2+(i:Int))=c.Inputs+2+(i:Int):=by grind[iab]
   have oa:=o.al';have ob:=o.bl';rw[iab_neg,e1]at oa ob;unfold stepF at h;simp only[ZbN,Zdl,or_false]at h;rcases h with rfl|rfl|rfl
   ·exact⟨⟨by simp only[ZbN,Zdl,or_false];rintro y (rfl|rfl);exact lt _ o1 (by omega);simp_all[iab_neg],by simp_all[iab_neg]⟩,by simp⟩
   ·exact⟨⟨by simp only[ZbN,Zdl,or_false];rintro y (rfl|rfl);exact lt _ o2 (by omega);simp_all[iab_neg],by simp_all[iab_neg]⟩,by simp⟩
   ·exact⟨⟨by all_goals grind[iab_neg],by simp_all[iab_neg]⟩,by simp⟩
 simp_all[Zb3,inc1]
def prv(c:List Int):Nat->Int
 |0=>0
 |k+1=>iab (c.getD k 0)
theorem Zap{n:Int}{c:List Int}(h:IncI n c){k:Nat}(hk:k<c.length):1<=iab c[k]/\iab c[k]<=n/\prv c k<iab c[k]:=by
 have h1:=litN_iff.1 (h.1 _ (ZbJ hk));refine⟨h1.1,h1.2,?_⟩;cases k with
 |zero=>show(0:Int)<_;omega
 |succ k=>
  show iab (c.getD k 0)<_;rw[Zbr,Zbo (by omega)];exact(ZcS.1 h.2) k (k+1) (by omega) hk (by omega)
def DU{n:Int}{c:List Int}(h0:0<=n)(h1:n<=400)(h:IncI n c)(hl:c.length<=1000):Ws fuel c n=some true:=by
 unfold Ws;rw[YE (I:=λk t=>t=(prv c k,(k:Int))) (m:=c.length) (r:=.inl ()) (λk t hk ht=>?_) (λt ht=>?_) c.length 0 (0,0) (by omega) rfl fuel lt_fuel]
 ·rfl
 all_goals subst ht
 ·obtain⟨a1,a2,a3⟩:=Zap h hk;have hb:-1000<=c[k]/\fitInt c[k]:=by grind[fitInt,iab]
  rw[Zbq (by simp_all[Za]),get?_nat,Zbo hk];simp only[Zbn];have hi:Zf c[k] (w64 (0-n)) n=some true:=by
   unfold Zf;rw[Zb];unfold iab at a2;split at a2<;>simp<;>omega
  rw[hi];simp only[Zbn,Zb4,Zbp,Zbx,ZbL,YX hb.2 hb.1];rw[Zbv (by simp;omega),Zb];simp_all[prv,Zbr,Zbo]
 simp[Zbv,Za]
section
variable{f:D.Formula}(h0:0<=f.Vars)(h1:f.Vars<=400)(hn:f.Clauses.length<=1600)(h:∀c∈f.Clauses,IncI f.Vars c/\c.length<=1000)
include h0 h1 hn h
theorem spec_fok:YU fuel f=some true:=by
 unfold YU;rw[show Zf f.Vars 0 400=some true by simp_all[Zf]];simp only[Zbn];rw[Zbv (by grind[Za])];rw[YE (I:=λk t=>t=(k:Int)) (m:=f.Clauses.length) (r:=.inl ()) (λk t hk ht=>?_) (λt ht=>?_) f.Clauses.length 0 0 (by omega) rfl fuel lt_fuel]
 ·rfl
 all_goals subst ht
 ·refine⟨((k+1:Nat):Int), ?_,rfl⟩;have hc:=h _ (ZbJ hk);rw[Zbq (by simp_all[Za]),get?_nat,Zbo hk];simp only[Zbn];rw[DU h0 h1 hc.1 hc.2];simp only[Zbn];rw[ifn,Zb];rfl
 simp[Zbv,Za]
end
end Go.Proofs.YtikabgjjcifidaaGreat.Cc
end
section
namespace Go.Proofs.YtikabgjjcifidaaGreat
open Go.GL
set_option maxRecDepth 100000
def itS{σt ρt:Type}{B:σt->Option (σt⊕ρt)}{s s':σt}{n:Nat}(h:B s=some (.inl s')):iterN B (n+1) s=iterN B n s':=by
 rw[iterN,h]
def itE{σt ρt:Type}{B:σt->Option (σt⊕ρt)}{s:σt}{r:ρt}{n:Nat}(h:B s=some (.inr r))(hn:0<n):iterN B n s=some r:=by
 obtain⟨n,rfl⟩:∃k,n=k+1:=⟨n-1,by omega⟩;rw[iterN,h]
def bit(b:Bool):Int:=if b then 1 else 0
def wrd(l:List Bool):Int:=l.foldl (λa b=>w64 (w64 (2*a)+bit b)) 0
def Cm(l:List Bool)(b:Bool):wrd (l++[b])=w64 (w64 (2*wrd l)+bit b):=by unfold wrd;rw[ZbU];rfl
def valsP(model:List Bool):Nat->List D.Value->List D.Value
 |_,[]=>[]
 |off,v::L=>⟨v.Name,v.W,wrd ((model.drop off).take v.W.toNat)⟩::valsP model (off+v.W.toNat) L
def wsum(L:List D.Value):Nat:=(L.map λv=>v.W.toNat).sum
theorem SX:∀(L:List D.Value)(a:Int),(∀v∈L,1<=v.W/\v.W<=16)->bitsV L a=a+(wsum L:Int)
 |[],a,_=>by unfold wsum bitsV;simp
 |v::L,a,h=>by
  have hv:=h v (by simp);rw[Tk,SX L _ λx hx=>h x (by simp[hx])];unfold wsum;rw[Zb1,List.sum_cons];omega
section
variable{model:List Bool}(hM:model.length<=1000)
include hM
end
end Go.Proofs.YtikabgjjcifidaaGreat
end
section
namespace Go.Proofs.YtikabgjjcifidaaGreat.Sv
open Go.GL
def lv(a:List Int)(x:Int):Int:=if x<0 then-(a.getD x.natAbs 0)else a.getD x.natAbs 0
def isL(m:Nat)(x:Int):Prop:=x≠0/\x.natAbs<=m
structure Asg(m:Nat)(a:List Int):Prop where
 len:a.length=m+1
 val:∀i,a.getD i 0=-1\/a.getD i 0=0\/a.getD i 0=1
 nul:a.getD 0 0=0
structure ClM(m:Nat)(c:List Int):Prop where
 lit:∀x∈c,isL m x
 dif:c.Pairwise λx y=>x.natAbs≠y.natAbs
def stA(a:List Int)(l:Int):List Int:=a.set l.natAbs (if l<0 then-1 else 1)
def lv_neg{a:List Int}{x:Int}(h:x≠0):lv a (-x)=-lv a x:=by
 unfold lv;rw[Zd7];by_cases c:x<0
 ·rw[ifn,Zbq c];omega
 ·rw[ifp,Zbv c]
def lv_vals{m:Nat}{a:List Int}(h:Asg m a)(x:Int):lv a x=-1\/lv a x=0\/lv a x=1:=by
 unfold lv;have:=h.val x.natAbs;split<;>omega
def Ow{a:List Int}{i j:Nat}{v:Int}(h:i<a.length):(a.set i v).getD j 0=if j=i then v else a.getD j 0:=by
 rw[Zbr,Zde,Zbr];by_cases e:i=j
 ·subst e;rw[Zbq rfl,Zbq h,Zbq rfl];rfl
 ·rw[Zbv e,Zbv (Ne.symm e)]
def lv_set{m:Nat}{a:List Int}{l x:Int}(ha:a.length=m+1)(hl:isL m l)(hx:x≠0):lv (stA a l) x=if x=l then 1 else if x=-l then-1 else lv a x:=by
 obtain⟨l0,l1⟩:=hl;unfold lv stA;rw[Ow (by omega)];by_cases e:x.natAbs=l.natAbs
 ·rw[Zbq e];by_cases e1:x=l
  ·subst e1;rw[Zbq rfl];by_cases c:x<0
   ·rw[Zbq c,Zbq c];omega
   ·rw[Zbv c,Zbv c]
  ·have e2:x=-l:=by omega
   rw[Zbv e1,Zbq e2];by_cases c:x<0
   ·rw[Zbq c,ifn]
   ·rw[Zbv c,ifp]
 ·rw[Zbv e,Zbv (show¬x=l by intro h;exact e (by rw[h])),Zbv (show¬x=-l by intro h;exact e (by rw[h,Zd7]))]
def asg_set{m:Nat}{a:List Int}{l:Int}(h:Asg m a)(hl:isL m l):Asg m (stA a l):=by
 obtain⟨l0,l1⟩:=hl;have h1:=h.len;refine⟨by unfold stA;rw[ZdF];exact h1,λi=>?_,?_⟩
 ·unfold stA;rw[Ow (by omega)];split
  ·split<;>omega
  ·exact h.val i
 ·unfold stA;rw[Ow (by omega),ifn];exact h.nul
def AZ{m:Nat}{a b:List Int}(ha:Asg m a)(hb:Asg m b)(h:∀x,isL m x->(lv a x=1↔lv b x=1)):a=b:=by
 refine Zd8 (ha.len.trans hb.len.symm) λi h1 h2=>?_;have g1:a.getD i 0=a[i]:=by rw[Zbr,Zbo h1];rfl
 have g2:b.getD i 0=b[i]:=by rw[Zbr,Zbo h2];rfl
 rw[<-g1,<-g2];by_cases hi:i=0
 ·subst hi;rw[ha.nul,hb.nul]
 have hm:i<=m:=by have:=ha.len;omega
 have p:=h (i:Int) ⟨by omega,by omega⟩;have q:=h (-(i:Int)) ⟨by omega,by omega⟩;rw[lv_neg (by omega),lv_neg (by omega)]at q;have e:∀c:List Int,lv c (i:Int)=c.getD i 0:=λc=>by unfold lv;rw[ifn];simp
 rw[e,e]at p q;have va:=ha.val i;have vb:=hb.val i;omega
inductive Der(cs:List (List Int))(S:Int->Prop):Int->Prop
 |base {x:Int}:S x->Der cs S x
 |unit {c:List Int} {x:Int}:c∈cs->x∈c->(∀y∈c,y≠x->Der cs S (-y))->Der cs S x
def good(a:List Int)(c:List Int):Prop:=(∃x∈c,lv a x=1)\/∃x∈c,∃y∈c,x≠y/\lv a x=0/\lv a y=0
structure Okc(m:Nat)(cs:List (List Int))(S:Int->Prop)(a:List Int):Prop where
 asg:Asg m a
 ext:∀x,S x->lv a x=1
 snd:∀x,isL m x->lv a x=1->Der cs S x
 cl:∀c∈cs,good a c
def Bad(cs:List (List Int))(S:Int->Prop):Prop:=∃c∈cs,∀y∈c,Der cs S (-y)
section
variable{m:Nat}{cs:List (List Int)}{S:Int->Prop}{a b:List Int}
theorem IB(hcs:∀c∈cs,ClM m c)(h:Okc m cs S a){x:Int}(hd:Der cs S x):lv a x=1:=by
 induction hd with
 |base hx=>exact h.ext _ hx
 | @unit c x hc hx _ ih=>
  have ih':∀y∈c,y≠x->lv a y=-1:=λy hy hne=>by
   have:=ih y hy hne;rw[lv_neg ((hcs c hc).lit y hy).1]at this;omega
  rcases h.cl c hc with⟨z,hz,hz1⟩|⟨y,hy,z,hz,hne,hy0,hz0⟩
  ·by_cases e:z=x
   ·subst e;exact hz1
   ·have:=ih' z hz e;omega
  ·by_cases e:y=x
   ·have:=ih' z hz (λe'=>hne (e.trans e'.symm));omega
   ·have:=ih' y hy e;omega
def KC(hcs:∀c∈cs,ClM m c)(h:Okc m cs S a):¬Bad cs S:=λ⟨c,hc,hb⟩=>by
 have ih:∀y∈c,lv a y=-1:=λy hy=>by
  have:=IB hcs h (hb y hy);rw[lv_neg ((hcs c hc).lit y hy).1]at this;omega
 rcases h.cl c hc with⟨z,hz,hz1⟩|⟨y,hy,z,hz,hne,hy0,hz0⟩
 ·have:=ih z hz;omega
 ·have:=ih y hy;omega
def DT(hcs:∀c∈cs,ClM m c)(h:Okc m cs S a)(h':Okc m cs S b):a=b:=
 AZ h.asg h'.asg λx hx=>⟨λe=>IB hcs h' (h.snd x hx e),λe=>IB hcs h (h'.snd x hx e)⟩
def Res(m:Nat)(cs:List (List Int))(S:Int->Prop):Option (List Int)->Prop
 |some a=>Okc m cs S a
 |none=>Bad cs S
def free(a:List Int)(c:List Int):List Int:=c.filter λx=>lv a x==0
def SF{c:List Int}{x:Int}:x∈free a c↔x∈c/\lv a x=0:=by unfold free;rw[ZbS];simp
theorem OV{c:List Int}(hc:ClM m c)(h:2<=(free a c).length):good a c:=by
 have hp:(free a c).Pairwise λx y=>x.natAbs≠y.natAbs:=hc.dif.filter _
 match hf:free a c,h with
 |x::y::l,_=>
  rw[hf]at hp;have hx:x∈free a c:=by rw[hf];simp
  have hy:y∈free a c:=by rw[hf];simp
  rw[SF]at hx hy;refine .inr ⟨x,hx.1,y,hy.1,λe=>?_,hx.2,hy.2⟩;rw[ZcW]at hp;exact hp.1 y (by simp) (by rw[e])
def Snd(m:Nat)(cs:List (List Int))(S:Int->Prop)(a:List Int):Prop:=∀x,isL m x->lv a x=1->Der cs S x
def GQ(hA:Asg m a)(hs:Snd m cs S a){c:List Int}(hc:ClM m c){y:Int}(hy:y∈c)(h1:lv a y≠1)(h0:lv a y≠0):Der cs S (-y):=by
 have hl:=hc.lit y hy;have:=lv_vals hA y;exact hs (-y) ⟨by have:=hl.1;omega,by rw[Zd7];exact hl.2⟩ (by rw[lv_neg hl.1];omega)
def Ny(hA:Asg m a)(hs:Snd m cs S a){c:List Int}(hcs:c∈cs)(hc:ClM m c)(hn:∀x∈c,lv a x≠1)(hf:free a c=[]):Bad cs S:=
 ⟨c,hcs,λy hy=>GQ hA hs hc hy (hn y hy) λh=>by
  have:y∈free a c:=SF.2 ⟨hy,h⟩
  rw[hf]at this;cases this⟩
def EZ(hA:Asg m a)(hs:Snd m cs S a){c:List Int}(hcs:c∈cs)(hc:ClM m c)(hn:∀x∈c,lv a x≠1){l:Int}(hf:free a c=[l]):isL m l/\l∈c/\lv a l=0/\Asg m (stA a l)/\Snd m cs S (stA a l):=by
 have hl:l∈free a c:=by rw[hf];simp
 rw[SF]at hl;have hL:=hc.lit l hl.1;refine⟨hL,hl.1,hl.2,asg_set hA hL,λx hx h=>?_⟩;rw[lv_set hA.len hL hx.1]at h;by_cases e:x=l
 ·subst e;refine .unit hcs hl.1 λy hy hne=>GQ hA hs hc hy (hn y hy) λh0=>?_;have:y∈free a c:=SF.2 ⟨hy,h0⟩;rw[hf,Zb3]at this;exact hne this
 ·rw[Zbv e]at h;split at h
  ·omega
  ·exact hs x hx h
def lv_mono(hA:Asg m a){l:Int}(hl:isL m l)(h0:lv a l=0){x:Int}(hx:x≠0)(h:lv a x≠0):lv (stA a l) x=lv a x:=by
 rw[lv_set hA.len hl hx,Zbv (show¬x=l from λe=>h (e▸h0)),Zbv (show¬x=-l from λe=>h (by rw[e,lv_neg hl.1,h0];rfl))]
def KU(hA:Asg m a){l:Int}(hl:isL m l)(h0:lv a l=0){c:List Int}(hc:ClM m c)(h:good a c):good (stA a l) c∨-l∈c:=by
 by_cases hn:-l∈c
 ·exact .inr hn
 refine .inl ?_;rcases h with⟨x,hx,h1⟩|⟨x,hx,y,hy,hne,hx0,hy0⟩
 ·exact .inl ⟨x,hx,by rw[lv_mono hA hl h0 (hc.lit x hx).1 (by omega)];exact h1⟩
 ·by_cases e:l∈c
  ·exact .inl ⟨l,e,by rw[lv_set hA.len hl hl.1,Zbq rfl]⟩
  ·have k:∀z∈c,lv a z=0->lv (stA a l) z=0:=λz hz hz0=>by
    rw[lv_set hA.len hl (hc.lit z hz).1,Zbv (show¬z=l from λe'=>e (e'▸hz)),Zbv (show¬z=-l from λe'=>hn (e'▸hz))];exact hz0
   exact .inr ⟨x,hx,y,hy,hne,k x hx hx0,k y hy hy0⟩
end
end Go.Proofs.YtikabgjjcifidaaGreat.Sv
end
