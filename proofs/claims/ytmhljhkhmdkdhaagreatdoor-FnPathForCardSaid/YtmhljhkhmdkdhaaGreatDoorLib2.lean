/- Texts of this claim put into one: library or plain laws, without the program under test. -/
import Derived.Test.YtmhljhkhmdkdhaaGreatDoorLib1
import Derived.ArgAppend
import Derived.Laws.BytesString
import Derived.Lib.LaidTab
import Derived.Shelf.Strconv.Itoa3
import Derived.Lib.AppendStr
import Derived.Lib.Builder
import Derived.Lib.Split
import Derived.Lib.SplitLaws
import Derived.Lib.SmallJoins
import Derived.KernelRfl
set_option linter.unusedSimpArgs false
set_option linter.unusedVariables false
set_option linter.defProp false
section
namespace Go.GL
open Go.RowKit
section
variable{P:Program}{ms:List Nat}{ops:Array Oper}{T:(Nat->Nat)->Nat->Value->World->Prop}{S:Nat->Prop}{a0:Act}{w0:World}{Q:Exit->Act->World->Prop}
def JO(ms:List Nat)(ops:Array Oper)(T:(Nat->Nat)->Nat->Value->World->Prop)(S:Nat->Prop)(a0:Act)(w0:World)(L:Array Bool)(a:Act)(w:World):Prop:=
 ∃ow,J true ms ops [] (T ow) (λ_ _=>True) S a0 w0 L a w
def JO.size{L:Array Bool}{a:Act}{w:World}(h:JO ms ops T S a0 w0 L a w):L.size=ops.size:=h.elim λ_ h=>h.size
def PhO(ow:Nat->Nat)(j:Nat):Nat->World->Prop:=λ_ w=>∀k,w.heap.size<=k->ow k=j
theorem JO.step_wp{N:Nat}(hst:stat true ms ops [] N=true)(hN:a0.tmps.size=N)(hT:∀ow i v w w',T ow i v w->Chg S w w'->T ow i v w')(hO:∀ow ow' i v w,(∀k,k<w.heap.size->ow k=ow' k)->T ow i v w->T ow' i v w){L:Array Bool}{a:Act}{w:World}
  (hJ:JO ms ops T S a0 w0 L a w){j:Nat}(hj:j<ops.size)(hl:L.getD j false=false)(hb:∀i,bef true ms j i=true->L.getD i false=true)
  (ht:∀ow,Tri P true ms ops [] (T ow) (PhO ow j) S a0 w0 Q j):∃o,ops[j]? =some o/\if Region.wanted o (yielded ops a.tmps)then o.wp P a w (JO ms ops T S a0 w0 (L.setIfInBounds j true)) Q else JO ms ops T S a0 w0 (L.setIfInBounds j true) (a.put o.dst undef) w:=by
 obtain⟨ow,hJ⟩:=hJ
 let ow':Nat->Nat:=λk=>if k<w.heap.size then ow k else j
 have hs:∀k,k<w.heap.size->ow k=ow' k:=λk hk=>by simp[ow',hk]
 have hJ':J true ms ops [] (T ow') (PhO ow' j) S a0 w0 L a w:=⟨hJ.size,hJ.closed,hJ.defers,hJ.tsize,hJ.chg,λk hk=>by simp[ow',Nat.not_lt.2 hk],λt=>by
  have:=hJ.cur t;cases hl:lastL ops L t ops.size with
  |none=>rw[hl]at this;exact this
  |some i=>rw[hl]at this;exact hO _ _ _ _ _ hs this⟩
 obtain⟨o,ho,h⟩:=hJ'.step_wp hst hN (hT ow') hj hl hb (ht ow');have hconv:∀a w,J true ms ops [] (T ow') (PhO ow' j) S a0 w0 (L.setIfInBounds j true) a w->JO ms ops T S a0 w0 (L.setIfInBounds j true) a w:=λa w h=>⟨ow',h.size,h.closed,h.defers,h.tsize,h.chg,trivial,h.cur⟩;refine⟨o,ho,?_⟩;split
 ·rename_i hw;rw[Cr hw]at h;exact Oper.wp_mono hconv h
 ·rename_i hw;rw[Cu hw]at h;exact hconv _ _ h
def JO.step{N:Nat}(hst:stat true ms ops [] N=true)(hN:a0.tmps.size=N)(hT:∀ow i v w w',T ow i v w->Chg S w w'->T ow i v w')(hO:∀ow ow' i v w,(∀k,k<w.heap.size->ow k=ow' k)->T ow i v w->T ow' i v w){L:Array Bool}{a:Act}{w:World}
  (hJ:JO ms ops T S a0 w0 L a w){j:Nat}(hj:j<ops.size)(hl:L.getD j false=false)(hb:∀i,bef true ms j i=true->L.getD i false=true)
  (ht:∀ow,Tri P true ms ops [] (T ow) (PhO ow j) S a0 w0 Q j):wpOp P ops Q j (JO ms ops T S a0 w0 (L.setIfInBounds j true)) a w:=by
 obtain⟨o,ho,h⟩:=hJ.step_wp hst hN hT hO hj hl hb ht;unfold wpOp;simp only[ho];split
 ·rename_i hw;rw[Cr hw]at h;exact .inl h
 ·rename_i hw;rw[Cu hw]at h;exact h
end
section
variable{P:Program}{ms:List Nat}{ops:Array Oper}{T:(Nat->Nat)->Nat->Value->World->Prop}{S:Nat->Prop}{a0:Act}{w0:World}{Q:Exit->Act->World->Prop}{m:Nat}
theorem Io{L:Array Bool}{n m:Nat}(hs:L.size=n)(hm:m<=n)(hL:∀i,L.getD i false=true↔i<m):L.toList.countP (λb=>!b)=n-m:=by
 have e:L.toList=List.replicate m true++List.replicate (n-m) false:=by
  apply BZ;intro i;rw[Ay,Zab,BU,BU];have h1:=hL i;by_cases hi:i<n
  ·have hi':i<L.size:=by omega
   simp only[Cq,Bv hi',Bh]at h1;rw[Ao,Bv hi'];by_cases him:i<m
   ·rw[Cr him,Cr him,h1.2 him]
   ·rw[Cu him,Cr O];cases hb:L[i]with
    |false=>rfl
    |true=>exact absurd (h1.1 hb) him
  ·rw[Ao,BH O,Cu O,Cu O]
 rw[e,List.countP_append,List.countP_replicate,List.countP_replicate];simp
def EndM(ops:Array Oper)(T:Nat->Value->World->Prop)(a0:Act)(m:Nat)(a:Act)(w:World):Prop:=
 a.defers=a0.defers/\a.tmps.size=a0.tmps.size/\∀t,Know ops T a0 m t (a.eval (.tmp t)) w
theorem KM{N:Nat}(hst:stat true ms ops [] N=true)(hsuf:sufB ops m=true)(hN:a0.tmps.size=N)(hT:∀ow i v w w',T ow i v w->Chg S w w'->T ow i v w')(hO:∀ow ow' i v w,(∀k,k<w.heap.size->ow k=ow' k)->T ow i v w->T ow' i v w)
  (ht:∀ow j,j<m->Tri P true ms ops [] (T ow) (PhO ow j) S a0 w0 Q j)(post:∀ow a w,EndM ops (T ow) a0 m a w->Chg S w0 w->wpList P ops Q (ops.toList.drop m) a w):
  ∀fuel(L:Array Bool)(a:Act)(w:World),Closed ops L->(∀i,L.getD i false=true->i<m)->(L.toList.countP (λb=>!b)<=fuel)->JO ms ops T S a0 w0 L a w->wpAny P .any ops Q fuel L a w:=by
 have hst0:=hst;have hsuf0:=hsuf;unfold sufB at hsuf;simp only[Cs,CL,Co,Bq,Cw]at hsuf;obtain⟨hmn,hsuf⟩:=hsuf;unfold stat at hst;simp only[Co,Cs,Cw,Cz,CY,Bl,CL]at hst;obtain⟨⟨⟨⟨⟨hms,hearly⟩,_⟩,heffs⟩,_⟩,_⟩:=hst;have hearly':∀j o,ops[j]? =some o->∀e∈o.after.toList,Region.binds .any e=true->e.on<j:=λj o ho e he hb=>by
  have hj:j<ops.size:=(CU.1 ho).1;have h1:=hearly j hj e (by rw[Cq,ho];exact he);simpa[hb]using h1
 have hready:∀(L:Array Bool)(i:Nat),L.size=ops.size->i∈Region.ready .any ops L->i<ops.size/\L.getD i false=false/\
   ∀o,ops[i]? =some o->∀e∈o.after.toList,Region.binds .any e=true->L.getD e.on false=true:=by
  intro L i hs hi;unfold Region.ready at hi;rw[CP,CL]at hi;obtain⟨h1,h2⟩:=hi;simp only[Co,BO]at h2;obtain⟨h2,h3⟩:=h2;refine⟨h1,?_,λo ho e he hb=>?_⟩
  ·have hs':i<L.size:=by omega
   simpa[Cq,hs']using h2
  ·rw[ho]at h3;simp only[CJ,Bh,Bw]at h3;have:=h3 e aA;simpa[hb]using this
 have hswitch:∀fuel(L:Array Bool)(a:Act)(w:World),(∀i,L.getD i false=true->i<m)->(∀i,i<m->L.getD i false=true)->(L.toList.countP (λb=>!b)<=fuel)->JO ms ops T S a0 w0 L a w->wpAny P .any ops Q fuel L a w:=by
  intro fuel L a w h1 h2 h3 hJ;have hL:∀i,L.getD i false=true↔i<m:=λi=>⟨h1 i,h2 i⟩;have hc:=Io hJ.size hmn hL
  refine Jd hsuf0 fuel m L a w (Nat.le_succ _) hJ.size hL hmn O (by
   obtain⟨ow,hJ⟩:=hJ;refine post ow a w ⟨hJ.defers,hJ.tsize,λt=>?_⟩ hJ.chg;have:=hJ.cur t;rw[UG L t m ops.size hmn λi _ _=>hL i]at this
   exact this)
 intro fuel
 induction fuel with
 |zero=>
  intro L a w _ hsub hcount hJ;refine hswitch 0 L a w hsub (λi hi=>?_) hcount hJ;have h3:L.toList.countP (λb=>!b)=0:=by omega
  rw[Zai]at h3;have hs':i<L.size:=by rw[hJ.size];omega
  have hm:L[i]∈L.toList:=by simp
  have h4:=h3 _ hm;simpa[Cq,hs']using h4
 | succ fuel ih=>
  intro L a w hcl hsub hcount hJ;by_cases hall:∀i,i<m->L.getD i false=true
  ·exact hswitch _ L a w hsub hall hcount hJ
  ·obtain ⟨x,hx⟩:=Classical.not_forall.1 hall
   have hxm:x<m:=by
    by_cases h:x<m
    ·exact h
    ·exact absurd (λh'=>absurd h' h) hx
   have hxl:L.getD x false=false:=by
    cases h:L.getD x false with
    |false=>rfl
    |true=>exact absurd (λ_=>h) hx
   have hlow:∀i∈Region.ready .any ops L,i<m:=by
    intro i hi;obtain⟨h1,h2,h3⟩:=hready L i hJ.size hi;rcases Al i m with h|h
    ·exact h
    ·exfalso;have hm:=((hsuf i h1).2.resolve_left O) x O;rw[Wh ops ops.size i h1]at hm;have ho:ops[i]? =some (ops.getD i default):=by simp[Cq,h1]
     have:=VP L hcl x i h1 hm (h3 _ ho);rw[hxl]at this;cases this
   refine⟨λhr=>?_,λi hi=>?_⟩
   ·
    exfalso
    have hleast:∀n,(∀i,i<n->i<m->L.getD i false=true)\/∃i,i<m/\L.getD i false=false/\∀j,j<i->L.getD j false=true:=by
     intro n
     induction n with
     |zero=>exact .inl λi hi=>absurd hi (Nat.not_lt_zero _)
     | succ n ihn=>
      rcases ihn with h|h
      ·by_cases hn:n<m
       ·cases hl:L.getD n false with
        | true=>
         refine .inl λi hi him=>?_;rcases Al i n with h'|h'
         ·exact h i h' him
         ·obtain rfl:i=n:=by omega
          exact hl
        |false=>exact .inr ⟨n,hn,hl,λj hj=>h j hj O⟩
       ·exact .inl λi hi him=>h i O him
      ·exact .inr h
    rcases hleast m with h|⟨i,him,hil,hij⟩
    ·exact absurd (h x hxm hxm) (by simp[hxl])
    ·have hi:i<ops.size:=by omega
     have hmem:i∈Region.ready .any ops L:=by
      unfold Region.ready;rw[CP];refine⟨CL.2 hi,?_⟩;have ho:ops[i]? =some ops[i]:=by simp[hi]
      have h2:((ops[i]).after.all λe=>!Region.binds .any e||L.getD e.on false)=true:=by
       rw[Bw];intro e he;cases hb:Region.binds .any e with
       |false=>rfl
       |true=>simp[hij _ (hearly' i _ ho e aA hb)]
      rw[ho];simp only[CJ,Bh,h2,Ad,BO];have hs':i<L.size:=by rw[hJ.size];exact hi
      simpa[Cq,hs']using hil
     rw[hr]at hmem;cases hmem
   ·obtain⟨h1,h2,h3⟩:=hready L i hJ.size hi;have him:=hlow i hi;have hiL:i<L.size:=by rw[hJ.size];exact h1
    have ho:ops[i]? =some (ops.getD i default):=by simp[Cq,h1]
    have hbef:∀h,bef true ms i h=true->L.getD h false=true:=λh hb=>by
     unfold bef at hb;simp only[CF]at hb;rw[hms,Wh ops ops.size i h1]at hb;exact VP L hcl h i h1 hb (h3 _ ho)
    refine wpOp_mono (λa' w' hJ'=>ih _ a' w' ?_ ?_ ?_ hJ') (hJ.step hst0 hN hT hO h1 h2 hbef λow=>ht ow i him)
    ·intro j o hj hoj e he hb;have hmono:∀x,L.getD x false=true->(L.setIfInBounds i true).getD x false=true:=λx hx=>by
      by_cases e:x=i
      ·subst e;rw[h2]at hx;cases hx
      ·simpa[Cq,Ne.symm e]using hx
     by_cases ej:j=i
     ·subst ej;exact hmono _ (h3 o hoj e he hb)
     ·refine hmono _ (hcl j o ?_ hoj e he hb);simpa[Cq,Ne.symm ej]using hj
    ·intro j hj;by_cases ej:j=i
     ·omega
     ·exact hsub j (by simpa[Cq,Ne.symm ej]using hj)
    ·have hlt:(L.setIfInBounds i true).toList.countP (λb=>!b)+1=L.toList.countP (λb=>!b):=by
      rw[Av];have hl:i<L.toList.length:=by simpa using hiL
      have h5:L.toList[i]=false:=by
       simp[Cq,hiL]at h2;simpa using h2
      rw[List.countP_set hl,h5];have hpos:0<L.toList.countP (λb=>!b):=by
       rw[List.countP_pos_iff];exact⟨L.toList[i],BI hl,by rw[h5];rfl⟩
      simp only[AY,CF,Cz,Cn,Cy];omega
     omega
end
section
variable{P:Program}{ms:List Nat}{ops:Array Oper}{a0:Act}{w0:World}{Q:Exit->Act->World->Prop}{pds:List Pd}{σ:List (Nat×Value)}{N m:Nat}
def outVm(ops:Array Oper)(σ:List (Nat×Value))(pds:List Pd)(m t:Nat):Option Value:=
 match lastW ops t m with
 |some i=>if(guardOf ops i).isNone then valAt pds i else none
 |none=>σ.lookup t
def npIdxM(m:Nat)(isP:List Bool):List Nat:=(List.range m).filter λj=>!(isP.getD j false)
def pIdxM(m:Nat)(isP:List Bool):List Nat:=(List.range m).filter λj=>isP.getD j false
def Pd.inst(ow:Nat->Nat):Pd->Pd
 |.own p=>.is (p ow)
 |p=>p
def instL(ow:Nat->Nat)(pds:List Pd):List Pd:=pds.map (Pd.inst ow)
def YA(ow:Nat->Nat)(pds:List Pd)(j:Nat):(instL ow pds).getD j .any=(pds.getD j .any).inst ow:=by
 unfold instL;rw[CR,CR,Bt];cases pds[j]? <;>rfl
def Py(ow:Nat->Nat)(p:Pd):(p.inst ow).val? =p.val?:=by cases p<;>rfl
def Mi(ow:Nat->Nat)(p:Pd)(b:Bool):(p.inst ow).boolIs b=p.boolIs b:=by cases p<;>rfl
def Mx(ow:Nat->Nat)(p:Pd):(p.inst ow).isBool=p.isBool:=by cases p<;>rfl
def TG(ow:Nat->Nat)(pds:List Pd)(j:Nat):valAt (instL ow pds) j=valAt pds j:=by
 unfold valAt;rw[YA,Py]
theorem PU(ow:Nat->Nat)(pds:List Pd)(j:Nat):envP ops σ (instL ow pds) j=envP ops σ pds j:=by
 funext x;cases x with
 |tmp t=>rw[Sr,Sr];simp only[TG]
 |_=>rfl
theorem JD(ow:Nat->Nat)(pds:List Pd)(j:Nat)(g:Option Nat)(b:Bool):envG ops σ (instL ow pds) j g b=envG ops σ pds j g b:=by
 funext x;cases x with
 |tmp t=>rw[Pv,Pv];simp only[TG]
 |_=>rfl
def MU(ow:Nat->Nat)(pds:List Pd)(j:Nat):pureV P ops σ (instL ow pds) j=pureV P ops σ pds j:=by
 unfold pureV;simp only[PU,JD]
def MK(ow:Nat->Nat)(pds:List Pd)(eff:List Nat):statG ops (instL ow pds) eff=statG ops pds eff:=by
 unfold statG;simp only[YA,Mx];simp[instL]
theorem QI(ow:Nat->Nat)(pds:List Pd):∀n j,gc ops (instL ow pds) n j=gc ops pds n j
 |0,_=>rfl
 |n+1,j=>by
  unfold gc;simp only[YA,Mi,QI ow pds n]
def Pd.MonoO(p:Pd):Prop:=(∀ow,(p.inst ow).Mono Non)/\∀ow ow' v(w:World),(∀k,k<w.heap.size->ow k=ow' k)->(p.inst ow).sat v w->(p.inst ow').sat v w
def Pd.monoO_eq{v:Value}:(Pd.eq v).MonoO:=⟨λ_=>Pd.mono_eq,λ_ _ _ _ _ h=>h⟩
def Pd.monoO_is{p:Value->World->Prop}(h:(Pd.is p).Mono Non):(Pd.is p).MonoO:=⟨λ_=>h,λ_ _ _ _ _ h=>h⟩
def NPO(P:Program)(ms:List Nat)(ops:Array Oper)(pds:List Pd)(a0:Act)(w0:World)(Q:Exit->Act->World->Prop)(ow:Nat->Nat)(j:Nat):Prop:=NP P true ms ops [] pds (PhO ow j) Non a0 w0 Q j
def ED{j:Nat}(ow:Nat->Nat)(h:NPB P true ms ops pds a0 w0 Q j):NPO P ms ops pds a0 w0 Q ow j:=by
 intro o ho a w k h1 h2 hP hc hg hk K hK;exact h o ho a w k h1 h2 trivial hc hg hk K λv w' hs hc' _=>hK v w' hs hc' λx hx=>hP x (BD hc'.size hx)
theorem DJ(m:Nat)(ms:List Nat)(isP:List Bool)(pds:List Pd)(σ':List (Nat×Value))(hF:FrS N σ a0)(hst:(stat true ms ops [] N&&statG ops pds []&&sufB ops m)=true)
  (hp:(pIdxM m isP).map (pureV P ops σ pds)=(pIdxM m isP).map λj=>(pds.getD j .any).val?)
  (hps:((pIdxM m isP).all λj=>(pds.getD j .any).val?.isSome)=true)
  (hrest:((List.range ops.size).all λj=>decide (j<m)||match pds.getD j .any with|.any=>true|_=>false)=true)
  (hmono:AllL (λj=>(pds.getD j .any).MonoO) (npIdxM m isP))
  (hnp:∀ow,Good ops (instL ow pds) []->AllL (NPO P ms ops (instL ow pds) a0 w0 Q ow) (npIdxM m isP))
  (hout:σ'.map (λp=>outVm ops σ pds m p.1)=σ'.map λp=>some p.2)
  (post:∀ow a w,FrS N σ' a->EndM ops (TT ops (instL ow pds)) a0 m a w->Chg Non w0 w->wpFrom P ops Q m a w):RA P ops Q a0 w0:=by
 rw[Co,Co]at hst;obtain⟨⟨hst,hsg⟩,hsuf⟩:=hst;have hGo:∀ow,Good ops (instL ow pds) []:=λow=>Nf (by rw[MK];exact hsg);have hmn:m<=ops.size:=by
  unfold sufB at hsuf;rw[Co]at hsuf;simpa using hsuf.1
 have hlen:pds.length=ops.size:=by
  unfold statG at hsg;rw[Co]at hsg;simpa using hsg.1
 have hmonoAll:∀j,(pds.getD j .any).MonoO:=by
  intro j;by_cases hj:j<m
  ·cases hb:isP.getD j false with
   |false=>exact hmono.mem (CP.2 ⟨CL.2 hj,by simp only[hb];rfl⟩)
   |true=>
    rw[Cs]at hps;have:=hps j (CP.2 ⟨CL.2 hj,hb⟩);obtain⟨v,hv⟩:=BM.1 this;cases hpj:pds.getD j .any with
    |eq u=>exact Pd.monoO_eq
    |is p=>rw[hpj]at hv;cases hv
    |own p=>rw[hpj]at hv;cases hv
    |any=>exact⟨λ_=>Pd.mono_any,λ_ _ _ _ _ h=>h⟩
  ·have:pds.getD j .any= .any:=by
    by_cases hjs:j<ops.size
    ·rw[Cs]at hrest;have:=hrest j (CL.2 hjs);simp only[hj,decide_false,CY]at this;split at this
     ·assumption
     ·cases this
    ·rw[CR,Bu O];rfl
   rw[this];exact⟨λ_=>Pd.mono_any,λ_ _ _ _ _ h=>h⟩
 have hdst:∀d,(∃i,wr ops d i=true)->d<N:=by
  intro d ⟨i,hi⟩;have hst':=hst;unfold stat at hst';simp only[Co,Cs,CL]at hst';have hil:=Kb hi;have:=hst'.2 i hil;have ho:ops[i]? =some ops[i]:=by simp[hil]
  rw[Cq,ho]at this;unfold wr at hi;rw[ho]at hi;simp only[Cm,Bl]at hi;simpa[hi]using this
 unfold RA
 refine KM (T:=λow=>TT ops (instL ow pds)) (S:=Non) hst hsuf hF.size (λow i v w w' ht hc=>⟨λhg=>by rw[YA];exact(hmonoAll i).1 ow v w w' (by have:=ht.1 hg;rw[YA]at this;exact this) hc,ht.2⟩) (λow ow' i v w hag ht=>⟨λhg=>by
  rw[QI]at hg;have:=ht.1 (by rw[QI];exact hg);rw[YA]at this⊢
  exact(hmonoAll i).2 ow ow' v w hag this,λhg=>ht.2 (by rw[QI]at hg⊢;exact hg)⟩) (λow j hj=>?_) (λow a w hE hc=>?_) ops.size _ a0 _ (λj o hj=>?_) (λi hi=>?_) ?_ ⟨λ_=>0,J.start (w0:=w0) (λ_ _=>trivial) _⟩
 ·refine Oo (hGo ow) hF.size hdst ?_;cases hb:isP.getD j false with
  |false=>exact(hnp ow (hGo ow)).mem (CP.2 ⟨CL.2 hj,by simp only[hb];rfl⟩)
  |true=>
   have hm:j∈pIdxM m isP:=CP.2 ⟨CL.2 hj,hb⟩;rw[Cs]at hps;have h1:=hps j hm;exact Kj (hGo ow) hF U (by rw[MU,YA,Py];exact Br.1 hp j hm) (by rw[YA,Py];exact h1)
 ·have h:=post ow a w ⟨hE.1.trans hF.defers,hE.2.1.trans hF.size,λt v hv=> ?_⟩ hE hc
  ·simpa[wpFrom]using h
  ·have hm:=VA hv;have h:=Br.1 hout _ hm;have h1:=hE.2.2 t;unfold Know at h1;unfold outVm at h;cases hl:lastW ops t m with
   |none=>simp only[hl]at h h1;rw[h1];exact hF.get t v h
   | some i=>
    simp only[hl]at h h1;split at h
    ·rename_i hg;have hi:=XD hl;have hgi:gc ops (instL ow pds) ops.size i:=by
      obtain⟨k,hk⟩:∃k,ops.size=k+1:=⟨ops.size-1,by omega⟩;rw[hk];unfold gc;rw[BC]at hg;rw[hg];trivial
     have h2:=h1.1 hgi;rw[YA]at h2;unfold valAt Pd.val? at h;split at h
     ·rename_i u hu;simp only[Option.some.injEq]at h;subst h;rw[hu]at h2;exact h2
     ·cases h
    ·cases h
 ·simp[Cq,BL]at hj;split at hj<;>simp at hj
 ·simp[Cq,BL]at hi;split at hi<;>simp at hi
 ·refine BD List.countP_le_length ?_;simp
end
section
open Go.Maps
variable{P:Program}{k e t:TypeId}{κ β:Type}[Flat κ][Flat β][DecidableEq κ](T:MapT P k e κ β)
variable{ops:Array Oper}{Q:Exit->Act->World->Prop}{a:Act}{w w0:World}{S S0 F F0:Nat->Prop}{N:Nat}{σ:List (Nat×Value)}{j d:Nat}{ty:TypeId}{x y z:Operand}{pos:String}{af:Array Edge}{L:List HP}{b:Nat}{m:List (κ×β)}
theorem mget?_fit{κ β:Type}[DecidableEq κ]{fit:κ->Bool}{z y:β}{m:List (κ×β)}{x:κ}(h:mget? fit z m x=some y):fit x=true:=by
 simp_all[mget?]
theorem mget?_val{κ β:Type}[DecidableEq κ]{fit:κ->Bool}{z y:β}{m:List (κ×β)}{x:κ}(h:mget? fit z m x=some y):mget z m x=y:=by
 unfold mget? at h;split at h
 ·exact Option.some.inj h
 ·cases h
theorem Jm(hs:Sep L w S)(hM:Mem w0 S0 F0 w S F)(hm:∀w,(Instr.makeMap t none).run P w= .ok (.map (some w.heap.size)) (w.alloc (.map #[] 0)))(hop:ops[j]? =some ⟨some d,.makeMap t none,ty,pos,af,none⟩)(hd:Nat.blt d N=true)(hF:FrS N σ a)
  (h:∀b w' S' fr,Sep (MP T b []::L) w' S'->Stp w S w' S'->FrS N ((d,.map (some b))::σ) fr->wpFrom P ops Q (j+1) fr w'):wpFrom P ops Q j a w:=by
 refine ZB hF hop rfl rfl (Bc.mp hd) (OI rfl (hm w)) λv w' fr hv hF'=>?_;obtain⟨S',hp,hs'⟩:=hs.new hM (Chg.alloc w (.map #[] 0)) (P:=MP T w.heap.size []) ⟨OwnM.made T,CK _⟩;grind
theorem Gl(i:Nat)(hs:Sep L w S)(hL:L[i]? =some (MP T b m))(ht:P.underlying t=some (.map k e))(hop:ops[j]? =some ⟨some d,.lookup t x y false,ty,pos,af,none⟩)(hd:Nat.blt d N=true)(hF:FrS N σ a){u:κ}(hu:T.fit u=true)(hx:opd σ x=some (.map (some b))){vk:Value}(hy:opd σ y=some vk)(hk:Rep.val κ (Flat.enc u)=vk)
  {vr:Value}(hr:Rep.val β (Flat.enc (mget T.zero m u))=vr)(h:∀fr,FrS N ((d,vr)::σ) fr->wpFrom P ops Q (j+1) fr w):wpFrom P ops Q j a w:=by
 subst hk;exact ZB hF hop rfl rfl (Bc.mp hd) (Mm T rfl (hs.mp i hL) ht hu (Ze hF hx) (Ze hF hy)) λv w' fr⟨h1,h2⟩hF'=>by simp_all
theorem mget2?_fit{κ β:Type}[DecidableEq κ]{fit:κ->Bool}{z:β}{y:β×Bool}{m:List (κ×β)}{x:κ}(h:mget2? fit z m x=some y):fit x=true:=by
 simp_all[mget2?]
theorem mget2?_val{κ β:Type}[DecidableEq κ]{fit:κ->Bool}{z:β}{y:β×Bool}{m:List (κ×β)}{x:κ}(h:mget2? fit z m x=some y):mget z m x=y.1/\(m.lookup x).isSome=y.2:=by
 unfold mget2? at h;split at h
 ·rw[<-Option.some.inj h];exact⟨rfl,rfl⟩
 ·cases h
theorem mputE?_fit{κ β:Type}{fit:κ->Bool}{efit:β->Bool}{y:β}{m r:List (κ×β)}{x:κ}(h:mputE? fit efit m x y=some r):fit x=true:=by
 simp_all[mputE?]
theorem mputE?_efit{κ β:Type}{fit:κ->Bool}{efit:β->Bool}{y:β}{m r:List (κ×β)}{x:κ}(h:mputE? fit efit m x y=some r):efit y=true:=by
 simp_all[mputE?]
theorem mputE?_val{κ β:Type}{fit:κ->Bool}{efit:β->Bool}{y:β}{m r:List (κ×β)}{x:κ}(h:mputE? fit efit m x y=some r):r=(x,y)::m:=by
 grind[mputE?,Option.some.inj]
theorem mputE?_len{κ β:Type}{fit:κ->Bool}{efit:β->Bool}{y:β}{m r:List (κ×β)}{x:κ}(h:mputE? fit efit m x y=some r):m.length<maxLen:=by
 grind[mputE?,room,maxLen]
theorem Jc(i:Nat)(hs:Sep L w S)(hL:L[i]? =some (MP T b m))(ht:P.underlying t=some (.map k e))(hop:ops[j]? =some ⟨some d,.lookup t x y true,ty,pos,af,none⟩)(hd:Nat.blt d N=true)(hF:FrS N σ a){u:κ}(hu:T.fit u=true)(hx:opd σ x=some (.map (some b))){vk:Value}(hy:opd σ y=some vk)(hk:Rep.val κ (Flat.enc u)=vk)
  {r:β×Bool}(hr:mget T.zero m u=r.1/\(m.lookup u).isSome=r.2){vr:Value}(hvr:Rep.val β (Flat.enc r.1)=vr)(h:∀fr,FrS N ((d,.tuple #[vr,.bool r.2])::σ) fr->wpFrom P ops Q (j+1) fr w):wpFrom P ops Q j a w:=by
 subst hk;exact ZB hF hop rfl rfl (Bc.mp hd) (SN T rfl (hs.mp i hL) ht hu (Ze hF hx) (Ze hF hy)) λv w' fr⟨h1,h2⟩hF'=>by simp_all
theorem Hf(i:Nat)(hs:Sep L w S)(hM:Mem w0 S0 F0 w S F)(hL:L[i]? =some (MP T b m))(ht:P.underlying t=some (.map k e))(hop:ops[j]? =some ⟨none,.mapUpdate t x y z,ty,pos,af,none⟩)(hF:FrS N σ a){u:κ}(hu:T.fit u=true)(q:β)(he:T.efit q=true)(hm:m.length<maxLen)(hx:opd σ x=some (.map (some b)))
  {vk:Value}(hy:opd σ y=some vk)(hk:Rep.val κ (Flat.enc u)=vk){vr:Value}(hz:opd σ z=some vr)(hr:Rep.val β (Flat.enc q)=vr)
  (h:∀w' S',Sep (L.set i (MP T b ((u,q)::m))) w' S'->Stp w S w' S'->FrS N σ a->wpFrom P ops Q (j+1) a w'):wpFrom P ops Q j a w:=by
 subst hr;subst hk;obtain⟨A,hok,hup⟩:=hs.upd i hL hM;refine UF hF hop rfl rfl (Ml T rfl hok.1 ht hu q he hm (Ze hF hx) (Ze hF hy) (Ze hF hz)) λw'⟨_,h1,h2⟩hF'=>?_;obtain⟨S',hp,hs'⟩:=hup (P':=MP T b ((u,q)::m)) (h2.mono λk hk=>by subst hk;exact hok.2) ⟨h1,.inl hok.2⟩;grind
theorem Lb{draw:Bool}{ms:List Nat}{a0:Act}{pds:List Pd}{dst:Option Tmp}{g:Option (Nat×Bool)}(i:Nat)(hs:Sep L w S)(hL:L[i]? =some (MP T b m))(ht:P.underlying t=some (.map k e))(hG:Good ops pds [])(hF:FrS N σ a0)(ho:ops[j]? =some ⟨dst,.lookup t x y true,ty,pos,af,g⟩)
  {u:κ}(hx:envP ops σ pds j x=some (.map (some b))){vk:Value}(hy:envP ops σ pds j y=some vk)(hk:Rep.val κ (Flat.enc u)=vk)(hu:gc ops pds ops.size j->T.fit u=true)
  {r:β×Bool}(hr:gc ops pds ops.size j->mget T.zero m u=r.1/\(m.lookup u).isSome=r.2){vr:Value}(hvr: .tuple #[Rep.val β (Flat.enc r.1),.bool r.2]=vr)(hpd:pds.getD j .any= .eq vr):NPB P draw ms ops pds a0 w Q j:=
 Tx _ ho hG hF λa w' hC hg hv _=>(SN T rfl ((hs.ext hC).mp i hL) ht (hu hg) (hv x _ ae hx) ay).mono λv w''⟨h1,h2⟩=>by
  subst h1;subst h2;rw[hpd,<-hvr,<-(hr hg).1,<-(hr hg).2];exact⟨rfl,Chg.refl _ _⟩
end
end Go.GL
end
section
namespace Go.GL
open Go.RowKit
section
variable{P:Program}{a:Act}{w:World}{N:Nat}{σ:List (Nat×Value)}
inductive Rets(P:Program)(σ:List (Nat×Value))(w:World):List ResultVar->List Value->Prop
 |nil:Rets P σ w [] []
 |tmp {t:Tmp} {v:Value} {rs:List ResultVar} {vs:List Value} (h:σ.lookup t=some v) (r:Rets P σ w rs vs):Rets P σ w (.tmp t::rs) (v::vs)
 |cell {t:Tmp} {ty bt:TypeId} {α:Type} [Rep α] {b:Nat} {cs:List Value} {v:Value} {rs:List ResultVar} {vs:List Value} (h:σ.lookup t=some (.pointer (some ⟨b,0,none⟩))) (hty:Ty P ty α) (hb:Box w b bt cs) (hl:cs.length=Rep.sz α) (hv:Rep.val α cs=v) (r:Rets P σ w rs vs):Rets P σ w (.cell t ty::rs) (v::vs)
def getRes(a:Act):ResultVar->Sem Value
 |.tmp t=>pure (a.tmps.getD t undef)
 |.cell a' t=>do loadVar t (<-asAddr (a.tmps.getD a' undef))
theorem Im{rs:List ResultVar}{vs:List Value}(hF:FrS N σ a)(h:Rets P σ w rs vs):(rs.mapM (getRes a)).run P w= .ok vs w:=by
 induction h with
 |nil=>simp
 |tmp h r ih=>
  have h1:=hF.get _ _ h;simp_all[Act.eval,Zas,getRes]
 |cell h hty hb hl hv r ih=>
  have h1:=hF.get _ _ h;simp only[Act.eval]at h1;have h2:=YT hty (ad:=⟨_,0,none⟩) hl hb.cells;simp_all[Zas,getRes,asAddr]
def retG{fn:Func}{R:Ending->World->Prop}{rs:List ResultVar}{vs:List Value}{v:Value}(hr:fn.results=rs.toArray)(hF:FrS N σ a)(hv:Rets P σ w rs vs)(hval:(if h:vs.toArray.size=1 then vs.toArray[0]else .tuple vs.toArray)=v)(h:R (.returned v) w):
  bodyPost P fn R .ret a w:=by
 refine⟨hF.defers,v,?_,h⟩;have:=Im (P:=P) hF hv;have e:(results fn a.tmps).run P w=((rs.toArray.mapM (getRes a)).run P w).andThen λvs w=>(pure (if h:vs.size=1 then vs[0]else .tuple vs):Sem Value).run P w:=by
  unfold results;rw[hr,Sem.run_bind];rfl
 simp_all
end
section
variable{P:Program}{draw:Bool}{ms:List Nat}{ops:Array Oper}{a0:Act}{w0:World}{Q:Exit->Act->World->Prop}{pds:List Pd}{σ:List (Nat×Value)}{N j:Nat}{dst:Option Tmp}{g:Option (Nat×Bool)}
  {t ty:TypeId}{x y:Operand}{pos:String}{af:Array Edge}{ι:Type}{V:ι->Value}{H:ι->HP}{ow:Nat->Nat}
def Gb:(Pd.own λow v w=>∃i,v=V i/\(H i).ok w (λk=>w0.heap.size<=k/\k<w.heap.size/\ow k=j)).MonoO:=
  ⟨λow v w w'⟨i,h1,h2⟩hc=>⟨i,h1,(H i).mono ((H i).keep h2 hc λ_ _=>id) λk hk hh=>⟨hh.1,hk,hh.2.2⟩⟩,
   λow ow' v w hag⟨i,h1,h2⟩=>⟨i,h1,(H i).mono h2 λk hk hh=>⟨hh.1,hh.2.1,by grind⟩⟩⟩
def LZ(o:Oper)(ho:ops[j]? =some o)(hG:Good ops pds [])(hF:FrS N σ a0)
  (hd:∀a w,Chg Non w0 w->gc ops pds ops.size j->(∀x v,x∈o.op.operands->envP ops σ pds j x=some v->a.eval x=v)->(∀t,Operand.tmp t∈o.op.operands->Know ops (TT ops pds) a0 j t (a.eval (.tmp t)) w)->Does P o a w λv w'=>(∃i,v=V i/\(H i).ok w' (λk=>w.heap.size<=k))/\Chg Non w w')
  (hpd:pds.getD j .any= .is λv w=>∃i,v=V i/\(H i).ok w (λk=>w0.heap.size<=k/\k<w.heap.size/\ow k=j)):NPO P ms ops pds a0 w0 Q ow j:=by
 intro o' ho' a w k _ _ hP hC hg hk K hK;rw[ho]at ho';obtain rfl:=Option.some.inj ho';refine hd a w hC hg (λx v hx hv=>Td hG hF ho hg hk hx hv) (λt ht=>hk t (WT ht)) K Q λv w'⟨⟨i,h1,h2⟩,h3⟩=>hK v w' ?_ h3 λx hx=>hP x (BD h3.size hx);rw[hpd];exact⟨i,h1,(H i).mono h2 λk hk hge=>⟨BD hC.size hge,hk,hP k hge⟩⟩
def IA(o:Oper)(ho:ops[j]? =some o)(hG:Good ops pds [])(hF:FrS N σ a0)
  (hd:∀a w,Chg Non w0 w->gc ops pds ops.size j->(∀x v,x∈o.op.operands->envP ops σ pds j x=some v->a.eval x=v)->Does P o a w λv w'=>(∃i,v=V i/\(H i).ok w' (λk=>w.heap.size<=k))/\Chg Non w w')
  (hpd:pds.getD j .any= .is λv w=>∃i,v=V i/\(H i).ok w (λk=>w0.heap.size<=k/\k<w.heap.size/\ow k=j)):NPO P ms ops pds a0 w0 Q ow j:=
 LZ o ho hG hF (λa w h1 h2 h3 _=>hd a w h1 h2 h3) hpd
def FK{α:Type}[Rep α]{E:TypeId}{n:Int}{zc:α}{r:List α}(hG:Good ops pds [])(hF:FrS N σ a0)(ht:P.underlying t=some (.slice E))(hE:ElT P E α)(hz:∀w,∀i,P.info? E=some i->∀z,i.zero=some z->Rep.ok w (λ_=>False) z.cells.toList zc)
  (ho:ops[j]? =some ⟨dst,.makeSlice t x y,ty,pos,af,g⟩)(hx:envP ops σ pds j x=some (.int .i64 n))(hy:envP ops σ pds j y=some (.int .i64 n))(hr:gc ops pds ops.size j->mk? n zc=some r)
  (hpd:pds.getD j .any= .is λv w=>∃i:Option Addr×Nat,v= .slice i.1 (List.length r) i.2/\(SL E (.slice i.1 (List.length r) i.2) r).ok w (λk=>w0.heap.size<=k/\k<w.heap.size/\ow k=j)):NPO P ms ops pds a0 w0 Q ow j:=
 IA (V:=λi:Option Addr×Nat=>.slice i.1 (List.length r) i.2) (H:=λi=>SL E (.slice i.1 (List.length r) i.2) r) _ ho hG hF (λa w _ hg hv=>by
  have hr:=hr hg;unfold mk? at hr;split at hr
  ·rename_i hn;simp only[Option.some.injEq]at hr;subst hr;obtain⟨v',w',go',hrun,h1,h2,g,rfl,hg⟩:=Nv (P:=P) (w:=w) (E:=E) (FF:=Non) (G:=λk=>w.heap.size<=k) ht hE (hz w) hn (CK _);obtain⟨a',c',rfl⟩:=h1.slice;refine Zg ?_ ⟨⟨(a',c'),rfl,.inl ⟨_,h1⟩⟩,h2⟩;simp_all[execOp,Op.operands]
  ·cases hr) hpd
theorem EZ{α:Type}[Rep α]{E:TypeId}{n:Nat}{parts:Array (Nat×Operand)}(cells:List Value)(css:List (List Value))(l:List α)(hG:Good ops pds [])(hF:FrS N σ a0)(ho:ops[j]? =some ⟨dst,.buildSlice t n parts,ty,pos,af,g⟩)
  (vals:List Value)(hv:parts.toList.map (λp=>envP ops σ pds j p.2)=vals.map some)
  (hrun:∀w,(Instr.buildSlice t n ((parts.toList.map (·.1)).zip vals).toArray).run P w= .ok (.slice (some ⟨w.heap.size,0,none⟩) n n) (w.alloc (.cells cells.toArray E)))
  (hcss:∀w,Css w Non css l)(hfl:css.flatten=cells)(hln:l.length=n)(hmax:Nat.ble l.length room=true)
  (hpd:pds.getD j .any= .is λv w=>∃i:Option Addr×Nat,v= .slice i.1 (List.length l) i.2/\(SL E (.slice i.1 (List.length l) i.2) l).ok w (λk=>w0.heap.size<=k/\k<w.heap.size/\ow k=j)):NPO P ms ops pds a0 w0 Q ow j:=
 IA (V:=λi:Option Addr×Nat=>.slice i.1 (List.length l) i.2) (H:=λi=>SL E (.slice i.1 (List.length l) i.2) l) _ ho hG hF (λa w _ hg hvv=>by
  have hmax':l.length<=maxLen:=by
   have:=Zaa hmax;grind[room,maxLen]
  have hown:=LX (w:=w) (E:=E) (G:=λk=>w.heap.size<=k) (FF:=Non) (hcss w) hfl hmax' (CK _) (λ_ _ h=>h);refine Zg (v:=.slice (some ⟨w.heap.size,0,none⟩) l.length l.length) (w':=w.alloc (.cells cells.toArray E)) ?_ ⟨⟨(some ⟨w.heap.size,0,none⟩,l.length),rfl,.inl ⟨_,hown⟩⟩,Chg.alloc _ _⟩;have e:(parts.map λp=>(p.1,a.eval p.2))=((parts.toList.map (·.1)).zip vals).toArray:=by
   have key:∀(ps:List (Nat×Operand))(vs:List Value),(∀p∈ps,p.2∈(Op.buildSlice t n parts).operands)->ps.map (λp=>envP ops σ pds j p.2)=vs.map some->ps.map (λp=>(p.1,a.eval p.2))=(ps.map (·.1)).zip vs:=by
    intro ps
    induction ps with
    |nil=>simp
    | cons p ps ih=>intro vs hm h;cases vs with
     |nil=>simp at h
     |cons v vs=>
      grind[List.cons.injEq,List.zip_cons_cons,List.mem_cons_of_mem,List.mem_cons_self]
   grind[Op.operands]
  simp_all[execOp]) hpd
def GY{f:FuncId}{xs:Array Operand}{ts:Array TypeId}(spec:List (Value⊕Nat))(hG:Good ops pds [])(hF:FrS N σ a0)(hf:∀(args:Array Value)(w:World),(callFunc f args).run P w= .ok (.enter f args) w)
  (ho:ops[j]? =some ⟨dst,.call ⟨.value (.func f),xs,ts⟩,ty,pos,af,g⟩)(hj:Nat.blt j ops.size=true)(hargs:xs.toList.map (argSpec ops σ pds j)=spec.map some)
  (hpd:pds.getD j .any= .is λv w=>∃i,v=V i/\(H i).ok w (λk=>w0.heap.size<=k/\k<w.heap.size/\ow k=j))
  (hc:∀w vs,Chg Non w0 w->gc ops pds ops.size j->SpecP pds w spec vs->Calls P f vs.toArray w λe w'=>∃v,e= .returned v/\Chg Non w w'/\∃i,v=V i/\(H i).ok w' (λk=>w.heap.size<=k)):NPO P ms ops pds a0 w0 Q ow j:=
 LZ _ ho hG hF (λa w hC hg hv hk=>by
  have h1:=OC (o:=⟨dst,.call ⟨.value (.func f),xs,ts⟩,ty,pos,af,g⟩) (xs:=xs.toList) hG hj hg (λx hx=>by simp_all[Op.operands,Call.operands]) hv hk hargs
  exact Tp (args:=(xs.toList.map a.eval).toArray) rfl hf ar ((hc w _ hC hg h1).mono λe w'⟨v,he,h2,h3⟩=>⟨v,he,h3,h2⟩)) hpd
def AllP{α:Type}(q:α->Prop):List α->Prop
 |[]=>True
 |x::l=>q x/\AllP q l
theorem AllP.mem{α:Type}{q:α->Prop}{x:α}:∀{l:List α},AllP q l->x∈l->q x
 |_::_,h,hm=>by
  cases hm with
  |head=>exact h.1
  |tail _ hm=>exact AllP.mem h.2 hm
theorem sepO{w:World}(l:List (Nat×HP))(hn:(l.map (·.1)).Nodup)(h:AllP (λp=>p.2.ok w (λk=>w0.heap.size<=k/\k<w.heap.size/\ow k=p.1)) l){L:List HP}(hL:l.map (·.2)=L):Sep L w (λk=>w0.heap.size<=k/\k<w.heap.size):=by
 subst hL;refine⟨λi k=>∃p,l[i]? =some p/\w0.heap.size<=k/\k<w.heap.size/\ow k=p.1,λi P hi=>?_,λi j k hne⟨p,hp,_,_,h1⟩⟨q,hq,_,_,h2⟩=>?_⟩
 ·rw[Bt]at hi;cases hp:l[i]? with
  |none=>simp_all
  |some p=>
   rw[hp]at hi;simp only[CJ,Option.some.injEq]at hi;subst hi;exact⟨p.2.mono (h.mem (CV hp)) λk _ hk=>⟨p,hp,hk⟩,λk⟨q,_,h1,h2,_⟩=>⟨h1,h2⟩⟩
 ·refine hne (LW hn (x:=p.1) ?_ ?_)
  all_goals grind
def FE{w w':World}(hc:Chg Non w w'):Stp w Non w' (λk=>w.heap.size<=k/\k<w'.heap.size):=⟨hc,λ_ hk=>.inr hk.1,λ_ hk=>hk.2⟩
def EndM.is{m:Nat}{a:Act}{w:World}(hE:EndM ops (TT ops pds) a0 m a w)(t i:Nat)(hl:lastW ops t m=some i)(hg:guardOf ops i=none):(pds.getD i .any).sat (a.eval (.tmp t)) w:=by
 have h1:=hE.2.2 t;unfold Know at h1;rw[hl]at h1;refine h1.1 ?_;have hi:=XD hl;obtain⟨m,hm⟩:∃m,ops.size=m+1:=⟨ops.size-1,by have:=Kb hi.2;omega⟩;simp_all[gc]
end
def Sep.front{α:Type}[Flat α]{w w0:World}{S S0 F F0:Nat->Prop}{L:List HP}{E:TypeId}{b:Option Addr}{len0 c:Nat}{n:Int}{l r:List α}(i:Nat)(hs:Sep L w S)(hM:Mem w0 S0 F0 w S F)(hL:L[i]? =some (SL E (.slice b len0 c) l))(hr:cut? l 0 n=some r):
  ∃S',Stp w S w S'/\Sep (L.set i (SL E (.slice b (List.length r) c) r)) w S':=by
 obtain⟨A,hok,hup⟩:=hs.upd i hL hM;unfold cut? at hr;split at hr
 ·simp only[Int.toNat_zero,BV,Option.some.injEq]at hr;have hlen:r.length=n.toNat:=by grind
  refine hup (P':=SL E (.slice b (List.length r) c) r) (Chg.refl _ _) ?_;rcases hok with⟨go,ho⟩|⟨rfl,b',hb'⟩
  ·obtain⟨a',c',hv⟩:=ho.slice;obtain⟨rfl,rfl,rfl⟩:=hv;refine .inl ⟨go,?_⟩;rw[hlen,<-hr];exact(ho.front O).regard λk _ hk=>.inl hk
  ·obtain⟨rfl,rfl,rfl⟩:=hb';have h0:r=[]:=by simp_all
   exact .inr ⟨h0,b,by rw[h0];rfl⟩
 ·cases hr
end Go.GL
namespace Go.GL
def Sep.relen{w:World}{S:Nat->Prop}{L:List HP}{α:Type}[Rep α]{E:TypeId}{a:Option Addr}{n c:Nat}{l:List α}(i:Nat)(h:Sep L w S)(hi:L[i]? =some (SL E (.slice a n c) l)):n=l.length/\Sep (L.set i (SL E (.slice a l.length c) l)) w S:=by
 obtain⟨A,h1,h2⟩:=h.get i hi;have e:n=l.length:=by
  rcases h1 with⟨go,h1⟩|⟨rfl,a',h1⟩
  ·obtain⟨a',c',hv⟩:=h1.slice;simp_all
  simp_all
 have:L.set i (SL E (.slice a l.length c) l)=L:=by
  apply BZ;grind
 simp_all
end Go.GL
namespace Go.GL
def Ga{α:Type}[Rep α]{w:World}{F:Nat->Prop}{a:Option Addr}{n c:Nat}{l:List α}(h:RV w F (.slice a n c) l)(ha:a=none):l=[]:=by
 obtain⟨a',c',hv,_,_,hne⟩:=h.slice;grind
def KJ{α:Type}{l r:List α}(hl:l=[])(h:((app? ([]:List α) l).bind λx=>some x)=some r):some ([]:List α)=some r:=by
 grind[app?]
def Ol{P:Program}(t:TypeId)(x y:Operand)(a b:Option Addr)(n m c d:Nat)(w:World):(eqGuard .eql t x y (.slice a n c) (.slice b m d)).run P w= .ok () w:=by
 rfl
def nil_eq{P:Program}{t e:TypeId}(ht:P.underlying t=some (.slice e))(a:Option Addr)(n c:Nat)(w:World):(binOp .eql t (.slice a n c) (.slice none 0 0)).run P w= .ok (.bool (Option.isNone a)) w:=by
 have h:(Op.equalIn (9999+1) t (.slice a n c) (.slice none 0 0)).run P w= .ok (Option.isNone a) w:=by
  unfold Op.equalIn;cases a<;>simp[run_underlying ht]
 simp_all[binOp,Op.equal,Op.maxDepth,Sem.run_bind,Sem.run_pure]
end Go.GL
namespace Go.GL
def HP.sep(L:List HP):HP:={ok:=Sep L,mono:=λh hA=>h.mono hA,keep:=λh hc hT=>h.keep hc hT}
def Sep.flat{w:World}{S:Nat->Prop}{L1 L2:List HP}(h:Sep (HP.sep L1::L2) w S):Sep (L1++L2) w S:=by
 obtain⟨A,R,h1,h2,h3,h4,h5⟩:=Sep.split (L1:=[HP.sep L1]) (L2:=L2) h;obtain⟨B,g1,g2⟩:=h1.get 0 rfl;exact Sep.join (L1:=L1) g1 h2 (λk _ ha hr=>h3 k (g2 k ha) hr) (λk _ h=>h4 k (g2 k h)) (λk _ h=>h5 k h)
section
variable{P:Program}{ops:Array Oper}{Q:Exit->Act->World->Prop}{a:Act}{w:World}{L:Array Bool}
def Jw{id:Nat}{l:List Oper}(hmix:P.follows .mixedOrders=true)(h:∀w',Chg Non w w'->wpAny P .any l.toArray Q l.toArray.size (Array.replicate l.toArray.size false) a w'):(Code.region id l.toArray true).wp P Q a w:=
 wp_region_any hmix (h _ (Chg.drew w))
def Yb{fuel:Nat}(rs:List Nat)(hr:Region.ready .any ops L=rs)(hne:rs≠[])(h:AllL (λi=>wpOp P ops Q i (wpAny P .any ops Q fuel (L.setIfInBounds i true)) a w) rs):wpAny P .any ops Q (fuel+1) L a w:=
 ⟨λh0=>absurd (hr.symm.trans h0) hne,λi hi=>h.mem ai⟩
theorem KO{o:Oper}{K' K:Act->World->Prop}(hk:∀a w,K' a w->K a w)(h:o.wp P a w K' (Exit.then K Q)):o.wp P a w K Q:=by
 unfold Oper.wp at*;generalize (execOp a.eval o).run P w=r at*;cases r with
 | ok n w=>
  cases n with
  |value v=>exact hk _ w h
  |skip=>exact hk _ w h
  |defer d=>exact hk _ w h
  |enter f args=>
   refine Calls.mono h λe w' he=>?_;cases e with
   |returned v=>simp_all
   |panicked c=>exact he
   |outgrown=>exact he
  |row r args=>exact Rows.mono h λv w' he=>hk _ w' he
  |_=>exact h
 |halt hh w=>
  cases hh with
  |panic v=>exact h
  |_=>exact h
def Zc{i:Nat}{K:Act->World->Prop}(o:Oper)(ho:ops[i]? =some o)(hg:o.guard=none)(h:wpFrom P #[o] (Exit.then K Q) 0 a w):wpOp P ops Q i K a w:=by
 unfold wpOp;simp only[ho];have hw:∀y,Region.wanted o y=true:=λy=>by simp_all[Region.wanted]
 rw[Cr (hw _)];unfold wpFrom at h;simp only[BV]at h;unfold wpList at h;rw[Cr (hw _)]at h;rcases h with h|⟨h1,h2⟩
 ·grind[KO,wpList,Exit.then]
 ·exact .inr ⟨h1,h2⟩
def takesB(ops:Array Oper):Array Bool->List Nat->Bool
 |_,[]=>true
 |L,i::is=>Region.free .any ops L i&&(Region.ready .any ops L).contains i&&takesB ops (L.setIfInBounds i true) is
theorem QP{N fuel:Nat}(hns:Region.noSelect ops=true)(hQ:∀c a d v w,Q (.panic c) (Act.put a (some d) v) w->Q (.panic c) a w):
  ∀(is:List Nat)(L:Array Bool)(σ σ1:List (Nat×Value))(a:Act),FrS N σ a->takesB ops L is=true->seqV P N (is.filterMap (ops[·]?)) σ=some σ1->(∀a',FrS N σ1 a'->wpAny P .any ops Q fuel (is.foldl (λL i=>L.setIfInBounds i true) L) a' w)->wpAny P .any ops Q (fuel+is.length) L a w
 |[],L,σ,σ1,a,hF,_,hs,h=>by
  simp_all[List.filterMap_nil,seqV,Option.some.injEq]
 | i ::is,L,σ,σ1,a,hF,ht,hs,h=>by
  simp only[takesB,Co]at ht;obtain⟨⟨h1,h2⟩,h3⟩:=ht;cases ho:ops[i]? with
  |none=>
   simp_all[Region.free]
  | some o=>
   rw[List.filterMap_cons,ho]at hs;unfold seqV at hs;split at hs
   ·rename_i d v hg hd hv;split at hs
    ·rename_i hdN;have hw:Region.wanted o (yielded ops a.tmps)=true:=by simp_all[Region.wanted]
     have hy:Yields P ops o v a:=.inl ⟨hw,λw=>TJ (P:=P) (ρ':=a.eval) (λx u hx=>Ze hF hx) hv w⟩;refine wpAny_take (fuel:=fuel+is.length) ho hns h1 h2 (λc a w=>by grind) hy ?_;rw[hd];exact QP hns hQ is _ _ σ1 _ (hF.put hdN v) h3 hs h
    ·cases hs
   ·cases hs
theorem KR{N fuel:Nat}(is:List Nat)(σ':List (Nat×Value)){σ:List (Nat×Value)}(hF:FrS N σ a)(hns:Region.noSelect ops=true)(ht:takesB ops L is=true)
  (hs:(seqV P N (is.filterMap (ops[·]?)) σ).map (λs=>σ'.map λp=>s.lookup p.1)=some (σ'.map λp=>some p.2))(hQ:∀c a d v w,Q (.panic c) (Act.put a (some d) v) w->Q (.panic c) a w)
  (h:∀a',FrS N σ' a'->wpAny P .any ops Q fuel (is.foldl (λL i=>L.setIfInBounds i true) L) a' w):wpAny P .any ops Q (fuel+is.length) L a w:=by
 cases hq:seqV P N (is.filterMap (ops[·]?)) σ with
 |none=>simp_all
 |some s=>
  rw[hq]at hs;simp only[CJ,Option.some.injEq]at hs;exact QP hns hQ is L σ s a hF ht hq λa' hF'=>h a' (hF'.sub σ' hs)
theorem NZ{fuel:Nat}(hr:Region.ready .any ops L=[])(h:Q .normal a w):wpAny P .any ops Q fuel L a w:=by
 cases fuel with
 |zero=>exact⟨hr,h⟩
 |succ n=>exact⟨λ_=>h,λi hi=>by simp_all⟩
end
end Go.GL
namespace Go.GL
def FB(w:World)(F:Nat->Prop)(b:Nat)(t:TypeId)(cs:List Value):Prop:=Box w b t cs/\F b
section
variable{w w' w0:World}{F F' F0 S S' S0:Nat->Prop}{b:Nat}{t:TypeId}{cs:List Value}
def FB.ext(h:FB w F b t cs)(hc:Chg Non w w'):FB w' F b t cs:=⟨h.1.ext hc,h.2⟩
def FB.stp(h:FB w F b t cs)(hM:Mem w0 S0 F0 w S F)(hp:Stp w S w' S'):FB w' F b t cs:=⟨h.1.chg hp.chg λhs=>hM.dj b hs h.2,h.2⟩
def FB.mem(h:FB w0 F0 b t cs)(hM:Mem w0 S0 F0 w S F):FB w F b t cs:=⟨h.1.chg hM.chg λhs=>hM.dj0 b hs h.2,hM.fz b h.2⟩
def FB.big(h:FB w F b t cs)(hf:∀k,F k->F' k):FB w F' b t cs:=⟨h.1,hf b h.2⟩
def FB.sub(h:FB w F b t cs)(hf:∀k,k<w.heap.size->F k->F' k):FB w F' b t cs:=⟨h.1,hf b h.1.lt h.2⟩
def RV.len{α:Type}[Rep α]{a:Option Addr}{n c:Nat}{l:List α}(h:RV w F (.slice a n c) l):n=l.length:=by
 obtain⟨a',c',hv,_⟩:=h.slice;simp_all
end
end Go.GL
namespace Go.GL
section
variable{P:Program}{a:Act}{w:World}{N:Nat}{σ:List (Nat×Value)}
def Gv{Q:Exit->Act->World->Prop}{x y:Code}{c:Operand}{b:Bool}(σ':List (Nat×Value))(hF:FrS N σ a)(hc:opd σ c=some (.bool b))(ht:b=true->x.wp P (λe a' w'=>e= .normal/\w'=w/\FrS N σ' a') a w)(hf:b=false->y.wp P (λe a' w'=>e= .normal/\w'=w/\FrS N σ' a') a w)
  (h:∀a',FrS N σ' a'->Q .normal a' w):(Code.cond c x y).wp P Q a w:=
 Gq hF hc (λhb=>wp_mono (ht hb) λe a' w'⟨h1,h2,h3⟩=>by simp_all) (λhb=>wp_mono (hf hb) λe a' w'⟨h1,h2,h3⟩=>by simp_all)
end
end Go.GL
namespace Go.GL
def FrS.eqs{N:Nat}{σ σ':List (Nat×Value)}{a:Act}(h:FrS N σ a)(e:σ=σ'):FrS N σ' a:=e▸h
end Go.GL
end
section
namespace Go.GL
open Go.RowKit
section
variable{P:Program}{ops:Array Oper}{Q:Exit->Act->World->Prop}{a:Act}{w:World}{N:Nat}{σ:List (Nat×Value)}{k d:Nat}{t yt ty:TypeId}{x y:Operand}{pos:String}{af:Array Edge}{m n z:Int}{kd kk:IntKind}{s:Str}
theorem KZ(ht:P.underlying t=some .string)(hz:sidx? s n=some z)(w:World):(Instr.index t s.val (.int kd n)).run P w= .ok (.int .u8 z) w:=by
 unfold sidx? at hz;split at hz
 ·rename_i h0;cases hb:s.bytes[n.toNat]? with
  |none=>rw[hb]at hz;cases hz
  | some b=>
   rw[hb]at hz;simp only[CJ,Option.some.injEq]at hz;subst hz;have e:(⟨s.bytes.toArray⟩:ByteArray)[n.toNat]? =some b:=by
    have hlt:n.toNat<s.bytes.length:=(CG.1 hb).1;have hlt':n.toNat<(⟨s.bytes.toArray⟩:ByteArray).size:=by simpa[ByteArray.size]using hlt
    rw[getElem?_pos (⟨s.bytes.toArray⟩:ByteArray) n.toNat hlt'];have:=(CG.1 hb).2;refine congrArg some ?_;rw[<-this];show(⟨s.bytes.toArray⟩:ByteArray).data[n.toNat]=_;simp
   simp[Instr.index,asIntOf,run_underlying ht,Str.val,h0,e]
 ·cases hz
def QT{o:Oper}(ho:o.op= .index t x y)(ht:P.underlying t=some .string)(hx:a.eval x=s.val)(hy:a.eval y= .int kd n)(hz:sidx? s n=some z):Does P o a w λv w'=>v= .int .u8 z/\w'=w:=by
 refine Zg (v:=.int .u8 z) (w':=w) ?_ ⟨rfl,rfl⟩;obtain⟨dst,op,type,pos,after,guard⟩:=o;simp only at ho;subst ho;simp[execOp,hx,hy,KZ ht hz w]
end
section
variable{P:Program}{draw:Bool}{ms:List Nat}{ops:Array Oper}{a0:Act}{w0:World}{Q:Exit->Act->World->Prop}{pds:List Pd}{σ:List (Nat×Value)}{N j:Nat}{dst:Option Tmp}{g:Option (Nat×Bool)}
  {t yt ty:TypeId}{x y:Operand}{pos:String}{af:Array Edge}{m n z:Int}{kd kk:IntKind}{s:Str}
def OY(hG:Good ops pds [])(hF:FrS N σ a0)(ht:P.underlying t=some .string)(ho:ops[j]? =some ⟨dst,.index t x y,ty,pos,af,g⟩)(hx:envP ops σ pds j x=some s.val)(hy:envP ops σ pds j y=some (.int kd n))
  (hz:gc ops pds ops.size j->sidx? s n=some z)(hpd:pds.getD j .any= .eq (.int .u8 z)):NPB P draw ms ops pds a0 w0 Q j:=
 Tx _ ho hG hF λ_ w _ hg hv _=>(QT rfl ht (hv x _ ae hx) (hv y _ ae hy) (hz hg)).mono λv w'⟨h1,h2⟩=>by
  subst h1;subst h2;rw[hpd];exact⟨rfl,Chg.refl _ _⟩
end
end Go.GL
end
section
namespace Go.GL
open Go.RowKit
section
variable{P:Program}{ops:Array Oper}{Q:Exit->Act->World->Prop}{a a0:Act}{w w0:World}{N:Nat}{σ:List (Nat×Value)}{k d j:Nat}{t ty:TypeId}{x y:Operand}{pos:String}{af:Array Edge}{α:Type}[Rep α]{b off:Nat}{bt:TypeId}{cs ps:List Value}
  {draw:Bool}{ms:List Nat}{pds:List Pd}{dst:Option Tmp}{g:Option (Nat×Bool)}
def Box.part(h:Box w b bt cs)(hp:(cs.drop off).take ps.length=ps):Cells w ⟨b,off,none⟩ ps:=λj u hu=>by
 have e:(⟨b,off,none⟩:Addr).add j=(⟨b,0,none⟩:Addr).add (off+j):=by grind[Addr.add]
 rw[e];refine h.cells (off+j) u ?_;grind
end
section
variable{P:Program}{draw:Bool}{ms:List Nat}{ops:Array Oper}{a0:Act}{w0:World}{Q:Exit->Act->World->Prop}{pds:List Pd}{σ:List (Nat×Value)}{N j:Nat}{dst:Option Tmp}{g:Option (Nat×Bool)}
  {t ty:TypeId}{x y:Operand}{pos:String}{af:Array Edge}{ow:Nat->Nat}
open Classical in
def OB:(Pd.is λv(_:World)=>∃b,v= .slice b 0 0).Mono Non:=λ_ _ _ h _=>h
section
open Go.Maps
variable{k e:TypeId}{κ β:Type}[Flat κ][Flat β][DecidableEq κ](T:MapT P k e κ β)
end
end
end Go.GL
namespace Go.GL
open Go.RowKit
section
variable{P:Program}{draw:Bool}{ms:List Nat}{ops:Array Oper}{a0:Act}{w0:World}{Q:Exit->Act->World->Prop}{pds:List Pd}{σ:List (Nat×Value)}{N j:Nat}{dst:Option Tmp}{g:Option (Nat×Bool)}
  {t ty:TypeId}{pos:String}{af:Array Edge}
end
end Go.GL
end
section
namespace Go.GL
open Go.RowKit
structure Hd where
 a:Option Addr
 n:Nat
 c:Nat
def Hd.v(h:Hd):Value:=.slice h.a h.n h.c
instance:Rep Hd where
 sz:=1
 agg:=false
 ok:=λ_ _ cs x=>cs=[x.v]
 len:=by simp
 one:=by rintro w F cs x rfl u hu;simp at hu;subst hu;rfl
 pos:=by decide
 sgl:=λ_=>rfl
 keep:=λh _=>h
instance:Flat Hd where
 enc:=λx=>[x.v]
 iff:=Iff.rfl
def HP.pure(p:Prop):HP:={ok:=λ_ _=>p,mono:=λh _=>h,keep:=λh _ _=>h}
def HP.ex{ι:Type}(P:ι->HP):HP:={ok:=λw A=>∃i,(P i).ok w A,mono:=λ⟨i,h⟩hA=>⟨i,(P i).mono h hA⟩,keep:=λ⟨i,h⟩hc hT=>⟨i,(P i).keep h hc hT⟩}
def HP.two(P Q:HP):HP where
 ok w A:=∃B C:Nat->Prop,P.ok w B/\Q.ok w C/\(∀k,B k->C k->False)/\∀k,B k\/C k->A k
 mono:=λ{w A A'}⟨B,C,h1,h2,h3,h4⟩hA=>⟨λk=>B k/\k<w.heap.size,λk=>C k/\k<w.heap.size,P.mono h1 λ_ hk h=>⟨h,hk⟩,Q.mono h2 λ_ hk h=>⟨h,hk⟩,λk h h'=>h3 k h.1 h'.1,λk h=>h.elim (λh=>hA k h.2 (h4 k (.inl h.1))) λh=>hA k h.2 (h4 k (.inr h.1))⟩
 keep:=λ⟨B,C,h1,h2,h3,h4⟩hc hT=>⟨B,C,P.keep h1 hc λk h=>hT k (h4 k (.inl h)),Q.keep h2 hc λk h=>hT k (h4 k (.inr h)),h3,h4⟩
def HP.all{R α:Type}(own:R->α->HP):List R->List α->HP
 |[],[]=>.pure True
 |r::rs,x::xs=>.two (own r x) (HP.all own rs xs)
 |_,_=>.pure False
def HP.but{R α:Type}(own:R->α->HP)(i:Nat)(rs:List R)(xs:List α):HP:=.two (.all own (rs.take i) (xs.take i)) (.all own (rs.drop (i+1)) (xs.drop (i+1)))
section
variable{w:World}{A:Nat->Prop}{P Q P' Q':HP}
def HP.big{A':Nat->Prop}(h:P.ok w A)(hA:∀k,A k->A' k):P.ok w A':=P.mono h λk _=>hA k
def UZ(h1:∀A,P.ok w A->P'.ok w A)(h2:∀A,Q.ok w A->Q'.ok w A)(h:(HP.two P Q).ok w A):(HP.two P' Q').ok w A:=by
 obtain⟨B,C,a,b,c,d⟩:=h;exact⟨B,C,h1 B a,h2 C b,c,d⟩
theorem UT(h:(HP.two P Q).ok w A):(HP.two Q P).ok w A:=by
 obtain⟨B,C,a,b,c,d⟩:=h;exact⟨C,B,b,a,λk h h'=>c k h' h,λk h=>d k h.symm⟩
def RS{R:HP}(h:(HP.two P (.two Q R)).ok w A):(HP.two (.two P Q) R).ok w A:=by
 obtain⟨B,C,a,⟨D,E,b,c,d,e⟩,f,g⟩:=h;exact⟨λk=>B k\/D k,E,⟨B,D,a,b,λk h h'=>f k h (e k (.inl h')),λ_ h=>h⟩,c,λk h h'=>h.elim (λh=>f k h (e k (.inr h'))) λh=>d k h h',λk h=>g k (h.elim (λh=>h.elim .inl λh=>.inr (e k (.inl h))) λh=>.inr (e k (.inr h)))⟩
def Tk(h:(HP.two P Q).ok w A):P.ok w A:=by
 obtain⟨B,C,a,b,c,d⟩:=h;exact P.big a λk hk=>d k (.inl hk)
theorem Te(h:(HP.two P Q).ok w A):Q.ok w A:=Tk (UT h)
def QH(h:P.ok w A)(hq:Q.ok w Non):(HP.two P Q).ok w A:=⟨A,Non,h,hq,λ_ _ h=>h.elim,λ_ h=>h.elim id λh=>h.elim⟩
def LP(h:Q.ok w A)(hp:P.ok w Non):(HP.two P Q).ok w A:=UT (QH h hp)
variable{R α:Type}{own:R->α->HP}{rs rs':List R}{xs xs':List α}
theorem SF(h:(HP.all own rs xs).ok w A):rs.length=xs.length:=by
 induction rs generalizing xs A with
 |nil=>cases xs with
  |nil=>rfl
  |cons=>exact h.elim
 |cons r rs ih=>cases xs with
  |nil=>exact h.elim
  |cons x xs=>simp[ih (Te h)]
theorem all_append(h:(HP.two (.all own rs xs) (.all own rs' xs')).ok w A):(HP.all own (rs++rs') (xs++xs')).ok w A:=by
 induction rs generalizing xs A with
 |nil=>cases xs with
  |nil=>grind[Te]
  |cons=>exact(Tk h).elim
 | cons r rs ih=>cases xs with
  |nil=>exact(Tk h).elim
  |cons x xs=>
   obtain⟨B,C,⟨D,E,a,b,c,d⟩,e,f,g⟩:=h;exact⟨D,λk=>E k\/C k,a,ih ⟨E,C,b,e,λk h h'=>f k (d k (.inr h)) h',λ_ h=>h⟩,λk h h'=>h'.elim (c k h) (f k (d k (.inl h))),λk h=>g k (h.elim (λh=>.inl (d k (.inl h))) λh=>h.elim (λh=>.inl (d k (.inr h))) .inr)⟩
theorem Jy(n:Nat)(h:(HP.all own rs xs).ok w A):(HP.two (.all own (rs.take n) (xs.take n)) (.all own (rs.drop n) (xs.drop n))).ok w A:=by
 induction rs generalizing xs A n with
 |nil=>cases xs with
  |nil=>simp only[List.take_nil,List.drop_nil];exact QH h trivial
  |cons=>exact h.elim
 | cons r rs ih=>cases xs with
  |nil=>exact h.elim
  | cons x xs=>
   cases n with
   |zero=>exact LP h trivial
   |succ n=>
    obtain⟨B,C,a,b,c,d⟩:=h;exact RS ⟨B,C,a,ih n b,c,d⟩
def all_cons{r:R}{x:α}:HP.all own (r::rs) (x::xs)= .two (own r x) (.all own rs xs):=rfl
def OA{i:Nat}{r:R}{x:α}(h:(HP.all own rs xs).ok w A)(hr:rs[i]? =some r)(hx:xs[i]? =some x):(HP.two (own r x) (.but own i rs xs)).ok w A:=by
 have h1:=Jy i h;have e1:rs.drop i=r::rs.drop (i+1):=by
  grind[List.getElem?_eq_some_iff,List.drop_eq_getElem_cons]
 have e2:xs.drop i=x::xs.drop (i+1):=by
  grind[List.getElem?_eq_some_iff,List.drop_eq_getElem_cons]
 rw[e1,e2,all_cons]at h1;have h2:=RS h1;have h3:=UZ (λA h=>UT h) (λA h=>h) h2;obtain⟨B,C,⟨D,E,a,b,c,d⟩,e,f,g⟩:=h3;exact⟨D,λk=>E k\/C k,a,⟨E,C,b,e,λk h h'=>f k (d k (.inr h)) h',λ_ h=>h⟩,λk h h'=>h'.elim (c k h) (f k (d k (.inl h))),λk h=>g k (h.elim (λh=>.inl (d k (.inl h))) λh=>h.elim (λh=>.inl (d k (.inr h))) .inr)⟩
def Fa{i:Nat}{r:R}{x:α}(hi:i<rs.length)(hi':i<xs.length)(h:(HP.two (own r x) (.but own i rs xs)).ok w A):(HP.all own (rs.set i r) (xs.set i x)).ok w A:=by
 have e1:rs.set i r=rs.take i++(r::rs.drop (i+1)):=by simp_all[AP,Cr]
 have e2:xs.set i x=xs.take i++(x::xs.drop (i+1)):=by simp_all[AP,Cr]
 rw[e1,e2];refine all_append ?_;have h1:=RS h;have h2:=UZ (λA h=>UT h) (λA h=>h) h1;obtain⟨B,C,⟨D,E,a,b,c,d⟩,e,f,g⟩:=h2;exact⟨D,λk=>E k\/C k,a,⟨E,C,b,e,λk h h'=>f k (d k (.inr h)) h',λ_ h=>h⟩,λk h h'=>h'.elim (c k h) (f k (d k (.inl h))),λk h=>g k (h.elim (λh=>.inl (d k (.inl h))) λh=>h.elim (λh=>.inl (d k (.inr h))) .inr)⟩
theorem FJ{i:Nat}{r:R}{x:α}(hi:i<xs.length)(h:(HP.two (own r x) (.all own rs xs)).ok w A):(HP.all own (rs.set i r) (xs.set i x)).ok w A:=by
 have hl:=SF (Te h);refine Fa O hi (UZ (λ_ h=>h) (λA h=>?_) h);obtain⟨r0,hr0⟩:∃r0,rs[i]? =some r0:=⟨rs[i],Cv O⟩;obtain⟨x0,hx0⟩:∃x0,xs[i]? =some x0:=⟨xs[i],Cv hi⟩;exact Te (OA h hr0 hx0)
def Kt{i:Nat}{r:R}{x:α}(h:(HP.all own rs xs).ok w A)(hr:rs[i]? =some r)(hx:xs[i]? =some x):(own r x).ok w A:=Tk (OA h hr hx)
theorem KP{r:R}{x:α}(hr:∀w,(own r x).ok w Non)(n:Nat)(w:World):(HP.all own (List.replicate n r) (List.replicate n x)).ok w Non:=by
 induction n with
 |zero=>trivial
 |succ n ih=>exact QH (hr w) ih
end
section
variable{w w0:World}{S S0 F F0:Nat->Prop}{L:List HP}{P Q R:HP}
def Sep.cons_ok(h:Sep (P::L) w S):∃A B,P.ok w A/\Sep L w B/\(∀k,A k->B k->False)/\(∀k,A k->S k)/\∀k,B k->S k:=by
 obtain⟨A,B,h1,h2,h3,h4,h5⟩:=Sep.split (L1:=[P]) (L2:=L) h;obtain⟨C,g1,g2⟩:=h1.get 0 rfl;grind
theorem Sep.of_ok{A:Nat->Prop}(h:P.ok w A):Sep [P] w A:=⟨λi k=>i=0/\A k,λi Q hi=>by
  cases i with
  |zero=>simp_all
  |succ i=>simp at hi,λi j k hne hi hj=>hne (hi.1.trans hj.1.symm)⟩
theorem Sep.mk_cons{A B:Nat->Prop}(h1:P.ok w A)(h2:Sep L w B)(hd:∀k,A k->B k->False)(hA:∀k,A k->S k)(hB:∀k,B k->S k):Sep (P::L) w S:=
 Sep.join (L1:=[P]) (Sep.of_ok h1) h2 (λk _=>hd k) (λk _=>hA k) (λk _=>hB k)
def Sep.imp(h:Sep (P::L) w S)(hi:∀A,P.ok w A->Q.ok w A):Sep (Q::L) w S:=by
 obtain⟨A,B,h1,h2,h3,h4,h5⟩:=h.cons_ok;grind[Sep.mk_cons]
def Sep.emp(P:HP)(h:Sep L w S)(hp:P.ok w Non):Sep (P::L) w S:=Sep.mk_cons hp h (λ_ h=>h.elim) (λ_ h=>h.elim) λ_ h=>h
def Sep.swap(h:Sep (P::Q::L) w S):Sep (Q::P::L) w S:=by
 obtain⟨A,B,h1,h2,h3,h4,h5⟩:=h.cons_ok;obtain⟨C,D,g1,g2,g3,g4,g5⟩:=h2.cons_ok;exact Sep.mk_cons (B:=λk=>A k\/D k) g1 (Sep.mk_cons h1 g2 (λk h h'=>h3 k h (g5 k h')) (λ_ h=>.inl h) λ_ h=>.inr h) (λk h h'=>h'.elim (λh'=>h3 k h' (g4 k h)) (g3 k h)) (λk h=>h5 k (g4 k h)) λk h=>h.elim (h4 k) λh=>h5 k (g5 k h)
def Sep.two(h:Sep (HP.two P Q::L) w S):Sep (P::Q::L) w S:=by
 obtain⟨A,B,⟨C,D,a,b,c,d⟩,h2,h3,h4,h5⟩:=h.cons_ok;refine Sep.mk_cons (S:=S) (B:=λk=>D k\/B k) a (Sep.mk_cons b h2 (λk h h'=>h3 k (d k (.inr h)) h') (λ_ h=>.inl h) λ_ h=>.inr h) (λk h h'=>h'.elim (c k h) (h3 k (d k (.inl h)))) (λk h=>h4 k (d k (.inl h))) λk h=>h.elim (λh=>h4 k (d k (.inr h))) (h5 k)
def Sep.join2(h:Sep (P::Q::L) w S):Sep (HP.two P Q::L) w S:=by
 obtain⟨A,B,h1,h2,h3,h4,h5⟩:=h.cons_ok;obtain⟨C,D,g1,g2,g3,g4,g5⟩:=h2.cons_ok;exact Sep.mk_cons (A:=λk=>A k\/C k) ⟨A,C,h1,g1,λk h h'=>h3 k h (g4 k h'),λ_ h=>h⟩ g2 (λk h h'=>h.elim (λh=>h3 k h (g5 k h')) λh=>g3 k h h') (λk h=>h.elim (h4 k) λh=>h5 k (g4 k h)) λk h=>h5 k (g5 k h)
theorem Sep.merge(h:Sep (P::Q::L) w S)(hi:∀A,(HP.two P Q).ok w A->R.ok w A):Sep (R::L) w S:=h.join2.imp hi
def Sep.shut{ι:Type}{P:ι->HP}(i:ι)(h:Sep (P i::L) w S):Sep (HP.ex P::L) w S:=h.imp λ_ h=>⟨i,h⟩
end
section
variable{w:World}{A:Nat->Prop}{R α:Type}[Flat R]{own:R->α->HP}{E:TypeId}{v:Value}{rs:List R}{xs:List α}
theorem Hg(h:(HP.two (SL E v rs) (.all own rs xs)).ok w A):∃a c,v= .slice a xs.length c:=by
 obtain⟨B,C,h1,h2,h3,h4⟩:=h;rw[<-SF h2];rcases h1 with⟨go,h1⟩|⟨rfl,a,rfl⟩
 ·exact h1.slice
 simp
end
section
variable{w:World}{S:Nat->Prop}{L:List HP}{R α:Type}{own:R->α->HP}{rs:List R}{xs:List α}
def Sep.dlen(j:Nat)(h:Sep L w S)(hj:L[j]? =some (.all own rs xs)):rs.length=xs.length:=by
 obtain⟨A,h1,_⟩:=h.get j hj;grind[SF]
end
section
variable{w:World}{A:Nat->Prop}{R α:Type}[Flat R][Rep α]{own:R->α->HP}{E:TypeId}{v:Value}{rs:List R}{xs:List α}
structure Owns(own:R->α->HP):Prop where
 sz:Rep.sz R=Rep.sz α
 agg:Rep.agg R=Rep.agg α
 rv:∀w A r x,(own r x).ok w A->Rep.ok w A (Flat.enc r) x
theorem FU(ho:Owns own)(h:(HP.two (SL E v rs) (.all own rs xs)).ok w A):RV w A v xs:=by
 obtain⟨B,C,h1,h2,h3,h4⟩:=h;have hl:=SF h2;rcases h1 with⟨go,h1⟩|⟨rfl,a,rfl⟩
 ·obtain⟨F,css,g1,g2,g3,g4,g5⟩:=h1
  have hcss:Css w C css xs:=⟨g1.1.trans hl,λi cs x hcs hx=>by
   have hlt:i<rs.length:=by grind
   have:=g1.2 i cs rs[i] hcs (Cv hlt);rw[Flat.iff.1 this]
   exact ho.rv w C _ x (Kt h2 (Cv hlt) hx)⟩
  have hcb:Css w (λk=>C k/\k<w.heap.size) css xs:=hcss.keep λk hk hc=>⟨rfl,hc,hk⟩;have:OwnS w E go B C v xs:=⟨λk=>C k/\k<w.heap.size,css,hcb,by rw[<-ho.sz,<-hl];exact g2,g3,λg hg=>⟨(g4 g hg).1,λhc=>h3 g (g4 g hg).1 hc.1⟩,λk hk=>hk⟩;exact this.rv.sub λk _ hk=>hk.elim (λhk=>h4 k (.inl hk.2)) λhk=>h4 k (.inr hk)
 ·have:xs=[]:=BS hl.symm;subst this;exact RV.mk_slice (l:=([]:List α)) (CK _) (BP _) λh=>absurd rfl h
end
end Go.GL
namespace Go.GL
open Go.RowKit
def mk?_raw{α β:Type}{n:Int}{z:α}{z':β}{r:List α}(h:mk? n z=some r):mk? n z'=some (List.replicate r.length z')/\r=List.replicate r.length z:=by
 grind[mk?]
def app?_raw{α β:Type}{l m r:List α}{l' m':List β}(h:app? l m=some r)(hl:l'.length=l.length)(hm:m'.length=m.length):app? l' m'=some (l'++m')/\r=l++m:=by
 simp_all[app?]
def set?_raw{α β:Type}{l r:List α}{l':List β}{i:Int}{x:α}(y:β)(h:set? l i x=some r)(hl:l'.length=l.length):set? l' i y=some (l'.set i.toNat y)/\r=l.set i.toNat x/\i.toNat<l.length:=by
 simp_all[set?]
section
variable{P:Program}{ops:Array Oper}{Q:Exit->Act->World->Prop}{a:Act}{w w0:World}{S S0 F F0:Nat->Prop}{N:Nat}{σ:List (Nat×Value)}{k d:Nat}{t ty:TypeId}{x:Operand}{pos:String}{af:Array Edge}
  {L:List HP}{R α:Type}[Flat R]{own:R->α->HP}{E:TypeId}
end
section
variable{P:Program}{ops:Array Oper}{Q:Exit->Act->World->Prop}{a:Act}{w w0:World}{S S0 F F0:Nat->Prop}{N:Nat}{σ:List (Nat×Value)}{k d d':Nat}{t ty:TypeId}{x y:Operand}{pos:String}{af:Array Edge}
  {L:List HP}{R α:Type}[Flat R]{own:R->α->HP}{E:TypeId}{v u:Value}{rs rs2:List R}{xs ms:List α}
end
end Go.GL
namespace Go.GL
open Go.RowKit
structure VW(sz:Nat)(b:Option Addr)(c:Nat)(lo:Int)(a':Option Addr)(c':Nat):Prop where
 nn:0<=lo
 addr:a'=(if c=lo.toNat then b else b.map (·.add (lo.toNat*sz)))
 cap:c'=c-lo.toNat
section
variable{P:Program}{ops:Array Oper}{Q:Exit->Act->World->Prop}{a:Act}{w w0:World}{S S0 F F0:Nat->Prop}{N:Nat}{σ:List (Nat×Value)}{k d d':Nat}{t ty:TypeId}{x y:Operand}{pos:String}{af:Array Edge}
  {L:List HP}{E:TypeId}
end
end Go.GL
end
section
namespace Go.GL
open Go.RowKit
section
variable{P:Program}{ops:Array Oper}{Q:Exit->Act->World->Prop}{a:Act}{w w0:World}{S S0 F F0:Nat->Prop}{N:Nat}{σ:List (Nat×Value)}{k d:Nat}{t ty:TypeId}{x y:Operand}{pos:String}{af:Array Edge}
  {L:List HP}{E:TypeId}{α:Type}[Flat α]{l m:List α}{b a':Option Addr}{n0 c c' n:Nat}{lo:Int}{u:Value}
end
end Go.GL
namespace Go.GL
open Go.RowKit
section
variable{P:Program}{ops:Array Oper}{Q:Exit->Act->World->Prop}{a:Act}{w w0:World}{S S0 F F0:Nat->Prop}{N:Nat}{σ:List (Nat×Value)}{k:Nat}{t ty:TypeId}{x:Operand}{pos:String}{af:Array Edge}
  {L:List HP}{E:TypeId}{α:Type}[Flat α]{l:List α}{b a':Option Addr}{n0 c c' n:Nat}{lo:Int}
end
end Go.GL
end
section
namespace Go.GL
open Go.RowKit
def Sep.swapT{w:World}{S:Nat->Prop}{L:List HP}{Q Q':HP}(i:Nat)(h:Sep L w S)(hi:L[i]? =some Q)(f:∀A,Q.ok w A->Q'.ok w A):Sep (L.set i Q') w S:=by
 obtain⟨g,h1,h2⟩:=h;refine⟨g,λj R hj=>?_,h2⟩;grind
def VW.zero{b:Option Addr}{c:Nat}:VW 1 b c 0 b c:=by
 refine⟨Int.le_refl _,?_,by simp⟩;simp[Addr.add]
section
variable{P:Program}{ops:Array Oper}{Q:Exit->Act->World->Prop}{a:Act}{w w0:World}{S S0 F F0:Nat->Prop}{N:Nat}{σ:List (Nat×Value)}{k d:Nat}{t t' ty E:TypeId}{x y:Operand}{pos:String}{af:Array Edge}
  {L:List HP}
def Cells.ext{w':World}{ad:Addr}{cs:List Value}(h:Cells w ad cs)(hc:Chg Non w w'):Cells w' ad cs:=λj u hu=>by
 have h1:=h j u hu;have hb:(ad.add j).block<w.heap.size:=by
  grind[World.cell?,Array.getElem?_eq_none]
 rw[<-h1];unfold World.cell?;rw[hc.block _ hb id]
theorem Uw{t j:Nat}{b:Bool}{o:Oper}(hF:FrS N σ a)(ho:ops[j]? =some o)(hd:o.dst=some t)(ht:Nat.blt t N=true)(hv:opd σ (.tmp t)=some (.bool b)):yielded ops a.tmps j=some b:=by
 have h1:=Ze hF hv;have h2:=hF.size;simp_all[bool,Bv,Act.eval,yielded,Cm]
theorem MI{ops ops':Array Oper}(hy:∀j:Nat,(ops[j]?).bind (·.dst)=(ops'[j]?).bind (·.dst)):∀(l:List Oper),wpList P ops Q l=wpList P ops' Q l:=by
 intro l
 induction l with
 |nil=>rfl
 | cons o l ih=>
  funext a w;have:yielded ops a.tmps=yielded ops' a.tmps:=by
   grind[yielded]
  simp_all[wpList]
def Je{g t:Nat}{want:Bool}{o og:Oper}(hF:FrS N σ a)(ho:ops[k]? =some o)(hg:o.guard=some (g,want))(hog:ops[g]? =some og)(ht:og.dst=some t)(htN:Nat.blt t N=true)(hv:opd σ (.tmp t)=some (.bool want))
  (h:wpFrom P (ops.toList.set k {o with guard:=none}).toArray Q k a w):wpFrom P ops Q k a w:=by
 have hk:k<ops.toList.length:=by grind
 have e:ops.toList[k]=o:=by
  grind
 have hw:Region.wanted o (yielded ops a.tmps)=true:=by
  grind[Region.wanted,Uw]
 unfold wpFrom at h⊢;have hy:∀j:Nat,(ops[j]?).bind (·.dst)=((ops.toList.set k {o with guard:=none}).toArray[j]?).bind (·.dst):=λj=>by
  grind
 have hdrop:(ops.toList.set k {o with guard:=none}).toArray.toList.drop k={o with guard:=none}::ops.toList.drop (k+1):=by
  grind[List.drop_eq_getElem_cons,List.drop_set_of_lt]
 rw[hdrop]at h;rw[Bf hk,e];unfold wpList at h⊢;rw[Cr hw];rw[Cr aJ,<-MI hy]at h;exact h
def MM{l:List Oper}{g t:Nat}{want:Bool}{o og:Oper}(hF:FrS N σ a)(ho:l[k]? =some o)(hg:o.guard=some (g,want))(hog:l[g]? =some og)(ht:og.dst=some t)(htN:Nat.blt t N=true)(hv:opd σ (.tmp t)=some (.bool want))
  (h:wpFrom P (l.set k {o with guard:=none}).toArray Q k a w):wpFrom P l.toArray Q k a w:=
 Je hF ai hg ai ht htN hv h
def KU{g t d:Nat}{want b:Bool}{o og:Oper}(hF:FrS N σ a)(ho:ops[k]? =some o)(hg:o.guard=some (g,want))(hog:ops[g]? =some og)(ht:og.dst=some t)(htN:Nat.blt t N=true)(hv:opd σ (.tmp t)=some (.bool b))(hb:(b==want)=false)
  (hd:o.dst=some d)(hdN:Nat.blt d N=true)(h:∀fr,FrS N ((d,undef)::σ) fr->wpFrom P ops Q (k+1) fr w):wpFrom P ops Q k a w:=by
 have hk:k<ops.toList.length:=by grind
 have e:ops.toList[k]=o:=by
  grind
 have hw:Region.wanted o (yielded ops a.tmps)=false:=by
  simpa[Region.wanted,hg,Uw hF hog ht htN hv]using hb
 unfold wpFrom at h⊢;rw[Bf hk,e];unfold wpList;have:=h _ (hF.put (Bc.mp hdN) undef);simp_all
def Ri{β:Type}{b:Bool}{x y r:β}(h:(if b=true then x else y)=r):(b=true/\x=r)\/(b=false/\y=r):=by
 grind
def Jb{b:Bool}{c:Operand}{v:Value}(ho:ops[k]? =some ⟨some d,.pick c x y,ty,pos,af,none⟩)(hd:Nat.blt d N=true)(hF:FrS N σ a)(hc:opd σ c=some (.bool b))(hv:opd σ (if b then x else y)=some v)
  (h:∀fr,FrS N ((d,v)::σ) fr->wpFrom P ops Q (k+1) fr w):wpFrom P ops Q k a w:=by
 refine ZB hF ho rfl rfl (Bc.mp hd) (R:=λz w'=>z=v/\w'=w) (Zg (v:=v) (w':=w) ?_ ⟨rfl,rfl⟩) λz w' fr hz hF'=>?_
 ·have h1:=Ze hF hc;have h2:=Ze hF hv;cases b<;>simp_all[execOp,asBool]
 simp_all
end
def Ew{P:Program}{a b c:Str}(h:cat? a b=some c)(t:TypeId)(w:World):(binOp .add t a.val b.val).run P w= .ok c.val w:=by
 unfold cat? at h;split at h
 ·rename_i hl;simp only[Option.some.injEq]at h;subst h;have e:(⟨a.bytes.toArray⟩:ByteArray)++(⟨b.bytes.toArray⟩:ByteArray)=⟨(a.bytes++b.bytes).toArray⟩:=by
   apply ByteArray.ext;simp
  have hs:¬((((⟨a.bytes.toArray⟩:ByteArray).size+(⟨b.bytes.toArray⟩:ByteArray).size:Nat):Int)>IntKind.i64.max):=by
   have h1:(⟨a.bytes.toArray⟩:ByteArray).size=a.bytes.length:=by simp[ByteArray.size]
   have h2:(⟨b.bytes.toArray⟩:ByteArray).size=b.bytes.length:=by simp[ByteArray.size]
   have h3:IntKind.i64.max=9223372036854775807:=by decide
   rw[h1,h2,h3];omega
  simp only[Str.val,binOp,Op.stringOp,Cu hs,e];rfl
 ·cases h
section
variable{P:Program}{draw:Bool}{ms:List Nat}{ops:Array Oper}{a0:Act}{w0:World}{Q:Exit->Act->World->Prop}{pds:List Pd}{σ:List (Nat×Value)}{N j:Nat}{dst:Option Tmp}{g:Option (Nat×Bool)}
  {t yt ty:TypeId}{x y:Operand}{pos:String}{af:Array Edge}{s1 s2 s3:Str}
def ET(hG:Good ops pds [])(hF:FrS N σ a0)(ho:ops[j]? =some ⟨dst,.binOp .add t x y yt,ty,pos,af,g⟩)(hx:envP ops σ pds j x=some s1.val)(hy:envP ops σ pds j y=some s2.val)
  (hz:gc ops pds ops.size j->cat? s1 s2=some s3)(hpd:pds.getD j .any= .eq s3.val):NPB P draw ms ops pds a0 w0 Q j:=MQ hG hF ho hx hy (λw=>by simp[eqGuard]) (λh w=>Ew (hz h) _ w) hpd
end
open Go.RowKit Go.Sort
structure TB(P:Program)(name:String)(k:IntKind)(zs:List Int)(w:World)(F:Nat->Prop):Prop where
 tab:Lib.TabIs P w name k zs
 blk:∃g,P.globalNamed name=some g/\F g
section
variable{P:Program}{name:String}{k:IntKind}{zs:List Int}{w w' w0:World}{S S0 S' F F0 F':Nat->Prop}
def TB.lt(h:TB P name k zs w F){g:Nat}(hg:P.globalNamed name=some g):g<w.heap.size:=by
 have h1:=h.tab;unfold Lib.TabIs World.var? at h1;rw[hg,Cm]at h1;by_cases hlt:g<w.heap.size
 ·exact hlt
 ·rw[BH O]at h1;cases h1
def TB.chg(h:TB P name k zs w F)(hc:Chg S w w')(hd:∀j,F j->¬S j):TB P name k zs w' F:=by
 obtain⟨g,hg,hF⟩:=h.blk;refine⟨?_,g,hg,hF⟩;have h1:=h.tab;unfold Lib.TabIs World.var? at h1⊢;rw[hg,Cm]at h1⊢;rw[hc.block g (h.lt hg) (hd g hF)];exact h1
def TB.ext(h:TB P name k zs w F)(hc:Chg Non w w'):TB P name k zs w' F:=h.chg hc λ_ _=>id
def TB.stp(h:TB P name k zs w F)(hM:Mem w0 S0 F0 w S F)(hp:Stp w S w' S'):TB P name k zs w' F:=h.chg hp.chg λj hf hs=>hM.dj j hs hf
def TB.big(h:TB P name k zs w F)(hf:∀j,F j->F' j):TB P name k zs w F':=by
 obtain⟨g,hg,hF⟩:=h.blk;exact⟨h.tab,g,hg,hf g hF⟩
def TB.sub(h:TB P name k zs w F)(hf:∀j,j<w.heap.size->F j->F' j):TB P name k zs w F':=by
 obtain⟨g,hg,hF⟩:=h.blk;exact⟨h.tab,g,hg,hf g (h.lt hg) hF⟩
def TB.mem(h:TB P name k zs w0 F0)(hM:Mem w0 S0 F0 w S F):TB P name k zs w F:=(h.chg hM.chg λj hf hs=>hM.dj0 j hs hf).big hM.fz
theorem TB.of(h:Lib.TabIs P w name k zs)(hF:∀j,j<w.heap.size->F j):TB P name k zs w F:=by
 have h1:=h;unfold Lib.TabIs World.var? at h1;cases hg:P.globalNamed name with
 |none=>rw[hg]at h1;cases h1
 |some g=>
  have key:TB P name k zs w (λ_=>True):=⟨h,g,hg,trivial⟩;exact⟨h,g,hg,hF g (key.lt hg)⟩
def Gf(w:World)(k:Nat)(os:Array Obj):Chg Non w (grow (w.drewN k) os):=
 ⟨rfl,rfl,rfl,by simp[grow,World.drewN],λj hj _=>by
  show(w.heap++os)[j]? =w.heap[j]?
  rw[Zal hj]⟩
end
section
variable{P:Program}{draw:Bool}{ms:List Nat}{ops:Array Oper}{a0:Act}{w0:World}{Q:Exit->Act->World->Prop}{pds:List Pd}{σ:List (Nat×Value)}{N j:Nat}{dst:Option Tmp}{g:Option (Nat×Bool)}
  {t t' E ty:TypeId}{pos:String}{af:Array Edge}{ow:Nat->Nat}
end
structure VI(P:Program)(name:String)(cs:Array Value)(w:World)(F:Nat->Prop):Prop where
 var:w.var? P name=some cs
 blk:∃g,P.globalNamed name=some g/\F g
section
variable{P:Program}{name:String}{cs:Array Value}{w w' w0:World}{S S0 S' F F0 F':Nat->Prop}
def VI.lt(h:VI P name cs w F){g:Nat}(hg:P.globalNamed name=some g):g<w.heap.size:=by
 have h1:=h.var;grind[World.var?,Array.getElem?_eq_none]
def VI.chg(h:VI P name cs w F)(hc:Chg S w w')(hd:∀j,F j->¬S j):VI P name cs w' F:=by
 obtain⟨g,hg,hF⟩:=h.blk;refine⟨?_,g,hg,hF⟩;have h1:=h.var;unfold World.var? at h1⊢;rw[hg,Cm]at h1⊢;rw[hc.block g (h.lt hg) (hd g hF)];exact h1
def VI.sub(h:VI P name cs w F)(hf:∀j,j<w.heap.size->F j->F' j):VI P name cs w F':=by
 obtain⟨g,hg,hF⟩:=h.blk;exact⟨h.var,g,hg,hf g (h.lt hg) hF⟩
def VI.cell{x:Value}(h:VI P name #[x] w F){g:Nat}(hg:P.globalNamed name=some g):w.cell? ⟨g,0,none⟩=some x:=by
 have h1:=h.var;grind[World.var?,World.cell?]
theorem VI.of(h:w.var? P name=some cs)(hF:∀j,j<w.heap.size->F j):VI P name cs w F:=by
 have h1:=h;unfold World.var? at h1;cases hg:P.globalNamed name with
 |none=>simp_all
 |some g=>
  have key:VI P name cs w (λ_=>True):=⟨h,g,hg,trivial⟩;exact⟨h,g,hg,hF g (key.lt hg)⟩
end
structure TX(P:Program)(w:World)(F:Nat->Prop):Prop where
 pow:VI P "internal/strconv.uint64pow10" (Lib.pow10Tab.map λz=>Value.int .u64 z).toArray w F
 max:∃m,VI P "internal/bytealg.MaxLen" #[.int .i64 m] w F
 syn:∃t p,VI P "strconv.ErrSyntax" #[.iface t p] w F
 rng:∃t p,VI P "strconv.ErrRange" #[.iface t p] w F
section
variable{P:Program}{w w' w0:World}{S S0 S' F F0 F':Nat->Prop}
def TX.chg(h:TX P w F)(hc:Chg S w w')(hd:∀j,F j->¬S j):TX P w' F:=by
 obtain⟨h1,⟨m,h2⟩,⟨t,p,h3⟩,⟨t',p',h4⟩⟩:=h;exact⟨h1.chg hc hd,⟨m,h2.chg hc hd⟩,⟨t,p,h3.chg hc hd⟩,⟨t',p',h4.chg hc hd⟩⟩
def TX.sub(h:TX P w F)(hf:∀j,j<w.heap.size->F j->F' j):TX P w F':=by
 obtain⟨h1,⟨m,h2⟩,⟨t,p,h3⟩,⟨t',p',h4⟩⟩:=h;exact⟨h1.sub hf,⟨m,h2.sub hf⟩,⟨t,p,h3.sub hf⟩,⟨t',p',h4.sub hf⟩⟩
def TX.tab(h:TX P w F):Lib.TabIs P w "internal/strconv.uint64pow10" .u64 Lib.pow10Tab:=h.pow.var
def TX.ext(h:TX P w F)(hc:Chg Non w w'):TX P w' F:=h.chg hc λ_ _=>id
def TX.stp(h:TX P w F)(hM:Mem w0 S0 F0 w S F)(hp:Stp w S w' S'):TX P w' F:=h.chg hp.chg λj hf hs=>hM.dj j hs hf
def TX.big(h:TX P w F)(hf:∀j,F j->F' j):TX P w F':=h.sub λj _=>hf j
def TX.mem(h:TX P w0 F0)(hM:Mem w0 S0 F0 w S F):TX P w F:=(h.chg hM.chg λj hf hs=>hM.dj0 j hs hf).big hM.fz
end
instance:Rep D.Ins where
 sz:=4
 agg:=true
 ok:=λ_ _ cs x=>cs=[.int .i64 x.Op,.int .i64 x.A,.int .i64 x.B,.int .i64 x.C]
 len:=by rintro w F cs x rfl;rfl
 one:=by rintro w F cs x rfl u hu;simp at hu;rcases hu with rfl|rfl|rfl|rfl<;>rfl
 pos:=by decide
 sgl:=λh=>by cases h
 keep:=λh _=>h
instance:Flat D.Ins where
 enc:=λx=>[.int .i64 x.Op,.int .i64 x.A,.int .i64 x.B,.int .i64 x.C]
 iff:=Iff.rfl
instance:Rep D.Program where
 sz:=4
 agg:=true
 ok:=λw F cs x=>∃v3:Value,cs=[.int .i64 x.W,.int .i64 x.Mem,.int .i64 x.In,v3]/\Rep.ok w F [v3] x.Code
 len:=by rintro w F cs x ⟨v3,rfl,h3⟩;rfl
 one:=by
  rintro w F cs x ⟨v3,rfl,h3⟩ u hu;simp at hu;rcases hu with rfl|rfl|rfl|rfl
  ·rfl
  ·rfl
  ·rfl
  ·exact Rep.one h3 _ U
 pos:=by decide
 sgl:=λh=>by cases h
 keep:=by
  rintro w w' F F' cs x ⟨v3,rfl,h3⟩ hk;exact⟨v3,rfl,Rep.keep h3 hk⟩
def RV.Program{w:World}{F:Nat->Prop}{v:Value}{x:D.Program}(h:RV w F v x):∃v3:Value,v= .agg #[.int .i64 x.W,.int .i64 x.Mem,.int .i64 x.In,v3]/\RV w F v3 x.Code:=by
 obtain⟨cs,⟨v3,rfl,h3⟩,rfl⟩:=h;exact⟨v3,rfl,RV.of_one rfl h3⟩
instance:Rep D.Value where
 sz:=3
 agg:=true
 ok:=λ_ _ cs x=>cs=[(Str.val x.Name),.int .i64 x.W,.int .i64 x.N]
 len:=by rintro w F cs x rfl;rfl
 one:=by rintro w F cs x rfl u hu;simp at hu;rcases hu with rfl|rfl|rfl<;>rfl
 pos:=by decide
 sgl:=λh=>by cases h
 keep:=λh _=>h
instance:Flat D.Value where
 enc:=λx=>[(Str.val x.Name),.int .i64 x.W,.int .i64 x.N]
 iff:=Iff.rfl
mutual
def okTerm(w:World)(F:Nat->Prop)(cs:List Value):D.Term->Prop
 |⟨y0,y1,y2,y3,kids⟩=>∃(a:Option Addr)(cp:Nat),cs=[.int .i64 y0,.int .i64 y1,.int .i64 y2,(Str.val y3),.slice a kids.length cp]/\kids.length<=cp/\cp<=maxLen/\(kids≠[]->∃ad,a=some ad/\F ad.block/\elsTerm w F ad 0 kids)
def elsTerm(w:World)(F:Nat->Prop)(ad:Addr)(i:Nat):List D.Term->Prop
 |[]=>True
 |x::xs=>(∃cs,okTerm w F cs x/\Cells w (ad.add (i*5)) cs)/\elsTerm w F ad (i+1) xs
end
theorem TY{w:World}{F:Nat->Prop}{cs:List Value}:∀{t:D.Term},okTerm w F cs t->cs.length=5
 |⟨y0,y1,y2,y3,kids⟩,h=>by
  unfold okTerm at h;obtain⟨a,cp,rfl,_⟩:=h;rfl
mutual
theorem Qf{w w':World}{F F':Nat->Prop}(hk:∀k,k<w.heap.size->F k->w'.heap[k]? =w.heap[k]? /\F' k){cs:List Value}:∀(t:D.Term),okTerm w F cs t->okTerm w' F' cs t
 | ⟨y0,y1,y2,y3,kids⟩,h=>by
  unfold okTerm at h⊢;obtain⟨a,cp,rfl,h1,h2,h3⟩:=h;refine⟨a,cp,rfl,h1,h2,λhn=>?_⟩;obtain⟨ad,rfl,hF,he⟩:=h3 hn;have hlt:ad.block<w.heap.size:=by
   cases kids with
   |nil=>exact absurd rfl hn
   |cons x xs=>
    unfold elsTerm at he;obtain⟨⟨cs,h4,h5⟩,_⟩:=he;have:=h5.lt (by intro e;have:=TY h4;rw[e]at this;cases this)
    rwa [add_block]at this
  exact⟨ad,rfl,(hk _ hlt hF).2,Sl hk ad hF kids 0 he⟩
theorem Sl{w w':World}{F F':Nat->Prop}(hk:∀k,k<w.heap.size->F k->w'.heap[k]? =w.heap[k]? /\F' k)(ad:Addr)(hF:F ad.block):∀(l:List D.Term)(i:Nat),elsTerm w F ad i l->elsTerm w' F' ad i l
 |[],_,_=>by unfold elsTerm;trivial
 | x::xs,i,h=>by
  unfold elsTerm at h⊢;obtain⟨⟨cs,h1,h2⟩,h3⟩:=h;have hlt:ad.block<w.heap.size:=by
   have:=h2.lt (by intro e;have:=TY h1;rw[e]at this;cases this)
   rwa [add_block]at this
  exact⟨⟨cs,Qf hk x h1,h2.keep λ_=>by rw[add_block];exact(hk _ hlt hF).1⟩,Sl hk ad hF xs (i+1) h3⟩
end
instance:Rep D.Term where
 sz:=5
 agg:=true
 ok:=λw F cs x=>okTerm w F cs x
 len:=TY
 one:=by
  rintro w F cs ⟨y0,y1,y2,y3,kids⟩ h u hu;unfold okTerm at h;obtain⟨a,cp,rfl,_⟩:=h;simp at hu;rcases hu with rfl|rfl|rfl|rfl|rfl<;>rfl
 pos:=by decide
 sgl:=λh=>by cases h
 keep:=λh hk=>Qf hk _ h
theorem UU{w:World}{F:Nat->Prop}{ad:Addr}:∀{l:List D.Term}{i:Nat},elsTerm w F ad i l↔elems w F ad i l
 |[],i=>by unfold elsTerm elems;exact Iff.rfl
 |x::xs,i=>by
  unfold elsTerm elems;rw[UU (l:=xs)];exact Iff.rfl
def RV.Term{w:World}{F:Nat->Prop}{v:Value}{x:D.Term}(h:RV w F v x):∃v4:Value,v= .agg #[.int .i64 x.Op,.int .i64 x.W,.int .i64 x.N,(Str.val x.Name),v4]/\RV w F v4 x.Kids:=by
 obtain⟨cs,h,rfl⟩:=h;obtain⟨y0,y1,y2,y3,kids⟩:=x;have h:okTerm w F cs ⟨y0,y1,y2,y3,kids⟩:=h;unfold okTerm at h;obtain⟨a,cp,rfl,h1,h2,h3⟩:=h;refine⟨_,rfl,RV.mk_slice h1 h2 λhn=>?_⟩;obtain⟨ad,h4,h5,h6⟩:=h3 hn;exact⟨ad,h4,h5,UU.1 h6⟩
def RV.mk_Term{w:World}{F:Nat->Prop}(x:D.Term){v4:Value}(h:RV w F v4 x.Kids):RV w F (.agg #[.int .i64 x.Op,.int .i64 x.W,.int .i64 x.N,(Str.val x.Name),v4]) x:=by
 obtain⟨y0,y1,y2,y3,kids⟩:=x;obtain⟨a,cp,rfl,h1,h2,h3⟩:=RV.slice h;refine⟨_,show okTerm w F [.int .i64 y0,.int .i64 y1,.int .i64 y2,(Str.val y3),.slice a kids.length cp] ⟨y0,y1,y2,y3,kids⟩from ?_,rfl⟩;unfold okTerm;refine⟨a,cp,rfl,h1,h2,λhn=>?_⟩;obtain⟨ad,h4,h5,h6⟩:=h3 hn;exact⟨ad,h4,h5,UU.2 h6⟩
instance:Rep D.Path where
 sz:=10
 agg:=true
 ok:=λw F cs x=>∃v1 v2 v3 v5 v8 v9:Value,cs=[.int .i64 x.Pc,v1,v2,v3,.int .i64 x.In,v5,.int .i64 x.Code,.int .i64 x.Steps,v8,v9]/\Rep.ok w F [v1] x.Regs/\Rep.ok w F [v2] x.Mem/\Rep.ok w F [v3] x.Stack/\Rep.ok w F [v5] x.Out/\Rep.ok w F [v8] x.Cond/\Rep.ok w F [v9] x.Turns
 len:=by rintro w F cs x ⟨v1,v2,v3,v5,v8,v9,rfl,h1,h2,h3,h5,h8,h9⟩;rfl
 one:=by
  rintro w F cs x ⟨v1,v2,v3,v5,v8,v9,rfl,h1,h2,h3,h5,h8,h9⟩ u hu;simp at hu;rcases hu with rfl|rfl|rfl|rfl|rfl|rfl|rfl|rfl|rfl|rfl
  ·rfl
  ·exact Rep.one h1 _ U
  ·exact Rep.one h2 _ U
  ·exact Rep.one h3 _ U
  ·rfl
  ·exact Rep.one h5 _ U
  ·rfl
  ·rfl
  ·exact Rep.one h8 _ U
  ·exact Rep.one h9 _ U
 pos:=by decide
 sgl:=λh=>by cases h
 keep:=by
  rintro w w' F F' cs x ⟨v1,v2,v3,v5,v8,v9,rfl,h1,h2,h3,h5,h8,h9⟩ hk;exact⟨v1,v2,v3,v5,v8,v9,rfl,Rep.keep h1 hk,Rep.keep h2 hk,Rep.keep h3 hk,Rep.keep h5 hk,Rep.keep h8 hk,Rep.keep h9 hk⟩
def RV.Path{w:World}{F:Nat->Prop}{v:Value}{x:D.Path}(h:RV w F v x):∃v1 v2 v3 v5 v8 v9:Value,v= .agg #[.int .i64 x.Pc,v1,v2,v3,.int .i64 x.In,v5,.int .i64 x.Code,.int .i64 x.Steps,v8,v9]/\RV w F v1 x.Regs/\RV w F v2 x.Mem/\RV w F v3 x.Stack/\RV w F v5 x.Out/\RV w F v8 x.Cond/\RV w F v9 x.Turns:=by
 obtain⟨cs,⟨v1,v2,v3,v5,v8,v9,rfl,h1,h2,h3,h5,h8,h9⟩,rfl⟩:=h;exact⟨v1,v2,v3,v5,v8,v9,rfl,RV.of_one rfl h1,RV.of_one rfl h2,RV.of_one rfl h3,RV.of_one rfl h5,RV.of_one rfl h8,RV.of_one rfl h9⟩
def RV.mk_Path{w:World}{F:Nat->Prop}(x:D.Path){v1 v2 v3 v5 v8 v9:Value}(h1:RV w F v1 x.Regs)(h2:RV w F v2 x.Mem)(h3:RV w F v3 x.Stack)(h5:RV w F v5 x.Out)(h8:RV w F v8 x.Cond)(h9:RV w F v9 x.Turns):RV w F (.agg #[.int .i64 x.Pc,v1,v2,v3,.int .i64 x.In,v5,.int .i64 x.Code,.int .i64 x.Steps,v8,v9]) x:=
 ⟨[.int .i64 x.Pc,v1,v2,v3,.int .i64 x.In,v5,.int .i64 x.Code,.int .i64 x.Steps,v8,v9],⟨v1,v2,v3,v5,v8,v9,rfl,RV.one rfl h1,RV.one rfl h2,RV.one rfl h3,RV.one rfl h5,RV.one rfl h8,RV.one rfl h9⟩,rfl⟩
instance:Rep D.State where
 sz:=8
 agg:=true
 ok:=λw F cs x=>∃v1 v2 v3 v5:Value,cs=[.int .i64 x.Pc,v1,v2,v3,.int .i64 x.In,v5,.int .i64 x.Code,.int .i64 x.Steps]/\Rep.ok w F [v1] x.Regs/\Rep.ok w F [v2] x.Mem/\Rep.ok w F [v3] x.Stack/\Rep.ok w F [v5] x.Out
 len:=by rintro w F cs x ⟨v1,v2,v3,v5,rfl,h1,h2,h3,h5⟩;rfl
 one:=by
  rintro w F cs x ⟨v1,v2,v3,v5,rfl,h1,h2,h3,h5⟩ u hu;simp at hu;rcases hu with rfl|rfl|rfl|rfl|rfl|rfl|rfl|rfl
  ·rfl
  ·exact Rep.one h1 _ U
  ·exact Rep.one h2 _ U
  ·exact Rep.one h3 _ U
  ·rfl
  ·exact Rep.one h5 _ U
  ·rfl
  ·rfl
 pos:=by decide
 sgl:=λh=>by cases h
 keep:=by
  rintro w w' F F' cs x ⟨v1,v2,v3,v5,rfl,h1,h2,h3,h5⟩ hk;exact⟨v1,v2,v3,v5,rfl,Rep.keep h1 hk,Rep.keep h2 hk,Rep.keep h3 hk,Rep.keep h5 hk⟩
def RV.State{w:World}{F:Nat->Prop}{v:Value}{x:D.State}(h:RV w F v x):∃v1 v2 v3 v5:Value,v= .agg #[.int .i64 x.Pc,v1,v2,v3,.int .i64 x.In,v5,.int .i64 x.Code,.int .i64 x.Steps]/\RV w F v1 x.Regs/\RV w F v2 x.Mem/\RV w F v3 x.Stack/\RV w F v5 x.Out:=by
 obtain⟨cs,⟨v1,v2,v3,v5,rfl,h1,h2,h3,h5⟩,rfl⟩:=h;exact⟨v1,v2,v3,v5,rfl,RV.of_one rfl h1,RV.of_one rfl h2,RV.of_one rfl h3,RV.of_one rfl h5⟩
structure Agg(n:Nat)where
 cs:List Value
instance{n:Nat}:Rep (Agg n)where
 sz:=n+1
 agg:=true
 ok:=λ_ _ cs _=>cs.length=n+1/\∀u∈cs,u.oneCell'=true
 len:=λh=>h.1
 one:=λh=>h.2
 pos:=Nat.succ_pos n
 sgl:=λh=>by cases h
 keep:=λh _=>h
def cellN(P:Program)(t:TypeId):Option (Nat×Bool):=
 match P.info? t,P.underlying t with
 |some i,some (.struct _)=>some (i.size,true)
 |some i,some (.array _ _)=>none
 |some i,some _=>some (i.size,false)
 |_,_=>none
def loadV(P:Program)(t:TypeId)(off:Nat)(cs:List Value):Option Value:=
 match cellN P t with
 |some (n+1,true)=>if Nat.beq ((cs.drop off).take (n+1)).length (n+1)then some (.agg ((cs.drop off).take (n+1)).toArray)else none
 |some (1,false)=>cs[off]?
 |_=>none
theorem Og{P:Program}{t:TypeId}{off b:Nat}{bt:TypeId}{cs:List Value}{v:Value}{w:World}(h:loadV P t off cs=some v)(hb:Box w b bt cs):(loadVar t ⟨b,off,none⟩).run P w= .ok v w:=by
 unfold loadV cellN at h;cases hi:P.info? t with
 |none=>simp_all
 | some i=>
  cases hu:P.underlying t with
  |none=>simp_all
  | some dd=>
   have key:∀(n:Nat),i.size=n+1->(P.underlying t=some dd)->(match P.underlying t with|some (.struct _)=>true|some (.array _ _)=>true|some _=>false|none=>!true)=true->Ty P t (Agg n):=λn hn _ ha=>⟨by rw[hi];exact congrArg some hn,ha⟩;have agg:∀n,i.size=n+1->Ty P t (Agg n)->(if Nat.beq ((cs.drop off).take (n+1)).length (n+1)then some (Value.agg ((cs.drop off).take (n+1)).toArray)else none)=some v->(loadVar t ⟨b,off,none⟩).run P w= .ok v w:=by
    intro n hn hT h;split at h
    ·rename_i hlen;have hlen:=Ap hlen;obtain rfl:=Option.some.inj h;have hp:=hb.part (off:=off) (ps:=(cs.drop off).take (n+1)) (by rw[hlen]);exact YT hT hlen hp
    ·cases h
   cases dd with
   |struct fs=>
    grind
   |array _ _=>simp_all
   | _=>
    simp only[hi,hu]at h;have hT:i.size=1->Ty P t Int:=λh1=>⟨by rw[hi];exact congrArg some h1,by rw[hu];rfl⟩;split at h
    ·simp_all
    ·rename_i heq;simp only[Option.some.injEq,Prod.mk.injEq,AZ]at heq;have hc:Cells w ⟨b,off,none⟩ [v]:=λj u hj=>by
      cases j with
      |zero=>
       simp only[BA,Option.some.injEq]at hj;subst hj;have:(⟨b,off,none⟩:Addr).add 0=⟨b,off,none⟩:=by rfl
       rw[this,hb.cell];exact h
      |succ j=>simp at hj
     exact YT (hT heq) (cs:=[v]) rfl hc
    ·cases h
abbrev Bxs:=List (Nat×List Value)
def Bxs.at(bx:Bxs)(w:World):Prop:=∀p∈bx,∃t,Box w p.1 t p.2
def evB(P:Program)(bx:Bxs)(ρ:Operand->Option Value)(h:Option Nat)(o:Op):Option (Value×List (Nat×Nat)):=
 match h with
 |none=>(pe P ρ o).map λv=>(v,[])
 | some i=>
  match o with
  |.load t x=>
   match ρ x,bx[i]? with
   |some (.pointer (some ⟨b,off,none⟩)),some (b',cs)=>(loadV P t off cs).map λv=>(v,[(b,b')])
   |_,_=>none
  |_=>none
def seqB(P:Program)(N:Nat)(bx:Bxs)(hs:List (Nat×Nat)):Nat->List Oper->List (Nat×Value)->Option (List (Nat×Value)×List (Nat×Nat))
 |_,[],σ=>some (σ,[])
 |j,o::os,σ=>
  match o.guard,o.dst,evB P bx (opd σ) (hs.lookup j) o.op with
  |none,some d,some (v,e)=>if d<N then(seqB P N bx hs (j+1) os ((d,v)::σ)).map λr=>(r.1,e++r.2)else none
  |_,_,_=>none
def okB{α:Type}(o:Option (α×List (Nat×Nat))):Prop:=o.map (λr=>r.2.map (·.1))=some ((o.map (λr=>r.2.map (·.2))).getD [])
theorem LM{α:Type}{o:Option (α×List (Nat×Nat))}(h:okB o):∃x e,o=some (x,e)/\∀p∈e,p.1=p.2:=by
 unfold okB at h;cases o with
 |none=>cases h
 |some r=>
  obtain⟨x,e⟩:=r;simp only[CJ,Bh,Option.some.injEq]at h;exact⟨x,e,rfl,λp hp=>Br.1 h p hp⟩
section
variable{P:Program}{ops:Array Oper}{Q:Exit->Act->World->Prop}{a:Act}{w:World}{N:Nat}{σ:List (Nat×Value)}{bx:Bxs}{hs:List (Nat×Nat)}
theorem EY{ρ:Operand->Option Value}{o:Oper}{h:Option Nat}{v:Value}{e:List (Nat×Nat)}{K:Act->World->Prop}(hρ:∀x v,ρ x=some v->a.eval x=v)(hbx:bx.at w)(he:evB P bx ρ h o.op=some (v,e))(heq:∀p∈e,p.1=p.2)
  (hK:K (a.put o.dst v) w):o.wp P a w K Q:=by
 unfold evB at he;cases h with
 | none=>
  cases hp:pe P ρ o.op with
  |none=>simp_all
  |some u=>
   rw[hp]at he;obtain⟨rfl,rfl⟩:=he;unfold Oper.wp;rw[TJ (P:=P) (ρ':=a.eval) hρ hp w];exact hK
 | some i=>
  simp only at he;split at he
  ·rename_i t x ho;split at he
   ·rename_i b off b' cs hx hi;cases hl:loadV P t off cs with
    |none=>simp_all
    | some u=>
     rw[hl]at he;simp only[CJ,Option.some.injEq,Prod.mk.injEq]at he;obtain⟨rfl,rfl⟩:=he;obtain⟨bt,hB⟩:=hbx _ (CV hi);have hr:=Og hl hB;unfold Oper.wp;have:(execOp a.eval o).run P w= .ok (.value u) w:=by
      simp_all[execOp,Instr.loadAt,Instr.sureAddr]
     rw[this];exact hK
   ·cases he
  ·cases he
theorem TV{rest:List Oper}(hbx:bx.at w):∀{l:List Oper}{j:Nat}{σ σ1:List (Nat×Value)}{e:List (Nat×Nat)}{a:Act},FrS N σ a->seqB P N bx hs j l σ=some (σ1,e)->(∀p∈e,p.1=p.2)->(∀a',FrS N σ1 a'->wpList P ops Q rest a' w)->wpList P ops Q (l++rest) a w
 |[],j,σ,σ1,e,a,hF,hs,_,h=>by
  simp_all[seqB,Option.some.injEq,Prod.mk.injEq]
 | o ::l,j,σ,σ1,e,a,hF,hs,he,h=>by
  unfold seqB at hs;split at hs
  ·rename_i d v e1 hg hd hv;split at hs
   ·rename_i hdN;cases hr:seqB P N bx _ (j+1) l ((d,v)::σ)with
    |none=>rw[hr]at hs;cases hs
    |some r=>
     rw[hr]at hs;obtain⟨rfl,rfl⟩:=hs;refine wpList_plain hg λK hK=>EY (λx u hx=>Ze hF hx) hbx hv (λp hp=>he p (CQ.2 (.inl hp))) (hK _ _ ?_);rw[hd];exact TV hbx (hF.put hdN v) hr (λp hp=>he p (CQ.2 (.inr hp))) h
   ·cases hs
  ·cases hs
end
def pureB(P:Program)(bx:Bxs)(hs:List (Nat×Nat))(ops:Array Oper)(σ:List (Nat×Value))(pds:List Pd)(j:Nat):Option (Value×List (Nat×Nat)):=
 match hs.lookup j with
 |none=>(pureV P ops σ pds j).map λv=>(v,[])
 |some i=>
  match ops[j]? with
  |some o=>evB P bx (envP ops σ pds j) (some i) o.op
  |none=>none
def pdsB(P:Program)(bx:Bxs)(hs:List (Nat×Nat))(ops:Array Oper)(σ:List (Nat×Value))(np:List (Nat×Pd)):Nat->List Pd
 |0=>[]
 | n+1=>pdsB P bx hs ops σ np n++[match np.lookup n with|some p=>p|none=>match pureB P bx hs ops σ (pdsB P bx hs ops σ np n) n with|some v=>.eq v.1|none=>.any]
def pdsM(P:Program)(bx:Bxs)(hs:List (Nat×Nat))(ops:Array Oper)(σ:List (Nat×Value))(np:List (Nat×Pd))(m:Nat):List Pd:=pdsB P bx hs ops σ np m++List.replicate (ops.size-m) .any
def freeI(np:List (Nat×Pd))(m:Nat):List Nat:=(List.range m).filter λj=>(np.lookup j).isNone
def isPB(hs:List (Nat×Nat))(np:List (Nat×Pd))(m:Nat):List Bool:=(List.range m).map λj=>(np.lookup j).isNone&&(hs.lookup j).isNone
def outS(ops:Array Oper)(σ:List (Nat×Value))(pds:List Pd)(m:Nat):List (Nat×Value):=
 ((List.range m).filterMap λi=>match(ops[i]?).bind (·.dst),guardOf ops i,valAt pds i with
  |some d,none,some v=>if lastW ops d m==some i then some (d,v)else none
  |_,_,_=>none)++σ.filter λp=>(lastW ops p.1 m).isNone
section
variable{P:Program}{bx:Bxs}{hs:List (Nat×Nat)}{ops:Array Oper}{σ:List (Nat×Value)}{np:List (Nat×Pd)}{pds:List Pd}{m:Nat}
theorem UH:∀n,(pdsB P bx hs ops σ np n).length=n
 |0=>rfl
 |n+1=>by simp[pdsB,UH n]
theorem Me:∀n j,j<n->∀p,np.lookup j=some p->(pdsB P bx hs ops σ np n).getD j .any=p
 |0,j,h,_,_=>absurd h (Nat.not_lt_zero _)
 | n+1,j,h,p,hp=>by
  unfold pdsB;rw[CR];rcases Al j n with h1|h1
  ·rw[Be (by simp_all[UH]),<-CR];exact Me n j h1 p hp
  ·obtain rfl:j=n:=by omega
   simp_all[Bg,UH,CK,AJ]
def VB{j:Nat}(h:j<m){p:Pd}(hp:np.lookup j=some p):(pdsM P bx hs ops σ np m).getD j .any=p:=by
 unfold pdsM;rw[CR,Be (by simp_all[UH]),<-CR];grind[Me]
theorem JG{j:Nat}(h:m<=j):(pdsM P bx hs ops σ np m).getD j .any= .any:=by
 grind[pdsM,List.getElem?_append_right,UH]
theorem WS{t:Nat}{v:Value}{f:Nat->Bool}:∀{σ:List (Nat×Value)},(σ.filter λp=>f p.1).lookup t=some v->f t=true/\σ.lookup t=some v
 |[],h=>by cases h
 | (k,u)::σ,h=>by
  rw[List.filter_cons]at h;by_cases e:t=k
  ·subst e;by_cases hf:f t=true
   ·simp_all
   ·rw[Cu O]at h;exact absurd (WS h).1 hf
  ·have e':(t==k)=false:=by simpa using e
   have h2:(σ.filter λp=>f p.1).lookup t=some v:=by
    grind
   rw[CO,e'];exact WS h2
theorem Mo{t:Nat}{v:Value}(h:(outS ops σ pds m).lookup t=some v):outVm ops σ pds m t=some v:=by
 unfold outS at h;rw[List.lookup_append]at h;unfold outVm
 cases h1:((List.range m).filterMap λi=>match(ops[i]?).bind (·.dst),guardOf ops i,valAt pds i with
  |some d,none,some v=>if lastW ops d m==some i then some (d,v)else none
  |_,_,_=>none).lookup t with
 |some u=>
  have hm:=VA h1;grind
 |none=>
  rw[h1]at h;obtain⟨h2,h3⟩:=WS (f:=λk=>(lastW ops k m).isNone) h;simp_all
theorem Ra{p:Nat->Prop}:∀{l:List Nat},(∀j∈l,p j)->AllL p l
 |[],_=>trivial
 |j::_,h=>⟨h j CZ,Ra λi hi=>h i (CX _ hi)⟩
theorem MJ{N:Nat}{a a':Act}{w:World}(hF:FrS N σ a)(hE:EndM ops (TT ops pds) a m a' w){t:Nat}{v:Value}(h:outVm ops σ pds m t=some v):a'.eval (.tmp t)=v:=by
 have h1:=hE.2.2 t;unfold Know at h1;unfold outVm at h;cases hl:lastW ops t m with
 |none=>simp only[hl]at h h1;rw[h1];exact hF.get t v h
 | some i=>
  simp only[hl]at h h1;split at h
  ·have hi:=Kb (XD hl).2;have hgi:gc ops pds ops.size i:=by
    obtain⟨k,hk⟩:∃k,ops.size=k+1:=⟨ops.size-1,by omega⟩;simp_all[gc,BC]
   have h2:=h1.1 hgi;unfold valAt Pd.val? at h;split at h
   ·rename_i u hu;simp only[Option.some.injEq]at h;subst h;rw[hu]at h2;exact h2
   ·cases h
  ·cases h
theorem XP{j:Nat}{p:Pd}:∀{np:List (Nat×Pd)},np.lookup j=some p->(j,p)∈np
 | (k,q)::np,h=>by
  rw[CO]at h;by_cases e:j=k
  ·simp_all
  ·have:(j==k)=false:=by simpa using e
   rw[this]at h;exact CX _ (XP h)
def Rh{j:Nat}(h:j<m):(isPB hs np m).getD j false=((np.lookup j).isNone&&(hs.lookup j).isNone):=by
 simp_all[isPB,CR,Bt,List.getElem?_range]
variable{N:Nat}{a:Act}{w:World}{Q:Exit->Act->World->Prop}{draw:Bool}{ms:List Nat}
structure ChkB(P:Program)(bx:Bxs)(hs:List (Nat×Nat))(ops:Array Oper)(σ:List (Nat×Value))(np:List (Nat×Pd))(m:Nat)(pds:List Pd):Prop where
 val:(freeI np m).map (λj=>(pureB P bx hs ops σ pds j).map (·.1))=(freeI np m).map λj=>(pds.getD j .any).val?
 some:((freeI np m).all λj=>(pds.getD j .any).val?.isSome)=true
 blk:(freeI np m).map (λj=>(pureB P bx hs ops σ pds j).map λr=>r.2.map (·.1))=(freeI np m).map λj=>(pureB P bx hs ops σ pds j).map λr=>r.2.map (·.2)
theorem ChkB.at{j:Nat}(h:ChkB P bx hs ops σ np m pds)(hj:j<m)(hn:np.lookup j=none):∃v e,pureB P bx hs ops σ pds j= .some (v,e)/\(pds.getD j .any)= .eq v/\∀p∈e,p.1=p.2:=by
 have hm:j∈freeI np m:=CP.2 ⟨CL.2 hj,by rw[hn];rfl⟩;have h1:=Br.1 h.val j hm;have h2:=h.some;rw[Cs]at h2;obtain⟨v,hv⟩:=BM.1 (h2 j hm);have h3:=Br.1 h.blk j hm;have hpd:pds.getD j .any= .eq v:=by
  cases hp:pds.getD j .any with
  |eq u=>simp_all[Pd.val?,Option.some.injEq]
  |is p=>rw[hp]at hv;cases hv
  |own p=>rw[hp]at hv;cases hv
  |any=>rw[hp]at hv;cases hv
 cases hb:pureB P bx hs ops σ pds j with
 |none=>grind
 |some r=>
  obtain⟨u,e⟩:=r;rw[hb,hv]at h1;simp only[CJ,Option.some.injEq]at h1;subst h1;rw[hb]at h3;simp only[CJ,Option.some.injEq]at h3;exact⟨u,e,rfl,hpd,λp hp=>Br.1 h3 p hp⟩
theorem NU{j i:Nat}{v:Value}{e:List (Nat×Nat)}(hbx:bx.at w)(hG:Good ops pds [])(hF:FrS N σ a)(hi:hs.lookup j=some i)(hp:pureB P bx hs ops σ pds j=some (v,e))(he:∀p∈e,p.1=p.2)(hpd:pds.getD j .any= .eq v):NPB P draw ms ops pds a w Q j:=by
 unfold pureB at hp;rw[hi]at hp;cases ho:ops[j]? with
 |none=>simp_all
 | some o=>
  rw[ho]at hp;obtain⟨dst,op,ty,pos,af,g⟩:=o;unfold evB at hp;simp only at hp;split at hp
  ·rename_i t x;split at hp
   ·rename_i b off b' cs hx hbi;cases hl:loadV P t off cs with
    |none=>simp_all
    | some u=>
     rw[hl]at hp;simp only[CJ,Option.some.injEq,Prod.mk.injEq]at hp;obtain⟨rfl,rfl⟩:=hp;obtain⟨bt,hB⟩:=hbx _ (CV hbi);exact Tx _ ho hG hF λa' w' hC _ hv _=>by
      have hr:=Og hl (hB.ext hC);have hx':=hv x _ ae hx;refine Zg (v:=u) (w':=w') ?_ ak;simp_all[execOp,Instr.loadAt,Instr.sureAddr]
   ·cases hp
  ·cases hp
end
structure RF where
 ok:World->(Nat->Prop)->Prop
 sub:∀{w:World}{F F':Nat->Prop},ok w F->(∀k,k<w.heap.size->F k->F' k)->ok w F'
 chg:∀{w w':World}{F T:Nat->Prop},ok w F->Chg T w w'->(∀k,F k->¬T k)->ok w' F
 box:Option (Nat×List Value):=none
 isb:∀{w:World}{F:Nat->Prop}{p:Nat×List Value},box=some p->ok w F->∃t,Box w p.1 t p.2:=by intro _ _ _ h;cases h
def RO{α:Type}[Rep α](v:Value)(x:α):RF where
 ok w F:=RV w F v x
 sub h hs:=RV.sub h hs
 chg h hc ht:=RV.chg h hc ht
def FX(b:Nat)(t:TypeId)(cs:List Value):RF where
 ok w F:=Box w b t cs/\F b
 sub h hs:=⟨h.1,hs b h.1.lt h.2⟩
 chg h hc ht:=⟨h.1.chg hc (ht b h.2),h.2⟩
 box:=some (b,cs)
 isb h hok:=by grind
def CS{ρ α:Type}[Flat ρ][Rep α](rs:List ρ)(xs:List α):RF where
 ok w F:=Css w F (rs.map Flat.enc) xs
 sub h hs:=⟨h.1,λi cs x hi hx=>Rep.keep (h.2 i cs x hi hx) λk hk hf=>⟨rfl,hs k hk hf⟩⟩
 chg h hc ht:=⟨h.1,λi cs x hi hx=>Rep.keep (h.2 i cs x hi hx) λk hk hf=>⟨hc.block k hk (ht k hf),hf⟩⟩
def AllF(Φ:List RF)(w:World)(F:Nat->Prop):Prop:=∀R∈Φ,R.ok w F
section
variable{w w':World}{F F' T:Nat->Prop}{Φ Ψ:List RF}{R:RF}
def AllF.sub(h:AllF Φ w F)(hs:∀k,k<w.heap.size->F k->F' k):AllF Φ w F':=λR hR=>R.sub (h R hR) hs
def AllF.chg(h:AllF Φ w F)(hc:Chg T w w')(ht:∀k,F k->¬T k):AllF Φ w' F:=λR hR=>R.chg (h R hR) hc ht
def AllF.nil:AllF [] w F:=λR hR=>by cases hR
def AllF.add(h:AllF Φ w F)(hR:R.ok w F):AllF (Φ++[R]) w F:=λR' h'=>by
 rcases CQ.1 h' with h'|h'
 ·exact h R' h'
 simp_all
def AllF.join(h:AllF Φ w F)(h':AllF Ψ w F):AllF (Φ++Ψ) w F:=λR hR=>(CQ.1 hR).elim (h R) (h' R)
def AllF.get(h:AllF Φ w F){i:Nat}(hi:Φ[i]? =some R):R.ok w F:=h R (CV hi)
theorem AllF.pick(fs:List Nat)(h:AllF Φ w F)(hf:fs.map (λi=>Φ[i]?)=Ψ.map some):AllF Ψ w F:=λR hR=>by
 obtain⟨j,hj,hR⟩:=List.mem_iff_getElem.1 hR;have h1:(fs.map λi=>Φ[i]?)[j]? =some (some R):=by simp_all
 rw[Bt]at h1;cases hi:fs[j]? with
 |none=>simp_all
 |some i=>rw[hi]at h1;exact h.get (by simpa using h1)
end
structure Bs where
 w:World
 S:Nat->Prop
 F:Nat->Prop
structure Cx(B:Bs)(N:Nat)(σ:List (Nat×Value))(Γ:List HP)(Φ:List RF)(a:Act)(w:World):Prop where
 fr:FrS N σ a
 me:∃S F,Mem B.w B.S B.F w S F/\Sep Γ w S/\AllF Φ w F
def bxsOf(Γ:List HP)(Φ:List RF):Bxs:=Γ.filterMap (·.box)++Φ.filterMap (·.box)
def Cx.bxs{B:Bs}{N:Nat}{σ:List (Nat×Value)}{Γ:List HP}{Φ:List RF}{a:Act}{w:World}(c:Cx B N σ Γ Φ a w):(bxsOf Γ Φ).at w:=λp hp=>by
 obtain⟨_,S,F,_,hs,hf⟩:=c;rcases CQ.1 hp with hp|hp
 ·rw[Zan]at hp;obtain⟨H,hH,hb⟩:=hp;obtain⟨i,hi⟩:=Zaf hH;obtain⟨A,h1,_⟩:=hs.get i hi;exact H.isb hb h1
 ·rw[Zan]at hp;obtain⟨R,hR,hb⟩:=hp;exact R.isb hb (hf R hR)
def Ava(Γ:List HP)(Φ:List RF)(w:World)(R:RF):Prop:=∀S F,Sep Γ w S->AllF Φ w F->R.ok w (λk=>F k\/S k)
def AvaL(Γ:List HP)(Φ:List RF)(w:World):List RF->Prop
 |[]=>True
 |R::Ψ=>Ava Γ Φ w R/\AvaL Γ Φ w Ψ
section
variable{Γ:List HP}{Φ Ψ:List RF}{w:World}
def Ava.f(i:Nat){R:RF}(h:Φ[i]? =some R:=by rfl):Ava Γ Φ w R:=λ_ _ _ hf=>R.sub (hf.get h) λ_ _ h=>.inl h
def Ava.g{α:Type}[Rep α]{E:TypeId}{v:Value}{l:List α}(i:Nat)(h:Γ[i]? =some (SL E v l):=by rfl):Ava Γ Φ w (RO v l):=λ_ _ hs _=>RV.sub (hs.rv i h) λ_ _ h=>.inr h
def Ava.b{b:Nat}{t:TypeId}{cs:List Value}(i:Nat)(h:Γ[i]? =some (BX b t cs):=by rfl):Ava Γ Φ w (FX b t cs):=λ_ _ hs _=>by
 obtain⟨A,h1,h2⟩:=hs.get i h;exact⟨h1.1,.inr (h2 b h1.2)⟩
def Ava.nil{α:Type}[Rep α]:Ava Γ Φ w (RO (.slice none 0 0) ([]:List α)):=λ_ _ _ _=>RV.nil
def Ava.fl{α:Type}[Flat α](x:α):Ava Γ Φ w (RO (Rep.val α (Flat.enc x)) x):=λ_ _ _ _=>RV.mk_flat x
theorem AvaL.all{S F:Nat->Prop}:∀{Ψ:List RF},AvaL Γ Φ w Ψ->Sep Γ w S->AllF Φ w F->AllF Ψ w (λk=>F k\/S k)
 |[],_,_,_=>AllF.nil
 |R::Ψ,h,hs,hf=>λR' hR=>by
  rcases CW.1 hR with rfl|hR
  ·exact h.1 S F hs hf
  ·exact AvaL.all h.2 hs hf R' hR
end
def tup:List Value->Value
 |[v]=>v
 |vs=>.tuple vs.toArray
abbrev Res:=List Value×List HP×List RF
def Con(P:Program)(f:FuncId)(args:List Value)(Γ:List HP)(Φ:List RF){ι:Type}(R:ι->Res):Prop:=
 ∀(w:World)(S F:Nat->Prop),Sep Γ w S->AllF Φ w F->(∀k,S k->k<w.heap.size)->(∀k,F k->k<w.heap.size)->(∀k,S k->F k->False)->
  Calls P f args.toArray w λe w'=>∃i S' F',e= .returned (tup (R i).1)/\Mem w S F w' S' F'/\Sep (R i).2.1 w' S'/\AllF (R i).2.2 w' F'
def Rp(B:Bs){ι:Type}(R:ι->Res):Ending->World->Prop:=λe w'=>∃i S' F',e= .returned (tup (R i).1)/\Mem B.w B.S B.F w' S' F'/\Sep (R i).2.1 w' S'/\AllF (R i).2.2 w' F'
section
variable{P:Program}{B:Bs}{N:Nat}{σ:List (Nat×Value)}{Γ:List HP}{Φ:List RF}{a a':Act}{w w':World}{Q:Exit->Act->World->Prop}{K:Act->World->Prop}{ι:Type}{R:ι->Res}{fn:Func}
def En{f:FuncId}{c:Code}{args:List Value}(hf:P.funcs[f]? =some fn)(hb:fn.body=some c)(hN:fn.ntmps=N)
  (h:∀B a w,Cx B N (args0 0 args) Γ Φ a w->c.wp P (bodyPost P fn (Rp B R)) a w)(hle:Nat.ble args.length N=true:=by rfl):Con P f args Γ Φ R:=
 λw S F hs hf' hS hF hd=>enter hf hb hN hle λa hF'=>h ⟨w,S,F⟩ a w ⟨hF',S,F,Mem.start hS hF hd,hs,hf'⟩
def Cx.to{σ':List (Nat×Value)}(c:Cx B N σ Γ Φ a w)(h:FrS N σ' a'):Cx B N σ' Γ Φ a' w:=⟨h,c.me⟩
def Cx.ext(c:Cx B N σ Γ Φ a w)(hc:Chg Non w w'):Cx B N σ Γ Φ a w':=by
 obtain⟨h,S,F,h1,h2,h3⟩:=c;exact⟨h,S,F,h1.ext hc,h2.ext hc,h3.chg hc λ_ _ h=>h.elim⟩
def Cx.use{Rf:RF}(c:Cx B N σ Γ Φ a w)(h:Ava Γ Φ w Rf):∃F,Rf.ok w F:=by
 obtain⟨_,S,F,_,h2,h3⟩:=c;exact⟨_,h S F h2 h3⟩
def Cx.usebx{b:Nat}{t:TypeId}{cs:List Value}(c:Cx B N σ Γ Φ a w)(h:Ava Γ Φ w (FX b t cs)):Box w b t cs:=by
 obtain⟨F,h⟩:=c.use h;exact h.1
def Cx.add{Rf:RF}(c:Cx B N σ Γ Φ a w)(h:Ava [] Φ w Rf):Cx B N σ Γ (Φ++[Rf]) a w:=by
 obtain⟨hF,S,F,h1,h2,h3⟩:=c;exact⟨hF,S,F,h1,h2,h3.add (Rf.sub (h Non F (Sep.nil w Non) h3) λ_ _ h=>h.elim id λh=>h.elim)⟩
def rg:Nat->List Nat
 |0=>[]
 |n+1=>rg n++[n]
def Cx.re{σ':List (Nat×Value)}{Γ':List HP}{Φ':List RF}(c:Cx B N σ Γ Φ a w)(gs fs:List Nat)(hg:gs.map (λi=>Γ[i]?)=Γ'.map some:=by rfl)(hf:fs.map (λi=>Φ[i]?)=Φ'.map some:=by rfl)
  (hn:gs.Nodup:=by decide)(hσ:σ'.map (λp=>σ.lookup p.1)=σ'.map λp=>some p.2:=by kernel_rfl):Cx B N σ' Γ' Φ' a w:=by
 obtain⟨h,S,F,h1,h2,h3⟩:=c;exact⟨h.sub σ' hσ,S,F,h1,h2.pick gs hn hg,h3.pick fs hf⟩
def Cx.frs(σ':List (Nat×Value))(c:Cx B N σ Γ Φ a w)(hσ:σ'.map (λp=>σ.lookup p.1)=σ'.map λp=>some p.2:=by kernel_rfl):Cx B N σ' Γ Φ a w:=⟨c.fr.sub σ' hσ,c.me⟩
def Cx.pick{Γ':List HP}(c:Cx B N σ Γ Φ a w)(gs:List Nat)(hg:gs.map (λi=>Γ[i]?)=Γ'.map some:=by rfl)(hn:gs.Nodup:=by decide):Cx B N σ Γ' Φ a w:=by
 obtain⟨h,S,F,h1,h2,h3⟩:=c;exact⟨h,S,F,h1,h2.pick gs hn hg,h3⟩
def Cx.gam{Γ':List HP}(c:Cx B N σ Γ Φ a w)(f:∀S,Sep Γ w S->Sep Γ' w S):Cx B N σ Γ' Φ a w:=by
 obtain⟨h,S,F,h1,h2,h3⟩:=c;exact⟨h,S,F,h1,f S h2,h3⟩
theorem ZP{Γ2:List HP}{S:Nat->Prop}(h:Sep (Γ2++Γ) w S):Sep (Γ++Γ2) w S:=by
 obtain⟨A,R,h1,h2,h3,h4,h5⟩:=h.split;grind[Sep.join]
def Cx.relen{α:Type}[Rep α]{E:TypeId}{b:Option Addr}{n cp:Nat}{l:List α}(i:Nat)(c:Cx B N σ Γ Φ a w)(hi:Γ[i]? =some (SL E (.slice b n cp) l):=by rfl):n=l.length/\Cx B N σ (Γ.set i (SL E (.slice b l.length cp) l)) Φ a w:=by
 obtain⟨h,S,F,h1,h2,h3⟩:=c;obtain⟨he,hs⟩:=h2.relen i hi;exact⟨he,h,S,F,h1,hs,h3⟩
def Cx.eqs{v u:Value}(t:Nat)(c:Cx B N σ Γ Φ a w)(he:v=u)(hv:σ.lookup t=some v:=by kernel_rfl):Cx B N ((t,u)::σ) Γ Φ a w:=⟨c.fr.cons (he▸c.fr.get t v hv),c.me⟩
def Fp{ops:Array Oper}{k:Nat}(hs:List (Nat×Nat))(m:Nat)(c:Cx B N σ Γ Φ a w)(h:∀fr,Cx B N ((seqB P N (bxsOf Γ Φ) hs k ((ops.toList.drop k).take m) σ).getD ([],[])).1 Γ Φ fr w->wpFrom P ops Q (k+m) fr w)
  (hk:(seqB P N (bxsOf Γ Φ) hs k ((ops.toList.drop k).take m) σ).map (λr=>r.2.map (·.1))=some (((seqB P N (bxsOf Γ Φ) hs k ((ops.toList.drop k).take m) σ).map (λr=>r.2.map (·.2))).getD []):=by kernel_rfl):wpFrom P ops Q k a w:=by
 obtain⟨σ',e,hσ,he⟩:=LM hk;rw[hσ]at h;unfold wpFrom at h⊢;have:ops.toList.drop k=(ops.toList.drop k).take m++ops.toList.drop (k+m):=by
  grind[List.drop_drop,List.take_append_drop]
 rw[this];exact TV c.bxs c.fr hσ he λa' hF'=>h a' (c.to hF')
def P1{id:Nat}{ops:Array Oper}(hs:List (Nat×Nat))(c:Cx B N σ Γ Φ a w)(h:∀fr,Cx B N ((seqB P N (bxsOf Γ Φ) hs 0 ops.toList σ).getD ([],[])).1 Γ Φ fr w->K fr w)
  (hk:(seqB P N (bxsOf Γ Φ) hs 0 ops.toList σ).map (λr=>r.2.map (·.1))=some (((seqB P N (bxsOf Γ Φ) hs 0 ops.toList σ).map (λr=>r.2.map (·.2))).getD []):=by kernel_rfl):(Code.region id ops false).wp P (Exit.then K Q) a w:=by
 obtain⟨σ',e,hσ,he⟩:=LM hk;rw[hσ]at h;refine OW ?_;unfold wpFrom;rw[BV,<-Bj ops.toList];exact TV c.bxs c.fr hσ he λa' hF'=>wpList_nil (h a' (c.to hF'))
def P0{id:Nat}{ops:Array Oper}{b:Code}(hs:List (Nat×Nat))(c:Cx B N σ Γ Φ a w)(h:∀fr,Cx B N ((seqB P N (bxsOf Γ Φ) hs 0 ops.toList σ).getD ([],[])).1 Γ Φ fr w->b.wp P Q fr w)
  (hk:(seqB P N (bxsOf Γ Φ) hs 0 ops.toList σ).map (λr=>r.2.map (·.1))=some (((seqB P N (bxsOf Γ Φ) hs 0 ops.toList σ).map (λr=>r.2.map (·.2))).getD []):=by kernel_rfl):(Code.seq (.region id ops false) b).wp P Q a w:=wp_seq (P1 hs c h hk)
def Tq{x:Code}(h:x.wp P (Exit.then (λa w=>Q .normal a w) Q) a w):x.wp P Q a w:=wp_cut' h λ_ _ h=>h
def T0{id:Nat}{l:List Oper}{b:Code}(h:wpFrom P l.toArray (Exit.then (λa w=>b.wp P Q a w) Q) 0 a w):(Code.seq (.region id l.toArray false) b).wp P Q a w:=wp_seq (Ny h)
def T1{id:Nat}{l:List Oper}(h:wpFrom P l.toArray Q 0 a w):(Code.region id l.toArray false).wp P Q a w:=Ny h
def E0{ops:Array Oper}{k:Nat}(h:K a w)(hk:ops.size=k:=by rfl):wpFrom P ops (Exit.then K Q) k a w:=ME hk (UJ h)
def E1{ops:Array Oper}{k:Nat}(h:Q .normal a w)(hk:ops.size=k:=by rfl):wpFrom P ops Q k a w:=ME hk h
def S0{x:Code}{b:Code}(h:x.wp P (Exit.then (λa w=>b.wp P Q a w) Q) a w):(Code.seq x b).wp P Q a w:=wp_seq h
def K0(h:K a w):Code.skip.wp P (Exit.then K Q) a w:=wp_skip (UJ h)
def K1(h:Q .normal a w):Code.skip.wp P Q a w:=wp_skip h
def I0{x y:Code}{o:Operand}{β:Type}{X Y:Option β}{r:Option β}{b:Bool}(c:Cx B N σ Γ Φ a w)(h:(if b=true then X else Y)=r)(ht:X=r->x.wp P Q a w)(hf:Y=r->y.wp P Q a w)(hb:opd σ o=some (.bool b):=by kernel_rfl):
  (Code.cond o x y).wp P Q a w:=Gq c.fr hb (λhb=>ht (iteT hb h)) λhb=>hf (iteF hb h)
abbrev Lpt:=List (Nat×Value)×(List HP->List HP)×List RF
abbrev CxL(B:Bs)(N:Nat)(Γ:List HP)(Φ:List RF)(J:Lpt)(a:Act)(w:World):Prop:=Cx B N J.1 (J.2.1 Γ) (Φ++J.2.2) a w
theorem Lp{id:Nat}{b:Code}{σt ρt ι' κ:Type}{F:σt->Option (σt⊕ρt)}{n:Nat}{s0:σt}{r:ρt}(J:σt->ι'->Lpt)(M:κ->Lpt)(hit:iterN F n s0=some r)(c:Cx B N σ Γ Φ a w)(i0:ι')(h0:CxL B N Γ Φ (J s0 i0) a w)
  (round:∀s q i a w,CxL B N Γ Φ (J s i) a w->F s=some q->(∀r0,q= .inr r0->r0=r)->b.wp P (Exit.then (λa' w'=>∃s' i',q= .inl s'/\CxL B N Γ Φ (J s' i') a' w') (Exit.inBlock id (Exit.then (λa' w'=>∃k,CxL B N Γ Φ (M k) a' w') Q))) a w)
  (cont:∀k a w,CxL B N Γ Φ (M k) a w->K a w):(Code.block id (.loop b)).wp P (Exit.then K Q) a w:=
 wp_cut (wp_block (KE (Inv:=λs a w=>∃i,CxL B N Γ Φ (J s i) a w) hit ⟨i0,h0⟩ λs q a w hI hF hr=>by
  obtain⟨i,hi⟩:=hI;have:=round s q i a w hi hF hr;refine wp_mono this λe a w he=>?_;cases e with
  |normal=>obtain⟨s',i',h1,h2⟩:=he;exact⟨s',h1,i',h2⟩
  |_=>exact he)) λa w hI=>by
   grind
theorem LpR{id:Nat}{b:Code}{σt ρ1 ρ2 ι' κ:Type}{F:σt->Option (σt⊕(ρ1⊕ρ2))}{n:Nat}{s0:σt}{r:ρ1⊕ρ2}(J:σt->ι'->Lpt)(M:ρ1->κ->Lpt)(hit:iterN F n s0=some r)(c:Cx B N σ Γ Φ a w)(i0:ι')(h0:CxL B N Γ Φ (J s0 i0) a w)
  (round:∀s q i a w,CxL B N Γ Φ (J s i) a w->F s=some q->(∀r0,q= .inr r0->r0=r)->b.wp P (Exit.then (λa' w'=>∃s' i',q= .inl s'/\CxL B N Γ Φ (J s' i') a' w') (Exit.inBlock id (Exit.then (λa' w'=>∃s k,r= .inl s/\CxL B N Γ Φ (M s k) a' w') Q))) a w)
  (cont:∀s k a w,r= .inl s->CxL B N Γ Φ (M s k) a w->K a w):(Code.block id (.loop b)).wp P (Exit.then K Q) a w:=
 wp_cut (wp_block (KE (Inv:=λs a w=>∃i,CxL B N Γ Φ (J s i) a w) hit ⟨i0,h0⟩ λs q a w hI hF hr=>by
  obtain⟨i,hi⟩:=hI;have:=round s q i a w hi hF hr;refine wp_mono this λe a w he=>?_;cases e with
  |normal=>obtain⟨s',i',h1,h2⟩:=he;exact⟨s',h1,i',h2⟩
  |_=>exact he)) λa w hI=>by
   grind
def Nx{σt ρt ι':Type}{J:σt->ι'->Lpt}{s:σt}{q:σt⊕ρt}(h:some (Sum.inl s)=some q)(i:ι')(c:CxL B N Γ Φ (J s i) a w):∃s' i',q= .inl s'/\CxL B N Γ Φ (J s' i') a w:=⟨s,i,(Option.some.inj h).symm,c⟩
def tn(h:K a w):Exit.then K Q .normal a w:=h
def tr(h:Q .ret a w):Exit.then K Q .ret a w:=h
def te{i:Nat}(h:Q (.exit i) a w):Exit.then K Q (.exit i) a w:=h
def br{i:Nat}(h:Q .ret a w):Exit.inBlock i Q .ret a w:=h
def bk{i:Nat}(h:Q .normal a w):Exit.inBlock i Q .normal a w:=h
def be{i:Nat}(h:Q .normal a w):Exit.inBlock i Q (.exit i) a w:=MG h
def bn{i j:Nat}(h:Q (.exit j) a w)(hn:(j==i)=false:=by rfl):Exit.inBlock i Q (.exit j) a w:=Nz hn h
def AllP.of{α:Type}{q:α->Prop}{l:List α}(h:AllP q l){x:α}(hx:x∈l):q x:=AllP.mem h hx
theorem Rz{id:Nat}{ops:Array Oper}{draw:Bool}(np:List (Nat×Pd))(hs:List (Nat×Nat))(hmix:P.follows .mixedOrders=true)(c:Cx B N σ Γ Φ a w)(hmono:AllP (λp=>p.2.Mono Non) np)
  (hnp:Good ops (pdsM P (bxsOf Γ Φ) hs ops σ np ops.size) []->AllP (λp=>(pdsM P (bxsOf Γ Φ) hs ops σ np ops.size).getD p.1 .any=p.2->NPB P draw (cond draw (masksN ops ops.size) []) ops (pdsM P (bxsOf Γ Φ) hs ops σ np ops.size) a w (Exit.then K Q) p.1) np)
  (h:∀fr w',Cx B N (outS ops σ (pdsM P (bxsOf Γ Φ) hs ops σ np ops.size) ops.size) Γ Φ fr w'->K fr w')
  (hst:(stat draw (cond draw (masksN ops ops.size) []) ops [] N&&statG ops (pdsM P (bxsOf Γ Φ) hs ops σ np ops.size) [])=true:=by kernel_rfl)
  (h1:(freeI np ops.size).map (λj=>(pureB P (bxsOf Γ Φ) hs ops σ (pdsM P (bxsOf Γ Φ) hs ops σ np ops.size) j).map (·.1))=(freeI np ops.size).map λj=>((pdsM P (bxsOf Γ Φ) hs ops σ np ops.size).getD j .any).val?:=by kernel_rfl)
  (h2:((freeI np ops.size).all λj=>((pdsM P (bxsOf Γ Φ) hs ops σ np ops.size).getD j .any).val?.isSome)=true:=by kernel_rfl)
  (h3:(freeI np ops.size).map (λj=>(pureB P (bxsOf Γ Φ) hs ops σ (pdsM P (bxsOf Γ Φ) hs ops σ np ops.size) j).map λr=>r.2.map (·.1))=(freeI np ops.size).map λj=>(pureB P (bxsOf Γ Φ) hs ops σ (pdsM P (bxsOf Γ Φ) hs ops σ np ops.size) j).map λr=>r.2.map (·.2):=by kernel_rfl):
  (Code.region id ops draw).wp P (Exit.then K Q) a w:=by
 have hck:ChkB P (bxsOf Γ Φ) hs ops σ np ops.size (pdsM P (bxsOf Γ Φ) hs ops σ np ops.size):=⟨h1,h2,h3⟩;have npsplit:∀j∈npIdx ops (isPB hs np ops.size),j<ops.size/\((∃p,np.lookup j=some p)\/(np.lookup j=none/\∃i,hs.lookup j=some i)):=λj hj=>by
  obtain⟨g1,g2⟩:=CP.1 hj;have hlt:=CL.1 g1;rw[Rh hlt]at g2;refine⟨hlt,?_⟩;cases hn:np.lookup j with
  |some p=>simp
  |none=>
   cases hh:hs.lookup j with
   |some i=>simp
   |none=>simp_all
 have pfree:∀j∈pIdx ops (isPB hs np ops.size),j<ops.size/\np.lookup j=none/\hs.lookup j=none:=λj hj=>by
  obtain⟨g1,g2⟩:=CP.1 hj;have hlt:=CL.1 g1;rw[Rh hlt]at g2;simpa[hlt]using g2
 refine GA _ (isPB hs np ops.size) _ [] hmix c.fr hst (Br.2 λj hj=>?_) (Cs.2 λj hj=>?_) ?_ (λhG=>?_) rfl λa' w' _ hE hc=>h a' w' ((c.ext hc).to ⟨hE.1.trans c.fr.defers,hE.2.1.trans c.fr.size,λt v hv=>PZ c.fr hE ?_⟩)
 ·obtain⟨hlt,hn,hh⟩:=pfree j hj;obtain⟨v,e,g1,g2,_⟩:=hck.at hlt hn;unfold pureB at g1;rw[hh]at g1;cases hp:pureV P ops σ (pdsM P (bxsOf Γ Φ) hs ops σ np ops.size) j with
  |none=>simp_all
  |some u=>
   rw[hp]at g1;simp only[CJ,Option.some.injEq,Prod.mk.injEq]at g1;rw[g2,g1.1];rfl
 ·obtain⟨hlt,hn,hh⟩:=pfree j hj;obtain⟨v,e,g1,g2,_⟩:=hck.at hlt hn;rw[g2];rfl
 ·exact Ra λj hj=>by
   obtain⟨hlt,⟨p,hp⟩|⟨hn,i,hi⟩⟩:=npsplit j hj
   ·rw[VB hlt hp];exact hmono.of (XP hp)
   ·obtain⟨v,e,g1,g2,g3⟩:=hck.at hlt hn;rw[g2];exact Pd.mono_eq
 ·exact Ra λj hj=>by
   obtain⟨hlt,⟨p,hp⟩|⟨hn,i,hi⟩⟩:=npsplit j hj
   ·exact(hnp hG).of (XP hp) (VB hlt hp)
   ·obtain⟨v,e,g1,g2,g3⟩:=hck.at hlt hn;exact NU c.bxs hG c.fr hi g1 g3 g2
 ·exact Mo hv
def Pd.nw{κ:Type}(w0:World)(tag:Nat)(V:κ->Value)(H:κ->HP):Pd:=.own λow v w=>∃i,v=V i/\(H i).ok w (λk=>w0.heap.size<=k/\k<w.heap.size/\ow k=tag)
def nwM{κ:Type}{w0:World}{tag:Nat}{V:κ->Value}{H:κ->HP}:(Pd.nw w0 tag V H).MonoO:=Gb
def EndM.nw{κ:Type}{ops:Array Oper}{bx:Bxs}{hs:List (Nat×Nat)}{np:List (Nat×Pd)}{m tag:Nat}{ow:Nat->Nat}{w0:World}{V:κ->Value}{H:κ->HP}(hE:EndM ops (TT ops (instL ow (pdsM P bx hs ops σ np m))) a m a' w')(j d:Nat)
  (hp:np.lookup j=some (Pd.nw w0 tag V H):=by rfl)(hl:lastW ops d m=some j:=by rfl)(hg:guardOf ops j=none:=by rfl)(hj:Nat.blt j m=true:=by rfl):∃i,a'.eval (.tmp d)=V i/\(H i).ok w' (λk=>w0.heap.size<=k/\k<w'.heap.size/\ow k=tag):=by
 have h:=hE.is d j hl hg;rw[YA,VB (Bc.mp hj) hp]at h;exact h
theorem Rm{ops:Array Oper}(m:Nat)(np:List (Nat×Pd))(hs:List (Nat×Nat))(c:Cx B N σ Γ Φ a w)(hmono:AllP (λp=>p.2.MonoO) np)
  (hnp:∀ow,Good ops (instL ow (pdsM P (bxsOf Γ Φ) hs ops σ np m)) []->AllP (λp=>(instL ow (pdsM P (bxsOf Γ Φ) hs ops σ np m)).getD p.1 .any=p.2.inst ow->NPO P (masksN ops ops.size) ops (instL ow (pdsM P (bxsOf Γ Φ) hs ops σ np m)) a w Q ow p.1) np)
  (h:∀ow fr w',EndM ops (TT ops (instL ow (pdsM P (bxsOf Γ Φ) hs ops σ np m))) a m fr w'->Chg Non w w'->Cx B N (outS ops σ (pdsM P (bxsOf Γ Φ) hs ops σ np m) m) Γ Φ fr w'->wpFrom P ops Q m fr w')
  (hst:(stat true (masksN ops ops.size) ops [] N&&statG ops (pdsM P (bxsOf Γ Φ) hs ops σ np m) []&&sufB ops m)=true:=by kernel_rfl)
  (h1:(freeI np m).map (λj=>(pureB P (bxsOf Γ Φ) hs ops σ (pdsM P (bxsOf Γ Φ) hs ops σ np m) j).map (·.1))=(freeI np m).map λj=>((pdsM P (bxsOf Γ Φ) hs ops σ np m).getD j .any).val?:=by kernel_rfl)
  (h2:((freeI np m).all λj=>((pdsM P (bxsOf Γ Φ) hs ops σ np m).getD j .any).val?.isSome)=true:=by kernel_rfl)
  (h3:(freeI np m).map (λj=>(pureB P (bxsOf Γ Φ) hs ops σ (pdsM P (bxsOf Γ Φ) hs ops σ np m) j).map λr=>r.2.map (·.1))=(freeI np m).map λj=>(pureB P (bxsOf Γ Φ) hs ops σ (pdsM P (bxsOf Γ Φ) hs ops σ np m) j).map λr=>r.2.map (·.2):=by kernel_rfl):
  RA P ops Q a w:=by
 have hck:ChkB P (bxsOf Γ Φ) hs ops σ np m (pdsM P (bxsOf Γ Φ) hs ops σ np m):=⟨h1,h2,h3⟩;have npsplit:∀j∈npIdxM m (isPB hs np m),j<m/\((∃p,np.lookup j=some p)\/(np.lookup j=none/\∃i,hs.lookup j=some i)):=λj hj=>by
  obtain⟨g1,g2⟩:=CP.1 hj;have hlt:=CL.1 g1;rw[Rh hlt]at g2;refine⟨hlt,?_⟩;cases hn:np.lookup j with
  |some p=>simp
  |none=>
   cases hh:hs.lookup j with
   |some i=>simp
   |none=>simp_all
 have pfree:∀j∈pIdxM m (isPB hs np m),j<m/\np.lookup j=none/\hs.lookup j=none:=λj hj=>by
  obtain⟨g1,g2⟩:=CP.1 hj;have hlt:=CL.1 g1;rw[Rh hlt]at g2;simpa[hlt]using g2
 refine DJ m _ (isPB hs np m) _ [] c.fr hst (Br.2 λj hj=>?_) (Cs.2 λj hj=>?_) (Cs.2 λj hj=>?_) ?_ (λow hG=>?_) rfl λow a' w' _ hE hc=>h ow a' w' hE hc ((c.ext hc).to ⟨hE.1.trans c.fr.defers,hE.2.1.trans c.fr.size,λt v hv=>?_⟩)
 ·obtain⟨hlt,hn,hh⟩:=pfree j hj;obtain⟨v,e,g1,g2,_⟩:=hck.at hlt hn;unfold pureB at g1;rw[hh]at g1;cases hp:pureV P ops σ (pdsM P (bxsOf Γ Φ) hs ops σ np m) j with
  |none=>simp_all
  |some u=>
   rw[hp]at g1;simp only[CJ,Option.some.injEq,Prod.mk.injEq]at g1;rw[g2,g1.1];rfl
 ·obtain⟨hlt,hn,hh⟩:=pfree j hj;obtain⟨v,e,g1,g2,_⟩:=hck.at hlt hn;rw[g2];rfl
 ·grind[JG]
 ·exact Ra λj hj=>by
   obtain⟨hlt,⟨p,hp⟩|⟨hn,i,hi⟩⟩:=npsplit j hj
   ·rw[VB hlt hp];exact hmono.of (XP hp)
   ·obtain⟨v,e,g1,g2,g3⟩:=hck.at hlt hn;rw[g2];exact Pd.monoO_eq
 ·exact Ra λj hj=>by
   obtain⟨hlt,⟨p,hp⟩|⟨hn,i,hi⟩⟩:=npsplit j hj
   ·exact(hnp ow hG).of (XP hp) (by rw[YA,VB hlt hp])
   ·obtain⟨v,e,g1,g2,g3⟩:=hck.at hlt hn;refine ED ow (NU (hs:=hs) c.bxs hG c.fr hi (v:=v) (e:=e) ?_ g3 (by rw[YA,g2];rfl));unfold pureB at g1⊢;rw[hi]at g1⊢;rw[PU];exact g1
 ·have:=Mo hv
  exact MJ c.fr hE (by
   unfold outVm at this⊢;split at this
   ·rw[TG];exact this
   ·exact this)
def Cx.out(c:Cx B N σ Γ Φ a w)(i:ι)(gs fs:List Nat)(hg:gs.map (λj=>Γ[j]?)=(R i).2.1.map some)(hf:fs.map (λj=>Φ[j]?)=(R i).2.2.map some)(hn:gs.Nodup):Rp B R (.returned (tup (R i).1)) w:=by
 obtain⟨_,S,F,h1,h2,h3⟩:=c;exact⟨i,S,F,rfl,h1,h2.pick gs hn hg,h3.pick fs hf⟩
def Rt{t:Tmp}{v:Value}(c:Cx B N σ Γ Φ a w)(i:ι)(gs fs:List Nat)(hr:fn.results= #[.tmp t]:=by rfl)(hv:(R i).1=[v]:=by rfl)(hl:σ.lookup t=some v:=by kernel_rfl)(hg:gs.map (λj=>Γ[j]?)=(R i).2.1.map some:=by rfl)(hf:fs.map (λj=>Φ[j]?)=(R i).2.2.map some:=by rfl)
  (hn:gs.Nodup:=by decide):bodyPost P fn (Rp B R) .ret a w:=
 ret1 hr c.fr hl (by have:=c.out (R:=R) i gs fs hg hf hn;rw[hv]at this;exact this)
inductive RV'(P:Program)(σ:List (Nat×Value))(Γ:List HP)(Φ:List RF)(w:World):List ResultVar->List Value->Prop
 |nil:RV' P σ Γ Φ w [] []
 |tmp {t:Tmp} {v:Value} {rs:List ResultVar} {vs:List Value} (r:RV' P σ Γ Φ w rs vs) (h:σ.lookup t=some v:=by kernel_rfl):RV' P σ Γ Φ w (.tmp t::rs) (v::vs)
 |cell {t:Tmp} {ty bt:TypeId} {α:Type} [Rep α] {b:Nat} {cs:List Value} {v:Value} {rs:List ResultVar} {vs:List Value} (hty:Ty P ty α) (hb:Ava Γ Φ w (FX b bt cs)) (r:RV' P σ Γ Φ w rs vs) (h:σ.lookup t=some (.pointer (some ⟨b,0,none⟩)):=by kernel_rfl)
  (hl:cs.length=Rep.sz α:=by rfl) (hv:Rep.val α cs=v:=by rfl):RV' P σ Γ Φ w (.cell t ty::rs) (v::vs)
theorem RV'.out{rs:List ResultVar}{vs:List Value}(h:RV' P σ Γ Φ w rs vs)(c:Cx B N σ Γ Φ a w):Rets P σ w rs vs:=by
 induction h with
 |nil=>exact .nil
 |tmp r h ih=>exact .tmp h ih
 |cell hty hb r h hl hv ih=>exact .cell h hty (c.usebx hb) hl hv ih
theorem Dh:∀vs:List Value,(if h:vs.toArray.size=1 then vs.toArray[0]else .tuple vs.toArray)=tup vs
 |[]=>rfl
 |[_]=>rfl
 |_::_::_=>rfl
def Rg{rs:List ResultVar}{vs:List Value}(c:Cx B N σ Γ Φ a w)(i:ι)(gs fs:List Nat)(hv:RV' P σ Γ Φ w rs vs)(hvs:vs=(R i).1:=by rfl)(hr:fn.results=rs.toArray:=by rfl)(hg:gs.map (λj=>Γ[j]?)=(R i).2.1.map some:=by rfl)
  (hf:fs.map (λj=>Φ[j]?)=(R i).2.2.map some:=by rfl)(hn:gs.Nodup:=by decide):bodyPost P fn (Rp B R) .ret a w:=
 retG hr c.fr (hv.out c) (Dh vs) (by have:=c.out (R:=R) i gs fs hg hf hn;simp_all)
def NR(h:bodyPost P fn (Rp B R) .ret a w):bodyPost P fn (Rp B R) .normal a w:=h
end
def memN:List Nat->Nat->Bool
 |[],_=>false
 |x::l,j=>Nat.beq x j||memN l j
def restG(gs:List Nat):Nat->List HP->List HP
 |_,[]=>[]
 |j,x::l=>cond (memN gs j) (restG gs (j+1) l) (x::restG gs (j+1) l)
def rest(gs:List Nat)(Γ:List HP):List HP:=restG gs 0 Γ
theorem Ns(gs:List Nat)(j:Nat):memN gs j=gs.contains j:=by
 induction gs with
 |nil=>rfl
 |cons x l ih=>
  unfold memN;by_cases h:x=j
  ·subst h;simp
  grind[Nat.beq,absurd,Nat.eq_of_beq_eq_true]
theorem KC(gs:List Nat)(Γ:List HP):rest gs Γ=((List.range Γ.length).filter λi=>!gs.contains i).filterMap λi=>Γ[i]?:=by
 have key:∀(l pre:List HP),restG gs pre.length l=((List.range' pre.length l.length).filter λi=>!gs.contains i).filterMap λi=>(pre++l)[i]?:=by
  intro l
  induction l with
  |nil=>intro pre;rfl
  |cons x l ih=>
   intro pre;have h:=ih (pre++[x]);simp only[Ba,List.length_singleton,Bo,BR]at h;grind[restG,Ns,List.length_cons,List.range'_succ]
 have:=key Γ [];simp_all[rest,List.range_eq_range']
theorem Sep.part{Γ Γ1:List HP}{w:World}{S:Nat->Prop}(gs:List Nat)(h:Sep Γ w S)(hg:gs.map (λi=>Γ[i]?)=Γ1.map some)(hn:gs.Nodup):Sep (Γ1++rest gs Γ) w S:=by
 let is:=gs++(List.range Γ.length).filter λi=>!gs.contains i
 have hd:is.Nodup:=List.nodup_append.2 ⟨hn,(List.nodup_range).filter _,λa ha b hb e=>by
  simp_all⟩
 refine h.pick is hd ?_;rw[Za2,Za2,hg];rw[KC];have key:∀l:List Nat,(∀i∈l,i<Γ.length)->l.map (λi=>Γ[i]?)=(l.filterMap λi=>Γ[i]?).map some:=by
  intro l
  induction l with
  |nil=>intro _;rfl
  |cons i l ih=>
   simp_all
 simp_all
section
variable{P:Program}{B:Bs}{N:Nat}{σ:List (Nat×Value)}{Γ Γ1:List HP}{Φ Φ1:List RF}{a:Act}{w:World}{Q:Exit->Act->World->Prop}{ι:Type}{R:ι->Res}{args caps:List Value}{f:FuncId}
  {ops:Array Oper}{k d:Nat}{ty:TypeId}{pos:String}{af:Array Edge}{x:Operand}{xs:Array Operand}{ts:Array TypeId}
def Cx.calls(c:Cx B N σ Γ Φ a w)(gs:List Nat)(hcon:Con P f args Γ1 Φ1 R)(ro:AvaL (rest gs Γ) Φ w Φ1)(hg:gs.map (λi=>Γ[i]?)=Γ1.map some)(hn:gs.Nodup):
  Calls P f args.toArray w λe w'=>∃i,e= .returned (tup (R i).1)/\∀a' σ',FrS N σ' a'->Cx B N σ' (rest gs Γ++(R i).2.1) Φ a' w':=by
 obtain⟨_,S,F,hM,hs,hf⟩:=c;obtain⟨A,Rm,h1,h2,h3,h4,h5⟩:=(hs.part gs hg hn).split;have hfd:∀k,A k->¬(F k\/Rm k):=λk ha hf=>hf.elim (hM.dj k (h4 k ha)) (h3 k ha);refine(hcon w A (λk=>F k\/Rm k) h1 (AvaL.all ro h2 hf) (λk hk=>hM.bd k (h4 k hk)) (λk hk=>hk.elim (hM.bdF k) λhk=>hM.bd k (h5 k hk)) hfd).mono ?_;rintro e w' ⟨i,S',F',rfl,hM',hs',_⟩;refine⟨i,rfl,λa' σ' hF=>⟨hF,λk=>S' k\/Rm k,F,?_,?_,?_⟩⟩
 ·refine⟨hM.chg.trans' hM'.chg λk hk=>hM.sub k (h4 k hk),λk hk=>hk.elim (λhk=>(hM'.sub k hk).elim (λhk=>hM.sub k (h4 k hk)) λhk=>.inr (BD hM.chg.size hk)) λhk=>hM.sub k (h5 k hk),λk hk=>hk.elim (hM'.bd k) λhk=>CE (hM.bd k (h5 k hk)) hM'.chg.size,λk hk=>CE (hM.bdF k hk) hM'.chg.size,λk hk hf=>hk.elim (λhk=>?_) λhk=>hM.dj k (h5 k hk) hf,hM.dj0,hM.fz,hM.fsub⟩;rcases hM'.sub k hk with ha|ha
  ·simp_all
  ·exact Ac _ (CE (hM.bdF k hf) ha)
 ·refine Sep.join (h2.keep hM'.chg λk hr ha=>h3 k ha hr) hs' (λk _ hr ha=> ?_) (λk _ h=>.inr h) λk _ h=>.inl h;rcases hM'.sub k ha with h|h
  ·simp_all
  ·exact Ac _ (CE (hM.bd k (h5 k hr)) h)
 ·exact hf.chg hM'.chg λk hk ha=>hM.dj k (h4 k ha) hk
def Cx.callsF(c:Cx B N σ Γ Φ a w)(gs:List Nat)(hcon:Con P f args Γ1 Φ1 R)(ro:AvaL [] Φ w Φ1)(hg:gs.map (λi=>Γ[i]?)=Γ1.map some)(hn:gs.Nodup):
  Calls P f args.toArray w λe w'=>∃i,e= .returned (tup (R i).1)/\∀a' σ',FrS N σ' a'->Cx B N σ' (rest gs Γ++(R i).2.1) (Φ++(R i).2.2) a' w':=by
 obtain⟨_,S,F,hM,hs,hf⟩:=c;obtain⟨A,Rm,h1,h2,h3,h4,h5⟩:=(hs.part gs hg hn).split;have hfd:∀k,A k->¬F k:=λk ha hf=>hM.dj k (h4 k ha) hf;refine(hcon w A F h1 ((AvaL.all ro (Sep.nil w Non) hf).sub λ_ _ h=>h.elim id λh=>h.elim) (λk hk=>hM.bd k (h4 k hk)) hM.bdF hfd).mono ?_;rintro e w' ⟨i,S',F',rfl,hM',hs',hf'⟩;have hrn:∀k,Rm k->¬(A k\/w.heap.size<=k):=λk hr h=>h.elim (λha=>h3 k ha hr) λh=>Ac _ (CE (hM.bd k (h5 k hr)) h);refine⟨i,rfl,λa' σ' hF=>⟨hF,λk=>S' k\/Rm k,F',?_,?_,?_⟩⟩
 ·refine⟨hM.chg.trans' hM'.chg λk hk=>hM.sub k (h4 k hk),λk hk=>hk.elim (λhk=>(hM'.sub k hk).elim (λhk=>hM.sub k (h4 k hk)) λhk=>.inr (BD hM.chg.size hk)) λhk=>hM.sub k (h5 k hk),λk hk=>hk.elim (hM'.bd k) λhk=>CE (hM.bd k (h5 k hk)) hM'.chg.size,hM'.bdF,λk hk hf=>hk.elim (λhk=>hM'.dj k hk hf) λhk=>?_,hM.dj0,λk hk=>hM'.fz k (hM.fz k hk),λk hk=>?_⟩
  ·rcases hM'.fsub k hf with h|h
   ·exact hM.dj k (h5 k hk) h
   grind
  ·rcases hM'.fsub k hk with h|h|h
   ·exact hM.fsub k h
   ·exact .inr (hM.sub k (h4 k h))
   ·exact .inr (.inr (BD hM.chg.size h))
 ·refine Sep.join (h2.keep hM'.chg λk hr ha=>h3 k ha hr) hs' (λk _ hr ha=>hrn k hr (hM'.sub k ha)) (λk _ h=>.inr h) λk _ h=>.inl h
 ·exact((hf.chg hM'.chg λk hk ha=>hM.dj k (h4 k ha) hk).sub λk _ hk=>hM'.fz k hk).join hf'
def Ca(gs:List Nat)(c:Cx B N σ Γ Φ a w)(hcon:Con P f args Γ1 Φ1 R)(ro:AvaL (rest gs Γ) Φ w Φ1)(hf:∀(args:Array Value)(w:World),(callFunc f args).run P w= .ok (.enter f args) w)
  (h:∀i fr w',Cx B N ((d,tup (R i).1)::σ) (rest gs Γ++(R i).2.1) Φ fr w'->wpFrom P ops Q (k+1) fr w')
  (ho:ops[k]? =some ⟨some d,.call ⟨.value (.func f),xs,ts⟩,ty,pos,af,none⟩:=by rfl)(hd:Nat.blt d N=true:=by rfl)(hg:gs.map (λi=>Γ[i]?)=Γ1.map some:=by rfl)(hn:gs.Nodup:=by decide)
  (hargs:xs.toList.map (opd σ)=args.map some:=by kernel_rfl):wpFrom P ops Q k a w:=
 s_call args (R:=λv w'=>∃i,v=tup (R i).1/\∀a' σ',FrS N σ' a'->Cx B N σ' (rest gs Γ++(R i).2.1) Φ a' w') hf ho hd c.fr hargs ((c.calls gs hcon ro hg hn).mono λe w'⟨i,h1,h2⟩=>⟨_,h1,i,rfl,h2⟩)
  λv w' fr hR hF=>by grind
def Cf(gs:List Nat)(c:Cx B N σ Γ Φ a w)(hcon:Con P f args Γ1 Φ1 R)(ro:AvaL [] Φ w Φ1)(hf:∀(args:Array Value)(w:World),(callFunc f args).run P w= .ok (.enter f args) w)
  (h:∀i fr w',Cx B N ((d,tup (R i).1)::σ) (rest gs Γ++(R i).2.1) (Φ++(R i).2.2) fr w'->wpFrom P ops Q (k+1) fr w')
  (ho:ops[k]? =some ⟨some d,.call ⟨.value (.func f),xs,ts⟩,ty,pos,af,none⟩:=by rfl)(hd:Nat.blt d N=true:=by rfl)(hg:gs.map (λi=>Γ[i]?)=Γ1.map some:=by rfl)(hn:gs.Nodup:=by decide)
  (hargs:xs.toList.map (opd σ)=args.map some:=by kernel_rfl):wpFrom P ops Q k a w:=
 s_call args (R:=λv w'=>∃i,v=tup (R i).1/\∀a' σ',FrS N σ' a'->Cx B N σ' (rest gs Γ++(R i).2.1) (Φ++(R i).2.2) a' w') hf ho hd c.fr hargs ((c.callsF gs hcon ro hg hn).mono λe w'⟨i,h1,h2⟩=>⟨_,h1,i,rfl,h2⟩)
  λv w' fr hR hF=>by grind
def Cx.fz{α:Type}[Rep α]{E:TypeId}{v:Value}{l:List α}(i:Nat)(c:Cx B N σ Γ Φ a w)(hi:Γ[i]? =some (SL E v l):=by rfl):Cx B N σ (rest [i] Γ) (Φ++[RO v l]) a w:=by
 obtain⟨h,S,F,h1,h2,h3⟩:=c;have hp:=h2.part [i] (Γ1:=[SL E v l]) aH U;obtain⟨S',F',hM,hs,hr,hfz⟩:=Sep.freeze (L:=rest [i] Γ) hp h1;exact⟨h,S',F',hM,hs,(h3.sub λk _ hk=>hfz k hk).add (SL.rv hr)⟩
theorem Cx.dp(gs:List Nat)(c:Cx B N σ Γ Φ a w):Cx B N σ (rest gs Γ) Φ a w:=by
 obtain⟨h,S,F,h1,h2,h3⟩:=c;refine⟨h,S,F,h1,?_,h3⟩;rw[KC];refine h2.pick ((List.range Γ.length).filter λi=>!gs.contains i) ((List.nodup_range).filter _) ?_;have key:∀l:List Nat,(∀i∈l,i<Γ.length)->l.map (λi=>Γ[i]?)=(l.filterMap λi=>Γ[i]?).map some:=by
  intro l
  induction l with
  |nil=>intro _;rfl
  |cons i l ih=>
   simp_all
 simp_all
def Cx.nil{α:Type}[Rep α](E:TypeId)(c:Cx B N σ Γ Φ a w):Cx B N σ (Γ++[SL E (.slice none 0 0) ([]:List α)]) Φ a w:=c.gam λS h=>ZP (Γ2:=[SL E (.slice none 0 0) ([]:List α)]) (h.cons_nil E)
end
section
variable{P:Program}{B:Bs}{N:Nat}{σ:List (Nat×Value)}{Γ:List HP}{Φ:List RF}{a:Act}{w:World}{Q:Exit->Act->World->Prop}
  {ops:Array Oper}{k d d2 d3:Nat}{t t' s' ty ty' ty2 yt:TypeId}{pos pos' pos2:String}{af af' af2:Array Edge}{x y y' z:Operand}{kd kk:IntKind}
def numOf:Option Value->Option Int
 |some (.int _ n)=>some n
 |_=>none
theorem Yp{o:Option Value}{n:Int}(h:numOf o=some n):∃kd,o=some (.int kd n):=by
 unfold numOf at h;grind
def Eshl{m n r:Int}(c:Cx B N σ Γ Φ a w)(hz:shl? m n=some r)(h:∀fr,Cx B N ((d,.int .i64 r)::σ) Γ Φ fr w->wpFrom P ops Q (k+1) fr w)
  (ho:ops[k]? =some ⟨some d,.binOp .shl t x y yt,ty,pos,af,none⟩:=by rfl)(hd:Nat.blt d N=true:=by rfl)(hx:opd σ x=some (.int .i64 m):=by kernel_rfl)(hy:numOf (opd σ y)=some n:=by kernel_rfl):wpFrom P ops Q k a w:=by
 obtain⟨kd,hy⟩:=Yp hy;exact Cj ho hd c.fr hx hy hz λfr hF=>h fr (c.to hF)
def Eshr{m n r:Int}(c:Cx B N σ Γ Φ a w)(hz:shr? m n=some r)(h:∀fr,Cx B N ((d,.int .i64 r)::σ) Γ Φ fr w->wpFrom P ops Q (k+1) fr w)
  (ho:ops[k]? =some ⟨some d,.binOp .shr t x y yt,ty,pos,af,none⟩:=by rfl)(hd:Nat.blt d N=true:=by rfl)(hx:opd σ x=some (.int .i64 m):=by kernel_rfl)(hy:numOf (opd σ y)=some n:=by kernel_rfl):wpFrom P ops Q k a w:=by
 obtain⟨kd,hy⟩:=Yp hy;exact Ch ho hd c.fr hx hy hz λfr hF=>h fr (c.to hF)
def Equo{m n r:Int}(c:Cx B N σ Γ Φ a w)(hz:quo? m n=some r)(h:∀fr,Cx B N ((d,.int .i64 r)::σ) Γ Φ fr w->wpFrom P ops Q (k+1) fr w)
  (ho:ops[k]? =some ⟨some d,.binOp .quo t x y yt,ty,pos,af,none⟩:=by rfl)(hd:Nat.blt d N=true:=by rfl)(hx:opd σ x=some (.int .i64 m):=by kernel_rfl)(hy:opd σ y=some (.int .i64 n):=by kernel_rfl):wpFrom P ops Q k a w:=
 Ck ho hd c.fr hx hy hz λfr hF=>h fr (c.to hF)
def Erem{m n r:Int}(c:Cx B N σ Γ Φ a w)(hz:rem? m n=some r)(h:∀fr,Cx B N ((d,.int .i64 r)::σ) Γ Φ fr w->wpFrom P ops Q (k+1) fr w)
  (ho:ops[k]? =some ⟨some d,.binOp .rem t x y yt,ty,pos,af,none⟩:=by rfl)(hd:Nat.blt d N=true:=by rfl)(hx:opd σ x=some (.int .i64 m):=by kernel_rfl)(hy:opd σ y=some (.int .i64 n):=by kernel_rfl):wpFrom P ops Q k a w:=
 DU ho hd c.fr hx hy hz λfr hF=>h fr (c.to hF)
def Ebin{op:BinOp}{vx vy u:Value}(c:Cx B N σ Γ Φ a w)(hg:(eqGuard op t x y vx vy).run P w= .ok () w)(hr:(binOp op t vx vy).run P w= .ok u w)(h:∀fr,Cx B N ((d,u)::σ) Γ Φ fr w->wpFrom P ops Q (k+1) fr w)
  (ho:ops[k]? =some ⟨some d,.binOp op t x y yt,ty,pos,af,none⟩:=by rfl)(hd:Nat.blt d N=true:=by rfl)(hx:opd σ x=some vx:=by kernel_rfl)(hy:opd σ y=some vy:=by kernel_rfl):wpFrom P ops Q k a w:=
 Oa ho hd c.fr hx hy hg hr λfr hF=>h fr (c.to hF)
def Epk{b:Bool}{p:Operand}{v:Value}(c:Cx B N σ Γ Φ a w)(h:∀fr,Cx B N ((d,v)::σ) Γ Φ fr w->wpFrom P ops Q (k+1) fr w)(ho:ops[k]? =some ⟨some d,.pick p x y,ty,pos,af,none⟩:=by rfl)(hd:Nat.blt d N=true:=by rfl)
  (hc:opd σ p=some (.bool b):=by kernel_rfl)(hv:opd σ (if b then x else y)=some v:=by kernel_rfl):wpFrom P ops Q k a w:=Jb ho hd c.fr hc hv λfr hF=>h fr (c.to hF)
theorem Ebx(cs:List Value)(c:Cx B N σ Γ Φ a w)(h:∀b fr w',Cx B N ((d,.pointer (some ⟨b,0,none⟩))::σ) (Γ++[BX b t cs]) Φ fr w'->wpFrom P ops Q (k+1) fr w')(hv:(opd σ x).map (λv=>v.cells.toList)=some cs:=by kernel_rfl)
  (ho:ops[k]? =some ⟨some d,.box t x,ty,pos,af,none⟩:=by rfl)(hd:Nat.blt d N=true:=by rfl):wpFrom P ops Q k a w:=by
 obtain⟨hF,S,F,hM,hs,hf⟩:=c;cases hx:opd σ x with
 |none=>simp_all
 |some v=>
  exact DL hs hM cs ho hd hF hx ai λb w' S' fr hs' hp hF'=>h b fr w' ⟨hF',S',F,hM.stp hp,ZP (Γ2:=[_]) hs',hf.chg hp.chg λk hk hS=>hM.dj k hS hk⟩
theorem Eal(cs:List Value)(c:Cx B N σ Γ Φ a w)(h:∀b fr w',Cx B N ((d,.pointer (some ⟨b,0,none⟩))::σ) (Γ++[BX b t cs]) Φ fr w'->wpFrom P ops Q (k+1) fr w')(ho:ops[k]? =some ⟨some d,.alloc t,ty,pos,af,none⟩:=by rfl)(hd:Nat.blt d N=true:=by rfl)
  (hz:(P.info? t).map (λi=>i.zero.map λz=>z.cells.toList)=some (some cs):=by kernel_rfl):wpFrom P ops Q k a w:=by
 obtain⟨hF,S,F,hM,hs,hf⟩:=c;cases hi:P.info? t with
 |none=>simp_all
 | some i=>
  rw[hi]at hz;cases hzz:i.zero with
  |none=>simp_all
  |some z=>
   simp only[CJ,hzz,Option.some.injEq]at hz;exact Ei (z:=z) hs hM cs ho hd hF ai hz λb w' S' fr hs' hp hF'=>h b fr w' ⟨hF',S',F,hM.stp hp,ZP (Γ2:=[_]) hs',hf.chg hp.chg λk hk hS=>hM.dj k hS hk⟩
def Esb{b bt:Nat}{cs:List Value}(i n:Nat)(u:Value)(c:Cx B N σ Γ Φ a w)(h:∀w',Cx B N σ (Γ.set i (BX b bt (cs.set n u))) Φ a w'->wpFrom P ops Q (k+1) a w')(hi:Γ[i]? =some (BX b bt cs):=by rfl)(ho:ops[k]? =some ⟨none,.store t x y,ty,pos,af,none⟩:=by rfl)
  (hn:Nat.blt n cs.length=true:=by rfl)(h1:u.oneCell'=true:=by rfl)(ht:(P.info? t).map (·.size)=some 1:=by kernel_rfl)(hx:opd σ x=some (.pointer (some ⟨b,n,none⟩)):=by kernel_rfl)(hy:opd σ y=some u:=by kernel_rfl):wpFrom P ops Q k a w:=by
 obtain⟨hF,S,F,hM,hs,hf⟩:=c;exact ML i hs hM hi (cs.set n u) ho hF hx hy ht hn h1 rfl λw' S' hs' hp hF'=>h w' ⟨hF',S',F,hM.stp hp,hs',hf.chg hp.chg λk hk hS=>hM.dj k hS hk⟩
theorem Ess{b bt:Nat}{cs:List Value}(i:Nat)(cs':List Value)(c:Cx B N σ Γ Φ a w)(h:∀w',Cx B N σ (Γ.set i (BX b bt cs')) Φ a w'->wpFrom P ops Q (k+1) a w')(hi:Γ[i]? =some (BX b bt cs):=by rfl)(ho:ops[k]? =some ⟨none,.store t x y,ty,pos,af,none⟩:=by rfl)
  (hl:cs'.length=cs.length:=by rfl)(h1:(cs'.all λz=>z.oneCell')=true:=by rfl)(ht:(P.info? t).map (·.size)=some cs'.length:=by kernel_rfl)(hx:opd σ x=some (.pointer (some ⟨b,0,none⟩)):=by kernel_rfl)(hy:(opd σ y).map (λv=>v.cells.toList)=some cs':=by kernel_rfl):wpFrom P ops Q k a w:=by
 obtain⟨hF,S,F,hM,hs,hf⟩:=c;cases hx':opd σ y with
 |none=>simp_all
 |some v=>
  exact NB i hs hM hi cs' ho hF hx hx' ht hl ai h1 λw' S' hs' hp hF'=>h w' ⟨hF',S',F,hM.stp hp,hs',hf.chg hp.chg λk hk hS=>hM.dj k hS hk⟩
section
variable{α:Type}{E:TypeId}{v:Value}{l m r:List α}
def Eel[Flat α]{n:Int}{q:α}(c:Cx B N σ Γ Φ a w)(hl:Ava Γ Φ w (RO v l))(hz:get? l n=some q)(h:∀p fr,Cx B N ((d2,Rep.val α (Flat.enc q))::(d,p)::σ) Γ Φ fr w->wpFrom P ops Q (k+2) fr w)
  (ho:ops[k]? =some ⟨some d,.indexAddr t x y,ty,pos,af,none⟩:=by rfl)(ho':ops[k+1]? =some ⟨some d2,.load t' (.tmp d),ty',pos',af',none⟩:=by rfl)(hd:Nat.blt d N=true:=by rfl)(hd':Nat.blt d2 N=true:=by rfl)
  (he:Ty P t' α:=by constructor<;>kernel_rfl)(ht:P.underlying t=some (.slice t'):=by kernel_rfl)(hx:opd σ x=some v:=by kernel_rfl)(hy:numOf (opd σ y)=some n:=by kernel_rfl):wpFrom P ops Q k a w:=by
 obtain⟨F,hl⟩:=c.use hl;obtain⟨kd,hy⟩:=Yp hy;exact Ej _ he ht ho ho' rfl hd hd' c.fr hx hl hy (get?_nn hz) (get?_at hz) rfl λp fr hF=>h p fr (c.to hF)
def Eem[Rep α]{n:Int}{q:α}(c:Cx B N σ Γ Φ a w)(hl:Ava [] Φ w (RO v l))(hz:get? l n=some q)(h:∀p u fr,Cx B N ((d2,u)::(d,p)::σ) Γ (Φ++[RO u q]) fr w->wpFrom P ops Q (k+2) fr w)
  (ho:ops[k]? =some ⟨some d,.indexAddr t x y,ty,pos,af,none⟩:=by rfl)(ho':ops[k+1]? =some ⟨some d2,.load t' (.tmp d),ty',pos',af',none⟩:=by rfl)(hd:Nat.blt d N=true:=by rfl)(hd':Nat.blt d2 N=true:=by rfl)
  (he:Ty P t' α:=by constructor<;>kernel_rfl)(ht:P.underlying t=some (.slice t'):=by kernel_rfl)(hx:opd σ x=some v:=by kernel_rfl)(hy:numOf (opd σ y)=some n:=by kernel_rfl):wpFrom P ops Q k a w:=by
 obtain⟨hF,S,F,hM,hs,hf⟩:=c;obtain⟨kd,hy⟩:=Yp hy;have hl':=hl Non F (Sep.nil w Non) hf;exact Ij he ht ho ho' rfl hd hd' hF hx hl' hy (get?_nn hz) (get?_at hz) λp u fr hr hF'=>h p u fr ⟨hF',S,F,hM,hs,hf.add (RV.sub hr λ_ _ h=>h.elim id λh=>h.elim)⟩
theorem Eef[Rep α]{n:Int}{q:α}{u:Value}{fl off:Nat}(c:Cx B N σ Γ Φ a w)(hl:Ava Γ Φ w (RO v l))(hz:get? l n=some q)(hu:∀{w:World}{F:Nat->Prop}{cs:List Value},Rep.ok w F cs q->cs[off]? =some u)
  (h:∀p p2 fr,Cx B N ((d3,u)::(d2,p2)::(d,p)::σ) Γ Φ fr w->wpFrom P ops Q (k+3) fr w)
  (ho:ops[k]? =some ⟨some d,.indexAddr t x y,ty,pos,af,none⟩:=by rfl)(ho2:ops[k+1]? =some ⟨some d2,.fieldAddr s' (.tmp d) fl,ty2,pos2,af2,none⟩:=by rfl)(ho':ops[k+2]? =some ⟨some d3,.load t' (.tmp d2),ty',pos',af',none⟩:=by rfl)
  (hd:Nat.blt d N=true:=by rfl)(hd2:Nat.blt d2 N=true:=by rfl)(hd3:Nat.blt d3 N=true:=by rfl)(he:Ty P s' α:=by constructor<;>kernel_rfl)(ht:P.underlying t=some (.slice s'):=by kernel_rfl)(hT:Ty P t' Int:=by constructor<;>kernel_rfl)
  (hoff:fieldOff P s' fl=some off:=by kernel_rfl)(hx:opd σ x=some v:=by kernel_rfl)(hy:numOf (opd σ y)=some n:=by kernel_rfl):wpFrom P ops Q k a w:=by
 obtain⟨F,hl⟩:=c.use hl;obtain⟨kd,hy⟩:=Yp hy;refine ZB c.fr ho rfl rfl (Bc.mp hd) (Ul rfl ht he (Ze c.fr hx) hl (Ze c.fr hy) (get?_nn hz) (get?_at hz)) λp w1 fr1 hpw hF1=>?_;obtain⟨⟨ad,cs,rfl,hFb,hok,hc⟩,rfl⟩:=hpw;have hp1:=hF1.get d (.pointer (some ad)) U
 refine ZB hF1 ho2 rfl rfl (Bc.mp hd2) (R:=λp w2=>p= .pointer (some (ad.add off))/\w1=w2) (Zg (TJ (P:=P) (ρ:=λy=>match y with|.tmp s=>if s=d then some (.pointer (some ad))else none|_=>none) (λy z hy=>by
  grind) (by simp[pe,hoff]) w1) ⟨rfl,rfl⟩) λp2 w2 fr2 hp2 hF2=>?_
 obtain⟨rfl,rfl⟩:=hp2;have hc1:Cells w1 (ad.add off) [u]:=λj q' hq=>by
  cases j with
  |zero=>
   simp only[BA,Option.some.injEq]at hq;subst hq;exact hc off u (hu hok)
  |succ j=>simp at hq
 refine ZB hF2 ho' rfl rfl (Bc.mp hd3) (R:=λz w3=>z=u/\w1=w3) (Zg (v:=u) (w':=w1) ?_ ⟨rfl,rfl⟩) λz w3 fr3 hz3 hF3=>?_
 ·have hd1:=hF2.get d2 (.pointer (some (ad.add off))) U;have:=YT hT (cs:=[u]) rfl hc1;have hv:Rep.val Int [u]=u:=rfl;simp_all[execOp,Instr.loadAt,Instr.sureAddr]
 ·obtain⟨rfl,rfl⟩:=hz3;exact h _ _ fr3 (c.to hF3)
theorem Esl[Rep α]{lo hi:Option Operand}{m n:Int}(E:TypeId)(c:Cx B N σ Γ Φ a w)(hl:Ava [] Φ w (RO v l))(hr:cut? l m n=some r)(h:∀u fr,Cx B N ((d,u)::σ) Γ (Φ++[RO u r]) fr w->wpFrom P ops Q (k+1) fr w)
  (ho:ops[k]? =some ⟨some d,.slice t x lo hi none,ty,pos,af,none⟩:=by rfl)(hd:Nat.blt d N=true:=by rfl)(he:Ty P E α:=by constructor<;>kernel_rfl)(ht:P.underlying t=some (.slice E):=by kernel_rfl)(hx:opd σ x=some v:=by kernel_rfl)
  (hlo:(match lo with|none=>some 0|some y=>numOf (opd σ y))=some m:=by kernel_rfl)(hhi:(match hi with|none=>some (len l)|some y=>numOf (opd σ y))=some n:=by kernel_rfl):wpFrom P ops Q k a w:=by
 obtain⟨hF,S,F,hM,hs,hf⟩:=c;have hl':=hl Non F (Sep.nil w Non) hf;refine Eo he ht ho hd hF hx hl' (m:=m) (n:=n) ?_ ?_ hr λu fr hr hF'=>h u fr ⟨hF',S,F,hM,hs,hf.add (RV.sub hr λ_ _ h=>h.elim id λh=>h.elim)⟩
 ·grind[Option.some.inj,Yp]
 ·cases hi with
  |none=>exact(Option.some.inj hhi).symm
  |some y=>simp_all[Yp]
end
section
variable{α:Type}[Flat α]{E:TypeId}{v u:Value}{l m r:List α}
theorem Eset{n:Int}{q:α}(i:Nat)(c:Cx B N σ Γ Φ a w)(hr:set? l n q=some r)(h:∀p fr w',Cx B N ((d,p)::σ) (Γ.set i (SL E v r)) Φ fr w'->wpFrom P ops Q (k+2) fr w')(hi:Γ[i]? =some (SL E v l):=by rfl)
  (ho:ops[k]? =some ⟨some d,.indexAddr t x y,ty,pos,af,none⟩:=by rfl)(ho':ops[k+1]? =some ⟨none,.store t' (.tmp d) z,ty',pos',af',none⟩:=by rfl)(hte:t'=E:=by rfl)(hd:Nat.blt d N=true:=by rfl)(hz:z≠ .tmp d:=by simp)
  (he:Ty P E α:=by constructor<;>kernel_rfl)(ht:P.underlying t=some (.slice E):=by kernel_rfl)(hx:opd σ x=some v:=by kernel_rfl)(hy:numOf (opd σ y)=some n:=by kernel_rfl)(hq:opd σ z=some (Rep.val α (Flat.enc q)):=by kernel_rfl):wpFrom P ops Q k a w:=by
 obtain⟨hF,S,F,hM,hs,hf⟩:=c;obtain⟨kd,hy⟩:=Yp hy;exact DW i hs hM hi ht he ho ho' hte hd hF hx hy hz hq rfl hr λw' S' fr p hs' hp hF'=>h p fr w' ⟨hF',S',F,hM.stp hp,hs',hf.chg hp.chg λk hk hS=>hM.dj k hS hk⟩
def Emk{n:Int}{zc:α}(E:TypeId)(c:Cx B N σ Γ Φ a w)(hr:mk? n zc=some r)(h:∀a' c' fr w',Cx B N ((d,.slice a' (List.length r) c')::σ) (Γ++[SL E (.slice a' (List.length r) c') r]) Φ fr w'->wpFrom P ops Q (k+1) fr w')
  (ho:ops[k]? =some ⟨some d,.makeSlice t x y,ty,pos,af,none⟩:=by rfl)(hd:Nat.blt d N=true:=by rfl)(he:ElT P E α:=by refine elT ?_;kernel_rfl)(ht:P.underlying t=some (.slice E):=by kernel_rfl)
  (hz:(P.info? E).map (λi=>i.zero.map λz=>z.cells.toList)=some (some (Flat.enc zc)):=by kernel_rfl)(hx:opd σ x=some (.int .i64 n):=by kernel_rfl)(hy:opd σ y=some (.int .i64 n):=by kernel_rfl):wpFrom P ops Q k a w:=by
 obtain⟨hF,S,F,hM,hs,hf⟩:=c;exact Da hs hM ht he (Od _ hz) ho hd hF hx hy hr λa' c' w' S' fr hs' hp hF'=>h a' c' fr w' ⟨hF',S',F,hM.stp hp,ZP (Γ2:=[_]) hs',hf.chg hp.chg λk hk hS=>hM.dj k hS hk⟩
def Elt{n:Nat}{parts:Array (Nat×Operand)}(E:TypeId)(l:List α)(c:Cx B N σ Γ Φ a w)(h:∀a' c' fr w',Cx B N ((d,.slice a' (List.length l) c')::σ) (Γ++[SL E (.slice a' (List.length l) c') l]) Φ fr w'->wpFrom P ops Q (k+1) fr w')
  (ho:ops[k]? =some ⟨some d,.buildSlice t n parts,ty,pos,af,none⟩:=by rfl)(hd:Nat.blt d N=true:=by rfl)(hln:l.length=n:=by rfl)(hmax:Nat.ble l.length room=true:=by rfl)
  (hv:parts.toList.map (λp=>opd σ p.2)=(l.map λx=>Rep.val α (Flat.enc x)).map some:=by kernel_rfl)
  (hrun:∀w,(Instr.buildSlice t n ((parts.toList.map (·.1)).zip (l.map λx=>Rep.val α (Flat.enc x))).toArray).run P w= .ok (.slice (some ⟨w.heap.size,0,none⟩) n n) (w.alloc (.cells (l.map Flat.enc).flatten.toArray E)):=by intro _;kernel_rfl):wpFrom P ops Q k a w:=by
 obtain⟨hF,S,F,hM,hs,hf⟩:=c;exact DK hs hM (l.map Flat.enc).flatten (l.map Flat.enc) l ho hd hF _ hv hrun (QJ _) rfl hln hmax λa' c' w' S' fr hs' hp hF'=>h a' c' fr w' ⟨hF',S',F,hM.stp hp,ZP (Γ2:=[_]) hs',hf.chg hp.chg λk hk hS=>hM.dj k hS hk⟩
def Eap(i:Nat)(c:Cx B N σ Γ Φ a w)(hu:Ava Γ Φ w (RO u m))(hr:app? l m=some r)(h:∀a' c' fr w',Cx B N ((d,.slice a' (List.length r) c')::σ) (Γ.set i (SL E (.slice a' (List.length r) c') r)) Φ fr w'->wpFrom P ops Q (k+1) fr w')(hi:Γ[i]? =some (SL E v l):=by rfl)
  (ho:ops[k]? =some ⟨some d,.call ⟨.builtin .append,#[x,y],#[t,t']⟩,ty,pos,af,none⟩:=by rfl)(htt:t'=t:=by rfl)(hd:Nat.blt d N=true:=by rfl)(he:ElT P E α:=by refine elT ?_;kernel_rfl)(ht:P.underlying t=some (.slice E):=by kernel_rfl)
  (hx:opd σ x=some v:=by kernel_rfl)(hy:opd σ y=some u:=by kernel_rfl):wpFrom P ops Q k a w:=by
 obtain⟨F',hu⟩:=c.use hu;obtain⟨hF,S,F,hM,hs,hf⟩:=c;exact GH i hs hM hi ht he ho htt hd hF hx hy hu hr λa' c' w' S' fr hs' hp hF'=>h a' c' fr w' ⟨hF',S',F,hM.stp hp,hs',hf.chg hp.chg λk hk hS=>hM.dj k hS hk⟩
def Efr{lo:Option Operand}{hi':Operand}{b:Option Addr}{cp len0:Nat}{n:Int}(i:Nat)(c:Cx B N σ Γ Φ a w)(hr:cut? l 0 n=some r)(h:∀c' fr w',Cx B N ((d,.slice b (List.length r) c')::σ) (Γ.set i (SL E (.slice b (List.length r) c') r)) Φ fr w'->wpFrom P ops Q (k+1) fr w')
  (hi:Γ[i]? =some (SL E (.slice b len0 cp) l):=by rfl)(ho:ops[k]? =some ⟨some d,.slice t x lo (some hi') none,ty,pos,af,none⟩:=by rfl)(hd:Nat.blt d N=true:=by rfl)(he:Ty P E α:=by constructor<;>kernel_rfl)(ht:P.underlying t=some (.slice E):=by kernel_rfl)
  (hx:opd σ x=some (.slice b len0 cp):=by kernel_rfl)(hlo:(match lo with|none=>some 0|some y=>numOf (opd σ y))=some 0:=by kernel_rfl)(hhi:numOf (opd σ hi')=some n:=by kernel_rfl):wpFrom P ops Q k a w:=by
 obtain⟨hF,S,F,hM,hs,hf⟩:=c;obtain⟨kd,hhi⟩:=Yp hhi;exact Ec i hs hM hi ht he ho hd hF hx (by grind[Yp]) hhi hr λc' w' S' fr hs' hp hF'=>h c' fr w' ⟨hF',S',F,hM.stp hp,hs',hf.chg hp.chg λk hk hS=>hM.dj k hS hk⟩
end
section
variable{K V:TypeId}{κ β:Type}[Flat κ][Flat β][DecidableEq κ]{T:MapT P K V κ β}{b:Nat}{m:List (κ×β)}
def Emm(T:MapT P K V κ β)(c:Cx B N σ Γ Φ a w)(h:∀b fr w',Cx B N ((d,.map (some b))::σ) (Γ++[MP T b []]) Φ fr w'->wpFrom P ops Q (k+1) fr w')(ho:ops[k]? =some ⟨some d,.makeMap t none,ty,pos,af,none⟩:=by rfl)(hd:Nat.blt d N=true:=by rfl)
  (hm:∀w,(Instr.makeMap t none).run P w= .ok (.map (some w.heap.size)) (w.alloc (.map #[] 0)):=by exact λw=>by simp[Instr.makeMap,run_newObj_alloc]):wpFrom P ops Q k a w:=by
 obtain⟨hF,S,F,hM,hs,hf⟩:=c;exact Jm T hs hM hm ho hd hF λb w' S' fr hs' hp hF'=>h b fr w' ⟨hF',S',F,hM.stp hp,ZP (Γ2:=[_]) hs',hf.chg hp.chg λk hk hS=>hM.dj k hS hk⟩
def Emg2{q:κ}{r:β×Bool}{fit:κ->Bool}{zz:β}(i:Nat)(c:Cx B N σ Γ Φ a w)(hr:mget2? fit zz m q=some r)(h:∀fr,Cx B N ((d,.tuple #[Rep.val β (Flat.enc r.1),.bool r.2])::σ) Γ Φ fr w->wpFrom P ops Q (k+1) fr w)(hi:Γ[i]? =some (MP T b m):=by rfl)(hfit:T.fit=fit:=by rfl)(hzz:T.zero=zz:=by rfl)
  (ho:ops[k]? =some ⟨some d,.lookup t x y true,ty,pos,af,none⟩:=by rfl)(hd:Nat.blt d N=true:=by rfl)(ht:P.underlying t=some (.map K V):=by kernel_rfl)(hx:opd σ x=some (.map (some b)):=by kernel_rfl)(hy:opd σ y=some (Rep.val κ (Flat.enc q)):=by kernel_rfl):wpFrom P ops Q k a w:=by
 obtain⟨S,F,hM,hs,hf⟩:=c.me;subst hfit;subst hzz;exact Jc T i hs hi ht ho hd c.fr (u:=q) (mget2?_fit hr) hx hy rfl (mget2?_val hr) rfl λfr hF=>h fr (c.to hF)
def Emp{q:κ}{e:β}{m':List (κ×β)}{fit:κ->Bool}{efit:β->Bool}(i:Nat)(c:Cx B N σ Γ Φ a w)(hr:mputE? fit efit m q e=some m')(h:∀w',Cx B N σ (Γ.set i (MP T b m')) Φ a w'->wpFrom P ops Q (k+1) a w')(hi:Γ[i]? =some (MP T b m):=by rfl)(hfit:T.fit=fit:=by rfl)(hzz:T.efit=efit:=by rfl)
  (ho:ops[k]? =some ⟨none,.mapUpdate t x y z,ty,pos,af,none⟩:=by rfl)(ht:P.underlying t=some (.map K V):=by kernel_rfl)(hx:opd σ x=some (.map (some b)):=by kernel_rfl)(hy:opd σ y=some (Rep.val κ (Flat.enc q)):=by kernel_rfl)(hz:opd σ z=some (Rep.val β (Flat.enc e)):=by kernel_rfl):wpFrom P ops Q k a w:=by
 obtain⟨hF,S,F,hM,hs,hf⟩:=c;subst hfit;subst hzz;exact Hf T i hs hM hi ht ho hF (u:=q) (mputE?_fit hr) e (mputE?_efit hr) (mputE?_len hr) hx hy rfl hz rfl λw' S' hs' hp hF'=>h w' ⟨hF',S',F,hM.stp hp,by grind[mputE?_val],hf.chg hp.chg λk hk hS=>hM.dj k hS hk⟩
end
end
section
variable{P:Program}{B:Bs}{N:Nat}{σ:List (Nat×Value)}{Γ:List HP}{Φ:List RF}{a a':Act}{w w':World}{Q:Exit->Act->World->Prop}{K:Act->World->Prop}
abbrev Cx.wd(_:Cx B N σ Γ Φ a w):World:=w
def Cx.swap{H H':HP}(i:Nat)(c:Cx B N σ Γ Φ a w)(f:∀A,H.ok w A->H'.ok w A)(hi:Γ[i]? =some H:=by rfl):Cx B N σ (Γ.set i H') Φ a w:=by
 obtain⟨h,S,F,h1,h2,h3⟩:=c;exact⟨h,S,F,h1,h2.swapT i hi f,h3⟩
def Cx.bxe{b t:Nat}{cs cs':List Value}(i:Nat)(c:Cx B N σ Γ Φ a w)(he:cs=cs')(hi:Γ[i]? =some (BX b t cs):=by rfl):Cx B N σ (Γ.set i (BX b t cs')) Φ a w:=c.swap i (λ_ h=>he▸h) hi
def Cx.nilf{α:Type}[Rep α](c:Cx B N σ Γ Φ a w):Cx B N σ Γ (Φ++[RO (.slice none 0 0) ([]:List α)]) a w:=c.add Ava.nil
def Cx.sl{α:Type}[Rep α]{v:Value}{l:List α}(i:Nat)(c:Cx B N σ Γ Φ a w)(hi:Φ[i]? =some (RO v l):=by rfl):∃b cp,v= .slice b l.length cp:=by
 obtain⟨F,h⟩:=c.use (Ava.f i hi);obtain⟨b,cp,h,_⟩:=RV.slice h;simp_all
def Cx.flat{L:List HP}(i:Nat)(c:Cx B N σ Γ Φ a w)(hi:Γ[i]? =some (HP.sep L):=by rfl):Cx B N σ (rest [i] Γ++L) Φ a w:=c.gam λS h=>by
 have:=h.part [i] (Γ1:=[HP.sep L]) aH U;simp_all[ZP,Sep.flat]
def If{x y:Code}{o:Operand}{b:Bool}(c:Cx B N σ Γ Φ a w)(ht:b=true->x.wp P Q a w)(hf:b=false->y.wp P Q a w)(hb:opd σ o=some (.bool b):=by kernel_rfl):(Code.cond o x y).wp P Q a w:=Gq c.fr hb ht hf
def As{id:Nat}{l:List Oper}(hmix:P.follows .mixedOrders=true)(c:Cx B N σ Γ Φ a w)(h:∀w',Cx B N σ Γ Φ a w'->wpAny P .any l.toArray Q l.toArray.size (Array.replicate l.toArray.size false) a w'):(Code.region id l.toArray true).wp P Q a w:=
 Jw hmix λw' hc=>h w' (c.ext hc)
def At{ops:Array Oper}{L:Array Bool}(fuel:Nat)(is:List Nat)(σ':List (Nat×Value))(c:Cx B N σ Γ Φ a w)(h:∀a',Cx B N σ' Γ Φ a' w->wpAny P .any ops Q fuel (is.foldl (λL i=>L.setIfInBounds i true) L) a' w)(hns:Region.noSelect ops=true:=by kernel_rfl)(ht:takesB ops L is=true:=by kernel_rfl)
  (hs:(seqV P N (is.filterMap (ops[·]?)) σ).map (λs=>σ'.map λp=>s.lookup p.1)=some (σ'.map λp=>some p.2):=by kernel_rfl)(hQ:∀c a d v w,Q (.panic c) (Act.put a (some d) v) w->Q (.panic c) a w:=by exact λ_ _ _ _ _ h=>h):wpAny P .any ops Q (fuel+is.length) L a w:=
 KR is σ' c.fr hns ht hs hQ λa' hF=>h a' (c.to hF)
def Gt{l:List Oper}{k g t:Nat}{want:Bool}{o og:Oper}(c:Cx B N σ Γ Φ a w)(h:wpFrom P (l.set k {o with guard:=none}).toArray Q k a w)(ho:l[k]? =some o:=by rfl)(hg:o.guard=some (g,want):=by rfl)(hog:l[g]? =some og:=by rfl)(ht:og.dst=some t:=by rfl)
  (htN:Nat.blt t N=true:=by rfl)(hv:opd σ (.tmp t)=some (.bool want):=by kernel_rfl):wpFrom P l.toArray Q k a w:=MM c.fr ho hg hog ht htN hv h
def Gs{ops:Array Oper}{k g t d:Nat}{want:Bool}{o og:Oper}(c:Cx B N σ Γ Φ a w)(h:∀fr,Cx B N ((d,undef)::σ) Γ Φ fr w->wpFrom P ops Q (k+1) fr w)(ho:ops[k]? =some o:=by rfl)(hg:o.guard=some (g,want):=by rfl)(hog:ops[g]? =some og:=by rfl)
  (ht:og.dst=some t:=by rfl)(hd:o.dst=some d:=by rfl)(htN:Nat.blt t N=true:=by rfl)(hdN:Nat.blt d N=true:=by rfl)(hv:opd σ (.tmp t)=some (.bool (!want)):=by kernel_rfl):wpFrom P ops Q k a w:=
 KU c.fr ho hg hog ht htN hv U hd hdN λfr hF=>h fr (c.to hF)
def pureC(P:Program)(N:Nat)(σ:List (Nat×Value)):Code->Option (List (Nat×Value))
 |.skip=>some σ
 |.region _ ops false=>seqV P N ops.toList σ
 |_=>none
def dstC:Code->List Nat
 |.region _ ops _=>ops.toList.filterMap (·.dst)
 |_=>[]
theorem Pm{t:Nat}:∀{l:List Oper}{σ σ':List (Nat×Value)},seqV P N l σ=some σ'->t∉l.filterMap (·.dst)->σ'.lookup t=σ.lookup t
 |[],σ,σ',h,_=>by simp_all[seqV,Option.some.injEq]
 | o::l,σ,σ',h,ht=>by
  unfold seqV at h;split at h
  ·rename_i d v hg hd hv;split at h
   ·rw[List.filterMap_cons,hd]at ht;have h1:=Pm h λhm=>ht (CX _ hm);grind
   ·cases h
  ·cases h
theorem Wq{t:Nat}{v:Value}:∀{τ σ:List (Nat×Value)},(τ++σ).lookup t=some v->(t,v)∈τ\/σ.lookup t=some v
 |[],_,h=>.inr h
 | (k,u)::τ,σ,h=>by
  rw[List.cons_append,CO]at h;by_cases e:t=k
  ·simp_all
  ·have:(t==k)=false:=by simpa using e
   rw[this]at h;exact(Wq h).imp (CX _) id
theorem NQ{x:Code}{τ:List (Nat×Value)}{D:List Nat}(hF:FrS N σ a)(h:(pureC P N σ x).map (λs=>τ.map λp=>s.lookup p.1)=some (τ.map λp=>some p.2))(hD:((dstC x).all (memN D))=true):
  x.wp P (λe a' w'=>e= .normal/\w'=w/\FrS N (τ++σ.filter λp=>!memN D p.1) a') a w:=by
 have fin:∀(s:List (Nat×Value))(a':Act),FrS N s a'->(∀p∈τ,s.lookup p.1=some p.2)->(∀t,memN D t=false->s.lookup t=σ.lookup t)->FrS N (τ++σ.filter λp=>!memN D p.1) a':=λs a' hs h1 h2=>
  ⟨hs.defers,hs.size,λt v hv=>by
   rcases Wq hv with hv|hv
   ·exact hs.get t v (h1 _ hv)
   ·obtain⟨g1,g2⟩:=WS (f:=λk=> !memN D k) hv
    exact hs.get t v ai⟩
 cases x with
 |skip=>
  simp only[pureC,CJ,Option.some.injEq]at h;exact wp_skip ⟨rfl,rfl,fin σ a hF (λp hp=>Br.1 h p hp) λ_ _=>rfl⟩
 | region id ops draw=>
  cases draw with
  |true=>simp_all[pureC]
  | false=>
   simp only[pureC]at h;cases hq:seqV P N ops.toList σ with
   |none=>simp_all
   |some s=>
    rw[hq]at h;simp only[CJ,Option.some.injEq]at h;refine OW ?_;unfold wpFrom;rw[BV,<-Bj ops.toList];refine PW hF hq λa' hF'=>wpList_nil ⟨rfl,rfl,fin s a' hF' (λp hp=>Br.1 h p hp) λt ht=>Pm hq λhm=>?_⟩;grind[List.all_eq_true,dstC]
 |_=>simp_all[pureC]
def Mp{x y:Code}{o:Operand}(b:Bool)(τ1 τ2 τ:List (Nat×Value))(D:List Nat)(c:Cx B N σ Γ Φ a w)(h:∀fr,Cx B N (τ++σ.filter λp=>!memN D p.1) Γ Φ fr w->K fr w)(hb:opd σ o=some (.bool b):=by kernel_rfl)
  (h1:(pureC P N σ x).map (λs=>τ1.map λp=>s.lookup p.1)=some (τ1.map λp=>some p.2):=by kernel_rfl)(h2:(pureC P N σ y).map (λs=>τ2.map λp=>s.lookup p.1)=some (τ2.map λp=>some p.2):=by kernel_rfl)
  (hx:((dstC x).all (memN D))=true:=by kernel_rfl)(hy:((dstC y).all (memN D))=true:=by kernel_rfl)(e1:b=true->τ1=τ:=by intro hb;first|rfl|(simp only[hb];done)|(simp only[hb];rfl)|(simp[hb];done))
  (e2:b=false->τ2=τ:=by intro hb;first|rfl|(simp only[hb];done)|(simp only[hb];rfl)|(simp[hb];done)):(Code.cond o x y).wp P (Exit.then K Q) a w:=
 Gv (τ++σ.filter λp=>!memN D p.1) c.fr hb (λhb=>by rw[<-e1 hb];exact NQ c.fr h1 hx) (λhb=>by rw[<-e2 hb];exact NQ c.fr h2 hy) λa' hF=>UJ (h a' (c.to hF))
def Ry{id:Nat}{ops:Array Oper}{draw:Bool}(hs:List (Nat×Nat))(hmix:P.follows .mixedOrders=true)(c:Cx B N σ Γ Φ a w)
  (h:∀fr w',Cx B N (outS ops σ (pdsM P (bxsOf Γ Φ) hs ops σ [] ops.size) ops.size) Γ Φ fr w'->K fr w')
  (hst:(stat draw (cond draw (masksN ops ops.size) []) ops [] N&&statG ops (pdsM P (bxsOf Γ Φ) hs ops σ [] ops.size) [])=true:=by kernel_rfl)
  (h1:(freeI [] ops.size).map (λj=>(pureB P (bxsOf Γ Φ) hs ops σ (pdsM P (bxsOf Γ Φ) hs ops σ [] ops.size) j).map (·.1))=(freeI [] ops.size).map λj=>((pdsM P (bxsOf Γ Φ) hs ops σ [] ops.size).getD j .any).val?:=by kernel_rfl)
  (h2:((freeI [] ops.size).all λj=>((pdsM P (bxsOf Γ Φ) hs ops σ [] ops.size).getD j .any).val?.isSome)=true:=by kernel_rfl)
  (h3:(freeI [] ops.size).map (λj=>(pureB P (bxsOf Γ Φ) hs ops σ (pdsM P (bxsOf Γ Φ) hs ops σ [] ops.size) j).map λr=>r.2.map (·.1))=(freeI [] ops.size).map λj=>(pureB P (bxsOf Γ Φ) hs ops σ (pdsM P (bxsOf Γ Φ) hs ops σ [] ops.size) j).map λr=>r.2.map (·.2):=by kernel_rfl):
  (Code.region id ops draw).wp P (Exit.then K Q) a w:=Rz [] hs hmix c trivial (λ_=>trivial) h hst h1 h2 h3
def Pd.el{α:Type}[Rep α](x:α):Pd:=.is λv w=>ElemP w (λ_=>True) v x
def elM{α:Type}[Rep α]{x:α}:(Pd.el x).Mono Non:=PR
def elO{α:Type}[Rep α]{x:α}:(Pd.el x).MonoO:=Pd.monoO_is PR
def atN{bx:Bxs}{hs:List (Nat×Nat)}{ops:Array Oper}{np:List (Nat×Pd)}{m:Nat}{p:Pd}(j:Nat)(hp:np.lookup j=some p:=by rfl)(hj:Nat.blt j m=true:=by rfl):(pdsM P bx hs ops σ np m).getD j .any=p:=VB (Bc.mp hj) hp
def atM{bx:Bxs}{hs:List (Nat×Nat)}{ops:Array Oper}{np:List (Nat×Pd)}{m:Nat}{p:Pd}{ow:Nat->Nat}(j:Nat)(hp:np.lookup j=some p:=by rfl)(hj:Nat.blt j m=true:=by rfl):(instL ow (pdsM P bx hs ops σ np m)).getD j .any=p.inst ow:=by
 rw[YA,VB (Bc.mp hj) hp]
def ndN:List Nat->Bool
 |[]=>true
 |x::l=>!(memN l x)&&ndN l
theorem Ti:∀{l:List Nat},ndN l=true->l.Nodup
 |[],_=>Zat
 |x::l,h=>by
  unfold ndN at h;rw[Co,BO,Ns]at h;exact Zah.2 ⟨λhm=>by simp_all,Ti h.2⟩
theorem Cx.newt{σ0:List (Nat×Value)}{a0:Act}{w0:World}{ow:Nat->Nat}(c0:Cx B N σ0 Γ Φ a0 w0)(hc:Chg Non w0 w)(c:Cx B N σ Γ Φ a w)(l:List (Nat×Nat×Value×HP))
  (h:AllP (λp=>a.eval (.tmp p.2.1)=p.2.2.1/\p.2.2.2.ok w (λk=>w0.heap.size<=k/\k<w.heap.size/\ow k=p.1)) l)(hnd:ndN (l.map (·.1))=true:=by rfl):Cx B N (l.map (λp=>(p.2.1,p.2.2.1))++σ) (Γ++l.map (·.2.2.2)) Φ a w:=by
 have hn:=Ti hnd;clear hnd;obtain⟨_,S,F,hM,hs,hf⟩:=c0
 have hN:=sepO (w0:=w0) (ow:=ow) (l.map λp=>(p.1,p.2.2.2)) ar (by
  induction l with
  |nil=>trivial
  |cons p l ih=>exact⟨h.1.2,ih h.2 ai⟩) rfl
 obtain⟨S',hp,hs'⟩:=hs.got hM (FE hc) hN;refine⟨⟨c.fr.defers,c.fr.size,λt v hv=>?_⟩,S',F,hM.stp hp,?_,hf.chg hp.chg λk hk hS=>hM.dj k hS hk⟩
 ·rcases Wq hv with hv|hv
  ·obtain⟨p,hp,he⟩:=Zap.1 hv;obtain⟨rfl,rfl⟩:=he;exact(h.mem hp).1
  ·exact c.fr.get t v hv
 simp_all[ZP,List.map_map,Function.comp_def]
end
section
variable{P:Program}{B:Bs}{N:Nat}{σ:List (Nat×Value)}{Γ:List HP}{Φ Φ1:List RF}{a:Act}{w:World}{Q:Exit->Act->World->Prop}
  {draw:Bool}{ms:List Nat}{ops:Array Oper}{pds:List Pd}{j d:Nat}{dst:Option Tmp}{g:Option (Nat×Bool)}{t ty yt:TypeId}{x y:Operand}{pos:String}{af:Array Edge}{ow:Nat->Nat}
theorem gcT{g':Nat}{b:Bool}(hg:gc ops pds ops.size j)(hgd:guardOf ops j=some (g',true):=by rfl)(hn:∃n,ops.size=n+1:=by exact⟨_,rfl⟩)(hp:(pds.getD g' .any).val? =some (.bool b):=by kernel_rfl):b=true:=by
 obtain⟨n,hn⟩:=hn;unfold gc at hg;cases hq:pds.getD g' .any with
 |eq v=>
  simp_all[Pd.val?,Option.some.injEq,Pd.boolIs]
 |_=>rw[hq]at hp;cases hp
theorem gcF{g':Nat}{b:Bool}(hg:gc ops pds ops.size j)(hgd:guardOf ops j=some (g',false):=by rfl)(hn:∃n,ops.size=n+1:=by exact⟨_,rfl⟩)(hp:(pds.getD g' .any).val? =some (.bool b):=by kernel_rfl):b=false:=by
 obtain⟨n,hn⟩:=hn;unfold gc at hg;cases hq:pds.getD g' .any with
 |eq v=>
  simp_all[Pd.val?,Option.some.injEq,Pd.boolIs]
 |_=>rw[hq]at hp;cases hp
def Nix{s:Str}{n r:Int}(c:Cx B N σ Γ Φ a w)(hz:gc ops pds ops.size j->sidx? s n=some r)(ho:ops[j]? =some ⟨dst,.index t x y,ty,pos,af,g⟩:=by rfl)(ht:P.underlying t=some .string:=by kernel_rfl)
  (hx:envP ops σ pds j x=some s.val:=by kernel_rfl)(hy:numOf (envP ops σ pds j y)=some n:=by kernel_rfl)(hG:Good ops pds [])(hpd:pds.getD j .any= .eq (.int .u8 r)):NPB P draw ms ops pds a w Q j:=by
 obtain⟨kd,hy⟩:=Yp hy;exact OY hG c.fr ht ho hx hy hz hpd
def Ncat{s1 s2 s3:Str}(c:Cx B N σ Γ Φ a w)(hz:gc ops pds ops.size j->cat? s1 s2=some s3)(ho:ops[j]? =some ⟨dst,.binOp .add t x y yt,ty,pos,af,g⟩:=by rfl)
  (hx:envP ops σ pds j x=some s1.val:=by kernel_rfl)(hy:envP ops σ pds j y=some s2.val:=by kernel_rfl)(hG:Good ops pds [])(hpd:pds.getD j .any= .eq s3.val):NPB P draw ms ops pds a w Q j:=ET hG c.fr ho hx hy hz hpd
def Nshl{m n r:Int}(c:Cx B N σ Γ Φ a w)(hz:gc ops pds ops.size j->shl? m n=some r)(ho:ops[j]? =some ⟨dst,.binOp .shl t x y yt,ty,pos,af,g⟩:=by rfl)
  (hx:envP ops σ pds j x=some (.int .i64 m):=by kernel_rfl)(hy:numOf (envP ops σ pds j y)=some n:=by kernel_rfl)(hG:Good ops pds [])(hpd:pds.getD j .any= .eq (.int .i64 r)):NPB P draw ms ops pds a w Q j:=by
 obtain⟨kd,hy⟩:=Yp hy;exact Di hG c.fr ho hx hy hz hpd
def Nshr{m n r:Int}(c:Cx B N σ Γ Φ a w)(hz:gc ops pds ops.size j->shr? m n=some r)(ho:ops[j]? =some ⟨dst,.binOp .shr t x y yt,ty,pos,af,g⟩:=by rfl)
  (hx:envP ops σ pds j x=some (.int .i64 m):=by kernel_rfl)(hy:numOf (envP ops σ pds j y)=some n:=by kernel_rfl)(hG:Good ops pds [])(hpd:pds.getD j .any= .eq (.int .i64 r)):NPB P draw ms ops pds a w Q j:=by
 obtain⟨kd,hy⟩:=Yp hy;exact EQ hG c.fr ho hx hy hz hpd
def Nid{α:Type}[Rep α]{e:TypeId}{v:Value}{l:List α}{n:Int}{q:α}(c:Cx B N σ Γ Φ a w)(hl:Ava Γ Φ w (RO v l))(hz:gc ops pds ops.size j->get? l n=some q)(ho:ops[j]? =some ⟨dst,.indexAddr t x y,ty,pos,af,g⟩:=by rfl)(ht:P.underlying t=some (.slice e):=by rfl)(he:Ty P e α:=by constructor<;>kernel_rfl)(hx:envP ops σ pds j x=some v:=by kernel_rfl)(hy:numOf (envP ops σ pds j y)=some n:=by kernel_rfl)(hG:Good ops pds [])(hpd:pds.getD j .any= .is λv w=>ElemP w (λ_=>True) v q):NPB P draw ms ops pds a w Q j:=by
 obtain⟨F,hl⟩:=c.use hl;obtain⟨kd,hy⟩:=Yp hy;exact He hG c.fr he ht ho hx (RV.any hl) hy hpd λhg=>⟨get?_nn (hz hg),get?_at (hz hg)⟩
def Nld{α:Type}[Flat α]{s:Nat}{q:α}{u:Value}(c:Cx B N σ Γ Φ a w)(i:Nat)(hpi:pds.getD i .any= .is λv w=>ElemP w (λ_=>True) v q)(ho:ops[j]? =some ⟨dst,.load t (.tmp s),ty,pos,af,g⟩:=by rfl)
  (hj:Nat.blt j ops.size=true:=by rfl)(hl:lastW ops s j=some i:=by rfl)(hok:okG ops ops.size j i=true:=by rfl)(hu:Rep.val α (Flat.enc q)=u:=by rfl)(ht:Ty P t α:=by constructor<;>kernel_rfl)(hG:Good ops pds [])(hpd:pds.getD j .any= .eq u):NPB P draw ms ops pds a w Q j:=
 JR hG c.fr ht ho hj hl hok hpi hpd hu
def Ncl{args:List Value}{f:FuncId}{xs:Array Operand}{ts:Array TypeId}{vs:List Value}{u:Value}(c:Cx B N σ Γ Φ a w)(hcon:gc ops pds ops.size j->Con P f args [] Φ1 λ(_:Unit)=>(vs,[],[]))(ro:AvaL Γ Φ w Φ1)
  (hf:∀(args:Array Value)(w:World),(callFunc f args).run P w= .ok (.enter f args) w)(hv:Go.GL.tup vs=u:=by rfl)(ho:ops[j]? =some ⟨dst,.call ⟨.value (.func f),xs,ts⟩,ty,pos,af,g⟩:=by rfl)
  (hargs:xs.toList.map (envP ops σ pds j)=args.map some:=by kernel_rfl)(hG:Good ops pds [])(hpd:pds.getD j .any= .eq u):NPB P draw ms ops pds a w Q j:=
 El args hG c.fr hf ho hargs λw' hC hg=>by
  have hro:AllF Φ1 w (λk=>k<w.heap.size):=by
   obtain⟨_,S0,F0,hM0,hs0,hF0⟩:=c;exact(AvaL.all ro hs0 hF0).sub λk hk _=>hk
  refine(hcon hg w' Non (λk=>k<w.heap.size) (Sep.nil _ _) (hro.chg hC λ_ _ h=>h.elim) (λ_ h=>h.elim) (λk hk=>CE hk hC.size) (λ_ h=>h.elim)).mono ?_;rintro e w'' ⟨i,S',F',rfl,hM',_,_⟩;exact⟨_,rfl,hM'.chg,by rw[hpd];exact hv⟩
theorem Ncn{κ:Type}{R:κ->Res}{V:κ->Value}{H:κ->HP}{args:List Value}{f:FuncId}{xs:Array Operand}{ts:Array TypeId}(c:Cx B N σ Γ Φ a w)(hcon:gc ops pds ops.size j->Con P f args [] Φ1 R)(ro:AvaL Γ Φ w Φ1)
  (hf:∀(args:Array Value)(w:World),(callFunc f args).run P w= .ok (.enter f args) w)(hV:∀i,Go.GL.tup (R i).1=V i:=by exact λ_=>rfl)(hH:∀i,HP.sep (R i).2.1=H i:=by exact λ_=>rfl)
  (ho:ops[j]? =some ⟨dst,.call ⟨.value (.func f),xs,ts⟩,ty,pos,af,g⟩:=by rfl)(hj:Nat.blt j ops.size=true:=by rfl)(hargs:xs.toList.map (argSpec ops σ pds j)=(args.map Sum.inl).map some:=by kernel_rfl)(hG:Good ops pds [])(hpd:pds.getD j .any= .is λv w'=>∃i,v=V i/\(H i).ok w' (λk=>w.heap.size<=k/\k<w'.heap.size/\ow k=j)):NPO P ms ops pds a w Q ow j:=
 GY (args.map .inl) hG c.fr hf ho hj hargs hpd λw' vs hC hg hsp=>by
  have hvs:vs=args:=by
   have key:∀(l vs:List Value),SpecP pds w' (l.map .inl) vs->vs=l:=by
    intro l
    induction l with
    |nil=>intro vs h;exact h
    |cons u l ih=>
     intro vs h;obtain⟨rest,rfl,h⟩:=h;grind
   grind
  subst hvs;have hro:AllF Φ1 w (λk=>k<w.heap.size):=by
   obtain⟨_,S0,F0,hM0,hs0,hF0⟩:=c;exact(AvaL.all ro hs0 hF0).sub λk hk _=>hk
  refine(hcon hg w' Non (λk=>k<w.heap.size) (Sep.nil _ _) (hro.chg hC λ_ _ h=>h.elim) (λ_ h=>h.elim) (λk hk=>CE hk hC.size) (λ_ h=>h.elim)).mono ?_;rintro e w'' ⟨i,S',F',rfl,hM',hs',_⟩;exact⟨_,rfl,hM'.chg,i,hV i,by rw[<-hH];exact hs'.mono λk _ hk=>(hM'.sub k hk).elim (λh=>h.elim) id⟩
end
class RawOf(ρ α:Type)[Flat ρ][Rep α]:Prop where
 sz:Rep.sz ρ=Rep.sz α
 agg:Rep.agg ρ=Rep.agg α
 ex:∀{w:World}{F:Nat->Prop}{cs:List Value}{x:α},Rep.ok w F cs x->∃q:ρ,cs=Flat.enc q
def FacL(w:World)(F:Nat->Prop):List RF->Prop
 |[]=>True
 |R::l=>R.ok w F/\FacL w F l
theorem AllF.of{w:World}{F:Nat->Prop}:∀(Ψ:List RF),FacL w F Ψ->AllF Ψ w F
 |[],_=>AllF.nil
 |R::l,h=>λR' hR=>by
  rcases CW.1 hR with rfl|hR
  ·exact h.1
  ·exact AllF.of l h.2 R' hR
deriving instance Inhabited for Hd
section
variable{B:Bs}{N:Nat}{σ:List (Nat×Value)}{Γ:List HP}{Φ:List RF}{a:Act}{w:World}
def JC{q:D.Value}{w:World}{F:Nat->Prop}{cs:List Value}(h:Rep.ok w F cs q):cs[0]? =some ((Str.val q.Name)):=by rw[Flat.iff.1 h];rfl
def Ava.mk_Term(x:D.Term){v4:Value}(h4:Ava Γ Φ w (RO v4 x.Kids)):Ava Γ Φ w (RO (.agg #[.int .i64 x.Op,.int .i64 x.W,.int .i64 x.N,(Str.val x.Name),v4]) x):=λS F hs hf=>RV.mk_Term x (h4 S F hs hf)
def Cx.o_Term{v:Value}{x:D.Term}(i:Nat)(c:Cx B N σ Γ Φ a w)(hi:Φ[i]? =some (RO v x):=by rfl):∃(a4:Option Addr)(c4:Nat),v= .agg #[.int .i64 x.Op,.int .i64 x.W,.int .i64 x.N,(Str.val x.Name),.slice a4 x.Kids.length c4]/\Cx B N σ Γ (Φ++[RO (.slice a4 x.Kids.length c4) x.Kids]) a w:=by
 obtain⟨hF,S,F,hM,hs,hf⟩:=c;obtain⟨v4,rfl,h4⟩:=RV.Term (hf.get hi);obtain⟨a4,c4,rfl,_⟩:=RV.slice h4;exact⟨a4,c4,rfl,hF,S,F,hM,hs,hf.join (AllF.of [_] ⟨h4,trivial⟩)⟩
def Hq{q:D.Term}{w:World}{F:Nat->Prop}{cs:List Value}(h:Rep.ok w F cs q):cs[1]? =some (.int .i64 q.W):=by
 obtain⟨y0,y1,y2,y3,y4⟩:=q;have h:okTerm w F cs ⟨y0,y1,y2,y3,y4⟩:=h;grind[okTerm]
structure Rw.Term where
 Op:Int
 W:Int
 N:Int
 Name:Str
 Kids:Hd
deriving Inhabited
instance:Rep Rw.Term where
 sz:=5
 agg:=true
 ok:=λ_ _ cs x=>cs=[.int .i64 x.Op,.int .i64 x.W,.int .i64 x.N,(Str.val x.Name),x.Kids.v]
 len:=by simp
 one:=by rintro w F cs x rfl u hu;simp at hu;rcases hu with rfl|rfl|rfl|rfl|rfl<;>rfl
 pos:=by decide
 sgl:=λh=>by cases h
 keep:=λh _=>h
instance:Flat Rw.Term where
 enc:=λx=>[.int .i64 x.Op,.int .i64 x.W,.int .i64 x.N,(Str.val x.Name),x.Kids.v]
 iff:=Iff.rfl
def FH(w:World)(F:Nat->Prop):Rep.ok w F (Flat.enc (⟨0,0,0,⟨[]⟩,⟨none,0,0⟩⟩:Rw.Term)) (⟨0,0,0,⟨[]⟩,[]⟩:D.Term):=by
 exact⟨none,0,rfl,CK _,BP _,λh=>absurd rfl h⟩
instance:RawOf Rw.Term D.Term where
 sz:=rfl
 agg:=rfl
 ex:=by
  rintro w F cs ⟨y0,y1,y2,y3,kids⟩ h;obtain⟨a,cp,rfl,_⟩:=h;exact⟨⟨y0,y1,y2,y3,⟨a,kids.length,cp⟩⟩,rfl⟩
def Ava.mk_Path(x:D.Path){v1 v2 v3 v5 v8 v9:Value}(h1:Ava Γ Φ w (RO v1 x.Regs))(h2:Ava Γ Φ w (RO v2 x.Mem))(h3:Ava Γ Φ w (RO v3 x.Stack))(h5:Ava Γ Φ w (RO v5 x.Out))(h8:Ava Γ Φ w (RO v8 x.Cond))(h9:Ava Γ Φ w (RO v9 x.Turns)):Ava Γ Φ w (RO (.agg #[.int .i64 x.Pc,v1,v2,v3,.int .i64 x.In,v5,.int .i64 x.Code,.int .i64 x.Steps,v8,v9]) x):=λS F hs hf=>RV.mk_Path x (h1 S F hs hf) (h2 S F hs hf) (h3 S F hs hf) (h5 S F hs hf) (h8 S F hs hf) (h9 S F hs hf)
def Cx.o_Path{v:Value}{x:D.Path}(i:Nat)(c:Cx B N σ Γ Φ a w)(hi:Φ[i]? =some (RO v x):=by rfl):∃(a1:Option Addr)(c1:Nat)(a2:Option Addr)(c2:Nat)(a3:Option Addr)(c3:Nat)(a5:Option Addr)(c5:Nat)(a8:Option Addr)(c8:Nat)(a9:Option Addr)(c9:Nat),v= .agg #[.int .i64 x.Pc,.slice a1 x.Regs.length c1,.slice a2 x.Mem.length c2,.slice a3 x.Stack.length c3,.int .i64 x.In,.slice a5 x.Out.length c5,.int .i64 x.Code,.int .i64 x.Steps,.slice a8 x.Cond.length c8,.slice a9 x.Turns.length c9]/\Cx B N σ Γ (Φ++[RO (.slice a1 x.Regs.length c1) x.Regs,RO (.slice a2 x.Mem.length c2) x.Mem,RO (.slice a3 x.Stack.length c3) x.Stack,RO (.slice a5 x.Out.length c5) x.Out,RO (.slice a8 x.Cond.length c8) x.Cond,RO (.slice a9 x.Turns.length c9) x.Turns]) a w:=by
 obtain⟨hF,S,F,hM,hs,hf⟩:=c;obtain⟨v1,v2,v3,v5,v8,v9,rfl,h1,h2,h3,h5,h8,h9⟩:=RV.Path (hf.get hi);obtain⟨a1,c1,rfl,_⟩:=RV.slice h1;obtain⟨a2,c2,rfl,_⟩:=RV.slice h2;obtain⟨a3,c3,rfl,_⟩:=RV.slice h3;obtain⟨a5,c5,rfl,_⟩:=RV.slice h5;obtain⟨a8,c8,rfl,_⟩:=RV.slice h8;obtain⟨a9,c9,rfl,_⟩:=RV.slice h9;exact⟨a1,c1,a2,c2,a3,c3,a5,c5,a8,c8,a9,c9,rfl,hF,S,F,hM,hs,hf.join (AllF.of [_,_,_,_,_,_] ⟨h1,h2,h3,h5,h8,h9,trivial⟩)⟩
structure Rw.Path where
 Pc:Int
 Regs:Hd
 Mem:Hd
 Stack:Hd
 In:Int
 Out:Hd
 Code:Int
 Steps:Int
 Cond:Hd
 Turns:Hd
deriving Inhabited
instance:Rep Rw.Path where
 sz:=10
 agg:=true
 ok:=λ_ _ cs x=>cs=[.int .i64 x.Pc,x.Regs.v,x.Mem.v,x.Stack.v,.int .i64 x.In,x.Out.v,.int .i64 x.Code,.int .i64 x.Steps,x.Cond.v,x.Turns.v]
 len:=by simp
 one:=by rintro w F cs x rfl u hu;simp at hu;rcases hu with rfl|rfl|rfl|rfl|rfl|rfl|rfl|rfl|rfl|rfl<;>rfl
 pos:=by decide
 sgl:=λh=>by cases h
 keep:=λh _=>h
instance:Flat Rw.Path where
 enc:=λx=>[.int .i64 x.Pc,x.Regs.v,x.Mem.v,x.Stack.v,.int .i64 x.In,x.Out.v,.int .i64 x.Code,.int .i64 x.Steps,x.Cond.v,x.Turns.v]
 iff:=Iff.rfl
instance:RawOf Rw.Path D.Path where
 sz:=rfl
 agg:=rfl
 ex:=by
  rintro w F cs x ⟨v1,v2,v3,v5,v8,v9,rfl,h1,h2,h3,h5,h8,h9⟩;obtain⟨a1,c1,e1,_⟩:=h1;simp only[List.cons.injEq,AZ]at e1;subst e1;obtain⟨a2,c2,e2,_⟩:=h2;simp only[List.cons.injEq,AZ]at e2;subst e2;obtain⟨a3,c3,e3,_⟩:=h3;simp only[List.cons.injEq,AZ]at e3;subst e3;obtain⟨a5,c5,e5,_⟩:=h5;simp only[List.cons.injEq,AZ]at e5;subst e5;obtain⟨a8,c8,e8,_⟩:=h8;simp only[List.cons.injEq,AZ]at e8;subst e8;obtain⟨a9,c9,e9,_⟩:=h9;simp only[List.cons.injEq,AZ]at e9;subst e9;exact⟨⟨x.Pc,⟨a1,x.Regs.length,c1⟩,⟨a2,x.Mem.length,c2⟩,⟨a3,x.Stack.length,c3⟩,x.In,⟨a5,x.Out.length,c5⟩,x.Code,x.Steps,⟨a8,x.Cond.length,c8⟩,⟨a9,x.Turns.length,c9⟩⟩,rfl⟩
end
end Go.GL
end
