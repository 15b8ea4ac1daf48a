/- Texts of this claim put into one: library or plain laws, without the program under test. -/
import Derived.Test.YtccamimfkohabaaGreatDoorLib1
import Derived.ArgAppend
import Derived.Laws.BytesString
import Derived.Lib.LaidTab
import Derived.Shelf.Strconv.Itoa3
import Derived.Lib.AppendStr
import Derived.Lib.Builder
import Derived.Lib.Split
import Derived.Lib.SplitLaws
import Derived.Lib.SmallJoins
import Derived.KernelRfl
set_option linter.unusedSimpArgs false
set_option linter.unusedVariables false
set_option linter.defProp false
section
namespace Go.GL
open Go.RowKit
section
variable{P:Program}{ms:List Nat}{ops:Array Oper}{T:(Nat->Nat)->Nat->Value->World->Prop}{S:Nat->Prop}{a0:Act}{w0:World}{Q:Exit->Act->World->Prop}
def JO(ms:List Nat)(ops:Array Oper)(T:(Nat->Nat)->Nat->Value->World->Prop)(S:Nat->Prop)(a0:Act)(w0:World)(L:Array Bool)(a:Act)(w:World):Prop:=
 ∃ow,J true ms ops [] (T ow) (λ_ _=>True) S a0 w0 L a w
def JO.size{L:Array Bool}{a:Act}{w:World}(h:JO ms ops T S a0 w0 L a w):L.size=ops.size:=h.elim λ_ h=>h.size
def PhO(ow:Nat->Nat)(j:Nat):Nat->World->Prop:=λ_ w=>∀k,w.heap.size<=k->ow k=j
def JO.step_wp{N:Nat}(hst:stat true ms ops [] N=true)(hN:a0.tmps.size=N)(hT:∀ow i v w w',T ow i v w->Chg S w w'->T ow i v w')(hO:∀ow ow' i v w,(∀k,k<w.heap.size->ow k=ow' k)->T ow i v w->T ow' i v w){L:Array Bool}{a:Act}{w:World}
  (hJ:JO ms ops T S a0 w0 L a w){j:Nat}(hj:j<ops.size)(hl:L.getD j false=false)(hb:∀i,bef true ms j i=true->L.getD i false=true)
  (ht:∀ow,Tri P true ms ops [] (T ow) (PhO ow j) S a0 w0 Q j):∃o,ops[j]? =some o/\if Region.wanted o (yielded ops a.tmps)then o.wp P a w (JO ms ops T S a0 w0 (L.setIfInBounds j true)) Q else JO ms ops T S a0 w0 (L.setIfInBounds j true) (a.put o.dst undef) w:=by
 obtain⟨ow,hJ⟩:=hJ
 let ow':Nat->Nat:=λk=>if k<w.heap.size then ow k else j
 have hJ':J true ms ops [] (T ow') (PhO ow' j) S a0 w0 L a w:=⟨hJ.size,hJ.closed,hJ.defers,hJ.tsize,hJ.chg,λk hk=>by grind,λt=>by
  have:=hJ.cur t
  grind⟩
 obtain⟨o,ho,h⟩:=hJ'.step_wp hst hN (hT ow') hj hl hb (ht ow');have hconv:∀a w,J true ms ops [] (T ow') (PhO ow' j) S a0 w0 (L.setIfInBounds j true) a w->JO ms ops T S a0 w0 (L.setIfInBounds j true) a w:=λa w h=>⟨ow',h.size,h.closed,h.defers,h.tsize,h.chg,trivial,h.cur⟩;refine⟨o,ho,?_⟩;split
 ·grind[Oper.wp_mono]
 simp_all
def JO.step{N:Nat}(hst:stat true ms ops [] N=true)(hN:a0.tmps.size=N)(hT:∀ow i v w w',T ow i v w->Chg S w w'->T ow i v w')(hO:∀ow ow' i v w,(∀k,k<w.heap.size->ow k=ow' k)->T ow i v w->T ow' i v w){L:Array Bool}{a:Act}{w:World}
  (hJ:JO ms ops T S a0 w0 L a w){j:Nat}(hj:j<ops.size)(hl:L.getD j false=false)(hb:∀i,bef true ms j i=true->L.getD i false=true)
  (ht:∀ow,Tri P true ms ops [] (T ow) (PhO ow j) S a0 w0 Q j):wpOp P ops Q j (JO ms ops T S a0 w0 (L.setIfInBounds j true)) a w:=by
 obtain⟨o,ho,h⟩:=hJ.step_wp hst hN hT hO hj hl hb ht;simp_all[wpOp,Zei,Zem]<;>grind
end
section
variable{P:Program}{ms:List Nat}{ops:Array Oper}{T:(Nat->Nat)->Nat->Value->World->Prop}{S:Nat->Prop}{a0:Act}{w0:World}{Q:Exit->Act->World->Prop}{m:Nat}
def ZaH{L:Array Bool}{n m:Nat}(hs:L.size=n)(hm:m<=n)(hL:∀i,L.getD i false=true↔i<m):L.toList.countP (λb=>!b)=n-m:=by
 have e:L.toList=List.replicate m true++List.replicate (n-m) false:=by
  apply ZeU;simp_all[ZfB,ZeT,Zg3,Zeh,Zff,ZeF,ZfH,Zei,Zem,absurd,Zfn]<;>grind
 simp_all[List.countP_append,List.countP_replicate]
def EndM(ops:Array Oper)(T:Nat->Value->World->Prop)(a0:Act)(m:Nat)(a:Act)(w:World):Prop:=
 a.defers=a0.defers/\a.tmps.size=a0.tmps.size/\∀t,Know ops T a0 m t (a.eval (.tmp t)) w
theorem Zay{N:Nat}(hst:stat true ms ops [] N=true)(hsuf:sufB ops m=true)(hN:a0.tmps.size=N)(hT:∀ow i v w w',T ow i v w->Chg S w w'->T ow i v w')(hO:∀ow ow' i v w,(∀k,k<w.heap.size->ow k=ow' k)->T ow i v w->T ow' i v w)
  (ht:∀ow j,j<m->Tri P true ms ops [] (T ow) (PhO ow j) S a0 w0 Q j)(post:∀ow a w,EndM ops (T ow) a0 m a w->Chg S w0 w->wpList P ops Q (ops.toList.drop m) a w):
  ∀fuel(L:Array Bool)(a:Act)(w:World),Closed ops L->(∀i,L.getD i false=true->i<m)->(L.toList.countP (λb=>!b)<=fuel)->JO ms ops T S a0 w0 L a w->wpAny P .any ops Q fuel L a w:=by
 have hst0:=hst;have hsuf0:=hsuf;unfold sufB at hsuf;simp only[Zev,Ze7,Zek,ZeX,Zeq]at hsuf;obtain⟨hmn,hsuf⟩:=hsuf;unfold stat at hst;simp only[Zek,Zev,Zeq,Zep,ZeN,Zft,Ze7]at hst;obtain⟨⟨⟨⟨⟨hms,hearly⟩,_⟩,heffs⟩,_⟩,_⟩:=hst;have hearly':∀j o,ops[j]? =some o->∀e∈o.after.toList,Region.binds .any e=true->e.on<j:=λj o ho e he hb=>by
  simp_all[Zey,Zeh]<;>grind
 have hready:∀(L:Array Bool)(i:Nat),L.size=ops.size->i∈Region.ready .any ops L->i<ops.size/\L.getD i false=false/\
   ∀o,ops[i]? =some o->∀e∈o.after.toList,Region.binds .any e=true->L.getD e.on false=true:=by
  intro L i hs hi;unfold Region.ready at hi;rw[Ze6,Ze7]at hi;obtain⟨h1,h2⟩:=hi;simp only[Zek,Zfp]at h2;obtain⟨h2,h3⟩:=h2;refine⟨h1,?_,λo ho e he hb=>?_⟩
  ·have hs':i<L.size:=by omega
   simpa[Zeh,hs']using h2
  ·rw[ho]at h3;simp only[Ze0,ZeF,ZeP]at h3;have:=h3 e aS;simpa[hb]using this
 have hswitch:∀fuel(L:Array Bool)(a:Act)(w:World),(∀i,L.getD i false=true->i<m)->(∀i,i<m->L.getD i false=true)->(L.toList.countP (λb=>!b)<=fuel)->JO ms ops T S a0 w0 L a w->wpAny P .any ops Q fuel L a w:=by
  intro fuel L a w h1 h2 h3 hJ;have hL:∀i,L.getD i false=true↔i<m:=λi=>⟨h1 i,h2 i⟩;have hc:=ZaH hJ.size hmn hL
  refine AZ hsuf0 fuel m L a w (Nat.le_succ _) hJ.size hL hmn O (by
   obtain⟨ow,hJ⟩:=hJ;refine post ow a w ⟨hJ.defers,hJ.tsize,λt=>?_⟩ hJ.chg;have:=hJ.cur t;rw[Pf L t m ops.size hmn λi _ _=>hL i]at this
   exact this)
 intro fuel
 induction fuel with
 |zero=>
  intro L a w _ hsub hcount hJ;refine hswitch 0 L a w hsub (λi hi=>?_) hcount hJ;have h3:L.toList.countP (λb=>!b)=0:=by omega
  rw[Zgh]at h3;have hs':i<L.size:=by rw[hJ.size];omega
  have hm:L[i]∈L.toList:=by simp
  have h4:=h3 _ hm;simpa[Zeh,hs']using h4
 | succ fuel ih=>
  intro L a w hcl hsub hcount hJ;by_cases hall:∀i,i<m->L.getD i false=true
  ·exact hswitch _ L a w hsub hall hcount hJ
  ·obtain ⟨x,hx⟩:=Classical.not_forall.1 hall
   have hxm:x<m:=by
    by_cases h:x<m
    ·exact h
    ·exact absurd (λh'=>absurd h' h) hx
   have hxl:L.getD x false=false:=by
    cases h:L.getD x false with
    |false=>rfl
    |true=>exact absurd (λ_=>h) hx
   have hlow:∀i∈Region.ready .any ops L,i<m:=by
    intro i hi;obtain⟨h1,h2,h3⟩:=hready L i hJ.size hi;rcases ZfU i m with h|h
    ·exact h
    ·exfalso;have hm:=((hsuf i h1).2.resolve_left O) x O;rw[UF ops ops.size i h1]at hm;have ho:ops[i]? =some (ops.getD i default):=by simp[Zeh,h1]
     have:=Rv L hcl x i h1 hm (h3 _ ho);rw[hxl]at this;cases this
   refine⟨λhr=>?_,λi hi=>?_⟩
   ·
    exfalso
    have hleast:∀n,(∀i,i<n->i<m->L.getD i false=true)\/∃i,i<m/\L.getD i false=false/\∀j,j<i->L.getD j false=true:=by
     intro n
     induction n with
     |zero=>exact .inl λi hi=>absurd hi (Nat.not_lt_zero _)
     | succ n ihn=>
      rcases ihn with h|h
      ·by_cases hn:n<m
       ·cases hl:L.getD n false with
        | true=>
         refine .inl λi hi him=>?_;rcases ZfU i n with h'|h'
         ·exact h i h' him
         ·obtain rfl:i=n:=by omega
          exact hl
        |false=>exact .inr ⟨n,hn,hl,λj hj=>h j hj O⟩
       ·exact .inl λi hi him=>h i O him
      ·exact .inr h
    rcases hleast m with h|⟨i,him,hil,hij⟩
    ·exact absurd (h x hxm hxm) (by simp[hxl])
    ·have hi:i<ops.size:=by omega
     have hmem:i∈Region.ready .any ops L:=by
      unfold Region.ready;rw[Ze6];refine⟨Ze7.2 hi,?_⟩;have ho:ops[i]? =some ops[i]:=by simp[hi]
      have h2:((ops[i]).after.all λe=>!Region.binds .any e||L.getD e.on false)=true:=by
       rw[ZeP];intro e he;cases hb:Region.binds .any e with
       |false=>rfl
       |true=>simp[hij _ (hearly' i _ ho e aS hb)]
      rw[ho];simp only[Ze0,ZeF,h2,ZfL,Zfp];have hs':i<L.size:=by rw[hJ.size];exact hi
      simpa[Zeh,hs']using hil
     rw[hr]at hmem;cases hmem
   ·obtain⟨h1,h2,h3⟩:=hready L i hJ.size hi;have him:=hlow i hi;have hiL:i<L.size:=by rw[hJ.size];exact h1
    have ho:ops[i]? =some (ops.getD i default):=by simp[Zeh,h1]
    have hbef:∀h,bef true ms i h=true->L.getD h false=true:=λh hb=>by
     unfold bef at hb;simp only[Ze2]at hb;rw[hms,UF ops ops.size i h1]at hb;exact Rv L hcl h i h1 hb (h3 _ ho)
    refine wpOp_mono (λa' w' hJ'=>ih _ a' w' ?_ ?_ ?_ hJ') (hJ.step hst0 hN hT hO h1 h2 hbef λow=>ht ow i him)
    ·intro j o hj hoj e he hb;have hmono:∀x,L.getD x false=true->(L.setIfInBounds i true).getD x false=true:=λx hx=>by
      by_cases e:x=i
      ·subst e;rw[h2]at hx;cases hx
      ·simpa[Zeh,Ne.symm e]using hx
     by_cases ej:j=i
     ·subst ej;exact hmono _ (h3 o hoj e he hb)
     ·refine hmono _ (hcl j o ?_ hoj e he hb);simpa[Zeh,Ne.symm ej]using hj
    ·intro j hj;by_cases ej:j=i
     ·omega
     ·exact hsub j (by simpa[Zeh,Ne.symm ej]using hj)
    ·have hlt:(L.setIfInBounds i true).toList.countP (λb=>!b)+1=L.toList.countP (λb=>!b):=by
      rw[ZfN];have hl:i<L.toList.length:=by simpa using hiL
      have h5:L.toList[i]=false:=by
       simp[Zeh,hiL]at h2;simpa using h2
      rw[List.countP_set hl,h5];have hpos:0<L.toList.countP (λb=>!b):=by
       rw[List.countP_pos_iff];exact⟨L.toList[i],ZeI hl,by rw[h5];rfl⟩
      simp only[Zgv,Ze2,Zep,Zeg,Zen];omega
     omega
end
section
variable{P:Program}{ms:List Nat}{ops:Array Oper}{a0:Act}{w0:World}{Q:Exit->Act->World->Prop}{pds:List Pd}{σ:List (Nat×Value)}{N m:Nat}
def outVm(ops:Array Oper)(σ:List (Nat×Value))(pds:List Pd)(m t:Nat):Option Value:=
 match lastW ops t m with
 |some i=>if(guardOf ops i).isNone then valAt pds i else none
 |none=>σ.lookup t
def npIdxM(m:Nat)(isP:List Bool):List Nat:=(List.range m).filter λj=>!(isP.getD j false)
def pIdxM(m:Nat)(isP:List Bool):List Nat:=(List.range m).filter λj=>isP.getD j false
def Pd.inst(ow:Nat->Nat):Pd->Pd
 |.own p=>.is (p ow)
 |p=>p
def instL(ow:Nat->Nat)(pds:List Pd):List Pd:=pds.map (Pd.inst ow)
theorem XB(ow:Nat->Nat)(pds:List Pd)(j:Nat):(instL ow pds).getD j .any=(pds.getD j .any).inst ow:=by
 unfold instL;rw[Zer,Zer,ZeL];cases pds[j]? <;>rfl
theorem KN(ow:Nat->Nat)(p:Pd):(p.inst ow).val? =p.val?:=by cases p<;>rfl
def ED(ow:Nat->Nat)(p:Pd)(b:Bool):(p.inst ow).boolIs b=p.boolIs b:=by cases p<;>rfl
theorem FM(ow:Nat->Nat)(p:Pd):(p.inst ow).isBool=p.isBool:=by cases p<;>rfl
def OL(ow:Nat->Nat)(pds:List Pd)(j:Nat):valAt (instL ow pds) j=valAt pds j:=by
 grind[valAt,XB,KN]
theorem IR(ow:Nat->Nat)(pds:List Pd)(j:Nat):envP ops σ (instL ow pds) j=envP ops σ pds j:=by
 funext x;cases x with
 |tmp t=>simp[KT,OL]
 |_=>rfl
theorem BV(ow:Nat->Nat)(pds:List Pd)(j:Nat)(g:Option Nat)(b:Bool):envG ops σ (instL ow pds) j g b=envG ops σ pds j g b:=by
 funext x;cases x with
 |tmp t=>simp[GY,OL]
 |_=>rfl
def DX(ow:Nat->Nat)(pds:List Pd)(j:Nat):pureV P ops σ (instL ow pds) j=pureV P ops σ pds j:=by
 simp[pureV,IR,BV]
def DY(ow:Nat->Nat)(pds:List Pd)(eff:List Nat):statG ops (instL ow pds) eff=statG ops pds eff:=by
 grind[statG,XB,FM,instL]
theorem LQ(ow:Nat->Nat)(pds:List Pd):∀n j,gc ops (instL ow pds) n j=gc ops pds n j
 |0,_=>rfl
 |n+1,j=>by
  unfold gc;simp only[XB,ED,LQ ow pds n]
def Pd.MonoO(p:Pd):Prop:=(∀ow,(p.inst ow).Mono Non)/\∀ow ow' v(w:World),(∀k,k<w.heap.size->ow k=ow' k)->(p.inst ow).sat v w->(p.inst ow').sat v w
def Pd.monoO_eq{v:Value}:(Pd.eq v).MonoO:=⟨λ_=>Pd.mono_eq,λ_ _ _ _ _ h=>h⟩
def Pd.monoO_is{p:Value->World->Prop}(h:(Pd.is p).Mono Non):(Pd.is p).MonoO:=⟨λ_=>h,λ_ _ _ _ _ h=>h⟩
def NPO(P:Program)(ms:List Nat)(ops:Array Oper)(pds:List Pd)(a0:Act)(w0:World)(Q:Exit->Act->World->Prop)(ow:Nat->Nat)(j:Nat):Prop:=NP P true ms ops [] pds (PhO ow j) Non a0 w0 Q j
def Zdu{j:Nat}(ow:Nat->Nat)(h:NPB P true ms ops pds a0 w0 Q j):NPO P ms ops pds a0 w0 Q ow j:=by
 intro o ho a w k h1 h2 hP hc hg hk K hK;exact h o ho a w k h1 h2 trivial hc hg hk K λv w' hs hc' _=>hK v w' hs hc' λx hx=>hP x (Zfh hc'.size hx)
theorem ZdZ(m:Nat)(ms:List Nat)(isP:List Bool)(pds:List Pd)(σ':List (Nat×Value))(hF:FrS N σ a0)(hst:(stat true ms ops [] N&&statG ops pds []&&sufB ops m)=true)
  (hp:(pIdxM m isP).map (pureV P ops σ pds)=(pIdxM m isP).map λj=>(pds.getD j .any).val?)
  (hps:((pIdxM m isP).all λj=>(pds.getD j .any).val?.isSome)=true)
  (hrest:((List.range ops.size).all λj=>decide (j<m)||match pds.getD j .any with|.any=>true|_=>false)=true)
  (hmono:AllL (λj=>(pds.getD j .any).MonoO) (npIdxM m isP))
  (hnp:∀ow,Good ops (instL ow pds) []->AllL (NPO P ms ops (instL ow pds) a0 w0 Q ow) (npIdxM m isP))
  (hout:σ'.map (λp=>outVm ops σ pds m p.1)=σ'.map λp=>some p.2)
  (post:∀ow a w,FrS N σ' a->EndM ops (TT ops (instL ow pds)) a0 m a w->Chg Non w0 w->wpFrom P ops Q m a w):RA P ops Q a0 w0:=by
 rw[Zek,Zek]at hst;obtain⟨⟨hst,hsg⟩,hsuf⟩:=hst;have hGo:∀ow,Good ops (instL ow pds) []:=λow=>Gl (by simp_all[DY]);have hmn:m<=ops.size:=by
  simp_all[sufB,Zek]
 have hlen:pds.length=ops.size:=by
  simp_all[statG,Zek]
 have hmonoAll:∀j,(pds.getD j .any).MonoO:=by
  intro j;by_cases hj:j<m
  ·cases hb:isP.getD j false with
   |false=>exact hmono.mem (Ze6.2 ⟨Ze7.2 hj,by simp_all⟩)
   |true=>
    rw[Zev]at hps;have:=hps j (Ze6.2 ⟨Ze7.2 hj,hb⟩);obtain⟨v,hv⟩:=Zf0.1 this;cases hpj:pds.getD j .any with
    |eq u=>simp[Pd.monoO_eq]
    |is p=>rw[hpj]at hv;cases hv
    |own p=>rw[hpj]at hv;cases hv
    |any=>exact⟨λ_=>Pd.mono_any,λ_ _ _ _ _ h=>h⟩
  ·have:pds.getD j .any= .any:=by
    grind
   rw[this];exact⟨λ_=>Pd.mono_any,λ_ _ _ _ _ h=>h⟩
 have hdst:∀d,(∃i,wr ops d i=true)->d<N:=by
  intro d ⟨i,hi⟩;have hst':=hst;unfold stat at hst';simp only[Zek,Zev,Ze7]at hst';have hil:=Cy hi;have:=hst'.2 i hil;have ho:ops[i]? =some ops[i]:=by simp[hil]
  rw[Zeh,ho]at this;unfold wr at hi;rw[ho]at hi;simp only[Zee,Zft]at hi;simpa[hi]using this
 unfold RA
 refine Zay (T:=λow=>TT ops (instL ow pds)) (S:=Non) hst hsuf hF.size (λow i v w w' ht hc=>⟨λhg=>by rw[XB];exact(hmonoAll i).1 ow v w w' (by have:=ht.1 hg;rw[XB]at this;exact this) hc,ht.2⟩) (λow ow' i v w hag ht=>⟨λhg=>by
  rw[LQ]at hg;have:=ht.1 (by rw[LQ];exact hg);rw[XB]at this⊢
  exact(hmonoAll i).2 ow ow' v w hag this,λhg=>ht.2 (by rw[LQ]at hg⊢;exact hg)⟩) (λow j hj=>?_) (λow a w hE hc=>?_) ops.size _ a0 _ (λj o hj=>?_) (λi hi=>?_) ?_ ⟨λ_=>0,J.start (w0:=w0) (λ_ _=>trivial) _⟩
 ·refine JZ (hGo ow) hF.size hdst ?_;cases hb:isP.getD j false with
  |false=>exact(hnp ow (hGo ow)).mem (Ze6.2 ⟨Ze7.2 hj,by simp only[hb];rfl⟩)
  |true=>
   have hm:j∈pIdxM m isP:=Ze6.2 ⟨Ze7.2 hj,hb⟩;rw[Zev]at hps;have h1:=hps j hm;exact Ba (hGo ow) hF U (by rw[DX,XB,KN];exact ZeY.1 hp j hm) (by rw[XB,KN];exact h1)
 ·have h:=post ow a w ⟨hE.1.trans hF.defers,hE.2.1.trans hF.size,λt v hv=> ?_⟩ hE hc
  ·simpa[wpFrom]using h
  ·have hm:=Ra hv;have h:=ZeY.1 hout _ hm;have h1:=hE.2.2 t;unfold Know at h1;unfold outVm at h;cases hl:lastW ops t m with
   |none=>simp only[hl]at h h1;rw[h1];exact hF.get t v h
   | some i=>
    simp only[hl]at h h1;split at h
    ·rename_i hg;have hi:=Vt hl;have hgi:gc ops (instL ow pds) ops.size i:=by
      obtain⟨k,hk⟩:∃k,ops.size=k+1:=⟨ops.size-1,by omega⟩;rw[hk];unfold gc;rw[Zfe]at hg;rw[hg];trivial
     have h2:=h1.1 hgi;rw[XB]at h2;unfold valAt Pd.val? at h;split at h
     ·rename_i u hu;simp only[Option.some.injEq]at h;subst h;rw[hu]at h2;exact h2
     ·cases h
    ·cases h
 ·simp[Zeh,Zfo]at hj;split at hj<;>simp at hj
 ·simp[Zeh,Zfo]at hi;split at hi<;>simp at hi
 ·refine Zfh List.countP_le_length ?_;simp
end
def row_one{cur cs:List Value}{s p off:Nat}{u:Value}(hcs:cs.length=s)(hoff:off<s)(hfit:p+s<=cur.length)(heq:∀j,j<s->cur[p+j]? =cs[j]?):
  cur.take (p+off)++[u]++cur.drop (p+off+1)=cur.take p++cs.set off u++cur.drop (p+(cs.set off u).length):=by
 apply ZeU;simp only[ZfB,Zeo,Ze1,Ze3,Zf4,ZfX,ZeO,Zfb,ZfK,hcs];grind
section
variable{P:Program}{α:Type}[Flat α]{w:World}{E T:TypeId}{go:Option Nat}{G:Nat->Prop}{v:Value}{l:List α}
theorem OwnS.setCell_run(h:OwnS w E go G Non v l)(hE:Ty P E α){n off:Nat}{x x':α}(hx:l[n]? =some x)(hoff:off<Rep.sz α){u:Value}(h1:u.oneCell'=true)(hx':Flat.enc x'=(Flat.enc x).set off u)(hT:(P.info? T).map (·.size)=some 1):
  ∃g w',go=some g/\(∃c,v= .slice (some ⟨g,0,none⟩) l.length c)/\(storeVar T ((⟨g,0,none⟩:Addr).add (n*Rep.sz α+off)) u).run P w= .ok () w'/\OwnS w' E go G Non v (l.set n x')/\Chg (λk=>go=some k) w w':=by
 have hn:n<l.length:=(Zej.1 hx).1;obtain⟨g,w1,hgo,⟨c,hv⟩,hrun,ho,hc⟩:=h.set_run (P:=P) hE (Fr:=Non) (u:=Rep.val α (Flat.enc x')) (x:=x') ⟨_,Flat.iff.2 rfl,rfl⟩ (Fu:=Non) Pq (λ_ _ h=>h.elim) hn;refine⟨g,w1,hgo,⟨c,hv⟩,?_,ho,hc⟩;obtain⟨F,css,g1,g2,g3,g4,g5⟩:=h;rcases g2.2 with⟨hv2,hz⟩|⟨g',cap,cur,hv2,hb,hg,hnc,hcm,hcs,htake⟩
 ·omega
 rw[hv]at hv2;simp only[Value.slice.injEq,Option.some.injEq,Addr.mk.injEq,ZgK,Zha]at hv2;obtain⟨rfl,rfl⟩:=hv2;have hlenx:(Flat.enc x).length=Rep.sz α:=Rep.len (Flat.iff (w:=w) (F:=Non).2 rfl);have hlenx':(Flat.enc x').length=Rep.sz α:=Rep.len (Flat.iff (w:=w) (F:=Non).2 rfl);have hone':∀z∈Flat.enc x',z.oneCell'=true:=Rep.one (Flat.iff (w:=w) (F:=Non).2 rfl);have hvc:(Rep.val α (Flat.enc x')).cells=(Flat.enc x').toArray:=by
  unfold Rep.val;cases hh:Rep.agg α with
  |true=>rfl
  | false=>
   have hcl:=hlenx';rw[Rep.sgl hh]at hcl
   match hq:Flat.enc x',hcl with
   |[c],_=>
    have h1:=hone' c (by rw[hq];simp);simp only[Zeg,Zen,List.headD_cons];cases c<;>simp_all[Value.cells,Value.oneCell']
 have hoffn:n*Rep.sz α+Rep.sz α<=l.length*Rep.sz α:=by
  rw[<-Nat.succ_mul];exact Zfu _ hn
 have hcap:l.length*Rep.sz α<=c*Rep.sz α:=Zfu _ hnc;have e1:=run_storeCells_at (P:=P) g (n*Rep.sz α) E (Flat.enc x') 0 cur w hg O hone';have e2:=run_storeCells_at (P:=P) g (n*Rep.sz α+off) E [u] 0 cur w hg an ag;simp only[ZgC]at e1 e2;have haddr:∀p,(⟨g,0,none⟩:Addr).add p=⟨g,p,none⟩:=λp=>by simp_all[Addr.add]
 have r1:(storeVar E ((⟨g,0,none⟩:Addr).add (n*Rep.sz α)) (Rep.val α (Flat.enc x'))).run P w= .ok () (w.setRow g (cur.toList.take (n*Rep.sz α)++Flat.enc x'++cur.toList.drop (n*Rep.sz α+(Flat.enc x').length)).toArray):=by
  rw[haddr];unfold storeVar;simp only[Sem.run_bind,hE.sizeOf,Result.andThen_ok,hvc,Zgb,hlenx'];simp_all
 rw[hrun]at r1;simp only[Result.ok.injEq,Zha]at r1;have hcu:u.cells= #[u]:=by cases u<;>simp_all[Value.cells,Value.oneCell']
 have r2:(storeVar T ((⟨g,0,none⟩:Addr).add (n*Rep.sz α+off)) u).run P w= .ok () (w.setRow g (cur.toList.take (n*Rep.sz α+off)++[u]++cur.toList.drop (n*Rep.sz α+off+1)).toArray):=by
  cases hinf:P.info? T with
  |none=>rw[hinf]at hT;cases hT
  |some inf=>
   rw[hinf]at hT;simp only[Ze0,Option.some.injEq]at hT;rw[haddr];unfold storeVar;simp only[Sem.run_bind,sizeOf,typeInfo,hcu];simpa[hinf,hT]using e2
 rw[r2,r1];congr 3;rw[hx'];refine row_one (s:=Rep.sz α) hlenx hoff (by simp only[Zfc];rw[hcs];omega) λj hj=>?_;have hxn:css[n]? =some (Flat.enc x):=by
  have hlt:n<css.length:=by rw[g1.1];exact hn
  rw[Zef hlt];exact congrArg some (Flat.iff.1 (g1.2 n css[n] x (Zef hlt) hx))
 have hj':j<(Flat.enc x).length:=by omega
 have:=Rq (s:=Rep.sz α) g1.lens hxn (Zef hj');rw[<-htake,ZeO]at this;split at this
 ·rw[this,Zef hj']
 ·cases this
variable{ops:Array Oper}{Q:Exit->Act->World->Prop}{a:Act}{w0:World}{S S0 F F0:Nat->Prop}{N:Nat}{σ:List (Nat×Value)}{k d d2:Nat}{t ty:TypeId}{x y:Operand}{pos:String}{af:Array Edge}{L:List HP}
theorem EK{t' s' ty' ty2:TypeId}{fl:Nat}{idx z:Operand}{pos' pos2:String}{af' af2:Array Edge}{kd:IntKind}{n:Int}{q q':α}{off:Nat}{u:Value}(i:Nat)(hs:Sep L w S)(hM:Mem w0 S0 F0 w S F)(hL:L[i]? =some (SL E v l))(ht:P.underlying t=some (.slice E))(hE:Ty P E α)
  (hop:ops[k]? =some ⟨some d,.indexAddr t x idx,ty,pos,af,none⟩)(hop2:ops[k+1]? =some ⟨some d2,.fieldAddr s' (.tmp d) fl,ty2,pos2,af2,none⟩)(hop':ops[k+2]? =some ⟨none,.store t' (.tmp d2) z,ty',pos',af',none⟩)(hd:Nat.blt d N=true)(hd2:Nat.blt d2 N=true)(hF:FrS N σ a)
  (hx:opd σ x=some v)(hi:opd σ idx=some (.int kd n))(hz:(match z with|.tmp s=>s !=d&&s !=d2|_=>true)=true)(hzu:opd σ z=some u)(hoff:fieldOff P s' fl=some off)(hlt:Nat.blt off (Rep.sz α)=true)(hT:(P.info? t').map (·.size)=some 1)(h1:u.oneCell'=true)
  (hq:get? l n=some q)(hu:Flat.enc q'=(Flat.enc q).set off u){r:List α}(hr:set? l n q'=some r)
  (h:∀w' S' fr p p2,Sep (L.set i (SL E v r)) w' S'->Stp w S w' S'->FrS N ((d2,p2)::(d,p)::σ) fr->wpFrom P ops Q (k+3) fr w'):wpFrom P ops Q k a w:=by
 obtain⟨A,hok,hup⟩:=hs.upd i hL hM;rcases hok with⟨go,ho⟩|⟨rfl,_,_⟩
 ·unfold set? at hr;split at hr
  ·rename_i hn;simp only[Option.some.injEq]at hr;subst hr;obtain⟨g,w',hgo,⟨c,rfl⟩,hrun,ho',hc⟩:=ho.setCell_run (P:=P) (T:=t') hE (get?_at hq) (Ze4.mp hlt) h1 hu hT;have hb:0<=n/\n<(l.length:Int):=⟨hn.1,by omega⟩;refine Zu hF hop rfl rfl (Ze4.mp hd) (R:=λp w1=>p= .pointer (some ((⟨g,0,none⟩:Addr).add (n.toNat*Rep.sz α)))/\w=w1) (Zh ?_ ⟨rfl,rfl⟩) λp w1 fr hp hF1=>?_
   ·simp[execOp,Instr.indexAt,Zd hF hx,Zd hF hi,asIntOf,run_underlying ht,hb,hE.sizeOf]
   ·obtain⟨rfl,rfl⟩:=hp;have hp1:=hF1.get d (.pointer (some ((⟨g,0,none⟩:Addr).add (n.toNat*Rep.sz α)))) U
    refine Zu hF1 hop2 rfl rfl (Ze4.mp hd2) (R:=λp w1=>p= .pointer (some (((⟨g,0,none⟩:Addr).add (n.toNat*Rep.sz α)).add off))/\w=w1) (Zh (Pz (P:=P) (ρ:=λy=>match y with|.tmp s=>if s=d then some (.pointer (some ((⟨g,0,none⟩:Addr).add (n.toNat*Rep.sz α))))else none|_=>none) (λy z hy=>by
     grind) aX w) ⟨rfl,rfl⟩) λp2 w1 fr2 hp2 hF2=>?_
    obtain⟨rfl,rfl⟩:=hp2;have hz':fr2.eval z=u:=by
     cases z with
     |tmp s=>
      refine hF2.get s u ?_;have e1:(s==d2)=false:=by simp_all
      have e2:(s==d)=false:=by simp_all
      rw[ZeG,e1,ZeG,e2];exact hzu
     |const c=>simp_all[opd,Act.eval]
     |global c=>simp_all[opd,Act.eval]
     |func c=>simp_all[opd,Act.eval]
    refine Qj hF2 hop' rfl rfl (R:=λ_ w2=>w2=w') (SK ?_ rfl) λw2 hw2 hF3=>?_
    ·have hd1:=hF2.get d2 (.pointer (some (((⟨g,0,none⟩:Addr).add (n.toNat*Rep.sz α)).add off))) U;simp_all[add_add,execOp,Instr.storeAt,Instr.sureAddr]
    ·obtain⟨_,rfl⟩:=hw2;obtain⟨S',hp,hs'⟩:=hup (w':=w2) (P':=SL E _ (l.set n.toNat q')) (hc.mono λk hk=>ho.inG hk) (.inl ⟨go,ho'.regard λk _ hk=>.inl hk⟩);grind
  ·cases hr
 grind[set?]
end
section
open Go.Maps
variable{P:Program}{k e t:TypeId}{κ β:Type}[Flat κ][Flat β][DecidableEq κ](T:MapT P k e κ β)
variable{ops:Array Oper}{Q:Exit->Act->World->Prop}{a:Act}{w w0:World}{S S0 F F0:Nat->Prop}{N:Nat}{σ:List (Nat×Value)}{j d:Nat}{ty:TypeId}{x y z:Operand}{pos:String}{af:Array Edge}{L:List HP}{b:Nat}{m:List (κ×β)}
theorem mget?_fit{κ β:Type}[DecidableEq κ]{fit:κ->Bool}{z y:β}{m:List (κ×β)}{x:κ}(h:mget? fit z m x=some y):fit x=true:=by
 simp_all[mget?]
theorem mget?_val{κ β:Type}[DecidableEq κ]{fit:κ->Bool}{z y:β}{m:List (κ×β)}{x:κ}(h:mget? fit z m x=some y):mget z m x=y:=by
 unfold mget? at h;split at h
 ·exact Option.some.inj h
 ·cases h
theorem mput?_fit{κ β:Type}{fit:κ->Bool}{y:β}{m r:List (κ×β)}{x:κ}(h:mput? fit m x y=some r):fit x=true:=by
 simp_all[mput?]
theorem mput?_val{κ β:Type}{fit:κ->Bool}{y:β}{m r:List (κ×β)}{x:κ}(h:mput? fit m x y=some r):r=(x,y)::m:=by
 grind[mput?,Option.some.inj]
theorem mput?_len{κ β:Type}{fit:κ->Bool}{y:β}{m r:List (κ×β)}{x:κ}(h:mput? fit m x y=some r):m.length<maxLen:=by
 grind[mput?,room,maxLen]
theorem IA(hs:Sep L w S)(hM:Mem w0 S0 F0 w S F)(hm:∀w,(Instr.makeMap t none).run P w= .ok (.map (some w.heap.size)) (w.alloc (.map #[] 0)))(hop:ops[j]? =some ⟨some d,.makeMap t none,ty,pos,af,none⟩)(hd:Nat.blt d N=true)(hF:FrS N σ a)
  (h:∀b w' S' fr,Sep (MP T b []::L) w' S'->Stp w S w' S'->FrS N ((d,.map (some b))::σ) fr->wpFrom P ops Q (j+1) fr w'):wpFrom P ops Q j a w:=by
 refine Zu hF hop rfl rfl (Ze4.mp hd) (Gp rfl (hm w)) λv w' fr hv hF'=>?_;obtain⟨S',hp,hs'⟩:=hs.new hM (Chg.alloc w (.map #[] 0)) (P:=MP T w.heap.size []) ⟨OwnM.made T,Zes _⟩;grind
theorem GA(i:Nat)(hs:Sep L w S)(hL:L[i]? =some (MP T b m))(ht:P.underlying t=some (.map k e))(hop:ops[j]? =some ⟨some d,.lookup t x y false,ty,pos,af,none⟩)(hd:Nat.blt d N=true)(hF:FrS N σ a){u:κ}(hu:T.fit u=true)(hx:opd σ x=some (.map (some b))){vk:Value}(hy:opd σ y=some vk)(hk:Rep.val κ (Flat.enc u)=vk)
  {vr:Value}(hr:Rep.val β (Flat.enc (mget T.zero m u))=vr)(h:∀fr,FrS N ((d,vr)::σ) fr->wpFrom P ops Q (j+1) fr w):wpFrom P ops Q j a w:=by
 subst hk;exact Zu hF hop rfl rfl (Ze4.mp hd) (MW T rfl (hs.mp i hL) ht hu (Zd hF hx) (Zd hF hy)) λv w' fr⟨h1,h2⟩hF'=>by simp_all
theorem mget2?_fit{κ β:Type}[DecidableEq κ]{fit:κ->Bool}{z:β}{y:β×Bool}{m:List (κ×β)}{x:κ}(h:mget2? fit z m x=some y):fit x=true:=by
 simp_all[mget2?]
theorem mget2?_val{κ β:Type}[DecidableEq κ]{fit:κ->Bool}{z:β}{y:β×Bool}{m:List (κ×β)}{x:κ}(h:mget2? fit z m x=some y):mget z m x=y.1/\(m.lookup x).isSome=y.2:=by
 unfold mget2? at h;split at h
 ·rw[<-Option.some.inj h];exact⟨rfl,rfl⟩
 ·cases h
theorem mputE?_fit{κ β:Type}{fit:κ->Bool}{efit:β->Bool}{y:β}{m r:List (κ×β)}{x:κ}(h:mputE? fit efit m x y=some r):fit x=true:=by
 simp_all[mputE?]
theorem mputE?_efit{κ β:Type}{fit:κ->Bool}{efit:β->Bool}{y:β}{m r:List (κ×β)}{x:κ}(h:mputE? fit efit m x y=some r):efit y=true:=by
 simp_all[mputE?]
theorem mputE?_val{κ β:Type}{fit:κ->Bool}{efit:β->Bool}{y:β}{m r:List (κ×β)}{x:κ}(h:mputE? fit efit m x y=some r):r=(x,y)::m:=by
 grind[mputE?,Option.some.inj]
theorem mputE?_len{κ β:Type}{fit:κ->Bool}{efit:β->Bool}{y:β}{m r:List (κ×β)}{x:κ}(h:mputE? fit efit m x y=some r):m.length<maxLen:=by
 grind[mputE?,room,maxLen]
theorem KC(i:Nat)(hs:Sep L w S)(hM:Mem w0 S0 F0 w S F)(hL:L[i]? =some (MP T b m))(ht:P.underlying t=some (.map k e))(hop:ops[j]? =some ⟨none,.mapUpdate t x y z,ty,pos,af,none⟩)(hF:FrS N σ a){u:κ}(hu:T.fit u=true)(q:β)(he:T.efit q=true)(hm:m.length<maxLen)(hx:opd σ x=some (.map (some b)))
  {vk:Value}(hy:opd σ y=some vk)(hk:Rep.val κ (Flat.enc u)=vk){vr:Value}(hz:opd σ z=some vr)(hr:Rep.val β (Flat.enc q)=vr)
  (h:∀w' S',Sep (L.set i (MP T b ((u,q)::m))) w' S'->Stp w S w' S'->FrS N σ a->wpFrom P ops Q (j+1) a w'):wpFrom P ops Q j a w:=by
 subst hr;subst hk;obtain⟨A,hok,hup⟩:=hs.upd i hL hM;refine Qj hF hop rfl rfl (FI T rfl hok.1 ht hu q he hm (Zd hF hx) (Zd hF hy) (Zd hF hz)) λw'⟨_,h1,h2⟩hF'=>?_;obtain⟨S',hp,hs'⟩:=hup (P':=MP T b ((u,q)::m)) (h2.mono λk hk=>by subst hk;exact hok.2) ⟨h1,.inl hok.2⟩;grind
theorem Zam{draw:Bool}{ms:List Nat}{a0:Act}{pds:List Pd}{dst:Option Tmp}{g:Option (Nat×Bool)}(i:Nat)(hs:Sep L w S)(hL:L[i]? =some (MP T b m))(ht:P.underlying t=some (.map k e))(hG:Good ops pds [])(hF:FrS N σ a0)(ho:ops[j]? =some ⟨dst,.lookup t x y false,ty,pos,af,g⟩)
  {u:κ}(hx:envP ops σ pds j x=some (.map (some b))){vk:Value}(hy:envP ops σ pds j y=some vk)(hk:Rep.val κ (Flat.enc u)=vk)(hu:gc ops pds ops.size j->T.fit u=true)
  {vr:Value}(hr:gc ops pds ops.size j->Rep.val β (Flat.enc (mget T.zero m u))=vr)(hpd:pds.getD j .any= .eq vr):NPB P draw ms ops pds a0 w Q j:=
 RU _ ho hG hF λa w' hC hg hv _=>(MW T rfl ((hs.ext hC).mp i hL) ht (hu hg) (hv x _ ai hx) aC).mono λv w''⟨h1,h2⟩=>by
  subst h1;subst h2;rw[hpd];exact⟨hr hg,Chg.refl _ _⟩
theorem Dg{draw:Bool}{ms:List Nat}{a0:Act}{pds:List Pd}{dst:Option Tmp}{g:Option (Nat×Bool)}(i:Nat)(hs:Sep L w S)(hL:L[i]? =some (MP T b m))(ht:P.underlying t=some (.map k e))(hG:Good ops pds [])(hF:FrS N σ a0)(ho:ops[j]? =some ⟨dst,.lookup t x y true,ty,pos,af,g⟩)
  {u:κ}(hx:envP ops σ pds j x=some (.map (some b))){vk:Value}(hy:envP ops σ pds j y=some vk)(hk:Rep.val κ (Flat.enc u)=vk)(hu:gc ops pds ops.size j->T.fit u=true)
  {r:β×Bool}(hr:gc ops pds ops.size j->mget T.zero m u=r.1/\(m.lookup u).isSome=r.2){vr:Value}(hvr: .tuple #[Rep.val β (Flat.enc r.1),.bool r.2]=vr)(hpd:pds.getD j .any= .eq vr):NPB P draw ms ops pds a0 w Q j:=
 RU _ ho hG hF λa w' hC hg hv _=>(Gc T rfl ((hs.ext hC).mp i hL) ht (hu hg) (hv x _ ai hx) aC).mono λv w''⟨h1,h2⟩=>by
  subst h1;subst h2;rw[hpd,<-hvr,<-(hr hg).1,<-(hr hg).2];exact⟨rfl,Chg.refl _ _⟩
end
end Go.GL
end
section
namespace Go.GL
open Go.RowKit
section
variable{P:Program}{a:Act}{w:World}{N:Nat}{σ:List (Nat×Value)}
inductive Rets(P:Program)(σ:List (Nat×Value))(w:World):List ResultVar->List Value->Prop
 |nil:Rets P σ w [] []
 |tmp {t:Tmp} {v:Value} {rs:List ResultVar} {vs:List Value} (h:σ.lookup t=some v) (r:Rets P σ w rs vs):Rets P σ w (.tmp t::rs) (v::vs)
 |cell {t:Tmp} {ty bt:TypeId} {α:Type} [Rep α] {b:Nat} {cs:List Value} {v:Value} {rs:List ResultVar} {vs:List Value} (h:σ.lookup t=some (.pointer (some ⟨b,0,none⟩))) (hty:Ty P ty α) (hb:Box w b bt cs) (hl:cs.length=Rep.sz α) (hv:Rep.val α cs=v) (r:Rets P σ w rs vs):Rets P σ w (.cell t ty::rs) (v::vs)
def getRes(a:Act):ResultVar->Sem Value
 |.tmp t=>pure (a.tmps.getD t undef)
 |.cell a' t=>do loadVar t (<-asAddr (a.tmps.getD a' undef))
theorem ZbQ{rs:List ResultVar}{vs:List Value}(hF:FrS N σ a)(h:Rets P σ w rs vs):(rs.mapM (getRes a)).run P w= .ok vs w:=by
 induction h with
 |nil=>simp
 |tmp h r ih=>
  have h1:=hF.get _ _ h;simp_all[Act.eval,Zgw,getRes]
 |cell h hty hb hl hv r ih=>
  have h1:=hF.get _ _ h;simp only[Act.eval]at h1;have h2:=YO hty (ad:=⟨_,0,none⟩) hl hb.cells;simp_all[Zgw,getRes,asAddr]
def retG{fn:Func}{R:Ending->World->Prop}{rs:List ResultVar}{vs:List Value}{v:Value}(hr:fn.results=rs.toArray)(hF:FrS N σ a)(hv:Rets P σ w rs vs)(hval:(if h:vs.toArray.size=1 then vs.toArray[0]else .tuple vs.toArray)=v)(h:R (.returned v) w):
  bodyPost P fn R .ret a w:=by
 refine⟨hF.defers,v,?_,h⟩;have:=ZbQ (P:=P) hF hv;have e:(results fn a.tmps).run P w=((rs.toArray.mapM (getRes a)).run P w).andThen λvs w=>(pure (if h:vs.size=1 then vs[0]else .tuple vs):Sem Value).run P w:=by
  unfold results;rw[hr,Sem.run_bind];rfl
 simp_all
end
section
variable{P:Program}{draw:Bool}{ms:List Nat}{ops:Array Oper}{a0:Act}{w0:World}{Q:Exit->Act->World->Prop}{pds:List Pd}{σ:List (Nat×Value)}{N j:Nat}{dst:Option Tmp}{g:Option (Nat×Bool)}
  {t ty:TypeId}{x y:Operand}{pos:String}{af:Array Edge}{ι:Type}{V:ι->Value}{H:ι->HP}{ow:Nat->Nat}
def Zcl:(Pd.own λow v w=>∃i,v=V i/\(H i).ok w (λk=>w0.heap.size<=k/\k<w.heap.size/\ow k=j)).MonoO:=
  ⟨λow v w w'⟨i,h1,h2⟩hc=>⟨i,h1,(H i).mono ((H i).keep h2 hc λ_ _=>id) λk hk hh=>⟨hh.1,hk,hh.2.2⟩⟩,
   λow ow' v w hag⟨i,h1,h2⟩=>⟨i,h1,(H i).mono h2 λk hk hh=>⟨hh.1,hh.2.1,by grind⟩⟩⟩
def IY(o:Oper)(ho:ops[j]? =some o)(hG:Good ops pds [])(hF:FrS N σ a0)
  (hd:∀a w,Chg Non w0 w->gc ops pds ops.size j->(∀x v,x∈o.op.operands->envP ops σ pds j x=some v->a.eval x=v)->(∀t,Operand.tmp t∈o.op.operands->Know ops (TT ops pds) a0 j t (a.eval (.tmp t)) w)->Does P o a w λv w'=>(∃i,v=V i/\(H i).ok w' (λk=>w.heap.size<=k))/\Chg Non w w')
  (hpd:pds.getD j .any= .is λv w=>∃i,v=V i/\(H i).ok w (λk=>w0.heap.size<=k/\k<w.heap.size/\ow k=j)):NPO P ms ops pds a0 w0 Q ow j:=by
 intro o' ho' a w k _ _ hP hC hg hk K hK;rw[ho]at ho';obtain rfl:=Option.some.inj ho';refine hd a w hC hg (λx v hx hv=>PO hG hF ho hg hk hx hv) (λt ht=>hk t (Tw ht)) K Q λv w'⟨⟨i,h1,h2⟩,h3⟩=>hK v w' ?_ h3 λx hx=>hP x (Zfh h3.size hx);rw[hpd];exact⟨i,h1,(H i).mono h2 λk hk hge=>⟨Zfh hC.size hge,hk,hP k hge⟩⟩
def ZdI(o:Oper)(ho:ops[j]? =some o)(hG:Good ops pds [])(hF:FrS N σ a0)
  (hd:∀a w,Chg Non w0 w->gc ops pds ops.size j->(∀x v,x∈o.op.operands->envP ops σ pds j x=some v->a.eval x=v)->Does P o a w λv w'=>(∃i,v=V i/\(H i).ok w' (λk=>w.heap.size<=k))/\Chg Non w w')
  (hpd:pds.getD j .any= .is λv w=>∃i,v=V i/\(H i).ok w (λk=>w0.heap.size<=k/\k<w.heap.size/\ow k=j)):NPO P ms ops pds a0 w0 Q ow j:=
 IY o ho hG hF (λa w h1 h2 h3 _=>hd a w h1 h2 h3) hpd
theorem Zdx{α:Type}[Rep α]{E:TypeId}{n:Nat}{parts:Array (Nat×Operand)}(cells:List Value)(css:List (List Value))(l:List α)(hG:Good ops pds [])(hF:FrS N σ a0)(ho:ops[j]? =some ⟨dst,.buildSlice t n parts,ty,pos,af,g⟩)
  (vals:List Value)(hv:parts.toList.map (λp=>envP ops σ pds j p.2)=vals.map some)
  (hrun:∀w,(Instr.buildSlice t n ((parts.toList.map (·.1)).zip vals).toArray).run P w= .ok (.slice (some ⟨w.heap.size,0,none⟩) n n) (w.alloc (.cells cells.toArray E)))
  (hcss:∀w,Css w Non css l)(hfl:css.flatten=cells)(hln:l.length=n)(hmax:Nat.ble l.length room=true)
  (hpd:pds.getD j .any= .is λv w=>∃i:Option Addr×Nat,v= .slice i.1 (List.length l) i.2/\(SL E (.slice i.1 (List.length l) i.2) l).ok w (λk=>w0.heap.size<=k/\k<w.heap.size/\ow k=j)):NPO P ms ops pds a0 w0 Q ow j:=
 ZdI (V:=λi:Option Addr×Nat=>.slice i.1 (List.length l) i.2) (H:=λi=>SL E (.slice i.1 (List.length l) i.2) l) _ ho hG hF (λa w _ hg hvv=>by
  have hmax':l.length<=maxLen:=by
   have:=ZfG hmax;grind[room,maxLen]
  have hown:=Gy (w:=w) (E:=E) (G:=λk=>w.heap.size<=k) (FF:=Non) (hcss w) hfl hmax' (Zes _) (λ_ _ h=>h);refine Zh (v:=.slice (some ⟨w.heap.size,0,none⟩) l.length l.length) (w':=w.alloc (.cells cells.toArray E)) ?_ ⟨⟨(some ⟨w.heap.size,0,none⟩,l.length),rfl,.inl ⟨_,hown⟩⟩,Chg.alloc _ _⟩;have e:(parts.map λp=>(p.1,a.eval p.2))=((parts.toList.map (·.1)).zip vals).toArray:=by
   have key:∀(ps:List (Nat×Operand))(vs:List Value),(∀p∈ps,p.2∈(Op.buildSlice t n parts).operands)->ps.map (λp=>envP ops σ pds j p.2)=vs.map some->ps.map (λp=>(p.1,a.eval p.2))=(ps.map (·.1)).zip vs:=by
    intro ps
    induction ps with
    |nil=>simp
    | cons p ps ih=>intro vs hm h;cases vs with
     |nil=>simp at h
     |cons v vs=>
      grind[List.cons.injEq,List.zip_cons_cons,List.mem_cons_of_mem,List.mem_cons_self]
   grind[Op.operands]
  simp_all[execOp]) hpd
def ZaO{f:FuncId}{xs:Array Operand}{ts:Array TypeId}(spec:List (Value⊕Nat))(hG:Good ops pds [])(hF:FrS N σ a0)(hf:∀(args:Array Value)(w:World),(callFunc f args).run P w= .ok (.enter f args) w)
  (ho:ops[j]? =some ⟨dst,.call ⟨.value (.func f),xs,ts⟩,ty,pos,af,g⟩)(hj:Nat.blt j ops.size=true)(hargs:xs.toList.map (argSpec ops σ pds j)=spec.map some)
  (hpd:pds.getD j .any= .is λv w=>∃i,v=V i/\(H i).ok w (λk=>w0.heap.size<=k/\k<w.heap.size/\ow k=j))
  (hc:∀w vs,Chg Non w0 w->gc ops pds ops.size j->SpecP pds w spec vs->Calls P f vs.toArray w λe w'=>∃v,e= .returned v/\Chg Non w w'/\∃i,v=V i/\(H i).ok w' (λk=>w.heap.size<=k)):NPO P ms ops pds a0 w0 Q ow j:=
 IY _ ho hG hF (λa w hC hg hv hk=>by
  have h1:=JQ (o:=⟨dst,.call ⟨.value (.func f),xs,ts⟩,ty,pos,af,g⟩) (xs:=xs.toList) hG hj hg (λx hx=>by simp_all[Op.operands,Call.operands]) hv hk hargs
  exact PZ (args:=(xs.toList.map a.eval).toArray) rfl hf an ((hc w _ hC hg h1).mono λe w'⟨v,he,h2,h3⟩=>⟨v,he,h3,h2⟩)) hpd
def AllP{α:Type}(q:α->Prop):List α->Prop
 |[]=>True
 |x::l=>q x/\AllP q l
theorem AllP.mem{α:Type}{q:α->Prop}{x:α}:∀{l:List α},AllP q l->x∈l->q x
 |_::_,h,hm=>by
  cases hm with
  |head=>exact h.1
  |tail _ hm=>exact AllP.mem h.2 hm
theorem sepO{w:World}(l:List (Nat×HP))(hn:(l.map (·.1)).Nodup)(h:AllP (λp=>p.2.ok w (λk=>w0.heap.size<=k/\k<w.heap.size/\ow k=p.1)) l){L:List HP}(hL:l.map (·.2)=L):Sep L w (λk=>w0.heap.size<=k/\k<w.heap.size):=by
 subst hL;refine⟨λi k=>∃p,l[i]? =some p/\w0.heap.size<=k/\k<w.heap.size/\ow k=p.1,λi P hi=>?_,λi j k hne⟨p,hp,_,_,h1⟩⟨q,hq,_,_,h2⟩=>?_⟩
 ·rw[ZeL]at hi;cases hp:l[i]? with
  |none=>simp_all
  |some p=>
   rw[hp]at hi;simp only[Ze0,Option.some.injEq]at hi;subst hi;exact⟨p.2.mono (h.mem (Zel hp)) λk _ hk=>⟨p,hp,hk⟩,λk⟨q,_,h1,h2,_⟩=>⟨h1,h2⟩⟩
 ·refine hne (Bu hn (x:=p.1) ?_ ?_)
  all_goals grind
def Zda{w w':World}(hc:Chg Non w w'):Stp w Non w' (λk=>w.heap.size<=k/\k<w'.heap.size):=⟨hc,λ_ hk=>.inr hk.1,λ_ hk=>hk.2⟩
def EndM.is{m:Nat}{a:Act}{w:World}(hE:EndM ops (TT ops pds) a0 m a w)(t i:Nat)(hl:lastW ops t m=some i)(hg:guardOf ops i=none):(pds.getD i .any).sat (a.eval (.tmp t)) w:=by
 have h1:=hE.2.2 t;unfold Know at h1;rw[hl]at h1;refine h1.1 ?_;have hi:=Vt hl;obtain⟨m,hm⟩:∃m,ops.size=m+1:=⟨ops.size-1,by have:=Cy hi.2;omega⟩;simp_all[gc]
end
def Sep.front{α:Type}[Flat α]{w w0:World}{S S0 F F0:Nat->Prop}{L:List HP}{E:TypeId}{b:Option Addr}{len0 c:Nat}{n:Int}{l r:List α}(i:Nat)(hs:Sep L w S)(hM:Mem w0 S0 F0 w S F)(hL:L[i]? =some (SL E (.slice b len0 c) l))(hr:cut? l 0 n=some r):
  ∃S',Stp w S w S'/\Sep (L.set i (SL E (.slice b (List.length r) c) r)) w S':=by
 obtain⟨A,hok,hup⟩:=hs.upd i hL hM;unfold cut? at hr;split at hr
 ·simp only[ZgP,Zfr,Option.some.injEq]at hr;have hlen:r.length=n.toNat:=by grind
  refine hup (P':=SL E (.slice b (List.length r) c) r) (Chg.refl _ _) ?_;rcases hok with⟨go,ho⟩|⟨rfl,b',hb'⟩
  ·obtain⟨a',c',hv⟩:=ho.slice;obtain⟨rfl,rfl,rfl⟩:=hv;refine .inl ⟨go,?_⟩;rw[hlen,<-hr];exact(ho.front O).regard λk _ hk=>.inl hk
  ·obtain⟨rfl,rfl,rfl⟩:=hb';have h0:r=[]:=by simp_all
   exact .inr ⟨h0,b,by rw[h0];rfl⟩
 ·cases hr
end Go.GL
namespace Go.GL
def Sep.relen{w:World}{S:Nat->Prop}{L:List HP}{α:Type}[Rep α]{E:TypeId}{a:Option Addr}{n c:Nat}{l:List α}(i:Nat)(h:Sep L w S)(hi:L[i]? =some (SL E (.slice a n c) l)):n=l.length/\Sep (L.set i (SL E (.slice a l.length c) l)) w S:=by
 obtain⟨A,h1,h2⟩:=h.get i hi;have e:n=l.length:=by
  rcases h1 with⟨go,h1⟩|⟨rfl,a',h1⟩
  ·obtain⟨a',c',hv⟩:=h1.slice;simp_all
  simp_all
 have:L.set i (SL E (.slice a l.length c) l)=L:=by
  apply ZeU;grind
 simp_all
end Go.GL
namespace Go.GL
def Zaz{α:Type}[Rep α]{w:World}{F:Nat->Prop}{a:Option Addr}{n c:Nat}{l:List α}(h:RV w F (.slice a n c) l)(ha:a=none):l=[]:=by
 obtain⟨a',c',hv,_,_,hne⟩:=h.slice;grind
def Ck{α:Type}{l r:List α}(hl:l=[])(h:((app? ([]:List α) l).bind λx=>some x)=some r):some ([]:List α)=some r:=by
 grind[app?]
def IM{P:Program}(t:TypeId)(x y:Operand)(a b:Option Addr)(n m c d:Nat)(w:World):(eqGuard .eql t x y (.slice a n c) (.slice b m d)).run P w= .ok () w:=by
 rfl
def nil_eq{P:Program}{t e:TypeId}(ht:P.underlying t=some (.slice e))(a:Option Addr)(n c:Nat)(w:World):(binOp .eql t (.slice a n c) (.slice none 0 0)).run P w= .ok (.bool (Option.isNone a)) w:=by
 have h:(Op.equalIn (9999+1) t (.slice a n c) (.slice none 0 0)).run P w= .ok (Option.isNone a) w:=by
  unfold Op.equalIn;cases a<;>simp[run_underlying ht]
 simp_all[binOp,Op.equal,Op.maxDepth,Sem.run_bind,Sem.run_pure]
end Go.GL
namespace Go.GL
def HP.sep(L:List HP):HP:={ok:=Sep L,mono:=λh hA=>h.mono hA,keep:=λh hc hT=>h.keep hc hT}
def Sep.flat{w:World}{S:Nat->Prop}{L1 L2:List HP}(h:Sep (HP.sep L1::L2) w S):Sep (L1++L2) w S:=by
 obtain⟨A,R,h1,h2,h3,h4,h5⟩:=Sep.split (L1:=[HP.sep L1]) (L2:=L2) h;obtain⟨B,g1,g2⟩:=h1.get 0 rfl;exact Sep.join (L1:=L1) g1 h2 (λk _ ha hr=>h3 k (g2 k ha) hr) (λk _ h=>h4 k (g2 k h)) (λk _ h=>h5 k h)
section
variable{P:Program}{ops:Array Oper}{Q:Exit->Act->World->Prop}{a:Act}{w:World}{L:Array Bool}
def Am{id:Nat}{l:List Oper}(hmix:P.follows .mixedOrders=true)(h:∀w',Chg Non w w'->wpAny P .any l.toArray Q l.toArray.size (Array.replicate l.toArray.size false) a w'):(Code.region id l.toArray true).wp P Q a w:=
 wp_region_any hmix (h _ (Chg.drew w))
theorem BU{o:Oper}{K' K:Act->World->Prop}(hk:∀a w,K' a w->K a w)(h:o.wp P a w K' (Exit.then K Q)):o.wp P a w K Q:=by
 unfold Oper.wp at*;generalize (execOp a.eval o).run P w=r at*;cases r with
 | ok n w=>
  cases n with
  |value v=>exact hk _ w h
  |skip=>exact hk _ w h
  |defer d=>exact hk _ w h
  |enter f args=>
   refine Calls.mono h λe w' he=>?_;cases e with
   |returned v=>simp_all
   |panicked c=>exact he
   |outgrown=>exact he
  |row r args=>exact Rows.mono h λv w' he=>hk _ w' he
  |_=>exact h
 |halt hh w=>
  cases hh with
  |panic v=>exact h
  |_=>exact h
def Zp{i:Nat}{K:Act->World->Prop}(o:Oper)(ho:ops[i]? =some o)(hg:o.guard=none)(h:wpFrom P #[o] (Exit.then K Q) 0 a w):wpOp P ops Q i K a w:=by
 unfold wpOp;simp only[ho];have hw:∀y,Region.wanted o y=true:=λy=>by simp_all[Region.wanted]
 rw[Zei (hw _)];unfold wpFrom at h;simp only[Zfr]at h;unfold wpList at h;rw[Zei (hw _)]at h;rcases h with h|⟨h1,h2⟩
 ·grind[BU,wpList,Exit.then]
 ·exact .inr ⟨h1,h2⟩
def takesB(ops:Array Oper):Array Bool->List Nat->Bool
 |_,[]=>true
 |L,i::is=>Region.free .any ops L i&&(Region.ready .any ops L).contains i&&takesB ops (L.setIfInBounds i true) is
end
def quietB(σ:List (Nat×Value))(o:Oper):Bool:=
 match o.op with
 |.move _=>true
 |.binOp .sub _ x y _=>(match opd σ x,opd σ y with|some (.int .i64 _),some (.int .i64 _)=>true|_,_=>false)
 |.binOp .add _ x y _=>(match opd σ x,opd σ y with|some (.int .i64 _),some (.int .i64 _)=>true|_,_=>false)
 |_=>false
def EL{P:Program}{N:Nat}{σ:List (Nat×Value)}{o:Oper}{a:Act}{w:World}(hF:FrS N σ a)(h:quietB σ o=true):¬o.asks P a w:=by
 intro hk;have h1:=hk.1;unfold quietB at h;split at h
 ·rename_i x ho;simp[execOp,ho,noRoomEvent]at h1;have h5:noRoomEvent∈(#[]:Array _):=h1;simp at h5
 ·rename_i t x y yt ho;split at h
  ·rename_i m n hx hy;simp[execOp,ho,Zd hF hx,Zd hF hy,binOp,Op.intArith,eqGuard,noRoomEvent]at h1;have h5:noRoomEvent∈(#[]:Array _):=h1;simp at h5
  ·cases h
 ·rename_i t x y yt ho;split at h
  ·rename_i m n hx hy;simp[execOp,ho,Zd hF hx,Zd hF hy,binOp,Op.intArith,eqGuard,noRoomEvent]at h1;have h5:noRoomEvent∈(#[]:Array _):=h1;simp at h5
  ·cases h
 ·cases h
def hoistAll:List Nat->Array Oper->Array Oper
 |[],ops=>ops
 |f::is,ops=>hoistAll is (hoist f ops)
section
variable{P:Program}{Q:Exit->Act->World->Prop}{w:World}{N:Nat}
theorem Nj(i:Nat):∀(is:List Nat)(ops:Array Oper)(o:Oper),ops[i]? =some o->∃af,(hoistAll is ops)[i]? =some {o with after:=af}
 |[],_,o,h=>⟨o.after,h⟩
 | f::is,ops,o,h=>by
  have h1:∃af,(hoist f ops)[i]? =some {o with after:=af}:=by
   rw[SG,h];simp only[Ze0];split
   all_goals grind
  obtain⟨af,h1⟩:=h1;have h2:=Nj i is (hoist f ops) {o with after:=af} h1;exact h2
theorem Oi:∀(is:List Nat)(ops:Array Oper),(hoistAll is ops).size=ops.size
 |[],_=>rfl
 |f::is,ops=>by unfold hoistAll;rw[Oi is,OB]
theorem unhoistAll{fuel:Nat}{L:Array Bool}{a:Act}:∀(is:List Nat)(ops:Array Oper),(∀f∈is,L.getD f false=true)->wpAny P .any (hoistAll is ops) Q fuel L a w->wpAny P .any ops Q fuel L a w
 |[],_,_,h=>h
 |f::is,ops,hl,h=>RS fuel L a w (hl f U) (unhoistAll is (hoist f ops) (λg hg=>hl g (by simp[hg])) h)
def quietS(P:Program)(N:Nat)(ops:Array Oper):List Nat->List (Nat×Value)->Bool
  |[],_=>true
  | i ::is,σ=>
    match ops[i]? with
    | some o=>
      (match o.guard,o.dst,pe P (opd σ) o.op with|none,some d,some v=>quietB σ o&&decide (d<N)&&quietS P N ops is ((d,v)::σ)|_,_,_=>false)
    |none=>false
theorem Kj{fuel:Nat}{ops H:Array Oper}(hget:∀(i:Nat)(o:Oper),ops[i]? =some o->∃af,H[i]? =some {o with after:=af})(hns:Region.noSelect ops=true)(hQ:∀c a d v w,Q (.panic c) (Act.put a (some d) v) w->Q (.panic c) a w):
  ∀(is:List Nat)(L:Array Bool)(σ:List (Nat×Value))(a:Act),FrS N σ a->takesB ops L is=true->takesB H L is=true->quietS P N ops is σ=true->
   (∀a',wpAny P .any H Q fuel (is.foldl (λL i=>L.setIfInBounds i true) L) a' w->wpAny P .any ops Q fuel (is.foldl (λL i=>L.setIfInBounds i true) L) a' w)->
   wpAny P .any H Q (fuel+is.length) L a w->wpAny P .any ops Q (fuel+is.length) L a w
 |[],L,σ,a,_,_,_,_,hk,h=>hk a h
 | i::is,L,σ,a,hF,ht,hH,hq,hk,h=>by
  simp only[takesB,Zek]at ht hH;obtain⟨⟨h1,h2⟩,h3⟩:=ht;obtain⟨⟨g1,g2⟩,g3⟩:=hH;unfold quietS at hq;split at hq
  ·rename_i o ho;split at hq
   ·rename_i d v hg hd hv;simp only[Zek,Zeq]at hq;obtain⟨⟨q1,hdN⟩,q2⟩:=hq;have hrun:∀w,(execOp a.eval o).run P w= .ok (.value v) w:=λw=>Pz (P:=P) (ρ':=a.eval) (λx u hx=>Zd hF hx) hv w;have hw:∀y,Region.wanted o y=true:=λy=>by simp_all[Region.wanted]
    have hy:Yields P ops o v a:=.inl ⟨hw _,hrun⟩;refine wpAny_take (fuel:=fuel+is.length) ho hns h1 h2 (λc a w=>by grind) hy ?_;rw[hd];refine Kj hget hns hQ is _ _ _ (hF.put hdN v) h3 g3 q2 hk ?_;obtain⟨af,hHi⟩:=hget i o ho;have h4:wpOp P H Q i _ a w:=h.2 i ag;unfold wpOp at h4;rw[hHi]at h4;simp only at h4;rw[Zei (by simp_all[Region.wanted])]at h4;rcases h4 with h4|h4
    ·grind[Oper.wp,execOp,Oper.upon]
    ·exact absurd h4.1 (EL hF (o:={o with after:=af}) q1)
   ·cases hq
  ·cases hq
def AB{ops:Array Oper}(is:List Nat){σ:List (Nat×Value)}{a:Act}(hF:FrS N σ a)(n:Nat)(hn:ops.size=n+is.length)(hns:Region.noSelect ops=true)(ht:takesB ops (Array.replicate ops.size false) is=true)(hH:takesB (hoistAll is ops) (Array.replicate ops.size false) is=true)
  (hq:quietS P N ops is σ=true)(hl:(is.all λf=>(is.foldl (λL i=>L.setIfInBounds i true) (Array.replicate ops.size false)).getD f false)=true)(hQ:∀c a d v w,Q (.panic c) (Act.put a (some d) v) w->Q (.panic c) a w)(h:RA P (hoistAll is ops) Q a w):RA P ops Q a w:=by
 unfold RA at*;rw[Oi]at h;have key:=λw1:World=>Kj (w:=w1) (fuel:=n) (ops:=ops) (H:=hoistAll is ops) (λi o ho=>Nj i is ops o ho) hns hQ is (Array.replicate ops.size false) σ a hF ht hH hq (λa' h'=>unhoistAll is ops (λf hf=>Zev.1 hl f hf) h');simp_all
end
end Go.GL
namespace Go.GL
def FB(w:World)(F:Nat->Prop)(b:Nat)(t:TypeId)(cs:List Value):Prop:=Box w b t cs/\F b
section
variable{w w' w0:World}{F F' F0 S S' S0:Nat->Prop}{b:Nat}{t:TypeId}{cs:List Value}
def FB.ext(h:FB w F b t cs)(hc:Chg Non w w'):FB w' F b t cs:=⟨h.1.ext hc,h.2⟩
def FB.stp(h:FB w F b t cs)(hM:Mem w0 S0 F0 w S F)(hp:Stp w S w' S'):FB w' F b t cs:=⟨h.1.chg hp.chg λhs=>hM.dj b hs h.2,h.2⟩
def FB.mem(h:FB w0 F0 b t cs)(hM:Mem w0 S0 F0 w S F):FB w F b t cs:=⟨h.1.chg hM.chg λhs=>hM.dj0 b hs h.2,hM.fz b h.2⟩
def FB.big(h:FB w F b t cs)(hf:∀k,F k->F' k):FB w F' b t cs:=⟨h.1,hf b h.2⟩
def FB.sub(h:FB w F b t cs)(hf:∀k,k<w.heap.size->F k->F' k):FB w F' b t cs:=⟨h.1,hf b h.1.lt h.2⟩
def RV.len{α:Type}[Rep α]{a:Option Addr}{n c:Nat}{l:List α}(h:RV w F (.slice a n c) l):n=l.length:=by
 obtain⟨a',c',hv,_⟩:=h.slice;simp_all
end
end Go.GL
namespace Go.GL
section
variable{P:Program}{a:Act}{w:World}{N:Nat}{σ:List (Nat×Value)}
def ZaU{Q:Exit->Act->World->Prop}{x y:Code}{c:Operand}{b:Bool}(σ':List (Nat×Value))(hF:FrS N σ a)(hc:opd σ c=some (.bool b))(ht:b=true->x.wp P (λe a' w'=>e= .normal/\w'=w/\FrS N σ' a') a w)(hf:b=false->y.wp P (λe a' w'=>e= .normal/\w'=w/\FrS N σ' a') a w)
  (h:∀a',FrS N σ' a'->Q .normal a' w):(Code.cond c x y).wp P Q a w:=
 Bw hF hc (λhb=>wp_mono (ht hb) λe a' w'⟨h1,h2,h3⟩=>by simp_all) (λhb=>wp_mono (hf hb) λe a' w'⟨h1,h2,h3⟩=>by simp_all)
end
end Go.GL
namespace Go.GL
def FrS.eqs{N:Nat}{σ σ':List (Nat×Value)}{a:Act}(h:FrS N σ a)(e:σ=σ'):FrS N σ' a:=e▸h
end Go.GL
end
section
namespace Go.GL
open Go.RowKit
section
variable{P:Program}{ops:Array Oper}{Q:Exit->Act->World->Prop}{a:Act}{w:World}{N:Nat}{σ:List (Nat×Value)}{k d:Nat}{t yt ty:TypeId}{x y:Operand}{pos:String}{af:Array Edge}{m n z:Int}{kd kk:IntKind}{s:Str}
theorem Zab(ht:P.underlying t=some .string)(hz:sidx? s n=some z)(w:World):(Instr.index t s.val (.int kd n)).run P w= .ok (.int .u8 z) w:=by
 unfold sidx? at hz;split at hz
 ·cases hb:s.bytes[n.toNat]? with
  |none=>simp_all
  | some b=>
   have e:(⟨s.bytes.toArray⟩:ByteArray)[n.toNat]? =some b:=by
    have hlt:n.toNat<s.bytes.length:=(Zej.1 hb).1;have hlt':n.toNat<(⟨s.bytes.toArray⟩:ByteArray).size:=by simp_all[ByteArray.size]
    rw[getElem?_pos (⟨s.bytes.toArray⟩:ByteArray) n.toNat hlt'];have:=(Zej.1 hb).2;refine congrArg some ?_;rw[<-this];show(⟨s.bytes.toArray⟩:ByteArray).data[n.toNat]=_;simp
   simp_all[Instr.index,asIntOf,run_underlying,Str.val]
 ·cases hz
def Pg{o:Oper}(ho:o.op= .index t x y)(ht:P.underlying t=some .string)(hx:a.eval x=s.val)(hy:a.eval y= .int kd n)(hz:sidx? s n=some z):Does P o a w λv w'=>v= .int .u8 z/\w'=w:=by
 refine Zh (v:=.int .u8 z) (w':=w) ?_ ⟨rfl,rfl⟩;simp_all[guard,execOp,Zab]
def ZcB(ht:P.underlying t=some .string)(ho:ops[k]? =some ⟨some d,.index t x y,ty,pos,af,none⟩)(hd:Nat.blt d N=true)(hF:FrS N σ a)(hx:opd σ x=some s.val)(hy:opd σ y=some (.int kd n))(hz:sidx? s n=some z)
  (h:∀fr,FrS N ((d,.int .u8 z)::σ) fr->wpFrom P ops Q (k+1) fr w):wpFrom P ops Q k a w:=
 Zu hF ho rfl rfl (Ze4.mp hd) (Pg rfl ht (Zd hF hx) (Zd hF hy) hz) λ_ _ fr⟨hv,hw⟩hF'=>by simp_all
def ZbC(h:shrK? kk m n=some z)(t:TypeId)(w:World):(binOp .shr t (.int kk m) (.int kd n)).run P w= .ok (.int kk z) w:=by
 simp_all[shrK?,Option.some.injEq,binOp,Op.shift]<;>grind
def ZdG(ho:ops[k]? =some ⟨some d,.binOp .shr t x y yt,ty,pos,af,none⟩)(hd:Nat.blt d N=true)(hF:FrS N σ a)(hx:opd σ x=some (.int kk m))(hy:opd σ y=some (.int kd n))(hz:shrK? kk m n=some z)
  (h:∀fr,FrS N ((d,.int kk z)::σ) fr->wpFrom P ops Q (k+1) fr w):wpFrom P ops Q k a w:=MU ho hd hF hx hy ar (ZbC hz _ _) h
end
section
variable{P:Program}{draw:Bool}{ms:List Nat}{ops:Array Oper}{a0:Act}{w0:World}{Q:Exit->Act->World->Prop}{pds:List Pd}{σ:List (Nat×Value)}{N j:Nat}{dst:Option Tmp}{g:Option (Nat×Bool)}
  {t yt ty:TypeId}{x y:Operand}{pos:String}{af:Array Edge}{m n z:Int}{kd kk:IntKind}{s:Str}
def Hw(hG:Good ops pds [])(hF:FrS N σ a0)(ht:P.underlying t=some .string)(ho:ops[j]? =some ⟨dst,.index t x y,ty,pos,af,g⟩)(hx:envP ops σ pds j x=some s.val)(hy:envP ops σ pds j y=some (.int kd n))
  (hz:gc ops pds ops.size j->sidx? s n=some z)(hpd:pds.getD j .any= .eq (.int .u8 z)):NPB P draw ms ops pds a0 w0 Q j:=
 RU _ ho hG hF λ_ w _ hg hv _=>(Pg rfl ht (hv x _ ai hx) (hv y _ ai hy) (hz hg)).mono λv w'⟨h1,h2⟩=>by
  subst h1;subst h2;rw[hpd];exact⟨rfl,Chg.refl _ _⟩
end
end Go.GL
end
section
namespace Go.GL
open Go.RowKit
section
variable{P:Program}{ops:Array Oper}{Q:Exit->Act->World->Prop}{a a0:Act}{w w0:World}{N:Nat}{σ:List (Nat×Value)}{k d j:Nat}{t ty:TypeId}{x y:Operand}{pos:String}{af:Array Edge}{α:Type}[Rep α]{b off:Nat}{bt:TypeId}{cs ps:List Value}
  {draw:Bool}{ms:List Nat}{pds:List Pd}{dst:Option Tmp}{g:Option (Nat×Bool)}
def Box.part(h:Box w b bt cs)(hp:(cs.drop off).take ps.length=ps):Cells w ⟨b,off,none⟩ ps:=λj u hu=>by
 have e:(⟨b,off,none⟩:Addr).add j=(⟨b,0,none⟩:Addr).add (off+j):=by grind[Addr.add]
 rw[e];refine h.cells (off+j) u ?_;grind
end
section
variable{P:Program}{draw:Bool}{ms:List Nat}{ops:Array Oper}{a0:Act}{w0:World}{Q:Exit->Act->World->Prop}{pds:List Pd}{σ:List (Nat×Value)}{N j:Nat}{dst:Option Tmp}{g:Option (Nat×Bool)}
  {t ty:TypeId}{x y:Operand}{pos:String}{af:Array Edge}{ow:Nat->Nat}
open Classical in
theorem Zb6{α:Type}[Rep α]{E:TypeId}{n:Nat}{parts:Array (Nat×Operand)}{a:Act}{w:World}(cells:List Value)(css:List (List Value))(l:List α)
  (vals:List Value)(hv:parts.toList.map (λp=>envP ops σ pds j p.2)=vals.map some)(hvv:∀x v,x∈(Op.buildSlice t n parts).operands->envP ops σ pds j x=some v->a.eval x=v)
  (hrun:∀w,(Instr.buildSlice t n ((parts.toList.map (·.1)).zip vals).toArray).run P w= .ok (.slice (some ⟨w.heap.size,0,none⟩) n n) (w.alloc (.cells cells.toArray E)))
  (hcss:∀w,Css w Non css l)(hfl:css.flatten=cells)(hln:l.length=n)(hmax:Nat.ble l.length room=true):
  Does P ⟨dst,.buildSlice t n parts,ty,pos,af,g⟩ a w λv w'=>v= .slice (some ⟨w.heap.size,0,none⟩) l.length l.length/\(SL E v l).ok w' (λk=>w.heap.size<=k)/\Chg Non w w':=by
 have hmax':l.length<=maxLen:=by
  have:=ZfG hmax;grind[room,maxLen]
 have hown:=Gy (w:=w) (E:=E) (G:=λk=>w.heap.size<=k) (FF:=Non) (hcss w) hfl hmax' (Zes _) (λ_ _ h=>h);refine Zh (v:=.slice (some ⟨w.heap.size,0,none⟩) l.length l.length) (w':=w.alloc (.cells cells.toArray E)) ?_ ⟨rfl,.inl ⟨_,hown⟩,Chg.alloc _ _⟩;have e:(parts.map λp=>(p.1,a.eval p.2))=((parts.toList.map (·.1)).zip vals).toArray:=by
  have key:∀(ps:List (Nat×Operand))(vs:List Value),(∀p∈ps,p.2∈(Op.buildSlice t n parts).operands)->ps.map (λp=>envP ops σ pds j p.2)=vs.map some->ps.map (λp=>(p.1,a.eval p.2))=(ps.map (·.1)).zip vs:=by
   intro ps
   induction ps with
   |nil=>simp
   | cons p ps ih=>intro vs hm h;cases vs with
    |nil=>simp at h
    |cons v vs=>
     grind[List.cons.injEq,List.zip_cons_cons,List.mem_cons_of_mem,List.mem_cons_self]
  grind[Op.operands]
 simp_all[execOp,congrArg]
def ZcC{E:TypeId}(hG:Good ops pds [])(hF:FrS N σ a0)(ho:ops[j]? =some ⟨dst,.buildSlice t 0 #[],ty,pos,af,g⟩)
  (hrun:∀w,(Instr.buildSlice t 0 #[]).run P w= .ok (.slice (some ⟨w.heap.size,0,none⟩) 0 0) (w.alloc (.cells #[] E)))
  (hpd:pds.getD j .any= .is λv _=>∃b,v= .slice b 0 0):NPB P draw ms ops pds a0 w0 Q j:=
 RU _ ho hG hF λa w _ _ _ _=>(Zb6 (α:=Int) (E:=E) (ops:=ops) (σ:=σ) (pds:=pds) (j:=j) [] [] [] [] rfl (λ_ _ h=>by simp_all) ag (λ_=>⟨rfl,λi cs x h=>by simp at h⟩) rfl rfl rfl).mono λv w'⟨h1,_,h3⟩=>by
  rw[hpd];exact⟨⟨_,h1⟩,h3⟩
def JM:(Pd.is λv(_:World)=>∃b,v= .slice b 0 0).Mono Non:=λ_ _ _ h _=>h
def Zc5{α:Type}[Flat α]{E t':TypeId}{i s:Nat}{u:Value}{m:List α}{Fr:Nat->Prop}(hG:Good ops pds [])(hF:FrS N σ a0)(ht:P.underlying t=some (.slice E))(hE:ElT P E α)(ho:ops[j]? =some ⟨dst,.call ⟨.builtin .append,#[.tmp s,y],#[t,t']⟩,ty,pos,af,g⟩)(htt:t'=t)(hj:Nat.blt j ops.size=true)
  (hl:lastW ops s j=some i)(hok:okG ops ops.size j i=true)(hpi:pds.getD i .any= .is λv _=>∃b,v= .slice b 0 0){r:List α}(hy:envP ops σ pds j y=some u)(hu:RV w0 Fr u m)(hr:gc ops pds ops.size j->app? ([]:List α) m=some r)
  (hpd:pds.getD j .any= .is λv w=>∃i:Option Addr×Nat,v= .slice i.1 (List.length r) i.2/\(SL E (.slice i.1 (List.length r) i.2) r).ok w (λk=>w0.heap.size<=k/\k<w.heap.size/\ow k=j)):NPO P ms ops pds a0 w0 Q ow j:=
 IY (V:=λi:Option Addr×Nat=>.slice i.1 (List.length r) i.2) (H:=λi=>SL E (.slice i.1 (List.length r) i.2) r) _ ho hG hF (λa w hC hg hv hk=>by
  have h1:=Qy hG hj hl hok hg (hk s aL);rw[hpi]at h1;obtain⟨b,hb⟩:=h1;have hr:=hr hg;unfold app? at hr;split at hr
  ·simp only[ZfY,Option.some.injEq]at hr;subst hr;obtain⟨v',w',hrun,hok',hc⟩:=Ti (P:=P) (ty:=ty) (v:=b) ht hE (hu.ext hC) O;have hsl:∃a' c',v'= .slice a' (List.length m) c':=by
    rcases hok' with⟨go,ho⟩|⟨rfl,a',rfl⟩
    ·exact ho.slice
    simp
   obtain⟨a',c',rfl⟩:=hsl;refine Zh ?_ ⟨⟨(a',c'),rfl,hok'⟩,hc⟩;simp_all[Op.operands,Call.operands,execOp,resolve,invoke,builtin]
  ·cases hr) hpd
section
open Go.Maps
variable{k e:TypeId}{κ β:Type}[Flat κ][Flat β][DecidableEq κ](T:MapT P k e κ β)
end
end
end Go.GL
namespace Go.GL
open Go.RowKit
section
variable{P:Program}{ops:Array Oper}{Q:Exit->Act->World->Prop}{a:Act}{w:World}{N:Nat}{σ:List (Nat×Value)}{k d:Nat}{ty:TypeId}{x:Operand}{pos:String}{af:Array Edge}{f:FuncId}{xs:Array Operand}{ts:Array TypeId}
def EH{o:Oper}{R:Value->World->Prop}(caps:List Value)(ho:o.op= .call {callee:=.value x,args:=xs,argTypes:=ts})(hx:a.eval x= .func (.func f) #[] caps.toArray)
  (hf:∀(args:Array Value)(w:World),(callFunc f args).run P w= .ok (.enter f args) w){args:List Value}(ha:xs.toList.map a.eval=args)
  (h:Calls P f (args++caps).toArray w λe w'=>∃v,e= .returned v/\R v w'):Does P o a w R:=by
 intro K Q hK;obtain⟨dst,op,type,pos,after,guard⟩:=o;subst ho;have hrun:(execOp a.eval {dst,op:=.call {callee:=.value x,args:=xs,argTypes:=ts},type,pos,after,guard}).run P w= .ok (.enter f (args++caps).toArray) w:=by
  simp_all[execOp,resolve,Deferred.ofValue,Sem.run_bind,Sem.run_pure,Result.andThen_ok,invoke]
 unfold Oper.wp;rw[hrun];refine h.mono λe w' he=>?_;grind
end
end Go.GL
namespace Go.GL
open Go.RowKit
section
variable{P:Program}{draw:Bool}{ms:List Nat}{ops:Array Oper}{a0:Act}{w0:World}{Q:Exit->Act->World->Prop}{pds:List Pd}{σ:List (Nat×Value)}{N j:Nat}{dst:Option Tmp}{g:Option (Nat×Bool)}
  {t ty:TypeId}{pos:String}{af:Array Edge}
def ZbE{f:FuncId}{x:Operand}{xs:Array Operand}{ts:Array TypeId}(args caps:List Value)(hG:Good ops pds [])(hF:FrS N σ a0)(hf:∀(args:Array Value)(w:World),(callFunc f args).run P w= .ok (.enter f args) w)
  (ho:ops[j]? =some ⟨dst,.call ⟨.value x,xs,ts⟩,ty,pos,af,g⟩)(hx:envP ops σ pds j x=some (.func (.func f) #[] caps.toArray))(hargs:xs.toList.map (envP ops σ pds j)=args.map some)
  (hc:∀w,Chg Non w0 w->gc ops pds ops.size j->Calls P f (args++caps).toArray w λe w'=>∃v,e= .returned v/\Chg Non w w'/\(pds.getD j .any).sat v w'):NPB P draw ms ops pds a0 w0 Q j:=
 RU _ ho hG hF λa w hC hg hv _=>by
  have h1:=Ef (o:=⟨dst,.call ⟨.value x,xs,ts⟩,ty,pos,af,g⟩) (xs:=xs.toList) (λy hy=>by simp_all[Op.operands,Call.operands]) hv hargs;have h2:=hv x _ aL hx;exact EH caps rfl h2 hf h1 ((hc w hC hg).mono λe w'⟨v,he,h2,h3⟩=>⟨v,he,h3,h2⟩)
end
end Go.GL
end
section
namespace Go.GL
open Go.RowKit
structure Hd where
 a:Option Addr
 n:Nat
 c:Nat
def Hd.v(h:Hd):Value:=.slice h.a h.n h.c
instance:Rep Hd where
 sz:=1
 agg:=false
 ok:=λ_ _ cs x=>cs=[x.v]
 len:=by simp
 one:=by rintro w F cs x rfl u hu;simp at hu;subst hu;rfl
 pos:=by decide
 sgl:=λ_=>rfl
 keep:=λh _=>h
instance:Flat Hd where
 enc:=λx=>[x.v]
 iff:=Iff.rfl
def HP.pure(p:Prop):HP:={ok:=λ_ _=>p,mono:=λh _=>h,keep:=λh _ _=>h}
def HP.ex{ι:Type}(P:ι->HP):HP:={ok:=λw A=>∃i,(P i).ok w A,mono:=λ⟨i,h⟩hA=>⟨i,(P i).mono h hA⟩,keep:=λ⟨i,h⟩hc hT=>⟨i,(P i).keep h hc hT⟩}
def HP.two(P Q:HP):HP where
 ok w A:=∃B C:Nat->Prop,P.ok w B/\Q.ok w C/\(∀k,B k->C k->False)/\∀k,B k\/C k->A k
 mono:=λ{w A A'}⟨B,C,h1,h2,h3,h4⟩hA=>⟨λk=>B k/\k<w.heap.size,λk=>C k/\k<w.heap.size,P.mono h1 λ_ hk h=>⟨h,hk⟩,Q.mono h2 λ_ hk h=>⟨h,hk⟩,λk h h'=>h3 k h.1 h'.1,λk h=>h.elim (λh=>hA k h.2 (h4 k (.inl h.1))) λh=>hA k h.2 (h4 k (.inr h.1))⟩
 keep:=λ⟨B,C,h1,h2,h3,h4⟩hc hT=>⟨B,C,P.keep h1 hc λk h=>hT k (h4 k (.inl h)),Q.keep h2 hc λk h=>hT k (h4 k (.inr h)),h3,h4⟩
def HP.all{R α:Type}(own:R->α->HP):List R->List α->HP
 |[],[]=>.pure True
 |r::rs,x::xs=>.two (own r x) (HP.all own rs xs)
 |_,_=>.pure False
def HP.but{R α:Type}(own:R->α->HP)(i:Nat)(rs:List R)(xs:List α):HP:=.two (.all own (rs.take i) (xs.take i)) (.all own (rs.drop (i+1)) (xs.drop (i+1)))
section
variable{w:World}{A:Nat->Prop}{P Q P' Q':HP}
def HP.big{A':Nat->Prop}(h:P.ok w A)(hA:∀k,A k->A' k):P.ok w A':=P.mono h λk _=>hA k
def PV(h1:∀A,P.ok w A->P'.ok w A)(h2:∀A,Q.ok w A->Q'.ok w A)(h:(HP.two P Q).ok w A):(HP.two P' Q').ok w A:=by
 obtain⟨B,C,a,b,c,d⟩:=h;exact⟨B,C,h1 B a,h2 C b,c,d⟩
theorem Qm(h:(HP.two P Q).ok w A):(HP.two Q P).ok w A:=by
 obtain⟨B,C,a,b,c,d⟩:=h;exact⟨C,B,b,a,λk h h'=>c k h' h,λk h=>d k h.symm⟩
def MG{R:HP}(h:(HP.two P (.two Q R)).ok w A):(HP.two (.two P Q) R).ok w A:=by
 obtain⟨B,C,a,⟨D,E,b,c,d,e⟩,f,g⟩:=h;exact⟨λk=>B k\/D k,E,⟨B,D,a,b,λk h h'=>f k h (e k (.inl h')),λ_ h=>h⟩,c,λk h h'=>h.elim (λh=>f k h (e k (.inr h'))) λh=>d k h h',λk h=>g k (h.elim (λh=>h.elim .inl λh=>.inr (e k (.inl h))) λh=>.inr (e k (.inr h)))⟩
def SC(h:(HP.two P Q).ok w A):P.ok w A:=by
 obtain⟨B,C,a,b,c,d⟩:=h;exact P.big a λk hk=>d k (.inl hk)
theorem Tu(h:(HP.two P Q).ok w A):Q.ok w A:=SC (Qm h)
def PT(h:P.ok w A)(hq:Q.ok w Non):(HP.two P Q).ok w A:=⟨A,Non,h,hq,λ_ _ h=>h.elim,λ_ h=>h.elim id λh=>h.elim⟩
def Gi(h:Q.ok w A)(hp:P.ok w Non):(HP.two P Q).ok w A:=Qm (PT h hp)
variable{R α:Type}{own:R->α->HP}{rs rs':List R}{xs xs':List α}
theorem Sz(h:(HP.all own rs xs).ok w A):rs.length=xs.length:=by
 induction rs generalizing xs A with
 |nil=>cases xs with
  |nil=>rfl
  |cons=>exact h.elim
 |cons r rs ih=>cases xs with
  |nil=>exact h.elim
  |cons x xs=>simp[ih (Tu h)]
theorem all_append(h:(HP.two (.all own rs xs) (.all own rs' xs')).ok w A):(HP.all own (rs++rs') (xs++xs')).ok w A:=by
 induction rs generalizing xs A with
 |nil=>cases xs with
  |nil=>grind[Tu]
  |cons=>exact(SC h).elim
 | cons r rs ih=>cases xs with
  |nil=>exact(SC h).elim
  |cons x xs=>
   obtain⟨B,C,⟨D,E,a,b,c,d⟩,e,f,g⟩:=h;exact⟨D,λk=>E k\/C k,a,ih ⟨E,C,b,e,λk h h'=>f k (d k (.inr h)) h',λ_ h=>h⟩,λk h h'=>h'.elim (c k h) (f k (d k (.inl h))),λk h=>g k (h.elim (λh=>.inl (d k (.inl h))) λh=>h.elim (λh=>.inl (d k (.inr h))) .inr)⟩
theorem Zae(n:Nat)(h:(HP.all own rs xs).ok w A):(HP.two (.all own (rs.take n) (xs.take n)) (.all own (rs.drop n) (xs.drop n))).ok w A:=by
 induction rs generalizing xs A n with
 |nil=>cases xs with
  |nil=>simp only[List.take_nil,List.drop_nil];exact PT h trivial
  |cons=>exact h.elim
 | cons r rs ih=>cases xs with
  |nil=>exact h.elim
  | cons x xs=>
   cases n with
   |zero=>exact Gi h trivial
   |succ n=>
    obtain⟨B,C,a,b,c,d⟩:=h;exact MG ⟨B,C,a,ih n b,c,d⟩
def all_cons{r:R}{x:α}:HP.all own (r::rs) (x::xs)= .two (own r x) (.all own rs xs):=rfl
def Qc{i:Nat}{r:R}{x:α}(h:(HP.all own rs xs).ok w A)(hr:rs[i]? =some r)(hx:xs[i]? =some x):(HP.two (own r x) (.but own i rs xs)).ok w A:=by
 have h1:=Zae i h;have e1:rs.drop i=r::rs.drop (i+1):=by
  grind[List.getElem?_eq_some_iff,List.drop_eq_getElem_cons]
 have e2:xs.drop i=x::xs.drop (i+1):=by
  grind[List.getElem?_eq_some_iff,List.drop_eq_getElem_cons]
 rw[e1,e2,all_cons]at h1;have h2:=MG h1;have h3:=PV (λA h=>Qm h) (λA h=>h) h2;obtain⟨B,C,⟨D,E,a,b,c,d⟩,e,f,g⟩:=h3;exact⟨D,λk=>E k\/C k,a,⟨E,C,b,e,λk h h'=>f k (d k (.inr h)) h',λ_ h=>h⟩,λk h h'=>h'.elim (c k h) (f k (d k (.inl h))),λk h=>g k (h.elim (λh=>.inl (d k (.inl h))) λh=>h.elim (λh=>.inl (d k (.inr h))) .inr)⟩
def EB{i:Nat}{r:R}{x:α}(hi:i<rs.length)(hi':i<xs.length)(h:(HP.two (own r x) (.but own i rs xs)).ok w A):(HP.all own (rs.set i r) (xs.set i x)).ok w A:=by
 have e1:rs.set i r=rs.take i++(r::rs.drop (i+1)):=by simp_all[ZfZ,Zei]
 have e2:xs.set i x=xs.take i++(x::xs.drop (i+1)):=by simp_all[ZfZ,Zei]
 rw[e1,e2];refine all_append ?_;have h1:=MG h;have h2:=PV (λA h=>Qm h) (λA h=>h) h1;obtain⟨B,C,⟨D,E,a,b,c,d⟩,e,f,g⟩:=h2;exact⟨D,λk=>E k\/C k,a,⟨E,C,b,e,λk h h'=>f k (d k (.inr h)) h',λ_ h=>h⟩,λk h h'=>h'.elim (c k h) (f k (d k (.inl h))),λk h=>g k (h.elim (λh=>.inl (d k (.inl h))) λh=>h.elim (λh=>.inl (d k (.inr h))) .inr)⟩
theorem Zcs{i:Nat}{r:R}{x:α}(hi:i<xs.length)(h:(HP.two (own r x) (.all own rs xs)).ok w A):(HP.all own (rs.set i r) (xs.set i x)).ok w A:=by
 have hl:=Sz (Tu h);refine EB O hi (PV (λ_ h=>h) (λA h=>?_) h);obtain⟨r0,hr0⟩:∃r0,rs[i]? =some r0:=⟨rs[i],Zef O⟩;obtain⟨x0,hx0⟩:∃x0,xs[i]? =some x0:=⟨xs[i],Zef hi⟩;exact Tu (Qc h hr0 hx0)
def Sy{i:Nat}{r:R}{x:α}(h:(HP.all own rs xs).ok w A)(hr:rs[i]? =some r)(hx:xs[i]? =some x):(own r x).ok w A:=SC (Qc h hr hx)
theorem Al{r:R}{x:α}(hr:∀w,(own r x).ok w Non)(n:Nat)(w:World):(HP.all own (List.replicate n r) (List.replicate n x)).ok w Non:=by
 induction n with
 |zero=>trivial
 |succ n ih=>exact PT (hr w) ih
end
section
variable{w w0:World}{S S0 F F0:Nat->Prop}{L:List HP}{P Q R:HP}
def Sep.cons_ok(h:Sep (P::L) w S):∃A B,P.ok w A/\Sep L w B/\(∀k,A k->B k->False)/\(∀k,A k->S k)/\∀k,B k->S k:=by
 obtain⟨A,B,h1,h2,h3,h4,h5⟩:=Sep.split (L1:=[P]) (L2:=L) h;obtain⟨C,g1,g2⟩:=h1.get 0 rfl;grind
theorem Sep.of_ok{A:Nat->Prop}(h:P.ok w A):Sep [P] w A:=⟨λi k=>i=0/\A k,λi Q hi=>by
  cases i with
  |zero=>simp_all
  |succ i=>simp at hi,λi j k hne hi hj=>hne (hi.1.trans hj.1.symm)⟩
theorem Sep.mk_cons{A B:Nat->Prop}(h1:P.ok w A)(h2:Sep L w B)(hd:∀k,A k->B k->False)(hA:∀k,A k->S k)(hB:∀k,B k->S k):Sep (P::L) w S:=
 Sep.join (L1:=[P]) (Sep.of_ok h1) h2 (λk _=>hd k) (λk _=>hA k) (λk _=>hB k)
def Sep.imp(h:Sep (P::L) w S)(hi:∀A,P.ok w A->Q.ok w A):Sep (Q::L) w S:=by
 obtain⟨A,B,h1,h2,h3,h4,h5⟩:=h.cons_ok;grind[Sep.mk_cons]
def Sep.emp(P:HP)(h:Sep L w S)(hp:P.ok w Non):Sep (P::L) w S:=Sep.mk_cons hp h (λ_ h=>h.elim) (λ_ h=>h.elim) λ_ h=>h
def Sep.swap(h:Sep (P::Q::L) w S):Sep (Q::P::L) w S:=by
 obtain⟨A,B,h1,h2,h3,h4,h5⟩:=h.cons_ok;obtain⟨C,D,g1,g2,g3,g4,g5⟩:=h2.cons_ok;exact Sep.mk_cons (B:=λk=>A k\/D k) g1 (Sep.mk_cons h1 g2 (λk h h'=>h3 k h (g5 k h')) (λ_ h=>.inl h) λ_ h=>.inr h) (λk h h'=>h'.elim (λh'=>h3 k h' (g4 k h)) (g3 k h)) (λk h=>h5 k (g4 k h)) λk h=>h.elim (h4 k) λh=>h5 k (g5 k h)
def Sep.under(h:Sep (P::L) w S){L':List HP}(hf:∀A,Sep L w A->Sep L' w A):Sep (P::L') w S:=by
 obtain⟨A,B,h1,h2,h3,h4,h5⟩:=h.cons_ok;grind[Sep.mk_cons]
def Sep.two(h:Sep (HP.two P Q::L) w S):Sep (P::Q::L) w S:=by
 obtain⟨A,B,⟨C,D,a,b,c,d⟩,h2,h3,h4,h5⟩:=h.cons_ok;refine Sep.mk_cons (S:=S) (B:=λk=>D k\/B k) a (Sep.mk_cons b h2 (λk h h'=>h3 k (d k (.inr h)) h') (λ_ h=>.inl h) λ_ h=>.inr h) (λk h h'=>h'.elim (c k h) (h3 k (d k (.inl h)))) (λk h=>h4 k (d k (.inl h))) λk h=>h.elim (λh=>h4 k (d k (.inr h))) (h5 k)
def Sep.join2(h:Sep (P::Q::L) w S):Sep (HP.two P Q::L) w S:=by
 obtain⟨A,B,h1,h2,h3,h4,h5⟩:=h.cons_ok;obtain⟨C,D,g1,g2,g3,g4,g5⟩:=h2.cons_ok;exact Sep.mk_cons (A:=λk=>A k\/C k) ⟨A,C,h1,g1,λk h h'=>h3 k h (g4 k h'),λ_ h=>h⟩ g2 (λk h h'=>h.elim (λh=>h3 k h (g5 k h')) λh=>g3 k h h') (λk h=>h.elim (h4 k) λh=>h5 k (g4 k h)) λk h=>h5 k (g5 k h)
theorem Sep.merge(h:Sep (P::Q::L) w S)(hi:∀A,(HP.two P Q).ok w A->R.ok w A):Sep (R::L) w S:=h.join2.imp hi
def Sep.open{ι:Type}{P:ι->HP}(h:Sep (HP.ex P::L) w S):∃i,Sep (P i::L) w S:=by
 obtain⟨A,B,⟨i,h1⟩,h2,h3,h4,h5⟩:=h.cons_ok;grind[Sep.mk_cons]
def Sep.shut{ι:Type}{P:ι->HP}(i:ι)(h:Sep (P i::L) w S):Sep (HP.ex P::L) w S:=h.imp λ_ h=>⟨i,h⟩
def Sep.fact{p:Prop}(h:Sep (HP.pure p::L) w S):p/\Sep L w S:=by
 obtain⟨A,B,h1,h2,h3,h4,h5⟩:=h.cons_ok;exact⟨h1,h2.mono λk _=>h5 k⟩
end
section
variable{w:World}{A:Nat->Prop}{R α:Type}[Flat R]{own:R->α->HP}{E:TypeId}{v:Value}{rs:List R}{xs:List α}
theorem Zba(h:(HP.two (SL E v rs) (.all own rs xs)).ok w A):∃a c,v= .slice a xs.length c:=by
 obtain⟨B,C,h1,h2,h3,h4⟩:=h;rw[<-Sz h2];rcases h1 with⟨go,h1⟩|⟨rfl,a,rfl⟩
 ·exact h1.slice
 simp
end
section
variable{w:World}{S:Nat->Prop}{L:List HP}{R α:Type}{own:R->α->HP}{rs:List R}{xs:List α}
def Sep.dlen(j:Nat)(h:Sep L w S)(hj:L[j]? =some (.all own rs xs)):rs.length=xs.length:=by
 obtain⟨A,h1,_⟩:=h.get j hj;grind[Sz]
end
section
variable{w:World}{A:Nat->Prop}{R α:Type}[Flat R][Rep α]{own:R->α->HP}{E:TypeId}{v:Value}{rs:List R}{xs:List α}
structure Owns(own:R->α->HP):Prop where
 sz:Rep.sz R=Rep.sz α
 agg:Rep.agg R=Rep.agg α
 rv:∀w A r x,(own r x).ok w A->Rep.ok w A (Flat.enc r) x
theorem HY(ho:Owns own)(h:(HP.two (SL E v rs) (.all own rs xs)).ok w A):RV w A v xs:=by
 obtain⟨B,C,h1,h2,h3,h4⟩:=h;have hl:=Sz h2;rcases h1 with⟨go,h1⟩|⟨rfl,a,rfl⟩
 ·obtain⟨F,css,g1,g2,g3,g4,g5⟩:=h1
  have hcss:Css w C css xs:=⟨g1.1.trans hl,λi cs x hcs hx=>by
   have hlt:i<rs.length:=by grind
   have:=g1.2 i cs rs[i] hcs (Zef hlt);rw[Flat.iff.1 this]
   exact ho.rv w C _ x (Sy h2 (Zef hlt) hx)⟩
  have hcb:Css w (λk=>C k/\k<w.heap.size) css xs:=hcss.keep λk hk hc=>⟨rfl,hc,hk⟩;have:OwnS w E go B C v xs:=⟨λk=>C k/\k<w.heap.size,css,hcb,by rw[<-ho.sz,<-hl];exact g2,g3,λg hg=>⟨(g4 g hg).1,λhc=>h3 g (g4 g hg).1 hc.1⟩,λk hk=>hk⟩;exact this.rv.sub λk _ hk=>hk.elim (λhk=>h4 k (.inl hk.2)) λhk=>h4 k (.inr hk)
 ·have:xs=[]:=Zfd hl.symm;subst this;exact RV.mk_slice (l:=([]:List α)) (Zes _) (Zfi _) λh=>absurd rfl h
end
end Go.GL
namespace Go.GL
open Go.RowKit
def mk?_raw{α β:Type}{n:Int}{z:α}{z':β}{r:List α}(h:mk? n z=some r):mk? n z'=some (List.replicate r.length z')/\r=List.replicate r.length z:=by
 grind[mk?]
def app?_raw{α β:Type}{l m r:List α}{l' m':List β}(h:app? l m=some r)(hl:l'.length=l.length)(hm:m'.length=m.length):app? l' m'=some (l'++m')/\r=l++m:=by
 simp_all[app?]
def set?_raw{α β:Type}{l r:List α}{l':List β}{i:Int}{x:α}(y:β)(h:set? l i x=some r)(hl:l'.length=l.length):set? l' i y=some (l'.set i.toNat y)/\r=l.set i.toNat x/\i.toNat<l.length:=by
 simp_all[set?]
section
variable{w:World}{S:Nat->Prop}{L:List HP}{R α:Type}{own:R->α->HP}{rs:List R}{xs:List α}
def Sep.focus{n:Int}{r:R}{z:α}(hs:Sep (HP.all own rs xs::L) w S)(hr:rs[n.toNat]? =some r)(hz:get? xs n=some z):Sep (own r z::HP.but own n.toNat rs xs::L) w S:=
 (hs.imp λ_ h=>Qc h hr (get?_at hz)).two
def Sep.fill{n:Int}{r:R}{z:α}{ys:List α}(hs:Sep (own r z::HP.but own n.toNat rs xs::L) w S)(hl:rs.length=xs.length)(hr:rs[n.toNat]? =some r)(hz:set? xs n z=some ys):Sep (HP.all own rs ys::L) w S:=by
 obtain⟨_,h2,h3⟩:=set?_raw (l':=xs) z hz rfl;have e:rs.set n.toNat r=rs:=by
  rw[Zej]at hr;obtain⟨h,rfl⟩:=hr;simp
 have:=hs.merge λA h=>EB O h3 h;simp_all
end
section
variable{P:Program}{ops:Array Oper}{Q:Exit->Act->World->Prop}{a:Act}{w w0:World}{S S0 F F0:Nat->Prop}{N:Nat}{σ:List (Nat×Value)}{k d:Nat}{t ty:TypeId}{x:Operand}{pos:String}{af:Array Edge}
  {L:List HP}{R α:Type}[Flat R]{own:R->α->HP}{E:TypeId}
end
section
variable{P:Program}{ops:Array Oper}{Q:Exit->Act->World->Prop}{a:Act}{w w0:World}{S S0 F F0:Nat->Prop}{N:Nat}{σ:List (Nat×Value)}{k d d':Nat}{t ty:TypeId}{x y:Operand}{pos:String}{af:Array Edge}
  {L:List HP}{R α:Type}[Flat R]{own:R->α->HP}{E:TypeId}{v u:Value}{rs rs2:List R}{xs ms:List α}
def Sep.relenD{b:Option Addr}{n c:Nat}(i j:Nat)(h:Sep L w S)(hi:L[i]? =some (SL E (.slice b n c) rs))(hj:L[j]? =some (HP.all own rs xs)):n=xs.length/\Sep (L.set i (SL E (.slice b xs.length c) rs)) w S:=by
 have h1:=h.relen i hi;have h2:=h.dlen j hj;simp_all
def Sep.freezeD[Rep α](ho:Owns own){F:Nat->Prop}(h:Sep (SL E v rs::HP.all own rs xs::L) w S)(hM:Mem w0 S0 F0 w S F):∃S' F',Mem w0 S0 F0 w S' F'/\Sep L w S'/\RV w F' v xs/\∀k,F k->F' k:=by
 obtain⟨S',F',a,b,c,d⟩:=Sep.freeze h.join2 hM;grind[HY]
end
end Go.GL
namespace Go.GL
open Go.RowKit
structure VW(sz:Nat)(b:Option Addr)(c:Nat)(lo:Int)(a':Option Addr)(c':Nat):Prop where
 nn:0<=lo
 addr:a'=(if c=lo.toNat then b else b.map (·.add (lo.toNat*sz)))
 cap:c'=c-lo.toNat
section
variable{P:Program}{ops:Array Oper}{Q:Exit->Act->World->Prop}{a:Act}{w w0:World}{S S0 F F0:Nat->Prop}{N:Nat}{σ:List (Nat×Value)}{k d d':Nat}{t ty:TypeId}{x y:Operand}{pos:String}{af:Array Edge}
  {L:List HP}{E:TypeId}
theorem Zbd{α:Type}[Rep α]{lo hi:Option Operand}{b:Option Addr}{n0 c:Nat}{l r:List α}{m n:Int}(he:Ty P E α)(ht:P.underlying t=some (.slice E))(ho:ops[k]? =some ⟨some d,.slice t x lo hi none,ty,pos,af,none⟩)(hd:Nat.blt d N=true)(hF:FrS N σ a)
  (hx:opd σ x=some (.slice b n0 c))(hl:RV w F (.slice b n0 c) l)(hlo:match lo with|none=>m=0|some y=>∃k,opd σ y=some (.int k m))(hhi:match hi with|none=>n=(l.length:Int)|some y=>∃k,opd σ y=some (.int k n))(hr:cut? l m n=some r)
  (h:∀a' c' fr,VW (Rep.sz α) b c m a' c'->m.toNat+r.length<=l.length->FrS N ((d,.slice a' (List.length r) c')::σ) fr->wpFrom P ops Q (k+1) fr w):wpFrom P ops Q k a w:=by
 have hr':=hr;unfold cut? at hr;split at hr
 ·rename_i hb;obtain⟨h0,h1,h2⟩:=hb;simp only[Option.some.injEq]at hr;have hlen:r.length=n.toNat-m.toNat:=by
   grind
  obtain⟨b',cap,hv,hc1,hc2,hc3⟩:=hl.slice;simp only[Value.slice.injEq]at hv;obtain⟨rfl,rfl,rfl⟩:=hv;refine Zu hF ho rfl rfl (Ze4.mp hd) (R:=λv w'=>v= .slice (if c=m.toNat then b else b.map (·.add (m.toNat*Rep.sz α))) (n.toNat-m.toNat) (c-m.toNat)/\w'=w) (Zh ?_ ⟨rfl,rfl⟩) λv w' fr hv hF'=>?_
  ·have hn2:n<=(c:Int):=by omega
   cases lo with
   | none=>
    simp only at hlo;subst hlo;cases hi with
    |none=>
     simp only at hhi;subst hhi;simp[execOp,Instr.sliceAt,Instr.slice,Instr.sliceBounds,Zd hF hx,run_underlying ht,he.sizeOf]
    |some y=>
     obtain⟨kk,hy⟩:=hhi;simp[execOp,Instr.sliceAt,Instr.slice,Instr.sliceBounds,Instr.sliceBound,asIntOf,Zd hF hx,Zd hF hy,run_underlying ht,he.sizeOf,h1,hn2]
   | some z=>
    obtain⟨kz,hz⟩:=hlo;cases hi with
    |none=>
     simp only at hhi;subst hhi;simp[execOp,Instr.sliceAt,Instr.slice,Instr.sliceBounds,Instr.sliceBound,asIntOf,Zd hF hx,Zd hF hz,run_underlying ht,he.sizeOf,h0,h1]
    |some y=>
     obtain⟨kk,hy⟩:=hhi;have h01:0<=n:=by omega
     simp[execOp,Instr.sliceAt,Instr.slice,Instr.sliceBounds,Instr.sliceBound,asIntOf,Zd hF hx,Zd hF hy,Zd hF hz,run_underlying ht,he.sizeOf,h0,h01,hn2]
     try omega
  ·obtain⟨rfl,rfl⟩:=hv;exact h _ _ fr ⟨h0,rfl,rfl⟩ O (by rw[hlen];exact hF')
 ·cases hr
end
end Go.GL
end
section
namespace Go.GL
open Go.RowKit
section
variable{w:World}{F:Nat->Prop}{α:Type}[Rep α]{b a':Option Addr}{n0 c c':Nat}{lo:Int}{l:List α}{n:Nat}
def CW(h:RV w F (.slice b n0 c) l)(hv:VW (Rep.sz α) b c lo a' c')(hn:lo.toNat+n<=l.length):RV w F (.slice a' n c') (vcut l lo n):=by
 obtain⟨b',cap,he,hc1,hc2,hc3⟩:=h.slice;obtain⟨rfl,rfl,rfl⟩:=he;obtain⟨h0,rfl,rfl⟩:=hv;have hlen:(vcut l lo n).length=n:=by grind[vcut,List.length_take,List.length_drop]
 have e:vcut l lo n=(l.take (lo.toNat+n)).drop lo.toNat:=by
  simp[vcut,Zgy]
 have key:RV w F (.slice (if c=lo.toNat then b else b.map (·.add (lo.toNat*Rep.sz α))) (vcut l lo n).length (c-lo.toNat)) (vcut l lo n):=by
  refine RV.mk_slice O O λhne=>?_;have hpos:0<n:=by
   grind
  have hlne:l≠[]:=by grind
  obtain⟨ad,rfl,hF,hel⟩:=hc3 hlne;rw[Zem O];refine⟨ad.add (lo.toNat*Rep.sz α),rfl,by simp_all[add_block],?_⟩;simp_all[Ir]
 simp_all
end
theorem Px{css:List (List Value)}{s:Nat}(h:∀c∈css,c.length=s)(p:Nat)(hp:p<=css.length):(css.take p).flatten=css.flatten.take (p*s)/\(css.drop p).flatten=css.flatten.drop (p*s)/\(css.take p).flatten.length=p*s:=by
 have key:∀(css:List (List Value)),(∀c∈css,c.length=s)->css.flatten.length=css.length*s:=by
  intro css
  induction css with
  |nil=>simp
  |cons c css ih=>
   grind
 have hl:(css.take p).flatten.length=p*s:=by
  grind
 grind[List.flatten_append,List.take_append_drop,List.take_left,List.drop_left]
def Zbt{cur cs:List Value}{a n:Nat}(h1:a+cs.length<=n)(h2:n<=cur.length):(cur.take a++cs++cur.drop (a+cs.length)).take n=(cur.take n).take a++cs++(cur.take n).drop (a+cs.length):=by
 apply ZeU;grind
section
variable{P:Program}{α:Type}[Flat α]{w:World}{E:TypeId}{go:Option Nat}{G:Nat->Prop}{v:Value}{l:List α}
def OwnS.put_run(h:OwnS w E go G Non v l){p:Nat}{m:List α}(hm:m≠[])(hp:p+m.length<=l.length):
  ∃g w',go=some g/\(∃c,v= .slice (some ⟨g,0,none⟩) l.length c)/\(storeCells ((⟨g,0,none⟩:Addr).add (p*Rep.sz α)) (m.map Flat.enc).flatten).run P w= .ok () w'/\OwnS w' E go G Non v (l.take p++m++l.drop (p+m.length))/\Chg (λk=>go=some k) w w':=by
 obtain⟨F,css,h1,h2,h3,h4,h5⟩:=h;have hpos:0<m.length:=by
  grind
 rcases h2.2 with⟨rfl,hz⟩|⟨g,cap,cur,rfl,hb,hg,hnc,hcm,hcs,htake⟩
 ·omega
 have hgo:go=some g:=by rw[<-h3];rfl
 have hcss:css=l.map Flat.enc:=by
  apply ZeU;intro i;rw[ZeL];by_cases hi:i<l.length
  ·have hi':i<css.length:=by rw[h1.1];exact hi
   rw[Zef hi,Zef hi'];exact congrArg some (Flat.iff.1 (h1.2 i css[i] l[i] (Zef hi') (Zef hi)))
  ·rw[ZeC (by rw[h1.1];omega),ZeC O];rfl
 subst hcss;have hlen:∀(x:List α),∀c∈x.map Flat.enc,c.length=Rep.sz α:=λx c hc=>by
  obtain⟨y,_,rfl⟩:=Zfz.1 hc;exact Rep.len (Flat.iff (w:=w) (F:=Non).2 rfl)
 have hone:∀z∈(m.map Flat.enc).flatten,z.oneCell'=true:=λz hz=>by
  obtain⟨c,hc,hzc⟩:=List.mem_flatten.1 hz;obtain⟨y,_,rfl⟩:=Zfz.1 hc;exact Rep.one (Flat.iff (w:=w) (F:=Non).2 rfl) z hzc
 have hml:(m.map Flat.enc).flatten.length=m.length*Rep.sz α:=by
  have:=(Px (hlen m) m.length U).2.2;simp_all[Zfa]
 have hcap:l.length*Rep.sz α<=cap*Rep.sz α:=Zfu _ hnc;have hoff:p*Rep.sz α+m.length*Rep.sz α<=l.length*Rep.sz α:=by
  rw[<-Zgi];simp_all[Zfu]
 have hrun:=run_storeCells_at (P:=P) g (p*Rep.sz α) E (m.map Flat.enc).flatten 0 cur w hg O hone;have haddr:(⟨g,0,none⟩:Addr).add (p*Rep.sz α)=⟨g,p*Rep.sz α,none⟩:=by simp_all[Addr.add]
 refine⟨g,w.setRow g (cur.toList.take (p*Rep.sz α)++(m.map Flat.enc).flatten++cur.toList.drop (p*Rep.sz α+(m.map Flat.enc).flatten.length)).toArray,hgo,⟨cap,rfl⟩,by simp_all,?_,⟨rfl,rfl,rfl,by simp,λk _ hn=>setRow_other w g k _ λe=>hn (by rw[hgo,e])⟩⟩;have hll:(l.take p++m++l.drop (p+m.length)).length=l.length:=by simp;omega
 refine⟨Non,(l.take p++m++l.drop (p+m.length)).map Flat.enc,Qd _,⟨?_,.inr ⟨g,cap,_,by rw[hll],hb,setRow_heap w g cur _ E _ hg,by omega,hcm,?_,?_⟩⟩,h3,λg' hg'=>⟨(h4 g' hg').1,id⟩,λ_ h=>h.elim⟩
 ·have:=(Px (hlen (l.take p++m++l.drop (p+m.length))) (l.take p++m++l.drop (p+m.length)).length U).2.2;rw[Zfa U]at this;exact this
 ·simp only[Zgb,Zeo,Ze1,Zex,Zfc];omega
 ·rw[hll];have hcl:cur.toList.length=cap*Rep.sz α:=by simpa using hcs
  rw[Zbt (by rw[hml];exact hoff) (by rw[hcl];exact hcap),htake,Zfj,Zfj,ZfT,ZfT,Zg4,List.map_drop,(Px (hlen l) p aa).1,(Px (hlen l) (p+m.length) aa).2.1,hml,<-Zgi]
end
section
variable{P:Program}{ops:Array Oper}{Q:Exit->Act->World->Prop}{a:Act}{w w0:World}{S S0 F F0:Nat->Prop}{N:Nat}{σ:List (Nat×Value)}{k d:Nat}{t ty:TypeId}{x y:Operand}{pos:String}{af:Array Edge}
  {L:List HP}{E:TypeId}{α:Type}[Flat α]{l m:List α}{b a':Option Addr}{n0 c c' n:Nat}{lo:Int}{u:Value}
theorem ZcJ{t':TypeId}{Fr:Nat->Prop}(i:Nat)(hs:Sep L w S)(hM:Mem w0 S0 F0 w S F)(hL:L[i]? =some (SL E (.slice b n0 c) l))(ht:P.underlying t=some (.slice E))(hE:Ty P E α)
  (hop:ops[k]? =some ⟨some d,.call ⟨.builtin .copy,#[x,y],#[t,t']⟩,ty,pos,af,none⟩)(hd:Nat.blt d N=true)(hF:FrS N σ a)(hx:opd σ x=some (.slice a' n c'))(hy:opd σ y=some u)(hu:RV w Fr u m)
  (hv:VW (Rep.sz α) b c lo a' c')(hn:lo.toNat+n<=l.length)
  (h:∀w' S' fr q,Sep (L.set i (SL E (.slice b n0 c) (vcopy l lo n m))) w' S'->Stp w S w' S'->FrS N ((d,q)::σ) fr->wpFrom P ops Q (k+1) fr w'):wpFrom P ops Q k a w:=by
 obtain⟨A,hok,hup⟩:=hs.upd i hL hM;obtain⟨ad,cap,rfl,hcap,hmax,hcells⟩:=hu.slice;by_cases hm:m.take n=[]
 ·
  have e:vcopy l lo n m=l:=by
   unfold vcopy;rw[hm];simp
  have hz:Nat.min m.length n=0:=by
   have:=congrArg List.length hm;grind
  obtain⟨S',hp,hs'⟩:=hup (w':=w) (P':=SL E (.slice b n0 c) (vcopy l lo n m)) (Chg.refl _ _) (by grind[HP.mono]);refine Zu hF hop rfl rfl (Ze4.mp hd) (R:=λ_ w'=>w'=w) (Zh (v:=goInt 0) (w':=w) ?_ rfl) λv w1 fr hw hF'=>by grind
  have e1:(min m.length n)=0:=hz;cases ad with
  |none=>cases a'<;>simp[execOp,resolve,invoke,builtin,Builtin.copy_,Zd hF hx,Zd hF hy,run_underlying ht,Builtin.lenOf,Builtin.firstCells,hE.sizeOf,e1,storeCells]
  |some ad=>cases a'<;>simp[execOp,resolve,invoke,builtin,Builtin.copy_,Zd hF hx,Zd hF hy,run_underlying ht,Builtin.lenOf,Builtin.firstCells,hE.sizeOf,e1,storeCells,loadCells,loadCellsFrom]
 ·have hpos:0<(m.take n).length:=by
   grind
  have hml:(m.take n).length=min m.length n:=by grind
  rcases hok with⟨go,ho⟩|⟨rfl,q,hq⟩
  ·obtain⟨g,w',hgo,⟨c2,hv2⟩,hrun,ho',hc⟩:=ho.put_run (P:=P) (p:=lo.toNat) (m:=m.take n) hm O;simp only[Value.slice.injEq]at hv2;obtain⟨rfl,rfl,rfl⟩:=hv2;have hca:c≠lo.toNat:=by
    obtain⟨_,cap',he',hl',_⟩:=ho.rv.slice;grind
   have ha':a'=some ((⟨g,0,none⟩:Addr).add (lo.toNat*Rep.sz α)):=by rw[hv.addr,Zem hca];rfl
   have hmne:m≠[]:=by simp_all
   obtain⟨ad,rfl,_,hel⟩:=hcells hmne;obtain⟨css,g1,g2⟩:=SE hel;have hcss:css=m.map Flat.enc:=by
    apply ZeU;intro i;rw[ZeL];by_cases hi:i<m.length
    ·have hi':i<css.length:=by rw[g1.1];exact hi
     rw[Zef hi,Zef hi'];exact congrArg some (Flat.iff.1 (g1.2 i css[i] m[i] (Zef hi') (Zef hi)))
    ·rw[ZeC (by rw[g1.1];omega),ZeC O];rfl
   subst hcss;have hlen:∀c∈m.map Flat.enc,c.length=Rep.sz α:=λc hc=>by
    obtain⟨y,_,rfl⟩:=Zfz.1 hc;exact Rep.len (Flat.iff (w:=w) (F:=Non).2 rfl)
   have hfc:=Px hlen (min m.length n) aa;have hmt:m.take n=m.take (min m.length n):=by
    rw[List.take_eq_take_iff];omega
   have hcl:((m.take n).map Flat.enc).flatten=(m.map Flat.enc).flatten.take (min m.length n*Rep.sz α):=by rw[hmt,Zg4,hfc.1]
   have hll:(((m.take n).map Flat.enc).flatten).length=min m.length n*Rep.sz α:=by rw[hmt,Zg4,hfc.2.2]
   have hload:(loadCells ad (min m.length n*Rep.sz α)).run P w= .ok (((m.take n).map Flat.enc).flatten).toArray w:=by
    rw[<-hll];refine run_loadCells_list w ad _ λj v hj=>?_;rw[hcl,ZeO]at hj;split at hj
    ·simpa using g2 j v hj
    ·cases hj
   obtain⟨S',hp,hs'⟩:=hup (w':=w') (P':=SL E (.slice (some ⟨g,0,none⟩) l.length c) (vcopy l lo n m)) (hc.mono λk hk=>ho.inG hk) (.inl ⟨go,ho'.regard λk _ hk=>.inl hk⟩);refine Zu hF hop rfl rfl (Ze4.mp hd) (R:=λ_ w1=>w1=w') (Zh (v:=goInt ((Nat.min m.length n:Nat):Int)) (w':=w') ?_ rfl) λv w1 fr hw hF'=>by subst hw;exact h _ S' fr v hs' hp hF'
   subst ha';rw[Zg4]at hrun hload;simp[execOp,resolve,invoke,builtin,Builtin.copy_,Zd hF hx,Zd hF hy,run_underlying ht,Builtin.lenOf,Builtin.firstCells,hE.sizeOf,hload,hrun]
  simp_all
end
end Go.GL
namespace Go.GL
open Go.RowKit
section
variable{P:Program}{ops:Array Oper}{Q:Exit->Act->World->Prop}{a:Act}{w w0:World}{S S0 F F0:Nat->Prop}{N:Nat}{σ:List (Nat×Value)}{k:Nat}{t ty:TypeId}{x:Operand}{pos:String}{af:Array Edge}
  {L:List HP}{E:TypeId}{α:Type}[Flat α]{l:List α}{b a':Option Addr}{n0 c c' n:Nat}{lo:Int}
end
end Go.GL
end
section
namespace Go.GL
open Go.RowKit
def Sep.swapT{w:World}{S:Nat->Prop}{L:List HP}{Q Q':HP}(i:Nat)(h:Sep L w S)(hi:L[i]? =some Q)(f:∀A,Q.ok w A->Q'.ok w A):Sep (L.set i Q') w S:=by
 obtain⟨g,h1,h2⟩:=h;refine⟨g,λj R hj=>?_,h2⟩;grind
def TL(E:TypeId)(v:Value)(l:List Int):HP where
 ok w A:=(∃g c lo a' c' base,OwnS w E (some g) A Non (.slice (some ⟨g,0,none⟩) base.length c) base/\VW 1 (some ⟨g,0,none⟩) c lo a' c'/\lo.toNat+l.length=base.length/\l=base.drop lo.toNat/\v= .slice a' l.length c')\/(l=[]/\∃a,v= .slice a 0 0)
 mono:=λh hA=>by
  rcases h with⟨g,c,lo,a',c',base,h,r⟩|h
  ·exact .inl ⟨g,c,lo,a',c',base,h.regard hA,r⟩
  simp_all
 keep:=λh hc hT=>by
  rcases h with⟨g,c,lo,a',c',base,h,r⟩|h
  ·exact .inl ⟨g,c,lo,a',c',base,h.chg hc (λk _ hk=>hT k hk) (λ_ h=>h.elim),r⟩
  simp_all
def VW.zero{b:Option Addr}{c:Nat}:VW 1 b c 0 b c:=by
 refine⟨ZeH _,?_,by simp⟩;simp[Addr.add]
def CE{E:TypeId}{v:Value}{l:List Int}{w:World}{A:Nat->Prop}(h:(SL E v l).ok w A):(TL E v l).ok w A:=by
 rcases h with⟨go,h⟩|h
 ·have h':=h;obtain⟨F,css,h1,h2,h3,h4,h5⟩:=h';rcases h2.2 with⟨hn,hz⟩|⟨g,cap,cur,hv,rest⟩
  ·exact .inr ⟨Zfd hz,_,hn⟩
  ·subst hv;have hgo:go=some g:=by rw[<-h3];rfl
   subst hgo;exact .inl ⟨g,cap,0,_,cap,l,h,VW.zero,by simp,by simp,rfl⟩
 ·exact .inr h
def Sep.toT{w:World}{S:Nat->Prop}{L:List HP}{E:TypeId}{v:Value}{l:List Int}(i:Nat)(h:Sep L w S)(hi:L[i]? =some (SL E v l)):Sep (L.set i (TL E v l)) w S:=h.swapT i hi λ_=>CE
def Io{E:TypeId}{v:Value}{l:List Int}{w:World}{A:Nat->Prop}(h:(TL E v l).ok w A):RV w A v l:=by
 rcases h with⟨g,c,lo,a',c',base,h1,h2,h3,h4,rfl⟩|⟨rfl,a,rfl⟩
 ·have hr:=h1.rv.sub (F':=A) λk _ hk=>hk.elim (λhk=>hk.2) λhk=>hk.elim;have:=CW (n:=l.length) hr h2 O;grind[vcut,List.take_length]
 ·exact RV.mk_slice (l:=([]:List Int)) (Zes _) (Zfi _) λh=>absurd rfl h
def Zd5{E:TypeId}{w:World}{A:Nat->Prop}{b a':Option Addr}{n c c':Nat}{l r:List Int}{m:Int}(h:(TL E (.slice b n c) l).ok w A)(hv:VW 1 b c m a' c')(hm:m.toNat+r.length=l.length)(hr:r=l.drop m.toNat):(TL E (.slice a' r.length c') r).ok w A:=by
 obtain⟨h0,hadd,hcap⟩:=hv;by_cases e:c=m.toNat
 ·
  have hrn:r.length=0:=by
   rcases h with⟨g,c0,lo,a0,c1,base,h1,h2,h3,h4,h5⟩|⟨rfl,a,h5⟩
   ·simp only[Value.slice.injEq]at h5;obtain⟨rfl,rfl,rfl⟩:=h5;have hb:=h1.rv.slice;obtain⟨_,cc,hq,hle,_⟩:=hb;simp only[Value.slice.injEq]at hq;obtain⟨_,_,rfl⟩:=hq;have:=h2.cap;omega
   simp_all
  have:r=[]:=Zfd hrn;subst this;exact .inr ⟨rfl,a',by simp_all⟩
 ·rcases h with⟨g,c0,lo,a0,c1,base,h1,h2,h3,h4,h5⟩|⟨rfl,a,h5⟩
  ·simp only[Value.slice.injEq]at h5;obtain⟨k0,kadd,kcap⟩:=h2;have hlo:(lo+m).toNat=lo.toNat+m.toNat:=by omega
   refine .inl ⟨g,c0,lo+m,a',c',base,h1,⟨by omega,?_,by omega⟩,by omega,by simp_all,rfl⟩;by_cases e2:c0=lo.toNat
   ·
    obtain⟨_,cc,hq,hle,_⟩:=h1.rv.slice;grind
   ·grind[add_add,Nat.add_mul]
  grind
theorem SH(l:List Int):(l.map Flat.enc).flatten=l.map (Value.int .i64):=by
 induction l with
 |nil=>rfl
 |cons x l ih=>rw[ZeQ,Zf3,ih];rfl
def Ec{w:World}{F:Nat->Prop}{css:List (List Value)}{l:List Int}(h1:Css w F css l):css=l.map Flat.enc:=by
 apply ZeU;intro i;rw[ZeL];by_cases hi:i<l.length
 ·have hi':i<css.length:=by rw[h1.1];exact hi
  rw[Zef hi,Zef hi'];exact congrArg some (Flat.iff.1 (h1.2 i css[i] l[i] (Zef hi') (Zef hi)))
 ·rw[ZeC (by rw[h1.1];omega),ZeC O];rfl
def cell_of{w:World}{g:Nat}{cur:Array Value}{E:TypeId}(hg:w.heap[g]? =some (.cells cur E (0,0)))(j:Nat):w.cell? ⟨g,j,none⟩=cur[j]?:=by simp_all[World.cell?]
theorem BG{P:Program}{t ty E:TypeId}{w:World}{A:Nat->Prop}{v u:Value}{l m:List Int}(h:(TL E v l).ok w A)(ht:P.underlying t=some (.slice E))(hE:ElT P E Int){Fr:Nat->Prop}(hu:RV w Fr u m)(hroom:l.length+m.length<=room):
  ∃a' c' w' T,(Builtin.append_ #[t,t] ty #[v,u]).run P w= .ok (.slice a' (l++m).length c') w'/\(TL E (.slice a' (l++m).length c') (l++m)).ok w' (λk=>A k\/w.heap.size<=k)/\Chg T w w'/\∀k,T k->A k:=by
 rcases h with⟨g,c,lo,a',c',base,ho,hv,h3,h4,rfl⟩|⟨rfl,b,rfl⟩
 ·obtain⟨F,css,h1,h2,hob,hgo,h5⟩:=ho;have hcss:=Ec h1;subst hcss;have hsI:Rep.sz Int=1:=rfl;rcases h2.2 with⟨hn0,_⟩|⟨g0,cap,cur,hv0,hb,hg,hnc,hcm,hcs,htake⟩
  ·cases hn0
  simp only[Value.slice.injEq,Option.some.injEq,Addr.mk.injEq]at hv0;obtain⟨⟨rfl,_⟩,_,rfl⟩:=hv0;rw[hsI,Zgj]at hcs;rw[hsI,Zgj,SH]at htake;obtain⟨i,z,hi,hz,hsz,hzs,hby⟩:=hE.out;obtain⟨ua,ucap,rfl,hcap,hmax,hcells⟩:=hu.slice;obtain⟨v0,vadd,vcap⟩:=hv;unfold room at hroom;obtain⟨off,ha',hoff⟩:∃off,a'=some ⟨g,off,none⟩/\(c≠lo.toNat->off=lo.toNat):=by
   by_cases e:c=lo.toNat
   ·simp_all
   ·refine⟨lo.toNat, ?_,λ_=>rfl⟩;rw[vadd,Zem e];grind[Addr.add]
  subst ha';by_cases hm:m=[]
  ·subst hm;refine⟨some ⟨g,off,none⟩,c',w,Non,?_,?_,Chg.refl _ _,λk hk=>hk.elim⟩
   ·have hle:l.length<=c':=by omega
    cases ua with
    |none=>simp[Builtin.append_,run_underlying ht,sizeOf,typeInfo,hi,Builtin.lenOf,Builtin.firstCells,storeCells,hle]
    |some ad=>simp[Builtin.append_,run_underlying ht,sizeOf,typeInfo,hi,Builtin.lenOf,Builtin.firstCells,storeCells,loadCells,loadCellsFrom,hle]
   ·rw[ZeM];refine .inl ⟨g,c,lo,_,c',base,?_,⟨v0,vadd,vcap⟩,h3,h4,rfl⟩;exact OwnS.regard (G:=A) ⟨F,_,h1,h2,hob,hgo,h5⟩ λk _ hk=>.inl hk
  ·obtain⟨ad,rfl,_,he⟩:=hcells hm;obtain⟨cssm,g1,g2⟩:=SE he;have hcm2:=Ec g1;subst hcm2;rw[SH]at g2;have hpos:0<m.length:=List.length_pos_iff.2 hm;have hl1:(m.map (Value.int .i64)).length=m.length*i.size:=by rw[hsz,hsI];simp
   have hone:∀u∈m.map (Value.int .i64),u.oneCell'=true:=λu hu=>by
    obtain⟨x,_,rfl⟩:=Zfz.1 hu;rfl
   have hnews:∀j u,(m.map (Value.int .i64))[j]? =some u->w.cell? (ad.add j)=some u:=λj u hu=>by simpa using g2 j u hu
   by_cases hr:l.length+m.length<=c'
   ·have hne:c≠lo.toNat:=by omega
    obtain rfl:=hoff hne;have hfc:=run_firstCells_some (P:=P) w i.size m.length ad m.length ucap (m.map (Value.int .i64)) hl1 hnews;have hst:=run_storeCells_at (P:=P) g (lo.toNat+l.length) E (m.map (Value.int .i64)) 0 cur w hg aa hone;simp only[ZgC]at hst;have hoffs:lo.toNat+l.length*i.size=lo.toNat+l.length:=by rw[hsz,hsI,Zgj]
    refine⟨some ⟨g,lo.toNat,none⟩,c',w.setRow g (List.take (lo.toNat+l.length) cur.toList++m.map (Value.int .i64)++List.drop (lo.toNat+l.length+(m.map (Value.int .i64)).length) cur.toList).toArray,λk=>k=g,?_,?_,⟨rfl,rfl,rfl,by simp,λk _ hn=>setRow_other w g k _ λe=>hn (by rw[e])⟩,λk hk=>hk▸(hgo g rfl).1⟩
    ·rw[Zeo];simp[Builtin.append_,run_underlying ht,sizeOf,typeInfo,hi,Builtin.lenOf,hr,hfc,Addr.add_lit,hoffs,hst]
    ·have hbm:(base++m).length=base.length+m.length:=Zeo;refine .inl ⟨g,c,lo,_,c',base++m,⟨Non,(base++m).map Flat.enc,Qd _,⟨?_,.inr ⟨g,c,_,rfl,hb,setRow_heap w g cur _ E _ hg,by omega,hcm,?_,?_⟩⟩,rfl,λg' hg'=>⟨.inl ?_,id⟩,λ_ h=>h.elim⟩,⟨v0,vadd,vcap⟩,by rw[hbm,Zeo];omega,?_,rfl⟩
     ·rw[SH,hsI,Zgj,Zf5]
     ·rw[hsI];simp;omega
     ·rw[hsI,Zgj,SH,Zfj,hbm,h3,<-htake];have hlt:(cur.toList.take base.length).length=base.length:=by simp;omega
      simp only[Zez];rw[List.take_append,hlt];simp[List.take_take]
     ·obtain rfl:=Option.some.inj hg';exact(hgo _ rfl).1
     ·rw[h4,List.drop_append_of_le_length O]
   ·obtain⟨v',w',hrun,hrow,hgr⟩:=run_append_arg_grows (P:=P) w t ty E i z (Rep.sz Int) i.bytes ht hi hz hsz rfl hzs Rep.pos ⟨g,off,none⟩ l.length c' (l.map (Value.int .i64)) (by rw[hsI];simp) (λj u hu=>by
      have hj:j<l.length:=by simpa using(Zej.1 hu).1
      have hne:c≠lo.toNat:=by
       have:=hnc;omega
      obtain rfl:=hoff hne;have hadd:(⟨g,lo.toNat,none⟩:Addr).add j=⟨g,lo.toNat+j,none⟩:=by unfold Addr.add;split<;>simp_all
      rw[hadd,cell_of hg];have:=congrArg (λx=>x[lo.toNat+j]?) htake;simp only[ZfW (show lo.toNat+j<base.length by omega),ZfH]at this
      rw[this,<-hu,h4,ZeL,ZeL,Zfb]) ad m.length ucap (m.map (Value.int .i64)) (by rw[hsI];simp) hnews O (by simp only[maxLen];omega) (by
      have:(l.length+m.length)*i.bytes<=4294967296*32768:=ZgO hroom hby
      omega)
    have hrow':=hrow;rcases hrow.2 with⟨_,h0⟩|⟨g',cap',cur',rfl,hb',rest⟩
    ·omega
    ·have hlm:l.length+m.length=(l++m).length:=Zeo.symm;rw[hlm]at hrun hrow';refine⟨_,cap',w',Non,hrun,CE (.inl ⟨some g',Non,(l++m).map Flat.enc,Qd _,⟨?_,.inr ⟨g',cap',cur',rfl,Zfi _,?_⟩⟩,rfl,λg'' hg''=>⟨.inr ?_,id⟩,λ_ h=>h.elim⟩),⟨hgr.os,hgr.tape,hgr.output,hgr.size,λk hk _=>hgr.block k hk U⟩,λk hk=>hk.elim⟩
     ·rw[SH,hsI,Zgj,Zf5]
     ·rw[SH,Zfj,<-hlm];exact rest
     ·obtain rfl:=Option.some.inj hg'';exact hb'
 ·obtain⟨v',w',hrun,hok,hc⟩:=Ti (P:=P) (ty:=ty) (v:=b) ht hE hu (by simpa using hroom);have hsl:∃a' c',v'= .slice a' (List.length m) c':=by
   rcases hok with⟨go,ho⟩|⟨rfl,a',rfl⟩
   ·exact ho.slice
   ·exact⟨a',0,rfl⟩
  obtain⟨a',c',rfl⟩:=hsl;exact⟨a',c',w',Non,by simpa using hrun,by simpa using(TL E _ m).mono (CE hok) λk _ hk=>.inr hk,hc,λk hk=>hk.elim⟩
section
variable{P:Program}{ops:Array Oper}{Q:Exit->Act->World->Prop}{a:Act}{w w0:World}{S S0 F F0:Nat->Prop}{N:Nat}{σ:List (Nat×Value)}{k d:Nat}{t t' ty E:TypeId}{x y:Operand}{pos:String}{af:Array Edge}
  {L:List HP}
def Bz{y':Operand}{Fr:Nat->Prop}{v u:Value}{l m:List Int}(i:Nat)(hs:Sep L w S)(hM:Mem w0 S0 F0 w S F)(hL:L[i]? =some (TL E v l))(ht:P.underlying t=some (.slice E))(hE:ElT P E Int)
  (hop:ops[k]? =some ⟨some d,.call ⟨.builtin .append,#[x,y'],#[t,t']⟩,ty,pos,af,none⟩)(htt:t'=t)(hd:Nat.blt d N=true)(hF:FrS N σ a)(hx:opd σ x=some v)(hy:opd σ y'=some u)(hu:RV w Fr u m)
  {r:List Int}(hr:app? l m=some r)
  (h:∀a' c' w' S' fr,Sep (L.set i (TL E (.slice a' (List.length r) c') r)) w' S'->Stp w S w' S'->FrS N ((d,.slice a' (List.length r) c')::σ) fr->wpFrom P ops Q (k+1) fr w'):wpFrom P ops Q k a w:=by
 obtain⟨A,hok,hup⟩:=hs.upd i hL hM;subst htt;unfold app? at hr;split at hr
 ·rename_i hroom;obtain⟨a',c',w',T,hrun,hok',hc,hT⟩:=BG (ty:=ty) hok ht hE hu hroom;refine Zu hF hop rfl rfl (Ze4.mp hd) (R:=λz w1=>z= .slice a' (List.length (l++m)) c'/\w1=w') (Zh ?_ ⟨rfl,rfl⟩) λz w1 fr hz hF'=>?_
  ·simp[execOp,resolve,invoke,builtin,Zd hF hx,Zd hF hy,hrun]
  ·obtain⟨S',hp,hs'⟩:=hup (hc.mono hT) hok';grind
 ·cases hr
def Cells.ext{w':World}{ad:Addr}{cs:List Value}(h:Cells w ad cs)(hc:Chg Non w w'):Cells w' ad cs:=λj u hu=>by
 have h1:=h j u hu;have hb:(ad.add j).block<w.heap.size:=by
  grind[World.cell?,Array.getElem?_eq_none]
 rw[<-h1];unfold World.cell?;rw[hc.block _ hb id]
theorem LX{t j:Nat}{b:Bool}{o:Oper}(hF:FrS N σ a)(ho:ops[j]? =some o)(hd:o.dst=some t)(ht:Nat.blt t N=true)(hv:opd σ (.tmp t)=some (.bool b)):yielded ops a.tmps j=some b:=by
 have h1:=Zd hF hv;have h2:=hF.size;simp_all[bool,Zff,Act.eval,yielded,Zee]
theorem ES{ops ops':Array Oper}(hy:∀j:Nat,(ops[j]?).bind (·.dst)=(ops'[j]?).bind (·.dst)):∀(l:List Oper),wpList P ops Q l=wpList P ops' Q l:=by
 intro l
 induction l with
 |nil=>rfl
 | cons o l ih=>
  funext a w;have:yielded ops a.tmps=yielded ops' a.tmps:=by
   grind[yielded]
  simp_all[wpList]
def Zaw{g t:Nat}{want:Bool}{o og:Oper}(hF:FrS N σ a)(ho:ops[k]? =some o)(hg:o.guard=some (g,want))(hog:ops[g]? =some og)(ht:og.dst=some t)(htN:Nat.blt t N=true)(hv:opd σ (.tmp t)=some (.bool want))
  (h:wpFrom P (ops.toList.set k {o with guard:=none}).toArray Q k a w):wpFrom P ops Q k a w:=by
 have hk:k<ops.toList.length:=by grind
 have e:ops.toList[k]=o:=by
  grind
 have hw:Region.wanted o (yielded ops a.tmps)=true:=by
  grind[Region.wanted,LX]
 unfold wpFrom at h⊢;have hy:∀j:Nat,(ops[j]?).bind (·.dst)=((ops.toList.set k {o with guard:=none}).toArray[j]?).bind (·.dst):=λj=>by
  grind
 have hdrop:(ops.toList.set k {o with guard:=none}).toArray.toList.drop k={o with guard:=none}::ops.toList.drop (k+1):=by
  grind[List.drop_eq_getElem_cons,List.drop_set_of_lt]
 rw[hdrop]at h;rw[Ze8 hk,e];unfold wpList at h⊢;rw[Zei hw];rw[Zei ar,<-ES hy]at h;exact h
def Dl{l:List Oper}{g t:Nat}{want:Bool}{o og:Oper}(hF:FrS N σ a)(ho:l[k]? =some o)(hg:o.guard=some (g,want))(hog:l[g]? =some og)(ht:og.dst=some t)(htN:Nat.blt t N=true)(hv:opd σ (.tmp t)=some (.bool want))
  (h:wpFrom P (l.set k {o with guard:=none}).toArray Q k a w):wpFrom P l.toArray Q k a w:=
 Zaw hF ag hg ag ht htN hv h
def BR{g t d:Nat}{want b:Bool}{o og:Oper}(hF:FrS N σ a)(ho:ops[k]? =some o)(hg:o.guard=some (g,want))(hog:ops[g]? =some og)(ht:og.dst=some t)(htN:Nat.blt t N=true)(hv:opd σ (.tmp t)=some (.bool b))(hb:(b==want)=false)
  (hd:o.dst=some d)(hdN:Nat.blt d N=true)(h:∀fr,FrS N ((d,undef)::σ) fr->wpFrom P ops Q (k+1) fr w):wpFrom P ops Q k a w:=by
 have hk:k<ops.toList.length:=by grind
 have e:ops.toList[k]=o:=by
  grind
 have hw:Region.wanted o (yielded ops a.tmps)=false:=by
  simpa[Region.wanted,hg,LX hF hog ht htN hv]using hb
 unfold wpFrom at h⊢;rw[Ze8 hk,e];unfold wpList;have:=h _ (hF.put (Ze4.mp hdN) undef);simp_all
def Mr{β:Type}{b:Bool}{x y r:β}(h:(if b=true then x else y)=r):(b=true/\x=r)\/(b=false/\y=r):=by
 grind
def Au{b:Bool}{c:Operand}{v:Value}(ho:ops[k]? =some ⟨some d,.pick c x y,ty,pos,af,none⟩)(hd:Nat.blt d N=true)(hF:FrS N σ a)(hc:opd σ c=some (.bool b))(hv:opd σ (if b then x else y)=some v)
  (h:∀fr,FrS N ((d,v)::σ) fr->wpFrom P ops Q (k+1) fr w):wpFrom P ops Q k a w:=by
 refine Zu hF ho rfl rfl (Ze4.mp hd) (R:=λz w'=>z=v/\w'=w) (Zh (v:=v) (w':=w) ?_ ⟨rfl,rfl⟩) λz w' fr hz hF'=>?_
 ·have h1:=Zd hF hc;have h2:=Zd hF hv;cases b<;>simp_all[execOp,asBool]
 simp_all
end
def Bp{P:Program}{a b c:Str}(h:cat? a b=some c)(t:TypeId)(w:World):(binOp .add t a.val b.val).run P w= .ok c.val w:=by
 unfold cat? at h;split at h
 ·have e:(⟨a.bytes.toArray⟩:ByteArray)++(⟨b.bytes.toArray⟩:ByteArray)=⟨(a.bytes++b.bytes).toArray⟩:=by
   rfl
  simp_all[ByteArray.size,Str.val,binOp,Op.stringOp,Zem]<;>grind
 ·cases h
section
variable{P:Program}{ops:Array Oper}{Q:Exit->Act->World->Prop}{a:Act}{w:World}{N:Nat}{σ:List (Nat×Value)}{k d:Nat}{t t' yt ty E:TypeId}{x y:Operand}{pos:String}{af:Array Edge}{s1 s2 s3:Str}{F:Nat->Prop}
def Zeb(ho:ops[k]? =some ⟨some d,.binOp .add t x y yt,ty,pos,af,none⟩)(hd:Nat.blt d N=true)(hF:FrS N σ a)(hx:opd σ x=some s1.val)(hy:opd σ y=some s2.val)(hz:cat? s1 s2=some s3)
  (h:∀fr,FrS N ((d,s3.val)::σ) fr->wpFrom P ops Q (k+1) fr w):wpFrom P ops Q k a w:=MU ho hd hF hx hy ar (Bp hz _ _) h
theorem EM(l:List Byt):∀s:ByteArray,(l.map (·.n)).foldl (λr n=>r.push (UInt8.ofNat n.toNat)) s=⟨(s.data.toList++(strOf l).bytes).toArray⟩:=by
 induction l with
 |nil=>simp[strOf]
 |cons b l ih=>
  simp_all[ZeQ,Zgk,strOf,ByteArray.push]
theorem Aj{v:Value}{l:List Byt}(ht:P.underlying t=some (.slice E))(hE:P.underlying E=some (.int .u8))(ht':P.underlying t'=some .string)(hl:RV w F v l):(convert t t' v).run P w= .ok (strOf l).val w:=by
 obtain⟨ad,cap,rfl,hcap,hmax,hcells⟩:=hl.slice;rw[run_convert_bytes_string w t t' E ad l.length cap ht hE ht'];by_cases hm:l=[]
 ·subst hm;cases ad with
  |none=>rfl
  |some ad=>
   rfl
 ·obtain⟨a',rfl,_,he⟩:=hcells hm;obtain⟨css,g1,g2⟩:=SE he;have hcss:css=l.map Flat.enc:=by
   apply ZeU;intro i;rw[ZeL];by_cases hi:i<l.length
   ·have hi':i<css.length:=by rw[g1.1];exact hi
    rw[Zef hi,Zef hi'];exact congrArg some (Flat.iff.1 (g1.2 i css[i] l[i] (Zef hi') (Zef hi)))
   ·rw[ZeC (by rw[g1.1];omega),ZeC O];rfl
  subst hcss;have hfl:(l.map Flat.enc).flatten=(l.map (·.n)).map (Value.int .u8):=by
   clear g1 g2 he hcells hm hcap hl
   induction l with
   |nil=>rfl
   |cons b l ih=>rw[ZeQ,Zf3,ih];rfl
  have hc:∀j u,((l.map (·.n)).map (Value.int .u8))[j]? =some u->w.cell? (a'.add j)=some u:=λj u hu=>by grind
  have:=run_loadCells_list (P:=P) w a' _ hc;have hlen:((l.map (·.n)).map (Value.int .u8)).length=l.length:=by simp
  rw[hlen]at this;rw[run_bytesToString w a' _ cap (l.map (·.n)) this,EM];rfl
def EY{v:Value}{l:List Byt}(ht:P.underlying t=some (.slice E))(hE:P.underlying E=some (.int .u8))(ht':P.underlying t'=some .string)(ho:ops[k]? =some ⟨some d,.convert t t' x,ty,pos,af,none⟩)(hd:Nat.blt d N=true)(hF:FrS N σ a)(hx:opd σ x=some v)(hl:RV w F v l)
  (h:∀fr,FrS N ((d,(strOf l).val)::σ) fr->wpFrom P ops Q (k+1) fr w):wpFrom P ops Q k a w:=by
 refine Zu hF ho rfl rfl (Ze4.mp hd) (R:=λz w'=>z=(strOf l).val/\w'=w) (Zh (v:=(strOf l).val) (w':=w) ?_ ⟨rfl,rfl⟩) λz w' fr hz hF'=>?_
 ·simp[execOp,Zd hF hx,Aj ht hE ht' hl]
 simp_all
end
section
variable{P:Program}{draw:Bool}{ms:List Nat}{ops:Array Oper}{a0:Act}{w0:World}{Q:Exit->Act->World->Prop}{pds:List Pd}{σ:List (Nat×Value)}{N j:Nat}{dst:Option Tmp}{g:Option (Nat×Bool)}
  {t yt ty:TypeId}{x y:Operand}{pos:String}{af:Array Edge}{s1 s2 s3:Str}
def Zd0(hG:Good ops pds [])(hF:FrS N σ a0)(ho:ops[j]? =some ⟨dst,.binOp .add t x y yt,ty,pos,af,g⟩)(hx:envP ops σ pds j x=some s1.val)(hy:envP ops σ pds j y=some s2.val)
  (hz:gc ops pds ops.size j->cat? s1 s2=some s3)(hpd:pds.getD j .any= .eq s3.val):NPB P draw ms ops pds a0 w0 Q j:=Zb0 hG hF ho hx hy (λw=>by rfl) (λh w=>Bp (hz h) _ w) hpd
end
open Go.RowKit Go.Sort
structure TB(P:Program)(name:String)(k:IntKind)(zs:List Int)(w:World)(F:Nat->Prop):Prop where
 tab:Lib.TabIs P w name k zs
 blk:∃g,P.globalNamed name=some g/\F g
section
variable{P:Program}{name:String}{k:IntKind}{zs:List Int}{w w' w0:World}{S S0 S' F F0 F':Nat->Prop}
def TB.lt(h:TB P name k zs w F){g:Nat}(hg:P.globalNamed name=some g):g<w.heap.size:=by
 have h1:=h.tab;grind[Lib.TabIs,World.var?,Array.getElem?_eq_none]
def TB.chg(h:TB P name k zs w F)(hc:Chg S w w')(hd:∀j,F j->¬S j):TB P name k zs w' F:=by
 obtain⟨g,hg,hF⟩:=h.blk;refine⟨?_,g,hg,hF⟩;have h1:=h.tab;unfold Lib.TabIs World.var? at h1⊢;rw[hg,Zee]at h1⊢;rw[hc.block g (h.lt hg) (hd g hF)];exact h1
def TB.ext(h:TB P name k zs w F)(hc:Chg Non w w'):TB P name k zs w' F:=h.chg hc λ_ _=>id
def TB.stp(h:TB P name k zs w F)(hM:Mem w0 S0 F0 w S F)(hp:Stp w S w' S'):TB P name k zs w' F:=h.chg hp.chg λj hf hs=>hM.dj j hs hf
def TB.big(h:TB P name k zs w F)(hf:∀j,F j->F' j):TB P name k zs w F':=by
 obtain⟨g,hg,hF⟩:=h.blk;exact⟨h.tab,g,hg,hf g hF⟩
def TB.sub(h:TB P name k zs w F)(hf:∀j,j<w.heap.size->F j->F' j):TB P name k zs w F':=by
 obtain⟨g,hg,hF⟩:=h.blk;exact⟨h.tab,g,hg,hf g (h.lt hg) hF⟩
def TB.mem(h:TB P name k zs w0 F0)(hM:Mem w0 S0 F0 w S F):TB P name k zs w F:=(h.chg hM.chg λj hf hs=>hM.dj0 j hs hf).big hM.fz
theorem TB.of(h:Lib.TabIs P w name k zs)(hF:∀j,j<w.heap.size->F j):TB P name k zs w F:=by
 have h1:=h;unfold Lib.TabIs World.var? at h1;cases hg:P.globalNamed name with
 |none=>simp_all
 |some g=>
  have key:TB P name k zs w (λ_=>True):=⟨h,g,hg,trivial⟩;exact⟨h,g,hg,hF g (key.lt hg)⟩
def Zbm(w:World)(k:Nat)(os:Array Obj):Chg Non w (grow (w.drewN k) os):=
 ⟨rfl,rfl,rfl,by simp,λj hj _=>by
  show(w.heap++os)[j]? =w.heap[j]?
  grind⟩
end
section
variable{P:Program}{draw:Bool}{ms:List Nat}{ops:Array Oper}{a0:Act}{w0:World}{Q:Exit->Act->World->Prop}{pds:List Pd}{σ:List (Nat×Value)}{N j:Nat}{dst:Option Tmp}{g:Option (Nat×Bool)}
  {t t' E ty:TypeId}{pos:String}{af:Array Edge}{ow:Nat->Nat}
end
structure VI(P:Program)(name:String)(cs:Array Value)(w:World)(F:Nat->Prop):Prop where
 var:w.var? P name=some cs
 blk:∃g,P.globalNamed name=some g/\F g
section
variable{P:Program}{name:String}{cs:Array Value}{w w' w0:World}{S S0 S' F F0 F':Nat->Prop}
def VI.lt(h:VI P name cs w F){g:Nat}(hg:P.globalNamed name=some g):g<w.heap.size:=by
 have h1:=h.var;grind[World.var?,Array.getElem?_eq_none]
def VI.chg(h:VI P name cs w F)(hc:Chg S w w')(hd:∀j,F j->¬S j):VI P name cs w' F:=by
 obtain⟨g,hg,hF⟩:=h.blk;refine⟨?_,g,hg,hF⟩;have h1:=h.var;unfold World.var? at h1⊢;rw[hg,Zee]at h1⊢;rw[hc.block g (h.lt hg) (hd g hF)];exact h1
def VI.sub(h:VI P name cs w F)(hf:∀j,j<w.heap.size->F j->F' j):VI P name cs w F':=by
 obtain⟨g,hg,hF⟩:=h.blk;exact⟨h.var,g,hg,hf g (h.lt hg) hF⟩
def VI.cell{x:Value}(h:VI P name #[x] w F){g:Nat}(hg:P.globalNamed name=some g):w.cell? ⟨g,0,none⟩=some x:=by
 have h1:=h.var;grind[World.var?,World.cell?]
theorem VI.of(h:w.var? P name=some cs)(hF:∀j,j<w.heap.size->F j):VI P name cs w F:=by
 have h1:=h;unfold World.var? at h1;cases hg:P.globalNamed name with
 |none=>simp_all
 |some g=>
  have key:VI P name cs w (λ_=>True):=⟨h,g,hg,trivial⟩;exact⟨h,g,hg,hF g (key.lt hg)⟩
end
structure TX(P:Program)(w:World)(F:Nat->Prop):Prop where
 pow:VI P "internal/strconv.uint64pow10" (Lib.pow10Tab.map λz=>Value.int .u64 z).toArray w F
 max:∃m,VI P "internal/bytealg.MaxLen" #[.int .i64 m] w F
 syn:∃t p,VI P "strconv.ErrSyntax" #[.iface t p] w F
 rng:∃t p,VI P "strconv.ErrRange" #[.iface t p] w F
section
variable{P:Program}{w w' w0:World}{S S0 S' F F0 F':Nat->Prop}
def TX.chg(h:TX P w F)(hc:Chg S w w')(hd:∀j,F j->¬S j):TX P w' F:=by
 obtain⟨h1,⟨m,h2⟩,⟨t,p,h3⟩,⟨t',p',h4⟩⟩:=h;exact⟨h1.chg hc hd,⟨m,h2.chg hc hd⟩,⟨t,p,h3.chg hc hd⟩,⟨t',p',h4.chg hc hd⟩⟩
def TX.sub(h:TX P w F)(hf:∀j,j<w.heap.size->F j->F' j):TX P w F':=by
 obtain⟨h1,⟨m,h2⟩,⟨t,p,h3⟩,⟨t',p',h4⟩⟩:=h;exact⟨h1.sub hf,⟨m,h2.sub hf⟩,⟨t,p,h3.sub hf⟩,⟨t',p',h4.sub hf⟩⟩
def TX.tab(h:TX P w F):Lib.TabIs P w "internal/strconv.uint64pow10" .u64 Lib.pow10Tab:=h.pow.var
def TX.ext(h:TX P w F)(hc:Chg Non w w'):TX P w' F:=h.chg hc λ_ _=>id
def TX.stp(h:TX P w F)(hM:Mem w0 S0 F0 w S F)(hp:Stp w S w' S'):TX P w' F:=h.chg hp.chg λj hf hs=>hM.dj j hs hf
def TX.big(h:TX P w F)(hf:∀j,F j->F' j):TX P w F':=h.sub λj _=>hf j
def TX.mem(h:TX P w0 F0)(hM:Mem w0 S0 F0 w S F):TX P w F:=(h.chg hM.chg λj hf hs=>hM.dj0 j hs hf).big hM.fz
end
instance:Rep D.Gate where
 sz:=2
 agg:=true
 ok:=λ_ _ cs x=>cs=[.int .i64 x.A,.int .i64 x.B]
 len:=by simp
 one:=by rintro w F cs x rfl u hu;simp at hu;rcases hu with rfl|rfl<;>rfl
 pos:=by decide
 sgl:=λh=>by cases h
 keep:=λh _=>h
instance:Flat D.Gate where
 enc:=λx=>[.int .i64 x.A,.int .i64 x.B]
 iff:=Iff.rfl
instance:Rep D.Circuit where
 sz:=2
 agg:=true
 ok:=λw F cs x=>∃v1:Value,cs=[.int .i64 x.Inputs,v1]/\Rep.ok w F [v1] x.Gates
 len:=by simp_all
 one:=by
  rintro w F cs x ⟨v1,rfl,h1⟩ u hu;simp at hu;rcases hu with rfl|rfl
  ·rfl
  grind[Rep.one]
 pos:=by decide
 sgl:=λh=>by cases h
 keep:=by
  rintro w w' F F' cs x ⟨v1,rfl,h1⟩ hk;exact⟨v1,rfl,Rep.keep h1 hk⟩
def RV.Circuit{w:World}{F:Nat->Prop}{v:Value}{x:D.Circuit}(h:RV w F v x):∃v1:Value,v= .agg #[.int .i64 x.Inputs,v1]/\RV w F v1 x.Gates:=by
 obtain⟨cs,⟨v1,rfl,h1⟩,rfl⟩:=h;exact⟨v1,rfl,RV.of_one rfl h1⟩
instance:Rep D.Formula where
 sz:=2
 agg:=true
 ok:=λw F cs x=>∃v1:Value,cs=[.int .i64 x.Vars,v1]/\Rep.ok w F [v1] x.Clauses
 len:=by simp_all
 one:=by
  rintro w F cs x ⟨v1,rfl,h1⟩ u hu;simp at hu;rcases hu with rfl|rfl
  ·rfl
  grind[Rep.one]
 pos:=by decide
 sgl:=λh=>by cases h
 keep:=by
  rintro w w' F F' cs x ⟨v1,rfl,h1⟩ hk;exact⟨v1,rfl,Rep.keep h1 hk⟩
def RV.Formula{w:World}{F:Nat->Prop}{v:Value}{x:D.Formula}(h:RV w F v x):∃v1:Value,v= .agg #[.int .i64 x.Vars,v1]/\RV w F v1 x.Clauses:=by
 obtain⟨cs,⟨v1,rfl,h1⟩,rfl⟩:=h;exact⟨v1,rfl,RV.of_one rfl h1⟩
instance:Rep D.Ins where
 sz:=4
 agg:=true
 ok:=λ_ _ cs x=>cs=[.int .i64 x.Op,.int .i64 x.A,.int .i64 x.B,.int .i64 x.C]
 len:=by simp
 one:=by rintro w F cs x rfl u hu;simp at hu;rcases hu with rfl|rfl|rfl|rfl<;>rfl
 pos:=by decide
 sgl:=λh=>by cases h
 keep:=λh _=>h
instance:Flat D.Ins where
 enc:=λx=>[.int .i64 x.Op,.int .i64 x.A,.int .i64 x.B,.int .i64 x.C]
 iff:=Iff.rfl
instance:Rep D.Program where
 sz:=4
 agg:=true
 ok:=λw F cs x=>∃v3:Value,cs=[.int .i64 x.W,.int .i64 x.Mem,.int .i64 x.In,v3]/\Rep.ok w F [v3] x.Code
 len:=by simp_all
 one:=by
  rintro w F cs x ⟨v3,rfl,h3⟩ u hu;simp at hu;rcases hu with rfl|rfl|rfl|rfl
  ·rfl
  ·rfl
  ·rfl
  grind[Rep.one]
 pos:=by decide
 sgl:=λh=>by cases h
 keep:=by
  rintro w w' F F' cs x ⟨v3,rfl,h3⟩ hk;exact⟨v3,rfl,Rep.keep h3 hk⟩
def RV.Program{w:World}{F:Nat->Prop}{v:Value}{x:D.Program}(h:RV w F v x):∃v3:Value,v= .agg #[.int .i64 x.W,.int .i64 x.Mem,.int .i64 x.In,v3]/\RV w F v3 x.Code:=by
 obtain⟨cs,⟨v3,rfl,h3⟩,rfl⟩:=h;exact⟨v3,rfl,RV.of_one rfl h3⟩
instance:Rep D.Value where
 sz:=3
 agg:=true
 ok:=λ_ _ cs x=>cs=[(Str.val x.Name),.int .i64 x.W,.int .i64 x.N]
 len:=by simp
 one:=by rintro w F cs x rfl u hu;simp at hu;rcases hu with rfl|rfl|rfl<;>rfl
 pos:=by decide
 sgl:=λh=>by cases h
 keep:=λh _=>h
instance:Flat D.Value where
 enc:=λx=>[(Str.val x.Name),.int .i64 x.W,.int .i64 x.N]
 iff:=Iff.rfl
mutual
def okTerm(w:World)(F:Nat->Prop)(cs:List Value):D.Term->Prop
 |⟨y0,y1,y2,y3,kids⟩=>∃(a:Option Addr)(cp:Nat),cs=[.int .i64 y0,.int .i64 y1,.int .i64 y2,(Str.val y3),.slice a kids.length cp]/\kids.length<=cp/\cp<=maxLen/\(kids≠[]->∃ad,a=some ad/\F ad.block/\elsTerm w F ad 0 kids)
def elsTerm(w:World)(F:Nat->Prop)(ad:Addr)(i:Nat):List D.Term->Prop
 |[]=>True
 |x::xs=>(∃cs,okTerm w F cs x/\Cells w (ad.add (i*5)) cs)/\elsTerm w F ad (i+1) xs
end
theorem Oy{w:World}{F:Nat->Prop}{cs:List Value}:∀{t:D.Term},okTerm w F cs t->cs.length=5
 |⟨y0,y1,y2,y3,kids⟩,h=>by
  obtain⟨a,cp,rfl,_⟩:=h;rfl
mutual
theorem ML{w w':World}{F F':Nat->Prop}(hk:∀k,k<w.heap.size->F k->w'.heap[k]? =w.heap[k]? /\F' k){cs:List Value}:∀(t:D.Term),okTerm w F cs t->okTerm w' F' cs t
 | ⟨y0,y1,y2,y3,kids⟩,h=>by
  unfold okTerm at h⊢;obtain⟨a,cp,rfl,h1,h2,h3⟩:=h;refine⟨a,cp,rfl,h1,h2,λhn=>?_⟩;obtain⟨ad,rfl,hF,he⟩:=h3 hn;have hlt:ad.block<w.heap.size:=by
   cases kids with
   |nil=>exact absurd rfl hn
   |cons x xs=>
    unfold elsTerm at he;obtain⟨⟨cs,h4,h5⟩,_⟩:=he;have:=h5.lt (by intro e;have:=Oy h4;rw[e]at this;cases this)
    rwa [add_block]at this
  exact⟨ad,rfl,(hk _ hlt hF).2,Nl hk ad hF kids 0 he⟩
theorem Nl{w w':World}{F F':Nat->Prop}(hk:∀k,k<w.heap.size->F k->w'.heap[k]? =w.heap[k]? /\F' k)(ad:Addr)(hF:F ad.block):∀(l:List D.Term)(i:Nat),elsTerm w F ad i l->elsTerm w' F' ad i l
 |[],_,_=>by unfold elsTerm;trivial
 | x::xs,i,h=>by
  unfold elsTerm at h⊢;obtain⟨⟨cs,h1,h2⟩,h3⟩:=h;have hlt:ad.block<w.heap.size:=by
   have:=h2.lt (by intro e;have:=Oy h1;rw[e]at this;cases this)
   rwa [add_block]at this
  exact⟨⟨cs,ML hk x h1,h2.keep λ_=>by rw[add_block];exact(hk _ hlt hF).1⟩,Nl hk ad hF xs (i+1) h3⟩
end
instance:Rep D.Term where
 sz:=5
 agg:=true
 ok:=λw F cs x=>okTerm w F cs x
 len:=Oy
 one:=by
  rintro w F cs ⟨y0,y1,y2,y3,kids⟩ h u hu;obtain⟨a,cp,rfl,_⟩:=h;simp at hu;rcases hu with rfl|rfl|rfl|rfl|rfl<;>rfl
 pos:=by decide
 sgl:=λh=>by cases h
 keep:=λh hk=>ML hk _ h
theorem Rn{w:World}{F:Nat->Prop}{ad:Addr}:∀{l:List D.Term}{i:Nat},elsTerm w F ad i l↔elems w F ad i l
 |[],i=>by rfl
 |x::xs,i=>by
  unfold elsTerm elems;rw[Rn (l:=xs)];exact Iff.rfl
def RV.Term{w:World}{F:Nat->Prop}{v:Value}{x:D.Term}(h:RV w F v x):∃v4:Value,v= .agg #[.int .i64 x.Op,.int .i64 x.W,.int .i64 x.N,(Str.val x.Name),v4]/\RV w F v4 x.Kids:=by
 obtain⟨cs,h,rfl⟩:=h;obtain⟨y0,y1,y2,y3,kids⟩:=x;obtain⟨a,cp,rfl,h1,h2,h3⟩:=h;refine⟨_,rfl,RV.mk_slice h1 h2 λhn=>?_⟩;simp_all[Rn]
def RV.mk_Term{w:World}{F:Nat->Prop}(x:D.Term){v4:Value}(h:RV w F v4 x.Kids):RV w F (.agg #[.int .i64 x.Op,.int .i64 x.W,.int .i64 x.N,(Str.val x.Name),v4]) x:=by
 obtain⟨y0,y1,y2,y3,kids⟩:=x;obtain⟨a,cp,rfl,h1,h2,h3⟩:=RV.slice h;refine⟨_,show okTerm w F [.int .i64 y0,.int .i64 y1,.int .i64 y2,(Str.val y3),.slice a kids.length cp] ⟨y0,y1,y2,y3,kids⟩from ?_,rfl⟩;refine⟨a,cp,rfl,h1,h2,λhn=>?_⟩;simp_all[Rn]
instance:Rep D.Path where
 sz:=10
 agg:=true
 ok:=λw F cs x=>∃v1 v2 v3 v5 v8 v9:Value,cs=[.int .i64 x.Pc,v1,v2,v3,.int .i64 x.In,v5,.int .i64 x.Code,.int .i64 x.Steps,v8,v9]/\Rep.ok w F [v1] x.Regs/\Rep.ok w F [v2] x.Mem/\Rep.ok w F [v3] x.Stack/\Rep.ok w F [v5] x.Out/\Rep.ok w F [v8] x.Cond/\Rep.ok w F [v9] x.Turns
 len:=by simp_all
 one:=by
  rintro w F cs x ⟨v1,v2,v3,v5,v8,v9,rfl,h1,h2,h3,h5,h8,h9⟩ u hu;simp at hu;rcases hu with rfl|rfl|rfl|rfl|rfl|rfl|rfl|rfl|rfl|rfl
  ·rfl
  ·grind[Rep.one]
  ·grind[Rep.one]
  ·grind[Rep.one]
  ·rfl
  ·grind[Rep.one]
  ·rfl
  ·rfl
  all_goals grind[Rep.one]
 pos:=by decide
 sgl:=λh=>by cases h
 keep:=by
  rintro w w' F F' cs x ⟨v1,v2,v3,v5,v8,v9,rfl,h1,h2,h3,h5,h8,h9⟩ hk;exact⟨v1,v2,v3,v5,v8,v9,rfl,Rep.keep h1 hk,Rep.keep h2 hk,Rep.keep h3 hk,Rep.keep h5 hk,Rep.keep h8 hk,Rep.keep h9 hk⟩
def RV.Path{w:World}{F:Nat->Prop}{v:Value}{x:D.Path}(h:RV w F v x):∃v1 v2 v3 v5 v8 v9:Value,v= .agg #[.int .i64 x.Pc,v1,v2,v3,.int .i64 x.In,v5,.int .i64 x.Code,.int .i64 x.Steps,v8,v9]/\RV w F v1 x.Regs/\RV w F v2 x.Mem/\RV w F v3 x.Stack/\RV w F v5 x.Out/\RV w F v8 x.Cond/\RV w F v9 x.Turns:=by
 obtain⟨cs,⟨v1,v2,v3,v5,v8,v9,rfl,h1,h2,h3,h5,h8,h9⟩,rfl⟩:=h;exact⟨v1,v2,v3,v5,v8,v9,rfl,RV.of_one rfl h1,RV.of_one rfl h2,RV.of_one rfl h3,RV.of_one rfl h5,RV.of_one rfl h8,RV.of_one rfl h9⟩
structure Agg(n:Nat)where
 cs:List Value
instance{n:Nat}:Rep (Agg n)where
 sz:=n+1
 agg:=true
 ok:=λ_ _ cs _=>cs.length=n+1/\∀u∈cs,u.oneCell'=true
 len:=λh=>h.1
 one:=λh=>h.2
 pos:=Nat.succ_pos n
 sgl:=λh=>by cases h
 keep:=λh _=>h
def cellN(P:Program)(t:TypeId):Option (Nat×Bool):=
 match P.info? t,P.underlying t with
 |some i,some (.struct _)=>some (i.size,true)
 |some i,some (.array _ _)=>none
 |some i,some _=>some (i.size,false)
 |_,_=>none
def loadV(P:Program)(t:TypeId)(off:Nat)(cs:List Value):Option Value:=
 match cellN P t with
 |some (n+1,true)=>if Nat.beq ((cs.drop off).take (n+1)).length (n+1)then some (.agg ((cs.drop off).take (n+1)).toArray)else none
 |some (1,false)=>cs[off]?
 |_=>none
theorem Ig{P:Program}{t:TypeId}{off b:Nat}{bt:TypeId}{cs:List Value}{v:Value}{w:World}(h:loadV P t off cs=some v)(hb:Box w b bt cs):(loadVar t ⟨b,off,none⟩).run P w= .ok v w:=by
 unfold loadV cellN at h;cases hi:P.info? t with
 |none=>simp_all
 | some i=>
  cases hu:P.underlying t with
  |none=>simp_all
  | some dd=>
   have key:∀(n:Nat),i.size=n+1->(P.underlying t=some dd)->(match P.underlying t with|some (.struct _)=>true|some (.array _ _)=>true|some _=>false|none=>!true)=true->Ty P t (Agg n):=λn hn _ ha=>⟨by rw[hi];exact congrArg some hn,ha⟩;have agg:∀n,i.size=n+1->Ty P t (Agg n)->(if Nat.beq ((cs.drop off).take (n+1)).length (n+1)then some (Value.agg ((cs.drop off).take (n+1)).toArray)else none)=some v->(loadVar t ⟨b,off,none⟩).run P w= .ok v w:=by
    intro n hn hT h;split at h
    ·rename_i hlen;have hlen:=ZfI hlen;obtain rfl:=Option.some.inj h;have hp:=hb.part (off:=off) (ps:=(cs.drop off).take (n+1)) (by rw[hlen]);exact YO hT hlen hp
    ·cases h
   cases dd with
   |struct fs=>
    grind
   |array _ _=>simp_all
   | _=>
    simp only[hi,hu]at h;have hT:i.size=1->Ty P t Int:=λh1=>⟨by rw[hi];exact congrArg some h1,by rw[hu];rfl⟩;split at h
    ·simp_all
    ·rename_i heq;simp only[Option.some.injEq,Prod.mk.injEq,ZgK]at heq;have hc:Cells w ⟨b,off,none⟩ [v]:=λj u hj=>by
      cases j with
      |zero=>
       simp only[Zfs,Option.some.injEq]at hj;subst hj;have:(⟨b,off,none⟩:Addr).add 0=⟨b,off,none⟩:=by rfl
       rw[this,hb.cell];exact h
      |succ j=>simp at hj
     exact YO (hT heq) (cs:=[v]) rfl hc
    ·cases h
abbrev Bxs:=List (Nat×List Value)
def Bxs.at(bx:Bxs)(w:World):Prop:=∀p∈bx,∃t,Box w p.1 t p.2
def evB(P:Program)(bx:Bxs)(ρ:Operand->Option Value)(h:Option Nat)(o:Op):Option (Value×List (Nat×Nat)):=
 match h with
 |none=>(pe P ρ o).map λv=>(v,[])
 | some i=>
  match o with
  |.load t x=>
   match ρ x,bx[i]? with
   |some (.pointer (some ⟨b,off,none⟩)),some (b',cs)=>(loadV P t off cs).map λv=>(v,[(b,b')])
   |_,_=>none
  |_=>none
def seqB(P:Program)(N:Nat)(bx:Bxs)(hs:List (Nat×Nat)):Nat->List Oper->List (Nat×Value)->Option (List (Nat×Value)×List (Nat×Nat))
 |_,[],σ=>some (σ,[])
 |j,o::os,σ=>
  match o.guard,o.dst,evB P bx (opd σ) (hs.lookup j) o.op with
  |none,some d,some (v,e)=>if d<N then(seqB P N bx hs (j+1) os ((d,v)::σ)).map λr=>(r.1,e++r.2)else none
  |_,_,_=>none
def okB{α:Type}(o:Option (α×List (Nat×Nat))):Prop:=o.map (λr=>r.2.map (·.1))=some ((o.map (λr=>r.2.map (·.2))).getD [])
theorem Be{α:Type}{o:Option (α×List (Nat×Nat))}(h:okB o):∃x e,o=some (x,e)/\∀p∈e,p.1=p.2:=by
 unfold okB at h;cases o with
 |none=>cases h
 |some r=>
  obtain⟨x,e⟩:=r;simp only[Ze0,ZeF,Option.some.injEq]at h;exact⟨x,e,rfl,λp hp=>ZeY.1 h p hp⟩
section
variable{P:Program}{ops:Array Oper}{Q:Exit->Act->World->Prop}{a:Act}{w:World}{N:Nat}{σ:List (Nat×Value)}{bx:Bxs}{hs:List (Nat×Nat)}
theorem ZdJ{ρ:Operand->Option Value}{o:Oper}{h:Option Nat}{v:Value}{e:List (Nat×Nat)}{K:Act->World->Prop}(hρ:∀x v,ρ x=some v->a.eval x=v)(hbx:bx.at w)(he:evB P bx ρ h o.op=some (v,e))(heq:∀p∈e,p.1=p.2)
  (hK:K (a.put o.dst v) w):o.wp P a w K Q:=by
 unfold evB at he;cases h with
 | none=>
  cases hp:pe P ρ o.op with
  |none=>simp_all
  |some u=>
   rw[hp]at he;obtain⟨rfl,rfl⟩:=he;unfold Oper.wp;rw[Pz (P:=P) (ρ':=a.eval) hρ hp w];exact hK
 | some i=>
  simp only at he;split at he
  ·rename_i t x ho;split at he
   ·rename_i b off b' cs hx hi;cases hl:loadV P t off cs with
    |none=>simp_all
    | some u=>
     rw[hl]at he;simp only[Ze0,Option.some.injEq,Prod.mk.injEq]at he;obtain⟨rfl,rfl⟩:=he;obtain⟨bt,hB⟩:=hbx _ (Zel hi);have hr:=Ig hl hB;unfold Oper.wp;have:(execOp a.eval o).run P w= .ok (.value u) w:=by
      simp_all[execOp,Instr.loadAt,Instr.sureAddr]
     rw[this];exact hK
   ·cases he
  ·cases he
theorem Ov{rest:List Oper}(hbx:bx.at w):∀{l:List Oper}{j:Nat}{σ σ1:List (Nat×Value)}{e:List (Nat×Nat)}{a:Act},FrS N σ a->seqB P N bx hs j l σ=some (σ1,e)->(∀p∈e,p.1=p.2)->(∀a',FrS N σ1 a'->wpList P ops Q rest a' w)->wpList P ops Q (l++rest) a w
 |[],j,σ,σ1,e,a,hF,hs,_,h=>by
  simp_all[seqB,Option.some.injEq,Prod.mk.injEq]
 | o ::l,j,σ,σ1,e,a,hF,hs,he,h=>by
  unfold seqB at hs;split at hs
  ·rename_i d v e1 hg hd hv;split at hs
   ·rename_i hdN;cases hr:seqB P N bx _ (j+1) l ((d,v)::σ)with
    |none=>rw[hr]at hs;cases hs
    |some r=>
     rw[hr]at hs;obtain⟨rfl,rfl⟩:=hs;refine wpList_plain hg λK hK=>ZdJ (λx u hx=>Zd hF hx) hbx hv (λp hp=>he p (Zew.2 (.inl hp))) (hK _ _ ?_);rw[hd];exact Ov hbx (hF.put hdN v) hr (λp hp=>he p (Zew.2 (.inr hp))) h
   ·cases hs
  ·cases hs
end
def pureB(P:Program)(bx:Bxs)(hs:List (Nat×Nat))(ops:Array Oper)(σ:List (Nat×Value))(pds:List Pd)(j:Nat):Option (Value×List (Nat×Nat)):=
 match hs.lookup j with
 |none=>(pureV P ops σ pds j).map λv=>(v,[])
 |some i=>
  match ops[j]? with
  |some o=>evB P bx (envP ops σ pds j) (some i) o.op
  |none=>none
def pdsB(P:Program)(bx:Bxs)(hs:List (Nat×Nat))(ops:Array Oper)(σ:List (Nat×Value))(np:List (Nat×Pd)):Nat->List Pd
 |0=>[]
 | n+1=>pdsB P bx hs ops σ np n++[match np.lookup n with|some p=>p|none=>match pureB P bx hs ops σ (pdsB P bx hs ops σ np n) n with|some v=>.eq v.1|none=>.any]
def pdsM(P:Program)(bx:Bxs)(hs:List (Nat×Nat))(ops:Array Oper)(σ:List (Nat×Value))(np:List (Nat×Pd))(m:Nat):List Pd:=pdsB P bx hs ops σ np m++List.replicate (ops.size-m) .any
def freeI(np:List (Nat×Pd))(m:Nat):List Nat:=(List.range m).filter λj=>(np.lookup j).isNone
def isPB(hs:List (Nat×Nat))(np:List (Nat×Pd))(m:Nat):List Bool:=(List.range m).map λj=>(np.lookup j).isNone&&(hs.lookup j).isNone
def outS(ops:Array Oper)(σ:List (Nat×Value))(pds:List Pd)(m:Nat):List (Nat×Value):=
 ((List.range m).filterMap λi=>match(ops[i]?).bind (·.dst),guardOf ops i,valAt pds i with
  |some d,none,some v=>if lastW ops d m==some i then some (d,v)else none
  |_,_,_=>none)++σ.filter λp=>(lastW ops p.1 m).isNone
section
variable{P:Program}{bx:Bxs}{hs:List (Nat×Nat)}{ops:Array Oper}{σ:List (Nat×Value)}{np:List (Nat×Pd)}{pds:List Pd}{m:Nat}
theorem Py:∀n,(pdsB P bx hs ops σ np n).length=n
 |0=>rfl
 |n+1=>by simp[pdsB,Py n]
theorem GH:∀n j,j<n->∀p,np.lookup j=some p->(pdsB P bx hs ops σ np n).getD j .any=p
 |0,j,h,_,_=>absurd h (Nat.not_lt_zero _)
 | n+1,j,h,p,hp=>by
  unfold pdsB;rw[Zer];rcases ZfU j n with h1|h1
  ·rw[ZeD (by simp_all[Py]),<-Zer];exact GH n j h1 p hp
  ·obtain rfl:j=n:=by omega
   simp_all[ZeE,Py,Zes,ZfD]
def SQ{j:Nat}(h:j<m){p:Pd}(hp:np.lookup j=some p):(pdsM P bx hs ops σ np m).getD j .any=p:=by
 unfold pdsM;rw[Zer,ZeD (by simp_all[Py]),<-Zer];grind[GH]
theorem BK{j:Nat}(h:m<=j):(pdsM P bx hs ops σ np m).getD j .any= .any:=by
 grind[pdsM,List.getElem?_append_right,Py]
theorem Tv{t:Nat}{v:Value}{f:Nat->Bool}:∀{σ:List (Nat×Value)},(σ.filter λp=>f p.1).lookup t=some v->f t=true/\σ.lookup t=some v
 |[],h=>by cases h
 | (k,u)::σ,h=>by
  rw[List.filter_cons]at h;by_cases e:t=k
  ·subst e;by_cases hf:f t=true
   ·simp_all
   ·rw[Zem O]at h;exact absurd (Tv h).1 hf
  ·have e':(t==k)=false:=by simpa using e
   have h2:(σ.filter λp=>f p.1).lookup t=some v:=by
    grind
   rw[ZeG,e'];exact Tv h2
theorem Eo{t:Nat}{v:Value}(h:(outS ops σ pds m).lookup t=some v):outVm ops σ pds m t=some v:=by
 unfold outS at h;rw[List.lookup_append]at h;unfold outVm
 cases h1:((List.range m).filterMap λi=>match(ops[i]?).bind (·.dst),guardOf ops i,valAt pds i with
  |some d,none,some v=>if lastW ops d m==some i then some (d,v)else none
  |_,_,_=>none).lookup t with
 |some u=>
  have hm:=Ra h1;grind
 |none=>
  rw[h1]at h;obtain⟨h2,h3⟩:=Tv (f:=λk=>(lastW ops k m).isNone) h;simp_all
theorem NR{p:Nat->Prop}:∀{l:List Nat},(∀j∈l,p j)->AllL p l
 |[],_=>trivial
 |j::_,h=>⟨h j ZeK,NR λi hi=>h i (ZeB _ hi)⟩
theorem Df{N:Nat}{a a':Act}{w:World}(hF:FrS N σ a)(hE:EndM ops (TT ops pds) a m a' w){t:Nat}{v:Value}(h:outVm ops σ pds m t=some v):a'.eval (.tmp t)=v:=by
 have h1:=hE.2.2 t;unfold Know at h1;unfold outVm at h;cases hl:lastW ops t m with
 |none=>simp only[hl]at h h1;rw[h1];exact hF.get t v h
 | some i=>
  simp only[hl]at h h1;split at h
  ·have hi:=Cy (Vt hl).2;have hgi:gc ops pds ops.size i:=by
    obtain⟨k,hk⟩:∃k,ops.size=k+1:=⟨ops.size-1,by omega⟩;simp_all[gc,Zfe]
   have h2:=h1.1 hgi;unfold valAt Pd.val? at h;split at h
   ·rename_i u hu;simp only[Option.some.injEq]at h;subst h;rw[hu]at h2;exact h2
   ·cases h
  ·cases h
theorem Ue{j:Nat}{p:Pd}:∀{np:List (Nat×Pd)},np.lookup j=some p->(j,p)∈np
 | (k,q)::np,h=>by
  rw[ZeG]at h;by_cases e:j=k
  ·simp_all
  ·have:(j==k)=false:=by simpa using e
   rw[this]at h;exact ZeB _ (Ue h)
def Nf{j:Nat}(h:j<m):(isPB hs np m).getD j false=((np.lookup j).isNone&&(hs.lookup j).isNone):=by
 simp_all[isPB,Zer,ZeL,Zgl]
variable{N:Nat}{a:Act}{w:World}{Q:Exit->Act->World->Prop}{draw:Bool}{ms:List Nat}
structure ChkB(P:Program)(bx:Bxs)(hs:List (Nat×Nat))(ops:Array Oper)(σ:List (Nat×Value))(np:List (Nat×Pd))(m:Nat)(pds:List Pd):Prop where
 val:(freeI np m).map (λj=>(pureB P bx hs ops σ pds j).map (·.1))=(freeI np m).map λj=>(pds.getD j .any).val?
 some:((freeI np m).all λj=>(pds.getD j .any).val?.isSome)=true
 blk:(freeI np m).map (λj=>(pureB P bx hs ops σ pds j).map λr=>r.2.map (·.1))=(freeI np m).map λj=>(pureB P bx hs ops σ pds j).map λr=>r.2.map (·.2)
theorem ChkB.at{j:Nat}(h:ChkB P bx hs ops σ np m pds)(hj:j<m)(hn:np.lookup j=none):∃v e,pureB P bx hs ops σ pds j= .some (v,e)/\(pds.getD j .any)= .eq v/\∀p∈e,p.1=p.2:=by
 have hm:j∈freeI np m:=Ze6.2 ⟨Ze7.2 hj,by rw[hn];rfl⟩;have h1:=ZeY.1 h.val j hm;have h2:=h.some;rw[Zev]at h2;obtain⟨v,hv⟩:=Zf0.1 (h2 j hm);have h3:=ZeY.1 h.blk j hm;have hpd:pds.getD j .any= .eq v:=by
  cases hp:pds.getD j .any with
  |eq u=>simp_all[Pd.val?,Option.some.injEq]
  |is p=>rw[hp]at hv;cases hv
  |own p=>rw[hp]at hv;cases hv
  |any=>rw[hp]at hv;cases hv
 cases hb:pureB P bx hs ops σ pds j with
 |none=>grind
 |some r=>
  obtain⟨u,e⟩:=r;rw[hb,hv]at h1;simp only[Ze0,Option.some.injEq]at h1;subst h1;rw[hb]at h3;simp only[Ze0,Option.some.injEq]at h3;exact⟨u,e,rfl,hpd,λp hp=>ZeY.1 h3 p hp⟩
theorem GN{j i:Nat}{v:Value}{e:List (Nat×Nat)}(hbx:bx.at w)(hG:Good ops pds [])(hF:FrS N σ a)(hi:hs.lookup j=some i)(hp:pureB P bx hs ops σ pds j=some (v,e))(he:∀p∈e,p.1=p.2)(hpd:pds.getD j .any= .eq v):NPB P draw ms ops pds a w Q j:=by
 unfold pureB at hp;rw[hi]at hp;cases ho:ops[j]? with
 |none=>simp_all
 | some o=>
  rw[ho]at hp;obtain⟨dst,op,ty,pos,af,g⟩:=o;unfold evB at hp;simp only at hp;split at hp
  ·rename_i t x;split at hp
   ·rename_i b off b' cs hx hbi;cases hl:loadV P t off cs with
    |none=>simp_all
    | some u=>
     rw[hl]at hp;simp only[Ze0,Option.some.injEq,Prod.mk.injEq]at hp;obtain⟨rfl,rfl⟩:=hp;obtain⟨bt,hB⟩:=hbx _ (Zel hbi);exact RU _ ho hG hF λa' w' hC _ hv _=>by
      have hr:=Ig hl (hB.ext hC);have hx':=hv x _ ai hx;refine Zh (v:=u) (w':=w') ?_ ak;simp_all[execOp,Instr.loadAt,Instr.sureAddr]
   ·cases hp
  ·cases hp
end
structure RF where
 ok:World->(Nat->Prop)->Prop
 sub:∀{w:World}{F F':Nat->Prop},ok w F->(∀k,k<w.heap.size->F k->F' k)->ok w F'
 chg:∀{w w':World}{F T:Nat->Prop},ok w F->Chg T w w'->(∀k,F k->¬T k)->ok w' F
 box:Option (Nat×List Value):=none
 isb:∀{w:World}{F:Nat->Prop}{p:Nat×List Value},box=some p->ok w F->∃t,Box w p.1 t p.2:=by intro _ _ _ h;cases h
def RO{α:Type}[Rep α](v:Value)(x:α):RF where
 ok w F:=RV w F v x
 sub h hs:=RV.sub h hs
 chg h hc ht:=RV.chg h hc ht
def FX(b:Nat)(t:TypeId)(cs:List Value):RF where
 ok w F:=Box w b t cs/\F b
 sub h hs:=⟨h.1,hs b h.1.lt h.2⟩
 chg h hc ht:=⟨h.1.chg hc (ht b h.2),h.2⟩
 box:=some (b,cs)
 isb h hok:=by grind
def CS{ρ α:Type}[Flat ρ][Rep α](rs:List ρ)(xs:List α):RF where
 ok w F:=Css w F (rs.map Flat.enc) xs
 sub h hs:=⟨h.1,λi cs x hi hx=>Rep.keep (h.2 i cs x hi hx) λk hk hf=>⟨rfl,hs k hk hf⟩⟩
 chg h hc ht:=⟨h.1,λi cs x hi hx=>Rep.keep (h.2 i cs x hi hx) λk hk hf=>⟨hc.block k hk (ht k hf),hf⟩⟩
def AllF(Φ:List RF)(w:World)(F:Nat->Prop):Prop:=∀R∈Φ,R.ok w F
section
variable{w w':World}{F F' T:Nat->Prop}{Φ Ψ:List RF}{R:RF}
def AllF.sub(h:AllF Φ w F)(hs:∀k,k<w.heap.size->F k->F' k):AllF Φ w F':=λR hR=>R.sub (h R hR) hs
def AllF.chg(h:AllF Φ w F)(hc:Chg T w w')(ht:∀k,F k->¬T k):AllF Φ w' F:=λR hR=>R.chg (h R hR) hc ht
def AllF.nil:AllF [] w F:=λR hR=>by cases hR
def AllF.add(h:AllF Φ w F)(hR:R.ok w F):AllF (Φ++[R]) w F:=λR' h'=>by
 rcases Zew.1 h' with h'|h'
 ·exact h R' h'
 simp_all
def AllF.join(h:AllF Φ w F)(h':AllF Ψ w F):AllF (Φ++Ψ) w F:=λR hR=>(Zew.1 hR).elim (h R) (h' R)
def AllF.get(h:AllF Φ w F){i:Nat}(hi:Φ[i]? =some R):R.ok w F:=h R (Zel hi)
theorem AllF.pick(fs:List Nat)(h:AllF Φ w F)(hf:fs.map (λi=>Φ[i]?)=Ψ.map some):AllF Ψ w F:=λR hR=>by
 obtain⟨j,hj,hR⟩:=List.mem_iff_getElem.1 hR;have h1:(fs.map λi=>Φ[i]?)[j]? =some (some R):=by simp_all
 rw[ZeL]at h1;cases hi:fs[j]? with
 |none=>simp_all
 |some i=>rw[hi]at h1;exact h.get (by simpa using h1)
end
structure Bs where
 w:World
 S:Nat->Prop
 F:Nat->Prop
structure Cx(B:Bs)(N:Nat)(σ:List (Nat×Value))(Γ:List HP)(Φ:List RF)(a:Act)(w:World):Prop where
 fr:FrS N σ a
 me:∃S F,Mem B.w B.S B.F w S F/\Sep Γ w S/\AllF Φ w F
def bxsOf(Γ:List HP)(Φ:List RF):Bxs:=Γ.filterMap (·.box)++Φ.filterMap (·.box)
def Cx.bxs{B:Bs}{N:Nat}{σ:List (Nat×Value)}{Γ:List HP}{Φ:List RF}{a:Act}{w:World}(c:Cx B N σ Γ Φ a w):(bxsOf Γ Φ).at w:=λp hp=>by
 obtain⟨_,S,F,_,hs,hf⟩:=c;rcases Zew.1 hp with hp|hp
 ·rw[Zgp]at hp;obtain⟨H,hH,hb⟩:=hp;obtain⟨i,hi⟩:=ZfA hH;obtain⟨A,h1,_⟩:=hs.get i hi;exact H.isb hb h1
 ·rw[Zgp]at hp;obtain⟨R,hR,hb⟩:=hp;exact R.isb hb (hf R hR)
def Ava(Γ:List HP)(Φ:List RF)(w:World)(R:RF):Prop:=∀S F,Sep Γ w S->AllF Φ w F->R.ok w (λk=>F k\/S k)
def AvaL(Γ:List HP)(Φ:List RF)(w:World):List RF->Prop
 |[]=>True
 |R::Ψ=>Ava Γ Φ w R/\AvaL Γ Φ w Ψ
section
variable{Γ:List HP}{Φ Ψ:List RF}{w:World}
def Ava.f(i:Nat){R:RF}(h:Φ[i]? =some R:=by rfl):Ava Γ Φ w R:=λ_ _ _ hf=>R.sub (hf.get h) λ_ _ h=>.inl h
def Ava.g{α:Type}[Rep α]{E:TypeId}{v:Value}{l:List α}(i:Nat)(h:Γ[i]? =some (SL E v l):=by rfl):Ava Γ Φ w (RO v l):=λ_ _ hs _=>RV.sub (hs.rv i h) λ_ _ h=>.inr h
def Ava.b{b:Nat}{t:TypeId}{cs:List Value}(i:Nat)(h:Γ[i]? =some (BX b t cs):=by rfl):Ava Γ Φ w (FX b t cs):=λ_ _ hs _=>by
 obtain⟨A,h1,h2⟩:=hs.get i h;exact⟨h1.1,.inr (h2 b h1.2)⟩
def Ava.nil{α:Type}[Rep α]:Ava Γ Φ w (RO (.slice none 0 0) ([]:List α)):=λ_ _ _ _=>RV.nil
def Ava.fl{α:Type}[Flat α](x:α):Ava Γ Φ w (RO (Rep.val α (Flat.enc x)) x):=λ_ _ _ _=>RV.mk_flat x
theorem AvaL.all{S F:Nat->Prop}:∀{Ψ:List RF},AvaL Γ Φ w Ψ->Sep Γ w S->AllF Φ w F->AllF Ψ w (λk=>F k\/S k)
 |[],_,_,_=>AllF.nil
 |R::Ψ,h,hs,hf=>λR' hR=>by
  rcases ZeR.1 hR with rfl|hR
  ·exact h.1 S F hs hf
  ·exact AvaL.all h.2 hs hf R' hR
end
def tup:List Value->Value
 |[v]=>v
 |vs=>.tuple vs.toArray
abbrev Res:=List Value×List HP×List RF
def Con(P:Program)(f:FuncId)(args:List Value)(Γ:List HP)(Φ:List RF){ι:Type}(R:ι->Res):Prop:=
 ∀(w:World)(S F:Nat->Prop),Sep Γ w S->AllF Φ w F->(∀k,S k->k<w.heap.size)->(∀k,F k->k<w.heap.size)->(∀k,S k->F k->False)->
  Calls P f args.toArray w λe w'=>∃i S' F',e= .returned (tup (R i).1)/\Mem w S F w' S' F'/\Sep (R i).2.1 w' S'/\AllF (R i).2.2 w' F'
def Rp(B:Bs){ι:Type}(R:ι->Res):Ending->World->Prop:=λe w'=>∃i S' F',e= .returned (tup (R i).1)/\Mem B.w B.S B.F w' S' F'/\Sep (R i).2.1 w' S'/\AllF (R i).2.2 w' F'
section
variable{P:Program}{B:Bs}{N:Nat}{σ:List (Nat×Value)}{Γ:List HP}{Φ:List RF}{a a':Act}{w w':World}{Q:Exit->Act->World->Prop}{K:Act->World->Prop}{ι:Type}{R:ι->Res}{fn:Func}
def En{f:FuncId}{c:Code}{args:List Value}(hf:P.funcs[f]? =some fn)(hb:fn.body=some c)(hN:fn.ntmps=N)
  (h:∀B a w,Cx B N (args0 0 args) Γ Φ a w->c.wp P (bodyPost P fn (Rp B R)) a w)(hle:Nat.ble args.length N=true:=by rfl):Con P f args Γ Φ R:=
 λw S F hs hf' hS hF hd=>enter hf hb hN hle λa hF'=>h ⟨w,S,F⟩ a w ⟨hF',S,F,Mem.start hS hF hd,hs,hf'⟩
def Cx.to{σ':List (Nat×Value)}(c:Cx B N σ Γ Φ a w)(h:FrS N σ' a'):Cx B N σ' Γ Φ a' w:=⟨h,c.me⟩
def Cx.ext(c:Cx B N σ Γ Φ a w)(hc:Chg Non w w'):Cx B N σ Γ Φ a w':=by
 obtain⟨h,S,F,h1,h2,h3⟩:=c;exact⟨h,S,F,h1.ext hc,h2.ext hc,h3.chg hc λ_ _ h=>h.elim⟩
def Cx.use{Rf:RF}(c:Cx B N σ Γ Φ a w)(h:Ava Γ Φ w Rf):∃F,Rf.ok w F:=by
 obtain⟨_,S,F,_,h2,h3⟩:=c;exact⟨_,h S F h2 h3⟩
def Cx.usebx{b:Nat}{t:TypeId}{cs:List Value}(c:Cx B N σ Γ Φ a w)(h:Ava Γ Φ w (FX b t cs)):Box w b t cs:=by
 obtain⟨F,h⟩:=c.use h;exact h.1
def Cx.add{Rf:RF}(c:Cx B N σ Γ Φ a w)(h:Ava [] Φ w Rf):Cx B N σ Γ (Φ++[Rf]) a w:=by
 obtain⟨hF,S,F,h1,h2,h3⟩:=c;exact⟨hF,S,F,h1,h2,h3.add (Rf.sub (h Non F (Sep.nil w Non) h3) λ_ _ h=>h.elim id λh=>h.elim)⟩
def rg:Nat->List Nat
 |0=>[]
 |n+1=>rg n++[n]
def Cx.re{σ':List (Nat×Value)}{Γ':List HP}{Φ':List RF}(c:Cx B N σ Γ Φ a w)(gs fs:List Nat)(hg:gs.map (λi=>Γ[i]?)=Γ'.map some:=by rfl)(hf:fs.map (λi=>Φ[i]?)=Φ'.map some:=by rfl)
  (hn:gs.Nodup:=by decide)(hσ:σ'.map (λp=>σ.lookup p.1)=σ'.map λp=>some p.2:=by kernel_rfl):Cx B N σ' Γ' Φ' a w:=by
 obtain⟨h,S,F,h1,h2,h3⟩:=c;exact⟨h.sub σ' hσ,S,F,h1,h2.pick gs hn hg,h3.pick fs hf⟩
def Cx.frs(σ':List (Nat×Value))(c:Cx B N σ Γ Φ a w)(hσ:σ'.map (λp=>σ.lookup p.1)=σ'.map λp=>some p.2:=by kernel_rfl):Cx B N σ' Γ Φ a w:=⟨c.fr.sub σ' hσ,c.me⟩
def Cx.pick{Γ':List HP}(c:Cx B N σ Γ Φ a w)(gs:List Nat)(hg:gs.map (λi=>Γ[i]?)=Γ'.map some:=by rfl)(hn:gs.Nodup:=by decide):Cx B N σ Γ' Φ a w:=by
 obtain⟨h,S,F,h1,h2,h3⟩:=c;exact⟨h,S,F,h1,h2.pick gs hn hg,h3⟩
def Cx.gam{Γ':List HP}(c:Cx B N σ Γ Φ a w)(f:∀S,Sep Γ w S->Sep Γ' w S):Cx B N σ Γ' Φ a w:=by
 obtain⟨h,S,F,h1,h2,h3⟩:=c;exact⟨h,S,F,h1,f S h2,h3⟩
theorem Zn{Γ2:List HP}{S:Nat->Prop}(h:Sep (Γ2++Γ) w S):Sep (Γ++Γ2) w S:=by
 obtain⟨A,R,h1,h2,h3,h4,h5⟩:=h.split;grind[Sep.join]
def Cx.relen{α:Type}[Rep α]{E:TypeId}{b:Option Addr}{n cp:Nat}{l:List α}(i:Nat)(c:Cx B N σ Γ Φ a w)(hi:Γ[i]? =some (SL E (.slice b n cp) l):=by rfl):n=l.length/\Cx B N σ (Γ.set i (SL E (.slice b l.length cp) l)) Φ a w:=by
 obtain⟨h,S,F,h1,h2,h3⟩:=c;obtain⟨he,hs⟩:=h2.relen i hi;exact⟨he,h,S,F,h1,hs,h3⟩
def Cx.eqs{v u:Value}(t:Nat)(c:Cx B N σ Γ Φ a w)(he:v=u)(hv:σ.lookup t=some v:=by kernel_rfl):Cx B N ((t,u)::σ) Γ Φ a w:=⟨c.fr.cons (he▸c.fr.get t v hv),c.me⟩
def Fp{ops:Array Oper}{k:Nat}(hs:List (Nat×Nat))(m:Nat)(c:Cx B N σ Γ Φ a w)(h:∀fr,Cx B N ((seqB P N (bxsOf Γ Φ) hs k ((ops.toList.drop k).take m) σ).getD ([],[])).1 Γ Φ fr w->wpFrom P ops Q (k+m) fr w)
  (hk:(seqB P N (bxsOf Γ Φ) hs k ((ops.toList.drop k).take m) σ).map (λr=>r.2.map (·.1))=some (((seqB P N (bxsOf Γ Φ) hs k ((ops.toList.drop k).take m) σ).map (λr=>r.2.map (·.2))).getD []):=by kernel_rfl):wpFrom P ops Q k a w:=by
 obtain⟨σ',e,hσ,he⟩:=Be hk;rw[hσ]at h;unfold wpFrom at h⊢;have:ops.toList.drop k=(ops.toList.drop k).take m++ops.toList.drop (k+m):=by
  grind[List.drop_drop,List.take_append_drop]
 rw[this];exact Ov c.bxs c.fr hσ he λa' hF'=>h a' (c.to hF')
def P1{id:Nat}{ops:Array Oper}(hs:List (Nat×Nat))(c:Cx B N σ Γ Φ a w)(h:∀fr,Cx B N ((seqB P N (bxsOf Γ Φ) hs 0 ops.toList σ).getD ([],[])).1 Γ Φ fr w->K fr w)
  (hk:(seqB P N (bxsOf Γ Φ) hs 0 ops.toList σ).map (λr=>r.2.map (·.1))=some (((seqB P N (bxsOf Γ Φ) hs 0 ops.toList σ).map (λr=>r.2.map (·.2))).getD []):=by kernel_rfl):(Code.region id ops false).wp P (Exit.then K Q) a w:=by
 obtain⟨σ',e,hσ,he⟩:=Be hk;rw[hσ]at h;refine Gv ?_;unfold wpFrom;rw[Zfr,<-ZeM ops.toList];exact Ov c.bxs c.fr hσ he λa' hF'=>wpList_nil (h a' (c.to hF'))
def P0{id:Nat}{ops:Array Oper}{b:Code}(hs:List (Nat×Nat))(c:Cx B N σ Γ Φ a w)(h:∀fr,Cx B N ((seqB P N (bxsOf Γ Φ) hs 0 ops.toList σ).getD ([],[])).1 Γ Φ fr w->b.wp P Q fr w)
  (hk:(seqB P N (bxsOf Γ Φ) hs 0 ops.toList σ).map (λr=>r.2.map (·.1))=some (((seqB P N (bxsOf Γ Φ) hs 0 ops.toList σ).map (λr=>r.2.map (·.2))).getD []):=by kernel_rfl):(Code.seq (.region id ops false) b).wp P Q a w:=wp_seq (P1 hs c h hk)
def Tq{x:Code}(h:x.wp P (Exit.then (λa w=>Q .normal a w) Q) a w):x.wp P Q a w:=wp_cut' h λ_ _ h=>h
def T0{id:Nat}{l:List Oper}{b:Code}(h:wpFrom P l.toArray (Exit.then (λa w=>b.wp P Q a w) Q) 0 a w):(Code.seq (.region id l.toArray false) b).wp P Q a w:=wp_seq (FQ h)
def T1{id:Nat}{l:List Oper}(h:wpFrom P l.toArray Q 0 a w):(Code.region id l.toArray false).wp P Q a w:=FQ h
def E0{ops:Array Oper}{k:Nat}(h:K a w)(hk:ops.size=k:=by rfl):wpFrom P ops (Exit.then K Q) k a w:=GU hk (Po h)
def E1{ops:Array Oper}{k:Nat}(h:Q .normal a w)(hk:ops.size=k:=by rfl):wpFrom P ops Q k a w:=GU hk h
def S0{x:Code}{b:Code}(h:x.wp P (Exit.then (λa w=>b.wp P Q a w) Q) a w):(Code.seq x b).wp P Q a w:=wp_seq h
def K0(h:K a w):Code.skip.wp P (Exit.then K Q) a w:=wp_skip (Po h)
def K1(h:Q .normal a w):Code.skip.wp P Q a w:=wp_skip h
def I0{x y:Code}{o:Operand}{β:Type}{X Y:Option β}{r:Option β}{b:Bool}(c:Cx B N σ Γ Φ a w)(h:(if b=true then X else Y)=r)(ht:X=r->x.wp P Q a w)(hf:Y=r->y.wp P Q a w)(hb:opd σ o=some (.bool b):=by kernel_rfl):
  (Code.cond o x y).wp P Q a w:=Bw c.fr hb (λhb=>ht (iteT hb h)) λhb=>hf (iteF hb h)
abbrev Lpt:=List (Nat×Value)×(List HP->List HP)×List RF
abbrev CxL(B:Bs)(N:Nat)(Γ:List HP)(Φ:List RF)(J:Lpt)(a:Act)(w:World):Prop:=Cx B N J.1 (J.2.1 Γ) (Φ++J.2.2) a w
theorem Lp{id:Nat}{b:Code}{σt ρt ι' κ:Type}{F:σt->Option (σt⊕ρt)}{n:Nat}{s0:σt}{r:ρt}(J:σt->ι'->Lpt)(M:κ->Lpt)(hit:iterN F n s0=some r)(c:Cx B N σ Γ Φ a w)(i0:ι')(h0:CxL B N Γ Φ (J s0 i0) a w)
  (round:∀s q i a w,CxL B N Γ Φ (J s i) a w->F s=some q->(∀r0,q= .inr r0->r0=r)->b.wp P (Exit.then (λa' w'=>∃s' i',q= .inl s'/\CxL B N Γ Φ (J s' i') a' w') (Exit.inBlock id (Exit.then (λa' w'=>∃k,CxL B N Γ Φ (M k) a' w') Q))) a w)
  (cont:∀k a w,CxL B N Γ Φ (M k) a w->K a w):(Code.block id (.loop b)).wp P (Exit.then K Q) a w:=
 wp_cut (wp_block (CV (Inv:=λs a w=>∃i,CxL B N Γ Φ (J s i) a w) hit ⟨i0,h0⟩ λs q a w hI hF hr=>by
  obtain⟨i,hi⟩:=hI;have:=round s q i a w hi hF hr;refine wp_mono this λe a w he=>?_;cases e with
  |normal=>obtain⟨s',i',h1,h2⟩:=he;exact⟨s',h1,i',h2⟩
  |_=>exact he)) λa w hI=>by
   grind
theorem LpR{id:Nat}{b:Code}{σt ρ1 ρ2 ι' κ:Type}{F:σt->Option (σt⊕(ρ1⊕ρ2))}{n:Nat}{s0:σt}{r:ρ1⊕ρ2}(J:σt->ι'->Lpt)(M:ρ1->κ->Lpt)(hit:iterN F n s0=some r)(c:Cx B N σ Γ Φ a w)(i0:ι')(h0:CxL B N Γ Φ (J s0 i0) a w)
  (round:∀s q i a w,CxL B N Γ Φ (J s i) a w->F s=some q->(∀r0,q= .inr r0->r0=r)->b.wp P (Exit.then (λa' w'=>∃s' i',q= .inl s'/\CxL B N Γ Φ (J s' i') a' w') (Exit.inBlock id (Exit.then (λa' w'=>∃s k,r= .inl s/\CxL B N Γ Φ (M s k) a' w') Q))) a w)
  (cont:∀s k a w,r= .inl s->CxL B N Γ Φ (M s k) a w->K a w):(Code.block id (.loop b)).wp P (Exit.then K Q) a w:=
 wp_cut (wp_block (CV (Inv:=λs a w=>∃i,CxL B N Γ Φ (J s i) a w) hit ⟨i0,h0⟩ λs q a w hI hF hr=>by
  obtain⟨i,hi⟩:=hI;have:=round s q i a w hi hF hr;refine wp_mono this λe a w he=>?_;cases e with
  |normal=>obtain⟨s',i',h1,h2⟩:=he;exact⟨s',h1,i',h2⟩
  |_=>exact he)) λa w hI=>by
   grind
def Nx{σt ρt ι':Type}{J:σt->ι'->Lpt}{s:σt}{q:σt⊕ρt}(h:some (Sum.inl s)=some q)(i:ι')(c:CxL B N Γ Φ (J s i) a w):∃s' i',q= .inl s'/\CxL B N Γ Φ (J s' i') a w:=⟨s,i,(Option.some.inj h).symm,c⟩
def tn(h:K a w):Exit.then K Q .normal a w:=h
def tr(h:Q .ret a w):Exit.then K Q .ret a w:=h
def te{i:Nat}(h:Q (.exit i) a w):Exit.then K Q (.exit i) a w:=h
def br{i:Nat}(h:Q .ret a w):Exit.inBlock i Q .ret a w:=h
def bk{i:Nat}(h:Q .normal a w):Exit.inBlock i Q .normal a w:=h
def be{i:Nat}(h:Q .normal a w):Exit.inBlock i Q (.exit i) a w:=Eh h
def bn{i j:Nat}(h:Q (.exit j) a w)(hn:(j==i)=false:=by rfl):Exit.inBlock i Q (.exit j) a w:=Ex hn h
def AllP.of{α:Type}{q:α->Prop}{l:List α}(h:AllP q l){x:α}(hx:x∈l):q x:=AllP.mem h hx
theorem Rz{id:Nat}{ops:Array Oper}{draw:Bool}(np:List (Nat×Pd))(hs:List (Nat×Nat))(hmix:P.follows .mixedOrders=true)(c:Cx B N σ Γ Φ a w)(hmono:AllP (λp=>p.2.Mono Non) np)
  (hnp:Good ops (pdsM P (bxsOf Γ Φ) hs ops σ np ops.size) []->AllP (λp=>(pdsM P (bxsOf Γ Φ) hs ops σ np ops.size).getD p.1 .any=p.2->NPB P draw (cond draw (masksN ops ops.size) []) ops (pdsM P (bxsOf Γ Φ) hs ops σ np ops.size) a w (Exit.then K Q) p.1) np)
  (h:∀fr w',Cx B N (outS ops σ (pdsM P (bxsOf Γ Φ) hs ops σ np ops.size) ops.size) Γ Φ fr w'->K fr w')
  (hst:(stat draw (cond draw (masksN ops ops.size) []) ops [] N&&statG ops (pdsM P (bxsOf Γ Φ) hs ops σ np ops.size) [])=true:=by kernel_rfl)
  (h1:(freeI np ops.size).map (λj=>(pureB P (bxsOf Γ Φ) hs ops σ (pdsM P (bxsOf Γ Φ) hs ops σ np ops.size) j).map (·.1))=(freeI np ops.size).map λj=>((pdsM P (bxsOf Γ Φ) hs ops σ np ops.size).getD j .any).val?:=by kernel_rfl)
  (h2:((freeI np ops.size).all λj=>((pdsM P (bxsOf Γ Φ) hs ops σ np ops.size).getD j .any).val?.isSome)=true:=by kernel_rfl)
  (h3:(freeI np ops.size).map (λj=>(pureB P (bxsOf Γ Φ) hs ops σ (pdsM P (bxsOf Γ Φ) hs ops σ np ops.size) j).map λr=>r.2.map (·.1))=(freeI np ops.size).map λj=>(pureB P (bxsOf Γ Φ) hs ops σ (pdsM P (bxsOf Γ Φ) hs ops σ np ops.size) j).map λr=>r.2.map (·.2):=by kernel_rfl):
  (Code.region id ops draw).wp P (Exit.then K Q) a w:=by
 have hck:ChkB P (bxsOf Γ Φ) hs ops σ np ops.size (pdsM P (bxsOf Γ Φ) hs ops σ np ops.size):=⟨h1,h2,h3⟩;have npsplit:∀j∈npIdx ops (isPB hs np ops.size),j<ops.size/\((∃p,np.lookup j=some p)\/(np.lookup j=none/\∃i,hs.lookup j=some i)):=λj hj=>by
  obtain⟨g1,g2⟩:=Ze6.1 hj;have hlt:=Ze7.1 g1;rw[Nf hlt]at g2;refine⟨hlt,?_⟩;cases hn:np.lookup j with
  |some p=>simp
  |none=>
   cases hh:hs.lookup j with
   |some i=>simp
   |none=>simp_all
 have pfree:∀j∈pIdx ops (isPB hs np ops.size),j<ops.size/\np.lookup j=none/\hs.lookup j=none:=λj hj=>by
  obtain⟨g1,g2⟩:=Ze6.1 hj;have hlt:=Ze7.1 g1;rw[Nf hlt]at g2;simpa[hlt]using g2
 refine ZaX _ (isPB hs np ops.size) _ [] hmix c.fr hst (ZeY.2 λj hj=>?_) (Zev.2 λj hj=>?_) ?_ (λhG=>?_) rfl λa' w' _ hE hc=>h a' w' ((c.ext hc).to ⟨hE.1.trans c.fr.defers,hE.2.1.trans c.fr.size,λt v hv=>Il c.fr hE ?_⟩)
 ·obtain⟨hlt,hn,hh⟩:=pfree j hj;obtain⟨v,e,g1,g2,_⟩:=hck.at hlt hn;unfold pureB at g1;rw[hh]at g1;cases hp:pureV P ops σ (pdsM P (bxsOf Γ Φ) hs ops σ np ops.size) j with
  |none=>simp_all
  |some u=>
   rw[hp]at g1;simp only[Ze0,Option.some.injEq,Prod.mk.injEq]at g1;rw[g2,g1.1];rfl
 ·obtain⟨hlt,hn,hh⟩:=pfree j hj;obtain⟨v,e,g1,g2,_⟩:=hck.at hlt hn;rw[g2];rfl
 ·exact NR λj hj=>by
   obtain⟨hlt,⟨p,hp⟩|⟨hn,i,hi⟩⟩:=npsplit j hj
   ·rw[SQ hlt hp];exact hmono.of (Ue hp)
   ·obtain⟨v,e,g1,g2,g3⟩:=hck.at hlt hn;rw[g2];exact Pd.mono_eq
 ·exact NR λj hj=>by
   obtain⟨hlt,⟨p,hp⟩|⟨hn,i,hi⟩⟩:=npsplit j hj
   ·exact(hnp hG).of (Ue hp) (SQ hlt hp)
   ·obtain⟨v,e,g1,g2,g3⟩:=hck.at hlt hn;exact GN c.bxs hG c.fr hi g1 g3 g2
 ·exact Eo hv
def Pd.nw{κ:Type}(w0:World)(tag:Nat)(V:κ->Value)(H:κ->HP):Pd:=.own λow v w=>∃i,v=V i/\(H i).ok w (λk=>w0.heap.size<=k/\k<w.heap.size/\ow k=tag)
def nwM{κ:Type}{w0:World}{tag:Nat}{V:κ->Value}{H:κ->HP}:(Pd.nw w0 tag V H).MonoO:=Zcl
def EndM.nw{κ:Type}{ops:Array Oper}{bx:Bxs}{hs:List (Nat×Nat)}{np:List (Nat×Pd)}{m tag:Nat}{ow:Nat->Nat}{w0:World}{V:κ->Value}{H:κ->HP}(hE:EndM ops (TT ops (instL ow (pdsM P bx hs ops σ np m))) a m a' w')(j d:Nat)
  (hp:np.lookup j=some (Pd.nw w0 tag V H):=by rfl)(hl:lastW ops d m=some j:=by rfl)(hg:guardOf ops j=none:=by rfl)(hj:Nat.blt j m=true:=by rfl):∃i,a'.eval (.tmp d)=V i/\(H i).ok w' (λk=>w0.heap.size<=k/\k<w'.heap.size/\ow k=tag):=by
 have h:=hE.is d j hl hg;rw[XB,SQ (Ze4.mp hj) hp]at h;exact h
theorem Rm{ops:Array Oper}(m:Nat)(np:List (Nat×Pd))(hs:List (Nat×Nat))(c:Cx B N σ Γ Φ a w)(hmono:AllP (λp=>p.2.MonoO) np)
  (hnp:∀ow,Good ops (instL ow (pdsM P (bxsOf Γ Φ) hs ops σ np m)) []->AllP (λp=>(instL ow (pdsM P (bxsOf Γ Φ) hs ops σ np m)).getD p.1 .any=p.2.inst ow->NPO P (masksN ops ops.size) ops (instL ow (pdsM P (bxsOf Γ Φ) hs ops σ np m)) a w Q ow p.1) np)
  (h:∀ow fr w',EndM ops (TT ops (instL ow (pdsM P (bxsOf Γ Φ) hs ops σ np m))) a m fr w'->Chg Non w w'->Cx B N (outS ops σ (pdsM P (bxsOf Γ Φ) hs ops σ np m) m) Γ Φ fr w'->wpFrom P ops Q m fr w')
  (hst:(stat true (masksN ops ops.size) ops [] N&&statG ops (pdsM P (bxsOf Γ Φ) hs ops σ np m) []&&sufB ops m)=true:=by kernel_rfl)
  (h1:(freeI np m).map (λj=>(pureB P (bxsOf Γ Φ) hs ops σ (pdsM P (bxsOf Γ Φ) hs ops σ np m) j).map (·.1))=(freeI np m).map λj=>((pdsM P (bxsOf Γ Φ) hs ops σ np m).getD j .any).val?:=by kernel_rfl)
  (h2:((freeI np m).all λj=>((pdsM P (bxsOf Γ Φ) hs ops σ np m).getD j .any).val?.isSome)=true:=by kernel_rfl)
  (h3:(freeI np m).map (λj=>(pureB P (bxsOf Γ Φ) hs ops σ (pdsM P (bxsOf Γ Φ) hs ops σ np m) j).map λr=>r.2.map (·.1))=(freeI np m).map λj=>(pureB P (bxsOf Γ Φ) hs ops σ (pdsM P (bxsOf Γ Φ) hs ops σ np m) j).map λr=>r.2.map (·.2):=by kernel_rfl):
  RA P ops Q a w:=by
 have hck:ChkB P (bxsOf Γ Φ) hs ops σ np m (pdsM P (bxsOf Γ Φ) hs ops σ np m):=⟨h1,h2,h3⟩;have npsplit:∀j∈npIdxM m (isPB hs np m),j<m/\((∃p,np.lookup j=some p)\/(np.lookup j=none/\∃i,hs.lookup j=some i)):=λj hj=>by
  obtain⟨g1,g2⟩:=Ze6.1 hj;have hlt:=Ze7.1 g1;rw[Nf hlt]at g2;refine⟨hlt,?_⟩;cases hn:np.lookup j with
  |some p=>simp
  |none=>
   cases hh:hs.lookup j with
   |some i=>simp
   |none=>simp_all
 have pfree:∀j∈pIdxM m (isPB hs np m),j<m/\np.lookup j=none/\hs.lookup j=none:=λj hj=>by
  obtain⟨g1,g2⟩:=Ze6.1 hj;have hlt:=Ze7.1 g1;rw[Nf hlt]at g2;simpa[hlt]using g2
 refine ZdZ m _ (isPB hs np m) _ [] c.fr hst (ZeY.2 λj hj=>?_) (Zev.2 λj hj=>?_) (Zev.2 λj hj=>?_) ?_ (λow hG=>?_) rfl λow a' w' _ hE hc=>h ow a' w' hE hc ((c.ext hc).to ⟨hE.1.trans c.fr.defers,hE.2.1.trans c.fr.size,λt v hv=>?_⟩)
 ·obtain⟨hlt,hn,hh⟩:=pfree j hj;obtain⟨v,e,g1,g2,_⟩:=hck.at hlt hn;unfold pureB at g1;rw[hh]at g1;cases hp:pureV P ops σ (pdsM P (bxsOf Γ Φ) hs ops σ np m) j with
  |none=>simp_all
  |some u=>
   rw[hp]at g1;simp only[Ze0,Option.some.injEq,Prod.mk.injEq]at g1;rw[g2,g1.1];rfl
 ·obtain⟨hlt,hn,hh⟩:=pfree j hj;obtain⟨v,e,g1,g2,_⟩:=hck.at hlt hn;rw[g2];rfl
 ·grind[BK]
 ·exact NR λj hj=>by
   obtain⟨hlt,⟨p,hp⟩|⟨hn,i,hi⟩⟩:=npsplit j hj
   ·rw[SQ hlt hp];exact hmono.of (Ue hp)
   ·obtain⟨v,e,g1,g2,g3⟩:=hck.at hlt hn;rw[g2];exact Pd.monoO_eq
 ·exact NR λj hj=>by
   obtain⟨hlt,⟨p,hp⟩|⟨hn,i,hi⟩⟩:=npsplit j hj
   ·exact(hnp ow hG).of (Ue hp) (by rw[XB,SQ hlt hp])
   ·obtain⟨v,e,g1,g2,g3⟩:=hck.at hlt hn;refine Zdu ow (GN (hs:=hs) c.bxs hG c.fr hi (v:=v) (e:=e) ?_ g3 (by rw[XB,g2];rfl));unfold pureB at g1⊢;rw[hi]at g1⊢;rw[IR];exact g1
 ·have:=Eo hv
  exact Df c.fr hE (by
   unfold outVm at this⊢;split at this
   ·rw[OL];exact this
   ·exact this)
def Cx.out(c:Cx B N σ Γ Φ a w)(i:ι)(gs fs:List Nat)(hg:gs.map (λj=>Γ[j]?)=(R i).2.1.map some)(hf:fs.map (λj=>Φ[j]?)=(R i).2.2.map some)(hn:gs.Nodup):Rp B R (.returned (tup (R i).1)) w:=by
 obtain⟨_,S,F,h1,h2,h3⟩:=c;exact⟨i,S,F,rfl,h1,h2.pick gs hn hg,h3.pick fs hf⟩
def Rt{t:Tmp}{v:Value}(c:Cx B N σ Γ Φ a w)(i:ι)(gs fs:List Nat)(hr:fn.results= #[.tmp t]:=by rfl)(hv:(R i).1=[v]:=by rfl)(hl:σ.lookup t=some v:=by kernel_rfl)(hg:gs.map (λj=>Γ[j]?)=(R i).2.1.map some:=by rfl)(hf:fs.map (λj=>Φ[j]?)=(R i).2.2.map some:=by rfl)
  (hn:gs.Nodup:=by decide):bodyPost P fn (Rp B R) .ret a w:=
 ret1 hr c.fr hl (by have:=c.out (R:=R) i gs fs hg hf hn;rw[hv]at this;exact this)
inductive RV'(P:Program)(σ:List (Nat×Value))(Γ:List HP)(Φ:List RF)(w:World):List ResultVar->List Value->Prop
 |nil:RV' P σ Γ Φ w [] []
 |tmp {t:Tmp} {v:Value} {rs:List ResultVar} {vs:List Value} (r:RV' P σ Γ Φ w rs vs) (h:σ.lookup t=some v:=by kernel_rfl):RV' P σ Γ Φ w (.tmp t::rs) (v::vs)
 |cell {t:Tmp} {ty bt:TypeId} {α:Type} [Rep α] {b:Nat} {cs:List Value} {v:Value} {rs:List ResultVar} {vs:List Value} (hty:Ty P ty α) (hb:Ava Γ Φ w (FX b bt cs)) (r:RV' P σ Γ Φ w rs vs) (h:σ.lookup t=some (.pointer (some ⟨b,0,none⟩)):=by kernel_rfl)
  (hl:cs.length=Rep.sz α:=by rfl) (hv:Rep.val α cs=v:=by rfl):RV' P σ Γ Φ w (.cell t ty::rs) (v::vs)
theorem RV'.out{rs:List ResultVar}{vs:List Value}(h:RV' P σ Γ Φ w rs vs)(c:Cx B N σ Γ Φ a w):Rets P σ w rs vs:=by
 induction h with
 |nil=>exact .nil
 |tmp r h ih=>exact .tmp h ih
 |cell hty hb r h hl hv ih=>exact .cell h hty (c.usebx hb) hl hv ih
theorem Zd1:∀vs:List Value,(if h:vs.toArray.size=1 then vs.toArray[0]else .tuple vs.toArray)=tup vs
 |[]=>rfl
 |[_]=>rfl
 |_::_::_=>rfl
def Rg{rs:List ResultVar}{vs:List Value}(c:Cx B N σ Γ Φ a w)(i:ι)(gs fs:List Nat)(hv:RV' P σ Γ Φ w rs vs)(hvs:vs=(R i).1:=by rfl)(hr:fn.results=rs.toArray:=by rfl)(hg:gs.map (λj=>Γ[j]?)=(R i).2.1.map some:=by rfl)
  (hf:fs.map (λj=>Φ[j]?)=(R i).2.2.map some:=by rfl)(hn:gs.Nodup:=by decide):bodyPost P fn (Rp B R) .ret a w:=
 retG hr c.fr (hv.out c) (Zd1 vs) (by have:=c.out (R:=R) i gs fs hg hf hn;simp_all)
def Pb(h:bodyPost P fn (Rp B R) .ret a w):bodyPost P fn (Rp B R) .normal a w:=h
end
def memN:List Nat->Nat->Bool
 |[],_=>false
 |x::l,j=>Nat.beq x j||memN l j
def restG(gs:List Nat):Nat->List HP->List HP
 |_,[]=>[]
 |j,x::l=>cond (memN gs j) (restG gs (j+1) l) (x::restG gs (j+1) l)
def rest(gs:List Nat)(Γ:List HP):List HP:=restG gs 0 Γ
theorem Lu(gs:List Nat)(j:Nat):memN gs j=gs.contains j:=by
 induction gs with
 |nil=>rfl
 |cons x l ih=>
  unfold memN;by_cases h:x=j
  ·subst h;simp
  grind[Nat.beq,absurd,Nat.eq_of_beq_eq_true]
theorem CZ(gs:List Nat)(Γ:List HP):rest gs Γ=((List.range Γ.length).filter λi=>!gs.contains i).filterMap λi=>Γ[i]?:=by
 have key:∀(l pre:List HP),restG gs pre.length l=((List.range' pre.length l.length).filter λi=>!gs.contains i).filterMap λi=>(pre++l)[i]?:=by
  intro l
  induction l with
  |nil=>intro pre;rfl
  |cons x l ih=>
   intro pre;have h:=ih (pre++[x]);simp only[Zeo,Zfk,Zez,ZeW]at h;grind[restG,Lu,List.length_cons,List.range'_succ]
 have:=key Γ [];simp_all[rest,List.range_eq_range']
theorem Sep.part{Γ Γ1:List HP}{w:World}{S:Nat->Prop}(gs:List Nat)(h:Sep Γ w S)(hg:gs.map (λi=>Γ[i]?)=Γ1.map some)(hn:gs.Nodup):Sep (Γ1++rest gs Γ) w S:=by
 let is:=gs++(List.range Γ.length).filter λi=>!gs.contains i
 have hd:is.Nodup:=List.nodup_append.2 ⟨hn,(List.nodup_range).filter _,λa ha b hb e=>by
  simp_all⟩
 refine h.pick is hd ?_;rw[Zfj,Zfj,hg];rw[CZ];have key:∀l:List Nat,(∀i∈l,i<Γ.length)->l.map (λi=>Γ[i]?)=(l.filterMap λi=>Γ[i]?).map some:=by
  intro l
  induction l with
  |nil=>intro _;rfl
  |cons i l ih=>
   simp_all
 simp_all
section
variable{P:Program}{B:Bs}{N:Nat}{σ:List (Nat×Value)}{Γ Γ1:List HP}{Φ Φ1:List RF}{a:Act}{w:World}{Q:Exit->Act->World->Prop}{ι:Type}{R:ι->Res}{args caps:List Value}{f:FuncId}
  {ops:Array Oper}{k d:Nat}{ty:TypeId}{pos:String}{af:Array Edge}{x:Operand}{xs:Array Operand}{ts:Array TypeId}
def Cx.calls(c:Cx B N σ Γ Φ a w)(gs:List Nat)(hcon:Con P f args Γ1 Φ1 R)(ro:AvaL (rest gs Γ) Φ w Φ1)(hg:gs.map (λi=>Γ[i]?)=Γ1.map some)(hn:gs.Nodup):
  Calls P f args.toArray w λe w'=>∃i,e= .returned (tup (R i).1)/\∀a' σ',FrS N σ' a'->Cx B N σ' (rest gs Γ++(R i).2.1) Φ a' w':=by
 obtain⟨_,S,F,hM,hs,hf⟩:=c;obtain⟨A,Rm,h1,h2,h3,h4,h5⟩:=(hs.part gs hg hn).split;have hfd:∀k,A k->¬(F k\/Rm k):=λk ha hf=>hf.elim (hM.dj k (h4 k ha)) (h3 k ha);refine(hcon w A (λk=>F k\/Rm k) h1 (AvaL.all ro h2 hf) (λk hk=>hM.bd k (h4 k hk)) (λk hk=>hk.elim (hM.bdF k) λhk=>hM.bd k (h5 k hk)) hfd).mono ?_;rintro e w' ⟨i,S',F',rfl,hM',hs',_⟩;refine⟨i,rfl,λa' σ' hF=>⟨hF,λk=>S' k\/Rm k,F,?_,?_,?_⟩⟩
 ·refine⟨hM.chg.trans' hM'.chg λk hk=>hM.sub k (h4 k hk),λk hk=>hk.elim (λhk=>(hM'.sub k hk).elim (λhk=>hM.sub k (h4 k hk)) λhk=>.inr (Zfh hM.chg.size hk)) λhk=>hM.sub k (h5 k hk),λk hk=>hk.elim (hM'.bd k) λhk=>Zeu (hM.bd k (h5 k hk)) hM'.chg.size,λk hk=>Zeu (hM.bdF k hk) hM'.chg.size,λk hk hf=>hk.elim (λhk=>?_) λhk=>hM.dj k (h5 k hk) hf,hM.dj0,hM.fz,hM.fsub⟩;rcases hM'.sub k hk with ha|ha
  ·simp_all
  ·exact Zf2 _ (Zeu (hM.bdF k hf) ha)
 ·refine Sep.join (h2.keep hM'.chg λk hr ha=>h3 k ha hr) hs' (λk _ hr ha=> ?_) (λk _ h=>.inr h) λk _ h=>.inl h;rcases hM'.sub k ha with h|h
  ·simp_all
  ·exact Zf2 _ (Zeu (hM.bd k (h5 k hr)) h)
 ·exact hf.chg hM'.chg λk hk ha=>hM.dj k (h4 k ha) hk
def Cx.callsF(c:Cx B N σ Γ Φ a w)(gs:List Nat)(hcon:Con P f args Γ1 Φ1 R)(ro:AvaL [] Φ w Φ1)(hg:gs.map (λi=>Γ[i]?)=Γ1.map some)(hn:gs.Nodup):
  Calls P f args.toArray w λe w'=>∃i,e= .returned (tup (R i).1)/\∀a' σ',FrS N σ' a'->Cx B N σ' (rest gs Γ++(R i).2.1) (Φ++(R i).2.2) a' w':=by
 obtain⟨_,S,F,hM,hs,hf⟩:=c;obtain⟨A,Rm,h1,h2,h3,h4,h5⟩:=(hs.part gs hg hn).split;have hfd:∀k,A k->¬F k:=λk ha hf=>hM.dj k (h4 k ha) hf;refine(hcon w A F h1 ((AvaL.all ro (Sep.nil w Non) hf).sub λ_ _ h=>h.elim id λh=>h.elim) (λk hk=>hM.bd k (h4 k hk)) hM.bdF hfd).mono ?_;rintro e w' ⟨i,S',F',rfl,hM',hs',hf'⟩;have hrn:∀k,Rm k->¬(A k\/w.heap.size<=k):=λk hr h=>h.elim (λha=>h3 k ha hr) λh=>Zf2 _ (Zeu (hM.bd k (h5 k hr)) h);refine⟨i,rfl,λa' σ' hF=>⟨hF,λk=>S' k\/Rm k,F',?_,?_,?_⟩⟩
 ·refine⟨hM.chg.trans' hM'.chg λk hk=>hM.sub k (h4 k hk),λk hk=>hk.elim (λhk=>(hM'.sub k hk).elim (λhk=>hM.sub k (h4 k hk)) λhk=>.inr (Zfh hM.chg.size hk)) λhk=>hM.sub k (h5 k hk),λk hk=>hk.elim (hM'.bd k) λhk=>Zeu (hM.bd k (h5 k hk)) hM'.chg.size,hM'.bdF,λk hk hf=>hk.elim (λhk=>hM'.dj k hk hf) λhk=>?_,hM.dj0,λk hk=>hM'.fz k (hM.fz k hk),λk hk=>?_⟩
  ·rcases hM'.fsub k hf with h|h
   ·exact hM.dj k (h5 k hk) h
   grind
  ·rcases hM'.fsub k hk with h|h|h
   ·exact hM.fsub k h
   ·exact .inr (hM.sub k (h4 k h))
   ·exact .inr (.inr (Zfh hM.chg.size h))
 ·refine Sep.join (h2.keep hM'.chg λk hr ha=>h3 k ha hr) hs' (λk _ hr ha=>hrn k hr (hM'.sub k ha)) (λk _ h=>.inr h) λk _ h=>.inl h
 ·exact((hf.chg hM'.chg λk hk ha=>hM.dj k (h4 k ha) hk).sub λk _ hk=>hM'.fz k hk).join hf'
def Ca(gs:List Nat)(c:Cx B N σ Γ Φ a w)(hcon:Con P f args Γ1 Φ1 R)(ro:AvaL (rest gs Γ) Φ w Φ1)(hf:∀(args:Array Value)(w:World),(callFunc f args).run P w= .ok (.enter f args) w)
  (h:∀i fr w',Cx B N ((d,tup (R i).1)::σ) (rest gs Γ++(R i).2.1) Φ fr w'->wpFrom P ops Q (k+1) fr w')
  (ho:ops[k]? =some ⟨some d,.call ⟨.value (.func f),xs,ts⟩,ty,pos,af,none⟩:=by rfl)(hd:Nat.blt d N=true:=by rfl)(hg:gs.map (λi=>Γ[i]?)=Γ1.map some:=by rfl)(hn:gs.Nodup:=by decide)
  (hargs:xs.toList.map (opd σ)=args.map some:=by kernel_rfl):wpFrom P ops Q k a w:=
 s_call args (R:=λv w'=>∃i,v=tup (R i).1/\∀a' σ',FrS N σ' a'->Cx B N σ' (rest gs Γ++(R i).2.1) Φ a' w') hf ho hd c.fr hargs ((c.calls gs hcon ro hg hn).mono λe w'⟨i,h1,h2⟩=>⟨_,h1,i,rfl,h2⟩)
  λv w' fr hR hF=>by grind
def Cf(gs:List Nat)(c:Cx B N σ Γ Φ a w)(hcon:Con P f args Γ1 Φ1 R)(ro:AvaL [] Φ w Φ1)(hf:∀(args:Array Value)(w:World),(callFunc f args).run P w= .ok (.enter f args) w)
  (h:∀i fr w',Cx B N ((d,tup (R i).1)::σ) (rest gs Γ++(R i).2.1) (Φ++(R i).2.2) fr w'->wpFrom P ops Q (k+1) fr w')
  (ho:ops[k]? =some ⟨some d,.call ⟨.value (.func f),xs,ts⟩,ty,pos,af,none⟩:=by rfl)(hd:Nat.blt d N=true:=by rfl)(hg:gs.map (λi=>Γ[i]?)=Γ1.map some:=by rfl)(hn:gs.Nodup:=by decide)
  (hargs:xs.toList.map (opd σ)=args.map some:=by kernel_rfl):wpFrom P ops Q k a w:=
 s_call args (R:=λv w'=>∃i,v=tup (R i).1/\∀a' σ',FrS N σ' a'->Cx B N σ' (rest gs Γ++(R i).2.1) (Φ++(R i).2.2) a' w') hf ho hd c.fr hargs ((c.callsF gs hcon ro hg hn).mono λe w'⟨i,h1,h2⟩=>⟨_,h1,i,rfl,h2⟩)
  λv w' fr hR hF=>by grind
def Cx.fz{α:Type}[Rep α]{E:TypeId}{v:Value}{l:List α}(i:Nat)(c:Cx B N σ Γ Φ a w)(hi:Γ[i]? =some (SL E v l):=by rfl):Cx B N σ (rest [i] Γ) (Φ++[RO v l]) a w:=by
 obtain⟨h,S,F,h1,h2,h3⟩:=c;have hp:=h2.part [i] (Γ1:=[SL E v l]) aH U;obtain⟨S',F',hM,hs,hr,hfz⟩:=Sep.freeze (L:=rest [i] Γ) hp h1;exact⟨h,S',F',hM,hs,(h3.sub λk _ hk=>hfz k hk).add (SL.rv hr)⟩
def Cx.fzb{b:Nat}{t:TypeId}{cs:List Value}(i:Nat)(c:Cx B N σ Γ Φ a w)(hi:Γ[i]? =some (BX b t cs):=by rfl):Cx B N σ (rest [i] Γ) (Φ++[FX b t cs]) a w:=by
 obtain⟨h,S,F,h1,h2,h3⟩:=c;have hp:=h2.part [i] (Γ1:=[BX b t cs]) aH U;obtain⟨S',F',hM,hs,hr,hfz⟩:=Sep.freeze (L:=rest [i] Γ) hp h1;exact⟨h,S',F',hM,hs,(h3.sub λk _ hk=>hfz k hk).add hr⟩
theorem Cx.dp(gs:List Nat)(c:Cx B N σ Γ Φ a w):Cx B N σ (rest gs Γ) Φ a w:=by
 obtain⟨h,S,F,h1,h2,h3⟩:=c;refine⟨h,S,F,h1,?_,h3⟩;rw[CZ];refine h2.pick ((List.range Γ.length).filter λi=>!gs.contains i) ((List.nodup_range).filter _) ?_;have key:∀l:List Nat,(∀i∈l,i<Γ.length)->l.map (λi=>Γ[i]?)=(l.filterMap λi=>Γ[i]?).map some:=by
  intro l
  induction l with
  |nil=>intro _;rfl
  |cons i l ih=>
   simp_all
 simp_all
def Cx.nil{α:Type}[Rep α](E:TypeId)(c:Cx B N σ Γ Φ a w):Cx B N σ (Γ++[SL E (.slice none 0 0) ([]:List α)]) Φ a w:=c.gam λS h=>Zn (Γ2:=[SL E (.slice none 0 0) ([]:List α)]) (h.cons_nil E)
end
end Go.GL
end
