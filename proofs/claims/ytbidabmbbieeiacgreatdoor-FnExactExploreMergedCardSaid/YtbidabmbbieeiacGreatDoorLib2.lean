/- Texts of this claim put into one: library or plain laws, without the program under test. -/
import Derived.Test.YtbidabmbbieeiacGreatDoorLib1
import Derived.ArgAppend
import Derived.Laws.BytesString
import Derived.Lib.LaidTab
import Derived.Shelf.Strconv.Itoa3
import Derived.Lib.AppendStr
import Derived.Lib.Builder
import Derived.Lib.Split
import Derived.Lib.SplitLaws
import Derived.Lib.SmallJoins
import Derived.KernelRfl
set_option linter.unusedSimpArgs false
set_option linter.unusedVariables false
section
namespace Go.GL
open Go.RowKit
section
variable{P:Program}{ms:List Nat}{ops:Array Oper}{T:(Nat→Nat)→Nat→Value→World→Prop}{S:Nat→Prop}{a0:Act}{w0:World}{Q:Exit→Act→World→Prop}
def JO(ms:List Nat)(ops:Array Oper)(T:(Nat→Nat)→Nat→Value→World→Prop)(S:Nat→Prop)(a0:Act)(w0:World)(L:Array Bool)(a:Act)(w:World):Prop:=
 ∃ow,J true ms ops [] (T ow) (fun _ _=>True) S a0 w0 L a w
theorem JO.size{L:Array Bool}{a:Act}{w:World}(h:JO ms ops T S a0 w0 L a w):L.size=ops.size:=h.elim fun _ h=>h.size
def PhO(ow:Nat→Nat)(j:Nat):Nat→World→Prop:=fun _ w=>∀k,w.heap.size≤k→ow k=j
theorem JO.step_wp{N:Nat}(hst:stat true ms ops [] N=true)(hN:a0.tmps.size=N)(hT:∀ow i v w w',T ow i v w→Chg S w w'→T ow i v w')(hO:∀ow ow' i v w,(∀k,k<w.heap.size→ow k=ow' k)→T ow i v w→T ow' i v w){L:Array Bool}{a:Act}{w:World}
  (hJ:JO ms ops T S a0 w0 L a w){j:Nat}(hj:j<ops.size)(hl:L.getD j false=false)(hb:∀i,bef true ms j i=true→L.getD i false=true)
  (ht:∀ow,Tri P true ms ops [] (T ow) (PhO ow j) S a0 w0 Q j):∃o,ops[j]? =some o∧if Region.wanted o (yielded ops a.tmps)then o.wp P a w (JO ms ops T S a0 w0 (L.setIfInBounds j true)) Q else JO ms ops T S a0 w0 (L.setIfInBounds j true) (a.put o.dst undef) w:=by
 obtain⟨ow,hJ⟩:=hJ
 let ow':Nat→Nat:=fun k=>if k<w.heap.size then ow k else j
 have hs:∀k,k<w.heap.size→ow k=ow' k:=fun k hk=>by simp[ow',hk]
 have hJ':J true ms ops [] (T ow') (PhO ow' j) S a0 w0 L a w:=⟨hJ.size,hJ.closed,hJ.defers,hJ.tsize,hJ.chg,fun k hk=>by simp[ow',Nat.not_lt.2 hk],fun t=>by
  have:=hJ.cur t;cases hl:lastL ops L t ops.size with
  |none=>rw[hl]at this;exact this
  |some i=>rw[hl]at this;exact hO _ _ _ _ _ hs this⟩
 obtain⟨o,ho,h⟩:=hJ'.step_wp hst hN (hT ow') hj hl hb (ht ow');have hconv:∀a w,J true ms ops [] (T ow') (PhO ow' j) S a0 w0 (L.setIfInBounds j true) a w→JO ms ops T S a0 w0 (L.setIfInBounds j true) a w:=fun a w h=>⟨ow',h.size,h.closed,h.defers,h.tsize,h.chg,trivial,h.cur⟩;refine⟨o,ho,?_⟩;split
 ·rename_i hw;rw[ZoD hw]at h;exact Oper.wp_mono hconv h
 ·rename_i hw;rw[ZoC hw]at h;exact hconv _ _ h
theorem JO.step{N:Nat}(hst:stat true ms ops [] N=true)(hN:a0.tmps.size=N)(hT:∀ow i v w w',T ow i v w→Chg S w w'→T ow i v w')(hO:∀ow ow' i v w,(∀k,k<w.heap.size→ow k=ow' k)→T ow i v w→T ow' i v w){L:Array Bool}{a:Act}{w:World}
  (hJ:JO ms ops T S a0 w0 L a w){j:Nat}(hj:j<ops.size)(hl:L.getD j false=false)(hb:∀i,bef true ms j i=true→L.getD i false=true)
  (ht:∀ow,Tri P true ms ops [] (T ow) (PhO ow j) S a0 w0 Q j):wpOp P ops Q j (JO ms ops T S a0 w0 (L.setIfInBounds j true)) a w:=by
 obtain⟨o,ho,h⟩:=hJ.step_wp hst hN hT hO hj hl hb ht;unfold wpOp;simp only[ho];split
 ·rename_i hw;rw[ZoD hw]at h;exact .inl h
 ·rename_i hw;rw[ZoC hw]at h;exact h
end
section
variable{P:Program}{ms:List Nat}{ops:Array Oper}{T:(Nat→Nat)→Nat→Value→World→Prop}{S:Nat→Prop}{a0:Act}{w0:World}{Q:Exit→Act→World→Prop}{m:Nat}
theorem ZlR{L:Array Bool}{n m:Nat}(hs:L.size=n)(hm:m≤n)(hL:∀i,L.getD i false=true↔i<m):L.toList.countP (fun b=>!b)=n-m:=by
 have e:L.toList=List.replicate m true++List.replicate (n-m) false:=by
  apply ZpH;intro i;rw[ZpE,ZpY,Zp4,Zp4];have h1:=hL i;by_cases hi:i<n
  ·have hi':i<L.size:=by omega
   simp only[ZoA,Zpx hi',Zpu]at h1;rw[Array.getElem?_toList,Zpx hi'];by_cases him:i<m
   ·rw[ZoD him,ZoD him,h1.2 him]
   ·rw[ZoC him,ZoD (by omega)];cases hb:L[i]with
    |false=>rfl
    |true=>exact absurd (h1.1 hb) him
  ·rw[Array.getElem?_toList,Zp9 (by omega),ZoC (by omega),ZoC (by omega)]
 rw[e,List.countP_append,List.countP_replicate,List.countP_replicate];simp
def EndM(ops:Array Oper)(T:Nat→Value→World→Prop)(a0:Act)(m:Nat)(a:Act)(w:World):Prop:=
 a.defers=a0.defers∧a.tmps.size=a0.tmps.size∧∀t,Know ops T a0 m t (a.eval (.tmp t)) w
theorem Zld{N:Nat}(hst:stat true ms ops [] N=true)(hsuf:sufB ops m=true)(hN:a0.tmps.size=N)(hT:∀ow i v w w',T ow i v w→Chg S w w'→T ow i v w')(hO:∀ow ow' i v w,(∀k,k<w.heap.size→ow k=ow' k)→T ow i v w→T ow' i v w)
  (ht:∀ow j,j<m→Tri P true ms ops [] (T ow) (PhO ow j) S a0 w0 Q j)(post:∀ow a w,EndM ops (T ow) a0 m a w→Chg S w0 w→wpList P ops Q (ops.toList.drop m) a w):
  ∀fuel(L:Array Bool)(a:Act)(w:World),Closed ops L→(∀i,L.getD i false=true→i<m)→(L.toList.countP (fun b=>!b)≤fuel)→JO ms ops T S a0 w0 L a w→wpAny P .any ops Q fuel L a w:=by
 have hst0:=hst;have hsuf0:=hsuf;unfold sufB at hsuf;simp only[ZoK,ZoS,ZoB,Zp1,ZoJ]at hsuf;obtain⟨hmn,hsuf⟩:=hsuf;unfold stat at hst;simp only[ZoB,ZoK,ZoJ,ZoF,ZoW,Zpf,ZoS]at hst;obtain⟨⟨⟨⟨⟨hms,hearly⟩,_⟩,heffs⟩,_⟩,_⟩:=hst;have hearly':∀j o,ops[j]? =some o→∀e∈o.after.toList,Region.binds .any e=true→e.on<j:=fun j o ho e he hb=>by
  have hj:j<ops.size:=(ZoU.1 ho).1;have h1:=hearly j hj e (by rw[ZoA,ho];exact he);simpa[hb]using h1
 have hready:∀(L:Array Bool)(i:Nat),L.size=ops.size→i∈Region.ready .any ops L→i<ops.size∧L.getD i false=false∧
   ∀o,ops[i]? =some o→∀e∈o.after.toList,Region.binds .any e=true→L.getD e.on false=true:=by
  intro L i hs hi;unfold Region.ready at hi;rw[ZoV,ZoS]at hi;obtain⟨h1,h2⟩:=hi;simp only[ZoB,ZpG]at h2;obtain⟨h2,h3⟩:=h2;refine⟨h1,?_,fun o ho e he hb=>?_⟩
  ·have hs':i<L.size:=by omega
   simpa[ZoA,hs']using h2
  ·rw[ho]at h3;simp only[ZoQ,Zpu,Zpb]at h3;have:=h3 e (by simpa using he);simpa[hb]using this
 have hswitch:∀fuel(L:Array Bool)(a:Act)(w:World),(∀i,L.getD i false=true→i<m)→(∀i,i<m→L.getD i false=true)→(L.toList.countP (fun b=>!b)≤fuel)→JO ms ops T S a0 w0 L a w→wpAny P .any ops Q fuel L a w:=by
  intro fuel L a w h1 h2 h3 hJ;have hL:∀i,L.getD i false=true↔i<m:=fun i=>⟨h1 i,h2 i⟩;have hc:=ZlR hJ.size hmn hL
  refine ZgT hsuf0 fuel m L a w (Nat.le_succ _) hJ.size hL hmn (by omega) (by
   obtain⟨ow,hJ⟩:=hJ;refine post ow a w ⟨hJ.defers,hJ.tsize,fun t=>?_⟩ hJ.chg;have:=hJ.cur t;rw[Zdh L t m ops.size hmn fun i _ _=>hL i]at this
   exact this)
 intro fuel
 induction fuel with
 |zero=>
  intro L a w _ hsub hcount hJ;refine hswitch 0 L a w hsub (fun i hi=>?_) hcount hJ;have h3:L.toList.countP (fun b=>!b)=0:=by omega
  rw[Zqx]at h3;have hs':i<L.size:=by rw[hJ.size];omega
  have hm:L[i]∈L.toList:=by simp
  have h4:=h3 _ hm;simpa[ZoA,hs']using h4
 | succ fuel ih=>
  intro L a w hcl hsub hcount hJ;by_cases hall:∀i,i<m→L.getD i false=true
  ·exact hswitch _ L a w hsub hall hcount hJ
  ·obtain ⟨x,hx⟩:=Classical.not_forall.1 hall
   have hxm:x<m:=by
    by_cases h:x<m
    ·exact h
    ·exact absurd (fun h'=>absurd h' h) hx
   have hxl:L.getD x false=false:=by
    cases h:L.getD x false with
    |false=>rfl
    |true=>exact absurd (fun _=>h) hx
   have hlow:∀i∈Region.ready .any ops L,i<m:=by
    intro i hi;obtain⟨h1,h2,h3⟩:=hready L i hJ.size hi;rcases ZpW i m with h|h
    ·exact h
    ·exfalso;have hm:=((hsuf i h1).2.resolve_left (by omega)) x (by omega);rw[ZaX ops ops.size i h1]at hm;have ho:ops[i]? =some (ops.getD i default):=by simp[ZoA,h1]
     have:=Zcw L hcl x i h1 hm (h3 _ ho);rw[hxl]at this;cases this
   refine⟨fun hr=>?_,fun i hi=>?_⟩
   ·
    exfalso
    have hleast:∀n,(∀i,i<n→i<m→L.getD i false=true)∨∃i,i<m∧L.getD i false=false∧∀j,j<i→L.getD j false=true:=by
     intro n
     induction n with
     |zero=>exact .inl fun i hi=>absurd hi (Nat.not_lt_zero _)
     | succ n ihn=>
      rcases ihn with h|h
      ·by_cases hn:n<m
       ·cases hl:L.getD n false with
        | true=>
         refine .inl fun i hi him=>?_;rcases ZpW i n with h'|h'
         ·exact h i h' him
         ·obtain rfl:i=n:=by omega
          exact hl
        |false=>exact .inr ⟨n,hn,hl,fun j hj=>h j hj (by omega)⟩
       ·exact .inl fun i hi him=>h i (by omega) him
      ·exact .inr h
    rcases hleast m with h|⟨i,him,hil,hij⟩
    ·exact absurd (h x hxm hxm) (by simp[hxl])
    ·have hi:i<ops.size:=by omega
     have hmem:i∈Region.ready .any ops L:=by
      unfold Region.ready;rw[ZoV];refine⟨ZoS.2 hi,?_⟩;have ho:ops[i]? =some ops[i]:=by simp[hi]
      have h2:((ops[i]).after.all fun e=>!Region.binds .any e||L.getD e.on false)=true:=by
       rw[Zpb];intro e he;cases hb:Region.binds .any e with
       |false=>rfl
       |true=>simp[hij _ (hearly' i _ ho e (by simpa using he) hb)]
      rw[ho];simp only[ZoQ,Zpu,h2,Zpz,ZpG];have hs':i<L.size:=by rw[hJ.size];exact hi
      simpa[ZoA,hs']using hil
     rw[hr]at hmem;cases hmem
   ·obtain⟨h1,h2,h3⟩:=hready L i hJ.size hi;have him:=hlow i hi;have hiL:i<L.size:=by rw[hJ.size];exact h1
    have ho:ops[i]? =some (ops.getD i default):=by simp[ZoA,h1]
    have hbef:∀h,bef true ms i h=true→L.getD h false=true:=fun h hb=>by
     unfold bef at hb;simp only[ZoO]at hb;rw[hms,ZaX ops ops.size i h1]at hb;exact Zcw L hcl h i h1 hb (h3 _ ho)
    refine wpOp_mono (fun a' w' hJ'=>ih _ a' w' ?_ ?_ ?_ hJ') (hJ.step hst0 hN hT hO h1 h2 hbef fun ow=>ht ow i him)
    ·intro j o hj hoj e he hb;have hmono:∀x,L.getD x false=true→(L.setIfInBounds i true).getD x false=true:=fun x hx=>by
      by_cases e:x=i
      ·subst e;rw[h2]at hx;cases hx
      ·simpa[ZoA,Ne.symm e]using hx
     by_cases ej:j=i
     ·subst ej;exact hmono _ (h3 o hoj e he hb)
     ·refine hmono _ (hcl j o ?_ hoj e he hb);simpa[ZoA,Ne.symm ej]using hj
    ·intro j hj;by_cases ej:j=i
     ·omega
     ·exact hsub j (by simpa[ZoA,Ne.symm ej]using hj)
    ·have hlt:(L.setIfInBounds i true).toList.countP (fun b=>!b)+1=L.toList.countP (fun b=>!b):=by
      rw[Zqe];have hl:i<L.toList.length:=by simpa using hiL
      have h5:L.toList[i]=false:=by
       simp[ZoA,hiL]at h2;simpa using h2
      rw[List.countP_set hl,h5];have hpos:0<L.toList.countP (fun b=>!b):=by
       rw[List.countP_pos_iff];exact⟨L.toList[i],Zph hl,by rw[h5];rfl⟩
      simp only[Zpr,ZoO,ZoF,Zo9,ZoG];omega
     omega
end
section
variable{P:Program}{ms:List Nat}{ops:Array Oper}{a0:Act}{w0:World}{Q:Exit→Act→World→Prop}{pds:List Pd}{σ:List (Nat×Value)}{N m:Nat}
def outVm(ops:Array Oper)(σ:List (Nat×Value))(pds:List Pd)(m t:Nat):Option Value:=
 match lastW ops t m with
 |some i=>if(guardOf ops i).isNone then valAt pds i else none
 |none=>σ.lookup t
def npIdxM(m:Nat)(isP:List Bool):List Nat:=(List.range m).filter fun j=>!(isP.getD j false)
def pIdxM(m:Nat)(isP:List Bool):List Nat:=(List.range m).filter fun j=>isP.getD j false
def Pd.inst(ow:Nat→Nat):Pd→Pd
 |.own p=>.is (p ow)
 |p=>p
def instL(ow:Nat→Nat)(pds:List Pd):List Pd:=pds.map (Pd.inst ow)
theorem Xl(ow:Nat→Nat)(pds:List Pd)(j:Nat):(instL ow pds).getD j .any=(pds.getD j .any).inst ow:=by
 unfold instL;rw[ZoL,ZoL,Zpj];cases pds[j]? <;>rfl
theorem ZfH(ow:Nat→Nat)(p:Pd):(p.inst ow).val? =p.val?:=by cases p<;>rfl
theorem ZhY(ow:Nat→Nat)(p:Pd)(b:Bool):(p.inst ow).boolIs b=p.boolIs b:=by cases p<;>rfl
theorem ZiE(ow:Nat→Nat)(p:Pd):(p.inst ow).isBool=p.isBool:=by cases p<;>rfl
theorem ZdI(ow:Nat→Nat)(pds:List Pd)(j:Nat):valAt (instL ow pds) j=valAt pds j:=by
 unfold valAt;rw[Xl,ZfH]
theorem Zhn(ow:Nat→Nat)(pds:List Pd)(j:Nat):envP ops σ (instL ow pds) j=envP ops σ pds j:=by
 funext x;cases x with
 |tmp t=>rw[Zet,Zet];simp only[ZdI]
 |_=>rfl
theorem Zk6(ow:Nat→Nat)(pds:List Pd)(j:Nat)(g:Option Nat)(b:Bool):envG ops σ (instL ow pds) j g b=envG ops σ pds j g b:=by
 funext x;cases x with
 |tmp t=>rw[ZfL,ZfL];simp only[ZdI]
 |_=>rfl
theorem Zjh(ow:Nat→Nat)(pds:List Pd)(j:Nat):pureV P ops σ (instL ow pds) j=pureV P ops σ pds j:=by
 unfold pureV;simp only[Zhn,Zk6]
theorem ZiU(ow:Nat→Nat)(pds:List Pd)(eff:List Nat):statG ops (instL ow pds) eff=statG ops pds eff:=by
 unfold statG;simp only[Xl,ZiE];simp[instL]
theorem Zf6(ow:Nat→Nat)(pds:List Pd):∀n j,gc ops (instL ow pds) n j=gc ops pds n j
 |0,_=>rfl
 |n+1,j=>by
  unfold gc;simp only[Xl,ZhY,Zf6 ow pds n]
def Pd.MonoO(p:Pd):Prop:=(∀ow,(p.inst ow).Mono Non)∧∀ow ow' v(w:World),(∀k,k<w.heap.size→ow k=ow' k)→(p.inst ow).sat v w→(p.inst ow').sat v w
theorem Pd.monoO_eq{v:Value}:(Pd.eq v).MonoO:=⟨fun _=>Pd.mono_eq,fun _ _ _ _ _ h=>h⟩
theorem Pd.monoO_is{p:Value→World→Prop}(h:(Pd.is p).Mono Non):(Pd.is p).MonoO:=⟨fun _=>h,fun _ _ _ _ _ h=>h⟩
def NPO(P:Program)(ms:List Nat)(ops:Array Oper)(pds:List Pd)(a0:Act)(w0:World)(Q:Exit→Act→World→Prop)(ow:Nat→Nat)(j:Nat):Prop:=NP P true ms ops [] pds (PhO ow j) Non a0 w0 Q j
theorem ZnM{j:Nat}(ow:Nat→Nat)(h:NPB P true ms ops pds a0 w0 Q j):NPO P ms ops pds a0 w0 Q ow j:=by
 intro o ho a w k h1 h2 hP hc hg hk K hK;exact h o ho a w k h1 h2 trivial hc hg hk K fun v w' hs hc' _=>hK v w' hs hc' fun x hx=>hP x (ZpA hc'.size hx)
theorem Zot(m:Nat)(ms:List Nat)(isP:List Bool)(pds:List Pd)(σ':List (Nat×Value))(hF:FrS N σ a0)(hst:(stat true ms ops [] N&&statG ops pds []&&sufB ops m)=true)
  (hp:(pIdxM m isP).map (pureV P ops σ pds)=(pIdxM m isP).map fun j=>(pds.getD j .any).val?)
  (hps:((pIdxM m isP).all fun j=>(pds.getD j .any).val?.isSome)=true)
  (hrest:((List.range ops.size).all fun j=>decide (j<m)||match pds.getD j .any with|.any=>true|_=>false)=true)
  (hmono:AllL (fun j=>(pds.getD j .any).MonoO) (npIdxM m isP))
  (hnp:∀ow,Good ops (instL ow pds) []→AllL (NPO P ms ops (instL ow pds) a0 w0 Q ow) (npIdxM m isP))
  (hout:σ'.map (fun p=>outVm ops σ pds m p.1)=σ'.map fun p=>some p.2)
  (post:∀ow a w,FrS N σ' a→EndM ops (TT ops (instL ow pds)) a0 m a w→Chg Non w0 w→wpFrom P ops Q m a w):RA P ops Q a0 w0:=by
 rw[ZoB,ZoB]at hst;obtain⟨⟨hst,hsg⟩,hsuf⟩:=hst;have hGo:∀ow,Good ops (instL ow pds) []:=fun ow=>Zhz (by rw[ZiU];exact hsg);have hmn:m≤ops.size:=by
  unfold sufB at hsuf;rw[ZoB]at hsuf;simpa using hsuf.1
 have hlen:pds.length=ops.size:=by
  unfold statG at hsg;rw[ZoB]at hsg;simpa using hsg.1
 have hmonoAll:∀j,(pds.getD j .any).MonoO:=by
  intro j;by_cases hj:j<m
  ·cases hb:isP.getD j false with
   |false=>exact hmono.mem (ZoV.2 ⟨ZoS.2 hj,by simp only[hb];rfl⟩)
   |true=>
    rw[ZoK]at hps;have:=hps j (ZoV.2 ⟨ZoS.2 hj,hb⟩);obtain⟨v,hv⟩:=ZpM.1 this;cases hpj:pds.getD j .any with
    |eq u=>exact Pd.monoO_eq
    |is p=>rw[hpj]at hv;cases hv
    |own p=>rw[hpj]at hv;cases hv
    |any=>exact⟨fun _=>Pd.mono_any,fun _ _ _ _ _ h=>h⟩
  ·have:pds.getD j .any= .any:=by
    by_cases hjs:j<ops.size
    ·rw[ZoK]at hrest;have:=hrest j (ZoS.2 hjs);simp only[hj,decide_false,ZoW]at this;split at this
     ·assumption
     ·cases this
    ·rw[ZoL,ZpB (by omega)];rfl
   rw[this];exact⟨fun _=>Pd.mono_any,fun _ _ _ _ _ h=>h⟩
 have hdst:∀d,(∃i,wr ops d i=true)→d<N:=by
  intro d ⟨i,hi⟩;have hst':=hst;unfold stat at hst';simp only[ZoB,ZoK,ZoS]at hst';have hil:=Zj2 hi;have:=hst'.2 i hil;have ho:ops[i]? =some ops[i]:=by simp[hil]
  rw[ZoA,ho]at this;unfold wr at hi;rw[ho]at hi;simp only[Zo8,Zpf]at hi;simpa[hi]using this
 unfold RA
 refine Zld (T:=fun ow=>TT ops (instL ow pds)) (S:=Non) hst hsuf hF.size (fun ow i v w w' ht hc=>⟨fun hg=>by rw[Xl];exact(hmonoAll i).1 ow v w w' (by have:=ht.1 hg;rw[Xl]at this;exact this) hc,ht.2⟩) (fun ow ow' i v w hag ht=>⟨fun hg=>by
  rw[Zf6]at hg;have:=ht.1 (by rw[Zf6];exact hg);rw[Xl]at this⊢
  exact(hmonoAll i).2 ow ow' v w hag this,fun hg=>ht.2 (by rw[Zf6]at hg⊢;exact hg)⟩) (fun ow j hj=>?_) (fun ow a w hE hc=>?_) ops.size _ a0 _ (fun j o hj=>?_) (fun i hi=>?_) ?_ ⟨fun _=>0,J.start (w0:=w0) (fun _ _=>trivial) _⟩
 ·refine Zhd (hGo ow) hF.size hdst ?_;cases hb:isP.getD j false with
  |false=>exact(hnp ow (hGo ow)).mem (ZoV.2 ⟨ZoS.2 hj,by simp only[hb];rfl⟩)
  |true=>
   have hm:j∈pIdxM m isP:=ZoV.2 ⟨ZoS.2 hj,hb⟩;rw[ZoK]at hps;have h1:=hps j hm;exact ZjV (hGo ow) hF (by simp) (by rw[Zjh,Xl,ZfH];exact Zpm.1 hp j hm) (by rw[Xl,ZfH];exact h1)
 ·have h:=post ow a w ⟨hE.1.trans hF.defers,hE.2.1.trans hF.size,fun t v hv=> ?_⟩ hE hc
  ·simpa[wpFrom]using h
  ·have hm:=Zcf hv;have h:=Zpm.1 hout _ hm;have h1:=hE.2.2 t;unfold Know at h1;unfold outVm at h;cases hl:lastW ops t m with
   |none=>simp only[hl]at h h1;rw[h1];exact hF.get t v h
   | some i=>
    simp only[hl]at h h1;split at h
    ·rename_i hg;have hi:=Zar hl;have hgi:gc ops (instL ow pds) ops.size i:=by
      obtain⟨k,hk⟩:∃k,ops.size=k+1:=⟨ops.size-1,by omega⟩;rw[hk];unfold gc;rw[Zpo]at hg;rw[hg];trivial
     have h2:=h1.1 hgi;rw[Xl]at h2;unfold valAt Pd.val? at h;split at h
     ·rename_i u hu;simp only[Option.some.injEq]at h;subst h;rw[hu]at h2;exact h2
     ·cases h
    ·cases h
 ·simp[ZoA,Zp0]at hj;split at hj<;>simp at hj
 ·simp[ZoA,Zp0]at hi;split at hi<;>simp at hi
 ·refine ZpA List.countP_le_length ?_;simp
end
theorem row_one{cur cs:List Value}{s p off:Nat}{u:Value}(hcs:cs.length=s)(hoff:off<s)(hfit:p+s≤cur.length)(heq:∀j,j<s→cur[p+j]? =cs[j]?):
  cur.take (p+off)++[u]++cur.drop (p+off+1)=cur.take p++cs.set off u++cur.drop (p+(cs.set off u).length):=by
 apply ZpH;simp only[ZpE,ZoT,Zpq,ZoP,Zpv,ZqF,Zpg,ZpC,ZpP,hcs];grind
section
variable{P:Program}{α:Type}[Flat α]{w:World}{E T:TypeId}{go:Option Nat}{G:Nat→Prop}{v:Value}{l:List α}
theorem OwnS.setCell_run(h:OwnS w E go G Non v l)(hE:Ty P E α){n off:Nat}{x x':α}(hx:l[n]? =some x)(hoff:off<Rep.sz α){u:Value}(h1:u.oneCell'=true)(hx':Flat.enc x'=(Flat.enc x).set off u)(hT:(P.info? T).map (·.size)=some 1):
  ∃g w',go=some g∧(∃c,v= .slice (some ⟨g,0,none⟩) l.length c)∧(storeVar T ((⟨g,0,none⟩:Addr).add (n*Rep.sz α+off)) u).run P w= .ok () w'∧OwnS w' E go G Non v (l.set n x')∧Chg (fun k=>go=some k) w w':=by
 have hn:n<l.length:=(ZoI.1 hx).1;obtain⟨g,w1,hgo,⟨c,hv⟩,hrun,ho,hc⟩:=h.set_run (P:=P) hE (Fr:=Non) (u:=Rep.val α (Flat.enc x')) (x:=x') ⟨_,Flat.iff.2 rfl,rfl⟩ (Fu:=Non) Zdo (fun _ _ h=>h.elim) hn;refine⟨g,w1,hgo,⟨c,hv⟩,?_,ho,hc⟩;obtain⟨F,css,g1,g2,g3,g4,g5⟩:=h;rcases g2.2 with⟨hv2,hz⟩|⟨g',cap,cur,hv2,hb,hg,hnc,hcm,hcs,htake⟩
 ·omega
 rw[hv]at hv2;simp only[Value.slice.injEq,Option.some.injEq,Addr.mk.injEq,Zqt,Zrk]at hv2;obtain⟨rfl,rfl⟩:=hv2;have hlenx:(Flat.enc x).length=Rep.sz α:=Rep.len (Flat.iff (w:=w) (F:=Non).2 rfl);have hlenx':(Flat.enc x').length=Rep.sz α:=Rep.len (Flat.iff (w:=w) (F:=Non).2 rfl);have hone':∀z∈Flat.enc x',z.oneCell'=true:=Rep.one (Flat.iff (w:=w) (F:=Non).2 rfl);have hvc:(Rep.val α (Flat.enc x')).cells=(Flat.enc x').toArray:=by
  unfold Rep.val;cases hh:Rep.agg α with
  |true=>rfl
  | false=>
   have hcl:=hlenx';rw[Rep.sgl hh]at hcl
   match hq:Flat.enc x',hcl with
   |[c],_=>
    have h1:=hone' c (by rw[hq];simp);simp only[Zo9,ZoG,List.headD_cons];cases c<;>simp_all[Value.cells,Value.oneCell']
 have hoffn:n*Rep.sz α+Rep.sz α≤l.length*Rep.sz α:=by
  rw[←ZqE];exact ZpS _ hn
 have hcap:l.length*Rep.sz α≤c*Rep.sz α:=ZpS _ hnc;have e1:=run_storeCells_at (P:=P) g (n*Rep.sz α) E (Flat.enc x') 0 cur w hg (by omega) hone';have e2:=run_storeCells_at (P:=P) g (n*Rep.sz α+off) E [u] 0 cur w hg (by grind) (by simp_all);simp only[Nat.add_zero]at e1 e2;have haddr:∀p,(⟨g,0,none⟩:Addr).add p=⟨g,p,none⟩:=fun p=>by simp_all[Addr.add]
 have r1:(storeVar E ((⟨g,0,none⟩:Addr).add (n*Rep.sz α)) (Rep.val α (Flat.enc x'))).run P w= .ok () (w.setRow g (cur.toList.take (n*Rep.sz α)++Flat.enc x'++cur.toList.drop (n*Rep.sz α+(Flat.enc x').length)).toArray):=by
  rw[haddr];unfold storeVar;simp only[Sem.run_bind,hE.sizeOf,Result.andThen_ok,hvc,Zqs,hlenx'];simp_all
 rw[hrun]at r1;simp only[Result.ok.injEq,Zrk]at r1;have hcu:u.cells= #[u]:=by cases u<;>simp_all[Value.cells,Value.oneCell']
 have r2:(storeVar T ((⟨g,0,none⟩:Addr).add (n*Rep.sz α+off)) u).run P w= .ok () (w.setRow g (cur.toList.take (n*Rep.sz α+off)++[u]++cur.toList.drop (n*Rep.sz α+off+1)).toArray):=by
  cases hinf:P.info? T with
  |none=>rw[hinf]at hT;cases hT
  |some inf=>
   rw[hinf]at hT;simp only[ZoQ,Option.some.injEq]at hT;rw[haddr];unfold storeVar;simp only[Sem.run_bind,sizeOf,typeInfo,hcu];simpa[hinf,hT]using e2
 rw[r2,r1];congr 3;rw[hx'];refine row_one (s:=Rep.sz α) hlenx hoff (by simp only[Zp2];rw[hcs];omega) fun j hj=>?_;have hxn:css[n]? =some (Flat.enc x):=by
  have hlt:n<css.length:=by rw[g1.1];exact hn
  rw[ZoE hlt];exact congrArg some (Flat.iff.1 (g1.2 n css[n] x (ZoE hlt) hx))
 have hj':j<(Flat.enc x).length:=by omega
 have:=Zcz (s:=Rep.sz α) g1.lens hxn (ZoE hj');rw[←htake,Zpg]at this;split at this
 ·rw[this,ZoE hj']
 ·cases this
variable{ops:Array Oper}{Q:Exit→Act→World→Prop}{a:Act}{w0:World}{S S0 F F0:Nat→Prop}{N:Nat}{σ:List (Nat×Value)}{k d d2:Nat}{t ty:TypeId}{x y:Operand}{pos:String}{af:Array Edge}{L:List HP}
theorem ZiW{t' s' ty' ty2:TypeId}{fl:Nat}{idx z:Operand}{pos' pos2:String}{af' af2:Array Edge}{kd:IntKind}{n:Int}{q q':α}{off:Nat}{u:Value}(i:Nat)(hs:Sep L w S)(hM:Mem w0 S0 F0 w S F)(hL:L[i]? =some (SL E v l))(ht:P.underlying t=some (.slice E))(hE:Ty P E α)
  (hop:ops[k]? =some ⟨some d,.indexAddr t x idx,ty,pos,af,none⟩)(hop2:ops[k+1]? =some ⟨some d2,.fieldAddr s' (.tmp d) fl,ty2,pos2,af2,none⟩)(hop':ops[k+2]? =some ⟨none,.store t' (.tmp d2) z,ty',pos',af',none⟩)(hd:Nat.blt d N=true)(hd2:Nat.blt d2 N=true)(hF:FrS N σ a)
  (hx:opd σ x=some v)(hi:opd σ idx=some (.int kd n))(hz:(match z with|.tmp s=>s !=d&&s !=d2|_=>true)=true)(hzu:opd σ z=some u)(hoff:fieldOff P s' fl=some off)(hlt:Nat.blt off (Rep.sz α)=true)(hT:(P.info? t').map (·.size)=some 1)(h1:u.oneCell'=true)
  (hq:get? l n=some q)(hu:Flat.enc q'=(Flat.enc q).set off u){r:List α}(hr:set? l n q'=some r)
  (h:∀w' S' fr p p2,Sep (L.set i (SL E v r)) w' S'→Stp w S w' S'→FrS N ((d2,p2)::(d,p)::σ) fr→wpFrom P ops Q (k+3) fr w'):wpFrom P ops Q k a w:=by
 obtain⟨A,hok,hup⟩:=hs.upd i hL hM;rcases hok with⟨go,ho⟩|⟨rfl,_,_⟩
 ·unfold set? at hr;split at hr
  ·rename_i hn;simp only[Option.some.injEq]at hr;subst hr;obtain⟨g,w',hgo,⟨c,rfl⟩,hrun,ho',hc⟩:=ho.setCell_run (P:=P) (T:=t') hE (get?_at hq) (ZoY.mp hlt) h1 hu hT;have hb:0≤n∧n<(l.length:Int):=⟨hn.1,by omega⟩;refine ZY hF hop rfl rfl (ZoY.mp hd) (R:=fun p w1=>p= .pointer (some ((⟨g,0,none⟩:Addr).add (n.toNat*Rep.sz α)))∧w=w1) (Zx ?_ ⟨rfl,rfl⟩) fun p w1 fr hp hF1=>?_
   ·simp[execOp,Instr.indexAt,Zt hF hx,Zt hF hi,asIntOf,run_underlying ht,hb,hE.sizeOf]
   ·obtain⟨rfl,rfl⟩:=hp;have hp1:=hF1.get d (.pointer (some ((⟨g,0,none⟩:Addr).add (n.toNat*Rep.sz α)))) (by simp)
    refine ZY hF1 hop2 rfl rfl (ZoY.mp hd2) (R:=fun p w1=>p= .pointer (some (((⟨g,0,none⟩:Addr).add (n.toNat*Rep.sz α)).add off))∧w=w1) (Zx (ZdJ (P:=P) (ρ:=fun y=>match y with|.tmp s=>if s=d then some (.pointer (some ((⟨g,0,none⟩:Addr).add (n.toNat*Rep.sz α))))else none|_=>none) (fun y z hy=>by
     grind) (by simp[pe,hoff]) w) ⟨rfl,rfl⟩) fun p2 w1 fr2 hp2 hF2=>?_
    obtain⟨rfl,rfl⟩:=hp2;have hz':fr2.eval z=u:=by
     cases z with
     |tmp s=>
      refine hF2.get s u ?_;have e1:(s==d2)=false:=by simp_all
      have e2:(s==d)=false:=by simp_all
      rw[Zpl,e1,Zpl,e2];exact hzu
     |const c=>simp_all[opd,Act.eval]
     |global c=>simp_all[opd,Act.eval]
     |func c=>simp_all[opd,Act.eval]
    refine ZcD hF2 hop' rfl rfl (R:=fun _ w2=>w2=w') (ZbW ?_ rfl) fun w2 hw2 hF3=>?_
    ·have hd1:=hF2.get d2 (.pointer (some (((⟨g,0,none⟩:Addr).add (n.toNat*Rep.sz α)).add off))) (by simp);simp_all[add_add,execOp,Instr.storeAt,Instr.sureAddr]
    ·obtain⟨_,rfl⟩:=hw2;obtain⟨S',hp,hs'⟩:=hup (w':=w2) (P':=SL E _ (l.set n.toNat q')) (hc.mono fun k hk=>ho.inG hk) (.inl ⟨go,ho'.regard fun k _ hk=>.inl hk⟩);grind
  ·cases hr
 grind[set?]
end
section
open Go.Maps
variable{P:Program}{k e t:TypeId}{κ β:Type}[Flat κ][Flat β][DecidableEq κ](T:MapT P k e κ β)
variable{ops:Array Oper}{Q:Exit→Act→World→Prop}{a:Act}{w w0:World}{S S0 F F0:Nat→Prop}{N:Nat}{σ:List (Nat×Value)}{j d:Nat}{ty:TypeId}{x y z:Operand}{pos:String}{af:Array Edge}{L:List HP}{b:Nat}{m:List (κ×β)}
theorem mget?_fit{κ β:Type}[DecidableEq κ]{fit:κ→Bool}{z y:β}{m:List (κ×β)}{x:κ}(h:mget? fit z m x=some y):fit x=true:=by
 simp_all[mget?]
theorem mget?_val{κ β:Type}[DecidableEq κ]{fit:κ→Bool}{z y:β}{m:List (κ×β)}{x:κ}(h:mget? fit z m x=some y):mget z m x=y:=by
 unfold mget? at h;split at h
 ·exact Option.some.inj h
 ·cases h
theorem Zkr(hs:Sep L w S)(hM:Mem w0 S0 F0 w S F)(hm:∀w,(Instr.makeMap t none).run P w= .ok (.map (some w.heap.size)) (w.alloc (.map #[] 0)))(hop:ops[j]? =some ⟨some d,.makeMap t none,ty,pos,af,none⟩)(hd:Nat.blt d N=true)(hF:FrS N σ a)
  (h:∀b w' S' fr,Sep (MP T b []::L) w' S'→Stp w S w' S'→FrS N ((d,.map (some b))::σ) fr→wpFrom P ops Q (j+1) fr w'):wpFrom P ops Q j a w:=by
 refine ZY hF hop rfl rfl (ZoY.mp hd) (Zhw rfl (hm w)) fun v w' fr hv hF'=>?_;obtain⟨S',hp,hs'⟩:=hs.new hM (Chg.alloc w (.map #[] 0)) (P:=MP T w.heap.size []) ⟨OwnM.made T,ZoH _⟩;grind
theorem Zl1(i:Nat)(hs:Sep L w S)(hL:L[i]? =some (MP T b m))(ht:P.underlying t=some (.map k e))(hop:ops[j]? =some ⟨some d,.lookup t x y false,ty,pos,af,none⟩)(hd:Nat.blt d N=true)(hF:FrS N σ a){u:κ}(hu:T.fit u=true)(hx:opd σ x=some (.map (some b))){vk:Value}(hy:opd σ y=some vk)(hk:Rep.val κ (Flat.enc u)=vk)
  {vr:Value}(hr:Rep.val β (Flat.enc (mget T.zero m u))=vr)(h:∀fr,FrS N ((d,vr)::σ) fr→wpFrom P ops Q (j+1) fr w):wpFrom P ops Q j a w:=by
 subst hk;exact ZY hF hop rfl rfl (ZoY.mp hd) (ZiC T rfl (hs.mp i hL) ht hu (Zt hF hx) (Zt hF hy)) fun v w' fr⟨h1,h2⟩hF'=>by simp_all
theorem mget2?_fit{κ β:Type}[DecidableEq κ]{fit:κ→Bool}{z:β}{y:β×Bool}{m:List (κ×β)}{x:κ}(h:mget2? fit z m x=some y):fit x=true:=by
 simp_all[mget2?]
theorem mget2?_val{κ β:Type}[DecidableEq κ]{fit:κ→Bool}{z:β}{y:β×Bool}{m:List (κ×β)}{x:κ}(h:mget2? fit z m x=some y):mget z m x=y.1∧(m.lookup x).isSome=y.2:=by
 unfold mget2? at h;split at h
 ·rw[←Option.some.inj h];exact⟨rfl,rfl⟩
 ·cases h
theorem mputE?_fit{κ β:Type}{fit:κ→Bool}{efit:β→Bool}{y:β}{m r:List (κ×β)}{x:κ}(h:mputE? fit efit m x y=some r):fit x=true:=by
 simp_all[mputE?]
theorem mputE?_efit{κ β:Type}{fit:κ→Bool}{efit:β→Bool}{y:β}{m r:List (κ×β)}{x:κ}(h:mputE? fit efit m x y=some r):efit y=true:=by
 simp_all[mputE?]
theorem mputE?_val{κ β:Type}{fit:κ→Bool}{efit:β→Bool}{y:β}{m r:List (κ×β)}{x:κ}(h:mputE? fit efit m x y=some r):r=(x,y)::m:=by
 grind[mputE?,Option.some.inj]
theorem mputE?_len{κ β:Type}{fit:κ→Bool}{efit:β→Bool}{y:β}{m r:List (κ×β)}{x:κ}(h:mputE? fit efit m x y=some r):m.length<maxLen:=by
 grind[mputE?,room,maxLen]
theorem Zlz(i:Nat)(hs:Sep L w S)(hM:Mem w0 S0 F0 w S F)(hL:L[i]? =some (MP T b m))(ht:P.underlying t=some (.map k e))(hop:ops[j]? =some ⟨none,.mapUpdate t x y z,ty,pos,af,none⟩)(hF:FrS N σ a){u:κ}(hu:T.fit u=true)(q:β)(he:T.efit q=true)(hm:m.length<maxLen)(hx:opd σ x=some (.map (some b)))
  {vk:Value}(hy:opd σ y=some vk)(hk:Rep.val κ (Flat.enc u)=vk){vr:Value}(hz:opd σ z=some vr)(hr:Rep.val β (Flat.enc q)=vr)
  (h:∀w' S',Sep (L.set i (MP T b ((u,q)::m))) w' S'→Stp w S w' S'→FrS N σ a→wpFrom P ops Q (j+1) a w'):wpFrom P ops Q j a w:=by
 subst hr;subst hk;obtain⟨A,hok,hup⟩:=hs.upd i hL hM;refine ZcD hF hop rfl rfl (Zi6 T rfl hok.1 ht hu q he hm (Zt hF hx) (Zt hF hy) (Zt hF hz)) fun w'⟨_,h1,h2⟩hF'=>?_;obtain⟨S',hp,hs'⟩:=hup (P':=MP T b ((u,q)::m)) (h2.mono fun k hk=>by subst hk;exact hok.2) ⟨h1,.inl hok.2⟩;grind
theorem Zjc{draw:Bool}{ms:List Nat}{a0:Act}{pds:List Pd}{dst:Option Tmp}{g:Option (Nat×Bool)}(i:Nat)(hs:Sep L w S)(hL:L[i]? =some (MP T b m))(ht:P.underlying t=some (.map k e))(hG:Good ops pds [])(hF:FrS N σ a0)(ho:ops[j]? =some ⟨dst,.lookup t x y true,ty,pos,af,g⟩)
  {u:κ}(hx:envP ops σ pds j x=some (.map (some b))){vk:Value}(hy:envP ops σ pds j y=some vk)(hk:Rep.val κ (Flat.enc u)=vk)(hu:gc ops pds ops.size j→T.fit u=true)
  {r:β×Bool}(hr:gc ops pds ops.size j→mget T.zero m u=r.1∧(m.lookup u).isSome=r.2){vr:Value}(hvr: .tuple #[Rep.val β (Flat.enc r.1),.bool r.2]=vr)(hpd:pds.getD j .any= .eq vr):NPB P draw ms ops pds a0 w Q j:=
 Zdi _ ho hG hF fun a w' hC hg hv _=>(ZhC T rfl ((hs.ext hC).mp i hL) ht (hu hg) (hv x _ (by simp[Op.operands]) hx) (by simp_all[Op.operands])).mono fun v w''⟨h1,h2⟩=>by
  subst h1;subst h2;rw[hpd,←hvr,←(hr hg).1,←(hr hg).2];exact⟨rfl,Chg.refl _ _⟩
end
end Go.GL
end
section
namespace Go.GL
open Go.RowKit
section
variable{P:Program}{a:Act}{w:World}{N:Nat}{σ:List (Nat×Value)}
inductive Rets(P:Program)(σ:List (Nat×Value))(w:World):List ResultVar→List Value→Prop
 |nil:Rets P σ w [] []
 |tmp {t:Tmp} {v:Value} {rs:List ResultVar} {vs:List Value} (h:σ.lookup t=some v) (r:Rets P σ w rs vs):Rets P σ w (.tmp t::rs) (v::vs)
 |cell {t:Tmp} {ty bt:TypeId} {α:Type} [Rep α] {b:Nat} {cs:List Value} {v:Value} {rs:List ResultVar} {vs:List Value} (h:σ.lookup t=some (.pointer (some ⟨b,0,none⟩))) (hty:Ty P ty α) (hb:Box w b bt cs) (hl:cs.length=Rep.sz α) (hv:Rep.val α cs=v) (r:Rets P σ w rs vs):Rets P σ w (.cell t ty::rs) (v::vs)
def getRes(a:Act):ResultVar→Sem Value
 |.tmp t=>pure (a.tmps.getD t undef)
 |.cell a' t=>do loadVar t (←asAddr (a.tmps.getD a' undef))
theorem Zm5{rs:List ResultVar}{vs:List Value}(hF:FrS N σ a)(h:Rets P σ w rs vs):(rs.mapM (getRes a)).run P w= .ok vs w:=by
 induction h with
 |nil=>simp
 |tmp h r ih=>
  have h1:=hF.get _ _ h;simp_all[Act.eval,Zq4,getRes]
 |cell h hty hb hl hv r ih=>
  have h1:=hF.get _ _ h;simp only[Act.eval]at h1;have h2:=Y7 hty (ad:=⟨_,0,none⟩) hl hb.cells;simp_all[Zq4,getRes,asAddr]
theorem retG{fn:Func}{R:Ending→World→Prop}{rs:List ResultVar}{vs:List Value}{v:Value}(hr:fn.results=rs.toArray)(hF:FrS N σ a)(hv:Rets P σ w rs vs)(hval:(if h:vs.toArray.size=1 then vs.toArray[0]else .tuple vs.toArray)=v)(h:R (.returned v) w):
  bodyPost P fn R .ret a w:=by
 refine⟨hF.defers,v,?_,h⟩;have:=Zm5 (P:=P) hF hv;have e:(results fn a.tmps).run P w=((rs.toArray.mapM (getRes a)).run P w).andThen fun vs w=>(pure (if h:vs.size=1 then vs[0]else .tuple vs):Sem Value).run P w:=by
  unfold results;rw[hr,Sem.run_bind];rfl
 simp_all
end
section
variable{P:Program}{draw:Bool}{ms:List Nat}{ops:Array Oper}{a0:Act}{w0:World}{Q:Exit→Act→World→Prop}{pds:List Pd}{σ:List (Nat×Value)}{N j:Nat}{dst:Option Tmp}{g:Option (Nat×Bool)}
  {t ty:TypeId}{x y:Operand}{pos:String}{af:Array Edge}{ι:Type}{V:ι→Value}{H:ι→HP}{ow:Nat→Nat}
theorem Zmb:(Pd.own fun ow v w=>∃i,v=V i∧(H i).ok w (fun k=>w0.heap.size≤k∧k<w.heap.size∧ow k=j)).MonoO:=
  ⟨fun ow v w w'⟨i,h1,h2⟩hc=>⟨i,h1,(H i).mono ((H i).keep h2 hc fun _ _=>id) fun k hk hh=>⟨hh.1,hk,hh.2.2⟩⟩,
   fun ow ow' v w hag⟨i,h1,h2⟩=>⟨i,h1,(H i).mono h2 fun k hk hh=>⟨hh.1,hh.2.1,by grind⟩⟩⟩
theorem Zn0(o:Oper)(ho:ops[j]? =some o)(hG:Good ops pds [])(hF:FrS N σ a0)
  (hd:∀a w,Chg Non w0 w→gc ops pds ops.size j→(∀x v,x∈o.op.operands→envP ops σ pds j x=some v→a.eval x=v)→(∀t,Operand.tmp t∈o.op.operands→Know ops (TT ops pds) a0 j t (a.eval (.tmp t)) w)→Does P o a w fun v w'=>(∃i,v=V i∧(H i).ok w' (fun k=>w.heap.size≤k))∧Chg Non w w')
  (hpd:pds.getD j .any= .is fun v w=>∃i,v=V i∧(H i).ok w (fun k=>w0.heap.size≤k∧k<w.heap.size∧ow k=j)):NPO P ms ops pds a0 w0 Q ow j:=by
 intro o' ho' a w k _ _ hP hC hg hk K hK;rw[ho]at ho';obtain rfl:=Option.some.inj ho';refine hd a w hC hg (fun x v hx hv=>Zd2 hG hF ho hg hk hx hv) (fun t ht=>hk t (Zb2 ht)) K Q fun v w'⟨⟨i,h1,h2⟩,h3⟩=>hK v w' ?_ h3 fun x hx=>hP x (ZpA h3.size hx);rw[hpd];exact⟨i,h1,(H i).mono h2 fun k hk hge=>⟨ZpA hC.size hge,hk,hP k hge⟩⟩
theorem Zof(o:Oper)(ho:ops[j]? =some o)(hG:Good ops pds [])(hF:FrS N σ a0)
  (hd:∀a w,Chg Non w0 w→gc ops pds ops.size j→(∀x v,x∈o.op.operands→envP ops σ pds j x=some v→a.eval x=v)→Does P o a w fun v w'=>(∃i,v=V i∧(H i).ok w' (fun k=>w.heap.size≤k))∧Chg Non w w')
  (hpd:pds.getD j .any= .is fun v w=>∃i,v=V i∧(H i).ok w (fun k=>w0.heap.size≤k∧k<w.heap.size∧ow k=j)):NPO P ms ops pds a0 w0 Q ow j:=
 Zn0 o ho hG hF (fun a w h1 h2 h3 _=>hd a w h1 h2 h3) hpd
theorem Zoa{α:Type}[Rep α]{E:TypeId}{n:Nat}{parts:Array (Nat×Operand)}(cells:List Value)(css:List (List Value))(l:List α)(hG:Good ops pds [])(hF:FrS N σ a0)(ho:ops[j]? =some ⟨dst,.buildSlice t n parts,ty,pos,af,g⟩)
  (vals:List Value)(hv:parts.toList.map (fun p=>envP ops σ pds j p.2)=vals.map some)
  (hrun:∀w,(Instr.buildSlice t n ((parts.toList.map (·.1)).zip vals).toArray).run P w= .ok (.slice (some ⟨w.heap.size,0,none⟩) n n) (w.alloc (.cells cells.toArray E)))
  (hcss:∀w,Css w Non css l)(hfl:css.flatten=cells)(hln:l.length=n)(hmax:Nat.ble l.length room=true)
  (hpd:pds.getD j .any= .is fun v w=>∃i:Option Addr×Nat,v= .slice i.1 (List.length l) i.2∧(SL E (.slice i.1 (List.length l) i.2) l).ok w (fun k=>w0.heap.size≤k∧k<w.heap.size∧ow k=j)):NPO P ms ops pds a0 w0 Q ow j:=
 Zof (V:=fun i:Option Addr×Nat=>.slice i.1 (List.length l) i.2) (H:=fun i=>SL E (.slice i.1 (List.length l) i.2) l) _ ho hG hF (fun a w _ hg hvv=>by
  have hmax':l.length≤maxLen:=by
   have:=Zqu hmax;grind[room,maxLen]
  have hown:=Zkg (w:=w) (E:=E) (G:=fun k=>w.heap.size≤k) (FF:=Non) (hcss w) hfl hmax' (ZoH _) (fun _ _ h=>h);refine Zx (v:=.slice (some ⟨w.heap.size,0,none⟩) l.length l.length) (w':=w.alloc (.cells cells.toArray E)) ?_ ⟨⟨(some ⟨w.heap.size,0,none⟩,l.length),rfl,.inl ⟨_,hown⟩⟩,Chg.alloc _ _⟩;have e:(parts.map fun p=>(p.1,a.eval p.2))=((parts.toList.map (·.1)).zip vals).toArray:=by
   have key:∀(ps:List (Nat×Operand))(vs:List Value),(∀p∈ps,p.2∈(Op.buildSlice t n parts).operands)→ps.map (fun p=>envP ops σ pds j p.2)=vs.map some→ps.map (fun p=>(p.1,a.eval p.2))=(ps.map (·.1)).zip vs:=by
    intro ps
    induction ps with
    |nil=>simp
    | cons p ps ih=>intro vs hm h;cases vs with
     |nil=>simp at h
     |cons v vs=>
      grind[List.cons.injEq,List.zip_cons_cons,List.mem_cons_of_mem,List.mem_cons_self]
   grind[Op.operands]
  simp_all[execOp]) hpd
def AllP{α:Type}(q:α→Prop):List α→Prop
 |[]=>True
 |x::l=>q x∧AllP q l
theorem AllP.mem{α:Type}{q:α→Prop}{x:α}:∀{l:List α},AllP q l→x∈l→q x
 |_::_,h,hm=>by
  cases hm with
  |head=>exact h.1
  |tail _ hm=>exact AllP.mem h.2 hm
theorem sepO{w:World}(l:List (Nat×HP))(hn:(l.map (·.1)).Nodup)(h:AllP (fun p=>p.2.ok w (fun k=>w0.heap.size≤k∧k<w.heap.size∧ow k=p.1)) l){L:List HP}(hL:l.map (·.2)=L):Sep L w (fun k=>w0.heap.size≤k∧k<w.heap.size):=by
 subst hL;refine⟨fun i k=>∃p,l[i]? =some p∧w0.heap.size≤k∧k<w.heap.size∧ow k=p.1,fun i P hi=>?_,fun i j k hne⟨p,hp,_,_,h1⟩⟨q,hq,_,_,h2⟩=>?_⟩
 ·rw[Zpj]at hi;cases hp:l[i]? with
  |none=>simp_all
  |some p=>
   rw[hp]at hi;simp only[ZoQ,Option.some.injEq]at hi;subst hi;exact⟨p.2.mono (h.mem (Zpd hp)) fun k _ hk=>⟨p,hp,hk⟩,fun k⟨q,_,h1,h2,_⟩=>⟨h1,h2⟩⟩
 ·refine hne (Zj8 hn (x:=p.1) ?_ ?_)
  all_goals grind
theorem Znv{w w':World}(hc:Chg Non w w'):Stp w Non w' (fun k=>w.heap.size≤k∧k<w'.heap.size):=⟨hc,fun _ hk=>.inr hk.1,fun _ hk=>hk.2⟩
theorem EndM.is{m:Nat}{a:Act}{w:World}(hE:EndM ops (TT ops pds) a0 m a w)(t i:Nat)(hl:lastW ops t m=some i)(hg:guardOf ops i=none):(pds.getD i .any).sat (a.eval (.tmp t)) w:=by
 have h1:=hE.2.2 t;unfold Know at h1;rw[hl]at h1;refine h1.1 ?_;have hi:=Zar hl;obtain⟨m,hm⟩:∃m,ops.size=m+1:=⟨ops.size-1,by have:=Zj2 hi.2;omega⟩;simp_all[gc]
end
theorem Sep.front{α:Type}[Flat α]{w w0:World}{S S0 F F0:Nat→Prop}{L:List HP}{E:TypeId}{b:Option Addr}{len0 c:Nat}{n:Int}{l r:List α}(i:Nat)(hs:Sep L w S)(hM:Mem w0 S0 F0 w S F)(hL:L[i]? =some (SL E (.slice b len0 c) l))(hr:cut? l 0 n=some r):
  ∃S',Stp w S w S'∧Sep (L.set i (SL E (.slice b (List.length r) c) r)) w S':=by
 obtain⟨A,hok,hup⟩:=hs.upd i hL hM;unfold cut? at hr;split at hr
 ·simp only[ZqP,Zpp,Option.some.injEq]at hr;have hlen:r.length=n.toNat:=by grind
  refine hup (P':=SL E (.slice b (List.length r) c) r) (Chg.refl _ _) ?_;rcases hok with⟨go,ho⟩|⟨rfl,b',hb'⟩
  ·obtain⟨a',c',hv⟩:=ho.slice;obtain⟨rfl,rfl,rfl⟩:=hv;refine .inl ⟨go,?_⟩;rw[hlen,←hr];exact(ho.front (by omega)).regard fun k _ hk=>.inl hk
  ·obtain⟨rfl,rfl,rfl⟩:=hb';have h0:r=[]:=by simp_all
   exact .inr ⟨h0,b,by rw[h0];rfl⟩
 ·cases hr
end Go.GL
namespace Go.GL
theorem Sep.relen{w:World}{S:Nat→Prop}{L:List HP}{α:Type}[Rep α]{E:TypeId}{a:Option Addr}{n c:Nat}{l:List α}(i:Nat)(h:Sep L w S)(hi:L[i]? =some (SL E (.slice a n c) l)):n=l.length∧Sep (L.set i (SL E (.slice a l.length c) l)) w S:=by
 obtain⟨A,h1,h2⟩:=h.get i hi;have e:n=l.length:=by
  rcases h1 with⟨go,h1⟩|⟨rfl,a',h1⟩
  ·obtain⟨a',c',hv⟩:=h1.slice;simp_all
  simp_all
 have:L.set i (SL E (.slice a l.length c) l)=L:=by
  apply ZpH;grind
 simp_all
end Go.GL
namespace Go.GL
theorem Zm4{α:Type}[Rep α]{w:World}{F:Nat→Prop}{a:Option Addr}{n c:Nat}{l:List α}(h:RV w F (.slice a n c) l)(ha:a=none):l=[]:=by
 obtain⟨a',c',hv,_,_,hne⟩:=h.slice;grind
theorem Zj1{α:Type}{l r:List α}(hl:l=[])(h:((app? ([]:List α) l).bind fun x=>some x)=some r):some ([]:List α)=some r:=by
 grind[app?]
theorem Zhh{P:Program}(t:TypeId)(x y:Operand)(a b:Option Addr)(n m c d:Nat)(w:World):(eqGuard .eql t x y (.slice a n c) (.slice b m d)).run P w= .ok () w:=by
 rfl
theorem nil_eq{P:Program}{t e:TypeId}(ht:P.underlying t=some (.slice e))(a:Option Addr)(n c:Nat)(w:World):(binOp .eql t (.slice a n c) (.slice none 0 0)).run P w= .ok (.bool (Option.isNone a)) w:=by
 have h:(Op.equalIn (9999+1) t (.slice a n c) (.slice none 0 0)).run P w= .ok (Option.isNone a) w:=by
  unfold Op.equalIn;cases a<;>simp[run_underlying ht]
 simp_all[binOp,Op.equal,Op.maxDepth,Sem.run_bind,Sem.run_pure]
end Go.GL
namespace Go.GL
def HP.sep(L:List HP):HP:={ok:=Sep L,mono:=fun h hA=>h.mono hA,keep:=fun h hc hT=>h.keep hc hT}
theorem Sep.flat{w:World}{S:Nat→Prop}{L1 L2:List HP}(h:Sep (HP.sep L1::L2) w S):Sep (L1++L2) w S:=by
 obtain⟨A,R,h1,h2,h3,h4,h5⟩:=Sep.split (L1:=[HP.sep L1]) (L2:=L2) h;obtain⟨B,g1,g2⟩:=h1.get 0 rfl;exact Sep.join (L1:=L1) g1 h2 (fun k _ ha hr=>h3 k (g2 k ha) hr) (fun k _ h=>h4 k (g2 k h)) (fun k _ h=>h5 k h)
section
variable{P:Program}{ops:Array Oper}{Q:Exit→Act→World→Prop}{a:Act}{w:World}{L:Array Bool}
theorem Zkw{id:Nat}{l:List Oper}(hmix:P.follows .mixedOrders=true)(h:∀w',Chg Non w w'→wpAny P .any l.toArray Q l.toArray.size (Array.replicate l.toArray.size false) a w'):(Code.region id l.toArray true).wp P Q a w:=
 wp_region_any hmix (h _ (Chg.drew w))
theorem ZkB{o:Oper}{K' K:Act→World→Prop}(hk:∀a w,K' a w→K a w)(h:o.wp P a w K' (Exit.then K Q)):o.wp P a w K Q:=by
 unfold Oper.wp at*;generalize (execOp a.eval o).run P w=r at*;cases r with
 | ok n w=>
  cases n with
  |value v=>exact hk _ w h
  |skip=>exact hk _ w h
  |defer d=>exact hk _ w h
  |enter f args=>
   refine Calls.mono h fun e w' he=>?_;cases e with
   |returned v=>simp_all
   |panicked c=>exact he
   |outgrown=>exact he
  |row r args=>exact Rows.mono h fun v w' he=>hk _ w' he
  |_=>exact h
 |halt hh w=>
  cases hh with
  |panic v=>exact h
  |_=>exact h
theorem Zd{i:Nat}{K:Act→World→Prop}(o:Oper)(ho:ops[i]? =some o)(hg:o.guard=none)(h:wpFrom P #[o] (Exit.then K Q) 0 a w):wpOp P ops Q i K a w:=by
 unfold wpOp;simp only[ho];have hw:∀y,Region.wanted o y=true:=fun y=>by simp_all[Region.wanted]
 rw[ZoD (hw _)];unfold wpFrom at h;simp only[Zpp]at h;unfold wpList at h;rw[ZoD (hw _)]at h;rcases h with h|⟨h1,h2⟩
 ·grind[ZkB,wpList,Exit.then]
 ·exact .inr ⟨h1,h2⟩
end
end Go.GL
namespace Go.GL
def FB(w:World)(F:Nat→Prop)(b:Nat)(t:TypeId)(cs:List Value):Prop:=Box w b t cs∧F b
section
variable{w w' w0:World}{F F' F0 S S' S0:Nat→Prop}{b:Nat}{t:TypeId}{cs:List Value}
theorem FB.ext(h:FB w F b t cs)(hc:Chg Non w w'):FB w' F b t cs:=⟨h.1.ext hc,h.2⟩
theorem FB.stp(h:FB w F b t cs)(hM:Mem w0 S0 F0 w S F)(hp:Stp w S w' S'):FB w' F b t cs:=⟨h.1.chg hp.chg fun hs=>hM.dj b hs h.2,h.2⟩
theorem FB.mem(h:FB w0 F0 b t cs)(hM:Mem w0 S0 F0 w S F):FB w F b t cs:=⟨h.1.chg hM.chg fun hs=>hM.dj0 b hs h.2,hM.fz b h.2⟩
theorem FB.big(h:FB w F b t cs)(hf:∀k,F k→F' k):FB w F' b t cs:=⟨h.1,hf b h.2⟩
theorem FB.sub(h:FB w F b t cs)(hf:∀k,k<w.heap.size→F k→F' k):FB w F' b t cs:=⟨h.1,hf b h.1.lt h.2⟩
theorem RV.len{α:Type}[Rep α]{a:Option Addr}{n c:Nat}{l:List α}(h:RV w F (.slice a n c) l):n=l.length:=by
 obtain⟨a',c',hv,_⟩:=h.slice;simp_all
end
end Go.GL
namespace Go.GL
section
variable{P:Program}{a:Act}{w:World}{N:Nat}{σ:List (Nat×Value)}
theorem ZlX{Q:Exit→Act→World→Prop}{x y:Code}{c:Operand}{b:Bool}(σ':List (Nat×Value))(hF:FrS N σ a)(hc:opd σ c=some (.bool b))(ht:b=true→x.wp P (fun e a' w'=>e= .normal∧w'=w∧FrS N σ' a') a w)(hf:b=false→y.wp P (fun e a' w'=>e= .normal∧w'=w∧FrS N σ' a') a w)
  (h:∀a',FrS N σ' a'→Q .normal a' w):(Code.cond c x y).wp P Q a w:=
 Zlh hF hc (fun hb=>wp_mono (ht hb) fun e a' w'⟨h1,h2,h3⟩=>by simp_all) (fun hb=>wp_mono (hf hb) fun e a' w'⟨h1,h2,h3⟩=>by simp_all)
end
end Go.GL
namespace Go.GL
theorem FrS.eqs{N:Nat}{σ σ':List (Nat×Value)}{a:Act}(h:FrS N σ a)(e:σ=σ'):FrS N σ' a:=e▸h
end Go.GL
end
section
namespace Go.GL
open Go.RowKit
section
variable{P:Program}{ops:Array Oper}{Q:Exit→Act→World→Prop}{a:Act}{w:World}{N:Nat}{σ:List (Nat×Value)}{k d:Nat}{t yt ty:TypeId}{x y:Operand}{pos:String}{af:Array Edge}{m n z:Int}{kd kk:IntKind}{s:Str}
theorem ZkO(ht:P.underlying t=some .string)(hz:sidx? s n=some z)(w:World):(Instr.index t s.val (.int kd n)).run P w= .ok (.int .u8 z) w:=by
 unfold sidx? at hz;split at hz
 ·rename_i h0;cases hb:s.bytes[n.toNat]? with
  |none=>rw[hb]at hz;cases hz
  | some b=>
   rw[hb]at hz;simp only[ZoQ,Option.some.injEq]at hz;subst hz;have e:(⟨s.bytes.toArray⟩:ByteArray)[n.toNat]? =some b:=by
    have hlt:n.toNat<s.bytes.length:=(ZoI.1 hb).1;have hlt':n.toNat<(⟨s.bytes.toArray⟩:ByteArray).size:=by simpa[ByteArray.size]using hlt
    rw[getElem?_pos (⟨s.bytes.toArray⟩:ByteArray) n.toNat hlt'];have:=(ZoI.1 hb).2;refine congrArg some ?_;rw[←this];show(⟨s.bytes.toArray⟩:ByteArray).data[n.toNat]=_;simp
   simp[Instr.index,asIntOf,run_underlying ht,Str.val,h0,e]
 ·cases hz
theorem Zdy{o:Oper}(ho:o.op= .index t x y)(ht:P.underlying t=some .string)(hx:a.eval x=s.val)(hy:a.eval y= .int kd n)(hz:sidx? s n=some z):Does P o a w fun v w'=>v= .int .u8 z∧w'=w:=by
 refine Zx (v:=.int .u8 z) (w':=w) ?_ ⟨rfl,rfl⟩;obtain⟨dst,op,type,pos,after,guard⟩:=o;simp only at ho;subst ho;simp[execOp,hx,hy,ZkO ht hz w]
theorem Zne(ht:P.underlying t=some .string)(ho:ops[k]? =some ⟨some d,.index t x y,ty,pos,af,none⟩)(hd:Nat.blt d N=true)(hF:FrS N σ a)(hx:opd σ x=some s.val)(hy:opd σ y=some (.int kd n))(hz:sidx? s n=some z)
  (h:∀fr,FrS N ((d,.int .u8 z)::σ) fr→wpFrom P ops Q (k+1) fr w):wpFrom P ops Q k a w:=
 ZY hF ho rfl rfl (ZoY.mp hd) (Zdy rfl ht (Zt hF hx) (Zt hF hy) hz) fun _ _ fr⟨hv,hw⟩hF'=>by subst hv;subst hw;exact h fr hF'
end
section
variable{P:Program}{draw:Bool}{ms:List Nat}{ops:Array Oper}{a0:Act}{w0:World}{Q:Exit→Act→World→Prop}{pds:List Pd}{σ:List (Nat×Value)}{N j:Nat}{dst:Option Tmp}{g:Option (Nat×Bool)}
  {t yt ty:TypeId}{x y:Operand}{pos:String}{af:Array Edge}{m n z:Int}{kd kk:IntKind}{s:Str}
theorem Zht(hG:Good ops pds [])(hF:FrS N σ a0)(ht:P.underlying t=some .string)(ho:ops[j]? =some ⟨dst,.index t x y,ty,pos,af,g⟩)(hx:envP ops σ pds j x=some s.val)(hy:envP ops σ pds j y=some (.int kd n))
  (hz:gc ops pds ops.size j→sidx? s n=some z)(hpd:pds.getD j .any= .eq (.int .u8 z)):NPB P draw ms ops pds a0 w0 Q j:=
 Zdi _ ho hG hF fun _ w _ hg hv _=>(Zdy rfl ht (hv x _ (by simp[Op.operands]) hx) (hv y _ (by simp[Op.operands]) hy) (hz hg)).mono fun v w'⟨h1,h2⟩=>by
  subst h1;subst h2;rw[hpd];exact⟨rfl,Chg.refl _ _⟩
end
end Go.GL
end
section
namespace Go.GL
open Go.RowKit
section
variable{P:Program}{ops:Array Oper}{Q:Exit→Act→World→Prop}{a a0:Act}{w w0:World}{N:Nat}{σ:List (Nat×Value)}{k d j:Nat}{t ty:TypeId}{x y:Operand}{pos:String}{af:Array Edge}{α:Type}[Rep α]{b off:Nat}{bt:TypeId}{cs ps:List Value}
  {draw:Bool}{ms:List Nat}{pds:List Pd}{dst:Option Tmp}{g:Option (Nat×Bool)}
theorem Box.part(h:Box w b bt cs)(hp:(cs.drop off).take ps.length=ps):Cells w ⟨b,off,none⟩ ps:=fun j u hu=>by
 have e:(⟨b,off,none⟩:Addr).add j=(⟨b,0,none⟩:Addr).add (off+j):=by unfold Addr.add;split<;>simp_all
 rw[e];refine h.cells (off+j) u ?_;rw[←hp]at hu;rw[Zpg]at hu;split at hu
 ·rw[ZpC]at hu;exact hu
 ·cases hu
end
section
variable{P:Program}{draw:Bool}{ms:List Nat}{ops:Array Oper}{a0:Act}{w0:World}{Q:Exit→Act→World→Prop}{pds:List Pd}{σ:List (Nat×Value)}{N j:Nat}{dst:Option Tmp}{g:Option (Nat×Bool)}
  {t ty:TypeId}{x y:Operand}{pos:String}{af:Array Edge}{ow:Nat→Nat}
open Classical in
theorem Zhm:(Pd.is fun v(_:World)=>∃b,v= .slice b 0 0).Mono Non:=fun _ _ _ h _=>h
section
open Go.Maps
variable{k e:TypeId}{κ β:Type}[Flat κ][Flat β][DecidableEq κ](T:MapT P k e κ β)
end
end
end Go.GL
namespace Go.GL
open Go.RowKit
section
variable{P:Program}{draw:Bool}{ms:List Nat}{ops:Array Oper}{a0:Act}{w0:World}{Q:Exit→Act→World→Prop}{pds:List Pd}{σ:List (Nat×Value)}{N j:Nat}{dst:Option Tmp}{g:Option (Nat×Bool)}
  {t ty:TypeId}{pos:String}{af:Array Edge}
end
end Go.GL
end
section
namespace Go.GL
open Go.RowKit
structure Hd where
 a:Option Addr
 n:Nat
 c:Nat
def Hd.v(h:Hd):Value:=.slice h.a h.n h.c
instance:Rep Hd where
 sz:=1
 agg:=false
 ok:=fun _ _ cs x=>cs=[x.v]
 len:=by simp
 one:=by rintro w F cs x rfl u hu;simp at hu;subst hu;rfl
 pos:=by decide
 sgl:=fun _=>rfl
 keep:=fun h _=>h
instance:Flat Hd where
 enc:=fun x=>[x.v]
 iff:=Iff.rfl
def HP.pure(p:Prop):HP:={ok:=fun _ _=>p,mono:=fun h _=>h,keep:=fun h _ _=>h}
def HP.ex{ι:Type}(P:ι→HP):HP:={ok:=fun w A=>∃i,(P i).ok w A,mono:=fun⟨i,h⟩hA=>⟨i,(P i).mono h hA⟩,keep:=fun⟨i,h⟩hc hT=>⟨i,(P i).keep h hc hT⟩}
def HP.two(P Q:HP):HP where
 ok w A:=∃B C:Nat→Prop,P.ok w B∧Q.ok w C∧(∀k,B k→C k→False)∧∀k,B k∨C k→A k
 mono:=fun{w A A'}⟨B,C,h1,h2,h3,h4⟩hA=>⟨fun k=>B k∧k<w.heap.size,fun k=>C k∧k<w.heap.size,P.mono h1 fun _ hk h=>⟨h,hk⟩,Q.mono h2 fun _ hk h=>⟨h,hk⟩,fun k h h'=>h3 k h.1 h'.1,fun k h=>h.elim (fun h=>hA k h.2 (h4 k (.inl h.1))) fun h=>hA k h.2 (h4 k (.inr h.1))⟩
 keep:=fun⟨B,C,h1,h2,h3,h4⟩hc hT=>⟨B,C,P.keep h1 hc fun k h=>hT k (h4 k (.inl h)),Q.keep h2 hc fun k h=>hT k (h4 k (.inr h)),h3,h4⟩
def HP.all{R α:Type}(own:R→α→HP):List R→List α→HP
 |[],[]=>.pure True
 |r::rs,x::xs=>.two (own r x) (HP.all own rs xs)
 |_,_=>.pure False
def HP.but{R α:Type}(own:R→α→HP)(i:Nat)(rs:List R)(xs:List α):HP:=.two (.all own (rs.take i) (xs.take i)) (.all own (rs.drop (i+1)) (xs.drop (i+1)))
section
variable{w:World}{A:Nat→Prop}{P Q P' Q':HP}
theorem HP.big{A':Nat→Prop}(h:P.ok w A)(hA:∀k,A k→A' k):P.ok w A':=P.mono h fun k _=>hA k
theorem Zd4(h1:∀A,P.ok w A→P'.ok w A)(h2:∀A,Q.ok w A→Q'.ok w A)(h:(HP.two P Q).ok w A):(HP.two P' Q').ok w A:=by
 obtain⟨B,C,a,b,c,d⟩:=h;exact⟨B,C,h1 B a,h2 C b,c,d⟩
theorem Zdz(h:(HP.two P Q).ok w A):(HP.two Q P).ok w A:=by
 obtain⟨B,C,a,b,c,d⟩:=h;exact⟨C,B,b,a,fun k h h'=>c k h' h,fun k h=>d k h.symm⟩
theorem ZeR{R:HP}(h:(HP.two P (.two Q R)).ok w A):(HP.two (.two P Q) R).ok w A:=by
 obtain⟨B,C,a,⟨D,E,b,c,d,e⟩,f,g⟩:=h;exact⟨fun k=>B k∨D k,E,⟨B,D,a,b,fun k h h'=>f k h (e k (.inl h')),fun _ h=>h⟩,c,fun k h h'=>h.elim (fun h=>f k h (e k (.inr h'))) fun h=>d k h h',fun k h=>g k (h.elim (fun h=>h.elim .inl fun h=>.inr (e k (.inl h))) fun h=>.inr (e k (.inr h)))⟩
theorem ZcW(h:(HP.two P Q).ok w A):P.ok w A:=by
 obtain⟨B,C,a,b,c,d⟩:=h;exact P.big a fun k hk=>d k (.inl hk)
theorem ZcX(h:(HP.two P Q).ok w A):Q.ok w A:=ZcW (Zdz h)
theorem Zf3(h:P.ok w A)(hq:Q.ok w Non):(HP.two P Q).ok w A:=⟨A,Non,h,hq,fun _ _ h=>h.elim,fun _ h=>h.elim id fun h=>h.elim⟩
theorem ZhI(h:Q.ok w A)(hp:P.ok w Non):(HP.two P Q).ok w A:=Zdz (Zf3 h hp)
variable{R α:Type}{own:R→α→HP}{rs rs':List R}{xs xs':List α}
theorem Ze0(h:(HP.all own rs xs).ok w A):rs.length=xs.length:=by
 induction rs generalizing xs A with
 |nil=>cases xs with
  |nil=>rfl
  |cons=>exact h.elim
 |cons r rs ih=>cases xs with
  |nil=>exact h.elim
  |cons x xs=>simp[ih (ZcX h)]
theorem all_append(h:(HP.two (.all own rs xs) (.all own rs' xs')).ok w A):(HP.all own (rs++rs') (xs++xs')).ok w A:=by
 induction rs generalizing xs A with
 |nil=>cases xs with
  |nil=>grind[ZcX]
  |cons=>exact(ZcW h).elim
 | cons r rs ih=>cases xs with
  |nil=>exact(ZcW h).elim
  |cons x xs=>
   obtain⟨B,C,⟨D,E,a,b,c,d⟩,e,f,g⟩:=h;exact⟨D,fun k=>E k∨C k,a,ih ⟨E,C,b,e,fun k h h'=>f k (d k (.inr h)) h',fun _ h=>h⟩,fun k h h'=>h'.elim (c k h) (f k (d k (.inl h))),fun k h=>g k (h.elim (fun h=>.inl (d k (.inl h))) fun h=>h.elim (fun h=>.inl (d k (.inr h))) .inr)⟩
theorem ZkN(n:Nat)(h:(HP.all own rs xs).ok w A):(HP.two (.all own (rs.take n) (xs.take n)) (.all own (rs.drop n) (xs.drop n))).ok w A:=by
 induction rs generalizing xs A n with
 |nil=>cases xs with
  |nil=>simp only[List.take_nil,List.drop_nil];exact Zf3 h trivial
  |cons=>exact h.elim
 | cons r rs ih=>cases xs with
  |nil=>exact h.elim
  | cons x xs=>
   cases n with
   |zero=>exact ZhI h trivial
   |succ n=>
    obtain⟨B,C,a,b,c,d⟩:=h;exact ZeR ⟨B,C,a,ih n b,c,d⟩
theorem all_cons{r:R}{x:α}:HP.all own (r::rs) (x::xs)= .two (own r x) (.all own rs xs):=rfl
theorem ZeP{i:Nat}{r:R}{x:α}(h:(HP.all own rs xs).ok w A)(hr:rs[i]? =some r)(hx:xs[i]? =some x):(HP.two (own r x) (.but own i rs xs)).ok w A:=by
 have h1:=ZkN i h;have e1:rs.drop i=r::rs.drop (i+1):=by
  grind[List.getElem?_eq_some_iff,List.drop_eq_getElem_cons]
 have e2:xs.drop i=x::xs.drop (i+1):=by
  grind[List.getElem?_eq_some_iff,List.drop_eq_getElem_cons]
 rw[e1,e2,all_cons]at h1;have h2:=ZeR h1;have h3:=Zd4 (fun A h=>Zdz h) (fun A h=>h) h2;obtain⟨B,C,⟨D,E,a,b,c,d⟩,e,f,g⟩:=h3;exact⟨D,fun k=>E k∨C k,a,⟨E,C,b,e,fun k h h'=>f k (d k (.inr h)) h',fun _ h=>h⟩,fun k h h'=>h'.elim (c k h) (f k (d k (.inl h))),fun k h=>g k (h.elim (fun h=>.inl (d k (.inl h))) fun h=>h.elim (fun h=>.inl (d k (.inr h))) .inr)⟩
theorem Ziy{i:Nat}{r:R}{x:α}(hi:i<rs.length)(hi':i<xs.length)(h:(HP.two (own r x) (.but own i rs xs)).ok w A):(HP.all own (rs.set i r) (xs.set i x)).ok w A:=by
 have e1:rs.set i r=rs.take i++(r::rs.drop (i+1)):=by simp_all[Zqn,ZoD]
 have e2:xs.set i x=xs.take i++(x::xs.drop (i+1)):=by simp_all[Zqn,ZoD]
 rw[e1,e2];refine all_append ?_;have h1:=ZeR h;have h2:=Zd4 (fun A h=>Zdz h) (fun A h=>h) h1;obtain⟨B,C,⟨D,E,a,b,c,d⟩,e,f,g⟩:=h2;exact⟨D,fun k=>E k∨C k,a,⟨E,C,b,e,fun k h h'=>f k (d k (.inr h)) h',fun _ h=>h⟩,fun k h h'=>h'.elim (c k h) (f k (d k (.inl h))),fun k h=>g k (h.elim (fun h=>.inl (d k (.inl h))) fun h=>h.elim (fun h=>.inl (d k (.inr h))) .inr)⟩
theorem ZmW{i:Nat}{r:R}{x:α}(hi:i<xs.length)(h:(HP.two (own r x) (.all own rs xs)).ok w A):(HP.all own (rs.set i r) (xs.set i x)).ok w A:=by
 have hl:=Ze0 (ZcX h);refine Ziy (by omega) hi (Zd4 (fun _ h=>h) (fun A h=>?_) h);obtain⟨r0,hr0⟩:∃r0,rs[i]? =some r0:=⟨rs[i],ZoE (by omega)⟩;obtain⟨x0,hx0⟩:∃x0,xs[i]? =some x0:=⟨xs[i],ZoE hi⟩;exact ZcX (ZeP h hr0 hx0)
theorem Zj4{i:Nat}{r:R}{x:α}(h:(HP.all own rs xs).ok w A)(hr:rs[i]? =some r)(hx:xs[i]? =some x):(own r x).ok w A:=ZcW (ZeP h hr hx)
theorem Zk2{r:R}{x:α}(hr:∀w,(own r x).ok w Non)(n:Nat)(w:World):(HP.all own (List.replicate n r) (List.replicate n x)).ok w Non:=by
 induction n with
 |zero=>trivial
 |succ n ih=>exact Zf3 (hr w) ih
end
section
variable{w w0:World}{S S0 F F0:Nat→Prop}{L:List HP}{P Q R:HP}
theorem Sep.cons_ok(h:Sep (P::L) w S):∃A B,P.ok w A∧Sep L w B∧(∀k,A k→B k→False)∧(∀k,A k→S k)∧∀k,B k→S k:=by
 obtain⟨A,B,h1,h2,h3,h4,h5⟩:=Sep.split (L1:=[P]) (L2:=L) h;obtain⟨C,g1,g2⟩:=h1.get 0 rfl;grind
theorem Sep.of_ok{A:Nat→Prop}(h:P.ok w A):Sep [P] w A:=⟨fun i k=>i=0∧A k,fun i Q hi=>by
  cases i with
  |zero=>simp_all
  |succ i=>simp at hi,fun i j k hne hi hj=>hne (hi.1.trans hj.1.symm)⟩
theorem Sep.mk_cons{A B:Nat→Prop}(h1:P.ok w A)(h2:Sep L w B)(hd:∀k,A k→B k→False)(hA:∀k,A k→S k)(hB:∀k,B k→S k):Sep (P::L) w S:=
 Sep.join (L1:=[P]) (Sep.of_ok h1) h2 (fun k _=>hd k) (fun k _=>hA k) (fun k _=>hB k)
theorem Sep.imp(h:Sep (P::L) w S)(hi:∀A,P.ok w A→Q.ok w A):Sep (Q::L) w S:=by
 obtain⟨A,B,h1,h2,h3,h4,h5⟩:=h.cons_ok;grind[Sep.mk_cons]
theorem Sep.emp(P:HP)(h:Sep L w S)(hp:P.ok w Non):Sep (P::L) w S:=Sep.mk_cons hp h (fun _ h=>h.elim) (fun _ h=>h.elim) fun _ h=>h
theorem Sep.swap(h:Sep (P::Q::L) w S):Sep (Q::P::L) w S:=by
 obtain⟨A,B,h1,h2,h3,h4,h5⟩:=h.cons_ok;obtain⟨C,D,g1,g2,g3,g4,g5⟩:=h2.cons_ok;exact Sep.mk_cons (B:=fun k=>A k∨D k) g1 (Sep.mk_cons h1 g2 (fun k h h'=>h3 k h (g5 k h')) (fun _ h=>.inl h) fun _ h=>.inr h) (fun k h h'=>h'.elim (fun h'=>h3 k h' (g4 k h)) (g3 k h)) (fun k h=>h5 k (g4 k h)) fun k h=>h.elim (h4 k) fun h=>h5 k (g5 k h)
theorem Sep.under(h:Sep (P::L) w S){L':List HP}(hf:∀A,Sep L w A→Sep L' w A):Sep (P::L') w S:=by
 obtain⟨A,B,h1,h2,h3,h4,h5⟩:=h.cons_ok;grind[Sep.mk_cons]
theorem Sep.two(h:Sep (HP.two P Q::L) w S):Sep (P::Q::L) w S:=by
 obtain⟨A,B,⟨C,D,a,b,c,d⟩,h2,h3,h4,h5⟩:=h.cons_ok;refine Sep.mk_cons (S:=S) (B:=fun k=>D k∨B k) a (Sep.mk_cons b h2 (fun k h h'=>h3 k (d k (.inr h)) h') (fun _ h=>.inl h) fun _ h=>.inr h) (fun k h h'=>h'.elim (c k h) (h3 k (d k (.inl h)))) (fun k h=>h4 k (d k (.inl h))) fun k h=>h.elim (fun h=>h4 k (d k (.inr h))) (h5 k)
theorem Sep.join2(h:Sep (P::Q::L) w S):Sep (HP.two P Q::L) w S:=by
 obtain⟨A,B,h1,h2,h3,h4,h5⟩:=h.cons_ok;obtain⟨C,D,g1,g2,g3,g4,g5⟩:=h2.cons_ok;exact Sep.mk_cons (A:=fun k=>A k∨C k) ⟨A,C,h1,g1,fun k h h'=>h3 k h (g4 k h'),fun _ h=>h⟩ g2 (fun k h h'=>h.elim (fun h=>h3 k h (g5 k h')) fun h=>g3 k h h') (fun k h=>h.elim (h4 k) fun h=>h5 k (g4 k h)) fun k h=>h5 k (g5 k h)
theorem Sep.merge(h:Sep (P::Q::L) w S)(hi:∀A,(HP.two P Q).ok w A→R.ok w A):Sep (R::L) w S:=h.join2.imp hi
theorem Sep.open{ι:Type}{P:ι→HP}(h:Sep (HP.ex P::L) w S):∃i,Sep (P i::L) w S:=by
 obtain⟨A,B,⟨i,h1⟩,h2,h3,h4,h5⟩:=h.cons_ok;grind[Sep.mk_cons]
theorem Sep.shut{ι:Type}{P:ι→HP}(i:ι)(h:Sep (P i::L) w S):Sep (HP.ex P::L) w S:=h.imp fun _ h=>⟨i,h⟩
theorem Sep.fact{p:Prop}(h:Sep (HP.pure p::L) w S):p∧Sep L w S:=by
 obtain⟨A,B,h1,h2,h3,h4,h5⟩:=h.cons_ok;exact⟨h1,h2.mono fun k _=>h5 k⟩
end
section
variable{w:World}{A:Nat→Prop}{R α:Type}[Flat R]{own:R→α→HP}{E:TypeId}{v:Value}{rs:List R}{xs:List α}
theorem Zlw(h:(HP.two (SL E v rs) (.all own rs xs)).ok w A):∃a c,v= .slice a xs.length c:=by
 obtain⟨B,C,h1,h2,h3,h4⟩:=h;rw[←Ze0 h2];rcases h1 with⟨go,h1⟩|⟨rfl,a,rfl⟩
 ·exact h1.slice
 simp
end
section
variable{w:World}{S:Nat→Prop}{L:List HP}{R α:Type}{own:R→α→HP}{rs:List R}{xs:List α}
theorem Sep.dlen(j:Nat)(h:Sep L w S)(hj:L[j]? =some (.all own rs xs)):rs.length=xs.length:=by
 obtain⟨A,h1,_⟩:=h.get j hj;grind[Ze0]
end
section
variable{w:World}{A:Nat→Prop}{R α:Type}[Flat R][Rep α]{own:R→α→HP}{E:TypeId}{v:Value}{rs:List R}{xs:List α}
structure Owns(own:R→α→HP):Prop where
 sz:Rep.sz R=Rep.sz α
 agg:Rep.agg R=Rep.agg α
 rv:∀w A r x,(own r x).ok w A→Rep.ok w A (Flat.enc r) x
theorem ZmZ(ho:Owns own)(h:(HP.two (SL E v rs) (.all own rs xs)).ok w A):RV w A v xs:=by
 obtain⟨B,C,h1,h2,h3,h4⟩:=h;have hl:=Ze0 h2;rcases h1 with⟨go,h1⟩|⟨rfl,a,rfl⟩
 ·obtain⟨F,css,g1,g2,g3,g4,g5⟩:=h1
  have hcss:Css w C css xs:=⟨g1.1.trans hl,fun i cs x hcs hx=>by
   have hlt:i<rs.length:=by grind
   have:=g1.2 i cs rs[i] hcs (ZoE hlt);rw[Flat.iff.1 this]
   exact ho.rv w C _ x (Zj4 h2 (ZoE hlt) hx)⟩
  have hcb:Css w (fun k=>C k∧k<w.heap.size) css xs:=hcss.keep fun k hk hc=>⟨rfl,hc,hk⟩;have:OwnS w E go B C v xs:=⟨fun k=>C k∧k<w.heap.size,css,hcb,by rw[←ho.sz,←hl];exact g2,g3,fun g hg=>⟨(g4 g hg).1,fun hc=>h3 g (g4 g hg).1 hc.1⟩,fun k hk=>hk⟩;exact this.rv.sub fun k _ hk=>hk.elim (fun hk=>h4 k (.inl hk.2)) fun hk=>h4 k (.inr hk)
 ·have:xs=[]:=ZpN hl.symm;subst this;exact RV.mk_slice (l:=([]:List α)) (ZoH _) (ZpO _) fun h=>absurd rfl h
end
end Go.GL
namespace Go.GL
open Go.RowKit
theorem mk?_raw{α β:Type}{n:Int}{z:α}{z':β}{r:List α}(h:mk? n z=some r):mk? n z'=some (List.replicate r.length z')∧r=List.replicate r.length z:=by
 grind[mk?]
theorem app?_raw{α β:Type}{l m r:List α}{l' m':List β}(h:app? l m=some r)(hl:l'.length=l.length)(hm:m'.length=m.length):app? l' m'=some (l'++m')∧r=l++m:=by
 simp_all[app?]
theorem set?_raw{α β:Type}{l r:List α}{l':List β}{i:Int}{x:α}(y:β)(h:set? l i x=some r)(hl:l'.length=l.length):set? l' i y=some (l'.set i.toNat y)∧r=l.set i.toNat x∧i.toNat<l.length:=by
 simp_all[set?]
section
variable{w:World}{S:Nat→Prop}{L:List HP}{R α:Type}{own:R→α→HP}{rs:List R}{xs:List α}
theorem Sep.focus{n:Int}{r:R}{z:α}(hs:Sep (HP.all own rs xs::L) w S)(hr:rs[n.toNat]? =some r)(hz:get? xs n=some z):Sep (own r z::HP.but own n.toNat rs xs::L) w S:=
 (hs.imp fun _ h=>ZeP h hr (get?_at hz)).two
theorem Sep.fill{n:Int}{r:R}{z:α}{ys:List α}(hs:Sep (own r z::HP.but own n.toNat rs xs::L) w S)(hl:rs.length=xs.length)(hr:rs[n.toNat]? =some r)(hz:set? xs n z=some ys):Sep (HP.all own rs ys::L) w S:=by
 obtain⟨_,h2,h3⟩:=set?_raw (l':=xs) z hz rfl;have e:rs.set n.toNat r=rs:=by
  rw[ZoI]at hr;obtain⟨h,rfl⟩:=hr;simp
 have:=hs.merge fun A h=>Ziy (by omega) h3 h;simp_all
end
section
variable{P:Program}{ops:Array Oper}{Q:Exit→Act→World→Prop}{a:Act}{w w0:World}{S S0 F F0:Nat→Prop}{N:Nat}{σ:List (Nat×Value)}{k d:Nat}{t ty:TypeId}{x:Operand}{pos:String}{af:Array Edge}
  {L:List HP}{R α:Type}[Flat R]{own:R→α→HP}{E:TypeId}
end
section
variable{P:Program}{ops:Array Oper}{Q:Exit→Act→World→Prop}{a:Act}{w w0:World}{S S0 F F0:Nat→Prop}{N:Nat}{σ:List (Nat×Value)}{k d d':Nat}{t ty:TypeId}{x y:Operand}{pos:String}{af:Array Edge}
  {L:List HP}{R α:Type}[Flat R]{own:R→α→HP}{E:TypeId}{v u:Value}{rs rs2:List R}{xs ms:List α}
end
end Go.GL
namespace Go.GL
open Go.RowKit
structure VW(sz:Nat)(b:Option Addr)(c:Nat)(lo:Int)(a':Option Addr)(c':Nat):Prop where
 nn:0≤lo
 addr:a'=(if c=lo.toNat then b else b.map (·.add (lo.toNat*sz)))
 cap:c'=c-lo.toNat
section
variable{P:Program}{ops:Array Oper}{Q:Exit→Act→World→Prop}{a:Act}{w w0:World}{S S0 F F0:Nat→Prop}{N:Nat}{σ:List (Nat×Value)}{k d d':Nat}{t ty:TypeId}{x y:Operand}{pos:String}{af:Array Edge}
  {L:List HP}{E:TypeId}
end
end Go.GL
end
section
namespace Go.GL
open Go.RowKit
section
variable{P:Program}{ops:Array Oper}{Q:Exit→Act→World→Prop}{a:Act}{w w0:World}{S S0 F F0:Nat→Prop}{N:Nat}{σ:List (Nat×Value)}{k d:Nat}{t ty:TypeId}{x y:Operand}{pos:String}{af:Array Edge}
  {L:List HP}{E:TypeId}{α:Type}[Flat α]{l m:List α}{b a':Option Addr}{n0 c c' n:Nat}{lo:Int}{u:Value}
end
end Go.GL
namespace Go.GL
open Go.RowKit
section
variable{P:Program}{ops:Array Oper}{Q:Exit→Act→World→Prop}{a:Act}{w w0:World}{S S0 F F0:Nat→Prop}{N:Nat}{σ:List (Nat×Value)}{k:Nat}{t ty:TypeId}{x:Operand}{pos:String}{af:Array Edge}
  {L:List HP}{E:TypeId}{α:Type}[Flat α]{l:List α}{b a':Option Addr}{n0 c c' n:Nat}{lo:Int}
end
end Go.GL
end
section
namespace Go.GL
open Go.RowKit
theorem Sep.swapT{w:World}{S:Nat→Prop}{L:List HP}{Q Q':HP}(i:Nat)(h:Sep L w S)(hi:L[i]? =some Q)(f:∀A,Q.ok w A→Q'.ok w A):Sep (L.set i Q') w S:=by
 obtain⟨g,h1,h2⟩:=h;refine⟨g,fun j R hj=>?_,h2⟩;grind
theorem VW.zero{b:Option Addr}{c:Nat}:VW 1 b c 0 b c:=by
 refine⟨Int.le_refl _,?_,by simp⟩;simp[Addr.add]
section
variable{P:Program}{ops:Array Oper}{Q:Exit→Act→World→Prop}{a:Act}{w w0:World}{S S0 F F0:Nat→Prop}{N:Nat}{σ:List (Nat×Value)}{k d:Nat}{t t' ty E:TypeId}{x y:Operand}{pos:String}{af:Array Edge}
  {L:List HP}
theorem Cells.ext{w':World}{ad:Addr}{cs:List Value}(h:Cells w ad cs)(hc:Chg Non w w'):Cells w' ad cs:=fun j u hu=>by
 have h1:=h j u hu;have hb:(ad.add j).block<w.heap.size:=by
  grind[World.cell?,Array.getElem?_eq_none]
 rw[←h1];unfold World.cell?;rw[hc.block _ hb id]
theorem ZfR{t j:Nat}{b:Bool}{o:Oper}(hF:FrS N σ a)(ho:ops[j]? =some o)(hd:o.dst=some t)(ht:Nat.blt t N=true)(hv:opd σ (.tmp t)=some (.bool b)):yielded ops a.tmps j=some b:=by
 have h1:=Zt hF hv;have h2:=hF.size;simp_all[bool,Zpx,Act.eval,yielded,Zo8]
theorem Zjw{ops ops':Array Oper}(hy:∀j:Nat,(ops[j]?).bind (·.dst)=(ops'[j]?).bind (·.dst)):∀(l:List Oper),wpList P ops Q l=wpList P ops' Q l:=by
 intro l
 induction l with
 |nil=>rfl
 | cons o l ih=>
  funext a w;have:yielded ops a.tmps=yielded ops' a.tmps:=by
   grind[yielded]
  simp_all[wpList]
theorem ZkU{g t:Nat}{want:Bool}{o og:Oper}(hF:FrS N σ a)(ho:ops[k]? =some o)(hg:o.guard=some (g,want))(hog:ops[g]? =some og)(ht:og.dst=some t)(htN:Nat.blt t N=true)(hv:opd σ (.tmp t)=some (.bool want))
  (h:wpFrom P (ops.toList.set k {o with guard:=none}).toArray Q k a w):wpFrom P ops Q k a w:=by
 have hk:k<ops.toList.length:=by grind
 have e:ops.toList[k]=o:=by
  grind
 have hw:Region.wanted o (yielded ops a.tmps)=true:=by
  grind[Region.wanted,ZfR]
 unfold wpFrom at h⊢;have hy:∀j:Nat,(ops[j]?).bind (·.dst)=((ops.toList.set k {o with guard:=none}).toArray[j]?).bind (·.dst):=fun j=>by
  grind
 have hdrop:(ops.toList.set k {o with guard:=none}).toArray.toList.drop k={o with guard:=none}::ops.toList.drop (k+1):=by
  grind[List.drop_eq_getElem_cons,List.drop_set_of_lt]
 rw[hdrop]at h;rw[ZoN hk,e];unfold wpList at h⊢;rw[ZoD hw];rw[ZoD (by rfl),←Zjw hy]at h;exact h
theorem Zjg{l:List Oper}{g t:Nat}{want:Bool}{o og:Oper}(hF:FrS N σ a)(ho:l[k]? =some o)(hg:o.guard=some (g,want))(hog:l[g]? =some og)(ht:og.dst=some t)(htN:Nat.blt t N=true)(hv:opd σ (.tmp t)=some (.bool want))
  (h:wpFrom P (l.set k {o with guard:=none}).toArray Q k a w):wpFrom P l.toArray Q k a w:=
 ZkU hF (by simp_all) hg (by simp_all) ht htN hv h
theorem Zku{g t d:Nat}{want b:Bool}{o og:Oper}(hF:FrS N σ a)(ho:ops[k]? =some o)(hg:o.guard=some (g,want))(hog:ops[g]? =some og)(ht:og.dst=some t)(htN:Nat.blt t N=true)(hv:opd σ (.tmp t)=some (.bool b))(hb:(b==want)=false)
  (hd:o.dst=some d)(hdN:Nat.blt d N=true)(h:∀fr,FrS N ((d,undef)::σ) fr→wpFrom P ops Q (k+1) fr w):wpFrom P ops Q k a w:=by
 have hk:k<ops.toList.length:=by grind
 have e:ops.toList[k]=o:=by
  grind
 have hw:Region.wanted o (yielded ops a.tmps)=false:=by
  simpa[Region.wanted,hg,ZfR hF hog ht htN hv]using hb
 unfold wpFrom at h⊢;rw[ZoN hk,e];unfold wpList;have:=h _ (hF.put (ZoY.mp hdN) undef);simp_all
theorem Zkx{β:Type}{b:Bool}{x y r:β}(h:(if b=true then x else y)=r):(b=true∧x=r)∨(b=false∧y=r):=by
 grind
theorem ZkM{b:Bool}{c:Operand}{v:Value}(ho:ops[k]? =some ⟨some d,.pick c x y,ty,pos,af,none⟩)(hd:Nat.blt d N=true)(hF:FrS N σ a)(hc:opd σ c=some (.bool b))(hv:opd σ (if b then x else y)=some v)
  (h:∀fr,FrS N ((d,v)::σ) fr→wpFrom P ops Q (k+1) fr w):wpFrom P ops Q k a w:=by
 refine ZY hF ho rfl rfl (ZoY.mp hd) (R:=fun z w'=>z=v∧w'=w) (Zx (v:=v) (w':=w) ?_ ⟨rfl,rfl⟩) fun z w' fr hz hF'=>?_
 ·have h1:=Zt hF hc;have h2:=Zt hF hv;cases b<;>simp_all[execOp,asBool]
 simp_all
end
theorem ZjE{P:Program}{a b c:Str}(h:cat? a b=some c)(t:TypeId)(w:World):(binOp .add t a.val b.val).run P w= .ok c.val w:=by
 unfold cat? at h;split at h
 ·rename_i hl;simp only[Option.some.injEq]at h;subst h;have e:(⟨a.bytes.toArray⟩:ByteArray)++(⟨b.bytes.toArray⟩:ByteArray)=⟨(a.bytes++b.bytes).toArray⟩:=by
   apply ByteArray.ext;simp
  have hs:¬((((⟨a.bytes.toArray⟩:ByteArray).size+(⟨b.bytes.toArray⟩:ByteArray).size:Nat):Int)>IntKind.i64.max):=by
   have h1:(⟨a.bytes.toArray⟩:ByteArray).size=a.bytes.length:=by simp[ByteArray.size]
   have h2:(⟨b.bytes.toArray⟩:ByteArray).size=b.bytes.length:=by simp[ByteArray.size]
   have h3:IntKind.i64.max=9223372036854775807:=by decide
   rw[h1,h2,h3];omega
  simp only[Str.val,binOp,Op.stringOp,ZoC hs,e];rfl
 ·cases h
section
variable{P:Program}{ops:Array Oper}{Q:Exit→Act→World→Prop}{a:Act}{w:World}{N:Nat}{σ:List (Nat×Value)}{k d:Nat}{t t' yt ty E:TypeId}{x y:Operand}{pos:String}{af:Array Edge}{s1 s2 s3:Str}{F:Nat→Prop}
theorem Zou(ho:ops[k]? =some ⟨some d,.binOp .add t x y yt,ty,pos,af,none⟩)(hd:Nat.blt d N=true)(hF:FrS N σ a)(hx:opd σ x=some s1.val)(hy:opd σ y=some s2.val)(hz:cat? s1 s2=some s3)
  (h:∀fr,FrS N ((d,s3.val)::σ) fr→wpFrom P ops Q (k+1) fr w):wpFrom P ops Q k a w:=ZfJ ho hd hF hx hy (by simp[eqGuard]) (ZjE hz _ _) h
theorem Zjo(l:List Byt):∀s:ByteArray,(l.map (·.n)).foldl (fun r n=>r.push (UInt8.ofNat n.toNat)) s=⟨(s.data.toList++(strOf l).bytes).toArray⟩:=by
 induction l with
 |nil=>intro s;simp[strOf]
 |cons b l ih=>
  intro s;rw[Zps,Zqo,ih];simp[strOf,ByteArray.push]
theorem ZkC{v:Value}{l:List Byt}(ht:P.underlying t=some (.slice E))(hE:P.underlying E=some (.int .u8))(ht':P.underlying t'=some .string)(hl:RV w F v l):(convert t t' v).run P w= .ok (strOf l).val w:=by
 obtain⟨ad,cap,rfl,hcap,hmax,hcells⟩:=hl.slice;rw[run_convert_bytes_string w t t' E ad l.length cap ht hE ht'];by_cases hm:l=[]
 ·subst hm;cases ad with
  |none=>simp[Conv.bytesToString,strOf,Str.val];rfl
  |some ad=>
   rw[run_bytesToString w ad _ cap [] (by simp[loadCells,loadCellsFrom])];rfl
 ·obtain⟨a',rfl,_,he⟩:=hcells hm;obtain⟨css,g1,g2⟩:=ZbX he;have hcss:css=l.map Flat.enc:=by
   apply ZpH;intro i;rw[Zpj];by_cases hi:i<l.length
   ·have hi':i<css.length:=by rw[g1.1];exact hi
    rw[ZoE hi,ZoE hi'];exact congrArg some (Flat.iff.1 (g1.2 i css[i] l[i] (ZoE hi') (ZoE hi)))
   ·rw[ZpB (by rw[g1.1];omega),ZpB (by omega)];rfl
  subst hcss;have hfl:(l.map Flat.enc).flatten=(l.map (·.n)).map (Value.int .u8):=by
   clear g1 g2 he hcells hm hcap hl
   induction l with
   |nil=>rfl
   |cons b l ih=>rw[Zps,Zqr,ih];rfl
  rw[hfl]at g2;have hc:∀j u,((l.map (·.n)).map (Value.int .u8))[j]? =some u→w.cell? (a'.add j)=some u:=fun j u hu=>by simpa using g2 j u hu
  have:=run_loadCells_list (P:=P) w a' _ hc;have hlen:((l.map (·.n)).map (Value.int .u8)).length=l.length:=by simp
  rw[hlen]at this;rw[run_bytesToString w a' _ cap (l.map (·.n)) this,Zjo];simp[Str.val]
theorem ZiY{v:Value}{l:List Byt}(ht:P.underlying t=some (.slice E))(hE:P.underlying E=some (.int .u8))(ht':P.underlying t'=some .string)(ho:ops[k]? =some ⟨some d,.convert t t' x,ty,pos,af,none⟩)(hd:Nat.blt d N=true)(hF:FrS N σ a)(hx:opd σ x=some v)(hl:RV w F v l)
  (h:∀fr,FrS N ((d,(strOf l).val)::σ) fr→wpFrom P ops Q (k+1) fr w):wpFrom P ops Q k a w:=by
 refine ZY hF ho rfl rfl (ZoY.mp hd) (R:=fun z w'=>z=(strOf l).val∧w'=w) (Zx (v:=(strOf l).val) (w':=w) ?_ ⟨rfl,rfl⟩) fun z w' fr hz hF'=>?_
 ·simp[execOp,Zt hF hx,ZkC ht hE ht' hl]
 ·obtain⟨rfl,rfl⟩:=hz;exact h fr hF'
end
section
variable{P:Program}{draw:Bool}{ms:List Nat}{ops:Array Oper}{a0:Act}{w0:World}{Q:Exit→Act→World→Prop}{pds:List Pd}{σ:List (Nat×Value)}{N j:Nat}{dst:Option Tmp}{g:Option (Nat×Bool)}
  {t yt ty:TypeId}{x y:Operand}{pos:String}{af:Array Edge}{s1 s2 s3:Str}
theorem ZnS(hG:Good ops pds [])(hF:FrS N σ a0)(ho:ops[j]? =some ⟨dst,.binOp .add t x y yt,ty,pos,af,g⟩)(hx:envP ops σ pds j x=some s1.val)(hy:envP ops σ pds j y=some s2.val)
  (hz:gc ops pds ops.size j→cat? s1 s2=some s3)(hpd:pds.getD j .any= .eq s3.val):NPB P draw ms ops pds a0 w0 Q j:=ZlK hG hF ho hx hy (fun w=>by simp[eqGuard]) (fun h w=>ZjE (hz h) _ w) hpd
end
open Go.RowKit Go.Sort
structure TB(P:Program)(name:String)(k:IntKind)(zs:List Int)(w:World)(F:Nat→Prop):Prop where
 tab:Lib.TabIs P w name k zs
 blk:∃g,P.globalNamed name=some g∧F g
section
variable{P:Program}{name:String}{k:IntKind}{zs:List Int}{w w' w0:World}{S S0 S' F F0 F':Nat→Prop}
theorem TB.lt(h:TB P name k zs w F){g:Nat}(hg:P.globalNamed name=some g):g<w.heap.size:=by
 have h1:=h.tab;unfold Lib.TabIs World.var? at h1;rw[hg,Zo8]at h1;by_cases hlt:g<w.heap.size
 ·exact hlt
 ·rw[Zp9 (by omega)]at h1;cases h1
theorem TB.chg(h:TB P name k zs w F)(hc:Chg S w w')(hd:∀j,F j→¬S j):TB P name k zs w' F:=by
 obtain⟨g,hg,hF⟩:=h.blk;refine⟨?_,g,hg,hF⟩;have h1:=h.tab;unfold Lib.TabIs World.var? at h1⊢;rw[hg,Zo8]at h1⊢;rw[hc.block g (h.lt hg) (hd g hF)];exact h1
theorem TB.ext(h:TB P name k zs w F)(hc:Chg Non w w'):TB P name k zs w' F:=h.chg hc fun _ _=>id
theorem TB.stp(h:TB P name k zs w F)(hM:Mem w0 S0 F0 w S F)(hp:Stp w S w' S'):TB P name k zs w' F:=h.chg hp.chg fun j hf hs=>hM.dj j hs hf
theorem TB.big(h:TB P name k zs w F)(hf:∀j,F j→F' j):TB P name k zs w F':=by
 obtain⟨g,hg,hF⟩:=h.blk;exact⟨h.tab,g,hg,hf g hF⟩
theorem TB.sub(h:TB P name k zs w F)(hf:∀j,j<w.heap.size→F j→F' j):TB P name k zs w F':=by
 obtain⟨g,hg,hF⟩:=h.blk;exact⟨h.tab,g,hg,hf g (h.lt hg) hF⟩
theorem TB.mem(h:TB P name k zs w0 F0)(hM:Mem w0 S0 F0 w S F):TB P name k zs w F:=(h.chg hM.chg fun j hf hs=>hM.dj0 j hs hf).big hM.fz
theorem TB.of(h:Lib.TabIs P w name k zs)(hF:∀j,j<w.heap.size→F j):TB P name k zs w F:=by
 have h1:=h;unfold Lib.TabIs World.var? at h1;cases hg:P.globalNamed name with
 |none=>rw[hg]at h1;cases h1
 |some g=>
  have key:TB P name k zs w (fun _=>True):=⟨h,g,hg,trivial⟩;exact⟨h,g,hg,hF g (key.lt hg)⟩
theorem ZlN(w:World)(k:Nat)(os:Array Obj):Chg Non w (grow (w.drewN k) os):=
 ⟨rfl,rfl,rfl,by simp[grow,World.drewN],fun j hj _=>by
  show(w.heap++os)[j]? =w.heap[j]?
  rw[Zqz hj]⟩
end
section
variable{P:Program}{draw:Bool}{ms:List Nat}{ops:Array Oper}{a0:Act}{w0:World}{Q:Exit→Act→World→Prop}{pds:List Pd}{σ:List (Nat×Value)}{N j:Nat}{dst:Option Tmp}{g:Option (Nat×Bool)}
  {t t' E ty:TypeId}{pos:String}{af:Array Edge}{ow:Nat→Nat}
end
structure VI(P:Program)(name:String)(cs:Array Value)(w:World)(F:Nat→Prop):Prop where
 var:w.var? P name=some cs
 blk:∃g,P.globalNamed name=some g∧F g
section
variable{P:Program}{name:String}{cs:Array Value}{w w' w0:World}{S S0 S' F F0 F':Nat→Prop}
theorem VI.lt(h:VI P name cs w F){g:Nat}(hg:P.globalNamed name=some g):g<w.heap.size:=by
 have h1:=h.var;unfold World.var? at h1;rw[hg,Zo8]at h1;by_cases hlt:g<w.heap.size
 ·exact hlt
 ·rw[Zp9 (by omega)]at h1;cases h1
theorem VI.chg(h:VI P name cs w F)(hc:Chg S w w')(hd:∀j,F j→¬S j):VI P name cs w' F:=by
 obtain⟨g,hg,hF⟩:=h.blk;refine⟨?_,g,hg,hF⟩;have h1:=h.var;unfold World.var? at h1⊢;rw[hg,Zo8]at h1⊢;rw[hc.block g (h.lt hg) (hd g hF)];exact h1
theorem VI.sub(h:VI P name cs w F)(hf:∀j,j<w.heap.size→F j→F' j):VI P name cs w F':=by
 obtain⟨g,hg,hF⟩:=h.blk;exact⟨h.var,g,hg,hf g (h.lt hg) hF⟩
theorem VI.cell{x:Value}(h:VI P name #[x] w F){g:Nat}(hg:P.globalNamed name=some g):w.cell? ⟨g,0,none⟩=some x:=by
 have h1:=h.var;unfold World.var? at h1;rw[hg,Zo8]at h1;unfold World.cell?;split at h1
 ·rename_i heq;obtain rfl:=Option.some.inj h1;simp[heq]
 ·cases h1
theorem VI.of(h:w.var? P name=some cs)(hF:∀j,j<w.heap.size→F j):VI P name cs w F:=by
 have h1:=h;unfold World.var? at h1;cases hg:P.globalNamed name with
 |none=>rw[hg]at h1;cases h1
 |some g=>
  have key:VI P name cs w (fun _=>True):=⟨h,g,hg,trivial⟩;exact⟨h,g,hg,hF g (key.lt hg)⟩
end
structure TX(P:Program)(w:World)(F:Nat→Prop):Prop where
 pow:VI P "internal/strconv.uint64pow10" (Lib.pow10Tab.map fun z=>Value.int .u64 z).toArray w F
 max:∃m,VI P "internal/bytealg.MaxLen" #[.int .i64 m] w F
 syn:∃t p,VI P "strconv.ErrSyntax" #[.iface t p] w F
 rng:∃t p,VI P "strconv.ErrRange" #[.iface t p] w F
section
variable{P:Program}{w w' w0:World}{S S0 S' F F0 F':Nat→Prop}
theorem TX.chg(h:TX P w F)(hc:Chg S w w')(hd:∀j,F j→¬S j):TX P w' F:=by
 obtain⟨h1,⟨m,h2⟩,⟨t,p,h3⟩,⟨t',p',h4⟩⟩:=h;exact⟨h1.chg hc hd,⟨m,h2.chg hc hd⟩,⟨t,p,h3.chg hc hd⟩,⟨t',p',h4.chg hc hd⟩⟩
theorem TX.sub(h:TX P w F)(hf:∀j,j<w.heap.size→F j→F' j):TX P w F':=by
 obtain⟨h1,⟨m,h2⟩,⟨t,p,h3⟩,⟨t',p',h4⟩⟩:=h;exact⟨h1.sub hf,⟨m,h2.sub hf⟩,⟨t,p,h3.sub hf⟩,⟨t',p',h4.sub hf⟩⟩
theorem TX.tab(h:TX P w F):Lib.TabIs P w "internal/strconv.uint64pow10" .u64 Lib.pow10Tab:=h.pow.var
theorem TX.ext(h:TX P w F)(hc:Chg Non w w'):TX P w' F:=h.chg hc fun _ _=>id
theorem TX.stp(h:TX P w F)(hM:Mem w0 S0 F0 w S F)(hp:Stp w S w' S'):TX P w' F:=h.chg hp.chg fun j hf hs=>hM.dj j hs hf
theorem TX.big(h:TX P w F)(hf:∀j,F j→F' j):TX P w F':=h.sub fun j _=>hf j
theorem TX.mem(h:TX P w0 F0)(hM:Mem w0 S0 F0 w S F):TX P w F:=(h.chg hM.chg fun j hf hs=>hM.dj0 j hs hf).big hM.fz
end
set_option linter.unusedVariables false
instance:Rep D.Ins where
 sz:=4
 agg:=true
 ok:=fun _ _ cs x=>cs=[.int .i64 x.Op,.int .i64 x.A,.int .i64 x.B,.int .i64 x.C]
 len:=by rintro w F cs x rfl;rfl
 one:=by rintro w F cs x rfl u hu;simp at hu;rcases hu with rfl|rfl|rfl|rfl<;>rfl
 pos:=by decide
 sgl:=fun h=>by cases h
 keep:=fun h _=>h
instance:Flat D.Ins where
 enc:=fun x=>[.int .i64 x.Op,.int .i64 x.A,.int .i64 x.B,.int .i64 x.C]
 iff:=Iff.rfl
instance:Rep D.Program where
 sz:=4
 agg:=true
 ok:=fun w F cs x=>∃v3:Value,cs=[.int .i64 x.W,.int .i64 x.Mem,.int .i64 x.In,v3]∧Rep.ok w F [v3] x.Code
 len:=by rintro w F cs x ⟨v3,rfl,h3⟩;rfl
 one:=by
  rintro w F cs x ⟨v3,rfl,h3⟩ u hu;simp at hu;rcases hu with rfl|rfl|rfl|rfl
  ·rfl
  ·rfl
  ·rfl
  ·exact Rep.one h3 _ (by simp)
 pos:=by decide
 sgl:=fun h=>by cases h
 keep:=by
  rintro w w' F F' cs x ⟨v3,rfl,h3⟩ hk;exact⟨v3,rfl,Rep.keep h3 hk⟩
theorem RV.Program{w:World}{F:Nat→Prop}{v:Value}{x:D.Program}(h:RV w F v x):∃v3:Value,v= .agg #[.int .i64 x.W,.int .i64 x.Mem,.int .i64 x.In,v3]∧RV w F v3 x.Code:=by
 obtain⟨cs,⟨v3,rfl,h3⟩,rfl⟩:=h;exact⟨v3,rfl,RV.of_one rfl h3⟩
instance:Rep D.Value where
 sz:=3
 agg:=true
 ok:=fun _ _ cs x=>cs=[(Str.val x.Name),.int .i64 x.W,.int .i64 x.N]
 len:=by rintro w F cs x rfl;rfl
 one:=by rintro w F cs x rfl u hu;simp at hu;rcases hu with rfl|rfl|rfl<;>rfl
 pos:=by decide
 sgl:=fun h=>by cases h
 keep:=fun h _=>h
instance:Flat D.Value where
 enc:=fun x=>[(Str.val x.Name),.int .i64 x.W,.int .i64 x.N]
 iff:=Iff.rfl
mutual
def okTerm(w:World)(F:Nat→Prop)(cs:List Value):D.Term→Prop
 |⟨y0,y1,y2,y3,kids⟩=>∃(a:Option Addr)(cp:Nat),cs=[.int .i64 y0,.int .i64 y1,.int .i64 y2,(Str.val y3),.slice a kids.length cp]∧kids.length≤cp∧cp≤maxLen∧(kids≠[]→∃ad,a=some ad∧F ad.block∧elsTerm w F ad 0 kids)
def elsTerm(w:World)(F:Nat→Prop)(ad:Addr)(i:Nat):List D.Term→Prop
 |[]=>True
 |x::xs=>(∃cs,okTerm w F cs x∧Cells w (ad.add (i*5)) cs)∧elsTerm w F ad (i+1) xs
end
theorem ZdV{w:World}{F:Nat→Prop}{cs:List Value}:∀{t:D.Term},okTerm w F cs t→cs.length=5
 |⟨y0,y1,y2,y3,kids⟩,h=>by
  unfold okTerm at h;obtain⟨a,cp,rfl,_⟩:=h;rfl
mutual
theorem Zfg{w w':World}{F F':Nat→Prop}(hk:∀k,k<w.heap.size→F k→w'.heap[k]? =w.heap[k]? ∧F' k){cs:List Value}:∀(t:D.Term),okTerm w F cs t→okTerm w' F' cs t
 | ⟨y0,y1,y2,y3,kids⟩,h=>by
  unfold okTerm at h⊢;obtain⟨a,cp,rfl,h1,h2,h3⟩:=h;refine⟨a,cp,rfl,h1,h2,fun hn=>?_⟩;obtain⟨ad,rfl,hF,he⟩:=h3 hn;have hlt:ad.block<w.heap.size:=by
   cases kids with
   |nil=>exact absurd rfl hn
   |cons x xs=>
    unfold elsTerm at he;obtain⟨⟨cs,h4,h5⟩,_⟩:=he;have:=h5.lt (by intro e;have:=ZdV h4;rw[e]at this;cases this)
    rwa [add_block]at this
  exact⟨ad,rfl,(hk _ hlt hF).2,Zed hk ad hF kids 0 he⟩
theorem Zed{w w':World}{F F':Nat→Prop}(hk:∀k,k<w.heap.size→F k→w'.heap[k]? =w.heap[k]? ∧F' k)(ad:Addr)(hF:F ad.block):∀(l:List D.Term)(i:Nat),elsTerm w F ad i l→elsTerm w' F' ad i l
 |[],_,_=>by unfold elsTerm;trivial
 | x::xs,i,h=>by
  unfold elsTerm at h⊢;obtain⟨⟨cs,h1,h2⟩,h3⟩:=h;have hlt:ad.block<w.heap.size:=by
   have:=h2.lt (by intro e;have:=ZdV h1;rw[e]at this;cases this)
   rwa [add_block]at this
  exact⟨⟨cs,Zfg hk x h1,h2.keep fun _=>by rw[add_block];exact(hk _ hlt hF).1⟩,Zed hk ad hF xs (i+1) h3⟩
end
instance:Rep D.Term where
 sz:=5
 agg:=true
 ok:=fun w F cs x=>okTerm w F cs x
 len:=ZdV
 one:=by
  rintro w F cs ⟨y0,y1,y2,y3,kids⟩ h u hu;unfold okTerm at h;obtain⟨a,cp,rfl,_⟩:=h;simp at hu;rcases hu with rfl|rfl|rfl|rfl|rfl<;>rfl
 pos:=by decide
 sgl:=fun h=>by cases h
 keep:=fun h hk=>Zfg hk _ h
theorem Zdv{w:World}{F:Nat→Prop}{ad:Addr}:∀{l:List D.Term}{i:Nat},elsTerm w F ad i l↔elems w F ad i l
 |[],i=>by unfold elsTerm elems;exact Iff.rfl
 |x::xs,i=>by
  unfold elsTerm elems;rw[Zdv (l:=xs)];exact Iff.rfl
theorem RV.Term{w:World}{F:Nat→Prop}{v:Value}{x:D.Term}(h:RV w F v x):∃v4:Value,v= .agg #[.int .i64 x.Op,.int .i64 x.W,.int .i64 x.N,(Str.val x.Name),v4]∧RV w F v4 x.Kids:=by
 obtain⟨cs,h,rfl⟩:=h;obtain⟨y0,y1,y2,y3,kids⟩:=x;have h:okTerm w F cs ⟨y0,y1,y2,y3,kids⟩:=h;unfold okTerm at h;obtain⟨a,cp,rfl,h1,h2,h3⟩:=h;refine⟨_,rfl,RV.mk_slice h1 h2 fun hn=>?_⟩;obtain⟨ad,h4,h5,h6⟩:=h3 hn;exact⟨ad,h4,h5,Zdv.1 h6⟩
theorem RV.mk_Term{w:World}{F:Nat→Prop}(x:D.Term){v4:Value}(h:RV w F v4 x.Kids):RV w F (.agg #[.int .i64 x.Op,.int .i64 x.W,.int .i64 x.N,(Str.val x.Name),v4]) x:=by
 obtain⟨y0,y1,y2,y3,kids⟩:=x;obtain⟨a,cp,rfl,h1,h2,h3⟩:=RV.slice h;refine⟨_,show okTerm w F [.int .i64 y0,.int .i64 y1,.int .i64 y2,(Str.val y3),.slice a kids.length cp] ⟨y0,y1,y2,y3,kids⟩from ?_,rfl⟩;unfold okTerm;refine⟨a,cp,rfl,h1,h2,fun hn=>?_⟩;obtain⟨ad,h4,h5,h6⟩:=h3 hn;exact⟨ad,h4,h5,Zdv.2 h6⟩
instance:Rep D.Path where
 sz:=10
 agg:=true
 ok:=fun w F cs x=>∃v1 v2 v3 v5 v8 v9:Value,cs=[.int .i64 x.Pc,v1,v2,v3,.int .i64 x.In,v5,.int .i64 x.Code,.int .i64 x.Steps,v8,v9]∧Rep.ok w F [v1] x.Regs∧Rep.ok w F [v2] x.Mem∧Rep.ok w F [v3] x.Stack∧Rep.ok w F [v5] x.Out∧Rep.ok w F [v8] x.Cond∧Rep.ok w F [v9] x.Turns
 len:=by rintro w F cs x ⟨v1,v2,v3,v5,v8,v9,rfl,h1,h2,h3,h5,h8,h9⟩;rfl
 one:=by
  rintro w F cs x ⟨v1,v2,v3,v5,v8,v9,rfl,h1,h2,h3,h5,h8,h9⟩ u hu;simp at hu;rcases hu with rfl|rfl|rfl|rfl|rfl|rfl|rfl|rfl|rfl|rfl
  ·rfl
  ·exact Rep.one h1 _ (by simp)
  ·exact Rep.one h2 _ (by simp)
  ·exact Rep.one h3 _ (by simp)
  ·rfl
  ·exact Rep.one h5 _ (by simp)
  ·rfl
  ·rfl
  ·exact Rep.one h8 _ (by simp)
  ·exact Rep.one h9 _ (by simp)
 pos:=by decide
 sgl:=fun h=>by cases h
 keep:=by
  rintro w w' F F' cs x ⟨v1,v2,v3,v5,v8,v9,rfl,h1,h2,h3,h5,h8,h9⟩ hk;exact⟨v1,v2,v3,v5,v8,v9,rfl,Rep.keep h1 hk,Rep.keep h2 hk,Rep.keep h3 hk,Rep.keep h5 hk,Rep.keep h8 hk,Rep.keep h9 hk⟩
theorem RV.Path{w:World}{F:Nat→Prop}{v:Value}{x:D.Path}(h:RV w F v x):∃v1 v2 v3 v5 v8 v9:Value,v= .agg #[.int .i64 x.Pc,v1,v2,v3,.int .i64 x.In,v5,.int .i64 x.Code,.int .i64 x.Steps,v8,v9]∧RV w F v1 x.Regs∧RV w F v2 x.Mem∧RV w F v3 x.Stack∧RV w F v5 x.Out∧RV w F v8 x.Cond∧RV w F v9 x.Turns:=by
 obtain⟨cs,⟨v1,v2,v3,v5,v8,v9,rfl,h1,h2,h3,h5,h8,h9⟩,rfl⟩:=h;exact⟨v1,v2,v3,v5,v8,v9,rfl,RV.of_one rfl h1,RV.of_one rfl h2,RV.of_one rfl h3,RV.of_one rfl h5,RV.of_one rfl h8,RV.of_one rfl h9⟩
theorem RV.mk_Path{w:World}{F:Nat→Prop}(x:D.Path){v1 v2 v3 v5 v8 v9:Value}(h1:RV w F v1 x.Regs)(h2:RV w F v2 x.Mem)(h3:RV w F v3 x.Stack)(h5:RV w F v5 x.Out)(h8:RV w F v8 x.Cond)(h9:RV w F v9 x.Turns):RV w F (.agg #[.int .i64 x.Pc,v1,v2,v3,.int .i64 x.In,v5,.int .i64 x.Code,.int .i64 x.Steps,v8,v9]) x:=
 ⟨[.int .i64 x.Pc,v1,v2,v3,.int .i64 x.In,v5,.int .i64 x.Code,.int .i64 x.Steps,v8,v9],⟨v1,v2,v3,v5,v8,v9,rfl,RV.one rfl h1,RV.one rfl h2,RV.one rfl h3,RV.one rfl h5,RV.one rfl h8,RV.one rfl h9⟩,rfl⟩
structure Agg(n:Nat)where
 cs:List Value
instance{n:Nat}:Rep (Agg n)where
 sz:=n+1
 agg:=true
 ok:=fun _ _ cs _=>cs.length=n+1∧∀u∈cs,u.oneCell'=true
 len:=fun h=>h.1
 one:=fun h=>h.2
 pos:=Nat.succ_pos n
 sgl:=fun h=>by cases h
 keep:=fun h _=>h
def cellN(P:Program)(t:TypeId):Option (Nat×Bool):=
 match P.info? t,P.underlying t with
 |some i,some (.struct _)=>some (i.size,true)
 |some i,some (.array _ _)=>none
 |some i,some _=>some (i.size,false)
 |_,_=>none
def loadV(P:Program)(t:TypeId)(off:Nat)(cs:List Value):Option Value:=
 match cellN P t with
 |some (n+1,true)=>if Nat.beq ((cs.drop off).take (n+1)).length (n+1)then some (.agg ((cs.drop off).take (n+1)).toArray)else none
 |some (1,false)=>cs[off]?
 |_=>none
theorem ZgU{P:Program}{t:TypeId}{off b:Nat}{bt:TypeId}{cs:List Value}{v:Value}{w:World}(h:loadV P t off cs=some v)(hb:Box w b bt cs):(loadVar t ⟨b,off,none⟩).run P w= .ok v w:=by
 unfold loadV cellN at h;cases hi:P.info? t with
 |none=>simp[hi]at h
 | some i=>
  cases hu:P.underlying t with
  |none=>simp[hi,hu]at h
  | some dd=>
   have key:∀(n:Nat),i.size=n+1→(P.underlying t=some dd)→(match P.underlying t with|some (.struct _)=>true|some (.array _ _)=>true|some _=>false|none=>!true)=true→Ty P t (Agg n):=fun n hn _ ha=>⟨by rw[hi];exact congrArg some hn,ha⟩;have agg:∀n,i.size=n+1→Ty P t (Agg n)→(if Nat.beq ((cs.drop off).take (n+1)).length (n+1)then some (Value.agg ((cs.drop off).take (n+1)).toArray)else none)=some v→(loadVar t ⟨b,off,none⟩).run P w= .ok v w:=by
    intro n hn hT h;split at h
    ·rename_i hlen;have hlen:=Zqa hlen;obtain rfl:=Option.some.inj h;have hp:=hb.part (off:=off) (ps:=(cs.drop off).take (n+1)) (by rw[hlen]);exact Y7 hT hlen hp
    ·cases h
   cases dd with
   |struct fs=>
    simp only[hi,hu]at h;cases hn:i.size with
    |zero=>simp[hn]at h
    |succ n=>simp only[hn]at h;exact agg n hn (key n hn hu (by rw[hu])) h
   |array _ _=>simp[hi,hu]at h
   | _=>
    simp only[hi,hu]at h;have hT:i.size=1→Ty P t Int:=fun h1=>⟨by rw[hi];exact congrArg some h1,by rw[hu];rfl⟩;split at h
    ·rename_i heq;simp at heq
    ·rename_i heq;simp only[Option.some.injEq,Prod.mk.injEq,Zqt]at heq;have hc:Cells w ⟨b,off,none⟩ [v]:=fun j u hj=>by
      cases j with
      |zero=>
       simp only[Zpt,Option.some.injEq]at hj;subst hj;have:(⟨b,off,none⟩:Addr).add 0=⟨b,off,none⟩:=by simp[Addr.add]
       rw[this,hb.cell];exact h
      |succ j=>simp at hj
     exact Y7 (hT heq) (cs:=[v]) rfl hc
    ·cases h
abbrev Bxs:=List (Nat×List Value)
def Bxs.at(bx:Bxs)(w:World):Prop:=∀p∈bx,∃t,Box w p.1 t p.2
def evB(P:Program)(bx:Bxs)(ρ:Operand→Option Value)(h:Option Nat)(o:Op):Option (Value×List (Nat×Nat)):=
 match h with
 |none=>(pe P ρ o).map fun v=>(v,[])
 | some i=>
  match o with
  |.load t x=>
   match ρ x,bx[i]? with
   |some (.pointer (some ⟨b,off,none⟩)),some (b',cs)=>(loadV P t off cs).map fun v=>(v,[(b,b')])
   |_,_=>none
  |_=>none
def seqB(P:Program)(N:Nat)(bx:Bxs)(hs:List (Nat×Nat)):Nat→List Oper→List (Nat×Value)→Option (List (Nat×Value)×List (Nat×Nat))
 |_,[],σ=>some (σ,[])
 |j,o::os,σ=>
  match o.guard,o.dst,evB P bx (opd σ) (hs.lookup j) o.op with
  |none,some d,some (v,e)=>if d<N then(seqB P N bx hs (j+1) os ((d,v)::σ)).map fun r=>(r.1,e++r.2)else none
  |_,_,_=>none
def okB{α:Type}(o:Option (α×List (Nat×Nat))):Prop:=o.map (fun r=>r.2.map (·.1))=some ((o.map (fun r=>r.2.map (·.2))).getD [])
theorem ZjD{α:Type}{o:Option (α×List (Nat×Nat))}(h:okB o):∃x e,o=some (x,e)∧∀p∈e,p.1=p.2:=by
 unfold okB at h;cases o with
 |none=>cases h
 |some r=>
  obtain⟨x,e⟩:=r;simp only[ZoQ,Zpu,Option.some.injEq]at h;exact⟨x,e,rfl,fun p hp=>Zpm.1 h p hp⟩
section
variable{P:Program}{ops:Array Oper}{Q:Exit→Act→World→Prop}{a:Act}{w:World}{N:Nat}{σ:List (Nat×Value)}{bx:Bxs}{hs:List (Nat×Nat)}
theorem Zoq{ρ:Operand→Option Value}{o:Oper}{h:Option Nat}{v:Value}{e:List (Nat×Nat)}{K:Act→World→Prop}(hρ:∀x v,ρ x=some v→a.eval x=v)(hbx:bx.at w)(he:evB P bx ρ h o.op=some (v,e))(heq:∀p∈e,p.1=p.2)
  (hK:K (a.put o.dst v) w):o.wp P a w K Q:=by
 unfold evB at he;cases h with
 | none=>
  simp only at he;cases hp:pe P ρ o.op with
  |none=>rw[hp]at he;cases he
  |some u=>
   rw[hp]at he;simp only[ZoQ,Option.some.injEq,Prod.mk.injEq]at he;obtain⟨rfl,rfl⟩:=he;unfold Oper.wp;rw[ZdJ (P:=P) (ρ':=a.eval) hρ hp w];exact hK
 | some i=>
  simp only at he;split at he
  ·rename_i t x ho;split at he
   ·rename_i b off b' cs hx hi;cases hl:loadV P t off cs with
    |none=>rw[hl]at he;cases he
    | some u=>
     rw[hl]at he;simp only[ZoQ,Option.some.injEq,Prod.mk.injEq]at he;obtain⟨rfl,rfl⟩:=he;have hb:b=b':=heq (b,b') (by simp);subst hb;obtain⟨bt,hB⟩:=hbx _ (Zpd hi);have hr:=ZgU hl hB;have hx':=hρ x _ hx;unfold Oper.wp;have:(execOp a.eval o).run P w= .ok (.value u) w:=by
      simp[execOp,ho,Instr.loadAt,hx',Instr.sureAddr,hr]
     rw[this];exact hK
   ·cases he
  ·cases he
theorem ZdQ{rest:List Oper}(hbx:bx.at w):∀{l:List Oper}{j:Nat}{σ σ1:List (Nat×Value)}{e:List (Nat×Nat)}{a:Act},FrS N σ a→seqB P N bx hs j l σ=some (σ1,e)→(∀p∈e,p.1=p.2)→(∀a',FrS N σ1 a'→wpList P ops Q rest a' w)→wpList P ops Q (l++rest) a w
 |[],j,σ,σ1,e,a,hF,hs,_,h=>by
  simp only[seqB,Option.some.injEq,Prod.mk.injEq]at hs;obtain⟨rfl,_⟩:=hs;exact h a hF
 | o ::l,j,σ,σ1,e,a,hF,hs,he,h=>by
  unfold seqB at hs;split at hs
  ·rename_i d v e1 hg hd hv;split at hs
   ·rename_i hdN;cases hr:seqB P N bx _ (j+1) l ((d,v)::σ)with
    |none=>rw[hr]at hs;cases hs
    |some r=>
     obtain⟨σ2,e2⟩:=r;rw[hr]at hs;simp only[ZoQ,Option.some.injEq,Prod.mk.injEq]at hs;obtain⟨rfl,rfl⟩:=hs;refine wpList_plain hg fun K hK=>Zoq (fun x u hx=>Zt hF hx) hbx hv (fun p hp=>he p (ZoZ.2 (.inl hp))) (hK _ _ ?_);rw[hd];exact ZdQ hbx (hF.put hdN v) hr (fun p hp=>he p (ZoZ.2 (.inr hp))) h
   ·cases hs
  ·cases hs
end
def pureB(P:Program)(bx:Bxs)(hs:List (Nat×Nat))(ops:Array Oper)(σ:List (Nat×Value))(pds:List Pd)(j:Nat):Option (Value×List (Nat×Nat)):=
 match hs.lookup j with
 |none=>(pureV P ops σ pds j).map fun v=>(v,[])
 |some i=>
  match ops[j]? with
  |some o=>evB P bx (envP ops σ pds j) (some i) o.op
  |none=>none
def pdsB(P:Program)(bx:Bxs)(hs:List (Nat×Nat))(ops:Array Oper)(σ:List (Nat×Value))(np:List (Nat×Pd)):Nat→List Pd
 |0=>[]
 | n+1=>pdsB P bx hs ops σ np n++[match np.lookup n with|some p=>p|none=>match pureB P bx hs ops σ (pdsB P bx hs ops σ np n) n with|some v=>.eq v.1|none=>.any]
def pdsM(P:Program)(bx:Bxs)(hs:List (Nat×Nat))(ops:Array Oper)(σ:List (Nat×Value))(np:List (Nat×Pd))(m:Nat):List Pd:=pdsB P bx hs ops σ np m++List.replicate (ops.size-m) .any
def freeI(np:List (Nat×Pd))(m:Nat):List Nat:=(List.range m).filter fun j=>(np.lookup j).isNone
def isPB(hs:List (Nat×Nat))(np:List (Nat×Pd))(m:Nat):List Bool:=(List.range m).map fun j=>(np.lookup j).isNone&&(hs.lookup j).isNone
def outS(ops:Array Oper)(σ:List (Nat×Value))(pds:List Pd)(m:Nat):List (Nat×Value):=
 ((List.range m).filterMap fun i=>match(ops[i]?).bind (·.dst),guardOf ops i,valAt pds i with
  |some d,none,some v=>if lastW ops d m==some i then some (d,v)else none
  |_,_,_=>none)++σ.filter fun p=>(lastW ops p.1 m).isNone
section
variable{P:Program}{bx:Bxs}{hs:List (Nat×Nat)}{ops:Array Oper}{σ:List (Nat×Value)}{np:List (Nat×Pd)}{pds:List Pd}{m:Nat}
theorem Zc5:∀n,(pdsB P bx hs ops σ np n).length=n
 |0=>rfl
 |n+1=>by simp[pdsB,Zc5 n]
theorem ZhO:∀n j,j<n→∀p,np.lookup j=some p→(pdsB P bx hs ops σ np n).getD j .any=p
 |0,j,h,_,_=>absurd h (Nat.not_lt_zero _)
 | n+1,j,h,p,hp=>by
  unfold pdsB;rw[ZoL];rcases ZpW j n with h1|h1
  ·rw[Zpe (by rw[Zc5];exact h1),←ZoL];exact ZhO n j h1 p hp
  ·obtain rfl:j=n:=by omega
   rw[ZoX (by rw[Zc5];exact ZoH _),Zc5,ZpJ];simp[hp]
theorem Zcd{j:Nat}(h:j<m){p:Pd}(hp:np.lookup j=some p):(pdsM P bx hs ops σ np m).getD j .any=p:=by
 unfold pdsM;rw[ZoL,Zpe (by rw[Zc5];exact h),←ZoL];exact ZhO m j h p hp
theorem Zlb{j:Nat}(h:m≤j):(pdsM P bx hs ops σ np m).getD j .any= .any:=by
 unfold pdsM;rw[ZoL,ZoX (by rw[Zc5];exact h),Zp4];split<;>rfl
theorem Zb5{t:Nat}{v:Value}{f:Nat→Bool}:∀{σ:List (Nat×Value)},(σ.filter fun p=>f p.1).lookup t=some v→f t=true∧σ.lookup t=some v
 |[],h=>by cases h
 | (k,u)::σ,h=>by
  rw[List.filter_cons]at h;by_cases e:t=k
  ·subst e;by_cases hf:f t=true
   ·rw[ZoD (by simpa using hf)]at h;simp only[Zpl,Zpw]at h⊢;exact⟨hf,h⟩
   ·rw[ZoC (by simpa using hf)]at h;exact absurd (Zb5 h).1 hf
  ·have e':(t==k)=false:=by simpa using e
   have h2:(σ.filter fun p=>f p.1).lookup t=some v:=by
    split at h
    ·rw[Zpl,e']at h;exact h
    ·exact h
   rw[Zpl,e'];exact Zb5 h2
theorem Ziw{t:Nat}{v:Value}(h:(outS ops σ pds m).lookup t=some v):outVm ops σ pds m t=some v:=by
 unfold outS at h;rw[List.lookup_append]at h;unfold outVm
 cases h1:((List.range m).filterMap fun i=>match(ops[i]?).bind (·.dst),guardOf ops i,valAt pds i with
  |some d,none,some v=>if lastW ops d m==some i then some (d,v)else none
  |_,_,_=>none).lookup t with
 | some u=>
  rw[h1]at h;simp only[Option.some_or,Option.some.injEq]at h;subst h;have hm:=Zcf h1;rw[Zqm]at hm;obtain⟨i,_,hi⟩:=hm;split at hi
  ·rename_i d v hd hg hv;split at hi
   ·rename_i hl;simp only[Option.some.injEq,Prod.mk.injEq]at hi;obtain⟨rfl,rfl⟩:=hi;rw[Zpf]at hl;rw[hl];simp[hg,hv]
   ·cases hi
  ·cases hi
 |none=>
  rw[h1]at h;simp only[Option.none_or]at h;obtain⟨h2,h3⟩:=Zb5 (f:=fun k=>(lastW ops k m).isNone) h;rw[Zpo]at h2;rw[h2];exact h3
theorem Zeh{p:Nat→Prop}:∀{l:List Nat},(∀j∈l,p j)→AllL p l
 |[],_=>trivial
 |j::_,h=>⟨h j Zpn,Zeh fun i hi=>h i (Zpi _ hi)⟩
theorem Zjb{N:Nat}{a a':Act}{w:World}(hF:FrS N σ a)(hE:EndM ops (TT ops pds) a m a' w){t:Nat}{v:Value}(h:outVm ops σ pds m t=some v):a'.eval (.tmp t)=v:=by
 have h1:=hE.2.2 t;unfold Know at h1;unfold outVm at h;cases hl:lastW ops t m with
 |none=>simp only[hl]at h h1;rw[h1];exact hF.get t v h
 | some i=>
  simp only[hl]at h h1;split at h
  ·rename_i hg;have hi:=Zj2 (Zar hl).2;have hgi:gc ops pds ops.size i:=by
    obtain⟨k,hk⟩:∃k,ops.size=k+1:=⟨ops.size-1,by omega⟩;rw[hk];unfold gc;rw[Zpo]at hg;rw[hg];trivial
   have h2:=h1.1 hgi;unfold valAt Pd.val? at h;split at h
   ·rename_i u hu;simp only[Option.some.injEq]at h;subst h;rw[hu]at h2;exact h2
   ·cases h
  ·cases h
theorem ZaP{j:Nat}{p:Pd}:∀{np:List (Nat×Pd)},np.lookup j=some p→(j,p)∈np
 | (k,q)::np,h=>by
  rw[Zpl]at h;by_cases e:j=k
  ·subst e;simp at h;subst h;exact Zpn
  ·have:(j==k)=false:=by simpa using e
   rw[this]at h;exact Zpi _ (ZaP h)
theorem Zeo{j:Nat}(h:j<m):(isPB hs np m).getD j false=((np.lookup j).isNone&&(hs.lookup j).isNone):=by
 unfold isPB;rw[ZoL,Zpj,Zqy h];rfl
variable{N:Nat}{a:Act}{w:World}{Q:Exit→Act→World→Prop}{draw:Bool}{ms:List Nat}
structure ChkB(P:Program)(bx:Bxs)(hs:List (Nat×Nat))(ops:Array Oper)(σ:List (Nat×Value))(np:List (Nat×Pd))(m:Nat)(pds:List Pd):Prop where
 val:(freeI np m).map (fun j=>(pureB P bx hs ops σ pds j).map (·.1))=(freeI np m).map fun j=>(pds.getD j .any).val?
 some:((freeI np m).all fun j=>(pds.getD j .any).val?.isSome)=true
 blk:(freeI np m).map (fun j=>(pureB P bx hs ops σ pds j).map fun r=>r.2.map (·.1))=(freeI np m).map fun j=>(pureB P bx hs ops σ pds j).map fun r=>r.2.map (·.2)
theorem ChkB.at{j:Nat}(h:ChkB P bx hs ops σ np m pds)(hj:j<m)(hn:np.lookup j=none):∃v e,pureB P bx hs ops σ pds j= .some (v,e)∧(pds.getD j .any)= .eq v∧∀p∈e,p.1=p.2:=by
 have hm:j∈freeI np m:=ZoV.2 ⟨ZoS.2 hj,by rw[hn];rfl⟩;have h1:=Zpm.1 h.val j hm;have h2:=h.some;rw[ZoK]at h2;obtain⟨v,hv⟩:=ZpM.1 (h2 j hm);have h3:=Zpm.1 h.blk j hm;have hpd:pds.getD j .any= .eq v:=by
  cases hp:pds.getD j .any with
  |eq u=>rw[hp]at hv;simp only[Pd.val?,Option.some.injEq]at hv;rw[hv]
  |is p=>rw[hp]at hv;cases hv
  |own p=>rw[hp]at hv;cases hv
  |any=>rw[hp]at hv;cases hv
 cases hb:pureB P bx hs ops σ pds j with
 |none=>rw[hb,hv]at h1;cases h1
 |some r=>
  obtain⟨u,e⟩:=r;rw[hb,hv]at h1;simp only[ZoQ,Option.some.injEq]at h1;subst h1;rw[hb]at h3;simp only[ZoQ,Option.some.injEq]at h3;exact⟨u,e,rfl,hpd,fun p hp=>Zpm.1 h3 p hp⟩
theorem ZiL{j i:Nat}{v:Value}{e:List (Nat×Nat)}(hbx:bx.at w)(hG:Good ops pds [])(hF:FrS N σ a)(hi:hs.lookup j=some i)(hp:pureB P bx hs ops σ pds j=some (v,e))(he:∀p∈e,p.1=p.2)(hpd:pds.getD j .any= .eq v):NPB P draw ms ops pds a w Q j:=by
 unfold pureB at hp;rw[hi]at hp;simp only at hp;cases ho:ops[j]? with
 |none=>rw[ho]at hp;cases hp
 | some o=>
  rw[ho]at hp;simp only at hp;obtain⟨dst,op,ty,pos,af,g⟩:=o;unfold evB at hp;simp only at hp;split at hp
  ·rename_i t x;split at hp
   ·rename_i b off b' cs hx hbi;cases hl:loadV P t off cs with
    |none=>rw[hl]at hp;cases hp
    | some u=>
     rw[hl]at hp;simp only[ZoQ,Option.some.injEq,Prod.mk.injEq]at hp;obtain⟨rfl,rfl⟩:=hp;have hb:b=b':=he (b,b') (by simp);subst hb;obtain⟨bt,hB⟩:=hbx _ (Zpd hbi);exact Zdi _ ho hG hF fun a' w' hC _ hv _=>by
      have hr:=ZgU hl (hB.ext hC);have hx':=hv x _ (by simp[Op.operands]) hx;refine Zx (v:=u) (w':=w') ?_ (by rw[hpd];exact⟨rfl,Chg.refl _ _⟩);simp[execOp,Instr.loadAt,hx',Instr.sureAddr,hr]
   ·cases hp
  ·cases hp
end
structure RF where
 ok:World→(Nat→Prop)→Prop
 sub:∀{w:World}{F F':Nat→Prop},ok w F→(∀k,k<w.heap.size→F k→F' k)→ok w F'
 chg:∀{w w':World}{F T:Nat→Prop},ok w F→Chg T w w'→(∀k,F k→¬T k)→ok w' F
 box:Option (Nat×List Value):=none
 isb:∀{w:World}{F:Nat→Prop}{p:Nat×List Value},box=some p→ok w F→∃t,Box w p.1 t p.2:=by intro _ _ _ h;cases h
def RO{α:Type}[Rep α](v:Value)(x:α):RF where
 ok w F:=RV w F v x
 sub h hs:=RV.sub h hs
 chg h hc ht:=RV.chg h hc ht
def FX(b:Nat)(t:TypeId)(cs:List Value):RF where
 ok w F:=Box w b t cs∧F b
 sub h hs:=⟨h.1,hs b h.1.lt h.2⟩
 chg h hc ht:=⟨h.1.chg hc (ht b h.2),h.2⟩
 box:=some (b,cs)
 isb h hok:=by grind
def CS{ρ α:Type}[Flat ρ][Rep α](rs:List ρ)(xs:List α):RF where
 ok w F:=Css w F (rs.map Flat.enc) xs
 sub h hs:=⟨h.1,fun i cs x hi hx=>Rep.keep (h.2 i cs x hi hx) fun k hk hf=>⟨rfl,hs k hk hf⟩⟩
 chg h hc ht:=⟨h.1,fun i cs x hi hx=>Rep.keep (h.2 i cs x hi hx) fun k hk hf=>⟨hc.block k hk (ht k hf),hf⟩⟩
def AllF(Φ:List RF)(w:World)(F:Nat→Prop):Prop:=∀R∈Φ,R.ok w F
section
variable{w w':World}{F F' T:Nat→Prop}{Φ Ψ:List RF}{R:RF}
theorem AllF.sub(h:AllF Φ w F)(hs:∀k,k<w.heap.size→F k→F' k):AllF Φ w F':=fun R hR=>R.sub (h R hR) hs
theorem AllF.chg(h:AllF Φ w F)(hc:Chg T w w')(ht:∀k,F k→¬T k):AllF Φ w' F:=fun R hR=>R.chg (h R hR) hc ht
theorem AllF.nil:AllF [] w F:=fun R hR=>by cases hR
theorem AllF.add(h:AllF Φ w F)(hR:R.ok w F):AllF (Φ++[R]) w F:=fun R' h'=>by
 rcases ZoZ.1 h' with h'|h'
 ·exact h R' h'
 simp_all
theorem AllF.join(h:AllF Φ w F)(h':AllF Ψ w F):AllF (Φ++Ψ) w F:=fun R hR=>(ZoZ.1 hR).elim (h R) (h' R)
theorem AllF.get(h:AllF Φ w F){i:Nat}(hi:Φ[i]? =some R):R.ok w F:=h R (Zpd hi)
theorem AllF.pick(fs:List Nat)(h:AllF Φ w F)(hf:fs.map (fun i=>Φ[i]?)=Ψ.map some):AllF Ψ w F:=fun R hR=>by
 obtain⟨j,hj,hR⟩:=List.mem_iff_getElem.1 hR;have h1:(fs.map fun i=>Φ[i]?)[j]? =some (some R):=by simp_all
 rw[Zpj]at h1;cases hi:fs[j]? with
 |none=>simp_all
 |some i=>rw[hi]at h1;exact h.get (by simpa using h1)
end
structure Bs where
 w:World
 S:Nat→Prop
 F:Nat→Prop
structure Cx(B:Bs)(N:Nat)(σ:List (Nat×Value))(Γ:List HP)(Φ:List RF)(a:Act)(w:World):Prop where
 fr:FrS N σ a
 me:∃S F,Mem B.w B.S B.F w S F∧Sep Γ w S∧AllF Φ w F
def bxsOf(Γ:List HP)(Φ:List RF):Bxs:=Γ.filterMap (·.box)++Φ.filterMap (·.box)
theorem Cx.bxs{B:Bs}{N:Nat}{σ:List (Nat×Value)}{Γ:List HP}{Φ:List RF}{a:Act}{w:World}(c:Cx B N σ Γ Φ a w):(bxsOf Γ Φ).at w:=fun p hp=>by
 obtain⟨_,S,F,_,hs,hf⟩:=c;rcases ZoZ.1 hp with hp|hp
 ·rw[Zqm]at hp;obtain⟨H,hH,hb⟩:=hp;obtain⟨i,hi⟩:=Zqv hH;obtain⟨A,h1,_⟩:=hs.get i hi;exact H.isb hb h1
 ·rw[Zqm]at hp;obtain⟨R,hR,hb⟩:=hp;exact R.isb hb (hf R hR)
def Ava(Γ:List HP)(Φ:List RF)(w:World)(R:RF):Prop:=∀S F,Sep Γ w S→AllF Φ w F→R.ok w (fun k=>F k∨S k)
def AvaL(Γ:List HP)(Φ:List RF)(w:World):List RF→Prop
 |[]=>True
 |R::Ψ=>Ava Γ Φ w R∧AvaL Γ Φ w Ψ
section
variable{Γ:List HP}{Φ Ψ:List RF}{w:World}
theorem Ava.f(i:Nat){R:RF}(h:Φ[i]? =some R:=by rfl):Ava Γ Φ w R:=fun _ _ _ hf=>R.sub (hf.get h) fun _ _ h=>.inl h
theorem Ava.g{α:Type}[Rep α]{E:TypeId}{v:Value}{l:List α}(i:Nat)(h:Γ[i]? =some (SL E v l):=by rfl):Ava Γ Φ w (RO v l):=fun _ _ hs _=>RV.sub (hs.rv i h) fun _ _ h=>.inr h
theorem Ava.b{b:Nat}{t:TypeId}{cs:List Value}(i:Nat)(h:Γ[i]? =some (BX b t cs):=by rfl):Ava Γ Φ w (FX b t cs):=fun _ _ hs _=>by
 obtain⟨A,h1,h2⟩:=hs.get i h;exact⟨h1.1,.inr (h2 b h1.2)⟩
theorem Ava.nil{α:Type}[Rep α]:Ava Γ Φ w (RO (.slice none 0 0) ([]:List α)):=fun _ _ _ _=>RV.nil
theorem Ava.fl{α:Type}[Flat α](x:α):Ava Γ Φ w (RO (Rep.val α (Flat.enc x)) x):=fun _ _ _ _=>RV.mk_flat x
theorem AvaL.all{S F:Nat→Prop}:∀{Ψ:List RF},AvaL Γ Φ w Ψ→Sep Γ w S→AllF Φ w F→AllF Ψ w (fun k=>F k∨S k)
 |[],_,_,_=>AllF.nil
 |R::Ψ,h,hs,hf=>fun R' hR=>by
  rcases Zpc.1 hR with rfl|hR
  ·exact h.1 S F hs hf
  ·exact AvaL.all h.2 hs hf R' hR
end
def tup:List Value→Value
 |[v]=>v
 |vs=>.tuple vs.toArray
abbrev Res:=List Value×List HP×List RF
def Con(P:Program)(f:FuncId)(args:List Value)(Γ:List HP)(Φ:List RF){ι:Type}(R:ι→Res):Prop:=
 ∀(w:World)(S F:Nat→Prop),Sep Γ w S→AllF Φ w F→(∀k,S k→k<w.heap.size)→(∀k,F k→k<w.heap.size)→(∀k,S k→F k→False)→
  Calls P f args.toArray w fun e w'=>∃i S' F',e= .returned (tup (R i).1)∧Mem w S F w' S' F'∧Sep (R i).2.1 w' S'∧AllF (R i).2.2 w' F'
def Rp(B:Bs){ι:Type}(R:ι→Res):Ending→World→Prop:=fun e w'=>∃i S' F',e= .returned (tup (R i).1)∧Mem B.w B.S B.F w' S' F'∧Sep (R i).2.1 w' S'∧AllF (R i).2.2 w' F'
section
variable{P:Program}{B:Bs}{N:Nat}{σ:List (Nat×Value)}{Γ:List HP}{Φ:List RF}{a a':Act}{w w':World}{Q:Exit→Act→World→Prop}{K:Act→World→Prop}{ι:Type}{R:ι→Res}{fn:Func}
theorem En{f:FuncId}{c:Code}{args:List Value}(hf:P.funcs[f]? =some fn)(hb:fn.body=some c)(hN:fn.ntmps=N)
  (h:∀B a w,Cx B N (args0 0 args) Γ Φ a w→c.wp P (bodyPost P fn (Rp B R)) a w)(hle:Nat.ble args.length N=true:=by rfl):Con P f args Γ Φ R:=
 fun w S F hs hf' hS hF hd=>enter hf hb hN hle fun a hF'=>h ⟨w,S,F⟩ a w ⟨hF',S,F,Mem.start hS hF hd,hs,hf'⟩
theorem Cx.to{σ':List (Nat×Value)}(c:Cx B N σ Γ Φ a w)(h:FrS N σ' a'):Cx B N σ' Γ Φ a' w:=⟨h,c.me⟩
theorem Cx.ext(c:Cx B N σ Γ Φ a w)(hc:Chg Non w w'):Cx B N σ Γ Φ a w':=by
 obtain⟨h,S,F,h1,h2,h3⟩:=c;exact⟨h,S,F,h1.ext hc,h2.ext hc,h3.chg hc fun _ _ h=>h.elim⟩
theorem Cx.use{Rf:RF}(c:Cx B N σ Γ Φ a w)(h:Ava Γ Φ w Rf):∃F,Rf.ok w F:=by
 obtain⟨_,S,F,_,h2,h3⟩:=c;exact⟨_,h S F h2 h3⟩
theorem Cx.usebx{b:Nat}{t:TypeId}{cs:List Value}(c:Cx B N σ Γ Φ a w)(h:Ava Γ Φ w (FX b t cs)):Box w b t cs:=by
 obtain⟨F,h⟩:=c.use h;exact h.1
theorem Cx.add{Rf:RF}(c:Cx B N σ Γ Φ a w)(h:Ava [] Φ w Rf):Cx B N σ Γ (Φ++[Rf]) a w:=by
 obtain⟨hF,S,F,h1,h2,h3⟩:=c;exact⟨hF,S,F,h1,h2,h3.add (Rf.sub (h Non F (Sep.nil w Non) h3) fun _ _ h=>h.elim id fun h=>h.elim)⟩
def rg:Nat→List Nat
 |0=>[]
 |n+1=>rg n++[n]
theorem Cx.re{σ':List (Nat×Value)}{Γ':List HP}{Φ':List RF}(c:Cx B N σ Γ Φ a w)(gs fs:List Nat)(hg:gs.map (fun i=>Γ[i]?)=Γ'.map some:=by rfl)(hf:fs.map (fun i=>Φ[i]?)=Φ'.map some:=by rfl)
  (hn:gs.Nodup:=by decide)(hσ:σ'.map (fun p=>σ.lookup p.1)=σ'.map fun p=>some p.2:=by kernel_rfl):Cx B N σ' Γ' Φ' a w:=by
 obtain⟨h,S,F,h1,h2,h3⟩:=c;exact⟨h.sub σ' hσ,S,F,h1,h2.pick gs hn hg,h3.pick fs hf⟩
theorem Cx.frs(σ':List (Nat×Value))(c:Cx B N σ Γ Φ a w)(hσ:σ'.map (fun p=>σ.lookup p.1)=σ'.map fun p=>some p.2:=by kernel_rfl):Cx B N σ' Γ Φ a w:=⟨c.fr.sub σ' hσ,c.me⟩
theorem Cx.pick{Γ':List HP}(c:Cx B N σ Γ Φ a w)(gs:List Nat)(hg:gs.map (fun i=>Γ[i]?)=Γ'.map some:=by rfl)(hn:gs.Nodup:=by decide):Cx B N σ Γ' Φ a w:=by
 obtain⟨h,S,F,h1,h2,h3⟩:=c;exact⟨h,S,F,h1,h2.pick gs hn hg,h3⟩
theorem Cx.gam{Γ':List HP}(c:Cx B N σ Γ Φ a w)(f:∀S,Sep Γ w S→Sep Γ' w S):Cx B N σ Γ' Φ a w:=by
 obtain⟨h,S,F,h1,h2,h3⟩:=c;exact⟨h,S,F,h1,f S h2,h3⟩
theorem ZG{Γ2:List HP}{S:Nat→Prop}(h:Sep (Γ2++Γ) w S):Sep (Γ++Γ2) w S:=by
 obtain⟨A,R,h1,h2,h3,h4,h5⟩:=h.split;grind[Sep.join]
theorem Cx.relen{α:Type}[Rep α]{E:TypeId}{b:Option Addr}{n cp:Nat}{l:List α}(i:Nat)(c:Cx B N σ Γ Φ a w)(hi:Γ[i]? =some (SL E (.slice b n cp) l):=by rfl):n=l.length∧Cx B N σ (Γ.set i (SL E (.slice b l.length cp) l)) Φ a w:=by
 obtain⟨h,S,F,h1,h2,h3⟩:=c;obtain⟨he,hs⟩:=h2.relen i hi;exact⟨he,h,S,F,h1,hs,h3⟩
theorem Cx.eqs{v u:Value}(t:Nat)(c:Cx B N σ Γ Φ a w)(he:v=u)(hv:σ.lookup t=some v:=by kernel_rfl):Cx B N ((t,u)::σ) Γ Φ a w:=⟨c.fr.cons (he▸c.fr.get t v hv),c.me⟩
theorem Fp{ops:Array Oper}{k:Nat}(hs:List (Nat×Nat))(m:Nat)(c:Cx B N σ Γ Φ a w)(h:∀fr,Cx B N ((seqB P N (bxsOf Γ Φ) hs k ((ops.toList.drop k).take m) σ).getD ([],[])).1 Γ Φ fr w→wpFrom P ops Q (k+m) fr w)
  (hk:(seqB P N (bxsOf Γ Φ) hs k ((ops.toList.drop k).take m) σ).map (fun r=>r.2.map (·.1))=some (((seqB P N (bxsOf Γ Φ) hs k ((ops.toList.drop k).take m) σ).map (fun r=>r.2.map (·.2))).getD []):=by kernel_rfl):wpFrom P ops Q k a w:=by
 obtain⟨σ',e,hσ,he⟩:=ZjD hk;rw[hσ]at h;unfold wpFrom at h⊢;have:ops.toList.drop k=(ops.toList.drop k).take m++ops.toList.drop (k+m):=by
  grind[List.drop_drop,List.take_append_drop]
 rw[this];exact ZdQ c.bxs c.fr hσ he fun a' hF'=>h a' (c.to hF')
theorem P1{id:Nat}{ops:Array Oper}(hs:List (Nat×Nat))(c:Cx B N σ Γ Φ a w)(h:∀fr,Cx B N ((seqB P N (bxsOf Γ Φ) hs 0 ops.toList σ).getD ([],[])).1 Γ Φ fr w→K fr w)
  (hk:(seqB P N (bxsOf Γ Φ) hs 0 ops.toList σ).map (fun r=>r.2.map (·.1))=some (((seqB P N (bxsOf Γ Φ) hs 0 ops.toList σ).map (fun r=>r.2.map (·.2))).getD []):=by kernel_rfl):(Code.region id ops false).wp P (Exit.then K Q) a w:=by
 obtain⟨σ',e,hσ,he⟩:=ZjD hk;rw[hσ]at h;refine Zhp ?_;unfold wpFrom;rw[Zpp,←ZpD ops.toList];exact ZdQ c.bxs c.fr hσ he fun a' hF'=>wpList_nil (h a' (c.to hF'))
theorem P0{id:Nat}{ops:Array Oper}{b:Code}(hs:List (Nat×Nat))(c:Cx B N σ Γ Φ a w)(h:∀fr,Cx B N ((seqB P N (bxsOf Γ Φ) hs 0 ops.toList σ).getD ([],[])).1 Γ Φ fr w→b.wp P Q fr w)
  (hk:(seqB P N (bxsOf Γ Φ) hs 0 ops.toList σ).map (fun r=>r.2.map (·.1))=some (((seqB P N (bxsOf Γ Φ) hs 0 ops.toList σ).map (fun r=>r.2.map (·.2))).getD []):=by kernel_rfl):(Code.seq (.region id ops false) b).wp P Q a w:=wp_seq (P1 hs c h hk)
theorem Tq{x:Code}(h:x.wp P (Exit.then (fun a w=>Q .normal a w) Q) a w):x.wp P Q a w:=wp_cut' h fun _ _ h=>h
theorem T0{id:Nat}{l:List Oper}{b:Code}(h:wpFrom P l.toArray (Exit.then (fun a w=>b.wp P Q a w) Q) 0 a w):(Code.seq (.region id l.toArray false) b).wp P Q a w:=wp_seq (ZhP h)
theorem T1{id:Nat}{l:List Oper}(h:wpFrom P l.toArray Q 0 a w):(Code.region id l.toArray false).wp P Q a w:=ZhP h
theorem E0{ops:Array Oper}{k:Nat}(h:K a w)(hk:ops.size=k:=by rfl):wpFrom P ops (Exit.then K Q) k a w:=ZhW hk (Zdm h)
theorem E1{ops:Array Oper}{k:Nat}(h:Q .normal a w)(hk:ops.size=k:=by rfl):wpFrom P ops Q k a w:=ZhW hk h
theorem S0{x:Code}{b:Code}(h:x.wp P (Exit.then (fun a w=>b.wp P Q a w) Q) a w):(Code.seq x b).wp P Q a w:=wp_seq h
theorem K0(h:K a w):Code.skip.wp P (Exit.then K Q) a w:=wp_skip (Zdm h)
theorem K1(h:Q .normal a w):Code.skip.wp P Q a w:=wp_skip h
theorem I0{x y:Code}{o:Operand}{β:Type}{X Y:Option β}{r:Option β}{b:Bool}(c:Cx B N σ Γ Φ a w)(h:(if b=true then X else Y)=r)(ht:X=r→x.wp P Q a w)(hf:Y=r→y.wp P Q a w)(hb:opd σ o=some (.bool b):=by kernel_rfl):
  (Code.cond o x y).wp P Q a w:=Zlh c.fr hb (fun hb=>ht (iteT hb h)) fun hb=>hf (iteF hb h)
abbrev Lpt:=List (Nat×Value)×(List HP→List HP)×List RF
abbrev CxL(B:Bs)(N:Nat)(Γ:List HP)(Φ:List RF)(J:Lpt)(a:Act)(w:World):Prop:=Cx B N J.1 (J.2.1 Γ) (Φ++J.2.2) a w
theorem Lp{id:Nat}{b:Code}{σt ρt ι' κ:Type}{F:σt→Option (σt⊕ρt)}{n:Nat}{s0:σt}{r:ρt}(J:σt→ι'→Lpt)(M:κ→Lpt)(hit:iterN F n s0=some r)(c:Cx B N σ Γ Φ a w)(i0:ι')(h0:CxL B N Γ Φ (J s0 i0) a w)
  (round:∀s q i a w,CxL B N Γ Φ (J s i) a w→F s=some q→(∀r0,q= .inr r0→r0=r)→b.wp P (Exit.then (fun a' w'=>∃s' i',q= .inl s'∧CxL B N Γ Φ (J s' i') a' w') (Exit.inBlock id (Exit.then (fun a' w'=>∃k,CxL B N Γ Φ (M k) a' w') Q))) a w)
  (cont:∀k a w,CxL B N Γ Φ (M k) a w→K a w):(Code.block id (.loop b)).wp P (Exit.then K Q) a w:=
 wp_cut (wp_block (ZjJ (Inv:=fun s a w=>∃i,CxL B N Γ Φ (J s i) a w) hit ⟨i0,h0⟩ fun s q a w hI hF hr=>by
  obtain⟨i,hi⟩:=hI;have:=round s q i a w hi hF hr;refine wp_mono this fun e a w he=>?_;cases e with
  |normal=>obtain⟨s',i',h1,h2⟩:=he;exact⟨s',h1,i',h2⟩
  |_=>exact he)) fun a w hI=>by
   grind
theorem LpR{id:Nat}{b:Code}{σt ρ1 ρ2 ι' κ:Type}{F:σt→Option (σt⊕(ρ1⊕ρ2))}{n:Nat}{s0:σt}{r:ρ1⊕ρ2}(J:σt→ι'→Lpt)(M:ρ1→κ→Lpt)(hit:iterN F n s0=some r)(c:Cx B N σ Γ Φ a w)(i0:ι')(h0:CxL B N Γ Φ (J s0 i0) a w)
  (round:∀s q i a w,CxL B N Γ Φ (J s i) a w→F s=some q→(∀r0,q= .inr r0→r0=r)→b.wp P (Exit.then (fun a' w'=>∃s' i',q= .inl s'∧CxL B N Γ Φ (J s' i') a' w') (Exit.inBlock id (Exit.then (fun a' w'=>∃s k,r= .inl s∧CxL B N Γ Φ (M s k) a' w') Q))) a w)
  (cont:∀s k a w,r= .inl s→CxL B N Γ Φ (M s k) a w→K a w):(Code.block id (.loop b)).wp P (Exit.then K Q) a w:=
 wp_cut (wp_block (ZjJ (Inv:=fun s a w=>∃i,CxL B N Γ Φ (J s i) a w) hit ⟨i0,h0⟩ fun s q a w hI hF hr=>by
  obtain⟨i,hi⟩:=hI;have:=round s q i a w hi hF hr;refine wp_mono this fun e a w he=>?_;cases e with
  |normal=>obtain⟨s',i',h1,h2⟩:=he;exact⟨s',h1,i',h2⟩
  |_=>exact he)) fun a w hI=>by
   grind
theorem Nx{σt ρt ι':Type}{J:σt→ι'→Lpt}{s:σt}{q:σt⊕ρt}(h:some (Sum.inl s)=some q)(i:ι')(c:CxL B N Γ Φ (J s i) a w):∃s' i',q= .inl s'∧CxL B N Γ Φ (J s' i') a w:=⟨s,i,(Option.some.inj h).symm,c⟩
theorem tn(h:K a w):Exit.then K Q .normal a w:=h
theorem tr(h:Q .ret a w):Exit.then K Q .ret a w:=h
theorem te{i:Nat}(h:Q (.exit i) a w):Exit.then K Q (.exit i) a w:=h
theorem br{i:Nat}(h:Q .ret a w):Exit.inBlock i Q .ret a w:=h
theorem bk{i:Nat}(h:Q .normal a w):Exit.inBlock i Q .normal a w:=h
theorem be{i:Nat}(h:Q .normal a w):Exit.inBlock i Q (.exit i) a w:=Zij h
theorem bn{i j:Nat}(h:Q (.exit j) a w)(hn:(j==i)=false:=by rfl):Exit.inBlock i Q (.exit j) a w:=Zi9 hn h
theorem AllP.of{α:Type}{q:α→Prop}{l:List α}(h:AllP q l){x:α}(hx:x∈l):q x:=AllP.mem h hx
theorem Rz{id:Nat}{ops:Array Oper}{draw:Bool}(np:List (Nat×Pd))(hs:List (Nat×Nat))(hmix:P.follows .mixedOrders=true)(c:Cx B N σ Γ Φ a w)(hmono:AllP (fun p=>p.2.Mono Non) np)
  (hnp:Good ops (pdsM P (bxsOf Γ Φ) hs ops σ np ops.size) []→AllP (fun p=>(pdsM P (bxsOf Γ Φ) hs ops σ np ops.size).getD p.1 .any=p.2→NPB P draw (cond draw (masksN ops ops.size) []) ops (pdsM P (bxsOf Γ Φ) hs ops σ np ops.size) a w (Exit.then K Q) p.1) np)
  (h:∀fr w',Cx B N (outS ops σ (pdsM P (bxsOf Γ Φ) hs ops σ np ops.size) ops.size) Γ Φ fr w'→K fr w')
  (hst:(stat draw (cond draw (masksN ops ops.size) []) ops [] N&&statG ops (pdsM P (bxsOf Γ Φ) hs ops σ np ops.size) [])=true:=by kernel_rfl)
  (h1:(freeI np ops.size).map (fun j=>(pureB P (bxsOf Γ Φ) hs ops σ (pdsM P (bxsOf Γ Φ) hs ops σ np ops.size) j).map (·.1))=(freeI np ops.size).map fun j=>((pdsM P (bxsOf Γ Φ) hs ops σ np ops.size).getD j .any).val?:=by kernel_rfl)
  (h2:((freeI np ops.size).all fun j=>((pdsM P (bxsOf Γ Φ) hs ops σ np ops.size).getD j .any).val?.isSome)=true:=by kernel_rfl)
  (h3:(freeI np ops.size).map (fun j=>(pureB P (bxsOf Γ Φ) hs ops σ (pdsM P (bxsOf Γ Φ) hs ops σ np ops.size) j).map fun r=>r.2.map (·.1))=(freeI np ops.size).map fun j=>(pureB P (bxsOf Γ Φ) hs ops σ (pdsM P (bxsOf Γ Φ) hs ops σ np ops.size) j).map fun r=>r.2.map (·.2):=by kernel_rfl):
  (Code.region id ops draw).wp P (Exit.then K Q) a w:=by
 have hck:ChkB P (bxsOf Γ Φ) hs ops σ np ops.size (pdsM P (bxsOf Γ Φ) hs ops σ np ops.size):=⟨h1,h2,h3⟩;have npsplit:∀j∈npIdx ops (isPB hs np ops.size),j<ops.size∧((∃p,np.lookup j=some p)∨(np.lookup j=none∧∃i,hs.lookup j=some i)):=fun j hj=>by
  obtain⟨g1,g2⟩:=ZoV.1 hj;have hlt:=ZoS.1 g1;rw[Zeo hlt]at g2;refine⟨hlt,?_⟩;cases hn:np.lookup j with
  |some p=>simp
  |none=>
   cases hh:hs.lookup j with
   |some i=>simp
   |none=>simp_all
 have pfree:∀j∈pIdx ops (isPB hs np ops.size),j<ops.size∧np.lookup j=none∧hs.lookup j=none:=fun j hj=>by
  obtain⟨g1,g2⟩:=ZoV.1 hj;have hlt:=ZoS.1 g1;rw[Zeo hlt]at g2;simpa[hlt]using g2
 refine Zmr _ (isPB hs np ops.size) _ [] hmix c.fr hst (Zpm.2 fun j hj=>?_) (ZoK.2 fun j hj=>?_) ?_ (fun hG=>?_) rfl fun a' w' _ hE hc=>h a' w' ((c.ext hc).to ⟨hE.1.trans c.fr.defers,hE.2.1.trans c.fr.size,fun t v hv=>ZgN c.fr hE ?_⟩)
 ·obtain⟨hlt,hn,hh⟩:=pfree j hj;obtain⟨v,e,g1,g2,_⟩:=hck.at hlt hn;unfold pureB at g1;rw[hh]at g1;cases hp:pureV P ops σ (pdsM P (bxsOf Γ Φ) hs ops σ np ops.size) j with
  |none=>simp_all
  |some u=>
   rw[hp]at g1;simp only[ZoQ,Option.some.injEq,Prod.mk.injEq]at g1;rw[g2,g1.1];rfl
 ·obtain⟨hlt,hn,hh⟩:=pfree j hj;obtain⟨v,e,g1,g2,_⟩:=hck.at hlt hn;rw[g2];rfl
 ·exact Zeh fun j hj=>by
   obtain⟨hlt,⟨p,hp⟩|⟨hn,i,hi⟩⟩:=npsplit j hj
   ·rw[Zcd hlt hp];exact hmono.of (ZaP hp)
   ·obtain⟨v,e,g1,g2,g3⟩:=hck.at hlt hn;rw[g2];exact Pd.mono_eq
 ·exact Zeh fun j hj=>by
   obtain⟨hlt,⟨p,hp⟩|⟨hn,i,hi⟩⟩:=npsplit j hj
   ·exact(hnp hG).of (ZaP hp) (Zcd hlt hp)
   ·obtain⟨v,e,g1,g2,g3⟩:=hck.at hlt hn;exact ZiL c.bxs hG c.fr hi g1 g3 g2
 ·exact Ziw hv
def Pd.nw{κ:Type}(w0:World)(tag:Nat)(V:κ→Value)(H:κ→HP):Pd:=.own fun ow v w=>∃i,v=V i∧(H i).ok w (fun k=>w0.heap.size≤k∧k<w.heap.size∧ow k=tag)
theorem nwM{κ:Type}{w0:World}{tag:Nat}{V:κ→Value}{H:κ→HP}:(Pd.nw w0 tag V H).MonoO:=Zmb
theorem EndM.nw{κ:Type}{ops:Array Oper}{bx:Bxs}{hs:List (Nat×Nat)}{np:List (Nat×Pd)}{m tag:Nat}{ow:Nat→Nat}{w0:World}{V:κ→Value}{H:κ→HP}(hE:EndM ops (TT ops (instL ow (pdsM P bx hs ops σ np m))) a m a' w')(j d:Nat)
  (hp:np.lookup j=some (Pd.nw w0 tag V H):=by rfl)(hl:lastW ops d m=some j:=by rfl)(hg:guardOf ops j=none:=by rfl)(hj:Nat.blt j m=true:=by rfl):∃i,a'.eval (.tmp d)=V i∧(H i).ok w' (fun k=>w0.heap.size≤k∧k<w'.heap.size∧ow k=tag):=by
 have h:=hE.is d j hl hg;rw[Xl,Zcd (ZoY.mp hj) hp]at h;exact h
theorem Rm{ops:Array Oper}(m:Nat)(np:List (Nat×Pd))(hs:List (Nat×Nat))(c:Cx B N σ Γ Φ a w)(hmono:AllP (fun p=>p.2.MonoO) np)
  (hnp:∀ow,Good ops (instL ow (pdsM P (bxsOf Γ Φ) hs ops σ np m)) []→AllP (fun p=>(instL ow (pdsM P (bxsOf Γ Φ) hs ops σ np m)).getD p.1 .any=p.2.inst ow→NPO P (masksN ops ops.size) ops (instL ow (pdsM P (bxsOf Γ Φ) hs ops σ np m)) a w Q ow p.1) np)
  (h:∀ow fr w',EndM ops (TT ops (instL ow (pdsM P (bxsOf Γ Φ) hs ops σ np m))) a m fr w'→Chg Non w w'→Cx B N (outS ops σ (pdsM P (bxsOf Γ Φ) hs ops σ np m) m) Γ Φ fr w'→wpFrom P ops Q m fr w')
  (hst:(stat true (masksN ops ops.size) ops [] N&&statG ops (pdsM P (bxsOf Γ Φ) hs ops σ np m) []&&sufB ops m)=true:=by kernel_rfl)
  (h1:(freeI np m).map (fun j=>(pureB P (bxsOf Γ Φ) hs ops σ (pdsM P (bxsOf Γ Φ) hs ops σ np m) j).map (·.1))=(freeI np m).map fun j=>((pdsM P (bxsOf Γ Φ) hs ops σ np m).getD j .any).val?:=by kernel_rfl)
  (h2:((freeI np m).all fun j=>((pdsM P (bxsOf Γ Φ) hs ops σ np m).getD j .any).val?.isSome)=true:=by kernel_rfl)
  (h3:(freeI np m).map (fun j=>(pureB P (bxsOf Γ Φ) hs ops σ (pdsM P (bxsOf Γ Φ) hs ops σ np m) j).map fun r=>r.2.map (·.1))=(freeI np m).map fun j=>(pureB P (bxsOf Γ Φ) hs ops σ (pdsM P (bxsOf Γ Φ) hs ops σ np m) j).map fun r=>r.2.map (·.2):=by kernel_rfl):
  RA P ops Q a w:=by
 have hck:ChkB P (bxsOf Γ Φ) hs ops σ np m (pdsM P (bxsOf Γ Φ) hs ops σ np m):=⟨h1,h2,h3⟩;have npsplit:∀j∈npIdxM m (isPB hs np m),j<m∧((∃p,np.lookup j=some p)∨(np.lookup j=none∧∃i,hs.lookup j=some i)):=fun j hj=>by
  obtain⟨g1,g2⟩:=ZoV.1 hj;have hlt:=ZoS.1 g1;rw[Zeo hlt]at g2;refine⟨hlt,?_⟩;cases hn:np.lookup j with
  |some p=>simp
  |none=>
   cases hh:hs.lookup j with
   |some i=>simp
   |none=>simp_all
 have pfree:∀j∈pIdxM m (isPB hs np m),j<m∧np.lookup j=none∧hs.lookup j=none:=fun j hj=>by
  obtain⟨g1,g2⟩:=ZoV.1 hj;have hlt:=ZoS.1 g1;rw[Zeo hlt]at g2;simpa[hlt]using g2
 refine Zot m _ (isPB hs np m) _ [] c.fr hst (Zpm.2 fun j hj=>?_) (ZoK.2 fun j hj=>?_) (ZoK.2 fun j hj=>?_) ?_ (fun ow hG=>?_) rfl fun ow a' w' _ hE hc=>h ow a' w' hE hc ((c.ext hc).to ⟨hE.1.trans c.fr.defers,hE.2.1.trans c.fr.size,fun t v hv=>?_⟩)
 ·obtain⟨hlt,hn,hh⟩:=pfree j hj;obtain⟨v,e,g1,g2,_⟩:=hck.at hlt hn;unfold pureB at g1;rw[hh]at g1;cases hp:pureV P ops σ (pdsM P (bxsOf Γ Φ) hs ops σ np m) j with
  |none=>simp_all
  |some u=>
   rw[hp]at g1;simp only[ZoQ,Option.some.injEq,Prod.mk.injEq]at g1;rw[g2,g1.1];rfl
 ·obtain⟨hlt,hn,hh⟩:=pfree j hj;obtain⟨v,e,g1,g2,_⟩:=hck.at hlt hn;rw[g2];rfl
 ·grind[Zlb]
 ·exact Zeh fun j hj=>by
   obtain⟨hlt,⟨p,hp⟩|⟨hn,i,hi⟩⟩:=npsplit j hj
   ·rw[Zcd hlt hp];exact hmono.of (ZaP hp)
   ·obtain⟨v,e,g1,g2,g3⟩:=hck.at hlt hn;rw[g2];exact Pd.monoO_eq
 ·exact Zeh fun j hj=>by
   obtain⟨hlt,⟨p,hp⟩|⟨hn,i,hi⟩⟩:=npsplit j hj
   ·exact(hnp ow hG).of (ZaP hp) (by rw[Xl,Zcd hlt hp])
   ·obtain⟨v,e,g1,g2,g3⟩:=hck.at hlt hn;refine ZnM ow (ZiL (hs:=hs) c.bxs hG c.fr hi (v:=v) (e:=e) ?_ g3 (by rw[Xl,g2];rfl));unfold pureB at g1⊢;rw[hi]at g1⊢;rw[Zhn];exact g1
 ·have:=Ziw hv
  exact Zjb c.fr hE (by
   unfold outVm at this⊢;split at this
   ·rw[ZdI];exact this
   ·exact this)
theorem Cx.out(c:Cx B N σ Γ Φ a w)(i:ι)(gs fs:List Nat)(hg:gs.map (fun j=>Γ[j]?)=(R i).2.1.map some)(hf:fs.map (fun j=>Φ[j]?)=(R i).2.2.map some)(hn:gs.Nodup):Rp B R (.returned (tup (R i).1)) w:=by
 obtain⟨_,S,F,h1,h2,h3⟩:=c;exact⟨i,S,F,rfl,h1,h2.pick gs hn hg,h3.pick fs hf⟩
theorem Rt{t:Tmp}{v:Value}(c:Cx B N σ Γ Φ a w)(i:ι)(gs fs:List Nat)(hr:fn.results= #[.tmp t]:=by rfl)(hv:(R i).1=[v]:=by rfl)(hl:σ.lookup t=some v:=by kernel_rfl)(hg:gs.map (fun j=>Γ[j]?)=(R i).2.1.map some:=by rfl)(hf:fs.map (fun j=>Φ[j]?)=(R i).2.2.map some:=by rfl)
  (hn:gs.Nodup:=by decide):bodyPost P fn (Rp B R) .ret a w:=
 ret1 hr c.fr hl (by have:=c.out (R:=R) i gs fs hg hf hn;rw[hv]at this;exact this)
inductive RV'(P:Program)(σ:List (Nat×Value))(Γ:List HP)(Φ:List RF)(w:World):List ResultVar→List Value→Prop
 |nil:RV' P σ Γ Φ w [] []
 |tmp {t:Tmp} {v:Value} {rs:List ResultVar} {vs:List Value} (r:RV' P σ Γ Φ w rs vs) (h:σ.lookup t=some v:=by kernel_rfl):RV' P σ Γ Φ w (.tmp t::rs) (v::vs)
 |cell {t:Tmp} {ty bt:TypeId} {α:Type} [Rep α] {b:Nat} {cs:List Value} {v:Value} {rs:List ResultVar} {vs:List Value} (hty:Ty P ty α) (hb:Ava Γ Φ w (FX b bt cs)) (r:RV' P σ Γ Φ w rs vs) (h:σ.lookup t=some (.pointer (some ⟨b,0,none⟩)):=by kernel_rfl)
  (hl:cs.length=Rep.sz α:=by rfl) (hv:Rep.val α cs=v:=by rfl):RV' P σ Γ Φ w (.cell t ty::rs) (v::vs)
theorem RV'.out{rs:List ResultVar}{vs:List Value}(h:RV' P σ Γ Φ w rs vs)(c:Cx B N σ Γ Φ a w):Rets P σ w rs vs:=by
 induction h with
 |nil=>exact .nil
 |tmp r h ih=>exact .tmp h ih
 |cell hty hb r h hl hv ih=>exact .cell h hty (c.usebx hb) hl hv ih
theorem ZnX:∀vs:List Value,(if h:vs.toArray.size=1 then vs.toArray[0]else .tuple vs.toArray)=tup vs
 |[]=>rfl
 |[_]=>rfl
 |_::_::_=>rfl
theorem Rg{rs:List ResultVar}{vs:List Value}(c:Cx B N σ Γ Φ a w)(i:ι)(gs fs:List Nat)(hv:RV' P σ Γ Φ w rs vs)(hvs:vs=(R i).1:=by rfl)(hr:fn.results=rs.toArray:=by rfl)(hg:gs.map (fun j=>Γ[j]?)=(R i).2.1.map some:=by rfl)
  (hf:fs.map (fun j=>Φ[j]?)=(R i).2.2.map some:=by rfl)(hn:gs.Nodup:=by decide):bodyPost P fn (Rp B R) .ret a w:=
 retG hr c.fr (hv.out c) (ZnX vs) (by have:=c.out (R:=R) i gs fs hg hf hn;simp_all)
end
def memN:List Nat→Nat→Bool
 |[],_=>false
 |x::l,j=>Nat.beq x j||memN l j
def restG(gs:List Nat):Nat→List HP→List HP
 |_,[]=>[]
 |j,x::l=>cond (memN gs j) (restG gs (j+1) l) (x::restG gs (j+1) l)
def rest(gs:List Nat)(Γ:List HP):List HP:=restG gs 0 Γ
theorem Zh3(gs:List Nat)(j:Nat):memN gs j=gs.contains j:=by
 induction gs with
 |nil=>rfl
 |cons x l ih=>
  unfold memN;by_cases h:x=j
  ·subst h;simp
  grind[Nat.beq,absurd,Nat.eq_of_beq_eq_true]
theorem Zkc(gs:List Nat)(Γ:List HP):rest gs Γ=((List.range Γ.length).filter fun i=>!gs.contains i).filterMap fun i=>Γ[i]?:=by
 have key:∀(l pre:List HP),restG gs pre.length l=((List.range' pre.length l.length).filter fun i=>!gs.contains i).filterMap fun i=>(pre++l)[i]?:=by
  intro l
  induction l with
  |nil=>intro pre;rfl
  |cons x l ih=>
   intro pre;have h:=ih (pre++[x]);simp only[ZoT,List.length_singleton,ZpI,ZpK]at h;grind[restG,Zh3,List.length_cons,List.range'_succ]
 have:=key Γ [];simp_all[rest,List.range_eq_range']
theorem Sep.part{Γ Γ1:List HP}{w:World}{S:Nat→Prop}(gs:List Nat)(h:Sep Γ w S)(hg:gs.map (fun i=>Γ[i]?)=Γ1.map some)(hn:gs.Nodup):Sep (Γ1++rest gs Γ) w S:=by
 let is:=gs++(List.range Γ.length).filter fun i=>!gs.contains i
 have hd:is.Nodup:=List.nodup_append.2 ⟨hn,(List.nodup_range).filter _,fun a ha b hb e=>by
  simp_all⟩
 refine h.pick is hd ?_;rw[ZqI,ZqI,hg];rw[Zkc];have key:∀l:List Nat,(∀i∈l,i<Γ.length)→l.map (fun i=>Γ[i]?)=(l.filterMap fun i=>Γ[i]?).map some:=by
  intro l
  induction l with
  |nil=>intro _;rfl
  |cons i l ih=>
   simp_all
 simp_all
section
variable{P:Program}{B:Bs}{N:Nat}{σ:List (Nat×Value)}{Γ Γ1:List HP}{Φ Φ1:List RF}{a:Act}{w:World}{Q:Exit→Act→World→Prop}{ι:Type}{R:ι→Res}{args caps:List Value}{f:FuncId}
  {ops:Array Oper}{k d:Nat}{ty:TypeId}{pos:String}{af:Array Edge}{x:Operand}{xs:Array Operand}{ts:Array TypeId}
theorem Cx.calls(c:Cx B N σ Γ Φ a w)(gs:List Nat)(hcon:Con P f args Γ1 Φ1 R)(ro:AvaL (rest gs Γ) Φ w Φ1)(hg:gs.map (fun i=>Γ[i]?)=Γ1.map some)(hn:gs.Nodup):
  Calls P f args.toArray w fun e w'=>∃i,e= .returned (tup (R i).1)∧∀a' σ',FrS N σ' a'→Cx B N σ' (rest gs Γ++(R i).2.1) Φ a' w':=by
 obtain⟨_,S,F,hM,hs,hf⟩:=c;obtain⟨A,Rm,h1,h2,h3,h4,h5⟩:=(hs.part gs hg hn).split;have hfd:∀k,A k→¬(F k∨Rm k):=fun k ha hf=>hf.elim (hM.dj k (h4 k ha)) (h3 k ha);refine(hcon w A (fun k=>F k∨Rm k) h1 (AvaL.all ro h2 hf) (fun k hk=>hM.bd k (h4 k hk)) (fun k hk=>hk.elim (hM.bdF k) fun hk=>hM.bd k (h5 k hk)) hfd).mono ?_;rintro e w' ⟨i,S',F',rfl,hM',hs',_⟩;refine⟨i,rfl,fun a' σ' hF=>⟨hF,fun k=>S' k∨Rm k,F,?_,?_,?_⟩⟩
 ·refine⟨hM.chg.trans' hM'.chg fun k hk=>hM.sub k (h4 k hk),fun k hk=>hk.elim (fun hk=>(hM'.sub k hk).elim (fun hk=>hM.sub k (h4 k hk)) fun hk=>.inr (ZpA hM.chg.size hk)) fun hk=>hM.sub k (h5 k hk),fun k hk=>hk.elim (hM'.bd k) fun hk=>ZoR (hM.bd k (h5 k hk)) hM'.chg.size,fun k hk=>ZoR (hM.bdF k hk) hM'.chg.size,fun k hk hf=>hk.elim (fun hk=>?_) fun hk=>hM.dj k (h5 k hk) hf,hM.dj0,hM.fz,hM.fsub⟩;rcases hM'.sub k hk with ha|ha
  ·simp_all
  ·exact ZpQ _ (ZoR (hM.bdF k hf) ha)
 ·refine Sep.join (h2.keep hM'.chg fun k hr ha=>h3 k ha hr) hs' (fun k _ hr ha=> ?_) (fun k _ h=>.inr h) fun k _ h=>.inl h;rcases hM'.sub k ha with h|h
  ·simp_all
  ·exact ZpQ _ (ZoR (hM.bd k (h5 k hr)) h)
 ·exact hf.chg hM'.chg fun k hk ha=>hM.dj k (h4 k ha) hk
theorem Cx.callsF(c:Cx B N σ Γ Φ a w)(gs:List Nat)(hcon:Con P f args Γ1 Φ1 R)(ro:AvaL [] Φ w Φ1)(hg:gs.map (fun i=>Γ[i]?)=Γ1.map some)(hn:gs.Nodup):
  Calls P f args.toArray w fun e w'=>∃i,e= .returned (tup (R i).1)∧∀a' σ',FrS N σ' a'→Cx B N σ' (rest gs Γ++(R i).2.1) (Φ++(R i).2.2) a' w':=by
 obtain⟨_,S,F,hM,hs,hf⟩:=c;obtain⟨A,Rm,h1,h2,h3,h4,h5⟩:=(hs.part gs hg hn).split;have hfd:∀k,A k→¬F k:=fun k ha hf=>hM.dj k (h4 k ha) hf;refine(hcon w A F h1 ((AvaL.all ro (Sep.nil w Non) hf).sub fun _ _ h=>h.elim id fun h=>h.elim) (fun k hk=>hM.bd k (h4 k hk)) hM.bdF hfd).mono ?_;rintro e w' ⟨i,S',F',rfl,hM',hs',hf'⟩;have hrn:∀k,Rm k→¬(A k∨w.heap.size≤k):=fun k hr h=>h.elim (fun ha=>h3 k ha hr) fun h=>ZpQ _ (ZoR (hM.bd k (h5 k hr)) h);refine⟨i,rfl,fun a' σ' hF=>⟨hF,fun k=>S' k∨Rm k,F',?_,?_,?_⟩⟩
 ·refine⟨hM.chg.trans' hM'.chg fun k hk=>hM.sub k (h4 k hk),fun k hk=>hk.elim (fun hk=>(hM'.sub k hk).elim (fun hk=>hM.sub k (h4 k hk)) fun hk=>.inr (ZpA hM.chg.size hk)) fun hk=>hM.sub k (h5 k hk),fun k hk=>hk.elim (hM'.bd k) fun hk=>ZoR (hM.bd k (h5 k hk)) hM'.chg.size,hM'.bdF,fun k hk hf=>hk.elim (fun hk=>hM'.dj k hk hf) fun hk=>?_,hM.dj0,fun k hk=>hM'.fz k (hM.fz k hk),fun k hk=>?_⟩
  ·rcases hM'.fsub k hf with h|h
   ·exact hM.dj k (h5 k hk) h
   grind
  ·rcases hM'.fsub k hk with h|h|h
   ·exact hM.fsub k h
   ·exact .inr (hM.sub k (h4 k h))
   ·exact .inr (.inr (ZpA hM.chg.size h))
 ·refine Sep.join (h2.keep hM'.chg fun k hr ha=>h3 k ha hr) hs' (fun k _ hr ha=>hrn k hr (hM'.sub k ha)) (fun k _ h=>.inr h) fun k _ h=>.inl h
 ·exact((hf.chg hM'.chg fun k hk ha=>hM.dj k (h4 k ha) hk).sub fun k _ hk=>hM'.fz k hk).join hf'
theorem Ca(gs:List Nat)(c:Cx B N σ Γ Φ a w)(hcon:Con P f args Γ1 Φ1 R)(ro:AvaL (rest gs Γ) Φ w Φ1)(hf:∀(args:Array Value)(w:World),(callFunc f args).run P w= .ok (.enter f args) w)
  (h:∀i fr w',Cx B N ((d,tup (R i).1)::σ) (rest gs Γ++(R i).2.1) Φ fr w'→wpFrom P ops Q (k+1) fr w')
  (ho:ops[k]? =some ⟨some d,.call ⟨.value (.func f),xs,ts⟩,ty,pos,af,none⟩:=by rfl)(hd:Nat.blt d N=true:=by rfl)(hg:gs.map (fun i=>Γ[i]?)=Γ1.map some:=by rfl)(hn:gs.Nodup:=by decide)
  (hargs:xs.toList.map (opd σ)=args.map some:=by kernel_rfl):wpFrom P ops Q k a w:=
 s_call args (R:=fun v w'=>∃i,v=tup (R i).1∧∀a' σ',FrS N σ' a'→Cx B N σ' (rest gs Γ++(R i).2.1) Φ a' w') hf ho hd c.fr hargs ((c.calls gs hcon ro hg hn).mono fun e w'⟨i,h1,h2⟩=>⟨_,h1,i,rfl,h2⟩)
  fun v w' fr hR hF=>by grind
theorem Cf(gs:List Nat)(c:Cx B N σ Γ Φ a w)(hcon:Con P f args Γ1 Φ1 R)(ro:AvaL [] Φ w Φ1)(hf:∀(args:Array Value)(w:World),(callFunc f args).run P w= .ok (.enter f args) w)
  (h:∀i fr w',Cx B N ((d,tup (R i).1)::σ) (rest gs Γ++(R i).2.1) (Φ++(R i).2.2) fr w'→wpFrom P ops Q (k+1) fr w')
  (ho:ops[k]? =some ⟨some d,.call ⟨.value (.func f),xs,ts⟩,ty,pos,af,none⟩:=by rfl)(hd:Nat.blt d N=true:=by rfl)(hg:gs.map (fun i=>Γ[i]?)=Γ1.map some:=by rfl)(hn:gs.Nodup:=by decide)
  (hargs:xs.toList.map (opd σ)=args.map some:=by kernel_rfl):wpFrom P ops Q k a w:=
 s_call args (R:=fun v w'=>∃i,v=tup (R i).1∧∀a' σ',FrS N σ' a'→Cx B N σ' (rest gs Γ++(R i).2.1) (Φ++(R i).2.2) a' w') hf ho hd c.fr hargs ((c.callsF gs hcon ro hg hn).mono fun e w'⟨i,h1,h2⟩=>⟨_,h1,i,rfl,h2⟩)
  fun v w' fr hR hF=>by grind
theorem Cx.fz{α:Type}[Rep α]{E:TypeId}{v:Value}{l:List α}(i:Nat)(c:Cx B N σ Γ Φ a w)(hi:Γ[i]? =some (SL E v l):=by rfl):Cx B N σ (rest [i] Γ) (Φ++[RO v l]) a w:=by
 obtain⟨h,S,F,h1,h2,h3⟩:=c;have hp:=h2.part [i] (Γ1:=[SL E v l]) (by simp[hi]) (by simp);obtain⟨S',F',hM,hs,hr,hfz⟩:=Sep.freeze (L:=rest [i] Γ) hp h1;exact⟨h,S',F',hM,hs,(h3.sub fun k _ hk=>hfz k hk).add (SL.rv hr)⟩
theorem Cx.dp(gs:List Nat)(c:Cx B N σ Γ Φ a w):Cx B N σ (rest gs Γ) Φ a w:=by
 obtain⟨h,S,F,h1,h2,h3⟩:=c;refine⟨h,S,F,h1,?_,h3⟩;rw[Zkc];refine h2.pick ((List.range Γ.length).filter fun i=>!gs.contains i) ((List.nodup_range).filter _) ?_;have key:∀l:List Nat,(∀i∈l,i<Γ.length)→l.map (fun i=>Γ[i]?)=(l.filterMap fun i=>Γ[i]?).map some:=by
  intro l
  induction l with
  |nil=>intro _;rfl
  |cons i l ih=>
   simp_all
 simp_all
theorem Cx.nil{α:Type}[Rep α](E:TypeId)(c:Cx B N σ Γ Φ a w):Cx B N σ (Γ++[SL E (.slice none 0 0) ([]:List α)]) Φ a w:=c.gam fun S h=>ZG (Γ2:=[SL E (.slice none 0 0) ([]:List α)]) (h.cons_nil E)
end
section
variable{P:Program}{B:Bs}{N:Nat}{σ:List (Nat×Value)}{Γ:List HP}{Φ:List RF}{a:Act}{w:World}{Q:Exit→Act→World→Prop}
  {ops:Array Oper}{k d d2 d3:Nat}{t t' s' ty ty' ty2 yt:TypeId}{pos pos' pos2:String}{af af' af2:Array Edge}{x y y' z:Operand}{kd kk:IntKind}
def numOf:Option Value→Option Int
 |some (.int _ n)=>some n
 |_=>none
theorem YD{o:Option Value}{n:Int}(h:numOf o=some n):∃kd,o=some (.int kd n):=by
 unfold numOf at h;grind
theorem Eix{s:Str}{n r:Int}(c:Cx B N σ Γ Φ a w)(hz:sidx? s n=some r)(h:∀fr,Cx B N ((d,.int .u8 r)::σ) Γ Φ fr w→wpFrom P ops Q (k+1) fr w)
  (ho:ops[k]? =some ⟨some d,.index t x y,ty,pos,af,none⟩:=by rfl)(hd:Nat.blt d N=true:=by rfl)(ht:P.underlying t=some .string:=by kernel_rfl)(hx:opd σ x=some s.val:=by kernel_rfl)(hy:opd σ y=some (.int kd n):=by kernel_rfl):wpFrom P ops Q k a w:=
 Zne ht ho hd c.fr hx hy hz fun fr hF=>h fr (c.to hF)
theorem Ecat{s1 s2 s3:Str}(c:Cx B N σ Γ Φ a w)(hz:cat? s1 s2=some s3)(h:∀fr,Cx B N ((d,s3.val)::σ) Γ Φ fr w→wpFrom P ops Q (k+1) fr w)
  (ho:ops[k]? =some ⟨some d,.binOp .add t x y yt,ty,pos,af,none⟩:=by rfl)(hd:Nat.blt d N=true:=by rfl)(hx:opd σ x=some s1.val:=by kernel_rfl)(hy:opd σ y=some s2.val:=by kernel_rfl):wpFrom P ops Q k a w:=
 Zou ho hd c.fr hx hy hz fun fr hF=>h fr (c.to hF)
theorem Ebs{E:TypeId}{v:Value}{l:List Byt}(c:Cx B N σ Γ Φ a w)(hl:Ava Γ Φ w (RO v l))(h:∀fr,Cx B N ((d,(strOf l).val)::σ) Γ Φ fr w→wpFrom P ops Q (k+1) fr w)(ht:P.underlying t=some (.slice E))
  (ho:ops[k]? =some ⟨some d,.convert t t' x,ty,pos,af,none⟩:=by rfl)(hd:Nat.blt d N=true:=by rfl)(hE:P.underlying E=some (.int .u8):=by kernel_rfl)(ht':P.underlying t'=some .string:=by kernel_rfl)(hx:opd σ x=some v:=by kernel_rfl):wpFrom P ops Q k a w:=by
 obtain⟨F,hl⟩:=c.use hl;exact ZiY ht hE ht' ho hd c.fr hx hl fun fr hF=>h fr (c.to hF)
theorem Eshl{m n r:Int}(c:Cx B N σ Γ Φ a w)(hz:shl? m n=some r)(h:∀fr,Cx B N ((d,.int .i64 r)::σ) Γ Φ fr w→wpFrom P ops Q (k+1) fr w)
  (ho:ops[k]? =some ⟨some d,.binOp .shl t x y yt,ty,pos,af,none⟩:=by rfl)(hd:Nat.blt d N=true:=by rfl)(hx:opd σ x=some (.int .i64 m):=by kernel_rfl)(hy:numOf (opd σ y)=some n:=by kernel_rfl):wpFrom P ops Q k a w:=by
 obtain⟨kd,hy⟩:=YD hy;exact Zox ho hd c.fr hx hy hz fun fr hF=>h fr (c.to hF)
theorem Eshr{m n r:Int}(c:Cx B N σ Γ Φ a w)(hz:shr? m n=some r)(h:∀fr,Cx B N ((d,.int .i64 r)::σ) Γ Φ fr w→wpFrom P ops Q (k+1) fr w)
  (ho:ops[k]? =some ⟨some d,.binOp .shr t x y yt,ty,pos,af,none⟩:=by rfl)(hd:Nat.blt d N=true:=by rfl)(hx:opd σ x=some (.int .i64 m):=by kernel_rfl)(hy:numOf (opd σ y)=some n:=by kernel_rfl):wpFrom P ops Q k a w:=by
 obtain⟨kd,hy⟩:=YD hy;exact Zoz ho hd c.fr hx hy hz fun fr hF=>h fr (c.to hF)
theorem Equo{m n r:Int}(c:Cx B N σ Γ Φ a w)(hz:quo? m n=some r)(h:∀fr,Cx B N ((d,.int .i64 r)::σ) Γ Φ fr w→wpFrom P ops Q (k+1) fr w)
  (ho:ops[k]? =some ⟨some d,.binOp .quo t x y yt,ty,pos,af,none⟩:=by rfl)(hd:Nat.blt d N=true:=by rfl)(hx:opd σ x=some (.int .i64 m):=by kernel_rfl)(hy:opd σ y=some (.int .i64 n):=by kernel_rfl):wpFrom P ops Q k a w:=
 Zo5 ho hd c.fr hx hy hz fun fr hF=>h fr (c.to hF)
theorem Erem{m n r:Int}(c:Cx B N σ Γ Φ a w)(hz:rem? m n=some r)(h:∀fr,Cx B N ((d,.int .i64 r)::σ) Γ Φ fr w→wpFrom P ops Q (k+1) fr w)
  (ho:ops[k]? =some ⟨some d,.binOp .rem t x y yt,ty,pos,af,none⟩:=by rfl)(hd:Nat.blt d N=true:=by rfl)(hx:opd σ x=some (.int .i64 m):=by kernel_rfl)(hy:opd σ y=some (.int .i64 n):=by kernel_rfl):wpFrom P ops Q k a w:=
 Zo6 ho hd c.fr hx hy hz fun fr hF=>h fr (c.to hF)
theorem Ebin{op:BinOp}{vx vy u:Value}(c:Cx B N σ Γ Φ a w)(hg:(eqGuard op t x y vx vy).run P w= .ok () w)(hr:(binOp op t vx vy).run P w= .ok u w)(h:∀fr,Cx B N ((d,u)::σ) Γ Φ fr w→wpFrom P ops Q (k+1) fr w)
  (ho:ops[k]? =some ⟨some d,.binOp op t x y yt,ty,pos,af,none⟩:=by rfl)(hd:Nat.blt d N=true:=by rfl)(hx:opd σ x=some vx:=by kernel_rfl)(hy:opd σ y=some vy:=by kernel_rfl):wpFrom P ops Q k a w:=
 ZfJ ho hd c.fr hx hy hg hr fun fr hF=>h fr (c.to hF)
theorem Epk{b:Bool}{p:Operand}{v:Value}(c:Cx B N σ Γ Φ a w)(h:∀fr,Cx B N ((d,v)::σ) Γ Φ fr w→wpFrom P ops Q (k+1) fr w)(ho:ops[k]? =some ⟨some d,.pick p x y,ty,pos,af,none⟩:=by rfl)(hd:Nat.blt d N=true:=by rfl)
  (hc:opd σ p=some (.bool b):=by kernel_rfl)(hv:opd σ (if b then x else y)=some v:=by kernel_rfl):wpFrom P ops Q k a w:=ZkM ho hd c.fr hc hv fun fr hF=>h fr (c.to hF)
theorem Ebx(cs:List Value)(c:Cx B N σ Γ Φ a w)(h:∀b fr w',Cx B N ((d,.pointer (some ⟨b,0,none⟩))::σ) (Γ++[BX b t cs]) Φ fr w'→wpFrom P ops Q (k+1) fr w')(hv:(opd σ x).map (fun v=>v.cells.toList)=some cs:=by kernel_rfl)
  (ho:ops[k]? =some ⟨some d,.box t x,ty,pos,af,none⟩:=by rfl)(hd:Nat.blt d N=true:=by rfl):wpFrom P ops Q k a w:=by
 obtain⟨hF,S,F,hM,hs,hf⟩:=c;cases hx:opd σ x with
 |none=>simp_all
 |some v=>
  exact Zo7 hs hM cs ho hd hF hx (by simp_all) fun b w' S' fr hs' hp hF'=>h b fr w' ⟨hF',S',F,hM.stp hp,ZG (Γ2:=[_]) hs',hf.chg hp.chg fun k hk hS=>hM.dj k hS hk⟩
theorem Eal(cs:List Value)(c:Cx B N σ Γ Φ a w)(h:∀b fr w',Cx B N ((d,.pointer (some ⟨b,0,none⟩))::σ) (Γ++[BX b t cs]) Φ fr w'→wpFrom P ops Q (k+1) fr w')(ho:ops[k]? =some ⟨some d,.alloc t,ty,pos,af,none⟩:=by rfl)(hd:Nat.blt d N=true:=by rfl)
  (hz:(P.info? t).map (fun i=>i.zero.map fun z=>z.cells.toList)=some (some cs):=by kernel_rfl):wpFrom P ops Q k a w:=by
 obtain⟨hF,S,F,hM,hs,hf⟩:=c;cases hi:P.info? t with
 |none=>simp_all
 | some i=>
  rw[hi]at hz;cases hzz:i.zero with
  |none=>simp_all
  |some z=>
   simp only[ZoQ,hzz,Option.some.injEq]at hz;exact ZmV (z:=z) hs hM cs ho hd hF (by simp_all) hz fun b w' S' fr hs' hp hF'=>h b fr w' ⟨hF',S',F,hM.stp hp,ZG (Γ2:=[_]) hs',hf.chg hp.chg fun k hk hS=>hM.dj k hS hk⟩
theorem Esb{b bt:Nat}{cs:List Value}(i n:Nat)(u:Value)(c:Cx B N σ Γ Φ a w)(h:∀w',Cx B N σ (Γ.set i (BX b bt (cs.set n u))) Φ a w'→wpFrom P ops Q (k+1) a w')(hi:Γ[i]? =some (BX b bt cs):=by rfl)(ho:ops[k]? =some ⟨none,.store t x y,ty,pos,af,none⟩:=by rfl)
  (hn:Nat.blt n cs.length=true:=by rfl)(h1:u.oneCell'=true:=by rfl)(ht:(P.info? t).map (·.size)=some 1:=by kernel_rfl)(hx:opd σ x=some (.pointer (some ⟨b,n,none⟩)):=by kernel_rfl)(hy:opd σ y=some u:=by kernel_rfl):wpFrom P ops Q k a w:=by
 obtain⟨hF,S,F,hM,hs,hf⟩:=c;exact ZiM i hs hM hi (cs.set n u) ho hF hx hy ht hn h1 rfl fun w' S' hs' hp hF'=>h w' ⟨hF',S',F,hM.stp hp,hs',hf.chg hp.chg fun k hk hS=>hM.dj k hS hk⟩
theorem Ess{b bt:Nat}{cs:List Value}(i:Nat)(cs':List Value)(c:Cx B N σ Γ Φ a w)(h:∀w',Cx B N σ (Γ.set i (BX b bt cs')) Φ a w'→wpFrom P ops Q (k+1) a w')(hi:Γ[i]? =some (BX b bt cs):=by rfl)(ho:ops[k]? =some ⟨none,.store t x y,ty,pos,af,none⟩:=by rfl)
  (hl:cs'.length=cs.length:=by rfl)(h1:(cs'.all fun z=>z.oneCell')=true:=by rfl)(ht:(P.info? t).map (·.size)=some cs'.length:=by kernel_rfl)(hx:opd σ x=some (.pointer (some ⟨b,0,none⟩)):=by kernel_rfl)(hy:(opd σ y).map (fun v=>v.cells.toList)=some cs':=by kernel_rfl):wpFrom P ops Q k a w:=by
 obtain⟨hF,S,F,hM,hs,hf⟩:=c;cases hx':opd σ y with
 |none=>simp_all
 |some v=>
  exact Zir i hs hM hi cs' ho hF hx hx' ht hl (by simp_all) h1 fun w' S' hs' hp hF'=>h w' ⟨hF',S',F,hM.stp hp,hs',hf.chg hp.chg fun k hk hS=>hM.dj k hS hk⟩
section
variable{α:Type}{E:TypeId}{v:Value}{l m r:List α}
theorem Eel[Flat α]{n:Int}{q:α}(c:Cx B N σ Γ Φ a w)(hl:Ava Γ Φ w (RO v l))(hz:get? l n=some q)(h:∀p fr,Cx B N ((d2,Rep.val α (Flat.enc q))::(d,p)::σ) Γ Φ fr w→wpFrom P ops Q (k+2) fr w)
  (ho:ops[k]? =some ⟨some d,.indexAddr t x y,ty,pos,af,none⟩:=by rfl)(ho':ops[k+1]? =some ⟨some d2,.load t' (.tmp d),ty',pos',af',none⟩:=by rfl)(hd:Nat.blt d N=true:=by rfl)(hd':Nat.blt d2 N=true:=by rfl)
  (he:Ty P t' α:=by constructor<;>kernel_rfl)(ht:P.underlying t=some (.slice t'):=by kernel_rfl)(hx:opd σ x=some v:=by kernel_rfl)(hy:numOf (opd σ y)=some n:=by kernel_rfl):wpFrom P ops Q k a w:=by
 obtain⟨F,hl⟩:=c.use hl;obtain⟨kd,hy⟩:=YD hy;exact Zn2 _ he ht ho ho' rfl hd hd' c.fr hx hl hy (get?_nn hz) (get?_at hz) rfl fun p fr hF=>h p fr (c.to hF)
theorem Eem[Rep α]{n:Int}{q:α}(c:Cx B N σ Γ Φ a w)(hl:Ava [] Φ w (RO v l))(hz:get? l n=some q)(h:∀p u fr,Cx B N ((d2,u)::(d,p)::σ) Γ (Φ++[RO u q]) fr w→wpFrom P ops Q (k+2) fr w)
  (ho:ops[k]? =some ⟨some d,.indexAddr t x y,ty,pos,af,none⟩:=by rfl)(ho':ops[k+1]? =some ⟨some d2,.load t' (.tmp d),ty',pos',af',none⟩:=by rfl)(hd:Nat.blt d N=true:=by rfl)(hd':Nat.blt d2 N=true:=by rfl)
  (he:Ty P t' α:=by constructor<;>kernel_rfl)(ht:P.underlying t=some (.slice t'):=by kernel_rfl)(hx:opd σ x=some v:=by kernel_rfl)(hy:numOf (opd σ y)=some n:=by kernel_rfl):wpFrom P ops Q k a w:=by
 obtain⟨hF,S,F,hM,hs,hf⟩:=c;obtain⟨kd,hy⟩:=YD hy;have hl':=hl Non F (Sep.nil w Non) hf;exact ZlI he ht ho ho' rfl hd hd' hF hx hl' hy (get?_nn hz) (get?_at hz) fun p u fr hr hF'=>h p u fr ⟨hF',S,F,hM,hs,hf.add (RV.sub hr fun _ _ h=>h.elim id fun h=>h.elim)⟩
theorem Eef[Rep α]{n:Int}{q:α}{u:Value}{fl off:Nat}(c:Cx B N σ Γ Φ a w)(hl:Ava Γ Φ w (RO v l))(hz:get? l n=some q)(hu:∀{w:World}{F:Nat→Prop}{cs:List Value},Rep.ok w F cs q→cs[off]? =some u)
  (h:∀p p2 fr,Cx B N ((d3,u)::(d2,p2)::(d,p)::σ) Γ Φ fr w→wpFrom P ops Q (k+3) fr w)
  (ho:ops[k]? =some ⟨some d,.indexAddr t x y,ty,pos,af,none⟩:=by rfl)(ho2:ops[k+1]? =some ⟨some d2,.fieldAddr s' (.tmp d) fl,ty2,pos2,af2,none⟩:=by rfl)(ho':ops[k+2]? =some ⟨some d3,.load t' (.tmp d2),ty',pos',af',none⟩:=by rfl)
  (hd:Nat.blt d N=true:=by rfl)(hd2:Nat.blt d2 N=true:=by rfl)(hd3:Nat.blt d3 N=true:=by rfl)(he:Ty P s' α:=by constructor<;>kernel_rfl)(ht:P.underlying t=some (.slice s'):=by kernel_rfl)(hT:Ty P t' Int:=by constructor<;>kernel_rfl)
  (hoff:fieldOff P s' fl=some off:=by kernel_rfl)(hx:opd σ x=some v:=by kernel_rfl)(hy:numOf (opd σ y)=some n:=by kernel_rfl):wpFrom P ops Q k a w:=by
 obtain⟨F,hl⟩:=c.use hl;obtain⟨kd,hy⟩:=YD hy;refine ZY c.fr ho rfl rfl (ZoY.mp hd) (ZcR rfl ht he (Zt c.fr hx) hl (Zt c.fr hy) (get?_nn hz) (get?_at hz)) fun p w1 fr1 hpw hF1=>?_;obtain⟨⟨ad,cs,rfl,hFb,hok,hc⟩,rfl⟩:=hpw;have hp1:=hF1.get d (.pointer (some ad)) (by simp)
 refine ZY hF1 ho2 rfl rfl (ZoY.mp hd2) (R:=fun p w2=>p= .pointer (some (ad.add off))∧w1=w2) (Zx (ZdJ (P:=P) (ρ:=fun y=>match y with|.tmp s=>if s=d then some (.pointer (some ad))else none|_=>none) (fun y z hy=>by
  grind) (by simp[pe,hoff]) w1) ⟨rfl,rfl⟩) fun p2 w2 fr2 hp2 hF2=>?_
 obtain⟨rfl,rfl⟩:=hp2;have hc1:Cells w1 (ad.add off) [u]:=fun j q' hq=>by
  cases j with
  |zero=>
   simp only[Zpt,Option.some.injEq]at hq;subst hq;exact hc off u (hu hok)
  |succ j=>simp at hq
 refine ZY hF2 ho' rfl rfl (ZoY.mp hd3) (R:=fun z w3=>z=u∧w1=w3) (Zx (v:=u) (w':=w1) ?_ ⟨rfl,rfl⟩) fun z w3 fr3 hz3 hF3=>?_
 ·have hd1:=hF2.get d2 (.pointer (some (ad.add off))) (by simp);have:=Y7 hT (cs:=[u]) rfl hc1;have hv:Rep.val Int [u]=u:=rfl;simp_all[execOp,Instr.loadAt,Instr.sureAddr]
 ·obtain⟨rfl,rfl⟩:=hz3;exact h _ _ fr3 (c.to hF3)
theorem Esl[Rep α]{lo hi:Option Operand}{m n:Int}(E:TypeId)(c:Cx B N σ Γ Φ a w)(hl:Ava [] Φ w (RO v l))(hr:cut? l m n=some r)(h:∀u fr,Cx B N ((d,u)::σ) Γ (Φ++[RO u r]) fr w→wpFrom P ops Q (k+1) fr w)
  (ho:ops[k]? =some ⟨some d,.slice t x lo hi none,ty,pos,af,none⟩:=by rfl)(hd:Nat.blt d N=true:=by rfl)(he:Ty P E α:=by constructor<;>kernel_rfl)(ht:P.underlying t=some (.slice E):=by kernel_rfl)(hx:opd σ x=some v:=by kernel_rfl)
  (hlo:(match lo with|none=>some 0|some y=>numOf (opd σ y))=some m:=by kernel_rfl)(hhi:(match hi with|none=>some (len l)|some y=>numOf (opd σ y))=some n:=by kernel_rfl):wpFrom P ops Q k a w:=by
 obtain⟨hF,S,F,hM,hs,hf⟩:=c;have hl':=hl Non F (Sep.nil w Non) hf;refine ZnD he ht ho hd hF hx hl' (m:=m) (n:=n) ?_ ?_ hr fun u fr hr hF'=>h u fr ⟨hF',S,F,hM,hs,hf.add (RV.sub hr fun _ _ h=>h.elim id fun h=>h.elim)⟩
 ·grind[Option.some.inj,YD]
 ·cases hi with
  |none=>exact(Option.some.inj hhi).symm
  |some y=>simp_all[YD]
end
section
variable{α:Type}[Flat α]{E:TypeId}{v u:Value}{l m r:List α}
theorem Eset{n:Int}{q:α}(i:Nat)(c:Cx B N σ Γ Φ a w)(hr:set? l n q=some r)(h:∀p fr w',Cx B N ((d,p)::σ) (Γ.set i (SL E v r)) Φ fr w'→wpFrom P ops Q (k+2) fr w')(hi:Γ[i]? =some (SL E v l):=by rfl)
  (ho:ops[k]? =some ⟨some d,.indexAddr t x y,ty,pos,af,none⟩:=by rfl)(ho':ops[k+1]? =some ⟨none,.store t' (.tmp d) z,ty',pos',af',none⟩:=by rfl)(hte:t'=E:=by rfl)(hd:Nat.blt d N=true:=by rfl)(hz:z≠ .tmp d:=by simp)
  (he:Ty P E α:=by constructor<;>kernel_rfl)(ht:P.underlying t=some (.slice E):=by kernel_rfl)(hx:opd σ x=some v:=by kernel_rfl)(hy:numOf (opd σ y)=some n:=by kernel_rfl)(hq:opd σ z=some (Rep.val α (Flat.enc q)):=by kernel_rfl):wpFrom P ops Q k a w:=by
 obtain⟨hF,S,F,hM,hs,hf⟩:=c;obtain⟨kd,hy⟩:=YD hy;exact Zo1 i hs hM hi ht he ho ho' hte hd hF hx hy hz hq rfl hr fun w' S' fr p hs' hp hF'=>h p fr w' ⟨hF',S',F,hM.stp hp,hs',hf.chg hp.chg fun k hk hS=>hM.dj k hS hk⟩
theorem Esf{n:Int}{q q':α}{fl off:Nat}(i:Nat)(u:Value)(c:Cx B N σ Γ Φ a w)(hq:get? l n=some q)(hr:set? l n q'=some r)(h:∀p p2 fr w',Cx B N ((d2,p2)::(d,p)::σ) (Γ.set i (SL E v r)) Φ fr w'→wpFrom P ops Q (k+3) fr w')(hi:Γ[i]? =some (SL E v l):=by rfl)
  (hop:ops[k]? =some ⟨some d,.indexAddr t x y,ty,pos,af,none⟩:=by rfl)(hop2:ops[k+1]? =some ⟨some d2,.fieldAddr s' (.tmp d) fl,ty2,pos2,af2,none⟩:=by rfl)(hop':ops[k+2]? =some ⟨none,.store t' (.tmp d2) z,ty',pos',af',none⟩:=by rfl)
  (hd:Nat.blt d N=true:=by rfl)(hd2:Nat.blt d2 N=true:=by rfl)(hz:(match z with|.tmp s=>s !=d&&s !=d2|_=>true)=true:=by rfl)(hoff:fieldOff P s' fl=some off:=by rfl)(hlt:Nat.blt off (Rep.sz α)=true:=by rfl)(h1:u.oneCell'=true:=by rfl)
  (hu:Flat.enc q'=(Flat.enc q).set off u:=by rfl)(he:Ty P E α:=by constructor<;>kernel_rfl)(ht:P.underlying t=some (.slice E):=by kernel_rfl)(hT:(P.info? t').map (·.size)=some 1:=by kernel_rfl)
  (hx:opd σ x=some v:=by kernel_rfl)(hy:numOf (opd σ y)=some n:=by kernel_rfl)(hzu:opd σ z=some u:=by kernel_rfl):wpFrom P ops Q k a w:=by
 obtain⟨hF,S,F,hM,hs,hf⟩:=c;obtain⟨kd,hy⟩:=YD hy;exact ZiW i hs hM hi ht he hop hop2 hop' hd hd2 hF hx hy hz hzu hoff hlt hT h1 hq hu hr fun w' S' fr p p2 hs' hp hF'=>h p p2 fr w' ⟨hF',S',F,hM.stp hp,hs',hf.chg hp.chg fun k hk hS=>hM.dj k hS hk⟩
theorem Emk{n:Int}{zc:α}(E:TypeId)(c:Cx B N σ Γ Φ a w)(hr:mk? n zc=some r)(h:∀a' c' fr w',Cx B N ((d,.slice a' (List.length r) c')::σ) (Γ++[SL E (.slice a' (List.length r) c') r]) Φ fr w'→wpFrom P ops Q (k+1) fr w')
  (ho:ops[k]? =some ⟨some d,.makeSlice t x y,ty,pos,af,none⟩:=by rfl)(hd:Nat.blt d N=true:=by rfl)(he:ElT P E α:=by refine elT ?_;kernel_rfl)(ht:P.underlying t=some (.slice E):=by kernel_rfl)
  (hz:(P.info? E).map (fun i=>i.zero.map fun z=>z.cells.toList)=some (some (Flat.enc zc)):=by kernel_rfl)(hx:opd σ x=some (.int .i64 n):=by kernel_rfl)(hy:opd σ y=some (.int .i64 n):=by kernel_rfl):wpFrom P ops Q k a w:=by
 obtain⟨hF,S,F,hM,hs,hf⟩:=c;exact Zor hs hM ht he (ZkJ _ hz) ho hd hF hx hy hr fun a' c' w' S' fr hs' hp hF'=>h a' c' fr w' ⟨hF',S',F,hM.stp hp,ZG (Γ2:=[_]) hs',hf.chg hp.chg fun k hk hS=>hM.dj k hS hk⟩
theorem Elt{n:Nat}{parts:Array (Nat×Operand)}(E:TypeId)(l:List α)(c:Cx B N σ Γ Φ a w)(h:∀a' c' fr w',Cx B N ((d,.slice a' (List.length l) c')::σ) (Γ++[SL E (.slice a' (List.length l) c') l]) Φ fr w'→wpFrom P ops Q (k+1) fr w')
  (ho:ops[k]? =some ⟨some d,.buildSlice t n parts,ty,pos,af,none⟩:=by rfl)(hd:Nat.blt d N=true:=by rfl)(hln:l.length=n:=by rfl)(hmax:Nat.ble l.length room=true:=by rfl)
  (hv:parts.toList.map (fun p=>opd σ p.2)=(l.map fun x=>Rep.val α (Flat.enc x)).map some:=by kernel_rfl)
  (hrun:∀w,(Instr.buildSlice t n ((parts.toList.map (·.1)).zip (l.map fun x=>Rep.val α (Flat.enc x))).toArray).run P w= .ok (.slice (some ⟨w.heap.size,0,none⟩) n n) (w.alloc (.cells (l.map Flat.enc).flatten.toArray E)):=by intro _;kernel_rfl):wpFrom P ops Q k a w:=by
 obtain⟨hF,S,F,hM,hs,hf⟩:=c;exact Zo0 hs hM (l.map Flat.enc).flatten (l.map Flat.enc) l ho hd hF _ hv hrun (Ziz _) rfl hln hmax fun a' c' w' S' fr hs' hp hF'=>h a' c' fr w' ⟨hF',S',F,hM.stp hp,ZG (Γ2:=[_]) hs',hf.chg hp.chg fun k hk hS=>hM.dj k hS hk⟩
theorem Eap(i:Nat)(c:Cx B N σ Γ Φ a w)(hu:Ava Γ Φ w (RO u m))(hr:app? l m=some r)(h:∀a' c' fr w',Cx B N ((d,.slice a' (List.length r) c')::σ) (Γ.set i (SL E (.slice a' (List.length r) c') r)) Φ fr w'→wpFrom P ops Q (k+1) fr w')(hi:Γ[i]? =some (SL E v l):=by rfl)
  (ho:ops[k]? =some ⟨some d,.call ⟨.builtin .append,#[x,y],#[t,t']⟩,ty,pos,af,none⟩:=by rfl)(htt:t'=t:=by rfl)(hd:Nat.blt d N=true:=by rfl)(he:ElT P E α:=by refine elT ?_;kernel_rfl)(ht:P.underlying t=some (.slice E):=by kernel_rfl)
  (hx:opd σ x=some v:=by kernel_rfl)(hy:opd σ y=some u:=by kernel_rfl):wpFrom P ops Q k a w:=by
 obtain⟨F',hu⟩:=c.use hu;obtain⟨hF,S,F,hM,hs,hf⟩:=c;exact ZmK i hs hM hi ht he ho htt hd hF hx hy hu hr fun a' c' w' S' fr hs' hp hF'=>h a' c' fr w' ⟨hF',S',F,hM.stp hp,hs',hf.chg hp.chg fun k hk hS=>hM.dj k hS hk⟩
theorem Efr{lo:Option Operand}{hi':Operand}{b:Option Addr}{cp len0:Nat}{n:Int}(i:Nat)(c:Cx B N σ Γ Φ a w)(hr:cut? l 0 n=some r)(h:∀c' fr w',Cx B N ((d,.slice b (List.length r) c')::σ) (Γ.set i (SL E (.slice b (List.length r) c') r)) Φ fr w'→wpFrom P ops Q (k+1) fr w')
  (hi:Γ[i]? =some (SL E (.slice b len0 cp) l):=by rfl)(ho:ops[k]? =some ⟨some d,.slice t x lo (some hi') none,ty,pos,af,none⟩:=by rfl)(hd:Nat.blt d N=true:=by rfl)(he:Ty P E α:=by constructor<;>kernel_rfl)(ht:P.underlying t=some (.slice E):=by kernel_rfl)
  (hx:opd σ x=some (.slice b len0 cp):=by kernel_rfl)(hlo:(match lo with|none=>some 0|some y=>numOf (opd σ y))=some 0:=by kernel_rfl)(hhi:numOf (opd σ hi')=some n:=by kernel_rfl):wpFrom P ops Q k a w:=by
 obtain⟨hF,S,F,hM,hs,hf⟩:=c;obtain⟨kd,hhi⟩:=YD hhi;exact Zna i hs hM hi ht he ho hd hF hx (by grind[YD]) hhi hr fun c' w' S' fr hs' hp hF'=>h c' fr w' ⟨hF',S',F,hM.stp hp,hs',hf.chg hp.chg fun k hk hS=>hM.dj k hS hk⟩
end
section
variable{K V:TypeId}{κ β:Type}[Flat κ][Flat β][DecidableEq κ]{T:MapT P K V κ β}{b:Nat}{m:List (κ×β)}
theorem Emm(T:MapT P K V κ β)(c:Cx B N σ Γ Φ a w)(h:∀b fr w',Cx B N ((d,.map (some b))::σ) (Γ++[MP T b []]) Φ fr w'→wpFrom P ops Q (k+1) fr w')(ho:ops[k]? =some ⟨some d,.makeMap t none,ty,pos,af,none⟩:=by rfl)(hd:Nat.blt d N=true:=by rfl)
  (hm:∀w,(Instr.makeMap t none).run P w= .ok (.map (some w.heap.size)) (w.alloc (.map #[] 0)):=by exact fun w=>by simp[Instr.makeMap,run_newObj_alloc]):wpFrom P ops Q k a w:=by
 obtain⟨hF,S,F,hM,hs,hf⟩:=c;exact Zkr T hs hM hm ho hd hF fun b w' S' fr hs' hp hF'=>h b fr w' ⟨hF',S',F,hM.stp hp,ZG (Γ2:=[_]) hs',hf.chg hp.chg fun k hk hS=>hM.dj k hS hk⟩
theorem Emp{q:κ}{e:β}{m':List (κ×β)}{fit:κ→Bool}{efit:β→Bool}(i:Nat)(c:Cx B N σ Γ Φ a w)(hr:mputE? fit efit m q e=some m')(h:∀w',Cx B N σ (Γ.set i (MP T b m')) Φ a w'→wpFrom P ops Q (k+1) a w')(hi:Γ[i]? =some (MP T b m):=by rfl)(hfit:T.fit=fit:=by rfl)(hzz:T.efit=efit:=by rfl)
  (ho:ops[k]? =some ⟨none,.mapUpdate t x y z,ty,pos,af,none⟩:=by rfl)(ht:P.underlying t=some (.map K V):=by kernel_rfl)(hx:opd σ x=some (.map (some b)):=by kernel_rfl)(hy:opd σ y=some (Rep.val κ (Flat.enc q)):=by kernel_rfl)(hz:opd σ z=some (Rep.val β (Flat.enc e)):=by kernel_rfl):wpFrom P ops Q k a w:=by
 obtain⟨hF,S,F,hM,hs,hf⟩:=c;subst hfit;subst hzz;exact Zlz T i hs hM hi ht ho hF (u:=q) (mputE?_fit hr) e (mputE?_efit hr) (mputE?_len hr) hx hy rfl hz rfl fun w' S' hs' hp hF'=>h w' ⟨hF',S',F,hM.stp hp,by grind[mputE?_val],hf.chg hp.chg fun k hk hS=>hM.dj k hS hk⟩
end
end
section
variable{P:Program}{B:Bs}{N:Nat}{σ:List (Nat×Value)}{Γ:List HP}{Φ:List RF}{a a':Act}{w w':World}{Q:Exit→Act→World→Prop}{K:Act→World→Prop}
abbrev Cx.wd(_:Cx B N σ Γ Φ a w):World:=w
theorem Cx.swap{H H':HP}(i:Nat)(c:Cx B N σ Γ Φ a w)(f:∀A,H.ok w A→H'.ok w A)(hi:Γ[i]? =some H:=by rfl):Cx B N σ (Γ.set i H') Φ a w:=by
 obtain⟨h,S,F,h1,h2,h3⟩:=c;exact⟨h,S,F,h1,h2.swapT i hi f,h3⟩
theorem Cx.bxe{b t:Nat}{cs cs':List Value}(i:Nat)(c:Cx B N σ Γ Φ a w)(he:cs=cs')(hi:Γ[i]? =some (BX b t cs):=by rfl):Cx B N σ (Γ.set i (BX b t cs')) Φ a w:=c.swap i (fun _ h=>he▸h) hi
theorem Cx.nilf{α:Type}[Rep α](c:Cx B N σ Γ Φ a w):Cx B N σ Γ (Φ++[RO (.slice none 0 0) ([]:List α)]) a w:=c.add Ava.nil
theorem Cx.sl{α:Type}[Rep α]{v:Value}{l:List α}(i:Nat)(c:Cx B N σ Γ Φ a w)(hi:Φ[i]? =some (RO v l):=by rfl):∃b cp,v= .slice b l.length cp:=by
 obtain⟨F,h⟩:=c.use (Ava.f i hi);obtain⟨b,cp,h,_⟩:=RV.slice h;simp_all
theorem Cx.flat{L:List HP}(i:Nat)(c:Cx B N σ Γ Φ a w)(hi:Γ[i]? =some (HP.sep L):=by rfl):Cx B N σ (rest [i] Γ++L) Φ a w:=c.gam fun S h=>by
 have:=h.part [i] (Γ1:=[HP.sep L]) (by simp[hi]) (by simp);simp_all[ZG,Sep.flat]
theorem If{x y:Code}{o:Operand}{b:Bool}(c:Cx B N σ Γ Φ a w)(ht:b=true→x.wp P Q a w)(hf:b=false→y.wp P Q a w)(hb:opd σ o=some (.bool b):=by kernel_rfl):(Code.cond o x y).wp P Q a w:=Zlh c.fr hb ht hf
theorem Ch{id:Nat}{l:List Oper}(hmix:P.follows .mixedOrders=true)(c:Cx B N σ Γ Φ a w)(h:∀w',Cx B N σ Γ Φ a w'→wpFrom P l.toArray Q 0 a w')(hch:sufB l.toArray 0=true:=by kernel_rfl):(Code.region id l.toArray true).wp P Q a w:=
 ZmI hmix hch fun w' hc=>h w' (c.ext hc)
theorem Rh{ops:Array Oper}(f:Nat)(h:RA P (hoist f ops) Q a w)(hb:hoistB f ops=true:=by kernel_rfl)(hQ:∀c a d v w,Q (.panic c) (Act.put a (some d) v) w→Q (.panic c) a w:=by exact fun _ _ _ _ _ h=>h):RA P ops Q a w:=Zmi f hb hQ h
theorem As{id:Nat}{l:List Oper}(hmix:P.follows .mixedOrders=true)(c:Cx B N σ Γ Φ a w)(h:∀w',Cx B N σ Γ Φ a w'→wpAny P .any l.toArray Q l.toArray.size (Array.replicate l.toArray.size false) a w'):(Code.region id l.toArray true).wp P Q a w:=
 Zkw hmix fun w' hc=>h w' (c.ext hc)
theorem Gt{l:List Oper}{k g t:Nat}{want:Bool}{o og:Oper}(c:Cx B N σ Γ Φ a w)(h:wpFrom P (l.set k {o with guard:=none}).toArray Q k a w)(ho:l[k]? =some o:=by rfl)(hg:o.guard=some (g,want):=by rfl)(hog:l[g]? =some og:=by rfl)(ht:og.dst=some t:=by rfl)
  (htN:Nat.blt t N=true:=by rfl)(hv:opd σ (.tmp t)=some (.bool want):=by kernel_rfl):wpFrom P l.toArray Q k a w:=Zjg c.fr ho hg hog ht htN hv h
theorem Gs{ops:Array Oper}{k g t d:Nat}{want:Bool}{o og:Oper}(c:Cx B N σ Γ Φ a w)(h:∀fr,Cx B N ((d,undef)::σ) Γ Φ fr w→wpFrom P ops Q (k+1) fr w)(ho:ops[k]? =some o:=by rfl)(hg:o.guard=some (g,want):=by rfl)(hog:ops[g]? =some og:=by rfl)
  (ht:og.dst=some t:=by rfl)(hd:o.dst=some d:=by rfl)(htN:Nat.blt t N=true:=by rfl)(hdN:Nat.blt d N=true:=by rfl)(hv:opd σ (.tmp t)=some (.bool (!want)):=by kernel_rfl):wpFrom P ops Q k a w:=
 Zku c.fr ho hg hog ht htN hv (by simp) hd hdN fun fr hF=>h fr (c.to hF)
def pureC(P:Program)(N:Nat)(σ:List (Nat×Value)):Code→Option (List (Nat×Value))
 |.skip=>some σ
 |.region _ ops false=>seqV P N ops.toList σ
 |_=>none
def dstC:Code→List Nat
 |.region _ ops _=>ops.toList.filterMap (·.dst)
 |_=>[]
theorem ZgA{t:Nat}:∀{l:List Oper}{σ σ':List (Nat×Value)},seqV P N l σ=some σ'→t∉l.filterMap (·.dst)→σ'.lookup t=σ.lookup t
 |[],σ,σ',h,_=>by simp_all[seqV,Option.some.injEq]
 | o::l,σ,σ',h,ht=>by
  unfold seqV at h;split at h
  ·rename_i d v hg hd hv;split at h
   ·rw[List.filterMap_cons,hd]at ht;have h1:=ZgA h fun hm=>ht (Zpi _ hm);grind
   ·cases h
  ·cases h
theorem Zbh{t:Nat}{v:Value}:∀{τ σ:List (Nat×Value)},(τ++σ).lookup t=some v→(t,v)∈τ∨σ.lookup t=some v
 |[],_,h=>.inr h
 | (k,u)::τ,σ,h=>by
  rw[Zq9,Zpl]at h;by_cases e:t=k
  ·simp_all
  ·have:(t==k)=false:=by simpa using e
   rw[this]at h;exact(Zbh h).imp (Zpi _) id
theorem Ziu{x:Code}{τ:List (Nat×Value)}{D:List Nat}(hF:FrS N σ a)(h:(pureC P N σ x).map (fun s=>τ.map fun p=>s.lookup p.1)=some (τ.map fun p=>some p.2))(hD:((dstC x).all (memN D))=true):
  x.wp P (fun e a' w'=>e= .normal∧w'=w∧FrS N (τ++σ.filter fun p=>!memN D p.1) a') a w:=by
 have fin:∀(s:List (Nat×Value))(a':Act),FrS N s a'→(∀p∈τ,s.lookup p.1=some p.2)→(∀t,memN D t=false→s.lookup t=σ.lookup t)→FrS N (τ++σ.filter fun p=>!memN D p.1) a':=fun s a' hs h1 h2=>
  ⟨hs.defers,hs.size,fun t v hv=>by
   rcases Zbh hv with hv|hv
   ·exact hs.get t v (h1 _ hv)
   ·obtain⟨g1,g2⟩:=Zb5 (f:=fun k=> !memN D k) hv
    exact hs.get t v (by simp_all)⟩
 cases x with
 |skip=>
  simp only[pureC,ZoQ,Option.some.injEq]at h;exact wp_skip ⟨rfl,rfl,fin σ a hF (fun p hp=>Zpm.1 h p hp) fun _ _=>rfl⟩
 | region id ops draw=>
  cases draw with
  |true=>simp_all[pureC]
  | false=>
   simp only[pureC]at h;cases hq:seqV P N ops.toList σ with
   |none=>simp_all
   |some s=>
    rw[hq]at h;simp only[ZoQ,Option.some.injEq]at h;refine Zhp ?_;unfold wpFrom;rw[Zpp,←ZpD ops.toList];refine Zhe hF hq fun a' hF'=>wpList_nil ⟨rfl,rfl,fin s a' hF' (fun p hp=>Zpm.1 h p hp) fun t ht=>ZgA hq fun hm=>?_⟩;grind[List.all_eq_true,dstC]
 |_=>simp_all[pureC]
theorem Mp{x y:Code}{o:Operand}(b:Bool)(τ1 τ2 τ:List (Nat×Value))(D:List Nat)(c:Cx B N σ Γ Φ a w)(h:∀fr,Cx B N (τ++σ.filter fun p=>!memN D p.1) Γ Φ fr w→K fr w)(hb:opd σ o=some (.bool b):=by kernel_rfl)
  (h1:(pureC P N σ x).map (fun s=>τ1.map fun p=>s.lookup p.1)=some (τ1.map fun p=>some p.2):=by kernel_rfl)(h2:(pureC P N σ y).map (fun s=>τ2.map fun p=>s.lookup p.1)=some (τ2.map fun p=>some p.2):=by kernel_rfl)
  (hx:((dstC x).all (memN D))=true:=by kernel_rfl)(hy:((dstC y).all (memN D))=true:=by kernel_rfl)(e1:b=true→τ1=τ:=by intro hb;first|rfl|(simp only[hb];done)|(simp only[hb];rfl)|(simp[hb];done))
  (e2:b=false→τ2=τ:=by intro hb;first|rfl|(simp only[hb];done)|(simp only[hb];rfl)|(simp[hb];done)):(Code.cond o x y).wp P (Exit.then K Q) a w:=
 ZlX (τ++σ.filter fun p=>!memN D p.1) c.fr hb (fun hb=>by rw[←e1 hb];exact Ziu c.fr h1 hx) (fun hb=>by rw[←e2 hb];exact Ziu c.fr h2 hy) fun a' hF=>Zdm (h a' (c.to hF))
theorem Ry{id:Nat}{ops:Array Oper}{draw:Bool}(hs:List (Nat×Nat))(hmix:P.follows .mixedOrders=true)(c:Cx B N σ Γ Φ a w)
  (h:∀fr w',Cx B N (outS ops σ (pdsM P (bxsOf Γ Φ) hs ops σ [] ops.size) ops.size) Γ Φ fr w'→K fr w')
  (hst:(stat draw (cond draw (masksN ops ops.size) []) ops [] N&&statG ops (pdsM P (bxsOf Γ Φ) hs ops σ [] ops.size) [])=true:=by kernel_rfl)
  (h1:(freeI [] ops.size).map (fun j=>(pureB P (bxsOf Γ Φ) hs ops σ (pdsM P (bxsOf Γ Φ) hs ops σ [] ops.size) j).map (·.1))=(freeI [] ops.size).map fun j=>((pdsM P (bxsOf Γ Φ) hs ops σ [] ops.size).getD j .any).val?:=by kernel_rfl)
  (h2:((freeI [] ops.size).all fun j=>((pdsM P (bxsOf Γ Φ) hs ops σ [] ops.size).getD j .any).val?.isSome)=true:=by kernel_rfl)
  (h3:(freeI [] ops.size).map (fun j=>(pureB P (bxsOf Γ Φ) hs ops σ (pdsM P (bxsOf Γ Φ) hs ops σ [] ops.size) j).map fun r=>r.2.map (·.1))=(freeI [] ops.size).map fun j=>(pureB P (bxsOf Γ Φ) hs ops σ (pdsM P (bxsOf Γ Φ) hs ops σ [] ops.size) j).map fun r=>r.2.map (·.2):=by kernel_rfl):
  (Code.region id ops draw).wp P (Exit.then K Q) a w:=Rz [] hs hmix c trivial (fun _=>trivial) h hst h1 h2 h3
def Pd.el{α:Type}[Rep α](x:α):Pd:=.is fun v w=>ElemP w (fun _=>True) v x
theorem elM{α:Type}[Rep α]{x:α}:(Pd.el x).Mono Non:=Zhb
theorem elO{α:Type}[Rep α]{x:α}:(Pd.el x).MonoO:=Pd.monoO_is Zhb
theorem atN{bx:Bxs}{hs:List (Nat×Nat)}{ops:Array Oper}{np:List (Nat×Pd)}{m:Nat}{p:Pd}(j:Nat)(hp:np.lookup j=some p:=by rfl)(hj:Nat.blt j m=true:=by rfl):(pdsM P bx hs ops σ np m).getD j .any=p:=Zcd (ZoY.mp hj) hp
theorem atM{bx:Bxs}{hs:List (Nat×Nat)}{ops:Array Oper}{np:List (Nat×Pd)}{m:Nat}{p:Pd}{ow:Nat→Nat}(j:Nat)(hp:np.lookup j=some p:=by rfl)(hj:Nat.blt j m=true:=by rfl):(instL ow (pdsM P bx hs ops σ np m)).getD j .any=p.inst ow:=by
 rw[Xl,Zcd (ZoY.mp hj) hp]
def ndN:List Nat→Bool
 |[]=>true
 |x::l=>!(memN l x)&&ndN l
theorem Zd9:∀{l:List Nat},ndN l=true→l.Nodup
 |[],_=>Zq5
 |x::l,h=>by
  unfold ndN at h;rw[ZoB,ZpG,Zh3]at h;exact Zqw.2 ⟨fun hm=>by simp_all,Zd9 h.2⟩
theorem Cx.newt{σ0:List (Nat×Value)}{a0:Act}{w0:World}{ow:Nat→Nat}(c0:Cx B N σ0 Γ Φ a0 w0)(hc:Chg Non w0 w)(c:Cx B N σ Γ Φ a w)(l:List (Nat×Nat×Value×HP))
  (h:AllP (fun p=>a.eval (.tmp p.2.1)=p.2.2.1∧p.2.2.2.ok w (fun k=>w0.heap.size≤k∧k<w.heap.size∧ow k=p.1)) l)(hnd:ndN (l.map (·.1))=true:=by rfl):Cx B N (l.map (fun p=>(p.2.1,p.2.2.1))++σ) (Γ++l.map (·.2.2.2)) Φ a w:=by
 have hn:=Zd9 hnd;clear hnd;obtain⟨_,S,F,hM,hs,hf⟩:=c0
 have hN:=sepO (w0:=w0) (ow:=ow) (l.map fun p=>(p.1,p.2.2.2)) (by grind) (by
  induction l with
  |nil=>trivial
  |cons p l ih=>exact⟨h.1.2,ih h.2 (by simp_all)⟩) rfl
 obtain⟨S',hp,hs'⟩:=hs.got hM (Znv hc) hN;refine⟨⟨c.fr.defers,c.fr.size,fun t v hv=>?_⟩,S',F,hM.stp hp,?_,hf.chg hp.chg fun k hk hS=>hM.dj k hS hk⟩
 ·rcases Zbh hv with hv|hv
  ·obtain⟨p,hp,he⟩:=Zq1.1 hv;obtain⟨rfl,rfl⟩:=he;exact(h.mem hp).1
  ·exact c.fr.get t v hv
 simp_all[ZG,List.map_map,Function.comp_def]
end
section
variable{P:Program}{B:Bs}{N:Nat}{σ:List (Nat×Value)}{Γ:List HP}{Φ Φ1:List RF}{a:Act}{w:World}{Q:Exit→Act→World→Prop}
  {draw:Bool}{ms:List Nat}{ops:Array Oper}{pds:List Pd}{j d:Nat}{dst:Option Tmp}{g:Option (Nat×Bool)}{t ty yt:TypeId}{x y:Operand}{pos:String}{af:Array Edge}{ow:Nat→Nat}
theorem gcT{g':Nat}{b:Bool}(hg:gc ops pds ops.size j)(hgd:guardOf ops j=some (g',true):=by rfl)(hn:∃n,ops.size=n+1:=by exact⟨_,rfl⟩)(hp:(pds.getD g' .any).val? =some (.bool b):=by kernel_rfl):b=true:=by
 obtain⟨n,hn⟩:=hn;unfold gc at hg;cases hq:pds.getD g' .any with
 |eq v=>
  simp_all[Pd.val?,Option.some.injEq,Pd.boolIs]
 |_=>rw[hq]at hp;cases hp
theorem gcF{g':Nat}{b:Bool}(hg:gc ops pds ops.size j)(hgd:guardOf ops j=some (g',false):=by rfl)(hn:∃n,ops.size=n+1:=by exact⟨_,rfl⟩)(hp:(pds.getD g' .any).val? =some (.bool b):=by kernel_rfl):b=false:=by
 obtain⟨n,hn⟩:=hn;unfold gc at hg;cases hq:pds.getD g' .any with
 |eq v=>
  simp_all[Pd.val?,Option.some.injEq,Pd.boolIs]
 |_=>rw[hq]at hp;cases hp
theorem Nix{s:Str}{n r:Int}(c:Cx B N σ Γ Φ a w)(hz:gc ops pds ops.size j→sidx? s n=some r)(ho:ops[j]? =some ⟨dst,.index t x y,ty,pos,af,g⟩:=by rfl)(ht:P.underlying t=some .string:=by kernel_rfl)
  (hx:envP ops σ pds j x=some s.val:=by kernel_rfl)(hy:numOf (envP ops σ pds j y)=some n:=by kernel_rfl)(hG:Good ops pds [])(hpd:pds.getD j .any= .eq (.int .u8 r)):NPB P draw ms ops pds a w Q j:=by
 obtain⟨kd,hy⟩:=YD hy;exact Zht hG c.fr ht ho hx hy hz hpd
theorem Ncat{s1 s2 s3:Str}(c:Cx B N σ Γ Φ a w)(hz:gc ops pds ops.size j→cat? s1 s2=some s3)(ho:ops[j]? =some ⟨dst,.binOp .add t x y yt,ty,pos,af,g⟩:=by rfl)
  (hx:envP ops σ pds j x=some s1.val:=by kernel_rfl)(hy:envP ops σ pds j y=some s2.val:=by kernel_rfl)(hG:Good ops pds [])(hpd:pds.getD j .any= .eq s3.val):NPB P draw ms ops pds a w Q j:=ZnS hG c.fr ho hx hy hz hpd
theorem Nshl{m n r:Int}(c:Cx B N σ Γ Φ a w)(hz:gc ops pds ops.size j→shl? m n=some r)(ho:ops[j]? =some ⟨dst,.binOp .shl t x y yt,ty,pos,af,g⟩:=by rfl)
  (hx:envP ops σ pds j x=some (.int .i64 m):=by kernel_rfl)(hy:numOf (envP ops σ pds j y)=some n:=by kernel_rfl)(hG:Good ops pds [])(hpd:pds.getD j .any= .eq (.int .i64 r)):NPB P draw ms ops pds a w Q j:=by
 obtain⟨kd,hy⟩:=YD hy;exact Zoo hG c.fr ho hx hy hz hpd
theorem Nid{α:Type}[Rep α]{e:TypeId}{v:Value}{l:List α}{n:Int}{q:α}(c:Cx B N σ Γ Φ a w)(hl:Ava Γ Φ w (RO v l))(hz:gc ops pds ops.size j→get? l n=some q)(ho:ops[j]? =some ⟨dst,.indexAddr t x y,ty,pos,af,g⟩:=by rfl)(ht:P.underlying t=some (.slice e):=by rfl)(he:Ty P e α:=by constructor<;>kernel_rfl)(hx:envP ops σ pds j x=some v:=by kernel_rfl)(hy:numOf (envP ops σ pds j y)=some n:=by kernel_rfl)(hG:Good ops pds [])(hpd:pds.getD j .any= .is fun v w=>ElemP w (fun _=>True) v q):NPB P draw ms ops pds a w Q j:=by
 obtain⟨F,hl⟩:=c.use hl;obtain⟨kd,hy⟩:=YD hy;exact Zlu hG c.fr he ht ho hx (RV.any hl) hy hpd fun hg=>⟨get?_nn (hz hg),get?_at (hz hg)⟩
theorem Nld{α:Type}[Flat α]{s:Nat}{q:α}{u:Value}(c:Cx B N σ Γ Φ a w)(i:Nat)(hpi:pds.getD i .any= .is fun v w=>ElemP w (fun _=>True) v q)(ho:ops[j]? =some ⟨dst,.load t (.tmp s),ty,pos,af,g⟩:=by rfl)
  (hj:Nat.blt j ops.size=true:=by rfl)(hl:lastW ops s j=some i:=by rfl)(hok:okG ops ops.size j i=true:=by rfl)(hu:Rep.val α (Flat.enc q)=u:=by rfl)(ht:Ty P t α:=by constructor<;>kernel_rfl)(hG:Good ops pds [])(hpd:pds.getD j .any= .eq u):NPB P draw ms ops pds a w Q j:=
 Zl3 hG c.fr ht ho hj hl hok hpi hpd hu
theorem Ncl{args:List Value}{f:FuncId}{xs:Array Operand}{ts:Array TypeId}{vs:List Value}{u:Value}(c:Cx B N σ Γ Φ a w)(hcon:gc ops pds ops.size j→Con P f args [] Φ1 fun(_:Unit)=>(vs,[],[]))(ro:AvaL Γ Φ w Φ1)
  (hf:∀(args:Array Value)(w:World),(callFunc f args).run P w= .ok (.enter f args) w)(hv:Go.GL.tup vs=u:=by rfl)(ho:ops[j]? =some ⟨dst,.call ⟨.value (.func f),xs,ts⟩,ty,pos,af,g⟩:=by rfl)
  (hargs:xs.toList.map (envP ops σ pds j)=args.map some:=by kernel_rfl)(hG:Good ops pds [])(hpd:pds.getD j .any= .eq u):NPB P draw ms ops pds a w Q j:=
 ZmS args hG c.fr hf ho hargs fun w' hC hg=>by
  have hro:AllF Φ1 w (fun k=>k<w.heap.size):=by
   obtain⟨_,S0,F0,hM0,hs0,hF0⟩:=c;exact(AvaL.all ro hs0 hF0).sub fun k hk _=>hk
  refine(hcon hg w' Non (fun k=>k<w.heap.size) (Sep.nil _ _) (hro.chg hC fun _ _ h=>h.elim) (fun _ h=>h.elim) (fun k hk=>ZoR hk hC.size) (fun _ h=>h.elim)).mono ?_;rintro e w'' ⟨i,S',F',rfl,hM',_,_⟩;exact⟨_,rfl,hM'.chg,by rw[hpd];exact hv⟩
end
end Go.GL
end
