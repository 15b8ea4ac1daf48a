/- Texts of this claim put into one: library or plain laws, without the program under test. -/
import Derived.Test.YtmhljhkhmdkdhaaGreatDoorLib2
import Derived.ChangeArms
import Derived.ChangeOld
import Derived.WideShapes
import Derived.Test.YtmhljhkhmdkdhaaGreatDoorLib1
import Derived.Maps.RangeWalk
import Derived.Shelf.SlSortCmp.NoneTotal
import Derived.Lib.Strings
set_option linter.unusedSimpArgs false
set_option linter.unusedVariables false
set_option linter.defProp false
section
namespace Go.GL
open Go.RowKit
section
variable{P:Program}{B:Bs}{N:Nat}{σ:List (Nat×Value)}{Γ:List HP}{Φ:List RF}{a:Act}{w:World}{Q:Exit->Act->World->Prop}
  {ops:Array Oper}{k d d2 d3:Nat}{t t' s' ty ty' ty2 yt:TypeId}{pos pos' pos2:String}{af af' af2:Array Edge}{x y y' z:Operand}{kd kk:IntKind}
def Cx.fad{Rf:RF}(c:Cx B N σ Γ Φ a w)(h:∀F,AllF Φ w F->Rf.ok w F):Cx B N σ Γ (Φ++[Rf]) a w:=by
 obtain⟨hF,S,F,h1,h2,h3⟩:=c;exact⟨hF,S,F,h1,h2,h3.add (h F h3)⟩
def Ava.ro{Rf:RF}{F:Nat->Prop}(h:Ava [] Φ w Rf)(hf:AllF Φ w F):Rf.ok w F:=Rf.sub (h Non F (Sep.nil w Non) hf) λ_ _ h=>h.elim id λh=>h.elim
end
def Pd.fl(u:Value):Pd:=.is λv w=>∃ad,v= .pointer (some ad)/\Cells w ad [u]
def flM{u:Value}:(Pd.fl u).Mono Non:=λv w w'⟨ad,h1,h2⟩hc=>⟨ad,h1,h2.keep λ_=>hc.block _ (h2.lt U) id⟩
def flO{u:Value}:(Pd.fl u).MonoO:=Pd.monoO_is flM
def Pd.rd{α:Type}[Rep α](x:α):Pd:=.is λv w=>RV w (λ_=>True) v x
def rdM{α:Type}[Rep α]{x:α}:(Pd.rd x).Mono Non:=Kv
def rdO{α:Type}[Rep α]{x:α}:(Pd.rd x).MonoO:=Pd.monoO_is Kv
inductive ArgS where
 |v (u:Value)
 |r (i:Nat) (R:Value->RF)
def ArgsOk(w:World):List ArgS->List Value->Prop
 |[],vs=>vs=[]
 |.v u::r,vs=>∃rest,vs=u::rest/\ArgsOk w r rest
 |.r _ R::r,vs=>∃v rest,vs=v::rest/\(R v).ok w (λ_=>True)/\ArgsOk w r rest
def ArgS.sum:ArgS->Value⊕Nat
 |.v u=>.inl u
 |.r i _=>.inr i
def ArgS.in(pds:List Pd):ArgS->Prop
 |.v _=>True
 |.r i R=>pds.getD i .any= .is λv w=>(R v).ok w (λ_=>True)
section
variable{P:Program}{B:Bs}{N:Nat}{σ:List (Nat×Value)}{Γ:List HP}{Φ Φ1 Ψ:List RF}{a:Act}{w:World}{Q:Exit->Act->World->Prop}
  {draw:Bool}{ms:List Nat}{ops:Array Oper}{pds:List Pd}{j d:Nat}{dst:Option Tmp}{g:Option (Nat×Bool)}{t ty yt:TypeId}{x y:Operand}{pos:String}{af:Array Edge}{ow:Nat->Nat}
theorem Nfa{α:Type}[Rep α]{q:α}{u:Value}{s fl off:Nat}(c:Cx B N σ Γ Φ a w)(i:Nat)(hpi:pds.getD i .any= .is λv w=>ElemP w (λ_=>True) v q)(hu:∀{w:World}{F:Nat->Prop}{cs:List Value},Rep.ok w F cs q->cs[off]? =some u)(ho:ops[j]? =some ⟨dst,.fieldAddr t (.tmp s) fl,ty,pos,af,g⟩:=by rfl)(hj:Nat.blt j ops.size=true:=by rfl)(hl:lastW ops s j=some i:=by rfl)(hok:okG ops ops.size j i=true:=by rfl)
  (hoff:fieldOff P t fl=some off:=by kernel_rfl)(hG:Good ops pds [])(hpd:pds.getD j .any= .is λv w=>∃ad,v= .pointer (some ad)/\Cells w ad [u]):NPB P draw ms ops pds a w Q j:=
 Tx _ ho hG c.fr λa' w' _ hg _ hk=>by
  have h:=Ut hG hj hl hok hg (hk s ae);rw[hpi]at h;obtain⟨ad,cs,hv,_,h1,h2⟩:=h
  refine Zg (v:=.pointer (some (ad.add off))) (w':=w') (TJ (P:=P) (ρ:=λy=>match y with|.tmp s'=>if s'=s then some (.pointer (some ad))else none|_=>none) (ρ':=a'.eval) (λy z hy=>by
   grind) (by simp[pe,hoff]) w') ?_
  rw[hpd];refine⟨⟨_,rfl,λi' q' hq=>?_⟩,Chg.refl _ _⟩;cases i' with
  |zero=>
   simp only[BA,Option.some.injEq]at hq;subst hq;exact h2 off u (hu h1)
  |succ j=>simp at hq
def Nlf{u:Value}{s:Nat}(c:Cx B N σ Γ Φ a w)(i:Nat)(hpi:pds.getD i .any= .is λv w=>∃ad,v= .pointer (some ad)/\Cells w ad [u])(ho:ops[j]? =some ⟨dst,.load t (.tmp s),ty,pos,af,g⟩:=by rfl)(hj:Nat.blt j ops.size=true:=by rfl)
  (hl:lastW ops s j=some i:=by rfl)(hok:okG ops ops.size j i=true:=by rfl)(ht:Ty P t Int:=by constructor<;>kernel_rfl)(hG:Good ops pds [])(hpd:pds.getD j .any= .eq u):NPB P draw ms ops pds a w Q j:=
 Tx _ ho hG c.fr λa' w' _ hg _ hk=>by
  have h:=Ut hG hj hl hok hg (hk s ae);rw[hpi]at h;obtain⟨ad,hv,h2⟩:=h;refine Zg (v:=u) (w':=w') ?_ ak;have:=YT ht (cs:=[u]) rfl h2;have hv':Rep.val Int [u]=u:=rfl;simp_all[execOp,Instr.loadAt,Instr.sureAddr]
def Nrd{α:Type}[Rep α]{q:α}{s:Nat}(c:Cx B N σ Γ Φ a w)(i:Nat)(hpi:pds.getD i .any= .is λv w=>ElemP w (λ_=>True) v q)(ho:ops[j]? =some ⟨dst,.load t (.tmp s),ty,pos,af,g⟩:=by rfl)
  (hj:Nat.blt j ops.size=true:=by rfl)(hl:lastW ops s j=some i:=by rfl)(hok:okG ops ops.size j i=true:=by rfl)(ht:Ty P t α:=by constructor<;>kernel_rfl)(hG:Good ops pds [])(hpd:pds.getD j .any= .is λv w=>RV w (λ_=>True) v q):NPB P draw ms ops pds a w Q j:=
 Tx _ ho hG c.fr λa' w' _ hg _ hk=>(Rx (F:=λ_=>True) (y:=q) rfl ht rfl (by
  have:=Ut hG hj hl hok hg (hk s ae);rw[hpi]at this;exact this)).mono λv w'⟨h1,h2⟩=>by
  subst h2;rw[hpd];exact⟨h1,Chg.refl _ _⟩
theorem OQ{w:World}:∀{spec:List ArgS}{vs:List Value},AllP (ArgS.in pds) spec->SpecP pds w (spec.map ArgS.sum) vs->ArgsOk w spec vs
 |[],vs,_,h=>h
 |.v u::r,vs,hp,h=>by
  obtain⟨rest,h1,h2⟩:=h;exact⟨rest,h1,OQ hp.2 h2⟩
 |.r i R::r,vs,hp,h=>by
  obtain⟨v,rest,h1,h2,h3⟩:=h;have hi:pds.getD i .any=_:=hp.1;rw[hi]at h2;exact⟨v,rest,h1,h2,OQ hp.2 h3⟩
def Ncd{f:FuncId}{xs:Array Operand}{ts:Array TypeId}{rs:List Value}{u:Value}(spec:List ArgS)(c:Cx B N σ Γ Φ a w)(hi:AllP (ArgS.in pds) spec)(ro:AvaL Γ Φ w Ψ)
  (hcon:gc ops pds ops.size j->∀w' vs,ArgsOk w' spec vs->AllF Ψ w' (λ_=>True)->∃Φ1,AllF Φ1 w' (λ_=>True)/\Con P f vs [] Φ1 λ(_:Unit)=>(rs,[],[]))
  (hf:∀(args:Array Value)(w:World),(callFunc f args).run P w= .ok (.enter f args) w)(hv:Go.GL.tup rs=u:=by rfl)(ho:ops[j]? =some ⟨dst,.call ⟨.value (.func f),xs,ts⟩,ty,pos,af,g⟩:=by rfl)
  (hj:Nat.blt j ops.size=true:=by rfl)(hargs:xs.toList.map (argSpec ops σ pds j)=(spec.map ArgS.sum).map some:=by kernel_rfl)(hG:Good ops pds [])(hpd:pds.getD j .any= .eq u):NPB P draw ms ops pds a w Q j:=
 GJ (spec.map ArgS.sum) hG c.fr hf ho hj hargs λw' vs hC hg hsp=>by
  have hro:AllF Ψ w' (λ_=>True):=by
   obtain⟨_,S0,F0,hM0,hs0,hF0⟩:=c;exact((AvaL.all ro hs0 hF0).chg hC λ_ _ h=>h.elim).sub λ_ _ _=>trivial
  obtain⟨Φ1,h1,h2⟩:=hcon hg w' vs (OQ hi hsp) hro;refine(h2 w' Non (λk=>k<w'.heap.size) (Sep.nil _ _) (h1.sub λk hk _=>hk) (λ_ h=>h.elim) (λk hk=>hk) (λ_ h=>h.elim)).mono ?_;rintro e w'' ⟨i,S',F',rfl,hM',_,_⟩;exact⟨_,rfl,hM'.chg,by rw[hpd];exact hv⟩
end
class Opn(α:Type)[Rep α]where
 κ:Type
 val:α->κ->Value
 facts:α->κ->List RF
 opn:∀{w:World}{F:Nat->Prop}{v:Value}{x:α},RV w F v x->∃k,v=val x k/\AllF (facts x k) w F
instance{α:Type}[Rep α]:Opn (List α)where
 κ:=Option Addr×Nat
 val l k:=.slice k.1 l.length k.2
 facts l k:=[RO (.slice k.1 l.length k.2) l]
 opn:=λh=>by
  obtain⟨b,cp,rfl,_⟩:=RV.slice h;exact⟨(b,cp),rfl,AllF.of [_] ⟨h,trivial⟩⟩
instance:Opn D.Term where
 κ:=Option Addr×Nat
 val x k:=.agg #[.int .i64 x.Op,.int .i64 x.W,.int .i64 x.N,x.Name.val,.slice k.1 x.Kids.length k.2]
 facts x k:=[RO (.slice k.1 x.Kids.length k.2) x.Kids]
 opn:=λh=>by
  obtain⟨v4,rfl,h2⟩:=RV.Term h;obtain⟨b,cp,rfl,_⟩:=RV.slice h2;exact⟨(b,cp),rfl,AllF.of [_] ⟨h2,trivial⟩⟩
def mapSI(P:Program)(k e:TypeId)(hk:P.underlying k=some .string)(he:P.underlying e=some (.int .i64))(hzero:(P.info? e).map (·.zero)=some (some (.int .i64 0))):MapT P k e Str Int where
 fit:=fitS
 lit x:=.string x.bytes
 dv y:=.lit (.int .i64 y)
 zero:=0
 efit:=fitZ
 zfit:=rfl
 keyed:=Maps.string_keyed hk
 key x h:=by
  have h:x.bytes.length<=9223372036854775807:=of_decide_eq_true h;have h2:(Rep.val Str (Flat.enc x))= .string ⟨x.bytes.toArray⟩:=rfl;unfold keyOf;rw[hk,h2];simp only[mapKey,hk];have h3:(ByteArray.mk x.bytes.toArray).size<=maxLen:=by show x.bytes.toArray.size<=_;simp_all[maxLen]
  simp[h3]
 inj x y _ _ h:=by
  cases x;simp_all
 elem y h:=plainElem_int he (by grind[fitZ])
 back v y ps h:=by
  obtain⟨c,rfl,hc,_⟩:=plainElem_int_inv he h;simp only[Prod.mk.injEq,DataW.lit.injEq,Lit.int.injEq]at hc;rw[hc.1.2];rfl
 hz w:=by
  show(zeroValue e).run P w= .ok (.int .i64 0) w;cases hi:P.info? e with
  |none=>simp_all
  |some i=>
   simp_all[CJ,Option.some.injEq,zeroValue,typeInfo]
section
variable{P:Program}{K V:TypeId}{κ β:Type}[Flat κ][Flat β]
def OM(T:MapT P K V κ β)(v:Value)(m:Option (List (κ×β))):HP where
 ok w A:=match m with
  |none=>v= .map none
  |some l=>∃b,v= .map (some b)/\OwnM T w b l/\A b
 mono:=λ{w A A'}h hA=>by
  grind[OwnM.lt]
 keep:=λ{w w' A T'}h hc hT=>by
  cases m with
  |none=>exact h
  |some l=>obtain⟨b,h1,h2,h3⟩:=h;exact⟨b,h1,h2.chg T hc (hT b h3),h3⟩
def MO(T:MapT P K V κ β)(v:Value)(m:Option (List (κ×β))):RF where
 ok w F:=(OM T v m).ok w F
 sub:=λh hs=>(OM T v m).mono h hs
 chg:=λh hc ht=>(OM T v m).keep h hc ht
variable{B:Bs}{N:Nat}{σ:List (Nat×Value)}{Γ:List HP}{Φ:List RF}{a:Act}{w:World}{Q:Exit->Act->World->Prop}{T:MapT P K V κ β}
  {ops:Array Oper}{k d b:Nat}{t ty yt:TypeId}{pos:String}{af:Array Edge}{x y z:Operand}{v:Value}{m:Option (List (κ×β))}{l:List (κ×β)}
def Cx.om[DecidableEq κ](i:Nat)(c:Cx B N σ Γ Φ a w)(hi:Γ[i]? =some (MP T b l):=by rfl):Cx B N σ (Γ.set i (OM T (.map (some b)) (some l))) Φ a w:=c.swap (H:=MP T b l) (H':=OM T (.map (some b)) (some l)) i (λA h=>(⟨b,rfl,h.1,h.2⟩:(OM T (.map (some b)) (some l)).ok w A)) hi
def Cx.nilm(T:MapT P K V κ β)(c:Cx B N σ Γ Φ a w):Cx B N σ (Γ++[OM T (.map none) none]) Φ a w:=c.gam λS h=>ZP (Γ2:=[OM T (.map none) none]) (Sep.emp _ h rfl)
theorem Cx.som[DecidableEq κ](i:Nat)(c:Cx B N σ Γ Φ a w)(hm:m.isNone=false)(hi:Γ[i]? =some (OM T v m):=by rfl):∃b,v= .map (some b)/\Cx B N σ (Γ.set i (MP T b (m.getD []))) Φ a w:=by
 cases m with
 |none=>cases hm
 | some l=>
  have:∃b,v= .map (some b):=by
   obtain⟨_,S,F,_,hs,_⟩:=c;obtain⟨A,h,_⟩:=hs.get i hi;obtain⟨b,h,_⟩:=h;simp_all
  obtain⟨b,rfl⟩:=this;exact⟨b,rfl,c.swap (H:=OM T (.map (some b)) (some l)) (H':=MP T b l) i (λA h=>by obtain⟨b',h1,h2,h3⟩:=h;cases h1;exact⟨h2,h3⟩) hi⟩
def Cx.smx[DecidableEq κ](i:Nat)(c:Cx B N σ Γ Φ a w)(hm:m=some l)(hi:Γ[i]? =some (OM T v m):=by rfl):∃b,v= .map (some b)/\Cx B N σ (Γ.set i (MP T b l)) Φ a w:=by
 subst hm;exact c.som i rfl hi
theorem Cx.nom(i:Nat)(c:Cx B N σ Γ Φ a w)(hm:m.isNone=true)(hi:Γ[i]? =some (OM T v m):=by rfl):v= .map none:=by
 cases m with
 |some l=>cases hm
 |none=>
  obtain⟨_,S,F,_,hs,_⟩:=c;obtain⟨A,h,_⟩:=hs.get i hi;exact h
def Ava.mp[DecidableEq κ](i:Nat)(h:Γ[i]? =some (MP T b l):=by rfl):Ava Γ Φ w (MO T (.map (some b)) (some l)):=λS F hs _=>by
 obtain⟨A,h1,h2⟩:=hs.get i h;exact⟨b,rfl,h1.1,.inr (h2 b h1.2)⟩
def Ava.om(i:Nat)(h:Γ[i]? =some (OM T v m):=by rfl):Ava Γ Φ w (MO T v m):=λS F hs _=>by
 obtain⟨A,h1,h2⟩:=hs.get i h;exact(OM T v m).mono h1 λk _ hk=>.inr (h2 k hk)
def Ava.mn:Ava Γ Φ w (MO T (.map none) none):=λS F hs _=>rfl
def Jj{t:TypeId}(ht:P.underlying t=some (.map K V))(o:Option Nat)(w:World):(binOp .eql t (.map o) (.map none)).run P w= .ok (.bool o.isNone) w:=by
 unfold binOp Op.equal Op.maxDepth Op.equalIn;cases o<;>simp[run_underlying ht]
theorem Enm(i:Nat)(c:Cx B N σ Γ Φ a w)(h:∀fr,Cx B N ((d,.bool m.isNone)::σ) Γ Φ fr w->wpFrom P ops Q (k+1) fr w)(hi:Γ[i]? =some (OM T v m):=by rfl)(ho:ops[k]? =some ⟨some d,.binOp .eql t x y yt,ty,pos,af,none⟩:=by rfl)(hd:Nat.blt d N=true:=by rfl)
  (ht:P.underlying t=some (.map K V):=by kernel_rfl)(hx:opd σ x=some v:=by kernel_rfl)(hy:opd σ y=some (.map none):=by kernel_rfl):wpFrom P ops Q k a w:=by
 obtain⟨S,F,hM,hs,hf⟩:=c.me;obtain⟨A,hA,_⟩:=hs.get i hi;have:∃o:Option Nat,v= .map o/\o.isNone=m.isNone:=by
  cases m with
  |none=>exact⟨none,hA,rfl⟩
  |some l=>obtain⟨b,h1,_⟩:=hA;simp_all
 obtain⟨o,rfl,ho'⟩:=this;exact Oa ho hd c.fr hx hy aJ (Jj ht o w) λfr hF=>h fr (c.to ai)
theorem Erg[DecidableEq κ]{q:κ}{r:β}{fit:κ->Bool}{zz:β}(c:Cx B N σ Γ Φ a w)(hl:Ava Γ Φ w (MO T v m))(hr:mgeto? fit zz m q=some r)(h:∀fr,Cx B N ((d,Rep.val β (Flat.enc r))::σ) Γ Φ fr w->wpFrom P ops Q (k+1) fr w)(hfit:T.fit=fit:=by rfl)(hzz:T.zero=zz:=by rfl)
  (ho:ops[k]? =some ⟨some d,.lookup t x y false,ty,pos,af,none⟩:=by rfl)(hd:Nat.blt d N=true:=by rfl)(ht:P.underlying t=some (.map K V):=by kernel_rfl)(hx:opd σ x=some v:=by kernel_rfl)(hy:opd σ y=some (Rep.val κ (Flat.enc q)):=by kernel_rfl):wpFrom P ops Q k a w:=by
 obtain⟨F,hl⟩:=c.use hl;subst hfit;subst hzz;cases m with
 |some l=>
  obtain⟨b,rfl,h1,h2⟩:=hl;have hs:Sep [MP T b l] w F:=Sep.of_ok (A:=F) ⟨h1,h2⟩;exact Gl T 0 hs rfl ht ho hd c.fr (u:=q) (mget?_fit hr) hx hy rfl (congrArg (λy=>Rep.val β (Flat.enc y)) (mget?_val hr)) λfr hF=>h fr (c.to hF)
 | none=>
  obtain rfl:v= .map none:=hl;have hrz:r=T.zero:=by
   simp_all[mgeto?,mget?]
  subst hrz;refine ZB c.fr ho rfl rfl (Bc.mp hd) (R:=λz w1=>z=Rep.val β (Flat.enc T.zero)/\w1=w) (Zg ?_ ⟨rfl,rfl⟩) λz w1 fr hz hF'=>?_
  ·have hkey:=T.key q (mget?_fit hr);have hck:=T.keyed.check w true hkey;have hfd:(Instr.findKey K (Rep.val κ (Flat.enc q)) []).run P w= .ok none w:=by
    rcases T.keyed.find w hkey [] (λe he=>by cases he)with h|⟨j,e,_,h,_⟩
    all_goals grind
   simp[execOp,Instr.lookup,Ze c.fr hx,Ze c.fr hy,run_underlying ht,hck,hfd,Result.andThen,T.hz]
  ·obtain⟨rfl,rfl⟩:=hz;exact h fr (c.to hF')
def Nmg2[DecidableEq κ]{ops:Array Oper}{pds:List Pd}{draw:Bool}{ms:List Nat}{j:Nat}{dst:Option Tmp}{g:Option (Nat×Bool)}{l:List (κ×β)}{b:Nat}{q:κ}{r:β×Bool}{u:Value}{fit:κ->Bool}{zz:β}{ty t:TypeId}{pos:String}{af:Array Edge}{x y:Operand}(i:Nat)(c:Cx B N σ Γ Φ a w)(hr:gc ops pds ops.size j->mget2? fit zz l q=some r)(hi:Γ[i]? =some (MP T b l):=by rfl)(hfit:T.fit=fit:=by rfl)(hzz:T.zero=zz:=by rfl)(hu: .tuple #[Rep.val β (Flat.enc r.1),.bool r.2]=u:=by rfl)
  (ho:ops[j]? =some ⟨dst,.lookup t x y true,ty,pos,af,g⟩:=by rfl)(ht:P.underlying t=some (.map K V):=by kernel_rfl)(hx:envP ops σ pds j x=some (.map (some b)):=by kernel_rfl)(hy:envP ops σ pds j y=some (Rep.val κ (Flat.enc q)):=by kernel_rfl)(hG:Good ops pds [])(hpd:pds.getD j .any= .eq u):NPB P draw ms ops pds a w Q j:=by
 obtain⟨S,F,hM,hs,hf⟩:=c.me;subst hfit;subst hzz;exact Lb T i hs hi ht hG c.fr ho hx hy rfl (λhg=>mget2?_fit (hr hg)) (λhg=>mget2?_val (hr hg)) hu hpd
end
def Nlt{P:Program}{B:Bs}{N:Nat}{σ:List (Nat×Value)}{Γ:List HP}{Φ:List RF}{a:Act}{w:World}{Q:Exit->Act->World->Prop}{ms:List Nat}{ops:Array Oper}{pds:List Pd}{j:Nat}{dst:Option Tmp}{g:Option (Nat×Bool)}{t ty:TypeId}{pos:String}{af:Array Edge}{ow:Nat->Nat}
  {α:Type}[Flat α]{E:TypeId}{n:Nat}{parts:Array (Nat×Operand)}(c:Cx B N σ Γ Φ a w)(l:List α)(ho:ops[j]? =some ⟨dst,.buildSlice t n parts,ty,pos,af,g⟩:=by rfl)(hln:l.length=n:=by rfl)(hmax:Nat.ble l.length room=true:=by rfl)
  (hv:parts.toList.map (λp=>envP ops σ pds j p.2)=(l.map λx=>Rep.val α (Flat.enc x)).map some:=by kernel_rfl)
  (hrun:∀w,(Instr.buildSlice t n ((parts.toList.map (·.1)).zip (l.map λx=>Rep.val α (Flat.enc x))).toArray).run P w= .ok (.slice (some ⟨w.heap.size,0,none⟩) n n) (w.alloc (.cells (l.map Flat.enc).flatten.toArray E)):=by intro _;kernel_rfl)(hG:Good ops pds [])(hpd:pds.getD j .any= .is λv w'=>∃i:Option Addr×Nat,v= .slice i.1 (List.length l) i.2/\(SL E (.slice i.1 (List.length l) i.2) l).ok w' (λk=>w.heap.size<=k/\k<w'.heap.size/\ow k=j)):NPO P ms ops pds a w Q ow j:=
 EZ (l.map Flat.enc).flatten (l.map Flat.enc) l hG c.fr ho _ hv hrun (λ_=>QJ _) rfl hln hmax hpd
def TBn(P:Program)(name:String)(k:IntKind)(zs:List Int):RF where
 ok w F:=TB P name k zs w F
 sub h hs:=h.sub hs
 chg h hc ht:=h.chg hc ht
abbrev TBf(P:Program):RF:=TBn P "internal/strconv.uint64pow10" .u64 Lib.pow10Tab
def Con.lib{P:Program}{f:FuncId}{args:List Value}{Φ:List RF}{v:Value}(h:∀(w:World)(F:Nat->Prop),AllF Φ w F->Calls P f args.toArray w λe w'=>e= .returned v/\Chg Non w w'):Con P f args [] Φ λ(_:Unit)=>([v],[],[]):=by
 intro w S F hs hF hS hf hd;refine(h w F hF).mono ?_;rintro e w' ⟨rfl,hc⟩;obtain⟨S',hM,hs'⟩:∃S',Mem w S F w' S' F/\Sep [] w' S':=⟨S,(Mem.start hS hf hd).ext hc,Sep.nil _ _⟩;exact⟨(),S',F,rfl,hM,hs',λ_ h=>by cases h⟩
section
variable{ρ α:Type}[Flat ρ][Rep α][RawOf ρ α]{w:World}{F:Nat->Prop}{v:Value}
omit[RawOf ρ α]in
theorem FL{cs cs':List Value}(ha:Rep.agg ρ=Rep.agg α)(hs:Rep.sz ρ=Rep.sz α)(hl:cs.length=Rep.sz ρ)(hl':cs'.length=Rep.sz α)(h:Rep.val ρ cs=Rep.val α cs'):cs=cs':=by
 unfold Rep.val at h;rw[<-ha]at h;cases hb:Rep.agg ρ with
 |true=>
  rw[hb]at h;simp only[CF,Value.agg.injEq]at h;simpa using congrArg Array.toList h
 | false=>
  rw[hb]at h;have h1:=Rep.sgl hb;simp only[Cn,Cy]at h;cases cs with
  |nil=>simp[h1]at hl
  | cons u us=>
   cases cs' with
   |nil=>rw[<-hs,h1]at hl';simp at hl'
   |cons u' us'=>
    rw[h1]at hl;rw[<-hs,h1]at hl';simp only[Bp,Nat.add_eq_right,BF]at hl hl';subst hl;subst hl';simpa using h
def Lj{q:ρ}{x:α}(h:RV w F (Rep.val ρ (Flat.enc q)) x):Rep.ok w F (Flat.enc q) x:=by
 obtain⟨cs,h1,h2⟩:=h;have:=FL (ρ:=ρ) (α:=α) (RawOf.agg) (RawOf.sz) (Rep.len (w:=w) (F:=F) (Flat.iff.2 rfl:Rep.ok w F (Flat.enc q) q)) (Rep.len h1) h2;simp_all
theorem Om{ad:Addr}:∀{xs:List α}{i:Nat},elems w F ad i xs->∃rs:List ρ,elems w F ad i rs/\Css w F (rs.map Flat.enc) xs
 |[],i,_=>⟨[],trivial,rfl,λi cs x h=>by simp at h⟩
 |x::xs,i,h=>by
  obtain⟨⟨cs,h1,h2⟩,h3⟩:=h;obtain⟨q,rfl⟩:=RawOf.ex (ρ:=ρ) h1;obtain⟨rs,g1,g2⟩:=Om h3;refine⟨q::rs,⟨⟨Flat.enc q,Flat.iff.2 rfl,by grind[RawOf.sz]⟩,g1⟩,by simp[g2.1],λj cs y hj hy=>?_⟩;cases j with
  |zero=>simp_all
  |succ j=>exact g2.2 j cs y ai ai
def Ps{xs:List α}(h:RV w F v xs):∃rs:List ρ,RV w F v rs/\Css w F (rs.map Flat.enc) xs:=by
 obtain⟨a,cp,rfl,h1,h2,h3⟩:=RV.slice h;by_cases hn:xs=[]
 ·subst hn;exact⟨[],RV.mk_slice (l:=([]:List ρ)) h1 h2 (λh=>absurd rfl h),rfl,λi cs x h=>by simp at h⟩
 ·obtain⟨ad,rfl,hF,he⟩:=h3 hn;obtain⟨rs,g1,g2⟩:=Om (ρ:=ρ) he;have hl:rs.length=xs.length:=by simpa using g2.1
  exact⟨rs,by rw[<-hl];exact RV.mk_slice O h2 (λ_=>⟨ad,rfl,hF,g1⟩),g2⟩
theorem Oi{ad:Addr}:∀{rs:List ρ}{xs:List α}{i:Nat},elems w F ad i rs->Css w F (rs.map Flat.enc) xs->elems w F ad i xs
 |[],[],_,_,_=>trivial
 |[],x::xs,_,_,h=>by have:=h.1;simp at this
 |q::rs,[],_,_,h=>by have:=h.1;simp at this
 |q::rs,x::xs,i,h,hc=>by
  obtain⟨⟨cs,h1,h2⟩,h3⟩:=h;obtain rfl:=Flat.iff.1 h1;refine⟨⟨_,hc.2 0 _ _ rfl rfl,by grind[RawOf.sz]⟩,Oi h3 ⟨by simpa using hc.1,λj cs y hj hy=>hc.2 (j+1) cs y ai ai⟩⟩
def Mc{rs:List ρ}{xs:List α}(h:RV w F v rs)(hc:Css w F (rs.map Flat.enc) xs):RV w F v xs:=by
 obtain⟨a,cp,rfl,h1,h2,h3⟩:=RV.slice h;have hl:rs.length=xs.length:=by simpa using hc.1
 rw[hl];refine RV.mk_slice O h2 λhn=>?_;obtain⟨ad,rfl,hF,he⟩:=h3 ar;exact⟨ad,rfl,hF,Oi he hc⟩
omit [RawOf ρ α]in
def FC{rs:List ρ}{xs:List α}{n:Nat}{q:ρ}{x:α}(hc:Css w F (rs.map Flat.enc) xs)(hq:Rep.ok w F (Flat.enc q) x):Css w F ((rs.set n q).map Flat.enc) (xs.set n x):=by
 refine⟨by simpa using hc.1,λi cs y hi hy=>?_⟩;rw[Bt,AV]at hi;rw[AV]at hy;have hl:rs.length=xs.length:=by simpa using hc.1
 by_cases e:n=i
 ·subst e;by_cases hlt:n<rs.length
  ·simp only[CF,hlt,CJ,Option.some.injEq]at hi;rw[hl]at hlt;simp only[CF,hlt,Option.some.injEq]at hy;subst hi;subst hy;exact hq
  ·simp[hlt]at hi
 ·rw[Cu e]at hi hy;exact hc.2 i cs y (by rw[Bt];exact hi) hy
omit [RawOf ρ α]in
def Pt{rs rs':List ρ}{xs xs':List α}(hc:Css w F (rs.map Flat.enc) xs)(hc':Css w F (rs'.map Flat.enc) xs'):Css w F ((rs++rs').map Flat.enc) (xs++xs'):=by
 have hl:rs.length=xs.length:=by simpa using hc.1
 refine⟨by simp[hl,(show rs'.length=xs'.length by simpa using hc'.1)],λi cs y hi hy=>?_⟩;rw[Za2,Ay,List.length_map]at hi;rw[Ay,<-hl]at hy;split at hi
 ·rename_i h;rw[Cr h]at hy;exact hc.2 i cs y hi hy
 ·rename_i h;rw[Cu h]at hy;exact hc'.2 _ cs y hi hy
omit [RawOf ρ α]in
def FD{n:Nat}{q:ρ}{x:α}(hq:Rep.ok w F (Flat.enc q) x):Css w F ((List.replicate n q).map Flat.enc) (List.replicate n x):=
 ⟨by simp,λi cs y hi hy=>by
  rw[Bt,BU]at hi;rw[BU]at hy;split at hi
  ·rename_i h;rw[Cr h]at hy;simp only[CJ,Option.some.injEq]at hi hy;subst hi;subst hy;exact hq
  ·cases hi⟩
end
section
variable{ρ α:Type}[Flat ρ][Rep α]
def LitA(Φ:List RF)(w:World):List ρ->List α->Prop
 |[],[]=>True
 |q::rs,x::xs=>Ava [] Φ w (RO (Rep.val ρ (Flat.enc q)) x)/\LitA Φ w rs xs
 |_,_=>False
theorem LitA.css[RawOf ρ α]{Φ:List RF}{w:World}{F:Nat->Prop}(hf:AllF Φ w F):∀{rs:List ρ}{xs:List α},LitA Φ w rs xs->Css w F (rs.map Flat.enc) xs
 |[],[],_=>⟨rfl,λi cs x h=>by simp at h⟩
 |[],_::_,h=>h.elim
 |_::_,[],h=>h.elim
 |q::rs,x::xs,h=>by
  have h2:=LitA.css hf h.2;refine⟨by simpa using h2.1,λi cs y hi hy=>?_⟩;cases i with
  |zero=>simp only[Bn,BA,Option.some.injEq]at hi hy;subst hi;subst hy;exact Lj (h.1.ro hf)
  |succ i=>exact h2.2 i cs y ai ai
variable{P:Program}{B:Bs}{N:Nat}{σ:List (Nat×Value)}{Γ:List HP}{Φ:List RF}{a:Act}{w:World}{Q:Exit->Act->World->Prop}
  {ops:Array Oper}{k d d2:Nat}{t t' ty ty':TypeId}{pos pos':String}{af af':Array Edge}{x y z:Operand}{E:TypeId}{v u:Value}{rs:List ρ}{xs ms r:List α}
def Cx.csn(c:Cx B N σ Γ Φ a w):Cx B N σ Γ (Φ++[CS ([]:List ρ) ([]:List α)]) a w:=c.fad λF _=>⟨rfl,λi cs x h=>by simp at h⟩
def Cx.relenr{b:Option Addr}{n cp:Nat}(i j:Nat)(c:Cx B N σ Γ Φ a w)(hi:Γ[i]? =some (SL E (.slice b n cp) rs):=by rfl)(hj:Φ[j]? =some (CS rs xs):=by rfl):n=xs.length/\Cx B N σ (Γ.set i (SL E (.slice b xs.length cp) rs)) Φ a w:=by
 obtain⟨he,c⟩:=c.relen i hi;obtain⟨F,h⟩:=c.use (Ava.f j hj);have hl:rs.length=xs.length:=by simpa using h.1
 simp_all
def Cx.fzr[RawOf ρ α](i j:Nat)(c:Cx B N σ Γ Φ a w)(hi:Γ[i]? =some (SL E v rs):=by rfl)(hj:Φ[j]? =some (CS rs xs):=by rfl):Cx B N σ (rest [i] Γ) (Φ++[RO v xs]) a w:=by
 obtain⟨h,S,F,h1,h2,h3⟩:=c;have hp:=h2.part [i] (Γ1:=[SL E v rs]) aH U;obtain⟨S',F',hM,hs,hr,hfz⟩:=Sep.freeze (L:=rest [i] Γ) hp h1;have h3':=h3.sub (F':=F') λk _ hk=>hfz k hk;exact⟨h,S',F',hM,hs,h3'.add (Mc (SL.rv hr) (h3'.get hj))⟩
def Emkr{n:Int}{zx:α}(E:TypeId)(zr:ρ)(hzr:∀(w:World)(F:Nat->Prop),Rep.ok w F (Flat.enc zr) zx)(c:Cx B N σ Γ Φ a w)(hr:mk? n zx=some r)
  (h:∀a' c' fr w',Cx B N ((d,.slice a' r.length c')::σ) (Γ++[SL E (.slice a' r.length c') (List.replicate r.length zr)]) (Φ++[CS (List.replicate r.length zr) r]) fr w'->wpFrom P ops Q (k+1) fr w')
  (ho:ops[k]? =some ⟨some d,.makeSlice t x y,ty,pos,af,none⟩:=by rfl)(hd:Nat.blt d N=true:=by rfl)(he:ElT P E ρ:=by refine elT ?_;kernel_rfl)(ht:P.underlying t=some (.slice E):=by kernel_rfl)
  (hz:(P.info? E).map (λi=>i.zero.map λz=>z.cells.toList)=some (some (Flat.enc zr)):=by kernel_rfl)(hx:opd σ x=some (.int .i64 n):=by kernel_rfl)(hy:opd σ y=some (.int .i64 n):=by kernel_rfl):wpFrom P ops Q k a w:=by
 obtain⟨h1,h2⟩:=mk?_raw (z':=zr) hr;refine Emk (r:=List.replicate r.length zr) E c h1 (λa' c' fr w' c=>?_) ho hd he ht hz hx hy;have c:=c.fad (Rf:=CS (List.replicate r.length zr) r) λF _=>by
  have:=FD (n:=r.length) (hzr w' F);rw[<-h2]at this;exact this
 grind
def Eltr[RawOf ρ α]{n:Nat}{parts:Array (Nat×Operand)}(E:TypeId)(rs:List ρ)(xs:List α)(c:Cx B N σ Γ Φ a w)(hx:LitA Φ w rs xs)
  (h:∀a' c' fr w',Cx B N ((d,.slice a' xs.length c')::σ) (Γ++[SL E (.slice a' xs.length c') rs]) (Φ++[CS rs xs]) fr w'->wpFrom P ops Q (k+1) fr w')
  (ho:ops[k]? =some ⟨some d,.buildSlice t n parts,ty,pos,af,none⟩:=by rfl)(hd:Nat.blt d N=true:=by rfl)(hln:rs.length=n:=by rfl)(hmax:Nat.ble rs.length room=true:=by rfl)
  (hv:parts.toList.map (λp=>opd σ p.2)=(rs.map λx=>Rep.val ρ (Flat.enc x)).map some:=by kernel_rfl)
  (hrun:∀w,(Instr.buildSlice t n ((parts.toList.map (·.1)).zip (rs.map λx=>Rep.val ρ (Flat.enc x))).toArray).run P w= .ok (.slice (some ⟨w.heap.size,0,none⟩) n n) (w.alloc (.cells (rs.map Flat.enc).flatten.toArray E)):=by intro _;kernel_rfl):wpFrom P ops Q k a w:=by
 have c:=c.fad (Rf:=CS rs xs) λF hf=>hx.css hf;have hl:rs.length=xs.length:=by
  obtain⟨_,_,_,_,_,hf⟩:=c;simpa using(hf (CS rs xs) (CQ.2 (.inr (CB.2 rfl)))).1
 refine Elt E rs c (λa' c' fr w' c=>?_) ho hd hln hmax hv hrun;grind
def Esetr[RawOf ρ α]{n:Int}{q:ρ}{e:α}(i j:Nat)(c:Cx B N σ Γ Φ a w)(hx:Ava [] Φ w (RO (Rep.val ρ (Flat.enc q)) e))(hr:set? xs n e=some r)
  (h:∀p fr w',Cx B N ((d,p)::σ) (Γ.set i (SL E v (rs.set n.toNat q))) (Φ++[CS (rs.set n.toNat q) r]) fr w'->wpFrom P ops Q (k+2) fr w')(hi:Γ[i]? =some (SL E v rs):=by rfl)(hj:Φ[j]? =some (CS rs xs):=by rfl)
  (ho:ops[k]? =some ⟨some d,.indexAddr t x y,ty,pos,af,none⟩:=by rfl)(ho':ops[k+1]? =some ⟨none,.store t' (.tmp d) z,ty',pos',af',none⟩:=by rfl)(hte:t'=E:=by rfl)(hd:Nat.blt d N=true:=by rfl)(hz:z≠ .tmp d:=by simp)
  (he:Ty P E ρ:=by constructor<;>kernel_rfl)(ht:P.underlying t=some (.slice E):=by kernel_rfl)(hxv:opd σ x=some v:=by kernel_rfl)(hy:numOf (opd σ y)=some n:=by kernel_rfl)(hq:opd σ z=some (Rep.val ρ (Flat.enc q)):=by kernel_rfl):wpFrom P ops Q k a w:=by
 obtain⟨F0,h0⟩:=c.use (Ava.f j hj);have hl:rs.length=xs.length:=by simpa using h0.1
 obtain⟨h1,h2,h3⟩:=set?_raw q hr hl;have c:=c.fad (Rf:=CS (rs.set n.toNat q) r) λF hf=>by
  rw[h2];exact FC (hf.get hj) (Lj (hx.ro hf))
 grind[Eset]
def Eapr[RawOf ρ α](i j:Nat)(c:Cx B N σ Γ Φ a w)(hu:Ava [] Φ w (RO u ms))(hr:app? xs ms=some r)
  (h:∀(rm:List ρ)a' c' fr w',Cx B N ((d,.slice a' r.length c')::σ) (Γ.set i (SL E (.slice a' r.length c') (rs++rm))) (Φ++[CS (rs++rm) r]) fr w'->wpFrom P ops Q (k+1) fr w')(hi:Γ[i]? =some (SL E v rs):=by rfl)(hj:Φ[j]? =some (CS rs xs):=by rfl)
  (ho:ops[k]? =some ⟨some d,.call ⟨.builtin .append,#[x,y],#[t,t']⟩,ty,pos,af,none⟩:=by rfl)(htt:t'=t:=by rfl)(hd:Nat.blt d N=true:=by rfl)(he:ElT P E ρ:=by refine elT ?_;kernel_rfl)(ht:P.underlying t=some (.slice E):=by kernel_rfl)
  (hx:opd σ x=some v:=by kernel_rfl)(hy:opd σ y=some u:=by kernel_rfl):wpFrom P ops Q k a w:=by
 obtain⟨hF,S,F,hM,hs,hf⟩:=c;obtain⟨rm,g1,g2⟩:=Ps (ρ:=ρ) (hu.ro hf);have hc:=Pt (hf.get hj) g2;have hl:rs.length=xs.length:=by simpa using(hf.get hj).1
 have hl':rm.length=ms.length:=by simpa using g2.1
 obtain⟨h1,h2⟩:=app?_raw (l':=rs) (m':=rm) hr hl hl';rw[<-h2]at hc;have c:Cx B N σ Γ (Φ++[RO u rm]++[CS (rs++rm) r]) a w:=⟨hF,S,F,hM,hs,(hf.add (R:=RO u rm) g1).add (R:=CS (rs++rm) r) hc⟩;have hlen:(rs++rm).length=r.length:=by simp_all
 refine Eap i c (Ava.f Φ.length U) h1 (λa' c' fr w' c=>?_) hi ho htt hd he ht hx hy;rw[hlen]at c;refine h rm a' c' fr w' ?_;obtain⟨q1,q2,q3,q4,q5,q6⟩:=c;exact⟨q1,q2,q3,q4,q5,λR hR=>q6 R ((CQ.1 hR).elim (λh=>CQ.2 (.inl (CQ.2 (.inl h)))) λh=>CQ.2 (.inr h))⟩
end
def Opens(P:Program)(t:TypeId)(α:Type)[Rep α](fit:α->Prop):Prop:=
 ∀(H:Type)(enc:TypeId×Value->H)(w:World)(base:Nat)(spare:Nat->Bool)(held:Bool)(fuel:Nat)(cs:List Value)(x:DataW H×List MemPlace),
  DataW.trod enc P w base spare held fuel t cs=some x->∃a:α,Rep.ok w (λk=>k<w.heap.size) cs a/\fit a
section
variable{P:Program}{t e:TypeId}
def JF(ht:P.underlying t=some (.int .u8)):Opens P t Byt fitByt:=by
 intro H enc w base spare held fuel cs x h;obtain⟨n,rfl,-,hn⟩:=DataW.trod_int ht h;refine⟨⟨n⟩,rfl,?_⟩;simp only[Lit.wf,Co,Cw]at hn;exact hn
theorem Ke{α:Type}{p:Nat->α->Prop}:∀n,(∀i,i<n->∃y,p i y)->∃l:List α,l.length=n/\∀i y,l[i]? =some y->p i y
 |0,_=>⟨[],rfl,by simp⟩
 | n+1,h=>by
  obtain⟨l,hl,hp⟩:=Ke n λi hi=>h i O;obtain⟨y,hy⟩:=h n O;refine⟨l++[y],by simp[hl],λi z hz=>?_⟩;rw[Ay]at hz;split at hz
  ·exact hp i z hz
  ·have:i=n:=by
    rcases Al (i-l.length) 1 with h1|h1
    ·omega
    ·rw[Bu (by simpa using h1)]at hz;cases hz
   subst this;rw[hl,AJ]at hz;simp only[BA,Option.some.injEq]at hz;subst hz;exact hy
def Lt{α:Type}[Rep α]{fit:α->Prop}(ht:P.underlying t=some (.slice e))(hs:P.cellsOf e=Rep.sz α)(he:Opens P e α fit):Opens P t (List α) (fitList fit):=by
 intro H enc w base spare held fuel cs x h;rcases DataW.trod_slice ht h with⟨rfl,_⟩|⟨a,len,cap,elems',rest,n,rfl,rfl,_,hb,hl,hc,hlen,hel,_⟩
 ·exact⟨[],⟨none,0,rfl,CK _,BP _,λh=>absurd rfl h⟩,BP _,by simp⟩
 ·have key:∀i,i<len->∃y:α,(∃cs',Rep.ok w (λk=>k<w.heap.size) cs' y/\Cells w (a.add (i*Rep.sz α)) cs')/\fit y:=by
   intro i hi;have h1:=hel i hi;obtain⟨z,hz⟩:∃z,elems'[i]? =some z:=⟨_,Cv O⟩;rw[hz,Bz]at h1;obtain⟨cs',hc1,hc2⟩:=h1;obtain⟨y,hy,hf⟩:=he _ _ _ _ _ _ _ _ _ hc2;obtain⟨_,hl1,hc3⟩:=World.cells?_some hc1;refine⟨y,⟨cs',hy,λj u hu=>?_⟩,hf⟩;have hj:j<cs'.length:=(CG.1 hu).1;rw[<-hs,hc3 j O];exact hu
  obtain⟨l,hll,hp⟩:=Ke len key;have hE:elems w (λk=>k<w.heap.size) a 0 l:=SI λi x hx=>by rw[Zao];exact(hp i x hx).1
  refine⟨l,⟨some a,cap,by rw[hll],by omega,hc,λhne=>⟨a,rfl,?_,hE⟩⟩,by show l.length<=maxLen;omega,λx hx=>?_⟩
  ·exact NM hE hne
  ·obtain⟨i,hi⟩:=Aq.1 hx;exact(hp i x hi).2
def open_list{H:Type}{enc:TypeId×Value->H}{w:World}{base:Nat}{spare:Nat->Bool}{held:Bool}{v:Value}{d:DataW H}{ps:List MemPlace}{α:Type}[Rep α]{fit:List α->Prop}{r:Reach}{b:Nat}
  (ht:P.underlying t=some (.slice e))(hop:Opens P t (List α) fit)(hv:Value.okWide P w r b t v)(h:DataW.Trod enc P w base spare held t v d ps):∃a:List α,RV w (λk=>k<w.heap.size) v a/\fit a:=by
 obtain⟨a',l',c',rfl⟩:=WideShapes.okWide_slice ht hv;obtain⟨fuel,hf⟩:=h;obtain⟨a,h1,h2⟩:=hop _ _ _ _ _ _ _ _ _ hf;exact⟨a,⟨_,h1,rfl⟩,h2⟩
end
end Go.GL
end
section
namespace Go.GL
def Zf{x:Int}(h1:-9223372036854775808<=x:=by omega)(h2:x<=9223372036854775807:=by omega):w64 x=x:=by
 unfold w64;rw[IntKind.wrap_i64];omega
def ifn{c:Prop}[Decidable c]{α:Sort _}{x y:α}(h:¬c:=by first|omega|decide|simp):ite c x y=y:=Cu h
def ifp{c:Prop}[Decidable c]{α:Sort _}{x y:α}(h:c:=by first|omega|decide|simp):ite c x y=x:=Cr h
def Zb{α:Type}(l:List α):len l=(l.length:Int):=rfl
def get?_nat{α:Type}{l:List α}{i:Nat}:get? l (i:Int)=l[i]?:=by
 unfold get?;rw[Cr O];rfl
def set?_nat{α:Type}{l:List α}{i:Nat}{x:α}(h:i<l.length):set? l (i:Int) x=some (l.set i x):=by
 unfold set?;rw[Cr ⟨by omega,by simpa using h⟩];rfl
def mk?_len{α β:Type}{l:List α}{z:β}(h:l.length<=room):mk? (len l) z=some (List.replicate l.length z):=by
 unfold mk?;rw[Zb,Cr ⟨by omega,by simpa using h⟩];rfl
end Go.GL
namespace Go.GL
def pre{α:Type}(f:Nat->α)(p:List α)(i:Nat):List α:=(List.range i).map f++p.drop i
end Go.GL
end
section
namespace Go.GL
open Go.RowKit
def OpensN(P:Program)(m:Nat)(t:TypeId)(α:Type)[Rep α](fit:α->Prop):Prop:=
 ∀(H:Type)(enc:TypeId×Value->H)(w:World)(base:Nat)(spare:Nat->Bool)(held:Bool)(fuel:Nat)(cs:List Value)(x:DataW H×List MemPlace),
  fuel<=m->DataW.trod enc P w base spare held fuel t cs=some x->∃a:α,Rep.ok w (λk=>k<w.heap.size) cs a/\fit a
section
variable{P:Program}{t e:TypeId}
def Opens.N{α:Type}[Rep α]{fit:α->Prop}{m:Nat}(h:Opens P t α fit):OpensN P m t α fit:=λH enc w base spare held fuel cs x _ hx=>h H enc w base spare held fuel cs x hx
end
def Con.law{P:Program}{f:FuncId}{args:List Value}{Φ:List RF}{r:Bool}{w:World}{F:Nat->Prop}(hc:Con P f args [] Φ λ(_:Unit)=>([.bool r],[],[]))(hF:AllF Φ w F)(hl:∀k,F k->k<w.heap.size):
  Calls P f args.toArray w λe w'=>∃v,e= .returned v/\v= .bool r/\Chg Non w w':=by
 refine(hc w Non F (Sep.nil _ _) hF (λ_ h=>h.elim) hl (λ_ h=>h.elim)).mono ?_;rintro e w'' ⟨i,S',F',rfl,hM',_,_⟩;exact⟨_,rfl,rfl,hM'.chg⟩
def Bd{α β:Type}{e:Option α}{f:α->Option β}{r:β}{G:Prop}(h:e.bind f=some r)(k:∀x,e=some x->f x=some r->G):G:=by
 obtain⟨x,h1,h2⟩:=bindE h;simp_all
def sj{α:Type}{a b:α}(h:some a=some b):a=b:=Option.some.inj h
def kN{p q:Prop}(h:p):q->p:=λ_=>h
section
variable{P:Program}{B:Bs}{N:Nat}{σ:List (Nat×Value)}{Γ:List HP}{Φ:List RF}{a:Act}{w:World}{K:Act->World->Prop}{Q:Exit->Act->World->Prop}{ops:Array Oper}{pds:List Pd}{j:Nat}
def gT{β:Type}{X Y r:β}{g':Nat}{b:Bool}(h:(if b=true then X else Y)=r)(hgd:guardOf ops j=some (g',true):=by rfl)(hn:∃n,ops.size=n+1:=by exact⟨_,rfl⟩)(hp:(pds.getD g' .any).val? =some (.bool b):=by kernel_rfl)(hg:gc ops pds ops.size j):X=r:=iteT (gcT hg hgd hn hp) h
def gF{β:Type}{X Y r:β}{g':Nat}{b:Bool}(h:(if b=true then X else Y)=r)(hgd:guardOf ops j=some (g',false):=by rfl)(hn:∃n,ops.size=n+1:=by exact⟨_,rfl⟩)(hp:(pds.getD g' .any).val? =some (.bool b):=by kernel_rfl)(hg:gc ops pds ops.size j):Y=r:=iteF (gcF hg hgd hn hp) h
def ZK{np:Pd}{ms:List Nat}(ow:Nat->Nat)(h:Good ops pds []->pds.getD j .any=np.inst ow->NPB P true ms ops pds a w Q j)(hG:Good ops pds [])(e:pds.getD j .any=np.inst ow):NPO P ms ops pds a w Q ow j:=ED ow (h hG e)
theorem AllP.and{α:Type}{p:Prop}{q:α->Prop}:∀{l:List α},AllP (λx=>p->q x) l->p->AllP q l
 |[],_,_=>trivial
 |_::_,h,hp=>⟨h.1 hp,h.2.and hp⟩
def rZ{id:Nat}{draw:Bool}(np:List (Nat×Pd))(hs:List (Nat×Nat))(hmix:P.follows .mixedOrders=true)(c:Cx B N σ Γ Φ a w)
  (hnp:AllP (λp=>Good ops (pdsM P (bxsOf Γ Φ) hs ops σ np ops.size) []->(pdsM P (bxsOf Γ Φ) hs ops σ np ops.size).getD p.1 .any=p.2->NPB P draw (cond draw (masksN ops ops.size) []) ops (pdsM P (bxsOf Γ Φ) hs ops σ np ops.size) a w (Exit.then K Q) p.1) np)
  (h:∀fr w',Cx B N (outS ops σ (pdsM P (bxsOf Γ Φ) hs ops σ np ops.size) ops.size) Γ Φ fr w'->K fr w')
  (hmono:AllP (λp=>p.2.Mono Non) np:=by repeat(first|exact trivial|refine⟨by first|exact Pd.mono_eq|exact elM|exact flM|exact rdM|exact OB,?_⟩))
  (hst:(stat draw (cond draw (masksN ops ops.size) []) ops [] N&&statG ops (pdsM P (bxsOf Γ Φ) hs ops σ np ops.size) [])=true:=by kernel_rfl)
  (h1:(freeI np ops.size).map (λj=>(pureB P (bxsOf Γ Φ) hs ops σ (pdsM P (bxsOf Γ Φ) hs ops σ np ops.size) j).map (·.1))=(freeI np ops.size).map λj=>((pdsM P (bxsOf Γ Φ) hs ops σ np ops.size).getD j .any).val?:=by kernel_rfl)
  (h2:((freeI np ops.size).all λj=>((pdsM P (bxsOf Γ Φ) hs ops σ np ops.size).getD j .any).val?.isSome)=true:=by kernel_rfl)
  (h3:(freeI np ops.size).map (λj=>(pureB P (bxsOf Γ Φ) hs ops σ (pdsM P (bxsOf Γ Φ) hs ops σ np ops.size) j).map λr=>r.2.map (·.1))=(freeI np ops.size).map λj=>(pureB P (bxsOf Γ Φ) hs ops σ (pdsM P (bxsOf Γ Φ) hs ops σ np ops.size) j).map λr=>r.2.map (·.2):=by kernel_rfl):
  (Code.region id ops draw).wp P (Exit.then K Q) a w:=Rz np hs hmix c hmono (λhG=>hnp.and hG) h hst h1 h2 h3
def rM(m:Nat)(np:List (Nat×Pd))(hs:List (Nat×Nat))(c:Cx B N σ Γ Φ a w)
  (hnp:∀ow,AllP (λp=>Good ops (instL ow (pdsM P (bxsOf Γ Φ) hs ops σ np m)) []->(instL ow (pdsM P (bxsOf Γ Φ) hs ops σ np m)).getD p.1 .any=p.2.inst ow->NPO P (masksN ops ops.size) ops (instL ow (pdsM P (bxsOf Γ Φ) hs ops σ np m)) a w Q ow p.1) np)
  (h:∀ow fr w',EndM ops (TT ops (instL ow (pdsM P (bxsOf Γ Φ) hs ops σ np m))) a m fr w'->Chg Non w w'->Cx B N (outS ops σ (pdsM P (bxsOf Γ Φ) hs ops σ np m) m) Γ Φ fr w'->wpFrom P ops Q m fr w')
  (hmono:AllP (λp=>p.2.MonoO) np:=by repeat(first|exact trivial|refine⟨by first|exact Pd.monoO_eq|exact elO|exact nwM|exact flO|exact rdO|exact Pd.monoO_is OB,?_⟩))
  (hst:(stat true (masksN ops ops.size) ops [] N&&statG ops (pdsM P (bxsOf Γ Φ) hs ops σ np m) []&&sufB ops m)=true:=by kernel_rfl)
  (h1:(freeI np m).map (λj=>(pureB P (bxsOf Γ Φ) hs ops σ (pdsM P (bxsOf Γ Φ) hs ops σ np m) j).map (·.1))=(freeI np m).map λj=>((pdsM P (bxsOf Γ Φ) hs ops σ np m).getD j .any).val?:=by kernel_rfl)
  (h2:((freeI np m).all λj=>((pdsM P (bxsOf Γ Φ) hs ops σ np m).getD j .any).val?.isSome)=true:=by kernel_rfl)
  (h3:(freeI np m).map (λj=>(pureB P (bxsOf Γ Φ) hs ops σ (pdsM P (bxsOf Γ Φ) hs ops σ np m) j).map λr=>r.2.map (·.1))=(freeI np m).map λj=>(pureB P (bxsOf Γ Φ) hs ops σ (pdsM P (bxsOf Γ Φ) hs ops σ np m) j).map λr=>r.2.map (·.2):=by kernel_rfl):
  RA P ops Q a w:=Rm m np hs c hmono (λow hG=>(hnp ow).and hG) h hst h1 h2 h3
def EA(α:Type)[Rep α](v:Value)(n:Int)(p:Addr)(u:Value):RF where
 ok w F:=(∃ad len cap,v= .slice (some ad) len cap/\p=ad.add (n.toNat*Rep.sz α)/\0<=n/\n<(len:Int))/\∃cs,u=Rep.val α cs/\cs.length=Rep.sz α/\Cells w p cs/\F p.block/\p.block<w.heap.size
 sub h hs:=⟨h.1,h.2.imp λ_ h=>⟨h.1,h.2.1,h.2.2.1,hs _ h.2.2.2.2 h.2.2.2.1,h.2.2.2.2⟩⟩
 chg h hc ht:=⟨h.1,h.2.imp λ_ h=>⟨h.1,h.2.1,h.2.2.1.keep λ_=>hc.block _ h.2.2.2.2 (ht _ h.2.2.2.1),h.2.2.2.1,CE h.2.2.2.2 hc.size⟩⟩
def Cx.elp{α:Type}[Rep α]{v:Value}{l:List α}{n:Int}{x:α}(c:Cx B N σ Γ Φ a w)(hl:Ava [] Φ w (RO v l))(hx:get? l n=some x):∃p u,Cx B N σ Γ (Φ++[EA α v n p u,RO u x]) a w:=by
 obtain⟨hF,S,F,h1,h2,h3⟩:=c;have hr:RV w F v l:=hl.ro h3;obtain⟨b,cap,rfl,g1,g2,g3⟩:=hr.slice;have hn:=get?_nn hx;have hat:=get?_at hx;have hlt:n.toNat<l.length:=(CG.1 hat).1;obtain⟨ad,rfl,hFb,hel⟩:=g3 ar;obtain⟨cs,hok,hc⟩:=Tu hel hat;have hc:Cells w (ad.add (n.toNat*Rep.sz α)) cs:=by simp_all
 have hne:cs≠[]:=by
  have h4:=Rep.len hok;grind[Rep.pos]
 have hb:(ad.add (n.toNat*Rep.sz α)).block<w.heap.size:=hc.lt hne;exact⟨ad.add (n.toNat*Rep.sz α),Rep.val α cs,hF,S,F,h1,h2,h3.join (AllF.of [EA α _ n _ _,RO _ x] ⟨⟨⟨ad,_,_,rfl,rfl,hn,by omega⟩,cs,rfl,Rep.len hok,hc,by simp_all[add_block],hb⟩,⟨cs,hok,rfl⟩,trivial⟩)⟩
def Nie{draw:Bool}{ms:List Nat}{dst:Option Tmp}{t ty:TypeId}{pos:String}{af:Array Edge}{g:Option (Nat×Bool)}{x y:Operand}{α:Type}[Rep α]{e:TypeId}{v u:Value}{n:Int}{p:Addr}(c:Cx B N σ Γ Φ a w)(k:Nat)(hk:Φ[k]? =some (EA α v n p u):=by rfl)
  (ho:ops[j]? =some ⟨dst,.indexAddr t x y,ty,pos,af,g⟩:=by rfl)(ht:P.underlying t=some (.slice e):=by rfl)(he:Ty P e α:=by constructor<;>kernel_rfl)(hx:envP ops σ pds j x=some v:=by kernel_rfl)(hy:numOf (envP ops σ pds j y)=some n:=by kernel_rfl)(hG:Good ops pds [])(hpd:pds.getD j .any= .eq (.pointer (some p))):NPB P draw ms ops pds a w Q j:=by
 obtain⟨F,⟨ad,len,cap,rfl,rfl,hn,hlt⟩,_⟩:=c.use (Ava.f k hk);obtain⟨kd,hy⟩:=Yp hy;refine Tx _ ho hG c.fr λa' w' _ hg hv _=>?_;have h1:=hv x _ ae hx;have h2:=hv y _ ae hy;refine Zg (v:=.pointer (some (ad.add (n.toNat*Rep.sz α)))) (w':=w') ?_ ak;simp[execOp,Instr.indexAt,h1,h2,asIntOf,run_underlying ht,hn,hlt,he.sizeOf]
def Nle{draw:Bool}{ms:List Nat}{dst:Option Tmp}{t ty:TypeId}{pos:String}{af:Array Edge}{g:Option (Nat×Bool)}{x:Operand}{α:Type}[Rep α]{v u:Value}{n:Int}{p:Addr}(c:Cx B N σ Γ Φ a w)(k:Nat)(hk:Φ[k]? =some (EA α v n p u):=by rfl)
  (ho:ops[j]? =some ⟨dst,.load t x,ty,pos,af,g⟩:=by rfl)(ht:Ty P t α:=by constructor<;>kernel_rfl)(hx:envP ops σ pds j x=some (.pointer (some p)):=by kernel_rfl)(hG:Good ops pds [])(hpd:pds.getD j .any= .eq u):NPB P draw ms ops pds a w Q j:=by
 obtain⟨F,_,cs,rfl,hl,hc,_⟩:=c.use (Ava.f k hk);refine Tx _ ho hG c.fr λa' w' hC hg hv _=>?_;have h1:=hv x _ ae hx;refine Zg (v:=Rep.val α cs) (w':=w') ?_ ak;simp[execOp,Instr.loadAt,h1,Instr.sureAddr,YT ht hl (hc.ext hC)]
theorem Nlc{draw:Bool}{ms:List Nat}{dst:Option Tmp}{t ty:TypeId}{pos:String}{af:Array Edge}{g:Option (Nat×Bool)}{x:Operand}{α:Type}[Rep α]{v u z:Value}{n:Int}{p:Addr}(c:Cx B N σ Γ Φ a w)(k off:Nat)(hk:Φ[k]? =some (EA α v n p u):=by rfl)(hz:u.cells.toList[off]? =some z:=by rfl)(hag:Rep.agg α=true:=by rfl)
  (ho:ops[j]? =some ⟨dst,.load t x,ty,pos,af,g⟩:=by rfl)(ht:Ty P t Int:=by constructor<;>kernel_rfl)(hx:envP ops σ pds j x=some (.pointer (some (p.add off))):=by kernel_rfl)(hG:Good ops pds [])(hpd:pds.getD j .any= .eq z):NPB P draw ms ops pds a w Q j:=by
 obtain⟨F,_,cs,rfl,hl,hc,_⟩:=c.use (Ava.f k hk);have hz':cs[off]? =some z:=by
  simp_all[Rep.val,Cr,Value.cells]
 have hc1:Cells w (p.add off) [z]:=λi q' hq=>by
  cases i with
  |zero=>
   simp only[BA,Option.some.injEq]at hq;subst hq;exact hc off z hz'
  |succ i=>simp at hq
 refine Tx _ ho hG c.fr λa' w' hC hg hv _=>?_;have h1:=hv x _ ae hx;refine Zg (v:=z) (w':=w') ?_ ak;have:=YT ht (cs:=[z]) rfl (hc1.ext hC);have hv':Rep.val Int [z]=z:=rfl;simp_all[execOp,Instr.loadAt,Instr.sureAddr]
def Cx.csl{ρ α:Type}[Flat ρ][Rep α][RawOf ρ α](rs:List ρ)(xs:List α)(c:Cx B N σ Γ Φ a w)(hx:LitA Φ w rs xs):Cx B N σ Γ (Φ++[CS rs xs]) a w:=c.fad (Rf:=CS rs xs) λF hf=>hx.css hf
def Cx.rk{σ':List (Nat×Value)}{Γ':List HP}{Φ':List RF}(c:Cx B N σ Γ Φ a w)(gs fs:List Nat)(hg:gs.map (λi=>Γ[i]?)=Γ'.map some:=by kernel_rfl)(hf:fs.map (λi=>Φ[i]?)=Φ'.map some:=by kernel_rfl)
  (hn:gs.Nodup:=by decide)(hσ:σ'.map (λp=>σ.lookup p.1)=σ'.map λp=>some p.2:=by kernel_rfl):Cx B N σ' Γ' Φ' a w:=c.re gs fs hg hf hn hσ
def Jn{x:Code}{ι:Type}(J:ι->Lpt)(c:Cx B N σ Γ Φ a w)(h1:x.wp P (λe a' w'=>e= .normal/\∃i,CxL B N Γ Φ (J i) a' w') a w)(h2:∀i a' w',CxL B N Γ Φ (J i) a' w'->K a' w'):x.wp P (Exit.then K Q) a w:=
 wp_mono h1 λe a' w'⟨he,i,hi⟩=>by subst he;exact h2 i a' w' hi
theorem Jr{x:Code}{ρ1 ρ2 κ:Type}{F:Option (ρ1⊕ρ2)}{r:ρ1⊕ρ2}(M:ρ1->κ->Lpt)(hit:F=some r)(c:Cx B N σ Γ Φ a w)(h1:F=some r->x.wp P (Exit.then (λa' w'=>∃s k,r= .inl s/\CxL B N Γ Φ (M s k) a' w') Q) a w)(cont:∀s k a' w',r= .inl s->CxL B N Γ Φ (M s k) a' w'->K a' w'):x.wp P (Exit.then K Q) a w:=
 wp_mono (h1 hit) λe a' w' he=>by
  cases e with
  |normal=>obtain⟨s,k,h1,h⟩:=he;exact cont s k a' w' h1 h
  |_=>exact he
def Dg{ι:Type}{L:Array Bool}{fuel0:Nat}{a0:Act}{w0:World}(J:ι->Lpt)(fuel:Nat)(m:Array Bool)(c:Cx B N σ Γ Φ a0 w0)(hx:∀i a w,CxL B N Γ Φ (J i) a w->wpAny P .any ops Q fuel m a w)(k:(∀i a w,CxL B N Γ Φ (J i) a w->wpAny P .any ops Q fuel m a w)->wpAny P .any ops Q fuel0 L a0 w0):wpAny P .any ops Q fuel0 L a0 w0:=k hx
def Nd{ι:Type}{J:ι->Lpt}{L:Array Bool}{fuel:Nat}{m:Array Bool}{Γ0:List HP}{Φ0:List RF}(h:∀i a w,CxL B N Γ0 Φ0 (J i) a w->wpAny P .any ops Q fuel m a w)(i:ι)(c:CxL B N Γ0 Φ0 (J i) a w)(hm:L=m:=by kernel_rfl):wpAny P .any ops Q fuel L a w:=by
 grind
def nN{ι:Type}{J:ι->Lpt}{Γ0:List HP}{Φ0:List RF}(i:ι)(c:CxL B N Γ0 Φ0 (J i) a w):Exit.normal= .normal/\∃i,CxL B N Γ0 Φ0 (J i) a w:=⟨rfl,i,c⟩
end
abbrev I(x:Int):Value:=.int .i64 x
abbrev L{α:Type}(a:Option Addr)(l:List α)(c:Nat):Value:=.slice a (List.length l) c
abbrev B(b n:Nat):Value:=.pointer (some ⟨b,n,none⟩)
abbrev Oh:=Option Addr×Nat
abbrev Ob(α:Type):=Option Addr×Nat×α
abbrev lR{α:Type}[Rep α](a:Option Addr)(l:List α)(c:Nat):RF:=RO (L a l c) l
abbrev tV(x:D.Term)(a:Option Addr)(c:Nat):Value:=.agg #[I x.Op,I x.W,I x.N,Str.val x.Name,L a x.Kids c]
abbrev tC(x:D.Term)(a:Option Addr)(c:Nat):List Value:=[I x.Op,I x.W,I x.N,Str.val x.Name,L a x.Kids c]
abbrev tR(x:D.Term)(a:Option Addr)(c:Nat):Rw.Term:=Rw.Term.mk x.Op x.W x.N x.Name ⟨a,List.length x.Kids,c⟩
abbrev tZ:List Value:=[I 0,I 0,I 0,Str.val ⟨[]⟩,L none ([]:List D.Term) 0]
abbrev pV(x:D.Path)(a:Option Addr)(c:Nat)(a1:Option Addr)(c1:Nat)(a2:Option Addr)(c2:Nat)(a3:Option Addr)(c3:Nat)(a4:Option Addr)(c4:Nat)(a5:Option Addr)(c5:Nat):Value:=
 .agg #[I x.Pc,L a x.Regs c,L a1 x.Mem c1,L a2 x.Stack c2,I x.In,L a3 x.Out c3,I x.Code,I x.Steps,L a4 x.Cond c4,L a5 x.Turns c5]
abbrev pC(x:D.Path)(a:Option Addr)(c:Nat)(a1:Option Addr)(c1:Nat)(a2:Option Addr)(c2:Nat)(a3:Option Addr)(c3:Nat)(a4:Option Addr)(c4:Nat)(a5:Option Addr)(c5:Nat):List Value:=
 [I x.Pc,L a x.Regs c,L a1 x.Mem c1,L a2 x.Stack c2,I x.In,L a3 x.Out c3,I x.Code,I x.Steps,L a4 x.Cond c4,L a5 x.Turns c5]
abbrev pZ:List Value:=[I 0,L none ([]:List D.Term) 0,L none ([]:List D.Term) 0,L none ([]:List Int) 0,I 0,L none ([]:List D.Term) 0,I 0,I 0,L none ([]:List D.Term) 0,L none ([]:List Int) 0]
abbrev gV(x:D.Program)(a:Option Addr)(c:Nat):Value:=.agg #[I x.W,I x.Mem,I x.In,L a x.Code c]
abbrev gC(x:D.Program)(a:Option Addr)(c:Nat):List Value:=[I x.W,I x.Mem,I x.In,L a x.Code c]
abbrev eV(x:D.State)(a:Option Addr)(c:Nat)(a1:Option Addr)(c1:Nat)(a2:Option Addr)(c2:Nat)(a3:Option Addr)(c3:Nat):Value:=
 .agg #[I x.Pc,L a x.Regs c,L a1 x.Mem c1,L a2 x.Stack c2,I x.In,L a3 x.Out c3,I x.Code,I x.Steps]
abbrev eC(x:D.State)(a:Option Addr)(c:Nat)(a1:Option Addr)(c1:Nat)(a2:Option Addr)(c2:Nat)(a3:Option Addr)(c3:Nat):List Value:=
 [I x.Pc,L a x.Regs c,L a1 x.Mem c1,L a2 x.Stack c2,I x.In,L a3 x.Out c3,I x.Code,I x.Steps]
abbrev nV(x:D.Ins):Value:=.agg #[I x.Op,I x.A,I x.B,I x.C]
abbrev nC(x:D.Ins):List Value:=[I x.Op,I x.A,I x.B,I x.C]
abbrev vC(x:D.Value):List Value:=[Str.val x.Name,I x.W,I x.N]
abbrev Hp:=Ob (Ob (Ob (Ob (Ob Oh))))
abbrev pJ(x:D.Path)(i:Hp):Value:=pV x i.1 i.2.1 i.2.2.1 i.2.2.2.1 i.2.2.2.2.1 i.2.2.2.2.2.1 i.2.2.2.2.2.2.1 i.2.2.2.2.2.2.2.1 i.2.2.2.2.2.2.2.2.1 i.2.2.2.2.2.2.2.2.2.1 i.2.2.2.2.2.2.2.2.2.2.1 i.2.2.2.2.2.2.2.2.2.2.2
abbrev pM(x:D.Path)(i:Hp):List Value:=pC x i.1 i.2.1 i.2.2.1 i.2.2.2.1 i.2.2.2.2.1 i.2.2.2.2.2.1 i.2.2.2.2.2.2.1 i.2.2.2.2.2.2.2.1 i.2.2.2.2.2.2.2.2.1 i.2.2.2.2.2.2.2.2.2.1 i.2.2.2.2.2.2.2.2.2.2.1 i.2.2.2.2.2.2.2.2.2.2.2
abbrev pF(x:D.Path)(i:Hp):List RF:=[lR i.1 x.Regs i.2.1,lR i.2.2.1 x.Mem i.2.2.2.1,lR i.2.2.2.2.1 x.Stack i.2.2.2.2.2.1,lR i.2.2.2.2.2.2.1 x.Out i.2.2.2.2.2.2.2.1,lR i.2.2.2.2.2.2.2.2.1 x.Cond i.2.2.2.2.2.2.2.2.2.1,lR i.2.2.2.2.2.2.2.2.2.2.1 x.Turns i.2.2.2.2.2.2.2.2.2.2.2]
abbrev bN(n m:Nat):Array Bool:=((List.range n).map λi=>Nat.testBit m i).toArray
abbrev _root_.Prod.p2{a b c d:Type}(X:a×b×c×d):=X.2.2.1
abbrev _root_.Prod.q2{a b c:Type}(X:a×b×c):=X.2.2
abbrev _root_.Prod.p3{a b c d e:Type}(X:a×b×c×d×e):=X.2.2.2.1
abbrev _root_.Prod.q3{a b c d:Type}(X:a×b×c×d):=X.2.2.2
abbrev _root_.Prod.p4{a b c d e f:Type}(X:a×b×c×d×e×f):=X.2.2.2.2.1
abbrev _root_.Prod.q4{a b c d e:Type}(X:a×b×c×d×e):=X.2.2.2.2
abbrev _root_.Prod.p5{a b c d e f g:Type}(X:a×b×c×d×e×f×g):=X.2.2.2.2.2.1
abbrev _root_.Prod.q5{a b c d e f:Type}(X:a×b×c×d×e×f):=X.2.2.2.2.2
abbrev _root_.Prod.p6{a b c d e f g h:Type}(X:a×b×c×d×e×f×g×h):=X.2.2.2.2.2.2.1
abbrev _root_.Prod.p7{a b c d e f g h i:Type}(X:a×b×c×d×e×f×g×h×i):=X.2.2.2.2.2.2.2.1
abbrev _root_.Prod.q7{a b c d e f g h:Type}(X:a×b×c×d×e×f×g×h):=X.2.2.2.2.2.2.2
abbrev _root_.Prod.p8{a b c d e f g h i j:Type}(X:a×b×c×d×e×f×g×h×i×j):=X.2.2.2.2.2.2.2.2.1
abbrev _root_.Prod.q8{a b c d e f g h i:Type}(X:a×b×c×d×e×f×g×h×i):=X.2.2.2.2.2.2.2.2
abbrev _root_.Prod.p9{a b c d e f g h i j k:Type}(X:a×b×c×d×e×f×g×h×i×j×k):=X.2.2.2.2.2.2.2.2.2.1
abbrev _root_.Prod.q9{a b c d e f g h i j:Type}(X:a×b×c×d×e×f×g×h×i×j):=X.2.2.2.2.2.2.2.2.2
abbrev _root_.Prod.p10{a b c d e f g h i j k l:Type}(X:a×b×c×d×e×f×g×h×i×j×k×l):=X.2.2.2.2.2.2.2.2.2.2.1
abbrev _root_.Prod.q10{a b c d e f g h i j k:Type}(X:a×b×c×d×e×f×g×h×i×j×k):=X.2.2.2.2.2.2.2.2.2.2
abbrev _root_.Prod.q11{a b c d e f g h i j k l:Type}(X:a×b×c×d×e×f×g×h×i×j×k×l):=X.2.2.2.2.2.2.2.2.2.2.2
abbrev t0(x:D.Term):D.Term:=D.Term.mk x.Op x.W x.N x.Name ([]:List D.Term)
abbrev hd{α:Type}(a:Option Addr)(l:List α)(c:Nat):Hd:=⟨a,List.length l,c⟩
abbrev h0:Hd:=⟨none,List.length ([]:List D.Term),0⟩
abbrev L0:Value:=L none ([]:List D.Term) 0
abbrev u0(x:D.Term):Rw.Term:=Rw.Term.mk x.Op x.W x.N x.Name h0
def tt:True:=trivial
def l1{α:Type}(x y:α)(l:List α):(x::l).set 0 y=y::l:=rfl
def l2{α:Type}(x y:α)(l:List α)(n:Nat):(x::l).set (n+1) y=x::l.set n y:=rfl
def l3{α:Type}(x:α)(l m:List α):(x::l)++m=x::(l++m):=rfl
def l4{α:Type}(l:List α):[]++l=l:=rfl
def l5{α:Type}(l m n:List α):(l++m)++n=l++(m++n):=Bo l m n
def l6{α:Type}(l:List α):l++[]=l:=Bj l
theorem l7(Γ:List HP):rest [] Γ=Γ:=by
 unfold rest;generalize 0=j
 induction Γ generalizing j with
 |nil=>rfl
 |cons x l ih=>show x::restG [] (j+1) l=_;rw[ih]
theorem Wo(gs:List Nat):∀(l:List HP)(j:Nat),restG (gs.map (· +1)) (j+1) l=restG gs j l
 |[],_=>rfl
 | x::l,j=>by
  have e:memN (gs.map (· +1)) (j+1)=memN gs j:=by
   simp[Ns,Bn,List.contains_cons]
  unfold restG;rw[e,Wo gs l (j+1)]
theorem r0(x:HP)(l:List HP):rest [0] (x::l)=l:=by
 have h:∀(l:List HP)(j:Nat),restG [0] (j+1) l=l:=by
  intro l
  induction l with
  |nil=>intro _;rfl
  |cons y l ih=>intro j;show y::restG [0] (j+1+1) l=_;rw[ih]
 exact h l 0
def r1(x:HP)(l:List HP)(n:Nat):rest [n+1] (x::l)=x::rest [n] l:=congrArg (x:: ·) (Wo [n] l 0)
def r2(x:HP)(l:List HP)(n m:Nat):rest [n+1,m+1] (x::l)=x::rest [n,m] l:=congrArg (x:: ·) (Wo [n,m] l 0)
theorem r3(x:HP)(l:List HP)(m:Nat):rest [0,m+1] (x::l)=rest [m] l:=by
 have h:∀(l:List HP)(j:Nat),restG [0,m+1] (j+1) l=restG [m+1] (j+1) l:=by
  intro l
  induction l with
  |nil=>intro _;rfl
  |cons y l ih=>intro j;show cond (memN [m+1] (j+1)) _ _=cond (memN [m+1] (j+1)) _ _;simp_all
 exact(h l 0).trans (Wo [m] l 0)
theorem QG(gs:List Nat)(l:List HP)(j:Nat):restG (0::gs.map (· +1)) (j+1) l=restG gs j l:=by
 have h:∀(l:List HP)(j:Nat),restG (0::gs.map (· +1)) (j+1) l=restG (gs.map (· +1)) (j+1) l:=by
  intro l
  induction l with
  |nil=>intro _;rfl
  |cons y l ih=>intro j;show cond (memN (gs.map (· +1)) (j+1)) _ _=cond (memN (gs.map (· +1)) (j+1)) _ _;simp_all
 simp_all[trans,Wo]
def r4(x:HP)(l:List HP)(a b c:Nat):rest [a+1,b+1,c+1] (x::l)=x::rest [a,b,c] l:=congrArg (x:: ·) (Wo [a,b,c] l 0)
def r5(x:HP)(l:List HP)(b c:Nat):rest [0,b+1,c+1] (x::l)=rest [b,c] l:=QG [b,c] l 0
def r6(x:HP)(l:List HP)(a b c d:Nat):rest [a+1,b+1,c+1,d+1] (x::l)=x::rest [a,b,c,d] l:=congrArg (x:: ·) (Wo [a,b,c,d] l 0)
def r7(x:HP)(l:List HP)(b c d:Nat):rest [0,b+1,c+1,d+1] (x::l)=rest [b,c,d] l:=QG [b,c,d] l 0
def r8(x:HP)(l:List HP)(a b c d e:Nat):rest [a+1,b+1,c+1,d+1,e+1] (x::l)=x::rest [a,b,c,d,e] l:=congrArg (x:: ·) (Wo [a,b,c,d,e] l 0)
def r9(x:HP)(l:List HP)(b c d e:Nat):rest [0,b+1,c+1,d+1,e+1] (x::l)=rest [b,c,d,e] l:=QG [b,c,d,e] l 0
def rA(x:HP)(l:List HP)(a b c d e f:Nat):rest [a+1,b+1,c+1,d+1,e+1,f+1] (x::l)=x::rest [a,b,c,d,e,f] l:=congrArg (x:: ·) (Wo [a,b,c,d,e,f] l 0)
def rB(x:HP)(l:List HP)(b c d e f:Nat):rest [0,b+1,c+1,d+1,e+1,f+1] (x::l)=rest [b,c,d,e,f] l:=QG [b,c,d,e,f] l 0
def kk{P:Program}{t:TypeId}{α:Type}[Rep α](h1:(P.info? t).map (·.size)=some (Rep.sz α):=by kernel_rfl)
  (h2:(match P.underlying t with|some (.struct _)=>true|some (.array _ _)=>true|some _=>false|none=>!(Rep.agg α))=Rep.agg α:=by kernel_rfl):Ty P t α:=⟨h1,h2⟩
section
variable{P:Program}{B:Bs}{N:Nat}{σ:List (Nat×Value)}{Γ:List HP}{Φ Φ1:List RF}{a:Act}{w:World}{Q:Exit->Act->World->Prop}{ι:Type}{R:ι->Res}{args:List Value}{f:FuncId}
variable{ops:Array Oper}{k d:Nat}{ty:TypeId}{xs:Array Operand}{ts:Array TypeId}{pos:String}{af:Array Edge}
def Cb(c:Cx B N σ Γ Φ a w)(hcon:Con P f args [] Φ1 R)(ro:AvaL Γ Φ w Φ1)(hf:∀(args:Array Value)(w:World),(callFunc f args).run P w= .ok (.enter f args) w)
  (h:∀i fr w',Cx B N ((d,tup (R i).1)::σ) (Γ++(R i).2.1) Φ fr w'->wpFrom P ops Q (k+1) fr w')
  (ho:ops[k]? =some ⟨some d,.call ⟨.value (.func f),xs,ts⟩,ty,pos,af,none⟩:=by rfl)(hd:Nat.blt d N=true:=by rfl)
  (hargs:xs.toList.map (opd σ)=args.map some:=by kernel_rfl):wpFrom P ops Q k a w:=
 Ca [] c hcon (by simp_all[l7]) hf (λi fr w' c=>h i fr w' (by simp_all[l7])) ho hd rfl Zat hargs
def Cg(c:Cx B N σ Γ Φ a w)(hcon:Con P f args [] Φ1 R)(ro:AvaL [] Φ w Φ1)(hf:∀(args:Array Value)(w:World),(callFunc f args).run P w= .ok (.enter f args) w)
  (h:∀i fr w',Cx B N ((d,tup (R i).1)::σ) (Γ++(R i).2.1) (Φ++(R i).2.2) fr w'->wpFrom P ops Q (k+1) fr w')
  (ho:ops[k]? =some ⟨some d,.call ⟨.value (.func f),xs,ts⟩,ty,pos,af,none⟩:=by rfl)(hd:Nat.blt d N=true:=by rfl)
  (hargs:xs.toList.map (opd σ)=args.map some:=by kernel_rfl):wpFrom P ops Q k a w:=
 Cf [] c hcon ro hf (λi fr w' c=>h i fr w' (by simp_all[l7])) ho hd rfl Zat hargs
end
section
variable{P:Program}{B:Bs}{N:Nat}{σ:List (Nat×Value)}{Γ Γ':List HP}{Φ Φ':List RF}{a:Act}{w:World}
def Cx.nf(c:Cx B N σ Γ Φ a w)(h:Γ=Γ':=by first|(simp only[id_eq,Bn,Ai,l1,l2,l3,l4,l5,l6,l7,r0,r1,r2,r3,r4,r5,r6,r7,r8,r9,rA,rB];rfl)|rfl):Cx B N σ Γ' Φ a w:=h▸c
def Cx.ng(c:Cx B N σ Γ Φ a w)(h:Γ=Γ':=by first|(simp only[id_eq,Bn,Ai,l1,l2,l3,l4,l5,l6,l7,r0,r1,r2,r3,r4,r5,r6,r7,r8,r9,rA,rB];rfl)|rfl)(h':Φ=Φ':=by first|(simp only[l3,l4,l5,l6];rfl)|rfl):Cx B N σ Γ' Φ' a w:=h▸h'▸c
end
def rE{p:Prop}(h:p:=by(first|obtain rfl:=sj h|cases h);refine wp_ret ?_;(repeat(first|with_reducible refine tr ?_|with_reducible refine br ?_));exact Rt c () [] []):p:=h
def sk{α:Type}{a b:α}(h:some a=some b):b=a:=(Option.some.inj h).symm
def Gw{q:D.Path}{w:World}{F:Nat->Prop}{cs:List Value}(h:Rep.ok w F cs q):∃u,cs[8]? =some u/\(RO u q.Cond).ok w F:=by
 obtain⟨v1,v2,v3,v5,v8,v9,rfl,h1,h2,h3,h5,h8,h9⟩:=h;exact⟨v8,rfl,RV.of_one rfl h8⟩
def OD{R α:Type}[Flat R](own:R->α->HP)(E:TypeId)(v:Value)(xs:List α):HP:=.ex λrs:List R=>.two (SL E v rs) (.all own rs xs)
section
variable{R α:Type}[Flat R]{own own':R->α->HP}{E:TypeId}{v:Value}{rs:List R}{xs:List α}{w:World}{A:Nat->Prop}
def OD.len(h:(OD own E v xs).ok w A):∃a c,v= .slice a xs.length c:=by
 obtain⟨rs,h⟩:=h;grind[Hg]
def OD.rv[Rep α](ho:Owns own)(h:(OD own E v xs).ok w A):RV w A v xs:=by
 obtain⟨rs,h⟩:=h;grind[FU]
def OD.nil(own:R->α->HP)(E:TypeId)(w:World):(OD own E (.slice none 0 0) []).ok w Non:=⟨[],QH (.inr ⟨rfl,none,rfl⟩) trivial⟩
omit [Flat R]in
theorem Nh(hi:∀r x A,(own r x).ok w A->(own' r x).ok w A):∀{rs:List R}{xs:List α}{A:Nat->Prop},(HP.all own rs xs).ok w A->(HP.all own' rs xs).ok w A
 |[],[],_,h=>h
 |[],_::_,_,h=>h.elim
 |_::_,[],_,h=>h.elim
 |_::_,_::_,_,h=>UZ (λ_ h=>hi _ _ _ h) (λ_ h=>Nh hi h) h
def OD.imp(hi:∀r x A,(own r x).ok w A->(own' r x).ok w A)(h:(OD own E v xs).ok w A):(OD own' E v xs).ok w A:=by
 obtain⟨rs,h⟩:=h;exact⟨rs,UZ (λ_ h=>h) (λ_ h=>Nh hi h) h⟩
end
def ownTn(E:TypeId):Nat->Rw.Term->D.Term->HP
 |0,_,_=>.pure False
 |n+1,r,t=>.two (.pure (r.Op=t.Op/\r.W=t.W/\r.N=t.N/\r.Name=t.Name)) (OD (ownTn E n) E r.Kids.v t.Kids)
def ownT(E:TypeId)(r:Rw.Term)(t:D.Term):HP:=.ex λn=>ownTn E n r t
section
variable{E:TypeId}{r:Rw.Term}{t:D.Term}{w:World}{A:Nat->Prop}
theorem Md{w:World}:∀(n:Nat)(r:Rw.Term)(t:D.Term)(A:Nat->Prop),(ownTn E n r t).ok w A->(ownTn E (n+1) r t).ok w A
 |0,_,_,_,h=>h.elim
 |n+1,_,_,_,h=>UZ (λ_ h=>h) (λ_ h=>OD.imp (Md n) h) h
theorem NN{w:World}{m n:Nat}(h:n<=m){r:Rw.Term}{t:D.Term}{A:Nat->Prop}(ht:(ownTn E n r t).ok w A):(ownTn E m r t).ok w A:=by
 induction h with
 |refl=>exact ht
 |step _ ih=>simp_all[Md]
theorem IY{w:World}:∀{rs:List Rw.Term}{xs:List D.Term}{A:Nat->Prop},(HP.all (ownT E) rs xs).ok w A->∃n,(HP.all (ownTn E n) rs xs).ok w A
 |[],[],_,h=>⟨0,h⟩
 |[],_::_,_,h=>h.elim
 |_::_,[],_,h=>h.elim
 |r::rs,x::xs,A,⟨B,C,⟨n,h1⟩,h2,h3,h4⟩=>by
  obtain⟨m,h2⟩:=IY h2;exact⟨max n m,B,C,NN (Nat.le_max_left _ _) h1,Nh (λ_ _ _ h=>NN (Nat.le_max_right _ _) h) h2,h3,h4⟩
theorem Mr:(ownT E r t).ok w A↔(r.Op=t.Op/\r.W=t.W/\r.N=t.N/\r.Name=t.Name)/\(OD (ownT E) E r.Kids.v t.Kids).ok w A:=by
 constructor
 ·rintro⟨n,h⟩;cases n with
  |zero=>exact h.elim
  |succ n=>
   have h1:=Te h;have h2:=Tk h;exact⟨h2,OD.imp (λ_ _ _ h=>⟨n,h⟩) h1⟩
 ·rintro⟨h1,rs,h2⟩;obtain⟨B,C,a,b,c,d⟩:=h2;obtain⟨n,b⟩:=IY b;exact⟨n+1,LP ⟨rs,B,C,a,b,c,d⟩ h1⟩
theorem MH{w:World}:∀(n:Nat)(A:Nat->Prop)(r:Rw.Term)(t:D.Term),(ownTn E n r t).ok w A->Rep.ok w A (Flat.enc r) t
 |0,_,_,_,h=>h.elim
 | n +1,A,r,t,h=>by
  obtain⟨e1,e2,e3,e4⟩:=(Tk h:(HP.pure _).ok w A);have h2:RV w A r.Kids.v t.Kids:=by
   obtain⟨rs,h⟩:=Te h;obtain⟨B,C,h1,h2,h3,h4⟩:=h;have hl:=SF h2
   have hcss:∀k:Nat->Prop,Css w C (rs.map Flat.enc) t.Kids:=λ_=>⟨by simp[hl],λi cs x hcs hx=>by
    rw[Bt]at hcs;cases hr:rs[i]? with
    |none=>simp_all
    |some q=>
     rw[hr]at hcs;obtain rfl:=Option.some.inj hcs
     exact MH n C q x (Kt h2 hr hx)⟩
   have h1':RV w A r.Kids.v rs:=RV.sub (SL.rv h1) λk _ hk=>h4 k (.inl hk);have hc':Css w A (rs.map Flat.enc) t.Kids:=⟨(hcss A).1,λi cs x hi hx=>Rep.keep ((hcss A).2 i cs x hi hx) λk _ hk=>⟨rfl,h4 k (.inr hk)⟩⟩;exact Mc h1' hc'
  have:=RV.mk_Term t h2;refine Lj (ρ:=Rw.Term) (α:=D.Term) (q:=r) ?_;show RV w A (.agg #[.int .i64 r.Op,.int .i64 r.W,.int .i64 r.N,Str.val r.Name,r.Kids.v]) t;simp_all
def ZV(E:TypeId):Owns (ownT E):=⟨rfl,rfl,λw A r x⟨n,h⟩=>MH n A r x h⟩
def OZ{x:D.Term}{a:Option Addr}{cp:Nat}(h:(OD (ownT E) E (.slice a x.Kids.length cp) x.Kids).ok w A):(ownT E ⟨x.Op,x.W,x.N,x.Name,⟨a,x.Kids.length,cp⟩⟩ x).ok w A:=Mr.2 ⟨⟨rfl,rfl,rfl,rfl⟩,h⟩
def XJ(E:TypeId)(w:World):(ownT E ⟨0,0,0,⟨[]⟩,⟨none,0,0⟩⟩ ⟨0,0,0,⟨[]⟩,[]⟩).ok w Non:=Mr.2 ⟨⟨rfl,rfl,rfl,rfl⟩,OD.nil _ _ _⟩
end
section
variable{P:Program}{B:Bs}{N:Nat}{σ:List (Nat×Value)}{Γ:List HP}{Φ:List RF}{a:Act}{w:World}{Q:Exit->Act->World->Prop}
  {R α:Type}[Flat R]{own:R->α->HP}{E:TypeId}{v:Value}{rs:List R}{xs:List α}
def Ava.go[Rep α](ho:Owns own)(i:Nat)(hi:Γ[i]? =some (OD own E v xs):=by rfl):Ava Γ Φ w (RO v xs):=λS F hs hf=>by
 obtain⟨A,h1,h2⟩:=hs.get i hi;exact RV.sub (OD.rv ho h1) λk _ hk=>.inr (h2 k hk)
def Cx.releno{b:Option Addr}{n cp:Nat}(i:Nat)(c:Cx B N σ Γ Φ a w)(hi:Γ[i]? =some (OD own E (.slice b n cp) xs):=by rfl):n=xs.length/\Cx B N σ (Γ.set i (OD own E (.slice b xs.length cp) xs)) Φ a w:=by
 obtain⟨_,S,F,_,hs,_⟩:=id c;obtain⟨A,h1,_⟩:=hs.get i hi;obtain⟨a',c',he⟩:=OD.len h1;have he:n=xs.length:=by simp_all
 subst he;exact⟨rfl,c.swap i (λ_ h=>h) hi⟩
def Cx.fzo[Rep α](ho:Owns own)(i:Nat)(c:Cx B N σ Γ Φ a w)(hi:Γ[i]? =some (OD own E v xs):=by rfl):Cx B N σ (rest [i] Γ) (Φ++[RO v xs]) a w:=by
 obtain⟨h,S,F,h1,h2,h3⟩:=c;have hp:=h2.part [i] (Γ1:=[OD own E v xs]) aH U;obtain⟨S',F',hM,hs,hr,hfz⟩:=Sep.freeze (L:=rest [i] Γ) hp h1;exact⟨h,S',F',hM,hs,(h3.sub λk _ hk=>hfz k hk).add (OD.rv ho hr)⟩
def Cx.nilo(own:R->α->HP)(E:TypeId)(c:Cx B N σ Γ Φ a w):Cx B N σ (Γ++[OD own E (.slice none 0 0) []]) Φ a w:=c.gam λS h=>ZP (Γ2:=[_]) (h.emp _ (OD.nil own E w))
def Cx.odc(i j:Nat)(c:Cx B N σ Γ Φ a w)(hi:Γ[i]? =some (SL E v rs):=by rfl)(hj:Γ[j]? =some (HP.all own rs xs):=by rfl)(hne:[i,j].Nodup:=by decide):Cx B N σ (rest [i,j] Γ++[OD own E v xs]) Φ a w:=c.gam λS h=>
 ZP (Γ2:=[_]) (Sep.shut rs (h.part [i,j] (Γ1:=[SL E v rs,HP.all own rs xs]) (by simp[hi,hj]) hne).join2)
def Cx.pack{H:HP}(L:List HP)(gs:List Nat)(c:Cx B N σ Γ Φ a w)(hi:∀A,Sep L w A->H.ok w A)(hL:gs.map (λi=>Γ[i]?)=L.map some:=by rfl)(hn:gs.Nodup:=by decide):Cx B N σ (rest gs Γ++[H]) Φ a w:=c.gam λS h=>by
 obtain⟨A,R,h1,h2,h3,h4,h5⟩:=Sep.split (L1:=L) (h.part gs hL hn);grind[ZP,Sep.mk_cons]
end
section
variable{P:Program}{B:Bs}{N:Nat}{σ:List (Nat×Value)}{Γ:List HP}{Φ:List RF}{a:Act}{w:World}{Q:Exit->Act->World->Prop}
  {R α:Type}[Flat R]{own:R->α->HP}{ops:Array Oper}{k d d2:Nat}{t t' ty ty':TypeId}{pos pos':String}{af af':Array Edge}{x y z:Operand}{E:TypeId}{v u:Value}{rs:List R}{xs r:List α}
def Emkd{n:Int}{zx:α}(E:TypeId)(zr:R)(hz0:∀w,(own zr zx).ok w Non)(c:Cx B N σ Γ Φ a w)(hr:mk? n zx=some r)
  (h:∀a' c' fr w',Cx B N ((d,.slice a' r.length c')::σ) (Γ++[SL E (.slice a' r.length c') (List.replicate r.length zr),HP.all own (List.replicate r.length zr) r]) Φ fr w'->wpFrom P ops Q (k+1) fr w')
  (ho:ops[k]? =some ⟨some d,.makeSlice t x y,ty,pos,af,none⟩:=by rfl)(hd:Nat.blt d N=true:=by rfl)(he:ElT P E R:=by refine elT ?_;kernel_rfl)(ht:P.underlying t=some (.slice E):=by kernel_rfl)
  (hz:(P.info? E).map (λi=>i.zero.map λz=>z.cells.toList)=some (some (Flat.enc zr)):=by kernel_rfl)(hx:opd σ x=some (.int .i64 n):=by kernel_rfl)(hy:opd σ y=some (.int .i64 n):=by kernel_rfl):wpFrom P ops Q k a w:=by
 obtain⟨h1,h2⟩:=mk?_raw (z':=zr) hr;refine Emk (r:=List.replicate r.length zr) E c h1 (λa' c' fr w' c=>?_) ho hd he ht hz hx hy;simp only[Zab]at c;have c:=c.gam (Γ':=Γ++[SL E (.slice a' r.length c') (List.replicate r.length zr),HP.all own (List.replicate r.length zr) r]) λS hs=>by
  have h3:(HP.all own (List.replicate r.length zr) r).ok w' Non:=by
   grind[KP]
  have:=ZP (Γ:=Γ++[SL E (.slice a' r.length c') (List.replicate r.length zr)]) (Γ2:=[_]) (hs.emp _ h3);grind
 grind
def Esetd{n:Int}{q:R}{e:α}(i j m:Nat)(c:Cx B N σ Γ Φ a w)(hr:set? xs n e=some r)
  (h:∀p fr w',Cx B N ((d,p)::σ) (rest [j,m] (Γ.set i (SL E v (rs.set n.toNat q)))++[HP.all own (rs.set n.toNat q) r]) Φ fr w'->wpFrom P ops Q (k+2) fr w')(hi:Γ[i]? =some (SL E v rs):=by rfl)(hj:Γ[j]? =some (HP.all own rs xs):=by rfl)(hm:Γ[m]? =some (own q e):=by rfl)(hne:[i,j,m].Nodup:=by decide)
  (ho:ops[k]? =some ⟨some d,.indexAddr t x y,ty,pos,af,none⟩:=by rfl)(ho':ops[k+1]? =some ⟨none,.store t' (.tmp d) z,ty',pos',af',none⟩:=by rfl)(hte:t'=E:=by rfl)(hd:Nat.blt d N=true:=by rfl)(hz:z≠ .tmp d:=by simp)
  (he:Ty P E R:=by constructor<;>kernel_rfl)(ht:P.underlying t=some (.slice E):=by kernel_rfl)(hx:opd σ x=some v:=by kernel_rfl)(hy:numOf (opd σ y)=some n:=by kernel_rfl)(hq:opd σ z=some (Rep.val R (Flat.enc q)):=by kernel_rfl):wpFrom P ops Q k a w:=by
 have hl:rs.length=xs.length:=by
  obtain⟨_,S,F,_,hs,_⟩:=id c;exact hs.dlen j hj
 obtain⟨h1,h2,h3⟩:=set?_raw (l':=rs) q hr hl;refine Eset i c h1 (λp fr w' c=>h p fr w' (c.gam λS hs=>?_)) hi ho ho' hte hd hz he ht hx hy hq;simp only[Zah,CW,Ab,or_false,not_or,not_false_eq_true,Zat,AZ]at hne;have hp:=hs.part [j,m] (Γ1:=[HP.all own rs xs,own q e]) ai (by simp[hne.2]);grind[ZP,Sep.merge,FJ,UT]
end
def Sep.sole{X:HP}{w:World}{S:Nat->Prop}(h:Sep [X] w S):X.ok w S:=by
 obtain⟨A,B,h1,_,_,h2,_⟩:=h.cons_ok;exact X.big h1 h2
section
variable{P:Program}{B:Bs}{N:Nat}{σ:List (Nat×Value)}{Γ L:List HP}{Φ:List RF}{a:Act}{w:World}{S:Nat->Prop}{Q:Exit->Act->World->Prop}
  {R α:Type}[Flat R]{own:R->α->HP}{E:TypeId}{v:Value}{n:Int}{r:R}{x y:α}{xs ys:List α}
end
section
variable{P:Program}{B:Bs}{N:Nat}{σ:List (Nat×Value)}{Γ:List HP}{Φ:List RF}{a:Act}{w:World}{Q:Exit->Act->World->Prop}
  {R α:Type}[Flat R]{own:R->α->HP}{ops:Array Oper}{k d d2 d3:Nat}{t t' s' ty ty' ty2:TypeId}{pos pos' pos2:String}{af af' af2:Array Edge}{x y z:Operand}{E:TypeId}{v:Value}{xs:List α}{r:R}{fl off:Nat}{n:Int}
end
def SL.len{α:Type}[Rep α]{E:TypeId}{v:Value}{l:List α}{w:World}{A:Nat->Prop}(h:(SL E v l).ok w A):∃a c,v= .slice a l.length c:=by
 rcases h with⟨go,ho⟩|⟨rfl,a,rfl⟩
 ·exact ho.slice
 ·exact⟨a,0,rfl⟩
def waits(ops:Array Oper)(i:Nat):List Nat:=((ops[i]?).map λo=>(o.after.toList.filter λe=>Region.binds .any e).map (·.on)).getD []
theorem mem_ready{ops:Array Oper}{L:Array Bool}{i:Nat}:i∈Region.ready .any ops L↔i<ops.size/\L.getD i true=false/\∀e∈waits ops i,L.getD e false=true:=by
 unfold Region.ready;rw[CP,CL];refine and_congr_right λhi=>?_;have ho:ops[i]? =some ops[i]:=Bv hi;unfold waits;rw[ho];simp only[CJ,Bh,Co,BO];rw[<-Array.all_toList,Cs];grind
theorem PE{P:Program}{ops:Array Oper}{Q:Exit->Act->World->Prop}{i:Nat}{o:Oper}{K:Act->World->Prop}{a:Act}{w:World}(ho:ops[i]? =some o)(h:wpOp P ops Q i K a w):
  wpOp P ops Q i (λa' w'=>K a' w'/\∀t,o.dst≠some t->a'.eval (.tmp t)=a.eval (.tmp t)) a w:=by
 have hput:∀(b:Act)v t,o.dst≠some t->(b.tmps=a.tmps)->(b.put o.dst v).eval (.tmp t)=a.eval (.tmp t):=by
  cases hd:o.dst with
  |none=>simp_all[Act.put,Act.eval]
  |some d=>
   simp_all[Act.put,Act.eval,Cq]
 unfold wpOp at*;simp only[ho]at h⊢;split
 ·unfold Oper.wp at*;generalize (execOp a.eval o).run P w=r at*;cases r with
  | ok n w'=>
   cases n<;>simp only[Oper.upon]at h⊢<;>
    first
     |simp_all
     |exact Calls.mono h (λe w'' he=>by cases e<;>first|exact⟨he,λt ht=>hput _ _ t ht rfl⟩|exact he)
     |exact Rows.mono h (λ_ _ he=>⟨he,λt ht=>hput _ _ t ht rfl⟩)
  |halt x w'=>simp_all[Oper.upon]
 simp_all
structure RelM(ops:Array Oper)(mE:Array Bool)(qi:List Nat)(m:Array Bool):Prop where
 size:m.size=ops.size
 same:∀k,k<ops.size->k∉qi->m.getD k false=mE.getD k false
 closed:∀k,k<ops.size->m.getD k false=true->∀e∈waits ops k,m.getD e false=true
theorem KG{m:Array Bool}{k:Nat}(h:k<m.size):m.getD k true=m.getD k false:=by
 simp_all
def acyc(ops:Array Oper):Bool:=(List.range ops.size).all λi=>(waits ops i).all λe=>Nat.blt e i
theorem SC{ops:Array Oper}(h:acyc ops=true){i e:Nat}(hi:i<ops.size)(he:e∈waits ops i):e<i:=by
 simp_all[acyc,Cs,CL]
theorem Hm{ops:Array Oper}{m:Array Bool}(hac:acyc ops=true)(hs:m.size=ops.size)(hr:Region.ready .any ops m=[]):∀k,k<ops.size->m.getD k false=true:=by
 intro k
 induction k using Nat.strongRecOn with
 | _ k ih=>
  intro hk;cases hm:m.getD k false with
  |true=>rfl
  | false=>
   have:k∈Region.ready .any ops m:=mem_ready.2 ⟨hk,by simp_all,λe he=>by
    grind[SC]⟩
   simp_all
def clo(ops:Array Oper):Nat->List Nat->List Nat
 |0,s=>s
 |n+1,s=>match(s.flatMap (waits ops)).filter (λe=>!memN s e)with
  |[]=>s
  |t=>clo ops n (s++t)
theorem Pi{ops:Array Oper}{m:Array Bool}(hac:acyc ops=true)(hc:∀k,k<ops.size->m.getD k false=true->∀e∈waits ops k,m.getD e false=true):∀(n:Nat)(s:List Nat),(∀k∈s,k<ops.size/\m.getD k false=true)->∀k∈clo ops n s,m.getD k false=true
 |0,s,h,k,hk=>(h k hk).2
 | n+1,s,h,k,hk=>by
  unfold clo at hk;split at hk
  ·simp_all
  ·refine Pi hac hc n _ (λx hx=> ?_) k hk;rcases CQ.1 hx with hx|hx
   ·exact h x hx
   ·obtain⟨y,hy,hx⟩:=List.mem_flatMap.1 (CP.1 hx).1;obtain⟨h1,h2⟩:=h y hy;have:=SC hac h1 hx;grind
abbrev Quiets:=List (Nat×Nat×Value)
def slots(qs:Quiets)(l:List Nat):List (Nat×Value):=(qs.filter λq=>memN l q.1).map (·.2)
section
variable(P:Program)(ops:Array Oper)(Q:Exit->Act->World->Prop)(B:Bs)(N:Nat)
def QN(σ:List (Nat×Value))(Γ:List HP)(Φ:List RF)(mE:Array Bool)(qs:Quiets):Prop:=
 ∀f a w m,Cx B N σ Γ Φ a w->RelM ops mE (qs.map (·.1)) m->(∀q∈qs,m.getD q.1 false=true->a.eval (.tmp q.2.1)=q.2.2)->m.toList.count false<=f->wpAny P .any ops Q f m a w
def nextB(mE:Array Bool)(qs:Quiets)(i:Nat)(mE':Array Bool)(qs':Quiets):Bool:=
 (mE'.size==ops.size)&&((List.range ops.size).all λk=>memN (qs'.map (·.1)) k||(Nat.beq k i||memN (clo ops ops.size (waits ops i)) k)&&mE'.getD k false|| !Nat.beq k i&& !memN (qs.map (·.1)) k&&(mE'.getD k false==mE.getD k false))&&(match ops[i]? with|some o=>qs'.all λq=>o.dst !=some q.2.1|none=>false)
def Nxt(mE:Array Bool)(qs:Quiets)(i:Nat)(a:Act)(w:World):Prop:=
 ∃σ' Γ' Φ' mE' qs',Cx B N σ' Γ' Φ' a w/\QN P ops Q B N σ' Γ' Φ' mE' qs'/\nextB ops mE qs i mE' qs'=true/\(qs'.filter λq=>memN (qs.map (·.1)) q.1)=(qs.filter λq=>memN (qs'.map (·.1)) q.1)/\(qs'.all λq=>memN (qs.map (·.1)) q.1||memN (clo ops ops.size (waits ops q.1)) i)=true
end
theorem XN{l:List Nat}{k:Nat}:memN l k=true↔k∈l:=by
 induction l with
 |nil=>exact⟨(λh=>aj),(λh=>aj)⟩
 |cons x l ih=>
  rw[memN,Bq,ih,CW];exact or_congr ⟨λh=>(Ap h).symm,λh=>by simp_all⟩ Iff.rfl
theorem Le{β γ:Type}{f:β->γ}:∀{l:List β},(l.map f).Nodup->∀{x y:β},x∈l->y∈l->f x=f y->x=y
 | z::l,h,x,y,hx,hy,e=>by
  rw[Bn,Zah]at h;obtain⟨h1,h2⟩:=h;rcases CW.1 hx with ex|hx1
  ·grind
  ·rcases CW.1 hy with ey|hy1
   ·simp_all
   ·exact Le h2 hx1 hy1 e
theorem cntL:∀{l:List Bool}{i:Nat},l[i]? =some false->(l.set i true).count false+1=l.count false
 |[],_,h=>by simp at h
 |x::l,0,h=>by
  simp_all
 |x::l,i+1,h=>by
  grind
theorem cntS{m:Array Bool}{i:Nat}(hi:i<m.size)(h:m.getD i false=false):(m.setIfInBounds i true).toList.count false+1=m.toList.count false:=by
 simp_all[Av,cntL,Cq,Bv]
section
variable{P:Program}{ops:Array Oper}{Q:Exit->Act->World->Prop}{B:Bs}{N:Nat}{σ:List (Nat×Value)}{Γ:List HP}{Φ:List RF}{mE:Array Bool}{qs:Quiets}
theorem KD{σ:List (Nat×Value)}{a:Act}(h:FrS N σ a):∀(l:List (Nat×Value)),(∀p∈l,a.eval (.tmp p.1)=p.2)->FrS N (l++σ) a
 |[],_=>h
 |p::l,hl=>(KD h l λq hq=>hl q (CX _ hq)).cons (hl p CZ)
def Cx.adds{a:Act}{w:World}(c:Cx B N σ Γ Φ a w)(l:List (Nat×Value))(h:∀p∈l,a.eval (.tmp p.1)=p.2):Cx B N (l++σ) Γ Φ a w:=⟨KD c.fr l h,c.me⟩
theorem qnode(rs:List Nat)(hac:acyc ops=true)(hms:mE.size=ops.size)
  (hqd:∀q∈qs,∃o,ops[q.1]? =some o/\o.dst=some q.2.1)(hnd:(qs.map (·.1)).Nodup)(hnd2:(qs.map (·.2.1)).Nodup)(hσ:∀q∈qs,σ.lookup q.2.1=none)
  (hqe:∀q∈qs,∀a w,Cx B N (slots qs (waits ops q.1)++σ) Γ Φ a w->wpOp P ops Q q.1 (λa' w'=>Cx B N ((q.2.1,q.2.2)::(slots qs (waits ops q.1)++σ)) Γ Φ a' w') a w)
  (hrs:∀i,i<ops.size->i∉qs.map (·.1)->mE.getD i false=false->(∀e∈waits ops i,e∈qs.map (·.1)\/mE.getD e false=true)->i∈rs)
  (hev:∀i∈rs,∀a w,Cx B N (slots qs (clo ops ops.size (waits ops i))++σ) Γ Φ a w->wpOp P ops Q i (Nxt P ops Q B N mE qs i) a w)
  (hend:(∃k,k<ops.size/\k∉qs.map (·.1)/\mE.getD k false=false)\/∀a w,Cx B N (qs.map (·.2)++σ) Γ Φ a w->Q .normal a w):QN P ops Q B N σ Γ Φ mE qs:=by
 have hfin:∀a w m,Cx B N σ Γ Φ a w->RelM ops mE (qs.map (·.1)) m->(∀q∈qs,m.getD q.1 false=true->a.eval (.tmp q.2.1)=q.2.2)->(∀k,k<ops.size->m.getD k false=true)->Q .normal a w:=by
  intro a w m c hr hq hall;rcases hend with⟨k,h1,h2,h3⟩|h
  ·have:=hr.same k h1 h2;simp_all
  ·refine h a w (c.adds _ λp hp=> ?_);grind
 intro f
 induction f with
 | zero=>
  intro a w m c hr hq hf;have hall:∀k,k<ops.size->m.getD k false=true:=λk hk=>by
   cases hm:m.getD k false with
   |true=>rfl
   |false=>
    have h1:k<m.size:=by rw[hr.size];exact hk
    grind[cntS]
  refine⟨List.eq_nil_iff_forall_not_mem.2 λi hi=>?_,hfin a w m c hr hq hall⟩;grind[mem_ready,KG]
 | succ f ih=>
  intro a w m c hr hq hf;refine⟨λhn=>hfin a w m c hr hq (Hm hac hr.size hn),λi hi=>?_⟩;obtain⟨h1,h2,h3⟩:=mem_ready.1 hi;have him:i<m.size:=by rw[hr.size];exact h1
  rw[KG him]at h2;have hcnt:=cntS him h2;have hget:∀k,k≠i->(m.setIfInBounds i true).getD k false=m.getD k false:=λk hk=>by
   simp[Cq,Array.getElem?_setIfInBounds_ne (Ne.symm hk)]
  have hgeti:(m.setIfInBounds i true).getD i false=true:=by
   simp[Cq,him]
  have hclosed:∀k,k<ops.size->(m.setIfInBounds i true).getD k false=true->∀e∈waits ops k,(m.setIfInBounds i true).getD e false=true:=λk hk hkm e he=>by
   by_cases ei:e=i
   ·rw[ei];exact hgeti
   ·rw[hget e ei];by_cases ki:k=i
    ·rw[ki]at he;exact h3 e he
    ·rw[hget k ki]at hkm;exact hr.closed k hk hkm e he
  obtain⟨o,ho⟩:∃o,ops[i]? =some o:=⟨ops[i],Bv h1⟩;by_cases hiq:i∈qs.map (·.1)
  ·obtain⟨q,hqm,rfl⟩:=Zap.1 hiq;have c1:Cx B N (slots qs (waits ops q.1)++σ) Γ Φ a w:=c.adds _ λp hp=>by
    unfold slots at hp;obtain⟨q',hq',rfl⟩:=Zap.1 hp;obtain⟨g1,g2⟩:=CP.1 hq';exact hq q' g1 (h3 _ (XN.1 g2))
   refine wpOp_mono (λa' w'⟨c2,hfr⟩=>?_) (PE ho (hqe q hqm a w c1));obtain⟨o',ho',hd⟩:=hqd q hqm;rw[ho]at ho';cases ho';refine ih a' w' _ ⟨⟨c2.fr.defers,c2.fr.size,λt v hv=>?_⟩,c2.me⟩ ⟨by simp[hr.size],λk hk hkq=>?_,hclosed⟩ (λp hp hpm=>?_) O
   ·have ht:t≠q.2.1:=λe=>by rw[e,hσ q hqm]at hv;cases hv
    rw[hfr t (by rw[hd];intro e;exact ht (Option.some.inj e).symm)];exact c.fr.get t v hv
   ·rw[hget k (λe=>hkq (by rw[e];exact hiq))];exact hr.same k hk hkq
   ·by_cases e:p.1=q.1
    ·have:p=q:=Le hnd hp hqm e;subst this;exact c2.fr.get _ _ U
    ·rw[hget _ e]at hpm;have hne:p.2.1≠q.2.1:=λe2=>e (by rw[Le hnd2 hp hqm e2]);rw[hfr p.2.1 (by rw[hd];intro e3;exact hne (Option.some.inj e3).symm)];exact hq p hp hpm
  ·have hmE:mE.getD i false=false:=by rw[<-hr.same i h1 hiq];exact h2
   have hin:=hrs i h1 hiq hmE λe he=>by
    by_cases hq':e∈qs.map (·.1)
    ·exact .inl hq'
    ·have:=SC hac h1 he;exact .inr (by rw[<-hr.same e O hq'];exact h3 e he)
   have hclo:∀k∈clo ops ops.size (waits ops i),m.getD k false=true:=Pi hac hr.closed _ _ λk hk=>⟨by have:=SC hac h1 hk;omega,h3 k hk⟩;have c1:Cx B N (slots qs (clo ops ops.size (waits ops i))++σ) Γ Φ a w:=c.adds _ λp hp=>by
    unfold slots at hp;obtain⟨q',hq',rfl⟩:=Zap.1 hp;obtain⟨g1,g2⟩:=CP.1 hq';exact hq q' g1 (hclo _ (XN.1 g2))
   refine wpOp_mono (λa' w'⟨⟨σ',Γ',Φ',mE',qs',c2,hN,hb,hdl,hnw⟩,hfr⟩=>?_) (PE ho (hev i hin a w c1));unfold nextB at hb;simp only[ho,Co,Bl]at hb;obtain⟨⟨b1,b2⟩,b3⟩:=hb;have hsub:∀p∈qs',p∈qs\/memN (clo ops ops.size (waits ops p.1)) i=true:=λp hp=>by
    have h:=Cs.1 hnw p hp;rw[Bq]at h;refine h.imp (λh=>?_) id;have:p∈qs'.filter λq=>memN (qs.map (·.1)) q.1:=CP.2 ⟨hp,h⟩;rw[hdl]at this;exact(CP.1 this).1
   refine hN f a' w' _ c2 ⟨by simp[hr.size],λk hk hkq=>?_,hclosed⟩ (λp hp hpm=>?_) O
   ·rw[Cs]at b2;have:=b2 k (CL.2 hk);have hkq':memN (qs'.map (·.1)) k=false:=by
     cases h:memN (qs'.map (·.1)) k with
     |false=>rfl
     |true=>exact absurd (XN.1 h) hkq
    rw[hkq',CY,Bq]at this;rcases this with this|this
    ·rw[Co,Bq]at this;rw[this.2];by_cases ki:k=i
     ·rw[ki];exact hgeti
     ·rw[hget k ki];rcases this.1 with h|h
      ·exact absurd (Ap h) ki
      ·exact hclo k (XN.1 h)
    ·rw[Co,Co,Bl]at this;have hkn:k∉qs.map (·.1):=λh=>by rw[XN.2 h]at this;simp at this
     by_cases ki:k=i
     ·rw[ki]at this;simp at this
     ·rw[hget k ki,this.2];exact hr.same k hk hkn
   ·have hne:o.dst≠some p.2.1:=by
     rw[Cs]at b3;simpa using b3 p hp
    rw[hfr _ hne];by_cases ki:p.1=i
    ·rcases hsub p hp with h|h
     ·exact absurd (Zap.2 ⟨p,h,ki⟩) hiq
     ·rw[ki]at h;rw[hclo i (XN.1 h)]at h2;cases h2
    ·rw [hget _ ki]at hpm
     rcases hsub p hp with h|h
     ·exact hq p h hpm
     ·have hlt:p.1<ops.size:=by
       cases hlt:decide (p.1<ops.size)with
       |true=>exact of_decide_eq_true hlt
       |false=>
        have:¬p.1<m.size:=by rw[hr.size];exact of_decide_eq_false hlt
        rw[Cq,BH O]at hpm;cases hpm
      have:=Pi hac hr.closed ops.size (waits ops p.1) (λk hk=>⟨by have:=SC hac hlt hk;omega,hr.closed p.1 hlt hpm k hk⟩) i (XN.1 h);rw[this]at h2;cases h2
def nodeB(ops:Array Oper)(σ:List (Nat×Value))(mE:Array Bool)(qs:Quiets)(rs:List Nat):Bool:=
 acyc ops&&(mE.size==ops.size)&&(qs.all λq=>match ops[q.1]? with|some o=>o.dst==some q.2.1|none=>false)&&ndN (qs.map (·.1))&&ndN (qs.map (·.2.1))&&(qs.all λq=>!memN (σ.map (·.1)) q.2.1)&&
  (List.range ops.size).all λi=>memN (qs.map (·.1)) i||mE.getD i false|| !((waits ops i).all λe=>memN (qs.map (·.1)) e||mE.getD e false)||memN rs i
theorem qnode'(rs:List Nat)(hb:nodeB ops σ mE qs rs=true)
  (hqe:AllP (λq=>∀a w,Cx B N (slots qs (waits ops q.1)++σ) Γ Φ a w->wpOp P ops Q q.1 (λa' w'=>Cx B N ((q.2.1,q.2.2)::(slots qs (waits ops q.1)++σ)) Γ Φ a' w') a w) qs)
  (hev:AllP (λi=>∀a w,Cx B N (slots qs (clo ops ops.size (waits ops i))++σ) Γ Φ a w->wpOp P ops Q i (Nxt P ops Q B N mE qs i) a w) rs)
  (hend:(∃k,k<ops.size/\k∉qs.map (·.1)/\mE.getD k false=false)\/∀a w,Cx B N (qs.map (·.2)++σ) Γ Φ a w->Q .normal a w):QN P ops Q B N σ Γ Φ mE qs:=by
 unfold nodeB at hb;simp only[Co,Bl]at hb;obtain⟨⟨⟨⟨⟨⟨b1,b2⟩,b3⟩,b4⟩,b5⟩,b6⟩,b7⟩:=hb;refine qnode rs b1 b2 (λq hq=>?_) (Ti b4) (Ti b5) (λq hq=>?_) (λq hq=>hqe.mem hq) (λi h1 h2 h3 h4=>?_) (λi hi=>hev.mem hi) hend
 ·grind
 ·cases h:σ.lookup q.2.1 with
  |none=>rfl
  |some v=>
   grind[XN]
 grind[List.all_eq_true,memN,absurd,XN,waits]
def qn(rs:List Nat)(hqe:AllP (λq=>∀a w,Cx B N (slots qs (waits ops q.1)++σ) Γ Φ a w->wpOp P ops Q q.1 (λa' w'=>Cx B N ((q.2.1,q.2.2)::(slots qs (waits ops q.1)++σ)) Γ Φ a' w') a w) qs)
  (hev:AllP (λi=>∀a w,Cx B N (slots qs (clo ops ops.size (waits ops i))++σ) Γ Φ a w->wpOp P ops Q i (Nxt P ops Q B N mE qs i) a w) rs)(hb:nodeB ops σ mE qs rs=true:=by kernel_rfl)
  (hk:((List.range ops.size).any λk=>!memN (qs.map (·.1)) k&& !mE.getD k false)=true:=by kernel_rfl):QN P ops Q B N σ Γ Φ mE qs:=qnode' rs hb hqe hev (.inl (by
 grind[XN]))
def qnE(hqe:AllP (λq=>∀a w,Cx B N (slots qs (waits ops q.1)++σ) Γ Φ a w->wpOp P ops Q q.1 (λa' w'=>Cx B N ((q.2.1,q.2.2)::(slots qs (waits ops q.1)++σ)) Γ Φ a' w') a w) qs)
  (hend:∀a w,Cx B N (qs.map (·.2)++σ) Γ Φ a w->Q .normal a w)(hb:nodeB ops σ mE qs []=true:=by kernel_rfl):QN P ops Q B N σ Γ Φ mE qs:=qnode' [] hb hqe trivial (.inr hend)
def Dq{ι:Type}{L:Array Bool}{fuel0:Nat}{a0:Act}{w0:World}(J:ι->Lpt)(mE:Array Bool)(qs:ι->Quiets)(c:Cx B N σ Γ Φ a0 w0)(hx:∀i,QN P ops Q B N (J i).1 ((J i).2.1 Γ) (Φ++(J i).2.2) mE (qs i))(k:(∀i,QN P ops Q B N (J i).1 ((J i).2.1 Γ) (Φ++(J i).2.2) mE (qs i))->wpAny P .any ops Q fuel0 L a0 w0):wpAny P .any ops Q fuel0 L a0 w0:=k hx
def nQ{ι:Type}{J:ι->Lpt}{mE':Array Bool}{qs':ι->Quiets}{Γ0:List HP}{Φ0:List RF}{j:Nat}{a:Act}{w:World}(h:∀i,QN P ops Q B N (J i).1 ((J i).2.1 Γ0) (Φ0++(J i).2.2) mE' (qs' i))(i:ι)(c:CxL B N Γ0 Φ0 (J i) a w)(hb:nextB ops mE qs j mE' (qs' i)=true:=by kernel_rfl)
  (hq:((qs' i).filter λq=>memN (qs.map (·.1)) q.1)=(qs.filter λq=>memN ((qs' i).map (·.1)) q.1):=by kernel_rfl)(hw:((qs' i).all λq=>memN (qs.map (·.1)) q.1||memN (clo ops ops.size (waits ops q.1)) j)=true:=by kernel_rfl):Nxt P ops Q B N mE qs j a w:=⟨_,_,_,_,_,c,h i,hb,hq,hw⟩
def q0{a:Act}{w:World}(c:Cx B N σ Γ Φ a w)(h:QN P ops Q B N σ Γ Φ (Array.replicate ops.size false) qs):wpAny P .any ops Q ops.size (Array.replicate ops.size false) a w:=by
 have hf:∀k,(Array.replicate ops.size false).getD k false=false:=λk=>by
  rw[Cq,BL];split<;>rfl
 refine h _ a w _ c ⟨by simp,λ_ _ _=>rfl,λk _ hk=>?_⟩ (λq _ hq=>?_) U
 all_goals grind
def qP{S:List (Nat×Value)}{i d:Nat}{v:Value}{o:Oper}(hs:List (Nat×Nat))(ho:ops[i]? =some o:=by rfl)(hg:o.guard=none:=by rfl)
  (hk:(seqB P N (bxsOf Γ Φ) hs 0 [o] S).map (λr=>r.2.map (·.1))=some (((seqB P N (bxsOf Γ Φ) hs 0 [o] S).map (λr=>r.2.map (·.2))).getD []):=by kernel_rfl)(hσ:((seqB P N (bxsOf Γ Φ) hs 0 [o] S).getD ([],[])).1=(d,v)::S:=by kernel_rfl)(a:Act)(w:World)(c:Cx B N S Γ Φ a w):wpOp P ops Q i (λa' w'=>Cx B N ((d,v)::S) Γ Φ a' w') a w:=
 Zc o ho hg (Fp (ops:=#[o]) (k:=0) hs 1 c (λfr c=>E0 ai rfl) hk)
def qV{S:List (Nat×Value)}{i d:Nat}{v:Value}{o:Oper}(ho:ops[i]? =some o)(hg:o.guard=none)(hd:o.dst=some d)(hdN:Nat.blt d N=true){a:Act}{w:World}(c:Cx B N S Γ Φ a w)(hv:Does P o a w λv' w'=>v'=v/\w'=w):wpOp P ops Q i (λa' w'=>Cx B N ((d,v)::S) Γ Φ a' w') a w:=
 Zc o ho hg (RZ (ops:=#[o]) (k:=0) (o:=o) rfl hg hv λv' w' hw=>by
  obtain⟨rfl,rfl⟩:=hw;rw[hd]
  exact c.to (c.fr.put (Bc.mp hdN) _))
section
variable{S:List (Nat×Value)}{i d:Nat}{dst:Option Tmp}{t ty:TypeId}{pos:String}{af:Array Edge}{x y:Operand}{α:Type}[Rep α]{e:TypeId}{v u:Value}{n:Int}{p:Addr}
def qI(k:Nat)(hk:Φ[k]? =some (EA α v n p u):=by rfl)(ho:ops[i]? =some ⟨some d,.indexAddr t x y,ty,pos,af,none⟩:=by rfl)(hdN:Nat.blt d N=true:=by rfl)(ht:P.underlying t=some (.slice e):=by rfl)(he:Ty P e α:=by constructor<;>kernel_rfl)(hx:opd S x=some v:=by kernel_rfl)(hy:numOf (opd S y)=some n:=by kernel_rfl)
  (a:Act)(w:World)(c:Cx B N S Γ Φ a w):wpOp P ops Q i (λa' w'=>Cx B N ((d,.pointer (some p))::S) Γ Φ a' w') a w:=by
 obtain⟨F,⟨ad,len,cap,rfl,rfl,hn,hlt⟩,_⟩:=c.use (Ava.f k hk);obtain⟨kd,hy⟩:=Yp hy;have h1:=Ze c.fr hx;have h2:=Ze c.fr hy;refine qV ho rfl rfl hdN c (Zg (v:=.pointer (some (ad.add (n.toNat*Rep.sz α)))) (w':=w) ?_ ⟨rfl,rfl⟩);simp[execOp,Instr.indexAt,h1,h2,asIntOf,run_underlying ht,hn,hlt,he.sizeOf]
def qL(k:Nat)(hk:Φ[k]? =some (EA α v n p u):=by rfl)(ho:ops[i]? =some ⟨some d,.load t x,ty,pos,af,none⟩:=by rfl)(hdN:Nat.blt d N=true:=by rfl)(ht:Ty P t α:=by constructor<;>kernel_rfl)(hx:opd S x=some (.pointer (some p)):=by kernel_rfl)
  (a:Act)(w:World)(c:Cx B N S Γ Φ a w):wpOp P ops Q i (λa' w'=>Cx B N ((d,u)::S) Γ Φ a' w') a w:=by
 obtain⟨F,_,cs,rfl,hl,hc,_⟩:=c.use (Ava.f k hk);have h1:=Ze c.fr hx;refine qV ho rfl rfl hdN c (Zg (v:=Rep.val α cs) (w':=w) ?_ ⟨rfl,rfl⟩);simp[execOp,Instr.loadAt,h1,Instr.sureAddr,YT ht hl hc]
end
end
section
variable{P:Program}{B:Bs}{N:Nat}{σ:List (Nat×Value)}{Γ:List HP}{Φ:List RF}{a:Act}{w:World}{Q:Exit->Act->World->Prop}{ops:Array Oper}{k d:Nat}{t t' ty:TypeId}{x y:Operand}{pos:String}{af:Array Edge}
def Ecl{α:Type}[Rep α]{hi mx:Operand}{b:Option Addr}{cp:Nat}{l:List α}(E:TypeId)(c:Cx B N σ Γ Φ a w)(hl:Ava [] Φ w (RO (.slice b l.length cp) l))(h:∀fr,Cx B N ((d,.slice b l.length l.length)::σ) Γ (Φ++[RO (.slice b l.length l.length) l]) fr w->wpFrom P ops Q (k+1) fr w)
  (ho:ops[k]? =some ⟨some d,.slice t x none (some hi) (some mx),ty,pos,af,none⟩:=by rfl)(hd:Nat.blt d N=true:=by rfl)(he:Ty P E α:=by constructor<;>kernel_rfl)(ht:P.underlying t=some (.slice E):=by kernel_rfl)
  (hx:opd σ x=some (.slice b l.length cp):=by kernel_rfl)(hhi:opd σ hi=some (.int .i64 (len l)):=by kernel_rfl)(hmx:opd σ mx=some (.int .i64 (len l)):=by kernel_rfl):wpFrom P ops Q k a w:=by
 obtain⟨hF,S,F,hM,hs,hf⟩:=c;have hl':=hl Non F (Sep.nil w Non) hf;obtain⟨b',cap,e,hc1,hc2,hc3⟩:=RV.slice hl';obtain⟨rfl,_,rfl⟩:=Value.slice.inj e;have e0:∀ad:Addr,ad.add 0=ad:=λad=>by rfl
 have hln:len l=((l.length:Nat):Int):=rfl;refine ZB hF ho rfl rfl (Bc.mp hd) (R:=λz w1=>z= .slice b l.length l.length/\w1=w) (Zg ?_ ⟨rfl,rfl⟩) λz w1 fr hz hF'=>?_
 ·simp[execOp,Instr.sliceAt,Instr.slice,Instr.sliceBounds,Instr.sliceBound,asIntOf,Ze hF hx,Ze hF hhi,Ze hF hmx,run_underlying ht,he.sizeOf,hln,hc1,e0]
 ·obtain⟨rfl,rfl⟩:=hz
  exact h fr ⟨hF',S,F,hM,hs,hf.add (RV.mk_slice (CK _) (BD hc1 hc2) λhne=>by
   obtain⟨ad,e1,e2,e3⟩:=hc3 hne
   exact⟨ad,e1,e2.elim id λh=>h.elim,Sc (λk _ h=>⟨rfl,h.elim id λh=>h.elim⟩) e2 e3⟩)⟩
end
section
variable{α:Type}[Flat α]{w:World}{E:TypeId}
def Qu{P:Program}{t ty:TypeId}(ht:P.underlying t=some (.slice E))(hE:ElT P E α){Fl Fr:Nat->Prop}{b:Option Addr}{u:Value}{l m:List α}(hl:RV w Fl (.slice b l.length l.length) l)(hu:RV w Fr u m)(hm:m≠[])(hroom:l.length+m.length<=room):
  ∃a' c' w',(Builtin.append_ #[t,t] ty #[.slice b l.length l.length,u]).run P w= .ok (.slice a' (l++m).length c') w'/\(SL E (.slice a' (l++m).length c') (l++m)).ok w' (λk=>w.heap.size<=k)/\Chg Non w w':=by
 by_cases hl0:l=[]
 ·subst hl0;obtain⟨v',w',hrun,hok',hc⟩:=Ua (P:=P) (ty:=ty) (v:=b) ht hE hu O;have hsl:∃a' c',v'= .slice a' m.length c':=by
   rcases hok' with⟨go,ho⟩|⟨rfl,a',rfl⟩
   ·exact ho.slice
   simp
  grind
 obtain⟨i,z,hi,hz,hsz,hzs,hby⟩:=hE.out;obtain⟨b',cap',e,hc1,hc2,hc3⟩:=hl.slice;obtain⟨rfl,_,rfl⟩:=Value.slice.inj e;obtain⟨bd,rfl,_,he⟩:=hc3 hl0;obtain⟨css,g1,g2⟩:=Uc he;obtain⟨ad,cap,rfl,hcap,hmax,hcells⟩:=hu.slice;obtain⟨ad,rfl,_,he'⟩:=hcells hm;obtain⟨cssm,k1,k2⟩:=Uc he';have hpos:0<m.length:=by
  grind
 unfold room at hroom;have hb1:(l.length+m.length)*i.bytes<=4294967296*32768:=Za8 hroom hby;have hfl:css.flatten.length=l.length*i.size:=by rw[hsz];exact g1.flat_len
 have hfm:cssm.flatten.length=m.length*i.size:=by rw[hsz];exact k1.flat_len
 have e2:=run_append_grow (P:=P) w t ty E i z ht hi hz bd l.length l.length css.flatten hfl (λj x hx=>by simp_all) ad m.length cap cssm.flatten hfm (λj x hx=>by simp_all) O O
  (growslice_fits O O)
 have hge:=grownCap_ge w (l.length+m.length) l.length E;have hcm:grownCap w (l.length+m.length) l.length E<=maxLen:=grownCap_le_maxLen w (l.length+m.length) l.length E (by grind[maxLen]);have hlen:(l++m).length=l.length+m.length:=Ba;refine⟨some ⟨w.heap.size,0,none⟩,grownCap w (l.length+m.length) l.length E,_,by rw[hlen];exact e2,.inl ⟨some w.heap.size,λ_=>False,css++cssm,?_,⟨?_,.inr ⟨w.heap.size,_,_,rfl,BP _,heap_alloc_new w.drew _,by omega,hcm,?_,?_⟩⟩,rfl,?_,λk hk=>hk.elim⟩,?_⟩
 ·exact Css.append ⟨g1.1,λi cs x hi hx=>Flat.iff.2 (Flat.iff.1 (g1.2 i cs x hi hx))⟩ ⟨k1.1,λi cs x hi hx=>Flat.iff.2 (Flat.iff.1 (k1.2 i cs x hi hx))⟩
 ·grind
 ·simp only[Array.size_append,Zav,size_zeroCells,hfl,hfm,hsz,hzs,<-Zax];simp_all
 ·grind[Array.toList_append,List.append_assoc,List.flatten_append,Nat.add_mul,List.length_append,List.take_left]
 ·simp
 ·exact⟨rfl,rfl,rfl,by simp,λk hk _=>heap_alloc_old w.drew _ hk⟩
end
section
variable{ρ α:Type}[Flat ρ][Rep α]
variable{P:Program}{B:Bs}{N:Nat}{σ:List (Nat×Value)}{Γ:List HP}{Φ:List RF}{a:Act}{w:World}{Q:Exit->Act->World->Prop}{ops:Array Oper}{k d:Nat}{t t' ty:TypeId}{x y:Operand}{pos:String}{af:Array Edge}
def Eapf[RawOf ρ α]{b:Option Addr}{u:Value}{xs ms r:List α}(E:TypeId)(c:Cx B N σ Γ Φ a w)(hl:Ava [] Φ w (RO (.slice b xs.length xs.length) xs))(hu:Ava [] Φ w (RO u ms))(hr:app? xs ms=some r)
  (h:∀(rs:List ρ)a' c' fr w',Cx B N ((d,.slice a' r.length c')::σ) (Γ++[SL E (.slice a' r.length c') rs]) (Φ++[CS rs r]) fr w'->wpFrom P ops Q (k+1) fr w')(hm:ms≠[]:=by exact List.cons_ne_nil _ _)
  (ho:ops[k]? =some ⟨some d,.call ⟨.builtin .append,#[x,y],#[t,t']⟩,ty,pos,af,none⟩:=by rfl)(htt:t'=t:=by rfl)(hd:Nat.blt d N=true:=by rfl)(he:ElT P E ρ:=by refine elT ?_;kernel_rfl)(ht:P.underlying t=some (.slice E):=by kernel_rfl)
  (hx:opd σ x=some (.slice b xs.length xs.length):=by kernel_rfl)(hy:opd σ y=some u:=by kernel_rfl):wpFrom P ops Q k a w:=by
 obtain⟨hF,S,F,hM,hs,hf⟩:=c;subst htt;obtain⟨rl,f1,f2⟩:=Ps (ρ:=ρ) (hl.ro hf);obtain⟨rm,g1,g2⟩:=Ps (ρ:=ρ) (hu.ro hf);have hl1:rl.length=xs.length:=by simpa using f2.1
 have hl2:rm.length=ms.length:=by simpa using g2.1
 obtain⟨h1,h2⟩:=app?_raw (l':=rl) (m':=rm) hr hl1 hl2;unfold app? at h1;split at h1
 ·rename_i hroom;have hne:rm≠[]:=λe=>by grind
  rw[<-hl1]at f1 hx;obtain⟨a',c',w',hrun,hok,hc⟩:=Qu (P:=P) (ty:=ty) ht he f1 g1 hne hroom;obtain⟨S',hp,hs'⟩:=hs.new hM hc hok;have hlen:(rl++rm).length=r.length:=by simp_all
  have hcs:=Pt f2 g2;rw[<-h2]at hcs;have hcs':Css w' F ((rl++rm).map Flat.enc) r:=hcs.keep λk hk hf=>⟨hp.chg.block k hk λhS=>hM.dj k hS hf,hf⟩;refine ZB hF ho rfl rfl (Bc.mp hd) (R:=λz w1=>z= .slice a' (rl++rm).length c'/\w1=w') (Zg ?_ ⟨rfl,rfl⟩) λz w1 fr hz hF'=>?_
  ·simp[execOp,resolve,invoke,builtin,Ze hF hx,Ze hF hy,hrun]
  ·obtain⟨rfl,rfl⟩:=hz;rw[hlen]at hs' hF';exact h (rl++rm) a' c' fr _ ⟨hF',S',F,hM.stp hp,ZP (Γ2:=[_]) hs',(hf.chg hp.chg λk hk hS=>hM.dj k hS hk).add (R:=CS (rl++rm) r) hcs'⟩
 ·cases h1
end
section
def EP(α:Type)[Rep α](v:Value)(n:Int)(p:Addr):Prop:=∃ad len cap,v= .slice (some ad) len cap/\p=ad.add (n.toNat*Rep.sz α)/\0<=n/\n<((len:Nat):Int)
variable{ρ α:Type}[Flat ρ][Rep α]
variable{P:Program}{B:Bs}{N:Nat}{σ:List (Nat×Value)}{Γ:List HP}{Φ:List RF}{a:Act}{w:World}{Q:Exit->Act->World->Prop}{ops:Array Oper}{pds:List Pd}{j k d i:Nat}{t t' ty:TypeId}{x y z:Operand}{pos:String}{af:Array Edge}{v:Value}{n:Int}{p:Addr}{E:TypeId}
def EP.one{p':Addr}(h:EP α v n p)(h':EP α v n p'):p=p':=by
 obtain⟨ad,len,cap,rfl,rfl,_⟩:=h;obtain⟨ad',len',cap',e,rfl,_⟩:=h';simp_all
def qIo{S:List (Nat×Value)}(h:EP α v n p)(ho:ops[i]? =some ⟨some d,.indexAddr t x y,ty,pos,af,none⟩:=by rfl)(hdN:Nat.blt d N=true:=by rfl)(ht:P.underlying t=some (.slice E):=by rfl)(he:Ty P E α:=by constructor<;>kernel_rfl)(hx:opd S x=some v:=by kernel_rfl)(hy:numOf (opd S y)=some n:=by kernel_rfl)
  (a:Act)(w:World)(c:Cx B N S Γ Φ a w):wpOp P ops Q i (λa' w'=>Cx B N ((d,.pointer (some p))::S) Γ Φ a' w') a w:=by
 obtain⟨ad,len,cap,rfl,rfl,hn,hlt⟩:=h;obtain⟨kd,hy⟩:=Yp hy;have h1:=Ze c.fr hx;have h2:=Ze c.fr hy;refine qV ho rfl rfl hdN c (Zg (v:=.pointer (some (ad.add (n.toNat*Rep.sz α)))) (w':=w) ?_ ⟨rfl,rfl⟩);simp[execOp,Instr.indexAt,h1,h2,asIntOf,run_underlying ht,hn,hlt,he.sizeOf]
end
section
variable{P:Program}{B:Bs}{N:Nat}{σ:List (Nat×Value)}{Γ:List HP}{Φ:List RF}{a:Act}{w:World}{Q:Exit->Act->World->Prop}
  {draw:Bool}{ms:List Nat}{ops:Array Oper}{pds:List Pd}{j:Nat}{dst:Option Tmp}{g:Option (Nat×Bool)}{t ty:TypeId}{y:Operand}{pos:String}{af:Array Edge}
theorem NfaS{α β:Type}[Rep α][Rep β]{q:α}{x:β}{s fl off:Nat}(c:Cx B N σ Γ Φ a w)(i:Nat)(hpi:pds.getD i .any= .is λv w=>ElemP w (λ_=>True) v q)(hu:∀{w:World}{F:Nat->Prop}{cs:List Value},Rep.ok w F cs q->∃u,cs[off]? =some u/\(RO u x).ok w F)(hag:Rep.agg β=false:=by rfl)(ho:ops[j]? =some ⟨dst,.fieldAddr t (.tmp s) fl,ty,pos,af,g⟩:=by rfl)(hj:Nat.blt j ops.size=true:=by rfl)(hl:lastW ops s j=some i:=by rfl)(hok:okG ops ops.size j i=true:=by rfl)
  (hoff:fieldOff P t fl=some off:=by kernel_rfl)(hG:Good ops pds [])(hpd:pds.getD j .any= .is λv w=>ElemP w (λ_=>True) v x):NPB P draw ms ops pds a w Q j:=
 Tx _ ho hG c.fr λa' w' _ hg _ hk=>by
  have h:=Ut hG hj hl hok hg (hk s ae);rw[hpi]at h;obtain⟨ad,cs,hv,_,h1,h2⟩:=h;obtain⟨u,hu1,hu2⟩:=hu h1
  refine Zg (v:=.pointer (some (ad.add off))) (w':=w') (TJ (P:=P) (ρ:=λy=>match y with|.tmp s'=>if s'=s then some (.pointer (some ad))else none|_=>none) (ρ':=a'.eval) (λy z hy=>by
   grind) (by simp[pe,hoff]) w') ?_
  rw[hpd];refine⟨⟨_,[u],rfl,trivial,RV.one hag hu2,λi' q' hq=>?_⟩,Chg.refl _ _⟩;cases i' with
  |zero=>
   simp only[BA,Option.some.injEq]at hq;subst hq;exact h2 off u hu1
  |succ j=>simp at hq
def NixR{α:Type}[Rep α]{e:TypeId}{l:List α}{n:Int}{z:α}{s:Nat}(c:Cx B N σ Γ Φ a w)(i:Nat)(hpi:pds.getD i .any= .is λv w=>RV w (λ_=>True) v l)(hz:gc ops pds ops.size j->get? l n=some z)(ho:ops[j]? =some ⟨dst,.indexAddr t (.tmp s) y,ty,pos,af,g⟩:=by rfl)(hj:Nat.blt j ops.size=true:=by rfl)(hl:lastW ops s j=some i:=by rfl)(hok:okG ops ops.size j i=true:=by rfl)
  (ht:P.underlying t=some (.slice e):=by rfl)(he:Ty P e α:=by constructor<;>kernel_rfl)(hy:numOf (envP ops σ pds j y)=some n:=by kernel_rfl)(hG:Good ops pds [])(hpd:pds.getD j .any= .is λv w=>ElemP w (λ_=>True) v z):NPB P draw ms ops pds a w Q j:=by
 obtain⟨kd,hy⟩:=Yp hy;refine Tx _ ho hG c.fr λa' w' _ hg hv hk=>?_;have h:=Ut hG hj hl hok hg (hk s ae);rw[hpi]at h;exact(Ul rfl ht he rfl h (hv y _ ae hy) (get?_nn (hz hg)) (get?_at (hz hg))).mono λv w'⟨h1,h2⟩=>by
  subst h2;rw[hpd];exact⟨h1,Chg.refl _ _⟩
end
instance{α:Type}[Rep α]:RawOf Hd (List α)where
 sz:=rfl
 agg:=rfl
 ex:=λ{w F cs x}h=>by
  have h1:RV w F (Rep.val (List α) cs) x:=⟨cs,h,rfl⟩;obtain⟨a,c,e,_⟩:=RV.slice h1;have hl:=Rep.len h
  match cs,hl with
  |[u],_=>exact⟨⟨a,x.length,c⟩,by rw[show u= .slice a x.length c from e];rfl⟩
section
variable{P:Program}{K V:TypeId}{κ ρ α:Type}[Flat κ][Flat ρ][Rep α][RawOf ρ α][DecidableEq κ]
variable{B:Bs}{N:Nat}{σ:List (Nat×Value)}{Γ:List HP}{Φ:List RF}{a:Act}{w:World}{Q:Exit->Act->World->Prop}{T:MapT P K V κ ρ}{own:ρ->α->HP}
  {ops:Array Oper}{k d b:Nat}{t ty:TypeId}{pos:String}{af:Array Edge}{x y z:Operand}{v:Value}
end
section
variable{P:Program}{B:Bs}{N:Nat}{σ:List (Nat×Value)}{Γ:List HP}{Φ:List RF}{a:Act}{w:World}{Q:Exit->Act->World->Prop}
  {ops:Array Oper}{k d:Nat}{t t' ty:TypeId}{pos:String}{af:Array Edge}{x y:Operand}{α:Type}[Flat α]{E:TypeId}{l r m:List α}{b a':Option Addr}{n0 cp c':Nat}{lo n:Int}{u:Value}
end
section
variable{P:Program}{B:Bs}{N:Nat}{σ:List (Nat×Value)}{Γ:List HP}{Φ:List RF}{a:Act}{w:World}{Q:Exit->Act->World->Prop}
  {ops:Array Oper}{k d d2:Nat}{t t' ty ty':TypeId}{pos pos':String}{af af':Array Edge}{x y:Operand}{E E':TypeId}{l r m:List Int}{v u:Value}{rs:List Hd}{xs:List (List Int)}
end
section
variable{P:Program}{B:Bs}{N:Nat}{σ:List (Nat×Value)}{Γ:List HP}{Φ Φ1:List RF}{a:Act}{w:World}{Q:Exit->Act->World->Prop}
  {draw:Bool}{ms:List Nat}{ops:Array Oper}{pds:List Pd}{j:Nat}{dst:Option Tmp}{g:Option (Nat×Bool)}{ty:TypeId}{x:Operand}{pos:String}{af:Array Edge}
end
open Go.RowKit Go.Maps
def MX{H:Type}{P:Program}{k:TypeId}{R:Value->Option (DataW H×List MemPlace)}{w w':World}{S:Nat->Prop}{b r n cnt:Nat}{D:DataW H}{left:Lit->Bool}
  (h:w.ranges P k R b r n D left cnt)(hc:Chg S w w')(hb:¬S b)(hr:¬S r):w'.ranges P k R b r n D left cnt:=by
 have h1:=h.owns.lt;have h2:=h.lt;obtain⟨es,clock,since,seen,c0,hb',F,hs,hD,hr',rest⟩:=h;exact⟨es,clock,since,seen,c0,(hc.block b h1 hb).trans hb',F,hs,hD,(hc.block r h2 hr).trans hr',rest⟩
def Chg.of_grownN{w w':World}(h:w.grownBy w' none):Chg Non w w':=⟨h.os,h.tape,h.output,h.size,λk hk _=>h.block k hk U⟩
section
variable{P:Program}{K V:TypeId}{κ β:Type}[Flat κ][Flat β][DecidableEq κ]
def RG(T:MapT P K V κ β)(b r:Nat)(m:List (κ×β))(left:Lit->Bool)(cnt:Nat):HP where
 ok w A:=(∃n,w.ranges P K T.R b r n (T.D m) left cnt)/\(∀p∈m,T.fit p.1=true)/\A b/\A r
 mono:=λ⟨⟨n,h⟩,hf,hb,hr⟩hA=>⟨⟨n,h⟩,hf,hA _ h.owns.lt hb,hA _ h.lt hr⟩
 keep:=λ⟨⟨n,h⟩,hf,hb,hr⟩hc hT=>⟨⟨n,MX h hc (hT _ hb) (hT _ hr)⟩,hf,hb,hr⟩
omit [DecidableEq κ]in
theorem MapT.none_(T:MapT P K V κ β){kl:Lit}(z:DataW Value):∀m:List (κ×β),(∀p∈m,T.lit p.1≠kl)->(T.D m).atKey kl z=z
 |[],_=>rfl
 |(u,y)::m,h=>by
  rw[MapT.D,atKey_put_other (λe=>h (u,y) CZ e.symm)];exact MapT.none_ T z m λp hp=>h p (CX _ hp)
omit [Flat κ] [Flat β]in
theorem Qk{x:κ}:∀{m:List (κ×β)},(∃p∈m,p.1=x)->∃y,m.lookup x=some y
 |[],⟨p,hp,_⟩=>by cases hp
 | (u,y)::m,h=>by
  by_cases e:x=u
  ·subst e;exact⟨y,by simp[List.lookup]⟩
  ·have e':(x==u)=false:=by simpa using e
   obtain⟨p,hp,rfl⟩:=h;rcases CW.1 hp with rfl|hp
   ·exact absurd rfl e
   ·obtain⟨z,hz⟩:=Qk (x:=p.1) ⟨p,hp,rfl⟩;exact⟨z,by rw[CO,e'];exact hz⟩
def MapT.came(T:MapT P K V κ β){m:List (κ×β)}(hf:∀p∈m,T.fit p.1=true){kl:Lit}{v:Value}{y:DataW Value×List MemPlace}(hv:T.R v=some y)(hat:∀zd,(T.D m).atKey kl zd=y.1):
  ∃x z,T.fit x=true/\T.lit x=kl/\m.lookup x=some z/\v=Rep.val β (Flat.enc z):=by
 by_cases hk:∃p∈m,T.lit p.1=kl
 ·obtain⟨p,hp,rfl⟩:=hk;have hfit:=hf p hp;obtain⟨z,hz⟩:=Qk (x:=p.1) ⟨p,hp,rfl⟩;refine⟨p.1,z,hfit,rfl,hz,?_⟩;have h1:=hat (.map []);rw[T.at_ hfit _ m hf,hz]at h1;simp only at h1;obtain⟨y1,ps⟩:=y;simp only at h1;subst h1;exact T.back v z ps hv
 ·exfalso;have hn:∀p∈m,T.lit p.1≠kl:=λp hp e=>hk ⟨p,hp,e⟩;have h1:=hat (.lit (.bool true));have h2:=hat (.lit (.bool false));rw[T.none_ _ m hn]at h1 h2;rw[<-h2]at h1;cases h1
end
section
variable{P:Program}{B:Bs}{N:Nat}{σ:List (Nat×Value)}{Γ:List HP}{Φ:List RF}{a:Act}{w:World}{Q:Exit->Act->World->Prop}{K':Act->World->Prop}
  {ops:Array Oper}{k d:Nat}{t t' ty yt:TypeId}{pos:String}{af:Array Edge}{x y:Operand}
  {K V:TypeId}{κ β:Type}[Flat κ][Flat β][DecidableEq κ]{T:MapT P K V κ β}{b r:Nat}{m:List (κ×β)}{left:Lit->Bool}{cnt:Nat}
def Ern(i:Nat)(c:Cx B N σ Γ Φ a w)
  (h:∀r fr w',Cx B N ((d,.pointer (some ⟨r,0,none⟩))::σ) (Γ.set i (RG T b r m (Maps.has (T.D m)) (Maps.size (T.D m)))) Φ fr w'->wpFrom P ops Q (k+1) fr w')(hi:Γ[i]? =some (MP T b m):=by rfl)
  (ho:ops[k]? =some ⟨some d,.range t x,ty,pos,af,none⟩:=by rfl)(hd:Nat.blt d N=true:=by rfl)(ht:P.underlying t=some (.map K V):=by kernel_rfl)(hx:opd σ x=some (.map (some b)):=by kernel_rfl):wpFrom P ops Q k a w:=by
 obtain⟨hF,S,F,hM,hs,hf⟩:=c;obtain⟨A,⟨hown,hA⟩,hup⟩:=hs.upd i hi hM;obtain⟨w',hrun,hrg,hg,hsz⟩:=hown.1.range T.keyed ht;refine ZB hF ho rfl rfl (Bc.mp hd) (R:=λz w1=>z= .pointer (some ⟨w.heap.size,0,none⟩)/\w1=w') (Zg ?_ ⟨rfl,rfl⟩) λz w1 fr hz hF'=>?_
 ·simp[execOp,Ze hF hx,hrun]
 ·obtain⟨rfl,rfl⟩:=hz;obtain⟨S',hp,hs'⟩:=hup (P':=RG T b w.heap.size m (Maps.has (T.D m)) (Maps.size (T.D m))) (Chg.of (Chg.of_grownN hg)) ⟨⟨_,hrg⟩,hown.2,.inl hA,.inr (CK _)⟩;exact h _ fr w1 ⟨hF',S',F,hM.stp hp,hs',hf.chg hp.chg λk hk hS=>hM.dj k hS hk⟩
def Enx(i:Nat)(hback:∀key x,keyOf P K key=some (T.lit x)->key=Rep.val κ (Flat.enc x))(c:Cx B N σ Γ Φ a w)
  (h0:(∀kl,left kl=false)->∀fr,Cx B N ((d,.tuple #[.bool false])::σ) Γ Φ fr w->wpFrom P ops Q (k+1) fr w)
  (h1:∀(u:κ)(z:β)cnt' fr w',T.fit u=true->m.lookup u=some z->left (T.lit u)=true->cnt'<cnt->(Instr.entry (.pointer (some ⟨r,0,none⟩))).run P w'= .ok (.tuple #[Rep.val κ (Flat.enc u),Rep.val β (Flat.enc z)]) w'->Cx B N ((d,.tuple #[.bool true,Rep.val κ (Flat.enc u),Rep.val β (Flat.enc z)])::σ) (Γ.set i (RG T b r m (λq=>left q&& !q.sameKey (T.lit u)) cnt')) Φ fr w'->wpFrom P ops Q (k+1) fr w')
  (hi:Γ[i]? =some (RG T b r m left cnt):=by rfl)(ho:ops[k]? =some ⟨some d,.next x false,ty,pos,af,none⟩:=by rfl)(hd:Nat.blt d N=true:=by rfl)(hx:opd σ x=some (.pointer (some ⟨r,0,none⟩)):=by kernel_rfl):wpFrom P ops Q k a w:=by
 obtain⟨hF,S,F,hM,hs,hf⟩:=c;obtain⟨A,⟨⟨n,hrg⟩,hfit,hAb,hAr⟩,hup⟩:=hs.upd i hi hM;rcases hrg.next T.keyed ty with⟨_,hl,hrun⟩|⟨key,v,kl,y,w',cnt',hkey,hlk,hv,hat,hrun,hrg',hlt,hgr,hsz,hen⟩
 ·refine ZB hF ho rfl rfl (Bc.mp hd) (R:=λz w1=>z= .tuple #[.bool false]/\w=w1) (Zg ?_ ⟨rfl,rfl⟩) λz w1 fr hz hF'=> ?_
  ·simp[execOp,Ze hF hx,hrun]
  ·obtain⟨rfl,rfl⟩:=hz;exact h0 hl fr ⟨hF',S,F,hM,hs,hf⟩
 ·obtain⟨u,z,hu,rfl,hz,rfl⟩:=T.came hfit hv hat;obtain rfl:=hback key u hkey;refine ZB hF ho rfl rfl (Bc.mp hd) (R:=λq w1=>q= .tuple #[.bool true,Rep.val κ (Flat.enc u),Rep.val β (Flat.enc z)]/\w1=w') (Zg ?_ ⟨rfl,rfl⟩) λq w1 fr hq hF'=>?_
  ·simp[execOp,Ze hF hx,hrun]
  ·obtain⟨rfl,rfl⟩:=hq;have hc:Chg A w w1:=(Chg.of_grown hgr).mono λk hk=>by subst hk;exact hAr
   obtain⟨S',hp,hs'⟩:=hup (P':=RG T b r m (λq=>left q&& !q.sameKey (T.lit u)) cnt') hc ⟨⟨n,hrg'⟩,hfit,.inl hAb,.inl hAr⟩;exact h1 u z cnt' fr w1 hu hz hlk hlt hen ⟨hF',S',F,hM.stp hp,hs',hf.chg hp.chg λk hk hS=>hM.dj k hS hk⟩
def Een{v:Value}(c:Cx B N σ Γ Φ a w)(hen:(Instr.entry (.pointer (some ⟨r,0,none⟩))).run P w= .ok v w)(h:∀fr,Cx B N ((d,v)::σ) Γ Φ fr w->wpFrom P ops Q (k+1) fr w)
  (ho:ops[k]? =some ⟨some d,.entry x,ty,pos,af,none⟩:=by rfl)(hd:Nat.blt d N=true:=by rfl)(hx:opd σ x=some (.pointer (some ⟨r,0,none⟩)):=by kernel_rfl):wpFrom P ops Q k a w:=
 ZB c.fr ho rfl rfl (Bc.mp hd) (R:=λq w1=>q=v/\w=w1) (Zg (by simp[execOp,Ze c.fr hx,hen]) ⟨rfl,rfl⟩) λq w1 fr hq hF'=>by
  obtain⟨rfl,rfl⟩:=hq;exact h fr (c.to hF')
theorem Er{c:Code}(I:Nat->Act->World->Prop){n:Nat}(h0:I n a w)(round:∀n a w,I n a w->c.wp P (Exit.then (λa' w'=>∃n',n'<n/\I n' a' w') Q) a w):(Code.loop c).wp P Q a w:=by
 have key:∀n a w,I n a w->∀(b:Frame)(K:List Item)(cs:List Frame),
   ∃e a' w',Q e a' w'/\Arrives P (lone (b.at a (.code c:: .inLoop c::K)) cs w) b K cs e a' w':=by
  intro n
  induction n using Nat.strongRecOn with
  | ind n ih=>
   intro a w hI b K cs;obtain⟨e,a₁,w₁,hq,harr⟩:=round n a w hI b (.inLoop c::K) cs;cases e with
   |normal=>
    obtain⟨n',hn,hI'⟩:=hq;obtain⟨e₂,a₂,w₂,hq₂,harr₂⟩:=ih n' hn a₁ w₁ hI' b K cs;exact⟨e₂,a₂,w₂,hq₂,.of_steps (Steps.trans harr (.one step_inLoop)) harr₂⟩
   |exit id=>exact⟨_,a₁,w₁,hq,.pass (x:=.inLoop c) rfl (λ_ _=>.inl U) harr⟩
   |goto l=>exact⟨_,a₁,w₁,hq,.pass (x:=.inLoop c) rfl (λ_ _=>.inl U) harr⟩
   |ret=>exact⟨_,a₁,w₁,hq,.pass (x:=.inLoop c) rfl (λ_ _=>.inl U) harr⟩
   |panic ch=>exact⟨_,a₁,w₁,hq,.pass (x:=.inLoop c) rfl (λ_ _=>.inl U) harr⟩
   |outgrown=>exact⟨_,a₁,w₁,hq,.pass (x:=.inLoop c) rfl (λ_ _=>.inl U) harr⟩
 intro b K cs;obtain⟨e,a',w',hq,harr⟩:=key n a w h0 b K cs;exact⟨e,a',w',hq,.of_steps (.one step_loop) harr⟩
def LpW{id:Nat}{bd:Code}(I:Nat->Act->World->Prop)(M:Act->World->Prop){n:Nat}(h0:I n a w)
  (round:∀n a w,I n a w->bd.wp P (Exit.then (λa' w'=>∃n',n'<n/\I n' a' w') (Exit.inBlock id (Exit.then M Q))) a w)(cont:∀a w,M a w->K' a w):(Code.block id (.loop bd)).wp P (Exit.then K' Q) a w:=
 wp_cut (wp_block (Er I h0 round)) cont
end
open Go.RowKit Go.Shelf Go.Sort Go.Proofs Go.Lib
def Nl{w:World}{g:Nat}{cur:Array Value}{e:TypeId}{F:Array Value}(hb:w.heap[g]? =some (.cells cur e (0,0)))(ht:cur.toList.take F.size=F.toList):Holds id w g 0 F:=by
 intro j hj;refine⟨?_,by simp_all[World.frozen?]⟩;have h1:(cur.toList.take F.size)[j]? =F.toList[j]?:=by rw[ht]
 rw[Zaw hj]at h1;simp_all[World.cell?,Zao,Zaq,Cn,Cy,Ao]
def Nt{w:World}{g n:Nat}{os:Array Obj}{cur:Array Value}{e:TypeId}{fr:Nat×Nat}(F:Array Value)(hb:w.heap[g]? =some (.cells cur e fr)):
  (grow (putRow id (Sort.ahead w n) g 0 F) os).heap[g]? =some (.cells (putCells id 0 F cur) e fr):=by
 grind[Array.getElem?_eq_some_iff,heap_grow_old,putRow,mapBlock,Sort.ahead,onCells]
def Qt{w:World}{g n:Nat}{os:Array Obj}(F:Array Value):w.grownBy (grow (putRow id (Sort.ahead w n) g 0 F) os) (some g):=by
 refine⟨rfl,rfl,rfl,by simp,λk hk hne=>?_⟩;grind[heap_grow_old,putRow,mapBlock,Sort.ahead]
def QW(cur F:Array Value)(h:F.size<=cur.size):(putCells id 0 F cur).toList.take F.size=F.toList:=by
 apply BZ;grind[List.getElem?_take_of_lt,putCells,List.getElem?_take_eq_none,List.getElem?_eq_none]
section
variable{α:Type}[Flat α][Inhabited α]
omit[Inhabited α]in
def Kz(x:α):(Flat.enc x).length=Rep.sz α:=Rep.len (w:=default) (F:=Non) (Flat.iff.2 rfl:Rep.ok default Non (Flat.enc x) x)
omit [Inhabited α]in
def NH{w:World}{F:Nat->Prop}{css:List (List Value)}{l:List α}(h1:Css w F css l):css=l.map Flat.enc:=by
 apply BZ;intro i;rw[Bt];by_cases hi:i<l.length
 ·have hc:i<css.length:=by rw[h1.1];exact hi
  have:=h1.2 i css[i] l[i] (Cv hc) (Cv hi);rw[Cv hc,Cv hi,Flat.iff.1 this];rfl
 ·rw[Bu (by rw[h1.1];omega),Bu O];rfl
omit [Flat α] [Inhabited α]in
theorem KA{k:Nat}(enc:α->List Value)(hk:∀x,(enc x).length=k)(h0:0<k):∀(l:List α)(t:Nat),(l.map enc).flatten[t]? =(l[t/k]?).bind λx=>(enc x)[t%k]?
 |[],t=>by simp
 | x::l,t=>by
  rw[Bn,Au];by_cases h:t<k
  ·rw[Be (by rw[hk];exact h),Nat.div_eq_of_lt h,Nat.mod_eq_of_lt h];rfl
  ·rw[Bg (by rw[hk];omega),hk,KA enc hk h0 l];obtain⟨u,rfl⟩:∃u,t=u+k:=⟨t-k,by omega⟩;rw[Nat.add_sub_cancel,Nat.add_div_right _ h0,Nat.add_mod_right];rfl
omit [Flat α]in
theorem Lx{k:Nat}(enc:α->List Value)(hk:∀x,(enc x).length=k)(h0:0<k)(l:List α):(flatK enc k l.toArray).toList=(l.map enc).flatten:=by
 have hlen:(l.map enc).flatten.length=l.length*k:=by
  clear h0
  induction l with
  |nil=>simp
  |cons x l ih=>rw[Bn,Au,Ba,hk,ih,Bp,Zax,Nat.one_mul,Nat.add_comm]
 apply BZ;intro t;by_cases ht:t<l.length*k
 ·rw[KA enc hk h0];have hq:t/k<l.length:=Nat.div_lt_of_lt_mul (by rw[Nat.mul_comm];exact ht);have hm:t%k<k:=Nat.mod_lt _ h0;have h1:=get_flatK enc k l.toArray t (by simpa using ht);have h2:t<(flatK enc k l.toArray).size:=by simpa using ht
  rw[Ao,Bv h2];rw[getElem!_pos _ t h2]at h1;rw[h1];have h3:l.toArray[t/k]! =l[t/k]:=by simp[hq]
  rw[h3,Cv hq];simp only[Cm];rw[Cv (by rw[hk];exact hm),getElem!_pos _ _ (by rw[hk];exact hm)]
 ·rw[Bu (by simpa using ht),Bu (by rw[hlen];omega)]
def OwnS.sortedF{w:World}{E:TypeId}{go:Option Nat}{G:Nat->Prop}{a:Option Addr}{n c:Nat}{l:List α}(h:OwnS w E go G Non (.slice a n c) l)(hl:n≠0)(h0:0<Rep.sz α):
  n=l.length/\∃g,a=some ⟨g,0,none⟩/\g<w.heap.size/\HoldsK Flat.enc (Rep.sz α) w g 0 l.toArray/\
   ∀k os(l':List α),l'.length=l.length->OwnS (grow (putRowK Flat.enc (Rep.sz α) (Sort.ahead w k) g 0 l'.toArray) os) E go G Non (.slice a n c) l'/\Chg (λk=>go=some k) w (grow (putRowK Flat.enc (Rep.sz α) (Sort.ahead w k) g 0 l'.toArray) os):=by
 obtain⟨F,css,h1,h2,h3,h4,h5⟩:=h;rcases h2.2 with⟨hn,hz⟩|⟨g,cap,cur,hv,hb,hg,hnc,hcm,hcs,htake⟩
 ·simp_all
 obtain⟨rfl,rfl,rfl⟩:=hv;obtain rfl:=NH h1;have hgo:go=some g:=by rw[<-h3];rfl
 have hgs:g<w.heap.size:=(CU.1 hg).1;have hfl:∀l':List α,(flatK Flat.enc (Rep.sz α) l'.toArray).toList=(l'.map Flat.enc).flatten:=λl'=>Lx _ Kz h0 l';have hsz:∀l':List α,(flatK Flat.enc (Rep.sz α) l'.toArray).size=l'.length*Rep.sz α:=λl'=>by simp
 refine⟨rfl,g,rfl,hgs,Nl hg ai,λk os l' hlen=>?_⟩;have hgr:=Qt (w:=w) (g:=g) (n:=k) (os:=os) (flatK Flat.enc (Rep.sz α) l'.toArray);have hchg:Chg (λk=>go=some k) w (grow (putRowK Flat.enc (Rep.sz α) (Sort.ahead w k) g 0 l'.toArray) os):=
  ⟨hgr.os,hgr.tape,hgr.output,hgr.size,λk hk hn=>hgr.block k hk λe=>hn ai⟩
 have htk:=QW cur (flatK Flat.enc (Rep.sz α) l'.toArray) (by simp_all[Aw]);rw[hsz,hfl]at htk;refine⟨⟨Non,l'.map Flat.enc,QJ _,⟨?_,.inr ⟨g,c,_,by rw[hlen],hb,Nt _ hg,by omega,hcm,by simp_all[putCells],htk⟩⟩,h3,λg' hg'=>⟨(h4 g' hg').1,id⟩,λ_ h=>h.elim⟩,hchg⟩;grind
def SrtP(cf:α->α->Int)(l l':List α):Prop:=l'.Perm l/\l'.Pairwise λx y=>ltOf cf y x=false
omit [Flat α]in
def Dp{cf:α->α->Int}{l:List α}{d':Array α}(hp:PermIn 0 l.toArray.size l.toArray d')(hs:SortedIn (ltOf cf) 0 l.toArray.size d'):SrtP cf l d'.toList:=by
 obtain⟨h1,_,h3⟩:=hp;have e:d'.extract 0 l.toArray.size=d':=by rw[<-h1];simp
 rw[e]at h3;refine⟨by simpa using h3,Af.2 λi j hi hj hij=>?_⟩;have h:=hs i j (BP _) hij (by rw[<-h1];simpa using hj);rw[getElem!_pos d' i (by simpa using hi),getElem!_pos d' j (by simpa using hj)]at h;simpa using h
def Jl{P:Program}{ρ:Ren}(Ly:SlLaysF0.n6 P ρ){f g:Nat}(hf:ρ.f 6=f)(aE:∀w,(isAgg (ρ.t 24)).run P w= .ok true w)(zE:∀w,(Go.sizeOf (ρ.t 24)).run P w= .ok (Rep.sz α) w)(h0:0<Rep.sz α)(h1:∀x:α,∀v∈Flat.enc x,v.oneCell'=true)
  (cf:α->α->Int)(hO:SWO (ltOf cf))(eg:∀args w,(callFunc g args).run P w= .ok (.enter g args) w)
  (hcmp:∀(x y:α)W,Calls P g #[.agg (Flat.enc x).toArray,.agg (Flat.enc y).toArray] W λe w'=>e= .returned (.int .i64 (cf x y))/\∃q os',w'=grow (W.drewN q) os')
  {E:TypeId}{l:List α}(hl:l.length<4611686018427387904){a:Option Addr}{n c:Nat}:
  Con P f [.slice a n c,.func (.func g) #[] #[]] [SL E (.slice a n c) l] [] λ(i:{l':List α//SrtP cf l l'})=>([],[SL E (.slice a n c) i.1],[]):=by
 subst hf;intro w S F hs hfx hS hF hd;have hM:Mem w S F w S F:=Mem.start hS hF hd;obtain⟨hn,_⟩:=hs.relen 0 rfl;obtain⟨A,hok,hup⟩:=hs.upd 0 rfl hM;by_cases hz:n=0
 ·have hnil:l=[]:=BS O;subst hz hnil;refine(AnyF.slices_SortFunc_none Ly a c (.func (.func g) #[] #[]) w).mono ?_;rintro e w' ⟨rfl,rfl⟩;exact⟨⟨[],List.Perm.nil,List.Pairwise.nil⟩,S,F,rfl,hM,hs,λR hR=>by cases hR⟩
 ·rcases hok with⟨go,ho⟩|⟨rfl,q,hq⟩
  ·obtain⟨rfl,b,rfl,hb,hH,hnext⟩:=ho.sortedF hz h0;have hc:CmpLays P g #[] Flat.enc (Rep.sz α) cf b 0 l.toArray.size w:=λm os dk _ x y=>hcmp x y _;refine(AnyQ.slices_SortFunc Ly (Rep.sz α) aE zE Flat.enc Kz h1 cf hO g #[] b 0 c l.toArray w eg hc hH hb O).mono ?_;rintro e w' ⟨rfl,d',m,os,hp,hsd,rfl⟩;have hsr:=Dp hp hsd;obtain⟨g1,g2⟩:=hnext m os d'.toList (by simpa using hp.1);obtain⟨S',hp',hs'⟩:=hup (P':=SL E (.slice (some ⟨b,0,none⟩) l.length c) d'.toList) (g2.mono λk hk=>ho.inG hk) (.inl ⟨go,g1.regard λk _ hk=>.inl hk⟩);refine⟨⟨d'.toList,hsr⟩,S',F,rfl,?_,?_,λR hR=>by cases hR⟩
   ·simpa[sortWorldK]using hM.stp hp'
   simp_all[sortWorldK]
  simp_all
end
theorem Oj:∀x:List UInt8,Op.bytesLess x x=false
 |[]=>rfl
 |a::x=>by simp[Op.bytesLess,Oj x]
theorem Ql:∀x y z:List UInt8,Op.bytesLess x y=true->Op.bytesLess y z=true->Op.bytesLess x z=true
 |_,_,[]=>by simp[Op.bytesLess]
 |_,[],_::_=>by simp[Op.bytesLess]
 |[],_::_,_::_=>by intro _ _;rfl
 | a::x,b::y,c::z=>by
  intro h1 h2;simp only[Op.bytesLess,Bq,Cw,Co,Bl]at h1 h2⊢;rcases h1 with h1|⟨rfl,h1⟩
  ·grind
  ·rcases h2 with h2|⟨rfl,h2⟩
   ·exact .inl h2
   ·exact .inr ⟨rfl,Ql x y z h1 h2⟩
theorem PV:∀x y:List UInt8,Op.bytesLess x y=false->x≠y->Op.bytesLess y x=true
 |[],[]=>λ_ h=>absurd rfl h
 |_::_,[]=>λ_ _=>rfl
 |[],_::_=>λh _=>by simp_all[Op.bytesLess]
 | a::x,b::y=>by
  intro h1 h2;simp only[Op.bytesLess,Bool.or_eq_false_iff,decide_eq_false_iff_not,Bq,Cw,Co,Bl]at h1⊢;by_cases e:a=b
  ·subst e;have:Op.bytesLess x y=false:=by simp_all
   exact .inr ⟨rfl,PV x y this (λh=>h2 (by rw[h]))⟩
  grind
theorem IK(a b:Str):Str.ltb a b=Op.bytesLess a.bytes b.bytes:=by simp[Str.ltb,Go.Lib.toList_data]
theorem UN(a:Str):Str.ltb a a=false:=by simp[IK,Oj]
theorem Ub{a b c:Str}(h1:Str.ltb a b=true)(h2:Str.ltb b c=true):Str.ltb a c=true:=by grind[IK,Ql]
theorem OU{a b:Str}(h1:Str.ltb a b=false)(h2:a≠b):Str.ltb b a=true:=by
 exact PV _ _ h1 λe=>h2 (by cases a;simp_all)
abbrev ltV(a b:D.Value):Prop:=Str.ltb a.Name b.Name=true
theorem Qh:∀m:List (Str×Int),(vtab m).Pairwise ltV
 |[]=>List.Pairwise.nil
 |(s,w)::m=>by
  have ih:=Qh m;unfold vtab;rw[Bo,Az];refine⟨ih.filter _,?_,λa ha b hb=>?_⟩
  ·grind
  ·all_goals grind[Ub]
theorem VC(v:D.Value):∀m:List (Str×Int),v∈vtab m↔m.lookup v.Name=some v.W/\v.N=0
 |[]=>by simp[vtab]
 | (s,w)::m=>by
  have ih:=VC v m;unfold vtab;simp only[CQ,CP,CB,ih,CO];by_cases e:v.Name=s
  ·subst e;simp only[UN,Cn,and_false,false_or,or_false,BB,Option.some.injEq];constructor
   ·grind
   ·cases v;simp_all
  ·have e':(v.Name==s)=false:=by simpa using e
   rw[e'];have hne:v≠⟨s,w,0⟩:=λh=>e (by rw[h]);by_cases h:Str.ltb v.Name s=true
   all_goals simp_all[AZ,or_false,id,OU]
theorem EL:∀{l l':List D.Value},l.Pairwise ltV->l'.Pairwise ltV->(∀v,v∈l↔v∈l')->l=l'
 |[],[],_,_,_=>rfl
 |[],y::l',_,_,h=>by grind[List.mem_cons_self]
 |x::l,[],_,_,h=>by grind[List.mem_cons_self]
 | x::l,y::l',h1,h2,h=>by
  rw[AQ]at h1 h2;have hxy:x=y:=by
   grind[List.mem_cons_self,Ub,UN]
  congr 1;refine EL h1.2 h2.2 λv=>?_;have:=h v;simp only[CW]at this;constructor
  ·intro hv;rcases this.1 (.inr hv)with e|hv'
   ·have h3:=h1.1 v hv;simp_all[ltV,UN]
   ·exact hv'
  ·intro hv;rcases this.2 (.inr hv)with e|hv'
   ·have h3:=h2.1 v hv;simp_all[ltV,UN]
   ·exact hv'
def cmpS(a b:Str):Int:=if Str.ltb a b then-1 else if Str.gtb a b then 1 else 0
def cmpV(x y:D.Value):Int:=cmpS x.Name y.Name
theorem Dz(a b:Str):Str.gtb a b=Str.ltb b a:=by
 have h:Str.gtb a b= !(Str.ltb a b||Str.eqb a b):=rfl;by_cases e:a=b
 ·simp_all[UN,Str.eqb]
 ·have he:Str.eqb a b=false:=by
   unfold Str.eqb;have:a.bytes≠b.bytes:=λh=>e (by cases a;simp_all);simp_all
  grind[Str.ltb,Ub,UN,OU]
theorem QE(x y:D.Value):Go.Proofs.ltOf cmpV x y=Str.ltb x.Name y.Name:=by
 grind[Go.Proofs.ltOf,cmpV,cmpS,Dz,Str.ltb]
def swoV:Go.Sort.SWO (Go.Proofs.ltOf cmpV)where
 irrefl x:=by simp[QE,UN]
 trans x y z h1 h2:=by grind[QE,Ub]
 ntrans x y z h1 h2:=by
  grind[QE,Str.ltb,OU,Ub]
theorem LH:∀{l l':List D.Value},(l.Pairwise λa b=>a.Name≠b.Name)->(∀v∈l,v∈l')->l.length<=l'.length
 |[],_,_,_=>BP _
 | x::l,l',hn,h=>by
  rw[AQ]at hn;obtain⟨s,t,rfl⟩:=List.append_of_mem (h x CZ);have:=LH (l:=l) (l':=s++t) hn.2 λv hv=>by
   grind
  grind
theorem Sw:∀m:List (Str×Int),(vtab m).length<=m.length
 |[]=>CK _
 | (s,w)::m=>by
  have ih:=Sw m;have key:∀l:List D.Value,(l.filter λv=>Str.ltb v.Name s).length+(l.filter λv=>Str.ltb s v.Name).length<=l.length:=by
   intro l
   induction l with
   |nil=>simp
   |cons v l ihl=>
    grind[Str.ltb,Ub,UN]
  grind[vtab]
section
variable{α:Type}[Flat α]{P:Program}{B:Bs}{N:Nat}{σ:List (Nat×Value)}{Γ:List HP}{Φ:List RF}{a:Act}{w:World}{Q:Exit->Act->World->Prop}{ops:Array Oper}{k:Nat}{ty:TypeId}{x z:Operand}{pos:String}{af:Array Edge}{v:Value}{n:Int}{p:Addr}{E:TypeId}
def Cx.epq{l:List α}{q:α}(i:Nat)(c:Cx B N σ Γ Φ a w)(hx:get? l n=some q)(hi:Γ[i]? =some (SL E v l):=by rfl)(he:Ty P E α:=by constructor<;>kernel_rfl):∃p,EP α v n p:=by
 obtain⟨hF,S,F,hM,hs,hf⟩:=c;obtain⟨A,hok,hup⟩:=hs.upd i hi hM;unfold get? at hx;split at hx
 ·rename_i h0;have hl:n.toNat<l.length:=(CG.1 hx).1;rcases hok with⟨go,hown⟩|⟨rfl,_,_⟩
  ·obtain⟨g,w',hgo,⟨cc,hv⟩,-⟩:=hown.set_run (P:=P) he (Fr:=Non) (u:=Rep.val α (Flat.enc q)) (x:=q) ⟨_,Flat.iff.2 rfl,rfl⟩ (Fu:=Non) UV (λ_ _ h=>h.elim) (n:=n.toNat) hl;exact⟨_,_,_,_,hv,rfl,h0,by omega⟩
  ·simp at hl
 ·cases hx
def Esetq{l r:List α}{q:α}(i:Nat)(c:Cx B N σ Γ Φ a w)(hep:EP α v n p)(hr:set? l n q=some r)
  (h:∀fr w',Cx B N σ (Γ.set i (SL E v r)) Φ fr w'->wpFrom P ops Q (k+1) fr w')(hi:Γ[i]? =some (SL E v l):=by rfl)
  (ho:ops[k]? =some ⟨none,.store E x z,ty,pos,af,none⟩:=by rfl)(he:Ty P E α:=by constructor<;>kernel_rfl)(hp:opd σ x=some (.pointer (some p)):=by kernel_rfl)(hq:opd σ z=some (Rep.val α (Flat.enc q)):=by kernel_rfl):wpFrom P ops Q k a w:=by
 unfold set? at hr;split at hr
 ·rename_i hn;cases hr;obtain⟨hF,S,F,hM,hs,hf⟩:=c;obtain⟨A,hok,hup⟩:=hs.upd i hi hM;rcases hok with⟨go,hown⟩|⟨rfl,_,_⟩
  ·obtain⟨g,w',hgo,⟨cc,hv⟩,hrun,g1,g2⟩:=hown.set_run (P:=P) he (Fr:=Non) (u:=Rep.val α (Flat.enc q)) (x:=q) ⟨_,Flat.iff.2 rfl,rfl⟩ (Fu:=Non) UV (λ_ _ h=>h.elim) (n:=n.toNat) hn.2;obtain⟨ad,len,cap,e1,rfl,_⟩:=hep;rw[hv]at e1;obtain⟨e2,_,_⟩:=Value.slice.inj e1;cases e2;obtain⟨S',hpp,hs'⟩:=hup (P':=SL E v (l.set n.toNat q)) (g2.mono λk hk=>hown.inG hk) (.inl ⟨go,g1.regard λk _ hk=>.inl hk⟩);refine UF hF ho rfl rfl (R:=λ_ w2=>w2=w') (Ue ?_ rfl) λw2 hw2 hF2=>?_
   ·simp[execOp,Instr.storeAt,Ze hF hp,Ze hF hq,Instr.sureAddr,hrun]
   ·obtain⟨_,rfl⟩:=hw2;exact h _ _ ⟨hF2,S',F,hM.stp hpp,hs',hf.chg hpp.chg λk hk hS=>hM.dj k hS hk⟩
  ·simp at hn
 ·cases hr
end
section
variable{P:Program}{B:Bs}{N:Nat}{σ:List (Nat×Value)}{Γ:List HP}{Φ:List RF}{a:Act}{w:World}{Q:Exit->Act->World->Prop}{ops:Array Oper}{i g t d:Nat}{want:Bool}{o og:Oper}{u v:Value}
def Pz{K:Act->World->Prop}(c:Cx B N σ Γ Φ a w)(h:wpFrom P #[{o with guard:=none}] (Exit.then K Q) 0 a w)(ho:ops[i]? =some o:=by rfl)(hg:o.guard=some (g,want):=by rfl)(hog:ops[g]? =some og:=by rfl)(ht:og.dst=some t:=by rfl)(htN:Nat.blt t N=true:=by rfl)
  (hv:opd σ (.tmp t)=some (.bool want):=by kernel_rfl):wpOp P ops Q i K a w:=by
 have hy:=Uw c.fr hog ht htN hv;have hw:Region.wanted o (yielded ops a.tmps)=true:=by simp[Region.wanted,hg,hy]
 have h2:=Zc (P:=P) (ops:=#[{o with guard:=none}]) (i:=0) (Q:=Q) (K:=K) _ rfl rfl h;have hw2:∀y,Region.wanted {o with guard:=none} y=true:=λy=>by simp[Region.wanted]
 unfold wpOp at h2⊢;simp only[ho];rw[Cr hw];simp only[List.getElem?_toArray,BA]at h2;rw[Cr (hw2 _)]at h2;exact h2
def EW{K:Act->World->Prop}(c:Cx B N σ Γ Φ a w)(h:∀a',Cx B N ((d,undef)::σ) Γ Φ a' w->K a' w)(ho:ops[i]? =some o:=by rfl)(hg:o.guard=some (g,want):=by rfl)(hog:ops[g]? =some og:=by rfl)(ht:og.dst=some t:=by rfl)(hd:o.dst=some d:=by rfl)
  (htN:Nat.blt t N=true:=by rfl)(hdN:Nat.blt d N=true:=by rfl)(hv:opd σ (.tmp t)=some (.bool (!want)):=by kernel_rfl):wpOp P ops Q i K a w:=by
 have hy:=Uw c.fr hog ht htN hv;have hw:¬Region.wanted o (yielded ops a.tmps)=true:=by simp[Region.wanted,hg,hy]
 unfold wpOp;simp only[ho];rw[Cu hw,hd];exact h _ (c.to (c.fr.put (Bc.mp hdN) undef))
def qPT{S:List (Nat×Value)}(hs:List (Nat×Nat))(ho:ops[i]? =some o:=by rfl)(hg:o.guard=some (g,want):=by rfl)(hog:ops[g]? =some og:=by rfl)(ht:og.dst=some t:=by rfl)(htN:Nat.blt t N=true:=by rfl)(hv:opd S (.tmp t)=some (.bool want):=by kernel_rfl)
  (hk:(seqB P N (bxsOf Γ Φ) hs 0 [{o with guard:=none}] S).map (λr=>r.2.map (·.1))=some (((seqB P N (bxsOf Γ Φ) hs 0 [{o with guard:=none}] S).map (λr=>r.2.map (·.2))).getD []):=by kernel_rfl)(hσ:((seqB P N (bxsOf Γ Φ) hs 0 [{o with guard:=none}] S).getD ([],[])).1=(d,v)::S:=by kernel_rfl)(a:Act)(w:World)(c:Cx B N S Γ Φ a w):wpOp P ops Q i (λa' w'=>Cx B N ((d,v)::S) Γ Φ a' w') a w:=
 Pz c (Fp (ops:=#[{o with guard:=none}]) (k:=0) hs 1 c (λfr c=>E0 ai rfl) hk) ho hg hog ht htN hv
def qPS{S:List (Nat×Value)}(ho:ops[i]? =some o:=by rfl)(hg:o.guard=some (g,want):=by rfl)(hog:ops[g]? =some og:=by rfl)(ht:og.dst=some t:=by rfl)(hd:o.dst=some d:=by rfl)(htN:Nat.blt t N=true:=by rfl)(hdN:Nat.blt d N=true:=by rfl)(hv:opd S (.tmp t)=some (.bool (!want)):=by kernel_rfl)
  (a:Act)(w:World)(c:Cx B N S Γ Φ a w):wpOp P ops Q i (λa' w'=>Cx B N ((d,undef)::S) Γ Φ a' w') a w:=EW c (λ_ c=>c) ho hg hog ht hd htN hdN hv
def qPk{S:List (Nat×Value)}{b:Bool}{p x y:Operand}{ty:TypeId}{pos:String}{af:Array Edge}(ho:ops[i]? =some ⟨some d,.pick p x y,ty,pos,af,none⟩:=by rfl)(hd:Nat.blt d N=true:=by rfl)
  (hc:opd S p=some (.bool b):=by kernel_rfl)(hv:opd S (if b then x else y)=some v:=by kernel_rfl)(a:Act)(w:World)(c:Cx B N S Γ Φ a w):wpOp P ops Q i (λa' w'=>Cx B N ((d,v)::S) Γ Φ a' w') a w:=
 Zc _ ho rfl (Epk (b:=b) (v:=v) c (λ_ c=>E0 c rfl) rfl hd hc hv)
end
def Nmk{P:Program}{B:Bs}{N:Nat}{σ:List (Nat×Value)}{Γ:List HP}{Φ:List RF}{a:Act}{w:World}{Q:Exit->Act->World->Prop}{ms:List Nat}{ops:Array Oper}{pds:List Pd}{j:Nat}{dst:Option Tmp}{g:Option (Nat×Bool)}{t ty:TypeId}{pos:String}{af:Array Edge}{ow:Nat->Nat}
  {α:Type}[Flat α]{E:TypeId}{n:Int}{zc:α}{r:List α}{x y:Operand}(c:Cx B N σ Γ Φ a w)(hr:gc ops pds ops.size j->mk? n zc=some r)(ho:ops[j]? =some ⟨dst,.makeSlice t x y,ty,pos,af,g⟩:=by rfl)(ht:P.underlying t=some (.slice E):=by kernel_rfl)(he:ElT P E α:=by refine elT ?_;kernel_rfl)
  (hz:(P.info? E).map (λi=>i.zero.map λz=>z.cells.toList)=some (some (Flat.enc zc)):=by kernel_rfl)(hx:envP ops σ pds j x=some (.int .i64 n):=by kernel_rfl)(hy:envP ops σ pds j y=some (.int .i64 n):=by kernel_rfl)(hG:Good ops pds [])
  (hpd:pds.getD j .any= .is λv w'=>∃i:Option Addr×Nat,v= .slice i.1 (List.length r) i.2/\(SL E (.slice i.1 (List.length r) i.2) r).ok w' (λk=>w.heap.size<=k/\k<w'.heap.size/\ow k=j)):NPO P ms ops pds a w Q ow j:=
 FK hG c.fr ht he (λ_=>Od _ hz) ho hx hy hr hpd
end Go.GL
end
