/- Texts of this claim put into one: library or plain laws, without the program under test. -/
import Derived.Test.YtjhiajehpjpibaaGreatDoorLib3
set_option linter.unusedSimpArgs false
set_option linter.unusedVariables false
set_option linter.defProp false
section
namespace Go.GL
open Go.RowKit
section
variable{P:Program}{B:Bs}{N:Nat}{hs:List (Nat×Nat)}{ops:Array Oper}{sps:Sps}{σ:List (Nat×Value)}{Γ:List HP}{Φ:List RF}{r r':Rr}{m:Array Bool}{a:Act}{w:World}{Q:Exit->Act->World->Prop}
def Zd0{j:Nat}(hj:j<ops.size)(h:wpOp P ops Q j (wpFrom P ops Q (j+1)) a w):wpFrom P ops Q j a w:=by
 unfold wpOp at h;rw[Zgt hj]at h;simp only at h;have e:wpFrom P ops Q (j+1)=wpList P ops Q (ops.toList.drop (j+1)):=rfl;rw[e]at h;unfold wpFrom;rw[Zgc (by simpa using hj)];unfold wpList;have e2:ops.toList[j]'(by simpa using hj)=ops[j]:=by simp
 rw[e2];exact h
theorem Zcz{m0:Nat}(st:StQ N ops sps σ Γ m0)(hob:∀r,Vd sps r->∀ks∈sps,∀B Q,ObE P N hs ops sps σ Γ Φ r B Q ks.1 ks.2)(hgd:∀r,Vd sps r->∀ks∈sps,gdE P hs ops sps σ Γ Φ r ks=true)
  (hq:∀r,Vd sps r->∀n,n<m0->isE sps n=false->∃v e,qv P hs ops sps σ Γ Φ r n=some (v,e)/\∀p∈e,p.1=p.2)
  (hend:∀r a w,Vd sps r->Cx B N (sgF ops (vl P hs ops sps σ Γ Φ r) σ (rgu ops m0)) (gamF (λp=>ver (wrE (rcs P hs ops sps σ Γ Φ r) (λ_=>true) p) sps Γ[p]?) 0 (mx Γ sps)) (Φ++fac (rcs P hs ops sps σ Γ Φ r) (λ_=>true) sps) a w->wpFrom P ops Q m0 a w):
  ∀f j(r:Rr)m a w,m0-j<=f->j<=m0->PI P B N hs ops sps σ Γ Φ r m a w->(∀i,m.getD i false=true↔i<j)->wpFrom P ops Q j a w:=by
 intro f
 induction f with
 |zero=>
  intro j r m a w hf hj h hm;obtain rfl:j=m0:=by omega
  exact hend r a w h.vd (h.all st λk hk=>(hm k).2 hk)
 | succ f ih=>
  intro j r m a w hf hj h hm;by_cases e:j=m0
  ·subst e;exact hend r a w h.vd (h.all st λk hk=>(hm k).2 hk)
  have hj0:j<m0:=by omega
  have hjs:j<ops.size:=ZfQ hj0 st.le;have him:j<m.size:=by rw[h.size];exact hjs
  have h3:∀k∈waits ops j,m.getD k false=true:=λk hk=>(hm k).2 (FO st.ac hjs hk);have hmj:m.getD j false=false:=by
   cases hx:m.getD j false with
   |false=>rfl
   |true=>have:=(hm j).1 hx;omega
  have hm':∀i,(m.setIfInBounds j true).getD i false=true↔i<j+1:=λi=>by
   by_cases ei:i=j
   ·subst ei;simp[ZfM,him]
   ·have:(m.setIfInBounds j true).getD i false=m.getD i false:=by
     simp[ZfM,ZgL (Ne.symm ei)]
    rw[this,hm i];omega
  obtain⟨o,ho⟩:∃o,ops[j]? =some o:=⟨ops[j],Zgt hjs⟩;refine Zd0 hjs ?_;cases hE:isE sps j with
  | false=>
   obtain⟨v,e,hv,he⟩:=hq r h.vd j hj0 hE;have hn:∀ks∈sps,ks.1=j->(rcs P hs ops sps σ Γ Φ r j).gs=[]/\(rcs P hs ops sps σ Γ Φ r j).fs=[]:=λks hks e=>by
    have:isE sps j=true:=X0.2 (Zg5.2 ⟨ks,hks,e⟩);rw[hE]at this;cases this
   by_cases hx:exc ops (vl P hs ops sps σ Γ Φ r) ops.size j
   ·have hvl:v=vl P hs ops sps σ Γ Φ r j:=by
     unfold vl;rw[Mv st.ac rfl hjs,hE];unfold qv vl at hv;rw[hv];rfl
    exact h.qrun st ho h3 hx hv he (ih (j+1) r _ _ _ O O (h.put st hj0 ho h3 ⟨λ_=>hvl,λh=>absurd hx h⟩ hn) hm')
   ·exact h.skip st hj0 ho h3 hx hn λh=>ih (j+1) r _ _ _ O O h hm'
  |true=>
   obtain⟨ks,hks,rfl⟩:=Zg5.1 (X0.1 hE);exact h.eff st (s:=ks.2) hks hmj h3 (hob r h.vd ks hks) (hgd r h.vd ks hks) λr' a' w' h'=>ih (ks.1+1) r' _ _ _ O O h' hm'
end
def spv(ops:Array Oper)(np:List (Nat×Value)):Sps:=np.map λp=>(p.1,sV ((cl ops p.1).filter λj=>memN (np.map (·.1)) j) p.2)
def rV(np:List (Nat×Value)):Rr:=λk _=>⟨(np.lookup k).getD undef,[],[]⟩
theorem ZeI{ops:Array Oper}{pr:Nat->List Nat}:∀{np:List (Nat×Value)}{r:Rr},Vd (np.map λp=>(p.1,sV (pr p.1) p.2)) r->r=rV np
 |[],r,h=>by cases h;rfl
 | p::np,r,h=>by
  obtain⟨g,r',h1,rfl⟩:=h;rw[ZeI (ops:=ops) (pr:=pr) h1];funext k V;unfold rV;rw[ZfZ];by_cases e:k=p.1
  ·subst e;simp[Sp.rc,sV,sP]
  ·have h1:Nat.beq k p.1=false:=by rw[Zhb];exact λh=>e (Zg2 h)
   have h2:(k==p.1)=false:=by simpa using e
   simp only[h1,h2,cond_false]
def Ep{ops:Array Oper}{np:List (Nat×Value)}{r:Rr}(h:Vd (spv ops np) r):r=rV np:=ZeI (ops:=ops) (pr:=λi=>(cl ops i).filter λj=>memN (List.map Prod.fst np) j) (np:=np) h
theorem Fe{Γ:List HP}:gamF (λp=>Γ[p]?) 0 Γ.length=Γ:=by
 have key:∀(L pre:List HP)(n:Nat),n=L.length->gamF (λp=>(pre++L)[p]?) pre.length n=L:=by
  intro L
  induction L with
  |nil=>intro pre n hn;subst hn;rfl
  |cons x L ih=>
   intro pre n hn;subst hn;simp only[ZfS];have e:(pre++x::L)[pre.length]? =some x:=by simp
   unfold gamF;have h:=ih (pre++[x]) _ rfl;rw[ZfO,ZfI]at h;simp only[e];exact congrArg (x:: ·) h
 simpa using key Γ [] _ rfl
theorem KM{R:Nat->Rc}{S:Nat->Bool}(h:∀k,(R k).fs=[]):∀{l:Sps},fac R S l=[]
 |[]=>rfl
 |ks::l=>by
  unfold fac;rw[h,KM h];cases S ks.1<;>rfl
theorem CK{ops:Array Oper}{Γ:List HP}{np:List (Nat×Value)}:mx Γ (spv ops np)=Γ.length:=by
 have:∀(l:Sps)(a:Nat),(∀ks∈l,ks.2.ps=[])->l.foldl (λa ks=>ks.2.ps.foldl (λa p=>cond (Nat.blt p a) a (p+1)) a) a=a:=by
  intro l
  induction l with
  |nil=>intro a _;rfl
  |cons ks l ih=>
   intro a h;rw[Zhk,h ks Zgi];exact ih a λk hk=>h k (ZfT _ hk)
 refine this _ _ λks hks=>?_;obtain⟨p,_,rfl⟩:=Zg5.1 hks;rfl
theorem ZdP{P:Program}{Q:Exit->Act->World->Prop}{a:Act}{w:World}{o:Oper}{K' K:Act->World->Prop}(hk:∀a w,K' a w->K a w)(h:o.wp P a w K' Q):o.wp P a w K (Exit.then K Q):=by
 unfold Oper.wp at*;generalize (execOp a.eval o).run P w=r at*;cases r with
 | ok n w=>
  cases n with
  |value v=>exact hk _ w h
  |skip=>exact hk _ w h
  |defer d=>exact hk _ w h
  |enter f args=>
   refine Calls.mono h λe w' he=>?_;cases e with
   |returned v=>exact hk _ w' he
   |panicked c=>exact he
   |outgrown=>exact he
  |row r args=>exact Rows.mono h λv w' he=>hk _ w' he
  |_=>exact h
 |halt hh w=>
  cases hh with
  |panic v=>exact h
  |_=>exact h
def DR{P:Program}{Q:Exit->Act->World->Prop}{a:Act}{w:World}{o:Oper}{K' K:Act->World->Prop}(hg:o.guard=none)(hk:∀a w,K' a w->K a w)(h:wpFrom P #[o] (Exit.then K' Q) 0 a w):wpFrom P #[o] (Exit.then K Q) 0 a w:=by
 have h1:=Zc6 (P:=P) (ops:=#[o]) (i:=0) (Q:=Q) (K:=K') o rfl hg h;have hw:∀y,Region.wanted o y=true:=λy=>by simp[Region.wanted,hg]
 unfold wpOp at h1;simp only[ZhN,Zgz]at h1;rw[ZfC (hw _)]at h1;unfold wpFrom;simp only[ZgN];unfold wpList;rw[ZfC (hw _)];exact h1.imp (ZdP hk) id
structure PsV(B:Bs)(N:Nat)(d:Option Nat)(v:Value)(Γ:List HP)(a:Act)(w:World):Prop where
 h:Cx B N (match d with|some d=>[(d,v)]|none=>[]) Γ [] a w
section
variable(P:Program)(N:Nat)(hs:List (Nat×Nat))(ops:Array Oper)(np:List (Nat×Value))(σ:List (Nat×Value))(Γ:List HP)(Φ:List RF)
def vlV:Nat->Value:=vl P hs ops (spv ops np) σ Γ Φ (rV np)
def ObV(B:Bs)(Q:Exit->Act->World->Prop)(p:Nat×Value):Prop:=match ops[p.1]? with
 |some o=>match o.guard with
  |none=>Gl B N True (sgF ops (vlV P hs ops np σ Γ Φ) σ (cg ops p.1)) Γ Φ (wpFrom P #[{o with guard:=none}] (Exit.then (PsV B N o.dst p.2 Γ) Q) 0)
  |some _=>Gl B N (exc ops (vlV P hs ops np σ Γ Φ) ops.size p.1) (sgF ops (vlV P hs ops np σ Γ Φ) σ (cg ops p.1)) Γ Φ (wpFrom P #[{o with guard:=none}] (Exit.then (PsV B N o.dst p.2 Γ) Q) 0)
 |none=>True
def ObVs(B:Bs)(Q:Exit->Act->World->Prop):List (Nat×Value)->Prop
 |[]=>True
 |[p]=>ObV P N hs ops np σ Γ Φ B Q p
 |p::l=>ObV P N hs ops np σ Γ Φ B Q p/\ObVs B Q l
end
section
variable{P:Program}{B:Bs}{N:Nat}{H:Prop}{hs:List (Nat×Nat)}{ops:Array Oper}{np:List (Nat×Value)}{σ:List (Nat×Value)}{Γ:List HP}{Φ:List RF}{a:Act}{w:World}{Q:Exit->Act->World->Prop}{K:Act->World->Prop}{id:Nat}
theorem ObVs.out:∀{l:List (Nat×Value)},ObVs P N hs ops np σ Γ Φ B Q l->∀p∈l,ObV P N hs ops np σ Γ Φ B Q p
 |[],_,_,h=>by cases h
 |[p],h,k,hk=>by
  rcases ZfY.1 hk with rfl|hk
  ·exact h
  ·cases hk
 |p::p2::l,h,k,hk=>(ZfY.1 hk).elim (λe=>e▸h.1) (ObVs.out h.2 k)
def Zbz(k:Nat):(rcs P hs ops (spv ops np) σ Γ Φ (rV np) k).gs=[]/\(rcs P hs ops (spv ops np) σ Γ Φ (rV np) k).fs=[]:=⟨rfl,rfl⟩
def Zb1{S:Nat->Bool}{p:Nat}{acc:Option HP}:ver (wrE (rcs P hs ops (spv ops np) σ Γ Φ (rV np)) S p) (spv ops np) acc=acc:=Qx λks _=>by
 simp only[wrE,(Zbz ks.1).1,List.lookup_nil];cases S ks.1<;>rfl
def Γi_V{i:Nat}{v:Value}{pr:List Nat}{q:Nat->Option (Option HP)}(hq:∀p,q p=none):Γi (spv ops np) Γ (rcs P hs ops (spv ops np) σ Γ Φ (rV np)) i (sV pr v) q=Γ:=by
 unfold Γi
 rw[CK,Wj (f':=λp=>Γ[p]?) λp=>by
  have:okp (spv ops np) i (sV pr v) p=true:=ZfV.2 λks hks=>by
   obtain⟨p,_,rfl⟩:=Zg5.1 hks;rfl
  rw[this,hq,Zb1];rfl]
 exact Fe
theorem ObV.out{p:Nat×Value}(h:∀B Q,ObV P N hs ops np σ Γ Φ B Q p)(pr:List Nat)(B:Bs)(Q:Exit->Act->World->Prop):ObE P N hs ops (spv ops np) σ Γ Φ (rV np) B Q p.1 (sV pr p.2):=by
 have h:=h B Q;unfold ObV at h;unfold ObE;cases ho:ops[p.1]? with
 |none=>trivial
 | some o=>
  rw[ho]at h;simp only at h⊢;have e1:Γi (spv ops np) Γ (rcs P hs ops (spv ops np) σ Γ Φ (rV np)) p.1 (sV pr p.2) (λ_=>none)=Γ:=Γi_V λ_=>rfl;have e2:Φ++fac (rcs P hs ops (spv ops np) σ Γ Φ (rV np)) (memN (sV pr p.2).pr) (spv ops np)=Φ:=by rw[KM λk=>rfl,Zgb]
  have key:∀(a:Act)(w:World),PsV B N o.dst p.2 Γ a w->PsE N ops (spv ops np) Γ B (rcs P hs ops (spv ops np) σ Γ Φ (rV np)) p.1 (sV pr p.2) (mkV ops p.1 (vl P hs ops (spv ops np) σ Γ Φ (rV np))) a w:=λa w⟨h⟩=>⟨(show(sV pr p.2).κ from()),by
   have e3:sgF ops (λ_=>((sV pr p.2).rc (show(sV pr p.2).κ from()) (mkV ops p.1 (vl P hs ops (spv ops np) σ Γ Φ (rV np)))).val) [] [p.1]=(match o.dst with|some d=>[(d,p.2)]|none=>[]):=by
    unfold sgF dstN;rw[ho];simp only[Zf9];cases o.dst<;>rfl
   rw[e3];show Cx B N _ (Γi (spv ops np) Γ (rcs P hs ops (spv ops np) σ Γ Φ (rV np)) p.1 (sV pr p.2) λ_=>none) [] a w;rw[e1]
   exact h⟩
  rw[e1,e2];cases hg:o.guard with
  |none=>
   rw[hg]at h;exact λe a w c=>DR rfl key (h e c)
  |some g=>
   rw[hg]at h;exact λe a w c=>DR rfl key (h e c)
theorem zVm{l:List Oper}{draw:Bool}(m:Nat)(np:List (Nat×Value))(hs:List (Nat×Nat))(ob:∀B Q,ObVs P N hs l.toArray np (cutS m l.toArray σ) Γ Φ B Q np)
  (Z:Gl B N H (sgF l.toArray (vlV P hs l.toArray np (cutS m l.toArray σ) Γ Φ) (cutS m l.toArray σ) (rgu l.toArray m)) Γ Φ (wpFrom P l.toArray Q m))(hst:StP N l.toArray (spv l.toArray np) Γ m=true:=by kernel_rfl)
  (hq:(quietI (spv l.toArray np) m).map (λn=>(qv P hs l.toArray (spv l.toArray np) (cutS m l.toArray σ) Γ Φ (rV np) n).map λp=>p.2.map (·.1))=(quietI (spv l.toArray np) m).map λn=>some (((qv P hs l.toArray (spv l.toArray np) (cutS m l.toArray σ) Γ Φ (rV np) n).map λp=>p.2.map (·.2)).getD []):=by kernel_rfl)
  (hmix:P.follows .mixedOrders=true:=by exact mix):Gl B N H σ Γ Φ ((Code.region id l.toArray draw).wp P Q):=λe a w c=>by
 have st:=StP.out (σ:=σ) hst;have hob:∀r,Vd (spv l.toArray np) r->∀ks∈spv l.toArray np,∀B Q,ObE P N hs l.toArray (spv l.toArray np) (cutS m l.toArray σ) Γ Φ r B Q ks.1 ks.2:=λr v ks hks B Q=>by
  obtain rfl:=Ep v;obtain⟨p,hp,rfl⟩:=Zg5.1 hks;exact ObV.out (λB Q=>(ob B Q).out p hp) _ B Q
 have hgd:∀r,Vd (spv l.toArray np) r->∀ks∈spv l.toArray np,gdE P hs l.toArray (spv l.toArray np) (cutS m l.toArray σ) Γ Φ r ks=true:=λr v ks hks=>by
  obtain rfl:=Ep v;unfold gdE;rw[(Zbz ks.1).1,(Zbz ks.1).2];simp
 have hqq:∀r,Vd (spv l.toArray np) r->∀n,n<m->isE (spv l.toArray np) n=false->∃v e,qv P hs l.toArray (spv l.toArray np) (cutS m l.toArray σ) Γ Φ r n=some (v,e)/\∀p∈e,p.1=p.2:=λr v n hn hE=>by
  obtain rfl:=Ep v;have hm:n∈quietI (spv l.toArray np) m:=Zgv.2 ⟨Jh hn,by rw[hE];rfl⟩;have:=ZgH.1 hq n hm;cases hx:qv P hs l.toArray (spv l.toArray np) (cutS m l.toArray σ) Γ Φ (rV np) n with
  |none=>rw[hx]at this;cases this
  |some p=>
   rw[hx]at this;simp only[Zgh,Zg8,Option.some.injEq]at this;exact⟨p.1,p.2,rfl,λq hq=>ZgH.1 this q hq⟩
 have hend:∀r a w,Vd (spv l.toArray np) r->Cx B N (sgF l.toArray (vl P hs l.toArray (spv l.toArray np) (cutS m l.toArray σ) Γ Φ r) (cutS m l.toArray σ) (rgu l.toArray m)) (gamF (λp=>ver (wrE (rcs P hs l.toArray (spv l.toArray np) (cutS m l.toArray σ) Γ Φ r) (λ_=>true) p) (spv l.toArray np) Γ[p]?) 0 (mx Γ (spv l.toArray np))) (Φ++fac (rcs P hs l.toArray (spv l.toArray np) (cutS m l.toArray σ) Γ Φ r) (λ_=>true) (spv l.toArray np)) a w->wpFrom P l.toArray Q m a w:=λr a w v c=>by
  obtain rfl:=Ep v;rw[KM λk=>rfl,Zgb,CK,Wj (f':=λp=>Γ[p]?) λp=>Zb1,Fe]at c;exact Z e c
 have hz:∀k,(Array.replicate l.toArray.size false).getD k false=false:=λk=>by
  rw[ZfM,Zib];split<;>rfl
 obtain⟨r,v⟩:=Vd.mk (spv l.toArray np);have hr:r=rV np:=Ep v;have start:∀{w':World},Cx B N σ Γ Φ a w'->PI P B N hs l.toArray (spv l.toArray np) (cutS m l.toArray σ) Γ Φ r (Array.replicate l.toArray.size false) a w':=λ{w'}c=>by
  obtain⟨hf,S,F,h1,h2,h3⟩:=c;refine⟨v,by simp,λk _ hk=>by(rw[hz]at hk;cases hk),⟨hf.defers,hf.size,λt v hv=>?_⟩,λk _ hk=>by(rw[hz]at hk;cases hk),S,F,h1,?_,λR hR=>h3 R ?_⟩
  ·unfold cutS at hv;exact hf.get t v (Vg (f:=λk=>!memN ((l.toArray.toList.take m).filterMap (·.dst)) k) hv).2
  ·subst hr;rw[CK,Wj (f':=λp=>Γ[p]?) λp=>Zb1,Fe];exact h2
  ·subst hr;rw[KM λk=>rfl,Zgb]at hR;exact hR
 cases draw with
 |true=>exact As hmix c λw' c=>Aj st hob hgd hqq hend _ r _ _ _ (start c) (λk _=>hz k) U
 |false=>exact Jz (Zcz st hob hgd hqq hend _ 0 r _ a w (ZfP _) (Zg9 _) (start c) λi=>⟨λh=>by(rw[hz]at h;cases h),λh=>by omega⟩)
end
section
variable{P:Program}{B:Bs}{N:Nat}{H:Prop}{ops:Array Oper}{σ:List (Nat×Value)}{Γ:List HP}{Φ Φ1:List RF}{a:Act}{w:World}{Q:Exit->Act->World->Prop}{V:Nat->Value}{n j:Nat}
def PsV.of{σ:List (Nat×Value)}{Φ:List RF}{d:Nat}{v:Value}(c:Cx B N ((d,v)::σ) Γ Φ a w):PsV B N (some d) v Γ a w:=by
 obtain⟨hf,S,F,h1,h2,_⟩:=c;exact⟨hf.sub [(d,v)] U,S,F,h1,h2,λ_ h=>by cases h⟩
theorem excG{g:Nat}{b x:Bool}(hx:exc ops V n j)(hg:guardOf ops j=some (g,b):=by rfl)(hv:V g= .bool x:=by kernel_rfl):x=b:=by
 cases n with
 |zero=>exact hx.elim
 |succ n=>
  unfold exc at hx;rw[hg]at hx;have:=hx.2;rw[hv]at this;exact Value.bool.inj this
def excU{g:Nat}{b:Bool}(hx:exc ops V (n+1) j)(hg:guardOf ops j=some (g,b):=by rfl):exc ops V n g:=by
 unfold exc at hx;rw[hg]at hx;exact hx.1
def eT{β:Type}{X Y r:β}{g:Nat}{b:Bool}(h:(if b=true then X else Y)=r)(hx:exc ops V n j)(hg:guardOf ops j=some (g,true):=by rfl)(hv:V g= .bool b:=by kernel_rfl):X=r:=iteT (excG hx hg hv) h
def eF{β:Type}{X Y r:β}{g:Nat}{b:Bool}(h:(if b=true then X else Y)=r)(hx:exc ops V n j)(hg:guardOf ops j=some (g,false):=by rfl)(hv:V g= .bool b:=by kernel_rfl):Y=r:=iteF (excG hx hg hv) h
end
def zVr{P:Program}{B:Bs}{N:Nat}{H:Prop}{σ:List (Nat×Value)}{Γ:List HP}{Φ:List RF}{Q:Exit->Act->World->Prop}{K:Act->World->Prop}{id:Nat}{l:List Oper}{draw:Bool}(np:List (Nat×Value))(hs:List (Nat×Nat))(ob:∀B Q,ObVs P N hs l.toArray np (cutS l.length l.toArray σ) Γ Φ B Q np)
  (Z:Gl B N H (sgF l.toArray (vlV P hs l.toArray np (cutS l.length l.toArray σ) Γ Φ) (cutS l.length l.toArray σ) (rgu l.toArray l.length)) Γ Φ K)(hst:StP N l.toArray (spv l.toArray np) Γ l.length=true:=by kernel_rfl)
  (hq:(quietI (spv l.toArray np) l.length).map (λn=>(qv P hs l.toArray (spv l.toArray np) (cutS l.length l.toArray σ) Γ Φ (rV np) n).map λp=>p.2.map (·.1))=(quietI (spv l.toArray np) l.length).map λn=>some (((qv P hs l.toArray (spv l.toArray np) (cutS l.length l.toArray σ) Γ Φ (rV np) n).map λp=>p.2.map (·.2)).getD []):=by kernel_rfl)
  (hmix:P.follows .mixedOrders=true:=by exact mix):Gl B N H σ Γ Φ ((Code.region id l.toArray draw).wp P (Exit.then K Q)):=zVm l.length np hs ob (zE0 Z U) hst hq hmix
def eA(v:Value)(n:Int)(s o:Nat):Value:=match v with
 |.slice (some ad) _ _=>.pointer (some (ad.add (n.toNat*s+o)))
 |_=>undef
def RI(κ:Prop)(R:RF):RF where
 ok w F:=κ->R.ok w F
 sub h hs k:=R.sub (h k) hs
 chg h hc ht k:=R.chg (h k) hc ht
section
variable{P:Program}{B:Bs}{N:Nat}{H κ:Prop}{σ:List (Nat×Value)}{Γ Γ':List HP}{Φ Φ' Φ1:List RF}{a:Act}{w:World}{Q:Exit->Act->World->Prop}{T:Act->World->Prop}{α β:Type}
def zVd{d:Nat}{v:Value}:Gl B N H ((d,v)::σ) Γ Φ (PsV B N (some d) v Γ):=λ_ _ _ c=>PsV.of c
def zVh{E:Option α}{z:α}(hx:H->E=some z)(h:Gl B N (E.bind some=some z) σ Γ Φ T):Gl B N H σ Γ Φ T:=λe _ _ c=>h (by rw[hx e];rfl) c
def zsb{x z:α}(h:x=z->Gl B N True σ Γ Φ T):Gl B N (some x=some z) σ Γ Φ T:=λe=>h (Option.some.inj e) trivial
def zVs{x z:α}{d k:Nat}{u v:Value}{ops:Array Oper}(hv:x=z->u=v:=by intro e;subst e;rfl)(hΓ:Γ'=Γ:=by rfl)(hk:ops.size=k:=by rfl):Gl B N (some x=some z) ((d,u)::σ) Γ' Φ (wpFrom P ops (Exit.then (PsV B N (some d) v Γ) Q) k):=λe a w c=>by
 cases hv (Option.some.inj e);subst hΓ;exact E0 (PsV.of c) hk
def zV1{o:Oper}{d:Nat}{v:Value}(h:∀a w,Cx B N σ Γ Φ a w->wpOp P #[o] (Exit.then (PsV B N (some d) v Γ) Q) 0 (λa' w'=>Cx B N ((d,v)::σ) Γ Φ a' w') a w):Gl B N H σ Γ Φ (wpFrom P #[o] (Exit.then (PsV B N (some d) v Γ) Q) 0):=zq h zVd
def zVc{g:Option α}{z:α}{f:FuncId}{args:List Value}{vs:α->List Value}{v:Value}{d:Nat}{ty:TypeId}{pos:String}{af:Array Edge}{xs:Array Operand}{ts:Array TypeId}(hx:H->g=some z)(hcon:∀{x},g=some x->Con P f args [] Φ1 λ(_:Unit)=>(vs x,[],[]))(ro:∀{w},AvaL Γ Φ w Φ1)
  (hf:clB P f=true:=by kernel_rfl)(hd:Nat.blt d N=true:=by rfl)(hargs:xs.toList.map (opd σ)=args.map some:=by kernel_rfl)(hv:tup (vs z)=v:=by rfl):Gl B N H σ Γ Φ (wpFrom P #[⟨some d,.call ⟨.value (.func f),xs,ts⟩,ty,pos,af,none⟩] (Exit.then (PsV B N (some d) v Γ) Q) 0):=λe a w c=>
 Cb c (hcon (hx e)) ro (Oq hf) (λ_ fr w' c=>E0 (PsV.of (by rw[<-hv];simpa using c)) rfl) rfl hd hargs
def elA[Rep α]{v:Value}{l:List α}{n:Int}{q:α}(c:Cx B N σ Γ Φ a w)(hl:Ava Γ Φ w (RO v l))(hx:get? l n=some q):∃ad len cap cs F,v= .slice (some ad) len cap/\0<=n/\n<(len:Int)/\Rep.ok w F cs q/\Cells w (ad.add (n.toNat*Rep.sz α)) cs:=by
 obtain⟨F,hr⟩:=c.use hl;obtain⟨b,cap,rfl,g1,g2,g3⟩:=RV.slice hr;have hn:=get?_nn hx;have hat:=get?_at hx;have hlt:n.toNat<l.length:=(ZfE.1 hat).1;obtain⟨ad,rfl,hFb,hel⟩:=g3 al;obtain⟨cs,hok,hc⟩:=Ui hel hat;have hc:Cells w (ad.add (n.toNat*Rep.sz α)) cs:=by simp_all
 exact⟨ad,l.length,cap,cs,F,rfl,hn,by omega,hok,hc⟩
variable{ops:Array Oper}{k:Nat}{v:Value}{l:List α}{n:Int}{q:α}{d s fl off:Nat}{t e ty:TypeId}{pos:String}{af:Array Edge}{x y:Operand}
def qEi[Rep α](hz:get? l n=some q)(hl:∀{w},Ava Γ Φ w (RO v l))(ho:ops[k]? =some ⟨some d,.indexAddr t x y,ty,pos,af,none⟩:=by rfl)(hd:Nat.blt d N=true:=by rfl)(ht:P.underlying t=some (.slice e):=by rfl)(he:Ty P e α:=by constructor<;>kernel_rfl)(hx:opd σ x=some v:=by kernel_rfl)(hy:numOf (opd σ y)=some n:=by kernel_rfl)(hs:Rep.sz α=s:=by rfl)
  (a:Act)(w:World)(c:Cx B N σ Γ Φ a w):wpOp P ops Q k (λa' w'=>Cx B N ((d,eA v n s 0)::σ) Γ Φ a' w') a w:=by
 subst hs;obtain⟨ad,len,cap,cs,F,rfl,h1,h2,_,_⟩:=elA c hl hz;obtain⟨kd,hy⟩:=Y7 hy;have g1:=Zd c.fr hx;have g2:=Zd c.fr hy;refine qV ho rfl rfl hd c (Zh (v:=.pointer (some (ad.add (n.toNat*Rep.sz α)))) (w':=w) ?_ ⟨rfl,rfl⟩);simp[execOp,Instr.indexAt,g1,g2,asIntOf,run_underlying ht,h1,h2,he.sizeOf]
def qEf[Rep α](hz:get? l n=some q)(hl:∀{w},Ava Γ Φ w (RO v l)){x:Nat}(ho:ops[k]? =some ⟨some d,.fieldAddr t (.tmp x) fl,ty,pos,af,none⟩:=by rfl)(hd:Nat.blt d N=true:=by rfl)(hx:opd σ (.tmp x)=some (eA v n s 0):=by kernel_rfl)(hoff:fieldOff P t fl=some off:=by kernel_rfl)
  (a:Act)(w:World)(c:Cx B N σ Γ Φ a w):wpOp P ops Q k (λa' w'=>Cx B N ((d,eA v n s off)::σ) Γ Φ a' w') a w:=by
 obtain⟨ad,len,cap,cs,F,rfl,h1,h2,_,_⟩:=elA c hl hz;have g1:=Zd c.fr hx
 refine qV ho rfl rfl hd c (Zh (v:=.pointer (some ((ad.add (n.toNat*s)).add off))) (w':=w) (MN (P:=P) (ρ:=λy=>match y with|.tmp s'=>if s'=x then some (.pointer (some (ad.add (n.toNat*s))))else none|_=>none) (ρ':=a.eval) (λy z hy=>by
  have g2:a.eval (.tmp x)= .pointer (some (ad.add (n.toNat*s))):=g1
  grind) aW w) ⟨?_,rfl⟩)
 simp only[eA,add_add]
def qEl[Flat α](hz:get? l n=some q)(hl:∀{w},Ava Γ Φ w (RO v l)){u:Value}(ho:ops[k]? =some ⟨some d,.load t x,ty,pos,af,none⟩:=by rfl)(hd:Nat.blt d N=true:=by rfl)(ht:Ty P t α:=by constructor<;>kernel_rfl)(hx:opd σ x=some (eA v n s 0):=by kernel_rfl)(hs:Rep.sz α=s:=by rfl)(hu:Rep.val α (Flat.enc q)=u:=by rfl)
  (a:Act)(w:World)(c:Cx B N σ Γ Φ a w):wpOp P ops Q k (λa' w'=>Cx B N ((d,u)::σ) Γ Φ a' w') a w:=by
 subst hs;subst hu;obtain⟨ad,len,cap,cs,F,rfl,h1,h2,h3,h4⟩:=elA c hl hz;have g1:=Zd c.fr hx;have h5:=Rep.len h3;obtain rfl:=Flat.iff.1 h3;refine qV ho rfl rfl hd c (Zh (v:=Rep.val α (Flat.enc q)) (w':=w) ?_ ⟨rfl,rfl⟩);simp[execOp,Instr.loadAt,g1,eA,Instr.sureAddr,YO ht h5 h4]
theorem qEg[Rep α]{u:Value}(hu:∀{w:World}{F:Nat->Prop}{cs:List Value},Rep.ok w F cs q->cs[off]? =some u)(hz:get? l n=some q)(hl:∀{w},Ava Γ Φ w (RO v l))(ho:ops[k]? =some ⟨some d,.load t x,ty,pos,af,none⟩:=by rfl)(hd:Nat.blt d N=true:=by rfl)(ht:Ty P t Int:=by constructor<;>kernel_rfl)(hx:opd σ x=some (eA v n s off):=by kernel_rfl)(hs:Rep.sz α=s:=by rfl)
  (a:Act)(w:World)(c:Cx B N σ Γ Φ a w):wpOp P ops Q k (λa' w'=>Cx B N ((d,u)::σ) Γ Φ a' w') a w:=by
 subst hs;obtain⟨ad,len,cap,cs,F,rfl,h1,h2,h3,h4⟩:=elA c hl hz;have g1:=Zd c.fr hx;have h5:=hu h3;have hc1:Cells w ((ad.add (n.toNat*Rep.sz α)).add off) [u]:=λi q' hq=>by
  cases i with
  |zero=>simp only[Zgz,Option.some.injEq]at hq;subst hq;exact h4 off u h5
  |succ i=>simp at hq
 have:=YO ht (cs:=[u]) rfl hc1;have hv':Rep.val Int [u]=u:=rfl;have e2:=add_add ad (n.toNat*Rep.sz α) off;refine qV ho rfl rfl hd c (Zh (v:=u) (w':=w) ?_ ⟨rfl,rfl⟩);rw[e2,hv']at this;simp_all[execOp,Instr.loadAt,eA,Instr.sureAddr]
def zVi[Rep α](hz:H->get? l n=some q)(hl:∀{w},Ava Γ Φ w (RO v l))(hd:Nat.blt d N=true:=by rfl)(ht:P.underlying t=some (.slice e):=by rfl)(he:Ty P e α:=by constructor<;>kernel_rfl)(hx:opd σ x=some v:=by kernel_rfl)(hy:numOf (opd σ y)=some n:=by kernel_rfl)(hs:Rep.sz α=s:=by rfl):
  Gl B N H σ Γ Φ (wpFrom P #[⟨some d,.indexAddr t x y,ty,pos,af,none⟩] (Exit.then (PsV B N (some d) (eA v n s 0) Γ) Q) 0):=λe=>zV1 (qEi (hz e) hl rfl hd ht he hx hy hs) e
def zVf[Rep α](hz:H->get? l n=some q)(hl:∀{w},Ava Γ Φ w (RO v l)){x:Nat}(hd:Nat.blt d N=true:=by rfl)(hx:opd σ (.tmp x)=some (eA v n s 0):=by kernel_rfl)(hoff:fieldOff P t fl=some off:=by kernel_rfl):
  Gl B N H σ Γ Φ (wpFrom P #[⟨some d,.fieldAddr t (.tmp x) fl,ty,pos,af,none⟩] (Exit.then (PsV B N (some d) (eA v n s off) Γ) Q) 0):=λe=>zV1 (qEf (hz e) hl rfl hd hx hoff) e
def zVl[Flat α](hz:H->get? l n=some q)(hl:∀{w},Ava Γ Φ w (RO v l)){u:Value}(hd:Nat.blt d N=true:=by rfl)(ht:Ty P t α:=by constructor<;>kernel_rfl)(hx:opd σ x=some (eA v n s 0):=by kernel_rfl)(hs:Rep.sz α=s:=by rfl)(hu:Rep.val α (Flat.enc q)=u:=by rfl):
  Gl B N H σ Γ Φ (wpFrom P #[⟨some d,.load t x,ty,pos,af,none⟩] (Exit.then (PsV B N (some d) u Γ) Q) 0):=λe=>zV1 (qEl (hz e) hl rfl hd ht hx hs hu) e
def zVg[Rep α]{u:Value}(hu:∀{w:World}{F:Nat->Prop}{cs:List Value},Rep.ok w F cs q->cs[off]? =some u)(hz:H->get? l n=some q)(hl:∀{w},Ava Γ Φ w (RO v l))(hd:Nat.blt d N=true:=by rfl)(ht:Ty P t Int:=by constructor<;>kernel_rfl)(hx:opd σ x=some (eA v n s off):=by kernel_rfl)(hs:Rep.sz α=s:=by rfl):
  Gl B N H σ Γ Φ (wpFrom P #[⟨some d,.load t x,ty,pos,af,none⟩] (Exit.then (PsV B N (some d) u Γ) Q) 0):=λe=>zV1 (qEg hu (hz e) hl rfl hd ht hx hs) e
def zRi[Rep α](κ:Prop)(hx:κ->get? l n=some q)(hl:∀{w},Ava [] Φ w (RO v l))(h:∀p u,Gl B N H σ Γ (Φ++[RI κ (EA α v n p u),RI κ (RO u q)]) T):Gl B N H σ Γ Φ T:=λe a w c=>by
 by_cases hk:κ
 ·obtain⟨p,u,hF,S,F,h1,h2,h3⟩:=c.elp hl (hx hk);refine h p u e ⟨hF,S,F,h1,h2,λR hR=>?_⟩;rcases ZfG.1 hR with hR|hR
  ·exact h3 R (Zh3 _ hR)
  ·rcases ZfY.1 hR with rfl|hR
   ·exact λ_=>h3 _ U
   ·rcases ZfY.1 hR with rfl|hR
    ·exact λ_=>h3 _ U
    ·cases hR
 ·obtain⟨hF,S,F,h1,h2,h3⟩:=c;refine h ⟨0,0,none⟩ undef e ⟨hF,S,F,h1,h2,λR hR=>?_⟩;rcases ZfG.1 hR with hR|hR
  ·exact h3 R hR
  ·rcases ZfY.1 hR with rfl|hR
   ·exact λk=>absurd k hk
   ·rcases ZfY.1 hR with rfl|hR
    ·exact λk=>absurd k hk
    ·cases hR
def zRk{R:RF}(k:Nat)(hk:H->κ)(h:Gl B N H σ Γ (Φ++[R]) T)(hR:Φ[k]? =some (RI κ R)):Gl B N H σ Γ Φ T:=λe a w c=>by
 obtain⟨hF,S,F,h1,h2,h3⟩:=c;exact h e ⟨hF,S,F,h1,h2,h3.add (h3.get hR (hk e))⟩
end
def zRi1{R:RF}{B:Bs}{N:Nat}{H κ:Prop}{σ:List (Nat×Value)}{Γ:List HP}{Φ:List RF}{T:Act->World->Prop}(k:Nat)(hk:H->κ)(hR:Φ[k]? =some (RI κ R):=by rfl)(Z:Gl B N H σ Γ (Φ++[R]) T):Gl B N H σ Γ Φ T:=zRk k hk Z hR
def zRv{α:Type}[Rep α][Vu α]{B:Bs}{N:Nat}{H κ:Prop}{σ:List (Nat×Value)}{Γ:List HP}{Φ:List RF}{T:Act->World->Prop}{u:Value}{q:α}(k:Nat)(hk:H->κ)(hR:Φ[k]? =some (RI κ (RO u q)):=by rfl)(Z:∀b j,u=Vu.V q b j->Gl B N H σ Γ (Φ++[RO u q]++Vu.F q b j) T):Gl B N H σ Γ Φ T:=
 zRk k hk (λe{_ _}c=>by
  obtain⟨b,j,h1,c⟩:=Vu.out c
  exact Z b j h1 e c) hR
section
variable{P:Program}{B:Bs}{N:Nat}{H:Prop}{σ:List (Nat×Value)}{Γ:List HP}{Φ:List RF}{Q:Exit->Act->World->Prop}{K:Act->World->Prop}{id:Nat}{l:List Oper}{draw:Bool}
def zVq(hs:List (Nat×Nat))(Z:Gl B N H (sgF l.toArray (vlV P hs l.toArray [] (cutS l.length l.toArray σ) Γ Φ) (cutS l.length l.toArray σ) (rgu l.toArray l.length)) Γ Φ K)(hst:StP N l.toArray (spv l.toArray []) Γ l.length=true:=by kernel_rfl)
  (hq:(quietI (spv l.toArray []) l.length).map (λn=>(qv P hs l.toArray (spv l.toArray []) (cutS l.length l.toArray σ) Γ Φ (rV []) n).map λp=>p.2.map (·.1))=(quietI (spv l.toArray []) l.length).map λn=>some (((qv P hs l.toArray (spv l.toArray []) (cutS l.length l.toArray σ) Γ Φ (rV []) n).map λp=>p.2.map (·.2)).getD []):=by kernel_rfl)
  (hmix:P.follows .mixedOrders=true:=by exact mix):Gl B N H σ Γ Φ ((Code.region id l.toArray draw).wp P (Exit.then K Q)):=zVr [] hs (λ_ _=>trivial) Z hst hq hmix
end
def EO{ρ:Type}[Flat ρ](rs:List ρ)(α:Type)[Rep α](v:Value)(n:Int)(p:Addr)(u:Value):Prop:=EP α v n p/\∃q,rs[n.toNat]? =some q/\Rep.val α (Flat.enc q)=u
section
variable{ρ α β τ:Type}[Flat ρ][Rep α]{P:Program}{B:Bs}{N:Nat}{H:Prop}{σ:List (Nat×Value)}{Γ:List HP}{Φ:List RF}{a:Act}{w:World}{Q:Exit->Act->World->Prop}{T:Act->World->Prop}{E:TypeId}{v u:Value}{rs:List ρ}{l:List α}{n:Int}{p:Addr}{z:β}{f0:α->Option β}
def zew[RawOf ρ α](i k:Nat)(hi:Γ[i]? =some (SL E v rs):=by rfl)(hk:Φ[k]? =some (CS rs l):=by rfl)(Z:∀q p u,EO rs α v n p u->Gl B N (f0 q=some z) σ Γ (Φ++[RO u q]) T):Gl B N ((get? l n).bind f0=some z) σ Γ Φ T:=λe a w c=>by
 obtain⟨x,hx,e⟩:=bindE e;obtain⟨p,hp⟩:=c.epo i k hx hi hk;obtain⟨q,g1,_⟩:=FJ (c.2.choose_spec.choose_spec.2.2.get hk) (get?_at hx);obtain⟨hF,S,F,h1,h2,h3⟩:=c;have hc:=h3.get hk;have g1:rs[n.toNat]? =some q:=by simp_all
 exact Z x p _ ⟨hp,q,g1,rfl⟩ e ⟨hF,S,F,h1,h2,h3.add (R:=RO _ x) ⟨_,hc.2 _ _ x ah (get?_at hx),rfl⟩⟩
def zewV[RawOf ρ α][Vu α](i k:Nat)(hi:Γ[i]? =some (SL E v rs):=by rfl)(hk:Φ[k]? =some (CS rs l):=by rfl)(Z:∀q p b j,EO rs α v n p (Vu.V q b j)->Gl B N (f0 q=some z) σ Γ (Φ++[RO (Vu.V q b j) q]++Vu.F q b j) T):Gl B N ((get? l n).bind f0=some z) σ Γ Φ T:=
 zew i k hi hk λq p u he e{_ _}c=>by
  obtain⟨b,j,rfl,c⟩:=Vu.out c;exact Z q p b j he e c
def qLw{S:List (Nat×Value)}{ops:Array Oper}{i d:Nat}{t ty:TypeId}{x:Operand}{pos:String}{af:Array Edge}[RawOf ρ α](j:Nat)(he:EO rs α v n p u)(hj:Γ[j]? =some (SL E v rs):=by rfl)(ho:ops[i]? =some ⟨some d,.load t x,ty,pos,af,none⟩:=by rfl)(hdN:Nat.blt d N=true:=by rfl)(ht:Ty P t α:=by constructor<;>kernel_rfl)(hx:opd S x=some (.pointer (some p)):=by kernel_rfl)
  (a:Act)(w:World)(c:Cx B N S Γ Φ a w):wpOp P ops Q i (λa' w'=>Cx B N ((d,u)::S) Γ Φ a' w') a w:=by
 obtain⟨he,q,hr,rfl⟩:=he;obtain⟨_,S',F,_,hs,_⟩:=id c;obtain⟨b,cap,rfl,e1,e2,e3⟩:=RV.slice (hs.rv j hj);obtain⟨ad,rfl,hFb,hel⟩:=e3 al;obtain⟨ad',len,cap',e4,rfl,_⟩:=he;obtain⟨e5,_,_⟩:=Value.slice.inj e4;cases e5;obtain⟨cs,hok,hcl⟩:=Ui hel hr;have hcl:Cells w (ad.add (n.toNat*Rep.sz ρ)) cs:=by simp_all
 obtain rfl:=Flat.iff.1 hok;rw[RawOf.sz (ρ:=ρ) (α:=α)]at hcl;have h1:=Zd c.fr hx;refine qV ho rfl rfl hdN c (Zh (v:=Rep.val α (Flat.enc q)) (w':=w) ?_ ⟨rfl,rfl⟩);simp[execOp,Instr.loadAt,h1,Instr.sureAddr,YO ht (by rw[Rep.len hok,RawOf.sz (ρ:=ρ) (α:=α)]) hcl]
end
def sA(t:TypeId)(cs:List Value)(pr:List Nat)(p:Nat):Sp:=sP pr [p] λ(i:Nat)_=>(.pointer (some ⟨i,0,none⟩),[BX i t cs],[])
def sF{α:Type}[Flat α](E:TypeId)(xs:List α)(pr:List Nat)(p:Nat):Sp:=sP pr [p] λ(i:Option Addr×Nat)_=>(.slice i.1 xs.length i.2,[SL E (.slice i.1 xs.length i.2) xs],[])
def sL{ρ α:Type}[Flat ρ][Rep α](E:TypeId)(rs:List ρ)(xs:List α)(pr:List Nat)(p:Nat):Sp:=sP pr [p] λ(i:Option Addr×Nat)_=>(.slice i.1 xs.length i.2,[SL E (.slice i.1 xs.length i.2) rs],[CS rs xs])
section
variable{P:Program}{B:Bs}{N:Nat}{H:Prop}{σ:List (Nat×Value)}{Γ Γ' Γ0:List HP}{Φ Φ':List RF}{Q:Exit->Act->World->Prop}{T:Act->World->Prop}{ops:Array Oper}{sps:Sps}{R:Nat->Rc}{i d p k:Nat}{V:Nat->Value}{v:Value}{pr:List Nat}{o:Oper}{t E:TypeId}{ty:TypeId}{pos:String}{af:Array Edge}{cs:List Value}{n:Nat}{parts:Array (Nat×Operand)}
def zw(hΓ:NFl Γ Γ':=by repeat(first|apply nfc|exact nf0))(hΦ:NFl Φ Φ':=by repeat(first|apply nfc|exact nf0))(Z:∀a w,Cx B N σ Γ' Φ' a w->wpOp P #[o] (Exit.then (PsE N ops sps Γ0 B R i (sV pr v) V) Q) 0 (λa' w'=>Cx B N ((d,v)::σ) Γ' Φ' a' w') a w)(hd:dstN ops i=some d:=by kernel_rfl)(hg:Γ'=Γi sps Γ0 R i (sV pr v) λ_=>none:=by kernel_rfl):Gl B N H σ Γ Φ (wpFrom P #[o] (Exit.then (PsE N ops sps Γ0 B R i (sV pr v) V) Q) 0):=by
 cases hΓ;cases hΦ;refine zq Z λe a w c=>⟨(),?_⟩;have e1:sgF ops (λ_=>((sV pr v).rc () V).val) [] [i]=[(d,v)]:=by
  unfold sgF;rw[hd];rfl
 rw[e1];have e2:(Γi sps Γ0 R i (sV pr v) λp=>((sV pr v).rc () V).gs.lookup p)=Γ:=hg.symm;rw[e2];obtain⟨hf,S,F,h1,h2,_⟩:=c;exact⟨hf.sub [(d,v)] U,S,F,h1,h2,λ_ h=>by cases h⟩
def zEn1{s:Sp}{g:s.κ}{u:Value}{A:HP}{fs:List RF}(hg:Γ++[A]=Γi sps Γ0 R i s λp=>(s.rc g V).gs.lookup p)(hu:(s.rc g V).val=u)(hf:(s.rc g V).fs=fs)(hd:dstN ops i=some d):Gl B N H ((d,u)::σ) (Γ++[A]) (Φ++fs) (PsE N ops sps Γ0 B R i s V):=λe a w c=>⟨g,by
 have e1:sgF ops (λ_=>(s.rc g V).val) [] [i]=[(d,u)]:=by
  unfold sgF;rw[hd,hu];rfl
 rw[e1,<-hg,hf];obtain⟨hF,S,F,h1,h2,h3⟩:=c
 exact⟨hF.sub [(d,u)] U,S,F,h1,h2,λ_ h=>h3 _ (List.mem_append_right _ h)⟩⟩
def zla(hΓ:NFl Γ Γ':=by repeat(first|apply nfc|exact nf0))(hz:(P.info? t).map (λi=>i.zero.map λz=>z.cells.toList)=some (some cs):=by kernel_rfl)(hdN:Nat.blt d N=true:=by rfl)(hd:dstN ops i=some d:=by kernel_rfl)(hg:∀b,Γ'++[BX b t cs]=Γi sps Γ0 R i (sA t cs pr p) λq=>((sA t cs pr p).rc b V).gs.lookup q:=by intro b;kernel_rfl):
  Gl B N H σ Γ Φ (wpFrom P #[⟨some d,.alloc t,ty,pos,af,none⟩] (Exit.then (PsE N ops sps Γ0 B R i (sA t cs pr p) V) Q) 0):=by
 cases hΓ;refine Eal cs rfl hdN hz (Z:=λb=>zE0 ?_);have:=zEn1 (B:=B) (N:=N) (H:=H) (σ:=σ) (Φ:=Φ) (fs:=[]) (hg b) rfl rfl hd;rw[Zgb]at this;exact this
def zlf{α:Type}[Flat α]{xs:List α}(hΓ:NFl Γ Γ':=by repeat(first|apply nfc|exact nf0))(hdN:Nat.blt d N=true:=by rfl)(hln:xs.length=n:=by rfl)(hmax:Nat.ble xs.length room=true:=by rfl)(hv:parts.toList.map (λp=>opd σ p.2)=(xs.map λx=>Rep.val α (Flat.enc x)).map some:=by kernel_rfl)(hrun:∀w,(Instr.buildSlice t n ((parts.toList.map (·.1)).zip (xs.map λx=>Rep.val α (Flat.enc x))).toArray).run P w= .ok (.slice (some ⟨w.heap.size,0,none⟩) n n) (w.alloc (.cells (xs.map Flat.enc).flatten.toArray E)):=by intro _;kernel_rfl)(hd:dstN ops i=some d:=by kernel_rfl)
  (hg:∀a c,Γ'++[SL E (.slice a xs.length c) xs]=Γi sps Γ0 R i (sF E xs pr p) λq=>((sF E xs pr p).rc (a,c) V).gs.lookup q:=by intro a c;kernel_rfl):
  Gl B N H σ Γ Φ (wpFrom P #[⟨some d,.buildSlice t n parts,ty,pos,af,none⟩] (Exit.then (PsE N ops sps Γ0 B R i (sF E xs pr p) V) Q) 0):=by
 cases hΓ;refine Elt E xs rfl hdN hln hmax hv hrun (Z:=λa c=>zE0 ?_);have:=zEn1 (B:=B) (N:=N) (H:=H) (σ:=σ) (Φ:=Φ) (fs:=[]) (hg a c) rfl rfl hd;rw[Zgb]at this;exact this
def zlt{ρ α:Type}[Flat ρ][Rep α][RawOf ρ α]{rs:List ρ}{xs:List α}(hΓ:NFl Γ Γ':=by repeat(first|apply nfc|exact nf0))(hΦ:NFl Φ Φ':=by repeat(first|apply nfc|exact nf0))(Z:∀{w},LitA Φ' w rs xs)(hdN:Nat.blt d N=true:=by rfl)(hln:rs.length=n:=by rfl)(hmax:Nat.ble rs.length room=true:=by rfl)(hv:parts.toList.map (λp=>opd σ p.2)=(rs.map λx=>Rep.val ρ (Flat.enc x)).map some:=by kernel_rfl)(hrun:∀w,(Instr.buildSlice t n ((parts.toList.map (·.1)).zip (rs.map λx=>Rep.val ρ (Flat.enc x))).toArray).run P w= .ok (.slice (some ⟨w.heap.size,0,none⟩) n n) (w.alloc (.cells (rs.map Flat.enc).flatten.toArray E)):=by intro _;kernel_rfl)(hd:dstN ops i=some d:=by kernel_rfl)
  (hg:∀a c,Γ'++[SL E (.slice a xs.length c) rs]=Γi sps Γ0 R i (sL E rs xs pr p) λq=>((sL E rs xs pr p).rc (a,c) V).gs.lookup q:=by intro a c;kernel_rfl):
  Gl B N H σ Γ Φ (wpFrom P #[⟨some d,.buildSlice t n parts,ty,pos,af,none⟩] (Exit.then (PsE N ops sps Γ0 B R i (sL E rs xs pr p) V) Q) 0):=by
 cases hΓ;cases hΦ;exact Eltr E rs xs Z rfl hdN hln hmax hv hrun (Z:=λa c=>zE0 (zEn1 (hg a c) rfl rfl hd))
end
def qFn{P:Program}{B:Bs}{N:Nat}{σ:List (Nat×Value)}{Γ:List HP}{Φ:List RF}{Q:Exit->Act->World->Prop}{ops:Array Oper}{i d:Nat}{t ty yt:TypeId}{x y:Operand}{pos:String}{af:Array Edge}{v:Value}{b:Bool}(ho:ops[i]? =some ⟨some d,.binOp .eql t x y yt,ty,pos,af,none⟩:=by rfl)(hd:Nat.blt d N=true:=by rfl)(hx:opd σ x=some v:=by kernel_rfl)(hb:fnB v=some b:=by rfl)(hy:opd σ y=some .nilFunc:=by kernel_rfl)
  (ht:(P.underlying t).map (λu=>match u with|.func ..=>true|_=>false)=some true:=by kernel_rfl)(a:Act)(w:World)(c:Cx B N σ Γ Φ a w):wpOp P ops Q i (λa' w'=>Cx B N ((d,.bool b)::σ) Γ Φ a' w') a w:=by
 have h1:=Zd c.fr hx;have h2:=Zd c.fr hy;refine qV ho rfl rfl hd c (Zh (v:=.bool b) (w':=w) ?_ ⟨rfl,rfl⟩);simp[execOp,h1,h2,Zcy hb,Zf6 ht hb]
def zVn{B:Bs}{N:Nat}{σ:List (Nat×Value)}{Γ:List HP}{Φ:List RF}{T:Act->World->Prop}{ops:Array Oper}{V:Nat->Value}{n j g:Nat}{b:Bool}(hg:guardOf ops j=some (g,b):=by rfl)(hv:V g= .bool (!b):=by kernel_rfl):Gl B N (exc ops V n j) σ Γ Φ T:=λe=>by
 have:=excG e hg hv;cases b<;>cases this
theorem rest0:∀(l:List HP)(j:Nat),restG [] j l=l
 |[],_=>rfl
 |x::l,j=>congrArg (x:: ·) (rest0 l (j+1))
def zVw{α:Type}{P:Program}{B:Bs}{N:Nat}{H:Prop}{σ:List (Nat×Value)}{Γ:List HP}{Φ Φ1:List RF}{Q:Exit->Act->World->Prop}{x:Operand}{g:Option α}{z:α}{f:FuncId}{args:List Value}{vs:α->List Value}{v:Value}{d:Nat}{ty:TypeId}{pos:String}{af:Array Edge}{xs:Array Operand}{ts:Array TypeId}(caps:List Value)(hx:H->g=some z)(hcon:∀{x},g=some x->Con P f (args++caps) [] Φ1 λ(_:Unit)=>(vs x,[],[]))(ro:∀{w},AvaL [] Φ w Φ1)
  (hf:clB P f=true:=by kernel_rfl)(hd:Nat.blt d N=true:=by rfl)(hxv:opd σ x=some (.func (.func f) #[] caps.toArray):=by kernel_rfl)(hargs:xs.toList.map (opd σ)=args.map some:=by kernel_rfl)(hv:tup (vs z)=v:=by rfl):Gl B N H σ Γ Φ (wpFrom P #[⟨some d,.call ⟨.value x,xs,ts⟩,ty,pos,af,none⟩] (Exit.then (PsV B N (some d) v Γ) Q) 0):=λe a w c=>
 CfV caps [] c (hcon (hx e)) ro (Oq hf) (λ_ fr w' c=>E0 (PsV.of (by rw[<-hv];simpa[rest,rest0]using c)) rfl) rfl hd rfl au hxv hargs
def zn{B:Bs}{N:Nat}{H:Prop}{σ σ':List (Nat×Value)}{Γ Γ1 Γ':List HP}{Φ Φ':List RF}{T:Act->World->Prop}(f:∀{a w},Cx B N σ Γ Φ a w->Cx B N σ' Γ1 Φ' a w)(hΓ:NFl Γ1 Γ':=by repeat(first|apply nfc|exact nf0))(Z:Gl B N H σ' Γ' Φ' T):Gl B N H σ Γ Φ T:=by
 cases hΓ;exact zc f Z
end Go.GL
end
