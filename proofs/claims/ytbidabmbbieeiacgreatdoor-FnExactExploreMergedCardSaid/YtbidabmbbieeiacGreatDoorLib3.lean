/- Texts of this claim put into one: library or plain laws, without the program under test. -/
import Derived.Test.YtbidabmbbieeiacGreatDoorLib2
import Derived.ChangeArms
import Derived.ChangeOld
import Derived.WideShapes
import Derived.Test.YtbidabmbbieeiacGreatDoorLib1
import Derived.Maps.RangeWalk
import Derived.Shelf.SlSortCmp.NoneTotal
import Derived.Lib.Strings
set_option linter.unusedSimpArgs false
set_option linter.unusedVariables false
section
set_option linter.unusedVariables false
namespace Go.GL
open Go.RowKit
class RawOf(ρ α:Type)[Flat ρ][Rep α]:Prop where
 sz:Rep.sz ρ=Rep.sz α
 agg:Rep.agg ρ=Rep.agg α
 ex:∀{w:World}{F:Nat→Prop}{cs:List Value}{x:α},Rep.ok w F cs x→∃q:ρ,cs=Flat.enc q
def FacL(w:World)(F:Nat→Prop):List RF→Prop
 |[]=>True
 |R::l=>R.ok w F∧FacL w F l
theorem AllF.of{w:World}{F:Nat→Prop}:∀(Ψ:List RF),FacL w F Ψ→AllF Ψ w F
 |[],_=>AllF.nil
 |R::l,h=>fun R' hR=>by
  rcases Zpc.1 hR with rfl|hR
  ·exact h.1
  ·exact AllF.of l h.2 R' hR
deriving instance Inhabited for Hd
section
variable{B:Bs}{N:Nat}{σ:List (Nat×Value)}{Γ:List HP}{Φ:List RF}{a:Act}{w:World}
theorem ZkG{q:D.Value}{w:World}{F:Nat→Prop}{cs:List Value}(h:Rep.ok w F cs q):cs[0]? =some ((Str.val q.Name)):=by rw[Flat.iff.1 h];rfl
theorem Zky{q:D.Value}{w:World}{F:Nat→Prop}{cs:List Value}(h:Rep.ok w F cs q):cs[1]? =some (.int .i64 q.W):=by rw[Flat.iff.1 h];rfl
theorem Ava.mk_Term(x:D.Term){v4:Value}(h4:Ava Γ Φ w (RO v4 x.Kids)):Ava Γ Φ w (RO (.agg #[.int .i64 x.Op,.int .i64 x.W,.int .i64 x.N,(Str.val x.Name),v4]) x):=fun S F hs hf=>RV.mk_Term x (h4 S F hs hf)
theorem Cx.o_Term{v:Value}{x:D.Term}(i:Nat)(c:Cx B N σ Γ Φ a w)(hi:Φ[i]? =some (RO v x):=by rfl):∃(a4:Option Addr)(c4:Nat),v= .agg #[.int .i64 x.Op,.int .i64 x.W,.int .i64 x.N,(Str.val x.Name),.slice a4 x.Kids.length c4]∧Cx B N σ Γ (Φ++[RO (.slice a4 x.Kids.length c4) x.Kids]) a w:=by
 obtain⟨hF,S,F,hM,hs,hf⟩:=c;obtain⟨v4,rfl,h4⟩:=RV.Term (hf.get hi);obtain⟨a4,c4,rfl,_⟩:=RV.slice h4;exact⟨a4,c4,rfl,hF,S,F,hM,hs,hf.join (AllF.of [_] ⟨h4,trivial⟩)⟩
theorem Zlm{q:D.Term}{w:World}{F:Nat→Prop}{cs:List Value}(h:Rep.ok w F cs q):cs[0]? =some (.int .i64 q.Op):=by
 obtain⟨y0,y1,y2,y3,y4⟩:=q;have h:okTerm w F cs ⟨y0,y1,y2,y3,y4⟩:=h;unfold okTerm at h;obtain⟨_,_,rfl,_⟩:=h;rfl
theorem ZlU{q:D.Term}{w:World}{F:Nat→Prop}{cs:List Value}(h:Rep.ok w F cs q):cs[1]? =some (.int .i64 q.W):=by
 obtain⟨y0,y1,y2,y3,y4⟩:=q;have h:okTerm w F cs ⟨y0,y1,y2,y3,y4⟩:=h;unfold okTerm at h;obtain⟨_,_,rfl,_⟩:=h;rfl
theorem ZlD{q:D.Term}{w:World}{F:Nat→Prop}{cs:List Value}(h:Rep.ok w F cs q):cs[2]? =some (.int .i64 q.N):=by
 obtain⟨y0,y1,y2,y3,y4⟩:=q;have h:okTerm w F cs ⟨y0,y1,y2,y3,y4⟩:=h;unfold okTerm at h;obtain⟨_,_,rfl,_⟩:=h;rfl
structure Rw.Term where
 Op:Int
 W:Int
 N:Int
 Name:Str
 Kids:Hd
deriving Inhabited
instance:Rep Rw.Term where
 sz:=5
 agg:=true
 ok:=fun _ _ cs x=>cs=[.int .i64 x.Op,.int .i64 x.W,.int .i64 x.N,(Str.val x.Name),x.Kids.v]
 len:=by rintro w F cs x rfl;rfl
 one:=by rintro w F cs x rfl u hu;simp at hu;rcases hu with rfl|rfl|rfl|rfl|rfl<;>rfl
 pos:=by decide
 sgl:=fun h=>by cases h
 keep:=fun h _=>h
instance:Flat Rw.Term where
 enc:=fun x=>[.int .i64 x.Op,.int .i64 x.W,.int .i64 x.N,(Str.val x.Name),x.Kids.v]
 iff:=Iff.rfl
theorem ZjO(w:World)(F:Nat→Prop):Rep.ok w F (Flat.enc (⟨0,0,0,⟨[]⟩,⟨none,0,0⟩⟩:Rw.Term)) (⟨0,0,0,⟨[]⟩,[]⟩:D.Term):=by
 show okTerm w F _ _;unfold okTerm;exact⟨none,0,rfl,ZoH _,ZpO _,fun h=>absurd rfl h⟩
instance:RawOf Rw.Term D.Term where
 sz:=rfl
 agg:=rfl
 ex:=by
  rintro w F cs ⟨y0,y1,y2,y3,kids⟩ h;have h:okTerm w F cs ⟨y0,y1,y2,y3,kids⟩:=h;unfold okTerm at h;obtain⟨a,cp,rfl,_⟩:=h;exact⟨⟨y0,y1,y2,y3,⟨a,kids.length,cp⟩⟩,rfl⟩
theorem Ava.mk_Path(x:D.Path){v1 v2 v3 v5 v8 v9:Value}(h1:Ava Γ Φ w (RO v1 x.Regs))(h2:Ava Γ Φ w (RO v2 x.Mem))(h3:Ava Γ Φ w (RO v3 x.Stack))(h5:Ava Γ Φ w (RO v5 x.Out))(h8:Ava Γ Φ w (RO v8 x.Cond))(h9:Ava Γ Φ w (RO v9 x.Turns)):Ava Γ Φ w (RO (.agg #[.int .i64 x.Pc,v1,v2,v3,.int .i64 x.In,v5,.int .i64 x.Code,.int .i64 x.Steps,v8,v9]) x):=fun S F hs hf=>RV.mk_Path x (h1 S F hs hf) (h2 S F hs hf) (h3 S F hs hf) (h5 S F hs hf) (h8 S F hs hf) (h9 S F hs hf)
theorem Cx.o_Path{v:Value}{x:D.Path}(i:Nat)(c:Cx B N σ Γ Φ a w)(hi:Φ[i]? =some (RO v x):=by rfl):∃(a1:Option Addr)(c1:Nat)(a2:Option Addr)(c2:Nat)(a3:Option Addr)(c3:Nat)(a5:Option Addr)(c5:Nat)(a8:Option Addr)(c8:Nat)(a9:Option Addr)(c9:Nat),v= .agg #[.int .i64 x.Pc,.slice a1 x.Regs.length c1,.slice a2 x.Mem.length c2,.slice a3 x.Stack.length c3,.int .i64 x.In,.slice a5 x.Out.length c5,.int .i64 x.Code,.int .i64 x.Steps,.slice a8 x.Cond.length c8,.slice a9 x.Turns.length c9]∧Cx B N σ Γ (Φ++[RO (.slice a1 x.Regs.length c1) x.Regs,RO (.slice a2 x.Mem.length c2) x.Mem,RO (.slice a3 x.Stack.length c3) x.Stack,RO (.slice a5 x.Out.length c5) x.Out,RO (.slice a8 x.Cond.length c8) x.Cond,RO (.slice a9 x.Turns.length c9) x.Turns]) a w:=by
 obtain⟨hF,S,F,hM,hs,hf⟩:=c;obtain⟨v1,v2,v3,v5,v8,v9,rfl,h1,h2,h3,h5,h8,h9⟩:=RV.Path (hf.get hi);obtain⟨a1,c1,rfl,_⟩:=RV.slice h1;obtain⟨a2,c2,rfl,_⟩:=RV.slice h2;obtain⟨a3,c3,rfl,_⟩:=RV.slice h3;obtain⟨a5,c5,rfl,_⟩:=RV.slice h5;obtain⟨a8,c8,rfl,_⟩:=RV.slice h8;obtain⟨a9,c9,rfl,_⟩:=RV.slice h9;exact⟨a1,c1,a2,c2,a3,c3,a5,c5,a8,c8,a9,c9,rfl,hF,S,F,hM,hs,hf.join (AllF.of [_,_,_,_,_,_] ⟨h1,h2,h3,h5,h8,h9,trivial⟩)⟩
theorem Zmk{q:D.Path}{w:World}{F:Nat→Prop}{cs:List Value}(h:Rep.ok w F cs q):cs[0]? =some (.int .i64 q.Pc):=by
 obtain⟨_,_,_,_,_,_,rfl,_⟩:=h;rfl
theorem Zl7{q:D.Path}{w:World}{F:Nat→Prop}{cs:List Value}(h:Rep.ok w F cs q):cs[4]? =some (.int .i64 q.In):=by
 obtain⟨_,_,_,_,_,_,rfl,_⟩:=h;rfl
theorem ZmJ{q:D.Path}{w:World}{F:Nat→Prop}{cs:List Value}(h:Rep.ok w F cs q):cs[6]? =some (.int .i64 q.Code):=by
 obtain⟨_,_,_,_,_,_,rfl,_⟩:=h;rfl
theorem Zlq{q:D.Path}{w:World}{F:Nat→Prop}{cs:List Value}(h:Rep.ok w F cs q):cs[7]? =some (.int .i64 q.Steps):=by
 obtain⟨_,_,_,_,_,_,rfl,_⟩:=h;rfl
structure Rw.Path where
 Pc:Int
 Regs:Hd
 Mem:Hd
 Stack:Hd
 In:Int
 Out:Hd
 Code:Int
 Steps:Int
 Cond:Hd
 Turns:Hd
deriving Inhabited
instance:Rep Rw.Path where
 sz:=10
 agg:=true
 ok:=fun _ _ cs x=>cs=[.int .i64 x.Pc,x.Regs.v,x.Mem.v,x.Stack.v,.int .i64 x.In,x.Out.v,.int .i64 x.Code,.int .i64 x.Steps,x.Cond.v,x.Turns.v]
 len:=by rintro w F cs x rfl;rfl
 one:=by rintro w F cs x rfl u hu;simp at hu;rcases hu with rfl|rfl|rfl|rfl|rfl|rfl|rfl|rfl|rfl|rfl<;>rfl
 pos:=by decide
 sgl:=fun h=>by cases h
 keep:=fun h _=>h
instance:Flat Rw.Path where
 enc:=fun x=>[.int .i64 x.Pc,x.Regs.v,x.Mem.v,x.Stack.v,.int .i64 x.In,x.Out.v,.int .i64 x.Code,.int .i64 x.Steps,x.Cond.v,x.Turns.v]
 iff:=Iff.rfl
instance:RawOf Rw.Path D.Path where
 sz:=rfl
 agg:=rfl
 ex:=by
  rintro w F cs x ⟨v1,v2,v3,v5,v8,v9,rfl,h1,h2,h3,h5,h8,h9⟩;obtain⟨a1,c1,e1,_⟩:=h1;simp only[List.cons.injEq,Zqt]at e1;subst e1;obtain⟨a2,c2,e2,_⟩:=h2;simp only[List.cons.injEq,Zqt]at e2;subst e2;obtain⟨a3,c3,e3,_⟩:=h3;simp only[List.cons.injEq,Zqt]at e3;subst e3;obtain⟨a5,c5,e5,_⟩:=h5;simp only[List.cons.injEq,Zqt]at e5;subst e5;obtain⟨a8,c8,e8,_⟩:=h8;simp only[List.cons.injEq,Zqt]at e8;subst e8;obtain⟨a9,c9,e9,_⟩:=h9;simp only[List.cons.injEq,Zqt]at e9;subst e9;exact⟨⟨x.Pc,⟨a1,x.Regs.length,c1⟩,⟨a2,x.Mem.length,c2⟩,⟨a3,x.Stack.length,c3⟩,x.In,⟨a5,x.Out.length,c5⟩,x.Code,x.Steps,⟨a8,x.Cond.length,c8⟩,⟨a9,x.Turns.length,c9⟩⟩,rfl⟩
end
section
variable{P:Program}{B:Bs}{N:Nat}{σ:List (Nat×Value)}{Γ:List HP}{Φ:List RF}{a:Act}{w:World}{Q:Exit→Act→World→Prop}
  {ops:Array Oper}{k d d2 d3:Nat}{t t' s' ty ty' ty2 yt:TypeId}{pos pos' pos2:String}{af af' af2:Array Edge}{x y y' z:Operand}{kd kk:IntKind}
theorem Cx.fad{Rf:RF}(c:Cx B N σ Γ Φ a w)(h:∀F,AllF Φ w F→Rf.ok w F):Cx B N σ Γ (Φ++[Rf]) a w:=by
 obtain⟨hF,S,F,h1,h2,h3⟩:=c;exact⟨hF,S,F,h1,h2,h3.add (h F h3)⟩
theorem Ava.ro{Rf:RF}{F:Nat→Prop}(h:Ava [] Φ w Rf)(hf:AllF Φ w F):Rf.ok w F:=Rf.sub (h Non F (Sep.nil w Non) hf) fun _ _ h=>h.elim id fun h=>h.elim
end
def Pd.fl(u:Value):Pd:=.is fun v w=>∃ad,v= .pointer (some ad)∧Cells w ad [u]
theorem flM{u:Value}:(Pd.fl u).Mono Non:=fun v w w'⟨ad,h1,h2⟩hc=>⟨ad,h1,h2.keep fun _=>hc.block _ (h2.lt (by simp)) id⟩
theorem flO{u:Value}:(Pd.fl u).MonoO:=Pd.monoO_is flM
def Pd.rd{α:Type}[Rep α](x:α):Pd:=.is fun v w=>RV w (fun _=>True) v x
theorem rdM{α:Type}[Rep α]{x:α}:(Pd.rd x).Mono Non:=Zkh
theorem rdO{α:Type}[Rep α]{x:α}:(Pd.rd x).MonoO:=Pd.monoO_is Zkh
inductive ArgS where
 |v (u:Value)
 |r (i:Nat) (R:Value→RF)
def ArgsOk(w:World):List ArgS→List Value→Prop
 |[],vs=>vs=[]
 |.v u::r,vs=>∃rest,vs=u::rest∧ArgsOk w r rest
 |.r _ R::r,vs=>∃v rest,vs=v::rest∧(R v).ok w (fun _=>True)∧ArgsOk w r rest
def ArgS.sum:ArgS→Value⊕Nat
 |.v u=>.inl u
 |.r i _=>.inr i
def ArgS.in(pds:List Pd):ArgS→Prop
 |.v _=>True
 |.r i R=>pds.getD i .any= .is fun v w=>(R v).ok w (fun _=>True)
section
variable{P:Program}{B:Bs}{N:Nat}{σ:List (Nat×Value)}{Γ:List HP}{Φ Φ1 Ψ:List RF}{a:Act}{w:World}{Q:Exit→Act→World→Prop}
  {draw:Bool}{ms:List Nat}{ops:Array Oper}{pds:List Pd}{j d:Nat}{dst:Option Tmp}{g:Option (Nat×Bool)}{t ty yt:TypeId}{x y:Operand}{pos:String}{af:Array Edge}{ow:Nat→Nat}
theorem Nfa{α:Type}[Rep α]{q:α}{u:Value}{s fl off:Nat}(c:Cx B N σ Γ Φ a w)(i:Nat)(hpi:pds.getD i .any= .is fun v w=>ElemP w (fun _=>True) v q)(hu:∀{w:World}{F:Nat→Prop}{cs:List Value},Rep.ok w F cs q→cs[off]? =some u)(ho:ops[j]? =some ⟨dst,.fieldAddr t (.tmp s) fl,ty,pos,af,g⟩:=by rfl)(hj:Nat.blt j ops.size=true:=by rfl)(hl:lastW ops s j=some i:=by rfl)(hok:okG ops ops.size j i=true:=by rfl)
  (hoff:fieldOff P t fl=some off:=by kernel_rfl)(hG:Good ops pds [])(hpd:pds.getD j .any= .is fun v w=>∃ad,v= .pointer (some ad)∧Cells w ad [u]):NPB P draw ms ops pds a w Q j:=
 Zdi _ ho hG c.fr fun a' w' _ hg _ hk=>by
  have h:=Zd5 hG hj hl hok hg (hk s (by simp[Op.operands]));rw[hpi]at h;obtain⟨ad,cs,hv,_,h1,h2⟩:=h
  refine Zx (v:=.pointer (some (ad.add off))) (w':=w') (ZdJ (P:=P) (ρ:=fun y=>match y with|.tmp s'=>if s'=s then some (.pointer (some ad))else none|_=>none) (ρ':=a'.eval) (fun y z hy=>by
   grind) (by simp[pe,hoff]) w') ?_
  rw[hpd];refine⟨⟨_,rfl,fun i' q' hq=>?_⟩,Chg.refl _ _⟩;cases i' with
  |zero=>
   simp only[Zpt,Option.some.injEq]at hq;subst hq;exact h2 off u (hu h1)
  |succ j=>simp at hq
theorem Nlf{u:Value}{s:Nat}(c:Cx B N σ Γ Φ a w)(i:Nat)(hpi:pds.getD i .any= .is fun v w=>∃ad,v= .pointer (some ad)∧Cells w ad [u])(ho:ops[j]? =some ⟨dst,.load t (.tmp s),ty,pos,af,g⟩:=by rfl)(hj:Nat.blt j ops.size=true:=by rfl)
  (hl:lastW ops s j=some i:=by rfl)(hok:okG ops ops.size j i=true:=by rfl)(ht:Ty P t Int:=by constructor<;>kernel_rfl)(hG:Good ops pds [])(hpd:pds.getD j .any= .eq u):NPB P draw ms ops pds a w Q j:=
 Zdi _ ho hG c.fr fun a' w' _ hg _ hk=>by
  have h:=Zd5 hG hj hl hok hg (hk s (by simp[Op.operands]));rw[hpi]at h;obtain⟨ad,hv,h2⟩:=h;refine Zx (v:=u) (w':=w') ?_ (by rw[hpd];exact⟨rfl,Chg.refl _ _⟩);have:=Y7 ht (cs:=[u]) rfl h2;have hv':Rep.val Int [u]=u:=rfl;simp_all[execOp,Instr.loadAt,Instr.sureAddr]
theorem Nrd{α:Type}[Rep α]{q:α}{s:Nat}(c:Cx B N σ Γ Φ a w)(i:Nat)(hpi:pds.getD i .any= .is fun v w=>ElemP w (fun _=>True) v q)(ho:ops[j]? =some ⟨dst,.load t (.tmp s),ty,pos,af,g⟩:=by rfl)
  (hj:Nat.blt j ops.size=true:=by rfl)(hl:lastW ops s j=some i:=by rfl)(hok:okG ops ops.size j i=true:=by rfl)(ht:Ty P t α:=by constructor<;>kernel_rfl)(hG:Good ops pds [])(hpd:pds.getD j .any= .is fun v w=>RV w (fun _=>True) v q):NPB P draw ms ops pds a w Q j:=
 Zdi _ ho hG c.fr fun a' w' _ hg _ hk=>(ZeZ (F:=fun _=>True) (y:=q) rfl ht rfl (by
  have:=Zd5 hG hj hl hok hg (hk s (by simp[Op.operands]));rw[hpi]at this;exact this)).mono fun v w'⟨h1,h2⟩=>by
  subst h2;rw[hpd];exact⟨h1,Chg.refl _ _⟩
theorem Zh7{w:World}:∀{spec:List ArgS}{vs:List Value},AllP (ArgS.in pds) spec→SpecP pds w (spec.map ArgS.sum) vs→ArgsOk w spec vs
 |[],vs,_,h=>h
 |.v u::r,vs,hp,h=>by
  obtain⟨rest,h1,h2⟩:=h;exact⟨rest,h1,Zh7 hp.2 h2⟩
 |.r i R::r,vs,hp,h=>by
  obtain⟨v,rest,h1,h2,h3⟩:=h;have hi:pds.getD i .any=_:=hp.1;rw[hi]at h2;exact⟨v,rest,h1,h2,Zh7 hp.2 h3⟩
theorem Ncd{f:FuncId}{xs:Array Operand}{ts:Array TypeId}{rs:List Value}{u:Value}(spec:List ArgS)(c:Cx B N σ Γ Φ a w)(hi:AllP (ArgS.in pds) spec)(ro:AvaL Γ Φ w Ψ)
  (hcon:gc ops pds ops.size j→∀w' vs,ArgsOk w' spec vs→AllF Ψ w' (fun _=>True)→∃Φ1,AllF Φ1 w' (fun _=>True)∧Con P f vs [] Φ1 fun(_:Unit)=>(rs,[],[]))
  (hf:∀(args:Array Value)(w:World),(callFunc f args).run P w= .ok (.enter f args) w)(hv:Go.GL.tup rs=u:=by rfl)(ho:ops[j]? =some ⟨dst,.call ⟨.value (.func f),xs,ts⟩,ty,pos,af,g⟩:=by rfl)
  (hj:Nat.blt j ops.size=true:=by rfl)(hargs:xs.toList.map (argSpec ops σ pds j)=(spec.map ArgS.sum).map some:=by kernel_rfl)(hG:Good ops pds [])(hpd:pds.getD j .any= .eq u):NPB P draw ms ops pds a w Q j:=
 ZmL (spec.map ArgS.sum) hG c.fr hf ho hj hargs fun w' vs hC hg hsp=>by
  have hro:AllF Ψ w' (fun _=>True):=by
   obtain⟨_,S0,F0,hM0,hs0,hF0⟩:=c;exact((AvaL.all ro hs0 hF0).chg hC fun _ _ h=>h.elim).sub fun _ _ _=>trivial
  obtain⟨Φ1,h1,h2⟩:=hcon hg w' vs (Zh7 hi hsp) hro;refine(h2 w' Non (fun k=>k<w'.heap.size) (Sep.nil _ _) (h1.sub fun k hk _=>hk) (fun _ h=>h.elim) (fun k hk=>hk) (fun _ h=>h.elim)).mono ?_;rintro e w'' ⟨i,S',F',rfl,hM',_,_⟩;exact⟨_,rfl,hM'.chg,by rw[hpd];exact hv⟩
end
class Opn(α:Type)[Rep α]where
 κ:Type
 val:α→κ→Value
 facts:α→κ→List RF
 opn:∀{w:World}{F:Nat→Prop}{v:Value}{x:α},RV w F v x→∃k,v=val x k∧AllF (facts x k) w F
instance{α:Type}[Rep α]:Opn (List α)where
 κ:=Option Addr×Nat
 val l k:=.slice k.1 l.length k.2
 facts l k:=[RO (.slice k.1 l.length k.2) l]
 opn:=fun h=>by
  obtain⟨b,cp,rfl,_⟩:=RV.slice h;exact⟨(b,cp),rfl,AllF.of [_] ⟨h,trivial⟩⟩
instance:Opn D.Term where
 κ:=Option Addr×Nat
 val x k:=.agg #[.int .i64 x.Op,.int .i64 x.W,.int .i64 x.N,x.Name.val,.slice k.1 x.Kids.length k.2]
 facts x k:=[RO (.slice k.1 x.Kids.length k.2) x.Kids]
 opn:=fun h=>by
  obtain⟨v4,rfl,h2⟩:=RV.Term h;obtain⟨b,cp,rfl,_⟩:=RV.slice h2;exact⟨(b,cp),rfl,AllF.of [_] ⟨h2,trivial⟩⟩
def mapSI(P:Program)(k e:TypeId)(hk:P.underlying k=some .string)(he:P.underlying e=some (.int .i64))(hzero:(P.info? e).map (·.zero)=some (some (.int .i64 0))):MapT P k e Str Int where
 fit:=fitS
 lit x:=.string x.bytes
 dv y:=.lit (.int .i64 y)
 zero:=0
 efit:=fitZ
 zfit:=rfl
 keyed:=Maps.string_keyed hk
 key x h:=by
  have h:x.bytes.length≤9223372036854775807:=of_decide_eq_true h;have h2:(Rep.val Str (Flat.enc x))= .string ⟨x.bytes.toArray⟩:=rfl;unfold keyOf;rw[hk,h2];simp only[mapKey,hk];have h3:(ByteArray.mk x.bytes.toArray).size≤maxLen:=by show x.bytes.toArray.size≤_;simp_all[maxLen]
  simp[h3]
 inj x y _ _ h:=by
  cases x;simp_all
 elem y h:=plainElem_int he (by grind[fitZ])
 back v y ps h:=by
  obtain⟨c,rfl,hc,_⟩:=plainElem_int_inv he h;simp only[Prod.mk.injEq,DataW.lit.injEq,Lit.int.injEq]at hc;rw[hc.1.2];rfl
 hz w:=by
  show(zeroValue e).run P w= .ok (.int .i64 0) w;cases hi:P.info? e with
  |none=>simp_all
  |some i=>
   simp_all[ZoQ,Option.some.injEq,zeroValue,typeInfo]
section
variable{P:Program}{K V:TypeId}{κ β:Type}[Flat κ][Flat β]
def OM(T:MapT P K V κ β)(v:Value)(m:Option (List (κ×β))):HP where
 ok w A:=match m with
  |none=>v= .map none
  |some l=>∃b,v= .map (some b)∧OwnM T w b l∧A b
 mono:=fun{w A A'}h hA=>by
  grind[OwnM.lt]
 keep:=fun{w w' A T'}h hc hT=>by
  cases m with
  |none=>exact h
  |some l=>obtain⟨b,h1,h2,h3⟩:=h;exact⟨b,h1,h2.chg T hc (hT b h3),h3⟩
def MO(T:MapT P K V κ β)(v:Value)(m:Option (List (κ×β))):RF where
 ok w F:=(OM T v m).ok w F
 sub:=fun h hs=>(OM T v m).mono h hs
 chg:=fun h hc ht=>(OM T v m).keep h hc ht
variable{B:Bs}{N:Nat}{σ:List (Nat×Value)}{Γ:List HP}{Φ:List RF}{a:Act}{w:World}{Q:Exit→Act→World→Prop}{T:MapT P K V κ β}
  {ops:Array Oper}{k d b:Nat}{t ty yt:TypeId}{pos:String}{af:Array Edge}{x y z:Operand}{v:Value}{m:Option (List (κ×β))}{l:List (κ×β)}
theorem Cx.om[DecidableEq κ](i:Nat)(c:Cx B N σ Γ Φ a w)(hi:Γ[i]? =some (MP T b l):=by rfl):Cx B N σ (Γ.set i (OM T (.map (some b)) (some l))) Φ a w:=c.swap (H:=MP T b l) (H':=OM T (.map (some b)) (some l)) i (fun A h=>(⟨b,rfl,h.1,h.2⟩:(OM T (.map (some b)) (some l)).ok w A)) hi
theorem Cx.nilm(T:MapT P K V κ β)(c:Cx B N σ Γ Φ a w):Cx B N σ (Γ++[OM T (.map none) none]) Φ a w:=c.gam fun S h=>ZG (Γ2:=[OM T (.map none) none]) (Sep.emp _ h rfl)
theorem Cx.som[DecidableEq κ](i:Nat)(c:Cx B N σ Γ Φ a w)(hm:m.isNone=false)(hi:Γ[i]? =some (OM T v m):=by rfl):∃b,v= .map (some b)∧Cx B N σ (Γ.set i (MP T b (m.getD []))) Φ a w:=by
 cases m with
 |none=>cases hm
 | some l=>
  have:∃b,v= .map (some b):=by
   obtain⟨_,S,F,_,hs,_⟩:=c;obtain⟨A,h,_⟩:=hs.get i hi;obtain⟨b,h,_⟩:=h;simp_all
  obtain⟨b,rfl⟩:=this;exact⟨b,rfl,c.swap (H:=OM T (.map (some b)) (some l)) (H':=MP T b l) i (fun A h=>by obtain⟨b',h1,h2,h3⟩:=h;cases h1;exact⟨h2,h3⟩) hi⟩
theorem Cx.nom(i:Nat)(c:Cx B N σ Γ Φ a w)(hm:m.isNone=true)(hi:Γ[i]? =some (OM T v m):=by rfl):v= .map none:=by
 cases m with
 |some l=>cases hm
 |none=>
  obtain⟨_,S,F,_,hs,_⟩:=c;obtain⟨A,h,_⟩:=hs.get i hi;exact h
theorem Ava.mp[DecidableEq κ](i:Nat)(h:Γ[i]? =some (MP T b l):=by rfl):Ava Γ Φ w (MO T (.map (some b)) (some l)):=fun S F hs _=>by
 obtain⟨A,h1,h2⟩:=hs.get i h;exact⟨b,rfl,h1.1,.inr (h2 b h1.2)⟩
theorem Ava.om(i:Nat)(h:Γ[i]? =some (OM T v m):=by rfl):Ava Γ Φ w (MO T v m):=fun S F hs _=>by
 obtain⟨A,h1,h2⟩:=hs.get i h;exact(OM T v m).mono h1 fun k _ hk=>.inr (h2 k hk)
theorem Ava.mn:Ava Γ Φ w (MO T (.map none) none):=fun S F hs _=>rfl
theorem ZkX{t:TypeId}(ht:P.underlying t=some (.map K V))(o:Option Nat)(w:World):(binOp .eql t (.map o) (.map none)).run P w= .ok (.bool o.isNone) w:=by
 unfold binOp Op.equal Op.maxDepth Op.equalIn;cases o<;>simp[run_underlying ht]
theorem Enm(i:Nat)(c:Cx B N σ Γ Φ a w)(h:∀fr,Cx B N ((d,.bool m.isNone)::σ) Γ Φ fr w→wpFrom P ops Q (k+1) fr w)(hi:Γ[i]? =some (OM T v m):=by rfl)(ho:ops[k]? =some ⟨some d,.binOp .eql t x y yt,ty,pos,af,none⟩:=by rfl)(hd:Nat.blt d N=true:=by rfl)
  (ht:P.underlying t=some (.map K V):=by kernel_rfl)(hx:opd σ x=some v:=by kernel_rfl)(hy:opd σ y=some (.map none):=by kernel_rfl):wpFrom P ops Q k a w:=by
 obtain⟨S,F,hM,hs,hf⟩:=c.me;obtain⟨A,hA,_⟩:=hs.get i hi;have:∃o:Option Nat,v= .map o∧o.isNone=m.isNone:=by
  cases m with
  |none=>exact⟨none,hA,rfl⟩
  |some l=>obtain⟨b,h1,_⟩:=hA;simp_all
 obtain⟨o,rfl,ho'⟩:=this;exact ZfJ ho hd c.fr hx hy (by rfl) (ZkX ht o w) fun fr hF=>h fr (c.to (by simp_all))
theorem Erg[DecidableEq κ]{q:κ}{r:β}{fit:κ→Bool}{zz:β}(c:Cx B N σ Γ Φ a w)(hl:Ava Γ Φ w (MO T v m))(hr:mgeto? fit zz m q=some r)(h:∀fr,Cx B N ((d,Rep.val β (Flat.enc r))::σ) Γ Φ fr w→wpFrom P ops Q (k+1) fr w)(hfit:T.fit=fit:=by rfl)(hzz:T.zero=zz:=by rfl)
  (ho:ops[k]? =some ⟨some d,.lookup t x y false,ty,pos,af,none⟩:=by rfl)(hd:Nat.blt d N=true:=by rfl)(ht:P.underlying t=some (.map K V):=by kernel_rfl)(hx:opd σ x=some v:=by kernel_rfl)(hy:opd σ y=some (Rep.val κ (Flat.enc q)):=by kernel_rfl):wpFrom P ops Q k a w:=by
 obtain⟨F,hl⟩:=c.use hl;subst hfit;subst hzz;cases m with
 |some l=>
  obtain⟨b,rfl,h1,h2⟩:=hl;have hs:Sep [MP T b l] w F:=Sep.of_ok (A:=F) ⟨h1,h2⟩;exact Zl1 T 0 hs rfl ht ho hd c.fr (u:=q) (mget?_fit hr) hx hy rfl (congrArg (fun y=>Rep.val β (Flat.enc y)) (mget?_val hr)) fun fr hF=>h fr (c.to hF)
 | none=>
  obtain rfl:v= .map none:=hl;have hrz:r=T.zero:=by
   simp_all[mgeto?,mget?]
  subst hrz;refine ZY c.fr ho rfl rfl (ZoY.mp hd) (R:=fun z w1=>z=Rep.val β (Flat.enc T.zero)∧w1=w) (Zx ?_ ⟨rfl,rfl⟩) fun z w1 fr hz hF'=>?_
  ·have hkey:=T.key q (mget?_fit hr);have hck:=T.keyed.check w true hkey;have hfd:(Instr.findKey K (Rep.val κ (Flat.enc q)) []).run P w= .ok none w:=by
    rcases T.keyed.find w hkey [] (fun e he=>by cases he)with h|⟨j,e,_,h,_⟩
    all_goals grind
   simp[execOp,Instr.lookup,Zt c.fr hx,Zt c.fr hy,run_underlying ht,hck,hfd,Result.andThen,T.hz]
  ·obtain⟨rfl,rfl⟩:=hz;exact h fr (c.to hF')
theorem Nmg2[DecidableEq κ]{ops:Array Oper}{pds:List Pd}{draw:Bool}{ms:List Nat}{j:Nat}{dst:Option Tmp}{g:Option (Nat×Bool)}{l:List (κ×β)}{b:Nat}{q:κ}{r:β×Bool}{u:Value}{fit:κ→Bool}{zz:β}{ty t:TypeId}{pos:String}{af:Array Edge}{x y:Operand}(i:Nat)(c:Cx B N σ Γ Φ a w)(hr:gc ops pds ops.size j→mget2? fit zz l q=some r)(hi:Γ[i]? =some (MP T b l):=by rfl)(hfit:T.fit=fit:=by rfl)(hzz:T.zero=zz:=by rfl)(hu: .tuple #[Rep.val β (Flat.enc r.1),.bool r.2]=u:=by rfl)
  (ho:ops[j]? =some ⟨dst,.lookup t x y true,ty,pos,af,g⟩:=by rfl)(ht:P.underlying t=some (.map K V):=by kernel_rfl)(hx:envP ops σ pds j x=some (.map (some b)):=by kernel_rfl)(hy:envP ops σ pds j y=some (Rep.val κ (Flat.enc q)):=by kernel_rfl)(hG:Good ops pds [])(hpd:pds.getD j .any= .eq u):NPB P draw ms ops pds a w Q j:=by
 obtain⟨S,F,hM,hs,hf⟩:=c.me;subst hfit;subst hzz;exact Zjc T i hs hi ht hG c.fr ho hx hy rfl (fun hg=>mget2?_fit (hr hg)) (fun hg=>mget2?_val (hr hg)) hu hpd
end
theorem Nlt{P:Program}{B:Bs}{N:Nat}{σ:List (Nat×Value)}{Γ:List HP}{Φ:List RF}{a:Act}{w:World}{Q:Exit→Act→World→Prop}{ms:List Nat}{ops:Array Oper}{pds:List Pd}{j:Nat}{dst:Option Tmp}{g:Option (Nat×Bool)}{t ty:TypeId}{pos:String}{af:Array Edge}{ow:Nat→Nat}
  {α:Type}[Flat α]{E:TypeId}{n:Nat}{parts:Array (Nat×Operand)}(c:Cx B N σ Γ Φ a w)(l:List α)(ho:ops[j]? =some ⟨dst,.buildSlice t n parts,ty,pos,af,g⟩:=by rfl)(hln:l.length=n:=by rfl)(hmax:Nat.ble l.length room=true:=by rfl)
  (hv:parts.toList.map (fun p=>envP ops σ pds j p.2)=(l.map fun x=>Rep.val α (Flat.enc x)).map some:=by kernel_rfl)
  (hrun:∀w,(Instr.buildSlice t n ((parts.toList.map (·.1)).zip (l.map fun x=>Rep.val α (Flat.enc x))).toArray).run P w= .ok (.slice (some ⟨w.heap.size,0,none⟩) n n) (w.alloc (.cells (l.map Flat.enc).flatten.toArray E)):=by intro _;kernel_rfl)(hG:Good ops pds [])(hpd:pds.getD j .any= .is fun v w'=>∃i:Option Addr×Nat,v= .slice i.1 (List.length l) i.2∧(SL E (.slice i.1 (List.length l) i.2) l).ok w' (fun k=>w.heap.size≤k∧k<w'.heap.size∧ow k=j)):NPO P ms ops pds a w Q ow j:=
 Zoa (l.map Flat.enc).flatten (l.map Flat.enc) l hG c.fr ho _ hv hrun (fun _=>Ziz _) rfl hln hmax hpd
def TBn(P:Program)(name:String)(k:IntKind)(zs:List Int):RF where
 ok w F:=TB P name k zs w F
 sub h hs:=h.sub hs
 chg h hc ht:=h.chg hc ht
abbrev TBf(P:Program):RF:=TBn P "internal/strconv.uint64pow10" .u64 Lib.pow10Tab
theorem Con.lib{P:Program}{f:FuncId}{args:List Value}{Φ:List RF}{v:Value}(h:∀(w:World)(F:Nat→Prop),AllF Φ w F→Calls P f args.toArray w fun e w'=>e= .returned v∧Chg Non w w'):Con P f args [] Φ fun(_:Unit)=>([v],[],[]):=by
 intro w S F hs hF hS hf hd;refine(h w F hF).mono ?_;rintro e w' ⟨rfl,hc⟩;obtain⟨S',hM,hs'⟩:∃S',Mem w S F w' S' F∧Sep [] w' S':=⟨S,(Mem.start hS hf hd).ext hc,Sep.nil _ _⟩;exact⟨(),S',F,rfl,hM,hs',fun _ h=>by cases h⟩
section
variable{ρ α:Type}[Flat ρ][Rep α][RawOf ρ α]{w:World}{F:Nat→Prop}{v:Value}
omit[RawOf ρ α]in
theorem ZnC{cs cs':List Value}(ha:Rep.agg ρ=Rep.agg α)(hs:Rep.sz ρ=Rep.sz α)(hl:cs.length=Rep.sz ρ)(hl':cs'.length=Rep.sz α)(h:Rep.val ρ cs=Rep.val α cs'):cs=cs':=by
 unfold Rep.val at h;rw[←ha]at h;cases hb:Rep.agg ρ with
 |true=>
  rw[hb]at h;simp only[ZoO,Value.agg.injEq]at h;simpa using congrArg Array.toList h
 | false=>
  rw[hb]at h;have h1:=Rep.sgl hb;simp only[Zo9,ZoG]at h;cases cs with
  |nil=>simp[h1]at hl
  | cons u us=>
   cases cs' with
   |nil=>rw[←hs,h1]at hl';simp at hl'
   |cons u' us'=>
    rw[h1]at hl;rw[←hs,h1]at hl';simp only[ZoP,Nat.add_eq_right,Zp5]at hl hl';subst hl;subst hl';simpa using h
theorem ZfN{q:ρ}{x:α}(h:RV w F (Rep.val ρ (Flat.enc q)) x):Rep.ok w F (Flat.enc q) x:=by
 obtain⟨cs,h1,h2⟩:=h;have:=ZnC (ρ:=ρ) (α:=α) (RawOf.agg) (RawOf.sz) (Rep.len (w:=w) (F:=F) (Flat.iff.2 rfl:Rep.ok w F (Flat.enc q) q)) (Rep.len h1) h2;simp_all
theorem ZgS{ad:Addr}:∀{xs:List α}{i:Nat},elems w F ad i xs→∃rs:List ρ,elems w F ad i rs∧Css w F (rs.map Flat.enc) xs
 |[],i,_=>⟨[],trivial,rfl,fun i cs x h=>by simp at h⟩
 |x::xs,i,h=>by
  obtain⟨⟨cs,h1,h2⟩,h3⟩:=h;obtain⟨q,rfl⟩:=RawOf.ex (ρ:=ρ) h1;obtain⟨rs,g1,g2⟩:=ZgS h3;refine⟨q::rs,⟨⟨Flat.enc q,Flat.iff.2 rfl,by grind[RawOf.sz]⟩,g1⟩,by simp[g2.1],fun j cs y hj hy=>?_⟩;cases j with
  |zero=>simp_all
  |succ j=>exact g2.2 j cs y (by simp_all) (by simp_all)
theorem ZfP{xs:List α}(h:RV w F v xs):∃rs:List ρ,RV w F v rs∧Css w F (rs.map Flat.enc) xs:=by
 obtain⟨a,cp,rfl,h1,h2,h3⟩:=RV.slice h;by_cases hn:xs=[]
 ·subst hn;exact⟨[],RV.mk_slice (l:=([]:List ρ)) h1 h2 (fun h=>absurd rfl h),rfl,fun i cs x h=>by simp at h⟩
 ·obtain⟨ad,rfl,hF,he⟩:=h3 hn;obtain⟨rs,g1,g2⟩:=ZgS (ρ:=ρ) he;have hl:rs.length=xs.length:=by simpa using g2.1
  exact⟨rs,by rw[←hl];exact RV.mk_slice (by omega) h2 (fun _=>⟨ad,rfl,hF,g1⟩),g2⟩
theorem Zhf{ad:Addr}:∀{rs:List ρ}{xs:List α}{i:Nat},elems w F ad i rs→Css w F (rs.map Flat.enc) xs→elems w F ad i xs
 |[],[],_,_,_=>trivial
 |[],x::xs,_,_,h=>by have:=h.1;simp at this
 |q::rs,[],_,_,h=>by have:=h.1;simp at this
 |q::rs,x::xs,i,h,hc=>by
  obtain⟨⟨cs,h1,h2⟩,h3⟩:=h;obtain rfl:=Flat.iff.1 h1;refine⟨⟨_,hc.2 0 _ _ rfl rfl,by grind[RawOf.sz]⟩,Zhf h3 ⟨by simpa using hc.1,fun j cs y hj hy=>hc.2 (j+1) cs y (by simp_all) (by simp_all)⟩⟩
theorem Zge{rs:List ρ}{xs:List α}(h:RV w F v rs)(hc:Css w F (rs.map Flat.enc) xs):RV w F v xs:=by
 obtain⟨a,cp,rfl,h1,h2,h3⟩:=RV.slice h;have hl:rs.length=xs.length:=by simpa using hc.1
 rw[hl];refine RV.mk_slice (by omega) h2 fun hn=>?_;obtain⟨ad,rfl,hF,he⟩:=h3 (by grind);exact⟨ad,rfl,hF,Zhf he hc⟩
omit [RawOf ρ α]in
theorem Zkj{rs:List ρ}{xs:List α}(hc:Css w F (rs.map Flat.enc) xs){i:Nat}{x:α}(hx:xs[i]? =some x):∃q,rs[i]? =some q∧Rep.ok w F (Flat.enc q) x:=by
 have hl:rs.length=xs.length:=by simpa using hc.1
 have hlt:=(ZoI.1 hx).1;have hq:rs[i]? =some rs[i]:=by simp[hl,hlt]
 exact⟨rs[i],hq,hc.2 i _ x (by rw[Zpj,hq];rfl) hx⟩
omit [RawOf ρ α]in
theorem Zj0{rs:List ρ}{xs:List α}{n:Nat}{q:ρ}{x:α}(hc:Css w F (rs.map Flat.enc) xs)(hq:Rep.ok w F (Flat.enc q) x):Css w F ((rs.set n q).map Flat.enc) (xs.set n x):=by
 refine⟨by simpa using hc.1,fun i cs y hi hy=>?_⟩;rw[Zpj,ZpP]at hi;rw[ZpP]at hy;have hl:rs.length=xs.length:=by simpa using hc.1
 by_cases e:n=i
 ·subst e;by_cases hlt:n<rs.length
  ·simp only[ZoO,hlt,ZoQ,Option.some.injEq]at hi;rw[hl]at hlt;simp only[ZoO,hlt,Option.some.injEq]at hy;subst hi;subst hy;exact hq
  ·simp[hlt]at hi
 ·rw[ZoC e]at hi hy;exact hc.2 i cs y (by rw[Zpj];exact hi) hy
omit [RawOf ρ α]in
theorem Zg9{rs rs':List ρ}{xs xs':List α}(hc:Css w F (rs.map Flat.enc) xs)(hc':Css w F (rs'.map Flat.enc) xs'):Css w F ((rs++rs').map Flat.enc) (xs++xs'):=by
 have hl:rs.length=xs.length:=by simpa using hc.1
 refine⟨by simp[hl,(show rs'.length=xs'.length by simpa using hc'.1)],fun i cs y hi hy=>?_⟩;rw[ZqI,ZpE,List.length_map]at hi;rw[ZpE,←hl]at hy;split at hi
 ·rename_i h;rw[ZoD h]at hy;exact hc.2 i cs y hi hy
 ·rename_i h;rw[ZoC h]at hy;exact hc'.2 _ cs y hi hy
omit [RawOf ρ α]in
theorem Znk{n:Nat}{q:ρ}{x:α}(hq:Rep.ok w F (Flat.enc q) x):Css w F ((List.replicate n q).map Flat.enc) (List.replicate n x):=
 ⟨by simp,fun i cs y hi hy=>by
  rw[Zpj,Zp4]at hi;rw[Zp4]at hy;split at hi
  ·rename_i h;rw[ZoD h]at hy;simp only[ZoQ,Option.some.injEq]at hi hy;subst hi;subst hy;exact hq
  ·cases hi⟩
end
section
variable{ρ α:Type}[Flat ρ][Rep α]
def LitA(Φ:List RF)(w:World):List ρ→List α→Prop
 |[],[]=>True
 |q::rs,x::xs=>Ava [] Φ w (RO (Rep.val ρ (Flat.enc q)) x)∧LitA Φ w rs xs
 |_,_=>False
theorem LitA.css[RawOf ρ α]{Φ:List RF}{w:World}{F:Nat→Prop}(hf:AllF Φ w F):∀{rs:List ρ}{xs:List α},LitA Φ w rs xs→Css w F (rs.map Flat.enc) xs
 |[],[],_=>⟨rfl,fun i cs x h=>by simp at h⟩
 |[],_::_,h=>h.elim
 |_::_,[],h=>h.elim
 |q::rs,x::xs,h=>by
  have h2:=LitA.css hf h.2;refine⟨by simpa using h2.1,fun i cs y hi hy=>?_⟩;cases i with
  |zero=>simp only[Zps,Zpt,Option.some.injEq]at hi hy;subst hi;subst hy;exact ZfN (h.1.ro hf)
  |succ i=>exact h2.2 i cs y (by simp_all) (by simp_all)
variable{P:Program}{B:Bs}{N:Nat}{σ:List (Nat×Value)}{Γ:List HP}{Φ:List RF}{a:Act}{w:World}{Q:Exit→Act→World→Prop}
  {ops:Array Oper}{k d d2:Nat}{t t' ty ty':TypeId}{pos pos':String}{af af':Array Edge}{x y z:Operand}{E:TypeId}{v u:Value}{rs:List ρ}{xs ms r:List α}
theorem Ava.gr[RawOf ρ α](i j:Nat)(hi:Γ[i]? =some (SL E v rs):=by rfl)(hj:Φ[j]? =some (CS rs xs):=by rfl):Ava Γ Φ w (RO v xs):=fun S F hs hf=>by
 have h1:=RV.sub (F':=fun k=>F k∨S k) (hs.rv i hi) fun _ _ h=>.inr h;have h2:=(CS rs xs).sub (F':=fun k=>F k∨S k) (hf.get hj) fun _ _ h=>.inl h;exact Zge h1 h2
theorem Cx.csn(c:Cx B N σ Γ Φ a w):Cx B N σ Γ (Φ++[CS ([]:List ρ) ([]:List α)]) a w:=c.fad fun F _=>⟨rfl,fun i cs x h=>by simp at h⟩
theorem Cx.relenr{b:Option Addr}{n cp:Nat}(i j:Nat)(c:Cx B N σ Γ Φ a w)(hi:Γ[i]? =some (SL E (.slice b n cp) rs):=by rfl)(hj:Φ[j]? =some (CS rs xs):=by rfl):n=xs.length∧Cx B N σ (Γ.set i (SL E (.slice b xs.length cp) rs)) Φ a w:=by
 obtain⟨he,c⟩:=c.relen i hi;obtain⟨F,h⟩:=c.use (Ava.f j hj);have hl:rs.length=xs.length:=by simpa using h.1
 simp_all
theorem Cx.fzr[RawOf ρ α](i j:Nat)(c:Cx B N σ Γ Φ a w)(hi:Γ[i]? =some (SL E v rs):=by rfl)(hj:Φ[j]? =some (CS rs xs):=by rfl):Cx B N σ (rest [i] Γ) (Φ++[RO v xs]) a w:=by
 obtain⟨h,S,F,h1,h2,h3⟩:=c;have hp:=h2.part [i] (Γ1:=[SL E v rs]) (by simp[hi]) (by simp);obtain⟨S',F',hM,hs,hr,hfz⟩:=Sep.freeze (L:=rest [i] Γ) hp h1;have h3':=h3.sub (F':=F') fun k _ hk=>hfz k hk;exact⟨h,S',F',hM,hs,h3'.add (Zge (SL.rv hr) (h3'.get hj))⟩
theorem Emkr{n:Int}{zx:α}(E:TypeId)(zr:ρ)(hzr:∀(w:World)(F:Nat→Prop),Rep.ok w F (Flat.enc zr) zx)(c:Cx B N σ Γ Φ a w)(hr:mk? n zx=some r)
  (h:∀a' c' fr w',Cx B N ((d,.slice a' r.length c')::σ) (Γ++[SL E (.slice a' r.length c') (List.replicate r.length zr)]) (Φ++[CS (List.replicate r.length zr) r]) fr w'→wpFrom P ops Q (k+1) fr w')
  (ho:ops[k]? =some ⟨some d,.makeSlice t x y,ty,pos,af,none⟩:=by rfl)(hd:Nat.blt d N=true:=by rfl)(he:ElT P E ρ:=by refine elT ?_;kernel_rfl)(ht:P.underlying t=some (.slice E):=by kernel_rfl)
  (hz:(P.info? E).map (fun i=>i.zero.map fun z=>z.cells.toList)=some (some (Flat.enc zr)):=by kernel_rfl)(hx:opd σ x=some (.int .i64 n):=by kernel_rfl)(hy:opd σ y=some (.int .i64 n):=by kernel_rfl):wpFrom P ops Q k a w:=by
 obtain⟨h1,h2⟩:=mk?_raw (z':=zr) hr;refine Emk (r:=List.replicate r.length zr) E c h1 (fun a' c' fr w' c=>?_) ho hd he ht hz hx hy;have c:=c.fad (Rf:=CS (List.replicate r.length zr) r) fun F _=>by
  have:=Znk (n:=r.length) (hzr w' F);rw[←h2]at this;exact this
 grind
theorem Eltr[RawOf ρ α]{n:Nat}{parts:Array (Nat×Operand)}(E:TypeId)(rs:List ρ)(xs:List α)(c:Cx B N σ Γ Φ a w)(hx:LitA Φ w rs xs)
  (h:∀a' c' fr w',Cx B N ((d,.slice a' xs.length c')::σ) (Γ++[SL E (.slice a' xs.length c') rs]) (Φ++[CS rs xs]) fr w'→wpFrom P ops Q (k+1) fr w')
  (ho:ops[k]? =some ⟨some d,.buildSlice t n parts,ty,pos,af,none⟩:=by rfl)(hd:Nat.blt d N=true:=by rfl)(hln:rs.length=n:=by rfl)(hmax:Nat.ble rs.length room=true:=by rfl)
  (hv:parts.toList.map (fun p=>opd σ p.2)=(rs.map fun x=>Rep.val ρ (Flat.enc x)).map some:=by kernel_rfl)
  (hrun:∀w,(Instr.buildSlice t n ((parts.toList.map (·.1)).zip (rs.map fun x=>Rep.val ρ (Flat.enc x))).toArray).run P w= .ok (.slice (some ⟨w.heap.size,0,none⟩) n n) (w.alloc (.cells (rs.map Flat.enc).flatten.toArray E)):=by intro _;kernel_rfl):wpFrom P ops Q k a w:=by
 have c:=c.fad (Rf:=CS rs xs) fun F hf=>hx.css hf;have hl:rs.length=xs.length:=by
  obtain⟨_,_,_,_,_,hf⟩:=c;simpa using(hf (CS rs xs) (ZoZ.2 (.inr (ZoM.2 rfl)))).1
 refine Elt E rs c (fun a' c' fr w' c=>?_) ho hd hln hmax hv hrun;grind
theorem Esetr[RawOf ρ α]{n:Int}{q:ρ}{e:α}(i j:Nat)(c:Cx B N σ Γ Φ a w)(hx:Ava [] Φ w (RO (Rep.val ρ (Flat.enc q)) e))(hr:set? xs n e=some r)
  (h:∀p fr w',Cx B N ((d,p)::σ) (Γ.set i (SL E v (rs.set n.toNat q))) (Φ++[CS (rs.set n.toNat q) r]) fr w'→wpFrom P ops Q (k+2) fr w')(hi:Γ[i]? =some (SL E v rs):=by rfl)(hj:Φ[j]? =some (CS rs xs):=by rfl)
  (ho:ops[k]? =some ⟨some d,.indexAddr t x y,ty,pos,af,none⟩:=by rfl)(ho':ops[k+1]? =some ⟨none,.store t' (.tmp d) z,ty',pos',af',none⟩:=by rfl)(hte:t'=E:=by rfl)(hd:Nat.blt d N=true:=by rfl)(hz:z≠ .tmp d:=by simp)
  (he:Ty P E ρ:=by constructor<;>kernel_rfl)(ht:P.underlying t=some (.slice E):=by kernel_rfl)(hxv:opd σ x=some v:=by kernel_rfl)(hy:numOf (opd σ y)=some n:=by kernel_rfl)(hq:opd σ z=some (Rep.val ρ (Flat.enc q)):=by kernel_rfl):wpFrom P ops Q k a w:=by
 obtain⟨F0,h0⟩:=c.use (Ava.f j hj);have hl:rs.length=xs.length:=by simpa using h0.1
 obtain⟨h1,h2,h3⟩:=set?_raw q hr hl;have c:=c.fad (Rf:=CS (rs.set n.toNat q) r) fun F hf=>by
  rw[h2];exact Zj0 (hf.get hj) (ZfN (hx.ro hf))
 grind[Eset]
theorem Eapr[RawOf ρ α](i j:Nat)(c:Cx B N σ Γ Φ a w)(hu:Ava [] Φ w (RO u ms))(hr:app? xs ms=some r)
  (h:∀(rm:List ρ)a' c' fr w',Cx B N ((d,.slice a' r.length c')::σ) (Γ.set i (SL E (.slice a' r.length c') (rs++rm))) (Φ++[CS (rs++rm) r]) fr w'→wpFrom P ops Q (k+1) fr w')(hi:Γ[i]? =some (SL E v rs):=by rfl)(hj:Φ[j]? =some (CS rs xs):=by rfl)
  (ho:ops[k]? =some ⟨some d,.call ⟨.builtin .append,#[x,y],#[t,t']⟩,ty,pos,af,none⟩:=by rfl)(htt:t'=t:=by rfl)(hd:Nat.blt d N=true:=by rfl)(he:ElT P E ρ:=by refine elT ?_;kernel_rfl)(ht:P.underlying t=some (.slice E):=by kernel_rfl)
  (hx:opd σ x=some v:=by kernel_rfl)(hy:opd σ y=some u:=by kernel_rfl):wpFrom P ops Q k a w:=by
 obtain⟨hF,S,F,hM,hs,hf⟩:=c;obtain⟨rm,g1,g2⟩:=ZfP (ρ:=ρ) (hu.ro hf);have hc:=Zg9 (hf.get hj) g2;have hl:rs.length=xs.length:=by simpa using(hf.get hj).1
 have hl':rm.length=ms.length:=by simpa using g2.1
 obtain⟨h1,h2⟩:=app?_raw (l':=rs) (m':=rm) hr hl hl';rw[←h2]at hc;have c:Cx B N σ Γ (Φ++[RO u rm]++[CS (rs++rm) r]) a w:=⟨hF,S,F,hM,hs,(hf.add (R:=RO u rm) g1).add (R:=CS (rs++rm) r) hc⟩;have hlen:(rs++rm).length=r.length:=by simp_all
 refine Eap i c (Ava.f Φ.length (by simp)) h1 (fun a' c' fr w' c=>?_) hi ho htt hd he ht hx hy;rw[hlen]at c;refine h rm a' c' fr w' ?_;obtain⟨q1,q2,q3,q4,q5,q6⟩:=c;exact⟨q1,q2,q3,q4,q5,fun R hR=>q6 R ((ZoZ.1 hR).elim (fun h=>ZoZ.2 (.inl (ZoZ.2 (.inl h)))) fun h=>ZoZ.2 (.inr h))⟩
theorem Eemr[RawOf ρ α]{n:Int}{q:α}(i j:Nat)(c:Cx B N σ Γ Φ a w)(hz:get? xs n=some q)(h:∀p u fr,Cx B N ((d2,u)::(d,p)::σ) Γ (Φ++[RO u q]) fr w→wpFrom P ops Q (k+2) fr w)(hi:Γ[i]? =some (SL E v rs):=by rfl)(hj:Φ[j]? =some (CS rs xs):=by rfl)
  (ho:ops[k]? =some ⟨some d,.indexAddr t x y,ty,pos,af,none⟩:=by rfl)(ho':ops[k+1]? =some ⟨some d2,.load t' (.tmp d),ty',pos',af',none⟩:=by rfl)(hd:Nat.blt d N=true:=by rfl)(hd':Nat.blt d2 N=true:=by rfl)
  (he:Ty P t' ρ:=by constructor<;>kernel_rfl)(ht:P.underlying t=some (.slice t'):=by kernel_rfl)(hx:opd σ x=some v:=by kernel_rfl)(hy:numOf (opd σ y)=some n:=by kernel_rfl):wpFrom P ops Q k a w:=by
 obtain⟨F0,h0⟩:=c.use (Ava.f j hj);obtain⟨q',g1,_⟩:=Zkj h0 (get?_at hz);have hz':get? rs n=some q':=by simp_all[get?,ZoD,get?_nn]
 refine Eel c (Ava.g i hi) hz' (fun p fr c=>h p _ fr (c.fad fun F hf=>?_)) ho ho' hd hd' he ht hx hy;have hc:=hf.get hj;exact⟨Flat.enc q',hc.2 _ _ q (by simp_all) (get?_at hz),by grind[Rep.val,RawOf.agg]⟩
end
def Opens(P:Program)(t:TypeId)(α:Type)[Rep α](fit:α→Prop):Prop:=
 ∀(H:Type)(enc:TypeId×Value→H)(w:World)(base:Nat)(spare:Nat→Bool)(held:Bool)(fuel:Nat)(cs:List Value)(x:DataW H×List MemPlace),
  DataW.trod enc P w base spare held fuel t cs=some x→∃a:α,Rep.ok w (fun k=>k<w.heap.size) cs a∧fit a
section
variable{P:Program}{t e:TypeId}
theorem Zby(ht:P.underlying t=some (.int .i64)):Opens P t Int fitInt:=by
 intro H enc w base spare held fuel cs x h;obtain⟨n,rfl,-,hn⟩:=DataW.trod_int ht h;refine⟨n,rfl,?_⟩;simp only[Lit.wf,ZoB,ZoJ]at hn;exact hn
theorem ZjA{α:Type}{p:Nat→α→Prop}:∀n,(∀i,i<n→∃y,p i y)→∃l:List α,l.length=n∧∀i y,l[i]? =some y→p i y
 |0,_=>⟨[],rfl,by simp⟩
 | n+1,h=>by
  obtain⟨l,hl,hp⟩:=ZjA n fun i hi=>h i (by omega);obtain⟨y,hy⟩:=h n (by omega);refine⟨l++[y],by simp[hl],fun i z hz=>?_⟩;rw[ZpE]at hz;split at hz
  ·exact hp i z hz
  ·have:i=n:=by
    rcases ZpW (i-l.length) 1 with h1|h1
    ·omega
    ·rw[ZpB (by simpa using h1)]at hz;cases hz
   subst this;rw[hl,ZpJ]at hz;simp only[Zpt,Option.some.injEq]at hz;subst hz;exact hy
theorem ZiZ{α:Type}[Rep α]{fit:α→Prop}(ht:P.underlying t=some (.slice e))(hs:P.cellsOf e=Rep.sz α)(he:Opens P e α fit):Opens P t (List α) (fitList fit):=by
 intro H enc w base spare held fuel cs x h;rcases DataW.trod_slice ht h with⟨rfl,_⟩|⟨a,len,cap,elems',rest,n,rfl,rfl,_,hb,hl,hc,hlen,hel,_⟩
 ·exact⟨[],⟨none,0,rfl,ZoH _,ZpO _,fun h=>absurd rfl h⟩,ZpO _,by simp⟩
 ·have key:∀i,i<len→∃y:α,(∃cs',Rep.ok w (fun k=>k<w.heap.size) cs' y∧Cells w (a.add (i*Rep.sz α)) cs')∧fit y:=by
   intro i hi;have h1:=hel i hi;obtain⟨z,hz⟩:∃z,elems'[i]? =some z:=⟨_,ZoE (by omega)⟩;rw[hz,Zp3]at h1;obtain⟨cs',hc1,hc2⟩:=h1;obtain⟨y,hy,hf⟩:=he _ _ _ _ _ _ _ _ _ hc2;obtain⟨_,hl1,hc3⟩:=World.cells?_some hc1;refine⟨y,⟨cs',hy,fun j u hu=>?_⟩,hf⟩;have hj:j<cs'.length:=(ZoI.1 hu).1;rw[←hs,hc3 j (by omega)];exact hu
  obtain⟨l,hll,hp⟩:=ZjA len key;have hE:elems w (fun k=>k<w.heap.size) a 0 l:=Zdw fun i x hx=>by rw[ZpX];exact(hp i x hx).1
  refine⟨l,⟨some a,cap,by rw[hll],by omega,hc,fun hne=>⟨a,rfl,?_,hE⟩⟩,by show l.length≤maxLen;omega,fun x hx=>?_⟩
  ·exact ZiF hE hne
  ·obtain⟨i,hi⟩:=Zqb.1 hx;exact(hp i x hi).2
theorem Zb7{H:Type}{enc:TypeId×Value→H}{w:World}{base:Nat}{spare:Nat→Bool}{held:Bool}{n:Nat}{cs:List Value}{xs:List (DataW H×List MemPlace)}{fs:Array Field}{α:Type}[Rep α]{fit:α→Prop}
  (hf:∀(i:Nat)(f:Field),fs[i]? =some f→DataW.trod enc P w base spare held n f.type ((cs.drop f.offset).take (P.cellsOf f.type))=xs[i]?)(hx:xs.length=fs.size)(i:Nat)(f:Field)(m:Nat)(hfi:fs[i]? =some f)
  (hop:Opens P f.type α fit)(hc:P.cellsOf f.type=m):∃a:α,Rep.ok w (fun k=>k<w.heap.size) ((cs.drop f.offset).take m) a∧fit a:=by
 have h1:=hf i f hfi;obtain⟨hi,-⟩:=ZoU.1 hfi;rw[ZoE (by omega),hc]at h1;exact hop _ _ _ _ _ _ _ _ _ h1
theorem Zio{H:Type}{enc:TypeId×Value→H}{w:World}{base:Nat}{spare:Nat→Bool}{held:Bool}{v:Value}{d:DataW H}{ps:List MemPlace}{fs:Array Field}{α:Type}[Rep α]{fit:α→Prop}{r:Reach}{b:Nat}
  (ht:P.underlying t=some (.struct fs))(ha:Rep.agg α=true)(hop:Opens P t α fit)(hv:Value.okWide P w r b t v)(h:DataW.Trod enc P w base spare held t v d ps):∃a:α,RV w (fun k=>k<w.heap.size) v a∧fit a:=by
 obtain⟨cs,rfl,_⟩:=WideShapes.okWide_struct ht hv;obtain⟨fuel,hf⟩:=h;obtain⟨a,h1,h2⟩:=hop _ _ _ _ _ _ _ _ _ hf;exact⟨a,⟨_,h1,by simp[Rep.val,ha,Value.cells]⟩,h2⟩
end
end Go.GL
end
section
namespace Go.GL
theorem Zm{x:Int}(h1:-9223372036854775808≤x)(h2:x≤9223372036854775807):w64 x=x:=by
 unfold w64;rw[IntKind.wrap_i64];omega
theorem Zb{α:Type}(l:List α):len l=(l.length:Int):=rfl
theorem get?_nat{α:Type}{l:List α}{i:Nat}:get? l (i:Int)=l[i]?:=by
 unfold get?;rw[ZoD (by omega)];rfl
theorem set?_nat{α:Type}{l:List α}{i:Nat}{x:α}(h:i<l.length):set? l (i:Int) x=some (l.set i x):=by
 unfold set?;rw[ZoD ⟨by omega,by simpa using h⟩];rfl
theorem Zcb{σt ρt:Type}{B:σt→Option (σt⊕ρt)}{I:Nat→σt→Prop}{m:Nat}{r:ρt}(hs:∀k s,k<m→I k s→∃s',B s=some (.inl s')∧I (k+1) s')(hf:∀s,I m s→B s=some (.inr r)):
  ∀(d k:Nat)(s:σt),k+d=m→I k s→∀n,d<n→iterN B n s=some r
 |0,k,s,hk,hi,n,hn=>by
  obtain⟨n,rfl⟩:∃j,n=j+1:=⟨n-1,by omega⟩;obtain rfl:k=m:=by omega
  unfold iterN;rw[hf s hi]
 |d+1,k,s,hk,hi,n,hn=>by
  obtain⟨n,rfl⟩:∃j,n=j+1:=⟨n-1,by omega⟩;obtain⟨s',h1,h2⟩:=hs k s (by omega) hi;unfold iterN;rw[h1];exact Zcb hs hf d (k+1) s' (by omega) h2 n (by omega)
theorem ZjP{α:Type}[DecidableEq α]{p q:List α}(hl:p.length=q.length)(hb:p.length≤9223372036854775807):∀(d i:Nat),i+d=p.length→∀n,d<n→
  iterN (fun(s1:Int)=>if(decide (s1<(len p)))then(get? p s1).bind fun x1=>(get? q s1).bind fun x2=>if(x1 !=x2)then some (.inr (.inr false))else some (.inl ((w64 (s1+1))))else some (.inr (.inl ()))) n (i:Int)=some (if p.drop i=q.drop i then(.inl ():Unit⊕Bool)else .inr false)
 |0,i,hi,n,hn=>by
  obtain⟨n,rfl⟩:∃j,n=j+1:=⟨n-1,by omega⟩;unfold iterN;rw[ZoC (by rw[Zb];simp;omega)];simp[ZpF (show p.length≤i by omega),ZpF (show q.length≤i by omega)]
 | d+1,i,hi,n,hn=>by
  obtain⟨n,rfl⟩:∃j,n=j+1:=⟨n-1,by omega⟩;have hp:i<p.length:=by omega
  have hq:i<q.length:=by omega
  unfold iterN;rw[ZoD (by rw[Zb];simp;omega),get?_nat,get?_nat,ZoE hp,ZoE hq];simp only[Zo8];rw[ZoN hp,ZoN hq];by_cases h:p[i]=q[i]
  ·rw[ZoC (by simp[h])];simp only;rw[Zm (by omega) (by omega),show((i:Int)+1)=((i+1:Nat):Int) by omega,ZjP hl hb d (i+1) (by omega) n (by omega)];simp only[List.cons.injEq,h,Zrk]
  ·rw[ZoD (by simp[h])];simp only[List.cons.injEq,h,false_and,ZoG]
theorem Ze4{α:Type}[DecidableEq α]{p q:List α}(hb:p.length≤9223372036854775807){n:Nat}(hn:p.length<n):
 (if((len p)!=(len q))then some false else(iterN (fun(s1:Int)=>if(decide (s1<(len p)))then(get? p s1).bind fun x1=>(get? q s1).bind fun x2=>if(x1 !=x2)then some (.inr (.inr false))else some (.inl ((w64 (s1+1))))else some (.inr (.inl ()))) n (0)).bind fun(rl1:(Unit)⊕Bool)=>match rl1 with|.inl _=>some true|.inr v=>some v)=some (decide (p=q)):=by
 by_cases hl:p.length=q.length
 ·rw[ZoC (by simp[Zb,hl]),show(0:Int)=((0:Nat):Int)from rfl,ZjP hl hb p.length 0 (by omega) n hn];by_cases h:p=q<;>simp[h]
 ·rw[ZoD (by simp[Zb];omega)];have:p≠q:=fun h=>hl (by rw[h]);simp[this]
theorem mk?_len{α β:Type}{l:List α}{z:β}(h:l.length≤room):mk? (len l) z=some (List.replicate l.length z):=by
 unfold mk?;rw[Zb,ZoD ⟨by omega,by simpa using h⟩];rfl
end Go.GL
namespace Go.GL
theorem ZiQ{α:Type}{l:List α}{z:α}(hb:l.length≤9223372036854775807){n:Nat}(hn:l.length<n):
  iterN (fun(s1:Int×(List α))=>if(decide (s1.1<(len l)))then(get? l s1.1).bind fun x2=>(set? s1.2 s1.1 x2).bind fun x3=>some (.inl ((w64 (s1.1+1)),x3))else some (.inr (s1.2))) n (0,List.replicate l.length z)=some l:=by
 refine Zcb (I:=fun k s=>s=((k:Int),l.take k++List.replicate (l.length-k) z)) (m:=l.length) (fun k s hk hs=>?_) (fun s hs=>?_) l.length 0 _ (by omega) (by simp) n hn
 ·subst hs;refine⟨_,?_,rfl⟩;simp only;rw[ZoD (by rw[Zb];simp;omega),get?_nat,ZoE hk];simp only[Zo8];rw[set?_nat (by simp;omega)];simp only[Zo8,Option.some.injEq,Sum.inl.injEq,Prod.mk.injEq];refine⟨by rw[Zm (by omega) (by omega)];rfl,?_⟩;apply ZpH;intro i;rw[ZpP];simp only[ZpE,Zpq,ZoT,ZpY,Zpg,Zp4];grind
 ·subst hs;simp only;rw[ZoC (by rw[Zb];simp)];simp
def pre{α:Type}(f:Nat→α)(p:List α)(i:Nat):List α:=(List.range i).map f++p.drop i
theorem ZjM{α:Type}{f:Nat→α}{p:List α}{i:Nat}(h:i≤p.length):(pre f p i).length=p.length:=by simp[pre];omega
theorem Zi3{α:Type}{f:Nat→α}{p:List α}:pre f p 0=p:=by simp[pre]
theorem ZjY{α:Type}{f:Nat→α}{p:List α}:pre f p p.length=(List.range p.length).map f:=by simp[pre]
theorem Zni{α:Type}{f:Nat→α}{p:List α}{i:Nat}(h:i<p.length):(pre f p i)[i]? =p[i]?:=by
 unfold pre;rw[ZoX (by simp),ZpC];simp
theorem Zj7{α:Type}{f:Nat→α}{p:List α}{i:Nat}(h:i<p.length):(pre f p i).set i (f i)=pre f p (i+1):=by
 apply ZpH;intro j;unfold pre;rw[ZpP];simp only[ZpE,ZoT,List.length_map,List.length_range,Zqi,ZpC,Zpj,List.getElem?_range'];by_cases hj:j<i
 ·simp[hj,show j<i+1 by omega,show¬i=j by omega,Zqy,hj]
 ·by_cases hj2:j=i
  ·subst hj2;simp[show j<p.length by omega,Zqy,show j+(p.length-j)=p.length by omega]
  ·simp[hj,show¬j<i+1 by omega,show¬i=j by omega];rw[show i+(j-i)=i+1+(j-(i+1)) by omega]
end Go.GL
end
section
set_option linter.unusedVariables false
namespace Go.GL
open Go.RowKit
def OpensN(P:Program)(m:Nat)(t:TypeId)(α:Type)[Rep α](fit:α→Prop):Prop:=
 ∀(H:Type)(enc:TypeId×Value→H)(w:World)(base:Nat)(spare:Nat→Bool)(held:Bool)(fuel:Nat)(cs:List Value)(x:DataW H×List MemPlace),
  fuel≤m→DataW.trod enc P w base spare held fuel t cs=some x→∃a:α,Rep.ok w (fun k=>k<w.heap.size) cs a∧fit a
section
variable{P:Program}{t e:TypeId}
theorem Opens.N{α:Type}[Rep α]{fit:α→Prop}{m:Nat}(h:Opens P t α fit):OpensN P m t α fit:=fun H enc w base spare held fuel cs x _ hx=>h H enc w base spare held fuel cs x hx
end
theorem Con.law{P:Program}{f:FuncId}{args:List Value}{Φ:List RF}{r:Bool}{w:World}{F:Nat→Prop}(hc:Con P f args [] Φ fun(_:Unit)=>([.bool r],[],[]))(hF:AllF Φ w F)(hl:∀k,F k→k<w.heap.size):
  Calls P f args.toArray w fun e w'=>∃v,e= .returned v∧v= .bool r∧Chg Non w w':=by
 refine(hc w Non F (Sep.nil _ _) hF (fun _ h=>h.elim) hl (fun _ h=>h.elim)).mono ?_;rintro e w'' ⟨i,S',F',rfl,hM',_,_⟩;exact⟨_,rfl,rfl,hM'.chg⟩
theorem Bd{α β:Type}{e:Option α}{f:α→Option β}{r:β}{G:Prop}(h:e.bind f=some r)(k:∀x,e=some x→f x=some r→G):G:=by
 obtain⟨x,h1,h2⟩:=bindE h;simp_all
theorem sj{α:Type}{a b:α}(h:some a=some b):a=b:=Option.some.inj h
theorem kN{p q:Prop}(h:p):q→p:=fun _=>h
section
variable{P:Program}{B:Bs}{N:Nat}{σ:List (Nat×Value)}{Γ:List HP}{Φ:List RF}{a:Act}{w:World}{K:Act→World→Prop}{Q:Exit→Act→World→Prop}{ops:Array Oper}{pds:List Pd}{j:Nat}
theorem gT{β:Type}{X Y r:β}{g':Nat}{b:Bool}(h:(if b=true then X else Y)=r)(hgd:guardOf ops j=some (g',true):=by rfl)(hn:∃n,ops.size=n+1:=by exact⟨_,rfl⟩)(hp:(pds.getD g' .any).val? =some (.bool b):=by kernel_rfl)(hg:gc ops pds ops.size j):X=r:=iteT (gcT hg hgd hn hp) h
theorem gF{β:Type}{X Y r:β}{g':Nat}{b:Bool}(h:(if b=true then X else Y)=r)(hgd:guardOf ops j=some (g',false):=by rfl)(hn:∃n,ops.size=n+1:=by exact⟨_,rfl⟩)(hp:(pds.getD g' .any).val? =some (.bool b):=by kernel_rfl)(hg:gc ops pds ops.size j):Y=r:=iteF (gcF hg hgd hn hp) h
theorem ZJ{np:Pd}{ms:List Nat}(ow:Nat→Nat)(h:Good ops pds []→pds.getD j .any=np.inst ow→NPB P true ms ops pds a w Q j)(hG:Good ops pds [])(e:pds.getD j .any=np.inst ow):NPO P ms ops pds a w Q ow j:=ZnM ow (h hG e)
theorem AllP.and{α:Type}{p:Prop}{q:α→Prop}:∀{l:List α},AllP (fun x=>p→q x) l→p→AllP q l
 |[],_,_=>trivial
 |_::_,h,hp=>⟨h.1 hp,h.2.and hp⟩
theorem rZ{id:Nat}{draw:Bool}(np:List (Nat×Pd))(hs:List (Nat×Nat))(hmix:P.follows .mixedOrders=true)(c:Cx B N σ Γ Φ a w)
  (hnp:AllP (fun p=>Good ops (pdsM P (bxsOf Γ Φ) hs ops σ np ops.size) []→(pdsM P (bxsOf Γ Φ) hs ops σ np ops.size).getD p.1 .any=p.2→NPB P draw (cond draw (masksN ops ops.size) []) ops (pdsM P (bxsOf Γ Φ) hs ops σ np ops.size) a w (Exit.then K Q) p.1) np)
  (h:∀fr w',Cx B N (outS ops σ (pdsM P (bxsOf Γ Φ) hs ops σ np ops.size) ops.size) Γ Φ fr w'→K fr w')
  (hmono:AllP (fun p=>p.2.Mono Non) np:=by repeat(first|exact trivial|refine⟨by first|exact Pd.mono_eq|exact elM|exact flM|exact rdM|exact Zhm,?_⟩))
  (hst:(stat draw (cond draw (masksN ops ops.size) []) ops [] N&&statG ops (pdsM P (bxsOf Γ Φ) hs ops σ np ops.size) [])=true:=by kernel_rfl)
  (h1:(freeI np ops.size).map (fun j=>(pureB P (bxsOf Γ Φ) hs ops σ (pdsM P (bxsOf Γ Φ) hs ops σ np ops.size) j).map (·.1))=(freeI np ops.size).map fun j=>((pdsM P (bxsOf Γ Φ) hs ops σ np ops.size).getD j .any).val?:=by kernel_rfl)
  (h2:((freeI np ops.size).all fun j=>((pdsM P (bxsOf Γ Φ) hs ops σ np ops.size).getD j .any).val?.isSome)=true:=by kernel_rfl)
  (h3:(freeI np ops.size).map (fun j=>(pureB P (bxsOf Γ Φ) hs ops σ (pdsM P (bxsOf Γ Φ) hs ops σ np ops.size) j).map fun r=>r.2.map (·.1))=(freeI np ops.size).map fun j=>(pureB P (bxsOf Γ Φ) hs ops σ (pdsM P (bxsOf Γ Φ) hs ops σ np ops.size) j).map fun r=>r.2.map (·.2):=by kernel_rfl):
  (Code.region id ops draw).wp P (Exit.then K Q) a w:=Rz np hs hmix c hmono (fun hG=>hnp.and hG) h hst h1 h2 h3
theorem rM(m:Nat)(np:List (Nat×Pd))(hs:List (Nat×Nat))(c:Cx B N σ Γ Φ a w)
  (hnp:∀ow,AllP (fun p=>Good ops (instL ow (pdsM P (bxsOf Γ Φ) hs ops σ np m)) []→(instL ow (pdsM P (bxsOf Γ Φ) hs ops σ np m)).getD p.1 .any=p.2.inst ow→NPO P (masksN ops ops.size) ops (instL ow (pdsM P (bxsOf Γ Φ) hs ops σ np m)) a w Q ow p.1) np)
  (h:∀ow fr w',EndM ops (TT ops (instL ow (pdsM P (bxsOf Γ Φ) hs ops σ np m))) a m fr w'→Chg Non w w'→Cx B N (outS ops σ (pdsM P (bxsOf Γ Φ) hs ops σ np m) m) Γ Φ fr w'→wpFrom P ops Q m fr w')
  (hmono:AllP (fun p=>p.2.MonoO) np:=by repeat(first|exact trivial|refine⟨by first|exact Pd.monoO_eq|exact elO|exact nwM|exact flO|exact rdO|exact Pd.monoO_is Zhm,?_⟩))
  (hst:(stat true (masksN ops ops.size) ops [] N&&statG ops (pdsM P (bxsOf Γ Φ) hs ops σ np m) []&&sufB ops m)=true:=by kernel_rfl)
  (h1:(freeI np m).map (fun j=>(pureB P (bxsOf Γ Φ) hs ops σ (pdsM P (bxsOf Γ Φ) hs ops σ np m) j).map (·.1))=(freeI np m).map fun j=>((pdsM P (bxsOf Γ Φ) hs ops σ np m).getD j .any).val?:=by kernel_rfl)
  (h2:((freeI np m).all fun j=>((pdsM P (bxsOf Γ Φ) hs ops σ np m).getD j .any).val?.isSome)=true:=by kernel_rfl)
  (h3:(freeI np m).map (fun j=>(pureB P (bxsOf Γ Φ) hs ops σ (pdsM P (bxsOf Γ Φ) hs ops σ np m) j).map fun r=>r.2.map (·.1))=(freeI np m).map fun j=>(pureB P (bxsOf Γ Φ) hs ops σ (pdsM P (bxsOf Γ Φ) hs ops σ np m) j).map fun r=>r.2.map (·.2):=by kernel_rfl):
  RA P ops Q a w:=Rm m np hs c hmono (fun ow hG=>(hnp ow).and hG) h hst h1 h2 h3
theorem Nln{draw:Bool}{ms:List Nat}{dst:Option Tmp}{t ty:TypeId}{pos:String}{af:Array Edge}{g:Option (Nat×Bool)}{κ:Type}{V:κ→Value}{H:κ→HP}{wd:World}{tag n s:Nat}{ow:Nat→Nat}(c:Cx B N σ Γ Φ a w)(i:Nat)(hpi:pds.getD i .any=(Pd.nw wd tag V H).inst ow)(hV:∀x,∃b cp,V x= .slice b n cp:=by exact fun x=>⟨x.1,x.2,rfl⟩)
  (ho:ops[j]? =some ⟨dst,.call ⟨.builtin .len,#[.tmp s],#[t]⟩,ty,pos,af,g⟩:=by rfl)(hj:Nat.blt j ops.size=true:=by rfl)(hl:lastW ops s j=some i:=by rfl)(hok:okG ops ops.size j i=true:=by rfl)(ht:(P.underlying t).map (fun u=>match u with|.slice _=>true|_=>false)=some true:=by kernel_rfl)(hG:Good ops pds [])(hpd:pds.getD j .any= .eq (.int .i64 (n:Int))):NPB P draw ms ops pds a w Q j:=
 Zdi _ ho hG c.fr fun a' w' _ hg _ hk=>by
  have h:=Zd5 hG hj hl hok hg (hk s (by simp[Op.operands,Call.operands]));rw[hpi]at h;obtain⟨x,hv,_⟩:=h;obtain⟨b,cp,hx⟩:=hV x;rw[hx]at hv;refine Zx (v:=.int .i64 (n:Int)) (w':=w') ?_ (by rw[hpd];exact⟨rfl,Chg.refl _ _⟩);have ht':∃E,P.underlying t=some (.slice E):=by
   cases h:P.underlying t with
   |none=>simp_all
   |some u=>
    grind
  obtain⟨E,ht'⟩:=ht';simp[execOp,resolve,invoke,builtin,Builtin.len_,run_underlying ht',hv,goInt]
def EA(α:Type)[Rep α](v:Value)(n:Int)(p:Addr)(u:Value):RF where
 ok w F:=(∃ad len cap,v= .slice (some ad) len cap∧p=ad.add (n.toNat*Rep.sz α)∧0≤n∧n<(len:Int))∧∃cs,u=Rep.val α cs∧cs.length=Rep.sz α∧Cells w p cs∧F p.block∧p.block<w.heap.size
 sub h hs:=⟨h.1,h.2.imp fun _ h=>⟨h.1,h.2.1,h.2.2.1,hs _ h.2.2.2.2 h.2.2.2.1,h.2.2.2.2⟩⟩
 chg h hc ht:=⟨h.1,h.2.imp fun _ h=>⟨h.1,h.2.1,h.2.2.1.keep fun _=>hc.block _ h.2.2.2.2 (ht _ h.2.2.2.1),h.2.2.2.1,ZoR h.2.2.2.2 hc.size⟩⟩
theorem Cx.elp{α:Type}[Rep α]{v:Value}{l:List α}{n:Int}{x:α}(c:Cx B N σ Γ Φ a w)(hl:Ava [] Φ w (RO v l))(hx:get? l n=some x):∃p u,Cx B N σ Γ (Φ++[EA α v n p u,RO u x]) a w:=by
 obtain⟨hF,S,F,h1,h2,h3⟩:=c;have hr:RV w F v l:=hl.ro h3;obtain⟨b,cap,rfl,g1,g2,g3⟩:=hr.slice;have hn:=get?_nn hx;have hat:=get?_at hx;have hlt:n.toNat<l.length:=(ZoI.1 hat).1;obtain⟨ad,rfl,hFb,hel⟩:=g3 (by grind);obtain⟨cs,hok,hc⟩:=ZbZ hel hat;have hc:Cells w (ad.add (n.toNat*Rep.sz α)) cs:=by simp_all
 have hne:cs≠[]:=by
  have h4:=Rep.len hok;grind[Rep.pos]
 have hb:(ad.add (n.toNat*Rep.sz α)).block<w.heap.size:=hc.lt hne;exact⟨ad.add (n.toNat*Rep.sz α),Rep.val α cs,hF,S,F,h1,h2,h3.join (AllF.of [EA α _ n _ _,RO _ x] ⟨⟨⟨ad,_,_,rfl,rfl,hn,by omega⟩,cs,rfl,Rep.len hok,hc,by simp_all[add_block],hb⟩,⟨cs,hok,rfl⟩,trivial⟩)⟩
theorem Nie{draw:Bool}{ms:List Nat}{dst:Option Tmp}{t ty:TypeId}{pos:String}{af:Array Edge}{g:Option (Nat×Bool)}{x y:Operand}{α:Type}[Rep α]{e:TypeId}{v u:Value}{n:Int}{p:Addr}(c:Cx B N σ Γ Φ a w)(k:Nat)(hk:Φ[k]? =some (EA α v n p u):=by rfl)
  (ho:ops[j]? =some ⟨dst,.indexAddr t x y,ty,pos,af,g⟩:=by rfl)(ht:P.underlying t=some (.slice e):=by rfl)(he:Ty P e α:=by constructor<;>kernel_rfl)(hx:envP ops σ pds j x=some v:=by kernel_rfl)(hy:numOf (envP ops σ pds j y)=some n:=by kernel_rfl)(hG:Good ops pds [])(hpd:pds.getD j .any= .eq (.pointer (some p))):NPB P draw ms ops pds a w Q j:=by
 obtain⟨F,⟨ad,len,cap,rfl,rfl,hn,hlt⟩,_⟩:=c.use (Ava.f k hk);obtain⟨kd,hy⟩:=YD hy;refine Zdi _ ho hG c.fr fun a' w' _ hg hv _=>?_;have h1:=hv x _ (by simp[Op.operands]) hx;have h2:=hv y _ (by simp[Op.operands]) hy;refine Zx (v:=.pointer (some (ad.add (n.toNat*Rep.sz α)))) (w':=w') ?_ (by rw[hpd];exact⟨rfl,Chg.refl _ _⟩);simp[execOp,Instr.indexAt,h1,h2,asIntOf,run_underlying ht,hn,hlt,he.sizeOf]
theorem Nle{draw:Bool}{ms:List Nat}{dst:Option Tmp}{t ty:TypeId}{pos:String}{af:Array Edge}{g:Option (Nat×Bool)}{x:Operand}{α:Type}[Rep α]{v u:Value}{n:Int}{p:Addr}(c:Cx B N σ Γ Φ a w)(k:Nat)(hk:Φ[k]? =some (EA α v n p u):=by rfl)
  (ho:ops[j]? =some ⟨dst,.load t x,ty,pos,af,g⟩:=by rfl)(ht:Ty P t α:=by constructor<;>kernel_rfl)(hx:envP ops σ pds j x=some (.pointer (some p)):=by kernel_rfl)(hG:Good ops pds [])(hpd:pds.getD j .any= .eq u):NPB P draw ms ops pds a w Q j:=by
 obtain⟨F,_,cs,rfl,hl,hc,_⟩:=c.use (Ava.f k hk);refine Zdi _ ho hG c.fr fun a' w' hC hg hv _=>?_;have h1:=hv x _ (by simp[Op.operands]) hx;refine Zx (v:=Rep.val α cs) (w':=w') ?_ (by rw[hpd];exact⟨rfl,Chg.refl _ _⟩);simp[execOp,Instr.loadAt,h1,Instr.sureAddr,Y7 ht hl (hc.ext hC)]
theorem Nlc{draw:Bool}{ms:List Nat}{dst:Option Tmp}{t ty:TypeId}{pos:String}{af:Array Edge}{g:Option (Nat×Bool)}{x:Operand}{α:Type}[Rep α]{v u z:Value}{n:Int}{p:Addr}(c:Cx B N σ Γ Φ a w)(k off:Nat)(hk:Φ[k]? =some (EA α v n p u):=by rfl)(hz:u.cells.toList[off]? =some z:=by rfl)(hag:Rep.agg α=true:=by rfl)
  (ho:ops[j]? =some ⟨dst,.load t x,ty,pos,af,g⟩:=by rfl)(ht:Ty P t Int:=by constructor<;>kernel_rfl)(hx:envP ops σ pds j x=some (.pointer (some (p.add off))):=by kernel_rfl)(hG:Good ops pds [])(hpd:pds.getD j .any= .eq z):NPB P draw ms ops pds a w Q j:=by
 obtain⟨F,_,cs,rfl,hl,hc,_⟩:=c.use (Ava.f k hk);have hz':cs[off]? =some z:=by
  simp_all[Rep.val,ZoD,Value.cells]
 have hc1:Cells w (p.add off) [z]:=fun i q' hq=>by
  cases i with
  |zero=>
   simp only[Zpt,Option.some.injEq]at hq;subst hq;exact hc off z hz'
  |succ i=>simp at hq
 refine Zdi _ ho hG c.fr fun a' w' hC hg hv _=>?_;have h1:=hv x _ (by simp[Op.operands]) hx;refine Zx (v:=z) (w':=w') ?_ (by rw[hpd];exact⟨rfl,Chg.refl _ _⟩);have:=Y7 ht (cs:=[z]) rfl (hc1.ext hC);have hv':Rep.val Int [z]=z:=rfl;simp_all[execOp,Instr.loadAt,Instr.sureAddr]
theorem Cx.csl{ρ α:Type}[Flat ρ][Rep α][RawOf ρ α](rs:List ρ)(xs:List α)(c:Cx B N σ Γ Φ a w)(hx:LitA Φ w rs xs):Cx B N σ Γ (Φ++[CS rs xs]) a w:=c.fad (Rf:=CS rs xs) fun F hf=>hx.css hf
theorem Cx.rk{σ':List (Nat×Value)}{Γ':List HP}{Φ':List RF}(c:Cx B N σ Γ Φ a w)(gs fs:List Nat)(hg:gs.map (fun i=>Γ[i]?)=Γ'.map some:=by kernel_rfl)(hf:fs.map (fun i=>Φ[i]?)=Φ'.map some:=by kernel_rfl)
  (hn:gs.Nodup:=by decide)(hσ:σ'.map (fun p=>σ.lookup p.1)=σ'.map fun p=>some p.2:=by kernel_rfl):Cx B N σ' Γ' Φ' a w:=c.re gs fs hg hf hn hσ
theorem Jn{x:Code}{ι:Type}(J:ι→Lpt)(c:Cx B N σ Γ Φ a w)(h1:x.wp P (fun e a' w'=>e= .normal∧∃i,CxL B N Γ Φ (J i) a' w') a w)(h2:∀i a' w',CxL B N Γ Φ (J i) a' w'→K a' w'):x.wp P (Exit.then K Q) a w:=
 wp_mono h1 fun e a' w'⟨he,i,hi⟩=>by subst he;exact h2 i a' w' hi
theorem Jr{x:Code}{ρ1 ρ2 κ:Type}{F:Option (ρ1⊕ρ2)}{r:ρ1⊕ρ2}(M:ρ1→κ→Lpt)(hit:F=some r)(c:Cx B N σ Γ Φ a w)(h1:F=some r→x.wp P (Exit.then (fun a' w'=>∃s k,r= .inl s∧CxL B N Γ Φ (M s k) a' w') Q) a w)(cont:∀s k a' w',r= .inl s→CxL B N Γ Φ (M s k) a' w'→K a' w'):x.wp P (Exit.then K Q) a w:=
 wp_mono (h1 hit) fun e a' w' he=>by
  cases e with
  |normal=>obtain⟨s,k,h1,h⟩:=he;exact cont s k a' w' h1 h
  |_=>exact he
theorem nN{ι:Type}{J:ι→Lpt}{Γ0:List HP}{Φ0:List RF}(i:ι)(c:CxL B N Γ0 Φ0 (J i) a w):Exit.normal= .normal∧∃i,CxL B N Γ0 Φ0 (J i) a w:=⟨rfl,i,c⟩
end
abbrev I(x:Int):Value:=.int .i64 x
abbrev L{α:Type}(a:Option Addr)(l:List α)(c:Nat):Value:=.slice a (List.length l) c
abbrev B(b n:Nat):Value:=.pointer (some ⟨b,n,none⟩)
abbrev Oh:=Option Addr×Nat
abbrev Ob(α:Type):=Option Addr×Nat×α
abbrev lR{α:Type}[Rep α](a:Option Addr)(l:List α)(c:Nat):RF:=RO (L a l c) l
abbrev tV(x:D.Term)(a:Option Addr)(c:Nat):Value:=.agg #[I x.Op,I x.W,I x.N,Str.val x.Name,L a x.Kids c]
abbrev tC(x:D.Term)(a:Option Addr)(c:Nat):List Value:=[I x.Op,I x.W,I x.N,Str.val x.Name,L a x.Kids c]
abbrev tR(x:D.Term)(a:Option Addr)(c:Nat):Rw.Term:=Rw.Term.mk x.Op x.W x.N x.Name ⟨a,List.length x.Kids,c⟩
abbrev tZ:List Value:=[I 0,I 0,I 0,Str.val ⟨[]⟩,L none ([]:List D.Term) 0]
abbrev pV(x:D.Path)(a:Option Addr)(c:Nat)(a1:Option Addr)(c1:Nat)(a2:Option Addr)(c2:Nat)(a3:Option Addr)(c3:Nat)(a4:Option Addr)(c4:Nat)(a5:Option Addr)(c5:Nat):Value:=
 .agg #[I x.Pc,L a x.Regs c,L a1 x.Mem c1,L a2 x.Stack c2,I x.In,L a3 x.Out c3,I x.Code,I x.Steps,L a4 x.Cond c4,L a5 x.Turns c5]
abbrev pC(x:D.Path)(a:Option Addr)(c:Nat)(a1:Option Addr)(c1:Nat)(a2:Option Addr)(c2:Nat)(a3:Option Addr)(c3:Nat)(a4:Option Addr)(c4:Nat)(a5:Option Addr)(c5:Nat):List Value:=
 [I x.Pc,L a x.Regs c,L a1 x.Mem c1,L a2 x.Stack c2,I x.In,L a3 x.Out c3,I x.Code,I x.Steps,L a4 x.Cond c4,L a5 x.Turns c5]
abbrev pZ:List Value:=[I 0,L none ([]:List D.Term) 0,L none ([]:List D.Term) 0,L none ([]:List Int) 0,I 0,L none ([]:List D.Term) 0,I 0,I 0,L none ([]:List D.Term) 0,L none ([]:List Int) 0]
abbrev gV(x:D.Program)(a:Option Addr)(c:Nat):Value:=.agg #[I x.W,I x.Mem,I x.In,L a x.Code c]
abbrev gC(x:D.Program)(a:Option Addr)(c:Nat):List Value:=[I x.W,I x.Mem,I x.In,L a x.Code c]
abbrev nV(x:D.Ins):Value:=.agg #[I x.Op,I x.A,I x.B,I x.C]
abbrev nC(x:D.Ins):List Value:=[I x.Op,I x.A,I x.B,I x.C]
abbrev Hp:=Ob (Ob (Ob (Ob (Ob Oh))))
abbrev Hq(α:Type):=Ob (Ob (Ob (Ob (Ob (Ob α)))))
abbrev pJ(x:D.Path)(i:Hp):Value:=pV x i.1 i.2.1 i.2.2.1 i.2.2.2.1 i.2.2.2.2.1 i.2.2.2.2.2.1 i.2.2.2.2.2.2.1 i.2.2.2.2.2.2.2.1 i.2.2.2.2.2.2.2.2.1 i.2.2.2.2.2.2.2.2.2.1 i.2.2.2.2.2.2.2.2.2.2.1 i.2.2.2.2.2.2.2.2.2.2.2
abbrev pM(x:D.Path)(i:Hp):List Value:=pC x i.1 i.2.1 i.2.2.1 i.2.2.2.1 i.2.2.2.2.1 i.2.2.2.2.2.1 i.2.2.2.2.2.2.1 i.2.2.2.2.2.2.2.1 i.2.2.2.2.2.2.2.2.1 i.2.2.2.2.2.2.2.2.2.1 i.2.2.2.2.2.2.2.2.2.2.1 i.2.2.2.2.2.2.2.2.2.2.2
abbrev pK{α:Type}(x:D.Path)(i:Hq α):Value:=pV x i.1 i.2.1 i.2.2.1 i.2.2.2.1 i.2.2.2.2.1 i.2.2.2.2.2.1 i.2.2.2.2.2.2.1 i.2.2.2.2.2.2.2.1 i.2.2.2.2.2.2.2.2.1 i.2.2.2.2.2.2.2.2.2.1 i.2.2.2.2.2.2.2.2.2.2.1 i.2.2.2.2.2.2.2.2.2.2.2.1
abbrev pN{α:Type}(x:D.Path)(i:Hq α):List Value:=pC x i.1 i.2.1 i.2.2.1 i.2.2.2.1 i.2.2.2.2.1 i.2.2.2.2.2.1 i.2.2.2.2.2.2.1 i.2.2.2.2.2.2.2.1 i.2.2.2.2.2.2.2.2.1 i.2.2.2.2.2.2.2.2.2.1 i.2.2.2.2.2.2.2.2.2.2.1 i.2.2.2.2.2.2.2.2.2.2.2.1
abbrev pF(x:D.Path)(i:Hp):List RF:=[lR i.1 x.Regs i.2.1,lR i.2.2.1 x.Mem i.2.2.2.1,lR i.2.2.2.2.1 x.Stack i.2.2.2.2.2.1,lR i.2.2.2.2.2.2.1 x.Out i.2.2.2.2.2.2.2.1,lR i.2.2.2.2.2.2.2.2.1 x.Cond i.2.2.2.2.2.2.2.2.2.1,lR i.2.2.2.2.2.2.2.2.2.2.1 x.Turns i.2.2.2.2.2.2.2.2.2.2.2]
abbrev bN(n m:Nat):Array Bool:=((List.range n).map fun i=>Nat.testBit m i).toArray
abbrev _root_.Prod.p2{a b c d:Type}(X:a×b×c×d):=X.2.2.1
abbrev _root_.Prod.q2{a b c:Type}(X:a×b×c):=X.2.2
abbrev _root_.Prod.p3{a b c d e:Type}(X:a×b×c×d×e):=X.2.2.2.1
abbrev _root_.Prod.q3{a b c d:Type}(X:a×b×c×d):=X.2.2.2
abbrev _root_.Prod.p4{a b c d e f:Type}(X:a×b×c×d×e×f):=X.2.2.2.2.1
abbrev _root_.Prod.q4{a b c d e:Type}(X:a×b×c×d×e):=X.2.2.2.2
abbrev _root_.Prod.p5{a b c d e f g:Type}(X:a×b×c×d×e×f×g):=X.2.2.2.2.2.1
abbrev _root_.Prod.q5{a b c d e f:Type}(X:a×b×c×d×e×f):=X.2.2.2.2.2
abbrev _root_.Prod.p6{a b c d e f g h:Type}(X:a×b×c×d×e×f×g×h):=X.2.2.2.2.2.2.1
abbrev _root_.Prod.q6{a b c d e f g:Type}(X:a×b×c×d×e×f×g):=X.2.2.2.2.2.2
abbrev _root_.Prod.p7{a b c d e f g h i:Type}(X:a×b×c×d×e×f×g×h×i):=X.2.2.2.2.2.2.2.1
abbrev _root_.Prod.q7{a b c d e f g h:Type}(X:a×b×c×d×e×f×g×h):=X.2.2.2.2.2.2.2
abbrev _root_.Prod.p8{a b c d e f g h i j:Type}(X:a×b×c×d×e×f×g×h×i×j):=X.2.2.2.2.2.2.2.2.1
abbrev _root_.Prod.p9{a b c d e f g h i j k:Type}(X:a×b×c×d×e×f×g×h×i×j×k):=X.2.2.2.2.2.2.2.2.2.1
abbrev _root_.Prod.p10{a b c d e f g h i j k l:Type}(X:a×b×c×d×e×f×g×h×i×j×k×l):=X.2.2.2.2.2.2.2.2.2.2.1
abbrev _root_.Prod.q10{a b c d e f g h i j k:Type}(X:a×b×c×d×e×f×g×h×i×j×k):=X.2.2.2.2.2.2.2.2.2.2
abbrev _root_.Prod.p11{a b c d e f g h i j k l m:Type}(X:a×b×c×d×e×f×g×h×i×j×k×l×m):=X.2.2.2.2.2.2.2.2.2.2.2.1
abbrev _root_.Prod.q11{a b c d e f g h i j k l:Type}(X:a×b×c×d×e×f×g×h×i×j×k×l):=X.2.2.2.2.2.2.2.2.2.2.2
abbrev _root_.Prod.p12{a b c d e f g h i j k l m n:Type}(X:a×b×c×d×e×f×g×h×i×j×k×l×m×n):=X.2.2.2.2.2.2.2.2.2.2.2.2.1
abbrev _root_.Prod.p13{a b c d e f g h i j k l m n o:Type}(X:a×b×c×d×e×f×g×h×i×j×k×l×m×n×o):=X.2.2.2.2.2.2.2.2.2.2.2.2.2.1
abbrev _root_.Prod.p14{a b c d e f g h i j k l m n o p:Type}(X:a×b×c×d×e×f×g×h×i×j×k×l×m×n×o×p):=X.2.2.2.2.2.2.2.2.2.2.2.2.2.2.1
abbrev _root_.Prod.q14{a b c d e f g h i j k l m n o:Type}(X:a×b×c×d×e×f×g×h×i×j×k×l×m×n×o):=X.2.2.2.2.2.2.2.2.2.2.2.2.2.2
abbrev _root_.Prod.p15{a b c d e f g h i j k l m n o p q:Type}(X:a×b×c×d×e×f×g×h×i×j×k×l×m×n×o×p×q):=X.2.2.2.2.2.2.2.2.2.2.2.2.2.2.2.1
abbrev _root_.Prod.q15{a b c d e f g h i j k l m n o p:Type}(X:a×b×c×d×e×f×g×h×i×j×k×l×m×n×o×p):=X.2.2.2.2.2.2.2.2.2.2.2.2.2.2.2
abbrev _root_.Prod.p16{a b c d e f g h i j k l m n o p q r:Type}(X:a×b×c×d×e×f×g×h×i×j×k×l×m×n×o×p×q×r):=X.2.2.2.2.2.2.2.2.2.2.2.2.2.2.2.2.1
abbrev _root_.Prod.p17{a b c d e f g h i j k l m n o p q r s:Type}(X:a×b×c×d×e×f×g×h×i×j×k×l×m×n×o×p×q×r×s):=X.2.2.2.2.2.2.2.2.2.2.2.2.2.2.2.2.2.1
abbrev _root_.Prod.p18{a b c d e f g h i j k l m n o p q r s t:Type}(X:a×b×c×d×e×f×g×h×i×j×k×l×m×n×o×p×q×r×s×t):=X.2.2.2.2.2.2.2.2.2.2.2.2.2.2.2.2.2.2.1
abbrev _root_.Prod.p19{a b c d e f g h i j k l m n o p q r s t u:Type}(X:a×b×c×d×e×f×g×h×i×j×k×l×m×n×o×p×q×r×s×t×u):=X.2.2.2.2.2.2.2.2.2.2.2.2.2.2.2.2.2.2.2.1
abbrev _root_.Prod.p20{a b c d e f g h i j k l m n o p q r s t u v:Type}(X:a×b×c×d×e×f×g×h×i×j×k×l×m×n×o×p×q×r×s×t×u×v):=X.2.2.2.2.2.2.2.2.2.2.2.2.2.2.2.2.2.2.2.2.1
abbrev _root_.Prod.p21{a b c d e f g h i j k l m n o p q r s t u v w:Type}(X:a×b×c×d×e×f×g×h×i×j×k×l×m×n×o×p×q×r×s×t×u×v×w):=X.2.2.2.2.2.2.2.2.2.2.2.2.2.2.2.2.2.2.2.2.2.1
abbrev _root_.Prod.p22{a b c d e f g h i j k l m n o p q r s t u v w x:Type}(X:a×b×c×d×e×f×g×h×i×j×k×l×m×n×o×p×q×r×s×t×u×v×w×x):=X.2.2.2.2.2.2.2.2.2.2.2.2.2.2.2.2.2.2.2.2.2.2.1
abbrev _root_.Prod.p23{a b c d e f g h i j k l m n o p q r s t u v w x y:Type}(X:a×b×c×d×e×f×g×h×i×j×k×l×m×n×o×p×q×r×s×t×u×v×w×x×y):=X.2.2.2.2.2.2.2.2.2.2.2.2.2.2.2.2.2.2.2.2.2.2.2.1
abbrev _root_.Prod.p24{a b c d e f g h i j k l m n o p q r s t u v w x y z:Type}(X:a×b×c×d×e×f×g×h×i×j×k×l×m×n×o×p×q×r×s×t×u×v×w×x×y×z):=X.2.2.2.2.2.2.2.2.2.2.2.2.2.2.2.2.2.2.2.2.2.2.2.2.1
abbrev _root_.Prod.p25{a b c d e f g h i j k l m n o p q r s t u v w x y z A:Type}(X:a×b×c×d×e×f×g×h×i×j×k×l×m×n×o×p×q×r×s×t×u×v×w×x×y×z×A):=X.2.2.2.2.2.2.2.2.2.2.2.2.2.2.2.2.2.2.2.2.2.2.2.2.2.1
abbrev _root_.Prod.p26{a b c d e f g h i j k l m n o p q r s t u v w x y z A B:Type}(X:a×b×c×d×e×f×g×h×i×j×k×l×m×n×o×p×q×r×s×t×u×v×w×x×y×z×A×B):=X.2.2.2.2.2.2.2.2.2.2.2.2.2.2.2.2.2.2.2.2.2.2.2.2.2.2.1
abbrev _root_.Prod.q27{a b c d e f g h i j k l m n o p q r s t u v w x y z A B:Type}(X:a×b×c×d×e×f×g×h×i×j×k×l×m×n×o×p×q×r×s×t×u×v×w×x×y×z×A×B):=X.2.2.2.2.2.2.2.2.2.2.2.2.2.2.2.2.2.2.2.2.2.2.2.2.2.2.2
abbrev t0(x:D.Term):D.Term:=D.Term.mk x.Op x.W x.N x.Name ([]:List D.Term)
abbrev hd{α:Type}(a:Option Addr)(l:List α)(c:Nat):Hd:=⟨a,List.length l,c⟩
abbrev h0:Hd:=⟨none,List.length ([]:List D.Term),0⟩
abbrev L0:Value:=L none ([]:List D.Term) 0
abbrev u0(x:D.Term):Rw.Term:=Rw.Term.mk x.Op x.W x.N x.Name h0
theorem tt:True:=trivial
theorem l1{α:Type}(x y:α)(l:List α):(x::l).set 0 y=y::l:=rfl
theorem l2{α:Type}(x y:α)(l:List α)(n:Nat):(x::l).set (n+1) y=x::l.set n y:=rfl
theorem l3{α:Type}(x:α)(l m:List α):(x::l)++m=x::(l++m):=rfl
theorem l4{α:Type}(l:List α):[]++l=l:=rfl
theorem l5{α:Type}(l m n:List α):(l++m)++n=l++(m++n):=ZpI l m n
theorem l6{α:Type}(l:List α):l++[]=l:=ZpD l
theorem l7(Γ:List HP):rest [] Γ=Γ:=by
 unfold rest;generalize 0=j
 induction Γ generalizing j with
 |nil=>rfl
 |cons x l ih=>show x::restG [] (j+1) l=_;rw[ih]
theorem Zbj(gs:List Nat):∀(l:List HP)(j:Nat),restG (gs.map (· +1)) (j+1) l=restG gs j l
 |[],_=>rfl
 | x::l,j=>by
  have e:memN (gs.map (· +1)) (j+1)=memN gs j:=by
   simp[Zh3,Zps,List.contains_cons]
  unfold restG;rw[e,Zbj gs l (j+1)]
theorem r0(x:HP)(l:List HP):rest [0] (x::l)=l:=by
 have h:∀(l:List HP)(j:Nat),restG [0] (j+1) l=l:=by
  intro l
  induction l with
  |nil=>intro _;rfl
  |cons y l ih=>intro j;show y::restG [0] (j+1+1) l=_;rw[ih]
 exact h l 0
theorem r1(x:HP)(l:List HP)(n:Nat):rest [n+1] (x::l)=x::rest [n] l:=congrArg (x:: ·) (Zbj [n] l 0)
theorem r2(x:HP)(l:List HP)(n m:Nat):rest [n+1,m+1] (x::l)=x::rest [n,m] l:=congrArg (x:: ·) (Zbj [n,m] l 0)
theorem r3(x:HP)(l:List HP)(m:Nat):rest [0,m+1] (x::l)=rest [m] l:=by
 have h:∀(l:List HP)(j:Nat),restG [0,m+1] (j+1) l=restG [m+1] (j+1) l:=by
  intro l
  induction l with
  |nil=>intro _;rfl
  |cons y l ih=>intro j;show cond (memN [m+1] (j+1)) _ _=cond (memN [m+1] (j+1)) _ _;simp_all
 exact(h l 0).trans (Zbj [m] l 0)
theorem ZfA(gs:List Nat)(l:List HP)(j:Nat):restG (0::gs.map (· +1)) (j+1) l=restG gs j l:=by
 have h:∀(l:List HP)(j:Nat),restG (0::gs.map (· +1)) (j+1) l=restG (gs.map (· +1)) (j+1) l:=by
  intro l
  induction l with
  |nil=>intro _;rfl
  |cons y l ih=>intro j;show cond (memN (gs.map (· +1)) (j+1)) _ _=cond (memN (gs.map (· +1)) (j+1)) _ _;simp_all
 simp_all[trans,Zbj]
theorem r4(x:HP)(l:List HP)(a b c:Nat):rest [a+1,b+1,c+1] (x::l)=x::rest [a,b,c] l:=congrArg (x:: ·) (Zbj [a,b,c] l 0)
theorem r5(x:HP)(l:List HP)(b c:Nat):rest [0,b+1,c+1] (x::l)=rest [b,c] l:=ZfA [b,c] l 0
theorem r6(x:HP)(l:List HP)(a b c d:Nat):rest [a+1,b+1,c+1,d+1] (x::l)=x::rest [a,b,c,d] l:=congrArg (x:: ·) (Zbj [a,b,c,d] l 0)
theorem r7(x:HP)(l:List HP)(b c d:Nat):rest [0,b+1,c+1,d+1] (x::l)=rest [b,c,d] l:=ZfA [b,c,d] l 0
theorem r8(x:HP)(l:List HP)(a b c d e:Nat):rest [a+1,b+1,c+1,d+1,e+1] (x::l)=x::rest [a,b,c,d,e] l:=congrArg (x:: ·) (Zbj [a,b,c,d,e] l 0)
theorem r9(x:HP)(l:List HP)(b c d e:Nat):rest [0,b+1,c+1,d+1,e+1] (x::l)=rest [b,c,d,e] l:=ZfA [b,c,d,e] l 0
theorem rA(x:HP)(l:List HP)(a b c d e f:Nat):rest [a+1,b+1,c+1,d+1,e+1,f+1] (x::l)=x::rest [a,b,c,d,e,f] l:=congrArg (x:: ·) (Zbj [a,b,c,d,e,f] l 0)
theorem rB(x:HP)(l:List HP)(b c d e f:Nat):rest [0,b+1,c+1,d+1,e+1,f+1] (x::l)=rest [b,c,d,e,f] l:=ZfA [b,c,d,e,f] l 0
theorem kk{P:Program}{t:TypeId}{α:Type}[Rep α](h1:(P.info? t).map (·.size)=some (Rep.sz α):=by kernel_rfl)
  (h2:(match P.underlying t with|some (.struct _)=>true|some (.array _ _)=>true|some _=>false|none=>!(Rep.agg α))=Rep.agg α:=by kernel_rfl):Ty P t α:=⟨h1,h2⟩
theorem ZnF{ops:Array Oper}{pds:List Pd}:∀(n j:Nat),gc ops pds n j→gc ops pds (n+1) j
 |0,_,h=>h.elim
 | n+1,j,h=>by
  unfold gc at h⊢;cases hg:guardOf ops j with
  |none=>trivial
  |some q=>
   rw[hg]at h;exact⟨ZnF n q.1 h.1,h.2⟩
section
variable{P:Program}{B:Bs}{N:Nat}{σ:List (Nat×Value)}{Γ:List HP}{Φ Φ1:List RF}{a:Act}{w:World}{Q:Exit→Act→World→Prop}{ι:Type}{R:ι→Res}{args:List Value}{f:FuncId}
variable{ops:Array Oper}{k d:Nat}{ty:TypeId}{xs:Array Operand}{ts:Array TypeId}{pos:String}{af:Array Edge}
theorem Cb(c:Cx B N σ Γ Φ a w)(hcon:Con P f args [] Φ1 R)(ro:AvaL Γ Φ w Φ1)(hf:∀(args:Array Value)(w:World),(callFunc f args).run P w= .ok (.enter f args) w)
  (h:∀i fr w',Cx B N ((d,tup (R i).1)::σ) (Γ++(R i).2.1) Φ fr w'→wpFrom P ops Q (k+1) fr w')
  (ho:ops[k]? =some ⟨some d,.call ⟨.value (.func f),xs,ts⟩,ty,pos,af,none⟩:=by rfl)(hd:Nat.blt d N=true:=by rfl)
  (hargs:xs.toList.map (opd σ)=args.map some:=by kernel_rfl):wpFrom P ops Q k a w:=
 Ca [] c hcon (by simp_all[l7]) hf (fun i fr w' c=>h i fr w' (by simp_all[l7])) ho hd rfl Zq5 hargs
theorem Cg(c:Cx B N σ Γ Φ a w)(hcon:Con P f args [] Φ1 R)(ro:AvaL [] Φ w Φ1)(hf:∀(args:Array Value)(w:World),(callFunc f args).run P w= .ok (.enter f args) w)
  (h:∀i fr w',Cx B N ((d,tup (R i).1)::σ) (Γ++(R i).2.1) (Φ++(R i).2.2) fr w'→wpFrom P ops Q (k+1) fr w')
  (ho:ops[k]? =some ⟨some d,.call ⟨.value (.func f),xs,ts⟩,ty,pos,af,none⟩:=by rfl)(hd:Nat.blt d N=true:=by rfl)
  (hargs:xs.toList.map (opd σ)=args.map some:=by kernel_rfl):wpFrom P ops Q k a w:=
 Cf [] c hcon ro hf (fun i fr w' c=>h i fr w' (by simp_all[l7])) ho hd rfl Zq5 hargs
end
section
variable{P:Program}{B:Bs}{N:Nat}{σ:List (Nat×Value)}{Γ Γ':List HP}{Φ Φ':List RF}{a:Act}{w:World}
theorem Cx.nf(c:Cx B N σ Γ Φ a w)(h:Γ=Γ':=by first|(simp only[id_eq,Zps,Zql,l1,l2,l3,l4,l5,l6,l7,r0,r1,r2,r3,r4,r5,r6,r7,r8,r9,rA,rB];rfl)|rfl):Cx B N σ Γ' Φ a w:=h▸c
theorem Cx.ng(c:Cx B N σ Γ Φ a w)(h:Γ=Γ':=by first|(simp only[id_eq,Zps,Zql,l1,l2,l3,l4,l5,l6,l7,r0,r1,r2,r3,r4,r5,r6,r7,r8,r9,rA,rB];rfl)|rfl)(h':Φ=Φ':=by first|(simp only[l3,l4,l5,l6];rfl)|rfl):Cx B N σ Γ' Φ' a w:=h▸h'▸c
end
theorem rE{p:Prop}(h:p:=by(first|obtain rfl:=sj h|cases h);refine wp_ret ?_;(repeat(first|with_reducible refine tr ?_|with_reducible refine br ?_));exact Rt c () [] []):p:=h
theorem gU{ops:Array Oper}{pds:List Pd}{j:Nat}(g:Nat)(h:gc ops pds ops.size j)(hgd:∃b,guardOf ops j=some (g,b):=by exact⟨_,rfl⟩)(hn:∃n,ops.size=n+1:=by exact⟨_,rfl⟩):gc ops pds ops.size g:=by
 grind[gc,ZnF]
theorem sk{α:Type}{a b:α}(h:some a=some b):b=a:=(Option.some.inj h).symm
theorem Zlj{q:D.Path}{w:World}{F:Nat→Prop}{cs:List Value}(h:Rep.ok w F cs q):∃u,cs[1]? =some u∧(RO u q.Regs).ok w F:=by
 obtain⟨v1,v2,v3,v5,v8,v9,rfl,h1,h2,h3,h5,h8,h9⟩:=h;exact⟨v1,rfl,RV.of_one rfl h1⟩
theorem Zli{q:D.Path}{w:World}{F:Nat→Prop}{cs:List Value}(h:Rep.ok w F cs q):∃u,cs[2]? =some u∧(RO u q.Mem).ok w F:=by
 obtain⟨v1,v2,v3,v5,v8,v9,rfl,h1,h2,h3,h5,h8,h9⟩:=h;exact⟨v2,rfl,RV.of_one rfl h2⟩
theorem Zmx{q:D.Path}{w:World}{F:Nat→Prop}{cs:List Value}(h:Rep.ok w F cs q):∃u,cs[3]? =some u∧(RO u q.Stack).ok w F:=by
 obtain⟨v1,v2,v3,v5,v8,v9,rfl,h1,h2,h3,h5,h8,h9⟩:=h;exact⟨v3,rfl,RV.of_one rfl h3⟩
theorem ZlW{q:D.Path}{w:World}{F:Nat→Prop}{cs:List Value}(h:Rep.ok w F cs q):∃u,cs[5]? =some u∧(RO u q.Out).ok w F:=by
 obtain⟨v1,v2,v3,v5,v8,v9,rfl,h1,h2,h3,h5,h8,h9⟩:=h;exact⟨v5,rfl,RV.of_one rfl h5⟩
theorem ZmN{q:D.Path}{w:World}{F:Nat→Prop}{cs:List Value}(h:Rep.ok w F cs q):∃u,cs[8]? =some u∧(RO u q.Cond).ok w F:=by
 obtain⟨v1,v2,v3,v5,v8,v9,rfl,h1,h2,h3,h5,h8,h9⟩:=h;exact⟨v8,rfl,RV.of_one rfl h8⟩
theorem Zlt{q:D.Path}{w:World}{F:Nat→Prop}{cs:List Value}(h:Rep.ok w F cs q):∃u,cs[9]? =some u∧(RO u q.Turns).ok w F:=by
 obtain⟨v1,v2,v3,v5,v8,v9,rfl,h1,h2,h3,h5,h8,h9⟩:=h;exact⟨v9,rfl,RV.of_one rfl h9⟩
def OD{R α:Type}[Flat R](own:R→α→HP)(E:TypeId)(v:Value)(xs:List α):HP:=.ex fun rs:List R=>.two (SL E v rs) (.all own rs xs)
section
variable{R α:Type}[Flat R]{own own':R→α→HP}{E:TypeId}{v:Value}{rs:List R}{xs:List α}{w:World}{A:Nat→Prop}
theorem OD.len(h:(OD own E v xs).ok w A):∃a c,v= .slice a xs.length c:=by
 obtain⟨rs,h⟩:=h;grind[Zlw]
theorem OD.rv[Rep α](ho:Owns own)(h:(OD own E v xs).ok w A):RV w A v xs:=by
 obtain⟨rs,h⟩:=h;grind[ZmZ]
theorem OD.nil(own:R→α→HP)(E:TypeId)(w:World):(OD own E (.slice none 0 0) []).ok w Non:=⟨[],Zf3 (.inr ⟨rfl,none,rfl⟩) trivial⟩
omit [Flat R]in
theorem ZhF(hi:∀r x A,(own r x).ok w A→(own' r x).ok w A):∀{rs:List R}{xs:List α}{A:Nat→Prop},(HP.all own rs xs).ok w A→(HP.all own' rs xs).ok w A
 |[],[],_,h=>h
 |[],_::_,_,h=>h.elim
 |_::_,[],_,h=>h.elim
 |_::_,_::_,_,h=>Zd4 (fun _ h=>hi _ _ _ h) (fun _ h=>ZhF hi h) h
theorem OD.imp(hi:∀r x A,(own r x).ok w A→(own' r x).ok w A)(h:(OD own E v xs).ok w A):(OD own' E v xs).ok w A:=by
 obtain⟨rs,h⟩:=h;exact⟨rs,Zd4 (fun _ h=>h) (fun _ h=>ZhF hi h) h⟩
end
def ownTn(E:TypeId):Nat→Rw.Term→D.Term→HP
 |0,_,_=>.pure False
 |n+1,r,t=>.two (.pure (r.Op=t.Op∧r.W=t.W∧r.N=t.N∧r.Name=t.Name)) (OD (ownTn E n) E r.Kids.v t.Kids)
def ownT(E:TypeId)(r:Rw.Term)(t:D.Term):HP:=.ex fun n=>ownTn E n r t
section
variable{E:TypeId}{r:Rw.Term}{t:D.Term}{w:World}{A:Nat→Prop}
theorem Zih{w:World}:∀(n:Nat)(r:Rw.Term)(t:D.Term)(A:Nat→Prop),(ownTn E n r t).ok w A→(ownTn E (n+1) r t).ok w A
 |0,_,_,_,h=>h.elim
 |n+1,_,_,_,h=>Zd4 (fun _ h=>h) (fun _ h=>OD.imp (Zih n) h) h
theorem Zi0{w:World}{m n:Nat}(h:n≤m){r:Rw.Term}{t:D.Term}{A:Nat→Prop}(ht:(ownTn E n r t).ok w A):(ownTn E m r t).ok w A:=by
 induction h with
 |refl=>exact ht
 |step _ ih=>simp_all[Zih]
theorem ZlB{w:World}:∀{rs:List Rw.Term}{xs:List D.Term}{A:Nat→Prop},(HP.all (ownT E) rs xs).ok w A→∃n,(HP.all (ownTn E n) rs xs).ok w A
 |[],[],_,h=>⟨0,h⟩
 |[],_::_,_,h=>h.elim
 |_::_,[],_,h=>h.elim
 |r::rs,x::xs,A,⟨B,C,⟨n,h1⟩,h2,h3,h4⟩=>by
  obtain⟨m,h2⟩:=ZlB h2;exact⟨max n m,B,C,Zi0 (Nat.le_max_left _ _) h1,ZhF (fun _ _ _ h=>Zi0 (Nat.le_max_right _ _) h) h2,h3,h4⟩
theorem ZfS:(ownT E r t).ok w A↔(r.Op=t.Op∧r.W=t.W∧r.N=t.N∧r.Name=t.Name)∧(OD (ownT E) E r.Kids.v t.Kids).ok w A:=by
 constructor
 ·rintro⟨n,h⟩;cases n with
  |zero=>exact h.elim
  |succ n=>
   have h1:=ZcX h;have h2:=ZcW h;exact⟨h2,OD.imp (fun _ _ _ h=>⟨n,h⟩) h1⟩
 ·rintro⟨h1,rs,h2⟩;obtain⟨B,C,a,b,c,d⟩:=h2;obtain⟨n,b⟩:=ZlB b;exact⟨n+1,ZhI ⟨rs,B,C,a,b,c,d⟩ h1⟩
theorem Ziv{w:World}:∀(n:Nat)(A:Nat→Prop)(r:Rw.Term)(t:D.Term),(ownTn E n r t).ok w A→Rep.ok w A (Flat.enc r) t
 |0,_,_,_,h=>h.elim
 | n +1,A,r,t,h=>by
  obtain⟨e1,e2,e3,e4⟩:=(ZcW h:(HP.pure _).ok w A);have h2:RV w A r.Kids.v t.Kids:=by
   obtain⟨rs,h⟩:=ZcX h;obtain⟨B,C,h1,h2,h3,h4⟩:=h;have hl:=Ze0 h2
   have hcss:∀k:Nat→Prop,Css w C (rs.map Flat.enc) t.Kids:=fun _=>⟨by simp[hl],fun i cs x hcs hx=>by
    rw[Zpj]at hcs;cases hr:rs[i]? with
    |none=>simp_all
    |some q=>
     rw[hr]at hcs;obtain rfl:=Option.some.inj hcs
     exact Ziv n C q x (Zj4 h2 hr hx)⟩
   have h1':RV w A r.Kids.v rs:=RV.sub (SL.rv h1) fun k _ hk=>h4 k (.inl hk);have hc':Css w A (rs.map Flat.enc) t.Kids:=⟨(hcss A).1,fun i cs x hi hx=>Rep.keep ((hcss A).2 i cs x hi hx) fun k _ hk=>⟨rfl,h4 k (.inr hk)⟩⟩;exact Zge h1' hc'
  have:=RV.mk_Term t h2;refine ZfN (ρ:=Rw.Term) (α:=D.Term) (q:=r) ?_;show RV w A (.agg #[.int .i64 r.Op,.int .i64 r.W,.int .i64 r.N,Str.val r.Name,r.Kids.v]) t;simp_all
theorem Zdt(E:TypeId):Owns (ownT E):=⟨rfl,rfl,fun w A r x⟨n,h⟩=>Ziv n A r x h⟩
theorem Zf5{x:D.Term}{a:Option Addr}{cp:Nat}(h:(OD (ownT E) E (.slice a x.Kids.length cp) x.Kids).ok w A):(ownT E ⟨x.Op,x.W,x.N,x.Name,⟨a,x.Kids.length,cp⟩⟩ x).ok w A:=ZfS.2 ⟨⟨rfl,rfl,rfl,rfl⟩,h⟩
theorem Za9(E:TypeId)(w:World):(ownT E ⟨0,0,0,⟨[]⟩,⟨none,0,0⟩⟩ ⟨0,0,0,⟨[]⟩,[]⟩).ok w Non:=ZfS.2 ⟨⟨rfl,rfl,rfl,rfl⟩,OD.nil _ _ _⟩
end
section
variable{P:Program}{B:Bs}{N:Nat}{σ:List (Nat×Value)}{Γ:List HP}{Φ:List RF}{a:Act}{w:World}{Q:Exit→Act→World→Prop}
  {R α:Type}[Flat R]{own:R→α→HP}{E:TypeId}{v:Value}{rs:List R}{xs:List α}
theorem Ava.go[Rep α](ho:Owns own)(i:Nat)(hi:Γ[i]? =some (OD own E v xs):=by rfl):Ava Γ Φ w (RO v xs):=fun S F hs hf=>by
 obtain⟨A,h1,h2⟩:=hs.get i hi;exact RV.sub (OD.rv ho h1) fun k _ hk=>.inr (h2 k hk)
theorem Cx.releno{b:Option Addr}{n cp:Nat}(i:Nat)(c:Cx B N σ Γ Φ a w)(hi:Γ[i]? =some (OD own E (.slice b n cp) xs):=by rfl):n=xs.length∧Cx B N σ (Γ.set i (OD own E (.slice b xs.length cp) xs)) Φ a w:=by
 obtain⟨_,S,F,_,hs,_⟩:=id c;obtain⟨A,h1,_⟩:=hs.get i hi;obtain⟨a',c',he⟩:=OD.len h1;have he:n=xs.length:=by simp_all
 subst he;exact⟨rfl,c.swap i (fun _ h=>h) hi⟩
theorem Cx.fzo[Rep α](ho:Owns own)(i:Nat)(c:Cx B N σ Γ Φ a w)(hi:Γ[i]? =some (OD own E v xs):=by rfl):Cx B N σ (rest [i] Γ) (Φ++[RO v xs]) a w:=by
 obtain⟨h,S,F,h1,h2,h3⟩:=c;have hp:=h2.part [i] (Γ1:=[OD own E v xs]) (by simp[hi]) (by simp);obtain⟨S',F',hM,hs,hr,hfz⟩:=Sep.freeze (L:=rest [i] Γ) hp h1;exact⟨h,S',F',hM,hs,(h3.sub fun k _ hk=>hfz k hk).add (OD.rv ho hr)⟩
theorem Cx.nilo(own:R→α→HP)(E:TypeId)(c:Cx B N σ Γ Φ a w):Cx B N σ (Γ++[OD own E (.slice none 0 0) []]) Φ a w:=c.gam fun S h=>ZG (Γ2:=[_]) (h.emp _ (OD.nil own E w))
theorem Cx.odc(i j:Nat)(c:Cx B N σ Γ Φ a w)(hi:Γ[i]? =some (SL E v rs):=by rfl)(hj:Γ[j]? =some (HP.all own rs xs):=by rfl)(hne:[i,j].Nodup:=by decide):Cx B N σ (rest [i,j] Γ++[OD own E v xs]) Φ a w:=c.gam fun S h=>
 ZG (Γ2:=[_]) (Sep.shut rs (h.part [i,j] (Γ1:=[SL E v rs,HP.all own rs xs]) (by simp[hi,hj]) hne).join2)
theorem Cx.pack{H:HP}(L:List HP)(gs:List Nat)(c:Cx B N σ Γ Φ a w)(hi:∀A,Sep L w A→H.ok w A)(hL:gs.map (fun i=>Γ[i]?)=L.map some:=by rfl)(hn:gs.Nodup:=by decide):Cx B N σ (rest gs Γ++[H]) Φ a w:=c.gam fun S h=>by
 obtain⟨A,R,h1,h2,h3,h4,h5⟩:=Sep.split (L1:=L) (h.part gs hL hn);grind[ZG,Sep.mk_cons]
end
section
variable{P:Program}{B:Bs}{N:Nat}{σ:List (Nat×Value)}{Γ:List HP}{Φ:List RF}{a:Act}{w:World}{Q:Exit→Act→World→Prop}
  {R α:Type}[Flat R]{own:R→α→HP}{ops:Array Oper}{k d d2:Nat}{t t' ty ty':TypeId}{pos pos':String}{af af':Array Edge}{x y z:Operand}{E:TypeId}{v u:Value}{rs:List R}{xs r:List α}
theorem Emkd{n:Int}{zx:α}(E:TypeId)(zr:R)(hz0:∀w,(own zr zx).ok w Non)(c:Cx B N σ Γ Φ a w)(hr:mk? n zx=some r)
  (h:∀a' c' fr w',Cx B N ((d,.slice a' r.length c')::σ) (Γ++[SL E (.slice a' r.length c') (List.replicate r.length zr),HP.all own (List.replicate r.length zr) r]) Φ fr w'→wpFrom P ops Q (k+1) fr w')
  (ho:ops[k]? =some ⟨some d,.makeSlice t x y,ty,pos,af,none⟩:=by rfl)(hd:Nat.blt d N=true:=by rfl)(he:ElT P E R:=by refine elT ?_;kernel_rfl)(ht:P.underlying t=some (.slice E):=by kernel_rfl)
  (hz:(P.info? E).map (fun i=>i.zero.map fun z=>z.cells.toList)=some (some (Flat.enc zr)):=by kernel_rfl)(hx:opd σ x=some (.int .i64 n):=by kernel_rfl)(hy:opd σ y=some (.int .i64 n):=by kernel_rfl):wpFrom P ops Q k a w:=by
 obtain⟨h1,h2⟩:=mk?_raw (z':=zr) hr;refine Emk (r:=List.replicate r.length zr) E c h1 (fun a' c' fr w' c=>?_) ho hd he ht hz hx hy;simp only[ZpY]at c;have c:=c.gam (Γ':=Γ++[SL E (.slice a' r.length c') (List.replicate r.length zr),HP.all own (List.replicate r.length zr) r]) fun S hs=>by
  have h3:(HP.all own (List.replicate r.length zr) r).ok w' Non:=by
   grind[Zk2]
  have:=ZG (Γ:=Γ++[SL E (.slice a' r.length c') (List.replicate r.length zr)]) (Γ2:=[_]) (hs.emp _ h3);grind
 grind
theorem Esetd{n:Int}{q:R}{e:α}(i j m:Nat)(c:Cx B N σ Γ Φ a w)(hr:set? xs n e=some r)
  (h:∀p fr w',Cx B N ((d,p)::σ) (rest [j,m] (Γ.set i (SL E v (rs.set n.toNat q)))++[HP.all own (rs.set n.toNat q) r]) Φ fr w'→wpFrom P ops Q (k+2) fr w')(hi:Γ[i]? =some (SL E v rs):=by rfl)(hj:Γ[j]? =some (HP.all own rs xs):=by rfl)(hm:Γ[m]? =some (own q e):=by rfl)(hne:[i,j,m].Nodup:=by decide)
  (ho:ops[k]? =some ⟨some d,.indexAddr t x y,ty,pos,af,none⟩:=by rfl)(ho':ops[k+1]? =some ⟨none,.store t' (.tmp d) z,ty',pos',af',none⟩:=by rfl)(hte:t'=E:=by rfl)(hd:Nat.blt d N=true:=by rfl)(hz:z≠ .tmp d:=by simp)
  (he:Ty P E R:=by constructor<;>kernel_rfl)(ht:P.underlying t=some (.slice E):=by kernel_rfl)(hx:opd σ x=some v:=by kernel_rfl)(hy:numOf (opd σ y)=some n:=by kernel_rfl)(hq:opd σ z=some (Rep.val R (Flat.enc q)):=by kernel_rfl):wpFrom P ops Q k a w:=by
 have hl:rs.length=xs.length:=by
  obtain⟨_,S,F,_,hs,_⟩:=id c;exact hs.dlen j hj
 obtain⟨h1,h2,h3⟩:=set?_raw (l':=rs) q hr hl;refine Eset i c h1 (fun p fr w' c=>h p fr w' (c.gam fun S hs=>?_)) hi ho ho' hte hd hz he ht hx hy hq;simp only[Zqw,Zpc,List.not_mem_nil,or_false,not_or,not_false_eq_true,Zq5,Zqt]at hne;have hp:=hs.part [j,m] (Γ1:=[HP.all own rs xs,own q e]) (by simp_all) (by simp[hne.2]);grind[ZG,Sep.merge,ZmW,Zdz]
end
def OH{R α:Type}[Flat R](own:R→α→HP)(E:TypeId)(v:Value)(n:Int)(r:R)(xs:List α):HP:=.ex fun rs:List R=>.two (SL E v rs) (.two (.pure (get? rs n=some r∧rs.length=xs.length)) (.but own n.toNat rs xs))
theorem back2{X Y:HP}{Γ:List HP}{w:World}{S:Nat→Prop}(h:Sep (Γ++[X,Y]) w S):Sep (X::Y::Γ) w S:=ZG (Γ2:=Γ) (Γ:=[X,Y]) h
theorem Sep.sole{X:HP}{w:World}{S:Nat→Prop}(h:Sep [X] w S):X.ok w S:=by
 obtain⟨A,B,h1,_,_,h2,_⟩:=h.cons_ok;exact X.big h1 h2
theorem get?_of{β:Type}{rs:List β}{α:Type}{xs:List α}{n:Int}{x:α}(h:get? xs n=some x)(hl:rs.length=xs.length):∃r,get? rs n=some r:=by
 have hi:=(ZoI.1 (get?_at h)).1;simp_all[get?,ZoD,ZoE]
section
variable{P:Program}{B:Bs}{N:Nat}{σ:List (Nat×Value)}{Γ L:List HP}{Φ:List RF}{a:Act}{w:World}{S:Nat→Prop}{Q:Exit→Act→World→Prop}
  {R α:Type}[Flat R]{own:R→α→HP}{E:TypeId}{v:Value}{n:Int}{r:R}{x y:α}{xs ys:List α}
theorem Sep.oh(h:Sep (OH own E v n r xs::L) w S):∃rs,get? rs n=some r∧rs.length=xs.length∧Sep (SL E v rs::HP.but own n.toNat rs xs::L) w S:=by
 obtain⟨rs,h⟩:=h.open;have h:=h.two;obtain⟨A1,B1,a1,b1,d1,e1,f1⟩:=h.cons_ok;have hp:=(Sep.two b1).fact;grind[Sep.mk_cons]
theorem Sep.ohc{rs:List R}(h:Sep (SL E v rs::HP.but own n.toNat rs xs::L) w S)(h1:get? rs n=some r)(h2:rs.length=xs.length):Sep (OH own E v n r xs::L) w S:=by
 have h3:Sep (SL E v rs::HP.two (.pure (get? rs n=some r∧rs.length=xs.length)) (.but own n.toNat rs xs)::L) w S:=h.under fun _ h=>(h.emp (.pure _) (And.intro h1 h2)).join2;exact Sep.shut rs h3.join2
theorem Sep.unf(h:Sep (OH own E v n r xs::own r y::L) w S)(hs:set? xs n y=some ys):Sep (OD own E v ys::L) w S:=by
 obtain⟨rs,h1,h2,h⟩:=h.oh;exact Sep.shut rs (h.under fun _ h=>h.swap.fill h2 (get?_at h1) hs).join2
theorem Sep.foc(h:Sep (OD own E v xs::L) w S)(hx:get? xs n=some x):∃r,Sep (OH own E v n r xs::own r x::L) w S:=by
 obtain⟨rs,h⟩:=h.open;have h:=h.two;have hl:=Sep.dlen 1 h rfl;obtain⟨r,hr⟩:=get?_of (rs:=rs) hx hl;exact⟨r,Sep.ohc (h.under fun _ h=>(h.focus (get?_at hr) hx).swap) hr hl⟩
theorem Cx.foc(i:Nat)(c:Cx B N σ Γ Φ a w)(hx:get? xs n=some x)(hi:Γ[i]? =some (OD own E v xs):=by rfl):∃r,Cx B N σ (rest [i] Γ++[OH own E v n r xs,own r x]) Φ a w:=by
 obtain⟨h,S,F,h1,h2,h3⟩:=c;obtain⟨r,hp⟩:=Sep.foc (L:=rest [i] Γ) (h2.part [i] (Γ1:=[OD own E v xs]) (by simp[hi]) (by simp)) hx;exact⟨r,h,S,F,h1,ZG (Γ2:=[_,_]) hp,h3⟩
theorem Cx.unf(i j:Nat)(c:Cx B N σ Γ Φ a w)(hs:set? xs n y=some ys)(hi:Γ[i]? =some (OH own E v n r xs):=by rfl)(hj:Γ[j]? =some (own r y):=by rfl)(hne:[i,j].Nodup:=by decide):Cx B N σ (rest [i,j] Γ++[OD own E v ys]) Φ a w:=c.gam fun S h=>
 ZG (Γ2:=[_]) (Sep.unf (h.part [i,j] (Γ1:=[OH own E v n r xs,own r y]) (by simp[hi,hj]) hne) hs)
theorem Cx.oh(i:Nat)(c:Cx B N σ Γ Φ a w)(hi:Γ[i]? =some (OH own E v n r xs):=by rfl):∃rs,get? rs n=some r∧rs.length=xs.length∧Cx B N σ (rest [i] Γ++[SL E v rs,HP.but own n.toNat rs xs]) Φ a w:=by
 obtain⟨h,S,F,h1,h2,h3⟩:=c;obtain⟨rs,e1,e2,hp⟩:=Sep.oh (L:=rest [i] Γ) (h2.part [i] (Γ1:=[OH own E v n r xs]) (by simp[hi]) (by simp));exact⟨rs,e1,e2,h,S,F,h1,ZG (Γ2:=[_,_]) hp,h3⟩
theorem Cx.ohc{rs:List R}(c:Cx B N σ (L++[SL E v rs,HP.but own n.toNat rs xs]) Φ a w)(h1:get? rs n=some r)(h2:rs.length=xs.length):Cx B N σ (L++[OH own E v n r xs]) Φ a w:=c.gam fun S h=>
 ZG (Γ2:=[_]) (Sep.ohc (back2 h) h1 h2)
end
section
variable{P:Program}{B:Bs}{N:Nat}{σ:List (Nat×Value)}{Γ:List HP}{Φ:List RF}{a:Act}{w:World}{Q:Exit→Act→World→Prop}{E:TypeId}{v:Value}{n:Int}
theorem Cx.fo_Term{x:D.Term}{xs:List D.Term}(i:Nat)(c:Cx B N σ Γ Φ a w)(hx:get? xs n=some x)(hi:Γ[i]? =some (OD (ownT E) E v xs):=by rfl):
  ∃(b:Option Addr)(cp:Nat),Cx B N σ (rest [i] Γ++[OH (ownT E) E v n (Rw.Term.mk x.Op x.W x.N x.Name ⟨b,x.Kids.length,cp⟩) xs,OD (ownT E) E (.slice b x.Kids.length cp) x.Kids]) Φ a w:=by
 obtain⟨r,h,S,F,h1,h2,h3⟩:=c.foc i hx hi;obtain⟨A1,B1,a1,b1,d1,e1,f1⟩:=(back2 h2).cons_ok;obtain⟨A2,B2,a2,b2,d2,e2,f2⟩:=b1.cons_ok;obtain⟨⟨g1,g2,g3,g4⟩,g5⟩:=ZfS.1 a2;obtain⟨b,cp,g6⟩:=OD.len g5;obtain⟨rO,rW,rN,rM,rK⟩:=r;obtain⟨ka,kn,kc⟩:=rK;obtain⟨rfl,rfl,rfl⟩:=Value.slice.inj g6;subst g1 g2 g3 g4;exact⟨ka,kc,h,S,F,h1,ZG (Γ2:=[_,_]) (Sep.mk_cons a1 (Sep.mk_cons g5 b2 d2 e2 f2) d1 e1 f1),h3⟩
theorem Cx.un_Term{y:D.Term}{xs ys:List D.Term}{b:Option Addr}{m cp:Nat}(i j:Nat)(c:Cx B N σ Γ Φ a w)(hs:set? xs n y=some ys)(hi:Γ[i]? =some (OH (ownT E) E v n (Rw.Term.mk y.Op y.W y.N y.Name ⟨b,m,cp⟩) xs):=by kernel_rfl)
  (hj:Γ[j]? =some (OD (ownT E) E (.slice b m cp) y.Kids):=by kernel_rfl)(hne:[i,j].Nodup:=by decide):Cx B N σ (rest [i,j] Γ++[OD (ownT E) E v ys]) Φ a w:=by
 obtain⟨_,S,F,_,hS,_⟩:=id c;obtain⟨A,hA,_⟩:=hS.get j hj;obtain⟨b',c',he⟩:=OD.len hA;obtain⟨_,rfl,_⟩:=Value.slice.inj he;exact c.gam fun S h=>
  ZG (Γ2:=[_]) (Sep.unf (r:=Rw.Term.mk y.Op y.W y.N y.Name ⟨b,y.Kids.length,cp⟩) ((h.part [i,j] (Γ1:=[OH (ownT E) E v n (Rw.Term.mk y.Op y.W y.N y.Name ⟨b,y.Kids.length,cp⟩) xs,OD (ownT E) E (.slice b y.Kids.length cp) y.Kids]) (by simp[hi,hj]) hne).under fun _ h=>h.imp fun _ h=>Zf5 h) hs)
theorem Zid{q:D.Term}{w:World}{F:Nat→Prop}{cs:List Value}(h:Rep.ok w F cs q):∃u,cs[4]? =some u∧(RO u q.Kids).ok w F:=by
 obtain⟨v4,e,h4⟩:=RV.Term ⟨cs,h,rfl⟩;have e:=congrArg Array.toList (Value.agg.inj (show Value.agg cs.toArray=_ from e));subst e;exact⟨_,rfl,h4⟩
end
section
variable{P:Program}{B:Bs}{N:Nat}{σ:List (Nat×Value)}{Γ:List HP}{Φ:List RF}{a:Act}{w:World}{Q:Exit→Act→World→Prop}
  {R α:Type}[Flat R]{own:R→α→HP}{ops:Array Oper}{k d d2 d3:Nat}{t t' s' ty ty' ty2:TypeId}{pos pos' pos2:String}{af af' af2:Array Edge}{x y z:Operand}{E:TypeId}{v:Value}{xs:List α}{r:R}{fl off:Nat}{n:Int}
theorem Eohs(i:Nat)(u:Value)(r':R)(c:Cx B N σ Γ Φ a w)(h:∀p p2 fr w',Cx B N ((d2,p2)::(d,p)::σ) (rest [i] Γ++[OH own E v n r' xs]) Φ fr w'→wpFrom P ops Q (k+3) fr w')(hi:Γ[i]? =some (OH own E v n r xs):=by rfl)
  (hop:ops[k]? =some ⟨some d,.indexAddr t x y,ty,pos,af,none⟩:=by rfl)(hop2:ops[k+1]? =some ⟨some d2,.fieldAddr s' (.tmp d) fl,ty2,pos2,af2,none⟩:=by rfl)(hop':ops[k+2]? =some ⟨none,.store t' (.tmp d2) z,ty',pos',af',none⟩:=by rfl)
  (hd:Nat.blt d N=true:=by rfl)(hd2:Nat.blt d2 N=true:=by rfl)(hz:(match z with|.tmp s=>s !=d&&s !=d2|_=>true)=true:=by rfl)(hoff:fieldOff P s' fl=some off:=by rfl)(hlt:Nat.blt off (Rep.sz R)=true:=by rfl)(h1:u.oneCell'=true:=by rfl)
  (hu:Flat.enc r'=(Flat.enc r).set off u:=by rfl)(he:Ty P E R:=by constructor<;>kernel_rfl)(ht:P.underlying t=some (.slice E):=by kernel_rfl)(hT:(P.info? t').map (·.size)=some 1:=by kernel_rfl)
  (hx:opd σ x=some v:=by kernel_rfl)(hy:numOf (opd σ y)=some n:=by kernel_rfl)(hzu:opd σ z=some u:=by kernel_rfl):wpFrom P ops Q k a w:=by
 obtain⟨rs,e1,e2,c⟩:=c.oh i hi;have hn:=get?_nn e1;have hlt':=(ZoI.1 (get?_at e1)).1;have hs:set? rs n r'=some (rs.set n.toNat r'):=by simp_all[set?,ZoD]
 refine Esf (rest [i] Γ).length u c e1 hs (fun p p2 fr w' c=>h p p2 fr w' ?_) (by simp) hop hop2 hop' hd hd2 hz hoff hlt h1 hu he ht hT hx hy hzu;have c:Cx B N ((d2,p2)::(d,p)::σ) (rest [i] Γ++[SL E v (rs.set n.toNat r'),HP.but own n.toNat rs xs]) Φ fr w':=by simpa using c
 have eb:HP.but own n.toNat rs xs=HP.but own n.toNat (rs.set n.toNat r') xs:=by
  grind[HP.but,List.take_set,List.drop_set,List.set_eq_of_length_le]
 rw[eb]at c;refine c.ohc ?_ (by simp_all);simp_all[get?,ZoD,ZpU]
theorem Eohl(i:Nat)(u:Value)(c:Cx B N σ Γ Φ a w)(h:∀p p2 fr,Cx B N ((d3,u)::(d2,p2)::(d,p)::σ) (rest [i] Γ++[OH own E v n r xs]) Φ fr w→wpFrom P ops Q (k+3) fr w)(hi:Γ[i]? =some (OH own E v n r xs):=by rfl)
  (ho:ops[k]? =some ⟨some d,.indexAddr t x y,ty,pos,af,none⟩:=by rfl)(ho2:ops[k+1]? =some ⟨some d2,.fieldAddr s' (.tmp d) fl,ty2,pos2,af2,none⟩:=by rfl)(ho':ops[k+2]? =some ⟨some d3,.load t' (.tmp d2),ty',pos',af',none⟩:=by rfl)
  (hd:Nat.blt d N=true:=by rfl)(hd2:Nat.blt d2 N=true:=by rfl)(hd3:Nat.blt d3 N=true:=by rfl)(he:Ty P s' R:=by constructor<;>kernel_rfl)(ht:P.underlying t=some (.slice s'):=by kernel_rfl)(hT:Ty P t' Int:=by constructor<;>kernel_rfl)
  (hoff:fieldOff P s' fl=some off:=by rfl)(hu:(Flat.enc r)[off]? =some u:=by rfl)(hx:opd σ x=some v:=by kernel_rfl)(hy:numOf (opd σ y)=some n:=by kernel_rfl):wpFrom P ops Q k a w:=by
 obtain⟨rs,e1,e2,c⟩:=c.oh i hi;exact Eef c (Ava.g (E:=E) (l:=rs) (rest [i] Γ).length (by simp)) e1 (fun{w F cs}hok=>by simp_all[Flat.iff]) (fun p p2 fr c=>h p p2 fr (c.ohc e1 e2)) ho ho2 ho' hd hd2 hd3 he ht hT hoff hx hy
theorem Eemf{α β:Type}[Rep α][Rep β]{l:List α}{q:α}{z:β}(c:Cx B N σ Γ Φ a w)(hl:Ava [] Φ w (RO v l))(hz:get? l n=some q)(hu:∀{w:World}{F:Nat→Prop}{cs:List Value},Rep.ok w F cs q→∃u,cs[off]? =some u∧(RO u z).ok w F)
  (h:∀p p2 u fr,Cx B N ((d3,u)::(d2,p2)::(d,p)::σ) Γ (Φ++[RO u z]) fr w→wpFrom P ops Q (k+3) fr w)
  (ho:ops[k]? =some ⟨some d,.indexAddr t x y,ty,pos,af,none⟩:=by rfl)(ho2:ops[k+1]? =some ⟨some d2,.fieldAddr s' (.tmp d) fl,ty2,pos2,af2,none⟩:=by rfl)(ho':ops[k+2]? =some ⟨some d3,.load t' (.tmp d2),ty',pos',af',none⟩:=by rfl)
  (hd:Nat.blt d N=true:=by rfl)(hd2:Nat.blt d2 N=true:=by rfl)(hd3:Nat.blt d3 N=true:=by rfl)(he:Ty P s' α:=by constructor<;>kernel_rfl)(ht:P.underlying t=some (.slice s'):=by kernel_rfl)(hT:Ty P t' Int:=by constructor<;>kernel_rfl)
  (hoff:fieldOff P s' fl=some off:=by kernel_rfl)(hx:opd σ x=some v:=by kernel_rfl)(hy:numOf (opd σ y)=some n:=by kernel_rfl):wpFrom P ops Q k a w:=by
 obtain⟨hF,S,F,hM,hs,hf⟩:=c;obtain⟨kd,hy⟩:=YD hy;have hl':=hl Non F (Sep.nil w Non) hf;refine ZY hF ho rfl rfl (ZoY.mp hd) (ZcR rfl ht he (Zt hF hx) hl' (Zt hF hy) (get?_nn hz) (get?_at hz)) fun p w1 fr1 hpw hF1=>?_;obtain⟨⟨ad,cs,rfl,hFb,hok,hc⟩,rfl⟩:=hpw;obtain⟨u,hcs,hru⟩:=hu hok;have hp1:=hF1.get d (.pointer (some ad)) (by simp)
 refine ZY hF1 ho2 rfl rfl (ZoY.mp hd2) (R:=fun p w2=>p= .pointer (some (ad.add off))∧w1=w2) (Zx (ZdJ (P:=P) (ρ:=fun y=>match y with|.tmp s=>if s=d then some (.pointer (some ad))else none|_=>none) (fun y z hy=>by
  grind) (by simp[pe,hoff]) w1) ⟨rfl,rfl⟩) fun p2 w2 fr2 hp2 hF2=>?_
 obtain⟨rfl,rfl⟩:=hp2;have hc1:Cells w1 (ad.add off) [u]:=fun j q' hq=>by
  cases j with
  |zero=>
   simp only[Zpt,Option.some.injEq]at hq;subst hq;exact hc off u hcs
  |succ j=>simp at hq
 refine ZY hF2 ho' rfl rfl (ZoY.mp hd3) (R:=fun z w3=>z=u∧w1=w3) (Zx (v:=u) (w':=w1) ?_ ⟨rfl,rfl⟩) fun z w3 fr3 hz3 hF3=>?_
 ·have hd1:=hF2.get d2 (.pointer (some (ad.add off))) (by simp);have:=Y7 hT (cs:=[u]) rfl hc1;have hv:Rep.val Int [u]=u:=rfl;simp_all[execOp,Instr.loadAt,Instr.sureAddr]
 ·obtain⟨rfl,rfl⟩:=hz3;exact h _ _ _ fr3 ⟨hF3,S,F,hM,hs,hf.add (RF.sub _ hru fun _ _ h=>h.elim id fun h=>h.elim)⟩
end
theorem SL.len{α:Type}[Rep α]{E:TypeId}{v:Value}{l:List α}{w:World}{A:Nat→Prop}(h:(SL E v l).ok w A):∃a c,v= .slice a l.length c:=by
 rcases h with⟨go,ho⟩|⟨rfl,a,rfl⟩
 ·exact ho.slice
 ·exact⟨a,0,rfl⟩
def pathL(ET EI:TypeId)(r:Rw.Path)(s:D.Path):List HP:=[OD (ownT ET) ET r.Regs.v s.Regs,OD (ownT ET) ET r.Mem.v s.Mem,SL EI r.Stack.v s.Stack,OD (ownT ET) ET r.Out.v s.Out,OD (ownT ET) ET r.Cond.v s.Cond,SL EI r.Turns.v s.Turns]
def ownP(ET EI:TypeId)(r:Rw.Path)(s:D.Path):HP:=.two (.pure (r.Pc=s.Pc∧r.In=s.In∧r.Code=s.Code∧r.Steps=s.Steps)) (HP.sep (pathL ET EI r s))
section
variable{ET EI:TypeId}{w:World}{A:Nat→Prop}
theorem Zhv{x:D.Path}{a0:Option Addr}{c0:Nat}{a1:Option Addr}{c1:Nat}{a2:Option Addr}{c2:Nat}{a3:Option Addr}{c3:Nat}{a4:Option Addr}{c4:Nat}{a5:Option Addr}{c5:Nat}(h:Sep [OD (ownT ET) ET (.slice a0 x.Regs.length c0) x.Regs,OD (ownT ET) ET (.slice a1 x.Mem.length c1) x.Mem,SL EI (.slice a2 x.Stack.length c2) x.Stack,OD (ownT ET) ET (.slice a3 x.Out.length c3) x.Out,OD (ownT ET) ET (.slice a4 x.Cond.length c4) x.Cond,SL EI (.slice a5 x.Turns.length c5) x.Turns] w A):(ownP ET EI (Rw.Path.mk x.Pc ⟨a0,x.Regs.length,c0⟩ ⟨a1,x.Mem.length,c1⟩ ⟨a2,x.Stack.length,c2⟩ x.In ⟨a3,x.Out.length,c3⟩ x.Code x.Steps ⟨a4,x.Cond.length,c4⟩ ⟨a5,x.Turns.length,c5⟩) x).ok w A:=ZhI (Q:=HP.sep _) h ⟨rfl,rfl,rfl,rfl⟩
theorem ZkT(ET EI:TypeId)(w:World):(ownP ET EI ⟨0,⟨none,0,0⟩,⟨none,0,0⟩,⟨none,0,0⟩,0,⟨none,0,0⟩,0,0,⟨none,0,0⟩,⟨none,0,0⟩⟩ ⟨0,[],[],[],0,[],0,0,[],[]⟩).ok w Non:=by
 have o:=OD.nil (ownT ET) ET w;have s:(SL (α:=Int) EI (.slice none 0 0) []).ok w Non:=.inr ⟨rfl,none,rfl⟩;exact Zhv (x:=⟨0,[],[],[],0,[],0,0,[],[]⟩) ((((((Sep.nil w Non).emp _ s).emp _ o).emp _ o).emp _ s).emp _ o |>.emp _ o)
theorem ZfY(ET EI:TypeId):Owns (ownP ET EI):=⟨rfl,rfl,fun w A r x h=>by
 obtain⟨e1,e2,e3,e4⟩:=(ZcW h:(HP.pure _).ok w A);have hs:Sep (pathL ET EI r x) w A:=ZcX h;have h0:RV w A r.Regs.v x.Regs:=by
  obtain⟨B,hB,hs⟩:=hs.get 0 rfl;exact RV.sub (OD.rv (Zdt ET) hB) fun k _ hk=>hs k hk
 have h1:RV w A r.Mem.v x.Mem:=by
  obtain⟨B,hB,hs⟩:=hs.get 1 rfl;exact RV.sub (OD.rv (Zdt ET) hB) fun k _ hk=>hs k hk
 have h2:RV w A r.Stack.v x.Stack:=by
  obtain⟨B,hB,hs⟩:=hs.get 2 rfl;exact RV.sub (SL.rv hB) fun k _ hk=>hs k hk
 have h3:RV w A r.Out.v x.Out:=by
  obtain⟨B,hB,hs⟩:=hs.get 3 rfl;exact RV.sub (OD.rv (Zdt ET) hB) fun k _ hk=>hs k hk
 have h4:RV w A r.Cond.v x.Cond:=by
  obtain⟨B,hB,hs⟩:=hs.get 4 rfl;exact RV.sub (OD.rv (Zdt ET) hB) fun k _ hk=>hs k hk
 have h5:RV w A r.Turns.v x.Turns:=by
  obtain⟨B,hB,hs⟩:=hs.get 5 rfl;exact RV.sub (SL.rv hB) fun k _ hk=>hs k hk
 have:=RV.mk_Path x h0 h1 h2 h3 h4 h5;refine ZfN (ρ:=Rw.Path) (α:=D.Path) (q:=r) ?_;show RV w A (.agg #[.int .i64 r.Pc,r.Regs.v,r.Mem.v,r.Stack.v,.int .i64 r.In,r.Out.v,.int .i64 r.Code,.int .i64 r.Steps,r.Cond.v,r.Turns.v]) x
 rw[e1,e2,e3,e4];exact this⟩
end
section
variable{P:Program}{B:Bs}{N:Nat}{σ:List (Nat×Value)}{Γ:List HP}{Φ:List RF}{a:Act}{w:World}{ET EI E:TypeId}{v:Value}{n:Int}
theorem Cx.fo_Path{x:D.Path}{xs:List D.Path}(i:Nat)(c:Cx B N σ Γ Φ a w)(hx:get? xs n=some x)(hi:Γ[i]? =some (OD (ownP ET EI) E v xs):=by rfl):
  ∃(a0:Option Addr)(c0:Nat)(a1:Option Addr)(c1:Nat)(a2:Option Addr)(c2:Nat)(a3:Option Addr)(c3:Nat)(a4:Option Addr)(c4:Nat)(a5:Option Addr)(c5:Nat),Cx B N σ (rest [i] Γ++[OH (ownP ET EI) E v n (Rw.Path.mk x.Pc ⟨a0,x.Regs.length,c0⟩ ⟨a1,x.Mem.length,c1⟩ ⟨a2,x.Stack.length,c2⟩ x.In ⟨a3,x.Out.length,c3⟩ x.Code x.Steps ⟨a4,x.Cond.length,c4⟩ ⟨a5,x.Turns.length,c5⟩) xs,OD (ownT ET) ET (.slice a0 x.Regs.length c0) x.Regs,OD (ownT ET) ET (.slice a1 x.Mem.length c1) x.Mem,SL EI (.slice a2 x.Stack.length c2) x.Stack,OD (ownT ET) ET (.slice a3 x.Out.length c3) x.Out,OD (ownT ET) ET (.slice a4 x.Cond.length c4) x.Cond,SL EI (.slice a5 x.Turns.length c5) x.Turns]) Φ a w:=by
 obtain⟨r,h,S,F,h1,h2,h3⟩:=c.foc i hx hi;have h4:=back2 h2;obtain⟨A1,B1,o1,b1,d1,f1,g1⟩:=h4.cons_ok;have b2:=(Sep.two b1).fact;obtain⟨⟨e1,e2,e3,e4⟩,b2⟩:=b2;have b3:Sep (pathL ET EI r x++rest [i] Γ) w B1:=Sep.flat b2;obtain⟨rp,k0,k1,k2,ri,k3,rc,rs,k4,k5⟩:=r;simp only at e1 e2 e3 e4;obtain⟨ka0,kn0,kc0⟩:=k0;obtain⟨_,hA,_⟩:=b3.get 0 rfl;obtain⟨_,_,he⟩:=OD.len hA;obtain⟨-,hn0,-⟩:=Value.slice.inj he;simp only at hn0;obtain⟨ka1,kn1,kc1⟩:=k1;obtain⟨_,hA,_⟩:=b3.get 1 rfl;obtain⟨_,_,he⟩:=OD.len hA;obtain⟨-,hn1,-⟩:=Value.slice.inj he;simp only at hn1;obtain⟨ka2,kn2,kc2⟩:=k2;obtain⟨_,hA,_⟩:=b3.get 2 rfl;obtain⟨_,_,he⟩:=SL.len hA;obtain⟨-,hn2,-⟩:=Value.slice.inj he;simp only at hn2;obtain⟨ka3,kn3,kc3⟩:=k3;obtain⟨_,hA,_⟩:=b3.get 3 rfl;obtain⟨_,_,he⟩:=OD.len hA;obtain⟨-,hn3,-⟩:=Value.slice.inj he;simp only at hn3;obtain⟨ka4,kn4,kc4⟩:=k4;obtain⟨_,hA,_⟩:=b3.get 4 rfl;obtain⟨_,_,he⟩:=OD.len hA;obtain⟨-,hn4,-⟩:=Value.slice.inj he;simp only at hn4;obtain⟨ka5,kn5,kc5⟩:=k5;obtain⟨_,hA,_⟩:=b3.get 5 rfl;obtain⟨_,_,he⟩:=SL.len hA;obtain⟨-,hn5,-⟩:=Value.slice.inj he;simp only at hn5;subst e1 e2 e3 e4 hn0 hn1 hn2 hn3 hn4 hn5;exact⟨ka0,kc0,ka1,kc1,ka2,kc2,ka3,kc3,ka4,kc4,ka5,kc5,h,S,F,h1,ZG (Γ2:=[_,_,_,_,_,_,_]) (Sep.mk_cons o1 b3 d1 f1 g1),h3⟩
theorem Cx.un_Path{y:D.Path}{xs ys:List D.Path}{b0:Option Addr}{m0 c0:Nat}{b1:Option Addr}{m1 c1:Nat}{b2:Option Addr}{m2 c2:Nat}{b3:Option Addr}{m3 c3:Nat}{b4:Option Addr}{m4 c4:Nat}{b5:Option Addr}{m5 c5:Nat}(i j0 j1 j2 j3 j4 j5:Nat)(c:Cx B N σ Γ Φ a w)(hs:set? xs n y=some ys)(hi:Γ[i]? =some (OH (ownP ET EI) E v n (Rw.Path.mk y.Pc ⟨b0,m0,c0⟩ ⟨b1,m1,c1⟩ ⟨b2,m2,c2⟩ y.In ⟨b3,m3,c3⟩ y.Code y.Steps ⟨b4,m4,c4⟩ ⟨b5,m5,c5⟩) xs):=by kernel_rfl)
  (h0:Γ[j0]? =some (OD (ownT ET) ET (.slice b0 m0 c0) y.Regs):=by kernel_rfl)(h1:Γ[j1]? =some (OD (ownT ET) ET (.slice b1 m1 c1) y.Mem):=by kernel_rfl)(h2:Γ[j2]? =some (SL EI (.slice b2 m2 c2) y.Stack):=by kernel_rfl)(h3:Γ[j3]? =some (OD (ownT ET) ET (.slice b3 m3 c3) y.Out):=by kernel_rfl)(h4:Γ[j4]? =some (OD (ownT ET) ET (.slice b4 m4 c4) y.Cond):=by kernel_rfl)(h5:Γ[j5]? =some (SL EI (.slice b5 m5 c5) y.Turns):=by kernel_rfl)(hne:[i,j0,j1,j2,j3,j4,j5].Nodup:=by decide):Cx B N σ (rest [i,j0,j1,j2,j3,j4,j5] Γ++[OD (ownP ET EI) E v ys]) Φ a w:=by
 obtain⟨_,S,F,_,hS,_⟩:=id c;obtain⟨_,hA,_⟩:=hS.get j0 h0;obtain⟨_,_,he⟩:=OD.len hA;obtain⟨-,hn0,-⟩:=Value.slice.inj he;obtain⟨_,hA,_⟩:=hS.get j1 h1;obtain⟨_,_,he⟩:=OD.len hA;obtain⟨-,hn1,-⟩:=Value.slice.inj he;obtain⟨_,hA,_⟩:=hS.get j2 h2;obtain⟨_,_,he⟩:=SL.len hA;obtain⟨-,hn2,-⟩:=Value.slice.inj he;obtain⟨_,hA,_⟩:=hS.get j3 h3;obtain⟨_,_,he⟩:=OD.len hA;obtain⟨-,hn3,-⟩:=Value.slice.inj he;obtain⟨_,hA,_⟩:=hS.get j4 h4;obtain⟨_,_,he⟩:=OD.len hA;obtain⟨-,hn4,-⟩:=Value.slice.inj he;obtain⟨_,hA,_⟩:=hS.get j5 h5;obtain⟨_,_,he⟩:=SL.len hA;obtain⟨-,hn5,-⟩:=Value.slice.inj he;subst hn0 hn1 hn2 hn3 hn4 hn5;exact c.gam fun S h=>by
  have h7:=h.part [i,j0,j1,j2,j3,j4,j5] (Γ1:=[OH (ownP ET EI) E v n (Rw.Path.mk y.Pc ⟨b0,y.Regs.length,c0⟩ ⟨b1,y.Mem.length,c1⟩ ⟨b2,y.Stack.length,c2⟩ y.In ⟨b3,y.Out.length,c3⟩ y.Code y.Steps ⟨b4,y.Cond.length,c4⟩ ⟨b5,y.Turns.length,c5⟩) xs,OD (ownT ET) ET (.slice b0 y.Regs.length c0) y.Regs,OD (ownT ET) ET (.slice b1 y.Mem.length c1) y.Mem,SL EI (.slice b2 y.Stack.length c2) y.Stack,OD (ownT ET) ET (.slice b3 y.Out.length c3) y.Out,OD (ownT ET) ET (.slice b4 y.Cond.length c4) y.Cond,SL EI (.slice b5 y.Turns.length c5) y.Turns]) (by simp[hi,h0,h1,h2,h3,h4,h5]) hne;refine ZG (Γ2:=[_]) (Sep.unf (r:=(Rw.Path.mk y.Pc ⟨b0,y.Regs.length,c0⟩ ⟨b1,y.Mem.length,c1⟩ ⟨b2,y.Stack.length,c2⟩ y.In ⟨b3,y.Out.length,c3⟩ y.Code y.Steps ⟨b4,y.Cond.length,c4⟩ ⟨b5,y.Turns.length,c5⟩)) (L:=rest [i,j0,j1,j2,j3,j4,j5] Γ) ?_ hs);exact Sep.under (L:=[OD (ownT ET) ET (.slice b0 y.Regs.length c0) y.Regs,OD (ownT ET) ET (.slice b1 y.Mem.length c1) y.Mem,SL EI (.slice b2 y.Stack.length c2) y.Stack,OD (ownT ET) ET (.slice b3 y.Out.length c3) y.Out,OD (ownT ET) ET (.slice b4 y.Cond.length c4) y.Cond,SL EI (.slice b5 y.Turns.length c5) y.Turns]++rest [i,j0,j1,j2,j3,j4,j5] Γ) h7 fun _ h=>by
   obtain⟨A,R,g1,g2,g3,g4,g5⟩:=Sep.split (L1:=[OD (ownT ET) ET (.slice b0 y.Regs.length c0) y.Regs,OD (ownT ET) ET (.slice b1 y.Mem.length c1) y.Mem,SL EI (.slice b2 y.Stack.length c2) y.Stack,OD (ownT ET) ET (.slice b3 y.Out.length c3) y.Out,OD (ownT ET) ET (.slice b4 y.Cond.length c4) y.Cond,SL EI (.slice b5 y.Turns.length c5) y.Turns]) h;exact Sep.mk_cons (Zhv g1) g2 g3 g4 g5
end
def waits(ops:Array Oper)(i:Nat):List Nat:=((ops[i]?).map fun o=>(o.after.toList.filter fun e=>Region.binds .any e).map (·.on)).getD []
theorem mem_ready{ops:Array Oper}{L:Array Bool}{i:Nat}:i∈Region.ready .any ops L↔i<ops.size∧L.getD i true=false∧∀e∈waits ops i,L.getD e false=true:=by
 unfold Region.ready;rw[ZoV,ZoS];refine and_congr_right fun hi=>?_;have ho:ops[i]? =some ops[i]:=Zpx hi;unfold waits;rw[ho];simp only[ZoQ,Zpu,ZoB,ZpG];rw[←Array.all_toList,ZoK];grind
theorem Zgb{P:Program}{ops:Array Oper}{Q:Exit→Act→World→Prop}{i:Nat}{o:Oper}{K:Act→World→Prop}{a:Act}{w:World}(ho:ops[i]? =some o)(h:wpOp P ops Q i K a w):
  wpOp P ops Q i (fun a' w'=>K a' w'∧∀t,o.dst≠some t→a'.eval (.tmp t)=a.eval (.tmp t)) a w:=by
 have hput:∀(b:Act)v t,o.dst≠some t→(b.tmps=a.tmps)→(b.put o.dst v).eval (.tmp t)=a.eval (.tmp t):=by
  cases hd:o.dst with
  |none=>simp_all[Act.put,Act.eval]
  |some d=>
   simp_all[Act.put,Act.eval,ZoA]
 unfold wpOp at*;simp only[ho]at h⊢;split
 ·unfold Oper.wp at*;generalize (execOp a.eval o).run P w=r at*;cases r with
  | ok n w'=>
   cases n<;>simp only[Oper.upon]at h⊢<;>
    first
     |simp_all
     |exact Calls.mono h (fun e w'' he=>by cases e<;>first|exact⟨he,fun t ht=>hput _ _ t ht rfl⟩|exact he)
     |exact Rows.mono h (fun _ _ he=>⟨he,fun t ht=>hput _ _ t ht rfl⟩)
  |halt x w'=>simp_all[Oper.upon]
 simp_all
structure RelM(ops:Array Oper)(mE:Array Bool)(qi:List Nat)(m:Array Bool):Prop where
 size:m.size=ops.size
 same:∀k,k<ops.size→k∉qi→m.getD k false=mE.getD k false
 closed:∀k,k<ops.size→m.getD k false=true→∀e∈waits ops k,m.getD e false=true
theorem Zj6{m:Array Bool}{k:Nat}(h:k<m.size):m.getD k true=m.getD k false:=by
 simp_all
def acyc(ops:Array Oper):Bool:=(List.range ops.size).all fun i=>(waits ops i).all fun e=>Nat.blt e i
theorem Zeu{ops:Array Oper}(h:acyc ops=true){i e:Nat}(hi:i<ops.size)(he:e∈waits ops i):e<i:=by
 simp_all[acyc,ZoK,ZoS]
theorem ZlS{ops:Array Oper}{m:Array Bool}(hac:acyc ops=true)(hs:m.size=ops.size)(hr:Region.ready .any ops m=[]):∀k,k<ops.size→m.getD k false=true:=by
 intro k
 induction k using Nat.strongRecOn with
 | _ k ih=>
  intro hk;cases hm:m.getD k false with
  |true=>rfl
  | false=>
   have:k∈Region.ready .any ops m:=mem_ready.2 ⟨hk,by simp_all,fun e he=>by
    grind[Zeu]⟩
   simp_all
def clo(ops:Array Oper):Nat→List Nat→List Nat
 |0,s=>s
 |n+1,s=>match(s.flatMap (waits ops)).filter (fun e=>!memN s e)with
  |[]=>s
  |t=>clo ops n (s++t)
theorem Zgp{ops:Array Oper}{m:Array Bool}(hac:acyc ops=true)(hc:∀k,k<ops.size→m.getD k false=true→∀e∈waits ops k,m.getD e false=true):∀(n:Nat)(s:List Nat),(∀k∈s,k<ops.size∧m.getD k false=true)→∀k∈clo ops n s,m.getD k false=true
 |0,s,h,k,hk=>(h k hk).2
 | n+1,s,h,k,hk=>by
  unfold clo at hk;split at hk
  ·simp_all
  ·refine Zgp hac hc n _ (fun x hx=> ?_) k hk;rcases ZoZ.1 hx with hx|hx
   ·exact h x hx
   ·obtain⟨y,hy,hx⟩:=List.mem_flatMap.1 (ZoV.1 hx).1;obtain⟨h1,h2⟩:=h y hy;have:=Zeu hac h1 hx;grind
abbrev Quiets:=List (Nat×Nat×Value)
def slots(qs:Quiets)(l:List Nat):List (Nat×Value):=(qs.filter fun q=>memN l q.1).map (·.2)
section
variable(P:Program)(ops:Array Oper)(Q:Exit→Act→World→Prop)(B:Bs)(N:Nat)
def QN(σ:List (Nat×Value))(Γ:List HP)(Φ:List RF)(mE:Array Bool)(qs:Quiets):Prop:=
 ∀f a w m,Cx B N σ Γ Φ a w→RelM ops mE (qs.map (·.1)) m→(∀q∈qs,m.getD q.1 false=true→a.eval (.tmp q.2.1)=q.2.2)→m.toList.count false≤f→wpAny P .any ops Q f m a w
def nextB(mE:Array Bool)(qs:Quiets)(i:Nat)(mE':Array Bool)(qs':Quiets):Bool:=
 (mE'.size==ops.size)&&((List.range ops.size).all fun k=>memN (qs'.map (·.1)) k||(Nat.beq k i||memN (clo ops ops.size (waits ops i)) k)&&mE'.getD k false|| !Nat.beq k i&& !memN (qs.map (·.1)) k&&(mE'.getD k false==mE.getD k false))&&(match ops[i]? with|some o=>qs'.all fun q=>o.dst !=some q.2.1|none=>false)
def Nxt(mE:Array Bool)(qs:Quiets)(i:Nat)(a:Act)(w:World):Prop:=
 ∃σ' Γ' Φ' mE' qs',Cx B N σ' Γ' Φ' a w∧QN P ops Q B N σ' Γ' Φ' mE' qs'∧nextB ops mE qs i mE' qs'=true∧(qs'.filter fun q=>memN (qs.map (·.1)) q.1)=(qs.filter fun q=>memN (qs'.map (·.1)) q.1)∧(qs'.all fun q=>memN (qs.map (·.1)) q.1||memN (clo ops ops.size (waits ops q.1)) i)=true
end
theorem ZaJ{l:List Nat}{k:Nat}:memN l k=true↔k∈l:=by
 induction l with
 |nil=>exact⟨(fun h=>(by cases h)),(fun h=>(by cases h))⟩
 |cons x l ih=>
  rw[memN,Zp1,ih,Zpc];exact or_congr ⟨fun h=>(Zqa h).symm,fun h=>by simp_all⟩ Iff.rfl
theorem ZiV{β γ:Type}{f:β→γ}:∀{l:List β},(l.map f).Nodup→∀{x y:β},x∈l→y∈l→f x=f y→x=y
 | z::l,h,x,y,hx,hy,e=>by
  rw[Zps,Zqw]at h;obtain⟨h1,h2⟩:=h;rcases Zpc.1 hx with ex|hx1
  ·grind
  ·rcases Zpc.1 hy with ey|hy1
   ·simp_all
   ·exact ZiV h2 hx1 hy1 e
theorem cntL:∀{l:List Bool}{i:Nat},l[i]? =some false→(l.set i true).count false+1=l.count false
 |[],_,h=>by simp at h
 |x::l,0,h=>by
  simp_all
 |x::l,i+1,h=>by
  grind
theorem cntS{m:Array Bool}{i:Nat}(hi:i<m.size)(h:m.getD i false=false):(m.setIfInBounds i true).toList.count false+1=m.toList.count false:=by
 simp_all[Zqe,cntL,ZoA,Zpx]
section
variable{P:Program}{ops:Array Oper}{Q:Exit→Act→World→Prop}{B:Bs}{N:Nat}{σ:List (Nat×Value)}{Γ:List HP}{Φ:List RF}{mE:Array Bool}{qs:Quiets}
theorem Zj5{σ:List (Nat×Value)}{a:Act}(h:FrS N σ a):∀(l:List (Nat×Value)),(∀p∈l,a.eval (.tmp p.1)=p.2)→FrS N (l++σ) a
 |[],_=>h
 |p::l,hl=>(Zj5 h l fun q hq=>hl q (Zpi _ hq)).cons (hl p Zpn)
theorem Cx.adds{a:Act}{w:World}(c:Cx B N σ Γ Φ a w)(l:List (Nat×Value))(h:∀p∈l,a.eval (.tmp p.1)=p.2):Cx B N (l++σ) Γ Φ a w:=⟨Zj5 c.fr l h,c.me⟩
theorem qnode(rs:List Nat)(hac:acyc ops=true)(hms:mE.size=ops.size)
  (hqd:∀q∈qs,∃o,ops[q.1]? =some o∧o.dst=some q.2.1)(hnd:(qs.map (·.1)).Nodup)(hnd2:(qs.map (·.2.1)).Nodup)(hσ:∀q∈qs,σ.lookup q.2.1=none)
  (hqe:∀q∈qs,∀a w,Cx B N (slots qs (waits ops q.1)++σ) Γ Φ a w→wpOp P ops Q q.1 (fun a' w'=>Cx B N ((q.2.1,q.2.2)::(slots qs (waits ops q.1)++σ)) Γ Φ a' w') a w)
  (hrs:∀i,i<ops.size→i∉qs.map (·.1)→mE.getD i false=false→(∀e∈waits ops i,e∈qs.map (·.1)∨mE.getD e false=true)→i∈rs)
  (hev:∀i∈rs,∀a w,Cx B N (slots qs (clo ops ops.size (waits ops i))++σ) Γ Φ a w→wpOp P ops Q i (Nxt P ops Q B N mE qs i) a w)
  (hend:(∃k,k<ops.size∧k∉qs.map (·.1)∧mE.getD k false=false)∨∀a w,Cx B N (qs.map (·.2)++σ) Γ Φ a w→Q .normal a w):QN P ops Q B N σ Γ Φ mE qs:=by
 have hfin:∀a w m,Cx B N σ Γ Φ a w→RelM ops mE (qs.map (·.1)) m→(∀q∈qs,m.getD q.1 false=true→a.eval (.tmp q.2.1)=q.2.2)→(∀k,k<ops.size→m.getD k false=true)→Q .normal a w:=by
  intro a w m c hr hq hall;rcases hend with⟨k,h1,h2,h3⟩|h
  ·have:=hr.same k h1 h2;simp_all
  ·refine h a w (c.adds _ fun p hp=> ?_);grind
 intro f
 induction f with
 | zero=>
  intro a w m c hr hq hf;have hall:∀k,k<ops.size→m.getD k false=true:=fun k hk=>by
   cases hm:m.getD k false with
   |true=>rfl
   |false=>
    have h1:k<m.size:=by rw[hr.size];exact hk
    grind[cntS]
  refine⟨List.eq_nil_iff_forall_not_mem.2 fun i hi=>?_,hfin a w m c hr hq hall⟩;grind[mem_ready,Zj6]
 | succ f ih=>
  intro a w m c hr hq hf;refine⟨fun hn=>hfin a w m c hr hq (ZlS hac hr.size hn),fun i hi=>?_⟩;obtain⟨h1,h2,h3⟩:=mem_ready.1 hi;have him:i<m.size:=by rw[hr.size];exact h1
  rw[Zj6 him]at h2;have hcnt:=cntS him h2;have hget:∀k,k≠i→(m.setIfInBounds i true).getD k false=m.getD k false:=fun k hk=>by
   simp[ZoA,Array.getElem?_setIfInBounds_ne (Ne.symm hk)]
  have hgeti:(m.setIfInBounds i true).getD i false=true:=by
   simp[ZoA,him]
  have hclosed:∀k,k<ops.size→(m.setIfInBounds i true).getD k false=true→∀e∈waits ops k,(m.setIfInBounds i true).getD e false=true:=fun k hk hkm e he=>by
   by_cases ei:e=i
   ·rw[ei];exact hgeti
   ·rw[hget e ei];by_cases ki:k=i
    ·rw[ki]at he;exact h3 e he
    ·rw[hget k ki]at hkm;exact hr.closed k hk hkm e he
  obtain⟨o,ho⟩:∃o,ops[i]? =some o:=⟨ops[i],Zpx h1⟩;by_cases hiq:i∈qs.map (·.1)
  ·obtain⟨q,hqm,rfl⟩:=Zq1.1 hiq;have c1:Cx B N (slots qs (waits ops q.1)++σ) Γ Φ a w:=c.adds _ fun p hp=>by
    unfold slots at hp;obtain⟨q',hq',rfl⟩:=Zq1.1 hp;obtain⟨g1,g2⟩:=ZoV.1 hq';exact hq q' g1 (h3 _ (ZaJ.1 g2))
   refine wpOp_mono (fun a' w'⟨c2,hfr⟩=>?_) (Zgb ho (hqe q hqm a w c1));obtain⟨o',ho',hd⟩:=hqd q hqm;rw[ho]at ho';cases ho';refine ih a' w' _ ⟨⟨c2.fr.defers,c2.fr.size,fun t v hv=>?_⟩,c2.me⟩ ⟨by simp[hr.size],fun k hk hkq=>?_,hclosed⟩ (fun p hp hpm=>?_) (by omega)
   ·have ht:t≠q.2.1:=fun e=>by rw[e,hσ q hqm]at hv;cases hv
    rw[hfr t (by rw[hd];intro e;exact ht (Option.some.inj e).symm)];exact c.fr.get t v hv
   ·rw[hget k (fun e=>hkq (by rw[e];exact hiq))];exact hr.same k hk hkq
   ·by_cases e:p.1=q.1
    ·have:p=q:=ZiV hnd hp hqm e;subst this;exact c2.fr.get _ _ (by simp)
    ·rw[hget _ e]at hpm;have hne:p.2.1≠q.2.1:=fun e2=>e (by rw[ZiV hnd2 hp hqm e2]);rw[hfr p.2.1 (by rw[hd];intro e3;exact hne (Option.some.inj e3).symm)];exact hq p hp hpm
  ·have hmE:mE.getD i false=false:=by rw[←hr.same i h1 hiq];exact h2
   have hin:=hrs i h1 hiq hmE fun e he=>by
    by_cases hq':e∈qs.map (·.1)
    ·exact .inl hq'
    ·have:=Zeu hac h1 he;exact .inr (by rw[←hr.same e (by omega) hq'];exact h3 e he)
   have hclo:∀k∈clo ops ops.size (waits ops i),m.getD k false=true:=Zgp hac hr.closed _ _ fun k hk=>⟨by have:=Zeu hac h1 hk;omega,h3 k hk⟩;have c1:Cx B N (slots qs (clo ops ops.size (waits ops i))++σ) Γ Φ a w:=c.adds _ fun p hp=>by
    unfold slots at hp;obtain⟨q',hq',rfl⟩:=Zq1.1 hp;obtain⟨g1,g2⟩:=ZoV.1 hq';exact hq q' g1 (hclo _ (ZaJ.1 g2))
   refine wpOp_mono (fun a' w'⟨⟨σ',Γ',Φ',mE',qs',c2,hN,hb,hdl,hnw⟩,hfr⟩=>?_) (Zgb ho (hev i hin a w c1));unfold nextB at hb;simp only[ho,ZoB,Zpf]at hb;obtain⟨⟨b1,b2⟩,b3⟩:=hb;have hsub:∀p∈qs',p∈qs∨memN (clo ops ops.size (waits ops p.1)) i=true:=fun p hp=>by
    have h:=ZoK.1 hnw p hp;rw[Zp1]at h;refine h.imp (fun h=>?_) id;have:p∈qs'.filter fun q=>memN (qs.map (·.1)) q.1:=ZoV.2 ⟨hp,h⟩;rw[hdl]at this;exact(ZoV.1 this).1
   refine hN f a' w' _ c2 ⟨by simp[hr.size],fun k hk hkq=>?_,hclosed⟩ (fun p hp hpm=>?_) (by omega)
   ·rw[ZoK]at b2;have:=b2 k (ZoS.2 hk);have hkq':memN (qs'.map (·.1)) k=false:=by
     cases h:memN (qs'.map (·.1)) k with
     |false=>rfl
     |true=>exact absurd (ZaJ.1 h) hkq
    rw[hkq',ZoW,Zp1]at this;rcases this with this|this
    ·rw[ZoB,Zp1]at this;rw[this.2];by_cases ki:k=i
     ·rw[ki];exact hgeti
     ·rw[hget k ki];rcases this.1 with h|h
      ·exact absurd (Zqa h) ki
      ·exact hclo k (ZaJ.1 h)
    ·rw[ZoB,ZoB,Zpf]at this;have hkn:k∉qs.map (·.1):=fun h=>by rw[ZaJ.2 h]at this;simp at this
     by_cases ki:k=i
     ·rw[ki]at this;simp at this
     ·rw[hget k ki,this.2];exact hr.same k hk hkn
   ·have hne:o.dst≠some p.2.1:=by
     rw[ZoK]at b3;simpa using b3 p hp
    rw[hfr _ hne];by_cases ki:p.1=i
    ·rcases hsub p hp with h|h
     ·exact absurd (Zq1.2 ⟨p,h,ki⟩) hiq
     ·rw[ki]at h;rw[hclo i (ZaJ.1 h)]at h2;cases h2
    ·rw [hget _ ki]at hpm
     rcases hsub p hp with h|h
     ·exact hq p h hpm
     ·have hlt:p.1<ops.size:=by
       cases hlt:decide (p.1<ops.size)with
       |true=>exact of_decide_eq_true hlt
       |false=>
        have:¬p.1<m.size:=by rw[hr.size];exact of_decide_eq_false hlt
        rw[ZoA,Zp9 (by omega)]at hpm;cases hpm
      have:=Zgp hac hr.closed ops.size (waits ops p.1) (fun k hk=>⟨by have:=Zeu hac hlt hk;omega,hr.closed p.1 hlt hpm k hk⟩) i (ZaJ.1 h);rw[this]at h2;cases h2
def nodeB(ops:Array Oper)(σ:List (Nat×Value))(mE:Array Bool)(qs:Quiets)(rs:List Nat):Bool:=
 acyc ops&&(mE.size==ops.size)&&(qs.all fun q=>match ops[q.1]? with|some o=>o.dst==some q.2.1|none=>false)&&ndN (qs.map (·.1))&&ndN (qs.map (·.2.1))&&(qs.all fun q=>!memN (σ.map (·.1)) q.2.1)&&
  (List.range ops.size).all fun i=>memN (qs.map (·.1)) i||mE.getD i false|| !((waits ops i).all fun e=>memN (qs.map (·.1)) e||mE.getD e false)||memN rs i
theorem qnode'(rs:List Nat)(hb:nodeB ops σ mE qs rs=true)
  (hqe:AllP (fun q=>∀a w,Cx B N (slots qs (waits ops q.1)++σ) Γ Φ a w→wpOp P ops Q q.1 (fun a' w'=>Cx B N ((q.2.1,q.2.2)::(slots qs (waits ops q.1)++σ)) Γ Φ a' w') a w) qs)
  (hev:AllP (fun i=>∀a w,Cx B N (slots qs (clo ops ops.size (waits ops i))++σ) Γ Φ a w→wpOp P ops Q i (Nxt P ops Q B N mE qs i) a w) rs)
  (hend:(∃k,k<ops.size∧k∉qs.map (·.1)∧mE.getD k false=false)∨∀a w,Cx B N (qs.map (·.2)++σ) Γ Φ a w→Q .normal a w):QN P ops Q B N σ Γ Φ mE qs:=by
 unfold nodeB at hb;simp only[ZoB,Zpf]at hb;obtain⟨⟨⟨⟨⟨⟨b1,b2⟩,b3⟩,b4⟩,b5⟩,b6⟩,b7⟩:=hb;refine qnode rs b1 b2 (fun q hq=>?_) (Zd9 b4) (Zd9 b5) (fun q hq=>?_) (fun q hq=>hqe.mem hq) (fun i h1 h2 h3 h4=>?_) (fun i hi=>hev.mem hi) hend
 ·grind
 ·cases h:σ.lookup q.2.1 with
  |none=>rfl
  |some v=>
   grind[ZaJ]
 grind[List.all_eq_true,memN,absurd,ZaJ,waits]
theorem qn(rs:List Nat)(hqe:AllP (fun q=>∀a w,Cx B N (slots qs (waits ops q.1)++σ) Γ Φ a w→wpOp P ops Q q.1 (fun a' w'=>Cx B N ((q.2.1,q.2.2)::(slots qs (waits ops q.1)++σ)) Γ Φ a' w') a w) qs)
  (hev:AllP (fun i=>∀a w,Cx B N (slots qs (clo ops ops.size (waits ops i))++σ) Γ Φ a w→wpOp P ops Q i (Nxt P ops Q B N mE qs i) a w) rs)(hb:nodeB ops σ mE qs rs=true:=by kernel_rfl)
  (hk:((List.range ops.size).any fun k=>!memN (qs.map (·.1)) k&& !mE.getD k false)=true:=by kernel_rfl):QN P ops Q B N σ Γ Φ mE qs:=qnode' rs hb hqe hev (.inl (by
 grind[ZaJ]))
theorem qnE(hqe:AllP (fun q=>∀a w,Cx B N (slots qs (waits ops q.1)++σ) Γ Φ a w→wpOp P ops Q q.1 (fun a' w'=>Cx B N ((q.2.1,q.2.2)::(slots qs (waits ops q.1)++σ)) Γ Φ a' w') a w) qs)
  (hend:∀a w,Cx B N (qs.map (·.2)++σ) Γ Φ a w→Q .normal a w)(hb:nodeB ops σ mE qs []=true:=by kernel_rfl):QN P ops Q B N σ Γ Φ mE qs:=qnode' [] hb hqe trivial (.inr hend)
theorem Dq{ι:Type}{L:Array Bool}{fuel0:Nat}{a0:Act}{w0:World}(J:ι→Lpt)(mE:Array Bool)(qs:ι→Quiets)(c:Cx B N σ Γ Φ a0 w0)(hx:∀i,QN P ops Q B N (J i).1 ((J i).2.1 Γ) (Φ++(J i).2.2) mE (qs i))(k:(∀i,QN P ops Q B N (J i).1 ((J i).2.1 Γ) (Φ++(J i).2.2) mE (qs i))→wpAny P .any ops Q fuel0 L a0 w0):wpAny P .any ops Q fuel0 L a0 w0:=k hx
theorem nQ{ι:Type}{J:ι→Lpt}{mE':Array Bool}{qs':ι→Quiets}{Γ0:List HP}{Φ0:List RF}{j:Nat}{a:Act}{w:World}(h:∀i,QN P ops Q B N (J i).1 ((J i).2.1 Γ0) (Φ0++(J i).2.2) mE' (qs' i))(i:ι)(c:CxL B N Γ0 Φ0 (J i) a w)(hb:nextB ops mE qs j mE' (qs' i)=true:=by kernel_rfl)
  (hq:((qs' i).filter fun q=>memN (qs.map (·.1)) q.1)=(qs.filter fun q=>memN ((qs' i).map (·.1)) q.1):=by kernel_rfl)(hw:((qs' i).all fun q=>memN (qs.map (·.1)) q.1||memN (clo ops ops.size (waits ops q.1)) j)=true:=by kernel_rfl):Nxt P ops Q B N mE qs j a w:=⟨_,_,_,_,_,c,h i,hb,hq,hw⟩
theorem q0{a:Act}{w:World}(c:Cx B N σ Γ Φ a w)(h:QN P ops Q B N σ Γ Φ (Array.replicate ops.size false) qs):wpAny P .any ops Q ops.size (Array.replicate ops.size false) a w:=by
 have hf:∀k,(Array.replicate ops.size false).getD k false=false:=fun k=>by
  rw[ZoA,Zp0];split<;>rfl
 refine h _ a w _ c ⟨by simp,fun _ _ _=>rfl,fun k _ hk=>?_⟩ (fun q _ hq=>?_) (by simp)
 all_goals grind
theorem qP{S:List (Nat×Value)}{i d:Nat}{v:Value}{o:Oper}(hs:List (Nat×Nat))(ho:ops[i]? =some o:=by rfl)(hg:o.guard=none:=by rfl)
  (hk:(seqB P N (bxsOf Γ Φ) hs 0 [o] S).map (fun r=>r.2.map (·.1))=some (((seqB P N (bxsOf Γ Φ) hs 0 [o] S).map (fun r=>r.2.map (·.2))).getD []):=by kernel_rfl)(hσ:((seqB P N (bxsOf Γ Φ) hs 0 [o] S).getD ([],[])).1=(d,v)::S:=by kernel_rfl)(a:Act)(w:World)(c:Cx B N S Γ Φ a w):wpOp P ops Q i (fun a' w'=>Cx B N ((d,v)::S) Γ Φ a' w') a w:=
 Zd o ho hg (Fp (ops:=#[o]) (k:=0) hs 1 c (fun fr c=>E0 (by simp_all) rfl) hk)
theorem qV{S:List (Nat×Value)}{i d:Nat}{v:Value}{o:Oper}(ho:ops[i]? =some o)(hg:o.guard=none)(hd:o.dst=some d)(hdN:Nat.blt d N=true){a:Act}{w:World}(c:Cx B N S Γ Φ a w)(hv:Does P o a w fun v' w'=>v'=v∧w'=w):wpOp P ops Q i (fun a' w'=>Cx B N ((d,v)::S) Γ Φ a' w') a w:=
 Zd o ho hg (ZeB (ops:=#[o]) (k:=0) (o:=o) rfl hg hv fun v' w' hw=>by
  obtain⟨rfl,rfl⟩:=hw;rw[hd]
  exact c.to (c.fr.put (ZoY.mp hdN) _))
section
variable{S:List (Nat×Value)}{i d:Nat}{dst:Option Tmp}{t ty:TypeId}{pos:String}{af:Array Edge}{x y:Operand}{α:Type}[Rep α]{e:TypeId}{v u:Value}{n:Int}{p:Addr}
theorem qI(k:Nat)(hk:Φ[k]? =some (EA α v n p u):=by rfl)(ho:ops[i]? =some ⟨some d,.indexAddr t x y,ty,pos,af,none⟩:=by rfl)(hdN:Nat.blt d N=true:=by rfl)(ht:P.underlying t=some (.slice e):=by rfl)(he:Ty P e α:=by constructor<;>kernel_rfl)(hx:opd S x=some v:=by kernel_rfl)(hy:numOf (opd S y)=some n:=by kernel_rfl)
  (a:Act)(w:World)(c:Cx B N S Γ Φ a w):wpOp P ops Q i (fun a' w'=>Cx B N ((d,.pointer (some p))::S) Γ Φ a' w') a w:=by
 obtain⟨F,⟨ad,len,cap,rfl,rfl,hn,hlt⟩,_⟩:=c.use (Ava.f k hk);obtain⟨kd,hy⟩:=YD hy;have h1:=Zt c.fr hx;have h2:=Zt c.fr hy;refine qV ho rfl rfl hdN c (Zx (v:=.pointer (some (ad.add (n.toNat*Rep.sz α)))) (w':=w) ?_ ⟨rfl,rfl⟩);simp[execOp,Instr.indexAt,h1,h2,asIntOf,run_underlying ht,hn,hlt,he.sizeOf]
theorem qL(k:Nat)(hk:Φ[k]? =some (EA α v n p u):=by rfl)(ho:ops[i]? =some ⟨some d,.load t x,ty,pos,af,none⟩:=by rfl)(hdN:Nat.blt d N=true:=by rfl)(ht:Ty P t α:=by constructor<;>kernel_rfl)(hx:opd S x=some (.pointer (some p)):=by kernel_rfl)
  (a:Act)(w:World)(c:Cx B N S Γ Φ a w):wpOp P ops Q i (fun a' w'=>Cx B N ((d,u)::S) Γ Φ a' w') a w:=by
 obtain⟨F,_,cs,rfl,hl,hc,_⟩:=c.use (Ava.f k hk);have h1:=Zt c.fr hx;refine qV ho rfl rfl hdN c (Zx (v:=Rep.val α cs) (w':=w) ?_ ⟨rfl,rfl⟩);simp[execOp,Instr.loadAt,h1,Instr.sureAddr,Y7 ht hl hc]
theorem qC{z:Value}(k off:Nat)(hk:Φ[k]? =some (EA α v n p u):=by rfl)(hz:u.cells.toList[off]? =some z:=by rfl)(hag:Rep.agg α=true:=by rfl)(ho:ops[i]? =some ⟨some d,.load t x,ty,pos,af,none⟩:=by rfl)(hdN:Nat.blt d N=true:=by rfl)(ht:Ty P t Int:=by constructor<;>kernel_rfl)(hx:opd S x=some (.pointer (some (p.add off))):=by kernel_rfl)
  (a:Act)(w:World)(c:Cx B N S Γ Φ a w):wpOp P ops Q i (fun a' w'=>Cx B N ((d,z)::S) Γ Φ a' w') a w:=by
 obtain⟨F,_,cs,rfl,hl,hc,_⟩:=c.use (Ava.f k hk);have hz':cs[off]? =some z:=by
  simp_all[Rep.val,ZoD,Value.cells]
 have hc1:Cells w (p.add off) [z]:=fun i q' hq=>by
  cases i with
  |zero=>
   simp only[Zpt,Option.some.injEq]at hq;subst hq;exact hc off z hz'
  |succ i=>simp at hq
 have h1:=Zt c.fr hx;refine qV ho rfl rfl hdN c (Zx (v:=z) (w':=w) ?_ ⟨rfl,rfl⟩);have:=Y7 ht (cs:=[z]) rfl hc1;have hv':Rep.val Int [z]=z:=rfl;simp_all[execOp,Instr.loadAt,Instr.sureAddr]
end
end
section
variable{P:Program}{B:Bs}{N:Nat}{σ:List (Nat×Value)}{Γ:List HP}{Φ:List RF}{a:Act}{w:World}{Q:Exit→Act→World→Prop}{ops:Array Oper}{k d:Nat}{t t' ty:TypeId}{x y:Operand}{pos:String}{af:Array Edge}
theorem Ecl{α:Type}[Rep α]{hi mx:Operand}{b:Option Addr}{cp:Nat}{l:List α}(E:TypeId)(c:Cx B N σ Γ Φ a w)(hl:Ava [] Φ w (RO (.slice b l.length cp) l))(h:∀fr,Cx B N ((d,.slice b l.length l.length)::σ) Γ (Φ++[RO (.slice b l.length l.length) l]) fr w→wpFrom P ops Q (k+1) fr w)
  (ho:ops[k]? =some ⟨some d,.slice t x none (some hi) (some mx),ty,pos,af,none⟩:=by rfl)(hd:Nat.blt d N=true:=by rfl)(he:Ty P E α:=by constructor<;>kernel_rfl)(ht:P.underlying t=some (.slice E):=by kernel_rfl)
  (hx:opd σ x=some (.slice b l.length cp):=by kernel_rfl)(hhi:opd σ hi=some (.int .i64 (len l)):=by kernel_rfl)(hmx:opd σ mx=some (.int .i64 (len l)):=by kernel_rfl):wpFrom P ops Q k a w:=by
 obtain⟨hF,S,F,hM,hs,hf⟩:=c;have hl':=hl Non F (Sep.nil w Non) hf;obtain⟨b',cap,e,hc1,hc2,hc3⟩:=RV.slice hl';obtain⟨rfl,_,rfl⟩:=Value.slice.inj e;have e0:∀ad:Addr,ad.add 0=ad:=fun ad=>by rfl
 have hln:len l=((l.length:Nat):Int):=rfl;refine ZY hF ho rfl rfl (ZoY.mp hd) (R:=fun z w1=>z= .slice b l.length l.length∧w1=w) (Zx ?_ ⟨rfl,rfl⟩) fun z w1 fr hz hF'=>?_
 ·simp[execOp,Instr.sliceAt,Instr.slice,Instr.sliceBounds,Instr.sliceBound,asIntOf,Zt hF hx,Zt hF hhi,Zt hF hmx,run_underlying ht,he.sizeOf,hln,hc1,e0]
 ·obtain⟨rfl,rfl⟩:=hz
  exact h fr ⟨hF',S,F,hM,hs,hf.add (RV.mk_slice (ZoH _) (ZpA hc1 hc2) fun hne=>by
   obtain⟨ad,e1,e2,e3⟩:=hc3 hne
   exact⟨ad,e1,e2.elim id fun h=>h.elim,ZdO (fun k _ h=>⟨rfl,h.elim id fun h=>h.elim⟩) e2 e3⟩)⟩
end
section
variable{α:Type}[Flat α]{w:World}{E:TypeId}
theorem Zf0{P:Program}{t ty:TypeId}(ht:P.underlying t=some (.slice E))(hE:ElT P E α){Fl Fr:Nat→Prop}{b:Option Addr}{u:Value}{l m:List α}(hl:RV w Fl (.slice b l.length l.length) l)(hu:RV w Fr u m)(hm:m≠[])(hroom:l.length+m.length≤room):
  ∃a' c' w',(Builtin.append_ #[t,t] ty #[.slice b l.length l.length,u]).run P w= .ok (.slice a' (l++m).length c') w'∧(SL E (.slice a' (l++m).length c') (l++m)).ok w' (fun k=>w.heap.size≤k)∧Chg Non w w':=by
 by_cases hl0:l=[]
 ·subst hl0;obtain⟨v',w',hrun,hok',hc⟩:=Zc7 (P:=P) (ty:=ty) (v:=b) ht hE hu (by omega);have hsl:∃a' c',v'= .slice a' m.length c':=by
   rcases hok' with⟨go,ho⟩|⟨rfl,a',rfl⟩
   ·exact ho.slice
   simp
  grind
 obtain⟨i,z,hi,hz,hsz,hzs,hby⟩:=hE.out;obtain⟨b',cap',e,hc1,hc2,hc3⟩:=hl.slice;obtain⟨rfl,_,rfl⟩:=Value.slice.inj e;obtain⟨bd,rfl,_,he⟩:=hc3 hl0;obtain⟨css,g1,g2⟩:=ZbX he;obtain⟨ad,cap,rfl,hcap,hmax,hcells⟩:=hu.slice;obtain⟨ad,rfl,_,he'⟩:=hcells hm;obtain⟨cssm,k1,k2⟩:=ZbX he';have hpos:0<m.length:=by
  grind
 unfold room at hroom;have hb1:(l.length+m.length)*i.bytes≤4294967296*32768:=ZqO hroom hby;have hfl:css.flatten.length=l.length*i.size:=by rw[hsz];exact g1.flat_len
 have hfm:cssm.flatten.length=m.length*i.size:=by rw[hsz];exact k1.flat_len
 have e2:=run_append_grow (P:=P) w t ty E i z ht hi hz bd l.length l.length css.flatten hfl (fun j x hx=>by simp_all) ad m.length cap cssm.flatten hfm (fun j x hx=>by simp_all) (by omega) (by omega)
  (growslice_fits (by omega) (by omega))
 have hge:=grownCap_ge w (l.length+m.length) l.length E;have hcm:grownCap w (l.length+m.length) l.length E≤maxLen:=grownCap_le_maxLen w (l.length+m.length) l.length E (by grind[maxLen]);have hlen:(l++m).length=l.length+m.length:=ZoT;refine⟨some ⟨w.heap.size,0,none⟩,grownCap w (l.length+m.length) l.length E,_,by rw[hlen];exact e2,.inl ⟨some w.heap.size,fun _=>False,css++cssm,?_,⟨?_,.inr ⟨w.heap.size,_,_,rfl,ZpO _,heap_alloc_new w.drew _,by omega,hcm,?_,?_⟩⟩,rfl,?_,fun k hk=>hk.elim⟩,?_⟩
 ·exact Css.append ⟨g1.1,fun i cs x hi hx=>Flat.iff.2 (Flat.iff.1 (g1.2 i cs x hi hx))⟩ ⟨k1.1,fun i cs x hi hx=>Flat.iff.2 (Flat.iff.1 (k1.2 i cs x hi hx))⟩
 ·grind
 ·simp only[Array.size_append,Zqs,size_zeroCells,hfl,hfm,hsz,hzs,←ZqS];simp_all
 ·grind[Array.toList_append,List.append_assoc,List.flatten_append,Nat.add_mul,List.length_append,List.take_left]
 ·simp
 ·exact⟨rfl,rfl,rfl,by simp,fun k hk _=>heap_alloc_old w.drew _ hk⟩
end
section
variable{ρ α:Type}[Flat ρ][Rep α]
variable{P:Program}{B:Bs}{N:Nat}{σ:List (Nat×Value)}{Γ:List HP}{Φ:List RF}{a:Act}{w:World}{Q:Exit→Act→World→Prop}{ops:Array Oper}{k d:Nat}{t t' ty:TypeId}{x y:Operand}{pos:String}{af:Array Edge}
theorem Eapf[RawOf ρ α]{b:Option Addr}{u:Value}{xs ms r:List α}(E:TypeId)(c:Cx B N σ Γ Φ a w)(hl:Ava [] Φ w (RO (.slice b xs.length xs.length) xs))(hu:Ava [] Φ w (RO u ms))(hr:app? xs ms=some r)
  (h:∀(rs:List ρ)a' c' fr w',Cx B N ((d,.slice a' r.length c')::σ) (Γ++[SL E (.slice a' r.length c') rs]) (Φ++[CS rs r]) fr w'→wpFrom P ops Q (k+1) fr w')(hm:ms≠[]:=by exact List.cons_ne_nil _ _)
  (ho:ops[k]? =some ⟨some d,.call ⟨.builtin .append,#[x,y],#[t,t']⟩,ty,pos,af,none⟩:=by rfl)(htt:t'=t:=by rfl)(hd:Nat.blt d N=true:=by rfl)(he:ElT P E ρ:=by refine elT ?_;kernel_rfl)(ht:P.underlying t=some (.slice E):=by kernel_rfl)
  (hx:opd σ x=some (.slice b xs.length xs.length):=by kernel_rfl)(hy:opd σ y=some u:=by kernel_rfl):wpFrom P ops Q k a w:=by
 obtain⟨hF,S,F,hM,hs,hf⟩:=c;subst htt;obtain⟨rl,f1,f2⟩:=ZfP (ρ:=ρ) (hl.ro hf);obtain⟨rm,g1,g2⟩:=ZfP (ρ:=ρ) (hu.ro hf);have hl1:rl.length=xs.length:=by simpa using f2.1
 have hl2:rm.length=ms.length:=by simpa using g2.1
 obtain⟨h1,h2⟩:=app?_raw (l':=rl) (m':=rm) hr hl1 hl2;unfold app? at h1;split at h1
 ·rename_i hroom;have hne:rm≠[]:=fun e=>by grind
  rw[←hl1]at f1 hx;obtain⟨a',c',w',hrun,hok,hc⟩:=Zf0 (P:=P) (ty:=ty) ht he f1 g1 hne hroom;obtain⟨S',hp,hs'⟩:=hs.new hM hc hok;have hlen:(rl++rm).length=r.length:=by simp_all
  have hcs:=Zg9 f2 g2;rw[←h2]at hcs;have hcs':Css w' F ((rl++rm).map Flat.enc) r:=hcs.keep fun k hk hf=>⟨hp.chg.block k hk fun hS=>hM.dj k hS hf,hf⟩;refine ZY hF ho rfl rfl (ZoY.mp hd) (R:=fun z w1=>z= .slice a' (rl++rm).length c'∧w1=w') (Zx ?_ ⟨rfl,rfl⟩) fun z w1 fr hz hF'=>?_
  ·simp[execOp,resolve,invoke,builtin,Zt hF hx,Zt hF hy,hrun]
  ·obtain⟨rfl,rfl⟩:=hz;rw[hlen]at hs' hF';exact h (rl++rm) a' c' fr _ ⟨hF',S',F,hM.stp hp,ZG (Γ2:=[_]) hs',(hf.chg hp.chg fun k hk hS=>hM.dj k hS hk).add (R:=CS (rl++rm) r) hcs'⟩
 ·cases h1
end
section
def EW(w:World)(α:Type)[Rep α](v:Value)(n:Int)(p:Addr)(u:Value):Prop:=∃F,(EA α v n p u).ok w F
variable{ρ α:Type}[Flat ρ][Rep α]
variable{P:Program}{B:Bs}{N:Nat}{σ:List (Nat×Value)}{Γ:List HP}{Φ:List RF}{a:Act}{w:World}{K:Act→World→Prop}{Q:Exit→Act→World→Prop}{ops:Array Oper}{pds:List Pd}{j:Nat}
theorem Cx.elo[RawOf ρ α]{E:TypeId}{v:Value}{rs:List ρ}{xs:List α}{n:Int}{x:α}(i k:Nat)(c:Cx B N σ Γ Φ a w)(hx:get? xs n=some x)(hi:Γ[i]? =some (SL E v rs):=by rfl)(hk:Φ[k]? =some (CS rs xs):=by rfl):∃p u,EW w α v n p u∧Cx B N σ Γ (Φ++[RO u x]) a w:=by
 obtain⟨hF,S,F,h1,h2,h3⟩:=c;have hc:=h3.get hk;obtain⟨q',g1,_⟩:=Zkj hc (get?_at hx);have hz':get? rs n=some q':=by simp_all[get?,ZoD,get?_nn]
 have hr:=(h2.rv i hi);obtain⟨b,cap,rfl,e1,e2,e3⟩:=RV.slice hr;have hn:=get?_nn hx;have hat:=get?_at hz';have hlt:n.toNat<rs.length:=(ZoI.1 hat).1;obtain⟨ad,rfl,hFb,hel⟩:=e3 (by grind);obtain⟨cs,hok,hcl⟩:=ZbZ hel hat;have hcl:Cells w (ad.add (n.toNat*Rep.sz ρ)) cs:=by simp_all
 have ecs:cs=Flat.enc q':=Flat.iff.1 hok;have hok':Rep.ok w F (Flat.enc q') x:=hc.2 _ _ x (by simp_all) (get?_at hx);have hne:cs≠[]:=by
  have h4:=Rep.len hok;grind[Rep.pos]
 have hb:(ad.add (n.toNat*Rep.sz ρ)).block<w.heap.size:=hcl.lt hne;subst ecs;rw[RawOf.sz (ρ:=ρ) (α:=α)]at hcl hb;exact⟨ad.add (n.toNat*Rep.sz α),Rep.val α (Flat.enc q'),⟨fun _=>True,⟨ad,_,_,rfl,rfl,hn,by omega⟩,_,rfl,Rep.len hok',hcl,trivial,hb⟩,hF,S,F,h1,h2,h3.add (R:=RO _ x) ⟨_,hok',rfl⟩⟩
theorem NieW{draw:Bool}{ms:List Nat}{dst:Option Tmp}{t ty:TypeId}{pos:String}{af:Array Edge}{g:Option (Nat×Bool)}{x y:Operand}{α:Type}[Rep α]{e:TypeId}{v u:Value}{n:Int}{p:Addr}(c:Cx B N σ Γ Φ a w)(hk:EW w α v n p u)
  (ho:ops[j]? =some ⟨dst,.indexAddr t x y,ty,pos,af,g⟩:=by rfl)(ht:P.underlying t=some (.slice e):=by rfl)(he:Ty P e α:=by constructor<;>kernel_rfl)(hx:envP ops σ pds j x=some v:=by kernel_rfl)(hy:numOf (envP ops σ pds j y)=some n:=by kernel_rfl)(hG:Good ops pds [])(hpd:pds.getD j .any= .eq (.pointer (some p))):NPB P draw ms ops pds a w Q j:=by
 obtain⟨F,⟨ad,len,cap,rfl,rfl,hn,hlt⟩,_⟩:=hk;obtain⟨kd,hy⟩:=YD hy;refine Zdi _ ho hG c.fr fun a' w' _ hg hv _=>?_;have h1:=hv x _ (by simp[Op.operands]) hx;have h2:=hv y _ (by simp[Op.operands]) hy;refine Zx (v:=.pointer (some (ad.add (n.toNat*Rep.sz α)))) (w':=w') ?_ (by rw[hpd];exact⟨rfl,Chg.refl _ _⟩);simp[execOp,Instr.indexAt,h1,h2,asIntOf,run_underlying ht,hn,hlt,he.sizeOf]
theorem NleW{draw:Bool}{ms:List Nat}{dst:Option Tmp}{t ty:TypeId}{pos:String}{af:Array Edge}{g:Option (Nat×Bool)}{x:Operand}{α:Type}[Rep α]{v u:Value}{n:Int}{p:Addr}(c:Cx B N σ Γ Φ a w)(hk:EW w α v n p u)
  (ho:ops[j]? =some ⟨dst,.load t x,ty,pos,af,g⟩:=by rfl)(ht:Ty P t α:=by constructor<;>kernel_rfl)(hx:envP ops σ pds j x=some (.pointer (some p)):=by kernel_rfl)(hG:Good ops pds [])(hpd:pds.getD j .any= .eq u):NPB P draw ms ops pds a w Q j:=by
 obtain⟨F,_,cs,rfl,hl,hc,_⟩:=hk;refine Zdi _ ho hG c.fr fun a' w' hC hg hv _=>?_;have h1:=hv x _ (by simp[Op.operands]) hx;refine Zx (v:=Rep.val α cs) (w':=w') ?_ (by rw[hpd];exact⟨rfl,Chg.refl _ _⟩);simp[execOp,Instr.loadAt,h1,Instr.sureAddr,Y7 ht hl (hc.ext hC)]
end
section
def EP(α:Type)[Rep α](v:Value)(n:Int)(p:Addr):Prop:=∃ad len cap,v= .slice (some ad) len cap∧p=ad.add (n.toNat*Rep.sz α)∧0≤n∧n<((len:Nat):Int)
variable{ρ α:Type}[Flat ρ][Rep α]
variable{P:Program}{B:Bs}{N:Nat}{σ:List (Nat×Value)}{Γ:List HP}{Φ:List RF}{a:Act}{w:World}{Q:Exit→Act→World→Prop}{ops:Array Oper}{pds:List Pd}{j k d i:Nat}{t t' ty:TypeId}{x y z:Operand}{pos:String}{af:Array Edge}{v:Value}{n:Int}{p:Addr}{E:TypeId}
theorem EP.one{p':Addr}(h:EP α v n p)(h':EP α v n p'):p=p':=by
 obtain⟨ad,len,cap,rfl,rfl,_⟩:=h;obtain⟨ad',len',cap',e,rfl,_⟩:=h';simp_all
theorem Cx.epo[RawOf ρ α]{rs:List ρ}{xs:List α}{x:α}(i k:Nat)(c:Cx B N σ Γ Φ a w)(hx:get? xs n=some x)(hi:Γ[i]? =some (SL E v rs):=by rfl)(hk:Φ[k]? =some (CS rs xs):=by rfl):∃p,EP α v n p:=by
 obtain⟨p,u,⟨F,h,_⟩,_⟩:=c.elo i k hx hi hk;exact⟨p,h⟩
theorem qIo{S:List (Nat×Value)}(h:EP α v n p)(ho:ops[i]? =some ⟨some d,.indexAddr t x y,ty,pos,af,none⟩:=by rfl)(hdN:Nat.blt d N=true:=by rfl)(ht:P.underlying t=some (.slice E):=by rfl)(he:Ty P E α:=by constructor<;>kernel_rfl)(hx:opd S x=some v:=by kernel_rfl)(hy:numOf (opd S y)=some n:=by kernel_rfl)
  (a:Act)(w:World)(c:Cx B N S Γ Φ a w):wpOp P ops Q i (fun a' w'=>Cx B N ((d,.pointer (some p))::S) Γ Φ a' w') a w:=by
 obtain⟨ad,len,cap,rfl,rfl,hn,hlt⟩:=h;obtain⟨kd,hy⟩:=YD hy;have h1:=Zt c.fr hx;have h2:=Zt c.fr hy;refine qV ho rfl rfl hdN c (Zx (v:=.pointer (some (ad.add (n.toNat*Rep.sz α)))) (w':=w) ?_ ⟨rfl,rfl⟩);simp[execOp,Instr.indexAt,h1,h2,asIntOf,run_underlying ht,hn,hlt,he.sizeOf]
theorem Eldo[RawOf ρ α]{rs:List ρ}{xs:List α}{q:α}(i j:Nat)(c:Cx B N σ Γ Φ a w)(he:EP α v n p)(hz:get? xs n=some q)(h:∀u fr,Cx B N ((d,u)::σ) Γ (Φ++[RO u q]) fr w→wpFrom P ops Q (k+1) fr w)(hi:Γ[i]? =some (SL E v rs):=by rfl)(hj:Φ[j]? =some (CS rs xs):=by rfl)
  (ho:ops[k]? =some ⟨some d,.load t x,ty,pos,af,none⟩:=by rfl)(hd:Nat.blt d N=true:=by rfl)(ht:Ty P t α:=by constructor<;>kernel_rfl)(hx:opd σ x=some (.pointer (some p)):=by kernel_rfl):wpFrom P ops Q k a w:=by
 obtain⟨p',u,⟨F,hep,cs,rfl,hl,hc,_⟩,c⟩:=c.elo i j hz hi hj;obtain rfl:=he.one hep;refine ZY c.fr ho rfl rfl (ZoY.mp hd) (R:=fun z w1=>z=Rep.val α cs∧w1=w) (Zx ?_ ⟨rfl,rfl⟩) fun z w1 fr hz hF'=>?_
 ·simp[execOp,Instr.loadAt,Zt c.fr hx,Instr.sureAddr,Y7 ht hl hc]
 ·obtain⟨rfl,rfl⟩:=hz;exact h _ fr (c.to hF')
theorem Esetp[RawOf ρ α]{rs:List ρ}{xs r:List α}{q:ρ}{e:α}(i j:Nat)(c:Cx B N σ Γ Φ a w)(hep:EP α v n p)(hx:Ava [] Φ w (RO (Rep.val ρ (Flat.enc q)) e))(hr:set? xs n e=some r)
  (h:∀fr w',Cx B N σ (Γ.set i (SL E v (rs.set n.toNat q))) (Φ++[CS (rs.set n.toNat q) r]) fr w'→wpFrom P ops Q (k+1) fr w')(hi:Γ[i]? =some (SL E v rs):=by rfl)(hj:Φ[j]? =some (CS rs xs):=by rfl)
  (ho:ops[k]? =some ⟨none,.store E x z,ty,pos,af,none⟩:=by rfl)(he:Ty P E ρ:=by constructor<;>kernel_rfl)(hp:opd σ x=some (.pointer (some p)):=by kernel_rfl)(hq:opd σ z=some (Rep.val ρ (Flat.enc q)):=by kernel_rfl):wpFrom P ops Q k a w:=by
 obtain⟨F0,h0⟩:=c.use (Ava.f j hj);have hl:rs.length=xs.length:=by simpa using h0.1
 obtain⟨h1,h2,h3⟩:=set?_raw q hr hl;have c:=c.fad (Rf:=CS (rs.set n.toNat q) r) fun F hf=>by
  rw[h2];exact Zj0 (hf.get hj) (ZfN (hx.ro hf))
 unfold set? at h1;split at h1
 ·rename_i hn;obtain⟨hF,S,F,hM,hs,hf⟩:=c;obtain⟨A,hok,hup⟩:=hs.upd i hi hM;rcases hok with⟨go,hown⟩|⟨rfl,_,_⟩
  ·obtain⟨g,w',hgo,⟨cc,hv⟩,hrun,g1,g2⟩:=hown.set_run (P:=P) he (Fr:=Non) (u:=Rep.val ρ (Flat.enc q)) (x:=q) ⟨_,Flat.iff.2 rfl,rfl⟩ (Fu:=Non) Zdo (fun _ _ h=>h.elim) (n:=n.toNat) hn.2;obtain⟨ad,len,cap,e1,rfl,_⟩:=hep;rw[hv]at e1;obtain⟨e2,_,_⟩:=Value.slice.inj e1;cases e2;rw[←RawOf.sz (ρ:=ρ) (α:=α)]at hp;obtain⟨S',hpp,hs'⟩:=hup (P':=SL E v (rs.set n.toNat q)) (g2.mono fun k hk=>hown.inG hk) (.inl ⟨go,g1.regard fun k _ hk=>.inl hk⟩);refine ZcD hF ho rfl rfl (R:=fun _ w2=>w2=w') (ZbW ?_ rfl) fun w2 hw2 hF2=>?_
   ·simp[execOp,Instr.storeAt,Zt hF hp,Zt hF hq,Instr.sureAddr,hrun]
   ·obtain⟨_,rfl⟩:=hw2;exact h _ _ ⟨hF2,S',F,hM.stp hpp,hs',hf.chg hpp.chg fun k hk hS=>hM.dj k hS hk⟩
  ·simp at hn
 ·cases h1
end
section
variable{P:Program}{B:Bs}{N:Nat}{σ:List (Nat×Value)}{Γ:List HP}{Φ:List RF}{a:Act}{w:World}{Q:Exit→Act→World→Prop}
  {draw:Bool}{ms:List Nat}{ops:Array Oper}{pds:List Pd}{j:Nat}{dst:Option Tmp}{g:Option (Nat×Bool)}{t ty:TypeId}{y:Operand}{pos:String}{af:Array Edge}
end
instance{α:Type}[Rep α]:RawOf Hd (List α)where
 sz:=rfl
 agg:=rfl
 ex:=fun{w F cs x}h=>by
  have h1:RV w F (Rep.val (List α) cs) x:=⟨cs,h,rfl⟩;obtain⟨a,c,e,_⟩:=RV.slice h1;have hl:=Rep.len h
  match cs,hl with
  |[u],_=>exact⟨⟨a,x.length,c⟩,by rw[show u= .slice a x.length c from e];rfl⟩
section
variable{P:Program}{K V:TypeId}{κ ρ α:Type}[Flat κ][Flat ρ][Rep α][RawOf ρ α][DecidableEq κ]
variable{B:Bs}{N:Nat}{σ:List (Nat×Value)}{Γ:List HP}{Φ:List RF}{a:Act}{w:World}{Q:Exit→Act→World→Prop}{T:MapT P K V κ ρ}{own:ρ→α→HP}
  {ops:Array Oper}{k d b:Nat}{t ty:TypeId}{pos:String}{af:Array Edge}{x y z:Operand}{v:Value}
end
section
variable{P:Program}{B:Bs}{N:Nat}{σ:List (Nat×Value)}{Γ:List HP}{Φ:List RF}{a:Act}{w:World}{Q:Exit→Act→World→Prop}
  {ops:Array Oper}{k d:Nat}{t t' ty:TypeId}{pos:String}{af:Array Edge}{x y:Operand}{α:Type}[Flat α]{E:TypeId}{l r m:List α}{b a':Option Addr}{n0 cp c':Nat}{lo n:Int}{u:Value}
end
section
variable{P:Program}{B:Bs}{N:Nat}{σ:List (Nat×Value)}{Γ:List HP}{Φ:List RF}{a:Act}{w:World}{Q:Exit→Act→World→Prop}
  {ops:Array Oper}{k d d2:Nat}{t t' ty ty':TypeId}{pos pos':String}{af af':Array Edge}{x y:Operand}{E E':TypeId}{l r m:List Int}{v u:Value}{rs:List Hd}{xs:List (List Int)}
end
section
variable{P:Program}{B:Bs}{N:Nat}{σ:List (Nat×Value)}{Γ:List HP}{Φ Φ1:List RF}{a:Act}{w:World}{Q:Exit→Act→World→Prop}
  {draw:Bool}{ms:List Nat}{ops:Array Oper}{pds:List Pd}{j:Nat}{dst:Option Tmp}{g:Option (Nat×Bool)}{ty:TypeId}{x:Operand}{pos:String}{af:Array Edge}
end
end Go.GL
end
section
set_option linter.unusedVariables false
namespace Go.GL
open Go.RowKit Go.Maps
section
variable{P:Program}{B:Bs}{N:Nat}{σ:List (Nat×Value)}{Γ:List HP}{Φ:List RF}{a:Act}{w:World}{Q:Exit→Act→World→Prop}{K':Act→World→Prop}
  {ops:Array Oper}{k d:Nat}{t t' ty yt:TypeId}{pos:String}{af:Array Edge}{x y:Operand}
  {K V:TypeId}{κ β:Type}[Flat κ][Flat β][DecidableEq κ]{T:MapT P K V κ β}{b r:Nat}{m:List (κ×β)}{left:Lit→Bool}{cnt:Nat}
end
end Go.GL
end
section
set_option linter.unusedVariables false
end
section
set_option linter.unusedVariables false
namespace Go.GL
open Go.RowKit
def HP.on(b:Bool)(l:List HP):HP:=cond b (HP.sep l) (HP.pure True)
section
variable{P:Program}{B:Bs}{N:Nat}{σ:List (Nat×Value)}{Γ:List HP}{Φ:List RF}{a:Act}{w:World}{K:Act→World→Prop}{Q:Exit→Act→World→Prop}{ops:Array Oper}{k d:Nat}{ty t:TypeId}{pos:String}{af:Array Edge}
theorem Cx.opn{b:Bool}{l:List HP}(i:Nat)(hb:b=true)(c:Cx B N σ Γ Φ a w)(hi:Γ[i]? =some (HP.on b l):=by rfl):Cx B N σ (rest [i] Γ++l) Φ a w:=by
 subst hb;exact c.flat i hi
end
structure JP where
 z:Int
 h:Hd
instance:Rep JP where
 sz:=2
 agg:=true
 ok:=fun w F cs x=>cs=[.int .i64 x.z,x.h.v]
 len:=by rintro w F cs x rfl;rfl
 one:=by rintro w F cs x rfl u hu;simp at hu;rcases hu with rfl|rfl<;>rfl
 pos:=by decide
 sgl:=fun h=>by cases h
 keep:=fun h _=>h
instance:Flat JP where
 enc:=fun x=>[.int .i64 x.z,x.h.v]
 iff:=Iff.rfl
def PK(E:TypeId)(v:Value){β:Type}(xs:List β):HP:=.ex fun raws:List JP=>.two (.pure (raws.length=xs.length)) (SL E v raws)
theorem PK.intro{E:TypeId}{v:Value}{β:Type}{xs:List β}{raws:List JP}{L:List HP}{w:World}{S:Nat→Prop}(hl:raws.length=xs.length)(h:Sep (SL E v raws::L) w S):Sep (PK E v xs::L) w S:=
 h.imp fun A hA=>⟨raws,Non,A,hl,hA,fun _ h _=>h.elim,fun _ h=>h.elim (fun h=>h.elim) id⟩
theorem PK.elim{E:TypeId}{v:Value}{β:Type}{xs:List β}{L:List HP}{w:World}{S:Nat→Prop}(h:Sep (PK E v xs::L) w S):∃raws:List JP,raws.length=xs.length∧Sep (SL E v raws::L) w S:=by
 obtain⟨A,R,⟨raws,B,C,h1,h2,h3,h4⟩,k2,k3,k4,k5⟩:=h.cons_ok;exact⟨raws,h1,Sep.mk_cons h2 k2 (fun k hc hr=>k3 k (h4 k (.inr hc)) hr) (fun k hc=>k4 k (h4 k (.inr hc))) k5⟩
end Go.GL
end
section
set_option linter.unusedVariables false
end
section
set_option linter.unusedVariables false
namespace Go.GL
open Go.RowKit
section
variable{α:Type}[Rep α]{w:World}{F:Nat→Prop}{b:Option Addr}{n0 c:Nat}{l r:List α}{n:Int}
theorem ZmB(h:RV w F (.slice b n0 c) l)(hr:cut? l 0 n=some r):RV w F (.slice b (List.length r) c) r∧0≤n∧n≤(c:Int)∧r.length=n.toNat:=by
 unfold cut? at hr;split at hr
 ·rename_i hn;simp only[ZqP,Zpp,Option.some.injEq]at hr;obtain⟨_,hn1,hn2⟩:=hn;have hlen:r.length=n.toNat:=by rw[←hr,Zpq];omega
  obtain⟨a',c',hv,h1,h2,h3⟩:=h.slice;simp only[Value.slice.injEq]at hv;obtain⟨rfl,rfl,rfl⟩:=hv;refine⟨RV.mk_slice (by omega) h2 fun hl=>?_,hn1,by omega,hlen⟩;obtain⟨ad,e1,e2,e3⟩:=h3 fun e=>hl (by rw[←hr,e];simp);refine⟨ad,e1,e2,Zdw fun i x hx=>ZbZ e3 ?_⟩;rw[←hr,Zpg]at hx;split at hx
  ·exact hx
  ·cases hx
 ·cases hr
end
section
variable{P:Program}{B:Bs}{N:Nat}{σ:List (Nat×Value)}{Γ:List HP}{Φ:List RF}{a:Act}{w:World}{Q:Exit→Act→World→Prop}{draw:Bool}{ms:List Nat}{ops:Array Oper}{pds:List Pd}{j:Nat}{dst:Option Tmp}{t ty:TypeId}{x:Operand}{pos:String}{af:Array Edge}{g:Option (Nat×Bool)}
theorem Ava.front{α:Type}[Rep α]{b:Option Addr}{n0 cp:Nat}{l r:List α}{n:Int}(hr:cut? l 0 n=some r)(h:Ava Γ Φ w (RO (.slice b n0 cp) l)):Ava Γ Φ w (RO (L b r cp) r):=fun S F hs hf=>(ZmB (h S F hs hf) hr).1
end
end Go.GL
end
section
set_option linter.unusedVariables false
end
section
set_option linter.unusedVariables false
namespace Go.GL
open Go.RowKit
section
variable{P:Program}{K V:TypeId}{κ ρ α:Type}[Flat κ][Flat ρ][Rep α][RawOf ρ α][DecidableEq κ]
variable{B:Bs}{N:Nat}{σ:List (Nat×Value)}{Γ:List HP}{Φ:List RF}{a:Act}{w:World}{Q:Exit→Act→World→Prop}{T:MapT P K V κ ρ}
  {ops:Array Oper}{k d b:Nat}{t ty:TypeId}{pos:String}{af:Array Edge}{x y z:Operand}{v:Value}
end
section
variable{P:Program}{B:Bs}{N:Nat}{σ:List (Nat×Value)}{Γ:List HP}{Φ:List RF}{a:Act}{w:World}{Q:Exit→Act→World→Prop}
  {draw:Bool}{ms:List Nat}{ops:Array Oper}{pds:List Pd}{j:Nat}{dst:Option Tmp}{g:Option (Nat×Bool)}{t yt ty:TypeId}{x y:Operand}{pos:String}{af:Array Edge}
end
end Go.GL
end
