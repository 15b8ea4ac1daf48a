/- Texts of this claim put into one: library or plain laws, without the program under test. -/
import Derived.Test.YtikabgjjcifidaaGreatLib3
import Derived.Test.YtikabgjjcifidaaGreatLib2
set_option linter.unusedSimpArgs false
set_option linter.unusedVariables false
set_option linter.defProp false
section
namespace Go.GL
open Go.RowKit
section
variable{P:Program}{B:Bs}{N:Nat}{Z:List (Nat×Value)}{Γ:List HP}{Φ:List RF}{a:Act}{w:World}{Q:Exit->Act->World->Prop}{ops:Array Oper}{k d i:Nat}{ty t t' E E':TypeId}{pos:String}{af:Array Edge}{x y z:Operand}{v:Value}{n:Int}{p:Addr}{rs:List Hd}{xs ys:List (List Int)}
def Cx.fc0{q:List Int}(i j:Nat)(c:Cx B N Z Γ Φ a w)(hz:get? xs n=some q)(hi:Γ[i]? =some (SL E v rs):=by rfl)(hj:Γ[j]? =some (HP.all (ownL E') rs xs):=by rfl):∃a' c' p,rs[n.toNat]? =some ⟨a',q.length,c'⟩/\rs.length=xs.length/\EP Hd v n p:=by
 obtain⟨_,S,F,_,hs,_⟩:=id c;obtain⟨A,hA,_⟩:=hs.get j hj;have hl:=Ub hA;have hn:=get?_nn hz;have hq:=get?_at hz;have hlt:=(Zbu.1 hq).1;have hr:rs[n.toNat]? =some rs[n.toNat]:=Zbo (by omega);obtain⟨a',c',e⟩:=JH (E:=E') (v:=(rs[n.toNat]).v) (l:=q) (VY hA hr hq:(ownL E' rs[n.toNat] q).ok w A);have e':rs[n.toNat]=⟨a',q.length,c'⟩:=by
  generalize rs[n.toNat]=z at e;cases z;simp_all[Hd.v,Value.slice.injEq]
 obtain⟨b,cap,rfl,e1,e2,e3⟩:=RV.slice (hs.rv i hi);obtain⟨ad,rfl,hFb,hel⟩:=e3 (by grind);exact⟨a',c',_,by rw[hr,e'],hl,ad,rs.length,cap,rfl,rfl,hn,by omega⟩
def qLh{S:List (Nat×Value)}{h:Hd}(j:Nat)(he:EP Hd v n p)(hr:rs[n.toNat]? =some h)(hj:Γ[j]? =some (SL E v rs):=by rfl)(ho:ops[i]? =some ⟨some d,.load t x,ty,pos,af,none⟩:=by rfl)(hdN:Nat.blt d N=true:=by rfl)(ht:Ty P t Hd:=by constructor<;>kernel_rfl)(hx:opd S x=some (.pointer (some p)):=by kernel_rfl)
  (a:Act)(w:World)(c:Cx B N S Γ Φ a w):wpOp P ops Q i (λa' w'=>Cx B N ((d,h.v)::S) Γ Φ a' w') a w:=by
 obtain⟨_,S',F,_,hs,_⟩:=id c;obtain⟨b,cap,rfl,e1,e2,e3⟩:=RV.slice (hs.rv j hj);obtain⟨ad,rfl,hFb,hel⟩:=e3 (by grind);obtain⟨ad',len,cap',e4,rfl,_⟩:=he;obtain⟨e5,_,_⟩:=Value.slice.inj e4;cases e5;obtain⟨cs,hok,hcl⟩:=Vt hel hr;have hcl:Cells w (ad.add (n.toNat*Rep.sz Hd)) cs:=by simp_all
 have ecs:cs=Flat.enc h:=Flat.iff.1 hok;subst ecs;have h1:=Zg c.fr hx;refine qV ho rfl rfl hdN c (Zi (v:=Rep.val Hd (Flat.enc h)) (w':=w) ?_ ⟨rfl,rfl⟩);simp[execOp,Instr.loadAt,h1,Instr.sureAddr,Xa ht (Rep.len hok) hcl]
def Efap{q m r:List Int}{u:Value}{a':Option Addr}{c':Nat}(j l:Nat)(c:Cx B N Z Γ Φ a w)(hz:get? xs n=some q)(hr:rs[n.toNat]? =some ⟨a',q.length,c'⟩)(hap:app? q m=some r)
  (h:∀a2 c2 fr w',Cx B N ((d,.slice a2 (List.length r) c2)::Z) (rest [j] Γ++[HP.but (ownL E') n.toNat rs xs,TL E' (.slice a2 (List.length r) c2) r]) Φ fr w'->wpFrom P ops Q (k+1) fr w')(hj:Γ[j]? =some (HP.all (ownL E') rs xs):=by rfl)(hl:(rest [j] Γ)[l]? =some (SL E' u m):=by rfl)
  (ho:ops[k]? =some ⟨some d,.call ⟨.builtin .append,#[x,y],#[t,t']⟩,ty,pos,af,none⟩:=by rfl)(htt:t'=t:=by rfl)(hd:Nat.blt d N=true:=by rfl)(he:ElT P E' Int:=by refine elT ?_;kernel_rfl)(ht:P.underlying t=some (.slice E'):=by kernel_rfl)
  (hx:opd Z x=some (.slice a' q.length c'):=by kernel_rfl)(hy:opd Z y=some u:=by kernel_rfl):wpFrom P ops Q k a w:=by
 have c2:Cx B N Z (rest [j] Γ++[HP.but (ownL E') n.toNat rs xs,TL E' (.slice a' q.length c') q]) Φ a w:=c.gam λS hs=>by
  have hp:=hs.part [j] (Γ1:=[HP.all (ownL E') rs xs]) (by simp[hj]) (by simp);have h4:Sep (HP.two (ownL E' ⟨a',q.length,c'⟩ q) (.but (ownL E') n.toNat rs xs)::rest [j] Γ) w S:=Sep.imp hp λA hA=>SI hA hr (get?_at hz);have h5:=h4.two;exact ZL (Γ2:=[_,_]) h5.swap
 refine Eapt ((rest [j] Γ).length+1) c2 (Ava.g (E:=E') l ?_) hap (λa2 c2 fr w' c=>h a2 c2 fr w' ?_) (by simp) ho htt hd he ht hx hy
 ·grind
 simp_all
def Ew{U:Type}{l r:List U}{n:Int}{q:U}(h:set? l n q=some r):n.toNat<l.length/\r=l.set n.toNat q:=by
 grind[set?,Option.some.inj]
def Efst{r:List Int}{a2:Option Addr}{c2:Nat}(i j l:Nat)(c:Cx B N Z Γ Φ a w)(hep:EP Hd v n p)(hl0:rs.length=xs.length)(hz:set? xs n r=some ys)
  (h:∀fr w',Cx B N Z (rest [i,j,l] Γ++[SL E v (rs.set n.toNat ⟨a2,List.length r,c2⟩),HP.all (ownL E') (rs.set n.toNat ⟨a2,List.length r,c2⟩) ys]) Φ fr w'->wpFrom P ops Q (k+1) fr w')(hi:Γ[i]? =some (SL E v rs):=by rfl)(hj:Γ[j]? =some (HP.but (ownL E') n.toNat rs xs):=by rfl)(hl:Γ[l]? =some (TL E' (.slice a2 (List.length r) c2) r):=by rfl)
  (hne:[i,j,l].Nodup:=by decide)(ho:ops[k]? =some ⟨none,.store E x z,ty,pos,af,none⟩:=by rfl)(he:Ty P E Hd:=by constructor<;>kernel_rfl)(hp:opd Z x=some (.pointer (some p)):=by kernel_rfl)(hq:opd Z z=some (.slice a2 (List.length r) c2):=by kernel_rfl):wpFrom P ops Q k a w:=by
 obtain⟨hlt,rfl⟩:=Ew hz;obtain⟨hF,S,F,hM,hs,hf⟩:=c;have hs:=hs.part [i,j,l] (Γ1:=[SL E v rs,HP.but (ownL E') n.toNat rs xs,TL E' (.slice a2 (List.length r) c2) r]) (by simp_all) hne;obtain⟨A,hok,hup⟩:=Sep.upd 0 hs rfl hM;rcases hok with⟨go,hown⟩|⟨rfl,_,_⟩
 ·obtain⟨g,w',hgo,⟨cc,hv⟩,hrun,g1,g2⟩:=hown.set_run (P:=P) he (Fr:=Non) (u:=Rep.val Hd (Flat.enc (⟨a2,List.length r,c2⟩:Hd))) (x:=(⟨a2,List.length r,c2⟩:Hd)) ⟨_,Flat.iff.2 rfl,rfl⟩ (Fu:=Non) Sm (λ_ _ h=>h.elim) (n:=n.toNat) (by omega);obtain⟨ad,len,cap,e1,rfl,_⟩:=hep;rw[hv]at e1;obtain⟨e2,_,_⟩:=Value.slice.inj e1;cases e2;obtain⟨S',hpp,hs'⟩:=hup (P':=SL E v (rs.set n.toNat ⟨a2,List.length r,c2⟩)) (g2.mono λk hk=>hown.inG hk) (.inl ⟨go,g1.regard λk _ hk=>.inl hk⟩);refine UM hF ho rfl rfl (R:=λ_ w2=>w2=w') (Ud ?_ rfl) λw2 hw2 hF2=>?_
  ·have hq':opd Z z=some (Rep.val Hd (Flat.enc (⟨a2,List.length r,c2⟩:Hd))):=hq;simp[execOp,Instr.storeAt,Zg hF hp,Zg hF hq',Instr.sureAddr,hrun]
  ·obtain⟨_,rfl⟩:=hw2;refine h _ _ ⟨hF2,S',F,hM.stp hpp,ZL (Γ2:=[_,_]) ?_,hf.chg hpp.chg λk hk hS=>hM.dj k hS hk⟩;have eb:HP.but (ownL E') n.toNat rs xs=HP.but (ownL E') n.toNat (rs.set n.toNat ⟨a2,List.length r,c2⟩) xs:=by
    simp[HP.but,List.take_set_of_le,Zb0,List.drop_set_of_lt]
   rw[eb]at hs';exact hs'.under λ_ h=>h.swap.fill (by rw[ZdF];exact hl0) (by rw[List.getElem?_set_self (by omega)]) (by omega)
 grind
end
section
variable{U:Type}[Rep U]{w:World}{F:Nat->Prop}{b:Option Addr}{n0 c:Nat}{l r:List U}{n:Int}
def Jj(h:RV w F (.slice b n0 c) l)(hr:cut? l 0 n=some r):RV w F (.slice b (List.length r) c) r/\0<=n/\n<=(c:Int)/\r.length=n.toNat:=by
 unfold cut? at hr;split at hr
 ·rename_i hn;simp only[ZeL,ZcT,Option.some.injEq]at hr;obtain⟨_,hn1,hn2⟩:=hn;have hlen:r.length=n.toNat:=by rw[<-hr,Zb2];omega
  obtain⟨a',c',hv,h1,h2,h3⟩:=h.slice;simp only[Value.slice.injEq]at hv;obtain⟨rfl,rfl,rfl⟩:=hv;refine⟨RV.mk_slice (by omega) h2 λhl=>?_,hn1,by omega,hlen⟩;obtain⟨ad,e1,e2,e3⟩:=h3 λe=>hl (by rw[<-hr,e];simp);refine⟨ad,e1,e2,SA λi x hx=>Vt e3 ?_⟩;rw[<-hr,Zci]at hx;split at hx
  ·exact hx
  ·cases hx
 ·cases hr
end
section
variable{P:Program}{B:Bs}{N:Nat}{Z:List (Nat×Value)}{Γ:List HP}{Φ:List RF}{a:Act}{w:World}{Q:Exit->Act->World->Prop}{draw:Bool}{ms:List Nat}{ops:Array Oper}{pds:List Pd}{j:Nat}{dst:Option Tmp}{t ty:TypeId}{x:Operand}{pos:String}{af:Array Edge}{g:Option (Nat×Bool)}
def Ava.front{U:Type}[Rep U]{b:Option Addr}{n0 cp:Nat}{l r:List U}{n:Int}(hr:cut? l 0 n=some r)(h:Ava Γ Φ w (RO (.slice b n0 cp) l)):Ava Γ Φ w (RO (L b r cp) r):=λS F hs hf=>(Jj (h S F hs hf) hr).1
def Nsf{U:Type}[Rep U]{e:TypeId}{b:Option Addr}{n0 cp:Nat}{l r:List U}{n:Int}{hi:Operand}(c:Cx B N Z Γ Φ a w)(hl:Ava Γ Φ w (RO (.slice b n0 cp) l))(hr:cut? l 0 n=some r)(ho:ops[j]? =some ⟨dst,.slice t x none (some hi) none,ty,pos,af,g⟩:=by rfl)(ht:P.underlying t=some (.slice e):=by rfl)(he:Ty P e U:=by constructor<;>kernel_rfl)(hx:envP ops Z pds j x=some (.slice b n0 cp):=by kernel_rfl)(hy:numOf (envP ops Z pds j hi)=some n:=by kernel_rfl)(hG:Good ops pds [])(hpd:pds.getD j .any= .eq (L b r cp)):NPB P draw ms ops pds a w Q j:=by
 obtain⟨F,hl⟩:=c.use hl;obtain⟨kd,hy⟩:=Yk hy;obtain⟨-,h1,h2,h3⟩:=Jj hl hr;refine TI _ ho hG c.fr λa' w' hC hg hv _=>Zi (v:=.slice b n.toNat cp) (w':=w') ?_ ⟨?_,Chg.refl _ _⟩
 ·have hadd:b.map (λx=>x.add 0)=b:=by cases b<;>simp[Addr.add]
  have e1:=hv x _ (by simp[Op.operands]) hx;have e2:=hv hi _ (by simp[Op.operands]) hy;simp[execOp,Instr.sliceAt,Instr.slice,Instr.sliceBounds,Instr.sliceBound,asIntOf,e1,e2,run_underlying ht,he.sizeOf,h1,h2,hadd]
 ·rw[hpd,<-h3];rfl
end
section
variable{P:Program}{Q:Exit->Act->World->Prop}{w:World}{N:Nat}
def seqZ (P:Program)(N:Nat)(ops:Array Oper):List (Int×Int×Int)->List Nat->List (Nat×Value)->Option (List (Nat×Value)×List (Value×Value))
  |_,[],Z=>some (Z,[])
  | zs,i::is,Z=>
    match ops[i]? with
    | some o=>
      (match o.guard,o.dst with| none, some d=>if decide (d<N)then(match o.op with| .binOp .shl _ x y _=>(match zs,opd Z x,opd Z y with|(m,n,z)::zs,some u,some v=>(seqZ P N ops zs is ((d,.int .i64 z)::Z)).map λl=>(l.1,(u,.int .i64 m)::(v,.int .i64 n)::l.2)|_,_,_=>none)| _=>(match pe P (opd Z) o.op with|some v=>seqZ P N ops zs is ((d,v)::Z)|none=>none))else none|_,_=>none)
    |none=>none
theorem NA{fuel:Nat}{ops:Array Oper}(hns:Region.noSelect ops=true)(hQ:∀c a d v w,Q (.panic c) (Act.put a (some d) v) w->Q (.panic c) a w):
  ∀(is:List Nat)(zs:List (Int×Int×Int))(e:List (Value×Value))(L:Array Bool)(Z σ1:List (Nat×Value))(a:Act),FrS N Z a->takesB ops L is=true->AllP (λq=>shl? q.1 q.2.1=some q.2.2) zs->seqZ P N ops zs is Z=some (σ1,e)->e.map (·.1)=e.map (·.2)->
   (∀a',FrS N σ1 a'->wpAny P .any ops Q fuel (is.foldl (λL i=>L.setIfInBounds i true) L) a' w)->wpAny P .any ops Q (fuel+is.length) L a w
 |[],zs,e,L,Z,σ1,a,hF,_,_,hq,_,h=>by
  simp only[seqZ,Option.some.injEq,Prod.mk.injEq]at hq;obtain⟨rfl,_⟩:=hq;exact h a hF
 | i :: is,zs,e,L,Z,σ1,a,hF,ht,hz,hq,he,h=>by
  simp only[takesB,Zbt]at ht;obtain⟨⟨h1,h2⟩,h3⟩:=ht;unfold seqZ at hq;split at hq
  ·rename_i o ho;split at hq
   ·rename_i d hg hd;split at hq
    ·rename_i hdN;have hdN:=of_decide_eq_true hdN;have go:∀(v:Value)(zs':List (Int×Int×Int))(e':List (Value×Value)),(∀w,(execOp a.eval o).run P w= .ok (.value v) w)->AllP (λq=>shl? q.1 q.2.1=some q.2.2) zs'->seqZ P N ops zs' is ((d,v)::Z)=some (σ1,e')->e'.map (·.1)=e'.map (·.2)->
       wpAny P .any ops Q (fuel+(i::is).length) L a w:=by
      intro v zs' e' hrun hz' hq' he';have hw:Region.wanted o (yielded ops a.tmps)=true:=by simp[Region.wanted,hg]
      have hy:Yields P ops o v a:=.inl ⟨hw,hrun⟩;refine wpAny_take (fuel:=fuel+is.length) ho hns h1 h2 (λc a w=>by rw[hd];exact hQ c a d v w) hy ?_;rw[hd];exact NA hns hQ is zs' e' _ _ σ1 _ (hF.put hdN v) h3 hz' hq' he' h
     split at hq
     ·rename_i t x y yt hop;split at hq
      ·rename_i m n z zs' u v hx hy;cases hq2:seqZ P N ops zs' is ((d,.int .i64 z)::Z)with
       |none=>rw[hq2]at hq;cases hq
       |some e'=>
        rw[hq2]at hq;simp only[ZbF,Option.some.injEq,Prod.mk.injEq]at hq;obtain⟨g1,hq⟩:=hq;subst hq;simp only[Zb1,List.cons.injEq]at he;obtain⟨rfl,rfl,he⟩:=he;obtain⟨hz1,hz2⟩:=hz;refine go _ zs' e'.2 (λw=>?_) hz2 (by rw[hq2,<-g1]) he;have:=MX (P:=P) (kd:=.i64) hz1 t w;simp only[execOp,hop,Zg hF hx,Zg hF hy];simp[eqGuard,this]
      ·cases hq
     ·split at hq
      ·rename_i v hv;exact go v zs e (λw=>Sa (P:=P) (ρ':=a.eval) (λx u hx=>Zg hF hx) hv w) hz hq he
      ·cases hq
    ·cases hq
   ·cases hq
  ·cases hq
variable{B:Bs}{Z:List (Nat×Value)}{Γ:List HP}{Φ:List RF}{a:Act}
theorem AtZ{ops:Array Oper}{L:Array Bool}(fuel:Nat)(is:List Nat)(zs:List (Int×Int×Int))(hz:AllP (λq=>shl? q.1 q.2.1=some q.2.2) zs)(σ':List (Nat×Value))(c:Cx B N Z Γ Φ a w)(h:∀a',Cx B N σ' Γ Φ a' w->wpAny P .any ops Q fuel (is.foldl (λL i=>L.setIfInBounds i true) L) a' w)(hns:Region.noSelect ops=true:=by kernel_rfl)(ht:takesB ops L is=true:=by kernel_rfl)
  (hs:(seqZ P N ops zs is Z).map (λs=>(σ'.map λp=>s.1.lookup p.1,s.2.map (·.1)))=some (σ'.map λp=>some p.2,((seqZ P N ops zs is Z).map (λs=>s.2.map (·.2))).getD []):=by kernel_rfl)(hQ:∀c a d v w,Q (.panic c) (Act.put a (some d) v) w->Q (.panic c) a w:=by exact λ_ _ _ _ _ h=>h):wpAny P .any ops Q (fuel+is.length) L a w:=by
 cases hq:seqZ P N ops zs is Z with
 |none=>rw[hq]at hs;cases hs
 |some s=>
  rw[hq]at hs;simp only[ZbF,ZbY,Option.some.injEq,Prod.mk.injEq]at hs;exact NA hns hQ is zs s.2 L Z s.1 a c.fr ht hz hq hs.2 λa' hF'=>h a' (c.to (hF'.sub σ' hs.1))
end
section
variable{P:Program}{B:Bs}{N:Nat}{Z:List (Nat×Value)}{Γ:List HP}{Φ:List RF}{a a':Act}{w w':World}{Q:Exit->Act->World->Prop}{K:Act->World->Prop}{ι:Type}{R:ι->Res}{fn:Func}
def Pi{id:Nat}{ops:Array Oper}{b:Code}(hs:List (Nat×Nat))(c:Cx B N Z Γ Φ a w)(h:∀{fr},Cx B N ((seqB P N (bxsOf Γ Φ) hs 0 ops.toList Z).getD ([],[])).1 Γ Φ fr w->b.wp P Q fr w)
  (hk:(seqB P N (bxsOf Γ Φ) hs 0 ops.toList Z).map (λr=>r.2.map (·.1))=some (((seqB P N (bxsOf Γ Φ) hs 0 ops.toList Z).map (λr=>r.2.map (·.2))).getD []):=by kernel_rfl):(Code.seq (.region id ops false) b).wp P Q a w:=P0 hs c (λ_=>h) hk
def Pe{id:Nat}{ops:Array Oper}{b:Code}(c:Cx B N Z Γ Φ a w)(h:∀{fr},Cx B N ((seqB P N (bxsOf Γ Φ) [] 0 ops.toList Z).getD ([],[])).1 Γ Φ fr w->b.wp P Q fr w)
  (hk:(seqB P N (bxsOf Γ Φ) [] 0 ops.toList Z).map (λr=>r.2.map (·.1))=some (((seqB P N (bxsOf Γ Φ) [] 0 ops.toList Z).map (λr=>r.2.map (·.2))).getD []):=by kernel_rfl):(Code.seq (.region id ops false) b).wp P Q a w:=P0 [] c (λ_=>h) hk
def Pj{id:Nat}{ops:Array Oper}(hs:List (Nat×Nat))(c:Cx B N Z Γ Φ a w)(h:∀{fr},Cx B N ((seqB P N (bxsOf Γ Φ) hs 0 ops.toList Z).getD ([],[])).1 Γ Φ fr w->K fr w)
  (hk:(seqB P N (bxsOf Γ Φ) hs 0 ops.toList Z).map (λr=>r.2.map (·.1))=some (((seqB P N (bxsOf Γ Φ) hs 0 ops.toList Z).map (λr=>r.2.map (·.2))).getD []):=by kernel_rfl):(Code.region id ops false).wp P (Exit.then K Q) a w:=P1 hs c (λ_=>h) hk
def Fi{ops:Array Oper}{k:Nat}(hs:List (Nat×Nat))(m:Nat)(c:Cx B N Z Γ Φ a w)(h:∀{fr},Cx B N ((seqB P N (bxsOf Γ Φ) hs k ((ops.toList.drop k).take m) Z).getD ([],[])).1 Γ Φ fr w->wpFrom P ops Q (k+m) fr w)
  (hk:(seqB P N (bxsOf Γ Φ) hs k ((ops.toList.drop k).take m) Z).map (λr=>r.2.map (·.1))=some (((seqB P N (bxsOf Γ Φ) hs k ((ops.toList.drop k).take m) Z).map (λr=>r.2.map (·.2))).getD []):=by kernel_rfl):wpFrom P ops Q k a w:=Fp hs m c (λ_=>h) hk
def Fe{ops:Array Oper}{k:Nat}(m:Nat)(c:Cx B N Z Γ Φ a w)(h:∀{fr},Cx B N ((seqB P N (bxsOf Γ Φ) [] k ((ops.toList.drop k).take m) Z).getD ([],[])).1 Γ Φ fr w->wpFrom P ops Q (k+m) fr w)
  (hk:(seqB P N (bxsOf Γ Φ) [] k ((ops.toList.drop k).take m) Z).map (λr=>r.2.map (·.1))=some (((seqB P N (bxsOf Γ Φ) [] k ((ops.toList.drop k).take m) Z).map (λr=>r.2.map (·.2))).getD []):=by kernel_rfl):wpFrom P ops Q k a w:=Fp [] m c (λ_=>h) hk
def F1{ops:Array Oper}{k:Nat}(c:Cx B N Z Γ Φ a w)(h:∀{fr},Cx B N ((seqB P N (bxsOf Γ Φ) [] k ((ops.toList.drop k).take 1) Z).getD ([],[])).1 Γ Φ fr w->wpFrom P ops Q (k+1) fr w)
  (hk:(seqB P N (bxsOf Γ Φ) [] k ((ops.toList.drop k).take 1) Z).map (λr=>r.2.map (·.1))=some (((seqB P N (bxsOf Γ Φ) [] k ((ops.toList.drop k).take 1) Z).map (λr=>r.2.map (·.2))).getD []):=by kernel_rfl):wpFrom P ops Q k a w:=Fp [] 1 c (λ_=>h) hk
def Wt{t:Tmp}{v:Value}(c:Cx B N Z Γ Φ a w)(i:ι)(gs fs:List Nat)(hr:fn.results= #[.tmp t]:=by rfl)(hv:(R i).1=[v]:=by rfl)(hl:Z.lookup t=some v:=by kernel_rfl)(hg:gs.map (λj=>Γ[j]?)=(R i).2.1.map some:=by rfl)(hf:fs.map (λj=>Φ[j]?)=(R i).2.2.map some:=by rfl)
  (hn:gs.Nodup:=by decide):Code.ret.wp P (bodyPost P fn (Rp B R)) a w:=wp_ret (Rt c i gs fs hr hv hl hg hf hn)
end
end Go.GL
end
