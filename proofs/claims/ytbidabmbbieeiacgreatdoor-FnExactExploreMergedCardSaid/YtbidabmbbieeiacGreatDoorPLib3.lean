/- Texts of this claim put into one: library or plain laws, without the program under test. -/
import Derived.Test.YtbidabmbbieeiacGreatDoorPLib2
set_option linter.unusedSimpArgs false
set_option linter.unusedVariables false
section
namespace Go.Proofs.YtbidabmbbieeiacGreatDoor
open Go.GL
set_option linter.unusedSimpArgs false
set_option maxRecDepth 100000
section
variable{A:Str→Int→Prop}
theorem Zj9:∀{l:List D.Term}{a:D.Term},aV A a→aL A l→aV A (andT a l).1
 |[],a,ha,_=>ha
 |x::l,a,ha,hl=>by
  unfold andT;split
  ·exact Zj9 (ZcJ (all2 ha (hl x (by simp)))) fun y hy=>hl y (by simp[hy])
  ·exact Zfh
theorem Zka{l:List D.Term}(h:aL A l):aV A (allT l).1:=by
 unfold allT;split
 ·exact Zj9 (ZeF rfl) h
 ·exact Zfh
theorem Zgg{x:D.Term}(hx:aV A x):∀{a b l:List D.Term},mwT x a b=some l→aL A a→aL A b→aL A l
 |[],_,l,h,_,_=>by
  unfold mwT at h;cases h;exact ZdP
 |t::a,[],l,h,_,_=>by
  unfold mwT at h;cases h;exact ZdP
 | t::a,u::b,l,h,ha,hb=>by
  unfold mwT at h;have ha':aL A a:=fun y hy=>ha y (by simp[hy]);have hb':aL A b:=fun y hy=>hb y (by simp[hy]);split at h
  ·obtain⟨m,hm,rfl⟩:=Zp8.1 h;intro y hy;rcases Zpc.1 hy with rfl|hy
   ·exact ha _ (by simp)
   ·exact Zgg hx hm ha' hb' y hy
  ·split at h
   ·obtain⟨m,hm,rfl⟩:=Zp8.1 h;intro y hy;rcases Zpc.1 hy with rfl|hy
    ·exact ZcJ (all3 hx (ha _ (by simp)) (hb _ (by simp)))
    ·exact Zgg hx hm ha' hb' y hy
   ·cases h
theorem ZjU{l:List D.Term}(h:aL A l)(k:Nat):aL A (l.take k):=fun x hx=>h x (Zqf hx)
theorem ZjB{l:List D.Term}(h:aL A l)(k:Nat):aL A (l.drop k):=fun x hx=>h x (List.mem_of_mem_drop hx)
theorem Zod{a b:D.Path}{n:Nat}{e:D.Term}{R M O:List D.Term}(ha:vP A a)(he:aV A e)(hR:aL A R)(hM:aL A M)(hO:aL A O):vP A (mgo a b n e R M O):=by
 refine⟨hR,hM,hO,?_⟩;show aL A (cnd a n e);unfold cnd;split
 ·exact ZjU ha.cd _
 ·exact Zh5 (ZjU ha.cd _) he
theorem ZnV{p:D.Program}{a b:D.Path}(h:(mgP p a b).2=true)(ha:vP A a)(hb:vP A b):vP A (mgP p a b).1∧∃k,(mgP p a b).1.Turns=a.Turns.take k:=by
 unfold mgP at h⊢
 repeat' split at h
 all_goals first|(cases h;done)|skip
 rename_i c1 c2 c3 _ _ _ _ _ _ m1 m2 m3;rw[ZoD c1,ZoD c2,ZoD c3];have hx:=Zka (ZjB ha.cd (cmn sameB a.Cond b.Cond));have hy:=Zka (ZjB hb.cd (cmn sameB a.Cond b.Cond));exact⟨Zod ha (ZcJ (all2 hx hy)) (Zgg hx m1 ha.rg hb.rg) (Zgg hx m2 ha.mm hb.mm) (Zgg hx m3 ha.ot hb.ot),_,rfl⟩
end
theorem Zh1{w:Int}{l:List D.Term}(h:tsB l w=true):fw w l:=fun t ht=>⟨ZeA (Zer h ht).1,(Zer h ht).2⟩
theorem Zmn{p:D.Program}{s:D.Path}(h:pathB p s=true):progB p=true∧okP p s:=by
 unfold pathB at h;simp only[ZoB,ZoJ,Zpf]at h;simp only[Zb]at h;obtain⟨⟨⟨⟨⟨⟨⟨⟨⟨⟨⟨⟨⟨⟨⟨⟨h1,h2⟩,h3⟩,h4⟩,h5⟩,h6⟩,h7⟩,h8⟩,h9⟩,h10⟩,h11⟩,h12⟩,h13⟩,h14⟩,h15⟩,h16⟩,h17⟩:=h;rw[ZoK]at h12;have h12':∀x∈s.Stack,0≤x∧x≤len p.Code:=fun x hx=>of_decide_eq_true (h12 x hx);exact⟨h1,by rw[Zb];exact h2,by omega,Zh1 h14,h4,Zh1 h15,by omega,h12',h6,by omega,Zh1 h16,h8,h9,by omega,Zh1 h17,by omega⟩
theorem gP.merge{p:D.Program}{a b:D.Path}(ha:gP p a)(hb:gP p b)(h:(mgP p a b).2=true):gP p (mgP p a b).1:=by
 obtain⟨h1,k,h2⟩:=ZnV h ha.vs hb.vs;refine⟨(Zmn (ZmF h)).2,h1,fun x hx=>?_⟩;rw[h2]at hx;exact ha.tn x (Zqf hx)
theorem Zme{p:D.Program}{a b:D.Path}(hp:progB p=true)(ha:gP p a)(hb:gP p b):mgR p a b=if(mgP p a b).2=true then((mgP p a b).1,true)else(pz,false):=by
 unfold mgR;simp only[ha.path hp,hb.path hp,Zrk]
theorem Zgs{p:D.Program}{a b:D.Path}(hp:progB p=true)(hl:p.Code.length≤1048576)(ha:gP p a)(hb:gP p b):YK fuel p a b=some (if(mgP p a b).2=true then((mgP p a b).1,true)else(pz,false)):=by
 rw[Zjk hl (Zb9 (ha.ok.fine hp)) (Zb9 (hb.ok.fine hp)),Zme hp ha hb]
theorem ZfM{p:D.Program}{a b:D.Path}(hp:progB p=true)(hl:p.Code.length≤1048576)(ha:gP p a)(hb:gP p b):YL fuel p a b=some (mgP p a b):=by
 have h1:=ha.ok.rl;have h2:=hb.ok.rl;have h3:=ha.ok.ml;have h4:=hb.ok.ml;exact ZiD hl (ha.ok.fine hp) (hb.ok.fine hp) (by omega) (by omega) ha.ok.cl
theorem gP0{p:D.Program}(hp:progB p=true):gP p (path0 p):=by
 have hk:∀n,aL (InV p) (List.replicate n (kT p.W 0)):=fun n x hx=>by rw[(Zq3.1 hx).2];exact ZlL
 exact⟨ZlO hp,⟨hk _,hk _,ZdP,ZdP⟩,fun x hx=>by cases hx⟩
theorem Zf8{α β:Type}{o:Option α}{K:α→Option β}{R:α→Prop}{X:Option β}(h:∃r,o=some r∧R r)(k:∀r,R r→K r=X):o.bind K=X:=by
 obtain⟨r,rfl,hr⟩:=h;exact k r hr
theorem ZgB{e:List D.Path}{s:D.Path}(h:e.length≤1000):app? e ([s]:List D.Path)=some (e++[s]):=by
 unfold app? room;rw[ZoD (by simp;omega)]
def gL(p:D.Program)(l:List D.Path):Prop:=∀x∈l,gP p x
theorem gL.app{p:D.Program}{l:List D.Path}{s:D.Path}(h:gL p l)(hs:gP p s):gL p (l++[s]):=fun x hx=>by
 rcases ZoZ.1 hx with hx|hx
 ·exact h x hx
 ·rw[ZoM.1 hx];exact hs
def betX(x t:D.Path):Bool:=(decide ((len x.Stack)>(len t.Stack)))||(((len x.Stack)==(len t.Stack))&&(decide (x.Pc<t.Pc)))
theorem ZmR(x t:D.Path):((decide ((len x.Stack)>(len t.Stack)))||(((len x.Stack)==(len t.Stack))&&(decide (x.Pc<t.Pc))))=betX x t:=rfl
def bestX(l:List D.Path):Nat→Nat
 |0=>0
 |k+1=>if betX (l.getD k pz) (l.getD (bestX l k) pz)=true then k else bestX l k
theorem Zc4{l:List D.Path}(hl:l≠[]):∀k,k≤l.length→bestX l k<l.length
 |0,_=>by rw[bestX];exact Zqk.2 hl
 |k+1,h=>by
  rw[bestX];split
  ·omega
  ·exact Zc4 hl k (by omega)
theorem getX{l:List D.Path}{k:Nat}(h:k<l.length):get? l (k:Int)=some (l.getD k pz):=by
 rw[get?_nat,ZoL,ZoE h];rfl
theorem Zit{b:Bool}{i j:Nat}:cond b (i:Int) (j:Int)=((if b=true then i else j:Nat):Int):=by cases b<;>rfl
theorem Zkt{l:List D.Path}(hl:l≠[])(h:l.length≤1000):Zbl fuel l=some (bestX l l.length:Int):=by
 unfold Zbl;rw[Zcb (I:=fun k s=>s=((bestX l k:Int),(k:Int))) (m:=l.length) (r:=(bestX l l.length:Int)) (fun k s hk hs=>?_) (fun s hs=>?_) l.length 0 (0,0) (by omega) rfl fuel (Yb (by omega))]
 ·rfl
 ·subst hs;have hb:=Zc4 hl k (by omega);refine⟨_,?_,rfl⟩;simp only;rw[ZoD (by rw[Zb];simp;omega),getX hk,getX hb];simp only[Zo8];rw[ZmR,Zit,Zm (by omega) (by omega),bestX];rfl
 ·subst hs;simp only;rw[ZoC (by rw[Zb];simp)]
theorem Zkl(x:D.Path):betX x x=false:=by unfold betX;simp
theorem Zko{l:List D.Path}(hl:l≠[])(h:l.length≤1000)(hs:∀x∈l,x.Stack.length≤100):ZaM fuel l=some (bestX l l.length:Int):=by
 have h0:0<l.length:=Zqk.2 hl;have h1:bestX l 1=0:=by rw[bestX,bestX,Zkl];rfl
 have hget:∀k,k<l.length→(l.getD k pz).Stack.length≤100:=fun k hk=>by
  rw[ZoL,ZoE hk];exact hs _ (Zph hk)
 unfold ZaM;rw[Zcb (I:=fun k s=>s=((bestX l (k+1):Int),((k+1:Nat):Int))) (m:=l.length-1) (r:=(bestX l l.length:Int)) (fun k s hk hs=>?_) (fun s hs=>?_) (l.length-1) 0 (0,1) (by omega) (by rw[h1];rfl) fuel (Yb (by omega))]
 ·rfl
 ·subst hs;have hk1:k+1<l.length:=by omega
  have hb:=Zc4 hl (k+1) (by omega);refine⟨_,?_,rfl⟩;simp only;rw[ZoD (by rw[Zb];simp;omega),getX hk1,getX hb];simp only[Zo8,Zb];have a1:=hget (k+1) hk1;have a2:=hget _ hb;have e2:bestX l (k+1+1)=if betX (l.getD (k+1) pz) (l.getD (bestX l (k+1)) pz)=true then k+1 else bestX l (k+1):=by rw[bestX]
  rw[e2];have eb:∀x t:D.Path,betX x t=(decide ((x.Stack.length:Int)>(t.Stack.length:Int))||(((x.Stack.length:Int)==(t.Stack.length:Int))&&decide (x.Pc<t.Pc))):=fun x t=>by unfold betX;rw[Zb,Zb]
  generalize l.getD (k+1) pz=x at a1⊢;generalize l.getD (bestX l (k+1)) pz=t at a2⊢;generalize bestX l (k+1)=m;have ew:w64 ((x.Stack.length:Int)-t.Stack.length)=(x.Stack.length:Int)-t.Stack.length:=Zm (by omega) (by omega);have ei:w64 (((k+1:Nat):Int)+1)=((k+1+1:Nat):Int):=by rw[Zm (by omega) (by omega)];omega
  simp only[ew,ei];by_cases c1:(x.Stack.length:Int)>t.Stack.length
  ·rw[ZoC (show¬(((x.Stack.length:Int)-t.Stack.length)==0)=true by simp;omega)];simp only[ZoC (show¬(((x.Stack.length:Int)-t.Stack.length)==0)=true by simp;omega),Zo8];rw[show decide ((x.Stack.length:Int)-t.Stack.length>0)=true from decide_eq_true (by omega)];rw[show betX x t=true by rw[eb,decide_eq_true c1];rfl];simp only[Zq2,cond_true,ZoO]
  ·by_cases c2:(x.Stack.length:Int)=t.Stack.length
   ·rw[ZoD (show(((x.Stack.length:Int)-t.Stack.length)==0)=true by simp;omega)];simp only[ZoD (show(((x.Stack.length:Int)-t.Stack.length)==0)=true by simp;omega)];rw[show decide ((x.Stack.length:Int)-t.Stack.length>0)=false from decide_eq_false (by omega),show(((x.Stack.length:Int)-t.Stack.length)==0)=true by simp;omega];simp only[Zo9,ZoG,Zo8,ZoW,Zpa];rw[show betX x t=decide (x.Pc<t.Pc) by rw[eb,decide_eq_false c1,c2];simp,Zit]
   ·rw[ZoC (show¬(((x.Stack.length:Int)-t.Stack.length)==0)=true by simp;omega)];simp only[ZoC (show¬(((x.Stack.length:Int)-t.Stack.length)==0)=true by simp;omega),Zo8];rw[show decide ((x.Stack.length:Int)-t.Stack.length>0)=false from decide_eq_false (by omega),show(((x.Stack.length:Int)-t.Stack.length)==0)=false by simp;omega];rw[show betX x t=false by rw[eb,decide_eq_false c1,show((x.Stack.length:Int)==t.Stack.length)=false by simpa using c2];rfl];simp only[ZoW,Zpk,cond_false,Zo9,ZoG]
 ·subst hs;simp only;rw[show l.length-1+1=l.length by omega,ZoC (by rw[Zb];simp)]
noncomputable def tkX(p:D.Program)(k:Nat):Nat→List D.Path→D.Path×List D.Path→D.Path×List D.Path
 |_,[],a=>a
 |j,x::xs,a=>tkX p k (j+1) xs (if j=k then a else if(mgP p a.1 x).2=true then((mgP p a.1 x).1,a.2)else(a.1,a.2++[x]))
structure TkI(p:D.Program)(l:List D.Path)(k:Nat)(R:D.Path×List D.Path)(ys:List D.Path)(a:D.Path×List D.Path):Prop where
 pre:∃pre,pre++ys=l∧a.2.length≤pre.length
 now:gP p a.1
 lst:gL p a.2
 eq:tkX p k (l.length-ys.length) ys a=R
theorem TkI.step{p:D.Program}{l:List D.Path}{k:Nat}{R:D.Path×List D.Path}{x:D.Path}{xs:List D.Path}{a:D.Path×List D.Path}{j:Nat}(h:TkI p l k R (x::xs) a)(hl:gL p l)(hj:l.length=j+(x::xs).length):
  gP p x∧TkI p l k R xs (if j=k then a else if(mgP p a.1 x).2=true then((mgP p a.1 x).1,a.2)else(a.1,a.2++[x]))∧a.2.length≤l.length:=by
 obtain⟨⟨pre,h1,h2⟩,h3,h4,h5⟩:=h;have hx:gP p x:=hl x (by rw[←h1];simp);rw[ZoP]at hj;have h1l:=congrArg List.length h1;simp at h1l;have ej:l.length-(x::xs).length=j:=by rw[ZoP];omega
 have ej':l.length-xs.length=j+1:=by omega
 rw[ej,tkX]at h5;refine⟨hx,⟨⟨pre++[x],by rw[←h1];simp,?_⟩,?_,?_,by rw[ej'];exact h5⟩,by omega⟩
 ·split
  ·simp;omega
  ·split
   ·simp;omega
   ·simp;omega
 ·split
  ·exact h3
  ·split
   ·rename_i c;exact h3.merge hx c
   ·exact h3
 ·split
  ·exact h4
  ·split
   ·exact h4
   ·exact h4.app hx
abbrev encT(j:Nat)(a:D.Path×List D.Path):Int×Int×(List D.Term)×(List D.Term)×(List Int)×Int×(List D.Term)×Int×Int×(List D.Term)×(List Int)×(List D.Path):=((j:Int),a.1.Pc,a.1.Regs,a.1.Mem,a.1.Stack,a.1.In,a.1.Out,a.1.Code,a.1.Steps,a.1.Cond,a.1.Turns,a.2)
noncomputable def tkR(p:D.Program)(l:List D.Path):D.Path×List D.Path:=tkX p (bestX l l.length) 0 l (l.getD (bestX l l.length) pz,[])
theorem Zf2{p:D.Program}{l:List D.Path}{k:Nat}(hl:gL p l):∀(xs:List D.Path)(j:Nat)(a:D.Path×List D.Path),(∀x∈xs,x∈l)→gP p a.1→gL p a.2→gP p (tkX p k j xs a).1∧gL p (tkX p k j xs a).2∧(tkX p k j xs a).2.length≤a.2.length+xs.length
 |[],j,a,_,h1,h2=>by rw[tkX];exact⟨h1,h2,by simp⟩
 | x::xs,j,a,hx,h1,h2=>by
  rw[tkX];have hgx:=hl x (hx x (by simp));have hxs:∀y∈xs,y∈l:=fun y hy=>hx y (by simp[hy]);split
  ·have:=Zf2 (k:=k) hl xs (j+1) a hxs h1 h2;exact⟨this.1,this.2.1,by have:=this.2.2;simp;omega⟩
  ·split
   ·rename_i c;have:=Zf2 (k:=k) hl xs (j+1) ((mgP p a.1 x).1,a.2) hxs (h1.merge hgx c) h2;exact⟨this.1,this.2.1,by have:=this.2.2;simp at this⊢;omega⟩
   ·have:=Zf2 (k:=k) hl xs (j+1) (a.1,a.2++[x]) hxs h1 (h2.app hgx);exact⟨this.1,this.2.1,by have:=this.2.2;simp at this⊢;omega⟩
theorem ZfI{p:D.Program}{l:List D.Path}(hl:gL p l)(hn:l≠[]):gP p (tkR p l).1∧gL p (tkR p l).2∧(tkR p l).2.length≤l.length:=by
 have hb:=Zc4 hn l.length (ZoH _);have hg:gP p (l.getD (bestX l l.length) pz):=by rw[ZoL,ZoE hb];exact hl _ (Zph hb)
 have:=Zf2 (k:=bestX l l.length) hl l 0 (l.getD (bestX l l.length) pz,[]) (fun x hx=>hx) hg (fun x hx=>by cases hx);exact⟨this.1,this.2.1,by have:=this.2.2;unfold tkR;simpa using this⟩
theorem Zkn{p:D.Program}{l:List D.Path}(hp:progB p=true)(hc:p.Code.length≤1048576)(hl:gL p l)(hn:l≠[])(h:l.length≤200):ZaD fuel p l=some (tkR p l):=by
 have hb:=Zc4 hn l.length (ZoH _);have hg:gP p (l.getD (bestX l l.length) pz):=by rw[ZoL,ZoE hb];exact hl _ (Zph hb)
 unfold ZaD tkR;rw[Zkt hn (by omega)];simp only[Zo8];rw[getX hb];simp only[Zo8];generalize bestX l l.length=k at hb hg⊢;generalize l.getD k pz=s at hg⊢;refine Zf8 (R:=fun r=>r=(encT 0 (tkX p k 0 l (s,[]))).2) (ZT (l:=l) encT (TkI p l k (tkX p k 0 l (s,[]))) _ (fun j x xs a hj hx hlen hI=>?_) (fun a hI=>?_) (a:=(s,[])) ⟨⟨[],rfl,by simp⟩,hg,fun x hx=>(by cases hx),by simp⟩ (Yb (by omega))) fun r hr=>?_
 ·obtain⟨hgx,hI2,hal⟩:=hI.step hl hlen;left;refine⟨_,?_,hI2⟩;have hst:=hI.now.ok.sl;have ew:w64 ((j:Int)+1)=((j+1:Nat):Int):=by rw[Zm (by omega) (by omega)];rfl
  rw[ZoD (by rw[Zb];simp;omega),get?_nat,hx];simp only[Zo8,ew];by_cases cj:j=k
  ·rw[ZoD (by simp;omega),ZoD cj]
  ·rw[ZoC (by simp;omega),ZoC cj];rw[show(D.Path.mk a.1.Pc a.1.Regs a.1.Mem a.1.Stack a.1.In a.1.Out a.1.Code a.1.Steps a.1.Cond a.1.Turns)=a.1 from rfl,Zi7 (by omega)];simp only[Zo8];by_cases ca:alk a.1 x=true
   ·rw[ZoD ca,Zgs hp hc hI.now hgx];simp only[Zo8];by_cases cm:(mgP p a.1 x).2=true
    ·rw[ZoD cm,ZoD cm,ZoD rfl]
    ·rw[ZoC cm,ZoC cm,ZoC (by simp),ZgB (by omega)];rfl
   ·rw[ZoC ca,Zja (by unfold shp;rw[show alk a.1 x=false by simpa using ca];rfl),ZoC (by simp),ZgB (by omega)];rfl
 ·rw[ZoC (by rw[Zb];simp)];have:=hI.eq;rw[Zpv,ZqJ,tkX]at this;exact⟨_,rfl,by rw[←this]⟩
 ·rw[hr]
theorem Zjm{p:D.Program}{l:List D.Path}(hp:progB p=true)(hc:p.Code.length≤1048576)(hl:gL p l)(hn:l≠[])(h:l.length≤200):Xy fuel p l=some ((tkR p l).2,stp1 p (tkR p l).1):=by
 have hb:=Zc4 hn l.length (ZoH _);have hg:gP p (l.getD (bestX l l.length) pz):=by rw[ZoL,ZoE hb];exact hl _ (Zph hb)
 have hR:=(ZfI hl hn).1;unfold Xy;unfold tkR at hR⊢;rw[Zko hn (by omega) (fun x hx=>by have:=(hl x hx).ok.sl;omega)];simp only[Zo8];rw[getX hb];simp only[Zo8];generalize bestX l l.length=k at hb hg hR⊢;generalize l.getD k pz=s at hg hR⊢;refine Zf8 (R:=fun r=>r=(encT 0 (tkX p k 0 l (s,[]))).2) (ZT (l:=l) encT (TkI p l k (tkX p k 0 l (s,[]))) _ (fun j x xs a hj hx hlen hI=>?_) (fun a hI=>?_) (a:=(s,[])) ⟨⟨[],rfl,by simp⟩,hg,fun x hx=>(by cases hx),by simp⟩ (Yb (by omega))) fun r hr=>?_
 ·obtain⟨hgx,hI2,hal⟩:=hI.step hl hlen;left;refine⟨_,?_,hI2⟩;have ew:w64 ((j:Int)+1)=((j+1:Nat):Int):=by rw[Zm (by omega) (by omega)];rfl
  rw[ZoD (by rw[Zb];simp;omega)];simp only[ew];by_cases cj:j=k
  ·rw[ZoD (by simp;omega),ZoD cj]
  ·rw[ZoC (by simp;omega),ZoC cj,get?_nat,hx];simp only[Zo8];rw[show(D.Path.mk a.1.Pc a.1.Regs a.1.Mem a.1.Stack a.1.In a.1.Out a.1.Code a.1.Steps a.1.Cond a.1.Turns)=a.1 from rfl,ZfM hp hc hI.now hgx];simp only[Zo8];by_cases cm:(mgP p a.1 x).2=true
   ·rw[ZoD cm,ZoD cm]
   ·rw[ZoC cm,ZoC cm,ZgB (by omega)];rfl
 ·rw[ZoC (by rw[Zb];simp)];have:=hI.eq;rw[Zpv,ZqJ,tkX]at this;exact⟨_,rfl,by rw[←this]⟩
 ·rw[hr];show((ZaY fuel p (tkX p k 0 l (s,[])).1).bind _)=_;rw[ZkA hp hR.ok];rfl
theorem Zhx{S ρ σ:Type}{B:S→Option (S⊕ρ)}(enc:Nat→σ→S)(I:Nat→σ→Prop)(R:ρ→Prop)
  (hs:∀d a,I d a→(∃d' a',d'<d∧B (enc d a)=some (.inl (enc d' a'))∧I d' a')∨∃r,B (enc d a)=some (.inr r)∧R r):∀(d:Nat)(a:σ)(n:Nat),I d a→d<n→∃r,iterN B n (enc d a)=some r∧R r
 | d,a,n,hI,hn=>by
  obtain⟨n,rfl⟩:∃m,n=m+1:=⟨n-1,by omega⟩;rcases hs d a hI with⟨d',a',h1,h2,h3⟩|⟨r,h1,h2⟩
  ·obtain⟨r,g1,g2⟩:=Zhx enc I R hs d' a' n h3 (by omega);exact⟨r,by rw[iterN,h2];exact g1,g2⟩
  ·exact⟨r,by rw[iterN,h1],h2⟩
def opn(t:D.Path):Bool:=(t.Code==0)&&decide (t.Steps<400)
def ptX(a:List D.Path×List D.Path)(t:D.Path):List D.Path×List D.Path:=if opn t=true then(a.1,a.2++[t])else(a.1++[t],a.2)
theorem ZhU{F:D.Path→Option Bool}(hF:∀t,F t=some (opn t)){l e o:List D.Path}(hl:l.length≤2)(he:e.length≤500)(ho:o.length≤500):iterN (fun(s2:Int×(List D.Path)×(List D.Path))=>if(decide (s2.1<(len l)))then(get? l s2.1).bind fun x7=>(F x7).bind fun x8=>if x8 then(app? s2.2.2 ([x7]:List D.Path)).bind fun x9=>some (.inl ((w64 (s2.1+1)),s2.2.1,x9))else(app? s2.2.1 ([x7]:List D.Path)).bind fun x10=>some (.inl ((w64 (s2.1+1)),x10,s2.2.2))else some (.inr (s2.2.1,s2.2.2))) fuel (0,e,o)=some (l.foldl ptX (e,o)):=by
  have:∃r,iterN (fun(s2:Int×(List D.Path)×(List D.Path))=>if(decide (s2.1<(len l)))then(get? l s2.1).bind fun x7=>(F x7).bind fun x8=>if x8 then(app? s2.2.2 ([x7]:List D.Path)).bind fun x9=>some (.inl ((w64 (s2.1+1)),s2.2.1,x9))else(app? s2.2.1 ([x7]:List D.Path)).bind fun x10=>some (.inl ((w64 (s2.1+1)),x10,s2.2.2))else some (.inr (s2.2.1,s2.2.2))) fuel (0,e,o)=some r∧r=l.foldl ptX (e,o):=
    ZT (l:=l) (fun j(a:List D.Path×List D.Path)=>((j:Int),a.1,a.2)) (fun ys a=>ys.foldl ptX a=l.foldl ptX (e,o)∧a.1.length+ys.length≤502∧a.2.length+ys.length≤502) (fun r=>r=l.foldl ptX (e,o))
      (fun j x xs a hj hx hlen⟨h1,h2,h3⟩=>by
        rw[ZoP]at h2 h3;rw[ZoD (by rw[Zb];simp;omega),get?_nat,hx];simp only[Zo8,hF];rw[Zqo]at h1;have ew:w64 ((j:Int)+1)=((j+1:Nat):Int):=by rw[Zm (by omega) (by omega)];rfl
        left;refine⟨ptX a x,?_,h1,?_,?_⟩
        · unfold ptX
          by_cases c:opn x=true
          · rw[ZoD c,ZoD c,ZgB (by omega)];simp only[Zo8,ew]
          · rw[ZoC c,ZoC c,ZgB (by omega)];simp only[Zo8,ew]
        · unfold ptX;split<;>simp<;>omega
        · unfold ptX;split<;>simp<;>omega)
      (fun a⟨h1,_,_⟩=>by
        rw[ZoC (by rw[Zb];simp)];rw[List.foldl_nil]at h1
        exact⟨_,rfl,h1⟩) (a:=(e,o)) ⟨rfl,by simp;omega,by simp;omega⟩ (Yb (by omega))
  obtain⟨r,h1,rfl⟩:=this;exact h1
theorem Zdk{p:D.Program}:∀(l:List D.Path)(a:List D.Path×List D.Path),gL p l→gL p a.1→gL p a.2→gL p (l.foldl ptX a).1∧gL p (l.foldl ptX a).2∧(l.foldl ptX a).1.length≤a.1.length+l.length∧(l.foldl ptX a).2.length≤a.2.length+l.length
 |[],a,_,h1,h2=>⟨h1,h2,by simp,by simp⟩
 | x::l,a,hl,h1,h2=>by
  rw[Zqo];have hx:=hl x (by simp);have hl':gL p l:=fun y hy=>hl y (by simp[hy]);by_cases c:opn x=true
  ·rw[show ptX a x=(a.1,a.2++[x]) by unfold ptX;rw[ZoD c]];have:=Zdk l (a.1,a.2++[x]) hl' h1 (h2.app hx);exact⟨this.1,this.2.1,by have:=this.2.2.1;simp at this⊢;omega,by have:=this.2.2.2;simp at this⊢;omega⟩
  ·rw[show ptX a x=(a.1++[x],a.2) by unfold ptX;rw[ZoC c]];have:=Zdk l (a.1++[x],a.2) hl' (h1.app hx) h2;exact⟨this.1,this.2.1,by have:=this.2.2.1;simp at this⊢;omega,by have:=this.2.2.2;simp at this⊢;omega⟩
noncomputable def rdX(p:D.Program):Nat→List D.Path→List D.Path→Option (List D.Path×List D.Path)
 |0,o,e=>some (o,e)
 |k+1,o,e=>if o.isEmpty=true then some (o,e)else
  if((stp1 p (tkR p o).1).foldl ptX (e,(tkR p o).2)).2.length>64∨((stp1 p (tkR p o).1).foldl ptX (e,(tkR p o).2)).1.length>64 then none else rdX p k ((stp1 p (tkR p o).1).foldl ptX (e,(tkR p o).2)).2 ((stp1 p (tkR p o).1).foldl ptX (e,(tkR p o).2)).1
structure RdI(p:D.Program)(R:Option (List D.Path×List D.Path))(d:Nat)(a:List D.Path×List D.Path):Prop where
 og:gL p a.1
 eg:gL p a.2
 ol:a.1.length≤64
 el:a.2.length≤64
 eq:rdX p d a.1 a.2=R
theorem RdI.good{p:D.Program}{R:Option (List D.Path×List D.Path)}{d:Nat}{a:List D.Path×List D.Path}(hp:progB p=true)(h:RdI p R d a)(hn:a.1≠[]):gP p (tkR p a.1).1∧gL p (tkR p a.1).2∧(tkR p a.1).2.length≤64∧gL p (stp1 p (tkR p a.1).1):=by
 obtain⟨h1,h2,h3⟩:=ZfI h.og hn;exact⟨h1,h2,by have:=h.ol;omega,h1.step hp⟩
abbrev encR(f:Int)(d:Nat)(a:List D.Path×List D.Path):Int×(List D.Path)×(List D.Path):=(f-(d:Int),a.1,a.2)
def outR(R:Option (List D.Path×List D.Path)):(List D.Path×List D.Path)⊕(List D.Path×Bool):=match R with
 |some q=>.inl q
 |none=>.inr ([],false)
theorem ZjH{p:D.Program}(hp:progB p=true):∀(d:Nat)(o e q1 q2:List D.Path),gL p o→gL p e→o.length≤64→e.length≤64→rdX p d o e=some (q1,q2)→gL p q1∧gL p q2∧q1.length≤64∧q2.length≤64
 |0,o,e,q1,q2,h1,h2,h3,h4,h=>by
  rw[rdX]at h;cases h;exact⟨h1,h2,h3,h4⟩
 |d+1,o,e,q1,q2,h1,h2,h3,h4,h=>by
  rw[rdX]at h;split at h
  ·cases h;exact⟨h1,h2,h3,h4⟩
  rename_i c;have hn:o≠[]:=fun h=>c (by rw[h];rfl);obtain⟨g1,g2,g3⟩:=ZfI h1 hn;split at h
  ·cases h
  rename_i c2;obtain⟨k1,k2,k3,k4⟩:=Zdk (stp1 p (tkR p o).1) (e,(tkR p o).2) (g1.step hp) h2 g2;exact ZjH hp d _ _ q1 q2 k2 k1 (by omega) (by omega) h
theorem Zmj{f:Int}{d:Nat}(hf:f≤400)(hd:(d:Int)+1≤f):w64 (f-((d+1:Nat):Int)+1)=f-(d:Int):=by rw[Zm (by omega) (by omega)];omega
theorem Zif{p:D.Program}{f:Int}(hp:progB p=true)(hc:p.Code.length≤1048576)(hf:0≤f∧f≤400){R:Option (List D.Path×List D.Path)}{d:Nat}{a:List D.Path×List D.Path}(hd:(d:Int)≤f)(hI:RdI p R d a):∃r,iterN (fun(s1:Int×(List D.Path)×(List D.Path))=>if ((decide (s1.1<f))&&(decide ((len s1.2.1)>0)))then(ZaD fuel p s1.2.1).bind fun x5=>(ZaB fuel p x5.1).bind fun x6=>(iterN (fun(s2:Int×(List D.Path)×(List D.Path))=>if(decide (s2.1<(len x6)))then(get? x6 s2.1).bind fun x7=>(Zbg x7).bind fun x8=>if x8 then(app? s2.2.2 ([x7]:List D.Path)).bind fun x9=>some (.inl ((w64 (s2.1+1)),s2.2.1,x9))else(app? s2.2.1 ([x7]:List D.Path)).bind fun x10=>some (.inl ((w64 (s2.1+1)),x10,s2.2.2))else some (.inr (s2.2.1,s2.2.2))) fuel (0,s1.2.2,x5.2)).bind fun(rl2:(List D.Path)×(List D.Path))=>if((decide ((len rl2.2)>64))||(decide ((len rl2.1)>64)))then some (.inr (.inr (([]:List D.Path),false)))else some (.inl ((w64 (s1.1+1)),rl2.2,rl2.1))else some (.inr (.inl (s1.2.1,s1.2.2)))) fuel (encR f d a)=some r∧r=outR R:=by
  refine Zhx (encR f) (fun d a=>RdI p R d a∧(d:Int)≤f) (fun r=>r=outR R) (fun d a⟨hI,hd⟩=>?_) d a fuel ⟨hI,hd⟩ (Yb (by omega));have heq:=hI.eq;cases d with
  | zero=>
    right;rw[rdX]at heq;rw[ZoC (by simp)];exact⟨_,rfl,by rw[←heq];rfl⟩
  | succ d=>
    rw[rdX]at heq;by_cases c:a.1.isEmpty=true
    · right
      rw[ZoD c]at heq;rw[ZoC (by simp[ZpT.1 c,len])];exact⟨_,rfl,by rw[←heq];rfl⟩
    rw[ZoC c]at heq;have hn:a.1≠[]:=fun h=>c (by rw[h];rfl);have hpos:0<a.1.length:=Zqk.2 hn;obtain⟨h1,h2,h3,h4⟩:=hI.good hp hn;obtain⟨k1,k2,k3,k4⟩:=Zdk (stp1 p (tkR p a.1).1) (a.2,(tkR p a.1).2) h4 hI.eg h2;have hol:=hI.ol;have hel:=hI.el;rw[ZoD (by rw[Zb];simp;omega),Zkn hp hc hI.og hn (by omega)];simp only[Zo8];rw[Zkk hp h1.ok];simp only[Zo8];rw[ZhU (F:=Zbg) (fun t=>rfl) (ZjS p _) (by omega) (by omega)];simp only[Zo8];generalize (stp1 p (tkR p a.1).1).foldl ptX (a.2,(tkR p a.1).2)=q at k1 k2 k3 k4 heq⊢;by_cases c2:q.2.length>64∨q.1.length>64
    · right
      rw[ZoD c2]at heq;rw[ZoD (by rw[Zb,Zb];simp;omega)];exact⟨_,rfl,by rw[←heq];rfl⟩
    · left
      rw[ZoC c2]at heq;refine⟨d,(q.2,q.1),by omega,?_,⟨k2,k1,by simp only;omega,by simp only;omega,heq⟩,by omega⟩;rw[ZoC (by rw[Zb,Zb];simp;omega),Zmj hf.2 (by omega)]
theorem ZhX{p:D.Program}{f:Int}(hp:progB p=true)(hc:p.Code.length≤1048576)(hf:0≤f∧f≤400){R:Option (List D.Path×List D.Path)}{d:Nat}{a:List D.Path×List D.Path}(hd:(d:Int)≤f)(hI:RdI p R d a):∃r,iterN (fun(s1:Int×(List D.Path)×(List D.Path))=>if ((decide (s1.1<f))&&(decide ((len s1.2.1)>0)))then(Xy fuel p s1.2.1).bind fun x5=>(iterN (fun(s2:Int×(List D.Path)×(List D.Path))=>if(decide (s2.1<(len x5.2)))then(get? x5.2 s2.1).bind fun x6=>(ZbK x6).bind fun x7=>if x7 then(app? s2.2.2 ([x6]:List D.Path)).bind fun x8=>some (.inl ((w64 (s2.1+1)),s2.2.1,x8))else(app? s2.2.1 ([x6]:List D.Path)).bind fun x9=>some (.inl ((w64 (s2.1+1)),x9,s2.2.2))else some (.inr (s2.2.1,s2.2.2))) fuel (0,s1.2.2,x5.1)).bind fun(rl2:(List D.Path)×(List D.Path))=>if((decide ((len rl2.2)>64))||(decide ((len rl2.1)>64)))then some (.inr (.inr (([]:List D.Path),false)))else some (.inl ((w64 (s1.1+1)),rl2.2,rl2.1))else some (.inr (.inl (s1.2.1,s1.2.2)))) fuel (encR f d a)=some r∧r=outR R:=by
  refine Zhx (encR f) (fun d a=>RdI p R d a∧(d:Int)≤f) (fun r=>r=outR R) (fun d a⟨hI,hd⟩=>?_) d a fuel ⟨hI,hd⟩ (Yb (by omega));have heq:=hI.eq;cases d with
  | zero=>
    right;rw[rdX]at heq;rw[ZoC (by simp)];exact⟨_,rfl,by rw[←heq];rfl⟩
  | succ d=>
    rw[rdX]at heq;by_cases c:a.1.isEmpty=true
    · right
      rw[ZoD c]at heq;rw[ZoC (by simp[ZpT.1 c,len])];exact⟨_,rfl,by rw[←heq];rfl⟩
    rw[ZoC c]at heq;have hn:a.1≠[]:=fun h=>c (by rw[h];rfl);have hpos:0<a.1.length:=Zqk.2 hn;obtain⟨h1,h2,h3,h4⟩:=hI.good hp hn;obtain⟨k1,k2,k3,k4⟩:=Zdk (stp1 p (tkR p a.1).1) (a.2,(tkR p a.1).2) h4 hI.eg h2;have hol:=hI.ol;have hel:=hI.el;rw[ZoD (by rw[Zb];simp;omega),Zjm hp hc hI.og hn (by omega)];simp only[Zo8];rw[ZhU (F:=ZbK) (fun t=>rfl) (ZjS p _) (by omega) (by omega)];simp only[Zo8];generalize (stp1 p (tkR p a.1).1).foldl ptX (a.2,(tkR p a.1).2)=q at k1 k2 k3 k4 heq⊢;by_cases c2:q.2.length>64∨q.1.length>64
    · right
      rw[ZoD c2]at heq;rw[ZoD (by rw[Zb,Zb];simp;omega)];exact⟨_,rfl,by rw[←heq];rfl⟩
    · left
      rw[ZoC c2]at heq;refine⟨d,(q.2,q.1),by omega,?_,⟨k2,k1,by simp only;omega,by simp only;omega,heq⟩,by omega⟩;rw[ZoC (by rw[Zb,Zb];simp;omega),Zmj hf.2 (by omega)]
noncomputable def insX(p:D.Program)(s:D.Path):List D.Path→List D.Path
 |[]=>[s]
 |x::xs=>if(mgP p x s).2=true then(mgP p x s).1::xs else x::insX p s xs
def fndX(p:D.Program)(s:D.Path)(l:List D.Path):Prop:=∃x∈l,(mgP p x s).2=true
theorem Ze9{p:D.Program}{s:D.Path}:∀(pre ys:List D.Path),¬fndX p s pre→insX p s (pre++ys)=pre++insX p s ys
 |[],_,_=>rfl
 |x::pre,ys,h=>by
  rw[Zq9,insX,ZoC (fun hx=>h ⟨x,by simp,hx⟩),Ze9 pre ys (fun⟨y,hy,h2⟩=>h ⟨y,by simp[hy],h2⟩)];rfl
theorem Znu{p:D.Program}{s:D.Path}{l:List D.Path}(h:¬fndX p s l):insX p s l=l++[s]:=by
 have:=Ze9 l [] h;rw[ZpD]at this;rw[this];rfl
theorem Zfb{p:D.Program}{s:D.Path}(hs:gP p s):∀(l:List D.Path),gL p l→gL p (insX p s l)∧(insX p s l).length≤l.length+1
 |[],_=>⟨fun x hx=>by rw[insX,ZoM]at hx;rw[hx];exact hs,by rw[insX];simp⟩
 | x::xs,hl=>by
  have hx:=hl x (by simp);obtain⟨h1,h2⟩:=Zfb hs xs (fun y hy=>hl y (by simp[hy]));rw[insX];split
  ·rename_i c;refine⟨fun y hy=>?_,by simp⟩;rcases Zpc.1 hy with rfl|hy
   ·exact hx.merge hs c
   ·exact hl y (by simp[hy])
  ·refine⟨fun y hy=> ?_,by simp;omega⟩;rcases Zpc.1 hy with rfl|hy
   ·exact hx
   ·exact h1 y hy
theorem Zhc{p:D.Program}{s x:D.Path}{pre:List D.Path}(h:¬fndX p s pre)(hx:¬(mgP p x s).2=true):¬fndX p s (pre++[x]):=fun⟨y,hy,h2⟩=>by
 rcases ZoZ.1 hy with hy|hy
 ·exact h ⟨y,hy,h2⟩
 ·rw[ZoM.1 hy]at h2;exact hx h2
def InsR(p:D.Program)(s:D.Path)(out:List D.Path)(r:Bool×List D.Path):Prop:=(fndX p s out∧r=(true,insX p s out))∨(¬fndX p s out∧r=(false,out))
theorem ZjR{pre xs:List D.Path}{x m:D.Path}{j:Nat}(h:pre.length=j):set? (pre++x::xs) (j:Int) m=some (pre++m::xs):=set_mid (by omega)
theorem Zog{pre xs:List D.Path}{x:D.Path}{j:Nat}(h:pre.length=j):get? (pre++x::xs) (j:Int)=some x:=by
 rw[get?_nat,ZoX (by omega),h,ZpJ];rfl
theorem Zjx{p:D.Program}{s:D.Path}{out:List D.Path}(hp:progB p=true)(hc:p.Code.length≤1048576)(hs:gP p s)(ho:gL p out)(hl:out.length≤100):∃r,iterN (fun(s2:Bool×Int×(List D.Path))=>if(decide (s2.2.1<(len out)))then(get? s2.2.2 s2.2.1).bind fun x2=>(get? s2.2.2 s2.2.1).bind fun x3=>(YL fuel p x3 s).bind fun x4=>if x4.2 then(set? s2.2.2 s2.2.1 x4.1).bind fun x5=>some (.inr (true,x5))else some (.inl (s2.1,(w64 (s2.2.1+1)),s2.2.2))else some (.inr (s2.1,s2.2.2))) fuel (false,0,out)=some r∧InsR p s out r:=
  ZT (l:=out) (fun j(_:Unit)=>(false,(j:Int),out)) (fun ys _=>∃pre,pre++ys=out∧¬fndX p s pre) (InsR p s out)
    (fun j x xs _ hj hx hlen⟨pre,h1,h2⟩=>by
      have hxl:x∈out:=by rw[←h1];simp
      have hpl:pre.length=j:=by
        have:=congrArg List.length h1;simp at this;rw[ZoP]at hlen;omega
      rw[ZoD (by rw[Zb];simp;omega),get?_nat,hx];simp only[Zo8];rw[ZfM hp hc (ho x hxl) hs];simp only[Zo8];by_cases c:(mgP p x s).2=true
      · right
        refine⟨(true,pre++(mgP p x s).1::xs),?_,.inl ⟨⟨x,hxl,c⟩,?_⟩⟩
        · rw[ZoD c,←h1,ZjR hpl];rfl
        · rw[←h1,Ze9 pre (x::xs) h2,insX,ZoD c]
      · left
        refine⟨(),?_,pre++[x],by rw[←h1];simp,Zhc h2 c⟩
        rw[ZoC c,Zm (by omega) (by omega)];rfl)
    (fun _⟨pre,h1,h2⟩=>by
      rw[ZpD]at h1;subst h1;rw[ZoC (by rw[Zb];simp)]
      exact⟨_,rfl,.inr ⟨h2,rfl⟩⟩) (a:=()) ⟨[],rfl,fun⟨x,hx,_⟩=>by cases hx⟩ (Yb (by omega))
theorem Zjp{p:D.Program}{s:D.Path}{out:List D.Path}(hp:progB p=true)(hc:p.Code.length≤1048576)(hs:gP p s)(ho:gL p out)(hl:out.length≤100):∃r,iterN (fun(s4:Bool×Int×(List D.Path))=>if(decide (s4.2.1<(len out)))then(get? s4.2.2 s4.2.1).bind fun x13=>(YK fuel p x13 s).bind fun x14=>if(x14.2&&(!s4.1))then(set? s4.2.2 s4.2.1 x14.1).bind fun x15=>some (.inl (true,(w64 (s4.2.1+1)),x15))else some (.inl (s4.1,(w64 (s4.2.1+1)),s4.2.2))else some (.inr (s4.1,s4.2.2))) fuel (false,0,out)=some r∧InsR p s out r:=
  ZT (l:=out) (fun j(a:Bool×List D.Path)=>(a.1,(j:Int),a.2)) (fun ys a=>∃pre pre',pre++ys=out∧pre'.length=pre.length∧a.2=pre'++ys∧((a.1=false∧pre'=pre∧¬fndX p s pre)∨(a.1=true∧fndX p s pre∧insX p s out=pre'++ys))) (InsR p s out)
    (fun j x xs a hj hx hlen⟨pre,pre',h1,h2,h3,h4⟩=>by
      obtain⟨b,z⟩:=a;simp only at h3 h4;subst h3;have hxl:x∈out:=by rw[←h1];simp
      have hpl:pre'.length=j:=by
        have:=congrArg List.length h1;simp at this;rw[ZoP]at hlen;omega
      have ew:w64 ((j:Int)+1)=((j+1:Nat):Int):=by rw[Zm (by omega) (by omega)];rfl
      rw[ZoD (by rw[Zb];simp;omega),Zog hpl];simp only[Zo8];rw[Zgs hp hc (ho x hxl) hs];simp only[Zo8,ew];left;rcases h4 with⟨rfl,rfl,h5⟩|⟨rfl,h5,h6⟩
      · by_cases c:(mgP p x s).2=true
        · refine⟨(true,pre'++(mgP p x s).1::xs), ?_,pre'++[x],pre'++[(mgP p x s).1],by rw[←h1];simp,by simp,by simp,.inr ⟨rfl,⟨x,by simp,c⟩, ?_⟩⟩
          · rw[ZoD c,ZoD (by rfl),ZjR hpl];rfl
          · rw[←h1,Ze9 pre' (x::xs) h5,insX,ZoD c];simp
        · refine⟨(false,pre'++x::xs), ?_,pre'++[x],pre'++[x],by rw[←h1];simp,by simp,by simp,.inl ⟨rfl,rfl,Zhc h5 c⟩⟩
          rw[ZoC c,ZoC (by simp)]
      · refine⟨(true,pre'++x::xs), ?_,pre++[x],pre'++[x],by rw[←h1];simp,by simp[h2],by simp,.inr ⟨rfl, ?_,by rw[h6];simp⟩⟩
        · rw[ZoC (by simp)]
        · obtain⟨y,hy,q⟩:=h5
          exact⟨y,by simp[hy],q⟩)
    (fun a⟨pre,pre',h1,h2,h3,h4⟩=>by
      obtain⟨b,z⟩:=a;simp only at h3 h4;rw[ZpD]at h1 h3;subst h1;subst h3;rw[ZoC (by rw[Zb];simp)];refine⟨_,rfl,?_⟩;rcases h4 with⟨rfl,rfl,h5⟩|⟨rfl,h5,h6⟩
      · exact .inr ⟨h5,rfl⟩
      · rw[ZpD]at h6
        exact .inl ⟨h5,by rw[h6]⟩) (a:=(false,out)) ⟨[],[],rfl,rfl,rfl,.inl ⟨rfl,rfl,fun⟨x,hx,_⟩=>by cases hx⟩⟩ (Yb (by omega))
noncomputable def mrX(p:D.Program)(l:List D.Path):List D.Path:=l.foldl (fun o s=>insX p s o) []
structure MrI(p:D.Program)(l ys out:List D.Path):Prop where
 mem:∃pre,pre++ys=l
 good:gL p out
 len:out.length+ys.length≤64
 eq:ys.foldl (fun o s=>insX p s o) out=mrX p l
theorem MrI.step{p:D.Program}{l xs out:List D.Path}{x:D.Path}(h:MrI p l (x::xs) out)(hl:gL p l):gP p x∧MrI p l xs (insX p x out)∧out.length≤64:=by
 obtain⟨⟨pre,h1⟩,h2,h3,h4⟩:=h;have hx:gP p x:=hl x (by rw[←h1];simp);obtain⟨g1,g2⟩:=Zfb hx out h2;rw[ZoP]at h3;exact⟨hx,⟨⟨pre++[x],by rw[←h1];simp⟩,g1,by omega,by rw[Zqo]at h4;exact h4⟩,by omega⟩
theorem ZjT{p:D.Program}{s:D.Path}{out:List D.Path}{r:Bool×List D.Path}{j:Int}(hl:out.length≤100)(h:InsR p s out r):(if(!r.1)=true then(app? r.2 ([s]:List D.Path)).bind fun x6=>some (.inl ((w64 (j+1)),x6))else some (.inl ((w64 (j+1)),r.2)):Option ((Int×List D.Path)⊕List D.Path))=some (.inl (w64 (j+1),insX p s out)):=by
 rcases h with⟨_,rfl⟩|⟨h,rfl⟩
 ·rw[ZoC (by simp)]
 ·rw[ZoD (by simp),ZgB (show out.length≤1000 by omega),Znu h];rfl
theorem Zkv{p:D.Program}{l:List D.Path}(hp:progB p=true)(hc:p.Code.length≤1048576)(hl:gL p l)(h:l.length≤64):Zao fuel p l=some (mrX p l):=by
 unfold Zao;refine Zf8 (R:=fun r=>r=mrX p l) (ZT (l:=l) (fun j(a:List D.Path)=>((j:Int),a)) (MrI p l) _ (fun j x xs a hj hx hlen hI=>?_) (fun a hI=>?_) (a:=[]) ⟨⟨[],rfl⟩,fun x hx=>(by cases hx),by simpa using h,rfl⟩ (Yb (by omega))) fun r hr=>by rw[hr]
 ·obtain⟨hgx,hI2,hal⟩:=hI.step hl;left;refine⟨_,?_,hI2⟩;obtain⟨r,q1,q2⟩:=Zjx hp hc hgx hI.good (by omega);rw[ZoD (by rw[Zb];simp;omega),get?_nat,hx];simp only[Zo8];rw[q1];simp only[Zo8];rw[ZjT (by omega) q2,Zm (by omega) (by omega)];rfl
 ·rw[ZoC (by rw[Zb];simp)];exact⟨_,rfl,hI.eq⟩
theorem Zip{p:D.Program}{l:List D.Path}(hl:gL p l):∀(ys out:List D.Path),(∀y∈ys,y∈l)→gL p out→gL p (ys.foldl (fun o s=>insX p s o) out)∧(ys.foldl (fun o s=>insX p s o) out).length≤out.length+ys.length
 |[],out,_,h=>⟨h,by simp⟩
 |y::ys,out,hy,h=>by
  obtain⟨g1,g2⟩:=Zfb (hl y (hy y (by simp))) out h;have:=Zip hl ys (insX p y out) (fun z hz=>hy z (by simp[hz])) g1;rw[Zqo];exact⟨this.1,by have:=this.2;simp;omega⟩
noncomputable def mrgX(p:D.Program)(f most:Int):List D.Path×Bool:=
 if progB p=true∧(0≤f∧f≤400)∧1≤most∧most≤64 then
  match rdX p f.toNat [path0 p] []with
  |none=>([],false)
  |some q=>if(q.2++q.1).length>64 then([],false)else if((mrX p (q.2++q.1)).length:Int)>most then([],false)else(mrX p (q.2++q.1),true)
 else([],false)
theorem ZeS{p:D.Program}{f most:Int}(h:¬(progB p=true∧(0≤f∧f≤400)∧1≤most∧most≤64)):mrgX p f most=([],false):=by unfold mrgX;rw[ZoC h]
theorem Zh2{p:D.Program}{f most:Int}(h:progB p=true∧(0≤f∧f≤400)∧1≤most∧most≤64):mrgX p f most=match rdX p f.toNat [path0 p] []with
  |none=>([],false)
  |some q=>if(q.2++q.1).length>64 then([],false)else if((mrX p (q.2++q.1)).length:Int)>most then([],false)else(mrX p (q.2++q.1),true):=by unfold mrgX;rw[ZoD h]
theorem rdI0{p:D.Program}(hp:progB p=true)(k:Nat):RdI p (rdX p k [path0 p] []) k ([path0 p],[]):=⟨fun x hx=>by rw[ZoM.1 hx];exact gP0 hp,fun x hx=>(by cases hx),by simp,by simp,rfl⟩
theorem all_good{p:D.Program}(hp:progB p=true){k:Nat}{q:List D.Path×List D.Path}(h:rdX p k [path0 p] []=some q):gL p (q.2++q.1)∧q.1.length≤64∧q.2.length≤64:=by
 obtain⟨h1,h2,h3,h4⟩:=ZjH hp k _ _ q.1 q.2 (rdI0 hp k).og (rdI0 hp k).eg (by simp) (by simp) h;exact⟨fun x hx=>(ZoZ.1 hx).elim (h2 x) (h1 x),h3,h4⟩
theorem Zgx(p:D.Program)(f most:Int):(∀x∈(mrgX p f most).1,fineP x)∧(mrgX p f most).1.length≤64:=by
 unfold mrgX;by_cases c:progB p=true∧(0≤f∧f≤400)∧1≤most∧most≤64;rotate_left
 ·rw[ZoC c];exact⟨fun x hx=>(by cases hx),by simp⟩
 rw[ZoD c];cases h:rdX p f.toNat [path0 p] []with
 |none=>exact⟨fun x hx=>(by cases hx),by simp⟩
 |some q=>
  obtain⟨h1,_,_⟩:=all_good c.1 h;simp only;by_cases c1:(q.2++q.1).length>64
  ·rw[ZoD c1];exact⟨fun x hx=>(by cases hx),by simp⟩
  rw[ZoC c1];by_cases c2:((mrX p (q.2++q.1)).length:Int)>most
  ·rw[ZoD c2];exact⟨fun x hx=>(by cases hx),by simp⟩
  rw[ZoC c2];have:=Zip h1 (q.2++q.1) [] (fun y hy=>hy) (fun x hx=>by cases hx);have h2:(mrX p (q.2++q.1)).length≤(q.2++q.1).length:=by simpa[mrX]using this.2
  exact⟨fun x hx=>(this.1 x hx).ok.fine c.1,by show(mrX p (q.2++q.1)).length≤64;omega⟩
end Go.Proofs.YtbidabmbbieeiacGreatDoor
end
