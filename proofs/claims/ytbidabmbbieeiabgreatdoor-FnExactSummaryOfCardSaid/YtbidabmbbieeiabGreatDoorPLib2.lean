/- Texts of this claim put into one: library or plain laws, without the program under test. -/
import Derived.Test.YtbidabmbbieeiabGreatDoorPLib1
set_option linter.unusedSimpArgs false
set_option linter.unusedVariables false
section
namespace Go.Proofs.YtbidabmbbieeiabGreatDoor
open Go.GL
set_option linter.unusedSimpArgs false
set_option maxRecDepth 100000
variable{fuel:Nat}[FU fuel]
theorem ZiZ:∀(n:Nat)(t:D.Term),msz t≤1048576→1048580+cnt t≤n→YE n t=some t:=by
 intro n
 induction n with
 |zero=>intro t _ h;omega
 | succ n ih=>
  intro t hs hn;have hz:=ZaN t;have hc:=XT t;rw[YE];obtain⟨r,g1,g2⟩:=Yh (l:=t.Kids) (n:=n) (σ:=List D.Term) (ρ:=List D.Term) (B:=fun(s1:Int×(List D.Term))=>if(decide (s1.1<(len t.Kids)))then(get? t.Kids s1.1).bind fun x1=>(YE n x1).bind fun x2=>(app? s1.2 ([x2]:List D.Term)).bind fun x3=>some (.inl ((w64 (s1.1+1)),x3))else some (.inr (s1.2))) (fun j a=>((j:Int),a)) (fun ys a=>a++ys=t.Kids∧(∀x∈ys,x∈t.Kids)) (fun r=>r=t.Kids)
   (fun j x xs a hj hx hlen⟨h1,h2⟩=>by
    have hd:decide ((j:Int)<len t.Kids)=true:=by rw[Zf];simp;omega
    have hm:=h2 x (by simp);have m1:=Zaw hm;have m2:=Zcj hm;have hl:=congrArg List.length h1;simp only[ZmR,ZmX]at hl;simp only[hd,ZmT,get?_nat,hx,Zm9,ih x (by omega) (by omega)];rw[ZaO (by simp;omega)]
    exact .inl ⟨a++[x],by simp only[Zm9];rw[Zm (by omega) (by omega)];rfl,by simp[←h1],fun y hy=>h2 y (by simp[hy])⟩)
   (fun a⟨h1,_⟩=>by
    have hd:decide ((t.Kids.length:Int)<len t.Kids)=false:=by rw[Zf];simp
    simp only[hd,ZmA,ZmI]
    exact⟨_,rfl,by simpa using h1⟩) (a:=[]) ⟨rfl,fun _ h=>h⟩ (by omega)
  rw[show((0:Nat):Int)=0 from rfl]at g1;rw[g1,g2];cases t;rfl
theorem ZiR:∀n:Nat,(∀t:D.Term,msz t≤1048576→1048580+2*msz t+1≤n→X0 n t=some t)∧(∀l:List D.Term,sml l→1048580+2*(l.length+mszs l)≤n→Yi n l=some l):=by
 intro n
 induction n with
 |zero=>exact⟨fun t _ _=>by omega,fun l _ _=>by omega⟩
 | succ n ih=>
  refine⟨fun t h hn=>?_,fun l h hn=>?_⟩
  ·have:=ZaN t;unfold X0;rw[ih.2 t.Kids (by unfold sml;omega) (by omega)];cases t;rfl
  ·unfold sml at h;unfold Yi;by_cases c0:l.length=0
   ·have:l=[]:=Zno.1 c0;subst this;rfl
   rw[ZmD (by rw[Zf];simp;exact fun e=>c0 (by simp[e])),mk?_len (by unfold room;omega)];simp only[Zm9];obtain⟨r,g1,g2⟩:=Yh (l:=l) (n:=n) (σ:=List D.Term) (ρ:=List D.Term) (B:=fun(s1:Int×(List D.Term))=>if(decide (s1.1<(len l)))then(get? l s1.1).bind fun x2=>(X0 n x2).bind fun x3=>(set? s1.2 s1.1 x3).bind fun x4=>some (.inl ((w64 (s1.1+1)),x4))else some (.inr (s1.2))) (fun k(a:List D.Term)=>((k:Int),a)) (fun ys a=>(∃pre zs:List D.Term,pre++ys=l∧a=pre++zs∧zs.length=ys.length)∧∀x∈ys,x∈l) (fun r=>r=l)
     (fun k x xs a hk' hx hlen⟨⟨pre,zs,h1,hz,hz'⟩,hm⟩=>by
      have hxl:=hm x (by simp);have:=Zaw hxl;have hl:=congrArg List.length h1;simp only[ZmX,ZmR]at hlen hz' hl;simp only[get?_nat,hx,Zm9,Zf];rw[ZmE (by simpa using hk'),ih.1 x (by omega) (by omega)];simp only[Zm9];obtain⟨z,zs,rfl⟩:∃z zs',zs=z::zs':=by cases zs with|nil=>simp at hz'|cons z zs=>exact⟨_,_,rfl⟩
      have e1:pre.length=k:=by omega
      subst hz;rw[set?_nat (by simp;omega)];refine .inl ⟨(pre++z::zs).set k x,by simp only[Zm9];rw[Zm (by omega) (by omega)];rfl,⟨pre++[x],zs,by simp[←h1],?_,by simpa using hz'⟩,fun y hy=>hm y (by simp[hy])⟩
      rw[ZnZ _ _ (by omega),e1,ZnL];simp)
     (fun a⟨⟨pre,zs,h1,h2,h3⟩,_⟩=>by
      have hd:decide ((l.length:Int)<len l)=false:=by rw[Zf];simp
      simp only[hd,ZmA,ZmI];simp only[Znz,Zno]at h3;subst h3
      exact⟨_,rfl,by rw[h2];simpa using h1⟩) (a:=List.replicate l.length _) ⟨⟨[],_,rfl,rfl,by simp⟩,fun _ h=>h⟩ (by omega)
   rw[show((0:Nat):Int)=0 from rfl]at g1;rw[g1,g2];rfl
theorem ZeH{t:D.Term}(h:nodeB t=true)(hn:cnt t≤240):msz t≤2640:=by
 have:=ZbL h;omega
theorem Zit{t:D.Term}(h:nodeB t=true)(hn:cnt t≤240):YE fuel t=some t:=ZiZ _ _ (by have:=ZeH h hn;omega) (by have:=FU.le (n:=fuel);omega)
def t0:D.Term:=⟨0,0,0,⟨[]⟩,[]⟩
noncomputable def simp1(t:D.Term):D.Term:=(ZF fuel0 t).getD t0
theorem Zf1{t:D.Term}(h:nodeB t=true)(hn:cnt t≤240):nodeB (simp1 t)=true∧(simp1 t).W=t.W∧cnt (simp1 t)≤cnt t∧ZF fuel t=some (simp1 t)∧Z4 fuel t=some (simp1 t):=by
 obtain⟨r,q1,q2,q3,q4,q5⟩:=simpler (mea t) t (ZmG _) h hn;have hs:=ZkI t;have em:mea t=2*cnt t+swp t:=rfl;have hf:=FU.le (n:=fuel);have e:simp1 t=r:=by unfold simp1;rw[q4 fuel0 (by unfold fuel0;omega)];rfl
 rw[e];exact⟨q1,q2,q3,q4 fuel (by omega),q5 fuel (by omega)⟩
theorem ZbX{t:D.Term}(h:termB t=true):nodeB t=true∧cnt t≤240:=by
 unfold termB at h;simp only[ZmC,ZmK]at h;exact⟨h.1.2,h.1.1⟩
noncomputable def mkT(op w m:Int)(ks:List D.Term):D.Term×Bool:=if termB ⟨op,w,m,⟨[]⟩,ks⟩=true then(simp1 ⟨op,w,m,⟨[]⟩,ks⟩,true)else(t0,false)
theorem ZlV{op w m:Int}{ks:List D.Term}(h:sml ks):msz ⟨op,w,m,⟨[]⟩,ks⟩≤1048576:=by
 rw[ZaN];unfold sml at h;simp;omega
theorem ZlF{op w m:Int}{ks:List D.Term}(h:sml ks):Za2 fuel op w m ks=some (mkT op w m ks):=by
 unfold Za2 mkT;rw[ZiY (ZlV h)];simp only[Zm9];cases c:termB ⟨op,w,m,⟨[]⟩,ks⟩
 ·rfl
 ·obtain⟨a,b⟩:=ZbX c;obtain⟨q1,q2,q3,q4,q5⟩:=Zf1 (fuel:=fuel) a b;simp only[ZmH,ZmA,ZmI,ZmT,q5,Zm9,Zit q1 (by omega)]
theorem Zb6{op w m:Int}{ks:List D.Term}(h:sml ks):ZK fuel op w m ks=some (mkT op w m ks):=by
 unfold ZK mkT;rw[Zjd (ZlV h)];simp only[Zm9];cases c:termB ⟨op,w,m,⟨[]⟩,ks⟩
 ·rfl
 ·obtain⟨a,b⟩:=ZbX c;obtain⟨q1,q2,q3,q4,q5⟩:=Zf1 (fuel:=fuel) a b;simp only[ZmH,ZmA,ZmI,ZmT,q4,Zm9]
def fine(t:D.Term):Prop:=nodeB t=true∧cnt t≤240
theorem Xb{op w m:Int}{ks:List D.Term}(h:(mkT op w m ks).2=true):fine (mkT op w m ks).1∧(mkT op w m ks).1.W=w:=by
 unfold mkT at h⊢;cases c:termB ⟨op,w,m,⟨[]⟩,ks⟩
 ·rw[c]at h;simp at h
 ·obtain⟨a,b⟩:=ZbX c;obtain⟨q1,q2,q3,q4,q5⟩:=Zf1 (fuel:=fuel0) a b;simp only[ZmT];exact⟨⟨q1,by omega⟩,q2⟩
theorem Zc2{t:D.Term}(h:fine t):msz t≤2640:=ZeH h.1 h.2
theorem sml2{a b:D.Term}(ha:msz a≤2640)(hb:msz b≤1000000):sml [a,b]:=by
 unfold sml;rw[Xr,Xr,Zcp];simp;omega
def c11:D.Term:=⟨0,1,1,⟨[]⟩,[]⟩
end Go.Proofs.YtbidabmbbieeiabGreatDoor
end
section
namespace Go.Proofs.YtbidabmbbieeiabGreatDoor
open Go.GL
set_option linter.unusedSimpArgs false
set_option maxRecDepth 100000
variable{fuel:Nat}[FU fuel]
theorem Zbj{σt ρt:Type}{B:σt→Option (σt⊕ρt)}{s s':σt}{n:Nat}(h:B s=some (.inl s')):iterN B (n+1) s=iterN B n s':=by
 conv=>lhs;unfold iterN
 rw[h]
end Go.Proofs.YtbidabmbbieeiabGreatDoor
end
section
namespace Go.Proofs.YtbidabmbbieeiabGreatDoor
open Go.GL
set_option linter.unusedSimpArgs false
set_option maxRecDepth 100000
variable{fuel:Nat}[FU fuel]
def fineL(l:List D.Term):Prop:=l.length≤100∧∀x∈l,fine x
theorem Zfn{m:Nat}:∀{l:List D.Term},(∀x∈l,msz x≤m)→mszs l≤l.length*m
 |[],_=>by rw[Zcp];simp
 |x::l,h=>by
  have h1:=h x (by simp);have h2:=Zfn (l:=l) fun y hy=>h y (by simp[hy]);rw[Xr,ZmX,Zo5];omega
theorem ZbA{l:List D.Term}(h:fineL l):sml l:=by
 have h1:=Zfn (m:=2640) fun x hx=>Zc2 (h.2 x hx);have h2:=h.1;unfold sml;have:l.length*2640≤100*2640:=ZnM _ h2;omega
theorem ZbN{l:List D.Term}(h:fineL l):YK fuel l=some l:=by
 unfold YK;have hl:=h.1;obtain⟨r,g1,g2⟩:=Yh (l:=l) (n:=fuel) (σ:=List D.Term) (ρ:=List D.Term) (B:=fun(s1:Int×(List D.Term))=>if(decide (s1.1<(len l)))then(get? l s1.1).bind fun x1=>(YE fuel x1).bind fun x2=>(app? s1.2 ([x2]:List D.Term)).bind fun x3=>some (.inl ((w64 (s1.1+1)),x3))else some (.inr (s1.2))) (fun j a=>((j:Int),a)) (fun ys a=>a++ys=l∧∀x∈ys,x∈l) (fun r=>r=l)
  (fun j x xs a hj hx hlen⟨h1,h2⟩=>by
   have hd:decide ((j:Int)<len l)=true:=by rw[Zf];simp;omega
   have hm:=h2 x (by simp);have hc:=congrArg List.length h1;simp only[ZmR,ZmX]at hc;simp only[hd,ZmT,get?_nat,hx,Zm9,Zit (h.2 x hm).1 (h.2 x hm).2];rw[ZaO (by simp;omega)]
   exact .inl ⟨a++[x],by simp only[Zm9];rw[Zm (by omega) (by omega)];rfl,by simp[←h1],fun y hy=>h2 y (by simp[hy])⟩)
  (fun a⟨h1,_⟩=>by
   have hd:decide ((l.length:Int)<len l)=false:=by rw[Zf];simp
   simp only[hd,ZmA,ZmI]
   exact⟨_,rfl,by simpa using h1⟩) (a:=[]) ⟨rfl,fun _ h=>h⟩ (by have:=FU.le (n:=fuel);omega)
 rw[show((0:Nat):Int)=0 from rfl]at g1;rw[g1,g2];rfl
theorem ZbO{l:List D.Term}(h:fineL l):Yi fuel l=some l:=(ZiR fuel).2 l (ZbA h) (by
 have:=ZbA h;unfold sml at this
 have:=FU.le (n:=fuel);omega)
def fineP(s:D.Path):Prop:=fineL s.Regs∧fineL s.Mem∧s.Stack.length≤100∧fineL s.Out∧fineL s.Cond∧s.Turns.length≤100
theorem Zhk{s:D.Path}(h:fineP s):smallP s:=⟨ZbA h.1,ZbA h.2.1,by have:=h.2.2.1;omega,ZbA h.2.2.2.1,ZbA h.2.2.2.2.1,by have:=h.2.2.2.2.2;omega⟩
theorem ZfJ{l:List Int}(h:l.length≤100):app? ([]:List Int) l=some l:=by
 rw[ZaO (by simp;omega)];rfl
theorem ZlS{l:List D.Term}(h:l.length≤1000):app? ([]:List D.Term) l=some l:=by
 rw[ZaO (by simp;omega)];rfl
theorem ZaU{s:D.Path}(h:fineP s):ZU fuel s=some s:=by
 obtain⟨h1,h2,h3,h4,h5,h6⟩:=h;unfold ZU;simp only[ZbN h1,ZbN h2,ZfJ h3,ZbN h4,ZbN h5,ZfJ h6,Zm9]
theorem ZkS{s:D.Path}(h:fineP s):XR fuel s=some s:=by
 obtain⟨h1,h2,h3,h4,h5,h6⟩:=h;unfold XR Z9;simp only[ZbO h1,ZbO h2,ZfJ h3,ZbO h4,ZbO h5,ZfJ h6,Zm9]
theorem ZcV{p:D.Program}(h:progB p=true):1≤p.W∧p.W≤16∧0≤p.Mem∧p.Mem≤6∧0≤p.In∧p.In≤3:=by
 unfold progB at h;simp only[ZmC,ZmK]at h;omega
theorem sml3'{a b c:D.Term}(ha:msz a≤2640)(hb:msz b≤2640)(hc:msz c≤2640):sml [a,b,c]:=by
 unfold sml;rw[Xr,Xr,Xr,Zcp];simp;omega
end Go.Proofs.YtbidabmbbieeiabGreatDoor
end
section
namespace Go.Proofs.YtbidabmbbieeiabGreatDoor
open Go.GL
set_option linter.unusedSimpArgs false
set_option maxRecDepth 100000
variable{fuel:Nat}[FU fuel]
def fw(w:Int)(l:List D.Term):Prop:=∀t∈l,fine t∧t.W=w
structure okP(p:D.Program)(s:D.Path):Prop where
 pc:0≤s.Pc∧s.Pc≤len p.Code
 rl:s.Regs.length=4
 rf:fw p.W s.Regs
 ml:(s.Mem.length:Int)=p.Mem
 mf:fw p.W s.Mem
 sl:s.Stack.length≤3
 sp:∀x∈s.Stack,0≤x∧x≤len p.Code
 inn:0≤s.In∧s.In≤p.In
 ol:s.Out.length≤6
 of:fw p.W s.Out
 cd:0≤s.Code∧s.Code≤9
 st:0≤s.Steps∧s.Steps≤400
 cl:s.Cond.length≤60
 cf:fw 1 s.Cond
 tl:s.Turns.length≤60
theorem Ze6{w:Int}{l:List D.Term}(h:fw w l)(hl:l.length≤100):fineL l:=⟨hl,fun x hx=>(h x hx).1⟩
theorem okP.fine{p:D.Program}{s:D.Path}(h:okP p s)(hp:progB p=true):fineP s:=by
 have hm:=ZcV hp;have:=h.ml;exact⟨Ze6 h.rf (by have:=h.rl;omega),Ze6 h.mf (by omega),by have:=h.sl;omega,Ze6 h.of (by have:=h.ol;omega),Ze6 h.cf (by have:=h.cl;omega),by have:=h.tl;omega⟩
theorem ZjH{w:Int}{l:List D.Term}(h:fw w l){k:Nat}{t:D.Term}(ht:fine t∧t.W=w):fw w (l.set k t):=fun x hx=>by
 rcases Zow hx with hx|rfl
 ·exact h x hx
 ·exact ht
theorem ZkC{w:Int}{l:List D.Term}(h:fw w l){t:D.Term}(ht:fine t∧t.W=w):fw w (l++[t]):=fun x hx=>by
 rcases Zne.1 hx with hx|hx
 ·exact h x hx
 ·rw[ZmO]at hx;subst hx;exact ht
def rg(l:List D.Term)(k:Int):D.Term:=(l[k.toNat]?).getD t0
theorem Zcb{l:List D.Term}{k:Int}(h0:0≤k)(h1:k<l.length):get? l k=some (rg l k):=by
 obtain⟨j,rfl⟩:∃j:Nat,k=(j:Int):=⟨k.toNat,by omega⟩;unfold rg;rw[get?_nat,Zoz,ZmF (by omega)];rfl
theorem Zcl{w:Int}{l:List D.Term}{k:Int}(h:fw w l)(h0:0≤k)(h1:k<l.length):fine (rg l k)∧(rg l k).W=w:=by
 unfold rg;rw[ZmF (by omega)];exact h _ (ZnO _)
theorem ZhU{α:Type}{l:List α}{k:Int}(h0:0≤k)(h1:k<l.length)(x:α):set? l k x=some (l.set k.toNat x):=by
 obtain⟨j,rfl⟩:∃j:Nat,k=(j:Int):=⟨k.toNat,by omega⟩;rw[set?_nat (by omega),Zoz]
theorem ZhZ{l:List D.Term}(h:l.length≤1000):Z8 l=some l:=by
 unfold Z8;rw[ZlS h];rfl
theorem put_eq{l:List D.Term}{k:Int}{t:D.Term}(hl:l.length≤1000)(h0:0≤k)(h1:k<l.length):XP l k t=some (l.set k.toNat t):=by
 unfold XP;rw[ZhZ hl];simp only[Zm9];rw[ZhU h0 h1];rfl
theorem Zgh{l:List D.Term}{t:D.Term}(hl:l.length≤1000):ZaW l t=some (l++[t]):=by
 unfold ZaW Yc;rw[ZhZ hl];simp only[Zm9];rw[ZaO (by simp;omega)];rfl
theorem Zgm{l:List Int}{x:Int}(hl:l.length≤100):ZaZ l x=some (l++[x]):=by
 unfold ZaZ Z9;rw[ZfJ hl];simp only[Zm9];rw[ZaO (by simp;omega)];rfl
def kT(w v:Int):D.Term:=⟨0,w,v,⟨[]⟩,[]⟩
theorem ZbS{w v:Int}(h:wordB w v=true):fine (kT w v):=⟨ZaQ h,by unfold kT;rw[cnt0];omega⟩
theorem Yg{p:D.Program}(hp:progB p=true):wordB p.W p.Mem=true∧2≤p.W∧p.W≤8∧1≤p.Mem∧p.Mem≤6:=by
 unfold progB at hp;simp only[ZmC,ZmK]at hp;exact⟨by simp[hp],by omega,by omega,by omega,by omega⟩
theorem Zce{p:D.Program}(hp:progB p=true){k:Int}(h0:0≤k)(h1:k≤p.Mem):wordB p.W k=true:=by
 obtain⟨m1,m2,m3,m4,m5⟩:=Yg hp;rw[ZZ (by omega) (by omega)]at m1⊢;omega
theorem sml2f{a b:D.Term}(ha:fine a)(hb:fine b):sml [a,b]:=sml2 (Zc2 ha) (by have:=Zc2 hb;omega)
theorem sml1f{a:D.Term}(ha:fine a):sml [a]:=by
 have:=Zc2 ha;unfold sml;rw[Xr,Zcp];simp;omega
theorem sml3f{a b c:D.Term}(ha:fine a)(hb:fine b)(hc:fine c):sml [a,b,c]:=sml3' (Zc2 ha) (Zc2 hb) (Zc2 hc)
noncomputable def cel(w k:Int)(x a b:D.Term):D.Term×Bool:=
 if(mkT 14 1 0 [kT w k,x]).2=true then mkT 17 w 0 [(mkT 14 1 0 [kT w k,x]).1,a,b]else(t0,false)
theorem ZeQ{w k:Int}{x a b:D.Term}(h:(cel w k x a b).2=true):fine (cel w k x a b).1∧(cel w k x a b).1.W=w:=by
 unfold cel at h⊢;split at h
 ·rename_i c;rw[ZmE c];exact Xb h
 ·cases h
theorem Zg9{p:D.Program}{k:Int}{x a b:D.Term}(hw:wordB p.W k=true)(hx:fine x)(ha:fine a)(hb:fine b):XA fuel p k x a b=some (cel p.W k x a b):=by
 unfold XA cel;rw[ZX hw];simp only[Zm9];show((ZK fuel 14 1 0 [kT p.W k,x]).bind _)=_;rw[Zb6 (sml2f (ZbS hw) hx)];simp only[Zm9];by_cases c:(mkT 14 1 0 [kT p.W k,x]).2=true
 ·rw[ZmD (by rw[c];simp),ZmE c,Zb6 (sml3f (Xb c).1 ha hb)];rfl
 ·rw[ZmE (by simpa using c),ZmD c];rfl
theorem X5{b:Bool}{op w:Int}{ks:List D.Term}(h:sml ks):Zg fuel ⟨b⟩ op w ks=some ((mkT op w 0 ks).1,⟨b|| !(mkT op w 0 ks).2⟩):=by
 unfold Zg;rw[ZlF h];simp only[Zm9];cases(mkT op w 0 ks).2<;>cases b<;>rfl
noncomputable def ldT(w:Int)(x:D.Term)(mem:List D.Term):Nat→D.Term→D.Term×Bool
 |0,t=>(t,true)
 |j+1,t=>if(cel w (j:Int) x (rg mem j) t).2=true then ldT w x mem j (cel w (j:Int) x (rg mem j) t).1 else(t0,false)
theorem Zhn{w:Int}{x:D.Term}{mem:List D.Term}:∀{j:Nat}{t:D.Term},fine t∧t.W=w→(ldT w x mem j t).2=true→fine (ldT w x mem j t).1∧(ldT w x mem j t).1.W=w
 |0,t,ht,_=>ht
 |j+1,t,ht,h=>by
  unfold ldT at h⊢;split at h
  ·rename_i c;rw[ZmE c];exact Zhn (ZeQ c) h
  ·cases h
theorem ZkE{w:Int}{x:D.Term}{mem:List D.Term}:∀{j:Nat}{t:D.Term},(ldT w x mem j t).2=false→ldT w x mem j t=(t0,false)
 |0,t,h=>by cases h
 |j+1,t,h=>by
  unfold ldT at h⊢;split at h
  ·rename_i c;rw[ZmE c];exact ZkE h
  ·rename_i c;rw[ZmD c]
noncomputable def load(w:Int)(mem:List D.Term)(x:D.Term):D.Term×Bool:=if x.Op=0 then(rg mem x.N,true)else ldT w x mem (mem.length-1) (rg mem ((mem.length-1:Nat):Int))
abbrev T5:=Int×Int×Int×Str×(List D.Term)
abbrev tup5(t:D.Term):T5:=(t.Op,t.W,t.N,t.Name,t.Kids)
theorem ZdU(t:D.Term):(D.Term.mk t.Op t.W t.N t.Name t.Kids)=t:=by cases t;rfl
theorem ZlQ{p:D.Program}{mem:List D.Term}{x:D.Term}(hp:progB p=true)(hm:(mem.length:Int)=p.Mem)(hf:fw p.W mem)(hx:fine x):∀(j:Nat)(t:D.Term)(n:Nat),fine t∧t.W=p.W→j≤mem.length→j<n→
    iterN (fun(s1:Int×Int×Int×Int×Str×(List D.Term))=>if(decide (s1.1≥0))then(get? mem s1.1).bind fun x4=>(XA fuel p s1.1 x x4 (D.Term.mk s1.2.1 s1.2.2.1 s1.2.2.2.1 s1.2.2.2.2.1 s1.2.2.2.2.2)).bind fun x5=>if(!x5.2)then some (.inr (.inr ((D.Term.mk 0 0 0 ⟨[]⟩ ([]:List D.Term)),false)))else some (.inl ((w64 (s1.1-1)),x5.1.Op,x5.1.W,x5.1.N,x5.1.Name,x5.1.Kids))else some (.inr (.inl (s1.2.1,s1.2.2.1,s1.2.2.2.1,s1.2.2.2.2.1,s1.2.2.2.2.2))):Int×T5→Option ((Int×T5)⊕(T5⊕(D.Term×Bool))))
     n ((j:Int)-1,tup5 t)=some (if(ldT p.W x mem j t).2=true then(.inl (tup5 (ldT p.W x mem j t).1):T5⊕(D.Term×Bool))else .inr (t0,false)):=by
  intro j
  induction j with
  | zero=>
    intro t n ht _ hn;refine XK ?_ hn;simp only;rw[ZmD (by simp)];rfl
  | succ j ih=>
    intro t n ht hj hn;obtain⟨n,rfl⟩:∃m,n=m+1:=⟨n-1,by omega⟩;have hm6:=Yg hp;have e1:((j+1:Nat):Int)-1=(j:Int):=by omega
    have eg:=Zcb (l:=mem) (k:=(j:Int)) (by omega) (by omega);have ec:=Zg9 (fuel:=fuel) (p:=p) (k:=(j:Int)) (x:=x) (a:=rg mem j) (b:=t) (Zce hp (by omega) (by omega)) hx (Zcl hf (by omega) (by omega)).1 ht.1;rw[e1];unfold ldT;by_cases c:(cel p.W (j:Int) x (rg mem j) t).2=true
    · rw[ZmE c,←ih _ n (ZeQ c) (by omega) (by omega)]
      refine Zbj ?_;simp only[tup5,eg,Zm9,ZdU,ec,c];rw[ZmE (by simp),ZmD (by simp),Zm (by omega) (by omega)]
    · rw[ZmD c]
      refine XK ?_ (by omega);simp only[tup5,eg,Zm9,ZdU,ec];rw[ZmE (by simp),ZmE (by simpa using c)];rfl
theorem Zjo{p:D.Program}{s:D.Path}{x:D.Term}(hp:progB p=true)(hm:(s.Mem.length:Int)=p.Mem)(hf:fw p.W s.Mem)(hx:fine x)(hc:x.Op=0→0≤x.N∧x.N<p.Mem):Zbv fuel p s x=some (load p.W s.Mem x):=by
 have hm6:=Yg hp;unfold Zbv load Zb;simp only[Zm9];by_cases c:x.Op=0
 ·obtain⟨n0,n1⟩:=hc c;rw[ZmE (by simpa using c),ZmE c,Zcb n0 (by omega)];rfl
 ·rw[ZmD (by simpa using c),ZmD c];have e1:w64 (p.Mem-1)=((s.Mem.length-1:Nat):Int):=by rw[Zm (by omega) (by omega)];omega
  have e2:w64 (p.Mem-2)=((s.Mem.length-1:Nat):Int)-1:=by rw[Zm (by omega) (by omega)];omega
  rw[e1,e2,Zcb (by omega) (by omega)];simp only[Zm9];have:=ZlQ (fuel:=fuel) hp hm hf hx (s.Mem.length-1) (rg s.Mem ((s.Mem.length-1:Nat):Int)) fuel (Zcl hf (by omega) (by omega)) (by omega) (by have:=FU.le (n:=fuel);omega);rw[this];simp only[Zm9];cases h:(ldT p.W x s.Mem (s.Mem.length-1) (rg s.Mem ((s.Mem.length-1:Nat):Int))).2
  ·rw[ZkE h];simp
  ·simp only[ZmT,ZdU];simp[←h]
theorem ZlN{p:D.Program}{mem:List D.Term}{x:D.Term}(hp:progB p=true)(hm:(mem.length:Int)=p.Mem)(hf:fw p.W mem)(hx:fine x):∀(j:Nat)(t:D.Term)(n:Nat),fine t∧t.W=p.W→j≤mem.length→j+1<n→
    ∃t',iterN (fun(s1:Int×Bool×Int×Int×Int×Str×(List D.Term))=>if((decide (s1.1≥0))&&(!s1.2.1))then(ZL p.W s1.1).bind fun x3=>(Zg fuel (D.l06Maker.mk s1.2.1) 14 1 ([(D.Term.mk x3.Op x3.W x3.N x3.Name ([]:List D.Term)),x]:List D.Term)).bind fun x4=>if(!x4.2.bad)then(get? mem s1.1).bind fun x5=>(Zg fuel x4.2 17 p.W ([x4.1,x5,(D.Term.mk s1.2.2.1 s1.2.2.2.1 s1.2.2.2.2.1 s1.2.2.2.2.2.1 s1.2.2.2.2.2.2)]:List D.Term)).bind fun x6=>some (.inl ((w64 (s1.1-1)),x6.2.bad,x6.1.Op,x6.1.W,x6.1.N,x6.1.Name,x6.1.Kids))else some (.inl ((w64 (s1.1-1)),x4.2.bad,s1.2.2.1,s1.2.2.2.1,s1.2.2.2.2.1,s1.2.2.2.2.2.1,s1.2.2.2.2.2.2))else some (.inr (s1.2.1,s1.2.2.1,s1.2.2.2.1,s1.2.2.2.2.1,s1.2.2.2.2.2.1,s1.2.2.2.2.2.2)):Int×Bool×T5→Option ((Int×Bool×T5)⊕(Bool×T5))) n ((j:Int)-1,false,tup5 t)=some (!(ldT p.W x mem j t).2,tup5 t')∧((ldT p.W x mem j t).2=true→t'=(ldT p.W x mem j t).1):=by
  intro j
  induction j with
  | zero=>
    intro t n ht _ hn;refine⟨t,XK ?_ (by omega),fun _=>rfl⟩;simp only;rw[ZmD (by simp)];rfl
  | succ j ih=>
    intro t n ht hj hn;obtain⟨n,rfl⟩:∃m,n=m+1:=⟨n-1,by omega⟩;have hm6:=Yg hp;have e1:((j+1:Nat):Int)-1=(j:Int):=by omega
    have eg:=Zcb (l:=mem) (k:=(j:Int)) (by omega) (by omega);have hw:=Zce hp (k:=(j:Int)) (by omega) (by omega);have em:=X5 (fuel:=fuel) (b:=false) (op:=14) (w:=1) (ks:=[kT p.W j,x]) (sml2f (ZbS hw) hx);unfold kT at em;rw[e1];have stop:∀u:D.Term,∀i:Int,0<n→iterN (fun(s1:Int×Bool×Int×Int×Int×Str×(List D.Term))=>if((decide (s1.1≥0))&&(!s1.2.1))then(ZL p.W s1.1).bind fun x3=>(Zg fuel (D.l06Maker.mk s1.2.1) 14 1 ([(D.Term.mk x3.Op x3.W x3.N x3.Name ([]:List D.Term)),x]:List D.Term)).bind fun x4=>if(!x4.2.bad)then(get? mem s1.1).bind fun x5=>(Zg fuel x4.2 17 p.W ([x4.1,x5,(D.Term.mk s1.2.2.1 s1.2.2.2.1 s1.2.2.2.2.1 s1.2.2.2.2.2.1 s1.2.2.2.2.2.2)]:List D.Term)).bind fun x6=>some (.inl ((w64 (s1.1-1)),x6.2.bad,x6.1.Op,x6.1.W,x6.1.N,x6.1.Name,x6.1.Kids))else some (.inl ((w64 (s1.1-1)),x4.2.bad,s1.2.2.1,s1.2.2.2.1,s1.2.2.2.2.1,s1.2.2.2.2.2.1,s1.2.2.2.2.2.2))else some (.inr (s1.2.1,s1.2.2.1,s1.2.2.2.1,s1.2.2.2.2.1,s1.2.2.2.2.2.1,s1.2.2.2.2.2.2)):Int×Bool×T5→Option ((Int×Bool×T5)⊕(Bool×T5))) n (i,true,tup5 u)=some (true,tup5 u):=fun u i h0=>by
      refine XK ?_ h0;simp
    have hd:decide ((j:Int)≥0)=true:=by simp
    by_cases c1:(mkT 14 1 0 [⟨0,p.W,(j:Int),⟨[]⟩,[]⟩,x]).2=true
    · have hf1:fine (mkT 14 1 0 [⟨0,p.W,(j:Int),⟨[]⟩,[]⟩,x]).1:=(Xb c1).1
      have em2:=X5 (fuel:=fuel) (b:=false) (op:=17) (w:=p.W) (ks:=[(mkT 14 1 0 [⟨0,p.W,(j:Int),⟨[]⟩,[]⟩,x]).1,rg mem j,t]) (sml3f hf1 (Zcl hf (by omega) (by omega)).1 ht.1);have ecel:cel p.W (j:Int) x (rg mem j) t=mkT 17 p.W 0 [(mkT 14 1 0 [⟨0,p.W,(j:Int),⟨[]⟩,[]⟩,x]).1,rg mem j,t]:=by unfold cel kT;rw[ZmE c1]
      by_cases c2:(mkT 17 p.W 0 [(mkT 14 1 0 [⟨0,p.W,(j:Int),⟨[]⟩,[]⟩,x]).1,rg mem j,t]).2=true
      · obtain⟨t',h1,h2⟩:=ih (mkT 17 p.W 0 [(mkT 14 1 0 [⟨0,p.W,(j:Int),⟨[]⟩,[]⟩,x]).1,rg mem j,t]).1 n (Xb c2) (by omega) (by omega)
        have hl:ldT p.W x mem (j+1) t=ldT p.W x mem j (mkT 17 p.W 0 [(mkT 14 1 0 [⟨0,p.W,(j:Int),⟨[]⟩,[]⟩,x]).1,rg mem j,t]).1:=by
          conv=>lhs;unfold ldT
          rw[ecel,ZmE c2]
        rw[hl];refine⟨t',?_,h2⟩;rw[←h1];refine Zbj ?_;simp only[tup5,hd,ZnC,ZmT,Zi,Zm9,em,c1,ZmH,Zo0,Zny,ZnC,eg,ZdU,em2,c2];rw[Zm (by omega) (by omega)]
      · have hl:ldT p.W x mem (j+1) t=(t0,false):=by
          conv=>lhs;unfold ldT
          rw[ecel,ZmD c2]
        have c2':(mkT 17 p.W 0 [(mkT 14 1 0 [⟨0,p.W,(j:Int),⟨[]⟩,[]⟩,x]).1,rg mem j,t]).2=false:=by simpa using c2
        rw[hl];refine⟨(mkT 17 p.W 0 [(mkT 14 1 0 [⟨0,p.W,(j:Int),⟨[]⟩,[]⟩,x]).1,rg mem j,t]).1,?_,fun h=>by cases h⟩;rw[Zbj (s':=(w64 ((j:Int)-1),true,tup5 (mkT 17 p.W 0 [(mkT 14 1 0 [⟨0,p.W,(j:Int),⟨[]⟩,[]⟩,x]).1,rg mem j,t]).1)),stop _ _ (by omega)]
        · rfl
        · simp only[tup5,hd,ZnC,ZmT,Zi,Zm9,em,c1,ZmH,Zo0,Zny,eg,ZdU,em2,c2',ZmZ]
    · have c1':(mkT 14 1 0 [⟨0,p.W,(j:Int),⟨[]⟩,[]⟩,x]).2=false:=by simpa using c1
      have hl:ldT p.W x mem (j+1) t=(t0,false):=by
        conv=>lhs;unfold ldT
        have:cel p.W (j:Int) x (rg mem j) t=(t0,false):=by unfold cel kT;rw[ZmD c1]
        rw[this];rfl
      rw[hl];refine⟨t,?_,fun h=>by cases h⟩;rw[Zbj (s':=(w64 ((j:Int)-1),true,tup5 t)),stop _ _ (by omega)]
      · rfl
      · simp only[tup5,hd,ZnC,ZmT,Zi,Zm9,em,c1',Zny,Bool.or_true,ZmH,ZmA,ZmI,ZmZ]
theorem ZiV{p:D.Program}{s:D.Path}{x:D.Term}(hp:progB p=true)(hm:(s.Mem.length:Int)=p.Mem)(hf:fw p.W s.Mem)(hx:fine x)(hc:x.Op=0→0≤x.N∧x.N<p.Mem):
  ∃t',YN fuel ⟨false⟩ p s x=some (t',⟨!(load p.W s.Mem x).2⟩)∧((load p.W s.Mem x).2=true→t'=(load p.W s.Mem x).1):=by
 have hm6:=Yg hp;unfold YN load;by_cases c:x.Op=0
 ·obtain⟨n0,n1⟩:=hc c;refine⟨rg s.Mem x.N,?_,fun _=>by rw[ZmE c]⟩;rw[ZmE (by simpa using c),ZmE c,Zcb n0 (by omega)];rfl
 ·have e1:w64 (p.Mem-1)=((s.Mem.length-1:Nat):Int):=by rw[Zm (by omega) (by omega)];omega
  have e2:w64 (p.Mem-2)=((s.Mem.length-1:Nat):Int)-1:=by rw[Zm (by omega) (by omega)];omega
  obtain⟨t',h1,h2⟩:=ZlN (fuel:=fuel) hp hm hf hx (s.Mem.length-1) (rg s.Mem ((s.Mem.length-1:Nat):Int)) fuel (Zcl hf (by omega) (by omega)) (by omega) (by have:=FU.le (n:=fuel);omega);refine⟨t',?_,fun h=>by rw[ZmD c]at h⊢;exact h2 h⟩;rw[ZmD (by simpa using c),ZmD c,e1,e2,Zcb (by omega) (by omega)];simp only[Zm9];rw[h1];simp only[Zm9,ZdU]
theorem Zj5{p:D.Program}{s:D.Path}{x:D.Term}(hp:progB p=true)(hm:(s.Mem.length:Int)=p.Mem)(hf:fw p.W s.Mem)(hc:x.Op=0→0≤x.N∧x.N<p.Mem)(h:(load p.W s.Mem x).2=true):fine (load p.W s.Mem x).1∧(load p.W s.Mem x).1.W=p.W:=by
 have hm6:=Yg hp;unfold load at h⊢;by_cases c:x.Op=0
 ·rw[ZmE c];obtain⟨n0,n1⟩:=hc c;exact Zcl hf n0 (by omega)
 ·rw[ZmD c]at h⊢;exact Zhn (Zcl hf (by omega) (by omega)) h
end Go.Proofs.YtbidabmbbieeiabGreatDoor
end
section
namespace Go.Proofs.YtbidabmbbieeiabGreatDoor
open Go.GL
set_option linter.unusedSimpArgs false
set_option maxRecDepth 100000
variable{fuel:Nat}[FU fuel]
theorem Zi6{α:Type}{m1 m2:List α}{t:α}{i:Int}(h:i=(m1.length:Int)):get? (m1++t::m2) i=some t:=by
 subst h;rw[get?_nat];simp
theorem set_mid{α:Type}{m1 m2:List α}{t u:α}{i:Int}(h:i=(m1.length:Int)):set? (m1++t::m2) i u=some (m1++u::m2):=by
 subst h;rw[set?_nat (by simp)];simp
noncomputable def stG(w:Int)(x v:D.Term):Nat→List D.Term→List D.Term×Bool
 |_,[]=>([],true)
 |i,t::l=>if(cel w (i:Int) x v t).2=true then((cel w (i:Int) x v t).1::(stG w x v (i+1) l).1,(stG w x v (i+1) l).2)else([],false)
theorem Zi7{w:Int}{x v:D.Term}:∀{l:List D.Term}{i:Nat},(stG w x v i l).2=true→(stG w x v i l).1.length=l.length
 |[],i,_=>rfl
 |t::l,i,h=>by
  unfold stG at h⊢;split at h
  ·rename_i c;rw[ZmE c];simp only[ZmX,Zi7 (l:=l) (i:=i+1) h]
  ·cases h
theorem ZjA{w:Int}{x v:D.Term}:∀{l:List D.Term}{i:Nat},(stG w x v i l).2=true→fw w (stG w x v i l).1
 |[],i,_=>fun t ht=>by cases ht
 | t::l,i,h=>by
  unfold stG at h⊢;split at h
  ·rename_i c;rw[ZmE c];intro y hy;rcases Zn1.1 hy with rfl|hy
   ·exact ZeQ c
   ·exact ZjA (l:=l) (i:=i+1) h y hy
  ·cases h
theorem Zlx{p:D.Program}{mem x3:List D.Term}{x v:D.Term}(hp:progB p=true)(hm:(mem.length:Int)=p.Mem)(hf:fw p.W mem)(hx:fine x)(hv:fine v)(h3:len x3=(mem.length:Int)):∀(m2 m1 done rest:List D.Term)(n:Nat),mem=m1++m2→done.length=m1.length→rest.length=m2.length→m2.length<n→
    iterN (fun(s1:Int×(List D.Term))=>if(decide (s1.1<(len x3)))then(get? mem s1.1).bind fun x4=>(XA fuel p s1.1 x v x4).bind fun x5=>if(!x5.2)then some (.inr (.inr (([]:List D.Term),false)))else(set? s1.2 s1.1 x5.1).bind fun x6=>some (.inl ((w64 (s1.1+1)),x6))else some (.inr (.inl (s1.2))):Int×List D.Term→Option ((Int×List D.Term)⊕(List D.Term⊕(List D.Term×Bool))))
     n ((m1.length:Int),done++rest)=some (if(stG p.W x v m1.length m2).2=true then(.inl (done++(stG p.W x v m1.length m2).1):List D.Term⊕(List D.Term×Bool))else .inr ([],false)):=by
  have hm6:=Yg hp;intro m2
  induction m2 with
  | nil=>
    intro m1 done rest n he hd hr hn;have:rest=[]:=Zno.1 hr;subst this;refine XK ?_ (by omega);have hml:(m1.length:Int)=mem.length:=by rw[he];simp
    simp only;rw[ZmD (by rw[h3];simp;omega)];simp[stG]
  | cons t m2 ih=>
    intro m1 done rest n he hd hr hn;obtain⟨n,rfl⟩:∃m,n=m+1:=⟨n-1,by simp at hn;omega⟩;obtain⟨r,rest,rfl⟩:∃r l,rest=r::l:=by
      cases rest with
      |nil=>simp at hr
      |cons r l=>exact⟨r,l,rfl⟩
    have hml:(mem.length:Int)=m1.length+(m2.length+1):=by rw[he];simp
    have ht:fine t∧t.W=p.W:=hf t (by rw[he];simp);have hg:get? mem (m1.length:Int)=some t:=by rw[he];exact Zi6 rfl
    have ec:=Zg9 (fuel:=fuel) (p:=p) (k:=(m1.length:Int)) (x:=x) (a:=v) (b:=t) (Zce hp (by omega) (by omega)) hx hv ht.1;have hc:decide ((m1.length:Int)<len x3)=true:=by rw[h3];simp;omega
    have e1:w64 ((m1.length:Int)+1)=((m1++[t]).length:Int):=by rw[Zm (by omega) (by omega)];simp
    unfold stG;by_cases c:(cel p.W (m1.length:Int) x v t).2=true
    · rw[ZmE c]
      have:=ih (m1++[t]) (done++[(cel p.W (m1.length:Int) x v t).1]) rest n (by rw[he];simp) (by simp[hd]) (by simpa using hr) (by simp at hn;omega);have el:(m1++[t]).length=m1.length+1:=by simp
      rw[el]at this;simp only[ZnB,ZnD]at this;rw[←this];refine Zbj ?_;simp only[hc,hg,Zm9,ec,c,ZmT,ZmH,ZmA,ZmI];rw[set_mid (by rw[hd])];simp only[Zm9,e1,el]
    · rw[ZmD c]
      refine XK ?_ (by omega);simp only[hc,hg,Zm9,ec,ZmT];rw[ZmE (by simpa using c)];rfl
noncomputable def store(w:Int)(mem:List D.Term)(x v:D.Term):List D.Term×Bool:=if x.Op=0 then(mem.set x.N.toNat v,true)else if(stG w x v 0 mem).2=true then((stG w x v 0 mem).1,true)else([],false)
theorem ZhR{p:D.Program}{s:D.Path}{x v:D.Term}(hp:progB p=true)(hm:(s.Mem.length:Int)=p.Mem)(hf:fw p.W s.Mem)(hx:fine x)(hv:fine v)(hc:x.Op=0→0≤x.N∧x.N<p.Mem):Zbn fuel p s x v=some (store p.W s.Mem x v):=by
 have hm6:=Yg hp;unfold Zbn store Zb;simp only[Zm9];by_cases c:x.Op=0
 ·obtain⟨n0,n1⟩:=hc c;rw[ZmE (by simpa using c),ZmE c,put_eq (by omega) n0 (by omega)];rfl
 ·rw[ZmD (by simpa using c),ZmD c];obtain⟨x3,e3,l3⟩:∃x3,mk? p.Mem (D.Term.mk 0 0 0 ⟨[]⟩ ([]:List D.Term))=some x3∧x3.length=s.Mem.length:=by
   refine⟨List.replicate p.Mem.toNat (D.Term.mk 0 0 0 ⟨[]⟩ ([]:List D.Term)),?_,by simp;omega⟩;unfold mk?;rw[ZmE ⟨by omega,by unfold room;omega⟩]
  rw[e3];simp only[Zm9];have:=Zlx (fuel:=fuel) hp hm hf hx hv (x3:=x3) (by unfold len;omega) s.Mem [] [] x3 fuel rfl rfl l3 (by have:=FU.le (n:=fuel);omega);simp only[Znz,List.nil_append]at this;rw[show((0:Nat):Int)=0 from rfl]at this;rw[this];simp only[Zm9];cases h:(stG p.W x v 0 s.Mem).2<;>simp
theorem ZlB{p:D.Program}{mem:List D.Term}{x v:D.Term}(hp:progB p=true)(hm:(mem.length:Int)=p.Mem)(hf:fw p.W mem)(hx:fine x)(hv:fine v):∀(m2 m1 done rest:List D.Term)(n:Nat),mem=m1++m2→done.length=m1.length→rest.length=m2.length→m2.length+1<n→
    ∃l',iterN (fun(s1:Int×Bool×(List D.Term))=>if((decide (s1.1<p.Mem))&&(!s1.2.1))then(ZL p.W s1.1).bind fun x3=>(Zg fuel (D.l06Maker.mk s1.2.1) 14 1 ([(D.Term.mk x3.Op x3.W x3.N x3.Name ([]:List D.Term)),x]:List D.Term)).bind fun x4=>if(!x4.2.bad)then(get? mem s1.1).bind fun x5=>(Zg fuel x4.2 17 p.W ([x4.1,v,x5]:List D.Term)).bind fun x6=>(set? s1.2.2 s1.1 x6.1).bind fun x7=>some (.inl ((w64 (s1.1+1)),x6.2.bad,x7))else some (.inl ((w64 (s1.1+1)),x4.2.bad,s1.2.2))else some (.inr (s1.2.1,s1.2.2)):Int×Bool×List D.Term→Option ((Int×Bool×List D.Term)⊕(Bool×List D.Term)))
     n ((m1.length:Int),false,done++rest)=some (!(stG p.W x v m1.length m2).2,l')∧l'.length=mem.length∧((stG p.W x v m1.length m2).2=true→l'=done++(stG p.W x v m1.length m2).1):=by
  have hm6:=Yg hp;intro m2
  induction m2 with
  | nil=>
    intro m1 done rest n he hd hr hn;have:rest=[]:=Zno.1 hr;subst this;have hml:(m1.length:Int)=mem.length:=by rw[he];simp
    refine⟨done,?_,by omega,fun _=>by simp[stG]⟩;refine XK ?_ (by omega);simp only;rw[ZmD (by simp;omega)];simp[stG]
  | cons t m2 ih=>
    intro m1 done rest n he hd hr hn;obtain⟨n,rfl⟩:∃m,n=m+1:=⟨n-1,by simp at hn;omega⟩;obtain⟨r,rest,rfl⟩:∃r l,rest=r::l:=by
      cases rest with
      |nil=>simp at hr
      |cons r l=>exact⟨r,l,rfl⟩
    simp only[ZmX]at hr hn;have hml:(mem.length:Int)=m1.length+(m2.length+1):=by rw[he];simp
    have hmn:mem.length=m1.length+(m2.length+1):=by omega
    have ht:fine t∧t.W=p.W:=hf t (by rw[he];simp);have hg:get? mem (m1.length:Int)=some t:=by rw[he];exact Zi6 rfl
    have hw:=Zce hp (k:=(m1.length:Int)) (by omega) (by omega);have em:=X5 (fuel:=fuel) (b:=false) (op:=14) (w:=1) (ks:=[kT p.W m1.length,x]) (sml2f (ZbS hw) hx);unfold kT at em;have hc:decide ((m1.length:Int)<p.Mem)=true:=by simp;omega
    have e1:w64 ((m1.length:Int)+1)=((m1++[t]).length:Int):=by rw[Zm (by omega) (by omega)];simp
    have el:(m1++[t]).length=m1.length+1:=by simp
    have stop:∀u:List D.Term,∀i:Int,0<n→iterN (fun(s1:Int×Bool×(List D.Term))=>if((decide (s1.1<p.Mem))&&(!s1.2.1))then(ZL p.W s1.1).bind fun x3=>(Zg fuel (D.l06Maker.mk s1.2.1) 14 1 ([(D.Term.mk x3.Op x3.W x3.N x3.Name ([]:List D.Term)),x]:List D.Term)).bind fun x4=>if(!x4.2.bad)then(get? mem s1.1).bind fun x5=>(Zg fuel x4.2 17 p.W ([x4.1,v,x5]:List D.Term)).bind fun x6=>(set? s1.2.2 s1.1 x6.1).bind fun x7=>some (.inl ((w64 (s1.1+1)),x6.2.bad,x7))else some (.inl ((w64 (s1.1+1)),x4.2.bad,s1.2.2))else some (.inr (s1.2.1,s1.2.2)):Int×Bool×List D.Term→Option ((Int×Bool×List D.Term)⊕(Bool×List D.Term))) n (i,true,u)=some (true,u):=fun u i h0=>by
      refine XK ?_ h0;simp
    by_cases c1:(mkT 14 1 0 [⟨0,p.W,(m1.length:Int),⟨[]⟩,[]⟩,x]).2=true
    · have hf1:fine (mkT 14 1 0 [⟨0,p.W,(m1.length:Int),⟨[]⟩,[]⟩,x]).1:=(Xb c1).1
      have em2:=X5 (fuel:=fuel) (b:=false) (op:=17) (w:=p.W) (ks:=[(mkT 14 1 0 [⟨0,p.W,(m1.length:Int),⟨[]⟩,[]⟩,x]).1,v,t]) (sml3f hf1 hv ht.1);have ecel:cel p.W (m1.length:Int) x v t=mkT 17 p.W 0 [(mkT 14 1 0 [⟨0,p.W,(m1.length:Int),⟨[]⟩,[]⟩,x]).1,v,t]:=by unfold cel kT;rw[ZmE c1]
      by_cases c2:(mkT 17 p.W 0 [(mkT 14 1 0 [⟨0,p.W,(m1.length:Int),⟨[]⟩,[]⟩,x]).1,v,t]).2=true
      · have hl:stG p.W x v m1.length (t::m2)=((mkT 17 p.W 0 [(mkT 14 1 0 [⟨0,p.W,(m1.length:Int),⟨[]⟩,[]⟩,x]).1,v,t]).1::(stG p.W x v (m1.length+1) m2).1,(stG p.W x v (m1.length+1) m2).2):=by
          conv=>lhs;unfold stG
          rw[ecel,ZmE c2]
        obtain⟨l',h1,h2,h3⟩:=ih (m1++[t]) (done++[(mkT 17 p.W 0 [(mkT 14 1 0 [⟨0,p.W,(m1.length:Int),⟨[]⟩,[]⟩,x]).1,v,t]).1]) rest n (by rw[he];simp) (by simp[hd]) (by omega) (by omega);rw[el]at h1 h3;simp only[ZnB,ZnD]at h1 h3;rw[hl];refine⟨l',?_,h2,h3⟩;rw[←h1];refine Zbj ?_;simp only[hc,ZnC,ZmT,Zi,Zm9,em,c1,ZmH,Zo0,Zny,hg,em2,c2];rw[set_mid (by rw[hd])];simp only[Zm9,e1,el]
      · have c2':(mkT 17 p.W 0 [(mkT 14 1 0 [⟨0,p.W,(m1.length:Int),⟨[]⟩,[]⟩,x]).1,v,t]).2=false:=by simpa using c2
        have hl:stG p.W x v m1.length (t::m2)=([],false):=by
          conv=>lhs;unfold stG
          rw[ecel,ZmD c2]
        rw[hl];refine⟨done++(mkT 17 p.W 0 [(mkT 14 1 0 [⟨0,p.W,(m1.length:Int),⟨[]⟩,[]⟩,x]).1,v,t]).1::rest,?_,by simp;omega,fun h=>by cases h⟩;rw[Zbj (s':=(w64 ((m1.length:Int)+1),true,done++(mkT 17 p.W 0 [(mkT 14 1 0 [⟨0,p.W,(m1.length:Int),⟨[]⟩,[]⟩,x]).1,v,t]).1::rest)),stop _ _ (by omega)]
        · rfl
        · simp only[hc,ZnC,ZmT,Zi,Zm9,em,c1,ZmH,Zo0,Zny,hg,em2,c2',ZmZ]
          rw[set_mid (by rw[hd])];simp only[Zm9]
    · have c1':(mkT 14 1 0 [⟨0,p.W,(m1.length:Int),⟨[]⟩,[]⟩,x]).2=false:=by simpa using c1
      have hl:stG p.W x v m1.length (t::m2)=([],false):=by
        conv=>lhs;unfold stG
        have:cel p.W (m1.length:Int) x v t=(t0,false):=by unfold cel kT;rw[ZmD c1]
        rw[this];rfl
      rw[hl];refine⟨done++r::rest,?_,by simp;omega,fun h=>by cases h⟩;rw[Zbj (s':=(w64 ((m1.length:Int)+1),true,done++r::rest)),stop _ _ (by omega)]
      · rfl
      · simp only[hc,ZnC,ZmT,Zi,Zm9,em,c1',Zny,Bool.or_true,ZmH,ZmA,ZmI,ZmZ]
theorem Zh0{p:D.Program}{s:D.Path}{x v:D.Term}(hp:progB p=true)(hm:(s.Mem.length:Int)=p.Mem)(hf:fw p.W s.Mem)(hx:fine x)(hv:fine v)(hc:x.Op=0→0≤x.N∧x.N<p.Mem):
  ∃l',YD fuel ⟨false⟩ p s x v=some (l',⟨!(store p.W s.Mem x v).2⟩)∧l'.length=s.Mem.length∧((store p.W s.Mem x v).2=true→l'=(store p.W s.Mem x v).1):=by
 have hm6:=Yg hp;unfold YD store;rw[ZlS (by omega)];simp only[Zm9];by_cases c:x.Op=0
 ·obtain⟨n0,n1⟩:=hc c;refine⟨s.Mem.set x.N.toNat v,?_,by simp,fun _=>by rw[ZmE c]⟩;rw[ZmE (by simpa using c),ZmE c,ZhU n0 (by omega)];rfl
 ·obtain⟨l',h1,h2,h3⟩:=ZlB (fuel:=fuel) hp hm hf hx hv s.Mem [] [] s.Mem fuel rfl rfl rfl (by have:=FU.le (n:=fuel);omega);simp only[Znz,List.nil_append]at h1 h3;rw[show((0:Nat):Int)=0 from rfl]at h1;refine⟨l',?_,h2,fun h=>?_⟩
  ·rw[ZmD (by simpa using c),ZmD c,h1];simp only[Zm9];cases h:(stG p.W x v 0 s.Mem).2<;>simp
  ·rw[ZmD c]at h⊢;by_cases d:(stG p.W x v 0 s.Mem).2=true
   ·rw[ZmE d];exact h3 d
   ·rw[ZmD d]at h;cases h
theorem Zhz{p:D.Program}{s:D.Path}{x v:D.Term}(hf:fw p.W s.Mem)(hv:fine v∧v.W=p.W)(h:(store p.W s.Mem x v).2=true):fw p.W (store p.W s.Mem x v).1∧(store p.W s.Mem x v).1.length=s.Mem.length:=by
 unfold store at h⊢;by_cases c:x.Op=0
 ·rw[ZmE c];exact⟨ZjH hf hv,by simp⟩
 ·rw[ZmD c]at h⊢;by_cases d:(stG p.W x v 0 s.Mem).2=true
  ·rw[ZmE d];exact⟨ZjA d,Zi7 d⟩
  ·rw[ZmD d]at h;cases h
end Go.Proofs.YtbidabmbbieeiabGreatDoor
end
section
namespace Go.Proofs.YtbidabmbbieeiabGreatDoor
open Go.GL
set_option linter.unusedSimpArgs false
set_option maxRecDepth 100000
variable{fuel:Nat}[FU fuel]
structure insF(w n:Int)(i:D.Ins):Prop where
 op:1≤i.Op∧i.Op≤14
 a:i.Op≠9→i.Op≠11→i.Op≠12→i.Op≠14→0≤i.A∧i.A<4
 b:i.Op=2∨i.Op=3∨i.Op=7∨i.Op=8→0≤i.B∧i.B<4
 v:i.Op=1→wordB w i.B=true
 c:i.Op=3→3≤i.C∧i.C≤16
 t:i.Op=9∨i.Op=10∨i.Op=11→0≤i.B∧i.B≤n
theorem Zm0(a:Int):Y7 a=some (decide (0≤a∧a<4)):=by
 unfold Y7 Zl;by_cases h:0≤a∧a<4
 ·have h1:=h.1;have h2:a≤3:=by omega
  simp[h1,h2,h]
 ·have:¬(0≤a∧a≤3):=by omega
  simp only[decide_eq_false h,Option.some.injEq];simp;omega
theorem Zj7{w n:Int}{i:D.Ins}(h:insB w n i=true):insF w n i:=by
 unfold insB Xv Zl at h;simp only[Zm0,YU,Zm9]at h;by_cases c:1≤i.Op∧i.Op≤14
 ·have:i.Op=1∨i.Op=2∨i.Op=3∨i.Op=4∨i.Op=5∨i.Op=6∨i.Op=7∨i.Op=8∨i.Op=9∨i.Op=10∨i.Op=11∨i.Op=12∨i.Op=13∨i.Op=14:=by omega
  rcases this with c|c|c|c|c|c|c|c|c|c|c|c|c|c<;>simp[c,Zl]at h
  all_goals(by_cases ha:0≤i.A∧i.A<4)
  all_goals(by_cases hb:0≤i.B∧i.B<4)
  all_goals(try simp[ha,hb]at h)
  all_goals(first
   |(exfalso;omega)
   |exact⟨by omega,fun _ _ _ _=>by omega,fun _=>by omega,fun e=>by first|omega|exact h.1|exact h.2.1|simp_all,fun _=>by omega,fun _=>by omega⟩)
 ·exfalso;have n1:∀k:Int,1≤k→k≤14→i.Op≠k:=fun k h1 h2 e=>c (by omega);simp[n1 1,n1 2,n1 3,n1 4,n1 5,n1 6,n1 7,n1 8,n1 9,n1 10,n1 11,n1 12,n1 13,n1 14]at h
theorem Zfq{p:D.Program}(hp:progB p=true){i:D.Ins}(hi:i∈p.Code):insF p.W p.Code.length i:=by
 unfold progB at hp;simp only[ZmC,ZmL]at hp;exact Zj7 (hp.2 i hi)
noncomputable def qad(p:D.Program)(x:D.Term):D.Term×Bool×Bool:=
 if(mkT 15 1 0 [x,kT p.W p.Mem]).2=true then((mkT 1 1 0 [(mkT 15 1 0 [x,kT p.W p.Mem]).1]).1,true,(mkT 1 1 0 [(mkT 15 1 0 [x,kT p.W p.Mem]).1]).2)else(t0,true,false)
noncomputable def qze(p:D.Program)(x:D.Term):D.Term×Bool×Bool:=((mkT 14 1 0 [kT p.W 0,x]).1,true,(mkT 14 1 0 [kT p.W 0,x]).2)
noncomputable def qst(p:D.Program)(rs:List D.Term)(i:D.Ins):D.Term×Bool×Bool:=
 if i.Op=10∨i.Op=13 then qze p (rg rs i.A)
 else if i.Op=3 then(if i.C=6∨i.C=7 then qze p (rg rs i.B)else(t0,false,true))
 else if i.Op=7 then qad p (rg rs i.B)
 else if i.Op=8 then qad p (rg rs i.A)
 else(t0,false,true)
theorem Zei{p:D.Program}(hp:progB p=true):wordB p.W 0=true:=Zce hp (by omega) (by have:=Yg hp;omega)
theorem ZgU{p:D.Program}(hp:progB p=true){x:D.Term}(hx:fine x):ZK fuel 14 1 0 [⟨0,p.W,0,⟨[]⟩,[]⟩,x]=some ((qze p x).1,(qze p x).2.2):=Zb6 (fuel:=fuel) (sml2f (ZbS (Zei hp)) hx)
theorem ZfA{p:D.Program}{s:D.Path}{i:D.Ins}(hp:progB p=true)(hs:okP p s)(hi:insF p.W p.Code.length i):Za3 fuel p s i=some (qst p s.Regs i):=by
 have hz:=Zei hp;have hm:=(Yg hp).1;have hr:∀k:Int,0≤k∧k<4→get? s.Regs k=some (rg s.Regs k)∧fine (rg s.Regs k):=fun k hk=>⟨Zcb hk.1 (by have:=hs.rl;omega),(Zcl hs.rf hk.1 (by have:=hs.rl;omega)).1⟩;have had:∀x:D.Term,fine x→((ZK fuel 15 1 0 [x,⟨0,p.W,p.Mem,⟨[]⟩,[]⟩]).bind fun x8=>if(!x8.2)then some ((D.Term.mk 0 0 0 ⟨[]⟩ ([]:List D.Term)),true,false)else(ZK fuel 1 1 0 ([x8.1]:List D.Term)).bind fun x9=>some (x9.1,true,x9.2))=some (qad p x):=by
  intro x hx;have:=Zb6 (fuel:=fuel) (op:=15) (w:=1) (m:=0) (sml2f hx (ZbS hm));unfold kT at this;rw[this];simp only[Zm9];unfold qad kT;by_cases c:(mkT 15 1 0 [x,⟨0,p.W,p.Mem,⟨[]⟩,[]⟩]).2=true
  ·rw[ZmE c,ZmD (by rw[c];simp),Zb6 (sml1f (Xb c).1)];rfl
  ·rw[ZmD c,ZmE (by simpa using c)];rfl
 unfold Za3 qst;rw[ZX hz];simp only[Zm9];by_cases c1:i.Op=10∨i.Op=13
 ·obtain⟨g,f⟩:=hr i.A (hi.a (by omega) (by omega) (by omega) (by omega));rw[ZmE (by simpa using c1),ZmE c1,g];simp only[Zm9];rw[ZgU hp f];rfl
 ·rw [ZmD (by simpa using c1),ZmD c1]
  by_cases c2:i.Op=3
  ·rw[ZmE (by simpa using c2),ZmE c2];by_cases c3:i.C=6∨i.C=7
   ·obtain⟨g,f⟩:=hr i.B (hi.b (by omega));rw[ZmD (by simp;omega),ZmE c3,g];simp only[Zm9];rw[ZgU hp f];rfl
   ·rw[ZmE (by simp;omega),ZmD c3];rfl
  ·rw[ZmD (by simpa using c2),ZmD c2];by_cases c4:i.Op=7
   ·obtain⟨g,f⟩:=hr i.B (hi.b (by omega));rw[ZmE (by simpa using c4),ZmE c4];simp only[Zm9];rw[g,ZX hm];simp only[Zm9];exact had _ f
   ·rw[ZmD (by simpa using c4),ZmD c4];by_cases c5:i.Op=8
    ·obtain⟨g,f⟩:=hr i.A (hi.a (by omega) (by omega) (by omega) (by omega));rw[ZmE (by simpa using c5),ZmE c5];simp only[Zm9];rw[g,ZX hm];simp only[Zm9];exact had _ f
    ·rw[ZmD (by simpa using c5),ZmD c5];rfl
theorem ZfD{p:D.Program}{s:D.Path}{i:D.Ins}(hp:progB p=true)(hs:okP p s)(hi:insF p.W p.Code.length i):
  ∃t',Y4 fuel ⟨false⟩ p s i=some (t',(qst p s.Regs i).2.1,⟨!(qst p s.Regs i).2.2⟩)∧((qst p s.Regs i).2.2=true→t'=(qst p s.Regs i).1):=by
 have hz:=Zei hp;have hm:=(Yg hp).1;have hr:∀k:Int,0≤k∧k<4→get? s.Regs k=some (rg s.Regs k)∧fine (rg s.Regs k):=fun k hk=>⟨Zcb hk.1 (by have:=hs.rl;omega),(Zcl hs.rf hk.1 (by have:=hs.rl;omega)).1⟩;have hqz:∀x:D.Term,fine x→Zg fuel ⟨false⟩ 14 1 [⟨0,p.W,0,⟨[]⟩,[]⟩,x]=some ((qze p x).1,⟨!(qze p x).2.2⟩):=fun x hx=>by
  rw[X5 (b:=false) (sml2f (a:=⟨0,p.W,0,⟨[]⟩,[]⟩) (ZbS hz) hx)];rfl
 have had:∀x:D.Term,fine x→∃t',((Zg fuel ⟨false⟩ 15 1 [x,⟨0,p.W,p.Mem,⟨[]⟩,[]⟩]).bind fun x9=>if x9.2.bad then some (x9.1,true,x9.2)else(Zg fuel x9.2 1 1 ([x9.1]:List D.Term)).bind fun x10=>some (x10.1,true,x10.2))=some (t',true,⟨!(qad p x).2.2⟩)∧(qad p x).2.1=true∧((qad p x).2.2=true→t'=(qad p x).1):=by
  intro x hx;rw[X5 (b:=false) (sml2f (b:=⟨0,p.W,p.Mem,⟨[]⟩,[]⟩) hx (ZbS hm))];simp only[Zm9];unfold qad kT;by_cases c:(mkT 15 1 0 [x,⟨0,p.W,p.Mem,⟨[]⟩,[]⟩]).2=true
  ·refine⟨(mkT 1 1 0 [(mkT 15 1 0 [x,⟨0,p.W,p.Mem,⟨[]⟩,[]⟩]).1]).1, ?_,by rw[ZmE c],fun _=>by rw[ZmE c]⟩;rw[ZmD (by rw[c];simp),c,ZmE rfl];rw[show(false|| !true)=false from rfl,X5 (b:=false) (sml1f (Xb c).1)];rfl
  ·refine⟨(mkT 15 1 0 [x,⟨0,p.W,p.Mem,⟨[]⟩,[]⟩]).1, ?_,by rw[ZmD c],fun h=>by rw[ZmD c]at h;cases h⟩;have c':(mkT 15 1 0 [x,⟨0,p.W,p.Mem,⟨[]⟩,[]⟩]).2=false:=by simpa using c
   rw[c',ZmE (by simp),ZmD (by simp)];rfl
 unfold Y4 qst;rw[Zi];simp only[Zm9];by_cases c1:i.Op=10∨i.Op=13
 ·obtain⟨g,f⟩:=hr i.A (hi.a (by omega) (by omega) (by omega) (by omega));rw[ZmE (by simpa using c1),ZmE c1,g];simp only[Zm9];rw[hqz _ f];exact⟨_,rfl,fun _=>rfl⟩
 ·rw [ZmD (by simpa using c1),ZmD c1]
  by_cases c2:i.Op=3
  ·rw[ZmE c2];by_cases c3:i.C=6∨i.C=7
   ·obtain⟨g,f⟩:=hr i.B (hi.b (by omega));rw[ZmE (by simp;omega),ZmE c3,g];simp only[Zm9];rw[hqz _ f];exact⟨_,rfl,fun _=>rfl⟩
   ·rw[ZmD (by simp;omega),ZmD (by simp;omega),ZmD c3];exact⟨_,rfl,fun _=>rfl⟩
  ·rw[ZmD (by simp;omega),ZmD c2];by_cases c4:i.Op=7
   ·obtain⟨g,f⟩:=hr i.B (hi.b (by omega));rw[ZmE (by simp;omega),ZmE c4,g,Zi];simp only[Zm9];rw[ZmD (by simp;omega)];obtain⟨t',h1,h2,h3⟩:=had _ f;rw[h1,h2];exact⟨t',rfl,h3⟩
   ·rw[ZmD c4];by_cases c5:i.Op=8
    ·obtain⟨g,f⟩:=hr i.A (hi.a (by omega) (by omega) (by omega) (by omega));obtain⟨g2,f2⟩:=hr i.B (hi.b (by omega));rw[ZmE (by simp;omega),ZmE c5,g,g2,Zi];simp only[Zm9];rw[ZmE (by simp;omega)];obtain⟨t',h1,h2,h3⟩:=had _ f;rw[h1,h2];exact⟨t',rfl,h3⟩
    ·rw[ZmD (by simp;omega),ZmD c5];exact⟨_,rfl,fun _=>rfl⟩
end Go.Proofs.YtbidabmbbieeiabGreatDoor
end
section
namespace Go.Proofs.YtbidabmbbieeiabGreatDoor
open Go.GL
set_option linter.unusedSimpArgs false
set_option maxRecDepth 100000
variable{fuel:Nat}[FU fuel]
theorem ZgQ{op w m:Int}{ks:List D.Term}(h:(mkT op w m ks).2=true)(hne:ks≠[])(hl:ks.length≤3)(hc:(ks.all fun x=>x.Op==0)=true):∃v,Ya ⟨op,w,m,⟨[]⟩,ks⟩ (ks.map (·.N))=some v∧mkT op w m ks=(kT w v,true):=by
 unfold mkT at h⊢;split at h
 ·rename_i c;rw[ZmE c];obtain⟨a,b⟩:=ZbX c;obtain⟨v,hv,h1,h2⟩:=known a hne hc;refine⟨v,h1,?_⟩;have e:ZF fuel0 ⟨op,w,m,⟨[]⟩,ks⟩=some (kT w v):=by
   obtain⟨k,hk,hk2⟩:∃k,fuel0=k+1∧1000≤k:=⟨fuel0-1,by have:=FU.le (n:=fuel0);omega,by have:=FU.le (n:=fuel0);omega⟩;rw[hk,ZF,ZmD (by rw[Zf];simpa using hne),Zdq (ks:=ks) (n:=k) (by omega) (by omega),hc];simp only[Zm9,ZmT,h2 k (by omega),ZX hv];rfl
  unfold simp1;rw[e];rfl
 ·cases h
theorem ZfR{p:D.Program}{x:D.Term}(hp:progB p=true)(hx:fine x)(hw:x.W=p.W)(h0:x.Op=0)(hok:(qad p x).2.2=true)(hn:¬((qad p x).1.Op=0∧(qad p x).1.N=1)):0≤x.N∧x.N<p.Mem:=by
 obtain⟨ex,vx⟩:=Xa hx.1 (by simp[h0]);have hm:=Yg hp;have hx0:0≤x.N:=by
  rw[hw,ZZ (by omega) (by omega)]at vx;omega
 refine⟨hx0,?_⟩;unfold qad at hok hn;split at hok
 ·rename_i c;rw[ZmE c]at hn;obtain⟨v,a1,a2⟩:=ZgQ c (by simp) (by simp) (by simp[h0,kT]);rw[a2]at hok hn;obtain⟨u,b1,b2⟩:=ZgQ hok (by simp) (by simp) (by simp[kT]);rw[b2]at hn;refine Decidable.byContradiction fun hlt=>hn ⟨rfl,?_⟩;have ev:v=0:=by
   have:Ya ⟨15,1,0,⟨[]⟩,[x,kT p.W p.Mem]⟩ ([x,kT p.W p.Mem].map (·.N))=some 0:=by
    have e1:ZG x.W x.N=some true:=by rw[YU,vx]
    have e2:ZG x.W p.Mem=some true:=by rw[YU,hw,hm.1]
    simp[Ya,Zl,kT,get?,Yx,e1,e2,Xz,hlt]
   rw[this]at a1;exact(Option.some.inj a1).symm
  subst ev;have:Ya ⟨1,1,0,⟨[]⟩,[kT 1 0]⟩ ([kT 1 0].map (·.N))=some 1:=by decide+kernel
  rw[this]at b1;exact(Option.some.inj b1).symm
 ·cases hok
theorem Zcy{p:D.Program}{s:D.Path}{i:D.Ins}(hp:progB p=true)(hs:okP p s)(hi:insF p.W p.Code.length i)(hok:(qst p s.Regs i).2.2=true)(hn:¬((qst p s.Regs i).1.Op=0∧(qst p s.Regs i).1.N=1)):
  (i.Op=7→(rg s.Regs i.B).Op=0→0≤(rg s.Regs i.B).N∧(rg s.Regs i.B).N<p.Mem)∧(i.Op=8→(rg s.Regs i.A).Op=0→0≤(rg s.Regs i.A).N∧(rg s.Regs i.A).N<p.Mem):=by
 constructor
 ·intro c h0;unfold qst at hok hn;rw[ZmD (by omega),ZmD (by omega),ZmE c]at hok hn;obtain⟨b0,b1⟩:=hi.b (by omega);have:=Zcl hs.rf b0 (by have:=hs.rl;omega);exact ZfR hp this.1 this.2 h0 hok hn
 ·intro c h0;unfold qst at hok hn;rw[ZmD (by omega),ZmD (by omega),ZmD (by omega),ZmE c]at hok hn;obtain⟨b0,b1⟩:=hi.a (by omega) (by omega) (by omega) (by omega);have:=Zcl hs.rf b0 (by have:=hs.rl;omega);exact ZfR hp this.1 this.2 h0 hok hn
end Go.Proofs.YtbidabmbbieeiabGreatDoor
end
section
namespace Go.Proofs.YtbidabmbbieeiabGreatDoor
open Go.GL
set_option linter.unusedSimpArgs false
set_option maxRecDepth 100000
variable{fuel:Nat}[FU fuel]
def rwd(c w:Int):Int:=if 14≤c then 1 else w
theorem Zfd{c w:Int}(hw:1≤w∧w≤16)(hc:1≤c∧c≤16):Xe c w=some (rwd c w):=by
 unfold Xe Zl rwd;have h1:=hw.1;have h2:=hw.2;have h3:=hc.1;have h4:=hc.2;by_cases h:14≤c<;>simp[h1,h2,h3,h4,h]
theorem ZjS{c w:Int}(hw:1≤w∧w≤16)(hc:1≤c∧c≤16):X6 c w=some (rwd c w):=by
 unfold X6 ZA rwd;have h1:=hw.1;have h2:=hw.2;have h3:¬c<1:=by omega
 have h4:¬16<c:=by omega
 by_cases h:14≤c<;>simp[h1,h2,h3,h4,h]
noncomputable def opd(p:D.Program)(c:Int)(a b:D.Term):D.Term×Bool:=
 if(mkT c (rwd c p.W) 0 [a,b]).2=true∧14≤c then mkT 20 p.W 0 [(mkT c (rwd c p.W) 0 [a,b]).1]else mkT c (rwd c p.W) 0 [a,b]
theorem ZjJ{p:D.Program}{c:Int}{a b:D.Term}(h:(opd p c a b).2=true):fine (opd p c a b).1∧(opd p c a b).1.W=p.W:=by
 unfold opd at h⊢;split at h
 ·rename_i e;rw[ZmE e];exact Xb h
 ·rename_i e;rw[ZmD e];have:=Xb h;refine⟨this.1,this.2.trans ?_⟩;unfold rwd;rw[ZmD (fun h14=>e ⟨h,h14⟩)]
theorem ZkG{p:D.Program}{c:Int}{a b:D.Term}(hp:progB p=true)(hc:3≤c∧c≤16)(ha:fine a)(hb:fine b):Zaz fuel p c a b=some (opd p c a b):=by
 have hm:=Yg hp;unfold Zaz opd;rw[ZjS (by omega) (by omega)];simp only[Zm9];rw[Zb6 (sml2f ha hb)];simp only[Zm9];by_cases h:(mkT c (rwd c p.W) 0 [a,b]).2=true
 ·by_cases h14:14≤c
  ·rw[ZmD (by rw[h];simp;omega),ZmE ⟨h,h14⟩,Zb6 (sml1f (Xb h).1)];rfl
  ·rw[ZmE (by rw[h];simp;omega),ZmD (fun e=>h14 e.2)]
 ·rw[ZmE (by simp;left;simpa using h),ZmD (fun e=>h e.1)]
theorem ZkX{p:D.Program}{c:Int}{a b:D.Term}(hp:progB p=true)(hc:3≤c∧c≤16)(ha:fine a)(hb:fine b){β:Type}(f:D.Term→D.l06Maker→Option β):
  ((Xe c p.W).bind fun x8=>(Zg fuel ⟨false⟩ c x8 [a,b]).bind fun x11=>if((decide (c≥14))&&(!x11.2.bad))then(Zg fuel x11.2 20 p.W ([x11.1]:List D.Term)).bind fun x12=>f x12.1 x12.2 else f x11.1 x11.2)=f (opd p c a b).1 ⟨!(opd p c a b).2⟩:=by
 have hm:=Yg hp;rw[Zfd (by omega) (by omega)];simp only[Zm9];rw[X5 (sml2f ha hb)];simp only[Zm9];unfold opd;by_cases h:(mkT c (rwd c p.W) 0 [a,b]).2=true
 ·by_cases h14:14≤c
  ·rw[ZmE (by rw[h];simp;omega),ZmE ⟨h,h14⟩,h,show(false|| !true)=false from rfl,X5 (sml1f (Xb h).1)];rfl
  ·rw[ZmD (by rw[h];simp;omega),ZmD (fun e=>h14 e.2)];rfl
 ·have h':(mkT c (rwd c p.W) 0 [a,b]).2=false:=by simpa using h
  rw[ZmD (by rw[h'];simp),ZmD (fun e=>h e.1)];rfl
theorem ZfZ{k:Int}(h0:0≤k)(h9:k≤9):Yq fuel k=cat? (strOf [Byt.mk (IntKind.u8.wrap (w64 (48+k)))]) ⟨[]⟩:=by
 obtain⟨n,hn⟩:∃n,fuel=n+2:=⟨fuel-2,by have:=FU.le (n:=fuel);omega⟩;rw[hn,Yq,ZmD (by simp;omega),XK (r:=(k,⟨[]⟩)) (by simp;omega) (by omega)];simp only[Zm9];exact Ze _
def inT(w k:Int):D.Term:=⟨22,w,0,if k=0 then⟨[105,48]⟩else if k=1 then⟨[105,49]⟩else⟨[105,50]⟩,[]⟩
theorem Zlk{p:D.Program}{k:Int}(h0:0≤k)(h2:k≤2):Za0 fuel p k=some (inT p.W k):=by
 unfold Za0 inT;rw[ZfZ h0 (by omega)];have:k=0∨k=1∨k=2:=by omega
 rcases this with rfl|rfl|rfl
 ·rw[show cat? (strOf [Byt.mk (IntKind.u8.wrap (w64 (48+0)))]) ⟨[]⟩=some ⟨[48]⟩from by decide+kernel];simp only[Zm9];rw[show cat? ⟨[105]⟩ ⟨[48]⟩=some ⟨[105,48]⟩from by decide+kernel];rfl
 ·rw[show cat? (strOf [Byt.mk (IntKind.u8.wrap (w64 (48+1)))]) ⟨[]⟩=some ⟨[49]⟩from by decide+kernel];simp only[Zm9];rw[show cat? ⟨[105]⟩ ⟨[49]⟩=some ⟨[105,49]⟩from by decide+kernel];rfl
 ·rw[show cat? (strOf [Byt.mk (IntKind.u8.wrap (w64 (48+2)))]) ⟨[]⟩=some ⟨[50]⟩from by decide+kernel];simp only[Zm9];rw[show cat? ⟨[105]⟩ ⟨[50]⟩=some ⟨[105,50]⟩from by decide+kernel];rfl
theorem Zlj{p:D.Program}(hp:progB p=true){k:Int}(h0:0≤k)(h2:k≤2):((ZW k).bind fun x12=>(cat? ⟨[105]⟩ x12).bind fun x13=>Y1 fuel p.W x13)=some (inT p.W k):=by
 have hm:=Yg hp;have hw:ZA p.W=some true:=by
  unfold ZA;have h1:1≤p.W:=by omega
  have h2:p.W≤16:=by omega
  simp[h1,h2]
 unfold inT;have:k=0∨k=1∨k=2:=by omega
 have hv:∀s:Str,s.bytes.length≤100→nameB s=true→Y1 fuel p.W s=some ⟨22,p.W,0,s,[]⟩:=fun s hl hn=>by
  unfold Y1;rw[hw];simp only[Zm9,ZmH,ZmA,ZmI];rw[ZdV (by omega) (by have:=FU.le (n:=fuel);omega),hn];rfl
 rcases this with rfl|rfl|rfl
 ·rw[show ZW 0=some ⟨[48]⟩from by decide+kernel];simp only[Zm9];rw[show cat? ⟨[105]⟩ ⟨[48]⟩=some ⟨[105,48]⟩from by decide+kernel];simp only[Zm9];rw[hv _ (by decide) (by decide+kernel)];rfl
 ·rw[show ZW 1=some ⟨[49]⟩from by decide+kernel];simp only[Zm9];rw[show cat? ⟨[105]⟩ ⟨[49]⟩=some ⟨[105,49]⟩from by decide+kernel];simp only[Zm9];rw[hv _ (by decide) (by decide+kernel)];rfl
 ·rw[show ZW 2=some ⟨[50]⟩from by decide+kernel];simp only[Zm9];rw[show cat? ⟨[105]⟩ ⟨[50]⟩=some ⟨[105,50]⟩from by decide+kernel];simp only[Zm9];rw[hv _ (by decide) (by decide+kernel)];rfl
theorem ZjI{p:D.Program}(hp:progB p=true){k:Int}:fine (inT p.W k)∧(inT p.W k).W=p.W:=by
 have hm:=Yg hp;refine⟨⟨?_,by unfold inT;rw[XT];simp only[XN];omega⟩,rfl⟩;have w1:1≤p.W:=by omega
 have w2:p.W≤16:=by omega
 have hn:nameB (inT p.W k).Name=true:=by
  unfold inT;by_cases c:k=0
  ·simp only[c,ZmT];decide+kernel
  ·by_cases d:k=1
   ·simp only[d,ZmT];decide+kernel
   ·simp only[c,d,ZmI];decide+kernel
 rw[Xx,ZY];simp only[locB,shB,hn];simp[inT,w1,w2]
end Go.Proofs.YtbidabmbbieeiabGreatDoor
end
section
namespace Go.Proofs.YtbidabmbbieeiabGreatDoor
open Go.GL
set_option linter.unusedSimpArgs false
set_option maxRecDepth 100000
variable{fuel:Nat}[FU fuel]
def stk(p:D.Program)(s:D.Path)(i:D.Ins):Int:=
 if i.Op=5∧s.In=p.In then 3 else if i.Op=6∧s.Out.length=6 then 4 else if i.Op=11∧s.Stack.length=3 then 7 else if i.Op=12∧s.Stack.length=0 then 7 else 0
noncomputable def flw(p:D.Program)(s:D.Path)(i:D.Ins):D.Path×Bool:=
 if i.Op=1 then({s with Pc:=s.Pc+1,Regs:=s.Regs.set i.A.toNat (kT p.W i.B)},true)
 else if i.Op=2 then({s with Pc:=s.Pc+1,Regs:=s.Regs.set i.A.toNat (rg s.Regs i.B)},true)
 else if i.Op=3 then({s with Pc:=s.Pc+1,Regs:=s.Regs.set i.A.toNat (opd p i.C (rg s.Regs i.A) (rg s.Regs i.B)).1},(opd p i.C (rg s.Regs i.A) (rg s.Regs i.B)).2)
 else if i.Op=4 then({s with Pc:=s.Pc+1,Regs:=s.Regs.set i.A.toNat (mkT 1 p.W 0 [rg s.Regs i.A]).1},(mkT 1 p.W 0 [rg s.Regs i.A]).2)
 else if i.Op=5 then({s with Pc:=s.Pc+1,Regs:=s.Regs.set i.A.toNat (inT p.W s.In),In:=s.In+1},true)
 else if i.Op=6 then({s with Pc:=s.Pc+1,Out:=s.Out++[rg s.Regs i.A]},true)
 else if i.Op=7 then({s with Pc:=s.Pc+1,Regs:=s.Regs.set i.A.toNat (load p.W s.Mem (rg s.Regs i.B)).1},(load p.W s.Mem (rg s.Regs i.B)).2)
 else if i.Op=8 then({s with Pc:=s.Pc+1,Mem:=(store p.W s.Mem (rg s.Regs i.A) (rg s.Regs i.B)).1},(store p.W s.Mem (rg s.Regs i.A) (rg s.Regs i.B)).2)
 else if i.Op=9 then({s with Pc:=i.B},true)
 else if i.Op=11 then({s with Pc:=i.B,Stack:=s.Stack++[s.Pc+1]},true)
 else if i.Op=12 then({s with Pc:=(s.Stack[s.Stack.length-1]?).getD 0,Stack:=s.Stack.take (s.Stack.length-1)},true)
 else if i.Op=14 then({s with Code:=1},true)
 else({s with Pc:=s.Pc+1},true)
theorem ZhX{l:List Int}(h:0<l.length)(h9:l.length≤9):get? l (w64 (len l-1))=some ((l[l.length-1]?).getD 0)∧cut? l 0 (w64 (len l-1))=some (l.take (l.length-1)):=by
 have e:w64 (len l-1)=((l.length-1:Nat):Int):=by rw[Zf,Zm (by omega) (by omega)];omega
 rw[e];constructor
 ·rw[get?_nat,ZmF (by omega)];rfl
 ·unfold cut?;rw[ZmE (by omega)];simp
theorem Zlu{l:List Int}(h:l.length≤100):Z9 l=some l:=by
 unfold Z9;rw[ZfJ h];rfl
theorem Zho{p:D.Program}{s:D.Path}{i:D.Ins}(hp:progB p=true)(hs:okP p s)(hi:insF p.W p.Code.length i)(hpc:s.Pc<p.Code.length)(hk:stk p s i=0)
  (h7:i.Op=7→(rg s.Regs i.B).Op=0→0≤(rg s.Regs i.B).N∧(rg s.Regs i.B).N<p.Mem)(h8:i.Op=8→(rg s.Regs i.A).Op=0→0≤(rg s.Regs i.A).N∧(rg s.Regs i.A).N<p.Mem):Za7 fuel p s i=some (flw p s i):=by
 have hm:=Yg hp;have hl:=hs.rl;have hcl:(p.Code.length:Int)≤40:=by
  unfold progB at hp;simp only[ZmC,ZmK]at hp;omega
 have hin:=ZcV hp;have e1:w64 (s.Pc+1)=s.Pc+1:=Zm (by have:=hs.pc.1;omega) (by omega);have e2:w64 (s.In+1)=s.In+1:=Zm (by have:=hs.inn;omega) (by have:=hs.inn;omega);have hr:∀k:Int,0≤k∧k<4→get? s.Regs k=some (rg s.Regs k)∧fine (rg s.Regs k):=fun k hk=>⟨Zcb hk.1 (by omega),(Zcl hs.rf hk.1 (by omega)).1⟩;have hput:∀t:D.Term,0≤i.A∧i.A<4→XP s.Regs i.A t=some (s.Regs.set i.A.toNat t):=fun t ha=>put_eq (by omega) ha.1 (by omega);have hop:=hi.op;have hc:i.Op=1∨i.Op=2∨i.Op=3∨i.Op=4∨i.Op=5∨i.Op=6∨i.Op=7∨i.Op=8∨i.Op=9∨i.Op=10∨i.Op=11∨i.Op=12∨i.Op=13∨i.Op=14:=by omega
 have hA:=hi.a;have hB:=hi.b;unfold Za7 flw;rcases hc with c|c|c|c|c|c|c|c|c|c|c|c|c|c<;>simp only[c,Int.reduceBEq,Int.reduceEq,reduceIte,ZmA,e1,e2]
 ·rw[ZX (hi.v c)];simp only[Zm9];rw[hput _ (hA (by omega) (by omega) (by omega) (by omega))];rfl
 ·rw[(hr _ (hB (by omega))).1];simp only[Zm9];rw[hput _ (hA (by omega) (by omega) (by omega) (by omega))];rfl
 ·obtain⟨a1,a2⟩:=hr _ (hA (by omega) (by omega) (by omega) (by omega));obtain⟨b1,b2⟩:=hr _ (hB (by omega));rw[a1,b1];simp only[Zm9];rw[ZkG hp (hi.c c) a2 b2];simp only[Zm9];rw[hput _ (hA (by omega) (by omega) (by omega) (by omega))];rfl
 ·obtain⟨a1,a2⟩:=hr _ (hA (by omega) (by omega) (by omega) (by omega));rw[a1];simp only[Zm9];rw[Zb6 (sml1f a2)];simp only[Zm9];rw[hput _ (hA (by omega) (by omega) (by omega) (by omega))];rfl
 ·have hk3:s.In≠p.In:=fun e=>by unfold stk at hk;rw[ZmE ⟨c,e⟩]at hk;cases hk
  have:=Zlj (fuel:=fuel) hp (k:=s.In) hs.inn.1 (by have:=hs.inn.2;omega);have hf:∀{β:Type}(f:D.Term→Option β),((ZW s.In).bind fun x12=>(cat? ⟨[105]⟩ x12).bind fun x13=>(Y1 fuel p.W x13).bind f)=f (inT p.W s.In):=fun f=>by
   rw[←Zm9 (inT p.W s.In) f,←this];simp only[Option.bind_assoc]
  rw[hf,hput _ (hA (by omega) (by omega) (by omega) (by omega))];rfl
 ·rw[(hr _ (hA (by omega) (by omega) (by omega) (by omega))).1];simp only[Zm9];rw[Zgh (by have:=hs.ol;omega)];rfl
 ·obtain⟨b1,b2⟩:=hr _ (hB (by omega));rw[b1];simp only[Zm9];rw[Zjo hp hs.ml hs.mf b2 (h7 c)];simp only[Zm9];rw[hput _ (hA (by omega) (by omega) (by omega) (by omega))];rfl
 ·obtain⟨a1,a2⟩:=hr _ (hA (by omega) (by omega) (by omega) (by omega));obtain⟨b1,b2⟩:=hr _ (hB (by omega));rw[a1,b1];simp only[Zm9];rw[ZhR hp hs.ml hs.mf a2 b2 (h8 c)];rfl
 ·rw[Zgm (by have:=hs.sl;omega)];rfl
 ·have hk0:s.Stack.length≠0:=fun e=>by unfold stk at hk;rw[ZmD (by omega),ZmD (by omega),ZmD (by omega),ZmE ⟨c,e⟩]at hk;cases hk
  obtain⟨g1,g2⟩:=ZhX (l:=s.Stack) (by omega) (by have:=hs.sl;omega);rw[g1,g2];simp only[Zm9];rw[Zlu (by simp;have:=hs.sl;omega)];rfl
end Go.Proofs.YtbidabmbbieeiabGreatDoor
end
section
namespace Go.Proofs.YtbidabmbbieeiabGreatDoor
open Go.GL
set_option linter.unusedSimpArgs false
set_option maxRecDepth 100000
variable{fuel:Nat}[FU fuel]
theorem Zis{p:D.Program}{s:D.Path}{i:D.Ins}(hp:progB p=true)(hs:okP p s)(h0:s.Code=0)(hi:insF p.W p.Code.length i)(hpc:s.Pc<p.Code.length)(hk:stk p s i=0)
  (h7:i.Op=7→(rg s.Regs i.B).Op=0→0≤(rg s.Regs i.B).N∧(rg s.Regs i.B).N<p.Mem)(h8:i.Op=8→(rg s.Regs i.A).Op=0→0≤(rg s.Regs i.A).N∧(rg s.Regs i.A).N<p.Mem):
  ∃s',ZN fuel ⟨false⟩ p s i=some (s',⟨!(flw p s i).2⟩)∧((flw p s i).2=true→s'=(flw p s i).1):=by
 have hm:=Yg hp;have hl:=hs.rl;have hcl:(p.Code.length:Int)≤40:=by
  unfold progB at hp;simp only[ZmC,ZmK]at hp;omega
 have hin:=ZcV hp;have e1:w64 (s.Pc+1)=s.Pc+1:=Zm (by have:=hs.pc.1;omega) (by omega);have e2:w64 (s.In+1)=s.In+1:=Zm (by have:=hs.inn;omega) (by have:=hs.inn;omega);have hr:∀k:Int,0≤k∧k<4→get? s.Regs k=some (rg s.Regs k)∧fine (rg s.Regs k):=fun k hk=>⟨Zcb hk.1 (by omega),(Zcl hs.rf hk.1 (by omega)).1⟩;have hput:∀t:D.Term,0≤i.A∧i.A<4→set? s.Regs i.A t=some (s.Regs.set i.A.toNat t):=fun t ha=>ZhU ha.1 (by omega) t;have hop:=hi.op;have hc:i.Op=1∨i.Op=2∨i.Op=3∨i.Op=4∨i.Op=5∨i.Op=6∨i.Op=7∨i.Op=8∨i.Op=9∨i.Op=10∨i.Op=11∨i.Op=12∨i.Op=13∨i.Op=14:=by omega
 have hA:=hi.a;have hB:=hi.b;have k5:i.Op=5→(s.In==p.In)=false:=fun c=>by
  have:s.In≠p.In:=fun e=>by unfold stk at hk;rw[ZmE ⟨c,e⟩]at hk;cases hk
  simpa using this
 have k6:i.Op=6→(len s.Out==6)=false:=fun c=>by
  have:s.Out.length≠6:=fun e=>by unfold stk at hk;rw[ZmD (by omega),ZmE ⟨c,e⟩]at hk;cases hk
  rw[Zf];simp;omega
 have k11:i.Op=11→(len s.Stack==3)=false:=fun c=>by
  have:s.Stack.length≠3:=fun e=>by unfold stk at hk;rw[ZmD (by omega),ZmD (by omega),ZmE ⟨c,e⟩]at hk;cases hk
  rw[Zf];simp;omega
 have k12:i.Op=12→(len s.Stack==0)=false∧0<s.Stack.length:=fun c=>by
  have:s.Stack.length≠0:=fun e=>by unfold stk at hk;rw[ZmD (by omega),ZmD (by omega),ZmD (by omega),ZmE ⟨c,e⟩]at hk;cases hk
  exact⟨by rw[Zf];simp;intro e;exact this (by rw[e];rfl),by omega⟩
 unfold ZN;rw[ZaU (hs.fine hp)];simp only[Zm9];unfold flw;rcases hc with c|c|c|c|c|c|c|c|c|c|c|c|c|c
 all_goals simp only[c,Int.reduceBEq,Int.reduceEq,Int.reduceBNe,reduceIte,ZmA,Zn0,Znk,cond_true,cond_false,k5,k6,k11,k12,Zm9,bne_self_eq_false,e1,e2]
 ·rw[Zi];simp only[Zm9];rw[hput _ (hA (by omega) (by omega) (by omega) (by omega))];exact⟨_,rfl,fun _=>by rw[h0];rfl⟩
 ·rw[(hr _ (hB (by omega))).1];simp only[Zm9];rw[hput _ (hA (by omega) (by omega) (by omega) (by omega))];exact⟨_,rfl,fun _=>by rw[h0]⟩
 ·obtain⟨a1,a2⟩:=hr _ (hA (by omega) (by omega) (by omega) (by omega));obtain⟨b1,b2⟩:=hr _ (hB (by omega));rw[a1,b1];simp only[Zm9];have q:=ZkX (fuel:=fuel) (p:=p) hp (hi.c c) a2 b2 (fun t m=>(set? s.Regs i.A t).bind fun x13=>(some (.inl (m.bad,s.Pc+1,s.Mem,s.In,x13,s.Stack,s.Out)):Option ((Bool×Int×List D.Term×Int×List D.Term×List Int×List D.Term)⊕(D.Path×D.l06Maker))));have hcc:=hi.c c;rw[Zfd (by omega) (by omega)]at q;rw[Zfd (by omega) (by omega)];simp only[Zm9]at q⊢;rw[q,hput _ (hA (by omega) (by omega) (by omega) (by omega))];exact⟨_,rfl,fun _=>by rw[h0]⟩
 ·obtain⟨a1,a2⟩:=hr _ (hA (by omega) (by omega) (by omega) (by omega));rw[a1];simp only[Zm9];rw[X5 (sml1f a2)];simp only[Zm9];rw[hput _ (hA (by omega) (by omega) (by omega) (by omega))];exact⟨_,rfl,fun _=>by rw[h0]⟩
 ·have hk3:s.In≠p.In:=fun e=>by have:=k5 c;rw[e]at this;simp at this
  rw[Zlk (p:=p) hs.inn.1 (by have:=hs.inn.2;omega)];simp only[Zm9];rw[hput _ (hA (by omega) (by omega) (by omega) (by omega))];exact⟨_,rfl,fun _=>by rw[h0];rfl⟩
 ·rw[(hr _ (hA (by omega) (by omega) (by omega) (by omega))).1];simp only[Zm9];rw[ZaO (by simp;have:=hs.ol;omega)];exact⟨_,rfl,fun _=>by rw[h0]⟩
 ·obtain⟨a1,a2⟩:=hr _ (hA (by omega) (by omega) (by omega) (by omega));obtain⟨b1,b2⟩:=hr _ (hB (by omega));rw[a1,b1];simp only[Zm9];obtain⟨t',q1,q2⟩:=ZiV (fuel:=fuel) (s:=D.Path.mk (s.Pc+1) s.Regs s.Mem s.Stack s.In s.Out 0 s.Steps s.Cond s.Turns) (x:=rg s.Regs i.B) hp hs.ml hs.mf b2 (h7 c);rw[q1];simp only[Zm9];rw[hput _ (hA (by omega) (by omega) (by omega) (by omega))];exact⟨_,rfl,fun h=>by rw[h0,q2 h]⟩
 ·obtain⟨a1,a2⟩:=hr _ (hA (by omega) (by omega) (by omega) (by omega));obtain⟨b1,b2⟩:=hr _ (hB (by omega));rw[a1,b1];simp only[Zm9];obtain⟨t',q1,-,q2⟩:=Zh0 (fuel:=fuel) (s:=D.Path.mk (s.Pc+1) s.Regs s.Mem s.Stack s.In s.Out 0 s.Steps s.Cond s.Turns) (x:=rg s.Regs i.A) (v:=rg s.Regs i.B) hp hs.ml hs.mf a2 b2 (h8 c);rw[q1];simp only[Zm9];exact⟨_,rfl,fun h=>by rw[h0,q2 h]⟩
 ·exact⟨_,rfl,fun _=>by rw[h0]⟩
 ·exact⟨_,rfl,fun _=>by rw[h0]⟩
 ·rw[ZaO (by simp;have:=hs.sl;omega)];exact⟨_,rfl,fun _=>by rw[h0]⟩
 ·obtain⟨g1,g2⟩:=ZhX (l:=s.Stack) (k12 c).2 (by have:=hs.sl;omega);rw[g1,g2];exact⟨_,rfl,fun _=>by rw[h0]⟩
 ·exact⟨_,rfl,fun _=>by rw[h0]⟩
 ·exact⟨_,rfl,fun _=>rfl⟩
theorem ZjC{p:D.Program}{s:D.Path}{i:D.Ins}(hp:progB p=true)(hs:okP p s)(hk:stk p s i≠0):ZN fuel ⟨false⟩ p s i=some ({s with Code:=stk p s i},⟨false⟩):=by
 unfold ZN;rw[ZaU (hs.fine hp)];simp only[Zm9];unfold stk at hk⊢;by_cases c5:i.Op=5∧s.In=p.In
 ·simp only[c5,and_self,ZmT,Int.reduceBEq,ZnN,BEq.rfl,Zm9,Int.reduceBNe]
 ·rw [ZmD c5]at hk⊢
  have d5:((i.Op==5)&&(s.In==p.In))=false:=by simpa using c5
  by_cases c6:i.Op=6∧s.Out.length=6
  ·have:len s.Out=6:=by rw[Zf];omega
   simp only[d5,c6,this,and_self,ZmT,Int.reduceBEq,ZnN,ZmA,ZmI,Zn0,Zm9,Int.reduceBNe]
  ·rw[ZmD c6]at hk⊢;have d6:((i.Op==6)&&(len s.Out==6))=false:=by
    rw[Zf];simp;intro e h;exact c6 ⟨e,by omega⟩
   by_cases c11:i.Op=11∧s.Stack.length=3
   ·have:len s.Stack=3:=by rw[Zf];omega
    simp only[d5,d6,c11,this,and_self,ZmT,Int.reduceBEq,ZnN,ZmA,ZmI,Zn0,Zm9,Int.reduceBNe]
   ·rw[ZmD c11]at hk⊢;have d11:((i.Op==11)&&(len s.Stack==3))=false:=by
     rw[Zf];simp;intro e h;exact c11 ⟨e,by omega⟩
    by_cases c12:i.Op=12∧s.Stack.length=0
    ·have:len s.Stack=0:=by rw[Zf];omega
     simp only[d5,d6,d11,c12,this,and_self,ZmT,Int.reduceBEq,ZnN,ZmA,ZmI,Zn0,Zm9,Int.reduceBNe]
    ·rw[ZmD c12]at hk;exact absurd rfl hk
theorem Zh8{p:D.Program}{s:D.Path}{i:D.Ins}(hs:okP p s):ZbG p s i=some (stk p s i):=by
 have h1:=hs.inn.2;have h2:=hs.ol;have h3:=hs.sl;unfold ZbG stk;by_cases c5:i.Op=5∧s.In=p.In
 ·rw[ZmE c5,ZmE (by simp;omega)]
 ·rw[ZmD c5,ZmD (by simp;omega)];by_cases c6:i.Op=6∧s.Out.length=6
  ·rw[ZmE c6,ZmE (by rw[Zf];simp;omega)]
  ·rw[ZmD c6,ZmD (by rw[Zf];simp;omega)];by_cases c11:i.Op=11∧s.Stack.length=3
   ·rw[ZmE c11,ZmE (by rw[Zf];simp;omega)]
   ·rw[ZmD c11,ZmD (by rw[Zf];simp;omega)];by_cases c12:i.Op=12∧s.Stack.length=0
    ·rw[ZmE c12,ZmE (by rw[Zf,c12.2];simp[c12.1])]
    ·rw[ZmD c12,ZmD (by rw[Zf];simp only[ZmC,Zng];omega)]
end Go.Proofs.YtbidabmbbieeiabGreatDoor
end
section
namespace Go.Proofs.YtbidabmbbieeiabGreatDoor
open Go.GL
set_option linter.unusedSimpArgs false
set_option maxRecDepth 100000
variable{fuel:Nat}[FU fuel]
theorem Zm4{w v:Int}(h:wordB w v=true):fine (kT w v)∧(kT w v).W=w:=⟨ZbS h,rfl⟩
theorem ZcY{p:D.Program}{s:D.Path}(hs:okP p s)(hpc:s.Pc<p.Code.length){k:Nat}{t:D.Term}(ht:fine t∧t.W=p.W):okP p {s with Pc:=s.Pc+1,Regs:=s.Regs.set k t}:=
 ⟨⟨by have:=hs.pc.1;show 0≤s.Pc+1;omega,by show s.Pc+1≤_;rw[Zf];omega⟩,by show(s.Regs.set k t).length=4;rw[Zo6,hs.rl],ZjH hs.rf ht,hs.ml,hs.mf,hs.sl,hs.sp,hs.inn,hs.ol,hs.of,hs.cd,hs.st,hs.cl,hs.cf,hs.tl⟩
theorem Zgq{p:D.Program}{s:D.Path}{i:D.Ins}(hp:progB p=true)(hs:okP p s)(hi:insF p.W p.Code.length i)(hpc:s.Pc<p.Code.length)(hk:stk p s i=0)
  (h7:i.Op=7→(rg s.Regs i.B).Op=0→0≤(rg s.Regs i.B).N∧(rg s.Regs i.B).N<p.Mem)(hok:(flw p s i).2=true):okP p (flw p s i).1:=by
 have hop:=hi.op;have hl:=hs.rl;have hr:∀k:Int,0≤k∧k<4→fine (rg s.Regs k)∧(rg s.Regs k).W=p.W:=fun k hk=>Zcl hs.rf hk.1 (by omega);have hc:i.Op=1∨i.Op=2∨i.Op=3∨i.Op=4∨i.Op=5∨i.Op=6∨i.Op=7∨i.Op=8∨i.Op=9∨i.Op=10∨i.Op=11∨i.Op=12∨i.Op=13∨i.Op=14:=by omega
 have hA:=hi.a;have hB:=hi.b;have hT:=hi.t;have hn:0≤s.Pc+1∧s.Pc+1≤len p.Code:=⟨by have:=hs.pc.1;omega,by rw[Zf];omega⟩;unfold flw at hok⊢;rcases hc with c|c|c|c|c|c|c|c|c|c|c|c|c|c<;>simp only[c,Int.reduceEq,reduceIte]at hok⊢
 ·exact ZcY hs hpc (Zm4 (hi.v c))
 ·exact ZcY hs hpc (hr _ (hB (by omega)))
 ·exact ZcY hs hpc (ZjJ hok)
 ·exact ZcY hs hpc (Xb hok)
 ·have h5:s.In≠p.In:=fun e=>by unfold stk at hk;rw[ZmE ⟨c,e⟩]at hk;cases hk
  have:=ZcY hs hpc (k:=i.A.toNat) (ZjI hp (k:=s.In));exact⟨this.pc,this.rl,this.rf,this.ml,this.mf,this.sl,this.sp,⟨by have:=hs.inn.1;show 0≤s.In+1;omega,by have:=hs.inn.2;show s.In+1≤p.In;omega⟩,this.ol,this.of,this.cd,this.st,this.cl,this.cf,this.tl⟩
 ·have h6:s.Out.length≠6:=fun e=>by unfold stk at hk;rw[ZmD (by omega),ZmE ⟨c,e⟩]at hk;cases hk
  exact⟨hn,hs.rl,hs.rf,hs.ml,hs.mf,hs.sl,hs.sp,hs.inn,by have:=hs.ol;show(s.Out++_).length≤6;rw[ZmR];simp;omega,ZkC hs.of (hr _ (hA (by omega) (by omega) (by omega) (by omega))),hs.cd,hs.st,hs.cl,hs.cf,hs.tl⟩
 ·exact ZcY hs hpc (Zj5 hp hs.ml hs.mf (h7 c) hok)
 ·obtain⟨q1,q2⟩:=Zhz (p:=p) (s:=s) hs.mf (hr _ (hB (by omega))) hok;exact⟨hn,hs.rl,hs.rf,by show((store _ _ _ _).1.length:Int)=_;rw[q2];exact hs.ml,q1,hs.sl,hs.sp,hs.inn,hs.ol,hs.of,hs.cd,hs.st,hs.cl,hs.cf,hs.tl⟩
 ·exact⟨by rw[Zf];exact hT (by omega),hs.rl,hs.rf,hs.ml,hs.mf,hs.sl,hs.sp,hs.inn,hs.ol,hs.of,hs.cd,hs.st,hs.cl,hs.cf,hs.tl⟩
 ·exact⟨hn,hs.rl,hs.rf,hs.ml,hs.mf,hs.sl,hs.sp,hs.inn,hs.ol,hs.of,hs.cd,hs.st,hs.cl,hs.cf,hs.tl⟩
 ·have h11:s.Stack.length≠3:=fun e=>by unfold stk at hk;rw[ZmD (by omega),ZmD (by omega),ZmE ⟨c,e⟩]at hk;cases hk
  refine⟨by rw[Zf];exact hT (by omega),hs.rl,hs.rf,hs.ml,hs.mf,by have:=hs.sl;show(s.Stack++_).length≤3;rw[ZmR];simp;omega,fun x hx=>?_,hs.inn,hs.ol,hs.of,hs.cd,hs.st,hs.cl,hs.cf,hs.tl⟩;rcases Zne.1 hx with hx|hx
  ·exact hs.sp x hx
  ·rw[ZmO]at hx;subst hx;exact hn
 ·have h12:s.Stack.length≠0:=fun e=>by unfold stk at hk;rw[ZmD (by omega),ZmD (by omega),ZmD (by omega),ZmE ⟨c,e⟩]at hk;cases hk
  refine⟨?_,hs.rl,hs.rf,hs.ml,hs.mf,by have:=hs.sl;show(s.Stack.take _).length≤3;rw[Znm];omega,fun x hx=>hs.sp x (List.mem_of_mem_take hx),hs.inn,hs.ol,hs.of,hs.cd,hs.st,hs.cl,hs.cf,hs.tl⟩;rw[ZmF (by omega)];exact hs.sp _ (ZnO _)
 ·exact⟨hn,hs.rl,hs.rf,hs.ml,hs.mf,hs.sl,hs.sp,hs.inn,hs.ol,hs.of,hs.cd,hs.st,hs.cl,hs.cf,hs.tl⟩
 ·exact⟨hs.pc,hs.rl,hs.rf,hs.ml,hs.mf,hs.sl,hs.sp,hs.inn,hs.ol,hs.of,by show(0:Int)≤1∧(1:Int)≤9;omega,hs.st,hs.cl,hs.cf,hs.tl⟩
theorem ZeU{p:D.Program}{s:D.Path}{i:D.Ins}{c:List D.Term}{t:List Int}:flw p {s with Cond:=c,Turns:=t} i=({(flw p s i).1 with Cond:=c,Turns:=t},(flw p s i).2):=by
 unfold flw;by_cases c1:i.Op=1
 ·simp only[c1,reduceIte]
 by_cases c2:i.Op=2
 ·simp only[c2,Int.reduceEq,reduceIte]
 by_cases c3:i.Op=3
 ·simp only[c3,Int.reduceEq,reduceIte]
 by_cases c4:i.Op=4
 ·simp only[c4,Int.reduceEq,reduceIte]
 by_cases c5:i.Op=5
 ·simp only[c5,Int.reduceEq,reduceIte]
 by_cases c6:i.Op=6
 ·simp only[c6,Int.reduceEq,reduceIte]
 by_cases c7:i.Op=7
 ·simp only[c7,Int.reduceEq,reduceIte]
 by_cases c8:i.Op=8
 ·simp only[c8,Int.reduceEq,reduceIte]
 by_cases c9:i.Op=9
 ·simp only[c9,Int.reduceEq,reduceIte]
 by_cases c11:i.Op=11
 ·simp only[c11,Int.reduceEq,reduceIte]
 by_cases c12:i.Op=12
 ·simp only[c12,Int.reduceEq,reduceIte]
 by_cases c14:i.Op=14
 ·simp only[c14,Int.reduceEq,reduceIte]
 simp only[c1,c2,c3,c4,c5,c6,c7,c8,c9,c11,c12,c14,reduceIte]
end Go.Proofs.YtbidabmbbieeiabGreatDoor
end
section
namespace Go.Proofs.YtbidabmbbieeiabGreatDoor
open Go.GL
set_option linter.unusedSimpArgs false
set_option maxRecDepth 100000
variable{fuel:Nat}[FU fuel]
def nmd(s:D.Path)(i:D.Ins):D.Path:=
 if i.Op=10 then{s with Pc:=i.B}else if i.Op=13 then{s with Code:=8}else if i.Op=3 then{s with Code:=6}else{s with Code:=5}
theorem Zff(s:D.Path)(i:D.Ins):ZaX s i=some (nmd s i):=by
 unfold ZaX nmd;by_cases c1:i.Op=10
 ·simp[c1]
 by_cases c2:i.Op=13
 ·simp[c2]
 by_cases c3:i.Op=3
 ·simp[c3]
 simp[c1,c2,c3]
theorem Zhe(s:D.Path)(i:D.Ins):XB s i=some (nmd s i):=by
 unfold XB nmd;by_cases c1:i.Op=10
 ·simp[c1]
 by_cases c2:i.Op=13
 ·simp[c2]
 by_cases c3:i.Op=3
 ·simp[c3]
 simp[c1,c2,c3]
theorem Zb4{p:D.Program}{s:D.Path}(hs:okP p s){k:Int}(hk:0≤k∧k≤9):okP p {s with Code:=k}:=⟨hs.pc,hs.rl,hs.rf,hs.ml,hs.mf,hs.sl,hs.sp,hs.inn,hs.ol,hs.of,hk,hs.st,hs.cl,hs.cf,hs.tl⟩
theorem Zke{p:D.Program}{s:D.Path}{i:D.Ins}(hs:okP p s)(hi:insF p.W p.Code.length i):okP p (nmd s i):=by
 unfold nmd;split
 ·rename_i c;exact⟨by rw[Zf];exact hi.t (by omega),hs.rl,hs.rf,hs.ml,hs.mf,hs.sl,hs.sp,hs.inn,hs.ol,hs.of,hs.cd,hs.st,hs.cl,hs.cf,hs.tl⟩
 ·split
  ·exact Zb4 hs (by omega)
  ·split
   ·exact Zb4 hs (by omega)
   ·exact Zb4 hs (by omega)
theorem Zgg{p:D.Program}{s:D.Path}(hs:okP p s){t:D.Term}{k:Int}(ht:fine t∧t.W=1){c:List D.Term}{l:List Int}(hc:fw 1 c)(hcl:c.length<60)(hl:l.length<60):okP p {s with Cond:=c++[t],Turns:=l++[k]}:=
 ⟨hs.pc,hs.rl,hs.rf,hs.ml,hs.mf,hs.sl,hs.sp,hs.inn,hs.ol,hs.of,hs.cd,hs.st,by show(c++[t]).length≤60;rw[ZmR];simp;omega,ZkC hc ht,by show(l++[k]).length≤60;rw[ZmR];simp;omega⟩
theorem Zhx{p:D.Program}{rs:List D.Term}{i:D.Ins}(h:(qst p rs i).2.1=false):(qst p rs i).1=t0:=by
 unfold qst at h⊢;by_cases c1:i.Op=10∨i.Op=13
 ·rw[ZmE c1]at h;cases h
 rw[ZmD c1]at h⊢;by_cases c2:i.Op=3
 ·rw[ZmE c2]at h⊢;by_cases c3:i.C=6∨i.C=7
  ·rw[ZmE c3]at h;cases h
  ·rw[ZmD c3]
 rw[ZmD c2]at h⊢;have hq:∀x:D.Term,(qad p x).2.1=true:=fun x=>by unfold qad;split<;>rfl
 by_cases c4:i.Op=7
 ·rw[ZmE c4,hq]at h;cases h
 rw[ZmD c4]at h⊢;by_cases c5:i.Op=8
 ·rw[ZmE c5,hq]at h;cases h
 rw[ZmD c5]
theorem Zfo{p:D.Program}{rs:List D.Term}{i:D.Ins}(h:(qst p rs i).2.1=true)(hok:(qst p rs i).2.2=true):fine (qst p rs i).1∧(qst p rs i).1.W=1:=by
 have hz:∀x:D.Term,(qze p x).2.2=true→fine (qze p x).1∧(qze p x).1.W=1:=fun x h=>Xb h;have hq:∀x:D.Term,(qad p x).2.2=true→fine (qad p x).1∧(qad p x).1.W=1:=fun x h=>by
  unfold qad at h⊢;split at h
  ·rename_i c;rw[ZmE c];exact Xb h
  ·cases h
 unfold qst at h hok⊢;by_cases c1:i.Op=10∨i.Op=13
 ·rw[ZmE c1]at h hok⊢;exact hz _ hok
 rw[ZmD c1]at h hok⊢;by_cases c2:i.Op=3
 ·rw[ZmE c2]at h hok⊢;by_cases c3:i.C=6∨i.C=7
  ·rw[ZmE c3]at h hok⊢;exact hz _ hok
  ·rw[ZmD c3]at h;cases h
 rw[ZmD c2]at h hok⊢;by_cases c4:i.Op=7
 ·rw[ZmE c4]at h hok⊢;exact hq _ hok
 rw[ZmD c4]at h hok⊢;by_cases c5:i.Op=8
 ·rw[ZmE c5]at h hok⊢;exact hq _ hok
 rw[ZmD c5]at h;cases h
noncomputable def dvd(p:D.Program)(s:D.Path)(i:D.Ins):List D.Path:=
 if(qst p s.Regs i).2.2=false then[{s with Code:=9}]
 else if(qst p s.Regs i).2.1=true∧(qst p s.Regs i).1.Op=0∧(qst p s.Regs i).1.N=1 then[nmd s i]
 else if(flw p s i).2=false then[{s with Code:=9}]
 else if(qst p s.Regs i).2.1=false∨(qst p s.Regs i).1.Op=0 then[(flw p s i).1]
 else if(mkT 1 1 0 [(qst p s.Regs i).1]).2=false∨s.Cond.length=60∨s.Turns.length=60 then[{s with Code:=9}]
 else[{nmd s i with Cond:=s.Cond++[(qst p s.Regs i).1],Turns:=s.Turns++[1]},{(flw p s i).1 with Cond:=s.Cond++[(mkT 1 1 0 [(qst p s.Regs i).1]).1],Turns:=s.Turns++[0]}]
theorem ZgL{p:D.Program}{s:D.Path}{i:D.Ins}(hp:progB p=true)(hs:okP p s)(hi:insF p.W p.Code.length i)(hpc:s.Pc<p.Code.length)(hk:stk p s i=0):Zbr fuel p s i=some (dvd p s i):=by
 unfold Zbr dvd;rw[ZfA hp hs hi];simp only[Zm9];by_cases q1:(qst p s.Regs i).2.2=true
 ·have hfl:¬((qst p s.Regs i).2.1=true∧(qst p s.Regs i).1.Op=0∧(qst p s.Regs i).1.N=1)→Za7 fuel p s i=some (flw p s i):=fun hn=>by
   have:=Zcy hp hs hi q1 (fun e=>by
    cases ha:(qst p s.Regs i).2.1
    ·rw[Zhx ha]at e;exact absurd e.2 (by decide)
    ·exact hn ⟨ha,e⟩)
   exact Zho hp hs hi hpc hk this.1 this.2
  rw[ZmD (show¬(!(qst p s.Regs i).2.2)=true by rw[q1];simp),ZmD (show¬(qst p s.Regs i).2.2=false by rw[q1];simp)];by_cases q2:(qst p s.Regs i).2.1=true∧(qst p s.Regs i).1.Op=0∧(qst p s.Regs i).1.N=1
  ·rw[ZmE q2,ZmE q2.1];unfold Zq;simp only[Zm9];rw[ZmE (by simp[q2]),Zff];rfl
  ·rw [ZmD q2]
   have e:∀{β:Type}(x y:Option β),((if(qst p s.Regs i).2.1=true then Zq (qst p s.Regs i).1 1 else some default).bind fun x2=>if((qst p s.Regs i).2.1&&x2)=true then x else y)=y:=fun x y=>by
    cases ha:(qst p s.Regs i).2.1
    ·rfl
    ·unfold Zq;simp only[ZmT,Zm9];rw[ZmD (by simp;intro h1 h2;exact q2 ⟨ha,h1,h2⟩)]
   rw[e,hfl q2];simp only[Zm9];by_cases q3:(flw p s i).2=true
   ·rw[ZmD (show¬(!(flw p s i).2)=true by rw[q3];simp),ZmD (show¬(flw p s i).2=false by rw[q3];simp)];cases ha:(qst p s.Regs i).2.1
    ·simp
    ·obtain⟨f1,f2⟩:=Zfo ha q1;unfold Zb;simp only[ZmH,ZmA,ZmI,Zm9,ZmZ,false_or];by_cases q4:(qst p s.Regs i).1.Op=0
     ·simp[q4]
     ·rw[ZmD (by simpa using q4),ZmD (by simp;exact q4),Zb6 (sml1f f1)];simp only[Zm9];have hcl:=hs.cl;have htl:=hs.tl;by_cases q5:(mkT 1 1 0 [(qst p s.Regs i).1]).2=false∨s.Cond.length=60∨s.Turns.length=60
      ·rw[ZmE q5,ZmE (by rw[Zf,Zf];simp;rcases q5 with h|h|h<;>simp[h])]
      ·rw[ZmD q5,ZmD (by rw[Zf,Zf];simp at q5⊢;exact⟨⟨q5.1,by omega⟩,by omega⟩),Zff,Zgh (by omega),Zgh (by omega),Zgm (by omega),Zgm (by omega)];rfl
   ·rw[ZmE (by simpa using q3),ZmE (by simpa using q3)]
 ·rw[ZmE (by simpa using q1),ZmE (by simpa using q1)]
end Go.Proofs.YtbidabmbbieeiabGreatDoor
end
section
namespace Go.Proofs.YtbidabmbbieeiabGreatDoor
open Go.GL
set_option linter.unusedSimpArgs false
set_option maxRecDepth 100000
variable{fuel:Nat}[FU fuel]
def insAt(p:D.Program)(k:Int):D.Ins:=(p.Code[k.toNat]?).getD ⟨0,0,0,0⟩
theorem Zcq{p:D.Program}{k:Int}(h0:0≤k)(h1:k<p.Code.length):get? p.Code k=some (insAt p k)∧insAt p k∈p.Code:=by
 obtain⟨j,rfl⟩:∃j:Nat,k=(j:Int):=⟨k.toNat,by omega⟩;unfold insAt;rw[get?_nat,Zoz,ZmF (by omega)];exact⟨rfl,ZnO _⟩
theorem Zfw{p:D.Program}{s:D.Path}(hs:okP p s)(h:s.Steps<400):okP p {s with Steps:=s.Steps+1}:=⟨hs.pc,hs.rl,hs.rf,hs.ml,hs.mf,hs.sl,hs.sp,hs.inn,hs.ol,hs.of,hs.cd,by have:=hs.st;show 0≤s.Steps+1∧s.Steps+1≤400;omega,hs.cl,hs.cf,hs.tl⟩
noncomputable def stp1(p:D.Program)(s:D.Path):List D.Path:=
 if s.Code≠0∨s.Steps=400 then[]
 else if s.Pc=len p.Code then[{s with Code:=2}]
 else if stk p {s with Steps:=s.Steps+1} (insAt p s.Pc)≠0 then[{s with Steps:=s.Steps+1,Code:=stk p {s with Steps:=s.Steps+1} (insAt p s.Pc)}]
 else dvd p {s with Steps:=s.Steps+1} (insAt p s.Pc)
theorem Zjf{p:D.Program}{s:D.Path}(hp:progB p=true)(hs:okP p s):Zbh fuel p s=some (stp1 p s):=by
 have hst:=hs.st;have hpc:=hs.pc;rw[Zf]at hpc;unfold Zbh stp1;by_cases c1:s.Code≠0∨s.Steps=400
 ·rw[ZmE c1,ZmE (by simp;rcases c1 with h|h;exact .inl h;right;omega)]
 ·have d1:s.Code=0∧s.Steps<400:=by omega
  rw[ZmD c1,ZmD (by simp;omega)];by_cases c2:s.Pc=len p.Code
  ·rw[ZmE c2,ZmE (by simpa using c2)]
  ·rw[ZmD c2,ZmD (by simpa using c2)];rw[Zf]at c2;obtain⟨g1,g2⟩:=Zcq (p:=p) (k:=s.Pc) hpc.1 (by omega);have hs1:=Zfw hs d1.2;rw[g1];simp only[Zm9];rw[Zm (by omega) (by omega),Zh8 hs1];simp only[Zm9];by_cases c3:stk p {s with Steps:=s.Steps+1} (insAt p s.Pc)=0
   ·rw[ZmD (by rw[c3];simp),ZmD (by rw[c3];simp),ZgL hp hs1 (Zfq hp g2) (by show s.Pc<_;omega) c3];rfl
   ·rw[ZmE (by simpa using c3),ZmE c3]
end Go.Proofs.YtbidabmbbieeiabGreatDoor
end
section
namespace Go.Proofs.YtbidabmbbieeiabGreatDoor
open Go.GL
set_option linter.unusedSimpArgs false
set_option maxRecDepth 100000
variable{fuel:Nat}[FU fuel]
theorem Zla{s:D.Path}{i:D.Ins}{c:List D.Term}{t:List Int}:nmd {s with Cond:=c,Turns:=t} i={nmd s i with Cond:=c,Turns:=t}:=by
 unfold nmd;by_cases c1:i.Op=10
 ·simp only[c1,reduceIte]
 by_cases c2:i.Op=13
 ·simp only[c2,Int.reduceEq,reduceIte]
 by_cases c3:i.Op=3
 ·simp only[c3,Int.reduceEq,reduceIte]
 simp only[c1,c2,c3,reduceIte]
theorem ZkM{p:D.Program}{s:D.Path}{i:D.Ins}(h:stk p s i≠0):qst p s.Regs i=(t0,false,true):=by
 have:i.Op=5∨i.Op=6∨i.Op=11∨i.Op=12:=by
  unfold stk at h;by_cases a:i.Op=5∧s.In=p.In
  ·exact .inl a.1
  rw[ZmD a]at h;by_cases b:i.Op=6∧s.Out.length=6
  ·exact .inr (.inl b.1)
  rw[ZmD b]at h;by_cases c:i.Op=11∧s.Stack.length=3
  ·exact .inr (.inr (.inl c.1))
  rw[ZmD c]at h;by_cases d:i.Op=12∧s.Stack.length=0
  ·exact .inr (.inr (.inr d.1))
  rw[ZmD d]at h;exact absurd rfl h
 unfold qst;rw[ZmD (by omega),ZmD (by omega),ZmD (by omega),ZmD (by omega)]
theorem ZfY{p:D.Program}{s:D.Path}{t:D.Term}{k:Int}(hp:progB p=true)(hs:okP p s):Xu fuel s t k=some {s with Cond:=s.Cond++[t],Turns:=s.Turns++[k]}:=by
 unfold Xu;rw[ZaU (hs.fine hp)];simp only[Zm9];rw[ZaO (by simp;have:=hs.cl;omega)];simp only[Zm9];rw[ZaO (by simp;have:=hs.tl;omega)];rfl
theorem ZiS{q:D.Term}(hf:fine q∧q.W=1)(h0:q.Op=0):q.N=0∨q.N=1:=by
 obtain⟨e,hv⟩:=Xa hf.1.1 (by simp[h0]);rw[hf.2,ZZ (by omega) (by omega)]at hv;have:q.N<2:=by simpa using hv.2
 omega
theorem ZjP {p:D.Program}{u:D.Path}{i:D.Ins}(hp:progB p=true)(hs:okP p u)(h0:u.Code=0)(hi:insF p.W p.Code.length i)(hpc:u.Pc<p.Code.length):
    ((ZU fuel u).bind fun x2=>(Y4 fuel (D.l06Maker.mk false) p u i).bind fun x4=>if x4.2.2.bad then some ([(D.Path.mk x2.Pc x2.Regs x2.Mem x2.Stack x2.In x2.Out 9 x2.Steps x2.Cond x2.Turns)]:List D.Path)else(if(!x4.2.1)then some default else(Zr x4.1 0)).bind fun x5=>if((!x4.2.1)||x5)then(ZN fuel x4.2.2 p u i).bind fun x6=>if x6.2.bad then some ([(D.Path.mk x2.Pc x2.Regs x2.Mem x2.Stack x2.In x2.Out 9 x2.Steps x2.Cond x2.Turns)]:List D.Path)else(ZU fuel x6.1).bind fun x7=>some ([x7]:List D.Path)else(Zr x4.1 1).bind fun x8=>if x8 then(XB u i).bind fun x9=>some ([x9]:List D.Path)else(Zg fuel x4.2.2 1 1 ([x4.1]:List D.Term)).bind fun x10=>if((x10.2.bad||((len u.Cond)==60))||((len u.Turns)==60))then some ([(D.Path.mk x2.Pc x2.Regs x2.Mem x2.Stack x2.In x2.Out 9 x2.Steps x2.Cond x2.Turns)]:List D.Path)else(Xu fuel u x10.1 0).bind fun x11=>(ZN fuel x10.2 p x11 i).bind fun x12=>if x12.2.bad then some ([(D.Path.mk x2.Pc x2.Regs x2.Mem x2.Stack x2.In x2.Out 9 x2.Steps x2.Cond x2.Turns)]:List D.Path)else(Xu fuel u x4.1 1).bind fun x13=>(XB x13 i).bind fun x14=>(ZU fuel x12.1).bind fun x15=>some ([x14,x15]:List D.Path))=some (if stk p u i≠0 then[{u with Code:=stk p u i}]else dvd p u i):=by
  rw[ZaU (hs.fine hp)];obtain⟨t',h1,h2⟩:=ZfD (fuel:=fuel) hp hs hi;rw[h1];simp only[Zm9];by_cases hk:stk p u i=0
  · rw [ZmD (show¬(stk p u i≠0)from fun h=>h hk)]
    unfold dvd;by_cases q1:(qst p u.Regs i).2.2=true
    · have ht :=h2 q1
      subst ht;rw[ZmD (show¬(!(qst p u.Regs i).2.2)=true by rw[q1];simp),ZmD (show¬(qst p u.Regs i).2.2=false by rw[q1];simp),q1]
      have hfc:¬((qst p u.Regs i).2.1=true∧(qst p u.Regs i).1.Op=0∧(qst p u.Regs i).1.N=1)→_:=fun hn=>Zcy hp hs hi q1 (fun e=>by
        cases ha:(qst p u.Regs i).2.1
        · rw[Zhx ha]at e;exact absurd e.2 (by decide)
        · exact hn ⟨ha,e⟩)
      have hno:¬((qst p u.Regs i).2.1=true∧(qst p u.Regs i).1.Op=0∧(qst p u.Regs i).1.N=1)→((ZN fuel ⟨!true⟩ p u i).bind fun x6=>if x6.2.bad then some ([(D.Path.mk u.Pc u.Regs u.Mem u.Stack u.In u.Out 9 u.Steps u.Cond u.Turns)]:List D.Path)else(ZU fuel x6.1).bind fun x7=>some ([x7]:List D.Path))=some (if(flw p u i).2=false then[{u with Code:=9}]else[(flw p u i).1]):=fun hn=>by
        obtain⟨f7,f8⟩:=hfc hn;obtain⟨s',e1,e2⟩:=Zis (fuel:=fuel) hp hs h0 hi hpc hk f7 f8;rw[show(!true)=false from rfl,e1];simp only[Zm9];cases hb:(flw p u i).2
        · simp
        · have:=e2 hb
          subst this;simp only[ZmH,ZmA,ZmI];rw[ZaU ((Zgq hp hs hi hpc hk f7 hb).fine hp)];simp
      cases ha:(qst p u.Regs i).2.1
      · rw[ha]at hno
        simp only[Zny,ZmT,Zm9,Zo9];rw[hno (by simp)];cases(flw p u i).2<;>simp
      · have hf:=Zfo ha q1
        rw[ha]at hno hfc;simp only[ZmH,ZmA,ZmI,ZmZ,Zr,Zm9];by_cases z:(qst p u.Regs i).1.Op=0
        · rcases ZiS hf z with n0|n1
          · have r1:¬(true=true∧(qst p u.Regs i).1.Op=0∧(qst p u.Regs i).1.N=1):=by rw[n0];simp
            rw[ZmE (show((qst p u.Regs i).1.Op==0&&(qst p u.Regs i).1.N==0)=true by simp[z,n0]),ZmD (fun h=>r1 ⟨rfl,h.2⟩:¬(True∧(qst p u.Regs i).1.Op=0∧(qst p u.Regs i).1.N=1))];have:=hno r1;simp only[ZmH]at this;rw[this];cases(flw p u i).2<;>simp[z]
          · rw[ZmD (show¬((qst p u.Regs i).1.Op==0&&(qst p u.Regs i).1.N==0)=true by simp[z,n1]),ZmE (show((qst p u.Regs i).1.Op==0&&(qst p u.Regs i).1.N==1)=true by simp[z,n1]),ZmE (⟨trivial,z,n1⟩:True∧(qst p u.Regs i).1.Op=0∧(qst p u.Regs i).1.N=1),Zhe];rfl
        · have r1:¬(true=true∧(qst p u.Regs i).1.Op=0∧(qst p u.Regs i).1.N=1):=fun h=>z h.2.1
          rw[ZmD (show¬((qst p u.Regs i).1.Op==0&&(qst p u.Regs i).1.N==0)=true by simp[z]),ZmD (show¬((qst p u.Regs i).1.Op==0&&(qst p u.Regs i).1.N==1)=true by simp[z]),ZmD (fun h=>r1 ⟨rfl,h.2⟩:¬(True∧(qst p u.Regs i).1.Op=0∧(qst p u.Regs i).1.N=1)),X5 (sml1f hf.1)];simp only[Zm9,ZmZ];have hcl:=hs.cl;have htl:=hs.tl;by_cases q5:(mkT 1 1 0 [(qst p u.Regs i).1]).2=false∨u.Cond.length=60∨u.Turns.length=60
          · rw[ZmE (show(!(mkT 1 1 0 [(qst p u.Regs i).1]).2||len u.Cond==60||len u.Turns==60)=true by rw[Zf,Zf];simp;rcases q5 with h|h|h<;>simp[h])]
            cases(flw p u i).2
            · simp
            · simp[z,q5]
          · have q6:(mkT 1 1 0 [(qst p u.Regs i).1]).2=true∧u.Cond.length≠60∧u.Turns.length≠60:=by simpa using q5
            rw[ZmD (show¬(!(mkT 1 1 0 [(qst p u.Regs i).1]).2||len u.Cond==60||len u.Turns==60)=true by rw[Zf,Zf,q6.1];simp;omega),ZfY hp hs];simp only[Zm9];obtain⟨f7,f8⟩:=hfc r1;have hs':okP p {u with Cond:=u.Cond++[(mkT 1 1 0 [(qst p u.Regs i).1]).1],Turns:=u.Turns++[0]}:=Zgg hs (Xb q6.1) hs.cf (by omega) (by omega);obtain⟨s',e1,e2⟩:=Zis (fuel:=fuel) (s:={u with Cond:=u.Cond++[(mkT 1 1 0 [(qst p u.Regs i).1]).1],Turns:=u.Turns++[0]}) hp hs' h0 hi hpc hk f7 f8;rw[q6.1,show(!true)=false from rfl,e1];simp only[Zm9];rw[ZeU]at e2⊢;cases hb:(flw p u i).2
            · simp
            · have hfo:=Zgq (s:={u with Cond:=u.Cond++[(mkT 1 1 0 [(qst p u.Regs i).1]).1],Turns:=u.Turns++[0]}) hp hs' hi hpc hk f7 (by rw[ZeU];exact hb)
              rw[ZeU]at hfo;have:=e2 hb;subst this;simp only[ZmH,ZmA,ZmI];rw[ZfY hp hs];simp only[Zm9];rw[Zhe,Zla];simp only[Zm9];rw[ZaU (hfo.fine hp)];simp[z,q6]
    · rw[ZmE (show(!(qst p u.Regs i).2.2)=true by simpa using q1),ZmE (show(qst p u.Regs i).2.2=false by simpa using q1)]
  · have hq:=ZkM hk
    have h9:0≤stk p u i∧stk p u i≤9:=by
      unfold stk
      repeat' split
      all_goals omega
    rw[hq,ZmE hk];simp only[ZmH,ZmA,ZmI,Zny,ZmT,Zm9,Zo9];rw[ZjC hp hs hk];simp only[Zm9,ZmA,ZmI];rw[ZaU ((Zb4 hs h9).fine hp)];rfl
theorem Zjj{p:D.Program}{s:D.Path}(hp:progB p=true)(hs:okP p s):ZaF fuel p s=some (stp1 p s):=by
 have hst:=hs.st;have hpc:=hs.pc;rw[Zf]at hpc;unfold ZaF stp1;by_cases c1:s.Code≠0∨s.Steps=400
 ·rw[ZmE c1,ZmE (by simpa using c1)]
 have d1:s.Code=0∧s.Steps<400:=by omega
 rw[ZmD c1,ZmD (by simp;omega),ZaU (hs.fine hp)];simp only[Zm9];by_cases c2:s.Pc=len p.Code
 ·rw[ZmE c2,ZmE (by simpa using c2)]
 rw[ZmD c2,ZmD (by simpa using c2)];rw[Zf]at c2;obtain⟨g1,g2⟩:=Zcq (p:=p) (k:=s.Pc) hpc.1 (by omega);have hi:=Zfq hp g2;have hs1:=Zfw hs d1.2;rw[g1,Zm (by omega) (by omega)];have hz:({s with Steps:=s.Steps+1}:D.Path).Code=0:=d1.1;have:=ZjP (fuel:=fuel) (u:={s with Steps:=s.Steps+1}) hp hs1 hz hi (by show s.Pc<_;omega);simp only[Zm9];refine Eq.trans ?_ (this.trans ?_)
 ·rfl
 ·split<;>rfl
end Go.Proofs.YtbidabmbbieeiabGreatDoor
end
section
namespace Go.Proofs.YtbidabmbbieeiabGreatDoor
open Go.GL
set_option linter.unusedSimpArgs false
set_option maxRecDepth 100000
variable{fuel:Nat}[FU fuel]
theorem Zmd{p:D.Program}{s:D.Path}{i:D.Ins}(hp:progB p=true)(hs:okP p s)(hi:insF p.W p.Code.length i)(hpc:s.Pc<p.Code.length)(hk:stk p s i=0):∀x∈dvd p s i,okP p x:=by
 intro x hx;unfold dvd at hx;by_cases q1:(qst p s.Regs i).2.2=false
 ·rw[ZmE q1,ZmO]at hx;subst hx;exact Zb4 hs (by omega)
 rw[ZmD q1]at hx;have q1':(qst p s.Regs i).2.2=true:=by simpa using q1
 by_cases q2:(qst p s.Regs i).2.1=true∧(qst p s.Regs i).1.Op=0∧(qst p s.Regs i).1.N=1
 ·rw[ZmE q2,ZmO]at hx;subst hx;exact Zke hs hi
 rw[ZmD q2]at hx
 have hfc:=Zcy hp hs hi q1' (fun e=>by
  cases ha:(qst p s.Regs i).2.1
  ·rw[Zhx ha]at e;exact absurd e.2 (by decide)
  ·exact q2 ⟨ha,e⟩)
 by_cases q3:(flw p s i).2=false
 ·rw[ZmE q3,ZmO]at hx;subst hx;exact Zb4 hs (by omega)
 rw[ZmD q3]at hx;have q3':(flw p s i).2=true:=by simpa using q3
 by_cases q4:(qst p s.Regs i).2.1=false∨(qst p s.Regs i).1.Op=0
 ·rw[ZmE q4,ZmO]at hx;subst hx;exact Zgq hp hs hi hpc hk hfc.1 q3'
 rw[ZmD q4]at hx;by_cases q5:(mkT 1 1 0 [(qst p s.Regs i).1]).2=false∨s.Cond.length=60∨s.Turns.length=60
 ·rw[ZmE q5,ZmO]at hx;subst hx;exact Zb4 hs (by omega)
 rw[ZmD q5]at hx;have q6:(mkT 1 1 0 [(qst p s.Regs i).1]).2=true∧s.Cond.length≠60∧s.Turns.length≠60:=by simpa using q5
 have hcl:=hs.cl;have htl:=hs.tl;have ha:(qst p s.Regs i).2.1=true:=by
  cases h:(qst p s.Regs i).2.1
  ·exact absurd (.inl h) q4
  ·rfl
 rcases Zn1.1 hx with rfl|hx
 ·exact Zgg (Zke hs hi) (Zfo ha q1') hs.cf (by omega) (by omega)
 ·rw[ZmO]at hx;subst hx;exact Zgg (Zgq hp hs hi hpc hk hfc.1 q3') (Xb q6.1) hs.cf (by omega) (by omega)
theorem ZlE(p:D.Program)(s:D.Path)(i:D.Ins):(dvd p s i).length=1∨(dvd p s i).length=2:=by
 unfold dvd
 repeat' split
 all_goals first|exact .inl rfl|exact .inr rfl
theorem Zih(p:D.Program)(s:D.Path):(stp1 p s).length≤2:=by
 unfold stp1;split
 ·simp
 ·split
  ·simp
  ·split
   ·simp
   ·rcases ZlE p {s with Steps:=s.Steps+1} (insAt p s.Pc)with h|h<;>omega
theorem ZhH{p:D.Program}{s:D.Path}(hp:progB p=true)(hs:okP p s):∀x∈stp1 p s,okP p x:=by
 have hst:=hs.st;have hpc:=hs.pc;rw[Zf]at hpc;intro x hx;unfold stp1 at hx;by_cases c1:s.Code≠0∨s.Steps=400
 ·rw[ZmE c1]at hx;cases hx
 rw[ZmD c1]at hx;by_cases c2:s.Pc=len p.Code
 ·rw[ZmE c2,ZmO]at hx;subst hx;exact Zb4 hs (by omega)
 rw[ZmD c2]at hx;rw[Zf]at c2;have hs1:=Zfw hs (by omega);obtain⟨g1,g2⟩:=Zcq (p:=p) (k:=s.Pc) hpc.1 (by omega);by_cases c3:stk p {s with Steps:=s.Steps+1} (insAt p s.Pc)=0
 ·rw[ZmD (fun h=>h c3)]at hx;exact Zmd hp hs1 (Zfq hp g2) (by show s.Pc<_;omega) c3 x hx
 ·rw[ZmE c3,ZmO]at hx;subst hx;refine Zb4 hs1 ?_;unfold stk
  repeat' split
  all_goals omega
end Go.Proofs.YtbidabmbbieeiabGreatDoor
end
section
namespace Go.Proofs.YtbidabmbbieeiabGreatDoor
open Go.GL
set_option linter.unusedSimpArgs false
set_option maxRecDepth 100000
variable{fuel:Nat}[FU fuel]
end Go.Proofs.YtbidabmbbieeiabGreatDoor
end
section
namespace Go.Proofs.YtbidabmbbieeiabGreatDoor
open Go.GL
set_option linter.unusedSimpArgs false
set_option maxRecDepth 100000
theorem Zdt{l:List D.Term}{k:Int}(h:sml l)(h0:0≤k)(h1:k≤10000000000000000):∃k' r,ZM fuel0 l k=some (k',r)∧k≤k'∧k'≤k+4194304∧Zz fuel0 r k=some k':=by
 unfold sml at h;obtain⟨⟨k',r⟩,e,a,b,c⟩:=Zjh fuel0 l k h (by unfold fuel0;omega) h0 (by omega);exact⟨k',r,e,a,by simp only at b;omega,c fuel0 (by unfold fuel0;omega)⟩
def smallPS(l:List D.Path):Prop:=l.length≤1048576∧∀x∈l,smallP x
theorem Zgb{l:List D.Path}(h:smallPS l):XI fuel0 l l=some true:=by
 obtain⟨hl,hk⟩:=h;unfold XI;rw[ZmD (by simp)];obtain⟨r,g1,g2⟩:=Yh (l:=l) (n:=fuel0) (σ:=Unit) (ρ:=Unit⊕Bool) (B:=fun(s1:Int)=>if(decide (s1<(len l)))then(get? l s1).bind fun x1=>(get? l s1).bind fun x2=>(ZaD fuel0 x1 x2).bind fun x3=>if(!x3)then some (.inr (.inr false))else some (.inl ((w64 (s1+1))))else some (.inr (.inl ()))) (fun k _=>(k:Int)) (fun _ _=>True) (fun r=>r= .inl ())
  (fun k x xs a hk' hx hlen _=>by
   have hd:decide ((k:Int)<len l)=true:=by rw[Zf];simp;omega
   simp only[hd,ZmT,get?_nat,hx,Zm9,ZgK (hk x (Zn6 hx)),ZmH,ZmA,ZmI]
   exact .inl ⟨(),by rw[Zm (by omega) (by omega)];rfl,trivial⟩)
  (fun a _=>by
   have hd:decide ((l.length:Int)<len l)=false:=by rw[Zf];simp
   simp only[hd,ZmA,ZmI]
   exact⟨_,rfl,rfl⟩) (a:=()) trivial (XV (fuel:=fuel0) hl)
 rw[show((0:Nat):Int)=0 from rfl]at g1;rw[g1,g2];rfl
set_option maxHeartbeats 2000000
def ElP(q:Int)(x:D.Path)(q':Int):Prop:=0≤q∧q≤10000000000000000∧x.Pc=q∧∃k1 k2 k4 k5,Zz fuel0 x.Regs (q+1)=some k1∧0≤k1∧Zz fuel0 x.Mem k1=some k2∧0≤k2∧Yv fuel0 x.Stack k2=some x.In∧0≤x.In∧x.In≤10000000000000000∧
 Zz fuel0 x.Out (x.In+1)=some k4∧0≤k4∧k4≤10000000000000000∧x.Code=k4∧x.Steps=k4+1∧Zz fuel0 x.Cond (k4+1+1)=some k5∧0≤k5∧Yv fuel0 x.Turns k5=some q'∧0≤q'
theorem Zms{q k1 k2 k3 k4 k5 q':Int}{r1 r2 r4 r5:List D.Term}{st tn:List Int}(h0:0≤q)(h1:q≤10000000000000000)(e1:Zz fuel0 r1 (q+1)=some k1)(c1:0≤k1)(e2:Zz fuel0 r2 k1=some k2)(c2:0≤k2)(e3:Yv fuel0 st k2=some k3)(c3:0≤k3∧k3≤10000000000000000)
  (e4:Zz fuel0 r4 (k3+1)=some k4)(c4:0≤k4∧k4≤10000000000000000)(e5:Zz fuel0 r5 (k4+1+1)=some k5)(c5:0≤k5)(e6:Yv fuel0 tn k5=some q')(c6:0≤q'):ElP q (D.Path.mk q r1 r2 st k3 r4 k4 (k4+1) r5 tn) q':=
 ⟨h0,h1,rfl,k1,k2,k4,k5,e1,c1,e2,c2,e3,c3.1,c3.2,e4,c4.1,c4.2,rfl,rfl,e5,c5,e6,c6⟩
def ChP:Int→List D.Path→Int→Prop
 |q,[],e=>q=e
 |q,x::l,e=>∃q',ElP q x q'∧ChP q' l e
theorem ChP.snoc{x:D.Path}{e e':Int}(h':ElP e x e'):∀{l:List D.Path}{q:Int},ChP q l e→ChP q (l++[x]) e'
 |[],q,h=>by cases h;exact⟨e',h',rfl⟩
 |y::l,q,⟨q',h1,h2⟩=>⟨q',h1,h2.snoc h'⟩
theorem Zkl {l:List D.Path}{k e:Int}(h:ChP k l e)(hl:l.length≤1048576):Xl fuel0 l k=some e:=by
  unfold Xl;obtain⟨r,g1,g2⟩:=Yh (l:=l) (n:=fuel0) (σ:=Int) (ρ:=Int⊕Int) (B:=fun(s1:Int×Int)=>if (decide (s1.2<(len l)))then(get? l s1.2).bind fun x1=>if(x1.Pc !=s1.1)then some (.inr (.inr (-1)))else(get? l s1.2).bind fun x2=>(Zz fuel0 x2.Regs (w64 (s1.1+1))).bind fun x3=>if(decide (x3<0))then some (.inr (.inr (-1)))else(get? l s1.2).bind fun x4=>(Zz fuel0 x4.Mem x3).bind fun x5=>if(decide (x5<0))then some (.inr (.inr (-1)))else(get? l s1.2).bind fun x6=>(Yv fuel0 x6.Stack x5).bind fun x7=>if(decide (x7<0))then some (.inr (.inr (-1)))else(get? l s1.2).bind fun x8=>if(x8.In !=x7)then some (.inr (.inr (-1)))else(get? l s1.2).bind fun x9=>(Zz fuel0 x9.Out (w64 (x7+1))).bind fun x10=>if(decide (x10<0))then some (.inr (.inr (-1)))else(get? l s1.2).bind fun x11=>if(x11.Code !=x10)then some (.inr (.inr (-1)))else(get? l s1.2).bind fun x12=>if(x12.Steps !=(w64 (x10+1)))then some (.inr (.inr (-1)))else(get? l s1.2).bind fun x13=>(Zz fuel0 x13.Cond (w64 ((w64 (x10+1))+1))).bind fun x14=>if(decide (x14<0))then some (.inr (.inr (-1)))else(get? l s1.2).bind fun x15=>(Yv fuel0 x15.Turns x14).bind fun x16=>if(decide (x16<0))then some (.inr (.inr (-1)))else some (.inl (x16,(w64 (s1.2+1))))else some (.inr (.inl (s1.1)))) (fun j a=>(a,(j:Int))) (fun ys a=>ChP a ys e) (fun r=>r= .inl e)
    (fun j x xs a hj hx hlen hch=>by
      obtain⟨q',⟨q0,q1,h1,k1,k2,k4,k5,e1,c1,e2,c2,e3,c3,c3',e4,c4,c4',h5,h6,e5,c5,e6,c6⟩,hc⟩:=hch;have hd:decide ((j:Int)<len l)=true:=by rw[Zf];simp;omega
      have n1:¬k1<0:=by omega
      have n2:¬k2<0:=by omega
      have n3:¬x.In<0:=by omega
      have n4:¬k4<0:=by omega
      have n5:¬k5<0:=by omega
      have n6:¬q'<0:=by omega
      simp only[hd,ZmT,get?_nat,hx,Zm9];rw[Zm (x:=a+1) (by omega) (by omega)];simp only[h1,e1,e2,e3,Zm9,bne_self_eq_false,ZmA,ZmI,n1,n2,n3,decide_false];rw[Zm (x:=x.In+1) (by omega) (by omega)];simp only[e4,Zm9];rw[Zm (x:=k4+1) (by omega) (by omega),Zm (x:=k4+1+1) (by omega) (by omega)];simp only[h5,h6,e5,e6,Zm9,bne_self_eq_false,ZmA,ZmI,n4,n5,n6,decide_false]
      exact .inl ⟨q',by rw[Zm (by omega) (by omega)];rfl,hc⟩)
    (fun a hch=>by
      have hd:decide ((l.length:Int)<len l)=false:=by rw[Zf];simp
      simp only[hd,ZmA,ZmI]
      exact⟨_,rfl,by rw[show a=e from hch]⟩) (a:=k) h (XV (fuel:=fuel0) hl)
  rw[show((0:Nat):Int)=0 from rfl]at g1;rw[g1,g2];rfl
theorem Zg2{l:List D.Path}{k:Int}(hl:l.length≤1000000)(hk:∀x∈l,smallP x)(h0:0≤k)(h1:k≤10000000000):∃k' r,Zak fuel0 l k=some (k',r)∧0≤k'∧Xl fuel0 r k=some k':=by
 unfold Zak;obtain⟨r,g1,g2,g3,g4⟩:=Yh (l:=l) (n:=fuel0) (σ:=Int×List D.Path) (ρ:=Int×List D.Path) (B:=fun(s1:Int×Int×(List D.Path))=>if(decide (s1.2.1<(len l)))then(get? s1.2.2 s1.2.1).bind fun x1=>(ZM fuel0 x1.Regs (w64 (s1.1+1))).bind fun x2=>(ZM fuel0 x1.Mem x2.1).bind fun x3=>(Xd fuel0 x1.Stack x3.1).bind fun x4=>(ZM fuel0 x1.Out (w64 (x4.1+1))).bind fun x5=>(ZM fuel0 x1.Cond (w64 ((w64 (x5.1+1))+1))).bind fun x6=>(Xd fuel0 x1.Turns x6.1).bind fun x7=>(set? s1.2.2 s1.2.1 (D.Path.mk s1.1 x2.2 x3.2 x4.2 x4.1 x5.2 x5.1 (w64 (x5.1+1)) x6.2 x7.2)).bind fun x8=>some (.inl (x7.1,(w64 (s1.2.1+1)),x8))else some (.inr (s1.1,s1.2.2))) (fun j a=>(a.1,(j:Int),a.2)) (fun ys a=>(∃pre,a.2=pre++ys∧pre.length+ys.length=l.length∧ChP k pre a.1)∧(∀x∈ys,smallP x)∧k≤a.1∧a.1+40000000*(ys.length:Int)≤k+40000000*(l.length:Int))
   (fun r=>0≤r.1∧ChP k r.2 r.1∧r.2.length=l.length)
   (fun j x xs a hj hx hlen⟨⟨pre,i1,i2,i6⟩,i3,i4,i5⟩=>by
    obtain⟨q,z⟩:=a;simp only at i1 i4 i5 i6⊢;simp only[ZmX]at i2 i5 hlen;have hp:pre.length=j:=by omega
    have hd:decide ((j:Int)<len l)=true:=by rw[Zf];simp;omega
    have hg:z[j]? =some x:=by rw[i1,ZmY (by omega),hp,ZnL];rfl
    obtain⟨s1,s2,s3,s4,s5,s6⟩:=i3 x (by simp);have hb:q≤50000000000000:=by omega
    obtain⟨k1,r1,e1,a1,b1,d1⟩:=Zdt (k:=q+1) s1 (by omega) (by omega);obtain⟨k2,r2,e2,a2,b2,d2⟩:=Zdt (k:=k1) s2 (by omega) (by omega);have e3:=Zep (fuel:=fuel0) (p:=x.Stack) (k:=k2) (by omega) (by omega) s3;have d3:=Zel (fuel:=fuel0) (L:=x.Stack.length) (k:=k2) (by omega) (by omega) s3;obtain⟨k4,r4,e4,a4,b4,d4⟩:=Zdt (k:=k2+x.Stack.length+1) s4 (by omega) (by omega);obtain⟨k5,r5,e5,a5,b5,d5⟩:=Zdt (k:=k4+1+1) s5 (by omega) (by omega);have e6:=Zep (fuel:=fuel0) (p:=x.Turns) (k:=k5) (by omega) (by omega) s6;have d6:=Zel (fuel:=fuel0) (L:=x.Turns.length) (k:=k5) (by omega) (by omega) s6;simp only[hd,ZmT,get?_nat,hg,Zm9];rw[Zm (x:=q+1) (by omega) (by omega),e1];simp only[Zm9,e2,e3];rw[Zm (x:=k2+(x.Stack.length:Int)+1) (by omega) (by omega),e4];simp only[Zm9];rw[Zm (x:=k4+1) (by omega) (by omega),Zm (x:=k4+1+1) (by omega) (by omega),e5];simp only[Zm9,e6];rw[set?_nat (by rw[i1];simp;omega)];refine .inl ⟨(k5+x.Turns.length,z.set j _),by simp only[Zm9];rw[Zm (by omega) (by omega)];rfl,⟨pre++[D.Path.mk q r1 r2 (upI k2 x.Stack.length) (k2+x.Stack.length) r4 k4 (k4+1) r5 (upI k5 x.Turns.length)],?_,by simp;omega,?_⟩,fun y hy=>i3 y (by simp[hy]),by show k≤k5+_;omega,by show k5+_+_≤_;omega⟩
    ·show z.set j _=_;rw[i1,ZnZ _ _ (by omega),hp,ZnL];simp
    ·exact ChP.snoc (Zms (by omega) (by omega) d1 (by omega) d2 (by omega) d3 (by omega) d4 (by omega) d5 (by omega) d6 (by omega)) i6)
   (fun a⟨⟨pre,j1,j2,j3⟩,_,i4,i5⟩=>by
    have hd:decide ((l.length:Int)<len l)=false:=by rw[Zf];simp
    simp only[hd,ZmA,ZmI];rw[ZnW]at j1
    exact⟨_,rfl,by show 0≤a.1;omega,by show ChP k a.2 a.1;rw[j1];exact j3,by show a.2.length=_;rw[j1];simpa using j2⟩) (a:=(k,l)) ⟨⟨[],rfl,by simp,rfl⟩,hk,by show k≤k;omega,by show k+_≤_;omega⟩ (XV (fuel:=fuel0) (by omega))
 rw[show((0:Nat):Int)=0 from rfl]at g1;rw[g1];exact⟨_,_,rfl,g2,Zkl g3 (by omega)⟩
theorem Zju{l:List D.Path}(hl:l.length≤1048576)(hk:∀x∈l,fineP x):Zaj fuel0 l=some l:=by
 unfold Zaj;rw[Zf,show(l.length:Int)=len l from(Zf l).symm,mk?_len (by unfold room;omega)];simp only[Zm9];obtain⟨r,g1,g2⟩:=Yh (l:=l) (n:=fuel0) (σ:=List D.Path) (ρ:=List D.Path) (B:=fun(s1:Int×(List D.Path))=>if(decide (s1.1<(len l)))then(get? l s1.1).bind fun x2=>(XR fuel0 x2).bind fun x3=>(set? s1.2 s1.1 x3).bind fun x4=>some (.inl ((w64 (s1.1+1)),x4))else some (.inr (s1.2))) (fun k(a:List D.Path)=>((k:Int),a)) (fun ys a=>∃pre zs,pre++ys=l∧a=pre++zs∧zs.length=ys.length) (fun r=>r=l)
  (fun k x xs a hk' hx hlen⟨pre,zs,i1,i2,i3⟩=>by
   have hd:decide ((k:Int)<len l)=true:=by rw[Zf];simp;omega
   have hp:pre.length=k:=by
    have:=congrArg List.length i1;simp at this hlen;omega
   simp only[hd,ZmT,get?_nat,hx,Zm9,ZkS (hk x (Zn6 hx))];obtain⟨z,zs,rfl⟩:∃z zs',zs=z::zs':=by cases zs with|nil=>simp at i3|cons z zs=>exact⟨_,_,rfl⟩
   rw[set?_nat (by rw[i2];simp;omega)];refine .inl ⟨a.set k x,by simp only[Zm9];rw[Zm (by omega) (by omega)];rfl,pre++[x],zs,by rw[ZnB];exact i1,?_,by simpa using i3⟩
   rw[i2,ZnZ _ _ (by omega),hp,ZnL];simp)
  (fun a⟨pre,zs,i1,i2,i3⟩=>by
   have hd:decide ((l.length:Int)<len l)=false:=by rw[Zf];simp
   simp only[hd,ZmA,ZmI];simp at i3;subst i3;rw[ZnW]at i1 i2
   exact⟨_,rfl,by rw[i2,i1]⟩) (a:=List.replicate l.length _) ⟨[],_,rfl,by simp;rfl,by simp⟩ (XV (fuel:=fuel0) hl)
 rw[show((0:Nat):Int)=0 from rfl]at g1;rw[g1,g2];rfl
theorem Zl9{α β:Type}{o:Option α}{K:α→Option β}{R:α→Prop}{X:Option β}(h:∃r,o=some r∧R r)(k:∀r,R r→K r=X):o.bind K=X:=by
 obtain⟨r,rfl,hr⟩:=h;exact k r hr
theorem Zfh{α β:Type}{f:β→α→β}{Q:β→Prop}:∀(l:List α)(b:β),Q b→(∀b x,x∈l→Q b→Q (f b x))→Q (l.foldl f b)
 |[],_,h,_=>h
 |x::l,b,h,hf=>Zfh l (f b x) (hf b x (by simp) h) fun b y hy=>hf b y (by simp[hy])
def okS(n:Int)(z:D.Path×Bool):Prop:=z.1.Code≠2∧z.1.Steps=n
theorem ZlD{p:D.Program}{s:D.Path}{i:D.Ins}(h:s.Code=0):okS s.Steps (flw p s i):=by
 have h2:s.Code≠2:=by omega
 unfold flw;by_cases c1:i.Op=1
 ·rw[ZmE c1];exact⟨h2,rfl⟩
 rw[ZmD c1];by_cases c2:i.Op=2
 ·rw[ZmE c2];exact⟨h2,rfl⟩
 rw[ZmD c2];by_cases c3:i.Op=3
 ·rw[ZmE c3];exact⟨h2,rfl⟩
 rw[ZmD c3];by_cases c4:i.Op=4
 ·rw[ZmE c4];exact⟨h2,rfl⟩
 rw[ZmD c4];by_cases c5:i.Op=5
 ·rw[ZmE c5];exact⟨h2,rfl⟩
 rw[ZmD c5];by_cases c6:i.Op=6
 ·rw[ZmE c6];exact⟨h2,rfl⟩
 rw[ZmD c6];by_cases c7:i.Op=7
 ·rw[ZmE c7];exact⟨h2,rfl⟩
 rw[ZmD c7];by_cases c8:i.Op=8
 ·rw[ZmE c8];exact⟨h2,rfl⟩
 rw[ZmD c8]
 repeat' split
 all_goals first|exact⟨h2,rfl⟩|exact⟨by simp,rfl⟩
theorem Zj6{p:D.Program}{s t:D.Path}(h:t∈stp1 p s):(t.Code=2∧t.Steps=s.Steps)∨(t.Code≠2∧t.Steps=s.Steps+1):=by
 unfold stp1 at h;split at h
 ·cases h
 rename_i c0;have hc:s.Code=0:=by omega
 split at h
 ·rw[ZmO.1 h];exact .inl ⟨rfl,rfl⟩
 split at h
 ·rw[ZmO.1 h];refine .inr ⟨?_,rfl⟩;show stk p {s with Steps:=s.Steps+1} (insAt p s.Pc)≠2;unfold stk
  repeat' split
  all_goals decide
 have hn:(nmd {s with Steps:=s.Steps+1} (insAt p s.Pc)).Code≠2∧(nmd {s with Steps:=s.Steps+1} (insAt p s.Pc)).Steps=s.Steps+1:=by
  unfold nmd
  repeat' split
  all_goals first|exact⟨by show s.Code≠2;omega,rfl⟩|exact⟨by simp,rfl⟩
 have hf:(flw p {s with Steps:=s.Steps+1} (insAt p s.Pc)).1.Code≠2∧(flw p {s with Steps:=s.Steps+1} (insAt p s.Pc)).1.Steps=s.Steps+1:=by
  exact ZlD (s:={s with Steps:=s.Steps+1}) hc
 right;unfold dvd at h;split at h
 ·rw[ZmO.1 h];exact⟨by simp,rfl⟩
 split at h
 ·rw[ZmO.1 h];exact hn
 split at h
 ·rw[ZmO.1 h];exact⟨by simp,rfl⟩
 split at h
 ·rw[ZmO.1 h];exact hf
 split at h
 ·rw[ZmO.1 h];exact⟨by simp,rfl⟩
 ·rcases Zn1.1 h with rfl|h
  ·exact hn
  ·rw[ZmO.1 h];exact hf
theorem took{p:D.Program}{s t:D.Path}(hs:okP p s)(h:t∈stp1 p s):Xq s t=some 1:=by
 have hst:=hs.st;unfold Xq;rcases Zj6 h with⟨h1,h2⟩|⟨h1,h2⟩
 ·rw[h1,h2,Zm (x:=s.Steps-s.Steps) (by omega) (by omega),Zm (by omega) (by omega)];simp
 ·rw[h2,show(t.Code==2)=false by simpa using h1,Zm (x:=s.Steps+1-s.Steps) (by omega) (by omega)];simp;omega
theorem Ziu{e:List D.Path}{s:D.Path}(h:e.length≤65):app? e ([s]:List D.Path)=some (e++[s]):=by
 unfold app? room;rw[ZmE (by simp;omega)]
end Go.Proofs.YtbidabmbbieeiabGreatDoor
end
section
namespace Go.Proofs.YtbidabmbbieeiabGreatDoor
open Go.GL
variable{fuel:Nat}[FU fuel]
set_option linter.unusedSimpArgs false
set_option maxRecDepth 100000
def nm2(c:UInt8)(k:Nat):Str:=⟨[c,UInt8.ofNat (48+k)]⟩
def vT(w:Int)(c:UInt8)(k:Nat):D.Term:=⟨22,w,0,nm2 c k,[]⟩
theorem Zi3:∀k:Fin 10,cat? (strOf [Byt.mk (IntKind.u8.wrap (w64 (48+(k.val:Int))))]) ⟨[]⟩=some ⟨[UInt8.ofNat (48+k.val)]⟩∧ZW (k.val:Int)=some ⟨[UInt8.ofNat (48+k.val)]⟩:=by decide+kernel
theorem Zie:∀k:Fin 10,(cat? ⟨[114]⟩ ⟨[UInt8.ofNat (48+k.val)]⟩=some (nm2 114 k.val)∧nameB (nm2 114 k.val)=true)∧cat? ⟨[109]⟩ ⟨[UInt8.ofNat (48+k.val)]⟩=some (nm2 109 k.val)∧nameB (nm2 109 k.val)=true:=by decide+kernel
theorem Zkh{k:Nat}(h:k<10):Yq fuel (k:Int)=some ⟨[UInt8.ofNat (48+k)]⟩:=by
 rw[ZfZ (by omega) (by omega)];exact(Zi3 ⟨k,h⟩).1
theorem Zkk{k:Nat}(h:k<10):ZW (k:Int)=some ⟨[UInt8.ofNat (48+k)]⟩:=(Zi3 ⟨k,h⟩).2
def Ltr(c:UInt8):Prop:=∀k,k<10→cat? ⟨[c]⟩ ⟨[UInt8.ofNat (48+k)]⟩=some (nm2 c k)∧nameB (nm2 c k)=true
theorem Zkx:Ltr 114:=fun k h=>(Zie ⟨k,h⟩).1
theorem ZjX:Ltr 109:=fun k h=>(Zie ⟨k,h⟩).2
theorem ZlM{p:D.Program}(hp:progB p=true){c:UInt8}(hc:Ltr c){k:Nat}(h:k<10):fine (vT p.W c k)∧(vT p.W c k).W=p.W:=by
 have hm:=Yg hp;refine⟨⟨?_,by unfold vT;rw[XT];simp only[XN];omega⟩,rfl⟩;have w1:1≤p.W:=by omega
 have w2:p.W≤16:=by omega
 have hn:nameB (vT p.W c k).Name=true:=(hc k h).2;rw[Xx,ZY];simp only[locB,shB,hn];simp[vT,w1,w2]
theorem Zkj{p:D.Program}(hp:progB p=true){s:Str}(hl:s.bytes.length≤100)(hn:nameB s=true):Y1 fuel p.W s=some ⟨22,p.W,0,s,[]⟩:=by
 have hm:=Yg hp;have hw:ZA p.W=some true:=by
  unfold ZA;have h1:1≤p.W:=by omega
  have h2:p.W≤16:=by omega
  simp[h1,h2]
 unfold Y1;rw[hw];simp only[Zm9,ZmH,ZmA,ZmI];rw[ZdV (by omega) (by have:=FU.le (n:=fuel);omega),hn];rfl
def frs(w:Int)(c:UInt8)(m:Nat):List D.Term:=(List.range m).map (vT w c)
theorem Zhf(w:Int)(c:UInt8)(m:Nat):frs w c (m+1)=frs w c m++[vT w c m]:=by unfold frs;rw[List.range_succ,Zor];rfl
theorem Ze9(w:Int)(c:UInt8)(m:Nat):(frs w c m).length=m:=by simp[frs]
theorem Zic{w b:Int}{c:UInt8}{m:Nat}(hc:Ltr c)(hb:b=(m:Int))(hm:m≤9):iterN (fun(s1:Int×(List D.Term))=>if(decide (s1.1<b))then(Yq fuel s1.1).bind fun x1=>(cat? ⟨[c]⟩ x1).bind fun x2=>(app? s1.2 ([(D.Term.mk 22 w 0 x2 ([]:List D.Term))]:List D.Term)).bind fun x3=>some (.inl ((w64 (s1.1+1)),x3))else some (.inr (s1.2))) fuel (0,([]:List D.Term))=some (frs w c m):=by
  refine ZbE (I:=fun k s=>s=((k:Int),frs w c k)) (m:=m) (fun k s hk hs=>?_) (fun s hs=>?_) m 0 _ (by omega) rfl fuel (XV (by omega))
  · subst hs
    refine⟨_,?_,rfl⟩;rw[ZmE (by simp;omega),Zkh (by omega)];simp only[Zm9];rw[(hc k (by omega)).1];simp only[Zm9];unfold app? room;rw[ZmE (by rw[Ze9];simp;omega),Zm (by omega) (by omega),Zhf];rfl
  · subst hs
    rw[ZmD (by simp;omega)]
theorem Zib{p:D.Program}(hp:progB p=true){b:Int}{c:UInt8}{m:Nat}(hc:Ltr c)(hb:b=(m:Int))(hm:m≤9):iterN (fun(s1:Int×(List D.Term))=>if(decide (s1.1<b))then(ZW s1.1).bind fun x3=>(cat? ⟨[c]⟩ x3).bind fun x4=>(Y1 fuel p.W x4).bind fun x5=>(set? s1.2 s1.1 (D.Term.mk x5.Op x5.W x5.N x5.Name ([]:List D.Term))).bind fun x6=>some (.inl ((w64 (s1.1+1)),x6))else some (.inr (s1.2))) fuel (0,List.replicate m t0)=some (frs p.W c m):=by
  refine ZbE (I:=fun k s=>s=((k:Int),frs p.W c k++List.replicate (m-k) t0)) (m:=m) (fun k s hk hs=>?_) (fun s hs=>?_) m 0 _ (by omega) (by simp[frs]) fuel (XV (by omega))
  · subst hs
    refine⟨_,?_,rfl⟩;obtain⟨h1,h2⟩:=hc k (by omega);rw[ZmE (by simp;omega),Zkk (by omega)];simp only[Zm9];rw[h1];simp only[Zm9];rw[Zkj hp (by simp[nm2]) h2];simp only[Zm9];rw[show m-k=(m-(k+1))+1 by omega,List.replicate_succ,set_mid (by rw[Ze9])];simp only[Zm9];rw[Zm (by omega) (by omega),Zhf];simp only[ZnB,ZnD];rfl
  · subst hs
    rw[ZmD (by simp;omega)];simp
def pathV(p:D.Program)(pc:Int):D.Path:=⟨pc,frs p.W 114 4,frs p.W 109 p.Mem.toNat,[],0,[],0,0,[],[]⟩
theorem Zd3{p:D.Program}(hp:progB p=true){pc:Int}(h:0≤pc∧pc≤len p.Code):okP p (pathV p pc):=by
 have hm:=Yg hp;have hq:=ZcV hp;have hf:∀(c:UInt8)(m:Nat),Ltr c→m≤9→fw p.W (frs p.W c m):=fun c m hc hm t ht=>by
  unfold frs at ht;obtain⟨k,hk,rfl⟩:=Zol.1 ht;exact ZlM hp hc (by have:=ZmP.1 hk;omega)
 refine⟨h,by show(frs p.W 114 4).length=4;rw[Ze9],hf _ _ Zkx (by omega),by show((frs p.W 109 p.Mem.toNat).length:Int)=_;rw[Ze9];omega,hf _ _ ZjX (by omega),by show(0:Nat)≤3;omega,fun x hx=>(by cases hx),⟨by show(0:Int)≤0;omega,by show(0:Int)≤_;omega⟩,by show(0:Nat)≤6;omega,fun x hx=>(by cases hx),by show(0:Int)≤0∧(0:Int)≤9;omega,by show(0:Int)≤0∧(0:Int)≤400;omega,by show(0:Nat)≤60;omega,fun x hx=>(by cases hx),by show(0:Nat)≤60;omega⟩
theorem ZhF{p:D.Program}(hp:progB p=true)(pc:Int):Zat fuel p pc=some (pathV p pc):=by
 have hm:=Yg hp;unfold Zat;rw[Zic (b:=4) (m:=4) Zkx rfl (by omega)];simp only[Zm9];rw[Zic (m:=p.Mem.toNat) ZjX (by omega) (by omega)];rfl
theorem ZhB{p:D.Program}(hp:progB p=true)(pc:Int):ZaL fuel p pc=some (pathV p pc):=by
 have hm:=Yg hp;unfold ZaL;have m1:mk? 4 (D.Term.mk 0 0 0 ⟨[]⟩ ([]:List D.Term))=some (List.replicate 4 t0):=by
  unfold mk?;rw[ZmE ⟨by omega,by unfold room;decide⟩];rfl
 have m2:mk? p.Mem (D.Term.mk 0 0 0 ⟨[]⟩ ([]:List D.Term))=some (List.replicate p.Mem.toNat t0):=by
  unfold mk?;rw[ZmE ⟨by omega,by unfold room;omega⟩];rfl
 rw[m1,m2];simp only[Zm9];rw[Zib hp (m:=4) Zkx (by rw[Zf];simp) (by omega)];simp only[Zm9];rw[Zib hp (m:=p.Mem.toNat) ZjX (by rw[Zf];simp) (by omega)];rfl
def opA(p:D.Program)(s:D.Path):Int:=if s.Pc<len p.Code∧s.Code=0 then(insAt p s.Pc).Op else 0
theorem Zfy{p:D.Program}{s:D.Path}(hs:okP p s):XH p s=some (opA p s):=by
 have hpc:=hs.pc;unfold XH opA;by_cases c:s.Pc<len p.Code∧s.Code=0
 ·rw[ZmE c,ZmD (by simp;omega),(Zcq hpc.1 (by rw[Zf]at c;exact c.1)).1];rfl
 ·rw[ZmD c,ZmE (by simp;omega)]
theorem ZgA{p:D.Program}{s:D.Path}(hs:okP p s){β:Type}{K:Int⊕β→Option β}:(if((decide (s.Pc<(len p.Code)))&&(s.Code==0))then(get? p.Code s.Pc).bind fun x1=>some (.inl (x1.Op))else some (.inl (0))).bind K=K (.inl (opA p s)):=by
 have hpc:=hs.pc;unfold opA;by_cases c:s.Pc<len p.Code∧s.Code=0
 ·rw[ZmE c,ZmE (by simp;omega),(Zcq hpc.1 (by rw[Zf]at c;exact c.1)).1];rfl
 ·rw[ZmD c,ZmD (by simp;omega)];rfl
def gd(p:D.Program)(s:D.Path):Bool:=!((s.Code==9)||((s.Code==0)&&(opA p s !=12)))
noncomputable def goS(p:D.Program)(most:Int):Nat→D.Path→List D.Path→List D.Path×Bool
 |0,s,e=>(e++[s],decide (len (e++[s])>most))
 |k+1,s,e=>if opA p s=12 then(e++[s],decide (len (e++[s])>most))else if opA p s=5∨opA p s=6∨opA p s=11 then(e,true)else if(stp1 p s).isEmpty=true then(e++[s],decide (len (e++[s])>most))else(stp1 p s).foldl (fun a t=>if a.2=true then a else goS p most k t a.1) (e,false)
noncomputable def goT(p:D.Program)(most:Int):Nat→D.Path→List D.Path→List D.Path×Bool
 |0,s,e=>if opA p s=12∨s.Code≠0 then(e++[s],decide (len (e++[s])≤most)&&(s.Code !=9))else(e,false)
 |k+1,s,e=>if opA p s=12∨s.Code≠0 then(e++[s],decide (len (e++[s])≤most)&&(s.Code !=9))else if opA p s=5∨opA p s=6∨opA p s=11 then(e,false)else
  if((stp1 p s).foldl (fun a t=>if a.2=true then goT p most k t a.1 else a) (e,true)).2=true then(((stp1 p s).foldl (fun a t=>if a.2=true then goT p most k t a.1 else a) (e,true)).1,!(stp1 p s).isEmpty)else(stp1 p s).foldl (fun a t=>if a.2=true then goT p most k t a.1 else a) (e,true)
def EndsS(p:D.Program)(most:Int)(a:List D.Path×Bool):Prop:=(∀x∈a.1,okP p x)∧a.1.length≤65∧(a.2=false→(a.1.length:Int)≤most)
theorem fin_endsS{p:D.Program}{most:Int}(hm:most≤64){s:D.Path}{e:List D.Path}(hs:okP p s)(he:EndsS p most (e,false)):EndsS p most (e++[s],decide (len (e++[s])>most)):=by
 obtain⟨h1,h2,h3⟩:=he;have h4:=h3 rfl;simp only at h1 h2 h4;refine⟨fun x hx=>?_,by simp;omega,fun h=>?_⟩
 ·rcases Zne.1 hx with hx|hx
  ·exact h1 x hx
  ·rw[ZmO.1 hx];exact hs
 ·have:=of_decide_eq_false h;rw[Zf]at this;show((e++[s]).length:Int)≤most;omega
theorem ZdA{p:D.Program}{most:Int}(hp:progB p=true)(hm:most≤64):∀(k:Nat)(s:D.Path)(e:List D.Path),okP p s→EndsS p most (e,false)→EndsS p most (goS p most k s e)
 |0,s,e,hs,he=>by rw[goS];exact fin_endsS hm hs he
 | k+1,s,e,hs,he=>by
  rw[goS];split
  ·exact fin_endsS hm hs he
  split
  ·exact⟨he.1,he.2.1,fun h=>(by cases h)⟩
  split
  ·exact fin_endsS hm hs he
  ·refine Zfh _ _ he fun a t ht ha=> ?_;obtain⟨a,b⟩:=a;cases b
   ·exact ZdA hp hm k t a (ZhH hp hs t ht) ha
   ·exact ha
theorem Ziz{p:D.Program}{most:Int}{x:D.Path}:∀(k:Nat)(s:D.Path)(e:List D.Path),x∈e→x∈(goS p most k s e).1
 |0,s,e,h=>by rw[goS];simp[h]
 | k+1,s,e,h=>by
  rw[goS];split
  ·simp[h]
  split
  ·exact h
  split
  ·simp[h]
  ·refine Zfh (Q:=fun(a:List D.Path×Bool)=>x∈a.1) _ _ h fun a t _ ha=> ?_;split
   ·exact ha
   ·exact Ziz k t _ ha
def RelS(p:D.Program)(e:List D.Path)(S T:List D.Path×Bool):Prop:=if T.2=true then S=(T.1,false)∧∀x∈T.1,x∈e∨gd p x=true else S.2=true∨∃x∈S.1,gd p x=false
theorem Zmn{p:D.Program}{s:D.Path}:gd p s=true↔s.Code≠9∧(s.Code=0→opA p s=12):=by
 unfold gd;by_cases a:s.Code=9<;>by_cases b:s.Code=0<;>by_cases c:opA p s=12<;>simp[a,b,c]
theorem fin_rel{p:D.Program}{most:Int}{s:D.Path}{e:List D.Path}(h:opA p s=12∨s.Code≠0):RelS p e (e++[s],decide (len (e++[s])>most)) (e++[s],decide (len (e++[s])≤most)&&(s.Code !=9)):=by
 unfold RelS;by_cases c1:len (e++[s])≤most
 ·by_cases c2:s.Code=9
  ·rw[ZmD (by simp[c2])];exact .inr ⟨s,by simp,by unfold gd;simp[c2]⟩
  ·rw[ZmE (by simp[c1,c2])];refine⟨by rw[decide_eq_false (by omega)],fun x hx=>?_⟩;rcases Zne.1 hx with hx|hx
   ·exact .inl hx
   ·rw[ZmO.1 hx];exact .inr (Zmn.2 ⟨c2,fun h0=>h.resolve_right (fun q=>q h0)⟩)
 ·rw[ZmD (by simp[c1])];exact .inl (decide_eq_true (by omega))
theorem ZgS{p:D.Program}{most:Int}{k:Nat}{e0:List D.Path}(ih:∀(s:D.Path)(e:List D.Path),RelS p e (goS p most k s e) (goT p most k s e)):∀(l:List D.Path)(S T:List D.Path×Bool),RelS p e0 S T→
  RelS p e0 (l.foldl (fun a t=>if a.2=true then a else goS p most k t a.1) S) (l.foldl (fun a t=>if a.2=true then goT p most k t a.1 else a) T)
 |[],_,_,h=>h
 | t::l,S,T,h=>by
  rw[ZnU,ZnU];refine ZgS ih l _ _ ?_;unfold RelS at h;by_cases c:T.2=true
  ·rw[ZmE c]at h;obtain⟨rfl,h⟩:=h;have:=ih t T.1;simp only[ZmA,ZmI];rw[ZmE c];unfold RelS at this⊢;split
   ·rename_i c2;rw[ZmE c2]at this;exact⟨this.1,fun x hx=>(this.2 x hx).elim (h x) .inr⟩
   ·rename_i c2;rw[ZmD c2]at this;exact this
  ·rw[ZmD c]at h;rw[ZmD c];unfold RelS;rw[ZmD c];split
   ·rename_i c2;exact .inl c2
   ·rename_i c2;obtain⟨x,hx,hg⟩:=h.resolve_left c2;exact .inr ⟨x,Ziz k t _ hx,hg⟩
theorem Zh7{p:D.Program}{most:Int}:∀(k:Nat)(s:D.Path)(e:List D.Path),RelS p e (goS p most k s e) (goT p most k s e)
 | 0,s,e=>by
  rw[goS,goT];split
  ·rename_i h;exact fin_rel h
  ·rename_i h;unfold RelS;rw[ZmD (by simp)];have h0:s.Code=0:=by omega
   exact .inr ⟨s,by simp,by unfold gd;simp[h0];omega⟩
 | k+1,s,e=>by
  rw[goS,goT];by_cases h12:opA p s=12
  ·rw[ZmE h12,ZmE (.inl h12)];exact fin_rel (.inl h12)
  rw[ZmD h12];by_cases hc:s.Code=0;rotate_left
  ·have ho:opA p s=0:=by unfold opA;rw[ZmD (fun h=>hc h.2)]
   have hst:stp1 p s=[]:=by unfold stp1;rw[ZmE (.inl hc)]
   rw[ZmE (show opA p s=12∨s.Code≠0 from .inr hc),ZmD (show¬(opA p s=5∨opA p s=6∨opA p s=11) by omega),hst,ZmE (show([]:List D.Path).isEmpty=true from rfl)];exact fin_rel (.inr hc)
  rw[ZmD (show¬(opA p s=12∨s.Code≠0) by omega)];by_cases h5:opA p s=5∨opA p s=6∨opA p s=11
  ·rw[ZmE h5,ZmE h5];unfold RelS;rw[ZmD (by simp)];exact .inl rfl
  rw[ZmD h5,ZmD h5];by_cases hl:(stp1 p s).isEmpty=true
  ·rw[ZmE hl,ZnJ.1 hl,ZoE,ZmE rfl];unfold RelS;rw[ZmD (by simp)];exact .inr ⟨s,by simp,by unfold gd;simp[hc];exact h12⟩
  rw[ZmD hl];have hF:=ZgS (p:=p) (most:=most) (e0:=e) (Zh7 k) (stp1 p s) (e,false) (e,true) (by unfold RelS;rw[ZmE rfl];exact⟨rfl,fun x hx=>.inl hx⟩);generalize (stp1 p s).foldl (fun a t=>if a.2=true then goT p most k t a.1 else a) (e,true)=T at hF⊢;by_cases c:T.2=true
  ·rw[ZmE c,show(!(stp1 p s).isEmpty)=true by simpa using hl];unfold RelS at hF⊢;rw[ZmE c]at hF;rw[ZmE rfl];exact hF
  ·rw[ZmD c];exact hF
end Go.Proofs.YtbidabmbbieeiabGreatDoor
end
section
namespace Go.Proofs.YtbidabmbbieeiabGreatDoor
open Go.GL
set_option linter.unusedSimpArgs false
set_option maxRecDepth 100000
theorem Zlg{p:D.Program}{most:Int}(k:Nat)(s:D.Path)(e:List D.Path)(h:(goT p most k s e).2=true):goS p most k s e=((goT p most k s e).1,false):=by
 have:=Zh7 (p:=p) (most:=most) k s e;unfold RelS at this;rw[ZmE h]at this;exact this.1
theorem Zhm{p:D.Program}{most:Int}(hp:progB p=true)(hm:most≤64)(k:Nat)(s:D.Path)(e:List D.Path)(hs:okP p s)(he:EndsS p most (e,false))(h:(goT p most k s e).2=true):EndsS p most ((goT p most k s e).1,false):=by
 have:=ZdA hp hm k s e hs he
 rwa [Zlg k s e h]at this
theorem ZgC{p:D.Program}{most:Int}(hp:progB p=true)(h64:most≤64):∀(k:Nat)(s:D.Path)(e:List D.Path)(n:Nat),okP p s→EndsS p most (e,false)→4194400+k<n→k≤400→
    ∃e',Ym n ⟨p,most,e⟩ s (k:Int)=some ((goT p most k s e).2,⟨p,most,e'⟩)∧((goT p most k s e).2=true→e'=(goT p most k s e).1)
  | 0,s,e,n,hs,he,hn,_=>by
    obtain⟨n,rfl⟩:∃m,n=m+1:=⟨n-1,by omega⟩;rw[Ym,ZgA hs,goT];simp only;by_cases c:opA p s=12∨s.Code≠0
    · rw[ZmE c,ZmE (by simpa using c),Ziu he.2.1]
      exact⟨_,rfl,fun _=>rfl⟩
    · rw[ZmD c,ZmD (by simpa using c),ZmE (by simp)]
      exact⟨_,rfl,fun _=>rfl⟩
  | k + 1,s,e,n,hs,he,hn,hk=>by
    obtain⟨n,rfl⟩:∃m,n=m+1:=⟨n-1,by omega⟩
    haveI:FU n:=⟨by omega⟩
    rw[Ym,ZgA hs,goT];simp only;by_cases c:opA p s=12∨s.Code≠0
    · rw[ZmE c,ZmE (by simpa using c),Ziu he.2.1]
      exact⟨_,rfl,fun _=>rfl⟩
    rw[ZmD c,ZmD (by simpa using c)];have h0:((((k+1:Nat):Int)==0))=false:=by simp;omega
    rw[h0];by_cases c5:opA p s=5∨opA p s=6∨opA p s=11
    · rw[ZmE c5,ZmE (by simp;omega)]
      exact⟨_,rfl,fun _=>rfl⟩
    rw[ZmD c5,ZmD (by simp;omega),Zjj hp hs];simp only[Zm9];have hl:=Zih p s;have hall:∀t∈stp1 p s,okP p t:=ZhH hp hs;have ih:=ZgC hp h64 k;have hw:w64 (((k+1:Nat):Int)-1)=(k:Int):=by rw[Zm (by omega) (by omega)];omega
    rw[hw];have hlen:decide (len (stp1 p s)>0)= !(stp1 p s).isEmpty:=by
      rw[Zf];cases stp1 p s<;>simp
    rw[hlen];generalize stp1 p s=l at hl hall⊢;have hfalse:∀(xs:List D.Path)(a:List D.Path),xs.foldl (fun a t=>if a.2=true then goT p most k t a.1 else a) (a,false)=(a,false):=fun xs a=>by
      induction xs with
      |nil=>rfl
      |cons y ys ih2=>rw[ZnU];simpa using ih2
    obtain⟨r,g1,g2⟩:=Yh (l:=l) (n:=n) (B:=fun(s2:Int×Int×(List D.Path))=>if(decide (s2.1<(len l)))then(get? l s2.1).bind fun x4=>(Ym n (D.l07Sum.mk p s2.2.1 s2.2.2) x4 (k:Int)).bind fun x5=>if(!x5.1)then some (.inr (.inr (false,(D.l07Sum.mk p x5.2.most x5.2.ends))))else some (.inl ((w64 (s2.1+1)),x5.2.most,x5.2.ends))else some (.inr (.inl (s2.2.1,s2.2.2)))) (fun j(a:List D.Path)=>((j:Int),most,a)) (fun ys a=>(∃pre,pre++ys=l)∧EndsS p most (a,false)∧l.foldl (fun a t=>if a.2=true then goT p most k t a.1 else a) (e,true)=ys.foldl (fun a t=>if a.2=true then goT p most k t a.1 else a) (a,true))
      (fun(r:(Int×List D.Path)⊕(Bool×D.l07Sum))=>∃e',((l.foldl (fun a t=>if a.2=true then goT p most k t a.1 else a) (e,true)).2=true→e'=(l.foldl (fun a t=>if a.2=true then goT p most k t a.1 else a) (e,true)).1)∧r=if(l.foldl (fun a t=>if a.2=true then goT p most k t a.1 else a) (e,true)).2=true then .inl (most,e')else .inr (false,⟨p,most,e'⟩))
      (fun j x xs a hj hx hlen⟨⟨pre,hpre⟩,ha,hf⟩=>by
        have hxl:x∈l:=by rw[←hpre];simp
        obtain⟨e',q1,q2⟩:=ih x a n (hall x hxl) ha (by omega) (by omega);rw[ZmE (by rw[Zf];simp;omega),get?_nat,hx];simp only[Zm9];rw[q1];simp only[Zm9];rw[ZnU]at hf;simp only[ZmT]at hf;cases hb:(goT p most k x a).2
        · right
          have e1:goT p most k x a=((goT p most k x a).1,false):=by rw[←hb]
          rw[e1,hfalse]at hf;rw[hf];exact⟨_,rfl,e',fun h=>(by cases h),by simp⟩
        · left
          have hg:=Zhm hp h64 k x a (hall x hxl) ha hb;refine⟨(goT p most k x a).1,?_,⟨pre++[x],by rw[←hpre];simp⟩,hg,?_⟩
          · rw[ZmD (by simp),Zm (by omega) (by omega),q2 hb];rfl
          · rw[hf,show((goT p most k x a).1,true)=goT p most k x a by rw[←hb]])
      (fun a⟨_,ha,hf⟩=>by
        rw[ZmD (by rw[Zf];simp)];rw[ZoE]at hf;rw[hf]
        exact⟨_,rfl,a,fun _=>rfl,by simp⟩) (a:=e) ⟨⟨[],rfl⟩,he,rfl⟩ (by omega)
    rw[show((0:Nat):Int)=0 from rfl]at g1;rw[g1];obtain⟨e',h1,rfl⟩:=g2;simp only[Zm9];generalize l.foldl (fun a t=>if a.2=true then goT p most k t a.1 else a) (e,true)=z at h1⊢;by_cases cz:z.2=true
    · rw[ZmE cz,ZmE cz]
      exact⟨_,rfl,fun _=>h1 cz⟩
    · rw[ZmD cz,ZmD cz]
      have:z.2=false:=by simpa using cz
      rw[this];exact⟨_,rfl,fun h=>(by cases h)⟩
theorem Zhr{p:D.Program}{most:Int}(hp:progB p=true)(h64:most≤64):∀(k:Nat)(s:D.Path)(e:List D.Path)(n:Nat),okP p s→EndsS p most (e,false)→4194400+k<n→k≤400→
  Zo n ⟨most,e,false,(),()⟩ s (k:Int) p=some ⟨most,(goS p most k s e).1,(goS p most k s e).2,(),()⟩
 |0,s,e,n,hs,he,hn,_=>by
  obtain⟨n,rfl⟩:∃m,n=m+1:=⟨n-1,by omega⟩;rw[Zo,goS,ZmD (by simp),ZmD (by simp),ZmD (by simp)];simp only[Zm9];rw[ZmD (by simp),Ziu he.2.1];simp only[Zm9];by_cases c:len (e++[s])>most
  ·rw[ZmE (by simpa using c),decide_eq_true c]
  ·rw[ZmD (by simpa using c),decide_eq_false c]
 | k+1,s,e,n,hs,he,hn,hk=>by
  obtain⟨n,rfl⟩:∃m,n=m+1:=⟨n-1,by omega⟩
  haveI:FU n:=⟨by omega⟩
  have fin:((app? e ([s]:List D.Path)).bind fun x6=>if(decide ((len x6)>most))then some (D.explorer.mk most x6 true () ())else some (D.explorer.mk most x6 false () ()))=some ⟨most,e++[s],decide (len (e++[s])>most),(),()⟩:=by
   rw[Ziu he.2.1];simp only[Zm9];by_cases c:len (e++[s])>most
   ·rw[ZmE (by simpa using c),decide_eq_true c]
   ·rw[ZmD (by simpa using c),decide_eq_false c]
  rw[Zo,goS,ZmD (by simp),ZmD (by simp),ZmE (by simp)];unfold Zao;rw[Zfy hs];simp only[Zm9];by_cases c12:opA p s=12
  ·rw[ZmE c12,ZmD (by simp[c12])];exact fin
  rw[ZmD c12,ZmE (by simp[c12])];unfold ZO Zae;rw[Zfy hs,Zjf hp hs];simp only[Zm9];by_cases c5:opA p s=5∨opA p s=6∨opA p s=11
  ·rw[ZmE c5];rcases c5 with c|c|c<;>simp[c]
  rw[ZmD c5,ZmD (show¬(opA p s==5)=true by simp;omega),ZmD (show¬((opA p s==6)||(opA p s==11))=true by simp;omega)];simp only[Zm9,ZmA,ZmI];have hl:=Zih p s;by_cases c:(stp1 p s).isEmpty=true
  ·rw[ZmE c,ZnJ.1 c,ZmD (by simp[len])];exact fin
  rw[ZmD c];have hne:decide (len (stp1 p s)>0)=true:=by
   rw[Zf];refine decide_eq_true ?_;have:(stp1 p s).length≠0:=fun h=>c (ZnJ.2 (Zno.1 h));omega
  rw[ZmE hne];have hall:∀t∈stp1 p s,okP p t:=ZhH hp hs;have htk:∀t∈stp1 p s,Xq s t=some 1:=fun t ht=>took hs ht;have ih:=Zhr hp h64 k;have hw:w64 (((k+1:Nat):Int)-1)=(k:Int):=by rw[Zm (by omega) (by omega)];omega
  clear fin;generalize stp1 p s=l at hl hall htk hne c⊢;refine Zl9 (R:=fun r=>r=(most,(l.foldl (fun a t=>if a.2=true then a else goS p most k t a.1) (e,false)).2,(l.foldl (fun a t=>if a.2=true then a else goS p most k t a.1) (e,false)).1))
   (Yh (l:=l) (fun j(a:List D.Path×Bool)=>((j:Int),most,a.2,a.1)) (fun ys a=>(∃pre,pre++ys=l)∧EndsS p most a∧l.foldl (fun a t=>if a.2=true then a else goS p most k t a.1) (e,false)=ys.foldl (fun a t=>if a.2=true then a else goS p most k t a.1) a) _ (a:=(e,false)) (fun j x xs a hj hx hlen⟨⟨pre,hpre⟩,ha,hf⟩=>?_) (fun a⟨_,ha,hf⟩=>?_) ⟨⟨[],rfl⟩,he,rfl⟩ (by omega)) fun r hr=>?_
  ·have hxl:x∈l:=by rw[←hpre];simp
   obtain⟨a,b⟩:=a;rw[ZmE (by rw[Zf];simp;omega),get?_nat,hx];simp only[Zm9,htk x hxl,hw];rw[ZnU]at hf;have hw2:w64 ((j:Int)+1)=((j+1:Nat):Int):=by rw[Zm (by omega) (by omega)];rfl
   left;cases b
   ·have hg:=ZdA hp h64 k x a (hall x hxl) ha;refine⟨goS p most k x a,?_,⟨pre++[x],by rw[←hpre];simp⟩,hg,hf⟩;rw[ih x a n (hall x hxl) ha (by omega) (by omega)];simp only[Zm9,hw2]
   ·obtain⟨m,rfl⟩:∃m,n=m+1:=⟨n-1,by omega⟩;refine⟨(a,true),?_,⟨pre++[x],by rw[←hpre];simp⟩,ha,hf⟩;rw[Zo,ZmE rfl];simp only[Zm9,hw2]
  ·rw[ZmD (by rw[Zf];simp)];rw[ZoE]at hf;rw[hf];exact⟨_,rfl,rfl⟩
  ·rw[hr]
theorem ZiM{p:D.Program}{l:List D.Path}(hl:l.length≤1000)(hk:∀x∈l,okP p x):∃r,iterN (fun(s1:Int)=>if(decide (s1<(len l)))then(get? l s1).bind fun x7=>(if(x7.Code==0)then(if(x7.Code==9)then some default else(XH p x7))else some default).bind fun x8=>if((x7.Code==9)||((x7.Code==0)&&(x8 !=12)))then some (.inr (.inr (([]:List D.Path),false)))else some (.inl ((w64 (s1+1))))else some (.inr (.inl ()))) fuel0 (0)=some r∧(r:Unit⊕(List D.Path×Bool))=if l.all (gd p)=true then .inl ()else .inr ([],false):=by
  have:=Yh (l:=l) (n:=fuel0) (B:=fun(s1:Int)=>if(decide (s1<(len l)))then(get? l s1).bind fun x7=>(if(x7.Code==0)then(if(x7.Code==9)then some default else(XH p x7))else some default).bind fun x8=>if((x7.Code==9)||((x7.Code==0)&&(x8 !=12)))then some (.inr (.inr (([]:List D.Path),false)))else some (.inl ((w64 (s1+1))))else some (.inr (.inl ()))) (fun j(_:Unit)=>(j:Int)) (fun ys _=>(∃pre,pre++ys=l)∧l.all (gd p)=ys.all (gd p)) (fun(r:Unit⊕(List D.Path×Bool))=>r=if l.all (gd p)=true then .inl ()else .inr ([],false))
    (fun j x xs _ hj hx hlen⟨⟨pre,hpre⟩,hf⟩=>by
      have hxl:x∈l:=by rw[←hpre];simp
      have hw2:w64 ((j:Int)+1)=((j+1:Nat):Int):=by rw[Zm (by omega) (by omega)];rfl
      rw[ZmE (by rw[Zf];simp;omega),get?_nat,hx];simp only[Zm9,Zfy (hk x hxl),hw2];rw[Zon]at hf;have hgd:gd p x= !((x.Code==9)||((x.Code==0)&&(opA p x !=12))):=rfl;by_cases c0:x.Code=0
      · by_cases c:opA p x=12
        · left
          refine⟨(),by simp[c0,c],⟨pre++[x],by rw[←hpre];simp⟩,?_⟩;rw[hf,hgd];simp[c0,c]
        · right
          refine⟨_,by simp[c0,c];rfl,?_⟩;rw[hf,hgd];simp[c0,c]
      · by_cases c:x.Code=9
        · right
          refine⟨_,by simp[c];rfl,?_⟩;rw[hf,hgd];simp[c]
        · left
          refine⟨(),by simp[c0,c],⟨pre++[x],by rw[←hpre];simp⟩,?_⟩
          rw[hf,hgd];simp[c0,c])
    (fun _⟨_,hf⟩=>by
      rw[ZmD (by rw[Zf];simp)]
      exact⟨_,rfl,by rw[hf];rfl⟩) (a:=()) ⟨⟨[],rfl⟩,rfl⟩ (by unfold fuel0;omega)
  exact this
noncomputable def sumX(p:D.Program)(pc f most:Int):List D.Path×Bool:=
 if progB p=true∧(0≤pc∧pc≤len p.Code)∧(0≤f∧f≤400)∧1≤most∧most≤64 then(if(goT p most f.toNat (pathV p pc) []).2=true then((goT p most f.toNat (pathV p pc) []).1,true)else([],false))else([],false)
theorem ZcK{p:D.Program}{pc f most:Int}(h:¬(progB p=true∧(0≤pc∧pc≤len p.Code)∧(0≤f∧f≤400)∧1≤most∧most≤64)):sumX p pc f most=([],false):=by unfold sumX;rw[ZmD h]
theorem Zgz{p:D.Program}{pc f most:Int}(h:progB p=true∧(0≤pc∧pc≤len p.Code)∧(0≤f∧f≤400)∧1≤most∧most≤64):sumX p pc f most=if(goT p most f.toNat (pathV p pc) []).2=true then((goT p most f.toNat (pathV p pc) []).1,true)else([],false):=by unfold sumX;rw[ZmE h]
theorem endsS0{p:D.Program}{most:Int}(h:1≤most):EndsS p most ([],false):=⟨fun x hx=>(by cases hx),by simp,fun _=>by simp;omega⟩
theorem ZeN(p:D.Program)(pc f most:Int):(∀x∈(sumX p pc f most).1,fineP x)∧(sumX p pc f most).1.length≤65:=by
 unfold sumX;by_cases c:progB p=true∧(0≤pc∧pc≤len p.Code)∧(0≤f∧f≤400)∧1≤most∧most≤64
 ·rw[ZmE c];split
  ·rename_i h;have:=Zhm c.1 c.2.2.2.2 f.toNat (pathV p pc) [] (Zd3 c.1 c.2.1) (endsS0 c.2.2.2.1) h;exact⟨fun x hx=>(this.1 x hx).fine c.1,this.2.1⟩
  ·exact⟨fun x hx=>(by cases hx),by simp⟩
 ·rw[ZmD c];exact⟨fun x hx=>(by cases hx),by simp⟩
end Go.Proofs.YtbidabmbbieeiabGreatDoor
end
