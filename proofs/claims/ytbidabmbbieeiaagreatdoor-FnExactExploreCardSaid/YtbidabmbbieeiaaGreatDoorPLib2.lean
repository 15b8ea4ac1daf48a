/- Texts of this claim put into one: library or plain laws, without the program under test. -/
import Derived.Test.YtbidabmbbieeiaaGreatDoorPLib1
set_option linter.unusedSimpArgs false
set_option linter.unusedVariables false
section
namespace Go.Proofs.YtbidabmbbieeiaaGreatDoor
open Go.GL
set_option linter.unusedSimpArgs false
set_option maxRecDepth 100000
variable{fuel:Nat}[FU fuel]
theorem Zi0:∀(n:Nat)(t:D.Term),msz t≤1048576→1048580+cnt t≤n→Y9 n t=some t:=by
 intro n
 induction n with
 |zero=>intro t _ h;omega
 | succ n ih=>
  intro t hs hn;have hz:=ZaK t;have hc:=Zaa t;rw[Y9];obtain⟨r,g1,g2⟩:=Yq (l:=t.Kids) (n:=n) (σ:=List D.Term) (ρ:=List D.Term) (B:=fun(s1:Int×(List D.Term))=>if(decide (s1.1<(len t.Kids)))then(get? t.Kids s1.1).bind fun x1=>(Y9 n x1).bind fun x2=>(app? s1.2 ([x2]:List D.Term)).bind fun x3=>some (.inl ((w64 (s1.1+1)),x3))else some (.inr (s1.2))) (fun j a=>((j:Int),a)) (fun ys a=>a++ys=t.Kids∧(∀x∈ys,x∈t.Kids)) (fun r=>r=t.Kids)
   (fun j x xs a hj hx hlen⟨h1,h2⟩=>by
    have hd:decide ((j:Int)<len t.Kids)=true:=by rw[Zf];simp;omega
    have hm:=h2 x (by simp);have m1:=Zat hm;have m2:=ZbW hm;have hl:=congrArg List.length h1;simp only[Zmz,Zm5]at hl;simp only[hd,Zm0,get?_nat,hx,Zmh,ih x (by omega) (by omega)];rw[Zay (by simp;omega)]
    exact .inl ⟨a++[x],by simp only[Zmh];rw[Zn (by omega) (by omega)];rfl,by simp[←h1],fun y hy=>h2 y (by simp[hy])⟩)
   (fun a⟨h1,_⟩=>by
    have hd:decide ((t.Kids.length:Int)<len t.Kids)=false:=by rw[Zf];simp
    simp only[hd,Zmi,Zmr]
    exact⟨_,rfl,by simpa using h1⟩) (a:=[]) ⟨rfl,fun _ h=>h⟩ (by omega)
  rw[show((0:Nat):Int)=0 from rfl]at g1;rw[g1,g2];cases t;rfl
theorem Zjh:∀n:Nat,(∀t:D.Term,msz t≤1048576→1048580+2*msz t+1≤n→Xv n t=some t)∧(∀l:List D.Term,sml l→1048580+2*(l.length+mszs l)≤n→Yd n l=some l):=by
 intro n
 induction n with
 |zero=>exact⟨fun t _ _=>by omega,fun l _ _=>by omega⟩
 | succ n ih=>
  refine⟨fun t h hn=>?_,fun l h hn=>?_⟩
  ·have:=ZaK t;unfold Xv;rw[ih.2 t.Kids (by unfold sml;omega) (by omega)];cases t;rfl
  ·unfold sml at h;unfold Yd;by_cases c0:l.length=0
   ·have:l=[]:=ZmH.1 c0;subst this;rfl
   rw[Zml (by rw[Zf];simp;exact fun e=>c0 (by simp[e])),mk?_len (by unfold room;omega)];simp only[Zmh];obtain⟨r,g1,g2⟩:=Yq (l:=l) (n:=n) (σ:=List D.Term) (ρ:=List D.Term) (B:=fun(s1:Int×(List D.Term))=>if(decide (s1.1<(len l)))then(get? l s1.1).bind fun x2=>(Xv n x2).bind fun x3=>(set? s1.2 s1.1 x3).bind fun x4=>some (.inl ((w64 (s1.1+1)),x4))else some (.inr (s1.2))) (fun k(a:List D.Term)=>((k:Int),a)) (fun ys a=>(∃pre zs:List D.Term,pre++ys=l∧a=pre++zs∧zs.length=ys.length)∧∀x∈ys,x∈l) (fun r=>r=l)
     (fun k x xs a hk' hx hlen⟨⟨pre,zs,h1,hz,hz'⟩,hm⟩=>by
      have hxl:=hm x (by simp);have:=Zat hxl;have hl:=congrArg List.length h1;simp only[Zm5,Zmz]at hlen hz' hl;simp only[get?_nat,hx,Zmh,Zf];rw[Zmm (by simpa using hk'),ih.1 x (by omega) (by omega)];simp only[Zmh];obtain⟨z,zs,rfl⟩:∃z zs',zs=z::zs':=by cases zs with|nil=>simp at hz'|cons z zs=>exact⟨_,_,rfl⟩
      have e1:pre.length=k:=by omega
      subst hz;rw[set?_nat (by simp;omega)];refine .inl ⟨(pre++z::zs).set k x,by simp only[Zmh];rw[Zn (by omega) (by omega)];rfl,⟨pre++[x],zs,by simp[←h1],?_,by simpa using hz'⟩,fun y hy=>hm y (by simp[hy])⟩
      rw[Zn6 _ _ (by omega),e1,Znt];simp)
     (fun a⟨⟨pre,zs,h1,h2,h3⟩,_⟩=>by
      have hd:decide ((l.length:Int)<len l)=false:=by rw[Zf];simp
      simp only[hd,Zmi,Zmr];simp only[ZmX,ZmH]at h3;subst h3
      exact⟨_,rfl,by rw[h2];simpa using h1⟩) (a:=List.replicate l.length _) ⟨⟨[],_,rfl,rfl,by simp⟩,fun _ h=>h⟩ (by omega)
   rw[show((0:Nat):Int)=0 from rfl]at g1;rw[g1,g2];rfl
theorem ZeR{t:D.Term}(h:nodeB t=true)(hn:cnt t≤240):msz t≤2640:=by
 have:=ZbH h;omega
theorem Zii{t:D.Term}(h:nodeB t=true)(hn:cnt t≤240):Y9 fuel t=some t:=Zi0 _ _ (by have:=ZeR h hn;omega) (by have:=FU.le (n:=fuel);omega)
def t0:D.Term:=⟨0,0,0,⟨[]⟩,[]⟩
noncomputable def simp1(t:D.Term):D.Term:=(ZI fuel0 t).getD t0
theorem ZeN{t:D.Term}(h:nodeB t=true)(hn:cnt t≤240):nodeB (simp1 t)=true∧(simp1 t).W=t.W∧cnt (simp1 t)≤cnt t∧ZI fuel t=some (simp1 t)∧Z4 fuel t=some (simp1 t):=by
 obtain⟨r,q1,q2,q3,q4,q5⟩:=simpler (mea t) t (Zmo _) h hn;have hs:=Zkb t;have em:mea t=2*cnt t+swp t:=rfl;have hf:=FU.le (n:=fuel);have e:simp1 t=r:=by unfold simp1;rw[q4 fuel0 (by unfold fuel0;omega)];rfl
 rw[e];exact⟨q1,q2,q3,q4 fuel (by omega),q5 fuel (by omega)⟩
theorem ZbP{t:D.Term}(h:termB t=true):nodeB t=true∧cnt t≤240:=by
 unfold termB at h;simp only[Zmk,Zms]at h;exact⟨h.1.2,h.1.1⟩
noncomputable def mkT(op w m:Int)(ks:List D.Term):D.Term×Bool:=if termB ⟨op,w,m,⟨[]⟩,ks⟩=true then(simp1 ⟨op,w,m,⟨[]⟩,ks⟩,true)else(t0,false)
theorem Zl4{op w m:Int}{ks:List D.Term}(h:sml ks):msz ⟨op,w,m,⟨[]⟩,ks⟩≤1048576:=by
 rw[ZaK];unfold sml at h;simp;omega
theorem ZkO{op w m:Int}{ks:List D.Term}(h:sml ks):Zav fuel op w m ks=some (mkT op w m ks):=by
 unfold Zav mkT;rw[Zjg (Zl4 h)];simp only[Zmh];cases c:termB ⟨op,w,m,⟨[]⟩,ks⟩
 ·rfl
 ·obtain⟨a,b⟩:=ZbP c;obtain⟨q1,q2,q3,q4,q5⟩:=ZeN (fuel:=fuel) a b;simp only[Zmp,Zmi,Zmr,Zm0,q5,Zmh,Zii q1 (by omega)]
theorem Zbz{op w m:Int}{ks:List D.Term}(h:sml ks):ZM fuel op w m ks=some (mkT op w m ks):=by
 unfold ZM mkT;rw[ZiW (Zl4 h)];simp only[Zmh];cases c:termB ⟨op,w,m,⟨[]⟩,ks⟩
 ·rfl
 ·obtain⟨a,b⟩:=ZbP c;obtain⟨q1,q2,q3,q4,q5⟩:=ZeN (fuel:=fuel) a b;simp only[Zmp,Zmi,Zmr,Zm0,q4,Zmh]
def fine(t:D.Term):Prop:=nodeB t=true∧cnt t≤240
theorem YW{op w m:Int}{ks:List D.Term}(h:(mkT op w m ks).2=true):fine (mkT op w m ks).1∧(mkT op w m ks).1.W=w:=by
 unfold mkT at h⊢;cases c:termB ⟨op,w,m,⟨[]⟩,ks⟩
 ·rw[c]at h;simp at h
 ·obtain⟨a,b⟩:=ZbP c;obtain⟨q1,q2,q3,q4,q5⟩:=ZeN (fuel:=fuel0) a b;simp only[Zm0];exact⟨⟨q1,by omega⟩,q2⟩
theorem Zcn{t:D.Term}(h:fine t):msz t≤2640:=ZeR h.1 h.2
theorem sml2{a b:D.Term}(ha:msz a≤2640)(hb:msz b≤1000000):sml [a,b]:=by
 unfold sml;rw[Xn,Xn,Zcg];simp;omega
def c11:D.Term:=⟨0,1,1,⟨[]⟩,[]⟩
end Go.Proofs.YtbidabmbbieeiaaGreatDoor
end
section
namespace Go.Proofs.YtbidabmbbieeiaaGreatDoor
open Go.GL
set_option linter.unusedSimpArgs false
set_option maxRecDepth 100000
variable{fuel:Nat}[FU fuel]
theorem Zaq{σt ρt:Type}{B:σt→Option (σt⊕ρt)}{s s':σt}{n:Nat}(h:B s=some (.inl s')):iterN B (n+1) s=iterN B n s':=by
 conv=>lhs;unfold iterN
 rw[h]
end Go.Proofs.YtbidabmbbieeiaaGreatDoor
end
section
namespace Go.Proofs.YtbidabmbbieeiaaGreatDoor
open Go.GL
set_option linter.unusedSimpArgs false
set_option maxRecDepth 100000
variable{fuel:Nat}[FU fuel]
def fineL(l:List D.Term):Prop:=l.length≤100∧∀x∈l,fine x
theorem Zfd{m:Nat}:∀{l:List D.Term},(∀x∈l,msz x≤m)→mszs l≤l.length*m
 |[],_=>by rw[Zcg];simp
 |x::l,h=>by
  have h1:=h x (by simp);have h2:=Zfd (l:=l) fun y hy=>h y (by simp[hy]);rw[Xn,Zm5,Zoc];omega
theorem Zb3{l:List D.Term}(h:fineL l):sml l:=by
 have h1:=Zfd (m:=2640) fun x hx=>Zcn (h.2 x hx);have h2:=h.1;unfold sml;have:l.length*2640≤100*2640:=Znu _ h2;omega
theorem ZbK{l:List D.Term}(h:fineL l):YG fuel l=some l:=by
 unfold YG;have hl:=h.1;obtain⟨r,g1,g2⟩:=Yq (l:=l) (n:=fuel) (σ:=List D.Term) (ρ:=List D.Term) (B:=fun(s1:Int×(List D.Term))=>if(decide (s1.1<(len l)))then(get? l s1.1).bind fun x1=>(Y9 fuel x1).bind fun x2=>(app? s1.2 ([x2]:List D.Term)).bind fun x3=>some (.inl ((w64 (s1.1+1)),x3))else some (.inr (s1.2))) (fun j a=>((j:Int),a)) (fun ys a=>a++ys=l∧∀x∈ys,x∈l) (fun r=>r=l)
  (fun j x xs a hj hx hlen⟨h1,h2⟩=>by
   have hd:decide ((j:Int)<len l)=true:=by rw[Zf];simp;omega
   have hm:=h2 x (by simp);have hc:=congrArg List.length h1;simp only[Zmz,Zm5]at hc;simp only[hd,Zm0,get?_nat,hx,Zmh,Zii (h.2 x hm).1 (h.2 x hm).2];rw[Zay (by simp;omega)]
   exact .inl ⟨a++[x],by simp only[Zmh];rw[Zn (by omega) (by omega)];rfl,by simp[←h1],fun y hy=>h2 y (by simp[hy])⟩)
  (fun a⟨h1,_⟩=>by
   have hd:decide ((l.length:Int)<len l)=false:=by rw[Zf];simp
   simp only[hd,Zmi,Zmr]
   exact⟨_,rfl,by simpa using h1⟩) (a:=[]) ⟨rfl,fun _ h=>h⟩ (by have:=FU.le (n:=fuel);omega)
 rw[show((0:Nat):Int)=0 from rfl]at g1;rw[g1,g2];rfl
theorem ZbN{l:List D.Term}(h:fineL l):Yd fuel l=some l:=(Zjh fuel).2 l (Zb3 h) (by
 have:=Zb3 h;unfold sml at this
 have:=FU.le (n:=fuel);omega)
def fineP(s:D.Path):Prop:=fineL s.Regs∧fineL s.Mem∧s.Stack.length≤100∧fineL s.Out∧fineL s.Cond∧s.Turns.length≤100
theorem ZgC{s:D.Path}(h:fineP s):smallP s:=⟨Zb3 h.1,Zb3 h.2.1,by have:=h.2.2.1;omega,Zb3 h.2.2.2.1,Zb3 h.2.2.2.2.1,by have:=h.2.2.2.2.2;omega⟩
theorem ZfE{l:List Int}(h:l.length≤100):app? ([]:List Int) l=some l:=by
 rw[Zay (by simp;omega)];rfl
theorem Zl3{l:List D.Term}(h:l.length≤1000):app? ([]:List D.Term) l=some l:=by
 rw[Zay (by simp;omega)];rfl
theorem Zbm{s:D.Path}(h:fineP s):Yh fuel s=some s:=by
 obtain⟨h1,h2,h3,h4,h5,h6⟩:=h;unfold Yh;simp only[ZbK h1,ZbK h2,ZfE h3,ZbK h4,ZbK h5,ZfE h6,Zmh]
theorem Zjx{s:D.Path}(h:fineP s):XL fuel s=some s:=by
 obtain⟨h1,h2,h3,h4,h5,h6⟩:=h;unfold XL ZB;simp only[ZbN h1,ZbN h2,ZfE h3,ZbN h4,ZbN h5,ZfE h6,Zmh]
theorem ZcL{p:D.Program}(h:progB p=true):1≤p.W∧p.W≤16∧0≤p.Mem∧p.Mem≤6∧0≤p.In∧p.In≤3:=by
 unfold progB at h;simp only[Zmk,Zms]at h;omega
theorem sml3'{a b c:D.Term}(ha:msz a≤2640)(hb:msz b≤2640)(hc:msz c≤2640):sml [a,b,c]:=by
 unfold sml;rw[Xn,Xn,Xn,Zcg];simp;omega
end Go.Proofs.YtbidabmbbieeiaaGreatDoor
end
section
namespace Go.Proofs.YtbidabmbbieeiaaGreatDoor
open Go.GL
set_option linter.unusedSimpArgs false
set_option maxRecDepth 100000
variable{fuel:Nat}[FU fuel]
def fw(w:Int)(l:List D.Term):Prop:=∀t∈l,fine t∧t.W=w
structure okP(p:D.Program)(s:D.Path):Prop where
 pc:0≤s.Pc∧s.Pc≤len p.Code
 rl:s.Regs.length=4
 rf:fw p.W s.Regs
 ml:(s.Mem.length:Int)=p.Mem
 mf:fw p.W s.Mem
 sl:s.Stack.length≤3
 sp:∀x∈s.Stack,0≤x∧x≤len p.Code
 inn:0≤s.In∧s.In≤p.In
 ol:s.Out.length≤6
 of:fw p.W s.Out
 cd:0≤s.Code∧s.Code≤9
 st:0≤s.Steps∧s.Steps≤400
 cl:s.Cond.length≤60
 cf:fw 1 s.Cond
 tl:s.Turns.length≤60
theorem Zez{w:Int}{l:List D.Term}(h:fw w l)(hl:l.length≤100):fineL l:=⟨hl,fun x hx=>(h x hx).1⟩
theorem okP.fine{p:D.Program}{s:D.Path}(h:okP p s)(hp:progB p=true):fineP s:=by
 have hm:=ZcL hp;have:=h.ml;exact⟨Zez h.rf (by have:=h.rl;omega),Zez h.mf (by omega),by have:=h.sl;omega,Zez h.of (by have:=h.ol;omega),Zez h.cf (by have:=h.cl;omega),by have:=h.tl;omega⟩
theorem Zk1{w:Int}{l:List D.Term}(h:fw w l){k:Nat}{t:D.Term}(ht:fine t∧t.W=w):fw w (l.set k t):=fun x hx=>by
 rcases ZnS hx with hx|rfl
 ·exact h x hx
 ·exact ht
theorem Zj5{w:Int}{l:List D.Term}(h:fw w l){t:D.Term}(ht:fine t∧t.W=w):fw w (l++[t]):=fun x hx=>by
 rcases ZmD.1 hx with hx|hx
 ·exact h x hx
 ·rw[Zmw]at hx;subst hx;exact ht
def rg(l:List D.Term)(k:Int):D.Term:=(l[k.toNat]?).getD t0
theorem ZbS{l:List D.Term}{k:Int}(h0:0≤k)(h1:k<l.length):get? l k=some (rg l k):=by
 obtain⟨j,rfl⟩:∃j:Nat,k=(j:Int):=⟨k.toNat,by omega⟩;unfold rg;rw[get?_nat,ZnV,Zmn (by omega)];rfl
theorem Zcd{w:Int}{l:List D.Term}{k:Int}(h:fw w l)(h0:0≤k)(h1:k<l.length):fine (rg l k)∧(rg l k).W=w:=by
 unfold rg;rw[Zmn (by omega)];exact h _ (Znw _)
theorem Zhq{α:Type}{l:List α}{k:Int}(h0:0≤k)(h1:k<l.length)(x:α):set? l k x=some (l.set k.toNat x):=by
 obtain⟨j,rfl⟩:∃j:Nat,k=(j:Int):=⟨k.toNat,by omega⟩;rw[set?_nat (by omega),ZnV]
theorem Ziu{l:List D.Term}(h:l.length≤1000):ZA l=some l:=by
 unfold ZA;rw[Zl3 h];rfl
theorem put_eq{l:List D.Term}{k:Int}{t:D.Term}(hl:l.length≤1000)(h0:0≤k)(h1:k<l.length):XH l k t=some (l.set k.toNat t):=by
 unfold XH;rw[Ziu hl];simp only[Zmh];rw[Zhq h0 h1];rfl
theorem ZfZ{l:List D.Term}{t:D.Term}(hl:l.length≤1000):ZaO l t=some (l++[t]):=by
 unfold ZaO ZZ;rw[Ziu hl];simp only[Zmh];rw[Zay (by simp;omega)];rfl
theorem Zgc{l:List Int}{x:Int}(hl:l.length≤100):ZaT l x=some (l++[x]):=by
 unfold ZaT ZB;rw[ZfE hl];simp only[Zmh];rw[Zay (by simp;omega)];rfl
def kT(w v:Int):D.Term:=⟨0,w,v,⟨[]⟩,[]⟩
theorem ZbE{w v:Int}(h:wordB w v=true):fine (kT w v):=⟨ZaN h,by unfold kT;rw[cnt0];omega⟩
theorem Yo{p:D.Program}(hp:progB p=true):wordB p.W p.Mem=true∧2≤p.W∧p.W≤8∧1≤p.Mem∧p.Mem≤6:=by
 unfold progB at hp;simp only[Zmk,Zms]at hp;exact⟨by simp[hp],by omega,by omega,by omega,by omega⟩
theorem Zce{p:D.Program}(hp:progB p=true){k:Int}(h0:0≤k)(h1:k≤p.Mem):wordB p.W k=true:=by
 obtain⟨m1,m2,m3,m4,m5⟩:=Yo hp;rw[ZV (by omega) (by omega)]at m1⊢;omega
theorem sml2f{a b:D.Term}(ha:fine a)(hb:fine b):sml [a,b]:=sml2 (Zcn ha) (by have:=Zcn hb;omega)
theorem sml1f{a:D.Term}(ha:fine a):sml [a]:=by
 have:=Zcn ha;unfold sml;rw[Xn,Zcg];simp;omega
theorem sml3f{a b c:D.Term}(ha:fine a)(hb:fine b)(hc:fine c):sml [a,b,c]:=sml3' (Zcn ha) (Zcn hb) (Zcn hc)
noncomputable def cel(w k:Int)(x a b:D.Term):D.Term×Bool:=
 if(mkT 14 1 0 [kT w k,x]).2=true then mkT 17 w 0 [(mkT 14 1 0 [kT w k,x]).1,a,b]else(t0,false)
theorem Zfb{w k:Int}{x a b:D.Term}(h:(cel w k x a b).2=true):fine (cel w k x a b).1∧(cel w k x a b).1.W=w:=by
 unfold cel at h⊢;split at h
 ·rename_i c;rw[Zmm c];exact YW h
 ·cases h
theorem ZgG{p:D.Program}{k:Int}{x a b:D.Term}(hw:wordB p.W k=true)(hx:fine x)(ha:fine a)(hb:fine b):X8 fuel p k x a b=some (cel p.W k x a b):=by
 unfold X8 cel;rw[ZT hw];simp only[Zmh];show((ZM fuel 14 1 0 [kT p.W k,x]).bind _)=_;rw[Zbz (sml2f (ZbE hw) hx)];simp only[Zmh];by_cases c:(mkT 14 1 0 [kT p.W k,x]).2=true
 ·rw[Zml (by rw[c];simp),Zmm c,Zbz (sml3f (YW c).1 ha hb)];rfl
 ·rw[Zmm (by simpa using c),Zml c];rfl
theorem X3{b:Bool}{op w:Int}{ks:List D.Term}(h:sml ks):Zg fuel ⟨b⟩ op w ks=some ((mkT op w 0 ks).1,⟨b|| !(mkT op w 0 ks).2⟩):=by
 unfold Zg;rw[ZkO h];simp only[Zmh];cases(mkT op w 0 ks).2<;>cases b<;>rfl
noncomputable def ldT(w:Int)(x:D.Term)(mem:List D.Term):Nat→D.Term→D.Term×Bool
 |0,t=>(t,true)
 |j+1,t=>if(cel w (j:Int) x (rg mem j) t).2=true then ldT w x mem j (cel w (j:Int) x (rg mem j) t).1 else(t0,false)
theorem ZgE{w:Int}{x:D.Term}{mem:List D.Term}:∀{j:Nat}{t:D.Term},fine t∧t.W=w→(ldT w x mem j t).2=true→fine (ldT w x mem j t).1∧(ldT w x mem j t).1.W=w
 |0,t,ht,_=>ht
 |j+1,t,ht,h=>by
  unfold ldT at h⊢;split at h
  ·rename_i c;rw[Zmm c];exact ZgE (Zfb c) h
  ·cases h
theorem Zki{w:Int}{x:D.Term}{mem:List D.Term}:∀{j:Nat}{t:D.Term},(ldT w x mem j t).2=false→ldT w x mem j t=(t0,false)
 |0,t,h=>by cases h
 |j+1,t,h=>by
  unfold ldT at h⊢;split at h
  ·rename_i c;rw[Zmm c];exact Zki h
  ·rename_i c;rw[Zml c]
noncomputable def load(w:Int)(mem:List D.Term)(x:D.Term):D.Term×Bool:=if x.Op=0 then(rg mem x.N,true)else ldT w x mem (mem.length-1) (rg mem ((mem.length-1:Nat):Int))
abbrev T5:=Int×Int×Int×Str×(List D.Term)
abbrev tup5(t:D.Term):T5:=(t.Op,t.W,t.N,t.Name,t.Kids)
theorem ZdQ(t:D.Term):(D.Term.mk t.Op t.W t.N t.Name t.Kids)=t:=by cases t;rfl
theorem ZkQ{p:D.Program}{mem:List D.Term}{x:D.Term}(hp:progB p=true)(hm:(mem.length:Int)=p.Mem)(hf:fw p.W mem)(hx:fine x):∀(j:Nat)(t:D.Term)(n:Nat),fine t∧t.W=p.W→j≤mem.length→j<n→
    iterN (fun(s1:Int×Int×Int×Int×Str×(List D.Term))=>if(decide (s1.1≥0))then(get? mem s1.1).bind fun x4=>(X8 fuel p s1.1 x x4 (D.Term.mk s1.2.1 s1.2.2.1 s1.2.2.2.1 s1.2.2.2.2.1 s1.2.2.2.2.2)).bind fun x5=>if(!x5.2)then some (.inr (.inr ((D.Term.mk 0 0 0 ⟨[]⟩ ([]:List D.Term)),false)))else some (.inl ((w64 (s1.1-1)),x5.1.Op,x5.1.W,x5.1.N,x5.1.Name,x5.1.Kids))else some (.inr (.inl (s1.2.1,s1.2.2.1,s1.2.2.2.1,s1.2.2.2.2.1,s1.2.2.2.2.2))):Int×T5→Option ((Int×T5)⊕(T5⊕(D.Term×Bool))))
     n ((j:Int)-1,tup5 t)=some (if(ldT p.W x mem j t).2=true then(.inl (tup5 (ldT p.W x mem j t).1):T5⊕(D.Term×Bool))else .inr (t0,false)):=by
  intro j
  induction j with
  | zero=>
    intro t n ht _ hn;refine Xk ?_ hn;simp only;rw[Zml (by simp)];rfl
  | succ j ih=>
    intro t n ht hj hn;obtain⟨n,rfl⟩:∃m,n=m+1:=⟨n-1,by omega⟩;have hm6:=Yo hp;have e1:((j+1:Nat):Int)-1=(j:Int):=by omega
    have eg:=ZbS (l:=mem) (k:=(j:Int)) (by omega) (by omega);have ec:=ZgG (fuel:=fuel) (p:=p) (k:=(j:Int)) (x:=x) (a:=rg mem j) (b:=t) (Zce hp (by omega) (by omega)) hx (Zcd hf (by omega) (by omega)).1 ht.1;rw[e1];unfold ldT;by_cases c:(cel p.W (j:Int) x (rg mem j) t).2=true
    · rw[Zmm c,←ih _ n (Zfb c) (by omega) (by omega)]
      refine Zaq ?_;simp only[tup5,eg,Zmh,ZdQ,ec,c];rw[Zmm (by simp),Zml (by simp),Zn (by omega) (by omega)]
    · rw[Zml c]
      refine Xk ?_ (by omega);simp only[tup5,eg,Zmh,ZdQ,ec];rw[Zmm (by simp),Zmm (by simpa using c)];rfl
theorem Zi5{p:D.Program}{s:D.Path}{x:D.Term}(hp:progB p=true)(hm:(s.Mem.length:Int)=p.Mem)(hf:fw p.W s.Mem)(hx:fine x)(hc:x.Op=0→0≤x.N∧x.N<p.Mem):Zbn fuel p s x=some (load p.W s.Mem x):=by
 have hm6:=Yo hp;unfold Zbn load Zb;simp only[Zmh];by_cases c:x.Op=0
 ·obtain⟨n0,n1⟩:=hc c;rw[Zmm (by simpa using c),Zmm c,ZbS n0 (by omega)];rfl
 ·rw[Zml (by simpa using c),Zml c];have e1:w64 (p.Mem-1)=((s.Mem.length-1:Nat):Int):=by rw[Zn (by omega) (by omega)];omega
  have e2:w64 (p.Mem-2)=((s.Mem.length-1:Nat):Int)-1:=by rw[Zn (by omega) (by omega)];omega
  rw[e1,e2,ZbS (by omega) (by omega)];simp only[Zmh];have:=ZkQ (fuel:=fuel) hp hm hf hx (s.Mem.length-1) (rg s.Mem ((s.Mem.length-1:Nat):Int)) fuel (Zcd hf (by omega) (by omega)) (by omega) (by have:=FU.le (n:=fuel);omega);rw[this];simp only[Zmh];cases h:(ldT p.W x s.Mem (s.Mem.length-1) (rg s.Mem ((s.Mem.length-1:Nat):Int))).2
  ·rw[Zki h];simp
  ·simp only[Zm0,ZdQ];simp[←h]
theorem ZkP{p:D.Program}{mem:List D.Term}{x:D.Term}(hp:progB p=true)(hm:(mem.length:Int)=p.Mem)(hf:fw p.W mem)(hx:fine x):∀(j:Nat)(t:D.Term)(n:Nat),fine t∧t.W=p.W→j≤mem.length→j+1<n→
    ∃t',iterN (fun(s1:Int×Bool×Int×Int×Int×Str×(List D.Term))=>if((decide (s1.1≥0))&&(!s1.2.1))then(Z8 p.W s1.1).bind fun x3=>(Zg fuel (D.l06Maker.mk s1.2.1) 14 1 ([(D.Term.mk x3.Op x3.W x3.N x3.Name ([]:List D.Term)),x]:List D.Term)).bind fun x4=>if(!x4.2.bad)then(get? mem s1.1).bind fun x5=>(Zg fuel x4.2 17 p.W ([x4.1,x5,(D.Term.mk s1.2.2.1 s1.2.2.2.1 s1.2.2.2.2.1 s1.2.2.2.2.2.1 s1.2.2.2.2.2.2)]:List D.Term)).bind fun x6=>some (.inl ((w64 (s1.1-1)),x6.2.bad,x6.1.Op,x6.1.W,x6.1.N,x6.1.Name,x6.1.Kids))else some (.inl ((w64 (s1.1-1)),x4.2.bad,s1.2.2.1,s1.2.2.2.1,s1.2.2.2.2.1,s1.2.2.2.2.2.1,s1.2.2.2.2.2.2))else some (.inr (s1.2.1,s1.2.2.1,s1.2.2.2.1,s1.2.2.2.2.1,s1.2.2.2.2.2.1,s1.2.2.2.2.2.2)):Int×Bool×T5→Option ((Int×Bool×T5)⊕(Bool×T5))) n ((j:Int)-1,false,tup5 t)=some (!(ldT p.W x mem j t).2,tup5 t')∧((ldT p.W x mem j t).2=true→t'=(ldT p.W x mem j t).1):=by
  intro j
  induction j with
  | zero=>
    intro t n ht _ hn;refine⟨t,Xk ?_ (by omega),fun _=>rfl⟩;simp only;rw[Zml (by simp)];rfl
  | succ j ih=>
    intro t n ht hj hn;obtain⟨n,rfl⟩:∃m,n=m+1:=⟨n-1,by omega⟩;have hm6:=Yo hp;have e1:((j+1:Nat):Int)-1=(j:Int):=by omega
    have eg:=ZbS (l:=mem) (k:=(j:Int)) (by omega) (by omega);have hw:=Zce hp (k:=(j:Int)) (by omega) (by omega);have em:=X3 (fuel:=fuel) (b:=false) (op:=14) (w:=1) (ks:=[kT p.W j,x]) (sml2f (ZbE hw) hx);unfold kT at em;rw[e1];have stop:∀u:D.Term,∀i:Int,0<n→iterN (fun(s1:Int×Bool×Int×Int×Int×Str×(List D.Term))=>if((decide (s1.1≥0))&&(!s1.2.1))then(Z8 p.W s1.1).bind fun x3=>(Zg fuel (D.l06Maker.mk s1.2.1) 14 1 ([(D.Term.mk x3.Op x3.W x3.N x3.Name ([]:List D.Term)),x]:List D.Term)).bind fun x4=>if(!x4.2.bad)then(get? mem s1.1).bind fun x5=>(Zg fuel x4.2 17 p.W ([x4.1,x5,(D.Term.mk s1.2.2.1 s1.2.2.2.1 s1.2.2.2.2.1 s1.2.2.2.2.2.1 s1.2.2.2.2.2.2)]:List D.Term)).bind fun x6=>some (.inl ((w64 (s1.1-1)),x6.2.bad,x6.1.Op,x6.1.W,x6.1.N,x6.1.Name,x6.1.Kids))else some (.inl ((w64 (s1.1-1)),x4.2.bad,s1.2.2.1,s1.2.2.2.1,s1.2.2.2.2.1,s1.2.2.2.2.2.1,s1.2.2.2.2.2.2))else some (.inr (s1.2.1,s1.2.2.1,s1.2.2.2.1,s1.2.2.2.2.1,s1.2.2.2.2.2.1,s1.2.2.2.2.2.2)):Int×Bool×T5→Option ((Int×Bool×T5)⊕(Bool×T5))) n (i,true,tup5 u)=some (true,tup5 u):=fun u i h0=>by
      refine Xk ?_ h0;simp
    have hd:decide ((j:Int)≥0)=true:=by simp
    by_cases c1:(mkT 14 1 0 [⟨0,p.W,(j:Int),⟨[]⟩,[]⟩,x]).2=true
    · have hf1:fine (mkT 14 1 0 [⟨0,p.W,(j:Int),⟨[]⟩,[]⟩,x]).1:=(YW c1).1
      have em2:=X3 (fuel:=fuel) (b:=false) (op:=17) (w:=p.W) (ks:=[(mkT 14 1 0 [⟨0,p.W,(j:Int),⟨[]⟩,[]⟩,x]).1,rg mem j,t]) (sml3f hf1 (Zcd hf (by omega) (by omega)).1 ht.1);have ecel:cel p.W (j:Int) x (rg mem j) t=mkT 17 p.W 0 [(mkT 14 1 0 [⟨0,p.W,(j:Int),⟨[]⟩,[]⟩,x]).1,rg mem j,t]:=by unfold cel kT;rw[Zmm c1]
      by_cases c2:(mkT 17 p.W 0 [(mkT 14 1 0 [⟨0,p.W,(j:Int),⟨[]⟩,[]⟩,x]).1,rg mem j,t]).2=true
      · obtain⟨t',h1,h2⟩:=ih (mkT 17 p.W 0 [(mkT 14 1 0 [⟨0,p.W,(j:Int),⟨[]⟩,[]⟩,x]).1,rg mem j,t]).1 n (YW c2) (by omega) (by omega)
        have hl:ldT p.W x mem (j+1) t=ldT p.W x mem j (mkT 17 p.W 0 [(mkT 14 1 0 [⟨0,p.W,(j:Int),⟨[]⟩,[]⟩,x]).1,rg mem j,t]).1:=by
          conv=>lhs;unfold ldT
          rw[ecel,Zmm c2]
        rw[hl];refine⟨t',?_,h2⟩;rw[←h1];refine Zaq ?_;simp only[tup5,hd,Znk,Zm0,Zi,Zmh,em,c1,Zmp,ZnX,ZmO,Znk,eg,ZdQ,em2,c2];rw[Zn (by omega) (by omega)]
      · have hl:ldT p.W x mem (j+1) t=(t0,false):=by
          conv=>lhs;unfold ldT
          rw[ecel,Zml c2]
        have c2':(mkT 17 p.W 0 [(mkT 14 1 0 [⟨0,p.W,(j:Int),⟨[]⟩,[]⟩,x]).1,rg mem j,t]).2=false:=by simpa using c2
        rw[hl];refine⟨(mkT 17 p.W 0 [(mkT 14 1 0 [⟨0,p.W,(j:Int),⟨[]⟩,[]⟩,x]).1,rg mem j,t]).1,?_,fun h=>by cases h⟩;rw[Zaq (s':=(w64 ((j:Int)-1),true,tup5 (mkT 17 p.W 0 [(mkT 14 1 0 [⟨0,p.W,(j:Int),⟨[]⟩,[]⟩,x]).1,rg mem j,t]).1)),stop _ _ (by omega)]
        · rfl
        · simp only[tup5,hd,Znk,Zm0,Zi,Zmh,em,c1,Zmp,ZnX,ZmO,eg,ZdQ,em2,c2',Zm9]
    · have c1':(mkT 14 1 0 [⟨0,p.W,(j:Int),⟨[]⟩,[]⟩,x]).2=false:=by simpa using c1
      have hl:ldT p.W x mem (j+1) t=(t0,false):=by
        conv=>lhs;unfold ldT
        have:cel p.W (j:Int) x (rg mem j) t=(t0,false):=by unfold cel kT;rw[Zml c1]
        rw[this];rfl
      rw[hl];refine⟨t,?_,fun h=>by cases h⟩;rw[Zaq (s':=(w64 ((j:Int)-1),true,tup5 t)),stop _ _ (by omega)]
      · rfl
      · simp only[tup5,hd,Znk,Zm0,Zi,Zmh,em,c1',ZmO,Bool.or_true,Zmp,Zmi,Zmr,Zm9]
theorem ZiR{p:D.Program}{s:D.Path}{x:D.Term}(hp:progB p=true)(hm:(s.Mem.length:Int)=p.Mem)(hf:fw p.W s.Mem)(hx:fine x)(hc:x.Op=0→0≤x.N∧x.N<p.Mem):
  ∃t',YI fuel ⟨false⟩ p s x=some (t',⟨!(load p.W s.Mem x).2⟩)∧((load p.W s.Mem x).2=true→t'=(load p.W s.Mem x).1):=by
 have hm6:=Yo hp;unfold YI load;by_cases c:x.Op=0
 ·obtain⟨n0,n1⟩:=hc c;refine⟨rg s.Mem x.N,?_,fun _=>by rw[Zmm c]⟩;rw[Zmm (by simpa using c),Zmm c,ZbS n0 (by omega)];rfl
 ·have e1:w64 (p.Mem-1)=((s.Mem.length-1:Nat):Int):=by rw[Zn (by omega) (by omega)];omega
  have e2:w64 (p.Mem-2)=((s.Mem.length-1:Nat):Int)-1:=by rw[Zn (by omega) (by omega)];omega
  obtain⟨t',h1,h2⟩:=ZkP (fuel:=fuel) hp hm hf hx (s.Mem.length-1) (rg s.Mem ((s.Mem.length-1:Nat):Int)) fuel (Zcd hf (by omega) (by omega)) (by omega) (by have:=FU.le (n:=fuel);omega);refine⟨t',?_,fun h=>by rw[Zml c]at h⊢;exact h2 h⟩;rw[Zml (by simpa using c),Zml c,e1,e2,ZbS (by omega) (by omega)];simp only[Zmh];rw[h1];simp only[Zmh,ZdQ]
theorem ZiJ{p:D.Program}{s:D.Path}{x:D.Term}(hp:progB p=true)(hm:(s.Mem.length:Int)=p.Mem)(hf:fw p.W s.Mem)(hc:x.Op=0→0≤x.N∧x.N<p.Mem)(h:(load p.W s.Mem x).2=true):fine (load p.W s.Mem x).1∧(load p.W s.Mem x).1.W=p.W:=by
 have hm6:=Yo hp;unfold load at h⊢;by_cases c:x.Op=0
 ·rw[Zmm c];obtain⟨n0,n1⟩:=hc c;exact Zcd hf n0 (by omega)
 ·rw[Zml c]at h⊢;exact ZgE (Zcd hf (by omega) (by omega)) h
end Go.Proofs.YtbidabmbbieeiaaGreatDoor
end
section
namespace Go.Proofs.YtbidabmbbieeiaaGreatDoor
open Go.GL
set_option linter.unusedSimpArgs false
set_option maxRecDepth 100000
variable{fuel:Nat}[FU fuel]
theorem Ziv{α:Type}{m1 m2:List α}{t:α}{i:Int}(h:i=(m1.length:Int)):get? (m1++t::m2) i=some t:=by
 subst h;rw[get?_nat];simp
theorem set_mid{α:Type}{m1 m2:List α}{t u:α}{i:Int}(h:i=(m1.length:Int)):set? (m1++t::m2) i u=some (m1++u::m2):=by
 subst h;rw[set?_nat (by simp)];simp
noncomputable def stG(w:Int)(x v:D.Term):Nat→List D.Term→List D.Term×Bool
 |_,[]=>([],true)
 |i,t::l=>if(cel w (i:Int) x v t).2=true then((cel w (i:Int) x v t).1::(stG w x v (i+1) l).1,(stG w x v (i+1) l).2)else([],false)
theorem Zij{w:Int}{x v:D.Term}:∀{l:List D.Term}{i:Nat},(stG w x v i l).2=true→(stG w x v i l).1.length=l.length
 |[],i,_=>rfl
 |t::l,i,h=>by
  unfold stG at h⊢;split at h
  ·rename_i c;rw[Zmm c];simp only[Zm5,Zij (l:=l) (i:=i+1) h]
  ·cases h
theorem ZjF{w:Int}{x v:D.Term}:∀{l:List D.Term}{i:Nat},(stG w x v i l).2=true→fw w (stG w x v i l).1
 |[],i,_=>fun t ht=>by cases ht
 | t::l,i,h=>by
  unfold stG at h⊢;split at h
  ·rename_i c;rw[Zmm c];intro y hy;rcases ZmZ.1 hy with rfl|hy
   ·exact Zfb c
   ·exact ZjF (l:=l) (i:=i+1) h y hy
  ·cases h
theorem Zlq{p:D.Program}{mem x3:List D.Term}{x v:D.Term}(hp:progB p=true)(hm:(mem.length:Int)=p.Mem)(hf:fw p.W mem)(hx:fine x)(hv:fine v)(h3:len x3=(mem.length:Int)):∀(m2 m1 done rest:List D.Term)(n:Nat),mem=m1++m2→done.length=m1.length→rest.length=m2.length→m2.length<n→
    iterN (fun(s1:Int×(List D.Term))=>if(decide (s1.1<(len x3)))then(get? mem s1.1).bind fun x4=>(X8 fuel p s1.1 x v x4).bind fun x5=>if(!x5.2)then some (.inr (.inr (([]:List D.Term),false)))else(set? s1.2 s1.1 x5.1).bind fun x6=>some (.inl ((w64 (s1.1+1)),x6))else some (.inr (.inl (s1.2))):Int×List D.Term→Option ((Int×List D.Term)⊕(List D.Term⊕(List D.Term×Bool))))
     n ((m1.length:Int),done++rest)=some (if(stG p.W x v m1.length m2).2=true then(.inl (done++(stG p.W x v m1.length m2).1):List D.Term⊕(List D.Term×Bool))else .inr ([],false)):=by
  have hm6:=Yo hp;intro m2
  induction m2 with
  | nil=>
    intro m1 done rest n he hd hr hn;have:rest=[]:=ZmH.1 hr;subst this;refine Xk ?_ (by omega);have hml:(m1.length:Int)=mem.length:=by rw[he];simp
    simp only;rw[Zml (by rw[h3];simp;omega)];simp[stG]
  | cons t m2 ih=>
    intro m1 done rest n he hd hr hn;obtain⟨n,rfl⟩:∃m,n=m+1:=⟨n-1,by simp at hn;omega⟩;obtain⟨r,rest,rfl⟩:∃r l,rest=r::l:=by
      cases rest with
      |nil=>simp at hr
      |cons r l=>exact⟨r,l,rfl⟩
    have hml:(mem.length:Int)=m1.length+(m2.length+1):=by rw[he];simp
    have ht:fine t∧t.W=p.W:=hf t (by rw[he];simp);have hg:get? mem (m1.length:Int)=some t:=by rw[he];exact Ziv rfl
    have ec:=ZgG (fuel:=fuel) (p:=p) (k:=(m1.length:Int)) (x:=x) (a:=v) (b:=t) (Zce hp (by omega) (by omega)) hx hv ht.1;have hc:decide ((m1.length:Int)<len x3)=true:=by rw[h3];simp;omega
    have e1:w64 ((m1.length:Int)+1)=((m1++[t]).length:Int):=by rw[Zn (by omega) (by omega)];simp
    unfold stG;by_cases c:(cel p.W (m1.length:Int) x v t).2=true
    · rw[Zmm c]
      have:=ih (m1++[t]) (done++[(cel p.W (m1.length:Int) x v t).1]) rest n (by rw[he];simp) (by simp[hd]) (by simpa using hr) (by simp at hn;omega);have el:(m1++[t]).length=m1.length+1:=by simp
      rw[el]at this;simp only[Znj,Znl]at this;rw[←this];refine Zaq ?_;simp only[hc,hg,Zmh,ec,c,Zm0,Zmp,Zmi,Zmr];rw[set_mid (by rw[hd])];simp only[Zmh,e1,el]
    · rw[Zml c]
      refine Xk ?_ (by omega);simp only[hc,hg,Zmh,ec,Zm0];rw[Zmm (by simpa using c)];rfl
noncomputable def store(w:Int)(mem:List D.Term)(x v:D.Term):List D.Term×Bool:=if x.Op=0 then(mem.set x.N.toNat v,true)else if(stG w x v 0 mem).2=true then((stG w x v 0 mem).1,true)else([],false)
theorem Zh0{p:D.Program}{s:D.Path}{x v:D.Term}(hp:progB p=true)(hm:(s.Mem.length:Int)=p.Mem)(hf:fw p.W s.Mem)(hx:fine x)(hv:fine v)(hc:x.Op=0→0≤x.N∧x.N<p.Mem):Zbc fuel p s x v=some (store p.W s.Mem x v):=by
 have hm6:=Yo hp;unfold Zbc store Zb;simp only[Zmh];by_cases c:x.Op=0
 ·obtain⟨n0,n1⟩:=hc c;rw[Zmm (by simpa using c),Zmm c,put_eq (by omega) n0 (by omega)];rfl
 ·rw[Zml (by simpa using c),Zml c];obtain⟨x3,e3,l3⟩:∃x3,mk? p.Mem (D.Term.mk 0 0 0 ⟨[]⟩ ([]:List D.Term))=some x3∧x3.length=s.Mem.length:=by
   refine⟨List.replicate p.Mem.toNat (D.Term.mk 0 0 0 ⟨[]⟩ ([]:List D.Term)),?_,by simp;omega⟩;unfold mk?;rw[Zmm ⟨by omega,by unfold room;omega⟩]
  rw[e3];simp only[Zmh];have:=Zlq (fuel:=fuel) hp hm hf hx hv (x3:=x3) (by unfold len;omega) s.Mem [] [] x3 fuel rfl rfl l3 (by have:=FU.le (n:=fuel);omega);simp only[ZmX,Zoi]at this;rw[show((0:Nat):Int)=0 from rfl]at this;rw[this];simp only[Zmh];cases h:(stG p.W x v 0 s.Mem).2<;>simp
theorem Zll{p:D.Program}{mem:List D.Term}{x v:D.Term}(hp:progB p=true)(hm:(mem.length:Int)=p.Mem)(hf:fw p.W mem)(hx:fine x)(hv:fine v):∀(m2 m1 done rest:List D.Term)(n:Nat),mem=m1++m2→done.length=m1.length→rest.length=m2.length→m2.length+1<n→
    ∃l',iterN (fun(s1:Int×Bool×(List D.Term))=>if((decide (s1.1<p.Mem))&&(!s1.2.1))then(Z8 p.W s1.1).bind fun x3=>(Zg fuel (D.l06Maker.mk s1.2.1) 14 1 ([(D.Term.mk x3.Op x3.W x3.N x3.Name ([]:List D.Term)),x]:List D.Term)).bind fun x4=>if(!x4.2.bad)then(get? mem s1.1).bind fun x5=>(Zg fuel x4.2 17 p.W ([x4.1,v,x5]:List D.Term)).bind fun x6=>(set? s1.2.2 s1.1 x6.1).bind fun x7=>some (.inl ((w64 (s1.1+1)),x6.2.bad,x7))else some (.inl ((w64 (s1.1+1)),x4.2.bad,s1.2.2))else some (.inr (s1.2.1,s1.2.2)):Int×Bool×List D.Term→Option ((Int×Bool×List D.Term)⊕(Bool×List D.Term)))
     n ((m1.length:Int),false,done++rest)=some (!(stG p.W x v m1.length m2).2,l')∧l'.length=mem.length∧((stG p.W x v m1.length m2).2=true→l'=done++(stG p.W x v m1.length m2).1):=by
  have hm6:=Yo hp;intro m2
  induction m2 with
  | nil=>
    intro m1 done rest n he hd hr hn;have:rest=[]:=ZmH.1 hr;subst this;have hml:(m1.length:Int)=mem.length:=by rw[he];simp
    refine⟨done,?_,by omega,fun _=>by simp[stG]⟩;refine Xk ?_ (by omega);simp only;rw[Zml (by simp;omega)];simp[stG]
  | cons t m2 ih=>
    intro m1 done rest n he hd hr hn;obtain⟨n,rfl⟩:∃m,n=m+1:=⟨n-1,by simp at hn;omega⟩;obtain⟨r,rest,rfl⟩:∃r l,rest=r::l:=by
      cases rest with
      |nil=>simp at hr
      |cons r l=>exact⟨r,l,rfl⟩
    simp only[Zm5]at hr hn;have hml:(mem.length:Int)=m1.length+(m2.length+1):=by rw[he];simp
    have hmn:mem.length=m1.length+(m2.length+1):=by omega
    have ht:fine t∧t.W=p.W:=hf t (by rw[he];simp);have hg:get? mem (m1.length:Int)=some t:=by rw[he];exact Ziv rfl
    have hw:=Zce hp (k:=(m1.length:Int)) (by omega) (by omega);have em:=X3 (fuel:=fuel) (b:=false) (op:=14) (w:=1) (ks:=[kT p.W m1.length,x]) (sml2f (ZbE hw) hx);unfold kT at em;have hc:decide ((m1.length:Int)<p.Mem)=true:=by simp;omega
    have e1:w64 ((m1.length:Int)+1)=((m1++[t]).length:Int):=by rw[Zn (by omega) (by omega)];simp
    have el:(m1++[t]).length=m1.length+1:=by simp
    have stop:∀u:List D.Term,∀i:Int,0<n→iterN (fun(s1:Int×Bool×(List D.Term))=>if((decide (s1.1<p.Mem))&&(!s1.2.1))then(Z8 p.W s1.1).bind fun x3=>(Zg fuel (D.l06Maker.mk s1.2.1) 14 1 ([(D.Term.mk x3.Op x3.W x3.N x3.Name ([]:List D.Term)),x]:List D.Term)).bind fun x4=>if(!x4.2.bad)then(get? mem s1.1).bind fun x5=>(Zg fuel x4.2 17 p.W ([x4.1,v,x5]:List D.Term)).bind fun x6=>(set? s1.2.2 s1.1 x6.1).bind fun x7=>some (.inl ((w64 (s1.1+1)),x6.2.bad,x7))else some (.inl ((w64 (s1.1+1)),x4.2.bad,s1.2.2))else some (.inr (s1.2.1,s1.2.2)):Int×Bool×List D.Term→Option ((Int×Bool×List D.Term)⊕(Bool×List D.Term))) n (i,true,u)=some (true,u):=fun u i h0=>by
      refine Xk ?_ h0;simp
    by_cases c1:(mkT 14 1 0 [⟨0,p.W,(m1.length:Int),⟨[]⟩,[]⟩,x]).2=true
    · have hf1:fine (mkT 14 1 0 [⟨0,p.W,(m1.length:Int),⟨[]⟩,[]⟩,x]).1:=(YW c1).1
      have em2:=X3 (fuel:=fuel) (b:=false) (op:=17) (w:=p.W) (ks:=[(mkT 14 1 0 [⟨0,p.W,(m1.length:Int),⟨[]⟩,[]⟩,x]).1,v,t]) (sml3f hf1 hv ht.1);have ecel:cel p.W (m1.length:Int) x v t=mkT 17 p.W 0 [(mkT 14 1 0 [⟨0,p.W,(m1.length:Int),⟨[]⟩,[]⟩,x]).1,v,t]:=by unfold cel kT;rw[Zmm c1]
      by_cases c2:(mkT 17 p.W 0 [(mkT 14 1 0 [⟨0,p.W,(m1.length:Int),⟨[]⟩,[]⟩,x]).1,v,t]).2=true
      · have hl:stG p.W x v m1.length (t::m2)=((mkT 17 p.W 0 [(mkT 14 1 0 [⟨0,p.W,(m1.length:Int),⟨[]⟩,[]⟩,x]).1,v,t]).1::(stG p.W x v (m1.length+1) m2).1,(stG p.W x v (m1.length+1) m2).2):=by
          conv=>lhs;unfold stG
          rw[ecel,Zmm c2]
        obtain⟨l',h1,h2,h3⟩:=ih (m1++[t]) (done++[(mkT 17 p.W 0 [(mkT 14 1 0 [⟨0,p.W,(m1.length:Int),⟨[]⟩,[]⟩,x]).1,v,t]).1]) rest n (by rw[he];simp) (by simp[hd]) (by omega) (by omega);rw[el]at h1 h3;simp only[Znj,Znl]at h1 h3;rw[hl];refine⟨l',?_,h2,h3⟩;rw[←h1];refine Zaq ?_;simp only[hc,Znk,Zm0,Zi,Zmh,em,c1,Zmp,ZnX,ZmO,hg,em2,c2];rw[set_mid (by rw[hd])];simp only[Zmh,e1,el]
      · have c2':(mkT 17 p.W 0 [(mkT 14 1 0 [⟨0,p.W,(m1.length:Int),⟨[]⟩,[]⟩,x]).1,v,t]).2=false:=by simpa using c2
        have hl:stG p.W x v m1.length (t::m2)=([],false):=by
          conv=>lhs;unfold stG
          rw[ecel,Zml c2]
        rw[hl];refine⟨done++(mkT 17 p.W 0 [(mkT 14 1 0 [⟨0,p.W,(m1.length:Int),⟨[]⟩,[]⟩,x]).1,v,t]).1::rest,?_,by simp;omega,fun h=>by cases h⟩;rw[Zaq (s':=(w64 ((m1.length:Int)+1),true,done++(mkT 17 p.W 0 [(mkT 14 1 0 [⟨0,p.W,(m1.length:Int),⟨[]⟩,[]⟩,x]).1,v,t]).1::rest)),stop _ _ (by omega)]
        · rfl
        · simp only[hc,Znk,Zm0,Zi,Zmh,em,c1,Zmp,ZnX,ZmO,hg,em2,c2',Zm9]
          rw[set_mid (by rw[hd])];simp only[Zmh]
    · have c1':(mkT 14 1 0 [⟨0,p.W,(m1.length:Int),⟨[]⟩,[]⟩,x]).2=false:=by simpa using c1
      have hl:stG p.W x v m1.length (t::m2)=([],false):=by
        conv=>lhs;unfold stG
        have:cel p.W (m1.length:Int) x v t=(t0,false):=by unfold cel kT;rw[Zml c1]
        rw[this];rfl
      rw[hl];refine⟨done++r::rest,?_,by simp;omega,fun h=>by cases h⟩;rw[Zaq (s':=(w64 ((m1.length:Int)+1),true,done++r::rest)),stop _ _ (by omega)]
      · rfl
      · simp only[hc,Znk,Zm0,Zi,Zmh,em,c1',ZmO,Bool.or_true,Zmp,Zmi,Zmr,Zm9]
theorem Zh1{p:D.Program}{s:D.Path}{x v:D.Term}(hp:progB p=true)(hm:(s.Mem.length:Int)=p.Mem)(hf:fw p.W s.Mem)(hx:fine x)(hv:fine v)(hc:x.Op=0→0≤x.N∧x.N<p.Mem):
  ∃l',YA fuel ⟨false⟩ p s x v=some (l',⟨!(store p.W s.Mem x v).2⟩)∧l'.length=s.Mem.length∧((store p.W s.Mem x v).2=true→l'=(store p.W s.Mem x v).1):=by
 have hm6:=Yo hp;unfold YA store;rw[Zl3 (by omega)];simp only[Zmh];by_cases c:x.Op=0
 ·obtain⟨n0,n1⟩:=hc c;refine⟨s.Mem.set x.N.toNat v,?_,by simp,fun _=>by rw[Zmm c]⟩;rw[Zmm (by simpa using c),Zmm c,Zhq n0 (by omega)];rfl
 ·obtain⟨l',h1,h2,h3⟩:=Zll (fuel:=fuel) hp hm hf hx hv s.Mem [] [] s.Mem fuel rfl rfl rfl (by have:=FU.le (n:=fuel);omega);simp only[ZmX,Zoi]at h1 h3;rw[show((0:Nat):Int)=0 from rfl]at h1;refine⟨l',?_,h2,fun h=>?_⟩
  ·rw[Zml (by simpa using c),Zml c,h1];simp only[Zmh];cases h:(stG p.W x v 0 s.Mem).2<;>simp
  ·rw[Zml c]at h⊢;by_cases d:(stG p.W x v 0 s.Mem).2=true
   ·rw[Zmm d];exact h3 d
   ·rw[Zml d]at h;cases h
theorem Zhw{p:D.Program}{s:D.Path}{x v:D.Term}(hf:fw p.W s.Mem)(hv:fine v∧v.W=p.W)(h:(store p.W s.Mem x v).2=true):fw p.W (store p.W s.Mem x v).1∧(store p.W s.Mem x v).1.length=s.Mem.length:=by
 unfold store at h⊢;by_cases c:x.Op=0
 ·rw[Zmm c];exact⟨Zk1 hf hv,by simp⟩
 ·rw[Zml c]at h⊢;by_cases d:(stG p.W x v 0 s.Mem).2=true
  ·rw[Zmm d];exact⟨ZjF d,Zij d⟩
  ·rw[Zml d]at h;cases h
end Go.Proofs.YtbidabmbbieeiaaGreatDoor
end
section
namespace Go.Proofs.YtbidabmbbieeiaaGreatDoor
open Go.GL
set_option linter.unusedSimpArgs false
set_option maxRecDepth 100000
variable{fuel:Nat}[FU fuel]
structure insF(w n:Int)(i:D.Ins):Prop where
 op:1≤i.Op∧i.Op≤14
 a:i.Op≠9→i.Op≠11→i.Op≠12→i.Op≠14→0≤i.A∧i.A<4
 b:i.Op=2∨i.Op=3∨i.Op=7∨i.Op=8→0≤i.B∧i.B<4
 v:i.Op=1→wordB w i.B=true
 c:i.Op=3→3≤i.C∧i.C≤16
 t:i.Op=9∨i.Op=10∨i.Op=11→0≤i.B∧i.B≤n
theorem ZlZ(a:Int):Y3 a=some (decide (0≤a∧a<4)):=by
 unfold Y3 Zl;by_cases h:0≤a∧a<4
 ·have h1:=h.1;have h2:a≤3:=by omega
  simp[h1,h2,h]
 ·have:¬(0≤a∧a≤3):=by omega
  simp only[decide_eq_false h,Option.some.injEq];simp;omega
theorem ZiT{w n:Int}{i:D.Ins}(h:insB w n i=true):insF w n i:=by
 unfold insB Xo Zl at h;simp only[ZlZ,YQ,Zmh]at h;by_cases c:1≤i.Op∧i.Op≤14
 ·have:i.Op=1∨i.Op=2∨i.Op=3∨i.Op=4∨i.Op=5∨i.Op=6∨i.Op=7∨i.Op=8∨i.Op=9∨i.Op=10∨i.Op=11∨i.Op=12∨i.Op=13∨i.Op=14:=by omega
  rcases this with c|c|c|c|c|c|c|c|c|c|c|c|c|c<;>simp[c,Zl]at h
  all_goals(by_cases ha:0≤i.A∧i.A<4)
  all_goals(by_cases hb:0≤i.B∧i.B<4)
  all_goals(try simp[ha,hb]at h)
  all_goals(first
   |(exfalso;omega)
   |exact⟨by omega,fun _ _ _ _=>by omega,fun _=>by omega,fun e=>by first|omega|exact h.1|exact h.2.1|simp_all,fun _=>by omega,fun _=>by omega⟩)
 ·exfalso;have n1:∀k:Int,1≤k→k≤14→i.Op≠k:=fun k h1 h2 e=>c (by omega);simp[n1 1,n1 2,n1 3,n1 4,n1 5,n1 6,n1 7,n1 8,n1 9,n1 10,n1 11,n1 12,n1 13,n1 14]at h
theorem Zfr{p:D.Program}(hp:progB p=true){i:D.Ins}(hi:i∈p.Code):insF p.W p.Code.length i:=by
 unfold progB at hp;simp only[Zmk,Zmu]at hp;exact ZiT (hp.2 i hi)
noncomputable def qad(p:D.Program)(x:D.Term):D.Term×Bool×Bool:=
 if(mkT 15 1 0 [x,kT p.W p.Mem]).2=true then((mkT 1 1 0 [(mkT 15 1 0 [x,kT p.W p.Mem]).1]).1,true,(mkT 1 1 0 [(mkT 15 1 0 [x,kT p.W p.Mem]).1]).2)else(t0,true,false)
noncomputable def qze(p:D.Program)(x:D.Term):D.Term×Bool×Bool:=((mkT 14 1 0 [kT p.W 0,x]).1,true,(mkT 14 1 0 [kT p.W 0,x]).2)
noncomputable def qst(p:D.Program)(rs:List D.Term)(i:D.Ins):D.Term×Bool×Bool:=
 if i.Op=10∨i.Op=13 then qze p (rg rs i.A)
 else if i.Op=3 then(if i.C=6∨i.C=7 then qze p (rg rs i.B)else(t0,false,true))
 else if i.Op=7 then qad p (rg rs i.B)
 else if i.Op=8 then qad p (rg rs i.A)
 else(t0,false,true)
theorem Zch{p:D.Program}(hp:progB p=true):wordB p.W 0=true:=Zce hp (by omega) (by have:=Yo hp;omega)
theorem ZgI{p:D.Program}(hp:progB p=true){x:D.Term}(hx:fine x):ZM fuel 14 1 0 [⟨0,p.W,0,⟨[]⟩,[]⟩,x]=some ((qze p x).1,(qze p x).2.2):=Zbz (fuel:=fuel) (sml2f (ZbE (Zch hp)) hx)
theorem Zfu{p:D.Program}{s:D.Path}{i:D.Ins}(hp:progB p=true)(hs:okP p s)(hi:insF p.W p.Code.length i):Zap fuel p s i=some (qst p s.Regs i):=by
 have hz:=Zch hp;have hm:=(Yo hp).1;have hr:∀k:Int,0≤k∧k<4→get? s.Regs k=some (rg s.Regs k)∧fine (rg s.Regs k):=fun k hk=>⟨ZbS hk.1 (by have:=hs.rl;omega),(Zcd hs.rf hk.1 (by have:=hs.rl;omega)).1⟩;have had:∀x:D.Term,fine x→((ZM fuel 15 1 0 [x,⟨0,p.W,p.Mem,⟨[]⟩,[]⟩]).bind fun x8=>if(!x8.2)then some ((D.Term.mk 0 0 0 ⟨[]⟩ ([]:List D.Term)),true,false)else(ZM fuel 1 1 0 ([x8.1]:List D.Term)).bind fun x9=>some (x9.1,true,x9.2))=some (qad p x):=by
  intro x hx;have:=Zbz (fuel:=fuel) (op:=15) (w:=1) (m:=0) (sml2f hx (ZbE hm));unfold kT at this;rw[this];simp only[Zmh];unfold qad kT;by_cases c:(mkT 15 1 0 [x,⟨0,p.W,p.Mem,⟨[]⟩,[]⟩]).2=true
  ·rw[Zmm c,Zml (by rw[c];simp),Zbz (sml1f (YW c).1)];rfl
  ·rw[Zml c,Zmm (by simpa using c)];rfl
 unfold Zap qst;rw[ZT hz];simp only[Zmh];by_cases c1:i.Op=10∨i.Op=13
 ·obtain⟨g,f⟩:=hr i.A (hi.a (by omega) (by omega) (by omega) (by omega));rw[Zmm (by simpa using c1),Zmm c1,g];simp only[Zmh];rw[ZgI hp f];rfl
 ·rw [Zml (by simpa using c1),Zml c1]
  by_cases c2:i.Op=3
  ·rw[Zmm (by simpa using c2),Zmm c2];by_cases c3:i.C=6∨i.C=7
   ·obtain⟨g,f⟩:=hr i.B (hi.b (by omega));rw[Zml (by simp;omega),Zmm c3,g];simp only[Zmh];rw[ZgI hp f];rfl
   ·rw[Zmm (by simp;omega),Zml c3];rfl
  ·rw[Zml (by simpa using c2),Zml c2];by_cases c4:i.Op=7
   ·obtain⟨g,f⟩:=hr i.B (hi.b (by omega));rw[Zmm (by simpa using c4),Zmm c4];simp only[Zmh];rw[g,ZT hm];simp only[Zmh];exact had _ f
   ·rw[Zml (by simpa using c4),Zml c4];by_cases c5:i.Op=8
    ·obtain⟨g,f⟩:=hr i.A (hi.a (by omega) (by omega) (by omega) (by omega));rw[Zmm (by simpa using c5),Zmm c5];simp only[Zmh];rw[g,ZT hm];simp only[Zmh];exact had _ f
    ·rw[Zml (by simpa using c5),Zml c5];rfl
theorem Zf2{p:D.Program}{s:D.Path}{i:D.Ins}(hp:progB p=true)(hs:okP p s)(hi:insF p.W p.Code.length i):
  ∃t',Y2 fuel ⟨false⟩ p s i=some (t',(qst p s.Regs i).2.1,⟨!(qst p s.Regs i).2.2⟩)∧((qst p s.Regs i).2.2=true→t'=(qst p s.Regs i).1):=by
 have hz:=Zch hp;have hm:=(Yo hp).1;have hr:∀k:Int,0≤k∧k<4→get? s.Regs k=some (rg s.Regs k)∧fine (rg s.Regs k):=fun k hk=>⟨ZbS hk.1 (by have:=hs.rl;omega),(Zcd hs.rf hk.1 (by have:=hs.rl;omega)).1⟩;have hqz:∀x:D.Term,fine x→Zg fuel ⟨false⟩ 14 1 [⟨0,p.W,0,⟨[]⟩,[]⟩,x]=some ((qze p x).1,⟨!(qze p x).2.2⟩):=fun x hx=>by
  rw[X3 (b:=false) (sml2f (a:=⟨0,p.W,0,⟨[]⟩,[]⟩) (ZbE hz) hx)];rfl
 have had:∀x:D.Term,fine x→∃t',((Zg fuel ⟨false⟩ 15 1 [x,⟨0,p.W,p.Mem,⟨[]⟩,[]⟩]).bind fun x9=>if x9.2.bad then some (x9.1,true,x9.2)else(Zg fuel x9.2 1 1 ([x9.1]:List D.Term)).bind fun x10=>some (x10.1,true,x10.2))=some (t',true,⟨!(qad p x).2.2⟩)∧(qad p x).2.1=true∧((qad p x).2.2=true→t'=(qad p x).1):=by
  intro x hx;rw[X3 (b:=false) (sml2f (b:=⟨0,p.W,p.Mem,⟨[]⟩,[]⟩) hx (ZbE hm))];simp only[Zmh];unfold qad kT;by_cases c:(mkT 15 1 0 [x,⟨0,p.W,p.Mem,⟨[]⟩,[]⟩]).2=true
  ·refine⟨(mkT 1 1 0 [(mkT 15 1 0 [x,⟨0,p.W,p.Mem,⟨[]⟩,[]⟩]).1]).1, ?_,by rw[Zmm c],fun _=>by rw[Zmm c]⟩;rw[Zml (by rw[c];simp),c,Zmm rfl];rw[show(false|| !true)=false from rfl,X3 (b:=false) (sml1f (YW c).1)];rfl
  ·refine⟨(mkT 15 1 0 [x,⟨0,p.W,p.Mem,⟨[]⟩,[]⟩]).1, ?_,by rw[Zml c],fun h=>by rw[Zml c]at h;cases h⟩;have c':(mkT 15 1 0 [x,⟨0,p.W,p.Mem,⟨[]⟩,[]⟩]).2=false:=by simpa using c
   rw[c',Zmm (by simp),Zml (by simp)];rfl
 unfold Y2 qst;rw[Zi];simp only[Zmh];by_cases c1:i.Op=10∨i.Op=13
 ·obtain⟨g,f⟩:=hr i.A (hi.a (by omega) (by omega) (by omega) (by omega));rw[Zmm (by simpa using c1),Zmm c1,g];simp only[Zmh];rw[hqz _ f];exact⟨_,rfl,fun _=>rfl⟩
 ·rw [Zml (by simpa using c1),Zml c1]
  by_cases c2:i.Op=3
  ·rw[Zmm c2];by_cases c3:i.C=6∨i.C=7
   ·obtain⟨g,f⟩:=hr i.B (hi.b (by omega));rw[Zmm (by simp;omega),Zmm c3,g];simp only[Zmh];rw[hqz _ f];exact⟨_,rfl,fun _=>rfl⟩
   ·rw[Zml (by simp;omega),Zml (by simp;omega),Zml c3];exact⟨_,rfl,fun _=>rfl⟩
  ·rw[Zml (by simp;omega),Zml c2];by_cases c4:i.Op=7
   ·obtain⟨g,f⟩:=hr i.B (hi.b (by omega));rw[Zmm (by simp;omega),Zmm c4,g,Zi];simp only[Zmh];rw[Zml (by simp;omega)];obtain⟨t',h1,h2,h3⟩:=had _ f;rw[h1,h2];exact⟨t',rfl,h3⟩
   ·rw[Zml c4];by_cases c5:i.Op=8
    ·obtain⟨g,f⟩:=hr i.A (hi.a (by omega) (by omega) (by omega) (by omega));obtain⟨g2,f2⟩:=hr i.B (hi.b (by omega));rw[Zmm (by simp;omega),Zmm c5,g,g2,Zi];simp only[Zmh];rw[Zmm (by simp;omega)];obtain⟨t',h1,h2,h3⟩:=had _ f;rw[h1,h2];exact⟨t',rfl,h3⟩
    ·rw[Zml (by simp;omega),Zml c5];exact⟨_,rfl,fun _=>rfl⟩
end Go.Proofs.YtbidabmbbieeiaaGreatDoor
end
section
namespace Go.Proofs.YtbidabmbbieeiaaGreatDoor
open Go.GL
set_option linter.unusedSimpArgs false
set_option maxRecDepth 100000
variable{fuel:Nat}[FU fuel]
theorem Zhd{op w m:Int}{ks:List D.Term}(h:(mkT op w m ks).2=true)(hne:ks≠[])(hl:ks.length≤3)(hc:(ks.all fun x=>x.Op==0)=true):∃v,ZW ⟨op,w,m,⟨[]⟩,ks⟩ (ks.map (·.N))=some v∧mkT op w m ks=(kT w v,true):=by
 unfold mkT at h⊢;split at h
 ·rename_i c;rw[Zmm c];obtain⟨a,b⟩:=ZbP c;obtain⟨v,hv,h1,h2⟩:=known a hne hc;refine⟨v,h1,?_⟩;have e:ZI fuel0 ⟨op,w,m,⟨[]⟩,ks⟩=some (kT w v):=by
   obtain⟨k,hk,hk2⟩:∃k,fuel0=k+1∧1000≤k:=⟨fuel0-1,by have:=FU.le (n:=fuel0);omega,by have:=FU.le (n:=fuel0);omega⟩;rw[hk,ZI,Zml (by rw[Zf];simpa using hne),Zdg (ks:=ks) (n:=k) (by omega) (by omega),hc];simp only[Zmh,Zm0,h2 k (by omega),ZT hv];rfl
  unfold simp1;rw[e];rfl
 ·cases h
theorem ZfH{p:D.Program}{x:D.Term}(hp:progB p=true)(hx:fine x)(hw:x.W=p.W)(h0:x.Op=0)(hok:(qad p x).2.2=true)(hn:¬((qad p x).1.Op=0∧(qad p x).1.N=1)):0≤x.N∧x.N<p.Mem:=by
 obtain⟨ex,vx⟩:=YV hx.1 (by simp[h0]);have hm:=Yo hp;have hx0:0≤x.N:=by
  rw[hw,ZV (by omega) (by omega)]at vx;omega
 refine⟨hx0,?_⟩;unfold qad at hok hn;split at hok
 ·rename_i c;rw[Zmm c]at hn;obtain⟨v,a1,a2⟩:=Zhd c (by simp) (by simp) (by simp[h0,kT]);rw[a2]at hok hn;obtain⟨u,b1,b2⟩:=Zhd hok (by simp) (by simp) (by simp[kT]);rw[b2]at hn;refine Decidable.byContradiction fun hlt=>hn ⟨rfl,?_⟩;have ev:v=0:=by
   have:ZW ⟨15,1,0,⟨[]⟩,[x,kT p.W p.Mem]⟩ ([x,kT p.W p.Mem].map (·.N))=some 0:=by
    have e1:ZH x.W x.N=some true:=by rw[YQ,vx]
    have e2:ZH x.W p.Mem=some true:=by rw[YQ,hw,hm.1]
    simp[ZW,Zl,kT,get?,Yt,e1,e2,Xu,hlt]
   rw[this]at a1;exact(Option.some.inj a1).symm
  subst ev;have:ZW ⟨1,1,0,⟨[]⟩,[kT 1 0]⟩ ([kT 1 0].map (·.N))=some 1:=by decide+kernel
  rw[this]at b1;exact(Option.some.inj b1).symm
 ·cases hok
theorem Zcq{p:D.Program}{s:D.Path}{i:D.Ins}(hp:progB p=true)(hs:okP p s)(hi:insF p.W p.Code.length i)(hok:(qst p s.Regs i).2.2=true)(hn:¬((qst p s.Regs i).1.Op=0∧(qst p s.Regs i).1.N=1)):
  (i.Op=7→(rg s.Regs i.B).Op=0→0≤(rg s.Regs i.B).N∧(rg s.Regs i.B).N<p.Mem)∧(i.Op=8→(rg s.Regs i.A).Op=0→0≤(rg s.Regs i.A).N∧(rg s.Regs i.A).N<p.Mem):=by
 constructor
 ·intro c h0;unfold qst at hok hn;rw[Zml (by omega),Zml (by omega),Zmm c]at hok hn;obtain⟨b0,b1⟩:=hi.b (by omega);have:=Zcd hs.rf b0 (by have:=hs.rl;omega);exact ZfH hp this.1 this.2 h0 hok hn
 ·intro c h0;unfold qst at hok hn;rw[Zml (by omega),Zml (by omega),Zml (by omega),Zmm c]at hok hn;obtain⟨b0,b1⟩:=hi.a (by omega) (by omega) (by omega) (by omega);have:=Zcd hs.rf b0 (by have:=hs.rl;omega);exact ZfH hp this.1 this.2 h0 hok hn
end Go.Proofs.YtbidabmbbieeiaaGreatDoor
end
section
namespace Go.Proofs.YtbidabmbbieeiaaGreatDoor
open Go.GL
set_option linter.unusedSimpArgs false
set_option maxRecDepth 100000
variable{fuel:Nat}[FU fuel]
def rwd(c w:Int):Int:=if 14≤c then 1 else w
theorem ZeD{c w:Int}(hw:1≤w∧w≤16)(hc:1≤c∧c≤16):YZ c w=some (rwd c w):=by
 unfold YZ Zl rwd;have h1:=hw.1;have h2:=hw.2;have h3:=hc.1;have h4:=hc.2;by_cases h:14≤c<;>simp[h1,h2,h3,h4,h]
theorem Zk4{c w:Int}(hw:1≤w∧w≤16)(hc:1≤c∧c≤16):X0 c w=some (rwd c w):=by
 unfold X0 ZL rwd;have h1:=hw.1;have h2:=hw.2;have h3:¬c<1:=by omega
 have h4:¬16<c:=by omega
 by_cases h:14≤c<;>simp[h1,h2,h3,h4,h]
noncomputable def opd(p:D.Program)(c:Int)(a b:D.Term):D.Term×Bool:=
 if(mkT c (rwd c p.W) 0 [a,b]).2=true∧14≤c then mkT 20 p.W 0 [(mkT c (rwd c p.W) 0 [a,b]).1]else mkT c (rwd c p.W) 0 [a,b]
theorem Zke{p:D.Program}{c:Int}{a b:D.Term}(h:(opd p c a b).2=true):fine (opd p c a b).1∧(opd p c a b).1.W=p.W:=by
 unfold opd at h⊢;split at h
 ·rename_i e;rw[Zmm e];exact YW h
 ·rename_i e;rw[Zml e];have:=YW h;refine⟨this.1,this.2.trans ?_⟩;unfold rwd;rw[Zml (fun h14=>e ⟨h,h14⟩)]
theorem Zjq{p:D.Program}{c:Int}{a b:D.Term}(hp:progB p=true)(hc:3≤c∧c≤16)(ha:fine a)(hb:fine b):Zan fuel p c a b=some (opd p c a b):=by
 have hm:=Yo hp;unfold Zan opd;rw[Zk4 (by omega) (by omega)];simp only[Zmh];rw[Zbz (sml2f ha hb)];simp only[Zmh];by_cases h:(mkT c (rwd c p.W) 0 [a,b]).2=true
 ·by_cases h14:14≤c
  ·rw[Zml (by rw[h];simp;omega),Zmm ⟨h,h14⟩,Zbz (sml1f (YW h).1)];rfl
  ·rw[Zmm (by rw[h];simp;omega),Zml (fun e=>h14 e.2)]
 ·rw[Zmm (by simp;left;simpa using h),Zml (fun e=>h e.1)]
theorem Zk3{p:D.Program}{c:Int}{a b:D.Term}(hp:progB p=true)(hc:3≤c∧c≤16)(ha:fine a)(hb:fine b){β:Type}(f:D.Term→D.l06Maker→Option β):
  ((YZ c p.W).bind fun x8=>(Zg fuel ⟨false⟩ c x8 [a,b]).bind fun x11=>if((decide (c≥14))&&(!x11.2.bad))then(Zg fuel x11.2 20 p.W ([x11.1]:List D.Term)).bind fun x12=>f x12.1 x12.2 else f x11.1 x11.2)=f (opd p c a b).1 ⟨!(opd p c a b).2⟩:=by
 have hm:=Yo hp;rw[ZeD (by omega) (by omega)];simp only[Zmh];rw[X3 (sml2f ha hb)];simp only[Zmh];unfold opd;by_cases h:(mkT c (rwd c p.W) 0 [a,b]).2=true
 ·by_cases h14:14≤c
  ·rw[Zmm (by rw[h];simp;omega),Zmm ⟨h,h14⟩,h,show(false|| !true)=false from rfl,X3 (sml1f (YW h).1)];rfl
  ·rw[Zml (by rw[h];simp;omega),Zml (fun e=>h14 e.2)];rfl
 ·have h':(mkT c (rwd c p.W) 0 [a,b]).2=false:=by simpa using h
  rw[Zml (by rw[h'];simp),Zml (fun e=>h e.1)];rfl
theorem ZiX{k:Int}(h0:0≤k)(h9:k≤9):Xe fuel k=cat? (strOf [Byt.mk (IntKind.u8.wrap (w64 (48+k)))]) ⟨[]⟩:=by
 obtain⟨n,hn⟩:∃n,fuel=n+2:=⟨fuel-2,by have:=FU.le (n:=fuel);omega⟩;rw[hn,Xe,Zml (by simp;omega),Xk (r:=(k,⟨[]⟩)) (by simp;omega) (by omega)];simp only[Zmh];exact Ze _
def inT(w k:Int):D.Term:=⟨22,w,0,if k=0 then⟨[105,48]⟩else if k=1 then⟨[105,49]⟩else⟨[105,50]⟩,[]⟩
theorem ZkN{p:D.Program}{k:Int}(h0:0≤k)(h2:k≤2):Zar fuel p k=some (inT p.W k):=by
 unfold Zar inT;rw[ZiX h0 (by omega)];have:k=0∨k=1∨k=2:=by omega
 rcases this with rfl|rfl|rfl
 ·rw[show cat? (strOf [Byt.mk (IntKind.u8.wrap (w64 (48+0)))]) ⟨[]⟩=some ⟨[48]⟩from by decide+kernel];simp only[Zmh];rw[show cat? ⟨[105]⟩ ⟨[48]⟩=some ⟨[105,48]⟩from by decide+kernel];rfl
 ·rw[show cat? (strOf [Byt.mk (IntKind.u8.wrap (w64 (48+1)))]) ⟨[]⟩=some ⟨[49]⟩from by decide+kernel];simp only[Zmh];rw[show cat? ⟨[105]⟩ ⟨[49]⟩=some ⟨[105,49]⟩from by decide+kernel];rfl
 ·rw[show cat? (strOf [Byt.mk (IntKind.u8.wrap (w64 (48+2)))]) ⟨[]⟩=some ⟨[50]⟩from by decide+kernel];simp only[Zmh];rw[show cat? ⟨[105]⟩ ⟨[50]⟩=some ⟨[105,50]⟩from by decide+kernel];rfl
theorem Zly{p:D.Program}(hp:progB p=true){k:Int}(h0:0≤k)(h2:k≤2):((YP k).bind fun x12=>(cat? ⟨[105]⟩ x12).bind fun x13=>XD fuel p.W x13)=some (inT p.W k):=by
 have hm:=Yo hp;have hw:ZL p.W=some true:=by
  unfold ZL;have h1:1≤p.W:=by omega
  have h2:p.W≤16:=by omega
  simp[h1,h2]
 unfold inT;have:k=0∨k=1∨k=2:=by omega
 have hv:∀s:Str,s.bytes.length≤100→nameB s=true→XD fuel p.W s=some ⟨22,p.W,0,s,[]⟩:=fun s hl hn=>by
  unfold XD;rw[hw];simp only[Zmh,Zmp,Zmi,Zmr];rw[ZfI (by omega) (by have:=FU.le (n:=fuel);omega),hn];rfl
 rcases this with rfl|rfl|rfl
 ·rw[show YP 0=some ⟨[48]⟩from by decide+kernel];simp only[Zmh];rw[show cat? ⟨[105]⟩ ⟨[48]⟩=some ⟨[105,48]⟩from by decide+kernel];simp only[Zmh];rw[hv _ (by decide) (by decide+kernel)];rfl
 ·rw[show YP 1=some ⟨[49]⟩from by decide+kernel];simp only[Zmh];rw[show cat? ⟨[105]⟩ ⟨[49]⟩=some ⟨[105,49]⟩from by decide+kernel];simp only[Zmh];rw[hv _ (by decide) (by decide+kernel)];rfl
 ·rw[show YP 2=some ⟨[50]⟩from by decide+kernel];simp only[Zmh];rw[show cat? ⟨[105]⟩ ⟨[50]⟩=some ⟨[105,50]⟩from by decide+kernel];simp only[Zmh];rw[hv _ (by decide) (by decide+kernel)];rfl
theorem Zkh{p:D.Program}(hp:progB p=true){k:Int}:fine (inT p.W k)∧(inT p.W k).W=p.W:=by
 have hm:=Yo hp;refine⟨⟨?_,by unfold inT;rw[Zaa];simp only[XR];omega⟩,rfl⟩;have w1:1≤p.W:=by omega
 have w2:p.W≤16:=by omega
 have hn:nameB (inT p.W k).Name=true:=by
  unfold inT;by_cases c:k=0
  ·simp only[c,Zm0];decide+kernel
  ·by_cases d:k=1
   ·simp only[d,Zm0];decide+kernel
   ·simp only[c,d,Zmr];decide+kernel
 rw[X6,ZY];simp only[locB,shB,hn];simp[inT,w1,w2]
end Go.Proofs.YtbidabmbbieeiaaGreatDoor
end
section
namespace Go.Proofs.YtbidabmbbieeiaaGreatDoor
open Go.GL
set_option linter.unusedSimpArgs false
set_option maxRecDepth 100000
variable{fuel:Nat}[FU fuel]
def stk(p:D.Program)(s:D.Path)(i:D.Ins):Int:=
 if i.Op=5∧s.In=p.In then 3 else if i.Op=6∧s.Out.length=6 then 4 else if i.Op=11∧s.Stack.length=3 then 7 else if i.Op=12∧s.Stack.length=0 then 7 else 0
noncomputable def flw(p:D.Program)(s:D.Path)(i:D.Ins):D.Path×Bool:=
 if i.Op=1 then({s with Pc:=s.Pc+1,Regs:=s.Regs.set i.A.toNat (kT p.W i.B)},true)
 else if i.Op=2 then({s with Pc:=s.Pc+1,Regs:=s.Regs.set i.A.toNat (rg s.Regs i.B)},true)
 else if i.Op=3 then({s with Pc:=s.Pc+1,Regs:=s.Regs.set i.A.toNat (opd p i.C (rg s.Regs i.A) (rg s.Regs i.B)).1},(opd p i.C (rg s.Regs i.A) (rg s.Regs i.B)).2)
 else if i.Op=4 then({s with Pc:=s.Pc+1,Regs:=s.Regs.set i.A.toNat (mkT 1 p.W 0 [rg s.Regs i.A]).1},(mkT 1 p.W 0 [rg s.Regs i.A]).2)
 else if i.Op=5 then({s with Pc:=s.Pc+1,Regs:=s.Regs.set i.A.toNat (inT p.W s.In),In:=s.In+1},true)
 else if i.Op=6 then({s with Pc:=s.Pc+1,Out:=s.Out++[rg s.Regs i.A]},true)
 else if i.Op=7 then({s with Pc:=s.Pc+1,Regs:=s.Regs.set i.A.toNat (load p.W s.Mem (rg s.Regs i.B)).1},(load p.W s.Mem (rg s.Regs i.B)).2)
 else if i.Op=8 then({s with Pc:=s.Pc+1,Mem:=(store p.W s.Mem (rg s.Regs i.A) (rg s.Regs i.B)).1},(store p.W s.Mem (rg s.Regs i.A) (rg s.Regs i.B)).2)
 else if i.Op=9 then({s with Pc:=i.B},true)
 else if i.Op=11 then({s with Pc:=i.B,Stack:=s.Stack++[s.Pc+1]},true)
 else if i.Op=12 then({s with Pc:=(s.Stack[s.Stack.length-1]?).getD 0,Stack:=s.Stack.take (s.Stack.length-1)},true)
 else if i.Op=14 then({s with Code:=1},true)
 else({s with Pc:=s.Pc+1},true)
theorem ZhW{l:List Int}(h:0<l.length)(h9:l.length≤9):get? l (w64 (len l-1))=some ((l[l.length-1]?).getD 0)∧cut? l 0 (w64 (len l-1))=some (l.take (l.length-1)):=by
 have e:w64 (len l-1)=((l.length-1:Nat):Int):=by rw[Zf,Zn (by omega) (by omega)];omega
 rw[e];constructor
 ·rw[get?_nat,Zmn (by omega)];rfl
 ·unfold cut?;rw[Zmm (by omega)];simp
theorem ZkE{l:List Int}(h:l.length≤100):ZB l=some l:=by
 unfold ZB;rw[ZfE h];rfl
theorem ZgZ{p:D.Program}{s:D.Path}{i:D.Ins}(hp:progB p=true)(hs:okP p s)(hi:insF p.W p.Code.length i)(hpc:s.Pc<p.Code.length)(hk:stk p s i=0)
  (h7:i.Op=7→(rg s.Regs i.B).Op=0→0≤(rg s.Regs i.B).N∧(rg s.Regs i.B).N<p.Mem)(h8:i.Op=8→(rg s.Regs i.A).Op=0→0≤(rg s.Regs i.A).N∧(rg s.Regs i.A).N<p.Mem):Za8 fuel p s i=some (flw p s i):=by
 have hm:=Yo hp;have hl:=hs.rl;have hcl:(p.Code.length:Int)≤40:=by
  unfold progB at hp;simp only[Zmk,Zms]at hp;omega
 have hin:=ZcL hp;have e1:w64 (s.Pc+1)=s.Pc+1:=Zn (by have:=hs.pc.1;omega) (by omega);have e2:w64 (s.In+1)=s.In+1:=Zn (by have:=hs.inn;omega) (by have:=hs.inn;omega);have hr:∀k:Int,0≤k∧k<4→get? s.Regs k=some (rg s.Regs k)∧fine (rg s.Regs k):=fun k hk=>⟨ZbS hk.1 (by omega),(Zcd hs.rf hk.1 (by omega)).1⟩;have hput:∀t:D.Term,0≤i.A∧i.A<4→XH s.Regs i.A t=some (s.Regs.set i.A.toNat t):=fun t ha=>put_eq (by omega) ha.1 (by omega);have hop:=hi.op;have hc:i.Op=1∨i.Op=2∨i.Op=3∨i.Op=4∨i.Op=5∨i.Op=6∨i.Op=7∨i.Op=8∨i.Op=9∨i.Op=10∨i.Op=11∨i.Op=12∨i.Op=13∨i.Op=14:=by omega
 have hA:=hi.a;have hB:=hi.b;unfold Za8 flw;rcases hc with c|c|c|c|c|c|c|c|c|c|c|c|c|c<;>simp only[c,Int.reduceBEq,Int.reduceEq,reduceIte,Zmi,e1,e2]
 ·rw[ZT (hi.v c)];simp only[Zmh];rw[hput _ (hA (by omega) (by omega) (by omega) (by omega))];rfl
 ·rw[(hr _ (hB (by omega))).1];simp only[Zmh];rw[hput _ (hA (by omega) (by omega) (by omega) (by omega))];rfl
 ·obtain⟨a1,a2⟩:=hr _ (hA (by omega) (by omega) (by omega) (by omega));obtain⟨b1,b2⟩:=hr _ (hB (by omega));rw[a1,b1];simp only[Zmh];rw[Zjq hp (hi.c c) a2 b2];simp only[Zmh];rw[hput _ (hA (by omega) (by omega) (by omega) (by omega))];rfl
 ·obtain⟨a1,a2⟩:=hr _ (hA (by omega) (by omega) (by omega) (by omega));rw[a1];simp only[Zmh];rw[Zbz (sml1f a2)];simp only[Zmh];rw[hput _ (hA (by omega) (by omega) (by omega) (by omega))];rfl
 ·have hk3:s.In≠p.In:=fun e=>by unfold stk at hk;rw[Zmm ⟨c,e⟩]at hk;cases hk
  have:=Zly (fuel:=fuel) hp (k:=s.In) hs.inn.1 (by have:=hs.inn.2;omega);have hf:∀{β:Type}(f:D.Term→Option β),((YP s.In).bind fun x12=>(cat? ⟨[105]⟩ x12).bind fun x13=>(XD fuel p.W x13).bind f)=f (inT p.W s.In):=fun f=>by
   rw[←Zmh (inT p.W s.In) f,←this];simp only[Option.bind_assoc]
  rw[hf,hput _ (hA (by omega) (by omega) (by omega) (by omega))];rfl
 ·rw[(hr _ (hA (by omega) (by omega) (by omega) (by omega))).1];simp only[Zmh];rw[ZfZ (by have:=hs.ol;omega)];rfl
 ·obtain⟨b1,b2⟩:=hr _ (hB (by omega));rw[b1];simp only[Zmh];rw[Zi5 hp hs.ml hs.mf b2 (h7 c)];simp only[Zmh];rw[hput _ (hA (by omega) (by omega) (by omega) (by omega))];rfl
 ·obtain⟨a1,a2⟩:=hr _ (hA (by omega) (by omega) (by omega) (by omega));obtain⟨b1,b2⟩:=hr _ (hB (by omega));rw[a1,b1];simp only[Zmh];rw[Zh0 hp hs.ml hs.mf a2 b2 (h8 c)];rfl
 ·rw[Zgc (by have:=hs.sl;omega)];rfl
 ·have hk0:s.Stack.length≠0:=fun e=>by unfold stk at hk;rw[Zml (by omega),Zml (by omega),Zml (by omega),Zmm ⟨c,e⟩]at hk;cases hk
  obtain⟨g1,g2⟩:=ZhW (l:=s.Stack) (by omega) (by have:=hs.sl;omega);rw[g1,g2];simp only[Zmh];rw[ZkE (by simp;have:=hs.sl;omega)];rfl
end Go.Proofs.YtbidabmbbieeiaaGreatDoor
end
section
namespace Go.Proofs.YtbidabmbbieeiaaGreatDoor
open Go.GL
set_option linter.unusedSimpArgs false
set_option maxRecDepth 100000
variable{fuel:Nat}[FU fuel]
theorem ZhK{p:D.Program}{s:D.Path}{i:D.Ins}(hp:progB p=true)(hs:okP p s)(h0:s.Code=0)(hi:insF p.W p.Code.length i)(hpc:s.Pc<p.Code.length)(hk:stk p s i=0)
  (h7:i.Op=7→(rg s.Regs i.B).Op=0→0≤(rg s.Regs i.B).N∧(rg s.Regs i.B).N<p.Mem)(h8:i.Op=8→(rg s.Regs i.A).Op=0→0≤(rg s.Regs i.A).N∧(rg s.Regs i.A).N<p.Mem):
  ∃s',ZO fuel ⟨false⟩ p s i=some (s',⟨!(flw p s i).2⟩)∧((flw p s i).2=true→s'=(flw p s i).1):=by
 have hm:=Yo hp;have hl:=hs.rl;have hcl:(p.Code.length:Int)≤40:=by
  unfold progB at hp;simp only[Zmk,Zms]at hp;omega
 have hin:=ZcL hp;have e1:w64 (s.Pc+1)=s.Pc+1:=Zn (by have:=hs.pc.1;omega) (by omega);have e2:w64 (s.In+1)=s.In+1:=Zn (by have:=hs.inn;omega) (by have:=hs.inn;omega);have hr:∀k:Int,0≤k∧k<4→get? s.Regs k=some (rg s.Regs k)∧fine (rg s.Regs k):=fun k hk=>⟨ZbS hk.1 (by omega),(Zcd hs.rf hk.1 (by omega)).1⟩;have hput:∀t:D.Term,0≤i.A∧i.A<4→set? s.Regs i.A t=some (s.Regs.set i.A.toNat t):=fun t ha=>Zhq ha.1 (by omega) t;have hop:=hi.op;have hc:i.Op=1∨i.Op=2∨i.Op=3∨i.Op=4∨i.Op=5∨i.Op=6∨i.Op=7∨i.Op=8∨i.Op=9∨i.Op=10∨i.Op=11∨i.Op=12∨i.Op=13∨i.Op=14:=by omega
 have hA:=hi.a;have hB:=hi.b;have k5:i.Op=5→(s.In==p.In)=false:=fun c=>by
  have:s.In≠p.In:=fun e=>by unfold stk at hk;rw[Zmm ⟨c,e⟩]at hk;cases hk
  simpa using this
 have k6:i.Op=6→(len s.Out==6)=false:=fun c=>by
  have:s.Out.length≠6:=fun e=>by unfold stk at hk;rw[Zml (by omega),Zmm ⟨c,e⟩]at hk;cases hk
  rw[Zf];simp;omega
 have k11:i.Op=11→(len s.Stack==3)=false:=fun c=>by
  have:s.Stack.length≠3:=fun e=>by unfold stk at hk;rw[Zml (by omega),Zml (by omega),Zmm ⟨c,e⟩]at hk;cases hk
  rw[Zf];simp;omega
 have k12:i.Op=12→(len s.Stack==0)=false∧0<s.Stack.length:=fun c=>by
  have:s.Stack.length≠0:=fun e=>by unfold stk at hk;rw[Zml (by omega),Zml (by omega),Zml (by omega),Zmm ⟨c,e⟩]at hk;cases hk
  exact⟨by rw[Zf];simp;intro e;exact this (by rw[e];rfl),by omega⟩
 unfold ZO;rw[Zbm (hs.fine hp)];simp only[Zmh];unfold flw;rcases hc with c|c|c|c|c|c|c|c|c|c|c|c|c|c
 all_goals simp only[c,Int.reduceBEq,Int.reduceEq,Int.reduceBNe,reduceIte,Zmi,ZmY,ZmJ,cond_true,cond_false,k5,k6,k11,k12,Zmh,bne_self_eq_false,e1,e2]
 ·rw[Zi];simp only[Zmh];rw[hput _ (hA (by omega) (by omega) (by omega) (by omega))];exact⟨_,rfl,fun _=>by rw[h0];rfl⟩
 ·rw[(hr _ (hB (by omega))).1];simp only[Zmh];rw[hput _ (hA (by omega) (by omega) (by omega) (by omega))];exact⟨_,rfl,fun _=>by rw[h0]⟩
 ·obtain⟨a1,a2⟩:=hr _ (hA (by omega) (by omega) (by omega) (by omega));obtain⟨b1,b2⟩:=hr _ (hB (by omega));rw[a1,b1];simp only[Zmh];have q:=Zk3 (fuel:=fuel) (p:=p) hp (hi.c c) a2 b2 (fun t m=>(set? s.Regs i.A t).bind fun x13=>(some (.inl (m.bad,s.Pc+1,s.Mem,s.In,x13,s.Stack,s.Out)):Option ((Bool×Int×List D.Term×Int×List D.Term×List Int×List D.Term)⊕(D.Path×D.l06Maker))));have hcc:=hi.c c;rw[ZeD (by omega) (by omega)]at q;rw[ZeD (by omega) (by omega)];simp only[Zmh]at q⊢;rw[q,hput _ (hA (by omega) (by omega) (by omega) (by omega))];exact⟨_,rfl,fun _=>by rw[h0]⟩
 ·obtain⟨a1,a2⟩:=hr _ (hA (by omega) (by omega) (by omega) (by omega));rw[a1];simp only[Zmh];rw[X3 (sml1f a2)];simp only[Zmh];rw[hput _ (hA (by omega) (by omega) (by omega) (by omega))];exact⟨_,rfl,fun _=>by rw[h0]⟩
 ·have hk3:s.In≠p.In:=fun e=>by have:=k5 c;rw[e]at this;simp at this
  rw[ZkN (p:=p) hs.inn.1 (by have:=hs.inn.2;omega)];simp only[Zmh];rw[hput _ (hA (by omega) (by omega) (by omega) (by omega))];exact⟨_,rfl,fun _=>by rw[h0];rfl⟩
 ·rw[(hr _ (hA (by omega) (by omega) (by omega) (by omega))).1];simp only[Zmh];rw[Zay (by simp;have:=hs.ol;omega)];exact⟨_,rfl,fun _=>by rw[h0]⟩
 ·obtain⟨a1,a2⟩:=hr _ (hA (by omega) (by omega) (by omega) (by omega));obtain⟨b1,b2⟩:=hr _ (hB (by omega));rw[a1,b1];simp only[Zmh];obtain⟨t',q1,q2⟩:=ZiR (fuel:=fuel) (s:=D.Path.mk (s.Pc+1) s.Regs s.Mem s.Stack s.In s.Out 0 s.Steps s.Cond s.Turns) (x:=rg s.Regs i.B) hp hs.ml hs.mf b2 (h7 c);rw[q1];simp only[Zmh];rw[hput _ (hA (by omega) (by omega) (by omega) (by omega))];exact⟨_,rfl,fun h=>by rw[h0,q2 h]⟩
 ·obtain⟨a1,a2⟩:=hr _ (hA (by omega) (by omega) (by omega) (by omega));obtain⟨b1,b2⟩:=hr _ (hB (by omega));rw[a1,b1];simp only[Zmh];obtain⟨t',q1,-,q2⟩:=Zh1 (fuel:=fuel) (s:=D.Path.mk (s.Pc+1) s.Regs s.Mem s.Stack s.In s.Out 0 s.Steps s.Cond s.Turns) (x:=rg s.Regs i.A) (v:=rg s.Regs i.B) hp hs.ml hs.mf a2 b2 (h8 c);rw[q1];simp only[Zmh];exact⟨_,rfl,fun h=>by rw[h0,q2 h]⟩
 ·exact⟨_,rfl,fun _=>by rw[h0]⟩
 ·exact⟨_,rfl,fun _=>by rw[h0]⟩
 ·rw[Zay (by simp;have:=hs.sl;omega)];exact⟨_,rfl,fun _=>by rw[h0]⟩
 ·obtain⟨g1,g2⟩:=ZhW (l:=s.Stack) (k12 c).2 (by have:=hs.sl;omega);rw[g1,g2];exact⟨_,rfl,fun _=>by rw[h0]⟩
 ·exact⟨_,rfl,fun _=>by rw[h0]⟩
 ·exact⟨_,rfl,fun _=>rfl⟩
theorem Zk0{p:D.Program}{s:D.Path}{i:D.Ins}(hp:progB p=true)(hs:okP p s)(hk:stk p s i≠0):ZO fuel ⟨false⟩ p s i=some ({s with Code:=stk p s i},⟨false⟩):=by
 unfold ZO;rw[Zbm (hs.fine hp)];simp only[Zmh];unfold stk at hk⊢;by_cases c5:i.Op=5∧s.In=p.In
 ·simp only[c5,and_self,Zm0,Int.reduceBEq,Znv,BEq.rfl,Zmh,Int.reduceBNe]
 ·rw [Zml c5]at hk⊢
  have d5:((i.Op==5)&&(s.In==p.In))=false:=by simpa using c5
  by_cases c6:i.Op=6∧s.Out.length=6
  ·have:len s.Out=6:=by rw[Zf];omega
   simp only[d5,c6,this,and_self,Zm0,Int.reduceBEq,Znv,Zmi,Zmr,ZmY,Zmh,Int.reduceBNe]
  ·rw[Zml c6]at hk⊢;have d6:((i.Op==6)&&(len s.Out==6))=false:=by
    rw[Zf];simp;intro e h;exact c6 ⟨e,by omega⟩
   by_cases c11:i.Op=11∧s.Stack.length=3
   ·have:len s.Stack=3:=by rw[Zf];omega
    simp only[d5,d6,c11,this,and_self,Zm0,Int.reduceBEq,Znv,Zmi,Zmr,ZmY,Zmh,Int.reduceBNe]
   ·rw[Zml c11]at hk⊢;have d11:((i.Op==11)&&(len s.Stack==3))=false:=by
     rw[Zf];simp;intro e h;exact c11 ⟨e,by omega⟩
    by_cases c12:i.Op=12∧s.Stack.length=0
    ·have:len s.Stack=0:=by rw[Zf];omega
     simp only[d5,d6,d11,c12,this,and_self,Zm0,Int.reduceBEq,Znv,Zmi,Zmr,ZmY,Zmh,Int.reduceBNe]
    ·rw[Zml c12]at hk;exact absurd rfl hk
theorem Zho{p:D.Program}{s:D.Path}{i:D.Ins}(hs:okP p s):Zb9 p s i=some (stk p s i):=by
 have h1:=hs.inn.2;have h2:=hs.ol;have h3:=hs.sl;unfold Zb9 stk;by_cases c5:i.Op=5∧s.In=p.In
 ·rw[Zmm c5,Zmm (by simp;omega)]
 ·rw[Zml c5,Zml (by simp;omega)];by_cases c6:i.Op=6∧s.Out.length=6
  ·rw[Zmm c6,Zmm (by rw[Zf];simp;omega)]
  ·rw[Zml c6,Zml (by rw[Zf];simp;omega)];by_cases c11:i.Op=11∧s.Stack.length=3
   ·rw[Zmm c11,Zmm (by rw[Zf];simp;omega)]
   ·rw[Zml c11,Zml (by rw[Zf];simp;omega)];by_cases c12:i.Op=12∧s.Stack.length=0
    ·rw[Zmm c12,Zmm (by rw[Zf,c12.2];simp[c12.1])]
    ·rw[Zml c12,Zml (by rw[Zf];simp only[Zmk,ZmE];omega)]
end Go.Proofs.YtbidabmbbieeiaaGreatDoor
end
section
namespace Go.Proofs.YtbidabmbbieeiaaGreatDoor
open Go.GL
set_option linter.unusedSimpArgs false
set_option maxRecDepth 100000
variable{fuel:Nat}[FU fuel]
theorem Zl1{w v:Int}(h:wordB w v=true):fine (kT w v)∧(kT w v).W=w:=⟨ZbE h,rfl⟩
theorem ZcO{p:D.Program}{s:D.Path}(hs:okP p s)(hpc:s.Pc<p.Code.length){k:Nat}{t:D.Term}(ht:fine t∧t.W=p.W):okP p {s with Pc:=s.Pc+1,Regs:=s.Regs.set k t}:=
 ⟨⟨by have:=hs.pc.1;show 0≤s.Pc+1;omega,by show s.Pc+1≤_;rw[Zf];omega⟩,by show(s.Regs.set k t).length=4;rw[Zod,hs.rl],Zk1 hs.rf ht,hs.ml,hs.mf,hs.sl,hs.sp,hs.inn,hs.ol,hs.of,hs.cd,hs.st,hs.cl,hs.cf,hs.tl⟩
theorem Zgf{p:D.Program}{s:D.Path}{i:D.Ins}(hp:progB p=true)(hs:okP p s)(hi:insF p.W p.Code.length i)(hpc:s.Pc<p.Code.length)(hk:stk p s i=0)
  (h7:i.Op=7→(rg s.Regs i.B).Op=0→0≤(rg s.Regs i.B).N∧(rg s.Regs i.B).N<p.Mem)(hok:(flw p s i).2=true):okP p (flw p s i).1:=by
 have hop:=hi.op;have hl:=hs.rl;have hr:∀k:Int,0≤k∧k<4→fine (rg s.Regs k)∧(rg s.Regs k).W=p.W:=fun k hk=>Zcd hs.rf hk.1 (by omega);have hc:i.Op=1∨i.Op=2∨i.Op=3∨i.Op=4∨i.Op=5∨i.Op=6∨i.Op=7∨i.Op=8∨i.Op=9∨i.Op=10∨i.Op=11∨i.Op=12∨i.Op=13∨i.Op=14:=by omega
 have hA:=hi.a;have hB:=hi.b;have hT:=hi.t;have hn:0≤s.Pc+1∧s.Pc+1≤len p.Code:=⟨by have:=hs.pc.1;omega,by rw[Zf];omega⟩;unfold flw at hok⊢;rcases hc with c|c|c|c|c|c|c|c|c|c|c|c|c|c<;>simp only[c,Int.reduceEq,reduceIte]at hok⊢
 ·exact ZcO hs hpc (Zl1 (hi.v c))
 ·exact ZcO hs hpc (hr _ (hB (by omega)))
 ·exact ZcO hs hpc (Zke hok)
 ·exact ZcO hs hpc (YW hok)
 ·have h5:s.In≠p.In:=fun e=>by unfold stk at hk;rw[Zmm ⟨c,e⟩]at hk;cases hk
  have:=ZcO hs hpc (k:=i.A.toNat) (Zkh hp (k:=s.In));exact⟨this.pc,this.rl,this.rf,this.ml,this.mf,this.sl,this.sp,⟨by have:=hs.inn.1;show 0≤s.In+1;omega,by have:=hs.inn.2;show s.In+1≤p.In;omega⟩,this.ol,this.of,this.cd,this.st,this.cl,this.cf,this.tl⟩
 ·have h6:s.Out.length≠6:=fun e=>by unfold stk at hk;rw[Zml (by omega),Zmm ⟨c,e⟩]at hk;cases hk
  exact⟨hn,hs.rl,hs.rf,hs.ml,hs.mf,hs.sl,hs.sp,hs.inn,by have:=hs.ol;show(s.Out++_).length≤6;rw[Zmz];simp;omega,Zj5 hs.of (hr _ (hA (by omega) (by omega) (by omega) (by omega))),hs.cd,hs.st,hs.cl,hs.cf,hs.tl⟩
 ·exact ZcO hs hpc (ZiJ hp hs.ml hs.mf (h7 c) hok)
 ·obtain⟨q1,q2⟩:=Zhw (p:=p) (s:=s) hs.mf (hr _ (hB (by omega))) hok;exact⟨hn,hs.rl,hs.rf,by show((store _ _ _ _).1.length:Int)=_;rw[q2];exact hs.ml,q1,hs.sl,hs.sp,hs.inn,hs.ol,hs.of,hs.cd,hs.st,hs.cl,hs.cf,hs.tl⟩
 ·exact⟨by rw[Zf];exact hT (by omega),hs.rl,hs.rf,hs.ml,hs.mf,hs.sl,hs.sp,hs.inn,hs.ol,hs.of,hs.cd,hs.st,hs.cl,hs.cf,hs.tl⟩
 ·exact⟨hn,hs.rl,hs.rf,hs.ml,hs.mf,hs.sl,hs.sp,hs.inn,hs.ol,hs.of,hs.cd,hs.st,hs.cl,hs.cf,hs.tl⟩
 ·have h11:s.Stack.length≠3:=fun e=>by unfold stk at hk;rw[Zml (by omega),Zml (by omega),Zmm ⟨c,e⟩]at hk;cases hk
  refine⟨by rw[Zf];exact hT (by omega),hs.rl,hs.rf,hs.ml,hs.mf,by have:=hs.sl;show(s.Stack++_).length≤3;rw[Zmz];simp;omega,fun x hx=>?_,hs.inn,hs.ol,hs.of,hs.cd,hs.st,hs.cl,hs.cf,hs.tl⟩;rcases ZmD.1 hx with hx|hx
  ·exact hs.sp x hx
  ·rw[Zmw]at hx;subst hx;exact hn
 ·have h12:s.Stack.length≠0:=fun e=>by unfold stk at hk;rw[Zml (by omega),Zml (by omega),Zml (by omega),Zmm ⟨c,e⟩]at hk;cases hk
  refine⟨?_,hs.rl,hs.rf,hs.ml,hs.mf,by have:=hs.sl;show(s.Stack.take _).length≤3;rw[ZmL];omega,fun x hx=>hs.sp x (List.mem_of_mem_take hx),hs.inn,hs.ol,hs.of,hs.cd,hs.st,hs.cl,hs.cf,hs.tl⟩;rw[Zmn (by omega)];exact hs.sp _ (Znw _)
 ·exact⟨hn,hs.rl,hs.rf,hs.ml,hs.mf,hs.sl,hs.sp,hs.inn,hs.ol,hs.of,hs.cd,hs.st,hs.cl,hs.cf,hs.tl⟩
 ·exact⟨hs.pc,hs.rl,hs.rf,hs.ml,hs.mf,hs.sl,hs.sp,hs.inn,hs.ol,hs.of,by show(0:Int)≤1∧(1:Int)≤9;omega,hs.st,hs.cl,hs.cf,hs.tl⟩
theorem ZeE{p:D.Program}{s:D.Path}{i:D.Ins}{c:List D.Term}{t:List Int}:flw p {s with Cond:=c,Turns:=t} i=({(flw p s i).1 with Cond:=c,Turns:=t},(flw p s i).2):=by
 unfold flw;by_cases c1:i.Op=1
 ·simp only[c1,reduceIte]
 by_cases c2:i.Op=2
 ·simp only[c2,Int.reduceEq,reduceIte]
 by_cases c3:i.Op=3
 ·simp only[c3,Int.reduceEq,reduceIte]
 by_cases c4:i.Op=4
 ·simp only[c4,Int.reduceEq,reduceIte]
 by_cases c5:i.Op=5
 ·simp only[c5,Int.reduceEq,reduceIte]
 by_cases c6:i.Op=6
 ·simp only[c6,Int.reduceEq,reduceIte]
 by_cases c7:i.Op=7
 ·simp only[c7,Int.reduceEq,reduceIte]
 by_cases c8:i.Op=8
 ·simp only[c8,Int.reduceEq,reduceIte]
 by_cases c9:i.Op=9
 ·simp only[c9,Int.reduceEq,reduceIte]
 by_cases c11:i.Op=11
 ·simp only[c11,Int.reduceEq,reduceIte]
 by_cases c12:i.Op=12
 ·simp only[c12,Int.reduceEq,reduceIte]
 by_cases c14:i.Op=14
 ·simp only[c14,Int.reduceEq,reduceIte]
 simp only[c1,c2,c3,c4,c5,c6,c7,c8,c9,c11,c12,c14,reduceIte]
end Go.Proofs.YtbidabmbbieeiaaGreatDoor
end
section
namespace Go.Proofs.YtbidabmbbieeiaaGreatDoor
open Go.GL
set_option linter.unusedSimpArgs false
set_option maxRecDepth 100000
variable{fuel:Nat}[FU fuel]
def nmd(s:D.Path)(i:D.Ins):D.Path:=
 if i.Op=10 then{s with Pc:=i.B}else if i.Op=13 then{s with Code:=8}else if i.Op=3 then{s with Code:=6}else{s with Code:=5}
theorem Zfi(s:D.Path)(i:D.Ins):ZaU s i=some (nmd s i):=by
 unfold ZaU nmd;by_cases c1:i.Op=10
 ·simp[c1]
 by_cases c2:i.Op=13
 ·simp[c2]
 by_cases c3:i.Op=3
 ·simp[c3]
 simp[c1,c2,c3]
theorem ZgO(s:D.Path)(i:D.Ins):XA s i=some (nmd s i):=by
 unfold XA nmd;by_cases c1:i.Op=10
 ·simp[c1]
 by_cases c2:i.Op=13
 ·simp[c2]
 by_cases c3:i.Op=3
 ·simp[c3]
 simp[c1,c2,c3]
theorem Zbx{p:D.Program}{s:D.Path}(hs:okP p s){k:Int}(hk:0≤k∧k≤9):okP p {s with Code:=k}:=⟨hs.pc,hs.rl,hs.rf,hs.ml,hs.mf,hs.sl,hs.sp,hs.inn,hs.ol,hs.of,hk,hs.st,hs.cl,hs.cf,hs.tl⟩
theorem Zj0{p:D.Program}{s:D.Path}{i:D.Ins}(hs:okP p s)(hi:insF p.W p.Code.length i):okP p (nmd s i):=by
 unfold nmd;split
 ·rename_i c;exact⟨by rw[Zf];exact hi.t (by omega),hs.rl,hs.rf,hs.ml,hs.mf,hs.sl,hs.sp,hs.inn,hs.ol,hs.of,hs.cd,hs.st,hs.cl,hs.cf,hs.tl⟩
 ·split
  ·exact Zbx hs (by omega)
  ·split
   ·exact Zbx hs (by omega)
   ·exact Zbx hs (by omega)
theorem Zgk{p:D.Program}{s:D.Path}(hs:okP p s){t:D.Term}{k:Int}(ht:fine t∧t.W=1){c:List D.Term}{l:List Int}(hc:fw 1 c)(hcl:c.length<60)(hl:l.length<60):okP p {s with Cond:=c++[t],Turns:=l++[k]}:=
 ⟨hs.pc,hs.rl,hs.rf,hs.ml,hs.mf,hs.sl,hs.sp,hs.inn,hs.ol,hs.of,hs.cd,hs.st,by show(c++[t]).length≤60;rw[Zmz];simp;omega,Zj5 hc ht,by show(l++[k]).length≤60;rw[Zmz];simp;omega⟩
theorem Zhx{p:D.Program}{rs:List D.Term}{i:D.Ins}(h:(qst p rs i).2.1=false):(qst p rs i).1=t0:=by
 unfold qst at h⊢;by_cases c1:i.Op=10∨i.Op=13
 ·rw[Zmm c1]at h;cases h
 rw[Zml c1]at h⊢;by_cases c2:i.Op=3
 ·rw[Zmm c2]at h⊢;by_cases c3:i.C=6∨i.C=7
  ·rw[Zmm c3]at h;cases h
  ·rw[Zml c3]
 rw[Zml c2]at h⊢;have hq:∀x:D.Term,(qad p x).2.1=true:=fun x=>by unfold qad;split<;>rfl
 by_cases c4:i.Op=7
 ·rw[Zmm c4,hq]at h;cases h
 rw[Zml c4]at h⊢;by_cases c5:i.Op=8
 ·rw[Zmm c5,hq]at h;cases h
 rw[Zml c5]
theorem Zfn{p:D.Program}{rs:List D.Term}{i:D.Ins}(h:(qst p rs i).2.1=true)(hok:(qst p rs i).2.2=true):fine (qst p rs i).1∧(qst p rs i).1.W=1:=by
 have hz:∀x:D.Term,(qze p x).2.2=true→fine (qze p x).1∧(qze p x).1.W=1:=fun x h=>YW h;have hq:∀x:D.Term,(qad p x).2.2=true→fine (qad p x).1∧(qad p x).1.W=1:=fun x h=>by
  unfold qad at h⊢;split at h
  ·rename_i c;rw[Zmm c];exact YW h
  ·cases h
 unfold qst at h hok⊢;by_cases c1:i.Op=10∨i.Op=13
 ·rw[Zmm c1]at h hok⊢;exact hz _ hok
 rw[Zml c1]at h hok⊢;by_cases c2:i.Op=3
 ·rw[Zmm c2]at h hok⊢;by_cases c3:i.C=6∨i.C=7
  ·rw[Zmm c3]at h hok⊢;exact hz _ hok
  ·rw[Zml c3]at h;cases h
 rw[Zml c2]at h hok⊢;by_cases c4:i.Op=7
 ·rw[Zmm c4]at h hok⊢;exact hq _ hok
 rw[Zml c4]at h hok⊢;by_cases c5:i.Op=8
 ·rw[Zmm c5]at h hok⊢;exact hq _ hok
 rw[Zml c5]at h;cases h
noncomputable def dvd(p:D.Program)(s:D.Path)(i:D.Ins):List D.Path:=
 if(qst p s.Regs i).2.2=false then[{s with Code:=9}]
 else if(qst p s.Regs i).2.1=true∧(qst p s.Regs i).1.Op=0∧(qst p s.Regs i).1.N=1 then[nmd s i]
 else if(flw p s i).2=false then[{s with Code:=9}]
 else if(qst p s.Regs i).2.1=false∨(qst p s.Regs i).1.Op=0 then[(flw p s i).1]
 else if(mkT 1 1 0 [(qst p s.Regs i).1]).2=false∨s.Cond.length=60∨s.Turns.length=60 then[{s with Code:=9}]
 else[{nmd s i with Cond:=s.Cond++[(qst p s.Regs i).1],Turns:=s.Turns++[1]},{(flw p s i).1 with Cond:=s.Cond++[(mkT 1 1 0 [(qst p s.Regs i).1]).1],Turns:=s.Turns++[0]}]
theorem Zg5{p:D.Program}{s:D.Path}{i:D.Ins}(hp:progB p=true)(hs:okP p s)(hi:insF p.W p.Code.length i)(hpc:s.Pc<p.Code.length)(hk:stk p s i=0):Zbf fuel p s i=some (dvd p s i):=by
 unfold Zbf dvd;rw[Zfu hp hs hi];simp only[Zmh];by_cases q1:(qst p s.Regs i).2.2=true
 ·have hfl:¬((qst p s.Regs i).2.1=true∧(qst p s.Regs i).1.Op=0∧(qst p s.Regs i).1.N=1)→Za8 fuel p s i=some (flw p s i):=fun hn=>by
   have:=Zcq hp hs hi q1 (fun e=>by
    cases ha:(qst p s.Regs i).2.1
    ·rw[Zhx ha]at e;exact absurd e.2 (by decide)
    ·exact hn ⟨ha,e⟩)
   exact ZgZ hp hs hi hpc hk this.1 this.2
  rw[Zml (show¬(!(qst p s.Regs i).2.2)=true by rw[q1];simp),Zml (show¬(qst p s.Regs i).2.2=false by rw[q1];simp)];by_cases q2:(qst p s.Regs i).2.1=true∧(qst p s.Regs i).1.Op=0∧(qst p s.Regs i).1.N=1
  ·rw[Zmm q2,Zmm q2.1];unfold Zp;simp only[Zmh];rw[Zmm (by simp[q2]),Zfi];rfl
  ·rw [Zml q2]
   have e:∀{β:Type}(x y:Option β),((if(qst p s.Regs i).2.1=true then Zp (qst p s.Regs i).1 1 else some default).bind fun x2=>if((qst p s.Regs i).2.1&&x2)=true then x else y)=y:=fun x y=>by
    cases ha:(qst p s.Regs i).2.1
    ·rfl
    ·unfold Zp;simp only[Zm0,Zmh];rw[Zml (by simp;intro h1 h2;exact q2 ⟨ha,h1,h2⟩)]
   rw[e,hfl q2];simp only[Zmh];by_cases q3:(flw p s i).2=true
   ·rw[Zml (show¬(!(flw p s i).2)=true by rw[q3];simp),Zml (show¬(flw p s i).2=false by rw[q3];simp)];cases ha:(qst p s.Regs i).2.1
    ·simp
    ·obtain⟨f1,f2⟩:=Zfn ha q1;unfold Zb;simp only[Zmp,Zmi,Zmr,Zmh,Zm9,false_or];by_cases q4:(qst p s.Regs i).1.Op=0
     ·simp[q4]
     ·rw[Zml (by simpa using q4),Zml (by simp;exact q4),Zbz (sml1f f1)];simp only[Zmh];have hcl:=hs.cl;have htl:=hs.tl;by_cases q5:(mkT 1 1 0 [(qst p s.Regs i).1]).2=false∨s.Cond.length=60∨s.Turns.length=60
      ·rw[Zmm q5,Zmm (by rw[Zf,Zf];simp;rcases q5 with h|h|h<;>simp[h])]
      ·rw[Zml q5,Zml (by rw[Zf,Zf];simp at q5⊢;exact⟨⟨q5.1,by omega⟩,by omega⟩),Zfi,ZfZ (by omega),ZfZ (by omega),Zgc (by omega),Zgc (by omega)];rfl
   ·rw[Zmm (by simpa using q3),Zmm (by simpa using q3)]
 ·rw[Zmm (by simpa using q1),Zmm (by simpa using q1)]
end Go.Proofs.YtbidabmbbieeiaaGreatDoor
end
section
namespace Go.Proofs.YtbidabmbbieeiaaGreatDoor
open Go.GL
set_option linter.unusedSimpArgs false
set_option maxRecDepth 100000
variable{fuel:Nat}[FU fuel]
def insAt(p:D.Program)(k:Int):D.Ins:=(p.Code[k.toNat]?).getD ⟨0,0,0,0⟩
theorem ZdW{p:D.Program}{k:Int}(h0:0≤k)(h1:k<p.Code.length):get? p.Code k=some (insAt p k)∧insAt p k∈p.Code:=by
 obtain⟨j,rfl⟩:∃j:Nat,k=(j:Int):=⟨k.toNat,by omega⟩;unfold insAt;rw[get?_nat,ZnV,Zmn (by omega)];exact⟨rfl,Znw _⟩
theorem Zfg{p:D.Program}{s:D.Path}(hs:okP p s)(h:s.Steps<400):okP p {s with Steps:=s.Steps+1}:=⟨hs.pc,hs.rl,hs.rf,hs.ml,hs.mf,hs.sl,hs.sp,hs.inn,hs.ol,hs.of,hs.cd,by have:=hs.st;show 0≤s.Steps+1∧s.Steps+1≤400;omega,hs.cl,hs.cf,hs.tl⟩
noncomputable def stp1(p:D.Program)(s:D.Path):List D.Path:=
 if s.Code≠0∨s.Steps=400 then[]
 else if s.Pc=len p.Code then[{s with Code:=2}]
 else if stk p {s with Steps:=s.Steps+1} (insAt p s.Pc)≠0 then[{s with Steps:=s.Steps+1,Code:=stk p {s with Steps:=s.Steps+1} (insAt p s.Pc)}]
 else dvd p {s with Steps:=s.Steps+1} (insAt p s.Pc)
theorem Ziy{p:D.Program}{s:D.Path}(hp:progB p=true)(hs:okP p s):Zbj fuel p s=some (stp1 p s):=by
 have hst:=hs.st;have hpc:=hs.pc;rw[Zf]at hpc;unfold Zbj stp1;by_cases c1:s.Code≠0∨s.Steps=400
 ·rw[Zmm c1,Zmm (by simp;rcases c1 with h|h;exact .inl h;right;omega)]
 ·have d1:s.Code=0∧s.Steps<400:=by omega
  rw[Zml c1,Zml (by simp;omega)];by_cases c2:s.Pc=len p.Code
  ·rw[Zmm c2,Zmm (by simpa using c2)]
  ·rw[Zml c2,Zml (by simpa using c2)];rw[Zf]at c2;obtain⟨g1,g2⟩:=ZdW (p:=p) (k:=s.Pc) hpc.1 (by omega);have hs1:=Zfg hs d1.2;rw[g1];simp only[Zmh];rw[Zn (by omega) (by omega),Zho hs1];simp only[Zmh];by_cases c3:stk p {s with Steps:=s.Steps+1} (insAt p s.Pc)=0
   ·rw[Zml (by rw[c3];simp),Zml (by rw[c3];simp),Zg5 hp hs1 (Zfr hp g2) (by show s.Pc<_;omega) c3];rfl
   ·rw[Zmm (by simpa using c3),Zmm c3]
end Go.Proofs.YtbidabmbbieeiaaGreatDoor
end
section
namespace Go.Proofs.YtbidabmbbieeiaaGreatDoor
open Go.GL
set_option linter.unusedSimpArgs false
set_option maxRecDepth 100000
variable{fuel:Nat}[FU fuel]
theorem ZjI{s:D.Path}{i:D.Ins}{c:List D.Term}{t:List Int}:nmd {s with Cond:=c,Turns:=t} i={nmd s i with Cond:=c,Turns:=t}:=by
 unfold nmd;by_cases c1:i.Op=10
 ·simp only[c1,reduceIte]
 by_cases c2:i.Op=13
 ·simp only[c2,Int.reduceEq,reduceIte]
 by_cases c3:i.Op=3
 ·simp only[c3,Int.reduceEq,reduceIte]
 simp only[c1,c2,c3,reduceIte]
theorem Zk5{p:D.Program}{s:D.Path}{i:D.Ins}(h:stk p s i≠0):qst p s.Regs i=(t0,false,true):=by
 have:i.Op=5∨i.Op=6∨i.Op=11∨i.Op=12:=by
  unfold stk at h;by_cases a:i.Op=5∧s.In=p.In
  ·exact .inl a.1
  rw[Zml a]at h;by_cases b:i.Op=6∧s.Out.length=6
  ·exact .inr (.inl b.1)
  rw[Zml b]at h;by_cases c:i.Op=11∧s.Stack.length=3
  ·exact .inr (.inr (.inl c.1))
  rw[Zml c]at h;by_cases d:i.Op=12∧s.Stack.length=0
  ·exact .inr (.inr (.inr d.1))
  rw[Zml d]at h;exact absurd rfl h
 unfold qst;rw[Zml (by omega),Zml (by omega),Zml (by omega),Zml (by omega)]
theorem ZfF{p:D.Program}{s:D.Path}{t:D.Term}{k:Int}(hp:progB p=true)(hs:okP p s):Xp fuel s t k=some {s with Cond:=s.Cond++[t],Turns:=s.Turns++[k]}:=by
 unfold Xp;rw[Zbm (hs.fine hp)];simp only[Zmh];rw[Zay (by simp;have:=hs.cl;omega)];simp only[Zmh];rw[Zay (by simp;have:=hs.tl;omega)];rfl
theorem Zi4{q:D.Term}(hf:fine q∧q.W=1)(h0:q.Op=0):q.N=0∨q.N=1:=by
 obtain⟨e,hv⟩:=YV hf.1.1 (by simp[h0]);rw[hf.2,ZV (by omega) (by omega)]at hv;have:q.N<2:=by simpa using hv.2
 omega
theorem Zj6 {p:D.Program}{u:D.Path}{i:D.Ins}(hp:progB p=true)(hs:okP p u)(h0:u.Code=0)(hi:insF p.W p.Code.length i)(hpc:u.Pc<p.Code.length):
    ((Yh fuel u).bind fun x2=>(Y2 fuel (D.l06Maker.mk false) p u i).bind fun x4=>if x4.2.2.bad then some ([(D.Path.mk x2.Pc x2.Regs x2.Mem x2.Stack x2.In x2.Out 9 x2.Steps x2.Cond x2.Turns)]:List D.Path)else(if(!x4.2.1)then some default else(Zq x4.1 0)).bind fun x5=>if((!x4.2.1)||x5)then(ZO fuel x4.2.2 p u i).bind fun x6=>if x6.2.bad then some ([(D.Path.mk x2.Pc x2.Regs x2.Mem x2.Stack x2.In x2.Out 9 x2.Steps x2.Cond x2.Turns)]:List D.Path)else(Yh fuel x6.1).bind fun x7=>some ([x7]:List D.Path)else(Zq x4.1 1).bind fun x8=>if x8 then(XA u i).bind fun x9=>some ([x9]:List D.Path)else(Zg fuel x4.2.2 1 1 ([x4.1]:List D.Term)).bind fun x10=>if((x10.2.bad||((len u.Cond)==60))||((len u.Turns)==60))then some ([(D.Path.mk x2.Pc x2.Regs x2.Mem x2.Stack x2.In x2.Out 9 x2.Steps x2.Cond x2.Turns)]:List D.Path)else(Xp fuel u x10.1 0).bind fun x11=>(ZO fuel x10.2 p x11 i).bind fun x12=>if x12.2.bad then some ([(D.Path.mk x2.Pc x2.Regs x2.Mem x2.Stack x2.In x2.Out 9 x2.Steps x2.Cond x2.Turns)]:List D.Path)else(Xp fuel u x4.1 1).bind fun x13=>(XA x13 i).bind fun x14=>(Yh fuel x12.1).bind fun x15=>some ([x14,x15]:List D.Path))=some (if stk p u i≠0 then[{u with Code:=stk p u i}]else dvd p u i):=by
  rw[Zbm (hs.fine hp)];obtain⟨t',h1,h2⟩:=Zf2 (fuel:=fuel) hp hs hi;rw[h1];simp only[Zmh];by_cases hk:stk p u i=0
  · rw [Zml (show¬(stk p u i≠0)from fun h=>h hk)]
    unfold dvd;by_cases q1:(qst p u.Regs i).2.2=true
    · have ht :=h2 q1
      subst ht;rw[Zml (show¬(!(qst p u.Regs i).2.2)=true by rw[q1];simp),Zml (show¬(qst p u.Regs i).2.2=false by rw[q1];simp),q1]
      have hfc:¬((qst p u.Regs i).2.1=true∧(qst p u.Regs i).1.Op=0∧(qst p u.Regs i).1.N=1)→_:=fun hn=>Zcq hp hs hi q1 (fun e=>by
        cases ha:(qst p u.Regs i).2.1
        · rw[Zhx ha]at e;exact absurd e.2 (by decide)
        · exact hn ⟨ha,e⟩)
      have hno:¬((qst p u.Regs i).2.1=true∧(qst p u.Regs i).1.Op=0∧(qst p u.Regs i).1.N=1)→((ZO fuel ⟨!true⟩ p u i).bind fun x6=>if x6.2.bad then some ([(D.Path.mk u.Pc u.Regs u.Mem u.Stack u.In u.Out 9 u.Steps u.Cond u.Turns)]:List D.Path)else(Yh fuel x6.1).bind fun x7=>some ([x7]:List D.Path))=some (if(flw p u i).2=false then[{u with Code:=9}]else[(flw p u i).1]):=fun hn=>by
        obtain⟨f7,f8⟩:=hfc hn;obtain⟨s',e1,e2⟩:=ZhK (fuel:=fuel) hp hs h0 hi hpc hk f7 f8;rw[show(!true)=false from rfl,e1];simp only[Zmh];cases hb:(flw p u i).2
        · simp
        · have:=e2 hb
          subst this;simp only[Zmp,Zmi,Zmr];rw[Zbm ((Zgf hp hs hi hpc hk f7 hb).fine hp)];simp
      cases ha:(qst p u.Regs i).2.1
      · rw[ha]at hno
        simp only[ZmO,Zm0,Zmh,Zoh];rw[hno (by simp)];cases(flw p u i).2<;>simp
      · have hf:=Zfn ha q1
        rw[ha]at hno hfc;simp only[Zmp,Zmi,Zmr,Zm9,Zq,Zmh];by_cases z:(qst p u.Regs i).1.Op=0
        · rcases Zi4 hf z with n0|n1
          · have r1:¬(true=true∧(qst p u.Regs i).1.Op=0∧(qst p u.Regs i).1.N=1):=by rw[n0];simp
            rw[Zmm (show((qst p u.Regs i).1.Op==0&&(qst p u.Regs i).1.N==0)=true by simp[z,n0]),Zml (fun h=>r1 ⟨rfl,h.2⟩:¬(True∧(qst p u.Regs i).1.Op=0∧(qst p u.Regs i).1.N=1))];have:=hno r1;simp only[Zmp]at this;rw[this];cases(flw p u i).2<;>simp[z]
          · rw[Zml (show¬((qst p u.Regs i).1.Op==0&&(qst p u.Regs i).1.N==0)=true by simp[z,n1]),Zmm (show((qst p u.Regs i).1.Op==0&&(qst p u.Regs i).1.N==1)=true by simp[z,n1]),Zmm (⟨trivial,z,n1⟩:True∧(qst p u.Regs i).1.Op=0∧(qst p u.Regs i).1.N=1),ZgO];rfl
        · have r1:¬(true=true∧(qst p u.Regs i).1.Op=0∧(qst p u.Regs i).1.N=1):=fun h=>z h.2.1
          rw[Zml (show¬((qst p u.Regs i).1.Op==0&&(qst p u.Regs i).1.N==0)=true by simp[z]),Zml (show¬((qst p u.Regs i).1.Op==0&&(qst p u.Regs i).1.N==1)=true by simp[z]),Zml (fun h=>r1 ⟨rfl,h.2⟩:¬(True∧(qst p u.Regs i).1.Op=0∧(qst p u.Regs i).1.N=1)),X3 (sml1f hf.1)];simp only[Zmh,Zm9];have hcl:=hs.cl;have htl:=hs.tl;by_cases q5:(mkT 1 1 0 [(qst p u.Regs i).1]).2=false∨u.Cond.length=60∨u.Turns.length=60
          · rw[Zmm (show(!(mkT 1 1 0 [(qst p u.Regs i).1]).2||len u.Cond==60||len u.Turns==60)=true by rw[Zf,Zf];simp;rcases q5 with h|h|h<;>simp[h])]
            cases(flw p u i).2
            · simp
            · simp[z,q5]
          · have q6:(mkT 1 1 0 [(qst p u.Regs i).1]).2=true∧u.Cond.length≠60∧u.Turns.length≠60:=by simpa using q5
            rw[Zml (show¬(!(mkT 1 1 0 [(qst p u.Regs i).1]).2||len u.Cond==60||len u.Turns==60)=true by rw[Zf,Zf,q6.1];simp;omega),ZfF hp hs];simp only[Zmh];obtain⟨f7,f8⟩:=hfc r1;have hs':okP p {u with Cond:=u.Cond++[(mkT 1 1 0 [(qst p u.Regs i).1]).1],Turns:=u.Turns++[0]}:=Zgk hs (YW q6.1) hs.cf (by omega) (by omega);obtain⟨s',e1,e2⟩:=ZhK (fuel:=fuel) (s:={u with Cond:=u.Cond++[(mkT 1 1 0 [(qst p u.Regs i).1]).1],Turns:=u.Turns++[0]}) hp hs' h0 hi hpc hk f7 f8;rw[q6.1,show(!true)=false from rfl,e1];simp only[Zmh];rw[ZeE]at e2⊢;cases hb:(flw p u i).2
            · simp
            · have hfo:=Zgf (s:={u with Cond:=u.Cond++[(mkT 1 1 0 [(qst p u.Regs i).1]).1],Turns:=u.Turns++[0]}) hp hs' hi hpc hk f7 (by rw[ZeE];exact hb)
              rw[ZeE]at hfo;have:=e2 hb;subst this;simp only[Zmp,Zmi,Zmr];rw[ZfF hp hs];simp only[Zmh];rw[ZgO,ZjI];simp only[Zmh];rw[Zbm (hfo.fine hp)];simp[z,q6]
    · rw[Zmm (show(!(qst p u.Regs i).2.2)=true by simpa using q1),Zmm (show(qst p u.Regs i).2.2=false by simpa using q1)]
  · have hq:=Zk5 hk
    have h9:0≤stk p u i∧stk p u i≤9:=by
      unfold stk
      repeat' split
      all_goals omega
    rw[hq,Zmm hk];simp only[Zmp,Zmi,Zmr,ZmO,Zm0,Zmh,Zoh];rw[Zk0 hp hs hk];simp only[Zmh,Zmi,Zmr];rw[Zbm ((Zbx hs h9).fine hp)];rfl
theorem ZiQ{p:D.Program}{s:D.Path}(hp:progB p=true)(hs:okP p s):ZaH fuel p s=some (stp1 p s):=by
 have hst:=hs.st;have hpc:=hs.pc;rw[Zf]at hpc;unfold ZaH stp1;by_cases c1:s.Code≠0∨s.Steps=400
 ·rw[Zmm c1,Zmm (by simpa using c1)]
 have d1:s.Code=0∧s.Steps<400:=by omega
 rw[Zml c1,Zml (by simp;omega),Zbm (hs.fine hp)];simp only[Zmh];by_cases c2:s.Pc=len p.Code
 ·rw[Zmm c2,Zmm (by simpa using c2)]
 rw[Zml c2,Zml (by simpa using c2)];rw[Zf]at c2;obtain⟨g1,g2⟩:=ZdW (p:=p) (k:=s.Pc) hpc.1 (by omega);have hi:=Zfr hp g2;have hs1:=Zfg hs d1.2;rw[g1,Zn (by omega) (by omega)];have hz:({s with Steps:=s.Steps+1}:D.Path).Code=0:=d1.1;have:=Zj6 (fuel:=fuel) (u:={s with Steps:=s.Steps+1}) hp hs1 hz hi (by show s.Pc<_;omega);simp only[Zmh];refine Eq.trans ?_ (this.trans ?_)
 ·rfl
 ·split<;>rfl
end Go.Proofs.YtbidabmbbieeiaaGreatDoor
end
section
namespace Go.Proofs.YtbidabmbbieeiaaGreatDoor
open Go.GL
set_option linter.unusedSimpArgs false
set_option maxRecDepth 100000
variable{fuel:Nat}[FU fuel]
theorem ZlR{p:D.Program}{s:D.Path}{i:D.Ins}(hp:progB p=true)(hs:okP p s)(hi:insF p.W p.Code.length i)(hpc:s.Pc<p.Code.length)(hk:stk p s i=0):∀x∈dvd p s i,okP p x:=by
 intro x hx;unfold dvd at hx;by_cases q1:(qst p s.Regs i).2.2=false
 ·rw[Zmm q1,Zmw]at hx;subst hx;exact Zbx hs (by omega)
 rw[Zml q1]at hx;have q1':(qst p s.Regs i).2.2=true:=by simpa using q1
 by_cases q2:(qst p s.Regs i).2.1=true∧(qst p s.Regs i).1.Op=0∧(qst p s.Regs i).1.N=1
 ·rw[Zmm q2,Zmw]at hx;subst hx;exact Zj0 hs hi
 rw[Zml q2]at hx
 have hfc:=Zcq hp hs hi q1' (fun e=>by
  cases ha:(qst p s.Regs i).2.1
  ·rw[Zhx ha]at e;exact absurd e.2 (by decide)
  ·exact q2 ⟨ha,e⟩)
 by_cases q3:(flw p s i).2=false
 ·rw[Zmm q3,Zmw]at hx;subst hx;exact Zbx hs (by omega)
 rw[Zml q3]at hx;have q3':(flw p s i).2=true:=by simpa using q3
 by_cases q4:(qst p s.Regs i).2.1=false∨(qst p s.Regs i).1.Op=0
 ·rw[Zmm q4,Zmw]at hx;subst hx;exact Zgf hp hs hi hpc hk hfc.1 q3'
 rw[Zml q4]at hx;by_cases q5:(mkT 1 1 0 [(qst p s.Regs i).1]).2=false∨s.Cond.length=60∨s.Turns.length=60
 ·rw[Zmm q5,Zmw]at hx;subst hx;exact Zbx hs (by omega)
 rw[Zml q5]at hx;have q6:(mkT 1 1 0 [(qst p s.Regs i).1]).2=true∧s.Cond.length≠60∧s.Turns.length≠60:=by simpa using q5
 have hcl:=hs.cl;have htl:=hs.tl;have ha:(qst p s.Regs i).2.1=true:=by
  cases h:(qst p s.Regs i).2.1
  ·exact absurd (.inl h) q4
  ·rfl
 rcases ZmZ.1 hx with rfl|hx
 ·exact Zgk (Zj0 hs hi) (Zfn ha q1') hs.cf (by omega) (by omega)
 ·rw[Zmw]at hx;subst hx;exact Zgk (Zgf hp hs hi hpc hk hfc.1 q3') (YW q6.1) hs.cf (by omega) (by omega)
theorem ZkY(p:D.Program)(s:D.Path)(i:D.Ins):(dvd p s i).length=1∨(dvd p s i).length=2:=by
 unfold dvd
 repeat' split
 all_goals first|exact .inl rfl|exact .inr rfl
theorem Zie(p:D.Program)(s:D.Path):(stp1 p s).length≤2:=by
 unfold stp1;split
 ·simp
 ·split
  ·simp
  ·split
   ·simp
   ·rcases ZkY p {s with Steps:=s.Steps+1} (insAt p s.Pc)with h|h<;>omega
theorem Zhk{p:D.Program}{s:D.Path}(hp:progB p=true)(hs:okP p s):∀x∈stp1 p s,okP p x:=by
 have hst:=hs.st;have hpc:=hs.pc;rw[Zf]at hpc;intro x hx;unfold stp1 at hx;by_cases c1:s.Code≠0∨s.Steps=400
 ·rw[Zmm c1]at hx;cases hx
 rw[Zml c1]at hx;by_cases c2:s.Pc=len p.Code
 ·rw[Zmm c2,Zmw]at hx;subst hx;exact Zbx hs (by omega)
 rw[Zml c2]at hx;rw[Zf]at c2;have hs1:=Zfg hs (by omega);obtain⟨g1,g2⟩:=ZdW (p:=p) (k:=s.Pc) hpc.1 (by omega);by_cases c3:stk p {s with Steps:=s.Steps+1} (insAt p s.Pc)=0
 ·rw[Zml (fun h=>h c3)]at hx;exact ZlR hp hs1 (Zfr hp g2) (by show s.Pc<_;omega) c3 x hx
 ·rw[Zmm c3,Zmw]at hx;subst hx;refine Zbx hs1 ?_;unfold stk
  repeat' split
  all_goals omega
end Go.Proofs.YtbidabmbbieeiaaGreatDoor
end
section
namespace Go.Proofs.YtbidabmbbieeiaaGreatDoor
open Go.GL
set_option linter.unusedSimpArgs false
set_option maxRecDepth 100000
variable{fuel:Nat}[FU fuel]
theorem ZfJ{w b:Int}{m:Nat}(hb:b=(m:Int))(hm:m≤100):∀(k j n:Nat),j+k=m→k<n→iterN (fun(s1:Int×(List D.Term))=>if(decide (s1.1<b))then(Z8 w 0).bind fun x2=>(app? s1.2 ([(D.Term.mk x2.Op x2.W x2.N x2.Name ([]:List D.Term))]:List D.Term)).bind fun x3=>some (.inl ((w64 (s1.1+1)),x3))else some (.inr (s1.2)):Int×List D.Term→Option ((Int×List D.Term)⊕List D.Term)) n ((j:Int),List.replicate j (kT w 0))=some (List.replicate m (kT w 0)):=by
  intro k
  induction k with
  | zero=>
    intro j n hj hn;refine Xk ?_ hn;simp only;rw[Zml (by simp;omega),show j=m by omega]
  | succ k ih=>
    intro j n hj hn;obtain⟨n,rfl⟩:∃q,n=q+1:=⟨n-1,by omega⟩;rw[←ih (j+1) n (by omega) (by omega)];refine Zaq ?_;simp only[Zi,Zmh];rw[Zmm (by simp;omega),Zay (by simp;omega)];simp only[Zmh];rw[Zn (by omega) (by omega),List.replicate_succ'];rfl
theorem Zf8{w b:Int}{m:Nat}{z:D.Term}(hw:wordB w 0=true)(hb:b=(m:Int))(hm:m≤100):∀(k j n:Nat),j+k=m→k<n→iterN (fun(s1:Int×(List D.Term))=>if(decide (s1.1<b))then(ZC w 0).bind fun x3=>(set? s1.2 s1.1 (D.Term.mk x3.Op x3.W x3.N x3.Name ([]:List D.Term))).bind fun x4=>some (.inl ((w64 (s1.1+1)),x4))else some (.inr (s1.2)):Int×List D.Term→Option ((Int×List D.Term)⊕List D.Term)) n ((j:Int),List.replicate j (kT w 0)++List.replicate k z)=some (List.replicate m (kT w 0)):=by
  intro k
  induction k with
  | zero=>
    intro j n hj hn;refine Xk ?_ hn;simp only;rw[Zml (by simp;omega),show j=m by omega];simp
  | succ k ih=>
    intro j n hj hn;obtain⟨n,rfl⟩:∃q,n=q+1:=⟨n-1,by omega⟩;rw[←ih (j+1) n (by omega) (by omega)];refine Zaq ?_;simp only[ZT hw,Zmh];rw[Zmm (by simp;omega),List.replicate_succ (n:=k),set_mid (by simp)];simp only[Zmh];rw[Zn (by omega) (by omega),List.replicate_succ' (n:=j)];simp only[Znj,Znl];rfl
def path0(p:D.Program):D.Path:=⟨0,List.replicate 4 (kT p.W 0),List.replicate p.Mem.toNat (kT p.W 0),[],0,[],0,0,[],[]⟩
theorem Zfq{p:D.Program}(hp:progB p=true):okP p (path0 p):=by
 have hm:=Yo hp;have hq:=ZcL hp;have hz:=Zl1 (Zch hp);refine⟨⟨by show(0:Int)≤0;omega,by show(0:Int)≤_;rw[Zf];omega⟩,rfl,fun x hx=>?_,by show((List.replicate p.Mem.toNat (kT p.W 0)).length:Int)=_;simp;omega,fun x hx=>?_,by show(0:Nat)≤3;omega,fun x hx=>(by cases hx),⟨by show(0:Int)≤0;omega,by show(0:Int)≤_;omega⟩,by show(0:Nat)≤6;omega,fun x hx=>(by cases hx),by show(0:Int)≤0∧(0:Int)≤9;omega,by show(0:Int)≤0∧(0:Int)≤400;omega,by show(0:Nat)≤60;omega,fun x hx=>(by cases hx),by show(0:Nat)≤60;omega⟩
 ·rw[(List.mem_replicate.1 hx).2];exact hz
 ·rw[(List.mem_replicate.1 hx).2];exact hz
theorem ZhF{p:D.Program}(hp:progB p=true)(hl:p.Code.length≤1048576):Zab fuel p=some (path0 p):=by
 have hm:=Yo hp;unfold Zab;rw[Zf4 hl,hp];simp only[Zmh,Zmp,Zmi,Zmr];have h1:=ZfJ (w:=p.W) (b:=4) (m:=4) rfl (by omega) 4 0 fuel rfl (by have:=FU.le (n:=fuel);omega);have h2:=ZfJ (w:=p.W) (b:=p.Mem) (m:=p.Mem.toNat) (by omega) (by omega) p.Mem.toNat 0 fuel (by omega) (by have:=FU.le (n:=fuel);omega);rw[show((0:Nat):Int)=0 from rfl,List.replicate_zero]at h1 h2;rw[h1];simp only[Zmh];rw[h2];rfl
theorem ZhE{p:D.Program}(hp:progB p=true):XU fuel p=some (path0 p):=by
 have hm:=Yo hp;have hz:=Zch hp;unfold XU;have m1:mk? 4 (D.Term.mk 0 0 0 ⟨[]⟩ ([]:List D.Term))=some (List.replicate 4 t0):=by
  unfold mk?;rw[Zmm ⟨by omega,by unfold room;decide⟩];rfl
 have m2:mk? p.Mem (D.Term.mk 0 0 0 ⟨[]⟩ ([]:List D.Term))=some (List.replicate p.Mem.toNat t0):=by
  unfold mk?;rw[Zmm ⟨by omega,by unfold room;omega⟩];rfl
 rw[m1,m2];simp only[Zmh];have h1:=Zf8 (z:=t0) (b:=len (List.replicate 4 t0)) (m:=4) hz (by rw[Zf];simp) (by omega) 4 0 fuel rfl (by have:=FU.le (n:=fuel);omega);have h2:=Zf8 (z:=t0) (b:=len (List.replicate p.Mem.toNat t0)) (m:=p.Mem.toNat) hz (by rw[Zf];simp) (by omega) p.Mem.toNat 0 fuel (by omega) (by have:=FU.le (n:=fuel);omega);rw[show((0:Nat):Int)=0 from rfl,List.replicate_zero,Zoi]at h1 h2;rw[h1];simp only[Zmh];rw[h2];rfl
end Go.Proofs.YtbidabmbbieeiaaGreatDoor
end
section
namespace Go.Proofs.YtbidabmbbieeiaaGreatDoor
open Go.GL
set_option linter.unusedSimpArgs false
set_option maxRecDepth 100000
theorem Zd9{l:List D.Term}{k:Int}(h:sml l)(h0:0≤k)(h1:k≤10000000000000000):∃k' r,ZN fuel0 l k=some (k',r)∧k≤k'∧k'≤k+4194304∧Zz fuel0 r k=some k':=by
 unfold sml at h;obtain⟨⟨k',r⟩,e,a,b,c⟩:=Zjb fuel0 l k h (by unfold fuel0;omega) h0 (by omega);exact⟨k',r,e,a,by simp only at b;omega,c fuel0 (by unfold fuel0;omega)⟩
def smallPS(l:List D.Path):Prop:=l.length≤1048576∧∀x∈l,smallP x
theorem Zgr{l:List D.Path}(h:smallPS l):XB fuel0 l l=some true:=by
 obtain⟨hl,hk⟩:=h;unfold XB;rw[Zml (by simp)];obtain⟨r,g1,g2⟩:=Yq (l:=l) (n:=fuel0) (σ:=Unit) (ρ:=Unit⊕Bool) (B:=fun(s1:Int)=>if(decide (s1<(len l)))then(get? l s1).bind fun x1=>(get? l s1).bind fun x2=>(Za6 fuel0 x1 x2).bind fun x3=>if(!x3)then some (.inr (.inr false))else some (.inl ((w64 (s1+1))))else some (.inr (.inl ()))) (fun k _=>(k:Int)) (fun _ _=>True) (fun r=>r= .inl ())
  (fun k x xs a hk' hx hlen _=>by
   have hd:decide ((k:Int)<len l)=true:=by rw[Zf];simp;omega
   simp only[hd,Zm0,get?_nat,hx,Zmh,ZgK (hk x (Zne hx)),Zmp,Zmi,Zmr]
   exact .inl ⟨(),by rw[Zn (by omega) (by omega)];rfl,trivial⟩)
  (fun a _=>by
   have hd:decide ((l.length:Int)<len l)=false:=by rw[Zf];simp
   simp only[hd,Zmi,Zmr]
   exact⟨_,rfl,rfl⟩) (a:=()) trivial (Za0 (fuel:=fuel0) hl)
 rw[show((0:Nat):Int)=0 from rfl]at g1;rw[g1,g2];rfl
set_option maxHeartbeats 2000000
def ElP(q:Int)(x:D.Path)(q':Int):Prop:=0≤q∧q≤10000000000000000∧x.Pc=q∧∃k1 k2 k4 k5,Zz fuel0 x.Regs (q+1)=some k1∧0≤k1∧Zz fuel0 x.Mem k1=some k2∧0≤k2∧Yr fuel0 x.Stack k2=some x.In∧0≤x.In∧x.In≤10000000000000000∧
 Zz fuel0 x.Out (x.In+1)=some k4∧0≤k4∧k4≤10000000000000000∧x.Code=k4∧x.Steps=k4+1∧Zz fuel0 x.Cond (k4+1+1)=some k5∧0≤k5∧Yr fuel0 x.Turns k5=some q'∧0≤q'
theorem ZlB{q k1 k2 k3 k4 k5 q':Int}{r1 r2 r4 r5:List D.Term}{st tn:List Int}(h0:0≤q)(h1:q≤10000000000000000)(e1:Zz fuel0 r1 (q+1)=some k1)(c1:0≤k1)(e2:Zz fuel0 r2 k1=some k2)(c2:0≤k2)(e3:Yr fuel0 st k2=some k3)(c3:0≤k3∧k3≤10000000000000000)
  (e4:Zz fuel0 r4 (k3+1)=some k4)(c4:0≤k4∧k4≤10000000000000000)(e5:Zz fuel0 r5 (k4+1+1)=some k5)(c5:0≤k5)(e6:Yr fuel0 tn k5=some q')(c6:0≤q'):ElP q (D.Path.mk q r1 r2 st k3 r4 k4 (k4+1) r5 tn) q':=
 ⟨h0,h1,rfl,k1,k2,k4,k5,e1,c1,e2,c2,e3,c3.1,c3.2,e4,c4.1,c4.2,rfl,rfl,e5,c5,e6,c6⟩
def ChP:Int→List D.Path→Int→Prop
 |q,[],e=>q=e
 |q,x::l,e=>∃q',ElP q x q'∧ChP q' l e
theorem ChP.snoc{x:D.Path}{e e':Int}(h':ElP e x e'):∀{l:List D.Path}{q:Int},ChP q l e→ChP q (l++[x]) e'
 |[],q,h=>by cases h;exact⟨e',h',rfl⟩
 |y::l,q,⟨q',h1,h2⟩=>⟨q',h1,h2.snoc h'⟩
theorem ZjT {l:List D.Path}{k e:Int}(h:ChP k l e)(hl:l.length≤1048576):Xh fuel0 l k=some e:=by
  unfold Xh;obtain⟨r,g1,g2⟩:=Yq (l:=l) (n:=fuel0) (σ:=Int) (ρ:=Int⊕Int) (B:=fun(s1:Int×Int)=>if (decide (s1.2<(len l)))then(get? l s1.2).bind fun x1=>if(x1.Pc !=s1.1)then some (.inr (.inr (-1)))else(get? l s1.2).bind fun x2=>(Zz fuel0 x2.Regs (w64 (s1.1+1))).bind fun x3=>if(decide (x3<0))then some (.inr (.inr (-1)))else(get? l s1.2).bind fun x4=>(Zz fuel0 x4.Mem x3).bind fun x5=>if(decide (x5<0))then some (.inr (.inr (-1)))else(get? l s1.2).bind fun x6=>(Yr fuel0 x6.Stack x5).bind fun x7=>if(decide (x7<0))then some (.inr (.inr (-1)))else(get? l s1.2).bind fun x8=>if(x8.In !=x7)then some (.inr (.inr (-1)))else(get? l s1.2).bind fun x9=>(Zz fuel0 x9.Out (w64 (x7+1))).bind fun x10=>if(decide (x10<0))then some (.inr (.inr (-1)))else(get? l s1.2).bind fun x11=>if(x11.Code !=x10)then some (.inr (.inr (-1)))else(get? l s1.2).bind fun x12=>if(x12.Steps !=(w64 (x10+1)))then some (.inr (.inr (-1)))else(get? l s1.2).bind fun x13=>(Zz fuel0 x13.Cond (w64 ((w64 (x10+1))+1))).bind fun x14=>if(decide (x14<0))then some (.inr (.inr (-1)))else(get? l s1.2).bind fun x15=>(Yr fuel0 x15.Turns x14).bind fun x16=>if(decide (x16<0))then some (.inr (.inr (-1)))else some (.inl (x16,(w64 (s1.2+1))))else some (.inr (.inl (s1.1)))) (fun j a=>(a,(j:Int))) (fun ys a=>ChP a ys e) (fun r=>r= .inl e)
    (fun j x xs a hj hx hlen hch=>by
      obtain⟨q',⟨q0,q1,h1,k1,k2,k4,k5,e1,c1,e2,c2,e3,c3,c3',e4,c4,c4',h5,h6,e5,c5,e6,c6⟩,hc⟩:=hch;have hd:decide ((j:Int)<len l)=true:=by rw[Zf];simp;omega
      have n1:¬k1<0:=by omega
      have n2:¬k2<0:=by omega
      have n3:¬x.In<0:=by omega
      have n4:¬k4<0:=by omega
      have n5:¬k5<0:=by omega
      have n6:¬q'<0:=by omega
      simp only[hd,Zm0,get?_nat,hx,Zmh];rw[Zn (x:=a+1) (by omega) (by omega)];simp only[h1,e1,e2,e3,Zmh,bne_self_eq_false,Zmi,Zmr,n1,n2,n3,decide_false];rw[Zn (x:=x.In+1) (by omega) (by omega)];simp only[e4,Zmh];rw[Zn (x:=k4+1) (by omega) (by omega),Zn (x:=k4+1+1) (by omega) (by omega)];simp only[h5,h6,e5,e6,Zmh,bne_self_eq_false,Zmi,Zmr,n4,n5,n6,decide_false]
      exact .inl ⟨q',by rw[Zn (by omega) (by omega)];rfl,hc⟩)
    (fun a hch=>by
      have hd:decide ((l.length:Int)<len l)=false:=by rw[Zf];simp
      simp only[hd,Zmi,Zmr]
      exact⟨_,rfl,by rw[show a=e from hch]⟩) (a:=k) h (Za0 (fuel:=fuel0) hl)
  rw[show((0:Nat):Int)=0 from rfl]at g1;rw[g1,g2];rfl
theorem ZgV{l:List D.Path}{k:Int}(hl:l.length≤1000000)(hk:∀x∈l,smallP x)(h0:0≤k)(h1:k≤10000000000):∃k' r,Zah fuel0 l k=some (k',r)∧0≤k'∧Xh fuel0 r k=some k':=by
 unfold Zah;obtain⟨r,g1,g2,g3,g4⟩:=Yq (l:=l) (n:=fuel0) (σ:=Int×List D.Path) (ρ:=Int×List D.Path) (B:=fun(s1:Int×Int×(List D.Path))=>if(decide (s1.2.1<(len l)))then(get? s1.2.2 s1.2.1).bind fun x1=>(ZN fuel0 x1.Regs (w64 (s1.1+1))).bind fun x2=>(ZN fuel0 x1.Mem x2.1).bind fun x3=>(YY fuel0 x1.Stack x3.1).bind fun x4=>(ZN fuel0 x1.Out (w64 (x4.1+1))).bind fun x5=>(ZN fuel0 x1.Cond (w64 ((w64 (x5.1+1))+1))).bind fun x6=>(YY fuel0 x1.Turns x6.1).bind fun x7=>(set? s1.2.2 s1.2.1 (D.Path.mk s1.1 x2.2 x3.2 x4.2 x4.1 x5.2 x5.1 (w64 (x5.1+1)) x6.2 x7.2)).bind fun x8=>some (.inl (x7.1,(w64 (s1.2.1+1)),x8))else some (.inr (s1.1,s1.2.2))) (fun j a=>(a.1,(j:Int),a.2)) (fun ys a=>(∃pre,a.2=pre++ys∧pre.length+ys.length=l.length∧ChP k pre a.1)∧(∀x∈ys,smallP x)∧k≤a.1∧a.1+40000000*(ys.length:Int)≤k+40000000*(l.length:Int))
   (fun r=>0≤r.1∧ChP k r.2 r.1∧r.2.length=l.length)
   (fun j x xs a hj hx hlen⟨⟨pre,i1,i2,i6⟩,i3,i4,i5⟩=>by
    obtain⟨q,z⟩:=a;simp only at i1 i4 i5 i6⊢;simp only[Zm5]at i2 i5 hlen;have hp:pre.length=j:=by omega
    have hd:decide ((j:Int)<len l)=true:=by rw[Zf];simp;omega
    have hg:z[j]? =some x:=by rw[i1,Zm6 (by omega),hp,Znt];rfl
    obtain⟨s1,s2,s3,s4,s5,s6⟩:=i3 x (by simp);have hb:q≤50000000000000:=by omega
    obtain⟨k1,r1,e1,a1,b1,d1⟩:=Zd9 (k:=q+1) s1 (by omega) (by omega);obtain⟨k2,r2,e2,a2,b2,d2⟩:=Zd9 (k:=k1) s2 (by omega) (by omega);have e3:=Zeh (fuel:=fuel0) (p:=x.Stack) (k:=k2) (by omega) (by omega) s3;have d3:=Zeb (fuel:=fuel0) (L:=x.Stack.length) (k:=k2) (by omega) (by omega) s3;obtain⟨k4,r4,e4,a4,b4,d4⟩:=Zd9 (k:=k2+x.Stack.length+1) s4 (by omega) (by omega);obtain⟨k5,r5,e5,a5,b5,d5⟩:=Zd9 (k:=k4+1+1) s5 (by omega) (by omega);have e6:=Zeh (fuel:=fuel0) (p:=x.Turns) (k:=k5) (by omega) (by omega) s6;have d6:=Zeb (fuel:=fuel0) (L:=x.Turns.length) (k:=k5) (by omega) (by omega) s6;simp only[hd,Zm0,get?_nat,hg,Zmh];rw[Zn (x:=q+1) (by omega) (by omega),e1];simp only[Zmh,e2,e3];rw[Zn (x:=k2+(x.Stack.length:Int)+1) (by omega) (by omega),e4];simp only[Zmh];rw[Zn (x:=k4+1) (by omega) (by omega),Zn (x:=k4+1+1) (by omega) (by omega),e5];simp only[Zmh,e6];rw[set?_nat (by rw[i1];simp;omega)];refine .inl ⟨(k5+x.Turns.length,z.set j _),by simp only[Zmh];rw[Zn (by omega) (by omega)];rfl,⟨pre++[D.Path.mk q r1 r2 (upI k2 x.Stack.length) (k2+x.Stack.length) r4 k4 (k4+1) r5 (upI k5 x.Turns.length)],?_,by simp;omega,?_⟩,fun y hy=>i3 y (by simp[hy]),by show k≤k5+_;omega,by show k5+_+_≤_;omega⟩
    ·show z.set j _=_;rw[i1,Zn6 _ _ (by omega),hp,Znt];simp
    ·exact ChP.snoc (ZlB (by omega) (by omega) d1 (by omega) d2 (by omega) d3 (by omega) d4 (by omega) d5 (by omega) d6 (by omega)) i6)
   (fun a⟨⟨pre,j1,j2,j3⟩,_,i4,i5⟩=>by
    have hd:decide ((l.length:Int)<len l)=false:=by rw[Zf];simp
    simp only[hd,Zmi,Zmr];rw[Zn3]at j1
    exact⟨_,rfl,by show 0≤a.1;omega,by show ChP k a.2 a.1;rw[j1];exact j3,by show a.2.length=_;rw[j1];simpa using j2⟩) (a:=(k,l)) ⟨⟨[],rfl,by simp,rfl⟩,hk,by show k≤k;omega,by show k+_≤_;omega⟩ (Za0 (fuel:=fuel0) (by omega))
 rw[show((0:Nat):Int)=0 from rfl]at g1;rw[g1];exact⟨_,_,rfl,g2,ZjT g3 (by omega)⟩
theorem ZiD{l:List D.Path}(hl:l.length≤1048576)(hk:∀x∈l,fineP x):XW fuel0 l=some l:=by
 unfold XW;rw[Zf,show(l.length:Int)=len l from(Zf l).symm,mk?_len (by unfold room;omega)];simp only[Zmh];obtain⟨r,g1,g2⟩:=Yq (l:=l) (n:=fuel0) (σ:=List D.Path) (ρ:=List D.Path) (B:=fun(s1:Int×(List D.Path))=>if(decide (s1.1<(len l)))then(get? l s1.1).bind fun x2=>(XL fuel0 x2).bind fun x3=>(set? s1.2 s1.1 x3).bind fun x4=>some (.inl ((w64 (s1.1+1)),x4))else some (.inr (s1.2))) (fun k(a:List D.Path)=>((k:Int),a)) (fun ys a=>∃pre zs,pre++ys=l∧a=pre++zs∧zs.length=ys.length) (fun r=>r=l)
  (fun k x xs a hk' hx hlen⟨pre,zs,i1,i2,i3⟩=>by
   have hd:decide ((k:Int)<len l)=true:=by rw[Zf];simp;omega
   have hp:pre.length=k:=by
    have:=congrArg List.length i1;simp at this hlen;omega
   simp only[hd,Zm0,get?_nat,hx,Zmh,Zjx (hk x (Zne hx))];obtain⟨z,zs,rfl⟩:∃z zs',zs=z::zs':=by cases zs with|nil=>simp at i3|cons z zs=>exact⟨_,_,rfl⟩
   rw[set?_nat (by rw[i2];simp;omega)];refine .inl ⟨a.set k x,by simp only[Zmh];rw[Zn (by omega) (by omega)];rfl,pre++[x],zs,by rw[Znj];exact i1,?_,by simpa using i3⟩
   rw[i2,Zn6 _ _ (by omega),hp,Znt];simp)
  (fun a⟨pre,zs,i1,i2,i3⟩=>by
   have hd:decide ((l.length:Int)<len l)=false:=by rw[Zf];simp
   simp only[hd,Zmi,Zmr];simp at i3;subst i3;rw[Zn3]at i1 i2
   exact⟨_,rfl,by rw[i2,i1]⟩) (a:=List.replicate l.length _) ⟨[],_,rfl,by simp;rfl,by simp⟩ (Za0 (fuel:=fuel0) hl)
 rw[show((0:Nat):Int)=0 from rfl]at g1;rw[g1,g2];rfl
theorem Zis{α β:Type}{o:Option α}{K:α→Option β}{R:α→Prop}{X:Option β}(h:∃r,o=some r∧R r)(k:∀r,R r→K r=X):o.bind K=X:=by
 obtain⟨r,rfl,hr⟩:=h;exact k r hr
noncomputable def goX(p:D.Program)(most:Int):Nat→D.Path→List D.Path→List D.Path×Bool
 |0,s,e=>(e++[s],decide (len (e++[s])≤most))
 |k+1,s,e=>if(stp1 p s).isEmpty=true then(e++[s],decide (len (e++[s])≤most))else(stp1 p s).foldl (fun a t=>if a.2=true then goX p most k t a.1 else a) (e,true)
theorem ZgF{α β:Type}{f:β→α→β}{Q:β→Prop}:∀(l:List α)(b:β),Q b→(∀b x,x∈l→Q b→Q (f b x))→Q (l.foldl f b)
 |[],_,h,_=>h
 |x::l,b,h,hf=>ZgF l (f b x) (hf b x (by simp) h) fun b y hy=>hf b y (by simp[hy])
theorem Zia{p:D.Program}{most:Int}{k:Nat}:∀(l:List D.Path)(a:List D.Path),l.foldl (fun a t=>if a.2=true then goX p most k t a.1 else a) (a,false)=(a,false)
 |[],_=>rfl
 |_::l,a=>by rw[ZnL];simpa using Zia l a
def EndsP(p:D.Program)(most:Int)(a:List D.Path×Bool):Prop:=(∀x∈a.1,okP p x)∧a.1.length≤65∧(a.2=true→(a.1.length:Int)≤most)
theorem fin_ends{p:D.Program}{most:Int}(hm:most≤64){s:D.Path}{e:List D.Path}(hs:okP p s)(he:EndsP p most (e,true)):EndsP p most (e++[s],decide (len (e++[s])≤most)):=by
 obtain⟨h1,h2,h3⟩:=he;have h4:=h3 rfl;simp only at h1 h2 h4;refine⟨fun x hx=>?_,by simp;omega,fun h=>?_⟩
 ·rcases ZmD.1 hx with hx|hx
  ·exact h1 x hx
  ·rw[Zmw.1 hx];exact hs
 ·have:=of_decide_eq_true h;rw[Zf]at this;exact this
theorem Zew{p:D.Program}{most:Int}(hp:progB p=true)(hm:most≤64):∀(k:Nat)(s:D.Path)(e:List D.Path),okP p s→EndsP p most (e,true)→EndsP p most (goX p most k s e)
 |0,s,e,hs,he=>by rw[goX];exact fin_ends hm hs he
 | k+1,s,e,hs,he=>by
  rw[goX];split
  ·exact fin_ends hm hs he
  ·refine ZgF _ _ he fun a t ht ha=> ?_;obtain⟨a,b⟩:=a;cases b
   ·exact ha
   ·exact Zew hp hm k t a (Zhk hp hs t ht) ha
def okS(n:Int)(z:D.Path×Bool):Prop:=z.1.Code≠2∧z.1.Steps=n
theorem ZkJ{p:D.Program}{s:D.Path}{i:D.Ins}(h:s.Code=0):okS s.Steps (flw p s i):=by
 have h2:s.Code≠2:=by omega
 unfold flw;by_cases c1:i.Op=1
 ·rw[Zmm c1];exact⟨h2,rfl⟩
 rw[Zml c1];by_cases c2:i.Op=2
 ·rw[Zmm c2];exact⟨h2,rfl⟩
 rw[Zml c2];by_cases c3:i.Op=3
 ·rw[Zmm c3];exact⟨h2,rfl⟩
 rw[Zml c3];by_cases c4:i.Op=4
 ·rw[Zmm c4];exact⟨h2,rfl⟩
 rw[Zml c4];by_cases c5:i.Op=5
 ·rw[Zmm c5];exact⟨h2,rfl⟩
 rw[Zml c5];by_cases c6:i.Op=6
 ·rw[Zmm c6];exact⟨h2,rfl⟩
 rw[Zml c6];by_cases c7:i.Op=7
 ·rw[Zmm c7];exact⟨h2,rfl⟩
 rw[Zml c7];by_cases c8:i.Op=8
 ·rw[Zmm c8];exact⟨h2,rfl⟩
 rw[Zml c8]
 repeat' split
 all_goals first|exact⟨h2,rfl⟩|exact⟨by simp,rfl⟩
theorem ZiN{p:D.Program}{s t:D.Path}(h:t∈stp1 p s):(t.Code=2∧t.Steps=s.Steps)∨(t.Code≠2∧t.Steps=s.Steps+1):=by
 unfold stp1 at h;split at h
 ·cases h
 rename_i c0;have hc:s.Code=0:=by omega
 split at h
 ·rw[Zmw.1 h];exact .inl ⟨rfl,rfl⟩
 split at h
 ·rw[Zmw.1 h];refine .inr ⟨?_,rfl⟩;show stk p {s with Steps:=s.Steps+1} (insAt p s.Pc)≠2;unfold stk
  repeat' split
  all_goals decide
 have hn:(nmd {s with Steps:=s.Steps+1} (insAt p s.Pc)).Code≠2∧(nmd {s with Steps:=s.Steps+1} (insAt p s.Pc)).Steps=s.Steps+1:=by
  unfold nmd
  repeat' split
  all_goals first|exact⟨by show s.Code≠2;omega,rfl⟩|exact⟨by simp,rfl⟩
 have hf:(flw p {s with Steps:=s.Steps+1} (insAt p s.Pc)).1.Code≠2∧(flw p {s with Steps:=s.Steps+1} (insAt p s.Pc)).1.Steps=s.Steps+1:=by
  exact ZkJ (s:={s with Steps:=s.Steps+1}) hc
 right;unfold dvd at h;split at h
 ·rw[Zmw.1 h];exact⟨by simp,rfl⟩
 split at h
 ·rw[Zmw.1 h];exact hn
 split at h
 ·rw[Zmw.1 h];exact⟨by simp,rfl⟩
 split at h
 ·rw[Zmw.1 h];exact hf
 split at h
 ·rw[Zmw.1 h];exact⟨by simp,rfl⟩
 ·rcases ZmZ.1 h with rfl|h
  ·exact hn
  ·rw[Zmw.1 h];exact hf
theorem took{p:D.Program}{s t:D.Path}(hs:okP p s)(h:t∈stp1 p s):Xl s t=some 1:=by
 have hst:=hs.st;unfold Xl;rcases ZiN h with⟨h1,h2⟩|⟨h1,h2⟩
 ·rw[h1,h2,Zn (x:=s.Steps-s.Steps) (by omega) (by omega),Zn (by omega) (by omega)];simp
 ·rw[h2,show(t.Code==2)=false by simpa using h1,Zn (x:=s.Steps+1-s.Steps) (by omega) (by omega)];simp;omega
theorem ZhP{e:List D.Path}{s:D.Path}(h:e.length≤65):app? e ([s]:List D.Path)=some (e++[s]):=by
 unfold app? room;rw[Zmm (by simp;omega)]
theorem ZhM{p:D.Program}{most:Int}(hp:progB p=true)(h64:most≤64):∀(k:Nat)(s:D.Path)(e:List D.Path)(n:Nat),okP p s→EndsP p most (e,true)→4194400+k<n→k≤400→
  Yk n ⟨p,most,-1,e⟩ s (k:Int)=some ((goX p most k s e).2,⟨p,most,-1,(goX p most k s e).1⟩)
 |0,s,e,n,hs,he,hn,_=>by
  obtain⟨n,rfl⟩:∃m,n=m+1:=⟨n-1,by omega⟩;rw[Yk,goX,Zml (by simp)];simp only[Zmh];rw[Zmm (by simp[len]),ZhP he.2.1];rfl
 | k+1,s,e,n,hs,he,hn,hk=>by
  obtain⟨n,rfl⟩:∃m,n=m+1:=⟨n-1,by omega⟩
  haveI:FU n:=⟨by omega⟩
  rw[Yk,goX,Zmm (by simp)];simp only;rw[ZiQ hp hs];simp only[Zmh];have hl:=Zie p s;by_cases c:(stp1 p s).isEmpty=true
  ·rw[Zmm c];have hnil:=Zno.1 c;rw[hnil,Zmm (by simp[len]),ZhP he.2.1];rfl
  rw[Zml c];have hne:¬(len (stp1 p s)==0)=true:=by
   rw[Zf];intro h;have:(stp1 p s).length=0:=by simpa using h
   exact c (Zno.2 (ZmH.1 this))
  rw[Zml hne];have hall:∀t∈stp1 p s,okP p t:=Zhk hp hs;have ih:=ZhM hp h64 k;have hw:w64 (((k+1:Nat):Int)-1)=(k:Int):=by rw[Zn (by omega) (by omega)];omega
  rw[hw];generalize stp1 p s=l at hl hall hne c⊢;refine Zis (R:=fun r=>r=(match l.foldl (fun a t=>if a.2=true then goX p most k t a.1 else a) (e,true)with|(e',true)=>.inl (most,-1,e')|(e',false)=>.inr (false,⟨p,most,-1,e'⟩)))
   (Yq (l:=l) (fun j(a:List D.Path)=>((j:Int),most,-1,a)) (fun ys a=>(∃pre,pre++ys=l)∧EndsP p most (a,true)∧l.foldl (fun a t=>if a.2=true then goX p most k t a.1 else a) (e,true)=ys.foldl (fun a t=>if a.2=true then goX p most k t a.1 else a) (a,true)) _ (fun j x xs a hj hx hlen⟨⟨pre,hpre⟩,ha,hf⟩=>?_) (fun a⟨_,ha,hf⟩=>?_) ⟨⟨[],rfl⟩,he,rfl⟩ (by omega)) fun r hr=>?_
  ·have hxl:x∈l:=by rw[←hpre];simp
   have hg:=Zew hp h64 k x a (hall x hxl) ha;rw[Zmm (by rw[Zf];simp;omega),get?_nat,hx];simp only[Zmh];rw[Zml (by simp),ih x a n (hall x hxl) ha (by omega) (by omega)];simp only[Zmh];rw[ZnL]at hf;simp only[Zm0]at hf;cases hb:(goX p most k x a).2
   ·right;rw[hf];have e1:goX p most k x a=((goX p most k x a).1,false):=by rw[←hb]
    have e2:=Zia (p:=p) (most:=most) (k:=k) xs (goX p most k x a).1;rw[e1,e2];exact⟨_,rfl,rfl⟩
   ·left;refine⟨(goX p most k x a).1,?_,⟨pre++[x],by rw[←hpre];simp⟩,?_,?_⟩
    ·rw[Zml (by simp),Zn (by omega) (by omega)];rfl
    ·rw[←hb];exact hg
    ·rw[hf,show((goX p most k x a).1,true)=goX p most k x a by rw[←hb]]
  ·rw[Zml (by rw[Zf];simp)];rw[List.foldl_nil]at hf;rw[hf];exact⟨_,rfl,rfl⟩
  ·rw[hr];generalize l.foldl (fun a t=>if a.2=true then goX p most k t a.1 else a) (e,true)=z;obtain⟨z,b⟩:=z;cases b<;>rfl
theorem Ziq{p:D.Program}{most:Int}(hp:progB p=true)(h64:most≤64):∀(k:Nat)(s:D.Path)(e:List D.Path)(n:Nat),okP p s→EndsP p most (e,true)→4194400+k<n→k≤400→
  Zx n ⟨most,e,false,(),()⟩ s (k:Int) p=some ⟨most,(goX p most k s e).1,!(goX p most k s e).2,(),()⟩
 |0,s,e,n,hs,he,hn,_=>by
  obtain⟨n,rfl⟩:∃m,n=m+1:=⟨n-1,by omega⟩;rw[Zx,goX,Zml (by simp),Zml (by simp),ZhP he.2.1];simp only[Zmh];by_cases c:len (e++[s])≤most
  ·rw[Zml (by simpa using c),decide_eq_true c];rfl
  ·rw[Zmm (by simpa using c),decide_eq_false c];rfl
 | k+1,s,e,n,hs,he,hn,hk=>by
  obtain⟨n,rfl⟩:∃m,n=m+1:=⟨n-1,by omega⟩
  haveI:FU n:=⟨by omega⟩
  rw[Zx,goX,Zml (by simp),Zmm (by simp)];unfold ZaE ZaL;rw[Ziy hp hs];simp only[Zmh];rw[Zml (by simp)];have hl:=Zie p s;by_cases c:(stp1 p s).isEmpty=true
  ·have hnil:=Zno.1 c;rw[Zmm c,hnil,Zml (by simp[len]),ZhP he.2.1];simp only[Zmh];by_cases c:len (e++[s])≤most
   ·rw[Zml (by simpa using c),decide_eq_true c];rfl
   ·rw[Zmm (by simpa using c),decide_eq_false c];rfl
  rw[Zml c];have hne:decide (len (stp1 p s)>0)=true:=by
   rw[Zf];refine decide_eq_true ?_;have:(stp1 p s).length≠0:=fun h=>c (Zno.2 (ZmH.1 h));omega
  rw[Zmm hne];have hall:∀t∈stp1 p s,okP p t:=Zhk hp hs;have htk:∀t∈stp1 p s,Xl s t=some 1:=fun t ht=>took hs ht;have ih:=Ziq hp h64 k;have hw:w64 (((k+1:Nat):Int)-1)=(k:Int):=by rw[Zn (by omega) (by omega)];omega
  generalize stp1 p s=l at hl hall htk hne c⊢;refine Zis (R:=fun r=>r=(most,!(l.foldl (fun a t=>if a.2=true then goX p most k t a.1 else a) (e,true)).2,(l.foldl (fun a t=>if a.2=true then goX p most k t a.1 else a) (e,true)).1))
   (Yq (l:=l) (fun j(a:List D.Path×Bool)=>((j:Int),most,!a.2,a.1)) (fun ys a=>(∃pre,pre++ys=l)∧EndsP p most a∧l.foldl (fun a t=>if a.2=true then goX p most k t a.1 else a) (e,true)=ys.foldl (fun a t=>if a.2=true then goX p most k t a.1 else a) a) _ (a:=(e,true)) (fun j x xs a hj hx hlen⟨⟨pre,hpre⟩,ha,hf⟩=>?_) (fun a⟨_,ha,hf⟩=>?_) ⟨⟨[],rfl⟩,he,rfl⟩ (by omega)) fun r hr=>?_
  ·have hxl:x∈l:=by rw[←hpre];simp
   obtain⟨a,b⟩:=a;rw[Zmm (by rw[Zf];simp;omega),get?_nat,hx];simp only[Zmh,htk x hxl,hw];rw[ZnL]at hf;have hw2:w64 ((j:Int)+1)=((j+1:Nat):Int):=by rw[Zn (by omega) (by omega)];rfl
   left;cases b
   ·obtain⟨m,rfl⟩:∃m,n=m+1:=⟨n-1,by omega⟩;refine⟨(a,false),?_,⟨pre++[x],by rw[←hpre];simp⟩,ha,hf⟩;simp only[ZmO];rw[Zx];simp only[Zm0,Zmh,hw2]
   ·have hg:=Zew hp h64 k x a (hall x hxl) ha;refine⟨goX p most k x a,?_,⟨pre++[x],by rw[←hpre];simp⟩,hg,hf⟩;have:=ih x a n (hall x hxl) ha (by omega) (by omega);simp only[Zmp];rw[this];simp only[Zmh,hw2]
  ·rw[Zml (by rw[Zf];simp)];rw[List.foldl_nil]at hf;rw[hf];exact⟨_,rfl,rfl⟩
  ·rw[hr]
noncomputable def expX(p:D.Program)(f most:Int):List D.Path×Bool:=
 if progB p=true∧(0≤f∧f≤400)∧1≤most∧most≤64 then(if(goX p most f.toNat (path0 p) []).2=true then((goX p most f.toNat (path0 p) []).1,true)else([],false))else([],false)
theorem Zea{p:D.Program}{f most:Int}(h:¬(progB p=true∧(0≤f∧f≤400)∧1≤most∧most≤64)):expX p f most=([],false):=by unfold expX;rw[Zml h]
theorem ZhB{p:D.Program}{f most:Int}(h:progB p=true∧(0≤f∧f≤400)∧1≤most∧most≤64):expX p f most=if(goX p most f.toNat (path0 p) []).2=true then((goX p most f.toNat (path0 p) []).1,true)else([],false):=by unfold expX;rw[Zmm h]
theorem ends0{p:D.Program}{most:Int}(h:1≤most):EndsP p most ([],true):=⟨fun x hx=>(by cases hx),by simp,fun _=>by simp;omega⟩
theorem Zg9(p:D.Program)(f most:Int):(∀x∈(expX p f most).1,fineP x)∧(expX p f most).1.length≤65:=by
 unfold expX;by_cases c:progB p=true∧(0≤f∧f≤400)∧1≤most∧most≤64
 ·rw[Zmm c];have:=Zew c.1 c.2.2.2 f.toNat (path0 p) [] (Zfq c.1) (ends0 c.2.2.1);split
  ·exact⟨fun x hx=>(this.1 x hx).fine c.1,this.2.1⟩
  ·exact⟨fun x hx=>(by cases hx),by simp⟩
 ·rw[Zml c];exact⟨fun x hx=>(by cases hx),by simp⟩
end Go.Proofs.YtbidabmbbieeiaaGreatDoor
end
