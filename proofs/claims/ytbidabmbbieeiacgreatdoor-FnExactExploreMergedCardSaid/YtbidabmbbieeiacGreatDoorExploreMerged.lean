/- The plain law of this claim: ExploreMerged. No program in sight. -/
import Derived.Test.YtbidabmbbieeiacGreatDoorPLib3
import Derived.Test.YtbidabmbbieeiacGreatDoorPLib2
namespace Go.Proofs.YtbidabmbbieeiacGreatDoor
open Go.GL
set_option linter.unusedSimpArgs false
set_option maxRecDepth 100000
theorem ZlA{e o:List D.Path}(h:e.length≤500)(h2:o.length≤500):app? e o=some (e++o):=by
 unfold app? room;rw[ZoD (by omega)]
theorem Zk7{l:List D.Path}(hl:l.length≤1000)(hk:∀x∈l,fineP x):Zae fuel l=some l:=by
  unfold Zae;have:∃r,iterN (fun(s1:Int×(List D.Path))=>if(decide (s1.1<(len l)))then(get? l s1.1).bind fun x1=>(ZV fuel x1).bind fun x2=>(app? s1.2 ([x2]:List D.Path)).bind fun x3=>some (.inl ((w64 (s1.1+1)),x3))else some (.inr (s1.2))) fuel (0,([]:List D.Path))=some r∧r=l:=ZT (l:=l) (fun j(a:List D.Path)=>((j:Int),a)) (fun ys a=>a++ys=l) (fun r=>r=l)
    (fun j x xs a hj hx hlen ha=>by
      have hxl:x∈l:=by rw[←ha];simp
      have hal:a.length≤l.length:=by rw[←ha];simp
      rw[ZoD (by rw[Zb];simp;omega),get?_nat,hx];simp only[Zo8,Za5 (hk x hxl)];refine .inl ⟨a++[x],?_,by rw[←ha];simp⟩
      rw[ZgB (by omega),Zm (by omega) (by omega)];rfl)
    (fun a ha=>by
      rw[ZoC (by rw[Zb];simp)]
      exact⟨_,rfl,by simpa using ha⟩) (a:=[]) rfl (Yb (by omega))
  obtain⟨r,h1,rfl⟩:=this;rw[h1];rfl
theorem ZlM{p:D.Program}{f most:Int}(hl:p.Code.length≤1048576):Xn fuel p f most=some (mrgX p f most):=by
 have hx:=Zgx p f most;unfold Xn;rw[ZeT hl,Zk,Zk];simp only[Zo8];by_cases c1:progB p=true;rotate_left
 ·rw[ZeS (fun h=>c1 h.1),show progB p=false by simpa using c1];rfl
 rw[c1];simp only[ZoF,Zo9,ZoG,Zo8,ZoW];by_cases c2:0≤f∧f≤400;rotate_left
 ·rw[ZeS (fun h=>c2 h.2.1),decide_eq_false c2];rfl
 rw[decide_eq_true c2];simp only[ZoF,Zo9,ZoG,Zo8,ZoW];by_cases c3:1≤most∧most≤64;rotate_left
 ·rw[ZeS (fun h=>c3 h.2.2),decide_eq_false c3];rfl
 rw[Zh2 ⟨c1,c2,c3⟩]at hx;rw[decide_eq_true c3,Zh2 ⟨c1,c2,c3⟩,Zjs c1 hl];simp only[ZoF,Zo9,ZoG,Zo8];obtain⟨r,g1,g2⟩:=Zif c1 hl c2 (d:=f.toNat) (by omega) (rdI0 c1 f.toNat);rw[show encR f f.toNat ([path0 p],[])=(0,[path0 p],[]) by unfold encR;rw[show f-((f.toNat:Nat):Int)=0 by omega]]at g1;rw[g1,g2];simp only[Zo8];cases h:rdX p f.toNat [path0 p] []with
 |none=>rfl
 | some q=>
  obtain⟨h1,h2,h3⟩:=all_good c1 h;rw[h]at hx;simp only[outR]at hx⊢;rw[ZlA (by omega) (by omega)];simp only[Zo8];generalize q.2++q.1=z at h1 hx⊢;by_cases c4:z.length>64
  ·rw[ZoD (by rw[Zb];simp;omega),ZoD c4]
  rw[ZoC (by rw[Zb];simp;omega),ZoC c4];rw[ZoC c4]at hx;refine Zf8 (R:=fun r=>r=mrX p z) (ZT (l:=z) (fun j(a:List D.Path)=>((j:Int),a)) (MrI p z) _ (fun j x xs a hj hx hlen hI=>?_) (fun a hI=>?_) (a:=[]) ⟨⟨[],rfl⟩,fun x hx=>(by cases hx),by simp;omega,rfl⟩ (Yb (by omega))) fun r hr=>?_
  ·obtain⟨hgx,hI2,hal⟩:=hI.step h1;left;refine⟨_,?_,hI2⟩;obtain⟨r,q1,q2⟩:=Zjp c1 hl hgx hI.good (by omega);rw[ZoD (by rw[Zb];simp;omega),get?_nat,hx];simp only[Zo8];rw[q1];simp only[Zo8];rw[ZjT (by omega) q2,Zm (by omega) (by omega)];rfl
  ·rw[ZoC (by rw[Zb];simp)];exact⟨_,rfl,hI.eq⟩
  ·rw[hr];by_cases c5:((mrX p z).length:Int)>most
   ·rw[ZoD (by rw[Zb];simpa using c5),ZoD c5]
   ·rw[ZoC c5]at hx;rw[ZoC (by rw[Zb];simpa using c5),ZoC c5,Zk7 (by have:=hx.2;simp only at this;omega) hx.1];rfl
theorem Zlv{p:D.Program}{f most:Int}(hl:p.Code.length≤1048576):YR fuel p f most=some (mrgX p f most):=by
 have hx:=Zgx p f most;unfold YR XZ Za0 Zc0;rw[ZgQ hl];simp only[Zo8];by_cases c1:progB p=true;rotate_left
 ·rw[ZeS (fun h=>c1 h.1),show progB p=false by simpa using c1];rfl
 rw[c1];simp only[ZoF,Zo9,ZoG,Zo8,ZoW];by_cases c2:0≤f∧f≤400;rotate_left
 ·rw[ZeS (fun h=>c2 h.2.1),show(decide (f≥0)&&decide (f≤400))=false by simp;omega];rfl
 rw[show(decide (f≥0)&&decide (f≤400))=true by simp;omega];simp only[ZoF,Zo9,ZoG,Zo8,ZoW];by_cases c3:1≤most∧most≤64;rotate_left
 ·rw[ZeS (fun h=>c3 h.2.2),show(decide (most≥1)&&decide (most≤64))=false by simp;omega];rfl
 rw[Zh2 ⟨c1,c2,c3⟩]at hx;rw[show(decide (most≥1)&&decide (most≤64))=true by simp;omega,Zh2 ⟨c1,c2,c3⟩,ZiX c1];simp only[ZoF,Zo9,ZoG,Zo8];obtain⟨r,g1,g2⟩:=ZhX c1 hl c2 (d:=f.toNat) (by omega) (rdI0 c1 f.toNat);rw[show encR f f.toNat ([path0 p],[])=(0,[path0 p],[]) by unfold encR;rw[show f-((f.toNat:Nat):Int)=0 by omega]]at g1;rw[g1,g2];simp only[Zo8];cases h:rdX p f.toNat [path0 p] []with
 |none=>rfl
 | some q=>
  obtain⟨h1,h2,h3⟩:=all_good c1 h;rw[h]at hx;simp only[outR]at hx⊢;rw[ZlA (by omega) (by omega)];simp only[Zo8];generalize q.2++q.1=z at h1 hx⊢;by_cases c4:z.length>64
  ·rw[ZoD (by rw[Zb];simp;omega),ZoD c4];rfl
  rw[ZoC (by rw[Zb];simp;omega),ZoC c4,Zkv c1 hl h1 (by omega)];rw[ZoC c4]at hx;simp only[Zo8];by_cases c5:((mrX p z).length:Int)>most
  ·rw[ZoD c5,show decide (len (mrX p z)≤most)=false from decide_eq_false (by rw[Zb];omega)];rfl
  ·rw[ZoC c5]at hx;rw[ZoC c5,show decide (len (mrX p z)≤most)=true from decide_eq_true (by rw[Zb];omega)];simp only[ZoF,Zo9,ZoG];rw[Zla (by have:=hx.2;simp only at this;omega) hx.1];rfl
theorem fin_FnExactExploreMerged(x:D.Program)(hx:Zdx x)(y:Int)(_:fitInt y)(z:Int)(_:fitInt z):∃n,YN n x y z=some true:=by
 refine⟨fuel,?_⟩;unfold YN;obtain⟨r1,h1,c1⟩:=Zhy (m:=1048576) hx (by omega) (by omega);rw[h1];simp only[Zo8];rcases c1 with c1|⟨c1,c1',s1⟩
 ·rw[ZoD (by simpa using c1)]
 rw[ZoC (by simp;omega)];obtain⟨hf,hl⟩:=Zgx x y z;have s4:smallPS (mrgX x y z).1:=⟨by omega,fun t ht=>Zb9 (hf t ht)⟩;obtain⟨k1,q1,m1,b1,b1'⟩:=Zgu (x:=x) (k:=1) (by omega) (by omega) s1;obtain⟨k4,q4,m4,b4,hh⟩:=Zi8 (l:=(mrgX x y z).1) (k:=1) (by omega) s4.2 (by omega) (by omega);have e1:¬k1<0:=by omega
 have e2:¬k4<0:=by omega
 simp[ZhJ s1,ZlM s1,Zlv s1,Zgj s1,ZhL s4,m1,m4,hh,e1,e2]
end Go.Proofs.YtbidabmbbieeiacGreatDoor
