/- The plain law of this claim: SummaryOf. No program in sight. -/
import Derived.Test.YtbidabmbbieeiabGreatDoorPLib2
namespace Go.Proofs.YtbidabmbbieeiabGreatDoor
open Go.GL
set_option linter.unusedSimpArgs false
set_option maxRecDepth 100000
theorem Zj3{l:List D.Path}(hl:l.length≤1000)(hk:∀x∈l,fineP x):XO fuel0 l=some l:=by
  unfold XO;have:∃r,iterN (fun(s1:Int×(List D.Path))=>if(decide (s1.1<(len l)))then(get? l s1.1).bind fun x1=>(ZU fuel0 x1).bind fun x2=>(app? s1.2 ([x2]:List D.Path)).bind fun x3=>some (.inl ((w64 (s1.1+1)),x3))else some (.inr (s1.2))) fuel0 (0,([]:List D.Path))=some r∧r=l:=Yh (l:=l) (fun j(a:List D.Path)=>((j:Int),a)) (fun ys a=>a++ys=l) (fun r=>r=l)
    (fun j x xs a hj hx hlen ha=>by
      have hxl:x∈l:=by rw[←ha];simp
      have hal:a.length≤l.length:=by rw[←ha];simp
      rw[ZmE (by rw[Zf];simp;omega),get?_nat,hx];simp only[Zm9,ZaU (hk x hxl)];refine .inl ⟨a++[x],?_,by rw[←ha];simp⟩;unfold app? room
      rw[ZmE (by simp;omega),Zm (by omega) (by omega)];rfl)
    (fun a ha=>by
      rw[ZmD (by rw[Zf];simp)]
      exact⟨_,rfl,by simpa using ha⟩) (a:=[]) rfl (by unfold fuel0;omega)
  obtain⟨r,h1,rfl⟩:=this;rw[h1];rfl
theorem ZiH{p:D.Program}{pc f most:Int}(hl:p.Code.length≤1048576):Zad fuel0 p pc f most=some (sumX p pc f most):=by
 have hx:=ZeN p pc f most;unfold Zad;rw[Zjx hl,Zk,Zk,Zk];simp only[Zm9];by_cases c1:progB p=true;rotate_left
 ·rw[ZcK (fun h=>c1 h.1),show progB p=false by simpa using c1];rfl
 rw[c1];simp only[ZmH,ZmA,ZmI,Zm9,ZmZ];by_cases c0:0≤pc∧pc≤len p.Code;rotate_left
 ·rw[ZcK (fun h=>c0 h.2.1),decide_eq_false c0];rfl
 rw[decide_eq_true c0];simp only[ZmH,ZmA,ZmI,Zm9,ZmZ];by_cases c2:0≤f∧f≤400;rotate_left
 ·rw[ZcK (fun h=>c2 h.2.2.1),decide_eq_false c2];rfl
 rw[decide_eq_true c2];simp only[ZmH,ZmA,ZmI,Zm9,ZmZ];by_cases c3:1≤most∧most≤64;rotate_left
 ·rw[ZcK (fun h=>c3 h.2.2.2),decide_eq_false c3];rfl
 rw[Zgz ⟨c1,c0,c2,c3⟩]at hx;rw[decide_eq_true c3,Zgz ⟨c1,c0,c2,c3⟩,ZhF c1 pc];simp only[ZmH,ZmA,ZmI,Zm9];obtain⟨e',h1,h2⟩:=ZgC c1 c3.2 f.toNat (pathV p pc) [] fuel0 (Zd3 c1 c0) (endsS0 c3.1) (by unfold fuel0;omega) (by omega);rw[show((f.toNat:Nat):Int)=f by omega]at h1;rw[h1];simp only[Zm9];by_cases h:(goT p most f.toNat (pathV p pc) []).2=true
 ·rw[ZmE h]at hx⊢;rw[h2 h,h];simp only[ZmH,ZmA,ZmI];rw[Zj3 (by have:=hx.2;simp only at this;omega) hx.1];rfl
 ·have h':(goT p most f.toNat (pathV p pc) []).2=false:=by simpa using h
  rw[ZmD h,h'];rfl
theorem ZiU{p:D.Program}{pc f most:Int}(hl:p.Code.length≤1048576):X9 fuel0 p pc f most=some (sumX p pc f most):=by
 have hx:=ZeN p pc f most;unfold X9 ZaT ZbY ZbZ;have hpl:ZaI p pc=some (decide (0≤pc∧pc≤len p.Code)):=by
  unfold ZaI;simp
 rw[Zjq hl,hpl];simp only[Zm9];by_cases c1:progB p=true;rotate_left
 ·rw[ZcK (fun h=>c1 h.1),show progB p=false by simpa using c1];rfl
 rw[c1];simp only[ZmH,ZmA,ZmI,Zm9,ZmZ];by_cases c0:0≤pc∧pc≤len p.Code;rotate_left
 ·rw[ZcK (fun h=>c0 h.2.1),decide_eq_false c0];rfl
 rw[decide_eq_true c0];simp only[ZmH,ZmA,ZmI,Zm9,ZmZ];by_cases c2:0≤f∧f≤400;rotate_left
 ·rw[ZcK (fun h=>c2 h.2.2.1),show(decide (f≥0)&&decide (f≤400))=false by simp;omega];rfl
 rw[show(decide (f≥0)&&decide (f≤400))=true by simp;omega];simp only[ZmH,ZmA,ZmI,Zm9,ZmZ];by_cases c3:1≤most∧most≤64;rotate_left
 ·rw[ZcK (fun h=>c3 h.2.2.2),show(decide (most≥1)&&decide (most≤64))=false by simp;omega];rfl
 rw[Zgz ⟨c1,c0,c2,c3⟩]at hx;rw[show(decide (most≥1)&&decide (most≤64))=true by simp;omega,Zgz ⟨c1,c0,c2,c3⟩,ZhB c1 pc];simp only[ZmH,ZmA,ZmI,Zm9];have h1:=Zhr c1 c3.2 f.toNat (pathV p pc) [] fuel0 (Zd3 c1 c0) (endsS0 c3.1) (by unfold fuel0;omega) (by omega);have hE:=ZdA c1 c3.2 f.toNat (pathV p pc) [] (Zd3 c1 c0) (endsS0 c3.1);rw[show((f.toNat:Nat):Int)=f by omega]at h1;rw[h1];simp only[Zm9];have hrel:=Zh7 (p:=p) (most:=most) f.toNat (pathV p pc) [];unfold RelS at hrel;obtain⟨r,q1,q2⟩:=ZiM (p:=p) (l:=(goS p most f.toNat (pathV p pc) []).1) (by have:=hE.2.1;omega) hE.1;by_cases h:(goT p most f.toNat (pathV p pc) []).2=true
 ·rw[ZmE h]at hx hrel⊢;obtain⟨hS,hgd⟩:=hrel;rw[hS]at q1 q2⊢;simp only[ZmA,ZmI]at q1 q2⊢;rw[ZmE (ZmL.2 fun x hx=>(hgd x hx).resolve_left (by simp))]at q2;rw[q1,q2];simp only[Zm9,ZmH,ZmA,ZmI];rw[Zju (by have:=hx.2;simp only at this;omega) hx.1];rfl
 ·rw[ZmD h]at hrel⊢;cases hb:(goS p most f.toNat (pathV p pc) []).2
  ·simp only[ZmA,ZmI];obtain⟨x,hx1,hx2⟩:=hrel.resolve_left (by rw[hb];decide);rw[ZmD (fun hall=>by rw[ZmL.1 hall x hx1]at hx2;cases hx2)]at q2;rw[q1,q2];rfl
  ·rfl
theorem fin_FnExactSummaryOf(x:D.Program)(hx:ZcM x)(v:Int)(_:fitInt v)(y:Int)(_:fitInt y)(z:Int)(_:fitInt z):∃n,Xo n x v y z=some true:=by
 refine⟨fuel0,?_⟩;unfold Xo;obtain⟨r1,h1,c1⟩:=Zgj (m:=1048576) hx (by omega) (by omega);rw[h1];simp only[Zm9];rcases c1 with c1|⟨c1,c1',s1⟩
 ·rw[ZmE (by simpa using c1)]
 rw[ZmD (by simp;omega)];obtain⟨hf,hl⟩:=ZeN x v y z;have s4:smallPS (sumX x v y z).1:=⟨by omega,fun t ht=>Zhk (hf t ht)⟩;obtain⟨k1,q1,m1,b1,b1'⟩:=ZeP (fuel:=fuel0) (x:=x) (k:=1) (by omega) (by omega) s1;obtain⟨k4,q4,m4,b4,hh⟩:=Zg2 (l:=(sumX x v y z).1) (k:=1) (by omega) s4.2 (by omega) (by omega);have e1:¬k1<0:=by omega
 have e2:¬k4<0:=by omega
 simp[Zgk s1,ZiH s1,ZiU s1,Zfi s1,Zgb s4,m1,m4,hh,e1,e2]
end Go.Proofs.YtbidabmbbieeiabGreatDoor
