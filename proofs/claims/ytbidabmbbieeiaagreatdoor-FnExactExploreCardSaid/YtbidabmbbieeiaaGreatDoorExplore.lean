/- The plain law of this claim: Explore. No program in sight. -/
import Derived.Test.YtbidabmbbieeiaaGreatDoorPLib2
namespace Go.Proofs.YtbidabmbbieeiaaGreatDoor
open Go.GL
set_option linter.unusedSimpArgs false
set_option maxRecDepth 100000
theorem Zj9{p:D.Program}{f most:Int}(hl:p.Code.length≤1048576):ZaI fuel0 p f most=some (expX p f most):=by
 unfold ZaI Za2;rw[Zf4 hl,Zk,Zk];simp only[Zmh];by_cases c1:progB p=true;rotate_left
 ·rw[Zea (fun h=>c1 h.1),show progB p=false by simpa using c1];rfl
 rw[c1];simp only[Zmp,Zmi,Zmr,Zmh,Zm9];by_cases c2:0≤f∧f≤400;rotate_left
 ·rw[Zea (fun h=>c2 h.2.1),decide_eq_false c2];rfl
 rw[decide_eq_true c2];simp only[Zmp,Zmi,Zmr,Zmh,Zm9];by_cases c3:1≤most∧most≤64;rotate_left
 ·rw[Zea (fun h=>c3 h.2.2),decide_eq_false c3];rfl
 rw[decide_eq_true c3,ZhB ⟨c1,c2,c3⟩,ZhF c1 hl];simp only[Zmp,Zmi,Zmr,Zmh];have:=ZhM c1 c3.2 f.toNat (path0 p) [] fuel0 (Zfq c1) (ends0 c3.1) (by unfold fuel0;omega) (by omega);rw[show((f.toNat:Nat):Int)=f by omega]at this;rw[this];simp only[Zmh];cases(goX p most f.toNat (path0 p) []).2<;>rfl
theorem Zko{p:D.Program}{f most:Int}(hl:p.Code.length≤1048576):Zam fuel0 p f most=some (expX p f most):=by
 have hx:=Zg9 p f most;unfold Zam Zby ZbL ZbJ;rw[ZiB hl];simp only[Zmh];by_cases c1:progB p=true;rotate_left
 ·rw[Zea (fun h=>c1 h.1),show progB p=false by simpa using c1];rfl
 rw[c1];simp only[Zmp,Zmi,Zmr,Zmh,Zm9];by_cases c2:0≤f∧f≤400;rotate_left
 ·rw[Zea (fun h=>c2 h.2.1),show(decide (f≥0)&&decide (f≤400))=false by simp;omega];rfl
 rw[show(decide (f≥0)&&decide (f≤400))=true by simp;omega];simp only[Zmp,Zmi,Zmr,Zmh,Zm9];by_cases c3:1≤most∧most≤64;rotate_left
 ·rw[Zea (fun h=>c3 h.2.2),show(decide (most≥1)&&decide (most≤64))=false by simp;omega];rfl
 rw[show(decide (most≥1)&&decide (most≤64))=true by simp;omega,ZhB ⟨c1,c2,c3⟩,ZhE c1];rw[ZhB ⟨c1,c2,c3⟩]at hx;simp only[Zmp,Zmi,Zmr,Zmh];have:=Ziq c1 c3.2 f.toNat (path0 p) [] fuel0 (Zfq c1) (ends0 c3.1) (by unfold fuel0;omega) (by omega);rw[show((f.toNat:Nat):Int)=f by omega]at this;rw[this];simp only[Zmh];cases h:(goX p most f.toNat (path0 p) []).2
 ·rfl
 ·rw[h,Zmm rfl]at hx;simp only[Zmp,ZmO,Zmi,Zmr,Zm0];rw[ZiD (by have:=hx.2;simp only at this;omega) hx.1];rfl
theorem fin_FnExactExplore(x:D.Program)(hx:Zcz x)(y:Int)(_:fitInt y)(z:Int)(_:fitInt z):∃n,Xy n x y z=some true:=by
 refine⟨fuel0,?_⟩;unfold Xy;obtain⟨r1,h1,c1⟩:=Zgh (m:=1048576) hx (by omega) (by omega);rw[h1];simp only[Zmh];rcases c1 with c1|⟨c1,c1',s1⟩
 ·rw[Zmm (by simpa using c1)]
 rw[Zml (by simp;omega)];obtain⟨hf,hl⟩:=Zg9 x y z;have s4:smallPS (expX x y z).1:=⟨by omega,fun t ht=>ZgC (hf t ht)⟩;obtain⟨k1,q1,m1,b1,b1'⟩:=Ze6 (fuel:=fuel0) (x:=x) (k:=1) (by omega) (by omega) s1;obtain⟨k4,q4,m4,b4,hh⟩:=ZgV (l:=(expX x y z).1) (k:=1) (by omega) s4.2 (by omega) (by omega);have e1:¬k1<0:=by omega
 have e2:¬k4<0:=by omega
 simp[Zgd s1,Zj9 s1,Zko s1,ZeM s1,Zgr s4,m1,m4,hh,e1,e2]
end Go.Proofs.YtbidabmbbieeiaaGreatDoor
