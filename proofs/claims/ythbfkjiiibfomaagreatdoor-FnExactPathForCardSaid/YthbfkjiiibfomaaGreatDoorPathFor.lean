/- The plain law of this claim: PathFor. No program in sight. -/
import Derived.Test.YthbfkjiiibfomaaGreatDoorPLib2
namespace Go.Proofs.YthbfkjiiibfomaaGreatDoor
open Go.GL
set_option linter.unusedSimpArgs false
set_option maxRecDepth 100000
noncomputable def pathF (p:D.Program) (l:List Int) (f:Int):D.Path × Bool:=if inB p l = true ∧ 0 ≤ f ∧ f ≤ 400 then (runF p l f.toNat (path0 p),true) else (pz,false)
theorem Zl0 {p:D.Program} {l:List Int} {f:Int}:fineP (pathF p l f).1:=by
 have hz:fineP pz:=⟨⟨by decide,fun x hx=>by cases hx⟩,⟨by decide,fun x hx=>by cases hx⟩,by decide,⟨by decide,fun x hx=>by cases hx⟩,⟨by decide,fun x hx=>by cases hx⟩,by decide⟩
 unfold pathF
 by_cases c:inB p l = true ∧ 0 ≤ f ∧ f ≤ 400
 ·rw [Zng c]
  exact (Zcx c.1 _ _ (hP0 c.1)).good.ok.fine (Zch c.1).1
 ·rw [Znf c]; exact hz
theorem ZhY {p:D.Program} {l:List Int} {f:Int} (hl:p.Code.length ≤ 1048576) (hll:l.length ≤ 1048576):ZaX fuel p l f = some (pathF p l f):=by
 unfold ZaX pathF
 rw [Ze3 hl hll]
 simp only [Znb]
 by_cases c1:inB p l = true
 ·rw [c1]
  simp only [Znn,Znc,Znl,Zk,Znb,Zn9]
  by_cases c3:0 ≤ f ∧ f ≤ 400
  ·rw [Znf (by simp; omega), Zng ⟨trivial, c3⟩, ZhC (Zch c1).1 hl]
   simp only [Znb]
   have hr:=ZkX hl hll c1 c3.2 f.toNat 0 (path0 p) fuel (hP0 c1) (by omega) (by omega) (by unfold fuel; omega)
   rw [show (tupP (path0 p)) = ((path0 p).Pc,(path0 p).Regs,(path0 p).Mem,(path0 p).Stack,(path0 p).In,(path0 p).Out,(path0 p).Code,(path0 p).Steps,(path0 p).Cond,(path0 p).Turns) from rfl] at hr
   rw [hr]
   rfl
  ·rw [Zng (by simp; omega),Znf (fun h=>c3 h.2)]
 ·have c1' : inB p l = false := by simpa using c1
  rw [Znf (show ¬(inB p l = true ∧ 0 ≤ f ∧ f ≤ 400) from fun h=>c1 h.1),c1']; rfl
theorem ZhP {p:D.Program} {l:List Int} {f:Int} (hl:p.Code.length ≤ 1048576) (hll:l.length ≤ 1048576):Zau fuel p l f = some (pathF p l f):=by
 unfold Zau pathF Zcc
 rw [Zhd hl hll]
 simp only [Znb]
 by_cases c1:inB p l = true
 ·rw [c1]
  simp only [Znn,Znc,Znl,Znb,Zn9]
  by_cases c3:0 ≤ f ∧ f ≤ 400
  ·rw [Znf (by simp; omega), Zng ⟨trivial, c3⟩]
   obtain ⟨hp,hw,_,h3⟩:=Zch c1
   unfold Zb7
   rw [Zjv h3]
   simp only [Znb]
   rw [Zjs (ZeR h3 hw) (by unfold fuel; omega),Ziq hp]
   simp only [Znb]
   obtain ⟨q,hr,hq⟩:=ZjY c1 c3.2 f.toNat 0 (path0 p) fuel (hP0 c1) (by omega) (by omega) (by unfold fuel; omega)
   have hf:=(Zcx c1 f.toNat _ (hP0 c1)).good.ok.fine hp
   rw [show (tupP (path0 p)) = ((path0 p).Pc,(path0 p).Regs,(path0 p).Mem,(path0 p).Stack,(path0 p).In,(path0 p).Out,(path0 p).Code,(path0 p).Steps,(path0 p).Cond,(path0 p).Turns) from rfl] at hr
   have hr':=hr
   unfold envI at hr'
   rw [hr']
   have hc:=Zlj hf
   rcases hq with rfl | rfl
   ·simp only [Znb, tupP]
    rw [show XX fuel (D.Path.mk (runF p l f.toNat (path0 p)).Pc (runF p l f.toNat (path0 p)).Regs (runF p l f.toNat (path0 p)).Mem (runF p l f.toNat (path0 p)).Stack (runF p l f.toNat (path0 p)).In (runF p l f.toNat (path0 p)).Out (runF p l f.toNat (path0 p)).Code (runF p l f.toNat (path0 p)).Steps (runF p l f.toNat (path0 p)).Cond (runF p l f.toNat (path0 p)).Turns) = _ from hc]
    rfl
   ·simp only [Znb]
    rw [hc]; rfl
  ·have e : (!(decide (f ≥ 0) && decide (f ≤ 400))) = true := by simp; omega
   rw [Zng e,Znf (fun h=>c3 h.2)]
 ·have c1' : inB p l = false := by simpa using c1
  rw [Znf (show ¬(inB p l = true ∧ 0 ≤ f ∧ f ≤ 400) from fun h=>c1 h.1),c1']; rfl
theorem fin_FnExactPathFor (x:D.Program) (hx:ZcU x) (y:List Int) (_:fitList fitInt y) (z:Int) (_:fitInt z):∃ n,X0 n x y z = some true:=by
 refine ⟨fuel,?_⟩
 unfold X0
 by_cases c0:y.length ≤ 1048576
 rotate_left
 ·rw [Zng (by rw [Ze]; simp; omega)]
 rw [Znf (by rw [Ze]; simp; omega)]
 obtain ⟨r1,h1,c1⟩:=Zgw (m:=1048576) hx (by omega) (by omega)
 rw [h1]
 simp only [Znb]
 rcases c1 with c1 | ⟨c1,c1',s1⟩
 ·rw [Zng (by simpa using c1)]
 rw [Znf (by simp; omega)]
 have s4:smallP (pathF x y z).1:=Ze0 Zl0
 obtain ⟨k1,q1,m1,b1,b1'⟩:=ZfA (x:=x) (k:=1) (by omega) (by omega) s1
 have m2:=ZcR (p:=y) (k:=k1) (by omega) (by omega) c0
 obtain ⟨k4,q4,m4,b4,hh⟩:=ZhI s4
 have e1:¬ k1 + (y.length:Int) < 0:=by omega
 have e2:¬ k4 < 0:=by omega
 simp [Zg4 s1,Zju c0,ZhY s1 c0,ZhP s1 c0,Zfc s1,Zer c0,Zhi s4,m1,m2,m4,hh,e1,e2]
end Go.Proofs.YthbfkjiiibfomaaGreatDoor
