/- The plain law of this claim: StepPath. No program in sight. -/
import Derived.Test.YtginipeibmnikaaGreatDoorPLib2
namespace Go.Proofs.YtginipeibmnikaaGreatDoor
open Go.GL
set_option linter.unusedSimpArgs false
set_option maxRecDepth 100000
theorem ZgF {w:Int} {l:List D.Term} (h:tsB l w = true):fw w l:=fun t ht=>⟨ZlB (Zi1 h ht).1,(Zi1 h ht).2⟩
theorem ZeV {p:D.Program} {s:D.Path} (h:pathB p s = true):progB p = true ∧ okP p s:=by
 unfold pathB at h
 simp only [Zm3,ZmF,Zna] at h
 simp only [Ze] at h
 obtain ⟨⟨⟨⟨⟨⟨⟨⟨⟨⟨⟨⟨⟨⟨⟨⟨h1,h2⟩,h3⟩,h4⟩,h5⟩,h6⟩,h7⟩,h8⟩,h9⟩,h10⟩,h11⟩,h12⟩,h13⟩,h14⟩,h15⟩,h16⟩,h17⟩:=h
 rw [ZmC] at h12
 have h12':∀ x ∈ s.Stack,0 ≤ x ∧ x ≤ len p.Code:=fun x hx=>of_decide_eq_true (h12 x hx)
 exact ⟨h1,by rw [Ze]; exact h2,by omega,ZgF h14,h4,ZgF h15,by omega,h12',h6,by omega,ZgF h16,h8,h9,by omega,ZgF h17,by omega⟩
noncomputable def stepP (p:D.Program) (s:D.Path):List D.Path:=if pathB p s = true then stp1 p s else []
theorem ZfY (p:D.Program) (s:D.Path):(stepP p s).length ≤ 2:=by
 unfold stepP
 split
 ·exact Zlz p s
 ·simp
theorem ZeO {p:D.Program} {s:D.Path}:∀ x ∈ stepP p s,fineP x:=fun x hx=>by
 unfold stepP at hx
 split at hx
 ·rename_i h
  obtain ⟨hp,hs⟩:=ZeV h
  exact (ZlU hp hs x hx).fine hp
 ·cases hx
theorem ZhH {p:D.Program} {s:D.Path} (hl:p.Code.length ≤ 1048576) (hs:smallP s):Zaz fuel p s = some (stepP p s):=by
 unfold Zaz stepP
 rw [ZiH hl hs]
 simp only [Zm0]
 by_cases c:pathB p s = true
 ·obtain ⟨hp, ho⟩ := ZeV c
  rw [c,ZiW hp ho]; rfl
 ·have c' : pathB p s = false := by simpa using c
  rw [c']; rfl
theorem Zh7 {p:D.Program} {s:D.Path} (hl:p.Code.length ≤ 1048576) (hs:smallP s):XT fuel p s = some (stepP p s):=by
 unfold XT
 have hf:=ZeO (p:=p) (s:=s)
 have h2:=ZfY p s
 unfold stepP at hf h2 ⊢
 rw [Zji hl hs]
 simp only [Zm0]
 by_cases c:pathB p s = true
 ·obtain ⟨hp, ho⟩ := ZeV c
  rw [Zm5 c] at hf h2
  rw [c,ZiR hp ho]
  simp only [ZmE,Zm1,Zm9,ZmN,Zm0,ZiJ (show (stp1 p s).length ≤ 1048576 by omega) hf]
 ·have c' : pathB p s = false := by simpa using c
  rw [c']; rfl
theorem fin_FnExactStepPath (x:D.Program) (hx:ZcW x) (y:D.Path) (hy:ZdR y):∃ n,Xv n x y = some true:=by
 refine ⟨fuel,?_⟩
 unfold Xv
 obtain ⟨r1,h1,c1⟩:=Zg8 (m:=1048576) hx (by omega) (by omega)
 rw [h1]
 simp only [Zm0]
 rcases c1 with c1 | ⟨c1,c1',s1⟩
 ·rw [Zm5 (by simpa using c1)]
 rw [Zm4 (by simp; omega)]
 obtain ⟨r2,h2,c2⟩:=Zjg (m:=r1) hy c1 c1'
 rw [h2]
 simp only [Zm0]
 rcases c2 with c2 | ⟨c2,s2⟩
 ·rw [Zm5 (by simpa using c2)]
 rw [Zm4 (by simp; omega)]
 have hl:=ZfY x y
 have hf:=ZeO (p:=x) (s:=y)
 have s4:smallPS (stepP x y):=⟨by omega,fun z hz=>ZgL (hf z hz)⟩
 obtain ⟨k1,q1,m1,b1,b1'⟩:=Zfu (x:=x) (k:=1) (by omega) (by omega) s1
 obtain ⟨k2,q2,m2,b2,b2'⟩:=ZiO (x:=y) (k:=k1) s2 (by omega) (by omega)
 obtain ⟨k4,q4,m4,b4,hh⟩:=ZgV (l:=stepP x y) (k:=1) (by omega) s4.2 (by omega) (by omega)
 have e1:¬ k2 < 0:=by omega
 have e2:¬ k4 < 0:=by omega
 simp [ZgD s1,Zjv s2,ZhH s1 s2,Zh7 s1 s2,Zfs s1,Zev s2,ZgA s4,m1,m2,m4,hh,e1,e2]
end Go.Proofs.YtginipeibmnikaaGreatDoor
