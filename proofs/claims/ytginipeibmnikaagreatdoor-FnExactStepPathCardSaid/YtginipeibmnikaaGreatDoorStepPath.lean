/- The plain law of this claim: StepPath. No program in sight. -/
import Derived.Test.YtginipeibmnikaaGreatDoorPLib2
namespace Go.Proofs.YtginipeibmnikaaGreatDoor
open Go.GL
set_option linter.unusedSimpArgs false
set_option maxRecDepth 100000
theorem ZgF {w:Int} {l:List D.Term} (h:tsB l w = true):fw w l:=fun t ht=>⟨ZlC (Zik h ht).1,(Zik h ht).2⟩
theorem ZfB {p:D.Program} {s:D.Path} (h:pathB p s = true):progB p = true ∧ okP p s:=by
 unfold pathB at h
 simp only [Zm4,ZmG,Znb] at h
 simp only [Ze] at h
 obtain ⟨⟨⟨⟨⟨⟨⟨⟨⟨⟨⟨⟨⟨⟨⟨⟨h1,h2⟩,h3⟩,h4⟩,h5⟩,h6⟩,h7⟩,h8⟩,h9⟩,h10⟩,h11⟩,h12⟩,h13⟩,h14⟩,h15⟩,h16⟩,h17⟩:=h
 rw [ZmD] at h12
 have h12':∀ x ∈ s.Stack,0 ≤ x ∧ x ≤ len p.Code:=fun x hx=>of_decide_eq_true (h12 x hx)
 exact ⟨h1,by rw [Ze]; exact h2,by omega,ZgF h14,h4,ZgF h15,by omega,h12',h6,by omega,ZgF h16,h8,h9,by omega,ZgF h17,by omega⟩
noncomputable def stepP (p:D.Program) (s:D.Path):List D.Path:=if pathB p s = true then stp1 p s else []
theorem Zgk (p:D.Program) (s:D.Path):(stepP p s).length ≤ 2:=by
 unfold stepP
 split
 ·exact Zle p s
 ·simp
theorem Zf6 {p:D.Program} {s:D.Path}:∀ x ∈ stepP p s,fineP x:=fun x hx=>by
 unfold stepP at hx
 split at hx
 ·rename_i h
  obtain ⟨hp,hs⟩:=ZfB h
  exact (ZlS hp hs x hx).fine hp
 ·cases hx
theorem Zib {p:D.Program} {s:D.Path} (hl:p.Code.length ≤ 1048576) (hs:smallP s):Za1 fuel p s = some (stepP p s):=by
 unfold Za1 stepP
 rw [ZiR hl hs]
 simp only [Zm1]
 by_cases c:pathB p s = true
 ·obtain ⟨hp, ho⟩ := ZfB c
  rw [c,Zj7 hp ho]; rfl
 ·have c' : pathB p s = false := by simpa using c
  rw [c']; rfl
theorem ZhT {p:D.Program} {s:D.Path} (hl:p.Code.length ≤ 1048576) (hs:smallP s):XT fuel p s = some (stepP p s):=by
 unfold XT
 have hf:=Zf6 (p:=p) (s:=s)
 have h2:=Zgk p s
 unfold stepP at hf h2 ⊢
 rw [Zj9 hl hs]
 simp only [Zm1]
 by_cases c:pathB p s = true
 ·obtain ⟨hp, ho⟩ := ZfB c
  rw [Zm6 c] at hf h2
  rw [c,Zju hp ho]
  simp only [ZmF,Zm2,ZmA,ZmO,Zm1,Zjk (show (stp1 p s).length ≤ 1048576 by omega) hf]
 ·have c' : pathB p s = false := by simpa using c
  rw [c']; rfl
theorem fin_FnExactStepPath (x:D.Program) (hx:ZcT x) (y:D.Path) (hy:Zd3 y):∃ n,Xw n x y = some true:=by
 refine ⟨fuel,?_⟩
 unfold Xw
 obtain ⟨r1,h1,c1⟩:=Zg6 (m:=1048576) hx (by omega) (by omega)
 rw [h1]
 simp only [Zm1]
 rcases c1 with c1 | ⟨c1,c1',s1⟩
 ·rw [Zm6 (by simpa using c1)]
 rw [Zm5 (by simp; omega)]
 obtain ⟨r2,h2,c2⟩:=ZiQ (m:=r1) hy c1 c1'
 rw [h2]
 simp only [Zm1]
 rcases c2 with c2 | ⟨c2,s2⟩
 ·rw [Zm6 (by simpa using c2)]
 rw [Zm5 (by simp; omega)]
 have hl:=Zgk x y
 have hf:=Zf6 (p:=x) (s:=y)
 have s4:smallPS (stepP x y):=⟨by omega,fun z hz=>Zh2 (hf z hz)⟩
 obtain ⟨k1,q1,m1,b1,b1'⟩:=Zfs (x:=x) (k:=1) (by omega) (by omega) s1
 obtain ⟨k2,q2,m2,b2,b2'⟩:=Zjt (x:=y) (k:=k1) s2 (by omega) (by omega)
 obtain ⟨k4,q4,m4,b4,hh⟩:=ZgV (l:=stepP x y) (k:=1) (by omega) s4.2 (by omega) (by omega)
 have e1:¬ k2 < 0:=by omega
 have e2:¬ k4 < 0:=by omega
 simp [Zg7 s1,ZiT s2,Zib s1 s2,ZhT s1 s2,Zfa s1,Zet s2,Zgr s4,m1,m2,m4,hh,e1,e2]
end Go.Proofs.YtginipeibmnikaaGreatDoor
