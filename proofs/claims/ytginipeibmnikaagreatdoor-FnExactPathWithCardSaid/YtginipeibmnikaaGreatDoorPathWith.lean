/- The plain law of this claim: PathWith. No program in sight. -/
import Derived.Test.YtginipeibmnikaaGreatDoorPLib2
namespace Go.Proofs.YtginipeibmnikaaGreatDoor
open Go.GL
set_option linter.unusedSimpArgs false
set_option maxRecDepth 100000
theorem Zho {p : D.Program} {ts : List Int} {f : Int} (hl : p.Code.length ≤ 1048576) (hts : ts.length ≤ 1048576) : XH fuel p ts f = some (pathW p ts f) := by
 unfold XH ZbF
 rw [ZiH hl]
 simp only [Zlw]
 by_cases c2 : progB p = true
 ·rw [c2]
  simp only [ZlA, Zly, Zl9, Zlw, ZlT]
  by_cases c3 : 0 ≤ f ∧ f ≤ 400
  ·rw [Zl1 (by simp; omega), ZgR hts]
   simp only [Zlw]
   by_cases c1 : tB ts = true
   ·rw [Zl1 (by rw [show (ts.all fun x => decide (0 ≤ x ∧ x ≤ 1)) = true from c1]; simp; omega)]
    unfold ZaR pathW
    rw [Zhb c2, Zl2 ⟨c1, c2, c3⟩]
    simp only [Zlw]
    have hr := Zjx (all := ts) c2 c3.2 (ZfZ c1) hts f.toNat 0 0 (path0 p) fuel (Zda c2) (by omega) (by omega) (by omega) (by unfold fuel; omega)
    rw [ZmA, show (tupP (path0 p)) = ((path0 p).Pc, (path0 p).Regs, (path0 p).Mem, (path0 p).Stack, (path0 p).In, (path0 p).Out, (path0 p).Code, (path0 p).Steps, (path0 p).Cond, (path0 p).Turns) from rfl] at hr
    rw [show ((0 : Nat) : Int) = 0 from rfl] at hr
    rw [hr]
    have hf := (ZfB c2 f.toNat ts (path0 p) (ZfZ c1) (Zda c2)).fine c2
    have hle := ZfX p f.toNat ts (path0 p)
    simp only [Zlw, tupP]
    by_cases c4 : (run p f.toNat ts (path0 p)).1.length = 0
    ·rw [Zl2 c4, Zl1 (show ¬(!((ts.length : Int) - ((run p f.toNat ts (path0 p)).1.length : Int) == len ts)) = true by rw [Ze, c4]; simp)]
     have := ZjU hf
     rw [show XL fuel (D.Path.mk (run p f.toNat ts (path0 p)).2.Pc (run p f.toNat ts (path0 p)).2.Regs (run p f.toNat ts (path0 p)).2.Mem (run p f.toNat ts (path0 p)).2.Stack (run p f.toNat ts (path0 p)).2.In (run p f.toNat ts (path0 p)).2.Out (run p f.toNat ts (path0 p)).2.Code (run p f.toNat ts (path0 p)).2.Steps (run p f.toNat ts (path0 p)).2.Cond (run p f.toNat ts (path0 p)).2.Turns) = _ from this]
     rfl
    ·rw [Zl1 c4, Zl2 (show (!((ts.length : Int) - ((run p f.toNat ts (path0 p)).1.length : Int) == len ts)) = true by rw [Ze]; simp; omega)]
   ·rw [Zl2 (by rw [show (ts.all fun x => decide (0 ≤ x ∧ x ≤ 1)) = false by simpa [tB] using c1]; simp)]
    unfold pathW
    rw [Zl1 (fun h => c1 h.1)]
  ·have e : (!(decide (f ≥ 0) && decide (f ≤ 400))) = true := by simp; omega
   rw [Zl2 e]
   simp only [Zlw, e, Znp, ZlJ]
   unfold pathW
   rw [Zl1 (fun h => c3 h.2.2)]
 ·have c2' : progB p = false := by simpa using c2
  rw [c2', show pathW p ts f = (pz, false) from by unfold pathW; exact Zl1 (fun h => c2 h.2.1)]
  rfl
theorem fin_FnExactPathWith (x : D.Program) (hx : Zcs x) (y : List Int) (_ : fitList fitInt y) (z : Int) (_ : fitInt z) : ∃ n, Xk n x y z = some true := by
 refine ⟨fuel, ?_⟩
 unfold Xk
 by_cases c0 : y.length ≤ 1048576
 rotate_left
 ·rw [Zl2 (by rw [Ze]; simp; omega)]
 rw [Zl1 (by rw [Ze]; simp; omega)]
 obtain ⟨r1, h1, c1⟩ := ZfD (m := 1048576) hx (by omega) (by omega)
 rw [h1]
 simp only [Zlw]
 rcases c1 with c1 | ⟨c1, c1', s1⟩
 ·rw [Zl2 (by simpa using c1)]
 rw [Zl1 (by simp; omega)]
 have s4 : smallP (pathW x y z).1 := ZgA Zjn
 obtain ⟨k1, q1, m1, b1, b1'⟩ := Ze5 (x := x) (k := 1) (by omega) (by omega) s1
 have m2 := Zcz (p := y) (k := k1) (by omega) (by omega) c0
 obtain ⟨k4, q4, m4, b4, hh⟩ := Zhw s4
 have e1 : ¬ k1 + (y.length : Int) < 0 := by omega
 have e2 : ¬ k4 < 0 := by omega
 simp [ZfN s1, ZiK c0, Zhm s1 c0, Zho s1 c0, Zew s1, ZdD c0, ZgE s4, m1, m2, m4, hh, e1, e2]
end Go.Proofs.YtginipeibmnikaaGreatDoor
