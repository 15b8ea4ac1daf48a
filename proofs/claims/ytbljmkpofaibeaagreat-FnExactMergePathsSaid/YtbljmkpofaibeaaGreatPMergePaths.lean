/- The plain law of this claim: MergePaths. No program in sight. -/
import Derived.Test.YtbljmkpofaibeaaGreatPLib2
namespace Go.Proofs.YtbljmkpofaibeaaGreat
open Go.GL
set_option linter.unusedSimpArgs false
set_option maxRecDepth 100000
theorem fin_FnExactMergePaths (x : D.Program) (hx : fit_Program x) (y : D.Path) (hy : fit_Path y) (z : D.Path) (hz : fit_Path z) : ∃ n, laws_FnExactMergePaths n x y z = some true := by
  refine ⟨fuel, ?_⟩
  unfold laws_FnExactMergePaths
  obtain ⟨r1, h1, c1⟩ := szProgram_eq (m := 1048576) hx (by omega) (by omega)
  rw [h1]
  simp only [Option.bind_some]
  rcases c1 with c1 | ⟨c1, c1', s1⟩
  · rw [if_pos (by simpa using c1)]
  rw [if_neg (by simp; omega)]
  obtain ⟨r2, h2, c2⟩ := szPath_le (m := r1) hy c1 c1'
  rw [h2]
  simp only [Option.bind_some]
  rcases c2 with c2 | ⟨c2, c2', s2⟩
  · rw [if_pos (by simpa using c2)]
  rw [if_neg (by simp; omega)]
  obtain ⟨r3, h3, c3⟩ := szPath_eq (m := r2) hz c2 (by omega)
  rw [h3]
  simp only [Option.bind_some]
  rcases c3 with c3 | ⟨c3, s3⟩
  · rw [if_pos (by simpa using c3)]
  rw [if_neg (by simp; omega)]
  have s4 : smallP (mgR x y z).1 := mgR_small
  obtain ⟨k1, q1, m1, b1, b1'⟩ := markProgram_ok (x := x) (k := 1) (by omega) (by omega) s1
  obtain ⟨k2, q2, m2, b2, b2'⟩ := mark_path (x := y) (k := k1) s2 (by omega) (by omega)
  obtain ⟨k3, q3, m3, b3, b3'⟩ := mark_path (x := z) (k := k2) s3 (by omega) (by omega)
  obtain ⟨k4, q4, m4, b4, hh⟩ := mark_pathH s4
  have e1 : ¬ k3 < 0 := by omega
  have e2 : ¬ k4 < 0 := by omega
  simp [toProgram_eq s1, toPath_eq s2, toPath_eq s3, spec_merge s1 s2 s3, impl_merge s1 s2 s3, eqProgram_refl s1, eqPath_refl s2, eqPath_refl s3, eqPath_refl s4, m1, m2, m3, m4, hh, e1, e2]
end Go.Proofs.YtbljmkpofaibeaaGreat
