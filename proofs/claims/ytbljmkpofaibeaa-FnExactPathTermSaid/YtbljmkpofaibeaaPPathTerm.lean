/- The plain law of this claim: PathTerm. No program in sight. -/
import Derived.Test.YtbljmkpofaibeaaPLib
namespace Go.Proofs.Ytbljmkpofaibeaa
open Go.GL
set_option linter.unusedSimpArgs false
set_option maxRecDepth 100000
theorem t0_sml : sml t0.Kids := by show [].length + mszs [] ≤ 1048576; rw [mszs_nil]; simp
theorem t0_sz : msz t0 ≤ 1048576 := by rw [msz_eq]; show 0 + 0 + mszs [] ≤ _; rw [mszs_nil]; simp
theorem fine_sml {t : D.Term} (h : fine t) : sml t.Kids := by
  have := fine_sz h
  have := msz_eq t
  unfold sml; omega
theorem eq_term {t : D.Term} (h : msz t ≤ 1048576) : laws_eqTerm fuel t t = some true := (eqT fuel).1 t h (by unfold fuel; omega)
theorem allT_sz (l : List D.Term) : msz (allT l).1 ≤ 1048576 ∧ sml (allT l).1.Kids := by
  cases c : (allT l).2
  · rw [allT_no c]; exact ⟨t0_sz, t0_sml⟩
  · have := allT_fine c
    exact ⟨by have := fine_sz this; omega, fine_sml this⟩
theorem fin_FnExactPathTerm (x : D.Path) (hx : fit_Path x) : ∃ n, laws_FnExactPathTerm n x = some true := by
  refine ⟨fuel, ?_⟩
  unfold laws_FnExactPathTerm
  obtain ⟨r1, h1, c1⟩ := szPath_eq (m := 1048576) hx (by omega) (by omega)
  rw [h1]
  simp only [Option.bind_some]
  rcases c1 with c1 | ⟨c1, s1⟩
  · rw [if_pos (by simpa using c1)]
  rw [if_neg (by simp; omega)]
  have a1 : spec_PathTerm fuel x = some (allT x.Cond) := by unfold spec_PathTerm; rw [spec_all s1.2.2.2.2.1]; rfl
  have a2 : impl_PathTerm fuel x = some (allT x.Cond) := by unfold impl_PathTerm; rw [impl_all s1.2.2.2.2.1]; rfl
  obtain ⟨z1, z2⟩ := allT_sz x.Cond
  obtain ⟨k1, q1, m1, b1, b1'⟩ := mark_path (x := x) (k := 1) s1 (by omega) (by omega)
  obtain ⟨k2, q2, m2, b2, b2', hh⟩ := mark_term (t := (allT x.Cond).1) (k := 1) z2 (by omega) (by omega)
  have e1 : ¬ k1 < 0 := by omega
  have e2 : ¬ k2 < 0 := by omega
  simp [toPath_eq s1, a1, a2, eq_term z1, eqPath_refl s1, m1, m2, hh, e1, e2]
end Go.Proofs.Ytbljmkpofaibeaa
