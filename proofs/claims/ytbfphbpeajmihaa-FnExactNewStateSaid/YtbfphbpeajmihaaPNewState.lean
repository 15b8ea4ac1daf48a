/- The plain law of this claim. No program in sight. -/
import Derived.Test.YtbfphbpeajmihaaPlain
namespace Go.Proofs.Ytbfphbpeajmihaa
open Go.GL
theorem fin_FnExactNewState (x : D.Program) (hx : fit_Program x) : ∃ n, laws_FnExactNewState n x = some true := by
  refine ⟨fuel, ?_⟩
  obtain ⟨r1, h1, c1⟩ := szProgram_eq (m := 1048576) hx (by omega) (by omega)
  unfold laws_FnExactNewState
  rw [h1]
  simp only [Option.bind_some]
  rcases c1 with c1 | ⟨c1, c1', s1⟩
  · rw [if_pos (by simpa using c1)]
  rw [if_neg (by simp; omega)]
  have hsm := small_new x
  obtain ⟨k1, q1, m1, b1, -⟩ := markProgram_ok (k := 1) (by omega) (by omega) s1
  obtain ⟨k2, q2, m2, b2, hh⟩ := markState_ok hsm
  simp only [toProgram_eq s1, Option.bind_some, spec_new s1, impl_new s1, eqProgram_refl s1, eqState_refl hsm, m1, m2, hh]
  have e1 : ¬ k1 < 0 := by omega
  have e2 : ¬ k2 < 0 := by omega
  simp [e1, e2]
end Go.Proofs.Ytbfphbpeajmihaa
