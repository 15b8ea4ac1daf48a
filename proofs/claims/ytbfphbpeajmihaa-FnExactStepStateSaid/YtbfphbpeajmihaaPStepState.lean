/- The plain law of this claim. No program in sight. -/
import Derived.Test.YtbfphbpeajmihaaPS
namespace Go.Proofs.Ytbfphbpeajmihaa
open Go.GL
theorem spec_copy {y : D.State} (h : small y) : spec_l05Copy y = some y := by
  obtain ⟨h1, h2, h3, h4⟩ := h
  have happ : ∀ l : List Int, l.length ≤ 1048576 → app? ([] : List Int) l = some l := fun l hl => by
    unfold app?; rw [if_pos (by simp; unfold room; omega)]; rfl
  unfold spec_l05Copy
  rw [happ _ h1, happ _ h2, happ _ h3, happ _ h4]; rfl
theorem impl_copy {y : D.State} (h : small y) : impl_copyState y = some y := by
  obtain ⟨h1, h2, h3, h4⟩ := h
  have happ : ∀ l : List Int, l.length ≤ 1048576 → app? ([] : List Int) l = some l := fun l hl => by
    unfold app?; rw [if_pos (by simp; unfold room; omega)]; rfl
  unfold impl_copyState slices_Clone___int_int_
  rw [happ _ h1, happ _ h2, happ _ h3, happ _ h4]; rfl
theorem StepState_eq {x : D.Program} {y : D.State} {l : List Int} (h : x.Code.length ≤ 1048576) (hy : small y) (hl : l.length ≤ 1048576) : ∃ s', spec_StepState fuel x y l = some s' ∧ impl_StepState fuel x y l = some s' ∧ small s' := by
  unfold spec_StepState impl_StepState
  rw [(StateOk_eq h hy).1, (StateOk_eq h hy).2, (InputsOk_eq h hl).1, (InputsOk_eq h hl).2]
  simp only [Option.bind_some, ite_def2]
  by_cases c : stateB x y = true ∧ inputsB x l = true
  · obtain ⟨c1, c2⟩ := c
    have hlen : (l.length : Int) = x.In := by
      unfold inputsB at c2
      simp only [Bool.and_eq_true, beq_iff_eq, len_nat] at c2
      exact c2.2.2
    obtain ⟨s', s1, s2, s3⟩ := step_eq (fine_of c1) hlen
    refine ⟨s', ?_, ?_, s3⟩ <;> simp [c1, c2, spec_copy hy, impl_copy hy, s1, s2]
  · refine ⟨st0, ?_, ?_, by simp [st0, small]⟩ <;> (cases c1 : stateB x y <;> cases c2 : inputsB x l <;> simp_all [st0])

theorem fin_FnExactStepState (x : D.Program) (hx : fit_Program x) (y : D.State) (hy : fit_State y) (l : List Int) (_ : fitList fitInt l) : ∃ n, laws_FnExactStepState n x y l = some true := by
  refine ⟨fuel, ?_⟩
  unfold laws_FnExactStepState
  by_cases c0 : len l > 1048576
  · rw [if_pos (by simpa using c0)]
  rw [if_neg (by simpa using c0)]
  rw [len_nat] at c0
  have hl : l.length ≤ 1048576 := by omega
  obtain ⟨r1, h1, c1⟩ := szProgram_eq (m := 1048576) hx (by omega) (by omega)
  rw [h1]
  simp only [Option.bind_some]
  rcases c1 with c1 | ⟨c1, c1', s1⟩
  · rw [if_pos (by simpa using c1)]
  rw [if_neg (by simp; omega)]
  obtain ⟨r2, h2, c2⟩ := szState_eq (m := r1) hy c1 c1'
  rw [h2]
  simp only [Option.bind_some]
  rcases c2 with c2 | ⟨c2, c2', s2⟩
  · rw [if_pos (by simpa using c2)]
  rw [if_neg (by simp; omega)]
  obtain ⟨s', t1, t2, t3⟩ := StepState_eq s1 s2 hl
  obtain ⟨k1, q1, m1, b1, b1'⟩ := markProgram_ok (x := x) (k := 1) (by omega) (by omega) s1
  obtain ⟨k2, q2, m2, b2, b2'⟩ := markState_any (x := y) (k := k1) (by omega) (by omega) s2
  have m3 := markIntS_eq (p := l) (k := k2) (by omega) (by omega) hl
  obtain ⟨k4, q4, m4, b4, hh⟩ := markState_ok t3
  simp only [toProgram_eq s1, toState_eq s2, toIntS_eq hl, Option.bind_some, t1, t2, eqProgram_refl s1, eqState_eq s2, eqState_eq t3, eqIntS_eq hl, m1, m2, m3, m4, hh]
  have e1 : ¬ k2 + (l.length : Int) < 0 := by omega
  have e2 : ¬ k4 < 0 := by omega
  simp [e1, e2]
end Go.Proofs.Ytbfphbpeajmihaa
