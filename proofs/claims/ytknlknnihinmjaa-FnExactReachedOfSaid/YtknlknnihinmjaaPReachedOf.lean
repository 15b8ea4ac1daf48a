/- The plain law of this claim. No program in sight. -/
import Derived.Test.YtknlknnihinmjaaPReach
namespace Go.Proofs.Ytknlknnihinmjaa
open Go.GL
theorem fin_FnExactReachedOf (x : D.Program) (hx : fit_Program x) : ∃ n, laws_FnExactReachedOf n x = some true := by
  refine ⟨fuel, ?_⟩
  unfold laws_FnExactReachedOf
  obtain ⟨r1, h1, c1⟩ := szProgram_eq (m := 1048576) hx (by omega) (by omega)
  rw [h1]
  simp only [Option.bind_some]
  rcases c1 with c1 | ⟨c1, c1', s1⟩
  · rw [if_pos (by simpa using c1)]
  rw [if_neg (by simp; omega)]
  obtain ⟨s', t1, t2, t3, -⟩ := ReachedOf_eq s1
  obtain ⟨k1, q1, m1, b1, b1'⟩ := markProgram_ok (x := x) (k := 1) (by omega) (by omega) s1
  have t3 : s'.length ≤ 1048576 := by omega
  have m4 := markIntS_eq (p := s') (k := 1) (by omega) (by omega) t3
  have m5 := heldIntS_eq (L := s'.length) (k := 1) (by omega) (by omega) t3
  simp only [toProgram_eq s1, Option.bind_some, t1, t2, eqProgram_refl s1, eqIntS_eq t3, m1, m4, m5]
  have e1 : ¬ k1 < 0 := by omega
  have e2 : ¬ (1 : Int) + (s'.length : Int) < 0 := by omega
  simp [e1, e2]
end Go.Proofs.Ytknlknnihinmjaa
