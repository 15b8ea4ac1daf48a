/- The plain law of this claim. No program in sight. -/
import Derived.Test.YtfccdlggophhoaaPlain
namespace Go.Proofs.Ytfccdlggophhoaa
open Go.GL
theorem fin_FnExactCircuitOk (x : D.Circuit) (hx : fit_Circuit x) : ∃ n, laws_FnExactCircuitOk n x = some true := by
  refine ⟨fuel, ?_⟩
  obtain ⟨r1, h1, c1⟩ := szCircuit_eq (m := 1048576) hx (by omega) (by omega)
  unfold laws_FnExactCircuitOk
  rw [h1]
  simp only [Option.bind_some]
  rcases c1 with c1 | ⟨c1, c1', s1⟩
  · rw [if_pos (by simpa using c1)]
  rw [if_neg (by simp; omega)]
  simp only [toCircuit_eq s1, Option.bind_some, spec_circ hx s1, impl_circ hx s1, eqCircuit_eq s1]
  simp
end Go.Proofs.Ytfccdlggophhoaa
