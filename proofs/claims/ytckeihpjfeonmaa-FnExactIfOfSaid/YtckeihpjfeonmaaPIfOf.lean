/- The plain law of this claim. No program in sight. -/
import Derived.Test.YtckeihpjfeonmaaPGates
namespace Go.Proofs.Ytckeihpjfeonmaa
open Go.GL
theorem spec_IfOf_eq {c : D.Circuit} {s a b : Int} (hc : fit_Circuit c) (hg : c.Gates.length ≤ 1048576) : spec_IfOf fuel c s a b = some (gateP c [s, a, b] (ifP (c, false) s a b)) :=
  spec_gate (f := fun n => spec_l04Net_l04If fuel n s a b) hc hg (by simp) (fun hc hl => spec_if hc (hl s (by simp)) (hl a (by simp)) (hl b (by simp)))
theorem impl_IfOf_eq {c : D.Circuit} {s a b : Int} (hc : fit_Circuit c) (hg : c.Gates.length ≤ 1048576) : impl_IfOf fuel c s a b = some (gateP c [s, a, b] (ifP (c, false) s a b)) := by
  unfold impl_IfOf
  have h : impl_gateOf__impl_IfOf_1 fuel c [s, a, b] s a b = some (gateP c [s, a, b] (ifP (c, false) s a b)) :=
    impl_gate (f := fun m => impl_IfOf_1 m s a b) hc hg (by simp) (fun hc hl m hm => by
      obtain ⟨m', e, r⟩ := impl_if hc (hl s (by simp)) (hl a (by simp)) (hl b (by simp)) m hm
      exact ⟨m', by simp only [impl_IfOf_1]; simp only at e; rw [e]; rfl, r⟩)
  rw [h]
  rfl
theorem fin_FnExactIfOf (x : D.Circuit) (hx : fit_Circuit x) (s : Int) (_ : fitInt s) (a : Int) (_ : fitInt a) (b : Int) (_ : fitInt b) : ∃ n, laws_FnExactIfOf n x s a b = some true := by
  refine ⟨fuel, ?_⟩
  unfold laws_FnExactIfOf
  obtain ⟨r1, h1, c1⟩ := szCircuit_eq (m := 1048576) hx (by omega) (by omega)
  rw [h1]
  simp only [Option.bind_some]
  rcases c1 with c1 | ⟨c1, c1', s1⟩
  · rw [if_pos (by simpa using c1)]
  rw [if_neg (by simp; omega)]
  have hl := gateP_len (c := x) (l := [s, a, b]) (r := ifP (x, false) s a b) (fun hc hl => if_good hc (hl s (by simp)) (hl a (by simp)) (hl b (by simp)))
  simp only [toCircuit_eq s1, Option.bind_some, spec_IfOf_eq hx s1, impl_IfOf_eq hx s1]
  generalize gateP x [s, a, b] (ifP (x, false) s a b) = R at hl ⊢
  have m1 := markCircuit_eq (x := x) (k := 1) (by omega) (by omega) s1
  have m2 := markCircuit_eq (x := R.1) (k := 1) (by omega) (by omega) hl
  have m3 := heldCircuit_eq (i := R.1.Inputs) (L := R.1.Gates.length) (k := 1) (by omega) (by omega) hl
  simp only [eqCircuit_eq hl, eqCircuit_eq s1, m1, m2, m3, Option.bind_some]
  have e1 : ¬ (1 : Int) + 2 * (x.Gates.length : Int) < 0 := by omega
  have e2 : ¬ (1 : Int) + 2 * (R.1.Gates.length : Int) < 0 := by omega
  simp [e1, e2]
end Go.Proofs.Ytckeihpjfeonmaa
