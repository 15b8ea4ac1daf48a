/- The plain law of this claim. No program in sight. -/
import Derived.Test.YtckeihpjfeonmaaPGates
namespace Go.Proofs.Ytckeihpjfeonmaa
open Go.GL
theorem spec_XorOf_eq {c : D.Circuit} {a b : Int} (hc : fit_Circuit c) (hg : c.Gates.length ≤ 1048576) : spec_XorOf fuel c a b = some (gateP c [a, b] (xorP (c, false) a b)) :=
  spec_gate (f := fun n => spec_l04Net_l04Xor fuel n a b) hc hg (by simp) (fun hc hl => spec_xor hc (hl a (by simp)) (hl b (by simp)))
theorem impl_XorOf_eq {c : D.Circuit} {a b : Int} (hc : fit_Circuit c) (hg : c.Gates.length ≤ 1048576) : impl_XorOf fuel c a b = some (gateP c [a, b] (xorP (c, false) a b)) := by
  unfold impl_XorOf
  have h : impl_gateOf__impl_XorOf_1 fuel c [a, b] a b = some (gateP c [a, b] (xorP (c, false) a b)) :=
    impl_gate (f := fun m => impl_XorOf_1 m a b) hc hg (by simp) (fun hc hl m hm => by
      obtain ⟨m', e, r⟩ := impl_xor hc (hl a (by simp)) (hl b (by simp)) m hm
      exact ⟨m', by simp only [impl_XorOf_1]; simp only at e; rw [e]; rfl, r⟩)
  rw [h]
  rfl
theorem fin_FnExactXorOf (x : D.Circuit) (hx : fit_Circuit x) (a : Int) (_ : fitInt a) (b : Int) (_ : fitInt b) : ∃ n, laws_FnExactXorOf n x a b = some true := by
  refine ⟨fuel, ?_⟩
  unfold laws_FnExactXorOf
  obtain ⟨r1, h1, c1⟩ := szCircuit_eq (m := 1048576) hx (by omega) (by omega)
  rw [h1]
  simp only [Option.bind_some]
  rcases c1 with c1 | ⟨c1, c1', s1⟩
  · rw [if_pos (by simpa using c1)]
  rw [if_neg (by simp; omega)]
  have hl := gateP_len (c := x) (l := [a, b]) (r := xorP (x, false) a b) (fun hc hl => xor_good hc (hl a (by simp)) (hl b (by simp)))
  simp only [toCircuit_eq s1, Option.bind_some, spec_XorOf_eq hx s1, impl_XorOf_eq hx s1]
  generalize gateP x [a, b] (xorP (x, false) a b) = R at hl ⊢
  have m1 := markCircuit_eq (x := x) (k := 1) (by omega) (by omega) s1
  have m2 := markCircuit_eq (x := R.1) (k := 1) (by omega) (by omega) hl
  have m3 := heldCircuit_eq (i := R.1.Inputs) (L := R.1.Gates.length) (k := 1) (by omega) (by omega) hl
  simp only [eqCircuit_eq hl, eqCircuit_eq s1, m1, m2, m3, Option.bind_some]
  have e1 : ¬ (1 : Int) + 2 * (x.Gates.length : Int) < 0 := by omega
  have e2 : ¬ (1 : Int) + 2 * (R.1.Gates.length : Int) < 0 := by omega
  simp [e1, e2]
end Go.Proofs.Ytckeihpjfeonmaa
