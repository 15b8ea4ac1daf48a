/- The plain law of this claim. No program in sight. -/
import Derived.Test.YtckeihpjfeonmaaPGates
namespace Go.Proofs.Ytckeihpjfeonmaa
open Go.GL
theorem impl_IfOf_eq {c : D.Circuit} {s a b : Int} (hc : fit_Circuit c) (hg : c.Gates.length ≤ 1048576) : impl_IfOf fuel c s a b = some (gateP c [s, a, b] (ifP (c, false) s a b)) := by
  unfold impl_IfOf
  have h : impl_gateOf__impl_IfOf_1 fuel c [s, a, b] s a b = some (gateP c [s, a, b] (ifP (c, false) s a b)) :=
    impl_gate (f := fun m => impl_IfOf_1 m s a b) hc hg (by simp) (fun hc hl m hm => by
      obtain ⟨m', e, r⟩ := impl_if hc (hl s (by simp)) (hl a (by simp)) (hl b (by simp)) m hm
      exact ⟨m', by simp only [impl_IfOf_1]; simp only at e; rw [e]; rfl, r⟩)
  rw [h]
  rfl
end Go.Proofs.Ytckeihpjfeonmaa
