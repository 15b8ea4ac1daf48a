/- The plain law of this claim. No program in sight. -/
import Derived.Test.YtckeihpjfeonmaaPGates
namespace Go.Proofs.Ytckeihpjfeonmaa
open Go.GL
theorem impl_OrOf_eq {c : D.Circuit} {a b : Int} (hc : fit_Circuit c) (hg : c.Gates.length ≤ 1048576) : impl_OrOf fuel c a b = some (gateP c [a, b] (orP (c, false) a b)) := by
  unfold impl_OrOf
  have h : impl_gateOf__impl_OrOf_1 fuel c [a, b] a b = some (gateP c [a, b] (orP (c, false) a b)) :=
    impl_gate (f := fun m => impl_OrOf_1 m a b) hc hg (by simp) (fun hc hl m hm => by
      obtain ⟨m', e, r⟩ := impl_or hc (hl a (by simp)) (hl b (by simp)) m hm
      exact ⟨m', by simp only [impl_OrOf_1]; simp only at e; rw [e]; rfl, r⟩)
  rw [h]
  rfl
end Go.Proofs.Ytckeihpjfeonmaa
