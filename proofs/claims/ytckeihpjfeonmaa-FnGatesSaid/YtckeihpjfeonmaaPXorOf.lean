/- The plain law of this claim. No program in sight. -/
import Derived.Test.YtckeihpjfeonmaaPGates
namespace Go.Proofs.Ytckeihpjfeonmaa
open Go.GL
theorem impl_XorOf_eq {c : D.Circuit} {a b : Int} (hc : fit_Circuit c) (hg : c.Gates.length ≤ 1048576) : impl_XorOf fuel c a b = some (gateP c [a, b] (xorP (c, false) a b)) := by
  unfold impl_XorOf
  have h : impl_gateOf__impl_XorOf_1 fuel c [a, b] a b = some (gateP c [a, b] (xorP (c, false) a b)) :=
    impl_gate (f := fun m => impl_XorOf_1 m a b) hc hg (by simp) (fun hc hl m hm => by
      obtain ⟨m', e, r⟩ := impl_xor hc (hl a (by simp)) (hl b (by simp)) m hm
      exact ⟨m', by simp only [impl_XorOf_1]; simp only at e; rw [e]; rfl, r⟩)
  rw [h]
  rfl
end Go.Proofs.Ytckeihpjfeonmaa
