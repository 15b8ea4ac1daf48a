/- Own library, part l: parts of an own slice that are still parts of it; copy and clear. -/
import Derived.Test.YtmmhbhhcloobnaaGreatDoorGLk
namespace Go.GL
open Go.RowKit
section
variable {w : World} {F : Nat → Prop} {α : Type} [Rep α] {b a' : Option Addr} {n0 c c' : Nat} {lo : Int} {l : List α} {n : Nat}
theorem view_rv (h : RV w F (.slice b n0 c) l) (hv : VW (Rep.sz α) b c lo a' c') (hn : lo.toNat + n ≤ l.length) : RV w F (.slice a' n c') (vcut l lo n) := by
  obtain ⟨b', cap, he, hc1, hc2, hc3⟩ := h.slice
  simp only [Value.slice.injEq] at he
  obtain ⟨rfl, rfl, rfl⟩ := he
  obtain ⟨h0, rfl, rfl⟩ := hv
  have hlen : (vcut l lo n).length = n := by unfold vcut; rw [List.length_take, List.length_drop]; omega
  have e : vcut l lo n = (l.take (lo.toNat + n)).drop lo.toNat := by
    unfold vcut; rw [List.drop_take]; congr 1; omega
  have key : RV w F (.slice (if c = lo.toNat then b else b.map (·.add (lo.toNat * Rep.sz α))) (vcut l lo n).length (c - lo.toNat)) (vcut l lo n) := by
    refine RV.mk_slice (by omega) (by omega) fun hne => ?_
    have hpos : 0 < n := by
      rcases Nat.eq_zero_or_pos n with h | h
      · subst h; exact absurd (by simp [vcut]) hne
      · exact h
    have hlne : l ≠ [] := by rintro rfl; simp at hn; omega
    obtain ⟨ad, rfl, hF, hel⟩ := hc3 hlne
    rw [if_neg (by omega)]
    refine ⟨ad.add (lo.toNat * Rep.sz α), rfl, by rw [add_block]; exact hF, ?_⟩
    rw [e]
    exact cut_elems hel _ _
  rw [hlen] at key
  exact key
end
section
variable {P : Program} {α : Type} [Flat α] {w : World} {E : TypeId} {go : Option Nat} {G : Nat → Prop} {v : Value} {l : List α}
end
section
variable {P : Program} {ops : Array Oper} {Q : Exit → Act → World → Prop} {a : Act} {w w0 : World} {S S0 F F0 : Nat → Prop} {N : Nat} {σ : List (Nat × Value)} {k d : Nat} {t ty : TypeId} {x y : Operand} {pos : String} {af : Array Edge}
  {L : List HP} {E : TypeId} {α : Type} [Flat α] {l m : List α} {b a' : Option Addr} {n0 c c' n : Nat} {lo : Int} {u : Value}
end
end Go.GL

/-! ### clear -/
namespace Go.GL
open Go.RowKit
section
variable {P : Program} {ops : Array Oper} {Q : Exit → Act → World → Prop} {a : Act} {w w0 : World} {S S0 F F0 : Nat → Prop} {N : Nat} {σ : List (Nat × Value)} {k : Nat} {t ty : TypeId} {x : Operand} {pos : String} {af : Array Edge}
  {L : List HP} {E : TypeId} {α : Type} [Flat α] {l : List α} {b a' : Option Addr} {n0 c c' n : Nat} {lo : Int}
end
end Go.GL

/-! ### what a call gives back that is only read, beside what it owns -/
namespace Go.GL
open Go.RowKit
structure RvF (w w' : World) (S0 F0 S' F' : Nat → Prop) : Prop where
  dj : ∀ k, S' k → F' k → False
  bd : ∀ k, F' k → k < w'.heap.size
  sub : ∀ k, F' k → F0 k ∨ S0 k ∨ w.heap.size ≤ k
end Go.GL
