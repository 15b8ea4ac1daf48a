/- The plain laws of one gate. No program in sight. -/
import Derived.Test.YtknlknnihinmjaaPB2
namespace Go.Proofs.Ytknlknnihinmjaa
open Go.GL
def upG (k : Int) (L : Nat) : List D.Gate := (List.range L).map fun (j : Nat) => ⟨k + 2 * (j : Int), k + 2 * (j : Int) + 1⟩
theorem upG_len (k : Int) (L : Nat) : (upG k L).length = L := by simp [upG]
theorem upG_get {k : Int} {L i : Nat} (h : i < L) : (upG k L)[i]? = some ⟨k + 2 * (i : Int), k + 2 * (i : Int) + 1⟩ := by simp [upG, h]
theorem markCircuit_eq {x : D.Circuit} {k : Int} (hk : 0 ≤ k) (hb : k ≤ 4000000000000) (hp : x.Gates.length ≤ 1048576) : laws_markCircuit fuel x k = some (k + 2 * x.Gates.length, ⟨x.Inputs, upG k x.Gates.length⟩) := by
  obtain ⟨r, hr, rfl⟩ := markGateS_ok hk hb hp
  unfold laws_markCircuit
  rw [hr]
  rfl
def outP (r : Int × BS) : D.Circuit × Int × Bool := if r.2.2 then (⟨0, []⟩, 0, false) else (r.2.1, r.1, true)
def gateP (c : D.Circuit) (l : List Int) (r : Int × BS) : D.Circuit × Int × Bool := if circB2 c && l.all (litN (lines c)) then outP r else (⟨0, []⟩, 0, false)
theorem gateP_len {c : D.Circuit} {l : List Int} {r : Int × BS} (h : CircP c → (∀ x ∈ l, litN (lines c) x = true) → Good (c, false) r) : (gateP c l r).1.Gates.length ≤ 1048576 := by
  unfold gateP
  split
  · rename_i hh
    simp only [Bool.and_eq_true, List.all_eq_true] at hh
    have := (h (circP_iff.1 hh.1) hh.2).circ.len
    unfold outP
    split
    · simp
    · simp only; omega
  · simp
end Go.Proofs.Ytknlknnihinmjaa
