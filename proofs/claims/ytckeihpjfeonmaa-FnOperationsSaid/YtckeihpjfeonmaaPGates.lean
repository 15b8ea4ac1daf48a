/- The plain laws of one gate. No program in sight. -/
import Derived.Test.YtckeihpjfeonmaaPB2
namespace Go.Proofs.Ytckeihpjfeonmaa
open Go.GL
def upG (k : Int) (L : Nat) : List D.Gate := (List.range L).map fun (j : Nat) => ⟨k + 2 * (j : Int), k + 2 * (j : Int) + 1⟩
theorem upG_len (k : Int) (L : Nat) : (upG k L).length = L := by simp [upG]
theorem upG_get {k : Int} {L i : Nat} (h : i < L) : (upG k L)[i]? = some ⟨k + 2 * (i : Int), k + 2 * (i : Int) + 1⟩ := by simp [upG, h]
def outP (r : Int × BS) : D.Circuit × Int × Bool := if r.2.2 then (⟨0, []⟩, 0, false) else (r.2.1, r.1, true)
def gateP (c : D.Circuit) (l : List Int) (r : Int × BS) : D.Circuit × Int × Bool := if circB2 c && l.all (litN (lines c)) then outP r else (⟨0, []⟩, 0, false)
theorem gateP_len {c : D.Circuit} {l : List Int} {r : Int × BS} (h : CircP c → (∀ x ∈ l, litN (lines c) x = true) → Good (c, false) r) : (gateP c l r).1.Gates.length ≤ 1048576 := by
  unfold gateP
  split
  · rename_i hh
    simp only [Bool.and_eq_true, List.all_eq_true] at hh
    have := (h (circP_iff.1 hh.1) hh.2).circ.len
    unfold outP
    split
    · simp
    · simp only; omega
  · simp
theorem impl_gate {c : D.Circuit} {l : List Int} {r : Int × BS} {f : D.builder → Option (Int × D.builder)} (hc : fit_Circuit c) (hg : c.Gates.length ≤ 1048576) (hl : l.length ≤ 1000)
    (h : CircP c → (∀ x ∈ l, litN (lines c) x = true) → ImplOp f (c, false) r) :
    ((impl_CircuitOk fuel c).bind fun x1 =>
  (if (!x1) then some default else (impl_linesOf c)).bind fun x2 =>
  (if (!x1) then some default else (impl_literalsOk fuel l x2)).bind fun x3 =>
  if ((!x1) || (!x3)) then
    some ((D.Circuit.mk 0 ([] : List D.Gate)), 0, false)
  else
    (impl_newBuilder fuel c).bind fun x4 =>
    (f x4).bind fun x5 =>
    if x5.2.full then
      some ((D.Circuit.mk 0 ([] : List D.Gate)), 0, false)
    else
      some (x5.2.c, x5.1, true)) = some (gateP c l r) := by
  rw [impl_circ hc hg]
  simp only [Option.bind_some]
  unfold gateP
  cases hb : circB2 c with
  | false => simp
  | true =>
    have hp := circP_iff.1 hb
    rw [impl_lines hp]
    simp only [Bool.not_true, Bool.false_eq_true, if_false, Option.bind_some, Bool.false_or, Bool.true_and]
    rw [impl_lits (by have := hp.lines0; omega) (by have := hp.lines1; omega) (by omega)]
    simp only [Option.bind_some]
    cases hll : l.all (litN (lines c)) with
    | false => simp
    | true =>
      obtain ⟨m, hm, hr⟩ := impl_new hp
      rw [hm]
      obtain ⟨m', hm', hr'⟩ := h hp (by simpa using hll) m hr
      simp only [Bool.not_true, Bool.false_eq_true, if_false, Option.bind_some, hm', if_true]
      unfold outP
      rw [hr'.full, hr'.c]
      cases r.2.2 <;> rfl
end Go.Proofs.Ytckeihpjfeonmaa
