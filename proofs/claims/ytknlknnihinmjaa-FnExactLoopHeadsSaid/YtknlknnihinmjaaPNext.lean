/- What may come next: both say the same, and it is within the program. No program in sight. -/
import Derived.Test.YtknlknnihinmjaaPlain
import Derived.Test.YtknlknnihinmjaaPAsc
namespace Go.Proofs.Ytknlknnihinmjaa
open Go.GL
theorem asc2 (a b : Int) : impl_ascending fuel [a, b] = some (if b < a then [b, a] else if b > a then [a, b] else [a]) := by
  obtain ⟨r, h1, h2, h3, -⟩ := asc_eq (l := [a, b]) (n := fuel) (by simp) (lt_fuel (by simp))
  rw [h1]
  congr 1
  refine strict_ext h2 ?_ fun y => ?_
  · split
    · simpa
    · split
      · simpa
      · simp
  · rw [h3 y]
    split
    · simp [or_comm]
    · split
      · simp
      · have : b = a := by omega
        subst this
        simp
theorem NextOf_eq {x : D.Program} {f : Int} (h : x.Code.length ≤ 1048576) (hf : fitInt f) : ∃ r, spec_NextOf fuel x f = some r ∧ impl_NextOf fuel x f = some r ∧ r.length ≤ 1048576 := by
  unfold spec_NextOf impl_NextOf
  rw [spec_prog h, impl_prog h]
  simp only [Option.bind_some]
  cases hp : progB x with
  | false => exact ⟨[], by simp, by simp, by simp⟩
  | true =>
    have hw : w64 (len x.Code - 1) = (x.Code.length : Int) - 1 := by rw [len_nat, w64_id (by omega) (by omega)]
    by_cases c : 0 ≤ f ∧ f < (x.Code.length : Int)
    · have e1 : spec_l01In f 0 (w64 (len x.Code - 1)) = some true := by
        rw [hw]; unfold spec_l01In; simp; omega
      have e2 : decide (f < 0) = false := decide_eq_false (by omega)
      have e3 : decide (f ≥ len x.Code) = false := decide_eq_false (by rw [len_nat]; omega)
      have e4 : get? x.Code f = some (x.Code[f.toNat]'(by omega)) := by
        unfold get?; rw [if_pos c.1, List.getElem?_eq_getElem]
      simp only [Bool.not_true, Bool.false_eq_true, if_false, Option.bind_some, e1, e2, e3, e4, Bool.or_self]
      generalize x.Code[f.toNat] = i
      by_cases c9 : i.Op = 9
      · simp only [c9, beq_self_eq_true, if_true]
        exact ⟨_, rfl, rfl, by simp⟩
      by_cases c12 : i.Op = 12 ∨ i.Op = 14
      · have q1 : (i.Op == 9) = false := by simp; omega
        have q2 : (i.Op == 12 || i.Op == 14) = true := by simp; omega
        have q3 : (i.Op == 10 || i.Op == 11) = false := by simp; omega
        simp only [q1, q2, q3, Bool.false_eq_true, if_false, if_true]
        exact ⟨_, rfl, rfl, by simp⟩
      have q1 : (i.Op == 9) = false := by simp; omega
      have q2 : (i.Op == 12 || i.Op == 14) = false := by simp; omega
      by_cases c10 : i.Op = 10 ∨ i.Op = 11
      · have q3 : (i.Op == 10 || i.Op == 11) = true := by simp; omega
        simp only [q1, q2, q3, Bool.false_eq_true, if_false, if_true, asc2, Option.bind_some]
        by_cases d1 : i.B < w64 (f + 1)
        · simp only [d1, decide_true, if_true]
          exact ⟨_, rfl, rfl, by simp⟩
        · by_cases d2 : i.B > w64 (f + 1)
          · simp only [d1, d2, decide_true, decide_false, if_true, if_false, Bool.false_eq_true]
            exact ⟨_, rfl, rfl, by simp⟩
          · simp only [d1, d2, decide_false, if_false, Bool.false_eq_true]
            exact ⟨_, rfl, rfl, by simp⟩
      · have q3 : (i.Op == 10 || i.Op == 11) = false := by simp; omega
        simp only [q1, q2, q3, Bool.false_eq_true, if_false]
        exact ⟨_, rfl, rfl, by simp⟩
    · have e1 : spec_l01In f 0 (w64 (len x.Code - 1)) = some false := by
        rw [hw]; unfold spec_l01In; simp; omega
      have e2 : (decide (f < 0) || decide (f ≥ len x.Code)) = true := by
        rw [Bool.or_eq_true, decide_eq_true_eq, decide_eq_true_eq, len_nat]; omega
      refine ⟨[], ?_, ?_, by simp⟩
      · simp [e1]
      · rw [if_pos (by simpa using e2)]

theorem ins_place {w n : Int} {p : D.Ins} (h : insB w n p = true) (ho : p.Op = 9 ∨ p.Op = 10 ∨ p.Op = 11) : 0 ≤ p.B ∧ p.B ≤ n := by
  have h1 := impl_ins w n p
  rw [h] at h1
  unfold impl_insOk at h1
  rcases ho with ho | ho | ho <;> simp [ho, impl_isReg] at h1 <;> grind
theorem ins_place' {x : D.Program} (h : progB x = true) : (∀ p ∈ x.Code, insB x.W x.Code.length p = true) ∧ 1 ≤ x.Code.length ∧ x.Code.length ≤ 40 := by
  unfold progB at h
  simp only [Bool.and_eq_true, List.all_eq_true, decide_eq_true_eq] at h
  exact ⟨h.2, by omega, by omega⟩
/-- where one may come from f, in a program that is right -/
def nxt (x : D.Program) (f : Int) : List Int := (spec_NextOf fuel x f).getD []
theorem nxt_eq {x : D.Program} (h : progB x = true) {f : Int} (hf : 0 ≤ f ∧ f ≤ (x.Code.length : Int)) :
    spec_NextOf fuel x f = some (nxt x f) ∧ impl_NextOf fuel x f = some (nxt x f) ∧ (nxt x f).length ≤ 2 ∧ ∀ m ∈ nxt x f, 0 ≤ m ∧ m ≤ (x.Code.length : Int) := by
  obtain ⟨h1, h2, h3⟩ := ins_place' h
  obtain ⟨r, e1, e2, -⟩ := NextOf_eq (x := x) (f := f) (by omega) ⟨by omega, by omega⟩
  have hn : nxt x f = r := by unfold nxt; rw [e1]; rfl
  rw [hn]
  refine ⟨e1, e2, ?_⟩
  unfold spec_NextOf at e1
  rw [spec_prog (by omega), h] at e1
  have hw : w64 (len x.Code - 1) = (x.Code.length : Int) - 1 := by rw [len_nat, w64_id (by omega) (by omega)]
  have w1 : w64 (f + 1) = f + 1 := w64_id (by omega) (by omega)
  have e3 : spec_l01In f 0 (w64 (len x.Code - 1)) = some (decide (0 ≤ f ∧ f ≤ (x.Code.length : Int) - 1)) := by rw [hw]; simp [spec_l01In]
  simp only [Option.bind_some, Bool.not_true, Bool.false_eq_true, if_false, e3, Bool.false_or, w1] at e1
  by_cases hlt : f ≤ (x.Code.length : Int) - 1
  · rw [decide_eq_true ⟨hf.1, hlt⟩] at e1
    have hfl : f.toNat < x.Code.length := by omega
    have e4 : get? x.Code f = some x.Code[f.toNat] := by
      unfold get?; rw [if_pos hf.1, List.getElem?_eq_getElem hfl]
    have hin := h1 x.Code[f.toNat] (List.getElem_mem hfl)
    simp only [Bool.not_true, Bool.false_eq_true, if_false, e4, Option.bind_some] at e1
    generalize x.Code[f.toNat] = i at e1 hin
    by_cases c9 : i.Op = 9
    · obtain ⟨b1, b2⟩ := ins_place hin (.inl c9)
      simp [c9] at e1; subst e1
      exact ⟨by simp, fun m hm => by simp at hm; subst hm; exact ⟨b1, b2⟩⟩
    by_cases c12 : i.Op = 12 ∨ i.Op = 14
    · have q1 : (i.Op == 9) = false := by simp; omega
      have q2 : (i.Op == 12 || i.Op == 14) = true := by simp; omega
      simp [q1, q2] at e1
      grind
    by_cases c10 : i.Op = 10 ∨ i.Op = 11
    · obtain ⟨b1, b2⟩ := ins_place hin (.inr c10)
      have q1 : (i.Op == 9) = false := by simp; omega
      have q2 : (i.Op == 12 || i.Op == 14) = false := by simp; omega
      have q3 : (i.Op == 10 || i.Op == 11) = true := by simp; omega
      simp only [q1, q2, q3, Bool.false_eq_true, if_false, if_true] at e1
      split at e1
      · obtain rfl := Option.some.inj e1
        exact ⟨by simp, fun m hm => by simp at hm; omega⟩
      · split at e1
        · obtain rfl := Option.some.inj e1
          exact ⟨by simp, fun m hm => by simp at hm; omega⟩
        · obtain rfl := Option.some.inj e1
          exact ⟨by simp, fun m hm => by simp at hm; omega⟩
    · have q1 : (i.Op == 9) = false := by simp; omega
      have q2 : (i.Op == 12 || i.Op == 14) = false := by simp; omega
      have q3 : (i.Op == 10 || i.Op == 11) = false := by simp; omega
      simp only [q1, q2, q3, Bool.false_eq_true, if_false] at e1
      obtain rfl := Option.some.inj e1
      exact ⟨by simp, fun m hm => by simp at hm; omega⟩
  · rw [decide_eq_false (by omega)] at e1
    simp at e1; subst e1
    exact ⟨by simp, fun m hm => by simp at hm⟩
end Go.Proofs.Ytknlknnihinmjaa
