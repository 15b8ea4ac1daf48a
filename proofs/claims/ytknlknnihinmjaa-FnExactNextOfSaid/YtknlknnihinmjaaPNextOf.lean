/- The plain law of this claim. No program in sight. -/
import Derived.Test.YtknlknnihinmjaaPlain
namespace Go.Proofs.Ytknlknnihinmjaa
open Go.GL
theorem k01 : w64 (0 + 1) = 1 := by decide
theorem k11 : w64 (1 + 1) = 2 := by decide
theorem k1m : w64 (1 - 1) = 0 := by decide
theorem k20 : w64 (2 - 0) = 2 := by decide
theorem k0 : w64 0 = 0 := by decide
theorem k1 : w64 1 = 1 := by decide
theorem k2 : w64 2 = 2 := by decide
theorem ins2 (n : Nat) (a b : Int) : slices_insertionSortOrdered_int_ (n + 4) [a, b] 0 2 = some (if b < a then [b, a] else [a, b]) := by
  unfold slices_insertionSortOrdered_int_
  by_cases h : b < a
  · simp [iterN, get?, set?, cmp_Less_int_, cmp_isNaN_int_, h, k0, k1, k2]
  · simp [iterN, get?, set?, cmp_Less_int_, cmp_isNaN_int_, h, k0, k1, k2]
theorem pdq2 (n : Nat) (a b x : Int) : slices_pdqsortOrdered_int_ (n + 4) [a, b] 0 2 x = some (if b < a then [b, a] else [a, b]) := by
  unfold slices_pdqsortOrdered_int_
  simp [iterN, k2, ins2]
theorem len2 : ∃ x, math_bits_Len (IntKind.u64.wrap 2) = some x := ⟨2, by decide⟩
theorem sort2 (n : Nat) (a b : Int) : slices_Sort___int_int_ (n + 4) [a, b] = some (if b < a then [b, a] else [a, b]) := by
  unfold slices_Sort___int_int_
  obtain ⟨x, hx⟩ := len2
  have hl : len [a, b] = 2 := rfl
  rw [hl, hx]
  simp only [Option.bind_some]
  rw [pdq2]
  rfl
theorem comp2 (n : Nat) (a b : Int) : slices_Compact___int_int_ (n + 4) [a, b] = some (if a = b then [a] else [a, b]) := by
  unfold slices_Compact___int_int_
  have hl : len [a, b] = 2 := rfl
  rw [hl]
  by_cases h : a = b
  · subst h
    simp [iterN, get?, cut?, vcut, vclear, len, k0, k1, k2]
  · have h' : ¬ b = a := fun e => h e.symm
    simp [iterN, get?, h, h', k0, k1, k2]
theorem asc2 (a b : Int) : impl_ascending fuel [a, b] = some (if b < a then [b, a] else if b > a then [a, b] else [a]) := by
  unfold impl_ascending
  have hf : fuel = 1048573 + 4 := rfl
  rw [hf, sort2]
  simp only [Option.bind_some]
  by_cases h : b < a
  · rw [if_pos h, if_pos h, comp2, if_neg (by omega)]
    rfl
  · rw [if_neg h, if_neg h, comp2]
    by_cases h2 : b > a
    · rw [if_pos h2, if_neg (by omega)]; rfl
    · rw [if_neg h2, if_pos (by omega)]; rfl
theorem NextOf_eq {x : D.Program} {f : Int} (h : x.Code.length ≤ 1048576) (hf : fitInt f) : ∃ r, spec_NextOf fuel x f = some r ∧ impl_NextOf fuel x f = some r ∧ r.length ≤ 1048576 := by
  unfold spec_NextOf impl_NextOf
  rw [spec_prog h, impl_prog h]
  simp only [Option.bind_some]
  cases hp : progB x with
  | false => exact ⟨[], by simp, by simp, by simp⟩
  | true =>
    have hw : w64 (len x.Code - 1) = (x.Code.length : Int) - 1 := by rw [len_nat, w64_id (by omega) (by omega)]
    by_cases c : 0 ≤ f ∧ f < (x.Code.length : Int)
    · have e1 : spec_l01In f 0 (w64 (len x.Code - 1)) = some true := by
        rw [hw]; unfold spec_l01In; simp; omega
      have e2 : decide (f < 0) = false := decide_eq_false (by omega)
      have e3 : decide (f ≥ len x.Code) = false := decide_eq_false (by rw [len_nat]; omega)
      have e4 : get? x.Code f = some (x.Code[f.toNat]'(by omega)) := by
        unfold get?; rw [if_pos c.1, List.getElem?_eq_getElem]
      simp only [Bool.not_true, Bool.false_eq_true, if_false, Option.bind_some, e1, e2, e3, e4, Bool.or_self]
      generalize x.Code[f.toNat] = i
      by_cases c9 : i.Op = 9
      · simp only [c9, beq_self_eq_true, if_true]
        exact ⟨_, rfl, rfl, by simp⟩
      by_cases c12 : i.Op = 12 ∨ i.Op = 14
      · have q1 : (i.Op == 9) = false := by simp; omega
        have q2 : (i.Op == 12 || i.Op == 14) = true := by simp; omega
        have q3 : (i.Op == 10 || i.Op == 11) = false := by simp; omega
        simp only [q1, q2, q3, Bool.false_eq_true, if_false, if_true]
        exact ⟨_, rfl, rfl, by simp⟩
      have q1 : (i.Op == 9) = false := by simp; omega
      have q2 : (i.Op == 12 || i.Op == 14) = false := by simp; omega
      by_cases c10 : i.Op = 10 ∨ i.Op = 11
      · have q3 : (i.Op == 10 || i.Op == 11) = true := by simp; omega
        simp only [q1, q2, q3, Bool.false_eq_true, if_false, if_true, asc2, Option.bind_some]
        by_cases d1 : i.B < w64 (f + 1)
        · simp only [d1, decide_true, if_true]
          exact ⟨_, rfl, rfl, by simp⟩
        · by_cases d2 : i.B > w64 (f + 1)
          · simp only [d1, d2, decide_true, decide_false, if_true, if_false, Bool.false_eq_true]
            exact ⟨_, rfl, rfl, by simp⟩
          · simp only [d1, d2, decide_false, if_false, Bool.false_eq_true]
            exact ⟨_, rfl, rfl, by simp⟩
      · have q3 : (i.Op == 10 || i.Op == 11) = false := by simp; omega
        simp only [q1, q2, q3, Bool.false_eq_true, if_false]
        exact ⟨_, rfl, rfl, by simp⟩
    · have e1 : spec_l01In f 0 (w64 (len x.Code - 1)) = some false := by
        rw [hw]; unfold spec_l01In; simp; omega
      have e2 : (decide (f < 0) || decide (f ≥ len x.Code)) = true := by
        rw [Bool.or_eq_true, decide_eq_true_eq, decide_eq_true_eq, len_nat]; omega
      refine ⟨[], ?_, ?_, by simp⟩
      · simp [e1]
      · rw [if_pos (by simpa using e2)]
theorem fin_FnExactNextOf (x : D.Program) (hx : fit_Program x) (f : Int) (hf : fitInt f) : ∃ n, laws_FnExactNextOf n x f = some true := by
  refine ⟨fuel, ?_⟩
  unfold laws_FnExactNextOf
  obtain ⟨r1, h1, c1⟩ := szProgram_eq (m := 1048576) hx (by omega) (by omega)
  rw [h1]
  simp only [Option.bind_some]
  rcases c1 with c1 | ⟨c1, c1', s1⟩
  · rw [if_pos (by simpa using c1)]
  rw [if_neg (by simp; omega)]
  obtain ⟨s', t1, t2, t3⟩ := NextOf_eq (f := f) s1 hf
  obtain ⟨k1, q1, m1, b1, b1'⟩ := markProgram_ok (x := x) (k := 1) (by omega) (by omega) s1
  have m4 := markIntS_eq (p := s') (k := 1) (by omega) (by omega) t3
  have m5 := heldIntS_eq (L := s'.length) (k := 1) (by omega) (by omega) t3
  simp only [toProgram_eq s1, Option.bind_some, t1, t2, eqProgram_refl s1, eqIntS_eq t3, m1, m4, m5]
  have e1 : ¬ k1 < 0 := by omega
  have e2 : ¬ (1 : Int) + (s'.length : Int) < 0 := by omega
  simp [e1, e2]
end Go.Proofs.Ytknlknnihinmjaa
