/- The plain law of this claim: PathOk. No program in sight. -/
import Derived.Test.YtdkfoghhjkjjlaaP8
namespace Go.Proofs.Ytdkfoghhjkjjlaa
open Go.GL
set_option linter.unusedSimpArgs false
set_option maxRecDepth 100000
theorem all_gen {α : Type} {l : List α} {b : α → Bool} (G : α → Int → Option (Int ⊕ (Unit ⊕ Bool))) (hG : ∀ (k : Nat) (x : α), l[k]? = some x → G x k = if b x = true then some (.inl (w64 ((k : Int) + 1))) else some (.inr (.inr false))) (hb : l.length ≤ 1048576) {n : Nat} (hn : l.length < n) :
    iterN (fun (s1 : Int) => if (decide (s1 < (len l))) then (get? l s1).bind fun x1 => G x1 s1 else some (.inr (.inl ()))) n 0 = some (if l.all b = true then (.inl () : Unit ⊕ Bool) else .inr false) := by
  obtain ⟨r, g1, g2⟩ := iter_all (l := l) (n := n) (σ := Unit) (ρ := Unit ⊕ Bool) (B := fun (s1 : Int) => if (decide (s1 < (len l))) then (get? l s1).bind fun x1 => G x1 s1 else some (.inr (.inl ())))
    (fun k _ => (k : Int)) (fun ys _ => ys.all b = l.all b) (fun r => r = if l.all b = true then (.inl () : Unit ⊕ Bool) else .inr false)
    (fun k x xs a hk' hx hlen hi => by
      have hd : decide ((k : Int) < len l) = true := by rw [len_nat]; simp; omega
      simp only [hd, if_true, get?_nat, hx, Option.bind_some]
      rw [hG k x hx]
      rw [List.all_cons] at hi
      cases c : b x
      · rw [c, Bool.false_and] at hi
        exact .inr ⟨_, rfl, by rw [← hi]; rfl⟩
      · rw [c, Bool.true_and] at hi
        exact .inl ⟨(), by rw [w64_id (by omega) (by omega)]; rfl, hi⟩)
    (fun a hi => by
      have hd : decide ((l.length : Int) < len l) = false := by rw [len_nat]; simp
      simp only [hd, Bool.false_eq_true, if_false]
      exact ⟨_, rfl, by rw [← hi]; rfl⟩) (a := ()) rfl hn
  rw [show ((0 : Nat) : Int) = 0 from rfl] at g1
  rw [g1, g2]
def tsB (l : List D.Term) (w : Int) : Bool := l.all fun t => termB t && t.W == w
theorem sml_mem {l : List D.Term} (h : sml l) {x : D.Term} (hx : x ∈ l) : msz x ≤ 1048576 := by
  have := mszs_mem hx
  unfold sml at h; omega
theorem sml_len {l : List D.Term} (h : sml l) : l.length ≤ 1048576 := by unfold sml at h; omega
theorem spec_terms {l : List D.Term} {w : Int} (h : sml l) : spec_l06Terms fuel l w = some (tsB l w) := by
  unfold spec_l06Terms
  have hl := all_gen (l := l) (b := fun t => termB t && t.W == w) (fun x1 s1 => (spec_TermOk fuel x1).bind fun x2 =>
      if ((!x2) || (x1.W != w)) then
        some (.inr (.inr false))
      else
        some (.inl ((w64 (s1 + 1))))) (fun k x hx => by
    simp only [spec_term (sml_mem h (List.mem_of_getElem? hx)), Option.bind_some]
    cases termB x <;> by_cases c : x.W = w <;> simp [c]) (sml_len h) (lt_fuel (sml_len h))
  rw [hl]
  unfold tsB
  cases l.all (fun t => termB t && t.W == w) <;> rfl
theorem impl_terms {l : List D.Term} {w : Int} (h : sml l) : impl_termsOk fuel w l = some (tsB l w) := by
  unfold impl_termsOk
  have hl := all_gen (l := l) (b := fun t => termB t && t.W == w) (fun x1 s1 =>
      (if (x1.W != w) then some default else (get? l s1)).bind fun x2 =>
      (if (x1.W != w) then some default else (impl_TermOk fuel x2)).bind fun x3 =>
      if ((x1.W != w) || (!x3)) then
        some (.inr (.inr false))
      else
        some (.inl ((w64 (s1 + 1))))) (fun k x hx => by
    have ht := impl_term (sml_mem h (List.mem_of_getElem? hx))
    by_cases c : x.W = w
    · simp only [c, bne_self_eq_false, Bool.false_eq_true, if_false, get?_nat, hx, Option.bind_some, ht, Bool.false_or]
      cases termB x <;> simp
    · have c' : (x.W != w) = true := by simpa using c
      have c2 : (x.W == w) = false := by simpa using c
      simp [c', c2]) (sml_len h) (lt_fuel (sml_len h))
  rw [hl]
  unfold tsB
  cases l.all (fun t => termB t && t.W == w) <;> rfl
theorem impl_turns {l : List Int} (h : l.length ≤ 1048576) : impl_turnsOk fuel l = some (l.all fun x => decide (0 ≤ x ∧ x ≤ 1)) := by
  unfold impl_turnsOk
  have hl := all_gen (l := l) (b := fun x => decide (0 ≤ x ∧ x ≤ 1)) (fun x1 s1 =>
      if ((x1 != 0) && (x1 != 1)) then
        some (.inr (.inr false))
      else
        some (.inl ((w64 (s1 + 1))))) (fun k x hx => by
    by_cases c : 0 ≤ x ∧ x ≤ 1
    · have : x = 0 ∨ x = 1 := by omega
      rcases this with rfl | rfl <;> simp
    · have h1 : (x != 0) = true := by simp; omega
      have h2 : (x != 1) = true := by simp; omega
      rw [h1, h2, decide_eq_false c]; rfl) h (lt_fuel h)
  rw [hl]
  cases l.all (fun x => decide (0 ≤ x ∧ x ≤ 1)) <;> rfl
def pathB (p : D.Program) (s : D.Path) : Bool :=
  progB p && decide (0 ≤ s.Pc ∧ s.Pc ≤ len p.Code) && (len s.Regs == 4) && (len s.Mem == p.Mem) && decide (len s.Stack ≤ 3) && decide (0 ≤ s.In ∧ s.In ≤ p.In) && decide (len s.Out ≤ 6) && decide (0 ≤ s.Code ∧ s.Code ≤ 9) && decide (0 ≤ s.Steps ∧ s.Steps ≤ 400) && decide (len s.Cond ≤ 60) && decide (len s.Turns ≤ 60) &&
  (s.Stack.all fun x => decide (0 ≤ x ∧ x ≤ len p.Code)) && (s.Turns.all fun x => decide (0 ≤ x ∧ x ≤ 1)) && tsB s.Regs p.W && tsB s.Mem p.W && tsB s.Out p.W && tsB s.Cond 1
theorem spec_path {p : D.Program} {s : D.Path} (hp : p.Code.length ≤ 1048576) (hs : smallP s) : spec_PathOk fuel p s = some (pathB p s) := by
  obtain ⟨s1, s2, s3, s4, s5, s6⟩ := hs
  unfold spec_PathOk
  have l1 := all_loop (l := s.Stack) (f := fun x => spec_l01In x 0 (len p.Code)) (b := fun x => decide (0 ≤ x ∧ x ≤ len p.Code)) (fun x _ => l01In_eq _ _ _) (by omega) s.Stack.length 0 (by omega) fuel (lt_fuel s3)
  have l2 := all_loop (l := s.Turns) (f := fun x => spec_l01In x 0 1) (b := fun x => decide (0 ≤ x ∧ x ≤ 1)) (fun x _ => l01In_eq _ _ _) (by omega) s.Turns.length 0 (by omega) fuel (lt_fuel s6)
  rw [show ((0 : Nat) : Int) = 0 from rfl, List.drop_zero] at l1 l2
  rw [l1, l2]
  simp only [spec_prog hp, l01In_eq, Option.bind_some, ite_def2, ite_def, spec_terms s1, spec_terms s2, spec_terms s4, spec_terms s5]
  unfold pathB
  cases progB p
  · simp
  by_cases a2 : 0 ≤ s.Pc ∧ s.Pc ≤ len p.Code
  rotate_left
  · simp [a2]
  by_cases a3 : len s.Regs = 4
  rotate_left
  · simp [a2, a3]
  by_cases a4 : len s.Mem = p.Mem
  rotate_left
  · simp [a2, a3, a4]
  by_cases a5 : len s.Stack ≤ 3
  rotate_left
  · have : len s.Stack > 3 := by omega
    simp [a2, a3, a4, a5, this]
  by_cases a6 : 0 ≤ s.In ∧ s.In ≤ p.In
  rotate_left
  · simp [a2, a3, a4, a5, a6, Int.not_lt.2 a5]
  by_cases a7 : len s.Out ≤ 6
  rotate_left
  · have : len s.Out > 6 := by omega
    simp [a2, a3, a4, a5, a6, a7, Int.not_lt.2 a5, this]
  by_cases a8 : 0 ≤ s.Code ∧ s.Code ≤ 9
  rotate_left
  · simp [a2, a3, a4, a5, a6, a7, a8, Int.not_lt.2 a5, Int.not_lt.2 a7]
  by_cases a9 : 0 ≤ s.Steps ∧ s.Steps ≤ 400
  rotate_left
  · simp [a2, a3, a4, a5, a6, a7, a8, a9, Int.not_lt.2 a5, Int.not_lt.2 a7]
  by_cases b1 : len s.Cond ≤ 60
  rotate_left
  · have : len s.Cond > 60 := by omega
    simp [a2, a3, a4, a5, a6, a7, a8, a9, b1, Int.not_lt.2 a5, Int.not_lt.2 a7, this]
  by_cases b2 : len s.Turns ≤ 60
  rotate_left
  · have : len s.Turns > 60 := by omega
    simp [a2, a3, a4, a5, a6, a7, a8, a9, b1, b2, Int.not_lt.2 a5, Int.not_lt.2 a7, Int.not_lt.2 b1, this]
  simp only [a2, a3, a4, a5, a6, a7, a8, a9, b1, b2, gt_iff_lt, Int.not_lt.2 a5, Int.not_lt.2 a7, Int.not_lt.2 b1, Int.not_lt.2 b2, decide_true, decide_false, Bool.not_true, Bool.or_false, Bool.or_self, Bool.false_eq_true, if_false, bne_self_eq_false, beq_self_eq_true, Bool.true_and, Bool.and_true, Bool.and_self, and_self]
  cases s.Stack.all (fun x => decide (0 ≤ x ∧ x ≤ len p.Code))
  · simp
  cases s.Turns.all (fun x => decide (0 ≤ x ∧ x ≤ 1))
  · simp
  cases tsB s.Regs p.W <;> cases tsB s.Mem p.W <;> cases tsB s.Out p.W <;> cases tsB s.Cond 1 <;> rfl
theorem impl_path {p : D.Program} {s : D.Path} (hp : p.Code.length ≤ 1048576) (hs : smallP s) : impl_PathOk fuel p s = some (pathB p s) := by
  obtain ⟨s1, s2, s3, s4, s5, s6⟩ := hs
  have hpl : ∀ x, impl_isPlace p x = some (decide (0 ≤ x ∧ x ≤ len p.Code)) := fun x => by simp [impl_isPlace]
  have hfu : ∀ x, impl_fuelOk x = some (decide (0 ≤ x ∧ x ≤ 400)) := fun x => by simp [impl_fuelOk]
  unfold impl_PathOk
  have l1 := all_loop (l := s.Stack) (f := fun x => impl_isPlace p x) (b := fun x => decide (0 ≤ x ∧ x ≤ len p.Code)) (fun x _ => hpl _) (by omega) s.Stack.length 0 (by omega) fuel (lt_fuel s3)
  rw [show ((0 : Nat) : Int) = 0 from rfl, List.drop_zero] at l1
  rw [l1]
  simp only [impl_prog hp, hpl, hfu, impl_turns s6, Option.bind_some, ite_def2, ite_def, impl_terms s1, impl_terms s2, impl_terms s4, impl_terms s5]
  unfold pathB
  cases progB p
  · simp
  by_cases a2 : 0 ≤ s.Pc ∧ s.Pc ≤ len p.Code
  rotate_left
  · simp [a2]
  by_cases a3 : len s.Regs = 4
  rotate_left
  · simp [a2, a3]
  by_cases a4 : len s.Mem = p.Mem
  rotate_left
  · simp [a2, a3, a4]
  by_cases a5 : len s.Stack ≤ 3
  rotate_left
  · have : len s.Stack > 3 := by omega
    simp [a2, a3, a4, a5, this]
  by_cases a6 : 0 ≤ s.In ∧ s.In ≤ p.In
  rotate_left
  · have : s.In < 0 ∨ s.In > p.In := by omega
    rcases this with h | h <;> simp [a2, a3, a4, a5, a6, Int.not_lt.2 a5, h]
  by_cases a7 : len s.Out ≤ 6
  rotate_left
  · have : len s.Out > 6 := by omega
    simp [a2, a3, a4, a5, a6, a7, Int.not_lt.2 a5, this]
  have c6 : ¬ s.In < 0 := by omega
  have c6' : ¬ s.In > p.In := by omega
  simp only [a2, a3, a4, a5, a6, a7, c6, c6', gt_iff_lt, Int.not_lt.2 a5, Int.not_lt.2 a7, Int.not_lt.2 a6.2, decide_true, decide_false, Bool.not_true, Bool.or_false, Bool.or_self, Bool.false_eq_true, if_false, bne_self_eq_false, beq_self_eq_true, Bool.true_and, Bool.and_true, Bool.and_self, and_self]
  cases hst : s.Stack.all (fun x => decide (0 ≤ x ∧ x ≤ len p.Code))
  · simp
  simp only [if_true]
  by_cases a8 : 0 ≤ s.Code ∧ s.Code ≤ 9
  rotate_left
  · have : s.Code < 0 ∨ 9 < s.Code := by omega
    rcases this with h | h <;> simp [a8, h]
  have c8 : ¬ s.Code < 0 := by omega
  have c8' : ¬ 9 < s.Code := by omega
  by_cases a9 : 0 ≤ s.Steps ∧ s.Steps ≤ 400
  rotate_left
  · simp [a8, a9, c8, c8']
  by_cases b1 : len s.Cond ≤ 60
  rotate_left
  · have : 60 < len s.Cond := by omega
    simp [a8, a9, b1, c8, c8', this]
  by_cases b2 : len s.Turns ≤ 60
  rotate_left
  · have : 60 < len s.Turns := by omega
    simp [a8, a9, b1, b2, c8, c8', this]
  simp only [a8, a9, b1, b2, c8, c8', Int.not_lt.2 b1, Int.not_lt.2 b2, decide_true, decide_false, Bool.not_true, Bool.or_false, Bool.false_or, Bool.or_self, Bool.false_eq_true, if_false, Bool.true_and, Bool.and_true, Bool.and_self, and_self]
  cases s.Turns.all (fun x => decide (0 ≤ x ∧ x ≤ 1))
  · simp
  cases tsB s.Regs p.W <;> cases tsB s.Mem p.W <;> cases tsB s.Out p.W <;> cases tsB s.Cond 1 <;> rfl
theorem fin_FnExactPathOk (x : D.Program) (hx : fit_Program x) (y : D.Path) (hy : fit_Path y) : ∃ n, laws_FnExactPathOk n x y = some true := by
  refine ⟨fuel, ?_⟩
  obtain ⟨r1, h1, c1⟩ := szProgram_eq (m := 1048576) hx (by omega) (by omega)
  unfold laws_FnExactPathOk
  rw [h1]
  simp only [Option.bind_some]
  rcases c1 with c1 | ⟨c1, c1', s1⟩
  · rw [if_pos (by simpa using c1)]
  rw [if_neg (by simp; omega)]
  obtain ⟨r2, h2, c2⟩ := szPath_eq (m := r1) hy c1 c1'
  rw [h2]
  simp only [Option.bind_some]
  rcases c2 with c2 | ⟨c2, s2⟩
  · rw [if_pos (by simpa using c2)]
  rw [if_neg (by simp; omega)]
  simp only [toProgram_eq s1, toPath_eq s2, Option.bind_some, spec_path s1 s2, impl_path s1 s2, eqProgram_refl s1, eqPath_refl s2]
  simp
end Go.Proofs.Ytdkfoghhjkjjlaa
