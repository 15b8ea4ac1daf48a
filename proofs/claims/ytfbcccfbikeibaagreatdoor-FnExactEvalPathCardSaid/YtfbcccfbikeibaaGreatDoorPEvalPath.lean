/- The plain law of this claim: EvalPath. No program in sight. -/
import Derived.Test.YtfbcccfbikeibaaGreatDoorPLib
namespace Go.Proofs.YtfbcccfbikeibaaGreatDoor
open Go.GL
set_option linter.unusedSimpArgs false
set_option maxRecDepth 100000
theorem impl_evals {p : D.Program} {l : List Int} (hl : l.length ≤ 3) (hw : l.all (wordB p.W) = true) {ts : List D.Term} {w : Int} (hts : tsB ts w = true) (hs : sml ts) (hlen : ts.length ≤ 1000) :
    impl_evalTerms fuel ts (vals p.W l) = some (if ts.all (fun t => (ev (vals p.W l) t).2) = true then (ts.map fun t => (ev (vals p.W l) t).1, true) else ([], false)) := by
  have hev : ∀ t ∈ ts, impl_EvalTerm fuel t (vals p.W l) = some (ev (vals p.W l) t) := fun t ht => by
    unfold tsB at hts
    rw [List.all_eq_true] at hts
    have := hts t ht
    simp only [Bool.and_eq_true] at this
    exact (ev_both hl hw this.1 (sml_mem hs ht)).2
  unfold impl_evalTerms
  have hm : mk? (len ts) (0 : Int) = some (List.replicate ts.length 0) := by
    unfold mk?
    rw [len_nat, if_pos (by unfold room; omega)]; simp
  rw [hm]
  simp only [Option.bind_some]
  obtain ⟨r, g1, g2⟩ := iter_all (l := ts) (n := fuel) (σ := List Int) (ρ := (List Int) ⊕ ((List Int) × Bool)) (B := fun (s1 : Int × (List Int)) =>
    if (decide (s1.1 < (len ts))) then
      (get? ts s1.1).bind fun x2 =>
      (impl_EvalTerm fuel x2 (vals p.W l)).bind fun x3 =>
      if (!x3.2) then
        some (.inr (.inr (([] : List Int), false)))
      else
        (set? s1.2 s1.1 x3.1).bind fun x4 =>
        some (.inl ((w64 (s1.1 + 1)), x4))
    else
      some (.inr (.inl (s1.2)))) (fun k a => ((k : Int), a)) (fun ys a => ∃ pre, pre ++ ys = ts ∧ a = (pre.map fun t => (ev (vals p.W l) t).1) ++ List.replicate ys.length 0 ∧ pre.all (fun t => (ev (vals p.W l) t).2) = true)
    (fun r => r = if ts.all (fun t => (ev (vals p.W l) t).2) = true then (.inl (ts.map fun t => (ev (vals p.W l) t).1) : (List Int) ⊕ ((List Int) × Bool)) else .inr ([], false))
    (fun k x xs a hk' hx hlen' ⟨pre, h1, h2, h3⟩ => by
      have hd : decide ((k : Int) < len ts) = true := by rw [len_nat]; simp; omega
      have hpl : pre.length = k := by
        have := congrArg List.length h1
        simp at this hlen'; omega
      simp only [hd, if_true, get?_nat, hx, Option.bind_some, hev x (List.mem_of_getElem? hx)]
      cases c : (ev (vals p.W l) x).2
      · refine .inr ⟨_, rfl, ?_⟩
        have : ts.all (fun t => (ev (vals p.W l) t).2) = false := by rw [← h1, List.all_append, List.all_cons, c]; simp
        rw [this]; rfl
      · simp only [Bool.not_true, Bool.false_eq_true, if_false]
        rw [set?_nat (by rw [h2]; simp; omega)]
        refine .inl ⟨(pre ++ [x]).map (fun t => (ev (vals p.W l) t).1) ++ List.replicate xs.length 0, ?_, pre ++ [x], by rw [List.append_assoc]; exact h1, rfl, by simp [h3, c]⟩
        simp only [Option.bind_some]
        rw [w64_id (by omega) (by omega), h2]
        have e : (pre.map fun t => (ev (vals p.W l) t).1).length = k := by simp [hpl]
        rw [List.set_append_right _ _ (by omega), e, Nat.sub_self]
        simp [List.replicate_succ])
    (fun a ⟨pre, h1, h2, h3⟩ => by
      have hd : decide ((ts.length : Int) < len ts) = false := by rw [len_nat]; simp
      simp only [hd, Bool.false_eq_true, if_false]
      rw [List.append_nil] at h1
      subst h1
      exact ⟨_, rfl, by rw [h3, h2]; simp⟩) (a := List.replicate ts.length 0) ⟨[], rfl, rfl, rfl⟩ (by unfold fuel; omega)
  rw [show ((0 : Nat) : Int) = 0 from rfl] at g1
  rw [g1, g2]
  cases ts.all (fun t => (ev (vals p.W l) t).2) <;> rfl
def st0 : D.State := ⟨0, [], [], [], 0, [], 0, 0⟩
def evs (p : D.Program) (l : List Int) (ts : List D.Term) : List Int × Bool := if ts.all (fun t => (ev (vals p.W l) t).2) = true then (ts.map fun t => (ev (vals p.W l) t).1, true) else ([], false)
/-- what EvalPath gives -/
def evalS (p : D.Program) (s : D.Path) (l : List Int) : D.State × Bool :=
  if holdB p s l = true then
    if (((!(evs p l s.Regs).2) || (!(evs p l s.Mem).2)) || (!(evs p l s.Out).2)) = true then (st0, false)
    else (⟨s.Pc, (evs p l s.Regs).1, (evs p l s.Mem).1, s.Stack, s.In, (evs p l s.Out).1, s.Code, s.Steps⟩, true)
  else (st0, false)
theorem pathB_parts {p : D.Program} {s : D.Path} (h : pathB p s = true) : tsB s.Regs p.W = true ∧ tsB s.Mem p.W = true ∧ tsB s.Out p.W = true ∧ s.Regs.length ≤ 1000 ∧ s.Mem.length ≤ 1000 ∧ s.Out.length ≤ 1000 ∧ s.Stack.length ≤ 1000 := by
  have hm : progB p = true ∧ len s.Mem = p.Mem := by
    unfold pathB at h
    simp only [Bool.and_eq_true, decide_eq_true_eq, beq_iff_eq] at h
    exact ⟨by grind, by grind⟩
  have hp : p.Mem ≤ 6 := by
    have := hm.1
    unfold progB at this
    simp only [Bool.and_eq_true, decide_eq_true_eq] at this
    omega
  have hml := hm.2
  rw [len_nat] at hml
  unfold pathB at h
  simp only [Bool.and_eq_true, decide_eq_true_eq, beq_iff_eq, len_nat] at h
  have h1 : (s.Regs.length : Int) = 4 := by grind
  have h2 : (s.Out.length : Int) ≤ 6 := by grind
  have h3 : (s.Stack.length : Int) ≤ 3 := by grind
  exact ⟨by grind, by grind, by grind, by omega, by omega, by omega, by omega⟩
theorem holdB_parts {p : D.Program} {s : D.Path} {l : List Int} (h : holdB p s l = true) : pathB p s = true ∧ inB p l = true := by
  unfold holdB at h
  simp only [Bool.and_eq_true] at h
  exact h.1
theorem app_nil {l : List Int} (h : l.length ≤ 1048576) : app? ([] : List Int) l = some l := by
  rw [app_len (by simpa using h)]; rfl
theorem spec_evalS {p : D.Program} {s : D.Path} {l : List Int} (hp : p.Code.length ≤ 1048576) (hs : smallP s) (hl : l.length ≤ 1048576) : spec_EvalPath fuel p s l = some (evalS p s l) := by
  unfold spec_EvalPath evalS
  rw [spec_holds hp hs hl]
  simp only [Option.bind_some]
  cases hh : holdB p s l
  · rfl
  obtain ⟨h1, h2⟩ := holdB_parts hh
  obtain ⟨t1, t2, t3, n1, n2, n3, n4⟩ := pathB_parts h1
  obtain ⟨h3, h4⟩ := inB_all h2
  obtain ⟨s1, s2, _, s4, _, _⟩ := hs
  simp only [Bool.not_true, Bool.false_eq_true, if_false, if_true, spec_vals h4, Option.bind_some, spec_evals h4 h3 t1 s1 n1, spec_evals h4 h3 t2 s2 n2, spec_evals h4 h3 t3 s4 n3, app_nil (show s.Stack.length ≤ 1048576 by omega)]
  show (if (((!(evs p l s.Regs).2) || (!(evs p l s.Mem).2)) || (!(evs p l s.Out).2)) = true then _ else _) = _
  split <;> rfl
theorem impl_evalS {p : D.Program} {s : D.Path} {l : List Int} (hp : p.Code.length ≤ 1048576) (hs : smallP s) (hl : l.length ≤ 1048576) : impl_EvalPath fuel p s l = some (evalS p s l) := by
  unfold impl_EvalPath evalS
  rw [impl_holds hp hs hl]
  simp only [Option.bind_some]
  cases hh : holdB p s l
  · rfl
  obtain ⟨h1, h2⟩ := holdB_parts hh
  obtain ⟨t1, t2, t3, n1, n2, n3, n4⟩ := pathB_parts h1
  obtain ⟨h3, h4⟩ := inB_all h2
  obtain ⟨s1, s2, _, s4, _, _⟩ := hs
  unfold slices_Clone___int_int_
  simp only [Bool.not_true, Bool.false_eq_true, if_false, if_true, impl_vals h4, Option.bind_some, impl_evals h4 h3 t1 s1 n1, impl_evals h4 h3 t2 s2 n2, impl_evals h4 h3 t3 s4 n3, app_nil (show s.Stack.length ≤ 1048576 by omega)]
  show (if (((!(evs p l s.Regs).2) || (!(evs p l s.Mem).2)) || (!(evs p l s.Out).2)) = true then _ else _) = _
  split <;> rfl
theorem evs_len (p : D.Program) (l : List Int) (ts : List D.Term) : (evs p l ts).1.length ≤ ts.length := by
  unfold evs
  split <;> simp
theorem small_eval {p : D.Program} {s : D.Path} {l : List Int} : small (evalS p s l).1 := by
  unfold evalS
  split
  · rename_i hh
    obtain ⟨h1, h2⟩ := holdB_parts hh
    obtain ⟨_, _, _, n1, n2, n3, n4⟩ := pathB_parts h1
    have e1 := evs_len p l s.Regs
    have e2 := evs_len p l s.Mem
    have e3 := evs_len p l s.Out
    split
    · simp [small, st0]
    · exact ⟨by show (evs p l s.Regs).1.length ≤ _; omega, by show (evs p l s.Mem).1.length ≤ _; omega, by show s.Stack.length ≤ _; omega, by show (evs p l s.Out).1.length ≤ _; omega⟩
  · simp [small, st0]
theorem fin_FnExactEvalPath (x : D.Program) (hx : fit_Program x) (y : D.Path) (hy : fit_Path y) (z : List Int) (_ : fitList fitInt z) : ∃ n, laws_FnExactEvalPath n x y z = some true := by
  refine ⟨fuel, ?_⟩
  unfold laws_FnExactEvalPath
  by_cases c0 : z.length ≤ 1048576
  rotate_left
  · rw [if_pos (by rw [len_nat]; simp; omega)]
  rw [if_neg (by rw [len_nat]; simp; omega)]
  obtain ⟨r1, h1, c1⟩ := szProgram_eq (m := 1048576) hx (by omega) (by omega)
  rw [h1]
  simp only [Option.bind_some]
  rcases c1 with c1 | ⟨c1, c1', s1⟩
  · rw [if_pos (by simpa using c1)]
  rw [if_neg (by simp; omega)]
  obtain ⟨r2, h2, c2⟩ := szPath_eq (m := r1) hy c1 c1'
  rw [h2]
  simp only [Option.bind_some]
  rcases c2 with c2 | ⟨c2, s2⟩
  · rw [if_pos (by simpa using c2)]
  rw [if_neg (by simp; omega)]
  have t3 : small (evalS x y z).1 := small_eval
  obtain ⟨k1, q1, m1, b1, b1'⟩ := markProgram_ok (x := x) (k := 1) (by omega) (by omega) s1
  obtain ⟨k2, q2, m2, b2, b2'⟩ := mark_path (x := y) (k := k1) s2 (by omega) (by omega)
  have m3 := markIntS_eq (p := z) (k := k2) (by omega) (by omega) c0
  obtain ⟨k4, q4, m4, b4, hh⟩ := markState_ok t3
  simp only [toProgram_eq s1, toPath_eq s2, toIntS_eq c0, Option.bind_some, spec_evalS s1 s2 c0, impl_evalS s1 s2 c0, eqProgram_refl s1, eqPath_refl s2, eqState_eq t3, eqIntS_eq c0, m1, m2, m3, m4, hh]
  have e1 : ¬ k2 + (z.length : Int) < 0 := by omega
  have e2 : ¬ k4 < 0 := by omega
  simp [e1, e2]
end Go.Proofs.YtfbcccfbikeibaaGreatDoor
