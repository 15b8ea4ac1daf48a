/- The plain law of this claim: HoldsPath. No program in sight. -/
import Derived.Test.YtfbcccfbikeibaaGreatDoorPLib
namespace Go.Proofs.YtfbcccfbikeibaaGreatDoor
open Go.GL
set_option linter.unusedSimpArgs false
set_option maxRecDepth 100000
/-- a term at values: its word, and whether there is one -/
def ev (v : List D.Value) (t : D.Term) : Int × Bool := (spec_l02Eval fuel t v).getD (0, false)
theorem ev_both {p : D.Program} {l : List Int} (hl : l.length ≤ 3) (hw : l.all (wordB p.W) = true) {t : D.Term} (ht : termB t = true) (hs : msz t ≤ 1048576) : spec_l02Eval fuel t (vals p.W l) = some (ev (vals p.W l) t) ∧ impl_EvalTerm fuel t (vals p.W l) = some (ev (vals p.W l) t) := by
  obtain ⟨r, b, h1, h2⟩ := impl_eval ht hs (vals_ok hl hw) (impl_valsok hl hw)
  unfold ev
  rw [h1, h2]; exact ⟨rfl, rfl⟩
theorem spec_evals {p : D.Program} {l : List Int} (hl : l.length ≤ 3) (hw : l.all (wordB p.W) = true) {ts : List D.Term} {w : Int} (hts : tsB ts w = true) (hs : sml ts) (hlen : ts.length ≤ 1000) :
    spec_l06Evals fuel ts (vals p.W l) = some (if ts.all (fun t => (ev (vals p.W l) t).2) = true then (ts.map fun t => (ev (vals p.W l) t).1, true) else ([], false)) := by
  have hev : ∀ t ∈ ts, spec_l02Eval fuel t (vals p.W l) = some (ev (vals p.W l) t) := fun t ht => by
    unfold tsB at hts
    rw [List.all_eq_true] at hts
    have := hts t ht
    simp only [Bool.and_eq_true] at this
    exact (ev_both hl hw this.1 (sml_mem hs ht)).1
  unfold spec_l06Evals
  obtain ⟨r, g1, g2⟩ := iter_all (l := ts) (n := fuel) (σ := List Int) (ρ := (List Int) ⊕ ((List Int) × Bool)) (B := fun (s1 : Int × (List Int)) =>
    if (decide (s1.1 < (len ts))) then
      (get? ts s1.1).bind fun x1 =>
      (spec_l02Eval fuel x1 (vals p.W l)).bind fun x2 =>
      if (!x2.2) then
        some (.inr (.inr (([] : List Int), false)))
      else
        (app? s1.2 ([x2.1] : List Int)).bind fun x3 =>
        some (.inl ((w64 (s1.1 + 1)), x3))
    else
      some (.inr (.inl (s1.2)))) (fun k a => ((k : Int), a)) (fun ys a => ∃ pre, pre ++ ys = ts ∧ a = (pre.map fun t => (ev (vals p.W l) t).1) ∧ pre.all (fun t => (ev (vals p.W l) t).2) = true)
    (fun r => r = if ts.all (fun t => (ev (vals p.W l) t).2) = true then (.inl (ts.map fun t => (ev (vals p.W l) t).1) : (List Int) ⊕ ((List Int) × Bool)) else .inr ([], false))
    (fun k x xs a hk' hx hlen' ⟨pre, h1, h2, h3⟩ => by
      have hd : decide ((k : Int) < len ts) = true := by rw [len_nat]; simp; omega
      have hpl : pre.length ≤ ts.length := by rw [← h1]; simp
      simp only [hd, if_true, get?_nat, hx, Option.bind_some, hev x (List.mem_of_getElem? hx)]
      cases c : (ev (vals p.W l) x).2
      · refine .inr ⟨_, rfl, ?_⟩
        have : ts.all (fun t => (ev (vals p.W l) t).2) = false := by rw [← h1, List.all_append, List.all_cons, c]; simp
        rw [this]; rfl
      · simp only [Bool.not_true, Bool.false_eq_true, if_false]
        rw [app_len (by rw [h2]; simp; omega)]
        exact .inl ⟨(pre ++ [x]).map fun t => (ev (vals p.W l) t).1, by simp only [Option.bind_some]; rw [w64_id (by omega) (by omega), h2]; simp, pre ++ [x], by rw [List.append_assoc]; exact h1, rfl, by simp [h3, c]⟩)
    (fun a ⟨pre, h1, h2, h3⟩ => by
      have hd : decide ((ts.length : Int) < len ts) = false := by rw [len_nat]; simp
      simp only [hd, Bool.false_eq_true, if_false]
      rw [List.append_nil] at h1
      subst h1
      exact ⟨_, rfl, by rw [h3, h2]; rfl⟩) (a := []) ⟨[], rfl, rfl, rfl⟩ (by unfold fuel; omega)
  rw [show ((0 : Nat) : Int) = 0 from rfl] at g1
  rw [g1, g2]
  cases ts.all (fun t => (ev (vals p.W l) t).2) <;> rfl
theorem ones_loop {l : List Int} (b : Bool) (hl : l.length ≤ 1048576) : iterN (fun (s1 : Bool × Int) =>
      if (decide (s1.2 < (len l))) then
        (get? l s1.2).bind fun x5 =>
        some (.inl ((s1.1 && (x5 == 1)), (w64 (s1.2 + 1))))
      else
        some (.inr (s1.1))) fuel (b, 0) = some (b && l.all (· == 1)) := by
  obtain ⟨r, g1, g2⟩ := iter_all (l := l) (n := fuel) (σ := Bool) (ρ := Bool) (B := fun (s1 : Bool × Int) =>
      if (decide (s1.2 < (len l))) then
        (get? l s1.2).bind fun x5 =>
        some (.inl ((s1.1 && (x5 == 1)), (w64 (s1.2 + 1))))
      else
        some (.inr (s1.1))) (fun k a => (a, (k : Int))) (fun ys a => (a && ys.all (· == 1)) = (b && l.all (· == 1))) (fun r => r = (b && l.all (· == 1)))
    (fun k x xs a hk' hx hlen hi => by
      have hd : decide ((k : Int) < len l) = true := by rw [len_nat]; simp; omega
      simp only [hd, if_true, get?_nat, hx, Option.bind_some]
      exact .inl ⟨a && (x == 1), by rw [w64_id (by omega) (by omega)]; rfl, by rw [List.all_cons, ← Bool.and_assoc] at hi; exact hi⟩)
    (fun a hi => by
      have hd : decide ((l.length : Int) < len l) = false := by rw [len_nat]; simp
      simp only [hd, Bool.false_eq_true, if_false]
      exact ⟨_, rfl, by rw [← hi]; simp⟩) (a := b) rfl (lt_fuel hl)
  rw [show ((0 : Nat) : Int) = 0 from rfl] at g1
  rw [g1, g2]
/-- whether a path holds for inputs -/
def holdB (p : D.Program) (s : D.Path) (l : List Int) : Bool := pathB p s && inB p l && s.Cond.all fun t => (ev (vals p.W l) t).2 && (ev (vals p.W l) t).1 == 1
theorem pathB_cond {p : D.Program} {s : D.Path} (h : pathB p s = true) : tsB s.Cond 1 = true ∧ s.Cond.length ≤ 60 := by
  unfold pathB at h
  simp only [Bool.and_eq_true, decide_eq_true_eq, len_nat] at h
  refine ⟨by grind, by grind⟩
theorem inB_all {p : D.Program} {l : List Int} (h : inB p l = true) : l.all (wordB p.W) = true ∧ l.length ≤ 3 := by
  unfold inB at h
  simp only [Bool.and_eq_true, len_nat, beq_iff_eq] at h
  have := progB_in h.1
  exact ⟨h.2.1, by omega⟩
theorem spec_holds {p : D.Program} {s : D.Path} {l : List Int} (hp : p.Code.length ≤ 1048576) (hs : smallP s) (hl : l.length ≤ 1048576) : spec_HoldsPath fuel p s l = some (holdB p s l) := by
  unfold spec_HoldsPath holdB
  rw [spec_path hp hs]
  simp only [Option.bind_some]
  cases hpb : pathB p s
  · rfl
  simp only [Bool.not_true, Bool.false_eq_true, if_false, spec_inputs hp hl, Option.bind_some, Bool.false_or, Bool.true_and]
  cases hib : inB p l
  · rfl
  obtain ⟨h1, h2⟩ := pathB_cond hpb
  obtain ⟨h3, h4⟩ := inB_all hib
  obtain ⟨_, _, _, _, s5, _⟩ := hs
  simp only [Bool.not_true, Bool.false_eq_true, if_false, spec_vals h4, Option.bind_some, spec_evals h4 h3 h1 s5 (by omega), Bool.true_and]
  cases hall : s.Cond.all fun t => (ev (vals p.W l) t).2
  · simp only [Bool.false_eq_true, if_false]
    rw [ones_loop false (by simp)]
    simp only [Option.bind_some, Bool.false_and, Option.some.injEq]
    rw [List.all_eq_false] at hall
    obtain ⟨t, ht, hf⟩ := hall
    symm
    rw [List.all_eq_false]
    exact ⟨t, ht, by simp at hf; simp [hf]⟩
  · simp only [if_true]
    rw [ones_loop true (by simp; omega)]
    simp only [Option.bind_some, Bool.true_and, Option.some.injEq, List.all_map]
    rw [List.all_eq_true] at hall
    rw [Bool.eq_iff_iff, List.all_eq_true, List.all_eq_true]
    exact ⟨fun h t ht => by simpa [hall t ht] using h t ht, fun h t ht => by simpa [hall t ht] using h t ht⟩
theorem impl_holds {p : D.Program} {s : D.Path} {l : List Int} (hp : p.Code.length ≤ 1048576) (hs : smallP s) (hl : l.length ≤ 1048576) : impl_HoldsPath fuel p s l = some (holdB p s l) := by
  unfold impl_HoldsPath holdB
  rw [impl_path hp hs]
  simp only [Option.bind_some]
  cases hpb : pathB p s
  · rfl
  simp only [Bool.not_true, Bool.false_eq_true, if_false, impl_inputs hp hl, Option.bind_some, Bool.false_or, Bool.true_and]
  cases hib : inB p l
  · rfl
  obtain ⟨h1, h2⟩ := pathB_cond hpb
  obtain ⟨h3, h4⟩ := inB_all hib
  obtain ⟨_, _, _, _, s5, _⟩ := hs
  simp only [Bool.not_true, Bool.false_eq_true, if_false, impl_vals h4, Option.bind_some, Bool.true_and]
  have hlp := all_gen (l := s.Cond) (b := fun t => (ev (vals p.W l) t).2 && (ev (vals p.W l) t).1 == 1) (fun x4 s1 => (impl_EvalTerm fuel x4 (vals p.W l)).bind fun x5 =>
        if ((!x5.2) || (x5.1 != 1)) then
          some (.inr (.inr false))
        else
          some (.inl ((w64 (s1 + 1))))) (fun k x hx => by
    have hx := List.mem_of_getElem? hx
    have ht : termB x = true := by
      unfold tsB at h1
      rw [List.all_eq_true] at h1
      have := h1 x hx
      simp only [Bool.and_eq_true] at this
      exact this.1
    simp only [(ev_both h4 h3 ht (sml_mem s5 hx)).2, Option.bind_some]
    cases (ev (vals p.W l) x).2 <;> by_cases c : (ev (vals p.W l) x).1 = 1 <;> simp [c]) (by omega) (lt_fuel (by omega))
  rw [hlp]
  cases s.Cond.all fun t => (ev (vals p.W l) t).2 && (ev (vals p.W l) t).1 == 1 <;> rfl
theorem fin_FnExactHoldsPath (x : D.Program) (hx : fit_Program x) (y : D.Path) (hy : fit_Path y) (z : List Int) (_ : fitList fitInt z) : ∃ n, laws_FnExactHoldsPath n x y z = some true := by
  refine ⟨fuel, ?_⟩
  unfold laws_FnExactHoldsPath
  by_cases c0 : z.length ≤ 1048576
  rotate_left
  · rw [if_pos (by rw [len_nat]; simp; omega)]
  rw [if_neg (by rw [len_nat]; simp; omega)]
  obtain ⟨r1, h1, c1⟩ := szProgram_eq (m := 1048576) hx (by omega) (by omega)
  rw [h1]
  simp only [Option.bind_some]
  rcases c1 with c1 | ⟨c1, c1', s1⟩
  · rw [if_pos (by simpa using c1)]
  rw [if_neg (by simp; omega)]
  obtain ⟨r2, h2, c2⟩ := szPath_eq (m := r1) hy c1 c1'
  rw [h2]
  simp only [Option.bind_some]
  rcases c2 with c2 | ⟨c2, s2⟩
  · rw [if_pos (by simpa using c2)]
  rw [if_neg (by simp; omega)]
  simp only [toProgram_eq s1, toPath_eq s2, toIntS_eq c0, Option.bind_some, spec_holds s1 s2 c0, impl_holds s1 s2 c0, eqProgram_refl s1, eqPath_refl s2, eqIntS_eq c0]
  simp
end Go.Proofs.YtfbcccfbikeibaaGreatDoor
