/- The plain law of this claim. No program in sight. -/
import Derived.Test.YtbfphbpeajmihaaPG
namespace Go.Proofs.Ytbfphbpeajmihaa
open Go.GL
/-- what a step adds to the trace -/
def addF (x : D.Program) (y : D.State) : List Int := if y.Code = 0 ∧ y.Steps < 400 ∧ y.Pc ≠ (x.Code.length : Int) then [y.Pc] else []
def trF (x : D.Program) (l : List Int) (y : D.State) : Nat → List Int
  | 0 => []
  | k + 1 => trF x l y k ++ addF x (runF x l y k)
section
variable {x : D.Program} {y : D.State} {l : List Int}
theorem tr_len : ∀ k, (trF x l y k).length ≤ k
  | 0 => Nat.le_refl _
  | k + 1 => by
    have := tr_len k
    have e : (addF x (runF x l y k)).length ≤ 1 := by unfold addF; split <;> simp
    show (trF x l y k ++ addF x (runF x l y k)).length ≤ k + 1
    rw [List.length_append]; omega
theorem tr_done {k : Nat} (h : (runF x l y k).Code ≠ 0) : ∀ d, trF x l y (k + d) = trF x l y k
  | 0 => rfl
  | d + 1 => by
    show trF x l y (k + d) ++ addF x (runF x l y (k + d)) = _
    rw [tr_done h d, run_done h d]
    unfold addF
    rw [if_neg (fun hh => h hh.1)]; simp
theorem iteE_iff {α : Type} {c : Prop} [Decidable c] {a b r : α} : (if c then a else b) = r ↔ (c ∧ a = r) ∨ (¬ c ∧ b = r) := by
  by_cases h : c <;> simp [h]
theorem step_steps {s' : D.State} (h : spec_l05Step x y l = some s') (hs : 0 ≤ y.Steps ∧ y.Steps ≤ 400) : s'.Steps = if y.Code = 0 ∧ y.Steps < 400 ∧ y.Pc ≠ (x.Code.length : Int) then y.Steps + 1 else y.Steps := by
  have w1 : w64 (y.Steps + 1) = y.Steps + 1 := w64_id (by omega) (by omega)
  unfold spec_l05Step at h
  rw [w1] at h
  by_cases c : y.Code = 0 ∧ y.Steps < 400
  · have e1 : (y.Code != 0 || y.Steps == 400) = false := by simp [c.1]; omega
    rw [e1] at h
    simp only [Bool.false_eq_true, if_false] at h
    by_cases c2 : y.Pc = (x.Code.length : Int)
    · rw [if_pos (by rw [len_nat]; simpa using c2)] at h
      obtain rfl := Option.some.inj h
      rw [if_neg (by simp [c2])]
    · rw [if_neg (by rw [len_nat]; simpa using c2)] at h
      rw [if_pos ⟨c.1, c.2, c2⟩]
      obtain ⟨i, -, h⟩ := Option.bind_eq_some_iff.1 h
      obtain ⟨c3, -, h⟩ := Option.bind_eq_some_iff.1 h
      repeat' first
        | (cases h; rfl)
        | (rw [Option.bind_eq_some_iff] at h; obtain ⟨_, -, h⟩ := h)
        | (rw [iteE_iff] at h; rcases h with ⟨-, h⟩ | ⟨-, h⟩)
  · have e1 : (y.Code != 0 || y.Steps == 400) = true := by
      by_cases c3 : y.Code = 0
      · have : y.Steps = 400 := by
          have : ¬ y.Steps < 400 := fun h => c ⟨c3, h⟩
          omega
        simp [this]
      · simp [c3]
    rw [e1] at h
    obtain rfl := Option.some.inj h
    rw [if_neg (fun hh => c ⟨hh.1, hh.2.1⟩)]
end
theorem TraceOf_eq {x : D.Program} {l : List Int} {f : Int} (h : x.Code.length ≤ 1048576) (hl : l.length ≤ 1048576) : ∃ s', spec_TraceOf fuel x l f = some s' ∧ impl_TraceOf fuel x l f = some s' ∧ s'.length ≤ 1048576 := by
  unfold spec_TraceOf impl_TraceOf
  rw [(InputsOk_eq h hl).1, (InputsOk_eq h hl).2, spec_new h, impl_new h]
  simp only [Option.bind_some, spec_l01In, impl_fuelOk, ite_def2]
  by_cases c : inputsB x l = true ∧ 0 ≤ f ∧ f ≤ 400
  · obtain ⟨c1, c2, c3⟩ := c
    obtain ⟨hp, hlen, hlw⟩ := inputs_of c1
    have g := good_new hp
    have e1 : (!inputsB x l || !(if (!inputsB x l) = true then default else decide (f ≥ 0) && decide (f ≤ 400))) = false := by simp [c1, c2, c3]
    rw [e1, hp]
    simp only [Bool.false_eq_true, if_false, if_true]
    have happ : ∀ k, k < f.toNat → ∀ v, app? (trF x l (new0 x) k) [v] = some (trF x l (new0 x) k ++ [v]) := fun k hk v => by
      have := tr_len (x := x) (y := new0 x) (l := l) k
      unfold app?; rw [if_pos (by simp; unfold room; omega)]
    refine ⟨trF x l (new0 x) f.toNat, ?_, ?_, by have := tr_len (x := x) (y := new0 x) (l := l) f.toNat; omega⟩
    · rw [show ((0 : Int), (new0 x).Pc, (new0 x).In, (new0 x).Code, (new0 x).Steps, (new0 x).Regs, (new0 x).Mem, (new0 x).Stack, (new0 x).Out, ([] : List Int)) = (((0 : Nat) : Int), (runF x l (new0 x) 0).Pc, (runF x l (new0 x) 0).In, (runF x l (new0 x) 0).Code, (runF x l (new0 x) 0).Steps, (runF x l (new0 x) 0).Regs, (runF x l (new0 x) 0).Mem, (runF x l (new0 x) 0).Stack, (runF x l (new0 x) 0).Out, trF x l (new0 x) 0) from rfl, iterN_stop (I := fun k s => s = (((k : Nat) : Int), (runF x l (new0 x) k).Pc, (runF x l (new0 x) k).In, (runF x l (new0 x) k).Code, (runF x l (new0 x) k).Steps, (runF x l (new0 x) k).Regs, (runF x l (new0 x) k).Mem, (runF x l (new0 x) k).Stack, (runF x l (new0 x) k).Out, trF x l (new0 x) k)) (m := f.toNat) (r := trF x l (new0 x) f.toNat) (fun k s hk hs => ?_) (fun s hs => ?_) f.toNat 0 _ (by omega) rfl fuel (lt_fuel (by omega))]
      · rfl
      all_goals subst hs
      · simp only
        have gk := run_good g hlen hlw k
        by_cases z : (runF x l (new0 x) k).Code = 0
        · left
          refine ⟨(((k + 1 : Nat) : Int), (runF x l (new0 x) (k + 1)).Pc, (runF x l (new0 x) (k + 1)).In, (runF x l (new0 x) (k + 1)).Code, (runF x l (new0 x) (k + 1)).Steps, (runF x l (new0 x) (k + 1)).Regs, (runF x l (new0 x) (k + 1)).Mem, (runF x l (new0 x) (k + 1)).Stack, (runF x l (new0 x) (k + 1)).Out, trF x l (new0 x) (k + 1)), ?_, rfl⟩
          have hst := step_steps (run_spec g hlen hlw k).1 gk.fine.steps
          rw [if_pos (by simp [z]; omega), show D.State.mk (runF x l (new0 x) k).Pc (runF x l (new0 x) k).Regs (runF x l (new0 x) k).Mem (runF x l (new0 x) k).Stack (runF x l (new0 x) k).In (runF x l (new0 x) k).Out (runF x l (new0 x) k).Code (runF x l (new0 x) k).Steps = runF x l (new0 x) k from rfl, (run_spec g hlen hlw k).1]
          simp only [Option.bind_some]
          rw [w64_id (by omega) (by omega)]
          by_cases q : (runF x l (new0 x) k).Steps < 400 ∧ (runF x l (new0 x) k).Pc ≠ (x.Code.length : Int)
          · have ea : trF x l (new0 x) (k + 1) = trF x l (new0 x) k ++ [(runF x l (new0 x) k).Pc] := by
              show _ ++ addF x _ = _
              unfold addF; rw [if_pos ⟨z, q⟩]
            rw [if_pos ⟨z, q⟩] at hst
            rw [if_pos (by simp; omega), happ k hk, ea]
            simp
          · have ea : trF x l (new0 x) (k + 1) = trF x l (new0 x) k := by
              show _ ++ addF x _ = _
              unfold addF; rw [if_neg (fun hh => q hh.2)]; simp
            rw [if_neg (fun hh => q hh.2)] at hst
            rw [if_neg (by simp; omega), ea]
            simp
        · right
          have e := tr_done (x := x) (l := l) (y := new0 x) z (f.toNat - k)
          rw [show k + (f.toNat - k) = f.toNat by omega] at e
          rw [if_neg (by simp [z]), e]
      · simp only
        rw [if_neg (by simp; omega)]
    · rw [show ((0 : Int), ([] : List Int), (new0 x).Pc, (new0 x).In, (new0 x).Code, (new0 x).Steps, (new0 x).Regs, (new0 x).Mem, (new0 x).Stack, (new0 x).Out) = (((0 : Nat) : Int), trF x l (new0 x) 0, (runF x l (new0 x) 0).Pc, (runF x l (new0 x) 0).In, (runF x l (new0 x) 0).Code, (runF x l (new0 x) 0).Steps, (runF x l (new0 x) 0).Regs, (runF x l (new0 x) 0).Mem, (runF x l (new0 x) 0).Stack, (runF x l (new0 x) 0).Out) from rfl, iterN_stop (I := fun k s => s = (((k : Nat) : Int), trF x l (new0 x) k, (runF x l (new0 x) k).Pc, (runF x l (new0 x) k).In, (runF x l (new0 x) k).Code, (runF x l (new0 x) k).Steps, (runF x l (new0 x) k).Regs, (runF x l (new0 x) k).Mem, (runF x l (new0 x) k).Stack, (runF x l (new0 x) k).Out)) (m := f.toNat) (r := trF x l (new0 x) f.toNat) (fun k s hk hs => ?_) (fun s hs => ?_) f.toNat 0 _ (by omega) rfl fuel (lt_fuel (by omega))]
      · rfl
      all_goals subst hs
      · simp only
        have gk := run_good g hlen hlw k
        left
        refine ⟨(((k + 1 : Nat) : Int), trF x l (new0 x) (k + 1), (runF x l (new0 x) (k + 1)).Pc, (runF x l (new0 x) (k + 1)).In, (runF x l (new0 x) (k + 1)).Code, (runF x l (new0 x) (k + 1)).Steps, (runF x l (new0 x) (k + 1)).Regs, (runF x l (new0 x) (k + 1)).Mem, (runF x l (new0 x) (k + 1)).Stack, (runF x l (new0 x) (k + 1)).Out), ?_, rfl⟩
        rw [if_pos (by simp; omega), show D.State.mk (runF x l (new0 x) k).Pc (runF x l (new0 x) k).Regs (runF x l (new0 x) k).Mem (runF x l (new0 x) k).Stack (runF x l (new0 x) k).In (runF x l (new0 x) k).Out (runF x l (new0 x) k).Code (runF x l (new0 x) k).Steps = runF x l (new0 x) k from rfl, (run_spec g hlen hlw k).2, happ k hk]
        simp only [Option.bind_some, impl_State_moves]
        rw [w64_id (by omega) (by omega)]
        have hpc := gk.fine.pc
        by_cases q : (runF x l (new0 x) k).Code = 0 ∧ (runF x l (new0 x) k).Steps < 400 ∧ (runF x l (new0 x) k).Pc ≠ (x.Code.length : Int)
        · have ea : trF x l (new0 x) (k + 1) = trF x l (new0 x) k ++ [(runF x l (new0 x) k).Pc] := by
            show _ ++ addF x _ = _
            unfold addF; rw [if_pos q]
          rw [if_pos (by rw [len_nat]; simp [q.1, q.2.1]; omega), ea]
          simp
        · have ea : trF x l (new0 x) (k + 1) = trF x l (new0 x) k := by
            show _ ++ addF x _ = _
            unfold addF; rw [if_neg q]; simp
          rw [if_neg (by rw [len_nat]; intro hh; simp at hh; exact q ⟨hh.1.1, hh.1.2, by omega⟩), ea]
          simp
      · simp only
        rw [if_neg (by simp; omega)]
  · have e1 : (!inputsB x l || !(if (!inputsB x l) = true then default else decide (f ≥ 0) && decide (f ≤ 400))) = true := by
      cases c1 : inputsB x l
      · rfl
      · by_cases c2 : 0 ≤ f
        · have : ¬ f ≤ 400 := fun c3 => c ⟨c1, c2, c3⟩
          simp [this]
        · simp [c2]
    rw [e1]
    exact ⟨[], rfl, rfl, by simp⟩

theorem fin_FnExactTraceOf (x : D.Program) (hx : fit_Program x) (l : List Int) (_ : fitList fitInt l) (f : Int) (_ : fitInt f) : ∃ n, laws_FnExactTraceOf n x l f = some true := by
  refine ⟨fuel, ?_⟩
  unfold laws_FnExactTraceOf
  by_cases c0 : len l > 1048576
  · rw [if_pos (by simpa using c0)]
  rw [if_neg (by simpa using c0)]
  rw [len_nat] at c0
  have hl : l.length ≤ 1048576 := by omega
  obtain ⟨r1, h1, c1⟩ := szProgram_eq (m := 1048576) hx (by omega) (by omega)
  rw [h1]
  simp only [Option.bind_some]
  rcases c1 with c1 | ⟨c1, c1', s1⟩
  · rw [if_pos (by simpa using c1)]
  rw [if_neg (by simp; omega)]
  obtain ⟨s', t1, t2, t3⟩ := TraceOf_eq (f := f) s1 hl
  obtain ⟨k1, q1, m1, b1, b1'⟩ := markProgram_ok (x := x) (k := 1) (by omega) (by omega) s1
  have m3 := markIntS_eq (p := l) (k := k1) (by omega) (by omega) hl
  have m4 := markIntS_eq (p := s') (k := 1) (by omega) (by omega) t3
  have m5 := heldIntS_eq (L := s'.length) (k := 1) (by omega) (by omega) t3
  simp only [toProgram_eq s1, toIntS_eq hl, Option.bind_some, t1, t2, eqProgram_refl s1, eqIntS_eq t3, eqIntS_eq hl, m1, m3, m4, m5]
  have e1 : ¬ k1 + (l.length : Int) < 0 := by omega
  have e2 : ¬ (1 : Int) + (s'.length : Int) < 0 := by omega
  simp [e1, e2]
end Go.Proofs.Ytbfphbpeajmihaa
