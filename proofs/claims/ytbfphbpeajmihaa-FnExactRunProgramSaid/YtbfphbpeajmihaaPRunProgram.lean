/- The plain law of this claim. No program in sight. -/
import Derived.Test.YtbfphbpeajmihaaPG
namespace Go.Proofs.Ytbfphbpeajmihaa
open Go.GL
theorem RunProgram_eq {x : D.Program} {l : List Int} {f : Int} (h : x.Code.length ≤ 1048576) (hl : l.length ≤ 1048576) : ∃ s', spec_RunProgram fuel x l f = some s' ∧ impl_RunProgram fuel x l f = some s' ∧ small s' := by
  unfold spec_RunProgram impl_RunProgram
  rw [(InputsOk_eq h hl).1, (InputsOk_eq h hl).2, spec_new h, impl_new h]
  simp only [Option.bind_some, spec_l01In, impl_fuelOk, ite_def2]
  by_cases c : inputsB x l = true ∧ 0 ≤ f ∧ f ≤ 400
  · obtain ⟨c1, c2, c3⟩ := c
    obtain ⟨hp, hlen, hlw⟩ := inputs_of c1
    have g := good_new hp
    have e1 : (!inputsB x l || !(if (!inputsB x l) = true then default else decide (f ≥ 0) && decide (f ≤ 400))) = false := by simp [c1, c2, c3]
    rw [e1, hp]
    simp only [Bool.false_eq_true, if_false, if_true]
    refine ⟨runF x l (new0 x) f.toNat, ?_, ?_, (run_good g hlen hlw _).small⟩
    · rw [show ((0 : Int), (new0 x).Pc, (new0 x).In, (new0 x).Code, (new0 x).Steps, (new0 x).Regs, (new0 x).Mem, (new0 x).Stack, (new0 x).Out) = (((0 : Nat) : Int), (runF x l (new0 x) 0).Pc, (runF x l (new0 x) 0).In, (runF x l (new0 x) 0).Code, (runF x l (new0 x) 0).Steps, (runF x l (new0 x) 0).Regs, (runF x l (new0 x) 0).Mem, (runF x l (new0 x) 0).Stack, (runF x l (new0 x) 0).Out) from rfl, iterN_stop (I := fun k s => s = ((k : Int), (runF x l (new0 x) k).Pc, (runF x l (new0 x) k).In, (runF x l (new0 x) k).Code, (runF x l (new0 x) k).Steps, (runF x l (new0 x) k).Regs, (runF x l (new0 x) k).Mem, (runF x l (new0 x) k).Stack, (runF x l (new0 x) k).Out)) (m := f.toNat) (r := enc8 (runF x l (new0 x) f.toNat)) (fun k s hk hs => ?_) (fun s hs => ?_) f.toNat 0 _ (by omega) rfl fuel (lt_fuel (by omega))]
      · rfl
      all_goals subst hs
      · simp only
        by_cases z : (runF x l (new0 x) k).Code = 0
        · left
          refine ⟨(((k + 1 : Nat) : Int), (runF x l (new0 x) (k + 1)).Pc, (runF x l (new0 x) (k + 1)).In, (runF x l (new0 x) (k + 1)).Code, (runF x l (new0 x) (k + 1)).Steps, (runF x l (new0 x) (k + 1)).Regs, (runF x l (new0 x) (k + 1)).Mem, (runF x l (new0 x) (k + 1)).Stack, (runF x l (new0 x) (k + 1)).Out), ?_, rfl⟩
          rw [if_pos (by simp [z]; omega), show D.State.mk (runF x l (new0 x) k).Pc (runF x l (new0 x) k).Regs (runF x l (new0 x) k).Mem (runF x l (new0 x) k).Stack (runF x l (new0 x) k).In (runF x l (new0 x) k).Out (runF x l (new0 x) k).Code (runF x l (new0 x) k).Steps = runF x l (new0 x) k from rfl, (run_spec g hlen hlw k).1]
          simp only [Option.bind_some]
          rw [w64_id (by omega) (by omega)]
          rfl
        · right
          have e := run_done (x := x) (l := l) (y := new0 x) z (f.toNat - k)
          rw [show k + (f.toNat - k) = f.toNat by omega] at e
          rw [if_neg (by simp [z]), e]
          rfl
      · simp only
        rw [if_neg (by simp; omega)]
        rfl
    · rw [show ((0 : Int), (new0 x).Pc, (new0 x).In, (new0 x).Code, (new0 x).Steps, (new0 x).Regs, (new0 x).Mem, (new0 x).Stack, (new0 x).Out) = (((0 : Nat) : Int), (runF x l (new0 x) 0).Pc, (runF x l (new0 x) 0).In, (runF x l (new0 x) 0).Code, (runF x l (new0 x) 0).Steps, (runF x l (new0 x) 0).Regs, (runF x l (new0 x) 0).Mem, (runF x l (new0 x) 0).Stack, (runF x l (new0 x) 0).Out) from rfl, iterN_stop (I := fun k s => s = ((k : Int), (runF x l (new0 x) k).Pc, (runF x l (new0 x) k).In, (runF x l (new0 x) k).Code, (runF x l (new0 x) k).Steps, (runF x l (new0 x) k).Regs, (runF x l (new0 x) k).Mem, (runF x l (new0 x) k).Stack, (runF x l (new0 x) k).Out)) (m := f.toNat) (r := enc8 (runF x l (new0 x) f.toNat)) (fun k s hk hs => ?_) (fun s hs => ?_) f.toNat 0 _ (by omega) rfl fuel (lt_fuel (by omega))]
      · rfl
      all_goals subst hs
      · simp only
        left
        refine ⟨(((k + 1 : Nat) : Int), (runF x l (new0 x) (k + 1)).Pc, (runF x l (new0 x) (k + 1)).In, (runF x l (new0 x) (k + 1)).Code, (runF x l (new0 x) (k + 1)).Steps, (runF x l (new0 x) (k + 1)).Regs, (runF x l (new0 x) (k + 1)).Mem, (runF x l (new0 x) (k + 1)).Stack, (runF x l (new0 x) (k + 1)).Out), ?_, rfl⟩
        rw [if_pos (by simp; omega), show D.State.mk (runF x l (new0 x) k).Pc (runF x l (new0 x) k).Regs (runF x l (new0 x) k).Mem (runF x l (new0 x) k).Stack (runF x l (new0 x) k).In (runF x l (new0 x) k).Out (runF x l (new0 x) k).Code (runF x l (new0 x) k).Steps = runF x l (new0 x) k from rfl, (run_spec g hlen hlw k).2]
        simp only [Option.bind_some]
        rw [w64_id (by omega) (by omega)]
        rfl
      · simp only
        rw [if_neg (by simp; omega)]
        rfl
  · have e1 : (!inputsB x l || !(if (!inputsB x l) = true then default else decide (f ≥ 0) && decide (f ≤ 400))) = true := by
      cases c1 : inputsB x l
      · rfl
      · by_cases c2 : 0 ≤ f
        · have : ¬ f ≤ 400 := fun c3 => c ⟨c1, c2, c3⟩
          simp [this]
        · simp [c2]
    rw [e1]
    exact ⟨st0, rfl, rfl, by simp [st0, small]⟩

theorem fin_FnExactRunProgram (x : D.Program) (hx : fit_Program x) (l : List Int) (_ : fitList fitInt l) (f : Int) (_ : fitInt f) : ∃ n, laws_FnExactRunProgram n x l f = some true := by
  refine ⟨fuel, ?_⟩
  unfold laws_FnExactRunProgram
  by_cases c0 : len l > 1048576
  · rw [if_pos (by simpa using c0)]
  rw [if_neg (by simpa using c0)]
  rw [len_nat] at c0
  have hl : l.length ≤ 1048576 := by omega
  obtain ⟨r1, h1, c1⟩ := szProgram_eq (m := 1048576) hx (by omega) (by omega)
  rw [h1]
  simp only [Option.bind_some]
  rcases c1 with c1 | ⟨c1, c1', s1⟩
  · rw [if_pos (by simpa using c1)]
  rw [if_neg (by simp; omega)]
  obtain ⟨s', t1, t2, t3⟩ := RunProgram_eq (f := f) s1 hl
  obtain ⟨k1, q1, m1, b1, b1'⟩ := markProgram_ok (x := x) (k := 1) (by omega) (by omega) s1
  have m3 := markIntS_eq (p := l) (k := k1) (by omega) (by omega) hl
  obtain ⟨k4, q4, m4, b4, hh⟩ := markState_ok t3
  simp only [toProgram_eq s1, toIntS_eq hl, Option.bind_some, t1, t2, eqProgram_refl s1, eqState_eq t3, eqIntS_eq hl, m1, m3, m4, hh]
  have e1 : ¬ k1 + (l.length : Int) < 0 := by omega
  have e2 : ¬ k4 < 0 := by omega
  simp [e1, e2]
end Go.Proofs.Ytbfphbpeajmihaa
