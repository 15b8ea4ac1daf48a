/- The plain law of this claim. No program in sight. -/
import Derived.Test.YtknlknnihinmjaaPClause
import Derived.Test.YtknlknnihinmjaaPSS
namespace Go.Proofs.Ytknlknnihinmjaa
open Go.GL
theorem all_one' {n x : Int} : [x].all (litN n) = litN n x := by simp
theorem inner3 (n : Nat) {MC : List Int → Option (List Int × Bool)} {l1 l2 l3 r1 r2 r3 : List Int} (h1 : MC l1 = some (r1, true)) (h2 : MC l2 = some (r2, true)) (h3 : MC l3 = some (r3, true)) {out : List (List Int)} (hl : out.length ≤ 100000) :
    iterN (fun (s2 : Int × (List (List Int))) =>
      if (decide (s2.1 < (len ([l1, l2, l3] : List (List Int))))) then
        (get? ([l1, l2, l3] : List (List Int)) s2.1).bind fun x4 =>
        (MC x4).bind fun x5 =>
        (app? s2.2 ([x5.1] : List (List Int))).bind fun x6 =>
        some (.inl ((w64 (s2.1 + 1)), x6))
      else
        some (.inr (s2.2))) (n + 6) (0, out) = some (out ++ [r1, r2, r3]) := by
  have hc : len ([l1, l2, l3] : List (List Int)) = 3 := rfl
  have ha : ∀ (l : List (List Int)) (q : List Int), l.length ≤ 100003 → app? l [q] = some (l ++ [q]) := fun l q h => by unfold app?; rw [if_pos (by simp; unfold room; omega)]
  have a1 := ha out r1 (by omega)
  have a2 := ha (out ++ [r1]) r2 (by simp; omega)
  have a3 := ha (out ++ [r1] ++ [r2]) r3 (by simp; omega)
  simp only [List.append_assoc, List.singleton_append] at a2 a3
  rw [hc]
  simp [iterN, get?, h1, h2, h3, a1, a2, a3, j0, j1, j2, j3]
def stepF (c : D.Circuit) (i : Nat) (g : D.Gate) : List (List Int) := [[g.A, -(c.Inputs + 2 + i)], [g.B, -(c.Inputs + 2 + i)], [-g.A, -g.B, c.Inputs + 2 + i]]
def accF (c : D.Circuit) : Nat → List (List Int)
  | 0 => [[1]]
  | k + 1 => accF c k ++ stepF c k (c.Gates.getD k ⟨0, 0⟩)
theorem accF_len (c : D.Circuit) (k : Nat) : (accF c k).length = 1 + 3 * k := by
  induction k with
  | zero => rfl
  | succ k ih => simp only [accF, List.length_append, ih, stepF, List.length_cons, List.length_nil]; omega
structure GateOk (c : D.Circuit) (k : Nat) (g : D.Gate) : Prop where
  a : litN 391 g.A = true
  b : litN 391 g.B = true
  na : litN 391 (-g.A) = true
  nb : litN 391 (-g.B) = true
  l : litN 391 (c.Inputs + 2 + k) = true
  nl : litN 391 (-(c.Inputs + 2 + k)) = true
  ab : iab (-g.A) < iab (-g.B)
  bl : iab (-g.B) < iab (c.Inputs + 2 + k)
  al' : iab g.A < iab (-(c.Inputs + 2 + k))
  bl' : iab g.B < iab (-(c.Inputs + 2 + k))
theorem gate_ok {c : D.Circuit} (hc : CircP c) {k : Nat} {g : D.Gate} (hg : c.Gates[k]? = some g) : GateOk c k g := by
  have h := gateB_iff.1 (hc.gate k g hg)
  obtain ⟨h1, h2, h3, h4, -⟩ := h
  have hk := (List.getElem?_eq_some_iff.1 hg).1
  have hlt : (c.Gates.take k).length = k := by simp; omega
  rw [hlt] at h1 h2
  have hl := hc.lines1
  have hi := hc.i0
  unfold lines at hl
  have e1 : iab (c.Inputs + 2 + k) = c.Inputs + 2 + k := by unfold iab; rw [if_neg (by omega)]
  have b1 : iab g.A ≤ c.Inputs + 1 + k := by unfold iab; split <;> omega
  have b2 : iab g.B ≤ c.Inputs + 1 + k := by unfold iab; split <;> omega
  refine ⟨litN_iff.2 (by omega), litN_iff.2 (by omega), ?_, ?_, litN_iff.2 (by omega), ?_, ?_, ?_, ?_, ?_⟩
  · rw [litN_neg]; exact litN_iff.2 (by omega)
  · rw [litN_neg]; exact litN_iff.2 (by omega)
  · rw [litN_neg]; exact litN_iff.2 (by omega)
  · rw [iab_neg, iab_neg]; exact h4
  · rw [iab_neg]; omega
  · rw [iab_neg]; omega
  · rw [iab_neg]; omega
def formP (c : D.Circuit) (lit : Int) : D.Formula × Bool := if circB2 c && litN (lines c) lit then (⟨lines c, accF c c.Gates.length ++ [[lit]]⟩, true) else (⟨0, []⟩, false)
theorem accF_small (c : D.Circuit) (k : Nat) : ∀ x ∈ accF c k, x.length ≤ 1000 := by
  induction k with
  | zero => intro x hx; rw [List.mem_singleton.1 hx]; simp
  | succ k ih =>
    intro x hx
    rcases List.mem_append.1 hx with hx | hx
    · exact ih x hx
    · unfold stepF at hx
      simp only [List.mem_cons, List.not_mem_nil, or_false] at hx
      rcases hx with rfl | rfl | rfl <;> simp
theorem formP_small (c : D.Circuit) (lit : Int) : smallL (formP c lit).1.Clauses := by
  unfold formP
  split
  · rename_i h
    rw [Bool.and_eq_true] at h
    have := (circP_iff.1 h.1).len
    refine ⟨by simp only [List.length_append, accF_len, List.length_cons, List.length_nil]; omega, fun x hx => ?_⟩
    rcases List.mem_append.1 hx with hx | hx
    · exact accF_small c _ x hx
    · rw [List.mem_singleton.1 hx]; simp
  · exact ⟨by simp, fun _ h => by cases h⟩
theorem getD_gate {c : D.Circuit} {k : Nat} (hk : k < c.Gates.length) : c.Gates[k]? = some (c.Gates.getD k ⟨0, 0⟩) := by
  rw [List.getD_eq_getElem?_getD, List.getElem?_eq_getElem hk]; rfl
theorem spec_FormulaOf_eq {c : D.Circuit} {lit : Int} (hc : fit_Circuit c) (hg : c.Gates.length ≤ 1048576) : spec_FormulaOf fuel c lit = some (formP c lit) := by
  unfold spec_FormulaOf formP
  rw [spec_circ hc hg]
  simp only [Option.bind_some]
  cases h1 : circB2 c with
  | false => simp
  | true =>
    have hp := circP_iff.1 h1
    rw [spec_clits hp (by simp)]
    simp only [Bool.not_true, Bool.false_eq_true, if_false, Option.bind_some, Bool.false_or, Bool.true_and, all_one']
    cases h2 : litN (lines c) lit with
    | false => simp
    | true =>
      have hi0 := hp.i0
      have hi1 := hp.i1
      have hl := hp.len
      simp only [Bool.not_true, Bool.false_eq_true, if_false, if_true]
      rw [iterN_up (I := fun k t => t = ((k : Int), accF c k)) (m := c.Gates.length) (r := accF c c.Gates.length) (fun k t hk ht => ?_) (fun t ht => ?_) c.Gates.length 0 (0, [[1]]) (by omega) rfl fuel (lt_fuel (by omega))]
      · simp only [Option.bind_some]
        have ha : app? (accF c c.Gates.length) [[lit]] = some (accF c c.Gates.length ++ [[lit]]) := by unfold app?; rw [if_pos (by rw [accF_len]; simp; unfold room; omega)]
        rw [ha]
        simp only [Option.bind_some]
        rw [len_nat, w64_id (x := c.Inputs + 1) (by omega) (by omega), w64_id (by omega) (by omega)]
        rfl
      all_goals subst ht
      · refine ⟨_, ?_, rfl⟩
        have o := gate_ok hp (getD_gate hk)
        simp only [accF]
        rw [if_pos (by rw [len_nat]; simp; omega), get?_nat, getD_gate hk]
        simp only [Option.bind_some]
        generalize c.Gates.getD k ⟨0, 0⟩ = g at o ⊢
        rw [w64_id (x := c.Inputs + 2) (by omega) (by omega), w64_id (x := c.Inputs + 2 + (k : Int)) (by omega) (by omega), w64_neg o.a (Int.le_refl _), w64_neg o.b (Int.le_refl _), w64_neg o.l (Int.le_refl _)]
        have m1 : spec_MakeClause fuel [-(c.Inputs + 2 + (k : Int)), g.A] = _ := mkS2 1048571 o.nl o.a o.al'
        have m2 : spec_MakeClause fuel [-(c.Inputs + 2 + (k : Int)), g.B] = _ := mkS2 1048571 o.nl o.b o.bl'
        have m3 : spec_MakeClause fuel [c.Inputs + 2 + (k : Int), -g.A, -g.B] = _ := mkS3 1048571 o.l o.na o.nb o.ab o.bl
        have q := inner3 1048571 (MC := spec_MakeClause fuel) m1 m2 m3 (out := accF c k) (by rw [accF_len]; omega)
        have q' : iterN _ fuel _ = _ := q
        rw [q']
        simp only [Option.bind_some]
        rw [w64_id (by omega) (by omega)]
        rfl
      · simp only
        rw [if_neg (by rw [len_nat]; simp)]
theorem impl_FormulaOf_eq {c : D.Circuit} {lit : Int} (hc : fit_Circuit c) (hg : c.Gates.length ≤ 1048576) : impl_FormulaOf fuel c lit = some (formP c lit) := by
  unfold impl_FormulaOf formP
  rw [impl_circ hc hg]
  simp only [Option.bind_some]
  cases h1 : circB2 c with
  | false => simp
  | true =>
    have hp := circP_iff.1 h1
    have hl0 := hp.lines0
    have hl1 := hp.lines1
    simp only [Bool.not_true, Bool.false_eq_true, if_false, impl_lines hp, Option.bind_some, Bool.false_or, Bool.true_and, impl_islit (x := lit) (n := lines c) (by omega) (by omega)]
    cases h2 : litN (lines c) lit with
    | false => simp
    | true =>
      have hi0 := hp.i0
      have hi1 := hp.i1
      have hl := hp.len
      simp only [Bool.not_true, Bool.false_eq_true, if_false, if_true]
      rw [iterN_up (I := fun k t => t = ((k : Int), accF c k)) (m := c.Gates.length) (r := accF c c.Gates.length) (fun k t hk ht => ?_) (fun t ht => ?_) c.Gates.length 0 (0, [[1]]) (by omega) rfl fuel (lt_fuel (by omega))]
      · simp only [Option.bind_some]
        have ha : app? (accF c c.Gates.length) [[lit]] = some (accF c c.Gates.length ++ [[lit]]) := by unfold app?; rw [if_pos (by rw [accF_len]; simp; unfold room; omega)]
        rw [ha]
        rfl
      all_goals subst ht
      · refine ⟨_, ?_, rfl⟩
        have o := gate_ok hp (getD_gate hk)
        simp only [accF]
        rw [if_pos (by rw [len_nat]; simp; omega), get?_nat, getD_gate hk]
        simp only [Option.bind_some]
        generalize c.Gates.getD k ⟨0, 0⟩ = g at o ⊢
        rw [show w64 (2 + c.Inputs) = c.Inputs + 2 by rw [w64_id (by omega) (by omega)]; omega, w64_id (x := c.Inputs + 2 + (k : Int)) (by omega) (by omega), w64_neg o.a (Int.le_refl _), w64_neg o.b (Int.le_refl _), w64_neg o.l (Int.le_refl _)]
        have m1 : impl_MakeClause fuel [-(c.Inputs + 2 + (k : Int)), g.A] = _ := mkI2 o.nl o.a o.al'
        have m2 : impl_MakeClause fuel [-(c.Inputs + 2 + (k : Int)), g.B] = _ := mkI2 o.nl o.b o.bl'
        have m3 : impl_MakeClause fuel [c.Inputs + 2 + (k : Int), -g.A, -g.B] = _ := mkI3 o.l o.na o.nb o.ab o.bl
        have q := inner3 1048571 (MC := impl_MakeClause fuel) m1 m2 m3 (out := accF c k) (by rw [accF_len]; omega)
        have q' : iterN _ fuel _ = _ := q
        rw [q']
        simp only [Option.bind_some]
        rw [w64_id (by omega) (by omega)]
        rfl
      · simp only
        rw [if_neg (by rw [len_nat]; simp)]
theorem fin_FnExactFormulaOf (x : D.Circuit) (hx : fit_Circuit x) (f : Int) (_ : fitInt f) : ∃ n, laws_FnExactFormulaOf n x f = some true := by
  refine ⟨fuel, ?_⟩
  unfold laws_FnExactFormulaOf
  obtain ⟨r1, h1, c1⟩ := szCircuit_eq (m := 1048576) hx (by omega) (by omega)
  rw [h1]
  simp only [Option.bind_some]
  rcases c1 with c1 | ⟨c1, c1', s1⟩
  · rw [if_pos (by simpa using c1)]
  rw [if_neg (by simp; omega)]
  have hs := formP_small x f
  simp only [toCircuit_eq s1, Option.bind_some, spec_FormulaOf_eq hx s1, impl_FormulaOf_eq hx s1]
  generalize formP x f = R at hs ⊢
  have m1 := markCircuit_eq (x := x) (k := 1) (by omega) (by omega) s1
  have m2 : laws_markFormula fuel R.1 1 = some (1 + cnt R.1.Clauses, ⟨R.1.Vars, upSS 1 R.1.Clauses⟩) := by
    unfold laws_markFormula
    rw [markIntSS_eq (by omega) (by omega) hs]
    rfl
  have hcn := cnt_nn R.1.Clauses
  have m3 : laws_heldFormula fuel ⟨R.1.Vars, upSS 1 R.1.Clauses⟩ 1 = some (1 + cnt R.1.Clauses) := by
    unfold laws_heldFormula
    simp only
    rw [heldIntSS_eq (by omega) (by omega) hs]
    simp only [Option.bind_some]
    rw [if_neg (by simp; omega)]
  have m4 : laws_eqFormula fuel R.1 R.1 = some true := by
    unfold laws_eqFormula
    rw [if_neg (by simp), eqIntSS_refl hs]
    rfl
  simp only [eqCircuit_eq s1, m1, m2, m3, m4, Option.bind_some]
  have e1 : ¬ (1 : Int) + 2 * (x.Gates.length : Int) < 0 := by omega
  have e2 : ¬ (1 : Int) + cnt R.1.Clauses < 0 := by omega
  simp [e1, e2]
end Go.Proofs.Ytknlknnihinmjaa
