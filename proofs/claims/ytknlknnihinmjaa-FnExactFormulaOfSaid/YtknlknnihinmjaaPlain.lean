/- The plain laws of this claim: circuits. No program in sight. -/
import Derived.Test.YtknlknnihinmjaaGLv
import Derived.Test.YtknlknnihinmjaaDefs
namespace Go.Proofs.Ytknlknnihinmjaa
open Go.GL
/-- fuel that is enough -/
def fuel : Nat := 1048577
theorem lt_fuel {n : Nat} (h : n ≤ 1048576) : n < fuel := by unfold fuel; omega

theorem szGateS_eq {l : List D.Gate} {m : Int} (hl : l.length ≤ 9223372036854775807) (h0 : 0 ≤ m) (h1 : m ≤ 1048576) : laws_szGateS l m = some (if m - l.length < 0 then -1 else m - l.length) := by
  unfold laws_szGateS
  rw [len_nat, w64_id (by omega) (by omega)]
  by_cases h : m - (l.length : Int) < 0
  · rw [if_pos (by simpa using h), if_pos h]
  · rw [if_neg (by simpa using h), if_neg h]
theorem szCircuit_eq {x : D.Circuit} {m : Int} (hx : fit_Circuit x) (h0 : 0 ≤ m) (h1 : m ≤ 1048576) : ∃ r, laws_szCircuit x m = some r ∧ (r < 0 ∨ 0 ≤ r ∧ r ≤ 1048576 ∧ x.Gates.length ≤ 1048576) := by
  obtain ⟨-, hr, -⟩ := hx
  unfold laws_szCircuit
  rw [szGateS_eq hr h0 h1]
  simp only [Option.bind_some]
  by_cases c1 : m - (x.Gates.length : Int) < 0
  · rw [if_pos c1]; exact ⟨_, rfl, .inl (by omega)⟩
  rw [if_neg c1, if_neg (by simpa using c1)]
  exact ⟨_, rfl, .inr ⟨by omega, by omega, by omega⟩⟩
theorem toGateS_eq {l : List D.Gate} (h : l.length ≤ 1048576) : laws_toGateS fuel l = some l := by
  unfold laws_toGateS
  rw [mk?_len (by unfold room; omega)]
  simp only [Option.bind_some, laws_toGate]
  rw [copy_loop2 (by omega) (lt_fuel h)]
  rfl
theorem toCircuit_eq {x : D.Circuit} (h : x.Gates.length ≤ 1048576) : laws_toCircuit fuel x = some x := by
  unfold laws_toCircuit
  rw [toGateS_eq h]
  rfl
theorem eqGate_eq (x y : D.Gate) : laws_eqGate x y = some (decide (x = y)) := by
  unfold laws_eqGate
  cases x; cases y
  simp only [D.Gate.mk.injEq]
  grind
theorem eqGateS_eq {p q : List D.Gate} (h : p.length ≤ 1048576) : laws_eqGateS fuel p q = some (decide (p = q)) := by
  unfold laws_eqGateS
  simp only [eqGate_eq, Option.bind_some]
  exact eq_slice (by omega) (lt_fuel h)
theorem eqCircuit_eq {x y : D.Circuit} (h : x.Gates.length ≤ 1048576) : laws_eqCircuit fuel x y = some (decide (x = y)) := by
  unfold laws_eqCircuit
  rw [eqGateS_eq h]
  cases x; cases y
  simp only [D.Circuit.mk.injEq]
  grind
theorem markGateS_ok {p : List D.Gate} {k : Int} (hk : 0 ≤ k) (hb : k ≤ 4000000000000) (hp : p.length ≤ 1048576) : ∃ r, laws_markGateS fuel p k = some (k + 2 * p.length, r) ∧ r = (List.range p.length).map fun (j : Nat) => ⟨k + 2 * (j : Int), k + 2 * (j : Int) + 1⟩ := by
  refine ⟨(List.range p.length).map fun (j : Nat) => ⟨k + 2 * (j : Int), k + 2 * (j : Int) + 1⟩, ?_, rfl⟩
  unfold laws_markGateS
  rw [iterN_up (I := fun i s => s = (k + 2 * (i : Int), (i : Int), pre (fun (j : Nat) => (⟨k + 2 * (j : Int), k + 2 * (j : Int) + 1⟩ : D.Gate)) p i)) (m := p.length) (r := (k + 2 * (p.length : Int), (List.range p.length).map fun (j : Nat) => (⟨k + 2 * (j : Int), k + 2 * (j : Int) + 1⟩ : D.Gate))) (fun i s hi hs => ?_) (fun s hs => ?_) p.length 0 _ (by omega) (by simp [pre_zero]) fuel (lt_fuel hp)]
  · rfl
  · subst hs
    refine ⟨_, ?_, rfl⟩
    have hl := pre_len (f := fun (j : Nat) => (⟨k + 2 * (j : Int), k + 2 * (j : Int) + 1⟩ : D.Gate)) (p := p) (i := i) (by omega)
    simp only
    rw [if_pos (by rw [len_nat]; simp; omega), get?_nat, pre_get hi, List.getElem?_eq_getElem hi]
    simp only [Option.bind_some]
    rw [set?_nat (by rw [hl]; exact hi)]
    simp only [Option.bind_some]
    rw [get?_nat, List.getElem?_set_self (by rw [hl]; exact hi)]
    simp only [Option.bind_some]
    rw [set?_nat (by simp [hl]; exact hi), List.set_set]
    simp only [Option.bind_some]
    rw [w64_id (x := k + 2 * (i : Int) + 1) (by omega) (by omega), w64_id (x := k + 2 * (i : Int) + 1 + 1) (by omega) (by omega), w64_id (x := (i : Int) + 1) (by omega) (by omega), ← pre_set hi]
    simp only [Option.some.injEq, Sum.inl.injEq, Prod.mk.injEq]
    exact ⟨by omega, by omega, trivial⟩
  · subst hs
    simp only
    rw [if_neg (by rw [len_nat]; simp), pre_all]
theorem markCircuit_ok {x : D.Circuit} {k : Int} (hk : 0 ≤ k) (hb : k ≤ 4000000000000) (hp : x.Gates.length ≤ 1048576) : ∃ k' r, laws_markCircuit fuel x k = some (k', r) ∧ k ≤ k' ∧ k' ≤ k + 4194304 := by
  obtain ⟨r, hr, -⟩ := markGateS_ok hk hb hp
  unfold laws_markCircuit
  rw [hr]
  exact ⟨_, _, rfl, by simp only; omega, by simp only; omega⟩
def upB (k : Int) (L : Nat) : List Bool := (List.range L).map fun (j : Nat) => ((k + (j : Int)).tmod 3 == 0)
theorem upB_len (k : Int) (L : Nat) : (upB k L).length = L := by simp [upB]
theorem upB_get {k : Int} {L i : Nat} (h : i < L) : (upB k L)[i]? = some ((k + (i : Int)).tmod 3 == 0) := by simp [upB, h]
theorem rem3 (k : Int) : rem? k 3 = some (k.tmod 3) := rfl
/-! which circuits are right -/
def iab (x : Int) : Int := if x < 0 then -x else x
/-- gate i of a list fits behind these inputs and these gates -/
def gateB (n : Int) (seen : List D.Gate) (g : D.Gate) : Bool :=
  decide (-(n + 1 + (seen.length : Int)) ≤ g.A ∧ g.A ≤ n + 1 + seen.length) && decide (-(n + 1 + (seen.length : Int)) ≤ g.B ∧ g.B ≤ n + 1 + seen.length) && decide (2 ≤ iab g.A) && decide (iab g.A < iab g.B) && !(seen.contains g)
def gatesB (n : Int) : List D.Gate → List D.Gate → Bool
  | _, [] => true
  | seen, g :: l => gateB n seen g && gatesB n (seen ++ [g]) l
def circB (x : D.Circuit) : Bool := decide (0 ≤ x.Inputs ∧ x.Inputs ≤ 30) && decide ((x.Gates.length : Int) ≤ 360) && gatesB x.Inputs [] x.Gates

theorem spec_abs {a : Int} (h : fitInt a) (h' : -1000 ≤ a) : spec_l03Abs a = some (iab a) := by
  unfold spec_l03Abs iab
  unfold fitInt at h
  by_cases c : a < 0
  · rw [if_pos (by simpa using c), if_pos c, w64_id (by omega) (by omega)]; simp
  · rw [if_neg (by simpa using c), if_neg c]
theorem impl_var {a : Int} (h : fitInt a) (h' : -1000 ≤ a) : impl_varOf a = some (iab a) := by
  unfold impl_varOf iab
  unfold fitInt at h
  by_cases c : a < 0
  · rw [if_pos (by simpa using c), if_pos c, w64_id (by omega) (by omega)]; simp
  · rw [if_neg (by simpa using c), if_neg c]
theorem seen_loop {l : List D.Gate} {g : D.Gate} (hb : l.length ≤ 1048576) :
    iterN (fun (s2 : Int) =>
            if (decide (s2 < (len l))) then
              (get? l s2).bind fun x9 =>
              if (decide (g = x9)) then
                some (.inr (.inr false))
              else
                some (.inl ((w64 (s2 + 1))))
            else
              some (.inr (.inl ()))) fuel 0 = some (if l.contains g then .inr false else (.inl () : Unit ⊕ Bool)) := by
  rw [iterN_first (I := fun k s => s = (k : Int)) (m := l.length) (ok := fun k => decide (l[k]? ≠ some g)) (r := .inl ()) (r' := .inr false) (fun k s hk hs hok => ?_) (fun k s hk hs hok => ?_) (fun s hs => ?_) l.length 0 _ (by omega) (by simp) fuel (lt_fuel hb)]
  · congr 1
    have : ((List.range' 0 l.length).all fun k => decide (l[k]? ≠ some g)) = !(l.contains g) := by
      cases hc : l.contains g with
      | true =>
        rw [List.contains_eq_mem, decide_eq_true_eq] at hc
        obtain ⟨i, hi⟩ := List.mem_iff_getElem?.1 hc
        have hlt := (List.getElem?_eq_some_iff.1 hi).1
        rw [Bool.not_true, List.all_eq_false]
        exact ⟨i, by simp [List.mem_range'_1]; omega, by simp [hi]⟩
      | false =>
        rw [List.contains_eq_mem, decide_eq_false_iff_not] at hc
        rw [Bool.not_false, List.all_eq_true]
        intro i _
        simp only [ne_eq, decide_eq_true_eq]
        exact fun hi => hc (List.mem_of_getElem? hi)
    rw [this]
    cases l.contains g <;> simp
  · subst hs
    refine ⟨_, ?_, rfl⟩
    rw [if_pos (by rw [len_nat]; simp; omega), get?_nat, List.getElem?_eq_getElem hk]
    rw [List.getElem?_eq_getElem hk] at hok
    simp only [Option.bind_some]
    rw [if_neg (by intro h; simp at h hok; exact hok h.symm), w64_id (by omega) (by omega)]
    rfl
  · subst hs
    rw [if_pos (by rw [len_nat]; simp; omega), get?_nat, List.getElem?_eq_getElem hk]
    rw [List.getElem?_eq_getElem hk] at hok
    simp only [Option.bind_some]
    rw [if_pos (by simp at hok ⊢; exact hok.symm)]
  · subst hs
    rw [if_neg (by rw [len_nat]; simp)]
def gateAt (x : D.Circuit) (k : Nat) : Bool := match x.Gates[k]? with | some g => gateB x.Inputs (x.Gates.take k) g | none => false
def circB2 (x : D.Circuit) : Bool := decide (0 ≤ x.Inputs ∧ x.Inputs ≤ 30) && decide ((x.Gates.length : Int) ≤ 360) && (List.range' 0 x.Gates.length).all (gateAt x)
theorem fitK {g : D.Gate} (h : fit_Gate g) : fitK_Gate g = true := by
  obtain ⟨h1, h2⟩ := h
  unfold fitInt at h1 h2
  simp only [fitK_Gate, fitZ, Lit.wf, IntKind.min, IntKind.max, Bool.and_eq_true]
  simp [IntKind.bits, IntKind.signed] at *
  omega

theorem spec_circ {x : D.Circuit} (hx : fit_Circuit x) (hl : x.Gates.length ≤ 1048576) : spec_CircuitOk fuel x = some (circB2 x) := by
  unfold spec_CircuitOk circB2
  simp only [spec_l01In, Option.bind_some]
  by_cases c : (0 ≤ x.Inputs ∧ x.Inputs ≤ 30) ∧ (x.Gates.length : Int) ≤ 360
  · obtain ⟨⟨h0, h1⟩, hl3⟩ := c
    rw [if_neg (by rw [len_nat]; simp; omega)]
    rw [iterN_first (I := fun k s => s = (k : Int)) (m := x.Gates.length) (ok := gateAt x) (r := .inl ()) (r' := .inr false) (fun k s hk hs hok => ?_) (fun k s hk hs hok => ?_) (fun s hs => ?_) x.Gates.length 0 _ (by omega) (by simp) fuel (lt_fuel hl)]
    · simp only [h0, h1, and_self, decide_true, hl3, Bool.true_and]
      cases (List.range' 0 x.Gates.length).all (gateAt x) <;> simp
    all_goals subst hs
    · refine ⟨((k + 1 : Nat) : Int), ?_, rfl⟩
      have hfit : fit_Gate x.Gates[k] := hx.2.2 _ (List.getElem_mem hk)
      have hlt : (x.Gates.take k).length = k := by simp; omega
      rw [if_pos (by rw [len_nat]; simp; omega), get?_nat, List.getElem?_eq_getElem hk]
      simp only [Option.bind_some]
      unfold gateAt at hok
      rw [List.getElem?_eq_getElem hk] at hok
      simp only at hok
      unfold gateB at hok
      rw [hlt] at hok
      generalize x.Gates[k] = g at hfit hok ⊢
      simp only [Bool.and_eq_true, decide_eq_true_eq, Bool.not_eq_true'] at hok
      obtain ⟨⟨⟨⟨cA, cB⟩, c2⟩, c3⟩, c4⟩ := hok
      rw [w64_id (x := x.Inputs + 1) (by omega) (by omega), w64_id (x := x.Inputs + 1 + (k : Int)) (by omega) (by omega), w64_id (x := 0 - (x.Inputs + 1 + (k : Int))) (by omega) (by omega)]
      have e1 : (decide (g.A ≥ 0 - (x.Inputs + 1 + (k : Int))) && decide (g.A ≤ x.Inputs + 1 + (k : Int))) = true := by simp; omega
      have e2 : (decide (g.B ≥ 0 - (x.Inputs + 1 + (k : Int))) && decide (g.B ≤ x.Inputs + 1 + (k : Int))) = true := by simp; omega
      have e3 : decide (iab g.A < 2) = false := by simp; omega
      have e4 : decide (iab g.A ≥ iab g.B) = false := by simp; omega
      have hcut : cut? x.Gates 0 (k : Int) = some (x.Gates.take k) := by
        unfold cut?
        rw [if_pos ⟨by omega, by omega, by omega⟩]; simp
      simp only [e1, e2, Bool.not_true, Bool.or_self, Bool.false_eq_true, if_false, Option.bind_some, spec_abs hfit.1 (by omega), spec_abs hfit.2 (by omega), Bool.false_or, e3, e4, hcut]
      rw [seen_loop (by omega), c4]
      simp only [Bool.false_eq_true, if_false, Option.bind_some]
      rw [w64_id (by omega) (by omega)]
      rfl
    · have hfit : fit_Gate x.Gates[k] := hx.2.2 _ (List.getElem_mem hk)
      have hlt : (x.Gates.take k).length = k := by simp; omega
      rw [if_pos (by rw [len_nat]; simp; omega), get?_nat, List.getElem?_eq_getElem hk]
      simp only [Option.bind_some]
      unfold gateAt at hok
      rw [List.getElem?_eq_getElem hk] at hok
      simp only at hok
      unfold gateB at hok
      rw [hlt] at hok
      generalize x.Gates[k] = g at hfit hok ⊢
      rw [w64_id (x := x.Inputs + 1) (by omega) (by omega), w64_id (x := x.Inputs + 1 + (k : Int)) (by omega) (by omega), w64_id (x := 0 - (x.Inputs + 1 + (k : Int))) (by omega) (by omega)]
      by_cases cA : -(x.Inputs + 1 + (k : Int)) ≤ g.A ∧ g.A ≤ x.Inputs + 1 + k
      · have e1 : (decide (g.A ≥ 0 - (x.Inputs + 1 + (k : Int))) && decide (g.A ≤ x.Inputs + 1 + (k : Int))) = true := by simp; omega
        by_cases cB : -(x.Inputs + 1 + (k : Int)) ≤ g.B ∧ g.B ≤ x.Inputs + 1 + k
        · have e2 : (decide (g.B ≥ 0 - (x.Inputs + 1 + (k : Int))) && decide (g.B ≤ x.Inputs + 1 + (k : Int))) = true := by simp; omega
          simp only [e1, e2, Bool.not_true, Bool.or_self, Bool.false_eq_true, if_false, Option.bind_some, spec_abs hfit.1 (by omega), spec_abs hfit.2 (by omega), Bool.false_or]
          by_cases c2 : 2 ≤ iab g.A
          · have e3 : decide (iab g.A < 2) = false := by simp; omega
            simp only [e3, Bool.false_eq_true, if_false, Option.bind_some, Bool.false_or]
            by_cases c3 : iab g.A < iab g.B
            · have e4 : decide (iab g.A ≥ iab g.B) = false := by simp; omega
              simp only [cA, cB, c2, c3, and_self, decide_true, Bool.true_and, Bool.not_eq_false'] at hok
              have hcut : cut? x.Gates 0 (k : Int) = some (x.Gates.take k) := by
                unfold cut?
                rw [if_pos ⟨by omega, by omega, by omega⟩]; simp
              simp only [e4, Bool.false_eq_true, if_false, hcut, Option.bind_some]
              rw [seen_loop (by omega), hok]
              simp
            · have e4 : decide (iab g.A ≥ iab g.B) = true := by simp; omega
              simp only [e4, Bool.not_true, Bool.not_false, Bool.true_or, Bool.or_true, Bool.false_or, Bool.or_false, Bool.or_self, Bool.false_eq_true, if_true, if_false, Option.bind_some]
          · have e3 : decide (iab g.A < 2) = true := by simp; omega
            simp only [e3, Bool.not_true, Bool.not_false, Bool.true_or, Bool.or_true, Bool.false_or, Bool.or_false, Bool.or_self, Bool.false_eq_true, if_true, if_false, Option.bind_some]
        · have e2 : (decide (g.B ≥ 0 - (x.Inputs + 1 + (k : Int))) && decide (g.B ≤ x.Inputs + 1 + (k : Int))) = false := by
            simp only [Bool.and_eq_false_iff, decide_eq_false_iff_not]; omega
          simp only [e1, e2, Bool.not_true, Bool.not_false, Bool.true_or, Bool.or_true, Bool.false_or, Bool.or_false, Bool.or_self, Bool.false_eq_true, if_true, if_false, Option.bind_some]
      · have e1 : (decide (g.A ≥ 0 - (x.Inputs + 1 + (k : Int))) && decide (g.A ≤ x.Inputs + 1 + (k : Int))) = false := by
          simp only [Bool.and_eq_false_iff, decide_eq_false_iff_not]; omega
        simp only [e1, Bool.not_true, Bool.not_false, Bool.true_or, Bool.or_true, Bool.false_or, Bool.or_false, Bool.or_self, Bool.false_eq_true, if_true, if_false, Option.bind_some]
    · rw [if_neg (by rw [len_nat]; simp)]
  · rw [if_pos (by rw [len_nat]; simp; omega)]
    have : (decide (0 ≤ x.Inputs ∧ x.Inputs ≤ 30) && decide ((x.Gates.length : Int) ≤ 360)) = false := by
      simp only [Bool.and_eq_false_iff, decide_eq_false_iff_not]; omega
    rw [this]; rfl

theorem look_seen {l : List D.Gate} {g : D.Gate} : ((l.reverse.map fun q => (q, true)).lookup g).getD false = l.contains g := by
  have key : ∀ m : List D.Gate, ((m.map fun q => (q, true)).lookup g).getD false = m.contains g := by
    intro m
    induction m with
    | nil => rfl
    | cons q m ih =>
      rw [List.map_cons, List.lookup_cons, List.contains_cons]
      by_cases h : g = q
      · subst h; simp
      · have : (g == q) = false := by simpa using h
        rw [this]; simpa using ih
  rw [key, Bool.eq_iff_iff]
  simp
theorem impl_circ {x : D.Circuit} (hx : fit_Circuit x) (hl : x.Gates.length ≤ 1048576) : impl_CircuitOk fuel x = some (circB2 x) := by
  unfold impl_CircuitOk circB2
  by_cases c : (0 ≤ x.Inputs ∧ x.Inputs ≤ 30) ∧ (x.Gates.length : Int) ≤ 360
  · obtain ⟨⟨h0, h1⟩, hl3⟩ := c
    rw [if_neg (by rw [len_nat]; simp; omega)]
    rw [iterN_first (I := fun k s => s = ((k : Int), (x.Gates.take k).reverse.map fun q => (q, true))) (m := x.Gates.length) (ok := gateAt x) (r := .inl ()) (r' := .inr false) (fun k s hk hs hok => ?_) (fun k s hk hs hok => ?_) (fun s hs => ?_) x.Gates.length 0 _ (by omega) (by simp) fuel (lt_fuel hl)]
    · simp only [h0, h1, and_self, decide_true, hl3, Bool.true_and]
      cases (List.range' 0 x.Gates.length).all (gateAt x) <;> simp
    all_goals subst hs
    · refine ⟨(((k + 1 : Nat) : Int), (x.Gates.take (k + 1)).reverse.map fun q => (q, true)), ?_, rfl⟩
      have hfit : fit_Gate x.Gates[k] := hx.2.2 _ (List.getElem_mem hk)
      have hlt : (x.Gates.take k).length = k := by simp; omega
      rw [if_pos (by rw [len_nat]; simp; omega), get?_nat, List.getElem?_eq_getElem hk]
      simp only [Option.bind_some]
      unfold gateAt at hok
      rw [List.getElem?_eq_getElem hk] at hok
      simp only at hok
      unfold gateB at hok
      rw [hlt] at hok
      rw [List.take_succ_eq_append_getElem hk]
      generalize x.Gates[k] = g at hfit hok ⊢
      simp only [Bool.and_eq_true, decide_eq_true_eq, Bool.not_eq_true'] at hok
      obtain ⟨⟨⟨⟨cA, cB⟩, c2⟩, c3⟩, c4⟩ := hok
      have nA : g.A ≠ 0 := by unfold iab at c2; split at c2 <;> omega
      have nB : g.B ≠ 0 := by unfold iab at c2 c3; split at c2 <;> split at c3 <;> omega
      rw [w64_id (x := 1 + x.Inputs) (by omega) (by omega), w64_id (x := 1 + x.Inputs + (k : Int)) (by omega) (by omega)]
      have e1 : impl_isLiteral g.A (1 + x.Inputs + (k : Int)) = some true := by
        unfold impl_isLiteral
        rw [w64_id (by omega) (by omega)]; simp; omega
      have e2 : impl_isLiteral g.B (1 + x.Inputs + (k : Int)) = some true := by
        unfold impl_isLiteral
        rw [w64_id (by omega) (by omega)]; simp; omega
      have e3 : decide (iab g.A < 2) = false := by simp; omega
      have e4 : decide (iab g.A ≥ iab g.B) = false := by simp; omega
      have hg : mget? fitK_Gate false ((x.Gates.take k).reverse.map fun q => (q, true)) g = some false := by
        unfold mget?
        rw [if_pos (fitK hfit), look_seen, c4]
      have hp : mput? fitK_Gate ((x.Gates.take k).reverse.map fun q => (q, true)) g true = some ((g, true) :: ((x.Gates.take k).reverse.map fun q => (q, true))) := by
        unfold mput?
        rw [if_pos ⟨fitK hfit, by simp; unfold room; omega⟩]
      simp only [e1, e2, Bool.not_true, Bool.or_self, Bool.false_eq_true, if_false, Option.bind_some, impl_var hfit.1 (by omega), impl_var hfit.2 (by omega), Bool.false_or, e3, e4, hg, hp]
      rw [w64_id (by omega) (by omega)]
      simp
    · have hfit : fit_Gate x.Gates[k] := hx.2.2 _ (List.getElem_mem hk)
      have hlt : (x.Gates.take k).length = k := by simp; omega
      rw [if_pos (by rw [len_nat]; simp; omega), get?_nat, List.getElem?_eq_getElem hk]
      simp only [Option.bind_some]
      unfold gateAt at hok
      rw [List.getElem?_eq_getElem hk] at hok
      simp only at hok
      unfold gateB at hok
      rw [hlt] at hok
      generalize x.Gates[k] = g at hfit hok ⊢
      rw [w64_id (x := 1 + x.Inputs) (by omega) (by omega), w64_id (x := 1 + x.Inputs + (k : Int)) (by omega) (by omega)]
      have lit : ∀ a : Int, impl_isLiteral a (1 + x.Inputs + (k : Int)) = some (decide (a ≠ 0 ∧ -(1 + x.Inputs + (k : Int)) ≤ a ∧ a ≤ 1 + x.Inputs + (k : Int))) := by
        intro a
        unfold impl_isLiteral
        rw [w64_id (by omega) (by omega)]
        congr 1
        rw [Bool.eq_iff_iff]
        simp
        omega
      have hg : mget? fitK_Gate false ((x.Gates.take k).reverse.map fun q => (q, true)) g = some ((x.Gates.take k).contains g) := by
        unfold mget?
        rw [if_pos (fitK hfit), look_seen]
      simp only [lit, Option.bind_some]
      by_cases cA : g.A ≠ 0 ∧ -(1 + x.Inputs + (k : Int)) ≤ g.A ∧ g.A ≤ 1 + x.Inputs + (k : Int)
      · by_cases cB : g.B ≠ 0 ∧ -(1 + x.Inputs + (k : Int)) ≤ g.B ∧ g.B ≤ 1 + x.Inputs + (k : Int)
        · simp only [cA, cB, ne_eq, not_false_eq_true, and_self, decide_true, Bool.not_true, Bool.or_self, Bool.false_eq_true, if_false, Option.bind_some, hg, Bool.false_or]
          cases hc : (x.Gates.take k).contains g with
          | true => simp
          | false =>
            simp only [Bool.false_eq_true, if_false, impl_var hfit.1 (by omega), impl_var hfit.2 (by omega), Option.bind_some]
            by_cases c2 : iab g.A < 2
            · simp [c2]
            · have e3 : decide (iab g.A < 2) = false := by simp; omega
              simp only [e3, Bool.false_eq_true, if_false, Option.bind_some, Bool.false_or]
              by_cases c3 : iab g.A ≥ iab g.B
              · simp [c3]
              · exfalso
                rw [hc] at hok
                have : (decide (-(x.Inputs + 1 + (k : Int)) ≤ g.A ∧ g.A ≤ x.Inputs + 1 + (k : Int)) && decide (-(x.Inputs + 1 + (k : Int)) ≤ g.B ∧ g.B ≤ x.Inputs + 1 + (k : Int)) && decide (2 ≤ iab g.A) && decide (iab g.A < iab g.B) && !false) = true := by
                  simp; omega
                rw [this] at hok; cases hok
        · have eB : decide (g.B ≠ 0 ∧ -(1 + x.Inputs + (k : Int)) ≤ g.B ∧ g.B ≤ 1 + x.Inputs + (k : Int)) = false := by simpa using cB
          rw [eB]
          simp [cA]
      · have eA : decide (g.A ≠ 0 ∧ -(1 + x.Inputs + (k : Int)) ≤ g.A ∧ g.A ≤ 1 + x.Inputs + (k : Int)) = false := by simpa using cA
        rw [eA]
        simp
    · simp only
      rw [if_neg (by rw [len_nat]; simp)]
  · rw [if_pos (by rw [len_nat]; simp; omega)]
    have : (decide (0 ≤ x.Inputs ∧ x.Inputs ≤ 30) && decide ((x.Gates.length : Int) ≤ 360)) = false := by
      simp only [Bool.and_eq_false_iff, decide_eq_false_iff_not]; omega
    rw [this]; rfl
end Go.Proofs.Ytknlknnihinmjaa
