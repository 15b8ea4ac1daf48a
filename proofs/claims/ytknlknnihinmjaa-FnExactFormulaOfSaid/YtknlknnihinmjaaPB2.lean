/- The plain laws of circuits that grow: operations of gates, adders. No program in sight. -/
import Derived.Test.YtknlknnihinmjaaPB
namespace Go.Proofs.Ytknlknnihinmjaa
open Go.GL
theorem eqIntS_eq {p q : List Int} (h : p.length ≤ 1048576) : laws_eqIntS fuel p q = some (decide (p = q)) := eq_slice (by omega) (lt_fuel h)
def upI (k : Int) (L : Nat) : List Int := (List.range L).map fun (j : Nat) => k + (j : Int)
theorem upI_len (k : Int) (L : Nat) : (upI k L).length = L := by simp [upI]
theorem upI_get {k : Int} {L i : Nat} (h : i < L) : (upI k L)[i]? = some (k + (i : Int)) := by simp [upI, h]
theorem markIntS_eq {p : List Int} {k : Int} (hk : 0 ≤ k) (hb : k ≤ 4000000000000) (hp : p.length ≤ 1048576) : laws_markIntS fuel p k = some (k + p.length, upI k p.length) := by
  unfold laws_markIntS
  rw [iterN_up (I := fun i s => s = (k + (i : Int), (i : Int), pre (fun (j : Nat) => k + (j : Int)) p i)) (m := p.length) (r := (k + (p.length : Int), upI k p.length)) (fun i s hi hs => ?_) (fun s hs => ?_) p.length 0 _ (by omega) (by simp [pre_zero]) fuel (lt_fuel hp)]
  · rfl
  · subst hs
    refine ⟨_, ?_, rfl⟩
    simp only
    rw [if_pos (by rw [len_nat]; simp; omega), set?_nat (by rw [pre_len (by omega)]; exact hi), pre_set hi]
    simp only [Option.bind_some]
    rw [w64_id (by omega) (by omega), w64_id (by omega) (by omega)]
    simp only [Option.some.injEq, Sum.inl.injEq, Prod.mk.injEq, and_true]
    omega
  · subst hs
    simp only
    rw [if_neg (by rw [len_nat]; simp), pre_all]
    rfl
theorem heldIntS_eq {L : Nat} {k : Int} (hk : 0 ≤ k) (hb : k ≤ 4000000000000) (hp : L ≤ 1048576) : laws_heldIntS fuel (upI k L) k = some (k + L) := by
  unfold laws_heldIntS
  rw [iterN_up (I := fun i s => s = (k + (i : Int), (i : Int))) (m := L) (r := .inl (k + (L : Int))) (fun i s hi hs => ?_) (fun s hs => ?_) L 0 _ (by omega) (by simp) fuel (lt_fuel hp)]
  · rfl
  · subst hs
    refine ⟨_, ?_, rfl⟩
    simp only
    rw [if_pos (by rw [len_nat, upI_len]; simp; omega), get?_nat, upI_get hi]
    simp only [Option.bind_some]
    rw [if_neg (by simp), w64_id (by omega) (by omega), w64_id (by omega) (by omega)]
    simp only [Option.some.injEq, Sum.inl.injEq, Prod.mk.injEq]
    omega
  · subst hs
    simp only
    rw [if_neg (by rw [len_nat, upI_len]; simp)]

/-! operations -/
abbrev net (s : BS) : D.l04Net := ⟨s.1, s.2⟩
structure Good (s : BS) (r : Int × BS) : Prop where
  circ : CircP r.2.1
  grow : Grow s.1 r.2.1
  lit : litN (lines r.2.1) r.1 = true
def SpecOp (f : D.l04Net → Option (Int × D.l04Net)) (s : BS) (r : Int × BS) : Prop := f (net s) = some (r.1, net r.2)
def ImplOp (f : D.builder → Option (Int × D.builder)) (s : BS) (r : Int × BS) : Prop := ∀ m, RelB m s → ∃ m', f m = some (r.1, m') ∧ RelB m' r.2
def orP (s : BS) (a b : Int) : Int × BS := let r := andP s (-a) (-b); (-r.1, r.2)
def xorP (s : BS) (a b : Int) : Int × BS := let p := andP s a (-b); let q := andP p.2 (-a) b; orP q.2 p.1 q.1
def ifP (s : BS) (c a b : Int) : Int × BS := let p := andP s c a; let q := andP p.2 (-c) b; orP q.2 p.1 q.1
theorem w64_neg {n x : Int} (h : litN n x = true) (hn : n ≤ 391) : w64 (0 - x) = -x := by
  have := lit_fit h hn
  rw [litN_iff] at h
  unfold iab at h
  rw [w64_id (by split at h <;> omega) (by split at h <;> omega)]; omega
section
variable {s : BS} (hs : CircP s.1)
include hs
theorem and_good {a b : Int} (ha : litN (lines s.1) a = true) (hb : litN (lines s.1) b = true) : Good s (andP s a b) := by
  obtain ⟨h1, h2, h3⟩ := andP_ok hs ha hb
  exact ⟨h1, h2, h3⟩
theorem or_good {a b : Int} (ha : litN (lines s.1) a = true) (hb : litN (lines s.1) b = true) : Good s (orP s a b) := by
  obtain ⟨h1, h2, h3⟩ := and_good hs (a := -a) (b := -b) (by rw [litN_neg]; exact ha) (by rw [litN_neg]; exact hb)
  exact ⟨h1, h2, by simp only [orP]; rw [litN_neg]; exact h3⟩
theorem if_good {c a b : Int} (hc : litN (lines s.1) c = true) (ha : litN (lines s.1) a = true) (hb : litN (lines s.1) b = true) : Good s (ifP s c a b) := by
  have g1 := and_good hs hc ha
  have g2 := and_good g1.circ (a := -c) (b := b) (by rw [litN_neg]; exact litN_mono hc g1.grow.lines) (litN_mono hb g1.grow.lines)
  have g3 := or_good g2.circ (a := (andP s c a).1) (b := (andP (andP s c a).2 (-c) b).1) (litN_mono g1.lit g2.grow.lines) g2.lit
  exact ⟨g3.circ, (g1.grow.trans g2.grow).trans g3.grow, g3.lit⟩
theorem xor_good {a b : Int} (ha : litN (lines s.1) a = true) (hb : litN (lines s.1) b = true) : Good s (xorP s a b) :=
  if_good hs (c := a) (a := -b) (b := b) ha (by rw [litN_neg]; exact hb) hb
end

/-! literals of a circuit -/
theorem lit_decide {n x : Int} (hn : 0 ≤ n) : (decide (x ≠ 0) && (decide (-n ≤ x) && decide (x ≤ n))) = litN n x := by
  unfold litN iab
  split <;> grind
theorem spec_lits {l : List Int} {n : Int} (h0 : 0 ≤ n) (h1 : n ≤ 1000) (hl : l.length ≤ 1048576) : spec_l03Lits fuel l n = some (l.all (litN n)) := by
  unfold spec_l03Lits
  rw [iterN_first (I := fun k t => t = (k : Int)) (m := l.length) (ok := fun k => (l[k]?).all (litN n)) (r := .inl ()) (r' := .inr false) (fun k t hk ht hok => ?_) (fun k t hk ht hok => ?_) (fun t ht => ?_) l.length 0 _ (by omega) (by simp) fuel (lt_fuel hl)]
  · have : ((List.range' 0 l.length).all fun k => (l[k]?).all (litN n)) = l.all (litN n) := by
      rw [Bool.eq_iff_iff, List.all_eq_true, List.all_eq_true]
      constructor
      · intro h x hx
        obtain ⟨i, hi⟩ := List.mem_iff_getElem?.1 hx
        have := h i (by simp [List.mem_range'_1]; exact (List.getElem?_eq_some_iff.1 hi).1)
        rw [hi] at this; simpa using this
      · intro h i hi
        simp [List.mem_range'_1] at hi
        rw [List.getElem?_eq_getElem hi]
        simpa using h _ (List.getElem_mem hi)
    rw [this]
    cases l.all (litN n) <;> simp
  all_goals subst ht
  · refine ⟨((k + 1 : Nat) : Int), ?_, rfl⟩
    rw [if_pos (by rw [len_nat]; simp; omega), get?_nat, List.getElem?_eq_getElem hk]
    rw [List.getElem?_eq_getElem hk] at hok
    simp only [Option.all_some] at hok
    rw [← lit_decide h0] at hok
    simp only [Bool.and_eq_true, decide_eq_true_eq] at hok
    simp only [Option.bind_some]
    rw [if_neg (by simpa using hok.1), spec_l01In, w64_id (x := 0 - n) (by omega) (by omega)]
    simp only [Option.bind_some]
    rw [if_neg (by simp; omega), w64_id (by omega) (by omega)]
    rfl
  · rw [if_pos (by rw [len_nat]; simp; omega), get?_nat, List.getElem?_eq_getElem hk]
    rw [List.getElem?_eq_getElem hk] at hok
    simp only [Option.all_some] at hok
    rw [← lit_decide h0] at hok
    simp only [Option.bind_some]
    by_cases c : l[k] = 0
    · rw [if_pos (by simpa using c)]
      simp [c]
    · rw [if_neg (by simpa using c), spec_l01In, w64_id (x := 0 - n) (by omega) (by omega)]
      simp only [Option.bind_some]
      have : (decide (l[k] ≥ 0 - n) && decide (l[k] ≤ n)) = false := by
        simp only [ne_eq, c, not_false_eq_true, decide_true, Bool.true_and] at hok
        rw [← hok]; congr 2; simp
      rw [this]
      simp
  · rw [if_neg (by rw [len_nat]; simp)]
theorem impl_islit {x n : Int} (h0 : 0 ≤ n) (h1 : n ≤ 1000) : impl_isLiteral x n = some (litN n x) := by
  unfold impl_isLiteral
  rw [w64_id (by omega) (by omega), ← lit_decide h0, Bool.and_assoc]
  congr 1
  have e1 : (x != 0) = decide (x ≠ 0) := by cases h : x != 0 <;> simp_all
  have e2 : decide (x ≥ 0 - n) = decide (-n ≤ x) := by simp
  rw [e1, e2]
theorem impl_lits {l : List Int} {n : Int} (h0 : 0 ≤ n) (h1 : n ≤ 1000) (hl : l.length ≤ 1048576) : impl_literalsOk fuel l n = some (l.all (litN n)) := by
  unfold impl_literalsOk
  rw [iterN_first (I := fun k t => t = (k : Int)) (m := l.length) (ok := fun k => (l[k]?).all (litN n)) (r := .inl ()) (r' := .inr false) (fun k t hk ht hok => ?_) (fun k t hk ht hok => ?_) (fun t ht => ?_) l.length 0 _ (by omega) (by simp) fuel (lt_fuel hl)]
  · have : ((List.range' 0 l.length).all fun k => (l[k]?).all (litN n)) = l.all (litN n) := by
      rw [Bool.eq_iff_iff, List.all_eq_true, List.all_eq_true]
      constructor
      · intro h x hx
        obtain ⟨i, hi⟩ := List.mem_iff_getElem?.1 hx
        have := h i (by simp [List.mem_range'_1]; exact (List.getElem?_eq_some_iff.1 hi).1)
        rw [hi] at this; simpa using this
      · intro h i hi
        simp [List.mem_range'_1] at hi
        rw [List.getElem?_eq_getElem hi]
        simpa using h _ (List.getElem_mem hi)
    rw [this]
    cases l.all (litN n) <;> simp
  all_goals subst ht
  · refine ⟨((k + 1 : Nat) : Int), ?_, rfl⟩
    rw [if_pos (by rw [len_nat]; simp; omega), get?_nat, List.getElem?_eq_getElem hk]
    rw [List.getElem?_eq_getElem hk] at hok
    simp only [Option.all_some] at hok
    simp only [Option.bind_some, impl_islit h0 h1, hok]
    rw [if_neg (by simp), w64_id (by omega) (by omega)]
    rfl
  · rw [if_pos (by rw [len_nat]; simp; omega), get?_nat, List.getElem?_eq_getElem hk]
    rw [List.getElem?_eq_getElem hk] at hok
    simp only [Option.all_some] at hok
    simp only [Option.bind_some, impl_islit h0 h1, hok]
    rw [if_pos (by simp)]
  · rw [if_neg (by rw [len_nat]; simp)]
theorem spec_clits {c : D.Circuit} (hc : CircP c) {l : List Int} (hl : l.length ≤ 1048576) : spec_l04Lits fuel c l = some (l.all (litN (lines c))) := by
  have := hc.i0
  have := hc.i1
  have := hc.len
  unfold spec_l04Lits
  rw [len_nat, w64_id (x := c.Inputs + 1) (by omega) (by omega), w64_id (by omega) (by omega)]
  show Option.bind (spec_l03Lits fuel l (lines c)) _ = _
  rw [spec_lits (by have := hc.lines0; omega) (by have := hc.lines1; omega) hl]
  rfl
theorem impl_lines {c : D.Circuit} (hc : CircP c) : impl_linesOf c = some (lines c) := by
  have := hc.i0
  have := hc.i1
  have := hc.len
  unfold impl_linesOf
  rw [len_nat, w64_id (x := 1 + c.Inputs) (by omega) (by omega), w64_id (by omega) (by omega)]
  unfold lines
  congr 1; omega

/-! a start -/
/-! sums -/
abbrev AS := List Int × Int × BS
def addStep (t : AS) (p : Int × Int) : AS :=
  let x := xorP t.2.2 p.1 p.2
  let o := xorP x.2 x.1 t.2.1
  let y := andP o.2 p.1 p.2
  let z := andP y.2 x.1 t.2.1
  let w := orP z.2 y.1 z.1
  (t.1 ++ [o.1], w.1, w.2)
def addP (s : BS) (a b : List Int) (c : Int) : AS := (a.zip b).foldl addStep ([], c, s)
theorem fold_inv {α β : Type} (f : β → α → β) (Pp : Nat → β → Prop) (l : List α) (b : β) (h0 : Pp 0 b) (hs : ∀ k x t, l[k]? = some x → Pp k t → Pp (k + 1) (f t x)) : ∀ k, k ≤ l.length → Pp k ((l.take k).foldl f b) := by
  intro k
  induction k with
  | zero => intro _; exact h0
  | succ k ih =>
    intro hk
    rw [List.take_succ_eq_append_getElem (by omega), List.foldl_append]
    exact hs k _ _ (List.getElem?_eq_getElem (by omega)) (ih (by omega))
structure GoodA (s : BS) (k : Nat) (t : AS) : Prop where
  circ : CircP t.2.2.1
  grow : Grow s.1 t.2.2.1
  lit : litN (lines t.2.2.1) t.2.1 = true
  len : t.1.length = k
  lits : ∀ x ∈ t.1, litN (lines t.2.2.1) x = true
structure AddOk (t : AS) (p : Int × Int) : Prop where
  g1 : Good t.2.2 (xorP t.2.2 p.1 p.2)
  g2 : Good (xorP t.2.2 p.1 p.2).2 (xorP (xorP t.2.2 p.1 p.2).2 (xorP t.2.2 p.1 p.2).1 t.2.1)
  g3 : Good (xorP (xorP t.2.2 p.1 p.2).2 (xorP t.2.2 p.1 p.2).1 t.2.1).2 (andP (xorP (xorP t.2.2 p.1 p.2).2 (xorP t.2.2 p.1 p.2).1 t.2.1).2 p.1 p.2)
theorem add_good {s : BS} {k : Nat} {t : AS} (h : GoodA s k t) {p : Int × Int} (h1 : litN (lines s.1) p.1 = true) (h2 : litN (lines s.1) p.2 = true) : GoodA s (k + 1) (addStep t p) := by
  have a1 := litN_mono h1 h.grow.lines
  have a2 := litN_mono h2 h.grow.lines
  have gx := xor_good h.circ a1 a2
  have go := xor_good gx.circ gx.lit (litN_mono h.lit gx.grow.lines)
  have e1 := gx.grow.trans go.grow
  have gy := and_good go.circ (litN_mono a1 e1.lines) (litN_mono a2 e1.lines)
  have e2 := go.grow.trans gy.grow
  have e3 := gx.grow.trans e2
  have gz := and_good gy.circ (litN_mono gx.lit e2.lines) (litN_mono h.lit e3.lines)
  have gw := or_good gz.circ (litN_mono gy.lit gz.grow.lines) gz.lit
  have e4 := gy.grow.trans (gz.grow.trans gw.grow)
  have e5 := e1.trans e4
  refine ⟨gw.circ, h.grow.trans e5, gw.lit, by simp [addStep, h.len], fun x hx => ?_⟩
  simp only [addStep, List.mem_append, List.mem_singleton] at hx
  rcases hx with hx | rfl
  · exact litN_mono (h.lits x hx) e5.lines
  · exact litN_mono go.lit e4.lines
theorem zip_mem {a b : List Int} {p : Int × Int} {k : Nat} (h : (a.zip b)[k]? = some p) : a[k]? = some p.1 ∧ b[k]? = some p.2 := by
  rw [List.getElem?_zip_eq_some] at h
  exact h
theorem addK_good {s : BS} (hs : CircP s.1) {a b : List Int} {c : Int} (ha : ∀ x ∈ a, litN (lines s.1) x = true) (hb : ∀ x ∈ b, litN (lines s.1) x = true) (hc : litN (lines s.1) c = true) :
    ∀ k, k ≤ (a.zip b).length → GoodA s k (((a.zip b).take k).foldl addStep ([], c, s)) :=
  fold_inv addStep (GoodA s) _ _ ⟨hs, Grow.refl _, hc, rfl, fun _ h => by cases h⟩ fun k p t hp ht => add_good ht (ha _ (List.mem_of_getElem? (zip_mem hp).1)) (hb _ (List.mem_of_getElem? (zip_mem hp).2))
theorem addP_good {s : BS} (hs : CircP s.1) {a b : List Int} {c : Int} (hab : a.length = b.length) (ha : ∀ x ∈ a, litN (lines s.1) x = true) (hb : ∀ x ∈ b, litN (lines s.1) x = true) (hc : litN (lines s.1) c = true) : GoodA s a.length (addP s a b c) := by
  have := addK_good hs ha hb hc (a.zip b).length (Nat.le_refl _)
  rw [List.take_length, List.length_zip, ← hab, Nat.min_self] at this
  exact this
theorem set_fill {l : List Int} {n : Nat} {x : Int} : (l ++ List.replicate (n + 1) 0).set l.length x = (l ++ [x]) ++ List.replicate n 0 := by
  rw [List.set_append_right _ _ (Nat.le_refl _), Nat.sub_self, List.replicate_succ, List.set_cons_zero, List.append_assoc, List.singleton_append]
end Go.Proofs.Ytknlknnihinmjaa
