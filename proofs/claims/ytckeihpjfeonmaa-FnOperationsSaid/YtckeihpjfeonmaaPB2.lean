/- The plain laws of circuits that grow: operations of gates, adders. No program in sight. -/
import Derived.Test.YtckeihpjfeonmaaPB
namespace Go.Proofs.Ytckeihpjfeonmaa
open Go.GL
def upI (k : Int) (L : Nat) : List Int := (List.range L).map fun (j : Nat) => k + (j : Int)
theorem upI_len (k : Int) (L : Nat) : (upI k L).length = L := by simp [upI]
theorem upI_get {k : Int} {L i : Nat} (h : i < L) : (upI k L)[i]? = some (k + (i : Int)) := by simp [upI, h]
/-! operations -/
abbrev net (s : BS) : D.l04Net := ⟨s.1, s.2⟩
structure Good (s : BS) (r : Int × BS) : Prop where
  circ : CircP r.2.1
  grow : Grow s.1 r.2.1
  lit : litN (lines r.2.1) r.1 = true
def SpecOp (f : D.l04Net → Option (Int × D.l04Net)) (s : BS) (r : Int × BS) : Prop := f (net s) = some (r.1, net r.2)
def ImplOp (f : D.builder → Option (Int × D.builder)) (s : BS) (r : Int × BS) : Prop := ∀ m, RelB m s → ∃ m', f m = some (r.1, m') ∧ RelB m' r.2
def orP (s : BS) (a b : Int) : Int × BS := let r := andP s (-a) (-b); (-r.1, r.2)
def xorP (s : BS) (a b : Int) : Int × BS := let p := andP s a (-b); let q := andP p.2 (-a) b; orP q.2 p.1 q.1
def ifP (s : BS) (c a b : Int) : Int × BS := let p := andP s c a; let q := andP p.2 (-c) b; orP q.2 p.1 q.1
theorem w64_neg {n x : Int} (h : litN n x = true) (hn : n ≤ 391) : w64 (0 - x) = -x := by
  have := lit_fit h hn
  rw [litN_iff] at h
  unfold iab at h
  rw [w64_id (by split at h <;> omega) (by split at h <;> omega)]; omega
section
variable {s : BS} (hs : CircP s.1)
include hs
theorem and_good {a b : Int} (ha : litN (lines s.1) a = true) (hb : litN (lines s.1) b = true) : Good s (andP s a b) := by
  obtain ⟨h1, h2, h3⟩ := andP_ok hs ha hb
  exact ⟨h1, h2, h3⟩
theorem or_good {a b : Int} (ha : litN (lines s.1) a = true) (hb : litN (lines s.1) b = true) : Good s (orP s a b) := by
  obtain ⟨h1, h2, h3⟩ := and_good hs (a := -a) (b := -b) (by rw [litN_neg]; exact ha) (by rw [litN_neg]; exact hb)
  exact ⟨h1, h2, by simp only [orP]; rw [litN_neg]; exact h3⟩
theorem impl_or {a b : Int} (ha : litN (lines s.1) a = true) (hb : litN (lines s.1) b = true) : ImplOp (fun m => impl_builder_or m a b) s (orP s a b) := by
  intro m hm
  have hn := hs.lines1
  have g := and_good hs (a := -a) (b := -b) (by rw [litN_neg]; exact ha) (by rw [litN_neg]; exact hb)
  obtain ⟨m', h1, h2⟩ := impl_and hm hs (a := -a) (b := -b) (by rw [litN_neg]; exact ha) (by rw [litN_neg]; exact hb)
  refine ⟨m', ?_, h2⟩
  unfold impl_builder_or orP
  simp only
  rw [w64_neg ha hn, w64_neg hb hn, h1]
  simp only [Option.bind_some]
  rw [w64_neg g.lit g.circ.lines1]
theorem if_good {c a b : Int} (hc : litN (lines s.1) c = true) (ha : litN (lines s.1) a = true) (hb : litN (lines s.1) b = true) : Good s (ifP s c a b) := by
  have g1 := and_good hs hc ha
  have g2 := and_good g1.circ (a := -c) (b := b) (by rw [litN_neg]; exact litN_mono hc g1.grow.lines) (litN_mono hb g1.grow.lines)
  have g3 := or_good g2.circ (a := (andP s c a).1) (b := (andP (andP s c a).2 (-c) b).1) (litN_mono g1.lit g2.grow.lines) g2.lit
  exact ⟨g3.circ, (g1.grow.trans g2.grow).trans g3.grow, g3.lit⟩
theorem impl_body {c a b : Int} (hc : litN (lines s.1) c = true) (ha : litN (lines s.1) a = true) (hb : litN (lines s.1) b = true) : ∀ m, RelB m s → ∃ m', ((impl_builder_and m c a).bind fun x1 =>
  (impl_builder_and x1.2 (w64 (0 - c)) b).bind fun x2 =>
  (impl_builder_or x2.2 x1.1 x2.1).bind fun x3 =>
  some (x3.1, x3.2)) = some ((ifP s c a b).1, m') ∧ RelB m' (ifP s c a b).2 := by
  intro m hm
  have g1 := and_good hs hc ha
  have hc' : litN (lines (andP s c a).2.1) (-c) = true := by rw [litN_neg]; exact litN_mono hc g1.grow.lines
  have g2 := and_good g1.circ (a := -c) (b := b) hc' (litN_mono hb g1.grow.lines)
  obtain ⟨m1, e1, r1⟩ := impl_and hm hs hc ha
  obtain ⟨m2, e2, r2⟩ := impl_and r1 g1.circ hc' (litN_mono hb g1.grow.lines)
  obtain ⟨m3, e3, r3⟩ := impl_or g2.circ (a := (andP s c a).1) (b := (andP (andP s c a).2 (-c) b).1) (litN_mono g1.lit g2.grow.lines) g2.lit m2 r2
  refine ⟨m3, ?_, r3⟩
  unfold ifP
  simp only
  rw [e1]
  simp only [Option.bind_some]
  rw [w64_neg hc hs.lines1, e2]
  simp only [Option.bind_some]
  simp only at e3
  rw [e3]
  rfl
theorem impl_if {c a b : Int} (hc : litN (lines s.1) c = true) (ha : litN (lines s.1) a = true) (hb : litN (lines s.1) b = true) : ImplOp (fun m => impl_builder_choose m c a b) s (ifP s c a b) := by
  unfold ImplOp impl_builder_choose
  exact impl_body hs hc ha hb
theorem xor_good {a b : Int} (ha : litN (lines s.1) a = true) (hb : litN (lines s.1) b = true) : Good s (xorP s a b) :=
  if_good hs (c := a) (a := -b) (b := b) ha (by rw [litN_neg]; exact hb) hb
theorem impl_xor {a b : Int} (ha : litN (lines s.1) a = true) (hb : litN (lines s.1) b = true) : ImplOp (fun m => impl_builder_xor m a b) s (xorP s a b) := by
  intro m hm
  obtain ⟨m', e, r⟩ := impl_body hs (c := a) (a := -b) (b := b) ha (by rw [litN_neg]; exact hb) hb m hm
  refine ⟨m', ?_, r⟩
  simp only at e ⊢
  unfold impl_builder_xor
  rw [w64_neg hb hs.lines1]
  exact e
end

/-! literals of a circuit -/
theorem lit_decide {n x : Int} (hn : 0 ≤ n) : (decide (x ≠ 0) && (decide (-n ≤ x) && decide (x ≤ n))) = litN n x := by
  unfold litN iab
  split <;> grind
theorem impl_islit {x n : Int} (h0 : 0 ≤ n) (h1 : n ≤ 1000) : impl_isLiteral x n = some (litN n x) := by
  unfold impl_isLiteral
  rw [w64_id (by omega) (by omega), ← lit_decide h0, Bool.and_assoc]
  congr 1
  have e1 : (x != 0) = decide (x ≠ 0) := by cases h : x != 0 <;> simp_all
  have e2 : decide (x ≥ 0 - n) = decide (-n ≤ x) := by simp
  rw [e1, e2]
theorem impl_lits {l : List Int} {n : Int} (h0 : 0 ≤ n) (h1 : n ≤ 1000) (hl : l.length ≤ 1048576) : impl_literalsOk fuel l n = some (l.all (litN n)) := by
  unfold impl_literalsOk
  rw [iterN_first (I := fun k t => t = (k : Int)) (m := l.length) (ok := fun k => (l[k]?).all (litN n)) (r := .inl ()) (r' := .inr false) (fun k t hk ht hok => ?_) (fun k t hk ht hok => ?_) (fun t ht => ?_) l.length 0 _ (by omega) (by simp) fuel (lt_fuel hl)]
  · have : ((List.range' 0 l.length).all fun k => (l[k]?).all (litN n)) = l.all (litN n) := by
      rw [Bool.eq_iff_iff, List.all_eq_true, List.all_eq_true]
      constructor
      · intro h x hx
        obtain ⟨i, hi⟩ := List.mem_iff_getElem?.1 hx
        have := h i (by simp [List.mem_range'_1]; exact (List.getElem?_eq_some_iff.1 hi).1)
        rw [hi] at this; simpa using this
      · intro h i hi
        simp [List.mem_range'_1] at hi
        rw [List.getElem?_eq_getElem hi]
        simpa using h _ (List.getElem_mem hi)
    rw [this]
    cases l.all (litN n) <;> simp
  all_goals subst ht
  · refine ⟨((k + 1 : Nat) : Int), ?_, rfl⟩
    rw [if_pos (by rw [len_nat]; simp; omega), get?_nat, List.getElem?_eq_getElem hk]
    rw [List.getElem?_eq_getElem hk] at hok
    simp only [Option.all_some] at hok
    simp only [Option.bind_some, impl_islit h0 h1, hok]
    rw [if_neg (by simp), w64_id (by omega) (by omega)]
    rfl
  · rw [if_pos (by rw [len_nat]; simp; omega), get?_nat, List.getElem?_eq_getElem hk]
    rw [List.getElem?_eq_getElem hk] at hok
    simp only [Option.all_some] at hok
    simp only [Option.bind_some, impl_islit h0 h1, hok]
    rw [if_pos (by simp)]
  · rw [if_neg (by rw [len_nat]; simp)]
theorem impl_lines {c : D.Circuit} (hc : CircP c) : impl_linesOf c = some (lines c) := by
  have := hc.i0
  have := hc.i1
  have := hc.len
  unfold impl_linesOf
  rw [len_nat, w64_id (x := 1 + c.Inputs) (by omega) (by omega), w64_id (by omega) (by omega)]
  unfold lines
  congr 1; omega

/-! a start -/
theorem spec_new {c : D.Circuit} (hc : CircP c) : spec_l04New c = some (net (c, false)) := by
  have := hc.len
  unfold spec_l04New
  have : app? ([] : List D.Gate) c.Gates = some c.Gates := by
    unfold app?; rw [if_pos (by simp; unfold room; omega)]; simp
  rw [this]
  rfl
theorem impl_new {c : D.Circuit} (hc : CircP c) : ∃ m, impl_newBuilder fuel c = some m ∧ RelB m (c, false) := by
  have h0 := hc.i0
  have h1 := hc.i1
  have h2 := hc.len
  have hcl : slices_Clone___impl_Gate_impl_Gate_ c.Gates = some c.Gates := by
    unfold slices_Clone___impl_Gate_impl_Gate_
    have : app? ([] : List D.Gate) c.Gates = some c.Gates := by
      unfold app?; rw [if_pos (by simp; unfold room; omega)]; simp
    rw [this]; rfl
  let mk : Nat → List (D.Gate × Int) := fun k => ((List.range k).reverse.map fun i => (c.Gates.getD i default, c.Inputs + 2 + (i : Int)))
  have hmk : ∀ k, k < c.Gates.length → mk (k + 1) = (c.Gates.getD k default, c.Inputs + 2 + (k : Int)) :: mk k := by
    intro k hk
    simp only [mk]
    rw [List.range_succ, List.reverse_append, List.reverse_singleton, List.singleton_append, List.map_cons]
  have hln : ∀ k, k ≤ c.Gates.length → LineOk c.Inputs (c.Gates.take k) (mk k) := by
    intro k
    induction k with
    | zero => intro _; exact LineOk.nil _
    | succ k ih =>
      intro hk
      have hk' : k < c.Gates.length := by omega
      have hg : c.Gates[k]? = some (c.Gates.getD k default) := by
        rw [List.getElem?_eq_getElem hk', List.getD_eq_getElem?_getD, List.getElem?_eq_getElem hk']; rfl
      rw [hmk k hk', List.take_succ_eq_append_getElem hk']
      have := (ih (by omega)).snoc (hc.find_take hg)
      have e : c.Gates.getD k default = c.Gates[k] := by rw [List.getElem?_eq_getElem hk'] at hg; exact (Option.some.inj hg).symm
      rw [e] at this ⊢
      rw [List.length_take, Nat.min_eq_left (by omega)] at this
      exact this
  refine ⟨⟨c, mk c.Gates.length, false⟩, ?_, ⟨rfl, rfl, ?_⟩⟩
  · unfold impl_newBuilder
    rw [hcl]
    simp only [Option.bind_some]
    rw [iterN_up (I := fun k t => t = ((k : Int), mk k)) (m := c.Gates.length) (r := mk c.Gates.length) (fun k t hk ht => ?_) (fun t ht => ?_) c.Gates.length 0 _ (by omega) (by simp [mk]) fuel (lt_fuel (by omega))]
    · rfl
    all_goals subst ht
    · refine ⟨(((k + 1 : Nat) : Int), mk (k + 1)), ?_, rfl⟩
      have hfit : fit_Gate c.Gates[k] := hc.fit.2.2 _ (List.getElem_mem hk)
      simp only
      rw [if_pos (by rw [len_nat]; simp; omega), get?_nat, List.getElem?_eq_getElem hk]
      simp only [Option.bind_some]
      rw [w64_id (x := 2 + c.Inputs) (by omega) (by omega), w64_id (x := 2 + c.Inputs + (k : Int)) (by omega) (by omega)]
      have e : c.Gates.getD k default = c.Gates[k] := by rw [List.getD_eq_getElem?_getD, List.getElem?_eq_getElem hk]; rfl
      have hp : mputE? fitK_Gate fitZ (mk k) c.Gates[k] (2 + c.Inputs + (k : Int)) = some (mk (k + 1)) := by
        unfold mputE?
        rw [if_pos ⟨fitK hfit, fitZ_of (by unfold fitInt; omega), by rw [(hln k (by omega)).len]; unfold room; simp; omega⟩, hmk k hk, e]
        congr 3; omega
      rw [hp]
      simp only [Option.bind_some]
      rw [w64_id (by omega) (by omega)]
      rfl
    · simp only
      rw [if_neg (by rw [len_nat]; simp)]
  · have := hln c.Gates.length (Nat.le_refl _)
    rw [List.take_length] at this
    exact this

/-! sums -/
abbrev AS := List Int × Int × BS
def addStep (t : AS) (p : Int × Int) : AS :=
  let x := xorP t.2.2 p.1 p.2
  let o := xorP x.2 x.1 t.2.1
  let y := andP o.2 p.1 p.2
  let z := andP y.2 x.1 t.2.1
  let w := orP z.2 y.1 z.1
  (t.1 ++ [o.1], w.1, w.2)
def addP (s : BS) (a b : List Int) (c : Int) : AS := (a.zip b).foldl addStep ([], c, s)
theorem fold_inv {α β : Type} (f : β → α → β) (Pp : Nat → β → Prop) (l : List α) (b : β) (h0 : Pp 0 b) (hs : ∀ k x t, l[k]? = some x → Pp k t → Pp (k + 1) (f t x)) : ∀ k, k ≤ l.length → Pp k ((l.take k).foldl f b) := by
  intro k
  induction k with
  | zero => intro _; exact h0
  | succ k ih =>
    intro hk
    rw [List.take_succ_eq_append_getElem (by omega), List.foldl_append]
    exact hs k _ _ (List.getElem?_eq_getElem (by omega)) (ih (by omega))
structure GoodA (s : BS) (k : Nat) (t : AS) : Prop where
  circ : CircP t.2.2.1
  grow : Grow s.1 t.2.2.1
  lit : litN (lines t.2.2.1) t.2.1 = true
  len : t.1.length = k
  lits : ∀ x ∈ t.1, litN (lines t.2.2.1) x = true
structure AddOk (t : AS) (p : Int × Int) : Prop where
  g1 : Good t.2.2 (xorP t.2.2 p.1 p.2)
  g2 : Good (xorP t.2.2 p.1 p.2).2 (xorP (xorP t.2.2 p.1 p.2).2 (xorP t.2.2 p.1 p.2).1 t.2.1)
  g3 : Good (xorP (xorP t.2.2 p.1 p.2).2 (xorP t.2.2 p.1 p.2).1 t.2.1).2 (andP (xorP (xorP t.2.2 p.1 p.2).2 (xorP t.2.2 p.1 p.2).1 t.2.1).2 p.1 p.2)
theorem add_good {s : BS} {k : Nat} {t : AS} (h : GoodA s k t) {p : Int × Int} (h1 : litN (lines s.1) p.1 = true) (h2 : litN (lines s.1) p.2 = true) : GoodA s (k + 1) (addStep t p) := by
  have a1 := litN_mono h1 h.grow.lines
  have a2 := litN_mono h2 h.grow.lines
  have gx := xor_good h.circ a1 a2
  have go := xor_good gx.circ gx.lit (litN_mono h.lit gx.grow.lines)
  have e1 := gx.grow.trans go.grow
  have gy := and_good go.circ (litN_mono a1 e1.lines) (litN_mono a2 e1.lines)
  have e2 := go.grow.trans gy.grow
  have e3 := gx.grow.trans e2
  have gz := and_good gy.circ (litN_mono gx.lit e2.lines) (litN_mono h.lit e3.lines)
  have gw := or_good gz.circ (litN_mono gy.lit gz.grow.lines) gz.lit
  have e4 := gy.grow.trans (gz.grow.trans gw.grow)
  have e5 := e1.trans e4
  refine ⟨gw.circ, h.grow.trans e5, gw.lit, by simp [addStep, h.len], fun x hx => ?_⟩
  simp only [addStep, List.mem_append, List.mem_singleton] at hx
  rcases hx with hx | rfl
  · exact litN_mono (h.lits x hx) e5.lines
  · exact litN_mono go.lit e4.lines
theorem zip_mem {a b : List Int} {p : Int × Int} {k : Nat} (h : (a.zip b)[k]? = some p) : a[k]? = some p.1 ∧ b[k]? = some p.2 := by
  rw [List.getElem?_zip_eq_some] at h
  exact h
theorem addK_good {s : BS} (hs : CircP s.1) {a b : List Int} {c : Int} (ha : ∀ x ∈ a, litN (lines s.1) x = true) (hb : ∀ x ∈ b, litN (lines s.1) x = true) (hc : litN (lines s.1) c = true) :
    ∀ k, k ≤ (a.zip b).length → GoodA s k (((a.zip b).take k).foldl addStep ([], c, s)) :=
  fold_inv addStep (GoodA s) _ _ ⟨hs, Grow.refl _, hc, rfl, fun _ h => by cases h⟩ fun k p t hp ht => add_good ht (ha _ (List.mem_of_getElem? (zip_mem hp).1)) (hb _ (List.mem_of_getElem? (zip_mem hp).2))
theorem addP_good {s : BS} (hs : CircP s.1) {a b : List Int} {c : Int} (hab : a.length = b.length) (ha : ∀ x ∈ a, litN (lines s.1) x = true) (hb : ∀ x ∈ b, litN (lines s.1) x = true) (hc : litN (lines s.1) c = true) : GoodA s a.length (addP s a b c) := by
  have := addK_good hs ha hb hc (a.zip b).length (Nat.le_refl _)
  rw [List.take_length, List.length_zip, ← hab, Nat.min_self] at this
  exact this
theorem set_fill {l : List Int} {n : Nat} {x : Int} : (l ++ List.replicate (n + 1) 0).set l.length x = (l ++ [x]) ++ List.replicate n 0 := by
  rw [List.set_append_right _ _ (Nat.le_refl _), Nat.sub_self, List.replicate_succ, List.set_cons_zero, List.append_assoc, List.singleton_append]
theorem impl_add {s : BS} (hs : CircP s.1) {m : D.builder} (hm : RelB m s) {a b : List Int} {c : Int} (hl : a.length ≤ 1048576) (hab : a.length = b.length) (ha : ∀ x ∈ a, litN (lines s.1) x = true) (hb : ∀ x ∈ b, litN (lines s.1) x = true) (hc : litN (lines s.1) c = true) :
    ∃ m', impl_builder_add fuel m a b c = some ((addP s a b c).1, (addP s a b c).2.1, m') ∧ RelB m' (addP s a b c).2.2 := by
  have hz : (a.zip b).length = a.length := by rw [List.length_zip, ← hab, Nat.min_self]
  obtain ⟨mc, ml, mf⟩ := m
  obtain ⟨sc, sf⟩ := s
  obtain ⟨hc1, hf1, hl1⟩ := hm
  simp only at hc1 hf1 hl1
  subst hc1
  subst hf1
  simp only at hs ha hb hc
  have main : ∀ (d k : Nat) (ln : List (D.Gate × Int)), k + d = a.length →
      (let r := ((a.zip b).take k).foldl addStep ([], c, (mc, mf)); RelB ⟨r.2.2.1, ln, r.2.2.2⟩ r.2.2) → ∀ n, d < n → ∃ ln',
      iterN (fun (s1 : Int × Int × (List Int) × Int × Bool × (List D.Gate) × (List (D.Gate × Int))) =>
    if (decide (s1.2.1 < (len a))) then
      (get? a s1.2.1).bind fun x2 =>
      (get? b s1.2.1).bind fun x3 =>
      (impl_builder_xor (D.builder.mk (D.Circuit.mk s1.2.2.2.1 s1.2.2.2.2.2.1) s1.2.2.2.2.2.2 s1.2.2.2.2.1) x2 x3).bind fun x4 =>
      (impl_builder_xor x4.2 x4.1 s1.1).bind fun x5 =>
      (set? s1.2.2.1 s1.2.1 x5.1).bind fun x6 =>
      (get? a s1.2.1).bind fun x7 =>
      (get? b s1.2.1).bind fun x8 =>
      (impl_builder_and x5.2 x7 x8).bind fun x9 =>
      (impl_builder_and x9.2 x4.1 s1.1).bind fun x10 =>
      (impl_builder_or x10.2 x9.1 x10.1).bind fun x11 =>
      some (.inl (x11.1, (w64 (s1.2.1 + 1)), x6, x11.2.c.Inputs, x11.2.full, x11.2.c.Gates, x11.2.line))
    else
      some (.inr (s1.1, s1.2.2.1, s1.2.2.2.1, s1.2.2.2.2.1, s1.2.2.2.2.2.1, s1.2.2.2.2.2.2))) n
        (let r := ((a.zip b).take k).foldl addStep ([], c, (mc, mf)); (r.2.1, (k : Int), r.1 ++ List.replicate d 0, r.2.2.1.Inputs, r.2.2.2, r.2.2.1.Gates, ln)) =
        some (let r := addP (mc, mf) a b c; (r.2.1, r.1, r.2.2.1.Inputs, r.2.2.2, r.2.2.1.Gates, ln')) ∧ (let r := addP (mc, mf) a b c; RelB ⟨r.2.2.1, ln', r.2.2.2⟩ r.2.2) := by
    intro d
    induction d with
    | zero =>
      intro k ln hk hr n hn
      obtain ⟨n, rfl⟩ : ∃ j, n = j + 1 := ⟨n - 1, by omega⟩
      obtain rfl : k = a.length := by omega
      refine ⟨ln, ?_, ?_⟩
      · unfold iterN addP
        rw [List.take_of_length_le (by omega)]
        simp only
        rw [if_neg (by rw [len_nat]; simp)]
        simp
      · unfold addP
        rw [List.take_of_length_le (by omega)] at hr
        exact hr
    | succ d ih =>
      intro k ln hk hr n hn
      obtain ⟨n, rfl⟩ : ∃ j, n = j + 1 := ⟨n - 1, by omega⟩
      have hka : k < a.length := by omega
      have hk' : k < (a.zip b).length := by omega
      have hkb : k < b.length := by omega
      have h := addK_good (s := (mc, mf)) hs ha hb hc k (by omega)
      have ih1 := ih (k + 1)
      rw [List.take_succ_eq_append_getElem hk', List.foldl_append, List.getElem_zip] at ih1
      generalize ((a.zip b).take k).foldl addStep ([], c, (mc, mf)) = t at h hr ih1 ⊢
      have a1 := litN_mono (ha _ (List.getElem_mem hka)) h.grow.lines
      have a2 := litN_mono (hb _ (List.getElem_mem hkb)) h.grow.lines
      have gx := xor_good h.circ a1 a2
      have go := xor_good gx.circ gx.lit (litN_mono h.lit gx.grow.lines)
      have e1 := gx.grow.trans go.grow
      have gy := and_good go.circ (litN_mono a1 e1.lines) (litN_mono a2 e1.lines)
      have e2 := go.grow.trans gy.grow
      have e3 := gx.grow.trans e2
      have gz := and_good gy.circ (litN_mono gx.lit e2.lines) (litN_mono h.lit e3.lines)
      obtain ⟨m1, sx, r1⟩ := impl_xor h.circ a1 a2 _ hr
      obtain ⟨m2, so, r2⟩ := impl_xor gx.circ gx.lit (litN_mono h.lit gx.grow.lines) _ r1
      obtain ⟨m3, sy, r3⟩ := impl_and r2 go.circ (litN_mono a1 e1.lines) (litN_mono a2 e1.lines)
      obtain ⟨m4, sz, r4⟩ := impl_and r3 gy.circ (litN_mono gx.lit e2.lines) (litN_mono h.lit e3.lines)
      obtain ⟨m5, sw, r5⟩ := impl_or gz.circ (litN_mono gy.lit gz.grow.lines) gz.lit _ r4
      simp only at sx so sw
      obtain ⟨c5, l5, f5⟩ := m5
      obtain ⟨hc5, hf5, hl5⟩ := r5
      simp only at hc5 hf5 hl5
      have hnext := ih1 l5 (by omega) (by simp only [List.foldl_cons, List.foldl_nil]; exact ⟨rfl, rfl, hl5⟩) n (by omega)
      obtain ⟨ln', hi, hrr⟩ := hnext
      refine ⟨ln', ?_, hrr⟩
      rw [← hi]
      conv => lhs; unfold iterN
      simp only
      rw [if_pos (by rw [len_nat]; simp; omega), get?_nat, get?_nat, List.getElem?_eq_getElem hka, List.getElem?_eq_getElem hkb]
      simp only [Option.bind_some]
      have sx' : impl_builder_xor (D.builder.mk (D.Circuit.mk t.2.2.1.Inputs t.2.2.1.Gates) ln t.2.2.2) a[k] b[k] = _ := sx
      rw [sx']
      simp only [Option.bind_some]
      rw [so]
      simp only [Option.bind_some]
      have hset : ∀ q, set? (t.1 ++ List.replicate (d + 1) 0) (k : Int) q = some ((t.1 ++ [q]) ++ List.replicate d 0) := fun q => by
        have e := set_fill (l := t.1) (n := d) (x := q)
        rw [h.len] at e
        rw [set?_nat (by simp [h.len]), e]
      rw [hset]
      simp only [Option.bind_some]
      rw [sy]
      simp only [Option.bind_some]
      rw [sz]
      simp only [Option.bind_some]
      rw [sw]
      simp only [Option.bind_some]
      rw [w64_id (by omega) (by omega), hc5, hf5]
      rfl
  obtain ⟨ln', hi, hr⟩ := main a.length 0 ml (by omega) (by simp only [List.take_zero, List.foldl_nil]; exact ⟨rfl, rfl, hl1⟩) fuel (lt_fuel hl)
  refine ⟨_, ?_, hr⟩
  unfold impl_builder_add
  rw [mk?_len (by unfold room; omega)]
  simp only [Option.bind_some]
  simp only [List.take_zero, List.foldl_nil, List.nil_append] at hi
  have hi' := congrArg (fun r => Option.bind r fun (rl1 : Int × (List Int) × Int × Bool × (List D.Gate) × (List (D.Gate × Int))) => some (rl1.2.1, rl1.1, (D.builder.mk (D.Circuit.mk rl1.2.2.1 rl1.2.2.2.2.1) rl1.2.2.2.2.2 rl1.2.2.2.1))) hi
  exact hi'
end Go.Proofs.Ytckeihpjfeonmaa
