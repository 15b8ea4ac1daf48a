/- The plain laws of circuits that grow. No program in sight. -/
import Derived.Test.YtknlknnihinmjaaPlain
namespace Go.Proofs.Ytknlknnihinmjaa
open Go.GL

theorem iterN_find {σt ρt : Type} {B : σt → Option (σt ⊕ ρt)} {I : Nat → σt → Prop} {m : Nat} {ok : Nat → Bool} {r : ρt} {r' : Nat → ρt} (hs : ∀ k s, k < m → I k s → ok k = false → ∃ s', B s = some (.inl s') ∧ I (k + 1) s') (hn : ∀ k s, k < m → I k s → ok k = true → B s = some (.inr (r' k)))
    (hf : ∀ s, I m s → B s = some (.inr r)) : ∀ (d k : Nat) (s : σt), k + d = m → I k s → ∀ n, d < n → iterN B n s = some (match (List.range' k d).find? ok with | some i => r' i | none => r)
  | 0, k, s, hk, hi, n, hn' => by
    obtain ⟨n, rfl⟩ : ∃ j, n = j + 1 := ⟨n - 1, by omega⟩
    obtain rfl : k = m := by omega
    unfold iterN; rw [hf s hi]
    simp
  | d + 1, k, s, hk, hi, n, hn' => by
    obtain ⟨n, rfl⟩ : ∃ j, n = j + 1 := ⟨n - 1, by omega⟩
    unfold iterN
    rw [List.range'_succ]
    cases hok : ok k with
    | false =>
      obtain ⟨s', h1, h2⟩ := hs k s (by omega) hi hok
      rw [h1]
      simp only
      rw [iterN_find hs hn hf d (k + 1) s' (by omega) h2 n (by omega), List.find?_cons, hok]
    | true =>
      rw [hn k s (by omega) hi hok, List.find?_cons, hok]

/-! where a gate stands -/
def find (l : List D.Gate) (g : D.Gate) : Option Nat := (List.range' 0 l.length).find? fun i => decide (l[i]? = some g)
theorem find_some {l : List D.Gate} {g : D.Gate} {i : Nat} (h : find l g = some i) : i < l.length ∧ l[i]? = some g := by
  have := List.find?_some h
  simp only [decide_eq_true_eq] at this
  exact ⟨(List.getElem?_eq_some_iff.1 this).1, this⟩
theorem find_none {l : List D.Gate} {g : D.Gate} : find l g = none ↔ g ∉ l := by
  unfold find
  rw [List.find?_eq_none]
  simp only [List.mem_range'_1, Nat.zero_add, Nat.zero_le, true_and, decide_eq_true_eq]
  constructor
  · intro h hm
    obtain ⟨i, hi⟩ := List.mem_iff_getElem?.1 hm
    exact h i (List.getElem?_eq_some_iff.1 hi).1 hi
  · intro h i _ hi
    exact h (List.mem_of_getElem? hi)
theorem find_snoc {l : List D.Gate} {g h : D.Gate} : find (l ++ [h]) g = (find l g).or (if g = h then some l.length else none) := by
  unfold find
  rw [List.length_append, List.length_singleton, List.range'_concat, List.find?_append]
  congr 1
  · have : ∀ n, n ≤ l.length → ∀ k, k + n ≤ l.length → (List.range' k n).find? (fun i => decide ((l ++ [h])[i]? = some g)) = (List.range' k n).find? (fun i => decide (l[i]? = some g)) := by
      intro n
      induction n with
      | zero => intro _ k _; rfl
      | succ n ih =>
        intro hn k hk
        rw [List.range'_succ, List.find?_cons, List.find?_cons, ih (by omega) (k + 1) (by omega), List.getElem?_append_left (by omega)]
    exact this _ (Nat.le_refl _) 0 (by omega)
  · simp only [Nat.zero_add, Nat.one_mul, List.find?_singleton]
    rw [List.getElem?_append_right (Nat.le_refl _)]
    simp only [Nat.sub_self, List.getElem?_cons_zero, Option.some.injEq, decide_eq_true_eq]
    by_cases e : g = h
    · rw [if_pos e, if_pos e.symm]
    · rw [if_neg e, if_neg (fun h => e h.symm)]

/-! right circuits -/
def lines (c : D.Circuit) : Int := c.Inputs + 1 + c.Gates.length
def litN (n x : Int) : Bool := decide (1 ≤ iab x) && decide (iab x ≤ n)
theorem litN_iff {n x : Int} : litN n x = true ↔ 1 ≤ iab x ∧ iab x ≤ n := by unfold litN; simp
theorem iab_neg (x : Int) : iab (-x) = iab x := by unfold iab; split <;> split <;> omega
theorem litN_neg {n x : Int} : litN n (-x) = litN n x := by unfold litN; rw [iab_neg]
theorem litN_mono {n n' x : Int} (h : litN n x = true) (hn : n ≤ n') : litN n' x = true := by rw [litN_iff] at *; omega
structure CircP (c : D.Circuit) : Prop where
  i0 : 0 ≤ c.Inputs
  i1 : c.Inputs ≤ 30
  len : c.Gates.length ≤ 360
  gate : ∀ k g, c.Gates[k]? = some g → gateB c.Inputs (c.Gates.take k) g = true
theorem circP_iff {c : D.Circuit} : circB2 c = true ↔ CircP c := by
  unfold circB2
  simp only [Bool.and_eq_true, decide_eq_true_eq, List.all_eq_true, List.mem_range'_1, Nat.zero_add, Nat.zero_le, true_and]
  constructor
  · rintro ⟨⟨⟨h1, h2⟩, h3⟩, h4⟩
    refine ⟨h1, h2, by omega, fun k g hg => ?_⟩
    have := h4 k (List.getElem?_eq_some_iff.1 hg).1
    unfold gateAt at this
    rw [hg] at this
    exact this
  · rintro ⟨h1, h2, h3, h4⟩
    refine ⟨⟨⟨h1, h2⟩, by omega⟩, fun k hk => ?_⟩
    unfold gateAt
    rw [List.getElem?_eq_getElem hk]
    exact h4 k _ (List.getElem?_eq_getElem hk)
theorem CircP.lines0 {c : D.Circuit} (h : CircP c) : 1 ≤ lines c := by have := h.i0; unfold lines; omega
theorem CircP.lines1 {c : D.Circuit} (h : CircP c) : lines c ≤ 391 := by have := h.i1; have := h.len; unfold lines; omega
theorem gateB_iff {n : Int} {l : List D.Gate} {g : D.Gate} : gateB n l g = true ↔ (-(n + 1 + (l.length : Int)) ≤ g.A ∧ g.A ≤ n + 1 + l.length) ∧ (-(n + 1 + (l.length : Int)) ≤ g.B ∧ g.B ≤ n + 1 + l.length) ∧ 2 ≤ iab g.A ∧ iab g.A < iab g.B ∧ g ∉ l := by
  unfold gateB
  simp only [Bool.and_eq_true, decide_eq_true_eq, Bool.not_eq_true', List.contains_eq_mem, decide_eq_false_iff_not, and_assoc]
theorem CircP.fit {c : D.Circuit} (h : CircP c) : fit_Circuit c := by
  refine ⟨by have := h.i0; have := h.i1; unfold fitInt; omega, by have := h.len; omega, fun g hg => ?_⟩
  obtain ⟨k, hk⟩ := List.mem_iff_getElem?.1 hg
  have h1 := gateB_iff.1 (h.gate k g hk)
  have hl := (List.getElem?_eq_some_iff.1 hk).1
  have h2 := h.len
  have h3 := h.i1
  have : (c.Gates.take k).length ≤ 360 := by rw [List.length_take]; omega
  unfold fit_Gate fitInt
  omega
theorem CircP.snoc {c : D.Circuit} (h : CircP c) {g : D.Gate} (hl : c.Gates.length < 360) (hg : gateB c.Inputs c.Gates g = true) : CircP ⟨c.Inputs, c.Gates ++ [g]⟩ := by
  refine ⟨h.i0, h.i1, by simp; omega, fun k x hx => ?_⟩
  simp only at hx ⊢
  by_cases hk : k < c.Gates.length
  · rw [List.getElem?_append_left hk] at hx
    rw [List.take_append_of_le_length (by omega)]
    exact h.gate k x hx
  · have hk2 := (List.getElem?_eq_some_iff.1 hx).1
    simp at hk2
    obtain rfl : k = c.Gates.length := by omega
    rw [List.getElem?_append_right (Nat.le_refl _)] at hx
    simp at hx
    subst hx
    rw [List.take_append_of_le_length (Nat.le_refl _), List.take_length]
    exact hg
theorem CircP.find_take {c : D.Circuit} (h : CircP c) {k : Nat} {g : D.Gate} (hk : c.Gates[k]? = some g) : find (c.Gates.take k) g = none := find_none.2 (gateB_iff.1 (h.gate k g hk)).2.2.2.2

/-- a circuit grows -/
structure Grow (c c' : D.Circuit) : Prop where
  inputs : c'.Inputs = c.Inputs
  gates : c.Gates <+: c'.Gates
theorem Grow.refl (c : D.Circuit) : Grow c c := ⟨rfl, List.prefix_rfl⟩
theorem Grow.trans {a b c : D.Circuit} (h : Grow a b) (k : Grow b c) : Grow a c := ⟨k.1.trans h.1, h.2.trans k.2⟩
theorem Grow.lines {c c' : D.Circuit} (h : Grow c c') : lines c ≤ lines c' := by
  have := h.2.length_le
  have := h.1
  unfold Proofs.Ytknlknnihinmjaa.lines; omega

/-! gates -/
def gate2 (a b : Int) : D.Gate := if iab a > iab b then ⟨b, a⟩ else ⟨a, b⟩
abbrev BS := D.Circuit × Bool
def andP (s : BS) (a b : Int) : Int × BS :=
  if a = -1 ∨ b = -1 ∨ a = -b then (-1, s) else if a = 1 then (b, s) else if b = 1 ∨ a = b then (a, s) else
  match find s.1.Gates (gate2 a b) with
  | some i => (s.1.Inputs + 2 + i, s)
  | none => if 360 ≤ s.1.Gates.length then (-1, (s.1, true)) else (s.1.Inputs + 2 + s.1.Gates.length, (⟨s.1.Inputs, s.1.Gates ++ [gate2 a b]⟩, s.2))
theorem gate2_ok {s : BS} (hs : CircP s.1) {a b : Int} (ha : litN (lines s.1) a = true) (hb : litN (lines s.1) b = true) (h1 : ¬ (a = -1 ∨ b = -1 ∨ a = -b)) (h2 : ¬ a = 1) (h3 : ¬ (b = 1 ∨ a = b)) (hf : find s.1.Gates (gate2 a b) = none) : gateB s.1.Inputs s.1.Gates (gate2 a b) = true := by
  rw [gateB_iff]
  have hn := find_none.1 hf
  rw [litN_iff] at ha hb
  have hl : lines s.1 = s.1.Inputs + 1 + s.1.Gates.length := rfl
  rw [hl] at ha hb
  refine ⟨?_, ?_, ?_, ?_, hn⟩ <;> (unfold gate2; unfold iab at *; split <;> grind)
theorem andP_ok {s : BS} (hs : CircP s.1) {a b : Int} (ha : litN (lines s.1) a = true) (hb : litN (lines s.1) b = true) :
    CircP (andP s a b).2.1 ∧ Grow s.1 (andP s a b).2.1 ∧ litN (lines (andP s a b).2.1) (andP s a b).1 = true := by
  have h1n := hs.lines0
  have hi := hs.i0
  unfold andP
  split
  · exact ⟨hs, Grow.refl _, litN_iff.2 ⟨by simp [iab], by simpa [iab] using h1n⟩⟩
  · rename_i c1
    split
    · exact ⟨hs, Grow.refl _, hb⟩
    · rename_i c2
      split
      · exact ⟨hs, Grow.refl _, ha⟩
      · rename_i c3
        split
        · rename_i i hf
          refine ⟨hs, Grow.refl _, litN_iff.2 ?_⟩
          have := (find_some hf).1
          simp only
          unfold iab lines
          rw [if_neg (by omega)]; omega
        · rename_i hf
          split
          · exact ⟨hs, Grow.refl _, litN_iff.2 ⟨by simp [iab], by simpa [iab] using h1n⟩⟩
          · rename_i c4
            refine ⟨hs.snoc (by omega) (gate2_ok hs ha hb c1 c2 c3 hf), ⟨rfl, List.prefix_append _ _⟩, litN_iff.2 ?_⟩
            simp only
            unfold iab lines
            rw [if_neg (by omega)]; simp; omega

theorem lit_fit {n a : Int} (h : litN n a = true) (hn : n ≤ 391) : fitInt a ∧ -1000 ≤ a := by
  rw [litN_iff] at h
  unfold iab at h
  unfold fitInt
  split at h <;> omega
theorem cond_gate (a b : Int) : (D.Gate.mk (cond (decide (iab a > iab b)) b a) (cond (decide (iab a > iab b)) a b)) = gate2 a b := by
  unfold gate2
  by_cases h : iab a > iab b
  · rw [if_pos h, decide_eq_true h]; rfl
  · rw [if_neg h, decide_eq_false h]; rfl
theorem dec3 {a b : Int} (hb : -1000 ≤ b ∧ b ≤ 1000) : ((((a == (-1)) || (b == (-1))) || (a == (w64 (0 - b)))) = true) ↔ (a = -1 ∨ b = -1 ∨ a = -b) := by
  rw [w64_id (by omega) (by omega)]
  simp only [Bool.or_eq_true, beq_iff_eq, or_assoc, Int.zero_sub]
/-- what the builder remembers of the lines -/
structure LineOk (n : Int) (l : List D.Gate) (m : List (D.Gate × Int)) : Prop where
  look : ∀ g, m.lookup g = (find l g).map fun (i : Nat) => n + 2 + (i : Int)
  len : m.length = l.length
theorem LineOk.nil (n : Int) : LineOk n [] [] := ⟨fun _ => rfl, rfl⟩
theorem LineOk.snoc {n : Int} {l : List D.Gate} {m : List (D.Gate × Int)} (h : LineOk n l m) {g : D.Gate} (hg : find l g = none) : LineOk n (l ++ [g]) ((g, n + 2 + (l.length : Int)) :: m) := by
  refine ⟨fun x => ?_, by simp [h.len]⟩
  rw [List.lookup_cons, find_snoc]
  by_cases e : x = g
  · subst e
    simp [hg]
  · have : (x == g) = false := by simpa using e
    rw [this, if_neg e, h.look x]
    simp
structure RelB (m : D.builder) (s : BS) : Prop where
  c : m.c = s.1
  full : m.full = s.2
  line : LineOk s.1.Inputs s.1.Gates m.line
theorem fitK_lit {a b : Int} (ha : fitInt a) (hb : fitInt b) : fitK_Gate (gate2 a b) = true := by
  refine fitK ?_
  unfold gate2
  split
  · exact ⟨hb, ha⟩
  · exact ⟨ha, hb⟩
theorem fitZ_of {a : Int} (h : fitInt a) : fitZ a = true := by
  unfold fitInt at h
  simp only [fitZ, Lit.wf, IntKind.min, IntKind.max, Bool.and_eq_true]
  simp [IntKind.bits, IntKind.signed] at *
  omega
end Go.Proofs.Ytknlknnihinmjaa
