/- What sums of lines mean. No program in sight. -/
import Derived.Test.YtckeihpjfeonmaaPWord
namespace Go.Proofs.Ytckeihpjfeonmaa
open Go.GL
def wv (E : List Bool) : List Int → Int
  | [] => 0
  | x :: l => b2i (litV E x) + 2 * wv E l
theorem b2i_bd (b : Bool) : 0 ≤ b2i b ∧ b2i b ≤ 1 := by cases b <;> decide
theorem wv_snoc (E : List Bool) (l : List Int) (x : Int) : wv E (l ++ [x]) = wv E l + b2i (litV E x) * 2 ^ l.length := by
  induction l with
  | nil => simp [wv]
  | cons y l ih =>
    simp only [List.cons_append, wv, ih, List.length_cons, Int.pow_succ]
    rw [← Int.mul_assoc]
    generalize b2i (litV E x) * 2 ^ l.length = t
    omega
theorem wv_bd (E : List Bool) (l : List Int) : 0 ≤ wv E l ∧ wv E l < 2 ^ l.length := by
  induction l with
  | nil => simp [wv]
  | cons y l ih =>
    have := b2i_bd (litV E y)
    simp only [wv, List.length_cons, Int.pow_succ]
    generalize (2 : Int) ^ l.length = t at *
    omega
theorem pow_k16 : ∀ k : Nat, k < 16 → shl? 1 (k : Int) = some (2 ^ k) := by decide
theorem pow_bd : ∀ k : Nat, k < 16 → (2 : Int) ^ k ≤ 32768 := by decide
theorem word_list {E : List Bool} {l : List Int} (hE : E.length ≤ 1000) (hl : l.length ≤ 15) (h : ∀ x ∈ l, litN (E.length : Int) x = true) : laws_word fuel E l = some (wv E l) := by
  unfold laws_word
  have key : iterN (fun (s1 : Int × Int) =>
    if (decide (s1.2 < (len l))) then
      (get? l s1.2).bind fun x1 =>
      if ((decide ((cond (decide (x1 < 0)) (w64 (0 - x1)) x1) < 1)) || (decide ((cond (decide (x1 < 0)) (w64 (0 - x1)) x1) > (len E)))) then
        some (.inr (.inr (-1)))
      else
        (get? E (w64 ((cond (decide (x1 < 0)) (w64 (0 - x1)) x1) - 1))).bind fun x2 =>
        if (x2 == (decide (x1 > 0))) then
          (shl? 1 s1.2).bind fun x3 =>
          some (.inl ((w64 (s1.1 + x3)), (w64 (s1.2 + 1))))
        else
          some (.inl (s1.1, (w64 (s1.2 + 1))))
    else
      some (.inr (.inl (s1.1)))) fuel (0, 0) = some (.inl (wv E l) : Int ⊕ Int) := by
    refine iterN_up (I := fun k s => s = (wv E (l.take k), (k : Int))) (m := l.length) (fun k s hk hs => ?_) (fun s hs => ?_) l.length 0 (0, 0) (by omega) rfl fuel (lt_fuel (by omega))
    · subst hs
      refine ⟨_, ?_, rfl⟩
      have hq := h _ (List.getElem_mem hk)
      have hgq : get? l (k : Int) = some l[k] := by rw [get?_nat, List.getElem?_eq_getElem hk]
      have hbd := wv_bd E (l.take k)
      have hlk : (l.take k).length = k := by rw [List.length_take]; omega
      have hpk := pow_bd k (by omega)
      rw [hlk] at hbd
      rw [List.take_succ_eq_append_getElem hk, wv_snoc, hlk]
      generalize l[k] = q at hq hgq ⊢
      generalize wv E (l.take k) = t at hbd ⊢
      obtain ⟨h1, h2⟩ := litN_iff.1 hq
      have hab : cond (decide (q < 0)) (w64 (0 - q)) q = iab q := by
        unfold iab at *
        by_cases c : q < 0
        · rw [if_pos c] at *
          rw [decide_eq_true c, cond_true, w64_id (by omega) (by omega)]; omega
        · rw [if_neg c] at *
          rw [decide_eq_false c, cond_false]
      obtain ⟨v, hv, hlv⟩ := get_lit h1 h2
      simp only
      rw [if_pos (by rw [len_nat]; simp; omega), hgq]
      simp only [Option.bind_some]
      rw [hab, if_neg (by rw [len_nat]; simp; omega), w64_id (x := iab q - 1) (by omega) (by omega), show iab q - 1 = (((iab q - 1).toNat : Nat) : Int) by omega, get?_nat, hv]
      simp only [Option.bind_some]
      rw [pow_k16 k (by omega), hlv]
      simp only [Option.bind_some]
      rw [w64_id (x := (k : Int) + 1) (by omega) (by omega), w64_id (x := t + 2 ^ k) (by omega) (by omega)]
      have hk1 : (((k + 1 : Nat)) : Int) = (k : Int) + 1 := by omega
      rw [hk1]
      unfold iab at h1
      by_cases c : q < 0
      · have e : decide (q > 0) = false := by simp; omega
        rw [e, if_pos c]
        cases v <;> simp [b2i]
      · rw [if_neg c] at h1
        have e : decide (q > 0) = true := by simp; omega
        rw [e, if_neg c]
        cases v <;> simp [b2i]
    · subst hs
      simp only
      rw [if_neg (by rw [len_nat]; simp), List.take_length]
  rw [key]
  rfl
/-! sums -/
theorem bit_sum : ∀ x y c : Bool, b2i (xor (xor x y) c) + 2 * b2i ((x && y) || ((xor x y) && c)) = b2i x + b2i y + b2i c := by decide
/-- in every circuit that has grown from it -/
def SemI (s : D.Circuit) (f g : List Bool → Int) : Prop := ∀ c', CircP c' → Grow s c' → ∀ v : List Bool, (v.length : Int) = c'.Inputs → f (ev c' v) = g (ev c' v)
theorem step_sem {s : BS} {k : Nat} {t : AS} (h : GoodA s k t) (hn : t.2.2.1.Gates.length + 9 ≤ 360) {p : Int × Int} (h1 : litN (lines s.1) p.1 = true) (h2 : litN (lines s.1) p.2 = true) :
    (addStep t p).2.2.1.Gates.length ≤ t.2.2.1.Gates.length + 9 ∧ (addStep t p).2.2.2 = t.2.2.2 ∧ ∃ o, (addStep t p).1 = t.1 ++ [o] ∧ Grow t.2.2.1 (addStep t p).2.2.1 ∧
      SemI (addStep t p).2.2.1 (fun E => b2i (litV E o) + 2 * b2i (litV E (addStep t p).2.1)) (fun E => b2i (litV E p.1) + b2i (litV E p.2) + b2i (litV E t.2.1)) := by
  have a1 := litN_mono h1 h.grow.lines
  have a2 := litN_mono h2 h.grow.lines
  have gx := xor_good h.circ a1 a2
  have go := xor_good gx.circ gx.lit (litN_mono h.lit gx.grow.lines)
  have e1 := gx.grow.trans go.grow
  have gy := and_good go.circ (litN_mono a1 e1.lines) (litN_mono a2 e1.lines)
  have e2 := go.grow.trans gy.grow
  have e3 := gx.grow.trans e2
  have gz := and_good gy.circ (litN_mono gx.lit e2.lines) (litN_mono h.lit e3.lines)
  have gw := or_good gz.circ (litN_mono gy.lit gz.grow.lines) gz.lit
  have nx := xor_cnt t.2.2 p.1 p.2
  have no := xor_cnt (xorP t.2.2 p.1 p.2).2 (xorP t.2.2 p.1 p.2).1 t.2.1
  have sx := xor_sem (s := t.2.2) (by omega) h.circ a1 a2
  have so := xor_sem (s := (xorP t.2.2 p.1 p.2).2) (by omega) gx.circ gx.lit (litN_mono h.lit gx.grow.lines)
  have ny := and_cnt (xorP (xorP t.2.2 p.1 p.2).2 (xorP t.2.2 p.1 p.2).1 t.2.1).2 p.1 p.2
  have nz := and_cnt (andP (xorP (xorP t.2.2 p.1 p.2).2 (xorP t.2.2 p.1 p.2).1 t.2.1).2 p.1 p.2).2 (xorP t.2.2 p.1 p.2).1 t.2.1
  have nw := or_cnt (andP (andP (xorP (xorP t.2.2 p.1 p.2).2 (xorP t.2.2 p.1 p.2).1 t.2.1).2 p.1 p.2).2 (xorP t.2.2 p.1 p.2).1 t.2.1).2 (andP (xorP (xorP t.2.2 p.1 p.2).2 (xorP t.2.2 p.1 p.2).1 t.2.1).2 p.1 p.2).1 (andP (andP (xorP (xorP t.2.2 p.1 p.2).2 (xorP t.2.2 p.1 p.2).1 t.2.1).2 p.1 p.2).2 (xorP t.2.2 p.1 p.2).1 t.2.1).1
  have sy := and_sem (s := (xorP (xorP t.2.2 p.1 p.2).2 (xorP t.2.2 p.1 p.2).1 t.2.1).2) (by omega) (litN_mono a1 e1.lines) (litN_mono a2 e1.lines)
  have sz := and_sem (s := (andP (xorP (xorP t.2.2 p.1 p.2).2 (xorP t.2.2 p.1 p.2).1 t.2.1).2 p.1 p.2).2) (by omega) (litN_mono gx.lit e2.lines) (litN_mono h.lit e3.lines)
  have sw := or_sem (s := (andP (andP (xorP (xorP t.2.2 p.1 p.2).2 (xorP t.2.2 p.1 p.2).1 t.2.1).2 p.1 p.2).2 (xorP t.2.2 p.1 p.2).1 t.2.1).2) (by omega) gz.circ (litN_mono gy.lit gz.grow.lines) gz.lit
  have m1 := sx.mono (e2.trans (gz.grow.trans gw.grow))
  have m2 := so.mono (gy.grow.trans (gz.grow.trans gw.grow))
  have m3 := sy.mono (gz.grow.trans gw.grow)
  have m4 := sz.mono gw.grow
  have gall := e3.trans (gz.grow.trans gw.grow)
  refine ⟨?_, ?_, (xorP (xorP t.2.2 p.1 p.2).2 (xorP t.2.2 p.1 p.2).1 t.2.1).1, rfl, gall, ?_⟩
  · show (orP (andP (andP (xorP (xorP t.2.2 p.1 p.2).2 (xorP t.2.2 p.1 p.2).1 t.2.1).2 p.1 p.2).2 (xorP t.2.2 p.1 p.2).1 t.2.1).2 (andP (xorP (xorP t.2.2 p.1 p.2).2 (xorP t.2.2 p.1 p.2).1 t.2.1).2 p.1 p.2).1 (andP (andP (xorP (xorP t.2.2 p.1 p.2).2 (xorP t.2.2 p.1 p.2).1 t.2.1).2 p.1 p.2).2 (xorP t.2.2 p.1 p.2).1 t.2.1).1).2.1.Gates.length ≤ _
    omega
  · show (orP (andP (andP (xorP (xorP t.2.2 p.1 p.2).2 (xorP t.2.2 p.1 p.2).1 t.2.1).2 p.1 p.2).2 (xorP t.2.2 p.1 p.2).1 t.2.1).2 (andP (xorP (xorP t.2.2 p.1 p.2).2 (xorP t.2.2 p.1 p.2).1 t.2.1).2 p.1 p.2).1 (andP (andP (xorP (xorP t.2.2 p.1 p.2).2 (xorP t.2.2 p.1 p.2).1 t.2.1).2 p.1 p.2).2 (xorP t.2.2 p.1 p.2).1 t.2.1).1).2.2 = _
    rw [nw.2 (by omega), nz.2 (by omega), ny.2 (by omega), no.2 (by omega), nx.2 (by omega)]
  · intro c' hc hg v hv
    have hg' : Grow (orP (andP (andP (xorP (xorP t.2.2 p.1 p.2).2 (xorP t.2.2 p.1 p.2).1 t.2.1).2 p.1 p.2).2 (xorP t.2.2 p.1 p.2).1 t.2.1).2 (andP (xorP (xorP t.2.2 p.1 p.2).2 (xorP t.2.2 p.1 p.2).1 t.2.1).2 p.1 p.2).1 (andP (andP (xorP (xorP t.2.2 p.1 p.2).2 (xorP t.2.2 p.1 p.2).1 t.2.1).2 p.1 p.2).2 (xorP t.2.2 p.1 p.2).1 t.2.1).1).2.1 c' := hg
    have q1 := m1 c' hc hg' v hv
    have q2 := m2 c' hc hg' v hv
    have q3 := m3 c' hc hg' v hv
    have q4 := m4 c' hc hg' v hv
    have q5 := sw c' hc hg' v hv
    simp only at q1 q2 q3 q4 q5 ⊢
    show b2i (litV (ev c' v) (xorP (xorP t.2.2 p.1 p.2).2 (xorP t.2.2 p.1 p.2).1 t.2.1).1) + 2 * b2i (litV (ev c' v) (orP (andP (andP (xorP (xorP t.2.2 p.1 p.2).2 (xorP t.2.2 p.1 p.2).1 t.2.1).2 p.1 p.2).2 (xorP t.2.2 p.1 p.2).1 t.2.1).2 (andP (xorP (xorP t.2.2 p.1 p.2).2 (xorP t.2.2 p.1 p.2).1 t.2.1).2 p.1 p.2).1 (andP (andP (xorP (xorP t.2.2 p.1 p.2).2 (xorP t.2.2 p.1 p.2).1 t.2.1).2 p.1 p.2).2 (xorP t.2.2 p.1 p.2).1 t.2.1).1).1) = _
    rw [q5, q3, q4, q2, q1]
    exact bit_sum _ _ _
/-- a sum of numbers and a carry -/
theorem sum_sem {s : BS} (hs : CircP s.1) {a b : List Int} {c : Int} (hab : a.length = b.length) (ha : ∀ x ∈ a, litN (lines s.1) x = true) (hb : ∀ x ∈ b, litN (lines s.1) x = true) (hc : litN (lines s.1) c = true) (hn : s.1.Gates.length + 9 * a.length ≤ 360) :
    (addP s a b c).2.2.1.Gates.length ≤ s.1.Gates.length + 9 * a.length ∧ (addP s a b c).2.2.2 = s.2 ∧
      SemI (addP s a b c).2.2.1 (fun E => wv E (addP s a b c).1 + b2i (litV E (addP s a b c).2.1) * 2 ^ a.length) (fun E => wv E a + wv E b + b2i (litV E c)) := by
  have hz : (a.zip b).length = a.length := by rw [List.length_zip, ← hab, Nat.min_self]
  have key : ∀ k, k ≤ (a.zip b).length → GoodA s k (((a.zip b).take k).foldl addStep ([], c, s)) ∧ ((((a.zip b).take k).foldl addStep ([], c, s)).2.2.1.Gates.length ≤ s.1.Gates.length + 9 * k ∧ (((a.zip b).take k).foldl addStep ([], c, s)).2.2.2 = s.2 ∧
      SemI (((a.zip b).take k).foldl addStep ([], c, s)).2.2.1 (fun E => wv E (((a.zip b).take k).foldl addStep ([], c, s)).1 + b2i (litV E (((a.zip b).take k).foldl addStep ([], c, s)).2.1) * 2 ^ k) (fun E => wv E (a.take k) + wv E (b.take k) + b2i (litV E c))) := by
    refine fold_inv addStep (fun k t => GoodA s k t ∧ (t.2.2.1.Gates.length ≤ s.1.Gates.length + 9 * k ∧ t.2.2.2 = s.2 ∧ SemI t.2.2.1 (fun E => wv E t.1 + b2i (litV E t.2.1) * 2 ^ k) (fun E => wv E (a.take k) + wv E (b.take k) + b2i (litV E c)))) _ _ ⟨⟨hs, Grow.refl _, hc, rfl, fun _ h => by cases h⟩, by simp, rfl, fun c' _ _ v _ => by simp [wv]⟩ fun k p t hp ht => ?_
    obtain ⟨g, n, f, m⟩ := ht
    have hk : k < a.length := by rw [← hz]; exact (List.getElem?_eq_some_iff.1 hp).1
    obtain ⟨hpa, hpb⟩ := zip_mem hp
    have h1 := ha _ (List.mem_of_getElem? hpa)
    have h2 := hb _ (List.mem_of_getElem? hpb)
    have gs := add_good g h1 h2
    obtain ⟨n2, f2, o, ho, hgr, hm⟩ := step_sem g (by omega) h1 h2
    refine ⟨gs, by omega, by rw [f2, f], ?_⟩
    intro c' hc' hg' v hv
    have q1 := m c' hc' (hgr.trans hg') v hv
    have q2 := hm c' hc' hg' v hv
    simp only at q1 q2 ⊢
    obtain ⟨hka, hea⟩ := List.getElem?_eq_some_iff.1 hpa
    obtain ⟨hkb, heb⟩ := List.getElem?_eq_some_iff.1 hpb
    rw [ho, wv_snoc, g.len, List.take_succ_eq_append_getElem hka, List.take_succ_eq_append_getElem hkb, wv_snoc, wv_snoc, hea, heb, show (a.take k).length = k by rw [List.length_take]; omega, show (b.take k).length = k by rw [List.length_take]; omega, Int.pow_succ]
    generalize (2 : Int) ^ k = T at *
    generalize ev c' v = E at *
    have q3 : (b2i (litV E o) + 2 * b2i (litV E (addStep t p).2.1)) * T = (b2i (litV E p.1) + b2i (litV E p.2) + b2i (litV E t.2.1)) * T := by rw [q2]
    simp only [Int.add_mul, Int.mul_assoc] at q3
    have q4 : b2i (litV E (addStep t p).2.1) * (T * 2) = 2 * (b2i (litV E (addStep t p).2.1) * T) := by rw [← Int.mul_assoc, Int.mul_comm]
    rw [q4]
    omega
  have hfin := (key (a.zip b).length (Nat.le_refl _)).2
  rw [List.take_length, hz, List.take_length, show b.take a.length = b by rw [hab, List.take_length]] at hfin
  exact hfin
end Go.Proofs.Ytckeihpjfeonmaa
