/- What the gates of a circuit mean. No program in sight. -/
import Derived.Test.YtckeihpjfeonmaaPEval
import Derived.Test.YtckeihpjfeonmaaPCur
namespace Go.Proofs.Ytckeihpjfeonmaa
open Go.GL
def ev (c : D.Circuit) (v : List Bool) : List Bool := outV' c v c.Gates.length
theorem fold_pre (gs : List D.Gate) (l : List Bool) : l <+: gs.foldl stepV l := by
  induction gs generalizing l with
  | nil => exact List.prefix_rfl
  | cons g gs ih => rw [List.foldl_cons]; exact (List.prefix_append _ _).trans (ih _)
theorem outV_pre {c : D.Circuit} {v : List Bool} {k : Nat} (hk : k ≤ c.Gates.length) : outV' c v k <+: ev c v := by
  unfold ev outV'
  rw [List.take_length]
  conv => rhs; rw [← List.take_append_drop k c.Gates, List.foldl_append]
  exact fold_pre _ _
theorem litV_pre {l m : List Bool} (h : l <+: m) {a : Int} (h1 : 1 ≤ iab a) (h2 : iab a ≤ l.length) : litV m a = litV l a := by
  obtain ⟨t, rfl⟩ := h
  unfold litV
  rw [List.getElem?_append_left (by omega)]
theorem litV_neg {l : List Bool} {a : Int} (h : 1 ≤ iab a) : litV l (-a) = !litV l a := by
  unfold litV
  rw [iab_neg]
  unfold iab at h
  by_cases c : a < 0
  · rw [if_pos c, if_neg (by omega), Bool.not_not]
  · rw [if_neg c] at h
    rw [if_neg c, if_pos (by omega)]
theorem ev_len {c : D.Circuit} {v : List Bool} (hv : (v.length : Int) = c.Inputs) : ((ev c v).length : Int) = lines c := by
  unfold ev lines
  rw [outV_len (Nat.le_refl _)]; omega
theorem ev_one {c : D.Circuit} {v : List Bool} : litV (ev c v) 1 = true := by
  have h := outV_pre (c := c) (v := v) (k := 0) (by omega)
  rw [litV_pre h (a := 1) (by decide) (by simp [outV', iab]; omega)]
  simp [outV', litV, iab]
theorem ev_m1 {c : D.Circuit} {v : List Bool} : litV (ev c v) (-1) = false := by
  rw [litV_neg (by decide), ev_one]; rfl
theorem ev_gate {c : D.Circuit} (hc : CircP c) {v : List Bool} (hv : (v.length : Int) = c.Inputs) {k : Nat} {g : D.Gate} (hg : c.Gates[k]? = some g) : litV (ev c v) (c.Inputs + 2 + k) = (litV (ev c v) g.A && litV (ev c v) g.B) := by
  obtain ⟨hk, rfl⟩ := List.getElem?_eq_some_iff.1 hg
  obtain ⟨b1, b2, b3, b4, b5, b6, b7⟩ := gate_of (circP_iff.2 hc) hk
  have hlen := outV_len (x := c) (l := v) (k := k) (by omega)
  have hlen1 := outV_len (x := c) (l := v) (k := k + 1) (by omega)
  have hp := outV_pre (c := c) (v := v) (k := k) (by omega)
  have hp1 := outV_pre (c := c) (v := v) (k := k + 1) (by omega)
  rw [litV_pre hp b4 (by omega), litV_pre hp b6 (by omega)]
  have hi : iab (c.Inputs + 2 + k) = c.Inputs + 2 + k := by unfold iab; rw [if_neg (by omega)]
  rw [litV_pre hp1 (by omega) (by omega), outV_succ hk]
  unfold litV
  rw [hi, if_neg (by omega)]
  unfold stepV
  rw [List.getElem?_append_right (by omega), show (c.Inputs + 2 + (k : Int) - 1).toNat - (outV' c v k).length = 0 by omega]
  rfl
theorem find_at {c : D.Circuit} (hc : CircP c) {k : Nat} {g : D.Gate} (hg : c.Gates[k]? = some g) : find c.Gates g = some k := by
  cases h : find c.Gates g with
  | none => exact absurd (List.mem_of_getElem? hg) (find_none.1 h)
  | some j =>
    have hj := find_some h
    rcases Nat.lt_trichotomy j k with hlt | rfl | hlt
    · have := find_none.1 (hc.find_take hg)
      exact absurd (List.mem_of_getElem? (by rw [List.getElem?_take, if_pos hlt]; exact hj.2)) this
    · rfl
    · have := find_none.1 (hc.find_take hj.2)
      exact absurd (List.mem_of_getElem? (by rw [List.getElem?_take, if_pos hlt]; exact hg)) this
theorem pre_get {l m : List D.Gate} (h : l <+: m) {k : Nat} {g : D.Gate} (hg : l[k]? = some g) : m[k]? = some g := by
  obtain ⟨t, rfl⟩ := h
  obtain ⟨hk, rfl⟩ := List.getElem?_eq_some_iff.1 hg
  rw [List.getElem?_append_left hk, List.getElem?_eq_getElem hk]
/-- in every circuit that has grown from it -/
def Sem (s : D.Circuit) (x : Int) (f : List Bool → Bool) : Prop := ∀ c', CircP c' → Grow s c' → ∀ v : List Bool, (v.length : Int) = c'.Inputs → litV (ev c' v) x = f (ev c' v)
theorem Sem.mono {s s' : D.Circuit} {x : Int} {f : List Bool → Bool} (h : Sem s x f) (hg : Grow s s') : Sem s' x f := fun c' hc hg' v hv => h c' hc (hg.trans hg') v hv
theorem Sem.neg {s : D.Circuit} {x : Int} {f : List Bool → Bool} (h : Sem s x f) (hx : 1 ≤ iab x) : Sem s (-x) (fun e => !f e) := fun c' hc hg v hv => by rw [litV_neg hx, h c' hc hg v hv]
theorem gate2_and (e : List Bool) (a b : Int) : (litV e (gate2 a b).A && litV e (gate2 a b).B) = (litV e a && litV e b) := by
  unfold gate2; split
  · exact Bool.and_comm _ _
  · rfl
theorem and_sem {s : BS} (hl : s.1.Gates.length < 360) {a b : Int} (ha : litN (lines s.1) a = true) (hb : litN (lines s.1) b = true) : Sem (andP s a b).2.1 (andP s a b).1 (fun e => litV e a && litV e b) := by
  have a1 := (litN_iff.1 ha).1
  have b1 := (litN_iff.1 hb).1
  unfold andP
  split
  · rename_i h
    intro c' hc hg v hv
    simp only
    rw [ev_m1]
    rcases h with rfl | rfl | rfl
    · rw [ev_m1]; rfl
    · rw [ev_m1, Bool.and_false]
    · rw [litV_neg b1]; cases litV (ev c' v) b <;> rfl
  · split
    · rename_i h
      intro c' hc hg v hv
      simp only
      rw [h, ev_one, Bool.true_and]
    · split
      · rename_i h
        intro c' hc hg v hv
        simp only
        rcases h with rfl | rfl
        · rw [ev_one, Bool.and_true]
        · rw [Bool.and_self]
      · split
        · rename_i i hf
          intro c' hc hg v hv
          simp only
          have h1 := pre_get hg.2 (find_some hf).2
          rw [← hg.1, ev_gate hc hv h1, gate2_and]
        · rename_i hf
          rw [if_neg (by omega)]
          intro c' hc hg v hv
          simp only at hg ⊢
          have h1 : c'.Gates[s.1.Gates.length]? = some (gate2 a b) := pre_get hg.2 (by simp)
          have h2 : s.1.Inputs = c'.Inputs := hg.1.symm
          rw [h2, ev_gate hc hv h1, gate2_and]
theorem lit_pos {n x : Int} (h : litN n x = true) : 1 ≤ iab x := (litN_iff.1 h).1
theorem or_sem {s : BS} (hl : s.1.Gates.length < 360) {a b : Int} (hs : CircP s.1) (ha : litN (lines s.1) a = true) (hb : litN (lines s.1) b = true) : Sem (orP s a b).2.1 (orP s a b).1 (fun e => litV e a || litV e b) := by
  have h := and_sem hl (a := -a) (b := -b) (by rw [litN_neg]; exact ha) (by rw [litN_neg]; exact hb)
  have g := and_good hs (a := -a) (b := -b) (by rw [litN_neg]; exact ha) (by rw [litN_neg]; exact hb)
  intro c' hc hg v hv
  have := h.neg (lit_pos g.lit) c' hc hg v hv
  simp only [orP]
  rw [this]
  simp only
  rw [litV_neg (lit_pos ha), litV_neg (lit_pos hb)]
  cases litV (ev c' v) a <;> cases litV (ev c' v) b <;> rfl
theorem or_cnt (s : BS) (a b : Int) : (orP s a b).2.1.Gates.length ≤ s.1.Gates.length + 1 ∧ (s.1.Gates.length < 360 → (orP s a b).2.2 = s.2) := and_cnt s (-a) (-b)
theorem if_cnt (s : BS) (c a b : Int) : (ifP s c a b).2.1.Gates.length ≤ s.1.Gates.length + 3 ∧ (s.1.Gates.length + 2 < 360 → (ifP s c a b).2.2 = s.2) := by
  have h1 := and_cnt s c a
  have h2 := and_cnt (andP s c a).2 (-c) b
  have h3 := or_cnt (andP (andP s c a).2 (-c) b).2 (andP s c a).1 (andP (andP s c a).2 (-c) b).1
  unfold ifP
  simp only
  exact ⟨by omega, fun h => by rw [h3.2 (by omega), h2.2 (by omega), h1.2 (by omega)]⟩
theorem xor_cnt (s : BS) (a b : Int) : (xorP s a b).2.1.Gates.length ≤ s.1.Gates.length + 3 ∧ (s.1.Gates.length + 2 < 360 → (xorP s a b).2.2 = s.2) := by
  have h1 := and_cnt s a (-b)
  have h2 := and_cnt (andP s a (-b)).2 (-a) b
  have h3 := or_cnt (andP (andP s a (-b)).2 (-a) b).2 (andP s a (-b)).1 (andP (andP s a (-b)).2 (-a) b).1
  unfold xorP
  simp only
  exact ⟨by omega, fun h => by rw [h3.2 (by omega), h2.2 (by omega), h1.2 (by omega)]⟩
theorem if_sem {s : BS} (hl : s.1.Gates.length + 2 < 360) (hs : CircP s.1) {c a b : Int} (hc : litN (lines s.1) c = true) (ha : litN (lines s.1) a = true) (hb : litN (lines s.1) b = true) : Sem (ifP s c a b).2.1 (ifP s c a b).1 (fun e => cond (litV e c) (litV e a) (litV e b)) := by
  have n1 := and_cnt s c a
  have n2 := and_cnt (andP s c a).2 (-c) b
  have g1 := and_good hs hc ha
  have hc' : litN (lines (andP s c a).2.1) (-c) = true := by rw [litN_neg]; exact litN_mono hc g1.grow.lines
  have g2 := and_good g1.circ (a := -c) (b := b) hc' (litN_mono hb g1.grow.lines)
  have l1 := litN_mono g1.lit g2.grow.lines
  have g3 := or_good g2.circ (a := (andP s c a).1) (b := (andP (andP s c a).2 (-c) b).1) l1 g2.lit
  have s1 := (and_sem (s := s) (by omega) hc ha).mono (g2.grow.trans g3.grow)
  have s2 := (and_sem (s := (andP s c a).2) (by omega) hc' (litN_mono hb g1.grow.lines)).mono g3.grow
  have s3 := or_sem (s := (andP (andP s c a).2 (-c) b).2) (by omega) g2.circ l1 g2.lit
  intro c' hp hg v hv
  have e3 := s3 c' hp hg v hv
  simp only [ifP]
  rw [e3]
  simp only
  rw [s1 c' hp hg v hv, s2 c' hp hg v hv]
  simp only
  rw [litV_neg (lit_pos hc)]
  cases litV (ev c' v) c <;> cases litV (ev c' v) a <;> cases litV (ev c' v) b <;> rfl
theorem xor_sem {s : BS} (hl : s.1.Gates.length + 2 < 360) (hs : CircP s.1) {a b : Int} (ha : litN (lines s.1) a = true) (hb : litN (lines s.1) b = true) : Sem (xorP s a b).2.1 (xorP s a b).1 (fun e => xor (litV e a) (litV e b)) := by
  have hb' : litN (lines s.1) (-b) = true := by rw [litN_neg]; exact hb
  have h := if_sem hl hs ha hb' hb
  intro c' hp hg v hv
  have e : xorP s a b = ifP s a (-b) b := rfl
  rw [e] at hg ⊢
  rw [h c' hp hg v hv]
  simp only
  rw [litV_neg (lit_pos hb)]
  cases litV (ev c' v) a <;> cases litV (ev c' v) b <;> rfl
theorem gate2_comm {a b : Int} (h1 : a ≠ -b) (h2 : a ≠ b) : gate2 b a = gate2 a b := by
  unfold gate2 iab
  split <;> split <;> split <;> split <;> first | rfl | (exfalso; omega)
/-- the same gate is made once -/
theorem and_again {s g : BS} (hl : s.1.Gates.length < 360) {a b : Int} (hg : CircP g.1) (hgr : Grow (andP s a b).2.1 g.1) : andP g b a = ((andP s a b).1, g) := by
  unfold andP at hgr
  conv => rhs; unfold andP
  unfold andP
  by_cases c1 : a = -1 ∨ b = -1 ∨ a = -b
  · rw [if_pos c1, if_pos (by omega)]
  · rw [if_neg c1] at hgr
    rw [if_neg c1, if_neg (by omega)]
    by_cases c2 : a = 1
    · rw [if_pos c2]
      by_cases c3 : b = 1
      · rw [if_pos c3]; simp only [Prod.mk.injEq, and_true]; omega
      · rw [if_neg c3, if_pos (.inl c2)]
    · rw [if_neg c2] at hgr
      rw [if_neg c2]
      by_cases c3 : b = 1 ∨ a = b
      · rw [if_pos c3]
        by_cases c4 : b = 1
        · rw [if_pos c4]
        · rw [if_neg c4, if_pos (by omega)]; simp only [Prod.mk.injEq, and_true]; omega
      · rw [if_neg c3] at hgr
        rw [if_neg c3, if_neg (by omega), if_neg (by omega), gate2_comm (by omega) (by omega)]
        cases hf : find s.1.Gates (gate2 a b) with
        | some i =>
          rw [hf] at hgr
          simp only at hgr ⊢
          rw [find_at hg (pre_get hgr.2 (find_some hf).2)]
          simp only
          rw [hgr.1]
        | none =>
          rw [hf] at hgr
          simp only at hgr ⊢
          have hn : ¬ 360 ≤ s.1.Gates.length := by omega
          rw [if_neg hn] at hgr
          rw [if_neg hn]
          have h1 : g.1.Gates[s.1.Gates.length]? = some (gate2 a b) := pre_get hgr.2 (by simp)
          rw [find_at hg h1]
          simp only
          have := hgr.1
          simp only at this
          rw [this]
end Go.Proofs.Ytckeihpjfeonmaa
