/- The plain laws of circuits that grow: operations with two numbers. No program in sight. -/
import Derived.Test.YtckeihpjfeonmaaPGates
namespace Go.Proofs.Ytckeihpjfeonmaa
open Go.GL
abbrev LS := List Int × BS
section
variable {α : Type}
/-- one literal after another -/
def seqP (f : BS → α → Int × BS) (s : BS) (l : List α) : LS := l.foldl (fun t x => (t.1 ++ [(f t.2 x).1], (f t.2 x).2)) ([], s)
structure GoodL (s : BS) (n : Nat) (t : LS) : Prop where
  circ : CircP t.2.1
  grow : Grow s.1 t.2.1
  len : t.1.length = n
  lits : ∀ x ∈ t.1, litN (lines t.2.1) x = true
def FOk (f : BS → α → Int × BS) (s : BS) (l : List α) : Prop := ∀ s' x, CircP s'.1 → Grow s.1 s'.1 → x ∈ l → Good s' (f s' x)
theorem seq_goodK {f : BS → α → Int × BS} {s : BS} {l : List α} (hs : CircP s.1) (hf : FOk f s l) : ∀ k, k ≤ l.length → GoodL s k (seqP f s (l.take k)) :=
  fold_inv _ (GoodL s) l _ ⟨hs, Grow.refl _, rfl, fun _ h => by cases h⟩ fun k x t hx ht => by
    have g := hf t.2 x ht.circ ht.grow (List.mem_of_getElem? hx)
    refine ⟨g.circ, ht.grow.trans g.grow, by simp [ht.len], fun y hy => ?_⟩
    simp only [List.mem_append, List.mem_singleton] at hy
    rcases hy with hy | rfl
    · exact litN_mono (ht.lits y hy) g.grow.lines
    · exact g.lit
theorem seq_good {f : BS → α → Int × BS} {s : BS} {l : List α} (hs : CircP s.1) (hf : FOk f s l) : GoodL s l.length (seqP f s l) := by
  have := seq_goodK hs hf l.length (Nat.le_refl _)
  rw [List.take_length] at this
  exact this
theorem seq_succ {f : BS → α → Int × BS} {s : BS} {l : List α} {k : Nat} {x : α} (hx : l[k]? = some x) : seqP f s (l.take (k + 1)) = ((seqP f s (l.take k)).1 ++ [(f (seqP f s (l.take k)).2 x).1], (f (seqP f s (l.take k)).2 x).2) := by
  obtain ⟨hk, rfl⟩ := List.getElem?_eq_some_iff.1 hx
  unfold seqP
  rw [List.take_succ_eq_append_getElem hk, List.foldl_append]
  rfl
theorem spec_seq {f : BS → α → Int × BS} {l : List α} {s : BS} {B : Int × List Int × Int × Bool × List D.Gate → Option ((Int × List Int × Int × Bool × List D.Gate) ⊕ (List Int × Int × Bool × List D.Gate))} (hs : CircP s.1) (hl : l.length ≤ 1000) (hf : FOk f s l)
    (hB : ∀ (j : Nat) (out : List Int) (s' : BS) (x : α), l[j]? = some x → CircP s'.1 → Grow s.1 s'.1 → out.length = j → B ((j : Int), out, s'.1.Inputs, s'.2, s'.1.Gates) = some (.inl (((j + 1 : Nat) : Int), out ++ [(f s' x).1], (f s' x).2.1.Inputs, (f s' x).2.2, (f s' x).2.1.Gates)))
    (hE : ∀ (out : List Int) (s' : BS), B (((l.length : Nat) : Int), out, s'.1.Inputs, s'.2, s'.1.Gates) = some (.inr (out, s'.1.Inputs, s'.2, s'.1.Gates))) :
    iterN B fuel (0, [], s.1.Inputs, s.2, s.1.Gates) = some ((seqP f s l).1, (seqP f s l).2.1.Inputs, (seqP f s l).2.2, (seqP f s l).2.1.Gates) := by
  refine iterN_up (I := fun k t => t = ((k : Int), (seqP f s (l.take k)).1, (seqP f s (l.take k)).2.1.Inputs, (seqP f s (l.take k)).2.2, (seqP f s (l.take k)).2.1.Gates)) (m := l.length) (fun k t hk ht => ?_) (fun t ht => ?_) l.length 0 _ (by omega) rfl fuel (lt_fuel (by omega))
  · subst ht
    have g := seq_goodK hs hf k (by omega)
    refine ⟨_, hB k _ _ l[k] (List.getElem?_eq_getElem hk) g.circ g.grow g.len, ?_⟩
    rw [seq_succ (List.getElem?_eq_getElem hk)]
  · subst ht
    rw [hE, List.take_length]
theorem iterN_upE {σt ρt : Type} {B : σt → Option (σt ⊕ ρt)} {I : Nat → σt → Prop} {m : Nat} {R : ρt → Prop} (hs : ∀ k s, k < m → I k s → ∃ s', B s = some (.inl s') ∧ I (k + 1) s') (hf : ∀ s, I m s → ∃ r, B s = some (.inr r) ∧ R r) :
    ∀ (d k : Nat) (s : σt), k + d = m → I k s → ∀ n, d < n → ∃ r, iterN B n s = some r ∧ R r
  | 0, k, s, hk, hi, n, hn => by
    obtain ⟨n, rfl⟩ : ∃ j, n = j + 1 := ⟨n - 1, by omega⟩
    obtain rfl : k = m := by omega
    obtain ⟨r, h1, h2⟩ := hf s hi
    exact ⟨r, by unfold iterN; rw [h1], h2⟩
  | d + 1, k, s, hk, hi, n, hn => by
    obtain ⟨n, rfl⟩ : ∃ j, n = j + 1 := ⟨n - 1, by omega⟩
    obtain ⟨s', h1, h2⟩ := hs k s (by omega) hi
    obtain ⟨r, h3, h4⟩ := iterN_upE hs hf d (k + 1) s' (by omega) h2 n (by omega)
    exact ⟨r, by unfold iterN; rw [h1]; exact h3, h4⟩
theorem iterN_bindE {σt ρt γ : Type} {B : σt → Option (σt ⊕ ρt)} {I : Nat → σt → Prop} {m : Nat} {R : ρt → Prop} {f : ρt → Option γ} {G : γ → Prop} (hs : ∀ k s, k < m → I k s → ∃ s', B s = some (.inl s') ∧ I (k + 1) s') (hf : ∀ s, I m s → ∃ r, B s = some (.inr r) ∧ R r)
    (d k : Nat) (s : σt) (hk : k + d = m) (hi : I k s) (n : Nat) (hn : d < n) (hfin : ∀ r, R r → ∃ y, f r = some y ∧ G y) : ∃ y, (iterN B n s).bind f = some y ∧ G y := by
  obtain ⟨r, h1, h2⟩ := iterN_upE hs hf d k s hk hi n hn
  rw [h1]
  exact hfin r h2
theorem ex_pair {α β : Type} {X : Option (α × β)} {v : α} {R : β → Prop} (h : ∃ y, X = some y ∧ ∃ m, y = (v, m) ∧ R m) : ∃ m, X = some (v, m) ∧ R m := by
  obtain ⟨y, h1, m, rfl, h2⟩ := h
  exact ⟨m, h1, h2⟩
theorem set_pre {l L0 : List Int} {k : Nat} {x : Int} (hl : l.length = k) (hk : k < L0.length) : (l ++ L0.drop k).set k x = (l ++ [x]) ++ L0.drop (k + 1) := by
  subst hl
  rw [List.set_append_right _ _ (Nat.le_refl _), Nat.sub_self, List.drop_eq_getElem_cons hk, List.set_cons_zero, List.append_assoc, List.singleton_append]
theorem impl_seq {f : BS → α → Int × BS} {l : List α} {s : BS} {B : Int × List Int × Int × Bool × List D.Gate × List (D.Gate × Int) → Option ((Int × List Int × Int × Bool × List D.Gate × List (D.Gate × Int)) ⊕ (List Int × Int × Bool × List D.Gate × List (D.Gate × Int)))} (hs : CircP s.1) (hl : l.length ≤ 1000) (hf : FOk f s l) {L0 : List Int} (hL : L0.length = l.length)
    (hB : ∀ (j : Nat) (L : List Int) (m : D.builder) (s' : BS) (x : α), l[j]? = some x → CircP s'.1 → Grow s.1 s'.1 → RelB m s' → L.length = l.length → (∀ i, j ≤ i → L[i]? = L0[i]?) → ∃ m', B ((j : Int), L, m.c.Inputs, m.full, m.c.Gates, m.line) = some (.inl (((j + 1 : Nat) : Int), L.set j (f s' x).1, m'.c.Inputs, m'.full, m'.c.Gates, m'.line)) ∧ RelB m' (f s' x).2)
    (hE : ∀ (L : List Int) (m : D.builder), B (((l.length : Nat) : Int), L, m.c.Inputs, m.full, m.c.Gates, m.line) = some (.inr (L, m.c.Inputs, m.full, m.c.Gates, m.line))) {m : D.builder} (hm : RelB m s) :
    ∃ m', iterN B fuel (0, L0, m.c.Inputs, m.full, m.c.Gates, m.line) = some ((seqP f s l).1, m'.c.Inputs, m'.full, m'.c.Gates, m'.line) ∧ RelB m' (seqP f s l).2 := by
  have key : ∃ r, iterN B fuel (0, L0, m.c.Inputs, m.full, m.c.Gates, m.line) = some r ∧ ∃ m' : D.builder, r = ((seqP f s l).1, m'.c.Inputs, m'.full, m'.c.Gates, m'.line) ∧ RelB m' (seqP f s l).2 := by
    refine iterN_upE (B := B) (I := fun k t => ∃ m' : D.builder, t = ((k : Int), (seqP f s (l.take k)).1 ++ L0.drop k, m'.c.Inputs, m'.full, m'.c.Gates, m'.line) ∧ RelB m' (seqP f s (l.take k)).2) (m := l.length) (fun k t hk ht => ?_) (fun t ht => ?_) l.length 0 _ (by omega) ⟨m, rfl, hm⟩ fuel (lt_fuel (by omega))
    · obtain ⟨m1, rfl, hr⟩ := ht
      have g := seq_goodK hs hf k (by omega)
      obtain ⟨m2, h3, h4⟩ := hB k ((seqP f s (l.take k)).1 ++ L0.drop k) m1 (seqP f s (l.take k)).2 l[k] (List.getElem?_eq_getElem hk) g.circ g.grow hr (by rw [List.length_append, g.len, List.length_drop]; omega) (fun i hi => by rw [List.getElem?_append_right (by rw [g.len]; omega), g.len, List.getElem?_drop]; congr 1; omega)
      refine ⟨_, h3, m2, ?_, ?_⟩
      · rw [seq_succ (List.getElem?_eq_getElem hk), set_pre g.len (by omega)]
      · rw [seq_succ (List.getElem?_eq_getElem hk)]
        exact h4
    · obtain ⟨m1, rfl, hr⟩ := ht
      refine ⟨_, hE _ m1, m1, ?_, ?_⟩
      · rw [List.take_length, List.drop_of_length_le (by omega), List.append_nil]
      · rw [List.take_length] at hr; exact hr
  obtain ⟨r, h1, m', rfl, h2⟩ := key
  exact ⟨m', h1, h2⟩
end

/-! opposites, fills -/
def negs (l : List Int) : List Int := l.map fun x => -x
theorem negs_len (l : List Int) : (negs l).length = l.length := by simp [negs]
theorem negs_lits {n : Int} {l : List Int} (h : ∀ x ∈ l, litN n x = true) : ∀ x ∈ negs l, litN n x = true := by
  intro x hx
  obtain ⟨y, hy, rfl⟩ := List.mem_map.1 hx
  rw [litN_neg]; exact h y hy
theorem impl_opp {n : Int} {l : List Int} (hn : n ≤ 391) (hl : l.length ≤ 1000) (h : ∀ x ∈ l, litN n x = true) : impl_opposites fuel l = some (negs l) := by
  unfold impl_opposites
  rw [mk?_len (by unfold room; omega)]
  simp only [Option.bind_some]
  rw [iterN_up (I := fun k t => t = ((k : Int), negs (l.take k) ++ List.replicate (l.length - k) 0)) (m := l.length) (r := negs l) (fun k t hk ht => ?_) (fun t ht => ?_) l.length 0 _ (by omega) (by simp [negs]) fuel (lt_fuel (by omega))]
  · rfl
  all_goals subst ht
  · refine ⟨_, ?_, rfl⟩
    simp only
    rw [if_pos (by rw [len_nat]; simp; omega), get?_nat, List.getElem?_eq_getElem hk]
    simp only [Option.bind_some]
    have hln : (negs (l.take k)).length = k := by rw [negs_len, List.length_take]; omega
    rw [w64_neg (h _ (List.getElem_mem hk)) hn, set?_nat (by simp [hln]; omega)]
    simp only [Option.bind_some]
    have e : (negs (l.take k) ++ List.replicate (l.length - k) 0).set k (-l[k]) = negs (l.take (k + 1)) ++ List.replicate (l.length - (k + 1)) 0 := by
      have := set_fill (l := negs (l.take k)) (n := l.length - (k + 1)) (x := -l[k])
      rw [hln, show l.length - (k + 1) + 1 = l.length - k by omega] at this
      rw [this, List.take_succ_eq_append_getElem hk]
      unfold negs
      rw [List.map_append]
      rfl
    rw [e, w64_id (by omega) (by omega)]
    rfl
  · simp only
    rw [if_neg (by rw [len_nat]; simp), List.take_length]
    simp
theorem band01 : (band 0 1 == 1) = false := by decide
theorem impl_zero {w : Nat} (hw : w ≤ 1000) : impl_numberOf fuel (w : Int) 0 = some (List.replicate w (-1)) := by
  unfold impl_numberOf
  have hmk : mk? (w : Int) (0 : Int) = some (List.replicate w 0) := by
    unfold mk?; rw [if_pos ⟨by omega, by unfold room; omega⟩]; rfl
  rw [hmk]
  simp only [Option.bind_some]
  rw [iterN_up (I := fun k t => t = ((k : Int), List.replicate k (-1) ++ List.replicate (w - k) 0)) (m := w) (r := List.replicate w (-1)) (fun k t hk ht => ?_) (fun t ht => ?_) w 0 _ (by omega) (by simp) fuel (lt_fuel (by omega))]
  · rfl
  all_goals subst ht
  · refine ⟨_, ?_, rfl⟩
    simp only
    rw [if_pos (by rw [len_nat]; simp; omega), set?_nat (by simp; omega)]
    simp only [Option.bind_some]
    have hw : IntKind.u64.wrap (k : Int) = k := by unfold IntKind.wrap; simp [IntKind.bits, IntKind.signed]; omega
    have hsh : shr? 0 (k : Int) = some 0 := by
      unfold shr?; rw [if_neg (by omega)]; simp
    rw [hw, hsh]
    simp only [Option.bind_some]
    rw [if_neg (by rw [band01]; simp)]
    have e : (List.replicate k (-1) ++ List.replicate (w - k) 0).set k (-1) = List.replicate (k + 1) (-1) ++ List.replicate (w - (k + 1)) 0 := by
      have := set_fill (l := List.replicate k (-1)) (n := w - (k + 1)) (x := -1)
      rw [List.length_replicate, show w - (k + 1) + 1 = w - k by omega] at this
      rw [this, List.replicate_succ']
    rw [e, w64_id (by omega) (by omega)]
    rfl
  · simp only
    rw [if_neg (by rw [len_nat]; simp)]
    simp
theorem lit_m1 {c : D.Circuit} (h : CircP c) : litN (lines c) (-1) = true := litN_iff.2 ⟨by simp [iab], by have := h.lines0; simpa [iab] using this⟩
theorem lit_1 {c : D.Circuit} (h : CircP c) : litN (lines c) 1 = true := litN_iff.2 ⟨by simp [iab], by have := h.lines0; simpa [iab] using this⟩

/-! products -/
def partF (bk : Int) : BS → Int → Int × BS := fun s x => andP s bk x
def mulStep (a b : List Int) (t : LS) (k : Nat) : LS :=
  let p := seqP (partF (b.getD k 0)) t.2 (a.take (a.length - k))
  let q := addP p.2 (t.1.drop k) p.1 (-1)
  (t.1.take k ++ q.1, q.2.2)
def mulK (s : BS) (a b : List Int) (k : Nat) : LS := (List.range k).foldl (mulStep a b) (List.replicate a.length (-1), s)
theorem mulK_succ (s : BS) (a b : List Int) (k : Nat) : mulK s a b (k + 1) = mulStep a b (mulK s a b k) k := by
  unfold mulK; rw [List.range_succ, List.foldl_append]; rfl
theorem part_ok {s : BS} {a b : List Int} (ha : ∀ x ∈ a, litN (lines s.1) x = true) (hb : ∀ x ∈ b, litN (lines s.1) x = true) {t : LS} (hg : Grow s.1 t.2.1) {k : Nat} (hk : k < b.length) : FOk (partF (b.getD k 0)) t.2 (a.take (a.length - k)) := by
  intro s' x hc hgr hx
  have hbk : b.getD k 0 ∈ b := by rw [List.getD_eq_getElem?_getD, List.getElem?_eq_getElem hk]; exact List.getElem_mem hk
  have e := hg.trans hgr
  exact and_good hc (litN_mono (hb _ hbk) e.lines) (litN_mono (ha _ (List.mem_of_mem_take hx)) e.lines)
section
variable {s : BS} (hs : CircP s.1) {a b : List Int} (hab : a.length = b.length) (ha : ∀ x ∈ a, litN (lines s.1) x = true) (hb : ∀ x ∈ b, litN (lines s.1) x = true)
include hs hab ha hb
theorem mul_goodK (k : Nat) (hk : k ≤ a.length) : GoodL s a.length (mulK s a b k) := by
  induction k with
  | zero => exact ⟨hs, Grow.refl _, by simp [mulK], fun x hx => by
      simp only [mulK, List.range_zero, List.foldl_nil] at hx
      rw [List.eq_of_mem_replicate hx]; exact lit_m1 hs⟩
  | succ k ih =>
    have g := ih (by omega)
    rw [mulK_succ]
    generalize mulK s a b k = t at g ⊢
    have gp := seq_good g.circ (part_ok ha hb g.grow (k := k) (by omega))
    have gpl : (seqP (partF (b.getD k 0)) t.2 (a.take (a.length - k))).1.length = a.length - k := by rw [gp.len, List.length_take]; omega
    have gq := addP_good gp.circ (a := t.1.drop k) (b := (seqP (partF (b.getD k 0)) t.2 (a.take (a.length - k))).1) (c := -1) (by rw [gpl, List.length_drop, g.len]) (fun x hx => litN_mono (g.lits x (List.mem_of_mem_drop hx)) gp.grow.lines) gp.lits (lit_m1 gp.circ)
    refine ⟨gq.circ, (g.grow.trans gp.grow).trans gq.grow, ?_, fun x hx => ?_⟩
    · simp only [mulStep, List.length_append, List.length_take, gq.len, List.length_drop, g.len]; omega
    · simp only [mulStep, List.mem_append] at hx
      rcases hx with hx | hx
      · exact litN_mono (g.lits x (List.mem_of_mem_take hx)) (gp.grow.trans gq.grow).lines
      · exact gq.lits x hx
end

theorem getD_get {l : List Int} {k : Nat} (hk : k < l.length) : l[k]? = some (l.getD k 0) := by
  rw [List.getD_eq_getElem?_getD, List.getElem?_eq_getElem hk]; rfl
theorem getD_mem {l : List Int} {k : Nat} (hk : k < l.length) : l.getD k 0 ∈ l := List.mem_of_getElem? (getD_get hk)
theorem vcut_rest {l : List Int} {k : Nat} {y : List Int} (h : cut? l (k : Int) (len l) = some y) : vcut l (k : Int) y.length = l.drop k := by
  unfold cut? at h
  split at h
  · simp only [Option.some.injEq, len_nat, Int.toNat_natCast, List.take_length] at h
    subst h
    unfold vcut
    simp only [Int.toNat_natCast]
    exact List.take_of_length_le (Nat.le_refl _)
  · cases h
theorem cut_rest {l : List Int} {k : Nat} (hk : k ≤ l.length) : cut? l (k : Int) (len l) = some (l.drop k) := by
  unfold cut?
  rw [len_nat, if_pos ⟨by omega, by omega, by omega⟩]
  simp
theorem cut_front {l : List Int} {k : Nat} (hk : k ≤ l.length) : cut? l 0 (k : Int) = some (l.take k) := by
  unfold cut?
  rw [if_pos ⟨by omega, by omega, by omega⟩]
  simp
theorem app_nil {l : List Int} (h : l.length ≤ 1000) : app? ([] : List Int) l = some l := by
  unfold app?; rw [if_pos (by simp; unfold room; omega)]; rfl
theorem app_ok {l m : List Int} (h : l.length + m.length ≤ 100000) : app? l m = some (l ++ m) := by
  unfold app?; rw [if_pos (by unfold room; omega)]
theorem vcopy_rest {l m : List Int} {k : Nat} (hk : k ≤ l.length) (hm : m.length = l.length - k) : vcopy l (k : Int) (l.length - k) m = l.take k ++ m := by
  unfold vcopy
  rw [Int.toNat_natCast, List.take_of_length_le (l := m) (by omega), List.drop_of_length_le (by omega), List.append_nil]
section
variable {s : BS} (hs : CircP s.1) {a b : List Int} (hab : a.length = b.length) (hl : a.length ≤ 16) (ha : ∀ x ∈ a, litN (lines s.1) x = true) (hb : ∀ x ∈ b, litN (lines s.1) x = true)
include hs hab hl ha hb
theorem impl_mul {m : D.builder} (hm : RelB m s) : ∃ m', impl_builder_multiply fuel m a b = some ((mulK s a b a.length).1, m') ∧ RelB m' (mulK s a b a.length).2 := by
  unfold impl_builder_multiply
  rw [len_nat, impl_zero (by omega)]
  simp only [Option.bind_some]
  refine ex_pair ?_
  refine iterN_bindE (I := fun k t => ∃ m' : D.builder, t = ((k : Int), (mulK s a b k).1, m'.c.Inputs, m'.full, m'.c.Gates, m'.line) ∧ RelB m' (mulK s a b k).2) (R := fun r => ∃ m' : D.builder, r = ((mulK s a b a.length).1, m'.c.Inputs, m'.full, m'.c.Gates, m'.line) ∧ RelB m' (mulK s a b a.length).2) (m := a.length) (fun k t hk ht => ?_) (fun t ht => ?_) a.length 0 _ (by omega) ⟨m, rfl, hm⟩ fuel (lt_fuel (by omega)) (fun r hr => ?_)
  · obtain ⟨m1, rfl, hr⟩ := ht
    have g := mul_goodK hs hab ha hb k (by omega)
    have hok := part_ok ha hb g.grow (k := k) (by omega)
    have gp := seq_good g.circ hok
    rw [mulK_succ]
    generalize mulK s a b k = t at g gp hok hr ⊢
    have gpl : (seqP (partF (b.getD k 0)) t.2 (a.take (a.length - k))).1.length = a.length - k := by rw [gp.len, List.length_take]; omega
    have gq := addP_good gp.circ (a := t.1.drop k) (b := (seqP (partF (b.getD k 0)) t.2 (a.take (a.length - k))).1) (c := -1) (by rw [gpl, List.length_drop, g.len]) (fun x hx => litN_mono (g.lits x (List.mem_of_mem_drop hx)) gp.grow.lines) gp.lits (lit_m1 gp.circ)
    have hmk : mk? (w64 ((a.length : Int) - (k : Int))) (0 : Int) = some (List.replicate (a.length - k) 0) := by
      rw [w64_id (by omega) (by omega)]
      unfold mk?
      rw [if_pos ⟨by omega, by unfold room; omega⟩]
      congr 2; omega
    obtain ⟨m2, h2, r2⟩ := impl_seq (f := partF (b.getD k 0)) (l := a.take (a.length - k)) (s := t.2) (L0 := List.replicate (a.length - k) 0) (B := fun (s2 : Int × (List Int) × Int × Bool × (List D.Gate) × (List (D.Gate × Int))) =>
      if (decide (s2.1 < (len (List.replicate (a.length - k) (0 : Int))))) then
        (get? b (k : Int)).bind fun x3 =>
        (get? a s2.1).bind fun x4 =>
        (impl_builder_and (D.builder.mk (D.Circuit.mk s2.2.2.1 s2.2.2.2.2.1) s2.2.2.2.2.2 s2.2.2.2.1) x3 x4).bind fun x5 =>
        (set? s2.2.1 s2.1 x5.1).bind fun x6 =>
        some (.inl ((w64 (s2.1 + 1)), x6, x5.2.c.Inputs, x5.2.full, x5.2.c.Gates, x5.2.line))
      else
        some (.inr (s2.2.1, s2.2.2.1, s2.2.2.2.1, s2.2.2.2.2.1, s2.2.2.2.2.2))) g.circ (by rw [List.length_take]; omega) hok (by simp) (fun j L mm s' x hx hc hgr hrr hL hpre => by
        have hj : j < a.length - k ∧ j < a.length := by
          have := (List.getElem?_eq_some_iff.1 hx).1
          rw [List.length_take] at this; omega
        have hax : a[j]? = some x := by rw [List.getElem?_take] at hx; split at hx; exact hx; cases hx
        have hga := g.grow.trans hgr
        obtain ⟨m3, e3, r3⟩ := impl_and hrr hc (litN_mono (hb _ (getD_mem (k := k) (by omega))) hga.lines) (litN_mono (ha _ (List.mem_of_getElem? hax)) hga.lines)
        refine ⟨m3, ?_, r3⟩
        simp only
        rw [if_pos (by rw [len_nat]; simp; omega), get?_nat, get?_nat, getD_get (l := b) (by omega), hax]
        simp only [Option.bind_some]
        have e3' : impl_builder_and (D.builder.mk (D.Circuit.mk mm.c.Inputs mm.c.Gates) mm.line mm.full) (b.getD k 0) x = _ := e3
        rw [e3']
        simp only [Option.bind_some]
        rw [set?_nat (by rw [hL, List.length_take]; omega)]
        simp only [Option.bind_some]
        rw [w64_id (by omega) (by omega)]
        rfl) (fun L mm => by
        simp only
        rw [if_neg (by rw [len_nat]; simp)]) hr
    obtain ⟨m3, h3, r3⟩ := impl_add (s := (seqP (partF (b.getD k 0)) t.2 (a.take (a.length - k))).2) gp.circ r2 (a := t.1.drop k) (b := (seqP (partF (b.getD k 0)) t.2 (a.take (a.length - k))).1) (c := -1) (by rw [List.length_drop, g.len]; omega) (by rw [gpl, List.length_drop, g.len]) (fun x hx => litN_mono (g.lits x (List.mem_of_mem_drop hx)) gp.grow.lines) gp.lits (lit_m1 gp.circ)
    refine ⟨_, ?_, m3, rfl, r3⟩
    simp only
    rw [if_pos (by rw [len_nat]; simp; omega), hmk]
    simp only [Option.bind_some]
    rw [h2]
    simp only [Option.bind_some]
    have hlen : len (List.replicate a.length (-1 : Int)) = len t.1 := by rw [len_nat, len_nat, List.length_replicate, g.len]
    have hcr := cut_rest (l := t.1) (k := k) (by rw [g.len]; omega)
    rw [hlen, hcr]
    simp only [Option.bind_some]
    rw [vcut_rest hcr]
    have h3' : impl_builder_add fuel (D.builder.mk (D.Circuit.mk m2.c.Inputs m2.c.Gates) m2.line m2.full) (t.1.drop k) (seqP (partF (b.getD k 0)) t.2 (a.take (a.length - k))).1 (-1) = _ := h3
    rw [h3']
    simp only [Option.bind_some]
    rw [List.length_drop, vcopy_rest (by rw [g.len]; omega) (by rw [gq.len, List.length_drop]), w64_id (by omega) (by omega)]
    rfl
  · obtain ⟨m1, rfl, hr⟩ := ht
    refine ⟨_, ?_, m1, rfl, hr⟩
    simp only
    rw [if_neg (by rw [len_nat]; simp; omega)]
  · obtain ⟨m', rfl, h2⟩ := hr
    exact ⟨_, rfl, m', rfl, h2⟩
end

/-! the same with any layout of the state -/
section
variable {α σt ρt : Type}
theorem impl_seqG {f : BS → α → Int × BS} {l : List α} {s : BS} {B : σt → Option (σt ⊕ ρt)} (enc : Nat → List Int → D.builder → σt) (dec : List Int → D.builder → ρt) (hs : CircP s.1) (hl : l.length ≤ 1000) (hf : FOk f s l) {L0 : List Int} (hL : L0.length = l.length)
    (hB : ∀ (j : Nat) (L : List Int) (m : D.builder) (s' : BS) (x : α), l[j]? = some x → CircP s'.1 → Grow s.1 s'.1 → RelB m s' → L.length = l.length → (∀ i, j ≤ i → L[i]? = L0[i]?) → ∃ m', B (enc j L m) = some (.inl (enc (j + 1) (L.set j (f s' x).1) m')) ∧ RelB m' (f s' x).2)
    (hE : ∀ (L : List Int) (m : D.builder), B (enc l.length L m) = some (.inr (dec L m))) {m : D.builder} (hm : RelB m s) :
    ∃ m', iterN B fuel (enc 0 L0 m) = some (dec (seqP f s l).1 m') ∧ RelB m' (seqP f s l).2 := by
  have key : ∃ r, iterN B fuel (enc 0 L0 m) = some r ∧ ∃ m' : D.builder, r = dec (seqP f s l).1 m' ∧ RelB m' (seqP f s l).2 := by
    refine iterN_upE (B := B) (I := fun k t => ∃ m' : D.builder, t = enc k ((seqP f s (l.take k)).1 ++ L0.drop k) m' ∧ RelB m' (seqP f s (l.take k)).2) (m := l.length) (fun k t hk ht => ?_) (fun t ht => ?_) l.length 0 _ (by omega) ⟨m, rfl, hm⟩ fuel (lt_fuel (by omega))
    · obtain ⟨m1, rfl, hr⟩ := ht
      have g := seq_goodK hs hf k (by omega)
      obtain ⟨m2, h3, h4⟩ := hB k ((seqP f s (l.take k)).1 ++ L0.drop k) m1 (seqP f s (l.take k)).2 l[k] (List.getElem?_eq_getElem hk) g.circ g.grow hr (by rw [List.length_append, g.len, List.length_drop]; omega) (fun i hi => by rw [List.getElem?_append_right (by rw [g.len]; omega), g.len, List.getElem?_drop]; congr 1; omega)
      refine ⟨_, h3, m2, ?_, ?_⟩
      · rw [seq_succ (List.getElem?_eq_getElem hk), set_pre g.len (by omega)]
      · rw [seq_succ (List.getElem?_eq_getElem hk)]
        exact h4
    · obtain ⟨m1, rfl, hr⟩ := ht
      refine ⟨_, hE _ m1, m1, ?_, ?_⟩
      · rw [List.take_length, List.drop_of_length_le (by omega), List.append_nil]
      · rw [List.take_length] at hr; exact hr
  obtain ⟨r, h1, m', rfl, h2⟩ := key
  exact ⟨m', h1, h2⟩
/-- one literal that gathers -/
def accP (f : BS → Int → α → Int × BS) (s : BS) (c : Int) (l : List α) : Int × BS := l.foldl (fun t x => f t.2 t.1 x) (c, s)
def AOk (f : BS → Int → α → Int × BS) (s : BS) (l : List α) : Prop := ∀ s' c x, CircP s'.1 → Grow s.1 s'.1 → litN (lines s'.1) c = true → x ∈ l → Good s' (f s' c x)
theorem acc_goodK {f : BS → Int → α → Int × BS} {s : BS} {c : Int} {l : List α} (hs : CircP s.1) (hc : litN (lines s.1) c = true) (hf : AOk f s l) : ∀ k, k ≤ l.length → Good s (accP f s c (l.take k)) :=
  fold_inv _ (fun _ t => Good s t) l _ ⟨hs, Grow.refl _, hc⟩ fun k x t hx ht => by
    have g := hf t.2 t.1 x ht.circ ht.grow ht.lit (List.mem_of_getElem? hx)
    exact ⟨g.circ, ht.grow.trans g.grow, g.lit⟩
theorem acc_good {f : BS → Int → α → Int × BS} {s : BS} {c : Int} {l : List α} (hs : CircP s.1) (hc : litN (lines s.1) c = true) (hf : AOk f s l) : Good s (accP f s c l) := by
  have := acc_goodK hs hc hf l.length (Nat.le_refl _)
  rw [List.take_length] at this
  exact this
theorem acc_succ {f : BS → Int → α → Int × BS} {s : BS} {c : Int} {l : List α} {k : Nat} {x : α} (hx : l[k]? = some x) : accP f s c (l.take (k + 1)) = f (accP f s c (l.take k)).2 (accP f s c (l.take k)).1 x := by
  obtain ⟨hk, rfl⟩ := List.getElem?_eq_some_iff.1 hx
  unfold accP
  rw [List.take_succ_eq_append_getElem hk, List.foldl_append]
  rfl
theorem spec_accG {f : BS → Int → α → Int × BS} {l : List α} {s : BS} {c : Int} {B : σt → Option (σt ⊕ ρt)} (enc : Nat → Int → BS → σt) (dec : Int → BS → ρt) (hs : CircP s.1) (hc : litN (lines s.1) c = true) (hf : AOk f s l)
    (hB : ∀ (j : Nat) (c' : Int) (s' : BS) (x : α), l[j]? = some x → CircP s'.1 → Grow s.1 s'.1 → litN (lines s'.1) c' = true → B (enc j c' s') = some (.inl (enc (j + 1) (f s' c' x).1 (f s' c' x).2)))
    (hE : ∀ (c' : Int) (s' : BS), B (enc l.length c' s') = some (.inr (dec c' s'))) {n : Nat} (hn : l.length < n) :
    iterN B n (enc 0 c s) = some (dec (accP f s c l).1 (accP f s c l).2) := by
  refine iterN_up (I := fun k t => t = enc k (accP f s c (l.take k)).1 (accP f s c (l.take k)).2) (m := l.length) (fun k t hk ht => ?_) (fun t ht => ?_) l.length 0 _ (by omega) rfl n hn
  · subst ht
    have g := acc_goodK hs hc hf k (by omega)
    refine ⟨_, hB k _ _ l[k] (List.getElem?_eq_getElem hk) g.circ g.grow g.lit, ?_⟩
    rw [acc_succ (List.getElem?_eq_getElem hk)]
  · subst ht
    rw [hE, List.take_length]
theorem impl_accG {f : BS → Int → α → Int × BS} {l : List α} {s : BS} {c : Int} {B : σt → Option (σt ⊕ ρt)} (enc : Nat → Int → D.builder → σt) (dec : Int → D.builder → ρt) (hs : CircP s.1) (hc : litN (lines s.1) c = true) (hl : l.length ≤ 1000) (hf : AOk f s l)
    (hB : ∀ (j : Nat) (c' : Int) (m : D.builder) (s' : BS) (x : α), l[j]? = some x → CircP s'.1 → Grow s.1 s'.1 → RelB m s' → litN (lines s'.1) c' = true → ∃ m', B (enc j c' m) = some (.inl (enc (j + 1) (f s' c' x).1 m')) ∧ RelB m' (f s' c' x).2)
    (hE : ∀ (c' : Int) (m : D.builder), B (enc l.length c' m) = some (.inr (dec c' m))) {m : D.builder} (hm : RelB m s) :
    ∃ m', iterN B fuel (enc 0 c m) = some (dec (accP f s c l).1 m') ∧ RelB m' (accP f s c l).2 := by
  have key : ∃ r, iterN B fuel (enc 0 c m) = some r ∧ ∃ m' : D.builder, r = dec (accP f s c l).1 m' ∧ RelB m' (accP f s c l).2 := by
    refine iterN_upE (B := B) (I := fun k t => ∃ m' : D.builder, t = enc k (accP f s c (l.take k)).1 m' ∧ RelB m' (accP f s c (l.take k)).2) (m := l.length) (fun k t hk ht => ?_) (fun t ht => ?_) l.length 0 _ (by omega) ⟨m, rfl, hm⟩ fuel (lt_fuel (by omega))
    · obtain ⟨m1, rfl, hr⟩ := ht
      have g := acc_goodK hs hc hf k (by omega)
      obtain ⟨m2, h3, h4⟩ := hB k _ m1 _ l[k] (List.getElem?_eq_getElem hk) g.circ g.grow hr g.lit
      refine ⟨_, h3, m2, ?_, ?_⟩
      · rw [acc_succ (List.getElem?_eq_getElem hk)]
      · rw [acc_succ (List.getElem?_eq_getElem hk)]
        exact h4
    · obtain ⟨m1, rfl, hr⟩ := ht
      rw [List.take_length] at hr ⊢
      exact ⟨_, hE _ m1, m1, rfl, hr⟩
  obtain ⟨r, h1, m', rfl, h2⟩ := key
  exact ⟨m', h1, h2⟩
end

/-! quotients -/
abbrev DS := List Int × List Int × BS
def selF (c : Int) : BS → Int × Int → Int × BS := fun s p => ifP s c p.1 p.2
def divStep (a less : List Int) (t : DS) (k : Nat) : DS :=
  let d := addP t.2.2 (a.getD k 0 :: t.1) less 1
  let q := seqP (selF d.2.1) d.2.2 ((d.1.zip (a.getD k 0 :: t.1)).take a.length)
  (q.1, d.2.1 :: t.2.1, q.2)
def lessOf (b : List Int) : List Int := negs b ++ [1]
def divK (s : BS) (a b : List Int) (k : Nat) : DS := (List.range k).foldl (fun t i => divStep a (lessOf b) t (a.length - 1 - i)) (List.replicate a.length (-1), [], s)
theorem divK_succ (s : BS) (a b : List Int) (k : Nat) : divK s a b (k + 1) = divStep a (lessOf b) (divK s a b k) (a.length - 1 - k) := by
  unfold divK; rw [List.range_succ, List.foldl_append]; rfl
structure GoodD (s : BS) (w k : Nat) (t : DS) : Prop where
  circ : CircP t.2.2.1
  grow : Grow s.1 t.2.2.1
  len : t.1.length = w
  lits : ∀ x ∈ t.1, litN (lines t.2.2.1) x = true
  clen : t.2.1.length = k
  clits : ∀ x ∈ t.2.1, litN (lines t.2.2.1) x = true
structure DivOk (a less : List Int) (t : DS) (k : Nat) : Prop where
  ga : GoodA t.2.2 (a.length + 1) (addP t.2.2 (a.getD k 0 :: t.1) less 1)
  tl : ∀ x ∈ a.getD k 0 :: t.1, litN (lines t.2.2.1) x = true
  ll : ∀ x ∈ less, litN (lines t.2.2.1) x = true
  l1 : litN (lines t.2.2.1) 1 = true
  fok : FOk (selF (addP t.2.2 (a.getD k 0 :: t.1) less 1).2.1) (addP t.2.2 (a.getD k 0 :: t.1) less 1).2.2 (((addP t.2.2 (a.getD k 0 :: t.1) less 1).1.zip (a.getD k 0 :: t.1)).take a.length)
  zl : (((addP t.2.2 (a.getD k 0 :: t.1) less 1).1.zip (a.getD k 0 :: t.1)).take a.length).length = a.length
section
variable {s : BS} {a b : List Int} (hab : a.length = b.length) (ha : ∀ x ∈ a, litN (lines s.1) x = true) (hb : ∀ x ∈ b, litN (lines s.1) x = true)
include hab ha hb
theorem div_ok {t : DS} {i : Nat} (g : GoodD s a.length i t) {k : Nat} (hk : k < a.length) : DivOk a (lessOf b) t k := by
  have htl : ∀ x ∈ a.getD k 0 :: t.1, litN (lines t.2.2.1) x = true := fun x hx => by
    rcases List.mem_cons.1 hx with rfl | hx
    · exact litN_mono (ha _ (getD_mem hk)) g.grow.lines
    · exact g.lits x hx
  have hll : ∀ x ∈ lessOf b, litN (lines t.2.2.1) x = true := fun x hx => by
    rcases List.mem_append.1 hx with hx | hx
    · exact litN_mono (negs_lits hb x hx) g.grow.lines
    · rw [List.mem_singleton.1 hx]; exact lit_1 g.circ
  have hlen : (a.getD k 0 :: t.1).length = (lessOf b).length := by simp [lessOf, negs_len, g.len, hab]
  have ga := addP_good g.circ hlen htl hll (lit_1 g.circ)
  have hw : (a.getD k 0 :: t.1).length = a.length + 1 := by simp [g.len]
  rw [hw] at ga
  refine ⟨ga, htl, hll, lit_1 g.circ, fun s' p hc hgr hp => ?_, ?_⟩
  · have hp' := List.mem_of_mem_take hp
    have h1 := List.of_mem_zip hp'
    exact if_good hc (litN_mono ga.lit hgr.lines) (litN_mono (ga.lits _ h1.1) hgr.lines) (litN_mono (htl _ h1.2) (ga.grow.trans hgr).lines)
  · rw [List.length_take, List.length_zip, ga.len, hw]; omega
theorem div_goodK (hs : CircP s.1) (k : Nat) (hk : k ≤ a.length) : GoodD s a.length k (divK s a b k) := by
  induction k with
  | zero => exact ⟨hs, Grow.refl _, by simp [divK], fun x hx => by
      simp only [divK, List.range_zero, List.foldl_nil] at hx
      rw [List.eq_of_mem_replicate hx]; exact lit_m1 hs, rfl, fun x hx => by cases hx⟩
  | succ k ih =>
    have g := ih (by omega)
    rw [divK_succ]
    generalize divK s a b k = t at g ⊢
    have o := div_ok hab ha hb g (k := a.length - 1 - k) (by omega)
    have gq := seq_good o.ga.circ o.fok
    rw [o.zl] at gq
    refine ⟨gq.circ, (g.grow.trans o.ga.grow).trans gq.grow, gq.len, gq.lits, by simp [divStep, g.clen], fun x hx => ?_⟩
    simp only [divStep, List.mem_cons] at hx
    rcases hx with rfl | hx
    · exact litN_mono o.ga.lit gq.grow.lines
    · exact litN_mono (g.clits x hx) (o.ga.grow.trans gq.grow).lines
end
theorem set_back {q0 cs : List Int} {w k : Nat} {c : Int} (hq : q0.length = w) (hk : k < w) : (q0.take (w - k) ++ cs).set (w - 1 - k) c = q0.take (w - (k + 1)) ++ (c :: cs) := by
  have e : w - k = (w - 1 - k) + 1 := by omega
  have hl : (q0.take (w - 1 - k)).length = w - 1 - k := by rw [List.length_take]; omega
  have hlt : w - 1 - k < q0.length := by omega
  rw [e, List.take_succ_eq_append_getElem hlt, List.append_assoc, List.set_append_right _ _ (by omega), hl, Nat.sub_self]
  rw [show w - (k + 1) = w - 1 - k by omega]
  rfl
section
variable {s : BS} (hs : CircP s.1) {a b : List Int} (hab : a.length = b.length) (hl : a.length ≤ 16) (ha : ∀ x ∈ a, litN (lines s.1) x = true) (hb : ∀ x ∈ b, litN (lines s.1) x = true)
include hs hab hl ha hb
theorem impl_div {m : D.builder} (hm : RelB m s) : ∃ m', impl_builder_divide fuel m a b = some ((divK s a b a.length).2.1, (divK s a b a.length).1, m') ∧ RelB m' (divK s a b a.length).2.2 := by
  unfold impl_builder_divide
  rw [mk?_len (by unfold room; omega)]
  simp only [Option.bind_some]
  rw [len_nat, impl_zero (by omega)]
  simp only [Option.bind_some]
  rw [impl_opp hs.lines1 (by omega) hb]
  simp only [Option.bind_some]
  rw [app_ok (by rw [negs_len]; simp; omega)]
  simp only [Option.bind_some]
  have hfin : ∀ {X : Option (List Int × List Int × D.builder)} {u v : List Int} {s' : BS}, (∃ y, X = some y ∧ ∃ m', y = (u, v, m') ∧ RelB m' s') → ∃ m', X = some (u, v, m') ∧ RelB m' s' := fun ⟨y, h1, m', h2, h3⟩ => ⟨m', by rw [h1, h2], h3⟩
  refine hfin ?_
  refine iterN_bindE (I := fun k t => ∃ m' : D.builder, t = ((a.length : Int) - 1 - (k : Int), (divK s a b k).1, (List.replicate a.length 0).take (a.length - k) ++ (divK s a b k).2.1, m'.c.Inputs, m'.full, m'.c.Gates, m'.line) ∧ RelB m' (divK s a b k).2.2) (R := fun r => ∃ m' : D.builder, r = ((divK s a b a.length).1, (divK s a b a.length).2.1, m'.c.Inputs, m'.full, m'.c.Gates, m'.line) ∧ RelB m' (divK s a b a.length).2.2) (m := a.length) (fun k t hk ht => ?_) (fun t ht => ?_) a.length 0 _ (by omega) ⟨m, by rw [w64_id (by omega) (by omega)]; simp [divK], hm⟩ fuel (lt_fuel (by omega)) (fun r hr => ?_)
  · obtain ⟨m1, rfl, hr⟩ := ht
    have g := div_goodK hab ha hb hs k (by omega)
    have o := div_ok hab ha hb g (k := a.length - 1 - k) (by omega)
    rw [divK_succ]
    generalize divK s a b k = t at g o hr ⊢
    have hidx : (a.length : Int) - 1 - (k : Int) = ((a.length - 1 - k : Nat) : Int) := by omega
    have hlen : (a.getD (a.length - 1 - k) 0 :: t.1).length = (lessOf b).length := by simp [lessOf, negs_len, g.len, hab]
    obtain ⟨m2, h2, r2⟩ := impl_add (s := t.2.2) g.circ hr (a := a.getD (a.length - 1 - k) 0 :: t.1) (b := lessOf b) (c := 1) (by simp [g.len]; omega) hlen o.tl o.ll o.l1
    obtain ⟨m3, h3, r3⟩ := impl_seqG (f := selF (addP t.2.2 (a.getD (a.length - 1 - k) 0 :: t.1) (lessOf b) 1).2.1) (s := (addP t.2.2 (a.getD (a.length - 1 - k) 0 :: t.1) (lessOf b) 1).2.2) (l := ((addP t.2.2 (a.getD (a.length - 1 - k) 0 :: t.1) (lessOf b) 1).1.zip (a.getD (a.length - 1 - k) 0 :: t.1)).take a.length) (L0 := t.1) (B := fun (s2 : Int × Int × Bool × (List D.Gate) × (List (D.Gate × Int)) × (List Int)) =>
        if (decide (s2.1 < (len (List.replicate a.length (-1 : Int))))) then
          (get? (addP t.2.2 (a.getD (a.length - 1 - k) 0 :: t.1) (lessOf b) 1).1 s2.1).bind fun x9 =>
          (get? ([a.getD (a.length - 1 - k) 0] ++ t.1) s2.1).bind fun x10 =>
          (impl_builder_choose (D.builder.mk (D.Circuit.mk s2.2.1 s2.2.2.2.1) s2.2.2.2.2.1 s2.2.2.1) (addP t.2.2 (a.getD (a.length - 1 - k) 0 :: t.1) (lessOf b) 1).2.1 x9 x10).bind fun x11 =>
          (set? s2.2.2.2.2.2 s2.1 x11.1).bind fun x12 =>
          some (.inl ((w64 (s2.1 + 1)), x11.2.c.Inputs, x11.2.full, x11.2.c.Gates, x11.2.line, x12))
        else
          some (.inr (s2.2.1, s2.2.2.1, s2.2.2.2.1, s2.2.2.2.2.1, s2.2.2.2.2.2))) (fun j L m => ((j : Int), m.c.Inputs, m.full, m.c.Gates, m.line, L)) (fun L m => (m.c.Inputs, m.full, m.c.Gates, m.line, L)) o.ga.circ (by rw [o.zl]; omega) o.fok (by rw [o.zl, g.len]) (fun j L mm s' x hx hc hgr hrr hL hpre => by
        have hj : j < a.length := by
          have := (List.getElem?_eq_some_iff.1 hx).1
          rw [o.zl] at this; exact this
        have hx' : ((addP t.2.2 (a.getD (a.length - 1 - k) 0 :: t.1) (lessOf b) 1).1.zip (a.getD (a.length - 1 - k) 0 :: t.1))[j]? = some x := by
          rw [List.getElem?_take, if_pos hj] at hx; exact hx
        have hz := zip_mem hx'
        have h1 := o.ga.lits _ (List.mem_of_getElem? hz.1)
        have h2 := o.tl _ (List.mem_of_getElem? hz.2)
        obtain ⟨m4, e4, r4⟩ := impl_if hc (c := (addP t.2.2 (a.getD (a.length - 1 - k) 0 :: t.1) (lessOf b) 1).2.1) (a := x.1) (b := x.2) (litN_mono o.ga.lit hgr.lines) (litN_mono h1 hgr.lines) (litN_mono h2 (o.ga.grow.trans hgr).lines) mm hrr
        refine ⟨m4, ?_, r4⟩
        have hz2 : ([a.getD (a.length - 1 - k) 0] ++ t.1)[j]? = some x.2 := hz.2
        simp only
        rw [if_pos (by rw [len_nat]; simp; omega), get?_nat, get?_nat, hz.1, hz2]
        simp only [Option.bind_some]
        have e4' : impl_builder_choose (D.builder.mk (D.Circuit.mk mm.c.Inputs mm.c.Gates) mm.line mm.full) (addP t.2.2 (a.getD (a.length - 1 - k) 0 :: t.1) (lessOf b) 1).2.1 x.1 x.2 = _ := e4
        rw [e4']
        simp only [Option.bind_some]
        rw [set?_nat (by rw [hL, o.zl]; exact hj)]
        simp only [Option.bind_some]
        rw [w64_id (by omega) (by omega)]
        rfl) (fun L mm => by
        simp only
        rw [o.zl, if_neg (by rw [len_nat]; simp)]) r2
    refine ⟨_, ?_, m3, rfl, r3⟩
    simp only
    rw [if_pos (by simp; omega), hidx, get?_nat, getD_get (l := a) (by omega)]
    simp only [Option.bind_some]
    rw [app_ok (by simp [g.len]; omega)]
    simp only [Option.bind_some]
    have h2' : impl_builder_add fuel (D.builder.mk (D.Circuit.mk m1.c.Inputs m1.c.Gates) m1.line m1.full) ([a.getD (a.length - 1 - k) 0] ++ t.1) (negs b ++ [1]) 1 = _ := h2
    rw [h2']
    simp only [Option.bind_some]
    rw [set?_nat (by simp [g.clen]; omega), set_back (by simp) hk]
    simp only [Option.bind_some]
    have h3' := h3
    simp only [Int.natCast_zero] at h3'
    rw [h3']
    simp only [Option.bind_some]
    rw [w64_id (by omega) (by omega)]
    simp only [Option.some.injEq, Sum.inl.injEq, Prod.mk.injEq]
    exact ⟨by omega, rfl, rfl, trivial⟩
  · obtain ⟨m1, rfl, hr⟩ := ht
    refine ⟨_, ?_, m1, rfl, hr⟩
    simp only
    rw [if_neg (by simp; omega)]
    simp
  · obtain ⟨m', rfl, h2⟩ := hr
    exact ⟨_, rfl, m', rfl, h2⟩
end
end Go.Proofs.Ytckeihpjfeonmaa
