/- The plain laws of circuits that grow: shifts. No program in sight. -/
import Derived.Test.YtckeihpjfeonmaaPOps
namespace Go.Proofs.Ytckeihpjfeonmaa
open Go.GL
def lg (w : Nat) : Nat := if w ≤ 1 then 0 else if w ≤ 2 then 1 else if w ≤ 4 then 2 else if w ≤ 8 then 3 else 4
theorem lg_iff : ∀ w, w < 16 → ∀ k, k < 16 → (2 ^ k < w ↔ k < lg w) := by decide
theorem lg_lt : ∀ w, w < 16 → 1 ≤ w → lg w < w := by decide
theorem lg_le (w : Nat) : lg w ≤ 4 := by
  unfold lg
  split; omega
  split; omega
  split; omega
  split <;> omega
theorem pow_k : ∀ k : Nat, k < 16 → shl? 1 (k : Int) = some ((2 ^ k : Nat) : Int) := by decide
theorem pow_le : ∀ k, k ≤ 4 → 2 ^ k ≤ 16 := by decide
theorem pow_pos' : ∀ k, k < 16 → 1 ≤ 2 ^ k := by decide
theorem pow_le15 : ∀ k, k < 16 → 2 ^ k ≤ 32768 := by decide
theorem u64k {k : Nat} (h : k < 1000) : IntKind.u64.wrap (k : Int) = k := by unfold IntKind.wrap; simp [IntKind.bits, IntKind.signed]; omega
theorem iterN_steps {σt ρt : Type} {B : σt → Option (σt ⊕ ρt)} {I : Nat → σt → Prop} {m : Nat} (hs : ∀ k s, k < m → I k s → ∃ s', B s = some (.inl s') ∧ I (k + 1) s') :
    ∀ (d k : Nat) (s : σt), k + d = m → I k s → ∀ n, ∃ s', I m s' ∧ iterN B (n + d) s = iterN B n s'
  | 0, k, s, hk, hi, n => by
    obtain rfl : k = m := by omega
    exact ⟨s, hi, rfl⟩
  | d + 1, k, s, hk, hi, n => by
    obtain ⟨s1, h1, h2⟩ := hs k s (by omega) hi
    obtain ⟨s', h3, h4⟩ := iterN_steps hs d (k + 1) s1 (by omega) h2 n
    refine ⟨s', h3, ?_⟩
    rw [← h4, ← Nat.add_assoc]
    conv => lhs; unfold iterN
    rw [h1]
def pick (L : Bool) (d : Nat) (fill : Int) (out : List Int) (j : Nat) : Int :=
  if L then (if d ≤ j then out.getD (j - d) 0 else fill) else (if j + d < out.length then out.getD (j + d) 0 else fill)
theorem pick_mem {L : Bool} {d : Nat} {fill : Int} {out : List Int} {j : Nat} (hj : j < out.length) : pick L d fill out j = fill ∨ pick L d fill out j ∈ out := by
  unfold pick
  cases L
  · simp only [Bool.false_eq_true, if_false]
    split
    · exact .inr (getD_mem (by assumption))
    · exact .inl rfl
  · simp only [if_true]
    split
    · exact .inr (getD_mem (by omega))
    · exact .inl rfl
def shPairs (L : Bool) (d : Nat) (fill : Int) (out : List Int) : List (Int × Int) := (List.range out.length).map fun j => (pick L d fill out j, out.getD j 0)
theorem shPairs_len {L : Bool} {d : Nat} {fill : Int} {out : List Int} : (shPairs L d fill out).length = out.length := by simp [shPairs]
theorem shPairs_get {L : Bool} {d : Nat} {fill : Int} {out : List Int} {j : Nat} {x : Int × Int} (h : (shPairs L d fill out)[j]? = some x) : j < out.length ∧ x = (pick L d fill out j, out.getD j 0) := by
  have hj : j < out.length := by have := (List.getElem?_eq_some_iff.1 h).1; rwa [shPairs_len] at this
  refine ⟨hj, ?_⟩
  unfold shPairs at h
  rw [List.getElem?_map, List.getElem?_range hj] at h
  exact (Option.some.inj h).symm
def shStep (L : Bool) (fill : Int) (b : List Int) (t : LS) (k : Nat) : LS := seqP (selF (b.getD k 0)) t.2 (shPairs L (2 ^ k) fill t.1)
def shK (s : BS) (a b : List Int) (L : Bool) (fill : Int) (k : Nat) : LS := (List.range k).foldl (shStep L fill b) (a, s)
theorem shK_succ (s : BS) (a b : List Int) (L : Bool) (fill : Int) (k : Nat) : shK s a b L fill (k + 1) = shStep L fill b (shK s a b L fill k) k := by
  unfold shK; rw [List.range_succ, List.foldl_append]; rfl
def orF : BS → Int → Int → Int × BS := fun s c x => orP s c x
def finF (c fill : Int) : BS → Int → Int × BS := fun s x => ifP s c fill x
def shFar (s : BS) (a b : List Int) (L : Bool) (fill : Int) : Int × BS := accP orF (shK s a b L fill (lg a.length)).2 (-1) (b.drop (lg a.length))
def shP (s : BS) (a b : List Int) (L : Bool) (fill : Int) : LS := seqP (finF (shFar s a b L fill).1 fill) (shFar s a b L fill).2 (shK s a b L fill (lg a.length)).1
section
variable {s : BS} {a b : List Int} {L : Bool} {fill : Int} (hab : a.length = b.length) (hl : a.length ≤ 15) (ha : ∀ x ∈ a, litN (lines s.1) x = true) (hb : ∀ x ∈ b, litN (lines s.1) x = true) (hf : litN (lines s.1) fill = true)
include hab hl ha hb hf
omit hl ha in
theorem sh_ok {t : LS} (g : GoodL s a.length t) {k : Nat} (hk : k < a.length) (d : Nat) : FOk (selF (b.getD k 0)) t.2 (shPairs L d fill t.1) := by
  intro s' p hc hgr hp
  obtain ⟨j, hj⟩ := List.getElem?_of_mem hp
  obtain ⟨hj', rfl⟩ := shPairs_get hj
  have e := g.grow.trans hgr
  refine if_good hc (litN_mono (hb _ (getD_mem (by omega))) e.lines) ?_ (litN_mono (g.lits _ (getD_mem hj')) hgr.lines)
  rcases pick_mem (L := L) (d := d) (fill := fill) hj' with h | h
  · simp only [h]; exact litN_mono hf e.lines
  · exact litN_mono (g.lits _ h) hgr.lines
omit hl in
theorem sh_good (hs : CircP s.1) (k : Nat) (hk : k ≤ a.length) : GoodL s a.length (shK s a b L fill k) := by
  induction k with
  | zero => exact ⟨hs, Grow.refl _, rfl, ha⟩
  | succ k ih =>
    have g := ih (by omega)
    rw [shK_succ]
    generalize shK s a b L fill k = t at g ⊢
    have o := sh_ok hab hb hf g (k := k) (by omega) (L := L) (2 ^ k)
    have gq := seq_good g.circ o
    rw [shPairs_len, g.len] at gq
    exact ⟨gq.circ, g.grow.trans gq.grow, gq.len, gq.lits⟩
omit hab hl ha hf in
theorem far_ok {t : LS} (g : GoodL s a.length t) (k : Nat) : AOk orF t.2 (b.drop k) := by
  intro s' c x hc hgr hlc hx
  exact or_good hc hlc (litN_mono (hb _ (List.mem_of_mem_drop hx)) (g.grow.trans hgr).lines)
theorem far_good (hs : CircP s.1) (hw : 1 ≤ a.length) : Good (shK s a b L fill (lg a.length)).2 (shFar s a b L fill) := by
  have g := sh_good hab ha hb hf hs (L := L) (lg a.length) (by have := lg_lt a.length (by omega) hw; omega)
  exact acc_good g.circ (lit_m1 g.circ) (far_ok hb g _)
theorem fin_ok (hs : CircP s.1) (hw : 1 ≤ a.length) : FOk (finF (shFar s a b L fill).1 fill) (shFar s a b L fill).2 (shK s a b L fill (lg a.length)).1 := by
  have g := sh_good hab ha hb hf hs (L := L) (lg a.length) (by have := lg_lt a.length (by omega) hw; omega)
  have gf := far_good hab hl ha hb hf hs hw (L := L)
  intro s' x hc hgr hx
  exact if_good hc (litN_mono gf.lit hgr.lines) (litN_mono hf ((g.grow.trans gf.grow).trans hgr).lines) (litN_mono (g.lits _ hx) (gf.grow.trans hgr).lines)
theorem shP_good (hs : CircP s.1) (hw : 1 ≤ a.length) : GoodL s a.length (shP s a b L fill) := by
  have g := sh_good hab ha hb hf hs (L := L) (lg a.length) (by have := lg_lt a.length (by omega) hw; omega)
  have gf := far_good hab hl ha hb hf hs hw (L := L)
  have gq := seq_good gf.circ (fin_ok hab hl ha hb hf hs hw)
  rw [g.len] at gq
  exact ⟨gq.circ, (g.grow.trans gf.grow).trans gq.grow, gq.len, gq.lits⟩
end
theorem idx_ok {L : Bool} {d j : Nat} {fill : Int} {out : List Int} (hd : d ≤ 40000) (hj : j < out.length) (hl : out.length ≤ 15) :
    (∃ i : Nat, i < out.length ∧ (cond L (w64 ((j : Int) - (d : Int))) (w64 ((j : Int) + (d : Int)))) = (i : Int) ∧ pick L d fill out j = out.getD i 0) ∨
    (((cond L (w64 ((j : Int) - (d : Int))) (w64 ((j : Int) + (d : Int)))) < 0 ∨ (out.length : Int) ≤ (cond L (w64 ((j : Int) - (d : Int))) (w64 ((j : Int) + (d : Int))))) ∧ pick L d fill out j = fill) := by
  cases L
  · simp only [cond_false]
    rw [w64_id (by omega) (by omega)]
    by_cases h : j + d < out.length
    · exact .inl ⟨j + d, h, by omega, by simp [pick, h]⟩
    · exact .inr ⟨.inr (by omega), by simp [pick, h]⟩
  · simp only [cond_true]
    rw [w64_id (by omega) (by omega)]
    by_cases h : d ≤ j
    · exact .inl ⟨j - d, by omega, by omega, by simp [pick, h]⟩
    · exact .inr ⟨.inl (by omega), by simp [pick, h]⟩
section
variable {s : BS} (hs : CircP s.1) {a b : List Int} {op fill : Int} (hab : a.length = b.length) (hl : a.length ≤ 15) (hw : 1 ≤ a.length) (ha : ∀ x ∈ a, litN (lines s.1) x = true) (hb : ∀ x ∈ b, litN (lines s.1) x = true) (hf : litN (lines s.1) fill = true)
include hs hab hl hw ha hb hf
theorem impl_shiftB {m : D.builder} (hm : RelB m s) : ∃ m', (
    (slices_Clone___int_int_ a).bind fun x2 =>
    (iterN (fun (s1 : Int × (List Int) × Int × Bool × (List D.Gate) × (List (D.Gate × Int))) =>
      (if (decide (s1.1 < (len a))) then (shl? 1 (IntKind.u64.wrap s1.1)) else some default).bind fun x3 =>
      if ((decide (s1.1 < (len a))) && (decide (x3 < (len a)))) then
        (slices_Clone___int_int_ s1.2.1).bind fun x4 =>
        (iterN (fun (s2 : Int × (List Int) × Int × Bool × (List D.Gate) × (List (D.Gate × Int))) =>
          if (decide (s2.1 < (len x2))) then
            (shl? 1 (IntKind.u64.wrap s1.1)).bind fun x5 =>
            if (op == 11) then
              (shl? 1 (IntKind.u64.wrap s1.1)).bind fun x6 =>
              if ((decide ((w64 (s2.1 - x6)) ≥ 0)) && (decide ((w64 (s2.1 - x6)) < (len a)))) then
                (get? x4 (w64 (s2.1 - x6))).bind fun x7 =>
                (get? b s1.1).bind fun x8 =>
                (get? x4 s2.1).bind fun x9 =>
                (impl_builder_choose (D.builder.mk (D.Circuit.mk s2.2.2.1 s2.2.2.2.2.1) s2.2.2.2.2.2 s2.2.2.2.1) x8 x7 x9).bind fun x10 =>
                (set? s2.2.1 s2.1 x10.1).bind fun x11 =>
                some (.inl ((w64 (s2.1 + 1)), x11, x10.2.c.Inputs, x10.2.full, x10.2.c.Gates, x10.2.line))
              else
                (get? b s1.1).bind fun x12 =>
                (get? x4 s2.1).bind fun x13 =>
                (impl_builder_choose (D.builder.mk (D.Circuit.mk s2.2.2.1 s2.2.2.2.2.1) s2.2.2.2.2.2 s2.2.2.2.1) x12 fill x13).bind fun x14 =>
                (set? s2.2.1 s2.1 x14.1).bind fun x15 =>
                some (.inl ((w64 (s2.1 + 1)), x15, x14.2.c.Inputs, x14.2.full, x14.2.c.Gates, x14.2.line))
            else
              if ((decide ((w64 (s2.1 + x5)) ≥ 0)) && (decide ((w64 (s2.1 + x5)) < (len a)))) then
                (get? x4 (w64 (s2.1 + x5))).bind fun x16 =>
                (get? b s1.1).bind fun x17 =>
                (get? x4 s2.1).bind fun x18 =>
                (impl_builder_choose (D.builder.mk (D.Circuit.mk s2.2.2.1 s2.2.2.2.2.1) s2.2.2.2.2.2 s2.2.2.2.1) x17 x16 x18).bind fun x19 =>
                (set? s2.2.1 s2.1 x19.1).bind fun x20 =>
                some (.inl ((w64 (s2.1 + 1)), x20, x19.2.c.Inputs, x19.2.full, x19.2.c.Gates, x19.2.line))
              else
                (get? b s1.1).bind fun x21 =>
                (get? x4 s2.1).bind fun x22 =>
                (impl_builder_choose (D.builder.mk (D.Circuit.mk s2.2.2.1 s2.2.2.2.2.1) s2.2.2.2.2.2 s2.2.2.2.1) x21 fill x22).bind fun x23 =>
                (set? s2.2.1 s2.1 x23.1).bind fun x24 =>
                some (.inl ((w64 (s2.1 + 1)), x24, x23.2.c.Inputs, x23.2.full, x23.2.c.Gates, x23.2.line))
          else
            some (.inr (s2.2.1, s2.2.2.1, s2.2.2.2.1, s2.2.2.2.2.1, s2.2.2.2.2.2))
        ) fuel (0, s1.2.1, s1.2.2.1, s1.2.2.2.1, s1.2.2.2.2.1, s1.2.2.2.2.2)).bind fun (rl2 : (List Int) × Int × Bool × (List D.Gate) × (List (D.Gate × Int))) =>
        some (.inl ((w64 (s1.1 + 1)), rl2.1, rl2.2.1, rl2.2.2.1, rl2.2.2.2.1, rl2.2.2.2.2))
      else
        some (.inr (s1.1, s1.2.1, s1.2.2.1, s1.2.2.2.1, s1.2.2.2.2.1, s1.2.2.2.2.2))
    ) fuel (0, x2, m.c.Inputs, m.full, m.c.Gates, m.line)).bind fun (rl1 : Int × (List Int) × Int × Bool × (List D.Gate) × (List (D.Gate × Int))) =>
    if (decide (rl1.1 < (len a))) then
      (iterN (fun (s3 : Int × Int × Int × Bool × (List D.Gate) × (List (D.Gate × Int))) =>
        if (decide (s3.1 < (len a))) then
          (get? b s3.1).bind fun x25 =>
          (impl_builder_or (D.builder.mk (D.Circuit.mk s3.2.2.1 s3.2.2.2.2.1) s3.2.2.2.2.2 s3.2.2.2.1) s3.2.1 x25).bind fun x26 =>
          some (.inl ((w64 (s3.1 + 1)), x26.1, x26.2.c.Inputs, x26.2.full, x26.2.c.Gates, x26.2.line))
        else
          some (.inr (s3.2.1, s3.2.2.1, s3.2.2.2.1, s3.2.2.2.2.1, s3.2.2.2.2.2))
      ) fuel (rl1.1, (-1), rl1.2.2.1, rl1.2.2.2.1, rl1.2.2.2.2.1, rl1.2.2.2.2.2)).bind fun (rl3 : Int × Int × Bool × (List D.Gate) × (List (D.Gate × Int))) =>
      (iterN (fun (s4 : Int × (List Int) × Int × Bool × (List D.Gate) × (List (D.Gate × Int))) =>
        if (decide (s4.1 < (len x2))) then
          (get? s4.2.1 s4.1).bind fun x27 =>
          (impl_builder_choose (D.builder.mk (D.Circuit.mk s4.2.2.1 s4.2.2.2.2.1) s4.2.2.2.2.2 s4.2.2.2.1) rl3.1 fill x27).bind fun x28 =>
          (set? s4.2.1 s4.1 x28.1).bind fun x29 =>
          some (.inl ((w64 (s4.1 + 1)), x29, x28.2.c.Inputs, x28.2.full, x28.2.c.Gates, x28.2.line))
        else
          some (.inr (s4.2.1, s4.2.2.1, s4.2.2.2.1, s4.2.2.2.2.1, s4.2.2.2.2.2))
      ) fuel (0, rl1.2.1, rl3.2.1, rl3.2.2.1, rl3.2.2.2.1, rl3.2.2.2.2)).bind fun (rl4 : (List Int) × Int × Bool × (List D.Gate) × (List (D.Gate × Int))) =>
      some (rl4.1, (D.builder.mk (D.Circuit.mk rl4.2.1 rl4.2.2.2.1) rl4.2.2.2.2 rl4.2.2.1))
    else
      some (rl1.2.1, (D.builder.mk (D.Circuit.mk rl1.2.2.1 rl1.2.2.2.2.1) rl1.2.2.2.2.2 rl1.2.2.2.1))) = some ((shP s a b (op == 11) fill).1, m') ∧ RelB m' (shP s a b (op == 11) fill).2 := by
  generalize hL : (op == 11) = L
  have hlg := lg_lt a.length (by omega) hw
  have gl := sh_good hab ha hb hf hs (L := L) (lg a.length) (by omega)
  have hcl : ∀ l : List Int, l.length ≤ 1000 → slices_Clone___int_int_ l = some l := fun l h => by unfold slices_Clone___int_int_; rw [app_nil h]; rfl
  rw [hcl a (by omega)]
  simp only [Option.bind_some]
  refine ex_pair ?_
  refine iterN_bindE (I := fun k t => ∃ m' : D.builder, t = ((k : Int), (shK s a b L fill k).1, m'.c.Inputs, m'.full, m'.c.Gates, m'.line) ∧ RelB m' (shK s a b L fill k).2) (R := fun r => ∃ m' : D.builder, r = (((lg a.length : Nat) : Int), (shK s a b L fill (lg a.length)).1, m'.c.Inputs, m'.full, m'.c.Gates, m'.line) ∧ RelB m' (shK s a b L fill (lg a.length)).2) (m := lg a.length) (fun k t hk ht => ?_) (fun t ht => ?_) (lg a.length) 0 _ (by omega) ⟨m, rfl, hm⟩ fuel (lt_fuel (by have := lg_le a.length; omega)) (fun r hr => ?_)
  · obtain ⟨m1, rfl, hr⟩ := ht
    have g := sh_good hab ha hb hf hs (L := L) k (by omega)
    have o := sh_ok hab hb hf g (k := k) (by omega) (L := L) (2 ^ k)
    rw [shK_succ]
    generalize shK s a b L fill k = t at g o hr ⊢
    have hln := g.len
    have hp : 2 ^ k < a.length := by rw [lg_iff _ (by omega) _ (by omega)]; omega
    have hsh : shl? 1 (IntKind.u64.wrap (k : Int)) = some ((2 ^ k : Nat) : Int) := by rw [u64k (by omega), pow_k _ (by omega)]
    have hkl : decide ((k : Int) < len a) = true := by rw [len_nat]; simp; omega
    have hpl : decide (((2 ^ k : Nat) : Int) < len a) = true := by rw [len_nat, decide_eq_true_eq]; exact Int.ofNat_lt.2 hp
    simp only [hkl, if_true, hsh, Option.bind_some, hpl, Bool.and_self]
    rw [hcl t.1 (by omega)]
    simp only [Option.bind_some]
    obtain ⟨m3, h3, r3⟩ := impl_seqG (f := selF (b.getD k 0)) (s := t.2) (l := shPairs L (2 ^ k) fill t.1) (L0 := t.1) (B := (fun (s2 : Int × (List Int) × Int × Bool × (List D.Gate) × (List (D.Gate × Int))) =>
          if (decide (s2.1 < (len a))) then
            (shl? 1 (IntKind.u64.wrap (k : Int))).bind fun x5 =>
            if L then
              (shl? 1 (IntKind.u64.wrap (k : Int))).bind fun x6 =>
              if ((decide ((w64 (s2.1 - x6)) ≥ 0)) && (decide ((w64 (s2.1 - x6)) < (len a)))) then
                (get? t.1 (w64 (s2.1 - x6))).bind fun x7 =>
                (get? b (k : Int)).bind fun x8 =>
                (get? t.1 s2.1).bind fun x9 =>
                (impl_builder_choose (D.builder.mk (D.Circuit.mk s2.2.2.1 s2.2.2.2.2.1) s2.2.2.2.2.2 s2.2.2.2.1) x8 x7 x9).bind fun x10 =>
                (set? s2.2.1 s2.1 x10.1).bind fun x11 =>
                some (.inl ((w64 (s2.1 + 1)), x11, x10.2.c.Inputs, x10.2.full, x10.2.c.Gates, x10.2.line))
              else
                (get? b (k : Int)).bind fun x12 =>
                (get? t.1 s2.1).bind fun x13 =>
                (impl_builder_choose (D.builder.mk (D.Circuit.mk s2.2.2.1 s2.2.2.2.2.1) s2.2.2.2.2.2 s2.2.2.2.1) x12 fill x13).bind fun x14 =>
                (set? s2.2.1 s2.1 x14.1).bind fun x15 =>
                some (.inl ((w64 (s2.1 + 1)), x15, x14.2.c.Inputs, x14.2.full, x14.2.c.Gates, x14.2.line))
            else
              if ((decide ((w64 (s2.1 + x5)) ≥ 0)) && (decide ((w64 (s2.1 + x5)) < (len a)))) then
                (get? t.1 (w64 (s2.1 + x5))).bind fun x16 =>
                (get? b (k : Int)).bind fun x17 =>
                (get? t.1 s2.1).bind fun x18 =>
                (impl_builder_choose (D.builder.mk (D.Circuit.mk s2.2.2.1 s2.2.2.2.2.1) s2.2.2.2.2.2 s2.2.2.2.1) x17 x16 x18).bind fun x19 =>
                (set? s2.2.1 s2.1 x19.1).bind fun x20 =>
                some (.inl ((w64 (s2.1 + 1)), x20, x19.2.c.Inputs, x19.2.full, x19.2.c.Gates, x19.2.line))
              else
                (get? b (k : Int)).bind fun x21 =>
                (get? t.1 s2.1).bind fun x22 =>
                (impl_builder_choose (D.builder.mk (D.Circuit.mk s2.2.2.1 s2.2.2.2.2.1) s2.2.2.2.2.2 s2.2.2.2.1) x21 fill x22).bind fun x23 =>
                (set? s2.2.1 s2.1 x23.1).bind fun x24 =>
                some (.inl ((w64 (s2.1 + 1)), x24, x23.2.c.Inputs, x23.2.full, x23.2.c.Gates, x23.2.line))
          else
            some (.inr (s2.2.1, s2.2.2.1, s2.2.2.2.1, s2.2.2.2.2.1, s2.2.2.2.2.2)))) (fun j L m => ((j : Int), L, m.c.Inputs, m.full, m.c.Gates, m.line)) (fun L m => (L, m.c.Inputs, m.full, m.c.Gates, m.line)) g.circ (by rw [shPairs_len]; omega) o (by rw [shPairs_len]) (fun j Lj mm s' x hx hc hgr hrr hLl hpre => by
        obtain ⟨hj, rfl⟩ := shPairs_get hx
        rw [shPairs_len] at hLl
        have e := g.grow.trans hgr
        have hbk := litN_mono (hb _ (getD_mem (l := b) (k := k) (by omega))) e.lines
        have hoj := litN_mono (g.lits _ (getD_mem hj)) hgr.lines
        simp only
        rw [if_pos (by rw [len_nat]; simp; omega), hsh]
        simp only [Option.bind_some]
        rcases idx_ok (L := L) (d := 2 ^ k) (j := j) (fill := fill) (out := t.1) (by omega) hj (by omega) with ⟨i, hi, h1, h2⟩ | ⟨h1, h2⟩
        · obtain ⟨m4, e4, r4⟩ := impl_if hc (c := b.getD k 0) (a := t.1.getD i 0) (b := t.1.getD j 0) hbk (litN_mono (g.lits _ (getD_mem hi)) hgr.lines) hoj mm hrr
          have e4' : impl_builder_choose (D.builder.mk (D.Circuit.mk mm.c.Inputs mm.c.Gates) mm.line mm.full) (b.getD k 0) (t.1.getD i 0) (t.1.getD j 0) = _ := e4
          refine ⟨m4, ?_, by unfold selF; simp only [h2]; exact r4⟩
          have hin : (decide ((i : Int) ≥ 0) && decide ((i : Int) < len a)) = true := by rw [len_nat]; simp; omega
          cases L
          · simp only [cond_false] at h1
            simp only [Bool.false_eq_true, if_false, h1, hin, if_true]
            rw [get?_nat, get?_nat, get?_nat, getD_get hi, getD_get (l := b) (by omega), getD_get hj]
            simp only [Option.bind_some]
            rw [e4']
            simp only [Option.bind_some]
            rw [set?_nat (by omega)]
            simp only [Option.bind_some]
            rw [w64_id (by omega) (by omega)]
            unfold selF
            simp only [h2]
            rfl
          · simp only [cond_true] at h1
            simp only [if_true, h1, hin]
            rw [get?_nat, get?_nat, get?_nat, getD_get hi, getD_get (l := b) (by omega), getD_get hj]
            simp only [Option.bind_some]
            rw [e4']
            simp only [Option.bind_some]
            rw [set?_nat (by omega)]
            simp only [Option.bind_some]
            rw [w64_id (by omega) (by omega)]
            unfold selF
            simp only [h2]
            rfl
        · obtain ⟨m4, e4, r4⟩ := impl_if hc (c := b.getD k 0) (a := fill) (b := t.1.getD j 0) hbk (litN_mono hf e.lines) hoj mm hrr
          have e4' : impl_builder_choose (D.builder.mk (D.Circuit.mk mm.c.Inputs mm.c.Gates) mm.line mm.full) (b.getD k 0) fill (t.1.getD j 0) = _ := e4
          refine ⟨m4, ?_, by unfold selF; simp only [h2]; exact r4⟩
          have hin : ∀ z : Int, (z < 0 ∨ (t.1.length : Int) ≤ z) → (decide (z ≥ 0) && decide (z < len a)) = false := by
            intro z hz
            rw [len_nat]; simp; omega
          cases L
          · simp only [cond_false] at h1
            simp only [Bool.false_eq_true, if_false, hin _ h1]
            rw [get?_nat, get?_nat, getD_get (l := b) (by omega), getD_get hj]
            simp only [Option.bind_some]
            rw [e4']
            simp only [Option.bind_some]
            rw [set?_nat (by omega)]
            simp only [Option.bind_some]
            rw [w64_id (by omega) (by omega)]
            unfold selF
            simp only [h2]
            rfl
          · simp only [cond_true] at h1
            simp only [if_true, hin _ h1, Bool.false_eq_true, if_false]
            rw [get?_nat, get?_nat, getD_get (l := b) (by omega), getD_get hj]
            simp only [Option.bind_some]
            rw [e4']
            simp only [Option.bind_some]
            rw [set?_nat (by omega)]
            simp only [Option.bind_some]
            rw [w64_id (by omega) (by omega)]
            unfold selF
            simp only [h2]
            rfl) (fun L mm => by
        simp only
        rw [if_neg (by rw [len_nat, shPairs_len, g.len]; simp)]) hr
    simp only [Int.natCast_zero, hsh, Option.bind_some] at h3
    refine ⟨_, ?_, m3, rfl, r3⟩
    rw [h3]
    simp only [Option.bind_some]
    rw [w64_id (by omega) (by omega)]
    rfl
  · obtain ⟨m1, rfl, hr⟩ := ht
    refine ⟨_, ?_, m1, rfl, hr⟩
    have hp : ¬ 2 ^ lg a.length < a.length := by rw [lg_iff _ (by omega) _ (by omega)]; omega
    have hsh : shl? 1 (IntKind.u64.wrap ((lg a.length : Nat) : Int)) = some ((2 ^ lg a.length : Nat) : Int) := by rw [u64k (by omega), pow_k _ (by omega)]
    have hkl : decide (((lg a.length : Nat) : Int) < len a) = true := by rw [len_nat]; simp; omega
    have hpl : decide (((2 ^ lg a.length : Nat) : Int) < len a) = false := by rw [len_nat, decide_eq_false_iff_not]; exact fun h => hp (Int.ofNat_lt.1 h)
    simp only [hkl, if_true, hsh, Option.bind_some, hpl, Bool.and_false, Bool.false_eq_true, if_false]
  · obtain ⟨m1, rfl, hr⟩ := hr
    have gf := far_good hab hl ha hb hf hs hw (L := L)
    simp only
    rw [if_pos (by rw [len_nat]; simp; omega)]
    obtain ⟨m2, h2, r2⟩ := impl_accG (f := orF) (l := b.drop (lg a.length)) (s := (shK s a b L fill (lg a.length)).2) (c := -1) (B := (fun (s3 : Int × Int × Int × Bool × (List D.Gate) × (List (D.Gate × Int))) =>
        if (decide (s3.1 < (len a))) then
          (get? b s3.1).bind fun x25 =>
          (impl_builder_or (D.builder.mk (D.Circuit.mk s3.2.2.1 s3.2.2.2.2.1) s3.2.2.2.2.2 s3.2.2.2.1) s3.2.1 x25).bind fun x26 =>
          some (.inl ((w64 (s3.1 + 1)), x26.1, x26.2.c.Inputs, x26.2.full, x26.2.c.Gates, x26.2.line))
        else
          some (.inr (s3.2.1, s3.2.2.1, s3.2.2.2.1, s3.2.2.2.2.1, s3.2.2.2.2.2)))) (fun j c m => (((lg a.length + j : Nat) : Int), c, m.c.Inputs, m.full, m.c.Gates, m.line)) (fun c m => (c, m.c.Inputs, m.full, m.c.Gates, m.line)) gl.circ (lit_m1 gl.circ) (by rw [List.length_drop]; omega) (far_ok hb gl _) (fun j c mm s' x hx hc hgr hrr hlc => by
        have hj : lg a.length + j < b.length ∧ b[lg a.length + j]? = some x := by
          rw [List.getElem?_drop] at hx
          exact ⟨(List.getElem?_eq_some_iff.1 hx).1, hx⟩
        obtain ⟨m4, e4, r4⟩ := impl_or hc hlc (litN_mono (hb _ (List.mem_of_getElem? hj.2)) (gl.grow.trans hgr).lines) mm hrr
        have e4' : impl_builder_or (D.builder.mk (D.Circuit.mk mm.c.Inputs mm.c.Gates) mm.line mm.full) c x = _ := e4
        refine ⟨m4, ?_, r4⟩
        simp only
        rw [if_pos (by rw [len_nat]; simp; omega), get?_nat, hj.2]
        simp only [Option.bind_some]
        rw [e4']
        simp only [Option.bind_some]
        rw [w64_id (by omega) (by omega)]
        rfl) (fun c mm => by
        simp only
        rw [if_neg (by rw [len_nat, List.length_drop]; simp; omega)]) hr
    simp only [Nat.add_zero] at h2
    rw [h2]
    simp only [Option.bind_some]
    obtain ⟨m3, h3, r3⟩ := impl_seqG (f := finF (shFar s a b L fill).1 fill) (s := (shFar s a b L fill).2) (l := (shK s a b L fill (lg a.length)).1) (L0 := (shK s a b L fill (lg a.length)).1) (B := (fun (s4 : Int × (List Int) × Int × Bool × (List D.Gate) × (List (D.Gate × Int))) =>
        if (decide (s4.1 < (len a))) then
          (get? s4.2.1 s4.1).bind fun x27 =>
          (impl_builder_choose (D.builder.mk (D.Circuit.mk s4.2.2.1 s4.2.2.2.2.1) s4.2.2.2.2.2 s4.2.2.2.1) (shFar s a b L fill).1 fill x27).bind fun x28 =>
          (set? s4.2.1 s4.1 x28.1).bind fun x29 =>
          some (.inl ((w64 (s4.1 + 1)), x29, x28.2.c.Inputs, x28.2.full, x28.2.c.Gates, x28.2.line))
        else
          some (.inr (s4.2.1, s4.2.2.1, s4.2.2.2.1, s4.2.2.2.2.1, s4.2.2.2.2.2)))) (fun j L m => ((j : Int), L, m.c.Inputs, m.full, m.c.Gates, m.line)) (fun L m => (L, m.c.Inputs, m.full, m.c.Gates, m.line)) gf.circ (by rw [gl.len]; omega) (fin_ok hab hl ha hb hf hs hw) rfl (fun j Lj mm s' x hx hc hgr hrr hLl hpre => by
        have hj : j < a.length := by
          have := (List.getElem?_eq_some_iff.1 hx).1
          rw [gl.len] at this; exact this
        rw [gl.len] at hLl
        obtain ⟨m4, e4, r4⟩ := impl_if hc (c := (shFar s a b L fill).1) (a := fill) (b := x) (litN_mono gf.lit hgr.lines) (litN_mono hf ((gl.grow.trans gf.grow).trans hgr).lines) (litN_mono (gl.lits _ (List.mem_of_getElem? hx)) (gf.grow.trans hgr).lines) mm hrr
        have e4' : impl_builder_choose (D.builder.mk (D.Circuit.mk mm.c.Inputs mm.c.Gates) mm.line mm.full) (shFar s a b L fill).1 fill x = _ := e4
        refine ⟨m4, ?_, r4⟩
        simp only
        rw [if_pos (by rw [len_nat]; simp; omega), get?_nat, hpre j (Nat.le_refl _), hx]
        simp only [Option.bind_some]
        rw [e4']
        simp only [Option.bind_some]
        rw [set?_nat (by omega)]
        simp only [Option.bind_some]
        rw [w64_id (by omega) (by omega)]
        rfl) (fun L mm => by
        simp only
        rw [if_neg (by rw [len_nat, gl.len]; simp)]) r2
    simp only [Int.natCast_zero] at h3
    have hfar : accP orF (shK s a b L fill (lg a.length)).2 (-1) (b.drop (lg a.length)) = shFar s a b L fill := rfl
    rw [hfar]
    rw [h3]
    exact ⟨_, rfl, m3, rfl, r3⟩
end
end Go.Proofs.Ytckeihpjfeonmaa
