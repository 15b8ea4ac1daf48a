/- What each operation with lines means, bit by bit. No program in sight. -/
import Derived.Test.YtckeihpjfeonmaaPBits
namespace Go.Proofs.Ytckeihpjfeonmaa
open Go.GL
def mulB1 (a b : List Bool) (t : List Bool) (k : Nat) : List Bool :=
  t.take k ++ (addB (t.drop k) ((a.take (a.length - k)).map fun x => b.getD k false && x) false).1
def mulB (a b : List Bool) (k : Nat) : List Bool := (List.range k).foldl (mulB1 a b) (List.replicate a.length false)
def divB1 (a less : List Bool) (t : List Bool × List Bool) (k : Nat) : List Bool × List Bool :=
  let d := addB (a.getD k false :: t.1) less true
  (((d.1.zip (a.getD k false :: t.1)).take a.length).map fun p => cond d.2 p.1 p.2, d.2 :: t.2)
def lessB (b : List Bool) : List Bool := b.map (fun x => !x) ++ [true]
def divB (a b : List Bool) (k : Nat) : List Bool × List Bool := (List.range k).foldl (fun t i => divB1 a (lessB b) t (a.length - 1 - i)) (List.replicate a.length false, [])
def pickB (L : Bool) (d : Nat) (fill : Bool) (out : List Bool) (j : Nat) : Bool :=
  if L then (if d ≤ j then out.getD (j - d) false else fill) else (if j + d < out.length then out.getD (j + d) false else fill)
def shB1 (L : Bool) (fill : Bool) (b : List Bool) (t : List Bool) (k : Nat) : List Bool := (List.range t.length).map fun j => cond (b.getD k false) (pickB L (2 ^ k) fill t j) (t.getD j false)
def shB (a b : List Bool) (L fill : Bool) (k : Nat) : List Bool := (List.range k).foldl (shB1 L fill b) a
def shPB (a b : List Bool) (L fill : Bool) : List Bool :=
  (shB a b L fill (lg a.length)).map fun x => cond ((b.drop (lg a.length)).foldl (fun c y => c || y) false) fill x
section
variable {s : BS} {a b : List Int} (hs : CircP s.1) (hab : a.length = b.length) (ha : ∀ x ∈ a, litN (lines s.1) x = true) (hb : ∀ x ∈ b, litN (lines s.1) x = true)
include hs hab ha hb
theorem mul_bits (hn : s.1.Gates.length + 10 * a.length * a.length ≤ 360) (k : Nat) (hk : k ≤ a.length) : Lst s (10 * a.length * k) (mulK s a b k) (fun E => mulB (a.map (litV E)) (b.map (litV E)) k) := by
  induction k with
  | zero => exact ⟨by simp [mulK], rfl, fun c' _ _ v _ => by simp [mulK, mulB, ev_m1]⟩
  | succ k ih =>
    have g := mul_goodK hs hab ha hb k (by omega)
    have q := ih (by omega)
    have hok := part_ok ha hb g.grow (k := k) (by omega)
    have hm : 10 * a.length * (k + 1) ≤ 10 * a.length * a.length := Nat.mul_le_mul_left _ hk
    rw [Nat.mul_succ] at hm ⊢
    rw [mulK_succ]
    generalize mulK s a b k = t at g q hok ⊢
    have q1 := q.cnt
    have gp := seq_good g.circ hok
    have hbk : b.getD k 0 ∈ b := getD_mem (by omega)
    have hlt : (a.take (a.length - k)).length = a.length - k := by rw [List.length_take]; omega
    have o := seq_lst (n := 1) (g := fun x e => litV e (b.getD k 0) && litV e x) g.circ hok (fun s' x hc hgr hx hcn => and_one (litN_mono (hb _ hbk) (g.grow.trans hgr).lines) (litN_mono (ha _ (List.mem_of_mem_take hx)) (g.grow.trans hgr).lines) hcn) (by rw [hlt]; omega)
    have o1 := o.cnt
    rw [hlt] at o1
    have gpl : (seqP (partF (b.getD k 0)) t.2 (a.take (a.length - k))).1.length = a.length - k := by rw [gp.len, hlt]
    have hdl : (t.1.drop k).length = a.length - k := by rw [List.length_drop, g.len]
    have la : ∀ x ∈ t.1.drop k, litN (lines (seqP (partF (b.getD k 0)) t.2 (a.take (a.length - k))).2.1) x = true := fun x hx => litN_mono (g.lits x (List.mem_of_mem_drop hx)) gp.grow.lines
    have gq := addP_good gp.circ (a := t.1.drop k) (b := (seqP (partF (b.getD k 0)) t.2 (a.take (a.length - k))).1) (c := -1) (by rw [gpl, hdl]) la gp.lits (lit_m1 gp.circ)
    have z := add_bits gp.circ (a := t.1.drop k) (b := (seqP (partF (b.getD k 0)) t.2 (a.take (a.length - k))).1) (c := -1) (by rw [gpl, hdl]) la gp.lits (lit_m1 gp.circ) (by rw [hdl]; omega)
    have z1 := z.cnt
    rw [hdl] at z1
    refine ⟨by simp only [mulStep]; omega, by simp only [mulStep]; rw [z.full, o.full, q.full], fun c' hc hg v hv => ?_⟩
    have hg' : Grow (addP (seqP (partF (b.getD k 0)) t.2 (a.take (a.length - k))).2 (t.1.drop k) (seqP (partF (b.getD k 0)) t.2 (a.take (a.length - k))).1 (-1)).2.2.1 c' := hg
    have e3 := z.sem c' hc hg' v hv
    have e2 := o.sem c' hc (gq.grow.trans hg') v hv
    have e1 := q.sem c' hc ((gp.grow.trans gq.grow).trans hg') v hv
    try simp only at e1
    try simp only at e2
    try simp only at e3
    simp only [mulStep]
    rw [List.map_append]
    have e4 := congrArg Prod.fst e3
    try simp only at e4
    rw [e4, e2, ev_m1, List.map_take, List.map_drop, e1]
    unfold mulB
    rw [List.range_succ, List.foldl_append]
    simp only [List.foldl_cons, List.foldl_nil]
    unfold mulB1
    rw [List.length_map, ← getD_bits (by omega), ← List.map_take, List.map_map]
    rfl
end
section
variable {s : BS} {a b : List Int} (hab : a.length = b.length) (ha : ∀ x ∈ a, litN (lines s.1) x = true) (hb : ∀ x ∈ b, litN (lines s.1) x = true)
include hab ha hb
structure LstD (s : BS) (n : Nat) (t : DS) (F : List Bool → List Bool × List Bool) : Prop where
  cnt : t.2.2.1.Gates.length ≤ s.1.Gates.length + n
  full : t.2.2.2 = s.2
  sem : ∀ c', CircP c' → Grow t.2.2.1 c' → ∀ v : List Bool, (v.length : Int) = c'.Inputs → (t.1.map (litV (ev c' v)), t.2.1.map (litV (ev c' v))) = F (ev c' v)
theorem div_bits (hs : CircP s.1) (hn : s.1.Gates.length + (12 * a.length + 9) * a.length ≤ 360) (k : Nat) (hk : k ≤ a.length) : LstD s ((12 * a.length + 9) * k) (divK s a b k) (fun E => divB (a.map (litV E)) (b.map (litV E)) k) := by
  induction k with
  | zero => exact ⟨by simp [divK], rfl, fun c' _ _ v _ => by simp [divK, divB, ev_m1]⟩
  | succ k ih =>
    have g := div_goodK hab ha hb hs k (by omega)
    have q := ih (by omega)
    have o := div_ok hab ha hb g (k := a.length - 1 - k) (by omega)
    have hm : (12 * a.length + 9) * (k + 1) ≤ (12 * a.length + 9) * a.length := Nat.mul_le_mul_left _ hk
    rw [Nat.mul_succ] at hm ⊢
    rw [divK_succ]
    generalize hki : a.length - 1 - k = i at o ⊢
    have hi : i < a.length := by omega
    generalize divK s a b k = t at g q o ⊢
    have q1 := q.cnt
    have hlen : (a.getD i 0 :: t.1).length = (lessOf b).length := by simp [lessOf, negs_len, g.len, hab]
    have hw : (a.getD i 0 :: t.1).length = a.length + 1 := by simp [g.len]
    have z := add_bits g.circ (a := a.getD i 0 :: t.1) (b := lessOf b) (c := 1) hlen o.tl o.ll o.l1 (by rw [hw]; omega)
    have z1 := z.cnt
    rw [hw] at z1
    have z2 := z.full
    have z3 := z.sem
    have ga := o.ga
    have fok := o.fok
    have zl := o.zl
    have tl := o.tl
    generalize hA : addP t.2.2 (a.getD i 0 :: t.1) (lessOf b) 1 = A at z1 z2 z3 ga fok zl
    have gq := seq_good ga.circ fok
    have y := seq_lst (n := 3) (g := fun p e => cond (litV e A.2.1) (litV e p.1) (litV e p.2)) ga.circ fok (fun s' p hc hgr hp hcn => by
      have hp' := List.of_mem_zip (List.mem_of_mem_take hp)
      exact if_one hc (litN_mono (ga.lits _ hp'.1) hgr.lines) (litN_mono (tl _ hp'.2) (ga.grow.trans hgr).lines) (litN_mono ga.lit hgr.lines) hcn) (by rw [zl]; omega)
    have y1 := y.cnt
    rw [zl] at y1
    have hst : divStep a (lessOf b) t i = ((seqP (selF A.2.1) A.2.2 ((A.1.zip (a.getD i 0 :: t.1)).take a.length)).1, A.2.1 :: t.2.1, (seqP (selF A.2.1) A.2.2 ((A.1.zip (a.getD i 0 :: t.1)).take a.length)).2) := by
      unfold divStep
      simp only
      rw [hA]
    rw [hst]
    refine ⟨by simp only; omega, by simp only; rw [y.full, z2, q.full], fun c' hc hg v hv => ?_⟩
    simp only at hg ⊢
    have e3 := z3 c' hc (gq.grow.trans hg) v hv
    have e2 := y.sem c' hc hg v hv
    have e1 := q.sem c' hc ((ga.grow.trans gq.grow).trans hg) v hv
    try simp only at e1
    try simp only at e2
    try simp only at e3
    rw [e2]
    unfold divB
    rw [List.range_succ, List.foldl_append]
    simp only [List.foldl_cons, List.foldl_nil, List.length_map]
    rw [hki]
    unfold divB at e1
    simp only [List.length_map] at e1
    rw [← e1]
    unfold divB1
    simp only [List.length_map]
    have e4 : lessB (List.map (litV (ev c' v)) b) = List.map (litV (ev c' v)) (lessOf b) := by
      unfold lessB lessOf
      rw [List.map_append, negs_bits hb]
      simp only [List.map_cons, List.map_nil, ev_one]
    rw [← getD_bits hi, e4]
    have e5 : litV (ev c' v) (a.getD i 0) :: List.map (litV (ev c' v)) t.1 = List.map (litV (ev c' v)) (a.getD i 0 :: t.1) := rfl
    rw [e5]
    rw [ev_one] at e3
    rw [← e3]
    simp only [List.map_cons]
    rw [show (litV (ev c' v) (a.getD i 0) :: List.map (litV (ev c' v)) t.1) = List.map (litV (ev c' v)) (a.getD i 0 :: t.1) from rfl, List.zip_map, ← List.map_take, List.map_map]
    rfl
end
section
variable {s : BS} {a b : List Int} {L : Bool} {fill : Int} (hab : a.length = b.length) (hl : a.length ≤ 15) (ha : ∀ x ∈ a, litN (lines s.1) x = true) (hb : ∀ x ∈ b, litN (lines s.1) x = true) (hf : litN (lines s.1) fill = true)
include hab ha hb hf
omit hab ha hb hf in
theorem pick_bits {E : List Bool} {d j : Nat} {out : List Int} (hj : j < out.length) : litV E (pick L d fill out j) = pickB L d (litV E fill) (out.map (litV E)) j := by
  unfold pick pickB
  rw [List.length_map]
  cases L
  · simp only [Bool.false_eq_true, if_false]
    split
    · exact getD_bits (by assumption)
    · rfl
  · simp only [if_true]
    split
    · exact getD_bits (by omega)
    · rfl
theorem sh_bits (hs : CircP s.1) (hn : s.1.Gates.length + 3 * a.length * a.length ≤ 360) (k : Nat) (hk : k ≤ a.length) : Lst s (3 * a.length * k) (shK s a b L fill k) (fun E => shB (a.map (litV E)) (b.map (litV E)) L (litV E fill) k) := by
  induction k with
  | zero => exact ⟨by simp [shK], rfl, fun c' _ _ v _ => by simp [shK, shB]⟩
  | succ k ih =>
    have g := sh_good hab ha hb hf hs (L := L) k (by omega)
    have q := ih (by omega)
    have o := sh_ok hab hb hf g (k := k) (by omega) (L := L) (2 ^ k)
    have hm : 3 * a.length * (k + 1) ≤ 3 * a.length * a.length := Nat.mul_le_mul_left _ hk
    rw [Nat.mul_succ] at hm ⊢
    rw [shK_succ]
    generalize shK s a b L fill k = t at g q o ⊢
    have q1 := q.cnt
    have hln := g.len
    have y := seq_lst (n := 3) (g := fun p e => cond (litV e (b.getD k 0)) (litV e p.1) (litV e p.2)) g.circ o (fun s' p hc hgr hp hcn => by
      obtain ⟨j, hj⟩ := List.getElem?_of_mem hp
      obtain ⟨hj', rfl⟩ := shPairs_get hj
      have e := g.grow.trans hgr
      refine if_one hc ?_ (litN_mono (g.lits _ (getD_mem hj')) hgr.lines) (litN_mono (hb _ (getD_mem (by omega))) e.lines) hcn
      rcases pick_mem (L := L) (d := 2 ^ k) (fill := fill) hj' with h | h
      · simp only [h]; exact litN_mono hf e.lines
      · exact litN_mono (g.lits _ h) hgr.lines) (by rw [shPairs_len]; omega)
    have y1 := y.cnt
    rw [shPairs_len, hln] at y1
    have gq := seq_good g.circ o
    refine ⟨by unfold shStep; omega, by unfold shStep; rw [y.full, q.full], fun c' hc hg v hv => ?_⟩
    unfold shStep at hg ⊢
    have e2 := y.sem c' hc hg v hv
    have e1 := q.sem c' hc (gq.grow.trans hg) v hv
    try simp only at e1
    try simp only at e2
    rw [e2]
    unfold shB at e1 ⊢
    rw [List.range_succ, List.foldl_append, ← e1]
    simp only [List.foldl_cons, List.foldl_nil]
    unfold shB1 shPairs
    rw [List.length_map, List.map_map]
    refine List.map_congr_left fun j hj => ?_
    have hj' : j < t.1.length := List.mem_range.1 hj
    simp only [Function.comp]
    rw [getD_bits (by omega), pick_bits hj', getD_bits hj']
end
end Go.Proofs.Ytckeihpjfeonmaa
