/- What any operation with lines means, bit by bit. No program in sight. -/
import Derived.Test.YtckeihpjfeonmaaPBits2
import Derived.Test.YtckeihpjfeonmaaPOpLits
namespace Go.Proofs.Ytckeihpjfeonmaa
open Go.GL
def lessB' (a b : List Bool) : List Bool := [!(addB a (b.map fun x => !x) true).2]
def flipB (l : List Bool) : List Bool := l.set (l.length - 1) (!(l.getD (l.length - 1) false))
def opB (op : Int) (a b : List Bool) : List Bool :=
  if op = 3 then (addB a b false).1
  else if op = 4 then (addB a (b.map fun x => !x) true).1
  else if op = 5 then mulB a b a.length
  else if op = 6 then (divB a b a.length).2
  else if op = 7 then (divB a b a.length).1
  else if op = 8 then (a.zip b).map fun p => p.1 && p.2
  else if op = 9 then (a.zip b).map fun p => p.1 || p.2
  else if op = 10 then (a.zip b).map fun p => xor p.1 p.2
  else if op = 11 then shPB a b true false
  else if op = 12 then shPB a b false false
  else if op = 13 then shPB a b false (a.getD (a.length - 1) false)
  else if op = 14 then [(a.zip b).foldl (fun c p => c && !(xor p.1 p.2)) true]
  else if op = 15 then lessB' a b
  else lessB' (flipB a) (flipB b)
theorem flip_bits {E : List Bool} {n : Int} {l : List Int} (h1 : 1 ≤ l.length) (h : ∀ x ∈ l, litN n x = true) : (flipP l).map (litV E) = flipB (l.map (litV E)) := by
  unfold flipP flipB
  rw [List.map_set, List.length_map, litV_neg (lit_pos (h _ (getD_mem (by omega)))), getD_bits (by omega)]
structure GoodX (s : BS) (t : LS) : Prop where
  circ : CircP t.2.1
  grow : Grow s.1 t.2.1
  lits : ∀ x ∈ t.1, litN (lines t.2.1) x = true
theorem Lst.weak {s : BS} {n m : Nat} {t : LS} {F : List Bool → List Bool} (h : Lst s n t F) (hm : n ≤ m) : Lst s m t F := ⟨by have := h.cnt; omega, h.full, h.sem⟩
theorem Lst.cong {s : BS} {n : Nat} {t : LS} {F G : List Bool → List Bool} (h : Lst s n t F) (hm : ∀ c v, F (ev c v) = G (ev c v)) : Lst s n t G := ⟨h.cnt, h.full, fun c' hc hg v hv => by rw [h.sem c' hc hg v hv, hm]⟩
theorem one3 {r : Int × BS} {s' : BS} {F : List Bool → Bool} (h : One s' 1 r F) : One s' 3 r F := ⟨by have := h.cnt; omega, h.full, h.sem⟩
section
variable {s : BS} {a b : List Int} (hab : a.length = b.length) (hl : a.length ≤ 4) (hw : 1 ≤ a.length) (ha : ∀ x ∈ a, litN (lines s.1) x = true) (hb : ∀ x ∈ b, litN (lines s.1) x = true) (hs : CircP s.1) (hn : s.1.Gates.length ≤ 7)
include hab hl hw ha hb hs hn
theorem shP_bits {L : Bool} {fill : Int} (hf : litN (lines s.1) fill = true) : Lst s 200 (shP s a b L fill) (fun E => shPB (a.map (litV E)) (b.map (litV E)) L (litV E fill)) := by
  have hlg := lg_lt a.length (by omega) hw
  have haa : 3 * a.length * a.length ≤ 48 := by
    have : 3 * a.length * a.length ≤ 12 * 4 := Nat.mul_le_mul (by omega) hl
    omega
  have hak : 3 * a.length * lg a.length ≤ 3 * a.length * a.length := Nat.mul_le_mul_left _ (by omega)
  have g := sh_good hab ha hb hf hs (L := L) (lg a.length) (by omega)
  have q := sh_bits hab ha hb hf hs (L := L) (by omega) (lg a.length) (by omega)
  have q1 := q.cnt
  have gf := far_good hab (by omega) ha hb hf hs hw (L := L)
  have hdl : (b.drop (lg a.length)).length ≤ 4 := by rw [List.length_drop]; omega
  have f := acc_one (n := 1) (g := fun x e c => c || litV e x) g.circ (lit_m1 g.circ) (far_ok hb g (lg a.length)) (fun s' c x hc hgr hlc hx hcn => or_one hc hlc (litN_mono (hb _ (List.mem_of_mem_drop hx)) (g.grow.trans hgr).lines) hcn) (by omega)
  have f1 := f.cnt
  have f' : One (shK s a b L fill (lg a.length)).2 (1 * (b.drop (lg a.length)).length) (shFar s a b L fill) _ := f
  have f1' := f'.cnt
  have hff := f'.full
  have hfs := f'.sem
  have y := seq_lst (n := 3) (g := fun x e => cond (litV e (shFar s a b L fill).1) (litV e fill) (litV e x)) gf.circ (fin_ok hab (by omega) ha hb hf hs hw (L := L)) (fun s' x hc hgr hx hcn => if_one hc (litN_mono hf ((g.grow.trans gf.grow).trans hgr).lines) (litN_mono (g.lits _ hx) (gf.grow.trans hgr).lines) (litN_mono gf.lit hgr.lines) hcn) (by rw [g.len]; omega)
  have y1 := y.cnt
  have gq := seq_good gf.circ (fin_ok hab (by omega) ha hb hf hs hw (L := L))
  rw [g.len] at y1
  refine ⟨by unfold shP; omega, by unfold shP; rw [y.full, hff, q.full], fun c' hc hg v hv => ?_⟩
  have e3 := y.sem c' hc hg v hv
  have e2 := hfs c' hc (gq.grow.trans hg) v hv
  have e1 := q.sem c' hc ((gf.grow.trans gq.grow).trans hg) v hv
  try simp only at e1
  try simp only at e2
  try simp only at e3
  unfold shP
  rw [e3]
  unfold shPB
  rw [List.length_map, ← e1, List.map_map]
  refine List.map_congr_left fun x _ => ?_
  simp only [Function.comp]
  rw [e2, ev_m1, ← List.map_drop, List.foldl_map]
theorem elem_bits {f : BS → Int × Int → Int × BS} {g : Bool → Bool → Bool} (hf : FOk f s (a.zip b))
    (h : ∀ s' p, CircP s'.1 → Grow s.1 s'.1 → litN (lines s'.1) p.1 = true → litN (lines s'.1) p.2 = true → s'.1.Gates.length + 3 ≤ 360 → One s' 3 (f s' p) (fun e => g (litV e p.1) (litV e p.2))) :
    Lst s 200 (seqP f s (a.zip b)) (fun E => ((a.map (litV E)).zip (b.map (litV E))).map fun p => g p.1 p.2) := by
  have hz : (a.zip b).length = a.length := by rw [List.length_zip]; omega
  have y := seq_lst (n := 3) (g := fun p e => g (litV e p.1) (litV e p.2)) hs hf (fun s' p hc hgr hp hcn => by
    have hp' := zip_lits ha hb (s' := s') hgr hp
    exact h s' p hc hgr hp'.1 hp'.2 hcn) (by rw [hz]; omega)
  have y1 := y.cnt
  rw [hz] at y1
  refine ⟨by omega, y.full, fun c' hc hg v hv => ?_⟩
  rw [y.sem c' hc hg v hv, List.zip_map, List.map_map]
  rfl
theorem add_lst {c : Int} (hc : litN (lines s.1) c = true) : Lst s 200 ((addP s a b c).1, (addP s a b c).2.2) (fun E => (addB (a.map (litV E)) (b.map (litV E)) (litV E c)).1) := by
  have z := add_bits hs hab ha hb hc (by omega)
  have z1 := z.cnt
  exact ⟨by simp only; omega, z.full, fun c' hc' hg v hv => congrArg Prod.fst (z.sem c' hc' hg v hv)⟩
theorem less_lst : Lst s 200 (lessP s a b) (fun E => lessB' (a.map (litV E)) (b.map (litV E))) := by
  have hnl := negs_lits hb
  have z := add_bits hs (a := a) (b := negs b) (c := 1) (by rw [negs_len]; exact hab) ha hnl (lit_1 hs) (by omega)
  have ga := addP_good hs (a := a) (b := negs b) (c := 1) (by rw [negs_len]; exact hab) ha hnl (lit_1 hs)
  have z1 := z.cnt
  refine ⟨by unfold lessP; simp only; omega, z.full, fun c' hc' hg v hv => ?_⟩
  have hg' : Grow (addP s a (negs b) 1).2.2.1 c' := hg
  have e := congrArg Prod.snd (z.sem c' hc' hg' v hv)
  simp only at e
  unfold lessP lessB'
  simp only [List.map_cons, List.map_nil]
  rw [litV_neg (lit_pos ga.lit), e, negs_bits hb, ev_one]
theorem op_ok {op : Int} (ho : 3 ≤ op ∧ op ≤ 16) : GoodX s (opP s op a b) ∧ Lst s 230 (opP s op a b) (fun E => opB op (a.map (litV E)) (b.map (litV E))) := by
  have hnl := negs_lits hb
  have hla : litN (lines s.1) (a.getD (a.length - 1) 0) = true := ha _ (getD_mem (by omega))
  have hww : a.length * a.length ≤ 16 := by
    have : a.length * a.length ≤ 4 * 4 := Nat.mul_le_mul hl hl
    omega
  have h10 : 10 * a.length * a.length ≤ 160 := by rw [Nat.mul_assoc]; omega
  have h57 : (12 * a.length + 9) * a.length ≤ 228 := by
    have : (12 * a.length + 9) * a.length ≤ (12 * 4 + 9) * 4 := Nat.mul_le_mul (by omega) hl
    omega
  rcases op_cases ho with rfl | rfl | rfl | rfl | rfl | rfl | rfl | rfl | rfl | rfl | rfl | rfl | rfl | rfl
  all_goals unfold opP opB
  all_goals simp only [Int.reduceEq, if_true, if_false, List.length_map]
  · have g := addP_good hs hab ha hb (lit_m1 hs)
    have y := add_lst hab hl hw ha hb hs hn (lit_m1 hs)
    exact ⟨⟨g.circ, g.grow, g.lits⟩, (y.weak (by omega)).cong fun c' v => by rw [ev_m1]⟩
  · have hab' : a.length = (negs b).length := by rw [negs_len]; exact hab
    have g := addP_good hs hab' ha hnl (lit_1 hs)
    have y := add_lst hab' hl hw ha hnl hs hn (lit_1 hs)
    exact ⟨⟨g.circ, g.grow, g.lits⟩, (y.weak (by omega)).cong fun c' v => by rw [ev_one, negs_bits hb]⟩
  · have g := mul_goodK hs hab ha hb a.length (Nat.le_refl _)
    have y := mul_bits hs hab ha hb (by omega) a.length (Nat.le_refl _)
    exact ⟨⟨g.circ, g.grow, g.lits⟩, y.weak (by omega)⟩
  · have g := div_goodK hab ha hb hs a.length (Nat.le_refl _)
    have y := div_bits hab ha hb hs (by omega) a.length (Nat.le_refl _)
    have y1 := y.cnt
    exact ⟨⟨g.circ, g.grow, g.clits⟩, ⟨by simp only; omega, y.full, fun c' hc hg v hv => congrArg Prod.snd (y.sem c' hc hg v hv)⟩⟩
  · have g := div_goodK hab ha hb hs a.length (Nat.le_refl _)
    have y := div_bits hab ha hb hs (by omega) a.length (Nat.le_refl _)
    have y1 := y.cnt
    exact ⟨⟨g.circ, g.grow, g.lits⟩, ⟨by simp only; omega, y.full, fun c' hc hg v hv => congrArg Prod.fst (y.sem c' hc hg v hv)⟩⟩
  · have g := seq_good hs (andF2_ok ha hb)
    have y := elem_bits hab hl hw ha hb hs hn (g := fun p q => p && q) (andF2_ok ha hb) (fun s' p hc hgr h1 h2 hcn => one3 (and_one h1 h2 (by omega)))
    exact ⟨⟨g.circ, g.grow, g.lits⟩, y.weak (by omega)⟩
  · have g := seq_good hs (orF2_ok ha hb)
    have y := elem_bits hab hl hw ha hb hs hn (g := fun p q => p || q) (orF2_ok ha hb) (fun s' p hc hgr h1 h2 hcn => one3 (or_one hc h1 h2 (by omega)))
    exact ⟨⟨g.circ, g.grow, g.lits⟩, y.weak (by omega)⟩
  · have g := seq_good hs (xorF2_ok ha hb)
    have y := elem_bits hab hl hw ha hb hs hn (g := fun p q => xor p q) (xorF2_ok ha hb) (fun s' p hc hgr h1 h2 hcn => xor_one hc h1 h2 hcn)
    exact ⟨⟨g.circ, g.grow, g.lits⟩, y.weak (by omega)⟩
  · have g := shP_good hab (by omega) ha hb (lit_m1 hs) hs hw (L := true)
    have y := shP_bits hab hl hw ha hb hs hn (L := true) (lit_m1 hs)
    exact ⟨⟨g.circ, g.grow, g.lits⟩, (y.weak (by omega)).cong fun c' v => by rw [ev_m1]⟩
  · have g := shP_good hab (by omega) ha hb (lit_m1 hs) hs hw (L := false)
    have y := shP_bits hab hl hw ha hb hs hn (L := false) (lit_m1 hs)
    exact ⟨⟨g.circ, g.grow, g.lits⟩, (y.weak (by omega)).cong fun c' v => by rw [ev_m1]⟩
  · have g := shP_good hab (by omega) ha hb hla hs hw (L := false)
    have y := shP_bits hab hl hw ha hb hs hn (L := false) hla
    exact ⟨⟨g.circ, g.grow, g.lits⟩, (y.weak (by omega)).cong fun c' v => by rw [getD_bits (by omega)]⟩
  · have hz : (a.zip b).length = a.length := by rw [List.length_zip]; omega
    have g := acc_good hs (lit_1 hs) (eqF_ok ha hb)
    have y := acc_one (n := 4) (g := fun p e c => c && !(xor (litV e p.1) (litV e p.2))) hs (lit_1 hs) (eqF_ok ha hb) (fun s' c p hc hgr hlc hp hcn => by
      have hp' := zip_lits ha hb (s' := s') hgr hp
      have x := xor_one hc hp'.1 hp'.2 (by omega)
      have gx := xor_good hc hp'.1 hp'.2
      have x1 := x.cnt
      have gn : litN (lines (xorP s' p.1 p.2).2.1) (-(xorP s' p.1 p.2).1) = true := by rw [litN_neg]; exact gx.lit
      have z := and_one (s := (xorP s' p.1 p.2).2) (a := c) (b := -(xorP s' p.1 p.2).1) (litN_mono hlc gx.grow.lines) gn (by omega)
      have gz := and_good gx.circ (a := c) (b := -(xorP s' p.1 p.2).1) (litN_mono hlc gx.grow.lines) gn
      have z1 := z.cnt
      refine ⟨by unfold eqF; omega, by unfold eqF; rw [z.full, x.full], fun c' hc' hg v hv => ?_⟩
      have e2 := z.sem c' hc' hg v hv
      have e1 := x.sem c' hc' (gz.grow.trans hg) v hv
      try simp only at e1
      try simp only at e2
      unfold eqF
      rw [e2, litV_neg (lit_pos gx.lit), e1]) (by rw [hz]; omega)
    have y1 := y.cnt
    rw [hz] at y1
    refine ⟨⟨g.circ, g.grow, fun x hx => by rw [List.mem_singleton.1 hx]; exact g.lit⟩, ⟨by unfold equalP; simp only; omega, y.full, fun c' hc hg v hv => ?_⟩⟩
    have e := y.sem c' hc hg v hv
    try simp only at e
    unfold equalP
    simp only [List.map_cons, List.map_nil]
    rw [e, ev_one, List.zip_map, List.foldl_map]
    rfl
  · have g := addP_good hs (by rw [negs_len]; exact hab) ha hnl (lit_1 hs)
    have y := less_lst hab hl hw ha hb hs hn
    exact ⟨⟨g.circ, g.grow, fun x hx => by rw [List.mem_singleton.1 hx, litN_neg]; exact g.lit⟩, y.weak (by omega)⟩
  · have fa := flipP_lits (by omega) ha
    have fb := flipP_lits (by omega) hb
    have g := addP_good hs (by rw [negs_len, flipP_len, flipP_len]; exact hab) fa (negs_lits fb) (lit_1 hs)
    have y := less_lst (a := flipP a) (b := flipP b) (by rw [flipP_len, flipP_len]; exact hab) (by rw [flipP_len]; exact hl) (by rw [flipP_len]; exact hw) fa fb hs hn
    exact ⟨⟨g.circ, g.grow, fun x hx => by rw [List.mem_singleton.1 hx, litN_neg]; exact g.lit⟩, (y.weak (by omega)).cong fun c' v => by rw [flip_bits (by omega) ha, flip_bits (by omega) hb]⟩
end
end Go.Proofs.Ytckeihpjfeonmaa
