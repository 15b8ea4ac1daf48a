/- The plain laws of circuits that grow: any operation with two numbers. No program in sight. -/
import Derived.Test.YtckeihpjfeonmaaPOps2
namespace Go.Proofs.Ytckeihpjfeonmaa
open Go.GL
def andF2 : BS → Int × Int → Int × BS := fun s p => andP s p.1 p.2
def orF2 : BS → Int × Int → Int × BS := fun s p => orP s p.1 p.2
def xorF2 : BS → Int × Int → Int × BS := fun s p => xorP s p.1 p.2
def eqF : BS → Int → Int × Int → Int × BS := fun s c p => andP (xorP s p.1 p.2).2 c (-(xorP s p.1 p.2).1)
def flipP (l : List Int) : List Int := l.set (l.length - 1) (-(l.getD (l.length - 1) 0))
theorem flipP_len (l : List Int) : (flipP l).length = l.length := by simp [flipP]
theorem flipP_lits {n : Int} {l : List Int} (hl : 1 ≤ l.length) (h : ∀ x ∈ l, litN n x = true) : ∀ x ∈ flipP l, litN n x = true := by
  intro x hx
  rcases List.mem_or_eq_of_mem_set hx with hx | rfl
  · exact h x hx
  · rw [litN_neg]; exact h _ (getD_mem (by omega))
def lessP (s : BS) (a b : List Int) : LS := let r := addP s a (negs b) 1; ([-r.2.1], r.2.2)
def equalP (s : BS) (a b : List Int) : LS := let r := accP eqF s 1 (a.zip b); ([r.1], r.2)
def opP (s : BS) (op : Int) (a b : List Int) : LS :=
  if op = 3 then ((addP s a b (-1)).1, (addP s a b (-1)).2.2)
  else if op = 4 then ((addP s a (negs b) 1).1, (addP s a (negs b) 1).2.2)
  else if op = 5 then mulK s a b a.length
  else if op = 6 then ((divK s a b a.length).2.1, (divK s a b a.length).2.2)
  else if op = 7 then ((divK s a b a.length).1, (divK s a b a.length).2.2)
  else if op = 8 then seqP andF2 s (a.zip b)
  else if op = 9 then seqP orF2 s (a.zip b)
  else if op = 10 then seqP xorF2 s (a.zip b)
  else if op = 11 then shP s a b true (-1)
  else if op = 12 then shP s a b false (-1)
  else if op = 13 then shP s a b false (a.getD (a.length - 1) 0)
  else if op = 14 then equalP s a b
  else if op = 15 then lessP s a b
  else lessP s (flipP a) (flipP b)
theorem op_cases {op : Int} (h : 3 ≤ op ∧ op ≤ 16) : op = 3 ∨ op = 4 ∨ op = 5 ∨ op = 6 ∨ op = 7 ∨ op = 8 ∨ op = 9 ∨ op = 10 ∨ op = 11 ∨ op = 12 ∨ op = 13 ∨ op = 14 ∨ op = 15 ∨ op = 16 := by omega
theorem getLast_eq {l : List Int} (h : 1 ≤ l.length) (h2 : l.length ≤ 1000) : get? l (w64 (len l - 1)) = some (l.getD (l.length - 1) 0) := by
  rw [len_nat, w64_id (by omega) (by omega), show (l.length : Int) - 1 = ((l.length - 1 : Nat) : Int) by omega, get?_nat, getD_get (by omega)]
theorem setLast_eq {l : List Int} {x : Int} (h : 1 ≤ l.length) (h2 : l.length ≤ 1000) : set? l (w64 (len l - 1)) x = some (l.set (l.length - 1) x) := by
  rw [len_nat, w64_id (by omega) (by omega), show (l.length : Int) - 1 = ((l.length - 1 : Nat) : Int) by omega, set?_nat (by omega)]
theorem impl_flip {n : Int} {l : List Int} (hn : n ≤ 391) (h : 1 ≤ l.length) (h2 : l.length ≤ 1000) (hl : ∀ x ∈ l, litN n x = true) : impl_signTurned l = some (flipP l) := by
  unfold impl_signTurned slices_Clone___int_int_
  rw [app_nil h2]
  simp only [Option.bind_some]
  rw [getLast_eq h h2]
  simp only [Option.bind_some]
  rw [w64_neg (hl _ (getD_mem (by omega))) hn, setLast_eq h h2]
  rfl
section
variable {s : BS} {a b : List Int} (ha : ∀ x ∈ a, litN (lines s.1) x = true) (hb : ∀ x ∈ b, litN (lines s.1) x = true)
include ha hb
theorem zip_lits {s' : BS} (hg : Grow s.1 s'.1) {p : Int × Int} (hp : p ∈ a.zip b) : litN (lines s'.1) p.1 = true ∧ litN (lines s'.1) p.2 = true := by
  have := List.of_mem_zip hp
  exact ⟨litN_mono (ha _ this.1) hg.lines, litN_mono (hb _ this.2) hg.lines⟩
theorem andF2_ok : FOk andF2 s (a.zip b) := fun s' p hc hg hp => have h := zip_lits ha hb (s' := s') hg hp; and_good hc h.1 h.2
theorem orF2_ok : FOk orF2 s (a.zip b) := fun s' p hc hg hp => have h := zip_lits ha hb (s' := s') hg hp; or_good hc h.1 h.2
theorem xorF2_ok : FOk xorF2 s (a.zip b) := fun s' p hc hg hp => have h := zip_lits ha hb (s' := s') hg hp; xor_good hc h.1 h.2
theorem eqF_ok : AOk eqF s (a.zip b) := fun s' c p hc hg hl hp => by
  have h := zip_lits ha hb (s' := s') hg hp
  have g1 := xor_good hc h.1 h.2
  have g2 := and_good g1.circ (a := c) (b := -(xorP s' p.1 p.2).1) (litN_mono hl g1.grow.lines) (by rw [litN_neg]; exact g1.lit)
  exact ⟨g2.circ, g1.grow.trans g2.grow, g2.lit⟩
end
section
variable {s : BS} (hs : CircP s.1) {a b : List Int} (hab : a.length = b.length) (hl : a.length ≤ 15) (ha : ∀ x ∈ a, litN (lines s.1) x = true) (hb : ∀ x ∈ b, litN (lines s.1) x = true)
include hs hab hl
theorem spec_elem {f : BS → Int × Int → Int × BS} (hf : FOk f s (a.zip b)) {G : D.l04Net → Int → Int → Option (Int × D.l04Net)}
    (hG : ∀ (s' : BS) (p : Int × Int), CircP s'.1 → Grow s.1 s'.1 → p ∈ a.zip b → G (net s') p.1 p.2 = some ((f s' p).1, net (f s' p).2)) :
    iterN (fun (s1 : Int × (List Int) × Int × Bool × (List D.Gate)) =>
      if (decide (s1.1 < (len a))) then
        (get? a s1.1).bind fun x7 =>
        (get? b s1.1).bind fun x8 =>
        (G (D.l04Net.mk (D.Circuit.mk s1.2.2.1 s1.2.2.2.2) s1.2.2.2.1) x7 x8).bind fun x9 =>
        (app? s1.2.1 ([x9.1] : List Int)).bind fun x10 =>
        some (.inl ((w64 (s1.1 + 1)), x10, x9.2.c.Inputs, x9.2.full, x9.2.c.Gates))
      else
        some (.inr (s1.2.1, s1.2.2.1, s1.2.2.2.1, s1.2.2.2.2))) fuel (0, ([] : List Int), s.1.Inputs, s.2, s.1.Gates) = some ((seqP f s (a.zip b)).1, (seqP f s (a.zip b)).2.1.Inputs, (seqP f s (a.zip b)).2.2, (seqP f s (a.zip b)).2.1.Gates) := by
  have hzl : (a.zip b).length = a.length := by rw [List.length_zip]; omega
  refine spec_seq hs (by rw [hzl]; omega) hf (fun j out s' x hx hc hgr hout => ?_) (fun out s' => ?_)
  · have hj : j < a.length := by
      have := (List.getElem?_eq_some_iff.1 hx).1
      rw [hzl] at this; exact this
    have hz := zip_mem hx
    simp only
    rw [if_pos (by rw [len_nat]; simp; omega), get?_nat, get?_nat, hz.1, hz.2]
    simp only [Option.bind_some]
    have e := hG s' x hc hgr (List.mem_of_getElem? hx)
    have e' : G (D.l04Net.mk (D.Circuit.mk s'.1.Inputs s'.1.Gates) s'.2) x.1 x.2 = _ := e
    rw [e']
    simp only [Option.bind_some]
    rw [app_ok (by simp; omega)]
    simp only [Option.bind_some]
    rw [w64_id (by omega) (by omega)]
    rfl
  · simp only
    rw [if_neg (by rw [len_nat, hzl]; simp)]
theorem impl_elem {f : BS → Int × Int → Int × BS} (hf : FOk f s (a.zip b)) {G : D.builder → Int → Int → Option (Int × D.builder)}
    (hG : ∀ (s' : BS) (p : Int × Int), CircP s'.1 → Grow s.1 s'.1 → p ∈ a.zip b → ∀ m, RelB m s' → ∃ m', G m p.1 p.2 = some ((f s' p).1, m') ∧ RelB m' (f s' p).2) {m : D.builder} (hm : RelB m s) :
    ∃ m', iterN (fun (s1 : Int × (List Int) × Int × Bool × (List D.Gate) × (List (D.Gate × Int))) =>
      if (decide (s1.1 < (len a))) then
        (get? a s1.1).bind fun x14 =>
        (get? b s1.1).bind fun x15 =>
        (G (D.builder.mk (D.Circuit.mk s1.2.2.1 s1.2.2.2.2.1) s1.2.2.2.2.2 s1.2.2.2.1) x14 x15).bind fun x16 =>
        (set? s1.2.1 s1.1 x16.1).bind fun x17 =>
        some (.inl ((w64 (s1.1 + 1)), x17, x16.2.c.Inputs, x16.2.full, x16.2.c.Gates, x16.2.line))
      else
        some (.inr (s1.2.1, s1.2.2.1, s1.2.2.2.1, s1.2.2.2.2.1, s1.2.2.2.2.2))) fuel (0, List.replicate a.length (0 : Int), m.c.Inputs, m.full, m.c.Gates, m.line) = some ((seqP f s (a.zip b)).1, m'.c.Inputs, m'.full, m'.c.Gates, m'.line) ∧ RelB m' (seqP f s (a.zip b)).2 := by
  have hzl : (a.zip b).length = a.length := by rw [List.length_zip]; omega
  refine impl_seq hs (by rw [hzl]; omega) hf (by rw [hzl]; simp) (fun j L mm s' x hx hc hgr hrr hLl hpre => ?_) (fun L mm => ?_) hm
  · have hj : j < a.length := by
      have := (List.getElem?_eq_some_iff.1 hx).1
      rw [hzl] at this; exact this
    rw [hzl] at hLl
    have hz := zip_mem hx
    obtain ⟨m4, e4, r4⟩ := hG s' x hc hgr (List.mem_of_getElem? hx) mm hrr
    have e4' : G (D.builder.mk (D.Circuit.mk mm.c.Inputs mm.c.Gates) mm.line mm.full) x.1 x.2 = _ := e4
    refine ⟨m4, ?_, r4⟩
    simp only
    rw [if_pos (by rw [len_nat]; simp; omega), get?_nat, get?_nat, hz.1, hz.2]
    simp only [Option.bind_some]
    rw [e4']
    simp only [Option.bind_some]
    rw [set?_nat (by omega)]
    simp only [Option.bind_some]
    rw [w64_id (by omega) (by omega)]
    rfl
  · simp only
    rw [if_neg (by rw [len_nat, hzl]; simp)]
include ha hb
theorem impl_eq {m : D.builder} (hm : RelB m s) : ∃ m', impl_builder_equal fuel m a b = some ((accP eqF s 1 (a.zip b)).1, m') ∧ RelB m' (accP eqF s 1 (a.zip b)).2 := by
  have hzl : (a.zip b).length = a.length := by rw [List.length_zip]; omega
  unfold impl_builder_equal
  obtain ⟨m2, h2, r2⟩ := impl_accG (f := eqF) (l := a.zip b) (s := s) (c := 1) (B := fun (s1 : Int × Int × Int × Bool × (List D.Gate) × (List (D.Gate × Int))) =>
    if (decide (s1.2.1 < (len a))) then
      (get? a s1.2.1).bind fun x1 =>
      (get? b s1.2.1).bind fun x2 =>
      (impl_builder_xor (D.builder.mk (D.Circuit.mk s1.2.2.1 s1.2.2.2.2.1) s1.2.2.2.2.2 s1.2.2.2.1) x1 x2).bind fun x3 =>
      (impl_builder_and x3.2 s1.1 (w64 (0 - x3.1))).bind fun x4 =>
      some (.inl (x4.1, (w64 (s1.2.1 + 1)), x4.2.c.Inputs, x4.2.full, x4.2.c.Gates, x4.2.line))
    else
      some (.inr (s1.1, s1.2.2.1, s1.2.2.2.1, s1.2.2.2.2.1, s1.2.2.2.2.2))) (fun j c m => (c, (j : Int), m.c.Inputs, m.full, m.c.Gates, m.line)) (fun c m => (c, m.c.Inputs, m.full, m.c.Gates, m.line)) hs (lit_1 hs) (by rw [hzl]; omega) (eqF_ok ha hb) (fun j c mm s' x hx hc hgr hrr hlc => by
      have hj : j < a.length := by
        have := (List.getElem?_eq_some_iff.1 hx).1
        rw [hzl] at this; exact this
      have hz := zip_mem hx
      have hxl := zip_lits ha hb (s' := s') hgr (List.mem_of_getElem? hx)
      have g1 := xor_good hc hxl.1 hxl.2
      obtain ⟨m3, e3, r3⟩ := impl_xor hc hxl.1 hxl.2 mm hrr
      obtain ⟨m4, e4, r4⟩ := impl_and r3 g1.circ (a := c) (b := -(xorP s' x.1 x.2).1) (litN_mono hlc g1.grow.lines) (by rw [litN_neg]; exact g1.lit)
      refine ⟨m4, ?_, r4⟩
      simp only
      rw [if_pos (by rw [len_nat]; simp; omega), get?_nat, get?_nat, hz.1, hz.2]
      simp only [Option.bind_some]
      have e3' : impl_builder_xor (D.builder.mk (D.Circuit.mk mm.c.Inputs mm.c.Gates) mm.line mm.full) x.1 x.2 = _ := e3
      rw [e3']
      simp only [Option.bind_some]
      rw [w64_neg g1.lit g1.circ.lines1, e4]
      simp only [Option.bind_some]
      rw [w64_id (by omega) (by omega)]
      rfl) (fun c mm => by
      simp only
      rw [if_neg (by rw [len_nat, hzl]; simp)]) hm
  simp only [Int.natCast_zero] at h2
  rw [h2]
  exact ⟨m2, rfl, r2⟩
theorem impl_less {m : D.builder} (hm : RelB m s) : ∃ m', impl_builder_less fuel m a b = some (-(addP s a (negs b) 1).2.1, m') ∧ RelB m' (addP s a (negs b) 1).2.2 := by
  have hnl := negs_lits hb
  have ga := addP_good hs (by rw [negs_len]; exact hab) ha hnl (lit_1 hs)
  obtain ⟨m2, h2, r2⟩ := impl_add hs hm (by omega) (by rw [negs_len]; exact hab) ha hnl (lit_1 hs)
  unfold impl_builder_less
  rw [impl_opp hs.lines1 (by omega) hb]
  simp only [Option.bind_some]
  rw [h2]
  simp only [Option.bind_some]
  rw [w64_neg ga.lit ga.circ.lines1]
  exact ⟨m2, rfl, r2⟩
end
end Go.Proofs.Ytckeihpjfeonmaa
