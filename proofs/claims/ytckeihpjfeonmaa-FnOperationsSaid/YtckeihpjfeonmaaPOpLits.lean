/- The plain law of this claim. No program in sight. -/
import Derived.Test.YtckeihpjfeonmaaPOps3
namespace Go.Proofs.Ytckeihpjfeonmaa
open Go.GL
section
variable {s : BS} (hs : CircP s.1) {op : Int} {a b : List Int} (ho : 3 ≤ op ∧ op ≤ 16) (hab : a.length = b.length) (hl : a.length ≤ 15) (hw : 1 ≤ a.length) (ha : ∀ x ∈ a, litN (lines s.1) x = true) (hb : ∀ x ∈ b, litN (lines s.1) x = true)
include hs ho hab hl hw ha hb
theorem op_good : CircP (opP s op a b).2.1 ∧ (opP s op a b).1.length ≤ 16 := by
  have hnl := negs_lits hb
  have hzl : (a.zip b).length = a.length := by rw [List.length_zip]; omega
  have hla : litN (lines s.1) (a.getD (a.length - 1) 0) = true := ha _ (getD_mem (by omega))
  rcases op_cases ho with rfl | rfl | rfl | rfl | rfl | rfl | rfl | rfl | rfl | rfl | rfl | rfl | rfl | rfl
  · have g := addP_good hs hab ha hb (lit_m1 hs)
    exact ⟨g.circ, by have := g.len; simp only [opP, Int.reduceEq, if_true]; omega⟩
  · have g := addP_good hs (by rw [negs_len]; exact hab) ha hnl (lit_1 hs)
    exact ⟨g.circ, by have := g.len; simp only [opP, Int.reduceEq, if_true, if_false]; omega⟩
  · have g := mul_goodK hs hab ha hb a.length (Nat.le_refl _)
    exact ⟨g.circ, by have := g.len; simp only [opP, Int.reduceEq, if_true, if_false]; omega⟩
  · have g := div_goodK hab ha hb hs a.length (Nat.le_refl _)
    exact ⟨g.circ, by have := g.clen; simp only [opP, Int.reduceEq, if_true, if_false]; omega⟩
  · have g := div_goodK hab ha hb hs a.length (Nat.le_refl _)
    exact ⟨g.circ, by have := g.len; simp only [opP, Int.reduceEq, if_true, if_false]; omega⟩
  · have g := seq_good hs (andF2_ok ha hb)
    exact ⟨g.circ, by have := g.len; simp only [opP, Int.reduceEq, if_true, if_false]; omega⟩
  · have g := seq_good hs (orF2_ok ha hb)
    exact ⟨g.circ, by have := g.len; simp only [opP, Int.reduceEq, if_true, if_false]; omega⟩
  · have g := seq_good hs (xorF2_ok ha hb)
    exact ⟨g.circ, by have := g.len; simp only [opP, Int.reduceEq, if_true, if_false]; omega⟩
  · have g := shP_good hab hl ha hb (lit_m1 hs) hs hw (L := true)
    exact ⟨g.circ, by have := g.len; simp only [opP, Int.reduceEq, if_true, if_false]; omega⟩
  · have g := shP_good hab hl ha hb (lit_m1 hs) hs hw (L := false)
    exact ⟨g.circ, by have := g.len; simp only [opP, Int.reduceEq, if_true, if_false]; omega⟩
  · have g := shP_good hab hl ha hb hla hs hw (L := false)
    exact ⟨g.circ, by have := g.len; simp only [opP, Int.reduceEq, if_true, if_false]; omega⟩
  · have g := acc_good hs (lit_1 hs) (eqF_ok ha hb)
    exact ⟨g.circ, by simp [opP, equalP]⟩
  · have g := addP_good hs (by rw [negs_len]; exact hab) ha hnl (lit_1 hs)
    exact ⟨g.circ, by simp [opP, lessP]⟩
  · have g := addP_good hs (by rw [negs_len, flipP_len, flipP_len]; exact hab) (flipP_lits (by omega) ha) (negs_lits (flipP_lits (by omega) hb)) (lit_1 hs)
    exact ⟨g.circ, by simp [opP, lessP]⟩
theorem impl_op {m : D.builder} (hm : RelB m s) : ∃ m', impl_builder_operate fuel m op a b = some ((opP s op a b).1, m') ∧ RelB m' (opP s op a b).2 := by
  have hnl := negs_lits hb
  have hla : litN (lines s.1) (a.getD (a.length - 1) 0) = true := ha _ (getD_mem (by omega))
  rcases op_cases ho with rfl | rfl | rfl | rfl | rfl | rfl | rfl | rfl | rfl | rfl | rfl | rfl | rfl | rfl
  all_goals unfold impl_builder_operate opP
  all_goals simp only [Int.reduceBEq, Int.reduceEq, Bool.or_self, Bool.or_true, Bool.true_or, Bool.false_eq_true, if_true, if_false]
  · obtain ⟨m1, h1, r1⟩ := impl_add hs hm (by omega) hab ha hb (lit_m1 hs)
    rw [h1]; exact ⟨m1, rfl, r1⟩
  · rw [impl_opp hs.lines1 (by omega) hb]
    simp only [Option.bind_some]
    obtain ⟨m1, h1, r1⟩ := impl_add hs hm (by omega) (by rw [negs_len]; exact hab) ha hnl (lit_1 hs)
    rw [h1]; exact ⟨m1, rfl, r1⟩
  · obtain ⟨m1, h1, r1⟩ := impl_mul hs hab (by omega) ha hb hm
    rw [h1]; exact ⟨m1, rfl, r1⟩
  · obtain ⟨m1, h1, r1⟩ := impl_div hs hab (by omega) ha hb hm
    rw [h1]; exact ⟨m1, rfl, r1⟩
  · obtain ⟨m1, h1, r1⟩ := impl_div hs hab (by omega) ha hb hm
    rw [h1]; exact ⟨m1, rfl, r1⟩
  · obtain ⟨m1, h1, r1⟩ := impl_elem hs hab hl (andF2_ok ha hb) (G := impl_builder_and) (fun s' p hc hg hp m hm => have h := zip_lits ha hb (s' := s') hg hp; impl_and hm hc h.1 h.2) hm
    rw [mk?_len (by unfold room; omega)]
    simp only [Option.bind_some]
    rw [h1]; exact ⟨m1, rfl, r1⟩
  · obtain ⟨m1, h1, r1⟩ := impl_elem hs hab hl (orF2_ok ha hb) (G := impl_builder_or) (fun s' p hc hg hp m hm => have h := zip_lits ha hb (s' := s') hg hp; impl_or hc h.1 h.2 m hm) hm
    rw [mk?_len (by unfold room; omega)]
    simp only [Option.bind_some]
    rw [h1]; exact ⟨m1, rfl, r1⟩
  · obtain ⟨m1, h1, r1⟩ := impl_elem hs hab hl (xorF2_ok ha hb) (G := impl_builder_xor) (fun s' p hc hg hp m hm => have h := zip_lits ha hb (s' := s') hg hp; impl_xor hc h.1 h.2 m hm) hm
    rw [mk?_len (by unfold room; omega)]
    simp only [Option.bind_some]
    rw [h1]; exact ⟨m1, rfl, r1⟩
  · obtain ⟨m1, h1, r1⟩ := impl_shiftB hs hab hl hw ha hb (lit_m1 hs) (op := 11) hm
    unfold impl_builder_shift
    rw [if_neg (by decide), h1]; exact ⟨m1, rfl, r1⟩
  · obtain ⟨m1, h1, r1⟩ := impl_shiftB hs hab hl hw ha hb (lit_m1 hs) (op := 12) hm
    unfold impl_builder_shift
    rw [if_neg (by decide), h1]; exact ⟨m1, rfl, r1⟩
  · obtain ⟨m1, h1, r1⟩ := impl_shiftB hs hab hl hw ha hb hla (op := 13) hm
    unfold impl_builder_shift
    rw [if_pos (by decide), getLast_eq hw (by omega)]
    simp only [Option.bind_some]
    rw [h1]; exact ⟨m1, rfl, r1⟩
  · obtain ⟨m1, h1, r1⟩ := impl_eq hs hab hl ha hb hm
    rw [h1]; exact ⟨m1, rfl, r1⟩
  · obtain ⟨m1, h1, r1⟩ := impl_less hs hab hl ha hb hm
    rw [h1]; exact ⟨m1, rfl, r1⟩
  · rw [impl_flip hs.lines1 hw (by omega) ha, impl_flip hs.lines1 (by omega) (by omega) hb]
    simp only [Option.bind_some]
    obtain ⟨m1, h1, r1⟩ := impl_less hs (by rw [flipP_len, flipP_len]; exact hab) (by rw [flipP_len]; exact hl) (flipP_lits (by omega) ha) (flipP_lits (by omega) hb) hm
    rw [h1]; exact ⟨m1, rfl, r1⟩
end
def opLitsP (c : D.Circuit) (op : Int) (a b : List Int) : D.Circuit × List Int × Bool :=
  if circB2 c && decide (a.length = b.length) && decide (1 ≤ a.length ∧ a.length ≤ 15) && a.all (litN (lines c)) && b.all (litN (lines c)) && decide (3 ≤ op ∧ op ≤ 16) then
    (if (opP (c, false) op a b).2.2 then (⟨0, []⟩, [], false) else ((opP (c, false) op a b).2.1, (opP (c, false) op a b).1, true))
  else (⟨0, []⟩, [], false)
theorem opLitsP_len {c : D.Circuit} {op : Int} {a b : List Int} : (opLitsP c op a b).1.Gates.length ≤ 1048576 ∧ (opLitsP c op a b).2.1.length ≤ 1048576 := by
  unfold opLitsP
  split
  · rename_i hh
    simp only [Bool.and_eq_true, List.all_eq_true, decide_eq_true_eq] at hh
    obtain ⟨⟨⟨⟨⟨h1, h2⟩, h3⟩, h4⟩, h5⟩, h6⟩ := hh
    have g := op_good (s := (c, false)) (circP_iff.1 h1) h6 h2 h3.2 h3.1 h4 h5
    split
    · simp
    · have := g.1.len
      have := g.2
      simp only; omega
  · simp
theorem impl_OpLits_eq {c : D.Circuit} {op : Int} {a b : List Int} (hc : fit_Circuit c) (hg : c.Gates.length ≤ 1048576) (ha : a.length ≤ 1048576) (hb : b.length ≤ 1048576) : impl_OpLits fuel c op a b = some (opLitsP c op a b) := by
  unfold impl_OpLits opLitsP
  rw [impl_circ hc hg]
  simp only [Option.bind_some]
  cases h1 : circB2 c with
  | false => simp
  | true =>
    have hp := circP_iff.1 h1
    have e6 : impl_isTwoWords op = some (decide (3 ≤ op ∧ op ≤ 16)) := by
      unfold impl_isTwoWords
      rw [← Bool.decide_and]
    simp only [Bool.not_true, Bool.false_eq_true, if_false, e6, Option.bind_some, Bool.false_or]
    by_cases h6 : 3 ≤ op ∧ op ≤ 16
    · by_cases h2 : a.length = b.length
      · by_cases h3 : 1 ≤ a.length ∧ a.length ≤ 15
        · have e2 : (len a != len b) = false := by simp [len_nat, h2]
          have e3 : decide (len a < 1) = false := decide_eq_false (by rw [len_nat]; omega)
          have e4 : decide (len a > 15) = false := decide_eq_false (by rw [len_nat]; omega)
          have hl0 := hp.lines0
          have hl1 := hp.lines1
          simp only [h6, and_self, decide_true, Bool.not_true, e2, e3, e4, Bool.or_self, Bool.false_eq_true, if_false, impl_lines hp, Option.bind_some, impl_lits (l := a) (n := lines c) (by omega) (by omega) ha]
          have hlb := impl_lits (l := b) (n := lines c) (by omega) (by omega) hb
          simp only [h2, decide_true, Bool.true_and, Bool.and_true]
          rw [← h2]
          simp only [h3, and_self, decide_true, Bool.true_and]
          cases h4 : a.all (litN (lines c)) with
          | false => simp
          | true =>
            cases h5 : b.all (litN (lines c)) with
            | false => rw [h5] at hlb; simp [impl_lines hp, hlb]
            | true =>
              obtain ⟨m, hm, hr⟩ := impl_new hp
              obtain ⟨m', hm', hr'⟩ := impl_op (s := (c, false)) hp h6 h2 h3.2 h3.1 (by simpa using h4) (by simpa using h5) hr
              rw [hm]
              rw [h5] at hlb
              simp only [Bool.not_true, Bool.false_eq_true, if_false, Option.bind_some, impl_lines hp, hlb, Bool.or_self, hm', Bool.and_self, if_true]
              rw [hr'.full, hr'.c]
              cases (opP (c, false) op a b).2.2 <;> rfl
        · have e3 : (decide (len a < 1) || decide (len a > 15)) = true := by
            rw [Bool.or_eq_true, decide_eq_true_eq, decide_eq_true_eq, len_nat]; omega
          have e3' : ((((!decide (3 ≤ op ∧ op ≤ 16)) || (len a != len b)) || decide (len a < 1)) || decide (len a > 15)) = true := by
            rw [Bool.or_assoc, e3, Bool.or_true]
          rw [if_pos e3']
          simp [h3]
      · have e2 : (len a != len b) = true := by simp [len_nat]; omega
        simp [e2, h2]
    · simp [h6]
end Go.Proofs.Ytckeihpjfeonmaa
