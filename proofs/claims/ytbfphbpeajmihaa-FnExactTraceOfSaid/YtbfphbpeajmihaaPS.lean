/- The plain laws of the machine's steps. No program in sight. -/
import Derived.Test.YtbfphbpeajmihaaPlain
namespace Go.Proofs.Ytbfphbpeajmihaa
open Go.GL

/-! words -/
theorem WordOf_eq (w v : Int) : ∃ b, spec_WordOf w v = some b ∧ impl_WordOf w v = some b := by
  unfold spec_WordOf impl_WordOf spec_l01In impl_isWidth
  by_cases h : 1 ≤ w ∧ w ≤ 16
  · obtain ⟨m, h1, h2, h3⟩ := shl_pow h.1 h.2
    exact ⟨band v (w64 (m - 1)), by simp [h.1, h.2, h1], by simp [h.1, h.2, h2]⟩
  · refine ⟨-1, ?_, ?_⟩
    · by_cases a : 1 ≤ w
      · have b : ¬ w ≤ 16 := fun b => h ⟨a, b⟩
        simp [a, b]
      · simp [a]
    · by_cases a : 1 ≤ w
      · have b : ¬ w ≤ 16 := fun b => h ⟨a, b⟩
        simp [a, b]
      · simp [a]
def wordOf (w v : Int) : Int := (spec_WordOf w v).getD 0
theorem spec_wordOf (w v : Int) : spec_WordOf w v = some (wordOf w v) := by
  obtain ⟨b, h, -⟩ := WordOf_eq w v
  simp [wordOf, h]
theorem impl_wordOf (w v : Int) : impl_WordOf w v = some (wordOf w v) := by
  obtain ⟨b, h, h'⟩ := WordOf_eq w v
  simp [wordOf, h, h']
/-- 2 to the w, for the widths of machines -/
theorem pow_lt {w m : Int} (h1 : 2 ≤ w) (h2 : w ≤ 8) (h : shl? 1 w = some m) : 4 ≤ m ∧ m ≤ 256 := by
  have : w = 2 ∨ w = 3 ∨ w = 4 ∨ w = 5 ∨ w = 6 ∨ w = 7 ∨ w = 8 := by omega
  rcases this with rfl | rfl | rfl | rfl | rfl | rfl | rfl <;> (have e := h.symm.trans (show shl? 1 _ = some _ from rfl); simp only [Option.some.injEq] at e; subst e; decide)
theorem word_iff {w : Int} (h1 : 2 ≤ w) (h2 : w ≤ 8) : ∃ m, shl? 1 w = some m ∧ shl? 1 (IntKind.u64.wrap w) = some m ∧ 4 ≤ m ∧ m ≤ 256 ∧ ∀ v, (wordB w v = true ↔ 0 ≤ v ∧ v < m) := by
  obtain ⟨m, a1, a2, a3⟩ := shl_pow (w := w) (by omega) (by omega)
  obtain ⟨b1, b2⟩ := pow_lt h1 h2 a1
  refine ⟨m, a1, a2, b1, b2, fun v => ?_⟩
  have hs := spec_word w v
  unfold spec_WordOk spec_l01In at hs
  have e : (decide (w ≥ 1) && decide (w ≤ 16)) = true := by simp; omega
  simp only [e, Option.bind_some] at hs
  by_cases hv : 0 ≤ v
  · simp only [hv, decide_true, if_true, a1, Option.bind_some] at hs
    rw [a3] at hs
    simp at hs
    rw [← hs]; simp [hv]; omega
  · simp [hv, a1] at hs
    rw [hs]; simp; omega

theorem SignedOf_eq {w v : Int} (h1 : 2 ≤ w) (h2 : w ≤ 8) : ∃ r, spec_SignedOf w v = some r ∧ impl_SignedOf w v = some r := by
  obtain ⟨m, a1, a2, a3, a4, hm⟩ := word_iff h1 h2
  unfold spec_SignedOf impl_SignedOf
  rw [spec_word, impl_word]
  simp only [Option.bind_some]
  cases hb : wordB w v with
  | false => exact ⟨0, rfl, rfl⟩
  | true =>
    obtain ⟨c1, c2⟩ := (hm v).1 hb
    have hsh : ∃ q, shr? v (w64 (w - 1)) = some q ∧ shr? v (IntKind.u64.wrap (w64 (w - 1))) = some q ∧ (q = 0 ∨ q = 1) := by
      have : w = 2 ∨ w = 3 ∨ w = 4 ∨ w = 5 ∨ w = 6 ∨ w = 7 ∨ w = 8 := by omega
      rcases this with rfl | rfl | rfl | rfl | rfl | rfl | rfl
      · obtain rfl : m = 4 := Option.some.inj (a1.symm.trans (show shl? 1 2 = some 4 by decide))
        exact ⟨v.fdiv 2, rfl, rfl, by rw [Int.fdiv_eq_ediv_of_nonneg _ (by omega)]; omega⟩
      · obtain rfl : m = 8 := Option.some.inj (a1.symm.trans (show shl? 1 3 = some 8 by decide))
        exact ⟨v.fdiv 4, rfl, rfl, by rw [Int.fdiv_eq_ediv_of_nonneg _ (by omega)]; omega⟩
      · obtain rfl : m = 16 := Option.some.inj (a1.symm.trans (show shl? 1 4 = some 16 by decide))
        exact ⟨v.fdiv 8, rfl, rfl, by rw [Int.fdiv_eq_ediv_of_nonneg _ (by omega)]; omega⟩
      · obtain rfl : m = 32 := Option.some.inj (a1.symm.trans (show shl? 1 5 = some 32 by decide))
        exact ⟨v.fdiv 16, rfl, rfl, by rw [Int.fdiv_eq_ediv_of_nonneg _ (by omega)]; omega⟩
      · obtain rfl : m = 64 := Option.some.inj (a1.symm.trans (show shl? 1 6 = some 64 by decide))
        exact ⟨v.fdiv 32, rfl, rfl, by rw [Int.fdiv_eq_ediv_of_nonneg _ (by omega)]; omega⟩
      · obtain rfl : m = 128 := Option.some.inj (a1.symm.trans (show shl? 1 7 = some 128 by decide))
        exact ⟨v.fdiv 64, rfl, rfl, by rw [Int.fdiv_eq_ediv_of_nonneg _ (by omega)]; omega⟩
      · obtain rfl : m = 256 := Option.some.inj (a1.symm.trans (show shl? 1 8 = some 256 by decide))
        exact ⟨v.fdiv 128, rfl, rfl, by rw [Int.fdiv_eq_ediv_of_nonneg _ (by omega)]; omega⟩
    obtain ⟨q, q1, q2, q3⟩ := hsh
    simp only [Bool.not_true, Bool.false_eq_true, if_false, q1, q2, Option.bind_some, a1, a2]
    rcases q3 with rfl | rfl
    · exact ⟨v, by simp, by simp⟩
    · exact ⟨w64 (v - m), by simp, by simp⟩
def signedOf (w v : Int) : Int := (spec_SignedOf w v).getD 0
theorem spec_signed {w v : Int} (h1 : 2 ≤ w) (h2 : w ≤ 8) : spec_SignedOf w v = some (signedOf w v) := by
  obtain ⟨b, h, -⟩ := SignedOf_eq (v := v) h1 h2
  simp [signedOf, h]
theorem impl_signed {w v : Int} (h1 : 2 ≤ w) (h2 : w ≤ 8) : impl_SignedOf w v = some (signedOf w v) := by
  obtain ⟨b, h, h'⟩ := SignedOf_eq (v := v) h1 h2
  simp [signedOf, h, h']
theorem u64_id {x : Int} (h1 : 0 ≤ x) (h2 : x ≤ 1000) : IntKind.u64.wrap x = x := by
  have : IntKind.u64.wrap x = x % 18446744073709551616 := by simp [IntKind.wrap, IntKind.bits, IntKind.signed]
  rw [this]; omega
theorem truth_eq (b : Bool) : spec_l01Truth b = some (if b then 1 else 0) ∧ impl_boolWord b = some (if b then 1 else 0) := by
  cases b <;> exact ⟨rfl, rfl⟩
theorem ApplyBinary_eq {w a b op : Int} (h1 : 2 ≤ w) (h2 : w ≤ 8) : ∃ r, spec_ApplyBinary op w a b = some r ∧ impl_ApplyBinary op w a b = some r := by
  obtain ⟨m, a1, a2, a3, a4, hm⟩ := word_iff h1 h2
  unfold spec_ApplyBinary impl_ApplyBinary
  simp only [spec_word, impl_word, spec_wordOf, impl_wordOf, Option.bind_some]
  cases ha : wordB w a with
  | false => exact ⟨-1, rfl, rfl⟩
  | true =>
    simp only [Bool.not_true, Bool.false_eq_true, if_false, Option.bind_some, Bool.false_or]
    cases hb : wordB w b with
    | false => exact ⟨-1, rfl, rfl⟩
    | true =>
      obtain ⟨c1, c2⟩ := (hm a).1 ha
      obtain ⟨d1, d2⟩ := (hm b).1 hb
      have hquo : b ≠ 0 → quo? a b = some (w64 (a.tdiv b)) := fun h => by unfold quo?; rw [if_neg h]
      have hrem : b ≠ 0 → rem? a b = some (a.tmod b) := fun h => by unfold rem?; rw [if_neg h]
      have hshl : ∀ x y : Int, 0 ≤ y → shl? x y = some (w64 (x * 2 ^ min y.toNat 64)) := fun x y h => by unfold shl?; rw [if_neg (by omega)]
      have hshr : ∀ x y : Int, 0 ≤ y → shr? x y = some (x.fdiv (2 ^ min y.toNat 64)) := fun x y h => by unfold shr?; rw [if_neg (by omega)]
      have hw1 : w64 (w - 1) = w - 1 := w64_id (by omega) (by omega)
      simp only [Bool.not_true, Bool.false_eq_true, if_false, impl_shiftWord, spec_wordOf, impl_wordOf, spec_signed h1 h2, impl_signed h1 h2, (truth_eq _).1, (truth_eq _).2, Option.bind_some, a1, a2, hw1]
      by_cases e3 : op = 3
      · subst e3; exact ⟨_, rfl, rfl⟩
      by_cases e4 : op = 4
      · subst e4; exact ⟨_, rfl, rfl⟩
      by_cases e5 : op = 5
      · subst e5; exact ⟨_, rfl, rfl⟩
      by_cases e6 : op = 6
      · subst e6
        by_cases z : b = 0
        · subst z; exact ⟨_, rfl, rfl⟩
        · refine ⟨w64 (a.tdiv b), ?_, ?_⟩ <;> simp [z, hquo z]
      by_cases e7 : op = 7
      · subst e7
        by_cases z : b = 0
        · subst z; exact ⟨_, rfl, rfl⟩
        · refine ⟨a.tmod b, ?_, ?_⟩ <;> simp [z, hrem z]
      by_cases e8 : op = 8
      · subst e8; exact ⟨_, rfl, rfl⟩
      by_cases e9 : op = 9
      · subst e9; exact ⟨_, rfl, rfl⟩
      by_cases e10 : op = 10
      · subst e10; exact ⟨_, rfl, rfl⟩
      by_cases e11 : op = 11
      · subst e11
        by_cases z : b ≥ w
        · refine ⟨0, ?_, ?_⟩ <;> simp [z]
        · have hb' := u64_id d1 (by omega)
          refine ⟨wordOf w (w64 (a * 2 ^ min b.toNat 64)), ?_, ?_⟩ <;> simp [z, hb', hshl a b d1, spec_wordOf, impl_wordOf]
      by_cases e12 : op = 12
      · subst e12
        by_cases z : b ≥ w
        · refine ⟨0, ?_, ?_⟩ <;> simp [z]
        · have hb' := u64_id d1 (by omega)
          refine ⟨a.fdiv (2 ^ min b.toNat 64), ?_, ?_⟩ <;> simp [z, hb', hshr a b d1]
      by_cases e13 : op = 13
      · subst e13
        have hmin : imin b (w - 1) = (bif decide (b ≥ w) then w - 1 else b) := by
          unfold imin
          by_cases z : b ≥ w
          · rw [if_pos (by omega)]; simp [z]
          · rw [if_neg (by omega)]; simp [z]
        rw [hmin]
        have hq : 0 ≤ (bif decide (b ≥ w) then w - 1 else b) ∧ (bif decide (b ≥ w) then w - 1 else b) ≤ 1000 := by
          by_cases z : b ≥ w
          · simp [z]; omega
          · simp [z]; omega
        generalize (bif decide (b ≥ w) then w - 1 else b) = y at hq ⊢
        rw [u64_id hq.1 hq.2, hshr _ y hq.1]
        refine ⟨wordOf w ((signedOf w a).fdiv (2 ^ min y.toNat 64)), ?_, ?_⟩ <;> simp [spec_wordOf, impl_wordOf]
      by_cases e14 : op = 14
      · subst e14; exact ⟨_, rfl, rfl⟩
      by_cases e15 : op = 15
      · subst e15; exact ⟨_, rfl, rfl⟩
      by_cases e16 : op = 16
      · subst e16; exact ⟨_, rfl, rfl⟩
      refine ⟨-1, ?_, ?_⟩ <;> simp [e3, e4, e5, e6, e7, e8, e9, e10, e11, e12, e13, e14, e15, e16]
theorem ApplyUnary_eq {w a : Int} (h1 : 2 ≤ w) (h2 : w ≤ 8) : ∃ r, spec_ApplyUnary 1 w a = some r ∧ impl_ApplyUnary 1 w a = some r := by
  obtain ⟨m, a1, a2, a3, a4, hm⟩ := word_iff h1 h2
  unfold spec_ApplyUnary impl_ApplyUnary
  simp only [spec_word, impl_word, Option.bind_some, a1, a2]
  cases ha : wordB w a with
  | false => exact ⟨-1, rfl, rfl⟩
  | true => exact ⟨_, rfl, rfl⟩

/-! instructions -/
def regN (a : Int) : Prop := 0 ≤ a ∧ a ≤ 3
theorem ins_facts {p : D.Ins} {w n : Int} (h : insB w n p = true) :
    (p.Op = 1 ∧ regN p.A ∧ wordB w p.B = true) ∨ (p.Op = 2 ∧ regN p.A ∧ regN p.B) ∨ (p.Op = 3 ∧ regN p.A ∧ regN p.B ∧ 3 ≤ p.C ∧ p.C ≤ 16) ∨ (p.Op = 4 ∧ regN p.A) ∨ (p.Op = 5 ∧ regN p.A) ∨ (p.Op = 6 ∧ regN p.A) ∨ (p.Op = 7 ∧ regN p.A ∧ regN p.B) ∨ (p.Op = 8 ∧ regN p.A ∧ regN p.B) ∨
    (p.Op = 9 ∧ 0 ≤ p.B ∧ p.B ≤ n) ∨ (p.Op = 10 ∧ regN p.A ∧ 0 ≤ p.B ∧ p.B ≤ n) ∨ (p.Op = 11 ∧ 0 ≤ p.B ∧ p.B ≤ n) ∨ p.Op = 12 ∨ (p.Op = 13 ∧ regN p.A) ∨ p.Op = 14 := by
  have hs := spec_ins w n p
  rw [h] at hs
  have hr : ∀ a, spec_l05Reg a = some (decide (0 ≤ a ∧ a ≤ 3)) := by
    intro a; simp [spec_l05Reg, spec_l01In]
  have hi : ∀ a b c, spec_l01In a b c = some (decide (b ≤ a) && decide (a ≤ c)) := by
    intro a b c; simp [spec_l01In]
  obtain ⟨op, a, b, c⟩ := p
  unfold regN
  unfold spec_l05Ins at hs
  simp only [hr, hi, spec_word, Option.bind_some, ite_def] at hs ⊢
  by_cases e1 : op = 1
  · subst e1; grind
  by_cases e2 : op = 2
  · subst e2; grind
  by_cases e3 : op = 3
  · subst e3; grind
  by_cases e4 : op = 4
  · subst e4; grind
  by_cases e5 : op = 5
  · subst e5; grind
  by_cases e6 : op = 6
  · subst e6; grind
  by_cases e7 : op = 7
  · subst e7; grind
  by_cases e8 : op = 8
  · subst e8; grind
  by_cases e9 : op = 9
  · subst e9; grind
  by_cases e10 : op = 10
  · subst e10; grind
  by_cases e11 : op = 11
  · subst e11; grind
  by_cases e12 : op = 12
  · subst e12; grind
  by_cases e13 : op = 13
  · subst e13; grind
  by_cases e14 : op = 14
  · subst e14; grind
  simp [e1, e2, e3, e4, e5, e6, e7, e8, e9, e10, e11, e12, e13, e14] at hs

structure Fine (x : D.Program) (y : D.State) : Prop where
  w1 : 2 ≤ x.W
  w2 : x.W ≤ 8
  mem : 1 ≤ x.Mem ∧ x.Mem ≤ 6
  code : (x.Code.length : Int) ≤ 40
  ins : ∀ p ∈ x.Code, insB x.W x.Code.length p = true
  pc : 0 ≤ y.Pc ∧ y.Pc ≤ x.Code.length
  regs : y.Regs.length = 4
  regw : ∀ v ∈ y.Regs, wordB x.W v = true
  mems : (y.Mem.length : Int) = x.Mem
  stack : (y.Stack.length : Int) ≤ 3
  out : (y.Out.length : Int) ≤ 6
  in0 : 0 ≤ y.In ∧ y.In ≤ x.In
  steps : 0 ≤ y.Steps ∧ y.Steps ≤ 400
  in3 : x.In ≤ 3
theorem fine_of {x : D.Program} {y : D.State} (h : stateB x y = true) : Fine x y := by
  unfold stateB progB placeB at h
  simp only [Bool.and_eq_true, decide_eq_true_eq, List.all_eq_true, beq_iff_eq, len_nat] at h
  obtain ⟨⟨⟨⟨⟨⟨⟨⟨⟨⟨⟨⟨⟨⟨⟨⟨⟨⟨a1, a2⟩, a3⟩, a4⟩, a5⟩, a6⟩, b1⟩, b2⟩, b3, b4⟩, b5, b6⟩, b7⟩, c1⟩, c2⟩, c3⟩, c4⟩, c5⟩, c6⟩, c7⟩, c8⟩ := h
  exact ⟨a1.1, a1.2, a2, a5.2, a6, b1, by omega, b3, b6, @of_decide_eq_true _ _ c1, @of_decide_eq_true _ _ c2, ⟨c3, c4⟩, ⟨c7, c8⟩, a4.2⟩

section
variable {x : D.Program} {y : D.State}
theorem Fine.get (h : Fine x y) {a : Int} (ha : regN a) : ∃ v, get? y.Regs a = some v ∧ 0 ≤ v ∧ v ≤ 256 := by
  obtain ⟨h1, h2⟩ := ha
  have hlt : a.toNat < y.Regs.length := by rw [h.regs]; omega
  obtain ⟨m, -, -, -, hm2, hm⟩ := word_iff h.w1 h.w2
  have := (hm _).1 (h.regw _ (List.getElem_mem hlt))
  refine ⟨y.Regs[a.toNat], ?_, this.1, by omega⟩
  unfold get?
  rw [if_pos h1, List.getElem?_eq_getElem hlt]
theorem Fine.set (h : Fine x y) {a : Int} (ha : regN a) (v : Int) : set? y.Regs a v = some (y.Regs.set a.toNat v) := by
  obtain ⟨h1, h2⟩ := ha
  unfold set?
  rw [if_pos ⟨h1, by rw [h.regs]; omega⟩]
theorem Fine.small (h : Fine x y) {p r m s i o c t} (hr : r.length = 4) (hm : m.length = y.Mem.length) (hs : (s.length : Int) ≤ 4) (ho : (o.length : Int) ≤ 7) : Go.Proofs.Ytbfphbpeajmihaa.small (D.State.mk p r m s i o c t) := by
  have := h.mems
  have := h.mem
  refine ⟨?_, ?_, ?_, ?_⟩ <;> simp only <;> omega

theorem step_eq (h : Fine x y) {l : List Int} (hl : (l.length : Int) = x.In) : ∃ s', spec_l05Step x y l = some s' ∧ impl_State_step y x l = some s' ∧ Go.Proofs.Ytbfphbpeajmihaa.small s' := by
  have hsm : Go.Proofs.Ytbfphbpeajmihaa.small y := by
    have := h.mems
    have := h.mem
    have := h.stack
    have := h.out
    exact ⟨by rw [h.regs]; omega, by omega, by omega, by omega⟩
  have hst := h.steps
  have hpc := h.pc
  have hcl := h.code
  have hin := h.in0
  have hmm := h.mems
  have hmem := h.mem
  have hstk := h.stack
  have hout := h.out
  unfold spec_l05Step impl_State_step impl_State_moves
  simp only [Option.bind_some]
  by_cases c0 : y.Code = 0 ∧ y.Steps < 400
  · obtain ⟨c0, c1⟩ := c0
    have e1 : (y.Code != 0 || y.Steps == 400) = false := by simp [c0]; omega
    have e2 : (!(y.Code == 0 && decide (y.Steps < 400))) = false := by simp [c0, c1]
    rw [e1, e2]
    simp only [Bool.false_eq_true, if_false]
    by_cases c2 : y.Pc = len x.Code
    · have e3 : (y.Pc == len x.Code) = true := by simpa using c2
      rw [e3]
      exact ⟨_, rfl, rfl, hsm.1, hsm.2.1, hsm.2.2.1, hsm.2.2.2⟩
    · have e3 : (y.Pc == len x.Code) = false := by simpa using c2
      rw [len_nat] at c2
      rw [e3]
      simp only [Bool.false_eq_true, if_false]
      have hlt : y.Pc.toNat < x.Code.length := by omega
      have hget : get? x.Code y.Pc = some x.Code[y.Pc.toNat] := by
        unfold get?; rw [if_pos (by omega), List.getElem?_eq_getElem hlt]
      have hins := ins_facts (h.ins _ (List.getElem_mem hlt))
      rw [hget]
      simp only [Option.bind_some]
      generalize x.Code[y.Pc.toNat] = i at hins ⊢
      have w1 : w64 (y.Steps + 1) = y.Steps + 1 := w64_id (by omega) (by omega)
      have w2 : w64 (y.Pc + 1) = y.Pc + 1 := w64_id (by omega) (by omega)
      rw [w1]
      unfold spec_l05Why impl_State_trouble impl_State_perform
      obtain ⟨op, iA, iB, iC⟩ := i
      simp only [w2] at hins ⊢
      rcases hins with ⟨rfl, ra, -⟩ | ⟨rfl, ra, rb⟩ | ⟨rfl, ra, rb, -, -⟩ | ⟨rfl, ra⟩ | ⟨rfl, ra⟩ | ⟨rfl, ra⟩ | ⟨rfl, ra, rb⟩ | ⟨rfl, ra, rb⟩ | ⟨rfl, b1, b2⟩ | ⟨rfl, ra, b1, b2⟩ | ⟨rfl, b1, b2⟩ | rfl | ⟨rfl, ra⟩ | rfl
      · refine ⟨⟨y.Pc + 1, y.Regs.set iA.toNat iB, y.Mem, y.Stack, y.In, y.Out, y.Code, y.Steps + 1⟩, ?_, ?_, h.small (by simp [h.regs]) rfl (by omega) (by omega)⟩ <;> simp [h.set ra, c0]
      · obtain ⟨v, hv, -⟩ := h.get rb
        refine ⟨⟨y.Pc + 1, y.Regs.set iA.toNat v, y.Mem, y.Stack, y.In, y.Out, y.Code, y.Steps + 1⟩, ?_, ?_, h.small (by simp [h.regs]) rfl (by omega) (by omega)⟩ <;> simp [h.set ra, hv, c0]
      · obtain ⟨v, hv, -⟩ := h.get rb
        obtain ⟨u, hu, -⟩ := h.get ra
        obtain ⟨r, r1, r2⟩ := ApplyBinary_eq (a := u) (b := v) (op := iC) h.w1 h.w2
        by_cases z : (iC = 6 ∨ iC = 7) ∧ v = 0
        · obtain ⟨z1, z2⟩ := z
          subst z2
          refine ⟨⟨y.Pc, y.Regs, y.Mem, y.Stack, y.In, y.Out, 6, y.Steps + 1⟩, ?_, ?_, hsm.1, hsm.2.1, hsm.2.2.1, hsm.2.2.2⟩ <;> rcases z1 with rfl | rfl <;> simp [hv]
        · refine ⟨⟨y.Pc + 1, y.Regs.set iA.toNat r, y.Mem, y.Stack, y.In, y.Out, y.Code, y.Steps + 1⟩, ?_, ?_, h.small (by simp [h.regs]) rfl (by omega) (by omega)⟩ <;>
            (by_cases z1 : iC = 6
             · subst z1; have z2 : v ≠ 0 := fun e => z ⟨.inl rfl, e⟩
               simp [h.set ra, hv, hu, r1, r2, c0, z2]
             · by_cases z3 : iC = 7
               · subst z3; have z2 : v ≠ 0 := fun e => z ⟨.inr rfl, e⟩
                 simp [h.set ra, hv, hu, r1, r2, c0, z2]
               · simp [h.set ra, hv, hu, r1, r2, c0, z1, z3])
      · obtain ⟨u, hu, -⟩ := h.get ra
        obtain ⟨r, r1, r2⟩ := ApplyUnary_eq (a := u) h.w1 h.w2
        refine ⟨⟨y.Pc + 1, y.Regs.set iA.toNat r, y.Mem, y.Stack, y.In, y.Out, y.Code, y.Steps + 1⟩, ?_, ?_, h.small (by simp [h.regs]) rfl (by omega) (by omega)⟩ <;> simp [h.set ra, hu, r1, r2, c0]
      · by_cases z : y.In = x.In
        · refine ⟨⟨y.Pc, y.Regs, y.Mem, y.Stack, y.In, y.Out, 3, y.Steps + 1⟩, ?_, ?_, hsm.1, hsm.2.1, hsm.2.2.1, hsm.2.2.2⟩
          · simp [z]
          · have : y.In ≥ len l := by rw [len_nat]; omega
            simp [this]
        · have hil : y.In.toNat < l.length := by omega
          have hgi : get? l y.In = some l[y.In.toNat] := by
            unfold get?; rw [if_pos (by omega), List.getElem?_eq_getElem hil]
          have hge : ¬ (len l ≤ y.In) := by rw [len_nat]; omega
          have w3 : w64 (y.In + 1) = y.In + 1 := w64_id (by omega) (by
            have := h.in3
            omega)
          refine ⟨⟨y.Pc + 1, y.Regs.set iA.toNat l[y.In.toNat], y.Mem, y.Stack, y.In + 1, y.Out, y.Code, y.Steps + 1⟩, ?_, ?_, h.small (by simp [h.regs]) rfl (by omega) (by omega)⟩ <;> simp [h.set ra, hgi, c0, z, hge, w3]
      · obtain ⟨u, hu, -⟩ := h.get ra
        by_cases z : len y.Out = 6
        · refine ⟨⟨y.Pc, y.Regs, y.Mem, y.Stack, y.In, y.Out, 4, y.Steps + 1⟩, ?_, ?_, hsm.1, hsm.2.1, hsm.2.2.1, hsm.2.2.2⟩ <;> simp [z]
        · have hge : ¬ (6 ≤ len y.Out) := by rw [len_nat] at z ⊢; omega
          have happ : app? y.Out [u] = some (y.Out ++ [u]) := by
            unfold app?; rw [if_pos (by simp; unfold room; omega)]
          refine ⟨⟨y.Pc + 1, y.Regs, y.Mem, y.Stack, y.In, y.Out ++ [u], y.Code, y.Steps + 1⟩, ?_, ?_, h.small h.regs rfl (by omega) (by simp; omega)⟩ <;> simp [hu, happ, c0, z, hge]
      · obtain ⟨v, hv, v0, -⟩ := h.get rb
        by_cases z : v ≥ x.Mem
        · refine ⟨⟨y.Pc, y.Regs, y.Mem, y.Stack, y.In, y.Out, 5, y.Steps + 1⟩, ?_, ?_, hsm.1, hsm.2.1, hsm.2.2.1, hsm.2.2.2⟩ <;> simp [hv, z]
        · have hml : v.toNat < y.Mem.length := by omega
          have hgm : get? y.Mem v = some y.Mem[v.toNat] := by
            unfold get?; rw [if_pos v0, List.getElem?_eq_getElem hml]
          refine ⟨⟨y.Pc + 1, y.Regs.set iA.toNat y.Mem[v.toNat], y.Mem, y.Stack, y.In, y.Out, y.Code, y.Steps + 1⟩, ?_, ?_, h.small (by simp [h.regs]) rfl (by omega) (by omega)⟩ <;> simp [h.set ra, hv, hgm, c0, z]
      · obtain ⟨v, hv, -⟩ := h.get rb
        obtain ⟨u, hu, u0, -⟩ := h.get ra
        by_cases z : u ≥ x.Mem
        · refine ⟨⟨y.Pc, y.Regs, y.Mem, y.Stack, y.In, y.Out, 5, y.Steps + 1⟩, ?_, ?_, hsm.1, hsm.2.1, hsm.2.2.1, hsm.2.2.2⟩ <;> simp [hu, z]
        · have hsm2 : set? y.Mem u v = some (y.Mem.set u.toNat v) := by
            unfold set?; rw [if_pos ⟨u0, by omega⟩]
          refine ⟨⟨y.Pc + 1, y.Regs, y.Mem.set u.toNat v, y.Stack, y.In, y.Out, y.Code, y.Steps + 1⟩, ?_, ?_, h.small h.regs (by simp) (by omega) (by omega)⟩ <;> simp [hv, hu, hsm2, c0, z]
      · refine ⟨⟨iB, y.Regs, y.Mem, y.Stack, y.In, y.Out, y.Code, y.Steps + 1⟩, ?_, ?_, h.small h.regs rfl (by omega) (by omega)⟩ <;> simp [c0]
      · obtain ⟨u, hu, -⟩ := h.get ra
        by_cases z : u = 0
        · subst z
          refine ⟨⟨iB, y.Regs, y.Mem, y.Stack, y.In, y.Out, y.Code, y.Steps + 1⟩, ?_, ?_, h.small h.regs rfl (by omega) (by omega)⟩ <;> simp [c0, hu]
        · refine ⟨⟨y.Pc + 1, y.Regs, y.Mem, y.Stack, y.In, y.Out, y.Code, y.Steps + 1⟩, ?_, ?_, h.small h.regs rfl (by omega) (by omega)⟩ <;> simp [c0, hu, z]
      · by_cases z : len y.Stack = 3
        · refine ⟨⟨y.Pc, y.Regs, y.Mem, y.Stack, y.In, y.Out, 7, y.Steps + 1⟩, ?_, ?_, hsm.1, hsm.2.1, hsm.2.2.1, hsm.2.2.2⟩ <;> simp [z]
        · have hge : ¬ (3 ≤ len y.Stack) := by rw [len_nat] at z ⊢; omega
          have happ : app? y.Stack [y.Pc + 1] = some (y.Stack ++ [y.Pc + 1]) := by
            unfold app?; rw [if_pos (by simp; unfold room; omega)]
          refine ⟨⟨iB, y.Regs, y.Mem, y.Stack ++ [y.Pc + 1], y.In, y.Out, y.Code, y.Steps + 1⟩, ?_, ?_, h.small h.regs rfl (by simp; omega) (by omega)⟩ <;> simp [happ, c0, z, hge]
      · by_cases z : len y.Stack = 0
        · refine ⟨⟨y.Pc, y.Regs, y.Mem, y.Stack, y.In, y.Out, 7, y.Steps + 1⟩, ?_, ?_, hsm.1, hsm.2.1, hsm.2.2.1, hsm.2.2.2⟩ <;> simp [z]
        · have z' := z
          rw [len_nat] at z'
          have hlt2 : (len y.Stack - 1).toNat < y.Stack.length := by rw [len_nat]; omega
          have w4 : w64 (len y.Stack - 1) = len y.Stack - 1 := w64_id (by rw [len_nat]; omega) (by rw [len_nat]; omega)
          have hg : get? y.Stack (len y.Stack - 1) = some y.Stack[(len y.Stack - 1).toNat] := by
            unfold get?; rw [if_pos (by rw [len_nat]; omega), List.getElem?_eq_getElem hlt2]
          have hc : cut? y.Stack 0 (len y.Stack - 1) = some (y.Stack.take (len y.Stack - 1).toNat) := by
            unfold cut?; rw [if_pos ⟨by omega, by rw [len_nat]; omega, by rw [len_nat]; omega⟩]; simp
          refine ⟨⟨y.Stack[(len y.Stack - 1).toNat], y.Regs, y.Mem, y.Stack.take (len y.Stack - 1).toNat, y.In, y.Out, y.Code, y.Steps + 1⟩, ?_, ?_, h.small h.regs rfl (by simp; omega) (by omega)⟩ <;> simp [hg, hc, c0, z, w4]
      · obtain ⟨u, hu, -⟩ := h.get ra
        by_cases z : u = 0
        · subst z
          refine ⟨⟨y.Pc, y.Regs, y.Mem, y.Stack, y.In, y.Out, 8, y.Steps + 1⟩, ?_, ?_, hsm.1, hsm.2.1, hsm.2.2.1, hsm.2.2.2⟩ <;> simp [hu]
        · refine ⟨⟨y.Pc + 1, y.Regs, y.Mem, y.Stack, y.In, y.Out, y.Code, y.Steps + 1⟩, ?_, ?_, h.small h.regs rfl (by omega) (by omega)⟩ <;> simp [c0, hu, z]
      · refine ⟨⟨y.Pc, y.Regs, y.Mem, y.Stack, y.In, y.Out, 1, y.Steps + 1⟩, ?_, ?_, h.small h.regs rfl (by omega) (by omega)⟩ <;> simp
  · have e1 : (y.Code != 0 || y.Steps == 400) = true := by
      by_cases c : y.Code = 0
      · have : y.Steps = 400 := by
          have : ¬ y.Steps < 400 := fun h => c0 ⟨c, h⟩
          omega
        simp [this]
      · simp [c]
    have e2 : (!(y.Code == 0 && decide (y.Steps < 400))) = true := by
      by_cases c : y.Code = 0
      · have : ¬ y.Steps < 400 := fun h => c0 ⟨c, h⟩
        simp [this]
      · simp [c]
    rw [e1, e2]
    exact ⟨y, rfl, rfl, hsm⟩
end
end Go.Proofs.Ytbfphbpeajmihaa
