/- The plain laws of the machine's runs. No program in sight. -/
import Derived.Test.YtbfphbpeajmihaaPS
namespace Go.Proofs.Ytbfphbpeajmihaa
open Go.GL

theorem band_le {a b : Int} (h1 : 0 ≤ b) (h2 : b ≤ 1000) : 0 ≤ band a b ∧ band a b ≤ b := by
  unfold band
  have e : (BitVec.ofInt 64 a &&& BitVec.ofInt 64 b).toNat ≤ b.toNat := by
    rw [BitVec.toNat_and]
    refine Nat.le_trans Nat.and_le_right ?_
    rw [BitVec.toNat_ofInt]
    omega
  rw [w64_id (by omega) (by omega)]
  omega
theorem pow_of {w : Int} (h1 : 2 ≤ w) (h2 : w ≤ 8) : ∃ k : Nat, shl? 1 w = some ((2 ^ k : Nat) : Int) ∧ (2 ^ k : Nat) ≤ 256 := by
  have : w = 2 ∨ w = 3 ∨ w = 4 ∨ w = 5 ∨ w = 6 ∨ w = 7 ∨ w = 8 := by omega
  rcases this with rfl | rfl | rfl | rfl | rfl | rfl | rfl
  · exact ⟨2, by decide, by decide⟩
  · exact ⟨3, by decide, by decide⟩
  · exact ⟨4, by decide, by decide⟩
  · exact ⟨5, by decide, by decide⟩
  · exact ⟨6, by decide, by decide⟩
  · exact ⟨7, by decide, by decide⟩
  · exact ⟨8, by decide, by decide⟩
theorem ofInt_nat {x : Int} (h1 : 0 ≤ x) (h2 : x ≤ 1000) : (BitVec.ofInt 64 x).toNat = x.toNat := by
  rw [BitVec.toNat_ofInt]; omega
theorem wordOf_word {w v : Int} (h1 : 2 ≤ w) (h2 : w ≤ 8) : wordB w (wordOf w v) = true := by
  obtain ⟨m, a1, a2, a3, a4, hm⟩ := word_iff h1 h2
  have h := spec_wordOf w v
  unfold spec_WordOf spec_l01In at h
  have e : (decide (w ≥ 1) && decide (w ≤ 16)) = true := by simp; omega
  simp only [e, Option.bind_some, Bool.not_true, Bool.false_eq_true, if_false, a1, Option.some.injEq] at h
  rw [w64_id (by omega) (by omega)] at h
  have := band_le (a := v) (b := m - 1) (by omega) (by omega)
  rw [← h, hm]; omega
theorem ApplyBinary_word {w a b op r : Int} (h1 : 2 ≤ w) (h2 : w ≤ 8) (ha : wordB w a = true) (hb : wordB w b = true) (ho : 3 ≤ op) (ho' : op ≤ 16) (hr : spec_ApplyBinary op w a b = some r) : wordB w r = true := by
  obtain ⟨m, a1, a2, a3, a4, hm⟩ := word_iff h1 h2
  obtain ⟨k, k1, k2⟩ := pow_of h1 h2
  have hmk : m = ((2 ^ k : Nat) : Int) := Option.some.inj (a1.symm.trans k1)
  obtain ⟨c1, c2⟩ := (hm a).1 ha
  obtain ⟨d1, d2⟩ := (hm b).1 hb
  unfold spec_ApplyBinary at hr
  simp only [spec_word, spec_wordOf, Option.bind_some, ha, hb, Bool.not_true, Bool.false_eq_true, if_false, Bool.or_self, spec_signed h1 h2, (truth_eq _).1, a1] at hr
  have t01 : ∀ c : Bool, wordB w (if c = true then 1 else 0) = true := fun c => by rw [hm]; split <;> omega
  have hshr : ∀ x y : Int, 0 ≤ y → shr? x y = some (x.fdiv (2 ^ min y.toNat 64)) := fun x y h => by unfold shr?; rw [if_neg (by omega)]
  have hshl : ∀ x y : Int, 0 ≤ y → shl? x y = some (w64 (x * 2 ^ min y.toNat 64)) := fun x y h => by unfold shl?; rw [if_neg (by omega)]
  have ea := ofInt_nat c1 (by omega : a ≤ 1000)
  have eb := ofInt_nat d1 (by omega : b ≤ 1000)
  have : op = 3 ∨ op = 4 ∨ op = 5 ∨ op = 6 ∨ op = 7 ∨ op = 8 ∨ op = 9 ∨ op = 10 ∨ op = 11 ∨ op = 12 ∨ op = 13 ∨ op = 14 ∨ op = 15 ∨ op = 16 := by omega
  rcases this with rfl | rfl | rfl | rfl | rfl | rfl | rfl | rfl | rfl | rfl | rfl | rfl | rfl | rfl
  · simp at hr; rw [← hr]; exact wordOf_word h1 h2
  · simp at hr; rw [← hr]; exact wordOf_word h1 h2
  · simp at hr; rw [← hr]; exact wordOf_word h1 h2
  · by_cases z : b = 0
    · simp [z] at hr; rw [w64_id (by omega) (by omega)] at hr; rw [← hr, hm]; omega
    · have hq : quo? a b = some (w64 (a.tdiv b)) := by unfold quo?; rw [if_neg z]
      simp [z, hq] at hr
      have e1 : a.tdiv b = a / b := Int.tdiv_eq_ediv_of_nonneg c1
      have e2 : 0 ≤ a / b := Int.ediv_nonneg c1 d1
      have e3 : a / b ≤ a := Int.ediv_le_self _ c1
      rw [e1, w64_id (by omega) (by omega)] at hr
      rw [← hr, hm]; omega
  · by_cases z : b = 0
    · simp [z] at hr; rw [← hr]; exact ha
    · have hq : rem? a b = some (a.tmod b) := by unfold rem?; rw [if_neg z]
      simp [z, hq] at hr
      have e1 : a.tmod b = a % b := Int.tmod_eq_emod_of_nonneg c1
      have e2 : 0 ≤ a % b := Int.emod_nonneg _ z
      have e3 : a % b < b := Int.emod_lt_of_pos _ (by omega)
      rw [e1] at hr
      rw [← hr, hm]; omega
  · simp at hr
    have := band_le (a := a) (b := b) d1 (by omega)
    rw [← hr, hm]; omega
  · simp at hr
    unfold bor at hr
    rw [BitVec.toNat_or, ea, eb] at hr
    have := Nat.or_lt_two_pow (x := a.toNat) (y := b.toNat) (n := k) (by omega) (by omega)
    rw [w64_id (by omega) (by omega)] at hr
    rw [← hr, hm]; omega
  · simp at hr
    unfold bxor at hr
    rw [BitVec.toNat_xor, ea, eb] at hr
    have := Nat.xor_lt_two_pow (x := a.toNat) (y := b.toNat) (n := k) (by omega) (by omega)
    rw [w64_id (by omega) (by omega)] at hr
    rw [← hr, hm]; omega
  · by_cases z : b ≥ w
    · simp [z] at hr; rw [← hr, hm]; omega
    · simp [z, hshl a b d1, spec_wordOf] at hr; rw [← hr]; exact wordOf_word h1 h2
  · by_cases z : b ≥ w
    · simp [z] at hr; rw [← hr, hm]; omega
    · simp [z, hshr a b d1] at hr
      have hp : (0 : Int) < 2 ^ min b.toNat 64 := Int.pow_pos (by omega)
      have e1 : a.fdiv (2 ^ min b.toNat 64) = a / (2 ^ min b.toNat 64) := Int.fdiv_eq_ediv_of_nonneg _ (by omega)
      have e2 : 0 ≤ a / (2 ^ min b.toNat 64) := Int.ediv_nonneg c1 (by omega)
      have e3 : a / (2 ^ min b.toNat 64) ≤ a := Int.ediv_le_self _ c1
      rw [e1] at hr
      rw [← hr, hm]; omega
  · have hq : 0 ≤ (bif decide (b ≥ w) then w64 (w - 1) else b) := by
      rw [w64_id (by omega) (by omega)]
      by_cases z : b ≥ w
      · simp [z]; omega
      · simp [z]; omega
    rw [hshr _ _ hq] at hr
    simp [spec_wordOf] at hr; rw [← hr]; exact wordOf_word h1 h2
  · simp at hr; rw [← hr]; have := t01 (a == b); simpa using this
  · simp at hr; rw [← hr]; have := t01 (decide (a < b)); simpa using this
  · simp at hr; rw [← hr]; have := t01 (decide (signedOf w a < signedOf w b)); simpa using this
theorem ApplyUnary_word {w a r : Int} (h1 : 2 ≤ w) (h2 : w ≤ 8) (ha : wordB w a = true) (hr : spec_ApplyUnary 1 w a = some r) : wordB w r = true := by
  obtain ⟨m, a1, a2, a3, a4, hm⟩ := word_iff h1 h2
  obtain ⟨c1, c2⟩ := (hm a).1 ha
  unfold spec_ApplyUnary at hr
  simp [spec_word, ha, a1] at hr
  rw [w64_id (x := m - 1) (by omega) (by omega), w64_id (by omega) (by omega)] at hr
  rw [← hr, hm]; omega

structure Good (x : D.Program) (y : D.State) : Prop where
  fine : Fine x y
  memw : ∀ v ∈ y.Mem, wordB x.W v = true
  stackp : ∀ v ∈ y.Stack, 0 ≤ v ∧ v ≤ x.Code.length
section
variable {x : D.Program} {y : D.State}
theorem Good.getw (g : Good x y) {a : Int} (ha : regN a) : ∃ v, get? y.Regs a = some v ∧ 0 ≤ v ∧ v ≤ 256 ∧ wordB x.W v = true := by
  obtain ⟨v, h1, h2, h3⟩ := g.fine.get ha
  refine ⟨v, h1, h2, h3, g.fine.regw v ?_⟩
  unfold get? at h1
  rw [if_pos ha.1] at h1
  exact List.mem_of_getElem? h1
theorem Good.up (g : Good x y) {p i c t : Int} {r m s o : List Int} (hp : 0 ≤ p ∧ p ≤ (x.Code.length : Int)) (hr : r.length = 4) (hrw : ∀ v ∈ r, wordB x.W v = true) (hm : m.length = y.Mem.length) (hmw : ∀ v ∈ m, wordB x.W v = true) (hs : (s.length : Int) ≤ 3) (hsp : ∀ v ∈ s, 0 ≤ v ∧ v ≤ (x.Code.length : Int))
    (ho : (o.length : Int) ≤ 6) (hi : 0 ≤ i ∧ i ≤ x.In) (ht : 0 ≤ t ∧ t ≤ 400) : Good x (D.State.mk p r m s i o c t) :=
  ⟨⟨g.fine.w1, g.fine.w2, g.fine.mem, g.fine.code, g.fine.ins, hp, hr, hrw, by have := g.fine.mems; simp only; omega, hs, ho, hi, ht, g.fine.in3⟩, hmw, hsp⟩
theorem Good.regset (g : Good x y) {a v : Int} (hv : wordB x.W v = true) : ∀ u ∈ y.Regs.set a.toNat v, wordB x.W u = true := by
  intro u hu
  rcases List.mem_or_eq_of_mem_set hu with hu | rfl
  · exact g.fine.regw u hu
  · exact hv
theorem Good.memset (g : Good x y) {a v : Int} (hv : wordB x.W v = true) : ∀ u ∈ y.Mem.set a.toNat v, wordB x.W u = true := by
  intro u hu
  rcases List.mem_or_eq_of_mem_set hu with hu | rfl
  · exact g.memw u hu
  · exact hv
theorem Good.small (g : Good x y) : Go.Proofs.Ytbfphbpeajmihaa.small y := by
  have := g.fine.mems
  have := g.fine.mem
  have := g.fine.stack
  have := g.fine.out
  exact ⟨by rw [g.fine.regs]; omega, by omega, by omega, by omega⟩

theorem stack_push (g : Good x y) {q : Int} (hq : 0 ≤ q ∧ q ≤ (x.Code.length : Int)) : ∀ v ∈ y.Stack ++ [q], 0 ≤ v ∧ v ≤ (x.Code.length : Int) := by
  intro v hv
  rcases List.mem_append.1 hv with hv | hv
  · exact g.stackp v hv
  · simp at hv; subst hv; exact hq
theorem step_good (g : Good x y) {l : List Int} (hl : (l.length : Int) = x.In) (hlw : ∀ v ∈ l, wordB x.W v = true) : ∃ s', spec_l05Step x y l = some s' ∧ impl_State_step y x l = some s' ∧ Good x s' := by
  have h := g.fine
  have hst := h.steps
  have hpc := h.pc
  have hcl := h.code
  have hin := h.in0
  have hmm := h.mems
  have hmem := h.mem
  have hstk := h.stack
  have hout := h.out
  unfold spec_l05Step impl_State_step impl_State_moves
  simp only [Option.bind_some]
  by_cases c0 : y.Code = 0 ∧ y.Steps < 400
  · obtain ⟨c0, c1⟩ := c0
    have e1 : (y.Code != 0 || y.Steps == 400) = false := by simp [c0]; omega
    have e2 : (!(y.Code == 0 && decide (y.Steps < 400))) = false := by simp [c0, c1]
    rw [e1, e2]
    simp only [Bool.false_eq_true, if_false]
    by_cases c2 : y.Pc = len x.Code
    · have e3 : (y.Pc == len x.Code) = true := by simpa using c2
      rw [e3]
      exact ⟨_, rfl, rfl, g.up hpc h.regs h.regw rfl g.memw hstk g.stackp hout hin hst⟩
    · have e3 : (y.Pc == len x.Code) = false := by simpa using c2
      rw [len_nat] at c2
      rw [e3]
      simp only [Bool.false_eq_true, if_false]
      have hlt : y.Pc.toNat < x.Code.length := by omega
      have hget : get? x.Code y.Pc = some x.Code[y.Pc.toNat] := by
        unfold get?; rw [if_pos (by omega), List.getElem?_eq_getElem hlt]
      have hins := ins_facts (h.ins _ (List.getElem_mem hlt))
      rw [hget]
      simp only [Option.bind_some]
      generalize x.Code[y.Pc.toNat] = i at hins ⊢
      have hst' : 0 ≤ y.Steps + 1 ∧ y.Steps + 1 ≤ 400 := by omega
      have hpc' : 0 ≤ y.Pc + 1 ∧ y.Pc + 1 ≤ (x.Code.length : Int) := by omega
      have w1 : w64 (y.Steps + 1) = y.Steps + 1 := w64_id (by omega) (by omega)
      have w2 : w64 (y.Pc + 1) = y.Pc + 1 := w64_id (by omega) (by omega)
      rw [w1]
      unfold spec_l05Why impl_State_trouble impl_State_perform
      obtain ⟨op, iA, iB, iC⟩ := i
      simp only [w2] at hins ⊢
      rcases hins with ⟨rfl, ra, rw1⟩ | ⟨rfl, ra, rb⟩ | ⟨rfl, ra, rb, rc1, rc2⟩ | ⟨rfl, ra⟩ | ⟨rfl, ra⟩ | ⟨rfl, ra⟩ | ⟨rfl, ra, rb⟩ | ⟨rfl, ra, rb⟩ | ⟨rfl, b1, b2⟩ | ⟨rfl, ra, b1, b2⟩ | ⟨rfl, b1, b2⟩ | rfl | ⟨rfl, ra⟩ | rfl
      · refine ⟨⟨y.Pc + 1, y.Regs.set iA.toNat iB, y.Mem, y.Stack, y.In, y.Out, y.Code, y.Steps + 1⟩, ?_, ?_, g.up hpc' (by simp [h.regs]) (g.regset rw1) rfl g.memw hstk g.stackp hout hin hst'⟩ <;> simp [h.set ra, c0]
      · obtain ⟨v, hv, -, -, vw⟩ := g.getw rb
        refine ⟨⟨y.Pc + 1, y.Regs.set iA.toNat v, y.Mem, y.Stack, y.In, y.Out, y.Code, y.Steps + 1⟩, ?_, ?_, g.up hpc' (by simp [h.regs]) (g.regset vw) rfl g.memw hstk g.stackp hout hin hst'⟩ <;> simp [h.set ra, hv, c0]
      · obtain ⟨v, hv, -, -, vw⟩ := g.getw rb
        obtain ⟨u, hu, -, -, uw⟩ := g.getw ra
        obtain ⟨r, r1, r2⟩ := ApplyBinary_eq (a := u) (b := v) (op := iC) h.w1 h.w2
        have rword := ApplyBinary_word h.w1 h.w2 uw vw rc1 rc2 r1
        by_cases z : (iC = 6 ∨ iC = 7) ∧ v = 0
        · obtain ⟨z1, z2⟩ := z
          subst z2
          refine ⟨⟨y.Pc, y.Regs, y.Mem, y.Stack, y.In, y.Out, 6, y.Steps + 1⟩, ?_, ?_, g.up hpc h.regs h.regw rfl g.memw hstk g.stackp hout hin hst'⟩ <;> rcases z1 with rfl | rfl <;> simp [hv]
        · refine ⟨⟨y.Pc + 1, y.Regs.set iA.toNat r, y.Mem, y.Stack, y.In, y.Out, y.Code, y.Steps + 1⟩, ?_, ?_, g.up hpc' (by simp [h.regs]) (g.regset rword) rfl g.memw hstk g.stackp hout hin hst'⟩ <;>
            (by_cases z1 : iC = 6
             · subst z1; have z2 : v ≠ 0 := fun e => z ⟨.inl rfl, e⟩
               simp [h.set ra, hv, hu, r1, r2, c0, z2]
             · by_cases z3 : iC = 7
               · subst z3; have z2 : v ≠ 0 := fun e => z ⟨.inr rfl, e⟩
                 simp [h.set ra, hv, hu, r1, r2, c0, z2]
               · simp [h.set ra, hv, hu, r1, r2, c0, z1, z3])
      · obtain ⟨u, hu, -, -, uw⟩ := g.getw ra
        obtain ⟨r, r1, r2⟩ := ApplyUnary_eq (a := u) h.w1 h.w2
        have rword := ApplyUnary_word h.w1 h.w2 uw r1
        refine ⟨⟨y.Pc + 1, y.Regs.set iA.toNat r, y.Mem, y.Stack, y.In, y.Out, y.Code, y.Steps + 1⟩, ?_, ?_, g.up hpc' (by simp [h.regs]) (g.regset rword) rfl g.memw hstk g.stackp hout hin hst'⟩ <;> simp [h.set ra, hu, r1, r2, c0]
      · by_cases z : y.In = x.In
        · refine ⟨⟨y.Pc, y.Regs, y.Mem, y.Stack, y.In, y.Out, 3, y.Steps + 1⟩, ?_, ?_, g.up hpc h.regs h.regw rfl g.memw hstk g.stackp hout hin hst'⟩
          · simp [z]
          · have : y.In ≥ len l := by rw [len_nat]; omega
            simp [this]
        · have hil : y.In.toNat < l.length := by omega
          have hgi : get? l y.In = some l[y.In.toNat] := by
            unfold get?; rw [if_pos (by omega), List.getElem?_eq_getElem hil]
          have hge : ¬ (len l ≤ y.In) := by rw [len_nat]; omega
          have w3 : w64 (y.In + 1) = y.In + 1 := w64_id (by omega) (by
            have := h.in3
            omega)
          refine ⟨⟨y.Pc + 1, y.Regs.set iA.toNat l[y.In.toNat], y.Mem, y.Stack, y.In + 1, y.Out, y.Code, y.Steps + 1⟩, ?_, ?_, g.up hpc' (by simp [h.regs]) (g.regset (hlw _ (List.getElem_mem hil))) rfl g.memw hstk g.stackp hout ⟨by omega, by omega⟩ hst'⟩ <;> simp [h.set ra, hgi, c0, z, hge, w3]
      · obtain ⟨u, hu, -, -, uw⟩ := g.getw ra
        by_cases z : len y.Out = 6
        · refine ⟨⟨y.Pc, y.Regs, y.Mem, y.Stack, y.In, y.Out, 4, y.Steps + 1⟩, ?_, ?_, g.up hpc h.regs h.regw rfl g.memw hstk g.stackp hout hin hst'⟩ <;> simp [z]
        · have hge : ¬ (6 ≤ len y.Out) := by rw [len_nat] at z ⊢; omega
          have happ : app? y.Out [u] = some (y.Out ++ [u]) := by
            unfold app?; rw [if_pos (by simp; unfold room; omega)]
          refine ⟨⟨y.Pc + 1, y.Regs, y.Mem, y.Stack, y.In, y.Out ++ [u], y.Code, y.Steps + 1⟩, ?_, ?_, g.up hpc' h.regs h.regw rfl g.memw hstk g.stackp (by simp; rw [len_nat] at z; omega) hin hst'⟩ <;> simp [hu, happ, c0, z, hge]
      · obtain ⟨v, hv, v0, -, vw⟩ := g.getw rb
        by_cases z : v ≥ x.Mem
        · refine ⟨⟨y.Pc, y.Regs, y.Mem, y.Stack, y.In, y.Out, 5, y.Steps + 1⟩, ?_, ?_, g.up hpc h.regs h.regw rfl g.memw hstk g.stackp hout hin hst'⟩ <;> simp [hv, z]
        · have hml : v.toNat < y.Mem.length := by omega
          have hgm : get? y.Mem v = some y.Mem[v.toNat] := by
            unfold get?; rw [if_pos v0, List.getElem?_eq_getElem hml]
          refine ⟨⟨y.Pc + 1, y.Regs.set iA.toNat y.Mem[v.toNat], y.Mem, y.Stack, y.In, y.Out, y.Code, y.Steps + 1⟩, ?_, ?_, g.up hpc' (by simp [h.regs]) (g.regset (g.memw _ (List.getElem_mem hml))) rfl g.memw hstk g.stackp hout hin hst'⟩ <;> simp [h.set ra, hv, hgm, c0, z]
      · obtain ⟨v, hv, -, -, vw⟩ := g.getw rb
        obtain ⟨u, hu, u0, -, uw⟩ := g.getw ra
        by_cases z : u ≥ x.Mem
        · refine ⟨⟨y.Pc, y.Regs, y.Mem, y.Stack, y.In, y.Out, 5, y.Steps + 1⟩, ?_, ?_, g.up hpc h.regs h.regw rfl g.memw hstk g.stackp hout hin hst'⟩ <;> simp [hu, z]
        · have hsm2 : set? y.Mem u v = some (y.Mem.set u.toNat v) := by
            unfold set?; rw [if_pos ⟨u0, by omega⟩]
          refine ⟨⟨y.Pc + 1, y.Regs, y.Mem.set u.toNat v, y.Stack, y.In, y.Out, y.Code, y.Steps + 1⟩, ?_, ?_, g.up hpc' h.regs h.regw (by simp) (g.memset vw) hstk g.stackp hout hin hst'⟩ <;> simp [hv, hu, hsm2, c0, z]
      · refine ⟨⟨iB, y.Regs, y.Mem, y.Stack, y.In, y.Out, y.Code, y.Steps + 1⟩, ?_, ?_, g.up ⟨b1, b2⟩ h.regs h.regw rfl g.memw hstk g.stackp hout hin hst'⟩ <;> simp [c0]
      · obtain ⟨u, hu, -, -, uw⟩ := g.getw ra
        by_cases z : u = 0
        · subst z
          refine ⟨⟨iB, y.Regs, y.Mem, y.Stack, y.In, y.Out, y.Code, y.Steps + 1⟩, ?_, ?_, g.up ⟨b1, b2⟩ h.regs h.regw rfl g.memw hstk g.stackp hout hin hst'⟩ <;> simp [c0, hu]
        · refine ⟨⟨y.Pc + 1, y.Regs, y.Mem, y.Stack, y.In, y.Out, y.Code, y.Steps + 1⟩, ?_, ?_, g.up hpc' h.regs h.regw rfl g.memw hstk g.stackp hout hin hst'⟩ <;> simp [c0, hu, z]
      · by_cases z : len y.Stack = 3
        · refine ⟨⟨y.Pc, y.Regs, y.Mem, y.Stack, y.In, y.Out, 7, y.Steps + 1⟩, ?_, ?_, g.up hpc h.regs h.regw rfl g.memw hstk g.stackp hout hin hst'⟩ <;> simp [z]
        · have hge : ¬ (3 ≤ len y.Stack) := by rw [len_nat] at z ⊢; omega
          have happ : app? y.Stack [y.Pc + 1] = some (y.Stack ++ [y.Pc + 1]) := by
            unfold app?; rw [if_pos (by simp; unfold room; omega)]
          refine ⟨⟨iB, y.Regs, y.Mem, y.Stack ++ [y.Pc + 1], y.In, y.Out, y.Code, y.Steps + 1⟩, ?_, ?_, g.up ⟨b1, b2⟩ h.regs h.regw rfl g.memw (by simp; rw [len_nat] at z; omega) (stack_push g hpc') hout hin hst'⟩ <;> simp [happ, c0, z, hge]
      · by_cases z : len y.Stack = 0
        · refine ⟨⟨y.Pc, y.Regs, y.Mem, y.Stack, y.In, y.Out, 7, y.Steps + 1⟩, ?_, ?_, g.up hpc h.regs h.regw rfl g.memw hstk g.stackp hout hin hst'⟩ <;> simp [z]
        · have z' := z
          rw [len_nat] at z'
          have hlt2 : (len y.Stack - 1).toNat < y.Stack.length := by rw [len_nat]; omega
          have w4 : w64 (len y.Stack - 1) = len y.Stack - 1 := w64_id (by rw [len_nat]; omega) (by rw [len_nat]; omega)
          have hg : get? y.Stack (len y.Stack - 1) = some y.Stack[(len y.Stack - 1).toNat] := by
            unfold get?; rw [if_pos (by rw [len_nat]; omega), List.getElem?_eq_getElem hlt2]
          have hc : cut? y.Stack 0 (len y.Stack - 1) = some (y.Stack.take (len y.Stack - 1).toNat) := by
            unfold cut?; rw [if_pos ⟨by omega, by rw [len_nat]; omega, by rw [len_nat]; omega⟩]; simp
          refine ⟨⟨y.Stack[(len y.Stack - 1).toNat], y.Regs, y.Mem, y.Stack.take (len y.Stack - 1).toNat, y.In, y.Out, y.Code, y.Steps + 1⟩, ?_, ?_, g.up (g.stackp _ (List.getElem_mem hlt2)) h.regs h.regw rfl g.memw (by simp; omega) (fun v hv => g.stackp v (List.mem_of_mem_take hv)) hout hin hst'⟩ <;> simp [hg, hc, c0, z, w4]
      · obtain ⟨u, hu, -, -, uw⟩ := g.getw ra
        by_cases z : u = 0
        · subst z
          refine ⟨⟨y.Pc, y.Regs, y.Mem, y.Stack, y.In, y.Out, 8, y.Steps + 1⟩, ?_, ?_, g.up hpc h.regs h.regw rfl g.memw hstk g.stackp hout hin hst'⟩ <;> simp [hu]
        · refine ⟨⟨y.Pc + 1, y.Regs, y.Mem, y.Stack, y.In, y.Out, y.Code, y.Steps + 1⟩, ?_, ?_, g.up hpc' h.regs h.regw rfl g.memw hstk g.stackp hout hin hst'⟩ <;> simp [c0, hu, z]
      · refine ⟨⟨y.Pc, y.Regs, y.Mem, y.Stack, y.In, y.Out, 1, y.Steps + 1⟩, ?_, ?_, g.up hpc h.regs h.regw rfl g.memw hstk g.stackp hout hin hst'⟩ <;> simp
  · have e1 : (y.Code != 0 || y.Steps == 400) = true := by
      by_cases c : y.Code = 0
      · have : y.Steps = 400 := by
          have : ¬ y.Steps < 400 := fun h => c0 ⟨c, h⟩
          omega
        simp [this]
      · simp [c]
    have e2 : (!(y.Code == 0 && decide (y.Steps < 400))) = true := by
      by_cases c : y.Code = 0
      · have : ¬ y.Steps < 400 := fun h => c0 ⟨c, h⟩
        simp [this]
      · simp [c]
    rw [e1, e2]
    exact ⟨y, rfl, rfl, g⟩
end

/-! runs -/
theorem iterN_stop {σt ρt : Type} {B : σt → Option (σt ⊕ ρt)} {I : Nat → σt → Prop} {m : Nat} {r : ρt} (hs : ∀ k s, k < m → I k s → (∃ s', B s = some (.inl s') ∧ I (k + 1) s') ∨ B s = some (.inr r)) (hf : ∀ s, I m s → B s = some (.inr r)) :
    ∀ (d k : Nat) (s : σt), k + d = m → I k s → ∀ n, d < n → iterN B n s = some r
  | 0, k, s, hk, hi, n, hn => by
    obtain ⟨n, rfl⟩ : ∃ j, n = j + 1 := ⟨n - 1, by omega⟩
    obtain rfl : k = m := by omega
    unfold iterN; rw [hf s hi]
  | d + 1, k, s, hk, hi, n, hn => by
    obtain ⟨n, rfl⟩ : ∃ j, n = j + 1 := ⟨n - 1, by omega⟩
    unfold iterN
    rcases hs k s (by omega) hi with ⟨s', h1, h2⟩ | h
    · rw [h1]
      exact iterN_stop hs hf d (k + 1) s' (by omega) h2 n (by omega)
    · rw [h]
def stepF (x : D.Program) (l : List Int) (y : D.State) : D.State := (spec_l05Step x y l).getD y
def runF (x : D.Program) (l : List Int) (y : D.State) : Nat → D.State
  | 0 => y
  | k + 1 => stepF x l (runF x l y k)
section
variable {x : D.Program} {y : D.State} {l : List Int}
theorem step_done (h : y.Code ≠ 0) : spec_l05Step x y l = some y := by
  unfold spec_l05Step
  rw [if_pos (by simp [h])]
theorem run_done {k : Nat} (h : (runF x l y k).Code ≠ 0) : ∀ d, runF x l y (k + d) = runF x l y k
  | 0 => rfl
  | d + 1 => by
    show stepF x l (runF x l y (k + d)) = _
    rw [run_done h d]
    unfold stepF
    rw [step_done h]; rfl
theorem run_good (g : Good x y) (hl : (l.length : Int) = x.In) (hlw : ∀ v ∈ l, wordB x.W v = true) : ∀ k, Good x (runF x l y k)
  | 0 => g
  | k + 1 => by
    obtain ⟨s', h1, -, h3⟩ := step_good (run_good g hl hlw k) hl hlw
    show Good x (stepF x l (runF x l y k))
    unfold stepF
    rw [h1]; exact h3
theorem run_spec (g : Good x y) (hl : (l.length : Int) = x.In) (hlw : ∀ v ∈ l, wordB x.W v = true) (k : Nat) : spec_l05Step x (runF x l y k) l = some (runF x l y (k + 1)) ∧ impl_State_step (runF x l y k) x l = some (runF x l y (k + 1)) := by
  obtain ⟨s', h1, h2, -⟩ := step_good (run_good g hl hlw k) hl hlw
  have e : runF x l y (k + 1) = s' := by
    show stepF x l (runF x l y k) = s'
    unfold stepF; rw [h1]; rfl
  rw [e]; exact ⟨h1, h2⟩
theorem good_new (h : progB x = true) : Good x (new0 x) := by
  unfold progB at h
  simp only [Bool.and_eq_true, decide_eq_true_eq, List.all_eq_true] at h
  obtain ⟨⟨⟨⟨⟨a1, a2⟩, a3⟩, a4⟩, a5⟩, a6⟩ := h
  obtain ⟨m, -, -, m1, -, hm⟩ := word_iff a1.1 a1.2
  have h0 : wordB x.W 0 = true := by rw [hm]; omega
  refine ⟨⟨a1.1, a1.2, a2, a5.2, a6, ⟨by simp [new0], by simp [new0]⟩, by simp [new0], ?_, ?_, by simp [new0], by simp [new0], ⟨by simp [new0], by simp [new0]; omega⟩, ⟨by simp [new0], by simp [new0]⟩, a4.2⟩, ?_, by simp [new0]⟩
  · intro v hv
    simp [new0] at hv
    rcases hv with rfl
    exact h0
  · simp [new0]; omega
  · intro v hv
    simp only [new0, List.mem_replicate] at hv
    rw [hv.2]; exact h0
end
def enc (k : Int) (y : D.State) : Int × Int × Int × Int × Int × List Int × List Int × List Int × List Int := (k, y.Pc, y.In, y.Code, y.Steps, y.Regs, y.Mem, y.Stack, y.Out)
def enc8 (y : D.State) : Int × Int × Int × Int × List Int × List Int × List Int × List Int := (y.Pc, y.In, y.Code, y.Steps, y.Regs, y.Mem, y.Stack, y.Out)
theorem inputs_of {x : D.Program} {l : List Int} (h : inputsB x l = true) : progB x = true ∧ (l.length : Int) = x.In ∧ ∀ v ∈ l, wordB x.W v = true := by
  unfold inputsB at h
  simp only [Bool.and_eq_true, beq_iff_eq, len_nat, List.all_eq_true] at h
  exact ⟨h.1, h.2.2, h.2.1⟩
end Go.Proofs.Ytbfphbpeajmihaa
