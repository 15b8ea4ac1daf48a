/- Texts of this claim put into one: library or plain laws, without the program under test. -/
import Derived.Test.YtbljmkpofaibeaaGreatPLib1

section
namespace Go.Proofs.YtbljmkpofaibeaaGreat
open Go.GL
set_option linter.unusedSimpArgs false
set_option maxRecDepth 100000
theorem impl_bin {k : Nat} {op w : Int} {a b : D.Term} (h3 : 3 ≤ op) (h16 : op ≤ 16) (hc : (a.Op == 0 && b.Op == 0) = false) : impl_reduce (k + 8) ⟨op, w, 0, ⟨[]⟩, [a, b]⟩ = impl_reduceBinary (k + 7) ⟨op, w, 0, ⟨[]⟩, [a, b]⟩ := by
  rw [impl_nc (by simp) (by simp) (by simpa using hc)]
  rw [show ((op == 1) || (op == 2)) = false by simp; omega, show (op == 17) = false by simp; omega, show (op == 19) = false by simp; omega, show ((op == 20) || (op == 21)) = false by simp; omega, show (op == 18) = false by simp; omega]
  rfl
theorem spec_bin {k : Nat} {op w : Int} {a b : D.Term} (h3 : 3 ≤ op) (h16 : op ≤ 16) (hc : (a.Op == 0 && b.Op == 0) = false) : spec_l02Make (k + 8) ⟨op, w, 0, ⟨[]⟩, [a, b]⟩ = spec_l02Two (k + 7) ⟨op, w, 0, ⟨[]⟩, [a, b]⟩ := by
  rw [spec_nc (by simp) (by rw [show ([a, b].all fun x => x.Op == 0) = false by simpa using hc]; simp)]
  rw [show decide (3 ≤ op ∧ op ≤ 16) = true by simp; omega]
  rfl
theorem zero_ok {w : Int} (h1 : 1 ≤ w) (h2 : w ≤ 16) : wordB w 0 = true := by
  obtain ⟨p1, p2, p3⟩ := pow_le h1 h2
  rw [word_iff h1 h2, p1]; omega
/-- two kids are swapped -/
theorem step_swap {op w : Int} {a b : D.Term} (ho : op = 3 ∨ op = 5 ∨ op = 8 ∨ op = 9 ∨ op = 10 ∨ op = 14) (ha : nodeB a = true) (hb : nodeB b = true) (hw : a.W = b.W) (h1 : op ≤ 13 → a.W = w) (h2 : 14 ≤ op → w = 1)
    (hc : (a.Op == 0 && b.Op == 0) = false) (hn : cnt a ≤ 240) (hs : ctm a b = 1) : Stp ⟨op, w, 0, ⟨[]⟩, [a, b]⟩ := by
  have hma := msz_cnt ha
  have i1 : ∀ k, 1100000 ≤ k → impl_CompareTerms (k + 6) a b = some (ctm a b) := fun k hk => impl_cmp _ _ _ (by omega) (by omega)
  have s1 : ∀ k, 1100000 ≤ k → spec_CompareTerms (k + 6) a b = some (ctm a b) := fun k hk => spec_cmp _ _ _ (by omega) (by omega)
  refine .go 5 6 (u := ⟨op, w, 0, ⟨[]⟩, [b, a]⟩) ⟨mk_bin (by omega) (by omega) hb ha hw.symm (fun o => by have := h1 o; omega) h2, rfl, by rw [cnt2, cnt2]; omega, ?_⟩ (fun k hk => ?_) (fun k hk => ?_)
  · have e : ctm b a = -1 := by rw [ctm_neg, hs]
    unfold mea swp
    rw [cnt2, cnt2]
    simp [e, hs]; omega
  · rw [impl_bin (by omega) (by omega) hc]
    rcases ho with rfl | rfl | rfl | rfl | rfl | rfl <;> simp [impl_reduceBinary, impl_remake, bind_id, impl_swapsKids, get0, get1, i1 k hk, hs]
  · rw [spec_bin (by omega) (by omega) hc]
    rcases ho with rfl | rfl | rfl | rfl | rfl | rfl <;> simp [spec_l02Two, bind_id, get0, get1, s1 k hk, hs, l01In_eq]
/-- a constant, and a constant within the second kid -/
theorem step_assoc {op w : Int} {a b : D.Term} (ho : op = 3 ∨ op = 5 ∨ op = 8 ∨ op = 9 ∨ op = 10) (ha : nodeB a = true) (hb : nodeB b = true) (hw : a.W = b.W) (h1 : a.W = w)
    (ha0 : a.Op = 0) (hb0 : b.Op ≠ 0) (hn : cnt a ≤ 240) (hs : ctm a b ≠ 1) (hs2 : ctm a b ≠ 0)
    (f1 : ∀ k, 1100000 ≤ k → ∃ x, impl_reduceFirst (k + 6) op w a b = some (x, false)) (f2 : ∀ k, 1100000 ≤ k → ∃ x, spec_l02First (k + 6) ⟨op, w, 0, ⟨[]⟩, [a, b]⟩ = some (x, false)) : Stp ⟨op, w, 0, ⟨[]⟩, [a, b]⟩ := by
  have hma := msz_cnt ha
  have hc : (a.Op == 0 && b.Op == 0) = false := by simp [hb0]
  have gt : ¬ 0 < ctm a b := by have := ctm_vals a b; omega
  have i1 : ∀ k, 1100000 ≤ k → impl_CompareTerms (k + 6) a b = some (ctm a b) := fun k hk => impl_cmp _ _ _ (by omega) (by omega)
  have s1 : ∀ k, 1100000 ≤ k → spec_CompareTerms (k + 6) a b = some (ctm a b) := fun k hk => spec_cmp _ _ _ (by omega) (by omega)
  have i2 : ∀ k, 1100000 ≤ k → impl_sameTerm (k + 6) a b = some (ctm a b == 0) := fun k hk => impl_same (by omega) (by omega)
  have s2 : ∀ k, 1100000 ≤ k → spec_l02Same (k + 6) a b = some (ctm a b == 0) := fun k hk => spec_same (by omega) (by omega)
  have me : nodeB ⟨op, w, 0, ⟨[]⟩, [a, b]⟩ = true := mk_bin (by omega) (by omega) ha hb hw (fun _ => h1) (fun o => by omega)
  obtain ⟨ea, va⟩ := const_eq ha ha0
  by_cases e1 : b.Op = op
  rotate_left
  · refine .fin me rfl (Nat.le_refl _) (fun k hk => ?_) (fun k hk => ?_)
    · obtain ⟨x, f⟩ := f1 k hk
      rw [impl_bin (by omega) (by omega) hc]
      rcases ho with rfl | rfl | rfl | rfl | rfl <;> simp [impl_reduceBinary, bind_id, impl_swapsKids, impl_constIs, impl_isConst, get0, get1, i1 k hk, i2 k hk, hs, hs2, ha0, hb0, f, e1]
    · obtain ⟨x, f⟩ := f2 k hk
      rw [spec_bin (by omega) (by omega) hc]
      rcases ho with rfl | rfl | rfl | rfl | rfl <;> simp [spec_l02Two, bind_id, spec_l02Is, get0, get1, s1 k hk, s2 k hk, gt, hs2, ha0, hb0, f, e1, l01In_eq]
  obtain ⟨c, d, eb, hcc, hd, hcd, hcw⟩ := kid_bin hb e1 (by omega) (by omega)
  have ekb : b.Kids = [c, d] := by rw [eb]
  by_cases e2 : c.Op = 0
  rotate_left
  · refine .fin me rfl (Nat.le_refl _) (fun k hk => ?_) (fun k hk => ?_)
    · obtain ⟨x, f⟩ := f1 k hk
      rw [impl_bin (by omega) (by omega) hc]
      rcases ho with rfl | rfl | rfl | rfl | rfl <;> simp [impl_reduceBinary, bind_id, impl_swapsKids, impl_constIs, impl_isConst, get0, get1, i1 k hk, i2 k hk, hs, hs2, ha0, hb0, f, e1, ekb, e2]
    · obtain ⟨x, f⟩ := f2 k hk
      rw [spec_bin (by omega) (by omega) hc]
      rcases ho with rfl | rfl | rfl | rfl | rfl <;> simp [spec_l02Two, bind_id, spec_l02Is, get0, get1, s1 k hk, s2 k hk, gt, hs2, ha0, hb0, f, e1, l01In_eq, ekb, e2]
  obtain ⟨ec, vc⟩ := const_eq hcc e2
  obtain ⟨r, q1, q2⟩ := ApplyBinary_eq op w a.N c.N
  have vr : wordB w r = true := (bin_ok q1 (by rw [← h1]; exact va) (by rw [← h1, hw, ← hcw (by omega)]; exact vc)).1 ⟨by omega, by omega⟩
  have gw := wordB_width vr
  refine .go 5 6 (u := ⟨op, w, 0, ⟨[]⟩, [⟨0, w, r, ⟨[]⟩, []⟩, d]⟩) (good_less (mk_bin (by omega) (by omega) (mk_const vr) hd (by show w = d.W; have := hcw (by omega); omega) (fun _ => rfl) (fun o => by omega)) rfl (by
    have pa := cnt_pos a
    have pc := cnt_pos c
    rw [eb, cnt2, cnt2, cnt2, cnt0]; omega)) (fun k hk => ?_) (fun k hk => ?_)
  · obtain ⟨x, f⟩ := f1 k hk
    rw [impl_bin (by omega) (by omega) hc]
    rcases ho with rfl | rfl | rfl | rfl | rfl <;> simp [impl_reduceBinary, impl_remake, bind_id, impl_swapsKids, impl_constIs, impl_isConst, get0, get1, i1 k hk, i2 k hk, hs, hs2, ha0, hb0, f, e1, ekb, e2, q2, impl_const vr]
  · obtain ⟨x, f⟩ := f2 k hk
    rw [spec_bin (by omega) (by omega) hc]
    rcases ho with rfl | rfl | rfl | rfl | rfl <;> simp [spec_l02Two, bind_id, spec_l02Is, get0, get1, s1 k hk, s2 k hk, gt, hs2, ha0, hb0, f, e1, l01In_eq, ekb, e2, q1, spec_const]
theorem ones_ok {a : D.Term} (ha : nodeB a = true) (ha0 : a.Op = 0) : ∃ o, impl_onesOf a.W = some o ∧ spec_l02Ones a = some (a.N == o) ∧ 1 ≤ o ∧ wordB a.W o = true := by
  have g := nodeB_W ha
  obtain ⟨a1, a2, a3, a4, a5⟩ := shl_one g.1 g.2
  refine ⟨2 ^ a.W.toNat - 1, ?_, ?_, by omega, by rw [word_iff g.1 g.2]; omega⟩
  · unfold impl_onesOf; rw [a2]; simp only [Option.bind_some]; rw [a3]
  · unfold spec_l02Ones; simp only [ha0, beq_self_eq_true, if_true, a1, Option.bind_some, Bool.true_and]; rw [a3]
/-- a constant as the first kid: operations whose kids may be swapped -/
theorem step_first {op w : Int} {a b : D.Term} (ho : op = 3 ∨ op = 5 ∨ op = 8 ∨ op = 9 ∨ op = 10 ∨ op = 14) (ha : nodeB a = true) (hb : nodeB b = true) (hw : a.W = b.W) (h1 : op ≤ 13 → a.W = w) (h2 : 14 ≤ op → w = 1)
    (ha0 : a.Op = 0) (hb0 : b.Op ≠ 0) (hn : cnt a ≤ 240) (hs : ctm a b ≠ 1) : Stp ⟨op, w, 0, ⟨[]⟩, [a, b]⟩ := by
  have hma := msz_cnt ha
  have hc : (a.Op == 0 && b.Op == 0) = false := by simp [hb0]
  have gt : ¬ 0 < ctm a b := by have := ctm_vals a b; omega
  have hs2 : ctm a b ≠ 0 := fun e => by
    rw [ctm_eq] at e
    by_cases q : sg a.Op b.Op = 0
    · unfold sg at q; split at q <;> (try split at q) <;> omega
    · simp [q] at e
  have i1 : ∀ k, 1100000 ≤ k → impl_CompareTerms (k + 6) a b = some (ctm a b) := fun k hk => impl_cmp _ _ _ (by omega) (by omega)
  have s1 : ∀ k, 1100000 ≤ k → spec_CompareTerms (k + 6) a b = some (ctm a b) := fun k hk => spec_cmp _ _ _ (by omega) (by omega)
  have i2 : ∀ k, 1100000 ≤ k → impl_sameTerm (k + 6) a b = some (ctm a b == 0) := fun k hk => impl_same (by omega) (by omega)
  have s2 : ∀ k, 1100000 ≤ k → spec_l02Same (k + 6) a b = some (ctm a b == 0) := fun k hk => spec_same (by omega) (by omega)
  have me : nodeB ⟨op, w, 0, ⟨[]⟩, [a, b]⟩ = true := mk_bin (by omega) (by omega) ha hb hw h1 h2
  obtain ⟨o, o1, o2, o3, o4⟩ := ones_ok ha ha0
  obtain ⟨ea, va⟩ := const_eq ha ha0
  have ga := nodeB_W ha
  have tb : cnt b ≤ cnt ⟨op, w, 0, ⟨[]⟩, [a, b]⟩ := by rw [cnt2]; omega
  have tc : ∀ v, cnt ⟨0, w, v, ⟨[]⟩, []⟩ ≤ cnt ⟨op, w, 0, ⟨[]⟩, [a, b]⟩ := fun v => by rw [cnt2, cnt0]; omega
  have ea0 : op ≤ 13 → a.N = 0 → a = ⟨0, w, 0, ⟨[]⟩, []⟩ := fun q e => by rw [ea, e, h1 q]
  have eao : op ≤ 13 → a.N = o → a = ⟨0, w, o, ⟨[]⟩, []⟩ := fun q e => by rw [ea, e, h1 q]
  rcases ho with rfl | rfl | rfl | rfl | rfl | rfl
  · by_cases e0 : a.N = 0
    · refine .fin hb (by show b.W = w; have := h1 (by omega); omega) tb (fun k hk => ?_) (fun k hk => ?_)
      · rw [impl_bin (by omega) (by omega) hc]; simp [impl_reduceBinary, impl_reduceFirst, impl_remake, bind_id, impl_swapsKids, impl_constIs, impl_isConst, get0, get1, i1 k hk, i2 k hk, hs, hs2, ha0, hb0, o1, e0]
      · rw [spec_bin (by omega) (by omega) hc]; simp [spec_l02Two, spec_l02First, bind_id, spec_l02Is, spec_const, get0, get1, s1 k hk, s2 k hk, gt, hs2, ha0, hb0, o2, l01In_eq, e0]
    refine step_assoc (by simp) ha hb hw (h1 (by omega)) ha0 hb0 hn hs hs2 (fun k hk => ?_) (fun k hk => ?_)
    · exact ⟨⟨0, 0, 0, ⟨[]⟩, []⟩, by simp [impl_reduceFirst, ha0, o1, e0]⟩
    · exact ⟨_, by simp [spec_l02First, spec_l02Is, get0, get1, ha0, o2, e0]; rfl⟩
  · by_cases e0 : a.N = 1
    · refine .fin hb (by show b.W = w; have := h1 (by omega); omega) tb (fun k hk => ?_) (fun k hk => ?_)
      · rw [impl_bin (by omega) (by omega) hc]; simp [impl_reduceBinary, impl_reduceFirst, impl_remake, bind_id, impl_swapsKids, impl_constIs, impl_isConst, get0, get1, i1 k hk, i2 k hk, hs, hs2, ha0, hb0, o1, e0]
      · rw [spec_bin (by omega) (by omega) hc]; simp [spec_l02Two, spec_l02First, bind_id, spec_l02Is, spec_const, get0, get1, s1 k hk, s2 k hk, gt, hs2, ha0, hb0, o2, l01In_eq, e0]
    by_cases e1 : a.N = 0
    · refine .fin ha (h1 (by omega)) (by rw [cnt2]; omega) (fun k hk => ?_) (fun k hk => ?_)
      · rw [impl_bin (by omega) (by omega) hc]; simp [impl_reduceBinary, impl_reduceFirst, impl_remake, bind_id, impl_swapsKids, impl_constIs, impl_isConst, get0, get1, i1 k hk, i2 k hk, hs, hs2, ha0, hb0, o1, e0, e1, impl_const (w := w) (v := 0) (by have := h1 (by omega); exact zero_ok (by omega) (by omega))]; exact (ea0 (by omega) (by assumption)).symm
      · rw [spec_bin (by omega) (by omega) hc]; simp [spec_l02Two, spec_l02First, bind_id, spec_l02Is, spec_const, get0, get1, s1 k hk, s2 k hk, gt, hs2, ha0, hb0, o2, l01In_eq, e0, e1, impl_const (w := w) (v := 0) (by have := h1 (by omega); exact zero_ok (by omega) (by omega))]
    refine step_assoc (by simp) ha hb hw (h1 (by omega)) ha0 hb0 hn hs hs2 (fun k hk => ?_) (fun k hk => ?_)
    · exact ⟨⟨0, 0, 0, ⟨[]⟩, []⟩, by simp [impl_reduceFirst, ha0, o1, e0, e1]⟩
    · exact ⟨_, by simp [spec_l02First, spec_l02Is, get0, get1, ha0, o2, e0, e1]; rfl⟩
  · by_cases e0 : a.N = o
    · refine .fin hb (by show b.W = w; have := h1 (by omega); omega) tb (fun k hk => ?_) (fun k hk => ?_)
      · rw [impl_bin (by omega) (by omega) hc]; simp [impl_reduceBinary, impl_reduceFirst, impl_remake, bind_id, impl_swapsKids, impl_constIs, impl_isConst, get0, get1, i1 k hk, i2 k hk, hs, hs2, ha0, hb0, o1, e0, show ¬ o = 0 by omega]
      · rw [spec_bin (by omega) (by omega) hc]; simp [spec_l02Two, spec_l02First, bind_id, spec_l02Is, spec_const, get0, get1, s1 k hk, s2 k hk, gt, hs2, ha0, hb0, o2, l01In_eq, e0, show ¬ o = 0 by omega]
    by_cases e1 : a.N = 0
    · refine .fin ha (h1 (by omega)) (by rw [cnt2]; omega) (fun k hk => ?_) (fun k hk => ?_)
      · rw [impl_bin (by omega) (by omega) hc]; simp [impl_reduceBinary, impl_reduceFirst, impl_remake, bind_id, impl_swapsKids, impl_constIs, impl_isConst, get0, get1, i1 k hk, i2 k hk, hs, hs2, ha0, hb0, o1, e0, e1, impl_const (w := w) (v := 0) (by have := h1 (by omega); exact zero_ok (by omega) (by omega)), show ¬ 0 = o by omega]; exact (ea0 (by omega) (by assumption)).symm
      · rw [spec_bin (by omega) (by omega) hc]; simp [spec_l02Two, spec_l02First, bind_id, spec_l02Is, spec_const, get0, get1, s1 k hk, s2 k hk, gt, hs2, ha0, hb0, o2, l01In_eq, e0, e1, impl_const (w := w) (v := 0) (by have := h1 (by omega); exact zero_ok (by omega) (by omega)), show ¬ 0 = o by omega]
    refine step_assoc (by simp) ha hb hw (h1 (by omega)) ha0 hb0 hn hs hs2 (fun k hk => ?_) (fun k hk => ?_)
    · exact ⟨⟨0, 0, 0, ⟨[]⟩, []⟩, by simp [impl_reduceFirst, ha0, o1, e0, e1]⟩
    · exact ⟨_, by simp [spec_l02First, spec_l02Is, get0, get1, ha0, o2, e0, e1]; rfl⟩
  · by_cases e0 : a.N = 0
    · refine .fin hb (by show b.W = w; have := h1 (by omega); omega) tb (fun k hk => ?_) (fun k hk => ?_)
      · rw [impl_bin (by omega) (by omega) hc]; simp [impl_reduceBinary, impl_reduceFirst, impl_remake, bind_id, impl_swapsKids, impl_constIs, impl_isConst, get0, get1, i1 k hk, i2 k hk, hs, hs2, ha0, hb0, o1, e0]
      · rw [spec_bin (by omega) (by omega) hc]; simp [spec_l02Two, spec_l02First, bind_id, spec_l02Is, spec_const, get0, get1, s1 k hk, s2 k hk, gt, hs2, ha0, hb0, o2, l01In_eq, e0]
    by_cases e1 : a.N = o
    · refine .fin ha (h1 (by omega)) (by rw [cnt2]; omega) (fun k hk => ?_) (fun k hk => ?_)
      · rw [impl_bin (by omega) (by omega) hc]; simp [impl_reduceBinary, impl_reduceFirst, impl_remake, bind_id, impl_swapsKids, impl_constIs, impl_isConst, get0, get1, i1 k hk, i2 k hk, hs, hs2, ha0, hb0, o1, e0, e1, impl_const (w := w) (v := o) (by have := h1 (by omega); rw [← this]; exact o4), show ¬ o = 0 by omega]; exact (eao (by omega) (by assumption)).symm
      · rw [spec_bin (by omega) (by omega) hc]; simp [spec_l02Two, spec_l02First, bind_id, spec_l02Is, spec_const, get0, get1, s1 k hk, s2 k hk, gt, hs2, ha0, hb0, o2, l01In_eq, e0, e1, impl_const (w := w) (v := o) (by have := h1 (by omega); rw [← this]; exact o4), show ¬ o = 0 by omega]
    refine step_assoc (by simp) ha hb hw (h1 (by omega)) ha0 hb0 hn hs hs2 (fun k hk => ?_) (fun k hk => ?_)
    · exact ⟨⟨0, 0, 0, ⟨[]⟩, []⟩, by simp [impl_reduceFirst, ha0, o1, e0, e1]⟩
    · exact ⟨_, by simp [spec_l02First, spec_l02Is, get0, get1, ha0, o2, e0, e1]; rfl⟩
  · by_cases e0 : a.N = 0
    · refine .fin hb (by show b.W = w; have := h1 (by omega); omega) tb (fun k hk => ?_) (fun k hk => ?_)
      · rw [impl_bin (by omega) (by omega) hc]; simp [impl_reduceBinary, impl_reduceFirst, impl_remake, bind_id, impl_swapsKids, impl_constIs, impl_isConst, get0, get1, i1 k hk, i2 k hk, hs, hs2, ha0, hb0, o1, e0]
      · rw [spec_bin (by omega) (by omega) hc]; simp [spec_l02Two, spec_l02First, bind_id, spec_l02Is, spec_const, get0, get1, s1 k hk, s2 k hk, gt, hs2, ha0, hb0, o2, l01In_eq, e0]
    by_cases e1 : a.N = o
    · refine .go 4 5 (u := ⟨1, w, 0, ⟨[]⟩, [b]⟩) (good_less (mk_un' (.inl rfl) hb (by have := h1 (by omega); omega)) rfl (by have := cnt_pos a; rw [cnt1, cnt2]; omega)) (fun k hk => ?_) (fun k hk => ?_)
      · rw [impl_bin (by omega) (by omega) hc]; simp [impl_reduceBinary, impl_reduceFirst, impl_remake, bind_id, impl_swapsKids, impl_constIs, impl_isConst, get0, get1, i1 k hk, i2 k hk, hs, hs2, ha0, hb0, o1, e0, e1, show ¬ o = 0 by omega]; generalize impl_reduce (k + 4) _ = z; cases z <;> simp
      · rw [spec_bin (by omega) (by omega) hc]; simp [spec_l02Two, spec_l02First, bind_id, spec_l02Is, spec_const, get0, get1, s1 k hk, s2 k hk, gt, hs2, ha0, hb0, o2, l01In_eq, e0, e1, show ¬ o = 0 by omega]; generalize spec_l02Make (k + 5) _ = z; cases z <;> simp
    refine step_assoc (by simp) ha hb hw (h1 (by omega)) ha0 hb0 hn hs hs2 (fun k hk => ?_) (fun k hk => ?_)
    · exact ⟨⟨0, 0, 0, ⟨[]⟩, []⟩, by simp [impl_reduceFirst, ha0, o1, e0, e1]⟩
    · exact ⟨_, by simp [spec_l02First, spec_l02Is, get0, get1, ha0, o2, e0, e1]; rfl⟩
  · have hw1 := h2 (by omega)
    by_cases q : a.W = 1
    · rw [q] at va o1
      have hv := (word_iff (by omega) (by omega) a.N).1 va
      have hv2 : a.N = 0 ∨ a.N = 1 := by
        have : (2 : Int) ^ (1 : Int).toNat = 2 := rfl
        omega
      rcases hv2 with e | e
      · refine .go 4 5 (u := ⟨1, 1, 0, ⟨[]⟩, [b]⟩) (good_less (mk_un' (.inl rfl) hb (by omega)) hw1.symm (by have := cnt_pos a; rw [cnt1, cnt2]; omega)) (fun k hk => ?_) (fun k hk => ?_)
        · rw [impl_bin (by omega) (by omega) hc]; simp [impl_reduceBinary, impl_reduceFirst, impl_remake, bind_id, impl_swapsKids, impl_constIs, impl_isConst, get0, get1, i1 k hk, i2 k hk, hs, hs2, ha0, hb0, o1, e, q, hw1]; generalize impl_reduce (k + 4) _ = z; cases z <;> simp
        · rw [spec_bin (by omega) (by omega) hc]; simp [spec_l02Two, spec_l02First, bind_id, spec_l02Is, spec_const, get0, get1, s1 k hk, s2 k hk, gt, hs2, ha0, hb0, o2, l01In_eq, e, q, hw1]; generalize spec_l02Make (k + 5) _ = z; cases z <;> simp
      · refine .fin hb (by show b.W = w; omega) tb (fun k hk => ?_) (fun k hk => ?_)
        · rw [impl_bin (by omega) (by omega) hc]; simp [impl_reduceBinary, impl_reduceFirst, impl_remake, bind_id, impl_swapsKids, impl_constIs, impl_isConst, get0, get1, i1 k hk, i2 k hk, hs, hs2, ha0, hb0, o1, e, q]
        · rw [spec_bin (by omega) (by omega) hc]; simp [spec_l02Two, spec_l02First, bind_id, spec_l02Is, spec_const, get0, get1, s1 k hk, s2 k hk, gt, hs2, ha0, hb0, o2, l01In_eq, e, q]
    · refine .fin me rfl (Nat.le_refl _) (fun k hk => ?_) (fun k hk => ?_)
      · rw [impl_bin (by omega) (by omega) hc]; simp [impl_reduceBinary, impl_reduceFirst, impl_remake, bind_id, impl_swapsKids, impl_constIs, impl_isConst, get0, get1, i1 k hk, i2 k hk, hs, hs2, ha0, hb0, o1, q]
      · rw [spec_bin (by omega) (by omega) hc]; simp [spec_l02Two, spec_l02First, bind_id, spec_l02Is, spec_const, get0, get1, s1 k hk, s2 k hk, gt, hs2, ha0, hb0, o2, l01In_eq, q]
/-- a constant as the first kid: other operations -/
theorem step_first2 {op w : Int} {a b : D.Term} (ho : op = 4 ∨ op = 6 ∨ op = 7 ∨ op = 11 ∨ op = 12 ∨ op = 13 ∨ op = 15 ∨ op = 16) (ha : nodeB a = true) (hb : nodeB b = true) (hw : a.W = b.W) (h1 : op ≤ 13 → a.W = w) (h2 : 14 ≤ op → w = 1)
    (ha0 : a.Op = 0) (hb0 : b.Op ≠ 0) (hn : cnt a ≤ 240) : Stp ⟨op, w, 0, ⟨[]⟩, [a, b]⟩ := by
  have hma := msz_cnt ha
  have hc : (a.Op == 0 && b.Op == 0) = false := by simp [hb0]
  have hs2 : ctm a b ≠ 0 := fun e => by
    rw [ctm_eq] at e
    by_cases q : sg a.Op b.Op = 0
    · unfold sg at q; split at q <;> (try split at q) <;> omega
    · simp [q] at e
  have i2 : ∀ k, 1100000 ≤ k → impl_sameTerm (k + 6) a b = some (ctm a b == 0) := fun k hk => impl_same (by omega) (by omega)
  have s2 : ∀ k, 1100000 ≤ k → spec_l02Same (k + 6) a b = some (ctm a b == 0) := fun k hk => spec_same (by omega) (by omega)
  have me : nodeB ⟨op, w, 0, ⟨[]⟩, [a, b]⟩ = true := mk_bin (by omega) (by omega) ha hb hw h1 h2
  obtain ⟨o, o1, o2, o3, o4⟩ := ones_ok ha ha0
  refine .fin me rfl (Nat.le_refl _) (fun k hk => ?_) (fun k hk => ?_)
  · rw [impl_bin (by omega) (by omega) hc]
    rcases ho with rfl | rfl | rfl | rfl | rfl | rfl | rfl | rfl <;> simp [impl_reduceBinary, impl_reduceFirst, bind_id, impl_swapsKids, impl_constIs, impl_isConst, get0, get1, i2 k hk, hs2, ha0, hb0, o1]
  · rw [spec_bin (by omega) (by omega) hc]
    rcases ho with rfl | rfl | rfl | rfl | rfl | rfl | rfl | rfl <;> simp [spec_l02Two, spec_l02First, bind_id, spec_l02Is, get0, get1, s2 k hk, hs2, ha0, hb0, o2, l01In_eq]
/-- no constant as the first kid -/
theorem step_rest {op w : Int} {a b : D.Term} (h3 : 3 ≤ op) (h16 : op ≤ 16) (ha : nodeB a = true) (hb : nodeB b = true) (hw : a.W = b.W) (h1 : op ≤ 13 → a.W = w) (h2 : 14 ≤ op → w = 1)
    (ha0 : a.Op ≠ 0) (hn : cnt a ≤ 240) (hs : op = 3 ∨ op = 5 ∨ op = 8 ∨ op = 9 ∨ op = 10 ∨ op = 14 → ctm a b ≠ 1) : Stp ⟨op, w, 0, ⟨[]⟩, [a, b]⟩ := by
  have hma := msz_cnt ha
  have hc : (a.Op == 0 && b.Op == 0) = false := by simp [ha0]
  have ga := nodeB_W ha
  have i1 : ∀ k, 1100000 ≤ k → impl_CompareTerms (k + 6) a b = some (ctm a b) := fun k hk => impl_cmp _ _ _ (by omega) (by omega)
  have s1 : ∀ k, 1100000 ≤ k → spec_CompareTerms (k + 6) a b = some (ctm a b) := fun k hk => spec_cmp _ _ _ (by omega) (by omega)
  have i2 : ∀ k, 1100000 ≤ k → impl_sameTerm (k + 6) a b = some (ctm a b == 0) := fun k hk => impl_same (by omega) (by omega)
  have s2 : ∀ k, 1100000 ≤ k → spec_l02Same (k + 6) a b = some (ctm a b == 0) := fun k hk => spec_same (by omega) (by omega)
  have me : nodeB ⟨op, w, 0, ⟨[]⟩, [a, b]⟩ = true := mk_bin (by omega) (by omega) ha hb hw h1 h2
  have hw1 : 1 ≤ w ∧ w ≤ 16 := by omega
  have hz := zero_ok hw1.1 hw1.2
  have ta : cnt a ≤ cnt ⟨op, w, 0, ⟨[]⟩, [a, b]⟩ := by rw [cnt2]; omega
  have tc : ∀ v, cnt ⟨0, w, v, ⟨[]⟩, []⟩ ≤ cnt ⟨op, w, 0, ⟨[]⟩, [a, b]⟩ := fun v => by rw [cnt2, cnt0]; omega
  have hop : op = 3 ∨ op = 4 ∨ op = 5 ∨ op = 6 ∨ op = 7 ∨ op = 8 ∨ op = 9 ∨ op = 10 ∨ op = 11 ∨ op = 12 ∨ op = 13 ∨ op = 14 ∨ op = 15 ∨ op = 16 := by omega
  have gt : op = 3 ∨ op = 5 ∨ op = 8 ∨ op = 9 ∨ op = 10 ∨ op = 14 → ¬ 0 < ctm a b := fun o => by have := ctm_vals a b; have := hs o; omega
  by_cases z : b.Op = 0 ∧ b.N = 0
  · have c1 : impl_constIs b 0 = some true := by simp [impl_constIs, z.1, z.2]
    have c2 : spec_l02Is b 0 = some true := by simp [spec_l02Is, z.1, z.2]
    have hs2 : ctm a b ≠ 0 := fun e => by
      rw [ctm_eq] at e
      by_cases q : sg a.Op b.Op = 0
      · unfold sg at q; split at q <;> (try split at q) <;> omega
      · simp [q] at e
    rcases hop with rfl | rfl | rfl | rfl | rfl | rfl | rfl | rfl | rfl | rfl | rfl | rfl | rfl | rfl
    · refine .fin me rfl (Nat.le_refl _) (fun k hk => ?_) (fun k hk => ?_)
      · rw [impl_bin (by omega) (by omega) hc]; simp [impl_reduceBinary, bind_id, impl_swapsKids, impl_isConst, get0, get1, i1 k hk, i2 k hk, ha0, c1, hs2, hs (by simp)]
      · rw [spec_bin (by omega) (by omega) hc]; simp [spec_l02Two, spec_l02Equal, bind_id, spec_const, get0, get1, s1 k hk, s2 k hk, ha0, c2, l01In_eq, hs2, gt (by simp)]
    · refine .fin ha (h1 (by omega)) ta (fun k hk => ?_) (fun k hk => ?_)
      · rw [impl_bin (by omega) (by omega) hc]; simp [impl_reduceBinary, bind_id, impl_swapsKids, impl_isConst, get0, get1, i1 k hk, i2 k hk, ha0, c1]
      · rw [spec_bin (by omega) (by omega) hc]; simp [spec_l02Two, spec_l02Equal, bind_id, spec_const, get0, get1, s1 k hk, s2 k hk, ha0, c2, l01In_eq]
    · refine .fin me rfl (Nat.le_refl _) (fun k hk => ?_) (fun k hk => ?_)
      · rw [impl_bin (by omega) (by omega) hc]; simp [impl_reduceBinary, bind_id, impl_swapsKids, impl_isConst, get0, get1, i1 k hk, i2 k hk, ha0, c1, hs2, hs (by simp)]
      · rw [spec_bin (by omega) (by omega) hc]; simp [spec_l02Two, spec_l02Equal, bind_id, spec_const, get0, get1, s1 k hk, s2 k hk, ha0, c2, l01In_eq, hs2, gt (by simp)]
    · refine .fin me rfl (Nat.le_refl _) (fun k hk => ?_) (fun k hk => ?_)
      · rw [impl_bin (by omega) (by omega) hc]; simp [impl_reduceBinary, bind_id, impl_swapsKids, impl_isConst, get0, get1, i1 k hk, i2 k hk, ha0, c1, hs2]
      · rw [spec_bin (by omega) (by omega) hc]; simp [spec_l02Two, spec_l02Equal, bind_id, spec_const, get0, get1, s1 k hk, s2 k hk, ha0, c2, l01In_eq, hs2]
    · refine .fin me rfl (Nat.le_refl _) (fun k hk => ?_) (fun k hk => ?_)
      · rw [impl_bin (by omega) (by omega) hc]; simp [impl_reduceBinary, bind_id, impl_swapsKids, impl_isConst, get0, get1, i1 k hk, i2 k hk, ha0, c1, hs2]
      · rw [spec_bin (by omega) (by omega) hc]; simp [spec_l02Two, spec_l02Equal, bind_id, spec_const, get0, get1, s1 k hk, s2 k hk, ha0, c2, l01In_eq, hs2]
    · refine .fin me rfl (Nat.le_refl _) (fun k hk => ?_) (fun k hk => ?_)
      · rw [impl_bin (by omega) (by omega) hc]; simp [impl_reduceBinary, bind_id, impl_swapsKids, impl_isConst, get0, get1, i1 k hk, i2 k hk, ha0, c1, hs2, hs (by simp)]
      · rw [spec_bin (by omega) (by omega) hc]; simp [spec_l02Two, spec_l02Equal, bind_id, spec_const, get0, get1, s1 k hk, s2 k hk, ha0, c2, l01In_eq, hs2, gt (by simp)]
    · refine .fin me rfl (Nat.le_refl _) (fun k hk => ?_) (fun k hk => ?_)
      · rw [impl_bin (by omega) (by omega) hc]; simp [impl_reduceBinary, bind_id, impl_swapsKids, impl_isConst, get0, get1, i1 k hk, i2 k hk, ha0, c1, hs2, hs (by simp)]
      · rw [spec_bin (by omega) (by omega) hc]; simp [spec_l02Two, spec_l02Equal, bind_id, spec_const, get0, get1, s1 k hk, s2 k hk, ha0, c2, l01In_eq, hs2, gt (by simp)]
    · refine .fin me rfl (Nat.le_refl _) (fun k hk => ?_) (fun k hk => ?_)
      · rw [impl_bin (by omega) (by omega) hc]; simp [impl_reduceBinary, bind_id, impl_swapsKids, impl_isConst, get0, get1, i1 k hk, i2 k hk, ha0, c1, hs2, hs (by simp)]
      · rw [spec_bin (by omega) (by omega) hc]; simp [spec_l02Two, spec_l02Equal, bind_id, spec_const, get0, get1, s1 k hk, s2 k hk, ha0, c2, l01In_eq, hs2, gt (by simp)]
    · refine .fin ha (h1 (by omega)) ta (fun k hk => ?_) (fun k hk => ?_)
      · rw [impl_bin (by omega) (by omega) hc]; simp [impl_reduceBinary, bind_id, impl_swapsKids, impl_isConst, get0, get1, i1 k hk, i2 k hk, ha0, c1]
      · rw [spec_bin (by omega) (by omega) hc]; simp [spec_l02Two, spec_l02Equal, bind_id, spec_const, get0, get1, s1 k hk, s2 k hk, ha0, c2, l01In_eq]
    · refine .fin ha (h1 (by omega)) ta (fun k hk => ?_) (fun k hk => ?_)
      · rw [impl_bin (by omega) (by omega) hc]; simp [impl_reduceBinary, bind_id, impl_swapsKids, impl_isConst, get0, get1, i1 k hk, i2 k hk, ha0, c1]
      · rw [spec_bin (by omega) (by omega) hc]; simp [spec_l02Two, spec_l02Equal, bind_id, spec_const, get0, get1, s1 k hk, s2 k hk, ha0, c2, l01In_eq]
    · refine .fin ha (h1 (by omega)) ta (fun k hk => ?_) (fun k hk => ?_)
      · rw [impl_bin (by omega) (by omega) hc]; simp [impl_reduceBinary, bind_id, impl_swapsKids, impl_isConst, get0, get1, i1 k hk, i2 k hk, ha0, c1]
      · rw [spec_bin (by omega) (by omega) hc]; simp [spec_l02Two, spec_l02Equal, bind_id, spec_const, get0, get1, s1 k hk, s2 k hk, ha0, c2, l01In_eq]
    · refine .fin me rfl (Nat.le_refl _) (fun k hk => ?_) (fun k hk => ?_)
      · rw [impl_bin (by omega) (by omega) hc]; simp [impl_reduceBinary, bind_id, impl_swapsKids, impl_isConst, get0, get1, i1 k hk, i2 k hk, ha0, c1, hs2, hs (by simp)]
      · rw [spec_bin (by omega) (by omega) hc]; simp [spec_l02Two, spec_l02Equal, bind_id, spec_const, get0, get1, s1 k hk, s2 k hk, ha0, c2, l01In_eq, hs2, gt (by simp)]
    · obtain rfl := h2 (by omega)
      refine .fin (mk_const (w := 1) (v := 0) (hz)) rfl (tc _) (fun k hk => ?_) (fun k hk => ?_)
      · rw [impl_bin (by omega) (by omega) hc]; simp [impl_reduceBinary, bind_id, impl_swapsKids, impl_isConst, get0, get1, i1 k hk, i2 k hk, ha0, c1, impl_const hz]
      · rw [spec_bin (by omega) (by omega) hc]; simp [spec_l02Two, spec_l02Equal, bind_id, spec_const, get0, get1, s1 k hk, s2 k hk, ha0, c2, l01In_eq]
    · refine .fin me rfl (Nat.le_refl _) (fun k hk => ?_) (fun k hk => ?_)
      · rw [impl_bin (by omega) (by omega) hc]; simp [impl_reduceBinary, bind_id, impl_swapsKids, impl_isConst, get0, get1, i1 k hk, i2 k hk, ha0, c1, hs2]
      · rw [spec_bin (by omega) (by omega) hc]; simp [spec_l02Two, spec_l02Equal, bind_id, spec_const, get0, get1, s1 k hk, s2 k hk, ha0, c2, l01In_eq, hs2]
  · have c1 : impl_constIs b 0 = some false := by
      unfold impl_constIs
      cases h : (b.Op == 0 && b.N == 0)
      · rfl
      · rw [Bool.and_eq_true, beq_iff_eq, beq_iff_eq] at h; exact absurd h z
    have c2 : spec_l02Is b 0 = some false := by
      unfold spec_l02Is
      cases h : (b.Op == 0 && b.N == 0)
      · rfl
      · rw [Bool.and_eq_true, beq_iff_eq, beq_iff_eq] at h; exact absurd h z
    by_cases e : ctm a b = 0
    · rcases hop with rfl | rfl | rfl | rfl | rfl | rfl | rfl | rfl | rfl | rfl | rfl | rfl | rfl | rfl
      · refine .fin me rfl (Nat.le_refl _) (fun k hk => ?_) (fun k hk => ?_)
        · rw [impl_bin (by omega) (by omega) hc]; simp [impl_reduceBinary, bind_id, impl_swapsKids, impl_isConst, get0, get1, i1 k hk, i2 k hk, ha0, c1, e]
        · rw [spec_bin (by omega) (by omega) hc]; simp [spec_l02Two, spec_l02Equal, bind_id, spec_const, get0, get1, s1 k hk, s2 k hk, ha0, c2, l01In_eq, e]
      · refine .fin (mk_const (w := w) (v := 0) (hz)) rfl (tc _) (fun k hk => ?_) (fun k hk => ?_)
        · rw [impl_bin (by omega) (by omega) hc]; simp [impl_reduceBinary, bind_id, impl_swapsKids, impl_isConst, get0, get1, i1 k hk, i2 k hk, ha0, c1, e, impl_const hz]
        · rw [spec_bin (by omega) (by omega) hc]; simp [spec_l02Two, spec_l02Equal, bind_id, spec_const, get0, get1, s1 k hk, s2 k hk, ha0, c2, l01In_eq, e]
      · refine .fin me rfl (Nat.le_refl _) (fun k hk => ?_) (fun k hk => ?_)
        · rw [impl_bin (by omega) (by omega) hc]; simp [impl_reduceBinary, bind_id, impl_swapsKids, impl_isConst, get0, get1, i1 k hk, i2 k hk, ha0, c1, e]
        · rw [spec_bin (by omega) (by omega) hc]; simp [spec_l02Two, spec_l02Equal, bind_id, spec_const, get0, get1, s1 k hk, s2 k hk, ha0, c2, l01In_eq, e]
      · refine .fin me rfl (Nat.le_refl _) (fun k hk => ?_) (fun k hk => ?_)
        · rw [impl_bin (by omega) (by omega) hc]; simp [impl_reduceBinary, bind_id, impl_swapsKids, impl_isConst, get0, get1, i1 k hk, i2 k hk, ha0, c1, e]
        · rw [spec_bin (by omega) (by omega) hc]; simp [spec_l02Two, spec_l02Equal, bind_id, spec_const, get0, get1, s1 k hk, s2 k hk, ha0, c2, l01In_eq, e]
      · refine .fin me rfl (Nat.le_refl _) (fun k hk => ?_) (fun k hk => ?_)
        · rw [impl_bin (by omega) (by omega) hc]; simp [impl_reduceBinary, bind_id, impl_swapsKids, impl_isConst, get0, get1, i1 k hk, i2 k hk, ha0, c1, e]
        · rw [spec_bin (by omega) (by omega) hc]; simp [spec_l02Two, spec_l02Equal, bind_id, spec_const, get0, get1, s1 k hk, s2 k hk, ha0, c2, l01In_eq, e]
      · refine .fin ha (h1 (by omega)) ta (fun k hk => ?_) (fun k hk => ?_)
        · rw [impl_bin (by omega) (by omega) hc]; simp [impl_reduceBinary, bind_id, impl_swapsKids, impl_isConst, get0, get1, i1 k hk, i2 k hk, ha0, c1, e]
        · rw [spec_bin (by omega) (by omega) hc]; simp [spec_l02Two, spec_l02Equal, bind_id, spec_const, get0, get1, s1 k hk, s2 k hk, ha0, c2, l01In_eq, e]
      · refine .fin ha (h1 (by omega)) ta (fun k hk => ?_) (fun k hk => ?_)
        · rw [impl_bin (by omega) (by omega) hc]; simp [impl_reduceBinary, bind_id, impl_swapsKids, impl_isConst, get0, get1, i1 k hk, i2 k hk, ha0, c1, e]
        · rw [spec_bin (by omega) (by omega) hc]; simp [spec_l02Two, spec_l02Equal, bind_id, spec_const, get0, get1, s1 k hk, s2 k hk, ha0, c2, l01In_eq, e]
      · refine .fin (mk_const (w := w) (v := 0) (hz)) rfl (tc _) (fun k hk => ?_) (fun k hk => ?_)
        · rw [impl_bin (by omega) (by omega) hc]; simp [impl_reduceBinary, bind_id, impl_swapsKids, impl_isConst, get0, get1, i1 k hk, i2 k hk, ha0, c1, e, impl_const hz]
        · rw [spec_bin (by omega) (by omega) hc]; simp [spec_l02Two, spec_l02Equal, bind_id, spec_const, get0, get1, s1 k hk, s2 k hk, ha0, c2, l01In_eq, e]
      · refine .fin me rfl (Nat.le_refl _) (fun k hk => ?_) (fun k hk => ?_)
        · rw [impl_bin (by omega) (by omega) hc]; simp [impl_reduceBinary, bind_id, impl_swapsKids, impl_isConst, get0, get1, i1 k hk, i2 k hk, ha0, c1, e]
        · rw [spec_bin (by omega) (by omega) hc]; simp [spec_l02Two, spec_l02Equal, bind_id, spec_const, get0, get1, s1 k hk, s2 k hk, ha0, c2, l01In_eq, e]
      · refine .fin me rfl (Nat.le_refl _) (fun k hk => ?_) (fun k hk => ?_)
        · rw [impl_bin (by omega) (by omega) hc]; simp [impl_reduceBinary, bind_id, impl_swapsKids, impl_isConst, get0, get1, i1 k hk, i2 k hk, ha0, c1, e]
        · rw [spec_bin (by omega) (by omega) hc]; simp [spec_l02Two, spec_l02Equal, bind_id, spec_const, get0, get1, s1 k hk, s2 k hk, ha0, c2, l01In_eq, e]
      · refine .fin me rfl (Nat.le_refl _) (fun k hk => ?_) (fun k hk => ?_)
        · rw [impl_bin (by omega) (by omega) hc]; simp [impl_reduceBinary, bind_id, impl_swapsKids, impl_isConst, get0, get1, i1 k hk, i2 k hk, ha0, c1, e]
        · rw [spec_bin (by omega) (by omega) hc]; simp [spec_l02Two, spec_l02Equal, bind_id, spec_const, get0, get1, s1 k hk, s2 k hk, ha0, c2, l01In_eq, e]
      · obtain rfl := h2 (by omega)
        refine .fin (mk_const (w := 1) (v := 1) (by decide)) rfl (tc _) (fun k hk => ?_) (fun k hk => ?_)
        · rw [impl_bin (by omega) (by omega) hc]; simp [impl_reduceBinary, bind_id, impl_swapsKids, impl_isConst, get0, get1, i1 k hk, i2 k hk, ha0, c1, e, impl_const (w := 1) (v := 1) (by decide)]
        · rw [spec_bin (by omega) (by omega) hc]; simp [spec_l02Two, spec_l02Equal, bind_id, spec_const, get0, get1, s1 k hk, s2 k hk, ha0, c2, l01In_eq, e]
      · refine .fin (mk_const (w := w) (v := 0) (hz)) rfl (tc _) (fun k hk => ?_) (fun k hk => ?_)
        · rw [impl_bin (by omega) (by omega) hc]; simp [impl_reduceBinary, bind_id, impl_swapsKids, impl_isConst, get0, get1, i1 k hk, i2 k hk, ha0, c1, e, impl_const hz]
        · rw [spec_bin (by omega) (by omega) hc]; simp [spec_l02Two, spec_l02Equal, bind_id, spec_const, get0, get1, s1 k hk, s2 k hk, ha0, c2, l01In_eq, e]
      · refine .fin (mk_const (w := w) (v := 0) (hz)) rfl (tc _) (fun k hk => ?_) (fun k hk => ?_)
        · rw [impl_bin (by omega) (by omega) hc]; simp [impl_reduceBinary, bind_id, impl_swapsKids, impl_isConst, get0, get1, i1 k hk, i2 k hk, ha0, c1, e, impl_const hz]
        · rw [spec_bin (by omega) (by omega) hc]; simp [spec_l02Two, spec_l02Equal, bind_id, spec_const, get0, get1, s1 k hk, s2 k hk, ha0, c2, l01In_eq, e]
    · rcases hop with rfl | rfl | rfl | rfl | rfl | rfl | rfl | rfl | rfl | rfl | rfl | rfl | rfl | rfl
      · refine .fin me rfl (Nat.le_refl _) (fun k hk => ?_) (fun k hk => ?_)
        · rw [impl_bin (by omega) (by omega) hc]; simp [impl_reduceBinary, bind_id, impl_swapsKids, impl_isConst, get0, get1, i1 k hk, i2 k hk, ha0, c1, e, hs (by simp)]
        · rw [spec_bin (by omega) (by omega) hc]; simp [spec_l02Two, spec_l02Equal, bind_id, spec_const, get0, get1, s1 k hk, s2 k hk, ha0, c2, l01In_eq, e, gt (by simp)]
      · refine .fin me rfl (Nat.le_refl _) (fun k hk => ?_) (fun k hk => ?_)
        · rw [impl_bin (by omega) (by omega) hc]; simp [impl_reduceBinary, bind_id, impl_swapsKids, impl_isConst, get0, get1, i1 k hk, i2 k hk, ha0, c1, e]
        · rw [spec_bin (by omega) (by omega) hc]; simp [spec_l02Two, spec_l02Equal, bind_id, spec_const, get0, get1, s1 k hk, s2 k hk, ha0, c2, l01In_eq, e]
      · refine .fin me rfl (Nat.le_refl _) (fun k hk => ?_) (fun k hk => ?_)
        · rw [impl_bin (by omega) (by omega) hc]; simp [impl_reduceBinary, bind_id, impl_swapsKids, impl_isConst, get0, get1, i1 k hk, i2 k hk, ha0, c1, e, hs (by simp)]
        · rw [spec_bin (by omega) (by omega) hc]; simp [spec_l02Two, spec_l02Equal, bind_id, spec_const, get0, get1, s1 k hk, s2 k hk, ha0, c2, l01In_eq, e, gt (by simp)]
      · refine .fin me rfl (Nat.le_refl _) (fun k hk => ?_) (fun k hk => ?_)
        · rw [impl_bin (by omega) (by omega) hc]; simp [impl_reduceBinary, bind_id, impl_swapsKids, impl_isConst, get0, get1, i1 k hk, i2 k hk, ha0, c1, e]
        · rw [spec_bin (by omega) (by omega) hc]; simp [spec_l02Two, spec_l02Equal, bind_id, spec_const, get0, get1, s1 k hk, s2 k hk, ha0, c2, l01In_eq, e]
      · refine .fin me rfl (Nat.le_refl _) (fun k hk => ?_) (fun k hk => ?_)
        · rw [impl_bin (by omega) (by omega) hc]; simp [impl_reduceBinary, bind_id, impl_swapsKids, impl_isConst, get0, get1, i1 k hk, i2 k hk, ha0, c1, e]
        · rw [spec_bin (by omega) (by omega) hc]; simp [spec_l02Two, spec_l02Equal, bind_id, spec_const, get0, get1, s1 k hk, s2 k hk, ha0, c2, l01In_eq, e]
      · refine .fin me rfl (Nat.le_refl _) (fun k hk => ?_) (fun k hk => ?_)
        · rw [impl_bin (by omega) (by omega) hc]; simp [impl_reduceBinary, bind_id, impl_swapsKids, impl_isConst, get0, get1, i1 k hk, i2 k hk, ha0, c1, e, hs (by simp)]
        · rw [spec_bin (by omega) (by omega) hc]; simp [spec_l02Two, spec_l02Equal, bind_id, spec_const, get0, get1, s1 k hk, s2 k hk, ha0, c2, l01In_eq, e, gt (by simp)]
      · refine .fin me rfl (Nat.le_refl _) (fun k hk => ?_) (fun k hk => ?_)
        · rw [impl_bin (by omega) (by omega) hc]; simp [impl_reduceBinary, bind_id, impl_swapsKids, impl_isConst, get0, get1, i1 k hk, i2 k hk, ha0, c1, e, hs (by simp)]
        · rw [spec_bin (by omega) (by omega) hc]; simp [spec_l02Two, spec_l02Equal, bind_id, spec_const, get0, get1, s1 k hk, s2 k hk, ha0, c2, l01In_eq, e, gt (by simp)]
      · refine .fin me rfl (Nat.le_refl _) (fun k hk => ?_) (fun k hk => ?_)
        · rw [impl_bin (by omega) (by omega) hc]; simp [impl_reduceBinary, bind_id, impl_swapsKids, impl_isConst, get0, get1, i1 k hk, i2 k hk, ha0, c1, e, hs (by simp)]
        · rw [spec_bin (by omega) (by omega) hc]; simp [spec_l02Two, spec_l02Equal, bind_id, spec_const, get0, get1, s1 k hk, s2 k hk, ha0, c2, l01In_eq, e, gt (by simp)]
      · refine .fin me rfl (Nat.le_refl _) (fun k hk => ?_) (fun k hk => ?_)
        · rw [impl_bin (by omega) (by omega) hc]; simp [impl_reduceBinary, bind_id, impl_swapsKids, impl_isConst, get0, get1, i1 k hk, i2 k hk, ha0, c1, e]
        · rw [spec_bin (by omega) (by omega) hc]; simp [spec_l02Two, spec_l02Equal, bind_id, spec_const, get0, get1, s1 k hk, s2 k hk, ha0, c2, l01In_eq, e]
      · refine .fin me rfl (Nat.le_refl _) (fun k hk => ?_) (fun k hk => ?_)
        · rw [impl_bin (by omega) (by omega) hc]; simp [impl_reduceBinary, bind_id, impl_swapsKids, impl_isConst, get0, get1, i1 k hk, i2 k hk, ha0, c1, e]
        · rw [spec_bin (by omega) (by omega) hc]; simp [spec_l02Two, spec_l02Equal, bind_id, spec_const, get0, get1, s1 k hk, s2 k hk, ha0, c2, l01In_eq, e]
      · refine .fin me rfl (Nat.le_refl _) (fun k hk => ?_) (fun k hk => ?_)
        · rw [impl_bin (by omega) (by omega) hc]; simp [impl_reduceBinary, bind_id, impl_swapsKids, impl_isConst, get0, get1, i1 k hk, i2 k hk, ha0, c1, e]
        · rw [spec_bin (by omega) (by omega) hc]; simp [spec_l02Two, spec_l02Equal, bind_id, spec_const, get0, get1, s1 k hk, s2 k hk, ha0, c2, l01In_eq, e]
      · refine .fin me rfl (Nat.le_refl _) (fun k hk => ?_) (fun k hk => ?_)
        · rw [impl_bin (by omega) (by omega) hc]; simp [impl_reduceBinary, bind_id, impl_swapsKids, impl_isConst, get0, get1, i1 k hk, i2 k hk, ha0, c1, e, hs (by simp)]
        · rw [spec_bin (by omega) (by omega) hc]; simp [spec_l02Two, spec_l02Equal, bind_id, spec_const, get0, get1, s1 k hk, s2 k hk, ha0, c2, l01In_eq, e, gt (by simp)]
      · refine .fin me rfl (Nat.le_refl _) (fun k hk => ?_) (fun k hk => ?_)
        · rw [impl_bin (by omega) (by omega) hc]; simp [impl_reduceBinary, bind_id, impl_swapsKids, impl_isConst, get0, get1, i1 k hk, i2 k hk, ha0, c1, e]
        · rw [spec_bin (by omega) (by omega) hc]; simp [spec_l02Two, spec_l02Equal, bind_id, spec_const, get0, get1, s1 k hk, s2 k hk, ha0, c2, l01In_eq, e]
      · refine .fin me rfl (Nat.le_refl _) (fun k hk => ?_) (fun k hk => ?_)
        · rw [impl_bin (by omega) (by omega) hc]; simp [impl_reduceBinary, bind_id, impl_swapsKids, impl_isConst, get0, get1, i1 k hk, i2 k hk, ha0, c1, e]
        · rw [spec_bin (by omega) (by omega) hc]; simp [spec_l02Two, spec_l02Equal, bind_id, spec_const, get0, get1, s1 k hk, s2 k hk, ha0, c2, l01In_eq, e]
theorem step_bin {op w : Int} {a b : D.Term} (h3 : 3 ≤ op) (h16 : op ≤ 16) (ha : nodeB a = true) (hb : nodeB b = true) (hw : a.W = b.W) (h1 : op ≤ 13 → a.W = w) (h2 : 14 ≤ op → w = 1) (hc : (a.Op == 0 && b.Op == 0) = false) (hn : cnt a ≤ 240) : Stp ⟨op, w, 0, ⟨[]⟩, [a, b]⟩ := by
  by_cases ho : op = 3 ∨ op = 5 ∨ op = 8 ∨ op = 9 ∨ op = 10 ∨ op = 14
  · by_cases hs : ctm a b = 1
    · exact step_swap ho ha hb hw h1 h2 hc hn hs
    by_cases ha0 : a.Op = 0
    · exact step_first ho ha hb hw h1 h2 ha0 (fun e => by simp [ha0, e] at hc) hn hs
    · exact step_rest h3 h16 ha hb hw h1 h2 ha0 hn fun _ => hs
  · by_cases ha0 : a.Op = 0
    · exact step_first2 (by omega) ha hb hw h1 h2 ha0 (fun e => by simp [ha0, e] at hc) hn
    · exact step_rest h3 h16 ha hb hw h1 h2 ha0 hn fun o => absurd o ho
theorem step {t : D.Term} (h : nodeB t = true) (hn : cnt t ≤ 240) : Stp t := by
  obtain ⟨op, w, m, nm, ks⟩ := t
  obtain ⟨⟨w1, w2⟩, hs⟩ := node_shape h
  by_cases hc : ks ≠ [] ∧ (ks.all fun x => x.Op == 0) = true
  · refine step_known h hc.1 ?_ hc.2
    rcases hs with ⟨_, rfl, _⟩ | ⟨_, rfl, _⟩ | ⟨_, _, _, a, rfl, _⟩ | ⟨_, _, _, _, a, b, rfl, _⟩ | ⟨_, _, _, a, b, c, rfl, _⟩ | ⟨_, _, _, a, b, rfl, _⟩ | ⟨_, _, _, _, a, rfl, _⟩ | ⟨_, _, _, a, rfl, _⟩ <;> simp
  have hc : ks ≠ [] → (ks.all fun x => x.Op == 0) = false := fun e => by
    cases q : ks.all fun x => x.Op == 0
    · rfl
    · exact absurd ⟨e, q⟩ hc
  rcases hs with ⟨ho, rfl, rfl, hv⟩ | ⟨ho, rfl, rfl⟩ | ⟨ho, rfl, rfl, a, rfl, ha, hw⟩ | ⟨h3, h16, rfl, rfl, a, b, rfl, ha, hb, hab, e1, e2⟩ | ⟨rfl, rfl, rfl, a, b, c, rfl, ha, hb, hcc, aw, bw, cw⟩ | ⟨rfl, rfl, rfl, a, b, rfl, ha, hb, hab⟩ | ⟨rfl, rfl, m0, m16, a, rfl, ha, haw⟩ | ⟨ho, rfl, rfl, a, rfl, ha, haw⟩
  · exact step_leaf h (.inl ho)
  · exact step_leaf h (.inr ho)
  · exact step_un ho ha hw (by have := hc (by simp); simpa using this)
  · rw [cnt2] at hn
    exact step_bin h3 h16 ha hb hab e1 e2 (by have := hc (by simp); simpa using this) (by omega)
  · rw [cnt3] at hn
    exact step_if ha hb hcc aw bw cw (by have := hc (by simp); simpa using this) (by omega)
  · rw [cnt2] at hn
    exact step_join ha hb hab w2 (by have := hc (by simp); simpa using this) (by omega)
  · exact step_cut ha m0 m16 w1 haw (by have := hc (by simp); simpa using this)
  · exact step_wid ho ha haw w2 (by have := hc (by simp); simpa using this)
/-- the simpler form of a node: the same for both, a node again, not larger -/
theorem simpler : ∀ (d : Nat) (t : D.Term), mea t ≤ d → nodeB t = true → cnt t ≤ 240 → ∃ r, nodeB r = true ∧ r.W = t.W ∧ cnt r ≤ cnt t ∧ (∀ n, 1100000 + 8 * (d + 1) ≤ n → impl_reduce n t = some r) ∧ ∀ n, 1100000 + 8 * (d + 1) ≤ n → spec_l02Make n t = some r := by
  intro d
  induction d with
  | zero =>
    intro t h
    have := cnt_pos t
    unfold mea at h; omega
  | succ d ih =>
    intro t hm h hn
    obtain ⟨s, hg, h1, h2⟩ := step h hn
    cases s with
    | inl r =>
      refine ⟨r, hg.1, hg.2.1, hg.2.2, fun n hn => ?_, fun n hn => ?_⟩
      · obtain ⟨k, rfl⟩ : ∃ k, n = k + 8 := ⟨n - 8, by omega⟩
        obtain ⟨k', _, e⟩ := h1 k (by omega)
        exact e
      · obtain ⟨k, rfl⟩ : ∃ k, n = k + 8 := ⟨n - 8, by omega⟩
        obtain ⟨k', _, e⟩ := h2 k (by omega)
        exact e
    | inr u =>
      obtain ⟨g1, g2, g3, g4⟩ := hg
      obtain ⟨r, q1, q2, q3, q4, q5⟩ := ih u (by omega) g1 (by omega)
      refine ⟨r, q1, by rw [q2, g2], by omega, fun n hn => ?_, fun n hn => ?_⟩
      · obtain ⟨k, rfl⟩ : ∃ k, n = k + 8 := ⟨n - 8, by omega⟩
        obtain ⟨k', hk', e⟩ := h1 k (by omega)
        rw [e]; exact q4 k' (by omega)
      · obtain ⟨k, rfl⟩ : ∃ k, n = k + 8 := ⟨n - 8, by omega⟩
        obtain ⟨k', hk', e⟩ := h2 k (by omega)
        rw [e]; exact q5 k' (by omega)
theorem simple {t : D.Term} (h : nodeB t = true) (hn : cnt t ≤ 240) : ∃ r, nodeB r = true ∧ r.W = t.W ∧ cnt r ≤ cnt t ∧ impl_reduce fuel t = some r ∧ spec_l02Make fuel t = some r := by
  obtain ⟨r, q1, q2, q3, q4, q5⟩ := simpler (mea t) t (Nat.le_refl _) h hn
  have := swp_le t
  have e : mea t = 2 * cnt t + swp t := rfl
  exact ⟨r, q1, q2, q3, q4 _ (by unfold fuel; omega), q5 _ (by unfold fuel; omega)⟩
end Go.Proofs.YtbljmkpofaibeaaGreat
end

section
namespace Go.Proofs.YtbljmkpofaibeaaGreat
open Go.GL
set_option linter.unusedSimpArgs false
set_option maxRecDepth 100000
theorem spec_copy : ∀ (n : Nat) (t : D.Term), msz t ≤ 1048576 → 1048580 + cnt t ≤ n → spec_l02Copy n t = some t := by
  intro n
  induction n with
  | zero => intro t _ h; omega
  | succ n ih =>
    intro t hs hn
    have hz := msz_eq t
    have hc := cnt_eq t
    rw [spec_l02Copy]
    obtain ⟨r, g1, g2⟩ := iter_all (l := t.Kids) (n := n) (σ := List D.Term) (ρ := List D.Term) (B := fun (s1 : Int × (List D.Term)) =>
    if (decide (s1.1 < (len t.Kids))) then
      (get? t.Kids s1.1).bind fun x1 =>
      (spec_l02Copy n x1).bind fun x2 =>
      (app? s1.2 ([x2] : List D.Term)).bind fun x3 =>
      some (.inl ((w64 (s1.1 + 1)), x3))
    else
      some (.inr (s1.2))) (fun j a => ((j : Int), a)) (fun ys a => a ++ ys = t.Kids ∧ (∀ x ∈ ys, x ∈ t.Kids)) (fun r => r = t.Kids)
      (fun j x xs a hj hx hlen ⟨h1, h2⟩ => by
        have hd : decide ((j : Int) < len t.Kids) = true := by rw [len_nat]; simp; omega
        have hm := h2 x (by simp)
        have m1 := mszs_mem hm
        have m2 := cnts_mem hm
        have hl := congrArg List.length h1
        simp only [List.length_append, List.length_cons] at hl
        simp only [hd, if_true, get?_nat, hx, Option.bind_some, ih x (by omega) (by omega)]
        rw [app_len (by simp; omega)]
        exact .inl ⟨a ++ [x], by simp only [Option.bind_some]; rw [w64_id (by omega) (by omega)]; rfl, by simp [← h1], fun y hy => h2 y (by simp [hy])⟩)
      (fun a ⟨h1, _⟩ => by
        have hd : decide ((t.Kids.length : Int) < len t.Kids) = false := by rw [len_nat]; simp
        simp only [hd, Bool.false_eq_true, if_false]
        exact ⟨_, rfl, by simpa using h1⟩) (a := []) ⟨rfl, fun _ h => h⟩ (by omega)
    rw [show ((0 : Nat) : Int) = 0 from rfl] at g1
    rw [g1, g2]
    cases t; rfl
theorem impl_copy : ∀ n : Nat, (∀ t : D.Term, msz t ≤ 1048576 → 1048580 + 2 * msz t + 1 ≤ n → impl_copyTerm n t = some t) ∧ (∀ l : List D.Term, sml l → 1048580 + 2 * (l.length + mszs l) ≤ n → impl_copyTerms n l = some l) := by
  intro n
  induction n with
  | zero => exact ⟨fun t _ _ => by omega, fun l _ _ => by omega⟩
  | succ n ih =>
    refine ⟨fun t h hn => ?_, fun l h hn => ?_⟩
    · have := msz_eq t
      unfold impl_copyTerm
      rw [ih.2 t.Kids (by unfold sml; omega) (by omega)]
      cases t; rfl
    · unfold sml at h
      unfold impl_copyTerms
      by_cases c0 : l.length = 0
      · have : l = [] := List.length_eq_zero_iff.1 c0
        subst this; rfl
      rw [if_neg (by rw [len_nat]; simp; exact fun e => c0 (by simp [e])), mk?_len (by unfold room; omega)]
      simp only [Option.bind_some]
      obtain ⟨r, g1, g2⟩ := iter_all (l := l) (n := n) (σ := List D.Term) (ρ := List D.Term) (B := fun (s1 : Int × (List D.Term)) =>
          if (decide (s1.1 < (len l))) then
            (get? l s1.1).bind fun x2 =>
            (impl_copyTerm n x2).bind fun x3 =>
            (set? s1.2 s1.1 x3).bind fun x4 =>
            some (.inl ((w64 (s1.1 + 1)), x4))
          else
            some (.inr (s1.2))) (fun k (a : List D.Term) => ((k : Int), a)) (fun ys a => (∃ pre zs : List D.Term, pre ++ ys = l ∧ a = pre ++ zs ∧ zs.length = ys.length) ∧ ∀ x ∈ ys, x ∈ l) (fun r => r = l)
          (fun k x xs a hk' hx hlen ⟨⟨pre, zs, h1, hz, hz'⟩, hm⟩ => by
            have hxl := hm x (by simp)
            have := mszs_mem hxl
            have hl := congrArg List.length h1
            simp only [List.length_cons, List.length_append] at hlen hz' hl
            simp only [get?_nat, hx, Option.bind_some, len_nat]
            rw [if_pos (by simpa using hk'), ih.1 x (by omega) (by omega)]
            simp only [Option.bind_some]
            obtain ⟨z, zs, rfl⟩ : ∃ z zs', zs = z :: zs' := by cases zs with | nil => simp at hz' | cons z zs => exact ⟨_, _, rfl⟩
            have e1 : pre.length = k := by omega
            subst hz
            rw [set?_nat (by simp; omega)]
            refine .inl ⟨(pre ++ z :: zs).set k x, by simp only [Option.bind_some]; rw [w64_id (by omega) (by omega)]; rfl, ⟨pre ++ [x], zs, by simp [← h1], ?_, by simpa using hz'⟩, fun y hy => hm y (by simp [hy])⟩
            rw [List.set_append_right _ _ (by omega), e1, Nat.sub_self]; simp)
          (fun a ⟨⟨pre, zs, h1, h2, h3⟩, _⟩ => by
            have hd : decide ((l.length : Int) < len l) = false := by rw [len_nat]; simp
            simp only [hd, Bool.false_eq_true, if_false]
            simp only [List.length_nil, List.length_eq_zero_iff] at h3
            subst h3
            exact ⟨_, rfl, by rw [h2]; simpa using h1⟩) (a := List.replicate l.length _) ⟨⟨[], _, rfl, rfl, by simp⟩, fun _ h => h⟩ (by omega)
      rw [show ((0 : Nat) : Int) = 0 from rfl] at g1
      rw [g1, g2]
      rfl
theorem small_node {t : D.Term} (h : nodeB t = true) (hn : cnt t ≤ 240) : msz t ≤ 2640 := by
  have := msz_cnt h
  omega
theorem cp_spec {t : D.Term} (h : nodeB t = true) (hn : cnt t ≤ 240) : spec_l02Copy fuel t = some t := spec_copy _ _ (by have := small_node h hn; omega) (by unfold fuel; omega)
theorem cp_impl {t : D.Term} (h : nodeB t = true) (hn : cnt t ≤ 240) : impl_copyTerm fuel t = some t := (impl_copy _).1 _ (by have := small_node h hn; omega) (by have := small_node h hn; unfold fuel; omega)
def t0 : D.Term := ⟨0, 0, 0, ⟨[]⟩, []⟩
/-- the simpler form -/
noncomputable def simp1 (t : D.Term) : D.Term := (impl_reduce fuel t).getD t0
theorem simp1_ok {t : D.Term} (h : nodeB t = true) (hn : cnt t ≤ 240) : nodeB (simp1 t) = true ∧ (simp1 t).W = t.W ∧ cnt (simp1 t) ≤ cnt t ∧ impl_reduce fuel t = some (simp1 t) ∧ spec_l02Make fuel t = some (simp1 t) := by
  obtain ⟨r, q1, q2, q3, q4, q5⟩ := simple h hn
  have e : simp1 t = r := by unfold simp1; rw [q4]; rfl
  rw [e]; exact ⟨q1, q2, q3, q4, q5⟩
theorem termB_parts {t : D.Term} (h : termB t = true) : nodeB t = true ∧ cnt t ≤ 240 := by
  unfold termB at h
  simp only [Bool.and_eq_true, decide_eq_true_eq] at h
  exact ⟨h.1.2, h.1.1⟩
/-- a term that is made, and whether it could be -/
noncomputable def mkT (op w m : Int) (ks : List D.Term) : D.Term × Bool := if termB ⟨op, w, m, ⟨[]⟩, ks⟩ = true then (simp1 ⟨op, w, m, ⟨[]⟩, ks⟩, true) else (t0, false)
theorem mk_sz {op w m : Int} {ks : List D.Term} (h : sml ks) : msz ⟨op, w, m, ⟨[]⟩, ks⟩ ≤ 1048576 := by
  rw [msz_eq]; unfold sml at h; simp; omega
theorem spec_mk {op w m : Int} {ks : List D.Term} (h : sml ks) : spec_MakeTerm fuel op w m ks = some (mkT op w m ks) := by
  unfold spec_MakeTerm mkT
  rw [spec_term (mk_sz h)]
  simp only [Option.bind_some]
  cases c : termB ⟨op, w, m, ⟨[]⟩, ks⟩
  · rfl
  · obtain ⟨a, b⟩ := termB_parts c
    obtain ⟨q1, q2, q3, q4, q5⟩ := simp1_ok a b
    simp only [Bool.not_true, Bool.false_eq_true, if_false, if_true, q5, Option.bind_some, cp_spec q1 (by omega)]
theorem impl_mk {op w m : Int} {ks : List D.Term} (h : sml ks) : impl_makeTerm fuel op w m ks = some (mkT op w m ks) := by
  unfold impl_makeTerm mkT
  rw [impl_term (mk_sz h)]
  simp only [Option.bind_some]
  cases c : termB ⟨op, w, m, ⟨[]⟩, ks⟩
  · rfl
  · obtain ⟨a, b⟩ := termB_parts c
    obtain ⟨q1, q2, q3, q4, q5⟩ := simp1_ok a b
    simp only [Bool.not_true, Bool.false_eq_true, if_false, if_true, q4, Option.bind_some]
/-- a node that is not too large -/
def fine (t : D.Term) : Prop := nodeB t = true ∧ cnt t ≤ 240
theorem fine_of {t : D.Term} (h : termB t = true) : fine t := termB_parts h
theorem mkT_fine {op w m : Int} {ks : List D.Term} (h : (mkT op w m ks).2 = true) : fine (mkT op w m ks).1 ∧ (mkT op w m ks).1.W = w := by
  unfold mkT at h ⊢
  cases c : termB ⟨op, w, m, ⟨[]⟩, ks⟩
  · rw [c] at h; simp at h
  · obtain ⟨a, b⟩ := termB_parts c
    obtain ⟨q1, q2, q3, q4, q5⟩ := simp1_ok a b
    simp only [if_true]
    exact ⟨⟨q1, by omega⟩, q2⟩
theorem fine_sz {t : D.Term} (h : fine t) : msz t ≤ 2640 := small_node h.1 h.2
theorem sml2 {a b : D.Term} (ha : msz a ≤ 2640) (hb : msz b ≤ 1000000) : sml [a, b] := by
  unfold sml
  rw [mszs_cons, mszs_cons, mszs_nil]; simp; omega
/-- all of them, from a term on -/
noncomputable def andT : D.Term → List D.Term → D.Term × Bool
  | a, [] => (a, true)
  | a, x :: l => if (mkT 8 1 0 [a, x]).2 = true then andT (mkT 8 1 0 [a, x]).1 l else (t0, false)
theorem andT_nil (a : D.Term) : andT a [] = (a, true) := by rw [andT]
theorem pair_eta {p : D.Term × Bool} (h : p.2 = true) : (D.Term.mk p.1.Op p.1.W p.1.N p.1.Name p.1.Kids, true) = p := by
  obtain ⟨⟨a, b, c, d, e⟩, q⟩ := p
  cases h; rfl
theorem andT_fine : ∀ {l : List D.Term} {a : D.Term}, fine a → (andT a l).2 = true → fine (andT a l).1
  | [], a, ha, _ => ha
  | x :: l, a, ha, h => by
    unfold andT at h ⊢
    by_cases c : (mkT 8 1 0 [a, x]).2 = true
    · rw [if_pos c] at h ⊢; exact andT_fine (mkT_fine c).1 h
    · rw [if_neg c] at h; cases h
theorem and_loop {mk : Int → Int → Int → List D.Term → Option (D.Term × Bool)} (hmk : ∀ ks, sml ks → mk 8 1 0 ks = some (mkT 8 1 0 ks)) {l : List D.Term} {a : D.Term} (ha : fine a) (hl : l.length ≤ 1048576) (hs : ∀ x ∈ l, msz x ≤ 2640) :
    iterN (fun (s2 : Int × Int × Int × Int × Str × (List D.Term)) =>
      if (decide (s2.1 < (len l))) then
        (get? l s2.1).bind fun x4 =>
        (mk 8 1 0 ([(D.Term.mk s2.2.1 s2.2.2.1 s2.2.2.2.1 s2.2.2.2.2.1 s2.2.2.2.2.2), x4] : List D.Term)).bind fun x5 =>
        if (!x5.2) then
          some (.inr (.inr ((D.Term.mk 0 0 0 ⟨[]⟩ ([] : List D.Term)), false)))
        else
          some (.inl ((w64 (s2.1 + 1)), x5.1.Op, x5.1.W, x5.1.N, x5.1.Name, x5.1.Kids))
      else
        some (.inr (.inl (s2.2.1, s2.2.2.1, s2.2.2.2.1, s2.2.2.2.2.1, s2.2.2.2.2.2)))
     : Int × Int × Int × Int × Str × (List D.Term) → Option ((Int × Int × Int × Int × Str × (List D.Term)) ⊕ ((Int × Int × Int × Str × (List D.Term)) ⊕ (D.Term × Bool)))) fuel (0, a.Op, a.W, a.N, a.Name, a.Kids) = some (if (andT a l).2 = true then (.inl ((andT a l).1.Op, (andT a l).1.W, (andT a l).1.N, (andT a l).1.Name, (andT a l).1.Kids) : ((Int × Int × Int × Str × (List D.Term)) ⊕ (D.Term × Bool))) else .inr (t0, false)) := by
  obtain ⟨r, g1, g2⟩ := iter_all (l := l) (n := fuel) (σ := D.Term) (ρ := (Int × Int × Int × Str × (List D.Term)) ⊕ (D.Term × Bool)) (B := fun (s2 : Int × Int × Int × Int × Str × (List D.Term)) =>
      if (decide (s2.1 < (len l))) then
        (get? l s2.1).bind fun x4 =>
        (mk 8 1 0 ([(D.Term.mk s2.2.1 s2.2.2.1 s2.2.2.2.1 s2.2.2.2.2.1 s2.2.2.2.2.2), x4] : List D.Term)).bind fun x5 =>
        if (!x5.2) then
          some (.inr (.inr ((D.Term.mk 0 0 0 ⟨[]⟩ ([] : List D.Term)), false)))
        else
          some (.inl ((w64 (s2.1 + 1)), x5.1.Op, x5.1.W, x5.1.N, x5.1.Name, x5.1.Kids))
      else
        some (.inr (.inl (s2.2.1, s2.2.2.1, s2.2.2.2.1, s2.2.2.2.2.1, s2.2.2.2.2.2)))) (fun k a => ((k : Int), a.Op, a.W, a.N, a.Name, a.Kids))
    (fun ys b => fine b ∧ andT b ys = andT a l ∧ ∀ x ∈ ys, msz x ≤ 2640) (fun r => r = if (andT a l).2 = true then (.inl ((andT a l).1.Op, (andT a l).1.W, (andT a l).1.N, (andT a l).1.Name, (andT a l).1.Kids) : ((Int × Int × Int × Str × (List D.Term)) ⊕ (D.Term × Bool))) else .inr (t0, false))
    (fun k x xs b hk hx hlen ⟨h1, h2, h3⟩ => by
      have hd : decide ((k : Int) < len l) = true := by rw [len_nat]; simp; omega
      have hsz := fine_sz h1
      have e : (D.Term.mk b.Op b.W b.N b.Name b.Kids) = b := by cases b; rfl
      simp only [hd, if_true, get?_nat, hx, Option.bind_some, e]
      rw [hmk [b, x] (sml2 hsz (by have := h3 x (by simp); omega))]
      simp only [Option.bind_some]
      by_cases c : (mkT 8 1 0 [b, x]).2 = true
      · rw [if_neg (by rw [c]; simp)]
        refine .inl ⟨(mkT 8 1 0 [b, x]).1, by rw [w64_id (by omega) (by omega)]; rfl, (mkT_fine c).1, ?_, fun y hy => h3 y (by simp [hy])⟩
        rw [← h2]
        conv => rhs; unfold andT
        rw [if_pos c]
      · rw [if_pos (by simp [c])]
        refine .inr ⟨_, rfl, ?_⟩
        have : andT a l = (t0, false) := by
          rw [← h2]; unfold andT; rw [if_neg c]
        rw [this]; rfl)
    (fun b ⟨h1, h2, _⟩ => by
      have hd : decide ((l.length : Int) < len l) = false := by rw [len_nat]; simp
      simp only [hd, Bool.false_eq_true, if_false]
      rw [andT_nil] at h2
      rw [← h2]
      exact ⟨_, rfl, rfl⟩) (a := a) ⟨ha, rfl, hs⟩ (lt_fuel hl)
  rw [show ((0 : Nat) : Int) = 0 from rfl] at g1
  rw [g1, g2]
def c11 : D.Term := ⟨0, 1, 1, ⟨[]⟩, []⟩
theorem c11_fine : fine c11 := ⟨mk_const (by decide), by unfold c11; rw [cnt0]; omega⟩
/-- what AllOf gives -/
noncomputable def allT (l : List D.Term) : D.Term × Bool := if tsB l 1 = true then andT c11 l else (t0, false)
theorem tsB_mem {l : List D.Term} {w : Int} (h : tsB l w = true) {x : D.Term} (hx : x ∈ l) : termB x = true ∧ x.W = w := by
  unfold tsB at h
  rw [List.all_eq_true] at h
  have := h x hx
  simpa using this
theorem andT_no : ∀ {l : List D.Term} {a : D.Term}, (andT a l).2 = false → andT a l = (t0, false)
  | [], a, h => by cases h
  | x :: l, a, h => by
    unfold andT at h ⊢
    by_cases c : (mkT 8 1 0 [a, x]).2 = true
    · rw [if_pos c] at h ⊢; exact andT_no h
    · rw [if_neg c]
theorem all_gen2 {α ρ : Type} {l : List α} {b : α → Bool} {z : ρ} (G : α → Int → Option (Int ⊕ (Unit ⊕ ρ))) (hG : ∀ (k : Nat) (x : α), l[k]? = some x → G x k = if b x = true then some (.inl (w64 ((k : Int) + 1))) else some (.inr (.inr z))) (hb : l.length ≤ 1048576) {n : Nat} (hn : l.length < n) :
    iterN (fun (s1 : Int) => if (decide (s1 < (len l))) then (get? l s1).bind fun x1 => G x1 s1 else some (.inr (.inl ()))) n 0 = some (if l.all b = true then (.inl () : Unit ⊕ ρ) else .inr z) := by
  obtain ⟨r, g1, g2⟩ := iter_all (l := l) (n := n) (σ := Unit) (ρ := Unit ⊕ ρ) (B := fun (s1 : Int) => if (decide (s1 < (len l))) then (get? l s1).bind fun x1 => G x1 s1 else some (.inr (.inl ())))
    (fun k _ => (k : Int)) (fun ys _ => ys.all b = l.all b) (fun r => r = if l.all b = true then (.inl () : Unit ⊕ ρ) else .inr z)
    (fun k x xs a hk' hx hlen hi => by
      have hd : decide ((k : Int) < len l) = true := by rw [len_nat]; simp; omega
      simp only [hd, if_true, get?_nat, hx, Option.bind_some]
      rw [hG k x hx]
      rw [List.all_cons] at hi
      cases c : b x
      · rw [c, Bool.false_and] at hi
        exact .inr ⟨_, rfl, by rw [← hi]; rfl⟩
      · rw [c, Bool.true_and] at hi
        exact .inl ⟨(), by rw [w64_id (by omega) (by omega)]; rfl, hi⟩)
    (fun a hi => by
      have hd : decide ((l.length : Int) < len l) = false := by rw [len_nat]; simp
      simp only [hd, Bool.false_eq_true, if_false]
      exact ⟨_, rfl, by rw [← hi]; rfl⟩) (a := ()) rfl hn
  rw [show ((0 : Nat) : Int) = 0 from rfl] at g1
  rw [g1, g2]
theorem spec_all {l : List D.Term} (h : sml l) : spec_AllOf fuel l = some (allT l) := by
  unfold spec_AllOf allT
  have hl := all_gen2 (l := l) (b := fun t => termB t && t.W == 1) (z := ((D.Term.mk 0 0 0 ⟨[]⟩ ([] : List D.Term)), false)) (fun x1 s1 => (spec_TermOk fuel x1).bind fun x2 =>
      if ((!x2) || (x1.W != 1)) then
        some (.inr (.inr ((D.Term.mk 0 0 0 ⟨[]⟩ ([] : List D.Term)), false)))
      else
        some (.inl ((w64 (s1 + 1))))) (fun k x hx => by
    simp only [spec_term (sml_mem h (List.mem_of_getElem? hx)), Option.bind_some]
    cases termB x <;> by_cases c : x.W = 1 <;> simp [c]) (sml_len h) (lt_fuel (sml_len h))
  rw [hl]
  simp only [Option.bind_some]
  cases c : tsB l 1
  · unfold tsB at c
    rw [c]; rfl
  have hm := fun x hx => fine_sz (fine_of (tsB_mem c (x := x) hx).1)
  unfold tsB at c
  rw [c]
  simp only [if_true, spec_const, Option.bind_some]
  have := and_loop (mk := spec_MakeTerm fuel) (fun ks hk => spec_mk hk) c11_fine (sml_len h) hm
  unfold c11 at this
  simp only at this
  rw [this]
  simp only [Option.bind_some]
  cases e : (andT ⟨0, 1, 1, ⟨[]⟩, []⟩ l).2
  · rw [show andT c11 l = (t0, false) from andT_no e]; rfl
  · simp only [if_true]
    exact congrArg some (pair_eta e)
theorem impl_all1 {l : List D.Term} (h : sml l) : impl_allOf fuel l = some (allT l) := by
  unfold impl_allOf allT
  rw [impl_const (by decide)]
  simp only [Option.bind_some]
  have hl := all_gen2 (l := l) (b := fun t => termB t && t.W == 1) (z := ((D.Term.mk 0 0 0 ⟨[]⟩ ([] : List D.Term)), false)) (fun x2 s1 => (impl_TermOk fuel x2).bind fun x3 =>
      (if (!x3) then some default else (get? l s1)).bind fun x4 =>
      if ((!x3) || (x4.W != 1)) then
        some (.inr (.inr ((D.Term.mk 0 0 0 ⟨[]⟩ ([] : List D.Term)), false)))
      else
        some (.inl ((w64 (s1 + 1))))) (fun k x hx => by
    simp only [impl_term (sml_mem h (List.mem_of_getElem? hx)), Option.bind_some, get?_nat, hx]
    cases termB x <;> by_cases c : x.W = 1 <;> simp [c]) (sml_len h) (lt_fuel (sml_len h))
  rw [hl]
  simp only [Option.bind_some]
  cases c : tsB l 1
  · unfold tsB at c
    rw [c]; rfl
  have hm := fun x hx => fine_sz (fine_of (tsB_mem c (x := x) hx).1)
  unfold tsB at c
  rw [c]
  simp only [if_true]
  have := and_loop (mk := impl_makeTerm fuel) (fun ks hk => impl_mk hk) c11_fine (sml_len h) hm
  unfold c11 at this
  simp only at this
  rw [this]
  simp only [Option.bind_some]
  cases e : (andT ⟨0, 1, 1, ⟨[]⟩, []⟩ l).2
  · rw [show andT c11 l = (t0, false) from andT_no e]; rfl
  · simp only [if_true]
    exact congrArg some (pair_eta e)
theorem allT_fine {l : List D.Term} (h : (allT l).2 = true) : fine (allT l).1 := by
  unfold allT at h ⊢
  split at h
  · rename_i c; rw [if_pos c]; exact andT_fine c11_fine h
  · cases h
theorem allT_no {l : List D.Term} (h : (allT l).2 = false) : allT l = (t0, false) := by
  unfold allT at h ⊢
  split
  · rename_i c; rw [if_pos c] at h; exact andT_no h
  · rfl
end Go.Proofs.YtbljmkpofaibeaaGreat
end

section
namespace Go.Proofs.YtbljmkpofaibeaaGreat
open Go.GL
set_option linter.unusedSimpArgs false
set_option maxRecDepth 100000
theorem iterN_go {σt ρt : Type} {B : σt → Option (σt ⊕ ρt)} {s s' : σt} {n : Nat} (h : B s = some (.inl s')) : iterN B (n + 1) s = iterN B n s' := by
  conv => lhs; unfold iterN
  rw [h]
theorem t0_sml : sml t0.Kids := by show [].length + mszs [] ≤ 1048576; rw [mszs_nil]; simp
theorem t0_sz : msz t0 ≤ 1048576 := by rw [msz_eq]; show 0 + 0 + mszs [] ≤ _; rw [mszs_nil]; simp
theorem fine_sml {t : D.Term} (h : fine t) : sml t.Kids := by
  have := fine_sz h
  have := msz_eq t
  unfold sml; omega
theorem eq_term {t : D.Term} (h : msz t ≤ 1048576) : laws_eqTerm fuel t t = some true := (eqT fuel).1 t h (by unfold fuel; omega)
end Go.Proofs.YtbljmkpofaibeaaGreat
end

section
namespace Go.Proofs.YtbljmkpofaibeaaGreat
open Go.GL
set_option linter.unusedSimpArgs false
set_option maxRecDepth 100000
/-- all terms are fine, and there are not too many -/
def fineL (l : List D.Term) : Prop := l.length ≤ 100 ∧ ∀ x ∈ l, fine x
theorem mszs_bound {m : Nat} : ∀ {l : List D.Term}, (∀ x ∈ l, msz x ≤ m) → mszs l ≤ l.length * m
  | [], _ => by rw [mszs_nil]; simp
  | x :: l, h => by
    have h1 := h x (by simp)
    have h2 := mszs_bound (l := l) fun y hy => h y (by simp [hy])
    rw [mszs_cons, List.length_cons, Nat.succ_mul]; omega
theorem fineL_sml {l : List D.Term} (h : fineL l) : sml l := by
  have h1 := mszs_bound (m := 2640) fun x hx => fine_sz (h.2 x hx)
  have h2 := h.1
  unfold sml
  have : l.length * 2640 ≤ 100 * 2640 := Nat.mul_le_mul_right _ h2
  omega
theorem spec_copies {l : List D.Term} (h : fineL l) : spec_l02CopyAll fuel l = some l := by
  unfold spec_l02CopyAll
  have hl := h.1
  obtain ⟨r, g1, g2⟩ := iter_all (l := l) (n := fuel) (σ := List D.Term) (ρ := List D.Term) (B := fun (s1 : Int × (List D.Term)) =>
    if (decide (s1.1 < (len l))) then
      (get? l s1.1).bind fun x1 =>
      (spec_l02Copy fuel x1).bind fun x2 =>
      (app? s1.2 ([x2] : List D.Term)).bind fun x3 =>
      some (.inl ((w64 (s1.1 + 1)), x3))
    else
      some (.inr (s1.2))) (fun j a => ((j : Int), a)) (fun ys a => a ++ ys = l ∧ ∀ x ∈ ys, x ∈ l) (fun r => r = l)
    (fun j x xs a hj hx hlen ⟨h1, h2⟩ => by
      have hd : decide ((j : Int) < len l) = true := by rw [len_nat]; simp; omega
      have hm := h2 x (by simp)
      have hc := congrArg List.length h1
      simp only [List.length_append, List.length_cons] at hc
      simp only [hd, if_true, get?_nat, hx, Option.bind_some, cp_spec (h.2 x hm).1 (h.2 x hm).2]
      rw [app_len (by simp; omega)]
      exact .inl ⟨a ++ [x], by simp only [Option.bind_some]; rw [w64_id (by omega) (by omega)]; rfl, by simp [← h1], fun y hy => h2 y (by simp [hy])⟩)
    (fun a ⟨h1, _⟩ => by
      have hd : decide ((l.length : Int) < len l) = false := by rw [len_nat]; simp
      simp only [hd, Bool.false_eq_true, if_false]
      exact ⟨_, rfl, by simpa using h1⟩) (a := []) ⟨rfl, fun _ h => h⟩ (by unfold fuel; omega)
  rw [show ((0 : Nat) : Int) = 0 from rfl] at g1
  rw [g1, g2]; rfl
theorem impl_copies {l : List D.Term} (h : fineL l) : impl_copyTerms fuel l = some l := (impl_copy fuel).2 l (fineL_sml h) (by
  have := fineL_sml h
  unfold sml at this
  unfold fuel; omega)
/-- a path all of whose terms are fine -/
def fineP (s : D.Path) : Prop := fineL s.Regs ∧ fineL s.Mem ∧ s.Stack.length ≤ 100 ∧ fineL s.Out ∧ fineL s.Cond ∧ s.Turns.length ≤ 100
theorem fineP_small {s : D.Path} (h : fineP s) : smallP s := ⟨fineL_sml h.1, fineL_sml h.2.1, by have := h.2.2.1; omega, fineL_sml h.2.2.2.1, fineL_sml h.2.2.2.2.1, by have := h.2.2.2.2.2; omega⟩
theorem app_i {l : List Int} (h : l.length ≤ 100) : app? ([] : List Int) l = some l := by
  rw [app_len (by simp; omega)]; rfl
theorem app_t {l : List D.Term} (h : l.length ≤ 1000) : app? ([] : List D.Term) l = some l := by
  rw [app_len (by simp; omega)]; rfl
theorem spec_cpP {s : D.Path} (h : fineP s) : spec_l06Copy fuel s = some s := by
  obtain ⟨h1, h2, h3, h4, h5, h6⟩ := h
  unfold spec_l06Copy
  simp only [spec_copies h1, spec_copies h2, app_i h3, spec_copies h4, spec_copies h5, app_i h6, Option.bind_some]
theorem impl_cpP {s : D.Path} (h : fineP s) : impl_copyPath fuel s = some s := by
  obtain ⟨h1, h2, h3, h4, h5, h6⟩ := h
  unfold impl_copyPath slices_Clone___int_int_
  simp only [impl_copies h1, impl_copies h2, app_i h3, impl_copies h4, impl_copies h5, app_i h6, Option.bind_some]
theorem tsB_fine {l : List D.Term} {w : Int} (h : tsB l w = true) (hl : l.length ≤ 100) : fineL l := ⟨hl, fun _ hx => fine_of (tsB_mem h hx).1⟩
theorem progB_all {p : D.Program} (h : progB p = true) : 1 ≤ p.W ∧ p.W ≤ 16 ∧ 0 ≤ p.Mem ∧ p.Mem ≤ 6 ∧ 0 ≤ p.In ∧ p.In ≤ 3 := by
  unfold progB at h
  simp only [Bool.and_eq_true, decide_eq_true_eq] at h
  omega
theorem pathB_fine {p : D.Program} {s : D.Path} (h : pathB p s = true) : fineP s ∧ progB p = true ∧ s.Regs.length = 4 ∧ (s.Mem.length : Int) = p.Mem ∧ s.Out.length ≤ 6 ∧ s.Cond.length ≤ 60 ∧ s.Turns.length ≤ 60 := by
  unfold pathB at h
  simp only [Bool.and_eq_true, decide_eq_true_eq, beq_iff_eq, len_nat] at h
  have e1 : progB p = true := by grind
  have e2 : (s.Regs.length : Int) = 4 := by grind
  have e3 : (s.Mem.length : Int) = p.Mem := by grind
  have e4 : (s.Stack.length : Int) ≤ 3 := by grind
  have e5 : (s.Out.length : Int) ≤ 6 := by grind
  have e6 : (s.Cond.length : Int) ≤ 60 := by grind
  have e7 : (s.Turns.length : Int) ≤ 60 := by grind
  have t1 : tsB s.Regs p.W = true := by grind
  have t2 : tsB s.Mem p.W = true := by grind
  have t3 : tsB s.Out p.W = true := by grind
  have t4 : tsB s.Cond 1 = true := by grind
  have hp := progB_all e1
  exact ⟨⟨tsB_fine t1 (by omega), tsB_fine t2 (by omega), by omega, tsB_fine t3 (by omega), tsB_fine t4 (by omega), by omega⟩, e1, by omega, e3, by omega, by omega, by omega⟩
/-- how much two lists have in common at their beginning -/
def cmn {α : Type} (e : α → α → Bool) : List α → List α → Nat
  | x :: l, y :: m => if e x y = true then 1 + cmn e l m else 0
  | _, _ => 0
theorem cmn_le {α : Type} (e : α → α → Bool) : ∀ l m : List α, cmn e l m ≤ l.length ∧ cmn e l m ≤ m.length
  | [], m => by simp [cmn]
  | x :: l, [] => by simp [cmn]
  | x :: l, y :: m => by
    have := cmn_le e l m
    unfold cmn
    split <;> simp <;> omega
theorem cmn_loop {α : Type} [Inhabited α] (e : α → α → Bool) {F : Bool → α → α → Option Bool} {a b : List α} (hF : ∀ x ∈ a, ∀ y ∈ b, F true x y = some (e x y)) (hF0 : ∀ x y, ∃ z, F false x y = some z) (ha : a.length ≤ 1000) : ∀ (d k n : Nat), k + d = a.length → d < n →
    iterN (fun (s1 : Int) =>
      (if ((decide (s1 < (len a))) && (decide (s1 < (len b)))) then (get? a s1) else some default).bind fun x4 =>
      (if ((decide (s1 < (len a))) && (decide (s1 < (len b)))) then (get? b s1) else some default).bind fun x5 =>
      (F ((decide (s1 < (len a))) && (decide (s1 < (len b)))) x4 x5).bind fun x6 =>
      if (((decide (s1 < (len a))) && (decide (s1 < (len b)))) && x6) then
        some (.inl ((w64 (s1 + 1))))
      else
        some (.inr (s1))) n (k : Int) = some ((k + cmn e (a.drop k) (b.drop k) : Nat) : Int) := by
  have stop : ∀ (k n : Nat), ¬ (k < a.length ∧ k < b.length) → 0 < n → iterN (fun (s1 : Int) =>
      (if ((decide (s1 < (len a))) && (decide (s1 < (len b)))) then (get? a s1) else some default).bind fun x4 =>
      (if ((decide (s1 < (len a))) && (decide (s1 < (len b)))) then (get? b s1) else some default).bind fun x5 =>
      (F ((decide (s1 < (len a))) && (decide (s1 < (len b)))) x4 x5).bind fun x6 =>
      if (((decide (s1 < (len a))) && (decide (s1 < (len b)))) && x6) then
        some (.inl ((w64 (s1 + 1))))
      else
        some (.inr (s1))) n (k : Int) = some (k : Int) := by
    intro k n hk hn
    have hc : ((decide ((k : Int) < (len a))) && (decide ((k : Int) < (len b)))) = false := by
      rw [len_nat, len_nat]
      simp only [Bool.and_eq_false_iff, decide_eq_false_iff_not]
      omega
    obtain ⟨z, hz⟩ := hF0 default default
    refine iterN_stop ?_ hn
    simp only [hc, Bool.false_eq_true, if_false, Option.bind_some, hz, Bool.false_and]
  intro d
  induction d with
  | zero =>
    intro k n hk hn
    rw [stop k n (by omega) hn, List.drop_eq_nil_of_le (by omega)]
    simp [cmn]
  | succ d ih =>
    intro k n hk hn
    by_cases hb : k < b.length
    · have hc : ((decide ((k : Int) < (len a))) && (decide ((k : Int) < (len b)))) = true := by
        rw [len_nat, len_nat]; simp; omega
      have ga : a[k]? = some a[k] := List.getElem?_eq_getElem (by omega)
      have gb : b[k]? = some b[k] := List.getElem?_eq_getElem hb
      rw [List.drop_eq_getElem_cons (by omega : k < a.length), List.drop_eq_getElem_cons hb]
      obtain ⟨n, rfl⟩ : ∃ m, n = m + 1 := ⟨n - 1, by omega⟩
      have hf := hF a[k] (List.getElem_mem _) b[k] (List.getElem_mem _)
      unfold cmn
      by_cases q : e a[k] b[k] = true
      · rw [if_pos q, iterN_go (s' := ((k + 1 : Nat) : Int)), ih (k + 1) n (by omega) (by omega)]
        · congr 2; omega
        · simp only [hc, if_true, get?_nat, ga, gb, Option.bind_some, hf, q, Bool.and_self]
          rw [w64_id (by omega) (by omega)]; rfl
      · rw [if_neg q]
        refine iterN_stop ?_ (by omega)
        have q' : e a[k] b[k] = false := by simpa using q
        simp only [hc, if_true, get?_nat, ga, gb, Option.bind_some, hf, q', Bool.and_false, Bool.false_eq_true, if_false]
        rfl
    · rw [stop k n (by omega) (by omega), @List.drop_eq_nil_of_le _ b _ (by omega)]
      cases a.drop k <;> simp [cmn]
def sameB (x y : D.Term) : Bool := ctm x y == 0
theorem same_spec {x y : D.Term} (h : fine x) : spec_l02Same fuel x y = some (sameB x y) := spec_same (by have := fine_sz h; omega) (by have := h.2; unfold fuel; omega)
theorem same_impl {x y : D.Term} (h : fine x) : impl_sameTerm fuel x y = some (sameB x y) := impl_same (by have := fine_sz h; omega) (by have := h.2; unfold fuel; omega)
/-- words that are merged; none: one could not be made -/
noncomputable def mwT (x : D.Term) : List D.Term → List D.Term → Option (List D.Term)
  | t :: a, u :: b => if sameB t u = true then (mwT x a b).map fun l => t :: l else if (mkT 17 t.W 0 [x, t, u]).2 = true then (mwT x a b).map fun l => (mkT 17 t.W 0 [x, t, u]).1 :: l else none
  | _, _ => some []
theorem mwT_fine {x : D.Term} : ∀ {a b l : List D.Term}, mwT x a b = some l → (∀ t ∈ a, fine t) → a.length ≤ b.length → (∀ t ∈ l, fine t) ∧ l.length = a.length
  | [], _, l, h, _, _ => by
    unfold mwT at h; cases h; simp
  | t :: a, [], l, h, _, hl => by simp at hl
  | t :: a, u :: b, l, h, hf, hl => by
    unfold mwT at h
    simp only [List.length_cons] at hl
    split at h
    · obtain ⟨m, hm, rfl⟩ := Option.map_eq_some_iff.1 h
      obtain ⟨g1, g2⟩ := mwT_fine hm (fun y hy => hf y (by simp [hy])) (by omega)
      exact ⟨fun y hy => by
        rcases List.mem_cons.1 hy with rfl | hy
        · exact hf _ (by simp)
        · exact g1 y hy, by simp [g2]⟩
    · split at h
      · rename_i c
        obtain ⟨m, hm, rfl⟩ := Option.map_eq_some_iff.1 h
        obtain ⟨g1, g2⟩ := mwT_fine hm (fun y hy => hf y (by simp [hy])) (by omega)
        exact ⟨fun y hy => by
          rcases List.mem_cons.1 hy with rfl | hy
          · exact (mkT_fine c).1
          · exact g1 y hy, by simp [g2]⟩
      · cases h
theorem sml3' {a b c : D.Term} (ha : msz a ≤ 2640) (hb : msz b ≤ 2640) (hc : msz c ≤ 2640) : sml [a, b, c] := by
  unfold sml
  rw [mszs_cons, mszs_cons, mszs_cons, mszs_nil]; simp; omega
theorem set_at {α : Type} {pre zs : List α} {z x : α} {k : Nat} (h : pre.length = k) : (pre ++ z :: zs).set k x = (pre ++ [x]) ++ zs := by
  rw [List.set_append_right _ _ (by omega), h, Nat.sub_self]; simp
theorem impl_mw {x : D.Term} {a b : List D.Term} (hx : fine x) (ha : fineL a) (hb : fineL b) (hl : a.length = b.length) : impl_mergeWords fuel x a b = some (match mwT x a b with | some l => (l, true) | none => ([], false)) := by
  unfold impl_mergeWords
  have hal := ha.1
  rw [mk?_len (by unfold room; omega)]
  simp only [Option.bind_some]
  have main : ∀ (d k n : Nat) (pre zs : List D.Term), k + d = a.length → d < n → pre.length = k → zs.length = d →
      iterN (fun (s1 : Int × (List D.Term)) =>
        if (decide (s1.1 < (len a))) then
          (get? a s1.1).bind fun x2 =>
          (get? b s1.1).bind fun x3 =>
          (impl_sameTerm fuel x2 x3).bind fun x4 =>
          if x4 then
            (get? a s1.1).bind fun x5 =>
            (set? s1.2 s1.1 x5).bind fun x6 =>
            some (.inl ((w64 (s1.1 + 1)), x6))
          else
            (get? a s1.1).bind fun x7 =>
            (get? a s1.1).bind fun x8 =>
            (get? b s1.1).bind fun x9 =>
            (impl_makeTerm fuel 17 x7.W 0 ([x, x8, x9] : List D.Term)).bind fun x10 =>
            if (!x10.2) then
              some (.inr (.inr (([] : List D.Term), false)))
            else
              (set? s1.2 s1.1 x10.1).bind fun x11 =>
              some (.inl ((w64 (s1.1 + 1)), x11))
        else
          some (.inr (.inl (s1.2))) : Int × List D.Term → Option ((Int × List D.Term) ⊕ (List D.Term ⊕ (List D.Term × Bool)))) n ((k : Int), pre ++ zs) = some (match mwT x (a.drop k) (b.drop k) with | some l => (.inl (pre ++ l) : List D.Term ⊕ (List D.Term × Bool)) | none => .inr ([], false)) := by
    intro d
    induction d with
    | zero =>
      intro k n pre zs hk hn hp hz
      refine iterN_stop ?_ hn
      have hd : decide ((k : Int) < len a) = false := by rw [len_nat]; simp; omega
      rw [List.drop_eq_nil_of_le (by omega : a.length ≤ k)]
      simp only [hd, Bool.false_eq_true, if_false]
      have : zs = [] := List.eq_nil_of_length_eq_zero hz
      subst this
      unfold mwT; rfl
    | succ d ih =>
      intro k n pre zs hk hn hp hz
      obtain ⟨n, rfl⟩ : ∃ m, n = m + 1 := ⟨n - 1, by omega⟩
      have hd : decide ((k : Int) < len a) = true := by rw [len_nat]; simp; omega
      have ga : a[k]? = some a[k] := List.getElem?_eq_getElem (by omega)
      have gb : b[k]? = some b[k] := List.getElem?_eq_getElem (by omega)
      have fa := ha.2 a[k] (List.getElem_mem _)
      have fb := hb.2 b[k] (List.getElem_mem _)
      obtain ⟨z, zs, rfl⟩ : ∃ z zs', zs = z :: zs' := by cases zs with | nil => simp at hz | cons z zs => exact ⟨_, _, rfl⟩
      simp only [List.length_cons] at hz
      have em := impl_mk (op := 17) (w := a[k].W) (m := 0) (ks := [x, a[k], b[k]]) (sml3' (fine_sz hx) (fine_sz fa) (fine_sz fb))
      have hset : ∀ y, set? (pre ++ z :: zs) (k : Int) y = some ((pre ++ [y]) ++ zs) := fun y => by
        rw [set?_nat (by simp; omega), set_at hp]
      rw [List.drop_eq_getElem_cons (by omega : k < a.length), List.drop_eq_getElem_cons (by omega : k < b.length)]
      conv => rhs; unfold mwT
      by_cases q : sameB a[k] b[k] = true
      · rw [if_pos q, iterN_go (s' := (((k + 1 : Nat) : Int), (pre ++ [a[k]]) ++ zs)), ih (k + 1) n _ zs (by omega) (by omega) (by simp [hp]) (by omega)]
        · cases mwT x (a.drop (k + 1)) (b.drop (k + 1)) <;> simp
        · simp only [hd, if_true, get?_nat, ga, gb, Option.bind_some, same_impl fa, q, hset]
          rw [w64_id (by omega) (by omega)]; rfl
      · have q' : sameB a[k] b[k] = false := by simpa using q
        rw [if_neg q]
        by_cases r : (mkT 17 a[k].W 0 [x, a[k], b[k]]).2 = true
        · rw [if_pos r, iterN_go (s' := (((k + 1 : Nat) : Int), (pre ++ [(mkT 17 a[k].W 0 [x, a[k], b[k]]).1]) ++ zs)), ih (k + 1) n _ zs (by omega) (by omega) (by simp [hp]) (by omega)]
          · cases mwT x (a.drop (k + 1)) (b.drop (k + 1)) <;> simp
          · simp only [hd, if_true, get?_nat, ga, gb, Option.bind_some, same_impl fa, q', Bool.false_eq_true, if_false, em, r, Bool.not_true, hset]
            rw [w64_id (by omega) (by omega)]; rfl
        · rw [if_neg r]
          refine iterN_stop ?_ (by omega)
          have r' : (mkT 17 a[k].W 0 [x, a[k], b[k]]).2 = false := by simpa using r
          simp only [hd, if_true, get?_nat, ga, gb, Option.bind_some, same_impl fa, q', Bool.false_eq_true, if_false, em, r', Bool.not_false]
  have := main a.length 0 fuel [] (List.replicate a.length (D.Term.mk 0 0 0 ⟨[]⟩ [])) (by omega) (by unfold fuel; omega) rfl (by simp)
  simp only [List.nil_append, List.drop_zero] at this
  rw [show ((0 : Nat) : Int) = 0 from rfl] at this
  rw [this]
  cases mwT x a b <;> rfl
theorem spec_mw {x : D.Term} {a b : List D.Term} (m : Bool) (hx : fine x) (ha : fineL a) (hb : fineL b) (hl : a.length = b.length) : ∃ l, spec_l06Maker_l07Either fuel ⟨m⟩ x a b = some (l, ⟨m || (mwT x a b).isNone⟩) ∧ (m = false → ∀ l', mwT x a b = some l' → l = l') := by
  unfold spec_l06Maker_l07Either
  have hal := ha.1
  have main : ∀ (d k n : Nat) (pre : List D.Term) (m : Bool), k + d = a.length → d < n → pre.length = k →
      ∃ l, iterN (fun (s1 : Int × Bool × (List D.Term)) =>
        if (decide (s1.1 < (len a))) then
          (get? a s1.1).bind fun x1 =>
          (get? b s1.1).bind fun x2 =>
          (spec_l02Same fuel x1 x2).bind fun x3 =>
          if ((!x3) && (!s1.2.1)) then
            (get? b s1.1).bind fun x4 =>
            (spec_l06Maker_l06Make fuel (D.l06Maker.mk s1.2.1) 17 x1.W ([x, x1, x4] : List D.Term)).bind fun x5 =>
            (app? s1.2.2 ([x5.1] : List D.Term)).bind fun x6 =>
            some (.inl ((w64 (s1.1 + 1)), x5.2.bad, x6))
          else
            (app? s1.2.2 ([x1] : List D.Term)).bind fun x7 =>
            some (.inl ((w64 (s1.1 + 1)), s1.2.1, x7))
        else
          some (.inr (s1.2.1, s1.2.2)) : Int × Bool × List D.Term → Option ((Int × Bool × List D.Term) ⊕ (Bool × List D.Term))) n ((k : Int), m, pre) = some ((m || (mwT x (a.drop k) (b.drop k)).isNone), l) ∧ (m = false → ∀ l', mwT x (a.drop k) (b.drop k) = some l' → l = pre ++ l') := by
    intro d
    induction d with
    | zero =>
      intro k n pre m hk hn hp
      have hd : decide ((k : Int) < len a) = false := by rw [len_nat]; simp; omega
      rw [List.drop_eq_nil_of_le (by omega : a.length ≤ k)]
      have e : ∀ y, mwT x [] y = some [] := fun y => by unfold mwT; rfl
      refine ⟨pre, ?_, fun _ l' h => by rw [e] at h; cases h; simp⟩
      refine iterN_stop ?_ hn
      simp only [hd, Bool.false_eq_true, if_false]
      rw [e]; simp
    | succ d ih =>
      intro k n pre m hk hn hp
      obtain ⟨n, rfl⟩ : ∃ m, n = m + 1 := ⟨n - 1, by omega⟩
      have hd : decide ((k : Int) < len a) = true := by rw [len_nat]; simp; omega
      have ga : a[k]? = some a[k] := List.getElem?_eq_getElem (by omega)
      have gb : b[k]? = some b[k] := List.getElem?_eq_getElem (by omega)
      have fa := ha.2 a[k] (List.getElem_mem _)
      have fb := hb.2 b[k] (List.getElem_mem _)
      have em := spec_mk (op := 17) (w := a[k].W) (m := 0) (ks := [x, a[k], b[k]]) (sml3' (fine_sz hx) (fine_sz fa) (fine_sz fb))
      have happ : ∀ y, app? pre [y] = some (pre ++ [y]) := fun y => app_len (by simp; omega)
      rw [List.drop_eq_getElem_cons (by omega : k < a.length), List.drop_eq_getElem_cons (by omega : k < b.length)]
      have hm : ∀ y z u v, mwT x (y :: z) (u :: v) = if sameB y u = true then (mwT x z v).map fun l => y :: l else if (mkT 17 y.W 0 [x, y, u]).2 = true then (mwT x z v).map fun l => (mkT 17 y.W 0 [x, y, u]).1 :: l else none := fun y z u v => by
        conv => lhs; unfold mwT
      rw [hm]
      by_cases q : sameB a[k] b[k] = true
      · obtain ⟨l, h1, h2⟩ := ih (k + 1) n (pre ++ [a[k]]) m (by omega) (by omega) (by simp [hp])
        refine ⟨l, ?_, fun hm0 l' h => ?_⟩
        · rw [if_pos q, iterN_go (s' := (((k + 1 : Nat) : Int), m, pre ++ [a[k]])), h1]
          · cases mwT x (a.drop (k + 1)) (b.drop (k + 1)) <;> simp
          · simp only [hd, if_true, get?_nat, ga, gb, Option.bind_some, same_spec fa, q, Bool.not_true, Bool.false_and, Bool.false_eq_true, if_false, happ]
            rw [w64_id (by omega) (by omega)]; rfl
        · rw [if_pos q] at h
          obtain ⟨y, hy, rfl⟩ := Option.map_eq_some_iff.1 h
          rw [h2 hm0 y hy]; simp
      · have q' : sameB a[k] b[k] = false := by simpa using q
        cases m with
        | true =>
          obtain ⟨l, h1, h2⟩ := ih (k + 1) n (pre ++ [a[k]]) true (by omega) (by omega) (by simp [hp])
          refine ⟨l, ?_, fun hm0 => by cases hm0⟩
          rw [iterN_go (s' := (((k + 1 : Nat) : Int), true, pre ++ [a[k]])), h1]
          · simp
          · simp only [hd, if_true, get?_nat, ga, gb, Option.bind_some, same_spec fa, q', Bool.not_true, Bool.and_false, Bool.false_eq_true, if_false, happ]
            rw [w64_id (by omega) (by omega)]; rfl
        | false =>
          by_cases r : (mkT 17 a[k].W 0 [x, a[k], b[k]]).2 = true
          · obtain ⟨l, h1, h2⟩ := ih (k + 1) n (pre ++ [(mkT 17 a[k].W 0 [x, a[k], b[k]]).1]) false (by omega) (by omega) (by simp [hp])
            refine ⟨l, ?_, fun hm0 l' h => ?_⟩
            · rw [if_neg q, if_pos r, iterN_go (s' := (((k + 1 : Nat) : Int), false, pre ++ [(mkT 17 a[k].W 0 [x, a[k], b[k]]).1])), h1]
              · cases mwT x (a.drop (k + 1)) (b.drop (k + 1)) <;> simp
              · simp only [hd, if_true, get?_nat, ga, gb, Option.bind_some, same_spec fa, q', Bool.not_false, Bool.and_self, spec_l06Maker_l06Make, em, r, Bool.not_true, Bool.false_eq_true, if_false, happ]
                rw [w64_id (by omega) (by omega)]; rfl
            · rw [if_neg q, if_pos r] at h
              obtain ⟨y, hy, rfl⟩ := Option.map_eq_some_iff.1 h
              rw [h2 rfl y hy]; simp
          · have r' : (mkT 17 a[k].W 0 [x, a[k], b[k]]).2 = false := by simpa using r
            obtain ⟨l, h1, h2⟩ := ih (k + 1) n (pre ++ [(mkT 17 a[k].W 0 [x, a[k], b[k]]).1]) true (by omega) (by omega) (by simp [hp])
            refine ⟨l, ?_, fun hm0 l' h => ?_⟩
            · rw [if_neg q, if_neg r, iterN_go (s' := (((k + 1 : Nat) : Int), true, pre ++ [(mkT 17 a[k].W 0 [x, a[k], b[k]]).1])), h1]
              · simp
              · simp only [hd, if_true, get?_nat, ga, gb, Option.bind_some, same_spec fa, q', Bool.not_false, Bool.and_self, spec_l06Maker_l06Make, em, r', happ]
                rw [w64_id (by omega) (by omega)]; rfl
            · rw [if_neg q, if_neg r] at h; cases h
  obtain ⟨l, h1, h2⟩ := main a.length 0 fuel [] m (by omega) (by unfold fuel; omega) rfl
  simp only [List.nil_append, List.drop_zero] at h1 h2
  rw [show ((0 : Nat) : Int) = 0 from rfl] at h1
  exact ⟨l, by rw [h1]; rfl, h2⟩
end Go.Proofs.YtbljmkpofaibeaaGreat
end

section
namespace Go.Proofs.YtbljmkpofaibeaaGreat
open Go.GL
set_option linter.unusedSimpArgs false
set_option maxRecDepth 100000
theorem cut_drop {α : Type} {l : List α} {k : Nat} (h : k ≤ l.length) : cut? l (k : Int) (len l) = some (l.drop k) := by
  unfold cut?
  rw [len_nat, if_pos (by omega)]
  simp
theorem cut_take {α : Type} {l : List α} {k : Nat} (h : k ≤ l.length) : cut? l 0 (k : Int) = some (l.take k) := by
  unfold cut?
  rw [if_pos (by omega)]
  simp
theorem fineL_drop {l : List D.Term} (h : fineL l) (k : Nat) : fineL (l.drop k) := ⟨by have := h.1; simp; omega, fun x hx => h.2 x (List.mem_of_mem_drop hx)⟩
theorem fineL_take {l : List D.Term} (h : fineL l) (k : Nat) : fineL (l.take k) := ⟨by have := h.1; simp; omega, fun x hx => h.2 x (List.mem_of_mem_take hx)⟩
theorem sl_eq {l m : List Int} (h : l.length ≤ 100) : slices_Equal___int_int_ fuel l m = some (decide (l = m)) := eq_slice (by omega) (lt_fuel (by omega))
theorem ints_eq {l m : List Int} (h : l.length ≤ 100) : spec_l05Ints fuel l m = some (decide (l = m)) := eq_slice (by omega) (lt_fuel (by omega))
def pz : D.Path := ⟨0, [], [], [], 0, [], 0, 0, [], []⟩
/-- the same place, stack, inputs and count of outputs -/
def alk (a b : D.Path) : Bool := (((a.Pc == b.Pc) && decide (a.Stack = b.Stack)) && (a.In == b.In)) && (len a.Out == len b.Out)
def shp (a b : D.Path) : Bool := alk a b && (a.Code == b.Code)
theorem alk_spec {a b : D.Path} (h : a.Stack.length ≤ 100) : spec_l07Alike fuel a b = some (alk a b) := by
  unfold spec_l07Alike alk
  rw [ints_eq h]
  by_cases c : a.Pc = b.Pc
  · simp [c]
  · have : (a.Pc == b.Pc) = false := by simpa using c
    simp [this]
theorem shp_impl {a b : D.Path} (h : a.Stack.length ≤ 100) : impl_sameShape fuel a b = some (shp a b) := by
  unfold impl_sameShape shp alk
  rw [sl_eq h]
  by_cases c : a.Pc = b.Pc
  · simp only [c, beq_self_eq_true, if_true, Option.bind_some, Bool.true_and]
    cases decide (a.Stack = b.Stack) <;> cases (a.In == b.In) <;> cases (a.Code == b.Code) <;> cases (len a.Out == len b.Out) <;> rfl
  · have : (a.Pc == b.Pc) = false := by simpa using c
    simp [this]
theorem shp_out {a b : D.Path} (h : alk a b = true) : a.Out.length = b.Out.length := by
  unfold alk at h
  simp only [Bool.and_eq_true, beq_iff_eq, len_nat] at h
  omega
theorem cmn_spec {a b : List D.Term} (ha : fineL a) : iterN (fun (s1 : Int) =>
   (if ((decide (s1 < (len a))) && (decide (s1 < (len b)))) then (get? a s1) else some default).bind fun x4 =>
   (if ((decide (s1 < (len a))) && (decide (s1 < (len b)))) then (get? b s1) else some default).bind fun x5 =>
   (if ((decide (s1 < (len a))) && (decide (s1 < (len b)))) then (spec_l02Same fuel x4 x5) else some default).bind fun x6 =>
   if (((decide (s1 < (len a))) && (decide (s1 < (len b)))) && x6) then
    some (.inl ((w64 (s1 + 1))))
   else
    some (.inr (s1))
  ) fuel (0) = some (((cmn sameB a b) : Nat) : Int) := by
  have hl := ha.1
  have := cmn_loop sameB (F := fun c x y => if c then spec_l02Same fuel x y else some default) (a := a) (b := b) (fun x hx y _ => by simp [same_spec (ha.2 x hx)]) (fun x y => ⟨_, by simp; rfl⟩) (by omega) a.length 0 fuel (by omega) (by unfold fuel; omega)
  simp only [Nat.zero_add, List.drop_zero] at this
  exact this
theorem cmn_impl {a b : List D.Term} (ha : fineL a) : impl_commonTerms fuel a b = some (((cmn sameB a b) : Nat) : Int) := by
  have hl := ha.1
  have := cmn_loop sameB (F := fun c x y => if c then impl_sameTerm fuel x y else some default) (a := a) (b := b) (fun x hx y _ => by simp [same_impl (ha.2 x hx)]) (fun x y => ⟨_, by simp; rfl⟩) (by omega) a.length 0 fuel (by omega) (by unfold fuel; omega)
  simp only [Nat.zero_add, List.drop_zero] at this
  unfold impl_commonTerms
  rw [show ((0 : Nat) : Int) = 0 from rfl] at this
  rw [this]; rfl
theorem cmn_ints {a b : List Int} (hl : a.length ≤ 100) : iterN (fun (s4 : Int) =>
      (if ((decide (s4 < (len a))) && (decide (s4 < (len b)))) then (get? a s4) else some default).bind fun x20 =>
      (if ((decide (s4 < (len a))) && (decide (s4 < (len b)))) then (get? b s4) else some default).bind fun x21 =>
      if (((decide (s4 < (len a))) && (decide (s4 < (len b)))) && (x20 == x21)) then
       some (.inl ((w64 (s4 + 1))))
      else
       some (.inr (s4))
     ) fuel (0) = some (((cmn (fun x y => x == y) a b) : Nat) : Int) := by
  have := cmn_loop (fun x y : Int => x == y) (F := fun _ x y => some (x == y)) (a := a) (b := b) (fun x hx y _ => rfl) (fun x y => ⟨_, rfl⟩) (by omega) a.length 0 fuel (by omega) (by unfold fuel; omega)
  simp only [Nat.zero_add, List.drop_zero, Option.bind_some] at this
  exact this
def is1 (t : D.Term) : Bool := (t.Op == 0) && (t.N == 1)
def cnd (a : D.Path) (n : Nat) (e : D.Term) : List D.Term := if is1 e = true then a.Cond.take n else a.Cond.take n ++ [e]
def mgo (a b : D.Path) (n : Nat) (e : D.Term) (R M O : List D.Term) : D.Path :=
  ⟨a.Pc, R, M, a.Stack, a.In, O, a.Code, imax a.Steps b.Steps, cnd a n e, a.Turns.take (cmn (fun x y => x == y) a.Turns b.Turns)⟩
/-- two paths that are merged, and whether they can be -/
noncomputable def mgP (p : D.Program) (a b : D.Path) : D.Path × Bool :=
  if shp a b = true then
    if (allT (a.Cond.drop (cmn sameB a.Cond b.Cond))).2 = true ∧ (allT (b.Cond.drop (cmn sameB a.Cond b.Cond))).2 = true then
      if (mkT 9 1 0 [(allT (a.Cond.drop (cmn sameB a.Cond b.Cond))).1, (allT (b.Cond.drop (cmn sameB a.Cond b.Cond))).1]).2 = true then
        match mwT (allT (a.Cond.drop (cmn sameB a.Cond b.Cond))).1 a.Regs b.Regs, mwT (allT (a.Cond.drop (cmn sameB a.Cond b.Cond))).1 a.Mem b.Mem, mwT (allT (a.Cond.drop (cmn sameB a.Cond b.Cond))).1 a.Out b.Out with
        | some R, some M, some O =>
          (mgo a b (cmn sameB a.Cond b.Cond) (mkT 9 1 0 [(allT (a.Cond.drop (cmn sameB a.Cond b.Cond))).1, (allT (b.Cond.drop (cmn sameB a.Cond b.Cond))).1]).1 R M O,
            pathB p (mgo a b (cmn sameB a.Cond b.Cond) (mkT 9 1 0 [(allT (a.Cond.drop (cmn sameB a.Cond b.Cond))).1, (allT (b.Cond.drop (cmn sameB a.Cond b.Cond))).1]).1 R M O))
        | _, _, _ => (pz, false)
      else (pz, false)
    else (pz, false)
  else (pz, false)
theorem mgo_fine {a b : D.Path} {n : Nat} {e : D.Term} {R M O : List D.Term} (ha : fineP a) (hc : a.Cond.length ≤ 60) (he : fine e) (hR : fineL R) (hM : fineL M) (hO : fineL O) : fineP (mgo a b n e R M O) := by
  obtain ⟨h1, h2, h3, h4, h5, h6⟩ := ha
  refine ⟨hR, hM, h3, hO, ?_, by unfold mgo; simp; omega⟩
  show fineL (cnd a n e)
  unfold cnd
  split
  · exact fineL_take h5 n
  · refine ⟨by simp; omega, fun x hx => ?_⟩
    rcases List.mem_append.1 hx with hx | hx
    · exact (fineL_take h5 n).2 x hx
    · rw [List.mem_singleton] at hx; subst hx; exact he
theorem sml2' {a b : D.Term} (ha : fine a) (hb : fine b) : sml [a, b] := sml2 (fine_sz ha) (by have := fine_sz hb; omega)
theorem mwT_fineL {x : D.Term} {a b l : List D.Term} (h : mwT x a b = some l) (ha : fineL a) (hl : a.length = b.length) : fineL l := by
  obtain ⟨g1, g2⟩ := mwT_fine h ha.2 (by omega)
  exact ⟨by have := ha.1; omega, g1⟩
theorem impl_merge1 {p : D.Program} {a b : D.Path} (hp : p.Code.length ≤ 1048576) (ha : fineP a) (hb : fineP b) (hr : a.Regs.length = b.Regs.length) (hm : a.Mem.length = b.Mem.length) (hc : a.Cond.length ≤ 60) : impl_mergePaths fuel p a b = some (mgP p a b) := by
  obtain ⟨a1, a2, a3, a4, a5, a6⟩ := id ha
  obtain ⟨b1, b2, b3, b4, b5, b6⟩ := id hb
  unfold impl_mergePaths mgP
  rw [shp_impl a3]
  simp only [Option.bind_some]
  cases sh : shp a b
  · rfl
  have ho : a.Out.length = b.Out.length := shp_out (by unfold shp at sh; simp only [Bool.and_eq_true] at sh; exact sh.1)
  obtain ⟨n1, n2⟩ := cmn_le sameB a.Cond b.Cond
  obtain ⟨t1, t2⟩ := cmn_le (fun x y : Int => x == y) a.Turns b.Turns
  simp only [Bool.not_true, Bool.false_eq_true, if_false, if_true, cmn_impl a5, Option.bind_some, cut_drop n1, cut_drop n2, cut_take n1, impl_all1 (fineL_sml (fineL_drop a5 _)), impl_all1 (fineL_sml (fineL_drop b5 _))]
  generalize hn : cmn sameB a.Cond b.Cond = n at *
  generalize hX : allT (a.Cond.drop n) = X
  generalize hY : allT (b.Cond.drop n) = Y
  by_cases c1 : X.2 = true
  rotate_left
  · simp [c1]; rfl
  by_cases c2 : Y.2 = true
  rotate_left
  · simp [c1, c2]; rfl
  have fx : fine X.1 := hX ▸ allT_fine (by rw [hX]; exact c1)
  have fy : fine Y.1 := hY ▸ allT_fine (by rw [hY]; exact c2)
  simp only [c1, c2, Bool.not_true, Bool.or_self, Bool.false_eq_true, if_false, and_self, if_true, impl_mk (sml2' fx fy), Option.bind_some]
  generalize hE : mkT 9 1 0 [X.1, Y.1] = E
  by_cases c3 : E.2 = true
  rotate_left
  · simp [c3]; rfl
  have fe : fine E.1 := (hE ▸ mkT_fine (by rw [hE]; exact c3) : fine E.1 ∧ E.1.W = 1).1
  have hcl : slices_Clone___impl_Term_impl_Term_ (a.Cond.take n) = some (a.Cond.take n) := by
    unfold slices_Clone___impl_Term_impl_Term_
    rw [app_t (by simp; omega)]; rfl
  have hmo : impl_more (a.Cond.take n) E.1 = some (a.Cond.take n ++ [E.1]) := by
    unfold impl_more slices_Clip___impl_Term_impl_Term_
    rw [hcl]
    simp only [Option.bind_some]
    rw [app_len (by simp; omega)]; rfl
  have hcn : (if (!is1 E.1) then (impl_more (a.Cond.take n) E.1).bind fun x11 => some (.inl (x11)) else some (.inl (a.Cond.take n)) : Option (List D.Term ⊕ (D.Path × Bool))) = some (.inl (cnd a n E.1)) := by
    unfold cnd
    rw [hmo]
    cases is1 E.1 <;> rfl
  have hi : impl_constIs E.1 1 = some (is1 E.1) := rfl
  simp only [c3, Bool.not_true, Bool.false_eq_true, if_false, if_true, hcl, Option.bind_some, hi, hcn, impl_mw fx a1 b1 hr, impl_mw fx a2 b2 hm, impl_mw fx a4 b4 ho]
  cases m1 : mwT X.1 a.Regs b.Regs
  · simp; rfl
  rename_i R
  cases m2 : mwT X.1 a.Mem b.Mem
  · simp; rfl
  rename_i M
  cases m3 : mwT X.1 a.Out b.Out
  · simp; rfl
  rename_i O
  have fo := mgo_fine (b := b) (n := n) ha hc fe (mwT_fineL m1 a1 hr) (mwT_fineL m2 a2 hm) (mwT_fineL m3 a4 ho)
  have htk : slices_Clone___int_int_ (a.Turns.take (cmn (fun x y => x == y) a.Turns b.Turns)) = some (a.Turns.take (cmn (fun x y => x == y) a.Turns b.Turns)) := by
    unfold slices_Clone___int_int_
    rw [app_i (by simp; omega)]; rfl
  simp only [Bool.not_true, Bool.or_self, Bool.false_eq_true, if_false, cmn_ints a6, Option.bind_some, cut_take t1, htk]
  have := impl_path hp (fineP_small fo)
  unfold mgo at this ⊢
  rw [this]; rfl
theorem mgP_no {p : D.Program} {a b : D.Path} (h : shp a b = false) : mgP p a b = (pz, false) := by unfold mgP; rw [h]; rfl
theorem mgP_fine {p : D.Program} {a b : D.Path} (h : (mgP p a b).2 = true) : pathB p (mgP p a b).1 = true := by
  unfold mgP at h ⊢
  repeat' split at h
  all_goals first | (cases h; done) | skip
  rename_i c1 c2 c3 _ _ _ _ _ _ m1 m2 m3
  rw [if_pos c1, if_pos c2, if_pos c3, m1, m2, m3] at *
  exact h
/-- what MergePaths gives -/
noncomputable def mgR (p : D.Program) (a b : D.Path) : D.Path × Bool :=
  if pathB p a = true ∧ pathB p b = true ∧ (mgP p a b).2 = true then ((mgP p a b).1, true) else (pz, false)
theorem impl_merge {p : D.Program} {a b : D.Path} (hp : p.Code.length ≤ 1048576) (sa : smallP a) (sb : smallP b) : impl_MergePaths fuel p a b = some (mgR p a b) := by
  unfold impl_MergePaths mgR
  rw [impl_path hp sa, impl_path hp sb]
  simp only [Option.bind_some, ite_def2]
  cases c1 : pathB p a
  · simp; rfl
  cases c2 : pathB p b
  · simp; rfl
  obtain ⟨fa, -, ra, ma, -, ca, -⟩ := pathB_fine c1
  obtain ⟨fb, -, rb, mb, -, -, -⟩ := pathB_fine c2
  simp only [Bool.not_true, Bool.false_eq_true, if_false, Bool.or_self, Option.bind_some, impl_merge1 hp fa fb (by omega) (by omega) ca]
  cases c3 : (mgP p a b).2
  · simp; rfl
  · simp only [Bool.not_true, Bool.false_eq_true, if_false, impl_cpP (pathB_fine (mgP_fine c3)).1, Option.bind_some]
    simp
theorem spec_merge {p : D.Program} {a b : D.Path} (hp : p.Code.length ≤ 1048576) (sa : smallP a) (sb : smallP b) : spec_MergePaths fuel p a b = some (mgR p a b) := by
  unfold spec_MergePaths mgR
  rw [spec_path hp sa, spec_path hp sb]
  simp only [Option.bind_some, ite_def2]
  cases c1 : pathB p a
  · simp; rfl
  cases c2 : pathB p b
  · simp; rfl
  obtain ⟨fa, -, ra, ma, -, ca, -⟩ := pathB_fine c1
  obtain ⟨fb, -, rb, mb, -, -, -⟩ := pathB_fine c2
  obtain ⟨a1, a2, a3, a4, a5, a6⟩ := id fa
  obtain ⟨b1, b2, b3, b4, b5, b6⟩ := id fb
  rw [alk_spec a3]
  simp only [Bool.not_true, Bool.false_eq_true, if_false, Bool.or_self, Option.bind_some, Bool.false_or]
  cases al : alk a b
  · have : shp a b = false := by unfold shp; rw [al]; rfl
    rw [mgP_no this]; simp; rfl
  by_cases cc : a.Code = b.Code
  rotate_left
  · have e1 : (a.Code == b.Code) = false := by simpa using cc
    have e2 : (a.Code != b.Code) = true := by simpa using cc
    have : shp a b = false := by unfold shp; rw [al, e1]; rfl
    rw [mgP_no this, e2]; simp; rfl
  have hs : shp a b = true := by unfold shp; rw [al, cc]; simp
  have e2 : (a.Code != b.Code) = false := by simpa using cc
  have ho := shp_out al
  obtain ⟨n1, n2⟩ := cmn_le sameB a.Cond b.Cond
  obtain ⟨t1, t2⟩ := cmn_le (fun x y : Int => x == y) a.Turns b.Turns
  simp only [e2, Bool.not_true, Bool.or_self, Bool.false_eq_true, if_false]
  rw [cmn_spec a5]
  simp only [Option.bind_some, cut_drop n1, cut_drop n2, cut_take n1, spec_all (fineL_sml (fineL_drop a5 _)), spec_all (fineL_sml (fineL_drop b5 _))]
  unfold mgP
  rw [hs]
  simp only [if_true]
  generalize hn : cmn sameB a.Cond b.Cond = n at *
  generalize hX : allT (a.Cond.drop n) = X
  generalize hY : allT (b.Cond.drop n) = Y
  by_cases d1 : X.2 = true
  rotate_left
  · simp [d1]; rfl
  by_cases d2 : Y.2 = true
  rotate_left
  · simp [d1, d2]; rfl
  have fx : fine X.1 := hX ▸ allT_fine (by rw [hX]; exact d1)
  have fy : fine Y.1 := hY ▸ allT_fine (by rw [hY]; exact d2)
  have hmk : spec_l06Maker_l06Make fuel (D.l06Maker.mk false) 9 1 [X.1, Y.1] = some ((mkT 9 1 0 [X.1, Y.1]).1, ⟨!(mkT 9 1 0 [X.1, Y.1]).2⟩) := by
    unfold spec_l06Maker_l06Make
    rw [spec_mk (sml2' fx fy)]
    simp only [Option.bind_some]
    cases (mkT 9 1 0 [X.1, Y.1]).2 <;> rfl
  simp only [d1, d2, Bool.not_true, Bool.or_self, Bool.false_eq_true, if_false, and_self, if_true, hmk, Option.bind_some, spec_cpP fa, app_t (show (a.Cond.take n).length ≤ 1000 by simp; omega)]
  generalize hE : mkT 9 1 0 [X.1, Y.1] = E
  have hi : spec_l02Is E.1 1 = some (is1 E.1) := rfl
  have hcn : (if (!is1 E.1) then (app? (a.Cond.take n) [E.1]).bind fun x16 => some (.inl (x16)) else some (.inl (a.Cond.take n)) : Option (List D.Term ⊕ (D.Path × Bool))) = some (.inl (cnd a n E.1)) := by
    unfold cnd
    rw [app_len (by simp; omega)]
    cases is1 E.1 <;> rfl
  have hst : (if (decide (b.Steps > a.Steps)) then some (.inl (b.Steps)) else some (.inl (a.Steps)) : Option (Int ⊕ (D.Path × Bool))) = some (.inl (imax a.Steps b.Steps)) := by
    unfold imax
    by_cases c : b.Steps > a.Steps
    · rw [if_pos (by simpa using c)]; congr 2; split <;> omega
    · rw [if_neg (by simpa using c)]; congr 2; split <;> omega
  obtain ⟨R, r1, r2⟩ := spec_mw (!E.2) fx a1 b1 (by omega)
  obtain ⟨M, m1, m2⟩ := spec_mw (!E.2 || (mwT X.1 a.Regs b.Regs).isNone) fx a2 b2 (by omega)
  obtain ⟨O, o1, o2⟩ := spec_mw ((!E.2 || (mwT X.1 a.Regs b.Regs).isNone) || (mwT X.1 a.Mem b.Mem).isNone) fx a4 b4 ho
  simp only [hi, Option.bind_some, hcn, r1, m1, o1, hst, cmn_ints a6, cut_take t1]
  by_cases c3 : E.2 = true
  rotate_left
  · have : (!E.2) = true := by simpa using c3
    simp [c3, this]; rfl
  have fe : fine E.1 := (hE ▸ mkT_fine (by rw [hE]; exact c3) : fine E.1 ∧ E.1.W = 1).1
  cases q1 : mwT X.1 a.Regs b.Regs with
  | none => simp [c3, q1]; rfl
  | some R' =>
  cases q2 : mwT X.1 a.Mem b.Mem with
  | none => simp [c3, q1, q2]; rfl
  | some M' =>
  cases q3 : mwT X.1 a.Out b.Out with
  | none => simp [c3, q1, q2, q3]; rfl
  | some O' =>
  have e3 : (!E.2) = false := by simpa using c3
  obtain rfl := r2 e3 _ q1
  obtain rfl := m2 (by rw [e3, q1]; rfl) _ q2
  obtain rfl := o2 (by rw [e3, q1, q2]; rfl) _ q3
  have fo := mgo_fine (b := b) (n := n) fa ca fe (mwT_fineL q1 a1 (by omega)) (mwT_fineL q2 a2 (by omega)) (mwT_fineL q3 a4 ho)
  have hpo := spec_path hp (fineP_small fo)
  have hcp := spec_cpP fo
  unfold mgo at hpo hcp ⊢
  simp only [c3, e3, Option.isNone_some, Bool.or_self, Bool.false_eq_true, if_false, if_true, hpo, Option.bind_some, Bool.false_or, true_and]
  rw [hcp]
  generalize D.Path.mk a.Pc R M a.Stack a.In O a.Code (imax a.Steps b.Steps) (cnd a n E.1) (a.Turns.take (cmn (fun x y => x == y) a.Turns b.Turns)) = o
  cases pathB p o
  · simp; rfl
  · simp
theorem mgR_small {p : D.Program} {a b : D.Path} : smallP (mgR p a b).1 := by
  unfold mgR
  split
  · rename_i h
    exact fineP_small (pathB_fine (mgP_fine h.2.2)).1
  · exact fineP_small ⟨⟨by simp [pz], fun x h => by cases h⟩, ⟨by simp [pz], fun x h => by cases h⟩, by simp [pz], ⟨by simp [pz], fun x h => by cases h⟩, ⟨by simp [pz], fun x h => by cases h⟩, by simp [pz]⟩
end Go.Proofs.YtbljmkpofaibeaaGreat
end

section
namespace Go.Proofs.YtbljmkpofaibeaaGreat
open Go.GL
set_option linter.unusedSimpArgs false
set_option maxRecDepth 100000
theorem mark_tsh {l : List D.Term} {k : Int} (h : sml l) (h0 : 0 ≤ k) (h1 : k ≤ 10000000000000000) : ∃ k' r, laws_markTermS fuel l k = some (k', r) ∧ k ≤ k' ∧ k' ≤ k + 4194304 ∧ laws_heldTermS fuel r k = some k' := by
  unfold sml at h
  obtain ⟨⟨k', r⟩, e, a, b, c⟩ := mark_held fuel l k h (by unfold fuel; omega) h0 (by omega)
  exact ⟨k', r, e, a, by simp only at b; omega, c fuel (by unfold fuel; omega)⟩
theorem mark_pathH {x : D.Path} (h : smallP x) : ∃ k' r, laws_markPath fuel x 1 = some (k', r) ∧ 0 ≤ k' ∧ ∀ a b c d, laws_heldPath fuel (D.Path.mk a r.Regs r.Mem r.Stack b r.Out c d r.Cond r.Turns) 1 = some k' := by
  obtain ⟨s1, s2, s3, s4, s5, s6⟩ := h
  obtain ⟨k1, r1, e1, a1, b1, c1⟩ := mark_tsh (k := 1) s1 (by omega) (by omega)
  obtain ⟨k2, r2, e2, a2, b2, c2⟩ := mark_tsh (k := k1) s2 (by omega) (by omega)
  have e3 := markIntS_eq (p := x.Stack) (k := k2) (by omega) (by omega) s3
  have c3 := heldIntS_eq (L := x.Stack.length) (k := k2) (by omega) (by omega) s3
  obtain ⟨k4, r4, e4, a4, b4, c4⟩ := mark_tsh (k := k2 + x.Stack.length) s4 (by omega) (by omega)
  obtain ⟨k5, r5, e5, a5, b5, c5⟩ := mark_tsh (k := k4) s5 (by omega) (by omega)
  have e6 := markIntS_eq (p := x.Turns) (k := k5) (by omega) (by omega) s6
  have c6 := heldIntS_eq (L := x.Turns.length) (k := k5) (by omega) (by omega) s6
  refine ⟨k5 + (x.Turns.length : Int), ⟨x.Pc, r1, r2, upI k2 x.Stack.length, x.In, r4, x.Code, x.Steps, r5, upI k5 x.Turns.length⟩, ?_, ?_, fun a b c d => ?_⟩
  · unfold laws_markPath
    simp only [e1, e2, e3, e4, e5, e6, Option.bind_some]
  · omega
  · unfold laws_heldPath
    have n1 : ¬ k1 < 0 := by omega
    have n2 : ¬ k2 < 0 := by omega
    have n3 : ¬ k2 + (x.Stack.length : Int) < 0 := by omega
    have n4 : ¬ k4 < 0 := by omega
    have n5 : ¬ k5 < 0 := by omega
    have n6 : ¬ k5 + (x.Turns.length : Int) < 0 := by omega
    simp [c1, c2, c3, c4, c5, c6, n1, n2, n3, n4, n5, n6]
end Go.Proofs.YtbljmkpofaibeaaGreat
end
