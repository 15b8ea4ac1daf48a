/- Texts of this claim put into one: library or plain laws, without the program under test. -/
import Derived.Test.YtbljmkpofaibeaaGreatPLib1

section
namespace Go.Proofs.YtbljmkpofaibeaaGreat
open Go.GL
set_option linter.unusedSimpArgs false
set_option maxRecDepth 100000
theorem impl_bin {k : Nat} {op w : Int} {a b : D.Term} (h3 : 3 ≤ op) (h16 : op ≤ 16) (hc : (a.Op == 0 && b.Op == 0) = false) : impl_reduce (k + 8) ⟨op, w, 0, ⟨[]⟩, [a, b]⟩ = impl_reduceBinary (k + 7) ⟨op, w, 0, ⟨[]⟩, [a, b]⟩ := by
  rw [impl_nc (by simp) (by simp) (by simpa using hc)]
  rw [show ((op == 1) || (op == 2)) = false by simp; omega, show (op == 17) = false by simp; omega, show (op == 19) = false by simp; omega, show ((op == 20) || (op == 21)) = false by simp; omega, show (op == 18) = false by simp; omega]
  rfl
theorem spec_bin {k : Nat} {op w : Int} {a b : D.Term} (h3 : 3 ≤ op) (h16 : op ≤ 16) (hc : (a.Op == 0 && b.Op == 0) = false) : spec_l02Make (k + 8) ⟨op, w, 0, ⟨[]⟩, [a, b]⟩ = spec_l02Two (k + 7) ⟨op, w, 0, ⟨[]⟩, [a, b]⟩ := by
  rw [spec_nc (by simp) (by rw [show ([a, b].all fun x => x.Op == 0) = false by simpa using hc]; simp)]
  rw [show decide (3 ≤ op ∧ op ≤ 16) = true by simp; omega]
  rfl
theorem zero_ok {w : Int} (h1 : 1 ≤ w) (h2 : w ≤ 16) : wordB w 0 = true := by
  obtain ⟨p1, p2, p3⟩ := pow_le h1 h2
  rw [word_iff h1 h2, p1]; omega
/-- two kids are swapped -/
theorem step_swap {op w : Int} {a b : D.Term} (ho : op = 3 ∨ op = 5 ∨ op = 8 ∨ op = 9 ∨ op = 10 ∨ op = 14) (ha : nodeB a = true) (hb : nodeB b = true) (hw : a.W = b.W) (h1 : op ≤ 13 → a.W = w) (h2 : 14 ≤ op → w = 1)
    (hc : (a.Op == 0 && b.Op == 0) = false) (hn : cnt a ≤ 240) (hs : ctm a b = 1) : Stp ⟨op, w, 0, ⟨[]⟩, [a, b]⟩ := by
  have hma := msz_cnt ha
  have i1 : ∀ k, 1100000 ≤ k → impl_CompareTerms (k + 6) a b = some (ctm a b) := fun k hk => impl_cmp _ _ _ (by omega) (by omega)
  have s1 : ∀ k, 1100000 ≤ k → spec_CompareTerms (k + 6) a b = some (ctm a b) := fun k hk => spec_cmp _ _ _ (by omega) (by omega)
  refine .go 5 6 (u := ⟨op, w, 0, ⟨[]⟩, [b, a]⟩) ⟨mk_bin (by omega) (by omega) hb ha hw.symm (fun o => by have := h1 o; omega) h2, rfl, by rw [cnt2, cnt2]; omega, ?_⟩ (fun k hk => ?_) (fun k hk => ?_)
  · have e : ctm b a = -1 := by rw [ctm_neg, hs]
    unfold mea swp
    rw [cnt2, cnt2]
    simp [e, hs]; omega
  · rw [impl_bin (by omega) (by omega) hc]
    rcases ho with rfl | rfl | rfl | rfl | rfl | rfl <;> simp [impl_reduceBinary, impl_remake, bind_id, impl_swapsKids, get0, get1, i1 k hk, hs]
  · rw [spec_bin (by omega) (by omega) hc]
    rcases ho with rfl | rfl | rfl | rfl | rfl | rfl <;> simp [spec_l02Two, bind_id, get0, get1, s1 k hk, hs, l01In_eq]
/-- a constant, and a constant within the second kid -/
theorem step_assoc {op w : Int} {a b : D.Term} (ho : op = 3 ∨ op = 5 ∨ op = 8 ∨ op = 9 ∨ op = 10) (ha : nodeB a = true) (hb : nodeB b = true) (hw : a.W = b.W) (h1 : a.W = w)
    (ha0 : a.Op = 0) (hb0 : b.Op ≠ 0) (hn : cnt a ≤ 240) (hs : ctm a b ≠ 1) (hs2 : ctm a b ≠ 0)
    (f1 : ∀ k, 1100000 ≤ k → ∃ x, impl_reduceFirst (k + 6) op w a b = some (x, false)) (f2 : ∀ k, 1100000 ≤ k → ∃ x, spec_l02First (k + 6) ⟨op, w, 0, ⟨[]⟩, [a, b]⟩ = some (x, false)) : Stp ⟨op, w, 0, ⟨[]⟩, [a, b]⟩ := by
  have hma := msz_cnt ha
  have hc : (a.Op == 0 && b.Op == 0) = false := by simp [hb0]
  have gt : ¬ 0 < ctm a b := by have := ctm_vals a b; omega
  have i1 : ∀ k, 1100000 ≤ k → impl_CompareTerms (k + 6) a b = some (ctm a b) := fun k hk => impl_cmp _ _ _ (by omega) (by omega)
  have s1 : ∀ k, 1100000 ≤ k → spec_CompareTerms (k + 6) a b = some (ctm a b) := fun k hk => spec_cmp _ _ _ (by omega) (by omega)
  have i2 : ∀ k, 1100000 ≤ k → impl_sameTerm (k + 6) a b = some (ctm a b == 0) := fun k hk => impl_same (by omega) (by omega)
  have s2 : ∀ k, 1100000 ≤ k → spec_l02Same (k + 6) a b = some (ctm a b == 0) := fun k hk => spec_same (by omega) (by omega)
  have me : nodeB ⟨op, w, 0, ⟨[]⟩, [a, b]⟩ = true := mk_bin (by omega) (by omega) ha hb hw (fun _ => h1) (fun o => by omega)
  obtain ⟨ea, va⟩ := const_eq ha ha0
  by_cases e1 : b.Op = op
  rotate_left
  · refine .fin me rfl (Nat.le_refl _) (fun k hk => ?_) (fun k hk => ?_)
    · obtain ⟨x, f⟩ := f1 k hk
      rw [impl_bin (by omega) (by omega) hc]
      rcases ho with rfl | rfl | rfl | rfl | rfl <;> simp [impl_reduceBinary, bind_id, impl_swapsKids, impl_constIs, impl_isConst, get0, get1, i1 k hk, i2 k hk, hs, hs2, ha0, hb0, f, e1]
    · obtain ⟨x, f⟩ := f2 k hk
      rw [spec_bin (by omega) (by omega) hc]
      rcases ho with rfl | rfl | rfl | rfl | rfl <;> simp [spec_l02Two, bind_id, spec_l02Is, get0, get1, s1 k hk, s2 k hk, gt, hs2, ha0, hb0, f, e1, l01In_eq]
  obtain ⟨c, d, eb, hcc, hd, hcd, hcw⟩ := kid_bin hb e1 (by omega) (by omega)
  have ekb : b.Kids = [c, d] := by rw [eb]
  by_cases e2 : c.Op = 0
  rotate_left
  · refine .fin me rfl (Nat.le_refl _) (fun k hk => ?_) (fun k hk => ?_)
    · obtain ⟨x, f⟩ := f1 k hk
      rw [impl_bin (by omega) (by omega) hc]
      rcases ho with rfl | rfl | rfl | rfl | rfl <;> simp [impl_reduceBinary, bind_id, impl_swapsKids, impl_constIs, impl_isConst, get0, get1, i1 k hk, i2 k hk, hs, hs2, ha0, hb0, f, e1, ekb, e2]
    · obtain ⟨x, f⟩ := f2 k hk
      rw [spec_bin (by omega) (by omega) hc]
      rcases ho with rfl | rfl | rfl | rfl | rfl <;> simp [spec_l02Two, bind_id, spec_l02Is, get0, get1, s1 k hk, s2 k hk, gt, hs2, ha0, hb0, f, e1, l01In_eq, ekb, e2]
  obtain ⟨ec, vc⟩ := const_eq hcc e2
  obtain ⟨r, q1, q2⟩ := ApplyBinary_eq op w a.N c.N
  have vr : wordB w r = true := (bin_ok q1 (by rw [← h1]; exact va) (by rw [← h1, hw, ← hcw (by omega)]; exact vc)).1 ⟨by omega, by omega⟩
  have gw := wordB_width vr
  refine .go 5 6 (u := ⟨op, w, 0, ⟨[]⟩, [⟨0, w, r, ⟨[]⟩, []⟩, d]⟩) (good_less (mk_bin (by omega) (by omega) (mk_const vr) hd (by show w = d.W; have := hcw (by omega); omega) (fun _ => rfl) (fun o => by omega)) rfl (by
    have pa := cnt_pos a
    have pc := cnt_pos c
    rw [eb, cnt2, cnt2, cnt2, cnt0]; omega)) (fun k hk => ?_) (fun k hk => ?_)
  · obtain ⟨x, f⟩ := f1 k hk
    rw [impl_bin (by omega) (by omega) hc]
    rcases ho with rfl | rfl | rfl | rfl | rfl <;> simp [impl_reduceBinary, impl_remake, bind_id, impl_swapsKids, impl_constIs, impl_isConst, get0, get1, i1 k hk, i2 k hk, hs, hs2, ha0, hb0, f, e1, ekb, e2, q2, impl_const vr]
  · obtain ⟨x, f⟩ := f2 k hk
    rw [spec_bin (by omega) (by omega) hc]
    rcases ho with rfl | rfl | rfl | rfl | rfl <;> simp [spec_l02Two, bind_id, spec_l02Is, get0, get1, s1 k hk, s2 k hk, gt, hs2, ha0, hb0, f, e1, l01In_eq, ekb, e2, q1, spec_const]
theorem ones_ok {a : D.Term} (ha : nodeB a = true) (ha0 : a.Op = 0) : ∃ o, impl_onesOf a.W = some o ∧ spec_l02Ones a = some (a.N == o) ∧ 1 ≤ o ∧ wordB a.W o = true := by
  have g := nodeB_W ha
  obtain ⟨a1, a2, a3, a4, a5⟩ := shl_one g.1 g.2
  refine ⟨2 ^ a.W.toNat - 1, ?_, ?_, by omega, by rw [word_iff g.1 g.2]; omega⟩
  · unfold impl_onesOf; rw [a2]; simp only [Option.bind_some]; rw [a3]
  · unfold spec_l02Ones; simp only [ha0, beq_self_eq_true, if_true, a1, Option.bind_some, Bool.true_and]; rw [a3]
/-- a constant as the first kid: operations whose kids may be swapped -/
theorem step_first {op w : Int} {a b : D.Term} (ho : op = 3 ∨ op = 5 ∨ op = 8 ∨ op = 9 ∨ op = 10 ∨ op = 14) (ha : nodeB a = true) (hb : nodeB b = true) (hw : a.W = b.W) (h1 : op ≤ 13 → a.W = w) (h2 : 14 ≤ op → w = 1)
    (ha0 : a.Op = 0) (hb0 : b.Op ≠ 0) (hn : cnt a ≤ 240) (hs : ctm a b ≠ 1) : Stp ⟨op, w, 0, ⟨[]⟩, [a, b]⟩ := by
  have hma := msz_cnt ha
  have hc : (a.Op == 0 && b.Op == 0) = false := by simp [hb0]
  have gt : ¬ 0 < ctm a b := by have := ctm_vals a b; omega
  have hs2 : ctm a b ≠ 0 := fun e => by
    rw [ctm_eq] at e
    by_cases q : sg a.Op b.Op = 0
    · unfold sg at q; split at q <;> (try split at q) <;> omega
    · simp [q] at e
  have i1 : ∀ k, 1100000 ≤ k → impl_CompareTerms (k + 6) a b = some (ctm a b) := fun k hk => impl_cmp _ _ _ (by omega) (by omega)
  have s1 : ∀ k, 1100000 ≤ k → spec_CompareTerms (k + 6) a b = some (ctm a b) := fun k hk => spec_cmp _ _ _ (by omega) (by omega)
  have i2 : ∀ k, 1100000 ≤ k → impl_sameTerm (k + 6) a b = some (ctm a b == 0) := fun k hk => impl_same (by omega) (by omega)
  have s2 : ∀ k, 1100000 ≤ k → spec_l02Same (k + 6) a b = some (ctm a b == 0) := fun k hk => spec_same (by omega) (by omega)
  have me : nodeB ⟨op, w, 0, ⟨[]⟩, [a, b]⟩ = true := mk_bin (by omega) (by omega) ha hb hw h1 h2
  obtain ⟨o, o1, o2, o3, o4⟩ := ones_ok ha ha0
  obtain ⟨ea, va⟩ := const_eq ha ha0
  have ga := nodeB_W ha
  have tb : cnt b ≤ cnt ⟨op, w, 0, ⟨[]⟩, [a, b]⟩ := by rw [cnt2]; omega
  have tc : ∀ v, cnt ⟨0, w, v, ⟨[]⟩, []⟩ ≤ cnt ⟨op, w, 0, ⟨[]⟩, [a, b]⟩ := fun v => by rw [cnt2, cnt0]; omega
  have ea0 : op ≤ 13 → a.N = 0 → a = ⟨0, w, 0, ⟨[]⟩, []⟩ := fun q e => by rw [ea, e, h1 q]
  have eao : op ≤ 13 → a.N = o → a = ⟨0, w, o, ⟨[]⟩, []⟩ := fun q e => by rw [ea, e, h1 q]
  rcases ho with rfl | rfl | rfl | rfl | rfl | rfl
  · by_cases e0 : a.N = 0
    · refine .fin hb (by show b.W = w; have := h1 (by omega); omega) tb (fun k hk => ?_) (fun k hk => ?_)
      · rw [impl_bin (by omega) (by omega) hc]; simp [impl_reduceBinary, impl_reduceFirst, impl_remake, bind_id, impl_swapsKids, impl_constIs, impl_isConst, get0, get1, i1 k hk, i2 k hk, hs, hs2, ha0, hb0, o1, e0]
      · rw [spec_bin (by omega) (by omega) hc]; simp [spec_l02Two, spec_l02First, bind_id, spec_l02Is, spec_const, get0, get1, s1 k hk, s2 k hk, gt, hs2, ha0, hb0, o2, l01In_eq, e0]
    refine step_assoc (by simp) ha hb hw (h1 (by omega)) ha0 hb0 hn hs hs2 (fun k hk => ?_) (fun k hk => ?_)
    · exact ⟨⟨0, 0, 0, ⟨[]⟩, []⟩, by simp [impl_reduceFirst, ha0, o1, e0]⟩
    · exact ⟨_, by simp [spec_l02First, spec_l02Is, get0, get1, ha0, o2, e0]; rfl⟩
  · by_cases e0 : a.N = 1
    · refine .fin hb (by show b.W = w; have := h1 (by omega); omega) tb (fun k hk => ?_) (fun k hk => ?_)
      · rw [impl_bin (by omega) (by omega) hc]; simp [impl_reduceBinary, impl_reduceFirst, impl_remake, bind_id, impl_swapsKids, impl_constIs, impl_isConst, get0, get1, i1 k hk, i2 k hk, hs, hs2, ha0, hb0, o1, e0]
      · rw [spec_bin (by omega) (by omega) hc]; simp [spec_l02Two, spec_l02First, bind_id, spec_l02Is, spec_const, get0, get1, s1 k hk, s2 k hk, gt, hs2, ha0, hb0, o2, l01In_eq, e0]
    by_cases e1 : a.N = 0
    · refine .fin ha (h1 (by omega)) (by rw [cnt2]; omega) (fun k hk => ?_) (fun k hk => ?_)
      · rw [impl_bin (by omega) (by omega) hc]; simp [impl_reduceBinary, impl_reduceFirst, impl_remake, bind_id, impl_swapsKids, impl_constIs, impl_isConst, get0, get1, i1 k hk, i2 k hk, hs, hs2, ha0, hb0, o1, e0, e1, impl_const (w := w) (v := 0) (by have := h1 (by omega); exact zero_ok (by omega) (by omega))]; exact (ea0 (by omega) (by assumption)).symm
      · rw [spec_bin (by omega) (by omega) hc]; simp [spec_l02Two, spec_l02First, bind_id, spec_l02Is, spec_const, get0, get1, s1 k hk, s2 k hk, gt, hs2, ha0, hb0, o2, l01In_eq, e0, e1, impl_const (w := w) (v := 0) (by have := h1 (by omega); exact zero_ok (by omega) (by omega))]
    refine step_assoc (by simp) ha hb hw (h1 (by omega)) ha0 hb0 hn hs hs2 (fun k hk => ?_) (fun k hk => ?_)
    · exact ⟨⟨0, 0, 0, ⟨[]⟩, []⟩, by simp [impl_reduceFirst, ha0, o1, e0, e1]⟩
    · exact ⟨_, by simp [spec_l02First, spec_l02Is, get0, get1, ha0, o2, e0, e1]; rfl⟩
  · by_cases e0 : a.N = o
    · refine .fin hb (by show b.W = w; have := h1 (by omega); omega) tb (fun k hk => ?_) (fun k hk => ?_)
      · rw [impl_bin (by omega) (by omega) hc]; simp [impl_reduceBinary, impl_reduceFirst, impl_remake, bind_id, impl_swapsKids, impl_constIs, impl_isConst, get0, get1, i1 k hk, i2 k hk, hs, hs2, ha0, hb0, o1, e0, show ¬ o = 0 by omega]
      · rw [spec_bin (by omega) (by omega) hc]; simp [spec_l02Two, spec_l02First, bind_id, spec_l02Is, spec_const, get0, get1, s1 k hk, s2 k hk, gt, hs2, ha0, hb0, o2, l01In_eq, e0, show ¬ o = 0 by omega]
    by_cases e1 : a.N = 0
    · refine .fin ha (h1 (by omega)) (by rw [cnt2]; omega) (fun k hk => ?_) (fun k hk => ?_)
      · rw [impl_bin (by omega) (by omega) hc]; simp [impl_reduceBinary, impl_reduceFirst, impl_remake, bind_id, impl_swapsKids, impl_constIs, impl_isConst, get0, get1, i1 k hk, i2 k hk, hs, hs2, ha0, hb0, o1, e0, e1, impl_const (w := w) (v := 0) (by have := h1 (by omega); exact zero_ok (by omega) (by omega)), show ¬ 0 = o by omega]; exact (ea0 (by omega) (by assumption)).symm
      · rw [spec_bin (by omega) (by omega) hc]; simp [spec_l02Two, spec_l02First, bind_id, spec_l02Is, spec_const, get0, get1, s1 k hk, s2 k hk, gt, hs2, ha0, hb0, o2, l01In_eq, e0, e1, impl_const (w := w) (v := 0) (by have := h1 (by omega); exact zero_ok (by omega) (by omega)), show ¬ 0 = o by omega]
    refine step_assoc (by simp) ha hb hw (h1 (by omega)) ha0 hb0 hn hs hs2 (fun k hk => ?_) (fun k hk => ?_)
    · exact ⟨⟨0, 0, 0, ⟨[]⟩, []⟩, by simp [impl_reduceFirst, ha0, o1, e0, e1]⟩
    · exact ⟨_, by simp [spec_l02First, spec_l02Is, get0, get1, ha0, o2, e0, e1]; rfl⟩
  · by_cases e0 : a.N = 0
    · refine .fin hb (by show b.W = w; have := h1 (by omega); omega) tb (fun k hk => ?_) (fun k hk => ?_)
      · rw [impl_bin (by omega) (by omega) hc]; simp [impl_reduceBinary, impl_reduceFirst, impl_remake, bind_id, impl_swapsKids, impl_constIs, impl_isConst, get0, get1, i1 k hk, i2 k hk, hs, hs2, ha0, hb0, o1, e0]
      · rw [spec_bin (by omega) (by omega) hc]; simp [spec_l02Two, spec_l02First, bind_id, spec_l02Is, spec_const, get0, get1, s1 k hk, s2 k hk, gt, hs2, ha0, hb0, o2, l01In_eq, e0]
    by_cases e1 : a.N = o
    · refine .fin ha (h1 (by omega)) (by rw [cnt2]; omega) (fun k hk => ?_) (fun k hk => ?_)
      · rw [impl_bin (by omega) (by omega) hc]; simp [impl_reduceBinary, impl_reduceFirst, impl_remake, bind_id, impl_swapsKids, impl_constIs, impl_isConst, get0, get1, i1 k hk, i2 k hk, hs, hs2, ha0, hb0, o1, e0, e1, impl_const (w := w) (v := o) (by have := h1 (by omega); rw [← this]; exact o4), show ¬ o = 0 by omega]; exact (eao (by omega) (by assumption)).symm
      · rw [spec_bin (by omega) (by omega) hc]; simp [spec_l02Two, spec_l02First, bind_id, spec_l02Is, spec_const, get0, get1, s1 k hk, s2 k hk, gt, hs2, ha0, hb0, o2, l01In_eq, e0, e1, impl_const (w := w) (v := o) (by have := h1 (by omega); rw [← this]; exact o4), show ¬ o = 0 by omega]
    refine step_assoc (by simp) ha hb hw (h1 (by omega)) ha0 hb0 hn hs hs2 (fun k hk => ?_) (fun k hk => ?_)
    · exact ⟨⟨0, 0, 0, ⟨[]⟩, []⟩, by simp [impl_reduceFirst, ha0, o1, e0, e1]⟩
    · exact ⟨_, by simp [spec_l02First, spec_l02Is, get0, get1, ha0, o2, e0, e1]; rfl⟩
  · by_cases e0 : a.N = 0
    · refine .fin hb (by show b.W = w; have := h1 (by omega); omega) tb (fun k hk => ?_) (fun k hk => ?_)
      · rw [impl_bin (by omega) (by omega) hc]; simp [impl_reduceBinary, impl_reduceFirst, impl_remake, bind_id, impl_swapsKids, impl_constIs, impl_isConst, get0, get1, i1 k hk, i2 k hk, hs, hs2, ha0, hb0, o1, e0]
      · rw [spec_bin (by omega) (by omega) hc]; simp [spec_l02Two, spec_l02First, bind_id, spec_l02Is, spec_const, get0, get1, s1 k hk, s2 k hk, gt, hs2, ha0, hb0, o2, l01In_eq, e0]
    by_cases e1 : a.N = o
    · refine .go 4 5 (u := ⟨1, w, 0, ⟨[]⟩, [b]⟩) (good_less (mk_un' (.inl rfl) hb (by have := h1 (by omega); omega)) rfl (by have := cnt_pos a; rw [cnt1, cnt2]; omega)) (fun k hk => ?_) (fun k hk => ?_)
      · rw [impl_bin (by omega) (by omega) hc]; simp [impl_reduceBinary, impl_reduceFirst, impl_remake, bind_id, impl_swapsKids, impl_constIs, impl_isConst, get0, get1, i1 k hk, i2 k hk, hs, hs2, ha0, hb0, o1, e0, e1, show ¬ o = 0 by omega]; generalize impl_reduce (k + 4) _ = z; cases z <;> simp
      · rw [spec_bin (by omega) (by omega) hc]; simp [spec_l02Two, spec_l02First, bind_id, spec_l02Is, spec_const, get0, get1, s1 k hk, s2 k hk, gt, hs2, ha0, hb0, o2, l01In_eq, e0, e1, show ¬ o = 0 by omega]; generalize spec_l02Make (k + 5) _ = z; cases z <;> simp
    refine step_assoc (by simp) ha hb hw (h1 (by omega)) ha0 hb0 hn hs hs2 (fun k hk => ?_) (fun k hk => ?_)
    · exact ⟨⟨0, 0, 0, ⟨[]⟩, []⟩, by simp [impl_reduceFirst, ha0, o1, e0, e1]⟩
    · exact ⟨_, by simp [spec_l02First, spec_l02Is, get0, get1, ha0, o2, e0, e1]; rfl⟩
  · have hw1 := h2 (by omega)
    by_cases q : a.W = 1
    · rw [q] at va o1
      have hv := (word_iff (by omega) (by omega) a.N).1 va
      have hv2 : a.N = 0 ∨ a.N = 1 := by
        have : (2 : Int) ^ (1 : Int).toNat = 2 := rfl
        omega
      rcases hv2 with e | e
      · refine .go 4 5 (u := ⟨1, 1, 0, ⟨[]⟩, [b]⟩) (good_less (mk_un' (.inl rfl) hb (by omega)) hw1.symm (by have := cnt_pos a; rw [cnt1, cnt2]; omega)) (fun k hk => ?_) (fun k hk => ?_)
        · rw [impl_bin (by omega) (by omega) hc]; simp [impl_reduceBinary, impl_reduceFirst, impl_remake, bind_id, impl_swapsKids, impl_constIs, impl_isConst, get0, get1, i1 k hk, i2 k hk, hs, hs2, ha0, hb0, o1, e, q, hw1]; generalize impl_reduce (k + 4) _ = z; cases z <;> simp
        · rw [spec_bin (by omega) (by omega) hc]; simp [spec_l02Two, spec_l02First, bind_id, spec_l02Is, spec_const, get0, get1, s1 k hk, s2 k hk, gt, hs2, ha0, hb0, o2, l01In_eq, e, q, hw1]; generalize spec_l02Make (k + 5) _ = z; cases z <;> simp
      · refine .fin hb (by show b.W = w; omega) tb (fun k hk => ?_) (fun k hk => ?_)
        · rw [impl_bin (by omega) (by omega) hc]; simp [impl_reduceBinary, impl_reduceFirst, impl_remake, bind_id, impl_swapsKids, impl_constIs, impl_isConst, get0, get1, i1 k hk, i2 k hk, hs, hs2, ha0, hb0, o1, e, q]
        · rw [spec_bin (by omega) (by omega) hc]; simp [spec_l02Two, spec_l02First, bind_id, spec_l02Is, spec_const, get0, get1, s1 k hk, s2 k hk, gt, hs2, ha0, hb0, o2, l01In_eq, e, q]
    · refine .fin me rfl (Nat.le_refl _) (fun k hk => ?_) (fun k hk => ?_)
      · rw [impl_bin (by omega) (by omega) hc]; simp [impl_reduceBinary, impl_reduceFirst, impl_remake, bind_id, impl_swapsKids, impl_constIs, impl_isConst, get0, get1, i1 k hk, i2 k hk, hs, hs2, ha0, hb0, o1, q]
      · rw [spec_bin (by omega) (by omega) hc]; simp [spec_l02Two, spec_l02First, bind_id, spec_l02Is, spec_const, get0, get1, s1 k hk, s2 k hk, gt, hs2, ha0, hb0, o2, l01In_eq, q]
/-- a constant as the first kid: other operations -/
theorem step_first2 {op w : Int} {a b : D.Term} (ho : op = 4 ∨ op = 6 ∨ op = 7 ∨ op = 11 ∨ op = 12 ∨ op = 13 ∨ op = 15 ∨ op = 16) (ha : nodeB a = true) (hb : nodeB b = true) (hw : a.W = b.W) (h1 : op ≤ 13 → a.W = w) (h2 : 14 ≤ op → w = 1)
    (ha0 : a.Op = 0) (hb0 : b.Op ≠ 0) (hn : cnt a ≤ 240) : Stp ⟨op, w, 0, ⟨[]⟩, [a, b]⟩ := by
  have hma := msz_cnt ha
  have hc : (a.Op == 0 && b.Op == 0) = false := by simp [hb0]
  have hs2 : ctm a b ≠ 0 := fun e => by
    rw [ctm_eq] at e
    by_cases q : sg a.Op b.Op = 0
    · unfold sg at q; split at q <;> (try split at q) <;> omega
    · simp [q] at e
  have i2 : ∀ k, 1100000 ≤ k → impl_sameTerm (k + 6) a b = some (ctm a b == 0) := fun k hk => impl_same (by omega) (by omega)
  have s2 : ∀ k, 1100000 ≤ k → spec_l02Same (k + 6) a b = some (ctm a b == 0) := fun k hk => spec_same (by omega) (by omega)
  have me : nodeB ⟨op, w, 0, ⟨[]⟩, [a, b]⟩ = true := mk_bin (by omega) (by omega) ha hb hw h1 h2
  obtain ⟨o, o1, o2, o3, o4⟩ := ones_ok ha ha0
  refine .fin me rfl (Nat.le_refl _) (fun k hk => ?_) (fun k hk => ?_)
  · rw [impl_bin (by omega) (by omega) hc]
    rcases ho with rfl | rfl | rfl | rfl | rfl | rfl | rfl | rfl <;> simp [impl_reduceBinary, impl_reduceFirst, bind_id, impl_swapsKids, impl_constIs, impl_isConst, get0, get1, i2 k hk, hs2, ha0, hb0, o1]
  · rw [spec_bin (by omega) (by omega) hc]
    rcases ho with rfl | rfl | rfl | rfl | rfl | rfl | rfl | rfl <;> simp [spec_l02Two, spec_l02First, bind_id, spec_l02Is, get0, get1, s2 k hk, hs2, ha0, hb0, o2, l01In_eq]
/-- no constant as the first kid -/
theorem step_rest {op w : Int} {a b : D.Term} (h3 : 3 ≤ op) (h16 : op ≤ 16) (ha : nodeB a = true) (hb : nodeB b = true) (hw : a.W = b.W) (h1 : op ≤ 13 → a.W = w) (h2 : 14 ≤ op → w = 1)
    (ha0 : a.Op ≠ 0) (hn : cnt a ≤ 240) (hs : op = 3 ∨ op = 5 ∨ op = 8 ∨ op = 9 ∨ op = 10 ∨ op = 14 → ctm a b ≠ 1) : Stp ⟨op, w, 0, ⟨[]⟩, [a, b]⟩ := by
  have hma := msz_cnt ha
  have hc : (a.Op == 0 && b.Op == 0) = false := by simp [ha0]
  have ga := nodeB_W ha
  have i1 : ∀ k, 1100000 ≤ k → impl_CompareTerms (k + 6) a b = some (ctm a b) := fun k hk => impl_cmp _ _ _ (by omega) (by omega)
  have s1 : ∀ k, 1100000 ≤ k → spec_CompareTerms (k + 6) a b = some (ctm a b) := fun k hk => spec_cmp _ _ _ (by omega) (by omega)
  have i2 : ∀ k, 1100000 ≤ k → impl_sameTerm (k + 6) a b = some (ctm a b == 0) := fun k hk => impl_same (by omega) (by omega)
  have s2 : ∀ k, 1100000 ≤ k → spec_l02Same (k + 6) a b = some (ctm a b == 0) := fun k hk => spec_same (by omega) (by omega)
  have me : nodeB ⟨op, w, 0, ⟨[]⟩, [a, b]⟩ = true := mk_bin (by omega) (by omega) ha hb hw h1 h2
  have hw1 : 1 ≤ w ∧ w ≤ 16 := by omega
  have hz := zero_ok hw1.1 hw1.2
  have ta : cnt a ≤ cnt ⟨op, w, 0, ⟨[]⟩, [a, b]⟩ := by rw [cnt2]; omega
  have tc : ∀ v, cnt ⟨0, w, v, ⟨[]⟩, []⟩ ≤ cnt ⟨op, w, 0, ⟨[]⟩, [a, b]⟩ := fun v => by rw [cnt2, cnt0]; omega
  have hop : op = 3 ∨ op = 4 ∨ op = 5 ∨ op = 6 ∨ op = 7 ∨ op = 8 ∨ op = 9 ∨ op = 10 ∨ op = 11 ∨ op = 12 ∨ op = 13 ∨ op = 14 ∨ op = 15 ∨ op = 16 := by omega
  have gt : op = 3 ∨ op = 5 ∨ op = 8 ∨ op = 9 ∨ op = 10 ∨ op = 14 → ¬ 0 < ctm a b := fun o => by have := ctm_vals a b; have := hs o; omega
  by_cases z : b.Op = 0 ∧ b.N = 0
  · have c1 : impl_constIs b 0 = some true := by simp [impl_constIs, z.1, z.2]
    have c2 : spec_l02Is b 0 = some true := by simp [spec_l02Is, z.1, z.2]
    have hs2 : ctm a b ≠ 0 := fun e => by
      rw [ctm_eq] at e
      by_cases q : sg a.Op b.Op = 0
      · unfold sg at q; split at q <;> (try split at q) <;> omega
      · simp [q] at e
    rcases hop with rfl | rfl | rfl | rfl | rfl | rfl | rfl | rfl | rfl | rfl | rfl | rfl | rfl | rfl
    · refine .fin me rfl (Nat.le_refl _) (fun k hk => ?_) (fun k hk => ?_)
      · rw [impl_bin (by omega) (by omega) hc]; simp [impl_reduceBinary, bind_id, impl_swapsKids, impl_isConst, get0, get1, i1 k hk, i2 k hk, ha0, c1, hs2, hs (by simp)]
      · rw [spec_bin (by omega) (by omega) hc]; simp [spec_l02Two, spec_l02Equal, bind_id, spec_const, get0, get1, s1 k hk, s2 k hk, ha0, c2, l01In_eq, hs2, gt (by simp)]
    · refine .fin ha (h1 (by omega)) ta (fun k hk => ?_) (fun k hk => ?_)
      · rw [impl_bin (by omega) (by omega) hc]; simp [impl_reduceBinary, bind_id, impl_swapsKids, impl_isConst, get0, get1, i1 k hk, i2 k hk, ha0, c1]
      · rw [spec_bin (by omega) (by omega) hc]; simp [spec_l02Two, spec_l02Equal, bind_id, spec_const, get0, get1, s1 k hk, s2 k hk, ha0, c2, l01In_eq]
    · refine .fin me rfl (Nat.le_refl _) (fun k hk => ?_) (fun k hk => ?_)
      · rw [impl_bin (by omega) (by omega) hc]; simp [impl_reduceBinary, bind_id, impl_swapsKids, impl_isConst, get0, get1, i1 k hk, i2 k hk, ha0, c1, hs2, hs (by simp)]
      · rw [spec_bin (by omega) (by omega) hc]; simp [spec_l02Two, spec_l02Equal, bind_id, spec_const, get0, get1, s1 k hk, s2 k hk, ha0, c2, l01In_eq, hs2, gt (by simp)]
    · refine .fin me rfl (Nat.le_refl _) (fun k hk => ?_) (fun k hk => ?_)
      · rw [impl_bin (by omega) (by omega) hc]; simp [impl_reduceBinary, bind_id, impl_swapsKids, impl_isConst, get0, get1, i1 k hk, i2 k hk, ha0, c1, hs2]
      · rw [spec_bin (by omega) (by omega) hc]; simp [spec_l02Two, spec_l02Equal, bind_id, spec_const, get0, get1, s1 k hk, s2 k hk, ha0, c2, l01In_eq, hs2]
    · refine .fin me rfl (Nat.le_refl _) (fun k hk => ?_) (fun k hk => ?_)
      · rw [impl_bin (by omega) (by omega) hc]; simp [impl_reduceBinary, bind_id, impl_swapsKids, impl_isConst, get0, get1, i1 k hk, i2 k hk, ha0, c1, hs2]
      · rw [spec_bin (by omega) (by omega) hc]; simp [spec_l02Two, spec_l02Equal, bind_id, spec_const, get0, get1, s1 k hk, s2 k hk, ha0, c2, l01In_eq, hs2]
    · refine .fin me rfl (Nat.le_refl _) (fun k hk => ?_) (fun k hk => ?_)
      · rw [impl_bin (by omega) (by omega) hc]; simp [impl_reduceBinary, bind_id, impl_swapsKids, impl_isConst, get0, get1, i1 k hk, i2 k hk, ha0, c1, hs2, hs (by simp)]
      · rw [spec_bin (by omega) (by omega) hc]; simp [spec_l02Two, spec_l02Equal, bind_id, spec_const, get0, get1, s1 k hk, s2 k hk, ha0, c2, l01In_eq, hs2, gt (by simp)]
    · refine .fin me rfl (Nat.le_refl _) (fun k hk => ?_) (fun k hk => ?_)
      · rw [impl_bin (by omega) (by omega) hc]; simp [impl_reduceBinary, bind_id, impl_swapsKids, impl_isConst, get0, get1, i1 k hk, i2 k hk, ha0, c1, hs2, hs (by simp)]
      · rw [spec_bin (by omega) (by omega) hc]; simp [spec_l02Two, spec_l02Equal, bind_id, spec_const, get0, get1, s1 k hk, s2 k hk, ha0, c2, l01In_eq, hs2, gt (by simp)]
    · refine .fin me rfl (Nat.le_refl _) (fun k hk => ?_) (fun k hk => ?_)
      · rw [impl_bin (by omega) (by omega) hc]; simp [impl_reduceBinary, bind_id, impl_swapsKids, impl_isConst, get0, get1, i1 k hk, i2 k hk, ha0, c1, hs2, hs (by simp)]
      · rw [spec_bin (by omega) (by omega) hc]; simp [spec_l02Two, spec_l02Equal, bind_id, spec_const, get0, get1, s1 k hk, s2 k hk, ha0, c2, l01In_eq, hs2, gt (by simp)]
    · refine .fin ha (h1 (by omega)) ta (fun k hk => ?_) (fun k hk => ?_)
      · rw [impl_bin (by omega) (by omega) hc]; simp [impl_reduceBinary, bind_id, impl_swapsKids, impl_isConst, get0, get1, i1 k hk, i2 k hk, ha0, c1]
      · rw [spec_bin (by omega) (by omega) hc]; simp [spec_l02Two, spec_l02Equal, bind_id, spec_const, get0, get1, s1 k hk, s2 k hk, ha0, c2, l01In_eq]
    · refine .fin ha (h1 (by omega)) ta (fun k hk => ?_) (fun k hk => ?_)
      · rw [impl_bin (by omega) (by omega) hc]; simp [impl_reduceBinary, bind_id, impl_swapsKids, impl_isConst, get0, get1, i1 k hk, i2 k hk, ha0, c1]
      · rw [spec_bin (by omega) (by omega) hc]; simp [spec_l02Two, spec_l02Equal, bind_id, spec_const, get0, get1, s1 k hk, s2 k hk, ha0, c2, l01In_eq]
    · refine .fin ha (h1 (by omega)) ta (fun k hk => ?_) (fun k hk => ?_)
      · rw [impl_bin (by omega) (by omega) hc]; simp [impl_reduceBinary, bind_id, impl_swapsKids, impl_isConst, get0, get1, i1 k hk, i2 k hk, ha0, c1]
      · rw [spec_bin (by omega) (by omega) hc]; simp [spec_l02Two, spec_l02Equal, bind_id, spec_const, get0, get1, s1 k hk, s2 k hk, ha0, c2, l01In_eq]
    · refine .fin me rfl (Nat.le_refl _) (fun k hk => ?_) (fun k hk => ?_)
      · rw [impl_bin (by omega) (by omega) hc]; simp [impl_reduceBinary, bind_id, impl_swapsKids, impl_isConst, get0, get1, i1 k hk, i2 k hk, ha0, c1, hs2, hs (by simp)]
      · rw [spec_bin (by omega) (by omega) hc]; simp [spec_l02Two, spec_l02Equal, bind_id, spec_const, get0, get1, s1 k hk, s2 k hk, ha0, c2, l01In_eq, hs2, gt (by simp)]
    · obtain rfl := h2 (by omega)
      refine .fin (mk_const (w := 1) (v := 0) (hz)) rfl (tc _) (fun k hk => ?_) (fun k hk => ?_)
      · rw [impl_bin (by omega) (by omega) hc]; simp [impl_reduceBinary, bind_id, impl_swapsKids, impl_isConst, get0, get1, i1 k hk, i2 k hk, ha0, c1, impl_const hz]
      · rw [spec_bin (by omega) (by omega) hc]; simp [spec_l02Two, spec_l02Equal, bind_id, spec_const, get0, get1, s1 k hk, s2 k hk, ha0, c2, l01In_eq]
    · refine .fin me rfl (Nat.le_refl _) (fun k hk => ?_) (fun k hk => ?_)
      · rw [impl_bin (by omega) (by omega) hc]; simp [impl_reduceBinary, bind_id, impl_swapsKids, impl_isConst, get0, get1, i1 k hk, i2 k hk, ha0, c1, hs2]
      · rw [spec_bin (by omega) (by omega) hc]; simp [spec_l02Two, spec_l02Equal, bind_id, spec_const, get0, get1, s1 k hk, s2 k hk, ha0, c2, l01In_eq, hs2]
  · have c1 : impl_constIs b 0 = some false := by
      unfold impl_constIs
      cases h : (b.Op == 0 && b.N == 0)
      · rfl
      · rw [Bool.and_eq_true, beq_iff_eq, beq_iff_eq] at h; exact absurd h z
    have c2 : spec_l02Is b 0 = some false := by
      unfold spec_l02Is
      cases h : (b.Op == 0 && b.N == 0)
      · rfl
      · rw [Bool.and_eq_true, beq_iff_eq, beq_iff_eq] at h; exact absurd h z
    by_cases e : ctm a b = 0
    · rcases hop with rfl | rfl | rfl | rfl | rfl | rfl | rfl | rfl | rfl | rfl | rfl | rfl | rfl | rfl
      · refine .fin me rfl (Nat.le_refl _) (fun k hk => ?_) (fun k hk => ?_)
        · rw [impl_bin (by omega) (by omega) hc]; simp [impl_reduceBinary, bind_id, impl_swapsKids, impl_isConst, get0, get1, i1 k hk, i2 k hk, ha0, c1, e]
        · rw [spec_bin (by omega) (by omega) hc]; simp [spec_l02Two, spec_l02Equal, bind_id, spec_const, get0, get1, s1 k hk, s2 k hk, ha0, c2, l01In_eq, e]
      · refine .fin (mk_const (w := w) (v := 0) (hz)) rfl (tc _) (fun k hk => ?_) (fun k hk => ?_)
        · rw [impl_bin (by omega) (by omega) hc]; simp [impl_reduceBinary, bind_id, impl_swapsKids, impl_isConst, get0, get1, i1 k hk, i2 k hk, ha0, c1, e, impl_const hz]
        · rw [spec_bin (by omega) (by omega) hc]; simp [spec_l02Two, spec_l02Equal, bind_id, spec_const, get0, get1, s1 k hk, s2 k hk, ha0, c2, l01In_eq, e]
      · refine .fin me rfl (Nat.le_refl _) (fun k hk => ?_) (fun k hk => ?_)
        · rw [impl_bin (by omega) (by omega) hc]; simp [impl_reduceBinary, bind_id, impl_swapsKids, impl_isConst, get0, get1, i1 k hk, i2 k hk, ha0, c1, e]
        · rw [spec_bin (by omega) (by omega) hc]; simp [spec_l02Two, spec_l02Equal, bind_id, spec_const, get0, get1, s1 k hk, s2 k hk, ha0, c2, l01In_eq, e]
      · refine .fin me rfl (Nat.le_refl _) (fun k hk => ?_) (fun k hk => ?_)
        · rw [impl_bin (by omega) (by omega) hc]; simp [impl_reduceBinary, bind_id, impl_swapsKids, impl_isConst, get0, get1, i1 k hk, i2 k hk, ha0, c1, e]
        · rw [spec_bin (by omega) (by omega) hc]; simp [spec_l02Two, spec_l02Equal, bind_id, spec_const, get0, get1, s1 k hk, s2 k hk, ha0, c2, l01In_eq, e]
      · refine .fin me rfl (Nat.le_refl _) (fun k hk => ?_) (fun k hk => ?_)
        · rw [impl_bin (by omega) (by omega) hc]; simp [impl_reduceBinary, bind_id, impl_swapsKids, impl_isConst, get0, get1, i1 k hk, i2 k hk, ha0, c1, e]
        · rw [spec_bin (by omega) (by omega) hc]; simp [spec_l02Two, spec_l02Equal, bind_id, spec_const, get0, get1, s1 k hk, s2 k hk, ha0, c2, l01In_eq, e]
      · refine .fin ha (h1 (by omega)) ta (fun k hk => ?_) (fun k hk => ?_)
        · rw [impl_bin (by omega) (by omega) hc]; simp [impl_reduceBinary, bind_id, impl_swapsKids, impl_isConst, get0, get1, i1 k hk, i2 k hk, ha0, c1, e]
        · rw [spec_bin (by omega) (by omega) hc]; simp [spec_l02Two, spec_l02Equal, bind_id, spec_const, get0, get1, s1 k hk, s2 k hk, ha0, c2, l01In_eq, e]
      · refine .fin ha (h1 (by omega)) ta (fun k hk => ?_) (fun k hk => ?_)
        · rw [impl_bin (by omega) (by omega) hc]; simp [impl_reduceBinary, bind_id, impl_swapsKids, impl_isConst, get0, get1, i1 k hk, i2 k hk, ha0, c1, e]
        · rw [spec_bin (by omega) (by omega) hc]; simp [spec_l02Two, spec_l02Equal, bind_id, spec_const, get0, get1, s1 k hk, s2 k hk, ha0, c2, l01In_eq, e]
      · refine .fin (mk_const (w := w) (v := 0) (hz)) rfl (tc _) (fun k hk => ?_) (fun k hk => ?_)
        · rw [impl_bin (by omega) (by omega) hc]; simp [impl_reduceBinary, bind_id, impl_swapsKids, impl_isConst, get0, get1, i1 k hk, i2 k hk, ha0, c1, e, impl_const hz]
        · rw [spec_bin (by omega) (by omega) hc]; simp [spec_l02Two, spec_l02Equal, bind_id, spec_const, get0, get1, s1 k hk, s2 k hk, ha0, c2, l01In_eq, e]
      · refine .fin me rfl (Nat.le_refl _) (fun k hk => ?_) (fun k hk => ?_)
        · rw [impl_bin (by omega) (by omega) hc]; simp [impl_reduceBinary, bind_id, impl_swapsKids, impl_isConst, get0, get1, i1 k hk, i2 k hk, ha0, c1, e]
        · rw [spec_bin (by omega) (by omega) hc]; simp [spec_l02Two, spec_l02Equal, bind_id, spec_const, get0, get1, s1 k hk, s2 k hk, ha0, c2, l01In_eq, e]
      · refine .fin me rfl (Nat.le_refl _) (fun k hk => ?_) (fun k hk => ?_)
        · rw [impl_bin (by omega) (by omega) hc]; simp [impl_reduceBinary, bind_id, impl_swapsKids, impl_isConst, get0, get1, i1 k hk, i2 k hk, ha0, c1, e]
        · rw [spec_bin (by omega) (by omega) hc]; simp [spec_l02Two, spec_l02Equal, bind_id, spec_const, get0, get1, s1 k hk, s2 k hk, ha0, c2, l01In_eq, e]
      · refine .fin me rfl (Nat.le_refl _) (fun k hk => ?_) (fun k hk => ?_)
        · rw [impl_bin (by omega) (by omega) hc]; simp [impl_reduceBinary, bind_id, impl_swapsKids, impl_isConst, get0, get1, i1 k hk, i2 k hk, ha0, c1, e]
        · rw [spec_bin (by omega) (by omega) hc]; simp [spec_l02Two, spec_l02Equal, bind_id, spec_const, get0, get1, s1 k hk, s2 k hk, ha0, c2, l01In_eq, e]
      · obtain rfl := h2 (by omega)
        refine .fin (mk_const (w := 1) (v := 1) (by decide)) rfl (tc _) (fun k hk => ?_) (fun k hk => ?_)
        · rw [impl_bin (by omega) (by omega) hc]; simp [impl_reduceBinary, bind_id, impl_swapsKids, impl_isConst, get0, get1, i1 k hk, i2 k hk, ha0, c1, e, impl_const (w := 1) (v := 1) (by decide)]
        · rw [spec_bin (by omega) (by omega) hc]; simp [spec_l02Two, spec_l02Equal, bind_id, spec_const, get0, get1, s1 k hk, s2 k hk, ha0, c2, l01In_eq, e]
      · refine .fin (mk_const (w := w) (v := 0) (hz)) rfl (tc _) (fun k hk => ?_) (fun k hk => ?_)
        · rw [impl_bin (by omega) (by omega) hc]; simp [impl_reduceBinary, bind_id, impl_swapsKids, impl_isConst, get0, get1, i1 k hk, i2 k hk, ha0, c1, e, impl_const hz]
        · rw [spec_bin (by omega) (by omega) hc]; simp [spec_l02Two, spec_l02Equal, bind_id, spec_const, get0, get1, s1 k hk, s2 k hk, ha0, c2, l01In_eq, e]
      · refine .fin (mk_const (w := w) (v := 0) (hz)) rfl (tc _) (fun k hk => ?_) (fun k hk => ?_)
        · rw [impl_bin (by omega) (by omega) hc]; simp [impl_reduceBinary, bind_id, impl_swapsKids, impl_isConst, get0, get1, i1 k hk, i2 k hk, ha0, c1, e, impl_const hz]
        · rw [spec_bin (by omega) (by omega) hc]; simp [spec_l02Two, spec_l02Equal, bind_id, spec_const, get0, get1, s1 k hk, s2 k hk, ha0, c2, l01In_eq, e]
    · rcases hop with rfl | rfl | rfl | rfl | rfl | rfl | rfl | rfl | rfl | rfl | rfl | rfl | rfl | rfl
      · refine .fin me rfl (Nat.le_refl _) (fun k hk => ?_) (fun k hk => ?_)
        · rw [impl_bin (by omega) (by omega) hc]; simp [impl_reduceBinary, bind_id, impl_swapsKids, impl_isConst, get0, get1, i1 k hk, i2 k hk, ha0, c1, e, hs (by simp)]
        · rw [spec_bin (by omega) (by omega) hc]; simp [spec_l02Two, spec_l02Equal, bind_id, spec_const, get0, get1, s1 k hk, s2 k hk, ha0, c2, l01In_eq, e, gt (by simp)]
      · refine .fin me rfl (Nat.le_refl _) (fun k hk => ?_) (fun k hk => ?_)
        · rw [impl_bin (by omega) (by omega) hc]; simp [impl_reduceBinary, bind_id, impl_swapsKids, impl_isConst, get0, get1, i1 k hk, i2 k hk, ha0, c1, e]
        · rw [spec_bin (by omega) (by omega) hc]; simp [spec_l02Two, spec_l02Equal, bind_id, spec_const, get0, get1, s1 k hk, s2 k hk, ha0, c2, l01In_eq, e]
      · refine .fin me rfl (Nat.le_refl _) (fun k hk => ?_) (fun k hk => ?_)
        · rw [impl_bin (by omega) (by omega) hc]; simp [impl_reduceBinary, bind_id, impl_swapsKids, impl_isConst, get0, get1, i1 k hk, i2 k hk, ha0, c1, e, hs (by simp)]
        · rw [spec_bin (by omega) (by omega) hc]; simp [spec_l02Two, spec_l02Equal, bind_id, spec_const, get0, get1, s1 k hk, s2 k hk, ha0, c2, l01In_eq, e, gt (by simp)]
      · refine .fin me rfl (Nat.le_refl _) (fun k hk => ?_) (fun k hk => ?_)
        · rw [impl_bin (by omega) (by omega) hc]; simp [impl_reduceBinary, bind_id, impl_swapsKids, impl_isConst, get0, get1, i1 k hk, i2 k hk, ha0, c1, e]
        · rw [spec_bin (by omega) (by omega) hc]; simp [spec_l02Two, spec_l02Equal, bind_id, spec_const, get0, get1, s1 k hk, s2 k hk, ha0, c2, l01In_eq, e]
      · refine .fin me rfl (Nat.le_refl _) (fun k hk => ?_) (fun k hk => ?_)
        · rw [impl_bin (by omega) (by omega) hc]; simp [impl_reduceBinary, bind_id, impl_swapsKids, impl_isConst, get0, get1, i1 k hk, i2 k hk, ha0, c1, e]
        · rw [spec_bin (by omega) (by omega) hc]; simp [spec_l02Two, spec_l02Equal, bind_id, spec_const, get0, get1, s1 k hk, s2 k hk, ha0, c2, l01In_eq, e]
      · refine .fin me rfl (Nat.le_refl _) (fun k hk => ?_) (fun k hk => ?_)
        · rw [impl_bin (by omega) (by omega) hc]; simp [impl_reduceBinary, bind_id, impl_swapsKids, impl_isConst, get0, get1, i1 k hk, i2 k hk, ha0, c1, e, hs (by simp)]
        · rw [spec_bin (by omega) (by omega) hc]; simp [spec_l02Two, spec_l02Equal, bind_id, spec_const, get0, get1, s1 k hk, s2 k hk, ha0, c2, l01In_eq, e, gt (by simp)]
      · refine .fin me rfl (Nat.le_refl _) (fun k hk => ?_) (fun k hk => ?_)
        · rw [impl_bin (by omega) (by omega) hc]; simp [impl_reduceBinary, bind_id, impl_swapsKids, impl_isConst, get0, get1, i1 k hk, i2 k hk, ha0, c1, e, hs (by simp)]
        · rw [spec_bin (by omega) (by omega) hc]; simp [spec_l02Two, spec_l02Equal, bind_id, spec_const, get0, get1, s1 k hk, s2 k hk, ha0, c2, l01In_eq, e, gt (by simp)]
      · refine .fin me rfl (Nat.le_refl _) (fun k hk => ?_) (fun k hk => ?_)
        · rw [impl_bin (by omega) (by omega) hc]; simp [impl_reduceBinary, bind_id, impl_swapsKids, impl_isConst, get0, get1, i1 k hk, i2 k hk, ha0, c1, e, hs (by simp)]
        · rw [spec_bin (by omega) (by omega) hc]; simp [spec_l02Two, spec_l02Equal, bind_id, spec_const, get0, get1, s1 k hk, s2 k hk, ha0, c2, l01In_eq, e, gt (by simp)]
      · refine .fin me rfl (Nat.le_refl _) (fun k hk => ?_) (fun k hk => ?_)
        · rw [impl_bin (by omega) (by omega) hc]; simp [impl_reduceBinary, bind_id, impl_swapsKids, impl_isConst, get0, get1, i1 k hk, i2 k hk, ha0, c1, e]
        · rw [spec_bin (by omega) (by omega) hc]; simp [spec_l02Two, spec_l02Equal, bind_id, spec_const, get0, get1, s1 k hk, s2 k hk, ha0, c2, l01In_eq, e]
      · refine .fin me rfl (Nat.le_refl _) (fun k hk => ?_) (fun k hk => ?_)
        · rw [impl_bin (by omega) (by omega) hc]; simp [impl_reduceBinary, bind_id, impl_swapsKids, impl_isConst, get0, get1, i1 k hk, i2 k hk, ha0, c1, e]
        · rw [spec_bin (by omega) (by omega) hc]; simp [spec_l02Two, spec_l02Equal, bind_id, spec_const, get0, get1, s1 k hk, s2 k hk, ha0, c2, l01In_eq, e]
      · refine .fin me rfl (Nat.le_refl _) (fun k hk => ?_) (fun k hk => ?_)
        · rw [impl_bin (by omega) (by omega) hc]; simp [impl_reduceBinary, bind_id, impl_swapsKids, impl_isConst, get0, get1, i1 k hk, i2 k hk, ha0, c1, e]
        · rw [spec_bin (by omega) (by omega) hc]; simp [spec_l02Two, spec_l02Equal, bind_id, spec_const, get0, get1, s1 k hk, s2 k hk, ha0, c2, l01In_eq, e]
      · refine .fin me rfl (Nat.le_refl _) (fun k hk => ?_) (fun k hk => ?_)
        · rw [impl_bin (by omega) (by omega) hc]; simp [impl_reduceBinary, bind_id, impl_swapsKids, impl_isConst, get0, get1, i1 k hk, i2 k hk, ha0, c1, e, hs (by simp)]
        · rw [spec_bin (by omega) (by omega) hc]; simp [spec_l02Two, spec_l02Equal, bind_id, spec_const, get0, get1, s1 k hk, s2 k hk, ha0, c2, l01In_eq, e, gt (by simp)]
      · refine .fin me rfl (Nat.le_refl _) (fun k hk => ?_) (fun k hk => ?_)
        · rw [impl_bin (by omega) (by omega) hc]; simp [impl_reduceBinary, bind_id, impl_swapsKids, impl_isConst, get0, get1, i1 k hk, i2 k hk, ha0, c1, e]
        · rw [spec_bin (by omega) (by omega) hc]; simp [spec_l02Two, spec_l02Equal, bind_id, spec_const, get0, get1, s1 k hk, s2 k hk, ha0, c2, l01In_eq, e]
      · refine .fin me rfl (Nat.le_refl _) (fun k hk => ?_) (fun k hk => ?_)
        · rw [impl_bin (by omega) (by omega) hc]; simp [impl_reduceBinary, bind_id, impl_swapsKids, impl_isConst, get0, get1, i1 k hk, i2 k hk, ha0, c1, e]
        · rw [spec_bin (by omega) (by omega) hc]; simp [spec_l02Two, spec_l02Equal, bind_id, spec_const, get0, get1, s1 k hk, s2 k hk, ha0, c2, l01In_eq, e]
theorem step_bin {op w : Int} {a b : D.Term} (h3 : 3 ≤ op) (h16 : op ≤ 16) (ha : nodeB a = true) (hb : nodeB b = true) (hw : a.W = b.W) (h1 : op ≤ 13 → a.W = w) (h2 : 14 ≤ op → w = 1) (hc : (a.Op == 0 && b.Op == 0) = false) (hn : cnt a ≤ 240) : Stp ⟨op, w, 0, ⟨[]⟩, [a, b]⟩ := by
  by_cases ho : op = 3 ∨ op = 5 ∨ op = 8 ∨ op = 9 ∨ op = 10 ∨ op = 14
  · by_cases hs : ctm a b = 1
    · exact step_swap ho ha hb hw h1 h2 hc hn hs
    by_cases ha0 : a.Op = 0
    · exact step_first ho ha hb hw h1 h2 ha0 (fun e => by simp [ha0, e] at hc) hn hs
    · exact step_rest h3 h16 ha hb hw h1 h2 ha0 hn fun _ => hs
  · by_cases ha0 : a.Op = 0
    · exact step_first2 (by omega) ha hb hw h1 h2 ha0 (fun e => by simp [ha0, e] at hc) hn
    · exact step_rest h3 h16 ha hb hw h1 h2 ha0 hn fun o => absurd o ho
theorem step {t : D.Term} (h : nodeB t = true) (hn : cnt t ≤ 240) : Stp t := by
  obtain ⟨op, w, m, nm, ks⟩ := t
  obtain ⟨⟨w1, w2⟩, hs⟩ := node_shape h
  by_cases hc : ks ≠ [] ∧ (ks.all fun x => x.Op == 0) = true
  · refine step_known h hc.1 ?_ hc.2
    rcases hs with ⟨_, rfl, _⟩ | ⟨_, rfl, _⟩ | ⟨_, _, _, a, rfl, _⟩ | ⟨_, _, _, _, a, b, rfl, _⟩ | ⟨_, _, _, a, b, c, rfl, _⟩ | ⟨_, _, _, a, b, rfl, _⟩ | ⟨_, _, _, _, a, rfl, _⟩ | ⟨_, _, _, a, rfl, _⟩ <;> simp
  have hc : ks ≠ [] → (ks.all fun x => x.Op == 0) = false := fun e => by
    cases q : ks.all fun x => x.Op == 0
    · rfl
    · exact absurd ⟨e, q⟩ hc
  rcases hs with ⟨ho, rfl, rfl, hv⟩ | ⟨ho, rfl, rfl⟩ | ⟨ho, rfl, rfl, a, rfl, ha, hw⟩ | ⟨h3, h16, rfl, rfl, a, b, rfl, ha, hb, hab, e1, e2⟩ | ⟨rfl, rfl, rfl, a, b, c, rfl, ha, hb, hcc, aw, bw, cw⟩ | ⟨rfl, rfl, rfl, a, b, rfl, ha, hb, hab⟩ | ⟨rfl, rfl, m0, m16, a, rfl, ha, haw⟩ | ⟨ho, rfl, rfl, a, rfl, ha, haw⟩
  · exact step_leaf h (.inl ho)
  · exact step_leaf h (.inr ho)
  · exact step_un ho ha hw (by have := hc (by simp); simpa using this)
  · rw [cnt2] at hn
    exact step_bin h3 h16 ha hb hab e1 e2 (by have := hc (by simp); simpa using this) (by omega)
  · rw [cnt3] at hn
    exact step_if ha hb hcc aw bw cw (by have := hc (by simp); simpa using this) (by omega)
  · rw [cnt2] at hn
    exact step_join ha hb hab w2 (by have := hc (by simp); simpa using this) (by omega)
  · exact step_cut ha m0 m16 w1 haw (by have := hc (by simp); simpa using this)
  · exact step_wid ho ha haw w2 (by have := hc (by simp); simpa using this)
/-- the simpler form of a node: the same for both, a node again, not larger -/
theorem simpler : ∀ (d : Nat) (t : D.Term), mea t ≤ d → nodeB t = true → cnt t ≤ 240 → ∃ r, nodeB r = true ∧ r.W = t.W ∧ cnt r ≤ cnt t ∧ (∀ n, 1100000 + 8 * (d + 1) ≤ n → impl_reduce n t = some r) ∧ ∀ n, 1100000 + 8 * (d + 1) ≤ n → spec_l02Make n t = some r := by
  intro d
  induction d with
  | zero =>
    intro t h
    have := cnt_pos t
    unfold mea at h; omega
  | succ d ih =>
    intro t hm h hn
    obtain ⟨s, hg, h1, h2⟩ := step h hn
    cases s with
    | inl r =>
      refine ⟨r, hg.1, hg.2.1, hg.2.2, fun n hn => ?_, fun n hn => ?_⟩
      · obtain ⟨k, rfl⟩ : ∃ k, n = k + 8 := ⟨n - 8, by omega⟩
        obtain ⟨k', _, e⟩ := h1 k (by omega)
        exact e
      · obtain ⟨k, rfl⟩ : ∃ k, n = k + 8 := ⟨n - 8, by omega⟩
        obtain ⟨k', _, e⟩ := h2 k (by omega)
        exact e
    | inr u =>
      obtain ⟨g1, g2, g3, g4⟩ := hg
      obtain ⟨r, q1, q2, q3, q4, q5⟩ := ih u (by omega) g1 (by omega)
      refine ⟨r, q1, by rw [q2, g2], by omega, fun n hn => ?_, fun n hn => ?_⟩
      · obtain ⟨k, rfl⟩ : ∃ k, n = k + 8 := ⟨n - 8, by omega⟩
        obtain ⟨k', hk', e⟩ := h1 k (by omega)
        rw [e]; exact q4 k' (by omega)
      · obtain ⟨k, rfl⟩ : ∃ k, n = k + 8 := ⟨n - 8, by omega⟩
        obtain ⟨k', hk', e⟩ := h2 k (by omega)
        rw [e]; exact q5 k' (by omega)
theorem simple {t : D.Term} (h : nodeB t = true) (hn : cnt t ≤ 240) : ∃ r, nodeB r = true ∧ r.W = t.W ∧ cnt r ≤ cnt t ∧ impl_reduce fuel t = some r ∧ spec_l02Make fuel t = some r := by
  obtain ⟨r, q1, q2, q3, q4, q5⟩ := simpler (mea t) t (Nat.le_refl _) h hn
  have := swp_le t
  have e : mea t = 2 * cnt t + swp t := rfl
  exact ⟨r, q1, q2, q3, q4 _ (by unfold fuel; omega), q5 _ (by unfold fuel; omega)⟩
end Go.Proofs.YtbljmkpofaibeaaGreat
end

section
namespace Go.Proofs.YtbljmkpofaibeaaGreat
open Go.GL
set_option linter.unusedSimpArgs false
set_option maxRecDepth 100000
theorem spec_copy : ∀ (n : Nat) (t : D.Term), msz t ≤ 1048576 → 1048580 + cnt t ≤ n → spec_l02Copy n t = some t := by
  intro n
  induction n with
  | zero => intro t _ h; omega
  | succ n ih =>
    intro t hs hn
    have hz := msz_eq t
    have hc := cnt_eq t
    rw [spec_l02Copy]
    obtain ⟨r, g1, g2⟩ := iter_all (l := t.Kids) (n := n) (σ := List D.Term) (ρ := List D.Term) (B := fun (s1 : Int × (List D.Term)) =>
    if (decide (s1.1 < (len t.Kids))) then
      (get? t.Kids s1.1).bind fun x1 =>
      (spec_l02Copy n x1).bind fun x2 =>
      (app? s1.2 ([x2] : List D.Term)).bind fun x3 =>
      some (.inl ((w64 (s1.1 + 1)), x3))
    else
      some (.inr (s1.2))) (fun j a => ((j : Int), a)) (fun ys a => a ++ ys = t.Kids ∧ (∀ x ∈ ys, x ∈ t.Kids)) (fun r => r = t.Kids)
      (fun j x xs a hj hx hlen ⟨h1, h2⟩ => by
        have hd : decide ((j : Int) < len t.Kids) = true := by rw [len_nat]; simp; omega
        have hm := h2 x (by simp)
        have m1 := mszs_mem hm
        have m2 := cnts_mem hm
        have hl := congrArg List.length h1
        simp only [List.length_append, List.length_cons] at hl
        simp only [hd, if_true, get?_nat, hx, Option.bind_some, ih x (by omega) (by omega)]
        rw [app_len (by simp; omega)]
        exact .inl ⟨a ++ [x], by simp only [Option.bind_some]; rw [w64_id (by omega) (by omega)]; rfl, by simp [← h1], fun y hy => h2 y (by simp [hy])⟩)
      (fun a ⟨h1, _⟩ => by
        have hd : decide ((t.Kids.length : Int) < len t.Kids) = false := by rw [len_nat]; simp
        simp only [hd, Bool.false_eq_true, if_false]
        exact ⟨_, rfl, by simpa using h1⟩) (a := []) ⟨rfl, fun _ h => h⟩ (by omega)
    rw [show ((0 : Nat) : Int) = 0 from rfl] at g1
    rw [g1, g2]
    cases t; rfl
theorem impl_copy : ∀ n : Nat, (∀ t : D.Term, msz t ≤ 1048576 → 1048580 + 2 * msz t + 1 ≤ n → impl_copyTerm n t = some t) ∧ (∀ l : List D.Term, sml l → 1048580 + 2 * (l.length + mszs l) ≤ n → impl_copyTerms n l = some l) := by
  intro n
  induction n with
  | zero => exact ⟨fun t _ _ => by omega, fun l _ _ => by omega⟩
  | succ n ih =>
    refine ⟨fun t h hn => ?_, fun l h hn => ?_⟩
    · have := msz_eq t
      unfold impl_copyTerm
      rw [ih.2 t.Kids (by unfold sml; omega) (by omega)]
      cases t; rfl
    · unfold sml at h
      unfold impl_copyTerms
      by_cases c0 : l.length = 0
      · have : l = [] := List.length_eq_zero_iff.1 c0
        subst this; rfl
      rw [if_neg (by rw [len_nat]; simp; exact fun e => c0 (by simp [e])), mk?_len (by unfold room; omega)]
      simp only [Option.bind_some]
      obtain ⟨r, g1, g2⟩ := iter_all (l := l) (n := n) (σ := List D.Term) (ρ := List D.Term) (B := fun (s1 : Int × (List D.Term)) =>
          if (decide (s1.1 < (len l))) then
            (get? l s1.1).bind fun x2 =>
            (impl_copyTerm n x2).bind fun x3 =>
            (set? s1.2 s1.1 x3).bind fun x4 =>
            some (.inl ((w64 (s1.1 + 1)), x4))
          else
            some (.inr (s1.2))) (fun k (a : List D.Term) => ((k : Int), a)) (fun ys a => (∃ pre zs : List D.Term, pre ++ ys = l ∧ a = pre ++ zs ∧ zs.length = ys.length) ∧ ∀ x ∈ ys, x ∈ l) (fun r => r = l)
          (fun k x xs a hk' hx hlen ⟨⟨pre, zs, h1, hz, hz'⟩, hm⟩ => by
            have hxl := hm x (by simp)
            have := mszs_mem hxl
            have hl := congrArg List.length h1
            simp only [List.length_cons, List.length_append] at hlen hz' hl
            simp only [get?_nat, hx, Option.bind_some, len_nat]
            rw [if_pos (by simpa using hk'), ih.1 x (by omega) (by omega)]
            simp only [Option.bind_some]
            obtain ⟨z, zs, rfl⟩ : ∃ z zs', zs = z :: zs' := by cases zs with | nil => simp at hz' | cons z zs => exact ⟨_, _, rfl⟩
            have e1 : pre.length = k := by omega
            subst hz
            rw [set?_nat (by simp; omega)]
            refine .inl ⟨(pre ++ z :: zs).set k x, by simp only [Option.bind_some]; rw [w64_id (by omega) (by omega)]; rfl, ⟨pre ++ [x], zs, by simp [← h1], ?_, by simpa using hz'⟩, fun y hy => hm y (by simp [hy])⟩
            rw [List.set_append_right _ _ (by omega), e1, Nat.sub_self]; simp)
          (fun a ⟨⟨pre, zs, h1, h2, h3⟩, _⟩ => by
            have hd : decide ((l.length : Int) < len l) = false := by rw [len_nat]; simp
            simp only [hd, Bool.false_eq_true, if_false]
            simp only [List.length_nil, List.length_eq_zero_iff] at h3
            subst h3
            exact ⟨_, rfl, by rw [h2]; simpa using h1⟩) (a := List.replicate l.length _) ⟨⟨[], _, rfl, rfl, by simp⟩, fun _ h => h⟩ (by omega)
      rw [show ((0 : Nat) : Int) = 0 from rfl] at g1
      rw [g1, g2]
      rfl
theorem small_node {t : D.Term} (h : nodeB t = true) (hn : cnt t ≤ 240) : msz t ≤ 2640 := by
  have := msz_cnt h
  omega
theorem cp_spec {t : D.Term} (h : nodeB t = true) (hn : cnt t ≤ 240) : spec_l02Copy fuel t = some t := spec_copy _ _ (by have := small_node h hn; omega) (by unfold fuel; omega)
theorem cp_impl {t : D.Term} (h : nodeB t = true) (hn : cnt t ≤ 240) : impl_copyTerm fuel t = some t := (impl_copy _).1 _ (by have := small_node h hn; omega) (by have := small_node h hn; unfold fuel; omega)
def t0 : D.Term := ⟨0, 0, 0, ⟨[]⟩, []⟩
/-- the simpler form -/
noncomputable def simp1 (t : D.Term) : D.Term := (impl_reduce fuel t).getD t0
theorem simp1_ok {t : D.Term} (h : nodeB t = true) (hn : cnt t ≤ 240) : nodeB (simp1 t) = true ∧ (simp1 t).W = t.W ∧ cnt (simp1 t) ≤ cnt t ∧ impl_reduce fuel t = some (simp1 t) ∧ spec_l02Make fuel t = some (simp1 t) := by
  obtain ⟨r, q1, q2, q3, q4, q5⟩ := simple h hn
  have e : simp1 t = r := by unfold simp1; rw [q4]; rfl
  rw [e]; exact ⟨q1, q2, q3, q4, q5⟩
theorem termB_parts {t : D.Term} (h : termB t = true) : nodeB t = true ∧ cnt t ≤ 240 := by
  unfold termB at h
  simp only [Bool.and_eq_true, decide_eq_true_eq] at h
  exact ⟨h.1.2, h.1.1⟩
/-- a term that is made, and whether it could be -/
noncomputable def mkT (op w m : Int) (ks : List D.Term) : D.Term × Bool := if termB ⟨op, w, m, ⟨[]⟩, ks⟩ = true then (simp1 ⟨op, w, m, ⟨[]⟩, ks⟩, true) else (t0, false)
theorem mk_sz {op w m : Int} {ks : List D.Term} (h : sml ks) : msz ⟨op, w, m, ⟨[]⟩, ks⟩ ≤ 1048576 := by
  rw [msz_eq]; unfold sml at h; simp; omega
theorem spec_mk {op w m : Int} {ks : List D.Term} (h : sml ks) : spec_MakeTerm fuel op w m ks = some (mkT op w m ks) := by
  unfold spec_MakeTerm mkT
  rw [spec_term (mk_sz h)]
  simp only [Option.bind_some]
  cases c : termB ⟨op, w, m, ⟨[]⟩, ks⟩
  · rfl
  · obtain ⟨a, b⟩ := termB_parts c
    obtain ⟨q1, q2, q3, q4, q5⟩ := simp1_ok a b
    simp only [Bool.not_true, Bool.false_eq_true, if_false, if_true, q5, Option.bind_some, cp_spec q1 (by omega)]
theorem impl_mk {op w m : Int} {ks : List D.Term} (h : sml ks) : impl_makeTerm fuel op w m ks = some (mkT op w m ks) := by
  unfold impl_makeTerm mkT
  rw [impl_term (mk_sz h)]
  simp only [Option.bind_some]
  cases c : termB ⟨op, w, m, ⟨[]⟩, ks⟩
  · rfl
  · obtain ⟨a, b⟩ := termB_parts c
    obtain ⟨q1, q2, q3, q4, q5⟩ := simp1_ok a b
    simp only [Bool.not_true, Bool.false_eq_true, if_false, if_true, q4, Option.bind_some]
/-- a node that is not too large -/
def fine (t : D.Term) : Prop := nodeB t = true ∧ cnt t ≤ 240
theorem fine_of {t : D.Term} (h : termB t = true) : fine t := termB_parts h
theorem mkT_fine {op w m : Int} {ks : List D.Term} (h : (mkT op w m ks).2 = true) : fine (mkT op w m ks).1 ∧ (mkT op w m ks).1.W = w := by
  unfold mkT at h ⊢
  cases c : termB ⟨op, w, m, ⟨[]⟩, ks⟩
  · rw [c] at h; simp at h
  · obtain ⟨a, b⟩ := termB_parts c
    obtain ⟨q1, q2, q3, q4, q5⟩ := simp1_ok a b
    simp only [if_true]
    exact ⟨⟨q1, by omega⟩, q2⟩
theorem fine_sz {t : D.Term} (h : fine t) : msz t ≤ 2640 := small_node h.1 h.2
theorem sml2 {a b : D.Term} (ha : msz a ≤ 2640) (hb : msz b ≤ 1000000) : sml [a, b] := by
  unfold sml
  rw [mszs_cons, mszs_cons, mszs_nil]; simp; omega
/-- all of them, from a term on -/
noncomputable def andT : D.Term → List D.Term → D.Term × Bool
  | a, [] => (a, true)
  | a, x :: l => if (mkT 8 1 0 [a, x]).2 = true then andT (mkT 8 1 0 [a, x]).1 l else (t0, false)
theorem andT_nil (a : D.Term) : andT a [] = (a, true) := by rw [andT]
theorem pair_eta {p : D.Term × Bool} (h : p.2 = true) : (D.Term.mk p.1.Op p.1.W p.1.N p.1.Name p.1.Kids, true) = p := by
  obtain ⟨⟨a, b, c, d, e⟩, q⟩ := p
  cases h; rfl
theorem andT_fine : ∀ {l : List D.Term} {a : D.Term}, fine a → (andT a l).2 = true → fine (andT a l).1
  | [], a, ha, _ => ha
  | x :: l, a, ha, h => by
    unfold andT at h ⊢
    by_cases c : (mkT 8 1 0 [a, x]).2 = true
    · rw [if_pos c] at h ⊢; exact andT_fine (mkT_fine c).1 h
    · rw [if_neg c] at h; cases h
theorem and_loop {mk : Int → Int → Int → List D.Term → Option (D.Term × Bool)} (hmk : ∀ ks, sml ks → mk 8 1 0 ks = some (mkT 8 1 0 ks)) {l : List D.Term} {a : D.Term} (ha : fine a) (hl : l.length ≤ 1048576) (hs : ∀ x ∈ l, msz x ≤ 2640) :
    iterN (fun (s2 : Int × Int × Int × Int × Str × (List D.Term)) =>
      if (decide (s2.1 < (len l))) then
        (get? l s2.1).bind fun x4 =>
        (mk 8 1 0 ([(D.Term.mk s2.2.1 s2.2.2.1 s2.2.2.2.1 s2.2.2.2.2.1 s2.2.2.2.2.2), x4] : List D.Term)).bind fun x5 =>
        if (!x5.2) then
          some (.inr (.inr ((D.Term.mk 0 0 0 ⟨[]⟩ ([] : List D.Term)), false)))
        else
          some (.inl ((w64 (s2.1 + 1)), x5.1.Op, x5.1.W, x5.1.N, x5.1.Name, x5.1.Kids))
      else
        some (.inr (.inl (s2.2.1, s2.2.2.1, s2.2.2.2.1, s2.2.2.2.2.1, s2.2.2.2.2.2)))
     : Int × Int × Int × Int × Str × (List D.Term) → Option ((Int × Int × Int × Int × Str × (List D.Term)) ⊕ ((Int × Int × Int × Str × (List D.Term)) ⊕ (D.Term × Bool)))) fuel (0, a.Op, a.W, a.N, a.Name, a.Kids) = some (if (andT a l).2 = true then (.inl ((andT a l).1.Op, (andT a l).1.W, (andT a l).1.N, (andT a l).1.Name, (andT a l).1.Kids) : ((Int × Int × Int × Str × (List D.Term)) ⊕ (D.Term × Bool))) else .inr (t0, false)) := by
  obtain ⟨r, g1, g2⟩ := iter_all (l := l) (n := fuel) (σ := D.Term) (ρ := (Int × Int × Int × Str × (List D.Term)) ⊕ (D.Term × Bool)) (B := fun (s2 : Int × Int × Int × Int × Str × (List D.Term)) =>
      if (decide (s2.1 < (len l))) then
        (get? l s2.1).bind fun x4 =>
        (mk 8 1 0 ([(D.Term.mk s2.2.1 s2.2.2.1 s2.2.2.2.1 s2.2.2.2.2.1 s2.2.2.2.2.2), x4] : List D.Term)).bind fun x5 =>
        if (!x5.2) then
          some (.inr (.inr ((D.Term.mk 0 0 0 ⟨[]⟩ ([] : List D.Term)), false)))
        else
          some (.inl ((w64 (s2.1 + 1)), x5.1.Op, x5.1.W, x5.1.N, x5.1.Name, x5.1.Kids))
      else
        some (.inr (.inl (s2.2.1, s2.2.2.1, s2.2.2.2.1, s2.2.2.2.2.1, s2.2.2.2.2.2)))) (fun k a => ((k : Int), a.Op, a.W, a.N, a.Name, a.Kids))
    (fun ys b => fine b ∧ andT b ys = andT a l ∧ ∀ x ∈ ys, msz x ≤ 2640) (fun r => r = if (andT a l).2 = true then (.inl ((andT a l).1.Op, (andT a l).1.W, (andT a l).1.N, (andT a l).1.Name, (andT a l).1.Kids) : ((Int × Int × Int × Str × (List D.Term)) ⊕ (D.Term × Bool))) else .inr (t0, false))
    (fun k x xs b hk hx hlen ⟨h1, h2, h3⟩ => by
      have hd : decide ((k : Int) < len l) = true := by rw [len_nat]; simp; omega
      have hsz := fine_sz h1
      have e : (D.Term.mk b.Op b.W b.N b.Name b.Kids) = b := by cases b; rfl
      simp only [hd, if_true, get?_nat, hx, Option.bind_some, e]
      rw [hmk [b, x] (sml2 hsz (by have := h3 x (by simp); omega))]
      simp only [Option.bind_some]
      by_cases c : (mkT 8 1 0 [b, x]).2 = true
      · rw [if_neg (by rw [c]; simp)]
        refine .inl ⟨(mkT 8 1 0 [b, x]).1, by rw [w64_id (by omega) (by omega)]; rfl, (mkT_fine c).1, ?_, fun y hy => h3 y (by simp [hy])⟩
        rw [← h2]
        conv => rhs; unfold andT
        rw [if_pos c]
      · rw [if_pos (by simp [c])]
        refine .inr ⟨_, rfl, ?_⟩
        have : andT a l = (t0, false) := by
          rw [← h2]; unfold andT; rw [if_neg c]
        rw [this]; rfl)
    (fun b ⟨h1, h2, _⟩ => by
      have hd : decide ((l.length : Int) < len l) = false := by rw [len_nat]; simp
      simp only [hd, Bool.false_eq_true, if_false]
      rw [andT_nil] at h2
      rw [← h2]
      exact ⟨_, rfl, rfl⟩) (a := a) ⟨ha, rfl, hs⟩ (lt_fuel hl)
  rw [show ((0 : Nat) : Int) = 0 from rfl] at g1
  rw [g1, g2]
def c11 : D.Term := ⟨0, 1, 1, ⟨[]⟩, []⟩
theorem c11_fine : fine c11 := ⟨mk_const (by decide), by unfold c11; rw [cnt0]; omega⟩
/-- what AllOf gives -/
noncomputable def allT (l : List D.Term) : D.Term × Bool := if tsB l 1 = true then andT c11 l else (t0, false)
theorem tsB_mem {l : List D.Term} {w : Int} (h : tsB l w = true) {x : D.Term} (hx : x ∈ l) : termB x = true ∧ x.W = w := by
  unfold tsB at h
  rw [List.all_eq_true] at h
  have := h x hx
  simpa using this
theorem andT_no : ∀ {l : List D.Term} {a : D.Term}, (andT a l).2 = false → andT a l = (t0, false)
  | [], a, h => by cases h
  | x :: l, a, h => by
    unfold andT at h ⊢
    by_cases c : (mkT 8 1 0 [a, x]).2 = true
    · rw [if_pos c] at h ⊢; exact andT_no h
    · rw [if_neg c]
theorem all_gen2 {α ρ : Type} {l : List α} {b : α → Bool} {z : ρ} (G : α → Int → Option (Int ⊕ (Unit ⊕ ρ))) (hG : ∀ (k : Nat) (x : α), l[k]? = some x → G x k = if b x = true then some (.inl (w64 ((k : Int) + 1))) else some (.inr (.inr z))) (hb : l.length ≤ 1048576) {n : Nat} (hn : l.length < n) :
    iterN (fun (s1 : Int) => if (decide (s1 < (len l))) then (get? l s1).bind fun x1 => G x1 s1 else some (.inr (.inl ()))) n 0 = some (if l.all b = true then (.inl () : Unit ⊕ ρ) else .inr z) := by
  obtain ⟨r, g1, g2⟩ := iter_all (l := l) (n := n) (σ := Unit) (ρ := Unit ⊕ ρ) (B := fun (s1 : Int) => if (decide (s1 < (len l))) then (get? l s1).bind fun x1 => G x1 s1 else some (.inr (.inl ())))
    (fun k _ => (k : Int)) (fun ys _ => ys.all b = l.all b) (fun r => r = if l.all b = true then (.inl () : Unit ⊕ ρ) else .inr z)
    (fun k x xs a hk' hx hlen hi => by
      have hd : decide ((k : Int) < len l) = true := by rw [len_nat]; simp; omega
      simp only [hd, if_true, get?_nat, hx, Option.bind_some]
      rw [hG k x hx]
      rw [List.all_cons] at hi
      cases c : b x
      · rw [c, Bool.false_and] at hi
        exact .inr ⟨_, rfl, by rw [← hi]; rfl⟩
      · rw [c, Bool.true_and] at hi
        exact .inl ⟨(), by rw [w64_id (by omega) (by omega)]; rfl, hi⟩)
    (fun a hi => by
      have hd : decide ((l.length : Int) < len l) = false := by rw [len_nat]; simp
      simp only [hd, Bool.false_eq_true, if_false]
      exact ⟨_, rfl, by rw [← hi]; rfl⟩) (a := ()) rfl hn
  rw [show ((0 : Nat) : Int) = 0 from rfl] at g1
  rw [g1, g2]
theorem spec_all {l : List D.Term} (h : sml l) : spec_AllOf fuel l = some (allT l) := by
  unfold spec_AllOf allT
  have hl := all_gen2 (l := l) (b := fun t => termB t && t.W == 1) (z := ((D.Term.mk 0 0 0 ⟨[]⟩ ([] : List D.Term)), false)) (fun x1 s1 => (spec_TermOk fuel x1).bind fun x2 =>
      if ((!x2) || (x1.W != 1)) then
        some (.inr (.inr ((D.Term.mk 0 0 0 ⟨[]⟩ ([] : List D.Term)), false)))
      else
        some (.inl ((w64 (s1 + 1))))) (fun k x hx => by
    simp only [spec_term (sml_mem h (List.mem_of_getElem? hx)), Option.bind_some]
    cases termB x <;> by_cases c : x.W = 1 <;> simp [c]) (sml_len h) (lt_fuel (sml_len h))
  rw [hl]
  simp only [Option.bind_some]
  cases c : tsB l 1
  · unfold tsB at c
    rw [c]; rfl
  have hm := fun x hx => fine_sz (fine_of (tsB_mem c (x := x) hx).1)
  unfold tsB at c
  rw [c]
  simp only [if_true, spec_const, Option.bind_some]
  have := and_loop (mk := spec_MakeTerm fuel) (fun ks hk => spec_mk hk) c11_fine (sml_len h) hm
  unfold c11 at this
  simp only at this
  rw [this]
  simp only [Option.bind_some]
  cases e : (andT ⟨0, 1, 1, ⟨[]⟩, []⟩ l).2
  · rw [show andT c11 l = (t0, false) from andT_no e]; rfl
  · simp only [if_true]
    exact congrArg some (pair_eta e)
theorem impl_all1 {l : List D.Term} (h : sml l) : impl_allOf fuel l = some (allT l) := by
  unfold impl_allOf allT
  rw [impl_const (by decide)]
  simp only [Option.bind_some]
  have hl := all_gen2 (l := l) (b := fun t => termB t && t.W == 1) (z := ((D.Term.mk 0 0 0 ⟨[]⟩ ([] : List D.Term)), false)) (fun x2 s1 => (impl_TermOk fuel x2).bind fun x3 =>
      (if (!x3) then some default else (get? l s1)).bind fun x4 =>
      if ((!x3) || (x4.W != 1)) then
        some (.inr (.inr ((D.Term.mk 0 0 0 ⟨[]⟩ ([] : List D.Term)), false)))
      else
        some (.inl ((w64 (s1 + 1))))) (fun k x hx => by
    simp only [impl_term (sml_mem h (List.mem_of_getElem? hx)), Option.bind_some, get?_nat, hx]
    cases termB x <;> by_cases c : x.W = 1 <;> simp [c]) (sml_len h) (lt_fuel (sml_len h))
  rw [hl]
  simp only [Option.bind_some]
  cases c : tsB l 1
  · unfold tsB at c
    rw [c]; rfl
  have hm := fun x hx => fine_sz (fine_of (tsB_mem c (x := x) hx).1)
  unfold tsB at c
  rw [c]
  simp only [if_true]
  have := and_loop (mk := impl_makeTerm fuel) (fun ks hk => impl_mk hk) c11_fine (sml_len h) hm
  unfold c11 at this
  simp only at this
  rw [this]
  simp only [Option.bind_some]
  cases e : (andT ⟨0, 1, 1, ⟨[]⟩, []⟩ l).2
  · rw [show andT c11 l = (t0, false) from andT_no e]; rfl
  · simp only [if_true]
    exact congrArg some (pair_eta e)
theorem allT_fine {l : List D.Term} (h : (allT l).2 = true) : fine (allT l).1 := by
  unfold allT at h ⊢
  split at h
  · rename_i c; rw [if_pos c]; exact andT_fine c11_fine h
  · cases h
theorem allT_no {l : List D.Term} (h : (allT l).2 = false) : allT l = (t0, false) := by
  unfold allT at h ⊢
  split
  · rename_i c; rw [if_pos c] at h; exact andT_no h
  · rfl
end Go.Proofs.YtbljmkpofaibeaaGreat
end

section
namespace Go.Proofs.YtbljmkpofaibeaaGreat
open Go.GL
set_option linter.unusedSimpArgs false
set_option maxRecDepth 100000
theorem iterN_go {σt ρt : Type} {B : σt → Option (σt ⊕ ρt)} {s s' : σt} {n : Nat} (h : B s = some (.inl s')) : iterN B (n + 1) s = iterN B n s' := by
  conv => lhs; unfold iterN
  rw [h]
theorem t0_sml : sml t0.Kids := by show [].length + mszs [] ≤ 1048576; rw [mszs_nil]; simp
theorem t0_sz : msz t0 ≤ 1048576 := by rw [msz_eq]; show 0 + 0 + mszs [] ≤ _; rw [mszs_nil]; simp
theorem fine_sml {t : D.Term} (h : fine t) : sml t.Kids := by
  have := fine_sz h
  have := msz_eq t
  unfold sml; omega
theorem eq_term {t : D.Term} (h : msz t ≤ 1048576) : laws_eqTerm fuel t t = some true := (eqT fuel).1 t h (by unfold fuel; omega)
end Go.Proofs.YtbljmkpofaibeaaGreat
end
