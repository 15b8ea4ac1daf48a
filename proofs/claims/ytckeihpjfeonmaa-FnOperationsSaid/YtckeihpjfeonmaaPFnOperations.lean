/- The plain law of this claim. No program in sight. -/
import Derived.Test.YtckeihpjfeonmaaPChk
namespace Go.Proofs.Ytckeihpjfeonmaa
open Go.GL
theorem giveS_ok {code : List Byt} (hl : code.length ≤ 1048576) {n lo hi : Int} (h0 : 0 ≤ n) (h1 : 0 ≤ lo) (h2 : lo ≤ hi) (h3 : hi ≤ 1000) : ∃ x, spec_GiveSize fuel code n lo hi = some x ∧ lo ≤ x ∧ x ≤ hi := by
  unfold spec_GiveSize spec_GiveNum
  obtain ⟨i, h, e, ok⟩ := at_ok hl h0
  rw [e]
  simp only [Option.bind_some]
  obtain ⟨x, i2, h2', e2, x0, x1, ok2⟩ := byte_ok ok
  have e2' : spec_l01Byte (D.l01Cur.mk code i h) = some (x, ⟨code, i2, h2'⟩) := e2
  rw [e2']
  simp only [Option.bind_some]
  obtain ⟨y, i3, h3', e3, y0, y1, ok3⟩ := byte_ok ok2
  have e3' : spec_l01Byte (D.l01Cur.mk code i2 h2') = some (y, ⟨code, i3, h3'⟩) := e3
  rw [e3']
  simp only [Option.bind_some]
  rw [w64_id (x := 256 * x) (by omega) (by omega), w64_id (x := 256 * x + y) (by omega) (by omega), w64_id (x := hi - lo) (by omega) (by omega), w64_id (x := hi - lo + 1) (by omega) (by omega)]
  have hr : rem? (256 * x + y) (hi - lo + 1) = some ((256 * x + y).tmod (hi - lo + 1)) := by unfold rem?; rw [if_neg (by omega)]
  rw [hr]
  simp only [Option.bind_some]
  have b0 := Int.tmod_nonneg (hi - lo + 1) (show 0 ≤ 256 * x + y by omega)
  have b1 := Int.tmod_lt_of_pos (256 * x + y) (show 0 < hi - lo + 1 by omega)
  exact ⟨_, rfl, by rw [w64_id (by omega) (by omega)]; omega, by rw [w64_id (by omega) (by omega)]; omega⟩
theorem fin_FnOperations (code : List Byt) (_ : fitList fitByt code) : ∃ n, laws_FnOperations n code = some true := by
  refine ⟨fuel, ?_⟩
  unfold laws_FnOperations
  by_cases c0 : len code > 1048576
  · rw [if_pos (by simpa using c0)]
  rw [if_neg (by simpa using c0)]
  rw [len_nat] at c0
  have hl : code.length ≤ 1048576 := by omega
  obtain ⟨c, ec, hc, hi1, hi6, hg7⟩ := giveC_ok hl (n := 0) (by decide)
  obtain ⟨w, ew, hw1, hw4⟩ := giveS_ok hl (n := 40) (lo := 1) (hi := 4) (by decide) (by decide) (by decide) (by decide)
  obtain ⟨op, eo, ho1, ho2⟩ := giveS_ok hl (n := 42) (lo := 3) (hi := 16) (by decide) (by decide) (by decide) (by decide)
  rw [ec]
  simp only [Option.bind_some]
  rw [ew]
  simp only [Option.bind_some]
  have key : ∃ r, iterN (fun (s1 : Int × (List Int) × (List Int)) =>
      if (decide (s1.1 < w)) then
        (spec_GiveLit fuel code (w64 (50 + s1.1)) c).bind fun x3 =>
        (app? s1.2.2 ([x3] : List Int)).bind fun x4 =>
        (spec_GiveLit fuel code (w64 (60 + s1.1)) c).bind fun x5 =>
        (app? s1.2.1 ([x5] : List Int)).bind fun x6 =>
        some (.inl ((w64 (s1.1 + 1)), x6, x4))
      else
        some (.inr (s1.2.1, s1.2.2))) fuel (0, ([] : List Int), ([] : List Int)) = some r ∧ (r.1.length = w.toNat ∧ r.2.length = w.toNat ∧ (∀ x ∈ r.1, litN (lines c) x = true) ∧ (∀ x ∈ r.2, litN (lines c) x = true)) := by
    refine iterN_upE0 (I := fun k s => s.1 = (k : Int) ∧ (s.2.1.length = k ∧ s.2.2.length = k ∧ (∀ x ∈ s.2.1, litN (lines c) x = true) ∧ (∀ x ∈ s.2.2, litN (lines c) x = true))) (m := w.toNat) (fun k s hk hs => ?_) (fun s hs => ?_) w.toNat 0 (0, ([] : List Int), ([] : List Int)) (by omega) ⟨rfl, rfl, rfl, by simp, by simp⟩ fuel (lt_fuel (by omega))
    · obtain ⟨z, b, a⟩ := s
      obtain ⟨h1, h2, h3, h4, h5⟩ := hs
      simp only at h1 h2 h3 h4 h5
      subst h1
      simp only
      obtain ⟨x, ex, hx⟩ := giveL_ok hl (n := 50 + (k : Int)) (by omega) hc
      obtain ⟨y, ey, hy⟩ := giveL_ok hl (n := 60 + (k : Int)) (by omega) hc
      rw [if_pos (by simp; omega), w64_id (x := 50 + (k : Int)) (by omega) (by omega), w64_id (x := 60 + (k : Int)) (by omega) (by omega), ex]
      simp only [Option.bind_some]
      rw [app_ok (by simp; omega)]
      simp only [Option.bind_some]
      rw [ey]
      simp only [Option.bind_some]
      rw [app_ok (by simp; omega)]
      refine ⟨_, rfl, by simp only; rw [w64_id (by omega) (by omega)]; omega, by simp [h2], by simp [h3], fun q hq => ?_, fun q hq => ?_⟩
      · rcases List.mem_append.1 hq with hq | hq
        · exact h4 q hq
        · rw [List.mem_singleton.1 hq]; exact hy
      · rcases List.mem_append.1 hq with hq | hq
        · exact h5 q hq
        · rw [List.mem_singleton.1 hq]; exact hx
    · obtain ⟨z, b, a⟩ := s
      obtain ⟨h1, h2⟩ := hs
      simp only at h1
      subst h1
      simp only
      rw [if_neg (by simp; omega)]
      exact ⟨_, rfl, h2⟩
  obtain ⟨⟨b, a⟩, er, hb1, ha1, hb, ha⟩ := key
  rw [er]
  simp only [Option.bind_some] at hb1 ha1 hb ha ⊢
  rw [eo]
  simp only [Option.bind_some]
  have hab : a.length = b.length := by omega
  rw [impl_OpLits_eq hc.fit (by omega) (by omega) (by omega)]
  simp only [Option.bind_some]
  obtain ⟨gx, lx⟩ := op_ok (s := (c, false)) hab (by omega) (by omega) ha hb hc hg7 (op := op) ⟨ho1, ho2⟩
  have hP : opLitsP c op a b = ((opP (c, false) op a b).2.1, (opP (c, false) op a b).1, true) := by
    unfold opLitsP
    rw [if_pos (by simp only [Bool.and_eq_true, decide_eq_true_eq, List.all_eq_true]; exact ⟨⟨⟨⟨⟨circP_iff.2 hc, hab⟩, by omega, by omega⟩, ha⟩, hb⟩, ho1, ho2⟩), lx.full]
    rfl
  rw [hP]
  generalize opP (c, false) op a b = R at gx lx ⊢
  obtain ⟨l, d, fd⟩ := R
  have hd := gx.circ
  have gd := gx.grow
  have hll := gx.lits
  have hsem := lx.sem
  simp only at hd gd hll hsem ⊢
  have hin : d.Inputs = c.Inputs := gd.1
  have hpl := gd.2.length_le
  have hdl := hd.len
  have hdg : lines d ≤ 391 := hd.lines1
  have hwn : w = ((a.length : Nat) : Int) := by omega
  -- the result's length
  have hv0 : ((List.replicate d.Inputs.toNat false).length : Int) = d.Inputs := by rw [List.length_replicate]; omega
  have hlen0 := congrArg List.length (hsem d hd (Grow.refl _) _ hv0)
  have hap := fun E : List Bool => apply_ok (op := op) ⟨ho1, ho2⟩ (w := a.length) (by omega) (by omega) (a := a.map (litV E)) (b := b.map (litV E)) (by simp) (by simp [hab])
  have hrw := (hap (ev d (List.replicate d.Inputs.toNat false))).2
  rw [← hlen0, List.length_map] at hrw
  rw [← hwn] at hrw
  rw [impl_circ hd.fit (by omega), circP_iff.2 hd]
  simp only [Bool.not_true, Bool.false_eq_true, if_false, Option.bind_some, Bool.or_self]
  have e1 : (d.Inputs != c.Inputs) = false := by rw [hin]; simp
  have e2 : decide (len d.Gates < len c.Gates) = false := decide_eq_false (by rw [len_nat, len_nat]; omega)
  simp only [e1, e2, Bool.or_self, Bool.false_eq_true, if_false]
  rw [hrw]
  simp only [Option.bind_some]
  rw [if_neg (by rw [len_nat]; simp)]
  rw [iterN_up (I := fun k t => t = (k : Int)) (m := c.Gates.length) (r := .inl ()) (fun k t hk ht => ?_) (fun t ht => ?_) c.Gates.length 0 0 (by omega) rfl fuel (lt_fuel (by omega))]
  rotate_left
  · subst ht
    refine ⟨_, ?_, rfl⟩
    have hgc : c.Gates[k]? = some c.Gates[k] := List.getElem?_eq_getElem hk
    rw [if_pos (by rw [len_nat]; simp; omega), get?_nat, hgc]
    simp only [Option.bind_some]
    rw [get?_nat, pre_get gd.2 hgc]
    simp only [Option.bind_some]
    rw [if_neg (by simp), w64_id (by omega) (by omega)]
    rfl
  · subst ht
    rw [if_neg (by rw [len_nat]; simp)]
  simp only [Option.bind_some]
  obtain ⟨m, hm, hm64⟩ := two_pow (k := c.Inputs) (by omega) hi6
  rw [iterN_up (I := fun k t => t = (k : Int)) (m := m) (r := .inl ()) (fun k t hk ht => ?_) (fun t ht => ?_) m 0 0 (by omega) rfl fuel (lt_fuel (by omega))]
  · rfl
  all_goals subst ht
  · refine ⟨_, ?_, rfl⟩
    rw [hm]
    simp only [Option.bind_some]
    rw [if_pos (by simp; omega)]
    obtain ⟨v, hv, hvl⟩ := bools_ok (n := c.Inputs) (k := k) (by omega) (by omega)
    rw [hv]
    simp only [Option.bind_some]
    have hvg : (v.length : Int) = d.Inputs := by omega
    rw [impl_eval hd.fit (by omega) (by omega), evalB_ev hd hvg]
    simp only [Option.bind_some]
    have hel := ev_len hvg
    have s1 := hsem d hd (Grow.refl _) v hvg
    have hll15 : l.length ≤ 15 := by
      have := hlen0
      rw [List.length_map] at this
      have h2 := (hap (ev d (List.replicate d.Inputs.toNat false))).2
      rw [← this, ← hwn] at h2
      unfold spec_ResultWidth at h2
      have i1 : spec_l01In w 1 16 = some true := by unfold spec_l01In; simp; omega
      have i2 : spec_l01In op 1 16 = some true := by unfold spec_l01In; simp; omega
      rw [i1] at h2
      simp only [Option.bind_some, Bool.not_true, Bool.false_eq_true, if_false] at h2
      rw [i2] at h2
      simp only [Option.bind_some, Bool.not_true, Bool.or_self, Bool.false_eq_true, if_false] at h2
      split at h2
      · simp only [Option.some.injEq] at h2; omega
      · simp only [Option.some.injEq] at h2; omega
    have hap1 := (hap (ev d v)).1
    generalize ev d v = E at hel s1 hap1 ⊢
    have wl : ∀ q : List Int, q.length ≤ 15 → (∀ x ∈ q, litN (lines d) x = true) → laws_word fuel E q = some (wv E q) := fun q h1 h2 => word_list (by omega) h1 (by rw [hel]; exact h2)
    rw [wl l hll15 hll]
    simp only [Option.bind_some]
    rw [wl a (by omega) (fun q hq => litN_mono (ha q hq) gd.lines)]
    simp only [Option.bind_some]
    rw [wl b (by omega) (fun q hq => litN_mono (hb q hq) gd.lines)]
    simp only [Option.bind_some]
    rw [wv_map E a, wv_map E b, wv_map E l, s1, hwn, hap1]
    simp only [Option.bind_some, bne_self_eq_false, Bool.false_eq_true, if_false]
    rw [w64_id (by omega) (by omega)]
    rfl
  · rw [hm]
    simp only [Option.bind_some]
    rw [if_neg (by simp)]
end Go.Proofs.Ytckeihpjfeonmaa
