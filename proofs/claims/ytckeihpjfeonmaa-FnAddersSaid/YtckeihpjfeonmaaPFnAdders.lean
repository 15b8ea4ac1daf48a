/- The plain law of this claim. No program in sight. -/
import Derived.Test.YtckeihpjfeonmaaPSum
import Derived.Test.YtckeihpjfeonmaaPAddLits
namespace Go.Proofs.Ytckeihpjfeonmaa
open Go.GL
theorem giveS_ok {code : List Byt} (hl : code.length ≤ 1048576) {n lo hi : Int} (h0 : 0 ≤ n) (h1 : 0 ≤ lo) (h2 : lo ≤ hi) (h3 : hi ≤ 1000) : ∃ x, spec_GiveSize fuel code n lo hi = some x ∧ lo ≤ x ∧ x ≤ hi := by
  unfold spec_GiveSize spec_GiveNum
  obtain ⟨i, h, e, ok⟩ := at_ok hl h0
  rw [e]
  simp only [Option.bind_some]
  obtain ⟨x, i2, h2', e2, x0, x1, ok2⟩ := byte_ok ok
  have e2' : spec_l01Byte (D.l01Cur.mk code i h) = some (x, ⟨code, i2, h2'⟩) := e2
  rw [e2']
  simp only [Option.bind_some]
  obtain ⟨y, i3, h3', e3, y0, y1, ok3⟩ := byte_ok ok2
  have e3' : spec_l01Byte (D.l01Cur.mk code i2 h2') = some (y, ⟨code, i3, h3'⟩) := e3
  rw [e3']
  simp only [Option.bind_some]
  rw [w64_id (x := 256 * x) (by omega) (by omega), w64_id (x := 256 * x + y) (by omega) (by omega), w64_id (x := hi - lo) (by omega) (by omega), w64_id (x := hi - lo + 1) (by omega) (by omega)]
  have hr : rem? (256 * x + y) (hi - lo + 1) = some ((256 * x + y).tmod (hi - lo + 1)) := by unfold rem?; rw [if_neg (by omega)]
  rw [hr]
  simp only [Option.bind_some]
  have b0 := Int.tmod_nonneg (hi - lo + 1) (show 0 ≤ 256 * x + y by omega)
  have b1 := Int.tmod_lt_of_pos (256 * x + y) (show 0 < hi - lo + 1 by omega)
  exact ⟨_, rfl, by rw [w64_id (by omega) (by omega)]; omega, by rw [w64_id (by omega) (by omega)]; omega⟩
theorem fin_FnAdders (code : List Byt) (_ : fitList fitByt code) : ∃ n, laws_FnAdders n code = some true := by
  refine ⟨fuel, ?_⟩
  unfold laws_FnAdders
  by_cases c0 : len code > 1048576
  · rw [if_pos (by simpa using c0)]
  rw [if_neg (by simpa using c0)]
  rw [len_nat] at c0
  have hl : code.length ≤ 1048576 := by omega
  obtain ⟨c, ec, hc, hi1, hi6, hg7⟩ := giveC_ok hl (n := 0) (by decide)
  obtain ⟨w, ew, hw1, hw5⟩ := giveS_ok hl (n := 40) (lo := 1) (hi := 5) (by decide) (by decide) (by decide) (by decide)
  obtain ⟨f, ef, hf⟩ := giveL_ok hl (n := 44) (by decide) hc
  rw [ec]
  simp only [Option.bind_some]
  rw [ew]
  simp only [Option.bind_some]
  have key : ∃ r, iterN (fun (s1 : Int × (List Int) × (List Int)) =>
      if (decide (s1.1 < w)) then
        (spec_GiveLit fuel code (w64 (50 + s1.1)) c).bind fun x3 =>
        (app? s1.2.2 ([x3] : List Int)).bind fun x4 =>
        (spec_GiveLit fuel code (w64 (60 + s1.1)) c).bind fun x5 =>
        (app? s1.2.1 ([x5] : List Int)).bind fun x6 =>
        some (.inl ((w64 (s1.1 + 1)), x6, x4))
      else
        some (.inr (s1.2.1, s1.2.2))) fuel (0, ([] : List Int), ([] : List Int)) = some r ∧ (r.1.length = w.toNat ∧ r.2.length = w.toNat ∧ (∀ x ∈ r.1, litN (lines c) x = true) ∧ (∀ x ∈ r.2, litN (lines c) x = true)) := by
    refine iterN_upE0 (I := fun k s => s.1 = (k : Int) ∧ (s.2.1.length = k ∧ s.2.2.length = k ∧ (∀ x ∈ s.2.1, litN (lines c) x = true) ∧ (∀ x ∈ s.2.2, litN (lines c) x = true))) (m := w.toNat) (fun k s hk hs => ?_) (fun s hs => ?_) w.toNat 0 (0, ([] : List Int), ([] : List Int)) (by omega) ⟨rfl, rfl, rfl, by simp, by simp⟩ fuel (lt_fuel (by omega))
    · obtain ⟨z, b, a⟩ := s
      obtain ⟨h1, h2, h3, h4, h5⟩ := hs
      simp only at h1 h2 h3 h4 h5
      subst h1
      simp only
      obtain ⟨x, ex, hx⟩ := giveL_ok hl (n := 50 + (k : Int)) (by omega) hc
      obtain ⟨y, ey, hy⟩ := giveL_ok hl (n := 60 + (k : Int)) (by omega) hc
      rw [if_pos (by simp; omega), w64_id (x := 50 + (k : Int)) (by omega) (by omega), w64_id (x := 60 + (k : Int)) (by omega) (by omega), ex]
      simp only [Option.bind_some]
      have happ : ∀ (l : List Int) (q : Int), l.length = k → app? l [q] = some (l ++ [q]) := fun l q hq => by unfold app?; rw [if_pos (by simp; unfold room; omega)]
      rw [happ a x h3]
      simp only [Option.bind_some]
      rw [ey]
      simp only [Option.bind_some]
      rw [happ b y h2]
      refine ⟨_, rfl, by simp only; rw [w64_id (by omega) (by omega)]; omega, by simp [h2], by simp [h3], fun q hq => ?_, fun q hq => ?_⟩
      · rcases List.mem_append.1 hq with hq | hq
        · exact h4 q hq
        · rw [List.mem_singleton.1 hq]; exact hy
      · rcases List.mem_append.1 hq with hq | hq
        · exact h5 q hq
        · rw [List.mem_singleton.1 hq]; exact hx
    · obtain ⟨z, b, a⟩ := s
      obtain ⟨h1, h2⟩ := hs
      simp only at h1
      subst h1
      simp only
      rw [if_neg (by simp; omega)]
      exact ⟨_, rfl, h2⟩
  obtain ⟨⟨b, a⟩, er, hb1, ha1, hb, ha⟩ := key
  rw [er]
  simp only [Option.bind_some] at hb1 ha1 hb ha ⊢
  rw [ef]
  simp only [Option.bind_some]
  have hab : a.length = b.length := by omega
  rw [impl_AddLits_eq hc.fit (by omega) (by omega) (by omega)]
  simp only [Option.bind_some]
  have hs := sum_sem (s := (c, false)) hc hab ha hb hf (by simp only; omega)
  have hgd := addP_good (s := (c, false)) hc hab ha hb hf
  have hP : addLitsP c a b f = ((addP (c, false) a b f).2.2.1, (addP (c, false) a b f).1, (addP (c, false) a b f).2.1, true) := by
    unfold addLitsP
    rw [if_pos (by simp only [Bool.and_eq_true, decide_eq_true_eq, List.all_eq_true]; exact ⟨⟨⟨⟨⟨circP_iff.2 hc, hab⟩, by omega⟩, ha⟩, hb⟩, hf⟩)]
    simp only
    rw [hs.2.1]
    rfl
  rw [hP]
  generalize addP (c, false) a b f = R at hs hgd ⊢
  obtain ⟨su, la, d, fd⟩ := R
  have hd := hgd.circ
  have gd := hgd.grow
  have hla := hgd.lit
  have hsl := hgd.len
  have hsu := hgd.lits
  have hsem := hs.2.2
  simp only at hd gd hla hsl hsu hsem ⊢
  have hin : d.Inputs = c.Inputs := gd.1
  rw [if_neg (by rw [len_nat]; simp; omega)]
  obtain ⟨m, hm, hm64⟩ := two_pow (k := c.Inputs) (by omega) hi6
  have hgl : lines d ≤ 391 := hd.lines1
  have hdl := hd.len
  rw [iterN_up (I := fun k t => t = (k : Int)) (m := m) (r := .inl ()) (fun k t hk ht => ?_) (fun t ht => ?_) m 0 0 (by omega) rfl fuel (lt_fuel (by omega))]
  · rfl
  all_goals subst ht
  · refine ⟨_, ?_, rfl⟩
    rw [hm]
    simp only [Option.bind_some]
    rw [if_pos (by simp; omega)]
    obtain ⟨v, hv, hvl⟩ := bools_ok (n := c.Inputs) (k := k) (by omega) (by omega)
    rw [hv]
    simp only [Option.bind_some]
    have hvg : (v.length : Int) = d.Inputs := by omega
    rw [impl_eval hd.fit (by omega) (by omega), evalB_ev hd hvg]
    simp only [Option.bind_some]
    have hel := ev_len hvg
    have s1 := hsem d hd (Grow.refl _) v hvg
    simp only at s1
    generalize ev d v = E at hel s1 ⊢
    have happ0 : app? ([] : List Int) su = some su := by unfold app?; rw [if_pos (by simp; unfold room; omega)]; rfl
    rw [happ0]
    simp only [Option.bind_some]
    have happ : app? su [la] = some (su ++ [la]) := by unfold app?; rw [if_pos (by simp; unfold room; omega)]
    rw [happ]
    simp only [Option.bind_some]
    have wl : ∀ l : List Int, l.length ≤ 15 → (∀ q ∈ l, litN (lines d) q = true) → laws_word fuel E l = some (wv E l) := fun l h1 h2 => word_list (by omega) h1 (by rw [hel]; exact h2)
    rw [wl (su ++ [la]) (by simp; omega) (fun q hq => by
      rcases List.mem_append.1 hq with hq | hq
      · exact hsu q hq
      · rw [List.mem_singleton.1 hq]; exact hla)]
    simp only [Option.bind_some]
    rw [wl a (by omega) (fun q hq => litN_mono (ha q hq) gd.lines)]
    simp only [Option.bind_some]
    rw [wl b (by omega) (fun q hq => litN_mono (hb q hq) gd.lines)]
    simp only [Option.bind_some]
    rw [wl [f] (by simp) (fun q hq => by rw [List.mem_singleton.1 hq]; exact litN_mono hf gd.lines)]
    simp only [Option.bind_some]
    have ba := wv_bd E a
    have bb := wv_bd E b
    have pa := pow_bd a.length (by omega)
    have pb := pow_bd b.length (by omega)
    have bf := b2i_bd (litV E f)
    have wf : wv E [f] = b2i (litV E f) := by simp [wv]
    rw [wf, w64_id (x := wv E a + wv E b) (by omega) (by omega), w64_id (x := wv E a + wv E b + b2i (litV E f)) (by omega) (by omega), wv_snoc, hsl, s1]
    simp only [bne_self_eq_false, Bool.false_eq_true, if_false]
    rw [w64_id (by omega) (by omega)]
    rfl
  · rw [hm]
    simp only [Option.bind_some]
    rw [if_neg (by simp)]
end Go.Proofs.Ytckeihpjfeonmaa
