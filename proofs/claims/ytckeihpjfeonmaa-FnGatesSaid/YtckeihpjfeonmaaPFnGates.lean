/- The plain law of this claim. No program in sight. -/
import Derived.Test.YtckeihpjfeonmaaPWord
import Derived.Test.YtckeihpjfeonmaaPAndOf
import Derived.Test.YtckeihpjfeonmaaPOrOf
import Derived.Test.YtckeihpjfeonmaaPXorOf
import Derived.Test.YtckeihpjfeonmaaPIfOf
namespace Go.Proofs.Ytckeihpjfeonmaa
open Go.GL
theorem all2 {n a b : Int} (ha : litN n a = true) (hb : litN n b = true) : [a, b].all (litN n) = true := by simp [ha, hb]
theorem all3 {n s a b : Int} (hs : litN n s = true) (ha : litN n a = true) (hb : litN n b = true) : [s, a, b].all (litN n) = true := by simp [hs, ha, hb]
theorem gateP_ok {c : D.Circuit} {l : List Int} {r : Int × BS} (hc : CircP c) (hl : l.all (litN (lines c)) = true) (hf : r.2.2 = false) : gateP c l r = (r.2.1, r.1, true) := by
  unfold gateP outP
  rw [circP_iff.2 hc, hl, hf]
  rfl
theorem fin_FnGates (code : List Byt) (_ : fitList fitByt code) : ∃ n, laws_FnGates n code = some true := by
  refine ⟨fuel, ?_⟩
  unfold laws_FnGates
  by_cases c0 : len code > 1048576
  · rw [if_pos (by simpa using c0)]
  rw [if_neg (by simpa using c0)]
  rw [len_nat] at c0
  have hl : code.length ≤ 1048576 := by omega
  obtain ⟨c, ec, hc, hi1, hi6, hg7⟩ := giveC_ok hl (n := 0) (by decide)
  obtain ⟨a, ea, ha⟩ := giveL_ok hl (n := 40) (by decide) hc
  obtain ⟨b, eb, hb⟩ := giveL_ok hl (n := 42) (by decide) hc
  obtain ⟨s, es, hs⟩ := giveL_ok hl (n := 44) (by decide) hc
  rw [ec]
  simp only [Option.bind_some]
  rw [ea]
  simp only [Option.bind_some]
  rw [eb]
  simp only [Option.bind_some]
  rw [es]
  simp only [Option.bind_some]
  -- the gates, one after another
  have n1 := and_cnt (c, false) a b
  have g1 := and_good (s := (c, false)) hc ha hb
  have m1 := and_sem (s := (c, false)) (by simp only; omega) ha hb
  have f1 : (andP (c, false) a b).2.2 = false := n1.2 (by simp only; omega)
  have again : ∀ g : BS, CircP g.1 → Grow (andP (c, false) a b).2.1 g.1 → andP g b a = ((andP (c, false) a b).1, g) := fun g h1 h2 => and_again (s := (c, false)) (by simp only; omega) h1 h2
  rw [impl_AndOf_eq hc.fit (by omega), gateP_ok hc (all2 ha hb) f1]
  simp only [Option.bind_some] at n1 g1 ⊢
  generalize andP (c, false) a b = R1 at n1 g1 m1 f1 again ⊢
  obtain ⟨x, d, fd⟩ := R1
  simp only at n1 g1 m1 f1 again ⊢
  have hd := g1.circ
  have gd := g1.grow
  have xd := g1.lit
  simp only at hd gd xd
  have da := litN_mono ha gd.lines
  have db := litN_mono hb gd.lines
  have ds := litN_mono hs gd.lines
  have n2 := or_cnt (d, false) a b
  have g2 := or_good (s := (d, false)) hd da db
  have m2 := or_sem (s := (d, false)) (by simp only; omega) hd da db
  have f2 : (orP (d, false) a b).2.2 = false := n2.2 (by simp only; omega)
  rw [impl_OrOf_eq hd.fit (by omega), gateP_ok hd (all2 da db) f2]
  simp only [Option.bind_some] at n2 g2 ⊢
  generalize orP (d, false) a b = R2 at n2 g2 m2 f2 ⊢
  obtain ⟨y, e, fe⟩ := R2
  simp only at n2 g2 m2 f2 ⊢
  have he := g2.circ
  have ge := g2.grow
  have ye := g2.lit
  simp only at he ge ye
  have ea' := litN_mono da ge.lines
  have eb' := litN_mono db ge.lines
  have es' := litN_mono ds ge.lines
  have n3 := xor_cnt (e, false) a b
  have g3 := xor_good (s := (e, false)) he ea' eb'
  have m3 := xor_sem (s := (e, false)) (by simp only; omega) he ea' eb'
  have f3 : (xorP (e, false) a b).2.2 = false := n3.2 (by simp only; omega)
  rw [impl_XorOf_eq he.fit (by omega), gateP_ok he (all2 ea' eb') f3]
  simp only [Option.bind_some] at n3 g3 ⊢
  generalize xorP (e, false) a b = R3 at n3 g3 m3 f3 ⊢
  obtain ⟨z, f, ff⟩ := R3
  simp only at n3 g3 m3 f3 ⊢
  have hf := g3.circ
  have gf := g3.grow
  have zf := g3.lit
  simp only at hf gf zf
  have fa := litN_mono ea' gf.lines
  have fb := litN_mono eb' gf.lines
  have fs := litN_mono es' gf.lines
  have n4 := if_cnt (f, false) s a b
  have g4 := if_good (s := (f, false)) hf fs fa fb
  have m4 := if_sem (s := (f, false)) (by simp only; omega) hf fs fa fb
  have f4 : (ifP (f, false) s a b).2.2 = false := n4.2 (by simp only; omega)
  rw [impl_IfOf_eq hf.fit (by omega), gateP_ok hf (all3 fs fa fb) f4]
  simp only [Option.bind_some] at n4 g4 ⊢
  generalize ifP (f, false) s a b = R4 at n4 g4 m4 f4 ⊢
  obtain ⟨u, g, fg⟩ := R4
  simp only at n4 g4 m4 f4 ⊢
  have hg := g4.circ
  have gg := g4.grow
  have ug := g4.lit
  simp only at hg gg ug
  have ga := litN_mono fa gg.lines
  have gb := litN_mono fb gg.lines
  have gs := litN_mono fs gg.lines
  have gdg := (ge.trans gf).trans gg
  have ag := again (g, false) hg gdg
  rw [impl_AndOf_eq hg.fit (by omega), gateP_ok hg (all2 gb ga) (by rw [ag]), ag]
  simp only [Option.bind_some, Bool.not_true, Bool.or_self, Bool.false_eq_true, bne_self_eq_false, if_false]
  rw [impl_circ hg.fit (by omega), circP_iff.2 hg]
  simp only [Option.bind_some, Bool.not_true, Bool.or_self, Bool.false_eq_true, if_false]
  have hin : g.Inputs = c.Inputs := by rw [gg.1, gf.1, ge.1, gd.1]
  obtain ⟨m, hm, hm64⟩ := two_pow (k := c.Inputs) (by omega) hi6
  have hgl : lines g ≤ 391 := hg.lines1
  have xg := litN_mono xd gdg.lines
  have yg := litN_mono ye (gf.trans gg).lines
  have zg := litN_mono zf gg.lines
  rw [iterN_up (I := fun k t => t = (k : Int)) (m := m) (r := .inl ()) (fun k t hk ht => ?_) (fun t ht => ?_) m 0 0 (by omega) rfl fuel (lt_fuel (by omega))]
  · rfl
  all_goals subst ht
  · refine ⟨_, ?_, rfl⟩
    rw [hm]
    simp only [Option.bind_some]
    rw [if_pos (by simp; omega)]
    obtain ⟨v, hv, hvl⟩ := bools_ok (n := c.Inputs) (k := k) (by omega) (by omega)
    rw [hv]
    simp only [Option.bind_some]
    have hvg : (v.length : Int) = g.Inputs := by omega
    rw [impl_eval hg.fit (by omega) (by omega), evalB_ev hg hvg]
    simp only [Option.bind_some]
    have hel := ev_len hvg
    have s1 := (m1.mono gdg) g hg (Grow.refl _) v hvg
    have s2 := (m2.mono (gf.trans gg)) g hg (Grow.refl _) v hvg
    have s3 := (m3.mono gg) g hg (Grow.refl _) v hvg
    have s4 := m4 g hg (Grow.refl _) v hvg
    generalize ev g v = E at hel s1 s2 s3 s4 ⊢
    have w : ∀ q, litN (lines g) q = true → laws_word fuel E [q] = some (b2i (litV E q)) := fun q hq => word_one (by omega) (by rw [hel]; exact hq)
    rw [w a ga]
    simp only [Option.bind_some]
    rw [w b gb]
    simp only [Option.bind_some]
    rw [w s gs]
    simp only [Option.bind_some]
    rw [w x xg]
    simp only [Option.bind_some]
    rw [s1, band_b2i]
    simp only [bne_self_eq_false, Bool.false_eq_true, if_false, Bool.false_or]
    rw [w y yg]
    simp only [Option.bind_some]
    rw [s2, bor_b2i]
    simp only [bne_self_eq_false, Bool.false_eq_true, if_false, Bool.false_or]
    rw [w z zg]
    simp only [Option.bind_some]
    rw [s3, bxor_b2i]
    simp only [bne_self_eq_false, Bool.false_eq_true, if_false, Bool.false_or]
    rw [w u ug]
    simp only [Option.bind_some]
    rw [s4, sel_b2i]
    simp only [bne_self_eq_false, Bool.false_eq_true, if_false]
    rw [w64_id (by omega) (by omega)]
    rfl
  · rw [hm]
    simp only [Option.bind_some]
    rw [if_neg (by simp)]
end Go.Proofs.Ytckeihpjfeonmaa
