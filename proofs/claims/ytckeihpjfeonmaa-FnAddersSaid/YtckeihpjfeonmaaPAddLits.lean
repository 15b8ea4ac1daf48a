/- The plain law of this claim. No program in sight. -/
import Derived.Test.YtckeihpjfeonmaaPGates
namespace Go.Proofs.Ytckeihpjfeonmaa
open Go.GL
def addLitsP (c : D.Circuit) (a b : List Int) (ca : Int) : D.Circuit × List Int × Int × Bool :=
  if circB2 c && decide (a.length = b.length) && decide (a.length ≤ 16) && a.all (litN (lines c)) && b.all (litN (lines c)) && litN (lines c) ca then
    (let r := addP (c, false) a b ca; if r.2.2.2 then (⟨0, []⟩, [], 0, false) else (r.2.2.1, r.1, r.2.1, true))
  else (⟨0, []⟩, [], 0, false)
theorem all_one {n x : Int} : [x].all (litN n) = litN n x := by simp
theorem addLitsP_len {c : D.Circuit} {a b : List Int} {ca : Int} : (addLitsP c a b ca).1.Gates.length ≤ 1048576 ∧ (addLitsP c a b ca).2.1.length ≤ 1048576 := by
  unfold addLitsP
  split
  · rename_i hh
    simp only [Bool.and_eq_true, List.all_eq_true, decide_eq_true_eq] at hh
    obtain ⟨⟨⟨⟨⟨h1, h2⟩, h3⟩, h4⟩, h5⟩, h6⟩ := hh
    have g := addP_good (s := (c, false)) (circP_iff.1 h1) h2 h4 h5 h6
    simp only
    split
    · simp
    · have := g.circ.len
      have := g.len
      simp only; omega
  · simp
theorem impl_AddLits_eq {c : D.Circuit} {a b : List Int} {ca : Int} (hc : fit_Circuit c) (hg : c.Gates.length ≤ 1048576) (ha : a.length ≤ 1048576) (hb : b.length ≤ 1048576) : impl_AddLits fuel c a b ca = some (addLitsP c a b ca) := by
  unfold impl_AddLits addLitsP
  rw [impl_circ hc hg]
  simp only [Option.bind_some]
  cases h1 : circB2 c with
  | false => simp
  | true =>
    have hp := circP_iff.1 h1
    by_cases h2 : a.length = b.length
    · by_cases h3 : a.length ≤ 16
      · have e2 : (len a != len b) = false := by simp [len_nat, h2]
        have e3 : decide (len a > 16) = false := by simp [len_nat]; omega
        have hl0 := hp.lines0
        have hl1 := hp.lines1
        simp only [e2, e3, Bool.not_true, Bool.or_self, Bool.false_eq_true, if_false, impl_lines hp, Option.bind_some, impl_lits (l := a) (n := lines c) (by omega) (by omega) ha, impl_lits (l := b) (n := lines c) (by omega) (by omega) hb, impl_islit (x := ca) (n := lines c) (by omega) (by omega), h2, decide_true, Bool.true_and, Bool.and_true]
        rw [← h2]
        simp only [h3, decide_true, Bool.true_and]
        cases h4 : a.all (litN (lines c)) with
        | false => simp
        | true =>
          cases h5 : b.all (litN (lines c)) with
          | false => simp
          | true =>
            cases h6 : litN (lines c) ca with
            | false => simp
            | true =>
              obtain ⟨m, hm, hr⟩ := impl_new hp
              obtain ⟨m', hm', hr'⟩ := impl_add (s := (c, false)) hp hr (c := ca) ha h2 (by simpa using h4) (by simpa using h5) h6
              rw [hm]
              simp only [Bool.not_true, Bool.false_eq_true, if_false, Option.bind_some, Bool.or_self, hm', Bool.and_self, if_true]
              rw [hr'.full, hr'.c]
              cases (addP (c, false) a b ca).2.2.2 <;> rfl
      · have e3 : decide (len a > 16) = true := by simp [len_nat]; omega
        simp [e3, h3]
    · have e2 : (len a != len b) = true := by simp [len_nat]; omega
      simp [e2, h2]
end Go.Proofs.Ytckeihpjfeonmaa
