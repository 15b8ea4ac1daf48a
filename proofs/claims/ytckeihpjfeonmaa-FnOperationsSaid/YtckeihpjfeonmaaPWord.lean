/- Words of lines. No program in sight. -/
import Derived.Test.YtckeihpjfeonmaaPSem
namespace Go.Proofs.Ytckeihpjfeonmaa
open Go.GL
def b2i (b : Bool) : Int := cond b 1 0
theorem band_b2i : ∀ p q : Bool, band (b2i p) (b2i q) = b2i (p && q) := by decide
theorem bor_b2i : ∀ p q : Bool, bor (b2i p) (b2i q) = b2i (p || q) := by decide
theorem bxor_b2i : ∀ p q : Bool, bxor (b2i p) (b2i q) = b2i (xor p q) := by decide
theorem sel_b2i : ∀ s p q : Bool, cond (b2i s == 1) (b2i p) (b2i q) = b2i (cond s p q) := by decide
theorem two_pow {k : Int} (h0 : 0 ≤ k) (h6 : k ≤ 6) : ∃ m : Nat, shl? 1 k = some (m : Int) ∧ m ≤ 64 := by
  have hk : k = 0 ∨ k = 1 ∨ k = 2 ∨ k = 3 ∨ k = 4 ∨ k = 5 ∨ k = 6 := by omega
  rcases hk with rfl | rfl | rfl | rfl | rfl | rfl | rfl
  · exact ⟨1, by decide, by decide⟩
  · exact ⟨2, by decide, by decide⟩
  · exact ⟨4, by decide, by decide⟩
  · exact ⟨8, by decide, by decide⟩
  · exact ⟨16, by decide, by decide⟩
  · exact ⟨32, by decide, by decide⟩
  · exact ⟨64, by decide, by decide⟩
theorem bools_ok {n : Int} {k : Nat} (h0 : 0 ≤ n) (h6 : n ≤ 6) : ∃ v, laws_bools fuel n (k : Int) = some v ∧ (v.length : Int) = n := by
  unfold laws_bools
  have key : ∃ r, iterN (fun (s1 : Int × (List Bool)) =>
    if (decide (s1.1 < n)) then
      (shr? (k : Int) s1.1).bind fun x1 =>
      (app? s1.2 ([((band x1 1) == 1)] : List Bool)).bind fun x2 =>
      some (.inl ((w64 (s1.1 + 1)), x2))
    else
      some (.inr (s1.2))) fuel (0, ([] : List Bool)) = some r ∧ (r.length : Int) = n := by
    refine iterN_upE0 (I := fun j s => s.1 = (j : Int) ∧ s.2.length = j) (m := n.toNat) (fun j s hj hs => ?_) (fun s hs => ?_) n.toNat 0 _ (by omega) ⟨rfl, rfl⟩ fuel (lt_fuel (by omega))
    · obtain ⟨z, y⟩ := s
      obtain ⟨h1, h2⟩ := hs
      simp only at h1 h2
      subst h1
      simp only
      have hsr : shr? (k : Int) (j : Int) = some ((k : Int).fdiv (2 ^ min j 64)) := by unfold shr?; rw [if_neg (by omega)]; simp
      rw [if_pos (by simp; omega), hsr]
      simp only [Option.bind_some]
      have ha : ∀ q : Bool, app? y [q] = some (y ++ [q]) := fun q => by unfold app?; rw [if_pos (by simp; unfold room; omega)]
      rw [ha]
      exact ⟨_, rfl, by simp only; rw [w64_id (by omega) (by omega)]; omega, by simp [h2]⟩
    · obtain ⟨z, y⟩ := s
      obtain ⟨h1, h2⟩ := hs
      simp only at h1 h2
      subst h1
      simp only
      rw [if_neg (by simp; omega)]
      exact ⟨_, rfl, by omega⟩
  obtain ⟨r, e, h⟩ := key
  rw [e]
  exact ⟨r, rfl, h⟩
theorem evalB_ev {g : D.Circuit} (hg : CircP g) {v : List Bool} (hv : (v.length : Int) = g.Inputs) : evalB g v = ev g v := by
  unfold evalB ev
  rw [if_pos (by rw [circP_iff.2 hg, len_nat]; simp [hv])]
theorem word_one {E : List Bool} {q : Int} (hE : E.length ≤ 1000) (hq : litN (E.length : Int) q = true) : laws_word fuel E [q] = some (b2i (litV E q)) := by
  unfold laws_word
  obtain ⟨h1, h2⟩ := litN_iff.1 hq
  have hab : cond (decide (q < 0)) (w64 (0 - q)) q = iab q := by
    unfold iab at *
    by_cases c : q < 0
    · rw [if_pos c] at *
      rw [decide_eq_true c, cond_true, w64_id (by omega) (by omega)]; omega
    · rw [if_neg c] at *
      rw [decide_eq_false c, cond_false]
  obtain ⟨v, hv, hl⟩ := get_lit h1 h2
  have key : iterN (fun (s1 : Int × Int) =>
    if (decide (s1.2 < (len [q]))) then
      (get? [q] s1.2).bind fun x1 =>
      if ((decide ((cond (decide (x1 < 0)) (w64 (0 - x1)) x1) < 1)) || (decide ((cond (decide (x1 < 0)) (w64 (0 - x1)) x1) > (len E)))) then
        some (.inr (.inr (-1)))
      else
        (get? E (w64 ((cond (decide (x1 < 0)) (w64 (0 - x1)) x1) - 1))).bind fun x2 =>
        if (x2 == (decide (x1 > 0))) then
          (shl? 1 s1.2).bind fun x3 =>
          some (.inl ((w64 (s1.1 + x3)), (w64 (s1.2 + 1))))
        else
          some (.inl (s1.1, (w64 (s1.2 + 1))))
    else
      some (.inr (.inl (s1.1)))) fuel (0, 0) = some (.inl (b2i (litV E q)) : Int ⊕ Int) := by
    refine iterN_up (I := fun k s => s = ((if k = 0 then 0 else b2i (litV E q)), (k : Int))) (m := 1) (fun k s hk hs => ?_) (fun s hs => ?_) 1 0 (0, 0) (by omega) rfl fuel (lt_fuel (by omega))
    · subst hs
      obtain rfl : k = 0 := by omega
      refine ⟨_, ?_, rfl⟩
      simp only
      have hg : get? [q] ((0 : Nat) : Int) = some q := rfl
      rw [if_pos (by rw [len_nat]; simp), hg]
      simp only [Option.bind_some]
      rw [hab, if_neg (by rw [len_nat]; simp; omega), w64_id (by omega) (by omega), show iab q - 1 = (((iab q - 1).toNat : Nat) : Int) by omega, get?_nat, hv]
      simp only [Option.bind_some]
      have hs1 : shl? 1 ((0 : Nat) : Int) = some 1 := by decide
      rw [hs1, hl]
      unfold iab at h1
      by_cases c : q < 0
      · have e : decide (q > 0) = false := by simp; omega
        rw [e, if_pos c]
        cases v <;> rfl
      · rw [if_neg c] at h1
        have e : decide (q > 0) = true := by simp; omega
        rw [e, if_neg c]
        cases v <;> rfl
    · subst hs
      simp only
      rw [if_neg (by rw [len_nat]; simp)]
      rfl
  rw [key]
  rfl
end Go.Proofs.Ytckeihpjfeonmaa
