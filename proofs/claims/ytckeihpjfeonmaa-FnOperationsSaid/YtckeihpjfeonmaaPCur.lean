/- The plain laws of the cursor. No program in sight. -/
import Derived.Test.YtckeihpjfeonmaaPGates
namespace Go.Proofs.Ytckeihpjfeonmaa
open Go.GL
theorem iterN_upE0 {σt ρt : Type} {B : σt → Option (σt ⊕ ρt)} {I : Nat → σt → Prop} {m : Nat} {R : ρt → Prop} (hs : ∀ k s, k < m → I k s → ∃ s', B s = some (.inl s') ∧ I (k + 1) s') (hf : ∀ s, I m s → ∃ r, B s = some (.inr r) ∧ R r) :
    ∀ (d k : Nat) (s : σt), k + d = m → I k s → ∀ n, d < n → ∃ r, iterN B n s = some r ∧ R r
  | 0, k, s, hk, hi, n, hn => by
    obtain ⟨n, rfl⟩ : ∃ j, n = j + 1 := ⟨n - 1, by omega⟩
    obtain rfl : k = m := by omega
    obtain ⟨r, h1, h2⟩ := hf s hi
    exact ⟨r, by unfold iterN; rw [h1], h2⟩
  | d + 1, k, s, hk, hi, n, hn => by
    obtain ⟨n, rfl⟩ : ∃ j, n = j + 1 := ⟨n - 1, by omega⟩
    obtain ⟨s', h1, h2⟩ := hs k s (by omega) hi
    obtain ⟨r, h3, h4⟩ := iterN_upE0 hs hf d (k + 1) s' (by omega) h2 n (by omega)
    exact ⟨r, by unfold iterN; rw [h1]; exact h3, h4⟩
structure CurOk (c : D.l01Cur) : Prop where
  i0 : 0 ≤ c.i
  len : c.b.length ≤ 1048576
theorem band255 (x : Int) : 0 ≤ band x 255 ∧ band x 255 ≤ 255 := by
  unfold band
  have h : (BitVec.ofInt 64 x &&& BitVec.ofInt 64 255).toNat ≤ 255 := by
    rw [BitVec.toNat_and]; exact Nat.and_le_right
  rw [w64_id (by omega) (by omega)]; omega
theorem byte_ok {c : D.l01Cur} (h : CurOk c) : ∃ x i h', spec_l01Byte c = some (x, ⟨c.b, i, h'⟩) ∧ 0 ≤ x ∧ x ≤ 255 ∧ CurOk ⟨c.b, i, h'⟩ := by
  unfold spec_l01Byte
  have hs : ∀ (z : Int) (k : Nat), shr? z (k : Int) = some (z.fdiv (2 ^ min k 64)) := fun z k => by unfold shr?; rw [if_neg (by omega)]; simp
  have h33 : ∀ z : Int, ∃ y, shr? z 33 = some y := fun z => ⟨_, hs z 33⟩
  have h45 : ∀ z : Int, ∃ y, shr? z 45 = some y := fun z => ⟨_, hs z 45⟩
  obtain ⟨y1, e1⟩ := h33 (w64 ((w64 (c.h * 6364136223846793005)) + 1442695040888963407))
  obtain ⟨y2, e2⟩ := h45 (w64 ((w64 (c.h * 6364136223846793005)) + 1442695040888963407))
  rw [e1, e2]
  simp only [Option.bind_some]
  have h0 := h.i0
  have hl := h.len
  by_cases hlt : c.i < (c.b.length : Int)
  · rw [if_pos (by rw [len_nat]; simpa using hlt)]
    have hi : get? c.b c.i = some (c.b[c.i.toNat]'(by omega)) := by
      unfold get?; rw [if_pos h0, List.getElem?_eq_getElem]
    rw [hi]
    exact ⟨_, _, _, rfl, (band255 _).1, (band255 _).2, ⟨by simp only; rw [w64_id (by omega) (by omega)]; omega, hl⟩⟩
  · rw [if_neg (by rw [len_nat]; simpa using hlt)]
    exact ⟨_, _, _, rfl, (band255 _).1, (band255 _).2, ⟨h0, hl⟩⟩
theorem below_ok {c : D.l01Cur} (h : CurOk c) {n : Int} (hn : 0 < n) : ∃ x i h', spec_l01Below c n = some (x, ⟨c.b, i, h'⟩) ∧ 0 ≤ x ∧ x < n ∧ CurOk ⟨c.b, i, h'⟩ := by
  unfold spec_l01Below
  obtain ⟨x, i, h', e, x0, x1, ok⟩ := byte_ok h
  rw [if_neg (by simp; omega), e]
  simp only [Option.bind_some]
  have hr : rem? x n = some (x.tmod n) := by unfold rem?; rw [if_neg (by omega)]
  rw [hr]
  exact ⟨_, _, _, rfl, Int.tmod_nonneg _ x0, Int.tmod_lt_of_pos _ hn, ok⟩
theorem once_ok {c : D.l01Cur} (h : CurOk c) : ∃ x i h', spec_l01Once c 2 = some (x, ⟨c.b, i, h'⟩) ∧ CurOk ⟨c.b, i, h'⟩ := by
  unfold spec_l01Once
  obtain ⟨x, i, h', e, _, _, ok⟩ := below_ok h (n := 2) (by decide)
  rw [e]
  exact ⟨_, _, _, rfl, ok⟩
theorem lit_ok {c : D.l01Cur} (h : CurOk c) {k : D.Circuit} (hk : CircP k) : ∃ x i h', spec_l04Lit c k = some (x, ⟨c.b, i, h'⟩) ∧ litN (lines k) x = true ∧ CurOk ⟨c.b, i, h'⟩ := by
  unfold spec_l04Lit
  have hi := hk.i0
  have hi1 := hk.i1
  have hg := hk.len
  have hw : w64 ((w64 (k.Inputs + 1)) + (Go.GL.len k.Gates)) = lines k := by
    rw [len_nat, w64_id (x := k.Inputs + 1) (by omega) (by omega), w64_id (by omega) (by omega)]; rfl
  have h0 := hk.lines0
  have h1 := hk.lines1
  rw [hw]
  obtain ⟨x, i, h', e, x0, x1, ok⟩ := below_ok h (n := lines k) (by omega)
  rw [e]
  simp only [Option.bind_some]
  obtain ⟨y, i2, h2, e2, ok2⟩ := once_ok ok
  rw [e2]
  simp only [Option.bind_some]
  have hx : w64 (1 + x) = 1 + x := w64_id (by omega) (by omega)
  have hl : litN (lines k) (1 + x) = true := litN_iff.2 (by unfold iab; rw [if_neg (by omega)]; omega)
  cases y
  · exact ⟨_, _, _, rfl, by rw [hx]; exact hl, ok2⟩
  · refine ⟨_, _, _, rfl, ?_, ok2⟩
    rw [hx, w64_id (by omega) (by omega), Int.zero_sub, litN_neg]; exact hl
theorem and_cnt (s : BS) (a b : Int) : (andP s a b).2.1.Gates.length ≤ s.1.Gates.length + 1 ∧ (s.1.Gates.length < 360 → (andP s a b).2.2 = s.2) := by
  unfold andP
  split
  · exact ⟨by simp only; omega, fun _ => rfl⟩
  · split
    · exact ⟨by simp only; omega, fun _ => rfl⟩
    · split
      · exact ⟨by simp only; omega, fun _ => rfl⟩
      · split
        · exact ⟨by simp only; omega, fun _ => rfl⟩
        · split
          · exact ⟨by simp only; omega, fun h => by omega⟩
          · exact ⟨by simp, fun _ => rfl⟩
theorem at_ok {code : List Byt} (hl : code.length ≤ 1048576) {n : Int} (h0 : 0 ≤ n) : ∃ i h, spec_l11At fuel code n = some ⟨code, i, h⟩ ∧ CurOk ⟨code, i, h⟩ := by
  have hnew : ∃ h, spec_l01New fuel code = some ⟨code, 0, h⟩ := by
    unfold spec_l01New
    have key : ∃ r, iterN (fun (s1 : Int × Int) =>
        if ((decide (s1.2 < (Go.GL.len code))) && (decide (s1.2 < 4000))) then
          (get? code s1.2).bind fun x1 =>
          some (.inl ((band (w64 ((w64 ((w64 (s1.1 * 131)) + (w64 x1.n))) + 7)) 1073741823), (w64 (s1.2 + 1))))
        else
          some (.inr (s1.1))) fuel ((w64 (55127 + (Go.GL.len code))), 0) = some r ∧ True := by
      refine iterN_upE0 (I := fun k s => s.2 = (k : Int)) (m := min code.length 4000) (fun k s hk hs => ?_) (fun s hs => ?_) (min code.length 4000) 0 _ (by omega) rfl fuel (lt_fuel (by omega))
      · obtain ⟨z, y⟩ := s
        simp only at hs
        subst hs
        simp only
        rw [if_pos (by rw [len_nat]; simp; omega), get?_nat, List.getElem?_eq_getElem (by omega)]
        exact ⟨_, rfl, by simp only; rw [w64_id (by omega) (by omega)]; omega⟩
      · obtain ⟨z, y⟩ := s
        simp only at hs
        subst hs
        simp only
        rw [if_neg (by rw [len_nat]; simp; omega)]
        exact ⟨_, rfl, trivial⟩
    obtain ⟨r, e, -⟩ := key
    rw [e]
    exact ⟨r, rfl⟩
  obtain ⟨h, e⟩ := hnew
  unfold spec_l11At
  rw [e]
  refine ⟨_, _, rfl, ?_, hl⟩
  simp only
  unfold imin
  rw [len_nat]
  split <;> omega
theorem draw_ok {c : D.l01Cur} (h : CurOk c) : ∃ k i h', spec_l04Draw fuel c = some (k, ⟨c.b, i, h'⟩) ∧ CircP k ∧ 1 ≤ k.Inputs ∧ k.Inputs ≤ 6 ∧ k.Gates.length ≤ 7 := by
  unfold spec_l04Draw
  obtain ⟨x1, i1, h1, e1, a1, b1, ok1⟩ := below_ok h (n := 6) (by decide)
  rw [e1]
  simp only [Option.bind_some]
  have hw : w64 (1 + x1) = 1 + x1 := w64_id (by omega) (by omega)
  have hn : spec_l04New (D.Circuit.mk (1 + x1) ([] : List D.Gate)) = some ⟨⟨1 + x1, []⟩, false⟩ := by
    unfold spec_l04New app?; rw [if_pos (by simp)]; rfl
  rw [hw, hn]
  simp only [Option.bind_some]
  obtain ⟨x3, i3, h3, e3, a3, b3, ok3⟩ := below_ok ok1 (n := 8) (by decide)
  have e3' : spec_l01Below (D.l01Cur.mk c.b i1 h1) 8 = some (x3, ⟨c.b, i3, h3⟩) := e3
  rw [e3']
  simp only [Option.bind_some]
  have key : ∃ r, iterN (fun (s1 : Int × Int × Int × Int × Bool × (List D.Gate)) =>
    if (decide (s1.1 > 0)) then
      (spec_l04Lit (D.l01Cur.mk c.b s1.2.1 s1.2.2.1) (D.Circuit.mk s1.2.2.2.1 s1.2.2.2.2.2)).bind fun x4 =>
      (spec_l04Lit (D.l01Cur.mk c.b x4.2.i x4.2.h) (D.Circuit.mk s1.2.2.2.1 s1.2.2.2.2.2)).bind fun x5 =>
      (spec_l04Net_l04And fuel (D.l04Net.mk (D.Circuit.mk s1.2.2.2.1 s1.2.2.2.2.2) s1.2.2.2.2.1) x4.1 x5.1).bind fun x6 =>
      some (.inl ((w64 (s1.1 - 1)), x5.2.i, x5.2.h, x6.2.c.Inputs, x6.2.full, x6.2.c.Gates))
    else
      some (.inr (s1.2.1, s1.2.2.1, s1.2.2.2.1, s1.2.2.2.2.1, s1.2.2.2.2.2))) fuel (x3, i3, h3, 1 + x1, false, ([] : List D.Gate)) = some r ∧ CircP ⟨r.2.2.1, r.2.2.2.2⟩ ∧ r.2.2.1 = 1 + x1 ∧ r.2.2.2.2.length ≤ 7 := by
    refine iterN_upE0 (I := fun j t => ∃ (i h : Int) (s : BS), t = (x3 - (j : Int), i, h, s.1.Inputs, s.2, s.1.Gates) ∧ CurOk ⟨c.b, i, h⟩ ∧ CircP s.1 ∧ s.1.Inputs = 1 + x1 ∧ s.1.Gates.length ≤ j) (m := x3.toNat) (fun j t hj ht => ?_) (fun t ht => ?_) x3.toNat 0 _ (by omega) ⟨i3, h3, (⟨1 + x1, []⟩, false), by simp, ok3, circP_iff.1 (by unfold circB2; simp; omega), rfl, by simp⟩ fuel (lt_fuel (by omega))
    · obtain ⟨i, hh, s, rfl, ok, hp, hin, hlen⟩ := ht
      obtain ⟨u, i4, h4, e4, l4, ok4⟩ := lit_ok ok hp
      obtain ⟨v, i5, h5, e5, l5, ok5⟩ := lit_ok ok4 hp
      have hc := and_cnt s u v
      have g := and_good hp l4 l5
      have e6 := spec_and hp l4 l5
      simp only
      rw [if_pos (by simp; omega)]
      have e4' : spec_l04Lit (D.l01Cur.mk c.b i hh) (D.Circuit.mk s.1.Inputs s.1.Gates) = some (u, ⟨c.b, i4, h4⟩) := e4
      rw [e4']
      simp only [Option.bind_some]
      have e5' : spec_l04Lit (D.l01Cur.mk c.b i4 h4) (D.Circuit.mk s.1.Inputs s.1.Gates) = some (v, ⟨c.b, i5, h5⟩) := e5
      rw [e5']
      simp only [Option.bind_some]
      have e6' : spec_l04Net_l04And fuel (D.l04Net.mk (D.Circuit.mk s.1.Inputs s.1.Gates) s.2) u v = some ((andP s u v).1, net (andP s u v).2) := e6
      rw [e6']
      simp only [Option.bind_some]
      refine ⟨_, rfl, i5, h5, (andP s u v).2, ?_, ok5, g.circ, ?_, ?_⟩
      · rw [w64_id (by omega) (by omega)]
        simp only [Prod.mk.injEq, and_true]
        omega
      · rw [g.grow.1]; exact hin
      · have := hc.1; omega
    · obtain ⟨i, hh, s, rfl, ok, hp, hin, hlen⟩ := ht
      simp only
      rw [if_neg (by simp; omega)]
      exact ⟨_, rfl, hp, hin, by simp only; omega⟩
  obtain ⟨r, e, hp, hin, hlen⟩ := key
  rw [e]
  refine ⟨_, _, _, rfl, hp, ?_, ?_, hlen⟩ <;> (simp only; omega)
theorem giveC_ok {code : List Byt} (hl : code.length ≤ 1048576) {n : Int} (h0 : 0 ≤ n) : ∃ k, spec_GiveCircuit fuel code n = some k ∧ CircP k ∧ 1 ≤ k.Inputs ∧ k.Inputs ≤ 6 ∧ k.Gates.length ≤ 7 := by
  unfold spec_GiveCircuit
  obtain ⟨i, h, e, ok⟩ := at_ok hl h0
  rw [e]
  simp only [Option.bind_some]
  obtain ⟨k, i2, h2, e2, r⟩ := draw_ok ok
  have e2' : spec_l04Draw fuel (D.l01Cur.mk code i h) = some (k, ⟨code, i2, h2⟩) := e2
  rw [e2']
  exact ⟨k, rfl, r⟩
theorem giveL_ok {code : List Byt} (hl : code.length ≤ 1048576) {n : Int} (h0 : 0 ≤ n) {k : D.Circuit} (hk : CircP k) : ∃ x, spec_GiveLit fuel code n k = some x ∧ litN (lines k) x = true := by
  unfold spec_GiveLit
  obtain ⟨i, h, e, ok⟩ := at_ok hl h0
  rw [e]
  simp only [Option.bind_some]
  obtain ⟨x, i2, h2, e2, r, _⟩ := lit_ok ok hk
  have e2' : spec_l04Lit (D.l01Cur.mk code i h) k = some (x, ⟨code, i2, h2⟩) := e2
  rw [e2']
  exact ⟨x, rfl, r⟩
end Go.Proofs.Ytckeihpjfeonmaa
