/- The plain laws of this claim: both say the same of a term. No program in sight. -/
import Derived.Test.YtdkfoghhjkjjlaaP7
namespace Go.Proofs.Ytdkfoghhjkjjlaa
open Go.GL
set_option linter.unusedSimpArgs false
set_option maxRecDepth 100000
def wsB (ks : List D.Term) : Bool := ks.all fun x => decide (1 ≤ x.W ∧ x.W ≤ 16)
theorem wsB_of {ks : List D.Term} (h : nodesB ks = true) : wsB ks = true := by
  rw [nodesB_all, List.all_eq_true] at h
  unfold wsB
  rw [List.all_eq_true]
  exact fun x hx => decide_eq_true (nodeB_W (h x hx))
theorem width_loop {n : Nat} {ks : List D.Term} {v : Bool × D.termCheck} (hn : ks.length < n) (hk : ks.length ≤ 1048576) : iterN (fun (s1 : Int) =>
      if (decide (s1 < (len ks))) then
        (get? ks s1).bind fun x3 =>
        (impl_isWidth x3.W).bind fun x4 =>
        if (!x4) then
          some (.inr (.inr v))
        else
          some (.inl ((w64 (s1 + 1))))
      else
        some (.inr (.inl ()))
    ) n (0) = some (if wsB ks = true then (.inl () : Unit ⊕ (Bool × D.termCheck)) else .inr v) := by
  obtain ⟨r, g1, g2⟩ := iter_all (l := ks) (n := n) (σ := Unit) (ρ := Unit ⊕ (Bool × D.termCheck)) (B := fun (s1 : Int) =>
      if (decide (s1 < (len ks))) then
        (get? ks s1).bind fun x3 =>
        (impl_isWidth x3.W).bind fun x4 =>
        if (!x4) then
          some (.inr (.inr v))
        else
          some (.inl ((w64 (s1 + 1))))
      else
        some (.inr (.inl ()))) (fun k _ => (k : Int)) (fun ys _ => wsB ys = wsB ks) (fun r => r = if wsB ks = true then (.inl () : Unit ⊕ (Bool × D.termCheck)) else .inr v)
    (fun k x xs a hk' hx hlen hi => by
      have hd : decide ((k : Int) < len ks) = true := by rw [len_nat]; simp; omega
      simp only [hd, if_true, get?_nat, hx, Option.bind_some, width_eq]
      have e : wsB (x :: xs) = (decide (1 ≤ x.W ∧ x.W ≤ 16) && wsB xs) := rfl
      rw [e] at hi
      by_cases c : 1 ≤ x.W ∧ x.W ≤ 16
      · rw [decide_eq_true c, Bool.true_and] at hi
        exact .inl ⟨(), by rw [decide_eq_true c, if_neg (by decide), w64_id (by omega) (by omega)]; rfl, hi⟩
      · rw [decide_eq_false c, Bool.false_and] at hi
        exact .inr ⟨_, by rw [decide_eq_false c, if_pos (by decide)], by rw [← hi]; rfl⟩)
    (fun a hi => by
      have hd : decide ((ks.length : Int) < len ks) = false := by rw [len_nat]; simp
      simp only [hd, Bool.false_eq_true, if_false]
      exact ⟨_, rfl, by rw [← hi]; rfl⟩) (a := ()) rfl hn
  rw [show ((0 : Nat) : Int) = 0 from rfl] at g1
  rw [g1, g2]
theorem impl_node : ∀ (n : Nat) (t : D.Term) (c : D.termCheck), msz t ≤ 1048576 → 0 ≤ c.count → c.count ≤ 240 → (tab c.widths).length ≤ c.count → 1048580 + (241 - c.count) ≤ (n : Int) → ∃ b c', impl_termCheck_node n c t = some (b, c') ∧
      (b = true → c.count + cnt t ≤ 240 ∧ nodeB t = true ∧ c'.count = c.count + cnt t ∧ runV (tab c.widths) (vrs t) = some (tab c'.widths)) ∧ (b = false → ¬ (c.count + cnt t ≤ 240 ∧ nodeB t = true ∧ (runV (tab c.widths) (vrs t)).isSome = true)) := by
  intro n
  induction n with
  | zero => intro t c _ _ _ _ _; omega
  | succ n ih =>
    intro t c hs h0 h1 hg hn
    have hz := msz_eq t
    have hc := cnt_eq t
    have hb := nodeB_eq t
    have bad : nodeB t = false → ¬ (c.count + cnt t ≤ 240 ∧ nodeB t = true ∧ (runV (tab c.widths) (vrs t)).isSome = true) := fun h ⟨_, h2, _⟩ => by rw [h] at h2; cases h2
    unfold impl_termCheck_node
    rw [w64_id (by omega) (by omega)]
    by_cases hC : c.count + 1 > 240
    · simp only [hC, decide_true, if_true, Option.bind_some, Bool.true_or]
      exact ⟨false, _, rfl, fun h => (by cases h), fun _ ⟨h, _, _⟩ => by omega⟩
    simp only [hC, decide_false, Bool.false_eq_true, if_false, width_eq t.W, Option.bind_some, Bool.false_or]
    by_cases hw : 1 ≤ t.W ∧ t.W ≤ 16
    rotate_left
    · simp only [hw, decide_false, Bool.not_false, if_true, Option.bind_some, Bool.true_or]
      exact ⟨false, _, rfl, fun h => (by cases h), fun _ => bad (by rw [hb]; unfold locB; rw [decide_eq_false hw]; simp)⟩
    simp only [hw, decide_true, Bool.not_true, Bool.false_eq_true, if_false, Option.bind_some, Bool.false_or, and_self, kid_eq]
    by_cases hl : (t.Kids.length : Int) = kc t.Op
    rotate_left
    · have : (len t.Kids != kc t.Op) = true := by rw [len_nat]; simpa using hl
      rw [if_pos this]
      exact ⟨false, _, rfl, fun h => (by cases h), fun _ => bad (by rw [hb]; unfold locB; rw [loc_len hl]; simp)⟩
    have hl' : ¬ (len t.Kids != kc t.Op) = true := by rw [len_nat]; simpa using hl
    rw [if_neg hl', width_loop (by omega) (by omega)]
    simp only [Option.bind_some]
    by_cases hk : wsB t.Kids = true
    rotate_left
    · rw [if_neg hk]
      refine ⟨false, _, rfl, fun h => (by cases h), fun _ => bad ?_⟩
      rw [hb]
      cases h : nodesB t.Kids
      · simp
      · exact absurd (wsB_of h) hk
    rw [if_pos hk]
    have hkw : ∀ x ∈ t.Kids, 1 ≤ x.W ∧ x.W ≤ 16 := fun x hx => by
      unfold wsB at hk
      rw [List.all_eq_true] at hk
      exact of_decide_eq_true (hk x hx)
    obtain ⟨f, hf1, hf2⟩ := loc_fit hw hkw hl
    have hloc : locB t = ((Str.eqb t.Name ⟨[]⟩ || t.Op == 22) && (t.N == 0 || t.Op == 0 || t.Op == 19) && (f && (t.Op != 0 || wordB t.W t.N) && (t.Op != 22 || nameB t.Name))) := by
      unfold locB; rw [hf2, decide_eq_true hw, Bool.true_and]
    simp only [hf1, Option.bind_some]
    cases f with
    | false =>
      exact ⟨false, _, rfl, fun h => (by cases h), fun _ => bad (by rw [hb, hloc]; simp)⟩
    | true =>
    simp only [Bool.not_true, Bool.false_eq_true, if_false, impl_word]
    have hx6 : ∃ x6, (if (t.Op == 0) = true then some (wordB t.W t.N) else some default) = some x6 ∧ (t.Op = 0 → x6 = wordB t.W t.N) := by
      by_cases o : t.Op = 0
      · exact ⟨_, if_pos (by simpa using o), fun _ => rfl⟩
      · exact ⟨_, if_neg (by simpa using o), fun h => absurd h o⟩
    obtain ⟨x6, h6, h6'⟩ := hx6
    rw [h6]
    simp only [Option.bind_some]
    by_cases c6 : (t.Op == 0 && !x6) = true
    · rw [if_pos c6]
      simp only [Bool.and_eq_true, beq_iff_eq, Bool.not_eq_true'] at c6
      refine ⟨false, _, rfl, fun h => (by cases h), fun _ => bad ?_⟩
      rw [hb, hloc, ← h6' c6.1, c6.2, c6.1]; simp
    rw [if_neg c6]
    have d6 : (t.Op != 0 || wordB t.W t.N) = true := by
      by_cases o : t.Op = 0
      · rw [← h6' o, o]; simp [o] at c6; simp [c6]
      · simp [o]
    by_cases c7 : (t.Op != 0 && t.Op != 19 && t.N != 0) = true
    · rw [if_pos c7]
      simp only [Bool.and_eq_true, bne_iff_ne, ne_eq] at c7
      refine ⟨false, _, rfl, fun h => (by cases h), fun _ => bad ?_⟩
      rw [hb, hloc]
      have : (t.N == 0 || t.Op == 0 || t.Op == 19) = false := by simp [c7]
      rw [this]; simp
    rw [if_neg c7]
    have d7 : (t.N == 0 || t.Op == 0 || t.Op == 19) = true := by
      simp only [Bool.and_eq_true, bne_iff_ne, ne_eq] at c7
      by_cases a1 : t.N = 0 <;> by_cases a2 : t.Op = 0 <;> by_cases a3 : t.Op = 19 <;> simp [a1, a2, a3] at c7 ⊢
    rw [d6, d7] at hloc
    simp only [Bool.true_and, Bool.and_true] at hloc
    have ih' : ∀ x ∈ t.Kids, ∀ c1 : D.termCheck, c.count + 1 ≤ c1.count → c1.count ≤ 240 → (tab c1.widths).length ≤ c1.count → ∃ b c', impl_termCheck_node n c1 x = some (b, c') ∧
      (b = true → c1.count + cnt x ≤ 240 ∧ nodeB x = true ∧ c'.count = c1.count + cnt x ∧ runV (tab c1.widths) (vrs x) = some (tab c'.widths)) ∧ (b = false → ¬ (c1.count + cnt x ≤ 240 ∧ nodeB x = true ∧ (runV (tab c1.widths) (vrs x)).isSome = true)) := fun x hx c1 k1 k2 k3 => by
      have := mszs_mem hx
      exact ih x c1 (by omega) (by omega) k2 k3 (by omega)
    by_cases ho : t.Op = 22
    · rw [if_neg (by simp [ho])]
      have hv : vrs t = [(t.Name, t.W)] := by rw [vrs_eq, if_pos ho]
      have hrun : runV (tab c.widths) (vrs t) = stp (tab c.widths) (t.Name, t.W) := by
        rw [hv]; simp only [runV]; cases stp (tab c.widths) (t.Name, t.W) <;> rfl
      have hks : t.Kids = [] := by
        rw [ho] at hl
        exact List.length_eq_zero_iff.1 (by have : kc 22 = 0 := rfl; omega)
      obtain ⟨b, m, e1, e2, e3⟩ := impl_var (n := n) (c := ⟨c.count + 1, c.widths⟩) (t := t) (by omega) (by omega) hw (by simp only; omega)
      rw [e1]
      simp only [Option.bind_some]
      rw [ho] at hloc
      cases b with
      | false =>
        refine ⟨false, _, rfl, fun h => (by cases h), fun _ => ?_⟩
        rcases e3 rfl with e3 | e3
        · exact bad (by rw [hb, hloc, e3]; simp)
        · rw [hrun]
          simp only at e3
          rw [e3]
          exact fun ⟨_, _, h⟩ => by cases h
      | true =>
        obtain ⟨e4, e5⟩ := e2 rfl
        simp only at e5
        have hml : (tab m).length ≤ c.count + 1 := by have := stp_len e5; omega
        obtain ⟨r, g1, g2⟩ := kids_loop (n := n) (ks := t.Kids) (c0 := c.count + 1) (w0 := m) (by omega) (by omega) (by omega) (by omega) hml ih'
        rw [hks, cnts_nil, vrss_nil] at g2
        have hcn : cnts t.Kids = 0 := by rw [hks, cnts_nil]
        have hnb : nodesB t.Kids = true := by rw [hks, nodesB_all]; rfl
        simp only [Bool.not_true, Bool.false_eq_true, if_false]
        rw [g1]
        rcases g2 with ⟨cc, ww, rfl, k1, k2, k3, k4⟩ | ⟨c', rfl, k1⟩
        · refine ⟨true, ⟨cc, ww⟩, rfl, fun _ => ⟨by omega, ?_, by simp only; omega, ?_⟩, fun h => (by cases h)⟩
          · rw [hb, hloc, e4, hnb]; simp
          · rw [hrun, e5]
            simp only [runV, Option.some.injEq] at k4
            rw [k4]
        · exfalso
          apply k1
          refine ⟨by omega, by rw [nodesB_all]; rfl, rfl⟩
    · rw [if_pos (by simp [ho])]
      have hv : vrs t = vrss t.Kids := by rw [vrs_eq, if_neg ho]
      by_cases c8 : Str.eqb t.Name ⟨[]⟩ = true
      rotate_left
      · rw [if_pos (by simpa using c8)]
        refine ⟨false, _, rfl, fun h => (by cases h), fun _ => bad ?_⟩
        rw [hb, hloc]
        simp [c8, ho]
      rw [if_neg (by simp [c8])]
      have hloc' : locB t = true := by rw [hloc, c8]; simp [ho]
      obtain ⟨r, g1, g2⟩ := kids_loop (n := n) (ks := t.Kids) (c0 := c.count + 1) (w0 := c.widths) (by omega) (by omega) (by omega) (by omega) (by omega) ih'
      rw [g1, hv, hb, hloc']
      simp only [Bool.true_and]
      rcases g2 with ⟨cc, ww, rfl, k1, k2, k3, k4⟩ | ⟨c', rfl, k1⟩
      · exact ⟨true, ⟨cc, ww⟩, rfl, fun _ => ⟨by omega, k3, by simp only; omega, k4⟩, fun h => (by cases h)⟩
      · exact ⟨false, c', rfl, fun h => (by cases h), fun _ ⟨h1, h2, h3⟩ => k1 ⟨by omega, h2, h3⟩⟩
theorem impl_term {t : D.Term} (h : msz t ≤ 1048576) : impl_TermOk fuel t = some (termB t) := by
  unfold impl_TermOk
  obtain ⟨b, c', e1, e2, e3⟩ := impl_node fuel t ⟨0, none⟩ h (by simp) (by simp) (by simp [tab]) (by unfold fuel; simp)
  rw [e1]
  simp only [Option.bind_some, Option.some.injEq]
  unfold termB
  simp only [tab, Option.getD_none] at e2 e3
  cases b with
  | true =>
    obtain ⟨h1, h2, -, h3⟩ := e2 rfl
    rw [h2, h3, decide_eq_true (by omega)]; rfl
  | false =>
    have := e3 rfl
    cases hb : nodeB t
    · simp
    · cases hr : (runV [] (vrs t)).isSome
      · simp
      · have : ¬ cnt t ≤ 240 := fun hc => this ⟨by omega, hb, hr⟩
        simp [this]
end Go.Proofs.Ytdkfoghhjkjjlaa
