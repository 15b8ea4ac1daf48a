/- The plain laws of this claim: the node check of the program under test. No program in sight. -/
import Derived.Test.YtdkfoghhjkjjlaaP6
namespace Go.Proofs.Ytdkfoghhjkjjlaa
open Go.GL
set_option linter.unusedSimpArgs false
set_option maxRecDepth 100000
/-- the table that a map shows -/
abbrev tab (m : Option (List (Str × Int))) : List (Str × Int) := m.getD []
theorem get2 {g : List (Str × Int)} {s : Str} (hs : s.bytes.length ≤ 1048576) : mget2? fitS (0 : Int) g s = some ((g.lookup s).getD 0, (g.lookup s).isSome) := by
  unfold mget2?
  rw [if_pos (by unfold fitS; simp; omega)]
theorem put1 {g : List (Str × Int)} {s : Str} {w : Int} (hs : s.bytes.length ≤ 1048576) (hw : 1 ≤ w ∧ w ≤ 16) (hg : g.length ≤ 1000) : mputE? fitS fitZ g s w = some ((s, w) :: g) := by
  unfold mputE?
  rw [if_pos ⟨by unfold fitS; simp; omega, by unfold fitZ; simp [Lit.wf]; exact ⟨by show (-9223372036854775808 : Int) ≤ w; omega, by omega⟩, by unfold room; omega⟩]
theorem impl_var {n : Nat} {c : D.termCheck} {t : D.Term} (hs : t.Name.bytes.length ≤ 1048576) (hn : 1048580 ≤ n) (hw : 1 ≤ t.W ∧ t.W ≤ 16) (hg : (tab c.widths).length ≤ 1000) :
    ∃ b m, impl_termCheck_variable n c t = some (b, ⟨c.count, m⟩) ∧ (b = true → nameB t.Name = true ∧ stp (tab c.widths) (t.Name, t.W) = some (tab m)) ∧ (b = false → nameB t.Name = false ∨ stp (tab c.widths) (t.Name, t.W) = none) := by
  obtain ⟨cc, ww⟩ := c
  unfold impl_termCheck_variable
  rw [impl_name hs (by omega)]
  simp only [Option.bind_some]
  cases hb : nameB t.Name
  · exact ⟨false, ww, rfl, fun h => (by cases h), fun _ => .inl rfl⟩
  · simp only [Bool.not_true, Bool.false_eq_true, if_false]
    cases ww with
    | none =>
      simp only [Option.isNone_none, if_true]
      rw [get2 hs]
      simp only [Option.bind_some, List.lookup_nil, Option.isSome_none, Bool.false_eq_true, if_false]
      rw [put1 hs hw (by simp)]
      exact ⟨true, _, rfl, fun _ => ⟨trivial, rfl⟩, fun h => (by cases h)⟩
    | some g =>
      simp only [Option.isNone_some, Bool.false_eq_true, if_false, Option.getD_some]
      rw [get2 hs]
      simp only [Option.bind_some]
      unfold stp
      simp only [tab, Option.getD_some] at hg ⊢
      cases hl : g.lookup t.Name with
      | some w =>
        simp only [Option.isSome_some, if_true, Option.getD_some]
        refine ⟨_, _, rfl, fun h => ⟨trivial, ?_⟩, fun h => .inr ?_⟩
        · rw [if_pos (by simpa using h)]; rfl
        · rw [if_neg (by simpa using h)]
      | none =>
        simp only [Option.isSome_none, Bool.false_eq_true, if_false]
        rw [put1 hs hw hg]
        exact ⟨true, _, rfl, fun _ => ⟨trivial, rfl⟩, fun h => (by cases h)⟩
/-- the kids, one after the other -/
theorem kids_loop {n : Nat} {ks : List D.Term} {c0 : Int} {w0 : Option (List (Str × Int))} (hn : 1048580 ≤ n) (hks : ks.length ≤ 1048576) (hc : 0 ≤ c0) (hc' : c0 ≤ 240) (hg : (tab w0).length ≤ c0)
    (ih : ∀ x ∈ ks, ∀ c : D.termCheck, c0 ≤ c.count → c.count ≤ 240 → (tab c.widths).length ≤ c.count → ∃ b c', impl_termCheck_node n c x = some (b, c') ∧
      (b = true → c.count + cnt x ≤ 240 ∧ nodeB x = true ∧ c'.count = c.count + cnt x ∧ runV (tab c.widths) (vrs x) = some (tab c'.widths)) ∧ (b = false → ¬ (c.count + cnt x ≤ 240 ∧ nodeB x = true ∧ (runV (tab c.widths) (vrs x)).isSome = true))) :
    ∃ r, iterN (fun (s2 : Int × Int × (Option (List (Str × Int)))) =>
        if (decide (s2.1 < (len ks))) then
          (get? ks s2.1).bind fun x7 =>
          (impl_termCheck_node n (D.termCheck.mk s2.2.1 s2.2.2) x7).bind fun x8 =>
          if (!x8.1) then
            some (.inr (.inr (false, x8.2)))
          else
            some (.inl ((w64 (s2.1 + 1)), x8.2.count, x8.2.widths))
        else
          some (.inr (.inl (s2.2.1, s2.2.2)))
      ) n (0, c0, w0) = some (r : (Int × (Option (List (Str × Int)))) ⊕ (Bool × D.termCheck)) ∧
      ((∃ cc ww, r = .inl (cc, ww) ∧ cc = c0 + cnts ks ∧ cc ≤ 240 ∧ nodesB ks = true ∧ runV (tab w0) (vrss ks) = some (tab ww)) ∨
       ∃ c', r = .inr (false, c') ∧ ¬ (c0 + cnts ks ≤ 240 ∧ nodesB ks = true ∧ (runV (tab w0) (vrss ks)).isSome = true)) := by
  have hrl := vrs_le
  exact iter_all (l := ks) (n := n) (σ := Int × (Option (List (Str × Int)))) (ρ := (Int × (Option (List (Str × Int)))) ⊕ (Bool × D.termCheck)) (B := fun (s2 : Int × Int × (Option (List (Str × Int)))) =>
        if (decide (s2.1 < (len ks))) then
          (get? ks s2.1).bind fun x7 =>
          (impl_termCheck_node n (D.termCheck.mk s2.2.1 s2.2.2) x7).bind fun x8 =>
          if (!x8.1) then
            some (.inr (.inr (false, x8.2)))
          else
            some (.inl ((w64 (s2.1 + 1)), x8.2.count, x8.2.widths))
        else
          some (.inr (.inl (s2.2.1, s2.2.2)))) (fun k a => ((k : Int), a.1, a.2))
      (fun ys a => c0 ≤ a.1 ∧ a.1 ≤ 240 ∧ (tab a.2).length ≤ a.1 ∧ a.1 + cnts ys = c0 + cnts ks ∧ nodesB ys = nodesB ks ∧ runV (tab a.2) (vrss ys) = runV (tab w0) (vrss ks) ∧ ∀ x ∈ ys, x ∈ ks) _
      (fun k x xs a hk' hx hlen ⟨i0, i1, i2, i3, i4, i5, i6⟩ => by
        obtain ⟨ac, aw⟩ := a
        simp only at i0 i1 i2 i3 i5
        rw [cnts_cons] at i3
        rw [nodesB_all, List.all_cons, ← nodesB_all] at i4
        rw [vrss_cons, runV_app] at i5
        have hd : decide ((k : Int) < len ks) = true := by rw [len_nat]; simp; omega
        obtain ⟨b, c', e1, e2, e3⟩ := ih x (i6 x (by simp)) ⟨ac, aw⟩ i0 i1 i2
        simp only [hd, if_true, get?_nat, hx, Option.bind_some, e1]
        cases b with
        | false =>
          refine .inr ⟨_, rfl, .inr ⟨c', rfl, fun ⟨h1, h2, h3⟩ => e3 rfl ⟨?_, ?_, ?_⟩⟩⟩
          · simp only; omega
          · rw [← i4, Bool.and_eq_true] at h2; exact h2.1
          · rw [← i5] at h3
            simp only
            cases hq : runV (tab aw) (vrs x) with
            | none => rw [hq] at h3; cases h3
            | some _ => rfl
        | true =>
          obtain ⟨h1, h2, h3, h4⟩ := e2 rfl
          simp only at h1 h3 h4
          refine .inl ⟨(c'.count, c'.widths), by simp only [Bool.not_true, Bool.false_eq_true, if_false]; rw [w64_id (by omega) (by omega)]; rfl, by simp only; omega, by simp only; omega, ?_, by simp only; omega, by rw [← i4, h2, Bool.true_and], ?_, fun y hy => i6 y (by simp [hy])⟩
          · have := runV_len h4
            have := hrl x
            simp only; omega
          · rw [h4] at i5; exact i5)
      (fun a ⟨i0, i1, i2, i3, i4, i5, i6⟩ => by
        obtain ⟨ac, aw⟩ := a
        have hd : decide ((ks.length : Int) < len ks) = false := by rw [len_nat]; simp
        simp only [hd, Bool.false_eq_true, if_false]
        rw [cnts_nil] at i3
        rw [vrss_nil] at i5
        refine ⟨_, rfl, .inl ⟨ac, aw, rfl, by simp only at i3; omega, i1, ?_, i5.symm⟩⟩
        rw [← i4, nodesB_all]; rfl) (a := (c0, w0)) ⟨by simp only; omega, hc', hg, rfl, rfl, rfl, fun x hx => hx⟩ (by omega)
end Go.Proofs.Ytdkfoghhjkjjlaa
