/- The plain laws of this claim: sizes, copies and comparisons of terms. No program in sight. -/
import Derived.Test.YtdkfoghhjkjjlaaP1
namespace Go.Proofs.Ytdkfoghhjkjjlaa
open Go.GL
mutual
def msz : D.Term → Nat
  | ⟨_, _, _, s, k⟩ => s.bytes.length + k.length + mszs k
def mszs : List D.Term → Nat
  | [] => 0
  | x :: l => msz x + mszs l
end
theorem msz_eq (t : D.Term) : msz t = t.Name.bytes.length + t.Kids.length + mszs t.Kids := by cases t; rw [msz]
theorem mszs_cons (x : D.Term) (l : List D.Term) : mszs (x :: l) = msz x + mszs l := by rw [mszs]
theorem mszs_nil : mszs [] = 0 := by rw [mszs]
theorem mszs_mem {x : D.Term} : ∀ {l : List D.Term}, x ∈ l → msz x ≤ mszs l
  | y :: l, h => by
    rw [mszs_cons]
    rcases List.mem_cons.1 h with rfl | h
    · omega
    · have := mszs_mem h; omega
theorem fit_Term_eq (t : D.Term) : fit_Term t ↔ fitInt t.Op ∧ fitInt t.W ∧ fitInt t.N ∧ t.Name.bytes.length ≤ 9223372036854775807 ∧ fitList fit_Term t.Kids := by
  cases t; rw [fit_Term, fits_Term_iff]; rfl

theorem szT : ∀ n : Nat, (∀ (t : D.Term) (m : Int), fit_Term t → 0 ≤ m → m ≤ 1048576 → 2 * m + 3 ≤ n → ∃ r, laws_szTerm n t m = some r ∧ (r < 0 ∨ 0 ≤ r ∧ r = m - msz t)) ∧
    (∀ (l : List D.Term) (m : Int), fitList fit_Term l → 0 ≤ m → m ≤ 1048576 → 2 * m + 2 ≤ n → ∃ r, laws_szTermS n l m = some r ∧ (r < 0 ∨ 0 ≤ r ∧ r = m - l.length - mszs l)) := by
  intro n
  induction n with
  | zero => exact ⟨fun t m _ _ _ _ => by omega, fun l m _ _ _ _ => by omega⟩
  | succ n ih =>
    refine ⟨fun t m hf h0 h1 hn => ?_, fun l m hf h0 h1 hn => ?_⟩
    · obtain ⟨-, -, -, hs, hk⟩ := (fit_Term_eq t).1 hf
      rw [msz_eq]
      unfold laws_szTerm
      rw [len_nat, w64_id (by omega) (by omega)]
      by_cases c : m - (t.Name.bytes.length : Int) < 0
      · rw [if_pos (by simpa using c)]; exact ⟨_, rfl, .inl (by decide)⟩
      · rw [if_neg (by simpa using c)]
        obtain ⟨r, g1, g2⟩ := ih.2 t.Kids (m - (t.Name.bytes.length : Int)) hk (by omega) (by omega) (by omega)
        rw [g1]
        simp only [Option.bind_some]
        rcases g2 with g2 | ⟨g2, g3⟩
        · rw [if_pos (by simpa using g2)]; exact ⟨_, rfl, .inl (by decide)⟩
        · rw [if_neg (by simpa using g2)]; exact ⟨_, rfl, .inr ⟨g2, by omega⟩⟩
    · obtain ⟨hl, hk⟩ := hf
      unfold laws_szTermS
      rw [len_nat, w64_id (by omega) (by omega)]
      by_cases c : m - (l.length : Int) < 0
      · rw [if_pos (by simpa using c)]; exact ⟨_, rfl, .inl (by decide)⟩
      · rw [if_neg (by simpa using c)]
        obtain ⟨r, g1, g2⟩ := iter_all (l := l) (n := n) (σ := Int) (ρ := Int ⊕ Int) (B := fun (s1 : Int × Int) =>
            if (decide (s1.2 < (l.length : Int))) then
              (get? l s1.2).bind fun x1 =>
              (laws_szTerm n x1 s1.1).bind fun x2 =>
              if (decide (x2 < 0)) then
                some (.inr (.inr (-1)))
              else
                some (.inl (x2, (w64 (s1.2 + 1))))
            else
              some (.inr (.inl (s1.1)))) (fun k (a : Int) => (a, (k : Int))) (fun ys a => 0 ≤ a ∧ a ≤ m - l.length ∧ a - mszs ys = m - l.length - mszs l ∧ ∀ x ∈ ys, fit_Term x) (fun r => r = .inr (-1) ∨ ∃ v, r = .inl v ∧ 0 ≤ v ∧ v = m - l.length - mszs l)
            (fun k x xs a hk' hx hlen ⟨i0, i1, i2, i3⟩ => by
              rw [mszs_cons] at i2
              simp at hlen
              obtain ⟨r, g1, g2⟩ := ih.1 x a (i3 x (by simp)) i0 (by omega) (by omega)
              simp only [get?_nat, hx, Option.bind_some, g1]
              rw [if_pos (by simpa using hk')]
              rcases g2 with g2 | ⟨g2, g3⟩
              · rw [if_pos (by simpa using g2)]; exact .inr ⟨_, rfl, .inl rfl⟩
              · rw [if_neg (by simpa using g2)]
                refine .inl ⟨r, by rw [w64_id (by omega) (by omega)]; rfl, g2, by omega, by omega, fun y hy => i3 y (by simp [hy])⟩)
            (fun a ⟨i0, i1, i2, _⟩ => by
              rw [mszs_nil] at i2
              simp only
              rw [if_neg (by simp)]
              exact ⟨_, rfl, .inr ⟨a, rfl, i0, by omega⟩⟩) (a := m - l.length) ⟨by omega, by omega, rfl, hk⟩ (by omega)
        rw [show ((0 : Nat) : Int) = 0 from rfl] at g1
        rw [g1]
        simp only [Option.bind_some]
        rcases g2 with rfl | ⟨v, rfl, g2, g3⟩
        · exact ⟨_, rfl, .inl (by decide)⟩
        · exact ⟨_, rfl, .inr ⟨g2, by omega⟩⟩
/-- the sizes of a list that has been counted -/
def sml (l : List D.Term) : Prop := l.length + mszs l ≤ 1048576
theorem szTS {l : List D.Term} {m : Int} (hf : fitList fit_Term l) (h0 : 0 ≤ m) (h1 : m ≤ 1048576) : ∃ r, laws_szTermS fuel l m = some r ∧ (r < 0 ∨ 0 ≤ r ∧ r ≤ m ∧ sml l) := by
  obtain ⟨r, h2, h3⟩ := (szT fuel).2 l m hf h0 h1 (by unfold fuel; omega)
  refine ⟨r, h2, h3.imp_right fun ⟨h3, h4⟩ => ⟨h3, by omega, by unfold sml; omega⟩⟩
theorem toT : ∀ n : Nat, (∀ t : D.Term, msz t ≤ 1048576 → 1048580 + 2 * msz t + 1 ≤ n → laws_toTerm n t = some t) ∧ (∀ l : List D.Term, sml l → 1048580 + 2 * (l.length + mszs l) ≤ n → laws_toTermS n l = some l) := by
  intro n
  induction n with
  | zero => exact ⟨fun t _ _ => by omega, fun l _ _ => by omega⟩
  | succ n ih =>
    refine ⟨fun t h hn => ?_, fun l h hn => ?_⟩
    · have := msz_eq t
      unfold laws_toTerm
      rw [ih.2 t.Kids (by unfold sml; omega) (by omega)]
      cases t; rfl
    · unfold sml at h
      unfold laws_toTermS
      rw [mk?_len (by unfold room; omega)]
      simp only [Option.bind_some]
      obtain ⟨r, g1, g2⟩ := iter_all (l := l) (n := n) (σ := List D.Term) (ρ := List D.Term) (B := fun (s1 : Int × (List D.Term)) =>
          if (decide (s1.1 < (len l))) then
            (get? l s1.1).bind fun x2 =>
            (laws_toTerm n x2).bind fun x3 =>
            (set? s1.2 s1.1 x3).bind fun x4 =>
            some (.inl ((w64 (s1.1 + 1)), x4))
          else
            some (.inr (s1.2))) (fun k (a : List D.Term) => ((k : Int), a)) (fun ys a => (∃ zs : List D.Term, a = l.take (l.length - ys.length) ++ zs ∧ zs.length = ys.length) ∧ ∀ x ∈ ys, x ∈ l) (fun r => r = l)
          (fun k x xs a hk' hx hlen ⟨⟨zs, hz, hz'⟩, hm⟩ => by
            have hxl := hm x (by simp)
            have := mszs_mem hxl
            simp only [List.length_cons] at hlen hz' hz
            have hpos : 0 < l.length := by omega
            simp only [get?_nat, hx, Option.bind_some, len_nat]
            rw [if_pos (by simpa using hk'), ih.1 x (by omega) (by omega)]
            simp only [Option.bind_some]
            obtain ⟨z, zs, rfl⟩ : ∃ z zs', zs = z :: zs' := by cases zs with | nil => simp at hz' | cons z zs => exact ⟨_, _, rfl⟩
            have e1 : l.length - (xs.length + 1) = k := by omega
            rw [e1] at hz
            subst hz
            rw [set?_nat (by simp at hz' ⊢; omega)]
            refine .inl ⟨_, by simp only [Option.bind_some]; rw [w64_id (by omega) (by omega)]; rfl, ⟨zs, ?_, by simpa using hz'⟩, fun y hy => hm y (by simp [hy])⟩
            have e2 : l.length - xs.length = k + 1 := by omega
            rw [e2, List.take_add_one, hx]
            have e3 : (l.take k).length = k := by simp; omega
            rw [List.set_append_right _ _ (by omega)]
            simp [e3])
          (fun a ⟨⟨zs, hz, hz'⟩, _⟩ => by
            simp only
            rw [if_neg (by rw [len_nat]; simp)]
            simp at hz'
            subst hz'
            simp at hz
            exact ⟨_, rfl, hz⟩) (a := List.replicate l.length _) ⟨⟨_, (by simp; rfl), (by simp)⟩, fun x hx => hx⟩ (by omega)
      rw [show ((0 : Nat) : Int) = 0 from rfl] at g1
      rw [g1, g2]
      rfl
theorem toTS {l : List D.Term} (h : sml l) : laws_toTermS fuel l = some l := (toT fuel).2 l h (by unfold sml at h; unfold fuel; omega)
theorem eqT : ∀ n : Nat, (∀ t : D.Term, msz t ≤ 1048576 → 1048580 + 2 * msz t + 1 ≤ n → laws_eqTerm n t t = some true) ∧ (∀ l : List D.Term, sml l → 1048580 + 2 * (l.length + mszs l) ≤ n → laws_eqTermS n l l = some true) := by
  intro n
  induction n with
  | zero => exact ⟨fun t _ _ => by omega, fun l _ _ => by omega⟩
  | succ n ih =>
    refine ⟨fun t h hn => ?_, fun l h hn => ?_⟩
    · have := msz_eq t
      unfold laws_eqTerm
      rw [ih.2 t.Kids (by unfold sml; omega) (by omega)]
      simp [eqb_self]
    · unfold sml at h
      unfold laws_eqTermS
      rw [if_neg (by simp)]
      obtain ⟨r, g1, g2⟩ := iter_all (l := l) (n := n) (σ := Unit) (ρ := Unit ⊕ Bool) (B := fun (s1 : Int) =>
          if (decide (s1 < (len l))) then
            (get? l s1).bind fun x1 =>
            (get? l s1).bind fun x2 =>
            (laws_eqTerm n x1 x2).bind fun x3 =>
            if (!x3) then
              some (.inr (.inr false))
            else
              some (.inl ((w64 (s1 + 1))))
          else
            some (.inr (.inl ()))) (fun k (_ : Unit) => (k : Int)) (fun ys _ => ∀ x ∈ ys, x ∈ l) (fun r => r = (.inl () : Unit ⊕ Bool))
          (fun k x xs a hk' hx hlen hm => by
            have hxl := hm x (by simp)
            have := mszs_mem hxl
            have hpos : 0 < l.length := by omega
            simp only [get?_nat, hx, Option.bind_some, len_nat]
            rw [if_pos (by simpa using hk'), ih.1 x (by omega) (by omega)]
            refine .inl ⟨(), ?_, fun y hy => hm y (by simp [hy])⟩
            simp only [Option.bind_some]
            rw [if_neg (by simp), w64_id (by omega) (by omega)]; rfl)
          (fun a _ => by
            rw [if_neg (by rw [len_nat]; simp)]
            exact ⟨_, rfl, rfl⟩) (a := ()) (fun x hx => hx) (by omega)
      rw [show ((0 : Nat) : Int) = 0 from rfl] at g1
      rw [g1, g2]
      rfl
theorem eqTS {l : List D.Term} (h : sml l) : laws_eqTermS fuel l l = some true := (eqT fuel).2 l h (by unfold sml at h; unfold fuel; omega)

/-- a path that has been counted -/
def smallP (x : D.Path) : Prop := sml x.Regs ∧ sml x.Mem ∧ x.Stack.length ≤ 1048576 ∧ sml x.Out ∧ sml x.Cond ∧ x.Turns.length ≤ 1048576
theorem szPath_eq {x : D.Path} {m : Int} (hx : fit_Path x) (h0 : 0 ≤ m) (h1 : m ≤ 1048576) : ∃ r, laws_szPath fuel x m = some r ∧ (r < 0 ∨ 0 ≤ r ∧ smallP x) := by
  obtain ⟨-, f1, f2, f3, -, f4, -, -, f5, f6⟩ := hx
  unfold laws_szPath
  obtain ⟨r1, e1, c1⟩ := szTS f1 h0 h1
  rw [e1]; simp only [Option.bind_some]
  rcases c1 with c1 | ⟨c1, d1, s1⟩
  · rw [if_pos (by simpa using c1)]; exact ⟨_, rfl, .inl (by decide)⟩
  rw [if_neg (by simpa using c1)]
  obtain ⟨r2, e2, c2⟩ := szTS f2 c1 (by omega)
  rw [e2]; simp only [Option.bind_some]
  rcases c2 with c2 | ⟨c2, d2, s2⟩
  · rw [if_pos (by simpa using c2)]; exact ⟨_, rfl, .inl (by decide)⟩
  rw [if_neg (by simpa using c2), szIntS_eq f3.1 c2 (by omega)]
  simp only [Option.bind_some]
  by_cases c3 : r2 - (x.Stack.length : Int) < 0
  · rw [if_pos c3]; exact ⟨_, rfl, .inl (by decide)⟩
  rw [if_neg c3, if_neg (by simpa using c3)]
  obtain ⟨r4, e4, c4⟩ := szTS f4 (m := r2 - (x.Stack.length : Int)) (by omega) (by omega)
  rw [e4]; simp only [Option.bind_some]
  rcases c4 with c4 | ⟨c4, d4, s4⟩
  · rw [if_pos (by simpa using c4)]; exact ⟨_, rfl, .inl (by decide)⟩
  rw [if_neg (by simpa using c4)]
  obtain ⟨r5, e5, c5⟩ := szTS f5 c4 (by omega)
  rw [e5]; simp only [Option.bind_some]
  rcases c5 with c5 | ⟨c5, d5, s5⟩
  · rw [if_pos (by simpa using c5)]; exact ⟨_, rfl, .inl (by decide)⟩
  rw [if_neg (by simpa using c5), szIntS_eq f6.1 c5 (by omega)]
  simp only [Option.bind_some]
  by_cases c6 : r5 - (x.Turns.length : Int) < 0
  · rw [if_pos c6]; exact ⟨_, rfl, .inl (by decide)⟩
  rw [if_neg c6, if_neg (by simpa using c6)]
  exact ⟨_, rfl, .inr ⟨by omega, s1, s2, by omega, s4, s5, by omega⟩⟩
theorem toPath_eq {x : D.Path} (h : smallP x) : laws_toPath fuel x = some x := by
  obtain ⟨h1, h2, h3, h4, h5, h6⟩ := h
  unfold laws_toPath
  rw [toTS h1, toTS h2, toIntS_eq h3, toTS h4, toTS h5, toIntS_eq h6]
  rfl
theorem eqPath_refl {x : D.Path} (h : smallP x) : laws_eqPath fuel x x = some true := by
  obtain ⟨h1, h2, h3, h4, h5, h6⟩ := h
  unfold laws_eqPath
  simp [eqTS h1, eqTS h2, eqIntS_eq h3, eqTS h4, eqTS h5, eqIntS_eq h6]
end Go.Proofs.Ytdkfoghhjkjjlaa
