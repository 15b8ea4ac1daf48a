/- The plain law of this claim: EndsFor. No program in sight. -/
import Derived.Test.YtfbcccfbikeibaaGreatDoorPLib
namespace Go.Proofs.YtfbcccfbikeibaaGreatDoor
open Go.GL
set_option linter.unusedSimpArgs false
set_option maxRecDepth 100000
/-- the places of the paths that hold -/
def endsL (p : D.Program) (z : List Int) : List D.Path → Nat → List Int
  | [], _ => []
  | x :: xs, k => (if holdB p x z = true then [(k : Int)] else []) ++ endsL p z xs (k + 1)
theorem endsL_len (p : D.Program) (z : List Int) : ∀ (l : List D.Path) (k : Nat), (endsL p z l k).length ≤ l.length
  | [], _ => Nat.le_refl _
  | x :: xs, k => by
    have := endsL_len p z xs (k + 1)
    unfold endsL
    split <;> simp <;> omega
theorem ends_loop {p : D.Program} {l : List D.Path} {z : List Int} {H : D.Path → Option Bool} (hH : ∀ x ∈ l, H x = some (holdB p x z)) (hl : l.length ≤ 1048576) :
    (iterN (fun (s1 : Int × (List Int)) =>
    if (decide (s1.1 < (len l))) then
      (get? l s1.1).bind fun x1 =>
      (H x1).bind fun x2 =>
      if x2 then
        (app? s1.2 ([s1.1] : List Int)).bind fun x3 =>
        some (.inl ((w64 (s1.1 + 1)), x3))
      else
        some (.inl ((w64 (s1.1 + 1)), s1.2))
    else
      some (.inr (s1.2))
  ) fuel (0, ([] : List Int))) = some (endsL p z l 0) := by
  obtain ⟨r, g1, g2⟩ := iter_all (l := l) (n := fuel) (σ := List Int) (ρ := List Int) (B := fun (s1 : Int × (List Int)) =>
    if (decide (s1.1 < (len l))) then
      (get? l s1.1).bind fun x1 =>
      (H x1).bind fun x2 =>
      if x2 then
        (app? s1.2 ([s1.1] : List Int)).bind fun x3 =>
        some (.inl ((w64 (s1.1 + 1)), x3))
      else
        some (.inl ((w64 (s1.1 + 1)), s1.2))
    else
      some (.inr (s1.2))) (fun k a => ((k : Int), a)) (fun ys a => a ++ endsL p z ys (l.length - ys.length) = endsL p z l 0 ∧ a.length + ys.length ≤ l.length) (fun r => r = endsL p z l 0)
    (fun k x xs a hk' hx hlen ⟨i1, i2⟩ => by
      have hd : decide ((k : Int) < len l) = true := by rw [len_nat]; simp; omega
      simp only [hd, if_true, get?_nat, hx, Option.bind_some, hH x (List.mem_of_getElem? hx)]
      simp only [List.length_cons] at hlen i1 i2
      have e1 : l.length - (xs.length + 1) = k := by omega
      have e2 : l.length - xs.length = k + 1 := by omega
      rw [e1] at i1
      rw [show endsL p z (x :: xs) k = (if holdB p x z = true then [(k : Int)] else []) ++ endsL p z xs (k + 1) from rfl] at i1
      cases hh : holdB p x z
      · rw [hh] at i1
        simp only [Bool.false_eq_true, if_false, List.nil_append] at i1
        exact .inl ⟨a, by simp only [Bool.false_eq_true, if_false]; rw [w64_id (by omega) (by omega)]; rfl, by rw [e2]; exact i1, by omega⟩
      · rw [hh] at i1
        simp only [if_true] at i1
        rw [app_len (by simp; omega)]
        exact .inl ⟨a ++ [(k : Int)], by simp only [if_true, Option.bind_some]; rw [w64_id (by omega) (by omega)]; rfl, by rw [e2, List.append_assoc]; exact i1, by simp; omega⟩)
    (fun a ⟨i1, _⟩ => by
      have hd : decide ((l.length : Int) < len l) = false := by rw [len_nat]; simp
      simp only [hd, Bool.false_eq_true, if_false]
      rw [show ∀ n, endsL p z [] n = [] from fun _ => rfl, List.append_nil] at i1
      exact ⟨_, rfl, i1⟩) (a := []) ⟨by simp, by simp⟩ (lt_fuel hl)
  rw [show ((0 : Nat) : Int) = 0 from rfl] at g1
  rw [g1, g2]
theorem spec_ends {p : D.Program} {l : List D.Path} {z : List Int} (hp : p.Code.length ≤ 1048576) (hs : smallPS l) (hz : z.length ≤ 1048576) : spec_EndsFor fuel p l z = some (endsL p z l 0) := by
  unfold spec_EndsFor
  rw [ends_loop (H := fun x => spec_HoldsPath fuel p x z) (fun x hx => spec_holds hp (hs.2 x hx) hz) hs.1]; rfl
theorem impl_ends {p : D.Program} {l : List D.Path} {z : List Int} (hp : p.Code.length ≤ 1048576) (hs : smallPS l) (hz : z.length ≤ 1048576) : impl_EndsFor fuel p l z = some (endsL p z l 0) := by
  unfold impl_EndsFor
  rw [ends_loop (H := fun x => impl_HoldsPath fuel p x z) (fun x hx => impl_holds hp (hs.2 x hx) hz) hs.1]; rfl
theorem fin_FnExactEndsFor (x : D.Program) (hx : fit_Program x) (y : List D.Path) (hy : fitList fit_Path y) (z : List Int) (_ : fitList fitInt z) : ∃ n, laws_FnExactEndsFor n x y z = some true := by
  refine ⟨fuel, ?_⟩
  unfold laws_FnExactEndsFor
  by_cases c0 : z.length ≤ 1048576
  rotate_left
  · rw [if_pos (by rw [len_nat]; simp; omega)]
  rw [if_neg (by rw [len_nat]; simp; omega)]
  obtain ⟨r1, h1, c1⟩ := szProgram_eq (m := 1048576) hx (by omega) (by omega)
  rw [h1]
  simp only [Option.bind_some]
  rcases c1 with c1 | ⟨c1, c1', s1⟩
  · rw [if_pos (by simpa using c1)]
  rw [if_neg (by simp; omega)]
  obtain ⟨r2, h2, c2⟩ := szPathS_eq (m := r1) hy c1 c1'
  rw [h2]
  simp only [Option.bind_some]
  rcases c2 with c2 | ⟨c2, s2⟩
  · rw [if_pos (by simpa using c2)]
  rw [if_neg (by simp; omega)]
  have hE := endsL_len x z y 0
  have hy' := s2.1
  have t3 : (endsL x z y 0).length ≤ 1048576 := by omega
  obtain ⟨k1, q1, m1, b1, b1'⟩ := markProgram_ok (x := x) (k := 1) (by omega) (by omega) s1
  obtain ⟨k2, q2, m2, b2, b2'⟩ := mark_paths (k := k1) s2 (by omega) (by omega)
  have m3 := markIntS_eq (p := z) (k := k2) (by omega) (by omega) c0
  have m4 := markIntS_eq (p := endsL x z y 0) (k := 1) (by omega) (by omega) t3
  have m5 := heldIntS_eq (L := (endsL x z y 0).length) (k := 1) (by omega) (by omega) t3
  simp only [toProgram_eq s1, toPathS_eq s2, toIntS_eq c0, Option.bind_some, spec_ends s1 s2 c0, impl_ends s1 s2 c0, eqProgram_refl s1, eqPathS_refl s2, eqIntS_eq t3, eqIntS_eq c0, m1, m2, m3, m4, m5]
  have e1 : ¬ k2 + (z.length : Int) < 0 := by omega
  have e2 : ¬ (1 : Int) + ((endsL x z y 0).length : Int) < 0 := by omega
  simp [e1, e2]
end Go.Proofs.YtfbcccfbikeibaaGreatDoor
