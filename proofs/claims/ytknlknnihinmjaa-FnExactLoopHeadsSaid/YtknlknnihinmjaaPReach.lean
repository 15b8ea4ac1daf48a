/- What is reached: both queues end with the same set. No program in sight. -/
import Derived.Test.YtknlknnihinmjaaPNext
namespace Go.Proofs.Ytknlknnihinmjaa
open Go.GL
/-- reached from 0 -/
inductive Rch (g : Int → List Int) : Int → Prop
  | z : Rch g 0
  | s {a b : Int} : Rch g a → b ∈ g a → Rch g b
theorem rch_in {g : Int → List Int} {C : Int → Prop} (h0 : C 0) (hc : ∀ a, C a → ∀ b ∈ g a, C b) : ∀ a, Rch g a → C a := by
  intro a h
  induction h with
  | z => exact h0
  | s _ hb ih => exact hc _ ih _ hb
/-- how many are seen -/
def tr (l : List Bool) : Nat := (l.filter id).length
theorem tr_set : ∀ {l : List Bool} {j : Nat}, l[j]? = some false → tr (l.set j true) = tr l + 1 := by
  intro l
  induction l with
  | nil => intro j h; simp at h
  | cons a l ih =>
    intro j h
    cases j with
    | zero =>
      simp only [List.getElem?_cons_zero, Option.some.injEq] at h
      subst h
      simp [tr]
    | succ j =>
      simp only [List.getElem?_cons_succ] at h
      have := ih h
      simp only [tr] at this ⊢
      cases a <;> simp [this]
theorem tr_le (l : List Bool) : tr l ≤ l.length := List.length_filter_le _ _
theorem tr_rep (n : Nat) : tr (List.replicate n false) = 0 := by
  unfold tr
  induction n with
  | zero => rfl
  | succ n ih => simp
theorem get?_lt {α : Type} {l : List α} {i : Int} {x : α} (h0 : 0 ≤ i) (h : l[i.toNat]? = some x) : get? l i = some x := by unfold get?; rw [if_pos h0, h]
theorem set?_lt {α : Type} {l : List α} {i : Int} {x : α} (h0 : 0 ≤ i) (h : i.toNat < l.length) : set? l i x = some (l.set i.toNat x) := by unfold set?; rw [if_pos ⟨h0, h⟩]
theorem app?_le {α : Type} {l m : List α} (h : l.length + m.length ≤ 4294967296) : app? l m = some (l ++ m) := by unfold app?; rw [if_pos (by unfold room; exact h)]
section
variable {x : D.Program}
/-! ### the specification's queue -/
structure SI (x : D.Program) (s : List Int × List Bool) : Prop where
  len : s.2.length = x.Code.length + 1
  wrk : ∀ a ∈ s.1, (0 ≤ a ∧ a ≤ (x.Code.length : Int)) ∧ Rch (nxt x) a
  sn : ∀ a : Nat, s.2[a]? = some true → Rch (nxt x) a ∧ ∀ b ∈ nxt x a, b ∈ s.1 ∨ s.2[b.toNat]? = some true
  zero : (0 : Int) ∈ s.1 ∨ s.2[0]? = some true
  few : s.1.length ≤ 1000
abbrev sB (x : D.Program) (n : Nat) : (List Int) × (List Bool) → Option (((List Int) × (List Bool)) ⊕ (List Bool)) := fun (s1 : (List Int) × (List Bool)) =>
      if (decide ((len s1.1) > 0)) then
        (get? s1.1 0).bind fun x3 =>
        (cut? s1.1 1 (len s1.1)).bind fun x4 =>
        (get? s1.2 x3).bind fun x5 =>
        if (!x5) then
          (set? s1.2 x3 true).bind fun x6 =>
          (spec_NextOf n x x3).bind fun x7 =>
          (app? x4 x7).bind fun x8 =>
          some (.inl (x8, x6))
        else
          some (.inl (x4, s1.2))
      else
        some (.inr (s1.2))
def sM (s : List Int × List Bool) : Nat := s.1.length + 3 * (s.2.length - tr s.2)
def SR (x : D.Program) (r : List Bool) : Prop := r.length = x.Code.length + 1 ∧ ∀ a : Nat, r[a]? = some true ↔ (a ≤ x.Code.length ∧ Rch (nxt x) a)
theorem s_step (h : progB x = true) (hc : x.Code.length ≤ 40) (s : List Int × List Bool) (hI : SI x s ∧ sM s ≤ 200) : (∃ s', sB x fuel s = some (.inl s') ∧ (SI x s' ∧ sM s' ≤ 200) ∧ sM s' < sM s) ∨ ∃ r, sB x fuel s = some (.inr r) ∧ SR x r := by
  obtain ⟨hI, hmm⟩ := hI
  obtain ⟨work, seen⟩ := s
  obtain ⟨i1, i2, i3, i4, i5⟩ := hI
  simp only at i1 i2 i3 i4 i5
  cases work with
  | nil =>
    right
    refine ⟨seen, by simp [sB, len], i1, fun a => ⟨fun ha => ⟨?_, (i3 a ha).1⟩, fun ⟨ha, hr⟩ => ?_⟩⟩
    · have := (List.getElem?_eq_some_iff.1 ha).1; omega
    · have key := rch_in (g := nxt x) (C := fun a => 0 ≤ a ∧ seen[a.toNat]? = some true) ⟨by omega, by simpa using i4⟩ (fun a ⟨h0, ha⟩ b hb => ?_) a hr
      · simpa using key.2
      · have ha' := i3 a.toNat ha
        rw [Int.toNat_of_nonneg h0] at ha'
        have hlt := (List.getElem?_eq_some_iff.1 ha).1
        have hbd := (nxt_eq h (f := a) ⟨h0, by omega⟩).2.2.2 b hb
        exact ⟨hbd.1, by simpa using ha'.2 b hb⟩
  | cons a work =>
    left
    obtain ⟨⟨ha0, ha1⟩, hra⟩ := i2 a (by simp)
    have hlt : a.toNat < seen.length := by omega
    have c1 : decide (len (a :: work) > 0) = true := by rw [len_nat]; simp
    have c2 : get? (a :: work) 0 = some a := by simp [get?]
    have c3 : cut? (a :: work) 1 (len (a :: work)) = some work := by
      unfold cut?
      rw [if_pos ⟨by omega, by rw [len_nat]; simp only [List.length_cons]; omega, by rw [len_nat]; omega⟩, len_nat, Int.toNat_natCast, List.take_length]
      rfl
    have c4 : get? seen a = some seen[a.toNat] := get?_lt ha0 (List.getElem?_eq_getElem hlt)
    obtain ⟨n1, n2, n3, n4⟩ := nxt_eq h (f := a) ⟨ha0, ha1⟩
    have ea : ((a.toNat : Nat) : Int) = a := Int.toNat_of_nonneg ha0
    cases hv : seen[a.toNat] with
    | true =>
      have hv' : seen[a.toNat]? = some true := by rw [List.getElem?_eq_getElem hlt, hv]
      refine ⟨(work, seen), by simp [sB, c1, c2, c3, c4, hv], ⟨⟨i1, fun b hb => i2 b (by simp [hb]), fun b hb => ⟨(i3 b hb).1, fun y hy => ?_⟩, ?_, by simp at i5 ⊢; omega⟩, ?_⟩, ?_⟩
      · rcases (i3 b hb).2 y hy with hy | hy
        · rw [List.mem_cons] at hy
          rcases hy with rfl | hy
          · exact .inr hv'
          · exact .inl hy
        · exact .inr hy
      · rcases i4 with i4 | i4
        · rw [List.mem_cons] at i4
          rcases i4 with rfl | i4
          · exact .inr (by simpa using hv')
          · exact .inl i4
        · exact .inr i4
      · simp [sM] at hmm ⊢; omega
      · simp [sM]
    | false =>
      have hv' : seen[a.toNat]? = some false := by rw [List.getElem?_eq_getElem hlt, hv]
      have c5 : set? seen a true = some (seen.set a.toNat true) := set?_lt ha0 hlt
      have c6 : app? work (nxt x a) = some (work ++ nxt x a) := app?_le (by simp at i5; omega)
      have htr := tr_set hv'
      have htl := tr_le (seen.set a.toNat true)
      rw [List.length_set] at htl
      have hm : sM (work ++ nxt x a, seen.set a.toNat true) < sM (a :: work, seen) := by
        simp only [sM, List.length_append, List.length_set, List.length_cons, htr]
        omega
      refine ⟨(work ++ nxt x a, seen.set a.toNat true), by simp [sB, c1, c2, c3, c4, hv, c5, n1, c6], ⟨⟨by simpa using i1, fun b hb => ?_, fun b hb => ?_, ?_, ?_⟩, by omega⟩, hm⟩
      · simp only [List.mem_append] at hb
        rcases hb with hb | hb
        · exact i2 b (by simp [hb])
        · exact ⟨n4 b hb, .s hra hb⟩
      · have hset : ∀ y : Nat, seen[y]? = some true → (seen.set a.toNat true)[y]? = some true := fun y hy => by
          rw [List.getElem?_set]
          split
          · rename_i e; subst e; rw [hv'] at hy
          · exact hy
        by_cases e : a.toNat = b
        · subst e
          rw [ea]
          exact ⟨hra, fun y hy => .inl (by simp [hy])⟩
        · simp only [List.getElem?_set, if_neg e] at hb
          obtain ⟨q1, q2⟩ := i3 b hb
          refine ⟨q1, fun y hy => ?_⟩
          rcases q2 y hy with q2 | q2
          · rw [List.mem_cons] at q2
            rcases q2 with rfl | q2
            · exact .inr (by simp [List.getElem?_set, hlt])
            · exact .inl (by simp [q2])
          · exact .inr (hset _ q2)
      · rcases i4 with i4 | i4
        · rw [List.mem_cons] at i4
          rcases i4 with e | i4
          · subst e
            exact .inr (by show (seen.set 0 true)[0]? = _; rw [List.getElem?_set_self (by omega)])
          · exact .inl (by simp [i4])
        · refine .inr ?_
          simp only [List.getElem?_set]
          split
          · rename_i e; rw [e, i4] at hv'
          · exact i4
      · have : sM (work ++ nxt x a, seen.set a.toNat true) ≤ 200 := by omega
        simp only [sM, List.length_append] at this ⊢
        omega

abbrev sO (m : List Bool) (rl1 : List Bool) : Int × (List Int) → Option ((Int × (List Int)) ⊕ (List Int)) := fun (s2 : Int × (List Int)) =>
      if (decide (s2.1 < (len m))) then
        (get? rl1 s2.1).bind fun x9 =>
        if x9 then
          (app? s2.2 ([s2.1] : List Int)).bind fun x10 =>
          some (.inl ((w64 (s2.1 + 1)), x10))
        else
          some (.inl ((w64 (s2.1 + 1)), s2.2))
      else
        some (.inr (s2.2))
/-- the places that are seen, in order -/
theorem sO_ok {m r : List Bool} (hl : r.length = m.length) (hb : m.length ≤ 1000) {n : Nat} (hn : m.length < n) : ∃ o, iterN (sO m r) n (0, []) = some o ∧ o.Pairwise (· < ·) ∧ (∀ y, y ∈ o ↔ 0 ≤ y ∧ r[y.toNat]? = some true) ∧ o.length ≤ m.length := by
  have key := iterN_meas (B := sO m r) (I := fun s => ∃ i : Nat, s.1 = (i : Int) ∧ i ≤ m.length ∧ s.2.Pairwise (· < ·) ∧ (∀ y, y ∈ s.2 ↔ (0 ≤ y ∧ y < (i : Int)) ∧ r[y.toNat]? = some true) ∧ s.2.length ≤ i) (μ := fun s => m.length - s.1.toNat)
    (R := fun o => o.Pairwise (· < ·) ∧ (∀ y, y ∈ o ↔ 0 ≤ y ∧ r[y.toNat]? = some true) ∧ o.length ≤ m.length) ?_ n (0, []) ⟨0, rfl, by omega, List.Pairwise.nil, by simp; omega, by simp⟩ (by simpa using hn)
  · exact key
  · rintro ⟨j, o⟩ ⟨i, rfl, h1, h2, h3, h4⟩
    simp only at h2 h3 h4
    by_cases c : i < m.length
    · left
      have hlt : i < r.length := by omega
      have w1 : w64 ((i : Int) + 1) = ((i + 1 : Nat) : Int) := by rw [w64_id (by omega) (by omega)]; omega
      have c1 : decide ((i : Int) < len m) = true := by rw [len_nat]; exact decide_eq_true (by omega)
      have c2 : get? r (i : Int) = some r[i] := by rw [get?_nat, List.getElem?_eq_getElem hlt]
      cases hv : r[i] with
      | true =>
        have hv' : r[i]? = some true := by rw [List.getElem?_eq_getElem hlt, hv]
        refine ⟨(((i + 1 : Nat) : Int), o ++ [(i : Int)]), by simp only [sO, c1, c2, hv, Option.bind_some, if_true, app?_le (show o.length + [(i : Int)].length ≤ 4294967296 by simp; omega), w1], ⟨i + 1, rfl, by omega, ?_, fun y => ?_, by simp; omega⟩, by simp; omega⟩
        · rw [List.pairwise_append]
          exact ⟨h2, by simp, fun a ha b hb => by simp at hb; subst hb; exact ((h3 a).1 ha).1.2⟩
        · simp only [List.mem_append, h3 y, List.mem_singleton]
          constructor
          · rintro (⟨⟨q1, q2⟩, q3⟩ | rfl)
            · exact ⟨⟨q1, by omega⟩, q3⟩
            · exact ⟨⟨by omega, by omega⟩, by simpa using hv'⟩
          · rintro ⟨⟨q1, q2⟩, q3⟩
            by_cases e : y = (i : Int)
            · exact .inr e
            · exact .inl ⟨⟨q1, by omega⟩, q3⟩
      | false =>
        have hv' : r[i]? = some false := by rw [List.getElem?_eq_getElem hlt, hv]
        refine ⟨(((i + 1 : Nat) : Int), o), by simp only [sO, c1, c2, hv, Option.bind_some, if_true, if_false, Bool.false_eq_true, w1], ⟨i + 1, rfl, by omega, h2, fun y => ?_, by simp; omega⟩, by simp; omega⟩
        simp only [h3 y]
        constructor
        · rintro ⟨⟨q1, q2⟩, q3⟩
          exact ⟨⟨q1, by omega⟩, q3⟩
        · rintro ⟨⟨q1, q2⟩, q3⟩
          refine ⟨⟨q1, ?_⟩, q3⟩
          by_cases e : y = (i : Int)
          · subst e; rw [Int.toNat_natCast, hv'] at q3; cases q3
          · omega
    · right
      have c1 : decide ((i : Int) < len m) = false := by rw [len_nat]; exact decide_eq_false (by omega)
      refine ⟨o, by simp [sO, c1], h2, fun y => ?_, by omega⟩
      rw [h3 y]
      constructor
      · rintro ⟨⟨q1, q2⟩, q3⟩
        exact ⟨q1, q3⟩
      · rintro ⟨q1, q3⟩
        have := (List.getElem?_eq_some_iff.1 q3).1
        exact ⟨⟨q1, by omega⟩, q3⟩
/-- what both answer: the places that are reached, in order -/
def RSet (x : D.Program) (r : List Int) : Prop := r.Pairwise (· < ·) ∧ (∀ y, y ∈ r ↔ (0 ≤ y ∧ y ≤ (x.Code.length : Int)) ∧ Rch (nxt x) y) ∧ r.length ≤ 100
theorem mk?_rep {k : Nat} (h : k ≤ 1000) : mk? (k : Int) (false : Bool) = some (List.replicate k false) := by
  unfold mk?
  rw [if_pos ⟨by omega, by unfold room; omega⟩, Int.toNat_natCast]
theorem wlen {x : D.Program} (hc : x.Code.length ≤ 40) : w64 (len x.Code + 1) = ((x.Code.length + 1 : Nat) : Int) := by rw [len_nat, w64_id (by omega) (by omega)]; omega
theorem spec_reached (h : progB x = true) : ∃ r, spec_ReachedOf fuel x = some r ∧ RSet x r := by
  obtain ⟨-, hc1, hc⟩ := ins_place' h
  unfold spec_ReachedOf
  rw [spec_prog (by omega), h]
  simp only [Option.bind_some, Bool.not_true, Bool.false_eq_true, if_false]
  rw [wlen hc, mk?_rep (by omega)]
  simp only [Option.bind_some]
  have h0 : SI x (([0] : List Int), List.replicate (x.Code.length + 1) false) ∧ sM (([0] : List Int), List.replicate (x.Code.length + 1) false) ≤ 200 := by
    refine ⟨⟨by simp, fun a ha => ?_, fun a ha => ?_, .inl (by simp), by simp⟩, ?_⟩
    · simp at ha; subst ha; exact ⟨⟨by omega, by omega⟩, .z⟩
    · simp [List.getElem?_replicate] at ha
    · simp only [sM, tr_rep, List.length_replicate, List.length_singleton]; omega
  obtain ⟨r, e1, e2, e3⟩ := iterN_meas (B := sB x fuel) (I := fun s => SI x s ∧ sM s ≤ 200) (μ := sM) (R := SR x) (fun s hs => s_step h hc s hs) fuel _ h0 (by
    have := h0.2
    exact Nat.lt_of_le_of_lt this (by decide))
  rw [e1]
  obtain ⟨o, g1, g2, g3, g4⟩ := sO_ok (m := List.replicate (x.Code.length + 1) false) (r := r) (by simp [e2]) (by simp; omega) (n := fuel) (lt_fuel (by simp; omega))
  simp only [Option.bind_some]
  rw [g1]
  refine ⟨o, rfl, g2, fun y => ?_, by simp at g4; omega⟩
  rw [g3 y]
  constructor
  · rintro ⟨q1, q2⟩
    obtain ⟨q3, q4⟩ := (e3 _).1 q2
    rw [Int.toNat_of_nonneg q1] at q4
    exact ⟨⟨q1, by omega⟩, q4⟩
  · rintro ⟨⟨q1, q2⟩, q3⟩
    refine ⟨q1, (e3 _).2 ⟨by omega, ?_⟩⟩
    rw [Int.toNat_of_nonneg q1]; exact q3

/-! ### the program's queue -/
structure QI (x : D.Program) (out : List Int) (seen : List Bool) : Prop where
  len : seen.length = x.Code.length + 1
  cnt : tr seen = out.length
  mem : ∀ a ∈ out, (0 ≤ a ∧ a ≤ (x.Code.length : Int)) ∧ Rch (nxt x) a
  all : ∀ j : Nat, seen[j]? = some true → (j : Int) ∈ out
  zero : (0 : Int) ∈ out
abbrev iI (x5 : List Int) : Int × (List Int) × (List Bool) → Option ((Int × (List Int) × (List Bool)) ⊕ ((List Int) × (List Bool))) := fun (s2 : Int × (List Int) × (List Bool)) =>
          if (decide (s2.1 < (len x5))) then
            (get? x5 s2.1).bind fun x6 =>
            (get? s2.2.2 x6).bind fun x7 =>
            if (!x7) then
              (set? s2.2.2 x6 true).bind fun x8 =>
              (app? s2.2.1 ([x6] : List Int)).bind fun x9 =>
              some (.inl ((w64 (s2.1 + 1)), x9, x8))
            else
              some (.inl ((w64 (s2.1 + 1)), s2.2.1, s2.2.2))
          else
            some (.inr (s2.2.1, s2.2.2))
theorem iI_ok (hc : x.Code.length ≤ 40) {L : List Int} (hL : ∀ b ∈ L, (0 ≤ b ∧ b ≤ (x.Code.length : Int)) ∧ Rch (nxt x) b) (hl : L.length ≤ 2) {out : List Int} {seen : List Bool} (hQ : QI x out seen) :
    ∃ r, iterN (iI L) fuel (0, out, seen) = some r ∧ QI x r.1 r.2 ∧ (∃ t, r.1 = out ++ t) ∧ ∀ b ∈ L, b ∈ r.1 := by
  refine iterN_meas (B := iI L) (I := fun s => ∃ i : Nat, s.1 = (i : Int) ∧ i ≤ L.length ∧ QI x s.2.1 s.2.2 ∧ (∃ t, s.2.1 = out ++ t) ∧ ∀ b ∈ L.take i, b ∈ s.2.1) (μ := fun s => L.length - s.1.toNat)
    (R := fun r => QI x r.1 r.2 ∧ (∃ t, r.1 = out ++ t) ∧ ∀ b ∈ L, b ∈ r.1) ?_ fuel (0, out, seen) ⟨0, rfl, by omega, hQ, ⟨[], by simp⟩, by simp⟩ (Nat.lt_of_le_of_lt (Nat.le_trans (Nat.sub_le _ _) hl) (by decide))
  rintro ⟨j, o, sn⟩ ⟨i, rfl, h1, h2, h3, h4⟩
  simp only at h2 h3 h4
  by_cases c : i < L.length
  · left
    have w1 : w64 ((i : Int) + 1) = ((i + 1 : Nat) : Int) := by rw [w64_id (by omega) (by omega)]; omega
    have c1 : decide ((i : Int) < len L) = true := by rw [len_nat]; exact decide_eq_true (by omega)
    have c2 : get? L (i : Int) = some L[i] := by rw [get?_nat, List.getElem?_eq_getElem c]
    have htk : L.take (i + 1) = L.take i ++ [L[i]] := by rw [List.take_add_one, List.getElem?_eq_getElem c]; rfl
    obtain ⟨⟨b0, b1⟩, hr⟩ := hL L[i] (List.getElem_mem c)
    generalize L[i] = b at c2 htk b0 b1 hr
    have hlt : b.toNat < sn.length := by rw [h2.len]; omega
    have c3 : get? sn b = some sn[b.toNat] := get?_lt b0 (List.getElem?_eq_getElem hlt)
    cases hv : sn[b.toNat] with
    | true =>
      have hv' : sn[b.toNat]? = some true := by rw [List.getElem?_eq_getElem hlt, hv]
      refine ⟨(((i + 1 : Nat) : Int), o, sn), by simp [iI, c1, c2, c3, hv, w1], ⟨i + 1, rfl, by omega, h2, h3, fun y hy => ?_⟩, by simp; omega⟩
      rw [htk, List.mem_append, List.mem_singleton] at hy
      rcases hy with hy | rfl
      · exact h4 y hy
      · have := h2.all _ hv'
        rwa [Int.toNat_of_nonneg b0] at this
    | false =>
      have hv' : sn[b.toNat]? = some false := by rw [List.getElem?_eq_getElem hlt, hv]
      have htr := tr_set hv'
      have hcn := h2.cnt
      have htl := tr_le sn
      have hln := h2.len
      refine ⟨(((i + 1 : Nat) : Int), o ++ [b], sn.set b.toNat true), by simp [iI, c1, c2, c3, hv, w1, set?_lt b0 hlt, app?_le (show o.length + [b].length ≤ 4294967296 by simp; omega)], ⟨i + 1, rfl, by omega, ⟨by simpa using h2.len, by rw [htr, hcn]; simp, fun a ha => ?_, fun k hk => ?_, by simp [h2.zero]⟩, ?_, fun y hy => ?_⟩, by simp; omega⟩
      · rw [List.mem_append, List.mem_singleton] at ha
        rcases ha with ha | rfl
        · exact h2.mem a ha
        · exact ⟨⟨b0, b1⟩, hr⟩
      · rw [List.getElem?_set] at hk
        split at hk
        · rename_i e; subst e
          rw [Int.toNat_of_nonneg b0]; simp
        · have := h2.all k hk; simp [this]
      · obtain ⟨t, ht⟩ := h3
        exact ⟨t ++ [b], by rw [ht, List.append_assoc]⟩
      · rw [htk, List.mem_append] at hy
        rw [List.mem_append]
        rcases hy with hy | hy
        · exact .inl (h4 y hy)
        · exact .inr hy
  · right
    have c1 : decide ((i : Int) < len L) = false := by rw [len_nat]; exact decide_eq_false (by omega)
    refine ⟨(o, sn), by simp [iI, c1], h2, h3, ?_⟩
    rw [List.take_of_length_le (by omega)] at h4
    exact h4
abbrev iO (p0 : D.Program) (n : Nat) : Int × (List Int) × (List Bool) → Option ((Int × (List Int) × (List Bool)) ⊕ (List Int)) := fun (s1 : Int × (List Int) × (List Bool)) =>
      if (decide (s1.1 < (len s1.2.1))) then
        (get? s1.2.1 s1.1).bind fun x4 =>
        (impl_NextOf n p0 x4).bind fun x5 =>
        (iterN (iI x5) n (0, s1.2.1, s1.2.2)).bind fun (rl2 : (List Int) × (List Bool)) =>
        some (.inl ((w64 (s1.1 + 1)), rl2.1, rl2.2))
      else
        some (.inr (s1.2.1))
theorem iO_ok (h : progB x = true) (hc : x.Code.length ≤ 40) {out : List Int} {seen : List Bool} (hQ : QI x out seen) :
    ∃ r, iterN (iO x fuel) fuel (0, out, seen) = some r ∧ (∀ y, y ∈ r ↔ (0 ≤ y ∧ y ≤ (x.Code.length : Int)) ∧ Rch (nxt x) y) ∧ r.length ≤ 41 := by
  have hlen : ∀ {o : List Int} {sn : List Bool}, QI x o sn → o.length ≤ 41 := fun hq => by
    have h1 := hq.cnt
    have h3 := hq.len
    rw [← h1]
    exact Nat.le_trans (tr_le _) (by omega)
  refine iterN_meas (B := iO x fuel) (I := fun s => ∃ k : Nat, s.1 = (k : Int) ∧ k ≤ s.2.1.length ∧ QI x s.2.1 s.2.2 ∧ ∀ i a, i < k → s.2.1[i]? = some a → ∀ b ∈ nxt x a, b ∈ s.2.1) (μ := fun s => 100 - s.1.toNat)
    (R := fun r => (∀ y, y ∈ r ↔ (0 ≤ y ∧ y ≤ (x.Code.length : Int)) ∧ Rch (nxt x) y) ∧ r.length ≤ 41) ?_ fuel (0, out, seen) ⟨0, rfl, by omega, hQ, fun i a hi => absurd hi (by omega)⟩ (Nat.lt_of_le_of_lt (Nat.sub_le _ _) (by decide))
  rintro ⟨j, o, sn⟩ ⟨k, rfl, h1, h2, h3⟩
  simp only at h1 h2 h3
  have hol := hlen h2
  by_cases c : k < o.length
  · left
    have w1 : w64 ((k : Int) + 1) = ((k + 1 : Nat) : Int) := by rw [w64_id (by omega) (by omega)]; omega
    have c1 : decide ((k : Int) < len o) = true := by rw [len_nat]; exact decide_eq_true (by omega)
    have c2 : get? o (k : Int) = some o[k] := by rw [get?_nat, List.getElem?_eq_getElem c]
    have hk : o[k]? = some o[k] := List.getElem?_eq_getElem c
    obtain ⟨hb, hr⟩ := h2.mem o[k] (List.getElem_mem c)
    generalize o[k] = a at c2 hk hb hr
    obtain ⟨n1, n2, n3, n4⟩ := nxt_eq h hb
    obtain ⟨⟨o', sn'⟩, e1, e2, ⟨t, e3⟩, e4⟩ := iI_ok hc (L := nxt x a) (fun b hb' => ⟨n4 b hb', .s hr hb'⟩) n3 h2
    simp only at e2 e3 e4
    refine ⟨(((k + 1 : Nat) : Int), o', sn'), by simp only [iO, c1, if_true, c2, Option.bind_some, n2, e1, w1], ⟨k + 1, rfl, by rw [e3]; simp; omega, e2, fun i y hi hy b hb' => ?_⟩, by simp; omega⟩
    simp only at hy ⊢
    rw [e3, List.getElem?_append_left (by omega)] at hy
    by_cases e : i = k
    · subst e
      rw [hk] at hy
      obtain rfl := Option.some.inj hy
      exact e4 b hb'
    · rw [e3, List.mem_append]
      exact .inl (h3 i y (by omega) hy b hb')
  · right
    have c1 : decide ((k : Int) < len o) = false := by rw [len_nat]; exact decide_eq_false (by omega)
    refine ⟨o, by simp [iO, c1], fun y => ⟨fun hy => h2.mem y hy, fun ⟨_, hy⟩ => ?_⟩, hol⟩
    refine rch_in (g := nxt x) (C := fun y => y ∈ o) h2.zero (fun a ha b hb => ?_) y hy
    obtain ⟨i, hi⟩ := List.getElem?_of_mem ha
    have := (List.getElem?_eq_some_iff.1 hi).1
    exact h3 i a (by omega) hi b hb
theorem impl_reached (h : progB x = true) : ∃ r, impl_ReachedOf fuel x = some r ∧ RSet x r := by
  obtain ⟨-, hc1, hc⟩ := ins_place' h
  unfold impl_ReachedOf
  rw [impl_prog (by omega), h]
  simp only [Option.bind_some, Bool.not_true, Bool.false_eq_true, if_false]
  rw [wlen hc, mk?_rep (by omega)]
  have hr0 : (List.replicate (x.Code.length + 1) false)[0]? = some false := by simp [List.getElem?_replicate]
  have hs : set? (List.replicate (x.Code.length + 1) false) 0 true = some ((List.replicate (x.Code.length + 1) false).set 0 true) := set?_lt (i := 0) (by omega) (by simp)
  simp only [Option.bind_some, hs]
  have hQ : QI x [0] ((List.replicate (x.Code.length + 1) false).set 0 true) := by
    refine ⟨by simp, by rw [tr_set hr0, tr_rep]; rfl, fun a ha => ?_, fun j hj => ?_, by simp⟩
    · simp at ha; subst ha; exact ⟨⟨by omega, by omega⟩, .z⟩
    · rw [List.getElem?_set] at hj
      split at hj
      · rename_i e; subst e; simp
      · simp [List.getElem?_replicate] at hj
  obtain ⟨r, e1, e2, e3⟩ := iO_ok h hc hQ
  rw [e1]
  obtain ⟨r', g1, g2, g3, g4⟩ := asc_eq (l := r) (n := fuel) (by omega) (lt_fuel (by omega))
  simp only [Option.bind_some, g1]
  exact ⟨r', rfl, g2, fun y => by rw [g3 y, e2 y], by omega⟩
theorem ReachedOf_eq {x : D.Program} (h : x.Code.length ≤ 1048576) : ∃ r, spec_ReachedOf fuel x = some r ∧ impl_ReachedOf fuel x = some r ∧ r.length ≤ 100 ∧ (progB x = true → RSet x r) ∧ (progB x = false → r = []) := by
  cases hp : progB x with
  | false =>
    refine ⟨[], ?_, ?_, by simp, fun h => by (cases h), fun _ => rfl⟩
    · unfold spec_ReachedOf; rw [spec_prog h, hp]; rfl
    · unfold impl_ReachedOf; rw [impl_prog h, hp]; rfl
  | true =>
    obtain ⟨r, h1, h2⟩ := spec_reached hp
    obtain ⟨r', g1, g2⟩ := impl_reached hp
    have : r = r' := strict_ext h2.1 g2.1 fun y => by rw [h2.2.1 y, g2.2.1 y]
    subst this
    exact ⟨r, h1, g1, h2.2.2, fun _ => h2, fun h => by cases h⟩
end
end Go.Proofs.Ytknlknnihinmjaa
