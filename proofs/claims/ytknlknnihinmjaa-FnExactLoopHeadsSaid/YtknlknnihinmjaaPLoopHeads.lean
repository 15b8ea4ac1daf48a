/- The plain law of this claim. No program in sight. -/
import Derived.Test.YtknlknnihinmjaaPReach
namespace Go.Proofs.Ytknlknnihinmjaa
open Go.GL
theorem has_eq {L : List Int} {a : Int} (h : L.length ≤ 2) : spec_l03Has fuel L a = some (decide (a ∈ L)) := by
  unfold spec_l03Has
  obtain ⟨o, h1, h2⟩ := iterN_meas (B := fun (s1 : Int) =>
    if (decide (s1 < (len L))) then
      (get? L s1).bind fun x1 =>
      if (a == x1) then
        some (.inr (.inr true))
      else
        some (.inl ((w64 (s1 + 1))))
    else
      some (.inr (.inl ()))) (I := fun s => ∃ i : Nat, s = (i : Int) ∧ i ≤ L.length ∧ a ∉ L.take i) (μ := fun s => L.length - s.toNat)
    (R := fun (o : Unit ⊕ Bool) => match o with | .inl _ => a ∉ L | .inr b => b = true ∧ a ∈ L) (by
      rintro s ⟨i, rfl, h1, h2⟩
      by_cases c : i < L.length
      · have w1 : w64 ((i : Int) + 1) = ((i + 1 : Nat) : Int) := by rw [w64_id (by omega) (by omega)]; omega
        have c1 : decide ((i : Int) < len L) = true := by rw [len_nat]; exact decide_eq_true (by omega)
        have c2 : get? L (i : Int) = some L[i] := by rw [get?_nat, List.getElem?_eq_getElem c]
        have htk : L.take (i + 1) = L.take i ++ [L[i]] := by rw [List.take_add_one, List.getElem?_eq_getElem c]; rfl
        by_cases e : a = L[i]
        · exact .inr ⟨.inr true, by simp [c1, c2, ← e], rfl, by rw [e]; exact List.getElem_mem c⟩
        · refine .inl ⟨((i + 1 : Nat) : Int), by simp [c1, c2, e, w1], ⟨i + 1, rfl, by omega, ?_⟩, by simp; omega⟩
          rw [htk, List.mem_append, List.mem_singleton]
          exact fun hh => hh.elim h2 e
      · have c1 : decide ((i : Int) < len L) = false := by rw [len_nat]; exact decide_eq_false (by omega)
        refine .inr ⟨.inl (), by simp [c1], ?_⟩
        rw [List.take_of_length_le (by omega)] at h2
        exact h2) fuel 0 ⟨0, rfl, by omega, by simp⟩ (Nat.lt_of_le_of_lt (Nat.le_trans (Nat.sub_le _ _) h) (by decide))
  rw [h1]
  cases o with
  | inl u => simp only [Option.bind_some]; rw [decide_eq_false h2]
  | inr b => simp only [Option.bind_some]; rw [decide_eq_true h2.2, h2.1]
section
variable {x : D.Program} {r : List Int}
/-- a head of a loop -/
def Hd (x : D.Program) (r : List Int) (y : Int) : Prop := ∃ pc ∈ r, y ≤ pc ∧ y ∈ nxt x pc
def Fine (x : D.Program) (r : List Int) : Prop := (∀ f ∈ r, spec_NextOf fuel x f = some (nxt x f) ∧ impl_NextOf fuel x f = some (nxt x f) ∧ (nxt x f).length ≤ 2 ∧ ∀ m ∈ nxt x f, 0 ≤ m ∧ m ≤ (x.Code.length : Int)) ∧ r.length ≤ 100
abbrev hI (p0 : D.Program) (n : Nat) (x1 : List Int) (k : Int) : Bool × Int → Option ((Bool × Int) ⊕ Bool) := fun (s2 : Bool × Int) =>
        if (decide (s2.2 < (len x1))) then
          (get? x1 s2.2).bind fun x2 =>
          if s2.1 then
            some (.inl (true, (w64 (s2.2 + 1))))
          else
            if (decide (x2 ≥ k)) then
              (spec_NextOf n p0 x2).bind fun x3 =>
              (spec_l03Has n x3 k).bind fun x4 =>
              some (.inl (x4, (w64 (s2.2 + 1))))
            else
              some (.inl (false, (w64 (s2.2 + 1))))
        else
          some (.inr (s2.1))
theorem hI_ok (hr : Fine x r) (k : Int) : ∃ b, iterN (hI x fuel r k) fuel (false, 0) = some b ∧ (b = true ↔ Hd x r k) := by
  obtain ⟨h, hl⟩ := hr
  refine iterN_meas (B := hI x fuel r k) (I := fun s => ∃ i : Nat, s.2 = (i : Int) ∧ i ≤ r.length ∧ (s.1 = true ↔ Hd x (r.take i) k)) (μ := fun s => r.length - s.2.toNat) (R := fun b => b = true ↔ Hd x r k) ?_ fuel _ ⟨0, rfl, by omega, by simp [Hd]⟩ (Nat.lt_of_le_of_lt (Nat.le_trans (Nat.sub_le _ _) hl) (by decide))
  rintro ⟨b, s⟩ ⟨i, rfl, h1, h2⟩
  simp only at h2
  by_cases c : i < r.length
  · left
    have w1 : w64 ((i : Int) + 1) = ((i + 1 : Nat) : Int) := by rw [w64_id (by omega) (by omega)]; omega
    have c1 : decide ((i : Int) < len r) = true := by rw [len_nat]; exact decide_eq_true (by omega)
    have c2 : get? r (i : Int) = some r[i] := by rw [get?_nat, List.getElem?_eq_getElem c]
    have htk : r.take (i + 1) = r.take i ++ [r[i]] := by rw [List.take_add_one, List.getElem?_eq_getElem c]; rfl
    obtain ⟨n1, n2, n3, n4⟩ := h r[i] (List.getElem_mem c)
    generalize r[i] = pc at c2 htk n1 n2 n3 n4
    have hH : Hd x (r.take (i + 1)) k ↔ Hd x (r.take i) k ∨ (k ≤ pc ∧ k ∈ nxt x pc) := by
      rw [htk]
      unfold Hd
      constructor
      · rintro ⟨p, hp, q⟩
        rw [List.mem_append, List.mem_singleton] at hp
        rcases hp with hp | rfl
        · exact .inl ⟨p, hp, q⟩
        · exact .inr q
      · rintro (⟨p, hp, q⟩ | q)
        · exact ⟨p, by simp [hp], q⟩
        · exact ⟨pc, by simp, q⟩
    cases b with
    | true =>
      refine ⟨(true, ((i + 1 : Nat) : Int)), by simp only [hI, c1, c2, Option.bind_some, if_true, w1], ⟨i + 1, rfl, by omega, ?_⟩, by simp; omega⟩
      simp only [hH, true_iff] at h2 ⊢
      exact .inl h2
    | false =>
      by_cases e : k ≤ pc
      · have e' : decide (pc ≥ k) = true := decide_eq_true e
        refine ⟨(decide (k ∈ nxt x pc), ((i + 1 : Nat) : Int)), by simp only [hI, c1, c2, Option.bind_some, if_true, if_false, Bool.false_eq_true, e', n1, has_eq n3, w1], ⟨i + 1, rfl, by omega, ?_⟩, by simp; omega⟩
        simp only [hH, decide_eq_true_eq]
        simp only [Bool.false_eq_true, false_iff] at h2
        exact ⟨fun q => .inr ⟨e, q⟩, fun q => q.elim (fun q => absurd q h2) fun q => q.2⟩
      · have e' : decide (pc ≥ k) = false := decide_eq_false e
        refine ⟨(false, ((i + 1 : Nat) : Int)), by simp only [hI, c1, c2, Option.bind_some, if_true, if_false, Bool.false_eq_true, e', w1], ⟨i + 1, rfl, by omega, ?_⟩, by simp; omega⟩
        simp only [hH, Bool.false_eq_true, false_iff] at h2 ⊢
        exact fun q => q.elim h2 fun q => e q.1
  · right
    have c1 : decide ((i : Int) < len r) = false := by rw [len_nat]; exact decide_eq_false (by omega)
    rw [List.take_of_length_le (by omega)] at h2
    exact ⟨b, by simp only [hI, c1, if_false, Bool.false_eq_true], h2⟩
abbrev hO (p0 : D.Program) (n : Nat) (x1 : List Int) : Int × (List Int) → Option ((Int × (List Int)) ⊕ (List Int)) := fun (s1 : Int × (List Int)) =>
    if (decide (s1.1 ≤ (len p0.Code))) then
      (iterN (hI p0 n x1 s1.1) n (false, 0)).bind fun (rl2 : Bool) =>
      if rl2 then
        (app? s1.2 ([s1.1] : List Int)).bind fun x5 =>
        some (.inl ((w64 (s1.1 + 1)), x5))
      else
        some (.inl ((w64 (s1.1 + 1)), s1.2))
    else
      some (.inr (s1.2))
theorem hO_ok (hx : x.Code.length ≤ 1048576) (hr : Fine x r) : ∃ o, iterN (hO x fuel r) fuel (0, []) = some o ∧ o.Pairwise (· < ·) ∧ ∀ y, y ∈ o ↔ Hd x r y := by
  refine iterN_meas (B := hO x fuel r) (I := fun s => ∃ i : Nat, s.1 = (i : Int) ∧ i ≤ x.Code.length + 1 ∧ s.2.Pairwise (· < ·) ∧ (∀ y, y ∈ s.2 ↔ (0 ≤ y ∧ y < (i : Int)) ∧ Hd x r y) ∧ s.2.length ≤ i) (μ := fun s => x.Code.length + 1 - s.1.toNat)
    (R := fun o => o.Pairwise (· < ·) ∧ ∀ y, y ∈ o ↔ Hd x r y) ?_ fuel _ ⟨0, rfl, by omega, List.Pairwise.nil, by simp; omega, by simp⟩ (Nat.lt_of_le_of_lt (Nat.sub_le _ _) (Nat.lt_of_succ_lt (lt_fuel2 hx)))
  rintro ⟨j, o⟩ ⟨i, rfl, h1, h2, h3, h4⟩
  simp only at h2 h3 h4
  by_cases c : i ≤ x.Code.length
  · left
    have w1 : w64 ((i : Int) + 1) = ((i + 1 : Nat) : Int) := by rw [w64_id (by omega) (by omega)]; omega
    have c1 : decide ((i : Int) ≤ len x.Code) = true := by rw [len_nat]; exact decide_eq_true (by omega)
    obtain ⟨b, e1, e2⟩ := hI_ok hr (i : Int)
    cases b with
    | true =>
      have hH := e2.1 rfl
      refine ⟨(((i + 1 : Nat) : Int), o ++ [(i : Int)]), by simp only [hO, c1, e1, Option.bind_some, if_true, app?_le (show o.length + [(i : Int)].length ≤ 4294967296 by simp; omega), w1], ⟨i + 1, rfl, by omega, ?_, fun y => ?_, by simp; omega⟩, by simp; omega⟩
      · rw [List.pairwise_append]
        exact ⟨h2, by simp, fun a ha b hb => by simp at hb; subst hb; exact ((h3 a).1 ha).1.2⟩
      · simp only [List.mem_append, h3 y, List.mem_singleton]
        constructor
        · rintro (⟨⟨q1, q2⟩, q3⟩ | rfl)
          · exact ⟨⟨q1, by omega⟩, q3⟩
          · exact ⟨⟨by omega, by omega⟩, hH⟩
        · rintro ⟨⟨q1, q2⟩, q3⟩
          by_cases e : y = (i : Int)
          · exact .inr e
          · exact .inl ⟨⟨q1, by omega⟩, q3⟩
    | false =>
      have hH : ¬ Hd x r (i : Int) := fun q => by have := e2.2 q; cases this
      refine ⟨(((i + 1 : Nat) : Int), o), by simp only [hO, c1, e1, Option.bind_some, if_true, if_false, Bool.false_eq_true, w1], ⟨i + 1, rfl, by omega, h2, fun y => ?_, by simp; omega⟩, by simp; omega⟩
      simp only [h3 y]
      constructor
      · rintro ⟨⟨q1, q2⟩, q3⟩
        exact ⟨⟨q1, by omega⟩, q3⟩
      · rintro ⟨⟨q1, q2⟩, q3⟩
        refine ⟨⟨q1, ?_⟩, q3⟩
        by_cases e : y = (i : Int)
        · subst e; exact absurd q3 hH
        · omega
  · right
    have c1 : decide ((i : Int) ≤ len x.Code) = false := by rw [len_nat]; exact decide_eq_false (by omega)
    refine ⟨o, by simp only [hO, c1, if_false, Bool.false_eq_true], h2, fun y => ?_⟩
    rw [h3 y]
    constructor
    · exact fun q => q.2
    · rintro ⟨pc, hp, q1, q2⟩
      have := (hr.1 pc hp).2.2.2 y q2
      exact ⟨⟨this.1, by omega⟩, pc, hp, q1, q2⟩
abbrev jI (x2 : Int) (x3 : List Int) : Int × (List Int) → Option ((Int × (List Int)) ⊕ (List Int)) := fun (s2 : Int × (List Int)) =>
        if (decide (s2.1 < (len x3))) then
          (get? x3 s2.1).bind fun x4 =>
          if (decide (x4 ≤ x2)) then
            (app? s2.2 ([x4] : List Int)).bind fun x5 =>
            some (.inl ((w64 (s2.1 + 1)), x5))
          else
            some (.inl ((w64 (s2.1 + 1)), s2.2))
        else
          some (.inr (s2.2))
theorem jI_ok {pc : Int} {L out : List Int} (hL : L.length ≤ 2) (ho : out.length ≤ 1000) : ∃ o, iterN (jI pc L) fuel (0, out) = some o ∧ o.length ≤ out.length + 2 ∧ ∀ y, y ∈ o ↔ y ∈ out ∨ (y ≤ pc ∧ y ∈ L) := by
  have key := iterN_meas (B := jI pc L) (I := fun s => ∃ i : Nat, s.1 = (i : Int) ∧ i ≤ L.length ∧ s.2.length ≤ out.length + i ∧ ∀ y, y ∈ s.2 ↔ y ∈ out ∨ (y ≤ pc ∧ y ∈ L.take i)) (μ := fun s => L.length - s.1.toNat)
    (R := fun o => o.length ≤ out.length + 2 ∧ ∀ y, y ∈ o ↔ y ∈ out ∨ (y ≤ pc ∧ y ∈ L)) ?_ fuel (0, out) ⟨0, rfl, by omega, by simp, by simp⟩ (Nat.lt_of_le_of_lt (Nat.le_trans (Nat.sub_le _ _) hL) (by decide))
  · exact key
  rintro ⟨j, o⟩ ⟨i, rfl, h1, h2, h3⟩
  simp only at h2 h3
  by_cases c : i < L.length
  · left
    have w1 : w64 ((i : Int) + 1) = ((i + 1 : Nat) : Int) := by rw [w64_id (by omega) (by omega)]; omega
    have c1 : decide ((i : Int) < len L) = true := by rw [len_nat]; exact decide_eq_true (by omega)
    have c2 : get? L (i : Int) = some L[i] := by rw [get?_nat, List.getElem?_eq_getElem c]
    have htk : L.take (i + 1) = L.take i ++ [L[i]] := by rw [List.take_add_one, List.getElem?_eq_getElem c]; rfl
    generalize L[i] = b at c2 htk
    by_cases e : b ≤ pc
    · refine ⟨(((i + 1 : Nat) : Int), o ++ [b]), by simp only [jI, c1, c2, Option.bind_some, if_true, decide_eq_true e, app?_le (show o.length + [b].length ≤ 4294967296 by simp; omega), w1], ⟨i + 1, rfl, by omega, by simp; omega, fun y => ?_⟩, by simp; omega⟩
      simp only [htk, List.mem_append, List.mem_singleton, h3 y]
      constructor
      · rintro ((q | q) | rfl)
        · exact .inl q
        · exact .inr ⟨q.1, .inl q.2⟩
        · exact .inr ⟨e, .inr rfl⟩
      · rintro (q | ⟨q, q' | rfl⟩)
        · exact .inl (.inl q)
        · exact .inl (.inr ⟨q, q'⟩)
        · exact .inr rfl
    · refine ⟨(((i + 1 : Nat) : Int), o), by simp only [jI, c1, c2, Option.bind_some, if_true, if_false, Bool.false_eq_true, decide_eq_false e, w1], ⟨i + 1, rfl, by omega, by simp; omega, fun y => ?_⟩, by simp; omega⟩
      simp only [htk, List.mem_append, List.mem_singleton, h3 y]
      constructor
      · rintro (q | q)
        · exact .inl q
        · exact .inr ⟨q.1, .inl q.2⟩
      · rintro (q | ⟨q, q' | rfl⟩)
        · exact .inl q
        · exact .inr ⟨q, q'⟩
        · exact absurd q e
  · right
    have c1 : decide ((i : Int) < len L) = false := by rw [len_nat]; exact decide_eq_false (by omega)
    rw [List.take_of_length_le (by omega)] at h3
    exact ⟨o, by simp only [jI, c1, if_false, Bool.false_eq_true], by omega, h3⟩
abbrev jO (p0 : D.Program) (n : Nat) (x1 : List Int) : Int × (List Int) → Option ((Int × (List Int)) ⊕ (List Int)) := fun (s1 : Int × (List Int)) =>
    if (decide (s1.1 < (len x1))) then
      (get? x1 s1.1).bind fun x2 =>
      (impl_NextOf n p0 x2).bind fun x3 =>
      (iterN (jI x2 x3) n (0, s1.2)).bind fun (rl2 : (List Int)) =>
      some (.inl ((w64 (s1.1 + 1)), rl2))
    else
      some (.inr (s1.2))
theorem jO_ok (hr : Fine x r) : ∃ o, iterN (jO x fuel r) fuel (0, []) = some o ∧ o.length ≤ 1000 ∧ ∀ y, y ∈ o ↔ Hd x r y := by
  obtain ⟨h, hl⟩ := hr
  refine iterN_meas (B := jO x fuel r) (I := fun s => ∃ i : Nat, s.1 = (i : Int) ∧ i ≤ r.length ∧ s.2.length ≤ 2 * i ∧ ∀ y, y ∈ s.2 ↔ Hd x (r.take i) y) (μ := fun s => r.length - s.1.toNat) (R := fun o => o.length ≤ 1000 ∧ ∀ y, y ∈ o ↔ Hd x r y) ?_ fuel _ ⟨0, rfl, by omega, by simp, by simp [Hd]⟩ (Nat.lt_of_le_of_lt (Nat.le_trans (Nat.sub_le _ _) hl) (by decide))
  rintro ⟨j, o⟩ ⟨i, rfl, h1, h2, h3⟩
  simp only at h2 h3
  by_cases c : i < r.length
  · left
    have w1 : w64 ((i : Int) + 1) = ((i + 1 : Nat) : Int) := by rw [w64_id (by omega) (by omega)]; omega
    have c1 : decide ((i : Int) < len r) = true := by rw [len_nat]; exact decide_eq_true (by omega)
    have c2 : get? r (i : Int) = some r[i] := by rw [get?_nat, List.getElem?_eq_getElem c]
    have htk : r.take (i + 1) = r.take i ++ [r[i]] := by rw [List.take_add_one, List.getElem?_eq_getElem c]; rfl
    obtain ⟨n1, n2, n3, n4⟩ := h r[i] (List.getElem_mem c)
    generalize r[i] = pc at c2 htk n1 n2 n3 n4
    obtain ⟨o', e1, e2, e3⟩ := jI_ok (pc := pc) (L := nxt x pc) (out := o) n3 (by omega)
    refine ⟨(((i + 1 : Nat) : Int), o'), by simp only [jO, c1, c2, Option.bind_some, if_true, n2, e1, w1], ⟨i + 1, rfl, by omega, by simp only; omega, fun y => ?_⟩, by simp; omega⟩
    simp only [e3 y, h3 y, htk]
    unfold Hd
    constructor
    · rintro (⟨p, hp, q⟩ | q)
      · exact ⟨p, by simp [hp], q⟩
      · exact ⟨pc, by simp, q⟩
    · rintro ⟨p, hp, q⟩
      rw [List.mem_append, List.mem_singleton] at hp
      rcases hp with hp | rfl
      · exact .inl ⟨p, hp, q⟩
      · exact .inr q
  · right
    have c1 : decide ((i : Int) < len r) = false := by rw [len_nat]; exact decide_eq_false (by omega)
    rw [List.take_of_length_le (by omega)] at h3
    exact ⟨o, by simp only [jO, c1, if_false, Bool.false_eq_true], by omega, h3⟩
end
theorem LoopHeads_eq {x : D.Program} (h : x.Code.length ≤ 1048576) : ∃ r, spec_LoopHeads fuel x = some r ∧ impl_LoopHeads fuel x = some r ∧ r.length ≤ 1048576 := by
  obtain ⟨r, h1, h2, h3, h4, h5⟩ := ReachedOf_eq h
  have hr : Fine x r := by
    refine ⟨fun f hf => ?_, h3⟩
    cases hp : progB x with
    | true =>
      have hb := ((h4 hp).2.1 f).1 hf
      exact nxt_eq hp hb.1
    | false => rw [h5 hp] at hf; simp at hf
  unfold spec_LoopHeads impl_LoopHeads
  rw [h1, h2]
  obtain ⟨o, e1, e2, e3⟩ := hO_ok h hr
  obtain ⟨o', g1, g2, g3⟩ := jO_ok hr
  obtain ⟨q, k1, k2, k3, k4⟩ := asc_eq (l := o') (n := fuel) (by omega) (lt_fuel (by omega))
  simp only [Option.bind_some]
  rw [e1, g1]
  simp only [Option.bind_some, k1]
  have : o = q := strict_ext e2 k2 fun y => by rw [e3 y, k3 y, g3 y]
  subst this
  exact ⟨o, rfl, rfl, by omega⟩
theorem fin_FnExactLoopHeads (x : D.Program) (hx : fit_Program x) : ∃ n, laws_FnExactLoopHeads n x = some true := by
  refine ⟨fuel, ?_⟩
  unfold laws_FnExactLoopHeads
  obtain ⟨r1, h1, c1⟩ := szProgram_eq (m := 1048576) hx (by omega) (by omega)
  rw [h1]
  simp only [Option.bind_some]
  rcases c1 with c1 | ⟨c1, c1', s1⟩
  · rw [if_pos (by simpa using c1)]
  rw [if_neg (by simp; omega)]
  obtain ⟨s', t1, t2, t3⟩ := LoopHeads_eq s1
  obtain ⟨k1, q1, m1, b1, b1'⟩ := markProgram_ok (x := x) (k := 1) (by omega) (by omega) s1
  have t3 : s'.length ≤ 1048576 := by omega
  have m4 := markIntS_eq (p := s') (k := 1) (by omega) (by omega) t3
  have m5 := heldIntS_eq (L := s'.length) (k := 1) (by omega) (by omega) t3
  simp only [toProgram_eq s1, Option.bind_some, t1, t2, eqProgram_refl s1, eqIntS_eq t3, m1, m4, m5]
  have e1 : ¬ k1 < 0 := by omega
  have e2 : ¬ (1 : Int) + (s'.length : Int) < 0 := by omega
  simp [e1, e2]
end Go.Proofs.Ytknlknnihinmjaa
