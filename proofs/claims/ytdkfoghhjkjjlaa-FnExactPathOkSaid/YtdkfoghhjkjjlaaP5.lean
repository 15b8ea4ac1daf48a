/- The plain laws of this claim: the variables of a term, as the specification gathers them. No program in sight. -/
import Derived.Test.YtdkfoghhjkjjlaaP4
import Derived.Lib.Strings
namespace Go.Proofs.Ytdkfoghhjkjjlaa
open Go.GL
set_option linter.unusedSimpArgs false
theorem bl_irr : ∀ x : List UInt8, Op.bytesLess x x = false
  | [] => rfl
  | a :: x => by simp [Op.bytesLess, bl_irr x]
theorem bl_trans : ∀ x y z : List UInt8, Op.bytesLess x y = true → Op.bytesLess y z = true → Op.bytesLess x z = true
  | _, _, [] => by intro _ h; cases ‹List UInt8› <;> simp [Op.bytesLess] at h
  | _, [], _ :: _ => by intro h _; cases ‹List UInt8› <;> simp [Op.bytesLess] at h
  | [], _ :: _, _ :: _ => by intro _ _; rfl
  | a :: x, b :: y, c :: z => by
    intro h1 h2
    simp only [Op.bytesLess, Bool.or_eq_true, decide_eq_true_eq, Bool.and_eq_true, beq_iff_eq] at h1 h2 ⊢
    rcases h1 with h1 | ⟨rfl, h1⟩
    · rcases h2 with h2 | ⟨rfl, h2⟩
      · exact .inl (UInt8.lt_trans h1 h2)
      · exact .inl h1
    · rcases h2 with h2 | ⟨rfl, h2⟩
      · exact .inl h2
      · exact .inr ⟨rfl, bl_trans x y z h1 h2⟩
theorem bl_tot : ∀ x y : List UInt8, Op.bytesLess x y = false → x ≠ y → Op.bytesLess y x = true
  | [], [] => fun _ h => absurd rfl h
  | _ :: _, [] => fun _ _ => rfl
  | [], _ :: _ => fun h _ => by simp [Op.bytesLess] at h
  | a :: x, b :: y => by
    intro h1 h2
    simp only [Op.bytesLess, Bool.or_eq_false_iff, decide_eq_false_iff_not, Bool.or_eq_true, decide_eq_true_eq, Bool.and_eq_true, beq_iff_eq] at h1 ⊢
    by_cases e : a = b
    · subst e
      have : Op.bytesLess x y = false := by simpa using h1.2
      exact .inr ⟨rfl, bl_tot x y this (fun h => h2 (by rw [h]))⟩
    · rcases UInt8.lt_or_lt_of_ne e with h | h
      · exact absurd h h1.1
      · exact .inl h
theorem toList_mk (l : List UInt8) : (ByteArray.mk l.toArray).toList = l := by
  exact (Lib.toList_data _)
theorem ltb_eq (a b : Str) : Str.ltb a b = Op.bytesLess a.bytes b.bytes := by unfold Str.ltb; rw [toList_mk, toList_mk]
theorem eqb_dec (a b : Str) : Str.eqb a b = decide (a = b) := by
  unfold Str.eqb
  rw [toList_mk, toList_mk]
  by_cases h : a = b
  · subst h; simp
  · have : a.bytes ≠ b.bytes := fun e => h (by cases a; cases b; simpa using e)
    simp [h, this]
theorem lt_irr (a : Str) : Str.ltb a a = false := by rw [ltb_eq]; exact bl_irr _
theorem lt_trans {a b c : Str} (h1 : Str.ltb a b = true) (h2 : Str.ltb b c = true) : Str.ltb a c = true := by rw [ltb_eq] at *; exact bl_trans _ _ _ h1 h2
theorem lt_tot {a b : Str} (h1 : Str.ltb a b = false) (h2 : a ≠ b) : Str.ltb b a = true := by
  rw [ltb_eq] at *
  exact bl_tot _ _ h1 fun e => h2 (by cases a; cases b; simpa using e)

/-! the variables, in order, and a table of widths -/
mutual
def vrs : D.Term → List (Str × Int)
  | ⟨o, w, _, s, k⟩ => if o = 22 then [(s, w)] else vrss k
def vrss : List D.Term → List (Str × Int)
  | [] => []
  | x :: l => vrs x ++ vrss l
end
theorem vrs_eq (t : D.Term) : vrs t = if t.Op = 22 then [(t.Name, t.W)] else vrss t.Kids := by cases t; rw [vrs]
theorem vrss_cons (x : D.Term) (l : List D.Term) : vrss (x :: l) = vrs x ++ vrss l := by rw [vrss]
theorem vrss_nil : vrss [] = [] := by rw [vrss]
def stp (g : List (Str × Int)) (v : Str × Int) : Option (List (Str × Int)) :=
  match g.lookup v.1 with
  | some w => if w = v.2 then some g else none
  | none => some (v :: g)
def runV (g : List (Str × Int)) : List (Str × Int) → Option (List (Str × Int))
  | [] => some g
  | v :: l => (stp g v).bind fun g' => runV g' l
theorem runV_app (l m : List (Str × Int)) : ∀ g, runV g (l ++ m) = (runV g l).bind fun g' => runV g' m := by
  induction l with
  | nil => intro g; rfl
  | cons v l ih =>
    intro g
    simp only [List.cons_append, runV]
    cases stp g v with
    | none => rfl
    | some g' => simp only [Option.bind_some]; exact ih g'
theorem stp_len {g g' : List (Str × Int)} {v : Str × Int} (h : stp g v = some g') : g'.length ≤ g.length + 1 := by
  unfold stp at h
  split at h
  · split at h
    · cases h; omega
    · cases h
  · cases h; simp
theorem runV_len : ∀ {l g g' : List (Str × Int)}, runV g l = some g' → g'.length ≤ g.length + l.length
  | [], g, g', h => by simp only [runV, Option.some.injEq] at h; subst h; simp
  | v :: l, g, g', h => by
    simp only [runV, Option.bind_eq_some_iff] at h
    obtain ⟨g1, h1, h2⟩ := h
    have := stp_len h1
    have := runV_len h2
    simp only [List.length_cons]; omega

/-! the specification's sorted list -/
/-- sorted by name, and the same table -/
def Rel (l : List D.Value) (g : List (Str × Int)) : Prop :=
  l.Pairwise (fun a b => Str.ltb a.Name b.Name = true) ∧ l.length = g.length ∧ (∀ v ∈ l, g.lookup v.Name = some v.W) ∧ ∀ s w, g.lookup s = some w → ∃ v ∈ l, v.Name = s
def before (s : Str) (l : List D.Value) : Nat := (l.takeWhile fun v => Str.ltb v.Name s).length
theorem before_le (s : Str) (l : List D.Value) : before s l ≤ l.length := (List.takeWhile_sublist _).length_le
theorem before_lt {s : Str} : ∀ {l : List D.Value} {i : Nat} {v : D.Value}, i < before s l → l[i]? = some v → Str.ltb v.Name s = true
  | [], i, v, h, hv => by simp at hv
  | x :: l, i, v, h, hv => by
    unfold before at h
    rw [List.takeWhile_cons] at h
    split at h
    · cases i with
      | zero => simp at hv; subst hv; assumption
      | succ i => exact before_lt (l := l) (i := i) (by unfold before; simpa using h) (by simpa using hv)
    · simp at h
theorem before_at {s : Str} : ∀ {l : List D.Value} {v : D.Value}, l[before s l]? = some v → Str.ltb v.Name s = false
  | [], v, hv => by simp at hv
  | x :: l, v, hv => by
    unfold before at hv
    rw [List.takeWhile_cons] at hv
    by_cases h : Str.ltb x.Name s = true
    · rw [if_pos h] at hv
      exact before_at (l := l) (by unfold before; simpa using hv)
    · rw [if_neg h] at hv
      simp at hv; subst hv
      simpa using h
theorem var_loop {l : List D.Value} {s : Str} {n : Nat} (hl : l.length ≤ 1048576) (hn : l.length < n) : iterN (fun (s1 : Int) =>
      (if (decide (s1 < (len l))) then (get? l s1) else some default).bind fun x1 =>
      if ((decide (s1 < (len l))) && (Str.ltb x1.Name s)) then
        some (.inl ((w64 (s1 + 1))))
      else
        some (.inr (s1))
    ) n (0) = some (before s l : Int) := by
  obtain ⟨r, g1, g2⟩ := iter_all (l := l) (n := n) (σ := Unit) (ρ := Int) (B := fun (s1 : Int) =>
      (if (decide (s1 < (len l))) then (get? l s1) else some default).bind fun x1 =>
      if ((decide (s1 < (len l))) && (Str.ltb x1.Name s)) then
        some (.inl ((w64 (s1 + 1))))
      else
        some (.inr (s1))) (fun k _ => (k : Int)) (fun ys _ => l.length ≤ before s l + ys.length) (fun r => r = (before s l : Int))
    (fun k x xs a hk' hx hlen hi => by
      simp only [List.length_cons] at hlen hi
      have hd : decide ((k : Int) < len l) = true := by rw [len_nat]; simp; omega
      rw [if_pos hd, get?_nat, hx]
      simp only [Option.bind_some, hd, Bool.true_and]
      by_cases c : Str.ltb x.Name s = true
      · refine .inl ⟨(), by rw [if_pos c, w64_id (by omega) (by omega)]; rfl, ?_⟩
        have : k ≠ before s l := fun e => by
          rw [e] at hx
          rw [before_at hx] at c; cases c
        omega
      · refine .inr ⟨(k : Int), by rw [if_neg c], ?_⟩
        have : ¬ k < before s l := fun h => c (before_lt h hx)
        omega)
    (fun a hi => by
      have hd : decide ((l.length : Int) < len l) = false := by rw [len_nat]; simp
      simp only [hd, Bool.false_eq_true, if_false, Option.bind_some, Bool.false_and]
      have := before_le s l
      exact ⟨_, rfl, by simp at hi; omega⟩) (a := ()) (by omega) hn
  rw [show ((0 : Nat) : Int) = 0 from rfl] at g1
  rw [g1, g2]
theorem Rel.none {l : List D.Value} {g : List (Str × Int)} {s : Str} (h : Rel l g) (hn : ∀ v, l[before s l]? = some v → v.Name ≠ s) : g.lookup s = none := by
  cases e : g.lookup s with
  | none => rfl
  | some w =>
    exfalso
    obtain ⟨v, hv, rfl⟩ := h.2.2.2 s w e
    obtain ⟨j, hj⟩ := List.mem_iff_getElem?.1 hv
    rcases Nat.lt_trichotomy j (before v.Name l) with h1 | h1 | h1
    · have := before_lt h1 hj
      rw [lt_irr] at this; cases this
    · rw [h1] at hj; exact hn v hj rfl
    · obtain ⟨hj', e2⟩ := List.getElem?_eq_some_iff.1 hj
      have hu : l[before v.Name l]? = some l[before v.Name l] := List.getElem?_eq_getElem (by omega)
      have h2 := before_at hu
      have h3 := List.pairwise_iff_getElem.1 h.1 _ _ (by omega) hj' h1
      rw [e2] at h3
      rw [h2] at h3; cases h3
theorem Rel.put {l : List D.Value} {g : List (Str × Int)} {s : Str} {w : Int} (h : Rel l g) (hn : ∀ v, l[before s l]? = some v → v.Name ≠ s) : Rel (l.take (before s l) ++ [⟨s, w, 0⟩] ++ l.drop (before s l)) ((s, w) :: g) := by
  have hno := h.none hn
  have hb := before_le s l
  have hlt : ∀ v ∈ l.take (before s l), Str.ltb v.Name s = true := fun v hv => by
    obtain ⟨j, hj⟩ := List.mem_iff_getElem?.1 hv
    rw [List.getElem?_take] at hj
    split at hj
    · exact before_lt (by assumption) hj
    · cases hj
  have hgt : ∀ v ∈ l.drop (before s l), Str.ltb s v.Name = true := fun v hv => by
    obtain ⟨j, hj⟩ := List.mem_iff_getElem?.1 hv
    rw [List.getElem?_drop] at hj
    obtain ⟨hj', e2⟩ := List.getElem?_eq_some_iff.1 hj
    have hu : l[before s l]? = some l[before s l] := List.getElem?_eq_getElem (by omega)
    have h1 := lt_tot (before_at hu) (hn _ hu)
    rcases Nat.eq_zero_or_pos j with rfl | hp
    · simp only [Nat.add_zero] at e2; rw [← e2]; exact h1
    · have h3 := List.pairwise_iff_getElem.1 h.1 _ _ (by omega) hj' (show before s l < before s l + j by omega)
      rw [e2] at h3
      exact lt_trans h1 h3
  have hmem : ∀ v, v ∈ l.take (before s l) ++ [⟨s, w, 0⟩] ++ l.drop (before s l) ↔ v = ⟨s, w, 0⟩ ∨ v ∈ l := fun v => by
    have : v ∈ l ↔ v ∈ l.take (before s l) ∨ v ∈ l.drop (before s l) := by
      rw [← List.mem_append, List.take_append_drop]
    simp only [List.mem_append, List.mem_singleton, this]
    grind
  have hp : (l.take (before s l) ++ l.drop (before s l)).Pairwise (fun a b => Str.ltb a.Name b.Name = true) := by rw [List.take_append_drop]; exact h.1
  rw [List.pairwise_append] at hp
  refine ⟨?_, ?_, fun v hv => ?_, fun s' w' hs => ?_⟩
  · rw [List.append_assoc, List.pairwise_append]
    refine ⟨hp.1, ?_, fun a ha b hb => ?_⟩
    · rw [List.singleton_append, List.pairwise_cons]
      exact ⟨fun b hb => hgt b hb, hp.2.1⟩
    · rw [List.singleton_append] at hb
      rcases List.mem_cons.1 hb with rfl | hb
      · exact hlt a ha
      · exact hp.2.2 a ha b hb
  · have := h.2.1
    simp; omega
  · rcases (hmem v).1 hv with rfl | hv
    · simp
    · have h1 := h.2.2.1 v hv
      have : v.Name ≠ s := fun e => by rw [e, hno] at h1; cases h1
      rw [List.lookup_cons]
      have : (v.Name == s) = false := by simpa using this
      rw [this]; exact h1
  · rw [List.lookup_cons] at hs
    by_cases e : s' = s
    · exact ⟨_, (hmem _).2 (.inl rfl), e.symm⟩
    · have : (s' == s) = false := by simpa using e
      rw [this] at hs
      obtain ⟨v, h1, h2⟩ := h.2.2.2 s' w' hs
      exact ⟨v, (hmem _).2 (.inr h1), h2⟩

theorem vrs_len : ∀ n : Nat, (∀ t : D.Term, msz t < n → (vrs t).length ≤ cnt t) ∧ ∀ l : List D.Term, l.length + mszs l < n → (vrss l).length ≤ cnts l := by
  intro n
  induction n with
  | zero => exact ⟨fun _ h => by omega, fun _ h => by omega⟩
  | succ n ih =>
    have hT : ∀ t : D.Term, msz t < n + 1 → (∀ l : List D.Term, l.length + mszs l < n + 1 → (vrss l).length ≤ cnts l) → (vrs t).length ≤ cnt t := fun t h hl => by
      have := msz_eq t
      rw [vrs_eq, cnt_eq]
      split
      · simp
      · have := hl t.Kids (by omega); omega
    have hL : ∀ l : List D.Term, l.length + mszs l < n + 1 → (vrss l).length ≤ cnts l := fun l h => by
      cases l with
      | nil => rw [vrss_nil, cnts_nil]; simp
      | cons x l =>
        rw [mszs_cons] at h
        simp only [List.length_cons] at h
        rw [vrss_cons, cnts_cons, List.length_append]
        have h1 := ih.1 x (by omega)
        have h2 := ih.2 l (by omega)
        omega
    exact ⟨fun t h => hT t h hL, hL⟩
theorem vrs_le (t : D.Term) : (vrs t).length ≤ cnt t := (vrs_len (msz t + 1)).1 t (by omega)
theorem spec_vars : ∀ (n : Nat) (t : D.Term) (l : List D.Value) (g : List (Str × Int)), msz t ≤ 1048576 → Rel l g → g.length + (vrs t).length ≤ 1000 → 1048580 + cnt t ≤ n →
    ∃ l' b, spec_l02Vars n t l = some (l', b) ∧ (b = true → ∃ g', runV g (vrs t) = some g' ∧ Rel l' g') ∧ (b = false → runV g (vrs t) = none) := by
  intro n
  induction n with
  | zero => intro t l g _ _ _ _; omega
  | succ n ih =>
    intro t l g hs hr hg hn
    have hz := msz_eq t
    have hc := cnt_eq t
    have hlen := hr.2.1
    unfold spec_l02Vars
    by_cases ho : t.Op = 22
    · rw [if_pos (by simpa using ho), var_loop (by omega) (by omega)]
      simp only [Option.bind_some]
      have hb := before_le t.Name l
      have hv : vrs t = [(t.Name, t.W)] := by rw [vrs_eq, if_pos ho]
      rw [hv]
      have hrun : runV g [(t.Name, t.W)] = stp g (t.Name, t.W) := by
        simp only [runV]; cases stp g (t.Name, t.W) <;> rfl
      rw [hrun]
      by_cases hf : ∃ v, l[before t.Name l]? = some v ∧ v.Name = t.Name
      · obtain ⟨v, hv1, hv2⟩ := hf
        obtain ⟨hlt, -⟩ := List.getElem?_eq_some_iff.1 hv1
        have hd : decide ((before t.Name l : Int) < len l) = true := by rw [len_nat]; simp; omega
        have hk : g.lookup t.Name = some v.W := by rw [← hv2]; exact hr.2.2.1 v (List.mem_of_getElem? hv1)
        simp only [hd, if_true, get?_nat, hv1, Option.bind_some, Bool.true_and, eqb_dec, hv2, decide_true]
        refine ⟨_, _, rfl, fun h => ⟨g, ?_, hr⟩, fun h => ?_⟩
        · unfold stp; rw [hk]; simp only; rw [if_pos (by simpa using h)]
        · unfold stp; rw [hk]; simp only; rw [if_neg (by simpa using h)]
      · have hne : ∀ v, l[before t.Name l]? = some v → v.Name ≠ t.Name := fun v h e => hf ⟨v, h, e⟩
        have hno := hr.none hne
        have hx : ∃ x2, (if (decide ((before t.Name l : Int) < (len l))) = true then (get? l (before t.Name l : Int)) else some default) = some x2 ∧ (decide ((before t.Name l : Int) < (len l)) && Str.eqb x2.Name t.Name) = false := by
          by_cases hlt : before t.Name l < l.length
          · have hd : decide ((before t.Name l : Int) < len l) = true := by rw [len_nat]; simp; omega
            refine ⟨l[before t.Name l], ?_, ?_⟩
            · rw [if_pos hd, get?_nat, List.getElem?_eq_getElem hlt]
            · rw [eqb_dec, decide_eq_false (hne _ (List.getElem?_eq_getElem hlt))]; simp
          · have hd : decide ((before t.Name l : Int) < len l) = false := by rw [len_nat]; simp; omega
            exact ⟨default, by rw [hd]; rfl, by rw [hd]; rfl⟩
        obtain ⟨x2, hx1, hx2⟩ := hx
        rw [hx1]
        simp only [Option.bind_some, hx2, Bool.false_eq_true, if_false]
        have c1 : cut? l 0 (before t.Name l : Int) = some (l.take (before t.Name l)) := by
          unfold cut?; rw [if_pos ⟨by omega, by omega, by omega⟩]; simp
        have c2 : cut? l (before t.Name l : Int) (len l) = some (l.drop (before t.Name l)) := by
          unfold cut?; rw [len_nat, if_pos ⟨by omega, by omega, by omega⟩]; simp
        have c3 : app? ([] : List D.Value) (l.take (before t.Name l)) = some (l.take (before t.Name l)) := by
          unfold app?; rw [if_pos (by unfold room; simp; omega)]; rfl
        have c4 : app? (l.take (before t.Name l)) [(⟨t.Name, t.W, 0⟩ : D.Value)] = some (l.take (before t.Name l) ++ [⟨t.Name, t.W, 0⟩]) := by
          unfold app?; rw [if_pos (by unfold room; simp; omega)]
        have c5 : app? (l.take (before t.Name l) ++ [(⟨t.Name, t.W, 0⟩ : D.Value)]) (l.drop (before t.Name l)) = some (l.take (before t.Name l) ++ [⟨t.Name, t.W, 0⟩] ++ l.drop (before t.Name l)) := by
          unfold app?; rw [if_pos (by unfold room; simp; omega)]
        simp only [c1, c2, c3, c4, c5, Option.bind_some]
        refine ⟨_, _, rfl, fun _ => ⟨(t.Name, t.W) :: g, ?_, hr.put hne⟩, fun h => by cases h⟩
        unfold stp; rw [hno]
    · rw [if_neg (by simpa using ho)]
      have hv : vrs t = vrss t.Kids := by rw [vrs_eq, if_neg ho]
      rw [hv] at hg ⊢
      obtain ⟨r, g1, g2⟩ := iter_all (l := t.Kids) (n := n) (σ := List D.Value) (ρ := (List D.Value) ⊕ ((List D.Value) × Bool)) (B := fun (s2 : (List D.Value) × Int) =>
          if (decide (s2.2 < (len t.Kids))) then
            (get? t.Kids s2.2).bind fun x9 =>
            (spec_l02Vars n x9 s2.1).bind fun x10 =>
            if (!x10.2) then
              some (.inr (.inr (([] : List D.Value), false)))
            else
              some (.inl (x10.1, (w64 (s2.2 + 1))))
          else
            some (.inr (.inl (s2.1)))) (fun k a => (a, (k : Int))) (fun ys a => ∃ ga, Rel a ga ∧ runV ga (vrss ys) = runV g (vrss t.Kids) ∧ ga.length + (vrss ys).length ≤ 1000 ∧ ∀ x ∈ ys, x ∈ t.Kids)
          (fun r => (∃ l', r = .inl l' ∧ ∃ g', runV g (vrss t.Kids) = some g' ∧ Rel l' g') ∨ (r = .inr ([], false) ∧ runV g (vrss t.Kids) = none))
          (fun k x xs a hk' hx hlen ⟨ga, i0, i1, i2, i3⟩ => by
            have hxk := i3 x (by simp)
            have := mszs_mem hxk
            have := cnts_mem hxk
            rw [vrss_cons, runV_app] at i1
            rw [vrss_cons, List.length_append] at i2
            obtain ⟨l', b, e1, e2, e3⟩ := ih x a ga (by omega) i0 (by omega) (by omega)
            have hd : decide ((k : Int) < len t.Kids) = true := by rw [len_nat]; simp; omega
            simp only [hd, if_true, get?_nat, hx, Option.bind_some, e1]
            cases b with
            | false =>
              refine .inr ⟨_, rfl, .inr ⟨rfl, ?_⟩⟩
              rw [e3 rfl] at i1; exact i1.symm
            | true =>
              obtain ⟨g', h1, h2⟩ := e2 rfl
              refine .inl ⟨l', by simp only [Bool.not_true, Bool.false_eq_true, if_false]; rw [w64_id (by omega) (by omega)]; rfl, g', h2, ?_, ?_, fun y hy => i3 y (by simp [hy])⟩
              · rw [h1] at i1; exact i1
              · have := runV_len h1; omega)
          (fun a ⟨ga, i0, i1, i2, i3⟩ => by
            have hd : decide ((t.Kids.length : Int) < len t.Kids) = false := by rw [len_nat]; simp
            simp only [hd, Bool.false_eq_true, if_false]
            rw [vrss_nil] at i1
            exact ⟨_, rfl, .inl ⟨a, rfl, ga, i1.symm, i0⟩⟩) (a := l) ⟨g, hr, rfl, hg, fun x hx => hx⟩ (by omega)
      rw [show ((0 : Nat) : Int) = 0 from rfl] at g1
      rw [g1]
      rcases g2 with ⟨l', rfl, g', h1, h2⟩ | ⟨rfl, h1⟩
      · exact ⟨l', true, rfl, fun _ => ⟨g', h1, h2⟩, fun h => by cases h⟩
      · exact ⟨[], false, rfl, fun h => (by cases h), fun _ => h1⟩
/-- what both say of a term -/
def termB (t : D.Term) : Bool := decide (cnt t ≤ 240) && nodeB t && (runV [] (vrs t)).isSome
theorem spec_term {t : D.Term} (h : msz t ≤ 1048576) : spec_TermOk fuel t = some (termB t) := by
  unfold spec_TermOk termB
  rw [few fuel t 240 h (by omega) (by omega) (by unfold fuel; omega)]
  simp only [Option.bind_some]
  by_cases hc : cnt t ≤ 240
  · have e : decide (lf 240 (cnt t) ≥ 0) = true := by unfold lf; rw [if_neg (by omega)]; simp; omega
    rw [spec_node fuel t h (by unfold fuel; omega)]
    simp only [e, Bool.not_true, Bool.false_eq_true, if_false, Option.bind_some, hc, decide_true, Bool.true_and]
    cases hb : nodeB t
    · simp
    · have hv := vrs_le t
      obtain ⟨l', b, e1, e2, e3⟩ := spec_vars fuel t [] [] h ⟨List.Pairwise.nil, rfl, by simp, by simp⟩ (by simp; omega) (by unfold fuel; omega)
      rw [e1]
      cases b with
      | false => rw [e3 rfl]; rfl
      | true => obtain ⟨g', h1, -⟩ := e2 rfl; rw [h1]; rfl
  · have e : decide (lf 240 (cnt t) ≥ 0) = false := by unfold lf; rw [if_pos (by omega)]; rfl
    simp [e, hc]
end Go.Proofs.Ytdkfoghhjkjjlaa
