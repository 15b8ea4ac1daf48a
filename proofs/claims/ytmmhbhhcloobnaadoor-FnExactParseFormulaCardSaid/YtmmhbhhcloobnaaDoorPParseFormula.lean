/- The plain law of this claim. No program in sight. -/
import Derived.Test.YtmmhbhhcloobnaaDoorPScan
import Derived.Test.YtmmhbhhcloobnaaDoorPSS
namespace Go.Proofs.YtmmhbhhcloobnaaDoor
open Go.GL
/-! ### formulas that are well made -/
def fabs (x : Int) : Int := if x < 0 then -x else x
def chain (v : Int) : Int → List Int → Bool
  | _, [] => true
  | p, x :: l => (decide (-v ≤ x ∧ x ≤ v) && decide (p < fabs x)) && chain v (fabs x) l
theorem fabs_le {x v : Int} (h : -v ≤ x ∧ x ≤ v) : 0 ≤ fabs x ∧ fabs x ≤ v := by unfold fabs; split <;> omega
theorem abs_eq {x v : Int} (hv : v ≤ 400) (h : -v ≤ x ∧ x ≤ v) : spec_l03Abs x = some (fabs x) ∧ impl_varOf x = some (fabs x) := by
  unfold spec_l03Abs impl_varOf fabs
  by_cases c : x < 0
  · rw [if_pos (by simpa using c), if_pos c, w64_id (by omega) (by omega)]
    constructor <;> simp
  · rw [if_neg (by simpa using c), if_neg c]
    exact ⟨rfl, rfl⟩
theorem in_eq (a b c : Int) : spec_l01In a b c = some (decide (b ≤ a ∧ a ≤ c)) := by
  unfold spec_l01In
  congr 1
  rw [Bool.eq_iff_iff]
  simp
theorem chain_fold (v : Int) : ∀ (l : List Int) (p : Int), (foldO (fun p x => if (decide (-v ≤ x ∧ x ≤ v) && decide (p < fabs x)) then some (fabs x) else none) l p).isSome = chain v p l := by
  intro l
  induction l with
  | nil => intro p; rfl
  | cons x l ih =>
    intro p
    rw [foldO, chain]
    cases h : (decide (-v ≤ x ∧ x ≤ v) && decide (p < fabs x)) with
    | false => simp
    | true => simpa using ih (fabs x)
theorem spec_clause {l : List Int} {v : Int} (hv : 0 ≤ v ∧ v ≤ 400) (hl : l.length ≤ 1048577) : spec_l03Clause fuel l v = some (chain v 0 l) := by
  have hfu : fuel = 1048580 := rfl
  unfold spec_l03Clause
  have := list_loop (B := fun (s1 : Int × Int) =>
    if (decide (s1.2 < (len l))) then
      (get? l s1.2).bind fun x1 =>
      (spec_l01In x1 (w64 (0 - v)) v).bind fun x2 =>
      (if (!x2) then some default else (spec_l03Abs x1)).bind fun x3 =>
      if ((!x2) || (decide (x3 ≤ s1.1))) then
        some (.inr (.inr false))
      else
        (spec_l03Abs x1).bind fun x4 =>
        some (.inl (x4, (w64 (s1.2 + 1))))
    else
      some (.inr (.inl () : Unit ⊕ Bool))) (l := l) (enc := fun k a => (a, (k : Int))) (act := fun p x => if (decide (-v ≤ x ∧ x ≤ v) && decide (p < fabs x)) then some (fabs x) else none) (I := fun _ _ => True) (fin := fun _ => .inl ()) (rej := .inr false)
    (by
      intro k a hk _
      have c1 : decide ((k : Int) < len l) = true := by rw [len_nat]; exact decide_eq_true (by omega)
      have c2 : get? l (k : Int) = some l[k] := by rw [get?_nat, List.getElem?_eq_getElem hk]
      have w1 : w64 ((k : Int) + 1) = ((k + 1 : Nat) : Int) := by rw [w64_id (by omega) (by omega)]; omega
      have w2 : w64 (0 - v) = -v := by rw [w64_id (by omega) (by omega)]; omega
      simp only [c1, if_true, c2, Option.bind_some, w1, w2, in_eq]
      generalize l[k] = x
      by_cases h : -v ≤ x ∧ x ≤ v
      · obtain ⟨a1, a2⟩ := abs_eq hv.2 h
        simp only [decide_eq_true h, Bool.not_true, Bool.false_eq_true, if_false, a1, Option.bind_some, Bool.false_or, Bool.true_and]
        by_cases h2 : a < fabs x
        · exact .inl ⟨fabs x, by simp [h2], by rw [if_neg (by simp; omega)], trivial⟩
        · exact .inr ⟨by simp [h2], by rw [if_pos (by simp; omega)]⟩
      · simp only [decide_eq_false h, Bool.not_false, if_true, Option.bind_some, Bool.true_or, Bool.false_and, Bool.false_eq_true, if_false]
        exact .inr ⟨trivial, trivial⟩)
    (by
      intro a _
      have c1 : decide ((l.length : Int) < len l) = false := by rw [len_nat]; exact decide_eq_false (by omega)
      simp only [c1, Bool.false_eq_true, if_false]) (a0 := 0) trivial (n := fuel) (by omega)
  have h2 : iterN _ fuel ((0 : Int), (0 : Int)) = _ := this
  rw [h2, ← chain_fold]
  cases foldO (fun p x => if (decide (-v ≤ x ∧ x ≤ v) && decide (p < fabs x)) then some (fabs x) else none) l 0 with
  | none => rfl
  | some a => rfl
def lits (v : Int) : List Int → Bool
  | [] => true
  | x :: l => (decide (x ≠ 0) && decide (-v ≤ x ∧ x ≤ v)) && lits v l
theorem lits_fold (v : Int) : ∀ (l : List Int), (foldO (fun (_ : Unit) x => if (decide (x ≠ 0) && decide (-v ≤ x ∧ x ≤ v)) then some () else none) l ()).isSome = lits v l := by
  intro l
  induction l with
  | nil => rfl
  | cons x l ih =>
    rw [foldO, lits]
    cases h : (decide (x ≠ 0) && decide (-v ≤ x ∧ x ≤ v)) with
    | false => simp
    | true => simpa using ih
theorem impl_lits {l : List Int} {v : Int} (hv : 0 ≤ v ∧ v ≤ 400) (hl : l.length ≤ 1048577) : impl_literalsOk fuel l v = some (lits v l) := by
  have hfu : fuel = 1048580 := rfl
  unfold impl_literalsOk
  have := list_loop (B := fun (s1 : Int) =>
    if (decide (s1 < (len l))) then
      (get? l s1).bind fun x1 =>
      (impl_isLiteral x1 v).bind fun x2 =>
      if (!x2) then
        some (.inr (.inr false))
      else
        some (.inl ((w64 (s1 + 1))))
    else
      some (.inr (.inl () : Unit ⊕ Bool))) (l := l) (enc := fun k (_ : Unit) => (k : Int)) (act := fun _ x => if (decide (x ≠ 0) && decide (-v ≤ x ∧ x ≤ v)) then some () else none) (I := fun _ _ => True) (fin := fun _ => .inl ()) (rej := .inr false)
    (by
      intro k a hk _
      have c1 : decide ((k : Int) < len l) = true := by rw [len_nat]; exact decide_eq_true (by omega)
      have c2 : get? l (k : Int) = some l[k] := by rw [get?_nat, List.getElem?_eq_getElem hk]
      have w1 : w64 ((k : Int) + 1) = ((k + 1 : Nat) : Int) := by rw [w64_id (by omega) (by omega)]; omega
      have w2 : w64 (0 - v) = -v := by rw [w64_id (by omega) (by omega)]; omega
      have c3 : impl_isLiteral l[k] v = some (decide (l[k] ≠ 0) && decide (-v ≤ l[k] ∧ l[k] ≤ v)) := by
        unfold impl_isLiteral
        congr 1
        rw [w2, Bool.eq_iff_iff]
        simp [and_assoc]
      simp only [c1, if_true, c2, Option.bind_some, w1, c3]
      cases h : (decide (l[k] ≠ 0) && decide (-v ≤ l[k] ∧ l[k] ≤ v)) with
      | false => exact .inr ⟨rfl, rfl⟩
      | true => exact .inl ⟨(), rfl, rfl, trivial⟩)
    (by
      intro a _
      have c1 : decide ((l.length : Int) < len l) = false := by rw [len_nat]; exact decide_eq_false (by omega)
      simp only [c1, Bool.false_eq_true, if_false]) (a0 := ()) trivial (n := fuel) (by omega)
  have h2 : iterN _ fuel (0 : Int) = _ := this
  rw [h2, ← lits_fold]
  cases foldO (fun (_ : Unit) x => if (decide (x ≠ 0) && decide (-v ≤ x ∧ x ≤ v)) then some () else none) l () with
  | none => rfl
  | some a => rfl
def asc : List Int → Bool
  | x :: y :: l => decide (fabs x < fabs y) && asc (y :: l)
  | _ => true
theorem lits_asc (v : Int) : ∀ (l : List Int) (x : Int), (lits v (x :: l) && asc (x :: l)) = ((decide (x ≠ 0) && decide (-v ≤ x ∧ x ≤ v)) && chain v (fabs x) l) := by
  intro l
  induction l with
  | nil => intro x; simp [lits, asc, chain]
  | cons y l ih =>
    intro x
    have h := ih y
    rw [lits, asc, chain]
    have e : ((decide (x ≠ 0) && decide (-v ≤ x ∧ x ≤ v)) && lits v (y :: l) && (decide (fabs x < fabs y) && asc (y :: l))) = ((decide (x ≠ 0) && decide (-v ≤ x ∧ x ≤ v)) && decide (fabs x < fabs y) && (lits v (y :: l) && asc (y :: l))) := by
      cases (decide (x ≠ 0) && decide (-v ≤ x ∧ x ≤ v)) <;> cases lits v (y :: l) <;> cases decide (fabs x < fabs y) <;> cases asc (y :: l) <;> rfl
    rw [e, h]
    by_cases hlt : fabs x < fabs y
    · have hy : y ≠ 0 := by
        rintro rfl
        unfold fabs at hlt
        split at hlt <;> simp at hlt <;> omega
      simp only [decide_eq_true hlt, decide_eq_true hy, Bool.and_true, Bool.true_and]
    · simp only [decide_eq_false hlt, Bool.and_false, Bool.false_and]
theorem lits_chain (v : Int) : ∀ l : List Int, (lits v l && asc l) = chain v 0 l := by
  intro l
  cases l with
  | nil => rfl
  | cons x l =>
    rw [lits_asc, chain]
    congr 1
    rw [Bool.eq_iff_iff]
    simp only [Bool.and_eq_true, decide_eq_true_eq]
    unfold fabs
    constructor
    · rintro ⟨h1, h2⟩; exact ⟨h2, by split <;> omega⟩
    · rintro ⟨h1, h2⟩; exact ⟨by split at h2 <;> omega, h1⟩
theorem lits_mem (v : Int) : ∀ l : List Int, lits v l = true → ∀ x ∈ l, -v ≤ x ∧ x ≤ v := by
  intro l
  induction l with
  | nil => intro _ x hx; cases hx
  | cons y l ih =>
    intro h x hx
    rw [lits] at h
    simp only [Bool.and_eq_true, decide_eq_true_eq] at h
    rcases List.mem_cons.1 hx with rfl | hx
    · exact h.1.2
    · exact ih h.2 x hx
theorem asc_iff : ∀ l : List Int, asc l = true ↔ ∀ i, (h : i + 1 < l.length) → fabs l[i] < fabs l[i + 1] := by
  intro l
  induction l with
  | nil => simp [asc]
  | cons x l ih =>
    cases l with
    | nil => simp [asc]
    | cons y l =>
      rw [asc]
      simp only [Bool.and_eq_true, decide_eq_true_eq, ih]
      constructor
      · rintro ⟨h1, h2⟩ i hi
        cases i with
        | zero => exact h1
        | succ i => exact h2 i (by simpa using hi)
      · intro h
        exact ⟨h 0 (by simp), fun i hi => h (i + 1) (by simpa using hi)⟩
theorem impl_clause {l : List Int} {v : Int} (hv : 0 ≤ v ∧ v ≤ 400) (hl : l.length ≤ 1048577) : impl_clauseOk fuel l v = some (chain v 0 l) := by
  have hfu : fuel = 1048580 := rfl
  rw [← lits_chain]
  unfold impl_clauseOk
  rw [impl_lits hv hl, Option.bind_some]
  cases hlit : lits v l with
  | false => rfl
  | true =>
    simp only [Bool.not_true, Bool.false_eq_true, if_false, Bool.true_and]
    have hm := lits_mem v l hlit
    obtain ⟨r, e1, e2⟩ := iterN_meas (B := fun (s1 : Int) =>
      if (decide (s1 < (len l))) then
        (get? l (w64 (s1 - 1))).bind fun x2 =>
        (impl_varOf x2).bind fun x3 =>
        (get? l s1).bind fun x4 =>
        (impl_varOf x4).bind fun x5 =>
        if (decide (x3 ≥ x5)) then
          some (.inr (.inr false))
        else
          some (.inl ((w64 (s1 + 1))))
      else
        some (.inr (.inl () : Unit ⊕ Bool))) (I := fun s => ∃ k : Nat, s = ((k + 1 : Nat) : Int) ∧ (k = 0 ∨ k < l.length) ∧ ∀ i, (h : i + 1 < l.length) → i < k → fabs l[i] < fabs l[i + 1]) (μ := fun s => l.length + 1 - s.toNat)
      (R := fun r => r = if asc l then .inl () else .inr false) (by
        rintro s ⟨k, rfl, hk, ha⟩
        by_cases hlt : k + 1 < l.length
        · have c1 : decide (((k + 1 : Nat) : Int) < len l) = true := by rw [len_nat]; exact decide_eq_true (by omega)
          have w0 : w64 (((k + 1 : Nat) : Int) - 1) = (k : Int) := by rw [w64_id (by omega) (by omega)]; omega
          have w1 : w64 (((k + 1 : Nat) : Int) + 1) = ((k + 1 + 1 : Nat) : Int) := by rw [w64_id (by omega) (by omega)]; omega
          have c2 : get? l (k : Int) = some l[k] := by rw [get?_nat, List.getElem?_eq_getElem]
          have c3 : get? l ((k + 1 : Nat) : Int) = some l[k + 1] := by rw [get?_nat, List.getElem?_eq_getElem hlt]
          have a1 := (abs_eq hv.2 (hm l[k] (List.getElem_mem _))).2
          have a2 := (abs_eq hv.2 (hm l[k + 1] (List.getElem_mem hlt))).2
          simp only [c1, if_true, w0, w1, c2, c3, Option.bind_some, a1, a2]
          by_cases h2 : fabs l[k] < fabs l[k + 1]
          · left
            refine ⟨((k + 1 + 1 : Nat) : Int), by rw [if_neg (by simp; omega)], ⟨k + 1, rfl, .inr hlt, fun i hi hik => ?_⟩, by omega⟩
            by_cases he : i = k
            · subst he; exact h2
            · exact ha i hi (by omega)
          · right
            refine ⟨.inr false, by rw [if_pos (by simp; omega)], ?_⟩
            rw [if_neg]
            intro h
            exact h2 ((asc_iff l).1 h k hlt)
        · right
          have c1 : decide (((k + 1 : Nat) : Int) < len l) = false := by rw [len_nat]; exact decide_eq_false (by omega)
          refine ⟨.inl (), by simp only [c1, Bool.false_eq_true, if_false], ?_⟩
          rw [if_pos]
          exact (asc_iff l).2 fun i hi => ha i hi (by omega)) fuel 1 ⟨0, rfl, .inl rfl, fun i _ h => by omega⟩ (by simp only [Int.toNat_one]; omega)
    rw [e1, e2]
    cases asc l <;> rfl
def clausesB (v : Int) (l : List (List Int)) : Bool := l.all (chain v 0)
theorem clauses_fold (v : Int) : ∀ l : List (List Int), (foldO (fun (_ : Unit) x => if chain v 0 x then some () else none) l ()).isSome = clausesB v l := by
  intro l
  induction l with
  | nil => rfl
  | cons x l ih =>
    rw [foldO]
    unfold clausesB at ih ⊢
    rw [List.all_cons]
    cases h : chain v 0 x with
    | false => simp
    | true => simpa using ih
def formB (f : D.Formula) : Bool := decide (0 ≤ f.Vars ∧ f.Vars ≤ 400) && decide (f.Clauses.length ≤ 1600) && clausesB f.Vars f.Clauses
theorem spec_form {f : D.Formula} (hf : ∀ x ∈ f.Clauses, x.length ≤ 1048577) : spec_FormulaOk fuel f = some (formB f) := by
  have hfu : fuel = 1048580 := rfl
  unfold spec_FormulaOk formB
  rw [in_eq, Option.bind_some]
  by_cases hv : 0 ≤ f.Vars ∧ f.Vars ≤ 400
  case neg => simp [decide_eq_false hv]
  by_cases hc : f.Clauses.length ≤ 1600
  case neg => rw [if_pos (by rw [len_nat]; simp [hv]; omega)]; simp [hc]
  rw [if_neg (by rw [len_nat]; simp [hv]; omega), decide_eq_true hv, decide_eq_true hc]
  have := list_loop (B := fun (s1 : Int) =>
      if (decide (s1 < (len f.Clauses))) then
        (get? f.Clauses s1).bind fun x2 =>
        (spec_l03Clause fuel x2 f.Vars).bind fun x3 =>
        if (!x3) then
          some (.inr (.inr false))
        else
          some (.inl ((w64 (s1 + 1))))
      else
        some (.inr (.inl () : Unit ⊕ Bool))) (l := f.Clauses) (enc := fun k (_ : Unit) => (k : Int)) (act := fun _ x => if chain f.Vars 0 x then some () else none) (I := fun _ _ => True) (fin := fun _ => .inl ()) (rej := .inr false)
    (by
      intro k a hk _
      have c1 : decide ((k : Int) < len f.Clauses) = true := by rw [len_nat]; exact decide_eq_true (by omega)
      have c2 : get? f.Clauses (k : Int) = some f.Clauses[k] := by rw [get?_nat, List.getElem?_eq_getElem hk]
      have c3 := spec_clause hv (hf f.Clauses[k] (List.getElem_mem hk))
      have w1 : w64 ((k : Int) + 1) = ((k + 1 : Nat) : Int) := by rw [w64_id (by omega) (by omega)]; omega
      simp only [c1, if_true, c2, Option.bind_some, w1, c3]
      cases h : chain f.Vars 0 f.Clauses[k] with
      | false => exact .inr ⟨rfl, rfl⟩
      | true => exact .inl ⟨(), rfl, rfl, trivial⟩)
    (by
      intro a _
      have c1 : decide ((f.Clauses.length : Int) < len f.Clauses) = false := by rw [len_nat]; exact decide_eq_false (by omega)
      simp only [c1, Bool.false_eq_true, if_false]) (a0 := ()) trivial (n := fuel) (by omega)
  have h2 : iterN _ fuel (0 : Int) = _ := this
  rw [h2, ← clauses_fold]
  cases foldO (fun (_ : Unit) x => if chain f.Vars 0 x then some () else none) f.Clauses () with
  | none => rfl
  | some a => rfl
theorem impl_form {f : D.Formula} (hf : ∀ x ∈ f.Clauses, x.length ≤ 1048577) : impl_FormulaOk fuel f = some (formB f) := by
  have hfu : fuel = 1048580 := rfl
  unfold impl_FormulaOk formB
  by_cases hv : 0 ≤ f.Vars ∧ f.Vars ≤ 400
  case neg => rw [if_pos (by simp; omega)]; simp [hv]
  by_cases hc : f.Clauses.length ≤ 1600
  case neg => rw [if_pos (by rw [len_nat]; simp; omega)]; simp [hc]
  rw [if_neg (by rw [len_nat]; simp; omega), decide_eq_true hv, decide_eq_true hc]
  have := list_loop (B := fun (s1 : Int) =>
      if (decide (s1 < (len f.Clauses))) then
        (get? f.Clauses s1).bind fun x1 =>
        (impl_clauseOk fuel x1 f.Vars).bind fun x2 =>
        if (!x2) then
          some (.inr (.inr false))
        else
          some (.inl ((w64 (s1 + 1))))
      else
        some (.inr (.inl () : Unit ⊕ Bool))) (l := f.Clauses) (enc := fun k (_ : Unit) => (k : Int)) (act := fun _ x => if chain f.Vars 0 x then some () else none) (I := fun _ _ => True) (fin := fun _ => .inl ()) (rej := .inr false)
    (by
      intro k a hk _
      have c1 : decide ((k : Int) < len f.Clauses) = true := by rw [len_nat]; exact decide_eq_true (by omega)
      have c2 : get? f.Clauses (k : Int) = some f.Clauses[k] := by rw [get?_nat, List.getElem?_eq_getElem hk]
      have c3 := impl_clause hv (hf f.Clauses[k] (List.getElem_mem hk))
      have w1 : w64 ((k : Int) + 1) = ((k + 1 : Nat) : Int) := by rw [w64_id (by omega) (by omega)]; omega
      simp only [c1, if_true, c2, Option.bind_some, w1, c3]
      cases h : chain f.Vars 0 f.Clauses[k] with
      | false => exact .inr ⟨rfl, rfl⟩
      | true => exact .inl ⟨(), rfl, rfl, trivial⟩)
    (by
      intro a _
      have c1 : decide ((f.Clauses.length : Int) < len f.Clauses) = false := by rw [len_nat]; exact decide_eq_false (by omega)
      simp only [c1, Bool.false_eq_true, if_false]) (a0 := ()) trivial (n := fuel) (by omega)
  have h2 : iterN _ fuel (0 : Int) = _ := this
  rw [h2, ← clauses_fold]
  cases foldO (fun (_ : Unit) x => if chain f.Vars 0 x then some () else none) f.Clauses () with
  | none => rfl
  | some a => rfl
/-! ### the text of a formula -/
theorem cat_big {a b : Str} (h : a.bytes.length + b.bytes.length ≤ 1000000000) : cat? a b = some ⟨a.bytes ++ b.bytes⟩ := by
  unfold cat?
  rw [if_pos (by omega)]
theorem itoa_len {v : Int} (h : -400 ≤ v ∧ v ≤ 400) : (num v).bytes.length ≤ 21 := by
  have h1 := dl_19 (n := v.natAbs) (by omega)
  have h2 := dl_19 (n := v.toNat) (by omega)
  by_cases c : v < 0
  · rw [num_neg c]; simp; omega
  · rw [num_pos (by omega)]; omega
theorem foldO_map {α β : Type} (g : β → α) : ∀ (l : List β) (out : List α), foldO (fun out x => some (out ++ [g x])) l out = some (out ++ l.map g) := by
  intro l
  induction l with
  | nil => intro out; simp [foldO]
  | cons x l ih => intro out; rw [foldO, Option.bind_some, ih]; simp
theorem foldO_ind {α β : Type} {act : α → β → Option α} (J : α → Prop) : ∀ (l : List β) (a r : α), (∀ a b a', b ∈ l → J a → act a b = some a' → J a') → J a → foldO act l a = some r → J r := by
  intro l
  induction l with
  | nil => intro a r _ h e; rw [foldO] at e; obtain rfl := Option.some.inj e; exact h
  | cons b l ih =>
    intro a r hJ h e
    rw [foldO] at e
    cases ha : act a b with
    | none => rw [ha] at e; cases e
    | some a' =>
      rw [ha, Option.bind_some] at e
      exact ih a' r (fun a b a' hb => hJ a b a' (List.mem_cons_of_mem _ hb)) (hJ a b a' List.mem_cons_self h ha) e
def joinT (sep : List UInt8) : List (List UInt8) → List UInt8
  | [] => []
  | x :: r => x ++ (r.map (sep ++ ·)).flatten
theorem join_T (sep : List UInt8) (l : List (List UInt8)) : Lib.join l sep = joinT sep l := by
  cases l with
  | nil => rfl
  | cons x r => rw [Lib.join_cons]; rfl
theorem join_fold (sep : List UInt8) : ∀ (r : List Str) (acc : Str), foldO (fun (a : Str × Bool) (x : Str) => if a.2 then some (⟨a.1.bytes ++ x.bytes⟩, false) else some (⟨a.1.bytes ++ sep ++ x.bytes⟩, false)) r (acc, false) = some (⟨acc.bytes ++ (r.map fun x => sep ++ x.bytes).flatten⟩, false) := by
  intro r
  induction r with
  | nil => intro acc; simp [foldO]
  | cons x r ih =>
    intro acc
    rw [foldO]
    simp only [Bool.false_eq_true, if_false, Option.bind_some, ih]
    simp
theorem spec_join {xs : List Str} {sep : Str} (hx : ∀ x ∈ xs, x.bytes.length ≤ 100) (hl : xs.length ≤ 1000) (hs : sep.bytes.length ≤ 10) : spec_Join fuel xs sep = some ⟨joinT sep.bytes (xs.map (·.bytes))⟩ := by
  have hfu : fuel = 1048580 := rfl
  unfold spec_Join
  have := list_loop (B := fun (s1 : Str × Int) =>
    if (decide (s1.2 < (len xs))) then
      (get? xs s1.2).bind fun x1 =>
      if (decide (s1.2 > 0)) then
        (cat? s1.1 sep).bind fun x2 =>
        (cat? x2 x1).bind fun x3 =>
        some (.inl (x3, (w64 (s1.2 + 1))))
      else
        (cat? s1.1 x1).bind fun x4 =>
        some (.inl (x4, (w64 (s1.2 + 1))))
    else
      some (.inr (s1.1) : (Str × Int) ⊕ Str)) (l := xs) (enc := fun k (a : Str × Bool) => (a.1, (k : Int))) (act := fun a x => if a.2 then some (⟨a.1.bytes ++ x.bytes⟩, false) else some (⟨a.1.bytes ++ sep.bytes ++ x.bytes⟩, false)) (I := fun k a => (a.2 = true ↔ k = 0) ∧ a.1.bytes.length ≤ 200 * k) (fin := fun a => a.1) (rej := ⟨[]⟩)
    (by
      rintro k ⟨a, b⟩ hk ⟨h1, h2⟩
      simp only at h1 h2
      have c1 : decide ((k : Int) < len xs) = true := by rw [len_nat]; exact decide_eq_true (by omega)
      have c2 : get? xs (k : Int) = some xs[k] := by rw [get?_nat, List.getElem?_eq_getElem hk]
      have w1 : w64 ((k : Int) + 1) = ((k + 1 : Nat) : Int) := by rw [w64_id (by omega) (by omega)]; omega
      have hxl := hx xs[k] (List.getElem_mem hk)
      left
      simp only [c1, if_true, c2, Option.bind_some, w1]
      cases b with
      | true =>
        have hk0 := h1.1 rfl
        refine ⟨(⟨a.bytes ++ xs[k].bytes⟩, false), rfl, ?_, by simp, by simp; omega⟩
        rw [if_neg (by simp; omega), cat_eq (by omega)]
        rfl
      | false =>
        have hk0 : k ≠ 0 := fun h => by have := h1.2 h; simp at this
        refine ⟨(⟨a.bytes ++ sep.bytes ++ xs[k].bytes⟩, false), rfl, ?_, by simp, by simp; omega⟩
        rw [if_pos (by simp; omega), cat_big (by omega), Option.bind_some, cat_big (by simp only [List.length_append]; omega)]
        rfl)
    (by
      rintro ⟨a, b⟩ _
      have c1 : decide ((xs.length : Int) < len xs) = false := by rw [len_nat]; exact decide_eq_false (by omega)
      simp only [c1, Bool.false_eq_true, if_false]) (a0 := (⟨[]⟩, true)) ⟨by simp, by simp⟩ (n := fuel) (by omega)
  have h2 : iterN _ fuel ((⟨[]⟩ : Str), (0 : Int)) = _ := this
  rw [h2]
  cases xs with
  | nil => rfl
  | cons x r =>
    rw [foldO]
    simp only [if_true, Option.bind_some, List.nil_append, join_fold, joinT, List.map_cons, List.map_map]
    rfl
def intsT (l : List Int) : List UInt8 := joinT [32] (l.map fun x => (num x).bytes)
theorem joinT_len (sep : List UInt8) (m : Nat) : ∀ l : List (List UInt8), (∀ x ∈ l, x.length ≤ m) → (joinT sep l).length ≤ (m + sep.length) * l.length := by
  intro l h
  cases l with
  | nil => simp [joinT]
  | cons x r =>
    have key : ∀ r : List (List UInt8), (∀ x ∈ r, x.length ≤ m) → ((r.map (sep ++ ·)).flatten).length ≤ (m + sep.length) * r.length := by
      intro r
      induction r with
      | nil => intro _; simp
      | cons y r ih =>
        intro h
        have h1 := ih fun x hx => h x (List.mem_cons_of_mem _ hx)
        have h2 := h y List.mem_cons_self
        simp only [List.map_cons, List.flatten_cons, List.length_append, List.length_cons, Nat.mul_succ]
        omega
    have h1 := key r fun x hx => h x (List.mem_cons_of_mem _ hx)
    have h2 := h x List.mem_cons_self
    simp only [joinT, List.length_append, List.length_cons, Nat.mul_succ]
    omega
section
variable {l : List Int} (hl : l.length ≤ 400) (hx : ∀ x ∈ l, -400 ≤ x ∧ x ≤ 400)
include hl hx
theorem ints_len : (intsT l).length ≤ 8800 := by
  have := joinT_len [32] 21 (l.map fun x => (num x).bytes) (by
    intro y hy
    obtain ⟨x, h1, rfl⟩ := List.mem_map.1 hy
    exact itoa_len (hx x h1))
  rw [List.length_map] at this
  simp only [List.length_cons, List.length_nil] at this
  unfold intsT
  omega
theorem spec_ints : spec_FormatInts fuel l = some ⟨intsT l⟩ := by
  have hfu : fuel = 1048580 := rfl
  unfold spec_FormatInts
  have := list_loop (B := fun (s1 : Int × (List Str)) =>
    if (decide (s1.1 < (len l))) then
      (get? l s1.1).bind fun x1 =>
      (spec_FormatInt fuel x1).bind fun x2 =>
      (app? s1.2 ([x2] : List Str)).bind fun x3 =>
      some (.inl ((w64 (s1.1 + 1)), x3))
    else
      some (.inr (s1.2) : (Int × List Str) ⊕ List Str)) (l := l) (enc := fun k a => ((k : Int), a)) (act := fun out x => some (out ++ [num x])) (I := fun k a => a.length = k) (fin := fun a => a) (rej := [])
    (by
      intro k a hk hI
      have c1 : decide ((k : Int) < len l) = true := by rw [len_nat]; exact decide_eq_true (by omega)
      have c2 : get? l (k : Int) = some l[k] := by rw [get?_nat, List.getElem?_eq_getElem hk]
      have w1 : w64 ((k : Int) + 1) = ((k + 1 : Nat) : Int) := by rw [w64_id (by omega) (by omega)]; omega
      have hb := hx l[k] (List.getElem_mem hk)
      have c3 := fi_all (n := l[k]) (by omega) (by omega)
      exact .inl ⟨_, rfl, by simp only [c1, if_true, c2, Option.bind_some, c3, w1, app_one (l := a) (x := num l[k]) (by omega)], by simp [hI]⟩)
    (by
      intro a _
      have c1 : decide ((l.length : Int) < len l) = false := by rw [len_nat]; exact decide_eq_false (by omega)
      simp only [c1, Bool.false_eq_true, if_false]) (a0 := []) rfl (n := fuel) (by omega)
  have h2 : iterN _ fuel ((0 : Int), ([] : List Str)) = _ := this
  rw [h2, foldO_map]
  simp only [Option.bind_some, List.nil_append]
  rw [spec_join (by
    intro y hy
    obtain ⟨x, h1, rfl⟩ := List.mem_map.1 hy
    have := itoa_len (hx x h1); omega) (by rw [List.length_map]; omega) (by simp)]
  simp only [Option.bind_some, List.map_map]
  rfl
theorem impl_ints : impl_FormatInts fuel l = some ⟨intsT l⟩ := by
  have hfu : fuel = 1048580 := rfl
  unfold impl_FormatInts
  have hm : mk? (len l) (⟨[]⟩ : Str) = some (List.replicate l.length ⟨[]⟩) := by
    unfold mk? len
    rw [if_pos ⟨by omega, by unfold room; omega⟩]
    simp
  rw [hm, Option.bind_some]
  have := list_loop (B := fun (s1 : Int × (List Str)) =>
    if (decide (s1.1 < (len l))) then
      (get? l s1.1).bind fun x2 =>
      (impl_FormatInt x2).bind fun x3 =>
      (set? s1.2 s1.1 x3).bind fun x4 =>
      some (.inl ((w64 (s1.1 + 1)), x4))
    else
      some (.inr (s1.2) : (Int × List Str) ⊕ List Str)) (l := l) (enc := fun k a => ((k : Int), a ++ List.replicate (l.length - k) ⟨[]⟩)) (act := fun out x => some (out ++ [num x])) (I := fun k a => a.length = k) (fin := fun a => a) (rej := [])
    (by
      intro k a hk hI
      have c1 : decide ((k : Int) < len l) = true := by rw [len_nat]; exact decide_eq_true (by omega)
      have c2 : get? l (k : Int) = some l[k] := by rw [get?_nat, List.getElem?_eq_getElem hk]
      have w1 : w64 ((k : Int) + 1) = ((k + 1 : Nat) : Int) := by rw [w64_id (by omega) (by omega)]; omega
      have hb := hx l[k] (List.getElem_mem hk)
      have c3 : impl_FormatInt l[k] = some (num l[k]) := by
        unfold impl_FormatInt strconv_Itoa
        rw [if_pos ⟨by omega, by omega⟩]
        rfl
      have c4 : set? (a ++ List.replicate (l.length - k) (⟨[]⟩ : Str)) (k : Int) (num l[k]) = some (a ++ [num l[k]] ++ List.replicate (l.length - (k + 1)) ⟨[]⟩) := by
        rw [set?_nat (by simp; omega)]
        congr 1
        have e : l.length - k = (l.length - (k + 1)) + 1 := by omega
        rw [e, List.replicate_succ, List.set_append_right _ _ (by omega), hI, Nat.sub_self, List.set_cons_zero]
        simp
      exact .inl ⟨_, rfl, by simp only [c1, if_true, c2, Option.bind_some, c3, w1, c4], by simp [hI]⟩)
    (by
      intro a _
      have c1 : decide ((l.length : Int) < len l) = false := by rw [len_nat]; exact decide_eq_false (by omega)
      simp only [c1, Bool.false_eq_true, if_false, Nat.sub_self, List.replicate_zero, List.append_nil]) (a0 := []) rfl (n := fuel) (by omega)
  simp only [Nat.sub_zero, List.nil_append] at this
  have h2 : iterN _ fuel ((0 : Int), List.replicate l.length (⟨[]⟩ : Str)) = _ := this
  rw [h2, foldO_map]
  simp only [Option.bind_some, List.nil_append]
  have hj : Lib.join ((l.map num).map (·.bytes)) [32] = intsT l := by rw [join_T, List.map_map]; rfl
  have hn := ints_len hl hx
  unfold strings_Join
  simp only [hj]
  rw [if_pos ⟨by rw [List.length_map]; omega, by omega⟩]
  rfl
end
theorem chain_len (v : Int) : ∀ (l : List Int) (p : Int), p ≤ v → chain v p l = true → (l.length : Int) ≤ v - p := by
  intro l
  induction l with
  | nil => intro p hp _; simp; omega
  | cons x l ih =>
    intro p hp h
    rw [chain] at h
    simp only [Bool.and_eq_true, decide_eq_true_eq] at h
    have := ih (fabs x) (fabs_le h.1.1).2 h.2
    simp only [List.length_cons]
    omega
theorem chain_mem (v : Int) : ∀ (l : List Int) (p : Int), chain v p l = true → ∀ x ∈ l, -v ≤ x ∧ x ≤ v := by
  intro l
  induction l with
  | nil => intro _ _ x hx; cases hx
  | cons y l ih =>
    intro p h x hx
    rw [chain] at h
    simp only [Bool.and_eq_true, decide_eq_true_eq] at h
    rcases List.mem_cons.1 hx with rfl | hx
    · exact h.1.1
    · exact ih _ h.2 x hx
theorem form_all {f : D.Formula} (h : formB f = true) : (0 ≤ f.Vars ∧ f.Vars ≤ 400) ∧ f.Clauses.length ≤ 1600 ∧ ∀ c ∈ f.Clauses, c.length ≤ 400 ∧ ∀ x ∈ c, -400 ≤ x ∧ x ≤ 400 := by
  unfold formB clausesB at h
  simp only [Bool.and_eq_true, decide_eq_true_eq, List.all_eq_true] at h
  obtain ⟨⟨h1, h2⟩, h3⟩ := h
  refine ⟨h1, h2, fun c hc => ?_⟩
  have h4 := chain_len f.Vars c 0 h1.1 (h3 c hc)
  have h5 := chain_mem f.Vars c 0 (h3 c hc)
  exact ⟨by omega, fun x hx => by have := h5 x hx; omega⟩
def textF (h : List UInt8) : List (List Int) → List UInt8
  | [] => h
  | c :: l => textF (h ++ [124] ++ intsT c) l
theorem text_fold : ∀ (l : List (List Int)) (acc : Str), foldO (fun (a : Str) c => some ⟨a.bytes ++ [124] ++ intsT c⟩) l acc = some ⟨textF acc.bytes l⟩ := by
  intro l
  induction l with
  | nil => intro acc; rfl
  | cons c l ih => intro acc; rw [foldO, Option.bind_some, ih]; rfl
def formT (f : D.Formula) : Str := if formB f then ⟨textF (num f.Vars).bytes f.Clauses⟩ else ⟨[]⟩
theorem spec_fmt {f : D.Formula} (hf : ∀ x ∈ f.Clauses, x.length ≤ 1048577) : spec_FormatFormula fuel f = some (formT f) := by
  have hfu : fuel = 1048580 := rfl
  unfold spec_FormatFormula formT
  rw [spec_form hf, Option.bind_some]
  cases hB : formB f with
  | false => rfl
  | true =>
    obtain ⟨h1, h2, h3⟩ := form_all hB
    have hv := itoa_len (v := f.Vars) ⟨by omega, by omega⟩
    simp only [Bool.not_true, Bool.false_eq_true, if_false, if_true]
    rw [fi_all (by omega) (by omega), Option.bind_some]
    have := list_loop (B := fun (s1 : Str × Int) =>
      if (decide (s1.2 < (len f.Clauses))) then
        (get? f.Clauses s1.2).bind fun x3 =>
        (cat? s1.1 (⟨[124]⟩)).bind fun x4 =>
        (spec_FormatInts fuel x3).bind fun x5 =>
        (cat? x4 x5).bind fun x6 =>
        some (.inl (x6, (w64 (s1.2 + 1))))
      else
        some (.inr (s1.1) : (Str × Int) ⊕ Str)) (l := f.Clauses) (enc := fun k a => (a, (k : Int))) (act := fun (a : Str) c => some ⟨a.bytes ++ [124] ++ intsT c⟩) (I := fun k a => a.bytes.length ≤ 30 + 9000 * k) (fin := fun a => a) (rej := ⟨[]⟩)
      (by
        intro k a hk hI
        have c1 : decide ((k : Int) < len f.Clauses) = true := by rw [len_nat]; exact decide_eq_true (by omega)
        have c2 : get? f.Clauses (k : Int) = some f.Clauses[k] := by rw [get?_nat, List.getElem?_eq_getElem hk]
        have w1 : w64 ((k : Int) + 1) = ((k + 1 : Nat) : Int) := by rw [w64_id (by omega) (by omega)]; omega
        obtain ⟨q1, q2⟩ := h3 f.Clauses[k] (List.getElem_mem hk)
        have c3 := spec_ints q1 q2
        have c4 := ints_len q1 q2
        have c5 : cat? a ⟨[124]⟩ = some ⟨a.bytes ++ [124]⟩ := by unfold cat?; rw [if_pos (by simp; omega)]
        have c6 : cat? ⟨a.bytes ++ [124]⟩ ⟨intsT f.Clauses[k]⟩ = some ⟨a.bytes ++ [124] ++ intsT f.Clauses[k]⟩ := by unfold cat?; rw [if_pos (by simp; omega)]
        exact .inl ⟨_, rfl, by simp only [c1, if_true, c2, Option.bind_some, c3, w1, c5, c6], by simp; omega⟩)
      (by
        intro a _
        have c1 : decide ((f.Clauses.length : Int) < len f.Clauses) = false := by rw [len_nat]; exact decide_eq_false (by omega)
        simp only [c1, Bool.false_eq_true, if_false]) (a0 := num f.Vars) (by omega) (n := fuel) (by omega)
    have h2 : iterN _ fuel (num f.Vars, (0 : Int)) = _ := this
    rw [h2, text_fold]
    rfl
theorem impl_fmt {f : D.Formula} (hf : ∀ x ∈ f.Clauses, x.length ≤ 1048577) : impl_FormatFormula fuel f = some (formT f) := by
  have hfu : fuel = 1048580 := rfl
  unfold impl_FormatFormula formT
  rw [impl_form hf, Option.bind_some]
  cases hB : formB f with
  | false => rfl
  | true =>
    obtain ⟨h1, h2, h3⟩ := form_all hB
    have hv := itoa_len (v := f.Vars) ⟨by omega, by omega⟩
    simp only [Bool.not_true, Bool.false_eq_true, if_false, if_true]
    have c0 : impl_FormatInt f.Vars = some (num f.Vars) := by
      unfold impl_FormatInt strconv_Itoa
      rw [if_pos ⟨by omega, by omega⟩]
      rfl
    have c00 : bw? (⟨[]⟩ : Str) (num f.Vars) = some (num f.Vars) := by
      unfold bw?
      rw [if_pos (by simp; omega)]
      rfl
    rw [c0, Option.bind_some, c00, Option.bind_some]
    have := list_loop (B := fun (s1 : Int × Str) =>
      if (decide (s1.1 < (len f.Clauses))) then
        (get? f.Clauses s1.1).bind fun x4 =>
        (impl_FormatInts fuel x4).bind fun x5 =>
        (cat? (⟨[124]⟩) x5).bind fun x6 =>
        (bw? s1.2 x6).bind fun x7 =>
        some (.inl ((w64 (s1.1 + 1)), x7))
      else
        some (.inr (s1.2) : (Int × Str) ⊕ Str)) (l := f.Clauses) (enc := fun k a => ((k : Int), a)) (act := fun (a : Str) c => some ⟨a.bytes ++ [124] ++ intsT c⟩) (I := fun k a => a.bytes.length ≤ 30 + 9000 * k) (fin := fun a => a) (rej := ⟨[]⟩)
      (by
        intro k a hk hI
        have c1 : decide ((k : Int) < len f.Clauses) = true := by rw [len_nat]; exact decide_eq_true (by omega)
        have c2 : get? f.Clauses (k : Int) = some f.Clauses[k] := by rw [get?_nat, List.getElem?_eq_getElem hk]
        have w1 : w64 ((k : Int) + 1) = ((k + 1 : Nat) : Int) := by rw [w64_id (by omega) (by omega)]; omega
        obtain ⟨q1, q2⟩ := h3 f.Clauses[k] (List.getElem_mem hk)
        have c3 := impl_ints q1 q2
        have c4 := ints_len q1 q2
        have c5 : cat? ⟨[124]⟩ ⟨intsT f.Clauses[k]⟩ = some ⟨124 :: intsT f.Clauses[k]⟩ := by unfold cat?; rw [if_pos (by simp; omega)]; rfl
        have c6 : bw? a ⟨124 :: intsT f.Clauses[k]⟩ = some ⟨a.bytes ++ [124] ++ intsT f.Clauses[k]⟩ := by unfold bw?; rw [if_pos (by simp; omega)]; simp
        exact .inl ⟨_, rfl, by simp only [c1, if_true, c2, Option.bind_some, c3, w1, c5, c6], by simp; omega⟩)
      (by
        intro a _
        have c1 : decide ((f.Clauses.length : Int) < len f.Clauses) = false := by rw [len_nat]; exact decide_eq_false (by omega)
        simp only [c1, Bool.false_eq_true, if_false]) (a0 := num f.Vars) (by omega) (n := fuel) (by omega)
    have h2 : iterN _ fuel ((0 : Int), num f.Vars) = _ := this
    rw [h2, text_fold]
    rfl
/-! ### read -/
def fin2 (s : Str) (f : D.Formula) : D.Formula × Bool := if formB f && decide (formT f = s) then (f, true) else (⟨0, []⟩, false)
def actC (cl : List (List Int)) (p : Str) : Option (List (List Int)) := if (pInts p).2 then some (cl ++ [(pInts p).1]) else none
def actF (a : Bool × List (List Int) × Int) (p : Str) : Option (Bool × List (List Int) × Int) :=
  if a.1 then (if (parseN p).2 then some (false, a.2.1, (parseN p).1) else none) else (if (pInts p).2 then some (false, a.2.1 ++ [(pInts p).1], a.2.2) else none)
theorem actF_fold (v : Int) : ∀ (l : List Str) (cl : List (List Int)), foldO actF l (false, cl, v) = (foldO actC l cl).map fun c => (false, c, v) := by
  intro l
  induction l with
  | nil => intro cl; rfl
  | cons p l ih =>
    intro cl
    rw [foldO, foldO]
    unfold actF actC
    cases h : (pInts p).2 with
    | false => rfl
    | true =>
      simp only [Bool.false_eq_true, if_false, if_true, Option.bind_some]
      exact ih _
theorem pints_len (p : Str) : (pInts p).1.length ≤ p.bytes.length + 1 := by
  unfold pInts
  split
  · simp
  · cases h : foldO actI ((cutS 32 [] p.bytes).map Str.mk) [] with
    | none => simp
    | some l =>
      have key : ∀ (q : List Str) (a r : List Int), foldO actI q a = some r → r.length = a.length + q.length := by
        intro q
        induction q with
        | nil => intro a r e; rw [foldO] at e; obtain rfl := Option.some.inj e; simp
        | cons b q ih =>
          intro a r e
          rw [foldO] at e
          unfold actI at e
          cases hb : (parseN b).2 with
          | false => rw [hb] at e; cases e
          | true =>
            rw [hb] at e
            simp only [if_true, Option.bind_some] at e
            have := ih _ _ e
            simp only [List.length_append, List.length_cons, List.length_nil] at this ⊢
            omega
      have h1 := key _ _ _ h
      have h2 := cut_cnt 32 p.bytes []
      simp only [List.length_map, List.length_nil] at h1
      simp only
      omega
def readF (s : Str) : D.Formula × Bool :=
  match (cutS 124 [] s.bytes).map Str.mk with
  | [] => (⟨0, []⟩, false)
  | p :: l => if (parseN p).2 then (match foldO actC l [] with | some cl => fin2 s ⟨(parseN p).1, cl⟩ | none => (⟨0, []⟩, false)) else (⟨0, []⟩, false)
theorem pieces_len {c : UInt8} {s : Str} (hs : s.bytes.length ≤ 1048576) : ∀ x ∈ (cutS c [] s.bytes).map Str.mk, x.bytes.length ≤ 1048576 := by
  intro x hx
  obtain ⟨b, hb, rfl⟩ := List.mem_map.1 hx
  have := cut_len c s.bytes [] b hb
  simp at this ⊢
  omega
theorem clauses_len {l : List Str} (hl : ∀ x ∈ l, x.bytes.length ≤ 1048576) {r : List (List Int)} (h : foldO actC l [] = some r) : ∀ x ∈ r, x.length ≤ 1048577 := by
  refine foldO_ind (fun r => ∀ x ∈ r, x.length ≤ 1048577) l [] r (fun a b a' hb ha he => ?_) (fun x hx => by cases hx) h
  unfold actC at he
  split at he
  · obtain rfl := Option.some.inj he
    intro x hx
    rcases List.mem_append.1 hx with hx | hx
    · exact ha x hx
    · simp only [List.mem_cons, List.not_mem_nil, or_false] at hx
      subst hx
      have := pints_len b
      have := hl b hb
      omega
  · cases he
theorem spec_tail {s : Str} {f : D.Formula} (hf : ∀ x ∈ f.Clauses, x.length ≤ 1048577) : ((spec_FormulaOk fuel f).bind fun x7 =>
    (if (!x7) then some default else (spec_FormatFormula fuel f)).bind fun x8 =>
    if ((!x7) || (!(Str.eqb x8 s))) then some ((D.Formula.mk 0 ([] : List (List Int))), false) else some (f, true)) = some (fin2 s f) := by
  rw [spec_form hf, spec_fmt hf, Option.bind_some]
  unfold fin2
  cases formB f with
  | false => rfl
  | true =>
    simp only [Bool.not_true, Bool.false_eq_true, if_false, Option.bind_some, Bool.false_or, Bool.true_and, eqb_dec]
    by_cases h : formT f = s
    · simp [h]
    · simp [h]
theorem impl_tail {s : Str} {f : D.Formula} (hf : ∀ x ∈ f.Clauses, x.length ≤ 1048577) : ((impl_FormulaOk fuel f).bind fun x7 =>
    (if (!x7) then some default else (impl_FormatFormula fuel f)).bind fun x8 =>
    if ((!x7) || (!(Str.eqb x8 s))) then some ((D.Formula.mk 0 ([] : List (List Int))), false) else some (f, true)) = some (fin2 s f) := by
  rw [impl_form hf, impl_fmt hf, Option.bind_some]
  unfold fin2
  cases formB f with
  | false => rfl
  | true =>
    simp only [Bool.not_true, Bool.false_eq_true, if_false, Option.bind_some, Bool.false_or, Bool.true_and, eqb_dec]
    by_cases h : formT f = s
    · simp [h]
    · simp [h]
theorem spec_read {s : Str} (hs : s.bytes.length ≤ 1048576) : spec_ParseFormula fuel s = some (readF s) := by
  have hfu : fuel = 1048580 := rfl
  unfold spec_ParseFormula readF
  have := scan_loop (B := fun (s1 : Int × Bool × Int × (List (List Int)) × Int) =>
    if (decide (s1.2.2.1 ≤ (len s.bytes))) then
      (if (decide (s1.2.2.1 < (len s.bytes))) then (sidx? s s1.2.2.1) else some default).bind fun x1 =>
      if ((decide (s1.2.2.1 < (len s.bytes))) && (x1 != 124)) then
        some (.inl (s1.1, s1.2.1, (w64 (s1.2.2.1 + 1)), s1.2.2.2.1, s1.2.2.2.2))
      else
        if s1.2.1 then
          (scut? s s1.1 s1.2.2.1).bind fun x2 =>
          (spec_ParseInt fuel x2).bind fun x3 =>
          if (!x3.2) then
            some (.inr (.inr ((D.Formula.mk 0 ([] : List (List Int))), false)))
          else
            some (.inl ((w64 (s1.2.2.1 + 1)), false, (w64 (s1.2.2.1 + 1)), s1.2.2.2.1, x3.1))
        else
          (scut? s s1.1 s1.2.2.1).bind fun x4 =>
          (spec_ParseInts fuel x4).bind fun x5 =>
          if (!x5.2) then
            some (.inr (.inr ((D.Formula.mk 0 ([] : List (List Int))), false)))
          else
            (app? s1.2.2.2.1 ([x5.1] : List (List Int))).bind fun x6 =>
            some (.inl ((w64 (s1.2.2.1 + 1)), false, (w64 (s1.2.2.1 + 1)), x6, s1.2.2.2.2))
    else
      some (.inr (.inl (s1.2.2.2.1, s1.2.2.2.2) : ((List (List Int)) × Int) ⊕ (D.Formula × Bool)))) (c := 124) (s := s) (enc := fun f k a => ((f : Int), a.1, (k : Int), a.2.1, a.2.2)) (act := actF) (I := fun k a => a.2.1.length ≤ k) (fin := fun a => .inl (a.2.1, a.2.2)) (rej := .inr (⟨0, []⟩, false))
    (by
      rintro f k ⟨b, cl, v⟩ hf hk hb hI
      simp only at hI ⊢
      have c1 : decide ((k : Int) ≤ len s.bytes) = true := by rw [len_nat]; exact decide_eq_true (by omega)
      have c2 : decide ((k : Int) < len s.bytes) = true := by rw [len_nat]; exact decide_eq_true (by omega)
      have c3 := sidx_nat (s := s) hk
      have c4 : (((s.bytes[k].toNat : Int) != 124) : Bool) = true := by
        have := byte_eq s.bytes[k] 124
        rw [decide_eq_false hb] at this
        simp only [bne, Bool.not_eq_true']
        exact this
      have w1 : w64 ((k : Int) + 1) = ((k + 1 : Nat) : Int) := by rw [w64_id (by omega) (by omega)]; omega
      exact ⟨by simp only [c1, if_true, c2, c3, Option.bind_some, c4, Bool.and_self, w1], by omega⟩)
    (by
      rintro f k ⟨b, cl, v⟩ hf hk hb hI
      simp only at hI ⊢
      have c1 : decide ((k : Int) ≤ len s.bytes) = true := by rw [len_nat]; exact decide_eq_true (by omega)
      have c5 : ∃ x1, (if (decide ((k : Int) < len s.bytes)) then (sidx? s (k : Int)) else some default) = some x1 ∧ ((decide ((k : Int) < len s.bytes)) && (x1 != 124)) = false := by
        by_cases he : k = s.bytes.length
        · have c2 : decide ((k : Int) < len s.bytes) = false := by rw [len_nat]; exact decide_eq_false (by omega)
          exact ⟨_, by rw [c2]; rfl, by rw [c2]; rfl⟩
        · have c2 : decide ((k : Int) < len s.bytes) = true := by rw [len_nat]; exact decide_eq_true (by omega)
          have hlt : k < s.bytes.length := by omega
          refine ⟨_, by rw [c2]; exact sidx_nat (s := s) hlt, ?_⟩
          have := byte_eq s.bytes[k] 124
          rw [decide_eq_true (hb hlt)] at this
          have h3 : (((s.bytes[k].toNat : Int) != 124) : Bool) = false := by simp only [bne]; rw [show (124 : Int) = (((124 : UInt8).toNat : Nat) : Int) from rfl, this]; rfl
          rw [h3, Bool.and_false]
      obtain ⟨x1, c6, c7⟩ := c5
      have c8 := scut_eq (s := s) hf hk
      have hpl : (⟨(s.bytes.take k).drop f⟩ : Str).bytes.length ≤ 1048576 := by simp only [List.length_drop, List.length_take]; omega
      have c9 := spec_int (s := ⟨(s.bytes.take k).drop f⟩) (by omega)
      have c10 := spec_pints (s := ⟨(s.bytes.take k).drop f⟩) hpl
      have w1 : w64 ((k : Int) + 1) = ((k + 1 : Nat) : Int) := by rw [w64_id (by omega) (by omega)]; omega
      simp only [c1, if_true, c6, Option.bind_some, c7, Bool.false_eq_true, if_false, c8, c9, c10, w1, actF]
      cases b with
      | true =>
        simp only [if_true]
        generalize parseN ⟨(s.bytes.take k).drop f⟩ = r
        obtain ⟨u, b⟩ := r
        cases b with
        | false => exact .inr ⟨by simp, by simp⟩
        | true => exact .inl ⟨(false, cl, u), by simp, by simp, by show cl.length ≤ k + 1; omega⟩
      | false =>
        simp only [Bool.false_eq_true, if_false]
        generalize pInts ⟨(s.bytes.take k).drop f⟩ = r
        obtain ⟨u, b⟩ := r
        cases b with
        | false => exact .inr ⟨by simp, by simp⟩
        | true => exact .inl ⟨(false, cl ++ [u], v), by simp, by simp [app_one (l := cl) (x := u) (by omega)], by simp; omega⟩)
    (by
      rintro f ⟨b, cl, v⟩ _
      have c1 : decide ((((s.bytes.length + 1 : Nat)) : Int) ≤ len s.bytes) = false := by rw [len_nat]; exact decide_eq_false (by omega)
      simp only [c1, Bool.false_eq_true, if_false]) (a0 := (true, [], 0)) (by simp) (n := fuel) (by omega)
  have h2 : iterN _ fuel ((0 : Int), true, (0 : Int), ([] : List (List Int)), (0 : Int)) = _ := this
  rw [h2]
  have hpl := pieces_len (c := 124) hs
  generalize hpc : (cutS 124 [] s.bytes).map Str.mk = pc at hpl
  cases pc with
  | nil => exact absurd hpc (by simpa using cut_ne 124 s.bytes [])
  | cons p l =>
    have e1 : foldO actF (p :: l) (true, [], 0) = if (parseN p).2 then (foldO actC l []).map (fun c => (false, c, (parseN p).1)) else none := by
      rw [foldO]
      unfold actF
      simp only [if_true]
      cases (parseN p).2 with
      | false => rfl
      | true => simp only [if_true, Option.bind_some]; exact actF_fold _ _ _
    rw [e1]
    simp only
    cases (parseN p).2 with
    | false => rfl
    | true =>
      simp only [if_true]
      cases hc : foldO actC l [] with
      | none => rfl
      | some cl =>
        have hcl := clauses_len (fun x hx => hpl x (List.mem_cons_of_mem _ hx)) hc
        exact spec_tail (s := s) (f := ⟨(parseN p).1, cl⟩) hcl
theorem impl_read {s : Str} (hs : s.bytes.length ≤ 1048576) : impl_ParseFormula fuel s = some (readF s) := by
  have hfu : fuel = 1048580 := rfl
  unfold impl_ParseFormula readF
  rw [split_eq (by omega), Option.bind_some]
  have hpl := pieces_len (c := 124) hs
  have hcn := cut_cnt 124 s.bytes []
  have hne : (cutS 124 [] s.bytes).map Str.mk ≠ [] := by simpa using cut_ne 124 s.bytes []
  have hcn2 : ((cutS 124 [] s.bytes).map Str.mk).length ≤ 1048577 := by rw [List.length_map]; omega
  generalize (cutS 124 [] s.bytes).map Str.mk = pc at hpl hne hcn2
  cases pc with
  | nil => exact absurd rfl hne
  | cons p l =>
    have g0 : get? (p :: l) 0 = some p := rfl
    simp only [List.length_cons] at hcn2
    have g1 : cut? (p :: l) 1 (len (p :: l)) = some l := by
      unfold cut?
      rw [len_nat, if_pos ⟨by omega, by simp; omega, by simp⟩]
      simp
    have g2 : vcut (p :: l) 1 (List.length l) = l := by unfold vcut; simp
    have c3 := impl_int (s := p) (by have := hpl p List.mem_cons_self; omega)
    simp only [g0, Option.bind_some, c3, g1, g2]
    cases (parseN p).2 with
    | false => rfl
    | true =>
      simp only [Bool.not_true, Bool.false_eq_true, if_false, if_true]
      have hpl' := fun x hx => hpl x (List.mem_cons_of_mem p hx)
      have := list_loop (B := fun (s1 : Int × (List (List Int))) =>
        if (decide (s1.1 < (len l))) then
          (get? l s1.1).bind fun x5 =>
          (impl_ParseInts fuel x5).bind fun x6 =>
          if (!x6.2) then
            some (.inr (.inr ((D.Formula.mk 0 ([] : List (List Int))), false)))
          else
            (app? s1.2 ([x6.1] : List (List Int))).bind fun x7 =>
            some (.inl ((w64 (s1.1 + 1)), x7))
        else
          some (.inr (.inl (s1.2) : (List (List Int)) ⊕ (D.Formula × Bool)))) (l := l) (enc := fun k a => ((k : Int), a)) (act := actC) (I := fun k a => a.length ≤ k) (fin := fun a => .inl a) (rej := .inr (⟨0, []⟩, false))
        (by
          intro k a hk hI
          have c1 : decide ((k : Int) < len l) = true := by rw [len_nat]; exact decide_eq_true (by omega)
          have c2 : get? l (k : Int) = some l[k] := by rw [get?_nat, List.getElem?_eq_getElem hk]
          have c3 := impl_pints (s := l[k]) (hpl' l[k] (List.getElem_mem hk))
          have w1 : w64 ((k : Int) + 1) = ((k + 1 : Nat) : Int) := by rw [w64_id (by omega) (by omega)]; omega
          simp only [c1, if_true, c2, Option.bind_some, c3, w1, actC]
          generalize pInts l[k] = r
          obtain ⟨v, b⟩ := r
          cases b with
          | false => exact .inr ⟨by simp, by simp⟩
          | true => exact .inl ⟨a ++ [v], by simp, by simp [app_one (l := a) (x := v) (by omega)], by simp; omega⟩)
        (by
          intro a _
          have c1 : decide ((l.length : Int) < len l) = false := by rw [len_nat]; exact decide_eq_false (by omega)
          simp only [c1, Bool.false_eq_true, if_false]) (a0 := []) (by simp) (n := fuel) (by omega)
      have h2 : iterN _ fuel ((0 : Int), ([] : List (List Int))) = _ := this
      rw [h2]
      cases hc : foldO actC l [] with
      | none => rfl
      | some cl =>
        have hcl := clauses_len hpl' hc
        exact impl_tail (s := s) (f := ⟨(parseN p).1, cl⟩) hcl
theorem fin_FnExactParseFormula (s : Str) : ∃ n, laws_FnExactParseFormula n s = some true := by
  refine ⟨fuel, ?_⟩
  unfold laws_FnExactParseFormula
  by_cases hl : s.bytes.length ≤ 1048576
  case neg => rw [if_pos (by rw [len_nat]; simp; omega)]
  rw [if_neg (by rw [len_nat]; simp; omega), spec_read hl, impl_read hl]
  have hs : smallL (readF s).1.Clauses := by
    have h0 : smallL [] := ⟨by simp, fun x hx => by cases hx⟩
    unfold readF
    split
    · exact h0
    · split
      · split
        · unfold fin2
          split
          · rename_i h
            simp only [Bool.and_eq_true] at h
            obtain ⟨-, h2, h3⟩ := form_all h.1
            exact ⟨by simp only at h2 ⊢; omega, fun x hx => by have := (h3 x hx).1; omega⟩
          · exact h0
        · exact h0
      · exact h0
  generalize readF s = R at hs
  have m2 : laws_markFormula fuel R.1 1 = some (1 + cnt R.1.Clauses, ⟨R.1.Vars, upSS 1 R.1.Clauses⟩) := by
    unfold laws_markFormula
    rw [markIntSS_eq (by omega) (by omega) hs]
    rfl
  have hcn := cnt_nn R.1.Clauses
  have m3 : laws_heldFormula fuel ⟨R.1.Vars, upSS 1 R.1.Clauses⟩ 1 = some (1 + cnt R.1.Clauses) := by
    unfold laws_heldFormula
    simp only
    rw [heldIntSS_eq (by omega) (by omega) hs]
    simp only [Option.bind_some]
    rw [if_neg (by simp; omega)]
  have m4 : laws_eqFormula fuel R.1 R.1 = some true := by
    unfold laws_eqFormula
    rw [if_neg (by simp), eqIntSS_refl hs]
    rfl
  simp only [m2, m3, m4, Option.bind_some]
  have e2 : ¬ (1 : Int) + cnt R.1.Clauses < 0 := by omega
  simp [e2]
end Go.Proofs.YtmmhbhhcloobnaaDoor
