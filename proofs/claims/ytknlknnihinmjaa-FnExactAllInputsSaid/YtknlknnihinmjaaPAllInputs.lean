/- The plain law of this claim. No program in sight. -/
import Derived.Test.YtknlknnihinmjaaPlain
namespace Go.Proofs.Ytknlknnihinmjaa
open Go.GL
/-- lists of lists -/
def smallL (l : List (List Int)) : Prop := l.length ≤ 100000 ∧ ∀ x ∈ l, x.length ≤ 1000
theorem eqIntSS_refl {l : List (List Int)} (h : smallL l) : laws_eqIntSS fuel l l = some true := by
  unfold laws_eqIntSS
  rw [if_neg (by simp)]
  rw [iterN_up (I := fun k s => s = (k : Int)) (m := l.length) (r := .inl ()) (fun k s hk hs => ?_) (fun s hs => ?_) l.length 0 _ (by omega) (by simp) fuel (lt_fuel (by have := h.1; omega))]
  · rfl
  all_goals subst hs
  · refine ⟨((k + 1 : Nat) : Int), ?_, rfl⟩
    rw [if_pos (by rw [len_nat]; simp; omega), get?_nat, List.getElem?_eq_getElem hk]
    have h1 := h.2 _ (List.getElem_mem hk)
    have h2 := h.1
    simp only [Option.bind_some]
    rw [eqIntS_eq (by omega)]
    simp only [Option.bind_some, decide_true]
    rw [if_neg (by simp), w64_id (by omega) (by omega)]
    rfl
  · rw [if_neg (by rw [len_nat]; simp)]
def cnt : List (List Int) → Int
  | [] => 0
  | x :: l => x.length + cnt l
def upSS : Int → List (List Int) → List (List Int)
  | _, [] => []
  | k, x :: l => upI k x.length :: upSS (k + x.length) l
theorem cnt_nn (l : List (List Int)) : 0 ≤ cnt l := by
  induction l with
  | nil => simp [cnt]
  | cons x l ih => simp only [cnt]; omega
theorem cnt_le {l : List (List Int)} (h : ∀ x ∈ l, x.length ≤ 1000) : cnt l ≤ 1000 * l.length := by
  induction l with
  | nil => simp [cnt]
  | cons x l ih =>
    have := ih fun y hy => h y (List.mem_cons_of_mem _ hy)
    have := h x List.mem_cons_self
    simp only [cnt, List.length_cons]; omega
theorem upSS_len (k : Int) (l : List (List Int)) : (upSS k l).length = l.length := by
  induction l generalizing k with
  | nil => rfl
  | cons x l ih => simp [upSS, ih]
theorem cnt_take {l : List (List Int)} {k : Nat} (hk : k < l.length) : cnt (l.take (k + 1)) = cnt (l.take k) + l[k].length := by
  induction l generalizing k with
  | nil => simp at hk
  | cons x l ih =>
    cases k with
    | zero => simp [cnt]
    | succ k =>
      have := ih (k := k) (by simpa using hk)
      simp only [List.take_succ_cons, cnt, List.getElem_cons_succ]
      omega
theorem upSS_get {l : List (List Int)} {k : Int} {i : Nat} (hi : i < l.length) : (upSS k l)[i]? = some (upI (k + cnt (l.take i)) l[i].length) := by
  induction l generalizing k i with
  | nil => simp at hi
  | cons x l ih =>
    cases i with
    | zero => simp [upSS, cnt]
    | succ i =>
      have := ih (k := k + x.length) (i := i) (by simpa using hi)
      simp only [upSS, List.getElem?_cons_succ, this, List.take_succ_cons, cnt, List.getElem_cons_succ]
      congr 2; omega
theorem cnt_le_take {l : List (List Int)} (h : smallL l) (i : Nat) : cnt (l.take i) ≤ 100000000 := by
  have h1 := cnt_le (l := l.take i) (fun x hx => h.2 x (List.mem_of_mem_take hx))
  have h2 : (l.take i).length ≤ l.length := by rw [List.length_take]; omega
  have := h.1
  omega
theorem markIntSS_eq {l : List (List Int)} {k : Int} (hk : 0 ≤ k) (hb : k ≤ 1000000000) (h : smallL l) : laws_markIntSS fuel l k = some (k + cnt l, upSS k l) := by
  have h1 := h.1
  unfold laws_markIntSS
  rw [iterN_up (I := fun i s => s = (k + cnt (l.take i), (i : Int), (upSS k l).take i ++ l.drop i)) (m := l.length) (r := (k + cnt l, upSS k l)) (fun i s hi hs => ?_) (fun s hs => ?_) l.length 0 _ (by omega) (by simp [cnt]) fuel (lt_fuel (by omega))]
  · rfl
  all_goals subst hs
  · refine ⟨_, ?_, rfl⟩
    have hc := cnt_le_take h i
    have hc0 := cnt_nn (l.take i)
    have hx := h.2 _ (List.getElem_mem hi)
    have hlen : ((upSS k l).take i).length = i := by rw [List.length_take, upSS_len]; omega
    simp only
    rw [if_pos (by rw [len_nat]; simp; omega), get?_nat, List.getElem?_append_right (by omega), hlen, Nat.sub_self, List.getElem?_drop, Nat.add_zero, List.getElem?_eq_getElem hi]
    simp only [Option.bind_some]
    rw [markIntS_eq (by omega) (by omega) (by omega)]
    simp only [Option.bind_some]
    rw [set?_nat (by simp [hlen]; omega)]
    simp only [Option.bind_some]
    rw [w64_id (by omega) (by omega), cnt_take hi]
    simp only [Option.some.injEq, Sum.inl.injEq, Prod.mk.injEq]
    refine ⟨by omega, by omega, ?_⟩
    · rw [List.set_append_right _ _ (by omega), hlen, Nat.sub_self, List.drop_eq_getElem_cons hi, List.set_cons_zero]
      have e : (upSS k l).take (i + 1) = (upSS k l).take i ++ [upI (k + cnt (l.take i)) l[i].length] := by
        rw [List.take_add_one, upSS_get hi]; rfl
      rw [e, List.append_assoc, List.singleton_append]
  · simp only
    rw [if_neg (by rw [len_nat]; simp)]
    simp [List.take_of_length_le, upSS_len]
theorem heldIntSS_eq {l : List (List Int)} {k : Int} (hk : 0 ≤ k) (hb : k ≤ 1000000000) (h : smallL l) : laws_heldIntSS fuel (upSS k l) k = some (k + cnt l) := by
  have h1 := h.1
  unfold laws_heldIntSS
  rw [iterN_up (I := fun i s => s = (k + cnt (l.take i), (i : Int))) (m := l.length) (r := .inl (k + cnt l)) (fun i s hi hs => ?_) (fun s hs => ?_) l.length 0 _ (by omega) (by simp [cnt]) fuel (lt_fuel (by omega))]
  · rfl
  all_goals subst hs
  · refine ⟨_, ?_, rfl⟩
    have hc := cnt_le_take h i
    have hc0 := cnt_nn (l.take i)
    have hx := h.2 _ (List.getElem_mem hi)
    simp only
    rw [if_pos (by rw [len_nat, upSS_len]; simp; omega), get?_nat, upSS_get hi]
    simp only [Option.bind_some]
    rw [heldIntS_eq (by omega) (by omega) (by omega)]
    simp only [Option.bind_some]
    rw [if_neg (by simp; omega), w64_id (by omega) (by omega), cnt_take hi]
    simp only [Option.some.injEq, Sum.inl.injEq, Prod.mk.injEq]
    omega
  · simp only
    rw [if_neg (by rw [len_nat, upSS_len]; simp)]
    simp

/-! all inputs of a program -/
def bitsAt (p : D.Program) (row : Nat) (k : Nat) : Int := band ((row : Int).fdiv (2 ^ min (p.W * k).toNat 64)) (2 ^ p.W.toNat - 1)
def rowAt (p : D.Program) (row : Nat) : List Int := (List.range p.In.toNat).map fun k => bitsAt p row (p.In.toNat - 1 - k)
def allP (p : D.Program) : List (List Int) := if progB p && decide (p.W * p.In ≤ 12) then (List.range (2 ^ (p.W * p.In).toNat)).map (rowAt p) else []
theorem prog_w {x : D.Program} (h : progB x = true) : 2 ≤ x.W ∧ x.W ≤ 8 ∧ 0 ≤ x.In ∧ x.In ≤ 3 := by
  unfold progB at h
  simp only [Bool.and_eq_true, decide_eq_true_eq] at h
  omega
theorem pow12 {n : Nat} (h : n ≤ 12) : 2 ^ n ≤ 4096 := Nat.le_trans (Nat.pow_le_pow_right (by omega) h) (by decide)
theorem shl1 {x : Int} (h0 : 0 ≤ x) (h1 : x ≤ 12) : shl? 1 x = some ((2 ^ x.toNat : Nat) : Int) := by
  unfold shl?
  have h2 := pow12 (n := x.toNat) (by omega)
  have e : (2 : Int) ^ x.toNat = ((2 ^ x.toNat : Nat) : Int) := (Int.natCast_pow 2 x.toNat).symm
  rw [if_neg (by omega), Nat.min_eq_left (by omega), Int.one_mul, e]
  generalize 2 ^ x.toNat = N at h2 ⊢
  rw [w64_id (by omega) (by omega)]
theorem wrapU {x : Int} (h0 : 0 ≤ x) (h1 : x ≤ 1000) : IntKind.u64.wrap x = x := by
  unfold IntKind.wrap
  simp [IntKind.bits, IntKind.signed]
  omega
theorem ones_w {w : Int} (h0 : 2 ≤ w) (h1 : w ≤ 8) : (shl? 1 w).bind (fun x => some (w64 (x - 1))) = some ((2 : Int) ^ w.toNat - 1) := by
  rw [shl1 (by omega) (by omega)]
  simp only [Option.bind_some]
  have h2 := pow12 (n := w.toNat) (by omega)
  have e : (2 : Int) ^ w.toNat = ((2 ^ w.toNat : Nat) : Int) := (Int.natCast_pow 2 w.toNat).symm
  rw [e]
  generalize 2 ^ w.toNat = N at h2 ⊢
  rw [w64_id (by omega) (by omega)]
theorem small_all (p : D.Program) : smallL (allP p) := by
  unfold allP
  split
  · rename_i h
    simp only [Bool.and_eq_true, decide_eq_true_eq] at h
    obtain ⟨h1, h2⟩ := h
    have := prog_w h1
    have h3 := pow12 (n := (p.W * p.In).toNat) (by omega)
    refine ⟨by simp; omega, fun x hx => ?_⟩
    obtain ⟨r, _, rfl⟩ := List.mem_map.1 hx
    simp [rowAt]; omega
  · exact ⟨by simp, fun x hx => by cases hx⟩
theorem muls {p : D.Program} (h1 : progB p = true) {k : Int} (h0 : 0 ≤ k) (hk : k ≤ 3) : 0 ≤ p.W * k ∧ p.W * k ≤ 24 ∧ w64 (p.W * k) = p.W * k := by
  have hw := prog_w h1
  have e1 : 0 ≤ p.W * k := Int.mul_nonneg (by omega) h0
  have e2 : p.W * k ≤ 8 * k := Int.mul_le_mul_of_nonneg_right (by omega) h0
  exact ⟨e1, by omega, w64_id (by omega) (by omega)⟩
theorem shr_row {p : D.Program} (h1 : progB p = true) {row k : Nat} (hk : k < 3) : shr? (row : Int) (p.W * (k : Int)) = some ((row : Int).fdiv (2 ^ min (p.W * k).toNat 64)) := by
  have := muls h1 (k := (k : Int)) (by omega) (by omega)
  unfold shr?
  rw [if_neg (by omega)]
theorem range_cons_in {n : Nat} (f : Nat → Int) (k : Nat) : (List.range k).map f ++ [f k] = (List.range (k + 1)).map f := by rw [List.range_succ, List.map_append]; rfl
theorem spec_row {p : D.Program} (h1 : progB p = true) (row : Nat) :
    iterN (fun (s2 : Int × (List Int)) =>
          if (decide (s2.1 ≥ 0)) then
            (shr? (row : Int) (w64 (s2.1 * p.W))).bind fun x3 =>
            (spec_WordOf p.W x3).bind fun x4 =>
            (app? s2.2 ([x4] : List Int)).bind fun x5 =>
            some (.inl ((w64 (s2.1 - 1)), x5))
          else
            some (.inr (s2.2))
        ) fuel ((w64 (p.In - 1)), ([] : List Int)) = some (rowAt p row) := by
  have hw := prog_w h1
  rw [w64_id (x := p.In - 1) (by omega) (by omega)]
  refine iterN_up (I := fun k s => s = (p.In - 1 - (k : Int), (List.range k).map fun k => bitsAt p row (p.In.toNat - 1 - k))) (m := p.In.toNat) (fun k s hk hs => ?_) (fun s hs => ?_) p.In.toNat 0 _ (by omega) (by simp) fuel (lt_fuel (by omega))
  all_goals subst hs
  · refine ⟨_, ?_, rfl⟩
    have hk2 : p.In - 1 - (k : Int) = ((p.In.toNat - 1 - k : Nat) : Int) := by omega
    have hm := muls h1 (k := p.In - 1 - (k : Int)) (by omega) (by omega)
    simp only
    rw [if_pos (by simp; omega), Int.mul_comm (p.In - 1 - (k : Int)) p.W, hm.2.2, hk2, shr_row h1 (by omega)]
    simp only [Option.bind_some]
    have hwd : ∀ x, spec_WordOf p.W x = some (band x (2 ^ p.W.toNat - 1)) := by
      intro x
      unfold spec_WordOf spec_l01In
      simp only [Option.bind_some]
      rw [if_neg (by simp; omega)]
      have := ones_w (w := p.W) (by omega) (by omega)
      cases hs : shl? 1 p.W with
      | none => rw [hs] at this; cases this
      | some y =>
        rw [hs] at this
        simp only [Option.bind_some, Option.some.injEq] at this
        simp only [Option.bind_some, this]
    rw [hwd]
    simp only [Option.bind_some]
    have happ : ∀ x, app? ((List.range k).map fun k => bitsAt p row (p.In.toNat - 1 - k)) [x] = some (((List.range k).map fun k => bitsAt p row (p.In.toNat - 1 - k)) ++ [x]) := by
      intro x; unfold app?; rw [if_pos (by simp; unfold room; omega)]
    rw [happ]
    simp only [Option.bind_some]
    rw [w64_id (by omega) (by omega)]
    simp only [Option.some.injEq, Sum.inl.injEq, Prod.mk.injEq]
    refine ⟨by omega, ?_⟩
    rw [← range_cons_in (n := 0)]
    rfl
  · simp only
    rw [if_neg (by simp; omega)]
    rfl
theorem impl_row {p : D.Program} (h1 : progB p = true) (row : Nat) : ((mk? p.In (0 : Int)).bind fun x4 =>
        (iterN (fun (s2 : Int × (List Int)) =>
          if (decide (s2.1 < (len x4))) then
            (shr? (row : Int) (IntKind.u64.wrap (w64 (p.W * (w64 ((w64 (p.In - 1)) - s2.1)))))).bind fun x5 =>
            (impl_onesOf p.W).bind fun x6 =>
            (set? s2.2 s2.1 (band x5 x6)).bind fun x7 =>
            some (.inl ((w64 (s2.1 + 1)), x7))
          else
            some (.inr (s2.2))
        ) fuel (0, x4))) = some (rowAt p row) := by
  have hw := prog_w h1
  have hmk : mk? p.In (0 : Int) = some (List.replicate p.In.toNat 0) := by
    unfold mk?; rw [if_pos ⟨by omega, by unfold room; omega⟩]
  rw [hmk]
  simp only [Option.bind_some]
  rw [iterN_up (I := fun k s => s = ((k : Int), pre (fun k => bitsAt p row (p.In.toNat - 1 - k)) (List.replicate p.In.toNat 0) k)) (m := p.In.toNat) (r := rowAt p row) (fun k s hk hs => ?_) (fun s hs => ?_) p.In.toNat 0 _ (by omega) (by simp [pre_zero]) fuel (lt_fuel (by omega))]
  all_goals subst hs
  · refine ⟨_, ?_, rfl⟩
    have hk2 : p.In - 1 - (k : Int) = ((p.In.toNat - 1 - k : Nat) : Int) := by omega
    have hm := muls h1 (k := p.In - 1 - (k : Int)) (by omega) (by omega)
    simp only
    rw [if_pos (by rw [len_nat]; simp; omega), w64_id (x := p.In - 1) (by omega) (by omega), w64_id (x := p.In - 1 - (k : Int)) (by omega) (by omega), hm.2.2, wrapU hm.1 (by omega), hk2, shr_row h1 (by omega)]
    simp only [Option.bind_some]
    have hon : impl_onesOf p.W = some (2 ^ p.W.toNat - 1) := by
      unfold impl_onesOf
      rw [wrapU (by omega) (by omega)]
      exact ones_w (by omega) (by omega)
    rw [hon]
    simp only [Option.bind_some]
    rw [set?_nat (by rw [pre_len (by simp; omega)]; simp; omega)]
    simp only [Option.bind_some]
    rw [← pre_set (by simp; omega), w64_id (by omega) (by omega)]
    rfl
  · simp only
    rw [if_neg (by rw [len_nat]; simp)]
    have : pre (fun k => bitsAt p row (p.In.toNat - 1 - k)) (List.replicate p.In.toNat 0) p.In.toNat = rowAt p row := by
      have := pre_all (f := fun k => bitsAt p row (p.In.toNat - 1 - k)) (p := List.replicate p.In.toNat (0 : Int))
      simp only [List.length_replicate] at this
      exact this
    rw [this]
theorem spec_all {x : D.Program} (h : x.Code.length ≤ 1048576) : spec_AllInputs fuel x = some (allP x) := by
  unfold spec_AllInputs allP
  rw [spec_prog h]
  simp only [Option.bind_some]
  cases hb : progB x with
  | false => simp
  | true =>
    have hw := prog_w hb
    have hm := muls hb (k := x.In) (by omega) (by omega)
    by_cases h2 : x.W * x.In ≤ 12
    · have h3 := pow12 (n := (x.W * x.In).toNat) (by omega)
      rw [hm.2.2, if_neg (by simp; omega), if_pos (by simp; omega)]
      rw [iterN_up (I := fun k s => s = ((k : Int), (List.range k).map (rowAt x))) (m := 2 ^ (x.W * x.In).toNat) (r := (List.range (2 ^ (x.W * x.In).toNat)).map (rowAt x)) (fun k s hk hs => ?_) (fun s hs => ?_) (2 ^ (x.W * x.In).toNat) 0 _ (by omega) (by simp) fuel (lt_fuel (by omega))]
      · rfl
      all_goals subst hs
      · refine ⟨_, ?_, rfl⟩
        simp only
        rw [shl1 (by omega) (by omega)]
        simp only [Option.bind_some]
        rw [if_pos (by simp only [decide_eq_true_eq]; omega), spec_row hb]
        simp only [Option.bind_some]
        have happ : app? ((List.range k).map (rowAt x)) [rowAt x k] = some ((List.range (k + 1)).map (rowAt x)) := by
          unfold app?; rw [if_pos (by simp; unfold room; omega), List.range_succ, List.map_append]; rfl
        rw [happ]
        simp only [Option.bind_some]
        rw [w64_id (by omega) (by omega)]
        rfl
      · simp only
        rw [shl1 (by omega) (by omega)]
        simp only [Option.bind_some]
        rw [if_neg (by simp)]
    · rw [hm.2.2, if_pos (by simp; omega), if_neg (by simp; omega)]
theorem impl_all {x : D.Program} (h : x.Code.length ≤ 1048576) : impl_AllInputs fuel x = some (allP x) := by
  unfold impl_AllInputs allP
  rw [impl_prog h]
  simp only [Option.bind_some]
  cases hb : progB x with
  | false => simp
  | true =>
    have hw := prog_w hb
    have hm := muls hb (k := x.In) (by omega) (by omega)
    by_cases h2 : x.W * x.In ≤ 12
    · have h3 := pow12 (n := (x.W * x.In).toNat) (by omega)
      rw [hm.2.2, if_neg (by simp; omega), if_pos (by simp; omega), wrapU (by omega) (by omega), shl1 (by omega) (by omega)]
      simp only [Option.bind_some]
      have hmk : mk? ((2 ^ (x.W * x.In).toNat : Nat) : Int) ([] : List Int) = some (List.replicate (2 ^ (x.W * x.In).toNat) []) := by
        unfold mk?; rw [if_pos ⟨Int.natCast_nonneg _, by rw [Int.toNat_natCast]; unfold room; omega⟩, Int.toNat_natCast]
      rw [hmk]
      simp only [Option.bind_some]
      rw [iterN_up (I := fun k s => s = ((k : Int), pre (rowAt x) (List.replicate (2 ^ (x.W * x.In).toNat) []) k)) (m := 2 ^ (x.W * x.In).toNat) (r := (List.range (2 ^ (x.W * x.In).toNat)).map (rowAt x)) (fun k s hk hs => ?_) (fun s hs => ?_) (2 ^ (x.W * x.In).toNat) 0 _ (by omega) (by simp [pre_zero]) fuel (lt_fuel (by omega))]
      · rfl
      all_goals subst hs
      · refine ⟨_, ?_, rfl⟩
        simp only
        rw [if_pos (by rw [len_nat]; simp only [List.length_replicate, decide_eq_true_eq]; omega)]
        have := impl_row hb k
        rw [← Option.bind_assoc, this]
        simp only [Option.bind_some]
        rw [set?_nat (by rw [pre_len (by simp; omega)]; simp; omega)]
        simp only [Option.bind_some]
        rw [← pre_set (by simp; omega), w64_id (by omega) (by omega)]
        rfl
      · simp only
        rw [if_neg (by rw [len_nat]; simp)]
        have := pre_all (f := rowAt x) (p := List.replicate (2 ^ (x.W * x.In).toNat) ([] : List Int))
        simp only [List.length_replicate] at this
        rw [this]
    · rw [hm.2.2, if_pos (by simp; omega), if_neg (by simp; omega)]
theorem fin_FnExactAllInputs (x : D.Program) (hx : fit_Program x) : ∃ n, laws_FnExactAllInputs n x = some true := by
  refine ⟨fuel, ?_⟩
  unfold laws_FnExactAllInputs
  obtain ⟨r1, h1, c1⟩ := szProgram_eq (m := 1048576) hx (by omega) (by omega)
  rw [h1]
  simp only [Option.bind_some]
  rcases c1 with c1 | ⟨c1, c1', s1⟩
  · rw [if_pos (by simpa using c1)]
  rw [if_neg (by simp; omega)]
  obtain ⟨k1, q1, m1, b1, b1'⟩ := markProgram_ok (x := x) (k := 1) (by omega) (by omega) s1
  have hs := small_all x
  have m2 := markIntSS_eq (k := 1) (by omega) (by omega) hs
  have m3 := heldIntSS_eq (k := 1) (by omega) (by omega) hs
  have hc := cnt_nn (allP x)
  simp only [toProgram_eq s1, Option.bind_some, spec_all s1, impl_all s1, eqIntSS_refl hs, eqProgram_refl s1, m1, m2, m3]
  have e1 : ¬ k1 < 0 := by omega
  have e2 : ¬ (1 : Int) + cnt (allP x) < 0 := by omega
  simp [e1, e2]
end Go.Proofs.Ytknlknnihinmjaa
