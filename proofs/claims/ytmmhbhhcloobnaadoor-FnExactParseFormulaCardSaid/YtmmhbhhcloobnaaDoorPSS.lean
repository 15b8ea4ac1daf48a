/- Lists of lists: eq, mark, held. No program in sight. -/
import Derived.Test.YtmmhbhhcloobnaaDoorPlain
namespace Go.Proofs.YtmmhbhhcloobnaaDoor
open Go.GL
/-- lists of lists -/
def smallL (l : List (List Int)) : Prop := l.length ≤ 100000 ∧ ∀ x ∈ l, x.length ≤ 1000
theorem eqIntSS_refl {l : List (List Int)} (h : smallL l) : laws_eqIntSS fuel l l = some true := by
  unfold laws_eqIntSS
  rw [if_neg (by simp)]
  rw [iterN_up (I := fun k s => s = (k : Int)) (m := l.length) (r := .inl ()) (fun k s hk hs => ?_) (fun s hs => ?_) l.length 0 _ (by omega) (by simp) fuel (lt_fuel (by have := h.1; omega))]
  · rfl
  all_goals subst hs
  · refine ⟨((k + 1 : Nat) : Int), ?_, rfl⟩
    rw [if_pos (by rw [len_nat]; simp; omega), get?_nat, List.getElem?_eq_getElem hk]
    have h1 := h.2 _ (List.getElem_mem hk)
    have h2 := h.1
    simp only [Option.bind_some]
    rw [eqIntS_eq (by omega)]
    simp only [Option.bind_some, decide_true]
    rw [if_neg (by simp), w64_id (by omega) (by omega)]
    rfl
  · rw [if_neg (by rw [len_nat]; simp)]
def cnt : List (List Int) → Int
  | [] => 0
  | x :: l => x.length + cnt l
def upSS : Int → List (List Int) → List (List Int)
  | _, [] => []
  | k, x :: l => upI k x.length :: upSS (k + x.length) l
theorem cnt_nn (l : List (List Int)) : 0 ≤ cnt l := by
  induction l with
  | nil => simp [cnt]
  | cons x l ih => simp only [cnt]; omega
theorem cnt_le {l : List (List Int)} (h : ∀ x ∈ l, x.length ≤ 1000) : cnt l ≤ 1000 * l.length := by
  induction l with
  | nil => simp [cnt]
  | cons x l ih =>
    have := ih fun y hy => h y (List.mem_cons_of_mem _ hy)
    have := h x List.mem_cons_self
    simp only [cnt, List.length_cons]; omega
theorem upSS_len (k : Int) (l : List (List Int)) : (upSS k l).length = l.length := by
  induction l generalizing k with
  | nil => rfl
  | cons x l ih => simp [upSS, ih]
theorem cnt_take {l : List (List Int)} {k : Nat} (hk : k < l.length) : cnt (l.take (k + 1)) = cnt (l.take k) + l[k].length := by
  induction l generalizing k with
  | nil => simp at hk
  | cons x l ih =>
    cases k with
    | zero => simp [cnt]
    | succ k =>
      have := ih (k := k) (by simpa using hk)
      simp only [List.take_succ_cons, cnt, List.getElem_cons_succ]
      omega
theorem upSS_get {l : List (List Int)} {k : Int} {i : Nat} (hi : i < l.length) : (upSS k l)[i]? = some (upI (k + cnt (l.take i)) l[i].length) := by
  induction l generalizing k i with
  | nil => simp at hi
  | cons x l ih =>
    cases i with
    | zero => simp [upSS, cnt]
    | succ i =>
      have := ih (k := k + x.length) (i := i) (by simpa using hi)
      simp only [upSS, List.getElem?_cons_succ, this, List.take_succ_cons, cnt, List.getElem_cons_succ]
      congr 2; omega
theorem cnt_le_take {l : List (List Int)} (h : smallL l) (i : Nat) : cnt (l.take i) ≤ 100000000 := by
  have h1 := cnt_le (l := l.take i) (fun x hx => h.2 x (List.mem_of_mem_take hx))
  have h2 : (l.take i).length ≤ l.length := by rw [List.length_take]; omega
  have := h.1
  omega
theorem markIntSS_eq {l : List (List Int)} {k : Int} (hk : 0 ≤ k) (hb : k ≤ 1000000000) (h : smallL l) : laws_markIntSS fuel l k = some (k + cnt l, upSS k l) := by
  have h1 := h.1
  unfold laws_markIntSS
  rw [iterN_up (I := fun i s => s = (k + cnt (l.take i), (i : Int), (upSS k l).take i ++ l.drop i)) (m := l.length) (r := (k + cnt l, upSS k l)) (fun i s hi hs => ?_) (fun s hs => ?_) l.length 0 _ (by omega) (by simp [cnt]) fuel (lt_fuel (by omega))]
  · rfl
  all_goals subst hs
  · refine ⟨_, ?_, rfl⟩
    have hc := cnt_le_take h i
    have hc0 := cnt_nn (l.take i)
    have hx := h.2 _ (List.getElem_mem hi)
    have hlen : ((upSS k l).take i).length = i := by rw [List.length_take, upSS_len]; omega
    simp only
    rw [if_pos (by rw [len_nat]; simp; omega), get?_nat, List.getElem?_append_right (by omega), hlen, Nat.sub_self, List.getElem?_drop, Nat.add_zero, List.getElem?_eq_getElem hi]
    simp only [Option.bind_some]
    rw [markIntS_eq (by omega) (by omega) (by omega)]
    simp only [Option.bind_some]
    rw [set?_nat (by simp [hlen]; omega)]
    simp only [Option.bind_some]
    rw [w64_id (by omega) (by omega), cnt_take hi]
    simp only [Option.some.injEq, Sum.inl.injEq, Prod.mk.injEq]
    refine ⟨by omega, by omega, ?_⟩
    · rw [List.set_append_right _ _ (by omega), hlen, Nat.sub_self, List.drop_eq_getElem_cons hi, List.set_cons_zero]
      have e : (upSS k l).take (i + 1) = (upSS k l).take i ++ [upI (k + cnt (l.take i)) l[i].length] := by
        rw [List.take_add_one, upSS_get hi]; rfl
      rw [e, List.append_assoc, List.singleton_append]
  · simp only
    rw [if_neg (by rw [len_nat]; simp)]
    simp [List.take_of_length_le, upSS_len]
theorem heldIntSS_eq {l : List (List Int)} {k : Int} (hk : 0 ≤ k) (hb : k ≤ 1000000000) (h : smallL l) : laws_heldIntSS fuel (upSS k l) k = some (k + cnt l) := by
  have h1 := h.1
  unfold laws_heldIntSS
  rw [iterN_up (I := fun i s => s = (k + cnt (l.take i), (i : Int))) (m := l.length) (r := .inl (k + cnt l)) (fun i s hi hs => ?_) (fun s hs => ?_) l.length 0 _ (by omega) (by simp [cnt]) fuel (lt_fuel (by omega))]
  · rfl
  all_goals subst hs
  · refine ⟨_, ?_, rfl⟩
    have hc := cnt_le_take h i
    have hc0 := cnt_nn (l.take i)
    have hx := h.2 _ (List.getElem_mem hi)
    simp only
    rw [if_pos (by rw [len_nat, upSS_len]; simp; omega), get?_nat, upSS_get hi]
    simp only [Option.bind_some]
    rw [heldIntS_eq (by omega) (by omega) (by omega)]
    simp only [Option.bind_some]
    rw [if_neg (by simp; omega), w64_id (by omega) (by omega), cnt_take hi]
    simp only [Option.some.injEq, Sum.inl.injEq, Prod.mk.injEq]
    omega
  · simp only
    rw [if_neg (by rw [len_nat, upSS_len]; simp)]
    simp

end Go.Proofs.YtmmhbhhcloobnaaDoor
