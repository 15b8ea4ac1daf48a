/- The plain law of this claim: OutcomeTerm. No program in sight. -/
import Derived.Test.YtbljmkpofaibeaaGreatPLib2
import Derived.Test.YtbljmkpofaibeaaGreatPLib1
namespace Go.Proofs.YtbljmkpofaibeaaGreat
open Go.GL
set_option linter.unusedSimpArgs false
set_option maxRecDepth 100000
/-- the term of an end's code, or of an output -/
def ocm (p : D.Program) (k : Int) (s : D.Path) : D.Term := if k < 0 then ⟨0, 4, s.Code, ⟨[]⟩, []⟩ else match s.Out[k.toNat]? with | some t => t | none => ⟨0, p.W, 0, ⟨[]⟩, []⟩
theorem pathB_more {p : D.Program} {s : D.Path} (h : pathB p s = true) : progB p = true ∧ 0 ≤ s.Code ∧ s.Code ≤ 9 ∧ tsB s.Out p.W = true ∧ s.Out.length ≤ 6 ∧ tsB s.Cond 1 = true := by
  unfold pathB at h
  simp only [Bool.and_eq_true, decide_eq_true_eq, beq_iff_eq, len_nat] at h
  have h1 : progB p = true := by grind
  have h2 : 0 ≤ s.Code ∧ s.Code ≤ 9 := by grind
  have h3 : tsB s.Out p.W = true := by grind
  have h4 : (s.Out.length : Int) ≤ 6 := by grind
  have h5 : tsB s.Cond 1 = true := by grind
  exact ⟨h1, h2.1, h2.2, h3, by omega, h5⟩
theorem progB_W {p : D.Program} (h : progB p = true) : 1 ≤ p.W ∧ p.W ≤ 16 := by
  unfold progB at h
  simp only [Bool.and_eq_true, decide_eq_true_eq] at h
  omega
theorem code_ok {c : Int} (h0 : 0 ≤ c) (h9 : c ≤ 9) : wordB 4 c = true := by
  have : c = 0 ∨ c = 1 ∨ c = 2 ∨ c = 3 ∨ c = 4 ∨ c = 5 ∨ c = 6 ∨ c = 7 ∨ c = 8 ∨ c = 9 := by omega
  rcases this with rfl | rfl | rfl | rfl | rfl | rfl | rfl | rfl | rfl | rfl <;> decide
theorem const_fine {w v : Int} (h : wordB w v = true) : fine ⟨0, w, v, ⟨[]⟩, []⟩ := ⟨mk_const h, by rw [cnt0]; omega⟩
theorem ocm_fine {p : D.Program} {k : Int} {s : D.Path} (h : pathB p s = true) : fine (ocm p k s) := by
  obtain ⟨h1, h2, h3, h4, h5, h6⟩ := pathB_more h
  obtain ⟨w1, w2⟩ := progB_W h1
  unfold ocm
  split
  · exact const_fine (code_ok h2 h3)
  · split
    · rename_i t ht
      exact fine_of (tsB_mem h4 (List.mem_of_getElem? ht)).1
    · exact const_fine (zero_ok w1 w2)
theorem ocm_spec {p : D.Program} {k : Int} {s : D.Path} : spec_l07Outcome p s k = some (ocm p k s) := by
  unfold spec_l07Outcome ocm
  by_cases c : k < 0
  · rw [if_pos (by simpa using c), if_pos c]; rfl
  rw [if_neg (by simpa using c), if_neg c]
  by_cases c2 : k < len s.Out
  · rw [if_pos (by simpa using c2)]
    rw [len_nat] at c2
    obtain ⟨j, rfl⟩ : ∃ j : Nat, k = (j : Int) := ⟨k.toNat, by omega⟩
    rw [get?_nat, Int.toNat_natCast, List.getElem?_eq_getElem (by omega)]; rfl
  · rw [if_neg (by simpa using c2)]
    rw [len_nat] at c2
    rw [List.getElem?_eq_none (by omega)]; rfl
theorem ocm_impl {p : D.Program} {k : Int} {s : D.Path} (h : pathB p s = true) : impl_outcome p s k = some (ocm p k s) := by
  obtain ⟨h1, h2, h3, h4, h5, h6⟩ := pathB_more h
  obtain ⟨w1, w2⟩ := progB_W h1
  unfold impl_outcome ocm
  by_cases c : k < 0
  · rw [if_pos (by simpa using c), if_pos c, impl_const (code_ok h2 h3)]; rfl
  rw [if_neg (by simpa using c), if_neg c]
  by_cases c2 : k < len s.Out
  · rw [if_pos (by simpa using c2)]
    rw [len_nat] at c2
    obtain ⟨j, rfl⟩ : ∃ j : Nat, k = (j : Int) := ⟨k.toNat, by omega⟩
    rw [get?_nat, Int.toNat_natCast, List.getElem?_eq_getElem (by omega)]; rfl
  · rw [if_neg (by simpa using c2), impl_const (zero_ok w1 w2)]
    rw [len_nat] at c2
    rw [List.getElem?_eq_none (by omega)]; rfl
/-- from the last end to the first -/
noncomputable def dnT (p : D.Program) (k : Int) (l : List D.Path) : Nat → D.Term → D.Term × Bool
  | 0, t => (t, true)
  | j + 1, t => match l[j]? with
    | none => (t0, false)
    | some x => if (allT x.Cond).2 = true ∧ (mkT 17 t.W 0 [(allT x.Cond).1, ocm p k x, t]).2 = true then dnT p k l j (mkT 17 t.W 0 [(allT x.Cond).1, ocm p k x, t]).1 else (t0, false)
theorem dnT_fine {p : D.Program} {k : Int} {l : List D.Path} : ∀ {j : Nat} {t : D.Term}, fine t → (dnT p k l j t).2 = true → fine (dnT p k l j t).1
  | 0, t, ht, _ => ht
  | j + 1, t, ht, h => by
    unfold dnT at h ⊢
    split at h
    · cases h
    · split at h
      · rename_i x hx c
        rw [if_pos c] at *
        exact dnT_fine (mkT_fine c.2).1 h
      · cases h
theorem dnT_no {p : D.Program} {k : Int} {l : List D.Path} : ∀ {j : Nat} {t : D.Term}, (dnT p k l j t).2 = false → dnT p k l j t = (t0, false)
  | 0, t, h => by cases h
  | j + 1, t, h => by
    unfold dnT at h ⊢
    split at h
    · rfl
    · split at h
      · rename_i x hx c
        rw [if_pos c]
        exact dnT_no h
      · rename_i x hx c
        rw [if_neg c]
theorem sml3 {a b c : D.Term} (ha : msz a ≤ 2640) (hb : msz b ≤ 2640) (hc : msz c ≤ 2640) : sml [a, b, c] := by
  unfold sml
  rw [mszs_cons, mszs_cons, mszs_cons, mszs_nil]; simp; omega
theorem allT_sz' (l : List D.Term) : msz (allT l).1 ≤ 2640 := by
  cases c : (allT l).2
  · rw [allT_no c]; show msz t0 ≤ _; rw [msz_eq]; show 0 + 0 + mszs [] ≤ _; rw [mszs_nil]; simp
  · exact fine_sz (allT_fine c)
abbrev T5 := Int × Int × Int × Str × (List D.Term)
abbrev tup5 (t : D.Term) : T5 := (t.Op, t.W, t.N, t.Name, t.Kids)
theorem spec_dn {p : D.Program} {k : Int} {l : List D.Path} (hs : smallPS l) (hl : ∀ x ∈ l, pathB p x = true) : ∀ (j : Nat) (t : D.Term) (n : Nat), fine t → j ≤ l.length → j < n →
    iterN (fun (s2 : Int × Int × Int × Int × Str × (List D.Term)) =>
        if (decide (s2.1 ≥ 0)) then
          (get? l s2.1).bind fun x7 =>
          (spec_PathTerm fuel x7).bind fun x8 =>
          (get? l s2.1).bind fun x9 =>
          (spec_l07Outcome p x9 k).bind fun x10 =>
          (spec_MakeTerm fuel 17 s2.2.2.1 0 ([x8.1, x10, (D.Term.mk s2.2.1 s2.2.2.1 s2.2.2.2.1 s2.2.2.2.2.1 s2.2.2.2.2.2)] : List D.Term)).bind fun x11 =>
          if ((!x8.2) || (!x11.2)) then
            some (.inr (.inr ((D.Term.mk 0 0 0 ⟨[]⟩ ([] : List D.Term)), false)))
          else
            some (.inl ((w64 (s2.1 - 1)), x11.1.Op, x11.1.W, x11.1.N, x11.1.Name, x11.1.Kids))
        else
          some (.inr (.inl (s2.2.1, s2.2.2.1, s2.2.2.2.1, s2.2.2.2.2.1, s2.2.2.2.2.2))) : Int × T5 → Option ((Int × T5) ⊕ (T5 ⊕ (D.Term × Bool)))
      ) n ((j : Int) - 1, tup5 t) = some (if (dnT p k l j t).2 = true then (.inl (tup5 (dnT p k l j t).1) : T5 ⊕ (D.Term × Bool)) else .inr (t0, false)) := by
  intro j
  induction j with
  | zero =>
    intro t n ht _ hn
    refine iterN_stop ?_ hn
    simp only
    rw [if_neg (by simp)]; rfl
  | succ j ih =>
    intro t n ht hj hn
    obtain ⟨n, rfl⟩ : ∃ m, n = m + 1 := ⟨n - 1, by omega⟩
    have hx : l[j]? = some l[j] := List.getElem?_eq_getElem (by omega)
    have hm : l[j] ∈ l := List.getElem_mem _
    have hsx := hs.2 _ hm
    have e1 : ((j + 1 : Nat) : Int) - 1 = (j : Int) := by omega
    have e : (D.Term.mk t.Op t.W t.N t.Name t.Kids) = t := by cases t; rfl
    have ep : spec_PathTerm fuel l[j] = some (allT l[j].Cond) := by unfold spec_PathTerm; rw [spec_all hsx.2.2.2.2.1]; rfl
    have em := spec_mk (op := 17) (w := t.W) (m := 0) (ks := [(allT l[j].Cond).1, ocm p k l[j], t]) (sml3 (allT_sz' _) (fine_sz (ocm_fine (hl _ hm))) (fine_sz ht))
    have hl' := hs.1
    rw [e1]
    unfold dnT
    rw [hx]
    simp only
    by_cases c : (allT l[j].Cond).2 = true ∧ (mkT 17 t.W 0 [(allT l[j].Cond).1, ocm p k l[j], t]).2 = true
    · rw [if_pos c]
      rw [← ih _ n (mkT_fine c.2).1 (by omega) (by omega)]
      refine iterN_go ?_
      simp only [tup5, get?_nat, hx, Option.bind_some, ep, ocm_spec, e, em, c.1, c.2]
      rw [if_pos (by simp), if_neg (by simp), w64_id (by omega) (by omega)]
    · rw [if_neg c]
      refine iterN_stop ?_ (by omega)
      simp only [tup5, get?_nat, hx, Option.bind_some, ep, ocm_spec, e, em]
      rw [if_pos (by simp), if_pos]
      · rfl
      · simp only [Bool.or_eq_true, Bool.not_eq_true']
        by_cases c1 : (allT l[j].Cond).2 = true
        · exact .inr (by simpa [c1] using c)
        · exact .inl (by simpa using c1)
theorem impl_dn {p : D.Program} {k : Int} {l : List D.Path} (hs : smallPS l) (hl : ∀ x ∈ l, pathB p x = true) : ∀ (j : Nat) (t : D.Term) (n : Nat), fine t → j ≤ l.length → j < n →
    iterN (fun (s2 : Int × Int × Int × Int × Str × (List D.Term)) =>
        if (decide (s2.1 ≥ 0)) then
          (get? l s2.1).bind fun x6 =>
          (impl_allOf fuel x6.Cond).bind fun x7 =>
          if (!x7.2) then
            some (.inr (.inr ((D.Term.mk 0 0 0 ⟨[]⟩ ([] : List D.Term)), false)))
          else
            (get? l s2.1).bind fun x8 =>
            (impl_outcome p x8 k).bind fun x9 =>
            (impl_makeTerm fuel 17 s2.2.2.1 0 ([x7.1, x9, (D.Term.mk s2.2.1 s2.2.2.1 s2.2.2.2.1 s2.2.2.2.2.1 s2.2.2.2.2.2)] : List D.Term)).bind fun x10 =>
            if (!x10.2) then
              some (.inr (.inr ((D.Term.mk 0 0 0 ⟨[]⟩ ([] : List D.Term)), false)))
            else
              some (.inl ((w64 (s2.1 - 1)), x10.1.Op, x10.1.W, x10.1.N, x10.1.Name, x10.1.Kids))
        else
          some (.inr (.inl (s2.2.1, s2.2.2.1, s2.2.2.2.1, s2.2.2.2.2.1, s2.2.2.2.2.2))) : Int × T5 → Option ((Int × T5) ⊕ (T5 ⊕ (D.Term × Bool)))
      ) n ((j : Int) - 1, tup5 t) = some (if (dnT p k l j t).2 = true then (.inl (tup5 (dnT p k l j t).1) : T5 ⊕ (D.Term × Bool)) else .inr (t0, false)) := by
  intro j
  induction j with
  | zero =>
    intro t n ht _ hn
    refine iterN_stop ?_ hn
    simp only
    rw [if_neg (by simp)]; rfl
  | succ j ih =>
    intro t n ht hj hn
    obtain ⟨n, rfl⟩ : ∃ m, n = m + 1 := ⟨n - 1, by omega⟩
    have hx : l[j]? = some l[j] := List.getElem?_eq_getElem (by omega)
    have hm : l[j] ∈ l := List.getElem_mem _
    have hsx := hs.2 _ hm
    have e1 : ((j + 1 : Nat) : Int) - 1 = (j : Int) := by omega
    have e : (D.Term.mk t.Op t.W t.N t.Name t.Kids) = t := by cases t; rfl
    have ep := impl_all1 hsx.2.2.2.2.1
    have em := impl_mk (op := 17) (w := t.W) (m := 0) (ks := [(allT l[j].Cond).1, ocm p k l[j], t]) (sml3 (allT_sz' _) (fine_sz (ocm_fine (hl _ hm))) (fine_sz ht))
    have hl' := hs.1
    rw [e1]
    unfold dnT
    rw [hx]
    simp only
    by_cases c1 : (allT l[j].Cond).2 = true
    · by_cases c2 : (mkT 17 t.W 0 [(allT l[j].Cond).1, ocm p k l[j], t]).2 = true
      · rw [if_pos (show (allT l[j].Cond).2 = true ∧ (mkT 17 t.W 0 [(allT l[j].Cond).1, ocm p k l[j], t]).2 = true from ⟨c1, c2⟩)]
        rw [← ih _ n (mkT_fine c2).1 (by omega) (by omega)]
        refine iterN_go ?_
        simp only [tup5, get?_nat, hx, Option.bind_some, ep, ocm_impl (hl _ hm), e, em, c1, c2]
        rw [if_pos (by simp), if_neg (by simp), if_neg (by simp), w64_id (by omega) (by omega)]
      · rw [if_neg (show ¬ ((allT l[j].Cond).2 = true ∧ (mkT 17 t.W 0 [(allT l[j].Cond).1, ocm p k l[j], t]).2 = true) from fun q => c2 q.2)]
        refine iterN_stop ?_ (by omega)
        simp only [tup5, get?_nat, hx, Option.bind_some, ep, ocm_impl (hl _ hm), e, em, c1]
        rw [if_pos (by simp), if_neg (by simp), if_pos (by simpa using c2)]; rfl
    · rw [if_neg (show ¬ ((allT l[j].Cond).2 = true ∧ (mkT 17 t.W 0 [(allT l[j].Cond).1, ocm p k l[j], t]).2 = true) from fun q => c1 q.1)]
      refine iterN_stop ?_ (by omega)
      simp only [tup5, get?_nat, hx, Option.bind_some, ep]
      rw [if_pos (by simp), if_pos (by simpa using c1)]; rfl
/-- what OutcomeTerm gives -/
noncomputable def outT (p : D.Program) (l : List D.Path) (k : Int) : D.Term × Bool :=
  if (progB p && !(len l == 0) && decide (-1 ≤ k ∧ k ≤ 5) && l.all (pathB p)) = true then
    match l[l.length - 1]? with
    | none => (t0, false)
    | some x => dnT p k l (l.length - 1) (ocm p k x)
  else (t0, false)
theorem spec_out {p : D.Program} {l : List D.Path} {k : Int} (hp : p.Code.length ≤ 1048576) (hs : smallPS l) : spec_OutcomeTerm fuel p l k = some (outT p l k) := by
  unfold spec_OutcomeTerm outT
  simp only [spec_prog hp, l01In_eq, Option.bind_some, ite_def2, ite_def]
  cases progB p
  · simp; rfl
  by_cases c0 : l.length = 0
  · have : (len l == 0) = true := by rw [len_nat]; simp; exact List.length_eq_zero_iff.1 c0
    simp only [this]; simp; rfl
  have e0 : (len l == 0) = false := by rw [len_nat]; simp; exact fun e => c0 (by simp [e])
  by_cases c1 : -1 ≤ k ∧ k ≤ 5
  rotate_left
  · simp only [e0, c1]; simp; rfl
  simp only [e0, c1, Bool.not_true, Bool.or_self, Bool.false_eq_true, if_false, decide_true, and_self]
  rw [all_gen2 (l := l) (b := pathB p) (z := ((D.Term.mk 0 0 0 ⟨[]⟩ ([] : List D.Term)), false)) (fun x3 s1 => (spec_PathOk fuel p x3).bind fun x4 =>
        if (!x4) then
          some (.inr (.inr ((D.Term.mk 0 0 0 ⟨[]⟩ ([] : List D.Term)), false)))
        else
          some (.inl ((w64 (s1 + 1))))) (fun i x hx => by
    simp only [spec_path hp (hs.2 x (List.mem_of_getElem? hx)), Option.bind_some]
    cases pathB p x <;> simp) hs.1 (lt_fuel hs.1)]
  simp only [Option.bind_some]
  cases c2 : l.all (pathB p)
  · simp; rfl
  have hall : ∀ x ∈ l, pathB p x = true := List.all_eq_true.1 c2
  have hl := hs.1
  have ew : w64 (len l - 1) = ((l.length - 1 : Nat) : Int) := by rw [len_nat, w64_id (by omega) (by omega)]; omega
  have ew2 : w64 (len l - 2) = ((l.length - 1 : Nat) : Int) - 1 := by rw [len_nat, w64_id (by omega) (by omega)]; omega
  have hx : l[l.length - 1]? = some l[l.length - 1] := List.getElem?_eq_getElem (by omega)
  simp only [if_true, ew, ew2, get?_nat, hx, Option.bind_some]
  rw [ocm_spec]
  simp only [Option.bind_some]
  have hf : fine (ocm p k l[l.length - 1]) := ocm_fine (hall _ (List.getElem_mem _))
  have := spec_dn (k := k) hs hall (l.length - 1) _ fuel hf (by omega) (by unfold fuel; omega)
  rw [this]
  simp only [Option.bind_some]
  cases c3 : (dnT p k l (l.length - 1) (ocm p k l[l.length - 1])).2
  · rw [dnT_no c3]; simp
  · have hf2 := dnT_fine hf c3
    have e : ∀ t : D.Term, (D.Term.mk t.Op t.W t.N t.Name t.Kids) = t := fun t => by cases t; rfl
    simp only [if_true, e, cp_spec hf2.1 hf2.2, Option.bind_some]
    simp [← c3]
theorem impl_out {p : D.Program} {l : List D.Path} {k : Int} (hp : p.Code.length ≤ 1048576) (hs : smallPS l) : impl_OutcomeTerm fuel p l k = some (outT p l k) := by
  unfold impl_OutcomeTerm outT
  simp only [impl_prog hp, Option.bind_some]
  cases progB p
  · simp; rfl
  by_cases c0 : l.length = 0
  · have : (len l == 0) = true := by rw [len_nat]; simp; exact List.length_eq_zero_iff.1 c0
    simp only [this]; simp; rfl
  have e0 : (len l == 0) = false := by rw [len_nat]; simp; exact fun e => c0 (by simp [e])
  by_cases c1 : -1 ≤ k ∧ k ≤ 5
  rotate_left
  · have : k < -1 ∨ k > 5 := by omega
    have h2 : (decide (k < -1) || decide (k > 5)) = true := by simpa using this
    simp only [e0, c1, Bool.not_true, Bool.false_or, h2]; simp; rfl
  have n1 : ¬ k < -1 := by omega
  have n2 : ¬ k > 5 := by omega
  simp only [e0, c1, n1, n2, Bool.not_true, Bool.or_self, Bool.false_eq_true, if_false, decide_true, decide_false, and_self]
  rw [all_gen2 (l := l) (b := pathB p) (z := ((D.Term.mk 0 0 0 ⟨[]⟩ ([] : List D.Term)), false)) (fun x3 s1 => (impl_PathOk fuel p x3).bind fun x4 =>
        if (!x4) then
          some (.inr (.inr ((D.Term.mk 0 0 0 ⟨[]⟩ ([] : List D.Term)), false)))
        else
          some (.inl ((w64 (s1 + 1))))) (fun i x hx => by
    simp only [impl_path hp (hs.2 x (List.mem_of_getElem? hx)), Option.bind_some]
    cases pathB p x <;> simp) hs.1 (lt_fuel hs.1)]
  simp only [Option.bind_some]
  cases c2 : l.all (pathB p)
  · simp; rfl
  have hall : ∀ x ∈ l, pathB p x = true := List.all_eq_true.1 c2
  have hl := hs.1
  have ew : w64 (len l - 1) = ((l.length - 1 : Nat) : Int) := by rw [len_nat, w64_id (by omega) (by omega)]; omega
  have ew2 : w64 (len l - 2) = ((l.length - 1 : Nat) : Int) - 1 := by rw [len_nat, w64_id (by omega) (by omega)]; omega
  have hx : l[l.length - 1]? = some l[l.length - 1] := List.getElem?_eq_getElem (by omega)
  have hf : fine (ocm p k l[l.length - 1]) := ocm_fine (hall _ (List.getElem_mem _))
  simp only [if_true, ew, ew2, get?_nat, hx, Option.bind_some, ocm_impl (hall _ (List.getElem_mem _))]
  have := impl_dn (k := k) hs hall (l.length - 1) _ fuel hf (by omega) (by unfold fuel; omega)
  rw [this]
  simp only [Option.bind_some]
  cases c3 : (dnT p k l (l.length - 1) (ocm p k l[l.length - 1])).2
  · rw [dnT_no c3]; simp
  · have hf2 := dnT_fine hf c3
    have e : ∀ t : D.Term, (D.Term.mk t.Op t.W t.N t.Name t.Kids) = t := fun t => by cases t; rfl
    simp only [if_true, e, cp_impl hf2.1 hf2.2, Option.bind_some]
    simp [← c3]
theorem outT_sz (p : D.Program) (l : List D.Path) (k : Int) : msz (outT p l k).1 ≤ 1048576 ∧ sml (outT p l k).1.Kids := by
  have h0 : msz t0 ≤ 1048576 ∧ sml t0.Kids := ⟨t0_sz, t0_sml⟩
  unfold outT
  split
  · rename_i hc
    simp only [Bool.and_eq_true] at hc
    have hall : ∀ x ∈ l, pathB p x = true := List.all_eq_true.1 hc.2
    split
    · exact h0
    · rename_i x hx
      cases c3 : (dnT p k l (l.length - 1) (ocm p k x)).2
      · rw [dnT_no c3]; exact h0
      · have := dnT_fine (ocm_fine (hall _ (List.mem_of_getElem? hx))) c3
        exact ⟨by have := fine_sz this; omega, fine_sml this⟩
  · exact h0
theorem fin_FnExactOutcomeTerm (x : D.Program) (hx : fit_Program x) (y : List D.Path) (hy : fitList fit_Path y) (z : Int) (_ : fitInt z) : ∃ n, laws_FnExactOutcomeTerm n x y z = some true := by
  refine ⟨fuel, ?_⟩
  unfold laws_FnExactOutcomeTerm
  obtain ⟨r1, h1, c1⟩ := szProgram_eq (m := 1048576) hx (by omega) (by omega)
  rw [h1]
  simp only [Option.bind_some]
  rcases c1 with c1 | ⟨c1, c1', s1⟩
  · rw [if_pos (by simpa using c1)]
  rw [if_neg (by simp; omega)]
  obtain ⟨r2, h2, c2⟩ := szPathS_eq (m := r1) hy c1 c1'
  rw [h2]
  simp only [Option.bind_some]
  rcases c2 with c2 | ⟨c2, s2⟩
  · rw [if_pos (by simpa using c2)]
  rw [if_neg (by simp; omega)]
  obtain ⟨z1, z2⟩ := outT_sz x y z
  obtain ⟨k1, q1, m1, b1, b1'⟩ := markProgram_ok (x := x) (k := 1) (by omega) (by omega) s1
  obtain ⟨k2, q2, m2, b2, b2'⟩ := mark_paths (l := y) (k := k1) s2 (by omega) (by omega)
  obtain ⟨k3, q3, m3, b3, b3', hh⟩ := mark_term (t := (outT x y z).1) (k := 1) z2 (by omega) (by omega)
  have e1 : ¬ k2 < 0 := by omega
  have e2 : ¬ k3 < 0 := by omega
  simp [toProgram_eq s1, toPathS_eq s2, spec_out s1 s2, impl_out s1 s2, eq_term z1, eqProgram_refl s1, eqPathS_refl s2, m1, m2, m3, hh, e1, e2]
end Go.Proofs.YtbljmkpofaibeaaGreat
