/- Sorted lists, and what is left of them when neighbours are different. No program in sight. -/
import Derived.Test.YtknlknnihinmjaaGLv
import Derived.Test.YtknlknnihinmjaaDefs
namespace Go.Proofs.Ytknlknnihinmjaa
open Go.GL
theorem iterN_meas {σt ρt : Type} {B : σt → Option (σt ⊕ ρt)} {I : σt → Prop} {μ : σt → Nat} {R : ρt → Prop}
    (hs : ∀ s, I s → (∃ s', B s = some (.inl s') ∧ I s' ∧ μ s' < μ s) ∨ ∃ r, B s = some (.inr r) ∧ R r) : ∀ n s, I s → μ s < n → ∃ r, iterN B n s = some r ∧ R r := by
  intro n
  induction n with
  | zero => intro s _ h; omega
  | succ n ih =>
    intro s hI hm
    rcases hs s hI with ⟨s', h1, h2, h3⟩ | ⟨r, h1, h2⟩
    · obtain ⟨r, g1, g2⟩ := ih s' h2 (by omega)
      exact ⟨r, by rw [iterN, h1]; exact g1, g2⟩
    · exact ⟨r, by rw [iterN, h1], h2⟩
def dd : Int → List Int → List Int
  | _, [] => []
  | a, x :: xs => if x = a then dd x xs else x :: dd x xs
def ddl : List Int → List Int
  | [] => []
  | a :: xs => a :: dd a xs
theorem dd_props : ∀ (xs : List Int) (a : Int), (a :: xs).Pairwise (· ≤ ·) → (a :: dd a xs).Pairwise (· < ·) ∧ ∀ y, y ∈ a :: dd a xs ↔ y ∈ a :: xs := by
  intro xs
  induction xs with
  | nil => intro a _; exact ⟨by simp [dd], fun y => Iff.rfl⟩
  | cons x xs ih =>
    intro a h
    rw [List.pairwise_cons] at h
    obtain ⟨h1, h2⟩ := h
    obtain ⟨i1, i2⟩ := ih x h2
    unfold dd
    by_cases e : x = a
    · subst e
      rw [if_pos rfl]
      refine ⟨i1, fun y => ?_⟩
      rw [i2 y]; simp
    · rw [if_neg e]
      have hlt : a < x := by have := h1 x (by simp); omega
      refine ⟨List.pairwise_cons.2 ⟨fun y hy => ?_, i1⟩, fun y => ?_⟩
      · rw [List.mem_cons] at hy
        rcases hy with rfl | hy
        · exact hlt
        · have := (List.pairwise_cons.1 i1).1 y hy; omega
      · rw [List.mem_cons, i2 y]; simp [List.mem_cons]
theorem ddl_props {l : List Int} (h : l.Pairwise (· ≤ ·)) : (ddl l).Pairwise (· < ·) ∧ ∀ y, y ∈ ddl l ↔ y ∈ l := by
  cases l with
  | nil => exact ⟨List.Pairwise.nil, fun _ => Iff.rfl⟩
  | cons a xs => exact dd_props xs a h
theorem dd_len : ∀ (xs : List Int) (a : Int), (dd a xs).length ≤ xs.length := by
  intro xs
  induction xs with
  | nil => intro a; simp [dd]
  | cons x xs ih => intro a; unfold dd; have := ih x; split <;> simp <;> omega
theorem ddl_len (l : List Int) : (ddl l).length ≤ l.length := by
  cases l with
  | nil => simp [ddl]
  | cons a xs => simp only [ddl, List.length_cons]; have := dd_len xs a; omega
theorem strict_ext : ∀ {l m : List Int}, l.Pairwise (· < ·) → m.Pairwise (· < ·) → (∀ x, x ∈ l ↔ x ∈ m) → l = m := by
  intro l
  induction l with
  | nil =>
    intro m _ _ h
    cases m with
    | nil => rfl
    | cons b m => exact absurd ((h b).2 (by simp)) (by simp)
  | cons a l ih =>
    intro m hl hm h
    cases m with
    | nil => exact absurd ((h a).1 (by simp)) (by simp)
    | cons b m =>
      rw [List.pairwise_cons] at hl hm
      have h1 := (h a).1 (by simp)
      have h2 := (h b).2 (by simp)
      rw [List.mem_cons] at h1 h2
      have e : a = b := by
        rcases h1 with h1 | h1
        · exact h1
        · rcases h2 with h2 | h2
          · exact h2.symm
          · have := hm.1 a h1; have := hl.1 b h2; omega
      subst e
      congr 1
      refine ih hl.2 hm.2 fun x => ⟨fun hx => ?_, fun hx => ?_⟩
      · have g := (h x).1 (by simp [hx])
        rw [List.mem_cons] at g
        rcases g with rfl | g
        · have := hl.1 x hx; omega
        · exact g
      · have g := (h x).2 (by simp [hx])
        rw [List.mem_cons] at g
        rcases g with rfl | g
        · have := hm.1 x hx; omega
        · exact g
theorem sort_pair (l : List Int) : (l.mergeSort fun x y => decide (x ≤ y)).Pairwise (· ≤ ·) := by
  have h := List.pairwise_mergeSort (le := fun (x y : Int) => decide (x ≤ y)) (fun a b c h1 h2 => by simp at h1 h2 ⊢; omega) (fun a b => by simp; omega) l
  exact h.imp fun h => by simpa using h
theorem get?_at {α : Type} {l : List α} {i : Nat} (h : i < l.length) : get? l (i : Int) = some l[i] := by
  rw [get?_nat, List.getElem?_eq_getElem h]

abbrev cInner (s1 : Int) (x3 : List Int) : Int × Int × (List Int) → Option ((Int × Int × (List Int)) ⊕ (Int × (List Int))) := fun (s2 : Int × Int × (List Int)) =>
            if (decide (s2.2.1 < (len x3))) then
              (get? (vcut s2.2.2 s1 (List.length x3)) s2.2.1).bind fun x4 =>
              (get? (vcut s2.2.2 s1 (List.length x3)) (w64 (s2.2.1 - 1))).bind fun x5 =>
              if (x4 != x5) then
                (get? (vcut s2.2.2 s1 (List.length x3)) s2.2.1).bind fun x6 =>
                (set? s2.2.2 s2.1 x6).bind fun x7 =>
                some (.inl ((w64 (s2.1 + 1)), (w64 (s2.2.1 + 1)), x7))
              else
                some (.inl (s2.1, (w64 (s2.2.1 + 1)), s2.2.2))
            else
              some (.inr (s2.1, s2.2.2))
theorem drop_get {α : Type} {l m : List α} {k i : Nat} (h : m.drop k = l.drop k) (hi : k ≤ i) : m[i]? = l[i]? := by
  have := congrArg (fun x => x[i - k]?) h
  simp only [List.getElem?_drop] at this
  rwa [show k + (i - k) = i by omega] at this
theorem inner_ok {l : List Int} {k0 : Nat} (hb : l.length ≤ 1048576) (hk0 : k0 < l.length) : ∀ (d j k n : Nat) (m : List Int), k0 + j + d = l.length → 1 ≤ j → k < k0 + j → m.length = l.length → m.drop k = l.drop k → d < n →
    ∃ (k' : Nat) (m' : List Int), iterN (cInner (k0 : Int) (l.drop k0)) n ((k : Int), (j : Int), m) = some ((k' : Int), m') ∧ m'.length = l.length ∧ k' ≤ l.length ∧ m'.take k' = m.take k ++ dd (l[k0 + j - 1]?.getD 0) (l.drop (k0 + j)) := by
  intro d
  induction d with
  | zero =>
    intro j k n m hd hj hk hm he hn
    obtain ⟨n, rfl⟩ : ∃ n', n = n' + 1 := ⟨n - 1, by omega⟩
    have c : decide ((j : Int) < len (l.drop k0)) = false := by rw [len_nat, List.length_drop]; exact decide_eq_false (by omega)
    refine ⟨k, m, by simp [iterN, cInner, c], hm, by omega, ?_⟩
    rw [List.drop_eq_nil_of_le (by omega)]
    simp [dd]
  | succ d ih =>
    intro j k n m hd hj hk hm he hn
    obtain ⟨n, rfl⟩ : ∃ n', n = n' + 1 := ⟨n - 1, by omega⟩
    have c : decide ((j : Int) < len (l.drop k0)) = true := by rw [len_nat, List.length_drop]; exact decide_eq_true (by omega)
    have hlt : k0 + j < l.length := by omega
    have v : ∀ i : Nat, k ≤ k0 + i → k0 + i < l.length → get? (vcut m (k0 : Int) (l.drop k0).length) (i : Int) = some (l[k0 + i]?.getD 0) := fun i h1 h2 => by
      rw [get?_nat]
      simp only [vcut, Int.toNat_natCast]
      rw [List.getElem?_take_of_lt (by simp; omega), List.getElem?_drop, drop_get he h1, List.getElem?_eq_getElem h2]
      rfl
    have w1 : w64 ((j : Int) - 1) = ((j - 1 : Nat) : Int) := by rw [w64_id (by omega) (by omega)]; omega
    have w2 : w64 ((j : Int) + 1) = ((j + 1 : Nat) : Int) := by rw [w64_id (by omega) (by omega)]; omega
    have w3 : w64 ((k : Int) + 1) = ((k + 1 : Nat) : Int) := by rw [w64_id (by omega) (by omega)]; omega
    have v1 := v j (by omega) hlt
    have v2 := v (j - 1) (by omega) (by omega)
    rw [show k0 + (j - 1) = k0 + j - 1 by omega] at v2
    have hdr : l.drop (k0 + j) = (l[k0 + j]?.getD 0) :: l.drop (k0 + j + 1) := by
      rw [List.getElem?_eq_getElem hlt]; exact List.drop_eq_getElem_cons hlt
    rw [hdr]
    have hnext := ih (j + 1)
    rw [show k0 + (j + 1) - 1 = k0 + j by omega] at hnext
    generalize l[k0 + j]?.getD 0 = x at v1 hnext ⊢
    generalize l[k0 + j - 1]?.getD 0 = y at v2 ⊢
    by_cases e : x = y
    · have hB : cInner (k0 : Int) (l.drop k0) ((k : Int), (j : Int), m) = some (.inl ((k : Int), ((j + 1 : Nat) : Int), m)) := by
        simp only [cInner, c, if_true, v1, w1, v2, Option.bind_some, w2]
        rw [if_neg (by simp [e])]
      obtain ⟨k', m', g1, g2, g3, g4⟩ := hnext k n m (by omega) (by omega) (by omega) hm he (by omega)
      refine ⟨k', m', by rw [iterN, hB]; exact g1, g2, g3, ?_⟩
      rw [g4]
      simp [dd, e]
      rfl
    · have hB : cInner (k0 : Int) (l.drop k0) ((k : Int), (j : Int), m) = some (.inl (((k + 1 : Nat) : Int), ((j + 1 : Nat) : Int), m.set k x)) := by
        simp only [cInner, c, if_true, v1, w1, v2, Option.bind_some, w2, w3, set?_nat (show k < m.length by omega)]
        rw [if_pos (by simp [e])]
      obtain ⟨k', m', g1, g2, g3, g4⟩ := hnext (k + 1) n (m.set k x) (by omega) (by omega) (by omega) (by simp [hm]) (by
        rw [List.drop_set_of_lt (by omega)]
        have := congrArg (List.drop 1) he
        simpa [List.drop_drop, Nat.add_comm] using this) (by omega)
      refine ⟨k', m', by rw [iterN, hB]; exact g1, g2, g3, ?_⟩
      rw [g4, List.take_set, List.take_add_one]
      have hkm : k < m.length := by omega
      have : (m.take k ++ m[k]?.toList).set k x = m.take k ++ [x] := by
        rw [List.getElem?_eq_getElem hkm]
        rw [List.set_append_right _ _ (by simp; omega)]
        simp [Nat.min_eq_left (Nat.le_of_lt hkm)]
      rw [this, dd, if_neg e]
      simp
      rfl
abbrev cOuter (n : Nat) (p0 : List Int) : Int → Option (Int ⊕ ((Unit) ⊕ (List Int))) := fun (s1 : Int) =>
      if (decide (s1 < (len p0))) then
        (get? p0 s1).bind fun x1 =>
        (get? p0 (w64 (s1 - 1))).bind fun x2 =>
        if (x1 == x2) then
          (cut? p0 s1 (len p0)).bind fun x3 =>
          (iterN (cInner s1 x3) n (s1, 1, p0)).bind fun (rl2 : Int × (List Int)) =>
          (cut? rl2.2 rl2.1 (len p0)).bind fun x8 =>
          (cut? (vclear 0 rl2.2 rl2.1 (List.length x8)) 0 rl2.1).bind fun x9 =>
          some (.inr (.inr x9))
        else
          some (.inl ((w64 (s1 + 1))))
      else
        some (.inr (.inl ()))
theorem outer_ok {l : List Int} {N : Nat} (hb : l.length ≤ 1048576) (hN : l.length < N) : ∀ (d i n : Nat), i + d = l.length → 1 ≤ i → d < n →
    ∃ o, iterN (cOuter N l) n (i : Int) = some o ∧ (match o with | .inl _ => l | .inr v => v) = l.take i ++ dd (l[i - 1]?.getD 0) (l.drop i) := by
  intro d
  induction d with
  | zero =>
    intro i n hd hi hn
    obtain ⟨n, rfl⟩ : ∃ n', n = n' + 1 := ⟨n - 1, by omega⟩
    have c : decide ((i : Int) < len l) = false := by rw [len_nat]; exact decide_eq_false (by omega)
    refine ⟨.inl (), by simp [iterN, cOuter, c], ?_⟩
    rw [List.drop_eq_nil_of_le (by omega), List.take_of_length_le (by omega)]
    simp [dd]
  | succ d ih =>
    intro i n hd hi hn
    obtain ⟨n, rfl⟩ : ∃ n', n = n' + 1 := ⟨n - 1, by omega⟩
    have c : decide ((i : Int) < len l) = true := by rw [len_nat]; exact decide_eq_true (by omega)
    have hlt : i < l.length := by omega
    have w1 : w64 ((i : Int) - 1) = ((i - 1 : Nat) : Int) := by rw [w64_id (by omega) (by omega)]; omega
    have w2 : w64 ((i : Int) + 1) = ((i + 1 : Nat) : Int) := by rw [w64_id (by omega) (by omega)]; omega
    have v1 : get? l (i : Int) = some (l[i]?.getD 0) := by rw [get?_nat, List.getElem?_eq_getElem hlt]; rfl
    have v2 : get? l ((i - 1 : Nat) : Int) = some (l[i - 1]?.getD 0) := by rw [get?_nat, List.getElem?_eq_getElem (by omega)]; rfl
    have hdr : l.drop i = (l[i]?.getD 0) :: l.drop (i + 1) := by
      rw [List.getElem?_eq_getElem hlt]; exact List.drop_eq_getElem_cons hlt
    have htk : l.take (i + 1) = l.take i ++ [l[i]?.getD 0] := by
      rw [List.take_add_one, List.getElem?_eq_getElem hlt]; rfl
    have hnext := ih (i + 1) n (by omega) (by omega) (by omega)
    rw [show i + 1 - 1 = i by omega, htk] at hnext
    have hin := inner_ok (l := l) (k0 := i) hb hlt d 1 i N l (by omega) (by omega) (by omega) rfl rfl (by omega)
    rw [show i + 1 - 1 = i by omega] at hin
    rw [hdr]
    generalize l[i]?.getD 0 = x at v1 hnext hin ⊢
    generalize l[i - 1]?.getD 0 = y at v2 ⊢
    by_cases e : x = y
    · obtain ⟨k', m', g1, g2, g3, g4⟩ := hin
      have cc1 : cut? l (i : Int) (len l) = some (l.drop i) := by
        unfold cut?
        rw [if_pos ⟨by omega, by rw [len_nat]; omega, by rw [len_nat]; omega⟩, len_nat, Int.toNat_natCast, Int.toNat_natCast, List.take_length]
      have cc2 : cut? m' (k' : Int) (len l) = some (m'.drop k') := by
        unfold cut?
        rw [if_pos ⟨by omega, by rw [len_nat]; omega, by rw [len_nat]; omega⟩, len_nat, Int.toNat_natCast, Int.toNat_natCast, ← g2, List.take_length]
      have cc3 : cut? (vclear 0 m' (k' : Int) (m'.drop k').length) 0 (k' : Int) = some (m'.take k') := by
        unfold cut? vclear
        rw [if_pos ⟨by omega, by omega, by simp; omega⟩]
        simp [List.take_append, List.take_take]
        omega
      have hB : cOuter N l (i : Int) = some (.inr (.inr (m'.take k'))) := by
        simp only [cOuter, c, if_true, v1, w1, v2, Option.bind_some, cc1]
        rw [if_pos (by simp [e])]
        rw [show ((1 : Nat) : Int) = 1 by rfl] at g1
        rw [g1]
        simp only [Option.bind_some, cc2, cc3]
      refine ⟨.inr (m'.take k'), by rw [iterN, hB], ?_⟩
      show m'.take k' = _
      rw [g4, dd, if_pos e]
    · have hB : cOuter N l (i : Int) = some (.inl ((i + 1 : Nat) : Int)) := by
        simp only [cOuter, c, if_true, v1, w1, v2, Option.bind_some, w2]
        rw [if_neg (by simp [e])]
      obtain ⟨o, g1, g2⟩ := hnext
      refine ⟨o, by rw [iterN, hB]; exact g1, ?_⟩
      rw [g2, dd, if_neg e]
      simp
theorem compact_eq {l : List Int} {n : Nat} (hb : l.length ≤ 1048576) (hn : l.length < n) : slices_Compact___int_int_ n l = some (ddl l) := by
  unfold slices_Compact___int_int_
  cases l with
  | nil => rfl
  | cons a xs =>
    by_cases h2 : (a :: xs).length < 2
    · have : xs = [] := by
        cases xs with
        | nil => rfl
        | cons => simp only [List.length_cons] at h2; omega
      subst this
      rfl
    · rw [if_neg (by rw [decide_eq_true_eq, len_nat]; omega)]
      obtain ⟨o, g1, g2⟩ := outer_ok (l := a :: xs) (N := n) hb hn xs.length 1 n (by simp; omega) (by omega) (by simp at hn; omega)
      simp only [List.take_succ_cons, List.take_zero, List.drop_succ_cons, List.drop_zero, Nat.sub_self, List.getElem?_cons_zero, Option.getD_some, List.singleton_append] at g2
      rw [show ((1 : Nat) : Int) = 1 by rfl] at g1
      rw [g1]
      cases o with
      | inl u => simp only [Option.bind_some]; exact congrArg some g2
      | inr v => simp only [Option.bind_some]; exact congrArg some g2
theorem sort_eq {l : List Int} (hb : l.length ≤ 1048576) : slices_Sort___int_int_ l = some (l.mergeSort fun x y => decide (x ≤ y)) := by
  unfold slices_Sort___int_int_
  rw [if_pos (by omega)]
/-- ascending: in order, without what is there twice -/
theorem asc_eq {l : List Int} {n : Nat} (hb : l.length ≤ 1048576) (hn : l.length < n) : ∃ r, impl_ascending n l = some r ∧ r.Pairwise (· < ·) ∧ (∀ y, y ∈ r ↔ y ∈ l) ∧ r.length ≤ l.length := by
  unfold impl_ascending
  have hl : (l.mergeSort fun x y => decide (x ≤ y)).length = l.length := List.length_mergeSort l
  rw [sort_eq hb, Option.bind_some, compact_eq (by rw [hl]; exact hb) (by rw [hl]; exact hn)]
  obtain ⟨p1, p2⟩ := ddl_props (sort_pair l)
  refine ⟨_, rfl, p1, fun y => by rw [p2 y, List.mem_mergeSort], ?_⟩
  have := ddl_len (l.mergeSort fun x y => decide (x ≤ y))
  omega
end Go.Proofs.Ytknlknnihinmjaa
