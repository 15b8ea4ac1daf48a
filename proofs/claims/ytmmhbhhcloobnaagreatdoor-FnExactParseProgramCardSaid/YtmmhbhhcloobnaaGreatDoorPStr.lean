/- Texts cut at a byte, words, numbers read. No program in sight. -/
import Derived.Test.YtmmhbhhcloobnaaGreatDoorPNum
import Derived.Lib.SplitLaws
import Derived.Lib.IndexBytes
import Derived.Lib.AtoiAllCases
namespace Go.Proofs.YtmmhbhhcloobnaaGreatDoor
open Go.GL
theorem eqb_iff {a b : Str} : Str.eqb a b = true ↔ a = b := by
  unfold Str.eqb
  obtain ⟨a⟩ := a; obtain ⟨b⟩ := b
  simp
theorem eqb_ne {a b : Str} (h : a ≠ b) : Str.eqb a b = false := by
  cases e : Str.eqb a b with
  | false => rfl
  | true => exact absurd (eqb_iff.1 e) h
theorem eqb_dec (a b : Str) : Str.eqb a b = decide (a = b) := by
  by_cases h : a = b
  · rw [eqb_iff.2 h, decide_eq_true h]
  · rw [eqb_ne h, decide_eq_false h]
/-! ### cut at every c -/
def cutS (c : UInt8) : List UInt8 → List UInt8 → List (List UInt8)
  | cur, [] => [cur]
  | cur, b :: r => if b = c then cur :: cutS c [] r else cutS c (cur ++ [b]) r
theorem cut_free {c : UInt8} : ∀ (a p : List UInt8), c ∉ a → cutS c p a = [p ++ a] := by
  intro a
  induction a with
  | nil => intro p _; simp [cutS]
  | cons b a ih =>
    intro p h
    simp only [List.mem_cons, not_or] at h
    rw [cutS, if_neg (fun e => h.1 e.symm), ih _ h.2]
    simp
theorem cut_at {c : UInt8} (r : List UInt8) : ∀ (a p : List UInt8), c ∉ a → cutS c p (a ++ c :: r) = (p ++ a) :: cutS c [] r := by
  intro a
  induction a with
  | nil => intro p _; simp [cutS]
  | cons b a ih =>
    intro p h
    simp only [List.mem_cons, not_or] at h
    rw [List.cons_append, cutS, if_neg (fun e => h.1 e.symm), ih _ h.2]
    simp
theorem index_free {c : UInt8} : ∀ (a : List UInt8), c ∉ a → Lib.indexByte a c = -1 := by
  intro a
  induction a with
  | nil => intro _; rfl
  | cons b a ih =>
    intro h
    simp only [List.mem_cons, not_or] at h
    have hb : (b == c) = false := by simpa using fun e : b = c => h.1 e.symm
    rw [Lib.indexByte, hb, ih h.2]
    rfl
theorem index_at {c : UInt8} (r : List UInt8) : ∀ (a : List UInt8), c ∉ a → Lib.indexByte (a ++ c :: r) c = a.length := by
  intro a
  induction a with
  | nil => intro _; simp [Lib.indexByte]
  | cons b a ih =>
    intro h
    simp only [List.mem_cons, not_or] at h
    have hb : (b == c) = false := by simpa using fun e : b = c => h.1 e.symm
    rw [List.cons_append, Lib.indexByte, hb, ih h.2]
    have : ((a.length : Int) == -1) = false := by simp
    rw [this]
    simp
theorem splitK_cut (c : UInt8) : ∀ (k : Nat) (s : List UInt8), s.count c ≤ k → Lib.splitK [c] 0 k s = cutS c [] s := by
  intro k
  induction k with
  | zero =>
    intro s h
    have : c ∉ s := by
      intro hm
      have := List.count_pos_iff.2 hm
      omega
    rw [cut_free s [] this]
    rfl
  | succ k ih =>
    intro s h
    rw [Lib.splitK, Lib.index_one]
    by_cases hm : c ∈ s
    · obtain ⟨a, r, rfl, ha⟩ := List.eq_append_cons_of_mem hm
      rw [index_at r a ha, cut_at r a [] ha]
      have : ((a.length : Int) == -1) = false := by simp
      rw [this]
      simp only [Bool.false_eq_true, if_false, Int.toNat_natCast, List.length_cons, List.length_nil, Nat.add_zero, List.take_left', List.nil_append]
      rw [show (a ++ c :: r).drop (a.length + (0 + 1)) = r by simp]
      rw [ih r (by rw [List.count_append, List.count_cons_self] at h; omega)]
    · rw [index_free s hm, cut_free s [] hm]
      rfl
theorem split_cut (c : UInt8) (s : List UInt8) : Lib.split s [c] = cutS c [] s := by
  unfold Lib.split
  exact splitK_cut c _ s (by rw [Lib.count_one]; exact Nat.le_refl _)
/-! ### words -/
def wordsW : Option (List UInt8) → List UInt8 → List (List UInt8)
  | none, [] => []
  | some c, [] => [c]
  | none, b :: r => if b = 32 then wordsW none r else wordsW (some [b]) r
  | some c, b :: r => if b = 32 then c :: wordsW none r else wordsW (some (c ++ [b])) r
theorem words_free : ∀ (a c : List UInt8), 32 ∉ a → wordsW (some c) a = [c ++ a] := by
  intro a
  induction a with
  | nil => intro c _; simp [wordsW]
  | cons b a ih =>
    intro c h
    simp only [List.mem_cons, not_or] at h
    rw [wordsW, if_neg (fun e => h.1 e.symm), ih _ h.2]
    simp
theorem words_at (r : List UInt8) : ∀ (a c : List UInt8), 32 ∉ a → wordsW (some c) (a ++ 32 :: r) = (c ++ a) :: wordsW none r := by
  intro a
  induction a with
  | nil => intro c _; simp [wordsW]
  | cons b a ih =>
    intro c h
    simp only [List.mem_cons, not_or] at h
    rw [List.cons_append, wordsW, if_neg (fun e => h.1 e.symm), ih _ h.2]
    simp
theorem word_one {a : List UInt8} (h : 32 ∉ a) (h0 : a ≠ []) : wordsW none a = [a] := by
  cases a with
  | nil => exact absurd rfl h0
  | cons b a =>
    simp only [List.mem_cons, not_or] at h
    rw [wordsW, if_neg (fun e => h.1 e.symm), words_free a _ h.2]
    rfl
theorem word_more {a : List UInt8} (r : List UInt8) (h : 32 ∉ a) (h0 : a ≠ []) : wordsW none (a ++ 32 :: r) = a :: wordsW none r := by
  cases a with
  | nil => exact absurd rfl h0
  | cons b a =>
    simp only [List.mem_cons, not_or] at h
    rw [List.cons_append, wordsW, if_neg (fun e => h.1 e.symm), words_at r a _ h.2]
    rfl
theorem sidx_nat {s : Str} {i : Nat} (h : i < s.bytes.length) : sidx? s (i : Int) = some (s.bytes[i].toNat : Int) := by
  unfold sidx?
  rw [if_pos (by omega), Int.toNat_natCast, List.getElem?_eq_getElem h]
  rfl
theorem byte_eq (b c : UInt8) : (((b.toNat : Int) == (c.toNat : Int)) : Bool) = decide (b = c) := by
  rw [Bool.eq_iff_iff]
  simp only [beq_iff_eq, decide_eq_true_eq]
  constructor
  · intro h; exact UInt8.toNat_inj.1 (by omega)
  · rintro rfl; rfl
theorem b32 (b : UInt8) : (((b.toNat : Int) == 32) : Bool) = decide (b = 32) := byte_eq b 32
theorem take_part {l : List UInt8} {a k : Nat} (ha : a ≤ k) (hk : k < l.length) : (l.take (k + 1)).drop a = (l.take k).drop a ++ [l[k]] := by
  rw [List.take_add_one, List.getElem?_eq_getElem hk, List.drop_append_of_le_length (by rw [List.length_take]; omega)]
  rfl
theorem app_one {α : Type} {l : List α} {x : α} (h : l.length ≤ 2000000) : app? l [x] = some (l ++ [x]) := by
  unfold app?
  rw [if_pos (by simp only [List.length_cons, List.length_nil]; unfold room; omega)]
theorem words_eq {s : Str} (hs : s.bytes.length ≤ 1048576) : spec_Words fuel s = some ((wordsW none s.bytes).map Str.mk) := by
  unfold spec_Words
  obtain ⟨o, e1, e2⟩ := iterN_meas (B := fun (s1 : Int × Int × (List Str)) =>
    if (decide (s1.2.1 ≤ (len s.bytes))) then
      (if (s1.2.1 == (len s.bytes)) then some default else (sidx? s s1.2.1)).bind fun x1 =>
      if (((s1.2.1 == (len s.bytes)) || (x1 == 32)) && (decide (s1.1 ≥ 0))) then
        (scut? s s1.1 s1.2.1).bind fun x2 =>
        (app? s1.2.2 ([x2] : List Str)).bind fun x3 =>
        some (.inl ((cond ((!((s1.2.1 == (len s.bytes)) || (x1 == 32))) && (decide ((-1) < 0))) s1.2.1 (-1)), (w64 (s1.2.1 + 1)), x3))
      else
        some (.inl ((cond ((!((s1.2.1 == (len s.bytes)) || (x1 == 32))) && (decide (s1.1 < 0))) s1.2.1 s1.1), (w64 (s1.2.1 + 1)), s1.2.2))
    else
      some (.inr (s1.2.2))) (I := fun st => ∃ (k : Nat) (cur : Option (List UInt8)), st.2.1 = (k : Int) ∧ k ≤ s.bytes.length + 1 ∧ st.2.2.length ≤ k ∧
        (match cur with | none => st.1 = -1 | some c => ∃ a : Nat, st.1 = (a : Int) ∧ a ≤ k ∧ k ≤ s.bytes.length ∧ c = (s.bytes.take k).drop a) ∧
        st.2.2 ++ (wordsW cur (s.bytes.drop k)).map Str.mk = (wordsW none s.bytes).map Str.mk) (μ := fun st => s.bytes.length + 1 - st.2.1.toNat) (R := fun o => o = (wordsW none s.bytes).map Str.mk) (by
      rintro ⟨f, i, out⟩ ⟨k, cur, rfl, hk, ho, hc, he⟩
      simp only at ho hc he ⊢
      by_cases hend : k ≤ s.bytes.length
      · left
        have c1 : decide ((k : Int) ≤ len s.bytes) = true := by rw [len_nat]; exact decide_eq_true (by omega)
        have w1 : w64 ((k : Int) + 1) = ((k + 1 : Nat) : Int) := by rw [w64_id (by omega) (by omega)]; omega
        simp only [c1, if_true, w1]
        by_cases hl : k = s.bytes.length
        · -- the end
          have c2 : ((k : Int) == len s.bytes) = true := by rw [len_nat]; simp [hl]
          rw [List.drop_of_length_le (by omega)] at he
          cases cur with
          | none =>
            subst hc
            refine ⟨(-1, ((k + 1 : Nat) : Int), out), by simp [c2], ⟨k + 1, none, rfl, by omega, by show out.length ≤ k + 1; omega, rfl, ?_⟩, by simp; omega⟩
            rw [List.drop_of_length_le (by omega)]
            exact he
          | some c =>
            obtain ⟨a, rfl, ha, hk', rfl⟩ := hc
            have c3 : scut? s (a : Int) (k : Int) = some ⟨(s.bytes.take k).drop a⟩ := by
              unfold scut?
              rw [if_pos ⟨by omega, by omega, by omega⟩]
              simp
            have hdn : s.bytes.drop (k + 1) = [] := List.drop_of_length_le (by omega)
            refine ⟨(-1, ((k + 1 : Nat) : Int), out ++ [⟨(s.bytes.take k).drop a⟩]), by simp [c2, c3, app_one (l := out) (x := (⟨(s.bytes.take k).drop a⟩ : Str)) (by omega)], ⟨k + 1, none, rfl, by omega, by simp; omega, rfl, ?_⟩, by simp; omega⟩
            show out ++ [⟨(s.bytes.take k).drop a⟩] ++ (wordsW none (s.bytes.drop (k + 1))).map Str.mk = _
            rw [hdn]
            simpa [wordsW] using he
        · have hlt : k < s.bytes.length := by omega
          have c2 : ((k : Int) == len s.bytes) = false := by rw [len_nat]; simp; omega
          have c3 := sidx_nat (s := s) hlt
          have hdr : s.bytes.drop k = s.bytes[k] :: s.bytes.drop (k + 1) := by rw [← List.getElem_cons_drop hlt]
          rw [hdr] at he
          by_cases hb : s.bytes[k] = 32
          · have c4 : (((s.bytes[k].toNat : Int) == 32) : Bool) = true := by rw [b32]; exact decide_eq_true hb
            have c6 : ((s.bytes[k].toNat : Int) = 32) := eq_of_beq c4
            cases cur with
            | none =>
              subst hc
              refine ⟨(-1, ((k + 1 : Nat) : Int), out), by simp [c2, c3, c6], ⟨k + 1, none, rfl, by omega, by show out.length ≤ k + 1; omega, rfl, ?_⟩, by simp; omega⟩
              rw [wordsW, if_pos hb] at he
              exact he
            | some c =>
              obtain ⟨a, rfl, ha, hk', rfl⟩ := hc
              have c5 : scut? s (a : Int) (k : Int) = some ⟨(s.bytes.take k).drop a⟩ := by
                unfold scut?
                rw [if_pos ⟨by omega, by omega, by omega⟩]
                simp
              refine ⟨(-1, ((k + 1 : Nat) : Int), out ++ [⟨(s.bytes.take k).drop a⟩]), by simp [c2, c3, c6, c5, app_one (l := out) (x := (⟨(s.bytes.take k).drop a⟩ : Str)) (by omega)], ⟨k + 1, none, rfl, by omega, by simp; omega, rfl, ?_⟩, by simp; omega⟩
              rw [wordsW, if_pos hb] at he
              simpa using he
          · have c4 : (((s.bytes[k].toNat : Int) == 32) : Bool) = false := by rw [b32]; exact decide_eq_false hb
            have c6 : ¬ ((s.bytes[k].toNat : Int) = 32) := ne_of_beq_false c4
            cases cur with
            | none =>
              subst hc
              refine ⟨((k : Int), ((k + 1 : Nat) : Int), out), by simp [c2, c3, c4], ⟨k + 1, some [s.bytes[k]], rfl, by omega, by show out.length ≤ k + 1; omega, ⟨k, rfl, by omega, by omega, ?_⟩, ?_⟩, by simp; omega⟩
              · rw [take_part (Nat.le_refl k) hlt, List.drop_of_length_le (by rw [List.length_take]; omega)]
                rfl
              · rw [wordsW, if_neg hb] at he
                exact he
            | some c =>
              obtain ⟨a, rfl, ha, hk', rfl⟩ := hc
              have c7 : decide ((a : Int) < 0) = false := decide_eq_false (by omega)
              refine ⟨((a : Int), ((k + 1 : Nat) : Int), out), by simp [c2, c3, c6, c7], ⟨k + 1, some ((s.bytes.take k).drop a ++ [s.bytes[k]]), rfl, by omega, by show out.length ≤ k + 1; omega, ⟨a, rfl, by omega, by omega, ?_⟩, ?_⟩, by simp; omega⟩
              · rw [take_part ha hlt]
              · rw [wordsW, if_neg hb] at he
                exact he
      · right
        have c1 : decide ((k : Int) ≤ len s.bytes) = false := by rw [len_nat]; exact decide_eq_false (by omega)
        refine ⟨out, by simp [c1], ?_⟩
        rw [List.drop_of_length_le (by omega)] at he
        cases cur with
        | none => simpa [wordsW] using he
        | some c => obtain ⟨a, _, _, h3, _⟩ := hc; omega) fuel (-1, 0, []) ⟨0, none, rfl, by omega, by simp, rfl, by simp⟩ (by simp only [Int.toNat_zero]; have : fuel = 1048580 := rfl; omega)
  rw [e1, e2]
  rfl
theorem cut_cnt (c : UInt8) : ∀ (a p : List UInt8), (cutS c p a).length ≤ a.length + 1 := by
  intro a
  induction a with
  | nil => intro p; simp [cutS]
  | cons b a ih =>
    intro p
    rw [cutS]
    split
    · have := ih []; simp; omega
    · have := ih (p ++ [b]); simp; omega
theorem cut_len (c : UInt8) : ∀ (s p : List UInt8), ∀ x ∈ cutS c p s, x.length ≤ p.length + s.length := by
  intro s
  induction s with
  | nil => intro p x hx; simp only [cutS, List.mem_cons, List.not_mem_nil, or_false] at hx; subst hx; simp
  | cons b s ih =>
    intro p x hx
    rw [cutS] at hx
    split at hx
    · rcases List.mem_cons.1 hx with rfl | hx
      · simp
      · have := ih [] x hx; simp at this ⊢; omega
    · have := ih _ x hx; simp at this ⊢; omega
theorem cut_ne (c : UInt8) : ∀ (a p : List UInt8), cutS c p a ≠ [] := by
  intro a
  induction a with
  | nil => intro p; simp [cutS]
  | cons b a ih =>
    intro p
    rw [cutS]
    split
    · simp
    · exact ih _
theorem split_eq {s : Str} {c : UInt8} (hl : s.bytes.length ≤ 2097152) : strings_Split s ⟨[c]⟩ = some ((cutS c [] s.bytes).map Str.mk) := by
  unfold strings_Split
  rw [if_pos ⟨by omega, by simp⟩, split_cut]
end Go.Proofs.YtmmhbhhcloobnaaGreatDoor
