/- Texts cut at a byte, words, numbers read. No program in sight. -/
import Derived.Test.YtmmhbhhcloobnaaDoorPNum
import Derived.Lib.SplitLaws
import Derived.Lib.IndexBytes
import Derived.Lib.AtoiAllCases
namespace Go.Proofs.YtmmhbhhcloobnaaDoor
open Go.GL
theorem eqb_iff {a b : Str} : Str.eqb a b = true ↔ a = b := by
  unfold Str.eqb
  obtain ⟨a⟩ := a; obtain ⟨b⟩ := b
  simp
theorem eqb_ne {a b : Str} (h : a ≠ b) : Str.eqb a b = false := by
  cases e : Str.eqb a b with
  | false => rfl
  | true => exact absurd (eqb_iff.1 e) h
theorem eqb_dec (a b : Str) : Str.eqb a b = decide (a = b) := by
  by_cases h : a = b
  · rw [eqb_iff.2 h, decide_eq_true h]
  · rw [eqb_ne h, decide_eq_false h]
/-! ### cut at every c -/
def cutS (c : UInt8) : List UInt8 → List UInt8 → List (List UInt8)
  | cur, [] => [cur]
  | cur, b :: r => if b = c then cur :: cutS c [] r else cutS c (cur ++ [b]) r
theorem cut_free {c : UInt8} : ∀ (a p : List UInt8), c ∉ a → cutS c p a = [p ++ a] := by
  intro a
  induction a with
  | nil => intro p _; simp [cutS]
  | cons b a ih =>
    intro p h
    simp only [List.mem_cons, not_or] at h
    rw [cutS, if_neg (fun e => h.1 e.symm), ih _ h.2]
    simp
theorem cut_at {c : UInt8} (r : List UInt8) : ∀ (a p : List UInt8), c ∉ a → cutS c p (a ++ c :: r) = (p ++ a) :: cutS c [] r := by
  intro a
  induction a with
  | nil => intro p _; simp [cutS]
  | cons b a ih =>
    intro p h
    simp only [List.mem_cons, not_or] at h
    rw [List.cons_append, cutS, if_neg (fun e => h.1 e.symm), ih _ h.2]
    simp
theorem index_free {c : UInt8} : ∀ (a : List UInt8), c ∉ a → Lib.indexByte a c = -1 := by
  intro a
  induction a with
  | nil => intro _; rfl
  | cons b a ih =>
    intro h
    simp only [List.mem_cons, not_or] at h
    have hb : (b == c) = false := by simpa using fun e : b = c => h.1 e.symm
    rw [Lib.indexByte, hb, ih h.2]
    rfl
theorem index_at {c : UInt8} (r : List UInt8) : ∀ (a : List UInt8), c ∉ a → Lib.indexByte (a ++ c :: r) c = a.length := by
  intro a
  induction a with
  | nil => intro _; simp [Lib.indexByte]
  | cons b a ih =>
    intro h
    simp only [List.mem_cons, not_or] at h
    have hb : (b == c) = false := by simpa using fun e : b = c => h.1 e.symm
    rw [List.cons_append, Lib.indexByte, hb, ih h.2]
    have : ((a.length : Int) == -1) = false := by simp
    rw [this]
    simp
theorem splitK_cut (c : UInt8) : ∀ (k : Nat) (s : List UInt8), s.count c ≤ k → Lib.splitK [c] 0 k s = cutS c [] s := by
  intro k
  induction k with
  | zero =>
    intro s h
    have : c ∉ s := by
      intro hm
      have := List.count_pos_iff.2 hm
      omega
    rw [cut_free s [] this]
    rfl
  | succ k ih =>
    intro s h
    rw [Lib.splitK, Lib.index_one]
    by_cases hm : c ∈ s
    · obtain ⟨a, r, rfl, ha⟩ := List.eq_append_cons_of_mem hm
      rw [index_at r a ha, cut_at r a [] ha]
      have : ((a.length : Int) == -1) = false := by simp
      rw [this]
      simp only [Bool.false_eq_true, if_false, Int.toNat_natCast, List.length_cons, List.length_nil, Nat.add_zero, List.take_left', List.nil_append]
      rw [show (a ++ c :: r).drop (a.length + (0 + 1)) = r by simp]
      rw [ih r (by rw [List.count_append, List.count_cons_self] at h; omega)]
    · rw [index_free s hm, cut_free s [] hm]
      rfl
theorem split_cut (c : UInt8) (s : List UInt8) : Lib.split s [c] = cutS c [] s := by
  unfold Lib.split
  exact splitK_cut c _ s (by rw [Lib.count_one]; exact Nat.le_refl _)
/-! ### words -/
def wordsW : Option (List UInt8) → List UInt8 → List (List UInt8)
  | none, [] => []
  | some c, [] => [c]
  | none, b :: r => if b = 32 then wordsW none r else wordsW (some [b]) r
  | some c, b :: r => if b = 32 then c :: wordsW none r else wordsW (some (c ++ [b])) r
theorem words_free : ∀ (a c : List UInt8), 32 ∉ a → wordsW (some c) a = [c ++ a] := by
  intro a
  induction a with
  | nil => intro c _; simp [wordsW]
  | cons b a ih =>
    intro c h
    simp only [List.mem_cons, not_or] at h
    rw [wordsW, if_neg (fun e => h.1 e.symm), ih _ h.2]
    simp
theorem words_at (r : List UInt8) : ∀ (a c : List UInt8), 32 ∉ a → wordsW (some c) (a ++ 32 :: r) = (c ++ a) :: wordsW none r := by
  intro a
  induction a with
  | nil => intro c _; simp [wordsW]
  | cons b a ih =>
    intro c h
    simp only [List.mem_cons, not_or] at h
    rw [List.cons_append, wordsW, if_neg (fun e => h.1 e.symm), ih _ h.2]
    simp
theorem word_one {a : List UInt8} (h : 32 ∉ a) (h0 : a ≠ []) : wordsW none a = [a] := by
  cases a with
  | nil => exact absurd rfl h0
  | cons b a =>
    simp only [List.mem_cons, not_or] at h
    rw [wordsW, if_neg (fun e => h.1 e.symm), words_free a _ h.2]
    rfl
theorem word_more {a : List UInt8} (r : List UInt8) (h : 32 ∉ a) (h0 : a ≠ []) : wordsW none (a ++ 32 :: r) = a :: wordsW none r := by
  cases a with
  | nil => exact absurd rfl h0
  | cons b a =>
    simp only [List.mem_cons, not_or] at h
    rw [List.cons_append, wordsW, if_neg (fun e => h.1 e.symm), words_at r a _ h.2]
    rfl
theorem sidx_nat {s : Str} {i : Nat} (h : i < s.bytes.length) : sidx? s (i : Int) = some (s.bytes[i].toNat : Int) := by
  unfold sidx?
  rw [if_pos (by omega), Int.toNat_natCast, List.getElem?_eq_getElem h]
  rfl
theorem byte_eq (b c : UInt8) : (((b.toNat : Int) == (c.toNat : Int)) : Bool) = decide (b = c) := by
  rw [Bool.eq_iff_iff]
  simp only [beq_iff_eq, decide_eq_true_eq]
  constructor
  · intro h; exact UInt8.toNat_inj.1 (by omega)
  · rintro rfl; rfl
theorem b32 (b : UInt8) : (((b.toNat : Int) == 32) : Bool) = decide (b = 32) := byte_eq b 32
theorem take_part {l : List UInt8} {a k : Nat} (ha : a ≤ k) (hk : k < l.length) : (l.take (k + 1)).drop a = (l.take k).drop a ++ [l[k]] := by
  rw [List.take_add_one, List.getElem?_eq_getElem hk, List.drop_append_of_le_length (by rw [List.length_take]; omega)]
  rfl
theorem app_one {α : Type} {l : List α} {x : α} (h : l.length ≤ 2000000) : app? l [x] = some (l ++ [x]) := by
  unfold app?
  rw [if_pos (by simp only [List.length_cons, List.length_nil]; unfold room; omega)]
end Go.Proofs.YtmmhbhhcloobnaaDoor
