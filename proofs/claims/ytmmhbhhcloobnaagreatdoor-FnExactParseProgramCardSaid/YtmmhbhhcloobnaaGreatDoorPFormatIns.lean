/- The plain law of this claim. No program in sight. -/
import Derived.Test.YtmmhbhhcloobnaaGreatDoorPNum
namespace Go.Proofs.YtmmhbhhcloobnaaGreatDoor
open Go.GL
def reg (n : Int) : Str := ⟨[114] ++ (num n).bytes⟩
theorem reg_len {n : Int} (h0 : 0 ≤ n) (h1 : n ≤ 1000) : (reg n).bytes.length ≤ 1002 := by
  have := num_len h0 h1
  simp only [reg, List.length_append, List.length_cons, List.length_nil]
  omega
theorem spec_reg {n : Int} (h0 : 0 ≤ n) (h1 : n ≤ 1000) : spec_l05RegName fuel n = some (reg n) := by
  have := num_len h0 h1
  unfold spec_l05RegName
  rw [spec_num h0 h1, Option.bind_some, cat_eq (by simp; omega)]
  rfl
theorem impl_reg {n : Int} (h0 : 0 ≤ n) (h1 : n ≤ 1000) : impl_regName n = some (reg n) := by
  have := num_len h0 h1
  unfold impl_regName
  rw [impl_num h0 h1, Option.bind_some, cat_eq (by simp; omega)]
  rfl
theorem opname {c : Int} (h0 : 3 ≤ c) (h1 : c ≤ 16) : ∃ s, spec_OpName c = some s ∧ impl_OpName c = some s ∧ s.bytes.length ≤ 10 := by
  have : c = 3 ∨ c = 4 ∨ c = 5 ∨ c = 6 ∨ c = 7 ∨ c = 8 ∨ c = 9 ∨ c = 10 ∨ c = 11 ∨ c = 12 ∨ c = 13 ∨ c = 14 ∨ c = 15 ∨ c = 16 := by omega
  rcases this with rfl | rfl | rfl | rfl | rfl | rfl | rfl | rfl | rfl | rfl | rfl | rfl | rfl | rfl <;> exact ⟨_, rfl, rfl, by decide⟩
/-! ### joined -/
def sp : Str := ⟨[32]⟩
theorem k1 : w64 1 = 1 := by decide
theorem k2 : w64 2 = 2 := by decide
theorem k3 : w64 3 = 3 := by decide
theorem join1 {a : Str} (n : Nat) (ha : a.bytes.length ≤ 2000) : spec_Join (n + 5) [a] sp = some a := by
  unfold spec_Join
  have e1 : cat? ⟨[]⟩ a = some a := by rw [cat_eq (by simp; omega)]; rfl
  simp [iterN, len, get?, e1, k1]
theorem join2 {a b : Str} (n : Nat) (ha : a.bytes.length ≤ 2000) (hb : b.bytes.length ≤ 2000) : spec_Join (n + 5) [a, b] sp = some ⟨a.bytes ++ [32] ++ b.bytes⟩ := by
  unfold spec_Join
  have e1 : cat? ⟨[]⟩ a = some a := by rw [cat_eq (by simp; omega)]; rfl
  have e2 : cat? a sp = some ⟨a.bytes ++ [32]⟩ := cat_eq (by simp [sp]; omega)
  have e3 : cat? ⟨a.bytes ++ [32]⟩ b = some ⟨a.bytes ++ [32] ++ b.bytes⟩ := cat_eq (by simp; omega)
  simp only [iterN, len, get?, List.length_cons, List.length_nil]
  simp [e1, e2, e3, k1, k2]
theorem join3 {a b c : Str} (n : Nat) (ha : a.bytes.length ≤ 2000) (hb : b.bytes.length ≤ 2000) (hc : c.bytes.length ≤ 2000) : spec_Join (n + 5) [a, b, c] sp = some ⟨a.bytes ++ [32] ++ b.bytes ++ [32] ++ c.bytes⟩ := by
  unfold spec_Join
  have e1 : cat? ⟨[]⟩ a = some a := by rw [cat_eq (by simp; omega)]; rfl
  have e2 : cat? a sp = some ⟨a.bytes ++ [32]⟩ := cat_eq (by simp [sp]; omega)
  have e3 : cat? ⟨a.bytes ++ [32]⟩ b = some ⟨a.bytes ++ [32] ++ b.bytes⟩ := cat_eq (by simp; omega)
  have e4 : cat? ⟨a.bytes ++ 32 :: b.bytes⟩ sp = some ⟨a.bytes ++ 32 :: (b.bytes ++ [32])⟩ := by rw [cat_eq (by simp [sp]; omega)]; simp [sp]
  have e5 : cat? ⟨a.bytes ++ 32 :: (b.bytes ++ [32])⟩ c = some ⟨a.bytes ++ 32 :: (b.bytes ++ 32 :: c.bytes)⟩ := by rw [cat_eq (by simp; omega)]; simp
  simp only [iterN, len, get?, List.length_cons, List.length_nil]
  simp [e1, e2, e3, e4, e5, k1, k2, k3]
theorem word_lt {w v : Int} (h1 : 2 ≤ w) (h2 : w ≤ 8) (h : wordB w v = true) : 0 ≤ v ∧ v ≤ 255 := by
  have h3 := impl_word w v
  rw [h] at h3
  have : w = 2 ∨ w = 3 ∨ w = 4 ∨ w = 5 ∨ w = 6 ∨ w = 7 ∨ w = 8 := by omega
  unfold impl_WordOk impl_isWidth at h3
  by_cases c : 0 ≤ v
  · have k : ∀ m, shl? 1 (IntKind.u64.wrap w) = some m → v < m → v ≤ 255 → 0 ≤ v ∧ v ≤ 255 := fun _ _ _ h => ⟨c, h⟩
    rcases this with rfl | rfl | rfl | rfl | rfl | rfl | rfl
    · have e : shl? 1 (IntKind.u64.wrap 2) = some 4 := by decide
      simp [c, e] at h3; omega
    · have e : shl? 1 (IntKind.u64.wrap 3) = some 8 := by decide
      simp [c, e] at h3; omega
    · have e : shl? 1 (IntKind.u64.wrap 4) = some 16 := by decide
      simp [c, e] at h3; omega
    · have e : shl? 1 (IntKind.u64.wrap 5) = some 32 := by decide
      simp [c, e] at h3; omega
    · have e : shl? 1 (IntKind.u64.wrap 6) = some 64 := by decide
      simp [c, e] at h3; omega
    · have e : shl? 1 (IntKind.u64.wrap 7) = some 128 := by decide
      simp [c, e] at h3; omega
    · have e : shl? 1 (IntKind.u64.wrap 8) = some 256 := by decide
      simp [c, e] at h3; omega
  · have c' : decide (v ≥ 0) = false := decide_eq_false c
    simp [c'] at h3
theorem ins_fit {w n : Int} {p : D.Ins} (h1 : 2 ≤ w) (h2 : w ≤ 8) (h3 : n ≤ 40) (h : insB w n p = true) :
    (p.Op = 1 ∨ p.Op = 2 ∨ p.Op = 3 ∨ p.Op = 4 ∨ p.Op = 5 ∨ p.Op = 6 ∨ p.Op = 7 ∨ p.Op = 8 ∨ p.Op = 9 ∨ p.Op = 10 ∨ p.Op = 11 ∨ p.Op = 12 ∨ p.Op = 13 ∨ p.Op = 14) ∧ (0 ≤ p.A ∧ p.A ≤ 255) ∧ (0 ≤ p.B ∧ p.B ≤ 255) ∧ (p.Op = 3 → 3 ≤ p.C ∧ p.C ≤ 16) := by
  have h4 := impl_ins w n p
  rw [h] at h4
  have hw := fun hh => word_lt (v := p.B) h1 h2 hh
  unfold impl_insOk at h4
  simp only [impl_word] at h4
  generalize wordB w p.B = wb at h4 hw
  obtain ⟨op, a, b, c⟩ := p
  simp only [impl_isReg, impl_isTwoWords, Option.bind_some] at h4 hw ⊢
  by_cases e1 : op = 1
  · subst e1; grind
  by_cases e2 : op = 2
  · subst e2; grind
  by_cases e3 : op = 3
  · subst e3; grind
  by_cases e4 : op = 4
  · subst e4; grind
  by_cases e5 : op = 5
  · subst e5; grind
  by_cases e6 : op = 6
  · subst e6; grind
  by_cases e7 : op = 7
  · subst e7; grind
  by_cases e8 : op = 8
  · subst e8; grind
  by_cases e9 : op = 9
  · subst e9; grind
  by_cases e10 : op = 10
  · subst e10; grind
  by_cases e11 : op = 11
  · subst e11; grind
  by_cases e12 : op = 12
  · subst e12; grind
  by_cases e13 : op = 13
  · subst e13; grind
  by_cases e14 : op = 14
  · subst e14; grind
  exfalso
  grind
theorem app_s {l m : List Str} (h : l.length + m.length ≤ 1000) : app? l m = some (l ++ m) := by unfold app?; rw [if_pos (by unfold room; omega)]
theorem format_eq (x : D.Ins) (w n : Int) : ∃ s, spec_FormatIns fuel x w n = some s ∧ impl_FormatIns x w n = some s ∧ s.bytes.length ≤ 2100 := by
  have hf : fuel = 1048575 + 5 := rfl
  unfold spec_FormatIns impl_FormatIns
  have hi : ∀ a b c, spec_l01In a b c = some (decide (b ≤ a ∧ a ≤ c)) := by
    intro a b c; simp [spec_l01In]
  have hs : impl_shapeOk w n = some (decide (2 ≤ w ∧ w ≤ 8) && decide (1 ≤ n ∧ n ≤ 40)) := by
    simp only [impl_shapeOk, Bool.decide_and]
    grind
  simp only [hi, hs, Option.bind_some, spec_ins, impl_ins]
  by_cases c1 : 2 ≤ w ∧ w ≤ 8
  case neg => exact ⟨⟨[]⟩, by simp [decide_eq_false c1], by simp [decide_eq_false c1], by simp⟩
  by_cases c2 : 1 ≤ n ∧ n ≤ 40
  case neg => exact ⟨⟨[]⟩, by simp [decide_eq_true c1, decide_eq_false c2], by simp [decide_eq_true c1, decide_eq_false c2], by simp⟩
  simp only [decide_eq_true c1, decide_eq_true c2, Bool.not_true, Bool.or_false, Bool.false_eq_true, if_false, Bool.and_self, Option.bind_some, Bool.false_or]
  cases hv : insB w n x with
  | false => exact ⟨⟨[]⟩, by simp, by simp, by simp⟩
  | true =>
    obtain ⟨ho, ha, hb, hc⟩ := ins_fit c1.1 c1.2 c2.2 hv
    obtain ⟨op, a, b, c⟩ := x
    simp only at ho ha hb hc ⊢
    have la := reg_len ha.1 (by omega)
    have lb := reg_len hb.1 (by omega)
    have nb := num_len hb.1 (by omega)
    have ra := spec_reg ha.1 (show a ≤ 1000 by omega)
    have rb := spec_reg hb.1 (show b ≤ 1000 by omega)
    have qa := impl_reg ha.1 (show a ≤ 1000 by omega)
    have qb := impl_reg hb.1 (show b ≤ 1000 by omega)
    have ub := spec_num hb.1 (show b ≤ 1000 by omega)
    have vb := impl_num hb.1 (show b ≤ 1000 by omega)
    simp only [Bool.not_true, Bool.false_eq_true, if_false, ra, ub, Option.bind_some, rb, qa, qb, vb]
    clear ra rb qa qb ub vb hv hi hs
    generalize reg a = A at la ⊢
    generalize reg b = B at lb ⊢
    generalize num b = N at nb ⊢
    have ab : ∀ {x y : Str}, x.bytes.length + y.bytes.length ≤ 20000 → cat? x y = some ⟨x.bytes ++ y.bytes⟩ := fun h => cat_eq (by omega)
    have p3 : ∀ (u v t : Str), app? [u] [v, t] = some [u, v, t] := fun u v t => app_s (by simp)
    have p2 : ∀ (u v : Str), app? [u] [v] = some [u, v] := fun u v => app_s (by simp)
    have three : ∀ (u v t : Str), u.bytes.length ≤ 20 → v.bytes.length ≤ 1002 → t.bytes.length ≤ 1002 → ((cat? u ⟨[32]⟩).bind fun x4 => (cat? x4 v).bind fun x6 => (cat? x6 ⟨[32]⟩).bind fun x7 => (cat? x7 t).bind fun x9 => some x9) = some ⟨u.bytes ++ [32] ++ v.bytes ++ [32] ++ t.bytes⟩ := by
      intro u v t h1 h2 h3
      rw [ab (by simp; omega), Option.bind_some, ab (by simp; omega), Option.bind_some, ab (by simp; omega), Option.bind_some, ab (by simp; omega), Option.bind_some]
    have two : ∀ (u v : Str), u.bytes.length ≤ 20 → v.bytes.length ≤ 1002 → ((cat? u ⟨[32]⟩).bind fun x4 => (cat? x4 v).bind fun x6 => some x6) = some ⟨u.bytes ++ [32] ++ v.bytes⟩ := by
      intro u v h1 h2
      rw [ab (by simp; omega), Option.bind_some, ab (by simp; omega), Option.bind_some]
    have j3 : ∀ (u v t : Str), u.bytes.length ≤ 20 → v.bytes.length ≤ 1002 → t.bytes.length ≤ 1002 → spec_Join fuel [u, v, t] ⟨[32]⟩ = some ⟨u.bytes ++ [32] ++ v.bytes ++ [32] ++ t.bytes⟩ := fun u v t h1 h2 h3 => by rw [hf]; exact join3 _ (by omega) (by omega) (by omega)
    have j2 : ∀ (u v : Str), u.bytes.length ≤ 20 → v.bytes.length ≤ 1002 → spec_Join fuel [u, v] ⟨[32]⟩ = some ⟨u.bytes ++ [32] ++ v.bytes⟩ := fun u v h1 h2 => by rw [hf]; exact join2 _ (by omega) (by omega)
    have j1 : ∀ (u : Str), u.bytes.length ≤ 20 → spec_Join fuel [u] ⟨[32]⟩ = some u := fun u h1 => by rw [hf]; exact join1 _ (by omega)
    rcases ho with rfl | rfl | rfl | rfl | rfl | rfl | rfl | rfl | rfl | rfl | rfl | rfl | rfl | rfl
    case inr.inr.inl =>
      obtain ⟨s, o1, o2, o3⟩ := opname (hc rfl).1 (hc rfl).2
      exact ⟨⟨s.bytes ++ [32] ++ A.bytes ++ [32] ++ B.bytes⟩, by simp only [spec_l05Word, o1, p3]; simp [j3 s A B (by omega) (by omega) (by omega), o1, p3], by simp only [o2, Option.bind_some]; simpa using three s A B (by omega) (by omega) (by omega), by simp; omega⟩
    case inl =>
      have hw : spec_l05Word ⟨1, a, b, c⟩ = some (⟨[115, 101, 116]⟩ : Str) := rfl
      have hi : impl_insWord 1 = some (⟨[115, 101, 116]⟩ : Str) := rfl
      refine ⟨⟨(⟨[115, 101, 116]⟩ : Str).bytes ++ [32] ++ A.bytes ++ [32] ++ N.bytes⟩, ?_, ?_, by simp; try omega⟩
      · have hj := j3 (⟨[115, 101, 116]⟩ : Str) A N (by decide) (by omega) (by omega)
        simp [hw, p3 (⟨[115, 101, 116]⟩ : Str) A N, hj]
      · have ht := three (⟨[115, 101, 116]⟩ : Str) A N (by decide) (by omega) (by omega)
        simpa [hi] using ht
    case inr.inl =>
      have hw : spec_l05Word ⟨2, a, b, c⟩ = some (⟨[109, 111, 118, 101]⟩ : Str) := rfl
      have hi : impl_insWord 2 = some (⟨[109, 111, 118, 101]⟩ : Str) := rfl
      refine ⟨⟨(⟨[109, 111, 118, 101]⟩ : Str).bytes ++ [32] ++ A.bytes ++ [32] ++ B.bytes⟩, ?_, ?_, by simp; try omega⟩
      · have hj := j3 (⟨[109, 111, 118, 101]⟩ : Str) A B (by decide) (by omega) (by omega)
        simp [hw, p3 (⟨[109, 111, 118, 101]⟩ : Str) A B, hj]
      · have ht := three (⟨[109, 111, 118, 101]⟩ : Str) A B (by decide) (by omega) (by omega)
        simpa [hi] using ht
    case inr.inr.inr.inl =>
      have hw : spec_l05Word ⟨4, a, b, c⟩ = some (⟨[110, 111, 116]⟩ : Str) := rfl
      have hi : impl_insWord 4 = some (⟨[110, 111, 116]⟩ : Str) := rfl
      refine ⟨⟨(⟨[110, 111, 116]⟩ : Str).bytes ++ [32] ++ A.bytes⟩, ?_, ?_, by simp; try omega⟩
      · have hj := j2 (⟨[110, 111, 116]⟩ : Str) A (by decide) (by omega)
        simp [hw, p2 (⟨[110, 111, 116]⟩ : Str) A, hj]
      · have ht := two (⟨[110, 111, 116]⟩ : Str) A (by decide) (by omega)
        simpa [hi] using ht
    case inr.inr.inr.inr.inl =>
      have hw : spec_l05Word ⟨5, a, b, c⟩ = some (⟨[105, 110]⟩ : Str) := rfl
      have hi : impl_insWord 5 = some (⟨[105, 110]⟩ : Str) := rfl
      refine ⟨⟨(⟨[105, 110]⟩ : Str).bytes ++ [32] ++ A.bytes⟩, ?_, ?_, by simp; try omega⟩
      · have hj := j2 (⟨[105, 110]⟩ : Str) A (by decide) (by omega)
        simp [hw, p2 (⟨[105, 110]⟩ : Str) A, hj]
      · have ht := two (⟨[105, 110]⟩ : Str) A (by decide) (by omega)
        simpa [hi] using ht
    case inr.inr.inr.inr.inr.inl =>
      have hw : spec_l05Word ⟨6, a, b, c⟩ = some (⟨[111, 117, 116]⟩ : Str) := rfl
      have hi : impl_insWord 6 = some (⟨[111, 117, 116]⟩ : Str) := rfl
      refine ⟨⟨(⟨[111, 117, 116]⟩ : Str).bytes ++ [32] ++ A.bytes⟩, ?_, ?_, by simp; try omega⟩
      · have hj := j2 (⟨[111, 117, 116]⟩ : Str) A (by decide) (by omega)
        simp [hw, p2 (⟨[111, 117, 116]⟩ : Str) A, hj]
      · have ht := two (⟨[111, 117, 116]⟩ : Str) A (by decide) (by omega)
        simpa [hi] using ht
    case inr.inr.inr.inr.inr.inr.inl =>
      have hw : spec_l05Word ⟨7, a, b, c⟩ = some (⟨[108, 111, 97, 100]⟩ : Str) := rfl
      have hi : impl_insWord 7 = some (⟨[108, 111, 97, 100]⟩ : Str) := rfl
      refine ⟨⟨(⟨[108, 111, 97, 100]⟩ : Str).bytes ++ [32] ++ A.bytes ++ [32] ++ B.bytes⟩, ?_, ?_, by simp; try omega⟩
      · have hj := j3 (⟨[108, 111, 97, 100]⟩ : Str) A B (by decide) (by omega) (by omega)
        simp [hw, p3 (⟨[108, 111, 97, 100]⟩ : Str) A B, hj]
      · have ht := three (⟨[108, 111, 97, 100]⟩ : Str) A B (by decide) (by omega) (by omega)
        simpa [hi] using ht
    case inr.inr.inr.inr.inr.inr.inr.inl =>
      have hw : spec_l05Word ⟨8, a, b, c⟩ = some (⟨[115, 116, 111, 114, 101]⟩ : Str) := rfl
      have hi : impl_insWord 8 = some (⟨[115, 116, 111, 114, 101]⟩ : Str) := rfl
      refine ⟨⟨(⟨[115, 116, 111, 114, 101]⟩ : Str).bytes ++ [32] ++ A.bytes ++ [32] ++ B.bytes⟩, ?_, ?_, by simp; try omega⟩
      · have hj := j3 (⟨[115, 116, 111, 114, 101]⟩ : Str) A B (by decide) (by omega) (by omega)
        simp [hw, p3 (⟨[115, 116, 111, 114, 101]⟩ : Str) A B, hj]
      · have ht := three (⟨[115, 116, 111, 114, 101]⟩ : Str) A B (by decide) (by omega) (by omega)
        simpa [hi] using ht
    case inr.inr.inr.inr.inr.inr.inr.inr.inl =>
      have hw : spec_l05Word ⟨9, a, b, c⟩ = some (⟨[106, 117, 109, 112]⟩ : Str) := rfl
      have hi : impl_insWord 9 = some (⟨[106, 117, 109, 112]⟩ : Str) := rfl
      refine ⟨⟨(⟨[106, 117, 109, 112]⟩ : Str).bytes ++ [32] ++ N.bytes⟩, ?_, ?_, by simp; try omega⟩
      · have hj := j2 (⟨[106, 117, 109, 112]⟩ : Str) N (by decide) (by omega)
        simp [hw, p2 (⟨[106, 117, 109, 112]⟩ : Str) N, hj]
      · have ht := two (⟨[106, 117, 109, 112]⟩ : Str) N (by decide) (by omega)
        simpa [hi] using ht
    case inr.inr.inr.inr.inr.inr.inr.inr.inr.inl =>
      have hw : spec_l05Word ⟨10, a, b, c⟩ = some (⟨[122, 101, 114, 111]⟩ : Str) := rfl
      have hi : impl_insWord 10 = some (⟨[122, 101, 114, 111]⟩ : Str) := rfl
      refine ⟨⟨(⟨[122, 101, 114, 111]⟩ : Str).bytes ++ [32] ++ A.bytes ++ [32] ++ N.bytes⟩, ?_, ?_, by simp; try omega⟩
      · have hj := j3 (⟨[122, 101, 114, 111]⟩ : Str) A N (by decide) (by omega) (by omega)
        simp [hw, p3 (⟨[122, 101, 114, 111]⟩ : Str) A N, hj]
      · have ht := three (⟨[122, 101, 114, 111]⟩ : Str) A N (by decide) (by omega) (by omega)
        simpa [hi] using ht
    case inr.inr.inr.inr.inr.inr.inr.inr.inr.inr.inl =>
      have hw : spec_l05Word ⟨11, a, b, c⟩ = some (⟨[99, 97, 108, 108]⟩ : Str) := rfl
      have hi : impl_insWord 11 = some (⟨[99, 97, 108, 108]⟩ : Str) := rfl
      refine ⟨⟨(⟨[99, 97, 108, 108]⟩ : Str).bytes ++ [32] ++ N.bytes⟩, ?_, ?_, by simp; try omega⟩
      · have hj := j2 (⟨[99, 97, 108, 108]⟩ : Str) N (by decide) (by omega)
        simp [hw, p2 (⟨[99, 97, 108, 108]⟩ : Str) N, hj]
      · have ht := two (⟨[99, 97, 108, 108]⟩ : Str) N (by decide) (by omega)
        simpa [hi] using ht
    case inr.inr.inr.inr.inr.inr.inr.inr.inr.inr.inr.inl =>
      have hw : spec_l05Word ⟨12, a, b, c⟩ = some (⟨[114, 101, 116]⟩ : Str) := rfl
      have hi : impl_insWord 12 = some (⟨[114, 101, 116]⟩ : Str) := rfl
      refine ⟨(⟨[114, 101, 116]⟩ : Str), ?_, ?_, by simp; try omega⟩
      · have hj := j1 (⟨[114, 101, 116]⟩ : Str) (by decide)
        simp [hw, hj]
      · simp [hi]
    case inr.inr.inr.inr.inr.inr.inr.inr.inr.inr.inr.inr.inl =>
      have hw : spec_l05Word ⟨13, a, b, c⟩ = some (⟨[99, 104, 101, 99, 107]⟩ : Str) := rfl
      have hi : impl_insWord 13 = some (⟨[99, 104, 101, 99, 107]⟩ : Str) := rfl
      refine ⟨⟨(⟨[99, 104, 101, 99, 107]⟩ : Str).bytes ++ [32] ++ A.bytes⟩, ?_, ?_, by simp; try omega⟩
      · have hj := j2 (⟨[99, 104, 101, 99, 107]⟩ : Str) A (by decide) (by omega)
        simp [hw, p2 (⟨[99, 104, 101, 99, 107]⟩ : Str) A, hj]
      · have ht := two (⟨[99, 104, 101, 99, 107]⟩ : Str) A (by decide) (by omega)
        simpa [hi] using ht
    case inr.inr.inr.inr.inr.inr.inr.inr.inr.inr.inr.inr.inr =>
      have hw : spec_l05Word ⟨14, a, b, c⟩ = some (⟨[104, 97, 108, 116]⟩ : Str) := rfl
      have hi : impl_insWord 14 = some (⟨[104, 97, 108, 116]⟩ : Str) := rfl
      refine ⟨(⟨[104, 97, 108, 116]⟩ : Str), ?_, ?_, by simp; try omega⟩
      · have hj := j1 (⟨[104, 97, 108, 116]⟩ : Str) (by decide)
        simp [hw, hj]
      · simp [hi]
end Go.Proofs.YtmmhbhhcloobnaaGreatDoor
