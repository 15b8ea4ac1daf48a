/- The plain law of this claim. No program in sight. -/
import Derived.Test.YtmmhbhhcloobnaaGreatDoorPlain
namespace Go.Proofs.YtmmhbhhcloobnaaGreatDoor
open Go.GL
theorem iterN_meas {σt ρt : Type} {B : σt → Option (σt ⊕ ρt)} {I : σt → Prop} {μ : σt → Nat} {R : ρt → Prop}
    (hs : ∀ s, I s → (∃ s', B s = some (.inl s') ∧ I s' ∧ μ s' < μ s) ∨ ∃ r, B s = some (.inr r) ∧ R r) : ∀ n s, I s → μ s < n → ∃ r, iterN B n s = some r ∧ R r := by
  intro n
  induction n with
  | zero => intro s _ h; omega
  | succ n ih =>
    intro s hI hm
    rcases hs s hI with ⟨s', h1, h2, h3⟩ | ⟨r, h1, h2⟩
    · obtain ⟨r, g1, g2⟩ := ih s' h2 (by omega)
      exact ⟨r, by rw [iterN, h1]; exact g1, g2⟩
    · exact ⟨r, by rw [iterN, h1], h2⟩
theorem eqb_self (s : Str) : Str.eqb s s = true := by unfold Str.eqb; simp
/-- the digits of a number -/
def num (n : Int) : Str := ⟨Lib.itoa n⟩
theorem dig_len (n : Nat) : (Lib.decDigits n).length ≤ n + 1 := by
  induction n using Nat.strongRecOn with
  | _ n ih =>
    rw [Lib.decDigits]
    split
    · simp
    · have := ih (n / 10) (by omega)
      simp only [List.length_append, List.length_cons, List.length_nil]
      omega
theorem num_len {n : Int} (h0 : 0 ≤ n) (h1 : n ≤ 1000) : (num n).bytes.length ≤ 1001 := by
  unfold num Lib.itoa
  rw [if_neg (by omega)]
  have := dig_len n.toNat
  simp only
  omega
theorem digit {m : Int} (h0 : 0 ≤ m) (h1 : m ≤ 9) : strOf ([(Byt.mk (IntKind.u8.wrap (w64 (48 + m))))] : List Byt) = ⟨[UInt8.ofNat (48 + m.toNat)]⟩ := by
  have : m = 0 ∨ m = 1 ∨ m = 2 ∨ m = 3 ∨ m = 4 ∨ m = 5 ∨ m = 6 ∨ m = 7 ∨ m = 8 ∨ m = 9 := by omega
  rcases this with rfl | rfl | rfl | rfl | rfl | rfl | rfl | rfl | rfl | rfl <;> decide
theorem cat_eq {a b : Str} (h : a.bytes.length + b.bytes.length ≤ 100000) : cat? a b = some ⟨a.bytes ++ b.bytes⟩ := by
  unfold cat?
  rw [if_pos (by omega)]
theorem w64_in {a : Int} (h0 : -9223372036854775808 ≤ a) (h1 : a ≤ 9223372036854775807) : w64 a = a := w64_id (by omega) (by omega)
theorem dl_pos (n : Nat) : 1 ≤ (Lib.decDigits n).length := by
  rw [Lib.decDigits]
  split <;> simp
theorem dl_step {n : Nat} (h : ¬ n < 10) : (Lib.decDigits n).length = (Lib.decDigits (n / 10)).length + 1 := by
  rw [Lib.decDigits, dif_neg h]
  simp
theorem dl_le : ∀ (k n : Nat), n < 10 ^ (k + 1) → (Lib.decDigits n).length ≤ k + 1 := by
  intro k
  induction k with
  | zero => intro n h; rw [Lib.decDigits, dif_pos (by simpa using h)]; simp
  | succ k ih =>
    intro n h
    by_cases c : n < 10
    · rw [Lib.decDigits, dif_pos c]; simp
    · rw [dl_step c]
      have := ih (n / 10) (by rw [Nat.pow_succ] at h; omega)
      omega
theorem dl_19 {n : Nat} (h : n ≤ 9223372036854775808) : (Lib.decDigits n).length ≤ 19 := dl_le 18 n (by omega)
theorem fi_loop {k : Nat} {n : Int} (h0 : 0 ≤ n) (h1 : n ≤ 9223372036854775807) (hk : 20 ≤ k) : iterN (fun (s1 : Int × Str) =>
      if (decide (s1.1 > 9)) then
        (rem? s1.1 10).bind fun x7 =>
        (cat? (strOf ([(Byt.mk (IntKind.u8.wrap (w64 (48 + x7))))] : List Byt)) s1.2).bind fun x8 =>
        (quo? s1.1 10).bind fun x9 =>
        some (.inl (x9, x8))
      else
        some (.inr (s1.1, s1.2))) k (n, ⟨[]⟩) = some (let r := Lib.decDigits n.toNat; ((((r.headD 0).toNat : Int) - 48), ⟨r.tail⟩)) ∧ 48 ≤ ((Lib.decDigits n.toNat).headD 0).toNat ∧ ((Lib.decDigits n.toNat).headD 0).toNat ≤ 57 := by
  obtain ⟨⟨m, s⟩, e1, e2, e4⟩ := iterN_meas (B := fun (s1 : Int × Str) =>
      if (decide (s1.1 > 9)) then
        (rem? s1.1 10).bind fun x7 =>
        (cat? (strOf ([(Byt.mk (IntKind.u8.wrap (w64 (48 + x7))))] : List Byt)) s1.2).bind fun x8 =>
        (quo? s1.1 10).bind fun x9 =>
        some (.inl (x9, x8))
      else
        some (.inr (s1.1, s1.2))) (I := fun s => (0 ≤ s.1 ∧ s.1 ≤ 9223372036854775807) ∧ Lib.decDigits s.1.toNat ++ s.2.bytes = Lib.decDigits n.toNat) (μ := fun s => (Lib.decDigits s.1.toNat).length)
    (R := fun r => (0 ≤ r.1 ∧ r.1 ≤ 9) ∧ Lib.decDigits r.1.toNat ++ r.2.bytes = Lib.decDigits n.toNat) (by
      rintro ⟨j, s⟩ ⟨⟨i1, i2⟩, i4⟩
      simp only at i1 i2 i4
      have hl : s.bytes.length ≤ 19 := by
        have h2 := congrArg List.length i4
        have h3 := dl_19 (n := n.toNat) (by omega)
        rw [List.length_append] at h2
        omega
      by_cases c : 9 < j
      · left
        have c1 : decide (j > 9) = true := decide_eq_true c
        have c2 : rem? j 10 = some (j % 10) := by unfold rem?; rw [if_neg (by omega), Int.tmod_eq_emod_of_nonneg i1]
        have c3 : quo? j 10 = some (j / 10) := by
          unfold quo?
          rw [if_neg (by omega), Int.tdiv_eq_ediv_of_nonneg i1, w64_in (by omega) (by omega)]
        have c4 := digit (m := j % 10) (by omega) (by omega)
        have hd := dl_step (n := j.toNat) (by omega)
        have e10 : (j / 10).toNat = j.toNat / 10 := by omega
        refine ⟨(j / 10, ⟨[UInt8.ofNat (48 + (j % 10).toNat)] ++ s.bytes⟩), by simp only [c1, if_true, c2, Option.bind_some, c4, c3, cat_eq (a := ⟨[UInt8.ofNat (48 + (j % 10).toNat)]⟩) (b := s) (by simp; omega)], ⟨⟨by show 0 ≤ j / 10; omega, by show j / 10 ≤ _; omega⟩, ?_⟩, by show (Lib.decDigits (j / 10).toNat).length < (Lib.decDigits j.toNat).length; rw [e10, hd]; omega⟩
        show Lib.decDigits (j / 10).toNat ++ ([UInt8.ofNat (48 + (j % 10).toNat)] ++ s.bytes) = _
        rw [← i4, Lib.decDigits.eq_1 j.toNat, dif_neg (by omega), ← List.append_assoc, show (j / 10).toNat = j.toNat / 10 by omega, show (j % 10).toNat = j.toNat % 10 by omega]
      · right
        have c1 : decide (j > 9) = false := decide_eq_false c
        exact ⟨(j, s), by simp [c1], ⟨i1, by show j ≤ 9; omega⟩, i4⟩) k (n, ⟨[]⟩) ⟨⟨h0, h1⟩, by simp⟩ (by have := dl_19 (n := n.toNat) (by omega); simp only; omega)
  simp only at e2 e4
  rw [e1]
  rw [Lib.decDigits.eq_1 m.toNat, dif_pos (by omega)] at e4
  rw [← e4]
  have hm : m = 0 ∨ m = 1 ∨ m = 2 ∨ m = 3 ∨ m = 4 ∨ m = 5 ∨ m = 6 ∨ m = 7 ∨ m = 8 ∨ m = 9 := by omega
  rcases hm with rfl | rfl | rfl | rfl | rfl | rfl | rfl | rfl | rfl | rfl <;> exact ⟨rfl, by simp, by simp⟩
theorem fi_pos {k : Nat} {n : Int} (h0 : 0 ≤ n) (h1 : n ≤ 9223372036854775807) (hk : 20 ≤ k) : spec_FormatInt (k + 1) n = some (num n) := by
  rw [spec_FormatInt]
  rw [if_neg (by simp; omega)]
  obtain ⟨e1, e2, e3⟩ := fi_loop h0 h1 hk
  rw [e1]
  simp only [Option.bind_some]
  have h3 := dl_19 (n := n.toNat) (by omega)
  have h4 := dl_pos n.toNat
  unfold num Lib.itoa
  rw [if_neg (by omega)]
  generalize Lib.decDigits n.toNat = l at *
  cases l with
  | nil => simp at h4
  | cons b l =>
    simp only [List.headD_cons, List.tail_cons, List.length_cons] at *
    rw [digit (by omega) (by omega), cat_eq (by simp; omega)]
    simp only [Option.bind_some, List.cons_append, List.nil_append]
    congr 3
    apply UInt8.toNat_inj.1
    have : (48 + ((b.toNat : Int) - 48).toNat) = b.toNat := by omega
    rw [this]; simp
theorem fi_neg : ∀ (d k : Nat) (n : Int), n < 0 → -9223372036854775808 ≤ n → (Lib.decDigits n.natAbs).length ≤ d → d ≤ k → spec_FormatInt k n = some (num n) := by
  intro d
  induction d with
  | zero => intro k n _ _ h; have := dl_pos n.natAbs; omega
  | succ d ih =>
    intro k n hn h0 hd hk
    obtain ⟨k, rfl⟩ : ∃ k', k = k' + 1 := ⟨k - 1, by omega⟩
    have hlen := dl_19 (n := n.natAbs) (by omega)
    rw [spec_FormatInt, if_pos (by simpa using hn)]
    have hq : quo? n 10 = some (-((n.natAbs / 10 : Nat) : Int)) := by
      unfold quo?
      rw [if_neg (by omega)]
      have : n.tdiv 10 = -((n.natAbs / 10 : Nat) : Int) := by
        have h3 : n = -(n.natAbs : Int) := by omega
        conv => lhs; rw [h3]
        rw [Int.neg_tdiv]
        rfl
      rw [this, w64_in (by omega) (by omega)]
    have hr : rem? n 10 = some (-((n.natAbs % 10 : Nat) : Int)) := by
      unfold rem?
      rw [if_neg (by omega)]
      have h3 : n = -(n.natAbs : Int) := by omega
      conv => lhs; rw [h3]
      rw [Int.neg_tmod]
      rfl
    rw [hq, hr]
    simp only [Option.bind_some]
    have hx : ∀ m : Nat, m ≤ 9 → strOf ([(Byt.mk (IntKind.u8.wrap (w64 (48 - -(m : Int)))))] : List Byt) = ⟨[UInt8.ofNat (48 + m)]⟩ := by
      intro m hm
      have := digit (m := (m : Int)) (by omega) (by omega)
      rw [show (48 - -(m : Int)) = 48 + (m : Int) by omega]
      rw [this]; simp
    unfold num Lib.itoa
    rw [if_pos hn]
    by_cases c : n.natAbs < 10
    · rw [if_pos (by have : n.natAbs / 10 = 0 := by omega
                     rw [this]; rfl)]
      have h3 : n = -(n.natAbs : Int) := by omega
      have h4 := hx n.natAbs (by omega)
      rw [← h3] at h4
      rw [h4, cat_eq (by simp)]
      rw [Lib.decDigits, dif_pos c]
      rfl
    · rw [if_neg (by simp; omega)]
      have hst := dl_step c
      have hi := ih k (-((n.natAbs / 10 : Nat) : Int)) (by omega) (by omega) (by rw [show (-((n.natAbs / 10 : Nat) : Int)).natAbs = n.natAbs / 10 by omega]; omega) (by omega)
      rw [hi]
      simp only [Option.bind_some]
      rw [hx _ (by omega)]
      unfold num Lib.itoa
      rw [if_pos (by omega), show (-((n.natAbs / 10 : Nat) : Int)).natAbs = n.natAbs / 10 by omega, cat_eq (by simp; omega)]
      simp only [Option.bind_some]
      rw [Lib.decDigits.eq_1 n.natAbs, dif_neg c]
      simp
theorem fi_all {n : Int} (h0 : -9223372036854775808 ≤ n) (h1 : n ≤ 9223372036854775807) : spec_FormatInt fuel n = some (num n) := by
  by_cases c : 0 ≤ n
  · exact fi_pos (k := 1048579) c h1 (by omega)
  · exact fi_neg 19 fuel n (by omega) h0 (dl_19 (by omega)) (by decide)
theorem spec_num {n : Int} (h0 : 0 ≤ n) (h1 : n ≤ 1000) : spec_FormatInt fuel n = some (num n) := fi_all (by omega) (by omega)
theorem impl_num {n : Int} (h0 : 0 ≤ n) (h1 : n ≤ 1000) : impl_FormatInt n = some (num n) := by
  unfold impl_FormatInt strconv_Itoa
  rw [if_pos ⟨by omega, by omega⟩]
  rfl
end Go.Proofs.YtmmhbhhcloobnaaGreatDoor
