/- The plain laws of this claim: numbers, programs, loops. No program in sight. -/
import Derived.Test.YtdkfoghhjkjjlaaGLv
import Derived.Test.YtdkfoghhjkjjlaaDefs
namespace Go.Proofs.Ytdkfoghhjkjjlaa
open Go.GL
theorem szIntS_eq {l : List Int} {m : Int} (hl : l.length ≤ 9223372036854775807) (h0 : 0 ≤ m) (h1 : m ≤ 1048576) : laws_szIntS l m = some (if m - l.length < 0 then -1 else m - l.length) := by
  unfold laws_szIntS
  rw [len_nat, w64_id (by omega) (by omega)]
  by_cases h : m - (l.length : Int) < 0
  · rw [if_pos (by simpa using h), if_pos h]
  · rw [if_neg (by simpa using h), if_neg h]
/-- fuel that is enough -/
def fuel : Nat := 4194400
theorem lt_fuel {n : Nat} (h : n ≤ 1048576) : n < fuel := by unfold fuel; omega
theorem toIntS_eq {l : List Int} (h : l.length ≤ 1048576) : laws_toIntS fuel l = some l := by
  unfold laws_toIntS
  rw [mk?_len (by unfold room; omega)]
  simp only [Option.bind_some]
  rw [copy_loop2 (by omega) (lt_fuel h)]
  rfl
theorem eqIntS_eq {p q : List Int} (h : p.length ≤ 1048576) : laws_eqIntS fuel p q = some (decide (p = q)) := eq_slice (by omega) (lt_fuel h)
/-- a slice whose elements are all looked at -/
theorem all_loop {α : Type} {l : List α} {f : α → Option Bool} {b : α → Bool} (hf : ∀ x ∈ l, f x = some (b x)) (hb : l.length ≤ 9223372036854775807) : ∀ (d i : Nat), i + d = l.length → ∀ n, d < n →
    iterN (fun (s1 : Int) =>
      if (decide (s1 < (len l))) then
        (get? l s1).bind fun x1 =>
        (f x1).bind fun x2 =>
        if (!x2) then
          some (.inr (.inr false))
        else
          some (.inl ((w64 (s1 + 1))))
      else
        some (.inr (.inl ()))) n (i : Int) = some (if (l.drop i).all b then (.inl () : Unit ⊕ Bool) else .inr false)
  | 0, i, hi, n, hn => by
    obtain ⟨n, rfl⟩ : ∃ j, n = j + 1 := ⟨n - 1, by omega⟩
    unfold iterN
    rw [if_neg (by rw [len_nat]; simp; omega)]
    simp [List.drop_of_length_le (show l.length ≤ i by omega)]
  | d + 1, i, hi, n, hn => by
    obtain ⟨n, rfl⟩ : ∃ j, n = j + 1 := ⟨n - 1, by omega⟩
    have hp : i < l.length := by omega
    unfold iterN
    rw [if_pos (by rw [len_nat]; simp; omega), get?_nat, List.getElem?_eq_getElem hp]
    simp only [Option.bind_some]
    rw [hf _ (List.getElem_mem hp), List.drop_eq_getElem_cons hp]
    simp only [Option.bind_some, List.all_cons]
    by_cases h : b l[i] = true
    · rw [if_neg (by simp [h])]
      simp only
      rw [w64_id (by omega) (by omega), show ((i : Int) + 1) = ((i + 1 : Nat) : Int) by omega, all_loop hf hb d (i + 1) (by omega) n (by omega)]
      simp only [h, Bool.true_and]
    · rw [if_pos (by simp [h])]
      simp [h]

theorem szInsS_eq {l : List D.Ins} {m : Int} (hl : l.length ≤ 9223372036854775807) (h0 : 0 ≤ m) (h1 : m ≤ 1048576) : laws_szInsS l m = some (if m - l.length < 0 then -1 else m - l.length) := by
  unfold laws_szInsS
  rw [len_nat, w64_id (by omega) (by omega)]
  by_cases h : m - (l.length : Int) < 0
  · rw [if_pos (by simpa using h), if_pos h]
  · rw [if_neg (by simpa using h), if_neg h]
theorem szProgram_eq {x : D.Program} {m : Int} (hx : fit_Program x) (h0 : 0 ≤ m) (h1 : m ≤ 1048576) : ∃ r, laws_szProgram x m = some r ∧ (r < 0 ∨ 0 ≤ r ∧ r ≤ 1048576 ∧ x.Code.length ≤ 1048576) := by
  obtain ⟨-, -, -, hr, -⟩ := hx
  unfold laws_szProgram
  rw [szInsS_eq hr h0 h1]
  simp only [Option.bind_some]
  by_cases c1 : m - (x.Code.length : Int) < 0
  · rw [if_pos c1]; exact ⟨_, rfl, .inl (by omega)⟩
  rw [if_neg c1, if_neg (by simpa using c1)]
  exact ⟨_, rfl, .inr ⟨by omega, by omega, by omega⟩⟩

theorem toInsS_eq {l : List D.Ins} (h : l.length ≤ 1048576) : laws_toInsS fuel l = some l := by
  unfold laws_toInsS
  rw [mk?_len (by unfold room; omega)]
  simp only [Option.bind_some, laws_toIns]
  rw [copy_loop2 (by omega) (lt_fuel h)]
  rfl
theorem toProgram_eq {x : D.Program} (h : x.Code.length ≤ 1048576) : laws_toProgram fuel x = some x := by
  unfold laws_toProgram
  rw [toInsS_eq h]
  rfl
theorem eqIns_eq (x y : D.Ins) : laws_eqIns x y = some (decide (x = y)) := by
  unfold laws_eqIns
  cases x; cases y
  simp only [D.Ins.mk.injEq]
  grind
theorem eqInsS_eq {p q : List D.Ins} (h : p.length ≤ 1048576) : laws_eqInsS fuel p q = some (decide (p = q)) := by
  unfold laws_eqInsS
  simp only [eqIns_eq, Option.bind_some]
  exact eq_slice (by omega) (lt_fuel h)
theorem eqProgram_refl {x : D.Program} (h : x.Code.length ≤ 1048576) : laws_eqProgram fuel x x = some true := by
  unfold laws_eqProgram
  rw [eqInsS_eq h]
  simp

theorem shl_pow {w : Int} (h1 : 1 ≤ w) (h2 : w ≤ 16) : ∃ m : Int, shl? 1 w = some m ∧ shl? 1 (IntKind.u64.wrap w) = some m ∧ w64 (m - 1) = m - 1 := by
  have : w = 1 ∨ w = 2 ∨ w = 3 ∨ w = 4 ∨ w = 5 ∨ w = 6 ∨ w = 7 ∨ w = 8 ∨ w = 9 ∨ w = 10 ∨ w = 11 ∨ w = 12 ∨ w = 13 ∨ w = 14 ∨ w = 15 ∨ w = 16 := by omega
  rcases this with rfl | rfl | rfl | rfl | rfl | rfl | rfl | rfl | rfl | rfl | rfl | rfl | rfl | rfl | rfl | rfl <;> exact ⟨_, rfl, by decide, by decide⟩
theorem WordOk_eq (w v : Int) : ∃ b, spec_WordOk w v = some b ∧ impl_WordOk w v = some b := by
  unfold spec_WordOk impl_WordOk spec_l01In impl_isWidth
  by_cases h : 1 ≤ w ∧ w ≤ 16
  · obtain ⟨m, h1, h2, h3⟩ := shl_pow h.1 h.2
    refine ⟨decide (0 ≤ v) && decide (v < m), ?_, ?_⟩
    · simp only [ge_iff_le, h.1, h.2, decide_true, Bool.and_self, Option.bind_some, if_true, h1, h3, Bool.true_and, Option.some.injEq]
      rw [Bool.eq_iff_iff]
      simp only [Bool.and_eq_true, decide_eq_true_eq]
      omega
    · by_cases hv : 0 ≤ v
      · simp [h.1, h.2, hv, h2]
      · simp [h.1, h.2, hv]
  · refine ⟨false, ?_, ?_⟩
    · by_cases a : 1 ≤ w
      · have b : ¬ w ≤ 16 := fun b => h ⟨a, b⟩
        simp [a, b]
      · simp [a]
    · by_cases a : 1 ≤ w
      · have b : ¬ w ≤ 16 := fun b => h ⟨a, b⟩
        simp [a, b]
      · simp [a]

theorem ite_def {c : Bool} {b : Bool} : (if c = true then some b else some default) = some (if c = true then b else default) := by split <;> rfl

theorem ite_def2 {c : Bool} {b : Bool} : (if c = true then some default else some b) = some (if c = true then default else b) := by split <;> rfl
theorem insOk_eq (p : D.Ins) (w n : Int) : ∃ b, spec_l05Ins p w n = some b ∧ impl_insOk p w n = some b := by
  obtain ⟨wb, hw1, hw2⟩ := WordOk_eq w p.B
  have hr : ∀ a, spec_l05Reg a = some (decide (0 ≤ a ∧ a ≤ 3)) := by
    intro a; simp [spec_l05Reg, spec_l01In]
  have hr' : ∀ a, impl_isReg a = some (decide (0 ≤ a ∧ a ≤ 3)) := by
    intro a; simp only [impl_isReg, Bool.decide_and]; grind
  have hi : ∀ a b c, spec_l01In a b c = some (decide (b ≤ a) && decide (a ≤ c)) := by
    intro a b c; simp [spec_l01In]
  have ht : ∀ a, impl_isTwoWords a = some (decide (3 ≤ a) && decide (a ≤ 16)) := by
    intro a; simp [impl_isTwoWords]
  obtain ⟨op, a, b, c⟩ := p
  simp only at hw1 hw2
  unfold spec_l05Ins impl_insOk
  simp only [hr, hr', hi, ht, hw1, hw2, Option.bind_some, ite_def]
  by_cases e1 : op = 1
  · subst e1; grind
  by_cases e2 : op = 2
  · subst e2; grind
  by_cases e3 : op = 3
  · subst e3; grind
  by_cases e4 : op = 4
  · subst e4; grind
  by_cases e5 : op = 5
  · subst e5; grind
  by_cases e6 : op = 6
  · subst e6; grind
  by_cases e7 : op = 7
  · subst e7; grind
  by_cases e8 : op = 8
  · subst e8; grind
  by_cases e9 : op = 9
  · subst e9; grind
  by_cases e10 : op = 10
  · subst e10; grind
  by_cases e11 : op = 11
  · subst e11; grind
  by_cases e12 : op = 12
  · subst e12; grind
  by_cases e13 : op = 13
  · subst e13; grind
  by_cases e14 : op = 14
  · subst e14; grind
  simp [e1, e2, e3, e4, e5, e6, e7, e8, e9, e10, e11, e12, e13, e14]

/-- what the specification says of one instruction -/
def insB (w n : Int) (p : D.Ins) : Bool := (spec_l05Ins p w n).getD false
theorem spec_ins (w n : Int) (p : D.Ins) : spec_l05Ins p w n = some (insB w n p) := by
  obtain ⟨b, h, -⟩ := insOk_eq p w n
  simp [insB, h]
theorem impl_ins (w n : Int) (p : D.Ins) : impl_insOk p w n = some (insB w n p) := by
  obtain ⟨b, h, h'⟩ := insOk_eq p w n
  simp [insB, h, h']
def wordB (w v : Int) : Bool := (spec_WordOk w v).getD false
theorem spec_word (w v : Int) : spec_WordOk w v = some (wordB w v) := by
  obtain ⟨b, h, -⟩ := WordOk_eq w v
  simp [wordB, h]
theorem impl_word (w v : Int) : impl_WordOk w v = some (wordB w v) := by
  obtain ⟨b, h, h'⟩ := WordOk_eq w v
  simp [wordB, h, h']

/-- what both say of a program -/
def progB (x : D.Program) : Bool :=
  decide (2 ≤ x.W ∧ x.W ≤ 8) && decide (1 ≤ x.Mem ∧ x.Mem ≤ 6) && wordB x.W x.Mem && decide (0 ≤ x.In ∧ x.In ≤ 3) && decide (1 ≤ (x.Code.length : Int) ∧ (x.Code.length : Int) ≤ 40) && x.Code.all (insB x.W x.Code.length)

theorem all_end {c : Bool} : ((some (if c = true then (.inl () : Unit ⊕ Bool) else .inr false)).bind fun (rl1 : (Unit) ⊕ Bool) => match rl1 with | .inl _ => some true | .inr v => some v) = some c := by
  cases c <;> rfl
theorem spec_prog {x : D.Program} (h : x.Code.length ≤ 1048576) : spec_ProgramOk fuel x = some (progB x) := by
  unfold spec_ProgramOk
  have hi : ∀ a b c, spec_l01In a b c = some (decide (b ≤ a ∧ a ≤ c)) := by
    intro a b c; simp [spec_l01In]
  have hl := all_loop (l := x.Code) (f := fun p => spec_l05Ins p x.W (len x.Code)) (b := insB x.W x.Code.length) (fun p _ => spec_ins _ _ p) (by omega) x.Code.length 0 (by omega) fuel (lt_fuel h)
  rw [show ((0 : Nat) : Int) = 0 from rfl] at hl
  simp only [hi, spec_word, Option.bind_some, ite_def2]
  rw [hl, len_nat]
  unfold progB
  simp only [List.drop_zero]
  cases x.Code.all (insB x.W x.Code.length) <;> cases wordB x.W x.Mem <;> simp only [Option.bind_some, if_true, if_false, Bool.false_eq_true] <;> grind
theorem impl_prog {x : D.Program} (h : x.Code.length ≤ 1048576) : impl_ProgramOk fuel x = some (progB x) := by
  unfold impl_ProgramOk
  have hl := all_loop (l := x.Code) (f := fun p => impl_insOk p x.W (len x.Code)) (b := insB x.W x.Code.length) (fun p _ => impl_ins _ _ p) (by omega) x.Code.length 0 (by omega) fuel (lt_fuel h)
  rw [show ((0 : Nat) : Int) = 0 from rfl] at hl
  simp only [impl_shapeOk, impl_word, Option.bind_some, ite_def2]
  rw [hl, len_nat]
  unfold progB
  simp only [List.drop_zero]
  clear hl
  by_cases a1 : 2 ≤ x.W <;> by_cases a2 : x.W ≤ 8 <;> by_cases a3 : 1 ≤ (x.Code.length : Int) <;> by_cases a4 : (x.Code.length : Int) ≤ 40 <;> simp only [ge_iff_le, a1, a2, a3, a4, decide_true, decide_false, Bool.and_true, Bool.and_false, Bool.true_and, Bool.false_and, Bool.and_self, and_self, and_true, and_false] <;>
    cases x.Code.all (insB x.W x.Code.length) <;> cases wordB x.W x.Mem <;> simp only [Option.bind_some, if_true, if_false, Bool.false_eq_true, Bool.decide_and] <;> grind

theorem iterN_meas {σt ρt : Type} {B : σt → Option (σt ⊕ ρt)} {I : σt → Prop} {μ : σt → Nat} {R : ρt → Prop}
    (hs : ∀ s, I s → (∃ s', B s = some (.inl s') ∧ I s' ∧ μ s' < μ s) ∨ ∃ r, B s = some (.inr r) ∧ R r) : ∀ n s, I s → μ s < n → ∃ r, iterN B n s = some r ∧ R r := by
  intro n
  induction n with
  | zero => intro s _ h; omega
  | succ n ih =>
    intro s hI hm
    rcases hs s hI with ⟨s', h1, h2, h3⟩ | ⟨r, h1, h2⟩
    · obtain ⟨r, g1, g2⟩ := ih s' h2 (by omega)
      exact ⟨r, by rw [iterN, h1]; exact g1, g2⟩
    · exact ⟨r, by rw [iterN, h1], h2⟩
theorem iterN_stop {σt ρt : Type} {B : σt → Option (σt ⊕ ρt)} {s : σt} {r : ρt} {n : Nat} (h : B s = some (.inr r)) (hn : 0 < n) : iterN B n s = some r := by
  obtain ⟨m, rfl⟩ : ∃ m, n = m + 1 := ⟨n - 1, by omega⟩
  rw [iterN, h]
theorem eqb_self (s : Str) : Str.eqb s s = true := by unfold Str.eqb; simp

/-- a walk along a list: I says what holds of the rest and the state -/
theorem iter_list {S ρ α σ : Type} {l : List α} {B : S → Option (S ⊕ ρ)} (enc : Nat → σ → S) (I : List α → σ → Prop) (R : ρ → Prop)
    (hs : ∀ k x xs a, k < l.length → l[k]? = some x → l.length = k + (x :: xs).length → I (x :: xs) a → (∃ a', B (enc k a) = some (.inl (enc (k + 1) a')) ∧ I xs a') ∨ ∃ r, B (enc k a) = some (.inr r) ∧ R r)
    (he : ∀ a, I [] a → ∃ r, B (enc l.length a) = some (.inr r) ∧ R r) :
    ∀ (ys : List α) (k : Nat) (a : σ) (n : Nat), l.drop k = ys → k ≤ l.length → I ys a → ys.length < n → ∃ r, iterN B n (enc k a) = some r ∧ R r
  | [], k, a, n, hd, hk, hI, hn => by
    obtain ⟨n, rfl⟩ : ∃ j, n = j + 1 := ⟨n - 1, by omega⟩
    have : k = l.length := by
      have := congrArg List.length hd
      simp at this; omega
    subst this
    obtain ⟨r, h1, h2⟩ := he a hI
    exact ⟨r, by unfold iterN; rw [h1], h2⟩
  | x :: xs, k, a, n, hd, hk, hI, hn => by
    obtain ⟨n, rfl⟩ : ∃ j, n = j + 1 := ⟨n - 1, by omega⟩
    have hl : l.length = k + (x :: xs).length := by
      have := congrArg List.length hd
      simp at this ⊢; omega
    have hk' : k < l.length := by simp at hl; omega
    have hx : l[k]? = some x := by
      have h0 : (l.drop k)[0]? = some x := by rw [hd]; rfl
      rw [List.getElem?_drop] at h0; simpa using h0
    rcases hs k x xs a hk' hx hl hI with ⟨a', h1, h2⟩ | ⟨r, h1, h2⟩
    · obtain ⟨r, g1, g2⟩ := iter_list enc I R hs he xs (k + 1) a' n (by rw [← List.drop_drop, hd]; rfl) (by omega) h2 (by simp at hn; omega)
      exact ⟨r, by unfold iterN; rw [h1]; exact g1, g2⟩
    · exact ⟨r, by unfold iterN; rw [h1], h2⟩
theorem iter_all {S ρ α σ : Type} {l : List α} {B : S → Option (S ⊕ ρ)} (enc : Nat → σ → S) (I : List α → σ → Prop) (R : ρ → Prop)
    (hs : ∀ k x xs a, k < l.length → l[k]? = some x → l.length = k + (x :: xs).length → I (x :: xs) a → (∃ a', B (enc k a) = some (.inl (enc (k + 1) a')) ∧ I xs a') ∨ ∃ r, B (enc k a) = some (.inr r) ∧ R r)
    (he : ∀ a, I [] a → ∃ r, B (enc l.length a) = some (.inr r) ∧ R r) {a : σ} {n : Nat} (hI : I l a) (hn : l.length < n) : ∃ r, iterN B n (enc 0 a) = some r ∧ R r :=
  iter_list enc I R hs he l 0 a n rfl (Nat.zero_le _) hI hn
end Go.Proofs.Ytdkfoghhjkjjlaa
