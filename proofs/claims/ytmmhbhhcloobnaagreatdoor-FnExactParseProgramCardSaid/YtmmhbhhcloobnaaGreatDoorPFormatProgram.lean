/- The plain law of this claim. No program in sight. -/
import Derived.Test.YtmmhbhhcloobnaaGreatDoorPFormatIns
namespace Go.Proofs.YtmmhbhhcloobnaaGreatDoor
open Go.GL
/-! ### three numbers -/
theorem join_three (a b c : Str) : Lib.join ([a, b, c].map (·.bytes)) sp.bytes = a.bytes ++ [32] ++ b.bytes ++ [32] ++ c.bytes := by
  simp [Lib.join, List.intercalate, sp]
def threeN (a b c : Int) : Str := ⟨(num a).bytes ++ [32] ++ (num b).bytes ++ [32] ++ (num c).bytes⟩
theorem spec_ints {a b c : Int} (ha : 0 ≤ a ∧ a ≤ 500) (hb : 0 ≤ b ∧ b ≤ 500) (hc : 0 ≤ c ∧ c ≤ 500) : spec_FormatInts fuel [a, b, c] = some (threeN a b c) := by
  have na := num_len ha.1 (show a ≤ 1000 by omega)
  have nb := num_len hb.1 (show b ≤ 1000 by omega)
  have nc := num_len hc.1 (show c ≤ 1000 by omega)
  have ea := spec_num ha.1 (show a ≤ 1000 by omega)
  have eb := spec_num hb.1 (show b ≤ 1000 by omega)
  have ec := spec_num hc.1 (show c ≤ 1000 by omega)
  have hj := join3 1048575 (a := num a) (b := num b) (c := num c) (by omega) (by omega) (by omega)
  have hf : fuel = 1048575 + 5 := rfl
  rw [← hf] at hj
  have a1 : ∀ x : Str, app? ([] : List Str) [x] = some [x] := fun x => app_s (by simp)
  have a2 : ∀ x y : Str, app? [x] [y] = some [x, y] := fun x y => app_s (by simp)
  have a3 : ∀ x y z : Str, app? [x, y] [z] = some [x, y, z] := fun x y z => app_s (by simp)
  unfold spec_FormatInts
  obtain ⟨l, e1, e2⟩ := iterN_meas (B := fun (s1 : Int × (List Str)) =>
    if (decide (s1.1 < (len [a, b, c]))) then
      (get? [a, b, c] s1.1).bind fun x1 =>
      (spec_FormatInt fuel x1).bind fun x2 =>
      (app? s1.2 ([x2] : List Str)).bind fun x3 =>
      some (.inl ((w64 (s1.1 + 1)), x3))
    else
      some (.inr (s1.2))) (I := fun s => s = (0, []) ∨ s = (1, [num a]) ∨ s = (2, [num a, num b]) ∨ s = (3, [num a, num b, num c])) (μ := fun s => 3 - s.1.toNat) (R := fun r => r = [num a, num b, num c]) (by
      rintro s (rfl | rfl | rfl | rfl)
      · exact .inl ⟨(1, [num a]), by simp [len, get?, ea, a1, k1], by simp, by show (2 : Nat) < 3; omega⟩
      · exact .inl ⟨(2, [num a, num b]), by simp [len, get?, eb, a2, k2], by simp, by show (1 : Nat) < 2; omega⟩
      · exact .inl ⟨(3, [num a, num b, num c]), by simp [len, get?, ec, a3, k3], by simp, by show (0 : Nat) < 1; omega⟩
      · exact .inr ⟨[num a, num b, num c], by simp [len], rfl⟩) fuel (0, []) (.inl rfl) (by decide)
  rw [e1, e2]
  simp only [Option.bind_some]
  rw [show (⟨[32]⟩ : Str) = sp from rfl, hj]
  rfl
theorem impl_ints {a b c : Int} (ha : 0 ≤ a ∧ a ≤ 500) (hb : 0 ≤ b ∧ b ≤ 500) (hc : 0 ≤ c ∧ c ≤ 500) : impl_FormatInts fuel [a, b, c] = some (threeN a b c) := by
  have na := num_len ha.1 (show a ≤ 1000 by omega)
  have nb := num_len hb.1 (show b ≤ 1000 by omega)
  have nc := num_len hc.1 (show c ≤ 1000 by omega)
  have ea := impl_num ha.1 (show a ≤ 1000 by omega)
  have eb := impl_num hb.1 (show b ≤ 1000 by omega)
  have ec := impl_num hc.1 (show c ≤ 1000 by omega)
  have hm : mk? (len [a, b, c]) (⟨[]⟩ : Str) = some [⟨[]⟩, ⟨[]⟩, ⟨[]⟩] := rfl
  unfold impl_FormatInts
  rw [hm, Option.bind_some]
  obtain ⟨l, e1, e2⟩ := iterN_meas (B := fun (s1 : Int × (List Str)) =>
    if (decide (s1.1 < (len [a, b, c]))) then
      (get? [a, b, c] s1.1).bind fun x2 =>
      (impl_FormatInt x2).bind fun x3 =>
      (set? s1.2 s1.1 x3).bind fun x4 =>
      some (.inl ((w64 (s1.1 + 1)), x4))
    else
      some (.inr (s1.2))) (I := fun s => s = (0, [⟨[]⟩, ⟨[]⟩, ⟨[]⟩]) ∨ s = (1, [num a, ⟨[]⟩, ⟨[]⟩]) ∨ s = (2, [num a, num b, ⟨[]⟩]) ∨ s = (3, [num a, num b, num c])) (μ := fun s => 3 - s.1.toNat) (R := fun r => r = [num a, num b, num c]) (by
      rintro s (rfl | rfl | rfl | rfl)
      · exact .inl ⟨(1, [num a, ⟨[]⟩, ⟨[]⟩]), by simp [len, get?, set?, ea, k1], by simp, by show (2 : Nat) < 3; omega⟩
      · exact .inl ⟨(2, [num a, num b, ⟨[]⟩]), by simp [len, get?, set?, eb, k2], by simp, by show (1 : Nat) < 2; omega⟩
      · exact .inl ⟨(3, [num a, num b, num c]), by simp [len, get?, set?, ec, k3], by simp, by show (0 : Nat) < 1; omega⟩
      · exact .inr ⟨[num a, num b, num c], by simp [len], rfl⟩) fuel (0, [⟨[]⟩, ⟨[]⟩, ⟨[]⟩]) (.inl rfl) (by decide)
  rw [e1, e2]
  simp only [Option.bind_some]
  unfold strings_Join
  rw [show (⟨[32]⟩ : Str) = sp from rfl, join_three, if_pos ⟨by simp, by simp; omega⟩]
  rfl
/-! ### the lines -/
theorem lf : strOf ([(Byt.mk 10)] : List Byt) = ⟨[10]⟩ := by decide
def lineF (x : D.Ins) (w n : Int) : Str := (spec_FormatIns fuel x w n).getD ⟨[]⟩
theorem line_eq (x : D.Ins) (w n : Int) : spec_FormatIns fuel x w n = some (lineF x w n) ∧ impl_FormatIns x w n = some (lineF x w n) ∧ (lineF x w n).bytes.length ≤ 2100 := by
  obtain ⟨s, h1, h2, h3⟩ := format_eq x w n
  have : lineF x w n = s := by unfold lineF; rw [h1]; rfl
  rw [this]
  exact ⟨h1, h2, h3⟩
/-- the text after i lines -/
def textN (w n : Int) (h : List UInt8) : List D.Ins → List UInt8
  | [] => h
  | x :: l => textN w n (h ++ (lineF x w n).bytes ++ [10]) l
theorem text_snoc (w n : Int) : ∀ (l : List D.Ins) (h : List UInt8) (x : D.Ins), textN w n h (l ++ [x]) = textN w n h l ++ (lineF x w n).bytes ++ [10] := by
  intro l
  induction l with
  | nil => intro h x; rfl
  | cons y l ih => intro h x; exact ih _ x
theorem text_len (w n : Int) : ∀ (l : List D.Ins) (h : List UInt8), (textN w n h l).length ≤ h.length + 2101 * l.length := by
  intro l
  induction l with
  | nil => intro h; simp [textN]
  | cons y l ih =>
    intro h
    have h1 := ih (h ++ (lineF y w n).bytes ++ [10])
    have h2 := (line_eq y w n).2.2
    simp only [List.length_append, List.length_cons, List.length_nil] at h1 ⊢
    simp only [textN]
    omega
section
variable {x : D.Program} {h : Str}
theorem spec_lines (hc : x.Code.length ≤ 40) (hh : h.bytes.length ≤ 4000) : iterN (fun (s1 : Str × Int) =>
      if (decide (s1.2 < (len x.Code))) then
        (get? x.Code s1.2).bind fun x5 =>
        (spec_FormatIns fuel x5 x.W (len x.Code)).bind fun x6 =>
        (cat? s1.1 x6).bind fun x7 =>
        (cat? x7 (strOf ([(Byt.mk 10)] : List Byt))).bind fun x8 =>
        some (.inl (x8, (w64 (s1.2 + 1))))
      else
        some (.inr (s1.1))) fuel (h, 0) = some ⟨textN x.W (len x.Code) h.bytes x.Code⟩ := by
  obtain ⟨o, e1, e2⟩ := iterN_meas (B := fun (s1 : Str × Int) =>
      if (decide (s1.2 < (len x.Code))) then
        (get? x.Code s1.2).bind fun x5 =>
        (spec_FormatIns fuel x5 x.W (len x.Code)).bind fun x6 =>
        (cat? s1.1 x6).bind fun x7 =>
        (cat? x7 (strOf ([(Byt.mk 10)] : List Byt))).bind fun x8 =>
        some (.inl (x8, (w64 (s1.2 + 1))))
      else
        some (.inr (s1.1))) (I := fun s => ∃ i : Nat, s = (⟨textN x.W (len x.Code) h.bytes (x.Code.take i)⟩, (i : Int)) ∧ i ≤ x.Code.length) (μ := fun s => x.Code.length - s.2.toNat) (R := fun o => o = ⟨textN x.W (len x.Code) h.bytes x.Code⟩) (by
      rintro s ⟨i, rfl, hi⟩
      by_cases c : i < x.Code.length
      · left
        have w1 : w64 ((i : Int) + 1) = ((i + 1 : Nat) : Int) := by rw [w64_id (by omega) (by omega)]; omega
        have c1 : decide ((i : Int) < len x.Code) = true := by rw [len_nat]; exact decide_eq_true (by omega)
        have c2 : get? x.Code (i : Int) = some x.Code[i] := by rw [get?_nat, List.getElem?_eq_getElem c]
        have htk : x.Code.take (i + 1) = x.Code.take i ++ [x.Code[i]] := by rw [List.take_add_one, List.getElem?_eq_getElem c]; rfl
        obtain ⟨l1, l2, l3⟩ := line_eq x.Code[i] x.W (len x.Code)
        have hl := text_len x.W (len x.Code) (x.Code.take i) h.bytes
        rw [List.length_take] at hl
        have hl' : (textN x.W (len x.Code) h.bytes (x.Code.take i)).length ≤ 90000 := by
          have : min i x.Code.length ≤ 40 := by omega
          omega
        refine ⟨(⟨textN x.W (len x.Code) h.bytes (x.Code.take (i + 1))⟩, ((i + 1 : Nat) : Int)), ?_, ⟨i + 1, rfl, by omega⟩, by simp; omega⟩
        simp only [c1, if_true, c2, Option.bind_some, l1, lf]
        rw [cat_eq (by simp only; omega), Option.bind_some, cat_eq (by simp only [List.length_append, List.length_cons, List.length_nil]; omega), Option.bind_some, w1, htk, text_snoc]
      · right
        have c1 : decide ((i : Int) < len x.Code) = false := by rw [len_nat]; exact decide_eq_false (by omega)
        refine ⟨⟨textN x.W (len x.Code) h.bytes (x.Code.take i)⟩, by simp [c1], ?_⟩
        rw [List.take_of_length_le (by omega)]) fuel (h, 0) ⟨0, rfl, by omega⟩ (Nat.lt_of_le_of_lt (Nat.le_trans (Nat.sub_le _ _) hc) (by decide))
  rw [e1, e2]
theorem impl_lines (hc : x.Code.length ≤ 40) (hh : h.bytes.length ≤ 4000) : iterN (fun (s1 : Int × Str) =>
      if (decide (s1.1 < (len x.Code))) then
        (get? x.Code s1.1).bind fun x6 =>
        (impl_FormatIns x6 x.W (len x.Code)).bind fun x7 =>
        (cat? x7 (⟨[10]⟩)).bind fun x8 =>
        (bw? s1.2 x8).bind fun x9 =>
        some (.inl ((w64 (s1.1 + 1)), x9))
      else
        some (.inr (s1.2))) fuel (0, h) = some ⟨textN x.W (len x.Code) h.bytes x.Code⟩ := by
  obtain ⟨o, e1, e2⟩ := iterN_meas (B := fun (s1 : Int × Str) =>
      if (decide (s1.1 < (len x.Code))) then
        (get? x.Code s1.1).bind fun x6 =>
        (impl_FormatIns x6 x.W (len x.Code)).bind fun x7 =>
        (cat? x7 (⟨[10]⟩)).bind fun x8 =>
        (bw? s1.2 x8).bind fun x9 =>
        some (.inl ((w64 (s1.1 + 1)), x9))
      else
        some (.inr (s1.2))) (I := fun s => ∃ i : Nat, s = ((i : Int), ⟨textN x.W (len x.Code) h.bytes (x.Code.take i)⟩) ∧ i ≤ x.Code.length) (μ := fun s => x.Code.length - s.1.toNat) (R := fun o => o = ⟨textN x.W (len x.Code) h.bytes x.Code⟩) (by
      rintro s ⟨i, rfl, hi⟩
      by_cases c : i < x.Code.length
      · left
        have w1 : w64 ((i : Int) + 1) = ((i + 1 : Nat) : Int) := by rw [w64_id (by omega) (by omega)]; omega
        have c1 : decide ((i : Int) < len x.Code) = true := by rw [len_nat]; exact decide_eq_true (by omega)
        have c2 : get? x.Code (i : Int) = some x.Code[i] := by rw [get?_nat, List.getElem?_eq_getElem c]
        have htk : x.Code.take (i + 1) = x.Code.take i ++ [x.Code[i]] := by rw [List.take_add_one, List.getElem?_eq_getElem c]; rfl
        obtain ⟨l1, l2, l3⟩ := line_eq x.Code[i] x.W (len x.Code)
        have hl := text_len x.W (len x.Code) (x.Code.take i) h.bytes
        rw [List.length_take] at hl
        have hl' : (textN x.W (len x.Code) h.bytes (x.Code.take i)).length ≤ 90000 := by
          have : min i x.Code.length ≤ 40 := by omega
          omega
        refine ⟨(((i + 1 : Nat) : Int), ⟨textN x.W (len x.Code) h.bytes (x.Code.take (i + 1))⟩), ?_, ⟨i + 1, rfl, by omega⟩, by simp; omega⟩
        simp only [c1, if_true, c2, Option.bind_some, l2]
        rw [cat_eq (by simp only [List.length_cons, List.length_nil]; omega), Option.bind_some]
        unfold bw?
        rw [if_pos (by simp only [List.length_append, List.length_cons, List.length_nil]; omega), Option.bind_some, w1, htk, text_snoc]
        simp only [List.append_assoc]
      · right
        have c1 : decide ((i : Int) < len x.Code) = false := by rw [len_nat]; exact decide_eq_false (by omega)
        refine ⟨⟨textN x.W (len x.Code) h.bytes (x.Code.take i)⟩, by simp [c1], ?_⟩
        rw [List.take_of_length_le (by omega)]) fuel (0, h) ⟨0, rfl, by omega⟩ (Nat.lt_of_le_of_lt (Nat.le_trans (Nat.sub_le _ _) hc) (by decide))
  rw [e1, e2]
end
theorem prog_all {x : D.Program} (h : progB x = true) : (2 ≤ x.W ∧ x.W ≤ 8) ∧ (1 ≤ x.Mem ∧ x.Mem ≤ 6) ∧ (0 ≤ x.In ∧ x.In ≤ 3) ∧ x.Code.length ≤ 40 := by
  unfold progB at h
  simp only [Bool.and_eq_true, decide_eq_true_eq] at h
  exact ⟨h.1.1.1.1.1, h.1.1.1.1.2, h.1.1.2, by omega⟩
theorem program_eq {x : D.Program} (h : x.Code.length ≤ 1048576) : ∃ s, spec_FormatProgram fuel x = some s ∧ impl_FormatProgram fuel x = some s := by
  unfold spec_FormatProgram impl_FormatProgram
  rw [spec_prog h, impl_prog h]
  cases hp : progB x with
  | false => exact ⟨⟨[]⟩, rfl, rfl⟩
  | true =>
    obtain ⟨p1, p2, p3, p4⟩ := prog_all hp
    have i1 := spec_ints (a := x.W) (b := x.Mem) (c := x.In) ⟨by omega, by omega⟩ ⟨by omega, by omega⟩ ⟨by omega, by omega⟩
    have i2 := impl_ints (a := x.W) (b := x.Mem) (c := x.In) ⟨by omega, by omega⟩ ⟨by omega, by omega⟩ ⟨by omega, by omega⟩
    have hl : (threeN x.W x.Mem x.In).bytes.length ≤ 3010 := by
      have n1 := num_len (n := x.W) (by omega) (by omega)
      have n2 := num_len (n := x.Mem) (by omega) (by omega)
      have n3 := num_len (n := x.In) (by omega) (by omega)
      simp only [threeN, List.length_append, List.length_cons, List.length_nil]
      omega
    simp only [Option.bind_some, Bool.not_true, Bool.false_eq_true, if_false, i1, i2, lf]
    generalize threeN x.W x.Mem x.In = t at hl
    have hc1 : cat? (⟨[109, 97, 99, 104, 105, 110, 101, 32]⟩) t = some ⟨[109, 97, 99, 104, 105, 110, 101, 32] ++ t.bytes⟩ := cat_eq (by simp; omega)
    have hc2 : cat? ⟨[109, 97, 99, 104, 105, 110, 101, 32] ++ t.bytes⟩ ⟨[10]⟩ = some ⟨[109, 97, 99, 104, 105, 110, 101, 32] ++ t.bytes ++ [10]⟩ := cat_eq (by simp; omega)
    have hbw : bw? (⟨[]⟩ : Str) ⟨[109, 97, 99, 104, 105, 110, 101, 32] ++ t.bytes ++ [10]⟩ = some ⟨[109, 97, 99, 104, 105, 110, 101, 32] ++ t.bytes ++ [10]⟩ := by
      unfold bw?
      rw [if_pos (by simp; omega)]
      rfl
    simp only [hc1, hc2, hbw, Option.bind_some]
    have hh : (⟨[109, 97, 99, 104, 105, 110, 101, 32] ++ t.bytes ++ [10]⟩ : Str).bytes.length ≤ 4000 := by simp; omega
    have sl := spec_lines p4 hh
    simp only [lf] at sl
    rw [sl, impl_lines p4 hh]
    exact ⟨_, rfl, rfl⟩
end Go.Proofs.YtmmhbhhcloobnaaGreatDoor
