/- The plain law of this claim. No program in sight. -/
import Derived.Test.YtmmhbhhcloobnaaGreatDoorPFormatIns
import Derived.Test.YtmmhbhhcloobnaaGreatDoorPInt
namespace Go.Proofs.YtmmhbhhcloobnaaGreatDoor
open Go.GL
/-! ### the words -/
def loopS (t : Str) : Option Int := iterN (fun (s1 : Int × Int) =>
      if (decide (s1.1 ≤ 14)) then
        (if (s1.1 != 3) then (spec_l05Word (D.Ins.mk s1.1 0 0 0)) else some default).bind fun x2 =>
        (if (s1.1 != 3) then some t else some default).bind fun x3 =>
        if ((s1.1 != 3) && (Str.eqb x2 x3)) then
          some (.inl ((w64 (s1.1 + 1)), s1.1))
        else
          some (.inl ((w64 (s1.1 + 1)), s1.2))
      else
        some (.inr (s1.2))
    ) fuel (1, 0)
def loopI (t : Str) : Option Int := iterN (fun (s1 : Int × Int) =>
      if (decide (s1.1 ≤ 14)) then
        (impl_insWord s1.1).bind fun x2 =>
        (some t).bind fun x3 =>
        if (Str.eqb x2 x3) then
          some (.inl ((w64 (s1.1 + 1)), s1.1))
        else
          some (.inl ((w64 (s1.1 + 1)), s1.2))
      else
        some (.inr (s1.2))
    ) fuel (1, 0)
/-- t is the word of op, and of c if op is 3 -/
structure Tok (t : Str) (op c : Int) : Prop where
  free : 32 ∉ t.bytes
  free10 : 10 ∉ t.bytes
  ne : t.bytes ≠ []
  len : t.bytes.length ≤ 20
  ls : loopS t = some (if op = 3 then 0 else op)
  li : loopI t = some (if op = 3 then 0 else op)
  os : op = 3 → spec_OpOf fuel t = some c
  oi : op = 3 → impl_OpOf fuel t = some c
theorem w_op {op : Int} (h : 1 ≤ op ∧ op ≤ 14) (h3 : op ≠ 3) : ∃ t, impl_insWord op = some t ∧ spec_l05Word ⟨op, 0, 0, 0⟩ = some t ∧ Tok t op 0 := by
  have : op = 1 ∨ op = 2 ∨ op = 4 ∨ op = 5 ∨ op = 6 ∨ op = 7 ∨ op = 8 ∨ op = 9 ∨ op = 10 ∨ op = 11 ∨ op = 12 ∨ op = 13 ∨ op = 14 := by omega
  rcases this with rfl | rfl | rfl | rfl | rfl | rfl | rfl | rfl | rfl | rfl | rfl | rfl | rfl
  · exact ⟨⟨[115, 101, 116]⟩, rfl, rfl, by decide, by decide, by decide, by decide, by decide +kernel, by decide +kernel, fun h => absurd h (by decide), fun h => absurd h (by decide)⟩
  · exact ⟨⟨[109, 111, 118, 101]⟩, rfl, rfl, by decide, by decide, by decide, by decide, by decide +kernel, by decide +kernel, fun h => absurd h (by decide), fun h => absurd h (by decide)⟩
  · exact ⟨⟨[110, 111, 116]⟩, rfl, rfl, by decide, by decide, by decide, by decide, by decide +kernel, by decide +kernel, fun h => absurd h (by decide), fun h => absurd h (by decide)⟩
  · exact ⟨⟨[105, 110]⟩, rfl, rfl, by decide, by decide, by decide, by decide, by decide +kernel, by decide +kernel, fun h => absurd h (by decide), fun h => absurd h (by decide)⟩
  · exact ⟨⟨[111, 117, 116]⟩, rfl, rfl, by decide, by decide, by decide, by decide, by decide +kernel, by decide +kernel, fun h => absurd h (by decide), fun h => absurd h (by decide)⟩
  · exact ⟨⟨[108, 111, 97, 100]⟩, rfl, rfl, by decide, by decide, by decide, by decide, by decide +kernel, by decide +kernel, fun h => absurd h (by decide), fun h => absurd h (by decide)⟩
  · exact ⟨⟨[115, 116, 111, 114, 101]⟩, rfl, rfl, by decide, by decide, by decide, by decide, by decide +kernel, by decide +kernel, fun h => absurd h (by decide), fun h => absurd h (by decide)⟩
  · exact ⟨⟨[106, 117, 109, 112]⟩, rfl, rfl, by decide, by decide, by decide, by decide, by decide +kernel, by decide +kernel, fun h => absurd h (by decide), fun h => absurd h (by decide)⟩
  · exact ⟨⟨[122, 101, 114, 111]⟩, rfl, rfl, by decide, by decide, by decide, by decide, by decide +kernel, by decide +kernel, fun h => absurd h (by decide), fun h => absurd h (by decide)⟩
  · exact ⟨⟨[99, 97, 108, 108]⟩, rfl, rfl, by decide, by decide, by decide, by decide, by decide +kernel, by decide +kernel, fun h => absurd h (by decide), fun h => absurd h (by decide)⟩
  · exact ⟨⟨[114, 101, 116]⟩, rfl, rfl, by decide, by decide, by decide, by decide, by decide +kernel, by decide +kernel, fun h => absurd h (by decide), fun h => absurd h (by decide)⟩
  · exact ⟨⟨[99, 104, 101, 99, 107]⟩, rfl, rfl, by decide, by decide, by decide, by decide, by decide +kernel, by decide +kernel, fun h => absurd h (by decide), fun h => absurd h (by decide)⟩
  · exact ⟨⟨[104, 97, 108, 116]⟩, rfl, rfl, by decide, by decide, by decide, by decide, by decide +kernel, by decide +kernel, fun h => absurd h (by decide), fun h => absurd h (by decide)⟩
theorem w_c {c : Int} (h : 3 ≤ c ∧ c ≤ 16) : ∃ t, impl_OpName c = some t ∧ Tok t 3 c := by
  have : c = 3 ∨ c = 4 ∨ c = 5 ∨ c = 6 ∨ c = 7 ∨ c = 8 ∨ c = 9 ∨ c = 10 ∨ c = 11 ∨ c = 12 ∨ c = 13 ∨ c = 14 ∨ c = 15 ∨ c = 16 := by omega
  rcases this with rfl | rfl | rfl | rfl | rfl | rfl | rfl | rfl | rfl | rfl | rfl | rfl | rfl | rfl
  · exact ⟨⟨[97, 100, 100]⟩, rfl, by decide, by decide, by decide, by decide, by decide +kernel, by decide +kernel, fun _ => by decide +kernel, fun _ => by decide +kernel⟩
  · exact ⟨⟨[115, 117, 98]⟩, rfl, by decide, by decide, by decide, by decide, by decide +kernel, by decide +kernel, fun _ => by decide +kernel, fun _ => by decide +kernel⟩
  · exact ⟨⟨[109, 117, 108]⟩, rfl, by decide, by decide, by decide, by decide, by decide +kernel, by decide +kernel, fun _ => by decide +kernel, fun _ => by decide +kernel⟩
  · exact ⟨⟨[100, 105, 118]⟩, rfl, by decide, by decide, by decide, by decide, by decide +kernel, by decide +kernel, fun _ => by decide +kernel, fun _ => by decide +kernel⟩
  · exact ⟨⟨[114, 101, 109]⟩, rfl, by decide, by decide, by decide, by decide, by decide +kernel, by decide +kernel, fun _ => by decide +kernel, fun _ => by decide +kernel⟩
  · exact ⟨⟨[97, 110, 100]⟩, rfl, by decide, by decide, by decide, by decide, by decide +kernel, by decide +kernel, fun _ => by decide +kernel, fun _ => by decide +kernel⟩
  · exact ⟨⟨[111, 114]⟩, rfl, by decide, by decide, by decide, by decide, by decide +kernel, by decide +kernel, fun _ => by decide +kernel, fun _ => by decide +kernel⟩
  · exact ⟨⟨[120, 111, 114]⟩, rfl, by decide, by decide, by decide, by decide, by decide +kernel, by decide +kernel, fun _ => by decide +kernel, fun _ => by decide +kernel⟩
  · exact ⟨⟨[115, 104, 108]⟩, rfl, by decide, by decide, by decide, by decide, by decide +kernel, by decide +kernel, fun _ => by decide +kernel, fun _ => by decide +kernel⟩
  · exact ⟨⟨[115, 104, 114]⟩, rfl, by decide, by decide, by decide, by decide, by decide +kernel, by decide +kernel, fun _ => by decide +kernel, fun _ => by decide +kernel⟩
  · exact ⟨⟨[115, 97, 114]⟩, rfl, by decide, by decide, by decide, by decide, by decide +kernel, by decide +kernel, fun _ => by decide +kernel, fun _ => by decide +kernel⟩
  · exact ⟨⟨[101, 113]⟩, rfl, by decide, by decide, by decide, by decide, by decide +kernel, by decide +kernel, fun _ => by decide +kernel, fun _ => by decide +kernel⟩
  · exact ⟨⟨[108, 101, 115, 115]⟩, rfl, by decide, by decide, by decide, by decide, by decide +kernel, by decide +kernel, fun _ => by decide +kernel, fun _ => by decide +kernel⟩
  · exact ⟨⟨[98, 101, 108, 111, 119]⟩, rfl, by decide, by decide, by decide, by decide, by decide +kernel, by decide +kernel, fun _ => by decide +kernel, fun _ => by decide +kernel⟩
theorem loopS_all (t : Str) : ∃ r, loopS t = some r := by
  obtain ⟨r, h, -⟩ := iterN_meas (B := fun (s1 : Int × Int) =>
      if (decide (s1.1 ≤ 14)) then
        (if (s1.1 != 3) then (spec_l05Word (D.Ins.mk s1.1 0 0 0)) else some default).bind fun x2 =>
        (if (s1.1 != 3) then some t else some default).bind fun x3 =>
        if ((s1.1 != 3) && (Str.eqb x2 x3)) then
          some (.inl ((w64 (s1.1 + 1)), s1.1))
        else
          some (.inl ((w64 (s1.1 + 1)), s1.2))
      else
        some (.inr (s1.2))) (I := fun s => 1 ≤ s.1 ∧ s.1 ≤ 15) (μ := fun s => 15 - s.1.toNat) (R := fun _ => True) (by
      rintro ⟨i, o⟩ ⟨h1, h2⟩
      simp only at h1 h2
      by_cases c : i ≤ 14
      · left
        have w1 : w64 (i + 1) = i + 1 := w64_id (by omega) (by omega)
        simp only [decide_eq_true c, if_true, w1]
        by_cases h3 : i = 3
        · subst h3
          exact ⟨(4, o), by simp, by simp, by show 15 - (4 : Int).toNat < 15 - (3 : Int).toNat; decide⟩
        · obtain ⟨u, -, hu, -⟩ := w_op ⟨h1, c⟩ h3
          have hb : (i != 3) = true := by simpa using h3
          simp only [hb, if_true, hu, Option.bind_some, Bool.true_and]
          split
          · exact ⟨_, rfl, by simp; omega, by simp; omega⟩
          · exact ⟨_, rfl, by simp; omega, by simp; omega⟩
      · right
        exact ⟨o, by simp [c], trivial⟩) fuel (1, 0) ⟨by decide, by decide⟩ (by decide)
  exact ⟨r, h⟩
theorem loopI_all (t : Str) : ∃ r, loopI t = some r := by
  obtain ⟨r, h, -⟩ := iterN_meas (B := fun (s1 : Int × Int) =>
      if (decide (s1.1 ≤ 14)) then
        (impl_insWord s1.1).bind fun x2 =>
        (some t).bind fun x3 =>
        if (Str.eqb x2 x3) then
          some (.inl ((w64 (s1.1 + 1)), s1.1))
        else
          some (.inl ((w64 (s1.1 + 1)), s1.2))
      else
        some (.inr (s1.2))) (I := fun s => 1 ≤ s.1 ∧ s.1 ≤ 15) (μ := fun s => 15 - s.1.toNat) (R := fun _ => True) (by
      rintro ⟨i, o⟩ ⟨h1, h2⟩
      simp only at h1 h2
      by_cases c : i ≤ 14
      · left
        have w1 : w64 (i + 1) = i + 1 := w64_id (by omega) (by omega)
        simp only [decide_eq_true c, if_true, w1]
        have hw : ∃ u, impl_insWord i = some u := by
          by_cases h3 : i = 3
          · subst h3; exact ⟨_, rfl⟩
          · obtain ⟨u, hu, -⟩ := w_op ⟨h1, c⟩ h3
            exact ⟨u, hu⟩
        obtain ⟨u, hu⟩ := hw
        simp only [hu, Option.bind_some]
        split
        · exact ⟨_, rfl, by simp; omega, by simp; omega⟩
        · exact ⟨_, rfl, by simp; omega, by simp; omega⟩
      · right
        exact ⟨o, by simp [c], trivial⟩) fuel (1, 0) ⟨by decide, by decide⟩ (by decide)
  exact ⟨r, h⟩
theorem ofS_all (t : Str) : ∃ r, spec_OpOf fuel t = some r := by
  unfold spec_OpOf
  obtain ⟨l, hl, hn⟩ : ∃ l, spec_l01Names = some l ∧ l.length = 17 := ⟨_, rfl, rfl⟩
  rw [hl, Option.bind_some]
  obtain ⟨r, h, -⟩ := iterN_meas (B := fun (s1 : Int) =>
    if (decide (s1 < (len l))) then
      (get? l s1).bind fun x2 =>
      if (Str.eqb x2 t) then
        some (.inr (.inr s1))
      else
        some (.inl ((w64 (s1 + 1))))
    else
      some (.inr (.inl ()) : Int ⊕ (Unit ⊕ Int))) (I := fun s => 0 ≤ s ∧ s ≤ 17) (μ := fun s => 17 - s.toNat) (R := fun _ => True) (by
      rintro i ⟨h1, h2⟩
      by_cases c : i < 17
      · have c1 : decide (i < len l) = true := by rw [len_nat, hn]; exact decide_eq_true (by omega)
        have w1 : w64 (i + 1) = i + 1 := w64_id (by omega) (by omega)
        have c2 : get? l i = some (l[i.toNat]'(by omega)) := by
          unfold get?
          rw [if_pos h1, List.getElem?_eq_getElem]
        simp only [c1, if_true, c2, Option.bind_some, w1]
        split
        · exact .inr ⟨_, rfl, trivial⟩
        · exact .inl ⟨_, rfl, by omega, by omega⟩
      · right
        have c1 : decide (i < len l) = false := by rw [len_nat, hn]; exact decide_eq_false (by omega)
        exact ⟨.inl (), by simp [c1], trivial⟩) fuel 0 ⟨by decide, by decide⟩ (by decide)
  rw [h, Option.bind_some]
  cases r with
  | inl _ => exact ⟨_, rfl⟩
  | inr v => exact ⟨_, rfl⟩
theorem ofI_all (t : Str) : ∃ r, impl_OpOf fuel t = some r := by
  unfold impl_OpOf
  obtain ⟨r, h, -⟩ := iterN_meas (B := fun (s1 : Int) =>
    if (decide (s1 ≤ 16)) then
      (impl_OpName s1).bind fun x1 =>
      if (Str.eqb x1 t) then
        some (.inr (.inr s1))
      else
        some (.inl ((w64 (s1 + 1))))
    else
      some (.inr (.inl ()) : Int ⊕ (Unit ⊕ Int))) (I := fun s => 1 ≤ s ∧ s ≤ 17) (μ := fun s => 17 - s.toNat) (R := fun _ => True) (by
      rintro i ⟨h1, h2⟩
      by_cases c : i ≤ 16
      · have w1 : w64 (i + 1) = i + 1 := w64_id (by omega) (by omega)
        have c2 : ∃ u, impl_OpName i = some u := by
          have : i = 1 ∨ i = 2 ∨ (3 ≤ i ∧ i ≤ 16) := by omega
          rcases this with rfl | rfl | h
          · exact ⟨_, rfl⟩
          · exact ⟨_, rfl⟩
          · obtain ⟨u, hu, -⟩ := w_c h
            exact ⟨u, hu⟩
        obtain ⟨u, hu⟩ := c2
        simp only [decide_eq_true c, if_true, hu, Option.bind_some, w1]
        split
        · exact .inr ⟨_, rfl, trivial⟩
        · exact .inl ⟨_, rfl, by omega, by omega⟩
      · right
        exact ⟨.inl (), by simp [c], trivial⟩) fuel 1 ⟨by decide, by decide⟩ (by decide)
  rw [h, Option.bind_some]
  cases r with
  | inl _ => exact ⟨_, rfl⟩
  | inr v => exact ⟨_, rfl⟩
/-! ### operands -/
theorem regS {a : Int} (h : 0 ≤ a ∧ a ≤ 3) : reg a = ⟨[114, UInt8.ofNat (48 + a.toNat)]⟩ := by
  unfold reg
  rw [num_pos h.1, Lib.decDigits_one (by omega)]
  rfl
theorem numh {b : Int} (h : 0 ≤ b) : ∃ c r, (num b).bytes = c :: r ∧ c ≠ 114 ∧ c ≠ 32 ∧ 32 ∉ r := by
  have hm := dig_mem b.toNat
  have hl := dl_pos b.toNat
  rw [num_pos h]
  generalize Lib.decDigits b.toNat = l at hm hl
  cases l with
  | nil => simp at hl
  | cons c r =>
    have hc := hm c (by simp)
    refine ⟨c, r, rfl, ?_, ?_, ?_⟩
    · rintro rfl; simp at hc
    · rintro rfl; simp at hc
    · intro h32
      have := hm 32 (by simp [h32])
      simp at this
theorem numS_all {s : Str} (hs : s.bytes.length ≤ 1048576) : ∃ m, spec_l05Number fuel s = some m := by
  unfold spec_l05Number
  obtain ⟨b⟩ := s
  cases b with
  | nil => exact ⟨0, rfl⟩
  | cons c r =>
    have c1 : decide (len (c :: r) > 0) = true := by rw [len_nat]; simp
    have c2 : sidx? ⟨c :: r⟩ 0 = some (c.toNat : Int) := sidx_nat (s := ⟨c :: r⟩) (i := 0) (by simp)
    have c4 : scut? ⟨c :: r⟩ 1 (len (c :: r)) = some ⟨r⟩ := by
      unfold scut?
      rw [if_pos ⟨by omega, by rw [len_nat]; simp; omega, by rw [len_nat]; simp⟩, len_nat]
      simp
    simp only [List.length_cons] at hs
    have c5 := spec_int (s := ⟨r⟩) (by simp only; omega)
    have c6 := spec_int (s := ⟨c :: r⟩) (by simp only [List.length_cons]; omega)
    simp only [c1, if_true, c2, Option.bind_some, c4, c5, c6]
    split
    · exact ⟨_, rfl⟩
    · exact ⟨_, rfl⟩
theorem numS_reg {a : Int} (h : 0 ≤ a ∧ a ≤ 3) : spec_l05Number fuel (reg a) = some a := by
  have h1 : reg a = ⟨114 :: (num a).bytes⟩ := rfl
  have hl := num_len h.1 (show a ≤ 1000 by omega)
  have c5 : spec_ParseInt fuel (num a) = some (a, true) := by rw [spec_int (by omega), parseN_num ⟨by omega, by omega⟩]
  unfold spec_l05Number
  rw [h1]
  have c1 : decide (len (114 :: (num a).bytes) > 0) = true := by rw [len_nat]; simp
  have c2 : sidx? ⟨114 :: (num a).bytes⟩ 0 = some 114 := sidx_nat (s := ⟨114 :: (num a).bytes⟩) (i := 0) (by simp)
  have c4 : scut? ⟨114 :: (num a).bytes⟩ 1 (len (114 :: (num a).bytes)) = some (num a) := by
    unfold scut?
    rw [if_pos ⟨by omega, by rw [len_nat]; simp; omega, by rw [len_nat]; simp⟩, len_nat]
    simp
  simp [c1, c2, c4, c5]
theorem numS_num {b : Int} (h : 0 ≤ b ∧ b ≤ 1000) : spec_l05Number fuel (num b) = some b := by
  obtain ⟨c, r, e, hc, -, -⟩ := numh h.1
  have hl := num_len h.1 h.2
  have c5 : spec_ParseInt fuel (num b) = some (b, true) := by rw [spec_int (by omega), parseN_num ⟨by omega, by omega⟩]
  unfold spec_l05Number
  have c1 : decide (len (num b).bytes > 0) = true := by rw [e, len_nat]; simp
  have c2 : sidx? (num b) 0 = some (c.toNat : Int) := by
    have := sidx_nat (s := num b) (i := 0) (by rw [e]; simp)
    rw [show ((0 : Nat) : Int) = 0 from rfl] at this
    rw [this]
    simp [e]
  have c3 : (((c.toNat : Int) == 114) : Bool) = false := by rw [show (114 : Int) = ((114 : UInt8).toNat : Int) from rfl, byte_eq]; exact decide_eq_false hc
  simp only [c1, if_true, c2, Option.bind_some, c3, Bool.and_false, Bool.false_eq_true, if_false, c5]
theorem preg_all (s : Str) : ∃ r, impl_parseReg s = some r ∧ (r.2 = true → ∃ a, 0 ≤ a ∧ a ≤ 3 ∧ r.1 = a ∧ s = reg a) := by
  unfold impl_parseReg
  by_cases hl : s.bytes.length = 2
  · obtain ⟨l⟩ := s
    match l, hl with
    | [x, y], _ =>
      have c1 : ((len [x, y] != 2) : Bool) = false := rfl
      have c2 : sidx? ⟨[x, y]⟩ 0 = some (x.toNat : Int) := rfl
      have c3 : sidx? ⟨[x, y]⟩ 1 = some (y.toNat : Int) := rfl
      simp only [c1, Bool.false_eq_true, if_false, c2, Option.bind_some, Bool.false_or, c3]
      by_cases h1 : x = 114
      · subst h1
        have c4 : ((((114 : UInt8).toNat : Int) != 114) : Bool) = false := by decide
        simp only [c4, Bool.false_eq_true, if_false, Option.bind_some, Bool.false_or]
        by_cases h2 : (y.toNat : Int) < 48
        · exact ⟨(0, false), by simp [h2], fun h => by simp at h⟩
        · by_cases h3 : (y.toNat : Int) > 51
          · exact ⟨(0, false), by simp [h2, h3], fun h => by simp at h⟩
          · refine ⟨(w64 (IntKind.u8.wrap ((y.toNat : Int) - 48)), true), by simp [h2, h3], fun _ => ⟨(y.toNat : Int) - 48, by omega, by omega, ?_, ?_⟩⟩
            · have : y.toNat = 48 ∨ y.toNat = 49 ∨ y.toNat = 50 ∨ y.toNat = 51 := by omega
              rcases this with h | h | h | h <;> rw [h] <;> decide
            · rw [regS ⟨by omega, by omega⟩]
              congr 2
              have : 48 + ((y.toNat : Int) - 48).toNat = y.toNat := by omega
              rw [this]; simp
      · have c4 : (((x.toNat : Int) != 114) : Bool) = true := by
          have := byte_eq x 114
          rw [decide_eq_false h1] at this
          simp only [bne, Bool.not_eq_true']
          exact this
        exact ⟨(0, false), by simp only [c4, if_true, Option.bind_some, Bool.true_or], fun h => by simp at h⟩
  · have c1 : ((len s.bytes != 2) : Bool) = true := by rw [len_nat]; simp; omega
    exact ⟨(0, false), by simp only [c1, if_true, Option.bind_some, Bool.true_or], fun h => by simp at h⟩
theorem opI_all {s : Str} (hs : s.bytes.length ≤ 1048576) : ∃ m, impl_parseOperand s = some m := by
  obtain ⟨r, h, -⟩ := preg_all s
  unfold impl_parseOperand
  rw [h, Option.bind_some]
  split
  · exact ⟨_, rfl⟩
  · rw [impl_int (by omega)]; exact ⟨_, rfl⟩
theorem opI_reg {a : Int} (h : 0 ≤ a ∧ a ≤ 3) : impl_parseOperand (reg a) = some a := by
  rw [regS h]
  have : a = 0 ∨ a = 1 ∨ a = 2 ∨ a = 3 := by omega
  rcases this with rfl | rfl | rfl | rfl <;> decide
theorem opI_num {b : Int} (h : 0 ≤ b ∧ b ≤ 1000) : impl_parseOperand (num b) = some b := by
  obtain ⟨c, r, e, hc, -, -⟩ := numh h.1
  have hl := num_len h.1 h.2
  obtain ⟨q, h1, h2⟩ := preg_all (num b)
  unfold impl_parseOperand
  rw [h1, Option.bind_some]
  have h3 : q.2 = false := by
    cases hq : q.2 with
    | false => rfl
    | true =>
      obtain ⟨a, h4, h5, -, h7⟩ := h2 hq
      have := congrArg Str.bytes h7
      rw [regS ⟨h4, h5⟩, e] at this
      exact absurd (List.head_eq_of_cons_eq this) hc
  rw [h3]
  simp only [Bool.false_eq_true, if_false]
  rw [impl_int (by omega), parseN_num ⟨by omega, by omega⟩]
  rfl
/-! ### what a reader does with what it has found -/
def lineI (x : D.Ins) (w n : Int) : Str := (impl_FormatIns x w n).getD ⟨[]⟩
theorem lineI_eq (x : D.Ins) (w n : Int) : spec_FormatIns fuel x w n = some (lineI x w n) ∧ impl_FormatIns x w n = some (lineI x w n) := by
  obtain ⟨s, h1, h2, -⟩ := format_eq x w n
  unfold lineI
  rw [h2]
  exact ⟨h1, rfl⟩
def ins0 : D.Ins := ⟨0, 0, 0, 0⟩
def chk (s : Str) (w n : Int) (c : D.Ins) : D.Ins × Bool := if lineI c w n = s then (c, true) else (ins0, false)
theorem line_bad {x : D.Ins} {w n : Int} (h : lineI x w n ≠ ⟨[]⟩) : (2 ≤ w ∧ w ≤ 8) ∧ (1 ≤ n ∧ n ≤ 40) ∧ insB w n x = true := by
  unfold lineI impl_FormatIns at h
  have hs : impl_shapeOk w n = some (decide (2 ≤ w ∧ w ≤ 8) && decide (1 ≤ n ∧ n ≤ 40)) := by
    simp only [impl_shapeOk, Bool.decide_and]
    grind
  simp only [hs, Option.bind_some, impl_ins] at h
  by_cases c1 : 2 ≤ w ∧ w ≤ 8
  case neg => exact absurd (by simp [decide_eq_false c1]) h
  by_cases c2 : 1 ≤ n ∧ n ≤ 40
  case neg => exact absurd (by simp [decide_eq_true c1, decide_eq_false c2]) h
  refine ⟨c1, c2, ?_⟩
  cases hv : insB w n x with
  | true => rfl
  | false => exact absurd (by simp [decide_eq_true c1, decide_eq_true c2, hv]) h
theorem leafS {s : Str} {w n o : Int} {c : D.Ins} (hs : s ≠ ⟨[]⟩) (ho : c.Op = o) : ((if (o == 0) then some default else spec_FormatIns fuel c w n).bind fun x =>
      if ((o == 0) || (!(Str.eqb x s))) then some (D.Ins.mk 0 0 0 0, false) else some (c, true)) = some (chk s w n c) := by
  obtain ⟨l1, l2⟩ := lineI_eq c w n
  rw [l1]
  unfold chk
  by_cases h0 : o = 0
  · have hl : lineI c w n = ⟨[]⟩ := by
      by_cases he : lineI c w n = ⟨[]⟩
      · exact he
      · obtain ⟨h1, h2, h3⟩ := line_bad he
        obtain ⟨h4, -⟩ := ins_fit h1.1 h1.2 h2.2 h3
        omega
    have hn : ¬ (⟨[]⟩ : Str) = s := fun e => hs e.symm
    simp [h0, ins0, hl, hn]
  · have hb : (o == 0) = false := by simpa using h0
    simp only [hb, Bool.false_eq_true, if_false, Option.bind_some, Bool.false_or, eqb_dec]
    by_cases he : lineI c w n = s
    · simp [he]
    · simp [he, ins0]
theorem leafS' {s : Str} {w n : Int} (hs : s ≠ ⟨[]⟩) (o a b v : Int) : ((if (o == 0) then some default else spec_FormatIns fuel (D.Ins.mk o a b v) w n).bind fun x =>
      if ((o == 0) || (!(Str.eqb x s))) then some (D.Ins.mk 0 0 0 0, false) else some (D.Ins.mk o a b v, true)) = some (chk s w n (D.Ins.mk o a b v)) := leafS hs rfl
theorem leafS4 {s : Str} {w n : Int} {c : D.Ins} : ((spec_FormatIns fuel c w n).bind fun x =>
      if Str.eqb x s = false then some (D.Ins.mk 0 0 0 0, false) else some (c, true)) = some (chk s w n c) := by
  obtain ⟨l1, l2⟩ := lineI_eq c w n
  rw [l1]
  unfold chk
  simp only [Option.bind_some, eqb_dec]
  by_cases he : lineI c w n = s
  · simp [he]
  · simp [he, ins0]
theorem leafI {s : Str} {w n : Int} {c : D.Ins} : ((impl_FormatIns c w n).bind fun x =>
      if (!(Str.eqb x s)) then some (D.Ins.mk 0 0 0 0, false) else some (c, true)) = some (chk s w n c) := by
  obtain ⟨l1, l2⟩ := lineI_eq c w n
  rw [l2]
  unfold chk
  simp only [Option.bind_some, eqb_dec]
  by_cases he : lineI c w n = s
  · simp [he]
  · simp [he, ins0]
theorem chk0 {s : Str} {w n : Int} (hs : s ≠ ⟨[]⟩) : chk s w n ins0 = (ins0, false) := by
  unfold chk
  have hl : lineI ins0 w n = ⟨[]⟩ := by
    by_cases he : lineI ins0 w n = ⟨[]⟩
    · exact he
    · obtain ⟨h1, h2, h3⟩ := line_bad he
      obtain ⟨h4, -⟩ := ins_fit h1.1 h1.2 h2.2 h3
      simp [ins0] at h4
  rw [hl, if_neg (fun e => hs e.symm)]
theorem words_len : ∀ (s : List UInt8) (cur : Option (List UInt8)), ∀ x ∈ wordsW cur s, x.length ≤ (cur.getD []).length + s.length := by
  intro s
  induction s with
  | nil =>
    intro cur x hx
    cases cur with
    | none => simp [wordsW] at hx
    | some c => simp only [wordsW, List.mem_cons, List.not_mem_nil, or_false] at hx; subst hx; simp
  | cons b s ih =>
    intro cur x hx
    cases cur with
    | none =>
      rw [wordsW] at hx
      split at hx
      · have := ih none x hx; simp at this ⊢; omega
      · have := ih _ x hx; simp at this ⊢; omega
    | some c =>
      rw [wordsW] at hx
      split at hx
      · rcases List.mem_cons.1 hx with rfl | hx
        · simp
        · have := ih none x hx; simp at this ⊢; omega
      · have := ih _ x hx; simp at this ⊢; omega
section
variable {s : Str} {w n : Int}
theorem S1 {t : Str} (hs : s ≠ ⟨[]⟩) (hw : spec_Words fuel s = some [t]) {r : Int} (hr : loopS t = some r) :
    ∃ c, spec_ParseIns fuel s w n = some (chk s w n c) ∧ (r ≠ 0 → r ≠ 9 → r ≠ 11 → c = ⟨r, 0, 0, 0⟩) := by
  have lf := leafS' (s := s) (w := w) (n := n) hs
  unfold loopS at hr
  unfold spec_ParseIns
  have g0 : get? [t] 0 = some t := rfl
  have c0 : ((len [t] == 0) || decide (len [t] > 3)) = false := rfl
  have l1 : decide (len [t] > 1) = false := rfl
  have l2 : decide (len [t] > 2) = false := rfl
  obtain ⟨v, hv⟩ := ofS_all t
  simp only [hw, Option.bind_some, g0, c0, l1, l2, Bool.false_eq_true, if_false, lf]
  rw [hr]
  by_cases h0 : r = 0
  · simp only [h0, hv, Option.bind_some, beq_self_eq_true, if_true]
    by_cases h3 : v ≥ 3
    · exact ⟨_, by simp [h3, leafS4]; rfl, fun h => absurd rfl h⟩
    · exact ⟨_, by simp [h3]; rfl, fun h => absurd rfl h⟩
  · have z : (r == 0) = false := by simpa using h0
    simp only [z, Bool.false_eq_true, if_false, Option.bind_some, Bool.false_and, Bool.false_or]
    split
    · rename_i h9
      exact ⟨_, rfl, fun _ h1 h2 => by simp at h9; omega⟩
    · exact ⟨_, rfl, fun _ _ _ => rfl⟩
theorem S2 {t x : Str} (hs : s ≠ ⟨[]⟩) (hw : spec_Words fuel s = some [t, x]) {r nx : Int} (hr : loopS t = some r) (hx : spec_l05Number fuel x = some nx) :
    ∃ c, spec_ParseIns fuel s w n = some (chk s w n c) ∧ (r ≠ 0 → r ≠ 9 → r ≠ 11 → c = ⟨r, nx, 0, 0⟩) ∧ ((r = 9 ∨ r = 11) → c = ⟨r, 0, nx, 0⟩) := by
  have lf := leafS' (s := s) (w := w) (n := n) hs
  unfold loopS at hr
  unfold spec_ParseIns
  have g0 : get? [t, x] 0 = some t := rfl
  have g1 : get? [t, x] 1 = some x := rfl
  have g2 : get? [t, x] (w64 (len [t, x] - 1)) = some x := rfl
  have c0 : ((len [t, x] == 0) || decide (len [t, x] > 3)) = false := rfl
  have l1 : decide (len [t, x] > 1) = true := rfl
  have l2 : decide (len [t, x] > 2) = false := rfl
  obtain ⟨v, hv⟩ := ofS_all t
  simp only [hw, Option.bind_some, g0, g1, g2, c0, l1, l2, hx, Bool.false_eq_true, if_false, if_true, lf]
  rw [hr]
  by_cases h0 : r = 0
  · simp only [h0, hv, Option.bind_some, beq_self_eq_true, if_true]
    by_cases h3 : v ≥ 3
    · exact ⟨_, by simp [h3, leafS4]; rfl, fun h => absurd rfl h, fun h => by omega⟩
    · exact ⟨_, by simp [h3]; rfl, fun h => absurd rfl h, fun h => by omega⟩
  · have z : (r == 0) = false := by simpa using h0
    simp only [z, Bool.false_eq_true, if_false, Option.bind_some, Bool.false_and, Bool.false_or]
    split
    · rename_i h9
      exact ⟨_, rfl, fun _ h1 h2 => by simp at h9; omega, fun _ => rfl⟩
    · rename_i h9
      exact ⟨_, rfl, fun _ _ _ => rfl, fun h => by simp at h9; omega⟩
theorem S3 {t x y : Str} (hs : s ≠ ⟨[]⟩) (hw : spec_Words fuel s = some [t, x, y]) {r v nx ny : Int} (hr : loopS t = some r) (hv : spec_OpOf fuel t = some v) (hx : spec_l05Number fuel x = some nx) (hy : spec_l05Number fuel y = some ny) :
    ∃ c, spec_ParseIns fuel s w n = some (chk s w n c) ∧ (r ≠ 0 → r ≠ 9 → r ≠ 11 → c = ⟨r, nx, ny, 0⟩) ∧ (r = 0 → 3 ≤ v → c = ⟨3, nx, ny, v⟩) := by
  have lf := leafS' (s := s) (w := w) (n := n) hs
  unfold loopS at hr
  unfold spec_ParseIns
  have g0 : get? [t, x, y] 0 = some t := rfl
  have g1 : get? [t, x, y] 1 = some x := rfl
  have g2 : get? [t, x, y] (w64 (len [t, x, y] - 1)) = some y := rfl
  have c0 : ((len [t, x, y] == 0) || decide (len [t, x, y] > 3)) = false := rfl
  have l1 : decide (len [t, x, y] > 1) = true := rfl
  have l2 : decide (len [t, x, y] > 2) = true := rfl
  simp only [hw, Option.bind_some, g0, g1, g2, c0, l1, l2, hx, hy, Bool.false_eq_true, if_false, if_true, lf]
  rw [hr]
  by_cases h0 : r = 0
  · simp only [h0, hv, Option.bind_some, beq_self_eq_true, if_true]
    by_cases h3 : v ≥ 3
    · exact ⟨_, by simp [h3, leafS4], fun h => absurd rfl h, fun _ _ => rfl⟩
    · exact ⟨_, by simp [h3]; rfl, fun h => absurd rfl h, fun _ h => by omega⟩
  · have z : (r == 0) = false := by simpa using h0
    simp only [z, Bool.false_eq_true, if_false, Option.bind_some, Bool.false_and, Bool.true_or, if_true]
    split
    · rename_i h9
      exact ⟨_, rfl, fun _ h1 h2 => by simp at h9; omega, fun h => absurd h h0⟩
    · exact ⟨_, rfl, fun _ _ _ => rfl, fun h => absurd h h0⟩
theorem spec_sound (hs : s ≠ ⟨[]⟩) (hl : s.bytes.length ≤ 1048576) : ∃ c, spec_ParseIns fuel s w n = some (chk s w n c) := by
  have hw := words_eq hl
  have hlen : ∀ x ∈ (wordsW none s.bytes).map Str.mk, x.bytes.length ≤ 1048576 := by
    intro x hx
    obtain ⟨b, hb, rfl⟩ := List.mem_map.1 hx
    have := words_len s.bytes none b hb
    simp at this ⊢
    omega
  generalize (wordsW none s.bytes).map Str.mk = l at hw hlen
  match l, hw, hlen with
  | [], hw, _ =>
    refine ⟨ins0, ?_⟩
    rw [chk0 hs]
    unfold spec_ParseIns
    rw [hw]; rfl
  | [t], hw, hlen =>
    obtain ⟨r, hr⟩ := loopS_all t
    obtain ⟨c, h, -⟩ := S1 (w := w) (n := n) hs hw hr
    exact ⟨c, h⟩
  | [t, x], hw, hlen =>
    obtain ⟨r, hr⟩ := loopS_all t
    obtain ⟨nx, hx⟩ := numS_all (hlen x (by simp))
    obtain ⟨c, h, -⟩ := S2 (w := w) (n := n) hs hw hr hx
    exact ⟨c, h⟩
  | [t, x, y], hw, hlen =>
    obtain ⟨r, hr⟩ := loopS_all t
    obtain ⟨v, hv⟩ := ofS_all t
    obtain ⟨nx, hx⟩ := numS_all (hlen x (by simp))
    obtain ⟨ny, hy⟩ := numS_all (hlen y (by simp))
    obtain ⟨c, h, -⟩ := S3 (w := w) (n := n) hs hw hr hv hx hy
    exact ⟨c, h⟩
  | t :: x :: y :: z :: l, hw, hlen =>
    refine ⟨ins0, ?_⟩
    rw [chk0 hs]
    unfold spec_ParseIns
    have c0 : ((len (t :: x :: y :: z :: l) == 0) || decide (len (t :: x :: y :: z :: l) > 3)) = true := by rw [len_nat]; simp; omega
    simp only [hw, Option.bind_some, c0, if_true]
    rfl
theorem two_eq (v : Int) : impl_isTwoWords v = some (decide (3 ≤ v) && decide (v ≤ 16)) := rfl
theorem I1 {t : Str} (hs : s ≠ ⟨[]⟩) (hw : strings_Split s ⟨[32]⟩ = some [t]) {r : Int} (hr : loopI t = some r) :
    ∃ c, impl_ParseIns fuel s w n = some (chk s w n c) ∧ (r ≠ 0 → c = ⟨r, 0, 0, 0⟩) := by
  unfold loopI at hr
  unfold impl_ParseIns
  have g0 : get? [t] 0 = some t := rfl
  have c0 : (Str.eqb s ⟨[]⟩ || decide (len [t] > 3)) = false := by rw [eqb_ne hs]; rfl
  have l1 : ((len [t] == 3) : Bool) = false := rfl
  have l2 : ((len [t] == 2) : Bool) = false := rfl
  obtain ⟨v, hv⟩ := ofI_all t
  rw [hw]
  simp only [Option.bind_some, c0, Bool.false_eq_true, if_false, leafI, l1, l2]
  simp only [g0]
  rw [hr]
  simp only [Option.bind_some, hv, two_eq]
  by_cases h0 : r = 0
  · simp only [h0, beq_self_eq_true, if_true, Option.bind_some, Bool.true_and]
    split
    · exact ⟨_, rfl, fun h => absurd rfl h⟩
    · exact ⟨_, rfl, fun h => absurd rfl h⟩
  · have z : (r == 0) = false := by simpa using h0
    simp only [z, Bool.false_eq_true, if_false, Option.bind_some, Bool.false_and]
    exact ⟨_, rfl, fun _ => rfl⟩
theorem I2 {t x : Str} (hs : s ≠ ⟨[]⟩) (hw : strings_Split s ⟨[32]⟩ = some [t, x]) {r nx : Int} (hr : loopI t = some r) (hx : impl_parseOperand x = some nx) :
    ∃ c, impl_ParseIns fuel s w n = some (chk s w n c) ∧ (r ≠ 0 → r ≠ 9 → r ≠ 11 → c = ⟨r, nx, 0, 0⟩) ∧ ((r = 9 ∨ r = 11) → c = ⟨r, 0, nx, 0⟩) := by
  unfold loopI at hr
  unfold impl_ParseIns
  have g0 : get? [t, x] 0 = some t := rfl
  have g1 : get? [t, x] 1 = some x := rfl
  have c0 : (Str.eqb s ⟨[]⟩ || decide (len [t, x] > 3)) = false := by rw [eqb_ne hs]; rfl
  have l1 : ((len [t, x] == 3) : Bool) = false := rfl
  have l2 : ((len [t, x] == 2) : Bool) = true := rfl
  obtain ⟨v, hv⟩ := ofI_all t
  rw [hw]
  simp only [Option.bind_some, c0, Bool.false_eq_true, if_false, if_true, leafI, l1, l2, g1, hx]
  simp only [g0]
  rw [hr]
  simp only [Option.bind_some, hv, two_eq]
  by_cases h0 : r = 0
  · simp only [h0, beq_self_eq_true, if_true, Option.bind_some, Bool.true_and]
    split
    · exact ⟨_, rfl, fun h => absurd rfl h, fun h => by omega⟩
    · exact ⟨_, rfl, fun h => absurd rfl h, fun h => by omega⟩
  · have z : (r == 0) = false := by simpa using h0
    simp only [z, Bool.false_eq_true, if_false, Option.bind_some, Bool.false_and]
    by_cases h9 : r = 9
    · exact ⟨_, by simp [h9]; rfl, fun _ h => absurd h9 h, fun _ => by rw [h9]⟩
    · by_cases h11 : r = 11
      · exact ⟨_, by simp [h11]; rfl, fun _ _ h => absurd h11 h, fun _ => by rw [h11]⟩
      · exact ⟨⟨r, nx, 0, 0⟩, by simp [h9, h11], fun _ _ _ => rfl, fun h => by omega⟩
theorem I3 {t x y : Str} (hs : s ≠ ⟨[]⟩) (hw : strings_Split s ⟨[32]⟩ = some [t, x, y]) {r v nx ny : Int} (hr : loopI t = some r) (hv : impl_OpOf fuel t = some v) (hx : impl_parseOperand x = some nx) (hy : impl_parseOperand y = some ny) :
    ∃ c, impl_ParseIns fuel s w n = some (chk s w n c) ∧ (r ≠ 0 → c = ⟨r, nx, ny, 0⟩) ∧ (r = 0 → 3 ≤ v → v ≤ 16 → c = ⟨3, nx, ny, v⟩) := by
  unfold loopI at hr
  unfold impl_ParseIns
  have g0 : get? [t, x, y] 0 = some t := rfl
  have g1 : get? [t, x, y] 1 = some x := rfl
  have g2 : get? [t, x, y] 2 = some y := rfl
  have c0 : (Str.eqb s ⟨[]⟩ || decide (len [t, x, y] > 3)) = false := by rw [eqb_ne hs]; rfl
  have l1 : ((len [t, x, y] == 3) : Bool) = true := rfl
  rw [hw]
  simp only [Option.bind_some, c0, Bool.false_eq_true, if_false, if_true, leafI, l1, g1, g2, hx, hy]
  simp only [g0]
  rw [hr]
  simp only [Option.bind_some, hv, two_eq]
  by_cases h0 : r = 0
  · simp only [h0, beq_self_eq_true, if_true, Option.bind_some, Bool.true_and]
    split
    · exact ⟨_, rfl, fun h => absurd rfl h, fun _ _ _ => rfl⟩
    · rename_i h
      exact ⟨_, rfl, fun h => absurd rfl h, fun _ h1 h2 => absurd (by simp [h1, h2]) h⟩
  · have z : (r == 0) = false := by simpa using h0
    simp only [z, Bool.false_eq_true, if_false, Option.bind_some, Bool.false_and]
    exact ⟨_, rfl, fun _ => rfl, fun h => absurd h h0⟩
theorem impl_sound (hs : s ≠ ⟨[]⟩) (hl : s.bytes.length ≤ 1048576) : ∃ c, impl_ParseIns fuel s w n = some (chk s w n c) := by
  have hw := split_eq (s := s) (c := 32) (by omega)
  have hlen : ∀ x ∈ (cutS 32 [] s.bytes).map Str.mk, x.bytes.length ≤ 1048576 := by
    intro x hx
    obtain ⟨b, hb, rfl⟩ := List.mem_map.1 hx
    have := cut_len 32 s.bytes [] b hb
    simp at this ⊢
    omega
  have hne : (cutS 32 [] s.bytes).map Str.mk ≠ [] := by simpa using cut_ne 32 s.bytes []
  generalize (cutS 32 [] s.bytes).map Str.mk = l at hw hlen hne
  match l, hw, hlen, hne with
  | [], _, _, hne => exact absurd rfl hne
  | [t], hw, hlen, _ =>
    obtain ⟨r, hr⟩ := loopI_all t
    obtain ⟨c, h, -⟩ := I1 (w := w) (n := n) hs hw hr
    exact ⟨c, h⟩
  | [t, x], hw, hlen, _ =>
    obtain ⟨r, hr⟩ := loopI_all t
    obtain ⟨nx, hx⟩ := opI_all (hlen x (by simp))
    obtain ⟨c, h, -⟩ := I2 (w := w) (n := n) hs hw hr hx
    exact ⟨c, h⟩
  | [t, x, y], hw, hlen, _ =>
    obtain ⟨r, hr⟩ := loopI_all t
    obtain ⟨v, hv⟩ := ofI_all t
    obtain ⟨nx, hx⟩ := opI_all (hlen x (by simp))
    obtain ⟨ny, hy⟩ := opI_all (hlen y (by simp))
    obtain ⟨c, h, -⟩ := I3 (w := w) (n := n) hs hw hr hv hx hy
    exact ⟨c, h⟩
  | t :: x :: y :: z :: l, hw, hlen, _ =>
    refine ⟨ins0, ?_⟩
    rw [chk0 hs]
    unfold impl_ParseIns
    have c0 : (Str.eqb s ⟨[]⟩ || decide (len (t :: x :: y :: z :: l) > 3)) = true := by rw [eqb_ne hs, len_nat]; simp; omega
    rw [hw]
    simp only [Option.bind_some, c0, if_true]
    rfl
end
/-! ### lines -/
theorem ins_shape {w n : Int} {p : D.Ins} (h1 : 2 ≤ w) (h2 : w ≤ 8) (h3 : n ≤ 40) (h : insB w n p = true) :
    ((p.Op = 1 ∨ p.Op = 10) ∧ p.C = 0 ∧ (0 ≤ p.A ∧ p.A ≤ 3) ∧ (0 ≤ p.B ∧ p.B ≤ 255)) ∨
    ((p.Op = 2 ∨ p.Op = 7 ∨ p.Op = 8) ∧ p.C = 0 ∧ (0 ≤ p.A ∧ p.A ≤ 3) ∧ (0 ≤ p.B ∧ p.B ≤ 3)) ∨
    (p.Op = 3 ∧ (3 ≤ p.C ∧ p.C ≤ 16) ∧ (0 ≤ p.A ∧ p.A ≤ 3) ∧ (0 ≤ p.B ∧ p.B ≤ 3)) ∨
    ((p.Op = 4 ∨ p.Op = 5 ∨ p.Op = 6 ∨ p.Op = 13) ∧ p.C = 0 ∧ (0 ≤ p.A ∧ p.A ≤ 3) ∧ p.B = 0) ∨
    ((p.Op = 9 ∨ p.Op = 11) ∧ p.C = 0 ∧ p.A = 0 ∧ (0 ≤ p.B ∧ p.B ≤ 255)) ∨
    ((p.Op = 12 ∨ p.Op = 14) ∧ p.C = 0 ∧ p.A = 0 ∧ p.B = 0) := by
  have h4 := impl_ins w n p
  rw [h] at h4
  have hw := fun hh => word_lt (v := p.B) h1 h2 hh
  unfold impl_insOk at h4
  simp only [impl_word] at h4
  generalize wordB w p.B = wb at h4 hw
  obtain ⟨op, a, b, c⟩ := p
  simp only [impl_isReg, impl_isTwoWords, Option.bind_some] at h4 hw ⊢
  by_cases e1 : op = 1
  · subst e1; grind
  by_cases e2 : op = 2
  · subst e2; grind
  by_cases e3 : op = 3
  · subst e3; grind
  by_cases e4 : op = 4
  · subst e4; grind
  by_cases e5 : op = 5
  · subst e5; grind
  by_cases e6 : op = 6
  · subst e6; grind
  by_cases e7 : op = 7
  · subst e7; grind
  by_cases e8 : op = 8
  · subst e8; grind
  by_cases e9 : op = 9
  · subst e9; grind
  by_cases e10 : op = 10
  · subst e10; grind
  by_cases e11 : op = 11
  · subst e11; grind
  by_cases e12 : op = 12
  · subst e12; grind
  by_cases e13 : op = 13
  · subst e13; grind
  by_cases e14 : op = 14
  · subst e14; grind
  exfalso
  grind
theorem three' {u v t : Str} (h1 : u.bytes.length ≤ 20) (h2 : v.bytes.length ≤ 1002) (h3 : t.bytes.length ≤ 1002) : ((cat? u ⟨[32]⟩).bind fun x4 => (cat? x4 v).bind fun x6 => (cat? x6 ⟨[32]⟩).bind fun x7 => (cat? x7 t).bind fun x9 => some x9) = some ⟨u.bytes ++ 32 :: (v.bytes ++ 32 :: t.bytes)⟩ := by
  rw [cat_eq (by simp; omega), Option.bind_some, cat_eq (by simp; omega), Option.bind_some, cat_eq (by simp; omega), Option.bind_some, cat_eq (by simp; omega), Option.bind_some]
  simp
theorem two' {u v : Str} (h1 : u.bytes.length ≤ 20) (h2 : v.bytes.length ≤ 1002) : ((cat? u ⟨[32]⟩).bind fun x4 => (cat? x4 v).bind fun x6 => some x6) = some ⟨u.bytes ++ 32 :: v.bytes⟩ := by
  rw [cat_eq (by simp; omega), Option.bind_some, cat_eq (by simp; omega), Option.bind_some]
  simp
section
variable {x : D.Ins} {w n : Int} {t : Str}
theorem shape_ok {w n : Int} (h1 : 2 ≤ w ∧ w ≤ 8) (h2 : 1 ≤ n ∧ n ≤ 40) : impl_shapeOk w n = some true := by
  have hs : impl_shapeOk w n = some (decide (2 ≤ w ∧ w ≤ 8) && decide (1 ≤ n ∧ n ≤ 40)) := by
    simp only [impl_shapeOk, Bool.decide_and]
    grind
  rw [hs, decide_eq_true h1, decide_eq_true h2]; rfl
theorem line_rr (h1 : 2 ≤ w ∧ w ≤ 8) (h2 : 1 ≤ n ∧ n ≤ 40) (hv : insB w n x = true) (ho : x.Op = 2 ∨ x.Op = 7 ∨ x.Op = 8) (hw : impl_insWord x.Op = some t) (ht : t.bytes.length ≤ 20)
    (ha : 0 ≤ x.A ∧ x.A ≤ 3) (hb : 0 ≤ x.B ∧ x.B ≤ 3) : impl_FormatIns x w n = some ⟨t.bytes ++ 32 :: ((reg x.A).bytes ++ 32 :: (reg x.B).bytes)⟩ := by
  unfold impl_FormatIns
  have qa := impl_reg ha.1 (show x.A ≤ 1000 by omega)
  have qb := impl_reg hb.1 (show x.B ≤ 1000 by omega)
  have t3 := three' (u := t) (v := reg x.A) (t := reg x.B) ht (reg_len ha.1 (by omega)) (reg_len hb.1 (by omega))
  simp only [shape_ok h1 h2, Option.bind_some, Bool.not_true, Bool.false_eq_true, if_false, impl_ins, hv, Bool.false_or, qa, qb, hw]
  rcases ho with ho | ho | ho <;> simpa [ho] using t3
theorem line_op (h1 : 2 ≤ w ∧ w ≤ 8) (h2 : 1 ≤ n ∧ n ≤ 40) (hv : insB w n x = true) (ho : x.Op = 3) (hw : impl_OpName x.C = some t) (ht : t.bytes.length ≤ 20)
    (ha : 0 ≤ x.A ∧ x.A ≤ 3) (hb : 0 ≤ x.B ∧ x.B ≤ 3) : impl_FormatIns x w n = some ⟨t.bytes ++ 32 :: ((reg x.A).bytes ++ 32 :: (reg x.B).bytes)⟩ := by
  unfold impl_FormatIns
  have qa := impl_reg ha.1 (show x.A ≤ 1000 by omega)
  have qb := impl_reg hb.1 (show x.B ≤ 1000 by omega)
  have t3 := three' (u := t) (v := reg x.A) (t := reg x.B) ht (reg_len ha.1 (by omega)) (reg_len hb.1 (by omega))
  simp only [shape_ok h1 h2, Option.bind_some, Bool.not_true, Bool.false_eq_true, if_false, impl_ins, hv, Bool.false_or, qa, qb, hw]
  simpa [ho] using t3
theorem line_rn (h1 : 2 ≤ w ∧ w ≤ 8) (h2 : 1 ≤ n ∧ n ≤ 40) (hv : insB w n x = true) (ho : x.Op = 1 ∨ x.Op = 10) (hw : impl_insWord x.Op = some t) (ht : t.bytes.length ≤ 20)
    (ha : 0 ≤ x.A ∧ x.A ≤ 3) (hb : 0 ≤ x.B ∧ x.B ≤ 255) : impl_FormatIns x w n = some ⟨t.bytes ++ 32 :: ((reg x.A).bytes ++ 32 :: (num x.B).bytes)⟩ := by
  unfold impl_FormatIns
  have qa := impl_reg ha.1 (show x.A ≤ 1000 by omega)
  have qb := impl_num hb.1 (show x.B ≤ 1000 by omega)
  have hl := num_len hb.1 (show x.B ≤ 1000 by omega)
  have t3 := three' (u := t) (v := reg x.A) (t := num x.B) ht (reg_len ha.1 (by omega)) (by omega)
  simp only [shape_ok h1 h2, Option.bind_some, Bool.not_true, Bool.false_eq_true, if_false, impl_ins, hv, Bool.false_or, qa, qb, hw]
  rcases ho with ho | ho <;> simpa [ho] using t3
theorem line_r (h1 : 2 ≤ w ∧ w ≤ 8) (h2 : 1 ≤ n ∧ n ≤ 40) (hv : insB w n x = true) (ho : x.Op = 4 ∨ x.Op = 5 ∨ x.Op = 6 ∨ x.Op = 13) (hw : impl_insWord x.Op = some t) (ht : t.bytes.length ≤ 20)
    (ha : 0 ≤ x.A ∧ x.A ≤ 3) : impl_FormatIns x w n = some ⟨t.bytes ++ 32 :: (reg x.A).bytes⟩ := by
  unfold impl_FormatIns
  have qa := impl_reg ha.1 (show x.A ≤ 1000 by omega)
  have t3 := two' (u := t) (v := reg x.A) ht (reg_len ha.1 (by omega))
  simp only [shape_ok h1 h2, Option.bind_some, Bool.not_true, Bool.false_eq_true, if_false, impl_ins, hv, Bool.false_or, qa, hw]
  rcases ho with ho | ho | ho | ho <;> simpa [ho] using t3
theorem line_n (h1 : 2 ≤ w ∧ w ≤ 8) (h2 : 1 ≤ n ∧ n ≤ 40) (hv : insB w n x = true) (ho : x.Op = 9 ∨ x.Op = 11) (hw : impl_insWord x.Op = some t) (ht : t.bytes.length ≤ 20)
    (hb : 0 ≤ x.B ∧ x.B ≤ 255) : impl_FormatIns x w n = some ⟨t.bytes ++ 32 :: (num x.B).bytes⟩ := by
  unfold impl_FormatIns
  have qb := impl_num hb.1 (show x.B ≤ 1000 by omega)
  have hl := num_len hb.1 (show x.B ≤ 1000 by omega)
  have t3 := two' (u := t) (v := num x.B) ht (by omega)
  simp only [shape_ok h1 h2, Option.bind_some, Bool.not_true, Bool.false_eq_true, if_false, impl_ins, hv, Bool.false_or, qb, hw]
  rcases ho with ho | ho <;> simpa [ho] using t3
theorem line_0 (h1 : 2 ≤ w ∧ w ≤ 8) (h2 : 1 ≤ n ∧ n ≤ 40) (hv : insB w n x = true) (ho : x.Op = 12 ∨ x.Op = 14) (hw : impl_insWord x.Op = some t) : impl_FormatIns x w n = some t := by
  unfold impl_FormatIns
  simp only [shape_ok h1 h2, Option.bind_some, Bool.not_true, Bool.false_eq_true, if_false, impl_ins, hv, Bool.false_or, hw]
  rcases ho with ho | ho <;> simp [ho]
end
theorem free_reg {a : Int} (h : 0 ≤ a ∧ a ≤ 3) : 32 ∉ (reg a).bytes ∧ (reg a).bytes ≠ [] := by
  rw [regS h]
  have : a = 0 ∨ a = 1 ∨ a = 2 ∨ a = 3 := by omega
  rcases this with rfl | rfl | rfl | rfl <;> decide
theorem free_num {b : Int} (h : 0 ≤ b) : 32 ∉ (num b).bytes ∧ (num b).bytes ≠ [] := by
  obtain ⟨c, r, e, -, h1, h2⟩ := numh h
  rw [e]
  exact ⟨by simp only [List.mem_cons, not_or]; exact ⟨fun e => h1 e.symm, h2⟩, by simp⟩
/-- a line of three words -/
theorem three_words {s t x y : Str} (hs : s.bytes = t.bytes ++ 32 :: (x.bytes ++ 32 :: y.bytes)) (ht : 32 ∉ t.bytes ∧ t.bytes ≠ []) (hx : 32 ∉ x.bytes ∧ x.bytes ≠ []) (hy : 32 ∉ y.bytes ∧ y.bytes ≠ []) (hl : s.bytes.length ≤ 1048576) :
    spec_Words fuel s = some [t, x, y] ∧ strings_Split s ⟨[32]⟩ = some [t, x, y] := by
  rw [words_eq hl, split_eq (by omega), hs]
  constructor
  · rw [word_more _ ht.1 ht.2, word_more _ hx.1 hx.2, word_one hy.1 hy.2]; rfl
  · rw [cut_at _ _ _ ht.1, cut_at _ _ _ hx.1, cut_free _ _ hy.1]; rfl
theorem two_words {s t x : Str} (hs : s.bytes = t.bytes ++ 32 :: x.bytes) (ht : 32 ∉ t.bytes ∧ t.bytes ≠ []) (hx : 32 ∉ x.bytes ∧ x.bytes ≠ []) (hl : s.bytes.length ≤ 1048576) :
    spec_Words fuel s = some [t, x] ∧ strings_Split s ⟨[32]⟩ = some [t, x] := by
  rw [words_eq hl, split_eq (by omega), hs]
  constructor
  · rw [word_more _ ht.1 ht.2, word_one hx.1 hx.2]; rfl
  · rw [cut_at _ _ _ ht.1, cut_free _ _ hx.1]; rfl
theorem one_word {t : Str} (ht : 32 ∉ t.bytes ∧ t.bytes ≠ []) (hl : t.bytes.length ≤ 1048576) :
    spec_Words fuel t = some [t] ∧ strings_Split t ⟨[32]⟩ = some [t] := by
  rw [words_eq hl, split_eq (by omega)]
  constructor
  · rw [word_one ht.1 ht.2]; rfl
  · rw [cut_free _ _ ht.1]; rfl
/-- a line is read back -/
theorem read_back {x : D.Ins} {w n : Int} (h1 : 2 ≤ w ∧ w ≤ 8) (h2 : 1 ≤ n ∧ n ≤ 40) (hv : insB w n x = true) :
    spec_ParseIns fuel (lineI x w n) w n = some (x, true) ∧ impl_ParseIns fuel (lineI x w n) w n = some (x, true) := by
  obtain ⟨s, hs1, hs2, hlen⟩ := format_eq x w n
  have hline : lineI x w n = s := by unfold lineI; rw [hs2]; rfl
  have hck : chk s w n x = (x, true) := by unfold chk; rw [if_pos hline]
  rw [hline]
  have hl : s.bytes.length ≤ 1048576 := by omega
  have hsh := ins_shape h1.1 h1.2 h2.2 hv
  have ne3 : ∀ {t y z : Str}, s = ⟨t.bytes ++ 32 :: (y.bytes ++ 32 :: z.bytes)⟩ → s ≠ ⟨[]⟩ := by rintro t y z rfl e; simpa using congrArg Str.bytes e
  have ne2 : ∀ {t y : Str}, s = ⟨t.bytes ++ 32 :: y.bytes⟩ → s ≠ ⟨[]⟩ := by rintro t y rfl e; simpa using congrArg Str.bytes e
  obtain ⟨op, a, b, c⟩ := x
  simp only at hsh
  rcases hsh with ⟨ho, rfl, ha, hb⟩ | ⟨ho, rfl, ha, hb⟩ | ⟨rfl, hc, ha, hb⟩ | ⟨ho, rfl, ha, rfl⟩ | ⟨ho, rfl, rfl, hb⟩ | ⟨ho, rfl, rfl, rfl⟩
  · obtain ⟨t, ht, -, hk⟩ := w_op (op := op) (by omega) (by omega)
    have hf := line_rn (x := ⟨op, a, b, 0⟩) h1 h2 hv ho ht hk.len ha hb
    rw [hs2] at hf
    have hf := Option.some.inj hf
    obtain ⟨w1, w2⟩ := three_words (congrArg Str.bytes hf) ⟨hk.free, hk.ne⟩ (free_reg ha) (free_num hb.1) hl
    have r1 := hk.ls; have r2 := hk.li
    rw [if_neg (by omega)] at r1 r2
    obtain ⟨v, hv1⟩ := ofS_all t
    obtain ⟨v', hv2⟩ := ofI_all t
    obtain ⟨c1, e1, f1, -⟩ := S3 (w := w) (n := n) (ne3 hf) w1 r1 hv1 (numS_reg ha) (numS_num ⟨hb.1, by show b ≤ 1000; omega⟩)
    obtain ⟨c2, e2, f2, -⟩ := I3 (w := w) (n := n) (ne3 hf) w2 r2 hv2 (opI_reg ha) (opI_num ⟨hb.1, by show b ≤ 1000; omega⟩)
    rw [e1, e2, f1 (by omega) (by omega) (by omega), f2 (by omega), hck]
    exact ⟨rfl, rfl⟩
  · obtain ⟨t, ht, -, hk⟩ := w_op (op := op) (by omega) (by omega)
    have hf := line_rr (x := ⟨op, a, b, 0⟩) h1 h2 hv ho ht hk.len ha hb
    rw [hs2] at hf
    have hf := Option.some.inj hf
    obtain ⟨w1, w2⟩ := three_words (congrArg Str.bytes hf) ⟨hk.free, hk.ne⟩ (free_reg ha) (free_reg hb) hl
    have r1 := hk.ls; have r2 := hk.li
    rw [if_neg (by omega)] at r1 r2
    obtain ⟨v, hv1⟩ := ofS_all t
    obtain ⟨v', hv2⟩ := ofI_all t
    obtain ⟨c1, e1, f1, -⟩ := S3 (w := w) (n := n) (ne3 hf) w1 r1 hv1 (numS_reg ha) (numS_reg hb)
    obtain ⟨c2, e2, f2, -⟩ := I3 (w := w) (n := n) (ne3 hf) w2 r2 hv2 (opI_reg ha) (opI_reg hb)
    rw [e1, e2, f1 (by omega) (by omega) (by omega), f2 (by omega), hck]
    exact ⟨rfl, rfl⟩
  · obtain ⟨t, ht, hk⟩ := w_c hc
    have hf := line_op (x := ⟨3, a, b, c⟩) h1 h2 hv rfl ht hk.len ha hb
    rw [hs2] at hf
    have hf := Option.some.inj hf
    obtain ⟨w1, w2⟩ := three_words (congrArg Str.bytes hf) ⟨hk.free, hk.ne⟩ (free_reg ha) (free_reg hb) hl
    have r1 := hk.ls; have r2 := hk.li
    rw [if_pos rfl] at r1 r2
    obtain ⟨c1, e1, -, f1⟩ := S3 (w := w) (n := n) (ne3 hf) w1 r1 (hk.os rfl) (numS_reg ha) (numS_reg hb)
    obtain ⟨c2, e2, -, f2⟩ := I3 (w := w) (n := n) (ne3 hf) w2 r2 (hk.oi rfl) (opI_reg ha) (opI_reg hb)
    rw [e1, e2, f1 rfl hc.1, f2 rfl hc.1 hc.2, hck]
    exact ⟨rfl, rfl⟩
  · obtain ⟨t, ht, -, hk⟩ := w_op (op := op) (by omega) (by omega)
    have hf := line_r (x := ⟨op, a, 0, 0⟩) h1 h2 hv ho ht hk.len ha
    rw [hs2] at hf
    have hf := Option.some.inj hf
    obtain ⟨w1, w2⟩ := two_words (congrArg Str.bytes hf) ⟨hk.free, hk.ne⟩ (free_reg ha) hl
    have r1 := hk.ls; have r2 := hk.li
    rw [if_neg (by omega)] at r1 r2
    obtain ⟨c1, e1, f1, -⟩ := S2 (w := w) (n := n) (ne2 hf) w1 r1 (numS_reg ha)
    obtain ⟨c2, e2, f2, -⟩ := I2 (w := w) (n := n) (ne2 hf) w2 r2 (opI_reg ha)
    rw [e1, e2, f1 (by omega) (by omega) (by omega), f2 (by omega) (by omega) (by omega), hck]
    exact ⟨rfl, rfl⟩
  · obtain ⟨t, ht, -, hk⟩ := w_op (op := op) (by omega) (by omega)
    have hf := line_n (x := ⟨op, 0, b, 0⟩) h1 h2 hv ho ht hk.len hb
    rw [hs2] at hf
    have hf := Option.some.inj hf
    obtain ⟨w1, w2⟩ := two_words (congrArg Str.bytes hf) ⟨hk.free, hk.ne⟩ (free_num hb.1) hl
    have r1 := hk.ls; have r2 := hk.li
    rw [if_neg (by omega)] at r1 r2
    obtain ⟨c1, e1, -, f1⟩ := S2 (w := w) (n := n) (ne2 hf) w1 r1 (numS_num ⟨hb.1, by show b ≤ 1000; omega⟩)
    obtain ⟨c2, e2, -, f2⟩ := I2 (w := w) (n := n) (ne2 hf) w2 r2 (opI_num ⟨hb.1, by show b ≤ 1000; omega⟩)
    rw [e1, e2, f1 ho, f2 ho, hck]
    exact ⟨rfl, rfl⟩
  · obtain ⟨t, ht, -, hk⟩ := w_op (op := op) (by omega) (by omega)
    have hf := line_0 (x := ⟨op, 0, 0, 0⟩) h1 h2 hv ho ht
    rw [hs2] at hf
    have hf := Option.some.inj hf
    subst hf
    have hne : s ≠ ⟨[]⟩ := fun e => hk.ne (congrArg Str.bytes e)
    obtain ⟨w1, w2⟩ := one_word ⟨hk.free, hk.ne⟩ hl
    have r1 := hk.ls; have r2 := hk.li
    rw [if_neg (by omega)] at r1 r2
    obtain ⟨c1, e1, f1⟩ := S1 (w := w) (n := n) hne w1 r1
    obtain ⟨c2, e2, f2⟩ := I1 (w := w) (n := n) hne w2 r2
    rw [e1, e2, f1 (by omega) (by omega) (by omega), f2 (by omega), hck]
    exact ⟨rfl, rfl⟩
theorem parse_eq {s : Str} (w n : Int) (hl : s.bytes.length ≤ 1048576) : ∃ r, spec_ParseIns fuel s w n = some r ∧ impl_ParseIns fuel s w n = some r ∧ (r = (ins0, false) ∨ ∃ x, r = (x, true) ∧ (2 ≤ w ∧ w ≤ 8) ∧ (1 ≤ n ∧ n ≤ 40) ∧ insB w n x = true ∧ s = lineI x w n) := by
  by_cases hs : s = ⟨[]⟩
  · subst hs
    refine ⟨(ins0, false), ?_, ?_, .inl rfl⟩
    · unfold spec_ParseIns
      rw [words_eq (by simp)]; rfl
    · unfold impl_ParseIns
      rw [split_eq (by simp), Option.bind_some, eqb_self]; rfl
  · obtain ⟨c1, e1⟩ := spec_sound (w := w) (n := n) hs hl
    obtain ⟨c2, e2⟩ := impl_sound (w := w) (n := n) hs hl
    have back : ∀ c, lineI c w n = s → spec_ParseIns fuel s w n = some (c, true) ∧ impl_ParseIns fuel s w n = some (c, true) ∧ (2 ≤ w ∧ w ≤ 8) ∧ (1 ≤ n ∧ n ≤ 40) ∧ insB w n c = true := by
      rintro c rfl
      obtain ⟨h1, h2, h3⟩ := line_bad hs
      obtain ⟨h4, h5⟩ := read_back h1 h2 h3
      exact ⟨h4, h5, h1, h2, h3⟩
    by_cases h1 : lineI c1 w n = s
    · obtain ⟨b1, b2, b3, b4, b5⟩ := back c1 h1
      exact ⟨_, b1, b2, .inr ⟨c1, rfl, b3, b4, b5, h1.symm⟩⟩
    · by_cases h2 : lineI c2 w n = s
      · obtain ⟨b1, b2, b3, b4, b5⟩ := back c2 h2
        exact ⟨_, b1, b2, .inr ⟨c2, rfl, b3, b4, b5, h2.symm⟩⟩
      · refine ⟨(ins0, false), ?_, ?_, .inl rfl⟩
        · rw [e1]; unfold chk; rw [if_neg h1]
        · rw [e2]; unfold chk; rw [if_neg h2]
end Go.Proofs.YtmmhbhhcloobnaaGreatDoor

