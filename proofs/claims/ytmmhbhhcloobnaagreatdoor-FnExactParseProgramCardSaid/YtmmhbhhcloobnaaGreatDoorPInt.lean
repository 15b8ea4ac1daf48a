/- Numbers read from texts: both readers. No program in sight. -/
import Derived.Test.YtmmhbhhcloobnaaGreatDoorPStr
namespace Go.Proofs.YtmmhbhhcloobnaaGreatDoor
open Go.GL
def int64 (v : Int) : Prop := -9223372036854775808 ≤ v ∧ v ≤ 9223372036854775807
theorem num_neg {v : Int} (h : v < 0) : (num v).bytes = 45 :: Lib.decDigits v.natAbs := by unfold num Lib.itoa; rw [if_pos h]
theorem num_pos {v : Int} (h : 0 ≤ v) : (num v).bytes = Lib.decDigits v.toNat := by unfold num Lib.itoa; rw [if_neg (by omega)]
theorem dg_nat {d : Nat} (h : d ≤ 9) : (UInt8.ofNat (48 + d)).toNat = 48 + d := by
  rw [UInt8.toNat_ofNat']
  omega
theorem dig_mem : ∀ (n : Nat), ∀ c ∈ Lib.decDigits n, 48 ≤ c.toNat ∧ c.toNat ≤ 57 := by
  intro n
  induction n using Nat.strongRecOn with
  | _ n ih =>
    intro c hc
    rw [Lib.decDigits] at hc
    split at hc
    · simp only [List.mem_cons, List.not_mem_nil, or_false] at hc
      subst hc
      rw [dg_nat (by omega)]; omega
    · rw [List.mem_append] at hc
      rcases hc with hc | hc
      · exact ih (n / 10) (by omega) c hc
      · simp only [List.mem_cons, List.not_mem_nil, or_false] at hc
        subst hc
        rw [dg_nat (by omega)]; omega
theorem pu_dec : ∀ (m : Nat) (t : List UInt8), m < 18446744073709551616 → Lib.parseUint10 0 (Lib.decDigits m ++ t) = Lib.parseUint10 m t := by
  intro m
  induction m using Nat.strongRecOn with
  | _ m ih =>
    intro t hm
    rw [Lib.decDigits]
    split
    · rename_i h
      simp only [List.cons_append, List.nil_append]
      rw [Lib.parseUint10, dg_nat (by omega), if_pos (by omega), if_neg (by omega), if_neg (by omega)]
      congr 1
      omega
    · rename_i h
      rw [List.append_assoc, ih (m / 10) (by omega) _ (by omega)]
      simp only [List.cons_append, List.nil_append]
      rw [Lib.parseUint10, dg_nat (by omega), if_pos (by omega), if_neg (by omega), if_neg (by omega)]
      congr 1
      omega
theorem pm_dec {m : Nat} (h : m < 18446744073709551616) : Lib.parseMag (Lib.decDigits m) = .ok m := by
  unfold Lib.parseMag
  have h1 := dl_pos m
  rw [if_neg (fun e => by rw [e] at h1; simp at h1)]
  have := pu_dec m [] h
  rw [List.append_nil] at this
  rw [this]; rfl
theorem atoi_num {v : Int} (h : int64 v) : Lib.atoiAll (num v).bytes = .ok v := by
  obtain ⟨h0, h1⟩ := h
  by_cases c : v < 0
  · rw [num_neg c, Lib.atoiAll_minus, pm_dec (by omega)]
    unfold Lib.signed
    simp only
    rw [if_neg (by omega)]
    congr 1
    omega
  · rw [num_pos (by omega)]
    have hm := dig_mem v.toNat
    have hp := pm_dec (m := v.toNat) (by omega)
    have hl := dl_pos v.toNat
    generalize Lib.decDigits v.toNat = l at hm hp hl
    cases l with
    | nil => simp at hl
    | cons b l =>
      have hb := hm b (by simp)
      rw [Lib.atoiAll_plain b l (by omega) (by omega), hp]
      unfold Lib.signless
      simp only
      rw [if_neg (by omega)]
      congr 1
      omega
/-- what both readers give -/
def parseN (s : Str) : Int × Bool :=
  match Lib.atoiAll s.bytes with
  | .ok v => if num v = s then (v, true) else (0, false)
  | _ => (0, false)
theorem parseN_num {v : Int} (h : int64 v) : parseN (num v) = (v, true) := by
  unfold parseN
  rw [atoi_num h]
  simp
theorem parseN_no {s : Str} (h : ∀ v, int64 v → s ≠ num v) : parseN s = (0, false) := by
  unfold parseN
  split
  · rename_i v hv
    rw [if_neg (fun e => h v (Lib.atoiAll_bounds hv) e.symm)]
  · rfl
theorem parseN_cases (s : Str) : (∃ v, int64 v ∧ s = num v ∧ parseN s = (v, true)) ∨ (parseN s = (0, false) ∧ ∀ v, int64 v → s ≠ num v) := by
  by_cases h : ∃ v, int64 v ∧ s = num v
  · obtain ⟨v, h1, rfl⟩ := h
    exact .inl ⟨v, h1, rfl, parseN_num h1⟩
  · have h' : ∀ v, int64 v → s ≠ num v := fun v h1 h2 => h ⟨v, h1, h2⟩
    exact .inr ⟨parseN_no h', h'⟩
theorem impl_int {s : Str} (hs : s.bytes.length ≤ 2097152) : impl_ParseInt s = some (parseN s) := by
  unfold impl_ParseInt strconv_Atoi
  rw [if_pos (by omega), Option.bind_some]
  rcases parseN_cases s with ⟨v, h1, rfl, h2⟩ | ⟨h1, h2⟩
  · rw [atoi_num h1, h2]
    unfold strconv_Itoa
    simp only
    rw [if_pos (show -9223372036854775808 ≤ v ∧ v ≤ 9223372036854775807 from h1)]
    simp [num, eqb_self]
  · rw [h1]
    rcases ha : Lib.atoiAll s.bytes with v | _ | _
    · have hb := Lib.atoiAll_bounds ha
      have := eqb_ne (fun e : num v = s => h2 v hb e.symm)
      unfold strconv_Itoa
      simp only
      rw [if_pos hb]
      unfold num at this
      simp [this]
    · rfl
    · rfl
/-! ### the other reader -/
def spD (acc : Nat) : List UInt8 → Option Nat
  | [] => some acc
  | c :: r => if 48 ≤ c.toNat ∧ c.toNat ≤ 57 ∧ acc * 10 + (c.toNat - 48) ≤ 9223372036854775808 then spD (acc * 10 + (c.toNat - 48)) r else none
theorem sp_dec : ∀ (m : Nat) (t : List UInt8), m ≤ 9223372036854775808 → spD 0 (Lib.decDigits m ++ t) = spD m t := by
  intro m
  induction m using Nat.strongRecOn with
  | _ m ih =>
    intro t hm
    rw [Lib.decDigits]
    split
    · rename_i h
      simp only [List.cons_append, List.nil_append]
      rw [spD, dg_nat (by omega), if_pos (by omega)]
      congr 1
      omega
    · rename_i h
      rw [List.append_assoc, ih (m / 10) (by omega) _ (by omega)]
      simp only [List.cons_append, List.nil_append]
      rw [spD, dg_nat (by omega), if_pos (by omega)]
      congr 1
      omega
theorem sp_num {m : Nat} (h : m ≤ 9223372036854775808) : spD 0 (Lib.decDigits m) = some m := by
  have := sp_dec m [] h
  rw [List.append_nil] at this
  rw [this]; rfl
theorem sp_le : ∀ (l : List UInt8) (a m : Nat), a ≤ 9223372036854775808 → spD a l = some m → m ≤ 9223372036854775808 := by
  intro l
  induction l with
  | nil => intro a m ha h; simp only [spD, Option.some.injEq] at h; omega
  | cons c l ih =>
    intro a m ha h
    rw [spD] at h
    split at h
    · rename_i hc; exact ih _ m hc.2.2 h
    · cases h
theorem pi_loop {t : Str} (ht : t.bytes.length ≤ 19) : iterN (fun (s1 : Int × Int) =>
        if (decide (s1.2 < (len t.bytes))) then
          (sidx? t s1.2).bind fun x3 =>
          (spec_l01In (w64 ((w64 x3) - 48)) 0 9).bind fun x4 =>
          (if (!x4) then some default else (quo? (w64 ((-9223372036854775808) + (w64 ((w64 x3) - 48)))) 10)).bind fun x5 =>
          if ((!x4) || (decide (s1.1 < x5))) then
            some (.inr (.inr (0, false)))
          else
            some (.inl ((w64 ((w64 (s1.1 * 10)) - (w64 ((w64 x3) - 48)))), (w64 (s1.2 + 1))))
        else
          some (.inr (.inl (s1.1)))) fuel (0, 0) = some (match spD 0 t.bytes with | some m => (.inl (-(m : Int)) : Int ⊕ (Int × Bool)) | none => .inr (0, false)) := by
  obtain ⟨o, e1, e2⟩ := iterN_meas (B := fun (s1 : Int × Int) =>
        if (decide (s1.2 < (len t.bytes))) then
          (sidx? t s1.2).bind fun x3 =>
          (spec_l01In (w64 ((w64 x3) - 48)) 0 9).bind fun x4 =>
          (if (!x4) then some default else (quo? (w64 ((-9223372036854775808) + (w64 ((w64 x3) - 48)))) 10)).bind fun x5 =>
          if ((!x4) || (decide (s1.1 < x5))) then
            some (.inr (.inr (0, false)))
          else
            some (.inl ((w64 ((w64 (s1.1 * 10)) - (w64 ((w64 x3) - 48)))), (w64 (s1.2 + 1))))
        else
          some (.inr (.inl (s1.1)))) (I := fun s => ∃ (k a : Nat), s = (-(a : Int), (k : Int)) ∧ k ≤ t.bytes.length ∧ a ≤ 9223372036854775808 ∧ spD a (t.bytes.drop k) = spD 0 t.bytes) (μ := fun s => t.bytes.length - s.2.toNat)
    (R := fun o => o = (match spD 0 t.bytes with | some m => (.inl (-(m : Int)) : Int ⊕ (Int × Bool)) | none => .inr (0, false))) (by
      rintro s ⟨k, a, rfl, hk, ha, he⟩
      by_cases hlt : k < t.bytes.length
      · have c1 : decide ((k : Int) < len t.bytes) = true := by rw [len_nat]; exact decide_eq_true (by omega)
        have w1 : w64 ((k : Int) + 1) = ((k + 1 : Nat) : Int) := by rw [w64_id (by omega) (by omega)]; omega
        have c3 := sidx_nat (s := t) hlt
        have hdr : t.bytes.drop k = t.bytes[k] :: t.bytes.drop (k + 1) := by rw [← List.getElem_cons_drop hlt]
        rw [hdr, spD] at he
        generalize hb : t.bytes[k] = b at he c3
        have hb2 : b.toNat < 256 := b.toNat_lt
        have w2 : w64 (b.toNat : Int) = (b.toNat : Int) := w64_id (by omega) (by omega)
        have w3 : w64 ((b.toNat : Int) - 48) = (b.toNat : Int) - 48 := w64_id (by omega) (by omega)
        have hin : spec_l01In ((b.toNat : Int) - 48) 0 9 = some (decide (48 ≤ b.toNat ∧ b.toNat ≤ 57)) := by
          unfold spec_l01In
          congr 1
          rw [Bool.eq_iff_iff]
          simp only [Bool.and_eq_true, decide_eq_true_eq]
          omega
        simp only [c1, if_true, c3, Option.bind_some, w2, w3, hin, w1]
        by_cases hd : 48 ≤ b.toNat ∧ b.toNat ≤ 57
        · have w4 : w64 (-9223372036854775808 + ((b.toNat : Int) - 48)) = -9223372036854775808 + ((b.toNat : Int) - 48) := w64_id (by omega) (by omega)
          have hq : quo? (-9223372036854775808 + ((b.toNat : Int) - 48)) 10 = some (-(((9223372036854775808 - (b.toNat - 48)) / 10 : Nat) : Int)) := by
            unfold quo?
            rw [if_neg (by omega)]
            have e : (-9223372036854775808 + ((b.toNat : Int) - 48)).tdiv 10 = -(((9223372036854775808 - (b.toNat - 48)) / 10 : Nat) : Int) := by
              have h3 : -9223372036854775808 + ((b.toNat : Int) - 48) = -((9223372036854775808 - (b.toNat - 48) : Nat) : Int) := by omega
              rw [h3, Int.neg_tdiv]
              rfl
            rw [e, w64_id (by omega) (by omega)]
          simp only [decide_eq_true hd, Bool.not_true, Bool.false_eq_true, if_false, w4, hq, Option.bind_some, Bool.false_or]
          by_cases hov : a * 10 + (b.toNat - 48) ≤ 9223372036854775808
          · left
            rw [if_pos ⟨hd.1, hd.2, hov⟩] at he
            have c5 : decide (-(a : Int) < -(((9223372036854775808 - (b.toNat - 48)) / 10 : Nat) : Int)) = false := decide_eq_false (by omega)
            have w5 : w64 (-(a : Int) * 10) = -(a : Int) * 10 := w64_id (by omega) (by omega)
            have w6 : w64 (-(a : Int) * 10 - ((b.toNat : Int) - 48)) = -((a * 10 + (b.toNat - 48) : Nat) : Int) := by rw [w64_id (by omega) (by omega)]; omega
            exact ⟨(-((a * 10 + (b.toNat - 48) : Nat) : Int), ((k + 1 : Nat) : Int)), by simp only [c5, Bool.false_eq_true, if_false, w5, w6], ⟨k + 1, _, rfl, by omega, hov, he⟩, by simp; omega⟩
          · right
            rw [if_neg (fun h => hov h.2.2)] at he
            have c5 : decide (-(a : Int) < -(((9223372036854775808 - (b.toNat - 48)) / 10 : Nat) : Int)) = true := decide_eq_true (by omega)
            exact ⟨.inr (0, false), by simp only [c5, if_true], by rw [← he]⟩
        · right
          rw [if_neg (fun h => hd ⟨h.1, h.2.1⟩)] at he
          exact ⟨.inr (0, false), by simp [decide_eq_false hd], by rw [← he]⟩
      · right
        have c1 : decide ((k : Int) < len t.bytes) = false := by rw [len_nat]; exact decide_eq_false (by omega)
        rw [List.drop_of_length_le (by omega), spD] at he
        exact ⟨.inl (-(a : Int)), by simp [c1], by rw [← he]⟩) fuel (0, 0) ⟨0, 0, rfl, by omega, by omega, by simp⟩ (by have : fuel = 1048580 := rfl; simp only [Int.toNat_zero]; omega)
  rw [e1, e2]
theorem spec_int {s : Str} (hs : s.bytes.length ≤ 2097152) : spec_ParseInt fuel s = some (parseN s) := by
  unfold spec_ParseInt
  have key : ∀ n : Int, int64 n → (spec_FormatInt fuel n).bind (fun x => if (!(Str.eqb x s)) then some (0, false) else some (n, true)) = some (if num n = s then (n, true) else (0, false)) := by
    intro n hn
    rw [fi_all hn.1 hn.2, Option.bind_some, eqb_dec]
    by_cases h : num n = s
    · simp [h]
    · simp [h]
  obtain ⟨b⟩ := s
  cases b with
  | nil =>
    have : parseN ⟨[]⟩ = (0, false) := rfl
    rw [this]; rfl
  | cons c r =>
    have c1 : decide (len (c :: r) > 0) = true := by rw [len_nat]; simp
    have c2 : sidx? ⟨c :: r⟩ 0 = some (c.toNat : Int) := sidx_nat (s := ⟨c :: r⟩) (i := 0) (by simp)
    have c3 : (((c.toNat : Int) == 45) : Bool) = decide (c = 45) := byte_eq c 45
    simp only [c1, if_true, c2, Option.bind_some, c3, Bool.true_and]
    by_cases hc : c = 45
    · -- a minus ahead
      subst hc
      have c4 : scut? ⟨45 :: r⟩ 1 (len (45 :: r)) = some ⟨r⟩ := by
        unfold scut?
        rw [if_pos ⟨by omega, by rw [len_nat]; simp; omega, by rw [len_nat]; simp⟩, len_nat]
        simp
      simp only [decide_true, if_true, c4, Option.bind_some, Bool.not_true, Bool.false_eq_true, if_false]
      have hv : ∀ v, int64 v → (⟨45 :: r⟩ : Str) = num v → v < 0 ∧ r = Lib.decDigits v.natAbs := by
        intro v hv e
        have e' := congrArg Str.bytes e
        by_cases h0 : v < 0
        · rw [num_neg h0] at e'
          exact ⟨h0, List.tail_eq_of_cons_eq e'⟩
        · rw [num_pos (by omega)] at e'
          have := dig_mem v.toNat 45 (by rw [← e']; simp)
          simp at this
      by_cases hl : r.length < 1 ∨ r.length > 19
      · rw [if_pos (by rw [len_nat]; simp only [Bool.or_eq_true, decide_eq_true_eq]; omega)]
        rw [parseN_no]
        intro v h1 h2
        obtain ⟨h3, h4⟩ := hv v h1 h2
        have := dl_pos v.natAbs
        have := dl_19 (n := v.natAbs) (by have := h1.1; omega)
        rw [← h4] at *
        omega
      · rw [if_neg (by rw [len_nat]; simp only [Bool.or_eq_true, decide_eq_true_eq]; omega), pi_loop (t := ⟨r⟩) (by simp only; omega)]
        simp only [Option.bind_some]
        cases hsp : spD 0 r with
        | none =>
          simp only
          rw [parseN_no]
          intro v h1 h2
          obtain ⟨h3, h4⟩ := hv v h1 h2
          rw [h4, sp_num (by have := h1.1; omega)] at hsp
          cases hsp
        | some m =>
          simp only
          have hm := sp_le r 0 m (by omega) hsp
          have h64 : int64 (-(m : Int)) := ⟨by omega, by omega⟩
          have hk := key _ h64
          refine hk.trans ?_
          by_cases he : num (-(m : Int)) = ⟨45 :: r⟩
          · rw [if_pos he, ← he, parseN_num h64]
          · rw [if_neg he, parseN_no]
            intro v h1 h2
            obtain ⟨h3, h4⟩ := hv v h1 h2
            rw [h4, sp_num (by have := h1.1; omega)] at hsp
            have hmv : m = v.natAbs := (Option.some.inj hsp).symm
            exact he (by rw [h2]; congr 1; omega)
    · -- no minus
      simp only [decide_eq_false hc, Bool.false_eq_true, if_false, Bool.not_false, if_true]
      have hv : ∀ v, int64 v → (⟨c :: r⟩ : Str) = num v → 0 ≤ v ∧ (c :: r) = Lib.decDigits v.toNat := by
        intro v hv e
        have e' := congrArg Str.bytes e
        by_cases h0 : v < 0
        · rw [num_neg h0] at e'
          exact absurd (List.head_eq_of_cons_eq e') hc
        · rw [num_pos (by omega)] at e'
          exact ⟨by omega, e'⟩
      by_cases hl : (c :: r).length < 1 ∨ (c :: r).length > 19
      · rw [if_pos (by rw [len_nat]; simp only [Bool.or_eq_true, decide_eq_true_eq]; omega)]
        rw [parseN_no]
        intro v h1 h2
        obtain ⟨h3, h4⟩ := hv v h1 h2
        have := dl_pos v.toNat
        have := dl_19 (n := v.toNat) (by have := h1.2; omega)
        rw [← h4] at *
        omega
      · rw [if_neg (by rw [len_nat]; simp only [Bool.or_eq_true, decide_eq_true_eq]; omega), pi_loop (t := ⟨c :: r⟩) (by simp only; omega)]
        simp only [Option.bind_some]
        cases hsp : spD 0 (c :: r) with
        | none =>
          simp only
          rw [parseN_no]
          intro v h1 h2
          obtain ⟨h3, h4⟩ := hv v h1 h2
          rw [h4, sp_num (by have := h1.2; omega)] at hsp
          cases hsp
        | some m =>
          simp only
          have hm := sp_le (c :: r) 0 m (by omega) hsp
          by_cases hm2 : m = 9223372036854775808
          · rw [if_pos (by rw [hm2]; rfl), parseN_no]
            intro v h1 h2
            obtain ⟨h3, h4⟩ := hv v h1 h2
            rw [h4, sp_num (by have := h1.2; omega)] at hsp
            have hmv : m = v.toNat := (Option.some.inj hsp).symm
            have := h1.2
            omega
          · rw [if_neg (by simp only [beq_iff_eq]; omega)]
            have h64 : int64 (m : Int) := ⟨by omega, by omega⟩
            have w1 : w64 (0 - -(m : Int)) = (m : Int) := by rw [w64_id (by omega) (by omega)]; omega
            rw [w1]
            refine (key _ h64).trans ?_
            by_cases he : num (m : Int) = ⟨c :: r⟩
            · rw [if_pos he, ← he, parseN_num h64]
            · rw [if_neg he, parseN_no]
              intro v h1 h2
              obtain ⟨h3, h4⟩ := hv v h1 h2
              rw [h4, sp_num (by have := h1.2; omega)] at hsp
              have hmv : m = v.toNat := (Option.some.inj hsp).symm
              exact he (by rw [h2]; congr 1; omega)
end Go.Proofs.YtmmhbhhcloobnaaGreatDoor
