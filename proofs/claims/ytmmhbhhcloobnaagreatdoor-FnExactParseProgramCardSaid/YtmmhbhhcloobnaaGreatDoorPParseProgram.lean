/- The plain law of this claim. No program in sight. -/
import Derived.Test.YtmmhbhhcloobnaaGreatDoorPFormatProgram
import Derived.Test.YtmmhbhhcloobnaaGreatDoorPScan
import Derived.Test.YtmmhbhhcloobnaaGreatDoorPParseIns
namespace Go.Proofs.YtmmhbhhcloobnaaGreatDoor
open Go.GL
/-! ### marks -/
def insAt (k : Int) (j : Nat) : D.Ins := ⟨k + 4 * (j : Int), k + 4 * (j : Int) + 1, k + 4 * (j : Int) + 2, k + 4 * (j : Int) + 3⟩
def upP (k : Int) (L : Nat) : List D.Ins := (List.range L).map (insAt k)
theorem upP_len (k : Int) (L : Nat) : (upP k L).length = L := by simp [upP]
theorem upP_get {k : Int} {L i : Nat} (h : i < L) : (upP k L)[i]? = some (insAt k i) := by simp [upP, h]
theorem markInsS_eq {p : List D.Ins} {k : Int} (hk : 0 ≤ k) (hb : k ≤ 4000000000000) (hp : p.length ≤ 1048576) : laws_markInsS fuel p k = some (k + 4 * p.length, upP k p.length) := by
  unfold laws_markInsS
  rw [iterN_up (I := fun i s => s = (k + 4 * (i : Int), (i : Int), pre (insAt k) p i)) (m := p.length) (r := (k + 4 * (p.length : Int), upP k p.length)) (fun i s hi hs => ?_) (fun s hs => ?_) p.length 0 _ (by omega) (by simp [pre]) fuel (lt_fuel hp)]
  · rfl
  · subst hs
    refine ⟨_, ?_, rfl⟩
    have hl := pre_len (f := insAt k) (p := p) (i := i) (by omega)
    simp only
    rw [if_pos (by rw [len_nat]; simp; omega), get?_nat, pre_get hi, List.getElem?_eq_getElem hi]
    simp only [Option.bind_some]
    rw [set?_nat (by rw [hl]; exact hi)]
    simp only [Option.bind_some]
    rw [get?_nat, List.getElem?_set_self (by rw [hl]; exact hi)]
    simp only [Option.bind_some]
    rw [set?_nat (by simp [hl]; exact hi), List.set_set]
    simp only [Option.bind_some]
    rw [get?_nat, List.getElem?_set_self (by rw [hl]; exact hi)]
    simp only [Option.bind_some]
    rw [set?_nat (by simp [hl]; exact hi), List.set_set]
    simp only [Option.bind_some]
    rw [get?_nat, List.getElem?_set_self (by rw [hl]; exact hi)]
    simp only [Option.bind_some]
    rw [set?_nat (by simp [hl]; exact hi), List.set_set]
    simp only [Option.bind_some]
    rw [w64_id (x := k + 4 * (i : Int) + 1) (by omega) (by omega), w64_id (x := k + 4 * (i : Int) + 1 + 1) (by omega) (by omega), w64_id (x := k + 4 * (i : Int) + 1 + 1 + 1) (by omega) (by omega), w64_id (x := k + 4 * (i : Int) + 1 + 1 + 1 + 1) (by omega) (by omega), w64_id (x := (i : Int) + 1) (by omega) (by omega), ← pre_set hi]
    have e : (⟨k + 4 * (i : Int), k + 4 * (i : Int) + 1, k + 4 * (i : Int) + 1 + 1, k + 4 * (i : Int) + 1 + 1 + 1⟩ : D.Ins) = insAt k i := by
      unfold insAt
      congr 1 <;> omega
    rw [e]
    simp only [Option.some.injEq, Sum.inl.injEq, Prod.mk.injEq]
    exact ⟨by omega, by omega, trivial⟩
  · subst hs
    simp only
    rw [if_neg (by rw [len_nat]; simp), pre_all]
    rfl
theorem heldInsS_eq {L : Nat} {k : Int} (hk : 0 ≤ k) (hb : k ≤ 4000000000000) (hp : L ≤ 1048576) : laws_heldInsS fuel (upP k L) k = some (k + 4 * L) := by
  unfold laws_heldInsS
  rw [iterN_up (I := fun i s => s = (k + 4 * (i : Int), (i : Int))) (m := L) (r := .inl (k + 4 * (L : Int))) (fun i s hi hs => ?_) (fun s hs => ?_) L 0 _ (by omega) (by simp) fuel (lt_fuel hp)]
  · rfl
  · subst hs
    refine ⟨_, ?_, rfl⟩
    simp only
    rw [if_pos (by rw [len_nat, upP_len]; simp; omega), get?_nat, upP_get hi]
    simp only [Option.bind_some, insAt]
    rw [w64_id (x := k + 4 * (i : Int) + 1) (by omega) (by omega), w64_id (x := k + 4 * (i : Int) + 1 + 1) (by omega) (by omega), w64_id (x := k + 4 * (i : Int) + 1 + 1 + 1) (by omega) (by omega), w64_id (x := k + 4 * (i : Int) + 1 + 1 + 1 + 1) (by omega) (by omega), w64_id (x := (i : Int) + 1) (by omega) (by omega)]
    rw [if_neg (by simp), if_neg (by simp), if_neg (by simp; omega), if_neg (by simp; omega)]
    simp only [Option.some.injEq, Sum.inl.injEq, Prod.mk.injEq]
    omega
  · subst hs
    simp only
    rw [if_neg (by rw [len_nat, upP_len]; simp)]
/-! ### lines -/
def linesS (s : Str) : List Str := if ((cutS 10 [] s.bytes).map Str.mk).getLast? = some ⟨[]⟩ then ((cutS 10 [] s.bytes).map Str.mk).dropLast else (cutS 10 [] s.bytes).map Str.mk
theorem b10 (b : UInt8) : (((b.toNat : Int) == 10) : Bool) = decide (b = 10) := byte_eq b 10
theorem spec_linesE {s : Str} (hs : s.bytes.length ≤ 1048576) : spec_SplitLines fuel s = some (linesS s) := by
  have hfu : fuel = 1048580 := rfl
  unfold spec_SplitLines
  obtain ⟨⟨rf, ro⟩, e1, f, hf1, hf2, e2, e3⟩ := iterN_meas (B := fun (s1 : Int × Int × (List Str)) =>
    if (decide (s1.2.1 < (len s.bytes))) then
      (sidx? s s1.2.1).bind fun x1 =>
      if (x1 == 10) then
        (scut? s s1.1 s1.2.1).bind fun x2 =>
        (app? s1.2.2 ([x2] : List Str)).bind fun x3 =>
        some (.inl ((w64 (s1.2.1 + 1)), (w64 (s1.2.1 + 1)), x3))
      else
        some (.inl (s1.1, (w64 (s1.2.1 + 1)), s1.2.2))
    else
      some (.inr (s1.1, s1.2.2))) (I := fun st => ∃ f k : Nat, st.1 = (f : Int) ∧ st.2.1 = (k : Int) ∧ f ≤ k ∧ k ≤ s.bytes.length ∧ st.2.2.length ≤ k ∧ st.2.2 ++ (cutS 10 ((s.bytes.take k).drop f) (s.bytes.drop k)).map Str.mk = (cutS 10 [] s.bytes).map Str.mk) (μ := fun st => s.bytes.length - st.2.1.toNat)
    (R := fun r => ∃ f : Nat, r.1 = (f : Int) ∧ f ≤ s.bytes.length ∧ r.2.length ≤ s.bytes.length ∧ r.2 ++ [⟨s.bytes.drop f⟩] = (cutS 10 [] s.bytes).map Str.mk) (by
      rintro ⟨f', k', out⟩ ⟨f, k, rfl, rfl, hf, hk, ho, he⟩
      simp only at ho he ⊢
      by_cases hlt : k < s.bytes.length
      · left
        have c1 : decide ((k : Int) < len s.bytes) = true := by rw [len_nat]; exact decide_eq_true (by omega)
        have c3 := sidx_nat (s := s) hlt
        have w1 : w64 ((k : Int) + 1) = ((k + 1 : Nat) : Int) := by rw [w64_id (by omega) (by omega)]; omega
        have hdr : s.bytes.drop k = s.bytes[k] :: s.bytes.drop (k + 1) := by rw [← List.getElem_cons_drop hlt]
        rw [hdr, cutS] at he
        simp only [c1, if_true, c3, Option.bind_some, w1, b10]
        by_cases hb : s.bytes[k] = 10
        · rw [if_pos hb] at he
          rw [if_pos (decide_eq_true hb), scut_eq hf hk, Option.bind_some, app_one (by omega), Option.bind_some]
          refine ⟨_, rfl, ⟨k + 1, k + 1, rfl, rfl, Nat.le_refl _, by omega, by simp; omega, ?_⟩, by simp; omega⟩
          rw [show (s.bytes.take (k + 1)).drop (k + 1) = [] from List.drop_of_length_le (by rw [List.length_take]; omega)]
          simpa using he
        · rw [if_neg hb] at he
          rw [if_neg (by simpa using hb)]
          refine ⟨_, rfl, ⟨f, k + 1, rfl, rfl, by omega, by omega, by show out.length ≤ k + 1; omega, ?_⟩, by simp; omega⟩
          rw [take_part hf hlt]
          exact he
      · right
        have hk2 : k = s.bytes.length := by omega
        subst hk2
        have c1 : decide ((s.bytes.length : Int) < len s.bytes) = false := by rw [len_nat]; exact decide_eq_false (by omega)
        refine ⟨_, by rw [c1]; rfl, f, rfl, hf, ho, ?_⟩
        rw [List.drop_of_length_le (Nat.le_refl _), cutS, List.take_of_length_le (Nat.le_refl _)] at he
        exact he) fuel (0, 0, []) ⟨0, 0, rfl, rfl, by omega, by omega, by simp, by simp⟩ (by simp only [Int.toNat_zero]; omega)
  rw [e1]
  simp only at hf1 e2 e3
  subst hf1
  simp only [Option.bind_some]
  unfold linesS
  rw [← e3]
  by_cases h : f < s.bytes.length
  · have c1 : decide ((f : Int) < len s.bytes) = true := by rw [len_nat]; exact decide_eq_true (by omega)
    have hne : s.bytes.drop f ≠ [] := by intro e; have := congrArg List.length e; simp at this; omega
    have c2 := scut_eq (s := s) (f := f) (k := s.bytes.length) (by omega) (Nat.le_refl _)
    rw [List.take_of_length_le (Nat.le_refl _)] at c2
    rw [if_pos c1, len_nat, c2, Option.bind_some, app_one (by omega), Option.bind_some, if_neg (by simp [hne])]
  · have c1 : decide ((f : Int) < len s.bytes) = false := by rw [len_nat]; exact decide_eq_false (by omega)
    have hnil : s.bytes.drop f = [] := List.drop_of_length_le (by omega)
    rw [if_neg (by rw [c1]; simp), hnil, if_pos (by simp)]
    simp
theorem impl_linesE {s : Str} (hs : s.bytes.length ≤ 1048576) : impl_SplitLines s = some (linesS s) := by
  unfold impl_SplitLines
  by_cases h0 : s = ⟨[]⟩
  · subst h0; rw [eqb_self]; rfl
  rw [eqb_ne h0, split_eq (by omega)]
  simp only [Bool.false_eq_true, if_false, Option.bind_some]
  unfold linesS
  have hne : (cutS 10 [] s.bytes).map Str.mk ≠ [] := by simpa using cut_ne 10 s.bytes []
  have hcn := cut_cnt 10 s.bytes []
  have hl : ((cutS 10 [] s.bytes).map Str.mk).length ≤ 1048577 := by rw [List.length_map]; omega
  generalize (cutS 10 [] s.bytes).map Str.mk = l at hne hl
  have hpos : 0 < l.length := List.length_pos_iff.2 hne
  have w1 : w64 (len l - 1) = ((l.length - 1 : Nat) : Int) := by rw [len_nat, w64_id (by omega) (by omega)]; omega
  rw [w1, get?_nat, List.getElem?_eq_getElem (by omega), Option.bind_some]
  have hgl : l.getLast? = some l[l.length - 1] := by rw [List.getLast?_eq_getElem?, List.getElem?_eq_getElem (by omega)]
  rw [hgl, eqb_dec]
  by_cases h : l[l.length - 1] = ⟨[]⟩
  · rw [if_pos (decide_eq_true h), if_pos (by rw [h])]
    unfold cut?
    rw [if_pos ⟨by omega, by omega, by omega⟩]
    simp [List.dropLast_eq_take]
  · rw [if_neg (by simpa using h), if_neg (by simpa using h)]
theorem lines_len {s : Str} (hs : s.bytes.length ≤ 1048576) : (linesS s).length ≤ 1048577 ∧ ∀ x ∈ linesS s, x.bytes.length ≤ 1048576 := by
  have hcn := cut_cnt 10 s.bytes []
  have hl : ((cutS 10 [] s.bytes).map Str.mk).length ≤ 1048577 := by rw [List.length_map]; omega
  have hel : ∀ x ∈ (cutS 10 [] s.bytes).map Str.mk, x.bytes.length ≤ 1048576 := by
    intro x hx
    obtain ⟨b, hb, rfl⟩ := List.mem_map.1 hx
    have := cut_len 10 s.bytes [] b hb
    simp at this ⊢
    omega
  unfold linesS
  generalize (cutS 10 [] s.bytes).map Str.mk = l at hl hel
  split
  · exact ⟨by rw [List.length_dropLast]; omega, fun x hx => hel x (List.dropLast_subset _ hx)⟩
  · exact ⟨hl, hel⟩
/-! ### words of a line, joined again -/
theorem words_sum : ∀ (s : List UInt8) (cur : Option (List UInt8)), ((wordsW cur s).map fun x => x.length + 1).sum ≤ (cur.getD []).length + s.length + 1 := by
  intro s
  induction s with
  | nil => intro cur; cases cur <;> simp [wordsW]
  | cons b s ih =>
    intro cur
    cases cur with
    | none =>
      rw [wordsW]
      split
      · have := ih none; simp at this ⊢; omega
      · have := ih (some [b]); simp at this ⊢; omega
    | some c =>
      rw [wordsW]
      split
      · have := ih none; simp at this ⊢; omega
      · have := ih (some (c ++ [b])); simp at this ⊢; omega
theorem cat_big {a b : Str} (h : a.bytes.length + b.bytes.length ≤ 1000000000) : cat? a b = some ⟨a.bytes ++ b.bytes⟩ := by
  unfold cat?
  rw [if_pos (by omega)]
theorem join3b {a b c : Str} (n : Nat) (ha : a.bytes.length ≤ 10000000) (hb : b.bytes.length ≤ 10000000) (hc : c.bytes.length ≤ 10000000) : spec_Join (n + 5) [a, b, c] sp = some ⟨a.bytes ++ [32] ++ b.bytes ++ [32] ++ c.bytes⟩ := by
  unfold spec_Join
  have e1 : cat? ⟨[]⟩ a = some a := by rw [cat_big (by simp; omega)]; rfl
  have e2 : cat? a sp = some ⟨a.bytes ++ [32]⟩ := cat_big (by simp [sp]; omega)
  have e3 : cat? ⟨a.bytes ++ [32]⟩ b = some ⟨a.bytes ++ [32] ++ b.bytes⟩ := cat_big (by simp; omega)
  have e4 : cat? ⟨a.bytes ++ 32 :: b.bytes⟩ sp = some ⟨a.bytes ++ 32 :: (b.bytes ++ [32])⟩ := by rw [cat_big (by simp [sp]; omega)]; simp [sp]
  have e5 : cat? ⟨a.bytes ++ 32 :: (b.bytes ++ [32])⟩ c = some ⟨a.bytes ++ 32 :: (b.bytes ++ 32 :: c.bytes)⟩ := by rw [cat_big (by simp; omega)]; simp
  simp only [iterN, len, get?, List.length_cons, List.length_nil]
  simp [e1, e2, e3, e4, e5, k1, k2, k3]
def j3 (a b c : Str) : Str := ⟨a.bytes ++ [32] ++ b.bytes ++ [32] ++ c.bytes⟩
/-! ### instructions read -/
def PI (p : Str) (w n : Int) : D.Ins × Bool := (impl_ParseIns fuel p w n).getD (ins0, false)
theorem PI_eq {p : Str} (w n : Int) (h : p.bytes.length ≤ 1048576) : spec_ParseIns fuel p w n = some (PI p w n) ∧ impl_ParseIns fuel p w n = some (PI p w n) := by
  obtain ⟨r, h1, h2, -⟩ := parse_eq w n h
  unfold PI
  rw [h2]
  exact ⟨h1, rfl⟩
def actP (w n : Int) (cl : List D.Ins) (p : Str) : Option (List D.Ins) := if (PI p w n).2 then some (cl ++ [(PI p w n).1]) else none
theorem actP_len (w n : Int) : ∀ (l : List Str) (a r : List D.Ins), foldO (actP w n) l a = some r → r.length = a.length + l.length := by
  intro l
  induction l with
  | nil => intro a r e; rw [foldO] at e; obtain rfl := Option.some.inj e; simp
  | cons b l ih =>
    intro a r e
    rw [foldO] at e
    unfold actP at e
    cases hb : (PI b w n).2 with
    | false => rw [hb] at e; cases e
    | true =>
      rw [hb] at e
      simp only [if_true, Option.bind_some] at e
      have := ih _ _ e
      simp only [List.length_append, List.length_cons, List.length_nil] at this ⊢
      omega
def rejP : D.Program × Bool := (⟨0, 0, 0, []⟩, false)
def textP (p : D.Program) : Str := (impl_FormatProgram fuel p).getD ⟨[]⟩
theorem textP_eq {p : D.Program} (h : p.Code.length ≤ 1048576) : spec_FormatProgram fuel p = some (textP p) ∧ impl_FormatProgram fuel p = some (textP p) := by
  obtain ⟨s, h1, h2⟩ := program_eq h
  unfold textP
  rw [h2]
  exact ⟨h1, rfl⟩
def finP (s : Str) (p : D.Program) : D.Program × Bool := if progB p && decide (textP p = s) then (p, true) else rejP
theorem spec_tailP {s : Str} {p : D.Program} (h : p.Code.length ≤ 1048576) : ((spec_ProgramOk fuel p).bind fun x15 =>
    (if (!x15) then some default else (spec_FormatProgram fuel p)).bind fun x16 =>
    if ((!x15) || (!(Str.eqb x16 s))) then some ((D.Program.mk 0 0 0 ([] : List D.Ins)), false) else some (p, true)) = some (finP s p) := by
  rw [spec_prog h, (textP_eq h).1, Option.bind_some]
  unfold finP rejP
  cases progB p with
  | false => rfl
  | true =>
    simp only [Bool.not_true, Bool.false_eq_true, if_false, Option.bind_some, Bool.false_or, Bool.true_and, eqb_dec]
    by_cases h : textP p = s
    · simp [h]
    · simp [h]
theorem impl_tailP {s : Str} {p : D.Program} (h : p.Code.length ≤ 1048576) : ((impl_ProgramOk fuel p).bind fun x15 =>
    (if (!x15) then some default else (impl_FormatProgram fuel p)).bind fun x16 =>
    if ((!x15) || (!(Str.eqb x16 s))) then some ((D.Program.mk 0 0 0 ([] : List D.Ins)), false) else some (p, true)) = some (finP s p) := by
  rw [impl_prog h, (textP_eq h).2, Option.bind_some]
  unfold finP rejP
  cases progB p with
  | false => rfl
  | true =>
    simp only [Bool.not_true, Bool.false_eq_true, if_false, Option.bind_some, Bool.false_or, Bool.true_and, eqb_dec]
    by_cases h : textP p = s
    · simp [h]
    · simp [h]
def outP (s : Str) (v0 v1 v2 : Int) (rest : List Str) : D.Program × Bool :=
  match foldO (actP v0 rest.length) rest [] with
  | some code => finP s ⟨v0, v1, v2, code⟩
  | none => rejP
section
variable {s l0 : Str} {rest : List Str} (hr : rest.length ≤ 1048576) (hx : ∀ x ∈ rest, x.bytes.length ≤ 1048576)
include hr hx
theorem spec_run {w0 a b c J : Str} {v0 v1 v2 : Int} (hl : spec_SplitLines fuel s = some (l0 :: rest)) (h2 : 1 ≤ rest.length ∧ rest.length ≤ 40)
    (hw : spec_Words fuel l0 = some [w0, a, b, c]) (hj : spec_Join fuel [a, b, c] ⟨[32]⟩ = some J) (hp : spec_ParseInts fuel J = some ([v0, v1, v2], true)) :
    spec_ParseProgram fuel s = some (outP s v0 v1 v2 rest) := by
  have hfu : fuel = 1048580 := rfl
  unfold spec_ParseProgram
  have c1 : spec_l01In (len (l0 :: rest)) 2 41 = some true := by
    unfold spec_l01In
    rw [len_nat]
    congr 1
    simp only [List.length_cons, Bool.and_eq_true, decide_eq_true_eq]
    omega
  have g0 : get? (l0 :: rest) 0 = some l0 := rfl
  have g1 : cut? (l0 :: rest) 1 (len (l0 :: rest)) = some rest := by
    unfold cut?
    rw [len_nat, if_pos ⟨by omega, by simp; omega, by simp⟩]
    simp
  have g2 : vcut (l0 :: rest) 1 (List.length rest) = rest := by unfold vcut; simp
  have g3 : ((len [w0, a, b, c] != 4) : Bool) = false := rfl
  have g4 : cut? [w0, a, b, c] 1 (len [w0, a, b, c]) = some [a, b, c] := rfl
  have g5 : vcut [w0, a, b, c] 1 (List.length [a, b, c]) = [a, b, c] := rfl
  have g6 : ((len [v0, v1, v2] != 3) : Bool) = false := rfl
  have g7 : get? [v0, v1, v2] 0 = some v0 := rfl
  have g8 : get? [v0, v1, v2] 1 = some v1 := rfl
  have g9 : get? [v0, v1, v2] 2 = some v2 := rfl
  have w1 : w64 (len (l0 :: rest) - 1) = (rest.length : Int) := by rw [len_nat, w64_id (by simp only [List.length_cons]; omega) (by simp only [List.length_cons]; omega)]; simp
  simp only [hl, Option.bind_some, c1, Bool.not_true, Bool.false_eq_true, if_false, g0, hw, g3, g4, g5, hj, hp, g6, Bool.or_self, g7, g8, g9, g1, g2, w1]
  have := list_loop (B := fun (s1 : Int × (List D.Ins)) =>
          if (decide (s1.1 < (len rest))) then
            (get? rest s1.1).bind fun x12 =>
            (spec_ParseIns fuel x12 v0 (rest.length : Int)).bind fun x13 =>
            if (!x13.2) then
              some (.inr (.inr ((D.Program.mk 0 0 0 ([] : List D.Ins)), false)))
            else
              (app? s1.2 ([x13.1] : List D.Ins)).bind fun x14 =>
              some (.inl ((w64 (s1.1 + 1)), x14))
          else
            some (.inr (.inl (s1.2) : (List D.Ins) ⊕ (D.Program × Bool)))) (l := rest) (enc := fun k a => ((k : Int), a)) (act := actP v0 rest.length) (I := fun k a => a.length ≤ k) (fin := fun a => .inl a) (rej := .inr rejP)
    (by
      intro k a hk hI
      have c1 : decide ((k : Int) < len rest) = true := by rw [len_nat]; exact decide_eq_true (by omega)
      have c2 : get? rest (k : Int) = some rest[k] := by rw [get?_nat, List.getElem?_eq_getElem hk]
      have c3 := (PI_eq v0 rest.length (hx rest[k] (List.getElem_mem hk))).1
      have w1 : w64 ((k : Int) + 1) = ((k + 1 : Nat) : Int) := by rw [w64_id (by omega) (by omega)]; omega
      simp only [c1, if_true, c2, Option.bind_some, c3, w1, actP]
      generalize PI rest[k] v0 rest.length = r
      obtain ⟨v, b⟩ := r
      cases b with
      | false => exact .inr ⟨by simp, by simp [rejP]⟩
      | true => exact .inl ⟨a ++ [v], by simp, by simp [app_one (l := a) (x := v) (by omega)], by simp; omega⟩)
    (by
      intro a _
      have c1 : decide ((rest.length : Int) < len rest) = false := by rw [len_nat]; exact decide_eq_false (by omega)
      simp only [c1, Bool.false_eq_true, if_false]) (a0 := []) (by simp) (n := fuel) (by omega)
  have h2 : iterN _ fuel ((0 : Int), ([] : List D.Ins)) = _ := this
  rw [h2]
  unfold outP
  cases hc : foldO (actP v0 rest.length) rest [] with
  | none => rfl
  | some cl =>
    have hcl := actP_len _ _ _ _ _ hc
    simp only [List.length_nil] at hcl
    exact spec_tailP (s := s) (p := ⟨v0, v1, v2, cl⟩) (by simp only; omega)
theorem impl_run {t : Str} {v0 v1 v2 : Int} (hl : impl_SplitLines s = some (l0 :: rest)) (h2 : 1 ≤ rest.length)
    (hw : strings_CutPrefix l0 ⟨[109, 97, 99, 104, 105, 110, 101, 32]⟩ = some (t, true)) (hp : impl_ParseInts fuel t = some ([v0, v1, v2], true)) :
    impl_ParseProgram fuel s = some (outP s v0 v1 v2 rest) := by
  have hfu : fuel = 1048580 := rfl
  unfold impl_ParseProgram
  have c1 : decide (len (l0 :: rest) < 2) = false := by rw [len_nat]; simp; omega
  have g0 : get? (l0 :: rest) 0 = some l0 := rfl
  have g1 : cut? (l0 :: rest) 1 (len (l0 :: rest)) = some rest := by
    unfold cut?
    rw [len_nat, if_pos ⟨by omega, by simp; omega, by simp⟩]
    simp
  have g2 : vcut (l0 :: rest) 1 (List.length rest) = rest := by unfold vcut; simp
  have g6 : ((len [v0, v1, v2] != 3) : Bool) = false := rfl
  have g7 : get? [v0, v1, v2] 0 = some v0 := rfl
  have g8 : get? [v0, v1, v2] 1 = some v1 := rfl
  have g9 : get? [v0, v1, v2] 2 = some v2 := rfl
  have w1 : w64 (len (l0 :: rest) - 1) = (rest.length : Int) := by rw [len_nat, w64_id (by simp only [List.length_cons]; omega) (by simp only [List.length_cons]; omega)]; simp
  simp only [hl, Option.bind_some, c1, Bool.not_true, Bool.false_eq_true, if_false, g0, hw, hp, g6, Bool.or_self, g7, g8, g9, g1, g2, w1]
  have := list_loop (B := fun (s1 : Int × (List D.Ins)) =>
          if (decide (s1.1 < (len rest))) then
            (get? rest s1.1).bind fun x12 =>
            (impl_ParseIns fuel x12 v0 (rest.length : Int)).bind fun x13 =>
            if (!x13.2) then
              some (.inr (.inr ((D.Program.mk 0 0 0 ([] : List D.Ins)), false)))
            else
              (app? s1.2 ([x13.1] : List D.Ins)).bind fun x14 =>
              some (.inl ((w64 (s1.1 + 1)), x14))
          else
            some (.inr (.inl (s1.2) : (List D.Ins) ⊕ (D.Program × Bool)))) (l := rest) (enc := fun k a => ((k : Int), a)) (act := actP v0 rest.length) (I := fun k a => a.length ≤ k) (fin := fun a => .inl a) (rej := .inr rejP)
    (by
      intro k a hk hI
      have c1 : decide ((k : Int) < len rest) = true := by rw [len_nat]; exact decide_eq_true (by omega)
      have c2 : get? rest (k : Int) = some rest[k] := by rw [get?_nat, List.getElem?_eq_getElem hk]
      have c3 := (PI_eq v0 rest.length (hx rest[k] (List.getElem_mem hk))).2
      have w1 : w64 ((k : Int) + 1) = ((k + 1 : Nat) : Int) := by rw [w64_id (by omega) (by omega)]; omega
      simp only [c1, if_true, c2, Option.bind_some, c3, w1, actP]
      generalize PI rest[k] v0 rest.length = r
      obtain ⟨v, b⟩ := r
      cases b with
      | false => exact .inr ⟨by simp, by simp [rejP]⟩
      | true => exact .inl ⟨a ++ [v], by simp, by simp [app_one (l := a) (x := v) (by omega)], by simp; omega⟩)
    (by
      intro a _
      have c1 : decide ((rest.length : Int) < len rest) = false := by rw [len_nat]; exact decide_eq_false (by omega)
      simp only [c1, Bool.false_eq_true, if_false]) (a0 := []) (by simp) (n := fuel) (by omega)
  have h2 : iterN _ fuel ((0 : Int), ([] : List D.Ins)) = _ := this
  rw [h2]
  unfold outP
  cases hc : foldO (actP v0 rest.length) rest [] with
  | none => rfl
  | some cl =>
    have hcl := actP_len _ _ _ _ _ hc
    simp only [List.length_nil] at hcl
    exact impl_tailP (s := s) (p := ⟨v0, v1, v2, cl⟩) (by simp only; omega)
end
theorem out_cases (s : Str) (v0 v1 v2 : Int) (rest : List Str) : outP s v0 v1 v2 rest = rejP ∨ ∃ p, outP s v0 v1 v2 rest = (p, true) ∧ progB p = true ∧ textP p = s := by
  unfold outP
  cases foldO (actP v0 rest.length) rest [] with
  | none => exact .inl rfl
  | some code =>
    simp only
    unfold finP
    split
    · rename_i h
      simp only [Bool.and_eq_true, decide_eq_true_eq] at h
      exact .inr ⟨_, rfl, h.1, h.2⟩
    · exact .inl rfl
theorem three_of {l : List Int} (h : ((len l != 3) : Bool) = false) : ∃ a b c, l = [a, b, c] := by
  have : l.length = 3 := by
    rw [len_nat] at h
    simp only [bne_eq_false_iff_eq] at h
    omega
  match l, this with
  | [a, b, c], _ => exact ⟨a, b, c, rfl⟩
theorem spec_soundP {s : Str} (hs : s.bytes.length ≤ 1048576) : ∃ r, spec_ParseProgram fuel s = some r ∧ (r = rejP ∨ ∃ p, r = (p, true) ∧ progB p = true ∧ textP p = s) := by
  have hl := spec_linesE hs
  obtain ⟨n1, n2⟩ := lines_len hs
  generalize linesS s = l at hl n1 n2
  by_cases h2 : 2 ≤ l.length ∧ l.length ≤ 41
  case neg =>
    refine ⟨rejP, ?_, .inl rfl⟩
    unfold spec_ParseProgram
    have c1 : spec_l01In (len l) 2 41 = some false := by
      unfold spec_l01In
      rw [len_nat]
      congr 1
      simp only [Bool.and_eq_false_iff, decide_eq_false_iff_not]
      omega
    simp only [hl, Option.bind_some, c1, Bool.not_false, if_true]
    rfl
  cases l with
  | nil => simp at h2
  | cons l0 rest =>
    simp only [List.length_cons] at h2 n1
    have c1 : spec_l01In (len (l0 :: rest)) 2 41 = some true := by
      unfold spec_l01In
      rw [len_nat]
      congr 1
      simp only [List.length_cons, Bool.and_eq_true, decide_eq_true_eq]
      omega
    have g0 : get? (l0 :: rest) 0 = some l0 := rfl
    have hl0 := n2 l0 List.mem_cons_self
    have hw := words_eq hl0
    have hsum := words_sum l0.bytes none
    by_cases h4 : (wordsW none l0.bytes).length = 4
    case neg =>
      refine ⟨rejP, ?_, .inl rfl⟩
      unfold spec_ParseProgram
      have c2 : ((len ((wordsW none l0.bytes).map Str.mk) != 4) : Bool) = true := by rw [len_nat, List.length_map]; simp; omega
      simp only [hl, Option.bind_some, c1, Bool.not_true, Bool.false_eq_true, if_false, g0, hw, c2, if_true]
      rfl
    generalize wordsW none l0.bytes = ws at hw hsum h4
    match ws, h4 with
    | [w0, a, b, c], _ =>
      simp only [List.map_cons, List.map_nil, List.sum_cons, List.sum_nil, Option.getD_none, List.length_nil] at hw hsum
      have hj := join3b 1048575 (a := ⟨a⟩) (b := ⟨b⟩) (c := ⟨c⟩) (by simp only; omega) (by simp only; omega) (by simp only; omega)
      have hf : fuel = 1048575 + 5 := rfl
      rw [← hf] at hj
      have hp := spec_pints (s := ⟨a ++ [32] ++ b ++ [32] ++ c⟩) (by simp; omega)
      generalize hJ : (⟨a ++ [32] ++ b ++ [32] ++ c⟩ : Str) = J at hj hp
      cases hq : ((!(pInts J).2) || ((len (pInts J).1 != 3) : Bool)) with
      | true =>
        refine ⟨rejP, ?_, .inl rfl⟩
        unfold spec_ParseProgram
        have g3 : ((len [(⟨w0⟩ : Str), ⟨a⟩, ⟨b⟩, ⟨c⟩] != 4) : Bool) = false := rfl
        have g4 : cut? [(⟨w0⟩ : Str), ⟨a⟩, ⟨b⟩, ⟨c⟩] 1 (len [(⟨w0⟩ : Str), ⟨a⟩, ⟨b⟩, ⟨c⟩]) = some [⟨a⟩, ⟨b⟩, ⟨c⟩] := rfl
        have g5 : vcut [(⟨w0⟩ : Str), ⟨a⟩, ⟨b⟩, ⟨c⟩] 1 (List.length [(⟨a⟩ : Str), ⟨b⟩, ⟨c⟩]) = [⟨a⟩, ⟨b⟩, ⟨c⟩] := rfl
        have hj' : spec_Join fuel [(⟨a⟩ : Str), ⟨b⟩, ⟨c⟩] ⟨[32]⟩ = some J := hj
        simp only [hl, Option.bind_some, c1, Bool.not_true, Bool.false_eq_true, if_false, g0, hw, g3, g4, g5, hj', hp, hq, if_true]
        rfl
      | false =>
        simp only [Bool.or_eq_false_iff, Bool.not_eq_false'] at hq
        obtain ⟨v0, v1, v2, e3⟩ := three_of hq.2
        have hp' : spec_ParseInts fuel J = some ([v0, v1, v2], true) := by rw [hp, ← e3, ← hq.1]
        have hrun := spec_run (s := s) (l0 := l0) (rest := rest) (by omega) (fun x hx => n2 x (List.mem_cons_of_mem _ hx)) hl (by omega) hw hj hp'
        exact ⟨_, hrun, out_cases _ _ _ _ _⟩
theorem cutp_all {x m : Str} (hx : x.bytes.length ≤ 1048576) (hm : m.bytes.length ≤ 100) : ∃ t b, strings_CutPrefix x m = some (t, b) ∧ t.bytes.length ≤ x.bytes.length := by
  unfold strings_CutPrefix internal_stringslite_CutPrefix internal_stringslite_HasPrefix
  by_cases h : m.bytes.length ≤ x.bytes.length
  · have c1 : decide (len x.bytes ≥ len m.bytes) = true := by rw [len_nat, len_nat]; exact decide_eq_true (by omega)
    have c2 := scut_eq (s := x) (f := 0) (k := m.bytes.length) (by omega) h
    have c3 := scut_eq (s := x) (f := m.bytes.length) (k := x.bytes.length) h (Nat.le_refl _)
    rw [show ((0 : Nat) : Int) = 0 from rfl] at c2
    simp only [c1, if_true]
    simp only [len_nat, c2, c3, Option.bind_some]
    split
    · exact ⟨_, _, rfl, Nat.le_refl _⟩
    · exact ⟨_, _, rfl, by simp⟩
  · have c1 : decide (len x.bytes ≥ len m.bytes) = false := by rw [len_nat, len_nat]; exact decide_eq_false (by omega)
    simp only [c1, Bool.false_eq_true, if_false, Option.bind_some, Bool.not_false, if_true]
    exact ⟨_, _, rfl, Nat.le_refl _⟩
theorem impl_soundP {s : Str} (hs : s.bytes.length ≤ 1048576) : ∃ r, impl_ParseProgram fuel s = some r ∧ (r = rejP ∨ ∃ p, r = (p, true) ∧ progB p = true ∧ textP p = s) := by
  have hl := impl_linesE hs
  obtain ⟨n1, n2⟩ := lines_len hs
  generalize linesS s = l at hl n1 n2
  by_cases h2 : 2 ≤ l.length
  case neg =>
    refine ⟨rejP, ?_, .inl rfl⟩
    unfold impl_ParseProgram
    have c1 : decide (len l < 2) = true := by rw [len_nat]; exact decide_eq_true (by omega)
    simp only [hl, Option.bind_some, c1, if_true]
    rfl
  cases l with
  | nil => simp at h2
  | cons l0 rest =>
    simp only [List.length_cons] at h2 n1
    have c1 : decide (len (l0 :: rest) < 2) = false := by rw [len_nat]; simp; omega
    have g0 : get? (l0 :: rest) 0 = some l0 := rfl
    have hl0 := n2 l0 List.mem_cons_self
    obtain ⟨t, b, hc, htl⟩ := cutp_all (m := ⟨[109, 97, 99, 104, 105, 110, 101, 32]⟩) hl0 (by decide)
    have hp := impl_pints (s := t) (by omega)
    cases hq : (((!b) || (!(pInts t).2)) || ((len (pInts t).1 != 3) : Bool)) with
    | true =>
      refine ⟨rejP, ?_, .inl rfl⟩
      unfold impl_ParseProgram
      simp only [hl, Option.bind_some, c1, Bool.false_eq_true, if_false, g0, hc, hp, hq, if_true]
      rfl
    | false =>
      simp only [Bool.or_eq_false_iff, Bool.not_eq_false'] at hq
      obtain ⟨v0, v1, v2, e3⟩ := three_of hq.2
      have hp' : impl_ParseInts fuel t = some ([v0, v1, v2], true) := by rw [hp, ← e3, ← hq.1.2]
      rw [hq.1.1] at hc
      have hrun := impl_run (s := s) (l0 := l0) (rest := rest) (by omega) (fun x hx => n2 x (List.mem_cons_of_mem _ hx)) hl (by omega) hc hp'
      exact ⟨_, hrun, out_cases _ _ _ _ _⟩
/-! ### a text is read back -/
def mach : List UInt8 := [109, 97, 99, 104, 105, 110, 101, 32]
theorem text_is {x : D.Program} (hp : progB x = true) : impl_FormatProgram fuel x = some ⟨textN x.W (len x.Code) (mach ++ (threeN x.W x.Mem x.In).bytes ++ [10]) x.Code⟩ := by
  obtain ⟨p1, p2, p3, p4⟩ := prog_all hp
  unfold impl_FormatProgram
  rw [impl_prog (by omega), hp]
  have i2 := impl_ints (a := x.W) (b := x.Mem) (c := x.In) ⟨by omega, by omega⟩ ⟨by omega, by omega⟩ ⟨by omega, by omega⟩
  have hl : (threeN x.W x.Mem x.In).bytes.length ≤ 3010 := by
    have n1 := num_len (n := x.W) (by omega) (by omega)
    have n2 := num_len (n := x.Mem) (by omega) (by omega)
    have n3 := num_len (n := x.In) (by omega) (by omega)
    simp only [threeN, List.length_append, List.length_cons, List.length_nil]
    omega
  simp only [Option.bind_some, Bool.not_true, Bool.false_eq_true, if_false, i2]
  generalize threeN x.W x.Mem x.In = t at hl
  have hc1 : cat? (⟨[109, 97, 99, 104, 105, 110, 101, 32]⟩) t = some ⟨mach ++ t.bytes⟩ := cat_eq (by simp; omega)
  have hc2 : cat? ⟨mach ++ t.bytes⟩ ⟨[10]⟩ = some ⟨mach ++ t.bytes ++ [10]⟩ := cat_eq (by simp [mach]; omega)
  have hbw : bw? (⟨[]⟩ : Str) ⟨mach ++ t.bytes ++ [10]⟩ = some ⟨mach ++ t.bytes ++ [10]⟩ := by
    unfold bw?
    rw [if_pos (by simp [mach]; omega)]
    rfl
  simp only [hc1, hc2, hbw, Option.bind_some]
  have hh : (⟨mach ++ t.bytes ++ [10]⟩ : Str).bytes.length ≤ 4000 := by simp [mach]; omega
  rw [impl_lines p4 hh]
  rfl
theorem text_flat (w n : Int) : ∀ (l : List D.Ins) (h : List UInt8), textN w n h l = h ++ (l.map fun x => (lineI x w n).bytes ++ [10]).flatten := by
  intro l
  induction l with
  | nil => intro h; simp [textN]
  | cons x l ih =>
    intro h
    have e : lineF x w n = lineI x w n := by
      unfold lineF
      rw [(lineI_eq x w n).1]
      rfl
    rw [textN, ih, e]
    simp
theorem cut_flat (ls : List (List UInt8)) (h : ∀ x ∈ ls, 10 ∉ x) : cutS 10 [] ((ls.map fun x => x ++ [10]).flatten) = ls ++ [[]] := by
  induction ls with
  | nil => rfl
  | cons x ls ih =>
    have h1 := h x List.mem_cons_self
    have h2 := ih fun y hy => h y (List.mem_cons_of_mem _ hy)
    have e : ((x :: ls).map fun x => x ++ [10]).flatten = x ++ 10 :: ((ls.map fun x => x ++ [10]).flatten) := by simp
    rw [e, cut_at _ _ _ h1, h2]
    simp
theorem dig10 (b : Int) (h : 0 ≤ b) : 10 ∉ (num b).bytes := by
  rw [num_pos h]
  intro hm
  have := dig_mem b.toNat 10 hm
  simp at this
theorem reg10 (b : Int) (h : 0 ≤ b) : 10 ∉ (reg b).bytes := by
  have := dig10 b h
  unfold reg
  simp only [List.cons_append, List.nil_append, List.mem_cons, not_or]
  exact ⟨by decide, this⟩
theorem line10 {x : D.Ins} {w n : Int} (h1 : 2 ≤ w ∧ w ≤ 8) (h2 : 1 ≤ n ∧ n ≤ 40) (hv : insB w n x = true) : 10 ∉ (lineI x w n).bytes ∧ (lineI x w n).bytes ≠ [] := by
  have hsh := ins_shape h1.1 h1.2 h2.2 hv
  have three : ∀ {t y z : Str}, 10 ∉ t.bytes → 10 ∉ y.bytes → 10 ∉ z.bytes → 10 ∉ t.bytes ++ 32 :: (y.bytes ++ 32 :: z.bytes) := by
    intro t y z a b c
    simp only [List.mem_append, List.mem_cons, not_or]
    exact ⟨a, by decide, b, by decide, c⟩
  have two : ∀ {t y : Str}, 10 ∉ t.bytes → 10 ∉ y.bytes → 10 ∉ t.bytes ++ 32 :: y.bytes := by
    intro t y a b
    simp only [List.mem_append, List.mem_cons, not_or]
    exact ⟨a, by decide, b⟩
  obtain ⟨op, a, b, c⟩ := x
  simp only at hsh
  unfold lineI
  rcases hsh with ⟨ho, rfl, ha, hb⟩ | ⟨ho, rfl, ha, hb⟩ | ⟨rfl, hc, ha, hb⟩ | ⟨ho, rfl, ha, rfl⟩ | ⟨ho, rfl, rfl, hb⟩ | ⟨ho, rfl, rfl, rfl⟩
  · obtain ⟨t, ht, -, hk⟩ := w_op (op := op) (by omega) (by omega)
    rw [line_rn (x := ⟨op, a, b, 0⟩) h1 h2 hv ho ht hk.len ha hb]
    exact ⟨three hk.free10 (reg10 a ha.1) (dig10 b hb.1), by simp⟩
  · obtain ⟨t, ht, -, hk⟩ := w_op (op := op) (by omega) (by omega)
    rw [line_rr (x := ⟨op, a, b, 0⟩) h1 h2 hv ho ht hk.len ha hb]
    exact ⟨three hk.free10 (reg10 a ha.1) (reg10 b hb.1), by simp⟩
  · obtain ⟨t, ht, hk⟩ := w_c hc
    rw [line_op (x := ⟨3, a, b, c⟩) h1 h2 hv rfl ht hk.len ha hb]
    exact ⟨three hk.free10 (reg10 a ha.1) (reg10 b hb.1), by simp⟩
  · obtain ⟨t, ht, -, hk⟩ := w_op (op := op) (by omega) (by omega)
    rw [line_r (x := ⟨op, a, 0, 0⟩) h1 h2 hv ho ht hk.len ha]
    exact ⟨two hk.free10 (reg10 a ha.1), by simp⟩
  · obtain ⟨t, ht, -, hk⟩ := w_op (op := op) (by omega) (by omega)
    rw [line_n (x := ⟨op, 0, b, 0⟩) h1 h2 hv ho ht hk.len hb]
    exact ⟨two hk.free10 (dig10 b hb.1), by simp⟩
  · obtain ⟨t, ht, -, hk⟩ := w_op (op := op) (by omega) (by omega)
    rw [line_0 (x := ⟨op, 0, 0, 0⟩) h1 h2 hv ho ht]
    exact ⟨hk.free10, hk.ne⟩
theorem fold_back {w n : Int} (h1 : 2 ≤ w ∧ w ≤ 8) (h2 : 1 ≤ n ∧ n ≤ 40) : ∀ (l a : List D.Ins), (∀ x ∈ l, insB w n x = true) → foldO (actP w n) (l.map fun x => lineI x w n) a = some (a ++ l) := by
  intro l
  induction l with
  | nil => intro a _; simp [foldO]
  | cons x l ih =>
    intro a h
    rw [List.map_cons, foldO]
    have hb := (read_back h1 h2 (h x List.mem_cons_self)).2
    have hP : PI (lineI x w n) w n = (x, true) := by unfold PI; rw [hb]; rfl
    unfold actP
    rw [hP]
    simp only [if_true, Option.bind_some]
    have := ih (a ++ [x]) fun y hy => h y (List.mem_cons_of_mem _ hy)
    unfold actP at this
    rw [this]
    simp
theorem ins_of {x : D.Program} (hp : progB x = true) : (1 ≤ (x.Code.length : Int) ∧ (x.Code.length : Int) ≤ 40) ∧ ∀ y ∈ x.Code, insB x.W x.Code.length y = true := by
  unfold progB at hp
  simp only [Bool.and_eq_true, decide_eq_true_eq, List.all_eq_true] at hp
  exact ⟨hp.1.2, hp.2⟩
theorem pints_three {a b c : Int} (ha : 0 ≤ a ∧ a ≤ 1000) (hb : 0 ≤ b ∧ b ≤ 1000) (hc : 0 ≤ c ∧ c ≤ 1000) : pInts (threeN a b c) = ([a, b, c], true) := by
  unfold pInts
  have e : (threeN a b c).bytes = (num a).bytes ++ 32 :: ((num b).bytes ++ 32 :: (num c).bytes) := by simp [threeN]
  have hne : threeN a b c ≠ ⟨[]⟩ := fun h => by have := congrArg Str.bytes h; rw [e] at this; simp at this
  rw [if_neg hne, e, cut_at _ _ _ (free_num ha.1).1, cut_at _ _ _ (free_num hb.1).1, cut_free _ _ (free_num hc.1).1]
  simp only [List.nil_append, List.map_cons, List.map_nil, foldO, actI]
  have p1 : parseN ⟨(num a).bytes⟩ = (a, true) := parseN_num ⟨by omega, by omega⟩
  have p2 : parseN ⟨(num b).bytes⟩ = (b, true) := parseN_num ⟨by omega, by omega⟩
  have p3 : parseN ⟨(num c).bytes⟩ = (c, true) := parseN_num ⟨by omega, by omega⟩
  simp [p1, p2, p3]
theorem read_prog {p : D.Program} (hp : progB p = true) (hs : (textP p).bytes.length ≤ 1048576) : spec_ParseProgram fuel (textP p) = some (p, true) ∧ impl_ParseProgram fuel (textP p) = some (p, true) := by
  obtain ⟨p1, p2, p3, p4⟩ := prog_all hp
  obtain ⟨q1, q2⟩ := ins_of hp
  have ht : textP p = ⟨textN p.W (len p.Code) (mach ++ (threeN p.W p.Mem p.In).bytes ++ [10]) p.Code⟩ := by
    unfold textP
    rw [text_is hp]
    rfl
  have hb : (textP p).bytes = (mach ++ (threeN p.W p.Mem p.In).bytes) ++ 10 :: (p.Code.map fun x => (lineI x p.W p.Code.length).bytes ++ [10]).flatten := by
    rw [ht]
    simp only
    rw [text_flat, len_nat]
    simp
  have h10 : 10 ∉ mach ++ (threeN p.W p.Mem p.In).bytes := by
    have n1 := dig10 p.W (by omega)
    have n2 := dig10 p.Mem (by omega)
    have n3 := dig10 p.In (by omega)
    simp only [threeN, List.mem_append, not_or]
    refine ⟨by decide, ⟨⟨⟨n1, by decide⟩, n2⟩, by decide⟩, n3⟩
  have hls : linesS (textP p) = ⟨mach ++ (threeN p.W p.Mem p.In).bytes⟩ :: p.Code.map fun x => lineI x p.W p.Code.length := by
    unfold linesS
    have e : (p.Code.map fun x => (lineI x p.W p.Code.length).bytes ++ [10]).flatten = ((p.Code.map fun x => (lineI x p.W p.Code.length).bytes).map fun x => x ++ [10]).flatten := by simp [Function.comp_def]
    rw [hb, cut_at _ _ _ h10, e, cut_flat _ (by
      intro y hy
      obtain ⟨x, hx, rfl⟩ := List.mem_map.1 hy
      exact (line10 p1 q1 (q2 x hx)).1)]
    rw [if_pos (by simp [List.getLast?_cons])]
    have e2 : ((mach ++ (threeN p.W p.Mem p.In).bytes) :: ((p.Code.map fun x => (lineI x p.W p.Code.length).bytes) ++ [[]])).map Str.mk = (⟨mach ++ (threeN p.W p.Mem p.In).bytes⟩ :: p.Code.map fun x => lineI x p.W p.Code.length) ++ [⟨[]⟩] := by simp [Function.comp_def]
    simp only [List.nil_append]
    rw [e2, List.dropLast_concat]
  obtain ⟨n1, n2⟩ := lines_len hs
  rw [hls] at n1 n2
  have sl := spec_linesE hs
  have il := impl_linesE hs
  rw [hls] at sl il
  have hout : outP (textP p) p.W p.Mem p.In (p.Code.map fun x => lineI x p.W p.Code.length) = (p, true) := by
    unfold outP
    rw [List.length_map, fold_back p1 q1 p.Code [] q2]
    simp only [List.nil_append]
    unfold finP
    rw [if_pos (by simp [hp])]
  have hthree := pints_three (a := p.W) (b := p.Mem) (c := p.In) ⟨by omega, by omega⟩ ⟨by omega, by omega⟩ ⟨by omega, by omega⟩
  have hrest : ∀ x ∈ (p.Code.map fun x => lineI x p.W p.Code.length), x.bytes.length ≤ 1048576 := fun x hx => n2 x (List.mem_cons_of_mem _ hx)
  have hrl : (p.Code.map fun x => lineI x p.W p.Code.length).length ≤ 1048576 := by rw [List.length_map]; omega
  have hr1 : 1 ≤ (p.Code.map fun x => lineI x p.W p.Code.length).length ∧ (p.Code.map fun x => lineI x p.W p.Code.length).length ≤ 40 := by rw [List.length_map]; omega
  have m1 := num_len (n := p.W) (by omega) (by omega)
  have m2 := num_len (n := p.Mem) (by omega) (by omega)
  have m3 := num_len (n := p.In) (by omega) (by omega)
  have hl0 : (⟨mach ++ (threeN p.W p.Mem p.In).bytes⟩ : Str).bytes.length ≤ 1048576 := by simp [mach, threeN]; omega
  have htl : (threeN p.W p.Mem p.In).bytes.length ≤ 1048576 := by simp [threeN]; omega
  constructor
  · have hw : spec_Words fuel ⟨mach ++ (threeN p.W p.Mem p.In).bytes⟩ = some [⟨[109, 97, 99, 104, 105, 110, 101]⟩, num p.W, num p.Mem, num p.In] := by
      rw [words_eq hl0]
      have e : mach ++ (threeN p.W p.Mem p.In).bytes = [109, 97, 99, 104, 105, 110, 101] ++ 32 :: ((num p.W).bytes ++ 32 :: ((num p.Mem).bytes ++ 32 :: (num p.In).bytes)) := by simp [mach, threeN]
      simp only
      rw [e, word_more _ (by decide) (by decide), word_more _ (free_num (by omega)).1 (free_num (by omega)).2, word_more _ (free_num (by omega)).1 (free_num (by omega)).2, word_one (free_num (by omega)).1 (free_num (by omega)).2]
      rfl
    have hj := join3b 1048575 (a := num p.W) (b := num p.Mem) (c := num p.In) (by omega) (by omega) (by omega)
    have hf : fuel = 1048575 + 5 := rfl
    rw [← hf] at hj
    have hp3 := spec_pints htl
    rw [hthree] at hp3
    rw [spec_run (s := textP p) hrl hrest sl hr1 hw hj hp3, hout]
  · have hcp : strings_CutPrefix ⟨mach ++ (threeN p.W p.Mem p.In).bytes⟩ ⟨[109, 97, 99, 104, 105, 110, 101, 32]⟩ = some (threeN p.W p.Mem p.In, true) := by
      unfold strings_CutPrefix internal_stringslite_CutPrefix internal_stringslite_HasPrefix
      generalize threeN p.W p.Mem p.In = t
      have c1 : decide (len (mach ++ t.bytes) ≥ len ([109, 97, 99, 104, 105, 110, 101, 32] : List UInt8)) = true := by rw [len_nat, len_nat]; exact decide_eq_true (by simp [mach]; omega)
      have c2 := scut_eq (s := ⟨mach ++ t.bytes⟩) (f := 0) (k := 8) (by omega) (by simp [mach])
      have c3 := scut_eq (s := ⟨mach ++ t.bytes⟩) (f := 8) (k := (mach ++ t.bytes).length) (by simp [mach]) (Nat.le_refl _)
      have c4 : len ([109, 97, 99, 104, 105, 110, 101, 32] : List UInt8) = ((8 : Nat) : Int) := rfl
      rw [show ((0 : Nat) : Int) = 0 from rfl] at c2
      have e1 : ((mach ++ t.bytes).take 8).drop 0 = [109, 97, 99, 104, 105, 110, 101, 32] := by simp [mach]
      have e2 : ((mach ++ t.bytes).take (mach ++ t.bytes).length).drop 8 = t.bytes := by simp [mach]
      simp only [e1] at c2
      simp only [e2] at c3
      simp only [c1, if_true]
      simp only [c4, len_nat, c2, Option.bind_some, eqb_self, Bool.not_true, Bool.false_eq_true, if_false, c3]
    have hp3 := impl_pints htl
    rw [hthree] at hp3
    rw [impl_run (s := textP p) hrl hrest il hr1.1 hcp hp3, hout]
theorem parse_progE {s : Str} (hs : s.bytes.length ≤ 1048576) : ∃ r, spec_ParseProgram fuel s = some r ∧ impl_ParseProgram fuel s = some r ∧ r.1.Code.length ≤ 1048576 := by
  obtain ⟨r1, e1, h1⟩ := spec_soundP hs
  obtain ⟨r2, e2, h2⟩ := impl_soundP hs
  rcases h1 with rfl | ⟨p, rfl, hp, ht⟩
  · rcases h2 with rfl | ⟨p, rfl, hp, ht⟩
    · exact ⟨_, e1, e2, by simp [rejP]⟩
    · subst ht
      obtain ⟨b1, b2⟩ := read_prog hp hs
      exact ⟨_, b1, b2, by have := (prog_all hp).2.2.2; simp only; omega⟩
  · subst ht
    obtain ⟨b1, b2⟩ := read_prog hp hs
    exact ⟨_, b1, b2, by have := (prog_all hp).2.2.2; simp only; omega⟩
theorem fin_FnExactParseProgram (s : Str) : ∃ n, laws_FnExactParseProgram n s = some true := by
  refine ⟨fuel, ?_⟩
  unfold laws_FnExactParseProgram
  by_cases hl : s.bytes.length ≤ 1048576
  case neg => rw [if_pos (by rw [len_nat]; simp; omega)]
  rw [if_neg (by rw [len_nat]; simp; omega)]
  obtain ⟨R, h1, h2, hs⟩ := parse_progE hl
  have m2 : laws_markProgram fuel R.1 1 = some (1 + 4 * (R.1.Code.length : Int), ⟨R.1.W, R.1.Mem, R.1.In, upP 1 R.1.Code.length⟩) := by
    unfold laws_markProgram
    rw [markInsS_eq (by omega) (by omega) hs]
    rfl
  have m3 : laws_heldProgram fuel ⟨R.1.W, R.1.Mem, R.1.In, upP 1 R.1.Code.length⟩ 1 = some (1 + 4 * (R.1.Code.length : Int)) := by
    unfold laws_heldProgram
    simp only
    rw [heldInsS_eq (by omega) (by omega) hs]
    simp only [Option.bind_some]
    rw [if_neg (by simp; omega)]
  have m4 := eqProgram_refl hs
  simp only [h1, h2, m2, m3, m4, Option.bind_some]
  have e2 : ¬ (1 : Int) + 4 * (R.1.Code.length : Int) < 0 := by omega
  simp [e2]
end Go.Proofs.YtmmhbhhcloobnaaGreatDoor
