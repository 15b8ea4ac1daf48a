/- The plain law of this claim. No program in sight. -/
import Derived.Test.YtknlknnihinmjaaPlain
namespace Go.Proofs.Ytknlknnihinmjaa
open Go.GL
theorem iterN_meas {σt ρt : Type} {B : σt → Option (σt ⊕ ρt)} {I : σt → Prop} {μ : σt → Nat} {R : ρt → Prop}
    (hs : ∀ s, I s → (∃ s', B s = some (.inl s') ∧ I s' ∧ μ s' < μ s) ∨ ∃ r, B s = some (.inr r) ∧ R r) : ∀ n s, I s → μ s < n → ∃ r, iterN B n s = some r ∧ R r := by
  intro n
  induction n with
  | zero => intro s _ h; omega
  | succ n ih =>
    intro s hI hm
    rcases hs s hI with ⟨s', h1, h2, h3⟩ | ⟨r, h1, h2⟩
    · obtain ⟨r, g1, g2⟩ := ih s' h2 (by omega)
      exact ⟨r, by rw [iterN, h1]; exact g1, g2⟩
    · exact ⟨r, by rw [iterN, h1], h2⟩
theorem iterN_stop {σt ρt : Type} {B : σt → Option (σt ⊕ ρt)} {s : σt} {r : ρt} {n : Nat} (h : B s = some (.inr r)) (hn : 0 < n) : iterN B n s = some r := by
  obtain ⟨m, rfl⟩ : ∃ m, n = m + 1 := ⟨n - 1, by omega⟩
  rw [iterN, h]
theorem fuel_pos : 0 < fuel := by decide
theorem eqb_self (s : Str) : Str.eqb s s = true := by unfold Str.eqb; simp
theorem eqTermS0_nil : laws_eqTermS__0 fuel [] [] = some true := by
  unfold laws_eqTermS__0
  rw [if_neg (by simp)]
  rw [iterN_stop (r := .inl ()) (by simp [len]) fuel_pos]
  rfl
theorem eqTerm_self (x : D.Term) : laws_eqTerm__1 fuel x x = some true := by
  unfold laws_eqTerm__1
  simp [eqb_self, eqTermS0_nil]
theorem eqTermS_self {l : List D.Term} (h : l.length ≤ 1000) : laws_eqTermS__1 fuel l l = some true := by
  unfold laws_eqTermS__1
  rw [if_neg (by simp)]
  obtain ⟨o, h1, h2⟩ := iterN_meas (B := fun (s1 : Int) =>
      if (decide (s1 < (len l))) then
        (get? l s1).bind fun x1 =>
        (get? l s1).bind fun x2 =>
        (laws_eqTerm__1 fuel x1 x2).bind fun x3 =>
        if (!x3) then
          some (.inr (.inr false))
        else
          some (.inl ((w64 (s1 + 1))))
      else
        some (.inr (.inl ()))) (I := fun s => ∃ i : Nat, s = (i : Int) ∧ i ≤ l.length) (μ := fun s => l.length - s.toNat) (R := fun (o : Unit ⊕ Bool) => o = .inl ()) (by
      rintro s ⟨i, rfl, h1⟩
      by_cases c : i < l.length
      · have w1 : w64 ((i : Int) + 1) = ((i + 1 : Nat) : Int) := by rw [w64_id (by omega) (by omega)]; omega
        have c1 : decide ((i : Int) < len l) = true := by rw [len_nat]; exact decide_eq_true (by omega)
        have c2 : get? l (i : Int) = some l[i] := by rw [get?_nat, List.getElem?_eq_getElem c]
        exact .inl ⟨((i + 1 : Nat) : Int), by simp [c1, c2, eqTerm_self, w1], ⟨i + 1, rfl, by omega⟩, by simp; omega⟩
      · have c1 : decide ((i : Int) < len l) = false := by rw [len_nat]; exact decide_eq_false (by omega)
        exact .inr ⟨.inl (), by simp [c1], rfl⟩) fuel 0 ⟨0, rfl, by omega⟩ (Nat.lt_of_le_of_lt (Nat.le_trans (Nat.sub_le _ _) h) (by decide))
  rw [h1, h2]
  rfl
def smallP (x : D.Path) : Prop := x.Regs.length ≤ 10 ∧ x.Mem.length ≤ 10 ∧ x.Stack = [] ∧ x.Out = [] ∧ x.Cond = [] ∧ x.Turns = []
theorem eqPath_self {x : D.Path} (h : smallP x) : laws_eqPath fuel x x = some true := by
  obtain ⟨h1, h2, h3, h4, h5, h6⟩ := h
  have e0 : laws_eqTermS__1 fuel ([] : List D.Term) [] = some true := eqTermS_self (by simp)
  have e1 : laws_eqIntS fuel ([] : List Int) [] = some true := by rw [eqIntS_eq (by simp)]; simp
  unfold laws_eqPath
  simp [h3, h4, h5, h6, eqTermS_self (show x.Regs.length ≤ 1000 by omega), eqTermS_self (show x.Mem.length ≤ 1000 by omega), e0, e1]
/-! ### the start -/
def cterm (w : Int) : D.Term := ⟨0, w, 0, ⟨[]⟩⟩
def path0 : D.Path := ⟨0, [], [], [], 0, [], 0, 0, [], []⟩
def pathS (x : D.Program) : D.Path := ⟨0, List.replicate 4 (cterm x.W), List.replicate x.Mem.toNat (cterm x.W), [], 0, [], 0, 0, [], []⟩
theorem const_eq {w : Int} (h1 : 2 ≤ w) (h2 : w ≤ 8) : impl_ConstTerm w 0 = some (cterm w) := by
  have : w = 2 ∨ w = 3 ∨ w = 4 ∨ w = 5 ∨ w = 6 ∨ w = 7 ∨ w = 8 := by omega
  rcases this with rfl | rfl | rfl | rfl | rfl | rfl | rfl <;> decide
theorem app_loop {w : Int} {m : Nat} (hm : m ≤ 1000) : iterN (fun (s1 : Int × (List D.Term)) =>
      if (decide (s1.1 < (m : Int))) then
        (spec_l02Const w 0).bind fun x2 =>
        (app? s1.2 ([x2] : List D.Term)).bind fun x3 =>
        some (.inl ((w64 (s1.1 + 1)), x3))
      else
        some (.inr (s1.2))) fuel (0, ([] : List D.Term)) = some (List.replicate m (cterm w)) := by
  obtain ⟨o, h1, h2⟩ := iterN_meas (B := fun (s1 : Int × (List D.Term)) =>
      if (decide (s1.1 < (m : Int))) then
        (spec_l02Const w 0).bind fun x2 =>
        (app? s1.2 ([x2] : List D.Term)).bind fun x3 =>
        some (.inl ((w64 (s1.1 + 1)), x3))
      else
        some (.inr (s1.2))) (I := fun s => ∃ i : Nat, s = ((i : Int), List.replicate i (cterm w)) ∧ i ≤ m) (μ := fun s => m - s.1.toNat) (R := fun o => o = List.replicate m (cterm w)) (by
      rintro s ⟨i, rfl, hi⟩
      by_cases c : i < m
      · have w1 : w64 ((i : Int) + 1) = ((i + 1 : Nat) : Int) := by rw [w64_id (by omega) (by omega)]; omega
        have c1 : decide ((i : Int) < (m : Int)) = true := decide_eq_true (by omega)
        have c2 : app? (List.replicate i (cterm w)) [cterm w] = some (List.replicate (i + 1) (cterm w)) := by
          unfold app?
          rw [if_pos (by unfold room; simp; omega), List.replicate_succ']
        exact .inl ⟨(((i + 1 : Nat) : Int), List.replicate (i + 1) (cterm w)), by simp only [c1, if_true, spec_l02Const, Option.bind_some]; rw [show (⟨0, w, 0, ⟨[]⟩⟩ : D.Term) = cterm w from rfl, c2]; simp only [Option.bind_some, w1], ⟨i + 1, rfl, by omega⟩, by simp; omega⟩
      · have c1 : decide ((i : Int) < (m : Int)) = false := decide_eq_false (by omega)
        refine .inr ⟨List.replicate i (cterm w), by simp only [c1, Bool.false_eq_true, if_false], ?_⟩
        rw [show i = m by omega]) fuel (0, []) ⟨0, rfl, by omega⟩ (Nat.lt_of_le_of_lt (Nat.le_trans (Nat.sub_le _ _) hm) (by decide))
  rw [h1, h2]
theorem set_loop {w : Int} {m : Nat} (hm : m ≤ 1000) (hw : impl_ConstTerm w 0 = some (cterm w)) {p : List D.Term} (hp : p.length = m) : iterN (fun (s1 : Int × (List D.Term)) =>
    if (decide (s1.1 < (len p))) then
      (impl_ConstTerm w 0).bind fun x3 =>
      (set? s1.2 s1.1 x3).bind fun x4 =>
      some (.inl ((w64 (s1.1 + 1)), x4))
    else
      some (.inr (s1.2))) fuel (0, p) = some (List.replicate m (cterm w)) := by
  obtain ⟨o, h1, h2⟩ := iterN_meas (B := fun (s1 : Int × (List D.Term)) =>
    if (decide (s1.1 < (len p))) then
      (impl_ConstTerm w 0).bind fun x3 =>
      (set? s1.2 s1.1 x3).bind fun x4 =>
      some (.inl ((w64 (s1.1 + 1)), x4))
    else
      some (.inr (s1.2))) (I := fun s => ∃ i : Nat, s = ((i : Int), pre (fun _ => cterm w) p i) ∧ i ≤ m) (μ := fun s => m - s.1.toNat) (R := fun o => o = List.replicate m (cterm w)) (by
      rintro s ⟨i, rfl, hi⟩
      by_cases c : i < m
      · have w1 : w64 ((i : Int) + 1) = ((i + 1 : Nat) : Int) := by rw [w64_id (by omega) (by omega)]; omega
        have c1 : decide ((i : Int) < len p) = true := by rw [len_nat]; exact decide_eq_true (by omega)
        have c2 : set? (pre (fun _ => cterm w) p i) (i : Int) (cterm w) = some (pre (fun _ => cterm w) p (i + 1)) := by
          rw [set?_nat (by rw [pre_len (by omega)]; omega)]
          exact congrArg some (pre_set (f := fun _ => cterm w) (by omega))
        exact .inl ⟨(((i + 1 : Nat) : Int), pre (fun _ => cterm w) p (i + 1)), by simp only [c1, if_true, hw, Option.bind_some, c2, w1], ⟨i + 1, rfl, by omega⟩, by simp; omega⟩
      · have c1 : decide ((i : Int) < len p) = false := by rw [len_nat]; exact decide_eq_false (by omega)
        refine .inr ⟨pre (fun _ => cterm w) p i, by simp [c1], ?_⟩
        rw [show i = p.length by omega, pre_all, hp]
        simp [List.eq_replicate_iff]) fuel (0, p) ⟨0, by simp [pre_zero], by omega⟩ (Nat.lt_of_le_of_lt (Nat.le_trans (Nat.sub_le _ _) hm) (by decide))
  rw [h1, h2]
theorem prog_w {x : D.Program} (h : progB x = true) : 2 ≤ x.W ∧ x.W ≤ 8 := by
  unfold progB at h
  simp only [Bool.and_eq_true, decide_eq_true_eq] at h
  exact h.1.1.1.1.1
theorem mkT {m : Nat} (h : m ≤ 1000) (z : D.Term) : mk? (m : Int) z = some (List.replicate m z) := by
  unfold mk?
  rw [if_pos ⟨by omega, by unfold room; omega⟩, Int.toNat_natCast]
theorem start_eq {x : D.Program} (h : x.Code.length ≤ 1048576) : ∃ r, spec_StartPath fuel x = some r ∧ impl_StartPath fuel x = some r ∧ smallP r := by
  unfold spec_StartPath impl_StartPath impl_startPath
  rw [spec_prog h, impl_prog h]
  cases hp : progB x with
  | false => exact ⟨path0, rfl, rfl, by simp [smallP, path0]⟩
  | true =>
    obtain ⟨m1, m2⟩ := prog_mem hp
    obtain ⟨w1, w2⟩ := prog_w hp
    obtain ⟨m, hm⟩ : ∃ m : Nat, x.Mem = (m : Int) := ⟨x.Mem.toNat, by omega⟩
    refine ⟨pathS x, ?_, ?_, by simp [smallP, pathS]; omega⟩
    · have e1 := app_loop (w := x.W) (m := 4) (by omega)
      have e2 := app_loop (w := x.W) (m := m) (by omega)
      rw [show ((4 : Nat) : Int) = 4 from rfl] at e1
      simp only [Option.bind_some, Bool.not_true, Bool.false_eq_true, if_false, hm]
      rw [e1]
      simp only [Option.bind_some]
      rw [e2]
      simp [pathS, hm]
    · have hw := const_eq w1 w2
      have e1 := set_loop (w := x.W) (m := 4) (by omega) hw (p := List.replicate 4 (⟨0, 0, 0, ⟨[]⟩⟩ : D.Term)) (by simp)
      have e2 := set_loop (w := x.W) (m := m) (by omega) hw (p := List.replicate m (⟨0, 0, 0, ⟨[]⟩⟩ : D.Term)) (by simp)
      have k1 := mkT (m := 4) (by omega) (⟨0, 0, 0, ⟨[]⟩⟩ : D.Term)
      have k2 := mkT (m := m) (by omega) (⟨0, 0, 0, ⟨[]⟩⟩ : D.Term)
      rw [show ((4 : Nat) : Int) = 4 from rfl] at k1
      simp only [Option.bind_some, Bool.not_true, Bool.false_eq_true, if_false, hm, k1, k2]
      rw [e1]
      simp only [Option.bind_some]
      rw [e2]
      simp [pathS, hm]
/-! ### marks -/
theorem text_some {k : Int} (h0 : 0 ≤ k) (h1 : k ≤ 1000) : ∃ s, laws_markText fuel k = some s := by
  unfold laws_markText
  by_cases c : k ≤ 0
  · rw [if_pos (by simpa using c)]; exact ⟨_, rfl⟩
  rw [if_neg (by simpa using c)]
  obtain ⟨o, e1, e2⟩ := iterN_meas (B := fun (s1 : Int × Str) =>
      if (decide (s1.1 > 0)) then
        (rem? s1.1 10).bind fun x1 =>
        (cat? (strOf ([(Byt.mk (IntKind.u8.wrap (w64 (48 + x1))))] : List Byt)) s1.2).bind fun x2 =>
        (quo? s1.1 10).bind fun x3 =>
        some (.inl (x3, x2))
      else
        some (.inr (s1.2))) (I := fun s => 0 ≤ s.1 ∧ s.1 ≤ 1000 ∧ s.2.bytes.length + s.1.toNat ≤ 2000) (μ := fun s => s.1.toNat) (R := fun o => o.bytes.length ≤ 2000) (by
      rintro ⟨j, s⟩ ⟨i1, i2, i3⟩
      simp only at i1 i2 i3
      by_cases c : 0 < j
      · left
        have c1 : decide (j > 0) = true := decide_eq_true c
        have c2 : rem? j 10 = some (j.tmod 10) := by unfold rem?; rw [if_neg (by omega)]
        have c3 : quo? j 10 = some (j / 10) := by
          unfold quo?
          rw [if_neg (by omega), Int.tdiv_eq_ediv_of_nonneg i1, w64_id (by omega) (by omega)]
        have c4 : cat? (strOf ([(Byt.mk (IntKind.u8.wrap (w64 (48 + j.tmod 10))))] : List Byt)) s = some ⟨(strOf ([(Byt.mk (IntKind.u8.wrap (w64 (48 + j.tmod 10))))] : List Byt)).bytes ++ s.bytes⟩ := by
          unfold cat?
          rw [if_pos (by simp [strOf]; omega)]
        refine ⟨(j / 10, _), by simp only [c1, if_true, c2, Option.bind_some, c4, c3]; rfl, ⟨by show 0 ≤ j / 10; omega, by show j / 10 ≤ 1000; omega, ?_⟩, by show (j / 10).toNat < j.toNat; omega⟩
        show (List.map _ _ ++ s.bytes).length + (j / 10).toNat ≤ 2000
        simp only [List.map_cons, List.map_nil, List.length_append, List.length_cons, List.length_nil]
        omega
      · right
        have c1 : decide (j > 0) = false := decide_eq_false c
        exact ⟨s, by simp [c1], by show s.bytes.length ≤ 2000; omega⟩) fuel (k, ⟨[]⟩) ⟨h0, h1, by simp; omega⟩ (Nat.lt_of_le_of_lt (show k.toNat ≤ 1000 by omega) (by decide))
  rw [e1]
  simp only [Option.bind_some]
  unfold cat?
  rw [if_pos (by simp; omega)]
  exact ⟨_, rfl⟩
def txt (k : Int) : Str := (laws_markText fuel k).getD ⟨[]⟩
theorem text_eq {k : Int} (h0 : 0 ≤ k) (h1 : k ≤ 1000) : laws_markText fuel k = some (txt k) := by
  obtain ⟨s, h⟩ := text_some h0 h1
  rw [txt, h]; rfl
def mterm (k : Int) (i : Nat) : D.Term := ⟨k + 4 * i, k + 4 * i + 1, k + 4 * i + 2, txt (k + 4 * i + 3)⟩
theorem mark0_nil (k : Int) : laws_markTermS__0 fuel [] k = some k := by
  unfold laws_markTermS__0
  rw [iterN_stop (r := k) (by simp [len]) fuel_pos]
  rfl
theorem held0_nil (k : Int) : laws_heldTermS__0 fuel [] k = some k := by
  unfold laws_heldTermS__0
  rw [iterN_stop (r := .inl k) (by simp [len]) fuel_pos]
  rfl
theorem markTermS_ok {p : List D.Term} {k : Int} (h0 : 0 ≤ k) (h1 : k ≤ 100) (hp : p.length ≤ 10) : laws_markTermS__1 fuel p k = some (k + 4 * p.length, (List.range p.length).map (mterm k)) := by
  unfold laws_markTermS__1
  obtain ⟨o, e1, e2⟩ := iterN_meas (B := fun (s1 : Int × Int × (List D.Term)) =>
    if (decide (s1.2.1 < (len p))) then
      (get? s1.2.2 s1.2.1).bind fun x1 =>
      (set? s1.2.2 s1.2.1 ({ x1 with Op := s1.1 } : D.Term)).bind fun x2 =>
      (get? x2 s1.2.1).bind fun x3 =>
      (set? x2 s1.2.1 ({ x3 with W := (w64 (s1.1 + 1)) } : D.Term)).bind fun x4 =>
      (get? x4 s1.2.1).bind fun x5 =>
      (set? x4 s1.2.1 ({ x5 with N := (w64 ((w64 (s1.1 + 1)) + 1)) } : D.Term)).bind fun x6 =>
      (laws_markText fuel (w64 ((w64 ((w64 (s1.1 + 1)) + 1)) + 1))).bind fun x7 =>
      (get? x6 s1.2.1).bind fun x8 =>
      (set? x6 s1.2.1 ({ x8 with Name := x7 } : D.Term)).bind fun x9 =>
      (get? x9 s1.2.1).bind fun x10 =>
      (laws_markTermS__0 fuel ([] : List D.Term) (w64 ((w64 ((w64 ((w64 (s1.1 + 1)) + 1)) + 1)) + 1))).bind fun x11 =>
      some (.inl (x11, (w64 (s1.2.1 + 1)), x9))
    else
      some (.inr (s1.1, s1.2.2))) (I := fun s => ∃ i : Nat, s = (k + 4 * i, (i : Int), pre (mterm k) p i) ∧ i ≤ p.length) (μ := fun s => p.length - s.2.1.toNat) (R := fun o => o = (k + 4 * p.length, (List.range p.length).map (mterm k))) (by
      rintro s ⟨i, rfl, hi⟩
      by_cases c : i < p.length
      · left
        have c1 : decide ((i : Int) < len p) = true := by rw [len_nat]; exact decide_eq_true (by omega)
        have hl : i < (pre (mterm k) p i).length := by rw [pre_len (by omega)]; exact c
        have c2 : get? (pre (mterm k) p i) (i : Int) = some (pre (mterm k) p i)[i] := by rw [get?_nat, List.getElem?_eq_getElem hl]
        have q1 : w64 (k + 4 * (i : Int) + 1) = k + 4 * i + 1 := w64_id (by omega) (by omega)
        have q2 : w64 (k + 4 * (i : Int) + 1 + 1) = k + 4 * i + 2 := by rw [w64_id (by omega) (by omega)]; omega
        have q3 : w64 (k + 4 * (i : Int) + 2 + 1) = k + 4 * i + 3 := by rw [w64_id (by omega) (by omega)]; omega
        have q4 : w64 (k + 4 * (i : Int) + 3 + 1) = k + 4 * ((i + 1 : Nat) : Int) := by rw [w64_id (by omega) (by omega)]; omega
        have w1 : w64 ((i : Int) + 1) = ((i + 1 : Nat) : Int) := by rw [w64_id (by omega) (by omega)]; omega
        have ht := text_eq (k := k + 4 * (i : Int) + 3) (by omega) (by omega)
        have hset := pre_set (f := mterm k) (p := p) c
        rw [show pre (mterm k) p i = pre (mterm k) p i from rfl]
        obtain ⟨l, hlq⟩ : ∃ l, l = pre (mterm k) p i := ⟨_, rfl⟩
        simp only [← hlq] at c2 hl hset ⊢
        refine ⟨(k + 4 * ((i + 1 : Nat) : Int), ((i + 1 : Nat) : Int), pre (mterm k) p (i + 1)), ?_, ⟨i + 1, rfl, by omega⟩, by simp; omega⟩
        have hss : ∀ a b : D.Term, set? (l.set i a) (i : Int) b = some (l.set i b) := fun a b => by rw [set?_nat (by rw [List.length_set]; exact hl), List.set_set]
        have hgs : ∀ a : D.Term, get? (l.set i a) (i : Int) = some a := fun a => by rw [get?_nat, List.getElem?_set_self hl]
        have hs1 : ∀ a : D.Term, set? l (i : Int) a = some (l.set i a) := fun a => set?_nat hl
        simp only [c1, if_true, c2, Option.bind_some, q1, q2, q3, ht, q4, mark0_nil, w1, hs1, hgs, hss]
        rw [← hset]
        rfl
      · right
        have c1 : decide ((i : Int) < len p) = false := by rw [len_nat]; exact decide_eq_false (by omega)
        refine ⟨(k + 4 * (i : Int), pre (mterm k) p i), by simp [c1], ?_⟩
        rw [show i = p.length by omega, pre_all]) fuel (k, 0, p) ⟨0, by simp [pre_zero], by omega⟩ (Nat.lt_of_le_of_lt (Nat.le_trans (Nat.sub_le _ _) hp) (by decide))
  rw [e1, e2]
  rfl
theorem heldTermS_ok {L : Nat} {k : Int} (h0 : 0 ≤ k) (h1 : k ≤ 100) (hp : L ≤ 10) : laws_heldTermS__1 fuel ((List.range L).map (mterm k)) k = some (k + 4 * L) := by
  have hlen : ((List.range L).map (mterm k)).length = L := by simp
  unfold laws_heldTermS__1
  generalize hq : (List.range L).map (mterm k) = p at hlen
  obtain ⟨o, e1, e2⟩ := iterN_meas (B := fun (s1 : Int × Int) =>
    if (decide (s1.2 < (len p))) then
      (get? p s1.2).bind fun x1 =>
      if (x1.Op != s1.1) then
        some (.inr (.inr (-1)))
      else
        (get? p s1.2).bind fun x2 =>
        if (x2.W != (w64 (s1.1 + 1))) then
          some (.inr (.inr (-1)))
        else
          (get? p s1.2).bind fun x3 =>
          if (x3.N != (w64 ((w64 (s1.1 + 1)) + 1))) then
            some (.inr (.inr (-1)))
          else
            (get? p s1.2).bind fun x4 =>
            (laws_markText fuel (w64 ((w64 ((w64 (s1.1 + 1)) + 1)) + 1))).bind fun x5 =>
            if (!(Str.eqb x4.Name x5)) then
              some (.inr (.inr (-1)))
            else
              (get? p s1.2).bind fun x6 =>
              (laws_heldTermS__0 fuel ([] : List D.Term) (w64 ((w64 ((w64 ((w64 (s1.1 + 1)) + 1)) + 1)) + 1))).bind fun x7 =>
              if (decide (x7 < 0)) then
                some (.inr (.inr (-1)))
              else
                some (.inl (x7, (w64 (s1.2 + 1))))
    else
      some (.inr (.inl (s1.1)))) (I := fun s => ∃ i : Nat, s = (k + 4 * i, (i : Int)) ∧ i ≤ L) (μ := fun s => L - s.2.toNat) (R := fun (o : Int ⊕ Int) => o = .inl (k + 4 * L)) (by
      rintro s ⟨i, rfl, hi⟩
      by_cases c : i < L
      · left
        have c1 : decide ((i : Int) < len p) = true := by rw [len_nat]; exact decide_eq_true (by omega)
        have c2 : get? p (i : Int) = some (mterm k i) := by
          rw [get?_nat, ← hq, List.getElem?_map, List.getElem?_range c]; rfl
        have q1 : w64 (k + 4 * (i : Int) + 1) = k + 4 * i + 1 := w64_id (by omega) (by omega)
        have q2 : w64 (k + 4 * (i : Int) + 1 + 1) = k + 4 * i + 2 := by rw [w64_id (by omega) (by omega)]; omega
        have q3 : w64 (k + 4 * (i : Int) + 2 + 1) = k + 4 * i + 3 := by rw [w64_id (by omega) (by omega)]; omega
        have q4 : w64 (k + 4 * (i : Int) + 3 + 1) = k + 4 * ((i + 1 : Nat) : Int) := by rw [w64_id (by omega) (by omega)]; omega
        have w1 : w64 ((i : Int) + 1) = ((i + 1 : Nat) : Int) := by rw [w64_id (by omega) (by omega)]; omega
        have ht := text_eq (k := k + 4 * (i : Int) + 3) (by omega) (by omega)
        have hneg : decide (k + 4 * ((i + 1 : Nat) : Int) < 0) = false := decide_eq_false (by omega)
        refine ⟨(k + 4 * ((i + 1 : Nat) : Int), ((i + 1 : Nat) : Int)), ?_, ⟨i + 1, rfl, by omega⟩, by simp; omega⟩
        simp only [c1, if_true, c2, Option.bind_some, q1, q2, q3, ht, q4, held0_nil, w1, hneg, mterm, bne_self_eq_false, Bool.false_eq_true, if_false, eqb_self, Bool.not_true]
      · right
        have c1 : decide ((i : Int) < len p) = false := by rw [len_nat]; exact decide_eq_false (by omega)
        refine ⟨.inl (k + 4 * (i : Int)), by simp [c1], ?_⟩
        rw [show i = L by omega]) fuel (k, 0) ⟨0, by simp, by omega⟩ (Nat.lt_of_le_of_lt (Nat.le_trans (Nat.sub_le _ _) hp) (by decide))
  rw [e1, e2]
  rfl
theorem markPath_ok {x : D.Path} (h : smallP x) : ∃ y : D.Path, laws_markPath fuel x 1 = some (1 + 4 * (x.Regs.length : Int) + 4 * (x.Mem.length : Int), y) ∧ laws_heldPath fuel (D.Path.mk x.Pc y.Regs y.Mem y.Stack x.In y.Out x.Code x.Steps y.Cond y.Turns) 1 = some (1 + 4 * (x.Regs.length : Int) + 4 * (x.Mem.length : Int)) := by
  obtain ⟨h1, h2, h3, h4, h5, h6⟩ := h
  have m1 := markTermS_ok (p := x.Regs) (k := 1) (by omega) (by omega) h1
  have m2 := markTermS_ok (p := x.Mem) (k := 1 + 4 * x.Regs.length) (by omega) (by omega) h2
  have g1 := heldTermS_ok (L := x.Regs.length) (k := 1) (by omega) (by omega) h1
  have g2 := heldTermS_ok (L := x.Mem.length) (k := 1 + 4 * x.Regs.length) (by omega) (by omega) h2
  have m3 := markIntS_eq (p := ([] : List Int)) (k := 1 + 4 * x.Regs.length + 4 * x.Mem.length) (by omega) (by omega) (by simp)
  have g3 := heldIntS_eq (L := 0) (k := 1 + 4 * x.Regs.length + 4 * x.Mem.length) (by omega) (by omega) (by omega)
  have m4 := markTermS_ok (p := ([] : List D.Term)) (k := 1 + 4 * x.Regs.length + 4 * x.Mem.length) (by omega) (by omega) (by simp)
  have g4 := heldTermS_ok (L := 0) (k := 1 + 4 * x.Regs.length + 4 * x.Mem.length) (by omega) (by omega) (by omega)
  unfold laws_markPath laws_heldPath
  simp only [h3, h4, h5, h6, m1, m2, Option.bind_some]
  simp only [List.length_nil, Int.natCast_zero, Int.mul_zero, Int.add_zero] at m3 m4 g3 g4
  simp only [m3, m4, Option.bind_some]
  refine ⟨_, rfl, ?_⟩
  have n1 : ¬ (1 + 4 * (x.Regs.length : Int) < 0) := by omega
  have n2 : ¬ (1 + 4 * (x.Regs.length : Int) + 4 * x.Mem.length < 0) := by omega
  simp only [g1, Option.bind_some, decide_eq_false n1, Bool.false_eq_true, if_false, g2, decide_eq_false n2]
  simp only [List.range_zero, List.map_nil] at g3 g4 ⊢
  simp [g3, g4, n2]
theorem fin_FnExactStartPath (x : D.Program) (hx : fit_Program x) : ∃ n, laws_FnExactStartPath n x = some true := by
  refine ⟨fuel, ?_⟩
  unfold laws_FnExactStartPath
  obtain ⟨r1, h1, c1⟩ := szProgram_eq (m := 1048576) hx (by omega) (by omega)
  rw [h1]
  simp only [Option.bind_some]
  rcases c1 with c1 | ⟨c1, c1', s1⟩
  · rw [if_pos (by simpa using c1)]
  rw [if_neg (by simp; omega)]
  obtain ⟨s', t1, t2, t3⟩ := start_eq s1
  obtain ⟨k1, q1, m1, b1, b1'⟩ := markProgram_ok (x := x) (k := 1) (by omega) (by omega) s1
  obtain ⟨y, m4, m5⟩ := markPath_ok t3
  simp only [toProgram_eq s1, Option.bind_some, t1, t2, eqProgram_refl s1, eqPath_self t3, m1, m4, m5]
  have e1 : ¬ k1 < 0 := by omega
  have e2 : ¬ (1 + 4 * (s'.Regs.length : Int) + 4 * (s'.Mem.length : Int) < 0) := by omega
  simp [e1, e2]
end Go.Proofs.Ytknlknnihinmjaa
