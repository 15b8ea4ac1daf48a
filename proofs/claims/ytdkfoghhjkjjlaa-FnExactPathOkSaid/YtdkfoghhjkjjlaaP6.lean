/- The plain laws of this claim: terms, as the program under test checks them. No program in sight. -/
import Derived.Test.YtdkfoghhjkjjlaaP5
namespace Go.Proofs.Ytdkfoghhjkjjlaa
open Go.GL
set_option linter.unusedSimpArgs false
set_option maxRecDepth 100000
theorem impl_name {n : Nat} {s : Str} (hl : s.bytes.length ≤ 1048576) (hn : s.bytes.length < n) : impl_IsName n s = some (nameB s) := by
  unfold impl_IsName
  by_cases hlen : 1 ≤ s.bytes.length ∧ s.bytes.length ≤ 8
  · rw [if_neg (by rw [len_nat]; simp; omega)]
    obtain ⟨r, g1, g2⟩ := iter_all (l := s.bytes) (n := n) (σ := Unit) (ρ := Unit ⊕ Bool) (B := fun (s1 : Int) =>
      if (decide (s1 < (len s.bytes))) then
        (sidx? s s1).bind fun x1 =>
        (if (decide (x1 ≥ 97)) then (sidx? s s1) else some default).bind fun x2 =>
        (sidx? s s1).bind fun x3 =>
        (if (decide (x3 ≥ 48)) then (sidx? s s1) else some default).bind fun x4 =>
        if (!((decide (x1 ≥ 97)) && (decide (x2 ≤ 122)))) then
          if ((decide (x3 ≥ 48)) && (decide (x4 ≤ 57))) then
            if (!(decide (s1 > 0))) then
              some (.inr (.inr false))
            else
              some (.inl ((w64 (s1 + 1))))
          else
            if (!false) then
              some (.inr (.inr false))
            else
              some (.inl ((w64 (s1 + 1))))
        else
          if false then
            some (.inr (.inr false))
          else
            some (.inl ((w64 (s1 + 1))))
      else
        some (.inr (.inl ()))) (fun k _ => (k : Int)) (fun ys _ => okF (s.bytes.length - ys.length) ys = okF 0 s.bytes) (fun r => r = if okF 0 s.bytes then (.inl () : Unit ⊕ Bool) else .inr false)
      (fun k x xs a hk' hx hlen hi => by
        have e1 : s.bytes.length - (x :: xs).length = k := by omega
        have e2 : s.bytes.length - xs.length = k + 1 := by simp at hlen; omega
        rw [e1] at hi
        rw [e2]
        have hb := x.toNat_lt
        rw [← hi]
        simp only [sidx_nat hx, Option.bind_some]
        rw [if_pos (by rw [len_nat]; simp; omega), w64_id (by omega) (by omega)]
        have hd : ∀ c : Bool, ∃ y : Int, (if c = true then (some (x.toNat : Int)) else some default) = some y ∧ (c = true → y = x.toNat) := fun c => by
          cases c
          · exact ⟨_, rfl, fun h => by cases h⟩
          · exact ⟨_, rfl, fun _ => rfl⟩
        obtain ⟨y2, h2, i2⟩ := hd (decide ((x.toNat : Int) ≥ 97))
        obtain ⟨y4, h4, i4⟩ := hd (decide ((x.toNat : Int) ≥ 48))
        rw [h2, h4]
        simp only [Option.bind_some]
        have j2 : (decide ((x.toNat : Int) ≥ 97) && decide (y2 ≤ 122)) = decide (97 ≤ x.toNat ∧ x.toNat ≤ 122) := by
          by_cases c : (x.toNat : Int) ≥ 97
          · rw [i2 (by simpa using c), Bool.eq_iff_iff]; simp only [Bool.and_eq_true, decide_eq_true_eq]; omega
          · rw [Bool.eq_iff_iff]; simp only [Bool.and_eq_true, decide_eq_true_eq]; omega
        have j4 : (decide ((x.toNat : Int) ≥ 48) && decide (y4 ≤ 57)) = decide (48 ≤ x.toNat ∧ x.toNat ≤ 57) := by
          by_cases c : (x.toNat : Int) ≥ 48
          · rw [i4 (by simpa using c), Bool.eq_iff_iff]; simp only [Bool.and_eq_true, decide_eq_true_eq]; omega
          · rw [Bool.eq_iff_iff]; simp only [Bool.and_eq_true, decide_eq_true_eq]; omega
        rw [j2, j4, okF_cons]
        by_cases c1 : 97 ≤ x.toNat ∧ x.toNat ≤ 122
        · exact .inl ⟨(), by simp [c1], by simp [c1]⟩
        · by_cases c3 : 48 ≤ x.toNat ∧ x.toNat ≤ 57
          · by_cases c2 : k = 0
            · subst c2
              exact .inr ⟨.inr false, by simp [c1, c3], by simp [c1]⟩
            · have : (0 : Int) < (k : Int) := by omega
              exact .inl ⟨(), by simp [c1, c3, this, c2], by simp [c1, c2, c3]⟩
          · exact .inr ⟨.inr false, by simp [c1, c3], by simp [c1, c3]⟩)
      (fun a hi => by
        rw [if_neg (by rw [len_nat]; simp)]
        refine ⟨_, rfl, ?_⟩
        rw [← hi]; simp [okF]) (a := ()) (by simp) hn
    rw [show ((0 : Nat) : Int) = 0 from rfl] at g1
    rw [g1, g2]
    unfold nameB
    rw [decide_eq_true hlen]
    cases okF 0 s.bytes <;> rfl
  · rw [if_pos (by rw [len_nat]; simp; omega)]
    unfold nameB
    rw [decide_eq_false hlen]; simp

/-- how many kids an operation has -/
def kc (o : Int) : Int := (impl_kidCount o).getD 0
theorem kid_eq (o : Int) : impl_kidCount o = some (kc o) := by
  unfold kc
  have : ∃ k, impl_kidCount o = some k := by
    unfold impl_kidCount
    split
    · exact ⟨_, rfl⟩
    · split
      · exact ⟨_, rfl⟩
      · split
        · exact ⟨_, rfl⟩
        · split
          · exact ⟨_, rfl⟩
          · exact ⟨_, rfl⟩
  obtain ⟨k, h⟩ := this
  rw [h]; rfl
theorem width_eq (w : Int) : impl_isWidth w = some (decide (1 ≤ w ∧ w ≤ 16)) := by simp [impl_isWidth]
/-- the form of a node, as both have it -/
theorem loc_fit {t : D.Term} (hw : 1 ≤ t.W ∧ t.W ≤ 16) (hk : ∀ x ∈ t.Kids, 1 ≤ x.W ∧ x.W ≤ 16) (hl : (t.Kids.length : Int) = kc t.Op) :
    ∃ f, impl_widthsFit t = some f ∧ shB t.Op t.W t.N t.Name (t.Kids.map (·.W)) = (f && (t.Op != 0 || wordB t.W t.N) && (t.Op != 22 || nameB t.Name)) := by
  obtain ⟨op, w, m, nm, ks⟩ := t
  simp only at hw hk hl ⊢
  unfold impl_widthsFit shB
  simp only
  have g0 : ∀ (x : D.Term) (l : List D.Term), get? (x :: l) 0 = some x := fun _ _ => rfl
  have g1 : ∀ (x y : D.Term) (l : List D.Term), get? (x :: y :: l) 1 = some y := fun _ _ _ => rfl
  have g2 : ∀ (x y z : D.Term) (l : List D.Term), get? (x :: y :: z :: l) 2 = some z := fun _ _ _ _ => rfl
  have l0 : ks.length = 0 → ks = [] := fun h => List.length_eq_zero_iff.1 h
  have l1 : ks.length = 1 → ∃ a, ks = [a] := fun h => List.length_eq_one_iff.1 h
  have l2 : ks.length = 2 → ∃ a b, ks = [a, b] := fun h => by
    rcases ks with _ | ⟨a, _ | ⟨b, _ | ⟨c, l⟩⟩⟩ <;> simp at h
    exact ⟨_, _, rfl⟩
  have l3 : ks.length = 3 → ∃ a b c, ks = [a, b, c] := fun h => by
    rcases ks with _ | ⟨a, _ | ⟨b, _ | ⟨c, _ | ⟨d, l⟩⟩⟩⟩ <;> simp at h
    exact ⟨_, _, _, rfl⟩
  unfold kc impl_kidCount at hl
  by_cases o0 : op = 0
  · subst o0
    obtain rfl := l0 (by simp at hl; simp [hl])
    exact ⟨true, by simp, by simp⟩
  by_cases o1 : op = 22
  · subst o1
    obtain rfl := l0 (by simp at hl; simp [hl])
    exact ⟨true, by simp, by simp⟩
  have q0 : (op != 0) = true := by simpa using o0
  have q1 : (op != 22) = true := by simpa using o1
  by_cases o2 : 1 ≤ op ∧ op ≤ 2
  · have : op = 1 ∨ op = 2 := by omega
    obtain ⟨a, rfl⟩ := l1 (by rcases this with rfl | rfl <;> simp at hl <;> omega)
    refine ⟨a.W == w, ?_, ?_⟩
    · rcases this with rfl | rfl <;> simp [g0]
    · simp [o0, o1, o2, q0, q1]
  by_cases o3 : 3 ≤ op ∧ op ≤ 13
  · obtain ⟨a, b, rfl⟩ := l2 (by
      have h1 : ¬ (op = 1) := by omega
      have h2 : ¬ (op = 2) := by omega
      have h3 : ¬ (op = 19) := by omega
      have h4 : ¬ (op = 20) := by omega
      have h5 : ¬ (op = 21) := by omega
      have h6 : 3 ≤ op ∧ op ≤ 16 := by omega
      simp [o0, o1, h1, h2, h3, h4, h5, h6] at hl; omega)
    refine ⟨a.W == w && b.W == w, ?_, ?_⟩
    · have h1 : ¬ (op = 1) := by omega
      have h2 : ¬ (op = 2) := by omega
      by_cases c : a.W = w
      · simp [g0, g1, o0, o1, h1, h2, o3, c]
      · have c' : (a.W == w) = false := by simpa using c
        simp [g0, g1, o0, o1, h1, h2, o3, c, c']
    · simp [o0, o1, o2, o3, q0, q1]
  by_cases o4 : 14 ≤ op ∧ op ≤ 16
  · obtain ⟨a, b, rfl⟩ := l2 (by
      have h1 : ¬ (op = 1) := by omega
      have h2 : ¬ (op = 2) := by omega
      have h3 : ¬ (op = 19) := by omega
      have h4 : ¬ (op = 20) := by omega
      have h5 : ¬ (op = 21) := by omega
      have h6 : 3 ≤ op ∧ op ≤ 16 := by omega
      simp [o0, o1, h1, h2, h3, h4, h5, h6] at hl; omega)
    refine ⟨a.W == b.W && w == 1, ?_, ?_⟩
    · have h1 : ¬ (op = 1) := by omega
      have h2 : ¬ (op = 2) := by omega
      simp [g0, g1, o0, o1, h1, h2, o3, o4]
    · simp [o0, o1, o2, o3, o4, q0, q1]
  by_cases o5 : op = 17
  · subst o5
    obtain ⟨a, b, c, rfl⟩ := l3 (by simp at hl; omega)
    refine ⟨a.W == 1 && b.W == w && c.W == w, ?_, ?_⟩
    · by_cases c1 : a.W = 1
      · by_cases c2 : b.W = w
        · simp [g0, g1, g2, c1, c2]
        · have c2' : (b.W == w) = false := by simpa using c2
          simp [g0, g1, g2, c1, c2, c2']
      · have c1' : (a.W == 1) = false := by simpa using c1
        simp [g0, g1, g2, c1, c1']
    · simp
  by_cases o6 : op = 18
  · subst o6
    obtain ⟨a, b, rfl⟩ := l2 (by simp at hl; omega)
    have ha := hk a (by simp)
    have hb := hk b (by simp)
    have e18 : w64 (a.W + b.W) = a.W + b.W := w64_id (by omega) (by omega)
    exact ⟨a.W + b.W == w, by simp [g0, g1, e18], by simp⟩
  by_cases o7 : op = 19
  · subst o7
    obtain ⟨a, rfl⟩ := l1 (by simp at hl; omega)
    have ha := hk a (by simp)
    have e19 : w64 (a.W - w) = a.W - w := w64_id (by omega) (by omega)
    refine ⟨decide (0 ≤ m) && decide (m ≤ a.W - w), ?_, ?_⟩
    · by_cases c : 0 ≤ m
      · simp [g0, e19, c]
      · simp [g0, e19, c]
    · simp only [List.map_cons, List.map_nil]
      rw [Bool.eq_iff_iff]
      simp
      omega
  by_cases o8 : 20 ≤ op ∧ op ≤ 21
  · have : op = 20 ∨ op = 21 := by omega
    obtain ⟨a, rfl⟩ := l1 (by rcases this with rfl | rfl <;> simp at hl <;> omega)
    refine ⟨decide (a.W ≤ w), ?_, ?_⟩
    · rcases this with rfl | rfl <;> simp [g0]
    · rcases this with rfl | rfl <;> simp
  exfalso
  have h1 : ¬ (op = 1) := by omega
  have h2 : ¬ (op = 2) := by omega
  have h4 : ¬ (op = 20) := by omega
  have h5 : ¬ (op = 21) := by omega
  have h6 : ¬ (3 ≤ op ∧ op ≤ 16) := by omega
  simp [o0, o1, h1, h2, o7, h4, h5, h6, o6, o5] at hl
theorem loc_len {t : D.Term} (hl : ¬ (t.Kids.length : Int) = kc t.Op) : shB t.Op t.W t.N t.Name (t.Kids.map (·.W)) = false := by
  obtain ⟨op, w, m, nm, ks⟩ := t
  simp only at hl ⊢
  unfold shB
  unfold kc impl_kidCount at hl
  have hks : ks = [] ∨ (∃ a : D.Term, ks = [a]) ∨ (∃ a b : D.Term, ks = [a, b]) ∨ (∃ a b c : D.Term, ks = [a, b, c]) ∨ ∃ (a b c d : D.Term) (l : List D.Term), ks = a :: b :: c :: d :: l := by
    rcases ks with _ | ⟨a, _ | ⟨b, _ | ⟨c, _ | ⟨d, l⟩⟩⟩⟩
    · exact .inl rfl
    · exact .inr (.inl ⟨a, rfl⟩)
    · exact .inr (.inr (.inl ⟨a, b, rfl⟩))
    · exact .inr (.inr (.inr (.inl ⟨a, b, c, rfl⟩)))
    · exact .inr (.inr (.inr (.inr ⟨a, b, c, d, l, rfl⟩)))
  by_cases o0 : op = 0
  · subst o0
    rcases hks with rfl | ⟨a, rfl⟩ | ⟨a, b, rfl⟩ | ⟨a, b, c, rfl⟩ | ⟨a, b, c, d, l, rfl⟩ <;> simp at hl ⊢
  by_cases o1 : op = 22
  · subst o1
    rcases hks with rfl | ⟨a, rfl⟩ | ⟨a, b, rfl⟩ | ⟨a, b, c, rfl⟩ | ⟨a, b, c, d, l, rfl⟩ <;> simp at hl ⊢
  by_cases o2 : 1 ≤ op ∧ op ≤ 2
  · have : op = 1 ∨ op = 2 := by omega
    rcases this with rfl | rfl <;> rcases hks with rfl | ⟨a, rfl⟩ | ⟨a, b, rfl⟩ | ⟨a, b, c, rfl⟩ | ⟨a, b, c, d, l, rfl⟩ <;> simp at hl ⊢
  have h1 : ¬ (op = 1) := by omega
  have h2 : ¬ (op = 2) := by omega
  by_cases o3 : 3 ≤ op ∧ op ≤ 13
  · have h3 : ¬ (op = 19) := by omega
    have h4 : ¬ (op = 20) := by omega
    have h5 : ¬ (op = 21) := by omega
    have h6 : 3 ≤ op ∧ op ≤ 16 := by omega
    simp [o0, o1, h1, h2, h3, h4, h5, h6] at hl
    rcases hks with rfl | ⟨a, rfl⟩ | ⟨a, b, rfl⟩ | ⟨a, b, c, rfl⟩ | ⟨a, b, c, d, l, rfl⟩ <;> simp [o0, o1, o2, o3] at hl ⊢
  by_cases o4 : 14 ≤ op ∧ op ≤ 16
  · have h3 : ¬ (op = 19) := by omega
    have h4 : ¬ (op = 20) := by omega
    have h5 : ¬ (op = 21) := by omega
    have h6 : 3 ≤ op ∧ op ≤ 16 := by omega
    simp [o0, o1, h1, h2, h3, h4, h5, h6] at hl
    rcases hks with rfl | ⟨a, rfl⟩ | ⟨a, b, rfl⟩ | ⟨a, b, c, rfl⟩ | ⟨a, b, c, d, l, rfl⟩ <;> simp [o0, o1, o2, o3, o4] at hl ⊢
  by_cases o5 : op = 17
  · subst o5
    rcases hks with rfl | ⟨a, rfl⟩ | ⟨a, b, rfl⟩ | ⟨a, b, c, rfl⟩ | ⟨a, b, c, d, l, rfl⟩ <;> simp at hl ⊢
  by_cases o6 : op = 18
  · subst o6
    rcases hks with rfl | ⟨a, rfl⟩ | ⟨a, b, rfl⟩ | ⟨a, b, c, rfl⟩ | ⟨a, b, c, d, l, rfl⟩ <;> simp at hl ⊢
  by_cases o7 : op = 19
  · subst o7
    rcases hks with rfl | ⟨a, rfl⟩ | ⟨a, b, rfl⟩ | ⟨a, b, c, rfl⟩ | ⟨a, b, c, d, l, rfl⟩ <;> simp at hl ⊢
  by_cases o8 : 20 ≤ op ∧ op ≤ 21
  · have : op = 20 ∨ op = 21 := by omega
    rcases this with rfl | rfl <;> rcases hks with rfl | ⟨a, rfl⟩ | ⟨a, b, rfl⟩ | ⟨a, b, c, rfl⟩ | ⟨a, b, c, d, l, rfl⟩ <;> simp at hl ⊢
  simp [o0, o1, o2, o3, o4, o5, o6, o7, o8]
end Go.Proofs.Ytdkfoghhjkjjlaa
