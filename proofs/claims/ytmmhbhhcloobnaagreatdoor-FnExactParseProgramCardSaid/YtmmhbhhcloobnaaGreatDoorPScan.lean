/- Loops over a text and over a list, as folds. No program in sight. -/
import Derived.Test.YtmmhbhhcloobnaaGreatDoorPInt
namespace Go.Proofs.YtmmhbhhcloobnaaGreatDoor
open Go.GL
def foldO {α β : Type} (act : α → β → Option α) : List β → α → Option α
  | [], a => some a
  | b :: l, a => (act a b).bind (foldO act l)
theorem foldO_map {α β : Type} (g : β → α) : ∀ (l : List β) (out : List α), foldO (fun out x => some (out ++ [g x])) l out = some (out ++ l.map g) := by
  intro l
  induction l with
  | nil => intro out; simp [foldO]
  | cons x l ih => intro out; rw [foldO, Option.bind_some, ih]; simp
theorem foldO_ind {α β : Type} {act : α → β → Option α} (J : α → Prop) : ∀ (l : List β) (a r : α), (∀ a b a', b ∈ l → J a → act a b = some a' → J a') → J a → foldO act l a = some r → J r := by
  intro l
  induction l with
  | nil => intro a r _ h e; rw [foldO] at e; obtain rfl := Option.some.inj e; exact h
  | cons b l ih =>
    intro a r hJ h e
    rw [foldO] at e
    cases ha : act a b with
    | none => rw [ha] at e; cases e
    | some a' =>
      rw [ha, Option.bind_some] at e
      exact ih a' r (fun a b a' hb => hJ a b a' (List.mem_cons_of_mem _ hb)) (hJ a b a' List.mem_cons_self h ha) e
/-- a loop over the places of a text that does something at every c and at the end -/
theorem scan_loop {α σt ρt : Type} {B : σt → Option (σt ⊕ ρt)} {c : UInt8} {s : Str} {enc : Nat → Nat → α → σt} {act : α → Str → Option α} {I : Nat → α → Prop} {fin : α → ρt} {rej : ρt}
    (hskip : ∀ f k a, f ≤ k → (h : k < s.bytes.length) → s.bytes[k] ≠ c → I k a → B (enc f k a) = some (.inl (enc f (k + 1) a)) ∧ I (k + 1) a)
    (hact : ∀ f k a, f ≤ k → k ≤ s.bytes.length → (∀ h : k < s.bytes.length, s.bytes[k] = c) → I k a →
      (∃ a', act a ⟨(s.bytes.take k).drop f⟩ = some a' ∧ B (enc f k a) = some (.inl (enc (k + 1) (k + 1) a')) ∧ I (k + 1) a') ∨ (act a ⟨(s.bytes.take k).drop f⟩ = none ∧ B (enc f k a) = some (.inr rej)))
    (hexit : ∀ f a, I (s.bytes.length + 1) a → B (enc f (s.bytes.length + 1) a) = some (.inr (fin a))) {a0 : α} (h0 : I 0 a0) {n : Nat} (hn : s.bytes.length + 1 < n) :
    iterN B n (enc 0 0 a0) = some (match foldO act ((cutS c [] s.bytes).map Str.mk) a0 with | some a => fin a | none => rej) := by
  have key : ∀ (m f k : Nat) (a : α), m = s.bytes.length + 1 - k → f ≤ k → k ≤ s.bytes.length → I k a → ∀ n, m < n →
      iterN B n (enc f k a) = some (match foldO act ((cutS c ((s.bytes.take k).drop f) (s.bytes.drop k)).map Str.mk) a with | some a => fin a | none => rej) := by
    intro m
    induction m with
    | zero => intro f k a hm _ hk; omega
    | succ m ih =>
      intro f k a hm hf hk hI n hn
      obtain ⟨n, rfl⟩ : ∃ n', n = n' + 1 := ⟨n - 1, by omega⟩
      by_cases hend : k = s.bytes.length
      · have hdr : s.bytes.drop k = [] := List.drop_of_length_le (by omega)
        rw [hdr, cutS]
        simp only [List.map_cons, List.map_nil, foldO]
        rcases hact f k a hf hk (fun h => absurd h (by omega)) hI with ⟨a', h1, h2, h3⟩ | ⟨h1, h2⟩
        · rw [iterN, h2, h1]
          simp only [Option.bind_some]
          obtain ⟨n, rfl⟩ : ∃ n', n = n' + 1 := ⟨n - 1, by omega⟩
          rw [iterN, hend, hexit _ _ (by rw [← hend]; exact h3)]
        · rw [iterN, h2, h1]
          rfl
      · have hlt : k < s.bytes.length := by omega
        have hdr : s.bytes.drop k = s.bytes[k] :: s.bytes.drop (k + 1) := by rw [← List.getElem_cons_drop hlt]
        by_cases hb : s.bytes[k] = c
        · rw [hdr, cutS, if_pos hb]
          simp only [List.map_cons, foldO]
          rcases hact f k a hf hk (fun _ => hb) hI with ⟨a', h1, h2, h3⟩ | ⟨h1, h2⟩
          · have := ih (k + 1) (k + 1) a' (by omega) (Nat.le_refl _) (by omega) h3 n (by omega)
            rw [List.drop_of_length_le (by rw [List.length_take]; omega)] at this
            rw [iterN, h2, h1]
            simp only [Option.bind_some]
            exact this
          · rw [iterN, h2, h1]
            rfl
        · obtain ⟨h2, h3⟩ := hskip f k a hf hlt hb hI
          have := ih f (k + 1) a (by omega) (by omega) (by omega) h3 n (by omega)
          rw [take_part hf hlt] at this
          rw [iterN, h2, hdr, cutS, if_neg hb]
          exact this
  have := key (s.bytes.length + 1) 0 0 a0 (by omega) (Nat.le_refl _) (by omega) h0 n hn
  simpa using this
/-- a loop over a list -/
theorem list_loop {α β σt ρt : Type} {B : σt → Option (σt ⊕ ρt)} {l : List β} {enc : Nat → α → σt} {act : α → β → Option α} {I : Nat → α → Prop} {fin : α → ρt} {rej : ρt}
    (hact : ∀ k a, (h : k < l.length) → I k a → (∃ a', act a l[k] = some a' ∧ B (enc k a) = some (.inl (enc (k + 1) a')) ∧ I (k + 1) a') ∨ (act a l[k] = none ∧ B (enc k a) = some (.inr rej)))
    (hexit : ∀ a, I l.length a → B (enc l.length a) = some (.inr (fin a))) {a0 : α} (h0 : I 0 a0) {n : Nat} (hn : l.length < n) :
    iterN B n (enc 0 a0) = some (match foldO act l a0 with | some a => fin a | none => rej) := by
  have key : ∀ (m k : Nat) (a : α), m = l.length - k → k ≤ l.length → I k a → ∀ n, m < n →
      iterN B n (enc k a) = some (match foldO act (l.drop k) a with | some a => fin a | none => rej) := by
    intro m
    induction m with
    | zero =>
      intro k a hm hk hI n hn
      obtain ⟨n, rfl⟩ : ∃ n', n = n' + 1 := ⟨n - 1, by omega⟩
      have : k = l.length := by omega
      subst this
      rw [iterN, hexit a hI, List.drop_of_length_le (Nat.le_refl _)]
      rfl
    | succ m ih =>
      intro k a hm hk hI n hn
      obtain ⟨n, rfl⟩ : ∃ n', n = n' + 1 := ⟨n - 1, by omega⟩
      have hlt : k < l.length := by omega
      have hdr : l.drop k = l[k] :: l.drop (k + 1) := by rw [← List.getElem_cons_drop hlt]
      rw [hdr]
      simp only [foldO]
      rcases hact k a hlt hI with ⟨a', h1, h2, h3⟩ | ⟨h1, h2⟩
      · rw [iterN, h2, h1]
        exact ih (k + 1) a' (by omega) (by omega) h3 n (by omega)
      · rw [iterN, h2, h1]
        rfl
  have := key l.length 0 a0 (by omega) (by omega) h0 n hn
  simpa using this
/-! ### several numbers -/
def actI (out : List Int) (p : Str) : Option (List Int) := if (parseN p).2 then some (out ++ [(parseN p).1]) else none
def pInts (s : Str) : List Int × Bool :=
  if s = ⟨[]⟩ then ([], true) else match foldO actI ((cutS 32 [] s.bytes).map Str.mk) [] with | some l => (l, true) | none => ([], false)
theorem scut_eq {s : Str} {f k : Nat} (h1 : f ≤ k) (h2 : k ≤ s.bytes.length) : scut? s (f : Int) (k : Int) = some ⟨(s.bytes.take k).drop f⟩ := by
  unfold scut?
  rw [if_pos ⟨by omega, by omega, by omega⟩]
  simp
theorem spec_pints {s : Str} (hs : s.bytes.length ≤ 1048576) : spec_ParseInts fuel s = some (pInts s) := by
  unfold spec_ParseInts pInts
  by_cases h0 : s = ⟨[]⟩
  · subst h0; rw [if_pos rfl]; rfl
  rw [if_neg h0]
  have hpos : 0 < s.bytes.length := by
    rcases Nat.eq_zero_or_pos s.bytes.length with h | h
    · obtain ⟨b⟩ := s
      simp only at h
      rw [List.eq_nil_of_length_eq_zero h] at h0
      exact absurd rfl h0
    · exact h
  have cp : decide (len s.bytes > 0) = true := by rw [len_nat]; exact decide_eq_true (by omega)
  have hfu : fuel = 1048580 := rfl
  have := scan_loop (B := fun (s1 : Int × Int × (List Int)) =>
    if ((decide (s1.2.1 ≤ (len s.bytes))) && (decide ((len s.bytes) > 0))) then
      (if (s1.2.1 == (len s.bytes)) then some default else (sidx? s s1.2.1)).bind fun x1 =>
      if ((s1.2.1 == (len s.bytes)) || (x1 == 32)) then
        (scut? s s1.1 s1.2.1).bind fun x2 =>
        (spec_ParseInt fuel x2).bind fun x3 =>
        if (!x3.2) then
          some (.inr (.inr (([] : List Int), false)))
        else
          (app? s1.2.2 ([x3.1] : List Int)).bind fun x4 =>
          some (.inl ((w64 (s1.2.1 + 1)), (w64 (s1.2.1 + 1)), x4))
      else
        some (.inl (s1.1, (w64 (s1.2.1 + 1)), s1.2.2))
    else
      some (.inr (.inl (s1.2.2) : (List Int) ⊕ ((List Int) × Bool)))) (c := 32) (s := s) (enc := fun f k a => ((f : Int), (k : Int), a)) (act := actI) (I := fun k a => a.length ≤ k) (fin := fun a => .inl a) (rej := .inr ([], false))
    (by
      intro f k a hf hk hb hI
      have c1 : decide ((k : Int) ≤ len s.bytes) = true := by rw [len_nat]; exact decide_eq_true (by omega)
      have c2 : ((k : Int) == len s.bytes) = false := by rw [len_nat]; simp; omega
      have c3 := sidx_nat (s := s) hk
      have c4 : (((s.bytes[k].toNat : Int) == 32) : Bool) = false := by rw [b32]; exact decide_eq_false hb
      have w1 : w64 ((k : Int) + 1) = ((k + 1 : Nat) : Int) := by rw [w64_id (by omega) (by omega)]; omega
      exact ⟨by simp only [c1, cp, Bool.and_self, if_true, c2, Bool.false_eq_true, if_false, c3, Option.bind_some, c4, Bool.or_self, w1], by omega⟩)
    (by
      intro f k a hf hk hb hI
      have c1 : decide ((k : Int) ≤ len s.bytes) = true := by rw [len_nat]; exact decide_eq_true (by omega)
      have c5 : ∃ x1, (if ((k : Int) == len s.bytes) then some default else (sidx? s (k : Int))) = some x1 ∧ (((k : Int) == len s.bytes) || (x1 == 32)) = true := by
        by_cases he : k = s.bytes.length
        · have c2 : ((k : Int) == len s.bytes) = true := by rw [len_nat]; simp [he]
          exact ⟨_, by rw [c2]; rfl, by rw [c2]; rfl⟩
        · have c2 : ((k : Int) == len s.bytes) = false := by rw [len_nat]; simp; omega
          have hlt : k < s.bytes.length := by omega
          refine ⟨_, by rw [c2]; exact sidx_nat (s := s) hlt, ?_⟩
          rw [b32, decide_eq_true (hb hlt), Bool.or_true]
      obtain ⟨x1, c6, c7⟩ := c5
      have c8 := scut_eq (s := s) hf hk
      have c9 := spec_int (s := ⟨(s.bytes.take k).drop f⟩) (by simp only [List.length_drop, List.length_take]; omega)
      have w1 : w64 ((k : Int) + 1) = ((k + 1 : Nat) : Int) := by rw [w64_id (by omega) (by omega)]; omega
      simp only [c1, cp, Bool.and_self, if_true, c6, Option.bind_some, c7, c8, c9, w1, actI]
      generalize parseN ⟨(s.bytes.take k).drop f⟩ = r
      obtain ⟨v, b⟩ := r
      cases b with
      | false => exact .inr ⟨by simp, by simp⟩
      | true => exact .inl ⟨a ++ [v], by simp, by simp [app_one (l := a) (x := v) (by omega)], by simp; omega⟩)
    (by
      intro f a _
      have c1 : decide ((((s.bytes.length + 1 : Nat)) : Int) ≤ len s.bytes) = false := by rw [len_nat]; exact decide_eq_false (by omega)
      simp only [c1, Bool.false_and, Bool.false_eq_true, if_false]) (a0 := []) (by simp) (n := fuel) (by omega)
  have h2 : iterN _ fuel ((0 : Int), (0 : Int), ([] : List Int)) = _ := this
  rw [h2]
  cases foldO actI ((cutS 32 [] s.bytes).map Str.mk) [] with
  | none => rfl
  | some l => rfl
theorem impl_pints {s : Str} (hs : s.bytes.length ≤ 1048576) : impl_ParseInts fuel s = some (pInts s) := by
  unfold impl_ParseInts pInts
  by_cases h0 : s = ⟨[]⟩
  · subst h0; rw [if_pos rfl, eqb_self]; rfl
  rw [if_neg h0, eqb_ne h0]
  simp only [Bool.false_eq_true, if_false]
  rw [split_eq (by omega), Option.bind_some]
  have hfu : fuel = 1048580 := rfl
  have hlen := cut_cnt 32 s.bytes []
  have hel : ∀ x ∈ (cutS 32 [] s.bytes).map Str.mk, x.bytes.length ≤ 1048576 := by
    intro x hx
    obtain ⟨b, hb, rfl⟩ := List.mem_map.1 hx
    have := cut_len 32 s.bytes [] b hb
    simp at this ⊢
    omega
  have hl2 : ((cutS 32 [] s.bytes).map Str.mk).length ≤ 1048577 := by rw [List.length_map]; omega
  generalize (cutS 32 [] s.bytes).map Str.mk = l at hel hl2
  have := list_loop (B := fun (s1 : Int × (List Int)) =>
      if (decide (s1.1 < (len l))) then
        (get? l s1.1).bind fun x2 =>
        (impl_ParseInt x2).bind fun x3 =>
        if (!x3.2) then
          some (.inr (.inr (([] : List Int), false)))
        else
          (app? s1.2 ([x3.1] : List Int)).bind fun x4 =>
          some (.inl ((w64 (s1.1 + 1)), x4))
      else
        some (.inr (.inl (s1.2) : (List Int) ⊕ ((List Int) × Bool)))) (l := l) (enc := fun k a => ((k : Int), a)) (act := actI) (I := fun k a => a.length ≤ k) (fin := fun a => .inl a) (rej := .inr ([], false))
    (by
      intro k a hk hI
      have c1 : decide ((k : Int) < len l) = true := by rw [len_nat]; exact decide_eq_true (by omega)
      have c2 : get? l (k : Int) = some l[k] := by rw [get?_nat, List.getElem?_eq_getElem hk]
      have c3 := impl_int (s := l[k]) (by have := hel l[k] (List.getElem_mem hk); omega)
      have w1 : w64 ((k : Int) + 1) = ((k + 1 : Nat) : Int) := by rw [w64_id (by omega) (by omega)]; omega
      simp only [c1, if_true, c2, Option.bind_some, c3, w1, actI]
      generalize parseN l[k] = r
      obtain ⟨v, b⟩ := r
      cases b with
      | false => exact .inr ⟨by simp, by simp⟩
      | true => exact .inl ⟨a ++ [v], by simp, by simp [app_one (l := a) (x := v) (by omega)], by simp; omega⟩)
    (by
      intro a _
      have c1 : decide ((l.length : Int) < len l) = false := by rw [len_nat]; exact decide_eq_false (by omega)
      simp only [c1, Bool.false_eq_true, if_false]) (a0 := []) (by simp) (n := fuel) (by omega)
  have h2 : iterN _ fuel ((0 : Int), ([] : List Int)) = _ := this
  rw [h2]
  cases foldO actI l [] with
  | none => rfl
  | some l => rfl
end Go.Proofs.YtmmhbhhcloobnaaGreatDoor
