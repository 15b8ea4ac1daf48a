/- Own library, part v: plain laws of the lifted loops. No program in sight. -/
import Derived.Test.YtdkfoghhjkjjlaaGLp
namespace Go.GL

theorem w64_id {x : Int} (h1 : -9223372036854775808 ≤ x) (h2 : x ≤ 9223372036854775807) : w64 x = x := by
  unfold w64; rw [IntKind.wrap_i64]; omega

theorem len_nat {α : Type} (l : List α) : len l = (l.length : Int) := rfl
theorem get?_nat {α : Type} {l : List α} {i : Nat} : get? l (i : Int) = l[i]? := by
  unfold get?; rw [if_pos (by omega)]; rfl
theorem set?_nat {α : Type} {l : List α} {i : Nat} {x : α} (h : i < l.length) : set? l (i : Int) x = some (l.set i x) := by
  unfold set?; rw [if_pos ⟨by omega, by simpa using h⟩]; rfl

/-- a loop whose index goes up to m -/
theorem iterN_up {σt ρt : Type} {B : σt → Option (σt ⊕ ρt)} {I : Nat → σt → Prop} {m : Nat} {r : ρt} (hs : ∀ k s, k < m → I k s → ∃ s', B s = some (.inl s') ∧ I (k + 1) s') (hf : ∀ s, I m s → B s = some (.inr r)) :
    ∀ (d k : Nat) (s : σt), k + d = m → I k s → ∀ n, d < n → iterN B n s = some r
  | 0, k, s, hk, hi, n, hn => by
    obtain ⟨n, rfl⟩ : ∃ j, n = j + 1 := ⟨n - 1, by omega⟩
    obtain rfl : k = m := by omega
    unfold iterN; rw [hf s hi]
  | d + 1, k, s, hk, hi, n, hn => by
    obtain ⟨n, rfl⟩ : ∃ j, n = j + 1 := ⟨n - 1, by omega⟩
    obtain ⟨s', h1, h2⟩ := hs k s (by omega) hi
    unfold iterN; rw [h1]
    exact iterN_up hs hf d (k + 1) s' (by omega) h2 n (by omega)

/-- two slices compared, element for element -/
theorem eq_loop {α : Type} [DecidableEq α] {p q : List α} (hl : p.length = q.length) (hb : p.length ≤ 9223372036854775807) : ∀ (d i : Nat), i + d = p.length → ∀ n, d < n →
    iterN (fun (s1 : Int) =>
      if (decide (s1 < (len p))) then
        (get? p s1).bind fun x1 =>
        (get? q s1).bind fun x2 =>
        if (x1 != x2) then
          some (.inr (.inr false))
        else
          some (.inl ((w64 (s1 + 1))))
      else
        some (.inr (.inl ()))) n (i : Int) = some (if p.drop i = q.drop i then (.inl () : Unit ⊕ Bool) else .inr false)
  | 0, i, hi, n, hn => by
    obtain ⟨n, rfl⟩ : ∃ j, n = j + 1 := ⟨n - 1, by omega⟩
    unfold iterN
    rw [if_neg (by rw [len_nat]; simp; omega)]
    simp [List.drop_of_length_le (show p.length ≤ i by omega), List.drop_of_length_le (show q.length ≤ i by omega)]
  | d + 1, i, hi, n, hn => by
    obtain ⟨n, rfl⟩ : ∃ j, n = j + 1 := ⟨n - 1, by omega⟩
    have hp : i < p.length := by omega
    have hq : i < q.length := by omega
    unfold iterN
    rw [if_pos (by rw [len_nat]; simp; omega), get?_nat, get?_nat, List.getElem?_eq_getElem hp, List.getElem?_eq_getElem hq]
    simp only [Option.bind_some]
    rw [List.drop_eq_getElem_cons hp, List.drop_eq_getElem_cons hq]
    by_cases h : p[i] = q[i]
    · rw [if_neg (by simp [h])]
      simp only
      rw [w64_id (by omega) (by omega), show ((i : Int) + 1) = ((i + 1 : Nat) : Int) by omega, eq_loop hl hb d (i + 1) (by omega) n (by omega)]
      simp only [List.cons.injEq, h, true_and]
    · rw [if_pos (by simp [h])]
      simp only [List.cons.injEq, h, false_and, if_false]

theorem eq_slice {α : Type} [DecidableEq α] {p q : List α} (hb : p.length ≤ 9223372036854775807) {n : Nat} (hn : p.length < n) :
  (if ((len p) != (len q)) then
    some false
  else
    (iterN (fun (s1 : Int) =>
      if (decide (s1 < (len p))) then
        (get? p s1).bind fun x1 =>
        (get? q s1).bind fun x2 =>
        if (x1 != x2) then
          some (.inr (.inr false))
        else
          some (.inl ((w64 (s1 + 1))))
      else
        some (.inr (.inl ()))
    ) n (0)).bind fun (rl1 : (Unit) ⊕ Bool) =>
    match rl1 with
    | .inl _ =>
      some true
    | .inr v => some v) = some (decide (p = q)) := by
  by_cases hl : p.length = q.length
  · rw [if_neg (by simp [len_nat, hl]), show (0 : Int) = ((0 : Nat) : Int) from rfl, eq_loop hl hb p.length 0 (by omega) n hn]
    by_cases h : p = q <;> simp [h]
  · rw [if_pos (by simp [len_nat]; omega)]
    have : p ≠ q := fun h => hl (by rw [h])
    simp [this]

theorem mk?_len {α β : Type} {l : List α} {z : β} (h : l.length ≤ room) : mk? (len l) z = some (List.replicate l.length z) := by
  unfold mk?; rw [len_nat, if_pos ⟨by omega, by simpa using h⟩]; rfl
end Go.GL

/-! loops that copy, mark and hold -/
namespace Go.GL
theorem copy_loop2 {α : Type} {l : List α} {z : α} (hb : l.length ≤ 9223372036854775807) {n : Nat} (hn : l.length < n) :
    iterN (fun (s1 : Int × (List α)) =>
    if (decide (s1.1 < (len l))) then
      (get? l s1.1).bind fun x2 =>
      (set? s1.2 s1.1 x2).bind fun x3 =>
      some (.inl ((w64 (s1.1 + 1)), x3))
    else
      some (.inr (s1.2))
  ) n (0, List.replicate l.length z) = some l := by
  refine iterN_up (I := fun k s => s = ((k : Int), l.take k ++ List.replicate (l.length - k) z)) (m := l.length) (fun k s hk hs => ?_) (fun s hs => ?_) l.length 0 _ (by omega) (by simp) n hn
  · subst hs
    refine ⟨_, ?_, rfl⟩
    simp only
    rw [if_pos (by rw [len_nat]; simp; omega), get?_nat, List.getElem?_eq_getElem hk]
    simp only [Option.bind_some]
    rw [set?_nat (by simp; omega)]
    simp only [Option.bind_some, Option.some.injEq, Sum.inl.injEq, Prod.mk.injEq]
    refine ⟨by rw [w64_id (by omega) (by omega)]; rfl, ?_⟩
    apply List.ext_getElem?
    intro i
    rw [List.getElem?_set]
    simp only [List.getElem?_append, List.length_take, List.length_append, List.length_replicate, List.getElem?_take, List.getElem?_replicate]
    grind
  · subst hs
    simp only
    rw [if_neg (by rw [len_nat]; simp)]
    simp

/-- what a loop has set so far -/
def pre {α : Type} (f : Nat → α) (p : List α) (i : Nat) : List α := (List.range i).map f ++ p.drop i
end Go.GL
namespace Go.GL
end Go.GL
