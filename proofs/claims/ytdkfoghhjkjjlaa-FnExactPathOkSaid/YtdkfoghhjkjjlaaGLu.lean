/- Own library, part u: the arguments of a law, opened: what reads as data is a value of the Lean type. -/
import Derived.Test.YtdkfoghhjkjjlaaGLt
import Derived.ChangeArms
import Derived.ChangeOld
import Derived.WideShapes
namespace Go.GL
open Go.RowKit

/-- what reads as data at type t is a Lean value that fits -/
def Opens (P : Program) (t : TypeId) (α : Type) [Rep α] (fit : α → Prop) : Prop :=
  ∀ (H : Type) (enc : TypeId × Value → H) (w : World) (base : Nat) (spare : Nat → Bool) (held : Bool) (fuel : Nat) (cs : List Value) (x : DataW H × List MemPlace),
    DataW.trod enc P w base spare held fuel t cs = some x → ∃ a : α, Rep.ok w (fun k => k < w.heap.size) cs a ∧ fit a


section
variable {P : Program} {t e : TypeId}
theorem opens_int (ht : P.underlying t = some (.int .i64)) : Opens P t Int fitInt := by
  intro H enc w base spare held fuel cs x h
  obtain ⟨n, rfl, -, hn⟩ := DataW.trod_int ht h
  refine ⟨n, rfl, ?_⟩
  simp only [Lit.wf, Bool.and_eq_true, decide_eq_true_eq] at hn
  exact hn
theorem opens_str (ht : P.underlying t = some .string) : Opens P t Str fun s => s.bytes.length ≤ 9223372036854775807 := by
  intro H enc w base spare held fuel cs x h
  obtain ⟨⟨⟨l⟩⟩, rfl, -, hs⟩ := DataW.trod_string ht h
  exact ⟨⟨l⟩, rfl, hs⟩

theorem list_of {α : Type} {p : Nat → α → Prop} : ∀ n, (∀ i, i < n → ∃ y, p i y) → ∃ l : List α, l.length = n ∧ ∀ i y, l[i]? = some y → p i y
  | 0, _ => ⟨[], rfl, by simp⟩
  | n + 1, h => by
    obtain ⟨l, hl, hp⟩ := list_of n fun i hi => h i (by omega)
    obtain ⟨y, hy⟩ := h n (by omega)
    refine ⟨l ++ [y], by simp [hl], fun i z hz => ?_⟩
    rw [List.getElem?_append] at hz
    split at hz
    · exact hp i z hz
    · have : i = n := by
        rcases Nat.lt_or_ge (i - l.length) 1 with h1 | h1
        · omega
        · rw [List.getElem?_eq_none (by simpa using h1)] at hz; cases hz
      subst this
      rw [hl, Nat.sub_self] at hz
      simp only [List.getElem?_cons_zero, Option.some.injEq] at hz
      subst hz; exact hy

theorem opens_list {α : Type} [Rep α] {fit : α → Prop} (ht : P.underlying t = some (.slice e)) (hs : P.cellsOf e = Rep.sz α) (he : Opens P e α fit) : Opens P t (List α) (fitList fit) := by
  intro H enc w base spare held fuel cs x h
  rcases DataW.trod_slice ht h with ⟨rfl, _⟩ | ⟨a, len, cap, elems', rest, n, rfl, rfl, _, hb, hl, hc, hlen, hel, _⟩
  · exact ⟨[], ⟨none, 0, rfl, Nat.le_refl _, Nat.zero_le _, fun h => absurd rfl h⟩, Nat.zero_le _, by simp⟩
  · have key : ∀ i, i < len → ∃ y : α, (∃ cs', Rep.ok w (fun k => k < w.heap.size) cs' y ∧ Cells w (a.add (i * Rep.sz α)) cs') ∧ fit y := by
      intro i hi
      have h1 := hel i hi
      obtain ⟨z, hz⟩ : ∃ z, elems'[i]? = some z := ⟨_, List.getElem?_eq_getElem (by omega)⟩
      rw [hz, Option.bind_eq_some_iff] at h1
      obtain ⟨cs', hc1, hc2⟩ := h1
      obtain ⟨y, hy, hf⟩ := he _ _ _ _ _ _ _ _ _ hc2
      obtain ⟨_, hl1, hc3⟩ := World.cells?_some hc1
      refine ⟨y, ⟨cs', hy, fun j u hu => ?_⟩, hf⟩
      have hj : j < cs'.length := (List.getElem?_eq_some_iff.1 hu).1
      rw [← hs, hc3 j (by omega)]; exact hu
    obtain ⟨l, hll, hp⟩ := list_of len key
    have hE : elems w (fun k => k < w.heap.size) a 0 l := elems_of fun i x hx => by rw [Nat.zero_add]; exact (hp i x hx).1
    refine ⟨l, ⟨some a, cap, by rw [hll], by omega, hc, fun hne => ⟨a, rfl, ?_, hE⟩⟩, by show l.length ≤ maxLen; omega, fun x hx => ?_⟩
    · exact elems_lt hE hne
    · obtain ⟨i, hi⟩ := List.mem_iff_getElem?.1 hx
      exact (hp i x hi).2

theorem field_of {H : Type} {enc : TypeId × Value → H} {w : World} {base : Nat} {spare : Nat → Bool} {held : Bool} {n : Nat} {cs : List Value} {xs : List (DataW H × List MemPlace)} {fs : Array Field} {α : Type} [Rep α] {fit : α → Prop}
    (hf : ∀ (i : Nat) (f : Field), fs[i]? = some f → DataW.trod enc P w base spare held n f.type ((cs.drop f.offset).take (P.cellsOf f.type)) = xs[i]?) (hx : xs.length = fs.size) (i : Nat) (f : Field) (m : Nat) (hfi : fs[i]? = some f)
    (hop : Opens P f.type α fit) (hc : P.cellsOf f.type = m) : ∃ a : α, Rep.ok w (fun k => k < w.heap.size) ((cs.drop f.offset).take m) a ∧ fit a := by
  have h1 := hf i f hfi
  obtain ⟨hi, -⟩ := Array.getElem?_eq_some_iff.1 hfi
  rw [List.getElem?_eq_getElem (by omega), hc] at h1
  exact hop _ _ _ _ _ _ _ _ _ h1

/-- an argument of struct type -/
theorem open_struct {H : Type} {enc : TypeId × Value → H} {w : World} {base : Nat} {spare : Nat → Bool} {held : Bool} {v : Value} {d : DataW H} {ps : List MemPlace} {fs : Array Field} {α : Type} [Rep α] {fit : α → Prop} {r : Reach} {b : Nat}
    (ht : P.underlying t = some (.struct fs)) (ha : Rep.agg α = true) (hop : Opens P t α fit) (hv : Value.okWide P w r b t v) (h : DataW.Trod enc P w base spare held t v d ps) : ∃ a : α, RV w (fun k => k < w.heap.size) v a ∧ fit a := by
  obtain ⟨cs, rfl, _⟩ := WideShapes.okWide_struct ht hv
  obtain ⟨fuel, hf⟩ := h
  obtain ⟨a, h1, h2⟩ := hop _ _ _ _ _ _ _ _ _ hf
  exact ⟨a, ⟨_, h1, by simp [Rep.val, ha, Value.cells]⟩, h2⟩
end
end Go.GL
