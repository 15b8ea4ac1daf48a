/- Own library, part U: the arguments of a law, opened, of recursive types; a law's walk as it is used in its frame. -/
import Derived.Test.YtdkfoghhjkjjlaaGLu
import Derived.Test.YtdkfoghhjkjjlaaGLT
set_option linter.unusedVariables false
namespace Go.GL
open Go.RowKit

/-- the same up to some fuel -/
def OpensN (P : Program) (m : Nat) (t : TypeId) (α : Type) [Rep α] (fit : α → Prop) : Prop :=
  ∀ (H : Type) (enc : TypeId × Value → H) (w : World) (base : Nat) (spare : Nat → Bool) (held : Bool) (fuel : Nat) (cs : List Value) (x : DataW H × List MemPlace),
    fuel ≤ m → DataW.trod enc P w base spare held fuel t cs = some x → ∃ a : α, Rep.ok w (fun k => k < w.heap.size) cs a ∧ fit a
section
variable {P : Program} {t e : TypeId}
theorem Opens.N {α : Type} [Rep α] {fit : α → Prop} {m : Nat} (h : Opens P t α fit) : OpensN P m t α fit := fun H enc w base spare held fuel cs x _ hx => h H enc w base spare held fuel cs x hx
theorem opens_of_N {α : Type} [Rep α] {fit : α → Prop} (h : ∀ m, OpensN P m t α fit) : Opens P t α fit := fun H enc w base spare held fuel cs x hx => h fuel H enc w base spare held fuel cs x (Nat.le_refl _) hx
theorem opensN_list {α : Type} [Rep α] {fit : α → Prop} {m : Nat} (ht : P.underlying t = some (.slice e)) (hs : P.cellsOf e = Rep.sz α) (he : OpensN P m e α fit) : OpensN P m t (List α) (fitList fit) := by
  intro H enc w base spare held fuel cs x hm h
  rcases DataW.trod_slice ht h with ⟨rfl, _⟩ | ⟨a, len, cap, elems', rest, n, rfl, rfl, _, hb, hl, hc, hlen, hel, _⟩
  · exact ⟨[], ⟨none, 0, rfl, Nat.le_refl _, Nat.zero_le _, fun h => absurd rfl h⟩, Nat.zero_le _, by simp⟩
  · have key : ∀ i, i < len → ∃ y : α, (∃ cs', Rep.ok w (fun k => k < w.heap.size) cs' y ∧ Cells w (a.add (i * Rep.sz α)) cs') ∧ fit y := by
      intro i hi
      have h1 := hel i hi
      obtain ⟨z, hz⟩ : ∃ z, elems'[i]? = some z := ⟨_, List.getElem?_eq_getElem (by omega)⟩
      rw [hz, Option.bind_eq_some_iff] at h1
      obtain ⟨cs', hc1, hc2⟩ := h1
      obtain ⟨y, hy, hf⟩ := he _ _ _ _ _ _ _ _ _ (by omega) hc2
      obtain ⟨_, hl1, hc3⟩ := World.cells?_some hc1
      refine ⟨y, ⟨cs', hy, fun j u hu => ?_⟩, hf⟩
      have hj : j < cs'.length := (List.getElem?_eq_some_iff.1 hu).1
      rw [← hs, hc3 j (by omega)]; exact hu
    obtain ⟨l, hll, hp⟩ := list_of len key
    have hE : elems w (fun k => k < w.heap.size) a 0 l := elems_of fun i x hx => by rw [Nat.zero_add]; exact (hp i x hx).1
    refine ⟨l, ⟨some a, cap, by rw [hll], by omega, hc, fun hne => ⟨a, rfl, ?_, hE⟩⟩, by show l.length ≤ maxLen; omega, fun x hx => ?_⟩
    · exact elems_lt hE hne
    · obtain ⟨i, hi⟩ := List.mem_iff_getElem?.1 hx
      exact (hp i x hi).2
theorem field_ofN {H : Type} {enc : TypeId × Value → H} {w : World} {base : Nat} {spare : Nat → Bool} {held : Bool} {n : Nat} {cs : List Value} {xs : List (DataW H × List MemPlace)} {fs : Array Field} {α : Type} [Rep α] {fit : α → Prop}
    (hf : ∀ (i : Nat) (f : Field), fs[i]? = some f → DataW.trod enc P w base spare held n f.type ((cs.drop f.offset).take (P.cellsOf f.type)) = xs[i]?) (hx : xs.length = fs.size) (i : Nat) (f : Field) (m : Nat) (hfi : fs[i]? = some f)
    (hop : OpensN P n f.type α fit) (hc : P.cellsOf f.type = m) : ∃ a : α, Rep.ok w (fun k => k < w.heap.size) ((cs.drop f.offset).take m) a ∧ fit a := by
  have h1 := hf i f hfi
  obtain ⟨hi, -⟩ := Array.getElem?_eq_some_iff.1 hfi
  rw [List.getElem?_eq_getElem (by omega), hc] at h1
  exact hop _ _ _ _ _ _ _ _ _ (Nat.le_refl _) h1
/-- terms: t its type, s the type of its lists -/
theorem opens_term {s n i : TypeId} {fs : Array Field} (ht : P.underlying t = some (.struct fs)) (hi : P.underlying i = some (.int .i64)) (hn : P.underlying n = some .string) (hs : P.underlying s = some (.slice t)) (hc : P.cellsOf t = 5)
    (f0 : ∃ f, fs[0]? = some f ∧ f.type = i ∧ f.offset = 0) (f1 : ∃ f, fs[1]? = some f ∧ f.type = i ∧ f.offset = 1) (f2 : ∃ f, fs[2]? = some f ∧ f.type = i ∧ f.offset = 2) (f3 : ∃ f, fs[3]? = some f ∧ f.type = n ∧ f.offset = 3)
    (f4 : ∃ f, fs[4]? = some f ∧ f.type = s ∧ f.offset = 4) (ci : P.cellsOf i = 1) (cn : P.cellsOf n = 1) (cs1 : P.cellsOf s = 1) : Opens P t D.Term fit_Term := by
  refine opens_of_N fun m => ?_
  induction m with
  | zero =>
    intro H enc w base spare held fuel cs x hm h
    obtain ⟨_, n, he, _⟩ := DataW.trod_struct ht h
    omega
  | succ m ih =>
    intro H enc w base spare held fuel cs x hm h
    obtain ⟨xs, k, rfl, -, hl, hx, hf⟩ := DataW.trod_struct ht h
    rw [hc] at hl
    have ih' : OpensN P k s (List D.Term) (fitList fit_Term) := fun H enc w base spare held fuel cs x hm' h => opensN_list hs hc ih H enc w base spare held fuel cs x (by omega) h
    obtain ⟨f0, e0, t0, o0⟩ := f0
    obtain ⟨f1, e1, t1, o1⟩ := f1
    obtain ⟨f2, e2, t2, o2⟩ := f2
    obtain ⟨f3, e3, t3, o3⟩ := f3
    obtain ⟨f4, e4, t4, o4⟩ := f4
    obtain ⟨a0, h0, g0⟩ := field_ofN hf hx 0 f0 1 e0 (t0 ▸ (opens_int hi).N) (by rw [t0, ci])
    obtain ⟨a1, h1, g1⟩ := field_ofN hf hx 1 f1 1 e1 (t1 ▸ (opens_int hi).N) (by rw [t1, ci])
    obtain ⟨a2, h2, g2⟩ := field_ofN hf hx 2 f2 1 e2 (t2 ▸ (opens_int hi).N) (by rw [t2, ci])
    obtain ⟨a3, h3, g3⟩ := field_ofN hf hx 3 f3 1 e3 (t3 ▸ (opens_str hn).N) (by rw [t3, cn])
    obtain ⟨a4, h4, g4⟩ := field_ofN hf hx 4 f4 1 e4 (t4 ▸ ih') (by rw [t4, cs1])
    rw [o0] at h0; rw [o1] at h1; rw [o2] at h2; rw [o3] at h3; rw [o4] at h4
    match cs, hl with
    | [c0, c1, c2, c3, c4], _ =>
      have h0 : [c0] = [_] := h0
      have h1 : [c1] = [_] := h1
      have h2 : [c2] = [_] := h2
      have h3 : [c3] = [_] := h3
      obtain rfl := List.head_eq_of_cons_eq h0
      obtain rfl := List.head_eq_of_cons_eq h1
      obtain rfl := List.head_eq_of_cons_eq h2
      obtain rfl := List.head_eq_of_cons_eq h3
      have h4 : Rep.ok w (fun k => k < w.heap.size) [c4] a4 := h4
      obtain ⟨b, cp, e, r1, r2, r3⟩ := h4
      obtain rfl := List.head_eq_of_cons_eq e
      refine ⟨⟨a0, a1, a2, a3, a4⟩, show okTerm w _ _ _ from ?_, ?_⟩
      · unfold okTerm
        refine ⟨b, cp, rfl, r1, r2, fun hne => ?_⟩
        obtain ⟨ad, u1, u2, u3⟩ := r3 hne
        exact ⟨ad, u1, u2, elsTerm_iff.2 u3⟩
      · unfold fit_Term
        exact ⟨g0, g1, g2, g3, g4.1, fits_Term_iff.2 g4.2⟩
end

/-- a law's walk, as its frame uses it -/
theorem Con.law {P : Program} {f : FuncId} {args : List Value} {Φ : List RF} {r : Bool} {w : World} {F : Nat → Prop} (hc : Con P f args [] Φ fun (_ : Unit) => ([.bool r], [], [])) (hF : AllF Φ w F) (hl : ∀ k, F k → k < w.heap.size) :
    Calls P f args.toArray w fun e w' => ∃ v, e = .returned v ∧ v = .bool r ∧ Chg Non w w' := by
  refine (hc w Non F (Sep.nil _ _) hF (fun _ h => h.elim) hl (fun _ h => h.elim)).mono ?_
  rintro e w'' ⟨i, S', F', rfl, hM', _, _⟩
  exact ⟨_, rfl, rfl, hM'.chg⟩
end Go.GL
