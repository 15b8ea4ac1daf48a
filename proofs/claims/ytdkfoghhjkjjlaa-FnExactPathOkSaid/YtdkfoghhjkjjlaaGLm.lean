/- Own library, part m: maps that a call itself made, with plain elements. -/
import Derived.Test.YtdkfoghhjkjjlaaGLj
import Derived.Maps.Own
import Derived.Maps.Views
import Derived.Maps.OwnSet
namespace Go.GL
open Go.RowKit Go.Maps

/-- map[κ]β at the types k and e -/
structure MapT (P : Program) (k e : TypeId) (κ β : Type) [Flat κ] [Flat β] where
  fit : κ → Bool
  lit : κ → Lit
  dv : β → DataW Unit
  zero : β
  keyed : Keyed P k
  key : ∀ x, fit x = true → keyOf P k (Rep.val κ (Flat.enc x)) = some (lit x)
  inj : ∀ x y, fit x = true → fit y = true → lit x = lit y → x = y
  efit : β → Bool
  zfit : efit zero = true
  elem : ∀ y, efit y = true → plainElem P e (Rep.val β (Flat.enc y)) = some (dv y, [])
  back : ∀ v y ps, plainElem P e v = some (dv y, ps) → v = Rep.val β (Flat.enc y)
  hz : ∀ w, (zeroValue e).run P w = .ok (Rep.val β (Flat.enc zero)) w

section
variable {P : Program} {k e t : TypeId} {κ β : Type} [Flat κ] [Flat β] (T : MapT P k e κ β) {w : World} {b : Nat} {m : List (κ × β)}

def MapT.D : List (κ × β) → DataW Unit
  | [] => .map []
  | (x, y) :: m => (MapT.D m).put (T.lit x) (T.dv y)

/-- block b is a map with these entries, the newest first -/
def OwnM (w : World) (b : Nat) (m : List (κ × β)) : Prop := w.ownsMap P k (plainElem P e) b m.length (T.D m) ∧ ∀ p ∈ m, T.fit p.1 = true

theorem MapT.isMap : ∀ m : List (κ × β), IsMap (T.D m)
  | [] => ⟨_, rfl⟩
  | (x, y) :: m => by
    obtain ⟨es, h⟩ := MapT.isMap m
    exact ⟨_, by rw [MapT.D, h]; rfl⟩

theorem MapT.at_ [DecidableEq κ] {x : κ} (hx : T.fit x = true) (z : DataW Unit) : ∀ m : List (κ × β), (∀ p ∈ m, T.fit p.1 = true) → (T.D m).atKey (T.lit x) z = match m.lookup x with | some y => T.dv y | none => z
  | [], _ => rfl
  | (u, y) :: m, h => by
    have ih := MapT.at_ hx z m fun p hp => h p (List.mem_cons_of_mem _ hp)
    have hu := h (u, y) List.mem_cons_self
    by_cases hxu : x = u
    · subst hxu
      rw [MapT.D, atKey_put_same (T.isMap m) (T.keyed.key (T.key x hx))]
      simp [List.lookup]
    · have hl : T.lit x ≠ T.lit u := fun hh => hxu (T.inj _ _ hx hu hh)
      rw [MapT.D, atKey_put_other hl, ih]
      have : (x == u) = false := by simpa using hxu
      simp only [List.lookup, this]

def mget [DecidableEq κ] (z : β) (m : List (κ × β)) (x : κ) : β := (m.lookup x).getD z

theorem OwnM.made : OwnM T (w.alloc (.map #[] 0)) w.heap.size ([] : List (κ × β)) := ⟨World.ownsMap_made w P k _, by simp⟩

theorem OwnM.look [DecidableEq κ] (h : OwnM T w b m) (ht : P.underlying t = some (.map k e)) {x : κ} (hx : T.fit x = true) :
    (Instr.lookup t (.map (some b)) (Rep.val κ (Flat.enc x)) false).run P w = .ok (Rep.val β (Flat.enc (mget T.zero m x))) w := by
  obtain ⟨v, ps, hrun, hv⟩ := h.1.lookup T.keyed ht (T.hz w) (T.elem T.zero T.zfit) (T.key x hx)
  rw [T.at_ hx _ m h.2] at hv
  have hd : plainElem (H := Unit) P e v = some (T.dv (mget T.zero m x), ps) := by
    rw [hv]; unfold mget
    cases m.lookup x <;> rfl
  rw [hrun, T.back v _ ps hd]

theorem MapT.has_ [DecidableEq κ] {x : κ} (hx : T.fit x = true) : ∀ m : List (κ × β), (∀ p ∈ m, T.fit p.1 = true) → Maps.has (T.D m) (T.lit x) = (m.lookup x).isSome
  | [], _ => rfl
  | (u, y) :: m, h => by
    have ih := MapT.has_ hx m fun p hp => h p (List.mem_cons_of_mem _ hp)
    have hu := h (u, y) List.mem_cons_self
    by_cases hxu : x = u
    · subst hxu
      rw [MapT.D, has_put_same (T.isMap m) (T.keyed.key (T.key x hx))]
      simp [List.lookup]
    · have hl : T.lit x ≠ T.lit u := fun hh => hxu (T.inj _ _ hx hu hh)
      rw [MapT.D, has_put_other hl, ih]
      have : (x == u) = false := by simpa using hxu
      simp only [List.lookup, this]
theorem OwnM.look2 [DecidableEq κ] (h : OwnM T w b m) (ht : P.underlying t = some (.map k e)) {x : κ} (hx : T.fit x = true) :
    (Instr.lookup t (.map (some b)) (Rep.val κ (Flat.enc x)) true).run P w = .ok (.tuple #[Rep.val β (Flat.enc (mget T.zero m x)), .bool (m.lookup x).isSome]) w := by
  obtain ⟨v, ps, hrun, hv⟩ := h.1.look_ok T.keyed ht (T.hz w) (T.elem T.zero T.zfit) (T.key x hx)
  rw [T.at_ hx _ m h.2] at hv
  have hd : plainElem (H := Unit) P e v = some (T.dv (mget T.zero m x), ps) := by
    rw [hv]; unfold mget
    cases m.lookup x <;> rfl
  rw [hrun, T.back v _ ps hd, T.has_ hx m h.2]

theorem OwnM.put (h : OwnM T w b m) (ht : P.underlying t = some (.map k e)) {x : κ} (hx : T.fit x = true) (y : β) (he : T.efit y = true) (hm : m.length < maxLen) :
    ∃ w', (Instr.mapUpdate t (.map (some b)) (Rep.val κ (Flat.enc x)) (Rep.val β (Flat.enc y))).run P w = .ok () w' ∧ OwnM T w' b ((x, y) :: m) ∧ w.grownBy w' (some b) := by
  obtain ⟨w', hrun, h1, h2⟩ := h.1.update T.keyed ht hm (T.key x hx) (T.elem y he)
  exact ⟨w', hrun, ⟨h1, fun p hp => by
    rcases List.mem_cons.1 hp with rfl | hp
    · exact hx
    · exact h.2 p hp⟩, h2⟩

theorem OwnM.lt (h : OwnM T w b m) : b < w.heap.size := h.1.lt

theorem OwnM.chg {S : Nat → Prop} {w' : World} (h : OwnM T w b m) (hc : Chg S w w') (hs : ¬ S b) : OwnM T w' b m := by
  obtain ⟨⟨es, clock, hb, F, hn, hD⟩, h2⟩ := h
  exact ⟨⟨es, clock, (hc.block b (Array.getElem?_eq_some_iff.1 hb).1 hs).trans hb, F, hn, hD⟩, h2⟩

theorem Chg.of_grown {w w' : World} {b : Nat} (h : w.grownBy w' (some b)) : Chg (fun k => k = b) w w' :=
  ⟨h.os, h.tape, h.output, h.size, fun k hk hs => h.block k hk fun e => hs (by simpa using e)⟩

variable {a : Act} {ops : Array Oper} {Q : Exit → Act → World → Prop} {σ : List (Nat × Value)} {N j d : Nat} {x y z : Operand} {ty : TypeId} {pos : String} {af : Array Edge}
theorem does_makeMap {o : Oper} (ho : o.op = .makeMap t none) (hm : (Instr.makeMap t none).run P w = .ok (.map (some w.heap.size)) (w.alloc (.map #[] 0))) : Does P o a w fun v w' => v = .map (some w.heap.size) ∧ w' = w.alloc (.map #[] 0) := by
  refine does_value (v := .map (some w.heap.size)) (w' := w.alloc (.map #[] 0)) ?_ ⟨rfl, rfl⟩
  obtain ⟨dst, op, type, pos, after, guard⟩ := o
  simp only at ho; subst ho
  simp [execOp, hm]
theorem does_mapGet2 [DecidableEq κ] {o : Oper} (ho : o.op = .lookup t x y true) (h : OwnM T w b m) (ht : P.underlying t = some (.map k e)) {u : κ} (hu : T.fit u = true) (hx : a.eval x = .map (some b)) (hy : a.eval y = Rep.val κ (Flat.enc u)) :
    Does P o a w fun v w' => v = .tuple #[Rep.val β (Flat.enc (mget T.zero m u)), .bool (m.lookup u).isSome] ∧ w' = w := by
  refine does_value (v := .tuple #[Rep.val β (Flat.enc (mget T.zero m u)), .bool (m.lookup u).isSome]) (w' := w) ?_ ⟨rfl, rfl⟩
  obtain ⟨dst, op, type, pos, after, guard⟩ := o
  simp only at ho; subst ho
  simp [execOp, hx, hy, h.look2 T ht hu]
theorem does_mapPut {o : Oper} (ho : o.op = .mapUpdate t x y z) (h : OwnM T w b m) (ht : P.underlying t = some (.map k e)) {u : κ} (hu : T.fit u = true) (q : β) (he : T.efit q = true) (hm : m.length < maxLen) (hx : a.eval x = .map (some b)) (hy : a.eval y = Rep.val κ (Flat.enc u)) (hz : a.eval z = Rep.val β (Flat.enc q)) :
    Does P o a w fun _ w' => OwnM T w' b ((u, q) :: m) ∧ Chg (fun k => k = b) w w' := by
  obtain ⟨w', hrun, h1, h2⟩ := h.put T ht hu q he hm
  refine does_skip (w' := w') ?_ ⟨h1, Chg.of_grown h2⟩
  obtain ⟨dst, op, type, pos, after, guard⟩ := o
  simp only at ho; subst ho
  simp [execOp, hx, hy, hz, hrun]
end
end Go.GL
