/- Own library, part d: how data lies in memory; rules for control. -/
import Derived.Test.YtdkfoghhjkjjlaaGLc
import Derived.Test.YtdkfoghhjkjjlaaGLp
namespace Go.GL
open Go.RowKit

theorem add_add (a : Addr) (i j : Nat) : (a.add i).add j = a.add (i + j) := by
  unfold Addr.add
  by_cases hi : i = 0 <;> by_cases hj : j = 0 <;> simp [hi, hj, Nat.add_assoc]
theorem add_block (a : Addr) (n : Nat) : (a.add n).block = a.block := by unfold Addr.add; split <;> rfl

theorem cell_keep {w w' : World} {a : Addr} {v : Value} (h : w.cell? a = some v) (hk : w'.heap[a.block]? = w.heap[a.block]?) : w'.cell? a = some v :=
  (World.cell?_of_block hk).trans h

class Rep (α : Type) where
  sz : Nat
  agg : Bool
  ok : World → (Nat → Prop) → List Value → α → Prop
  len : ∀ {w F cs x}, ok w F cs x → cs.length = sz
  one : ∀ {w F cs x}, ok w F cs x → ∀ u ∈ cs, u.oneCell' = true
  pos : 0 < sz
  sgl : agg = false → sz = 1
  keep : ∀ {w w' : World} {F F' : Nat → Prop} {cs x}, ok w F cs x → (∀ k, k < w.heap.size → F k → w'.heap[k]? = w.heap[k]? ∧ F' k) → ok w' F' cs x

def Rep.val (α : Type) [Rep α] (cs : List Value) : Value := if Rep.agg α then .agg cs.toArray else cs.headD undef

/-- the value v is x, in blocks of F -/
def RV {α : Type} [Rep α] (w : World) (F : Nat → Prop) (v : Value) (x : α) : Prop := ∃ cs, Rep.ok w F cs x ∧ v = Rep.val α cs

section
variable {α : Type} [Rep α]

theorem RV.keep {w w' : World} {F F' : Nat → Prop} {v : Value} {x : α} (h : RV w F v x) (hk : ∀ k, k < w.heap.size → F k → w'.heap[k]? = w.heap[k]? ∧ F' k) : RV w' F' v x := by
  obtain ⟨cs, h1, h2⟩ := h
  exact ⟨cs, Rep.keep h1 hk, h2⟩
/-- through a change that leaves the blocks of F alone -/
theorem RV.chg {S : Nat → Prop} {w w' : World} {F : Nat → Prop} {v : Value} {x : α} (h : RV w F v x) (hc : Chg S w w') (hs : ∀ k, F k → ¬ S k) : RV w' F v x :=
  h.keep fun k hk hf => ⟨hc.block k hk (hs k hf), hf⟩
theorem RV.ext {w w' : World} {F : Nat → Prop} {v : Value} {x : α} (h : RV w F v x) (hc : Chg Non w w') : RV w' F v x :=
  h.chg hc fun _ _ => id
theorem RV.sub {w : World} {F F' : Nat → Prop} {v : Value} {x : α} (h : RV w F v x) (hs : ∀ k, k < w.heap.size → F k → F' k) : RV w F' v x :=
  h.keep fun k hk hf => ⟨rfl, hs k hk hf⟩
theorem RV.any {w : World} {F : Nat → Prop} {v : Value} {x : α} (h : RV w F v x) : RV w (fun _ => True) v x := h.sub fun _ _ _ => trivial

/-- cells from an address on -/
def Cells (w : World) (ad : Addr) (cs : List Value) : Prop := ∀ j u, cs[j]? = some u → w.cell? (ad.add j) = some u
theorem Cells.keep {w w' : World} {ad : Addr} {cs : List Value} (h : Cells w ad cs) (hk : cs ≠ [] → w'.heap[ad.block]? = w.heap[ad.block]?) : Cells w' ad cs := fun j u hu =>
  cell_keep (h j u hu) (by rw [add_block]; exact hk (by rintro rfl; simp at hu))
theorem Cells.lt {w : World} {ad : Addr} {cs : List Value} (h : Cells w ad cs) (hn : cs ≠ []) : ad.block < w.heap.size := by
  cases cs with
  | nil => exact absurd rfl hn
  | cons u cs =>
    have := World.block_lt_of_cell? w _ (h 0 u rfl)
    rwa [add_block] at this

/-- the elements of a list, one behind the other -/
def elems (w : World) (F : Nat → Prop) (ad : Addr) : Nat → List α → Prop
  | _, [] => True
  | i, x :: xs => (∃ cs, Rep.ok w F cs x ∧ Cells w (ad.add (i * Rep.sz α)) cs) ∧ elems w F ad (i + 1) xs

theorem elems_get {w : World} {F : Nat → Prop} {ad : Addr} : ∀ {l : List α} {n i : Nat} {x : α}, elems w F ad n l → l[i]? = some x → ∃ cs, Rep.ok w F cs x ∧ Cells w (ad.add ((n + i) * Rep.sz α)) cs
  | y :: l, n, 0, x, h, hx => by
    simp at hx; subst hx; exact h.1
  | y :: l, n, i + 1, x, h, hx => by
    have := elems_get (l := l) (n := n + 1) (i := i) h.2 (by simpa using hx)
    rwa [show n + 1 + i = n + (i + 1) by omega] at this

theorem elems_of {w : World} {F : Nat → Prop} {ad : Addr} : ∀ {l : List α} {n : Nat}, (∀ i x, l[i]? = some x → ∃ cs, Rep.ok w F cs x ∧ Cells w (ad.add ((n + i) * Rep.sz α)) cs) → elems w F ad n l
  | [], _, _ => trivial
  | y :: l, n, h => ⟨by simpa using h 0 y rfl, elems_of fun i x hx => by
      have := h (i + 1) x (by simpa using hx)
      rwa [show n + (i + 1) = n + 1 + i by omega] at this⟩

theorem ok_ne {w : World} {F : Nat → Prop} {cs : List Value} {x : α} (h : Rep.ok w F cs x) : cs ≠ [] := by
  rintro rfl
  have := Rep.len h
  have := Rep.pos (α := α)
  simp at *; omega

theorem elems_lt {w : World} {F : Nat → Prop} {ad : Addr} {l : List α} {n : Nat} (h : elems w F ad n l) (hl : l ≠ []) : ad.block < w.heap.size := by
  cases l with
  | nil => exact absurd rfl hl
  | cons x l =>
    obtain ⟨cs, h1, h2⟩ := h.1
    have := h2.lt (ok_ne h1)
    rwa [add_block] at this

theorem elems_keep {w w' : World} {F F' : Nat → Prop} {ad : Addr} (hk : ∀ k, k < w.heap.size → F k → w'.heap[k]? = w.heap[k]? ∧ F' k) (hF : F ad.block) : ∀ {l : List α} {n : Nat}, elems w F ad n l → elems w' F' ad n l
  | [], _, _ => trivial
  | x :: l, n, h => by
    obtain ⟨⟨cs, h1, h2⟩, h3⟩ := h
    have hlt : ad.block < w.heap.size := by
      have := h2.lt (ok_ne h1)
      rwa [add_block] at this
    exact ⟨⟨cs, Rep.keep h1 hk, h2.keep fun _ => by rw [add_block]; exact (hk _ hlt hF).1⟩, elems_keep hk hF h3⟩
end

instance : Rep Int where
  sz := 1
  agg := false
  ok := fun _ _ cs n => cs = [.int .i64 n]
  len := by rintro w F cs x rfl; rfl
  one := by rintro w F cs x rfl u hu; simp at hu; subst hu; rfl
  pos := by decide
  sgl := fun _ => rfl
  keep := fun h _ => h
instance : Rep Byt where
  sz := 1
  agg := false
  ok := fun _ _ cs x => cs = [.int .u8 x.n]
  len := by rintro w F cs x rfl; rfl
  one := by rintro w F cs x rfl u hu; simp at hu; subst hu; rfl
  pos := by decide
  sgl := fun _ => rfl
  keep := fun h _ => h
instance : Rep Bool where
  sz := 1
  agg := false
  ok := fun _ _ cs n => cs = [.bool n]
  len := by rintro w F cs x rfl; rfl
  one := by rintro w F cs x rfl u hu; simp at hu; subst hu; rfl
  pos := by decide
  sgl := fun _ => rfl
  keep := fun h _ => h
def Str.val (s : Str) : Value := .string ⟨s.bytes.toArray⟩
instance : Rep Str where
  sz := 1
  agg := false
  ok := fun _ _ cs s => cs = [s.val]
  len := by rintro w F cs x rfl; rfl
  one := by rintro w F cs x rfl u hu; simp at hu; subst hu; rfl
  pos := by decide
  sgl := fun _ => rfl
  keep := fun h _ => h

theorem RV.int {w : World} {F : Nat → Prop} {v : Value} {n : Int} (h : RV w F v n) : v = .int .i64 n := by
  obtain ⟨cs, rfl, rfl⟩ := h; rfl
theorem RV.bool {w : World} {F : Nat → Prop} {v : Value} {b : Bool} (h : RV w F v b) : v = .bool b := by
  obtain ⟨cs, rfl, rfl⟩ := h; rfl
instance {α : Type} [Rep α] : Rep (List α) where
  sz := 1
  agg := false
  ok := fun w F cs l => ∃ a cap, cs = [.slice a l.length cap] ∧ l.length ≤ cap ∧ cap ≤ maxLen ∧ (l ≠ [] → ∃ ad, a = some ad ∧ F ad.block ∧ elems w F ad 0 l)
  len := by rintro w F cs x ⟨a, cap, rfl, _⟩; rfl
  one := by rintro w F cs x ⟨a, cap, rfl, _⟩ u hu; simp at hu; subst hu; rfl
  pos := by decide
  sgl := fun _ => rfl
  keep := by
    rintro w w' F F' cs l ⟨a, cap, rfl, h1, h2, h3⟩ hk
    refine ⟨a, cap, rfl, h1, h2, fun hl => ?_⟩
    obtain ⟨ad, rfl, hF, he⟩ := h3 hl
    exact ⟨ad, rfl, (hk _ (elems_lt he hl) hF).2, elems_keep hk hF he⟩

section
variable {α : Type} [Rep α]
theorem RV.slice {w : World} {F : Nat → Prop} {v : Value} {l : List α} (h : RV w F v l) :
    ∃ a cap, v = .slice a l.length cap ∧ l.length ≤ cap ∧ cap ≤ maxLen ∧ (l ≠ [] → ∃ ad, a = some ad ∧ F ad.block ∧ elems w F ad 0 l) := by
  obtain ⟨cs, ⟨a, cap, rfl, h⟩, rfl⟩ := h
  exact ⟨a, cap, rfl, h⟩
theorem RV.mk_slice {w : World} {F : Nat → Prop} {a : Option Addr} {cap : Nat} {l : List α} (h1 : l.length ≤ cap) (h2 : cap ≤ maxLen) (h3 : l ≠ [] → ∃ ad, a = some ad ∧ F ad.block ∧ elems w F ad 0 l) :
    RV w F (.slice a l.length cap) l := ⟨[.slice a l.length cap], ⟨a, cap, rfl, h1, h2, h3⟩, rfl⟩
theorem RV.nil {w : World} {F : Nat → Prop} : RV w F (.slice none 0 0) ([] : List α) := RV.mk_slice (Nat.le_refl _) (by simp) (fun h => absurd rfl h)
/-- a value of one cell -/
theorem RV.one {w : World} {F : Nat → Prop} {v : Value} {x : α} (ha : Rep.agg α = false) (h : RV w F v x) : Rep.ok w F [v] x := by
  obtain ⟨cs, h1, rfl⟩ := h
  have hl := Rep.len h1
  rw [Rep.sgl ha] at hl
  match cs, hl with
  | [c], _ => simpa [Rep.val, ha] using h1
theorem RV.of_one {w : World} {F : Nat → Prop} {v : Value} {x : α} (ha : Rep.agg α = false) (h : Rep.ok w F [v] x) : RV w F v x := ⟨[v], h, by simp [Rep.val, ha]⟩
end

/-- the type t of the program is α -/
structure Ty (P : Program) (t : TypeId) (α : Type) [Rep α] : Prop where
  size : (P.info? t).map (·.size) = some (Rep.sz α)
  agg : (match P.underlying t with | some (.struct _) => true | some (.array _ _) => true | some _ => false | none => !(Rep.agg α)) = Rep.agg α

theorem Ty.isAgg {P : Program} {t : TypeId} {α : Type} [Rep α] (h : Ty P t α) (w : World) : (isAgg t).run P w = .ok (Rep.agg α) w := by
  have h1 := h.agg
  unfold Go.isAgg
  cases hu : P.underlying t with
  | none => rw [hu] at h1; cases hh : Rep.agg α <;> simp [hh] at h1
  | some d =>
    rw [hu] at h1
    rw [← h1]
    cases d <;> simp [run_underlying hu]
theorem Ty.sizeOf {P : Program} {t : TypeId} {α : Type} [Rep α] (h : Ty P t α) (w : World) : (sizeOf t).run P w = .ok (Rep.sz α) w := by
  have h1 := h.size
  cases hi : P.info? t with
  | none => rw [hi] at h1; cases h1
  | some i =>
    rw [hi] at h1
    simp only [Option.map_some, Option.some.injEq] at h1
    simp [Go.sizeOf, typeInfo, hi, h1]

theorem run_loadVar {P : Program} {t : TypeId} {α : Type} [Rep α] (h : Ty P t α) {w : World} {ad : Addr} {cs : List Value} (hl : cs.length = Rep.sz α) (hc : Cells w ad cs) :
    (loadVar t ad).run P w = .ok (Rep.val α cs) w := by
  unfold loadVar Rep.val
  simp only [Sem.run_bind, h.isAgg, Result.andThen_ok]
  cases hh : Rep.agg α with
  | true =>
    simp only [if_true, Sem.run_bind, h.sizeOf, Result.andThen_ok, Sem.run_pure]
    have := run_loadCells_list (P := P) (w := w) ad cs hc
    rw [hl] at this
    rw [this]
    simp
  | false =>
    simp only [Bool.false_eq_true, if_false]
    rw [Rep.sgl hh] at hl
    match cs, hl with
    | [c], _ =>
      have := hc 0 c rfl
      simp [Addr.add] at this
      simp [this]
end Go.GL
