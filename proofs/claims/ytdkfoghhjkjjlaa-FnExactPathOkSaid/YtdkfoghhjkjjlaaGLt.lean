/- Own library, part t: how the structs lie in memory. Printed by gen_types9.py. -/
import Derived.Test.YtdkfoghhjkjjlaaGLj
set_option linter.unusedVariables false
namespace Go.GL
open Go.RowKit
instance : Rep D.Gate where
  sz := 2
  agg := true
  ok := fun _ _ cs x => cs = [.int .i64 x.A, .int .i64 x.B]
  len := by rintro w F cs x rfl; rfl
  one := by rintro w F cs x rfl u hu; simp at hu; rcases hu with rfl | rfl <;> rfl
  pos := by decide
  sgl := fun h => by cases h
  keep := fun h _ => h
instance : Flat D.Gate where
  enc := fun x => [.int .i64 x.A, .int .i64 x.B]
  iff := Iff.rfl

instance : Rep D.Circuit where
  sz := 2
  agg := true
  ok := fun w F cs x => ∃ v1 : Value, cs = [.int .i64 x.Inputs, v1] ∧ Rep.ok w F [v1] x.Gates
  len := by rintro w F cs x ⟨v1, rfl, h1⟩; rfl
  one := by
    rintro w F cs x ⟨v1, rfl, h1⟩ u hu
    simp at hu
    rcases hu with rfl | rfl
    · rfl
    · exact Rep.one h1 _ (by simp)
  pos := by decide
  sgl := fun h => by cases h
  keep := by
    rintro w w' F F' cs x ⟨v1, rfl, h1⟩ hk
    exact ⟨v1, rfl, Rep.keep h1 hk⟩
theorem RV.Circuit {w : World} {F : Nat → Prop} {v : Value} {x : D.Circuit} (h : RV w F v x) : ∃ v1 : Value, v = .agg #[.int .i64 x.Inputs, v1] ∧ RV w F v1 x.Gates := by
  obtain ⟨cs, ⟨v1, rfl, h1⟩, rfl⟩ := h
  exact ⟨v1, rfl, RV.of_one rfl h1⟩
instance : Rep D.Formula where
  sz := 2
  agg := true
  ok := fun w F cs x => ∃ v1 : Value, cs = [.int .i64 x.Vars, v1] ∧ Rep.ok w F [v1] x.Clauses
  len := by rintro w F cs x ⟨v1, rfl, h1⟩; rfl
  one := by
    rintro w F cs x ⟨v1, rfl, h1⟩ u hu
    simp at hu
    rcases hu with rfl | rfl
    · rfl
    · exact Rep.one h1 _ (by simp)
  pos := by decide
  sgl := fun h => by cases h
  keep := by
    rintro w w' F F' cs x ⟨v1, rfl, h1⟩ hk
    exact ⟨v1, rfl, Rep.keep h1 hk⟩
theorem RV.Formula {w : World} {F : Nat → Prop} {v : Value} {x : D.Formula} (h : RV w F v x) : ∃ v1 : Value, v = .agg #[.int .i64 x.Vars, v1] ∧ RV w F v1 x.Clauses := by
  obtain ⟨cs, ⟨v1, rfl, h1⟩, rfl⟩ := h
  exact ⟨v1, rfl, RV.of_one rfl h1⟩
instance : Rep D.Ins where
  sz := 4
  agg := true
  ok := fun _ _ cs x => cs = [.int .i64 x.Op, .int .i64 x.A, .int .i64 x.B, .int .i64 x.C]
  len := by rintro w F cs x rfl; rfl
  one := by rintro w F cs x rfl u hu; simp at hu; rcases hu with rfl | rfl | rfl | rfl <;> rfl
  pos := by decide
  sgl := fun h => by cases h
  keep := fun h _ => h
instance : Flat D.Ins where
  enc := fun x => [.int .i64 x.Op, .int .i64 x.A, .int .i64 x.B, .int .i64 x.C]
  iff := Iff.rfl

instance : Rep D.Program where
  sz := 4
  agg := true
  ok := fun w F cs x => ∃ v3 : Value, cs = [.int .i64 x.W, .int .i64 x.Mem, .int .i64 x.In, v3] ∧ Rep.ok w F [v3] x.Code
  len := by rintro w F cs x ⟨v3, rfl, h3⟩; rfl
  one := by
    rintro w F cs x ⟨v3, rfl, h3⟩ u hu
    simp at hu
    rcases hu with rfl | rfl | rfl | rfl
    · rfl
    · rfl
    · rfl
    · exact Rep.one h3 _ (by simp)
  pos := by decide
  sgl := fun h => by cases h
  keep := by
    rintro w w' F F' cs x ⟨v3, rfl, h3⟩ hk
    exact ⟨v3, rfl, Rep.keep h3 hk⟩
theorem RV.Program {w : World} {F : Nat → Prop} {v : Value} {x : D.Program} (h : RV w F v x) : ∃ v3 : Value, v = .agg #[.int .i64 x.W, .int .i64 x.Mem, .int .i64 x.In, v3] ∧ RV w F v3 x.Code := by
  obtain ⟨cs, ⟨v3, rfl, h3⟩, rfl⟩ := h
  exact ⟨v3, rfl, RV.of_one rfl h3⟩
instance : Rep D.Value where
  sz := 3
  agg := true
  ok := fun _ _ cs x => cs = [(Str.val x.Name), .int .i64 x.W, .int .i64 x.N]
  len := by rintro w F cs x rfl; rfl
  one := by rintro w F cs x rfl u hu; simp at hu; rcases hu with rfl | rfl | rfl <;> rfl
  pos := by decide
  sgl := fun h => by cases h
  keep := fun h _ => h
instance : Flat D.Value where
  enc := fun x => [(Str.val x.Name), .int .i64 x.W, .int .i64 x.N]
  iff := Iff.rfl

mutual
def okTerm (w : World) (F : Nat → Prop) (cs : List Value) : D.Term → Prop
  | ⟨y0, y1, y2, y3, kids⟩ => ∃ (a : Option Addr) (cp : Nat), cs = [.int .i64 y0, .int .i64 y1, .int .i64 y2, (Str.val y3), .slice a kids.length cp] ∧ kids.length ≤ cp ∧ cp ≤ maxLen ∧ (kids ≠ [] → ∃ ad, a = some ad ∧ F ad.block ∧ elsTerm w F ad 0 kids)
def elsTerm (w : World) (F : Nat → Prop) (ad : Addr) (i : Nat) : List D.Term → Prop
  | [] => True
  | x :: xs => (∃ cs, okTerm w F cs x ∧ Cells w (ad.add (i * 5)) cs) ∧ elsTerm w F ad (i + 1) xs
end
theorem okTerm_len {w : World} {F : Nat → Prop} {cs : List Value} : ∀ {t : D.Term}, okTerm w F cs t → cs.length = 5
  | ⟨y0, y1, y2, y3, kids⟩, h => by
    unfold okTerm at h
    obtain ⟨a, cp, rfl, _⟩ := h; rfl
mutual
theorem okTerm_keep {w w' : World} {F F' : Nat → Prop} (hk : ∀ k, k < w.heap.size → F k → w'.heap[k]? = w.heap[k]? ∧ F' k) {cs : List Value} : ∀ (t : D.Term), okTerm w F cs t → okTerm w' F' cs t
  | ⟨y0, y1, y2, y3, kids⟩, h => by
    unfold okTerm at h ⊢
    obtain ⟨a, cp, rfl, h1, h2, h3⟩ := h
    refine ⟨a, cp, rfl, h1, h2, fun hn => ?_⟩
    obtain ⟨ad, rfl, hF, he⟩ := h3 hn
    have hlt : ad.block < w.heap.size := by
      cases kids with
      | nil => exact absurd rfl hn
      | cons x xs =>
        unfold elsTerm at he
        obtain ⟨⟨cs, h4, h5⟩, _⟩ := he
        have := h5.lt (by intro e; have := okTerm_len h4; rw [e] at this; cases this)
        rwa [add_block] at this
    exact ⟨ad, rfl, (hk _ hlt hF).2, elsTerm_keep hk ad hF kids 0 he⟩
theorem elsTerm_keep {w w' : World} {F F' : Nat → Prop} (hk : ∀ k, k < w.heap.size → F k → w'.heap[k]? = w.heap[k]? ∧ F' k) (ad : Addr) (hF : F ad.block) : ∀ (l : List D.Term) (i : Nat), elsTerm w F ad i l → elsTerm w' F' ad i l
  | [], _, _ => by unfold elsTerm; trivial
  | x :: xs, i, h => by
    unfold elsTerm at h ⊢
    obtain ⟨⟨cs, h1, h2⟩, h3⟩ := h
    have hlt : ad.block < w.heap.size := by
      have := h2.lt (by intro e; have := okTerm_len h1; rw [e] at this; cases this)
      rwa [add_block] at this
    exact ⟨⟨cs, okTerm_keep hk x h1, h2.keep fun _ => by rw [add_block]; exact (hk _ hlt hF).1⟩, elsTerm_keep hk ad hF xs (i + 1) h3⟩
end
instance : Rep D.Term where
  sz := 5
  agg := true
  ok := fun w F cs x => okTerm w F cs x
  len := okTerm_len
  one := by
    rintro w F cs ⟨y0, y1, y2, y3, kids⟩ h u hu
    unfold okTerm at h
    obtain ⟨a, cp, rfl, _⟩ := h
    simp at hu
    rcases hu with rfl | rfl | rfl | rfl | rfl <;> rfl
  pos := by decide
  sgl := fun h => by cases h
  keep := fun h hk => okTerm_keep hk _ h
theorem elsTerm_iff {w : World} {F : Nat → Prop} {ad : Addr} : ∀ {l : List D.Term} {i : Nat}, elsTerm w F ad i l ↔ elems w F ad i l
  | [], i => by unfold elsTerm elems; exact Iff.rfl
  | x :: xs, i => by
    unfold elsTerm elems
    rw [elsTerm_iff (l := xs)]
    exact Iff.rfl
theorem RV.Term {w : World} {F : Nat → Prop} {v : Value} {x : D.Term} (h : RV w F v x) : ∃ v4 : Value, v = .agg #[.int .i64 x.Op, .int .i64 x.W, .int .i64 x.N, (Str.val x.Name), v4] ∧ RV w F v4 x.Kids := by
  obtain ⟨cs, h, rfl⟩ := h
  obtain ⟨y0, y1, y2, y3, kids⟩ := x
  have h : okTerm w F cs ⟨y0, y1, y2, y3, kids⟩ := h
  unfold okTerm at h
  obtain ⟨a, cp, rfl, h1, h2, h3⟩ := h
  refine ⟨_, rfl, RV.mk_slice h1 h2 fun hn => ?_⟩
  obtain ⟨ad, h4, h5, h6⟩ := h3 hn
  exact ⟨ad, h4, h5, elsTerm_iff.1 h6⟩
theorem RV.mk_Term {w : World} {F : Nat → Prop} (x : D.Term) {v4 : Value} (h : RV w F v4 x.Kids) : RV w F (.agg #[.int .i64 x.Op, .int .i64 x.W, .int .i64 x.N, (Str.val x.Name), v4]) x := by
  obtain ⟨y0, y1, y2, y3, kids⟩ := x
  obtain ⟨a, cp, rfl, h1, h2, h3⟩ := RV.slice h
  refine ⟨_, show okTerm w F [.int .i64 y0, .int .i64 y1, .int .i64 y2, (Str.val y3), .slice a kids.length cp] ⟨y0, y1, y2, y3, kids⟩ from ?_, rfl⟩
  unfold okTerm
  refine ⟨a, cp, rfl, h1, h2, fun hn => ?_⟩
  obtain ⟨ad, h4, h5, h6⟩ := h3 hn
  exact ⟨ad, h4, h5, elsTerm_iff.2 h6⟩

mutual
def okProof (w : World) (F : Nat → Prop) (cs : List Value) : D.Proof → Prop
  | ⟨y0, kids⟩ => ∃ (a : Option Addr) (cp : Nat), cs = [.int .i64 y0, .slice a kids.length cp] ∧ kids.length ≤ cp ∧ cp ≤ maxLen ∧ (kids ≠ [] → ∃ ad, a = some ad ∧ F ad.block ∧ elsProof w F ad 0 kids)
def elsProof (w : World) (F : Nat → Prop) (ad : Addr) (i : Nat) : List D.Proof → Prop
  | [] => True
  | x :: xs => (∃ cs, okProof w F cs x ∧ Cells w (ad.add (i * 2)) cs) ∧ elsProof w F ad (i + 1) xs
end
theorem okProof_len {w : World} {F : Nat → Prop} {cs : List Value} : ∀ {t : D.Proof}, okProof w F cs t → cs.length = 2
  | ⟨y0, kids⟩, h => by
    unfold okProof at h
    obtain ⟨a, cp, rfl, _⟩ := h; rfl
mutual
theorem okProof_keep {w w' : World} {F F' : Nat → Prop} (hk : ∀ k, k < w.heap.size → F k → w'.heap[k]? = w.heap[k]? ∧ F' k) {cs : List Value} : ∀ (t : D.Proof), okProof w F cs t → okProof w' F' cs t
  | ⟨y0, kids⟩, h => by
    unfold okProof at h ⊢
    obtain ⟨a, cp, rfl, h1, h2, h3⟩ := h
    refine ⟨a, cp, rfl, h1, h2, fun hn => ?_⟩
    obtain ⟨ad, rfl, hF, he⟩ := h3 hn
    have hlt : ad.block < w.heap.size := by
      cases kids with
      | nil => exact absurd rfl hn
      | cons x xs =>
        unfold elsProof at he
        obtain ⟨⟨cs, h4, h5⟩, _⟩ := he
        have := h5.lt (by intro e; have := okProof_len h4; rw [e] at this; cases this)
        rwa [add_block] at this
    exact ⟨ad, rfl, (hk _ hlt hF).2, elsProof_keep hk ad hF kids 0 he⟩
theorem elsProof_keep {w w' : World} {F F' : Nat → Prop} (hk : ∀ k, k < w.heap.size → F k → w'.heap[k]? = w.heap[k]? ∧ F' k) (ad : Addr) (hF : F ad.block) : ∀ (l : List D.Proof) (i : Nat), elsProof w F ad i l → elsProof w' F' ad i l
  | [], _, _ => by unfold elsProof; trivial
  | x :: xs, i, h => by
    unfold elsProof at h ⊢
    obtain ⟨⟨cs, h1, h2⟩, h3⟩ := h
    have hlt : ad.block < w.heap.size := by
      have := h2.lt (by intro e; have := okProof_len h1; rw [e] at this; cases this)
      rwa [add_block] at this
    exact ⟨⟨cs, okProof_keep hk x h1, h2.keep fun _ => by rw [add_block]; exact (hk _ hlt hF).1⟩, elsProof_keep hk ad hF xs (i + 1) h3⟩
end
instance : Rep D.Proof where
  sz := 2
  agg := true
  ok := fun w F cs x => okProof w F cs x
  len := okProof_len
  one := by
    rintro w F cs ⟨y0, kids⟩ h u hu
    unfold okProof at h
    obtain ⟨a, cp, rfl, _⟩ := h
    simp at hu
    rcases hu with rfl | rfl <;> rfl
  pos := by decide
  sgl := fun h => by cases h
  keep := fun h hk => okProof_keep hk _ h
theorem elsProof_iff {w : World} {F : Nat → Prop} {ad : Addr} : ∀ {l : List D.Proof} {i : Nat}, elsProof w F ad i l ↔ elems w F ad i l
  | [], i => by unfold elsProof elems; exact Iff.rfl
  | x :: xs, i => by
    unfold elsProof elems
    rw [elsProof_iff (l := xs)]
    exact Iff.rfl
theorem RV.Proof {w : World} {F : Nat → Prop} {v : Value} {x : D.Proof} (h : RV w F v x) : ∃ v1 : Value, v = .agg #[.int .i64 x.Var, v1] ∧ RV w F v1 x.Kids := by
  obtain ⟨cs, h, rfl⟩ := h
  obtain ⟨y0, kids⟩ := x
  have h : okProof w F cs ⟨y0, kids⟩ := h
  unfold okProof at h
  obtain ⟨a, cp, rfl, h1, h2, h3⟩ := h
  refine ⟨_, rfl, RV.mk_slice h1 h2 fun hn => ?_⟩
  obtain ⟨ad, h4, h5, h6⟩ := h3 hn
  exact ⟨ad, h4, h5, elsProof_iff.1 h6⟩
instance : Rep D.Path where
  sz := 10
  agg := true
  ok := fun w F cs x => ∃ v1 v2 v3 v5 v8 v9 : Value, cs = [.int .i64 x.Pc, v1, v2, v3, .int .i64 x.In, v5, .int .i64 x.Code, .int .i64 x.Steps, v8, v9] ∧ Rep.ok w F [v1] x.Regs ∧ Rep.ok w F [v2] x.Mem ∧ Rep.ok w F [v3] x.Stack ∧ Rep.ok w F [v5] x.Out ∧ Rep.ok w F [v8] x.Cond ∧ Rep.ok w F [v9] x.Turns
  len := by rintro w F cs x ⟨v1, v2, v3, v5, v8, v9, rfl, h1, h2, h3, h5, h8, h9⟩; rfl
  one := by
    rintro w F cs x ⟨v1, v2, v3, v5, v8, v9, rfl, h1, h2, h3, h5, h8, h9⟩ u hu
    simp at hu
    rcases hu with rfl | rfl | rfl | rfl | rfl | rfl | rfl | rfl | rfl | rfl
    · rfl
    · exact Rep.one h1 _ (by simp)
    · exact Rep.one h2 _ (by simp)
    · exact Rep.one h3 _ (by simp)
    · rfl
    · exact Rep.one h5 _ (by simp)
    · rfl
    · rfl
    · exact Rep.one h8 _ (by simp)
    · exact Rep.one h9 _ (by simp)
  pos := by decide
  sgl := fun h => by cases h
  keep := by
    rintro w w' F F' cs x ⟨v1, v2, v3, v5, v8, v9, rfl, h1, h2, h3, h5, h8, h9⟩ hk
    exact ⟨v1, v2, v3, v5, v8, v9, rfl, Rep.keep h1 hk, Rep.keep h2 hk, Rep.keep h3 hk, Rep.keep h5 hk, Rep.keep h8 hk, Rep.keep h9 hk⟩
theorem RV.Path {w : World} {F : Nat → Prop} {v : Value} {x : D.Path} (h : RV w F v x) : ∃ v1 v2 v3 v5 v8 v9 : Value, v = .agg #[.int .i64 x.Pc, v1, v2, v3, .int .i64 x.In, v5, .int .i64 x.Code, .int .i64 x.Steps, v8, v9] ∧ RV w F v1 x.Regs ∧ RV w F v2 x.Mem ∧ RV w F v3 x.Stack ∧ RV w F v5 x.Out ∧ RV w F v8 x.Cond ∧ RV w F v9 x.Turns := by
  obtain ⟨cs, ⟨v1, v2, v3, v5, v8, v9, rfl, h1, h2, h3, h5, h8, h9⟩, rfl⟩ := h
  exact ⟨v1, v2, v3, v5, v8, v9, rfl, RV.of_one rfl h1, RV.of_one rfl h2, RV.of_one rfl h3, RV.of_one rfl h5, RV.of_one rfl h8, RV.of_one rfl h9⟩
instance : Rep D.State where
  sz := 8
  agg := true
  ok := fun w F cs x => ∃ v1 v2 v3 v5 : Value, cs = [.int .i64 x.Pc, v1, v2, v3, .int .i64 x.In, v5, .int .i64 x.Code, .int .i64 x.Steps] ∧ Rep.ok w F [v1] x.Regs ∧ Rep.ok w F [v2] x.Mem ∧ Rep.ok w F [v3] x.Stack ∧ Rep.ok w F [v5] x.Out
  len := by rintro w F cs x ⟨v1, v2, v3, v5, rfl, h1, h2, h3, h5⟩; rfl
  one := by
    rintro w F cs x ⟨v1, v2, v3, v5, rfl, h1, h2, h3, h5⟩ u hu
    simp at hu
    rcases hu with rfl | rfl | rfl | rfl | rfl | rfl | rfl | rfl
    · rfl
    · exact Rep.one h1 _ (by simp)
    · exact Rep.one h2 _ (by simp)
    · exact Rep.one h3 _ (by simp)
    · rfl
    · exact Rep.one h5 _ (by simp)
    · rfl
    · rfl
  pos := by decide
  sgl := fun h => by cases h
  keep := by
    rintro w w' F F' cs x ⟨v1, v2, v3, v5, rfl, h1, h2, h3, h5⟩ hk
    exact ⟨v1, v2, v3, v5, rfl, Rep.keep h1 hk, Rep.keep h2 hk, Rep.keep h3 hk, Rep.keep h5 hk⟩
theorem RV.State {w : World} {F : Nat → Prop} {v : Value} {x : D.State} (h : RV w F v x) : ∃ v1 v2 v3 v5 : Value, v = .agg #[.int .i64 x.Pc, v1, v2, v3, .int .i64 x.In, v5, .int .i64 x.Code, .int .i64 x.Steps] ∧ RV w F v1 x.Regs ∧ RV w F v2 x.Mem ∧ RV w F v3 x.Stack ∧ RV w F v5 x.Out := by
  obtain ⟨cs, ⟨v1, v2, v3, v5, rfl, h1, h2, h3, h5⟩, rfl⟩ := h
  exact ⟨v1, v2, v3, v5, rfl, RV.of_one rfl h1, RV.of_one rfl h2, RV.of_one rfl h3, RV.of_one rfl h5⟩
end Go.GL
