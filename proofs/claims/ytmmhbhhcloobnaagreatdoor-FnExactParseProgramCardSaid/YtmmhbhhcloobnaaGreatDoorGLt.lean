/- Own library, part t: how the structs lie in memory. Printed by gen_types.py. -/
import Derived.Test.YtmmhbhhcloobnaaGreatDoorGLj
namespace Go.GL
open Go.RowKit
instance : Rep D.Gate where
  sz := 2
  agg := true
  ok := fun _ _ cs x => cs = [.int .i64 x.A, .int .i64 x.B]
  len := by rintro w F cs x rfl; rfl
  one := by rintro w F cs x rfl u hu; simp at hu; rcases hu with rfl | rfl <;> rfl
  pos := by decide
  sgl := fun h => by cases h
  keep := fun h _ => h
instance : Flat D.Gate where
  enc := fun x => [.int .i64 x.A, .int .i64 x.B]
  iff := Iff.rfl

instance : Rep D.Circuit where
  sz := 2
  agg := true
  ok := fun w F cs x => ∃ v1 : Value, cs = [.int .i64 x.Inputs, v1] ∧ Rep.ok w F [v1] x.Gates
  len := by rintro w F cs x ⟨v1, rfl, h1⟩; rfl
  one := by
    rintro w F cs x ⟨v1, rfl, h1⟩ u hu
    simp at hu
    rcases hu with rfl | rfl
    · rfl
    · exact Rep.one h1 _ (by simp)
  pos := by decide
  sgl := fun h => by cases h
  keep := by
    rintro w w' F F' cs x ⟨v1, rfl, h1⟩ hk
    exact ⟨v1, rfl, Rep.keep h1 hk⟩
theorem RV.Circuit {w : World} {F : Nat → Prop} {v : Value} {x : D.Circuit} (h : RV w F v x) : ∃ v1 : Value, v = .agg #[.int .i64 x.Inputs, v1] ∧ RV w F v1 x.Gates := by
  obtain ⟨cs, ⟨v1, rfl, h1⟩, rfl⟩ := h
  exact ⟨v1, rfl, RV.of_one rfl h1⟩
instance : Rep D.Formula where
  sz := 2
  agg := true
  ok := fun w F cs x => ∃ v1 : Value, cs = [.int .i64 x.Vars, v1] ∧ Rep.ok w F [v1] x.Clauses
  len := by rintro w F cs x ⟨v1, rfl, h1⟩; rfl
  one := by
    rintro w F cs x ⟨v1, rfl, h1⟩ u hu
    simp at hu
    rcases hu with rfl | rfl
    · rfl
    · exact Rep.one h1 _ (by simp)
  pos := by decide
  sgl := fun h => by cases h
  keep := by
    rintro w w' F F' cs x ⟨v1, rfl, h1⟩ hk
    exact ⟨v1, rfl, Rep.keep h1 hk⟩
theorem RV.Formula {w : World} {F : Nat → Prop} {v : Value} {x : D.Formula} (h : RV w F v x) : ∃ v1 : Value, v = .agg #[.int .i64 x.Vars, v1] ∧ RV w F v1 x.Clauses := by
  obtain ⟨cs, ⟨v1, rfl, h1⟩, rfl⟩ := h
  exact ⟨v1, rfl, RV.of_one rfl h1⟩
instance : Rep D.Ins where
  sz := 4
  agg := true
  ok := fun _ _ cs x => cs = [.int .i64 x.Op, .int .i64 x.A, .int .i64 x.B, .int .i64 x.C]
  len := by rintro w F cs x rfl; rfl
  one := by rintro w F cs x rfl u hu; simp at hu; rcases hu with rfl | rfl | rfl | rfl <;> rfl
  pos := by decide
  sgl := fun h => by cases h
  keep := fun h _ => h
instance : Flat D.Ins where
  enc := fun x => [.int .i64 x.Op, .int .i64 x.A, .int .i64 x.B, .int .i64 x.C]
  iff := Iff.rfl

instance : Rep D.Program where
  sz := 4
  agg := true
  ok := fun w F cs x => ∃ v3 : Value, cs = [.int .i64 x.W, .int .i64 x.Mem, .int .i64 x.In, v3] ∧ Rep.ok w F [v3] x.Code
  len := by rintro w F cs x ⟨v3, rfl, h3⟩; rfl
  one := by
    rintro w F cs x ⟨v3, rfl, h3⟩ u hu
    simp at hu
    rcases hu with rfl | rfl | rfl | rfl
    · rfl
    · rfl
    · rfl
    · exact Rep.one h3 _ (by simp)
  pos := by decide
  sgl := fun h => by cases h
  keep := by
    rintro w w' F F' cs x ⟨v3, rfl, h3⟩ hk
    exact ⟨v3, rfl, Rep.keep h3 hk⟩
theorem RV.Program {w : World} {F : Nat → Prop} {v : Value} {x : D.Program} (h : RV w F v x) : ∃ v3 : Value, v = .agg #[.int .i64 x.W, .int .i64 x.Mem, .int .i64 x.In, v3] ∧ RV w F v3 x.Code := by
  obtain ⟨cs, ⟨v3, rfl, h3⟩, rfl⟩ := h
  exact ⟨v3, rfl, RV.of_one rfl h3⟩
theorem RV.mk_Program {w : World} {F : Nat → Prop} (x : D.Program) {v3 : Value} (h3 : RV w F v3 x.Code) : RV w F (.agg #[.int .i64 x.W, .int .i64 x.Mem, .int .i64 x.In, v3]) x :=
  ⟨[.int .i64 x.W, .int .i64 x.Mem, .int .i64 x.In, v3], ⟨v3, rfl, RV.one rfl h3⟩, rfl⟩

instance : Rep D.Term where
  sz := 5
  agg := true
  ok := fun _ _ cs x => cs = [.int .i64 x.Op, .int .i64 x.W, .int .i64 x.N, (Str.val x.Name), .slice none 0 0]
  len := by rintro w F cs x rfl; rfl
  one := by rintro w F cs x rfl u hu; simp at hu; rcases hu with rfl | rfl | rfl | rfl | rfl <;> rfl
  pos := by decide
  sgl := fun h => by cases h
  keep := fun h _ => h
instance : Flat D.Term where
  enc := fun x => [.int .i64 x.Op, .int .i64 x.W, .int .i64 x.N, (Str.val x.Name), .slice none 0 0]
  iff := Iff.rfl

instance : Rep D.Path where
  sz := 10
  agg := true
  ok := fun w F cs x => ∃ v1 v2 v3 v5 v8 v9 : Value, cs = [.int .i64 x.Pc, v1, v2, v3, .int .i64 x.In, v5, .int .i64 x.Code, .int .i64 x.Steps, v8, v9] ∧ Rep.ok w F [v1] x.Regs ∧ Rep.ok w F [v2] x.Mem ∧ Rep.ok w F [v3] x.Stack ∧ Rep.ok w F [v5] x.Out ∧ Rep.ok w F [v8] x.Cond ∧ Rep.ok w F [v9] x.Turns
  len := by rintro w F cs x ⟨v1, v2, v3, v5, v8, v9, rfl, h1, h2, h3, h5, h8, h9⟩; rfl
  one := by
    rintro w F cs x ⟨v1, v2, v3, v5, v8, v9, rfl, h1, h2, h3, h5, h8, h9⟩ u hu
    simp at hu
    rcases hu with rfl | rfl | rfl | rfl | rfl | rfl | rfl | rfl | rfl | rfl
    · rfl
    · exact Rep.one h1 _ (by simp)
    · exact Rep.one h2 _ (by simp)
    · exact Rep.one h3 _ (by simp)
    · rfl
    · exact Rep.one h5 _ (by simp)
    · rfl
    · rfl
    · exact Rep.one h8 _ (by simp)
    · exact Rep.one h9 _ (by simp)
  pos := by decide
  sgl := fun h => by cases h
  keep := by
    rintro w w' F F' cs x ⟨v1, v2, v3, v5, v8, v9, rfl, h1, h2, h3, h5, h8, h9⟩ hk
    exact ⟨v1, v2, v3, v5, v8, v9, rfl, Rep.keep h1 hk, Rep.keep h2 hk, Rep.keep h3 hk, Rep.keep h5 hk, Rep.keep h8 hk, Rep.keep h9 hk⟩
theorem RV.Path {w : World} {F : Nat → Prop} {v : Value} {x : D.Path} (h : RV w F v x) : ∃ v1 v2 v3 v5 v8 v9 : Value, v = .agg #[.int .i64 x.Pc, v1, v2, v3, .int .i64 x.In, v5, .int .i64 x.Code, .int .i64 x.Steps, v8, v9] ∧ RV w F v1 x.Regs ∧ RV w F v2 x.Mem ∧ RV w F v3 x.Stack ∧ RV w F v5 x.Out ∧ RV w F v8 x.Cond ∧ RV w F v9 x.Turns := by
  obtain ⟨cs, ⟨v1, v2, v3, v5, v8, v9, rfl, h1, h2, h3, h5, h8, h9⟩, rfl⟩ := h
  exact ⟨v1, v2, v3, v5, v8, v9, rfl, RV.of_one rfl h1, RV.of_one rfl h2, RV.of_one rfl h3, RV.of_one rfl h5, RV.of_one rfl h8, RV.of_one rfl h9⟩
instance : Rep D.State where
  sz := 8
  agg := true
  ok := fun w F cs x => ∃ v1 v2 v3 v5 : Value, cs = [.int .i64 x.Pc, v1, v2, v3, .int .i64 x.In, v5, .int .i64 x.Code, .int .i64 x.Steps] ∧ Rep.ok w F [v1] x.Regs ∧ Rep.ok w F [v2] x.Mem ∧ Rep.ok w F [v3] x.Stack ∧ Rep.ok w F [v5] x.Out
  len := by rintro w F cs x ⟨v1, v2, v3, v5, rfl, h1, h2, h3, h5⟩; rfl
  one := by
    rintro w F cs x ⟨v1, v2, v3, v5, rfl, h1, h2, h3, h5⟩ u hu
    simp at hu
    rcases hu with rfl | rfl | rfl | rfl | rfl | rfl | rfl | rfl
    · rfl
    · exact Rep.one h1 _ (by simp)
    · exact Rep.one h2 _ (by simp)
    · exact Rep.one h3 _ (by simp)
    · rfl
    · exact Rep.one h5 _ (by simp)
    · rfl
    · rfl
  pos := by decide
  sgl := fun h => by cases h
  keep := by
    rintro w w' F F' cs x ⟨v1, v2, v3, v5, rfl, h1, h2, h3, h5⟩ hk
    exact ⟨v1, v2, v3, v5, rfl, Rep.keep h1 hk, Rep.keep h2 hk, Rep.keep h3 hk, Rep.keep h5 hk⟩
theorem RV.State {w : World} {F : Nat → Prop} {v : Value} {x : D.State} (h : RV w F v x) : ∃ v1 v2 v3 v5 : Value, v = .agg #[.int .i64 x.Pc, v1, v2, v3, .int .i64 x.In, v5, .int .i64 x.Code, .int .i64 x.Steps] ∧ RV w F v1 x.Regs ∧ RV w F v2 x.Mem ∧ RV w F v3 x.Stack ∧ RV w F v5 x.Out := by
  obtain ⟨cs, ⟨v1, v2, v3, v5, rfl, h1, h2, h3, h5⟩, rfl⟩ := h
  exact ⟨v1, v2, v3, v5, rfl, RV.of_one rfl h1, RV.of_one rfl h2, RV.of_one rfl h3, RV.of_one rfl h5⟩
end Go.GL
