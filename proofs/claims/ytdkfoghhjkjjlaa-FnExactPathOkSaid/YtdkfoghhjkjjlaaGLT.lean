/- Own library, part T: opening values in a walk; raw structs. Printed by gen_types9.py. -/
import Derived.Test.YtdkfoghhjkjjlaaGLM
import Derived.Test.YtdkfoghhjkjjlaaGLt
set_option linter.unusedVariables false
namespace Go.GL
open Go.RowKit
/-- ρ is what lies in the cells of an α -/
class RawOf (ρ α : Type) [Flat ρ] [Rep α] : Prop where
  sz : Rep.sz ρ = Rep.sz α
  agg : Rep.agg ρ = Rep.agg α
  ex : ∀ {w : World} {F : Nat → Prop} {cs : List Value} {x : α}, Rep.ok w F cs x → ∃ q : ρ, cs = Flat.enc q

def FacL (w : World) (F : Nat → Prop) : List RF → Prop
  | [] => True
  | R :: l => R.ok w F ∧ FacL w F l
theorem AllF.of {w : World} {F : Nat → Prop} : ∀ (Ψ : List RF), FacL w F Ψ → AllF Ψ w F
  | [], _ => AllF.nil
  | R :: l, h => fun R' hR => by
    rcases List.mem_cons.1 hR with rfl | hR
    · exact h.1
    · exact AllF.of l h.2 R' hR
deriving instance Inhabited for Hd

section
variable {B : Bs} {N : Nat} {σ : List (Nat × Value)} {Γ : List HP} {Φ : List RF} {a : Act} {w : World}
theorem fo_Value0 {q : D.Value} {w : World} {F : Nat → Prop} {cs : List Value} (h : Rep.ok w F cs q) : cs[0]? = some ((Str.val q.Name)) := by rw [Flat.iff.1 h]; rfl
theorem fo_Value1 {q : D.Value} {w : World} {F : Nat → Prop} {cs : List Value} (h : Rep.ok w F cs q) : cs[1]? = some (.int .i64 q.W) := by rw [Flat.iff.1 h]; rfl
theorem Ava.mk_Term (x : D.Term) {v4 : Value} (h4 : Ava Γ Φ w (RO v4 x.Kids)) : Ava Γ Φ w (RO (.agg #[.int .i64 x.Op, .int .i64 x.W, .int .i64 x.N, (Str.val x.Name), v4]) x) := fun S F hs hf => RV.mk_Term x (h4 S F hs hf)
theorem Cx.o_Term {v : Value} {x : D.Term} (i : Nat) (c : Cx B N σ Γ Φ a w) (hi : Φ[i]? = some (RO v x) := by rfl) : ∃ (a4 : Option Addr) (c4 : Nat), v = .agg #[.int .i64 x.Op, .int .i64 x.W, .int .i64 x.N, (Str.val x.Name), .slice a4 x.Kids.length c4] ∧ Cx B N σ Γ (Φ ++ [RO (.slice a4 x.Kids.length c4) x.Kids]) a w := by
  obtain ⟨hF, S, F, hM, hs, hf⟩ := c
  obtain ⟨v4, rfl, h4⟩ := RV.Term (hf.get hi)
  obtain ⟨a4, c4, rfl, _⟩ := RV.slice h4
  exact ⟨a4, c4, rfl, hF, S, F, hM, hs, hf.join (AllF.of [_] ⟨h4, trivial⟩)⟩
theorem fo_Term1 {q : D.Term} {w : World} {F : Nat → Prop} {cs : List Value} (h : Rep.ok w F cs q) : cs[1]? = some (.int .i64 q.W) := by
  obtain ⟨y0, y1, y2, y3, y4⟩ := q
  have h : okTerm w F cs ⟨y0, y1, y2, y3, y4⟩ := h
  unfold okTerm at h
  obtain ⟨_, _, rfl, _⟩ := h
  rfl
structure Rw.Term where
  Op : Int
  W : Int
  N : Int
  Name : Str
  Kids : Hd
deriving Inhabited
instance : Rep Rw.Term where
  sz := 5
  agg := true
  ok := fun _ _ cs x => cs = [.int .i64 x.Op, .int .i64 x.W, .int .i64 x.N, (Str.val x.Name), x.Kids.v]
  len := by rintro w F cs x rfl; rfl
  one := by rintro w F cs x rfl u hu; simp at hu; rcases hu with rfl | rfl | rfl | rfl | rfl <;> rfl
  pos := by decide
  sgl := fun h => by cases h
  keep := fun h _ => h
instance : Flat Rw.Term where
  enc := fun x => [.int .i64 x.Op, .int .i64 x.W, .int .i64 x.N, (Str.val x.Name), x.Kids.v]
  iff := Iff.rfl
theorem rz_Term (w : World) (F : Nat → Prop) : Rep.ok w F (Flat.enc (⟨0, 0, 0, ⟨[]⟩, ⟨none, 0, 0⟩⟩ : Rw.Term)) (⟨0, 0, 0, ⟨[]⟩, []⟩ : D.Term) := by
  show okTerm w F _ _
  unfold okTerm
  exact ⟨none, 0, rfl, Nat.le_refl _, Nat.zero_le _, fun h => absurd rfl h⟩
instance : RawOf Rw.Term D.Term where
  sz := rfl
  agg := rfl
  ex := by
    rintro w F cs ⟨y0, y1, y2, y3, kids⟩ h
    have h : okTerm w F cs ⟨y0, y1, y2, y3, kids⟩ := h
    unfold okTerm at h
    obtain ⟨a, cp, rfl, _⟩ := h
    exact ⟨⟨y0, y1, y2, y3, ⟨a, kids.length, cp⟩⟩, rfl⟩
structure Rw.Proof where
  Var : Int
  Kids : Hd
deriving Inhabited
instance : Rep Rw.Proof where
  sz := 2
  agg := true
  ok := fun _ _ cs x => cs = [.int .i64 x.Var, x.Kids.v]
  len := by rintro w F cs x rfl; rfl
  one := by rintro w F cs x rfl u hu; simp at hu; rcases hu with rfl | rfl <;> rfl
  pos := by decide
  sgl := fun h => by cases h
  keep := fun h _ => h
instance : Flat Rw.Proof where
  enc := fun x => [.int .i64 x.Var, x.Kids.v]
  iff := Iff.rfl
instance : RawOf Rw.Proof D.Proof where
  sz := rfl
  agg := rfl
  ex := by
    rintro w F cs ⟨y0, kids⟩ h
    have h : okProof w F cs ⟨y0, kids⟩ := h
    unfold okProof at h
    obtain ⟨a, cp, rfl, _⟩ := h
    exact ⟨⟨y0, ⟨a, kids.length, cp⟩⟩, rfl⟩
structure Rw.Path where
  Pc : Int
  Regs : Hd
  Mem : Hd
  Stack : Hd
  In : Int
  Out : Hd
  Code : Int
  Steps : Int
  Cond : Hd
  Turns : Hd
deriving Inhabited
instance : Rep Rw.Path where
  sz := 10
  agg := true
  ok := fun _ _ cs x => cs = [.int .i64 x.Pc, x.Regs.v, x.Mem.v, x.Stack.v, .int .i64 x.In, x.Out.v, .int .i64 x.Code, .int .i64 x.Steps, x.Cond.v, x.Turns.v]
  len := by rintro w F cs x rfl; rfl
  one := by rintro w F cs x rfl u hu; simp at hu; rcases hu with rfl | rfl | rfl | rfl | rfl | rfl | rfl | rfl | rfl | rfl <;> rfl
  pos := by decide
  sgl := fun h => by cases h
  keep := fun h _ => h
instance : Flat Rw.Path where
  enc := fun x => [.int .i64 x.Pc, x.Regs.v, x.Mem.v, x.Stack.v, .int .i64 x.In, x.Out.v, .int .i64 x.Code, .int .i64 x.Steps, x.Cond.v, x.Turns.v]
  iff := Iff.rfl
instance : RawOf Rw.Path D.Path where
  sz := rfl
  agg := rfl
  ex := by
    rintro w F cs x ⟨v1, v2, v3, v5, v8, v9, rfl, h1, h2, h3, h5, h8, h9⟩
    obtain ⟨a1, c1, e1, _⟩ := h1
    simp only [List.cons.injEq, and_true] at e1
    subst e1
    obtain ⟨a2, c2, e2, _⟩ := h2
    simp only [List.cons.injEq, and_true] at e2
    subst e2
    obtain ⟨a3, c3, e3, _⟩ := h3
    simp only [List.cons.injEq, and_true] at e3
    subst e3
    obtain ⟨a5, c5, e5, _⟩ := h5
    simp only [List.cons.injEq, and_true] at e5
    subst e5
    obtain ⟨a8, c8, e8, _⟩ := h8
    simp only [List.cons.injEq, and_true] at e8
    subst e8
    obtain ⟨a9, c9, e9, _⟩ := h9
    simp only [List.cons.injEq, and_true] at e9
    subst e9
    exact ⟨⟨x.Pc, ⟨a1, x.Regs.length, c1⟩, ⟨a2, x.Mem.length, c2⟩, ⟨a3, x.Stack.length, c3⟩, x.In, ⟨a5, x.Out.length, c5⟩, x.Code, x.Steps, ⟨a8, x.Cond.length, c8⟩, ⟨a9, x.Turns.length, c9⟩⟩, rfl⟩
end
end Go.GL
