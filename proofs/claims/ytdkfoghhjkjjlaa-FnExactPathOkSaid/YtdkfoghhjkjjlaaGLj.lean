/- Own library, part j: calls, in regions of any order, whose arguments or results have memory. -/
import Derived.Test.YtdkfoghhjkjjlaaGLi
namespace Go.GL
open Go.RowKit

/-- what is known of an operand: its value, or that operation i gave it -/
def argSpec (ops : Array Oper) (σ : List (Nat × Value)) (pds : List Pd) (j : Nat) (x : Operand) : Option (Value ⊕ Nat) :=
  match envP ops σ pds j x with
  | some u => some (.inl u)
  | none => match x with
    | .tmp t => match lastW ops t j with
      | some i => if okG ops ops.size j i then some (.inr i) else none
      | none => none
    | _ => none

def SpecP (pds : List Pd) (w : World) : List (Value ⊕ Nat) → List Value → Prop
  | [], vs => vs = []
  | .inl u :: r, vs => ∃ rest, vs = u :: rest ∧ SpecP pds w r rest
  | .inr i :: r, vs => ∃ v rest, vs = v :: rest ∧ (pds.getD i .any).sat v w ∧ SpecP pds w r rest

section
variable {P : Program} {draw : Bool} {ms : List Nat} {ops : Array Oper} {a0 : Act} {w0 : World} {Q : Exit → Act → World → Prop} {pds : List Pd} {σ : List (Nat × Value)} {N : Nat}
variable {j d : Nat} {dst : Option Tmp} {g : Option (Nat × Bool)} {t ty : TypeId} {x y : Operand} {pos : String} {af : Array Edge}

theorem spec_args {xs : List Operand} {spec : List (Value ⊕ Nat)} {o : Oper} {a : Act} {w : World} (hG : Good ops pds []) (hj : Nat.blt j ops.size = true) (hg : gc ops pds ops.size j) (hs : ∀ x ∈ xs, x ∈ o.op.operands)
    (hv : ∀ x v, x ∈ o.op.operands → envP ops σ pds j x = some v → a.eval x = v) (hk : ∀ t, Operand.tmp t ∈ o.op.operands → Know ops (TT ops pds) a0 j t (a.eval (.tmp t)) w)
    (h : xs.map (argSpec ops σ pds j) = spec.map some) : SpecP pds w spec (xs.map a.eval) := by
  induction xs generalizing spec with
  | nil => cases spec with
    | nil => rfl
    | cons => simp at h
  | cons x xs ih => cases spec with
    | nil => simp at h
    | cons s r =>
      simp only [List.map_cons, List.cons.injEq] at h
      have hr := ih (fun y hy => hs y (List.mem_cons_of_mem _ hy)) h.2
      have hx := h.1
      unfold argSpec at hx
      cases hu : envP ops σ pds j x with
      | some u =>
        rw [hu] at hx
        simp only [Option.some.injEq] at hx
        subst hx
        exact ⟨_, by rw [List.map_cons, hv x _ (hs x List.mem_cons_self) hu], hr⟩
      | none =>
        rw [hu] at hx
        simp only at hx
        split at hx
        · rename_i t
          split at hx
          · rename_i i hl
            split at hx
            · rename_i hok
              simp only [Option.some.injEq] at hx
              subst hx
              exact ⟨_, _, rfl, know_is hG hj hl hok hg (hk t (hs _ List.mem_cons_self)), hr⟩
            · cases hx
          · cases hx
        · cases hx

/-- a call, some of whose arguments come from operations of the region -/
theorem np_callI {f : FuncId} {xs : Array Operand} {ts : Array TypeId} (spec : List (Value ⊕ Nat)) (hG : Good ops pds []) (hF : FrS N σ a0) (hf : ∀ (args : Array Value) (w : World), (callFunc f args).run P w = .ok (.enter f args) w)
    (ho : ops[j]? = some ⟨dst, .call ⟨.value (.func f), xs, ts⟩, ty, pos, af, g⟩) (hj : Nat.blt j ops.size = true) (hargs : xs.toList.map (argSpec ops σ pds j) = spec.map some)
    (hc : ∀ w vs, Chg Non w0 w → gc ops pds ops.size j → SpecP pds w spec vs → Calls P f vs.toArray w fun e w' => ∃ v, e = .returned v ∧ Chg Non w w' ∧ (pds.getD j .any).sat v w') : NPB P draw ms ops pds a0 w0 Q j :=
  np_b _ ho hG hF fun a w hC hg hv hk => by
    have h1 := spec_args (o := ⟨dst, .call ⟨.value (.func f), xs, ts⟩, ty, pos, af, g⟩) (xs := xs.toList) hG hj hg (fun x hx => by simp [Op.operands, Call.operands]; exact .inr (by simpa using hx)) hv hk hargs
    exact does_call (args := (xs.toList.map a.eval).toArray) rfl hf (by cases xs; simp) ((hc w _ hC hg h1).mono fun e w' ⟨v, he, h2, h3⟩ => ⟨v, he, h3, h2⟩)
end
end Go.GL
