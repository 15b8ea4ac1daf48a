/- THIS FILE PROVES Rows.FnExactFormulaOfSaid: for every input the law FnExactFormulaOf returns true, and what it was given reads as it did. -/
import Derived.Test.YtknlknnihinmjaaRows
import Derived.Test.YtknlknnihinmjaaWlk
import Derived.Test.YtknlknnihinmjaaGLu
import Derived.Test.YtknlknnihinmjaaPFormulaOf
import Derived.WalkKit
import Derived.ProofKit
import Derived.OpenShut
import Derived.ShutString
import Derived.ChangeOld
import Derived.Below
namespace Go.Proofs.Ytknlknnihinmjaa.fnExactFormulaOf
open Go.GL Go.ChangeShapes Go.WideShapes Go.ChangeAt Go.RowKit
open Go.ChangeMaps (open_string shut_string)
set_option linter.unusedVariables false
set_option maxRecDepth 100000

theorem own : ownKnob Try.prog.godebug = none := by kernel_rfl
theorem laidOut : laidOutB Try.prog = true := by kernel_rfl

theorem opens_Gate : Opens Try.prog 137 D.Gate fit_Gate := by
  intro H enc w base spare held fuel cs x h
  obtain ⟨xs, n, rfl, -, hl, hx, hf⟩ := DataW.trod_struct Try.underlying137 h
  replace hl : cs.length = 2 := hl.trans (by kernel_rfl)
  obtain ⟨a0, h0, f0⟩ := field_of hf hx 0 _ 1 rfl (opens_int Try.underlying3) (by kernel_rfl)
  obtain ⟨a1, h1, f1⟩ := field_of hf hx 1 _ 1 rfl (opens_int Try.underlying3) (by kernel_rfl)
  match cs, hl with
  | [c0, c1], _ =>
    have h0 : [c0] = [_] := h0
    obtain rfl := List.head_eq_of_cons_eq h0
    have h1 : [c1] = [_] := h1
    obtain rfl := List.head_eq_of_cons_eq h1
    exact ⟨⟨a0, a1⟩, rfl, f0, f1⟩

theorem opens_Circuit : Opens Try.prog 45 D.Circuit fit_Circuit := by
  intro H enc w base spare held fuel cs x h
  obtain ⟨xs, n, rfl, -, hl, hx, hf⟩ := DataW.trod_struct Try.underlying45 h
  replace hl : cs.length = 2 := hl.trans (by kernel_rfl)
  obtain ⟨a0, h0, f0⟩ := field_of hf hx 0 _ 1 rfl (opens_int Try.underlying3) (by kernel_rfl)
  obtain ⟨a1, h1, f1⟩ := field_of hf hx 1 _ 1 rfl (opens_list Try.underlying43 (by kernel_rfl) opens_Gate) (by kernel_rfl)
  match cs, hl with
  | [c0, c1], _ =>
    have h0 : [c0] = [_] := h0
    obtain rfl := List.head_eq_of_cons_eq h0
    exact ⟨⟨a0, a1⟩, ⟨_, rfl, h1⟩, f0, f1⟩

set_option maxRecDepth 100000 in
theorem lifted (os : Os) (started : os.Started) (H : Type) (enc : TypeId × Value → H) :
    ReturnsInHanded {} Try.checked os 7 .any (Rows.fnExactFormulaOfSpec.pre6 enc Try.prog Try.f7 Rows.fnExactFormulaOfRow.domain false) (Rows.fnExactFormulaOfSpec.post enc Try.prog Try.f7 false true false false) := by
  refine returnsInHanded_of_change (C := Try.checked) own started (by kernel_rfl) Try.func7
    (ChangeSpec.witness6 (enc := enc) (C := Try.checked) false ⟨#[], #[.agg #[.int .i64 0, .slice none 0 0], .int .i64 0], []⟩ 8 (by kernel_rfl) (by kernel_rfl) (by kernel_rfl) (by kernel_rfl)) ?_
  intro W base args ds gs before hval0 hW hcnd _
  have hval : ∀ (j : Nat) t v, Try.f7.params[j]? = some t → args[j]? = some v → Value.okWide Try.prog W .any base t v := hval0
  have hW' := hW
  obtain ⟨p, q, hA0, hV, rfl, hfz, hnd⟩ := hW
  have hA : DataW.TrodAll enc Try.prog W 0 (fun _ => true) true Try.f7.params.toList args.toList ds p := hA0
  rw [Try.params7] at hA hval
  obtain ⟨v0, vs0, d0, ds0, p0, q0, hargs, rfl, rfl, h0, r0⟩ := trodAll_cons hA
  obtain ⟨v1, vs1, d1, ds1, p1, q1, rfl, rfl, rfl, h1, r1⟩ := trodAll_cons r0
  obtain ⟨rfl, rfl, rfl⟩ := trodAll_nil r1
  obtain rfl : args = #[v0, v1] := by cases args; simp_all
  obtain ⟨rfl, rfl⟩ := trodVars_none hV
  have lt0 : ∀ x ∈ p0, x.block < W.heap.size := by obtain ⟨m, hm⟩ := h0; exact DataW.trod_lt m _ _ _ hm
  obtain ⟨x0, rv0, fit0⟩ := open_struct Try.underlying45 rfl opens_Circuit (hval 0 45 v0 rfl rfl) h0
  have lt1 : ∀ x ∈ p1, x.block < W.heap.size := by obtain ⟨m, hm⟩ := h1; exact DataW.trod_lt m _ _ _ hm
  have k1 := h1
  obtain ⟨x1, rfl, rfl, rfl, w1⟩ := open_int Try.underlying3 (hval 1 3 v1 rfl rfl) k1
  have fit1 : fitInt x1 := by simp only [Lit.wf, Bool.and_eq_true, decide_eq_true_eq] at w1; exact w1
  clear hA0 hval0
  obtain ⟨n, hfin⟩ := fin_FnExactFormulaOf x0 fit0 x1 fit1
  refine (laws_FnExactFormulaOf_ok n x0 x1 hfin rv0).mono fun e W' ⟨v, he, hv, hc⟩ => ?_
  subst he
  subst hv
  have bel := hc.to_below
  exact ⟨_, rfl, _, _, _, [], _, [], hW', trodAll_mk1 (shut_bool Try.underlying4 _), (trodAll_cons_mk (Below.trod laidOut (by kernel_rfl) (of_decide_eq_true (by kernel_rfl)) h0 bel lt0) (trodAll_cons_mk (Below.trod laidOut (by kernel_rfl) (of_decide_eq_true (by kernel_rfl)) h1 bel lt1) trodAll_mk0)), rfl, bel.frame _, fun h => by cases h⟩

theorem over : Rows.fnExactFormulaOfRow.holds Try.pinned (OpenSpec.ofChange Rows.fnExactFormulaOfSpec) :=
  OpenClaim.holds_of_wide 7 Try.f7 rfl rfl rfl rfl rfl rfl rfl ⟨rfl, rfl, rfl, rfl, rfl⟩ rfl rfl rfl rfl rfl (by kernel_rfl) Try.func7 (by kernel_rfl)
    (of_decide_eq_true (by kernel_rfl)) (by unfold Func.isWrapper; first | (rw [if_pos (by decide +kernel)]; kernel_rfl) | (rw [if_neg (by decide +kernel)]; exact ⟨rfl, rfl⟩))
    (fun os started H enc _ => lifted os started H enc)

theorem proved : Rows.FnExactFormulaOfSaid := over
#print axioms proved
end Go.Proofs.Ytknlknnihinmjaa.fnExactFormulaOf
