/- THIS FILE PROVES Rows.FnExactStartPathSaid: for every input the law FnExactStartPath returns true, and what it was given reads as it did. -/
import Derived.Test.YtknlknnihinmjaaRows
import Derived.Test.YtknlknnihinmjaaWlk
import Derived.Test.YtknlknnihinmjaaGLu
import Derived.Test.YtknlknnihinmjaaPStartPath
import Derived.WalkKit
import Derived.ProofKit
import Derived.OpenShut
import Derived.ShutString
import Derived.ChangeOld
import Derived.Below
namespace Go.Proofs.Ytknlknnihinmjaa.fnExactStartPath
open Go.GL Go.ChangeShapes Go.WideShapes Go.ChangeAt Go.RowKit
open Go.ChangeMaps (open_string shut_string)
set_option linter.unusedVariables false
set_option maxRecDepth 100000

theorem own : ownKnob Try.prog.godebug = none := by kernel_rfl
theorem laidOut : laidOutB Try.prog = true := by kernel_rfl

theorem opens_Ins : Opens Try.prog 133 D.Ins fit_Ins := by
  intro H enc w base spare held fuel cs x h
  obtain ⟨xs, n, rfl, -, hl, hx, hf⟩ := DataW.trod_struct Try.underlying133 h
  replace hl : cs.length = 4 := hl.trans (by kernel_rfl)
  obtain ⟨a0, h0, f0⟩ := field_of hf hx 0 _ 1 rfl (opens_int Try.underlying3) (by kernel_rfl)
  obtain ⟨a1, h1, f1⟩ := field_of hf hx 1 _ 1 rfl (opens_int Try.underlying3) (by kernel_rfl)
  obtain ⟨a2, h2, f2⟩ := field_of hf hx 2 _ 1 rfl (opens_int Try.underlying3) (by kernel_rfl)
  obtain ⟨a3, h3, f3⟩ := field_of hf hx 3 _ 1 rfl (opens_int Try.underlying3) (by kernel_rfl)
  match cs, hl with
  | [c0, c1, c2, c3], _ =>
    have h0 : [c0] = [_] := h0
    obtain rfl := List.head_eq_of_cons_eq h0
    have h1 : [c1] = [_] := h1
    obtain rfl := List.head_eq_of_cons_eq h1
    have h2 : [c2] = [_] := h2
    obtain rfl := List.head_eq_of_cons_eq h2
    have h3 : [c3] = [_] := h3
    obtain rfl := List.head_eq_of_cons_eq h3
    exact ⟨⟨a0, a1, a2, a3⟩, rfl, f0, f1, f2, f3⟩

theorem opens_Program : Opens Try.prog 24 D.Program fit_Program := by
  intro H enc w base spare held fuel cs x h
  obtain ⟨xs, n, rfl, -, hl, hx, hf⟩ := DataW.trod_struct Try.underlying24 h
  replace hl : cs.length = 4 := hl.trans (by kernel_rfl)
  obtain ⟨a0, h0, f0⟩ := field_of hf hx 0 _ 1 rfl (opens_int Try.underlying3) (by kernel_rfl)
  obtain ⟨a1, h1, f1⟩ := field_of hf hx 1 _ 1 rfl (opens_int Try.underlying3) (by kernel_rfl)
  obtain ⟨a2, h2, f2⟩ := field_of hf hx 2 _ 1 rfl (opens_int Try.underlying3) (by kernel_rfl)
  obtain ⟨a3, h3, f3⟩ := field_of hf hx 3 _ 1 rfl (opens_list Try.underlying22 (by kernel_rfl) opens_Ins) (by kernel_rfl)
  match cs, hl with
  | [c0, c1, c2, c3], _ =>
    have h0 : [c0] = [_] := h0
    obtain rfl := List.head_eq_of_cons_eq h0
    have h1 : [c1] = [_] := h1
    obtain rfl := List.head_eq_of_cons_eq h1
    have h2 : [c2] = [_] := h2
    obtain rfl := List.head_eq_of_cons_eq h2
    exact ⟨⟨a0, a1, a2, a3⟩, ⟨_, rfl, h3⟩, f0, f1, f2, f3⟩

set_option maxRecDepth 100000 in
theorem lifted (os : Os) (started : os.Started) (H : Type) (enc : TypeId × Value → H) :
    ReturnsInHanded {} Try.checked os 9 .any (Rows.fnExactStartPathSpec.pre6 enc Try.prog Try.f9 Rows.fnExactStartPathRow.domain false) (Rows.fnExactStartPathSpec.post enc Try.prog Try.f9 false true false false) := by
  refine returnsInHanded_of_change (C := Try.checked) own started (by kernel_rfl) Try.func9
    (ChangeSpec.witness6 (enc := enc) (C := Try.checked) false ⟨#[], #[.agg #[.int .i64 0, .int .i64 0, .int .i64 0, .slice none 0 0]], []⟩ 8 (by kernel_rfl) (by kernel_rfl) (by kernel_rfl) (by kernel_rfl)) ?_
  intro W base args ds gs before hval0 hW hcnd _
  have hval : ∀ (j : Nat) t v, Try.f9.params[j]? = some t → args[j]? = some v → Value.okWide Try.prog W .any base t v := hval0
  have hW' := hW
  obtain ⟨p, q, hA0, hV, rfl, hfz, hnd⟩ := hW
  have hA : DataW.TrodAll enc Try.prog W 0 (fun _ => true) true Try.f9.params.toList args.toList ds p := hA0
  rw [Try.params9] at hA hval
  obtain ⟨v0, vs0, d0, ds0, p0, q0, hargs, rfl, rfl, h0, r0⟩ := trodAll_cons hA
  obtain ⟨rfl, rfl, rfl⟩ := trodAll_nil r0
  obtain rfl : args = #[v0] := by cases args; simp_all
  obtain ⟨rfl, rfl⟩ := trodVars_none hV
  have lt0 : ∀ x ∈ p0, x.block < W.heap.size := by obtain ⟨m, hm⟩ := h0; exact DataW.trod_lt m _ _ _ hm
  obtain ⟨x0, rv0, fit0⟩ := open_struct Try.underlying24 rfl opens_Program (hval 0 24 v0 rfl rfl) h0
  clear hA0 hval0
  obtain ⟨n, hfin⟩ := fin_FnExactStartPath x0 fit0
  refine (laws_FnExactStartPath_ok n x0 hfin rv0).mono fun e W' ⟨v, he, hv, hc⟩ => ?_
  subst he
  subst hv
  have bel := hc.to_below
  exact ⟨_, rfl, _, _, _, [], _, [], hW', trodAll_mk1 (shut_bool Try.underlying4 _), (trodAll_cons_mk (Below.trod laidOut (by kernel_rfl) (of_decide_eq_true (by kernel_rfl)) h0 bel lt0) trodAll_mk0), rfl, bel.frame _, fun h => by cases h⟩

theorem over : Rows.fnExactStartPathRow.holds Try.pinned (OpenSpec.ofChange Rows.fnExactStartPathSpec) :=
  OpenClaim.holds_of_wide 9 Try.f9 rfl rfl rfl rfl rfl rfl rfl ⟨rfl, rfl, rfl, rfl, rfl⟩ rfl rfl rfl rfl rfl (by kernel_rfl) Try.func9 (by kernel_rfl)
    (of_decide_eq_true (by kernel_rfl)) (by unfold Func.isWrapper; first | (rw [if_pos (by decide +kernel)]; kernel_rfl) | (rw [if_neg (by decide +kernel)]; exact ⟨rfl, rfl⟩))
    (fun os started H enc _ => lifted os started H enc)

theorem proved : Rows.FnExactStartPathSaid := over
#print axioms proved
end Go.Proofs.Ytknlknnihinmjaa.fnExactStartPath
