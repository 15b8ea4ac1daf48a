/- THIS FILE PROVES Rows.FnExactPathTermSaid: for every input the law FnExactPathTerm returns true, and what it was given reads as it did. -/
import Derived.Test.YtbljmkpofaibeaaRows
import Derived.Test.YtbljmkpofaibeaaWlk
import Derived.Test.YtbljmkpofaibeaaLib3
import Derived.Test.YtbljmkpofaibeaaPPathTerm
import Derived.WalkKit
import Derived.ProofKit
import Derived.OpenShut
import Derived.ShutString
import Derived.ChangeOld
import Derived.Below
namespace Go.Proofs.Ytbljmkpofaibeaa.fnExactPathTerm
open Go.GL Go.ChangeShapes Go.WideShapes Go.ChangeAt Go.RowKit
open Go.ChangeMaps (open_string shut_string)
set_option linter.unusedVariables false
set_option maxRecDepth 100000

theorem own : ownKnob Try.prog.godebug = none := by kernel_rfl
theorem laidOut : laidOutB Try.prog = true := by kernel_rfl

theorem opens_Term : Opens Try.prog 50 D.Term fit_Term :=
  opens_term Try.underlying50 Try.underlying3 Try.underlying9 Try.underlying22 (by kernel_rfl) ⟨_, rfl, rfl, rfl⟩ ⟨_, rfl, rfl, rfl⟩ ⟨_, rfl, rfl, rfl⟩ ⟨_, rfl, rfl, rfl⟩ ⟨_, rfl, rfl, rfl⟩ (by kernel_rfl) (by kernel_rfl) (by kernel_rfl)

theorem opens_Path : Opens Try.prog 25 D.Path fit_Path := by
  intro H enc w base spare held fuel cs x h
  obtain ⟨xs, n, rfl, -, hl, hx, hf⟩ := DataW.trod_struct Try.underlying25 h
  replace hl : cs.length = 10 := hl.trans (by kernel_rfl)
  obtain ⟨a0, h0, f0⟩ := field_of hf hx 0 _ 1 rfl (opens_int Try.underlying3) (by kernel_rfl)
  obtain ⟨a1, h1, f1⟩ := field_of hf hx 1 _ 1 rfl (opens_list Try.underlying22 (by kernel_rfl) opens_Term) (by kernel_rfl)
  obtain ⟨a2, h2, f2⟩ := field_of hf hx 2 _ 1 rfl (opens_list Try.underlying22 (by kernel_rfl) opens_Term) (by kernel_rfl)
  obtain ⟨a3, h3, f3⟩ := field_of hf hx 3 _ 1 rfl (opens_list Try.underlying23 (by kernel_rfl) (opens_int Try.underlying3)) (by kernel_rfl)
  obtain ⟨a4, h4, f4⟩ := field_of hf hx 4 _ 1 rfl (opens_int Try.underlying3) (by kernel_rfl)
  obtain ⟨a5, h5, f5⟩ := field_of hf hx 5 _ 1 rfl (opens_list Try.underlying22 (by kernel_rfl) opens_Term) (by kernel_rfl)
  obtain ⟨a6, h6, f6⟩ := field_of hf hx 6 _ 1 rfl (opens_int Try.underlying3) (by kernel_rfl)
  obtain ⟨a7, h7, f7⟩ := field_of hf hx 7 _ 1 rfl (opens_int Try.underlying3) (by kernel_rfl)
  obtain ⟨a8, h8, f8⟩ := field_of hf hx 8 _ 1 rfl (opens_list Try.underlying22 (by kernel_rfl) opens_Term) (by kernel_rfl)
  obtain ⟨a9, h9, f9⟩ := field_of hf hx 9 _ 1 rfl (opens_list Try.underlying23 (by kernel_rfl) (opens_int Try.underlying3)) (by kernel_rfl)
  match cs, hl with
  | [c0, c1, c2, c3, c4, c5, c6, c7, c8, c9], _ =>
    have h0 : [c0] = [_] := h0
    obtain rfl := List.head_eq_of_cons_eq h0
    have h4 : [c4] = [_] := h4
    obtain rfl := List.head_eq_of_cons_eq h4
    have h6 : [c6] = [_] := h6
    obtain rfl := List.head_eq_of_cons_eq h6
    have h7 : [c7] = [_] := h7
    obtain rfl := List.head_eq_of_cons_eq h7
    exact ⟨⟨a0, a1, a2, a3, a4, a5, a6, a7, a8, a9⟩, ⟨_, _, _, _, _, _, rfl, h1, h2, h3, h5, h8, h9⟩, f0, f1, f2, f3, f4, f5, f6, f7, f8, f9⟩

set_option maxRecDepth 100000 in
theorem lifted (os : Os) (started : os.Started) (H : Type) (enc : TypeId × Value → H) :
    ReturnsInHanded {} Try.checked os 3 .any (Rows.fnExactPathTermSpec.pre6 enc Try.prog Try.f3 Rows.fnExactPathTermRow.domain false) (Rows.fnExactPathTermSpec.post enc Try.prog Try.f3 false true false false) := by
  refine returnsInHanded_of_change (C := Try.checked) own started (by kernel_rfl) Try.func3
    (ChangeSpec.witness6 (enc := enc) (C := Try.checked) false ⟨#[], #[.agg #[.int .i64 0, .slice none 0 0, .slice none 0 0, .slice none 0 0, .int .i64 0, .slice none 0 0, .int .i64 0, .int .i64 0, .slice none 0 0, .slice none 0 0]], []⟩ 8 (by kernel_rfl) (by kernel_rfl) (by kernel_rfl) (by kernel_rfl)) ?_
  intro W base args ds gs before hval0 hW hcnd _
  have hval : ∀ (j : Nat) t v, Try.f3.params[j]? = some t → args[j]? = some v → Value.okWide Try.prog W .any base t v := hval0
  have hW' := hW
  obtain ⟨p, q, hA0, hV, rfl, hfz, hnd⟩ := hW
  have hA : DataW.TrodAll enc Try.prog W 0 (fun _ => true) true Try.f3.params.toList args.toList ds p := hA0
  rw [Try.params3] at hA hval
  obtain ⟨v0, vs0, d0, ds0, p0, q0, hargs, rfl, rfl, h0, r0⟩ := trodAll_cons hA
  obtain ⟨rfl, rfl, rfl⟩ := trodAll_nil r0
  obtain rfl : args = #[v0] := by cases args; simp_all
  obtain ⟨rfl, rfl⟩ := trodVars_none hV
  have lt0 : ∀ x ∈ p0, x.block < W.heap.size := by obtain ⟨m, hm⟩ := h0; exact DataW.trod_lt m _ _ _ hm
  obtain ⟨x0, rv0, fit0⟩ := open_struct Try.underlying25 rfl opens_Path (hval 0 25 v0 rfl rfl) h0
  clear hA0 hval0
  obtain ⟨n, hfin⟩ := fin_FnExactPathTerm x0 fit0
  obtain ⟨u0_1, u0_2, u0_3, u0_5, u0_8, u0_9, rfl, r0_1, r0_2, r0_3, r0_5, r0_8, r0_9⟩ := RV.Path rv0
  obtain ⟨a0_1, c0_1, rfl, _⟩ := RV.slice r0_1
  obtain ⟨a0_2, c0_2, rfl, _⟩ := RV.slice r0_2
  obtain ⟨a0_3, c0_3, rfl, _⟩ := RV.slice r0_3
  obtain ⟨a0_5, c0_5, rfl, _⟩ := RV.slice r0_5
  obtain ⟨a0_8, c0_8, rfl, _⟩ := RV.slice r0_8
  obtain ⟨a0_9, c0_9, rfl, _⟩ := RV.slice r0_9
  refine Calls.mono (Con.law (laws_FnExactPathTerm_ok hfin) (AllF.of _ ⟨r0_1, r0_2, r0_3, r0_5, r0_8, r0_9, trivial⟩) fun _ h => h) fun e W' ⟨v, he, hv, hc⟩ => ?_
  subst he
  subst hv
  have bel := hc.to_below
  exact ⟨_, rfl, _, _, _, [], _, [], hW', trodAll_mk1 (shut_bool Try.underlying4 _), (trodAll_cons_mk (Below.trod laidOut (by kernel_rfl) (of_decide_eq_true (by kernel_rfl)) h0 bel lt0) trodAll_mk0), rfl, bel.frame _, fun h => by cases h⟩

theorem over : Rows.fnExactPathTermRow.holds Try.pinned (OpenSpec.ofChange Rows.fnExactPathTermSpec) :=
  OpenClaim.holds_of_wide 3 Try.f3 rfl rfl rfl rfl rfl rfl rfl ⟨rfl, rfl, rfl, rfl, rfl⟩ rfl rfl rfl rfl rfl (by kernel_rfl) Try.func3 (by kernel_rfl)
    (of_decide_eq_true (by kernel_rfl)) (by unfold Func.isWrapper; first | (rw [if_pos (by decide +kernel)]; kernel_rfl) | (rw [if_neg (by decide +kernel)]; exact ⟨rfl, rfl⟩))
    (fun os started H enc _ => lifted os started H enc)

theorem proved : Rows.FnExactPathTermSaid := over
#print axioms proved
end Go.Proofs.Ytbljmkpofaibeaa.fnExactPathTerm
