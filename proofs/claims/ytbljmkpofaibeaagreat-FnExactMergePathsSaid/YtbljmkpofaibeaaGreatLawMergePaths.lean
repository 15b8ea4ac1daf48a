/- THIS FILE PROVES Rows.FnExactMergePathsSaid: for every input the law FnExactMergePaths returns true, and what it was given reads as it did. -/
import Derived.Test.YtbljmkpofaibeaaGreatRows
import Derived.Test.YtbljmkpofaibeaaGreatWlk
import Derived.Test.YtbljmkpofaibeaaGreatLib3
import Derived.Test.YtbljmkpofaibeaaGreatPMergePaths
import Derived.WalkKit
import Derived.ProofKit
import Derived.OpenShut
import Derived.ShutString
import Derived.ChangeOld
import Derived.Below
namespace Go.Proofs.YtbljmkpofaibeaaGreat.fnExactMergePaths
open Go.GL Go.ChangeShapes Go.WideShapes Go.ChangeAt Go.RowKit
open Go.ChangeMaps (open_string shut_string)
set_option linter.unusedVariables false
set_option maxRecDepth 100000

theorem own : ownKnob Tryz.prog.godebug = none := by kernel_rfl
theorem laidOut : laidOutB Tryz.prog = true := by kernel_rfl

theorem opens_Ins : Opens Tryz.prog 146 D.Ins fit_Ins := by
  intro H enc w base spare held fuel cs x h
  obtain ⟨xs, n, rfl, -, hl, hx, hf⟩ := DataW.trod_struct Tryz.underlying146 h
  replace hl : cs.length = 4 := hl.trans (by kernel_rfl)
  obtain ⟨a0, h0, f0⟩ := field_of hf hx 0 _ 1 rfl (opens_int Tryz.underlying3) (by kernel_rfl)
  obtain ⟨a1, h1, f1⟩ := field_of hf hx 1 _ 1 rfl (opens_int Tryz.underlying3) (by kernel_rfl)
  obtain ⟨a2, h2, f2⟩ := field_of hf hx 2 _ 1 rfl (opens_int Tryz.underlying3) (by kernel_rfl)
  obtain ⟨a3, h3, f3⟩ := field_of hf hx 3 _ 1 rfl (opens_int Tryz.underlying3) (by kernel_rfl)
  match cs, hl with
  | [c0, c1, c2, c3], _ =>
    have h0 : [c0] = [_] := h0
    obtain rfl := List.head_eq_of_cons_eq h0
    have h1 : [c1] = [_] := h1
    obtain rfl := List.head_eq_of_cons_eq h1
    have h2 : [c2] = [_] := h2
    obtain rfl := List.head_eq_of_cons_eq h2
    have h3 : [c3] = [_] := h3
    obtain rfl := List.head_eq_of_cons_eq h3
    exact ⟨⟨a0, a1, a2, a3⟩, rfl, f0, f1, f2, f3⟩

theorem opens_Program : Opens Tryz.prog 45 D.Program fit_Program := by
  intro H enc w base spare held fuel cs x h
  obtain ⟨xs, n, rfl, -, hl, hx, hf⟩ := DataW.trod_struct Tryz.underlying45 h
  replace hl : cs.length = 4 := hl.trans (by kernel_rfl)
  obtain ⟨a0, h0, f0⟩ := field_of hf hx 0 _ 1 rfl (opens_int Tryz.underlying3) (by kernel_rfl)
  obtain ⟨a1, h1, f1⟩ := field_of hf hx 1 _ 1 rfl (opens_int Tryz.underlying3) (by kernel_rfl)
  obtain ⟨a2, h2, f2⟩ := field_of hf hx 2 _ 1 rfl (opens_int Tryz.underlying3) (by kernel_rfl)
  obtain ⟨a3, h3, f3⟩ := field_of hf hx 3 _ 1 rfl (opens_list Tryz.underlying43 (by kernel_rfl) opens_Ins) (by kernel_rfl)
  match cs, hl with
  | [c0, c1, c2, c3], _ =>
    have h0 : [c0] = [_] := h0
    obtain rfl := List.head_eq_of_cons_eq h0
    have h1 : [c1] = [_] := h1
    obtain rfl := List.head_eq_of_cons_eq h1
    have h2 : [c2] = [_] := h2
    obtain rfl := List.head_eq_of_cons_eq h2
    exact ⟨⟨a0, a1, a2, a3⟩, ⟨_, rfl, h3⟩, f0, f1, f2, f3⟩

theorem opens_Term : Opens Tryz.prog 24 D.Term fit_Term :=
  opens_term Tryz.underlying24 Tryz.underlying3 Tryz.underlying9 Tryz.underlying22 (by kernel_rfl) ⟨_, rfl, rfl, rfl⟩ ⟨_, rfl, rfl, rfl⟩ ⟨_, rfl, rfl, rfl⟩ ⟨_, rfl, rfl, rfl⟩ ⟨_, rfl, rfl, rfl⟩ (by kernel_rfl) (by kernel_rfl) (by kernel_rfl)

theorem opens_Path : Opens Tryz.prog 63 D.Path fit_Path := by
  intro H enc w base spare held fuel cs x h
  obtain ⟨xs, n, rfl, -, hl, hx, hf⟩ := DataW.trod_struct Tryz.underlying63 h
  replace hl : cs.length = 10 := hl.trans (by kernel_rfl)
  obtain ⟨a0, h0, f0⟩ := field_of hf hx 0 _ 1 rfl (opens_int Tryz.underlying3) (by kernel_rfl)
  obtain ⟨a1, h1, f1⟩ := field_of hf hx 1 _ 1 rfl (opens_list Tryz.underlying22 (by kernel_rfl) opens_Term) (by kernel_rfl)
  obtain ⟨a2, h2, f2⟩ := field_of hf hx 2 _ 1 rfl (opens_list Tryz.underlying22 (by kernel_rfl) opens_Term) (by kernel_rfl)
  obtain ⟨a3, h3, f3⟩ := field_of hf hx 3 _ 1 rfl (opens_list Tryz.underlying29 (by kernel_rfl) (opens_int Tryz.underlying3)) (by kernel_rfl)
  obtain ⟨a4, h4, f4⟩ := field_of hf hx 4 _ 1 rfl (opens_int Tryz.underlying3) (by kernel_rfl)
  obtain ⟨a5, h5, f5⟩ := field_of hf hx 5 _ 1 rfl (opens_list Tryz.underlying22 (by kernel_rfl) opens_Term) (by kernel_rfl)
  obtain ⟨a6, h6, f6⟩ := field_of hf hx 6 _ 1 rfl (opens_int Tryz.underlying3) (by kernel_rfl)
  obtain ⟨a7, h7, f7⟩ := field_of hf hx 7 _ 1 rfl (opens_int Tryz.underlying3) (by kernel_rfl)
  obtain ⟨a8, h8, f8⟩ := field_of hf hx 8 _ 1 rfl (opens_list Tryz.underlying22 (by kernel_rfl) opens_Term) (by kernel_rfl)
  obtain ⟨a9, h9, f9⟩ := field_of hf hx 9 _ 1 rfl (opens_list Tryz.underlying29 (by kernel_rfl) (opens_int Tryz.underlying3)) (by kernel_rfl)
  match cs, hl with
  | [c0, c1, c2, c3, c4, c5, c6, c7, c8, c9], _ =>
    have h0 : [c0] = [_] := h0
    obtain rfl := List.head_eq_of_cons_eq h0
    have h4 : [c4] = [_] := h4
    obtain rfl := List.head_eq_of_cons_eq h4
    have h6 : [c6] = [_] := h6
    obtain rfl := List.head_eq_of_cons_eq h6
    have h7 : [c7] = [_] := h7
    obtain rfl := List.head_eq_of_cons_eq h7
    exact ⟨⟨a0, a1, a2, a3, a4, a5, a6, a7, a8, a9⟩, ⟨_, _, _, _, _, _, rfl, h1, h2, h3, h5, h8, h9⟩, f0, f1, f2, f3, f4, f5, f6, f7, f8, f9⟩

set_option maxRecDepth 100000 in
theorem lifted (os : Os) (started : os.Started) (H : Type) (enc : TypeId × Value → H) :
    ReturnsInHanded {} Tryz.checked os 5 .any (Rows.fnExactMergePathsSpec.pre6 enc Tryz.prog Tryz.f5 Rows.fnExactMergePathsRow.domain false) (Rows.fnExactMergePathsSpec.post enc Tryz.prog Tryz.f5 false true false false) := by
  refine returnsInHanded_of_change (C := Tryz.checked) own started (by kernel_rfl) Tryz.func5
    (ChangeSpec.witness6 (enc := enc) (C := Tryz.checked) false ⟨#[], #[.agg #[.int .i64 0, .int .i64 0, .int .i64 0, .slice none 0 0], .agg #[.int .i64 0, .slice none 0 0, .slice none 0 0, .slice none 0 0, .int .i64 0, .slice none 0 0, .int .i64 0, .int .i64 0, .slice none 0 0, .slice none 0 0], .agg #[.int .i64 0, .slice none 0 0, .slice none 0 0, .slice none 0 0, .int .i64 0, .slice none 0 0, .int .i64 0, .int .i64 0, .slice none 0 0, .slice none 0 0]], []⟩ 8 (by kernel_rfl) (by kernel_rfl) (by kernel_rfl) (by kernel_rfl)) ?_
  intro W base args ds gs before hval0 hW hcnd _
  have hval : ∀ (j : Nat) t v, Tryz.f5.params[j]? = some t → args[j]? = some v → Value.okWide Tryz.prog W .any base t v := hval0
  have hW' := hW
  obtain ⟨p, q, hA0, hV, rfl, hfz, hnd⟩ := hW
  have hA : DataW.TrodAll enc Tryz.prog W 0 (fun _ => true) true Tryz.f5.params.toList args.toList ds p := hA0
  rw [Tryz.params5] at hA hval
  obtain ⟨v0, vs0, d0, ds0, p0, q0, hargs, rfl, rfl, h0, r0⟩ := trodAll_cons hA
  obtain ⟨v1, vs1, d1, ds1, p1, q1, rfl, rfl, rfl, h1, r1⟩ := trodAll_cons r0
  obtain ⟨v2, vs2, d2, ds2, p2, q2, rfl, rfl, rfl, h2, r2⟩ := trodAll_cons r1
  obtain ⟨rfl, rfl, rfl⟩ := trodAll_nil r2
  obtain rfl : args = #[v0, v1, v2] := by cases args; simp_all
  obtain ⟨rfl, rfl⟩ := trodVars_none hV
  have lt0 : ∀ x ∈ p0, x.block < W.heap.size := by obtain ⟨m, hm⟩ := h0; exact DataW.trod_lt m _ _ _ hm
  obtain ⟨x0, rv0, fit0⟩ := open_struct Tryz.underlying45 rfl opens_Program (hval 0 45 v0 rfl rfl) h0
  have lt1 : ∀ x ∈ p1, x.block < W.heap.size := by obtain ⟨m, hm⟩ := h1; exact DataW.trod_lt m _ _ _ hm
  obtain ⟨x1, rv1, fit1⟩ := open_struct Tryz.underlying63 rfl opens_Path (hval 1 63 v1 rfl rfl) h1
  have lt2 : ∀ x ∈ p2, x.block < W.heap.size := by obtain ⟨m, hm⟩ := h2; exact DataW.trod_lt m _ _ _ hm
  obtain ⟨x2, rv2, fit2⟩ := open_struct Tryz.underlying63 rfl opens_Path (hval 2 63 v2 rfl rfl) h2
  clear hA0 hval0
  obtain ⟨n, hfin⟩ := fin_FnExactMergePaths x0 fit0 x1 fit1 x2 fit2
  obtain ⟨u0_3, rfl, r0_3⟩ := RV.Program rv0
  obtain ⟨a0_3, c0_3, rfl, _⟩ := RV.slice r0_3
  obtain ⟨u1_1, u1_2, u1_3, u1_5, u1_8, u1_9, rfl, r1_1, r1_2, r1_3, r1_5, r1_8, r1_9⟩ := RV.Path rv1
  obtain ⟨a1_1, c1_1, rfl, _⟩ := RV.slice r1_1
  obtain ⟨a1_2, c1_2, rfl, _⟩ := RV.slice r1_2
  obtain ⟨a1_3, c1_3, rfl, _⟩ := RV.slice r1_3
  obtain ⟨a1_5, c1_5, rfl, _⟩ := RV.slice r1_5
  obtain ⟨a1_8, c1_8, rfl, _⟩ := RV.slice r1_8
  obtain ⟨a1_9, c1_9, rfl, _⟩ := RV.slice r1_9
  obtain ⟨u2_1, u2_2, u2_3, u2_5, u2_8, u2_9, rfl, r2_1, r2_2, r2_3, r2_5, r2_8, r2_9⟩ := RV.Path rv2
  obtain ⟨a2_1, c2_1, rfl, _⟩ := RV.slice r2_1
  obtain ⟨a2_2, c2_2, rfl, _⟩ := RV.slice r2_2
  obtain ⟨a2_3, c2_3, rfl, _⟩ := RV.slice r2_3
  obtain ⟨a2_5, c2_5, rfl, _⟩ := RV.slice r2_5
  obtain ⟨a2_8, c2_8, rfl, _⟩ := RV.slice r2_8
  obtain ⟨a2_9, c2_9, rfl, _⟩ := RV.slice r2_9
  refine Calls.mono (Con.law (laws_FnExactMergePaths_ok hfin) (AllF.of _ ⟨r0_3, r1_1, r1_2, r1_3, r1_5, r1_8, r1_9, r2_1, r2_2, r2_3, r2_5, r2_8, r2_9, trivial⟩) fun _ h => h) fun e W' ⟨v, he, hv, hc⟩ => ?_
  subst he
  subst hv
  have bel := hc.to_below
  exact ⟨_, rfl, _, _, _, [], _, [], hW', trodAll_mk1 (shut_bool Tryz.underlying4 _), (trodAll_cons_mk (Below.trod laidOut (by kernel_rfl) (of_decide_eq_true (by kernel_rfl)) h0 bel lt0) (trodAll_cons_mk (Below.trod laidOut (by kernel_rfl) (of_decide_eq_true (by kernel_rfl)) h1 bel lt1) (trodAll_cons_mk (Below.trod laidOut (by kernel_rfl) (of_decide_eq_true (by kernel_rfl)) h2 bel lt2) trodAll_mk0))), rfl, bel.frame _, fun h => by cases h⟩

theorem over : Rows.fnExactMergePathsRow.holds Tryz.pinned (OpenSpec.ofChange Rows.fnExactMergePathsSpec) :=
  OpenClaim.holds_of_wide 5 Tryz.f5 rfl rfl rfl rfl rfl rfl rfl ⟨rfl, rfl, rfl, rfl, rfl⟩ rfl rfl rfl rfl rfl (by kernel_rfl) Tryz.func5 (by kernel_rfl)
    (of_decide_eq_true (by kernel_rfl)) (by unfold Func.isWrapper; first | (rw [if_pos (by decide +kernel)]; kernel_rfl) | (rw [if_neg (by decide +kernel)]; exact ⟨rfl, rfl⟩))
    (fun os started H enc _ => lifted os started H enc)

theorem proved : Rows.FnExactMergePathsSaid := over
#print axioms proved
end Go.Proofs.YtbljmkpofaibeaaGreat.fnExactMergePaths
