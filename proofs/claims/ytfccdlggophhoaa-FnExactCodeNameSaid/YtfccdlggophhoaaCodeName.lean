/- THIS FILE PROVES Rows.FnExactCodeNameSaid, without conditions: the law FnExactCodeName returns true for every input. -/
/-
  THE SHELL OF A PROOF OF 'Rows.FnExactCodeNameSaid' ('loop.example/g03219/laws.FnExactCodeName'), WRITTEN BY PROGRAM (proof-skeleton.mjs) off the guide's own print for that function. Not trusted: Lean checks it.
  YOURS ARE THE HOLES MARKED 'HOLE' (each bears 'sorry'). ALL ELSE IS THE GUIDE's TEMPLATE (howto/template/XProofs.lean) at this function's number and types: leave it.
-/
import Derived.Test.YtfccdlggophhoaaRows
import Derived.WalkKit
import Derived.WalkSpells
import Derived.WalkLawsBesides
import Derived.ProofKit
import Derived.OpenShut
namespace Go.Proofs.Ytfccdlggophhoaa.fnExactCodeName
open Go.ChangeShapes Go.WideShapes Go.ChangeAt Go.RowKit
set_option linter.unusedVariables false      -- a walk need not use every 'w<i>' (that an integer argument fits its kind)

theorem own : ownKnob Try.prog.godebug = none := by kernel_rfl


set_option maxHeartbeats 400000 in
theorem l01In_any (a b c : Int) (w : World) :
    Calls Try.prog 37 #[.int .i64 a, .int .i64 b, .int .i64 c] w fun e w' => e = .returned (.bool (decide (b ≤ a) && decide (a ≤ c))) ∧ w = w' := by
  go_enter Try.func37, Try.ntmps37
  go_wp2
  all_goals go_ret
  all_goals (refine ⟨?_, rfl⟩; congr 2; simp; omega)

theorem l01In_no (a b c : Int) (w : World) (h : a < b ∨ c < a) :
    Calls Try.prog 37 #[.int .i64 a, .int .i64 b, .int .i64 c] w fun e w' => e = .returned (.bool false) ∧ w = w' :=
  (l01In_any a b c w).mono fun e w' ⟨h1, h2⟩ => ⟨by rw [h1]; congr 2; simp; omega, h2⟩

set_option maxHeartbeats 400000 in
theorem spec_0 (w : World) : Calls Try.prog 9 #[.int .i64 0] w fun e w' => e = .returned (.string ⟨#[114, 117, 110, 110, 105, 110, 103]⟩) ∧ Grown w w' := by
  go_enter Try.func9, Try.ntmps9
  go_wp2
  go_ret
  exact ⟨rfl, by repeat (first | exact Grown.refl _ | apply Grown.drew | apply Grown.alloc)⟩

set_option maxHeartbeats 400000 in
theorem spec_1 (w : World) : Calls Try.prog 9 #[.int .i64 1] w fun e w' => e = .returned (.string ⟨#[104, 97, 108, 116, 101, 100]⟩) ∧ Grown w w' := by
  go_enter Try.func9, Try.ntmps9
  go_wp2
  go_ret
  exact ⟨rfl, by repeat (first | exact Grown.refl _ | apply Grown.drew | apply Grown.alloc)⟩

set_option maxHeartbeats 400000 in
theorem spec_2 (w : World) : Calls Try.prog 9 #[.int .i64 2] w fun e w' => e = .returned (.string ⟨#[101, 110, 100]⟩) ∧ Grown w w' := by
  go_enter Try.func9, Try.ntmps9
  go_wp2
  go_ret
  exact ⟨rfl, by repeat (first | exact Grown.refl _ | apply Grown.drew | apply Grown.alloc)⟩

set_option maxHeartbeats 400000 in
theorem spec_3 (w : World) : Calls Try.prog 9 #[.int .i64 3] w fun e w' => e = .returned (.string ⟨#[105, 110, 112, 117, 116]⟩) ∧ Grown w w' := by
  go_enter Try.func9, Try.ntmps9
  go_wp2
  go_ret
  exact ⟨rfl, by repeat (first | exact Grown.refl _ | apply Grown.drew | apply Grown.alloc)⟩

set_option maxHeartbeats 400000 in
theorem spec_4 (w : World) : Calls Try.prog 9 #[.int .i64 4] w fun e w' => e = .returned (.string ⟨#[111, 117, 116, 112, 117, 116]⟩) ∧ Grown w w' := by
  go_enter Try.func9, Try.ntmps9
  go_wp2
  go_ret
  exact ⟨rfl, by repeat (first | exact Grown.refl _ | apply Grown.drew | apply Grown.alloc)⟩

set_option maxHeartbeats 400000 in
theorem spec_5 (w : World) : Calls Try.prog 9 #[.int .i64 5] w fun e w' => e = .returned (.string ⟨#[97, 100, 100, 114, 101, 115, 115]⟩) ∧ Grown w w' := by
  go_enter Try.func9, Try.ntmps9
  go_wp2
  go_ret
  exact ⟨rfl, by repeat (first | exact Grown.refl _ | apply Grown.drew | apply Grown.alloc)⟩

set_option maxHeartbeats 400000 in
theorem spec_6 (w : World) : Calls Try.prog 9 #[.int .i64 6] w fun e w' => e = .returned (.string ⟨#[100, 105, 118, 105, 115, 105, 111, 110]⟩) ∧ Grown w w' := by
  go_enter Try.func9, Try.ntmps9
  go_wp2
  go_ret
  exact ⟨rfl, by repeat (first | exact Grown.refl _ | apply Grown.drew | apply Grown.alloc)⟩

set_option maxHeartbeats 400000 in
theorem spec_7 (w : World) : Calls Try.prog 9 #[.int .i64 7] w fun e w' => e = .returned (.string ⟨#[115, 116, 97, 99, 107]⟩) ∧ Grown w w' := by
  go_enter Try.func9, Try.ntmps9
  go_wp2
  go_ret
  exact ⟨rfl, by repeat (first | exact Grown.refl _ | apply Grown.drew | apply Grown.alloc)⟩

set_option maxHeartbeats 400000 in
theorem spec_8 (w : World) : Calls Try.prog 9 #[.int .i64 8] w fun e w' => e = .returned (.string ⟨#[99, 104, 101, 99, 107]⟩) ∧ Grown w w' := by
  go_enter Try.func9, Try.ntmps9
  go_wp2
  go_ret
  exact ⟨rfl, by repeat (first | exact Grown.refl _ | apply Grown.drew | apply Grown.alloc)⟩

set_option maxHeartbeats 400000 in
theorem spec_9 (w : World) : Calls Try.prog 9 #[.int .i64 9] w fun e w' => e = .returned (.string ⟨#[98, 105, 103]⟩) ∧ Grown w w' := by
  go_enter Try.func9, Try.ntmps9
  go_wp2
  go_ret
  exact ⟨rfl, by repeat (first | exact Grown.refl _ | apply Grown.drew | apply Grown.alloc)⟩

set_option maxHeartbeats 400000 in
theorem spec_out (a : Int) (w : World) (h : a < 0 ∨ 9 < a) : Calls Try.prog 9 #[.int .i64 a] w fun e w' => e = .returned (.string ⟨#[]⟩) ∧ Grown w w' := by
  rcases h with h | h
  all_goals
    go_enter Try.func9, Try.ntmps9
    go_wp2_with (go_at_call 37; refine (l01In_no _ _ _ _ (by omega)).mono ?_; rintro e w' ⟨rfl, rfl⟩)
    go_ret
    exact ⟨rfl, by repeat (first | exact Grown.refl _ | apply Grown.drew | apply Grown.alloc)⟩

set_option maxHeartbeats 400000 in
theorem impl_0 (w : World) : Calls Try.prog 10 #[.int .i64 0] w fun e w' => e = .returned (.string ⟨#[114, 117, 110, 110, 105, 110, 103]⟩) ∧ Grown w w' := by
  go_enter Try.func10, Try.ntmps10
  go_wp2
  go_ret
  exact ⟨rfl, by repeat (first | exact Grown.refl _ | apply Grown.drew | apply Grown.alloc)⟩

set_option maxHeartbeats 400000 in
theorem impl_1 (w : World) : Calls Try.prog 10 #[.int .i64 1] w fun e w' => e = .returned (.string ⟨#[104, 97, 108, 116, 101, 100]⟩) ∧ Grown w w' := by
  go_enter Try.func10, Try.ntmps10
  go_wp2
  go_ret
  exact ⟨rfl, by repeat (first | exact Grown.refl _ | apply Grown.drew | apply Grown.alloc)⟩

set_option maxHeartbeats 400000 in
theorem impl_2 (w : World) : Calls Try.prog 10 #[.int .i64 2] w fun e w' => e = .returned (.string ⟨#[101, 110, 100]⟩) ∧ Grown w w' := by
  go_enter Try.func10, Try.ntmps10
  go_wp2
  go_ret
  exact ⟨rfl, by repeat (first | exact Grown.refl _ | apply Grown.drew | apply Grown.alloc)⟩

set_option maxHeartbeats 400000 in
theorem impl_3 (w : World) : Calls Try.prog 10 #[.int .i64 3] w fun e w' => e = .returned (.string ⟨#[105, 110, 112, 117, 116]⟩) ∧ Grown w w' := by
  go_enter Try.func10, Try.ntmps10
  go_wp2
  go_ret
  exact ⟨rfl, by repeat (first | exact Grown.refl _ | apply Grown.drew | apply Grown.alloc)⟩

set_option maxHeartbeats 400000 in
theorem impl_4 (w : World) : Calls Try.prog 10 #[.int .i64 4] w fun e w' => e = .returned (.string ⟨#[111, 117, 116, 112, 117, 116]⟩) ∧ Grown w w' := by
  go_enter Try.func10, Try.ntmps10
  go_wp2
  go_ret
  exact ⟨rfl, by repeat (first | exact Grown.refl _ | apply Grown.drew | apply Grown.alloc)⟩

set_option maxHeartbeats 400000 in
theorem impl_5 (w : World) : Calls Try.prog 10 #[.int .i64 5] w fun e w' => e = .returned (.string ⟨#[97, 100, 100, 114, 101, 115, 115]⟩) ∧ Grown w w' := by
  go_enter Try.func10, Try.ntmps10
  go_wp2
  go_ret
  exact ⟨rfl, by repeat (first | exact Grown.refl _ | apply Grown.drew | apply Grown.alloc)⟩

set_option maxHeartbeats 400000 in
theorem impl_6 (w : World) : Calls Try.prog 10 #[.int .i64 6] w fun e w' => e = .returned (.string ⟨#[100, 105, 118, 105, 115, 105, 111, 110]⟩) ∧ Grown w w' := by
  go_enter Try.func10, Try.ntmps10
  go_wp2
  go_ret
  exact ⟨rfl, by repeat (first | exact Grown.refl _ | apply Grown.drew | apply Grown.alloc)⟩

set_option maxHeartbeats 400000 in
theorem impl_7 (w : World) : Calls Try.prog 10 #[.int .i64 7] w fun e w' => e = .returned (.string ⟨#[115, 116, 97, 99, 107]⟩) ∧ Grown w w' := by
  go_enter Try.func10, Try.ntmps10
  go_wp2
  go_ret
  exact ⟨rfl, by repeat (first | exact Grown.refl _ | apply Grown.drew | apply Grown.alloc)⟩

set_option maxHeartbeats 400000 in
theorem impl_8 (w : World) : Calls Try.prog 10 #[.int .i64 8] w fun e w' => e = .returned (.string ⟨#[99, 104, 101, 99, 107]⟩) ∧ Grown w w' := by
  go_enter Try.func10, Try.ntmps10
  go_wp2
  go_ret
  exact ⟨rfl, by repeat (first | exact Grown.refl _ | apply Grown.drew | apply Grown.alloc)⟩

set_option maxHeartbeats 400000 in
theorem impl_9 (w : World) : Calls Try.prog 10 #[.int .i64 9] w fun e w' => e = .returned (.string ⟨#[98, 105, 103]⟩) ∧ Grown w w' := by
  go_enter Try.func10, Try.ntmps10
  go_wp2
  go_ret
  exact ⟨rfl, by repeat (first | exact Grown.refl _ | apply Grown.drew | apply Grown.alloc)⟩

set_option maxHeartbeats 400000 in
theorem impl_out (a : Int) (w : World) (h : a < 0 ∨ 9 < a) : Calls Try.prog 10 #[.int .i64 a] w fun e w' => e = .returned (.string ⟨#[]⟩) ∧ Grown w w' := by
  rcases h with h | h
  all_goals
    go_enter Try.func10, Try.ntmps10
    go_wp2
    go_ret
    exact ⟨rfl, by repeat (first | exact Grown.refl _ | apply Grown.drew | apply Grown.alloc)⟩

theorem grown_trans {a b c : World} (h : Grown a b) (k : Grown b c) : Grown a c :=
  ⟨World.keptBut_trans h.1 k.1, fun x => (k.2.1 x).trans (h.2.1 x), Nat.le_trans h.2.2 k.2.2⟩

theorem names (a : Int) : ∃ s : ByteArray, ∀ w, (Calls Try.prog 9 #[.int .i64 a] w fun e w' => e = .returned (.string s) ∧ Grown w w') ∧ (Calls Try.prog 10 #[.int .i64 a] w fun e w' => e = .returned (.string s) ∧ Grown w w') := by
  by_cases h : a < 0 ∨ 9 < a
  · exact ⟨_, fun w => ⟨spec_out a w h, impl_out a w h⟩⟩
  · have h' : a = 0 ∨ a = 1 ∨ a = 2 ∨ a = 3 ∨ a = 4 ∨ a = 5 ∨ a = 6 ∨ a = 7 ∨ a = 8 ∨ a = 9 := by omega
    rcases h' with rfl | rfl | rfl | rfl | rfl | rfl | rfl | rfl | rfl | rfl
    · exact ⟨_, fun w => ⟨spec_0 w, impl_0 w⟩⟩
    · exact ⟨_, fun w => ⟨spec_1 w, impl_1 w⟩⟩
    · exact ⟨_, fun w => ⟨spec_2 w, impl_2 w⟩⟩
    · exact ⟨_, fun w => ⟨spec_3 w, impl_3 w⟩⟩
    · exact ⟨_, fun w => ⟨spec_4 w, impl_4 w⟩⟩
    · exact ⟨_, fun w => ⟨spec_5 w, impl_5 w⟩⟩
    · exact ⟨_, fun w => ⟨spec_6 w, impl_6 w⟩⟩
    · exact ⟨_, fun w => ⟨spec_7 w, impl_7 w⟩⟩
    · exact ⟨_, fun w => ⟨spec_8 w, impl_8 w⟩⟩
    · exact ⟨_, fun w => ⟨spec_9 w, impl_9 w⟩⟩

theorem walk (a0 : Int) (w0 : (Lit.int .i64 a0).wf = true) (w : World) :
    Calls Try.prog 3 #[.int .i64 a0] w fun e w' => e = .returned (.bool true) ∧ Grown w w' := by
  obtain ⟨s, hs⟩ := names a0
  go_enter Try.func3, Try.ntmps3
  go_wp2_with fail
  refine (hs _).1.mono ?_
  rintro e w1 ⟨rfl, hg1⟩
  go_wp2_with fail
  refine (hs _).2.mono ?_
  rintro e w2 ⟨rfl, hg2⟩
  go_wp2_with fail
  go_ret
  exact ⟨rfl, grown_trans hg1 hg2⟩

/-! ### THE ROW's STEP: WRITTEN OUT: LEAVE IT -/
set_option maxRecDepth 100000 in
theorem lifted (os : Os) (started : os.Started) (H : Type) (enc : TypeId × Value → H) :
    ReturnsInHanded {} Try.checked os 3 .any (Rows.fnExactCodeNameSpec.pre6 enc Try.prog Try.f3 Rows.fnExactCodeNameRow.domain false) (Rows.fnExactCodeNameSpec.post enc Try.prog Try.f3 false true false false) := by
  refine returnsInHanded_of_change (C := Try.checked) own started (by kernel_rfl) Try.func3
    (ChangeSpec.witness6 (enc := enc) (C := Try.checked) false ⟨#[], #[.int .i64 0], []⟩ 8 (by kernel_rfl) (by kernel_rfl) (by kernel_rfl) (by kernel_rfl)) ?_
  intro W base args ds gs before hval0 hW hcnd _
  have hval : ∀ (j : Nat) t v, Try.f3.params[j]? = some t → args[j]? = some v → Value.okWide Try.prog W .any base t v := hval0
  have hW' := hW
  obtain ⟨p, q, hA0, hV, rfl, hfz, hnd⟩ := hW
  have hA : DataW.TrodAll enc Try.prog W 0 (fun _ => true) true Try.f3.params.toList args.toList ds p := hA0
  rw [Try.params3] at hA hval
  obtain ⟨v0, vs0, d0, ds0, p0, q0, hargs, rfl, rfl, h0, r0⟩ := trodAll_cons hA
  obtain ⟨rfl, rfl, rfl⟩ := trodAll_nil r0
  obtain rfl : args = #[v0] := by cases args; simp_all
  obtain ⟨rfl, rfl⟩ := trodVars_none hV
  obtain ⟨a0, rfl, rfl, rfl, w0⟩ := open_int Try.underlying3 (hval 0 3 v0 rfl rfl) h0
  clear hA0 hval0
  simp only [List.append_nil] at hW'
  refine (walk a0 w0 W).mono fun e W' ⟨he, hg⟩ => ?_
  subst he
  exact ⟨_, rfl, post_of_same (pa := []) (pv := []) hW' (fun _ _ _ => (trodAll_cons_mk (shut_bool Try.underlying4 _) trodAll_mk0)) (fun sp _ => (trodAll_cons_mk (shut_int Try.underlying3 w0) trodAll_mk0)) (fun _ _ => rfl) rfl
    (hg.frame _) hg.2.1 (ok_one (by kernel_rfl) rfl (okWide_bool_mk Try.underlying4 _))⟩

theorem over : Rows.fnExactCodeNameRow.holds Try.pinned (OpenSpec.ofChange Rows.fnExactCodeNameSpec) :=
  OpenClaim.holds_of_wide 3 Try.f3 rfl rfl rfl rfl rfl rfl rfl ⟨rfl, rfl, rfl, rfl, rfl⟩ rfl rfl rfl rfl rfl (by kernel_rfl) Try.func3 (by kernel_rfl)
    (of_decide_eq_true (by kernel_rfl)) (by unfold Func.isWrapper; first | (rw [if_pos (by decide +kernel)]; kernel_rfl) | (rw [if_neg (by decide +kernel)]; exact ⟨rfl, rfl⟩))
    (fun os started H enc _ => lifted os started H enc)

/-- ████ THE STATEMENT ████ -/
theorem proved : Rows.FnExactCodeNameSaid :=
  over
#print axioms proved
end Go.Proofs.Ytfccdlggophhoaa.fnExactCodeName
