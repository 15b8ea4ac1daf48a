/- Printed by gen2.py: the walks. -/
import Derived.Test.YtfccdlggophhoaaWlkC
set_option linter.unusedVariables false
set_option maxRecDepth 100000
namespace Go.Proofs.Ytfccdlggophhoaa
open Go.GL
theorem spec_l05Words_ok (n : Nat) (p0 : List Int) (p1 : Int) (p2 : Int) {r : Bool} (h : spec_l05Words n p0 p1 p2 = some r) {w : World} {F0 : Nat → Prop} {va0 : Value} (ra0 : RV w F0 va0 p0) :
    Calls Try.prog 58 [va0, .int .i64 p1, .int .i64 p2].toArray w fun e w' => ∃ v, e = .returned v ∧ v = .bool r ∧ Chg Non w w' := by
  unfold spec_l05Words at h
  have ra0 := ra0.sub (F' := fun k => k < w.heap.size) (fun k hk _ => hk)
  obtain ⟨a1, c1, rfl, -⟩ := ra0.slice
  have hC : Chg Non w w := Chg.refl _ _
  refine enter (N := 24) Try.func58 rfl Try.ntmps58 rfl fun fr hF => ?_
  refine wp_seq (wp_pure [(0, .slice a1 (List.length p0) c1), (1, .int .i64 p1), (2, .int .i64 p2)] hF (by kernel_rfl) fun fr hF => then_normal ?_)
  refine wp_seq ?_
  refine wp_seq (wp_pure [(0, .slice a1 (List.length p0) c1), (1, .int .i64 p1), (2, .int .i64 p2), (9, .slice a1 (List.length p0) c1), (10, .int .i64 (len p0)), (11, .int .i64 0)] hF (by kernel_rfl) fun fr hF => then_normal ?_)
  obtain ⟨rl1, hit1, h⟩ := bindE h
  have hk1 := h
  refine (wp_cut (M := fun fr w' => ∃ s, rl1 = .inl s ∧ FrS 24 [(0, .slice a1 (List.length p0) c1), (1, .int .i64 p1)] fr ∧ Chg (Non) w w') (wp_block (wp_iter (Inv := fun s1 fr w' => FrS 24 [(0, .slice a1 (List.length p0) c1), (1, .int .i64 p1), (2, .int .i64 p2), (9, .slice a1 (List.length p0) c1), (10, .int .i64 (len p0)), (11, .int .i64 s1)] fr ∧ Chg (Non) w w') hit1 ⟨hF.sub _ (by kernel_rfl), Chg.refl _ _⟩ fun s1 q1 fr w1i hI h hr1 => ?_)) fun fr w1o hM => ?_)
  · obtain ⟨hF, hc⟩ := hI
    have zLw1i := hc.size
    have hC := hC.trans hc
    have ra0 := ra0.ext hc
    have hL1 := hc
    refine wp_seq (wp_pure [(0, .slice a1 (List.length p0) c1), (1, .int .i64 p1), (2, .int .i64 p2), (9, .slice a1 (List.length p0) c1), (10, .int .i64 (len p0)), (11, .int .i64 s1), (12, .bool (decide (s1 < (len p0))))] hF (by kernel_rfl) fun fr hF => then_normal ?_)
    refine wp_seq (wp_if hF (b := (decide (s1 < (len p0)))) rfl (fun hb => ?_) (fun hb => ?_))
    · replace h := iteT hb h
      refine (wp_skip (then_normal ?_))
      refine wp_seq (wp_block ?_)
      refine wp_seq (wp_text' ?_)
      obtain ⟨x1, hx1, h⟩ := bindE h
      refine s_elemF (z := x1) (.int .i64 x1) ty3 Try.underlying24 rfl rfl rfl rfl rfl hF rfl (ra0) rfl (get?_nn hx1) (get?_at hx1) rfl fun p fr hF => ?_
      refine from_pure 1 [(0, .slice a1 (List.length p0) c1), (1, .int .i64 p1), (2, .int .i64 p2), (8, .int .i64 x1), (9, .slice a1 (List.length p0) c1), (10, .int .i64 (len p0)), (11, .int .i64 s1)] hF (by kernel_rfl) fun fr hF => ?_
      refine from_end rfl (then_normal ?_)
      refine wp_seq (wp_text' ?_)
      refine from_pure 2 [(0, .slice a1 (List.length p0) c1), (1, .int .i64 p1), (2, .int .i64 p2), (9, .slice a1 (List.length p0) c1), (10, .int .i64 (len p0)), (11, .int .i64 s1), (15, .int .i64 p2), (16, .int .i64 x1)] hF (by kernel_rfl) fun fr hF => ?_
      obtain ⟨x2, hx2, h⟩ := bindE h
      refine s_call [.int .i64 p2, .int .i64 x1] Try.call48 rfl rfl hF rfl (spec_WordOk_ok p2 x1 hx2) fun v w1 fr hR hF => ?_
      obtain ⟨rfl, hc⟩ := hR
      have hC := hC.trans hc
      have ra0 := ra0.ext hc
      have z1 := hc.size
      have hL2 := hL1.trans' hc (fun _ hx => False.elim hx)
      refine from_pure 1 [(0, .slice a1 (List.length p0) c1), (1, .int .i64 p1), (2, .int .i64 p2), (9, .slice a1 (List.length p0) c1), (10, .int .i64 (len p0)), (11, .int .i64 s1), (18, .bool (!x2))] hF (by kernel_rfl) fun fr hF => ?_
      refine from_end rfl (then_normal ?_)
      refine (wp_if hF (b := (!x2)) rfl (fun hb => ?_) (fun hb => ?_))
      · replace h := iteT hb h
        refine wp_seq (wp_pure [(6, .bool false)] hF (by kernel_rfl) fun fr hF => then_normal ?_)
        obtain rfl := hr1 _ (Option.some.inj h).symm
        obtain rfl := Option.some.inj hk1
        exact wp_ret (blk_ret (then_ret (then_ret (blk_ret (then_ret (ret1 rfl hF rfl ⟨_, rfl, rfl, hC⟩))))))
      · replace h := iteF hb h
        refine (wp_skip ?_)
        refine blk_normal (then_normal ?_)
        refine (wp_pure [(0, .slice a1 (List.length p0) c1), (1, .int .i64 p1), (2, .int .i64 p2), (9, .slice a1 (List.length p0) c1), (10, .int .i64 (len p0)), (11, .int .i64 (w64 (s1 + 1)))] hF (by kernel_rfl) fun fr hF => then_normal ?_)
        exact ⟨_, (Option.some.inj h).symm, hF.sub _ (by kernel_rfl), hL2⟩
    · replace h := iteF hb h
      refine (wp_exit (then_exit (then_exit (blk_exit_eq ?_))))
      obtain rfl := hr1 _ (Option.some.inj h).symm
      exact then_normal ⟨_, rfl, hF.sub _ (by kernel_rfl), hL1⟩
  · obtain ⟨s1r, rfl, hM⟩ := hM
    obtain ⟨hF, hc⟩ := hM
    have zLw1o := hc.size
    have hC := hC.trans hc
    have ra0 := ra0.ext hc
    refine wp_seq (wp_pure [(6, .bool ((len p0) == p1))] hF (by kernel_rfl) fun fr hF => then_normal ?_)
    obtain rfl := Option.some.inj h
    exact wp_ret (ret1 rfl hF rfl ⟨_, rfl, rfl, hC⟩)

theorem spec_InputsOk_ok (n : Nat) (p0 : D.Program) (p1 : List Int) {r : Bool} (h : spec_InputsOk n p0 p1 = some r) {w : World} {F0 : Nat → Prop} {va0 : Value} (ra0 : RV w F0 va0 p0) {F1 : Nat → Prop} {va1 : Value} (ra1 : RV w F1 va1 p1) :
    Calls Try.prog 33 [va0, va1].toArray w fun e w' => ∃ v, e = .returned v ∧ v = .bool r ∧ Chg Non w w' := by
  unfold spec_InputsOk at h
  have ra0 := ra0.sub (F' := fun k => k < w.heap.size) (fun k hk _ => hk)
  obtain ⟨v1, rfl, r1⟩ := RV.Program ra0
  obtain ⟨a1, c1, rfl, -⟩ := r1.slice
  have ra1 := ra1.sub (F' := fun k => k < w.heap.size) (fun k hk _ => hk)
  obtain ⟨a2, c2, rfl, -⟩ := ra1.slice
  have hC : Chg Non w w := Chg.refl _ _
  refine enter (N := 15) Try.func33 rfl Try.ntmps33 rfl fun fr hF => ?_
  refine wp_seq (wp_text' ?_)
  refine s_box [.int .i64 p0.W, .int .i64 p0.Mem, .int .i64 p0.In, .slice a1 (List.length p0.Code) c1] rfl rfl hF rfl rfl fun b1 w1 fr b1lo hb1 hc hF => ?_
  have hC := hC.trans hc
  have r1 := r1.ext hc
  have ra1 := ra1.ext hc
  have z1 := hc.size
  have b1hi := hb1.lt
  refine from_pure 1 [(1, .slice a2 (List.length p1) c2), (2, .pointer (some ⟨b1, 0, none⟩))] hF (by kernel_rfl) fun fr hF => ?_
  refine from_end rfl (then_normal ?_)
  obtain ⟨x1, hx1, h⟩ := bindE h
  obtain ⟨x2, hx2, h⟩ := bindE h
  refine wp_seq (region_b [] [false, false, true, true, true, false, true, false, false, true, true]
      [.eq (.agg #[.int .i64 p0.W, .int .i64 p0.Mem, .int .i64 p0.In, .slice a1 (List.length p0.Code) c1]), .eq (.bool x1), .eq (.bool x1), .eq (.slice a2 (List.length p1) c2), .eq (.pointer (some ⟨b1, 2, none⟩)), .eq (.int .i64 p0.In), .eq (.pointer (some ⟨b1, 0, none⟩)), .eq (.int .i64 p0.W), .eq (.bool x2), .eq (.bool (x1 && x2)), .eq (.bool (x1 && x2))]
      [(4, .bool (x1 && x2))] mix hF (by kernel_rfl) (by kernel_rfl) (by kernel_rfl) ⟨Pd.mono_eq, Pd.mono_eq, Pd.mono_eq, Pd.mono_eq, Pd.mono_eq, trivial⟩ (fun hG => ⟨np_loadBoxS hG hF ty50 rfl rfl hb1 rfl rfl rfl rfl, np_call [.agg #[.int .i64 p0.W, .int .i64 p0.Mem, .int .i64 p0.In, .slice a1 (List.length p0.Code) c1]] hG hF Try.call22 rfl rfl (fun w hC hg => (spec_ProgramOk_ok n p0 hx1 ((RV.mk_Program p0 (RV.any (r1))).ext hC)).mono fun e w' ⟨v, he, hv, hc⟩ => ⟨v, he, hc, hv⟩), np_loadBox hG hF ty3 rfl rfl hb1 rfl rfl rfl, np_loadBox hG hF ty3 rfl rfl hb1 rfl rfl rfl, np_call [.slice a2 (List.length p1) c2, .int .i64 p0.In, .int .i64 p0.W] hG hF Try.call58 rfl rfl (fun w hC hg => (spec_l05Words_ok n p1 p0.In p0.W (iteT hg.2 hx2) (ra1.ext hC)).mono fun e w' ⟨v, he, hv, hc⟩ => ⟨v, he, hc, hv⟩), trivial⟩) (by kernel_rfl) fun fr w2 hF hE hc => then_normal ?_)
  have hC := hC.trans hc
  have z2 := hc.size
  obtain rfl := Option.some.inj h
  exact wp_ret (ret1 rfl hF rfl ⟨_, rfl, rfl, hC⟩)

theorem impl_wordsOk_ok (n : Nat) (p0 : Int) (p1 : List Int) {r : Bool} (h : impl_wordsOk n p0 p1 = some r) {w : World} {F1 : Nat → Prop} {va1 : Value} (ra1 : RV w F1 va1 p1) :
    Calls Try.prog 59 [.int .i64 p0, va1].toArray w fun e w' => ∃ v, e = .returned v ∧ v = .bool r ∧ Chg Non w w' := by
  unfold impl_wordsOk at h
  have ra1 := ra1.sub (F' := fun k => k < w.heap.size) (fun k hk _ => hk)
  obtain ⟨a1, c1, rfl, -⟩ := ra1.slice
  have hC : Chg Non w w := Chg.refl _ _
  refine enter (N := 18) Try.func59 rfl Try.ntmps59 rfl fun fr hF => ?_
  refine wp_seq (wp_pure [(0, .int .i64 p0), (1, .slice a1 (List.length p1) c1)] hF (by kernel_rfl) fun fr hF => then_normal ?_)
  refine wp_seq ?_
  refine wp_seq (wp_pure [(0, .int .i64 p0), (7, .slice a1 (List.length p1) c1), (8, .int .i64 (len p1)), (9, .int .i64 0)] hF (by kernel_rfl) fun fr hF => then_normal ?_)
  obtain ⟨rl1, hit1, h⟩ := bindE h
  have hk1 := h
  refine (wp_cut (M := fun fr w' => ∃ s, rl1 = .inl s ∧ FrS 18 [] fr ∧ Chg (Non) w w') (wp_block (wp_iter (Inv := fun s1 fr w' => FrS 18 [(0, .int .i64 p0), (7, .slice a1 (List.length p1) c1), (8, .int .i64 (len p1)), (9, .int .i64 s1)] fr ∧ Chg (Non) w w') hit1 ⟨hF.sub _ (by kernel_rfl), Chg.refl _ _⟩ fun s1 q1 fr w1i hI h hr1 => ?_)) fun fr w1o hM => ?_)
  · obtain ⟨hF, hc⟩ := hI
    have zLw1i := hc.size
    have hC := hC.trans hc
    have ra1 := ra1.ext hc
    have hL1 := hc
    refine wp_seq (wp_pure [(0, .int .i64 p0), (7, .slice a1 (List.length p1) c1), (8, .int .i64 (len p1)), (9, .int .i64 s1), (10, .bool (decide (s1 < (len p1))))] hF (by kernel_rfl) fun fr hF => then_normal ?_)
    refine wp_seq (wp_if hF (b := (decide (s1 < (len p1)))) rfl (fun hb => ?_) (fun hb => ?_))
    · replace h := iteT hb h
      refine (wp_skip (then_normal ?_))
      refine wp_seq (wp_block ?_)
      refine wp_seq (wp_text' ?_)
      obtain ⟨x1, hx1, h⟩ := bindE h
      refine s_elemF (z := x1) (.int .i64 x1) ty3 Try.underlying24 rfl rfl rfl rfl rfl hF rfl (ra1) rfl (get?_nn hx1) (get?_at hx1) rfl fun p fr hF => ?_
      refine from_pure 1 [(0, .int .i64 p0), (6, .int .i64 x1), (7, .slice a1 (List.length p1) c1), (8, .int .i64 (len p1)), (9, .int .i64 s1)] hF (by kernel_rfl) fun fr hF => ?_
      refine from_end rfl (then_normal ?_)
      refine wp_seq (wp_text' ?_)
      refine from_pure 2 [(0, .int .i64 p0), (7, .slice a1 (List.length p1) c1), (8, .int .i64 (len p1)), (9, .int .i64 s1), (13, .int .i64 p0), (14, .int .i64 x1)] hF (by kernel_rfl) fun fr hF => ?_
      obtain ⟨x2, hx2, h⟩ := bindE h
      refine s_call [.int .i64 p0, .int .i64 x1] Try.call52 rfl rfl hF rfl (impl_WordOk_ok p0 x1 hx2) fun v w1 fr hR hF => ?_
      obtain ⟨rfl, hc⟩ := hR
      have hC := hC.trans hc
      have ra1 := ra1.ext hc
      have z1 := hc.size
      have hL2 := hL1.trans' hc (fun _ hx => False.elim hx)
      refine from_pure 1 [(0, .int .i64 p0), (7, .slice a1 (List.length p1) c1), (8, .int .i64 (len p1)), (9, .int .i64 s1), (16, .bool (!x2))] hF (by kernel_rfl) fun fr hF => ?_
      refine from_end rfl (then_normal ?_)
      refine (wp_if hF (b := (!x2)) rfl (fun hb => ?_) (fun hb => ?_))
      · replace h := iteT hb h
        refine wp_seq (wp_pure [(4, .bool false)] hF (by kernel_rfl) fun fr hF => then_normal ?_)
        obtain rfl := hr1 _ (Option.some.inj h).symm
        obtain rfl := Option.some.inj hk1
        exact wp_ret (blk_ret (then_ret (then_ret (blk_ret (then_ret (ret1 rfl hF rfl ⟨_, rfl, rfl, hC⟩))))))
      · replace h := iteF hb h
        refine (wp_skip ?_)
        refine blk_normal (then_normal ?_)
        refine (wp_pure [(0, .int .i64 p0), (7, .slice a1 (List.length p1) c1), (8, .int .i64 (len p1)), (9, .int .i64 (w64 (s1 + 1)))] hF (by kernel_rfl) fun fr hF => then_normal ?_)
        exact ⟨_, (Option.some.inj h).symm, hF.sub _ (by kernel_rfl), hL2⟩
    · replace h := iteF hb h
      refine (wp_exit (then_exit (then_exit (blk_exit_eq ?_))))
      obtain rfl := hr1 _ (Option.some.inj h).symm
      exact then_normal ⟨_, rfl, hF.sub _ (by kernel_rfl), hL1⟩
  · obtain ⟨s1r, rfl, hM⟩ := hM
    obtain ⟨hF, hc⟩ := hM
    have zLw1o := hc.size
    have hC := hC.trans hc
    refine wp_seq (wp_pure [(4, .bool true)] hF (by kernel_rfl) fun fr hF => then_normal ?_)
    obtain rfl := Option.some.inj h
    exact wp_ret (ret1 rfl hF rfl ⟨_, rfl, rfl, hC⟩)

theorem impl_InputsOk_ok (n : Nat) (p0 : D.Program) (p1 : List Int) {r : Bool} (h : impl_InputsOk n p0 p1 = some r) {w : World} {F0 : Nat → Prop} {va0 : Value} (ra0 : RV w F0 va0 p0) {F1 : Nat → Prop} {va1 : Value} (ra1 : RV w F1 va1 p1) :
    Calls Try.prog 35 [va0, va1].toArray w fun e w' => ∃ v, e = .returned v ∧ v = .bool r ∧ Chg Non w w' := by
  unfold impl_InputsOk at h
  have ra0 := ra0.sub (F' := fun k => k < w.heap.size) (fun k hk _ => hk)
  obtain ⟨v1, rfl, r1⟩ := RV.Program ra0
  obtain ⟨a1, c1, rfl, -⟩ := r1.slice
  have ra1 := ra1.sub (F' := fun k => k < w.heap.size) (fun k hk _ => hk)
  obtain ⟨a2, c2, rfl, -⟩ := ra1.slice
  have hC : Chg Non w w := Chg.refl _ _
  refine enter (N := 20) Try.func35 rfl Try.ntmps35 rfl fun fr hF => ?_
  refine wp_seq (wp_text' ?_)
  refine s_box [.int .i64 p0.W, .int .i64 p0.Mem, .int .i64 p0.In, .slice a1 (List.length p0.Code) c1] rfl rfl hF rfl rfl fun b1 w1 fr b1lo hb1 hc hF => ?_
  have hC := hC.trans hc
  have r1 := r1.ext hc
  have ra1 := ra1.ext hc
  have z1 := hc.size
  have b1hi := hb1.lt
  refine from_pure 1 [(1, .slice a2 (List.length p1) c2), (2, .pointer (some ⟨b1, 0, none⟩))] hF (by kernel_rfl) fun fr hF => ?_
  refine from_end rfl (then_normal ?_)
  obtain ⟨x1, hx1, h⟩ := bindE h
  obtain ⟨x2, hx2, h⟩ := bindE h
  refine wp_seq (region_b [] [false, false, true, true, true, true, false, true, true, true, true, false, true, false, true, true]
      [.eq (.agg #[.int .i64 p0.W, .int .i64 p0.Mem, .int .i64 p0.In, .slice a1 (List.length p0.Code) c1]), .eq (.bool x1), .eq (.bool x1), .eq (.slice a2 (List.length p1) c2), .eq (.int .i64 (len p1)), .eq (.pointer (some ⟨b1, 2, none⟩)), .eq (.int .i64 p0.In), .eq (.bool ((len p1) == p0.In)), .eq (.bool (x1 && ((len p1) == p0.In))), .eq (.bool (x1 && ((len p1) == p0.In))), .eq (.pointer (some ⟨b1, 0, none⟩)), .eq (.int .i64 p0.W), .eq (.slice a2 (List.length p1) c2), .eq (.bool x2), .eq (.bool ((x1 && ((len p1) == p0.In)) && x2)), .eq (.bool ((x1 && ((len p1) == p0.In)) && x2))]
      [(4, .bool ((x1 && ((len p1) == p0.In)) && x2))] mix hF (by kernel_rfl) (by kernel_rfl) (by kernel_rfl) ⟨Pd.mono_eq, Pd.mono_eq, Pd.mono_eq, Pd.mono_eq, Pd.mono_eq, trivial⟩ (fun hG => ⟨np_loadBoxS hG hF ty50 rfl rfl hb1 rfl rfl rfl rfl, np_call [.agg #[.int .i64 p0.W, .int .i64 p0.Mem, .int .i64 p0.In, .slice a1 (List.length p0.Code) c1]] hG hF Try.call24 rfl rfl (fun w hC hg => (impl_ProgramOk_ok n p0 hx1 ((RV.mk_Program p0 (RV.any (r1))).ext hC)).mono fun e w' ⟨v, he, hv, hc⟩ => ⟨v, he, hc, hv⟩), np_loadBox hG hF ty3 rfl rfl hb1 rfl rfl rfl, np_loadBox hG hF ty3 rfl rfl hb1 rfl rfl rfl, np_call [.int .i64 p0.W, .slice a2 (List.length p1) c2] hG hF Try.call59 rfl rfl (fun w hC hg => (impl_wordsOk_ok n p0.W p1 (iteT hg.2 hx2) (ra1.ext hC)).mono fun e w' ⟨v, he, hv, hc⟩ => ⟨v, he, hc, hv⟩), trivial⟩) (by kernel_rfl) fun fr w2 hF hE hc => then_normal ?_)
  have hC := hC.trans hc
  have z2 := hc.size
  obtain rfl := Option.some.inj h
  exact wp_ret (ret1 rfl hF rfl ⟨_, rfl, rfl, hC⟩)

theorem laws_FnExactInputsOk_ok (n : Nat) (p0 : D.Program) (p1 : List Int) {r : Bool} (h : laws_FnExactInputsOk n p0 p1 = some r) {w : World} {F0 : Nat → Prop} {va0 : Value} (ra0 : RV w F0 va0 p0) {F1 : Nat → Prop} {va1 : Value} (ra1 : RV w F1 va1 p1) :
    Calls Try.prog 8 [va0, va1].toArray w fun e w' => ∃ v, e = .returned v ∧ v = .bool r ∧ Chg Non w w' := by
  unfold laws_FnExactInputsOk at h
  have ra0 := ra0.sub (F' := fun k => k < w.heap.size) (fun k hk _ => hk)
  obtain ⟨v1, rfl, r1⟩ := RV.Program ra0
  obtain ⟨a1, c1, rfl, -⟩ := r1.slice
  have ra1 := ra1.sub (F' := fun k => k < w.heap.size) (fun k hk _ => hk)
  obtain ⟨a2, c2, rfl, -⟩ := ra1.slice
  have hC : Chg Non w w := Chg.refl _ _
  refine enter (N := 43) Try.func8 rfl Try.ntmps8 rfl fun fr hF => ?_
  refine wp_seq (wp_text' ?_)
  refine s_box [.int .i64 p0.W, .int .i64 p0.Mem, .int .i64 p0.In, .slice a1 (List.length p0.Code) c1] rfl rfl hF rfl rfl fun b1 w1 fr b1lo hb1 hc hF => ?_
  have hC := hC.trans hc
  have r1 := r1.ext hc
  have ra1 := ra1.ext hc
  have z1 := hc.size
  have b1hi := hb1.lt
  refine from_pure 1 [(1, .slice a2 (List.length p1) c2), (2, .pointer (some ⟨b1, 0, none⟩))] hF (by kernel_rfl) fun fr hF => ?_
  refine from_end rfl (then_normal ?_)
  refine wp_seq ?_
  refine wp_seq (wp_pure [(1, .slice a2 (List.length p1) c2), (2, .pointer (some ⟨b1, 0, none⟩)), (12, .bool (decide ((len p1) > 1048576)))] hF (by kernel_rfl) fun fr hF => then_normal ?_)
  refine (wp_if hF (b := (decide ((len p1) > 1048576))) rfl (fun hb => ?_) (fun hb => ?_))
  · replace h := iteT hb h
    refine wp_seq (wp_pure [(4, .bool true)] hF (by kernel_rfl) fun fr hF => then_normal ?_)
    obtain rfl := Option.some.inj h
    exact wp_ret (then_ret (ret1 rfl hF rfl ⟨_, rfl, rfl, hC⟩))
  · replace h := iteF hb h
    refine (wp_skip (then_normal ?_))
    refine wp_seq (wp_pure [(1, .slice a2 (List.length p1) c2), (2, .pointer (some ⟨b1, 0, none⟩)), (5, .int .i64 1048576)] hF (by kernel_rfl) fun fr hF => then_normal ?_)
    refine wp_seq (wp_text' ?_)
    refine s_loadBoxS ty45 rfl rfl hF rfl hb1 rfl rfl fun fr hF => ?_
    refine from_pure 1 [(1, .slice a2 (List.length p1) c2), (2, .pointer (some ⟨b1, 0, none⟩)), (13, .agg #[.int .i64 p0.W, .int .i64 p0.Mem, .int .i64 p0.In, .slice a1 (List.length p0.Code) c1]), (14, .int .i64 1048576)] hF (by kernel_rfl) fun fr hF => ?_
    obtain ⟨x1, hx1, h⟩ := bindE h
    refine s_call [.agg #[.int .i64 p0.W, .int .i64 p0.Mem, .int .i64 p0.In, .slice a1 (List.length p0.Code) c1], .int .i64 1048576] Try.call21 rfl rfl hF rfl (laws_szProgram_ok p0 1048576 hx1 (RV.mk_Program p0 (RV.any (r1)))) fun v w2 fr hR hF => ?_
    obtain ⟨rfl, hc⟩ := hR
    have hC := hC.trans hc
    have ra1 := ra1.ext hc
    have r1 := r1.ext hc
    have hb1 := hb1.ext hc
    have z2 := hc.size
    refine from_pure 1 [(1, .slice a2 (List.length p1) c2), (2, .pointer (some ⟨b1, 0, none⟩)), (5, .int .i64 x1)] hF (by kernel_rfl) fun fr hF => ?_
    refine from_end rfl (then_normal ?_)
    refine wp_seq ?_
    refine wp_seq (wp_pure [(1, .slice a2 (List.length p1) c2), (2, .pointer (some ⟨b1, 0, none⟩)), (17, .bool (decide (x1 < 0)))] hF (by kernel_rfl) fun fr hF => then_normal ?_)
    refine (wp_if hF (b := (decide (x1 < 0))) rfl (fun hb => ?_) (fun hb => ?_))
    · replace h := iteT hb h
      refine wp_seq (wp_pure [(4, .bool true)] hF (by kernel_rfl) fun fr hF => then_normal ?_)
      obtain rfl := Option.some.inj h
      exact wp_ret (then_ret (ret1 rfl hF rfl ⟨_, rfl, rfl, hC⟩))
    · replace h := iteF hb h
      refine (wp_skip (then_normal ?_))
      refine wp_seq (wp_text' ?_)
      refine s_loadBoxS ty45 rfl rfl hF rfl hb1 rfl rfl fun fr hF => ?_
      obtain ⟨x2, hx2, h⟩ := bindE h
      refine s_call [.agg #[.int .i64 p0.W, .int .i64 p0.Mem, .int .i64 p0.In, .slice a1 (List.length p0.Code) c1]] Try.call23 rfl rfl hF rfl (laws_toProgram_ok n p0 hx2 (RV.mk_Program p0 (RV.any (r1)))) fun v w3 fr hR hF => ?_
      obtain ⟨v2, rfl, hc, r2⟩ := hR
      have hC := hC.trans hc
      have ra1 := ra1.ext hc
      have r1 := r1.ext hc
      have hb1 := hb1.ext hc
      have z3 := hc.size
      have r2 := r2.sub (F' := fun k => w2.heap.size ≤ k ∧ k < w3.heap.size) (fun k hk hf => by (try dsimp only at *); omega)
      obtain ⟨v3, rfl, r3⟩ := RV.Program r2
      obtain ⟨a3, c3, rfl, -⟩ := r3.slice
      refine from_pure 1 [(1, .slice a2 (List.length p1) c2), (2, .pointer (some ⟨b1, 0, none⟩)), (19, .agg #[.int .i64 x2.W, .int .i64 x2.Mem, .int .i64 x2.In, .slice a3 (List.length x2.Code) c3]), (20, .slice a2 (List.length p1) c2)] hF (by kernel_rfl) fun fr hF => ?_
      obtain ⟨x3, hx3, h⟩ := bindE h
      refine s_call [.slice a2 (List.length p1) c2] Try.call34 rfl rfl hF rfl (laws_toIntS_ok n p1 hx3 ra1) fun v w4 fr hR hF => ?_
      obtain ⟨go1, a4, c4, rfl, hc, o1⟩ := hR
      have hC := hC.trans hc
      have ra1 := ra1.ext hc
      have r3 := r3.ext hc
      have r1 := r1.ext hc
      have hb1 := hb1.ext hc
      have z4 := hc.size
      have o2 := o1.regard (G' := (fun k => w.heap.size ≤ k ∧ k ≠ b1 ∧ ¬ (w2.heap.size ≤ k ∧ k < w3.heap.size))) (fun k hk hG => by (try dsimp only at *); omega)
      obtain ⟨x4, hx4, h⟩ := bindE h
      refine s_call [.agg #[.int .i64 x2.W, .int .i64 x2.Mem, .int .i64 x2.In, .slice a3 (List.length x2.Code) c3], .slice a4 (List.length x3) c4] Try.call33 rfl rfl hF rfl (spec_InputsOk_ok n x2 x3 hx4 (RV.mk_Program x2 (RV.any (r3))) o2.rv) fun v w5 fr hR hF => ?_
      obtain ⟨rfl, hc⟩ := hR
      have hC := hC.trans hc
      have ra1 := ra1.ext hc
      have r3 := r3.ext hc
      have r1 := r1.ext hc
      have hb1 := hb1.ext hc
      have o3 := o2.ext hc
      have z5 := hc.size
      refine from_pure 1 [(1, .slice a2 (List.length p1) c2), (2, .pointer (some ⟨b1, 0, none⟩)), (6, .bool x4)] hF (by kernel_rfl) fun fr hF => ?_
      refine from_end rfl (then_normal ?_)
      refine wp_seq (wp_text' ?_)
      refine s_loadBoxS ty45 rfl rfl hF rfl hb1 rfl rfl fun fr hF => ?_
      obtain ⟨x5, hx5, h⟩ := bindE h
      refine s_call [.agg #[.int .i64 p0.W, .int .i64 p0.Mem, .int .i64 p0.In, .slice a1 (List.length p0.Code) c1]] Try.call23 rfl rfl hF rfl (laws_toProgram_ok n p0 hx5 (RV.mk_Program p0 (RV.any (r1)))) fun v w6 fr hR hF => ?_
      obtain ⟨v4, rfl, hc, r4⟩ := hR
      have hC := hC.trans hc
      have ra1 := ra1.ext hc
      have r1 := r1.ext hc
      have hb1 := hb1.ext hc
      have z6 := hc.size
      have r4 := r4.sub (F' := fun k => w5.heap.size ≤ k ∧ k < w6.heap.size) (fun k hk hf => by (try dsimp only at *); omega)
      obtain ⟨v5, rfl, r5⟩ := RV.Program r4
      obtain ⟨a5, c5, rfl, -⟩ := r5.slice
      refine s_alloc (z := .agg #[.int .i64 0, .int .i64 0, .int .i64 0, .slice none (List.length ([] : List D.Ins)) 0]) [.int .i64 0, .int .i64 0, .int .i64 0, .slice none (List.length ([] : List D.Ins)) 0] rfl rfl hF (by kernel_rfl) rfl fun b2 w7 fr b2lo hb2 hc hF => ?_
      have hC := hC.trans hc
      have ra1 := ra1.ext hc
      have r5 := r5.ext hc
      have r1 := r1.ext hc
      have hb1 := hb1.ext hc
      have z7 := hc.size
      have b2hi := hb2.lt
      refine s_storeBoxS [.int .i64 x5.W, .int .i64 x5.Mem, .int .i64 x5.In, .slice a5 (List.length x5.Code) c5] rfl hF rfl rfl (by kernel_rfl) hb2 rfl rfl rfl fun w8 hb2 hc hF => ?_
      have hC := hC.trans' hc (fun x hx => .inr (by subst hx; (try dsimp only at *); omega))
      have ra1 := ra1.chg hc (fun k hk hs => by subst hs; (try dsimp only at *); omega)
      have r5 := r5.chg hc (fun k hk hs => by subst hs; (try dsimp only at *); omega)
      have r1 := r1.chg hc (fun k hk hs => by subst hs; (try dsimp only at *); omega)
      have hb1 := hb1.chg hc (by omega)
      have z8 := hc.size
      refine from_end rfl (then_normal ?_)
      refine wp_seq (wp_text' ?_)
      refine from_pure 1 [(1, .slice a2 (List.length p1) c2), (2, .pointer (some ⟨b1, 0, none⟩)), (6, .bool x4), (7, .pointer (some ⟨b2, 0, none⟩)), (25, .slice a2 (List.length p1) c2)] hF (by kernel_rfl) fun fr hF => ?_
      obtain ⟨x6, hx6, h⟩ := bindE h
      refine s_call [.slice a2 (List.length p1) c2] Try.call34 rfl rfl hF rfl (laws_toIntS_ok n p1 hx6 ra1) fun v w9 fr hR hF => ?_
      obtain ⟨go2, a6, c6, rfl, hc, o4⟩ := hR
      have hC := hC.trans hc
      have ra1 := ra1.ext hc
      have r1 := r1.ext hc
      have r5 := r5.ext hc
      have hb1 := hb1.ext hc
      have hb2 := hb2.ext hc
      have z9 := hc.size
      have o5 := o4.regard (G' := (fun k => w.heap.size ≤ k ∧ k ≠ b1 ∧ k ≠ b2 ∧ ¬ (w5.heap.size ≤ k ∧ k < w6.heap.size))) (fun k hk hG => by (try dsimp only at *); omega)
      refine from_pure 1 [(1, .slice a2 (List.length p1) c2), (2, .pointer (some ⟨b1, 0, none⟩)), (6, .bool x4), (7, .pointer (some ⟨b2, 0, none⟩)), (8, .slice a6 (List.length x6) c6)] hF (by kernel_rfl) fun fr hF => ?_
      refine from_end rfl (then_normal ?_)
      refine wp_seq (wp_text' ?_)
      refine s_loadBoxS ty50 rfl rfl hF rfl hb2 rfl rfl fun fr hF => ?_
      refine from_pure 1 [(1, .slice a2 (List.length p1) c2), (2, .pointer (some ⟨b1, 0, none⟩)), (6, .bool x4), (7, .pointer (some ⟨b2, 0, none⟩)), (8, .slice a6 (List.length x6) c6), (27, .agg #[.int .i64 x5.W, .int .i64 x5.Mem, .int .i64 x5.In, .slice a5 (List.length x5.Code) c5]), (28, .slice a6 (List.length x6) c6)] hF (by kernel_rfl) fun fr hF => ?_
      obtain ⟨x7, hx7, h⟩ := bindE h
      refine s_call [.agg #[.int .i64 x5.W, .int .i64 x5.Mem, .int .i64 x5.In, .slice a5 (List.length x5.Code) c5], .slice a6 (List.length x6) c6] Try.call35 rfl rfl hF rfl (impl_InputsOk_ok n x5 x6 hx7 (RV.mk_Program x5 (RV.any (r5))) o5.rv) fun v w10 fr hR hF => ?_
      obtain ⟨rfl, hc⟩ := hR
      have hC := hC.trans hc
      have ra1 := ra1.ext hc
      have r5 := r5.ext hc
      have r1 := r1.ext hc
      have hb1 := hb1.ext hc
      have hb2 := hb2.ext hc
      have o6 := o5.ext hc
      have z10 := hc.size
      refine from_pure 1 [(1, .slice a2 (List.length p1) c2), (2, .pointer (some ⟨b1, 0, none⟩)), (6, .bool x4), (7, .pointer (some ⟨b2, 0, none⟩)), (8, .slice a6 (List.length x6) c6), (9, .bool x7)] hF (by kernel_rfl) fun fr hF => ?_
      refine from_end rfl (then_normal ?_)
      refine wp_seq ?_
      refine wp_seq (wp_pure [(1, .slice a2 (List.length p1) c2), (2, .pointer (some ⟨b1, 0, none⟩)), (7, .pointer (some ⟨b2, 0, none⟩)), (8, .slice a6 (List.length x6) c6), (32, .bool (!(x7 == x4)))] hF (by kernel_rfl) fun fr hF => then_normal ?_)
      refine (wp_if hF (b := (!(x7 == x4))) rfl (fun hb => ?_) (fun hb => ?_))
      · replace h := iteT hb h
        refine wp_seq (wp_pure [(4, .bool false)] hF (by kernel_rfl) fun fr hF => then_normal ?_)
        obtain rfl := Option.some.inj h
        exact wp_ret (then_ret (ret1 rfl hF rfl ⟨_, rfl, rfl, hC⟩))
      · replace h := iteF hb h
        refine (wp_skip (then_normal ?_))
        refine wp_seq ?_
        obtain ⟨x8, hx8, h⟩ := bindE h
        obtain ⟨x9, hx9, h⟩ := bindE h
        refine wp_seq (region_b [0, 0, 2, 7, 15] [false, false, false, false, true]
            [.eq (.agg #[.int .i64 x5.W, .int .i64 x5.Mem, .int .i64 x5.In, .slice a5 (List.length x5.Code) c5]), .eq (.agg #[.int .i64 p0.W, .int .i64 p0.Mem, .int .i64 p0.In, .slice a1 (List.length p0.Code) c1]), .is fun v w => RV w (fun k => k < w.heap.size) v (x8 : D.Program), .eq (.bool x9), .eq (.bool (!x9))]
            [(1, .slice a2 (List.length p1) c2), (8, .slice a6 (List.length x6) c6), (37, .bool (!x9))] mix hF (by kernel_rfl) (by kernel_rfl) (by kernel_rfl) ⟨Pd.mono_eq, Pd.mono_eq, mono_rvb, Pd.mono_eq, trivial⟩ (fun hG => ⟨np_loadBoxS hG hF ty50 rfl rfl hb2 rfl rfl rfl rfl, np_loadBoxS hG hF ty45 rfl rfl hb1 rfl rfl rfl rfl, np_callI [.inl (.agg #[.int .i64 p0.W, .int .i64 p0.Mem, .int .i64 p0.In, .slice a1 (List.length p0.Code) c1])] hG hF Try.call23 rfl rfl (by kernel_rfl) (fun w vs hC hg ha => by obtain ⟨_, rfl, rfl⟩ := ha; exact (laws_toProgram_ok n p0 hx8 ((RV.mk_Program p0 (RV.any (r1))).ext hC)).mono fun e w' ⟨v, he, u, hv, hc, o⟩ => ⟨_, he, hc, by rw [hv]; exact (show RV w' (fun k => k < w'.heap.size) _ (x8 : D.Program) from RV.sub o fun k hk _ => hk)⟩), np_callI [.inl (.agg #[.int .i64 x5.W, .int .i64 x5.Mem, .int .i64 x5.In, .slice a5 (List.length x5.Code) c5]), .inr 2] hG hF Try.call25 rfl rfl (by kernel_rfl) (fun w vs hC hg ha => by obtain ⟨_, rfl, vq1, _, rfl, hq1, rfl⟩ := ha; exact (laws_eqProgram_ok n x5 x8 hx9 ((RV.mk_Program x5 (RV.any (r5))).ext hC) (show RV w (fun k => k < w.heap.size) vq1 x8 from hq1)).mono fun e w' ⟨v, he, hv, hc⟩ => ⟨v, he, hc, hv⟩), trivial⟩) (by kernel_rfl) fun fr w11 hF hE hc => then_normal ?_)
        have hC := hC.trans hc
        have ra1 := ra1.ext hc
        have o7 := o6.ext hc
        have z11 := hc.size
        refine (wp_if hF (b := (!x9)) rfl (fun hb => ?_) (fun hb => ?_))
        · replace h := iteT hb h
          refine wp_seq (wp_pure [(4, .bool false)] hF (by kernel_rfl) fun fr hF => then_normal ?_)
          obtain rfl := Option.some.inj h
          exact wp_ret (then_ret (ret1 rfl hF rfl ⟨_, rfl, rfl, hC⟩))
        · replace h := iteF hb h
          refine (wp_skip (then_normal ?_))
          refine wp_seq ?_
          refine wp_seq (wp_text' ?_)
          refine from_pure 2 [(38, .slice a6 (List.length x6) c6), (39, .slice a2 (List.length p1) c2)] hF (by kernel_rfl) fun fr hF => ?_
          obtain ⟨x10, hx10, h⟩ := bindE h
          refine s_call [.slice a2 (List.length p1) c2] Try.call34 rfl rfl hF rfl (laws_toIntS_ok n p1 hx10 ra1) fun v w12 fr hR hF => ?_
          obtain ⟨go3, a7, c7, rfl, hc, o8⟩ := hR
          have o9 := o7.regard (G' := (fun k => w.heap.size ≤ k ∧ k ≠ b1 ∧ k ≠ b2 ∧ ¬ (w5.heap.size ≤ k ∧ k < w6.heap.size) ∧ ¬ (w11.heap.size ≤ k ∧ k < w12.heap.size))) (fun k hk hG => by (try dsimp only at *); omega)
          have hC := hC.trans hc
          have ra1 := ra1.ext hc
          have o10 := o9.ext hc
          have z12 := hc.size
          have o11 := o8.regard (G' := (fun k => w.heap.size ≤ k)) (fun k hk hG => by (try dsimp only at *); omega)
          obtain ⟨x11, hx11, h⟩ := bindE h
          refine s_call [.slice a6 (List.length x6) c6, .slice a7 (List.length x10) c7] Try.call36 rfl rfl hF rfl (laws_eqIntS_ok n x6 x10 hx11 o10.rv o11.rv) fun v w13 fr hR hF => ?_
          obtain ⟨rfl, hc⟩ := hR
          have hC := hC.trans hc
          have o12 := o10.ext hc
          have o13 := o11.ext hc
          have z13 := hc.size
          refine from_pure 1 [(42, .bool (!x11))] hF (by kernel_rfl) fun fr hF => ?_
          refine from_end rfl (then_normal ?_)
          refine (wp_if hF (b := (!x11)) rfl (fun hb => ?_) (fun hb => ?_))
          · replace h := iteT hb h
            refine wp_seq (wp_pure [(4, .bool false)] hF (by kernel_rfl) fun fr hF => then_normal ?_)
            obtain rfl := Option.some.inj h
            exact wp_ret (then_ret (ret1 rfl hF rfl ⟨_, rfl, rfl, hC⟩))
          · replace h := iteF hb h
            refine (wp_skip (then_normal ?_))
            refine wp_seq (wp_pure [(4, .bool true)] hF (by kernel_rfl) fun fr hF => then_normal ?_)
            obtain rfl := Option.some.inj h
            exact wp_ret (ret1 rfl hF rfl ⟨_, rfl, rfl, hC⟩)
end Go.Proofs.Ytfccdlggophhoaa
