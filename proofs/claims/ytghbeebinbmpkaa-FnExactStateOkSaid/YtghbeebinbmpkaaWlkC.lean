/- Printed by gen2.py: the walks. -/
import Derived.Test.YtghbeebinbmpkaaWlkB
set_option linter.unusedVariables false
set_option maxRecDepth 100000
namespace Go.Proofs.Ytghbeebinbmpkaa
open Go.GL
theorem spec_StateOk_ok (n : Nat) (p0 : D.Program) (p1 : D.State) {r : Bool} (h : spec_StateOk n p0 p1 = some r) {w : World} {F0 : Nat → Prop} {va0 : Value} (ra0 : RV w F0 va0 p0) {F1 : Nat → Prop} {va1 : Value} (ra1 : RV w F1 va1 p1) :
    Calls Try.prog 19 [va0, va1].toArray w fun e w' => ∃ v, e = .returned v ∧ v = .bool r ∧ Chg Non w w' := by
  unfold spec_StateOk at h
  have ra0 := ra0.sub (F' := fun k => k < w.heap.size) (fun k hk _ => hk)
  obtain ⟨v1, rfl, r1⟩ := RV.Program ra0
  obtain ⟨a1, c1, rfl, -⟩ := r1.slice
  have ra1 := ra1.sub (F' := fun k => k < w.heap.size) (fun k hk _ => hk)
  obtain ⟨v2, v3, v4, v5, rfl, r2, r3, r4, r5⟩ := RV.State ra1
  obtain ⟨a2, c2, rfl, -⟩ := r2.slice
  obtain ⟨a3, c3, rfl, -⟩ := r3.slice
  obtain ⟨a4, c4, rfl, -⟩ := r4.slice
  obtain ⟨a5, c5, rfl, -⟩ := r5.slice
  have hC : Chg Non w w := Chg.refl _ _
  refine enter (N := 85) Try.func19 rfl Try.ntmps19 rfl fun fr hF => ?_
  refine wp_seq (wp_text' ?_)
  refine s_box [.int .i64 p0.W, .int .i64 p0.Mem, .int .i64 p0.In, .slice a1 (List.length p0.Code) c1] rfl rfl hF rfl rfl fun b1 w1 fr b1lo hb1 hc hF => ?_
  have hC := hC.trans hc
  have r1 := r1.ext hc
  have r2 := r2.ext hc
  have r3 := r3.ext hc
  have r4 := r4.ext hc
  have r5 := r5.ext hc
  have z1 := hc.size
  have b1hi := hb1.lt
  refine s_box [.int .i64 p1.Pc, .slice a2 (List.length p1.Regs) c2, .slice a3 (List.length p1.Mem) c3, .slice a4 (List.length p1.Stack) c4, .int .i64 p1.In, .slice a5 (List.length p1.Out) c5, .int .i64 p1.Code, .int .i64 p1.Steps] rfl rfl hF rfl rfl fun b2 w2 fr b2lo hb2 hc hF => ?_
  have hC := hC.trans hc
  have r2 := r2.ext hc
  have r3 := r3.ext hc
  have r4 := r4.ext hc
  have r5 := r5.ext hc
  have r1 := r1.ext hc
  have hb1 := hb1.ext hc
  have z2 := hc.size
  have b2hi := hb2.lt
  refine from_pure 1 [(2, .pointer (some ⟨b1, 0, none⟩)), (3, .pointer (some ⟨b2, 0, none⟩))] hF (by kernel_rfl) fun fr hF => ?_
  refine from_end rfl (then_normal ?_)
  refine wp_seq ?_
  obtain ⟨x1, hx1, h⟩ := bindE h
  refine wp_seq (region_b [] [false, false, true, true, true, false, true, true, true, true, true, false, true, true, true]
      [.eq (.agg #[.int .i64 p0.W, .int .i64 p0.Mem, .int .i64 p0.In, .slice a1 (List.length p0.Code) c1]), .eq (.bool x1), .eq (.bool (!x1)), .eq (.bool (!x1)), .eq (.pointer (some ⟨b2, 3, none⟩)), .eq (.slice a4 (List.length p1.Stack) c4), .eq (.int .i64 (len p1.Stack)), .eq (.bool (decide ((len p1.Stack) > 3))), .eq (.bool ((!x1) || (decide ((len p1.Stack) > 3)))), .eq (.bool ((!x1) || (decide ((len p1.Stack) > 3)))), .eq (.pointer (some ⟨b2, 5, none⟩)), .eq (.slice a5 (List.length p1.Out) c5), .eq (.int .i64 (len p1.Out)), .eq (.bool (decide ((len p1.Out) > 6))), .eq (.bool (((!x1) || (decide ((len p1.Stack) > 3))) || (decide ((len p1.Out) > 6))))]
      [(2, .pointer (some ⟨b1, 0, none⟩)), (3, .pointer (some ⟨b2, 0, none⟩)), (21, .bool (((!x1) || (decide ((len p1.Stack) > 3))) || (decide ((len p1.Out) > 6))))] mix hF (by kernel_rfl) (by kernel_rfl) (by kernel_rfl) ⟨Pd.mono_eq, Pd.mono_eq, Pd.mono_eq, Pd.mono_eq, trivial⟩ (fun hG => ⟨np_loadBoxS hG hF ty32 rfl rfl hb1 rfl rfl rfl rfl, np_call [.agg #[.int .i64 p0.W, .int .i64 p0.Mem, .int .i64 p0.In, .slice a1 (List.length p0.Code) c1]] hG hF Try.call40 rfl rfl (fun w hC hg => (spec_ProgramOk_ok n p0 hx1 ((RV.mk_Program p0 (RV.any (r1))).ext hC)).mono fun e w' ⟨v, he, hv, hc⟩ => ⟨v, he, hc, hv⟩), np_loadBox hG hF ty26 rfl rfl hb2 rfl rfl rfl, np_loadBox hG hF ty26 rfl rfl hb2 rfl rfl rfl, trivial⟩) (by kernel_rfl) fun fr w3 hF hE hc => then_normal ?_)
  have hC := hC.trans hc
  have r1 := r1.ext hc
  have r2 := r2.ext hc
  have r3 := r3.ext hc
  have r4 := r4.ext hc
  have r5 := r5.ext hc
  have hb1 := hb1.ext hc
  have hb2 := hb2.ext hc
  have z3 := hc.size
  refine (wp_if hF (b := (((!x1) || (decide ((len p1.Stack) > 3))) || (decide ((len p1.Out) > 6)))) rfl (fun hb => ?_) (fun hb => ?_))
  · replace h := iteT hb h
    refine wp_seq (wp_pure [(4, .bool false)] hF (by kernel_rfl) fun fr hF => then_normal ?_)
    obtain rfl := Option.some.inj h
    exact wp_ret (then_ret (ret1 rfl hF rfl ⟨_, rfl, rfl, hC⟩))
  · replace h := iteF hb h
    refine (wp_skip (then_normal ?_))
    refine wp_seq ?_
    refine wp_seq (wp_text' ?_)
    refine from_pure 1 [(2, .pointer (some ⟨b1, 0, none⟩)), (3, .pointer (some ⟨b2, 0, none⟩)), (22, .pointer (some ⟨b2, 3, none⟩))] hF (by kernel_rfl) fun fr hF => ?_
    refine s_loadBox (.slice a4 (List.length p1.Stack) c4) ty26 rfl rfl hF rfl hb2 rfl rfl fun fr hF => ?_
    refine from_pure 2 [(2, .pointer (some ⟨b1, 0, none⟩)), (3, .pointer (some ⟨b2, 0, none⟩)), (23, .slice a4 (List.length p1.Stack) c4), (24, .int .i64 (len p1.Stack)), (25, .int .i64 0)] hF (by kernel_rfl) fun fr hF => ?_
    refine from_end rfl (then_normal ?_)
    obtain ⟨rl1, hit1, h⟩ := bindE h
    have hk1 := h
    refine (wp_cut (M := fun fr w' => ∃ s, rl1 = .inl s ∧ FrS 85 [(2, .pointer (some ⟨b1, 0, none⟩)), (3, .pointer (some ⟨b2, 0, none⟩))] fr ∧ Chg (Non) w3 w') (wp_block (wp_iter (Inv := fun s1 fr w' => FrS 85 [(2, .pointer (some ⟨b1, 0, none⟩)), (3, .pointer (some ⟨b2, 0, none⟩)), (23, .slice a4 (List.length p1.Stack) c4), (24, .int .i64 (len p1.Stack)), (25, .int .i64 s1)] fr ∧ Chg (Non) w3 w') hit1 ⟨hF.sub _ (by kernel_rfl), Chg.refl _ _⟩ fun s1 q1 fr w1i hI h hr1 => ?_)) fun fr w1o hM => ?_)
    · obtain ⟨hF, hc⟩ := hI
      have zLw1i := hc.size
      have hC := hC.trans hc
      have r4 := r4.ext hc
      have r1 := r1.ext hc
      have r2 := r2.ext hc
      have r3 := r3.ext hc
      have r5 := r5.ext hc
      have hb1 := hb1.ext hc
      have hb2 := hb2.ext hc
      have hL1 := hc
      refine wp_seq (wp_pure [(2, .pointer (some ⟨b1, 0, none⟩)), (3, .pointer (some ⟨b2, 0, none⟩)), (23, .slice a4 (List.length p1.Stack) c4), (24, .int .i64 (len p1.Stack)), (25, .int .i64 s1), (26, .bool (decide (s1 < (len p1.Stack))))] hF (by kernel_rfl) fun fr hF => then_normal ?_)
      refine wp_seq (wp_if hF (b := (decide (s1 < (len p1.Stack)))) rfl (fun hb => ?_) (fun hb => ?_))
      · replace h := iteT hb h
        refine (wp_skip (then_normal ?_))
        refine wp_seq (wp_block ?_)
        refine wp_seq (wp_text' ?_)
        obtain ⟨x2, hx2, h⟩ := bindE h
        refine s_elemF (z := x2) (.int .i64 x2) ty3 Try.underlying26 rfl rfl rfl rfl rfl hF rfl (r4) rfl (get?_nn hx2) (get?_at hx2) rfl fun p fr hF => ?_
        refine from_pure 1 [(2, .pointer (some ⟨b1, 0, none⟩)), (3, .pointer (some ⟨b2, 0, none⟩)), (6, .int .i64 x2), (23, .slice a4 (List.length p1.Stack) c4), (24, .int .i64 (len p1.Stack)), (25, .int .i64 s1)] hF (by kernel_rfl) fun fr hF => ?_
        refine from_end rfl (then_normal ?_)
        refine wp_seq (wp_text' ?_)
        refine from_pure 2 [(2, .pointer (some ⟨b1, 0, none⟩)), (3, .pointer (some ⟨b2, 0, none⟩)), (23, .slice a4 (List.length p1.Stack) c4), (24, .int .i64 (len p1.Stack)), (25, .int .i64 s1), (29, .int .i64 x2), (30, .pointer (some ⟨b1, 3, none⟩))] hF (by kernel_rfl) fun fr hF => ?_
        refine s_loadBox (.slice a1 (List.length p0.Code) c1) ty30 rfl rfl hF rfl hb1 rfl rfl fun fr hF => ?_
        refine from_pure 1 [(2, .pointer (some ⟨b1, 0, none⟩)), (3, .pointer (some ⟨b2, 0, none⟩)), (23, .slice a4 (List.length p1.Stack) c4), (24, .int .i64 (len p1.Stack)), (25, .int .i64 s1), (29, .int .i64 x2), (32, .int .i64 (len p0.Code))] hF (by kernel_rfl) fun fr hF => ?_
        obtain ⟨x3, hx3, h⟩ := bindE h
        refine s_call [.int .i64 x2, .int .i64 0, .int .i64 (len p0.Code)] Try.call46 rfl rfl hF rfl (spec_l01In_ok x2 0 (len p0.Code) hx3) fun v w4 fr hR hF => ?_
        obtain ⟨rfl, hc⟩ := hR
        have hC := hC.trans hc
        have r4 := r4.ext hc
        have r1 := r1.ext hc
        have r2 := r2.ext hc
        have r3 := r3.ext hc
        have r5 := r5.ext hc
        have hb1 := hb1.ext hc
        have hb2 := hb2.ext hc
        have z4 := hc.size
        have hL2 := hL1.trans' hc (fun _ hx => False.elim hx)
        refine from_pure 1 [(2, .pointer (some ⟨b1, 0, none⟩)), (3, .pointer (some ⟨b2, 0, none⟩)), (23, .slice a4 (List.length p1.Stack) c4), (24, .int .i64 (len p1.Stack)), (25, .int .i64 s1), (34, .bool (!x3))] hF (by kernel_rfl) fun fr hF => ?_
        refine from_end rfl (then_normal ?_)
        refine (wp_if hF (b := (!x3)) rfl (fun hb => ?_) (fun hb => ?_))
        · replace h := iteT hb h
          refine wp_seq (wp_pure [(4, .bool false)] hF (by kernel_rfl) fun fr hF => then_normal ?_)
          obtain rfl := hr1 _ (Option.some.inj h).symm
          obtain rfl := Option.some.inj hk1
          exact wp_ret (blk_ret (then_ret (then_ret (blk_ret (then_ret (ret1 rfl hF rfl ⟨_, rfl, rfl, hC⟩))))))
        · replace h := iteF hb h
          refine (wp_skip ?_)
          refine blk_normal (then_normal ?_)
          refine (wp_pure [(2, .pointer (some ⟨b1, 0, none⟩)), (3, .pointer (some ⟨b2, 0, none⟩)), (23, .slice a4 (List.length p1.Stack) c4), (24, .int .i64 (len p1.Stack)), (25, .int .i64 (w64 (s1 + 1)))] hF (by kernel_rfl) fun fr hF => then_normal ?_)
          exact ⟨_, (Option.some.inj h).symm, hF.sub _ (by kernel_rfl), hL2⟩
      · replace h := iteF hb h
        refine (wp_exit (then_exit (then_exit (blk_exit_eq ?_))))
        obtain rfl := hr1 _ (Option.some.inj h).symm
        exact then_normal ⟨_, rfl, hF.sub _ (by kernel_rfl), hL1⟩
    · obtain ⟨s1r, rfl, hM⟩ := hM
      obtain ⟨hF, hc⟩ := hM
      have zLw1o := hc.size
      have hC := hC.trans hc
      have r1 := r1.ext hc
      have r2 := r2.ext hc
      have r3 := r3.ext hc
      have r4 := r4.ext hc
      have r5 := r5.ext hc
      have hb1 := hb1.ext hc
      have hb2 := hb2.ext hc
      obtain ⟨x4, hx4, h⟩ := bindE h
      obtain ⟨x5, hx5, h⟩ := bindE h
      obtain ⟨x6, hx6, h⟩ := bindE h
      obtain ⟨x7, hx7, h⟩ := bindE h
      obtain ⟨x8, hx8, h⟩ := bindE h
      obtain ⟨x9, hx9, h⟩ := bindE h
      obtain ⟨x10, hx10, h⟩ := bindE h
      refine wp_seq (region_b [] [true, false, true, false, true, false, true, true, false, true, false, false, true, true, true, false, true, false, true, false, false, true, true, true, false, true, false, false, true, true, true, false, true, false, true, true, false, false, true, true, true, false, false, true, true, true, false, false, true, true]
          [.eq (.pointer (some ⟨b2, 0, none⟩)), .eq (.int .i64 p1.Pc), .eq (.pointer (some ⟨b1, 3, none⟩)), .eq (.slice a1 (List.length p0.Code) c1), .eq (.int .i64 (len p0.Code)), .eq (.bool x4), .eq (.bool x4), .eq (.pointer (some ⟨b2, 1, none⟩)), .eq (.slice a2 (List.length p1.Regs) c2), .eq (.pointer (some ⟨b1, 0, none⟩)), .eq (.int .i64 p0.W), .eq (.bool x5), .eq (.bool (x4 && x5)), .eq (.bool (x4 && x5)), .eq (.pointer (some ⟨b2, 2, none⟩)), .eq (.slice a3 (List.length p1.Mem) c3), .eq (.pointer (some ⟨b1, 1, none⟩)), .eq (.int .i64 p0.Mem), .eq (.pointer (some ⟨b1, 0, none⟩)), .eq (.int .i64 p0.W), .eq (.bool x6), .eq (.bool ((x4 && x5) && x6)), .eq (.bool ((x4 && x5) && x6)), .eq (.pointer (some ⟨b2, 4, none⟩)), .eq (.int .i64 p1.In), .eq (.pointer (some ⟨b1, 2, none⟩)), .eq (.int .i64 p0.In), .eq (.bool x7), .eq (.bool (((x4 && x5) && x6) && x7)), .eq (.bool (((x4 && x5) && x6) && x7)), .eq (.pointer (some ⟨b2, 5, none⟩)), .eq (.slice a5 (List.length p1.Out) c5), .eq (.pointer (some ⟨b2, 5, none⟩)), .eq (.slice a5 (List.length p1.Out) c5), .eq (.int .i64 (len p1.Out)), .eq (.pointer (some ⟨b1, 0, none⟩)), .eq (.int .i64 p0.W), .eq (.bool x8), .eq (.bool ((((x4 && x5) && x6) && x7) && x8)), .eq (.bool ((((x4 && x5) && x6) && x7) && x8)), .eq (.pointer (some ⟨b2, 6, none⟩)), .eq (.int .i64 p1.Code), .eq (.bool x9), .eq (.bool (((((x4 && x5) && x6) && x7) && x8) && x9)), .eq (.bool (((((x4 && x5) && x6) && x7) && x8) && x9)), .eq (.pointer (some ⟨b2, 7, none⟩)), .eq (.int .i64 p1.Steps), .eq (.bool x10), .eq (.bool ((((((x4 && x5) && x6) && x7) && x8) && x9) && x10)), .eq (.bool ((((((x4 && x5) && x6) && x7) && x8) && x9) && x10))]
          [(4, .bool ((((((x4 && x5) && x6) && x7) && x8) && x9) && x10))] mix hF (by kernel_rfl) (by kernel_rfl) (by kernel_rfl) ⟨Pd.mono_eq, Pd.mono_eq, Pd.mono_eq, Pd.mono_eq, Pd.mono_eq, Pd.mono_eq, Pd.mono_eq, Pd.mono_eq, Pd.mono_eq, Pd.mono_eq, Pd.mono_eq, Pd.mono_eq, Pd.mono_eq, Pd.mono_eq, Pd.mono_eq, Pd.mono_eq, Pd.mono_eq, Pd.mono_eq, Pd.mono_eq, Pd.mono_eq, Pd.mono_eq, trivial⟩ (fun hG => ⟨np_loadBox hG hF ty3 rfl rfl hb2 rfl rfl rfl, np_loadBox hG hF ty30 rfl rfl hb1 rfl rfl rfl, np_call [.int .i64 p1.Pc, .int .i64 0, .int .i64 (len p0.Code)] hG hF Try.call46 rfl rfl (fun w hC hg => (spec_l01In_ok p1.Pc 0 (len p0.Code) hx4).mono fun e w' ⟨v, he, hv, hc⟩ => ⟨v, he, hc, hv⟩), np_loadBox hG hF ty26 rfl rfl hb2 rfl rfl rfl, np_loadBox hG hF ty3 rfl rfl hb1 rfl rfl rfl, np_call [.slice a2 (List.length p1.Regs) c2, .int .i64 4, .int .i64 p0.W] hG hF Try.call47 rfl rfl (fun w hC hg => (spec_l05Words_ok n p1.Regs 4 p0.W (iteT hg.2 hx5) (r2.ext hC)).mono fun e w' ⟨v, he, hv, hc⟩ => ⟨v, he, hc, hv⟩), np_loadBox hG hF ty26 rfl rfl hb2 rfl rfl rfl, np_loadBox hG hF ty3 rfl rfl hb1 rfl rfl rfl, np_loadBox hG hF ty3 rfl rfl hb1 rfl rfl rfl, np_call [.slice a3 (List.length p1.Mem) c3, .int .i64 p0.Mem, .int .i64 p0.W] hG hF Try.call47 rfl rfl (fun w hC hg => (spec_l05Words_ok n p1.Mem p0.Mem p0.W (iteT hg.2 hx6) (r3.ext hC)).mono fun e w' ⟨v, he, hv, hc⟩ => ⟨v, he, hc, hv⟩), np_loadBox hG hF ty3 rfl rfl hb2 rfl rfl rfl, np_loadBox hG hF ty3 rfl rfl hb1 rfl rfl rfl, np_call [.int .i64 p1.In, .int .i64 0, .int .i64 p0.In] hG hF Try.call46 rfl rfl (fun w hC hg => (spec_l01In_ok p1.In 0 p0.In (iteT hg.2 hx7)).mono fun e w' ⟨v, he, hv, hc⟩ => ⟨v, he, hc, hv⟩), np_loadBox hG hF ty26 rfl rfl hb2 rfl rfl rfl, np_loadBox hG hF ty26 rfl rfl hb2 rfl rfl rfl, np_loadBox hG hF ty3 rfl rfl hb1 rfl rfl rfl, np_call [.slice a5 (List.length p1.Out) c5, .int .i64 (len p1.Out), .int .i64 p0.W] hG hF Try.call47 rfl rfl (fun w hC hg => (spec_l05Words_ok n p1.Out (len p1.Out) p0.W (iteT hg.2 hx8) (r5.ext hC)).mono fun e w' ⟨v, he, hv, hc⟩ => ⟨v, he, hc, hv⟩), np_loadBox hG hF ty3 rfl rfl hb2 rfl rfl rfl, np_call [.int .i64 p1.Code, .int .i64 0, .int .i64 8] hG hF Try.call46 rfl rfl (fun w hC hg => (spec_l01In_ok p1.Code 0 8 (iteT hg.2 hx9)).mono fun e w' ⟨v, he, hv, hc⟩ => ⟨v, he, hc, hv⟩), np_loadBox hG hF ty3 rfl rfl hb2 rfl rfl rfl, np_call [.int .i64 p1.Steps, .int .i64 0, .int .i64 400] hG hF Try.call46 rfl rfl (fun w hC hg => (spec_l01In_ok p1.Steps 0 400 (iteT hg.2 hx10)).mono fun e w' ⟨v, he, hv, hc⟩ => ⟨v, he, hc, hv⟩), trivial⟩) (by kernel_rfl) fun fr w5 hF hE hc => then_normal ?_)
      have hC := hC.trans hc
      have z5 := hc.size
      obtain rfl := Option.some.inj h
      exact wp_ret (ret1 rfl hF rfl ⟨_, rfl, rfl, hC⟩)

theorem impl_shapeOk_ok (p0 : Int) (p1 : Int) {r : Bool} (h : impl_shapeOk p0 p1 = some r) {w : World} :
    Calls Try.prog 70 [.int .i64 p0, .int .i64 p1].toArray w fun e w' => ∃ v, e = .returned v ∧ v = .bool r ∧ Chg Non w w' := by
  unfold impl_shapeOk at h
  have hC : Chg Non w w := Chg.refl _ _
  refine enter (N := 19) Try.func70 rfl Try.ntmps70 rfl fun fr hF => ?_
  refine wp_seq (wp_pure [(0, .int .i64 p0), (1, .int .i64 p1)] hF (by kernel_rfl) fun fr hF => then_normal ?_)
  refine wp_seq (region_b [] [true, true, true, true, true, true, true, true, true, true, true, true, true, true, true]
      [.eq (.int .i64 p0), .eq (.bool (decide (p0 ≥ 2))), .eq (.bool (decide (p0 ≥ 2))), .eq (.int .i64 p0), .eq (.bool (decide (p0 ≤ 8))), .eq (.bool ((decide (p0 ≥ 2)) && (decide (p0 ≤ 8)))), .eq (.bool ((decide (p0 ≥ 2)) && (decide (p0 ≤ 8)))), .eq (.int .i64 p1), .eq (.bool (decide (p1 ≥ 1))), .eq (.bool (((decide (p0 ≥ 2)) && (decide (p0 ≤ 8))) && (decide (p1 ≥ 1)))), .eq (.bool (((decide (p0 ≥ 2)) && (decide (p0 ≤ 8))) && (decide (p1 ≥ 1)))), .eq (.int .i64 p1), .eq (.bool (decide (p1 ≤ 40))), .eq (.bool ((((decide (p0 ≥ 2)) && (decide (p0 ≤ 8))) && (decide (p1 ≥ 1))) && (decide (p1 ≤ 40)))), .eq (.bool ((((decide (p0 ≥ 2)) && (decide (p0 ≤ 8))) && (decide (p1 ≥ 1))) && (decide (p1 ≤ 40))))]
      [(4, .bool ((((decide (p0 ≥ 2)) && (decide (p0 ≤ 8))) && (decide (p1 ≥ 1))) && (decide (p1 ≤ 40))))] mix hF (by kernel_rfl) (by kernel_rfl) (by kernel_rfl) trivial (fun hG => trivial) (by kernel_rfl) fun fr w1 hF hE hc => then_normal ?_)
  have hC := hC.trans hc
  have z1 := hc.size
  obtain rfl := Option.some.inj h
  exact wp_ret (ret1 rfl hF rfl ⟨_, rfl, rfl, hC⟩)

theorem impl_isWidth_ok (p0 : Int) {r : Bool} (h : impl_isWidth p0 = some r) {w : World} :
    Calls Try.prog 89 [.int .i64 p0].toArray w fun e w' => ∃ v, e = .returned v ∧ v = .bool r ∧ Chg Non w w' := by
  unfold impl_isWidth at h
  have hC : Chg Non w w := Chg.refl _ _
  refine enter (N := 9) Try.func89 rfl Try.ntmps89 rfl fun fr hF => ?_
  refine wp_seq (wp_pure [(0, .int .i64 p0)] hF (by kernel_rfl) fun fr hF => then_normal ?_)
  refine wp_seq (region_b [] [true, true, true, true, true, true, true]
      [.eq (.int .i64 p0), .eq (.bool (decide (p0 ≥ 1))), .eq (.bool (decide (p0 ≥ 1))), .eq (.int .i64 p0), .eq (.bool (decide (p0 ≤ 16))), .eq (.bool ((decide (p0 ≥ 1)) && (decide (p0 ≤ 16)))), .eq (.bool ((decide (p0 ≥ 1)) && (decide (p0 ≤ 16))))]
      [(2, .bool ((decide (p0 ≥ 1)) && (decide (p0 ≤ 16))))] mix hF (by kernel_rfl) (by kernel_rfl) (by kernel_rfl) trivial (fun hG => trivial) (by kernel_rfl) fun fr w1 hF hE hc => then_normal ?_)
  have hC := hC.trans hc
  have z1 := hc.size
  obtain rfl := Option.some.inj h
  exact wp_ret (ret1 rfl hF rfl ⟨_, rfl, rfl, hC⟩)

theorem impl_WordOk_ok (p0 : Int) (p1 : Int) {r : Bool} (h : impl_WordOk p0 p1 = some r) {w : World} :
    Calls Try.prog 71 [.int .i64 p0, .int .i64 p1].toArray w fun e w' => ∃ v, e = .returned v ∧ v = .bool r ∧ Chg Non w w' := by
  unfold impl_WordOk at h
  have hC : Chg Non w w := Chg.refl _ _
  refine enter (N := 18) Try.func71 rfl Try.ntmps71 rfl fun fr hF => ?_
  refine wp_seq (wp_pure [(0, .int .i64 p0), (1, .int .i64 p1)] hF (by kernel_rfl) fun fr hF => then_normal ?_)
  obtain ⟨x1, hx1, h⟩ := bindE h
  obtain ⟨x2, hx2, h⟩ := bindE h
  refine wp_seq (region_b [] [true, false, true, true, true, true, true, true, true, true, false, true, true, true]
      [.eq (.int .i64 p0), .eq (.bool x1), .eq (.bool x1), .eq (.int .i64 p1), .eq (.bool (decide (p1 ≥ 0))), .eq (.bool (x1 && (decide (p1 ≥ 0)))), .eq (.bool (x1 && (decide (p1 ≥ 0)))), .eq (.int .i64 p1), .eq (.int .i64 p0), .eq (.int .u64 (IntKind.u64.wrap p0)), .eq (.int .i64 x2), .eq (.bool (decide (p1 < x2))), .eq (.bool ((x1 && (decide (p1 ≥ 0))) && (decide (p1 < x2)))), .eq (.bool ((x1 && (decide (p1 ≥ 0))) && (decide (p1 < x2))))]
      [(4, .bool ((x1 && (decide (p1 ≥ 0))) && (decide (p1 < x2))))] mix hF (by kernel_rfl) (by kernel_rfl) (by kernel_rfl) ⟨Pd.mono_eq, Pd.mono_eq, trivial⟩ (fun hG => ⟨np_call [.int .i64 p0] hG hF Try.call89 rfl rfl (fun w hC hg => (impl_isWidth_ok p0 hx1).mono fun e w' ⟨v, he, hv, hc⟩ => ⟨v, he, hc, hv⟩), np_shl hG hF rfl rfl rfl (fun hg => (iteT hg.2 hx2)) rfl, trivial⟩) (by kernel_rfl) fun fr w1 hF hE hc => then_normal ?_)
  have hC := hC.trans hc
  have z1 := hc.size
  obtain rfl := Option.some.inj h
  exact wp_ret (ret1 rfl hF rfl ⟨_, rfl, rfl, hC⟩)

theorem impl_isReg_ok (p0 : Int) {r : Bool} (h : impl_isReg p0 = some r) {w : World} :
    Calls Try.prog 90 [.int .i64 p0].toArray w fun e w' => ∃ v, e = .returned v ∧ v = .bool r ∧ Chg Non w w' := by
  unfold impl_isReg at h
  have hC : Chg Non w w := Chg.refl _ _
  refine enter (N := 9) Try.func90 rfl Try.ntmps90 rfl fun fr hF => ?_
  refine wp_seq (wp_pure [(0, .int .i64 p0)] hF (by kernel_rfl) fun fr hF => then_normal ?_)
  refine wp_seq (region_b [] [true, true, true, true, true, true, true]
      [.eq (.int .i64 p0), .eq (.bool (decide (p0 ≥ 0))), .eq (.bool (decide (p0 ≥ 0))), .eq (.int .i64 p0), .eq (.bool (decide (p0 < 4))), .eq (.bool ((decide (p0 ≥ 0)) && (decide (p0 < 4)))), .eq (.bool ((decide (p0 ≥ 0)) && (decide (p0 < 4))))]
      [(2, .bool ((decide (p0 ≥ 0)) && (decide (p0 < 4))))] mix hF (by kernel_rfl) (by kernel_rfl) (by kernel_rfl) trivial (fun hG => trivial) (by kernel_rfl) fun fr w1 hF hE hc => then_normal ?_)
  have hC := hC.trans hc
  have z1 := hc.size
  obtain rfl := Option.some.inj h
  exact wp_ret (ret1 rfl hF rfl ⟨_, rfl, rfl, hC⟩)

theorem impl_isTwoWords_ok (p0 : Int) {r : Bool} (h : impl_isTwoWords p0 = some r) {w : World} :
    Calls Try.prog 91 [.int .i64 p0].toArray w fun e w' => ∃ v, e = .returned v ∧ v = .bool r ∧ Chg Non w w' := by
  unfold impl_isTwoWords at h
  have hC : Chg Non w w := Chg.refl _ _
  refine enter (N := 9) Try.func91 rfl Try.ntmps91 rfl fun fr hF => ?_
  refine wp_seq (wp_pure [(0, .int .i64 p0)] hF (by kernel_rfl) fun fr hF => then_normal ?_)
  refine wp_seq (region_b [] [true, true, true, true, true, true, true]
      [.eq (.int .i64 p0), .eq (.bool (decide (p0 ≥ 3))), .eq (.bool (decide (p0 ≥ 3))), .eq (.int .i64 p0), .eq (.bool (decide (p0 ≤ 16))), .eq (.bool ((decide (p0 ≥ 3)) && (decide (p0 ≤ 16)))), .eq (.bool ((decide (p0 ≥ 3)) && (decide (p0 ≤ 16))))]
      [(2, .bool ((decide (p0 ≥ 3)) && (decide (p0 ≤ 16))))] mix hF (by kernel_rfl) (by kernel_rfl) (by kernel_rfl) trivial (fun hG => trivial) (by kernel_rfl) fun fr w1 hF hE hc => then_normal ?_)
  have hC := hC.trans hc
  have z1 := hc.size
  obtain rfl := Option.some.inj h
  exact wp_ret (ret1 rfl hF rfl ⟨_, rfl, rfl, hC⟩)

theorem impl_insOk_ok (p0 : D.Ins) (p1 : Int) (p2 : Int) {r : Bool} (h : impl_insOk p0 p1 p2 = some r) {w : World} :
    Calls Try.prog 72 [.agg #[.int .i64 p0.Op, .int .i64 p0.A, .int .i64 p0.B, .int .i64 p0.C], .int .i64 p1, .int .i64 p2].toArray w fun e w' => ∃ v, e = .returned v ∧ v = .bool r ∧ Chg Non w w' := by
  unfold impl_insOk at h
  have hC : Chg Non w w := Chg.refl _ _
  refine enter (N := 102) Try.func72 rfl Try.ntmps72 rfl fun fr hF => ?_
  refine wp_seq (wp_text' ?_)
  refine s_box [.int .i64 p0.Op, .int .i64 p0.A, .int .i64 p0.B, .int .i64 p0.C] rfl rfl hF rfl rfl fun b1 w1 fr b1lo hb1 hc hF => ?_
  have hC := hC.trans hc
  have z1 := hc.size
  have b1hi := hb1.lt
  refine from_pure 1 [(1, .int .i64 p1), (2, .int .i64 p2), (3, .pointer (some ⟨b1, 0, none⟩))] hF (by kernel_rfl) fun fr hF => ?_
  refine from_end rfl (then_normal ?_)
  refine wp_seq (region_b [] [true, false, true, true, true, false, true, true, true, true]
      [.eq (.pointer (some ⟨b1, 2, none⟩)), .eq (.int .i64 p0.B), .eq (.bool (decide (p0.B ≥ 0))), .eq (.bool (decide (p0.B ≥ 0))), .eq (.pointer (some ⟨b1, 2, none⟩)), .eq (.int .i64 p0.B), .eq (.int .i64 p2), .eq (.bool (decide (p0.B ≤ p2))), .eq (.bool ((decide (p0.B ≥ 0)) && (decide (p0.B ≤ p2)))), .eq (.bool ((decide (p0.B ≥ 0)) && (decide (p0.B ≤ p2))))]
      [(1, .int .i64 p1), (3, .pointer (some ⟨b1, 0, none⟩)), (7, .bool ((decide (p0.B ≥ 0)) && (decide (p0.B ≤ p2))))] mix hF (by kernel_rfl) (by kernel_rfl) (by kernel_rfl) ⟨Pd.mono_eq, Pd.mono_eq, trivial⟩ (fun hG => ⟨np_loadBox hG hF ty3 rfl rfl hb1 rfl rfl rfl, np_loadBox hG hF ty3 rfl rfl hb1 rfl rfl rfl, trivial⟩) (by kernel_rfl) fun fr w2 hF hE hc => then_normal ?_)
  have hC := hC.trans hc
  have hb1 := hb1.ext hc
  have z2 := hc.size
  refine wp_seq ?_
  refine wp_seq (wp_text' ?_)
  refine from_pure 1 [(1, .int .i64 p1), (3, .pointer (some ⟨b1, 0, none⟩)), (7, .bool ((decide (p0.B ≥ 0)) && (decide (p0.B ≤ p2)))), (17, .pointer (some ⟨b1, 0, none⟩))] hF (by kernel_rfl) fun fr hF => ?_
  refine s_loadBox (.int .i64 p0.Op) ty3 rfl rfl hF rfl hb1 rfl rfl fun fr hF => ?_
  refine from_pure 1 [(1, .int .i64 p1), (3, .pointer (some ⟨b1, 0, none⟩)), (7, .bool ((decide (p0.B ≥ 0)) && (decide (p0.B ≤ p2)))), (19, .bool (p0.Op == 3))] hF (by kernel_rfl) fun fr hF => ?_
  refine from_end rfl (then_normal ?_)
  refine (wp_if hF (b := (p0.Op == 3)) rfl (fun hb => ?_) (fun hb => ?_))
  · replace h := iteT hb h
    obtain ⟨x1, hx1, h⟩ := bindE h
    obtain ⟨x2, hx2, h⟩ := bindE h
    obtain ⟨x3, hx3, h⟩ := bindE h
    refine wp_seq (region_b [] [true, false, false, true, true, false, false, true, true, true, false, false, true, true]
        [.eq (.pointer (some ⟨b1, 1, none⟩)), .eq (.int .i64 p0.A), .eq (.bool x1), .eq (.bool x1), .eq (.pointer (some ⟨b1, 2, none⟩)), .eq (.int .i64 p0.B), .eq (.bool x2), .eq (.bool (x1 && x2)), .eq (.bool (x1 && x2)), .eq (.pointer (some ⟨b1, 3, none⟩)), .eq (.int .i64 p0.C), .eq (.bool x3), .eq (.bool ((x1 && x2) && x3)), .eq (.bool ((x1 && x2) && x3))]
        [(6, .bool ((x1 && x2) && x3))] mix hF (by kernel_rfl) (by kernel_rfl) (by kernel_rfl) ⟨Pd.mono_eq, Pd.mono_eq, Pd.mono_eq, Pd.mono_eq, Pd.mono_eq, Pd.mono_eq, trivial⟩ (fun hG => ⟨np_loadBox hG hF ty3 rfl rfl hb1 rfl rfl rfl, np_call [.int .i64 p0.A] hG hF Try.call90 rfl rfl (fun w hC hg => (impl_isReg_ok p0.A hx1).mono fun e w' ⟨v, he, hv, hc⟩ => ⟨v, he, hc, hv⟩), np_loadBox hG hF ty3 rfl rfl hb1 rfl rfl rfl, np_call [.int .i64 p0.B] hG hF Try.call90 rfl rfl (fun w hC hg => (impl_isReg_ok p0.B (iteT hg.2 hx2)).mono fun e w' ⟨v, he, hv, hc⟩ => ⟨v, he, hc, hv⟩), np_loadBox hG hF ty3 rfl rfl hb1 rfl rfl rfl, np_call [.int .i64 p0.C] hG hF Try.call91 rfl rfl (fun w hC hg => (impl_isTwoWords_ok p0.C (iteT hg.2 hx3)).mono fun e w' ⟨v, he, hv, hc⟩ => ⟨v, he, hc, hv⟩), trivial⟩) (by kernel_rfl) fun fr w3 hF hE hc => then_normal ?_)
    have hC := hC.trans hc
    have z3 := hc.size
    obtain rfl := Option.some.inj h
    exact wp_ret (then_ret (ret1 rfl hF rfl ⟨_, rfl, rfl, hC⟩))
  · replace h := iteF hb h
    refine (wp_skip (then_normal ?_))
    refine wp_seq ?_
    refine wp_seq (wp_text' ?_)
    refine from_pure 1 [(1, .int .i64 p1), (3, .pointer (some ⟨b1, 0, none⟩)), (7, .bool ((decide (p0.B ≥ 0)) && (decide (p0.B ≤ p2)))), (33, .pointer (some ⟨b1, 3, none⟩))] hF (by kernel_rfl) fun fr hF => ?_
    refine s_loadBox (.int .i64 p0.C) ty3 rfl rfl hF rfl hb1 rfl rfl fun fr hF => ?_
    refine from_pure 1 [(1, .int .i64 p1), (3, .pointer (some ⟨b1, 0, none⟩)), (7, .bool ((decide (p0.B ≥ 0)) && (decide (p0.B ≤ p2)))), (35, .bool (p0.C != 0))] hF (by kernel_rfl) fun fr hF => ?_
    refine from_end rfl (then_normal ?_)
    refine (wp_if hF (b := (p0.C != 0)) rfl (fun hb => ?_) (fun hb => ?_))
    · replace h := iteT hb h
      refine wp_seq (wp_pure [(6, .bool false)] hF (by kernel_rfl) fun fr hF => then_normal ?_)
      obtain rfl := Option.some.inj h
      exact wp_ret (then_ret (ret1 rfl hF rfl ⟨_, rfl, rfl, hC⟩))
    · replace h := iteF hb h
      refine (wp_skip (then_normal ?_))
      refine wp_seq ?_
      refine wp_seq (wp_text' ?_)
      refine from_pure 1 [(1, .int .i64 p1), (3, .pointer (some ⟨b1, 0, none⟩)), (7, .bool ((decide (p0.B ≥ 0)) && (decide (p0.B ≤ p2)))), (36, .pointer (some ⟨b1, 0, none⟩))] hF (by kernel_rfl) fun fr hF => ?_
      refine s_loadBox (.int .i64 p0.Op) ty3 rfl rfl hF rfl hb1 rfl rfl fun fr hF => ?_
      refine from_end rfl (then_normal ?_)
      refine (wp_block ?_)
      refine wp_seq (wp_pure [(1, .int .i64 p1), (3, .pointer (some ⟨b1, 0, none⟩)), (7, .bool ((decide (p0.B ≥ 0)) && (decide (p0.B ≤ p2)))), (37, .int .i64 p0.Op), (38, .bool (p0.Op == 1))] hF (by kernel_rfl) fun fr hF => then_normal ?_)
      refine (wp_if hF (b := (p0.Op == 1)) rfl (fun hb => ?_) (fun hb => ?_))
      · replace h := iteT hb h
        obtain ⟨x4, hx4, h⟩ := bindE h
        obtain ⟨x5, hx5, h⟩ := bindE h
        refine wp_seq (region_b [] [true, false, false, true, true, true, false, false, true, true]
            [.eq (.pointer (some ⟨b1, 1, none⟩)), .eq (.int .i64 p0.A), .eq (.bool x4), .eq (.bool x4), .eq (.int .i64 p1), .eq (.pointer (some ⟨b1, 2, none⟩)), .eq (.int .i64 p0.B), .eq (.bool x5), .eq (.bool (x4 && x5)), .eq (.bool (x4 && x5))]
            [(6, .bool (x4 && x5))] mix hF (by kernel_rfl) (by kernel_rfl) (by kernel_rfl) ⟨Pd.mono_eq, Pd.mono_eq, Pd.mono_eq, Pd.mono_eq, trivial⟩ (fun hG => ⟨np_loadBox hG hF ty3 rfl rfl hb1 rfl rfl rfl, np_call [.int .i64 p0.A] hG hF Try.call90 rfl rfl (fun w hC hg => (impl_isReg_ok p0.A hx4).mono fun e w' ⟨v, he, hv, hc⟩ => ⟨v, he, hc, hv⟩), np_loadBox hG hF ty3 rfl rfl hb1 rfl rfl rfl, np_call [.int .i64 p1, .int .i64 p0.B] hG hF Try.call71 rfl rfl (fun w hC hg => (impl_WordOk_ok p1 p0.B (iteT hg.2 hx5)).mono fun e w' ⟨v, he, hv, hc⟩ => ⟨v, he, hc, hv⟩), trivial⟩) (by kernel_rfl) fun fr w4 hF hE hc => then_normal ?_)
        have hC := hC.trans hc
        have z4 := hc.size
        obtain rfl := Option.some.inj h
        exact wp_ret (blk_ret (then_ret (ret1 rfl hF rfl ⟨_, rfl, rfl, hC⟩)))
      · replace h := iteF hb h
        refine wp_seq ?_
        refine wp_seq (wp_pure [(3, .pointer (some ⟨b1, 0, none⟩)), (7, .bool ((decide (p0.B ≥ 0)) && (decide (p0.B ≤ p2)))), (37, .int .i64 p0.Op), (49, .bool (p0.Op == 2))] hF (by kernel_rfl) fun fr hF => then_normal ?_)
        refine (wp_if hF (b := (p0.Op == 2)) rfl (fun hb => ?_) (fun hb => ?_))
        · replace h := iteT hb h
          refine (wp_skip (then_normal ?_))
          refine (wp_if hF (b := (p0.Op == 2)) rfl (fun hb => ?_) (fun hb => ?_))
          · replace h := iteT hb h
            obtain ⟨x6, hx6, h⟩ := bindE h
            obtain ⟨x7, hx7, h⟩ := bindE h
            refine wp_seq (region_b [] [true, false, false, true, true, false, false, true, true]
                [.eq (.pointer (some ⟨b1, 1, none⟩)), .eq (.int .i64 p0.A), .eq (.bool x6), .eq (.bool x6), .eq (.pointer (some ⟨b1, 2, none⟩)), .eq (.int .i64 p0.B), .eq (.bool x7), .eq (.bool (x6 && x7)), .eq (.bool (x6 && x7))]
                [(6, .bool (x6 && x7))] mix hF (by kernel_rfl) (by kernel_rfl) (by kernel_rfl) ⟨Pd.mono_eq, Pd.mono_eq, Pd.mono_eq, Pd.mono_eq, trivial⟩ (fun hG => ⟨np_loadBox hG hF ty3 rfl rfl hb1 rfl rfl rfl, np_call [.int .i64 p0.A] hG hF Try.call90 rfl rfl (fun w hC hg => (impl_isReg_ok p0.A hx6).mono fun e w' ⟨v, he, hv, hc⟩ => ⟨v, he, hc, hv⟩), np_loadBox hG hF ty3 rfl rfl hb1 rfl rfl rfl, np_call [.int .i64 p0.B] hG hF Try.call90 rfl rfl (fun w hC hg => (impl_isReg_ok p0.B (iteT hg.2 hx7)).mono fun e w' ⟨v, he, hv, hc⟩ => ⟨v, he, hc, hv⟩), trivial⟩) (by kernel_rfl) fun fr w5 hF hE hc => then_normal ?_)
            have hC := hC.trans hc
            have z5 := hc.size
            obtain rfl := Option.some.inj h
            exact wp_ret (blk_ret (then_ret (ret1 rfl hF rfl ⟨_, rfl, rfl, hC⟩)))
          · replace h := iteF hb h
            refine wp_seq ?_
            refine wp_seq (wp_pure [(3, .pointer (some ⟨b1, 0, none⟩)), (7, .bool ((decide (p0.B ≥ 0)) && (decide (p0.B ≤ p2)))), (37, .int .i64 p0.Op), (61, .bool (p0.Op == 4))] hF (by kernel_rfl) fun fr hF => then_normal ?_)
            refine (wp_if hF (b := (p0.Op == 4)) rfl (fun hb => ?_) (fun hb => ?_))
            · replace h := iteT hb h
              refine (wp_skip (then_normal ?_))
              refine (wp_if hF (b := (p0.Op == 4)) rfl (fun hb => ?_) (fun hb => ?_))
              · replace h := iteT hb h
                obtain ⟨x8, hx8, h⟩ := bindE h
                refine wp_seq (region_b [] [true, false, false, true, true, false, true, true, true]
                    [.eq (.pointer (some ⟨b1, 1, none⟩)), .eq (.int .i64 p0.A), .eq (.bool x8), .eq (.bool x8), .eq (.pointer (some ⟨b1, 2, none⟩)), .eq (.int .i64 p0.B), .eq (.bool (p0.B == 0)), .eq (.bool (x8 && (p0.B == 0))), .eq (.bool (x8 && (p0.B == 0)))]
                    [(6, .bool (x8 && (p0.B == 0)))] mix hF (by kernel_rfl) (by kernel_rfl) (by kernel_rfl) ⟨Pd.mono_eq, Pd.mono_eq, Pd.mono_eq, trivial⟩ (fun hG => ⟨np_loadBox hG hF ty3 rfl rfl hb1 rfl rfl rfl, np_call [.int .i64 p0.A] hG hF Try.call90 rfl rfl (fun w hC hg => (impl_isReg_ok p0.A hx8).mono fun e w' ⟨v, he, hv, hc⟩ => ⟨v, he, hc, hv⟩), np_loadBox hG hF ty3 rfl rfl hb1 rfl rfl rfl, trivial⟩) (by kernel_rfl) fun fr w6 hF hE hc => then_normal ?_)
                have hC := hC.trans hc
                have z6 := hc.size
                obtain rfl := Option.some.inj h
                exact wp_ret (blk_ret (then_ret (ret1 rfl hF rfl ⟨_, rfl, rfl, hC⟩)))
              · replace h := iteF hb h
                refine wp_seq ?_
                refine wp_seq (wp_pure [(3, .pointer (some ⟨b1, 0, none⟩)), (7, .bool ((decide (p0.B ≥ 0)) && (decide (p0.B ≤ p2)))), (37, .int .i64 p0.Op), (74, .bool (p0.Op == 9))] hF (by kernel_rfl) fun fr hF => then_normal ?_)
                refine (wp_if hF (b := (p0.Op == 9)) rfl (fun hb => ?_) (fun hb => ?_))
                · replace h := iteT hb h
                  refine (wp_skip (then_normal ?_))
                  refine (wp_if hF (b := (p0.Op == 9)) rfl (fun hb => ?_) (fun hb => ?_))
                  · replace h := iteT hb h
                    refine wp_seq (region_b [] [true, false, true, true, true, true, true]
                        [.eq (.pointer (some ⟨b1, 1, none⟩)), .eq (.int .i64 p0.A), .eq (.bool (p0.A == 0)), .eq (.bool (p0.A == 0)), .eq (.bool ((decide (p0.B ≥ 0)) && (decide (p0.B ≤ p2)))), .eq (.bool ((p0.A == 0) && ((decide (p0.B ≥ 0)) && (decide (p0.B ≤ p2))))), .eq (.bool ((p0.A == 0) && ((decide (p0.B ≥ 0)) && (decide (p0.B ≤ p2)))))]
                        [(6, .bool ((p0.A == 0) && ((decide (p0.B ≥ 0)) && (decide (p0.B ≤ p2)))))] mix hF (by kernel_rfl) (by kernel_rfl) (by kernel_rfl) ⟨Pd.mono_eq, trivial⟩ (fun hG => ⟨np_loadBox hG hF ty3 rfl rfl hb1 rfl rfl rfl, trivial⟩) (by kernel_rfl) fun fr w7 hF hE hc => then_normal ?_)
                    have hC := hC.trans hc
                    have z7 := hc.size
                    obtain rfl := Option.some.inj h
                    exact wp_ret (blk_ret (then_ret (ret1 rfl hF rfl ⟨_, rfl, rfl, hC⟩)))
                  · replace h := iteF hb h
                    refine wp_seq (wp_pure [(3, .pointer (some ⟨b1, 0, none⟩)), (7, .bool ((decide (p0.B ≥ 0)) && (decide (p0.B ≤ p2)))), (37, .int .i64 p0.Op), (83, .bool (p0.Op == 10))] hF (by kernel_rfl) fun fr hF => then_normal ?_)
                    refine (wp_if hF (b := (p0.Op == 10)) rfl (fun hb => ?_) (fun hb => ?_))
                    · replace h := iteT hb h
                      obtain ⟨x9, hx9, h⟩ := bindE h
                      refine wp_seq (region_b [] [true, false, false, true, true, true, true]
                          [.eq (.pointer (some ⟨b1, 1, none⟩)), .eq (.int .i64 p0.A), .eq (.bool x9), .eq (.bool x9), .eq (.bool ((decide (p0.B ≥ 0)) && (decide (p0.B ≤ p2)))), .eq (.bool (x9 && ((decide (p0.B ≥ 0)) && (decide (p0.B ≤ p2))))), .eq (.bool (x9 && ((decide (p0.B ≥ 0)) && (decide (p0.B ≤ p2)))))]
                          [(6, .bool (x9 && ((decide (p0.B ≥ 0)) && (decide (p0.B ≤ p2)))))] mix hF (by kernel_rfl) (by kernel_rfl) (by kernel_rfl) ⟨Pd.mono_eq, Pd.mono_eq, trivial⟩ (fun hG => ⟨np_loadBox hG hF ty3 rfl rfl hb1 rfl rfl rfl, np_call [.int .i64 p0.A] hG hF Try.call90 rfl rfl (fun w hC hg => (impl_isReg_ok p0.A hx9).mono fun e w' ⟨v, he, hv, hc⟩ => ⟨v, he, hc, hv⟩), trivial⟩) (by kernel_rfl) fun fr w8 hF hE hc => then_normal ?_)
                      have hC := hC.trans hc
                      have z8 := hc.size
                      obtain rfl := Option.some.inj h
                      exact wp_ret (blk_ret (then_ret (ret1 rfl hF rfl ⟨_, rfl, rfl, hC⟩)))
                    · replace h := iteF hb h
                      refine wp_seq ?_
                      refine wp_seq (wp_pure [(3, .pointer (some ⟨b1, 0, none⟩)), (37, .int .i64 p0.Op), (91, .bool (p0.Op == 12))] hF (by kernel_rfl) fun fr hF => then_normal ?_)
                      refine (wp_if hF (b := (p0.Op == 12)) rfl (fun hb => ?_) (fun hb => ?_))
                      · replace h := iteT hb h
                        refine (wp_skip (then_normal ?_))
                        refine (wp_if hF (b := (p0.Op == 12)) rfl (fun hb => ?_) (fun hb => ?_))
                        · replace h := iteT hb h
                          refine wp_seq (region_b [] [true, false, true, true, true, false, true, true, true]
                              [.eq (.pointer (some ⟨b1, 1, none⟩)), .eq (.int .i64 p0.A), .eq (.bool (p0.A == 0)), .eq (.bool (p0.A == 0)), .eq (.pointer (some ⟨b1, 2, none⟩)), .eq (.int .i64 p0.B), .eq (.bool (p0.B == 0)), .eq (.bool ((p0.A == 0) && (p0.B == 0))), .eq (.bool ((p0.A == 0) && (p0.B == 0)))]
                              [(6, .bool ((p0.A == 0) && (p0.B == 0)))] mix hF (by kernel_rfl) (by kernel_rfl) (by kernel_rfl) ⟨Pd.mono_eq, Pd.mono_eq, trivial⟩ (fun hG => ⟨np_loadBox hG hF ty3 rfl rfl hb1 rfl rfl rfl, np_loadBox hG hF ty3 rfl rfl hb1 rfl rfl rfl, trivial⟩) (by kernel_rfl) fun fr w9 hF hE hc => then_normal ?_)
                          have hC := hC.trans hc
                          have z9 := hc.size
                          obtain rfl := Option.some.inj h
                          exact wp_ret (blk_ret (then_ret (ret1 rfl hF rfl ⟨_, rfl, rfl, hC⟩)))
                        · replace h := iteF hb h
                          refine (wp_skip ?_)
                          refine blk_normal (then_normal ?_)
                          refine wp_seq (wp_pure [(6, .bool false)] hF (by kernel_rfl) fun fr hF => then_normal ?_)
                          obtain rfl := Option.some.inj h
                          exact wp_ret (ret1 rfl hF rfl ⟨_, rfl, rfl, hC⟩)
                      · replace h := iteF hb h
                        refine (wp_pure [(3, .pointer (some ⟨b1, 0, none⟩)), (91, .bool (p0.Op == 14))] hF (by kernel_rfl) fun fr hF => then_normal ?_)
                        refine (wp_if hF (b := (p0.Op == 14)) rfl (fun hb => ?_) (fun hb => ?_))
                        · replace h := iteT hb h
                          refine wp_seq (region_b [] [true, false, true, true, true, false, true, true, true]
                              [.eq (.pointer (some ⟨b1, 1, none⟩)), .eq (.int .i64 p0.A), .eq (.bool (p0.A == 0)), .eq (.bool (p0.A == 0)), .eq (.pointer (some ⟨b1, 2, none⟩)), .eq (.int .i64 p0.B), .eq (.bool (p0.B == 0)), .eq (.bool ((p0.A == 0) && (p0.B == 0))), .eq (.bool ((p0.A == 0) && (p0.B == 0)))]
                              [(6, .bool ((p0.A == 0) && (p0.B == 0)))] mix hF (by kernel_rfl) (by kernel_rfl) (by kernel_rfl) ⟨Pd.mono_eq, Pd.mono_eq, trivial⟩ (fun hG => ⟨np_loadBox hG hF ty3 rfl rfl hb1 rfl rfl rfl, np_loadBox hG hF ty3 rfl rfl hb1 rfl rfl rfl, trivial⟩) (by kernel_rfl) fun fr w10 hF hE hc => then_normal ?_)
                          have hC := hC.trans hc
                          have z10 := hc.size
                          obtain rfl := Option.some.inj h
                          exact wp_ret (blk_ret (then_ret (ret1 rfl hF rfl ⟨_, rfl, rfl, hC⟩)))
                        · replace h := iteF hb h
                          refine (wp_skip ?_)
                          refine blk_normal (then_normal ?_)
                          refine wp_seq (wp_pure [(6, .bool false)] hF (by kernel_rfl) fun fr hF => then_normal ?_)
                          obtain rfl := Option.some.inj h
                          exact wp_ret (ret1 rfl hF rfl ⟨_, rfl, rfl, hC⟩)
                · replace h := iteF hb h
                  refine (wp_pure [(3, .pointer (some ⟨b1, 0, none⟩)), (7, .bool ((decide (p0.B ≥ 0)) && (decide (p0.B ≤ p2)))), (37, .int .i64 p0.Op), (74, .bool (p0.Op == 11))] hF (by kernel_rfl) fun fr hF => then_normal ?_)
                  refine (wp_if hF (b := (p0.Op == 11)) rfl (fun hb => ?_) (fun hb => ?_))
                  · replace h := iteT hb h
                    refine wp_seq (region_b [] [true, false, true, true, true, true, true]
                        [.eq (.pointer (some ⟨b1, 1, none⟩)), .eq (.int .i64 p0.A), .eq (.bool (p0.A == 0)), .eq (.bool (p0.A == 0)), .eq (.bool ((decide (p0.B ≥ 0)) && (decide (p0.B ≤ p2)))), .eq (.bool ((p0.A == 0) && ((decide (p0.B ≥ 0)) && (decide (p0.B ≤ p2))))), .eq (.bool ((p0.A == 0) && ((decide (p0.B ≥ 0)) && (decide (p0.B ≤ p2)))))]
                        [(6, .bool ((p0.A == 0) && ((decide (p0.B ≥ 0)) && (decide (p0.B ≤ p2)))))] mix hF (by kernel_rfl) (by kernel_rfl) (by kernel_rfl) ⟨Pd.mono_eq, trivial⟩ (fun hG => ⟨np_loadBox hG hF ty3 rfl rfl hb1 rfl rfl rfl, trivial⟩) (by kernel_rfl) fun fr w11 hF hE hc => then_normal ?_)
                    have hC := hC.trans hc
                    have z11 := hc.size
                    obtain rfl := Option.some.inj h
                    exact wp_ret (blk_ret (then_ret (ret1 rfl hF rfl ⟨_, rfl, rfl, hC⟩)))
                  · replace h := iteF hb h
                    refine wp_seq (wp_pure [(3, .pointer (some ⟨b1, 0, none⟩)), (7, .bool ((decide (p0.B ≥ 0)) && (decide (p0.B ≤ p2)))), (37, .int .i64 p0.Op), (83, .bool (p0.Op == 10))] hF (by kernel_rfl) fun fr hF => then_normal ?_)
                    refine (wp_if hF (b := (p0.Op == 10)) rfl (fun hb => ?_) (fun hb => ?_))
                    · replace h := iteT hb h
                      obtain ⟨x10, hx10, h⟩ := bindE h
                      refine wp_seq (region_b [] [true, false, false, true, true, true, true]
                          [.eq (.pointer (some ⟨b1, 1, none⟩)), .eq (.int .i64 p0.A), .eq (.bool x10), .eq (.bool x10), .eq (.bool ((decide (p0.B ≥ 0)) && (decide (p0.B ≤ p2)))), .eq (.bool (x10 && ((decide (p0.B ≥ 0)) && (decide (p0.B ≤ p2))))), .eq (.bool (x10 && ((decide (p0.B ≥ 0)) && (decide (p0.B ≤ p2)))))]
                          [(6, .bool (x10 && ((decide (p0.B ≥ 0)) && (decide (p0.B ≤ p2)))))] mix hF (by kernel_rfl) (by kernel_rfl) (by kernel_rfl) ⟨Pd.mono_eq, Pd.mono_eq, trivial⟩ (fun hG => ⟨np_loadBox hG hF ty3 rfl rfl hb1 rfl rfl rfl, np_call [.int .i64 p0.A] hG hF Try.call90 rfl rfl (fun w hC hg => (impl_isReg_ok p0.A hx10).mono fun e w' ⟨v, he, hv, hc⟩ => ⟨v, he, hc, hv⟩), trivial⟩) (by kernel_rfl) fun fr w12 hF hE hc => then_normal ?_)
                      have hC := hC.trans hc
                      have z12 := hc.size
                      obtain rfl := Option.some.inj h
                      exact wp_ret (blk_ret (then_ret (ret1 rfl hF rfl ⟨_, rfl, rfl, hC⟩)))
                    · replace h := iteF hb h
                      refine wp_seq ?_
                      refine wp_seq (wp_pure [(3, .pointer (some ⟨b1, 0, none⟩)), (37, .int .i64 p0.Op), (91, .bool (p0.Op == 12))] hF (by kernel_rfl) fun fr hF => then_normal ?_)
                      refine (wp_if hF (b := (p0.Op == 12)) rfl (fun hb => ?_) (fun hb => ?_))
                      · replace h := iteT hb h
                        refine (wp_skip (then_normal ?_))
                        refine (wp_if hF (b := (p0.Op == 12)) rfl (fun hb => ?_) (fun hb => ?_))
                        · replace h := iteT hb h
                          refine wp_seq (region_b [] [true, false, true, true, true, false, true, true, true]
                              [.eq (.pointer (some ⟨b1, 1, none⟩)), .eq (.int .i64 p0.A), .eq (.bool (p0.A == 0)), .eq (.bool (p0.A == 0)), .eq (.pointer (some ⟨b1, 2, none⟩)), .eq (.int .i64 p0.B), .eq (.bool (p0.B == 0)), .eq (.bool ((p0.A == 0) && (p0.B == 0))), .eq (.bool ((p0.A == 0) && (p0.B == 0)))]
                              [(6, .bool ((p0.A == 0) && (p0.B == 0)))] mix hF (by kernel_rfl) (by kernel_rfl) (by kernel_rfl) ⟨Pd.mono_eq, Pd.mono_eq, trivial⟩ (fun hG => ⟨np_loadBox hG hF ty3 rfl rfl hb1 rfl rfl rfl, np_loadBox hG hF ty3 rfl rfl hb1 rfl rfl rfl, trivial⟩) (by kernel_rfl) fun fr w13 hF hE hc => then_normal ?_)
                          have hC := hC.trans hc
                          have z13 := hc.size
                          obtain rfl := Option.some.inj h
                          exact wp_ret (blk_ret (then_ret (ret1 rfl hF rfl ⟨_, rfl, rfl, hC⟩)))
                        · replace h := iteF hb h
                          refine (wp_skip ?_)
                          refine blk_normal (then_normal ?_)
                          refine wp_seq (wp_pure [(6, .bool false)] hF (by kernel_rfl) fun fr hF => then_normal ?_)
                          obtain rfl := Option.some.inj h
                          exact wp_ret (ret1 rfl hF rfl ⟨_, rfl, rfl, hC⟩)
                      · replace h := iteF hb h
                        refine (wp_pure [(3, .pointer (some ⟨b1, 0, none⟩)), (91, .bool (p0.Op == 14))] hF (by kernel_rfl) fun fr hF => then_normal ?_)
                        refine (wp_if hF (b := (p0.Op == 14)) rfl (fun hb => ?_) (fun hb => ?_))
                        · replace h := iteT hb h
                          refine wp_seq (region_b [] [true, false, true, true, true, false, true, true, true]
                              [.eq (.pointer (some ⟨b1, 1, none⟩)), .eq (.int .i64 p0.A), .eq (.bool (p0.A == 0)), .eq (.bool (p0.A == 0)), .eq (.pointer (some ⟨b1, 2, none⟩)), .eq (.int .i64 p0.B), .eq (.bool (p0.B == 0)), .eq (.bool ((p0.A == 0) && (p0.B == 0))), .eq (.bool ((p0.A == 0) && (p0.B == 0)))]
                              [(6, .bool ((p0.A == 0) && (p0.B == 0)))] mix hF (by kernel_rfl) (by kernel_rfl) (by kernel_rfl) ⟨Pd.mono_eq, Pd.mono_eq, trivial⟩ (fun hG => ⟨np_loadBox hG hF ty3 rfl rfl hb1 rfl rfl rfl, np_loadBox hG hF ty3 rfl rfl hb1 rfl rfl rfl, trivial⟩) (by kernel_rfl) fun fr w14 hF hE hc => then_normal ?_)
                          have hC := hC.trans hc
                          have z14 := hc.size
                          obtain rfl := Option.some.inj h
                          exact wp_ret (blk_ret (then_ret (ret1 rfl hF rfl ⟨_, rfl, rfl, hC⟩)))
                        · replace h := iteF hb h
                          refine (wp_skip ?_)
                          refine blk_normal (then_normal ?_)
                          refine wp_seq (wp_pure [(6, .bool false)] hF (by kernel_rfl) fun fr hF => then_normal ?_)
                          obtain rfl := Option.some.inj h
                          exact wp_ret (ret1 rfl hF rfl ⟨_, rfl, rfl, hC⟩)
            · replace h := iteF hb h
              refine wp_seq (wp_pure [(3, .pointer (some ⟨b1, 0, none⟩)), (7, .bool ((decide (p0.B ≥ 0)) && (decide (p0.B ≤ p2)))), (37, .int .i64 p0.Op), (61, .bool (p0.Op == 5))] hF (by kernel_rfl) fun fr hF => then_normal ?_)
              refine (wp_if hF (b := (p0.Op == 5)) rfl (fun hb => ?_) (fun hb => ?_))
              · replace h := iteT hb h
                refine (wp_skip (then_normal ?_))
                refine (wp_if hF (b := (p0.Op == 5)) rfl (fun hb => ?_) (fun hb => ?_))
                · replace h := iteT hb h
                  obtain ⟨x11, hx11, h⟩ := bindE h
                  refine wp_seq (region_b [] [true, false, false, true, true, false, true, true, true]
                      [.eq (.pointer (some ⟨b1, 1, none⟩)), .eq (.int .i64 p0.A), .eq (.bool x11), .eq (.bool x11), .eq (.pointer (some ⟨b1, 2, none⟩)), .eq (.int .i64 p0.B), .eq (.bool (p0.B == 0)), .eq (.bool (x11 && (p0.B == 0))), .eq (.bool (x11 && (p0.B == 0)))]
                      [(6, .bool (x11 && (p0.B == 0)))] mix hF (by kernel_rfl) (by kernel_rfl) (by kernel_rfl) ⟨Pd.mono_eq, Pd.mono_eq, Pd.mono_eq, trivial⟩ (fun hG => ⟨np_loadBox hG hF ty3 rfl rfl hb1 rfl rfl rfl, np_call [.int .i64 p0.A] hG hF Try.call90 rfl rfl (fun w hC hg => (impl_isReg_ok p0.A hx11).mono fun e w' ⟨v, he, hv, hc⟩ => ⟨v, he, hc, hv⟩), np_loadBox hG hF ty3 rfl rfl hb1 rfl rfl rfl, trivial⟩) (by kernel_rfl) fun fr w15 hF hE hc => then_normal ?_)
                  have hC := hC.trans hc
                  have z15 := hc.size
                  obtain rfl := Option.some.inj h
                  exact wp_ret (blk_ret (then_ret (ret1 rfl hF rfl ⟨_, rfl, rfl, hC⟩)))
                · replace h := iteF hb h
                  refine wp_seq ?_
                  refine wp_seq (wp_pure [(3, .pointer (some ⟨b1, 0, none⟩)), (7, .bool ((decide (p0.B ≥ 0)) && (decide (p0.B ≤ p2)))), (37, .int .i64 p0.Op), (74, .bool (p0.Op == 9))] hF (by kernel_rfl) fun fr hF => then_normal ?_)
                  refine (wp_if hF (b := (p0.Op == 9)) rfl (fun hb => ?_) (fun hb => ?_))
                  · replace h := iteT hb h
                    refine (wp_skip (then_normal ?_))
                    refine (wp_if hF (b := (p0.Op == 9)) rfl (fun hb => ?_) (fun hb => ?_))
                    · replace h := iteT hb h
                      refine wp_seq (region_b [] [true, false, true, true, true, true, true]
                          [.eq (.pointer (some ⟨b1, 1, none⟩)), .eq (.int .i64 p0.A), .eq (.bool (p0.A == 0)), .eq (.bool (p0.A == 0)), .eq (.bool ((decide (p0.B ≥ 0)) && (decide (p0.B ≤ p2)))), .eq (.bool ((p0.A == 0) && ((decide (p0.B ≥ 0)) && (decide (p0.B ≤ p2))))), .eq (.bool ((p0.A == 0) && ((decide (p0.B ≥ 0)) && (decide (p0.B ≤ p2)))))]
                          [(6, .bool ((p0.A == 0) && ((decide (p0.B ≥ 0)) && (decide (p0.B ≤ p2)))))] mix hF (by kernel_rfl) (by kernel_rfl) (by kernel_rfl) ⟨Pd.mono_eq, trivial⟩ (fun hG => ⟨np_loadBox hG hF ty3 rfl rfl hb1 rfl rfl rfl, trivial⟩) (by kernel_rfl) fun fr w16 hF hE hc => then_normal ?_)
                      have hC := hC.trans hc
                      have z16 := hc.size
                      obtain rfl := Option.some.inj h
                      exact wp_ret (blk_ret (then_ret (ret1 rfl hF rfl ⟨_, rfl, rfl, hC⟩)))
                    · replace h := iteF hb h
                      refine wp_seq (wp_pure [(3, .pointer (some ⟨b1, 0, none⟩)), (7, .bool ((decide (p0.B ≥ 0)) && (decide (p0.B ≤ p2)))), (37, .int .i64 p0.Op), (83, .bool (p0.Op == 10))] hF (by kernel_rfl) fun fr hF => then_normal ?_)
                      refine (wp_if hF (b := (p0.Op == 10)) rfl (fun hb => ?_) (fun hb => ?_))
                      · replace h := iteT hb h
                        obtain ⟨x12, hx12, h⟩ := bindE h
                        refine wp_seq (region_b [] [true, false, false, true, true, true, true]
                            [.eq (.pointer (some ⟨b1, 1, none⟩)), .eq (.int .i64 p0.A), .eq (.bool x12), .eq (.bool x12), .eq (.bool ((decide (p0.B ≥ 0)) && (decide (p0.B ≤ p2)))), .eq (.bool (x12 && ((decide (p0.B ≥ 0)) && (decide (p0.B ≤ p2))))), .eq (.bool (x12 && ((decide (p0.B ≥ 0)) && (decide (p0.B ≤ p2)))))]
                            [(6, .bool (x12 && ((decide (p0.B ≥ 0)) && (decide (p0.B ≤ p2)))))] mix hF (by kernel_rfl) (by kernel_rfl) (by kernel_rfl) ⟨Pd.mono_eq, Pd.mono_eq, trivial⟩ (fun hG => ⟨np_loadBox hG hF ty3 rfl rfl hb1 rfl rfl rfl, np_call [.int .i64 p0.A] hG hF Try.call90 rfl rfl (fun w hC hg => (impl_isReg_ok p0.A hx12).mono fun e w' ⟨v, he, hv, hc⟩ => ⟨v, he, hc, hv⟩), trivial⟩) (by kernel_rfl) fun fr w17 hF hE hc => then_normal ?_)
                        have hC := hC.trans hc
                        have z17 := hc.size
                        obtain rfl := Option.some.inj h
                        exact wp_ret (blk_ret (then_ret (ret1 rfl hF rfl ⟨_, rfl, rfl, hC⟩)))
                      · replace h := iteF hb h
                        refine wp_seq ?_
                        refine wp_seq (wp_pure [(3, .pointer (some ⟨b1, 0, none⟩)), (37, .int .i64 p0.Op), (91, .bool (p0.Op == 12))] hF (by kernel_rfl) fun fr hF => then_normal ?_)
                        refine (wp_if hF (b := (p0.Op == 12)) rfl (fun hb => ?_) (fun hb => ?_))
                        · replace h := iteT hb h
                          refine (wp_skip (then_normal ?_))
                          refine (wp_if hF (b := (p0.Op == 12)) rfl (fun hb => ?_) (fun hb => ?_))
                          · replace h := iteT hb h
                            refine wp_seq (region_b [] [true, false, true, true, true, false, true, true, true]
                                [.eq (.pointer (some ⟨b1, 1, none⟩)), .eq (.int .i64 p0.A), .eq (.bool (p0.A == 0)), .eq (.bool (p0.A == 0)), .eq (.pointer (some ⟨b1, 2, none⟩)), .eq (.int .i64 p0.B), .eq (.bool (p0.B == 0)), .eq (.bool ((p0.A == 0) && (p0.B == 0))), .eq (.bool ((p0.A == 0) && (p0.B == 0)))]
                                [(6, .bool ((p0.A == 0) && (p0.B == 0)))] mix hF (by kernel_rfl) (by kernel_rfl) (by kernel_rfl) ⟨Pd.mono_eq, Pd.mono_eq, trivial⟩ (fun hG => ⟨np_loadBox hG hF ty3 rfl rfl hb1 rfl rfl rfl, np_loadBox hG hF ty3 rfl rfl hb1 rfl rfl rfl, trivial⟩) (by kernel_rfl) fun fr w18 hF hE hc => then_normal ?_)
                            have hC := hC.trans hc
                            have z18 := hc.size
                            obtain rfl := Option.some.inj h
                            exact wp_ret (blk_ret (then_ret (ret1 rfl hF rfl ⟨_, rfl, rfl, hC⟩)))
                          · replace h := iteF hb h
                            refine (wp_skip ?_)
                            refine blk_normal (then_normal ?_)
                            refine wp_seq (wp_pure [(6, .bool false)] hF (by kernel_rfl) fun fr hF => then_normal ?_)
                            obtain rfl := Option.some.inj h
                            exact wp_ret (ret1 rfl hF rfl ⟨_, rfl, rfl, hC⟩)
                        · replace h := iteF hb h
                          refine (wp_pure [(3, .pointer (some ⟨b1, 0, none⟩)), (91, .bool (p0.Op == 14))] hF (by kernel_rfl) fun fr hF => then_normal ?_)
                          refine (wp_if hF (b := (p0.Op == 14)) rfl (fun hb => ?_) (fun hb => ?_))
                          · replace h := iteT hb h
                            refine wp_seq (region_b [] [true, false, true, true, true, false, true, true, true]
                                [.eq (.pointer (some ⟨b1, 1, none⟩)), .eq (.int .i64 p0.A), .eq (.bool (p0.A == 0)), .eq (.bool (p0.A == 0)), .eq (.pointer (some ⟨b1, 2, none⟩)), .eq (.int .i64 p0.B), .eq (.bool (p0.B == 0)), .eq (.bool ((p0.A == 0) && (p0.B == 0))), .eq (.bool ((p0.A == 0) && (p0.B == 0)))]
                                [(6, .bool ((p0.A == 0) && (p0.B == 0)))] mix hF (by kernel_rfl) (by kernel_rfl) (by kernel_rfl) ⟨Pd.mono_eq, Pd.mono_eq, trivial⟩ (fun hG => ⟨np_loadBox hG hF ty3 rfl rfl hb1 rfl rfl rfl, np_loadBox hG hF ty3 rfl rfl hb1 rfl rfl rfl, trivial⟩) (by kernel_rfl) fun fr w19 hF hE hc => then_normal ?_)
                            have hC := hC.trans hc
                            have z19 := hc.size
                            obtain rfl := Option.some.inj h
                            exact wp_ret (blk_ret (then_ret (ret1 rfl hF rfl ⟨_, rfl, rfl, hC⟩)))
                          · replace h := iteF hb h
                            refine (wp_skip ?_)
                            refine blk_normal (then_normal ?_)
                            refine wp_seq (wp_pure [(6, .bool false)] hF (by kernel_rfl) fun fr hF => then_normal ?_)
                            obtain rfl := Option.some.inj h
                            exact wp_ret (ret1 rfl hF rfl ⟨_, rfl, rfl, hC⟩)
                  · replace h := iteF hb h
                    refine (wp_pure [(3, .pointer (some ⟨b1, 0, none⟩)), (7, .bool ((decide (p0.B ≥ 0)) && (decide (p0.B ≤ p2)))), (37, .int .i64 p0.Op), (74, .bool (p0.Op == 11))] hF (by kernel_rfl) fun fr hF => then_normal ?_)
                    refine (wp_if hF (b := (p0.Op == 11)) rfl (fun hb => ?_) (fun hb => ?_))
                    · replace h := iteT hb h
                      refine wp_seq (region_b [] [true, false, true, true, true, true, true]
                          [.eq (.pointer (some ⟨b1, 1, none⟩)), .eq (.int .i64 p0.A), .eq (.bool (p0.A == 0)), .eq (.bool (p0.A == 0)), .eq (.bool ((decide (p0.B ≥ 0)) && (decide (p0.B ≤ p2)))), .eq (.bool ((p0.A == 0) && ((decide (p0.B ≥ 0)) && (decide (p0.B ≤ p2))))), .eq (.bool ((p0.A == 0) && ((decide (p0.B ≥ 0)) && (decide (p0.B ≤ p2)))))]
                          [(6, .bool ((p0.A == 0) && ((decide (p0.B ≥ 0)) && (decide (p0.B ≤ p2)))))] mix hF (by kernel_rfl) (by kernel_rfl) (by kernel_rfl) ⟨Pd.mono_eq, trivial⟩ (fun hG => ⟨np_loadBox hG hF ty3 rfl rfl hb1 rfl rfl rfl, trivial⟩) (by kernel_rfl) fun fr w20 hF hE hc => then_normal ?_)
                      have hC := hC.trans hc
                      have z20 := hc.size
                      obtain rfl := Option.some.inj h
                      exact wp_ret (blk_ret (then_ret (ret1 rfl hF rfl ⟨_, rfl, rfl, hC⟩)))
                    · replace h := iteF hb h
                      refine wp_seq (wp_pure [(3, .pointer (some ⟨b1, 0, none⟩)), (7, .bool ((decide (p0.B ≥ 0)) && (decide (p0.B ≤ p2)))), (37, .int .i64 p0.Op), (83, .bool (p0.Op == 10))] hF (by kernel_rfl) fun fr hF => then_normal ?_)
                      refine (wp_if hF (b := (p0.Op == 10)) rfl (fun hb => ?_) (fun hb => ?_))
                      · replace h := iteT hb h
                        obtain ⟨x13, hx13, h⟩ := bindE h
                        refine wp_seq (region_b [] [true, false, false, true, true, true, true]
                            [.eq (.pointer (some ⟨b1, 1, none⟩)), .eq (.int .i64 p0.A), .eq (.bool x13), .eq (.bool x13), .eq (.bool ((decide (p0.B ≥ 0)) && (decide (p0.B ≤ p2)))), .eq (.bool (x13 && ((decide (p0.B ≥ 0)) && (decide (p0.B ≤ p2))))), .eq (.bool (x13 && ((decide (p0.B ≥ 0)) && (decide (p0.B ≤ p2)))))]
                            [(6, .bool (x13 && ((decide (p0.B ≥ 0)) && (decide (p0.B ≤ p2)))))] mix hF (by kernel_rfl) (by kernel_rfl) (by kernel_rfl) ⟨Pd.mono_eq, Pd.mono_eq, trivial⟩ (fun hG => ⟨np_loadBox hG hF ty3 rfl rfl hb1 rfl rfl rfl, np_call [.int .i64 p0.A] hG hF Try.call90 rfl rfl (fun w hC hg => (impl_isReg_ok p0.A hx13).mono fun e w' ⟨v, he, hv, hc⟩ => ⟨v, he, hc, hv⟩), trivial⟩) (by kernel_rfl) fun fr w21 hF hE hc => then_normal ?_)
                        have hC := hC.trans hc
                        have z21 := hc.size
                        obtain rfl := Option.some.inj h
                        exact wp_ret (blk_ret (then_ret (ret1 rfl hF rfl ⟨_, rfl, rfl, hC⟩)))
                      · replace h := iteF hb h
                        refine wp_seq ?_
                        refine wp_seq (wp_pure [(3, .pointer (some ⟨b1, 0, none⟩)), (37, .int .i64 p0.Op), (91, .bool (p0.Op == 12))] hF (by kernel_rfl) fun fr hF => then_normal ?_)
                        refine (wp_if hF (b := (p0.Op == 12)) rfl (fun hb => ?_) (fun hb => ?_))
                        · replace h := iteT hb h
                          refine (wp_skip (then_normal ?_))
                          refine (wp_if hF (b := (p0.Op == 12)) rfl (fun hb => ?_) (fun hb => ?_))
                          · replace h := iteT hb h
                            refine wp_seq (region_b [] [true, false, true, true, true, false, true, true, true]
                                [.eq (.pointer (some ⟨b1, 1, none⟩)), .eq (.int .i64 p0.A), .eq (.bool (p0.A == 0)), .eq (.bool (p0.A == 0)), .eq (.pointer (some ⟨b1, 2, none⟩)), .eq (.int .i64 p0.B), .eq (.bool (p0.B == 0)), .eq (.bool ((p0.A == 0) && (p0.B == 0))), .eq (.bool ((p0.A == 0) && (p0.B == 0)))]
                                [(6, .bool ((p0.A == 0) && (p0.B == 0)))] mix hF (by kernel_rfl) (by kernel_rfl) (by kernel_rfl) ⟨Pd.mono_eq, Pd.mono_eq, trivial⟩ (fun hG => ⟨np_loadBox hG hF ty3 rfl rfl hb1 rfl rfl rfl, np_loadBox hG hF ty3 rfl rfl hb1 rfl rfl rfl, trivial⟩) (by kernel_rfl) fun fr w22 hF hE hc => then_normal ?_)
                            have hC := hC.trans hc
                            have z22 := hc.size
                            obtain rfl := Option.some.inj h
                            exact wp_ret (blk_ret (then_ret (ret1 rfl hF rfl ⟨_, rfl, rfl, hC⟩)))
                          · replace h := iteF hb h
                            refine (wp_skip ?_)
                            refine blk_normal (then_normal ?_)
                            refine wp_seq (wp_pure [(6, .bool false)] hF (by kernel_rfl) fun fr hF => then_normal ?_)
                            obtain rfl := Option.some.inj h
                            exact wp_ret (ret1 rfl hF rfl ⟨_, rfl, rfl, hC⟩)
                        · replace h := iteF hb h
                          refine (wp_pure [(3, .pointer (some ⟨b1, 0, none⟩)), (91, .bool (p0.Op == 14))] hF (by kernel_rfl) fun fr hF => then_normal ?_)
                          refine (wp_if hF (b := (p0.Op == 14)) rfl (fun hb => ?_) (fun hb => ?_))
                          · replace h := iteT hb h
                            refine wp_seq (region_b [] [true, false, true, true, true, false, true, true, true]
                                [.eq (.pointer (some ⟨b1, 1, none⟩)), .eq (.int .i64 p0.A), .eq (.bool (p0.A == 0)), .eq (.bool (p0.A == 0)), .eq (.pointer (some ⟨b1, 2, none⟩)), .eq (.int .i64 p0.B), .eq (.bool (p0.B == 0)), .eq (.bool ((p0.A == 0) && (p0.B == 0))), .eq (.bool ((p0.A == 0) && (p0.B == 0)))]
                                [(6, .bool ((p0.A == 0) && (p0.B == 0)))] mix hF (by kernel_rfl) (by kernel_rfl) (by kernel_rfl) ⟨Pd.mono_eq, Pd.mono_eq, trivial⟩ (fun hG => ⟨np_loadBox hG hF ty3 rfl rfl hb1 rfl rfl rfl, np_loadBox hG hF ty3 rfl rfl hb1 rfl rfl rfl, trivial⟩) (by kernel_rfl) fun fr w23 hF hE hc => then_normal ?_)
                            have hC := hC.trans hc
                            have z23 := hc.size
                            obtain rfl := Option.some.inj h
                            exact wp_ret (blk_ret (then_ret (ret1 rfl hF rfl ⟨_, rfl, rfl, hC⟩)))
                          · replace h := iteF hb h
                            refine (wp_skip ?_)
                            refine blk_normal (then_normal ?_)
                            refine wp_seq (wp_pure [(6, .bool false)] hF (by kernel_rfl) fun fr hF => then_normal ?_)
                            obtain rfl := Option.some.inj h
                            exact wp_ret (ret1 rfl hF rfl ⟨_, rfl, rfl, hC⟩)
              · replace h := iteF hb h
                refine wp_seq (wp_pure [(3, .pointer (some ⟨b1, 0, none⟩)), (7, .bool ((decide (p0.B ≥ 0)) && (decide (p0.B ≤ p2)))), (37, .int .i64 p0.Op), (61, .bool (p0.Op == 6))] hF (by kernel_rfl) fun fr hF => then_normal ?_)
                refine (wp_if hF (b := (p0.Op == 6)) rfl (fun hb => ?_) (fun hb => ?_))
                · replace h := iteT hb h
                  refine (wp_skip (then_normal ?_))
                  refine (wp_if hF (b := (p0.Op == 6)) rfl (fun hb => ?_) (fun hb => ?_))
                  · replace h := iteT hb h
                    obtain ⟨x14, hx14, h⟩ := bindE h
                    refine wp_seq (region_b [] [true, false, false, true, true, false, true, true, true]
                        [.eq (.pointer (some ⟨b1, 1, none⟩)), .eq (.int .i64 p0.A), .eq (.bool x14), .eq (.bool x14), .eq (.pointer (some ⟨b1, 2, none⟩)), .eq (.int .i64 p0.B), .eq (.bool (p0.B == 0)), .eq (.bool (x14 && (p0.B == 0))), .eq (.bool (x14 && (p0.B == 0)))]
                        [(6, .bool (x14 && (p0.B == 0)))] mix hF (by kernel_rfl) (by kernel_rfl) (by kernel_rfl) ⟨Pd.mono_eq, Pd.mono_eq, Pd.mono_eq, trivial⟩ (fun hG => ⟨np_loadBox hG hF ty3 rfl rfl hb1 rfl rfl rfl, np_call [.int .i64 p0.A] hG hF Try.call90 rfl rfl (fun w hC hg => (impl_isReg_ok p0.A hx14).mono fun e w' ⟨v, he, hv, hc⟩ => ⟨v, he, hc, hv⟩), np_loadBox hG hF ty3 rfl rfl hb1 rfl rfl rfl, trivial⟩) (by kernel_rfl) fun fr w24 hF hE hc => then_normal ?_)
                    have hC := hC.trans hc
                    have z24 := hc.size
                    obtain rfl := Option.some.inj h
                    exact wp_ret (blk_ret (then_ret (ret1 rfl hF rfl ⟨_, rfl, rfl, hC⟩)))
                  · replace h := iteF hb h
                    refine wp_seq ?_
                    refine wp_seq (wp_pure [(3, .pointer (some ⟨b1, 0, none⟩)), (7, .bool ((decide (p0.B ≥ 0)) && (decide (p0.B ≤ p2)))), (37, .int .i64 p0.Op), (74, .bool (p0.Op == 9))] hF (by kernel_rfl) fun fr hF => then_normal ?_)
                    refine (wp_if hF (b := (p0.Op == 9)) rfl (fun hb => ?_) (fun hb => ?_))
                    · replace h := iteT hb h
                      refine (wp_skip (then_normal ?_))
                      refine (wp_if hF (b := (p0.Op == 9)) rfl (fun hb => ?_) (fun hb => ?_))
                      · replace h := iteT hb h
                        refine wp_seq (region_b [] [true, false, true, true, true, true, true]
                            [.eq (.pointer (some ⟨b1, 1, none⟩)), .eq (.int .i64 p0.A), .eq (.bool (p0.A == 0)), .eq (.bool (p0.A == 0)), .eq (.bool ((decide (p0.B ≥ 0)) && (decide (p0.B ≤ p2)))), .eq (.bool ((p0.A == 0) && ((decide (p0.B ≥ 0)) && (decide (p0.B ≤ p2))))), .eq (.bool ((p0.A == 0) && ((decide (p0.B ≥ 0)) && (decide (p0.B ≤ p2)))))]
                            [(6, .bool ((p0.A == 0) && ((decide (p0.B ≥ 0)) && (decide (p0.B ≤ p2)))))] mix hF (by kernel_rfl) (by kernel_rfl) (by kernel_rfl) ⟨Pd.mono_eq, trivial⟩ (fun hG => ⟨np_loadBox hG hF ty3 rfl rfl hb1 rfl rfl rfl, trivial⟩) (by kernel_rfl) fun fr w25 hF hE hc => then_normal ?_)
                        have hC := hC.trans hc
                        have z25 := hc.size
                        obtain rfl := Option.some.inj h
                        exact wp_ret (blk_ret (then_ret (ret1 rfl hF rfl ⟨_, rfl, rfl, hC⟩)))
                      · replace h := iteF hb h
                        refine wp_seq (wp_pure [(3, .pointer (some ⟨b1, 0, none⟩)), (7, .bool ((decide (p0.B ≥ 0)) && (decide (p0.B ≤ p2)))), (37, .int .i64 p0.Op), (83, .bool (p0.Op == 10))] hF (by kernel_rfl) fun fr hF => then_normal ?_)
                        refine (wp_if hF (b := (p0.Op == 10)) rfl (fun hb => ?_) (fun hb => ?_))
                        · replace h := iteT hb h
                          obtain ⟨x15, hx15, h⟩ := bindE h
                          refine wp_seq (region_b [] [true, false, false, true, true, true, true]
                              [.eq (.pointer (some ⟨b1, 1, none⟩)), .eq (.int .i64 p0.A), .eq (.bool x15), .eq (.bool x15), .eq (.bool ((decide (p0.B ≥ 0)) && (decide (p0.B ≤ p2)))), .eq (.bool (x15 && ((decide (p0.B ≥ 0)) && (decide (p0.B ≤ p2))))), .eq (.bool (x15 && ((decide (p0.B ≥ 0)) && (decide (p0.B ≤ p2)))))]
                              [(6, .bool (x15 && ((decide (p0.B ≥ 0)) && (decide (p0.B ≤ p2)))))] mix hF (by kernel_rfl) (by kernel_rfl) (by kernel_rfl) ⟨Pd.mono_eq, Pd.mono_eq, trivial⟩ (fun hG => ⟨np_loadBox hG hF ty3 rfl rfl hb1 rfl rfl rfl, np_call [.int .i64 p0.A] hG hF Try.call90 rfl rfl (fun w hC hg => (impl_isReg_ok p0.A hx15).mono fun e w' ⟨v, he, hv, hc⟩ => ⟨v, he, hc, hv⟩), trivial⟩) (by kernel_rfl) fun fr w26 hF hE hc => then_normal ?_)
                          have hC := hC.trans hc
                          have z26 := hc.size
                          obtain rfl := Option.some.inj h
                          exact wp_ret (blk_ret (then_ret (ret1 rfl hF rfl ⟨_, rfl, rfl, hC⟩)))
                        · replace h := iteF hb h
                          refine wp_seq ?_
                          refine wp_seq (wp_pure [(3, .pointer (some ⟨b1, 0, none⟩)), (37, .int .i64 p0.Op), (91, .bool (p0.Op == 12))] hF (by kernel_rfl) fun fr hF => then_normal ?_)
                          refine (wp_if hF (b := (p0.Op == 12)) rfl (fun hb => ?_) (fun hb => ?_))
                          · replace h := iteT hb h
                            refine (wp_skip (then_normal ?_))
                            refine (wp_if hF (b := (p0.Op == 12)) rfl (fun hb => ?_) (fun hb => ?_))
                            · replace h := iteT hb h
                              refine wp_seq (region_b [] [true, false, true, true, true, false, true, true, true]
                                  [.eq (.pointer (some ⟨b1, 1, none⟩)), .eq (.int .i64 p0.A), .eq (.bool (p0.A == 0)), .eq (.bool (p0.A == 0)), .eq (.pointer (some ⟨b1, 2, none⟩)), .eq (.int .i64 p0.B), .eq (.bool (p0.B == 0)), .eq (.bool ((p0.A == 0) && (p0.B == 0))), .eq (.bool ((p0.A == 0) && (p0.B == 0)))]
                                  [(6, .bool ((p0.A == 0) && (p0.B == 0)))] mix hF (by kernel_rfl) (by kernel_rfl) (by kernel_rfl) ⟨Pd.mono_eq, Pd.mono_eq, trivial⟩ (fun hG => ⟨np_loadBox hG hF ty3 rfl rfl hb1 rfl rfl rfl, np_loadBox hG hF ty3 rfl rfl hb1 rfl rfl rfl, trivial⟩) (by kernel_rfl) fun fr w27 hF hE hc => then_normal ?_)
                              have hC := hC.trans hc
                              have z27 := hc.size
                              obtain rfl := Option.some.inj h
                              exact wp_ret (blk_ret (then_ret (ret1 rfl hF rfl ⟨_, rfl, rfl, hC⟩)))
                            · replace h := iteF hb h
                              refine (wp_skip ?_)
                              refine blk_normal (then_normal ?_)
                              refine wp_seq (wp_pure [(6, .bool false)] hF (by kernel_rfl) fun fr hF => then_normal ?_)
                              obtain rfl := Option.some.inj h
                              exact wp_ret (ret1 rfl hF rfl ⟨_, rfl, rfl, hC⟩)
                          · replace h := iteF hb h
                            refine (wp_pure [(3, .pointer (some ⟨b1, 0, none⟩)), (91, .bool (p0.Op == 14))] hF (by kernel_rfl) fun fr hF => then_normal ?_)
                            refine (wp_if hF (b := (p0.Op == 14)) rfl (fun hb => ?_) (fun hb => ?_))
                            · replace h := iteT hb h
                              refine wp_seq (region_b [] [true, false, true, true, true, false, true, true, true]
                                  [.eq (.pointer (some ⟨b1, 1, none⟩)), .eq (.int .i64 p0.A), .eq (.bool (p0.A == 0)), .eq (.bool (p0.A == 0)), .eq (.pointer (some ⟨b1, 2, none⟩)), .eq (.int .i64 p0.B), .eq (.bool (p0.B == 0)), .eq (.bool ((p0.A == 0) && (p0.B == 0))), .eq (.bool ((p0.A == 0) && (p0.B == 0)))]
                                  [(6, .bool ((p0.A == 0) && (p0.B == 0)))] mix hF (by kernel_rfl) (by kernel_rfl) (by kernel_rfl) ⟨Pd.mono_eq, Pd.mono_eq, trivial⟩ (fun hG => ⟨np_loadBox hG hF ty3 rfl rfl hb1 rfl rfl rfl, np_loadBox hG hF ty3 rfl rfl hb1 rfl rfl rfl, trivial⟩) (by kernel_rfl) fun fr w28 hF hE hc => then_normal ?_)
                              have hC := hC.trans hc
                              have z28 := hc.size
                              obtain rfl := Option.some.inj h
                              exact wp_ret (blk_ret (then_ret (ret1 rfl hF rfl ⟨_, rfl, rfl, hC⟩)))
                            · replace h := iteF hb h
                              refine (wp_skip ?_)
                              refine blk_normal (then_normal ?_)
                              refine wp_seq (wp_pure [(6, .bool false)] hF (by kernel_rfl) fun fr hF => then_normal ?_)
                              obtain rfl := Option.some.inj h
                              exact wp_ret (ret1 rfl hF rfl ⟨_, rfl, rfl, hC⟩)
                    · replace h := iteF hb h
                      refine (wp_pure [(3, .pointer (some ⟨b1, 0, none⟩)), (7, .bool ((decide (p0.B ≥ 0)) && (decide (p0.B ≤ p2)))), (37, .int .i64 p0.Op), (74, .bool (p0.Op == 11))] hF (by kernel_rfl) fun fr hF => then_normal ?_)
                      refine (wp_if hF (b := (p0.Op == 11)) rfl (fun hb => ?_) (fun hb => ?_))
                      · replace h := iteT hb h
                        refine wp_seq (region_b [] [true, false, true, true, true, true, true]
                            [.eq (.pointer (some ⟨b1, 1, none⟩)), .eq (.int .i64 p0.A), .eq (.bool (p0.A == 0)), .eq (.bool (p0.A == 0)), .eq (.bool ((decide (p0.B ≥ 0)) && (decide (p0.B ≤ p2)))), .eq (.bool ((p0.A == 0) && ((decide (p0.B ≥ 0)) && (decide (p0.B ≤ p2))))), .eq (.bool ((p0.A == 0) && ((decide (p0.B ≥ 0)) && (decide (p0.B ≤ p2)))))]
                            [(6, .bool ((p0.A == 0) && ((decide (p0.B ≥ 0)) && (decide (p0.B ≤ p2)))))] mix hF (by kernel_rfl) (by kernel_rfl) (by kernel_rfl) ⟨Pd.mono_eq, trivial⟩ (fun hG => ⟨np_loadBox hG hF ty3 rfl rfl hb1 rfl rfl rfl, trivial⟩) (by kernel_rfl) fun fr w29 hF hE hc => then_normal ?_)
                        have hC := hC.trans hc
                        have z29 := hc.size
                        obtain rfl := Option.some.inj h
                        exact wp_ret (blk_ret (then_ret (ret1 rfl hF rfl ⟨_, rfl, rfl, hC⟩)))
                      · replace h := iteF hb h
                        refine wp_seq (wp_pure [(3, .pointer (some ⟨b1, 0, none⟩)), (7, .bool ((decide (p0.B ≥ 0)) && (decide (p0.B ≤ p2)))), (37, .int .i64 p0.Op), (83, .bool (p0.Op == 10))] hF (by kernel_rfl) fun fr hF => then_normal ?_)
                        refine (wp_if hF (b := (p0.Op == 10)) rfl (fun hb => ?_) (fun hb => ?_))
                        · replace h := iteT hb h
                          obtain ⟨x16, hx16, h⟩ := bindE h
                          refine wp_seq (region_b [] [true, false, false, true, true, true, true]
                              [.eq (.pointer (some ⟨b1, 1, none⟩)), .eq (.int .i64 p0.A), .eq (.bool x16), .eq (.bool x16), .eq (.bool ((decide (p0.B ≥ 0)) && (decide (p0.B ≤ p2)))), .eq (.bool (x16 && ((decide (p0.B ≥ 0)) && (decide (p0.B ≤ p2))))), .eq (.bool (x16 && ((decide (p0.B ≥ 0)) && (decide (p0.B ≤ p2)))))]
                              [(6, .bool (x16 && ((decide (p0.B ≥ 0)) && (decide (p0.B ≤ p2)))))] mix hF (by kernel_rfl) (by kernel_rfl) (by kernel_rfl) ⟨Pd.mono_eq, Pd.mono_eq, trivial⟩ (fun hG => ⟨np_loadBox hG hF ty3 rfl rfl hb1 rfl rfl rfl, np_call [.int .i64 p0.A] hG hF Try.call90 rfl rfl (fun w hC hg => (impl_isReg_ok p0.A hx16).mono fun e w' ⟨v, he, hv, hc⟩ => ⟨v, he, hc, hv⟩), trivial⟩) (by kernel_rfl) fun fr w30 hF hE hc => then_normal ?_)
                          have hC := hC.trans hc
                          have z30 := hc.size
                          obtain rfl := Option.some.inj h
                          exact wp_ret (blk_ret (then_ret (ret1 rfl hF rfl ⟨_, rfl, rfl, hC⟩)))
                        · replace h := iteF hb h
                          refine wp_seq ?_
                          refine wp_seq (wp_pure [(3, .pointer (some ⟨b1, 0, none⟩)), (37, .int .i64 p0.Op), (91, .bool (p0.Op == 12))] hF (by kernel_rfl) fun fr hF => then_normal ?_)
                          refine (wp_if hF (b := (p0.Op == 12)) rfl (fun hb => ?_) (fun hb => ?_))
                          · replace h := iteT hb h
                            refine (wp_skip (then_normal ?_))
                            refine (wp_if hF (b := (p0.Op == 12)) rfl (fun hb => ?_) (fun hb => ?_))
                            · replace h := iteT hb h
                              refine wp_seq (region_b [] [true, false, true, true, true, false, true, true, true]
                                  [.eq (.pointer (some ⟨b1, 1, none⟩)), .eq (.int .i64 p0.A), .eq (.bool (p0.A == 0)), .eq (.bool (p0.A == 0)), .eq (.pointer (some ⟨b1, 2, none⟩)), .eq (.int .i64 p0.B), .eq (.bool (p0.B == 0)), .eq (.bool ((p0.A == 0) && (p0.B == 0))), .eq (.bool ((p0.A == 0) && (p0.B == 0)))]
                                  [(6, .bool ((p0.A == 0) && (p0.B == 0)))] mix hF (by kernel_rfl) (by kernel_rfl) (by kernel_rfl) ⟨Pd.mono_eq, Pd.mono_eq, trivial⟩ (fun hG => ⟨np_loadBox hG hF ty3 rfl rfl hb1 rfl rfl rfl, np_loadBox hG hF ty3 rfl rfl hb1 rfl rfl rfl, trivial⟩) (by kernel_rfl) fun fr w31 hF hE hc => then_normal ?_)
                              have hC := hC.trans hc
                              have z31 := hc.size
                              obtain rfl := Option.some.inj h
                              exact wp_ret (blk_ret (then_ret (ret1 rfl hF rfl ⟨_, rfl, rfl, hC⟩)))
                            · replace h := iteF hb h
                              refine (wp_skip ?_)
                              refine blk_normal (then_normal ?_)
                              refine wp_seq (wp_pure [(6, .bool false)] hF (by kernel_rfl) fun fr hF => then_normal ?_)
                              obtain rfl := Option.some.inj h
                              exact wp_ret (ret1 rfl hF rfl ⟨_, rfl, rfl, hC⟩)
                          · replace h := iteF hb h
                            refine (wp_pure [(3, .pointer (some ⟨b1, 0, none⟩)), (91, .bool (p0.Op == 14))] hF (by kernel_rfl) fun fr hF => then_normal ?_)
                            refine (wp_if hF (b := (p0.Op == 14)) rfl (fun hb => ?_) (fun hb => ?_))
                            · replace h := iteT hb h
                              refine wp_seq (region_b [] [true, false, true, true, true, false, true, true, true]
                                  [.eq (.pointer (some ⟨b1, 1, none⟩)), .eq (.int .i64 p0.A), .eq (.bool (p0.A == 0)), .eq (.bool (p0.A == 0)), .eq (.pointer (some ⟨b1, 2, none⟩)), .eq (.int .i64 p0.B), .eq (.bool (p0.B == 0)), .eq (.bool ((p0.A == 0) && (p0.B == 0))), .eq (.bool ((p0.A == 0) && (p0.B == 0)))]
                                  [(6, .bool ((p0.A == 0) && (p0.B == 0)))] mix hF (by kernel_rfl) (by kernel_rfl) (by kernel_rfl) ⟨Pd.mono_eq, Pd.mono_eq, trivial⟩ (fun hG => ⟨np_loadBox hG hF ty3 rfl rfl hb1 rfl rfl rfl, np_loadBox hG hF ty3 rfl rfl hb1 rfl rfl rfl, trivial⟩) (by kernel_rfl) fun fr w32 hF hE hc => then_normal ?_)
                              have hC := hC.trans hc
                              have z32 := hc.size
                              obtain rfl := Option.some.inj h
                              exact wp_ret (blk_ret (then_ret (ret1 rfl hF rfl ⟨_, rfl, rfl, hC⟩)))
                            · replace h := iteF hb h
                              refine (wp_skip ?_)
                              refine blk_normal (then_normal ?_)
                              refine wp_seq (wp_pure [(6, .bool false)] hF (by kernel_rfl) fun fr hF => then_normal ?_)
                              obtain rfl := Option.some.inj h
                              exact wp_ret (ret1 rfl hF rfl ⟨_, rfl, rfl, hC⟩)
                · replace h := iteF hb h
                  refine (wp_pure [(3, .pointer (some ⟨b1, 0, none⟩)), (7, .bool ((decide (p0.B ≥ 0)) && (decide (p0.B ≤ p2)))), (37, .int .i64 p0.Op), (61, .bool (p0.Op == 13))] hF (by kernel_rfl) fun fr hF => then_normal ?_)
                  refine (wp_if hF (b := (p0.Op == 13)) rfl (fun hb => ?_) (fun hb => ?_))
                  · replace h := iteT hb h
                    obtain ⟨x17, hx17, h⟩ := bindE h
                    refine wp_seq (region_b [] [true, false, false, true, true, false, true, true, true]
                        [.eq (.pointer (some ⟨b1, 1, none⟩)), .eq (.int .i64 p0.A), .eq (.bool x17), .eq (.bool x17), .eq (.pointer (some ⟨b1, 2, none⟩)), .eq (.int .i64 p0.B), .eq (.bool (p0.B == 0)), .eq (.bool (x17 && (p0.B == 0))), .eq (.bool (x17 && (p0.B == 0)))]
                        [(6, .bool (x17 && (p0.B == 0)))] mix hF (by kernel_rfl) (by kernel_rfl) (by kernel_rfl) ⟨Pd.mono_eq, Pd.mono_eq, Pd.mono_eq, trivial⟩ (fun hG => ⟨np_loadBox hG hF ty3 rfl rfl hb1 rfl rfl rfl, np_call [.int .i64 p0.A] hG hF Try.call90 rfl rfl (fun w hC hg => (impl_isReg_ok p0.A hx17).mono fun e w' ⟨v, he, hv, hc⟩ => ⟨v, he, hc, hv⟩), np_loadBox hG hF ty3 rfl rfl hb1 rfl rfl rfl, trivial⟩) (by kernel_rfl) fun fr w33 hF hE hc => then_normal ?_)
                    have hC := hC.trans hc
                    have z33 := hc.size
                    obtain rfl := Option.some.inj h
                    exact wp_ret (blk_ret (then_ret (ret1 rfl hF rfl ⟨_, rfl, rfl, hC⟩)))
                  · replace h := iteF hb h
                    refine wp_seq ?_
                    refine wp_seq (wp_pure [(3, .pointer (some ⟨b1, 0, none⟩)), (7, .bool ((decide (p0.B ≥ 0)) && (decide (p0.B ≤ p2)))), (37, .int .i64 p0.Op), (74, .bool (p0.Op == 9))] hF (by kernel_rfl) fun fr hF => then_normal ?_)
                    refine (wp_if hF (b := (p0.Op == 9)) rfl (fun hb => ?_) (fun hb => ?_))
                    · replace h := iteT hb h
                      refine (wp_skip (then_normal ?_))
                      refine (wp_if hF (b := (p0.Op == 9)) rfl (fun hb => ?_) (fun hb => ?_))
                      · replace h := iteT hb h
                        refine wp_seq (region_b [] [true, false, true, true, true, true, true]
                            [.eq (.pointer (some ⟨b1, 1, none⟩)), .eq (.int .i64 p0.A), .eq (.bool (p0.A == 0)), .eq (.bool (p0.A == 0)), .eq (.bool ((decide (p0.B ≥ 0)) && (decide (p0.B ≤ p2)))), .eq (.bool ((p0.A == 0) && ((decide (p0.B ≥ 0)) && (decide (p0.B ≤ p2))))), .eq (.bool ((p0.A == 0) && ((decide (p0.B ≥ 0)) && (decide (p0.B ≤ p2)))))]
                            [(6, .bool ((p0.A == 0) && ((decide (p0.B ≥ 0)) && (decide (p0.B ≤ p2)))))] mix hF (by kernel_rfl) (by kernel_rfl) (by kernel_rfl) ⟨Pd.mono_eq, trivial⟩ (fun hG => ⟨np_loadBox hG hF ty3 rfl rfl hb1 rfl rfl rfl, trivial⟩) (by kernel_rfl) fun fr w34 hF hE hc => then_normal ?_)
                        have hC := hC.trans hc
                        have z34 := hc.size
                        obtain rfl := Option.some.inj h
                        exact wp_ret (blk_ret (then_ret (ret1 rfl hF rfl ⟨_, rfl, rfl, hC⟩)))
                      · replace h := iteF hb h
                        refine wp_seq (wp_pure [(3, .pointer (some ⟨b1, 0, none⟩)), (7, .bool ((decide (p0.B ≥ 0)) && (decide (p0.B ≤ p2)))), (37, .int .i64 p0.Op), (83, .bool (p0.Op == 10))] hF (by kernel_rfl) fun fr hF => then_normal ?_)
                        refine (wp_if hF (b := (p0.Op == 10)) rfl (fun hb => ?_) (fun hb => ?_))
                        · replace h := iteT hb h
                          obtain ⟨x18, hx18, h⟩ := bindE h
                          refine wp_seq (region_b [] [true, false, false, true, true, true, true]
                              [.eq (.pointer (some ⟨b1, 1, none⟩)), .eq (.int .i64 p0.A), .eq (.bool x18), .eq (.bool x18), .eq (.bool ((decide (p0.B ≥ 0)) && (decide (p0.B ≤ p2)))), .eq (.bool (x18 && ((decide (p0.B ≥ 0)) && (decide (p0.B ≤ p2))))), .eq (.bool (x18 && ((decide (p0.B ≥ 0)) && (decide (p0.B ≤ p2)))))]
                              [(6, .bool (x18 && ((decide (p0.B ≥ 0)) && (decide (p0.B ≤ p2)))))] mix hF (by kernel_rfl) (by kernel_rfl) (by kernel_rfl) ⟨Pd.mono_eq, Pd.mono_eq, trivial⟩ (fun hG => ⟨np_loadBox hG hF ty3 rfl rfl hb1 rfl rfl rfl, np_call [.int .i64 p0.A] hG hF Try.call90 rfl rfl (fun w hC hg => (impl_isReg_ok p0.A hx18).mono fun e w' ⟨v, he, hv, hc⟩ => ⟨v, he, hc, hv⟩), trivial⟩) (by kernel_rfl) fun fr w35 hF hE hc => then_normal ?_)
                          have hC := hC.trans hc
                          have z35 := hc.size
                          obtain rfl := Option.some.inj h
                          exact wp_ret (blk_ret (then_ret (ret1 rfl hF rfl ⟨_, rfl, rfl, hC⟩)))
                        · replace h := iteF hb h
                          refine wp_seq ?_
                          refine wp_seq (wp_pure [(3, .pointer (some ⟨b1, 0, none⟩)), (37, .int .i64 p0.Op), (91, .bool (p0.Op == 12))] hF (by kernel_rfl) fun fr hF => then_normal ?_)
                          refine (wp_if hF (b := (p0.Op == 12)) rfl (fun hb => ?_) (fun hb => ?_))
                          · replace h := iteT hb h
                            refine (wp_skip (then_normal ?_))
                            refine (wp_if hF (b := (p0.Op == 12)) rfl (fun hb => ?_) (fun hb => ?_))
                            · replace h := iteT hb h
                              refine wp_seq (region_b [] [true, false, true, true, true, false, true, true, true]
                                  [.eq (.pointer (some ⟨b1, 1, none⟩)), .eq (.int .i64 p0.A), .eq (.bool (p0.A == 0)), .eq (.bool (p0.A == 0)), .eq (.pointer (some ⟨b1, 2, none⟩)), .eq (.int .i64 p0.B), .eq (.bool (p0.B == 0)), .eq (.bool ((p0.A == 0) && (p0.B == 0))), .eq (.bool ((p0.A == 0) && (p0.B == 0)))]
                                  [(6, .bool ((p0.A == 0) && (p0.B == 0)))] mix hF (by kernel_rfl) (by kernel_rfl) (by kernel_rfl) ⟨Pd.mono_eq, Pd.mono_eq, trivial⟩ (fun hG => ⟨np_loadBox hG hF ty3 rfl rfl hb1 rfl rfl rfl, np_loadBox hG hF ty3 rfl rfl hb1 rfl rfl rfl, trivial⟩) (by kernel_rfl) fun fr w36 hF hE hc => then_normal ?_)
                              have hC := hC.trans hc
                              have z36 := hc.size
                              obtain rfl := Option.some.inj h
                              exact wp_ret (blk_ret (then_ret (ret1 rfl hF rfl ⟨_, rfl, rfl, hC⟩)))
                            · replace h := iteF hb h
                              refine (wp_skip ?_)
                              refine blk_normal (then_normal ?_)
                              refine wp_seq (wp_pure [(6, .bool false)] hF (by kernel_rfl) fun fr hF => then_normal ?_)
                              obtain rfl := Option.some.inj h
                              exact wp_ret (ret1 rfl hF rfl ⟨_, rfl, rfl, hC⟩)
                          · replace h := iteF hb h
                            refine (wp_pure [(3, .pointer (some ⟨b1, 0, none⟩)), (91, .bool (p0.Op == 14))] hF (by kernel_rfl) fun fr hF => then_normal ?_)
                            refine (wp_if hF (b := (p0.Op == 14)) rfl (fun hb => ?_) (fun hb => ?_))
                            · replace h := iteT hb h
                              refine wp_seq (region_b [] [true, false, true, true, true, false, true, true, true]
                                  [.eq (.pointer (some ⟨b1, 1, none⟩)), .eq (.int .i64 p0.A), .eq (.bool (p0.A == 0)), .eq (.bool (p0.A == 0)), .eq (.pointer (some ⟨b1, 2, none⟩)), .eq (.int .i64 p0.B), .eq (.bool (p0.B == 0)), .eq (.bool ((p0.A == 0) && (p0.B == 0))), .eq (.bool ((p0.A == 0) && (p0.B == 0)))]
                                  [(6, .bool ((p0.A == 0) && (p0.B == 0)))] mix hF (by kernel_rfl) (by kernel_rfl) (by kernel_rfl) ⟨Pd.mono_eq, Pd.mono_eq, trivial⟩ (fun hG => ⟨np_loadBox hG hF ty3 rfl rfl hb1 rfl rfl rfl, np_loadBox hG hF ty3 rfl rfl hb1 rfl rfl rfl, trivial⟩) (by kernel_rfl) fun fr w37 hF hE hc => then_normal ?_)
                              have hC := hC.trans hc
                              have z37 := hc.size
                              obtain rfl := Option.some.inj h
                              exact wp_ret (blk_ret (then_ret (ret1 rfl hF rfl ⟨_, rfl, rfl, hC⟩)))
                            · replace h := iteF hb h
                              refine (wp_skip ?_)
                              refine blk_normal (then_normal ?_)
                              refine wp_seq (wp_pure [(6, .bool false)] hF (by kernel_rfl) fun fr hF => then_normal ?_)
                              obtain rfl := Option.some.inj h
                              exact wp_ret (ret1 rfl hF rfl ⟨_, rfl, rfl, hC⟩)
                    · replace h := iteF hb h
                      refine (wp_pure [(3, .pointer (some ⟨b1, 0, none⟩)), (7, .bool ((decide (p0.B ≥ 0)) && (decide (p0.B ≤ p2)))), (37, .int .i64 p0.Op), (74, .bool (p0.Op == 11))] hF (by kernel_rfl) fun fr hF => then_normal ?_)
                      refine (wp_if hF (b := (p0.Op == 11)) rfl (fun hb => ?_) (fun hb => ?_))
                      · replace h := iteT hb h
                        refine wp_seq (region_b [] [true, false, true, true, true, true, true]
                            [.eq (.pointer (some ⟨b1, 1, none⟩)), .eq (.int .i64 p0.A), .eq (.bool (p0.A == 0)), .eq (.bool (p0.A == 0)), .eq (.bool ((decide (p0.B ≥ 0)) && (decide (p0.B ≤ p2)))), .eq (.bool ((p0.A == 0) && ((decide (p0.B ≥ 0)) && (decide (p0.B ≤ p2))))), .eq (.bool ((p0.A == 0) && ((decide (p0.B ≥ 0)) && (decide (p0.B ≤ p2)))))]
                            [(6, .bool ((p0.A == 0) && ((decide (p0.B ≥ 0)) && (decide (p0.B ≤ p2)))))] mix hF (by kernel_rfl) (by kernel_rfl) (by kernel_rfl) ⟨Pd.mono_eq, trivial⟩ (fun hG => ⟨np_loadBox hG hF ty3 rfl rfl hb1 rfl rfl rfl, trivial⟩) (by kernel_rfl) fun fr w38 hF hE hc => then_normal ?_)
                        have hC := hC.trans hc
                        have z38 := hc.size
                        obtain rfl := Option.some.inj h
                        exact wp_ret (blk_ret (then_ret (ret1 rfl hF rfl ⟨_, rfl, rfl, hC⟩)))
                      · replace h := iteF hb h
                        refine wp_seq (wp_pure [(3, .pointer (some ⟨b1, 0, none⟩)), (7, .bool ((decide (p0.B ≥ 0)) && (decide (p0.B ≤ p2)))), (37, .int .i64 p0.Op), (83, .bool (p0.Op == 10))] hF (by kernel_rfl) fun fr hF => then_normal ?_)
                        refine (wp_if hF (b := (p0.Op == 10)) rfl (fun hb => ?_) (fun hb => ?_))
                        · replace h := iteT hb h
                          obtain ⟨x19, hx19, h⟩ := bindE h
                          refine wp_seq (region_b [] [true, false, false, true, true, true, true]
                              [.eq (.pointer (some ⟨b1, 1, none⟩)), .eq (.int .i64 p0.A), .eq (.bool x19), .eq (.bool x19), .eq (.bool ((decide (p0.B ≥ 0)) && (decide (p0.B ≤ p2)))), .eq (.bool (x19 && ((decide (p0.B ≥ 0)) && (decide (p0.B ≤ p2))))), .eq (.bool (x19 && ((decide (p0.B ≥ 0)) && (decide (p0.B ≤ p2)))))]
                              [(6, .bool (x19 && ((decide (p0.B ≥ 0)) && (decide (p0.B ≤ p2)))))] mix hF (by kernel_rfl) (by kernel_rfl) (by kernel_rfl) ⟨Pd.mono_eq, Pd.mono_eq, trivial⟩ (fun hG => ⟨np_loadBox hG hF ty3 rfl rfl hb1 rfl rfl rfl, np_call [.int .i64 p0.A] hG hF Try.call90 rfl rfl (fun w hC hg => (impl_isReg_ok p0.A hx19).mono fun e w' ⟨v, he, hv, hc⟩ => ⟨v, he, hc, hv⟩), trivial⟩) (by kernel_rfl) fun fr w39 hF hE hc => then_normal ?_)
                          have hC := hC.trans hc
                          have z39 := hc.size
                          obtain rfl := Option.some.inj h
                          exact wp_ret (blk_ret (then_ret (ret1 rfl hF rfl ⟨_, rfl, rfl, hC⟩)))
                        · replace h := iteF hb h
                          refine wp_seq ?_
                          refine wp_seq (wp_pure [(3, .pointer (some ⟨b1, 0, none⟩)), (37, .int .i64 p0.Op), (91, .bool (p0.Op == 12))] hF (by kernel_rfl) fun fr hF => then_normal ?_)
                          refine (wp_if hF (b := (p0.Op == 12)) rfl (fun hb => ?_) (fun hb => ?_))
                          · replace h := iteT hb h
                            refine (wp_skip (then_normal ?_))
                            refine (wp_if hF (b := (p0.Op == 12)) rfl (fun hb => ?_) (fun hb => ?_))
                            · replace h := iteT hb h
                              refine wp_seq (region_b [] [true, false, true, true, true, false, true, true, true]
                                  [.eq (.pointer (some ⟨b1, 1, none⟩)), .eq (.int .i64 p0.A), .eq (.bool (p0.A == 0)), .eq (.bool (p0.A == 0)), .eq (.pointer (some ⟨b1, 2, none⟩)), .eq (.int .i64 p0.B), .eq (.bool (p0.B == 0)), .eq (.bool ((p0.A == 0) && (p0.B == 0))), .eq (.bool ((p0.A == 0) && (p0.B == 0)))]
                                  [(6, .bool ((p0.A == 0) && (p0.B == 0)))] mix hF (by kernel_rfl) (by kernel_rfl) (by kernel_rfl) ⟨Pd.mono_eq, Pd.mono_eq, trivial⟩ (fun hG => ⟨np_loadBox hG hF ty3 rfl rfl hb1 rfl rfl rfl, np_loadBox hG hF ty3 rfl rfl hb1 rfl rfl rfl, trivial⟩) (by kernel_rfl) fun fr w40 hF hE hc => then_normal ?_)
                              have hC := hC.trans hc
                              have z40 := hc.size
                              obtain rfl := Option.some.inj h
                              exact wp_ret (blk_ret (then_ret (ret1 rfl hF rfl ⟨_, rfl, rfl, hC⟩)))
                            · replace h := iteF hb h
                              refine (wp_skip ?_)
                              refine blk_normal (then_normal ?_)
                              refine wp_seq (wp_pure [(6, .bool false)] hF (by kernel_rfl) fun fr hF => then_normal ?_)
                              obtain rfl := Option.some.inj h
                              exact wp_ret (ret1 rfl hF rfl ⟨_, rfl, rfl, hC⟩)
                          · replace h := iteF hb h
                            refine (wp_pure [(3, .pointer (some ⟨b1, 0, none⟩)), (91, .bool (p0.Op == 14))] hF (by kernel_rfl) fun fr hF => then_normal ?_)
                            refine (wp_if hF (b := (p0.Op == 14)) rfl (fun hb => ?_) (fun hb => ?_))
                            · replace h := iteT hb h
                              refine wp_seq (region_b [] [true, false, true, true, true, false, true, true, true]
                                  [.eq (.pointer (some ⟨b1, 1, none⟩)), .eq (.int .i64 p0.A), .eq (.bool (p0.A == 0)), .eq (.bool (p0.A == 0)), .eq (.pointer (some ⟨b1, 2, none⟩)), .eq (.int .i64 p0.B), .eq (.bool (p0.B == 0)), .eq (.bool ((p0.A == 0) && (p0.B == 0))), .eq (.bool ((p0.A == 0) && (p0.B == 0)))]
                                  [(6, .bool ((p0.A == 0) && (p0.B == 0)))] mix hF (by kernel_rfl) (by kernel_rfl) (by kernel_rfl) ⟨Pd.mono_eq, Pd.mono_eq, trivial⟩ (fun hG => ⟨np_loadBox hG hF ty3 rfl rfl hb1 rfl rfl rfl, np_loadBox hG hF ty3 rfl rfl hb1 rfl rfl rfl, trivial⟩) (by kernel_rfl) fun fr w41 hF hE hc => then_normal ?_)
                              have hC := hC.trans hc
                              have z41 := hc.size
                              obtain rfl := Option.some.inj h
                              exact wp_ret (blk_ret (then_ret (ret1 rfl hF rfl ⟨_, rfl, rfl, hC⟩)))
                            · replace h := iteF hb h
                              refine (wp_skip ?_)
                              refine blk_normal (then_normal ?_)
                              refine wp_seq (wp_pure [(6, .bool false)] hF (by kernel_rfl) fun fr hF => then_normal ?_)
                              obtain rfl := Option.some.inj h
                              exact wp_ret (ret1 rfl hF rfl ⟨_, rfl, rfl, hC⟩)
        · replace h := iteF hb h
          refine wp_seq (wp_pure [(3, .pointer (some ⟨b1, 0, none⟩)), (7, .bool ((decide (p0.B ≥ 0)) && (decide (p0.B ≤ p2)))), (37, .int .i64 p0.Op), (49, .bool (p0.Op == 7))] hF (by kernel_rfl) fun fr hF => then_normal ?_)
          refine (wp_if hF (b := (p0.Op == 7)) rfl (fun hb => ?_) (fun hb => ?_))
          · replace h := iteT hb h
            refine (wp_skip (then_normal ?_))
            refine (wp_if hF (b := (p0.Op == 7)) rfl (fun hb => ?_) (fun hb => ?_))
            · replace h := iteT hb h
              obtain ⟨x20, hx20, h⟩ := bindE h
              obtain ⟨x21, hx21, h⟩ := bindE h
              refine wp_seq (region_b [] [true, false, false, true, true, false, false, true, true]
                  [.eq (.pointer (some ⟨b1, 1, none⟩)), .eq (.int .i64 p0.A), .eq (.bool x20), .eq (.bool x20), .eq (.pointer (some ⟨b1, 2, none⟩)), .eq (.int .i64 p0.B), .eq (.bool x21), .eq (.bool (x20 && x21)), .eq (.bool (x20 && x21))]
                  [(6, .bool (x20 && x21))] mix hF (by kernel_rfl) (by kernel_rfl) (by kernel_rfl) ⟨Pd.mono_eq, Pd.mono_eq, Pd.mono_eq, Pd.mono_eq, trivial⟩ (fun hG => ⟨np_loadBox hG hF ty3 rfl rfl hb1 rfl rfl rfl, np_call [.int .i64 p0.A] hG hF Try.call90 rfl rfl (fun w hC hg => (impl_isReg_ok p0.A hx20).mono fun e w' ⟨v, he, hv, hc⟩ => ⟨v, he, hc, hv⟩), np_loadBox hG hF ty3 rfl rfl hb1 rfl rfl rfl, np_call [.int .i64 p0.B] hG hF Try.call90 rfl rfl (fun w hC hg => (impl_isReg_ok p0.B (iteT hg.2 hx21)).mono fun e w' ⟨v, he, hv, hc⟩ => ⟨v, he, hc, hv⟩), trivial⟩) (by kernel_rfl) fun fr w42 hF hE hc => then_normal ?_)
              have hC := hC.trans hc
              have z42 := hc.size
              obtain rfl := Option.some.inj h
              exact wp_ret (blk_ret (then_ret (ret1 rfl hF rfl ⟨_, rfl, rfl, hC⟩)))
            · replace h := iteF hb h
              refine wp_seq ?_
              refine wp_seq (wp_pure [(3, .pointer (some ⟨b1, 0, none⟩)), (7, .bool ((decide (p0.B ≥ 0)) && (decide (p0.B ≤ p2)))), (37, .int .i64 p0.Op), (61, .bool (p0.Op == 4))] hF (by kernel_rfl) fun fr hF => then_normal ?_)
              refine (wp_if hF (b := (p0.Op == 4)) rfl (fun hb => ?_) (fun hb => ?_))
              · replace h := iteT hb h
                refine (wp_skip (then_normal ?_))
                refine (wp_if hF (b := (p0.Op == 4)) rfl (fun hb => ?_) (fun hb => ?_))
                · replace h := iteT hb h
                  obtain ⟨x22, hx22, h⟩ := bindE h
                  refine wp_seq (region_b [] [true, false, false, true, true, false, true, true, true]
                      [.eq (.pointer (some ⟨b1, 1, none⟩)), .eq (.int .i64 p0.A), .eq (.bool x22), .eq (.bool x22), .eq (.pointer (some ⟨b1, 2, none⟩)), .eq (.int .i64 p0.B), .eq (.bool (p0.B == 0)), .eq (.bool (x22 && (p0.B == 0))), .eq (.bool (x22 && (p0.B == 0)))]
                      [(6, .bool (x22 && (p0.B == 0)))] mix hF (by kernel_rfl) (by kernel_rfl) (by kernel_rfl) ⟨Pd.mono_eq, Pd.mono_eq, Pd.mono_eq, trivial⟩ (fun hG => ⟨np_loadBox hG hF ty3 rfl rfl hb1 rfl rfl rfl, np_call [.int .i64 p0.A] hG hF Try.call90 rfl rfl (fun w hC hg => (impl_isReg_ok p0.A hx22).mono fun e w' ⟨v, he, hv, hc⟩ => ⟨v, he, hc, hv⟩), np_loadBox hG hF ty3 rfl rfl hb1 rfl rfl rfl, trivial⟩) (by kernel_rfl) fun fr w43 hF hE hc => then_normal ?_)
                  have hC := hC.trans hc
                  have z43 := hc.size
                  obtain rfl := Option.some.inj h
                  exact wp_ret (blk_ret (then_ret (ret1 rfl hF rfl ⟨_, rfl, rfl, hC⟩)))
                · replace h := iteF hb h
                  refine wp_seq ?_
                  refine wp_seq (wp_pure [(3, .pointer (some ⟨b1, 0, none⟩)), (7, .bool ((decide (p0.B ≥ 0)) && (decide (p0.B ≤ p2)))), (37, .int .i64 p0.Op), (74, .bool (p0.Op == 9))] hF (by kernel_rfl) fun fr hF => then_normal ?_)
                  refine (wp_if hF (b := (p0.Op == 9)) rfl (fun hb => ?_) (fun hb => ?_))
                  · replace h := iteT hb h
                    refine (wp_skip (then_normal ?_))
                    refine (wp_if hF (b := (p0.Op == 9)) rfl (fun hb => ?_) (fun hb => ?_))
                    · replace h := iteT hb h
                      refine wp_seq (region_b [] [true, false, true, true, true, true, true]
                          [.eq (.pointer (some ⟨b1, 1, none⟩)), .eq (.int .i64 p0.A), .eq (.bool (p0.A == 0)), .eq (.bool (p0.A == 0)), .eq (.bool ((decide (p0.B ≥ 0)) && (decide (p0.B ≤ p2)))), .eq (.bool ((p0.A == 0) && ((decide (p0.B ≥ 0)) && (decide (p0.B ≤ p2))))), .eq (.bool ((p0.A == 0) && ((decide (p0.B ≥ 0)) && (decide (p0.B ≤ p2)))))]
                          [(6, .bool ((p0.A == 0) && ((decide (p0.B ≥ 0)) && (decide (p0.B ≤ p2)))))] mix hF (by kernel_rfl) (by kernel_rfl) (by kernel_rfl) ⟨Pd.mono_eq, trivial⟩ (fun hG => ⟨np_loadBox hG hF ty3 rfl rfl hb1 rfl rfl rfl, trivial⟩) (by kernel_rfl) fun fr w44 hF hE hc => then_normal ?_)
                      have hC := hC.trans hc
                      have z44 := hc.size
                      obtain rfl := Option.some.inj h
                      exact wp_ret (blk_ret (then_ret (ret1 rfl hF rfl ⟨_, rfl, rfl, hC⟩)))
                    · replace h := iteF hb h
                      refine wp_seq (wp_pure [(3, .pointer (some ⟨b1, 0, none⟩)), (7, .bool ((decide (p0.B ≥ 0)) && (decide (p0.B ≤ p2)))), (37, .int .i64 p0.Op), (83, .bool (p0.Op == 10))] hF (by kernel_rfl) fun fr hF => then_normal ?_)
                      refine (wp_if hF (b := (p0.Op == 10)) rfl (fun hb => ?_) (fun hb => ?_))
                      · replace h := iteT hb h
                        obtain ⟨x23, hx23, h⟩ := bindE h
                        refine wp_seq (region_b [] [true, false, false, true, true, true, true]
                            [.eq (.pointer (some ⟨b1, 1, none⟩)), .eq (.int .i64 p0.A), .eq (.bool x23), .eq (.bool x23), .eq (.bool ((decide (p0.B ≥ 0)) && (decide (p0.B ≤ p2)))), .eq (.bool (x23 && ((decide (p0.B ≥ 0)) && (decide (p0.B ≤ p2))))), .eq (.bool (x23 && ((decide (p0.B ≥ 0)) && (decide (p0.B ≤ p2)))))]
                            [(6, .bool (x23 && ((decide (p0.B ≥ 0)) && (decide (p0.B ≤ p2)))))] mix hF (by kernel_rfl) (by kernel_rfl) (by kernel_rfl) ⟨Pd.mono_eq, Pd.mono_eq, trivial⟩ (fun hG => ⟨np_loadBox hG hF ty3 rfl rfl hb1 rfl rfl rfl, np_call [.int .i64 p0.A] hG hF Try.call90 rfl rfl (fun w hC hg => (impl_isReg_ok p0.A hx23).mono fun e w' ⟨v, he, hv, hc⟩ => ⟨v, he, hc, hv⟩), trivial⟩) (by kernel_rfl) fun fr w45 hF hE hc => then_normal ?_)
                        have hC := hC.trans hc
                        have z45 := hc.size
                        obtain rfl := Option.some.inj h
                        exact wp_ret (blk_ret (then_ret (ret1 rfl hF rfl ⟨_, rfl, rfl, hC⟩)))
                      · replace h := iteF hb h
                        refine wp_seq ?_
                        refine wp_seq (wp_pure [(3, .pointer (some ⟨b1, 0, none⟩)), (37, .int .i64 p0.Op), (91, .bool (p0.Op == 12))] hF (by kernel_rfl) fun fr hF => then_normal ?_)
                        refine (wp_if hF (b := (p0.Op == 12)) rfl (fun hb => ?_) (fun hb => ?_))
                        · replace h := iteT hb h
                          refine (wp_skip (then_normal ?_))
                          refine (wp_if hF (b := (p0.Op == 12)) rfl (fun hb => ?_) (fun hb => ?_))
                          · replace h := iteT hb h
                            refine wp_seq (region_b [] [true, false, true, true, true, false, true, true, true]
                                [.eq (.pointer (some ⟨b1, 1, none⟩)), .eq (.int .i64 p0.A), .eq (.bool (p0.A == 0)), .eq (.bool (p0.A == 0)), .eq (.pointer (some ⟨b1, 2, none⟩)), .eq (.int .i64 p0.B), .eq (.bool (p0.B == 0)), .eq (.bool ((p0.A == 0) && (p0.B == 0))), .eq (.bool ((p0.A == 0) && (p0.B == 0)))]
                                [(6, .bool ((p0.A == 0) && (p0.B == 0)))] mix hF (by kernel_rfl) (by kernel_rfl) (by kernel_rfl) ⟨Pd.mono_eq, Pd.mono_eq, trivial⟩ (fun hG => ⟨np_loadBox hG hF ty3 rfl rfl hb1 rfl rfl rfl, np_loadBox hG hF ty3 rfl rfl hb1 rfl rfl rfl, trivial⟩) (by kernel_rfl) fun fr w46 hF hE hc => then_normal ?_)
                            have hC := hC.trans hc
                            have z46 := hc.size
                            obtain rfl := Option.some.inj h
                            exact wp_ret (blk_ret (then_ret (ret1 rfl hF rfl ⟨_, rfl, rfl, hC⟩)))
                          · replace h := iteF hb h
                            refine (wp_skip ?_)
                            refine blk_normal (then_normal ?_)
                            refine wp_seq (wp_pure [(6, .bool false)] hF (by kernel_rfl) fun fr hF => then_normal ?_)
                            obtain rfl := Option.some.inj h
                            exact wp_ret (ret1 rfl hF rfl ⟨_, rfl, rfl, hC⟩)
                        · replace h := iteF hb h
                          refine (wp_pure [(3, .pointer (some ⟨b1, 0, none⟩)), (91, .bool (p0.Op == 14))] hF (by kernel_rfl) fun fr hF => then_normal ?_)
                          refine (wp_if hF (b := (p0.Op == 14)) rfl (fun hb => ?_) (fun hb => ?_))
                          · replace h := iteT hb h
                            refine wp_seq (region_b [] [true, false, true, true, true, false, true, true, true]
                                [.eq (.pointer (some ⟨b1, 1, none⟩)), .eq (.int .i64 p0.A), .eq (.bool (p0.A == 0)), .eq (.bool (p0.A == 0)), .eq (.pointer (some ⟨b1, 2, none⟩)), .eq (.int .i64 p0.B), .eq (.bool (p0.B == 0)), .eq (.bool ((p0.A == 0) && (p0.B == 0))), .eq (.bool ((p0.A == 0) && (p0.B == 0)))]
                                [(6, .bool ((p0.A == 0) && (p0.B == 0)))] mix hF (by kernel_rfl) (by kernel_rfl) (by kernel_rfl) ⟨Pd.mono_eq, Pd.mono_eq, trivial⟩ (fun hG => ⟨np_loadBox hG hF ty3 rfl rfl hb1 rfl rfl rfl, np_loadBox hG hF ty3 rfl rfl hb1 rfl rfl rfl, trivial⟩) (by kernel_rfl) fun fr w47 hF hE hc => then_normal ?_)
                            have hC := hC.trans hc
                            have z47 := hc.size
                            obtain rfl := Option.some.inj h
                            exact wp_ret (blk_ret (then_ret (ret1 rfl hF rfl ⟨_, rfl, rfl, hC⟩)))
                          · replace h := iteF hb h
                            refine (wp_skip ?_)
                            refine blk_normal (then_normal ?_)
                            refine wp_seq (wp_pure [(6, .bool false)] hF (by kernel_rfl) fun fr hF => then_normal ?_)
                            obtain rfl := Option.some.inj h
                            exact wp_ret (ret1 rfl hF rfl ⟨_, rfl, rfl, hC⟩)
                  · replace h := iteF hb h
                    refine (wp_pure [(3, .pointer (some ⟨b1, 0, none⟩)), (7, .bool ((decide (p0.B ≥ 0)) && (decide (p0.B ≤ p2)))), (37, .int .i64 p0.Op), (74, .bool (p0.Op == 11))] hF (by kernel_rfl) fun fr hF => then_normal ?_)
                    refine (wp_if hF (b := (p0.Op == 11)) rfl (fun hb => ?_) (fun hb => ?_))
                    · replace h := iteT hb h
                      refine wp_seq (region_b [] [true, false, true, true, true, true, true]
                          [.eq (.pointer (some ⟨b1, 1, none⟩)), .eq (.int .i64 p0.A), .eq (.bool (p0.A == 0)), .eq (.bool (p0.A == 0)), .eq (.bool ((decide (p0.B ≥ 0)) && (decide (p0.B ≤ p2)))), .eq (.bool ((p0.A == 0) && ((decide (p0.B ≥ 0)) && (decide (p0.B ≤ p2))))), .eq (.bool ((p0.A == 0) && ((decide (p0.B ≥ 0)) && (decide (p0.B ≤ p2)))))]
                          [(6, .bool ((p0.A == 0) && ((decide (p0.B ≥ 0)) && (decide (p0.B ≤ p2)))))] mix hF (by kernel_rfl) (by kernel_rfl) (by kernel_rfl) ⟨Pd.mono_eq, trivial⟩ (fun hG => ⟨np_loadBox hG hF ty3 rfl rfl hb1 rfl rfl rfl, trivial⟩) (by kernel_rfl) fun fr w48 hF hE hc => then_normal ?_)
                      have hC := hC.trans hc
                      have z48 := hc.size
                      obtain rfl := Option.some.inj h
                      exact wp_ret (blk_ret (then_ret (ret1 rfl hF rfl ⟨_, rfl, rfl, hC⟩)))
                    · replace h := iteF hb h
                      refine wp_seq (wp_pure [(3, .pointer (some ⟨b1, 0, none⟩)), (7, .bool ((decide (p0.B ≥ 0)) && (decide (p0.B ≤ p2)))), (37, .int .i64 p0.Op), (83, .bool (p0.Op == 10))] hF (by kernel_rfl) fun fr hF => then_normal ?_)
                      refine (wp_if hF (b := (p0.Op == 10)) rfl (fun hb => ?_) (fun hb => ?_))
                      · replace h := iteT hb h
                        obtain ⟨x24, hx24, h⟩ := bindE h
                        refine wp_seq (region_b [] [true, false, false, true, true, true, true]
                            [.eq (.pointer (some ⟨b1, 1, none⟩)), .eq (.int .i64 p0.A), .eq (.bool x24), .eq (.bool x24), .eq (.bool ((decide (p0.B ≥ 0)) && (decide (p0.B ≤ p2)))), .eq (.bool (x24 && ((decide (p0.B ≥ 0)) && (decide (p0.B ≤ p2))))), .eq (.bool (x24 && ((decide (p0.B ≥ 0)) && (decide (p0.B ≤ p2)))))]
                            [(6, .bool (x24 && ((decide (p0.B ≥ 0)) && (decide (p0.B ≤ p2)))))] mix hF (by kernel_rfl) (by kernel_rfl) (by kernel_rfl) ⟨Pd.mono_eq, Pd.mono_eq, trivial⟩ (fun hG => ⟨np_loadBox hG hF ty3 rfl rfl hb1 rfl rfl rfl, np_call [.int .i64 p0.A] hG hF Try.call90 rfl rfl (fun w hC hg => (impl_isReg_ok p0.A hx24).mono fun e w' ⟨v, he, hv, hc⟩ => ⟨v, he, hc, hv⟩), trivial⟩) (by kernel_rfl) fun fr w49 hF hE hc => then_normal ?_)
                        have hC := hC.trans hc
                        have z49 := hc.size
                        obtain rfl := Option.some.inj h
                        exact wp_ret (blk_ret (then_ret (ret1 rfl hF rfl ⟨_, rfl, rfl, hC⟩)))
                      · replace h := iteF hb h
                        refine wp_seq ?_
                        refine wp_seq (wp_pure [(3, .pointer (some ⟨b1, 0, none⟩)), (37, .int .i64 p0.Op), (91, .bool (p0.Op == 12))] hF (by kernel_rfl) fun fr hF => then_normal ?_)
                        refine (wp_if hF (b := (p0.Op == 12)) rfl (fun hb => ?_) (fun hb => ?_))
                        · replace h := iteT hb h
                          refine (wp_skip (then_normal ?_))
                          refine (wp_if hF (b := (p0.Op == 12)) rfl (fun hb => ?_) (fun hb => ?_))
                          · replace h := iteT hb h
                            refine wp_seq (region_b [] [true, false, true, true, true, false, true, true, true]
                                [.eq (.pointer (some ⟨b1, 1, none⟩)), .eq (.int .i64 p0.A), .eq (.bool (p0.A == 0)), .eq (.bool (p0.A == 0)), .eq (.pointer (some ⟨b1, 2, none⟩)), .eq (.int .i64 p0.B), .eq (.bool (p0.B == 0)), .eq (.bool ((p0.A == 0) && (p0.B == 0))), .eq (.bool ((p0.A == 0) && (p0.B == 0)))]
                                [(6, .bool ((p0.A == 0) && (p0.B == 0)))] mix hF (by kernel_rfl) (by kernel_rfl) (by kernel_rfl) ⟨Pd.mono_eq, Pd.mono_eq, trivial⟩ (fun hG => ⟨np_loadBox hG hF ty3 rfl rfl hb1 rfl rfl rfl, np_loadBox hG hF ty3 rfl rfl hb1 rfl rfl rfl, trivial⟩) (by kernel_rfl) fun fr w50 hF hE hc => then_normal ?_)
                            have hC := hC.trans hc
                            have z50 := hc.size
                            obtain rfl := Option.some.inj h
                            exact wp_ret (blk_ret (then_ret (ret1 rfl hF rfl ⟨_, rfl, rfl, hC⟩)))
                          · replace h := iteF hb h
                            refine (wp_skip ?_)
                            refine blk_normal (then_normal ?_)
                            refine wp_seq (wp_pure [(6, .bool false)] hF (by kernel_rfl) fun fr hF => then_normal ?_)
                            obtain rfl := Option.some.inj h
                            exact wp_ret (ret1 rfl hF rfl ⟨_, rfl, rfl, hC⟩)
                        · replace h := iteF hb h
                          refine (wp_pure [(3, .pointer (some ⟨b1, 0, none⟩)), (91, .bool (p0.Op == 14))] hF (by kernel_rfl) fun fr hF => then_normal ?_)
                          refine (wp_if hF (b := (p0.Op == 14)) rfl (fun hb => ?_) (fun hb => ?_))
                          · replace h := iteT hb h
                            refine wp_seq (region_b [] [true, false, true, true, true, false, true, true, true]
                                [.eq (.pointer (some ⟨b1, 1, none⟩)), .eq (.int .i64 p0.A), .eq (.bool (p0.A == 0)), .eq (.bool (p0.A == 0)), .eq (.pointer (some ⟨b1, 2, none⟩)), .eq (.int .i64 p0.B), .eq (.bool (p0.B == 0)), .eq (.bool ((p0.A == 0) && (p0.B == 0))), .eq (.bool ((p0.A == 0) && (p0.B == 0)))]
                                [(6, .bool ((p0.A == 0) && (p0.B == 0)))] mix hF (by kernel_rfl) (by kernel_rfl) (by kernel_rfl) ⟨Pd.mono_eq, Pd.mono_eq, trivial⟩ (fun hG => ⟨np_loadBox hG hF ty3 rfl rfl hb1 rfl rfl rfl, np_loadBox hG hF ty3 rfl rfl hb1 rfl rfl rfl, trivial⟩) (by kernel_rfl) fun fr w51 hF hE hc => then_normal ?_)
                            have hC := hC.trans hc
                            have z51 := hc.size
                            obtain rfl := Option.some.inj h
                            exact wp_ret (blk_ret (then_ret (ret1 rfl hF rfl ⟨_, rfl, rfl, hC⟩)))
                          · replace h := iteF hb h
                            refine (wp_skip ?_)
                            refine blk_normal (then_normal ?_)
                            refine wp_seq (wp_pure [(6, .bool false)] hF (by kernel_rfl) fun fr hF => then_normal ?_)
                            obtain rfl := Option.some.inj h
                            exact wp_ret (ret1 rfl hF rfl ⟨_, rfl, rfl, hC⟩)
              · replace h := iteF hb h
                refine wp_seq (wp_pure [(3, .pointer (some ⟨b1, 0, none⟩)), (7, .bool ((decide (p0.B ≥ 0)) && (decide (p0.B ≤ p2)))), (37, .int .i64 p0.Op), (61, .bool (p0.Op == 5))] hF (by kernel_rfl) fun fr hF => then_normal ?_)
                refine (wp_if hF (b := (p0.Op == 5)) rfl (fun hb => ?_) (fun hb => ?_))
                · replace h := iteT hb h
                  refine (wp_skip (then_normal ?_))
                  refine (wp_if hF (b := (p0.Op == 5)) rfl (fun hb => ?_) (fun hb => ?_))
                  · replace h := iteT hb h
                    obtain ⟨x25, hx25, h⟩ := bindE h
                    refine wp_seq (region_b [] [true, false, false, true, true, false, true, true, true]
                        [.eq (.pointer (some ⟨b1, 1, none⟩)), .eq (.int .i64 p0.A), .eq (.bool x25), .eq (.bool x25), .eq (.pointer (some ⟨b1, 2, none⟩)), .eq (.int .i64 p0.B), .eq (.bool (p0.B == 0)), .eq (.bool (x25 && (p0.B == 0))), .eq (.bool (x25 && (p0.B == 0)))]
                        [(6, .bool (x25 && (p0.B == 0)))] mix hF (by kernel_rfl) (by kernel_rfl) (by kernel_rfl) ⟨Pd.mono_eq, Pd.mono_eq, Pd.mono_eq, trivial⟩ (fun hG => ⟨np_loadBox hG hF ty3 rfl rfl hb1 rfl rfl rfl, np_call [.int .i64 p0.A] hG hF Try.call90 rfl rfl (fun w hC hg => (impl_isReg_ok p0.A hx25).mono fun e w' ⟨v, he, hv, hc⟩ => ⟨v, he, hc, hv⟩), np_loadBox hG hF ty3 rfl rfl hb1 rfl rfl rfl, trivial⟩) (by kernel_rfl) fun fr w52 hF hE hc => then_normal ?_)
                    have hC := hC.trans hc
                    have z52 := hc.size
                    obtain rfl := Option.some.inj h
                    exact wp_ret (blk_ret (then_ret (ret1 rfl hF rfl ⟨_, rfl, rfl, hC⟩)))
                  · replace h := iteF hb h
                    refine wp_seq ?_
                    refine wp_seq (wp_pure [(3, .pointer (some ⟨b1, 0, none⟩)), (7, .bool ((decide (p0.B ≥ 0)) && (decide (p0.B ≤ p2)))), (37, .int .i64 p0.Op), (74, .bool (p0.Op == 9))] hF (by kernel_rfl) fun fr hF => then_normal ?_)
                    refine (wp_if hF (b := (p0.Op == 9)) rfl (fun hb => ?_) (fun hb => ?_))
                    · replace h := iteT hb h
                      refine (wp_skip (then_normal ?_))
                      refine (wp_if hF (b := (p0.Op == 9)) rfl (fun hb => ?_) (fun hb => ?_))
                      · replace h := iteT hb h
                        refine wp_seq (region_b [] [true, false, true, true, true, true, true]
                            [.eq (.pointer (some ⟨b1, 1, none⟩)), .eq (.int .i64 p0.A), .eq (.bool (p0.A == 0)), .eq (.bool (p0.A == 0)), .eq (.bool ((decide (p0.B ≥ 0)) && (decide (p0.B ≤ p2)))), .eq (.bool ((p0.A == 0) && ((decide (p0.B ≥ 0)) && (decide (p0.B ≤ p2))))), .eq (.bool ((p0.A == 0) && ((decide (p0.B ≥ 0)) && (decide (p0.B ≤ p2)))))]
                            [(6, .bool ((p0.A == 0) && ((decide (p0.B ≥ 0)) && (decide (p0.B ≤ p2)))))] mix hF (by kernel_rfl) (by kernel_rfl) (by kernel_rfl) ⟨Pd.mono_eq, trivial⟩ (fun hG => ⟨np_loadBox hG hF ty3 rfl rfl hb1 rfl rfl rfl, trivial⟩) (by kernel_rfl) fun fr w53 hF hE hc => then_normal ?_)
                        have hC := hC.trans hc
                        have z53 := hc.size
                        obtain rfl := Option.some.inj h
                        exact wp_ret (blk_ret (then_ret (ret1 rfl hF rfl ⟨_, rfl, rfl, hC⟩)))
                      · replace h := iteF hb h
                        refine wp_seq (wp_pure [(3, .pointer (some ⟨b1, 0, none⟩)), (7, .bool ((decide (p0.B ≥ 0)) && (decide (p0.B ≤ p2)))), (37, .int .i64 p0.Op), (83, .bool (p0.Op == 10))] hF (by kernel_rfl) fun fr hF => then_normal ?_)
                        refine (wp_if hF (b := (p0.Op == 10)) rfl (fun hb => ?_) (fun hb => ?_))
                        · replace h := iteT hb h
                          obtain ⟨x26, hx26, h⟩ := bindE h
                          refine wp_seq (region_b [] [true, false, false, true, true, true, true]
                              [.eq (.pointer (some ⟨b1, 1, none⟩)), .eq (.int .i64 p0.A), .eq (.bool x26), .eq (.bool x26), .eq (.bool ((decide (p0.B ≥ 0)) && (decide (p0.B ≤ p2)))), .eq (.bool (x26 && ((decide (p0.B ≥ 0)) && (decide (p0.B ≤ p2))))), .eq (.bool (x26 && ((decide (p0.B ≥ 0)) && (decide (p0.B ≤ p2)))))]
                              [(6, .bool (x26 && ((decide (p0.B ≥ 0)) && (decide (p0.B ≤ p2)))))] mix hF (by kernel_rfl) (by kernel_rfl) (by kernel_rfl) ⟨Pd.mono_eq, Pd.mono_eq, trivial⟩ (fun hG => ⟨np_loadBox hG hF ty3 rfl rfl hb1 rfl rfl rfl, np_call [.int .i64 p0.A] hG hF Try.call90 rfl rfl (fun w hC hg => (impl_isReg_ok p0.A hx26).mono fun e w' ⟨v, he, hv, hc⟩ => ⟨v, he, hc, hv⟩), trivial⟩) (by kernel_rfl) fun fr w54 hF hE hc => then_normal ?_)
                          have hC := hC.trans hc
                          have z54 := hc.size
                          obtain rfl := Option.some.inj h
                          exact wp_ret (blk_ret (then_ret (ret1 rfl hF rfl ⟨_, rfl, rfl, hC⟩)))
                        · replace h := iteF hb h
                          refine wp_seq ?_
                          refine wp_seq (wp_pure [(3, .pointer (some ⟨b1, 0, none⟩)), (37, .int .i64 p0.Op), (91, .bool (p0.Op == 12))] hF (by kernel_rfl) fun fr hF => then_normal ?_)
                          refine (wp_if hF (b := (p0.Op == 12)) rfl (fun hb => ?_) (fun hb => ?_))
                          · replace h := iteT hb h
                            refine (wp_skip (then_normal ?_))
                            refine (wp_if hF (b := (p0.Op == 12)) rfl (fun hb => ?_) (fun hb => ?_))
                            · replace h := iteT hb h
                              refine wp_seq (region_b [] [true, false, true, true, true, false, true, true, true]
                                  [.eq (.pointer (some ⟨b1, 1, none⟩)), .eq (.int .i64 p0.A), .eq (.bool (p0.A == 0)), .eq (.bool (p0.A == 0)), .eq (.pointer (some ⟨b1, 2, none⟩)), .eq (.int .i64 p0.B), .eq (.bool (p0.B == 0)), .eq (.bool ((p0.A == 0) && (p0.B == 0))), .eq (.bool ((p0.A == 0) && (p0.B == 0)))]
                                  [(6, .bool ((p0.A == 0) && (p0.B == 0)))] mix hF (by kernel_rfl) (by kernel_rfl) (by kernel_rfl) ⟨Pd.mono_eq, Pd.mono_eq, trivial⟩ (fun hG => ⟨np_loadBox hG hF ty3 rfl rfl hb1 rfl rfl rfl, np_loadBox hG hF ty3 rfl rfl hb1 rfl rfl rfl, trivial⟩) (by kernel_rfl) fun fr w55 hF hE hc => then_normal ?_)
                              have hC := hC.trans hc
                              have z55 := hc.size
                              obtain rfl := Option.some.inj h
                              exact wp_ret (blk_ret (then_ret (ret1 rfl hF rfl ⟨_, rfl, rfl, hC⟩)))
                            · replace h := iteF hb h
                              refine (wp_skip ?_)
                              refine blk_normal (then_normal ?_)
                              refine wp_seq (wp_pure [(6, .bool false)] hF (by kernel_rfl) fun fr hF => then_normal ?_)
                              obtain rfl := Option.some.inj h
                              exact wp_ret (ret1 rfl hF rfl ⟨_, rfl, rfl, hC⟩)
                          · replace h := iteF hb h
                            refine (wp_pure [(3, .pointer (some ⟨b1, 0, none⟩)), (91, .bool (p0.Op == 14))] hF (by kernel_rfl) fun fr hF => then_normal ?_)
                            refine (wp_if hF (b := (p0.Op == 14)) rfl (fun hb => ?_) (fun hb => ?_))
                            · replace h := iteT hb h
                              refine wp_seq (region_b [] [true, false, true, true, true, false, true, true, true]
                                  [.eq (.pointer (some ⟨b1, 1, none⟩)), .eq (.int .i64 p0.A), .eq (.bool (p0.A == 0)), .eq (.bool (p0.A == 0)), .eq (.pointer (some ⟨b1, 2, none⟩)), .eq (.int .i64 p0.B), .eq (.bool (p0.B == 0)), .eq (.bool ((p0.A == 0) && (p0.B == 0))), .eq (.bool ((p0.A == 0) && (p0.B == 0)))]
                                  [(6, .bool ((p0.A == 0) && (p0.B == 0)))] mix hF (by kernel_rfl) (by kernel_rfl) (by kernel_rfl) ⟨Pd.mono_eq, Pd.mono_eq, trivial⟩ (fun hG => ⟨np_loadBox hG hF ty3 rfl rfl hb1 rfl rfl rfl, np_loadBox hG hF ty3 rfl rfl hb1 rfl rfl rfl, trivial⟩) (by kernel_rfl) fun fr w56 hF hE hc => then_normal ?_)
                              have hC := hC.trans hc
                              have z56 := hc.size
                              obtain rfl := Option.some.inj h
                              exact wp_ret (blk_ret (then_ret (ret1 rfl hF rfl ⟨_, rfl, rfl, hC⟩)))
                            · replace h := iteF hb h
                              refine (wp_skip ?_)
                              refine blk_normal (then_normal ?_)
                              refine wp_seq (wp_pure [(6, .bool false)] hF (by kernel_rfl) fun fr hF => then_normal ?_)
                              obtain rfl := Option.some.inj h
                              exact wp_ret (ret1 rfl hF rfl ⟨_, rfl, rfl, hC⟩)
                    · replace h := iteF hb h
                      refine (wp_pure [(3, .pointer (some ⟨b1, 0, none⟩)), (7, .bool ((decide (p0.B ≥ 0)) && (decide (p0.B ≤ p2)))), (37, .int .i64 p0.Op), (74, .bool (p0.Op == 11))] hF (by kernel_rfl) fun fr hF => then_normal ?_)
                      refine (wp_if hF (b := (p0.Op == 11)) rfl (fun hb => ?_) (fun hb => ?_))
                      · replace h := iteT hb h
                        refine wp_seq (region_b [] [true, false, true, true, true, true, true]
                            [.eq (.pointer (some ⟨b1, 1, none⟩)), .eq (.int .i64 p0.A), .eq (.bool (p0.A == 0)), .eq (.bool (p0.A == 0)), .eq (.bool ((decide (p0.B ≥ 0)) && (decide (p0.B ≤ p2)))), .eq (.bool ((p0.A == 0) && ((decide (p0.B ≥ 0)) && (decide (p0.B ≤ p2))))), .eq (.bool ((p0.A == 0) && ((decide (p0.B ≥ 0)) && (decide (p0.B ≤ p2)))))]
                            [(6, .bool ((p0.A == 0) && ((decide (p0.B ≥ 0)) && (decide (p0.B ≤ p2)))))] mix hF (by kernel_rfl) (by kernel_rfl) (by kernel_rfl) ⟨Pd.mono_eq, trivial⟩ (fun hG => ⟨np_loadBox hG hF ty3 rfl rfl hb1 rfl rfl rfl, trivial⟩) (by kernel_rfl) fun fr w57 hF hE hc => then_normal ?_)
                        have hC := hC.trans hc
                        have z57 := hc.size
                        obtain rfl := Option.some.inj h
                        exact wp_ret (blk_ret (then_ret (ret1 rfl hF rfl ⟨_, rfl, rfl, hC⟩)))
                      · replace h := iteF hb h
                        refine wp_seq (wp_pure [(3, .pointer (some ⟨b1, 0, none⟩)), (7, .bool ((decide (p0.B ≥ 0)) && (decide (p0.B ≤ p2)))), (37, .int .i64 p0.Op), (83, .bool (p0.Op == 10))] hF (by kernel_rfl) fun fr hF => then_normal ?_)
                        refine (wp_if hF (b := (p0.Op == 10)) rfl (fun hb => ?_) (fun hb => ?_))
                        · replace h := iteT hb h
                          obtain ⟨x27, hx27, h⟩ := bindE h
                          refine wp_seq (region_b [] [true, false, false, true, true, true, true]
                              [.eq (.pointer (some ⟨b1, 1, none⟩)), .eq (.int .i64 p0.A), .eq (.bool x27), .eq (.bool x27), .eq (.bool ((decide (p0.B ≥ 0)) && (decide (p0.B ≤ p2)))), .eq (.bool (x27 && ((decide (p0.B ≥ 0)) && (decide (p0.B ≤ p2))))), .eq (.bool (x27 && ((decide (p0.B ≥ 0)) && (decide (p0.B ≤ p2)))))]
                              [(6, .bool (x27 && ((decide (p0.B ≥ 0)) && (decide (p0.B ≤ p2)))))] mix hF (by kernel_rfl) (by kernel_rfl) (by kernel_rfl) ⟨Pd.mono_eq, Pd.mono_eq, trivial⟩ (fun hG => ⟨np_loadBox hG hF ty3 rfl rfl hb1 rfl rfl rfl, np_call [.int .i64 p0.A] hG hF Try.call90 rfl rfl (fun w hC hg => (impl_isReg_ok p0.A hx27).mono fun e w' ⟨v, he, hv, hc⟩ => ⟨v, he, hc, hv⟩), trivial⟩) (by kernel_rfl) fun fr w58 hF hE hc => then_normal ?_)
                          have hC := hC.trans hc
                          have z58 := hc.size
                          obtain rfl := Option.some.inj h
                          exact wp_ret (blk_ret (then_ret (ret1 rfl hF rfl ⟨_, rfl, rfl, hC⟩)))
                        · replace h := iteF hb h
                          refine wp_seq ?_
                          refine wp_seq (wp_pure [(3, .pointer (some ⟨b1, 0, none⟩)), (37, .int .i64 p0.Op), (91, .bool (p0.Op == 12))] hF (by kernel_rfl) fun fr hF => then_normal ?_)
                          refine (wp_if hF (b := (p0.Op == 12)) rfl (fun hb => ?_) (fun hb => ?_))
                          · replace h := iteT hb h
                            refine (wp_skip (then_normal ?_))
                            refine (wp_if hF (b := (p0.Op == 12)) rfl (fun hb => ?_) (fun hb => ?_))
                            · replace h := iteT hb h
                              refine wp_seq (region_b [] [true, false, true, true, true, false, true, true, true]
                                  [.eq (.pointer (some ⟨b1, 1, none⟩)), .eq (.int .i64 p0.A), .eq (.bool (p0.A == 0)), .eq (.bool (p0.A == 0)), .eq (.pointer (some ⟨b1, 2, none⟩)), .eq (.int .i64 p0.B), .eq (.bool (p0.B == 0)), .eq (.bool ((p0.A == 0) && (p0.B == 0))), .eq (.bool ((p0.A == 0) && (p0.B == 0)))]
                                  [(6, .bool ((p0.A == 0) && (p0.B == 0)))] mix hF (by kernel_rfl) (by kernel_rfl) (by kernel_rfl) ⟨Pd.mono_eq, Pd.mono_eq, trivial⟩ (fun hG => ⟨np_loadBox hG hF ty3 rfl rfl hb1 rfl rfl rfl, np_loadBox hG hF ty3 rfl rfl hb1 rfl rfl rfl, trivial⟩) (by kernel_rfl) fun fr w59 hF hE hc => then_normal ?_)
                              have hC := hC.trans hc
                              have z59 := hc.size
                              obtain rfl := Option.some.inj h
                              exact wp_ret (blk_ret (then_ret (ret1 rfl hF rfl ⟨_, rfl, rfl, hC⟩)))
                            · replace h := iteF hb h
                              refine (wp_skip ?_)
                              refine blk_normal (then_normal ?_)
                              refine wp_seq (wp_pure [(6, .bool false)] hF (by kernel_rfl) fun fr hF => then_normal ?_)
                              obtain rfl := Option.some.inj h
                              exact wp_ret (ret1 rfl hF rfl ⟨_, rfl, rfl, hC⟩)
                          · replace h := iteF hb h
                            refine (wp_pure [(3, .pointer (some ⟨b1, 0, none⟩)), (91, .bool (p0.Op == 14))] hF (by kernel_rfl) fun fr hF => then_normal ?_)
                            refine (wp_if hF (b := (p0.Op == 14)) rfl (fun hb => ?_) (fun hb => ?_))
                            · replace h := iteT hb h
                              refine wp_seq (region_b [] [true, false, true, true, true, false, true, true, true]
                                  [.eq (.pointer (some ⟨b1, 1, none⟩)), .eq (.int .i64 p0.A), .eq (.bool (p0.A == 0)), .eq (.bool (p0.A == 0)), .eq (.pointer (some ⟨b1, 2, none⟩)), .eq (.int .i64 p0.B), .eq (.bool (p0.B == 0)), .eq (.bool ((p0.A == 0) && (p0.B == 0))), .eq (.bool ((p0.A == 0) && (p0.B == 0)))]
                                  [(6, .bool ((p0.A == 0) && (p0.B == 0)))] mix hF (by kernel_rfl) (by kernel_rfl) (by kernel_rfl) ⟨Pd.mono_eq, Pd.mono_eq, trivial⟩ (fun hG => ⟨np_loadBox hG hF ty3 rfl rfl hb1 rfl rfl rfl, np_loadBox hG hF ty3 rfl rfl hb1 rfl rfl rfl, trivial⟩) (by kernel_rfl) fun fr w60 hF hE hc => then_normal ?_)
                              have hC := hC.trans hc
                              have z60 := hc.size
                              obtain rfl := Option.some.inj h
                              exact wp_ret (blk_ret (then_ret (ret1 rfl hF rfl ⟨_, rfl, rfl, hC⟩)))
                            · replace h := iteF hb h
                              refine (wp_skip ?_)
                              refine blk_normal (then_normal ?_)
                              refine wp_seq (wp_pure [(6, .bool false)] hF (by kernel_rfl) fun fr hF => then_normal ?_)
                              obtain rfl := Option.some.inj h
                              exact wp_ret (ret1 rfl hF rfl ⟨_, rfl, rfl, hC⟩)
                · replace h := iteF hb h
                  refine wp_seq (wp_pure [(3, .pointer (some ⟨b1, 0, none⟩)), (7, .bool ((decide (p0.B ≥ 0)) && (decide (p0.B ≤ p2)))), (37, .int .i64 p0.Op), (61, .bool (p0.Op == 6))] hF (by kernel_rfl) fun fr hF => then_normal ?_)
                  refine (wp_if hF (b := (p0.Op == 6)) rfl (fun hb => ?_) (fun hb => ?_))
                  · replace h := iteT hb h
                    refine (wp_skip (then_normal ?_))
                    refine (wp_if hF (b := (p0.Op == 6)) rfl (fun hb => ?_) (fun hb => ?_))
                    · replace h := iteT hb h
                      obtain ⟨x28, hx28, h⟩ := bindE h
                      refine wp_seq (region_b [] [true, false, false, true, true, false, true, true, true]
                          [.eq (.pointer (some ⟨b1, 1, none⟩)), .eq (.int .i64 p0.A), .eq (.bool x28), .eq (.bool x28), .eq (.pointer (some ⟨b1, 2, none⟩)), .eq (.int .i64 p0.B), .eq (.bool (p0.B == 0)), .eq (.bool (x28 && (p0.B == 0))), .eq (.bool (x28 && (p0.B == 0)))]
                          [(6, .bool (x28 && (p0.B == 0)))] mix hF (by kernel_rfl) (by kernel_rfl) (by kernel_rfl) ⟨Pd.mono_eq, Pd.mono_eq, Pd.mono_eq, trivial⟩ (fun hG => ⟨np_loadBox hG hF ty3 rfl rfl hb1 rfl rfl rfl, np_call [.int .i64 p0.A] hG hF Try.call90 rfl rfl (fun w hC hg => (impl_isReg_ok p0.A hx28).mono fun e w' ⟨v, he, hv, hc⟩ => ⟨v, he, hc, hv⟩), np_loadBox hG hF ty3 rfl rfl hb1 rfl rfl rfl, trivial⟩) (by kernel_rfl) fun fr w61 hF hE hc => then_normal ?_)
                      have hC := hC.trans hc
                      have z61 := hc.size
                      obtain rfl := Option.some.inj h
                      exact wp_ret (blk_ret (then_ret (ret1 rfl hF rfl ⟨_, rfl, rfl, hC⟩)))
                    · replace h := iteF hb h
                      refine wp_seq ?_
                      refine wp_seq (wp_pure [(3, .pointer (some ⟨b1, 0, none⟩)), (7, .bool ((decide (p0.B ≥ 0)) && (decide (p0.B ≤ p2)))), (37, .int .i64 p0.Op), (74, .bool (p0.Op == 9))] hF (by kernel_rfl) fun fr hF => then_normal ?_)
                      refine (wp_if hF (b := (p0.Op == 9)) rfl (fun hb => ?_) (fun hb => ?_))
                      · replace h := iteT hb h
                        refine (wp_skip (then_normal ?_))
                        refine (wp_if hF (b := (p0.Op == 9)) rfl (fun hb => ?_) (fun hb => ?_))
                        · replace h := iteT hb h
                          refine wp_seq (region_b [] [true, false, true, true, true, true, true]
                              [.eq (.pointer (some ⟨b1, 1, none⟩)), .eq (.int .i64 p0.A), .eq (.bool (p0.A == 0)), .eq (.bool (p0.A == 0)), .eq (.bool ((decide (p0.B ≥ 0)) && (decide (p0.B ≤ p2)))), .eq (.bool ((p0.A == 0) && ((decide (p0.B ≥ 0)) && (decide (p0.B ≤ p2))))), .eq (.bool ((p0.A == 0) && ((decide (p0.B ≥ 0)) && (decide (p0.B ≤ p2)))))]
                              [(6, .bool ((p0.A == 0) && ((decide (p0.B ≥ 0)) && (decide (p0.B ≤ p2)))))] mix hF (by kernel_rfl) (by kernel_rfl) (by kernel_rfl) ⟨Pd.mono_eq, trivial⟩ (fun hG => ⟨np_loadBox hG hF ty3 rfl rfl hb1 rfl rfl rfl, trivial⟩) (by kernel_rfl) fun fr w62 hF hE hc => then_normal ?_)
                          have hC := hC.trans hc
                          have z62 := hc.size
                          obtain rfl := Option.some.inj h
                          exact wp_ret (blk_ret (then_ret (ret1 rfl hF rfl ⟨_, rfl, rfl, hC⟩)))
                        · replace h := iteF hb h
                          refine wp_seq (wp_pure [(3, .pointer (some ⟨b1, 0, none⟩)), (7, .bool ((decide (p0.B ≥ 0)) && (decide (p0.B ≤ p2)))), (37, .int .i64 p0.Op), (83, .bool (p0.Op == 10))] hF (by kernel_rfl) fun fr hF => then_normal ?_)
                          refine (wp_if hF (b := (p0.Op == 10)) rfl (fun hb => ?_) (fun hb => ?_))
                          · replace h := iteT hb h
                            obtain ⟨x29, hx29, h⟩ := bindE h
                            refine wp_seq (region_b [] [true, false, false, true, true, true, true]
                                [.eq (.pointer (some ⟨b1, 1, none⟩)), .eq (.int .i64 p0.A), .eq (.bool x29), .eq (.bool x29), .eq (.bool ((decide (p0.B ≥ 0)) && (decide (p0.B ≤ p2)))), .eq (.bool (x29 && ((decide (p0.B ≥ 0)) && (decide (p0.B ≤ p2))))), .eq (.bool (x29 && ((decide (p0.B ≥ 0)) && (decide (p0.B ≤ p2)))))]
                                [(6, .bool (x29 && ((decide (p0.B ≥ 0)) && (decide (p0.B ≤ p2)))))] mix hF (by kernel_rfl) (by kernel_rfl) (by kernel_rfl) ⟨Pd.mono_eq, Pd.mono_eq, trivial⟩ (fun hG => ⟨np_loadBox hG hF ty3 rfl rfl hb1 rfl rfl rfl, np_call [.int .i64 p0.A] hG hF Try.call90 rfl rfl (fun w hC hg => (impl_isReg_ok p0.A hx29).mono fun e w' ⟨v, he, hv, hc⟩ => ⟨v, he, hc, hv⟩), trivial⟩) (by kernel_rfl) fun fr w63 hF hE hc => then_normal ?_)
                            have hC := hC.trans hc
                            have z63 := hc.size
                            obtain rfl := Option.some.inj h
                            exact wp_ret (blk_ret (then_ret (ret1 rfl hF rfl ⟨_, rfl, rfl, hC⟩)))
                          · replace h := iteF hb h
                            refine wp_seq ?_
                            refine wp_seq (wp_pure [(3, .pointer (some ⟨b1, 0, none⟩)), (37, .int .i64 p0.Op), (91, .bool (p0.Op == 12))] hF (by kernel_rfl) fun fr hF => then_normal ?_)
                            refine (wp_if hF (b := (p0.Op == 12)) rfl (fun hb => ?_) (fun hb => ?_))
                            · replace h := iteT hb h
                              refine (wp_skip (then_normal ?_))
                              refine (wp_if hF (b := (p0.Op == 12)) rfl (fun hb => ?_) (fun hb => ?_))
                              · replace h := iteT hb h
                                refine wp_seq (region_b [] [true, false, true, true, true, false, true, true, true]
                                    [.eq (.pointer (some ⟨b1, 1, none⟩)), .eq (.int .i64 p0.A), .eq (.bool (p0.A == 0)), .eq (.bool (p0.A == 0)), .eq (.pointer (some ⟨b1, 2, none⟩)), .eq (.int .i64 p0.B), .eq (.bool (p0.B == 0)), .eq (.bool ((p0.A == 0) && (p0.B == 0))), .eq (.bool ((p0.A == 0) && (p0.B == 0)))]
                                    [(6, .bool ((p0.A == 0) && (p0.B == 0)))] mix hF (by kernel_rfl) (by kernel_rfl) (by kernel_rfl) ⟨Pd.mono_eq, Pd.mono_eq, trivial⟩ (fun hG => ⟨np_loadBox hG hF ty3 rfl rfl hb1 rfl rfl rfl, np_loadBox hG hF ty3 rfl rfl hb1 rfl rfl rfl, trivial⟩) (by kernel_rfl) fun fr w64 hF hE hc => then_normal ?_)
                                have hC := hC.trans hc
                                have z64 := hc.size
                                obtain rfl := Option.some.inj h
                                exact wp_ret (blk_ret (then_ret (ret1 rfl hF rfl ⟨_, rfl, rfl, hC⟩)))
                              · replace h := iteF hb h
                                refine (wp_skip ?_)
                                refine blk_normal (then_normal ?_)
                                refine wp_seq (wp_pure [(6, .bool false)] hF (by kernel_rfl) fun fr hF => then_normal ?_)
                                obtain rfl := Option.some.inj h
                                exact wp_ret (ret1 rfl hF rfl ⟨_, rfl, rfl, hC⟩)
                            · replace h := iteF hb h
                              refine (wp_pure [(3, .pointer (some ⟨b1, 0, none⟩)), (91, .bool (p0.Op == 14))] hF (by kernel_rfl) fun fr hF => then_normal ?_)
                              refine (wp_if hF (b := (p0.Op == 14)) rfl (fun hb => ?_) (fun hb => ?_))
                              · replace h := iteT hb h
                                refine wp_seq (region_b [] [true, false, true, true, true, false, true, true, true]
                                    [.eq (.pointer (some ⟨b1, 1, none⟩)), .eq (.int .i64 p0.A), .eq (.bool (p0.A == 0)), .eq (.bool (p0.A == 0)), .eq (.pointer (some ⟨b1, 2, none⟩)), .eq (.int .i64 p0.B), .eq (.bool (p0.B == 0)), .eq (.bool ((p0.A == 0) && (p0.B == 0))), .eq (.bool ((p0.A == 0) && (p0.B == 0)))]
                                    [(6, .bool ((p0.A == 0) && (p0.B == 0)))] mix hF (by kernel_rfl) (by kernel_rfl) (by kernel_rfl) ⟨Pd.mono_eq, Pd.mono_eq, trivial⟩ (fun hG => ⟨np_loadBox hG hF ty3 rfl rfl hb1 rfl rfl rfl, np_loadBox hG hF ty3 rfl rfl hb1 rfl rfl rfl, trivial⟩) (by kernel_rfl) fun fr w65 hF hE hc => then_normal ?_)
                                have hC := hC.trans hc
                                have z65 := hc.size
                                obtain rfl := Option.some.inj h
                                exact wp_ret (blk_ret (then_ret (ret1 rfl hF rfl ⟨_, rfl, rfl, hC⟩)))
                              · replace h := iteF hb h
                                refine (wp_skip ?_)
                                refine blk_normal (then_normal ?_)
                                refine wp_seq (wp_pure [(6, .bool false)] hF (by kernel_rfl) fun fr hF => then_normal ?_)
                                obtain rfl := Option.some.inj h
                                exact wp_ret (ret1 rfl hF rfl ⟨_, rfl, rfl, hC⟩)
                      · replace h := iteF hb h
                        refine (wp_pure [(3, .pointer (some ⟨b1, 0, none⟩)), (7, .bool ((decide (p0.B ≥ 0)) && (decide (p0.B ≤ p2)))), (37, .int .i64 p0.Op), (74, .bool (p0.Op == 11))] hF (by kernel_rfl) fun fr hF => then_normal ?_)
                        refine (wp_if hF (b := (p0.Op == 11)) rfl (fun hb => ?_) (fun hb => ?_))
                        · replace h := iteT hb h
                          refine wp_seq (region_b [] [true, false, true, true, true, true, true]
                              [.eq (.pointer (some ⟨b1, 1, none⟩)), .eq (.int .i64 p0.A), .eq (.bool (p0.A == 0)), .eq (.bool (p0.A == 0)), .eq (.bool ((decide (p0.B ≥ 0)) && (decide (p0.B ≤ p2)))), .eq (.bool ((p0.A == 0) && ((decide (p0.B ≥ 0)) && (decide (p0.B ≤ p2))))), .eq (.bool ((p0.A == 0) && ((decide (p0.B ≥ 0)) && (decide (p0.B ≤ p2)))))]
                              [(6, .bool ((p0.A == 0) && ((decide (p0.B ≥ 0)) && (decide (p0.B ≤ p2)))))] mix hF (by kernel_rfl) (by kernel_rfl) (by kernel_rfl) ⟨Pd.mono_eq, trivial⟩ (fun hG => ⟨np_loadBox hG hF ty3 rfl rfl hb1 rfl rfl rfl, trivial⟩) (by kernel_rfl) fun fr w66 hF hE hc => then_normal ?_)
                          have hC := hC.trans hc
                          have z66 := hc.size
                          obtain rfl := Option.some.inj h
                          exact wp_ret (blk_ret (then_ret (ret1 rfl hF rfl ⟨_, rfl, rfl, hC⟩)))
                        · replace h := iteF hb h
                          refine wp_seq (wp_pure [(3, .pointer (some ⟨b1, 0, none⟩)), (7, .bool ((decide (p0.B ≥ 0)) && (decide (p0.B ≤ p2)))), (37, .int .i64 p0.Op), (83, .bool (p0.Op == 10))] hF (by kernel_rfl) fun fr hF => then_normal ?_)
                          refine (wp_if hF (b := (p0.Op == 10)) rfl (fun hb => ?_) (fun hb => ?_))
                          · replace h := iteT hb h
                            obtain ⟨x30, hx30, h⟩ := bindE h
                            refine wp_seq (region_b [] [true, false, false, true, true, true, true]
                                [.eq (.pointer (some ⟨b1, 1, none⟩)), .eq (.int .i64 p0.A), .eq (.bool x30), .eq (.bool x30), .eq (.bool ((decide (p0.B ≥ 0)) && (decide (p0.B ≤ p2)))), .eq (.bool (x30 && ((decide (p0.B ≥ 0)) && (decide (p0.B ≤ p2))))), .eq (.bool (x30 && ((decide (p0.B ≥ 0)) && (decide (p0.B ≤ p2)))))]
                                [(6, .bool (x30 && ((decide (p0.B ≥ 0)) && (decide (p0.B ≤ p2)))))] mix hF (by kernel_rfl) (by kernel_rfl) (by kernel_rfl) ⟨Pd.mono_eq, Pd.mono_eq, trivial⟩ (fun hG => ⟨np_loadBox hG hF ty3 rfl rfl hb1 rfl rfl rfl, np_call [.int .i64 p0.A] hG hF Try.call90 rfl rfl (fun w hC hg => (impl_isReg_ok p0.A hx30).mono fun e w' ⟨v, he, hv, hc⟩ => ⟨v, he, hc, hv⟩), trivial⟩) (by kernel_rfl) fun fr w67 hF hE hc => then_normal ?_)
                            have hC := hC.trans hc
                            have z67 := hc.size
                            obtain rfl := Option.some.inj h
                            exact wp_ret (blk_ret (then_ret (ret1 rfl hF rfl ⟨_, rfl, rfl, hC⟩)))
                          · replace h := iteF hb h
                            refine wp_seq ?_
                            refine wp_seq (wp_pure [(3, .pointer (some ⟨b1, 0, none⟩)), (37, .int .i64 p0.Op), (91, .bool (p0.Op == 12))] hF (by kernel_rfl) fun fr hF => then_normal ?_)
                            refine (wp_if hF (b := (p0.Op == 12)) rfl (fun hb => ?_) (fun hb => ?_))
                            · replace h := iteT hb h
                              refine (wp_skip (then_normal ?_))
                              refine (wp_if hF (b := (p0.Op == 12)) rfl (fun hb => ?_) (fun hb => ?_))
                              · replace h := iteT hb h
                                refine wp_seq (region_b [] [true, false, true, true, true, false, true, true, true]
                                    [.eq (.pointer (some ⟨b1, 1, none⟩)), .eq (.int .i64 p0.A), .eq (.bool (p0.A == 0)), .eq (.bool (p0.A == 0)), .eq (.pointer (some ⟨b1, 2, none⟩)), .eq (.int .i64 p0.B), .eq (.bool (p0.B == 0)), .eq (.bool ((p0.A == 0) && (p0.B == 0))), .eq (.bool ((p0.A == 0) && (p0.B == 0)))]
                                    [(6, .bool ((p0.A == 0) && (p0.B == 0)))] mix hF (by kernel_rfl) (by kernel_rfl) (by kernel_rfl) ⟨Pd.mono_eq, Pd.mono_eq, trivial⟩ (fun hG => ⟨np_loadBox hG hF ty3 rfl rfl hb1 rfl rfl rfl, np_loadBox hG hF ty3 rfl rfl hb1 rfl rfl rfl, trivial⟩) (by kernel_rfl) fun fr w68 hF hE hc => then_normal ?_)
                                have hC := hC.trans hc
                                have z68 := hc.size
                                obtain rfl := Option.some.inj h
                                exact wp_ret (blk_ret (then_ret (ret1 rfl hF rfl ⟨_, rfl, rfl, hC⟩)))
                              · replace h := iteF hb h
                                refine (wp_skip ?_)
                                refine blk_normal (then_normal ?_)
                                refine wp_seq (wp_pure [(6, .bool false)] hF (by kernel_rfl) fun fr hF => then_normal ?_)
                                obtain rfl := Option.some.inj h
                                exact wp_ret (ret1 rfl hF rfl ⟨_, rfl, rfl, hC⟩)
                            · replace h := iteF hb h
                              refine (wp_pure [(3, .pointer (some ⟨b1, 0, none⟩)), (91, .bool (p0.Op == 14))] hF (by kernel_rfl) fun fr hF => then_normal ?_)
                              refine (wp_if hF (b := (p0.Op == 14)) rfl (fun hb => ?_) (fun hb => ?_))
                              · replace h := iteT hb h
                                refine wp_seq (region_b [] [true, false, true, true, true, false, true, true, true]
                                    [.eq (.pointer (some ⟨b1, 1, none⟩)), .eq (.int .i64 p0.A), .eq (.bool (p0.A == 0)), .eq (.bool (p0.A == 0)), .eq (.pointer (some ⟨b1, 2, none⟩)), .eq (.int .i64 p0.B), .eq (.bool (p0.B == 0)), .eq (.bool ((p0.A == 0) && (p0.B == 0))), .eq (.bool ((p0.A == 0) && (p0.B == 0)))]
                                    [(6, .bool ((p0.A == 0) && (p0.B == 0)))] mix hF (by kernel_rfl) (by kernel_rfl) (by kernel_rfl) ⟨Pd.mono_eq, Pd.mono_eq, trivial⟩ (fun hG => ⟨np_loadBox hG hF ty3 rfl rfl hb1 rfl rfl rfl, np_loadBox hG hF ty3 rfl rfl hb1 rfl rfl rfl, trivial⟩) (by kernel_rfl) fun fr w69 hF hE hc => then_normal ?_)
                                have hC := hC.trans hc
                                have z69 := hc.size
                                obtain rfl := Option.some.inj h
                                exact wp_ret (blk_ret (then_ret (ret1 rfl hF rfl ⟨_, rfl, rfl, hC⟩)))
                              · replace h := iteF hb h
                                refine (wp_skip ?_)
                                refine blk_normal (then_normal ?_)
                                refine wp_seq (wp_pure [(6, .bool false)] hF (by kernel_rfl) fun fr hF => then_normal ?_)
                                obtain rfl := Option.some.inj h
                                exact wp_ret (ret1 rfl hF rfl ⟨_, rfl, rfl, hC⟩)
                  · replace h := iteF hb h
                    refine (wp_pure [(3, .pointer (some ⟨b1, 0, none⟩)), (7, .bool ((decide (p0.B ≥ 0)) && (decide (p0.B ≤ p2)))), (37, .int .i64 p0.Op), (61, .bool (p0.Op == 13))] hF (by kernel_rfl) fun fr hF => then_normal ?_)
                    refine (wp_if hF (b := (p0.Op == 13)) rfl (fun hb => ?_) (fun hb => ?_))
                    · replace h := iteT hb h
                      obtain ⟨x31, hx31, h⟩ := bindE h
                      refine wp_seq (region_b [] [true, false, false, true, true, false, true, true, true]
                          [.eq (.pointer (some ⟨b1, 1, none⟩)), .eq (.int .i64 p0.A), .eq (.bool x31), .eq (.bool x31), .eq (.pointer (some ⟨b1, 2, none⟩)), .eq (.int .i64 p0.B), .eq (.bool (p0.B == 0)), .eq (.bool (x31 && (p0.B == 0))), .eq (.bool (x31 && (p0.B == 0)))]
                          [(6, .bool (x31 && (p0.B == 0)))] mix hF (by kernel_rfl) (by kernel_rfl) (by kernel_rfl) ⟨Pd.mono_eq, Pd.mono_eq, Pd.mono_eq, trivial⟩ (fun hG => ⟨np_loadBox hG hF ty3 rfl rfl hb1 rfl rfl rfl, np_call [.int .i64 p0.A] hG hF Try.call90 rfl rfl (fun w hC hg => (impl_isReg_ok p0.A hx31).mono fun e w' ⟨v, he, hv, hc⟩ => ⟨v, he, hc, hv⟩), np_loadBox hG hF ty3 rfl rfl hb1 rfl rfl rfl, trivial⟩) (by kernel_rfl) fun fr w70 hF hE hc => then_normal ?_)
                      have hC := hC.trans hc
                      have z70 := hc.size
                      obtain rfl := Option.some.inj h
                      exact wp_ret (blk_ret (then_ret (ret1 rfl hF rfl ⟨_, rfl, rfl, hC⟩)))
                    · replace h := iteF hb h
                      refine wp_seq ?_
                      refine wp_seq (wp_pure [(3, .pointer (some ⟨b1, 0, none⟩)), (7, .bool ((decide (p0.B ≥ 0)) && (decide (p0.B ≤ p2)))), (37, .int .i64 p0.Op), (74, .bool (p0.Op == 9))] hF (by kernel_rfl) fun fr hF => then_normal ?_)
                      refine (wp_if hF (b := (p0.Op == 9)) rfl (fun hb => ?_) (fun hb => ?_))
                      · replace h := iteT hb h
                        refine (wp_skip (then_normal ?_))
                        refine (wp_if hF (b := (p0.Op == 9)) rfl (fun hb => ?_) (fun hb => ?_))
                        · replace h := iteT hb h
                          refine wp_seq (region_b [] [true, false, true, true, true, true, true]
                              [.eq (.pointer (some ⟨b1, 1, none⟩)), .eq (.int .i64 p0.A), .eq (.bool (p0.A == 0)), .eq (.bool (p0.A == 0)), .eq (.bool ((decide (p0.B ≥ 0)) && (decide (p0.B ≤ p2)))), .eq (.bool ((p0.A == 0) && ((decide (p0.B ≥ 0)) && (decide (p0.B ≤ p2))))), .eq (.bool ((p0.A == 0) && ((decide (p0.B ≥ 0)) && (decide (p0.B ≤ p2)))))]
                              [(6, .bool ((p0.A == 0) && ((decide (p0.B ≥ 0)) && (decide (p0.B ≤ p2)))))] mix hF (by kernel_rfl) (by kernel_rfl) (by kernel_rfl) ⟨Pd.mono_eq, trivial⟩ (fun hG => ⟨np_loadBox hG hF ty3 rfl rfl hb1 rfl rfl rfl, trivial⟩) (by kernel_rfl) fun fr w71 hF hE hc => then_normal ?_)
                          have hC := hC.trans hc
                          have z71 := hc.size
                          obtain rfl := Option.some.inj h
                          exact wp_ret (blk_ret (then_ret (ret1 rfl hF rfl ⟨_, rfl, rfl, hC⟩)))
                        · replace h := iteF hb h
                          refine wp_seq (wp_pure [(3, .pointer (some ⟨b1, 0, none⟩)), (7, .bool ((decide (p0.B ≥ 0)) && (decide (p0.B ≤ p2)))), (37, .int .i64 p0.Op), (83, .bool (p0.Op == 10))] hF (by kernel_rfl) fun fr hF => then_normal ?_)
                          refine (wp_if hF (b := (p0.Op == 10)) rfl (fun hb => ?_) (fun hb => ?_))
                          · replace h := iteT hb h
                            obtain ⟨x32, hx32, h⟩ := bindE h
                            refine wp_seq (region_b [] [true, false, false, true, true, true, true]
                                [.eq (.pointer (some ⟨b1, 1, none⟩)), .eq (.int .i64 p0.A), .eq (.bool x32), .eq (.bool x32), .eq (.bool ((decide (p0.B ≥ 0)) && (decide (p0.B ≤ p2)))), .eq (.bool (x32 && ((decide (p0.B ≥ 0)) && (decide (p0.B ≤ p2))))), .eq (.bool (x32 && ((decide (p0.B ≥ 0)) && (decide (p0.B ≤ p2)))))]
                                [(6, .bool (x32 && ((decide (p0.B ≥ 0)) && (decide (p0.B ≤ p2)))))] mix hF (by kernel_rfl) (by kernel_rfl) (by kernel_rfl) ⟨Pd.mono_eq, Pd.mono_eq, trivial⟩ (fun hG => ⟨np_loadBox hG hF ty3 rfl rfl hb1 rfl rfl rfl, np_call [.int .i64 p0.A] hG hF Try.call90 rfl rfl (fun w hC hg => (impl_isReg_ok p0.A hx32).mono fun e w' ⟨v, he, hv, hc⟩ => ⟨v, he, hc, hv⟩), trivial⟩) (by kernel_rfl) fun fr w72 hF hE hc => then_normal ?_)
                            have hC := hC.trans hc
                            have z72 := hc.size
                            obtain rfl := Option.some.inj h
                            exact wp_ret (blk_ret (then_ret (ret1 rfl hF rfl ⟨_, rfl, rfl, hC⟩)))
                          · replace h := iteF hb h
                            refine wp_seq ?_
                            refine wp_seq (wp_pure [(3, .pointer (some ⟨b1, 0, none⟩)), (37, .int .i64 p0.Op), (91, .bool (p0.Op == 12))] hF (by kernel_rfl) fun fr hF => then_normal ?_)
                            refine (wp_if hF (b := (p0.Op == 12)) rfl (fun hb => ?_) (fun hb => ?_))
                            · replace h := iteT hb h
                              refine (wp_skip (then_normal ?_))
                              refine (wp_if hF (b := (p0.Op == 12)) rfl (fun hb => ?_) (fun hb => ?_))
                              · replace h := iteT hb h
                                refine wp_seq (region_b [] [true, false, true, true, true, false, true, true, true]
                                    [.eq (.pointer (some ⟨b1, 1, none⟩)), .eq (.int .i64 p0.A), .eq (.bool (p0.A == 0)), .eq (.bool (p0.A == 0)), .eq (.pointer (some ⟨b1, 2, none⟩)), .eq (.int .i64 p0.B), .eq (.bool (p0.B == 0)), .eq (.bool ((p0.A == 0) && (p0.B == 0))), .eq (.bool ((p0.A == 0) && (p0.B == 0)))]
                                    [(6, .bool ((p0.A == 0) && (p0.B == 0)))] mix hF (by kernel_rfl) (by kernel_rfl) (by kernel_rfl) ⟨Pd.mono_eq, Pd.mono_eq, trivial⟩ (fun hG => ⟨np_loadBox hG hF ty3 rfl rfl hb1 rfl rfl rfl, np_loadBox hG hF ty3 rfl rfl hb1 rfl rfl rfl, trivial⟩) (by kernel_rfl) fun fr w73 hF hE hc => then_normal ?_)
                                have hC := hC.trans hc
                                have z73 := hc.size
                                obtain rfl := Option.some.inj h
                                exact wp_ret (blk_ret (then_ret (ret1 rfl hF rfl ⟨_, rfl, rfl, hC⟩)))
                              · replace h := iteF hb h
                                refine (wp_skip ?_)
                                refine blk_normal (then_normal ?_)
                                refine wp_seq (wp_pure [(6, .bool false)] hF (by kernel_rfl) fun fr hF => then_normal ?_)
                                obtain rfl := Option.some.inj h
                                exact wp_ret (ret1 rfl hF rfl ⟨_, rfl, rfl, hC⟩)
                            · replace h := iteF hb h
                              refine (wp_pure [(3, .pointer (some ⟨b1, 0, none⟩)), (91, .bool (p0.Op == 14))] hF (by kernel_rfl) fun fr hF => then_normal ?_)
                              refine (wp_if hF (b := (p0.Op == 14)) rfl (fun hb => ?_) (fun hb => ?_))
                              · replace h := iteT hb h
                                refine wp_seq (region_b [] [true, false, true, true, true, false, true, true, true]
                                    [.eq (.pointer (some ⟨b1, 1, none⟩)), .eq (.int .i64 p0.A), .eq (.bool (p0.A == 0)), .eq (.bool (p0.A == 0)), .eq (.pointer (some ⟨b1, 2, none⟩)), .eq (.int .i64 p0.B), .eq (.bool (p0.B == 0)), .eq (.bool ((p0.A == 0) && (p0.B == 0))), .eq (.bool ((p0.A == 0) && (p0.B == 0)))]
                                    [(6, .bool ((p0.A == 0) && (p0.B == 0)))] mix hF (by kernel_rfl) (by kernel_rfl) (by kernel_rfl) ⟨Pd.mono_eq, Pd.mono_eq, trivial⟩ (fun hG => ⟨np_loadBox hG hF ty3 rfl rfl hb1 rfl rfl rfl, np_loadBox hG hF ty3 rfl rfl hb1 rfl rfl rfl, trivial⟩) (by kernel_rfl) fun fr w74 hF hE hc => then_normal ?_)
                                have hC := hC.trans hc
                                have z74 := hc.size
                                obtain rfl := Option.some.inj h
                                exact wp_ret (blk_ret (then_ret (ret1 rfl hF rfl ⟨_, rfl, rfl, hC⟩)))
                              · replace h := iteF hb h
                                refine (wp_skip ?_)
                                refine blk_normal (then_normal ?_)
                                refine wp_seq (wp_pure [(6, .bool false)] hF (by kernel_rfl) fun fr hF => then_normal ?_)
                                obtain rfl := Option.some.inj h
                                exact wp_ret (ret1 rfl hF rfl ⟨_, rfl, rfl, hC⟩)
                      · replace h := iteF hb h
                        refine (wp_pure [(3, .pointer (some ⟨b1, 0, none⟩)), (7, .bool ((decide (p0.B ≥ 0)) && (decide (p0.B ≤ p2)))), (37, .int .i64 p0.Op), (74, .bool (p0.Op == 11))] hF (by kernel_rfl) fun fr hF => then_normal ?_)
                        refine (wp_if hF (b := (p0.Op == 11)) rfl (fun hb => ?_) (fun hb => ?_))
                        · replace h := iteT hb h
                          refine wp_seq (region_b [] [true, false, true, true, true, true, true]
                              [.eq (.pointer (some ⟨b1, 1, none⟩)), .eq (.int .i64 p0.A), .eq (.bool (p0.A == 0)), .eq (.bool (p0.A == 0)), .eq (.bool ((decide (p0.B ≥ 0)) && (decide (p0.B ≤ p2)))), .eq (.bool ((p0.A == 0) && ((decide (p0.B ≥ 0)) && (decide (p0.B ≤ p2))))), .eq (.bool ((p0.A == 0) && ((decide (p0.B ≥ 0)) && (decide (p0.B ≤ p2)))))]
                              [(6, .bool ((p0.A == 0) && ((decide (p0.B ≥ 0)) && (decide (p0.B ≤ p2)))))] mix hF (by kernel_rfl) (by kernel_rfl) (by kernel_rfl) ⟨Pd.mono_eq, trivial⟩ (fun hG => ⟨np_loadBox hG hF ty3 rfl rfl hb1 rfl rfl rfl, trivial⟩) (by kernel_rfl) fun fr w75 hF hE hc => then_normal ?_)
                          have hC := hC.trans hc
                          have z75 := hc.size
                          obtain rfl := Option.some.inj h
                          exact wp_ret (blk_ret (then_ret (ret1 rfl hF rfl ⟨_, rfl, rfl, hC⟩)))
                        · replace h := iteF hb h
                          refine wp_seq (wp_pure [(3, .pointer (some ⟨b1, 0, none⟩)), (7, .bool ((decide (p0.B ≥ 0)) && (decide (p0.B ≤ p2)))), (37, .int .i64 p0.Op), (83, .bool (p0.Op == 10))] hF (by kernel_rfl) fun fr hF => then_normal ?_)
                          refine (wp_if hF (b := (p0.Op == 10)) rfl (fun hb => ?_) (fun hb => ?_))
                          · replace h := iteT hb h
                            obtain ⟨x33, hx33, h⟩ := bindE h
                            refine wp_seq (region_b [] [true, false, false, true, true, true, true]
                                [.eq (.pointer (some ⟨b1, 1, none⟩)), .eq (.int .i64 p0.A), .eq (.bool x33), .eq (.bool x33), .eq (.bool ((decide (p0.B ≥ 0)) && (decide (p0.B ≤ p2)))), .eq (.bool (x33 && ((decide (p0.B ≥ 0)) && (decide (p0.B ≤ p2))))), .eq (.bool (x33 && ((decide (p0.B ≥ 0)) && (decide (p0.B ≤ p2)))))]
                                [(6, .bool (x33 && ((decide (p0.B ≥ 0)) && (decide (p0.B ≤ p2)))))] mix hF (by kernel_rfl) (by kernel_rfl) (by kernel_rfl) ⟨Pd.mono_eq, Pd.mono_eq, trivial⟩ (fun hG => ⟨np_loadBox hG hF ty3 rfl rfl hb1 rfl rfl rfl, np_call [.int .i64 p0.A] hG hF Try.call90 rfl rfl (fun w hC hg => (impl_isReg_ok p0.A hx33).mono fun e w' ⟨v, he, hv, hc⟩ => ⟨v, he, hc, hv⟩), trivial⟩) (by kernel_rfl) fun fr w76 hF hE hc => then_normal ?_)
                            have hC := hC.trans hc
                            have z76 := hc.size
                            obtain rfl := Option.some.inj h
                            exact wp_ret (blk_ret (then_ret (ret1 rfl hF rfl ⟨_, rfl, rfl, hC⟩)))
                          · replace h := iteF hb h
                            refine wp_seq ?_
                            refine wp_seq (wp_pure [(3, .pointer (some ⟨b1, 0, none⟩)), (37, .int .i64 p0.Op), (91, .bool (p0.Op == 12))] hF (by kernel_rfl) fun fr hF => then_normal ?_)
                            refine (wp_if hF (b := (p0.Op == 12)) rfl (fun hb => ?_) (fun hb => ?_))
                            · replace h := iteT hb h
                              refine (wp_skip (then_normal ?_))
                              refine (wp_if hF (b := (p0.Op == 12)) rfl (fun hb => ?_) (fun hb => ?_))
                              · replace h := iteT hb h
                                refine wp_seq (region_b [] [true, false, true, true, true, false, true, true, true]
                                    [.eq (.pointer (some ⟨b1, 1, none⟩)), .eq (.int .i64 p0.A), .eq (.bool (p0.A == 0)), .eq (.bool (p0.A == 0)), .eq (.pointer (some ⟨b1, 2, none⟩)), .eq (.int .i64 p0.B), .eq (.bool (p0.B == 0)), .eq (.bool ((p0.A == 0) && (p0.B == 0))), .eq (.bool ((p0.A == 0) && (p0.B == 0)))]
                                    [(6, .bool ((p0.A == 0) && (p0.B == 0)))] mix hF (by kernel_rfl) (by kernel_rfl) (by kernel_rfl) ⟨Pd.mono_eq, Pd.mono_eq, trivial⟩ (fun hG => ⟨np_loadBox hG hF ty3 rfl rfl hb1 rfl rfl rfl, np_loadBox hG hF ty3 rfl rfl hb1 rfl rfl rfl, trivial⟩) (by kernel_rfl) fun fr w77 hF hE hc => then_normal ?_)
                                have hC := hC.trans hc
                                have z77 := hc.size
                                obtain rfl := Option.some.inj h
                                exact wp_ret (blk_ret (then_ret (ret1 rfl hF rfl ⟨_, rfl, rfl, hC⟩)))
                              · replace h := iteF hb h
                                refine (wp_skip ?_)
                                refine blk_normal (then_normal ?_)
                                refine wp_seq (wp_pure [(6, .bool false)] hF (by kernel_rfl) fun fr hF => then_normal ?_)
                                obtain rfl := Option.some.inj h
                                exact wp_ret (ret1 rfl hF rfl ⟨_, rfl, rfl, hC⟩)
                            · replace h := iteF hb h
                              refine (wp_pure [(3, .pointer (some ⟨b1, 0, none⟩)), (91, .bool (p0.Op == 14))] hF (by kernel_rfl) fun fr hF => then_normal ?_)
                              refine (wp_if hF (b := (p0.Op == 14)) rfl (fun hb => ?_) (fun hb => ?_))
                              · replace h := iteT hb h
                                refine wp_seq (region_b [] [true, false, true, true, true, false, true, true, true]
                                    [.eq (.pointer (some ⟨b1, 1, none⟩)), .eq (.int .i64 p0.A), .eq (.bool (p0.A == 0)), .eq (.bool (p0.A == 0)), .eq (.pointer (some ⟨b1, 2, none⟩)), .eq (.int .i64 p0.B), .eq (.bool (p0.B == 0)), .eq (.bool ((p0.A == 0) && (p0.B == 0))), .eq (.bool ((p0.A == 0) && (p0.B == 0)))]
                                    [(6, .bool ((p0.A == 0) && (p0.B == 0)))] mix hF (by kernel_rfl) (by kernel_rfl) (by kernel_rfl) ⟨Pd.mono_eq, Pd.mono_eq, trivial⟩ (fun hG => ⟨np_loadBox hG hF ty3 rfl rfl hb1 rfl rfl rfl, np_loadBox hG hF ty3 rfl rfl hb1 rfl rfl rfl, trivial⟩) (by kernel_rfl) fun fr w78 hF hE hc => then_normal ?_)
                                have hC := hC.trans hc
                                have z78 := hc.size
                                obtain rfl := Option.some.inj h
                                exact wp_ret (blk_ret (then_ret (ret1 rfl hF rfl ⟨_, rfl, rfl, hC⟩)))
                              · replace h := iteF hb h
                                refine (wp_skip ?_)
                                refine blk_normal (then_normal ?_)
                                refine wp_seq (wp_pure [(6, .bool false)] hF (by kernel_rfl) fun fr hF => then_normal ?_)
                                obtain rfl := Option.some.inj h
                                exact wp_ret (ret1 rfl hF rfl ⟨_, rfl, rfl, hC⟩)
          · replace h := iteF hb h
            refine (wp_pure [(3, .pointer (some ⟨b1, 0, none⟩)), (7, .bool ((decide (p0.B ≥ 0)) && (decide (p0.B ≤ p2)))), (37, .int .i64 p0.Op), (49, .bool (p0.Op == 8))] hF (by kernel_rfl) fun fr hF => then_normal ?_)
            refine (wp_if hF (b := (p0.Op == 8)) rfl (fun hb => ?_) (fun hb => ?_))
            · replace h := iteT hb h
              obtain ⟨x34, hx34, h⟩ := bindE h
              obtain ⟨x35, hx35, h⟩ := bindE h
              refine wp_seq (region_b [] [true, false, false, true, true, false, false, true, true]
                  [.eq (.pointer (some ⟨b1, 1, none⟩)), .eq (.int .i64 p0.A), .eq (.bool x34), .eq (.bool x34), .eq (.pointer (some ⟨b1, 2, none⟩)), .eq (.int .i64 p0.B), .eq (.bool x35), .eq (.bool (x34 && x35)), .eq (.bool (x34 && x35))]
                  [(6, .bool (x34 && x35))] mix hF (by kernel_rfl) (by kernel_rfl) (by kernel_rfl) ⟨Pd.mono_eq, Pd.mono_eq, Pd.mono_eq, Pd.mono_eq, trivial⟩ (fun hG => ⟨np_loadBox hG hF ty3 rfl rfl hb1 rfl rfl rfl, np_call [.int .i64 p0.A] hG hF Try.call90 rfl rfl (fun w hC hg => (impl_isReg_ok p0.A hx34).mono fun e w' ⟨v, he, hv, hc⟩ => ⟨v, he, hc, hv⟩), np_loadBox hG hF ty3 rfl rfl hb1 rfl rfl rfl, np_call [.int .i64 p0.B] hG hF Try.call90 rfl rfl (fun w hC hg => (impl_isReg_ok p0.B (iteT hg.2 hx35)).mono fun e w' ⟨v, he, hv, hc⟩ => ⟨v, he, hc, hv⟩), trivial⟩) (by kernel_rfl) fun fr w79 hF hE hc => then_normal ?_)
              have hC := hC.trans hc
              have z79 := hc.size
              obtain rfl := Option.some.inj h
              exact wp_ret (blk_ret (then_ret (ret1 rfl hF rfl ⟨_, rfl, rfl, hC⟩)))
            · replace h := iteF hb h
              refine wp_seq ?_
              refine wp_seq (wp_pure [(3, .pointer (some ⟨b1, 0, none⟩)), (7, .bool ((decide (p0.B ≥ 0)) && (decide (p0.B ≤ p2)))), (37, .int .i64 p0.Op), (61, .bool (p0.Op == 4))] hF (by kernel_rfl) fun fr hF => then_normal ?_)
              refine (wp_if hF (b := (p0.Op == 4)) rfl (fun hb => ?_) (fun hb => ?_))
              · replace h := iteT hb h
                refine (wp_skip (then_normal ?_))
                refine (wp_if hF (b := (p0.Op == 4)) rfl (fun hb => ?_) (fun hb => ?_))
                · replace h := iteT hb h
                  obtain ⟨x36, hx36, h⟩ := bindE h
                  refine wp_seq (region_b [] [true, false, false, true, true, false, true, true, true]
                      [.eq (.pointer (some ⟨b1, 1, none⟩)), .eq (.int .i64 p0.A), .eq (.bool x36), .eq (.bool x36), .eq (.pointer (some ⟨b1, 2, none⟩)), .eq (.int .i64 p0.B), .eq (.bool (p0.B == 0)), .eq (.bool (x36 && (p0.B == 0))), .eq (.bool (x36 && (p0.B == 0)))]
                      [(6, .bool (x36 && (p0.B == 0)))] mix hF (by kernel_rfl) (by kernel_rfl) (by kernel_rfl) ⟨Pd.mono_eq, Pd.mono_eq, Pd.mono_eq, trivial⟩ (fun hG => ⟨np_loadBox hG hF ty3 rfl rfl hb1 rfl rfl rfl, np_call [.int .i64 p0.A] hG hF Try.call90 rfl rfl (fun w hC hg => (impl_isReg_ok p0.A hx36).mono fun e w' ⟨v, he, hv, hc⟩ => ⟨v, he, hc, hv⟩), np_loadBox hG hF ty3 rfl rfl hb1 rfl rfl rfl, trivial⟩) (by kernel_rfl) fun fr w80 hF hE hc => then_normal ?_)
                  have hC := hC.trans hc
                  have z80 := hc.size
                  obtain rfl := Option.some.inj h
                  exact wp_ret (blk_ret (then_ret (ret1 rfl hF rfl ⟨_, rfl, rfl, hC⟩)))
                · replace h := iteF hb h
                  refine wp_seq ?_
                  refine wp_seq (wp_pure [(3, .pointer (some ⟨b1, 0, none⟩)), (7, .bool ((decide (p0.B ≥ 0)) && (decide (p0.B ≤ p2)))), (37, .int .i64 p0.Op), (74, .bool (p0.Op == 9))] hF (by kernel_rfl) fun fr hF => then_normal ?_)
                  refine (wp_if hF (b := (p0.Op == 9)) rfl (fun hb => ?_) (fun hb => ?_))
                  · replace h := iteT hb h
                    refine (wp_skip (then_normal ?_))
                    refine (wp_if hF (b := (p0.Op == 9)) rfl (fun hb => ?_) (fun hb => ?_))
                    · replace h := iteT hb h
                      refine wp_seq (region_b [] [true, false, true, true, true, true, true]
                          [.eq (.pointer (some ⟨b1, 1, none⟩)), .eq (.int .i64 p0.A), .eq (.bool (p0.A == 0)), .eq (.bool (p0.A == 0)), .eq (.bool ((decide (p0.B ≥ 0)) && (decide (p0.B ≤ p2)))), .eq (.bool ((p0.A == 0) && ((decide (p0.B ≥ 0)) && (decide (p0.B ≤ p2))))), .eq (.bool ((p0.A == 0) && ((decide (p0.B ≥ 0)) && (decide (p0.B ≤ p2)))))]
                          [(6, .bool ((p0.A == 0) && ((decide (p0.B ≥ 0)) && (decide (p0.B ≤ p2)))))] mix hF (by kernel_rfl) (by kernel_rfl) (by kernel_rfl) ⟨Pd.mono_eq, trivial⟩ (fun hG => ⟨np_loadBox hG hF ty3 rfl rfl hb1 rfl rfl rfl, trivial⟩) (by kernel_rfl) fun fr w81 hF hE hc => then_normal ?_)
                      have hC := hC.trans hc
                      have z81 := hc.size
                      obtain rfl := Option.some.inj h
                      exact wp_ret (blk_ret (then_ret (ret1 rfl hF rfl ⟨_, rfl, rfl, hC⟩)))
                    · replace h := iteF hb h
                      refine wp_seq (wp_pure [(3, .pointer (some ⟨b1, 0, none⟩)), (7, .bool ((decide (p0.B ≥ 0)) && (decide (p0.B ≤ p2)))), (37, .int .i64 p0.Op), (83, .bool (p0.Op == 10))] hF (by kernel_rfl) fun fr hF => then_normal ?_)
                      refine (wp_if hF (b := (p0.Op == 10)) rfl (fun hb => ?_) (fun hb => ?_))
                      · replace h := iteT hb h
                        obtain ⟨x37, hx37, h⟩ := bindE h
                        refine wp_seq (region_b [] [true, false, false, true, true, true, true]
                            [.eq (.pointer (some ⟨b1, 1, none⟩)), .eq (.int .i64 p0.A), .eq (.bool x37), .eq (.bool x37), .eq (.bool ((decide (p0.B ≥ 0)) && (decide (p0.B ≤ p2)))), .eq (.bool (x37 && ((decide (p0.B ≥ 0)) && (decide (p0.B ≤ p2))))), .eq (.bool (x37 && ((decide (p0.B ≥ 0)) && (decide (p0.B ≤ p2)))))]
                            [(6, .bool (x37 && ((decide (p0.B ≥ 0)) && (decide (p0.B ≤ p2)))))] mix hF (by kernel_rfl) (by kernel_rfl) (by kernel_rfl) ⟨Pd.mono_eq, Pd.mono_eq, trivial⟩ (fun hG => ⟨np_loadBox hG hF ty3 rfl rfl hb1 rfl rfl rfl, np_call [.int .i64 p0.A] hG hF Try.call90 rfl rfl (fun w hC hg => (impl_isReg_ok p0.A hx37).mono fun e w' ⟨v, he, hv, hc⟩ => ⟨v, he, hc, hv⟩), trivial⟩) (by kernel_rfl) fun fr w82 hF hE hc => then_normal ?_)
                        have hC := hC.trans hc
                        have z82 := hc.size
                        obtain rfl := Option.some.inj h
                        exact wp_ret (blk_ret (then_ret (ret1 rfl hF rfl ⟨_, rfl, rfl, hC⟩)))
                      · replace h := iteF hb h
                        refine wp_seq ?_
                        refine wp_seq (wp_pure [(3, .pointer (some ⟨b1, 0, none⟩)), (37, .int .i64 p0.Op), (91, .bool (p0.Op == 12))] hF (by kernel_rfl) fun fr hF => then_normal ?_)
                        refine (wp_if hF (b := (p0.Op == 12)) rfl (fun hb => ?_) (fun hb => ?_))
                        · replace h := iteT hb h
                          refine (wp_skip (then_normal ?_))
                          refine (wp_if hF (b := (p0.Op == 12)) rfl (fun hb => ?_) (fun hb => ?_))
                          · replace h := iteT hb h
                            refine wp_seq (region_b [] [true, false, true, true, true, false, true, true, true]
                                [.eq (.pointer (some ⟨b1, 1, none⟩)), .eq (.int .i64 p0.A), .eq (.bool (p0.A == 0)), .eq (.bool (p0.A == 0)), .eq (.pointer (some ⟨b1, 2, none⟩)), .eq (.int .i64 p0.B), .eq (.bool (p0.B == 0)), .eq (.bool ((p0.A == 0) && (p0.B == 0))), .eq (.bool ((p0.A == 0) && (p0.B == 0)))]
                                [(6, .bool ((p0.A == 0) && (p0.B == 0)))] mix hF (by kernel_rfl) (by kernel_rfl) (by kernel_rfl) ⟨Pd.mono_eq, Pd.mono_eq, trivial⟩ (fun hG => ⟨np_loadBox hG hF ty3 rfl rfl hb1 rfl rfl rfl, np_loadBox hG hF ty3 rfl rfl hb1 rfl rfl rfl, trivial⟩) (by kernel_rfl) fun fr w83 hF hE hc => then_normal ?_)
                            have hC := hC.trans hc
                            have z83 := hc.size
                            obtain rfl := Option.some.inj h
                            exact wp_ret (blk_ret (then_ret (ret1 rfl hF rfl ⟨_, rfl, rfl, hC⟩)))
                          · replace h := iteF hb h
                            refine (wp_skip ?_)
                            refine blk_normal (then_normal ?_)
                            refine wp_seq (wp_pure [(6, .bool false)] hF (by kernel_rfl) fun fr hF => then_normal ?_)
                            obtain rfl := Option.some.inj h
                            exact wp_ret (ret1 rfl hF rfl ⟨_, rfl, rfl, hC⟩)
                        · replace h := iteF hb h
                          refine (wp_pure [(3, .pointer (some ⟨b1, 0, none⟩)), (91, .bool (p0.Op == 14))] hF (by kernel_rfl) fun fr hF => then_normal ?_)
                          refine (wp_if hF (b := (p0.Op == 14)) rfl (fun hb => ?_) (fun hb => ?_))
                          · replace h := iteT hb h
                            refine wp_seq (region_b [] [true, false, true, true, true, false, true, true, true]
                                [.eq (.pointer (some ⟨b1, 1, none⟩)), .eq (.int .i64 p0.A), .eq (.bool (p0.A == 0)), .eq (.bool (p0.A == 0)), .eq (.pointer (some ⟨b1, 2, none⟩)), .eq (.int .i64 p0.B), .eq (.bool (p0.B == 0)), .eq (.bool ((p0.A == 0) && (p0.B == 0))), .eq (.bool ((p0.A == 0) && (p0.B == 0)))]
                                [(6, .bool ((p0.A == 0) && (p0.B == 0)))] mix hF (by kernel_rfl) (by kernel_rfl) (by kernel_rfl) ⟨Pd.mono_eq, Pd.mono_eq, trivial⟩ (fun hG => ⟨np_loadBox hG hF ty3 rfl rfl hb1 rfl rfl rfl, np_loadBox hG hF ty3 rfl rfl hb1 rfl rfl rfl, trivial⟩) (by kernel_rfl) fun fr w84 hF hE hc => then_normal ?_)
                            have hC := hC.trans hc
                            have z84 := hc.size
                            obtain rfl := Option.some.inj h
                            exact wp_ret (blk_ret (then_ret (ret1 rfl hF rfl ⟨_, rfl, rfl, hC⟩)))
                          · replace h := iteF hb h
                            refine (wp_skip ?_)
                            refine blk_normal (then_normal ?_)
                            refine wp_seq (wp_pure [(6, .bool false)] hF (by kernel_rfl) fun fr hF => then_normal ?_)
                            obtain rfl := Option.some.inj h
                            exact wp_ret (ret1 rfl hF rfl ⟨_, rfl, rfl, hC⟩)
                  · replace h := iteF hb h
                    refine (wp_pure [(3, .pointer (some ⟨b1, 0, none⟩)), (7, .bool ((decide (p0.B ≥ 0)) && (decide (p0.B ≤ p2)))), (37, .int .i64 p0.Op), (74, .bool (p0.Op == 11))] hF (by kernel_rfl) fun fr hF => then_normal ?_)
                    refine (wp_if hF (b := (p0.Op == 11)) rfl (fun hb => ?_) (fun hb => ?_))
                    · replace h := iteT hb h
                      refine wp_seq (region_b [] [true, false, true, true, true, true, true]
                          [.eq (.pointer (some ⟨b1, 1, none⟩)), .eq (.int .i64 p0.A), .eq (.bool (p0.A == 0)), .eq (.bool (p0.A == 0)), .eq (.bool ((decide (p0.B ≥ 0)) && (decide (p0.B ≤ p2)))), .eq (.bool ((p0.A == 0) && ((decide (p0.B ≥ 0)) && (decide (p0.B ≤ p2))))), .eq (.bool ((p0.A == 0) && ((decide (p0.B ≥ 0)) && (decide (p0.B ≤ p2)))))]
                          [(6, .bool ((p0.A == 0) && ((decide (p0.B ≥ 0)) && (decide (p0.B ≤ p2)))))] mix hF (by kernel_rfl) (by kernel_rfl) (by kernel_rfl) ⟨Pd.mono_eq, trivial⟩ (fun hG => ⟨np_loadBox hG hF ty3 rfl rfl hb1 rfl rfl rfl, trivial⟩) (by kernel_rfl) fun fr w85 hF hE hc => then_normal ?_)
                      have hC := hC.trans hc
                      have z85 := hc.size
                      obtain rfl := Option.some.inj h
                      exact wp_ret (blk_ret (then_ret (ret1 rfl hF rfl ⟨_, rfl, rfl, hC⟩)))
                    · replace h := iteF hb h
                      refine wp_seq (wp_pure [(3, .pointer (some ⟨b1, 0, none⟩)), (7, .bool ((decide (p0.B ≥ 0)) && (decide (p0.B ≤ p2)))), (37, .int .i64 p0.Op), (83, .bool (p0.Op == 10))] hF (by kernel_rfl) fun fr hF => then_normal ?_)
                      refine (wp_if hF (b := (p0.Op == 10)) rfl (fun hb => ?_) (fun hb => ?_))
                      · replace h := iteT hb h
                        obtain ⟨x38, hx38, h⟩ := bindE h
                        refine wp_seq (region_b [] [true, false, false, true, true, true, true]
                            [.eq (.pointer (some ⟨b1, 1, none⟩)), .eq (.int .i64 p0.A), .eq (.bool x38), .eq (.bool x38), .eq (.bool ((decide (p0.B ≥ 0)) && (decide (p0.B ≤ p2)))), .eq (.bool (x38 && ((decide (p0.B ≥ 0)) && (decide (p0.B ≤ p2))))), .eq (.bool (x38 && ((decide (p0.B ≥ 0)) && (decide (p0.B ≤ p2)))))]
                            [(6, .bool (x38 && ((decide (p0.B ≥ 0)) && (decide (p0.B ≤ p2)))))] mix hF (by kernel_rfl) (by kernel_rfl) (by kernel_rfl) ⟨Pd.mono_eq, Pd.mono_eq, trivial⟩ (fun hG => ⟨np_loadBox hG hF ty3 rfl rfl hb1 rfl rfl rfl, np_call [.int .i64 p0.A] hG hF Try.call90 rfl rfl (fun w hC hg => (impl_isReg_ok p0.A hx38).mono fun e w' ⟨v, he, hv, hc⟩ => ⟨v, he, hc, hv⟩), trivial⟩) (by kernel_rfl) fun fr w86 hF hE hc => then_normal ?_)
                        have hC := hC.trans hc
                        have z86 := hc.size
                        obtain rfl := Option.some.inj h
                        exact wp_ret (blk_ret (then_ret (ret1 rfl hF rfl ⟨_, rfl, rfl, hC⟩)))
                      · replace h := iteF hb h
                        refine wp_seq ?_
                        refine wp_seq (wp_pure [(3, .pointer (some ⟨b1, 0, none⟩)), (37, .int .i64 p0.Op), (91, .bool (p0.Op == 12))] hF (by kernel_rfl) fun fr hF => then_normal ?_)
                        refine (wp_if hF (b := (p0.Op == 12)) rfl (fun hb => ?_) (fun hb => ?_))
                        · replace h := iteT hb h
                          refine (wp_skip (then_normal ?_))
                          refine (wp_if hF (b := (p0.Op == 12)) rfl (fun hb => ?_) (fun hb => ?_))
                          · replace h := iteT hb h
                            refine wp_seq (region_b [] [true, false, true, true, true, false, true, true, true]
                                [.eq (.pointer (some ⟨b1, 1, none⟩)), .eq (.int .i64 p0.A), .eq (.bool (p0.A == 0)), .eq (.bool (p0.A == 0)), .eq (.pointer (some ⟨b1, 2, none⟩)), .eq (.int .i64 p0.B), .eq (.bool (p0.B == 0)), .eq (.bool ((p0.A == 0) && (p0.B == 0))), .eq (.bool ((p0.A == 0) && (p0.B == 0)))]
                                [(6, .bool ((p0.A == 0) && (p0.B == 0)))] mix hF (by kernel_rfl) (by kernel_rfl) (by kernel_rfl) ⟨Pd.mono_eq, Pd.mono_eq, trivial⟩ (fun hG => ⟨np_loadBox hG hF ty3 rfl rfl hb1 rfl rfl rfl, np_loadBox hG hF ty3 rfl rfl hb1 rfl rfl rfl, trivial⟩) (by kernel_rfl) fun fr w87 hF hE hc => then_normal ?_)
                            have hC := hC.trans hc
                            have z87 := hc.size
                            obtain rfl := Option.some.inj h
                            exact wp_ret (blk_ret (then_ret (ret1 rfl hF rfl ⟨_, rfl, rfl, hC⟩)))
                          · replace h := iteF hb h
                            refine (wp_skip ?_)
                            refine blk_normal (then_normal ?_)
                            refine wp_seq (wp_pure [(6, .bool false)] hF (by kernel_rfl) fun fr hF => then_normal ?_)
                            obtain rfl := Option.some.inj h
                            exact wp_ret (ret1 rfl hF rfl ⟨_, rfl, rfl, hC⟩)
                        · replace h := iteF hb h
                          refine (wp_pure [(3, .pointer (some ⟨b1, 0, none⟩)), (91, .bool (p0.Op == 14))] hF (by kernel_rfl) fun fr hF => then_normal ?_)
                          refine (wp_if hF (b := (p0.Op == 14)) rfl (fun hb => ?_) (fun hb => ?_))
                          · replace h := iteT hb h
                            refine wp_seq (region_b [] [true, false, true, true, true, false, true, true, true]
                                [.eq (.pointer (some ⟨b1, 1, none⟩)), .eq (.int .i64 p0.A), .eq (.bool (p0.A == 0)), .eq (.bool (p0.A == 0)), .eq (.pointer (some ⟨b1, 2, none⟩)), .eq (.int .i64 p0.B), .eq (.bool (p0.B == 0)), .eq (.bool ((p0.A == 0) && (p0.B == 0))), .eq (.bool ((p0.A == 0) && (p0.B == 0)))]
                                [(6, .bool ((p0.A == 0) && (p0.B == 0)))] mix hF (by kernel_rfl) (by kernel_rfl) (by kernel_rfl) ⟨Pd.mono_eq, Pd.mono_eq, trivial⟩ (fun hG => ⟨np_loadBox hG hF ty3 rfl rfl hb1 rfl rfl rfl, np_loadBox hG hF ty3 rfl rfl hb1 rfl rfl rfl, trivial⟩) (by kernel_rfl) fun fr w88 hF hE hc => then_normal ?_)
                            have hC := hC.trans hc
                            have z88 := hc.size
                            obtain rfl := Option.some.inj h
                            exact wp_ret (blk_ret (then_ret (ret1 rfl hF rfl ⟨_, rfl, rfl, hC⟩)))
                          · replace h := iteF hb h
                            refine (wp_skip ?_)
                            refine blk_normal (then_normal ?_)
                            refine wp_seq (wp_pure [(6, .bool false)] hF (by kernel_rfl) fun fr hF => then_normal ?_)
                            obtain rfl := Option.some.inj h
                            exact wp_ret (ret1 rfl hF rfl ⟨_, rfl, rfl, hC⟩)
              · replace h := iteF hb h
                refine wp_seq (wp_pure [(3, .pointer (some ⟨b1, 0, none⟩)), (7, .bool ((decide (p0.B ≥ 0)) && (decide (p0.B ≤ p2)))), (37, .int .i64 p0.Op), (61, .bool (p0.Op == 5))] hF (by kernel_rfl) fun fr hF => then_normal ?_)
                refine (wp_if hF (b := (p0.Op == 5)) rfl (fun hb => ?_) (fun hb => ?_))
                · replace h := iteT hb h
                  refine (wp_skip (then_normal ?_))
                  refine (wp_if hF (b := (p0.Op == 5)) rfl (fun hb => ?_) (fun hb => ?_))
                  · replace h := iteT hb h
                    obtain ⟨x39, hx39, h⟩ := bindE h
                    refine wp_seq (region_b [] [true, false, false, true, true, false, true, true, true]
                        [.eq (.pointer (some ⟨b1, 1, none⟩)), .eq (.int .i64 p0.A), .eq (.bool x39), .eq (.bool x39), .eq (.pointer (some ⟨b1, 2, none⟩)), .eq (.int .i64 p0.B), .eq (.bool (p0.B == 0)), .eq (.bool (x39 && (p0.B == 0))), .eq (.bool (x39 && (p0.B == 0)))]
                        [(6, .bool (x39 && (p0.B == 0)))] mix hF (by kernel_rfl) (by kernel_rfl) (by kernel_rfl) ⟨Pd.mono_eq, Pd.mono_eq, Pd.mono_eq, trivial⟩ (fun hG => ⟨np_loadBox hG hF ty3 rfl rfl hb1 rfl rfl rfl, np_call [.int .i64 p0.A] hG hF Try.call90 rfl rfl (fun w hC hg => (impl_isReg_ok p0.A hx39).mono fun e w' ⟨v, he, hv, hc⟩ => ⟨v, he, hc, hv⟩), np_loadBox hG hF ty3 rfl rfl hb1 rfl rfl rfl, trivial⟩) (by kernel_rfl) fun fr w89 hF hE hc => then_normal ?_)
                    have hC := hC.trans hc
                    have z89 := hc.size
                    obtain rfl := Option.some.inj h
                    exact wp_ret (blk_ret (then_ret (ret1 rfl hF rfl ⟨_, rfl, rfl, hC⟩)))
                  · replace h := iteF hb h
                    refine wp_seq ?_
                    refine wp_seq (wp_pure [(3, .pointer (some ⟨b1, 0, none⟩)), (7, .bool ((decide (p0.B ≥ 0)) && (decide (p0.B ≤ p2)))), (37, .int .i64 p0.Op), (74, .bool (p0.Op == 9))] hF (by kernel_rfl) fun fr hF => then_normal ?_)
                    refine (wp_if hF (b := (p0.Op == 9)) rfl (fun hb => ?_) (fun hb => ?_))
                    · replace h := iteT hb h
                      refine (wp_skip (then_normal ?_))
                      refine (wp_if hF (b := (p0.Op == 9)) rfl (fun hb => ?_) (fun hb => ?_))
                      · replace h := iteT hb h
                        refine wp_seq (region_b [] [true, false, true, true, true, true, true]
                            [.eq (.pointer (some ⟨b1, 1, none⟩)), .eq (.int .i64 p0.A), .eq (.bool (p0.A == 0)), .eq (.bool (p0.A == 0)), .eq (.bool ((decide (p0.B ≥ 0)) && (decide (p0.B ≤ p2)))), .eq (.bool ((p0.A == 0) && ((decide (p0.B ≥ 0)) && (decide (p0.B ≤ p2))))), .eq (.bool ((p0.A == 0) && ((decide (p0.B ≥ 0)) && (decide (p0.B ≤ p2)))))]
                            [(6, .bool ((p0.A == 0) && ((decide (p0.B ≥ 0)) && (decide (p0.B ≤ p2)))))] mix hF (by kernel_rfl) (by kernel_rfl) (by kernel_rfl) ⟨Pd.mono_eq, trivial⟩ (fun hG => ⟨np_loadBox hG hF ty3 rfl rfl hb1 rfl rfl rfl, trivial⟩) (by kernel_rfl) fun fr w90 hF hE hc => then_normal ?_)
                        have hC := hC.trans hc
                        have z90 := hc.size
                        obtain rfl := Option.some.inj h
                        exact wp_ret (blk_ret (then_ret (ret1 rfl hF rfl ⟨_, rfl, rfl, hC⟩)))
                      · replace h := iteF hb h
                        refine wp_seq (wp_pure [(3, .pointer (some ⟨b1, 0, none⟩)), (7, .bool ((decide (p0.B ≥ 0)) && (decide (p0.B ≤ p2)))), (37, .int .i64 p0.Op), (83, .bool (p0.Op == 10))] hF (by kernel_rfl) fun fr hF => then_normal ?_)
                        refine (wp_if hF (b := (p0.Op == 10)) rfl (fun hb => ?_) (fun hb => ?_))
                        · replace h := iteT hb h
                          obtain ⟨x40, hx40, h⟩ := bindE h
                          refine wp_seq (region_b [] [true, false, false, true, true, true, true]
                              [.eq (.pointer (some ⟨b1, 1, none⟩)), .eq (.int .i64 p0.A), .eq (.bool x40), .eq (.bool x40), .eq (.bool ((decide (p0.B ≥ 0)) && (decide (p0.B ≤ p2)))), .eq (.bool (x40 && ((decide (p0.B ≥ 0)) && (decide (p0.B ≤ p2))))), .eq (.bool (x40 && ((decide (p0.B ≥ 0)) && (decide (p0.B ≤ p2)))))]
                              [(6, .bool (x40 && ((decide (p0.B ≥ 0)) && (decide (p0.B ≤ p2)))))] mix hF (by kernel_rfl) (by kernel_rfl) (by kernel_rfl) ⟨Pd.mono_eq, Pd.mono_eq, trivial⟩ (fun hG => ⟨np_loadBox hG hF ty3 rfl rfl hb1 rfl rfl rfl, np_call [.int .i64 p0.A] hG hF Try.call90 rfl rfl (fun w hC hg => (impl_isReg_ok p0.A hx40).mono fun e w' ⟨v, he, hv, hc⟩ => ⟨v, he, hc, hv⟩), trivial⟩) (by kernel_rfl) fun fr w91 hF hE hc => then_normal ?_)
                          have hC := hC.trans hc
                          have z91 := hc.size
                          obtain rfl := Option.some.inj h
                          exact wp_ret (blk_ret (then_ret (ret1 rfl hF rfl ⟨_, rfl, rfl, hC⟩)))
                        · replace h := iteF hb h
                          refine wp_seq ?_
                          refine wp_seq (wp_pure [(3, .pointer (some ⟨b1, 0, none⟩)), (37, .int .i64 p0.Op), (91, .bool (p0.Op == 12))] hF (by kernel_rfl) fun fr hF => then_normal ?_)
                          refine (wp_if hF (b := (p0.Op == 12)) rfl (fun hb => ?_) (fun hb => ?_))
                          · replace h := iteT hb h
                            refine (wp_skip (then_normal ?_))
                            refine (wp_if hF (b := (p0.Op == 12)) rfl (fun hb => ?_) (fun hb => ?_))
                            · replace h := iteT hb h
                              refine wp_seq (region_b [] [true, false, true, true, true, false, true, true, true]
                                  [.eq (.pointer (some ⟨b1, 1, none⟩)), .eq (.int .i64 p0.A), .eq (.bool (p0.A == 0)), .eq (.bool (p0.A == 0)), .eq (.pointer (some ⟨b1, 2, none⟩)), .eq (.int .i64 p0.B), .eq (.bool (p0.B == 0)), .eq (.bool ((p0.A == 0) && (p0.B == 0))), .eq (.bool ((p0.A == 0) && (p0.B == 0)))]
                                  [(6, .bool ((p0.A == 0) && (p0.B == 0)))] mix hF (by kernel_rfl) (by kernel_rfl) (by kernel_rfl) ⟨Pd.mono_eq, Pd.mono_eq, trivial⟩ (fun hG => ⟨np_loadBox hG hF ty3 rfl rfl hb1 rfl rfl rfl, np_loadBox hG hF ty3 rfl rfl hb1 rfl rfl rfl, trivial⟩) (by kernel_rfl) fun fr w92 hF hE hc => then_normal ?_)
                              have hC := hC.trans hc
                              have z92 := hc.size
                              obtain rfl := Option.some.inj h
                              exact wp_ret (blk_ret (then_ret (ret1 rfl hF rfl ⟨_, rfl, rfl, hC⟩)))
                            · replace h := iteF hb h
                              refine (wp_skip ?_)
                              refine blk_normal (then_normal ?_)
                              refine wp_seq (wp_pure [(6, .bool false)] hF (by kernel_rfl) fun fr hF => then_normal ?_)
                              obtain rfl := Option.some.inj h
                              exact wp_ret (ret1 rfl hF rfl ⟨_, rfl, rfl, hC⟩)
                          · replace h := iteF hb h
                            refine (wp_pure [(3, .pointer (some ⟨b1, 0, none⟩)), (91, .bool (p0.Op == 14))] hF (by kernel_rfl) fun fr hF => then_normal ?_)
                            refine (wp_if hF (b := (p0.Op == 14)) rfl (fun hb => ?_) (fun hb => ?_))
                            · replace h := iteT hb h
                              refine wp_seq (region_b [] [true, false, true, true, true, false, true, true, true]
                                  [.eq (.pointer (some ⟨b1, 1, none⟩)), .eq (.int .i64 p0.A), .eq (.bool (p0.A == 0)), .eq (.bool (p0.A == 0)), .eq (.pointer (some ⟨b1, 2, none⟩)), .eq (.int .i64 p0.B), .eq (.bool (p0.B == 0)), .eq (.bool ((p0.A == 0) && (p0.B == 0))), .eq (.bool ((p0.A == 0) && (p0.B == 0)))]
                                  [(6, .bool ((p0.A == 0) && (p0.B == 0)))] mix hF (by kernel_rfl) (by kernel_rfl) (by kernel_rfl) ⟨Pd.mono_eq, Pd.mono_eq, trivial⟩ (fun hG => ⟨np_loadBox hG hF ty3 rfl rfl hb1 rfl rfl rfl, np_loadBox hG hF ty3 rfl rfl hb1 rfl rfl rfl, trivial⟩) (by kernel_rfl) fun fr w93 hF hE hc => then_normal ?_)
                              have hC := hC.trans hc
                              have z93 := hc.size
                              obtain rfl := Option.some.inj h
                              exact wp_ret (blk_ret (then_ret (ret1 rfl hF rfl ⟨_, rfl, rfl, hC⟩)))
                            · replace h := iteF hb h
                              refine (wp_skip ?_)
                              refine blk_normal (then_normal ?_)
                              refine wp_seq (wp_pure [(6, .bool false)] hF (by kernel_rfl) fun fr hF => then_normal ?_)
                              obtain rfl := Option.some.inj h
                              exact wp_ret (ret1 rfl hF rfl ⟨_, rfl, rfl, hC⟩)
                    · replace h := iteF hb h
                      refine (wp_pure [(3, .pointer (some ⟨b1, 0, none⟩)), (7, .bool ((decide (p0.B ≥ 0)) && (decide (p0.B ≤ p2)))), (37, .int .i64 p0.Op), (74, .bool (p0.Op == 11))] hF (by kernel_rfl) fun fr hF => then_normal ?_)
                      refine (wp_if hF (b := (p0.Op == 11)) rfl (fun hb => ?_) (fun hb => ?_))
                      · replace h := iteT hb h
                        refine wp_seq (region_b [] [true, false, true, true, true, true, true]
                            [.eq (.pointer (some ⟨b1, 1, none⟩)), .eq (.int .i64 p0.A), .eq (.bool (p0.A == 0)), .eq (.bool (p0.A == 0)), .eq (.bool ((decide (p0.B ≥ 0)) && (decide (p0.B ≤ p2)))), .eq (.bool ((p0.A == 0) && ((decide (p0.B ≥ 0)) && (decide (p0.B ≤ p2))))), .eq (.bool ((p0.A == 0) && ((decide (p0.B ≥ 0)) && (decide (p0.B ≤ p2)))))]
                            [(6, .bool ((p0.A == 0) && ((decide (p0.B ≥ 0)) && (decide (p0.B ≤ p2)))))] mix hF (by kernel_rfl) (by kernel_rfl) (by kernel_rfl) ⟨Pd.mono_eq, trivial⟩ (fun hG => ⟨np_loadBox hG hF ty3 rfl rfl hb1 rfl rfl rfl, trivial⟩) (by kernel_rfl) fun fr w94 hF hE hc => then_normal ?_)
                        have hC := hC.trans hc
                        have z94 := hc.size
                        obtain rfl := Option.some.inj h
                        exact wp_ret (blk_ret (then_ret (ret1 rfl hF rfl ⟨_, rfl, rfl, hC⟩)))
                      · replace h := iteF hb h
                        refine wp_seq (wp_pure [(3, .pointer (some ⟨b1, 0, none⟩)), (7, .bool ((decide (p0.B ≥ 0)) && (decide (p0.B ≤ p2)))), (37, .int .i64 p0.Op), (83, .bool (p0.Op == 10))] hF (by kernel_rfl) fun fr hF => then_normal ?_)
                        refine (wp_if hF (b := (p0.Op == 10)) rfl (fun hb => ?_) (fun hb => ?_))
                        · replace h := iteT hb h
                          obtain ⟨x41, hx41, h⟩ := bindE h
                          refine wp_seq (region_b [] [true, false, false, true, true, true, true]
                              [.eq (.pointer (some ⟨b1, 1, none⟩)), .eq (.int .i64 p0.A), .eq (.bool x41), .eq (.bool x41), .eq (.bool ((decide (p0.B ≥ 0)) && (decide (p0.B ≤ p2)))), .eq (.bool (x41 && ((decide (p0.B ≥ 0)) && (decide (p0.B ≤ p2))))), .eq (.bool (x41 && ((decide (p0.B ≥ 0)) && (decide (p0.B ≤ p2)))))]
                              [(6, .bool (x41 && ((decide (p0.B ≥ 0)) && (decide (p0.B ≤ p2)))))] mix hF (by kernel_rfl) (by kernel_rfl) (by kernel_rfl) ⟨Pd.mono_eq, Pd.mono_eq, trivial⟩ (fun hG => ⟨np_loadBox hG hF ty3 rfl rfl hb1 rfl rfl rfl, np_call [.int .i64 p0.A] hG hF Try.call90 rfl rfl (fun w hC hg => (impl_isReg_ok p0.A hx41).mono fun e w' ⟨v, he, hv, hc⟩ => ⟨v, he, hc, hv⟩), trivial⟩) (by kernel_rfl) fun fr w95 hF hE hc => then_normal ?_)
                          have hC := hC.trans hc
                          have z95 := hc.size
                          obtain rfl := Option.some.inj h
                          exact wp_ret (blk_ret (then_ret (ret1 rfl hF rfl ⟨_, rfl, rfl, hC⟩)))
                        · replace h := iteF hb h
                          refine wp_seq ?_
                          refine wp_seq (wp_pure [(3, .pointer (some ⟨b1, 0, none⟩)), (37, .int .i64 p0.Op), (91, .bool (p0.Op == 12))] hF (by kernel_rfl) fun fr hF => then_normal ?_)
                          refine (wp_if hF (b := (p0.Op == 12)) rfl (fun hb => ?_) (fun hb => ?_))
                          · replace h := iteT hb h
                            refine (wp_skip (then_normal ?_))
                            refine (wp_if hF (b := (p0.Op == 12)) rfl (fun hb => ?_) (fun hb => ?_))
                            · replace h := iteT hb h
                              refine wp_seq (region_b [] [true, false, true, true, true, false, true, true, true]
                                  [.eq (.pointer (some ⟨b1, 1, none⟩)), .eq (.int .i64 p0.A), .eq (.bool (p0.A == 0)), .eq (.bool (p0.A == 0)), .eq (.pointer (some ⟨b1, 2, none⟩)), .eq (.int .i64 p0.B), .eq (.bool (p0.B == 0)), .eq (.bool ((p0.A == 0) && (p0.B == 0))), .eq (.bool ((p0.A == 0) && (p0.B == 0)))]
                                  [(6, .bool ((p0.A == 0) && (p0.B == 0)))] mix hF (by kernel_rfl) (by kernel_rfl) (by kernel_rfl) ⟨Pd.mono_eq, Pd.mono_eq, trivial⟩ (fun hG => ⟨np_loadBox hG hF ty3 rfl rfl hb1 rfl rfl rfl, np_loadBox hG hF ty3 rfl rfl hb1 rfl rfl rfl, trivial⟩) (by kernel_rfl) fun fr w96 hF hE hc => then_normal ?_)
                              have hC := hC.trans hc
                              have z96 := hc.size
                              obtain rfl := Option.some.inj h
                              exact wp_ret (blk_ret (then_ret (ret1 rfl hF rfl ⟨_, rfl, rfl, hC⟩)))
                            · replace h := iteF hb h
                              refine (wp_skip ?_)
                              refine blk_normal (then_normal ?_)
                              refine wp_seq (wp_pure [(6, .bool false)] hF (by kernel_rfl) fun fr hF => then_normal ?_)
                              obtain rfl := Option.some.inj h
                              exact wp_ret (ret1 rfl hF rfl ⟨_, rfl, rfl, hC⟩)
                          · replace h := iteF hb h
                            refine (wp_pure [(3, .pointer (some ⟨b1, 0, none⟩)), (91, .bool (p0.Op == 14))] hF (by kernel_rfl) fun fr hF => then_normal ?_)
                            refine (wp_if hF (b := (p0.Op == 14)) rfl (fun hb => ?_) (fun hb => ?_))
                            · replace h := iteT hb h
                              refine wp_seq (region_b [] [true, false, true, true, true, false, true, true, true]
                                  [.eq (.pointer (some ⟨b1, 1, none⟩)), .eq (.int .i64 p0.A), .eq (.bool (p0.A == 0)), .eq (.bool (p0.A == 0)), .eq (.pointer (some ⟨b1, 2, none⟩)), .eq (.int .i64 p0.B), .eq (.bool (p0.B == 0)), .eq (.bool ((p0.A == 0) && (p0.B == 0))), .eq (.bool ((p0.A == 0) && (p0.B == 0)))]
                                  [(6, .bool ((p0.A == 0) && (p0.B == 0)))] mix hF (by kernel_rfl) (by kernel_rfl) (by kernel_rfl) ⟨Pd.mono_eq, Pd.mono_eq, trivial⟩ (fun hG => ⟨np_loadBox hG hF ty3 rfl rfl hb1 rfl rfl rfl, np_loadBox hG hF ty3 rfl rfl hb1 rfl rfl rfl, trivial⟩) (by kernel_rfl) fun fr w97 hF hE hc => then_normal ?_)
                              have hC := hC.trans hc
                              have z97 := hc.size
                              obtain rfl := Option.some.inj h
                              exact wp_ret (blk_ret (then_ret (ret1 rfl hF rfl ⟨_, rfl, rfl, hC⟩)))
                            · replace h := iteF hb h
                              refine (wp_skip ?_)
                              refine blk_normal (then_normal ?_)
                              refine wp_seq (wp_pure [(6, .bool false)] hF (by kernel_rfl) fun fr hF => then_normal ?_)
                              obtain rfl := Option.some.inj h
                              exact wp_ret (ret1 rfl hF rfl ⟨_, rfl, rfl, hC⟩)
                · replace h := iteF hb h
                  refine wp_seq (wp_pure [(3, .pointer (some ⟨b1, 0, none⟩)), (7, .bool ((decide (p0.B ≥ 0)) && (decide (p0.B ≤ p2)))), (37, .int .i64 p0.Op), (61, .bool (p0.Op == 6))] hF (by kernel_rfl) fun fr hF => then_normal ?_)
                  refine (wp_if hF (b := (p0.Op == 6)) rfl (fun hb => ?_) (fun hb => ?_))
                  · replace h := iteT hb h
                    refine (wp_skip (then_normal ?_))
                    refine (wp_if hF (b := (p0.Op == 6)) rfl (fun hb => ?_) (fun hb => ?_))
                    · replace h := iteT hb h
                      obtain ⟨x42, hx42, h⟩ := bindE h
                      refine wp_seq (region_b [] [true, false, false, true, true, false, true, true, true]
                          [.eq (.pointer (some ⟨b1, 1, none⟩)), .eq (.int .i64 p0.A), .eq (.bool x42), .eq (.bool x42), .eq (.pointer (some ⟨b1, 2, none⟩)), .eq (.int .i64 p0.B), .eq (.bool (p0.B == 0)), .eq (.bool (x42 && (p0.B == 0))), .eq (.bool (x42 && (p0.B == 0)))]
                          [(6, .bool (x42 && (p0.B == 0)))] mix hF (by kernel_rfl) (by kernel_rfl) (by kernel_rfl) ⟨Pd.mono_eq, Pd.mono_eq, Pd.mono_eq, trivial⟩ (fun hG => ⟨np_loadBox hG hF ty3 rfl rfl hb1 rfl rfl rfl, np_call [.int .i64 p0.A] hG hF Try.call90 rfl rfl (fun w hC hg => (impl_isReg_ok p0.A hx42).mono fun e w' ⟨v, he, hv, hc⟩ => ⟨v, he, hc, hv⟩), np_loadBox hG hF ty3 rfl rfl hb1 rfl rfl rfl, trivial⟩) (by kernel_rfl) fun fr w98 hF hE hc => then_normal ?_)
                      have hC := hC.trans hc
                      have z98 := hc.size
                      obtain rfl := Option.some.inj h
                      exact wp_ret (blk_ret (then_ret (ret1 rfl hF rfl ⟨_, rfl, rfl, hC⟩)))
                    · replace h := iteF hb h
                      refine wp_seq ?_
                      refine wp_seq (wp_pure [(3, .pointer (some ⟨b1, 0, none⟩)), (7, .bool ((decide (p0.B ≥ 0)) && (decide (p0.B ≤ p2)))), (37, .int .i64 p0.Op), (74, .bool (p0.Op == 9))] hF (by kernel_rfl) fun fr hF => then_normal ?_)
                      refine (wp_if hF (b := (p0.Op == 9)) rfl (fun hb => ?_) (fun hb => ?_))
                      · replace h := iteT hb h
                        refine (wp_skip (then_normal ?_))
                        refine (wp_if hF (b := (p0.Op == 9)) rfl (fun hb => ?_) (fun hb => ?_))
                        · replace h := iteT hb h
                          refine wp_seq (region_b [] [true, false, true, true, true, true, true]
                              [.eq (.pointer (some ⟨b1, 1, none⟩)), .eq (.int .i64 p0.A), .eq (.bool (p0.A == 0)), .eq (.bool (p0.A == 0)), .eq (.bool ((decide (p0.B ≥ 0)) && (decide (p0.B ≤ p2)))), .eq (.bool ((p0.A == 0) && ((decide (p0.B ≥ 0)) && (decide (p0.B ≤ p2))))), .eq (.bool ((p0.A == 0) && ((decide (p0.B ≥ 0)) && (decide (p0.B ≤ p2)))))]
                              [(6, .bool ((p0.A == 0) && ((decide (p0.B ≥ 0)) && (decide (p0.B ≤ p2)))))] mix hF (by kernel_rfl) (by kernel_rfl) (by kernel_rfl) ⟨Pd.mono_eq, trivial⟩ (fun hG => ⟨np_loadBox hG hF ty3 rfl rfl hb1 rfl rfl rfl, trivial⟩) (by kernel_rfl) fun fr w99 hF hE hc => then_normal ?_)
                          have hC := hC.trans hc
                          have z99 := hc.size
                          obtain rfl := Option.some.inj h
                          exact wp_ret (blk_ret (then_ret (ret1 rfl hF rfl ⟨_, rfl, rfl, hC⟩)))
                        · replace h := iteF hb h
                          refine wp_seq (wp_pure [(3, .pointer (some ⟨b1, 0, none⟩)), (7, .bool ((decide (p0.B ≥ 0)) && (decide (p0.B ≤ p2)))), (37, .int .i64 p0.Op), (83, .bool (p0.Op == 10))] hF (by kernel_rfl) fun fr hF => then_normal ?_)
                          refine (wp_if hF (b := (p0.Op == 10)) rfl (fun hb => ?_) (fun hb => ?_))
                          · replace h := iteT hb h
                            obtain ⟨x43, hx43, h⟩ := bindE h
                            refine wp_seq (region_b [] [true, false, false, true, true, true, true]
                                [.eq (.pointer (some ⟨b1, 1, none⟩)), .eq (.int .i64 p0.A), .eq (.bool x43), .eq (.bool x43), .eq (.bool ((decide (p0.B ≥ 0)) && (decide (p0.B ≤ p2)))), .eq (.bool (x43 && ((decide (p0.B ≥ 0)) && (decide (p0.B ≤ p2))))), .eq (.bool (x43 && ((decide (p0.B ≥ 0)) && (decide (p0.B ≤ p2)))))]
                                [(6, .bool (x43 && ((decide (p0.B ≥ 0)) && (decide (p0.B ≤ p2)))))] mix hF (by kernel_rfl) (by kernel_rfl) (by kernel_rfl) ⟨Pd.mono_eq, Pd.mono_eq, trivial⟩ (fun hG => ⟨np_loadBox hG hF ty3 rfl rfl hb1 rfl rfl rfl, np_call [.int .i64 p0.A] hG hF Try.call90 rfl rfl (fun w hC hg => (impl_isReg_ok p0.A hx43).mono fun e w' ⟨v, he, hv, hc⟩ => ⟨v, he, hc, hv⟩), trivial⟩) (by kernel_rfl) fun fr w100 hF hE hc => then_normal ?_)
                            have hC := hC.trans hc
                            have z100 := hc.size
                            obtain rfl := Option.some.inj h
                            exact wp_ret (blk_ret (then_ret (ret1 rfl hF rfl ⟨_, rfl, rfl, hC⟩)))
                          · replace h := iteF hb h
                            refine wp_seq ?_
                            refine wp_seq (wp_pure [(3, .pointer (some ⟨b1, 0, none⟩)), (37, .int .i64 p0.Op), (91, .bool (p0.Op == 12))] hF (by kernel_rfl) fun fr hF => then_normal ?_)
                            refine (wp_if hF (b := (p0.Op == 12)) rfl (fun hb => ?_) (fun hb => ?_))
                            · replace h := iteT hb h
                              refine (wp_skip (then_normal ?_))
                              refine (wp_if hF (b := (p0.Op == 12)) rfl (fun hb => ?_) (fun hb => ?_))
                              · replace h := iteT hb h
                                refine wp_seq (region_b [] [true, false, true, true, true, false, true, true, true]
                                    [.eq (.pointer (some ⟨b1, 1, none⟩)), .eq (.int .i64 p0.A), .eq (.bool (p0.A == 0)), .eq (.bool (p0.A == 0)), .eq (.pointer (some ⟨b1, 2, none⟩)), .eq (.int .i64 p0.B), .eq (.bool (p0.B == 0)), .eq (.bool ((p0.A == 0) && (p0.B == 0))), .eq (.bool ((p0.A == 0) && (p0.B == 0)))]
                                    [(6, .bool ((p0.A == 0) && (p0.B == 0)))] mix hF (by kernel_rfl) (by kernel_rfl) (by kernel_rfl) ⟨Pd.mono_eq, Pd.mono_eq, trivial⟩ (fun hG => ⟨np_loadBox hG hF ty3 rfl rfl hb1 rfl rfl rfl, np_loadBox hG hF ty3 rfl rfl hb1 rfl rfl rfl, trivial⟩) (by kernel_rfl) fun fr w101 hF hE hc => then_normal ?_)
                                have hC := hC.trans hc
                                have z101 := hc.size
                                obtain rfl := Option.some.inj h
                                exact wp_ret (blk_ret (then_ret (ret1 rfl hF rfl ⟨_, rfl, rfl, hC⟩)))
                              · replace h := iteF hb h
                                refine (wp_skip ?_)
                                refine blk_normal (then_normal ?_)
                                refine wp_seq (wp_pure [(6, .bool false)] hF (by kernel_rfl) fun fr hF => then_normal ?_)
                                obtain rfl := Option.some.inj h
                                exact wp_ret (ret1 rfl hF rfl ⟨_, rfl, rfl, hC⟩)
                            · replace h := iteF hb h
                              refine (wp_pure [(3, .pointer (some ⟨b1, 0, none⟩)), (91, .bool (p0.Op == 14))] hF (by kernel_rfl) fun fr hF => then_normal ?_)
                              refine (wp_if hF (b := (p0.Op == 14)) rfl (fun hb => ?_) (fun hb => ?_))
                              · replace h := iteT hb h
                                refine wp_seq (region_b [] [true, false, true, true, true, false, true, true, true]
                                    [.eq (.pointer (some ⟨b1, 1, none⟩)), .eq (.int .i64 p0.A), .eq (.bool (p0.A == 0)), .eq (.bool (p0.A == 0)), .eq (.pointer (some ⟨b1, 2, none⟩)), .eq (.int .i64 p0.B), .eq (.bool (p0.B == 0)), .eq (.bool ((p0.A == 0) && (p0.B == 0))), .eq (.bool ((p0.A == 0) && (p0.B == 0)))]
                                    [(6, .bool ((p0.A == 0) && (p0.B == 0)))] mix hF (by kernel_rfl) (by kernel_rfl) (by kernel_rfl) ⟨Pd.mono_eq, Pd.mono_eq, trivial⟩ (fun hG => ⟨np_loadBox hG hF ty3 rfl rfl hb1 rfl rfl rfl, np_loadBox hG hF ty3 rfl rfl hb1 rfl rfl rfl, trivial⟩) (by kernel_rfl) fun fr w102 hF hE hc => then_normal ?_)
                                have hC := hC.trans hc
                                have z102 := hc.size
                                obtain rfl := Option.some.inj h
                                exact wp_ret (blk_ret (then_ret (ret1 rfl hF rfl ⟨_, rfl, rfl, hC⟩)))
                              · replace h := iteF hb h
                                refine (wp_skip ?_)
                                refine blk_normal (then_normal ?_)
                                refine wp_seq (wp_pure [(6, .bool false)] hF (by kernel_rfl) fun fr hF => then_normal ?_)
                                obtain rfl := Option.some.inj h
                                exact wp_ret (ret1 rfl hF rfl ⟨_, rfl, rfl, hC⟩)
                      · replace h := iteF hb h
                        refine (wp_pure [(3, .pointer (some ⟨b1, 0, none⟩)), (7, .bool ((decide (p0.B ≥ 0)) && (decide (p0.B ≤ p2)))), (37, .int .i64 p0.Op), (74, .bool (p0.Op == 11))] hF (by kernel_rfl) fun fr hF => then_normal ?_)
                        refine (wp_if hF (b := (p0.Op == 11)) rfl (fun hb => ?_) (fun hb => ?_))
                        · replace h := iteT hb h
                          refine wp_seq (region_b [] [true, false, true, true, true, true, true]
                              [.eq (.pointer (some ⟨b1, 1, none⟩)), .eq (.int .i64 p0.A), .eq (.bool (p0.A == 0)), .eq (.bool (p0.A == 0)), .eq (.bool ((decide (p0.B ≥ 0)) && (decide (p0.B ≤ p2)))), .eq (.bool ((p0.A == 0) && ((decide (p0.B ≥ 0)) && (decide (p0.B ≤ p2))))), .eq (.bool ((p0.A == 0) && ((decide (p0.B ≥ 0)) && (decide (p0.B ≤ p2)))))]
                              [(6, .bool ((p0.A == 0) && ((decide (p0.B ≥ 0)) && (decide (p0.B ≤ p2)))))] mix hF (by kernel_rfl) (by kernel_rfl) (by kernel_rfl) ⟨Pd.mono_eq, trivial⟩ (fun hG => ⟨np_loadBox hG hF ty3 rfl rfl hb1 rfl rfl rfl, trivial⟩) (by kernel_rfl) fun fr w103 hF hE hc => then_normal ?_)
                          have hC := hC.trans hc
                          have z103 := hc.size
                          obtain rfl := Option.some.inj h
                          exact wp_ret (blk_ret (then_ret (ret1 rfl hF rfl ⟨_, rfl, rfl, hC⟩)))
                        · replace h := iteF hb h
                          refine wp_seq (wp_pure [(3, .pointer (some ⟨b1, 0, none⟩)), (7, .bool ((decide (p0.B ≥ 0)) && (decide (p0.B ≤ p2)))), (37, .int .i64 p0.Op), (83, .bool (p0.Op == 10))] hF (by kernel_rfl) fun fr hF => then_normal ?_)
                          refine (wp_if hF (b := (p0.Op == 10)) rfl (fun hb => ?_) (fun hb => ?_))
                          · replace h := iteT hb h
                            obtain ⟨x44, hx44, h⟩ := bindE h
                            refine wp_seq (region_b [] [true, false, false, true, true, true, true]
                                [.eq (.pointer (some ⟨b1, 1, none⟩)), .eq (.int .i64 p0.A), .eq (.bool x44), .eq (.bool x44), .eq (.bool ((decide (p0.B ≥ 0)) && (decide (p0.B ≤ p2)))), .eq (.bool (x44 && ((decide (p0.B ≥ 0)) && (decide (p0.B ≤ p2))))), .eq (.bool (x44 && ((decide (p0.B ≥ 0)) && (decide (p0.B ≤ p2)))))]
                                [(6, .bool (x44 && ((decide (p0.B ≥ 0)) && (decide (p0.B ≤ p2)))))] mix hF (by kernel_rfl) (by kernel_rfl) (by kernel_rfl) ⟨Pd.mono_eq, Pd.mono_eq, trivial⟩ (fun hG => ⟨np_loadBox hG hF ty3 rfl rfl hb1 rfl rfl rfl, np_call [.int .i64 p0.A] hG hF Try.call90 rfl rfl (fun w hC hg => (impl_isReg_ok p0.A hx44).mono fun e w' ⟨v, he, hv, hc⟩ => ⟨v, he, hc, hv⟩), trivial⟩) (by kernel_rfl) fun fr w104 hF hE hc => then_normal ?_)
                            have hC := hC.trans hc
                            have z104 := hc.size
                            obtain rfl := Option.some.inj h
                            exact wp_ret (blk_ret (then_ret (ret1 rfl hF rfl ⟨_, rfl, rfl, hC⟩)))
                          · replace h := iteF hb h
                            refine wp_seq ?_
                            refine wp_seq (wp_pure [(3, .pointer (some ⟨b1, 0, none⟩)), (37, .int .i64 p0.Op), (91, .bool (p0.Op == 12))] hF (by kernel_rfl) fun fr hF => then_normal ?_)
                            refine (wp_if hF (b := (p0.Op == 12)) rfl (fun hb => ?_) (fun hb => ?_))
                            · replace h := iteT hb h
                              refine (wp_skip (then_normal ?_))
                              refine (wp_if hF (b := (p0.Op == 12)) rfl (fun hb => ?_) (fun hb => ?_))
                              · replace h := iteT hb h
                                refine wp_seq (region_b [] [true, false, true, true, true, false, true, true, true]
                                    [.eq (.pointer (some ⟨b1, 1, none⟩)), .eq (.int .i64 p0.A), .eq (.bool (p0.A == 0)), .eq (.bool (p0.A == 0)), .eq (.pointer (some ⟨b1, 2, none⟩)), .eq (.int .i64 p0.B), .eq (.bool (p0.B == 0)), .eq (.bool ((p0.A == 0) && (p0.B == 0))), .eq (.bool ((p0.A == 0) && (p0.B == 0)))]
                                    [(6, .bool ((p0.A == 0) && (p0.B == 0)))] mix hF (by kernel_rfl) (by kernel_rfl) (by kernel_rfl) ⟨Pd.mono_eq, Pd.mono_eq, trivial⟩ (fun hG => ⟨np_loadBox hG hF ty3 rfl rfl hb1 rfl rfl rfl, np_loadBox hG hF ty3 rfl rfl hb1 rfl rfl rfl, trivial⟩) (by kernel_rfl) fun fr w105 hF hE hc => then_normal ?_)
                                have hC := hC.trans hc
                                have z105 := hc.size
                                obtain rfl := Option.some.inj h
                                exact wp_ret (blk_ret (then_ret (ret1 rfl hF rfl ⟨_, rfl, rfl, hC⟩)))
                              · replace h := iteF hb h
                                refine (wp_skip ?_)
                                refine blk_normal (then_normal ?_)
                                refine wp_seq (wp_pure [(6, .bool false)] hF (by kernel_rfl) fun fr hF => then_normal ?_)
                                obtain rfl := Option.some.inj h
                                exact wp_ret (ret1 rfl hF rfl ⟨_, rfl, rfl, hC⟩)
                            · replace h := iteF hb h
                              refine (wp_pure [(3, .pointer (some ⟨b1, 0, none⟩)), (91, .bool (p0.Op == 14))] hF (by kernel_rfl) fun fr hF => then_normal ?_)
                              refine (wp_if hF (b := (p0.Op == 14)) rfl (fun hb => ?_) (fun hb => ?_))
                              · replace h := iteT hb h
                                refine wp_seq (region_b [] [true, false, true, true, true, false, true, true, true]
                                    [.eq (.pointer (some ⟨b1, 1, none⟩)), .eq (.int .i64 p0.A), .eq (.bool (p0.A == 0)), .eq (.bool (p0.A == 0)), .eq (.pointer (some ⟨b1, 2, none⟩)), .eq (.int .i64 p0.B), .eq (.bool (p0.B == 0)), .eq (.bool ((p0.A == 0) && (p0.B == 0))), .eq (.bool ((p0.A == 0) && (p0.B == 0)))]
                                    [(6, .bool ((p0.A == 0) && (p0.B == 0)))] mix hF (by kernel_rfl) (by kernel_rfl) (by kernel_rfl) ⟨Pd.mono_eq, Pd.mono_eq, trivial⟩ (fun hG => ⟨np_loadBox hG hF ty3 rfl rfl hb1 rfl rfl rfl, np_loadBox hG hF ty3 rfl rfl hb1 rfl rfl rfl, trivial⟩) (by kernel_rfl) fun fr w106 hF hE hc => then_normal ?_)
                                have hC := hC.trans hc
                                have z106 := hc.size
                                obtain rfl := Option.some.inj h
                                exact wp_ret (blk_ret (then_ret (ret1 rfl hF rfl ⟨_, rfl, rfl, hC⟩)))
                              · replace h := iteF hb h
                                refine (wp_skip ?_)
                                refine blk_normal (then_normal ?_)
                                refine wp_seq (wp_pure [(6, .bool false)] hF (by kernel_rfl) fun fr hF => then_normal ?_)
                                obtain rfl := Option.some.inj h
                                exact wp_ret (ret1 rfl hF rfl ⟨_, rfl, rfl, hC⟩)
                  · replace h := iteF hb h
                    refine (wp_pure [(3, .pointer (some ⟨b1, 0, none⟩)), (7, .bool ((decide (p0.B ≥ 0)) && (decide (p0.B ≤ p2)))), (37, .int .i64 p0.Op), (61, .bool (p0.Op == 13))] hF (by kernel_rfl) fun fr hF => then_normal ?_)
                    refine (wp_if hF (b := (p0.Op == 13)) rfl (fun hb => ?_) (fun hb => ?_))
                    · replace h := iteT hb h
                      obtain ⟨x45, hx45, h⟩ := bindE h
                      refine wp_seq (region_b [] [true, false, false, true, true, false, true, true, true]
                          [.eq (.pointer (some ⟨b1, 1, none⟩)), .eq (.int .i64 p0.A), .eq (.bool x45), .eq (.bool x45), .eq (.pointer (some ⟨b1, 2, none⟩)), .eq (.int .i64 p0.B), .eq (.bool (p0.B == 0)), .eq (.bool (x45 && (p0.B == 0))), .eq (.bool (x45 && (p0.B == 0)))]
                          [(6, .bool (x45 && (p0.B == 0)))] mix hF (by kernel_rfl) (by kernel_rfl) (by kernel_rfl) ⟨Pd.mono_eq, Pd.mono_eq, Pd.mono_eq, trivial⟩ (fun hG => ⟨np_loadBox hG hF ty3 rfl rfl hb1 rfl rfl rfl, np_call [.int .i64 p0.A] hG hF Try.call90 rfl rfl (fun w hC hg => (impl_isReg_ok p0.A hx45).mono fun e w' ⟨v, he, hv, hc⟩ => ⟨v, he, hc, hv⟩), np_loadBox hG hF ty3 rfl rfl hb1 rfl rfl rfl, trivial⟩) (by kernel_rfl) fun fr w107 hF hE hc => then_normal ?_)
                      have hC := hC.trans hc
                      have z107 := hc.size
                      obtain rfl := Option.some.inj h
                      exact wp_ret (blk_ret (then_ret (ret1 rfl hF rfl ⟨_, rfl, rfl, hC⟩)))
                    · replace h := iteF hb h
                      refine wp_seq ?_
                      refine wp_seq (wp_pure [(3, .pointer (some ⟨b1, 0, none⟩)), (7, .bool ((decide (p0.B ≥ 0)) && (decide (p0.B ≤ p2)))), (37, .int .i64 p0.Op), (74, .bool (p0.Op == 9))] hF (by kernel_rfl) fun fr hF => then_normal ?_)
                      refine (wp_if hF (b := (p0.Op == 9)) rfl (fun hb => ?_) (fun hb => ?_))
                      · replace h := iteT hb h
                        refine (wp_skip (then_normal ?_))
                        refine (wp_if hF (b := (p0.Op == 9)) rfl (fun hb => ?_) (fun hb => ?_))
                        · replace h := iteT hb h
                          refine wp_seq (region_b [] [true, false, true, true, true, true, true]
                              [.eq (.pointer (some ⟨b1, 1, none⟩)), .eq (.int .i64 p0.A), .eq (.bool (p0.A == 0)), .eq (.bool (p0.A == 0)), .eq (.bool ((decide (p0.B ≥ 0)) && (decide (p0.B ≤ p2)))), .eq (.bool ((p0.A == 0) && ((decide (p0.B ≥ 0)) && (decide (p0.B ≤ p2))))), .eq (.bool ((p0.A == 0) && ((decide (p0.B ≥ 0)) && (decide (p0.B ≤ p2)))))]
                              [(6, .bool ((p0.A == 0) && ((decide (p0.B ≥ 0)) && (decide (p0.B ≤ p2)))))] mix hF (by kernel_rfl) (by kernel_rfl) (by kernel_rfl) ⟨Pd.mono_eq, trivial⟩ (fun hG => ⟨np_loadBox hG hF ty3 rfl rfl hb1 rfl rfl rfl, trivial⟩) (by kernel_rfl) fun fr w108 hF hE hc => then_normal ?_)
                          have hC := hC.trans hc
                          have z108 := hc.size
                          obtain rfl := Option.some.inj h
                          exact wp_ret (blk_ret (then_ret (ret1 rfl hF rfl ⟨_, rfl, rfl, hC⟩)))
                        · replace h := iteF hb h
                          refine wp_seq (wp_pure [(3, .pointer (some ⟨b1, 0, none⟩)), (7, .bool ((decide (p0.B ≥ 0)) && (decide (p0.B ≤ p2)))), (37, .int .i64 p0.Op), (83, .bool (p0.Op == 10))] hF (by kernel_rfl) fun fr hF => then_normal ?_)
                          refine (wp_if hF (b := (p0.Op == 10)) rfl (fun hb => ?_) (fun hb => ?_))
                          · replace h := iteT hb h
                            obtain ⟨x46, hx46, h⟩ := bindE h
                            refine wp_seq (region_b [] [true, false, false, true, true, true, true]
                                [.eq (.pointer (some ⟨b1, 1, none⟩)), .eq (.int .i64 p0.A), .eq (.bool x46), .eq (.bool x46), .eq (.bool ((decide (p0.B ≥ 0)) && (decide (p0.B ≤ p2)))), .eq (.bool (x46 && ((decide (p0.B ≥ 0)) && (decide (p0.B ≤ p2))))), .eq (.bool (x46 && ((decide (p0.B ≥ 0)) && (decide (p0.B ≤ p2)))))]
                                [(6, .bool (x46 && ((decide (p0.B ≥ 0)) && (decide (p0.B ≤ p2)))))] mix hF (by kernel_rfl) (by kernel_rfl) (by kernel_rfl) ⟨Pd.mono_eq, Pd.mono_eq, trivial⟩ (fun hG => ⟨np_loadBox hG hF ty3 rfl rfl hb1 rfl rfl rfl, np_call [.int .i64 p0.A] hG hF Try.call90 rfl rfl (fun w hC hg => (impl_isReg_ok p0.A hx46).mono fun e w' ⟨v, he, hv, hc⟩ => ⟨v, he, hc, hv⟩), trivial⟩) (by kernel_rfl) fun fr w109 hF hE hc => then_normal ?_)
                            have hC := hC.trans hc
                            have z109 := hc.size
                            obtain rfl := Option.some.inj h
                            exact wp_ret (blk_ret (then_ret (ret1 rfl hF rfl ⟨_, rfl, rfl, hC⟩)))
                          · replace h := iteF hb h
                            refine wp_seq ?_
                            refine wp_seq (wp_pure [(3, .pointer (some ⟨b1, 0, none⟩)), (37, .int .i64 p0.Op), (91, .bool (p0.Op == 12))] hF (by kernel_rfl) fun fr hF => then_normal ?_)
                            refine (wp_if hF (b := (p0.Op == 12)) rfl (fun hb => ?_) (fun hb => ?_))
                            · replace h := iteT hb h
                              refine (wp_skip (then_normal ?_))
                              refine (wp_if hF (b := (p0.Op == 12)) rfl (fun hb => ?_) (fun hb => ?_))
                              · replace h := iteT hb h
                                refine wp_seq (region_b [] [true, false, true, true, true, false, true, true, true]
                                    [.eq (.pointer (some ⟨b1, 1, none⟩)), .eq (.int .i64 p0.A), .eq (.bool (p0.A == 0)), .eq (.bool (p0.A == 0)), .eq (.pointer (some ⟨b1, 2, none⟩)), .eq (.int .i64 p0.B), .eq (.bool (p0.B == 0)), .eq (.bool ((p0.A == 0) && (p0.B == 0))), .eq (.bool ((p0.A == 0) && (p0.B == 0)))]
                                    [(6, .bool ((p0.A == 0) && (p0.B == 0)))] mix hF (by kernel_rfl) (by kernel_rfl) (by kernel_rfl) ⟨Pd.mono_eq, Pd.mono_eq, trivial⟩ (fun hG => ⟨np_loadBox hG hF ty3 rfl rfl hb1 rfl rfl rfl, np_loadBox hG hF ty3 rfl rfl hb1 rfl rfl rfl, trivial⟩) (by kernel_rfl) fun fr w110 hF hE hc => then_normal ?_)
                                have hC := hC.trans hc
                                have z110 := hc.size
                                obtain rfl := Option.some.inj h
                                exact wp_ret (blk_ret (then_ret (ret1 rfl hF rfl ⟨_, rfl, rfl, hC⟩)))
                              · replace h := iteF hb h
                                refine (wp_skip ?_)
                                refine blk_normal (then_normal ?_)
                                refine wp_seq (wp_pure [(6, .bool false)] hF (by kernel_rfl) fun fr hF => then_normal ?_)
                                obtain rfl := Option.some.inj h
                                exact wp_ret (ret1 rfl hF rfl ⟨_, rfl, rfl, hC⟩)
                            · replace h := iteF hb h
                              refine (wp_pure [(3, .pointer (some ⟨b1, 0, none⟩)), (91, .bool (p0.Op == 14))] hF (by kernel_rfl) fun fr hF => then_normal ?_)
                              refine (wp_if hF (b := (p0.Op == 14)) rfl (fun hb => ?_) (fun hb => ?_))
                              · replace h := iteT hb h
                                refine wp_seq (region_b [] [true, false, true, true, true, false, true, true, true]
                                    [.eq (.pointer (some ⟨b1, 1, none⟩)), .eq (.int .i64 p0.A), .eq (.bool (p0.A == 0)), .eq (.bool (p0.A == 0)), .eq (.pointer (some ⟨b1, 2, none⟩)), .eq (.int .i64 p0.B), .eq (.bool (p0.B == 0)), .eq (.bool ((p0.A == 0) && (p0.B == 0))), .eq (.bool ((p0.A == 0) && (p0.B == 0)))]
                                    [(6, .bool ((p0.A == 0) && (p0.B == 0)))] mix hF (by kernel_rfl) (by kernel_rfl) (by kernel_rfl) ⟨Pd.mono_eq, Pd.mono_eq, trivial⟩ (fun hG => ⟨np_loadBox hG hF ty3 rfl rfl hb1 rfl rfl rfl, np_loadBox hG hF ty3 rfl rfl hb1 rfl rfl rfl, trivial⟩) (by kernel_rfl) fun fr w111 hF hE hc => then_normal ?_)
                                have hC := hC.trans hc
                                have z111 := hc.size
                                obtain rfl := Option.some.inj h
                                exact wp_ret (blk_ret (then_ret (ret1 rfl hF rfl ⟨_, rfl, rfl, hC⟩)))
                              · replace h := iteF hb h
                                refine (wp_skip ?_)
                                refine blk_normal (then_normal ?_)
                                refine wp_seq (wp_pure [(6, .bool false)] hF (by kernel_rfl) fun fr hF => then_normal ?_)
                                obtain rfl := Option.some.inj h
                                exact wp_ret (ret1 rfl hF rfl ⟨_, rfl, rfl, hC⟩)
                      · replace h := iteF hb h
                        refine (wp_pure [(3, .pointer (some ⟨b1, 0, none⟩)), (7, .bool ((decide (p0.B ≥ 0)) && (decide (p0.B ≤ p2)))), (37, .int .i64 p0.Op), (74, .bool (p0.Op == 11))] hF (by kernel_rfl) fun fr hF => then_normal ?_)
                        refine (wp_if hF (b := (p0.Op == 11)) rfl (fun hb => ?_) (fun hb => ?_))
                        · replace h := iteT hb h
                          refine wp_seq (region_b [] [true, false, true, true, true, true, true]
                              [.eq (.pointer (some ⟨b1, 1, none⟩)), .eq (.int .i64 p0.A), .eq (.bool (p0.A == 0)), .eq (.bool (p0.A == 0)), .eq (.bool ((decide (p0.B ≥ 0)) && (decide (p0.B ≤ p2)))), .eq (.bool ((p0.A == 0) && ((decide (p0.B ≥ 0)) && (decide (p0.B ≤ p2))))), .eq (.bool ((p0.A == 0) && ((decide (p0.B ≥ 0)) && (decide (p0.B ≤ p2)))))]
                              [(6, .bool ((p0.A == 0) && ((decide (p0.B ≥ 0)) && (decide (p0.B ≤ p2)))))] mix hF (by kernel_rfl) (by kernel_rfl) (by kernel_rfl) ⟨Pd.mono_eq, trivial⟩ (fun hG => ⟨np_loadBox hG hF ty3 rfl rfl hb1 rfl rfl rfl, trivial⟩) (by kernel_rfl) fun fr w112 hF hE hc => then_normal ?_)
                          have hC := hC.trans hc
                          have z112 := hc.size
                          obtain rfl := Option.some.inj h
                          exact wp_ret (blk_ret (then_ret (ret1 rfl hF rfl ⟨_, rfl, rfl, hC⟩)))
                        · replace h := iteF hb h
                          refine wp_seq (wp_pure [(3, .pointer (some ⟨b1, 0, none⟩)), (7, .bool ((decide (p0.B ≥ 0)) && (decide (p0.B ≤ p2)))), (37, .int .i64 p0.Op), (83, .bool (p0.Op == 10))] hF (by kernel_rfl) fun fr hF => then_normal ?_)
                          refine (wp_if hF (b := (p0.Op == 10)) rfl (fun hb => ?_) (fun hb => ?_))
                          · replace h := iteT hb h
                            obtain ⟨x47, hx47, h⟩ := bindE h
                            refine wp_seq (region_b [] [true, false, false, true, true, true, true]
                                [.eq (.pointer (some ⟨b1, 1, none⟩)), .eq (.int .i64 p0.A), .eq (.bool x47), .eq (.bool x47), .eq (.bool ((decide (p0.B ≥ 0)) && (decide (p0.B ≤ p2)))), .eq (.bool (x47 && ((decide (p0.B ≥ 0)) && (decide (p0.B ≤ p2))))), .eq (.bool (x47 && ((decide (p0.B ≥ 0)) && (decide (p0.B ≤ p2)))))]
                                [(6, .bool (x47 && ((decide (p0.B ≥ 0)) && (decide (p0.B ≤ p2)))))] mix hF (by kernel_rfl) (by kernel_rfl) (by kernel_rfl) ⟨Pd.mono_eq, Pd.mono_eq, trivial⟩ (fun hG => ⟨np_loadBox hG hF ty3 rfl rfl hb1 rfl rfl rfl, np_call [.int .i64 p0.A] hG hF Try.call90 rfl rfl (fun w hC hg => (impl_isReg_ok p0.A hx47).mono fun e w' ⟨v, he, hv, hc⟩ => ⟨v, he, hc, hv⟩), trivial⟩) (by kernel_rfl) fun fr w113 hF hE hc => then_normal ?_)
                            have hC := hC.trans hc
                            have z113 := hc.size
                            obtain rfl := Option.some.inj h
                            exact wp_ret (blk_ret (then_ret (ret1 rfl hF rfl ⟨_, rfl, rfl, hC⟩)))
                          · replace h := iteF hb h
                            refine wp_seq ?_
                            refine wp_seq (wp_pure [(3, .pointer (some ⟨b1, 0, none⟩)), (37, .int .i64 p0.Op), (91, .bool (p0.Op == 12))] hF (by kernel_rfl) fun fr hF => then_normal ?_)
                            refine (wp_if hF (b := (p0.Op == 12)) rfl (fun hb => ?_) (fun hb => ?_))
                            · replace h := iteT hb h
                              refine (wp_skip (then_normal ?_))
                              refine (wp_if hF (b := (p0.Op == 12)) rfl (fun hb => ?_) (fun hb => ?_))
                              · replace h := iteT hb h
                                refine wp_seq (region_b [] [true, false, true, true, true, false, true, true, true]
                                    [.eq (.pointer (some ⟨b1, 1, none⟩)), .eq (.int .i64 p0.A), .eq (.bool (p0.A == 0)), .eq (.bool (p0.A == 0)), .eq (.pointer (some ⟨b1, 2, none⟩)), .eq (.int .i64 p0.B), .eq (.bool (p0.B == 0)), .eq (.bool ((p0.A == 0) && (p0.B == 0))), .eq (.bool ((p0.A == 0) && (p0.B == 0)))]
                                    [(6, .bool ((p0.A == 0) && (p0.B == 0)))] mix hF (by kernel_rfl) (by kernel_rfl) (by kernel_rfl) ⟨Pd.mono_eq, Pd.mono_eq, trivial⟩ (fun hG => ⟨np_loadBox hG hF ty3 rfl rfl hb1 rfl rfl rfl, np_loadBox hG hF ty3 rfl rfl hb1 rfl rfl rfl, trivial⟩) (by kernel_rfl) fun fr w114 hF hE hc => then_normal ?_)
                                have hC := hC.trans hc
                                have z114 := hc.size
                                obtain rfl := Option.some.inj h
                                exact wp_ret (blk_ret (then_ret (ret1 rfl hF rfl ⟨_, rfl, rfl, hC⟩)))
                              · replace h := iteF hb h
                                refine (wp_skip ?_)
                                refine blk_normal (then_normal ?_)
                                refine wp_seq (wp_pure [(6, .bool false)] hF (by kernel_rfl) fun fr hF => then_normal ?_)
                                obtain rfl := Option.some.inj h
                                exact wp_ret (ret1 rfl hF rfl ⟨_, rfl, rfl, hC⟩)
                            · replace h := iteF hb h
                              refine (wp_pure [(3, .pointer (some ⟨b1, 0, none⟩)), (91, .bool (p0.Op == 14))] hF (by kernel_rfl) fun fr hF => then_normal ?_)
                              refine (wp_if hF (b := (p0.Op == 14)) rfl (fun hb => ?_) (fun hb => ?_))
                              · replace h := iteT hb h
                                refine wp_seq (region_b [] [true, false, true, true, true, false, true, true, true]
                                    [.eq (.pointer (some ⟨b1, 1, none⟩)), .eq (.int .i64 p0.A), .eq (.bool (p0.A == 0)), .eq (.bool (p0.A == 0)), .eq (.pointer (some ⟨b1, 2, none⟩)), .eq (.int .i64 p0.B), .eq (.bool (p0.B == 0)), .eq (.bool ((p0.A == 0) && (p0.B == 0))), .eq (.bool ((p0.A == 0) && (p0.B == 0)))]
                                    [(6, .bool ((p0.A == 0) && (p0.B == 0)))] mix hF (by kernel_rfl) (by kernel_rfl) (by kernel_rfl) ⟨Pd.mono_eq, Pd.mono_eq, trivial⟩ (fun hG => ⟨np_loadBox hG hF ty3 rfl rfl hb1 rfl rfl rfl, np_loadBox hG hF ty3 rfl rfl hb1 rfl rfl rfl, trivial⟩) (by kernel_rfl) fun fr w115 hF hE hc => then_normal ?_)
                                have hC := hC.trans hc
                                have z115 := hc.size
                                obtain rfl := Option.some.inj h
                                exact wp_ret (blk_ret (then_ret (ret1 rfl hF rfl ⟨_, rfl, rfl, hC⟩)))
                              · replace h := iteF hb h
                                refine (wp_skip ?_)
                                refine blk_normal (then_normal ?_)
                                refine wp_seq (wp_pure [(6, .bool false)] hF (by kernel_rfl) fun fr hF => then_normal ?_)
                                obtain rfl := Option.some.inj h
                                exact wp_ret (ret1 rfl hF rfl ⟨_, rfl, rfl, hC⟩)

theorem impl_ProgramOk_ok (n : Nat) (p0 : D.Program) {r : Bool} (h : impl_ProgramOk n p0 = some r) {w : World} {F0 : Nat → Prop} {va0 : Value} (ra0 : RV w F0 va0 p0) :
    Calls Try.prog 42 [va0].toArray w fun e w' => ∃ v, e = .returned v ∧ v = .bool r ∧ Chg Non w w' := by
  unfold impl_ProgramOk at h
  have ra0 := ra0.sub (F' := fun k => k < w.heap.size) (fun k hk _ => hk)
  obtain ⟨v1, rfl, r1⟩ := RV.Program ra0
  obtain ⟨a1, c1, rfl, -⟩ := r1.slice
  have hC : Chg Non w w := Chg.refl _ _
  refine enter (N := 54) Try.func42 rfl Try.ntmps42 rfl fun fr hF => ?_
  refine wp_seq (wp_text' ?_)
  refine s_box [.int .i64 p0.W, .int .i64 p0.Mem, .int .i64 p0.In, .slice a1 (List.length p0.Code) c1] rfl rfl hF rfl rfl fun b1 w1 fr b1lo hb1 hc hF => ?_
  have hC := hC.trans hc
  have r1 := r1.ext hc
  have z1 := hc.size
  have b1hi := hb1.lt
  refine from_pure 1 [(1, .pointer (some ⟨b1, 0, none⟩))] hF (by kernel_rfl) fun fr hF => ?_
  refine from_end rfl (then_normal ?_)
  refine wp_seq ?_
  obtain ⟨x1, hx1, h⟩ := bindE h
  obtain ⟨x2, hx2, h⟩ := bindE h
  refine wp_seq (region_b [] [true, false, true, false, true, false, true, true, true, false, true, true, true, true, false, true, true, true, true, false, true, false, false, true, true]
      [.eq (.pointer (some ⟨b1, 0, none⟩)), .eq (.int .i64 p0.W), .eq (.pointer (some ⟨b1, 3, none⟩)), .eq (.slice a1 (List.length p0.Code) c1), .eq (.int .i64 (len p0.Code)), .eq (.bool x1), .eq (.bool (!x1)), .eq (.bool (!x1)), .eq (.pointer (some ⟨b1, 1, none⟩)), .eq (.int .i64 p0.Mem), .eq (.bool (decide (p0.Mem < 1))), .eq (.bool ((!x1) || (decide (p0.Mem < 1)))), .eq (.bool ((!x1) || (decide (p0.Mem < 1)))), .eq (.pointer (some ⟨b1, 1, none⟩)), .eq (.int .i64 p0.Mem), .eq (.bool (decide (p0.Mem > 6))), .eq (.bool (((!x1) || (decide (p0.Mem < 1))) || (decide (p0.Mem > 6)))), .eq (.bool (((!x1) || (decide (p0.Mem < 1))) || (decide (p0.Mem > 6)))), .eq (.pointer (some ⟨b1, 0, none⟩)), .eq (.int .i64 p0.W), .eq (.pointer (some ⟨b1, 1, none⟩)), .eq (.int .i64 p0.Mem), .eq (.bool x2), .eq (.bool (!x2)), .eq (.bool ((((!x1) || (decide (p0.Mem < 1))) || (decide (p0.Mem > 6))) || (!x2)))]
      [(1, .pointer (some ⟨b1, 0, none⟩)), (29, .bool ((((!x1) || (decide (p0.Mem < 1))) || (decide (p0.Mem > 6))) || (!x2)))] mix hF (by kernel_rfl) (by kernel_rfl) (by kernel_rfl) ⟨Pd.mono_eq, Pd.mono_eq, Pd.mono_eq, Pd.mono_eq, Pd.mono_eq, Pd.mono_eq, Pd.mono_eq, Pd.mono_eq, trivial⟩ (fun hG => ⟨np_loadBox hG hF ty3 rfl rfl hb1 rfl rfl rfl, np_loadBox hG hF ty30 rfl rfl hb1 rfl rfl rfl, np_call [.int .i64 p0.W, .int .i64 (len p0.Code)] hG hF Try.call70 rfl rfl (fun w hC hg => (impl_shapeOk_ok p0.W (len p0.Code) hx1).mono fun e w' ⟨v, he, hv, hc⟩ => ⟨v, he, hc, hv⟩), np_loadBox hG hF ty3 rfl rfl hb1 rfl rfl rfl, np_loadBox hG hF ty3 rfl rfl hb1 rfl rfl rfl, np_loadBox hG hF ty3 rfl rfl hb1 rfl rfl rfl, np_loadBox hG hF ty3 rfl rfl hb1 rfl rfl rfl, np_call [.int .i64 p0.W, .int .i64 p0.Mem] hG hF Try.call71 rfl rfl (fun w hC hg => (impl_WordOk_ok p0.W p0.Mem (iteF hg.2 hx2)).mono fun e w' ⟨v, he, hv, hc⟩ => ⟨v, he, hc, hv⟩), trivial⟩) (by kernel_rfl) fun fr w2 hF hE hc => then_normal ?_)
  have hC := hC.trans hc
  have r1 := r1.ext hc
  have hb1 := hb1.ext hc
  have z2 := hc.size
  refine (wp_if hF (b := ((((!x1) || (decide (p0.Mem < 1))) || (decide (p0.Mem > 6))) || (!x2))) rfl (fun hb => ?_) (fun hb => ?_))
  · replace h := iteT hb h
    refine wp_seq (wp_pure [(2, .bool false)] hF (by kernel_rfl) fun fr hF => then_normal ?_)
    obtain rfl := Option.some.inj h
    exact wp_ret (then_ret (ret1 rfl hF rfl ⟨_, rfl, rfl, hC⟩))
  · replace h := iteF hb h
    refine (wp_skip (then_normal ?_))
    refine wp_seq ?_
    refine wp_seq (region_b [] [true, false, true, true, true, false, true, true]
        [.eq (.pointer (some ⟨b1, 2, none⟩)), .eq (.int .i64 p0.In), .eq (.bool (decide (p0.In < 0))), .eq (.bool (decide (p0.In < 0))), .eq (.pointer (some ⟨b1, 2, none⟩)), .eq (.int .i64 p0.In), .eq (.bool (decide (p0.In > 3))), .eq (.bool ((decide (p0.In < 0)) || (decide (p0.In > 3))))]
        [(1, .pointer (some ⟨b1, 0, none⟩)), (37, .bool ((decide (p0.In < 0)) || (decide (p0.In > 3))))] mix hF (by kernel_rfl) (by kernel_rfl) (by kernel_rfl) ⟨Pd.mono_eq, Pd.mono_eq, trivial⟩ (fun hG => ⟨np_loadBox hG hF ty3 rfl rfl hb1 rfl rfl rfl, np_loadBox hG hF ty3 rfl rfl hb1 rfl rfl rfl, trivial⟩) (by kernel_rfl) fun fr w3 hF hE hc => then_normal ?_)
    have hC := hC.trans hc
    have r1 := r1.ext hc
    have hb1 := hb1.ext hc
    have z3 := hc.size
    refine (wp_if hF (b := ((decide (p0.In < 0)) || (decide (p0.In > 3)))) rfl (fun hb => ?_) (fun hb => ?_))
    · replace h := iteT hb h
      refine wp_seq (wp_pure [(2, .bool false)] hF (by kernel_rfl) fun fr hF => then_normal ?_)
      obtain rfl := Option.some.inj h
      exact wp_ret (then_ret (ret1 rfl hF rfl ⟨_, rfl, rfl, hC⟩))
    · replace h := iteF hb h
      refine (wp_skip (then_normal ?_))
      refine wp_seq ?_
      refine wp_seq (wp_text' ?_)
      refine from_pure 1 [(1, .pointer (some ⟨b1, 0, none⟩)), (38, .pointer (some ⟨b1, 3, none⟩))] hF (by kernel_rfl) fun fr hF => ?_
      refine s_loadBox (.slice a1 (List.length p0.Code) c1) ty30 rfl rfl hF rfl hb1 rfl rfl fun fr hF => ?_
      refine from_pure 2 [(1, .pointer (some ⟨b1, 0, none⟩)), (39, .slice a1 (List.length p0.Code) c1), (40, .int .i64 (len p0.Code)), (41, .int .i64 0)] hF (by kernel_rfl) fun fr hF => ?_
      refine from_end rfl (then_normal ?_)
      obtain ⟨rl1, hit1, h⟩ := bindE h
      have hk1 := h
      refine (wp_cut (M := fun fr w' => ∃ s, rl1 = .inl s ∧ FrS 54 [] fr ∧ Chg (Non) w3 w') (wp_block (wp_iter (Inv := fun s1 fr w' => FrS 54 [(1, .pointer (some ⟨b1, 0, none⟩)), (39, .slice a1 (List.length p0.Code) c1), (40, .int .i64 (len p0.Code)), (41, .int .i64 s1)] fr ∧ Chg (Non) w3 w') hit1 ⟨hF.sub _ (by kernel_rfl), Chg.refl _ _⟩ fun s1 q1 fr w1i hI h hr1 => ?_)) fun fr w1o hM => ?_)
      · obtain ⟨hF, hc⟩ := hI
        have zLw1i := hc.size
        have hC := hC.trans hc
        have r1 := r1.ext hc
        have hb1 := hb1.ext hc
        have hL1 := hc
        refine wp_seq (wp_pure [(1, .pointer (some ⟨b1, 0, none⟩)), (39, .slice a1 (List.length p0.Code) c1), (40, .int .i64 (len p0.Code)), (41, .int .i64 s1), (42, .bool (decide (s1 < (len p0.Code))))] hF (by kernel_rfl) fun fr hF => then_normal ?_)
        refine wp_seq (wp_if hF (b := (decide (s1 < (len p0.Code)))) rfl (fun hb => ?_) (fun hb => ?_))
        · replace h := iteT hb h
          refine (wp_skip (then_normal ?_))
          refine wp_seq (wp_block ?_)
          refine wp_seq (wp_text' ?_)
          obtain ⟨x3, hx3, h⟩ := bindE h
          refine s_elemF (z := x3) (.agg #[.int .i64 x3.Op, .int .i64 x3.A, .int .i64 x3.B, .int .i64 x3.C]) ty85 Try.underlying30 rfl rfl rfl rfl rfl hF rfl (r1) rfl (get?_nn hx3) (get?_at hx3) rfl fun p fr hF => ?_
          refine s_alloc (z := .agg #[.int .i64 0, .int .i64 0, .int .i64 0, .int .i64 0]) [.int .i64 0, .int .i64 0, .int .i64 0, .int .i64 0] rfl rfl hF (by kernel_rfl) rfl fun b2 w4 fr b2lo hb2 hc hF => ?_
          have hC := hC.trans hc
          have r1 := r1.ext hc
          have hb1 := hb1.ext hc
          have z4 := hc.size
          have hL2 := hL1.trans' hc (fun _ hx => False.elim hx)
          have b2hi := hb2.lt
          refine s_storeBoxS [.int .i64 x3.Op, .int .i64 x3.A, .int .i64 x3.B, .int .i64 x3.C] rfl hF rfl rfl (by kernel_rfl) hb2 rfl rfl rfl fun w5 hb2 hc hF => ?_
          have hC := hC.trans' hc (fun x hx => .inr (by subst hx; (try dsimp only at *); omega))
          have r1 := r1.chg hc (fun k hk hs => by subst hs; (try dsimp only at *); omega)
          have hb1 := hb1.chg hc (by omega)
          have z5 := hc.size
          have hL3 := hL2.trans' hc (fun x hx => .inr (by subst hx; omega))
          refine from_end rfl (then_normal ?_)
          refine wp_seq (wp_text' ?_)
          refine s_loadBoxS ty85 rfl rfl hF rfl hb2 rfl rfl fun fr hF => ?_
          refine from_pure 1 [(1, .pointer (some ⟨b1, 0, none⟩)), (39, .slice a1 (List.length p0.Code) c1), (40, .int .i64 (len p0.Code)), (41, .int .i64 s1), (45, .agg #[.int .i64 x3.Op, .int .i64 x3.A, .int .i64 x3.B, .int .i64 x3.C]), (46, .pointer (some ⟨b1, 0, none⟩))] hF (by kernel_rfl) fun fr hF => ?_
          refine s_loadBox (.int .i64 p0.W) ty3 rfl rfl hF rfl hb1 rfl rfl fun fr hF => ?_
          refine from_pure 1 [(1, .pointer (some ⟨b1, 0, none⟩)), (39, .slice a1 (List.length p0.Code) c1), (40, .int .i64 (len p0.Code)), (41, .int .i64 s1), (45, .agg #[.int .i64 x3.Op, .int .i64 x3.A, .int .i64 x3.B, .int .i64 x3.C]), (47, .int .i64 p0.W), (48, .pointer (some ⟨b1, 3, none⟩))] hF (by kernel_rfl) fun fr hF => ?_
          refine s_loadBox (.slice a1 (List.length p0.Code) c1) ty30 rfl rfl hF rfl hb1 rfl rfl fun fr hF => ?_
          refine from_pure 1 [(1, .pointer (some ⟨b1, 0, none⟩)), (39, .slice a1 (List.length p0.Code) c1), (40, .int .i64 (len p0.Code)), (41, .int .i64 s1), (45, .agg #[.int .i64 x3.Op, .int .i64 x3.A, .int .i64 x3.B, .int .i64 x3.C]), (47, .int .i64 p0.W), (50, .int .i64 (len p0.Code))] hF (by kernel_rfl) fun fr hF => ?_
          obtain ⟨x4, hx4, h⟩ := bindE h
          refine s_call [.agg #[.int .i64 x3.Op, .int .i64 x3.A, .int .i64 x3.B, .int .i64 x3.C], .int .i64 p0.W, .int .i64 (len p0.Code)] Try.call72 rfl rfl hF rfl (impl_insOk_ok x3 p0.W (len p0.Code) hx4) fun v w6 fr hR hF => ?_
          obtain ⟨rfl, hc⟩ := hR
          have hC := hC.trans hc
          have r1 := r1.ext hc
          have hb1 := hb1.ext hc
          have z6 := hc.size
          have hL4 := hL3.trans' hc (fun _ hx => False.elim hx)
          refine from_pure 1 [(1, .pointer (some ⟨b1, 0, none⟩)), (39, .slice a1 (List.length p0.Code) c1), (40, .int .i64 (len p0.Code)), (41, .int .i64 s1), (52, .bool (!x4))] hF (by kernel_rfl) fun fr hF => ?_
          refine from_end rfl (then_normal ?_)
          refine (wp_if hF (b := (!x4)) rfl (fun hb => ?_) (fun hb => ?_))
          · replace h := iteT hb h
            refine wp_seq (wp_pure [(2, .bool false)] hF (by kernel_rfl) fun fr hF => then_normal ?_)
            obtain rfl := hr1 _ (Option.some.inj h).symm
            obtain rfl := Option.some.inj hk1
            exact wp_ret (blk_ret (then_ret (then_ret (blk_ret (then_ret (ret1 rfl hF rfl ⟨_, rfl, rfl, hC⟩))))))
          · replace h := iteF hb h
            refine (wp_skip ?_)
            refine blk_normal (then_normal ?_)
            refine (wp_pure [(1, .pointer (some ⟨b1, 0, none⟩)), (39, .slice a1 (List.length p0.Code) c1), (40, .int .i64 (len p0.Code)), (41, .int .i64 (w64 (s1 + 1)))] hF (by kernel_rfl) fun fr hF => then_normal ?_)
            exact ⟨_, (Option.some.inj h).symm, hF.sub _ (by kernel_rfl), hL4⟩
        · replace h := iteF hb h
          refine (wp_exit (then_exit (then_exit (blk_exit_eq ?_))))
          obtain rfl := hr1 _ (Option.some.inj h).symm
          exact then_normal ⟨_, rfl, hF.sub _ (by kernel_rfl), hL1⟩
      · obtain ⟨s1r, rfl, hM⟩ := hM
        obtain ⟨hF, hc⟩ := hM
        have zLw1o := hc.size
        have hC := hC.trans hc
        refine wp_seq (wp_pure [(2, .bool true)] hF (by kernel_rfl) fun fr hF => then_normal ?_)
        obtain rfl := Option.some.inj h
        exact wp_ret (ret1 rfl hF rfl ⟨_, rfl, rfl, hC⟩)

theorem impl_isPlace_ok (p0 : D.Program) (p1 : Int) {r : Bool} (h : impl_isPlace p0 p1 = some r) {w : World} {F0 : Nat → Prop} {va0 : Value} (ra0 : RV w F0 va0 p0) :
    Calls Try.prog 48 [va0, .int .i64 p1].toArray w fun e w' => ∃ v, e = .returned v ∧ v = .bool r ∧ Chg Non w w' := by
  unfold impl_isPlace at h
  have ra0 := ra0.sub (F' := fun k => k < w.heap.size) (fun k hk _ => hk)
  obtain ⟨v1, rfl, r1⟩ := RV.Program ra0
  obtain ⟨a1, c1, rfl, -⟩ := r1.slice
  have hC : Chg Non w w := Chg.refl _ _
  refine enter (N := 14) Try.func48 rfl Try.ntmps48 rfl fun fr hF => ?_
  refine wp_seq (wp_text' ?_)
  refine s_box [.int .i64 p0.W, .int .i64 p0.Mem, .int .i64 p0.In, .slice a1 (List.length p0.Code) c1] rfl rfl hF rfl rfl fun b1 w1 fr b1lo hb1 hc hF => ?_
  have hC := hC.trans hc
  have r1 := r1.ext hc
  have z1 := hc.size
  have b1hi := hb1.lt
  refine from_pure 1 [(1, .int .i64 p1), (2, .pointer (some ⟨b1, 0, none⟩))] hF (by kernel_rfl) fun fr hF => ?_
  refine from_end rfl (then_normal ?_)
  refine wp_seq (region_b [] [true, true, true, true, true, false, true, true, true, true]
      [.eq (.int .i64 p1), .eq (.bool (decide (p1 ≥ 0))), .eq (.bool (decide (p1 ≥ 0))), .eq (.int .i64 p1), .eq (.pointer (some ⟨b1, 3, none⟩)), .eq (.slice a1 (List.length p0.Code) c1), .eq (.int .i64 (len p0.Code)), .eq (.bool (decide (p1 ≤ (len p0.Code)))), .eq (.bool ((decide (p1 ≥ 0)) && (decide (p1 ≤ (len p0.Code))))), .eq (.bool ((decide (p1 ≥ 0)) && (decide (p1 ≤ (len p0.Code)))))]
      [(4, .bool ((decide (p1 ≥ 0)) && (decide (p1 ≤ (len p0.Code)))))] mix hF (by kernel_rfl) (by kernel_rfl) (by kernel_rfl) ⟨Pd.mono_eq, trivial⟩ (fun hG => ⟨np_loadBox hG hF ty30 rfl rfl hb1 rfl rfl rfl, trivial⟩) (by kernel_rfl) fun fr w2 hF hE hc => then_normal ?_)
  have hC := hC.trans hc
  have z2 := hc.size
  obtain rfl := Option.some.inj h
  exact wp_ret (ret1 rfl hF rfl ⟨_, rfl, rfl, hC⟩)

theorem impl_wordsOk_ok (n : Nat) (p0 : Int) (p1 : List Int) {r : Bool} (h : impl_wordsOk n p0 p1 = some r) {w : World} {F1 : Nat → Prop} {va1 : Value} (ra1 : RV w F1 va1 p1) :
    Calls Try.prog 49 [.int .i64 p0, va1].toArray w fun e w' => ∃ v, e = .returned v ∧ v = .bool r ∧ Chg Non w w' := by
  unfold impl_wordsOk at h
  have ra1 := ra1.sub (F' := fun k => k < w.heap.size) (fun k hk _ => hk)
  obtain ⟨a1, c1, rfl, -⟩ := ra1.slice
  have hC : Chg Non w w := Chg.refl _ _
  refine enter (N := 18) Try.func49 rfl Try.ntmps49 rfl fun fr hF => ?_
  refine wp_seq (wp_pure [(0, .int .i64 p0), (1, .slice a1 (List.length p1) c1)] hF (by kernel_rfl) fun fr hF => then_normal ?_)
  refine wp_seq ?_
  refine wp_seq (wp_pure [(0, .int .i64 p0), (7, .slice a1 (List.length p1) c1), (8, .int .i64 (len p1)), (9, .int .i64 0)] hF (by kernel_rfl) fun fr hF => then_normal ?_)
  obtain ⟨rl1, hit1, h⟩ := bindE h
  have hk1 := h
  refine (wp_cut (M := fun fr w' => ∃ s, rl1 = .inl s ∧ FrS 18 [] fr ∧ Chg (Non) w w') (wp_block (wp_iter (Inv := fun s1 fr w' => FrS 18 [(0, .int .i64 p0), (7, .slice a1 (List.length p1) c1), (8, .int .i64 (len p1)), (9, .int .i64 s1)] fr ∧ Chg (Non) w w') hit1 ⟨hF.sub _ (by kernel_rfl), Chg.refl _ _⟩ fun s1 q1 fr w1i hI h hr1 => ?_)) fun fr w1o hM => ?_)
  · obtain ⟨hF, hc⟩ := hI
    have zLw1i := hc.size
    have hC := hC.trans hc
    have ra1 := ra1.ext hc
    have hL1 := hc
    refine wp_seq (wp_pure [(0, .int .i64 p0), (7, .slice a1 (List.length p1) c1), (8, .int .i64 (len p1)), (9, .int .i64 s1), (10, .bool (decide (s1 < (len p1))))] hF (by kernel_rfl) fun fr hF => then_normal ?_)
    refine wp_seq (wp_if hF (b := (decide (s1 < (len p1)))) rfl (fun hb => ?_) (fun hb => ?_))
    · replace h := iteT hb h
      refine (wp_skip (then_normal ?_))
      refine wp_seq (wp_block ?_)
      refine wp_seq (wp_text' ?_)
      obtain ⟨x1, hx1, h⟩ := bindE h
      refine s_elemF (z := x1) (.int .i64 x1) ty3 Try.underlying26 rfl rfl rfl rfl rfl hF rfl (ra1) rfl (get?_nn hx1) (get?_at hx1) rfl fun p fr hF => ?_
      refine from_pure 1 [(0, .int .i64 p0), (6, .int .i64 x1), (7, .slice a1 (List.length p1) c1), (8, .int .i64 (len p1)), (9, .int .i64 s1)] hF (by kernel_rfl) fun fr hF => ?_
      refine from_end rfl (then_normal ?_)
      refine wp_seq (wp_text' ?_)
      refine from_pure 2 [(0, .int .i64 p0), (7, .slice a1 (List.length p1) c1), (8, .int .i64 (len p1)), (9, .int .i64 s1), (13, .int .i64 p0), (14, .int .i64 x1)] hF (by kernel_rfl) fun fr hF => ?_
      obtain ⟨x2, hx2, h⟩ := bindE h
      refine s_call [.int .i64 p0, .int .i64 x1] Try.call71 rfl rfl hF rfl (impl_WordOk_ok p0 x1 hx2) fun v w1 fr hR hF => ?_
      obtain ⟨rfl, hc⟩ := hR
      have hC := hC.trans hc
      have ra1 := ra1.ext hc
      have z1 := hc.size
      have hL2 := hL1.trans' hc (fun _ hx => False.elim hx)
      refine from_pure 1 [(0, .int .i64 p0), (7, .slice a1 (List.length p1) c1), (8, .int .i64 (len p1)), (9, .int .i64 s1), (16, .bool (!x2))] hF (by kernel_rfl) fun fr hF => ?_
      refine from_end rfl (then_normal ?_)
      refine (wp_if hF (b := (!x2)) rfl (fun hb => ?_) (fun hb => ?_))
      · replace h := iteT hb h
        refine wp_seq (wp_pure [(4, .bool false)] hF (by kernel_rfl) fun fr hF => then_normal ?_)
        obtain rfl := hr1 _ (Option.some.inj h).symm
        obtain rfl := Option.some.inj hk1
        exact wp_ret (blk_ret (then_ret (then_ret (blk_ret (then_ret (ret1 rfl hF rfl ⟨_, rfl, rfl, hC⟩))))))
      · replace h := iteF hb h
        refine (wp_skip ?_)
        refine blk_normal (then_normal ?_)
        refine (wp_pure [(0, .int .i64 p0), (7, .slice a1 (List.length p1) c1), (8, .int .i64 (len p1)), (9, .int .i64 (w64 (s1 + 1)))] hF (by kernel_rfl) fun fr hF => then_normal ?_)
        exact ⟨_, (Option.some.inj h).symm, hF.sub _ (by kernel_rfl), hL2⟩
    · replace h := iteF hb h
      refine (wp_exit (then_exit (then_exit (blk_exit_eq ?_))))
      obtain rfl := hr1 _ (Option.some.inj h).symm
      exact then_normal ⟨_, rfl, hF.sub _ (by kernel_rfl), hL1⟩
  · obtain ⟨s1r, rfl, hM⟩ := hM
    obtain ⟨hF, hc⟩ := hM
    have zLw1o := hc.size
    have hC := hC.trans hc
    refine wp_seq (wp_pure [(4, .bool true)] hF (by kernel_rfl) fun fr hF => then_normal ?_)
    obtain rfl := Option.some.inj h
    exact wp_ret (ret1 rfl hF rfl ⟨_, rfl, rfl, hC⟩)
end Go.Proofs.Ytghbeebinbmpkaa
