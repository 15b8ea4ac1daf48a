/- Printed by gen2.py: the walks. -/
import Derived.Test.YtghbeebinbmpkaaWlkC
set_option linter.unusedVariables false
set_option maxRecDepth 100000
namespace Go.Proofs.Ytghbeebinbmpkaa
open Go.GL
theorem impl_StateOk_ok (n : Nat) (p0 : D.Program) (p1 : D.State) {r : Bool} (h : impl_StateOk n p0 p1 = some r) {w : World} {F0 : Nat → Prop} {va0 : Value} (ra0 : RV w F0 va0 p0) {F1 : Nat → Prop} {va1 : Value} (ra1 : RV w F1 va1 p1) :
    Calls Try.prog 21 [va0, va1].toArray w fun e w' => ∃ v, e = .returned v ∧ v = .bool r ∧ Chg Non w w' := by
  unfold impl_StateOk at h
  have ra0 := ra0.sub (F' := fun k => k < w.heap.size) (fun k hk _ => hk)
  obtain ⟨v1, rfl, r1⟩ := RV.Program ra0
  obtain ⟨a1, c1, rfl, -⟩ := r1.slice
  have ra1 := ra1.sub (F' := fun k => k < w.heap.size) (fun k hk _ => hk)
  obtain ⟨v2, v3, v4, v5, rfl, r2, r3, r4, r5⟩ := RV.State ra1
  obtain ⟨a2, c2, rfl, -⟩ := r2.slice
  obtain ⟨a3, c3, rfl, -⟩ := r3.slice
  obtain ⟨a4, c4, rfl, -⟩ := r4.slice
  obtain ⟨a5, c5, rfl, -⟩ := r5.slice
  have hC : Chg Non w w := Chg.refl _ _
  refine enter (N := 107) Try.func21 rfl Try.ntmps21 rfl fun fr hF => ?_
  refine wp_seq (wp_text' ?_)
  refine s_box [.int .i64 p0.W, .int .i64 p0.Mem, .int .i64 p0.In, .slice a1 (List.length p0.Code) c1] rfl rfl hF rfl rfl fun b1 w1 fr b1lo hb1 hc hF => ?_
  have hC := hC.trans hc
  have r1 := r1.ext hc
  have r2 := r2.ext hc
  have r3 := r3.ext hc
  have r4 := r4.ext hc
  have r5 := r5.ext hc
  have z1 := hc.size
  have b1hi := hb1.lt
  refine s_box [.int .i64 p1.Pc, .slice a2 (List.length p1.Regs) c2, .slice a3 (List.length p1.Mem) c3, .slice a4 (List.length p1.Stack) c4, .int .i64 p1.In, .slice a5 (List.length p1.Out) c5, .int .i64 p1.Code, .int .i64 p1.Steps] rfl rfl hF rfl rfl fun b2 w2 fr b2lo hb2 hc hF => ?_
  have hC := hC.trans hc
  have r2 := r2.ext hc
  have r3 := r3.ext hc
  have r4 := r4.ext hc
  have r5 := r5.ext hc
  have r1 := r1.ext hc
  have hb1 := hb1.ext hc
  have z2 := hc.size
  have b2hi := hb2.lt
  refine from_pure 1 [(2, .pointer (some ⟨b1, 0, none⟩)), (3, .pointer (some ⟨b2, 0, none⟩))] hF (by kernel_rfl) fun fr hF => ?_
  refine from_end rfl (then_normal ?_)
  refine wp_seq ?_
  obtain ⟨x1, hx1, h⟩ := bindE h
  obtain ⟨x2, hx2, h⟩ := bindE h
  refine wp_seq (region_b [] [false, false, true, true, false, true, false, false, true, true, true, true, false, true, true, true, true, true, false, true, true, false, true, true]
      [.eq (.agg #[.int .i64 p0.W, .int .i64 p0.Mem, .int .i64 p0.In, .slice a1 (List.length p0.Code) c1]), .eq (.bool x1), .eq (.bool (!x1)), .eq (.bool (!x1)), .eq (.agg #[.int .i64 p0.W, .int .i64 p0.Mem, .int .i64 p0.In, .slice a1 (List.length p0.Code) c1]), .eq (.pointer (some ⟨b2, 0, none⟩)), .eq (.int .i64 p1.Pc), .eq (.bool x2), .eq (.bool (!x2)), .eq (.bool ((!x1) || (!x2))), .eq (.bool ((!x1) || (!x2))), .eq (.pointer (some ⟨b2, 1, none⟩)), .eq (.slice a2 (List.length p1.Regs) c2), .eq (.int .i64 (len p1.Regs)), .eq (.bool ((len p1.Regs) != 4)), .eq (.bool (((!x1) || (!x2)) || ((len p1.Regs) != 4))), .eq (.bool (((!x1) || (!x2)) || ((len p1.Regs) != 4))), .eq (.pointer (some ⟨b2, 2, none⟩)), .eq (.slice a3 (List.length p1.Mem) c3), .eq (.int .i64 (len p1.Mem)), .eq (.pointer (some ⟨b1, 1, none⟩)), .eq (.int .i64 p0.Mem), .eq (.bool ((len p1.Mem) != p0.Mem)), .eq (.bool ((((!x1) || (!x2)) || ((len p1.Regs) != 4)) || ((len p1.Mem) != p0.Mem)))]
      [(2, .pointer (some ⟨b1, 0, none⟩)), (3, .pointer (some ⟨b2, 0, none⟩)), (30, .bool ((((!x1) || (!x2)) || ((len p1.Regs) != 4)) || ((len p1.Mem) != p0.Mem)))] mix hF (by kernel_rfl) (by kernel_rfl) (by kernel_rfl) ⟨Pd.mono_eq, Pd.mono_eq, Pd.mono_eq, Pd.mono_eq, Pd.mono_eq, Pd.mono_eq, Pd.mono_eq, Pd.mono_eq, trivial⟩ (fun hG => ⟨np_loadBoxS hG hF ty32 rfl rfl hb1 rfl rfl rfl rfl, np_call [.agg #[.int .i64 p0.W, .int .i64 p0.Mem, .int .i64 p0.In, .slice a1 (List.length p0.Code) c1]] hG hF Try.call42 rfl rfl (fun w hC hg => (impl_ProgramOk_ok n p0 hx1 ((RV.mk_Program p0 (RV.any (r1))).ext hC)).mono fun e w' ⟨v, he, hv, hc⟩ => ⟨v, he, hc, hv⟩), np_loadBoxS hG hF ty32 rfl rfl hb1 rfl rfl rfl rfl, np_loadBox hG hF ty3 rfl rfl hb2 rfl rfl rfl, np_call [.agg #[.int .i64 p0.W, .int .i64 p0.Mem, .int .i64 p0.In, .slice a1 (List.length p0.Code) c1], .int .i64 p1.Pc] hG hF Try.call48 rfl rfl (fun w hC hg => (impl_isPlace_ok p0 p1.Pc (iteF hg.2 hx2) ((RV.mk_Program p0 (RV.any (r1))).ext hC)).mono fun e w' ⟨v, he, hv, hc⟩ => ⟨v, he, hc, hv⟩), np_loadBox hG hF ty26 rfl rfl hb2 rfl rfl rfl, np_loadBox hG hF ty26 rfl rfl hb2 rfl rfl rfl, np_loadBox hG hF ty3 rfl rfl hb1 rfl rfl rfl, trivial⟩) (by kernel_rfl) fun fr w3 hF hE hc => then_normal ?_)
  have hC := hC.trans hc
  have r1 := r1.ext hc
  have r2 := r2.ext hc
  have r3 := r3.ext hc
  have r4 := r4.ext hc
  have r5 := r5.ext hc
  have hb1 := hb1.ext hc
  have hb2 := hb2.ext hc
  have z3 := hc.size
  refine (wp_if hF (b := ((((!x1) || (!x2)) || ((len p1.Regs) != 4)) || ((len p1.Mem) != p0.Mem))) rfl (fun hb => ?_) (fun hb => ?_))
  · replace h := iteT hb h
    refine wp_seq (wp_pure [(4, .bool false)] hF (by kernel_rfl) fun fr hF => then_normal ?_)
    obtain rfl := Option.some.inj h
    exact wp_ret (then_ret (ret1 rfl hF rfl ⟨_, rfl, rfl, hC⟩))
  · replace h := iteF hb h
    refine (wp_skip (then_normal ?_))
    refine wp_seq ?_
    obtain ⟨x3, hx3, h⟩ := bindE h
    obtain ⟨x4, hx4, h⟩ := bindE h
    obtain ⟨x5, hx5, h⟩ := bindE h
    refine wp_seq (region_b [] [true, false, true, false, false, true, true, true, false, true, false, false, true, true, true, true, false, true, false, false, true, true]
        [.eq (.pointer (some ⟨b1, 0, none⟩)), .eq (.int .i64 p0.W), .eq (.pointer (some ⟨b2, 1, none⟩)), .eq (.slice a2 (List.length p1.Regs) c2), .eq (.bool x3), .eq (.bool (!x3)), .eq (.bool (!x3)), .eq (.pointer (some ⟨b1, 0, none⟩)), .eq (.int .i64 p0.W), .eq (.pointer (some ⟨b2, 2, none⟩)), .eq (.slice a3 (List.length p1.Mem) c3), .eq (.bool x4), .eq (.bool (!x4)), .eq (.bool ((!x3) || (!x4))), .eq (.bool ((!x3) || (!x4))), .eq (.pointer (some ⟨b1, 0, none⟩)), .eq (.int .i64 p0.W), .eq (.pointer (some ⟨b2, 5, none⟩)), .eq (.slice a5 (List.length p1.Out) c5), .eq (.bool x5), .eq (.bool (!x5)), .eq (.bool (((!x3) || (!x4)) || (!x5)))]
        [(2, .pointer (some ⟨b1, 0, none⟩)), (3, .pointer (some ⟨b2, 0, none⟩)), (52, .bool (((!x3) || (!x4)) || (!x5)))] mix hF (by kernel_rfl) (by kernel_rfl) (by kernel_rfl) ⟨Pd.mono_eq, Pd.mono_eq, Pd.mono_eq, Pd.mono_eq, Pd.mono_eq, Pd.mono_eq, Pd.mono_eq, Pd.mono_eq, Pd.mono_eq, trivial⟩ (fun hG => ⟨np_loadBox hG hF ty3 rfl rfl hb1 rfl rfl rfl, np_loadBox hG hF ty26 rfl rfl hb2 rfl rfl rfl, np_call [.int .i64 p0.W, .slice a2 (List.length p1.Regs) c2] hG hF Try.call49 rfl rfl (fun w hC hg => (impl_wordsOk_ok n p0.W p1.Regs hx3 (r2.ext hC)).mono fun e w' ⟨v, he, hv, hc⟩ => ⟨v, he, hc, hv⟩), np_loadBox hG hF ty3 rfl rfl hb1 rfl rfl rfl, np_loadBox hG hF ty26 rfl rfl hb2 rfl rfl rfl, np_call [.int .i64 p0.W, .slice a3 (List.length p1.Mem) c3] hG hF Try.call49 rfl rfl (fun w hC hg => (impl_wordsOk_ok n p0.W p1.Mem (iteF hg.2 hx4) (r3.ext hC)).mono fun e w' ⟨v, he, hv, hc⟩ => ⟨v, he, hc, hv⟩), np_loadBox hG hF ty3 rfl rfl hb1 rfl rfl rfl, np_loadBox hG hF ty26 rfl rfl hb2 rfl rfl rfl, np_call [.int .i64 p0.W, .slice a5 (List.length p1.Out) c5] hG hF Try.call49 rfl rfl (fun w hC hg => (impl_wordsOk_ok n p0.W p1.Out (iteF hg.2 hx5) (r5.ext hC)).mono fun e w' ⟨v, he, hv, hc⟩ => ⟨v, he, hc, hv⟩), trivial⟩) (by kernel_rfl) fun fr w4 hF hE hc => then_normal ?_)
    have hC := hC.trans hc
    have r1 := r1.ext hc
    have r2 := r2.ext hc
    have r3 := r3.ext hc
    have r4 := r4.ext hc
    have r5 := r5.ext hc
    have hb1 := hb1.ext hc
    have hb2 := hb2.ext hc
    have z4 := hc.size
    refine (wp_if hF (b := (((!x3) || (!x4)) || (!x5))) rfl (fun hb => ?_) (fun hb => ?_))
    · replace h := iteT hb h
      refine wp_seq (wp_pure [(4, .bool false)] hF (by kernel_rfl) fun fr hF => then_normal ?_)
      obtain rfl := Option.some.inj h
      exact wp_ret (then_ret (ret1 rfl hF rfl ⟨_, rfl, rfl, hC⟩))
    · replace h := iteF hb h
      refine (wp_skip (then_normal ?_))
      refine wp_seq ?_
      refine wp_seq (wp_text' ?_)
      refine from_pure 1 [(2, .pointer (some ⟨b1, 0, none⟩)), (3, .pointer (some ⟨b2, 0, none⟩)), (53, .pointer (some ⟨b2, 3, none⟩))] hF (by kernel_rfl) fun fr hF => ?_
      refine s_loadBox (.slice a4 (List.length p1.Stack) c4) ty26 rfl rfl hF rfl hb2 rfl rfl fun fr hF => ?_
      refine from_pure 2 [(2, .pointer (some ⟨b1, 0, none⟩)), (3, .pointer (some ⟨b2, 0, none⟩)), (54, .slice a4 (List.length p1.Stack) c4), (55, .int .i64 (len p1.Stack)), (56, .int .i64 0)] hF (by kernel_rfl) fun fr hF => ?_
      refine from_end rfl (then_normal ?_)
      obtain ⟨rl1, hit1, h⟩ := bindE h
      have hk1 := h
      refine (wp_cut (M := fun fr w' => ∃ s, rl1 = .inl s ∧ FrS 107 [(2, .pointer (some ⟨b1, 0, none⟩)), (3, .pointer (some ⟨b2, 0, none⟩))] fr ∧ Chg (Non) w4 w') (wp_block (wp_iter (Inv := fun s1 fr w' => FrS 107 [(2, .pointer (some ⟨b1, 0, none⟩)), (3, .pointer (some ⟨b2, 0, none⟩)), (54, .slice a4 (List.length p1.Stack) c4), (55, .int .i64 (len p1.Stack)), (56, .int .i64 s1)] fr ∧ Chg (Non) w4 w') hit1 ⟨hF.sub _ (by kernel_rfl), Chg.refl _ _⟩ fun s1 q1 fr w1i hI h hr1 => ?_)) fun fr w1o hM => ?_)
      · obtain ⟨hF, hc⟩ := hI
        have zLw1i := hc.size
        have hC := hC.trans hc
        have r4 := r4.ext hc
        have r1 := r1.ext hc
        have r2 := r2.ext hc
        have r3 := r3.ext hc
        have r5 := r5.ext hc
        have hb1 := hb1.ext hc
        have hb2 := hb2.ext hc
        have hL1 := hc
        refine wp_seq (wp_pure [(2, .pointer (some ⟨b1, 0, none⟩)), (3, .pointer (some ⟨b2, 0, none⟩)), (54, .slice a4 (List.length p1.Stack) c4), (55, .int .i64 (len p1.Stack)), (56, .int .i64 s1), (57, .bool (decide (s1 < (len p1.Stack))))] hF (by kernel_rfl) fun fr hF => then_normal ?_)
        refine wp_seq (wp_if hF (b := (decide (s1 < (len p1.Stack)))) rfl (fun hb => ?_) (fun hb => ?_))
        · replace h := iteT hb h
          refine (wp_skip (then_normal ?_))
          refine wp_seq (wp_block ?_)
          refine wp_seq (wp_text' ?_)
          obtain ⟨x6, hx6, h⟩ := bindE h
          refine s_elemF (z := x6) (.int .i64 x6) ty3 Try.underlying26 rfl rfl rfl rfl rfl hF rfl (r4) rfl (get?_nn hx6) (get?_at hx6) rfl fun p fr hF => ?_
          refine from_pure 1 [(2, .pointer (some ⟨b1, 0, none⟩)), (3, .pointer (some ⟨b2, 0, none⟩)), (6, .int .i64 x6), (54, .slice a4 (List.length p1.Stack) c4), (55, .int .i64 (len p1.Stack)), (56, .int .i64 s1)] hF (by kernel_rfl) fun fr hF => ?_
          refine from_end rfl (then_normal ?_)
          refine wp_seq (wp_text' ?_)
          refine s_loadBoxS ty32 rfl rfl hF rfl hb1 rfl rfl fun fr hF => ?_
          refine from_pure 1 [(2, .pointer (some ⟨b1, 0, none⟩)), (3, .pointer (some ⟨b2, 0, none⟩)), (54, .slice a4 (List.length p1.Stack) c4), (55, .int .i64 (len p1.Stack)), (56, .int .i64 s1), (60, .agg #[.int .i64 p0.W, .int .i64 p0.Mem, .int .i64 p0.In, .slice a1 (List.length p0.Code) c1]), (61, .int .i64 x6)] hF (by kernel_rfl) fun fr hF => ?_
          obtain ⟨x7, hx7, h⟩ := bindE h
          refine s_call [.agg #[.int .i64 p0.W, .int .i64 p0.Mem, .int .i64 p0.In, .slice a1 (List.length p0.Code) c1], .int .i64 x6] Try.call48 rfl rfl hF rfl (impl_isPlace_ok p0 x6 hx7 (RV.mk_Program p0 (RV.any (r1)))) fun v w5 fr hR hF => ?_
          obtain ⟨rfl, hc⟩ := hR
          have hC := hC.trans hc
          have r4 := r4.ext hc
          have r1 := r1.ext hc
          have r2 := r2.ext hc
          have r3 := r3.ext hc
          have r5 := r5.ext hc
          have hb1 := hb1.ext hc
          have hb2 := hb2.ext hc
          have z5 := hc.size
          have hL2 := hL1.trans' hc (fun _ hx => False.elim hx)
          refine from_pure 1 [(2, .pointer (some ⟨b1, 0, none⟩)), (3, .pointer (some ⟨b2, 0, none⟩)), (54, .slice a4 (List.length p1.Stack) c4), (55, .int .i64 (len p1.Stack)), (56, .int .i64 s1), (63, .bool (!x7))] hF (by kernel_rfl) fun fr hF => ?_
          refine from_end rfl (then_normal ?_)
          refine (wp_if hF (b := (!x7)) rfl (fun hb => ?_) (fun hb => ?_))
          · replace h := iteT hb h
            refine wp_seq (wp_pure [(4, .bool false)] hF (by kernel_rfl) fun fr hF => then_normal ?_)
            obtain rfl := hr1 _ (Option.some.inj h).symm
            obtain rfl := Option.some.inj hk1
            exact wp_ret (blk_ret (then_ret (then_ret (blk_ret (then_ret (ret1 rfl hF rfl ⟨_, rfl, rfl, hC⟩))))))
          · replace h := iteF hb h
            refine (wp_skip ?_)
            refine blk_normal (then_normal ?_)
            refine (wp_pure [(2, .pointer (some ⟨b1, 0, none⟩)), (3, .pointer (some ⟨b2, 0, none⟩)), (54, .slice a4 (List.length p1.Stack) c4), (55, .int .i64 (len p1.Stack)), (56, .int .i64 (w64 (s1 + 1)))] hF (by kernel_rfl) fun fr hF => then_normal ?_)
            exact ⟨_, (Option.some.inj h).symm, hF.sub _ (by kernel_rfl), hL2⟩
        · replace h := iteF hb h
          refine (wp_exit (then_exit (then_exit (blk_exit_eq ?_))))
          obtain rfl := hr1 _ (Option.some.inj h).symm
          exact then_normal ⟨_, rfl, hF.sub _ (by kernel_rfl), hL1⟩
      · obtain ⟨s1r, rfl, hM⟩ := hM
        obtain ⟨hF, hc⟩ := hM
        have zLw1o := hc.size
        have hC := hC.trans hc
        have r1 := r1.ext hc
        have r2 := r2.ext hc
        have r3 := r3.ext hc
        have r4 := r4.ext hc
        have r5 := r5.ext hc
        have hb1 := hb1.ext hc
        have hb2 := hb2.ext hc
        refine wp_seq (region_b [] [true, false, true, true, true, true, false, true, true, true, true, false, true, false, true, true, true, true, false, true, true, true, true, true, false, true, true, true, true, false, true, true, true, true, false, true, true, true, true, false, true, true, true]
            [.eq (.pointer (some ⟨b2, 3, none⟩)), .eq (.slice a4 (List.length p1.Stack) c4), .eq (.int .i64 (len p1.Stack)), .eq (.bool (decide ((len p1.Stack) ≤ 3))), .eq (.bool (decide ((len p1.Stack) ≤ 3))), .eq (.pointer (some ⟨b2, 4, none⟩)), .eq (.int .i64 p1.In), .eq (.bool (decide (p1.In ≥ 0))), .eq (.bool ((decide ((len p1.Stack) ≤ 3)) && (decide (p1.In ≥ 0)))), .eq (.bool ((decide ((len p1.Stack) ≤ 3)) && (decide (p1.In ≥ 0)))), .eq (.pointer (some ⟨b2, 4, none⟩)), .eq (.int .i64 p1.In), .eq (.pointer (some ⟨b1, 2, none⟩)), .eq (.int .i64 p0.In), .eq (.bool (decide (p1.In ≤ p0.In))), .eq (.bool (((decide ((len p1.Stack) ≤ 3)) && (decide (p1.In ≥ 0))) && (decide (p1.In ≤ p0.In)))), .eq (.bool (((decide ((len p1.Stack) ≤ 3)) && (decide (p1.In ≥ 0))) && (decide (p1.In ≤ p0.In)))), .eq (.pointer (some ⟨b2, 5, none⟩)), .eq (.slice a5 (List.length p1.Out) c5), .eq (.int .i64 (len p1.Out)), .eq (.bool (decide ((len p1.Out) ≤ 6))), .eq (.bool ((((decide ((len p1.Stack) ≤ 3)) && (decide (p1.In ≥ 0))) && (decide (p1.In ≤ p0.In))) && (decide ((len p1.Out) ≤ 6)))), .eq (.bool ((((decide ((len p1.Stack) ≤ 3)) && (decide (p1.In ≥ 0))) && (decide (p1.In ≤ p0.In))) && (decide ((len p1.Out) ≤ 6)))), .eq (.pointer (some ⟨b2, 6, none⟩)), .eq (.int .i64 p1.Code), .eq (.bool (decide (p1.Code ≥ 0))), .eq (.bool (((((decide ((len p1.Stack) ≤ 3)) && (decide (p1.In ≥ 0))) && (decide (p1.In ≤ p0.In))) && (decide ((len p1.Out) ≤ 6))) && (decide (p1.Code ≥ 0)))), .eq (.bool (((((decide ((len p1.Stack) ≤ 3)) && (decide (p1.In ≥ 0))) && (decide (p1.In ≤ p0.In))) && (decide ((len p1.Out) ≤ 6))) && (decide (p1.Code ≥ 0)))), .eq (.pointer (some ⟨b2, 6, none⟩)), .eq (.int .i64 p1.Code), .eq (.bool (decide (p1.Code ≤ 8))), .eq (.bool ((((((decide ((len p1.Stack) ≤ 3)) && (decide (p1.In ≥ 0))) && (decide (p1.In ≤ p0.In))) && (decide ((len p1.Out) ≤ 6))) && (decide (p1.Code ≥ 0))) && (decide (p1.Code ≤ 8)))), .eq (.bool ((((((decide ((len p1.Stack) ≤ 3)) && (decide (p1.In ≥ 0))) && (decide (p1.In ≤ p0.In))) && (decide ((len p1.Out) ≤ 6))) && (decide (p1.Code ≥ 0))) && (decide (p1.Code ≤ 8)))), .eq (.pointer (some ⟨b2, 7, none⟩)), .eq (.int .i64 p1.Steps), .eq (.bool (decide (p1.Steps ≥ 0))), .eq (.bool (((((((decide ((len p1.Stack) ≤ 3)) && (decide (p1.In ≥ 0))) && (decide (p1.In ≤ p0.In))) && (decide ((len p1.Out) ≤ 6))) && (decide (p1.Code ≥ 0))) && (decide (p1.Code ≤ 8))) && (decide (p1.Steps ≥ 0)))), .eq (.bool (((((((decide ((len p1.Stack) ≤ 3)) && (decide (p1.In ≥ 0))) && (decide (p1.In ≤ p0.In))) && (decide ((len p1.Out) ≤ 6))) && (decide (p1.Code ≥ 0))) && (decide (p1.Code ≤ 8))) && (decide (p1.Steps ≥ 0)))), .eq (.pointer (some ⟨b2, 7, none⟩)), .eq (.int .i64 p1.Steps), .eq (.bool (decide (p1.Steps ≤ 400))), .eq (.bool ((((((((decide ((len p1.Stack) ≤ 3)) && (decide (p1.In ≥ 0))) && (decide (p1.In ≤ p0.In))) && (decide ((len p1.Out) ≤ 6))) && (decide (p1.Code ≥ 0))) && (decide (p1.Code ≤ 8))) && (decide (p1.Steps ≥ 0))) && (decide (p1.Steps ≤ 400)))), .eq (.bool ((((((((decide ((len p1.Stack) ≤ 3)) && (decide (p1.In ≥ 0))) && (decide (p1.In ≤ p0.In))) && (decide ((len p1.Out) ≤ 6))) && (decide (p1.Code ≥ 0))) && (decide (p1.Code ≤ 8))) && (decide (p1.Steps ≥ 0))) && (decide (p1.Steps ≤ 400))))]
            [(4, .bool ((((((((decide ((len p1.Stack) ≤ 3)) && (decide (p1.In ≥ 0))) && (decide (p1.In ≤ p0.In))) && (decide ((len p1.Out) ≤ 6))) && (decide (p1.Code ≥ 0))) && (decide (p1.Code ≤ 8))) && (decide (p1.Steps ≥ 0))) && (decide (p1.Steps ≤ 400))))] mix hF (by kernel_rfl) (by kernel_rfl) (by kernel_rfl) ⟨Pd.mono_eq, Pd.mono_eq, Pd.mono_eq, Pd.mono_eq, Pd.mono_eq, Pd.mono_eq, Pd.mono_eq, Pd.mono_eq, Pd.mono_eq, trivial⟩ (fun hG => ⟨np_loadBox hG hF ty26 rfl rfl hb2 rfl rfl rfl, np_loadBox hG hF ty3 rfl rfl hb2 rfl rfl rfl, np_loadBox hG hF ty3 rfl rfl hb2 rfl rfl rfl, np_loadBox hG hF ty3 rfl rfl hb1 rfl rfl rfl, np_loadBox hG hF ty26 rfl rfl hb2 rfl rfl rfl, np_loadBox hG hF ty3 rfl rfl hb2 rfl rfl rfl, np_loadBox hG hF ty3 rfl rfl hb2 rfl rfl rfl, np_loadBox hG hF ty3 rfl rfl hb2 rfl rfl rfl, np_loadBox hG hF ty3 rfl rfl hb2 rfl rfl rfl, trivial⟩) (by kernel_rfl) fun fr w6 hF hE hc => then_normal ?_)
        have hC := hC.trans hc
        have z6 := hc.size
        obtain rfl := Option.some.inj h
        exact wp_ret (ret1 rfl hF rfl ⟨_, rfl, rfl, hC⟩)

theorem laws_eqIns_ok (p0 : D.Ins) (p1 : D.Ins) {r : Bool} (h : laws_eqIns p0 p1 = some r) {w : World} :
    Calls Try.prog 73 [.agg #[.int .i64 p0.Op, .int .i64 p0.A, .int .i64 p0.B, .int .i64 p0.C], .agg #[.int .i64 p1.Op, .int .i64 p1.A, .int .i64 p1.B, .int .i64 p1.C]].toArray w fun e w' => ∃ v, e = .returned v ∧ v = .bool r ∧ Chg Non w w' := by
  unfold laws_eqIns at h
  have hC : Chg Non w w := Chg.refl _ _
  refine enter (N := 25) Try.func73 rfl Try.ntmps73 rfl fun fr hF => ?_
  refine wp_seq (wp_text' ?_)
  refine s_box [.int .i64 p0.Op, .int .i64 p0.A, .int .i64 p0.B, .int .i64 p0.C] rfl rfl hF rfl rfl fun b1 w1 fr b1lo hb1 hc hF => ?_
  have hC := hC.trans hc
  have z1 := hc.size
  have b1hi := hb1.lt
  refine s_box [.int .i64 p1.Op, .int .i64 p1.A, .int .i64 p1.B, .int .i64 p1.C] rfl rfl hF rfl rfl fun b2 w2 fr b2lo hb2 hc hF => ?_
  have hC := hC.trans hc
  have hb1 := hb1.ext hc
  have z2 := hc.size
  have b2hi := hb2.lt
  refine from_pure 1 [(2, .pointer (some ⟨b1, 0, none⟩)), (3, .pointer (some ⟨b2, 0, none⟩))] hF (by kernel_rfl) fun fr hF => ?_
  refine from_end rfl (then_normal ?_)
  refine wp_seq ?_
  refine wp_seq (wp_text' ?_)
  refine from_pure 1 [(2, .pointer (some ⟨b1, 0, none⟩)), (3, .pointer (some ⟨b2, 0, none⟩)), (5, .pointer (some ⟨b1, 0, none⟩))] hF (by kernel_rfl) fun fr hF => ?_
  refine s_loadBox (.int .i64 p0.Op) ty3 rfl rfl hF rfl hb1 rfl rfl fun fr hF => ?_
  refine from_pure 1 [(2, .pointer (some ⟨b1, 0, none⟩)), (3, .pointer (some ⟨b2, 0, none⟩)), (6, .int .i64 p0.Op), (7, .pointer (some ⟨b2, 0, none⟩))] hF (by kernel_rfl) fun fr hF => ?_
  refine s_loadBox (.int .i64 p1.Op) ty3 rfl rfl hF rfl hb2 rfl rfl fun fr hF => ?_
  refine from_pure 1 [(2, .pointer (some ⟨b1, 0, none⟩)), (3, .pointer (some ⟨b2, 0, none⟩)), (9, .bool (p0.Op != p1.Op))] hF (by kernel_rfl) fun fr hF => ?_
  refine from_end rfl (then_normal ?_)
  refine (wp_if hF (b := (p0.Op != p1.Op)) rfl (fun hb => ?_) (fun hb => ?_))
  · replace h := iteT hb h
    refine wp_seq (wp_pure [(4, .bool false)] hF (by kernel_rfl) fun fr hF => then_normal ?_)
    obtain rfl := Option.some.inj h
    exact wp_ret (then_ret (ret1 rfl hF rfl ⟨_, rfl, rfl, hC⟩))
  · replace h := iteF hb h
    refine (wp_skip (then_normal ?_))
    refine wp_seq ?_
    refine wp_seq (wp_text' ?_)
    refine from_pure 1 [(2, .pointer (some ⟨b1, 0, none⟩)), (3, .pointer (some ⟨b2, 0, none⟩)), (10, .pointer (some ⟨b1, 1, none⟩))] hF (by kernel_rfl) fun fr hF => ?_
    refine s_loadBox (.int .i64 p0.A) ty3 rfl rfl hF rfl hb1 rfl rfl fun fr hF => ?_
    refine from_pure 1 [(2, .pointer (some ⟨b1, 0, none⟩)), (3, .pointer (some ⟨b2, 0, none⟩)), (11, .int .i64 p0.A), (12, .pointer (some ⟨b2, 1, none⟩))] hF (by kernel_rfl) fun fr hF => ?_
    refine s_loadBox (.int .i64 p1.A) ty3 rfl rfl hF rfl hb2 rfl rfl fun fr hF => ?_
    refine from_pure 1 [(2, .pointer (some ⟨b1, 0, none⟩)), (3, .pointer (some ⟨b2, 0, none⟩)), (14, .bool (p0.A != p1.A))] hF (by kernel_rfl) fun fr hF => ?_
    refine from_end rfl (then_normal ?_)
    refine (wp_if hF (b := (p0.A != p1.A)) rfl (fun hb => ?_) (fun hb => ?_))
    · replace h := iteT hb h
      refine wp_seq (wp_pure [(4, .bool false)] hF (by kernel_rfl) fun fr hF => then_normal ?_)
      obtain rfl := Option.some.inj h
      exact wp_ret (then_ret (ret1 rfl hF rfl ⟨_, rfl, rfl, hC⟩))
    · replace h := iteF hb h
      refine (wp_skip (then_normal ?_))
      refine wp_seq ?_
      refine wp_seq (wp_text' ?_)
      refine from_pure 1 [(2, .pointer (some ⟨b1, 0, none⟩)), (3, .pointer (some ⟨b2, 0, none⟩)), (15, .pointer (some ⟨b1, 2, none⟩))] hF (by kernel_rfl) fun fr hF => ?_
      refine s_loadBox (.int .i64 p0.B) ty3 rfl rfl hF rfl hb1 rfl rfl fun fr hF => ?_
      refine from_pure 1 [(2, .pointer (some ⟨b1, 0, none⟩)), (3, .pointer (some ⟨b2, 0, none⟩)), (16, .int .i64 p0.B), (17, .pointer (some ⟨b2, 2, none⟩))] hF (by kernel_rfl) fun fr hF => ?_
      refine s_loadBox (.int .i64 p1.B) ty3 rfl rfl hF rfl hb2 rfl rfl fun fr hF => ?_
      refine from_pure 1 [(2, .pointer (some ⟨b1, 0, none⟩)), (3, .pointer (some ⟨b2, 0, none⟩)), (19, .bool (p0.B != p1.B))] hF (by kernel_rfl) fun fr hF => ?_
      refine from_end rfl (then_normal ?_)
      refine (wp_if hF (b := (p0.B != p1.B)) rfl (fun hb => ?_) (fun hb => ?_))
      · replace h := iteT hb h
        refine wp_seq (wp_pure [(4, .bool false)] hF (by kernel_rfl) fun fr hF => then_normal ?_)
        obtain rfl := Option.some.inj h
        exact wp_ret (then_ret (ret1 rfl hF rfl ⟨_, rfl, rfl, hC⟩))
      · replace h := iteF hb h
        refine (wp_skip (then_normal ?_))
        refine wp_seq ?_
        refine wp_seq (wp_text' ?_)
        refine from_pure 1 [(3, .pointer (some ⟨b2, 0, none⟩)), (20, .pointer (some ⟨b1, 3, none⟩))] hF (by kernel_rfl) fun fr hF => ?_
        refine s_loadBox (.int .i64 p0.C) ty3 rfl rfl hF rfl hb1 rfl rfl fun fr hF => ?_
        refine from_pure 1 [(21, .int .i64 p0.C), (22, .pointer (some ⟨b2, 3, none⟩))] hF (by kernel_rfl) fun fr hF => ?_
        refine s_loadBox (.int .i64 p1.C) ty3 rfl rfl hF rfl hb2 rfl rfl fun fr hF => ?_
        refine from_pure 1 [(24, .bool (p0.C != p1.C))] hF (by kernel_rfl) fun fr hF => ?_
        refine from_end rfl (then_normal ?_)
        refine (wp_if hF (b := (p0.C != p1.C)) rfl (fun hb => ?_) (fun hb => ?_))
        · replace h := iteT hb h
          refine wp_seq (wp_pure [(4, .bool false)] hF (by kernel_rfl) fun fr hF => then_normal ?_)
          obtain rfl := Option.some.inj h
          exact wp_ret (then_ret (ret1 rfl hF rfl ⟨_, rfl, rfl, hC⟩))
        · replace h := iteF hb h
          refine (wp_skip (then_normal ?_))
          refine wp_seq (wp_pure [(4, .bool true)] hF (by kernel_rfl) fun fr hF => then_normal ?_)
          obtain rfl := Option.some.inj h
          exact wp_ret (ret1 rfl hF rfl ⟨_, rfl, rfl, hC⟩)

theorem laws_eqInsS_ok (n : Nat) (p0 : List D.Ins) (p1 : List D.Ins) {r : Bool} (h : laws_eqInsS n p0 p1 = some r) {w : World} {F0 : Nat → Prop} {va0 : Value} (ra0 : RV w F0 va0 p0) {F1 : Nat → Prop} {va1 : Value} (ra1 : RV w F1 va1 p1) :
    Calls Try.prog 43 [va0, va1].toArray w fun e w' => ∃ v, e = .returned v ∧ v = .bool r ∧ Chg Non w w' := by
  unfold laws_eqInsS at h
  have ra0 := ra0.sub (F' := fun k => k < w.heap.size) (fun k hk _ => hk)
  obtain ⟨a1, c1, rfl, -⟩ := ra0.slice
  have ra1 := ra1.sub (F' := fun k => k < w.heap.size) (fun k hk _ => hk)
  obtain ⟨a2, c2, rfl, -⟩ := ra1.slice
  have hC : Chg Non w w := Chg.refl _ _
  refine enter (N := 27) Try.func43 rfl Try.ntmps43 rfl fun fr hF => ?_
  refine wp_seq (wp_pure [(0, .slice a1 (List.length p0) c1), (1, .slice a2 (List.length p1) c2)] hF (by kernel_rfl) fun fr hF => then_normal ?_)
  refine wp_seq ?_
  refine wp_seq (wp_pure [(0, .slice a1 (List.length p0) c1), (1, .slice a2 (List.length p1) c2), (10, .bool ((len p0) != (len p1)))] hF (by kernel_rfl) fun fr hF => then_normal ?_)
  refine (wp_if hF (b := ((len p0) != (len p1))) rfl (fun hb => ?_) (fun hb => ?_))
  · replace h := iteT hb h
    refine wp_seq (wp_pure [(4, .bool false)] hF (by kernel_rfl) fun fr hF => then_normal ?_)
    obtain rfl := Option.some.inj h
    exact wp_ret (then_ret (ret1 rfl hF rfl ⟨_, rfl, rfl, hC⟩))
  · replace h := iteF hb h
    refine (wp_skip (then_normal ?_))
    refine wp_seq ?_
    refine wp_seq (wp_pure [(0, .slice a1 (List.length p0) c1), (1, .slice a2 (List.length p1) c2), (5, .int .i64 0)] hF (by kernel_rfl) fun fr hF => then_normal ?_)
    obtain ⟨rl1, hit1, h⟩ := bindE h
    have hk1 := h
    refine (wp_cut (M := fun fr w' => ∃ s, rl1 = .inl s ∧ FrS 27 [] fr ∧ Chg (Non) w w') (wp_block (wp_iter (Inv := fun s1 fr w' => FrS 27 [(0, .slice a1 (List.length p0) c1), (1, .slice a2 (List.length p1) c2), (5, .int .i64 s1)] fr ∧ Chg (Non) w w') hit1 ⟨hF.sub _ (by kernel_rfl), Chg.refl _ _⟩ fun s1 q1 fr w1i hI h hr1 => ?_)) fun fr w1o hM => ?_)
    · obtain ⟨hF, hc⟩ := hI
      have zLw1i := hc.size
      have hC := hC.trans hc
      have ra0 := ra0.ext hc
      have ra1 := ra1.ext hc
      have hL1 := hc
      refine wp_seq ?_
      refine wp_seq (wp_pure [(0, .slice a1 (List.length p0) c1), (1, .slice a2 (List.length p1) c2), (5, .int .i64 s1), (14, .bool (decide (s1 < (len p0))))] hF (by kernel_rfl) fun fr hF => then_normal ?_)
      refine (wp_if hF (b := (decide (s1 < (len p0)))) rfl (fun hb => ?_) (fun hb => ?_))
      · replace h := iteT hb h
        refine (wp_skip (then_normal ?_))
        refine wp_seq (wp_block ?_)
        obtain ⟨x1, hx1, h⟩ := bindE h
        obtain ⟨x2, hx2, h⟩ := bindE h
        obtain ⟨x3, hx3, h⟩ := bindE h
        refine wp_seq (region_b [0, 0, 3, 7, 0, 0, 48, 112, 255, 511] [true, true, false, false, true, true, false, false, false, true]
            [.eq (.slice a1 (List.length p0) c1), .eq (.int .i64 s1), .is fun v w => ElemP w (fun k => k < w1i.heap.size) v (x1 : D.Ins), .eq (.agg #[.int .i64 x1.Op, .int .i64 x1.A, .int .i64 x1.B, .int .i64 x1.C]), .eq (.slice a2 (List.length p1) c2), .eq (.int .i64 s1), .is fun v w => ElemP w (fun k => k < w1i.heap.size) v (x2 : D.Ins), .eq (.agg #[.int .i64 x2.Op, .int .i64 x2.A, .int .i64 x2.B, .int .i64 x2.C]), .eq (.bool x3), .eq (.bool (!x3))]
            [(0, .slice a1 (List.length p0) c1), (1, .slice a2 (List.length p1) c2), (5, .int .i64 s1), (26, .bool (!x3))] mix hF (by kernel_rfl) (by kernel_rfl) (by kernel_rfl) ⟨mono_elem, Pd.mono_eq, mono_elem, Pd.mono_eq, Pd.mono_eq, trivial⟩ (fun hG => ⟨np_index hG hF ty85 Try.underlying30 rfl rfl (RV.sub (ra0) fun k hk _ => hk) rfl rfl (fun hg => ⟨get?_nn hx1, get?_at hx1⟩), np_loadF (z := x1) (i := 2) hG hF ty85 rfl rfl rfl rfl rfl rfl rfl, np_index hG hF ty85 Try.underlying30 rfl rfl (RV.sub (ra1) fun k hk _ => hk) rfl rfl (fun hg => ⟨get?_nn hx2, get?_at hx2⟩), np_loadF (z := x2) (i := 6) hG hF ty85 rfl rfl rfl rfl rfl rfl rfl, np_call [.agg #[.int .i64 x1.Op, .int .i64 x1.A, .int .i64 x1.B, .int .i64 x1.C], .agg #[.int .i64 x2.Op, .int .i64 x2.A, .int .i64 x2.B, .int .i64 x2.C]] hG hF Try.call73 rfl rfl (fun w hC hg => (laws_eqIns_ok x1 x2 hx3).mono fun e w' ⟨v, he, hv, hc⟩ => ⟨v, he, hc, hv⟩), trivial⟩) (by kernel_rfl) fun fr w1 hF hE hc => then_normal ?_)
        have hC := hC.trans hc
        have ra0 := ra0.ext hc
        have ra1 := ra1.ext hc
        have z1 := hc.size
        have hL2 := hL1.trans' hc (fun _ hx => False.elim hx)
        refine (wp_if hF (b := (!x3)) rfl (fun hb => ?_) (fun hb => ?_))
        · replace h := iteT hb h
          refine wp_seq (wp_pure [(4, .bool false)] hF (by kernel_rfl) fun fr hF => then_normal ?_)
          obtain rfl := hr1 _ (Option.some.inj h).symm
          obtain rfl := Option.some.inj hk1
          exact wp_ret (blk_ret (then_ret (then_ret (blk_ret (then_ret (ret1 rfl hF rfl ⟨_, rfl, rfl, hC⟩))))))
        · replace h := iteF hb h
          refine (wp_skip ?_)
          refine blk_normal (then_normal ?_)
          refine (wp_pure [(0, .slice a1 (List.length p0) c1), (1, .slice a2 (List.length p1) c2), (5, .int .i64 (w64 (s1 + 1)))] hF (by kernel_rfl) fun fr hF => then_normal ?_)
          exact ⟨_, (Option.some.inj h).symm, hF.sub _ (by kernel_rfl), hL2⟩
      · replace h := iteF hb h
        refine (wp_exit (then_exit (then_exit (blk_exit_eq ?_))))
        obtain rfl := hr1 _ (Option.some.inj h).symm
        exact then_normal ⟨_, rfl, hF.sub _ (by kernel_rfl), hL1⟩
    · obtain ⟨s1r, rfl, hM⟩ := hM
      obtain ⟨hF, hc⟩ := hM
      have zLw1o := hc.size
      have hC := hC.trans hc
      refine wp_seq (wp_pure [(4, .bool true)] hF (by kernel_rfl) fun fr hF => then_normal ?_)
      obtain rfl := Option.some.inj h
      exact wp_ret (ret1 rfl hF rfl ⟨_, rfl, rfl, hC⟩)

theorem laws_eqProgram_ok (n : Nat) (p0 : D.Program) (p1 : D.Program) {r : Bool} (h : laws_eqProgram n p0 p1 = some r) {w : World} {F0 : Nat → Prop} {va0 : Value} (ra0 : RV w F0 va0 p0) {F1 : Nat → Prop} {va1 : Value} (ra1 : RV w F1 va1 p1) :
    Calls Try.prog 14 [va0, va1].toArray w fun e w' => ∃ v, e = .returned v ∧ v = .bool r ∧ Chg Non w w' := by
  unfold laws_eqProgram at h
  have ra0 := ra0.sub (F' := fun k => k < w.heap.size) (fun k hk _ => hk)
  obtain ⟨v1, rfl, r1⟩ := RV.Program ra0
  obtain ⟨a1, c1, rfl, -⟩ := r1.slice
  have ra1 := ra1.sub (F' := fun k => k < w.heap.size) (fun k hk _ => hk)
  obtain ⟨v2, rfl, r2⟩ := RV.Program ra1
  obtain ⟨a2, c2, rfl, -⟩ := r2.slice
  have hC : Chg Non w w := Chg.refl _ _
  refine enter (N := 26) Try.func14 rfl Try.ntmps14 rfl fun fr hF => ?_
  refine wp_seq (wp_text' ?_)
  refine s_box [.int .i64 p0.W, .int .i64 p0.Mem, .int .i64 p0.In, .slice a1 (List.length p0.Code) c1] rfl rfl hF rfl rfl fun b1 w1 fr b1lo hb1 hc hF => ?_
  have hC := hC.trans hc
  have r1 := r1.ext hc
  have r2 := r2.ext hc
  have z1 := hc.size
  have b1hi := hb1.lt
  refine s_box [.int .i64 p1.W, .int .i64 p1.Mem, .int .i64 p1.In, .slice a2 (List.length p1.Code) c2] rfl rfl hF rfl rfl fun b2 w2 fr b2lo hb2 hc hF => ?_
  have hC := hC.trans hc
  have r2 := r2.ext hc
  have r1 := r1.ext hc
  have hb1 := hb1.ext hc
  have z2 := hc.size
  have b2hi := hb2.lt
  refine from_pure 1 [(2, .pointer (some ⟨b1, 0, none⟩)), (3, .pointer (some ⟨b2, 0, none⟩))] hF (by kernel_rfl) fun fr hF => ?_
  refine from_end rfl (then_normal ?_)
  refine wp_seq ?_
  refine wp_seq (wp_text' ?_)
  refine from_pure 1 [(2, .pointer (some ⟨b1, 0, none⟩)), (3, .pointer (some ⟨b2, 0, none⟩)), (5, .pointer (some ⟨b1, 0, none⟩))] hF (by kernel_rfl) fun fr hF => ?_
  refine s_loadBox (.int .i64 p0.W) ty3 rfl rfl hF rfl hb1 rfl rfl fun fr hF => ?_
  refine from_pure 1 [(2, .pointer (some ⟨b1, 0, none⟩)), (3, .pointer (some ⟨b2, 0, none⟩)), (6, .int .i64 p0.W), (7, .pointer (some ⟨b2, 0, none⟩))] hF (by kernel_rfl) fun fr hF => ?_
  refine s_loadBox (.int .i64 p1.W) ty3 rfl rfl hF rfl hb2 rfl rfl fun fr hF => ?_
  refine from_pure 1 [(2, .pointer (some ⟨b1, 0, none⟩)), (3, .pointer (some ⟨b2, 0, none⟩)), (9, .bool (p0.W != p1.W))] hF (by kernel_rfl) fun fr hF => ?_
  refine from_end rfl (then_normal ?_)
  refine (wp_if hF (b := (p0.W != p1.W)) rfl (fun hb => ?_) (fun hb => ?_))
  · replace h := iteT hb h
    refine wp_seq (wp_pure [(4, .bool false)] hF (by kernel_rfl) fun fr hF => then_normal ?_)
    obtain rfl := Option.some.inj h
    exact wp_ret (then_ret (ret1 rfl hF rfl ⟨_, rfl, rfl, hC⟩))
  · replace h := iteF hb h
    refine (wp_skip (then_normal ?_))
    refine wp_seq ?_
    refine wp_seq (wp_text' ?_)
    refine from_pure 1 [(2, .pointer (some ⟨b1, 0, none⟩)), (3, .pointer (some ⟨b2, 0, none⟩)), (10, .pointer (some ⟨b1, 1, none⟩))] hF (by kernel_rfl) fun fr hF => ?_
    refine s_loadBox (.int .i64 p0.Mem) ty3 rfl rfl hF rfl hb1 rfl rfl fun fr hF => ?_
    refine from_pure 1 [(2, .pointer (some ⟨b1, 0, none⟩)), (3, .pointer (some ⟨b2, 0, none⟩)), (11, .int .i64 p0.Mem), (12, .pointer (some ⟨b2, 1, none⟩))] hF (by kernel_rfl) fun fr hF => ?_
    refine s_loadBox (.int .i64 p1.Mem) ty3 rfl rfl hF rfl hb2 rfl rfl fun fr hF => ?_
    refine from_pure 1 [(2, .pointer (some ⟨b1, 0, none⟩)), (3, .pointer (some ⟨b2, 0, none⟩)), (14, .bool (p0.Mem != p1.Mem))] hF (by kernel_rfl) fun fr hF => ?_
    refine from_end rfl (then_normal ?_)
    refine (wp_if hF (b := (p0.Mem != p1.Mem)) rfl (fun hb => ?_) (fun hb => ?_))
    · replace h := iteT hb h
      refine wp_seq (wp_pure [(4, .bool false)] hF (by kernel_rfl) fun fr hF => then_normal ?_)
      obtain rfl := Option.some.inj h
      exact wp_ret (then_ret (ret1 rfl hF rfl ⟨_, rfl, rfl, hC⟩))
    · replace h := iteF hb h
      refine (wp_skip (then_normal ?_))
      refine wp_seq ?_
      refine wp_seq (wp_text' ?_)
      refine from_pure 1 [(2, .pointer (some ⟨b1, 0, none⟩)), (3, .pointer (some ⟨b2, 0, none⟩)), (15, .pointer (some ⟨b1, 2, none⟩))] hF (by kernel_rfl) fun fr hF => ?_
      refine s_loadBox (.int .i64 p0.In) ty3 rfl rfl hF rfl hb1 rfl rfl fun fr hF => ?_
      refine from_pure 1 [(2, .pointer (some ⟨b1, 0, none⟩)), (3, .pointer (some ⟨b2, 0, none⟩)), (16, .int .i64 p0.In), (17, .pointer (some ⟨b2, 2, none⟩))] hF (by kernel_rfl) fun fr hF => ?_
      refine s_loadBox (.int .i64 p1.In) ty3 rfl rfl hF rfl hb2 rfl rfl fun fr hF => ?_
      refine from_pure 1 [(2, .pointer (some ⟨b1, 0, none⟩)), (3, .pointer (some ⟨b2, 0, none⟩)), (19, .bool (p0.In != p1.In))] hF (by kernel_rfl) fun fr hF => ?_
      refine from_end rfl (then_normal ?_)
      refine (wp_if hF (b := (p0.In != p1.In)) rfl (fun hb => ?_) (fun hb => ?_))
      · replace h := iteT hb h
        refine wp_seq (wp_pure [(4, .bool false)] hF (by kernel_rfl) fun fr hF => then_normal ?_)
        obtain rfl := Option.some.inj h
        exact wp_ret (then_ret (ret1 rfl hF rfl ⟨_, rfl, rfl, hC⟩))
      · replace h := iteF hb h
        refine (wp_skip (then_normal ?_))
        refine wp_seq ?_
        refine wp_seq (wp_text' ?_)
        refine from_pure 1 [(3, .pointer (some ⟨b2, 0, none⟩)), (20, .pointer (some ⟨b1, 3, none⟩))] hF (by kernel_rfl) fun fr hF => ?_
        refine s_loadBox (.slice a1 (List.length p0.Code) c1) ty30 rfl rfl hF rfl hb1 rfl rfl fun fr hF => ?_
        refine from_pure 1 [(21, .slice a1 (List.length p0.Code) c1), (22, .pointer (some ⟨b2, 3, none⟩))] hF (by kernel_rfl) fun fr hF => ?_
        refine s_loadBox (.slice a2 (List.length p1.Code) c2) ty30 rfl rfl hF rfl hb2 rfl rfl fun fr hF => ?_
        obtain ⟨x1, hx1, h⟩ := bindE h
        refine s_call [.slice a1 (List.length p0.Code) c1, .slice a2 (List.length p1.Code) c2] Try.call43 rfl rfl hF rfl (laws_eqInsS_ok n p0.Code p1.Code hx1 r1 r2) fun v w3 fr hR hF => ?_
        obtain ⟨rfl, hc⟩ := hR
        have hC := hC.trans hc
        have r1 := r1.ext hc
        have r2 := r2.ext hc
        have z3 := hc.size
        refine from_pure 1 [(25, .bool (!x1))] hF (by kernel_rfl) fun fr hF => ?_
        refine from_end rfl (then_normal ?_)
        refine (wp_if hF (b := (!x1)) rfl (fun hb => ?_) (fun hb => ?_))
        · replace h := iteT hb h
          refine wp_seq (wp_pure [(4, .bool false)] hF (by kernel_rfl) fun fr hF => then_normal ?_)
          obtain rfl := Option.some.inj h
          exact wp_ret (then_ret (ret1 rfl hF rfl ⟨_, rfl, rfl, hC⟩))
        · replace h := iteF hb h
          refine (wp_skip (then_normal ?_))
          refine wp_seq (wp_pure [(4, .bool true)] hF (by kernel_rfl) fun fr hF => then_normal ?_)
          obtain rfl := Option.some.inj h
          exact wp_ret (ret1 rfl hF rfl ⟨_, rfl, rfl, hC⟩)

theorem laws_eqIntS_ok (n : Nat) (p0 : List Int) (p1 : List Int) {r : Bool} (h : laws_eqIntS n p0 p1 = some r) {w : World} {F0 : Nat → Prop} {va0 : Value} (ra0 : RV w F0 va0 p0) {F1 : Nat → Prop} {va1 : Value} (ra1 : RV w F1 va1 p1) :
    Calls Try.prog 33 [va0, va1].toArray w fun e w' => ∃ v, e = .returned v ∧ v = .bool r ∧ Chg Non w w' := by
  unfold laws_eqIntS at h
  have ra0 := ra0.sub (F' := fun k => k < w.heap.size) (fun k hk _ => hk)
  obtain ⟨a1, c1, rfl, -⟩ := ra0.slice
  have ra1 := ra1.sub (F' := fun k => k < w.heap.size) (fun k hk _ => hk)
  obtain ⟨a2, c2, rfl, -⟩ := ra1.slice
  have hC : Chg Non w w := Chg.refl _ _
  refine enter (N := 26) Try.func33 rfl Try.ntmps33 rfl fun fr hF => ?_
  refine wp_seq (wp_pure [(0, .slice a1 (List.length p0) c1), (1, .slice a2 (List.length p1) c2)] hF (by kernel_rfl) fun fr hF => then_normal ?_)
  refine wp_seq ?_
  refine wp_seq (wp_pure [(0, .slice a1 (List.length p0) c1), (1, .slice a2 (List.length p1) c2), (10, .bool ((len p0) != (len p1)))] hF (by kernel_rfl) fun fr hF => then_normal ?_)
  refine (wp_if hF (b := ((len p0) != (len p1))) rfl (fun hb => ?_) (fun hb => ?_))
  · replace h := iteT hb h
    refine wp_seq (wp_pure [(4, .bool false)] hF (by kernel_rfl) fun fr hF => then_normal ?_)
    obtain rfl := Option.some.inj h
    exact wp_ret (then_ret (ret1 rfl hF rfl ⟨_, rfl, rfl, hC⟩))
  · replace h := iteF hb h
    refine (wp_skip (then_normal ?_))
    refine wp_seq ?_
    refine wp_seq (wp_pure [(0, .slice a1 (List.length p0) c1), (1, .slice a2 (List.length p1) c2), (5, .int .i64 0)] hF (by kernel_rfl) fun fr hF => then_normal ?_)
    obtain ⟨rl1, hit1, h⟩ := bindE h
    have hk1 := h
    refine (wp_cut (M := fun fr w' => ∃ s, rl1 = .inl s ∧ FrS 26 [] fr ∧ Chg (Non) w w') (wp_block (wp_iter (Inv := fun s1 fr w' => FrS 26 [(0, .slice a1 (List.length p0) c1), (1, .slice a2 (List.length p1) c2), (5, .int .i64 s1)] fr ∧ Chg (Non) w w') hit1 ⟨hF.sub _ (by kernel_rfl), Chg.refl _ _⟩ fun s1 q1 fr w1i hI h hr1 => ?_)) fun fr w1o hM => ?_)
    · obtain ⟨hF, hc⟩ := hI
      have zLw1i := hc.size
      have hC := hC.trans hc
      have ra0 := ra0.ext hc
      have ra1 := ra1.ext hc
      have hL1 := hc
      refine wp_seq ?_
      refine wp_seq (wp_pure [(0, .slice a1 (List.length p0) c1), (1, .slice a2 (List.length p1) c2), (5, .int .i64 s1), (14, .bool (decide (s1 < (len p0))))] hF (by kernel_rfl) fun fr hF => then_normal ?_)
      refine (wp_if hF (b := (decide (s1 < (len p0)))) rfl (fun hb => ?_) (fun hb => ?_))
      · replace h := iteT hb h
        refine (wp_skip (then_normal ?_))
        refine wp_seq (wp_block ?_)
        obtain ⟨x1, hx1, h⟩ := bindE h
        obtain ⟨x2, hx2, h⟩ := bindE h
        refine wp_seq (region_b [0, 0, 3, 7, 0, 0, 48, 112, 255] [true, true, false, false, true, true, false, false, true]
            [.eq (.slice a1 (List.length p0) c1), .eq (.int .i64 s1), .is fun v w => ElemP w (fun k => k < w1i.heap.size) v (x1 : Int), .eq (.int .i64 x1), .eq (.slice a2 (List.length p1) c2), .eq (.int .i64 s1), .is fun v w => ElemP w (fun k => k < w1i.heap.size) v (x2 : Int), .eq (.int .i64 x2), .eq (.bool (x1 != x2))]
            [(0, .slice a1 (List.length p0) c1), (1, .slice a2 (List.length p1) c2), (5, .int .i64 s1), (25, .bool (x1 != x2))] mix hF (by kernel_rfl) (by kernel_rfl) (by kernel_rfl) ⟨mono_elem, Pd.mono_eq, mono_elem, Pd.mono_eq, trivial⟩ (fun hG => ⟨np_index hG hF ty3 Try.underlying26 rfl rfl (RV.sub (ra0) fun k hk _ => hk) rfl rfl (fun hg => ⟨get?_nn hx1, get?_at hx1⟩), np_loadF (z := x1) (i := 2) hG hF ty3 rfl rfl rfl rfl rfl rfl rfl, np_index hG hF ty3 Try.underlying26 rfl rfl (RV.sub (ra1) fun k hk _ => hk) rfl rfl (fun hg => ⟨get?_nn hx2, get?_at hx2⟩), np_loadF (z := x2) (i := 6) hG hF ty3 rfl rfl rfl rfl rfl rfl rfl, trivial⟩) (by kernel_rfl) fun fr w1 hF hE hc => then_normal ?_)
        have hC := hC.trans hc
        have ra0 := ra0.ext hc
        have ra1 := ra1.ext hc
        have z1 := hc.size
        have hL2 := hL1.trans' hc (fun _ hx => False.elim hx)
        refine (wp_if hF (b := (x1 != x2)) rfl (fun hb => ?_) (fun hb => ?_))
        · replace h := iteT hb h
          refine wp_seq (wp_pure [(4, .bool false)] hF (by kernel_rfl) fun fr hF => then_normal ?_)
          obtain rfl := hr1 _ (Option.some.inj h).symm
          obtain rfl := Option.some.inj hk1
          exact wp_ret (blk_ret (then_ret (then_ret (blk_ret (then_ret (ret1 rfl hF rfl ⟨_, rfl, rfl, hC⟩))))))
        · replace h := iteF hb h
          refine (wp_skip ?_)
          refine blk_normal (then_normal ?_)
          refine (wp_pure [(0, .slice a1 (List.length p0) c1), (1, .slice a2 (List.length p1) c2), (5, .int .i64 (w64 (s1 + 1)))] hF (by kernel_rfl) fun fr hF => then_normal ?_)
          exact ⟨_, (Option.some.inj h).symm, hF.sub _ (by kernel_rfl), hL2⟩
      · replace h := iteF hb h
        refine (wp_exit (then_exit (then_exit (blk_exit_eq ?_))))
        obtain rfl := hr1 _ (Option.some.inj h).symm
        exact then_normal ⟨_, rfl, hF.sub _ (by kernel_rfl), hL1⟩
    · obtain ⟨s1r, rfl, hM⟩ := hM
      obtain ⟨hF, hc⟩ := hM
      have zLw1o := hc.size
      have hC := hC.trans hc
      refine wp_seq (wp_pure [(4, .bool true)] hF (by kernel_rfl) fun fr hF => then_normal ?_)
      obtain rfl := Option.some.inj h
      exact wp_ret (ret1 rfl hF rfl ⟨_, rfl, rfl, hC⟩)

theorem laws_eqState_ok (n : Nat) (p0 : D.State) (p1 : D.State) {r : Bool} (h : laws_eqState n p0 p1 = some r) {w : World} {F0 : Nat → Prop} {va0 : Value} (ra0 : RV w F0 va0 p0) {F1 : Nat → Prop} {va1 : Value} (ra1 : RV w F1 va1 p1) :
    Calls Try.prog 13 [va0, va1].toArray w fun e w' => ∃ v, e = .returned v ∧ v = .bool r ∧ Chg Non w w' := by
  unfold laws_eqState at h
  have ra0 := ra0.sub (F' := fun k => k < w.heap.size) (fun k hk _ => hk)
  obtain ⟨v1, v2, v3, v4, rfl, r1, r2, r3, r4⟩ := RV.State ra0
  obtain ⟨a1, c1, rfl, -⟩ := r1.slice
  obtain ⟨a2, c2, rfl, -⟩ := r2.slice
  obtain ⟨a3, c3, rfl, -⟩ := r3.slice
  obtain ⟨a4, c4, rfl, -⟩ := r4.slice
  have ra1 := ra1.sub (F' := fun k => k < w.heap.size) (fun k hk _ => hk)
  obtain ⟨v5, v6, v7, v8, rfl, r5, r6, r7, r8⟩ := RV.State ra1
  obtain ⟨a5, c5, rfl, -⟩ := r5.slice
  obtain ⟨a6, c6, rfl, -⟩ := r6.slice
  obtain ⟨a7, c7, rfl, -⟩ := r7.slice
  obtain ⟨a8, c8, rfl, -⟩ := r8.slice
  have hC : Chg Non w w := Chg.refl _ _
  refine enter (N := 49) Try.func13 rfl Try.ntmps13 rfl fun fr hF => ?_
  refine wp_seq (wp_text' ?_)
  refine s_box [.int .i64 p0.Pc, .slice a1 (List.length p0.Regs) c1, .slice a2 (List.length p0.Mem) c2, .slice a3 (List.length p0.Stack) c3, .int .i64 p0.In, .slice a4 (List.length p0.Out) c4, .int .i64 p0.Code, .int .i64 p0.Steps] rfl rfl hF rfl rfl fun b1 w1 fr b1lo hb1 hc hF => ?_
  have hC := hC.trans hc
  have r1 := r1.ext hc
  have r2 := r2.ext hc
  have r3 := r3.ext hc
  have r4 := r4.ext hc
  have r5 := r5.ext hc
  have r6 := r6.ext hc
  have r7 := r7.ext hc
  have r8 := r8.ext hc
  have z1 := hc.size
  have b1hi := hb1.lt
  refine s_box [.int .i64 p1.Pc, .slice a5 (List.length p1.Regs) c5, .slice a6 (List.length p1.Mem) c6, .slice a7 (List.length p1.Stack) c7, .int .i64 p1.In, .slice a8 (List.length p1.Out) c8, .int .i64 p1.Code, .int .i64 p1.Steps] rfl rfl hF rfl rfl fun b2 w2 fr b2lo hb2 hc hF => ?_
  have hC := hC.trans hc
  have r5 := r5.ext hc
  have r6 := r6.ext hc
  have r7 := r7.ext hc
  have r8 := r8.ext hc
  have r1 := r1.ext hc
  have r2 := r2.ext hc
  have r3 := r3.ext hc
  have r4 := r4.ext hc
  have hb1 := hb1.ext hc
  have z2 := hc.size
  have b2hi := hb2.lt
  refine from_pure 1 [(2, .pointer (some ⟨b1, 0, none⟩)), (3, .pointer (some ⟨b2, 0, none⟩))] hF (by kernel_rfl) fun fr hF => ?_
  refine from_end rfl (then_normal ?_)
  refine wp_seq ?_
  refine wp_seq (wp_text' ?_)
  refine from_pure 1 [(2, .pointer (some ⟨b1, 0, none⟩)), (3, .pointer (some ⟨b2, 0, none⟩)), (5, .pointer (some ⟨b1, 0, none⟩))] hF (by kernel_rfl) fun fr hF => ?_
  refine s_loadBox (.int .i64 p0.Pc) ty3 rfl rfl hF rfl hb1 rfl rfl fun fr hF => ?_
  refine from_pure 1 [(2, .pointer (some ⟨b1, 0, none⟩)), (3, .pointer (some ⟨b2, 0, none⟩)), (6, .int .i64 p0.Pc), (7, .pointer (some ⟨b2, 0, none⟩))] hF (by kernel_rfl) fun fr hF => ?_
  refine s_loadBox (.int .i64 p1.Pc) ty3 rfl rfl hF rfl hb2 rfl rfl fun fr hF => ?_
  refine from_pure 1 [(2, .pointer (some ⟨b1, 0, none⟩)), (3, .pointer (some ⟨b2, 0, none⟩)), (9, .bool (p0.Pc != p1.Pc))] hF (by kernel_rfl) fun fr hF => ?_
  refine from_end rfl (then_normal ?_)
  refine (wp_if hF (b := (p0.Pc != p1.Pc)) rfl (fun hb => ?_) (fun hb => ?_))
  · replace h := iteT hb h
    refine wp_seq (wp_pure [(4, .bool false)] hF (by kernel_rfl) fun fr hF => then_normal ?_)
    obtain rfl := Option.some.inj h
    exact wp_ret (then_ret (ret1 rfl hF rfl ⟨_, rfl, rfl, hC⟩))
  · replace h := iteF hb h
    refine (wp_skip (then_normal ?_))
    refine wp_seq ?_
    refine wp_seq (wp_text' ?_)
    refine from_pure 1 [(2, .pointer (some ⟨b1, 0, none⟩)), (3, .pointer (some ⟨b2, 0, none⟩)), (10, .pointer (some ⟨b1, 1, none⟩))] hF (by kernel_rfl) fun fr hF => ?_
    refine s_loadBox (.slice a1 (List.length p0.Regs) c1) ty26 rfl rfl hF rfl hb1 rfl rfl fun fr hF => ?_
    refine from_pure 1 [(2, .pointer (some ⟨b1, 0, none⟩)), (3, .pointer (some ⟨b2, 0, none⟩)), (11, .slice a1 (List.length p0.Regs) c1), (12, .pointer (some ⟨b2, 1, none⟩))] hF (by kernel_rfl) fun fr hF => ?_
    refine s_loadBox (.slice a5 (List.length p1.Regs) c5) ty26 rfl rfl hF rfl hb2 rfl rfl fun fr hF => ?_
    obtain ⟨x1, hx1, h⟩ := bindE h
    refine s_call [.slice a1 (List.length p0.Regs) c1, .slice a5 (List.length p1.Regs) c5] Try.call33 rfl rfl hF rfl (laws_eqIntS_ok n p0.Regs p1.Regs hx1 r1 r5) fun v w3 fr hR hF => ?_
    obtain ⟨rfl, hc⟩ := hR
    have hC := hC.trans hc
    have r1 := r1.ext hc
    have r5 := r5.ext hc
    have r2 := r2.ext hc
    have r3 := r3.ext hc
    have r4 := r4.ext hc
    have r6 := r6.ext hc
    have r7 := r7.ext hc
    have r8 := r8.ext hc
    have hb1 := hb1.ext hc
    have hb2 := hb2.ext hc
    have z3 := hc.size
    refine from_pure 1 [(2, .pointer (some ⟨b1, 0, none⟩)), (3, .pointer (some ⟨b2, 0, none⟩)), (15, .bool (!x1))] hF (by kernel_rfl) fun fr hF => ?_
    refine from_end rfl (then_normal ?_)
    refine (wp_if hF (b := (!x1)) rfl (fun hb => ?_) (fun hb => ?_))
    · replace h := iteT hb h
      refine wp_seq (wp_pure [(4, .bool false)] hF (by kernel_rfl) fun fr hF => then_normal ?_)
      obtain rfl := Option.some.inj h
      exact wp_ret (then_ret (ret1 rfl hF rfl ⟨_, rfl, rfl, hC⟩))
    · replace h := iteF hb h
      refine (wp_skip (then_normal ?_))
      refine wp_seq ?_
      refine wp_seq (wp_text' ?_)
      refine from_pure 1 [(2, .pointer (some ⟨b1, 0, none⟩)), (3, .pointer (some ⟨b2, 0, none⟩)), (16, .pointer (some ⟨b1, 2, none⟩))] hF (by kernel_rfl) fun fr hF => ?_
      refine s_loadBox (.slice a2 (List.length p0.Mem) c2) ty26 rfl rfl hF rfl hb1 rfl rfl fun fr hF => ?_
      refine from_pure 1 [(2, .pointer (some ⟨b1, 0, none⟩)), (3, .pointer (some ⟨b2, 0, none⟩)), (17, .slice a2 (List.length p0.Mem) c2), (18, .pointer (some ⟨b2, 2, none⟩))] hF (by kernel_rfl) fun fr hF => ?_
      refine s_loadBox (.slice a6 (List.length p1.Mem) c6) ty26 rfl rfl hF rfl hb2 rfl rfl fun fr hF => ?_
      obtain ⟨x2, hx2, h⟩ := bindE h
      refine s_call [.slice a2 (List.length p0.Mem) c2, .slice a6 (List.length p1.Mem) c6] Try.call33 rfl rfl hF rfl (laws_eqIntS_ok n p0.Mem p1.Mem hx2 r2 r6) fun v w4 fr hR hF => ?_
      obtain ⟨rfl, hc⟩ := hR
      have hC := hC.trans hc
      have r2 := r2.ext hc
      have r6 := r6.ext hc
      have r1 := r1.ext hc
      have r3 := r3.ext hc
      have r4 := r4.ext hc
      have r5 := r5.ext hc
      have r7 := r7.ext hc
      have r8 := r8.ext hc
      have hb1 := hb1.ext hc
      have hb2 := hb2.ext hc
      have z4 := hc.size
      refine from_pure 1 [(2, .pointer (some ⟨b1, 0, none⟩)), (3, .pointer (some ⟨b2, 0, none⟩)), (21, .bool (!x2))] hF (by kernel_rfl) fun fr hF => ?_
      refine from_end rfl (then_normal ?_)
      refine (wp_if hF (b := (!x2)) rfl (fun hb => ?_) (fun hb => ?_))
      · replace h := iteT hb h
        refine wp_seq (wp_pure [(4, .bool false)] hF (by kernel_rfl) fun fr hF => then_normal ?_)
        obtain rfl := Option.some.inj h
        exact wp_ret (then_ret (ret1 rfl hF rfl ⟨_, rfl, rfl, hC⟩))
      · replace h := iteF hb h
        refine (wp_skip (then_normal ?_))
        refine wp_seq ?_
        refine wp_seq (wp_text' ?_)
        refine from_pure 1 [(2, .pointer (some ⟨b1, 0, none⟩)), (3, .pointer (some ⟨b2, 0, none⟩)), (22, .pointer (some ⟨b1, 3, none⟩))] hF (by kernel_rfl) fun fr hF => ?_
        refine s_loadBox (.slice a3 (List.length p0.Stack) c3) ty26 rfl rfl hF rfl hb1 rfl rfl fun fr hF => ?_
        refine from_pure 1 [(2, .pointer (some ⟨b1, 0, none⟩)), (3, .pointer (some ⟨b2, 0, none⟩)), (23, .slice a3 (List.length p0.Stack) c3), (24, .pointer (some ⟨b2, 3, none⟩))] hF (by kernel_rfl) fun fr hF => ?_
        refine s_loadBox (.slice a7 (List.length p1.Stack) c7) ty26 rfl rfl hF rfl hb2 rfl rfl fun fr hF => ?_
        obtain ⟨x3, hx3, h⟩ := bindE h
        refine s_call [.slice a3 (List.length p0.Stack) c3, .slice a7 (List.length p1.Stack) c7] Try.call33 rfl rfl hF rfl (laws_eqIntS_ok n p0.Stack p1.Stack hx3 r3 r7) fun v w5 fr hR hF => ?_
        obtain ⟨rfl, hc⟩ := hR
        have hC := hC.trans hc
        have r3 := r3.ext hc
        have r7 := r7.ext hc
        have r1 := r1.ext hc
        have r2 := r2.ext hc
        have r4 := r4.ext hc
        have r5 := r5.ext hc
        have r6 := r6.ext hc
        have r8 := r8.ext hc
        have hb1 := hb1.ext hc
        have hb2 := hb2.ext hc
        have z5 := hc.size
        refine from_pure 1 [(2, .pointer (some ⟨b1, 0, none⟩)), (3, .pointer (some ⟨b2, 0, none⟩)), (27, .bool (!x3))] hF (by kernel_rfl) fun fr hF => ?_
        refine from_end rfl (then_normal ?_)
        refine (wp_if hF (b := (!x3)) rfl (fun hb => ?_) (fun hb => ?_))
        · replace h := iteT hb h
          refine wp_seq (wp_pure [(4, .bool false)] hF (by kernel_rfl) fun fr hF => then_normal ?_)
          obtain rfl := Option.some.inj h
          exact wp_ret (then_ret (ret1 rfl hF rfl ⟨_, rfl, rfl, hC⟩))
        · replace h := iteF hb h
          refine (wp_skip (then_normal ?_))
          refine wp_seq ?_
          refine wp_seq (wp_text' ?_)
          refine from_pure 1 [(2, .pointer (some ⟨b1, 0, none⟩)), (3, .pointer (some ⟨b2, 0, none⟩)), (28, .pointer (some ⟨b1, 4, none⟩))] hF (by kernel_rfl) fun fr hF => ?_
          refine s_loadBox (.int .i64 p0.In) ty3 rfl rfl hF rfl hb1 rfl rfl fun fr hF => ?_
          refine from_pure 1 [(2, .pointer (some ⟨b1, 0, none⟩)), (3, .pointer (some ⟨b2, 0, none⟩)), (29, .int .i64 p0.In), (30, .pointer (some ⟨b2, 4, none⟩))] hF (by kernel_rfl) fun fr hF => ?_
          refine s_loadBox (.int .i64 p1.In) ty3 rfl rfl hF rfl hb2 rfl rfl fun fr hF => ?_
          refine from_pure 1 [(2, .pointer (some ⟨b1, 0, none⟩)), (3, .pointer (some ⟨b2, 0, none⟩)), (32, .bool (p0.In != p1.In))] hF (by kernel_rfl) fun fr hF => ?_
          refine from_end rfl (then_normal ?_)
          refine (wp_if hF (b := (p0.In != p1.In)) rfl (fun hb => ?_) (fun hb => ?_))
          · replace h := iteT hb h
            refine wp_seq (wp_pure [(4, .bool false)] hF (by kernel_rfl) fun fr hF => then_normal ?_)
            obtain rfl := Option.some.inj h
            exact wp_ret (then_ret (ret1 rfl hF rfl ⟨_, rfl, rfl, hC⟩))
          · replace h := iteF hb h
            refine (wp_skip (then_normal ?_))
            refine wp_seq ?_
            refine wp_seq (wp_text' ?_)
            refine from_pure 1 [(2, .pointer (some ⟨b1, 0, none⟩)), (3, .pointer (some ⟨b2, 0, none⟩)), (33, .pointer (some ⟨b1, 5, none⟩))] hF (by kernel_rfl) fun fr hF => ?_
            refine s_loadBox (.slice a4 (List.length p0.Out) c4) ty26 rfl rfl hF rfl hb1 rfl rfl fun fr hF => ?_
            refine from_pure 1 [(2, .pointer (some ⟨b1, 0, none⟩)), (3, .pointer (some ⟨b2, 0, none⟩)), (34, .slice a4 (List.length p0.Out) c4), (35, .pointer (some ⟨b2, 5, none⟩))] hF (by kernel_rfl) fun fr hF => ?_
            refine s_loadBox (.slice a8 (List.length p1.Out) c8) ty26 rfl rfl hF rfl hb2 rfl rfl fun fr hF => ?_
            obtain ⟨x4, hx4, h⟩ := bindE h
            refine s_call [.slice a4 (List.length p0.Out) c4, .slice a8 (List.length p1.Out) c8] Try.call33 rfl rfl hF rfl (laws_eqIntS_ok n p0.Out p1.Out hx4 r4 r8) fun v w6 fr hR hF => ?_
            obtain ⟨rfl, hc⟩ := hR
            have hC := hC.trans hc
            have r4 := r4.ext hc
            have r8 := r8.ext hc
            have r1 := r1.ext hc
            have r2 := r2.ext hc
            have r3 := r3.ext hc
            have r5 := r5.ext hc
            have r6 := r6.ext hc
            have r7 := r7.ext hc
            have hb1 := hb1.ext hc
            have hb2 := hb2.ext hc
            have z6 := hc.size
            refine from_pure 1 [(2, .pointer (some ⟨b1, 0, none⟩)), (3, .pointer (some ⟨b2, 0, none⟩)), (38, .bool (!x4))] hF (by kernel_rfl) fun fr hF => ?_
            refine from_end rfl (then_normal ?_)
            refine (wp_if hF (b := (!x4)) rfl (fun hb => ?_) (fun hb => ?_))
            · replace h := iteT hb h
              refine wp_seq (wp_pure [(4, .bool false)] hF (by kernel_rfl) fun fr hF => then_normal ?_)
              obtain rfl := Option.some.inj h
              exact wp_ret (then_ret (ret1 rfl hF rfl ⟨_, rfl, rfl, hC⟩))
            · replace h := iteF hb h
              refine (wp_skip (then_normal ?_))
              refine wp_seq ?_
              refine wp_seq (wp_text' ?_)
              refine from_pure 1 [(2, .pointer (some ⟨b1, 0, none⟩)), (3, .pointer (some ⟨b2, 0, none⟩)), (39, .pointer (some ⟨b1, 6, none⟩))] hF (by kernel_rfl) fun fr hF => ?_
              refine s_loadBox (.int .i64 p0.Code) ty3 rfl rfl hF rfl hb1 rfl rfl fun fr hF => ?_
              refine from_pure 1 [(2, .pointer (some ⟨b1, 0, none⟩)), (3, .pointer (some ⟨b2, 0, none⟩)), (40, .int .i64 p0.Code), (41, .pointer (some ⟨b2, 6, none⟩))] hF (by kernel_rfl) fun fr hF => ?_
              refine s_loadBox (.int .i64 p1.Code) ty3 rfl rfl hF rfl hb2 rfl rfl fun fr hF => ?_
              refine from_pure 1 [(2, .pointer (some ⟨b1, 0, none⟩)), (3, .pointer (some ⟨b2, 0, none⟩)), (43, .bool (p0.Code != p1.Code))] hF (by kernel_rfl) fun fr hF => ?_
              refine from_end rfl (then_normal ?_)
              refine (wp_if hF (b := (p0.Code != p1.Code)) rfl (fun hb => ?_) (fun hb => ?_))
              · replace h := iteT hb h
                refine wp_seq (wp_pure [(4, .bool false)] hF (by kernel_rfl) fun fr hF => then_normal ?_)
                obtain rfl := Option.some.inj h
                exact wp_ret (then_ret (ret1 rfl hF rfl ⟨_, rfl, rfl, hC⟩))
              · replace h := iteF hb h
                refine (wp_skip (then_normal ?_))
                refine wp_seq ?_
                refine wp_seq (wp_text' ?_)
                refine from_pure 1 [(3, .pointer (some ⟨b2, 0, none⟩)), (44, .pointer (some ⟨b1, 7, none⟩))] hF (by kernel_rfl) fun fr hF => ?_
                refine s_loadBox (.int .i64 p0.Steps) ty3 rfl rfl hF rfl hb1 rfl rfl fun fr hF => ?_
                refine from_pure 1 [(45, .int .i64 p0.Steps), (46, .pointer (some ⟨b2, 7, none⟩))] hF (by kernel_rfl) fun fr hF => ?_
                refine s_loadBox (.int .i64 p1.Steps) ty3 rfl rfl hF rfl hb2 rfl rfl fun fr hF => ?_
                refine from_pure 1 [(48, .bool (p0.Steps != p1.Steps))] hF (by kernel_rfl) fun fr hF => ?_
                refine from_end rfl (then_normal ?_)
                refine (wp_if hF (b := (p0.Steps != p1.Steps)) rfl (fun hb => ?_) (fun hb => ?_))
                · replace h := iteT hb h
                  refine wp_seq (wp_pure [(4, .bool false)] hF (by kernel_rfl) fun fr hF => then_normal ?_)
                  obtain rfl := Option.some.inj h
                  exact wp_ret (then_ret (ret1 rfl hF rfl ⟨_, rfl, rfl, hC⟩))
                · replace h := iteF hb h
                  refine (wp_skip (then_normal ?_))
                  refine wp_seq (wp_pure [(4, .bool true)] hF (by kernel_rfl) fun fr hF => then_normal ?_)
                  obtain rfl := Option.some.inj h
                  exact wp_ret (ret1 rfl hF rfl ⟨_, rfl, rfl, hC⟩)

theorem laws_FnExactStateOk_ok (n : Nat) (p0 : D.Program) (p1 : D.State) {r : Bool} (h : laws_FnExactStateOk n p0 p1 = some r) {w : World} {F0 : Nat → Prop} {va0 : Value} (ra0 : RV w F0 va0 p0) {F1 : Nat → Prop} {va1 : Value} (ra1 : RV w F1 va1 p1) :
    Calls Try.prog 4 [va0, va1].toArray w fun e w' => ∃ v, e = .returned v ∧ v = .bool r ∧ Chg Non w w' := by
  unfold laws_FnExactStateOk at h
  have ra0 := ra0.sub (F' := fun k => k < w.heap.size) (fun k hk _ => hk)
  obtain ⟨v1, rfl, r1⟩ := RV.Program ra0
  obtain ⟨a1, c1, rfl, -⟩ := r1.slice
  have ra1 := ra1.sub (F' := fun k => k < w.heap.size) (fun k hk _ => hk)
  obtain ⟨v2, v3, v4, v5, rfl, r2, r3, r4, r5⟩ := RV.State ra1
  obtain ⟨a2, c2, rfl, -⟩ := r2.slice
  obtain ⟨a3, c3, rfl, -⟩ := r3.slice
  obtain ⟨a4, c4, rfl, -⟩ := r4.slice
  obtain ⟨a5, c5, rfl, -⟩ := r5.slice
  have hC : Chg Non w w := Chg.refl _ _
  refine enter (N := 45) Try.func4 rfl Try.ntmps4 rfl fun fr hF => ?_
  refine wp_seq (wp_text' ?_)
  refine s_box [.int .i64 p0.W, .int .i64 p0.Mem, .int .i64 p0.In, .slice a1 (List.length p0.Code) c1] rfl rfl hF rfl rfl fun b1 w1 fr b1lo hb1 hc hF => ?_
  have hC := hC.trans hc
  have r1 := r1.ext hc
  have r2 := r2.ext hc
  have r3 := r3.ext hc
  have r4 := r4.ext hc
  have r5 := r5.ext hc
  have z1 := hc.size
  have b1hi := hb1.lt
  refine s_box [.int .i64 p1.Pc, .slice a2 (List.length p1.Regs) c2, .slice a3 (List.length p1.Mem) c3, .slice a4 (List.length p1.Stack) c4, .int .i64 p1.In, .slice a5 (List.length p1.Out) c5, .int .i64 p1.Code, .int .i64 p1.Steps] rfl rfl hF rfl rfl fun b2 w2 fr b2lo hb2 hc hF => ?_
  have hC := hC.trans hc
  have r2 := r2.ext hc
  have r3 := r3.ext hc
  have r4 := r4.ext hc
  have r5 := r5.ext hc
  have r1 := r1.ext hc
  have hb1 := hb1.ext hc
  have z2 := hc.size
  have b2hi := hb2.lt
  refine from_pure 1 [(2, .pointer (some ⟨b1, 0, none⟩)), (3, .pointer (some ⟨b2, 0, none⟩))] hF (by kernel_rfl) fun fr hF => ?_
  refine from_end rfl (then_normal ?_)
  refine wp_seq (wp_pure [(2, .pointer (some ⟨b1, 0, none⟩)), (3, .pointer (some ⟨b2, 0, none⟩)), (5, .int .i64 1048576)] hF (by kernel_rfl) fun fr hF => then_normal ?_)
  refine wp_seq (wp_text' ?_)
  refine s_loadBoxS ty24 rfl rfl hF rfl hb1 rfl rfl fun fr hF => ?_
  refine from_pure 1 [(2, .pointer (some ⟨b1, 0, none⟩)), (3, .pointer (some ⟨b2, 0, none⟩)), (10, .agg #[.int .i64 p0.W, .int .i64 p0.Mem, .int .i64 p0.In, .slice a1 (List.length p0.Code) c1]), (11, .int .i64 1048576)] hF (by kernel_rfl) fun fr hF => ?_
  obtain ⟨x1, hx1, h⟩ := bindE h
  refine s_call [.agg #[.int .i64 p0.W, .int .i64 p0.Mem, .int .i64 p0.In, .slice a1 (List.length p0.Code) c1], .int .i64 1048576] Try.call9 rfl rfl hF rfl (laws_szProgram_ok p0 1048576 hx1 (RV.mk_Program p0 (RV.any (r1)))) fun v w3 fr hR hF => ?_
  obtain ⟨rfl, hc⟩ := hR
  have hC := hC.trans hc
  have r1 := r1.ext hc
  have r2 := r2.ext hc
  have r3 := r3.ext hc
  have r4 := r4.ext hc
  have r5 := r5.ext hc
  have hb1 := hb1.ext hc
  have hb2 := hb2.ext hc
  have z3 := hc.size
  refine from_pure 1 [(2, .pointer (some ⟨b1, 0, none⟩)), (3, .pointer (some ⟨b2, 0, none⟩)), (5, .int .i64 x1)] hF (by kernel_rfl) fun fr hF => ?_
  refine from_end rfl (then_normal ?_)
  refine wp_seq ?_
  refine wp_seq (wp_pure [(2, .pointer (some ⟨b1, 0, none⟩)), (3, .pointer (some ⟨b2, 0, none⟩)), (5, .int .i64 x1), (14, .bool (decide (x1 < 0)))] hF (by kernel_rfl) fun fr hF => then_normal ?_)
  refine (wp_if hF (b := (decide (x1 < 0))) rfl (fun hb => ?_) (fun hb => ?_))
  · replace h := iteT hb h
    refine wp_seq (wp_pure [(4, .bool true)] hF (by kernel_rfl) fun fr hF => then_normal ?_)
    obtain rfl := Option.some.inj h
    exact wp_ret (then_ret (ret1 rfl hF rfl ⟨_, rfl, rfl, hC⟩))
  · replace h := iteF hb h
    refine (wp_skip (then_normal ?_))
    refine wp_seq (wp_text' ?_)
    refine s_loadBoxS ty39 rfl rfl hF rfl hb2 rfl rfl fun fr hF => ?_
    refine from_pure 1 [(2, .pointer (some ⟨b1, 0, none⟩)), (3, .pointer (some ⟨b2, 0, none⟩)), (15, .agg #[.int .i64 p1.Pc, .slice a2 (List.length p1.Regs) c2, .slice a3 (List.length p1.Mem) c3, .slice a4 (List.length p1.Stack) c4, .int .i64 p1.In, .slice a5 (List.length p1.Out) c5, .int .i64 p1.Code, .int .i64 p1.Steps]), (16, .int .i64 x1)] hF (by kernel_rfl) fun fr hF => ?_
    obtain ⟨x2, hx2, h⟩ := bindE h
    refine s_call [.agg #[.int .i64 p1.Pc, .slice a2 (List.length p1.Regs) c2, .slice a3 (List.length p1.Mem) c3, .slice a4 (List.length p1.Stack) c4, .int .i64 p1.In, .slice a5 (List.length p1.Out) c5, .int .i64 p1.Code, .int .i64 p1.Steps], .int .i64 x1] Try.call18 rfl rfl hF rfl (laws_szState_ok p1 x1 hx2 (RV.mk_State p1 (RV.any (r2)) (RV.any (r3)) (RV.any (r4)) (RV.any (r5)))) fun v w4 fr hR hF => ?_
    obtain ⟨rfl, hc⟩ := hR
    have hC := hC.trans hc
    have r2 := r2.ext hc
    have r3 := r3.ext hc
    have r4 := r4.ext hc
    have r5 := r5.ext hc
    have r1 := r1.ext hc
    have hb1 := hb1.ext hc
    have hb2 := hb2.ext hc
    have z4 := hc.size
    refine from_pure 1 [(2, .pointer (some ⟨b1, 0, none⟩)), (3, .pointer (some ⟨b2, 0, none⟩)), (5, .int .i64 x2)] hF (by kernel_rfl) fun fr hF => ?_
    refine from_end rfl (then_normal ?_)
    refine wp_seq ?_
    refine wp_seq (wp_pure [(2, .pointer (some ⟨b1, 0, none⟩)), (3, .pointer (some ⟨b2, 0, none⟩)), (19, .bool (decide (x2 < 0)))] hF (by kernel_rfl) fun fr hF => then_normal ?_)
    refine (wp_if hF (b := (decide (x2 < 0))) rfl (fun hb => ?_) (fun hb => ?_))
    · replace h := iteT hb h
      refine wp_seq (wp_pure [(4, .bool true)] hF (by kernel_rfl) fun fr hF => then_normal ?_)
      obtain rfl := Option.some.inj h
      exact wp_ret (then_ret (ret1 rfl hF rfl ⟨_, rfl, rfl, hC⟩))
    · replace h := iteF hb h
      refine (wp_skip (then_normal ?_))
      obtain ⟨x3, hx3, h⟩ := bindE h
      obtain ⟨x4, hx4, h⟩ := bindE h
      obtain ⟨x5, hx5, h⟩ := bindE h
      refine wp_seq (region_b [0, 1, 0, 7, 15, 31] [false, false, false, false, false, true]
          [.eq (.agg #[.int .i64 p0.W, .int .i64 p0.Mem, .int .i64 p0.In, .slice a1 (List.length p0.Code) c1]), .is fun v w => RV w (fun k => k < w.heap.size) v (x3 : D.Program), .eq (.agg #[.int .i64 p1.Pc, .slice a2 (List.length p1.Regs) c2, .slice a3 (List.length p1.Mem) c3, .slice a4 (List.length p1.Stack) c4, .int .i64 p1.In, .slice a5 (List.length p1.Out) c5, .int .i64 p1.Code, .int .i64 p1.Steps]), .is fun v w => RV w (fun k => k < w.heap.size) v (x4 : D.State), .eq (.bool x5), .eq (.bool x5)]
          [(2, .pointer (some ⟨b1, 0, none⟩)), (3, .pointer (some ⟨b2, 0, none⟩)), (6, .bool x5)] mix hF (by kernel_rfl) (by kernel_rfl) (by kernel_rfl) ⟨Pd.mono_eq, mono_rvb, Pd.mono_eq, mono_rvb, Pd.mono_eq, trivial⟩ (fun hG => ⟨np_loadBoxS hG hF ty24 rfl rfl hb1 rfl rfl rfl rfl, np_callI [.inl (.agg #[.int .i64 p0.W, .int .i64 p0.Mem, .int .i64 p0.In, .slice a1 (List.length p0.Code) c1])] hG hF Try.call11 rfl rfl (by kernel_rfl) (fun w vs hC hg ha => by obtain ⟨_, rfl, rfl⟩ := ha; exact (laws_toProgram_ok n p0 hx3 ((RV.mk_Program p0 (RV.any (r1))).ext hC)).mono fun e w' ⟨v, he, u, hv, hc, o⟩ => ⟨_, he, hc, by rw [hv]; exact (show RV w' (fun k => k < w'.heap.size) _ (x3 : D.Program) from RV.sub o fun k hk _ => hk)⟩), np_loadBoxS hG hF ty39 rfl rfl hb2 rfl rfl rfl rfl, np_callI [.inl (.agg #[.int .i64 p1.Pc, .slice a2 (List.length p1.Regs) c2, .slice a3 (List.length p1.Mem) c3, .slice a4 (List.length p1.Stack) c4, .int .i64 p1.In, .slice a5 (List.length p1.Out) c5, .int .i64 p1.Code, .int .i64 p1.Steps])] hG hF Try.call20 rfl rfl (by kernel_rfl) (fun w vs hC hg ha => by obtain ⟨_, rfl, rfl⟩ := ha; exact (laws_toState_ok n p1 hx4 ((RV.mk_State p1 (RV.any (r2)) (RV.any (r3)) (RV.any (r4)) (RV.any (r5))).ext hC)).mono fun e w' ⟨v, he, u, hv, hc, o⟩ => ⟨_, he, hc, by rw [hv]; exact (show RV w' (fun k => k < w'.heap.size) _ (x4 : D.State) from RV.sub o fun k hk _ => hk)⟩), np_callI [.inr 1, .inr 3] hG hF Try.call19 rfl rfl (by kernel_rfl) (fun w vs hC hg ha => by obtain ⟨vq0, _, rfl, hq0, vq1, _, rfl, hq1, rfl⟩ := ha; exact (spec_StateOk_ok n x3 x4 hx5 (show RV w (fun k => k < w.heap.size) vq0 x3 from hq0) (show RV w (fun k => k < w.heap.size) vq1 x4 from hq1)).mono fun e w' ⟨v, he, hv, hc⟩ => ⟨v, he, hc, hv⟩), trivial⟩) (by kernel_rfl) fun fr w5 hF hE hc => then_normal ?_)
      have hC := hC.trans hc
      have r1 := r1.ext hc
      have r2 := r2.ext hc
      have r3 := r3.ext hc
      have r4 := r4.ext hc
      have r5 := r5.ext hc
      have hb1 := hb1.ext hc
      have hb2 := hb2.ext hc
      have z5 := hc.size
      refine wp_seq (wp_text' ?_)
      refine s_loadBoxS ty24 rfl rfl hF rfl hb1 rfl rfl fun fr hF => ?_
      obtain ⟨x6, hx6, h⟩ := bindE h
      refine s_call [.agg #[.int .i64 p0.W, .int .i64 p0.Mem, .int .i64 p0.In, .slice a1 (List.length p0.Code) c1]] Try.call11 rfl rfl hF rfl (laws_toProgram_ok n p0 hx6 (RV.mk_Program p0 (RV.any (r1)))) fun v w6 fr hR hF => ?_
      obtain ⟨v6, rfl, hc, r6⟩ := hR
      have hC := hC.trans hc
      have r1 := r1.ext hc
      have r2 := r2.ext hc
      have r3 := r3.ext hc
      have r4 := r4.ext hc
      have r5 := r5.ext hc
      have hb1 := hb1.ext hc
      have hb2 := hb2.ext hc
      have z6 := hc.size
      have r6 := r6.sub (F' := fun k => w5.heap.size ≤ k ∧ k < w6.heap.size) (fun k hk hf => by (try dsimp only at *); omega)
      obtain ⟨v7, rfl, r7⟩ := RV.Program r6
      obtain ⟨a6, c6, rfl, -⟩ := r7.slice
      refine s_alloc (z := .agg #[.int .i64 0, .int .i64 0, .int .i64 0, .slice none (List.length ([] : List D.Ins)) 0]) [.int .i64 0, .int .i64 0, .int .i64 0, .slice none (List.length ([] : List D.Ins)) 0] rfl rfl hF (by kernel_rfl) rfl fun b3 w7 fr b3lo hb3 hc hF => ?_
      have hC := hC.trans hc
      have r7 := r7.ext hc
      have r1 := r1.ext hc
      have r2 := r2.ext hc
      have r3 := r3.ext hc
      have r4 := r4.ext hc
      have r5 := r5.ext hc
      have hb1 := hb1.ext hc
      have hb2 := hb2.ext hc
      have z7 := hc.size
      have b3hi := hb3.lt
      refine s_storeBoxS [.int .i64 x6.W, .int .i64 x6.Mem, .int .i64 x6.In, .slice a6 (List.length x6.Code) c6] rfl hF rfl rfl (by kernel_rfl) hb3 rfl rfl rfl fun w8 hb3 hc hF => ?_
      have hC := hC.trans' hc (fun x hx => .inr (by subst hx; (try dsimp only at *); omega))
      have r7 := r7.chg hc (fun k hk hs => by subst hs; (try dsimp only at *); omega)
      have r1 := r1.chg hc (fun k hk hs => by subst hs; (try dsimp only at *); omega)
      have r2 := r2.chg hc (fun k hk hs => by subst hs; (try dsimp only at *); omega)
      have r3 := r3.chg hc (fun k hk hs => by subst hs; (try dsimp only at *); omega)
      have r4 := r4.chg hc (fun k hk hs => by subst hs; (try dsimp only at *); omega)
      have r5 := r5.chg hc (fun k hk hs => by subst hs; (try dsimp only at *); omega)
      have hb1 := hb1.chg hc (by omega)
      have hb2 := hb2.chg hc (by omega)
      have z8 := hc.size
      refine from_end rfl (then_normal ?_)
      refine wp_seq (wp_text' ?_)
      refine s_loadBoxS ty39 rfl rfl hF rfl hb2 rfl rfl fun fr hF => ?_
      obtain ⟨x7, hx7, h⟩ := bindE h
      refine s_call [.agg #[.int .i64 p1.Pc, .slice a2 (List.length p1.Regs) c2, .slice a3 (List.length p1.Mem) c3, .slice a4 (List.length p1.Stack) c4, .int .i64 p1.In, .slice a5 (List.length p1.Out) c5, .int .i64 p1.Code, .int .i64 p1.Steps]] Try.call20 rfl rfl hF rfl (laws_toState_ok n p1 hx7 (RV.mk_State p1 (RV.any (r2)) (RV.any (r3)) (RV.any (r4)) (RV.any (r5)))) fun v w9 fr hR hF => ?_
      obtain ⟨v8, rfl, hc, r8⟩ := hR
      have hC := hC.trans hc
      have r2 := r2.ext hc
      have r3 := r3.ext hc
      have r4 := r4.ext hc
      have r5 := r5.ext hc
      have r1 := r1.ext hc
      have r7 := r7.ext hc
      have hb1 := hb1.ext hc
      have hb2 := hb2.ext hc
      have hb3 := hb3.ext hc
      have z9 := hc.size
      have r8 := r8.sub (F' := fun k => w8.heap.size ≤ k ∧ k < w9.heap.size) (fun k hk hf => by (try dsimp only at *); omega)
      obtain ⟨v9, v10, v11, v12, rfl, r9, r10, r11, r12⟩ := RV.State r8
      obtain ⟨a7, c7, rfl, -⟩ := r9.slice
      obtain ⟨a8, c8, rfl, -⟩ := r10.slice
      obtain ⟨a9, c9, rfl, -⟩ := r11.slice
      obtain ⟨a10, c10, rfl, -⟩ := r12.slice
      refine s_alloc (z := .agg #[.int .i64 0, .slice none (List.length ([] : List Int)) 0, .slice none (List.length ([] : List Int)) 0, .slice none (List.length ([] : List Int)) 0, .int .i64 0, .slice none (List.length ([] : List Int)) 0, .int .i64 0, .int .i64 0]) [.int .i64 0, .slice none (List.length ([] : List Int)) 0, .slice none (List.length ([] : List Int)) 0, .slice none (List.length ([] : List Int)) 0, .int .i64 0, .slice none (List.length ([] : List Int)) 0, .int .i64 0, .int .i64 0] rfl rfl hF (by kernel_rfl) rfl fun b4 w10 fr b4lo hb4 hc hF => ?_
      have hC := hC.trans hc
      have r9 := r9.ext hc
      have r10 := r10.ext hc
      have r11 := r11.ext hc
      have r12 := r12.ext hc
      have r1 := r1.ext hc
      have r2 := r2.ext hc
      have r3 := r3.ext hc
      have r4 := r4.ext hc
      have r5 := r5.ext hc
      have r7 := r7.ext hc
      have hb1 := hb1.ext hc
      have hb2 := hb2.ext hc
      have hb3 := hb3.ext hc
      have z10 := hc.size
      have b4hi := hb4.lt
      refine s_storeBoxS [.int .i64 x7.Pc, .slice a7 (List.length x7.Regs) c7, .slice a8 (List.length x7.Mem) c8, .slice a9 (List.length x7.Stack) c9, .int .i64 x7.In, .slice a10 (List.length x7.Out) c10, .int .i64 x7.Code, .int .i64 x7.Steps] rfl hF rfl rfl (by kernel_rfl) hb4 rfl rfl rfl fun w11 hb4 hc hF => ?_
      have hC := hC.trans' hc (fun x hx => .inr (by subst hx; (try dsimp only at *); omega))
      have r9 := r9.chg hc (fun k hk hs => by subst hs; (try dsimp only at *); omega)
      have r10 := r10.chg hc (fun k hk hs => by subst hs; (try dsimp only at *); omega)
      have r11 := r11.chg hc (fun k hk hs => by subst hs; (try dsimp only at *); omega)
      have r12 := r12.chg hc (fun k hk hs => by subst hs; (try dsimp only at *); omega)
      have r1 := r1.chg hc (fun k hk hs => by subst hs; (try dsimp only at *); omega)
      have r2 := r2.chg hc (fun k hk hs => by subst hs; (try dsimp only at *); omega)
      have r3 := r3.chg hc (fun k hk hs => by subst hs; (try dsimp only at *); omega)
      have r4 := r4.chg hc (fun k hk hs => by subst hs; (try dsimp only at *); omega)
      have r5 := r5.chg hc (fun k hk hs => by subst hs; (try dsimp only at *); omega)
      have r7 := r7.chg hc (fun k hk hs => by subst hs; (try dsimp only at *); omega)
      have hb1 := hb1.chg hc (by omega)
      have hb2 := hb2.chg hc (by omega)
      have hb3 := hb3.chg hc (by omega)
      have z11 := hc.size
      refine from_end rfl (then_normal ?_)
      refine wp_seq (wp_text' ?_)
      refine s_loadBoxS ty32 rfl rfl hF rfl hb3 rfl rfl fun fr hF => ?_
      refine s_loadBoxS ty28 rfl rfl hF rfl hb4 rfl rfl fun fr hF => ?_
      obtain ⟨x8, hx8, h⟩ := bindE h
      refine s_call [.agg #[.int .i64 x6.W, .int .i64 x6.Mem, .int .i64 x6.In, .slice a6 (List.length x6.Code) c6], .agg #[.int .i64 x7.Pc, .slice a7 (List.length x7.Regs) c7, .slice a8 (List.length x7.Mem) c8, .slice a9 (List.length x7.Stack) c9, .int .i64 x7.In, .slice a10 (List.length x7.Out) c10, .int .i64 x7.Code, .int .i64 x7.Steps]] Try.call21 rfl rfl hF rfl (impl_StateOk_ok n x6 x7 hx8 (RV.mk_Program x6 (RV.any (r7))) (RV.mk_State x7 (RV.any (r9)) (RV.any (r10)) (RV.any (r11)) (RV.any (r12)))) fun v w12 fr hR hF => ?_
      obtain ⟨rfl, hc⟩ := hR
      have hC := hC.trans hc
      have r7 := r7.ext hc
      have r9 := r9.ext hc
      have r10 := r10.ext hc
      have r11 := r11.ext hc
      have r12 := r12.ext hc
      have r1 := r1.ext hc
      have r2 := r2.ext hc
      have r3 := r3.ext hc
      have r4 := r4.ext hc
      have r5 := r5.ext hc
      have hb1 := hb1.ext hc
      have hb2 := hb2.ext hc
      have hb3 := hb3.ext hc
      have hb4 := hb4.ext hc
      have z12 := hc.size
      refine from_pure 1 [(2, .pointer (some ⟨b1, 0, none⟩)), (3, .pointer (some ⟨b2, 0, none⟩)), (6, .bool x5), (7, .pointer (some ⟨b3, 0, none⟩)), (8, .pointer (some ⟨b4, 0, none⟩)), (9, .bool x8)] hF (by kernel_rfl) fun fr hF => ?_
      refine from_end rfl (then_normal ?_)
      refine wp_seq ?_
      refine wp_seq (wp_pure [(2, .pointer (some ⟨b1, 0, none⟩)), (3, .pointer (some ⟨b2, 0, none⟩)), (7, .pointer (some ⟨b3, 0, none⟩)), (8, .pointer (some ⟨b4, 0, none⟩)), (34, .bool (!(x8 == x5)))] hF (by kernel_rfl) fun fr hF => then_normal ?_)
      refine (wp_if hF (b := (!(x8 == x5))) rfl (fun hb => ?_) (fun hb => ?_))
      · replace h := iteT hb h
        refine wp_seq (wp_pure [(4, .bool false)] hF (by kernel_rfl) fun fr hF => then_normal ?_)
        obtain rfl := Option.some.inj h
        exact wp_ret (then_ret (ret1 rfl hF rfl ⟨_, rfl, rfl, hC⟩))
      · replace h := iteF hb h
        refine (wp_skip (then_normal ?_))
        refine wp_seq ?_
        obtain ⟨x9, hx9, h⟩ := bindE h
        obtain ⟨x10, hx10, h⟩ := bindE h
        refine wp_seq (region_b [0, 0, 2, 7, 15] [false, false, false, false, true]
            [.eq (.agg #[.int .i64 x6.W, .int .i64 x6.Mem, .int .i64 x6.In, .slice a6 (List.length x6.Code) c6]), .eq (.agg #[.int .i64 p0.W, .int .i64 p0.Mem, .int .i64 p0.In, .slice a1 (List.length p0.Code) c1]), .is fun v w => RV w (fun k => k < w.heap.size) v (x9 : D.Program), .eq (.bool x10), .eq (.bool (!x10))]
            [(3, .pointer (some ⟨b2, 0, none⟩)), (8, .pointer (some ⟨b4, 0, none⟩)), (39, .bool (!x10))] mix hF (by kernel_rfl) (by kernel_rfl) (by kernel_rfl) ⟨Pd.mono_eq, Pd.mono_eq, mono_rvb, Pd.mono_eq, trivial⟩ (fun hG => ⟨np_loadBoxS hG hF ty32 rfl rfl hb3 rfl rfl rfl rfl, np_loadBoxS hG hF ty24 rfl rfl hb1 rfl rfl rfl rfl, np_callI [.inl (.agg #[.int .i64 p0.W, .int .i64 p0.Mem, .int .i64 p0.In, .slice a1 (List.length p0.Code) c1])] hG hF Try.call11 rfl rfl (by kernel_rfl) (fun w vs hC hg ha => by obtain ⟨_, rfl, rfl⟩ := ha; exact (laws_toProgram_ok n p0 hx9 ((RV.mk_Program p0 (RV.any (r1))).ext hC)).mono fun e w' ⟨v, he, u, hv, hc, o⟩ => ⟨_, he, hc, by rw [hv]; exact (show RV w' (fun k => k < w'.heap.size) _ (x9 : D.Program) from RV.sub o fun k hk _ => hk)⟩), np_callI [.inl (.agg #[.int .i64 x6.W, .int .i64 x6.Mem, .int .i64 x6.In, .slice a6 (List.length x6.Code) c6]), .inr 2] hG hF Try.call14 rfl rfl (by kernel_rfl) (fun w vs hC hg ha => by obtain ⟨_, rfl, vq1, _, rfl, hq1, rfl⟩ := ha; exact (laws_eqProgram_ok n x6 x9 hx10 ((RV.mk_Program x6 (RV.any (r7))).ext hC) (show RV w (fun k => k < w.heap.size) vq1 x9 from hq1)).mono fun e w' ⟨v, he, hv, hc⟩ => ⟨v, he, hc, hv⟩), trivial⟩) (by kernel_rfl) fun fr w13 hF hE hc => then_normal ?_)
        have hC := hC.trans hc
        have r2 := r2.ext hc
        have r3 := r3.ext hc
        have r4 := r4.ext hc
        have r5 := r5.ext hc
        have r9 := r9.ext hc
        have r10 := r10.ext hc
        have r11 := r11.ext hc
        have r12 := r12.ext hc
        have hb2 := hb2.ext hc
        have hb4 := hb4.ext hc
        have z13 := hc.size
        refine (wp_if hF (b := (!x10)) rfl (fun hb => ?_) (fun hb => ?_))
        · replace h := iteT hb h
          refine wp_seq (wp_pure [(4, .bool false)] hF (by kernel_rfl) fun fr hF => then_normal ?_)
          obtain rfl := Option.some.inj h
          exact wp_ret (then_ret (ret1 rfl hF rfl ⟨_, rfl, rfl, hC⟩))
        · replace h := iteF hb h
          refine (wp_skip (then_normal ?_))
          refine wp_seq ?_
          obtain ⟨x11, hx11, h⟩ := bindE h
          obtain ⟨x12, hx12, h⟩ := bindE h
          refine wp_seq (region_b [0, 0, 2, 7, 15] [false, false, false, false, true]
              [.eq (.agg #[.int .i64 x7.Pc, .slice a7 (List.length x7.Regs) c7, .slice a8 (List.length x7.Mem) c8, .slice a9 (List.length x7.Stack) c9, .int .i64 x7.In, .slice a10 (List.length x7.Out) c10, .int .i64 x7.Code, .int .i64 x7.Steps]), .eq (.agg #[.int .i64 p1.Pc, .slice a2 (List.length p1.Regs) c2, .slice a3 (List.length p1.Mem) c3, .slice a4 (List.length p1.Stack) c4, .int .i64 p1.In, .slice a5 (List.length p1.Out) c5, .int .i64 p1.Code, .int .i64 p1.Steps]), .is fun v w => RV w (fun k => k < w.heap.size) v (x11 : D.State), .eq (.bool x12), .eq (.bool (!x12))]
              [(44, .bool (!x12))] mix hF (by kernel_rfl) (by kernel_rfl) (by kernel_rfl) ⟨Pd.mono_eq, Pd.mono_eq, mono_rvb, Pd.mono_eq, trivial⟩ (fun hG => ⟨np_loadBoxS hG hF ty28 rfl rfl hb4 rfl rfl rfl rfl, np_loadBoxS hG hF ty39 rfl rfl hb2 rfl rfl rfl rfl, np_callI [.inl (.agg #[.int .i64 p1.Pc, .slice a2 (List.length p1.Regs) c2, .slice a3 (List.length p1.Mem) c3, .slice a4 (List.length p1.Stack) c4, .int .i64 p1.In, .slice a5 (List.length p1.Out) c5, .int .i64 p1.Code, .int .i64 p1.Steps])] hG hF Try.call20 rfl rfl (by kernel_rfl) (fun w vs hC hg ha => by obtain ⟨_, rfl, rfl⟩ := ha; exact (laws_toState_ok n p1 hx11 ((RV.mk_State p1 (RV.any (r2)) (RV.any (r3)) (RV.any (r4)) (RV.any (r5))).ext hC)).mono fun e w' ⟨v, he, u, hv, hc, o⟩ => ⟨_, he, hc, by rw [hv]; exact (show RV w' (fun k => k < w'.heap.size) _ (x11 : D.State) from RV.sub o fun k hk _ => hk)⟩), np_callI [.inl (.agg #[.int .i64 x7.Pc, .slice a7 (List.length x7.Regs) c7, .slice a8 (List.length x7.Mem) c8, .slice a9 (List.length x7.Stack) c9, .int .i64 x7.In, .slice a10 (List.length x7.Out) c10, .int .i64 x7.Code, .int .i64 x7.Steps]), .inr 2] hG hF Try.call13 rfl rfl (by kernel_rfl) (fun w vs hC hg ha => by obtain ⟨_, rfl, vq1, _, rfl, hq1, rfl⟩ := ha; exact (laws_eqState_ok n x7 x11 hx12 ((RV.mk_State x7 (RV.any (r9)) (RV.any (r10)) (RV.any (r11)) (RV.any (r12))).ext hC) (show RV w (fun k => k < w.heap.size) vq1 x11 from hq1)).mono fun e w' ⟨v, he, hv, hc⟩ => ⟨v, he, hc, hv⟩), trivial⟩) (by kernel_rfl) fun fr w14 hF hE hc => then_normal ?_)
          have hC := hC.trans hc
          have z14 := hc.size
          refine (wp_if hF (b := (!x12)) rfl (fun hb => ?_) (fun hb => ?_))
          · replace h := iteT hb h
            refine wp_seq (wp_pure [(4, .bool false)] hF (by kernel_rfl) fun fr hF => then_normal ?_)
            obtain rfl := Option.some.inj h
            exact wp_ret (then_ret (ret1 rfl hF rfl ⟨_, rfl, rfl, hC⟩))
          · replace h := iteF hb h
            refine (wp_skip (then_normal ?_))
            refine wp_seq (wp_pure [(4, .bool true)] hF (by kernel_rfl) fun fr hF => then_normal ?_)
            obtain rfl := Option.some.inj h
            exact wp_ret (ret1 rfl hF rfl ⟨_, rfl, rfl, hC⟩)
end Go.Proofs.Ytghbeebinbmpkaa
