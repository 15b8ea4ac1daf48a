/- Printed by gen2.py: the walks. -/
import Derived.Test.YtbfphbpeajmihaaWlkB
set_option linter.unusedVariables false
set_option maxRecDepth 100000
namespace Go.Proofs.Ytbfphbpeajmihaa
open Go.GL Go.Maps Go.WideMaps
theorem spec_ProgramOk_ok (n : Nat) (p0 : D.Program) {r : Bool} (h : spec_ProgramOk n p0 = some r) {w : World} {G0 : Nat → Prop} {va0 : Value} (ra0 : RV w G0 va0 p0) :
    Calls Try.prog 38 [va0].toArray w fun e w' => ∃ v, e = .returned v ∧ v = .bool r ∧ Chg Non w w' := by
  unfold spec_ProgramOk at h
  have hs := Sep.nil w Non
  have hM0 : Mem w Non (fun k => (G0 k) ∧ k < w.heap.size) w Non (fun k => (G0 k) ∧ k < w.heap.size) := Mem.start (fun _ h => h.elim) (fun _ h => h.2) (fun _ h => h.elim)
  have ra0 := ra0.sub (F' := (fun k => (G0 k) ∧ k < w.heap.size)) (fun k hk h => ⟨h, hk⟩)
  obtain ⟨v1, rfl, r1⟩ := RV.Program ra0
  obtain ⟨a1, c1, rfl, -⟩ := r1.slice
  refine enter (N := 52) Try.func38 rfl Try.ntmps38 rfl fun fr hF => ?_
  refine wp_seq (wp_text' ?_)
  refine q_box hs hM0 [.int .i64 p0.W, .int .i64 p0.Mem, .int .i64 p0.In, .slice a1 (List.length p0.Code) c1] rfl rfl hF rfl rfl fun b1 w1 S1 fr hs hp hF => ?_
  have r1 := r1.stp hM0 hp
  have hM0 := hM0.stp hp
  have hs : Sep [BX b1 32 [.int .i64 p0.W, .int .i64 p0.Mem, .int .i64 p0.In, .slice a1 (List.length p0.Code) c1]] w1 S1 := hs
  refine from_pure 1 [(1, .pointer (some ⟨b1, 0, none⟩))] hF (by kernel_rfl) fun fr hF => ?_
  refine from_end rfl (then_normal ?_)
  refine wp_seq ?_
  obtain ⟨x1, hx1, h⟩ := bindE h
  obtain ⟨x2, hx2, h⟩ := bindE h
  obtain ⟨x3, hx3, h⟩ := bindE h
  obtain ⟨x4, hx4, h⟩ := bindE h
  obtain ⟨x5, hx5, h⟩ := bindE h
  refine wp_seq (region_b [] [true, false, false, true, true, true, false, false, true, true, true, true, false, true, false, false, true, true, true, true, false, false, true, true, true, true, false, true, false, true, true]
      [.eq (.pointer (some ⟨b1, 0, none⟩)), .eq (.int .i64 p0.W), .eq (.bool x1), .eq (.bool (!x1)), .eq (.bool (!x1)), .eq (.pointer (some ⟨b1, 1, none⟩)), .eq (.int .i64 p0.Mem), .eq (.bool x2), .eq (.bool (!x2)), .eq (.bool ((!x1) || (!x2))), .eq (.bool ((!x1) || (!x2))), .eq (.pointer (some ⟨b1, 0, none⟩)), .eq (.int .i64 p0.W), .eq (.pointer (some ⟨b1, 1, none⟩)), .eq (.int .i64 p0.Mem), .eq (.bool x3), .eq (.bool (!x3)), .eq (.bool (((!x1) || (!x2)) || (!x3))), .eq (.bool (((!x1) || (!x2)) || (!x3))), .eq (.pointer (some ⟨b1, 2, none⟩)), .eq (.int .i64 p0.In), .eq (.bool x4), .eq (.bool (!x4)), .eq (.bool ((((!x1) || (!x2)) || (!x3)) || (!x4))), .eq (.bool ((((!x1) || (!x2)) || (!x3)) || (!x4))), .eq (.pointer (some ⟨b1, 3, none⟩)), .eq (.slice a1 (List.length p0.Code) c1), .eq (.int .i64 (len p0.Code)), .eq (.bool x5), .eq (.bool (!x5)), .eq (.bool (((((!x1) || (!x2)) || (!x3)) || (!x4)) || (!x5)))]
      [(1, .pointer (some ⟨b1, 0, none⟩)), (35, .bool (((((!x1) || (!x2)) || (!x3)) || (!x4)) || (!x5)))] mix hF (by kernel_rfl) (by kernel_rfl) (by kernel_rfl) ⟨Pd.mono_eq, Pd.mono_eq, Pd.mono_eq, Pd.mono_eq, Pd.mono_eq, Pd.mono_eq, Pd.mono_eq, Pd.mono_eq, Pd.mono_eq, Pd.mono_eq, Pd.mono_eq, trivial⟩ (fun hG => ⟨np_loadBox hG hF ty3 rfl rfl (hs.bx 0 rfl) rfl rfl rfl, np_call [.int .i64 p0.W, .int .i64 2, .int .i64 8] hG hF Try.call52 rfl rfl (fun w hC hg => (spec_l01In_ok p0.W 2 8 hx1).mono fun e w' ⟨v, he, hv, hc⟩ => ⟨v, he, hc, hv⟩), np_loadBox hG hF ty3 rfl rfl (hs.bx 0 rfl) rfl rfl rfl, np_call [.int .i64 p0.Mem, .int .i64 1, .int .i64 6] hG hF Try.call52 rfl rfl (fun w hC hg => (spec_l01In_ok p0.Mem 1 6 (iteF hg.2 hx2)).mono fun e w' ⟨v, he, hv, hc⟩ => ⟨v, he, hc, hv⟩), np_loadBox hG hF ty3 rfl rfl (hs.bx 0 rfl) rfl rfl rfl, np_loadBox hG hF ty3 rfl rfl (hs.bx 0 rfl) rfl rfl rfl, np_call [.int .i64 p0.W, .int .i64 p0.Mem] hG hF Try.call57 rfl rfl (fun w hC hg => (spec_WordOk_ok p0.W p0.Mem (iteF hg.2 hx3)).mono fun e w' ⟨v, he, hv, hc⟩ => ⟨v, he, hc, hv⟩), np_loadBox hG hF ty3 rfl rfl (hs.bx 0 rfl) rfl rfl rfl, np_call [.int .i64 p0.In, .int .i64 0, .int .i64 3] hG hF Try.call52 rfl rfl (fun w hC hg => (spec_l01In_ok p0.In 0 3 (iteF hg.2 hx4)).mono fun e w' ⟨v, he, hv, hc⟩ => ⟨v, he, hc, hv⟩), np_loadBox hG hF ty30 rfl rfl (hs.bx 0 rfl) rfl rfl rfl, np_call [.int .i64 (len p0.Code), .int .i64 1, .int .i64 40] hG hF Try.call52 rfl rfl (fun w hC hg => (spec_l01In_ok (len p0.Code) 1 40 (iteF hg.2 hx5)).mono fun e w' ⟨v, he, hv, hc⟩ => ⟨v, he, hc, hv⟩), trivial⟩) (by kernel_rfl) fun fr w2 hF hE hc => then_normal ?_)
  have r1 := r1.ext hc
  have hs := hs.ext hc
  have hM0 := hM0.ext hc
  refine (wp_if hF (b := (((((!x1) || (!x2)) || (!x3)) || (!x4)) || (!x5))) rfl (fun hb => ?_) (fun hb => ?_))
  · replace h := iteT hb h
    have hs : Sep [] w2 S1 := Sep.pick [] hs (by decide) rfl
    refine wp_seq (wp_pure [(2, .bool false)] hF (by kernel_rfl) fun fr hF => then_normal ?_)
    obtain rfl := Option.some.inj h
    exact wp_ret (then_ret (ret1 rfl hF rfl ⟨_, rfl, rfl, hM0.chg⟩))
  · replace h := iteF hb h
    refine (wp_skip (then_normal ?_))
    refine wp_seq ?_
    refine wp_seq (wp_text' ?_)
    refine from_pure 1 [(1, .pointer (some ⟨b1, 0, none⟩)), (36, .pointer (some ⟨b1, 3, none⟩))] hF (by kernel_rfl) fun fr hF => ?_
    refine s_loadBox (.slice a1 (List.length p0.Code) c1) ty30 rfl rfl hF rfl (hs.bx 0 rfl) rfl rfl fun fr hF => ?_
    refine from_pure 2 [(1, .pointer (some ⟨b1, 0, none⟩)), (37, .slice a1 (List.length p0.Code) c1), (38, .int .i64 (len p0.Code)), (39, .int .i64 0)] hF (by kernel_rfl) fun fr hF => ?_
    refine from_end rfl (then_normal ?_)
    obtain ⟨rl1, hit1, h⟩ := bindE h
    have hk1 := h
    refine (wp_cut (M := fun fr w' => ∃ s, rl1 = .inl s ∧ ∃ S3 F2, FrS 52 [] fr ∧ Mem w2 S1 (fun k => (G0 k) ∧ k < w.heap.size) w' S3 F2 ∧ Sep [] w' S3) (wp_block (wp_iter (Inv := fun s1 fr w' => ∃ S2 F1, FrS 52 [(1, .pointer (some ⟨b1, 0, none⟩)), (37, .slice a1 (List.length p0.Code) c1), (38, .int .i64 (len p0.Code)), (39, .int .i64 s1)] fr ∧ Mem w2 S1 (fun k => (G0 k) ∧ k < w.heap.size) w' S2 F1 ∧ Sep [BX b1 32 [.int .i64 p0.W, .int .i64 p0.Mem, .int .i64 p0.In, .slice a1 (List.length p0.Code) c1]] w' S2) hit1 ⟨S1, _, hF.sub _ (by kernel_rfl), (Mem.start hM0.bd hM0.bdF hM0.dj), hs⟩ fun s1 q1 fr w1i hI h hr1 => ?_)) fun fr w1o hM => ?_)
    · obtain ⟨S2, F1, hF, hM1, hs⟩ := hI
      have r1 := r1.mem hM1
      refine wp_seq (wp_pure [(1, .pointer (some ⟨b1, 0, none⟩)), (37, .slice a1 (List.length p0.Code) c1), (38, .int .i64 (len p0.Code)), (39, .int .i64 s1), (40, .bool (decide (s1 < (len p0.Code))))] hF (by kernel_rfl) fun fr hF => then_normal ?_)
      refine wp_seq (wp_if hF (b := (decide (s1 < (len p0.Code)))) rfl (fun hb => ?_) (fun hb => ?_))
      · replace h := iteT hb h
        refine (wp_skip (then_normal ?_))
        refine wp_seq (wp_block ?_)
        refine wp_seq (wp_text' ?_)
        obtain ⟨x6, hx6, h⟩ := bindE h
        refine s_elemF (z := x6) (.agg #[.int .i64 x6.Op, .int .i64 x6.A, .int .i64 x6.B, .int .i64 x6.C]) ty66 Try.underlying30 rfl rfl rfl rfl rfl hF rfl (r1) rfl (get?_nn hx6) (get?_at hx6) rfl fun p fr hF => ?_
        refine q_alloc (z := .agg #[.int .i64 0, .int .i64 0, .int .i64 0, .int .i64 0]) hs hM1 [.int .i64 0, .int .i64 0, .int .i64 0, .int .i64 0] rfl rfl hF (by kernel_rfl) rfl fun b2 w3 S4 fr hs hp hF => ?_
        have r1 := r1.stp hM1 hp
        have hM1 := hM1.stp hp
        have hs : Sep [BX b2 66 [.int .i64 0, .int .i64 0, .int .i64 0, .int .i64 0], BX b1 32 [.int .i64 p0.W, .int .i64 p0.Mem, .int .i64 p0.In, .slice a1 (List.length p0.Code) c1]] w3 S4 := hs
        refine q_storeBoxS 0 hs hM1 rfl [.int .i64 x6.Op, .int .i64 x6.A, .int .i64 x6.B, .int .i64 x6.C] rfl hF rfl rfl (by kernel_rfl) rfl rfl rfl fun w4 S5 hs hp hF => ?_
        have r1 := r1.stp hM1 hp
        have hM1 := hM1.stp hp
        have hs : Sep [BX b2 66 [.int .i64 x6.Op, .int .i64 x6.A, .int .i64 x6.B, .int .i64 x6.C], BX b1 32 [.int .i64 p0.W, .int .i64 p0.Mem, .int .i64 p0.In, .slice a1 (List.length p0.Code) c1]] w4 S5 := hs
        refine from_end rfl (then_normal ?_)
        refine wp_seq (wp_text' ?_)
        refine s_loadBoxS ty66 rfl rfl hF rfl (hs.bx 0 rfl) rfl rfl fun fr hF => ?_
        have hs : Sep [BX b1 32 [.int .i64 p0.W, .int .i64 p0.Mem, .int .i64 p0.In, .slice a1 (List.length p0.Code) c1]] w4 S5 := Sep.pick [1] hs (by decide) rfl
        refine from_pure 1 [(1, .pointer (some ⟨b1, 0, none⟩)), (37, .slice a1 (List.length p0.Code) c1), (38, .int .i64 (len p0.Code)), (39, .int .i64 s1), (43, .agg #[.int .i64 x6.Op, .int .i64 x6.A, .int .i64 x6.B, .int .i64 x6.C]), (44, .pointer (some ⟨b1, 0, none⟩))] hF (by kernel_rfl) fun fr hF => ?_
        refine s_loadBox (.int .i64 p0.W) ty3 rfl rfl hF rfl (hs.bx 0 rfl) rfl rfl fun fr hF => ?_
        refine from_pure 1 [(1, .pointer (some ⟨b1, 0, none⟩)), (37, .slice a1 (List.length p0.Code) c1), (38, .int .i64 (len p0.Code)), (39, .int .i64 s1), (43, .agg #[.int .i64 x6.Op, .int .i64 x6.A, .int .i64 x6.B, .int .i64 x6.C]), (45, .int .i64 p0.W), (46, .pointer (some ⟨b1, 3, none⟩))] hF (by kernel_rfl) fun fr hF => ?_
        refine s_loadBox (.slice a1 (List.length p0.Code) c1) ty30 rfl rfl hF rfl (hs.bx 0 rfl) rfl rfl fun fr hF => ?_
        refine from_pure 1 [(1, .pointer (some ⟨b1, 0, none⟩)), (37, .slice a1 (List.length p0.Code) c1), (38, .int .i64 (len p0.Code)), (39, .int .i64 s1), (43, .agg #[.int .i64 x6.Op, .int .i64 x6.A, .int .i64 x6.B, .int .i64 x6.C]), (45, .int .i64 p0.W), (48, .int .i64 (len p0.Code))] hF (by kernel_rfl) fun fr hF => ?_
        obtain ⟨x7, hx7, h⟩ := bindE h
        refine s_call [.agg #[.int .i64 x6.Op, .int .i64 x6.A, .int .i64 x6.B, .int .i64 x6.C], .int .i64 p0.W, .int .i64 (len p0.Code)] Try.call58 rfl rfl hF rfl (spec_l05Ins_ok x6 p0.W (len p0.Code) hx7) fun v w5 fr hRes hF => ?_
        obtain ⟨rfl, hc⟩ := hRes
        have r1 := r1.ext hc
        have hs := hs.ext hc
        have hM1 := hM1.ext hc
        refine from_pure 1 [(1, .pointer (some ⟨b1, 0, none⟩)), (37, .slice a1 (List.length p0.Code) c1), (38, .int .i64 (len p0.Code)), (39, .int .i64 s1), (50, .bool (!x7))] hF (by kernel_rfl) fun fr hF => ?_
        refine from_end rfl (then_normal ?_)
        refine (wp_if hF (b := (!x7)) rfl (fun hb => ?_) (fun hb => ?_))
        · replace h := iteT hb h
          have hs : Sep [] w5 S5 := Sep.pick [] hs (by decide) rfl
          refine wp_seq (wp_pure [(2, .bool false)] hF (by kernel_rfl) fun fr hF => then_normal ?_)
          obtain rfl := hr1 _ (Option.some.inj h).symm
          obtain rfl := Option.some.inj hk1
          exact wp_ret (blk_ret (then_ret (then_ret (blk_ret (then_ret (ret1 rfl hF rfl ⟨_, rfl, rfl, (hM0.trans hM1).chg⟩))))))
        · replace h := iteF hb h
          refine (wp_skip ?_)
          refine blk_normal (then_normal ?_)
          refine (wp_pure [(1, .pointer (some ⟨b1, 0, none⟩)), (37, .slice a1 (List.length p0.Code) c1), (38, .int .i64 (len p0.Code)), (39, .int .i64 (w64 (s1 + 1)))] hF (by kernel_rfl) fun fr hF => then_normal ?_)
          exact ⟨_, (Option.some.inj h).symm, S5, _, hF.sub _ (by kernel_rfl), hM1, hs⟩
      · replace h := iteF hb h
        have hs : Sep [] w1i S2 := Sep.pick [] hs (by decide) rfl
        refine (wp_exit (then_exit (then_exit (blk_exit_eq ?_))))
        obtain rfl := hr1 _ (Option.some.inj h).symm
        exact then_normal ⟨_, rfl, S2, _, hF.sub _ (by kernel_rfl), hM1, hs⟩
    · obtain ⟨s1r, rfl, hM⟩ := hM
      obtain ⟨S3, F2, hF, hMx, hs⟩ := hM
      have hM0 := hM0.trans hMx
      refine wp_seq (wp_pure [(2, .bool true)] hF (by kernel_rfl) fun fr hF => then_normal ?_)
      obtain rfl := Option.some.inj h
      exact wp_ret (ret1 rfl hF rfl ⟨_, rfl, rfl, hM0.chg⟩)

theorem spec_NewState_ok (n : Nat) (p0 : D.Program) {r : D.State} (h : spec_NewState n p0 = some r) {w : World} {G0 : Nat → Prop} {va0 : Value} (ra0 : RV w G0 va0 p0) :
    Calls Try.prog 11 [va0].toArray w fun e w' => ∃ v, e = .returned v ∧ ∃ a1 c1 a2 c2 a3 c3 a4 c4, v = .agg #[.int .i64 r.Pc, .slice a1 (List.length r.Regs) c1, .slice a2 (List.length r.Mem) c2, .slice a3 (List.length r.Stack) c3, .int .i64 r.In, .slice a4 (List.length r.Out) c4, .int .i64 r.Code, .int .i64 r.Steps] ∧ ∃ S', Stp w Non w' S' ∧ Sep [SL (α := Int) 3 (.slice a1 (List.length r.Regs) c1) r.Regs, SL (α := Int) 3 (.slice a2 (List.length r.Mem) c2) r.Mem, SL (α := Int) 3 (.slice a3 (List.length r.Stack) c3) r.Stack, SL (α := Int) 3 (.slice a4 (List.length r.Out) c4) r.Out] w' S' := by
  unfold spec_NewState at h
  have hs := Sep.nil w Non
  have hM0 : Mem w Non (fun k => (G0 k) ∧ k < w.heap.size) w Non (fun k => (G0 k) ∧ k < w.heap.size) := Mem.start (fun _ h => h.elim) (fun _ h => h.2) (fun _ h => h.elim)
  have ra0 := ra0.sub (F' := (fun k => (G0 k) ∧ k < w.heap.size)) (fun k hk h => ⟨h, hk⟩)
  obtain ⟨v1, rfl, r1⟩ := RV.Program ra0
  obtain ⟨a1, c1, rfl, -⟩ := r1.slice
  refine enter (N := 12) Try.func11 rfl Try.ntmps11 rfl fun fr hF => ?_
  refine wp_seq (wp_text' ?_)
  refine q_box hs hM0 [.int .i64 p0.W, .int .i64 p0.Mem, .int .i64 p0.In, .slice a1 (List.length p0.Code) c1] rfl rfl hF rfl rfl fun b1 w1 S1 fr hs hp hF => ?_
  have r1 := r1.stp hM0 hp
  have hM0 := hM0.stp hp
  have hs : Sep [BX b1 32 [.int .i64 p0.W, .int .i64 p0.Mem, .int .i64 p0.In, .slice a1 (List.length p0.Code) c1]] w1 S1 := hs
  refine q_alloc (z := .agg #[.int .i64 0, .slice none (List.length ([] : List Int)) 0, .slice none (List.length ([] : List Int)) 0, .slice none (List.length ([] : List Int)) 0, .int .i64 0, .slice none (List.length ([] : List Int)) 0, .int .i64 0, .int .i64 0]) hs hM0 [.int .i64 0, .slice none (List.length ([] : List Int)) 0, .slice none (List.length ([] : List Int)) 0, .slice none (List.length ([] : List Int)) 0, .int .i64 0, .slice none (List.length ([] : List Int)) 0, .int .i64 0, .int .i64 0] rfl rfl hF (by kernel_rfl) rfl fun b2 w2 S2 fr hs hp hF => ?_
  have r1 := r1.stp hM0 hp
  have hM0 := hM0.stp hp
  have hs : Sep [BX b2 28 [.int .i64 0, .slice none (List.length ([] : List Int)) 0, .slice none (List.length ([] : List Int)) 0, .slice none (List.length ([] : List Int)) 0, .int .i64 0, .slice none (List.length ([] : List Int)) 0, .int .i64 0, .int .i64 0], BX b1 32 [.int .i64 p0.W, .int .i64 p0.Mem, .int .i64 p0.In, .slice a1 (List.length p0.Code) c1]] w2 S2 := hs
  refine from_end rfl (then_normal ?_)
  refine wp_seq ?_
  refine wp_seq (wp_text' ?_)
  refine s_loadBoxS ty32 rfl rfl hF rfl (hs.bx 1 rfl) rfl rfl fun fr hF => ?_
  obtain ⟨x1, hx1, h⟩ := bindE h
  refine s_call [.agg #[.int .i64 p0.W, .int .i64 p0.Mem, .int .i64 p0.In, .slice a1 (List.length p0.Code) c1]] Try.call38 rfl rfl hF rfl (spec_ProgramOk_ok n p0 hx1 (RV.mk_Program p0 (r1))) fun v w3 fr hRes hF => ?_
  obtain ⟨rfl, hc⟩ := hRes
  have r1 := r1.ext hc
  have hs := hs.ext hc
  have hM0 := hM0.ext hc
  refine from_pure 1 [(1, .pointer (some ⟨b1, 0, none⟩)), (2, .pointer (some ⟨b2, 0, none⟩)), (5, .bool (!x1))] hF (by kernel_rfl) fun fr hF => ?_
  refine from_end rfl (then_normal ?_)
  refine (wp_if hF (b := (!x1)) rfl (fun hb => ?_) (fun hb => ?_))
  · replace h := iteT hb h
    have hs : Sep [BX b2 28 [.int .i64 0, .slice none (List.length ([] : List Int)) 0, .slice none (List.length ([] : List Int)) 0, .slice none (List.length ([] : List Int)) 0, .int .i64 0, .slice none (List.length ([] : List Int)) 0, .int .i64 0, .int .i64 0]] w3 S2 := Sep.pick [0] hs (by decide) rfl
    refine wp_seq (wp_text' ?_)
    refine from_pure 1 [(2, .pointer (some ⟨b2, 0, none⟩)), (6, .agg #[.int .i64 0, .slice none (List.length ([] : List Int)) 0, .slice none (List.length ([] : List Int)) 0, .slice none (List.length ([] : List Int)) 0, .int .i64 0, .slice none (List.length ([] : List Int)) 0, .int .i64 0, .int .i64 0])] hF (by kernel_rfl) fun fr hF => ?_
    refine q_storeBoxS 0 hs hM0 rfl [.int .i64 0, .slice none (List.length ([] : List Int)) 0, .slice none (List.length ([] : List Int)) 0, .slice none (List.length ([] : List Int)) 0, .int .i64 0, .slice none (List.length ([] : List Int)) 0, .int .i64 0, .int .i64 0] rfl hF rfl rfl (by kernel_rfl) rfl rfl rfl fun w4 S3 hs hp hF => ?_
    have hM0 := hM0.stp hp
    have hs : Sep [BX b2 28 [.int .i64 0, .slice none (List.length ([] : List Int)) 0, .slice none (List.length ([] : List Int)) 0, .slice none (List.length ([] : List Int)) 0, .int .i64 0, .slice none (List.length ([] : List Int)) 0, .int .i64 0, .int .i64 0]] w4 S3 := hs
    refine from_end rfl (then_normal ?_)
    have hbr := (hs.bx 0 rfl)
    have hs : Sep [SL (α := Int) 3 (.slice none (List.length ([] : List Int)) 0) ([] : List Int), BX b2 28 [.int .i64 0, .slice none (List.length ([] : List Int)) 0, .slice none (List.length ([] : List Int)) 0, .slice none (List.length ([] : List Int)) 0, .int .i64 0, .slice none (List.length ([] : List Int)) 0, .int .i64 0, .int .i64 0]] w4 S3 := hs.cons_nil (α := Int) 3
    have hs : Sep [SL (α := Int) 3 (.slice none (List.length ([] : List Int)) 0) ([] : List Int), SL (α := Int) 3 (.slice none (List.length ([] : List Int)) 0) ([] : List Int), BX b2 28 [.int .i64 0, .slice none (List.length ([] : List Int)) 0, .slice none (List.length ([] : List Int)) 0, .slice none (List.length ([] : List Int)) 0, .int .i64 0, .slice none (List.length ([] : List Int)) 0, .int .i64 0, .int .i64 0]] w4 S3 := hs.cons_nil (α := Int) 3
    have hs : Sep [SL (α := Int) 3 (.slice none (List.length ([] : List Int)) 0) ([] : List Int), SL (α := Int) 3 (.slice none (List.length ([] : List Int)) 0) ([] : List Int), SL (α := Int) 3 (.slice none (List.length ([] : List Int)) 0) ([] : List Int), BX b2 28 [.int .i64 0, .slice none (List.length ([] : List Int)) 0, .slice none (List.length ([] : List Int)) 0, .slice none (List.length ([] : List Int)) 0, .int .i64 0, .slice none (List.length ([] : List Int)) 0, .int .i64 0, .int .i64 0]] w4 S3 := hs.cons_nil (α := Int) 3
    have hs : Sep [SL (α := Int) 3 (.slice none (List.length ([] : List Int)) 0) ([] : List Int), SL (α := Int) 3 (.slice none (List.length ([] : List Int)) 0) ([] : List Int), SL (α := Int) 3 (.slice none (List.length ([] : List Int)) 0) ([] : List Int), SL (α := Int) 3 (.slice none (List.length ([] : List Int)) 0) ([] : List Int), BX b2 28 [.int .i64 0, .slice none (List.length ([] : List Int)) 0, .slice none (List.length ([] : List Int)) 0, .slice none (List.length ([] : List Int)) 0, .int .i64 0, .slice none (List.length ([] : List Int)) 0, .int .i64 0, .int .i64 0]] w4 S3 := hs.cons_nil (α := Int) 3
    obtain rfl := Option.some.inj h
    have hs : Sep [SL (α := Int) 3 (.slice none (List.length ([] : List Int)) 0) ([] : List Int), SL (α := Int) 3 (.slice none (List.length ([] : List Int)) 0) ([] : List Int), SL (α := Int) 3 (.slice none (List.length ([] : List Int)) 0) ([] : List Int), SL (α := Int) 3 (.slice none (List.length ([] : List Int)) 0) ([] : List Int)] w4 S3 := Sep.pick [3, 2, 1, 0] hs (by decide) rfl
    exact wp_ret (then_ret (retS rfl hF ty28 rfl rfl hbr rfl ⟨_, rfl, none, 0, none, 0, none, 0, none, 0, rfl, S3, hM0.out, hs⟩))
  · replace h := iteF hb h
    refine (wp_skip (then_normal ?_))
    obtain ⟨x2, hx2, h⟩ := bindE h
    obtain ⟨x3, hx3, h⟩ := bindE h
    refine wp_seq (region_bm 4 [0, 0, 2, 6, 15, 31] [false, true, false, false]
        [.own fun ow v w => ∃ i : Option Addr × Nat, v = .slice i.1 (List.length x2) i.2 ∧ (SL (α := Int) 3 (.slice i.1 (List.length x2) i.2) x2).ok w (fun k => w3.heap.size ≤ k ∧ k < w.heap.size ∧ ow k = 0), .eq (.pointer (some ⟨b1, 1, none⟩)), .eq (.int .i64 p0.Mem), .own fun ow v w => ∃ i : Option Addr × Nat, v = .slice i.1 (List.length x3) i.2 ∧ (SL (α := Int) 3 (.slice i.1 (List.length x3) i.2) x3).ok w (fun k => w3.heap.size ≤ k ∧ k < w.heap.size ∧ ow k = 3), .any, .any]
        [(2, .pointer (some ⟨b2, 0, none⟩))] mix hF (by kernel_rfl) (by kernel_rfl) (by kernel_rfl) (by kernel_rfl) ⟨mono_new, Pd.monoO_eq, mono_new, trivial⟩ (fun ow hG => ⟨np_make hG hF Try.underlying26 el3 (fun w => zero_flat _ (by kernel_rfl)) rfl rfl rfl (fun hg => hx2) rfl, np_to ow (np_loadBox hG hF ty3 rfl rfl (hs.bx 1 rfl) rfl rfl rfl), np_make hG hF Try.underlying26 el3 (fun w => zero_flat _ (by kernel_rfl)) rfl rfl rfl (fun hg => hx3) rfl, trivial⟩) (by kernel_rfl) fun ow fr w5 hF hE hc => ?_)
    obtain ⟨⟨a2, c2⟩, hv, hnw0⟩ := hE.is 7 0 rfl rfl
    have hF := hF.cons hv
    obtain ⟨⟨a3, c3⟩, hv, hnw3⟩ := hE.is 10 3 rfl rfl
    have hF := hF.cons hv
    have hsN := sepO (w0 := w3) (ow := ow) [(0, SL (α := Int) 3 (.slice a2 (List.length x2) c2) x2), (3, SL (α := Int) 3 (.slice a3 (List.length x3) c3) x3)] (show ([0, 3] : List Nat).Nodup by decide) ⟨hnw0, hnw3, trivial⟩ rfl
    obtain ⟨S4, hp, hs⟩ := hs.got hM0 (stp_new hc) hsN
    have r1 := r1.stp hM0 hp
    have hM0 := hM0.stp hp
    have hs : Sep [SL (α := Int) 3 (.slice a2 (List.length x2) c2) x2, SL (α := Int) 3 (.slice a3 (List.length x3) c3) x3, BX b2 28 [.int .i64 0, .slice none (List.length ([] : List Int)) 0, .slice none (List.length ([] : List Int)) 0, .slice none (List.length ([] : List Int)) 0, .int .i64 0, .slice none (List.length ([] : List Int)) 0, .int .i64 0, .int .i64 0], BX b1 32 [.int .i64 p0.W, .int .i64 p0.Mem, .int .i64 p0.In, .slice a1 (List.length p0.Code) c1]] w5 S4 := hs
    have hs : Sep [SL (α := Int) 3 (.slice a2 (List.length x2) c2) x2, SL (α := Int) 3 (.slice a3 (List.length x3) c3) x3, BX b2 28 [.int .i64 0, .slice none (List.length ([] : List Int)) 0, .slice none (List.length ([] : List Int)) 0, .slice none (List.length ([] : List Int)) 0, .int .i64 0, .slice none (List.length ([] : List Int)) 0, .int .i64 0, .int .i64 0]] w5 S4 := Sep.pick [0, 1, 2] hs (by decide) rfl
    refine from_pure 1 [(2, .pointer (some ⟨b2, 0, none⟩)), (11, .agg #[.int .i64 0, .slice a2 (List.length x2) c2, .slice a3 (List.length x3) c3, .slice none (List.length ([] : List Int)) 0, .int .i64 0, .slice none (List.length ([] : List Int)) 0, .int .i64 0, .int .i64 0])] hF (by kernel_rfl) fun fr hF => ?_
    refine q_storeBoxS 2 hs hM0 rfl [.int .i64 0, .slice a2 (List.length x2) c2, .slice a3 (List.length x3) c3, .slice none (List.length ([] : List Int)) 0, .int .i64 0, .slice none (List.length ([] : List Int)) 0, .int .i64 0, .int .i64 0] rfl hF rfl rfl (by kernel_rfl) rfl rfl rfl fun w6 S5 hs hp hF => ?_
    have hM0 := hM0.stp hp
    have hs : Sep [SL (α := Int) 3 (.slice a2 (List.length x2) c2) x2, SL (α := Int) 3 (.slice a3 (List.length x3) c3) x3, BX b2 28 [.int .i64 0, .slice a2 (List.length x2) c2, .slice a3 (List.length x3) c3, .slice none (List.length ([] : List Int)) 0, .int .i64 0, .slice none (List.length ([] : List Int)) 0, .int .i64 0, .int .i64 0]] w6 S5 := hs
    refine from_end rfl (then_normal ?_)
    have hbr := (hs.bx 2 rfl)
    have hs : Sep [SL (α := Int) 3 (.slice none (List.length ([] : List Int)) 0) ([] : List Int), SL (α := Int) 3 (.slice a2 (List.length x2) c2) x2, SL (α := Int) 3 (.slice a3 (List.length x3) c3) x3, BX b2 28 [.int .i64 0, .slice a2 (List.length x2) c2, .slice a3 (List.length x3) c3, .slice none (List.length ([] : List Int)) 0, .int .i64 0, .slice none (List.length ([] : List Int)) 0, .int .i64 0, .int .i64 0]] w6 S5 := hs.cons_nil (α := Int) 3
    have hs : Sep [SL (α := Int) 3 (.slice none (List.length ([] : List Int)) 0) ([] : List Int), SL (α := Int) 3 (.slice none (List.length ([] : List Int)) 0) ([] : List Int), SL (α := Int) 3 (.slice a2 (List.length x2) c2) x2, SL (α := Int) 3 (.slice a3 (List.length x3) c3) x3, BX b2 28 [.int .i64 0, .slice a2 (List.length x2) c2, .slice a3 (List.length x3) c3, .slice none (List.length ([] : List Int)) 0, .int .i64 0, .slice none (List.length ([] : List Int)) 0, .int .i64 0, .int .i64 0]] w6 S5 := hs.cons_nil (α := Int) 3
    obtain rfl := Option.some.inj h
    have hs : Sep [SL (α := Int) 3 (.slice a2 (List.length x2) c2) x2, SL (α := Int) 3 (.slice a3 (List.length x3) c3) x3, SL (α := Int) 3 (.slice none (List.length ([] : List Int)) 0) ([] : List Int), SL (α := Int) 3 (.slice none (List.length ([] : List Int)) 0) ([] : List Int)] w6 S5 := Sep.pick [2, 3, 1, 0] hs (by decide) rfl
    exact wp_ret (retS rfl hF ty28 rfl rfl hbr rfl ⟨_, rfl, a2, c2, a3, c3, none, 0, none, 0, rfl, S5, hM0.out, hs⟩)

theorem impl_shapeOk_ok (p0 : Int) (p1 : Int) {r : Bool} (h : impl_shapeOk p0 p1 = some r) {w : World} :
    Calls Try.prog 60 [.int .i64 p0, .int .i64 p1].toArray w fun e w' => ∃ v, e = .returned v ∧ v = .bool r ∧ Chg Non w w' := by
  unfold impl_shapeOk at h
  have hs := Sep.nil w Non
  have hM0 : Mem w Non (fun k => (False) ∧ k < w.heap.size) w Non (fun k => (False) ∧ k < w.heap.size) := Mem.start (fun _ h => h.elim) (fun _ h => h.2) (fun _ h => h.elim)
  refine enter (N := 19) Try.func60 rfl Try.ntmps60 rfl fun fr hF => ?_
  refine wp_seq (wp_pure [(0, .int .i64 p0), (1, .int .i64 p1)] hF (by kernel_rfl) fun fr hF => then_normal ?_)
  refine wp_seq (region_b [] [true, true, true, true, true, true, true, true, true, true, true, true, true, true, true]
      [.eq (.int .i64 p0), .eq (.bool (decide (p0 ≥ 2))), .eq (.bool (decide (p0 ≥ 2))), .eq (.int .i64 p0), .eq (.bool (decide (p0 ≤ 8))), .eq (.bool ((decide (p0 ≥ 2)) && (decide (p0 ≤ 8)))), .eq (.bool ((decide (p0 ≥ 2)) && (decide (p0 ≤ 8)))), .eq (.int .i64 p1), .eq (.bool (decide (p1 ≥ 1))), .eq (.bool (((decide (p0 ≥ 2)) && (decide (p0 ≤ 8))) && (decide (p1 ≥ 1)))), .eq (.bool (((decide (p0 ≥ 2)) && (decide (p0 ≤ 8))) && (decide (p1 ≥ 1)))), .eq (.int .i64 p1), .eq (.bool (decide (p1 ≤ 40))), .eq (.bool ((((decide (p0 ≥ 2)) && (decide (p0 ≤ 8))) && (decide (p1 ≥ 1))) && (decide (p1 ≤ 40)))), .eq (.bool ((((decide (p0 ≥ 2)) && (decide (p0 ≤ 8))) && (decide (p1 ≥ 1))) && (decide (p1 ≤ 40))))]
      [(4, .bool ((((decide (p0 ≥ 2)) && (decide (p0 ≤ 8))) && (decide (p1 ≥ 1))) && (decide (p1 ≤ 40))))] mix hF (by kernel_rfl) (by kernel_rfl) (by kernel_rfl) trivial (fun hG => trivial) (by kernel_rfl) fun fr w1 hF hE hc => then_normal ?_)
  have hs := hs.ext hc
  have hM0 := hM0.ext hc
  obtain rfl := Option.some.inj h
  exact wp_ret (ret1 rfl hF rfl ⟨_, rfl, rfl, hM0.chg⟩)

theorem impl_isWidth_ok (p0 : Int) {r : Bool} (h : impl_isWidth p0 = some r) {w : World} :
    Calls Try.prog 76 [.int .i64 p0].toArray w fun e w' => ∃ v, e = .returned v ∧ v = .bool r ∧ Chg Non w w' := by
  unfold impl_isWidth at h
  have hs := Sep.nil w Non
  have hM0 : Mem w Non (fun k => (False) ∧ k < w.heap.size) w Non (fun k => (False) ∧ k < w.heap.size) := Mem.start (fun _ h => h.elim) (fun _ h => h.2) (fun _ h => h.elim)
  refine enter (N := 9) Try.func76 rfl Try.ntmps76 rfl fun fr hF => ?_
  refine wp_seq (wp_pure [(0, .int .i64 p0)] hF (by kernel_rfl) fun fr hF => then_normal ?_)
  refine wp_seq (region_b [] [true, true, true, true, true, true, true]
      [.eq (.int .i64 p0), .eq (.bool (decide (p0 ≥ 1))), .eq (.bool (decide (p0 ≥ 1))), .eq (.int .i64 p0), .eq (.bool (decide (p0 ≤ 16))), .eq (.bool ((decide (p0 ≥ 1)) && (decide (p0 ≤ 16)))), .eq (.bool ((decide (p0 ≥ 1)) && (decide (p0 ≤ 16))))]
      [(2, .bool ((decide (p0 ≥ 1)) && (decide (p0 ≤ 16))))] mix hF (by kernel_rfl) (by kernel_rfl) (by kernel_rfl) trivial (fun hG => trivial) (by kernel_rfl) fun fr w1 hF hE hc => then_normal ?_)
  have hs := hs.ext hc
  have hM0 := hM0.ext hc
  obtain rfl := Option.some.inj h
  exact wp_ret (ret1 rfl hF rfl ⟨_, rfl, rfl, hM0.chg⟩)

theorem impl_WordOk_ok (p0 : Int) (p1 : Int) {r : Bool} (h : impl_WordOk p0 p1 = some r) {w : World} :
    Calls Try.prog 61 [.int .i64 p0, .int .i64 p1].toArray w fun e w' => ∃ v, e = .returned v ∧ v = .bool r ∧ Chg Non w w' := by
  unfold impl_WordOk at h
  have hs := Sep.nil w Non
  have hM0 : Mem w Non (fun k => (False) ∧ k < w.heap.size) w Non (fun k => (False) ∧ k < w.heap.size) := Mem.start (fun _ h => h.elim) (fun _ h => h.2) (fun _ h => h.elim)
  refine enter (N := 18) Try.func61 rfl Try.ntmps61 rfl fun fr hF => ?_
  refine wp_seq (wp_pure [(0, .int .i64 p0), (1, .int .i64 p1)] hF (by kernel_rfl) fun fr hF => then_normal ?_)
  obtain ⟨x1, hx1, h⟩ := bindE h
  obtain ⟨x2, hx2, h⟩ := bindE h
  refine wp_seq (region_b [] [true, false, true, true, true, true, true, true, true, true, false, true, true, true]
      [.eq (.int .i64 p0), .eq (.bool x1), .eq (.bool x1), .eq (.int .i64 p1), .eq (.bool (decide (p1 ≥ 0))), .eq (.bool (x1 && (decide (p1 ≥ 0)))), .eq (.bool (x1 && (decide (p1 ≥ 0)))), .eq (.int .i64 p1), .eq (.int .i64 p0), .eq (.int .u64 (IntKind.u64.wrap p0)), .eq (.int .i64 x2), .eq (.bool (decide (p1 < x2))), .eq (.bool ((x1 && (decide (p1 ≥ 0))) && (decide (p1 < x2)))), .eq (.bool ((x1 && (decide (p1 ≥ 0))) && (decide (p1 < x2))))]
      [(4, .bool ((x1 && (decide (p1 ≥ 0))) && (decide (p1 < x2))))] mix hF (by kernel_rfl) (by kernel_rfl) (by kernel_rfl) ⟨Pd.mono_eq, Pd.mono_eq, trivial⟩ (fun hG => ⟨np_call [.int .i64 p0] hG hF Try.call76 rfl rfl (fun w hC hg => (impl_isWidth_ok p0 hx1).mono fun e w' ⟨v, he, hv, hc⟩ => ⟨v, he, hc, hv⟩), np_shl hG hF rfl rfl rfl (fun hg => (iteT hg.2 hx2)) rfl, trivial⟩) (by kernel_rfl) fun fr w1 hF hE hc => then_normal ?_)
  have hs := hs.ext hc
  have hM0 := hM0.ext hc
  obtain rfl := Option.some.inj h
  exact wp_ret (ret1 rfl hF rfl ⟨_, rfl, rfl, hM0.chg⟩)

theorem impl_isReg_ok (p0 : Int) {r : Bool} (h : impl_isReg p0 = some r) {w : World} :
    Calls Try.prog 77 [.int .i64 p0].toArray w fun e w' => ∃ v, e = .returned v ∧ v = .bool r ∧ Chg Non w w' := by
  unfold impl_isReg at h
  have hs := Sep.nil w Non
  have hM0 : Mem w Non (fun k => (False) ∧ k < w.heap.size) w Non (fun k => (False) ∧ k < w.heap.size) := Mem.start (fun _ h => h.elim) (fun _ h => h.2) (fun _ h => h.elim)
  refine enter (N := 9) Try.func77 rfl Try.ntmps77 rfl fun fr hF => ?_
  refine wp_seq (wp_pure [(0, .int .i64 p0)] hF (by kernel_rfl) fun fr hF => then_normal ?_)
  refine wp_seq (region_b [] [true, true, true, true, true, true, true]
      [.eq (.int .i64 p0), .eq (.bool (decide (p0 ≥ 0))), .eq (.bool (decide (p0 ≥ 0))), .eq (.int .i64 p0), .eq (.bool (decide (p0 < 4))), .eq (.bool ((decide (p0 ≥ 0)) && (decide (p0 < 4)))), .eq (.bool ((decide (p0 ≥ 0)) && (decide (p0 < 4))))]
      [(2, .bool ((decide (p0 ≥ 0)) && (decide (p0 < 4))))] mix hF (by kernel_rfl) (by kernel_rfl) (by kernel_rfl) trivial (fun hG => trivial) (by kernel_rfl) fun fr w1 hF hE hc => then_normal ?_)
  have hs := hs.ext hc
  have hM0 := hM0.ext hc
  obtain rfl := Option.some.inj h
  exact wp_ret (ret1 rfl hF rfl ⟨_, rfl, rfl, hM0.chg⟩)

theorem impl_isTwoWords_ok (p0 : Int) {r : Bool} (h : impl_isTwoWords p0 = some r) {w : World} :
    Calls Try.prog 78 [.int .i64 p0].toArray w fun e w' => ∃ v, e = .returned v ∧ v = .bool r ∧ Chg Non w w' := by
  unfold impl_isTwoWords at h
  have hs := Sep.nil w Non
  have hM0 : Mem w Non (fun k => (False) ∧ k < w.heap.size) w Non (fun k => (False) ∧ k < w.heap.size) := Mem.start (fun _ h => h.elim) (fun _ h => h.2) (fun _ h => h.elim)
  refine enter (N := 9) Try.func78 rfl Try.ntmps78 rfl fun fr hF => ?_
  refine wp_seq (wp_pure [(0, .int .i64 p0)] hF (by kernel_rfl) fun fr hF => then_normal ?_)
  refine wp_seq (region_b [] [true, true, true, true, true, true, true]
      [.eq (.int .i64 p0), .eq (.bool (decide (p0 ≥ 3))), .eq (.bool (decide (p0 ≥ 3))), .eq (.int .i64 p0), .eq (.bool (decide (p0 ≤ 16))), .eq (.bool ((decide (p0 ≥ 3)) && (decide (p0 ≤ 16)))), .eq (.bool ((decide (p0 ≥ 3)) && (decide (p0 ≤ 16))))]
      [(2, .bool ((decide (p0 ≥ 3)) && (decide (p0 ≤ 16))))] mix hF (by kernel_rfl) (by kernel_rfl) (by kernel_rfl) trivial (fun hG => trivial) (by kernel_rfl) fun fr w1 hF hE hc => then_normal ?_)
  have hs := hs.ext hc
  have hM0 := hM0.ext hc
  obtain rfl := Option.some.inj h
  exact wp_ret (ret1 rfl hF rfl ⟨_, rfl, rfl, hM0.chg⟩)
end Go.Proofs.Ytbfphbpeajmihaa
