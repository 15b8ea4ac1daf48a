/- Printed by gen2.py: the walks. -/
import Derived.Test.YtbfphbpeajmihaaWlkA
set_option linter.unusedVariables false
set_option maxRecDepth 100000
namespace Go.Proofs.Ytbfphbpeajmihaa
open Go.GL Go.Maps Go.WideMaps
theorem spec_l05Ins_ok (p0 : D.Ins) (p1 : Int) (p2 : Int) {r : Bool} (h : spec_l05Ins p0 p1 p2 = some r) {w : World} :
    Calls Try.prog 58 [.agg #[.int .i64 p0.Op, .int .i64 p0.A, .int .i64 p0.B, .int .i64 p0.C], .int .i64 p1, .int .i64 p2].toArray w fun e w' => ∃ v, e = .returned v ∧ v = .bool r ∧ Chg Non w w' := by
  unfold spec_l05Ins at h
  have hs := Sep.nil w Non
  have hM0 : Mem w Non (fun k => (False) ∧ k < w.heap.size) w Non (fun k => (False) ∧ k < w.heap.size) := Mem.start (fun _ h => h.elim) (fun _ h => h.2) (fun _ h => h.elim)
  refine enter (N := 123) Try.func58 rfl Try.ntmps58 rfl fun fr hF => ?_
  refine wp_seq (wp_text' ?_)
  refine q_box hs hM0 [.int .i64 p0.Op, .int .i64 p0.A, .int .i64 p0.B, .int .i64 p0.C] rfl rfl hF rfl rfl fun b1 w1 S1 fr hs hp hF => ?_
  have hM0 := hM0.stp hp
  have hs : Sep [BX b1 66 [.int .i64 p0.Op, .int .i64 p0.A, .int .i64 p0.B, .int .i64 p0.C]] w1 S1 := hs
  refine from_pure 1 [(1, .int .i64 p1), (2, .int .i64 p2), (3, .pointer (some ⟨b1, 0, none⟩))] hF (by kernel_rfl) fun fr hF => ?_
  refine from_end rfl (then_normal ?_)
  refine wp_seq (wp_text' ?_)
  refine from_pure 1 [(1, .int .i64 p1), (2, .int .i64 p2), (3, .pointer (some ⟨b1, 0, none⟩)), (8, .pointer (some ⟨b1, 2, none⟩))] hF (by kernel_rfl) fun fr hF => ?_
  refine s_loadBox (.int .i64 p0.B) ty3 rfl rfl hF rfl (hs.bx 0 rfl) rfl rfl fun fr hF => ?_
  refine from_pure 1 [(1, .int .i64 p1), (3, .pointer (some ⟨b1, 0, none⟩)), (9, .int .i64 p0.B), (10, .int .i64 p2)] hF (by kernel_rfl) fun fr hF => ?_
  obtain ⟨x1, hx1, h⟩ := bindE h
  refine s_call [.int .i64 p0.B, .int .i64 0, .int .i64 p2] Try.call52 rfl rfl hF rfl (spec_l01In_ok p0.B 0 p2 hx1) fun v w2 fr hRes hF => ?_
  obtain ⟨rfl, hc⟩ := hRes
  have hs := hs.ext hc
  have hM0 := hM0.ext hc
  refine from_pure 1 [(1, .int .i64 p1), (3, .pointer (some ⟨b1, 0, none⟩)), (7, .bool x1)] hF (by kernel_rfl) fun fr hF => ?_
  refine from_end rfl (then_normal ?_)
  refine wp_seq ?_
  refine wp_seq (wp_text' ?_)
  refine from_pure 1 [(1, .int .i64 p1), (3, .pointer (some ⟨b1, 0, none⟩)), (7, .bool x1), (12, .pointer (some ⟨b1, 0, none⟩))] hF (by kernel_rfl) fun fr hF => ?_
  refine s_loadBox (.int .i64 p0.Op) ty3 rfl rfl hF rfl (hs.bx 0 rfl) rfl rfl fun fr hF => ?_
  refine from_end rfl (then_normal ?_)
  refine (wp_block ?_)
  refine wp_seq (wp_pure [(1, .int .i64 p1), (3, .pointer (some ⟨b1, 0, none⟩)), (7, .bool x1), (13, .int .i64 p0.Op), (14, .bool (p0.Op == 1))] hF (by kernel_rfl) fun fr hF => then_normal ?_)
  refine (wp_if hF (b := (p0.Op == 1)) rfl (fun hb => ?_) (fun hb => ?_))
  · replace h := iteT hb h
    obtain ⟨x2, hx2, h⟩ := bindE h
    obtain ⟨x3, hx3, h⟩ := bindE h
    refine wp_seq (region_b [] [true, false, false, true, true, true, false, false, true, true, true, false, true, true, true]
        [.eq (.pointer (some ⟨b1, 1, none⟩)), .eq (.int .i64 p0.A), .eq (.bool x2), .eq (.bool x2), .eq (.int .i64 p1), .eq (.pointer (some ⟨b1, 2, none⟩)), .eq (.int .i64 p0.B), .eq (.bool x3), .eq (.bool (x2 && x3)), .eq (.bool (x2 && x3)), .eq (.pointer (some ⟨b1, 3, none⟩)), .eq (.int .i64 p0.C), .eq (.bool (p0.C == 0)), .eq (.bool ((x2 && x3) && (p0.C == 0))), .eq (.bool ((x2 && x3) && (p0.C == 0)))]
        [(6, .bool ((x2 && x3) && (p0.C == 0)))] mix hF (by kernel_rfl) (by kernel_rfl) (by kernel_rfl) ⟨Pd.mono_eq, Pd.mono_eq, Pd.mono_eq, Pd.mono_eq, Pd.mono_eq, trivial⟩ (fun hG => ⟨np_loadBox hG hF ty3 rfl rfl (hs.bx 0 rfl) rfl rfl rfl, np_call [.int .i64 p0.A] hG hF Try.call75 rfl rfl (fun w hC hg => (spec_l05Reg_ok p0.A hx2).mono fun e w' ⟨v, he, hv, hc⟩ => ⟨v, he, hc, hv⟩), np_loadBox hG hF ty3 rfl rfl (hs.bx 0 rfl) rfl rfl rfl, np_call [.int .i64 p1, .int .i64 p0.B] hG hF Try.call57 rfl rfl (fun w hC hg => (spec_WordOk_ok p1 p0.B (iteT hg.2 hx3)).mono fun e w' ⟨v, he, hv, hc⟩ => ⟨v, he, hc, hv⟩), np_loadBox hG hF ty3 rfl rfl (hs.bx 0 rfl) rfl rfl rfl, trivial⟩) (by kernel_rfl) fun fr w3 hF hE hc => then_normal ?_)
    have hs := hs.ext hc
    have hM0 := hM0.ext hc
    have hs : Sep [] w3 S1 := Sep.pick [] hs (by decide) rfl
    obtain rfl := Option.some.inj h
    exact wp_ret (blk_ret (then_ret (ret1 rfl hF rfl ⟨_, rfl, rfl, hM0.chg⟩)))
  · replace h := iteF hb h
    refine wp_seq ?_
    refine wp_seq (wp_pure [(3, .pointer (some ⟨b1, 0, none⟩)), (7, .bool x1), (13, .int .i64 p0.Op), (30, .bool (p0.Op == 2))] hF (by kernel_rfl) fun fr hF => then_normal ?_)
    refine (wp_if hF (b := (p0.Op == 2)) rfl (fun hb => ?_) (fun hb => ?_))
    · replace h := iteT hb h
      refine (wp_skip (then_normal ?_))
      refine (wp_if hF (b := (p0.Op == 2)) rfl (fun hb => ?_) (fun hb => ?_))
      · replace h := iteT hb h
        obtain ⟨x4, hx4, h⟩ := bindE h
        obtain ⟨x5, hx5, h⟩ := bindE h
        refine wp_seq (region_b [] [true, false, false, true, true, false, false, true, true, true, false, true, true, true]
            [.eq (.pointer (some ⟨b1, 1, none⟩)), .eq (.int .i64 p0.A), .eq (.bool x4), .eq (.bool x4), .eq (.pointer (some ⟨b1, 2, none⟩)), .eq (.int .i64 p0.B), .eq (.bool x5), .eq (.bool (x4 && x5)), .eq (.bool (x4 && x5)), .eq (.pointer (some ⟨b1, 3, none⟩)), .eq (.int .i64 p0.C), .eq (.bool (p0.C == 0)), .eq (.bool ((x4 && x5) && (p0.C == 0))), .eq (.bool ((x4 && x5) && (p0.C == 0)))]
            [(6, .bool ((x4 && x5) && (p0.C == 0)))] mix hF (by kernel_rfl) (by kernel_rfl) (by kernel_rfl) ⟨Pd.mono_eq, Pd.mono_eq, Pd.mono_eq, Pd.mono_eq, Pd.mono_eq, trivial⟩ (fun hG => ⟨np_loadBox hG hF ty3 rfl rfl (hs.bx 0 rfl) rfl rfl rfl, np_call [.int .i64 p0.A] hG hF Try.call75 rfl rfl (fun w hC hg => (spec_l05Reg_ok p0.A hx4).mono fun e w' ⟨v, he, hv, hc⟩ => ⟨v, he, hc, hv⟩), np_loadBox hG hF ty3 rfl rfl (hs.bx 0 rfl) rfl rfl rfl, np_call [.int .i64 p0.B] hG hF Try.call75 rfl rfl (fun w hC hg => (spec_l05Reg_ok p0.B (iteT hg.2 hx5)).mono fun e w' ⟨v, he, hv, hc⟩ => ⟨v, he, hc, hv⟩), np_loadBox hG hF ty3 rfl rfl (hs.bx 0 rfl) rfl rfl rfl, trivial⟩) (by kernel_rfl) fun fr w4 hF hE hc => then_normal ?_)
        have hs := hs.ext hc
        have hM0 := hM0.ext hc
        have hs : Sep [] w4 S1 := Sep.pick [] hs (by decide) rfl
        obtain rfl := Option.some.inj h
        exact wp_ret (blk_ret (then_ret (ret1 rfl hF rfl ⟨_, rfl, rfl, hM0.chg⟩)))
      · replace h := iteF hb h
        refine wp_seq (wp_pure [(3, .pointer (some ⟨b1, 0, none⟩)), (7, .bool x1), (13, .int .i64 p0.Op), (47, .bool (p0.Op == 3))] hF (by kernel_rfl) fun fr hF => then_normal ?_)
        refine (wp_if hF (b := (p0.Op == 3)) rfl (fun hb => ?_) (fun hb => ?_))
        · replace h := iteT hb h
          obtain ⟨x6, hx6, h⟩ := bindE h
          obtain ⟨x7, hx7, h⟩ := bindE h
          obtain ⟨x8, hx8, h⟩ := bindE h
          refine wp_seq (region_b [] [true, false, false, true, true, false, false, true, true, true, false, false, true, true]
              [.eq (.pointer (some ⟨b1, 1, none⟩)), .eq (.int .i64 p0.A), .eq (.bool x6), .eq (.bool x6), .eq (.pointer (some ⟨b1, 2, none⟩)), .eq (.int .i64 p0.B), .eq (.bool x7), .eq (.bool (x6 && x7)), .eq (.bool (x6 && x7)), .eq (.pointer (some ⟨b1, 3, none⟩)), .eq (.int .i64 p0.C), .eq (.bool x8), .eq (.bool ((x6 && x7) && x8)), .eq (.bool ((x6 && x7) && x8))]
              [(6, .bool ((x6 && x7) && x8))] mix hF (by kernel_rfl) (by kernel_rfl) (by kernel_rfl) ⟨Pd.mono_eq, Pd.mono_eq, Pd.mono_eq, Pd.mono_eq, Pd.mono_eq, Pd.mono_eq, trivial⟩ (fun hG => ⟨np_loadBox hG hF ty3 rfl rfl (hs.bx 0 rfl) rfl rfl rfl, np_call [.int .i64 p0.A] hG hF Try.call75 rfl rfl (fun w hC hg => (spec_l05Reg_ok p0.A hx6).mono fun e w' ⟨v, he, hv, hc⟩ => ⟨v, he, hc, hv⟩), np_loadBox hG hF ty3 rfl rfl (hs.bx 0 rfl) rfl rfl rfl, np_call [.int .i64 p0.B] hG hF Try.call75 rfl rfl (fun w hC hg => (spec_l05Reg_ok p0.B (iteT hg.2 hx7)).mono fun e w' ⟨v, he, hv, hc⟩ => ⟨v, he, hc, hv⟩), np_loadBox hG hF ty3 rfl rfl (hs.bx 0 rfl) rfl rfl rfl, np_call [.int .i64 p0.C, .int .i64 3, .int .i64 16] hG hF Try.call52 rfl rfl (fun w hC hg => (spec_l01In_ok p0.C 3 16 (iteT hg.2 hx8)).mono fun e w' ⟨v, he, hv, hc⟩ => ⟨v, he, hc, hv⟩), trivial⟩) (by kernel_rfl) fun fr w5 hF hE hc => then_normal ?_)
          have hs := hs.ext hc
          have hM0 := hM0.ext hc
          have hs : Sep [] w5 S1 := Sep.pick [] hs (by decide) rfl
          obtain rfl := Option.some.inj h
          exact wp_ret (blk_ret (then_ret (ret1 rfl hF rfl ⟨_, rfl, rfl, hM0.chg⟩)))
        · replace h := iteF hb h
          refine wp_seq ?_
          refine wp_seq (wp_pure [(3, .pointer (some ⟨b1, 0, none⟩)), (7, .bool x1), (13, .int .i64 p0.Op), (62, .bool (p0.Op == 4))] hF (by kernel_rfl) fun fr hF => then_normal ?_)
          refine (wp_if hF (b := (p0.Op == 4)) rfl (fun hb => ?_) (fun hb => ?_))
          · replace h := iteT hb h
            refine (wp_skip (then_normal ?_))
            refine (wp_if hF (b := (p0.Op == 4)) rfl (fun hb => ?_) (fun hb => ?_))
            · replace h := iteT hb h
              obtain ⟨x9, hx9, h⟩ := bindE h
              refine wp_seq (region_b [] [true, false, false, true, true, false, true, true, true, true, false, true, true, true]
                  [.eq (.pointer (some ⟨b1, 1, none⟩)), .eq (.int .i64 p0.A), .eq (.bool x9), .eq (.bool x9), .eq (.pointer (some ⟨b1, 2, none⟩)), .eq (.int .i64 p0.B), .eq (.bool (p0.B == 0)), .eq (.bool (x9 && (p0.B == 0))), .eq (.bool (x9 && (p0.B == 0))), .eq (.pointer (some ⟨b1, 3, none⟩)), .eq (.int .i64 p0.C), .eq (.bool (p0.C == 0)), .eq (.bool ((x9 && (p0.B == 0)) && (p0.C == 0))), .eq (.bool ((x9 && (p0.B == 0)) && (p0.C == 0)))]
                  [(6, .bool ((x9 && (p0.B == 0)) && (p0.C == 0)))] mix hF (by kernel_rfl) (by kernel_rfl) (by kernel_rfl) ⟨Pd.mono_eq, Pd.mono_eq, Pd.mono_eq, Pd.mono_eq, trivial⟩ (fun hG => ⟨np_loadBox hG hF ty3 rfl rfl (hs.bx 0 rfl) rfl rfl rfl, np_call [.int .i64 p0.A] hG hF Try.call75 rfl rfl (fun w hC hg => (spec_l05Reg_ok p0.A hx9).mono fun e w' ⟨v, he, hv, hc⟩ => ⟨v, he, hc, hv⟩), np_loadBox hG hF ty3 rfl rfl (hs.bx 0 rfl) rfl rfl rfl, np_loadBox hG hF ty3 rfl rfl (hs.bx 0 rfl) rfl rfl rfl, trivial⟩) (by kernel_rfl) fun fr w6 hF hE hc => then_normal ?_)
              have hs := hs.ext hc
              have hM0 := hM0.ext hc
              have hs : Sep [] w6 S1 := Sep.pick [] hs (by decide) rfl
              obtain rfl := Option.some.inj h
              exact wp_ret (blk_ret (then_ret (ret1 rfl hF rfl ⟨_, rfl, rfl, hM0.chg⟩)))
            · replace h := iteF hb h
              refine wp_seq ?_
              refine wp_seq (wp_pure [(3, .pointer (some ⟨b1, 0, none⟩)), (7, .bool x1), (13, .int .i64 p0.Op), (80, .bool (p0.Op == 9))] hF (by kernel_rfl) fun fr hF => then_normal ?_)
              refine (wp_if hF (b := (p0.Op == 9)) rfl (fun hb => ?_) (fun hb => ?_))
              · replace h := iteT hb h
                refine (wp_skip (then_normal ?_))
                refine (wp_if hF (b := (p0.Op == 9)) rfl (fun hb => ?_) (fun hb => ?_))
                · replace h := iteT hb h
                  refine wp_seq (region_b [] [true, false, true, true, true, true, true, true, false, true, true, true]
                      [.eq (.pointer (some ⟨b1, 1, none⟩)), .eq (.int .i64 p0.A), .eq (.bool (p0.A == 0)), .eq (.bool (p0.A == 0)), .eq (.bool x1), .eq (.bool ((p0.A == 0) && x1)), .eq (.bool ((p0.A == 0) && x1)), .eq (.pointer (some ⟨b1, 3, none⟩)), .eq (.int .i64 p0.C), .eq (.bool (p0.C == 0)), .eq (.bool (((p0.A == 0) && x1) && (p0.C == 0))), .eq (.bool (((p0.A == 0) && x1) && (p0.C == 0)))]
                      [(6, .bool (((p0.A == 0) && x1) && (p0.C == 0)))] mix hF (by kernel_rfl) (by kernel_rfl) (by kernel_rfl) ⟨Pd.mono_eq, Pd.mono_eq, trivial⟩ (fun hG => ⟨np_loadBox hG hF ty3 rfl rfl (hs.bx 0 rfl) rfl rfl rfl, np_loadBox hG hF ty3 rfl rfl (hs.bx 0 rfl) rfl rfl rfl, trivial⟩) (by kernel_rfl) fun fr w7 hF hE hc => then_normal ?_)
                  have hs := hs.ext hc
                  have hM0 := hM0.ext hc
                  have hs : Sep [] w7 S1 := Sep.pick [] hs (by decide) rfl
                  obtain rfl := Option.some.inj h
                  exact wp_ret (blk_ret (then_ret (ret1 rfl hF rfl ⟨_, rfl, rfl, hM0.chg⟩)))
                · replace h := iteF hb h
                  refine wp_seq (wp_pure [(3, .pointer (some ⟨b1, 0, none⟩)), (7, .bool x1), (13, .int .i64 p0.Op), (94, .bool (p0.Op == 10))] hF (by kernel_rfl) fun fr hF => then_normal ?_)
                  refine (wp_if hF (b := (p0.Op == 10)) rfl (fun hb => ?_) (fun hb => ?_))
                  · replace h := iteT hb h
                    obtain ⟨x10, hx10, h⟩ := bindE h
                    refine wp_seq (region_b [] [true, false, false, true, true, true, true, true, false, true, true, true]
                        [.eq (.pointer (some ⟨b1, 1, none⟩)), .eq (.int .i64 p0.A), .eq (.bool x10), .eq (.bool x10), .eq (.bool x1), .eq (.bool (x10 && x1)), .eq (.bool (x10 && x1)), .eq (.pointer (some ⟨b1, 3, none⟩)), .eq (.int .i64 p0.C), .eq (.bool (p0.C == 0)), .eq (.bool ((x10 && x1) && (p0.C == 0))), .eq (.bool ((x10 && x1) && (p0.C == 0)))]
                        [(6, .bool ((x10 && x1) && (p0.C == 0)))] mix hF (by kernel_rfl) (by kernel_rfl) (by kernel_rfl) ⟨Pd.mono_eq, Pd.mono_eq, Pd.mono_eq, trivial⟩ (fun hG => ⟨np_loadBox hG hF ty3 rfl rfl (hs.bx 0 rfl) rfl rfl rfl, np_call [.int .i64 p0.A] hG hF Try.call75 rfl rfl (fun w hC hg => (spec_l05Reg_ok p0.A hx10).mono fun e w' ⟨v, he, hv, hc⟩ => ⟨v, he, hc, hv⟩), np_loadBox hG hF ty3 rfl rfl (hs.bx 0 rfl) rfl rfl rfl, trivial⟩) (by kernel_rfl) fun fr w8 hF hE hc => then_normal ?_)
                    have hs := hs.ext hc
                    have hM0 := hM0.ext hc
                    have hs : Sep [] w8 S1 := Sep.pick [] hs (by decide) rfl
                    obtain rfl := Option.some.inj h
                    exact wp_ret (blk_ret (then_ret (ret1 rfl hF rfl ⟨_, rfl, rfl, hM0.chg⟩)))
                  · replace h := iteF hb h
                    refine wp_seq ?_
                    refine wp_seq (wp_pure [(3, .pointer (some ⟨b1, 0, none⟩)), (13, .int .i64 p0.Op), (107, .bool (p0.Op == 12))] hF (by kernel_rfl) fun fr hF => then_normal ?_)
                    refine (wp_if hF (b := (p0.Op == 12)) rfl (fun hb => ?_) (fun hb => ?_))
                    · replace h := iteT hb h
                      refine (wp_skip (then_normal ?_))
                      refine (wp_if hF (b := (p0.Op == 12)) rfl (fun hb => ?_) (fun hb => ?_))
                      · replace h := iteT hb h
                        refine wp_seq (region_b [] [true, false, true, true, true, false, true, true, true, true, false, true, true, true]
                            [.eq (.pointer (some ⟨b1, 1, none⟩)), .eq (.int .i64 p0.A), .eq (.bool (p0.A == 0)), .eq (.bool (p0.A == 0)), .eq (.pointer (some ⟨b1, 2, none⟩)), .eq (.int .i64 p0.B), .eq (.bool (p0.B == 0)), .eq (.bool ((p0.A == 0) && (p0.B == 0))), .eq (.bool ((p0.A == 0) && (p0.B == 0))), .eq (.pointer (some ⟨b1, 3, none⟩)), .eq (.int .i64 p0.C), .eq (.bool (p0.C == 0)), .eq (.bool (((p0.A == 0) && (p0.B == 0)) && (p0.C == 0))), .eq (.bool (((p0.A == 0) && (p0.B == 0)) && (p0.C == 0)))]
                            [(6, .bool (((p0.A == 0) && (p0.B == 0)) && (p0.C == 0)))] mix hF (by kernel_rfl) (by kernel_rfl) (by kernel_rfl) ⟨Pd.mono_eq, Pd.mono_eq, Pd.mono_eq, trivial⟩ (fun hG => ⟨np_loadBox hG hF ty3 rfl rfl (hs.bx 0 rfl) rfl rfl rfl, np_loadBox hG hF ty3 rfl rfl (hs.bx 0 rfl) rfl rfl rfl, np_loadBox hG hF ty3 rfl rfl (hs.bx 0 rfl) rfl rfl rfl, trivial⟩) (by kernel_rfl) fun fr w9 hF hE hc => then_normal ?_)
                        have hs := hs.ext hc
                        have hM0 := hM0.ext hc
                        have hs : Sep [] w9 S1 := Sep.pick [] hs (by decide) rfl
                        obtain rfl := Option.some.inj h
                        exact wp_ret (blk_ret (then_ret (ret1 rfl hF rfl ⟨_, rfl, rfl, hM0.chg⟩)))
                      · replace h := iteF hb h
                        have hs : Sep [] w2 S1 := Sep.pick [] hs (by decide) rfl
                        refine (wp_skip ?_)
                        refine blk_normal (then_normal ?_)
                        refine wp_seq (wp_pure [(6, .bool false)] hF (by kernel_rfl) fun fr hF => then_normal ?_)
                        obtain rfl := Option.some.inj h
                        exact wp_ret (ret1 rfl hF rfl ⟨_, rfl, rfl, hM0.chg⟩)
                    · replace h := iteF hb h
                      refine (wp_pure [(3, .pointer (some ⟨b1, 0, none⟩)), (107, .bool (p0.Op == 14))] hF (by kernel_rfl) fun fr hF => then_normal ?_)
                      refine (wp_if hF (b := (p0.Op == 14)) rfl (fun hb => ?_) (fun hb => ?_))
                      · replace h := iteT hb h
                        refine wp_seq (region_b [] [true, false, true, true, true, false, true, true, true, true, false, true, true, true]
                            [.eq (.pointer (some ⟨b1, 1, none⟩)), .eq (.int .i64 p0.A), .eq (.bool (p0.A == 0)), .eq (.bool (p0.A == 0)), .eq (.pointer (some ⟨b1, 2, none⟩)), .eq (.int .i64 p0.B), .eq (.bool (p0.B == 0)), .eq (.bool ((p0.A == 0) && (p0.B == 0))), .eq (.bool ((p0.A == 0) && (p0.B == 0))), .eq (.pointer (some ⟨b1, 3, none⟩)), .eq (.int .i64 p0.C), .eq (.bool (p0.C == 0)), .eq (.bool (((p0.A == 0) && (p0.B == 0)) && (p0.C == 0))), .eq (.bool (((p0.A == 0) && (p0.B == 0)) && (p0.C == 0)))]
                            [(6, .bool (((p0.A == 0) && (p0.B == 0)) && (p0.C == 0)))] mix hF (by kernel_rfl) (by kernel_rfl) (by kernel_rfl) ⟨Pd.mono_eq, Pd.mono_eq, Pd.mono_eq, trivial⟩ (fun hG => ⟨np_loadBox hG hF ty3 rfl rfl (hs.bx 0 rfl) rfl rfl rfl, np_loadBox hG hF ty3 rfl rfl (hs.bx 0 rfl) rfl rfl rfl, np_loadBox hG hF ty3 rfl rfl (hs.bx 0 rfl) rfl rfl rfl, trivial⟩) (by kernel_rfl) fun fr w10 hF hE hc => then_normal ?_)
                        have hs := hs.ext hc
                        have hM0 := hM0.ext hc
                        have hs : Sep [] w10 S1 := Sep.pick [] hs (by decide) rfl
                        obtain rfl := Option.some.inj h
                        exact wp_ret (blk_ret (then_ret (ret1 rfl hF rfl ⟨_, rfl, rfl, hM0.chg⟩)))
                      · replace h := iteF hb h
                        have hs : Sep [] w2 S1 := Sep.pick [] hs (by decide) rfl
                        refine (wp_skip ?_)
                        refine blk_normal (then_normal ?_)
                        refine wp_seq (wp_pure [(6, .bool false)] hF (by kernel_rfl) fun fr hF => then_normal ?_)
                        obtain rfl := Option.some.inj h
                        exact wp_ret (ret1 rfl hF rfl ⟨_, rfl, rfl, hM0.chg⟩)
              · replace h := iteF hb h
                refine (wp_pure [(3, .pointer (some ⟨b1, 0, none⟩)), (7, .bool x1), (13, .int .i64 p0.Op), (80, .bool (p0.Op == 11))] hF (by kernel_rfl) fun fr hF => then_normal ?_)
                refine (wp_if hF (b := (p0.Op == 11)) rfl (fun hb => ?_) (fun hb => ?_))
                · replace h := iteT hb h
                  refine wp_seq (region_b [] [true, false, true, true, true, true, true, true, false, true, true, true]
                      [.eq (.pointer (some ⟨b1, 1, none⟩)), .eq (.int .i64 p0.A), .eq (.bool (p0.A == 0)), .eq (.bool (p0.A == 0)), .eq (.bool x1), .eq (.bool ((p0.A == 0) && x1)), .eq (.bool ((p0.A == 0) && x1)), .eq (.pointer (some ⟨b1, 3, none⟩)), .eq (.int .i64 p0.C), .eq (.bool (p0.C == 0)), .eq (.bool (((p0.A == 0) && x1) && (p0.C == 0))), .eq (.bool (((p0.A == 0) && x1) && (p0.C == 0)))]
                      [(6, .bool (((p0.A == 0) && x1) && (p0.C == 0)))] mix hF (by kernel_rfl) (by kernel_rfl) (by kernel_rfl) ⟨Pd.mono_eq, Pd.mono_eq, trivial⟩ (fun hG => ⟨np_loadBox hG hF ty3 rfl rfl (hs.bx 0 rfl) rfl rfl rfl, np_loadBox hG hF ty3 rfl rfl (hs.bx 0 rfl) rfl rfl rfl, trivial⟩) (by kernel_rfl) fun fr w11 hF hE hc => then_normal ?_)
                  have hs := hs.ext hc
                  have hM0 := hM0.ext hc
                  have hs : Sep [] w11 S1 := Sep.pick [] hs (by decide) rfl
                  obtain rfl := Option.some.inj h
                  exact wp_ret (blk_ret (then_ret (ret1 rfl hF rfl ⟨_, rfl, rfl, hM0.chg⟩)))
                · replace h := iteF hb h
                  refine wp_seq (wp_pure [(3, .pointer (some ⟨b1, 0, none⟩)), (7, .bool x1), (13, .int .i64 p0.Op), (94, .bool (p0.Op == 10))] hF (by kernel_rfl) fun fr hF => then_normal ?_)
                  refine (wp_if hF (b := (p0.Op == 10)) rfl (fun hb => ?_) (fun hb => ?_))
                  · replace h := iteT hb h
                    obtain ⟨x11, hx11, h⟩ := bindE h
                    refine wp_seq (region_b [] [true, false, false, true, true, true, true, true, false, true, true, true]
                        [.eq (.pointer (some ⟨b1, 1, none⟩)), .eq (.int .i64 p0.A), .eq (.bool x11), .eq (.bool x11), .eq (.bool x1), .eq (.bool (x11 && x1)), .eq (.bool (x11 && x1)), .eq (.pointer (some ⟨b1, 3, none⟩)), .eq (.int .i64 p0.C), .eq (.bool (p0.C == 0)), .eq (.bool ((x11 && x1) && (p0.C == 0))), .eq (.bool ((x11 && x1) && (p0.C == 0)))]
                        [(6, .bool ((x11 && x1) && (p0.C == 0)))] mix hF (by kernel_rfl) (by kernel_rfl) (by kernel_rfl) ⟨Pd.mono_eq, Pd.mono_eq, Pd.mono_eq, trivial⟩ (fun hG => ⟨np_loadBox hG hF ty3 rfl rfl (hs.bx 0 rfl) rfl rfl rfl, np_call [.int .i64 p0.A] hG hF Try.call75 rfl rfl (fun w hC hg => (spec_l05Reg_ok p0.A hx11).mono fun e w' ⟨v, he, hv, hc⟩ => ⟨v, he, hc, hv⟩), np_loadBox hG hF ty3 rfl rfl (hs.bx 0 rfl) rfl rfl rfl, trivial⟩) (by kernel_rfl) fun fr w12 hF hE hc => then_normal ?_)
                    have hs := hs.ext hc
                    have hM0 := hM0.ext hc
                    have hs : Sep [] w12 S1 := Sep.pick [] hs (by decide) rfl
                    obtain rfl := Option.some.inj h
                    exact wp_ret (blk_ret (then_ret (ret1 rfl hF rfl ⟨_, rfl, rfl, hM0.chg⟩)))
                  · replace h := iteF hb h
                    refine wp_seq ?_
                    refine wp_seq (wp_pure [(3, .pointer (some ⟨b1, 0, none⟩)), (13, .int .i64 p0.Op), (107, .bool (p0.Op == 12))] hF (by kernel_rfl) fun fr hF => then_normal ?_)
                    refine (wp_if hF (b := (p0.Op == 12)) rfl (fun hb => ?_) (fun hb => ?_))
                    · replace h := iteT hb h
                      refine (wp_skip (then_normal ?_))
                      refine (wp_if hF (b := (p0.Op == 12)) rfl (fun hb => ?_) (fun hb => ?_))
                      · replace h := iteT hb h
                        refine wp_seq (region_b [] [true, false, true, true, true, false, true, true, true, true, false, true, true, true]
                            [.eq (.pointer (some ⟨b1, 1, none⟩)), .eq (.int .i64 p0.A), .eq (.bool (p0.A == 0)), .eq (.bool (p0.A == 0)), .eq (.pointer (some ⟨b1, 2, none⟩)), .eq (.int .i64 p0.B), .eq (.bool (p0.B == 0)), .eq (.bool ((p0.A == 0) && (p0.B == 0))), .eq (.bool ((p0.A == 0) && (p0.B == 0))), .eq (.pointer (some ⟨b1, 3, none⟩)), .eq (.int .i64 p0.C), .eq (.bool (p0.C == 0)), .eq (.bool (((p0.A == 0) && (p0.B == 0)) && (p0.C == 0))), .eq (.bool (((p0.A == 0) && (p0.B == 0)) && (p0.C == 0)))]
                            [(6, .bool (((p0.A == 0) && (p0.B == 0)) && (p0.C == 0)))] mix hF (by kernel_rfl) (by kernel_rfl) (by kernel_rfl) ⟨Pd.mono_eq, Pd.mono_eq, Pd.mono_eq, trivial⟩ (fun hG => ⟨np_loadBox hG hF ty3 rfl rfl (hs.bx 0 rfl) rfl rfl rfl, np_loadBox hG hF ty3 rfl rfl (hs.bx 0 rfl) rfl rfl rfl, np_loadBox hG hF ty3 rfl rfl (hs.bx 0 rfl) rfl rfl rfl, trivial⟩) (by kernel_rfl) fun fr w13 hF hE hc => then_normal ?_)
                        have hs := hs.ext hc
                        have hM0 := hM0.ext hc
                        have hs : Sep [] w13 S1 := Sep.pick [] hs (by decide) rfl
                        obtain rfl := Option.some.inj h
                        exact wp_ret (blk_ret (then_ret (ret1 rfl hF rfl ⟨_, rfl, rfl, hM0.chg⟩)))
                      · replace h := iteF hb h
                        have hs : Sep [] w2 S1 := Sep.pick [] hs (by decide) rfl
                        refine (wp_skip ?_)
                        refine blk_normal (then_normal ?_)
                        refine wp_seq (wp_pure [(6, .bool false)] hF (by kernel_rfl) fun fr hF => then_normal ?_)
                        obtain rfl := Option.some.inj h
                        exact wp_ret (ret1 rfl hF rfl ⟨_, rfl, rfl, hM0.chg⟩)
                    · replace h := iteF hb h
                      refine (wp_pure [(3, .pointer (some ⟨b1, 0, none⟩)), (107, .bool (p0.Op == 14))] hF (by kernel_rfl) fun fr hF => then_normal ?_)
                      refine (wp_if hF (b := (p0.Op == 14)) rfl (fun hb => ?_) (fun hb => ?_))
                      · replace h := iteT hb h
                        refine wp_seq (region_b [] [true, false, true, true, true, false, true, true, true, true, false, true, true, true]
                            [.eq (.pointer (some ⟨b1, 1, none⟩)), .eq (.int .i64 p0.A), .eq (.bool (p0.A == 0)), .eq (.bool (p0.A == 0)), .eq (.pointer (some ⟨b1, 2, none⟩)), .eq (.int .i64 p0.B), .eq (.bool (p0.B == 0)), .eq (.bool ((p0.A == 0) && (p0.B == 0))), .eq (.bool ((p0.A == 0) && (p0.B == 0))), .eq (.pointer (some ⟨b1, 3, none⟩)), .eq (.int .i64 p0.C), .eq (.bool (p0.C == 0)), .eq (.bool (((p0.A == 0) && (p0.B == 0)) && (p0.C == 0))), .eq (.bool (((p0.A == 0) && (p0.B == 0)) && (p0.C == 0)))]
                            [(6, .bool (((p0.A == 0) && (p0.B == 0)) && (p0.C == 0)))] mix hF (by kernel_rfl) (by kernel_rfl) (by kernel_rfl) ⟨Pd.mono_eq, Pd.mono_eq, Pd.mono_eq, trivial⟩ (fun hG => ⟨np_loadBox hG hF ty3 rfl rfl (hs.bx 0 rfl) rfl rfl rfl, np_loadBox hG hF ty3 rfl rfl (hs.bx 0 rfl) rfl rfl rfl, np_loadBox hG hF ty3 rfl rfl (hs.bx 0 rfl) rfl rfl rfl, trivial⟩) (by kernel_rfl) fun fr w14 hF hE hc => then_normal ?_)
                        have hs := hs.ext hc
                        have hM0 := hM0.ext hc
                        have hs : Sep [] w14 S1 := Sep.pick [] hs (by decide) rfl
                        obtain rfl := Option.some.inj h
                        exact wp_ret (blk_ret (then_ret (ret1 rfl hF rfl ⟨_, rfl, rfl, hM0.chg⟩)))
                      · replace h := iteF hb h
                        have hs : Sep [] w2 S1 := Sep.pick [] hs (by decide) rfl
                        refine (wp_skip ?_)
                        refine blk_normal (then_normal ?_)
                        refine wp_seq (wp_pure [(6, .bool false)] hF (by kernel_rfl) fun fr hF => then_normal ?_)
                        obtain rfl := Option.some.inj h
                        exact wp_ret (ret1 rfl hF rfl ⟨_, rfl, rfl, hM0.chg⟩)
          · replace h := iteF hb h
            refine wp_seq (wp_pure [(3, .pointer (some ⟨b1, 0, none⟩)), (7, .bool x1), (13, .int .i64 p0.Op), (62, .bool (p0.Op == 5))] hF (by kernel_rfl) fun fr hF => then_normal ?_)
            refine (wp_if hF (b := (p0.Op == 5)) rfl (fun hb => ?_) (fun hb => ?_))
            · replace h := iteT hb h
              refine (wp_skip (then_normal ?_))
              refine (wp_if hF (b := (p0.Op == 5)) rfl (fun hb => ?_) (fun hb => ?_))
              · replace h := iteT hb h
                obtain ⟨x12, hx12, h⟩ := bindE h
                refine wp_seq (region_b [] [true, false, false, true, true, false, true, true, true, true, false, true, true, true]
                    [.eq (.pointer (some ⟨b1, 1, none⟩)), .eq (.int .i64 p0.A), .eq (.bool x12), .eq (.bool x12), .eq (.pointer (some ⟨b1, 2, none⟩)), .eq (.int .i64 p0.B), .eq (.bool (p0.B == 0)), .eq (.bool (x12 && (p0.B == 0))), .eq (.bool (x12 && (p0.B == 0))), .eq (.pointer (some ⟨b1, 3, none⟩)), .eq (.int .i64 p0.C), .eq (.bool (p0.C == 0)), .eq (.bool ((x12 && (p0.B == 0)) && (p0.C == 0))), .eq (.bool ((x12 && (p0.B == 0)) && (p0.C == 0)))]
                    [(6, .bool ((x12 && (p0.B == 0)) && (p0.C == 0)))] mix hF (by kernel_rfl) (by kernel_rfl) (by kernel_rfl) ⟨Pd.mono_eq, Pd.mono_eq, Pd.mono_eq, Pd.mono_eq, trivial⟩ (fun hG => ⟨np_loadBox hG hF ty3 rfl rfl (hs.bx 0 rfl) rfl rfl rfl, np_call [.int .i64 p0.A] hG hF Try.call75 rfl rfl (fun w hC hg => (spec_l05Reg_ok p0.A hx12).mono fun e w' ⟨v, he, hv, hc⟩ => ⟨v, he, hc, hv⟩), np_loadBox hG hF ty3 rfl rfl (hs.bx 0 rfl) rfl rfl rfl, np_loadBox hG hF ty3 rfl rfl (hs.bx 0 rfl) rfl rfl rfl, trivial⟩) (by kernel_rfl) fun fr w15 hF hE hc => then_normal ?_)
                have hs := hs.ext hc
                have hM0 := hM0.ext hc
                have hs : Sep [] w15 S1 := Sep.pick [] hs (by decide) rfl
                obtain rfl := Option.some.inj h
                exact wp_ret (blk_ret (then_ret (ret1 rfl hF rfl ⟨_, rfl, rfl, hM0.chg⟩)))
              · replace h := iteF hb h
                refine wp_seq ?_
                refine wp_seq (wp_pure [(3, .pointer (some ⟨b1, 0, none⟩)), (7, .bool x1), (13, .int .i64 p0.Op), (80, .bool (p0.Op == 9))] hF (by kernel_rfl) fun fr hF => then_normal ?_)
                refine (wp_if hF (b := (p0.Op == 9)) rfl (fun hb => ?_) (fun hb => ?_))
                · replace h := iteT hb h
                  refine (wp_skip (then_normal ?_))
                  refine (wp_if hF (b := (p0.Op == 9)) rfl (fun hb => ?_) (fun hb => ?_))
                  · replace h := iteT hb h
                    refine wp_seq (region_b [] [true, false, true, true, true, true, true, true, false, true, true, true]
                        [.eq (.pointer (some ⟨b1, 1, none⟩)), .eq (.int .i64 p0.A), .eq (.bool (p0.A == 0)), .eq (.bool (p0.A == 0)), .eq (.bool x1), .eq (.bool ((p0.A == 0) && x1)), .eq (.bool ((p0.A == 0) && x1)), .eq (.pointer (some ⟨b1, 3, none⟩)), .eq (.int .i64 p0.C), .eq (.bool (p0.C == 0)), .eq (.bool (((p0.A == 0) && x1) && (p0.C == 0))), .eq (.bool (((p0.A == 0) && x1) && (p0.C == 0)))]
                        [(6, .bool (((p0.A == 0) && x1) && (p0.C == 0)))] mix hF (by kernel_rfl) (by kernel_rfl) (by kernel_rfl) ⟨Pd.mono_eq, Pd.mono_eq, trivial⟩ (fun hG => ⟨np_loadBox hG hF ty3 rfl rfl (hs.bx 0 rfl) rfl rfl rfl, np_loadBox hG hF ty3 rfl rfl (hs.bx 0 rfl) rfl rfl rfl, trivial⟩) (by kernel_rfl) fun fr w16 hF hE hc => then_normal ?_)
                    have hs := hs.ext hc
                    have hM0 := hM0.ext hc
                    have hs : Sep [] w16 S1 := Sep.pick [] hs (by decide) rfl
                    obtain rfl := Option.some.inj h
                    exact wp_ret (blk_ret (then_ret (ret1 rfl hF rfl ⟨_, rfl, rfl, hM0.chg⟩)))
                  · replace h := iteF hb h
                    refine wp_seq (wp_pure [(3, .pointer (some ⟨b1, 0, none⟩)), (7, .bool x1), (13, .int .i64 p0.Op), (94, .bool (p0.Op == 10))] hF (by kernel_rfl) fun fr hF => then_normal ?_)
                    refine (wp_if hF (b := (p0.Op == 10)) rfl (fun hb => ?_) (fun hb => ?_))
                    · replace h := iteT hb h
                      obtain ⟨x13, hx13, h⟩ := bindE h
                      refine wp_seq (region_b [] [true, false, false, true, true, true, true, true, false, true, true, true]
                          [.eq (.pointer (some ⟨b1, 1, none⟩)), .eq (.int .i64 p0.A), .eq (.bool x13), .eq (.bool x13), .eq (.bool x1), .eq (.bool (x13 && x1)), .eq (.bool (x13 && x1)), .eq (.pointer (some ⟨b1, 3, none⟩)), .eq (.int .i64 p0.C), .eq (.bool (p0.C == 0)), .eq (.bool ((x13 && x1) && (p0.C == 0))), .eq (.bool ((x13 && x1) && (p0.C == 0)))]
                          [(6, .bool ((x13 && x1) && (p0.C == 0)))] mix hF (by kernel_rfl) (by kernel_rfl) (by kernel_rfl) ⟨Pd.mono_eq, Pd.mono_eq, Pd.mono_eq, trivial⟩ (fun hG => ⟨np_loadBox hG hF ty3 rfl rfl (hs.bx 0 rfl) rfl rfl rfl, np_call [.int .i64 p0.A] hG hF Try.call75 rfl rfl (fun w hC hg => (spec_l05Reg_ok p0.A hx13).mono fun e w' ⟨v, he, hv, hc⟩ => ⟨v, he, hc, hv⟩), np_loadBox hG hF ty3 rfl rfl (hs.bx 0 rfl) rfl rfl rfl, trivial⟩) (by kernel_rfl) fun fr w17 hF hE hc => then_normal ?_)
                      have hs := hs.ext hc
                      have hM0 := hM0.ext hc
                      have hs : Sep [] w17 S1 := Sep.pick [] hs (by decide) rfl
                      obtain rfl := Option.some.inj h
                      exact wp_ret (blk_ret (then_ret (ret1 rfl hF rfl ⟨_, rfl, rfl, hM0.chg⟩)))
                    · replace h := iteF hb h
                      refine wp_seq ?_
                      refine wp_seq (wp_pure [(3, .pointer (some ⟨b1, 0, none⟩)), (13, .int .i64 p0.Op), (107, .bool (p0.Op == 12))] hF (by kernel_rfl) fun fr hF => then_normal ?_)
                      refine (wp_if hF (b := (p0.Op == 12)) rfl (fun hb => ?_) (fun hb => ?_))
                      · replace h := iteT hb h
                        refine (wp_skip (then_normal ?_))
                        refine (wp_if hF (b := (p0.Op == 12)) rfl (fun hb => ?_) (fun hb => ?_))
                        · replace h := iteT hb h
                          refine wp_seq (region_b [] [true, false, true, true, true, false, true, true, true, true, false, true, true, true]
                              [.eq (.pointer (some ⟨b1, 1, none⟩)), .eq (.int .i64 p0.A), .eq (.bool (p0.A == 0)), .eq (.bool (p0.A == 0)), .eq (.pointer (some ⟨b1, 2, none⟩)), .eq (.int .i64 p0.B), .eq (.bool (p0.B == 0)), .eq (.bool ((p0.A == 0) && (p0.B == 0))), .eq (.bool ((p0.A == 0) && (p0.B == 0))), .eq (.pointer (some ⟨b1, 3, none⟩)), .eq (.int .i64 p0.C), .eq (.bool (p0.C == 0)), .eq (.bool (((p0.A == 0) && (p0.B == 0)) && (p0.C == 0))), .eq (.bool (((p0.A == 0) && (p0.B == 0)) && (p0.C == 0)))]
                              [(6, .bool (((p0.A == 0) && (p0.B == 0)) && (p0.C == 0)))] mix hF (by kernel_rfl) (by kernel_rfl) (by kernel_rfl) ⟨Pd.mono_eq, Pd.mono_eq, Pd.mono_eq, trivial⟩ (fun hG => ⟨np_loadBox hG hF ty3 rfl rfl (hs.bx 0 rfl) rfl rfl rfl, np_loadBox hG hF ty3 rfl rfl (hs.bx 0 rfl) rfl rfl rfl, np_loadBox hG hF ty3 rfl rfl (hs.bx 0 rfl) rfl rfl rfl, trivial⟩) (by kernel_rfl) fun fr w18 hF hE hc => then_normal ?_)
                          have hs := hs.ext hc
                          have hM0 := hM0.ext hc
                          have hs : Sep [] w18 S1 := Sep.pick [] hs (by decide) rfl
                          obtain rfl := Option.some.inj h
                          exact wp_ret (blk_ret (then_ret (ret1 rfl hF rfl ⟨_, rfl, rfl, hM0.chg⟩)))
                        · replace h := iteF hb h
                          have hs : Sep [] w2 S1 := Sep.pick [] hs (by decide) rfl
                          refine (wp_skip ?_)
                          refine blk_normal (then_normal ?_)
                          refine wp_seq (wp_pure [(6, .bool false)] hF (by kernel_rfl) fun fr hF => then_normal ?_)
                          obtain rfl := Option.some.inj h
                          exact wp_ret (ret1 rfl hF rfl ⟨_, rfl, rfl, hM0.chg⟩)
                      · replace h := iteF hb h
                        refine (wp_pure [(3, .pointer (some ⟨b1, 0, none⟩)), (107, .bool (p0.Op == 14))] hF (by kernel_rfl) fun fr hF => then_normal ?_)
                        refine (wp_if hF (b := (p0.Op == 14)) rfl (fun hb => ?_) (fun hb => ?_))
                        · replace h := iteT hb h
                          refine wp_seq (region_b [] [true, false, true, true, true, false, true, true, true, true, false, true, true, true]
                              [.eq (.pointer (some ⟨b1, 1, none⟩)), .eq (.int .i64 p0.A), .eq (.bool (p0.A == 0)), .eq (.bool (p0.A == 0)), .eq (.pointer (some ⟨b1, 2, none⟩)), .eq (.int .i64 p0.B), .eq (.bool (p0.B == 0)), .eq (.bool ((p0.A == 0) && (p0.B == 0))), .eq (.bool ((p0.A == 0) && (p0.B == 0))), .eq (.pointer (some ⟨b1, 3, none⟩)), .eq (.int .i64 p0.C), .eq (.bool (p0.C == 0)), .eq (.bool (((p0.A == 0) && (p0.B == 0)) && (p0.C == 0))), .eq (.bool (((p0.A == 0) && (p0.B == 0)) && (p0.C == 0)))]
                              [(6, .bool (((p0.A == 0) && (p0.B == 0)) && (p0.C == 0)))] mix hF (by kernel_rfl) (by kernel_rfl) (by kernel_rfl) ⟨Pd.mono_eq, Pd.mono_eq, Pd.mono_eq, trivial⟩ (fun hG => ⟨np_loadBox hG hF ty3 rfl rfl (hs.bx 0 rfl) rfl rfl rfl, np_loadBox hG hF ty3 rfl rfl (hs.bx 0 rfl) rfl rfl rfl, np_loadBox hG hF ty3 rfl rfl (hs.bx 0 rfl) rfl rfl rfl, trivial⟩) (by kernel_rfl) fun fr w19 hF hE hc => then_normal ?_)
                          have hs := hs.ext hc
                          have hM0 := hM0.ext hc
                          have hs : Sep [] w19 S1 := Sep.pick [] hs (by decide) rfl
                          obtain rfl := Option.some.inj h
                          exact wp_ret (blk_ret (then_ret (ret1 rfl hF rfl ⟨_, rfl, rfl, hM0.chg⟩)))
                        · replace h := iteF hb h
                          have hs : Sep [] w2 S1 := Sep.pick [] hs (by decide) rfl
                          refine (wp_skip ?_)
                          refine blk_normal (then_normal ?_)
                          refine wp_seq (wp_pure [(6, .bool false)] hF (by kernel_rfl) fun fr hF => then_normal ?_)
                          obtain rfl := Option.some.inj h
                          exact wp_ret (ret1 rfl hF rfl ⟨_, rfl, rfl, hM0.chg⟩)
                · replace h := iteF hb h
                  refine (wp_pure [(3, .pointer (some ⟨b1, 0, none⟩)), (7, .bool x1), (13, .int .i64 p0.Op), (80, .bool (p0.Op == 11))] hF (by kernel_rfl) fun fr hF => then_normal ?_)
                  refine (wp_if hF (b := (p0.Op == 11)) rfl (fun hb => ?_) (fun hb => ?_))
                  · replace h := iteT hb h
                    refine wp_seq (region_b [] [true, false, true, true, true, true, true, true, false, true, true, true]
                        [.eq (.pointer (some ⟨b1, 1, none⟩)), .eq (.int .i64 p0.A), .eq (.bool (p0.A == 0)), .eq (.bool (p0.A == 0)), .eq (.bool x1), .eq (.bool ((p0.A == 0) && x1)), .eq (.bool ((p0.A == 0) && x1)), .eq (.pointer (some ⟨b1, 3, none⟩)), .eq (.int .i64 p0.C), .eq (.bool (p0.C == 0)), .eq (.bool (((p0.A == 0) && x1) && (p0.C == 0))), .eq (.bool (((p0.A == 0) && x1) && (p0.C == 0)))]
                        [(6, .bool (((p0.A == 0) && x1) && (p0.C == 0)))] mix hF (by kernel_rfl) (by kernel_rfl) (by kernel_rfl) ⟨Pd.mono_eq, Pd.mono_eq, trivial⟩ (fun hG => ⟨np_loadBox hG hF ty3 rfl rfl (hs.bx 0 rfl) rfl rfl rfl, np_loadBox hG hF ty3 rfl rfl (hs.bx 0 rfl) rfl rfl rfl, trivial⟩) (by kernel_rfl) fun fr w20 hF hE hc => then_normal ?_)
                    have hs := hs.ext hc
                    have hM0 := hM0.ext hc
                    have hs : Sep [] w20 S1 := Sep.pick [] hs (by decide) rfl
                    obtain rfl := Option.some.inj h
                    exact wp_ret (blk_ret (then_ret (ret1 rfl hF rfl ⟨_, rfl, rfl, hM0.chg⟩)))
                  · replace h := iteF hb h
                    refine wp_seq (wp_pure [(3, .pointer (some ⟨b1, 0, none⟩)), (7, .bool x1), (13, .int .i64 p0.Op), (94, .bool (p0.Op == 10))] hF (by kernel_rfl) fun fr hF => then_normal ?_)
                    refine (wp_if hF (b := (p0.Op == 10)) rfl (fun hb => ?_) (fun hb => ?_))
                    · replace h := iteT hb h
                      obtain ⟨x14, hx14, h⟩ := bindE h
                      refine wp_seq (region_b [] [true, false, false, true, true, true, true, true, false, true, true, true]
                          [.eq (.pointer (some ⟨b1, 1, none⟩)), .eq (.int .i64 p0.A), .eq (.bool x14), .eq (.bool x14), .eq (.bool x1), .eq (.bool (x14 && x1)), .eq (.bool (x14 && x1)), .eq (.pointer (some ⟨b1, 3, none⟩)), .eq (.int .i64 p0.C), .eq (.bool (p0.C == 0)), .eq (.bool ((x14 && x1) && (p0.C == 0))), .eq (.bool ((x14 && x1) && (p0.C == 0)))]
                          [(6, .bool ((x14 && x1) && (p0.C == 0)))] mix hF (by kernel_rfl) (by kernel_rfl) (by kernel_rfl) ⟨Pd.mono_eq, Pd.mono_eq, Pd.mono_eq, trivial⟩ (fun hG => ⟨np_loadBox hG hF ty3 rfl rfl (hs.bx 0 rfl) rfl rfl rfl, np_call [.int .i64 p0.A] hG hF Try.call75 rfl rfl (fun w hC hg => (spec_l05Reg_ok p0.A hx14).mono fun e w' ⟨v, he, hv, hc⟩ => ⟨v, he, hc, hv⟩), np_loadBox hG hF ty3 rfl rfl (hs.bx 0 rfl) rfl rfl rfl, trivial⟩) (by kernel_rfl) fun fr w21 hF hE hc => then_normal ?_)
                      have hs := hs.ext hc
                      have hM0 := hM0.ext hc
                      have hs : Sep [] w21 S1 := Sep.pick [] hs (by decide) rfl
                      obtain rfl := Option.some.inj h
                      exact wp_ret (blk_ret (then_ret (ret1 rfl hF rfl ⟨_, rfl, rfl, hM0.chg⟩)))
                    · replace h := iteF hb h
                      refine wp_seq ?_
                      refine wp_seq (wp_pure [(3, .pointer (some ⟨b1, 0, none⟩)), (13, .int .i64 p0.Op), (107, .bool (p0.Op == 12))] hF (by kernel_rfl) fun fr hF => then_normal ?_)
                      refine (wp_if hF (b := (p0.Op == 12)) rfl (fun hb => ?_) (fun hb => ?_))
                      · replace h := iteT hb h
                        refine (wp_skip (then_normal ?_))
                        refine (wp_if hF (b := (p0.Op == 12)) rfl (fun hb => ?_) (fun hb => ?_))
                        · replace h := iteT hb h
                          refine wp_seq (region_b [] [true, false, true, true, true, false, true, true, true, true, false, true, true, true]
                              [.eq (.pointer (some ⟨b1, 1, none⟩)), .eq (.int .i64 p0.A), .eq (.bool (p0.A == 0)), .eq (.bool (p0.A == 0)), .eq (.pointer (some ⟨b1, 2, none⟩)), .eq (.int .i64 p0.B), .eq (.bool (p0.B == 0)), .eq (.bool ((p0.A == 0) && (p0.B == 0))), .eq (.bool ((p0.A == 0) && (p0.B == 0))), .eq (.pointer (some ⟨b1, 3, none⟩)), .eq (.int .i64 p0.C), .eq (.bool (p0.C == 0)), .eq (.bool (((p0.A == 0) && (p0.B == 0)) && (p0.C == 0))), .eq (.bool (((p0.A == 0) && (p0.B == 0)) && (p0.C == 0)))]
                              [(6, .bool (((p0.A == 0) && (p0.B == 0)) && (p0.C == 0)))] mix hF (by kernel_rfl) (by kernel_rfl) (by kernel_rfl) ⟨Pd.mono_eq, Pd.mono_eq, Pd.mono_eq, trivial⟩ (fun hG => ⟨np_loadBox hG hF ty3 rfl rfl (hs.bx 0 rfl) rfl rfl rfl, np_loadBox hG hF ty3 rfl rfl (hs.bx 0 rfl) rfl rfl rfl, np_loadBox hG hF ty3 rfl rfl (hs.bx 0 rfl) rfl rfl rfl, trivial⟩) (by kernel_rfl) fun fr w22 hF hE hc => then_normal ?_)
                          have hs := hs.ext hc
                          have hM0 := hM0.ext hc
                          have hs : Sep [] w22 S1 := Sep.pick [] hs (by decide) rfl
                          obtain rfl := Option.some.inj h
                          exact wp_ret (blk_ret (then_ret (ret1 rfl hF rfl ⟨_, rfl, rfl, hM0.chg⟩)))
                        · replace h := iteF hb h
                          have hs : Sep [] w2 S1 := Sep.pick [] hs (by decide) rfl
                          refine (wp_skip ?_)
                          refine blk_normal (then_normal ?_)
                          refine wp_seq (wp_pure [(6, .bool false)] hF (by kernel_rfl) fun fr hF => then_normal ?_)
                          obtain rfl := Option.some.inj h
                          exact wp_ret (ret1 rfl hF rfl ⟨_, rfl, rfl, hM0.chg⟩)
                      · replace h := iteF hb h
                        refine (wp_pure [(3, .pointer (some ⟨b1, 0, none⟩)), (107, .bool (p0.Op == 14))] hF (by kernel_rfl) fun fr hF => then_normal ?_)
                        refine (wp_if hF (b := (p0.Op == 14)) rfl (fun hb => ?_) (fun hb => ?_))
                        · replace h := iteT hb h
                          refine wp_seq (region_b [] [true, false, true, true, true, false, true, true, true, true, false, true, true, true]
                              [.eq (.pointer (some ⟨b1, 1, none⟩)), .eq (.int .i64 p0.A), .eq (.bool (p0.A == 0)), .eq (.bool (p0.A == 0)), .eq (.pointer (some ⟨b1, 2, none⟩)), .eq (.int .i64 p0.B), .eq (.bool (p0.B == 0)), .eq (.bool ((p0.A == 0) && (p0.B == 0))), .eq (.bool ((p0.A == 0) && (p0.B == 0))), .eq (.pointer (some ⟨b1, 3, none⟩)), .eq (.int .i64 p0.C), .eq (.bool (p0.C == 0)), .eq (.bool (((p0.A == 0) && (p0.B == 0)) && (p0.C == 0))), .eq (.bool (((p0.A == 0) && (p0.B == 0)) && (p0.C == 0)))]
                              [(6, .bool (((p0.A == 0) && (p0.B == 0)) && (p0.C == 0)))] mix hF (by kernel_rfl) (by kernel_rfl) (by kernel_rfl) ⟨Pd.mono_eq, Pd.mono_eq, Pd.mono_eq, trivial⟩ (fun hG => ⟨np_loadBox hG hF ty3 rfl rfl (hs.bx 0 rfl) rfl rfl rfl, np_loadBox hG hF ty3 rfl rfl (hs.bx 0 rfl) rfl rfl rfl, np_loadBox hG hF ty3 rfl rfl (hs.bx 0 rfl) rfl rfl rfl, trivial⟩) (by kernel_rfl) fun fr w23 hF hE hc => then_normal ?_)
                          have hs := hs.ext hc
                          have hM0 := hM0.ext hc
                          have hs : Sep [] w23 S1 := Sep.pick [] hs (by decide) rfl
                          obtain rfl := Option.some.inj h
                          exact wp_ret (blk_ret (then_ret (ret1 rfl hF rfl ⟨_, rfl, rfl, hM0.chg⟩)))
                        · replace h := iteF hb h
                          have hs : Sep [] w2 S1 := Sep.pick [] hs (by decide) rfl
                          refine (wp_skip ?_)
                          refine blk_normal (then_normal ?_)
                          refine wp_seq (wp_pure [(6, .bool false)] hF (by kernel_rfl) fun fr hF => then_normal ?_)
                          obtain rfl := Option.some.inj h
                          exact wp_ret (ret1 rfl hF rfl ⟨_, rfl, rfl, hM0.chg⟩)
            · replace h := iteF hb h
              refine wp_seq (wp_pure [(3, .pointer (some ⟨b1, 0, none⟩)), (7, .bool x1), (13, .int .i64 p0.Op), (62, .bool (p0.Op == 6))] hF (by kernel_rfl) fun fr hF => then_normal ?_)
              refine (wp_if hF (b := (p0.Op == 6)) rfl (fun hb => ?_) (fun hb => ?_))
              · replace h := iteT hb h
                refine (wp_skip (then_normal ?_))
                refine (wp_if hF (b := (p0.Op == 6)) rfl (fun hb => ?_) (fun hb => ?_))
                · replace h := iteT hb h
                  obtain ⟨x15, hx15, h⟩ := bindE h
                  refine wp_seq (region_b [] [true, false, false, true, true, false, true, true, true, true, false, true, true, true]
                      [.eq (.pointer (some ⟨b1, 1, none⟩)), .eq (.int .i64 p0.A), .eq (.bool x15), .eq (.bool x15), .eq (.pointer (some ⟨b1, 2, none⟩)), .eq (.int .i64 p0.B), .eq (.bool (p0.B == 0)), .eq (.bool (x15 && (p0.B == 0))), .eq (.bool (x15 && (p0.B == 0))), .eq (.pointer (some ⟨b1, 3, none⟩)), .eq (.int .i64 p0.C), .eq (.bool (p0.C == 0)), .eq (.bool ((x15 && (p0.B == 0)) && (p0.C == 0))), .eq (.bool ((x15 && (p0.B == 0)) && (p0.C == 0)))]
                      [(6, .bool ((x15 && (p0.B == 0)) && (p0.C == 0)))] mix hF (by kernel_rfl) (by kernel_rfl) (by kernel_rfl) ⟨Pd.mono_eq, Pd.mono_eq, Pd.mono_eq, Pd.mono_eq, trivial⟩ (fun hG => ⟨np_loadBox hG hF ty3 rfl rfl (hs.bx 0 rfl) rfl rfl rfl, np_call [.int .i64 p0.A] hG hF Try.call75 rfl rfl (fun w hC hg => (spec_l05Reg_ok p0.A hx15).mono fun e w' ⟨v, he, hv, hc⟩ => ⟨v, he, hc, hv⟩), np_loadBox hG hF ty3 rfl rfl (hs.bx 0 rfl) rfl rfl rfl, np_loadBox hG hF ty3 rfl rfl (hs.bx 0 rfl) rfl rfl rfl, trivial⟩) (by kernel_rfl) fun fr w24 hF hE hc => then_normal ?_)
                  have hs := hs.ext hc
                  have hM0 := hM0.ext hc
                  have hs : Sep [] w24 S1 := Sep.pick [] hs (by decide) rfl
                  obtain rfl := Option.some.inj h
                  exact wp_ret (blk_ret (then_ret (ret1 rfl hF rfl ⟨_, rfl, rfl, hM0.chg⟩)))
                · replace h := iteF hb h
                  refine wp_seq ?_
                  refine wp_seq (wp_pure [(3, .pointer (some ⟨b1, 0, none⟩)), (7, .bool x1), (13, .int .i64 p0.Op), (80, .bool (p0.Op == 9))] hF (by kernel_rfl) fun fr hF => then_normal ?_)
                  refine (wp_if hF (b := (p0.Op == 9)) rfl (fun hb => ?_) (fun hb => ?_))
                  · replace h := iteT hb h
                    refine (wp_skip (then_normal ?_))
                    refine (wp_if hF (b := (p0.Op == 9)) rfl (fun hb => ?_) (fun hb => ?_))
                    · replace h := iteT hb h
                      refine wp_seq (region_b [] [true, false, true, true, true, true, true, true, false, true, true, true]
                          [.eq (.pointer (some ⟨b1, 1, none⟩)), .eq (.int .i64 p0.A), .eq (.bool (p0.A == 0)), .eq (.bool (p0.A == 0)), .eq (.bool x1), .eq (.bool ((p0.A == 0) && x1)), .eq (.bool ((p0.A == 0) && x1)), .eq (.pointer (some ⟨b1, 3, none⟩)), .eq (.int .i64 p0.C), .eq (.bool (p0.C == 0)), .eq (.bool (((p0.A == 0) && x1) && (p0.C == 0))), .eq (.bool (((p0.A == 0) && x1) && (p0.C == 0)))]
                          [(6, .bool (((p0.A == 0) && x1) && (p0.C == 0)))] mix hF (by kernel_rfl) (by kernel_rfl) (by kernel_rfl) ⟨Pd.mono_eq, Pd.mono_eq, trivial⟩ (fun hG => ⟨np_loadBox hG hF ty3 rfl rfl (hs.bx 0 rfl) rfl rfl rfl, np_loadBox hG hF ty3 rfl rfl (hs.bx 0 rfl) rfl rfl rfl, trivial⟩) (by kernel_rfl) fun fr w25 hF hE hc => then_normal ?_)
                      have hs := hs.ext hc
                      have hM0 := hM0.ext hc
                      have hs : Sep [] w25 S1 := Sep.pick [] hs (by decide) rfl
                      obtain rfl := Option.some.inj h
                      exact wp_ret (blk_ret (then_ret (ret1 rfl hF rfl ⟨_, rfl, rfl, hM0.chg⟩)))
                    · replace h := iteF hb h
                      refine wp_seq (wp_pure [(3, .pointer (some ⟨b1, 0, none⟩)), (7, .bool x1), (13, .int .i64 p0.Op), (94, .bool (p0.Op == 10))] hF (by kernel_rfl) fun fr hF => then_normal ?_)
                      refine (wp_if hF (b := (p0.Op == 10)) rfl (fun hb => ?_) (fun hb => ?_))
                      · replace h := iteT hb h
                        obtain ⟨x16, hx16, h⟩ := bindE h
                        refine wp_seq (region_b [] [true, false, false, true, true, true, true, true, false, true, true, true]
                            [.eq (.pointer (some ⟨b1, 1, none⟩)), .eq (.int .i64 p0.A), .eq (.bool x16), .eq (.bool x16), .eq (.bool x1), .eq (.bool (x16 && x1)), .eq (.bool (x16 && x1)), .eq (.pointer (some ⟨b1, 3, none⟩)), .eq (.int .i64 p0.C), .eq (.bool (p0.C == 0)), .eq (.bool ((x16 && x1) && (p0.C == 0))), .eq (.bool ((x16 && x1) && (p0.C == 0)))]
                            [(6, .bool ((x16 && x1) && (p0.C == 0)))] mix hF (by kernel_rfl) (by kernel_rfl) (by kernel_rfl) ⟨Pd.mono_eq, Pd.mono_eq, Pd.mono_eq, trivial⟩ (fun hG => ⟨np_loadBox hG hF ty3 rfl rfl (hs.bx 0 rfl) rfl rfl rfl, np_call [.int .i64 p0.A] hG hF Try.call75 rfl rfl (fun w hC hg => (spec_l05Reg_ok p0.A hx16).mono fun e w' ⟨v, he, hv, hc⟩ => ⟨v, he, hc, hv⟩), np_loadBox hG hF ty3 rfl rfl (hs.bx 0 rfl) rfl rfl rfl, trivial⟩) (by kernel_rfl) fun fr w26 hF hE hc => then_normal ?_)
                        have hs := hs.ext hc
                        have hM0 := hM0.ext hc
                        have hs : Sep [] w26 S1 := Sep.pick [] hs (by decide) rfl
                        obtain rfl := Option.some.inj h
                        exact wp_ret (blk_ret (then_ret (ret1 rfl hF rfl ⟨_, rfl, rfl, hM0.chg⟩)))
                      · replace h := iteF hb h
                        refine wp_seq ?_
                        refine wp_seq (wp_pure [(3, .pointer (some ⟨b1, 0, none⟩)), (13, .int .i64 p0.Op), (107, .bool (p0.Op == 12))] hF (by kernel_rfl) fun fr hF => then_normal ?_)
                        refine (wp_if hF (b := (p0.Op == 12)) rfl (fun hb => ?_) (fun hb => ?_))
                        · replace h := iteT hb h
                          refine (wp_skip (then_normal ?_))
                          refine (wp_if hF (b := (p0.Op == 12)) rfl (fun hb => ?_) (fun hb => ?_))
                          · replace h := iteT hb h
                            refine wp_seq (region_b [] [true, false, true, true, true, false, true, true, true, true, false, true, true, true]
                                [.eq (.pointer (some ⟨b1, 1, none⟩)), .eq (.int .i64 p0.A), .eq (.bool (p0.A == 0)), .eq (.bool (p0.A == 0)), .eq (.pointer (some ⟨b1, 2, none⟩)), .eq (.int .i64 p0.B), .eq (.bool (p0.B == 0)), .eq (.bool ((p0.A == 0) && (p0.B == 0))), .eq (.bool ((p0.A == 0) && (p0.B == 0))), .eq (.pointer (some ⟨b1, 3, none⟩)), .eq (.int .i64 p0.C), .eq (.bool (p0.C == 0)), .eq (.bool (((p0.A == 0) && (p0.B == 0)) && (p0.C == 0))), .eq (.bool (((p0.A == 0) && (p0.B == 0)) && (p0.C == 0)))]
                                [(6, .bool (((p0.A == 0) && (p0.B == 0)) && (p0.C == 0)))] mix hF (by kernel_rfl) (by kernel_rfl) (by kernel_rfl) ⟨Pd.mono_eq, Pd.mono_eq, Pd.mono_eq, trivial⟩ (fun hG => ⟨np_loadBox hG hF ty3 rfl rfl (hs.bx 0 rfl) rfl rfl rfl, np_loadBox hG hF ty3 rfl rfl (hs.bx 0 rfl) rfl rfl rfl, np_loadBox hG hF ty3 rfl rfl (hs.bx 0 rfl) rfl rfl rfl, trivial⟩) (by kernel_rfl) fun fr w27 hF hE hc => then_normal ?_)
                            have hs := hs.ext hc
                            have hM0 := hM0.ext hc
                            have hs : Sep [] w27 S1 := Sep.pick [] hs (by decide) rfl
                            obtain rfl := Option.some.inj h
                            exact wp_ret (blk_ret (then_ret (ret1 rfl hF rfl ⟨_, rfl, rfl, hM0.chg⟩)))
                          · replace h := iteF hb h
                            have hs : Sep [] w2 S1 := Sep.pick [] hs (by decide) rfl
                            refine (wp_skip ?_)
                            refine blk_normal (then_normal ?_)
                            refine wp_seq (wp_pure [(6, .bool false)] hF (by kernel_rfl) fun fr hF => then_normal ?_)
                            obtain rfl := Option.some.inj h
                            exact wp_ret (ret1 rfl hF rfl ⟨_, rfl, rfl, hM0.chg⟩)
                        · replace h := iteF hb h
                          refine (wp_pure [(3, .pointer (some ⟨b1, 0, none⟩)), (107, .bool (p0.Op == 14))] hF (by kernel_rfl) fun fr hF => then_normal ?_)
                          refine (wp_if hF (b := (p0.Op == 14)) rfl (fun hb => ?_) (fun hb => ?_))
                          · replace h := iteT hb h
                            refine wp_seq (region_b [] [true, false, true, true, true, false, true, true, true, true, false, true, true, true]
                                [.eq (.pointer (some ⟨b1, 1, none⟩)), .eq (.int .i64 p0.A), .eq (.bool (p0.A == 0)), .eq (.bool (p0.A == 0)), .eq (.pointer (some ⟨b1, 2, none⟩)), .eq (.int .i64 p0.B), .eq (.bool (p0.B == 0)), .eq (.bool ((p0.A == 0) && (p0.B == 0))), .eq (.bool ((p0.A == 0) && (p0.B == 0))), .eq (.pointer (some ⟨b1, 3, none⟩)), .eq (.int .i64 p0.C), .eq (.bool (p0.C == 0)), .eq (.bool (((p0.A == 0) && (p0.B == 0)) && (p0.C == 0))), .eq (.bool (((p0.A == 0) && (p0.B == 0)) && (p0.C == 0)))]
                                [(6, .bool (((p0.A == 0) && (p0.B == 0)) && (p0.C == 0)))] mix hF (by kernel_rfl) (by kernel_rfl) (by kernel_rfl) ⟨Pd.mono_eq, Pd.mono_eq, Pd.mono_eq, trivial⟩ (fun hG => ⟨np_loadBox hG hF ty3 rfl rfl (hs.bx 0 rfl) rfl rfl rfl, np_loadBox hG hF ty3 rfl rfl (hs.bx 0 rfl) rfl rfl rfl, np_loadBox hG hF ty3 rfl rfl (hs.bx 0 rfl) rfl rfl rfl, trivial⟩) (by kernel_rfl) fun fr w28 hF hE hc => then_normal ?_)
                            have hs := hs.ext hc
                            have hM0 := hM0.ext hc
                            have hs : Sep [] w28 S1 := Sep.pick [] hs (by decide) rfl
                            obtain rfl := Option.some.inj h
                            exact wp_ret (blk_ret (then_ret (ret1 rfl hF rfl ⟨_, rfl, rfl, hM0.chg⟩)))
                          · replace h := iteF hb h
                            have hs : Sep [] w2 S1 := Sep.pick [] hs (by decide) rfl
                            refine (wp_skip ?_)
                            refine blk_normal (then_normal ?_)
                            refine wp_seq (wp_pure [(6, .bool false)] hF (by kernel_rfl) fun fr hF => then_normal ?_)
                            obtain rfl := Option.some.inj h
                            exact wp_ret (ret1 rfl hF rfl ⟨_, rfl, rfl, hM0.chg⟩)
                  · replace h := iteF hb h
                    refine (wp_pure [(3, .pointer (some ⟨b1, 0, none⟩)), (7, .bool x1), (13, .int .i64 p0.Op), (80, .bool (p0.Op == 11))] hF (by kernel_rfl) fun fr hF => then_normal ?_)
                    refine (wp_if hF (b := (p0.Op == 11)) rfl (fun hb => ?_) (fun hb => ?_))
                    · replace h := iteT hb h
                      refine wp_seq (region_b [] [true, false, true, true, true, true, true, true, false, true, true, true]
                          [.eq (.pointer (some ⟨b1, 1, none⟩)), .eq (.int .i64 p0.A), .eq (.bool (p0.A == 0)), .eq (.bool (p0.A == 0)), .eq (.bool x1), .eq (.bool ((p0.A == 0) && x1)), .eq (.bool ((p0.A == 0) && x1)), .eq (.pointer (some ⟨b1, 3, none⟩)), .eq (.int .i64 p0.C), .eq (.bool (p0.C == 0)), .eq (.bool (((p0.A == 0) && x1) && (p0.C == 0))), .eq (.bool (((p0.A == 0) && x1) && (p0.C == 0)))]
                          [(6, .bool (((p0.A == 0) && x1) && (p0.C == 0)))] mix hF (by kernel_rfl) (by kernel_rfl) (by kernel_rfl) ⟨Pd.mono_eq, Pd.mono_eq, trivial⟩ (fun hG => ⟨np_loadBox hG hF ty3 rfl rfl (hs.bx 0 rfl) rfl rfl rfl, np_loadBox hG hF ty3 rfl rfl (hs.bx 0 rfl) rfl rfl rfl, trivial⟩) (by kernel_rfl) fun fr w29 hF hE hc => then_normal ?_)
                      have hs := hs.ext hc
                      have hM0 := hM0.ext hc
                      have hs : Sep [] w29 S1 := Sep.pick [] hs (by decide) rfl
                      obtain rfl := Option.some.inj h
                      exact wp_ret (blk_ret (then_ret (ret1 rfl hF rfl ⟨_, rfl, rfl, hM0.chg⟩)))
                    · replace h := iteF hb h
                      refine wp_seq (wp_pure [(3, .pointer (some ⟨b1, 0, none⟩)), (7, .bool x1), (13, .int .i64 p0.Op), (94, .bool (p0.Op == 10))] hF (by kernel_rfl) fun fr hF => then_normal ?_)
                      refine (wp_if hF (b := (p0.Op == 10)) rfl (fun hb => ?_) (fun hb => ?_))
                      · replace h := iteT hb h
                        obtain ⟨x17, hx17, h⟩ := bindE h
                        refine wp_seq (region_b [] [true, false, false, true, true, true, true, true, false, true, true, true]
                            [.eq (.pointer (some ⟨b1, 1, none⟩)), .eq (.int .i64 p0.A), .eq (.bool x17), .eq (.bool x17), .eq (.bool x1), .eq (.bool (x17 && x1)), .eq (.bool (x17 && x1)), .eq (.pointer (some ⟨b1, 3, none⟩)), .eq (.int .i64 p0.C), .eq (.bool (p0.C == 0)), .eq (.bool ((x17 && x1) && (p0.C == 0))), .eq (.bool ((x17 && x1) && (p0.C == 0)))]
                            [(6, .bool ((x17 && x1) && (p0.C == 0)))] mix hF (by kernel_rfl) (by kernel_rfl) (by kernel_rfl) ⟨Pd.mono_eq, Pd.mono_eq, Pd.mono_eq, trivial⟩ (fun hG => ⟨np_loadBox hG hF ty3 rfl rfl (hs.bx 0 rfl) rfl rfl rfl, np_call [.int .i64 p0.A] hG hF Try.call75 rfl rfl (fun w hC hg => (spec_l05Reg_ok p0.A hx17).mono fun e w' ⟨v, he, hv, hc⟩ => ⟨v, he, hc, hv⟩), np_loadBox hG hF ty3 rfl rfl (hs.bx 0 rfl) rfl rfl rfl, trivial⟩) (by kernel_rfl) fun fr w30 hF hE hc => then_normal ?_)
                        have hs := hs.ext hc
                        have hM0 := hM0.ext hc
                        have hs : Sep [] w30 S1 := Sep.pick [] hs (by decide) rfl
                        obtain rfl := Option.some.inj h
                        exact wp_ret (blk_ret (then_ret (ret1 rfl hF rfl ⟨_, rfl, rfl, hM0.chg⟩)))
                      · replace h := iteF hb h
                        refine wp_seq ?_
                        refine wp_seq (wp_pure [(3, .pointer (some ⟨b1, 0, none⟩)), (13, .int .i64 p0.Op), (107, .bool (p0.Op == 12))] hF (by kernel_rfl) fun fr hF => then_normal ?_)
                        refine (wp_if hF (b := (p0.Op == 12)) rfl (fun hb => ?_) (fun hb => ?_))
                        · replace h := iteT hb h
                          refine (wp_skip (then_normal ?_))
                          refine (wp_if hF (b := (p0.Op == 12)) rfl (fun hb => ?_) (fun hb => ?_))
                          · replace h := iteT hb h
                            refine wp_seq (region_b [] [true, false, true, true, true, false, true, true, true, true, false, true, true, true]
                                [.eq (.pointer (some ⟨b1, 1, none⟩)), .eq (.int .i64 p0.A), .eq (.bool (p0.A == 0)), .eq (.bool (p0.A == 0)), .eq (.pointer (some ⟨b1, 2, none⟩)), .eq (.int .i64 p0.B), .eq (.bool (p0.B == 0)), .eq (.bool ((p0.A == 0) && (p0.B == 0))), .eq (.bool ((p0.A == 0) && (p0.B == 0))), .eq (.pointer (some ⟨b1, 3, none⟩)), .eq (.int .i64 p0.C), .eq (.bool (p0.C == 0)), .eq (.bool (((p0.A == 0) && (p0.B == 0)) && (p0.C == 0))), .eq (.bool (((p0.A == 0) && (p0.B == 0)) && (p0.C == 0)))]
                                [(6, .bool (((p0.A == 0) && (p0.B == 0)) && (p0.C == 0)))] mix hF (by kernel_rfl) (by kernel_rfl) (by kernel_rfl) ⟨Pd.mono_eq, Pd.mono_eq, Pd.mono_eq, trivial⟩ (fun hG => ⟨np_loadBox hG hF ty3 rfl rfl (hs.bx 0 rfl) rfl rfl rfl, np_loadBox hG hF ty3 rfl rfl (hs.bx 0 rfl) rfl rfl rfl, np_loadBox hG hF ty3 rfl rfl (hs.bx 0 rfl) rfl rfl rfl, trivial⟩) (by kernel_rfl) fun fr w31 hF hE hc => then_normal ?_)
                            have hs := hs.ext hc
                            have hM0 := hM0.ext hc
                            have hs : Sep [] w31 S1 := Sep.pick [] hs (by decide) rfl
                            obtain rfl := Option.some.inj h
                            exact wp_ret (blk_ret (then_ret (ret1 rfl hF rfl ⟨_, rfl, rfl, hM0.chg⟩)))
                          · replace h := iteF hb h
                            have hs : Sep [] w2 S1 := Sep.pick [] hs (by decide) rfl
                            refine (wp_skip ?_)
                            refine blk_normal (then_normal ?_)
                            refine wp_seq (wp_pure [(6, .bool false)] hF (by kernel_rfl) fun fr hF => then_normal ?_)
                            obtain rfl := Option.some.inj h
                            exact wp_ret (ret1 rfl hF rfl ⟨_, rfl, rfl, hM0.chg⟩)
                        · replace h := iteF hb h
                          refine (wp_pure [(3, .pointer (some ⟨b1, 0, none⟩)), (107, .bool (p0.Op == 14))] hF (by kernel_rfl) fun fr hF => then_normal ?_)
                          refine (wp_if hF (b := (p0.Op == 14)) rfl (fun hb => ?_) (fun hb => ?_))
                          · replace h := iteT hb h
                            refine wp_seq (region_b [] [true, false, true, true, true, false, true, true, true, true, false, true, true, true]
                                [.eq (.pointer (some ⟨b1, 1, none⟩)), .eq (.int .i64 p0.A), .eq (.bool (p0.A == 0)), .eq (.bool (p0.A == 0)), .eq (.pointer (some ⟨b1, 2, none⟩)), .eq (.int .i64 p0.B), .eq (.bool (p0.B == 0)), .eq (.bool ((p0.A == 0) && (p0.B == 0))), .eq (.bool ((p0.A == 0) && (p0.B == 0))), .eq (.pointer (some ⟨b1, 3, none⟩)), .eq (.int .i64 p0.C), .eq (.bool (p0.C == 0)), .eq (.bool (((p0.A == 0) && (p0.B == 0)) && (p0.C == 0))), .eq (.bool (((p0.A == 0) && (p0.B == 0)) && (p0.C == 0)))]
                                [(6, .bool (((p0.A == 0) && (p0.B == 0)) && (p0.C == 0)))] mix hF (by kernel_rfl) (by kernel_rfl) (by kernel_rfl) ⟨Pd.mono_eq, Pd.mono_eq, Pd.mono_eq, trivial⟩ (fun hG => ⟨np_loadBox hG hF ty3 rfl rfl (hs.bx 0 rfl) rfl rfl rfl, np_loadBox hG hF ty3 rfl rfl (hs.bx 0 rfl) rfl rfl rfl, np_loadBox hG hF ty3 rfl rfl (hs.bx 0 rfl) rfl rfl rfl, trivial⟩) (by kernel_rfl) fun fr w32 hF hE hc => then_normal ?_)
                            have hs := hs.ext hc
                            have hM0 := hM0.ext hc
                            have hs : Sep [] w32 S1 := Sep.pick [] hs (by decide) rfl
                            obtain rfl := Option.some.inj h
                            exact wp_ret (blk_ret (then_ret (ret1 rfl hF rfl ⟨_, rfl, rfl, hM0.chg⟩)))
                          · replace h := iteF hb h
                            have hs : Sep [] w2 S1 := Sep.pick [] hs (by decide) rfl
                            refine (wp_skip ?_)
                            refine blk_normal (then_normal ?_)
                            refine wp_seq (wp_pure [(6, .bool false)] hF (by kernel_rfl) fun fr hF => then_normal ?_)
                            obtain rfl := Option.some.inj h
                            exact wp_ret (ret1 rfl hF rfl ⟨_, rfl, rfl, hM0.chg⟩)
              · replace h := iteF hb h
                refine (wp_pure [(3, .pointer (some ⟨b1, 0, none⟩)), (7, .bool x1), (13, .int .i64 p0.Op), (62, .bool (p0.Op == 13))] hF (by kernel_rfl) fun fr hF => then_normal ?_)
                refine (wp_if hF (b := (p0.Op == 13)) rfl (fun hb => ?_) (fun hb => ?_))
                · replace h := iteT hb h
                  obtain ⟨x18, hx18, h⟩ := bindE h
                  refine wp_seq (region_b [] [true, false, false, true, true, false, true, true, true, true, false, true, true, true]
                      [.eq (.pointer (some ⟨b1, 1, none⟩)), .eq (.int .i64 p0.A), .eq (.bool x18), .eq (.bool x18), .eq (.pointer (some ⟨b1, 2, none⟩)), .eq (.int .i64 p0.B), .eq (.bool (p0.B == 0)), .eq (.bool (x18 && (p0.B == 0))), .eq (.bool (x18 && (p0.B == 0))), .eq (.pointer (some ⟨b1, 3, none⟩)), .eq (.int .i64 p0.C), .eq (.bool (p0.C == 0)), .eq (.bool ((x18 && (p0.B == 0)) && (p0.C == 0))), .eq (.bool ((x18 && (p0.B == 0)) && (p0.C == 0)))]
                      [(6, .bool ((x18 && (p0.B == 0)) && (p0.C == 0)))] mix hF (by kernel_rfl) (by kernel_rfl) (by kernel_rfl) ⟨Pd.mono_eq, Pd.mono_eq, Pd.mono_eq, Pd.mono_eq, trivial⟩ (fun hG => ⟨np_loadBox hG hF ty3 rfl rfl (hs.bx 0 rfl) rfl rfl rfl, np_call [.int .i64 p0.A] hG hF Try.call75 rfl rfl (fun w hC hg => (spec_l05Reg_ok p0.A hx18).mono fun e w' ⟨v, he, hv, hc⟩ => ⟨v, he, hc, hv⟩), np_loadBox hG hF ty3 rfl rfl (hs.bx 0 rfl) rfl rfl rfl, np_loadBox hG hF ty3 rfl rfl (hs.bx 0 rfl) rfl rfl rfl, trivial⟩) (by kernel_rfl) fun fr w33 hF hE hc => then_normal ?_)
                  have hs := hs.ext hc
                  have hM0 := hM0.ext hc
                  have hs : Sep [] w33 S1 := Sep.pick [] hs (by decide) rfl
                  obtain rfl := Option.some.inj h
                  exact wp_ret (blk_ret (then_ret (ret1 rfl hF rfl ⟨_, rfl, rfl, hM0.chg⟩)))
                · replace h := iteF hb h
                  refine wp_seq ?_
                  refine wp_seq (wp_pure [(3, .pointer (some ⟨b1, 0, none⟩)), (7, .bool x1), (13, .int .i64 p0.Op), (80, .bool (p0.Op == 9))] hF (by kernel_rfl) fun fr hF => then_normal ?_)
                  refine (wp_if hF (b := (p0.Op == 9)) rfl (fun hb => ?_) (fun hb => ?_))
                  · replace h := iteT hb h
                    refine (wp_skip (then_normal ?_))
                    refine (wp_if hF (b := (p0.Op == 9)) rfl (fun hb => ?_) (fun hb => ?_))
                    · replace h := iteT hb h
                      refine wp_seq (region_b [] [true, false, true, true, true, true, true, true, false, true, true, true]
                          [.eq (.pointer (some ⟨b1, 1, none⟩)), .eq (.int .i64 p0.A), .eq (.bool (p0.A == 0)), .eq (.bool (p0.A == 0)), .eq (.bool x1), .eq (.bool ((p0.A == 0) && x1)), .eq (.bool ((p0.A == 0) && x1)), .eq (.pointer (some ⟨b1, 3, none⟩)), .eq (.int .i64 p0.C), .eq (.bool (p0.C == 0)), .eq (.bool (((p0.A == 0) && x1) && (p0.C == 0))), .eq (.bool (((p0.A == 0) && x1) && (p0.C == 0)))]
                          [(6, .bool (((p0.A == 0) && x1) && (p0.C == 0)))] mix hF (by kernel_rfl) (by kernel_rfl) (by kernel_rfl) ⟨Pd.mono_eq, Pd.mono_eq, trivial⟩ (fun hG => ⟨np_loadBox hG hF ty3 rfl rfl (hs.bx 0 rfl) rfl rfl rfl, np_loadBox hG hF ty3 rfl rfl (hs.bx 0 rfl) rfl rfl rfl, trivial⟩) (by kernel_rfl) fun fr w34 hF hE hc => then_normal ?_)
                      have hs := hs.ext hc
                      have hM0 := hM0.ext hc
                      have hs : Sep [] w34 S1 := Sep.pick [] hs (by decide) rfl
                      obtain rfl := Option.some.inj h
                      exact wp_ret (blk_ret (then_ret (ret1 rfl hF rfl ⟨_, rfl, rfl, hM0.chg⟩)))
                    · replace h := iteF hb h
                      refine wp_seq (wp_pure [(3, .pointer (some ⟨b1, 0, none⟩)), (7, .bool x1), (13, .int .i64 p0.Op), (94, .bool (p0.Op == 10))] hF (by kernel_rfl) fun fr hF => then_normal ?_)
                      refine (wp_if hF (b := (p0.Op == 10)) rfl (fun hb => ?_) (fun hb => ?_))
                      · replace h := iteT hb h
                        obtain ⟨x19, hx19, h⟩ := bindE h
                        refine wp_seq (region_b [] [true, false, false, true, true, true, true, true, false, true, true, true]
                            [.eq (.pointer (some ⟨b1, 1, none⟩)), .eq (.int .i64 p0.A), .eq (.bool x19), .eq (.bool x19), .eq (.bool x1), .eq (.bool (x19 && x1)), .eq (.bool (x19 && x1)), .eq (.pointer (some ⟨b1, 3, none⟩)), .eq (.int .i64 p0.C), .eq (.bool (p0.C == 0)), .eq (.bool ((x19 && x1) && (p0.C == 0))), .eq (.bool ((x19 && x1) && (p0.C == 0)))]
                            [(6, .bool ((x19 && x1) && (p0.C == 0)))] mix hF (by kernel_rfl) (by kernel_rfl) (by kernel_rfl) ⟨Pd.mono_eq, Pd.mono_eq, Pd.mono_eq, trivial⟩ (fun hG => ⟨np_loadBox hG hF ty3 rfl rfl (hs.bx 0 rfl) rfl rfl rfl, np_call [.int .i64 p0.A] hG hF Try.call75 rfl rfl (fun w hC hg => (spec_l05Reg_ok p0.A hx19).mono fun e w' ⟨v, he, hv, hc⟩ => ⟨v, he, hc, hv⟩), np_loadBox hG hF ty3 rfl rfl (hs.bx 0 rfl) rfl rfl rfl, trivial⟩) (by kernel_rfl) fun fr w35 hF hE hc => then_normal ?_)
                        have hs := hs.ext hc
                        have hM0 := hM0.ext hc
                        have hs : Sep [] w35 S1 := Sep.pick [] hs (by decide) rfl
                        obtain rfl := Option.some.inj h
                        exact wp_ret (blk_ret (then_ret (ret1 rfl hF rfl ⟨_, rfl, rfl, hM0.chg⟩)))
                      · replace h := iteF hb h
                        refine wp_seq ?_
                        refine wp_seq (wp_pure [(3, .pointer (some ⟨b1, 0, none⟩)), (13, .int .i64 p0.Op), (107, .bool (p0.Op == 12))] hF (by kernel_rfl) fun fr hF => then_normal ?_)
                        refine (wp_if hF (b := (p0.Op == 12)) rfl (fun hb => ?_) (fun hb => ?_))
                        · replace h := iteT hb h
                          refine (wp_skip (then_normal ?_))
                          refine (wp_if hF (b := (p0.Op == 12)) rfl (fun hb => ?_) (fun hb => ?_))
                          · replace h := iteT hb h
                            refine wp_seq (region_b [] [true, false, true, true, true, false, true, true, true, true, false, true, true, true]
                                [.eq (.pointer (some ⟨b1, 1, none⟩)), .eq (.int .i64 p0.A), .eq (.bool (p0.A == 0)), .eq (.bool (p0.A == 0)), .eq (.pointer (some ⟨b1, 2, none⟩)), .eq (.int .i64 p0.B), .eq (.bool (p0.B == 0)), .eq (.bool ((p0.A == 0) && (p0.B == 0))), .eq (.bool ((p0.A == 0) && (p0.B == 0))), .eq (.pointer (some ⟨b1, 3, none⟩)), .eq (.int .i64 p0.C), .eq (.bool (p0.C == 0)), .eq (.bool (((p0.A == 0) && (p0.B == 0)) && (p0.C == 0))), .eq (.bool (((p0.A == 0) && (p0.B == 0)) && (p0.C == 0)))]
                                [(6, .bool (((p0.A == 0) && (p0.B == 0)) && (p0.C == 0)))] mix hF (by kernel_rfl) (by kernel_rfl) (by kernel_rfl) ⟨Pd.mono_eq, Pd.mono_eq, Pd.mono_eq, trivial⟩ (fun hG => ⟨np_loadBox hG hF ty3 rfl rfl (hs.bx 0 rfl) rfl rfl rfl, np_loadBox hG hF ty3 rfl rfl (hs.bx 0 rfl) rfl rfl rfl, np_loadBox hG hF ty3 rfl rfl (hs.bx 0 rfl) rfl rfl rfl, trivial⟩) (by kernel_rfl) fun fr w36 hF hE hc => then_normal ?_)
                            have hs := hs.ext hc
                            have hM0 := hM0.ext hc
                            have hs : Sep [] w36 S1 := Sep.pick [] hs (by decide) rfl
                            obtain rfl := Option.some.inj h
                            exact wp_ret (blk_ret (then_ret (ret1 rfl hF rfl ⟨_, rfl, rfl, hM0.chg⟩)))
                          · replace h := iteF hb h
                            have hs : Sep [] w2 S1 := Sep.pick [] hs (by decide) rfl
                            refine (wp_skip ?_)
                            refine blk_normal (then_normal ?_)
                            refine wp_seq (wp_pure [(6, .bool false)] hF (by kernel_rfl) fun fr hF => then_normal ?_)
                            obtain rfl := Option.some.inj h
                            exact wp_ret (ret1 rfl hF rfl ⟨_, rfl, rfl, hM0.chg⟩)
                        · replace h := iteF hb h
                          refine (wp_pure [(3, .pointer (some ⟨b1, 0, none⟩)), (107, .bool (p0.Op == 14))] hF (by kernel_rfl) fun fr hF => then_normal ?_)
                          refine (wp_if hF (b := (p0.Op == 14)) rfl (fun hb => ?_) (fun hb => ?_))
                          · replace h := iteT hb h
                            refine wp_seq (region_b [] [true, false, true, true, true, false, true, true, true, true, false, true, true, true]
                                [.eq (.pointer (some ⟨b1, 1, none⟩)), .eq (.int .i64 p0.A), .eq (.bool (p0.A == 0)), .eq (.bool (p0.A == 0)), .eq (.pointer (some ⟨b1, 2, none⟩)), .eq (.int .i64 p0.B), .eq (.bool (p0.B == 0)), .eq (.bool ((p0.A == 0) && (p0.B == 0))), .eq (.bool ((p0.A == 0) && (p0.B == 0))), .eq (.pointer (some ⟨b1, 3, none⟩)), .eq (.int .i64 p0.C), .eq (.bool (p0.C == 0)), .eq (.bool (((p0.A == 0) && (p0.B == 0)) && (p0.C == 0))), .eq (.bool (((p0.A == 0) && (p0.B == 0)) && (p0.C == 0)))]
                                [(6, .bool (((p0.A == 0) && (p0.B == 0)) && (p0.C == 0)))] mix hF (by kernel_rfl) (by kernel_rfl) (by kernel_rfl) ⟨Pd.mono_eq, Pd.mono_eq, Pd.mono_eq, trivial⟩ (fun hG => ⟨np_loadBox hG hF ty3 rfl rfl (hs.bx 0 rfl) rfl rfl rfl, np_loadBox hG hF ty3 rfl rfl (hs.bx 0 rfl) rfl rfl rfl, np_loadBox hG hF ty3 rfl rfl (hs.bx 0 rfl) rfl rfl rfl, trivial⟩) (by kernel_rfl) fun fr w37 hF hE hc => then_normal ?_)
                            have hs := hs.ext hc
                            have hM0 := hM0.ext hc
                            have hs : Sep [] w37 S1 := Sep.pick [] hs (by decide) rfl
                            obtain rfl := Option.some.inj h
                            exact wp_ret (blk_ret (then_ret (ret1 rfl hF rfl ⟨_, rfl, rfl, hM0.chg⟩)))
                          · replace h := iteF hb h
                            have hs : Sep [] w2 S1 := Sep.pick [] hs (by decide) rfl
                            refine (wp_skip ?_)
                            refine blk_normal (then_normal ?_)
                            refine wp_seq (wp_pure [(6, .bool false)] hF (by kernel_rfl) fun fr hF => then_normal ?_)
                            obtain rfl := Option.some.inj h
                            exact wp_ret (ret1 rfl hF rfl ⟨_, rfl, rfl, hM0.chg⟩)
                  · replace h := iteF hb h
                    refine (wp_pure [(3, .pointer (some ⟨b1, 0, none⟩)), (7, .bool x1), (13, .int .i64 p0.Op), (80, .bool (p0.Op == 11))] hF (by kernel_rfl) fun fr hF => then_normal ?_)
                    refine (wp_if hF (b := (p0.Op == 11)) rfl (fun hb => ?_) (fun hb => ?_))
                    · replace h := iteT hb h
                      refine wp_seq (region_b [] [true, false, true, true, true, true, true, true, false, true, true, true]
                          [.eq (.pointer (some ⟨b1, 1, none⟩)), .eq (.int .i64 p0.A), .eq (.bool (p0.A == 0)), .eq (.bool (p0.A == 0)), .eq (.bool x1), .eq (.bool ((p0.A == 0) && x1)), .eq (.bool ((p0.A == 0) && x1)), .eq (.pointer (some ⟨b1, 3, none⟩)), .eq (.int .i64 p0.C), .eq (.bool (p0.C == 0)), .eq (.bool (((p0.A == 0) && x1) && (p0.C == 0))), .eq (.bool (((p0.A == 0) && x1) && (p0.C == 0)))]
                          [(6, .bool (((p0.A == 0) && x1) && (p0.C == 0)))] mix hF (by kernel_rfl) (by kernel_rfl) (by kernel_rfl) ⟨Pd.mono_eq, Pd.mono_eq, trivial⟩ (fun hG => ⟨np_loadBox hG hF ty3 rfl rfl (hs.bx 0 rfl) rfl rfl rfl, np_loadBox hG hF ty3 rfl rfl (hs.bx 0 rfl) rfl rfl rfl, trivial⟩) (by kernel_rfl) fun fr w38 hF hE hc => then_normal ?_)
                      have hs := hs.ext hc
                      have hM0 := hM0.ext hc
                      have hs : Sep [] w38 S1 := Sep.pick [] hs (by decide) rfl
                      obtain rfl := Option.some.inj h
                      exact wp_ret (blk_ret (then_ret (ret1 rfl hF rfl ⟨_, rfl, rfl, hM0.chg⟩)))
                    · replace h := iteF hb h
                      refine wp_seq (wp_pure [(3, .pointer (some ⟨b1, 0, none⟩)), (7, .bool x1), (13, .int .i64 p0.Op), (94, .bool (p0.Op == 10))] hF (by kernel_rfl) fun fr hF => then_normal ?_)
                      refine (wp_if hF (b := (p0.Op == 10)) rfl (fun hb => ?_) (fun hb => ?_))
                      · replace h := iteT hb h
                        obtain ⟨x20, hx20, h⟩ := bindE h
                        refine wp_seq (region_b [] [true, false, false, true, true, true, true, true, false, true, true, true]
                            [.eq (.pointer (some ⟨b1, 1, none⟩)), .eq (.int .i64 p0.A), .eq (.bool x20), .eq (.bool x20), .eq (.bool x1), .eq (.bool (x20 && x1)), .eq (.bool (x20 && x1)), .eq (.pointer (some ⟨b1, 3, none⟩)), .eq (.int .i64 p0.C), .eq (.bool (p0.C == 0)), .eq (.bool ((x20 && x1) && (p0.C == 0))), .eq (.bool ((x20 && x1) && (p0.C == 0)))]
                            [(6, .bool ((x20 && x1) && (p0.C == 0)))] mix hF (by kernel_rfl) (by kernel_rfl) (by kernel_rfl) ⟨Pd.mono_eq, Pd.mono_eq, Pd.mono_eq, trivial⟩ (fun hG => ⟨np_loadBox hG hF ty3 rfl rfl (hs.bx 0 rfl) rfl rfl rfl, np_call [.int .i64 p0.A] hG hF Try.call75 rfl rfl (fun w hC hg => (spec_l05Reg_ok p0.A hx20).mono fun e w' ⟨v, he, hv, hc⟩ => ⟨v, he, hc, hv⟩), np_loadBox hG hF ty3 rfl rfl (hs.bx 0 rfl) rfl rfl rfl, trivial⟩) (by kernel_rfl) fun fr w39 hF hE hc => then_normal ?_)
                        have hs := hs.ext hc
                        have hM0 := hM0.ext hc
                        have hs : Sep [] w39 S1 := Sep.pick [] hs (by decide) rfl
                        obtain rfl := Option.some.inj h
                        exact wp_ret (blk_ret (then_ret (ret1 rfl hF rfl ⟨_, rfl, rfl, hM0.chg⟩)))
                      · replace h := iteF hb h
                        refine wp_seq ?_
                        refine wp_seq (wp_pure [(3, .pointer (some ⟨b1, 0, none⟩)), (13, .int .i64 p0.Op), (107, .bool (p0.Op == 12))] hF (by kernel_rfl) fun fr hF => then_normal ?_)
                        refine (wp_if hF (b := (p0.Op == 12)) rfl (fun hb => ?_) (fun hb => ?_))
                        · replace h := iteT hb h
                          refine (wp_skip (then_normal ?_))
                          refine (wp_if hF (b := (p0.Op == 12)) rfl (fun hb => ?_) (fun hb => ?_))
                          · replace h := iteT hb h
                            refine wp_seq (region_b [] [true, false, true, true, true, false, true, true, true, true, false, true, true, true]
                                [.eq (.pointer (some ⟨b1, 1, none⟩)), .eq (.int .i64 p0.A), .eq (.bool (p0.A == 0)), .eq (.bool (p0.A == 0)), .eq (.pointer (some ⟨b1, 2, none⟩)), .eq (.int .i64 p0.B), .eq (.bool (p0.B == 0)), .eq (.bool ((p0.A == 0) && (p0.B == 0))), .eq (.bool ((p0.A == 0) && (p0.B == 0))), .eq (.pointer (some ⟨b1, 3, none⟩)), .eq (.int .i64 p0.C), .eq (.bool (p0.C == 0)), .eq (.bool (((p0.A == 0) && (p0.B == 0)) && (p0.C == 0))), .eq (.bool (((p0.A == 0) && (p0.B == 0)) && (p0.C == 0)))]
                                [(6, .bool (((p0.A == 0) && (p0.B == 0)) && (p0.C == 0)))] mix hF (by kernel_rfl) (by kernel_rfl) (by kernel_rfl) ⟨Pd.mono_eq, Pd.mono_eq, Pd.mono_eq, trivial⟩ (fun hG => ⟨np_loadBox hG hF ty3 rfl rfl (hs.bx 0 rfl) rfl rfl rfl, np_loadBox hG hF ty3 rfl rfl (hs.bx 0 rfl) rfl rfl rfl, np_loadBox hG hF ty3 rfl rfl (hs.bx 0 rfl) rfl rfl rfl, trivial⟩) (by kernel_rfl) fun fr w40 hF hE hc => then_normal ?_)
                            have hs := hs.ext hc
                            have hM0 := hM0.ext hc
                            have hs : Sep [] w40 S1 := Sep.pick [] hs (by decide) rfl
                            obtain rfl := Option.some.inj h
                            exact wp_ret (blk_ret (then_ret (ret1 rfl hF rfl ⟨_, rfl, rfl, hM0.chg⟩)))
                          · replace h := iteF hb h
                            have hs : Sep [] w2 S1 := Sep.pick [] hs (by decide) rfl
                            refine (wp_skip ?_)
                            refine blk_normal (then_normal ?_)
                            refine wp_seq (wp_pure [(6, .bool false)] hF (by kernel_rfl) fun fr hF => then_normal ?_)
                            obtain rfl := Option.some.inj h
                            exact wp_ret (ret1 rfl hF rfl ⟨_, rfl, rfl, hM0.chg⟩)
                        · replace h := iteF hb h
                          refine (wp_pure [(3, .pointer (some ⟨b1, 0, none⟩)), (107, .bool (p0.Op == 14))] hF (by kernel_rfl) fun fr hF => then_normal ?_)
                          refine (wp_if hF (b := (p0.Op == 14)) rfl (fun hb => ?_) (fun hb => ?_))
                          · replace h := iteT hb h
                            refine wp_seq (region_b [] [true, false, true, true, true, false, true, true, true, true, false, true, true, true]
                                [.eq (.pointer (some ⟨b1, 1, none⟩)), .eq (.int .i64 p0.A), .eq (.bool (p0.A == 0)), .eq (.bool (p0.A == 0)), .eq (.pointer (some ⟨b1, 2, none⟩)), .eq (.int .i64 p0.B), .eq (.bool (p0.B == 0)), .eq (.bool ((p0.A == 0) && (p0.B == 0))), .eq (.bool ((p0.A == 0) && (p0.B == 0))), .eq (.pointer (some ⟨b1, 3, none⟩)), .eq (.int .i64 p0.C), .eq (.bool (p0.C == 0)), .eq (.bool (((p0.A == 0) && (p0.B == 0)) && (p0.C == 0))), .eq (.bool (((p0.A == 0) && (p0.B == 0)) && (p0.C == 0)))]
                                [(6, .bool (((p0.A == 0) && (p0.B == 0)) && (p0.C == 0)))] mix hF (by kernel_rfl) (by kernel_rfl) (by kernel_rfl) ⟨Pd.mono_eq, Pd.mono_eq, Pd.mono_eq, trivial⟩ (fun hG => ⟨np_loadBox hG hF ty3 rfl rfl (hs.bx 0 rfl) rfl rfl rfl, np_loadBox hG hF ty3 rfl rfl (hs.bx 0 rfl) rfl rfl rfl, np_loadBox hG hF ty3 rfl rfl (hs.bx 0 rfl) rfl rfl rfl, trivial⟩) (by kernel_rfl) fun fr w41 hF hE hc => then_normal ?_)
                            have hs := hs.ext hc
                            have hM0 := hM0.ext hc
                            have hs : Sep [] w41 S1 := Sep.pick [] hs (by decide) rfl
                            obtain rfl := Option.some.inj h
                            exact wp_ret (blk_ret (then_ret (ret1 rfl hF rfl ⟨_, rfl, rfl, hM0.chg⟩)))
                          · replace h := iteF hb h
                            have hs : Sep [] w2 S1 := Sep.pick [] hs (by decide) rfl
                            refine (wp_skip ?_)
                            refine blk_normal (then_normal ?_)
                            refine wp_seq (wp_pure [(6, .bool false)] hF (by kernel_rfl) fun fr hF => then_normal ?_)
                            obtain rfl := Option.some.inj h
                            exact wp_ret (ret1 rfl hF rfl ⟨_, rfl, rfl, hM0.chg⟩)
    · replace h := iteF hb h
      refine wp_seq (wp_pure [(3, .pointer (some ⟨b1, 0, none⟩)), (7, .bool x1), (13, .int .i64 p0.Op), (30, .bool (p0.Op == 7))] hF (by kernel_rfl) fun fr hF => then_normal ?_)
      refine (wp_if hF (b := (p0.Op == 7)) rfl (fun hb => ?_) (fun hb => ?_))
      · replace h := iteT hb h
        refine (wp_skip (then_normal ?_))
        refine (wp_if hF (b := (p0.Op == 7)) rfl (fun hb => ?_) (fun hb => ?_))
        · replace h := iteT hb h
          obtain ⟨x21, hx21, h⟩ := bindE h
          obtain ⟨x22, hx22, h⟩ := bindE h
          refine wp_seq (region_b [] [true, false, false, true, true, false, false, true, true, true, false, true, true, true]
              [.eq (.pointer (some ⟨b1, 1, none⟩)), .eq (.int .i64 p0.A), .eq (.bool x21), .eq (.bool x21), .eq (.pointer (some ⟨b1, 2, none⟩)), .eq (.int .i64 p0.B), .eq (.bool x22), .eq (.bool (x21 && x22)), .eq (.bool (x21 && x22)), .eq (.pointer (some ⟨b1, 3, none⟩)), .eq (.int .i64 p0.C), .eq (.bool (p0.C == 0)), .eq (.bool ((x21 && x22) && (p0.C == 0))), .eq (.bool ((x21 && x22) && (p0.C == 0)))]
              [(6, .bool ((x21 && x22) && (p0.C == 0)))] mix hF (by kernel_rfl) (by kernel_rfl) (by kernel_rfl) ⟨Pd.mono_eq, Pd.mono_eq, Pd.mono_eq, Pd.mono_eq, Pd.mono_eq, trivial⟩ (fun hG => ⟨np_loadBox hG hF ty3 rfl rfl (hs.bx 0 rfl) rfl rfl rfl, np_call [.int .i64 p0.A] hG hF Try.call75 rfl rfl (fun w hC hg => (spec_l05Reg_ok p0.A hx21).mono fun e w' ⟨v, he, hv, hc⟩ => ⟨v, he, hc, hv⟩), np_loadBox hG hF ty3 rfl rfl (hs.bx 0 rfl) rfl rfl rfl, np_call [.int .i64 p0.B] hG hF Try.call75 rfl rfl (fun w hC hg => (spec_l05Reg_ok p0.B (iteT hg.2 hx22)).mono fun e w' ⟨v, he, hv, hc⟩ => ⟨v, he, hc, hv⟩), np_loadBox hG hF ty3 rfl rfl (hs.bx 0 rfl) rfl rfl rfl, trivial⟩) (by kernel_rfl) fun fr w42 hF hE hc => then_normal ?_)
          have hs := hs.ext hc
          have hM0 := hM0.ext hc
          have hs : Sep [] w42 S1 := Sep.pick [] hs (by decide) rfl
          obtain rfl := Option.some.inj h
          exact wp_ret (blk_ret (then_ret (ret1 rfl hF rfl ⟨_, rfl, rfl, hM0.chg⟩)))
        · replace h := iteF hb h
          refine wp_seq (wp_pure [(3, .pointer (some ⟨b1, 0, none⟩)), (7, .bool x1), (13, .int .i64 p0.Op), (47, .bool (p0.Op == 3))] hF (by kernel_rfl) fun fr hF => then_normal ?_)
          refine (wp_if hF (b := (p0.Op == 3)) rfl (fun hb => ?_) (fun hb => ?_))
          · replace h := iteT hb h
            obtain ⟨x23, hx23, h⟩ := bindE h
            obtain ⟨x24, hx24, h⟩ := bindE h
            obtain ⟨x25, hx25, h⟩ := bindE h
            refine wp_seq (region_b [] [true, false, false, true, true, false, false, true, true, true, false, false, true, true]
                [.eq (.pointer (some ⟨b1, 1, none⟩)), .eq (.int .i64 p0.A), .eq (.bool x23), .eq (.bool x23), .eq (.pointer (some ⟨b1, 2, none⟩)), .eq (.int .i64 p0.B), .eq (.bool x24), .eq (.bool (x23 && x24)), .eq (.bool (x23 && x24)), .eq (.pointer (some ⟨b1, 3, none⟩)), .eq (.int .i64 p0.C), .eq (.bool x25), .eq (.bool ((x23 && x24) && x25)), .eq (.bool ((x23 && x24) && x25))]
                [(6, .bool ((x23 && x24) && x25))] mix hF (by kernel_rfl) (by kernel_rfl) (by kernel_rfl) ⟨Pd.mono_eq, Pd.mono_eq, Pd.mono_eq, Pd.mono_eq, Pd.mono_eq, Pd.mono_eq, trivial⟩ (fun hG => ⟨np_loadBox hG hF ty3 rfl rfl (hs.bx 0 rfl) rfl rfl rfl, np_call [.int .i64 p0.A] hG hF Try.call75 rfl rfl (fun w hC hg => (spec_l05Reg_ok p0.A hx23).mono fun e w' ⟨v, he, hv, hc⟩ => ⟨v, he, hc, hv⟩), np_loadBox hG hF ty3 rfl rfl (hs.bx 0 rfl) rfl rfl rfl, np_call [.int .i64 p0.B] hG hF Try.call75 rfl rfl (fun w hC hg => (spec_l05Reg_ok p0.B (iteT hg.2 hx24)).mono fun e w' ⟨v, he, hv, hc⟩ => ⟨v, he, hc, hv⟩), np_loadBox hG hF ty3 rfl rfl (hs.bx 0 rfl) rfl rfl rfl, np_call [.int .i64 p0.C, .int .i64 3, .int .i64 16] hG hF Try.call52 rfl rfl (fun w hC hg => (spec_l01In_ok p0.C 3 16 (iteT hg.2 hx25)).mono fun e w' ⟨v, he, hv, hc⟩ => ⟨v, he, hc, hv⟩), trivial⟩) (by kernel_rfl) fun fr w43 hF hE hc => then_normal ?_)
            have hs := hs.ext hc
            have hM0 := hM0.ext hc
            have hs : Sep [] w43 S1 := Sep.pick [] hs (by decide) rfl
            obtain rfl := Option.some.inj h
            exact wp_ret (blk_ret (then_ret (ret1 rfl hF rfl ⟨_, rfl, rfl, hM0.chg⟩)))
          · replace h := iteF hb h
            refine wp_seq ?_
            refine wp_seq (wp_pure [(3, .pointer (some ⟨b1, 0, none⟩)), (7, .bool x1), (13, .int .i64 p0.Op), (62, .bool (p0.Op == 4))] hF (by kernel_rfl) fun fr hF => then_normal ?_)
            refine (wp_if hF (b := (p0.Op == 4)) rfl (fun hb => ?_) (fun hb => ?_))
            · replace h := iteT hb h
              refine (wp_skip (then_normal ?_))
              refine (wp_if hF (b := (p0.Op == 4)) rfl (fun hb => ?_) (fun hb => ?_))
              · replace h := iteT hb h
                obtain ⟨x26, hx26, h⟩ := bindE h
                refine wp_seq (region_b [] [true, false, false, true, true, false, true, true, true, true, false, true, true, true]
                    [.eq (.pointer (some ⟨b1, 1, none⟩)), .eq (.int .i64 p0.A), .eq (.bool x26), .eq (.bool x26), .eq (.pointer (some ⟨b1, 2, none⟩)), .eq (.int .i64 p0.B), .eq (.bool (p0.B == 0)), .eq (.bool (x26 && (p0.B == 0))), .eq (.bool (x26 && (p0.B == 0))), .eq (.pointer (some ⟨b1, 3, none⟩)), .eq (.int .i64 p0.C), .eq (.bool (p0.C == 0)), .eq (.bool ((x26 && (p0.B == 0)) && (p0.C == 0))), .eq (.bool ((x26 && (p0.B == 0)) && (p0.C == 0)))]
                    [(6, .bool ((x26 && (p0.B == 0)) && (p0.C == 0)))] mix hF (by kernel_rfl) (by kernel_rfl) (by kernel_rfl) ⟨Pd.mono_eq, Pd.mono_eq, Pd.mono_eq, Pd.mono_eq, trivial⟩ (fun hG => ⟨np_loadBox hG hF ty3 rfl rfl (hs.bx 0 rfl) rfl rfl rfl, np_call [.int .i64 p0.A] hG hF Try.call75 rfl rfl (fun w hC hg => (spec_l05Reg_ok p0.A hx26).mono fun e w' ⟨v, he, hv, hc⟩ => ⟨v, he, hc, hv⟩), np_loadBox hG hF ty3 rfl rfl (hs.bx 0 rfl) rfl rfl rfl, np_loadBox hG hF ty3 rfl rfl (hs.bx 0 rfl) rfl rfl rfl, trivial⟩) (by kernel_rfl) fun fr w44 hF hE hc => then_normal ?_)
                have hs := hs.ext hc
                have hM0 := hM0.ext hc
                have hs : Sep [] w44 S1 := Sep.pick [] hs (by decide) rfl
                obtain rfl := Option.some.inj h
                exact wp_ret (blk_ret (then_ret (ret1 rfl hF rfl ⟨_, rfl, rfl, hM0.chg⟩)))
              · replace h := iteF hb h
                refine wp_seq ?_
                refine wp_seq (wp_pure [(3, .pointer (some ⟨b1, 0, none⟩)), (7, .bool x1), (13, .int .i64 p0.Op), (80, .bool (p0.Op == 9))] hF (by kernel_rfl) fun fr hF => then_normal ?_)
                refine (wp_if hF (b := (p0.Op == 9)) rfl (fun hb => ?_) (fun hb => ?_))
                · replace h := iteT hb h
                  refine (wp_skip (then_normal ?_))
                  refine (wp_if hF (b := (p0.Op == 9)) rfl (fun hb => ?_) (fun hb => ?_))
                  · replace h := iteT hb h
                    refine wp_seq (region_b [] [true, false, true, true, true, true, true, true, false, true, true, true]
                        [.eq (.pointer (some ⟨b1, 1, none⟩)), .eq (.int .i64 p0.A), .eq (.bool (p0.A == 0)), .eq (.bool (p0.A == 0)), .eq (.bool x1), .eq (.bool ((p0.A == 0) && x1)), .eq (.bool ((p0.A == 0) && x1)), .eq (.pointer (some ⟨b1, 3, none⟩)), .eq (.int .i64 p0.C), .eq (.bool (p0.C == 0)), .eq (.bool (((p0.A == 0) && x1) && (p0.C == 0))), .eq (.bool (((p0.A == 0) && x1) && (p0.C == 0)))]
                        [(6, .bool (((p0.A == 0) && x1) && (p0.C == 0)))] mix hF (by kernel_rfl) (by kernel_rfl) (by kernel_rfl) ⟨Pd.mono_eq, Pd.mono_eq, trivial⟩ (fun hG => ⟨np_loadBox hG hF ty3 rfl rfl (hs.bx 0 rfl) rfl rfl rfl, np_loadBox hG hF ty3 rfl rfl (hs.bx 0 rfl) rfl rfl rfl, trivial⟩) (by kernel_rfl) fun fr w45 hF hE hc => then_normal ?_)
                    have hs := hs.ext hc
                    have hM0 := hM0.ext hc
                    have hs : Sep [] w45 S1 := Sep.pick [] hs (by decide) rfl
                    obtain rfl := Option.some.inj h
                    exact wp_ret (blk_ret (then_ret (ret1 rfl hF rfl ⟨_, rfl, rfl, hM0.chg⟩)))
                  · replace h := iteF hb h
                    refine wp_seq (wp_pure [(3, .pointer (some ⟨b1, 0, none⟩)), (7, .bool x1), (13, .int .i64 p0.Op), (94, .bool (p0.Op == 10))] hF (by kernel_rfl) fun fr hF => then_normal ?_)
                    refine (wp_if hF (b := (p0.Op == 10)) rfl (fun hb => ?_) (fun hb => ?_))
                    · replace h := iteT hb h
                      obtain ⟨x27, hx27, h⟩ := bindE h
                      refine wp_seq (region_b [] [true, false, false, true, true, true, true, true, false, true, true, true]
                          [.eq (.pointer (some ⟨b1, 1, none⟩)), .eq (.int .i64 p0.A), .eq (.bool x27), .eq (.bool x27), .eq (.bool x1), .eq (.bool (x27 && x1)), .eq (.bool (x27 && x1)), .eq (.pointer (some ⟨b1, 3, none⟩)), .eq (.int .i64 p0.C), .eq (.bool (p0.C == 0)), .eq (.bool ((x27 && x1) && (p0.C == 0))), .eq (.bool ((x27 && x1) && (p0.C == 0)))]
                          [(6, .bool ((x27 && x1) && (p0.C == 0)))] mix hF (by kernel_rfl) (by kernel_rfl) (by kernel_rfl) ⟨Pd.mono_eq, Pd.mono_eq, Pd.mono_eq, trivial⟩ (fun hG => ⟨np_loadBox hG hF ty3 rfl rfl (hs.bx 0 rfl) rfl rfl rfl, np_call [.int .i64 p0.A] hG hF Try.call75 rfl rfl (fun w hC hg => (spec_l05Reg_ok p0.A hx27).mono fun e w' ⟨v, he, hv, hc⟩ => ⟨v, he, hc, hv⟩), np_loadBox hG hF ty3 rfl rfl (hs.bx 0 rfl) rfl rfl rfl, trivial⟩) (by kernel_rfl) fun fr w46 hF hE hc => then_normal ?_)
                      have hs := hs.ext hc
                      have hM0 := hM0.ext hc
                      have hs : Sep [] w46 S1 := Sep.pick [] hs (by decide) rfl
                      obtain rfl := Option.some.inj h
                      exact wp_ret (blk_ret (then_ret (ret1 rfl hF rfl ⟨_, rfl, rfl, hM0.chg⟩)))
                    · replace h := iteF hb h
                      refine wp_seq ?_
                      refine wp_seq (wp_pure [(3, .pointer (some ⟨b1, 0, none⟩)), (13, .int .i64 p0.Op), (107, .bool (p0.Op == 12))] hF (by kernel_rfl) fun fr hF => then_normal ?_)
                      refine (wp_if hF (b := (p0.Op == 12)) rfl (fun hb => ?_) (fun hb => ?_))
                      · replace h := iteT hb h
                        refine (wp_skip (then_normal ?_))
                        refine (wp_if hF (b := (p0.Op == 12)) rfl (fun hb => ?_) (fun hb => ?_))
                        · replace h := iteT hb h
                          refine wp_seq (region_b [] [true, false, true, true, true, false, true, true, true, true, false, true, true, true]
                              [.eq (.pointer (some ⟨b1, 1, none⟩)), .eq (.int .i64 p0.A), .eq (.bool (p0.A == 0)), .eq (.bool (p0.A == 0)), .eq (.pointer (some ⟨b1, 2, none⟩)), .eq (.int .i64 p0.B), .eq (.bool (p0.B == 0)), .eq (.bool ((p0.A == 0) && (p0.B == 0))), .eq (.bool ((p0.A == 0) && (p0.B == 0))), .eq (.pointer (some ⟨b1, 3, none⟩)), .eq (.int .i64 p0.C), .eq (.bool (p0.C == 0)), .eq (.bool (((p0.A == 0) && (p0.B == 0)) && (p0.C == 0))), .eq (.bool (((p0.A == 0) && (p0.B == 0)) && (p0.C == 0)))]
                              [(6, .bool (((p0.A == 0) && (p0.B == 0)) && (p0.C == 0)))] mix hF (by kernel_rfl) (by kernel_rfl) (by kernel_rfl) ⟨Pd.mono_eq, Pd.mono_eq, Pd.mono_eq, trivial⟩ (fun hG => ⟨np_loadBox hG hF ty3 rfl rfl (hs.bx 0 rfl) rfl rfl rfl, np_loadBox hG hF ty3 rfl rfl (hs.bx 0 rfl) rfl rfl rfl, np_loadBox hG hF ty3 rfl rfl (hs.bx 0 rfl) rfl rfl rfl, trivial⟩) (by kernel_rfl) fun fr w47 hF hE hc => then_normal ?_)
                          have hs := hs.ext hc
                          have hM0 := hM0.ext hc
                          have hs : Sep [] w47 S1 := Sep.pick [] hs (by decide) rfl
                          obtain rfl := Option.some.inj h
                          exact wp_ret (blk_ret (then_ret (ret1 rfl hF rfl ⟨_, rfl, rfl, hM0.chg⟩)))
                        · replace h := iteF hb h
                          have hs : Sep [] w2 S1 := Sep.pick [] hs (by decide) rfl
                          refine (wp_skip ?_)
                          refine blk_normal (then_normal ?_)
                          refine wp_seq (wp_pure [(6, .bool false)] hF (by kernel_rfl) fun fr hF => then_normal ?_)
                          obtain rfl := Option.some.inj h
                          exact wp_ret (ret1 rfl hF rfl ⟨_, rfl, rfl, hM0.chg⟩)
                      · replace h := iteF hb h
                        refine (wp_pure [(3, .pointer (some ⟨b1, 0, none⟩)), (107, .bool (p0.Op == 14))] hF (by kernel_rfl) fun fr hF => then_normal ?_)
                        refine (wp_if hF (b := (p0.Op == 14)) rfl (fun hb => ?_) (fun hb => ?_))
                        · replace h := iteT hb h
                          refine wp_seq (region_b [] [true, false, true, true, true, false, true, true, true, true, false, true, true, true]
                              [.eq (.pointer (some ⟨b1, 1, none⟩)), .eq (.int .i64 p0.A), .eq (.bool (p0.A == 0)), .eq (.bool (p0.A == 0)), .eq (.pointer (some ⟨b1, 2, none⟩)), .eq (.int .i64 p0.B), .eq (.bool (p0.B == 0)), .eq (.bool ((p0.A == 0) && (p0.B == 0))), .eq (.bool ((p0.A == 0) && (p0.B == 0))), .eq (.pointer (some ⟨b1, 3, none⟩)), .eq (.int .i64 p0.C), .eq (.bool (p0.C == 0)), .eq (.bool (((p0.A == 0) && (p0.B == 0)) && (p0.C == 0))), .eq (.bool (((p0.A == 0) && (p0.B == 0)) && (p0.C == 0)))]
                              [(6, .bool (((p0.A == 0) && (p0.B == 0)) && (p0.C == 0)))] mix hF (by kernel_rfl) (by kernel_rfl) (by kernel_rfl) ⟨Pd.mono_eq, Pd.mono_eq, Pd.mono_eq, trivial⟩ (fun hG => ⟨np_loadBox hG hF ty3 rfl rfl (hs.bx 0 rfl) rfl rfl rfl, np_loadBox hG hF ty3 rfl rfl (hs.bx 0 rfl) rfl rfl rfl, np_loadBox hG hF ty3 rfl rfl (hs.bx 0 rfl) rfl rfl rfl, trivial⟩) (by kernel_rfl) fun fr w48 hF hE hc => then_normal ?_)
                          have hs := hs.ext hc
                          have hM0 := hM0.ext hc
                          have hs : Sep [] w48 S1 := Sep.pick [] hs (by decide) rfl
                          obtain rfl := Option.some.inj h
                          exact wp_ret (blk_ret (then_ret (ret1 rfl hF rfl ⟨_, rfl, rfl, hM0.chg⟩)))
                        · replace h := iteF hb h
                          have hs : Sep [] w2 S1 := Sep.pick [] hs (by decide) rfl
                          refine (wp_skip ?_)
                          refine blk_normal (then_normal ?_)
                          refine wp_seq (wp_pure [(6, .bool false)] hF (by kernel_rfl) fun fr hF => then_normal ?_)
                          obtain rfl := Option.some.inj h
                          exact wp_ret (ret1 rfl hF rfl ⟨_, rfl, rfl, hM0.chg⟩)
                · replace h := iteF hb h
                  refine (wp_pure [(3, .pointer (some ⟨b1, 0, none⟩)), (7, .bool x1), (13, .int .i64 p0.Op), (80, .bool (p0.Op == 11))] hF (by kernel_rfl) fun fr hF => then_normal ?_)
                  refine (wp_if hF (b := (p0.Op == 11)) rfl (fun hb => ?_) (fun hb => ?_))
                  · replace h := iteT hb h
                    refine wp_seq (region_b [] [true, false, true, true, true, true, true, true, false, true, true, true]
                        [.eq (.pointer (some ⟨b1, 1, none⟩)), .eq (.int .i64 p0.A), .eq (.bool (p0.A == 0)), .eq (.bool (p0.A == 0)), .eq (.bool x1), .eq (.bool ((p0.A == 0) && x1)), .eq (.bool ((p0.A == 0) && x1)), .eq (.pointer (some ⟨b1, 3, none⟩)), .eq (.int .i64 p0.C), .eq (.bool (p0.C == 0)), .eq (.bool (((p0.A == 0) && x1) && (p0.C == 0))), .eq (.bool (((p0.A == 0) && x1) && (p0.C == 0)))]
                        [(6, .bool (((p0.A == 0) && x1) && (p0.C == 0)))] mix hF (by kernel_rfl) (by kernel_rfl) (by kernel_rfl) ⟨Pd.mono_eq, Pd.mono_eq, trivial⟩ (fun hG => ⟨np_loadBox hG hF ty3 rfl rfl (hs.bx 0 rfl) rfl rfl rfl, np_loadBox hG hF ty3 rfl rfl (hs.bx 0 rfl) rfl rfl rfl, trivial⟩) (by kernel_rfl) fun fr w49 hF hE hc => then_normal ?_)
                    have hs := hs.ext hc
                    have hM0 := hM0.ext hc
                    have hs : Sep [] w49 S1 := Sep.pick [] hs (by decide) rfl
                    obtain rfl := Option.some.inj h
                    exact wp_ret (blk_ret (then_ret (ret1 rfl hF rfl ⟨_, rfl, rfl, hM0.chg⟩)))
                  · replace h := iteF hb h
                    refine wp_seq (wp_pure [(3, .pointer (some ⟨b1, 0, none⟩)), (7, .bool x1), (13, .int .i64 p0.Op), (94, .bool (p0.Op == 10))] hF (by kernel_rfl) fun fr hF => then_normal ?_)
                    refine (wp_if hF (b := (p0.Op == 10)) rfl (fun hb => ?_) (fun hb => ?_))
                    · replace h := iteT hb h
                      obtain ⟨x28, hx28, h⟩ := bindE h
                      refine wp_seq (region_b [] [true, false, false, true, true, true, true, true, false, true, true, true]
                          [.eq (.pointer (some ⟨b1, 1, none⟩)), .eq (.int .i64 p0.A), .eq (.bool x28), .eq (.bool x28), .eq (.bool x1), .eq (.bool (x28 && x1)), .eq (.bool (x28 && x1)), .eq (.pointer (some ⟨b1, 3, none⟩)), .eq (.int .i64 p0.C), .eq (.bool (p0.C == 0)), .eq (.bool ((x28 && x1) && (p0.C == 0))), .eq (.bool ((x28 && x1) && (p0.C == 0)))]
                          [(6, .bool ((x28 && x1) && (p0.C == 0)))] mix hF (by kernel_rfl) (by kernel_rfl) (by kernel_rfl) ⟨Pd.mono_eq, Pd.mono_eq, Pd.mono_eq, trivial⟩ (fun hG => ⟨np_loadBox hG hF ty3 rfl rfl (hs.bx 0 rfl) rfl rfl rfl, np_call [.int .i64 p0.A] hG hF Try.call75 rfl rfl (fun w hC hg => (spec_l05Reg_ok p0.A hx28).mono fun e w' ⟨v, he, hv, hc⟩ => ⟨v, he, hc, hv⟩), np_loadBox hG hF ty3 rfl rfl (hs.bx 0 rfl) rfl rfl rfl, trivial⟩) (by kernel_rfl) fun fr w50 hF hE hc => then_normal ?_)
                      have hs := hs.ext hc
                      have hM0 := hM0.ext hc
                      have hs : Sep [] w50 S1 := Sep.pick [] hs (by decide) rfl
                      obtain rfl := Option.some.inj h
                      exact wp_ret (blk_ret (then_ret (ret1 rfl hF rfl ⟨_, rfl, rfl, hM0.chg⟩)))
                    · replace h := iteF hb h
                      refine wp_seq ?_
                      refine wp_seq (wp_pure [(3, .pointer (some ⟨b1, 0, none⟩)), (13, .int .i64 p0.Op), (107, .bool (p0.Op == 12))] hF (by kernel_rfl) fun fr hF => then_normal ?_)
                      refine (wp_if hF (b := (p0.Op == 12)) rfl (fun hb => ?_) (fun hb => ?_))
                      · replace h := iteT hb h
                        refine (wp_skip (then_normal ?_))
                        refine (wp_if hF (b := (p0.Op == 12)) rfl (fun hb => ?_) (fun hb => ?_))
                        · replace h := iteT hb h
                          refine wp_seq (region_b [] [true, false, true, true, true, false, true, true, true, true, false, true, true, true]
                              [.eq (.pointer (some ⟨b1, 1, none⟩)), .eq (.int .i64 p0.A), .eq (.bool (p0.A == 0)), .eq (.bool (p0.A == 0)), .eq (.pointer (some ⟨b1, 2, none⟩)), .eq (.int .i64 p0.B), .eq (.bool (p0.B == 0)), .eq (.bool ((p0.A == 0) && (p0.B == 0))), .eq (.bool ((p0.A == 0) && (p0.B == 0))), .eq (.pointer (some ⟨b1, 3, none⟩)), .eq (.int .i64 p0.C), .eq (.bool (p0.C == 0)), .eq (.bool (((p0.A == 0) && (p0.B == 0)) && (p0.C == 0))), .eq (.bool (((p0.A == 0) && (p0.B == 0)) && (p0.C == 0)))]
                              [(6, .bool (((p0.A == 0) && (p0.B == 0)) && (p0.C == 0)))] mix hF (by kernel_rfl) (by kernel_rfl) (by kernel_rfl) ⟨Pd.mono_eq, Pd.mono_eq, Pd.mono_eq, trivial⟩ (fun hG => ⟨np_loadBox hG hF ty3 rfl rfl (hs.bx 0 rfl) rfl rfl rfl, np_loadBox hG hF ty3 rfl rfl (hs.bx 0 rfl) rfl rfl rfl, np_loadBox hG hF ty3 rfl rfl (hs.bx 0 rfl) rfl rfl rfl, trivial⟩) (by kernel_rfl) fun fr w51 hF hE hc => then_normal ?_)
                          have hs := hs.ext hc
                          have hM0 := hM0.ext hc
                          have hs : Sep [] w51 S1 := Sep.pick [] hs (by decide) rfl
                          obtain rfl := Option.some.inj h
                          exact wp_ret (blk_ret (then_ret (ret1 rfl hF rfl ⟨_, rfl, rfl, hM0.chg⟩)))
                        · replace h := iteF hb h
                          have hs : Sep [] w2 S1 := Sep.pick [] hs (by decide) rfl
                          refine (wp_skip ?_)
                          refine blk_normal (then_normal ?_)
                          refine wp_seq (wp_pure [(6, .bool false)] hF (by kernel_rfl) fun fr hF => then_normal ?_)
                          obtain rfl := Option.some.inj h
                          exact wp_ret (ret1 rfl hF rfl ⟨_, rfl, rfl, hM0.chg⟩)
                      · replace h := iteF hb h
                        refine (wp_pure [(3, .pointer (some ⟨b1, 0, none⟩)), (107, .bool (p0.Op == 14))] hF (by kernel_rfl) fun fr hF => then_normal ?_)
                        refine (wp_if hF (b := (p0.Op == 14)) rfl (fun hb => ?_) (fun hb => ?_))
                        · replace h := iteT hb h
                          refine wp_seq (region_b [] [true, false, true, true, true, false, true, true, true, true, false, true, true, true]
                              [.eq (.pointer (some ⟨b1, 1, none⟩)), .eq (.int .i64 p0.A), .eq (.bool (p0.A == 0)), .eq (.bool (p0.A == 0)), .eq (.pointer (some ⟨b1, 2, none⟩)), .eq (.int .i64 p0.B), .eq (.bool (p0.B == 0)), .eq (.bool ((p0.A == 0) && (p0.B == 0))), .eq (.bool ((p0.A == 0) && (p0.B == 0))), .eq (.pointer (some ⟨b1, 3, none⟩)), .eq (.int .i64 p0.C), .eq (.bool (p0.C == 0)), .eq (.bool (((p0.A == 0) && (p0.B == 0)) && (p0.C == 0))), .eq (.bool (((p0.A == 0) && (p0.B == 0)) && (p0.C == 0)))]
                              [(6, .bool (((p0.A == 0) && (p0.B == 0)) && (p0.C == 0)))] mix hF (by kernel_rfl) (by kernel_rfl) (by kernel_rfl) ⟨Pd.mono_eq, Pd.mono_eq, Pd.mono_eq, trivial⟩ (fun hG => ⟨np_loadBox hG hF ty3 rfl rfl (hs.bx 0 rfl) rfl rfl rfl, np_loadBox hG hF ty3 rfl rfl (hs.bx 0 rfl) rfl rfl rfl, np_loadBox hG hF ty3 rfl rfl (hs.bx 0 rfl) rfl rfl rfl, trivial⟩) (by kernel_rfl) fun fr w52 hF hE hc => then_normal ?_)
                          have hs := hs.ext hc
                          have hM0 := hM0.ext hc
                          have hs : Sep [] w52 S1 := Sep.pick [] hs (by decide) rfl
                          obtain rfl := Option.some.inj h
                          exact wp_ret (blk_ret (then_ret (ret1 rfl hF rfl ⟨_, rfl, rfl, hM0.chg⟩)))
                        · replace h := iteF hb h
                          have hs : Sep [] w2 S1 := Sep.pick [] hs (by decide) rfl
                          refine (wp_skip ?_)
                          refine blk_normal (then_normal ?_)
                          refine wp_seq (wp_pure [(6, .bool false)] hF (by kernel_rfl) fun fr hF => then_normal ?_)
                          obtain rfl := Option.some.inj h
                          exact wp_ret (ret1 rfl hF rfl ⟨_, rfl, rfl, hM0.chg⟩)
            · replace h := iteF hb h
              refine wp_seq (wp_pure [(3, .pointer (some ⟨b1, 0, none⟩)), (7, .bool x1), (13, .int .i64 p0.Op), (62, .bool (p0.Op == 5))] hF (by kernel_rfl) fun fr hF => then_normal ?_)
              refine (wp_if hF (b := (p0.Op == 5)) rfl (fun hb => ?_) (fun hb => ?_))
              · replace h := iteT hb h
                refine (wp_skip (then_normal ?_))
                refine (wp_if hF (b := (p0.Op == 5)) rfl (fun hb => ?_) (fun hb => ?_))
                · replace h := iteT hb h
                  obtain ⟨x29, hx29, h⟩ := bindE h
                  refine wp_seq (region_b [] [true, false, false, true, true, false, true, true, true, true, false, true, true, true]
                      [.eq (.pointer (some ⟨b1, 1, none⟩)), .eq (.int .i64 p0.A), .eq (.bool x29), .eq (.bool x29), .eq (.pointer (some ⟨b1, 2, none⟩)), .eq (.int .i64 p0.B), .eq (.bool (p0.B == 0)), .eq (.bool (x29 && (p0.B == 0))), .eq (.bool (x29 && (p0.B == 0))), .eq (.pointer (some ⟨b1, 3, none⟩)), .eq (.int .i64 p0.C), .eq (.bool (p0.C == 0)), .eq (.bool ((x29 && (p0.B == 0)) && (p0.C == 0))), .eq (.bool ((x29 && (p0.B == 0)) && (p0.C == 0)))]
                      [(6, .bool ((x29 && (p0.B == 0)) && (p0.C == 0)))] mix hF (by kernel_rfl) (by kernel_rfl) (by kernel_rfl) ⟨Pd.mono_eq, Pd.mono_eq, Pd.mono_eq, Pd.mono_eq, trivial⟩ (fun hG => ⟨np_loadBox hG hF ty3 rfl rfl (hs.bx 0 rfl) rfl rfl rfl, np_call [.int .i64 p0.A] hG hF Try.call75 rfl rfl (fun w hC hg => (spec_l05Reg_ok p0.A hx29).mono fun e w' ⟨v, he, hv, hc⟩ => ⟨v, he, hc, hv⟩), np_loadBox hG hF ty3 rfl rfl (hs.bx 0 rfl) rfl rfl rfl, np_loadBox hG hF ty3 rfl rfl (hs.bx 0 rfl) rfl rfl rfl, trivial⟩) (by kernel_rfl) fun fr w53 hF hE hc => then_normal ?_)
                  have hs := hs.ext hc
                  have hM0 := hM0.ext hc
                  have hs : Sep [] w53 S1 := Sep.pick [] hs (by decide) rfl
                  obtain rfl := Option.some.inj h
                  exact wp_ret (blk_ret (then_ret (ret1 rfl hF rfl ⟨_, rfl, rfl, hM0.chg⟩)))
                · replace h := iteF hb h
                  refine wp_seq ?_
                  refine wp_seq (wp_pure [(3, .pointer (some ⟨b1, 0, none⟩)), (7, .bool x1), (13, .int .i64 p0.Op), (80, .bool (p0.Op == 9))] hF (by kernel_rfl) fun fr hF => then_normal ?_)
                  refine (wp_if hF (b := (p0.Op == 9)) rfl (fun hb => ?_) (fun hb => ?_))
                  · replace h := iteT hb h
                    refine (wp_skip (then_normal ?_))
                    refine (wp_if hF (b := (p0.Op == 9)) rfl (fun hb => ?_) (fun hb => ?_))
                    · replace h := iteT hb h
                      refine wp_seq (region_b [] [true, false, true, true, true, true, true, true, false, true, true, true]
                          [.eq (.pointer (some ⟨b1, 1, none⟩)), .eq (.int .i64 p0.A), .eq (.bool (p0.A == 0)), .eq (.bool (p0.A == 0)), .eq (.bool x1), .eq (.bool ((p0.A == 0) && x1)), .eq (.bool ((p0.A == 0) && x1)), .eq (.pointer (some ⟨b1, 3, none⟩)), .eq (.int .i64 p0.C), .eq (.bool (p0.C == 0)), .eq (.bool (((p0.A == 0) && x1) && (p0.C == 0))), .eq (.bool (((p0.A == 0) && x1) && (p0.C == 0)))]
                          [(6, .bool (((p0.A == 0) && x1) && (p0.C == 0)))] mix hF (by kernel_rfl) (by kernel_rfl) (by kernel_rfl) ⟨Pd.mono_eq, Pd.mono_eq, trivial⟩ (fun hG => ⟨np_loadBox hG hF ty3 rfl rfl (hs.bx 0 rfl) rfl rfl rfl, np_loadBox hG hF ty3 rfl rfl (hs.bx 0 rfl) rfl rfl rfl, trivial⟩) (by kernel_rfl) fun fr w54 hF hE hc => then_normal ?_)
                      have hs := hs.ext hc
                      have hM0 := hM0.ext hc
                      have hs : Sep [] w54 S1 := Sep.pick [] hs (by decide) rfl
                      obtain rfl := Option.some.inj h
                      exact wp_ret (blk_ret (then_ret (ret1 rfl hF rfl ⟨_, rfl, rfl, hM0.chg⟩)))
                    · replace h := iteF hb h
                      refine wp_seq (wp_pure [(3, .pointer (some ⟨b1, 0, none⟩)), (7, .bool x1), (13, .int .i64 p0.Op), (94, .bool (p0.Op == 10))] hF (by kernel_rfl) fun fr hF => then_normal ?_)
                      refine (wp_if hF (b := (p0.Op == 10)) rfl (fun hb => ?_) (fun hb => ?_))
                      · replace h := iteT hb h
                        obtain ⟨x30, hx30, h⟩ := bindE h
                        refine wp_seq (region_b [] [true, false, false, true, true, true, true, true, false, true, true, true]
                            [.eq (.pointer (some ⟨b1, 1, none⟩)), .eq (.int .i64 p0.A), .eq (.bool x30), .eq (.bool x30), .eq (.bool x1), .eq (.bool (x30 && x1)), .eq (.bool (x30 && x1)), .eq (.pointer (some ⟨b1, 3, none⟩)), .eq (.int .i64 p0.C), .eq (.bool (p0.C == 0)), .eq (.bool ((x30 && x1) && (p0.C == 0))), .eq (.bool ((x30 && x1) && (p0.C == 0)))]
                            [(6, .bool ((x30 && x1) && (p0.C == 0)))] mix hF (by kernel_rfl) (by kernel_rfl) (by kernel_rfl) ⟨Pd.mono_eq, Pd.mono_eq, Pd.mono_eq, trivial⟩ (fun hG => ⟨np_loadBox hG hF ty3 rfl rfl (hs.bx 0 rfl) rfl rfl rfl, np_call [.int .i64 p0.A] hG hF Try.call75 rfl rfl (fun w hC hg => (spec_l05Reg_ok p0.A hx30).mono fun e w' ⟨v, he, hv, hc⟩ => ⟨v, he, hc, hv⟩), np_loadBox hG hF ty3 rfl rfl (hs.bx 0 rfl) rfl rfl rfl, trivial⟩) (by kernel_rfl) fun fr w55 hF hE hc => then_normal ?_)
                        have hs := hs.ext hc
                        have hM0 := hM0.ext hc
                        have hs : Sep [] w55 S1 := Sep.pick [] hs (by decide) rfl
                        obtain rfl := Option.some.inj h
                        exact wp_ret (blk_ret (then_ret (ret1 rfl hF rfl ⟨_, rfl, rfl, hM0.chg⟩)))
                      · replace h := iteF hb h
                        refine wp_seq ?_
                        refine wp_seq (wp_pure [(3, .pointer (some ⟨b1, 0, none⟩)), (13, .int .i64 p0.Op), (107, .bool (p0.Op == 12))] hF (by kernel_rfl) fun fr hF => then_normal ?_)
                        refine (wp_if hF (b := (p0.Op == 12)) rfl (fun hb => ?_) (fun hb => ?_))
                        · replace h := iteT hb h
                          refine (wp_skip (then_normal ?_))
                          refine (wp_if hF (b := (p0.Op == 12)) rfl (fun hb => ?_) (fun hb => ?_))
                          · replace h := iteT hb h
                            refine wp_seq (region_b [] [true, false, true, true, true, false, true, true, true, true, false, true, true, true]
                                [.eq (.pointer (some ⟨b1, 1, none⟩)), .eq (.int .i64 p0.A), .eq (.bool (p0.A == 0)), .eq (.bool (p0.A == 0)), .eq (.pointer (some ⟨b1, 2, none⟩)), .eq (.int .i64 p0.B), .eq (.bool (p0.B == 0)), .eq (.bool ((p0.A == 0) && (p0.B == 0))), .eq (.bool ((p0.A == 0) && (p0.B == 0))), .eq (.pointer (some ⟨b1, 3, none⟩)), .eq (.int .i64 p0.C), .eq (.bool (p0.C == 0)), .eq (.bool (((p0.A == 0) && (p0.B == 0)) && (p0.C == 0))), .eq (.bool (((p0.A == 0) && (p0.B == 0)) && (p0.C == 0)))]
                                [(6, .bool (((p0.A == 0) && (p0.B == 0)) && (p0.C == 0)))] mix hF (by kernel_rfl) (by kernel_rfl) (by kernel_rfl) ⟨Pd.mono_eq, Pd.mono_eq, Pd.mono_eq, trivial⟩ (fun hG => ⟨np_loadBox hG hF ty3 rfl rfl (hs.bx 0 rfl) rfl rfl rfl, np_loadBox hG hF ty3 rfl rfl (hs.bx 0 rfl) rfl rfl rfl, np_loadBox hG hF ty3 rfl rfl (hs.bx 0 rfl) rfl rfl rfl, trivial⟩) (by kernel_rfl) fun fr w56 hF hE hc => then_normal ?_)
                            have hs := hs.ext hc
                            have hM0 := hM0.ext hc
                            have hs : Sep [] w56 S1 := Sep.pick [] hs (by decide) rfl
                            obtain rfl := Option.some.inj h
                            exact wp_ret (blk_ret (then_ret (ret1 rfl hF rfl ⟨_, rfl, rfl, hM0.chg⟩)))
                          · replace h := iteF hb h
                            have hs : Sep [] w2 S1 := Sep.pick [] hs (by decide) rfl
                            refine (wp_skip ?_)
                            refine blk_normal (then_normal ?_)
                            refine wp_seq (wp_pure [(6, .bool false)] hF (by kernel_rfl) fun fr hF => then_normal ?_)
                            obtain rfl := Option.some.inj h
                            exact wp_ret (ret1 rfl hF rfl ⟨_, rfl, rfl, hM0.chg⟩)
                        · replace h := iteF hb h
                          refine (wp_pure [(3, .pointer (some ⟨b1, 0, none⟩)), (107, .bool (p0.Op == 14))] hF (by kernel_rfl) fun fr hF => then_normal ?_)
                          refine (wp_if hF (b := (p0.Op == 14)) rfl (fun hb => ?_) (fun hb => ?_))
                          · replace h := iteT hb h
                            refine wp_seq (region_b [] [true, false, true, true, true, false, true, true, true, true, false, true, true, true]
                                [.eq (.pointer (some ⟨b1, 1, none⟩)), .eq (.int .i64 p0.A), .eq (.bool (p0.A == 0)), .eq (.bool (p0.A == 0)), .eq (.pointer (some ⟨b1, 2, none⟩)), .eq (.int .i64 p0.B), .eq (.bool (p0.B == 0)), .eq (.bool ((p0.A == 0) && (p0.B == 0))), .eq (.bool ((p0.A == 0) && (p0.B == 0))), .eq (.pointer (some ⟨b1, 3, none⟩)), .eq (.int .i64 p0.C), .eq (.bool (p0.C == 0)), .eq (.bool (((p0.A == 0) && (p0.B == 0)) && (p0.C == 0))), .eq (.bool (((p0.A == 0) && (p0.B == 0)) && (p0.C == 0)))]
                                [(6, .bool (((p0.A == 0) && (p0.B == 0)) && (p0.C == 0)))] mix hF (by kernel_rfl) (by kernel_rfl) (by kernel_rfl) ⟨Pd.mono_eq, Pd.mono_eq, Pd.mono_eq, trivial⟩ (fun hG => ⟨np_loadBox hG hF ty3 rfl rfl (hs.bx 0 rfl) rfl rfl rfl, np_loadBox hG hF ty3 rfl rfl (hs.bx 0 rfl) rfl rfl rfl, np_loadBox hG hF ty3 rfl rfl (hs.bx 0 rfl) rfl rfl rfl, trivial⟩) (by kernel_rfl) fun fr w57 hF hE hc => then_normal ?_)
                            have hs := hs.ext hc
                            have hM0 := hM0.ext hc
                            have hs : Sep [] w57 S1 := Sep.pick [] hs (by decide) rfl
                            obtain rfl := Option.some.inj h
                            exact wp_ret (blk_ret (then_ret (ret1 rfl hF rfl ⟨_, rfl, rfl, hM0.chg⟩)))
                          · replace h := iteF hb h
                            have hs : Sep [] w2 S1 := Sep.pick [] hs (by decide) rfl
                            refine (wp_skip ?_)
                            refine blk_normal (then_normal ?_)
                            refine wp_seq (wp_pure [(6, .bool false)] hF (by kernel_rfl) fun fr hF => then_normal ?_)
                            obtain rfl := Option.some.inj h
                            exact wp_ret (ret1 rfl hF rfl ⟨_, rfl, rfl, hM0.chg⟩)
                  · replace h := iteF hb h
                    refine (wp_pure [(3, .pointer (some ⟨b1, 0, none⟩)), (7, .bool x1), (13, .int .i64 p0.Op), (80, .bool (p0.Op == 11))] hF (by kernel_rfl) fun fr hF => then_normal ?_)
                    refine (wp_if hF (b := (p0.Op == 11)) rfl (fun hb => ?_) (fun hb => ?_))
                    · replace h := iteT hb h
                      refine wp_seq (region_b [] [true, false, true, true, true, true, true, true, false, true, true, true]
                          [.eq (.pointer (some ⟨b1, 1, none⟩)), .eq (.int .i64 p0.A), .eq (.bool (p0.A == 0)), .eq (.bool (p0.A == 0)), .eq (.bool x1), .eq (.bool ((p0.A == 0) && x1)), .eq (.bool ((p0.A == 0) && x1)), .eq (.pointer (some ⟨b1, 3, none⟩)), .eq (.int .i64 p0.C), .eq (.bool (p0.C == 0)), .eq (.bool (((p0.A == 0) && x1) && (p0.C == 0))), .eq (.bool (((p0.A == 0) && x1) && (p0.C == 0)))]
                          [(6, .bool (((p0.A == 0) && x1) && (p0.C == 0)))] mix hF (by kernel_rfl) (by kernel_rfl) (by kernel_rfl) ⟨Pd.mono_eq, Pd.mono_eq, trivial⟩ (fun hG => ⟨np_loadBox hG hF ty3 rfl rfl (hs.bx 0 rfl) rfl rfl rfl, np_loadBox hG hF ty3 rfl rfl (hs.bx 0 rfl) rfl rfl rfl, trivial⟩) (by kernel_rfl) fun fr w58 hF hE hc => then_normal ?_)
                      have hs := hs.ext hc
                      have hM0 := hM0.ext hc
                      have hs : Sep [] w58 S1 := Sep.pick [] hs (by decide) rfl
                      obtain rfl := Option.some.inj h
                      exact wp_ret (blk_ret (then_ret (ret1 rfl hF rfl ⟨_, rfl, rfl, hM0.chg⟩)))
                    · replace h := iteF hb h
                      refine wp_seq (wp_pure [(3, .pointer (some ⟨b1, 0, none⟩)), (7, .bool x1), (13, .int .i64 p0.Op), (94, .bool (p0.Op == 10))] hF (by kernel_rfl) fun fr hF => then_normal ?_)
                      refine (wp_if hF (b := (p0.Op == 10)) rfl (fun hb => ?_) (fun hb => ?_))
                      · replace h := iteT hb h
                        obtain ⟨x31, hx31, h⟩ := bindE h
                        refine wp_seq (region_b [] [true, false, false, true, true, true, true, true, false, true, true, true]
                            [.eq (.pointer (some ⟨b1, 1, none⟩)), .eq (.int .i64 p0.A), .eq (.bool x31), .eq (.bool x31), .eq (.bool x1), .eq (.bool (x31 && x1)), .eq (.bool (x31 && x1)), .eq (.pointer (some ⟨b1, 3, none⟩)), .eq (.int .i64 p0.C), .eq (.bool (p0.C == 0)), .eq (.bool ((x31 && x1) && (p0.C == 0))), .eq (.bool ((x31 && x1) && (p0.C == 0)))]
                            [(6, .bool ((x31 && x1) && (p0.C == 0)))] mix hF (by kernel_rfl) (by kernel_rfl) (by kernel_rfl) ⟨Pd.mono_eq, Pd.mono_eq, Pd.mono_eq, trivial⟩ (fun hG => ⟨np_loadBox hG hF ty3 rfl rfl (hs.bx 0 rfl) rfl rfl rfl, np_call [.int .i64 p0.A] hG hF Try.call75 rfl rfl (fun w hC hg => (spec_l05Reg_ok p0.A hx31).mono fun e w' ⟨v, he, hv, hc⟩ => ⟨v, he, hc, hv⟩), np_loadBox hG hF ty3 rfl rfl (hs.bx 0 rfl) rfl rfl rfl, trivial⟩) (by kernel_rfl) fun fr w59 hF hE hc => then_normal ?_)
                        have hs := hs.ext hc
                        have hM0 := hM0.ext hc
                        have hs : Sep [] w59 S1 := Sep.pick [] hs (by decide) rfl
                        obtain rfl := Option.some.inj h
                        exact wp_ret (blk_ret (then_ret (ret1 rfl hF rfl ⟨_, rfl, rfl, hM0.chg⟩)))
                      · replace h := iteF hb h
                        refine wp_seq ?_
                        refine wp_seq (wp_pure [(3, .pointer (some ⟨b1, 0, none⟩)), (13, .int .i64 p0.Op), (107, .bool (p0.Op == 12))] hF (by kernel_rfl) fun fr hF => then_normal ?_)
                        refine (wp_if hF (b := (p0.Op == 12)) rfl (fun hb => ?_) (fun hb => ?_))
                        · replace h := iteT hb h
                          refine (wp_skip (then_normal ?_))
                          refine (wp_if hF (b := (p0.Op == 12)) rfl (fun hb => ?_) (fun hb => ?_))
                          · replace h := iteT hb h
                            refine wp_seq (region_b [] [true, false, true, true, true, false, true, true, true, true, false, true, true, true]
                                [.eq (.pointer (some ⟨b1, 1, none⟩)), .eq (.int .i64 p0.A), .eq (.bool (p0.A == 0)), .eq (.bool (p0.A == 0)), .eq (.pointer (some ⟨b1, 2, none⟩)), .eq (.int .i64 p0.B), .eq (.bool (p0.B == 0)), .eq (.bool ((p0.A == 0) && (p0.B == 0))), .eq (.bool ((p0.A == 0) && (p0.B == 0))), .eq (.pointer (some ⟨b1, 3, none⟩)), .eq (.int .i64 p0.C), .eq (.bool (p0.C == 0)), .eq (.bool (((p0.A == 0) && (p0.B == 0)) && (p0.C == 0))), .eq (.bool (((p0.A == 0) && (p0.B == 0)) && (p0.C == 0)))]
                                [(6, .bool (((p0.A == 0) && (p0.B == 0)) && (p0.C == 0)))] mix hF (by kernel_rfl) (by kernel_rfl) (by kernel_rfl) ⟨Pd.mono_eq, Pd.mono_eq, Pd.mono_eq, trivial⟩ (fun hG => ⟨np_loadBox hG hF ty3 rfl rfl (hs.bx 0 rfl) rfl rfl rfl, np_loadBox hG hF ty3 rfl rfl (hs.bx 0 rfl) rfl rfl rfl, np_loadBox hG hF ty3 rfl rfl (hs.bx 0 rfl) rfl rfl rfl, trivial⟩) (by kernel_rfl) fun fr w60 hF hE hc => then_normal ?_)
                            have hs := hs.ext hc
                            have hM0 := hM0.ext hc
                            have hs : Sep [] w60 S1 := Sep.pick [] hs (by decide) rfl
                            obtain rfl := Option.some.inj h
                            exact wp_ret (blk_ret (then_ret (ret1 rfl hF rfl ⟨_, rfl, rfl, hM0.chg⟩)))
                          · replace h := iteF hb h
                            have hs : Sep [] w2 S1 := Sep.pick [] hs (by decide) rfl
                            refine (wp_skip ?_)
                            refine blk_normal (then_normal ?_)
                            refine wp_seq (wp_pure [(6, .bool false)] hF (by kernel_rfl) fun fr hF => then_normal ?_)
                            obtain rfl := Option.some.inj h
                            exact wp_ret (ret1 rfl hF rfl ⟨_, rfl, rfl, hM0.chg⟩)
                        · replace h := iteF hb h
                          refine (wp_pure [(3, .pointer (some ⟨b1, 0, none⟩)), (107, .bool (p0.Op == 14))] hF (by kernel_rfl) fun fr hF => then_normal ?_)
                          refine (wp_if hF (b := (p0.Op == 14)) rfl (fun hb => ?_) (fun hb => ?_))
                          · replace h := iteT hb h
                            refine wp_seq (region_b [] [true, false, true, true, true, false, true, true, true, true, false, true, true, true]
                                [.eq (.pointer (some ⟨b1, 1, none⟩)), .eq (.int .i64 p0.A), .eq (.bool (p0.A == 0)), .eq (.bool (p0.A == 0)), .eq (.pointer (some ⟨b1, 2, none⟩)), .eq (.int .i64 p0.B), .eq (.bool (p0.B == 0)), .eq (.bool ((p0.A == 0) && (p0.B == 0))), .eq (.bool ((p0.A == 0) && (p0.B == 0))), .eq (.pointer (some ⟨b1, 3, none⟩)), .eq (.int .i64 p0.C), .eq (.bool (p0.C == 0)), .eq (.bool (((p0.A == 0) && (p0.B == 0)) && (p0.C == 0))), .eq (.bool (((p0.A == 0) && (p0.B == 0)) && (p0.C == 0)))]
                                [(6, .bool (((p0.A == 0) && (p0.B == 0)) && (p0.C == 0)))] mix hF (by kernel_rfl) (by kernel_rfl) (by kernel_rfl) ⟨Pd.mono_eq, Pd.mono_eq, Pd.mono_eq, trivial⟩ (fun hG => ⟨np_loadBox hG hF ty3 rfl rfl (hs.bx 0 rfl) rfl rfl rfl, np_loadBox hG hF ty3 rfl rfl (hs.bx 0 rfl) rfl rfl rfl, np_loadBox hG hF ty3 rfl rfl (hs.bx 0 rfl) rfl rfl rfl, trivial⟩) (by kernel_rfl) fun fr w61 hF hE hc => then_normal ?_)
                            have hs := hs.ext hc
                            have hM0 := hM0.ext hc
                            have hs : Sep [] w61 S1 := Sep.pick [] hs (by decide) rfl
                            obtain rfl := Option.some.inj h
                            exact wp_ret (blk_ret (then_ret (ret1 rfl hF rfl ⟨_, rfl, rfl, hM0.chg⟩)))
                          · replace h := iteF hb h
                            have hs : Sep [] w2 S1 := Sep.pick [] hs (by decide) rfl
                            refine (wp_skip ?_)
                            refine blk_normal (then_normal ?_)
                            refine wp_seq (wp_pure [(6, .bool false)] hF (by kernel_rfl) fun fr hF => then_normal ?_)
                            obtain rfl := Option.some.inj h
                            exact wp_ret (ret1 rfl hF rfl ⟨_, rfl, rfl, hM0.chg⟩)
              · replace h := iteF hb h
                refine wp_seq (wp_pure [(3, .pointer (some ⟨b1, 0, none⟩)), (7, .bool x1), (13, .int .i64 p0.Op), (62, .bool (p0.Op == 6))] hF (by kernel_rfl) fun fr hF => then_normal ?_)
                refine (wp_if hF (b := (p0.Op == 6)) rfl (fun hb => ?_) (fun hb => ?_))
                · replace h := iteT hb h
                  refine (wp_skip (then_normal ?_))
                  refine (wp_if hF (b := (p0.Op == 6)) rfl (fun hb => ?_) (fun hb => ?_))
                  · replace h := iteT hb h
                    obtain ⟨x32, hx32, h⟩ := bindE h
                    refine wp_seq (region_b [] [true, false, false, true, true, false, true, true, true, true, false, true, true, true]
                        [.eq (.pointer (some ⟨b1, 1, none⟩)), .eq (.int .i64 p0.A), .eq (.bool x32), .eq (.bool x32), .eq (.pointer (some ⟨b1, 2, none⟩)), .eq (.int .i64 p0.B), .eq (.bool (p0.B == 0)), .eq (.bool (x32 && (p0.B == 0))), .eq (.bool (x32 && (p0.B == 0))), .eq (.pointer (some ⟨b1, 3, none⟩)), .eq (.int .i64 p0.C), .eq (.bool (p0.C == 0)), .eq (.bool ((x32 && (p0.B == 0)) && (p0.C == 0))), .eq (.bool ((x32 && (p0.B == 0)) && (p0.C == 0)))]
                        [(6, .bool ((x32 && (p0.B == 0)) && (p0.C == 0)))] mix hF (by kernel_rfl) (by kernel_rfl) (by kernel_rfl) ⟨Pd.mono_eq, Pd.mono_eq, Pd.mono_eq, Pd.mono_eq, trivial⟩ (fun hG => ⟨np_loadBox hG hF ty3 rfl rfl (hs.bx 0 rfl) rfl rfl rfl, np_call [.int .i64 p0.A] hG hF Try.call75 rfl rfl (fun w hC hg => (spec_l05Reg_ok p0.A hx32).mono fun e w' ⟨v, he, hv, hc⟩ => ⟨v, he, hc, hv⟩), np_loadBox hG hF ty3 rfl rfl (hs.bx 0 rfl) rfl rfl rfl, np_loadBox hG hF ty3 rfl rfl (hs.bx 0 rfl) rfl rfl rfl, trivial⟩) (by kernel_rfl) fun fr w62 hF hE hc => then_normal ?_)
                    have hs := hs.ext hc
                    have hM0 := hM0.ext hc
                    have hs : Sep [] w62 S1 := Sep.pick [] hs (by decide) rfl
                    obtain rfl := Option.some.inj h
                    exact wp_ret (blk_ret (then_ret (ret1 rfl hF rfl ⟨_, rfl, rfl, hM0.chg⟩)))
                  · replace h := iteF hb h
                    refine wp_seq ?_
                    refine wp_seq (wp_pure [(3, .pointer (some ⟨b1, 0, none⟩)), (7, .bool x1), (13, .int .i64 p0.Op), (80, .bool (p0.Op == 9))] hF (by kernel_rfl) fun fr hF => then_normal ?_)
                    refine (wp_if hF (b := (p0.Op == 9)) rfl (fun hb => ?_) (fun hb => ?_))
                    · replace h := iteT hb h
                      refine (wp_skip (then_normal ?_))
                      refine (wp_if hF (b := (p0.Op == 9)) rfl (fun hb => ?_) (fun hb => ?_))
                      · replace h := iteT hb h
                        refine wp_seq (region_b [] [true, false, true, true, true, true, true, true, false, true, true, true]
                            [.eq (.pointer (some ⟨b1, 1, none⟩)), .eq (.int .i64 p0.A), .eq (.bool (p0.A == 0)), .eq (.bool (p0.A == 0)), .eq (.bool x1), .eq (.bool ((p0.A == 0) && x1)), .eq (.bool ((p0.A == 0) && x1)), .eq (.pointer (some ⟨b1, 3, none⟩)), .eq (.int .i64 p0.C), .eq (.bool (p0.C == 0)), .eq (.bool (((p0.A == 0) && x1) && (p0.C == 0))), .eq (.bool (((p0.A == 0) && x1) && (p0.C == 0)))]
                            [(6, .bool (((p0.A == 0) && x1) && (p0.C == 0)))] mix hF (by kernel_rfl) (by kernel_rfl) (by kernel_rfl) ⟨Pd.mono_eq, Pd.mono_eq, trivial⟩ (fun hG => ⟨np_loadBox hG hF ty3 rfl rfl (hs.bx 0 rfl) rfl rfl rfl, np_loadBox hG hF ty3 rfl rfl (hs.bx 0 rfl) rfl rfl rfl, trivial⟩) (by kernel_rfl) fun fr w63 hF hE hc => then_normal ?_)
                        have hs := hs.ext hc
                        have hM0 := hM0.ext hc
                        have hs : Sep [] w63 S1 := Sep.pick [] hs (by decide) rfl
                        obtain rfl := Option.some.inj h
                        exact wp_ret (blk_ret (then_ret (ret1 rfl hF rfl ⟨_, rfl, rfl, hM0.chg⟩)))
                      · replace h := iteF hb h
                        refine wp_seq (wp_pure [(3, .pointer (some ⟨b1, 0, none⟩)), (7, .bool x1), (13, .int .i64 p0.Op), (94, .bool (p0.Op == 10))] hF (by kernel_rfl) fun fr hF => then_normal ?_)
                        refine (wp_if hF (b := (p0.Op == 10)) rfl (fun hb => ?_) (fun hb => ?_))
                        · replace h := iteT hb h
                          obtain ⟨x33, hx33, h⟩ := bindE h
                          refine wp_seq (region_b [] [true, false, false, true, true, true, true, true, false, true, true, true]
                              [.eq (.pointer (some ⟨b1, 1, none⟩)), .eq (.int .i64 p0.A), .eq (.bool x33), .eq (.bool x33), .eq (.bool x1), .eq (.bool (x33 && x1)), .eq (.bool (x33 && x1)), .eq (.pointer (some ⟨b1, 3, none⟩)), .eq (.int .i64 p0.C), .eq (.bool (p0.C == 0)), .eq (.bool ((x33 && x1) && (p0.C == 0))), .eq (.bool ((x33 && x1) && (p0.C == 0)))]
                              [(6, .bool ((x33 && x1) && (p0.C == 0)))] mix hF (by kernel_rfl) (by kernel_rfl) (by kernel_rfl) ⟨Pd.mono_eq, Pd.mono_eq, Pd.mono_eq, trivial⟩ (fun hG => ⟨np_loadBox hG hF ty3 rfl rfl (hs.bx 0 rfl) rfl rfl rfl, np_call [.int .i64 p0.A] hG hF Try.call75 rfl rfl (fun w hC hg => (spec_l05Reg_ok p0.A hx33).mono fun e w' ⟨v, he, hv, hc⟩ => ⟨v, he, hc, hv⟩), np_loadBox hG hF ty3 rfl rfl (hs.bx 0 rfl) rfl rfl rfl, trivial⟩) (by kernel_rfl) fun fr w64 hF hE hc => then_normal ?_)
                          have hs := hs.ext hc
                          have hM0 := hM0.ext hc
                          have hs : Sep [] w64 S1 := Sep.pick [] hs (by decide) rfl
                          obtain rfl := Option.some.inj h
                          exact wp_ret (blk_ret (then_ret (ret1 rfl hF rfl ⟨_, rfl, rfl, hM0.chg⟩)))
                        · replace h := iteF hb h
                          refine wp_seq ?_
                          refine wp_seq (wp_pure [(3, .pointer (some ⟨b1, 0, none⟩)), (13, .int .i64 p0.Op), (107, .bool (p0.Op == 12))] hF (by kernel_rfl) fun fr hF => then_normal ?_)
                          refine (wp_if hF (b := (p0.Op == 12)) rfl (fun hb => ?_) (fun hb => ?_))
                          · replace h := iteT hb h
                            refine (wp_skip (then_normal ?_))
                            refine (wp_if hF (b := (p0.Op == 12)) rfl (fun hb => ?_) (fun hb => ?_))
                            · replace h := iteT hb h
                              refine wp_seq (region_b [] [true, false, true, true, true, false, true, true, true, true, false, true, true, true]
                                  [.eq (.pointer (some ⟨b1, 1, none⟩)), .eq (.int .i64 p0.A), .eq (.bool (p0.A == 0)), .eq (.bool (p0.A == 0)), .eq (.pointer (some ⟨b1, 2, none⟩)), .eq (.int .i64 p0.B), .eq (.bool (p0.B == 0)), .eq (.bool ((p0.A == 0) && (p0.B == 0))), .eq (.bool ((p0.A == 0) && (p0.B == 0))), .eq (.pointer (some ⟨b1, 3, none⟩)), .eq (.int .i64 p0.C), .eq (.bool (p0.C == 0)), .eq (.bool (((p0.A == 0) && (p0.B == 0)) && (p0.C == 0))), .eq (.bool (((p0.A == 0) && (p0.B == 0)) && (p0.C == 0)))]
                                  [(6, .bool (((p0.A == 0) && (p0.B == 0)) && (p0.C == 0)))] mix hF (by kernel_rfl) (by kernel_rfl) (by kernel_rfl) ⟨Pd.mono_eq, Pd.mono_eq, Pd.mono_eq, trivial⟩ (fun hG => ⟨np_loadBox hG hF ty3 rfl rfl (hs.bx 0 rfl) rfl rfl rfl, np_loadBox hG hF ty3 rfl rfl (hs.bx 0 rfl) rfl rfl rfl, np_loadBox hG hF ty3 rfl rfl (hs.bx 0 rfl) rfl rfl rfl, trivial⟩) (by kernel_rfl) fun fr w65 hF hE hc => then_normal ?_)
                              have hs := hs.ext hc
                              have hM0 := hM0.ext hc
                              have hs : Sep [] w65 S1 := Sep.pick [] hs (by decide) rfl
                              obtain rfl := Option.some.inj h
                              exact wp_ret (blk_ret (then_ret (ret1 rfl hF rfl ⟨_, rfl, rfl, hM0.chg⟩)))
                            · replace h := iteF hb h
                              have hs : Sep [] w2 S1 := Sep.pick [] hs (by decide) rfl
                              refine (wp_skip ?_)
                              refine blk_normal (then_normal ?_)
                              refine wp_seq (wp_pure [(6, .bool false)] hF (by kernel_rfl) fun fr hF => then_normal ?_)
                              obtain rfl := Option.some.inj h
                              exact wp_ret (ret1 rfl hF rfl ⟨_, rfl, rfl, hM0.chg⟩)
                          · replace h := iteF hb h
                            refine (wp_pure [(3, .pointer (some ⟨b1, 0, none⟩)), (107, .bool (p0.Op == 14))] hF (by kernel_rfl) fun fr hF => then_normal ?_)
                            refine (wp_if hF (b := (p0.Op == 14)) rfl (fun hb => ?_) (fun hb => ?_))
                            · replace h := iteT hb h
                              refine wp_seq (region_b [] [true, false, true, true, true, false, true, true, true, true, false, true, true, true]
                                  [.eq (.pointer (some ⟨b1, 1, none⟩)), .eq (.int .i64 p0.A), .eq (.bool (p0.A == 0)), .eq (.bool (p0.A == 0)), .eq (.pointer (some ⟨b1, 2, none⟩)), .eq (.int .i64 p0.B), .eq (.bool (p0.B == 0)), .eq (.bool ((p0.A == 0) && (p0.B == 0))), .eq (.bool ((p0.A == 0) && (p0.B == 0))), .eq (.pointer (some ⟨b1, 3, none⟩)), .eq (.int .i64 p0.C), .eq (.bool (p0.C == 0)), .eq (.bool (((p0.A == 0) && (p0.B == 0)) && (p0.C == 0))), .eq (.bool (((p0.A == 0) && (p0.B == 0)) && (p0.C == 0)))]
                                  [(6, .bool (((p0.A == 0) && (p0.B == 0)) && (p0.C == 0)))] mix hF (by kernel_rfl) (by kernel_rfl) (by kernel_rfl) ⟨Pd.mono_eq, Pd.mono_eq, Pd.mono_eq, trivial⟩ (fun hG => ⟨np_loadBox hG hF ty3 rfl rfl (hs.bx 0 rfl) rfl rfl rfl, np_loadBox hG hF ty3 rfl rfl (hs.bx 0 rfl) rfl rfl rfl, np_loadBox hG hF ty3 rfl rfl (hs.bx 0 rfl) rfl rfl rfl, trivial⟩) (by kernel_rfl) fun fr w66 hF hE hc => then_normal ?_)
                              have hs := hs.ext hc
                              have hM0 := hM0.ext hc
                              have hs : Sep [] w66 S1 := Sep.pick [] hs (by decide) rfl
                              obtain rfl := Option.some.inj h
                              exact wp_ret (blk_ret (then_ret (ret1 rfl hF rfl ⟨_, rfl, rfl, hM0.chg⟩)))
                            · replace h := iteF hb h
                              have hs : Sep [] w2 S1 := Sep.pick [] hs (by decide) rfl
                              refine (wp_skip ?_)
                              refine blk_normal (then_normal ?_)
                              refine wp_seq (wp_pure [(6, .bool false)] hF (by kernel_rfl) fun fr hF => then_normal ?_)
                              obtain rfl := Option.some.inj h
                              exact wp_ret (ret1 rfl hF rfl ⟨_, rfl, rfl, hM0.chg⟩)
                    · replace h := iteF hb h
                      refine (wp_pure [(3, .pointer (some ⟨b1, 0, none⟩)), (7, .bool x1), (13, .int .i64 p0.Op), (80, .bool (p0.Op == 11))] hF (by kernel_rfl) fun fr hF => then_normal ?_)
                      refine (wp_if hF (b := (p0.Op == 11)) rfl (fun hb => ?_) (fun hb => ?_))
                      · replace h := iteT hb h
                        refine wp_seq (region_b [] [true, false, true, true, true, true, true, true, false, true, true, true]
                            [.eq (.pointer (some ⟨b1, 1, none⟩)), .eq (.int .i64 p0.A), .eq (.bool (p0.A == 0)), .eq (.bool (p0.A == 0)), .eq (.bool x1), .eq (.bool ((p0.A == 0) && x1)), .eq (.bool ((p0.A == 0) && x1)), .eq (.pointer (some ⟨b1, 3, none⟩)), .eq (.int .i64 p0.C), .eq (.bool (p0.C == 0)), .eq (.bool (((p0.A == 0) && x1) && (p0.C == 0))), .eq (.bool (((p0.A == 0) && x1) && (p0.C == 0)))]
                            [(6, .bool (((p0.A == 0) && x1) && (p0.C == 0)))] mix hF (by kernel_rfl) (by kernel_rfl) (by kernel_rfl) ⟨Pd.mono_eq, Pd.mono_eq, trivial⟩ (fun hG => ⟨np_loadBox hG hF ty3 rfl rfl (hs.bx 0 rfl) rfl rfl rfl, np_loadBox hG hF ty3 rfl rfl (hs.bx 0 rfl) rfl rfl rfl, trivial⟩) (by kernel_rfl) fun fr w67 hF hE hc => then_normal ?_)
                        have hs := hs.ext hc
                        have hM0 := hM0.ext hc
                        have hs : Sep [] w67 S1 := Sep.pick [] hs (by decide) rfl
                        obtain rfl := Option.some.inj h
                        exact wp_ret (blk_ret (then_ret (ret1 rfl hF rfl ⟨_, rfl, rfl, hM0.chg⟩)))
                      · replace h := iteF hb h
                        refine wp_seq (wp_pure [(3, .pointer (some ⟨b1, 0, none⟩)), (7, .bool x1), (13, .int .i64 p0.Op), (94, .bool (p0.Op == 10))] hF (by kernel_rfl) fun fr hF => then_normal ?_)
                        refine (wp_if hF (b := (p0.Op == 10)) rfl (fun hb => ?_) (fun hb => ?_))
                        · replace h := iteT hb h
                          obtain ⟨x34, hx34, h⟩ := bindE h
                          refine wp_seq (region_b [] [true, false, false, true, true, true, true, true, false, true, true, true]
                              [.eq (.pointer (some ⟨b1, 1, none⟩)), .eq (.int .i64 p0.A), .eq (.bool x34), .eq (.bool x34), .eq (.bool x1), .eq (.bool (x34 && x1)), .eq (.bool (x34 && x1)), .eq (.pointer (some ⟨b1, 3, none⟩)), .eq (.int .i64 p0.C), .eq (.bool (p0.C == 0)), .eq (.bool ((x34 && x1) && (p0.C == 0))), .eq (.bool ((x34 && x1) && (p0.C == 0)))]
                              [(6, .bool ((x34 && x1) && (p0.C == 0)))] mix hF (by kernel_rfl) (by kernel_rfl) (by kernel_rfl) ⟨Pd.mono_eq, Pd.mono_eq, Pd.mono_eq, trivial⟩ (fun hG => ⟨np_loadBox hG hF ty3 rfl rfl (hs.bx 0 rfl) rfl rfl rfl, np_call [.int .i64 p0.A] hG hF Try.call75 rfl rfl (fun w hC hg => (spec_l05Reg_ok p0.A hx34).mono fun e w' ⟨v, he, hv, hc⟩ => ⟨v, he, hc, hv⟩), np_loadBox hG hF ty3 rfl rfl (hs.bx 0 rfl) rfl rfl rfl, trivial⟩) (by kernel_rfl) fun fr w68 hF hE hc => then_normal ?_)
                          have hs := hs.ext hc
                          have hM0 := hM0.ext hc
                          have hs : Sep [] w68 S1 := Sep.pick [] hs (by decide) rfl
                          obtain rfl := Option.some.inj h
                          exact wp_ret (blk_ret (then_ret (ret1 rfl hF rfl ⟨_, rfl, rfl, hM0.chg⟩)))
                        · replace h := iteF hb h
                          refine wp_seq ?_
                          refine wp_seq (wp_pure [(3, .pointer (some ⟨b1, 0, none⟩)), (13, .int .i64 p0.Op), (107, .bool (p0.Op == 12))] hF (by kernel_rfl) fun fr hF => then_normal ?_)
                          refine (wp_if hF (b := (p0.Op == 12)) rfl (fun hb => ?_) (fun hb => ?_))
                          · replace h := iteT hb h
                            refine (wp_skip (then_normal ?_))
                            refine (wp_if hF (b := (p0.Op == 12)) rfl (fun hb => ?_) (fun hb => ?_))
                            · replace h := iteT hb h
                              refine wp_seq (region_b [] [true, false, true, true, true, false, true, true, true, true, false, true, true, true]
                                  [.eq (.pointer (some ⟨b1, 1, none⟩)), .eq (.int .i64 p0.A), .eq (.bool (p0.A == 0)), .eq (.bool (p0.A == 0)), .eq (.pointer (some ⟨b1, 2, none⟩)), .eq (.int .i64 p0.B), .eq (.bool (p0.B == 0)), .eq (.bool ((p0.A == 0) && (p0.B == 0))), .eq (.bool ((p0.A == 0) && (p0.B == 0))), .eq (.pointer (some ⟨b1, 3, none⟩)), .eq (.int .i64 p0.C), .eq (.bool (p0.C == 0)), .eq (.bool (((p0.A == 0) && (p0.B == 0)) && (p0.C == 0))), .eq (.bool (((p0.A == 0) && (p0.B == 0)) && (p0.C == 0)))]
                                  [(6, .bool (((p0.A == 0) && (p0.B == 0)) && (p0.C == 0)))] mix hF (by kernel_rfl) (by kernel_rfl) (by kernel_rfl) ⟨Pd.mono_eq, Pd.mono_eq, Pd.mono_eq, trivial⟩ (fun hG => ⟨np_loadBox hG hF ty3 rfl rfl (hs.bx 0 rfl) rfl rfl rfl, np_loadBox hG hF ty3 rfl rfl (hs.bx 0 rfl) rfl rfl rfl, np_loadBox hG hF ty3 rfl rfl (hs.bx 0 rfl) rfl rfl rfl, trivial⟩) (by kernel_rfl) fun fr w69 hF hE hc => then_normal ?_)
                              have hs := hs.ext hc
                              have hM0 := hM0.ext hc
                              have hs : Sep [] w69 S1 := Sep.pick [] hs (by decide) rfl
                              obtain rfl := Option.some.inj h
                              exact wp_ret (blk_ret (then_ret (ret1 rfl hF rfl ⟨_, rfl, rfl, hM0.chg⟩)))
                            · replace h := iteF hb h
                              have hs : Sep [] w2 S1 := Sep.pick [] hs (by decide) rfl
                              refine (wp_skip ?_)
                              refine blk_normal (then_normal ?_)
                              refine wp_seq (wp_pure [(6, .bool false)] hF (by kernel_rfl) fun fr hF => then_normal ?_)
                              obtain rfl := Option.some.inj h
                              exact wp_ret (ret1 rfl hF rfl ⟨_, rfl, rfl, hM0.chg⟩)
                          · replace h := iteF hb h
                            refine (wp_pure [(3, .pointer (some ⟨b1, 0, none⟩)), (107, .bool (p0.Op == 14))] hF (by kernel_rfl) fun fr hF => then_normal ?_)
                            refine (wp_if hF (b := (p0.Op == 14)) rfl (fun hb => ?_) (fun hb => ?_))
                            · replace h := iteT hb h
                              refine wp_seq (region_b [] [true, false, true, true, true, false, true, true, true, true, false, true, true, true]
                                  [.eq (.pointer (some ⟨b1, 1, none⟩)), .eq (.int .i64 p0.A), .eq (.bool (p0.A == 0)), .eq (.bool (p0.A == 0)), .eq (.pointer (some ⟨b1, 2, none⟩)), .eq (.int .i64 p0.B), .eq (.bool (p0.B == 0)), .eq (.bool ((p0.A == 0) && (p0.B == 0))), .eq (.bool ((p0.A == 0) && (p0.B == 0))), .eq (.pointer (some ⟨b1, 3, none⟩)), .eq (.int .i64 p0.C), .eq (.bool (p0.C == 0)), .eq (.bool (((p0.A == 0) && (p0.B == 0)) && (p0.C == 0))), .eq (.bool (((p0.A == 0) && (p0.B == 0)) && (p0.C == 0)))]
                                  [(6, .bool (((p0.A == 0) && (p0.B == 0)) && (p0.C == 0)))] mix hF (by kernel_rfl) (by kernel_rfl) (by kernel_rfl) ⟨Pd.mono_eq, Pd.mono_eq, Pd.mono_eq, trivial⟩ (fun hG => ⟨np_loadBox hG hF ty3 rfl rfl (hs.bx 0 rfl) rfl rfl rfl, np_loadBox hG hF ty3 rfl rfl (hs.bx 0 rfl) rfl rfl rfl, np_loadBox hG hF ty3 rfl rfl (hs.bx 0 rfl) rfl rfl rfl, trivial⟩) (by kernel_rfl) fun fr w70 hF hE hc => then_normal ?_)
                              have hs := hs.ext hc
                              have hM0 := hM0.ext hc
                              have hs : Sep [] w70 S1 := Sep.pick [] hs (by decide) rfl
                              obtain rfl := Option.some.inj h
                              exact wp_ret (blk_ret (then_ret (ret1 rfl hF rfl ⟨_, rfl, rfl, hM0.chg⟩)))
                            · replace h := iteF hb h
                              have hs : Sep [] w2 S1 := Sep.pick [] hs (by decide) rfl
                              refine (wp_skip ?_)
                              refine blk_normal (then_normal ?_)
                              refine wp_seq (wp_pure [(6, .bool false)] hF (by kernel_rfl) fun fr hF => then_normal ?_)
                              obtain rfl := Option.some.inj h
                              exact wp_ret (ret1 rfl hF rfl ⟨_, rfl, rfl, hM0.chg⟩)
                · replace h := iteF hb h
                  refine (wp_pure [(3, .pointer (some ⟨b1, 0, none⟩)), (7, .bool x1), (13, .int .i64 p0.Op), (62, .bool (p0.Op == 13))] hF (by kernel_rfl) fun fr hF => then_normal ?_)
                  refine (wp_if hF (b := (p0.Op == 13)) rfl (fun hb => ?_) (fun hb => ?_))
                  · replace h := iteT hb h
                    obtain ⟨x35, hx35, h⟩ := bindE h
                    refine wp_seq (region_b [] [true, false, false, true, true, false, true, true, true, true, false, true, true, true]
                        [.eq (.pointer (some ⟨b1, 1, none⟩)), .eq (.int .i64 p0.A), .eq (.bool x35), .eq (.bool x35), .eq (.pointer (some ⟨b1, 2, none⟩)), .eq (.int .i64 p0.B), .eq (.bool (p0.B == 0)), .eq (.bool (x35 && (p0.B == 0))), .eq (.bool (x35 && (p0.B == 0))), .eq (.pointer (some ⟨b1, 3, none⟩)), .eq (.int .i64 p0.C), .eq (.bool (p0.C == 0)), .eq (.bool ((x35 && (p0.B == 0)) && (p0.C == 0))), .eq (.bool ((x35 && (p0.B == 0)) && (p0.C == 0)))]
                        [(6, .bool ((x35 && (p0.B == 0)) && (p0.C == 0)))] mix hF (by kernel_rfl) (by kernel_rfl) (by kernel_rfl) ⟨Pd.mono_eq, Pd.mono_eq, Pd.mono_eq, Pd.mono_eq, trivial⟩ (fun hG => ⟨np_loadBox hG hF ty3 rfl rfl (hs.bx 0 rfl) rfl rfl rfl, np_call [.int .i64 p0.A] hG hF Try.call75 rfl rfl (fun w hC hg => (spec_l05Reg_ok p0.A hx35).mono fun e w' ⟨v, he, hv, hc⟩ => ⟨v, he, hc, hv⟩), np_loadBox hG hF ty3 rfl rfl (hs.bx 0 rfl) rfl rfl rfl, np_loadBox hG hF ty3 rfl rfl (hs.bx 0 rfl) rfl rfl rfl, trivial⟩) (by kernel_rfl) fun fr w71 hF hE hc => then_normal ?_)
                    have hs := hs.ext hc
                    have hM0 := hM0.ext hc
                    have hs : Sep [] w71 S1 := Sep.pick [] hs (by decide) rfl
                    obtain rfl := Option.some.inj h
                    exact wp_ret (blk_ret (then_ret (ret1 rfl hF rfl ⟨_, rfl, rfl, hM0.chg⟩)))
                  · replace h := iteF hb h
                    refine wp_seq ?_
                    refine wp_seq (wp_pure [(3, .pointer (some ⟨b1, 0, none⟩)), (7, .bool x1), (13, .int .i64 p0.Op), (80, .bool (p0.Op == 9))] hF (by kernel_rfl) fun fr hF => then_normal ?_)
                    refine (wp_if hF (b := (p0.Op == 9)) rfl (fun hb => ?_) (fun hb => ?_))
                    · replace h := iteT hb h
                      refine (wp_skip (then_normal ?_))
                      refine (wp_if hF (b := (p0.Op == 9)) rfl (fun hb => ?_) (fun hb => ?_))
                      · replace h := iteT hb h
                        refine wp_seq (region_b [] [true, false, true, true, true, true, true, true, false, true, true, true]
                            [.eq (.pointer (some ⟨b1, 1, none⟩)), .eq (.int .i64 p0.A), .eq (.bool (p0.A == 0)), .eq (.bool (p0.A == 0)), .eq (.bool x1), .eq (.bool ((p0.A == 0) && x1)), .eq (.bool ((p0.A == 0) && x1)), .eq (.pointer (some ⟨b1, 3, none⟩)), .eq (.int .i64 p0.C), .eq (.bool (p0.C == 0)), .eq (.bool (((p0.A == 0) && x1) && (p0.C == 0))), .eq (.bool (((p0.A == 0) && x1) && (p0.C == 0)))]
                            [(6, .bool (((p0.A == 0) && x1) && (p0.C == 0)))] mix hF (by kernel_rfl) (by kernel_rfl) (by kernel_rfl) ⟨Pd.mono_eq, Pd.mono_eq, trivial⟩ (fun hG => ⟨np_loadBox hG hF ty3 rfl rfl (hs.bx 0 rfl) rfl rfl rfl, np_loadBox hG hF ty3 rfl rfl (hs.bx 0 rfl) rfl rfl rfl, trivial⟩) (by kernel_rfl) fun fr w72 hF hE hc => then_normal ?_)
                        have hs := hs.ext hc
                        have hM0 := hM0.ext hc
                        have hs : Sep [] w72 S1 := Sep.pick [] hs (by decide) rfl
                        obtain rfl := Option.some.inj h
                        exact wp_ret (blk_ret (then_ret (ret1 rfl hF rfl ⟨_, rfl, rfl, hM0.chg⟩)))
                      · replace h := iteF hb h
                        refine wp_seq (wp_pure [(3, .pointer (some ⟨b1, 0, none⟩)), (7, .bool x1), (13, .int .i64 p0.Op), (94, .bool (p0.Op == 10))] hF (by kernel_rfl) fun fr hF => then_normal ?_)
                        refine (wp_if hF (b := (p0.Op == 10)) rfl (fun hb => ?_) (fun hb => ?_))
                        · replace h := iteT hb h
                          obtain ⟨x36, hx36, h⟩ := bindE h
                          refine wp_seq (region_b [] [true, false, false, true, true, true, true, true, false, true, true, true]
                              [.eq (.pointer (some ⟨b1, 1, none⟩)), .eq (.int .i64 p0.A), .eq (.bool x36), .eq (.bool x36), .eq (.bool x1), .eq (.bool (x36 && x1)), .eq (.bool (x36 && x1)), .eq (.pointer (some ⟨b1, 3, none⟩)), .eq (.int .i64 p0.C), .eq (.bool (p0.C == 0)), .eq (.bool ((x36 && x1) && (p0.C == 0))), .eq (.bool ((x36 && x1) && (p0.C == 0)))]
                              [(6, .bool ((x36 && x1) && (p0.C == 0)))] mix hF (by kernel_rfl) (by kernel_rfl) (by kernel_rfl) ⟨Pd.mono_eq, Pd.mono_eq, Pd.mono_eq, trivial⟩ (fun hG => ⟨np_loadBox hG hF ty3 rfl rfl (hs.bx 0 rfl) rfl rfl rfl, np_call [.int .i64 p0.A] hG hF Try.call75 rfl rfl (fun w hC hg => (spec_l05Reg_ok p0.A hx36).mono fun e w' ⟨v, he, hv, hc⟩ => ⟨v, he, hc, hv⟩), np_loadBox hG hF ty3 rfl rfl (hs.bx 0 rfl) rfl rfl rfl, trivial⟩) (by kernel_rfl) fun fr w73 hF hE hc => then_normal ?_)
                          have hs := hs.ext hc
                          have hM0 := hM0.ext hc
                          have hs : Sep [] w73 S1 := Sep.pick [] hs (by decide) rfl
                          obtain rfl := Option.some.inj h
                          exact wp_ret (blk_ret (then_ret (ret1 rfl hF rfl ⟨_, rfl, rfl, hM0.chg⟩)))
                        · replace h := iteF hb h
                          refine wp_seq ?_
                          refine wp_seq (wp_pure [(3, .pointer (some ⟨b1, 0, none⟩)), (13, .int .i64 p0.Op), (107, .bool (p0.Op == 12))] hF (by kernel_rfl) fun fr hF => then_normal ?_)
                          refine (wp_if hF (b := (p0.Op == 12)) rfl (fun hb => ?_) (fun hb => ?_))
                          · replace h := iteT hb h
                            refine (wp_skip (then_normal ?_))
                            refine (wp_if hF (b := (p0.Op == 12)) rfl (fun hb => ?_) (fun hb => ?_))
                            · replace h := iteT hb h
                              refine wp_seq (region_b [] [true, false, true, true, true, false, true, true, true, true, false, true, true, true]
                                  [.eq (.pointer (some ⟨b1, 1, none⟩)), .eq (.int .i64 p0.A), .eq (.bool (p0.A == 0)), .eq (.bool (p0.A == 0)), .eq (.pointer (some ⟨b1, 2, none⟩)), .eq (.int .i64 p0.B), .eq (.bool (p0.B == 0)), .eq (.bool ((p0.A == 0) && (p0.B == 0))), .eq (.bool ((p0.A == 0) && (p0.B == 0))), .eq (.pointer (some ⟨b1, 3, none⟩)), .eq (.int .i64 p0.C), .eq (.bool (p0.C == 0)), .eq (.bool (((p0.A == 0) && (p0.B == 0)) && (p0.C == 0))), .eq (.bool (((p0.A == 0) && (p0.B == 0)) && (p0.C == 0)))]
                                  [(6, .bool (((p0.A == 0) && (p0.B == 0)) && (p0.C == 0)))] mix hF (by kernel_rfl) (by kernel_rfl) (by kernel_rfl) ⟨Pd.mono_eq, Pd.mono_eq, Pd.mono_eq, trivial⟩ (fun hG => ⟨np_loadBox hG hF ty3 rfl rfl (hs.bx 0 rfl) rfl rfl rfl, np_loadBox hG hF ty3 rfl rfl (hs.bx 0 rfl) rfl rfl rfl, np_loadBox hG hF ty3 rfl rfl (hs.bx 0 rfl) rfl rfl rfl, trivial⟩) (by kernel_rfl) fun fr w74 hF hE hc => then_normal ?_)
                              have hs := hs.ext hc
                              have hM0 := hM0.ext hc
                              have hs : Sep [] w74 S1 := Sep.pick [] hs (by decide) rfl
                              obtain rfl := Option.some.inj h
                              exact wp_ret (blk_ret (then_ret (ret1 rfl hF rfl ⟨_, rfl, rfl, hM0.chg⟩)))
                            · replace h := iteF hb h
                              have hs : Sep [] w2 S1 := Sep.pick [] hs (by decide) rfl
                              refine (wp_skip ?_)
                              refine blk_normal (then_normal ?_)
                              refine wp_seq (wp_pure [(6, .bool false)] hF (by kernel_rfl) fun fr hF => then_normal ?_)
                              obtain rfl := Option.some.inj h
                              exact wp_ret (ret1 rfl hF rfl ⟨_, rfl, rfl, hM0.chg⟩)
                          · replace h := iteF hb h
                            refine (wp_pure [(3, .pointer (some ⟨b1, 0, none⟩)), (107, .bool (p0.Op == 14))] hF (by kernel_rfl) fun fr hF => then_normal ?_)
                            refine (wp_if hF (b := (p0.Op == 14)) rfl (fun hb => ?_) (fun hb => ?_))
                            · replace h := iteT hb h
                              refine wp_seq (region_b [] [true, false, true, true, true, false, true, true, true, true, false, true, true, true]
                                  [.eq (.pointer (some ⟨b1, 1, none⟩)), .eq (.int .i64 p0.A), .eq (.bool (p0.A == 0)), .eq (.bool (p0.A == 0)), .eq (.pointer (some ⟨b1, 2, none⟩)), .eq (.int .i64 p0.B), .eq (.bool (p0.B == 0)), .eq (.bool ((p0.A == 0) && (p0.B == 0))), .eq (.bool ((p0.A == 0) && (p0.B == 0))), .eq (.pointer (some ⟨b1, 3, none⟩)), .eq (.int .i64 p0.C), .eq (.bool (p0.C == 0)), .eq (.bool (((p0.A == 0) && (p0.B == 0)) && (p0.C == 0))), .eq (.bool (((p0.A == 0) && (p0.B == 0)) && (p0.C == 0)))]
                                  [(6, .bool (((p0.A == 0) && (p0.B == 0)) && (p0.C == 0)))] mix hF (by kernel_rfl) (by kernel_rfl) (by kernel_rfl) ⟨Pd.mono_eq, Pd.mono_eq, Pd.mono_eq, trivial⟩ (fun hG => ⟨np_loadBox hG hF ty3 rfl rfl (hs.bx 0 rfl) rfl rfl rfl, np_loadBox hG hF ty3 rfl rfl (hs.bx 0 rfl) rfl rfl rfl, np_loadBox hG hF ty3 rfl rfl (hs.bx 0 rfl) rfl rfl rfl, trivial⟩) (by kernel_rfl) fun fr w75 hF hE hc => then_normal ?_)
                              have hs := hs.ext hc
                              have hM0 := hM0.ext hc
                              have hs : Sep [] w75 S1 := Sep.pick [] hs (by decide) rfl
                              obtain rfl := Option.some.inj h
                              exact wp_ret (blk_ret (then_ret (ret1 rfl hF rfl ⟨_, rfl, rfl, hM0.chg⟩)))
                            · replace h := iteF hb h
                              have hs : Sep [] w2 S1 := Sep.pick [] hs (by decide) rfl
                              refine (wp_skip ?_)
                              refine blk_normal (then_normal ?_)
                              refine wp_seq (wp_pure [(6, .bool false)] hF (by kernel_rfl) fun fr hF => then_normal ?_)
                              obtain rfl := Option.some.inj h
                              exact wp_ret (ret1 rfl hF rfl ⟨_, rfl, rfl, hM0.chg⟩)
                    · replace h := iteF hb h
                      refine (wp_pure [(3, .pointer (some ⟨b1, 0, none⟩)), (7, .bool x1), (13, .int .i64 p0.Op), (80, .bool (p0.Op == 11))] hF (by kernel_rfl) fun fr hF => then_normal ?_)
                      refine (wp_if hF (b := (p0.Op == 11)) rfl (fun hb => ?_) (fun hb => ?_))
                      · replace h := iteT hb h
                        refine wp_seq (region_b [] [true, false, true, true, true, true, true, true, false, true, true, true]
                            [.eq (.pointer (some ⟨b1, 1, none⟩)), .eq (.int .i64 p0.A), .eq (.bool (p0.A == 0)), .eq (.bool (p0.A == 0)), .eq (.bool x1), .eq (.bool ((p0.A == 0) && x1)), .eq (.bool ((p0.A == 0) && x1)), .eq (.pointer (some ⟨b1, 3, none⟩)), .eq (.int .i64 p0.C), .eq (.bool (p0.C == 0)), .eq (.bool (((p0.A == 0) && x1) && (p0.C == 0))), .eq (.bool (((p0.A == 0) && x1) && (p0.C == 0)))]
                            [(6, .bool (((p0.A == 0) && x1) && (p0.C == 0)))] mix hF (by kernel_rfl) (by kernel_rfl) (by kernel_rfl) ⟨Pd.mono_eq, Pd.mono_eq, trivial⟩ (fun hG => ⟨np_loadBox hG hF ty3 rfl rfl (hs.bx 0 rfl) rfl rfl rfl, np_loadBox hG hF ty3 rfl rfl (hs.bx 0 rfl) rfl rfl rfl, trivial⟩) (by kernel_rfl) fun fr w76 hF hE hc => then_normal ?_)
                        have hs := hs.ext hc
                        have hM0 := hM0.ext hc
                        have hs : Sep [] w76 S1 := Sep.pick [] hs (by decide) rfl
                        obtain rfl := Option.some.inj h
                        exact wp_ret (blk_ret (then_ret (ret1 rfl hF rfl ⟨_, rfl, rfl, hM0.chg⟩)))
                      · replace h := iteF hb h
                        refine wp_seq (wp_pure [(3, .pointer (some ⟨b1, 0, none⟩)), (7, .bool x1), (13, .int .i64 p0.Op), (94, .bool (p0.Op == 10))] hF (by kernel_rfl) fun fr hF => then_normal ?_)
                        refine (wp_if hF (b := (p0.Op == 10)) rfl (fun hb => ?_) (fun hb => ?_))
                        · replace h := iteT hb h
                          obtain ⟨x37, hx37, h⟩ := bindE h
                          refine wp_seq (region_b [] [true, false, false, true, true, true, true, true, false, true, true, true]
                              [.eq (.pointer (some ⟨b1, 1, none⟩)), .eq (.int .i64 p0.A), .eq (.bool x37), .eq (.bool x37), .eq (.bool x1), .eq (.bool (x37 && x1)), .eq (.bool (x37 && x1)), .eq (.pointer (some ⟨b1, 3, none⟩)), .eq (.int .i64 p0.C), .eq (.bool (p0.C == 0)), .eq (.bool ((x37 && x1) && (p0.C == 0))), .eq (.bool ((x37 && x1) && (p0.C == 0)))]
                              [(6, .bool ((x37 && x1) && (p0.C == 0)))] mix hF (by kernel_rfl) (by kernel_rfl) (by kernel_rfl) ⟨Pd.mono_eq, Pd.mono_eq, Pd.mono_eq, trivial⟩ (fun hG => ⟨np_loadBox hG hF ty3 rfl rfl (hs.bx 0 rfl) rfl rfl rfl, np_call [.int .i64 p0.A] hG hF Try.call75 rfl rfl (fun w hC hg => (spec_l05Reg_ok p0.A hx37).mono fun e w' ⟨v, he, hv, hc⟩ => ⟨v, he, hc, hv⟩), np_loadBox hG hF ty3 rfl rfl (hs.bx 0 rfl) rfl rfl rfl, trivial⟩) (by kernel_rfl) fun fr w77 hF hE hc => then_normal ?_)
                          have hs := hs.ext hc
                          have hM0 := hM0.ext hc
                          have hs : Sep [] w77 S1 := Sep.pick [] hs (by decide) rfl
                          obtain rfl := Option.some.inj h
                          exact wp_ret (blk_ret (then_ret (ret1 rfl hF rfl ⟨_, rfl, rfl, hM0.chg⟩)))
                        · replace h := iteF hb h
                          refine wp_seq ?_
                          refine wp_seq (wp_pure [(3, .pointer (some ⟨b1, 0, none⟩)), (13, .int .i64 p0.Op), (107, .bool (p0.Op == 12))] hF (by kernel_rfl) fun fr hF => then_normal ?_)
                          refine (wp_if hF (b := (p0.Op == 12)) rfl (fun hb => ?_) (fun hb => ?_))
                          · replace h := iteT hb h
                            refine (wp_skip (then_normal ?_))
                            refine (wp_if hF (b := (p0.Op == 12)) rfl (fun hb => ?_) (fun hb => ?_))
                            · replace h := iteT hb h
                              refine wp_seq (region_b [] [true, false, true, true, true, false, true, true, true, true, false, true, true, true]
                                  [.eq (.pointer (some ⟨b1, 1, none⟩)), .eq (.int .i64 p0.A), .eq (.bool (p0.A == 0)), .eq (.bool (p0.A == 0)), .eq (.pointer (some ⟨b1, 2, none⟩)), .eq (.int .i64 p0.B), .eq (.bool (p0.B == 0)), .eq (.bool ((p0.A == 0) && (p0.B == 0))), .eq (.bool ((p0.A == 0) && (p0.B == 0))), .eq (.pointer (some ⟨b1, 3, none⟩)), .eq (.int .i64 p0.C), .eq (.bool (p0.C == 0)), .eq (.bool (((p0.A == 0) && (p0.B == 0)) && (p0.C == 0))), .eq (.bool (((p0.A == 0) && (p0.B == 0)) && (p0.C == 0)))]
                                  [(6, .bool (((p0.A == 0) && (p0.B == 0)) && (p0.C == 0)))] mix hF (by kernel_rfl) (by kernel_rfl) (by kernel_rfl) ⟨Pd.mono_eq, Pd.mono_eq, Pd.mono_eq, trivial⟩ (fun hG => ⟨np_loadBox hG hF ty3 rfl rfl (hs.bx 0 rfl) rfl rfl rfl, np_loadBox hG hF ty3 rfl rfl (hs.bx 0 rfl) rfl rfl rfl, np_loadBox hG hF ty3 rfl rfl (hs.bx 0 rfl) rfl rfl rfl, trivial⟩) (by kernel_rfl) fun fr w78 hF hE hc => then_normal ?_)
                              have hs := hs.ext hc
                              have hM0 := hM0.ext hc
                              have hs : Sep [] w78 S1 := Sep.pick [] hs (by decide) rfl
                              obtain rfl := Option.some.inj h
                              exact wp_ret (blk_ret (then_ret (ret1 rfl hF rfl ⟨_, rfl, rfl, hM0.chg⟩)))
                            · replace h := iteF hb h
                              have hs : Sep [] w2 S1 := Sep.pick [] hs (by decide) rfl
                              refine (wp_skip ?_)
                              refine blk_normal (then_normal ?_)
                              refine wp_seq (wp_pure [(6, .bool false)] hF (by kernel_rfl) fun fr hF => then_normal ?_)
                              obtain rfl := Option.some.inj h
                              exact wp_ret (ret1 rfl hF rfl ⟨_, rfl, rfl, hM0.chg⟩)
                          · replace h := iteF hb h
                            refine (wp_pure [(3, .pointer (some ⟨b1, 0, none⟩)), (107, .bool (p0.Op == 14))] hF (by kernel_rfl) fun fr hF => then_normal ?_)
                            refine (wp_if hF (b := (p0.Op == 14)) rfl (fun hb => ?_) (fun hb => ?_))
                            · replace h := iteT hb h
                              refine wp_seq (region_b [] [true, false, true, true, true, false, true, true, true, true, false, true, true, true]
                                  [.eq (.pointer (some ⟨b1, 1, none⟩)), .eq (.int .i64 p0.A), .eq (.bool (p0.A == 0)), .eq (.bool (p0.A == 0)), .eq (.pointer (some ⟨b1, 2, none⟩)), .eq (.int .i64 p0.B), .eq (.bool (p0.B == 0)), .eq (.bool ((p0.A == 0) && (p0.B == 0))), .eq (.bool ((p0.A == 0) && (p0.B == 0))), .eq (.pointer (some ⟨b1, 3, none⟩)), .eq (.int .i64 p0.C), .eq (.bool (p0.C == 0)), .eq (.bool (((p0.A == 0) && (p0.B == 0)) && (p0.C == 0))), .eq (.bool (((p0.A == 0) && (p0.B == 0)) && (p0.C == 0)))]
                                  [(6, .bool (((p0.A == 0) && (p0.B == 0)) && (p0.C == 0)))] mix hF (by kernel_rfl) (by kernel_rfl) (by kernel_rfl) ⟨Pd.mono_eq, Pd.mono_eq, Pd.mono_eq, trivial⟩ (fun hG => ⟨np_loadBox hG hF ty3 rfl rfl (hs.bx 0 rfl) rfl rfl rfl, np_loadBox hG hF ty3 rfl rfl (hs.bx 0 rfl) rfl rfl rfl, np_loadBox hG hF ty3 rfl rfl (hs.bx 0 rfl) rfl rfl rfl, trivial⟩) (by kernel_rfl) fun fr w79 hF hE hc => then_normal ?_)
                              have hs := hs.ext hc
                              have hM0 := hM0.ext hc
                              have hs : Sep [] w79 S1 := Sep.pick [] hs (by decide) rfl
                              obtain rfl := Option.some.inj h
                              exact wp_ret (blk_ret (then_ret (ret1 rfl hF rfl ⟨_, rfl, rfl, hM0.chg⟩)))
                            · replace h := iteF hb h
                              have hs : Sep [] w2 S1 := Sep.pick [] hs (by decide) rfl
                              refine (wp_skip ?_)
                              refine blk_normal (then_normal ?_)
                              refine wp_seq (wp_pure [(6, .bool false)] hF (by kernel_rfl) fun fr hF => then_normal ?_)
                              obtain rfl := Option.some.inj h
                              exact wp_ret (ret1 rfl hF rfl ⟨_, rfl, rfl, hM0.chg⟩)
      · replace h := iteF hb h
        refine (wp_pure [(3, .pointer (some ⟨b1, 0, none⟩)), (7, .bool x1), (13, .int .i64 p0.Op), (30, .bool (p0.Op == 8))] hF (by kernel_rfl) fun fr hF => then_normal ?_)
        refine (wp_if hF (b := (p0.Op == 8)) rfl (fun hb => ?_) (fun hb => ?_))
        · replace h := iteT hb h
          obtain ⟨x38, hx38, h⟩ := bindE h
          obtain ⟨x39, hx39, h⟩ := bindE h
          refine wp_seq (region_b [] [true, false, false, true, true, false, false, true, true, true, false, true, true, true]
              [.eq (.pointer (some ⟨b1, 1, none⟩)), .eq (.int .i64 p0.A), .eq (.bool x38), .eq (.bool x38), .eq (.pointer (some ⟨b1, 2, none⟩)), .eq (.int .i64 p0.B), .eq (.bool x39), .eq (.bool (x38 && x39)), .eq (.bool (x38 && x39)), .eq (.pointer (some ⟨b1, 3, none⟩)), .eq (.int .i64 p0.C), .eq (.bool (p0.C == 0)), .eq (.bool ((x38 && x39) && (p0.C == 0))), .eq (.bool ((x38 && x39) && (p0.C == 0)))]
              [(6, .bool ((x38 && x39) && (p0.C == 0)))] mix hF (by kernel_rfl) (by kernel_rfl) (by kernel_rfl) ⟨Pd.mono_eq, Pd.mono_eq, Pd.mono_eq, Pd.mono_eq, Pd.mono_eq, trivial⟩ (fun hG => ⟨np_loadBox hG hF ty3 rfl rfl (hs.bx 0 rfl) rfl rfl rfl, np_call [.int .i64 p0.A] hG hF Try.call75 rfl rfl (fun w hC hg => (spec_l05Reg_ok p0.A hx38).mono fun e w' ⟨v, he, hv, hc⟩ => ⟨v, he, hc, hv⟩), np_loadBox hG hF ty3 rfl rfl (hs.bx 0 rfl) rfl rfl rfl, np_call [.int .i64 p0.B] hG hF Try.call75 rfl rfl (fun w hC hg => (spec_l05Reg_ok p0.B (iteT hg.2 hx39)).mono fun e w' ⟨v, he, hv, hc⟩ => ⟨v, he, hc, hv⟩), np_loadBox hG hF ty3 rfl rfl (hs.bx 0 rfl) rfl rfl rfl, trivial⟩) (by kernel_rfl) fun fr w80 hF hE hc => then_normal ?_)
          have hs := hs.ext hc
          have hM0 := hM0.ext hc
          have hs : Sep [] w80 S1 := Sep.pick [] hs (by decide) rfl
          obtain rfl := Option.some.inj h
          exact wp_ret (blk_ret (then_ret (ret1 rfl hF rfl ⟨_, rfl, rfl, hM0.chg⟩)))
        · replace h := iteF hb h
          refine wp_seq (wp_pure [(3, .pointer (some ⟨b1, 0, none⟩)), (7, .bool x1), (13, .int .i64 p0.Op), (47, .bool (p0.Op == 3))] hF (by kernel_rfl) fun fr hF => then_normal ?_)
          refine (wp_if hF (b := (p0.Op == 3)) rfl (fun hb => ?_) (fun hb => ?_))
          · replace h := iteT hb h
            obtain ⟨x40, hx40, h⟩ := bindE h
            obtain ⟨x41, hx41, h⟩ := bindE h
            obtain ⟨x42, hx42, h⟩ := bindE h
            refine wp_seq (region_b [] [true, false, false, true, true, false, false, true, true, true, false, false, true, true]
                [.eq (.pointer (some ⟨b1, 1, none⟩)), .eq (.int .i64 p0.A), .eq (.bool x40), .eq (.bool x40), .eq (.pointer (some ⟨b1, 2, none⟩)), .eq (.int .i64 p0.B), .eq (.bool x41), .eq (.bool (x40 && x41)), .eq (.bool (x40 && x41)), .eq (.pointer (some ⟨b1, 3, none⟩)), .eq (.int .i64 p0.C), .eq (.bool x42), .eq (.bool ((x40 && x41) && x42)), .eq (.bool ((x40 && x41) && x42))]
                [(6, .bool ((x40 && x41) && x42))] mix hF (by kernel_rfl) (by kernel_rfl) (by kernel_rfl) ⟨Pd.mono_eq, Pd.mono_eq, Pd.mono_eq, Pd.mono_eq, Pd.mono_eq, Pd.mono_eq, trivial⟩ (fun hG => ⟨np_loadBox hG hF ty3 rfl rfl (hs.bx 0 rfl) rfl rfl rfl, np_call [.int .i64 p0.A] hG hF Try.call75 rfl rfl (fun w hC hg => (spec_l05Reg_ok p0.A hx40).mono fun e w' ⟨v, he, hv, hc⟩ => ⟨v, he, hc, hv⟩), np_loadBox hG hF ty3 rfl rfl (hs.bx 0 rfl) rfl rfl rfl, np_call [.int .i64 p0.B] hG hF Try.call75 rfl rfl (fun w hC hg => (spec_l05Reg_ok p0.B (iteT hg.2 hx41)).mono fun e w' ⟨v, he, hv, hc⟩ => ⟨v, he, hc, hv⟩), np_loadBox hG hF ty3 rfl rfl (hs.bx 0 rfl) rfl rfl rfl, np_call [.int .i64 p0.C, .int .i64 3, .int .i64 16] hG hF Try.call52 rfl rfl (fun w hC hg => (spec_l01In_ok p0.C 3 16 (iteT hg.2 hx42)).mono fun e w' ⟨v, he, hv, hc⟩ => ⟨v, he, hc, hv⟩), trivial⟩) (by kernel_rfl) fun fr w81 hF hE hc => then_normal ?_)
            have hs := hs.ext hc
            have hM0 := hM0.ext hc
            have hs : Sep [] w81 S1 := Sep.pick [] hs (by decide) rfl
            obtain rfl := Option.some.inj h
            exact wp_ret (blk_ret (then_ret (ret1 rfl hF rfl ⟨_, rfl, rfl, hM0.chg⟩)))
          · replace h := iteF hb h
            refine wp_seq ?_
            refine wp_seq (wp_pure [(3, .pointer (some ⟨b1, 0, none⟩)), (7, .bool x1), (13, .int .i64 p0.Op), (62, .bool (p0.Op == 4))] hF (by kernel_rfl) fun fr hF => then_normal ?_)
            refine (wp_if hF (b := (p0.Op == 4)) rfl (fun hb => ?_) (fun hb => ?_))
            · replace h := iteT hb h
              refine (wp_skip (then_normal ?_))
              refine (wp_if hF (b := (p0.Op == 4)) rfl (fun hb => ?_) (fun hb => ?_))
              · replace h := iteT hb h
                obtain ⟨x43, hx43, h⟩ := bindE h
                refine wp_seq (region_b [] [true, false, false, true, true, false, true, true, true, true, false, true, true, true]
                    [.eq (.pointer (some ⟨b1, 1, none⟩)), .eq (.int .i64 p0.A), .eq (.bool x43), .eq (.bool x43), .eq (.pointer (some ⟨b1, 2, none⟩)), .eq (.int .i64 p0.B), .eq (.bool (p0.B == 0)), .eq (.bool (x43 && (p0.B == 0))), .eq (.bool (x43 && (p0.B == 0))), .eq (.pointer (some ⟨b1, 3, none⟩)), .eq (.int .i64 p0.C), .eq (.bool (p0.C == 0)), .eq (.bool ((x43 && (p0.B == 0)) && (p0.C == 0))), .eq (.bool ((x43 && (p0.B == 0)) && (p0.C == 0)))]
                    [(6, .bool ((x43 && (p0.B == 0)) && (p0.C == 0)))] mix hF (by kernel_rfl) (by kernel_rfl) (by kernel_rfl) ⟨Pd.mono_eq, Pd.mono_eq, Pd.mono_eq, Pd.mono_eq, trivial⟩ (fun hG => ⟨np_loadBox hG hF ty3 rfl rfl (hs.bx 0 rfl) rfl rfl rfl, np_call [.int .i64 p0.A] hG hF Try.call75 rfl rfl (fun w hC hg => (spec_l05Reg_ok p0.A hx43).mono fun e w' ⟨v, he, hv, hc⟩ => ⟨v, he, hc, hv⟩), np_loadBox hG hF ty3 rfl rfl (hs.bx 0 rfl) rfl rfl rfl, np_loadBox hG hF ty3 rfl rfl (hs.bx 0 rfl) rfl rfl rfl, trivial⟩) (by kernel_rfl) fun fr w82 hF hE hc => then_normal ?_)
                have hs := hs.ext hc
                have hM0 := hM0.ext hc
                have hs : Sep [] w82 S1 := Sep.pick [] hs (by decide) rfl
                obtain rfl := Option.some.inj h
                exact wp_ret (blk_ret (then_ret (ret1 rfl hF rfl ⟨_, rfl, rfl, hM0.chg⟩)))
              · replace h := iteF hb h
                refine wp_seq ?_
                refine wp_seq (wp_pure [(3, .pointer (some ⟨b1, 0, none⟩)), (7, .bool x1), (13, .int .i64 p0.Op), (80, .bool (p0.Op == 9))] hF (by kernel_rfl) fun fr hF => then_normal ?_)
                refine (wp_if hF (b := (p0.Op == 9)) rfl (fun hb => ?_) (fun hb => ?_))
                · replace h := iteT hb h
                  refine (wp_skip (then_normal ?_))
                  refine (wp_if hF (b := (p0.Op == 9)) rfl (fun hb => ?_) (fun hb => ?_))
                  · replace h := iteT hb h
                    refine wp_seq (region_b [] [true, false, true, true, true, true, true, true, false, true, true, true]
                        [.eq (.pointer (some ⟨b1, 1, none⟩)), .eq (.int .i64 p0.A), .eq (.bool (p0.A == 0)), .eq (.bool (p0.A == 0)), .eq (.bool x1), .eq (.bool ((p0.A == 0) && x1)), .eq (.bool ((p0.A == 0) && x1)), .eq (.pointer (some ⟨b1, 3, none⟩)), .eq (.int .i64 p0.C), .eq (.bool (p0.C == 0)), .eq (.bool (((p0.A == 0) && x1) && (p0.C == 0))), .eq (.bool (((p0.A == 0) && x1) && (p0.C == 0)))]
                        [(6, .bool (((p0.A == 0) && x1) && (p0.C == 0)))] mix hF (by kernel_rfl) (by kernel_rfl) (by kernel_rfl) ⟨Pd.mono_eq, Pd.mono_eq, trivial⟩ (fun hG => ⟨np_loadBox hG hF ty3 rfl rfl (hs.bx 0 rfl) rfl rfl rfl, np_loadBox hG hF ty3 rfl rfl (hs.bx 0 rfl) rfl rfl rfl, trivial⟩) (by kernel_rfl) fun fr w83 hF hE hc => then_normal ?_)
                    have hs := hs.ext hc
                    have hM0 := hM0.ext hc
                    have hs : Sep [] w83 S1 := Sep.pick [] hs (by decide) rfl
                    obtain rfl := Option.some.inj h
                    exact wp_ret (blk_ret (then_ret (ret1 rfl hF rfl ⟨_, rfl, rfl, hM0.chg⟩)))
                  · replace h := iteF hb h
                    refine wp_seq (wp_pure [(3, .pointer (some ⟨b1, 0, none⟩)), (7, .bool x1), (13, .int .i64 p0.Op), (94, .bool (p0.Op == 10))] hF (by kernel_rfl) fun fr hF => then_normal ?_)
                    refine (wp_if hF (b := (p0.Op == 10)) rfl (fun hb => ?_) (fun hb => ?_))
                    · replace h := iteT hb h
                      obtain ⟨x44, hx44, h⟩ := bindE h
                      refine wp_seq (region_b [] [true, false, false, true, true, true, true, true, false, true, true, true]
                          [.eq (.pointer (some ⟨b1, 1, none⟩)), .eq (.int .i64 p0.A), .eq (.bool x44), .eq (.bool x44), .eq (.bool x1), .eq (.bool (x44 && x1)), .eq (.bool (x44 && x1)), .eq (.pointer (some ⟨b1, 3, none⟩)), .eq (.int .i64 p0.C), .eq (.bool (p0.C == 0)), .eq (.bool ((x44 && x1) && (p0.C == 0))), .eq (.bool ((x44 && x1) && (p0.C == 0)))]
                          [(6, .bool ((x44 && x1) && (p0.C == 0)))] mix hF (by kernel_rfl) (by kernel_rfl) (by kernel_rfl) ⟨Pd.mono_eq, Pd.mono_eq, Pd.mono_eq, trivial⟩ (fun hG => ⟨np_loadBox hG hF ty3 rfl rfl (hs.bx 0 rfl) rfl rfl rfl, np_call [.int .i64 p0.A] hG hF Try.call75 rfl rfl (fun w hC hg => (spec_l05Reg_ok p0.A hx44).mono fun e w' ⟨v, he, hv, hc⟩ => ⟨v, he, hc, hv⟩), np_loadBox hG hF ty3 rfl rfl (hs.bx 0 rfl) rfl rfl rfl, trivial⟩) (by kernel_rfl) fun fr w84 hF hE hc => then_normal ?_)
                      have hs := hs.ext hc
                      have hM0 := hM0.ext hc
                      have hs : Sep [] w84 S1 := Sep.pick [] hs (by decide) rfl
                      obtain rfl := Option.some.inj h
                      exact wp_ret (blk_ret (then_ret (ret1 rfl hF rfl ⟨_, rfl, rfl, hM0.chg⟩)))
                    · replace h := iteF hb h
                      refine wp_seq ?_
                      refine wp_seq (wp_pure [(3, .pointer (some ⟨b1, 0, none⟩)), (13, .int .i64 p0.Op), (107, .bool (p0.Op == 12))] hF (by kernel_rfl) fun fr hF => then_normal ?_)
                      refine (wp_if hF (b := (p0.Op == 12)) rfl (fun hb => ?_) (fun hb => ?_))
                      · replace h := iteT hb h
                        refine (wp_skip (then_normal ?_))
                        refine (wp_if hF (b := (p0.Op == 12)) rfl (fun hb => ?_) (fun hb => ?_))
                        · replace h := iteT hb h
                          refine wp_seq (region_b [] [true, false, true, true, true, false, true, true, true, true, false, true, true, true]
                              [.eq (.pointer (some ⟨b1, 1, none⟩)), .eq (.int .i64 p0.A), .eq (.bool (p0.A == 0)), .eq (.bool (p0.A == 0)), .eq (.pointer (some ⟨b1, 2, none⟩)), .eq (.int .i64 p0.B), .eq (.bool (p0.B == 0)), .eq (.bool ((p0.A == 0) && (p0.B == 0))), .eq (.bool ((p0.A == 0) && (p0.B == 0))), .eq (.pointer (some ⟨b1, 3, none⟩)), .eq (.int .i64 p0.C), .eq (.bool (p0.C == 0)), .eq (.bool (((p0.A == 0) && (p0.B == 0)) && (p0.C == 0))), .eq (.bool (((p0.A == 0) && (p0.B == 0)) && (p0.C == 0)))]
                              [(6, .bool (((p0.A == 0) && (p0.B == 0)) && (p0.C == 0)))] mix hF (by kernel_rfl) (by kernel_rfl) (by kernel_rfl) ⟨Pd.mono_eq, Pd.mono_eq, Pd.mono_eq, trivial⟩ (fun hG => ⟨np_loadBox hG hF ty3 rfl rfl (hs.bx 0 rfl) rfl rfl rfl, np_loadBox hG hF ty3 rfl rfl (hs.bx 0 rfl) rfl rfl rfl, np_loadBox hG hF ty3 rfl rfl (hs.bx 0 rfl) rfl rfl rfl, trivial⟩) (by kernel_rfl) fun fr w85 hF hE hc => then_normal ?_)
                          have hs := hs.ext hc
                          have hM0 := hM0.ext hc
                          have hs : Sep [] w85 S1 := Sep.pick [] hs (by decide) rfl
                          obtain rfl := Option.some.inj h
                          exact wp_ret (blk_ret (then_ret (ret1 rfl hF rfl ⟨_, rfl, rfl, hM0.chg⟩)))
                        · replace h := iteF hb h
                          have hs : Sep [] w2 S1 := Sep.pick [] hs (by decide) rfl
                          refine (wp_skip ?_)
                          refine blk_normal (then_normal ?_)
                          refine wp_seq (wp_pure [(6, .bool false)] hF (by kernel_rfl) fun fr hF => then_normal ?_)
                          obtain rfl := Option.some.inj h
                          exact wp_ret (ret1 rfl hF rfl ⟨_, rfl, rfl, hM0.chg⟩)
                      · replace h := iteF hb h
                        refine (wp_pure [(3, .pointer (some ⟨b1, 0, none⟩)), (107, .bool (p0.Op == 14))] hF (by kernel_rfl) fun fr hF => then_normal ?_)
                        refine (wp_if hF (b := (p0.Op == 14)) rfl (fun hb => ?_) (fun hb => ?_))
                        · replace h := iteT hb h
                          refine wp_seq (region_b [] [true, false, true, true, true, false, true, true, true, true, false, true, true, true]
                              [.eq (.pointer (some ⟨b1, 1, none⟩)), .eq (.int .i64 p0.A), .eq (.bool (p0.A == 0)), .eq (.bool (p0.A == 0)), .eq (.pointer (some ⟨b1, 2, none⟩)), .eq (.int .i64 p0.B), .eq (.bool (p0.B == 0)), .eq (.bool ((p0.A == 0) && (p0.B == 0))), .eq (.bool ((p0.A == 0) && (p0.B == 0))), .eq (.pointer (some ⟨b1, 3, none⟩)), .eq (.int .i64 p0.C), .eq (.bool (p0.C == 0)), .eq (.bool (((p0.A == 0) && (p0.B == 0)) && (p0.C == 0))), .eq (.bool (((p0.A == 0) && (p0.B == 0)) && (p0.C == 0)))]
                              [(6, .bool (((p0.A == 0) && (p0.B == 0)) && (p0.C == 0)))] mix hF (by kernel_rfl) (by kernel_rfl) (by kernel_rfl) ⟨Pd.mono_eq, Pd.mono_eq, Pd.mono_eq, trivial⟩ (fun hG => ⟨np_loadBox hG hF ty3 rfl rfl (hs.bx 0 rfl) rfl rfl rfl, np_loadBox hG hF ty3 rfl rfl (hs.bx 0 rfl) rfl rfl rfl, np_loadBox hG hF ty3 rfl rfl (hs.bx 0 rfl) rfl rfl rfl, trivial⟩) (by kernel_rfl) fun fr w86 hF hE hc => then_normal ?_)
                          have hs := hs.ext hc
                          have hM0 := hM0.ext hc
                          have hs : Sep [] w86 S1 := Sep.pick [] hs (by decide) rfl
                          obtain rfl := Option.some.inj h
                          exact wp_ret (blk_ret (then_ret (ret1 rfl hF rfl ⟨_, rfl, rfl, hM0.chg⟩)))
                        · replace h := iteF hb h
                          have hs : Sep [] w2 S1 := Sep.pick [] hs (by decide) rfl
                          refine (wp_skip ?_)
                          refine blk_normal (then_normal ?_)
                          refine wp_seq (wp_pure [(6, .bool false)] hF (by kernel_rfl) fun fr hF => then_normal ?_)
                          obtain rfl := Option.some.inj h
                          exact wp_ret (ret1 rfl hF rfl ⟨_, rfl, rfl, hM0.chg⟩)
                · replace h := iteF hb h
                  refine (wp_pure [(3, .pointer (some ⟨b1, 0, none⟩)), (7, .bool x1), (13, .int .i64 p0.Op), (80, .bool (p0.Op == 11))] hF (by kernel_rfl) fun fr hF => then_normal ?_)
                  refine (wp_if hF (b := (p0.Op == 11)) rfl (fun hb => ?_) (fun hb => ?_))
                  · replace h := iteT hb h
                    refine wp_seq (region_b [] [true, false, true, true, true, true, true, true, false, true, true, true]
                        [.eq (.pointer (some ⟨b1, 1, none⟩)), .eq (.int .i64 p0.A), .eq (.bool (p0.A == 0)), .eq (.bool (p0.A == 0)), .eq (.bool x1), .eq (.bool ((p0.A == 0) && x1)), .eq (.bool ((p0.A == 0) && x1)), .eq (.pointer (some ⟨b1, 3, none⟩)), .eq (.int .i64 p0.C), .eq (.bool (p0.C == 0)), .eq (.bool (((p0.A == 0) && x1) && (p0.C == 0))), .eq (.bool (((p0.A == 0) && x1) && (p0.C == 0)))]
                        [(6, .bool (((p0.A == 0) && x1) && (p0.C == 0)))] mix hF (by kernel_rfl) (by kernel_rfl) (by kernel_rfl) ⟨Pd.mono_eq, Pd.mono_eq, trivial⟩ (fun hG => ⟨np_loadBox hG hF ty3 rfl rfl (hs.bx 0 rfl) rfl rfl rfl, np_loadBox hG hF ty3 rfl rfl (hs.bx 0 rfl) rfl rfl rfl, trivial⟩) (by kernel_rfl) fun fr w87 hF hE hc => then_normal ?_)
                    have hs := hs.ext hc
                    have hM0 := hM0.ext hc
                    have hs : Sep [] w87 S1 := Sep.pick [] hs (by decide) rfl
                    obtain rfl := Option.some.inj h
                    exact wp_ret (blk_ret (then_ret (ret1 rfl hF rfl ⟨_, rfl, rfl, hM0.chg⟩)))
                  · replace h := iteF hb h
                    refine wp_seq (wp_pure [(3, .pointer (some ⟨b1, 0, none⟩)), (7, .bool x1), (13, .int .i64 p0.Op), (94, .bool (p0.Op == 10))] hF (by kernel_rfl) fun fr hF => then_normal ?_)
                    refine (wp_if hF (b := (p0.Op == 10)) rfl (fun hb => ?_) (fun hb => ?_))
                    · replace h := iteT hb h
                      obtain ⟨x45, hx45, h⟩ := bindE h
                      refine wp_seq (region_b [] [true, false, false, true, true, true, true, true, false, true, true, true]
                          [.eq (.pointer (some ⟨b1, 1, none⟩)), .eq (.int .i64 p0.A), .eq (.bool x45), .eq (.bool x45), .eq (.bool x1), .eq (.bool (x45 && x1)), .eq (.bool (x45 && x1)), .eq (.pointer (some ⟨b1, 3, none⟩)), .eq (.int .i64 p0.C), .eq (.bool (p0.C == 0)), .eq (.bool ((x45 && x1) && (p0.C == 0))), .eq (.bool ((x45 && x1) && (p0.C == 0)))]
                          [(6, .bool ((x45 && x1) && (p0.C == 0)))] mix hF (by kernel_rfl) (by kernel_rfl) (by kernel_rfl) ⟨Pd.mono_eq, Pd.mono_eq, Pd.mono_eq, trivial⟩ (fun hG => ⟨np_loadBox hG hF ty3 rfl rfl (hs.bx 0 rfl) rfl rfl rfl, np_call [.int .i64 p0.A] hG hF Try.call75 rfl rfl (fun w hC hg => (spec_l05Reg_ok p0.A hx45).mono fun e w' ⟨v, he, hv, hc⟩ => ⟨v, he, hc, hv⟩), np_loadBox hG hF ty3 rfl rfl (hs.bx 0 rfl) rfl rfl rfl, trivial⟩) (by kernel_rfl) fun fr w88 hF hE hc => then_normal ?_)
                      have hs := hs.ext hc
                      have hM0 := hM0.ext hc
                      have hs : Sep [] w88 S1 := Sep.pick [] hs (by decide) rfl
                      obtain rfl := Option.some.inj h
                      exact wp_ret (blk_ret (then_ret (ret1 rfl hF rfl ⟨_, rfl, rfl, hM0.chg⟩)))
                    · replace h := iteF hb h
                      refine wp_seq ?_
                      refine wp_seq (wp_pure [(3, .pointer (some ⟨b1, 0, none⟩)), (13, .int .i64 p0.Op), (107, .bool (p0.Op == 12))] hF (by kernel_rfl) fun fr hF => then_normal ?_)
                      refine (wp_if hF (b := (p0.Op == 12)) rfl (fun hb => ?_) (fun hb => ?_))
                      · replace h := iteT hb h
                        refine (wp_skip (then_normal ?_))
                        refine (wp_if hF (b := (p0.Op == 12)) rfl (fun hb => ?_) (fun hb => ?_))
                        · replace h := iteT hb h
                          refine wp_seq (region_b [] [true, false, true, true, true, false, true, true, true, true, false, true, true, true]
                              [.eq (.pointer (some ⟨b1, 1, none⟩)), .eq (.int .i64 p0.A), .eq (.bool (p0.A == 0)), .eq (.bool (p0.A == 0)), .eq (.pointer (some ⟨b1, 2, none⟩)), .eq (.int .i64 p0.B), .eq (.bool (p0.B == 0)), .eq (.bool ((p0.A == 0) && (p0.B == 0))), .eq (.bool ((p0.A == 0) && (p0.B == 0))), .eq (.pointer (some ⟨b1, 3, none⟩)), .eq (.int .i64 p0.C), .eq (.bool (p0.C == 0)), .eq (.bool (((p0.A == 0) && (p0.B == 0)) && (p0.C == 0))), .eq (.bool (((p0.A == 0) && (p0.B == 0)) && (p0.C == 0)))]
                              [(6, .bool (((p0.A == 0) && (p0.B == 0)) && (p0.C == 0)))] mix hF (by kernel_rfl) (by kernel_rfl) (by kernel_rfl) ⟨Pd.mono_eq, Pd.mono_eq, Pd.mono_eq, trivial⟩ (fun hG => ⟨np_loadBox hG hF ty3 rfl rfl (hs.bx 0 rfl) rfl rfl rfl, np_loadBox hG hF ty3 rfl rfl (hs.bx 0 rfl) rfl rfl rfl, np_loadBox hG hF ty3 rfl rfl (hs.bx 0 rfl) rfl rfl rfl, trivial⟩) (by kernel_rfl) fun fr w89 hF hE hc => then_normal ?_)
                          have hs := hs.ext hc
                          have hM0 := hM0.ext hc
                          have hs : Sep [] w89 S1 := Sep.pick [] hs (by decide) rfl
                          obtain rfl := Option.some.inj h
                          exact wp_ret (blk_ret (then_ret (ret1 rfl hF rfl ⟨_, rfl, rfl, hM0.chg⟩)))
                        · replace h := iteF hb h
                          have hs : Sep [] w2 S1 := Sep.pick [] hs (by decide) rfl
                          refine (wp_skip ?_)
                          refine blk_normal (then_normal ?_)
                          refine wp_seq (wp_pure [(6, .bool false)] hF (by kernel_rfl) fun fr hF => then_normal ?_)
                          obtain rfl := Option.some.inj h
                          exact wp_ret (ret1 rfl hF rfl ⟨_, rfl, rfl, hM0.chg⟩)
                      · replace h := iteF hb h
                        refine (wp_pure [(3, .pointer (some ⟨b1, 0, none⟩)), (107, .bool (p0.Op == 14))] hF (by kernel_rfl) fun fr hF => then_normal ?_)
                        refine (wp_if hF (b := (p0.Op == 14)) rfl (fun hb => ?_) (fun hb => ?_))
                        · replace h := iteT hb h
                          refine wp_seq (region_b [] [true, false, true, true, true, false, true, true, true, true, false, true, true, true]
                              [.eq (.pointer (some ⟨b1, 1, none⟩)), .eq (.int .i64 p0.A), .eq (.bool (p0.A == 0)), .eq (.bool (p0.A == 0)), .eq (.pointer (some ⟨b1, 2, none⟩)), .eq (.int .i64 p0.B), .eq (.bool (p0.B == 0)), .eq (.bool ((p0.A == 0) && (p0.B == 0))), .eq (.bool ((p0.A == 0) && (p0.B == 0))), .eq (.pointer (some ⟨b1, 3, none⟩)), .eq (.int .i64 p0.C), .eq (.bool (p0.C == 0)), .eq (.bool (((p0.A == 0) && (p0.B == 0)) && (p0.C == 0))), .eq (.bool (((p0.A == 0) && (p0.B == 0)) && (p0.C == 0)))]
                              [(6, .bool (((p0.A == 0) && (p0.B == 0)) && (p0.C == 0)))] mix hF (by kernel_rfl) (by kernel_rfl) (by kernel_rfl) ⟨Pd.mono_eq, Pd.mono_eq, Pd.mono_eq, trivial⟩ (fun hG => ⟨np_loadBox hG hF ty3 rfl rfl (hs.bx 0 rfl) rfl rfl rfl, np_loadBox hG hF ty3 rfl rfl (hs.bx 0 rfl) rfl rfl rfl, np_loadBox hG hF ty3 rfl rfl (hs.bx 0 rfl) rfl rfl rfl, trivial⟩) (by kernel_rfl) fun fr w90 hF hE hc => then_normal ?_)
                          have hs := hs.ext hc
                          have hM0 := hM0.ext hc
                          have hs : Sep [] w90 S1 := Sep.pick [] hs (by decide) rfl
                          obtain rfl := Option.some.inj h
                          exact wp_ret (blk_ret (then_ret (ret1 rfl hF rfl ⟨_, rfl, rfl, hM0.chg⟩)))
                        · replace h := iteF hb h
                          have hs : Sep [] w2 S1 := Sep.pick [] hs (by decide) rfl
                          refine (wp_skip ?_)
                          refine blk_normal (then_normal ?_)
                          refine wp_seq (wp_pure [(6, .bool false)] hF (by kernel_rfl) fun fr hF => then_normal ?_)
                          obtain rfl := Option.some.inj h
                          exact wp_ret (ret1 rfl hF rfl ⟨_, rfl, rfl, hM0.chg⟩)
            · replace h := iteF hb h
              refine wp_seq (wp_pure [(3, .pointer (some ⟨b1, 0, none⟩)), (7, .bool x1), (13, .int .i64 p0.Op), (62, .bool (p0.Op == 5))] hF (by kernel_rfl) fun fr hF => then_normal ?_)
              refine (wp_if hF (b := (p0.Op == 5)) rfl (fun hb => ?_) (fun hb => ?_))
              · replace h := iteT hb h
                refine (wp_skip (then_normal ?_))
                refine (wp_if hF (b := (p0.Op == 5)) rfl (fun hb => ?_) (fun hb => ?_))
                · replace h := iteT hb h
                  obtain ⟨x46, hx46, h⟩ := bindE h
                  refine wp_seq (region_b [] [true, false, false, true, true, false, true, true, true, true, false, true, true, true]
                      [.eq (.pointer (some ⟨b1, 1, none⟩)), .eq (.int .i64 p0.A), .eq (.bool x46), .eq (.bool x46), .eq (.pointer (some ⟨b1, 2, none⟩)), .eq (.int .i64 p0.B), .eq (.bool (p0.B == 0)), .eq (.bool (x46 && (p0.B == 0))), .eq (.bool (x46 && (p0.B == 0))), .eq (.pointer (some ⟨b1, 3, none⟩)), .eq (.int .i64 p0.C), .eq (.bool (p0.C == 0)), .eq (.bool ((x46 && (p0.B == 0)) && (p0.C == 0))), .eq (.bool ((x46 && (p0.B == 0)) && (p0.C == 0)))]
                      [(6, .bool ((x46 && (p0.B == 0)) && (p0.C == 0)))] mix hF (by kernel_rfl) (by kernel_rfl) (by kernel_rfl) ⟨Pd.mono_eq, Pd.mono_eq, Pd.mono_eq, Pd.mono_eq, trivial⟩ (fun hG => ⟨np_loadBox hG hF ty3 rfl rfl (hs.bx 0 rfl) rfl rfl rfl, np_call [.int .i64 p0.A] hG hF Try.call75 rfl rfl (fun w hC hg => (spec_l05Reg_ok p0.A hx46).mono fun e w' ⟨v, he, hv, hc⟩ => ⟨v, he, hc, hv⟩), np_loadBox hG hF ty3 rfl rfl (hs.bx 0 rfl) rfl rfl rfl, np_loadBox hG hF ty3 rfl rfl (hs.bx 0 rfl) rfl rfl rfl, trivial⟩) (by kernel_rfl) fun fr w91 hF hE hc => then_normal ?_)
                  have hs := hs.ext hc
                  have hM0 := hM0.ext hc
                  have hs : Sep [] w91 S1 := Sep.pick [] hs (by decide) rfl
                  obtain rfl := Option.some.inj h
                  exact wp_ret (blk_ret (then_ret (ret1 rfl hF rfl ⟨_, rfl, rfl, hM0.chg⟩)))
                · replace h := iteF hb h
                  refine wp_seq ?_
                  refine wp_seq (wp_pure [(3, .pointer (some ⟨b1, 0, none⟩)), (7, .bool x1), (13, .int .i64 p0.Op), (80, .bool (p0.Op == 9))] hF (by kernel_rfl) fun fr hF => then_normal ?_)
                  refine (wp_if hF (b := (p0.Op == 9)) rfl (fun hb => ?_) (fun hb => ?_))
                  · replace h := iteT hb h
                    refine (wp_skip (then_normal ?_))
                    refine (wp_if hF (b := (p0.Op == 9)) rfl (fun hb => ?_) (fun hb => ?_))
                    · replace h := iteT hb h
                      refine wp_seq (region_b [] [true, false, true, true, true, true, true, true, false, true, true, true]
                          [.eq (.pointer (some ⟨b1, 1, none⟩)), .eq (.int .i64 p0.A), .eq (.bool (p0.A == 0)), .eq (.bool (p0.A == 0)), .eq (.bool x1), .eq (.bool ((p0.A == 0) && x1)), .eq (.bool ((p0.A == 0) && x1)), .eq (.pointer (some ⟨b1, 3, none⟩)), .eq (.int .i64 p0.C), .eq (.bool (p0.C == 0)), .eq (.bool (((p0.A == 0) && x1) && (p0.C == 0))), .eq (.bool (((p0.A == 0) && x1) && (p0.C == 0)))]
                          [(6, .bool (((p0.A == 0) && x1) && (p0.C == 0)))] mix hF (by kernel_rfl) (by kernel_rfl) (by kernel_rfl) ⟨Pd.mono_eq, Pd.mono_eq, trivial⟩ (fun hG => ⟨np_loadBox hG hF ty3 rfl rfl (hs.bx 0 rfl) rfl rfl rfl, np_loadBox hG hF ty3 rfl rfl (hs.bx 0 rfl) rfl rfl rfl, trivial⟩) (by kernel_rfl) fun fr w92 hF hE hc => then_normal ?_)
                      have hs := hs.ext hc
                      have hM0 := hM0.ext hc
                      have hs : Sep [] w92 S1 := Sep.pick [] hs (by decide) rfl
                      obtain rfl := Option.some.inj h
                      exact wp_ret (blk_ret (then_ret (ret1 rfl hF rfl ⟨_, rfl, rfl, hM0.chg⟩)))
                    · replace h := iteF hb h
                      refine wp_seq (wp_pure [(3, .pointer (some ⟨b1, 0, none⟩)), (7, .bool x1), (13, .int .i64 p0.Op), (94, .bool (p0.Op == 10))] hF (by kernel_rfl) fun fr hF => then_normal ?_)
                      refine (wp_if hF (b := (p0.Op == 10)) rfl (fun hb => ?_) (fun hb => ?_))
                      · replace h := iteT hb h
                        obtain ⟨x47, hx47, h⟩ := bindE h
                        refine wp_seq (region_b [] [true, false, false, true, true, true, true, true, false, true, true, true]
                            [.eq (.pointer (some ⟨b1, 1, none⟩)), .eq (.int .i64 p0.A), .eq (.bool x47), .eq (.bool x47), .eq (.bool x1), .eq (.bool (x47 && x1)), .eq (.bool (x47 && x1)), .eq (.pointer (some ⟨b1, 3, none⟩)), .eq (.int .i64 p0.C), .eq (.bool (p0.C == 0)), .eq (.bool ((x47 && x1) && (p0.C == 0))), .eq (.bool ((x47 && x1) && (p0.C == 0)))]
                            [(6, .bool ((x47 && x1) && (p0.C == 0)))] mix hF (by kernel_rfl) (by kernel_rfl) (by kernel_rfl) ⟨Pd.mono_eq, Pd.mono_eq, Pd.mono_eq, trivial⟩ (fun hG => ⟨np_loadBox hG hF ty3 rfl rfl (hs.bx 0 rfl) rfl rfl rfl, np_call [.int .i64 p0.A] hG hF Try.call75 rfl rfl (fun w hC hg => (spec_l05Reg_ok p0.A hx47).mono fun e w' ⟨v, he, hv, hc⟩ => ⟨v, he, hc, hv⟩), np_loadBox hG hF ty3 rfl rfl (hs.bx 0 rfl) rfl rfl rfl, trivial⟩) (by kernel_rfl) fun fr w93 hF hE hc => then_normal ?_)
                        have hs := hs.ext hc
                        have hM0 := hM0.ext hc
                        have hs : Sep [] w93 S1 := Sep.pick [] hs (by decide) rfl
                        obtain rfl := Option.some.inj h
                        exact wp_ret (blk_ret (then_ret (ret1 rfl hF rfl ⟨_, rfl, rfl, hM0.chg⟩)))
                      · replace h := iteF hb h
                        refine wp_seq ?_
                        refine wp_seq (wp_pure [(3, .pointer (some ⟨b1, 0, none⟩)), (13, .int .i64 p0.Op), (107, .bool (p0.Op == 12))] hF (by kernel_rfl) fun fr hF => then_normal ?_)
                        refine (wp_if hF (b := (p0.Op == 12)) rfl (fun hb => ?_) (fun hb => ?_))
                        · replace h := iteT hb h
                          refine (wp_skip (then_normal ?_))
                          refine (wp_if hF (b := (p0.Op == 12)) rfl (fun hb => ?_) (fun hb => ?_))
                          · replace h := iteT hb h
                            refine wp_seq (region_b [] [true, false, true, true, true, false, true, true, true, true, false, true, true, true]
                                [.eq (.pointer (some ⟨b1, 1, none⟩)), .eq (.int .i64 p0.A), .eq (.bool (p0.A == 0)), .eq (.bool (p0.A == 0)), .eq (.pointer (some ⟨b1, 2, none⟩)), .eq (.int .i64 p0.B), .eq (.bool (p0.B == 0)), .eq (.bool ((p0.A == 0) && (p0.B == 0))), .eq (.bool ((p0.A == 0) && (p0.B == 0))), .eq (.pointer (some ⟨b1, 3, none⟩)), .eq (.int .i64 p0.C), .eq (.bool (p0.C == 0)), .eq (.bool (((p0.A == 0) && (p0.B == 0)) && (p0.C == 0))), .eq (.bool (((p0.A == 0) && (p0.B == 0)) && (p0.C == 0)))]
                                [(6, .bool (((p0.A == 0) && (p0.B == 0)) && (p0.C == 0)))] mix hF (by kernel_rfl) (by kernel_rfl) (by kernel_rfl) ⟨Pd.mono_eq, Pd.mono_eq, Pd.mono_eq, trivial⟩ (fun hG => ⟨np_loadBox hG hF ty3 rfl rfl (hs.bx 0 rfl) rfl rfl rfl, np_loadBox hG hF ty3 rfl rfl (hs.bx 0 rfl) rfl rfl rfl, np_loadBox hG hF ty3 rfl rfl (hs.bx 0 rfl) rfl rfl rfl, trivial⟩) (by kernel_rfl) fun fr w94 hF hE hc => then_normal ?_)
                            have hs := hs.ext hc
                            have hM0 := hM0.ext hc
                            have hs : Sep [] w94 S1 := Sep.pick [] hs (by decide) rfl
                            obtain rfl := Option.some.inj h
                            exact wp_ret (blk_ret (then_ret (ret1 rfl hF rfl ⟨_, rfl, rfl, hM0.chg⟩)))
                          · replace h := iteF hb h
                            have hs : Sep [] w2 S1 := Sep.pick [] hs (by decide) rfl
                            refine (wp_skip ?_)
                            refine blk_normal (then_normal ?_)
                            refine wp_seq (wp_pure [(6, .bool false)] hF (by kernel_rfl) fun fr hF => then_normal ?_)
                            obtain rfl := Option.some.inj h
                            exact wp_ret (ret1 rfl hF rfl ⟨_, rfl, rfl, hM0.chg⟩)
                        · replace h := iteF hb h
                          refine (wp_pure [(3, .pointer (some ⟨b1, 0, none⟩)), (107, .bool (p0.Op == 14))] hF (by kernel_rfl) fun fr hF => then_normal ?_)
                          refine (wp_if hF (b := (p0.Op == 14)) rfl (fun hb => ?_) (fun hb => ?_))
                          · replace h := iteT hb h
                            refine wp_seq (region_b [] [true, false, true, true, true, false, true, true, true, true, false, true, true, true]
                                [.eq (.pointer (some ⟨b1, 1, none⟩)), .eq (.int .i64 p0.A), .eq (.bool (p0.A == 0)), .eq (.bool (p0.A == 0)), .eq (.pointer (some ⟨b1, 2, none⟩)), .eq (.int .i64 p0.B), .eq (.bool (p0.B == 0)), .eq (.bool ((p0.A == 0) && (p0.B == 0))), .eq (.bool ((p0.A == 0) && (p0.B == 0))), .eq (.pointer (some ⟨b1, 3, none⟩)), .eq (.int .i64 p0.C), .eq (.bool (p0.C == 0)), .eq (.bool (((p0.A == 0) && (p0.B == 0)) && (p0.C == 0))), .eq (.bool (((p0.A == 0) && (p0.B == 0)) && (p0.C == 0)))]
                                [(6, .bool (((p0.A == 0) && (p0.B == 0)) && (p0.C == 0)))] mix hF (by kernel_rfl) (by kernel_rfl) (by kernel_rfl) ⟨Pd.mono_eq, Pd.mono_eq, Pd.mono_eq, trivial⟩ (fun hG => ⟨np_loadBox hG hF ty3 rfl rfl (hs.bx 0 rfl) rfl rfl rfl, np_loadBox hG hF ty3 rfl rfl (hs.bx 0 rfl) rfl rfl rfl, np_loadBox hG hF ty3 rfl rfl (hs.bx 0 rfl) rfl rfl rfl, trivial⟩) (by kernel_rfl) fun fr w95 hF hE hc => then_normal ?_)
                            have hs := hs.ext hc
                            have hM0 := hM0.ext hc
                            have hs : Sep [] w95 S1 := Sep.pick [] hs (by decide) rfl
                            obtain rfl := Option.some.inj h
                            exact wp_ret (blk_ret (then_ret (ret1 rfl hF rfl ⟨_, rfl, rfl, hM0.chg⟩)))
                          · replace h := iteF hb h
                            have hs : Sep [] w2 S1 := Sep.pick [] hs (by decide) rfl
                            refine (wp_skip ?_)
                            refine blk_normal (then_normal ?_)
                            refine wp_seq (wp_pure [(6, .bool false)] hF (by kernel_rfl) fun fr hF => then_normal ?_)
                            obtain rfl := Option.some.inj h
                            exact wp_ret (ret1 rfl hF rfl ⟨_, rfl, rfl, hM0.chg⟩)
                  · replace h := iteF hb h
                    refine (wp_pure [(3, .pointer (some ⟨b1, 0, none⟩)), (7, .bool x1), (13, .int .i64 p0.Op), (80, .bool (p0.Op == 11))] hF (by kernel_rfl) fun fr hF => then_normal ?_)
                    refine (wp_if hF (b := (p0.Op == 11)) rfl (fun hb => ?_) (fun hb => ?_))
                    · replace h := iteT hb h
                      refine wp_seq (region_b [] [true, false, true, true, true, true, true, true, false, true, true, true]
                          [.eq (.pointer (some ⟨b1, 1, none⟩)), .eq (.int .i64 p0.A), .eq (.bool (p0.A == 0)), .eq (.bool (p0.A == 0)), .eq (.bool x1), .eq (.bool ((p0.A == 0) && x1)), .eq (.bool ((p0.A == 0) && x1)), .eq (.pointer (some ⟨b1, 3, none⟩)), .eq (.int .i64 p0.C), .eq (.bool (p0.C == 0)), .eq (.bool (((p0.A == 0) && x1) && (p0.C == 0))), .eq (.bool (((p0.A == 0) && x1) && (p0.C == 0)))]
                          [(6, .bool (((p0.A == 0) && x1) && (p0.C == 0)))] mix hF (by kernel_rfl) (by kernel_rfl) (by kernel_rfl) ⟨Pd.mono_eq, Pd.mono_eq, trivial⟩ (fun hG => ⟨np_loadBox hG hF ty3 rfl rfl (hs.bx 0 rfl) rfl rfl rfl, np_loadBox hG hF ty3 rfl rfl (hs.bx 0 rfl) rfl rfl rfl, trivial⟩) (by kernel_rfl) fun fr w96 hF hE hc => then_normal ?_)
                      have hs := hs.ext hc
                      have hM0 := hM0.ext hc
                      have hs : Sep [] w96 S1 := Sep.pick [] hs (by decide) rfl
                      obtain rfl := Option.some.inj h
                      exact wp_ret (blk_ret (then_ret (ret1 rfl hF rfl ⟨_, rfl, rfl, hM0.chg⟩)))
                    · replace h := iteF hb h
                      refine wp_seq (wp_pure [(3, .pointer (some ⟨b1, 0, none⟩)), (7, .bool x1), (13, .int .i64 p0.Op), (94, .bool (p0.Op == 10))] hF (by kernel_rfl) fun fr hF => then_normal ?_)
                      refine (wp_if hF (b := (p0.Op == 10)) rfl (fun hb => ?_) (fun hb => ?_))
                      · replace h := iteT hb h
                        obtain ⟨x48, hx48, h⟩ := bindE h
                        refine wp_seq (region_b [] [true, false, false, true, true, true, true, true, false, true, true, true]
                            [.eq (.pointer (some ⟨b1, 1, none⟩)), .eq (.int .i64 p0.A), .eq (.bool x48), .eq (.bool x48), .eq (.bool x1), .eq (.bool (x48 && x1)), .eq (.bool (x48 && x1)), .eq (.pointer (some ⟨b1, 3, none⟩)), .eq (.int .i64 p0.C), .eq (.bool (p0.C == 0)), .eq (.bool ((x48 && x1) && (p0.C == 0))), .eq (.bool ((x48 && x1) && (p0.C == 0)))]
                            [(6, .bool ((x48 && x1) && (p0.C == 0)))] mix hF (by kernel_rfl) (by kernel_rfl) (by kernel_rfl) ⟨Pd.mono_eq, Pd.mono_eq, Pd.mono_eq, trivial⟩ (fun hG => ⟨np_loadBox hG hF ty3 rfl rfl (hs.bx 0 rfl) rfl rfl rfl, np_call [.int .i64 p0.A] hG hF Try.call75 rfl rfl (fun w hC hg => (spec_l05Reg_ok p0.A hx48).mono fun e w' ⟨v, he, hv, hc⟩ => ⟨v, he, hc, hv⟩), np_loadBox hG hF ty3 rfl rfl (hs.bx 0 rfl) rfl rfl rfl, trivial⟩) (by kernel_rfl) fun fr w97 hF hE hc => then_normal ?_)
                        have hs := hs.ext hc
                        have hM0 := hM0.ext hc
                        have hs : Sep [] w97 S1 := Sep.pick [] hs (by decide) rfl
                        obtain rfl := Option.some.inj h
                        exact wp_ret (blk_ret (then_ret (ret1 rfl hF rfl ⟨_, rfl, rfl, hM0.chg⟩)))
                      · replace h := iteF hb h
                        refine wp_seq ?_
                        refine wp_seq (wp_pure [(3, .pointer (some ⟨b1, 0, none⟩)), (13, .int .i64 p0.Op), (107, .bool (p0.Op == 12))] hF (by kernel_rfl) fun fr hF => then_normal ?_)
                        refine (wp_if hF (b := (p0.Op == 12)) rfl (fun hb => ?_) (fun hb => ?_))
                        · replace h := iteT hb h
                          refine (wp_skip (then_normal ?_))
                          refine (wp_if hF (b := (p0.Op == 12)) rfl (fun hb => ?_) (fun hb => ?_))
                          · replace h := iteT hb h
                            refine wp_seq (region_b [] [true, false, true, true, true, false, true, true, true, true, false, true, true, true]
                                [.eq (.pointer (some ⟨b1, 1, none⟩)), .eq (.int .i64 p0.A), .eq (.bool (p0.A == 0)), .eq (.bool (p0.A == 0)), .eq (.pointer (some ⟨b1, 2, none⟩)), .eq (.int .i64 p0.B), .eq (.bool (p0.B == 0)), .eq (.bool ((p0.A == 0) && (p0.B == 0))), .eq (.bool ((p0.A == 0) && (p0.B == 0))), .eq (.pointer (some ⟨b1, 3, none⟩)), .eq (.int .i64 p0.C), .eq (.bool (p0.C == 0)), .eq (.bool (((p0.A == 0) && (p0.B == 0)) && (p0.C == 0))), .eq (.bool (((p0.A == 0) && (p0.B == 0)) && (p0.C == 0)))]
                                [(6, .bool (((p0.A == 0) && (p0.B == 0)) && (p0.C == 0)))] mix hF (by kernel_rfl) (by kernel_rfl) (by kernel_rfl) ⟨Pd.mono_eq, Pd.mono_eq, Pd.mono_eq, trivial⟩ (fun hG => ⟨np_loadBox hG hF ty3 rfl rfl (hs.bx 0 rfl) rfl rfl rfl, np_loadBox hG hF ty3 rfl rfl (hs.bx 0 rfl) rfl rfl rfl, np_loadBox hG hF ty3 rfl rfl (hs.bx 0 rfl) rfl rfl rfl, trivial⟩) (by kernel_rfl) fun fr w98 hF hE hc => then_normal ?_)
                            have hs := hs.ext hc
                            have hM0 := hM0.ext hc
                            have hs : Sep [] w98 S1 := Sep.pick [] hs (by decide) rfl
                            obtain rfl := Option.some.inj h
                            exact wp_ret (blk_ret (then_ret (ret1 rfl hF rfl ⟨_, rfl, rfl, hM0.chg⟩)))
                          · replace h := iteF hb h
                            have hs : Sep [] w2 S1 := Sep.pick [] hs (by decide) rfl
                            refine (wp_skip ?_)
                            refine blk_normal (then_normal ?_)
                            refine wp_seq (wp_pure [(6, .bool false)] hF (by kernel_rfl) fun fr hF => then_normal ?_)
                            obtain rfl := Option.some.inj h
                            exact wp_ret (ret1 rfl hF rfl ⟨_, rfl, rfl, hM0.chg⟩)
                        · replace h := iteF hb h
                          refine (wp_pure [(3, .pointer (some ⟨b1, 0, none⟩)), (107, .bool (p0.Op == 14))] hF (by kernel_rfl) fun fr hF => then_normal ?_)
                          refine (wp_if hF (b := (p0.Op == 14)) rfl (fun hb => ?_) (fun hb => ?_))
                          · replace h := iteT hb h
                            refine wp_seq (region_b [] [true, false, true, true, true, false, true, true, true, true, false, true, true, true]
                                [.eq (.pointer (some ⟨b1, 1, none⟩)), .eq (.int .i64 p0.A), .eq (.bool (p0.A == 0)), .eq (.bool (p0.A == 0)), .eq (.pointer (some ⟨b1, 2, none⟩)), .eq (.int .i64 p0.B), .eq (.bool (p0.B == 0)), .eq (.bool ((p0.A == 0) && (p0.B == 0))), .eq (.bool ((p0.A == 0) && (p0.B == 0))), .eq (.pointer (some ⟨b1, 3, none⟩)), .eq (.int .i64 p0.C), .eq (.bool (p0.C == 0)), .eq (.bool (((p0.A == 0) && (p0.B == 0)) && (p0.C == 0))), .eq (.bool (((p0.A == 0) && (p0.B == 0)) && (p0.C == 0)))]
                                [(6, .bool (((p0.A == 0) && (p0.B == 0)) && (p0.C == 0)))] mix hF (by kernel_rfl) (by kernel_rfl) (by kernel_rfl) ⟨Pd.mono_eq, Pd.mono_eq, Pd.mono_eq, trivial⟩ (fun hG => ⟨np_loadBox hG hF ty3 rfl rfl (hs.bx 0 rfl) rfl rfl rfl, np_loadBox hG hF ty3 rfl rfl (hs.bx 0 rfl) rfl rfl rfl, np_loadBox hG hF ty3 rfl rfl (hs.bx 0 rfl) rfl rfl rfl, trivial⟩) (by kernel_rfl) fun fr w99 hF hE hc => then_normal ?_)
                            have hs := hs.ext hc
                            have hM0 := hM0.ext hc
                            have hs : Sep [] w99 S1 := Sep.pick [] hs (by decide) rfl
                            obtain rfl := Option.some.inj h
                            exact wp_ret (blk_ret (then_ret (ret1 rfl hF rfl ⟨_, rfl, rfl, hM0.chg⟩)))
                          · replace h := iteF hb h
                            have hs : Sep [] w2 S1 := Sep.pick [] hs (by decide) rfl
                            refine (wp_skip ?_)
                            refine blk_normal (then_normal ?_)
                            refine wp_seq (wp_pure [(6, .bool false)] hF (by kernel_rfl) fun fr hF => then_normal ?_)
                            obtain rfl := Option.some.inj h
                            exact wp_ret (ret1 rfl hF rfl ⟨_, rfl, rfl, hM0.chg⟩)
              · replace h := iteF hb h
                refine wp_seq (wp_pure [(3, .pointer (some ⟨b1, 0, none⟩)), (7, .bool x1), (13, .int .i64 p0.Op), (62, .bool (p0.Op == 6))] hF (by kernel_rfl) fun fr hF => then_normal ?_)
                refine (wp_if hF (b := (p0.Op == 6)) rfl (fun hb => ?_) (fun hb => ?_))
                · replace h := iteT hb h
                  refine (wp_skip (then_normal ?_))
                  refine (wp_if hF (b := (p0.Op == 6)) rfl (fun hb => ?_) (fun hb => ?_))
                  · replace h := iteT hb h
                    obtain ⟨x49, hx49, h⟩ := bindE h
                    refine wp_seq (region_b [] [true, false, false, true, true, false, true, true, true, true, false, true, true, true]
                        [.eq (.pointer (some ⟨b1, 1, none⟩)), .eq (.int .i64 p0.A), .eq (.bool x49), .eq (.bool x49), .eq (.pointer (some ⟨b1, 2, none⟩)), .eq (.int .i64 p0.B), .eq (.bool (p0.B == 0)), .eq (.bool (x49 && (p0.B == 0))), .eq (.bool (x49 && (p0.B == 0))), .eq (.pointer (some ⟨b1, 3, none⟩)), .eq (.int .i64 p0.C), .eq (.bool (p0.C == 0)), .eq (.bool ((x49 && (p0.B == 0)) && (p0.C == 0))), .eq (.bool ((x49 && (p0.B == 0)) && (p0.C == 0)))]
                        [(6, .bool ((x49 && (p0.B == 0)) && (p0.C == 0)))] mix hF (by kernel_rfl) (by kernel_rfl) (by kernel_rfl) ⟨Pd.mono_eq, Pd.mono_eq, Pd.mono_eq, Pd.mono_eq, trivial⟩ (fun hG => ⟨np_loadBox hG hF ty3 rfl rfl (hs.bx 0 rfl) rfl rfl rfl, np_call [.int .i64 p0.A] hG hF Try.call75 rfl rfl (fun w hC hg => (spec_l05Reg_ok p0.A hx49).mono fun e w' ⟨v, he, hv, hc⟩ => ⟨v, he, hc, hv⟩), np_loadBox hG hF ty3 rfl rfl (hs.bx 0 rfl) rfl rfl rfl, np_loadBox hG hF ty3 rfl rfl (hs.bx 0 rfl) rfl rfl rfl, trivial⟩) (by kernel_rfl) fun fr w100 hF hE hc => then_normal ?_)
                    have hs := hs.ext hc
                    have hM0 := hM0.ext hc
                    have hs : Sep [] w100 S1 := Sep.pick [] hs (by decide) rfl
                    obtain rfl := Option.some.inj h
                    exact wp_ret (blk_ret (then_ret (ret1 rfl hF rfl ⟨_, rfl, rfl, hM0.chg⟩)))
                  · replace h := iteF hb h
                    refine wp_seq ?_
                    refine wp_seq (wp_pure [(3, .pointer (some ⟨b1, 0, none⟩)), (7, .bool x1), (13, .int .i64 p0.Op), (80, .bool (p0.Op == 9))] hF (by kernel_rfl) fun fr hF => then_normal ?_)
                    refine (wp_if hF (b := (p0.Op == 9)) rfl (fun hb => ?_) (fun hb => ?_))
                    · replace h := iteT hb h
                      refine (wp_skip (then_normal ?_))
                      refine (wp_if hF (b := (p0.Op == 9)) rfl (fun hb => ?_) (fun hb => ?_))
                      · replace h := iteT hb h
                        refine wp_seq (region_b [] [true, false, true, true, true, true, true, true, false, true, true, true]
                            [.eq (.pointer (some ⟨b1, 1, none⟩)), .eq (.int .i64 p0.A), .eq (.bool (p0.A == 0)), .eq (.bool (p0.A == 0)), .eq (.bool x1), .eq (.bool ((p0.A == 0) && x1)), .eq (.bool ((p0.A == 0) && x1)), .eq (.pointer (some ⟨b1, 3, none⟩)), .eq (.int .i64 p0.C), .eq (.bool (p0.C == 0)), .eq (.bool (((p0.A == 0) && x1) && (p0.C == 0))), .eq (.bool (((p0.A == 0) && x1) && (p0.C == 0)))]
                            [(6, .bool (((p0.A == 0) && x1) && (p0.C == 0)))] mix hF (by kernel_rfl) (by kernel_rfl) (by kernel_rfl) ⟨Pd.mono_eq, Pd.mono_eq, trivial⟩ (fun hG => ⟨np_loadBox hG hF ty3 rfl rfl (hs.bx 0 rfl) rfl rfl rfl, np_loadBox hG hF ty3 rfl rfl (hs.bx 0 rfl) rfl rfl rfl, trivial⟩) (by kernel_rfl) fun fr w101 hF hE hc => then_normal ?_)
                        have hs := hs.ext hc
                        have hM0 := hM0.ext hc
                        have hs : Sep [] w101 S1 := Sep.pick [] hs (by decide) rfl
                        obtain rfl := Option.some.inj h
                        exact wp_ret (blk_ret (then_ret (ret1 rfl hF rfl ⟨_, rfl, rfl, hM0.chg⟩)))
                      · replace h := iteF hb h
                        refine wp_seq (wp_pure [(3, .pointer (some ⟨b1, 0, none⟩)), (7, .bool x1), (13, .int .i64 p0.Op), (94, .bool (p0.Op == 10))] hF (by kernel_rfl) fun fr hF => then_normal ?_)
                        refine (wp_if hF (b := (p0.Op == 10)) rfl (fun hb => ?_) (fun hb => ?_))
                        · replace h := iteT hb h
                          obtain ⟨x50, hx50, h⟩ := bindE h
                          refine wp_seq (region_b [] [true, false, false, true, true, true, true, true, false, true, true, true]
                              [.eq (.pointer (some ⟨b1, 1, none⟩)), .eq (.int .i64 p0.A), .eq (.bool x50), .eq (.bool x50), .eq (.bool x1), .eq (.bool (x50 && x1)), .eq (.bool (x50 && x1)), .eq (.pointer (some ⟨b1, 3, none⟩)), .eq (.int .i64 p0.C), .eq (.bool (p0.C == 0)), .eq (.bool ((x50 && x1) && (p0.C == 0))), .eq (.bool ((x50 && x1) && (p0.C == 0)))]
                              [(6, .bool ((x50 && x1) && (p0.C == 0)))] mix hF (by kernel_rfl) (by kernel_rfl) (by kernel_rfl) ⟨Pd.mono_eq, Pd.mono_eq, Pd.mono_eq, trivial⟩ (fun hG => ⟨np_loadBox hG hF ty3 rfl rfl (hs.bx 0 rfl) rfl rfl rfl, np_call [.int .i64 p0.A] hG hF Try.call75 rfl rfl (fun w hC hg => (spec_l05Reg_ok p0.A hx50).mono fun e w' ⟨v, he, hv, hc⟩ => ⟨v, he, hc, hv⟩), np_loadBox hG hF ty3 rfl rfl (hs.bx 0 rfl) rfl rfl rfl, trivial⟩) (by kernel_rfl) fun fr w102 hF hE hc => then_normal ?_)
                          have hs := hs.ext hc
                          have hM0 := hM0.ext hc
                          have hs : Sep [] w102 S1 := Sep.pick [] hs (by decide) rfl
                          obtain rfl := Option.some.inj h
                          exact wp_ret (blk_ret (then_ret (ret1 rfl hF rfl ⟨_, rfl, rfl, hM0.chg⟩)))
                        · replace h := iteF hb h
                          refine wp_seq ?_
                          refine wp_seq (wp_pure [(3, .pointer (some ⟨b1, 0, none⟩)), (13, .int .i64 p0.Op), (107, .bool (p0.Op == 12))] hF (by kernel_rfl) fun fr hF => then_normal ?_)
                          refine (wp_if hF (b := (p0.Op == 12)) rfl (fun hb => ?_) (fun hb => ?_))
                          · replace h := iteT hb h
                            refine (wp_skip (then_normal ?_))
                            refine (wp_if hF (b := (p0.Op == 12)) rfl (fun hb => ?_) (fun hb => ?_))
                            · replace h := iteT hb h
                              refine wp_seq (region_b [] [true, false, true, true, true, false, true, true, true, true, false, true, true, true]
                                  [.eq (.pointer (some ⟨b1, 1, none⟩)), .eq (.int .i64 p0.A), .eq (.bool (p0.A == 0)), .eq (.bool (p0.A == 0)), .eq (.pointer (some ⟨b1, 2, none⟩)), .eq (.int .i64 p0.B), .eq (.bool (p0.B == 0)), .eq (.bool ((p0.A == 0) && (p0.B == 0))), .eq (.bool ((p0.A == 0) && (p0.B == 0))), .eq (.pointer (some ⟨b1, 3, none⟩)), .eq (.int .i64 p0.C), .eq (.bool (p0.C == 0)), .eq (.bool (((p0.A == 0) && (p0.B == 0)) && (p0.C == 0))), .eq (.bool (((p0.A == 0) && (p0.B == 0)) && (p0.C == 0)))]
                                  [(6, .bool (((p0.A == 0) && (p0.B == 0)) && (p0.C == 0)))] mix hF (by kernel_rfl) (by kernel_rfl) (by kernel_rfl) ⟨Pd.mono_eq, Pd.mono_eq, Pd.mono_eq, trivial⟩ (fun hG => ⟨np_loadBox hG hF ty3 rfl rfl (hs.bx 0 rfl) rfl rfl rfl, np_loadBox hG hF ty3 rfl rfl (hs.bx 0 rfl) rfl rfl rfl, np_loadBox hG hF ty3 rfl rfl (hs.bx 0 rfl) rfl rfl rfl, trivial⟩) (by kernel_rfl) fun fr w103 hF hE hc => then_normal ?_)
                              have hs := hs.ext hc
                              have hM0 := hM0.ext hc
                              have hs : Sep [] w103 S1 := Sep.pick [] hs (by decide) rfl
                              obtain rfl := Option.some.inj h
                              exact wp_ret (blk_ret (then_ret (ret1 rfl hF rfl ⟨_, rfl, rfl, hM0.chg⟩)))
                            · replace h := iteF hb h
                              have hs : Sep [] w2 S1 := Sep.pick [] hs (by decide) rfl
                              refine (wp_skip ?_)
                              refine blk_normal (then_normal ?_)
                              refine wp_seq (wp_pure [(6, .bool false)] hF (by kernel_rfl) fun fr hF => then_normal ?_)
                              obtain rfl := Option.some.inj h
                              exact wp_ret (ret1 rfl hF rfl ⟨_, rfl, rfl, hM0.chg⟩)
                          · replace h := iteF hb h
                            refine (wp_pure [(3, .pointer (some ⟨b1, 0, none⟩)), (107, .bool (p0.Op == 14))] hF (by kernel_rfl) fun fr hF => then_normal ?_)
                            refine (wp_if hF (b := (p0.Op == 14)) rfl (fun hb => ?_) (fun hb => ?_))
                            · replace h := iteT hb h
                              refine wp_seq (region_b [] [true, false, true, true, true, false, true, true, true, true, false, true, true, true]
                                  [.eq (.pointer (some ⟨b1, 1, none⟩)), .eq (.int .i64 p0.A), .eq (.bool (p0.A == 0)), .eq (.bool (p0.A == 0)), .eq (.pointer (some ⟨b1, 2, none⟩)), .eq (.int .i64 p0.B), .eq (.bool (p0.B == 0)), .eq (.bool ((p0.A == 0) && (p0.B == 0))), .eq (.bool ((p0.A == 0) && (p0.B == 0))), .eq (.pointer (some ⟨b1, 3, none⟩)), .eq (.int .i64 p0.C), .eq (.bool (p0.C == 0)), .eq (.bool (((p0.A == 0) && (p0.B == 0)) && (p0.C == 0))), .eq (.bool (((p0.A == 0) && (p0.B == 0)) && (p0.C == 0)))]
                                  [(6, .bool (((p0.A == 0) && (p0.B == 0)) && (p0.C == 0)))] mix hF (by kernel_rfl) (by kernel_rfl) (by kernel_rfl) ⟨Pd.mono_eq, Pd.mono_eq, Pd.mono_eq, trivial⟩ (fun hG => ⟨np_loadBox hG hF ty3 rfl rfl (hs.bx 0 rfl) rfl rfl rfl, np_loadBox hG hF ty3 rfl rfl (hs.bx 0 rfl) rfl rfl rfl, np_loadBox hG hF ty3 rfl rfl (hs.bx 0 rfl) rfl rfl rfl, trivial⟩) (by kernel_rfl) fun fr w104 hF hE hc => then_normal ?_)
                              have hs := hs.ext hc
                              have hM0 := hM0.ext hc
                              have hs : Sep [] w104 S1 := Sep.pick [] hs (by decide) rfl
                              obtain rfl := Option.some.inj h
                              exact wp_ret (blk_ret (then_ret (ret1 rfl hF rfl ⟨_, rfl, rfl, hM0.chg⟩)))
                            · replace h := iteF hb h
                              have hs : Sep [] w2 S1 := Sep.pick [] hs (by decide) rfl
                              refine (wp_skip ?_)
                              refine blk_normal (then_normal ?_)
                              refine wp_seq (wp_pure [(6, .bool false)] hF (by kernel_rfl) fun fr hF => then_normal ?_)
                              obtain rfl := Option.some.inj h
                              exact wp_ret (ret1 rfl hF rfl ⟨_, rfl, rfl, hM0.chg⟩)
                    · replace h := iteF hb h
                      refine (wp_pure [(3, .pointer (some ⟨b1, 0, none⟩)), (7, .bool x1), (13, .int .i64 p0.Op), (80, .bool (p0.Op == 11))] hF (by kernel_rfl) fun fr hF => then_normal ?_)
                      refine (wp_if hF (b := (p0.Op == 11)) rfl (fun hb => ?_) (fun hb => ?_))
                      · replace h := iteT hb h
                        refine wp_seq (region_b [] [true, false, true, true, true, true, true, true, false, true, true, true]
                            [.eq (.pointer (some ⟨b1, 1, none⟩)), .eq (.int .i64 p0.A), .eq (.bool (p0.A == 0)), .eq (.bool (p0.A == 0)), .eq (.bool x1), .eq (.bool ((p0.A == 0) && x1)), .eq (.bool ((p0.A == 0) && x1)), .eq (.pointer (some ⟨b1, 3, none⟩)), .eq (.int .i64 p0.C), .eq (.bool (p0.C == 0)), .eq (.bool (((p0.A == 0) && x1) && (p0.C == 0))), .eq (.bool (((p0.A == 0) && x1) && (p0.C == 0)))]
                            [(6, .bool (((p0.A == 0) && x1) && (p0.C == 0)))] mix hF (by kernel_rfl) (by kernel_rfl) (by kernel_rfl) ⟨Pd.mono_eq, Pd.mono_eq, trivial⟩ (fun hG => ⟨np_loadBox hG hF ty3 rfl rfl (hs.bx 0 rfl) rfl rfl rfl, np_loadBox hG hF ty3 rfl rfl (hs.bx 0 rfl) rfl rfl rfl, trivial⟩) (by kernel_rfl) fun fr w105 hF hE hc => then_normal ?_)
                        have hs := hs.ext hc
                        have hM0 := hM0.ext hc
                        have hs : Sep [] w105 S1 := Sep.pick [] hs (by decide) rfl
                        obtain rfl := Option.some.inj h
                        exact wp_ret (blk_ret (then_ret (ret1 rfl hF rfl ⟨_, rfl, rfl, hM0.chg⟩)))
                      · replace h := iteF hb h
                        refine wp_seq (wp_pure [(3, .pointer (some ⟨b1, 0, none⟩)), (7, .bool x1), (13, .int .i64 p0.Op), (94, .bool (p0.Op == 10))] hF (by kernel_rfl) fun fr hF => then_normal ?_)
                        refine (wp_if hF (b := (p0.Op == 10)) rfl (fun hb => ?_) (fun hb => ?_))
                        · replace h := iteT hb h
                          obtain ⟨x51, hx51, h⟩ := bindE h
                          refine wp_seq (region_b [] [true, false, false, true, true, true, true, true, false, true, true, true]
                              [.eq (.pointer (some ⟨b1, 1, none⟩)), .eq (.int .i64 p0.A), .eq (.bool x51), .eq (.bool x51), .eq (.bool x1), .eq (.bool (x51 && x1)), .eq (.bool (x51 && x1)), .eq (.pointer (some ⟨b1, 3, none⟩)), .eq (.int .i64 p0.C), .eq (.bool (p0.C == 0)), .eq (.bool ((x51 && x1) && (p0.C == 0))), .eq (.bool ((x51 && x1) && (p0.C == 0)))]
                              [(6, .bool ((x51 && x1) && (p0.C == 0)))] mix hF (by kernel_rfl) (by kernel_rfl) (by kernel_rfl) ⟨Pd.mono_eq, Pd.mono_eq, Pd.mono_eq, trivial⟩ (fun hG => ⟨np_loadBox hG hF ty3 rfl rfl (hs.bx 0 rfl) rfl rfl rfl, np_call [.int .i64 p0.A] hG hF Try.call75 rfl rfl (fun w hC hg => (spec_l05Reg_ok p0.A hx51).mono fun e w' ⟨v, he, hv, hc⟩ => ⟨v, he, hc, hv⟩), np_loadBox hG hF ty3 rfl rfl (hs.bx 0 rfl) rfl rfl rfl, trivial⟩) (by kernel_rfl) fun fr w106 hF hE hc => then_normal ?_)
                          have hs := hs.ext hc
                          have hM0 := hM0.ext hc
                          have hs : Sep [] w106 S1 := Sep.pick [] hs (by decide) rfl
                          obtain rfl := Option.some.inj h
                          exact wp_ret (blk_ret (then_ret (ret1 rfl hF rfl ⟨_, rfl, rfl, hM0.chg⟩)))
                        · replace h := iteF hb h
                          refine wp_seq ?_
                          refine wp_seq (wp_pure [(3, .pointer (some ⟨b1, 0, none⟩)), (13, .int .i64 p0.Op), (107, .bool (p0.Op == 12))] hF (by kernel_rfl) fun fr hF => then_normal ?_)
                          refine (wp_if hF (b := (p0.Op == 12)) rfl (fun hb => ?_) (fun hb => ?_))
                          · replace h := iteT hb h
                            refine (wp_skip (then_normal ?_))
                            refine (wp_if hF (b := (p0.Op == 12)) rfl (fun hb => ?_) (fun hb => ?_))
                            · replace h := iteT hb h
                              refine wp_seq (region_b [] [true, false, true, true, true, false, true, true, true, true, false, true, true, true]
                                  [.eq (.pointer (some ⟨b1, 1, none⟩)), .eq (.int .i64 p0.A), .eq (.bool (p0.A == 0)), .eq (.bool (p0.A == 0)), .eq (.pointer (some ⟨b1, 2, none⟩)), .eq (.int .i64 p0.B), .eq (.bool (p0.B == 0)), .eq (.bool ((p0.A == 0) && (p0.B == 0))), .eq (.bool ((p0.A == 0) && (p0.B == 0))), .eq (.pointer (some ⟨b1, 3, none⟩)), .eq (.int .i64 p0.C), .eq (.bool (p0.C == 0)), .eq (.bool (((p0.A == 0) && (p0.B == 0)) && (p0.C == 0))), .eq (.bool (((p0.A == 0) && (p0.B == 0)) && (p0.C == 0)))]
                                  [(6, .bool (((p0.A == 0) && (p0.B == 0)) && (p0.C == 0)))] mix hF (by kernel_rfl) (by kernel_rfl) (by kernel_rfl) ⟨Pd.mono_eq, Pd.mono_eq, Pd.mono_eq, trivial⟩ (fun hG => ⟨np_loadBox hG hF ty3 rfl rfl (hs.bx 0 rfl) rfl rfl rfl, np_loadBox hG hF ty3 rfl rfl (hs.bx 0 rfl) rfl rfl rfl, np_loadBox hG hF ty3 rfl rfl (hs.bx 0 rfl) rfl rfl rfl, trivial⟩) (by kernel_rfl) fun fr w107 hF hE hc => then_normal ?_)
                              have hs := hs.ext hc
                              have hM0 := hM0.ext hc
                              have hs : Sep [] w107 S1 := Sep.pick [] hs (by decide) rfl
                              obtain rfl := Option.some.inj h
                              exact wp_ret (blk_ret (then_ret (ret1 rfl hF rfl ⟨_, rfl, rfl, hM0.chg⟩)))
                            · replace h := iteF hb h
                              have hs : Sep [] w2 S1 := Sep.pick [] hs (by decide) rfl
                              refine (wp_skip ?_)
                              refine blk_normal (then_normal ?_)
                              refine wp_seq (wp_pure [(6, .bool false)] hF (by kernel_rfl) fun fr hF => then_normal ?_)
                              obtain rfl := Option.some.inj h
                              exact wp_ret (ret1 rfl hF rfl ⟨_, rfl, rfl, hM0.chg⟩)
                          · replace h := iteF hb h
                            refine (wp_pure [(3, .pointer (some ⟨b1, 0, none⟩)), (107, .bool (p0.Op == 14))] hF (by kernel_rfl) fun fr hF => then_normal ?_)
                            refine (wp_if hF (b := (p0.Op == 14)) rfl (fun hb => ?_) (fun hb => ?_))
                            · replace h := iteT hb h
                              refine wp_seq (region_b [] [true, false, true, true, true, false, true, true, true, true, false, true, true, true]
                                  [.eq (.pointer (some ⟨b1, 1, none⟩)), .eq (.int .i64 p0.A), .eq (.bool (p0.A == 0)), .eq (.bool (p0.A == 0)), .eq (.pointer (some ⟨b1, 2, none⟩)), .eq (.int .i64 p0.B), .eq (.bool (p0.B == 0)), .eq (.bool ((p0.A == 0) && (p0.B == 0))), .eq (.bool ((p0.A == 0) && (p0.B == 0))), .eq (.pointer (some ⟨b1, 3, none⟩)), .eq (.int .i64 p0.C), .eq (.bool (p0.C == 0)), .eq (.bool (((p0.A == 0) && (p0.B == 0)) && (p0.C == 0))), .eq (.bool (((p0.A == 0) && (p0.B == 0)) && (p0.C == 0)))]
                                  [(6, .bool (((p0.A == 0) && (p0.B == 0)) && (p0.C == 0)))] mix hF (by kernel_rfl) (by kernel_rfl) (by kernel_rfl) ⟨Pd.mono_eq, Pd.mono_eq, Pd.mono_eq, trivial⟩ (fun hG => ⟨np_loadBox hG hF ty3 rfl rfl (hs.bx 0 rfl) rfl rfl rfl, np_loadBox hG hF ty3 rfl rfl (hs.bx 0 rfl) rfl rfl rfl, np_loadBox hG hF ty3 rfl rfl (hs.bx 0 rfl) rfl rfl rfl, trivial⟩) (by kernel_rfl) fun fr w108 hF hE hc => then_normal ?_)
                              have hs := hs.ext hc
                              have hM0 := hM0.ext hc
                              have hs : Sep [] w108 S1 := Sep.pick [] hs (by decide) rfl
                              obtain rfl := Option.some.inj h
                              exact wp_ret (blk_ret (then_ret (ret1 rfl hF rfl ⟨_, rfl, rfl, hM0.chg⟩)))
                            · replace h := iteF hb h
                              have hs : Sep [] w2 S1 := Sep.pick [] hs (by decide) rfl
                              refine (wp_skip ?_)
                              refine blk_normal (then_normal ?_)
                              refine wp_seq (wp_pure [(6, .bool false)] hF (by kernel_rfl) fun fr hF => then_normal ?_)
                              obtain rfl := Option.some.inj h
                              exact wp_ret (ret1 rfl hF rfl ⟨_, rfl, rfl, hM0.chg⟩)
                · replace h := iteF hb h
                  refine (wp_pure [(3, .pointer (some ⟨b1, 0, none⟩)), (7, .bool x1), (13, .int .i64 p0.Op), (62, .bool (p0.Op == 13))] hF (by kernel_rfl) fun fr hF => then_normal ?_)
                  refine (wp_if hF (b := (p0.Op == 13)) rfl (fun hb => ?_) (fun hb => ?_))
                  · replace h := iteT hb h
                    obtain ⟨x52, hx52, h⟩ := bindE h
                    refine wp_seq (region_b [] [true, false, false, true, true, false, true, true, true, true, false, true, true, true]
                        [.eq (.pointer (some ⟨b1, 1, none⟩)), .eq (.int .i64 p0.A), .eq (.bool x52), .eq (.bool x52), .eq (.pointer (some ⟨b1, 2, none⟩)), .eq (.int .i64 p0.B), .eq (.bool (p0.B == 0)), .eq (.bool (x52 && (p0.B == 0))), .eq (.bool (x52 && (p0.B == 0))), .eq (.pointer (some ⟨b1, 3, none⟩)), .eq (.int .i64 p0.C), .eq (.bool (p0.C == 0)), .eq (.bool ((x52 && (p0.B == 0)) && (p0.C == 0))), .eq (.bool ((x52 && (p0.B == 0)) && (p0.C == 0)))]
                        [(6, .bool ((x52 && (p0.B == 0)) && (p0.C == 0)))] mix hF (by kernel_rfl) (by kernel_rfl) (by kernel_rfl) ⟨Pd.mono_eq, Pd.mono_eq, Pd.mono_eq, Pd.mono_eq, trivial⟩ (fun hG => ⟨np_loadBox hG hF ty3 rfl rfl (hs.bx 0 rfl) rfl rfl rfl, np_call [.int .i64 p0.A] hG hF Try.call75 rfl rfl (fun w hC hg => (spec_l05Reg_ok p0.A hx52).mono fun e w' ⟨v, he, hv, hc⟩ => ⟨v, he, hc, hv⟩), np_loadBox hG hF ty3 rfl rfl (hs.bx 0 rfl) rfl rfl rfl, np_loadBox hG hF ty3 rfl rfl (hs.bx 0 rfl) rfl rfl rfl, trivial⟩) (by kernel_rfl) fun fr w109 hF hE hc => then_normal ?_)
                    have hs := hs.ext hc
                    have hM0 := hM0.ext hc
                    have hs : Sep [] w109 S1 := Sep.pick [] hs (by decide) rfl
                    obtain rfl := Option.some.inj h
                    exact wp_ret (blk_ret (then_ret (ret1 rfl hF rfl ⟨_, rfl, rfl, hM0.chg⟩)))
                  · replace h := iteF hb h
                    refine wp_seq ?_
                    refine wp_seq (wp_pure [(3, .pointer (some ⟨b1, 0, none⟩)), (7, .bool x1), (13, .int .i64 p0.Op), (80, .bool (p0.Op == 9))] hF (by kernel_rfl) fun fr hF => then_normal ?_)
                    refine (wp_if hF (b := (p0.Op == 9)) rfl (fun hb => ?_) (fun hb => ?_))
                    · replace h := iteT hb h
                      refine (wp_skip (then_normal ?_))
                      refine (wp_if hF (b := (p0.Op == 9)) rfl (fun hb => ?_) (fun hb => ?_))
                      · replace h := iteT hb h
                        refine wp_seq (region_b [] [true, false, true, true, true, true, true, true, false, true, true, true]
                            [.eq (.pointer (some ⟨b1, 1, none⟩)), .eq (.int .i64 p0.A), .eq (.bool (p0.A == 0)), .eq (.bool (p0.A == 0)), .eq (.bool x1), .eq (.bool ((p0.A == 0) && x1)), .eq (.bool ((p0.A == 0) && x1)), .eq (.pointer (some ⟨b1, 3, none⟩)), .eq (.int .i64 p0.C), .eq (.bool (p0.C == 0)), .eq (.bool (((p0.A == 0) && x1) && (p0.C == 0))), .eq (.bool (((p0.A == 0) && x1) && (p0.C == 0)))]
                            [(6, .bool (((p0.A == 0) && x1) && (p0.C == 0)))] mix hF (by kernel_rfl) (by kernel_rfl) (by kernel_rfl) ⟨Pd.mono_eq, Pd.mono_eq, trivial⟩ (fun hG => ⟨np_loadBox hG hF ty3 rfl rfl (hs.bx 0 rfl) rfl rfl rfl, np_loadBox hG hF ty3 rfl rfl (hs.bx 0 rfl) rfl rfl rfl, trivial⟩) (by kernel_rfl) fun fr w110 hF hE hc => then_normal ?_)
                        have hs := hs.ext hc
                        have hM0 := hM0.ext hc
                        have hs : Sep [] w110 S1 := Sep.pick [] hs (by decide) rfl
                        obtain rfl := Option.some.inj h
                        exact wp_ret (blk_ret (then_ret (ret1 rfl hF rfl ⟨_, rfl, rfl, hM0.chg⟩)))
                      · replace h := iteF hb h
                        refine wp_seq (wp_pure [(3, .pointer (some ⟨b1, 0, none⟩)), (7, .bool x1), (13, .int .i64 p0.Op), (94, .bool (p0.Op == 10))] hF (by kernel_rfl) fun fr hF => then_normal ?_)
                        refine (wp_if hF (b := (p0.Op == 10)) rfl (fun hb => ?_) (fun hb => ?_))
                        · replace h := iteT hb h
                          obtain ⟨x53, hx53, h⟩ := bindE h
                          refine wp_seq (region_b [] [true, false, false, true, true, true, true, true, false, true, true, true]
                              [.eq (.pointer (some ⟨b1, 1, none⟩)), .eq (.int .i64 p0.A), .eq (.bool x53), .eq (.bool x53), .eq (.bool x1), .eq (.bool (x53 && x1)), .eq (.bool (x53 && x1)), .eq (.pointer (some ⟨b1, 3, none⟩)), .eq (.int .i64 p0.C), .eq (.bool (p0.C == 0)), .eq (.bool ((x53 && x1) && (p0.C == 0))), .eq (.bool ((x53 && x1) && (p0.C == 0)))]
                              [(6, .bool ((x53 && x1) && (p0.C == 0)))] mix hF (by kernel_rfl) (by kernel_rfl) (by kernel_rfl) ⟨Pd.mono_eq, Pd.mono_eq, Pd.mono_eq, trivial⟩ (fun hG => ⟨np_loadBox hG hF ty3 rfl rfl (hs.bx 0 rfl) rfl rfl rfl, np_call [.int .i64 p0.A] hG hF Try.call75 rfl rfl (fun w hC hg => (spec_l05Reg_ok p0.A hx53).mono fun e w' ⟨v, he, hv, hc⟩ => ⟨v, he, hc, hv⟩), np_loadBox hG hF ty3 rfl rfl (hs.bx 0 rfl) rfl rfl rfl, trivial⟩) (by kernel_rfl) fun fr w111 hF hE hc => then_normal ?_)
                          have hs := hs.ext hc
                          have hM0 := hM0.ext hc
                          have hs : Sep [] w111 S1 := Sep.pick [] hs (by decide) rfl
                          obtain rfl := Option.some.inj h
                          exact wp_ret (blk_ret (then_ret (ret1 rfl hF rfl ⟨_, rfl, rfl, hM0.chg⟩)))
                        · replace h := iteF hb h
                          refine wp_seq ?_
                          refine wp_seq (wp_pure [(3, .pointer (some ⟨b1, 0, none⟩)), (13, .int .i64 p0.Op), (107, .bool (p0.Op == 12))] hF (by kernel_rfl) fun fr hF => then_normal ?_)
                          refine (wp_if hF (b := (p0.Op == 12)) rfl (fun hb => ?_) (fun hb => ?_))
                          · replace h := iteT hb h
                            refine (wp_skip (then_normal ?_))
                            refine (wp_if hF (b := (p0.Op == 12)) rfl (fun hb => ?_) (fun hb => ?_))
                            · replace h := iteT hb h
                              refine wp_seq (region_b [] [true, false, true, true, true, false, true, true, true, true, false, true, true, true]
                                  [.eq (.pointer (some ⟨b1, 1, none⟩)), .eq (.int .i64 p0.A), .eq (.bool (p0.A == 0)), .eq (.bool (p0.A == 0)), .eq (.pointer (some ⟨b1, 2, none⟩)), .eq (.int .i64 p0.B), .eq (.bool (p0.B == 0)), .eq (.bool ((p0.A == 0) && (p0.B == 0))), .eq (.bool ((p0.A == 0) && (p0.B == 0))), .eq (.pointer (some ⟨b1, 3, none⟩)), .eq (.int .i64 p0.C), .eq (.bool (p0.C == 0)), .eq (.bool (((p0.A == 0) && (p0.B == 0)) && (p0.C == 0))), .eq (.bool (((p0.A == 0) && (p0.B == 0)) && (p0.C == 0)))]
                                  [(6, .bool (((p0.A == 0) && (p0.B == 0)) && (p0.C == 0)))] mix hF (by kernel_rfl) (by kernel_rfl) (by kernel_rfl) ⟨Pd.mono_eq, Pd.mono_eq, Pd.mono_eq, trivial⟩ (fun hG => ⟨np_loadBox hG hF ty3 rfl rfl (hs.bx 0 rfl) rfl rfl rfl, np_loadBox hG hF ty3 rfl rfl (hs.bx 0 rfl) rfl rfl rfl, np_loadBox hG hF ty3 rfl rfl (hs.bx 0 rfl) rfl rfl rfl, trivial⟩) (by kernel_rfl) fun fr w112 hF hE hc => then_normal ?_)
                              have hs := hs.ext hc
                              have hM0 := hM0.ext hc
                              have hs : Sep [] w112 S1 := Sep.pick [] hs (by decide) rfl
                              obtain rfl := Option.some.inj h
                              exact wp_ret (blk_ret (then_ret (ret1 rfl hF rfl ⟨_, rfl, rfl, hM0.chg⟩)))
                            · replace h := iteF hb h
                              have hs : Sep [] w2 S1 := Sep.pick [] hs (by decide) rfl
                              refine (wp_skip ?_)
                              refine blk_normal (then_normal ?_)
                              refine wp_seq (wp_pure [(6, .bool false)] hF (by kernel_rfl) fun fr hF => then_normal ?_)
                              obtain rfl := Option.some.inj h
                              exact wp_ret (ret1 rfl hF rfl ⟨_, rfl, rfl, hM0.chg⟩)
                          · replace h := iteF hb h
                            refine (wp_pure [(3, .pointer (some ⟨b1, 0, none⟩)), (107, .bool (p0.Op == 14))] hF (by kernel_rfl) fun fr hF => then_normal ?_)
                            refine (wp_if hF (b := (p0.Op == 14)) rfl (fun hb => ?_) (fun hb => ?_))
                            · replace h := iteT hb h
                              refine wp_seq (region_b [] [true, false, true, true, true, false, true, true, true, true, false, true, true, true]
                                  [.eq (.pointer (some ⟨b1, 1, none⟩)), .eq (.int .i64 p0.A), .eq (.bool (p0.A == 0)), .eq (.bool (p0.A == 0)), .eq (.pointer (some ⟨b1, 2, none⟩)), .eq (.int .i64 p0.B), .eq (.bool (p0.B == 0)), .eq (.bool ((p0.A == 0) && (p0.B == 0))), .eq (.bool ((p0.A == 0) && (p0.B == 0))), .eq (.pointer (some ⟨b1, 3, none⟩)), .eq (.int .i64 p0.C), .eq (.bool (p0.C == 0)), .eq (.bool (((p0.A == 0) && (p0.B == 0)) && (p0.C == 0))), .eq (.bool (((p0.A == 0) && (p0.B == 0)) && (p0.C == 0)))]
                                  [(6, .bool (((p0.A == 0) && (p0.B == 0)) && (p0.C == 0)))] mix hF (by kernel_rfl) (by kernel_rfl) (by kernel_rfl) ⟨Pd.mono_eq, Pd.mono_eq, Pd.mono_eq, trivial⟩ (fun hG => ⟨np_loadBox hG hF ty3 rfl rfl (hs.bx 0 rfl) rfl rfl rfl, np_loadBox hG hF ty3 rfl rfl (hs.bx 0 rfl) rfl rfl rfl, np_loadBox hG hF ty3 rfl rfl (hs.bx 0 rfl) rfl rfl rfl, trivial⟩) (by kernel_rfl) fun fr w113 hF hE hc => then_normal ?_)
                              have hs := hs.ext hc
                              have hM0 := hM0.ext hc
                              have hs : Sep [] w113 S1 := Sep.pick [] hs (by decide) rfl
                              obtain rfl := Option.some.inj h
                              exact wp_ret (blk_ret (then_ret (ret1 rfl hF rfl ⟨_, rfl, rfl, hM0.chg⟩)))
                            · replace h := iteF hb h
                              have hs : Sep [] w2 S1 := Sep.pick [] hs (by decide) rfl
                              refine (wp_skip ?_)
                              refine blk_normal (then_normal ?_)
                              refine wp_seq (wp_pure [(6, .bool false)] hF (by kernel_rfl) fun fr hF => then_normal ?_)
                              obtain rfl := Option.some.inj h
                              exact wp_ret (ret1 rfl hF rfl ⟨_, rfl, rfl, hM0.chg⟩)
                    · replace h := iteF hb h
                      refine (wp_pure [(3, .pointer (some ⟨b1, 0, none⟩)), (7, .bool x1), (13, .int .i64 p0.Op), (80, .bool (p0.Op == 11))] hF (by kernel_rfl) fun fr hF => then_normal ?_)
                      refine (wp_if hF (b := (p0.Op == 11)) rfl (fun hb => ?_) (fun hb => ?_))
                      · replace h := iteT hb h
                        refine wp_seq (region_b [] [true, false, true, true, true, true, true, true, false, true, true, true]
                            [.eq (.pointer (some ⟨b1, 1, none⟩)), .eq (.int .i64 p0.A), .eq (.bool (p0.A == 0)), .eq (.bool (p0.A == 0)), .eq (.bool x1), .eq (.bool ((p0.A == 0) && x1)), .eq (.bool ((p0.A == 0) && x1)), .eq (.pointer (some ⟨b1, 3, none⟩)), .eq (.int .i64 p0.C), .eq (.bool (p0.C == 0)), .eq (.bool (((p0.A == 0) && x1) && (p0.C == 0))), .eq (.bool (((p0.A == 0) && x1) && (p0.C == 0)))]
                            [(6, .bool (((p0.A == 0) && x1) && (p0.C == 0)))] mix hF (by kernel_rfl) (by kernel_rfl) (by kernel_rfl) ⟨Pd.mono_eq, Pd.mono_eq, trivial⟩ (fun hG => ⟨np_loadBox hG hF ty3 rfl rfl (hs.bx 0 rfl) rfl rfl rfl, np_loadBox hG hF ty3 rfl rfl (hs.bx 0 rfl) rfl rfl rfl, trivial⟩) (by kernel_rfl) fun fr w114 hF hE hc => then_normal ?_)
                        have hs := hs.ext hc
                        have hM0 := hM0.ext hc
                        have hs : Sep [] w114 S1 := Sep.pick [] hs (by decide) rfl
                        obtain rfl := Option.some.inj h
                        exact wp_ret (blk_ret (then_ret (ret1 rfl hF rfl ⟨_, rfl, rfl, hM0.chg⟩)))
                      · replace h := iteF hb h
                        refine wp_seq (wp_pure [(3, .pointer (some ⟨b1, 0, none⟩)), (7, .bool x1), (13, .int .i64 p0.Op), (94, .bool (p0.Op == 10))] hF (by kernel_rfl) fun fr hF => then_normal ?_)
                        refine (wp_if hF (b := (p0.Op == 10)) rfl (fun hb => ?_) (fun hb => ?_))
                        · replace h := iteT hb h
                          obtain ⟨x54, hx54, h⟩ := bindE h
                          refine wp_seq (region_b [] [true, false, false, true, true, true, true, true, false, true, true, true]
                              [.eq (.pointer (some ⟨b1, 1, none⟩)), .eq (.int .i64 p0.A), .eq (.bool x54), .eq (.bool x54), .eq (.bool x1), .eq (.bool (x54 && x1)), .eq (.bool (x54 && x1)), .eq (.pointer (some ⟨b1, 3, none⟩)), .eq (.int .i64 p0.C), .eq (.bool (p0.C == 0)), .eq (.bool ((x54 && x1) && (p0.C == 0))), .eq (.bool ((x54 && x1) && (p0.C == 0)))]
                              [(6, .bool ((x54 && x1) && (p0.C == 0)))] mix hF (by kernel_rfl) (by kernel_rfl) (by kernel_rfl) ⟨Pd.mono_eq, Pd.mono_eq, Pd.mono_eq, trivial⟩ (fun hG => ⟨np_loadBox hG hF ty3 rfl rfl (hs.bx 0 rfl) rfl rfl rfl, np_call [.int .i64 p0.A] hG hF Try.call75 rfl rfl (fun w hC hg => (spec_l05Reg_ok p0.A hx54).mono fun e w' ⟨v, he, hv, hc⟩ => ⟨v, he, hc, hv⟩), np_loadBox hG hF ty3 rfl rfl (hs.bx 0 rfl) rfl rfl rfl, trivial⟩) (by kernel_rfl) fun fr w115 hF hE hc => then_normal ?_)
                          have hs := hs.ext hc
                          have hM0 := hM0.ext hc
                          have hs : Sep [] w115 S1 := Sep.pick [] hs (by decide) rfl
                          obtain rfl := Option.some.inj h
                          exact wp_ret (blk_ret (then_ret (ret1 rfl hF rfl ⟨_, rfl, rfl, hM0.chg⟩)))
                        · replace h := iteF hb h
                          refine wp_seq ?_
                          refine wp_seq (wp_pure [(3, .pointer (some ⟨b1, 0, none⟩)), (13, .int .i64 p0.Op), (107, .bool (p0.Op == 12))] hF (by kernel_rfl) fun fr hF => then_normal ?_)
                          refine (wp_if hF (b := (p0.Op == 12)) rfl (fun hb => ?_) (fun hb => ?_))
                          · replace h := iteT hb h
                            refine (wp_skip (then_normal ?_))
                            refine (wp_if hF (b := (p0.Op == 12)) rfl (fun hb => ?_) (fun hb => ?_))
                            · replace h := iteT hb h
                              refine wp_seq (region_b [] [true, false, true, true, true, false, true, true, true, true, false, true, true, true]
                                  [.eq (.pointer (some ⟨b1, 1, none⟩)), .eq (.int .i64 p0.A), .eq (.bool (p0.A == 0)), .eq (.bool (p0.A == 0)), .eq (.pointer (some ⟨b1, 2, none⟩)), .eq (.int .i64 p0.B), .eq (.bool (p0.B == 0)), .eq (.bool ((p0.A == 0) && (p0.B == 0))), .eq (.bool ((p0.A == 0) && (p0.B == 0))), .eq (.pointer (some ⟨b1, 3, none⟩)), .eq (.int .i64 p0.C), .eq (.bool (p0.C == 0)), .eq (.bool (((p0.A == 0) && (p0.B == 0)) && (p0.C == 0))), .eq (.bool (((p0.A == 0) && (p0.B == 0)) && (p0.C == 0)))]
                                  [(6, .bool (((p0.A == 0) && (p0.B == 0)) && (p0.C == 0)))] mix hF (by kernel_rfl) (by kernel_rfl) (by kernel_rfl) ⟨Pd.mono_eq, Pd.mono_eq, Pd.mono_eq, trivial⟩ (fun hG => ⟨np_loadBox hG hF ty3 rfl rfl (hs.bx 0 rfl) rfl rfl rfl, np_loadBox hG hF ty3 rfl rfl (hs.bx 0 rfl) rfl rfl rfl, np_loadBox hG hF ty3 rfl rfl (hs.bx 0 rfl) rfl rfl rfl, trivial⟩) (by kernel_rfl) fun fr w116 hF hE hc => then_normal ?_)
                              have hs := hs.ext hc
                              have hM0 := hM0.ext hc
                              have hs : Sep [] w116 S1 := Sep.pick [] hs (by decide) rfl
                              obtain rfl := Option.some.inj h
                              exact wp_ret (blk_ret (then_ret (ret1 rfl hF rfl ⟨_, rfl, rfl, hM0.chg⟩)))
                            · replace h := iteF hb h
                              have hs : Sep [] w2 S1 := Sep.pick [] hs (by decide) rfl
                              refine (wp_skip ?_)
                              refine blk_normal (then_normal ?_)
                              refine wp_seq (wp_pure [(6, .bool false)] hF (by kernel_rfl) fun fr hF => then_normal ?_)
                              obtain rfl := Option.some.inj h
                              exact wp_ret (ret1 rfl hF rfl ⟨_, rfl, rfl, hM0.chg⟩)
                          · replace h := iteF hb h
                            refine (wp_pure [(3, .pointer (some ⟨b1, 0, none⟩)), (107, .bool (p0.Op == 14))] hF (by kernel_rfl) fun fr hF => then_normal ?_)
                            refine (wp_if hF (b := (p0.Op == 14)) rfl (fun hb => ?_) (fun hb => ?_))
                            · replace h := iteT hb h
                              refine wp_seq (region_b [] [true, false, true, true, true, false, true, true, true, true, false, true, true, true]
                                  [.eq (.pointer (some ⟨b1, 1, none⟩)), .eq (.int .i64 p0.A), .eq (.bool (p0.A == 0)), .eq (.bool (p0.A == 0)), .eq (.pointer (some ⟨b1, 2, none⟩)), .eq (.int .i64 p0.B), .eq (.bool (p0.B == 0)), .eq (.bool ((p0.A == 0) && (p0.B == 0))), .eq (.bool ((p0.A == 0) && (p0.B == 0))), .eq (.pointer (some ⟨b1, 3, none⟩)), .eq (.int .i64 p0.C), .eq (.bool (p0.C == 0)), .eq (.bool (((p0.A == 0) && (p0.B == 0)) && (p0.C == 0))), .eq (.bool (((p0.A == 0) && (p0.B == 0)) && (p0.C == 0)))]
                                  [(6, .bool (((p0.A == 0) && (p0.B == 0)) && (p0.C == 0)))] mix hF (by kernel_rfl) (by kernel_rfl) (by kernel_rfl) ⟨Pd.mono_eq, Pd.mono_eq, Pd.mono_eq, trivial⟩ (fun hG => ⟨np_loadBox hG hF ty3 rfl rfl (hs.bx 0 rfl) rfl rfl rfl, np_loadBox hG hF ty3 rfl rfl (hs.bx 0 rfl) rfl rfl rfl, np_loadBox hG hF ty3 rfl rfl (hs.bx 0 rfl) rfl rfl rfl, trivial⟩) (by kernel_rfl) fun fr w117 hF hE hc => then_normal ?_)
                              have hs := hs.ext hc
                              have hM0 := hM0.ext hc
                              have hs : Sep [] w117 S1 := Sep.pick [] hs (by decide) rfl
                              obtain rfl := Option.some.inj h
                              exact wp_ret (blk_ret (then_ret (ret1 rfl hF rfl ⟨_, rfl, rfl, hM0.chg⟩)))
                            · replace h := iteF hb h
                              have hs : Sep [] w2 S1 := Sep.pick [] hs (by decide) rfl
                              refine (wp_skip ?_)
                              refine blk_normal (then_normal ?_)
                              refine wp_seq (wp_pure [(6, .bool false)] hF (by kernel_rfl) fun fr hF => then_normal ?_)
                              obtain rfl := Option.some.inj h
                              exact wp_ret (ret1 rfl hF rfl ⟨_, rfl, rfl, hM0.chg⟩)
end Go.Proofs.Ytbfphbpeajmihaa
