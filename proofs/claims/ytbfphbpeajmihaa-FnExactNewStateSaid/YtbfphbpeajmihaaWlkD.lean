/- Printed by gen2.py: the walks. -/
import Derived.Test.YtbfphbpeajmihaaWlkC
set_option linter.unusedVariables false
set_option maxRecDepth 100000
namespace Go.Proofs.Ytbfphbpeajmihaa
open Go.GL Go.Maps Go.WideMaps
theorem impl_insOk_ok (p0 : D.Ins) (p1 : Int) (p2 : Int) {r : Bool} (h : impl_insOk p0 p1 p2 = some r) {w : World} :
    Calls Try.prog 62 [.agg #[.int .i64 p0.Op, .int .i64 p0.A, .int .i64 p0.B, .int .i64 p0.C], .int .i64 p1, .int .i64 p2].toArray w fun e w' => ∃ v, e = .returned v ∧ v = .bool r ∧ Chg Non w w' := by
  unfold impl_insOk at h
  have hs := Sep.nil w Non
  have hM0 : Mem w Non (fun k => (False) ∧ k < w.heap.size) w Non (fun k => (False) ∧ k < w.heap.size) := Mem.start (fun _ h => h.elim) (fun _ h => h.2) (fun _ h => h.elim)
  refine enter (N := 102) Try.func62 rfl Try.ntmps62 rfl fun fr hF => ?_
  refine wp_seq (wp_text' ?_)
  refine q_box hs hM0 [.int .i64 p0.Op, .int .i64 p0.A, .int .i64 p0.B, .int .i64 p0.C] rfl rfl hF rfl rfl fun b1 w1 S1 fr hs hp hF => ?_
  have hM0 := hM0.stp hp
  have hs : Sep [BX b1 66 [.int .i64 p0.Op, .int .i64 p0.A, .int .i64 p0.B, .int .i64 p0.C]] w1 S1 := hs
  refine from_pure 1 [(1, .int .i64 p1), (2, .int .i64 p2), (3, .pointer (some ⟨b1, 0, none⟩))] hF (by kernel_rfl) fun fr hF => ?_
  refine from_end rfl (then_normal ?_)
  refine wp_seq (region_b [] [true, false, true, true, true, false, true, true, true, true]
      [.eq (.pointer (some ⟨b1, 2, none⟩)), .eq (.int .i64 p0.B), .eq (.bool (decide (p0.B ≥ 0))), .eq (.bool (decide (p0.B ≥ 0))), .eq (.pointer (some ⟨b1, 2, none⟩)), .eq (.int .i64 p0.B), .eq (.int .i64 p2), .eq (.bool (decide (p0.B ≤ p2))), .eq (.bool ((decide (p0.B ≥ 0)) && (decide (p0.B ≤ p2)))), .eq (.bool ((decide (p0.B ≥ 0)) && (decide (p0.B ≤ p2))))]
      [(1, .int .i64 p1), (3, .pointer (some ⟨b1, 0, none⟩)), (7, .bool ((decide (p0.B ≥ 0)) && (decide (p0.B ≤ p2))))] mix hF (by kernel_rfl) (by kernel_rfl) (by kernel_rfl) ⟨Pd.mono_eq, Pd.mono_eq, trivial⟩ (fun hG => ⟨np_loadBox hG hF ty3 rfl rfl (hs.bx 0 rfl) rfl rfl rfl, np_loadBox hG hF ty3 rfl rfl (hs.bx 0 rfl) rfl rfl rfl, trivial⟩) (by kernel_rfl) fun fr w2 hF hE hc => then_normal ?_)
  have hs := hs.ext hc
  have hM0 := hM0.ext hc
  refine wp_seq ?_
  refine wp_seq (wp_text' ?_)
  refine from_pure 1 [(1, .int .i64 p1), (3, .pointer (some ⟨b1, 0, none⟩)), (7, .bool ((decide (p0.B ≥ 0)) && (decide (p0.B ≤ p2)))), (17, .pointer (some ⟨b1, 0, none⟩))] hF (by kernel_rfl) fun fr hF => ?_
  refine s_loadBox (.int .i64 p0.Op) ty3 rfl rfl hF rfl (hs.bx 0 rfl) rfl rfl fun fr hF => ?_
  refine from_pure 1 [(1, .int .i64 p1), (3, .pointer (some ⟨b1, 0, none⟩)), (7, .bool ((decide (p0.B ≥ 0)) && (decide (p0.B ≤ p2)))), (19, .bool (p0.Op == 3))] hF (by kernel_rfl) fun fr hF => ?_
  refine from_end rfl (then_normal ?_)
  refine (wp_if hF (b := (p0.Op == 3)) rfl (fun hb => ?_) (fun hb => ?_))
  · replace h := iteT hb h
    obtain ⟨x1, hx1, h⟩ := bindE h
    obtain ⟨x2, hx2, h⟩ := bindE h
    obtain ⟨x3, hx3, h⟩ := bindE h
    refine wp_seq (region_b [] [true, false, false, true, true, false, false, true, true, true, false, false, true, true]
        [.eq (.pointer (some ⟨b1, 1, none⟩)), .eq (.int .i64 p0.A), .eq (.bool x1), .eq (.bool x1), .eq (.pointer (some ⟨b1, 2, none⟩)), .eq (.int .i64 p0.B), .eq (.bool x2), .eq (.bool (x1 && x2)), .eq (.bool (x1 && x2)), .eq (.pointer (some ⟨b1, 3, none⟩)), .eq (.int .i64 p0.C), .eq (.bool x3), .eq (.bool ((x1 && x2) && x3)), .eq (.bool ((x1 && x2) && x3))]
        [(6, .bool ((x1 && x2) && x3))] mix hF (by kernel_rfl) (by kernel_rfl) (by kernel_rfl) ⟨Pd.mono_eq, Pd.mono_eq, Pd.mono_eq, Pd.mono_eq, Pd.mono_eq, Pd.mono_eq, trivial⟩ (fun hG => ⟨np_loadBox hG hF ty3 rfl rfl (hs.bx 0 rfl) rfl rfl rfl, np_call [.int .i64 p0.A] hG hF Try.call77 rfl rfl (fun w hC hg => (impl_isReg_ok p0.A hx1).mono fun e w' ⟨v, he, hv, hc⟩ => ⟨v, he, hc, hv⟩), np_loadBox hG hF ty3 rfl rfl (hs.bx 0 rfl) rfl rfl rfl, np_call [.int .i64 p0.B] hG hF Try.call77 rfl rfl (fun w hC hg => (impl_isReg_ok p0.B (iteT hg.2 hx2)).mono fun e w' ⟨v, he, hv, hc⟩ => ⟨v, he, hc, hv⟩), np_loadBox hG hF ty3 rfl rfl (hs.bx 0 rfl) rfl rfl rfl, np_call [.int .i64 p0.C] hG hF Try.call78 rfl rfl (fun w hC hg => (impl_isTwoWords_ok p0.C (iteT hg.2 hx3)).mono fun e w' ⟨v, he, hv, hc⟩ => ⟨v, he, hc, hv⟩), trivial⟩) (by kernel_rfl) fun fr w3 hF hE hc => then_normal ?_)
    have hs := hs.ext hc
    have hM0 := hM0.ext hc
    have hs : Sep [] w3 S1 := Sep.pick [] hs (by decide) rfl
    obtain rfl := Option.some.inj h
    exact wp_ret (then_ret (ret1 rfl hF rfl ⟨_, rfl, rfl, hM0.chg⟩))
  · replace h := iteF hb h
    refine (wp_skip (then_normal ?_))
    refine wp_seq ?_
    refine wp_seq (wp_text' ?_)
    refine from_pure 1 [(1, .int .i64 p1), (3, .pointer (some ⟨b1, 0, none⟩)), (7, .bool ((decide (p0.B ≥ 0)) && (decide (p0.B ≤ p2)))), (33, .pointer (some ⟨b1, 3, none⟩))] hF (by kernel_rfl) fun fr hF => ?_
    refine s_loadBox (.int .i64 p0.C) ty3 rfl rfl hF rfl (hs.bx 0 rfl) rfl rfl fun fr hF => ?_
    refine from_pure 1 [(1, .int .i64 p1), (3, .pointer (some ⟨b1, 0, none⟩)), (7, .bool ((decide (p0.B ≥ 0)) && (decide (p0.B ≤ p2)))), (35, .bool (p0.C != 0))] hF (by kernel_rfl) fun fr hF => ?_
    refine from_end rfl (then_normal ?_)
    refine (wp_if hF (b := (p0.C != 0)) rfl (fun hb => ?_) (fun hb => ?_))
    · replace h := iteT hb h
      have hs : Sep [] w2 S1 := Sep.pick [] hs (by decide) rfl
      refine wp_seq (wp_pure [(6, .bool false)] hF (by kernel_rfl) fun fr hF => then_normal ?_)
      obtain rfl := Option.some.inj h
      exact wp_ret (then_ret (ret1 rfl hF rfl ⟨_, rfl, rfl, hM0.chg⟩))
    · replace h := iteF hb h
      refine (wp_skip (then_normal ?_))
      refine wp_seq ?_
      refine wp_seq (wp_text' ?_)
      refine from_pure 1 [(1, .int .i64 p1), (3, .pointer (some ⟨b1, 0, none⟩)), (7, .bool ((decide (p0.B ≥ 0)) && (decide (p0.B ≤ p2)))), (36, .pointer (some ⟨b1, 0, none⟩))] hF (by kernel_rfl) fun fr hF => ?_
      refine s_loadBox (.int .i64 p0.Op) ty3 rfl rfl hF rfl (hs.bx 0 rfl) rfl rfl fun fr hF => ?_
      refine from_end rfl (then_normal ?_)
      refine (wp_block ?_)
      refine wp_seq (wp_pure [(1, .int .i64 p1), (3, .pointer (some ⟨b1, 0, none⟩)), (7, .bool ((decide (p0.B ≥ 0)) && (decide (p0.B ≤ p2)))), (37, .int .i64 p0.Op), (38, .bool (p0.Op == 1))] hF (by kernel_rfl) fun fr hF => then_normal ?_)
      refine (wp_if hF (b := (p0.Op == 1)) rfl (fun hb => ?_) (fun hb => ?_))
      · replace h := iteT hb h
        obtain ⟨x4, hx4, h⟩ := bindE h
        obtain ⟨x5, hx5, h⟩ := bindE h
        refine wp_seq (region_b [] [true, false, false, true, true, true, false, false, true, true]
            [.eq (.pointer (some ⟨b1, 1, none⟩)), .eq (.int .i64 p0.A), .eq (.bool x4), .eq (.bool x4), .eq (.int .i64 p1), .eq (.pointer (some ⟨b1, 2, none⟩)), .eq (.int .i64 p0.B), .eq (.bool x5), .eq (.bool (x4 && x5)), .eq (.bool (x4 && x5))]
            [(6, .bool (x4 && x5))] mix hF (by kernel_rfl) (by kernel_rfl) (by kernel_rfl) ⟨Pd.mono_eq, Pd.mono_eq, Pd.mono_eq, Pd.mono_eq, trivial⟩ (fun hG => ⟨np_loadBox hG hF ty3 rfl rfl (hs.bx 0 rfl) rfl rfl rfl, np_call [.int .i64 p0.A] hG hF Try.call77 rfl rfl (fun w hC hg => (impl_isReg_ok p0.A hx4).mono fun e w' ⟨v, he, hv, hc⟩ => ⟨v, he, hc, hv⟩), np_loadBox hG hF ty3 rfl rfl (hs.bx 0 rfl) rfl rfl rfl, np_call [.int .i64 p1, .int .i64 p0.B] hG hF Try.call61 rfl rfl (fun w hC hg => (impl_WordOk_ok p1 p0.B (iteT hg.2 hx5)).mono fun e w' ⟨v, he, hv, hc⟩ => ⟨v, he, hc, hv⟩), trivial⟩) (by kernel_rfl) fun fr w4 hF hE hc => then_normal ?_)
        have hs := hs.ext hc
        have hM0 := hM0.ext hc
        have hs : Sep [] w4 S1 := Sep.pick [] hs (by decide) rfl
        obtain rfl := Option.some.inj h
        exact wp_ret (blk_ret (then_ret (ret1 rfl hF rfl ⟨_, rfl, rfl, hM0.chg⟩)))
      · replace h := iteF hb h
        refine wp_seq ?_
        refine wp_seq (wp_pure [(3, .pointer (some ⟨b1, 0, none⟩)), (7, .bool ((decide (p0.B ≥ 0)) && (decide (p0.B ≤ p2)))), (37, .int .i64 p0.Op), (49, .bool (p0.Op == 2))] hF (by kernel_rfl) fun fr hF => then_normal ?_)
        refine (wp_if hF (b := (p0.Op == 2)) rfl (fun hb => ?_) (fun hb => ?_))
        · replace h := iteT hb h
          refine (wp_skip (then_normal ?_))
          refine (wp_if hF (b := (p0.Op == 2)) rfl (fun hb => ?_) (fun hb => ?_))
          · replace h := iteT hb h
            obtain ⟨x6, hx6, h⟩ := bindE h
            obtain ⟨x7, hx7, h⟩ := bindE h
            refine wp_seq (region_b [] [true, false, false, true, true, false, false, true, true]
                [.eq (.pointer (some ⟨b1, 1, none⟩)), .eq (.int .i64 p0.A), .eq (.bool x6), .eq (.bool x6), .eq (.pointer (some ⟨b1, 2, none⟩)), .eq (.int .i64 p0.B), .eq (.bool x7), .eq (.bool (x6 && x7)), .eq (.bool (x6 && x7))]
                [(6, .bool (x6 && x7))] mix hF (by kernel_rfl) (by kernel_rfl) (by kernel_rfl) ⟨Pd.mono_eq, Pd.mono_eq, Pd.mono_eq, Pd.mono_eq, trivial⟩ (fun hG => ⟨np_loadBox hG hF ty3 rfl rfl (hs.bx 0 rfl) rfl rfl rfl, np_call [.int .i64 p0.A] hG hF Try.call77 rfl rfl (fun w hC hg => (impl_isReg_ok p0.A hx6).mono fun e w' ⟨v, he, hv, hc⟩ => ⟨v, he, hc, hv⟩), np_loadBox hG hF ty3 rfl rfl (hs.bx 0 rfl) rfl rfl rfl, np_call [.int .i64 p0.B] hG hF Try.call77 rfl rfl (fun w hC hg => (impl_isReg_ok p0.B (iteT hg.2 hx7)).mono fun e w' ⟨v, he, hv, hc⟩ => ⟨v, he, hc, hv⟩), trivial⟩) (by kernel_rfl) fun fr w5 hF hE hc => then_normal ?_)
            have hs := hs.ext hc
            have hM0 := hM0.ext hc
            have hs : Sep [] w5 S1 := Sep.pick [] hs (by decide) rfl
            obtain rfl := Option.some.inj h
            exact wp_ret (blk_ret (then_ret (ret1 rfl hF rfl ⟨_, rfl, rfl, hM0.chg⟩)))
          · replace h := iteF hb h
            refine wp_seq ?_
            refine wp_seq (wp_pure [(3, .pointer (some ⟨b1, 0, none⟩)), (7, .bool ((decide (p0.B ≥ 0)) && (decide (p0.B ≤ p2)))), (37, .int .i64 p0.Op), (61, .bool (p0.Op == 4))] hF (by kernel_rfl) fun fr hF => then_normal ?_)
            refine (wp_if hF (b := (p0.Op == 4)) rfl (fun hb => ?_) (fun hb => ?_))
            · replace h := iteT hb h
              refine (wp_skip (then_normal ?_))
              refine (wp_if hF (b := (p0.Op == 4)) rfl (fun hb => ?_) (fun hb => ?_))
              · replace h := iteT hb h
                obtain ⟨x8, hx8, h⟩ := bindE h
                refine wp_seq (region_b [] [true, false, false, true, true, false, true, true, true]
                    [.eq (.pointer (some ⟨b1, 1, none⟩)), .eq (.int .i64 p0.A), .eq (.bool x8), .eq (.bool x8), .eq (.pointer (some ⟨b1, 2, none⟩)), .eq (.int .i64 p0.B), .eq (.bool (p0.B == 0)), .eq (.bool (x8 && (p0.B == 0))), .eq (.bool (x8 && (p0.B == 0)))]
                    [(6, .bool (x8 && (p0.B == 0)))] mix hF (by kernel_rfl) (by kernel_rfl) (by kernel_rfl) ⟨Pd.mono_eq, Pd.mono_eq, Pd.mono_eq, trivial⟩ (fun hG => ⟨np_loadBox hG hF ty3 rfl rfl (hs.bx 0 rfl) rfl rfl rfl, np_call [.int .i64 p0.A] hG hF Try.call77 rfl rfl (fun w hC hg => (impl_isReg_ok p0.A hx8).mono fun e w' ⟨v, he, hv, hc⟩ => ⟨v, he, hc, hv⟩), np_loadBox hG hF ty3 rfl rfl (hs.bx 0 rfl) rfl rfl rfl, trivial⟩) (by kernel_rfl) fun fr w6 hF hE hc => then_normal ?_)
                have hs := hs.ext hc
                have hM0 := hM0.ext hc
                have hs : Sep [] w6 S1 := Sep.pick [] hs (by decide) rfl
                obtain rfl := Option.some.inj h
                exact wp_ret (blk_ret (then_ret (ret1 rfl hF rfl ⟨_, rfl, rfl, hM0.chg⟩)))
              · replace h := iteF hb h
                refine wp_seq ?_
                refine wp_seq (wp_pure [(3, .pointer (some ⟨b1, 0, none⟩)), (7, .bool ((decide (p0.B ≥ 0)) && (decide (p0.B ≤ p2)))), (37, .int .i64 p0.Op), (74, .bool (p0.Op == 9))] hF (by kernel_rfl) fun fr hF => then_normal ?_)
                refine (wp_if hF (b := (p0.Op == 9)) rfl (fun hb => ?_) (fun hb => ?_))
                · replace h := iteT hb h
                  refine (wp_skip (then_normal ?_))
                  refine (wp_if hF (b := (p0.Op == 9)) rfl (fun hb => ?_) (fun hb => ?_))
                  · replace h := iteT hb h
                    refine wp_seq (region_b [] [true, false, true, true, true, true, true]
                        [.eq (.pointer (some ⟨b1, 1, none⟩)), .eq (.int .i64 p0.A), .eq (.bool (p0.A == 0)), .eq (.bool (p0.A == 0)), .eq (.bool ((decide (p0.B ≥ 0)) && (decide (p0.B ≤ p2)))), .eq (.bool ((p0.A == 0) && ((decide (p0.B ≥ 0)) && (decide (p0.B ≤ p2))))), .eq (.bool ((p0.A == 0) && ((decide (p0.B ≥ 0)) && (decide (p0.B ≤ p2)))))]
                        [(6, .bool ((p0.A == 0) && ((decide (p0.B ≥ 0)) && (decide (p0.B ≤ p2)))))] mix hF (by kernel_rfl) (by kernel_rfl) (by kernel_rfl) ⟨Pd.mono_eq, trivial⟩ (fun hG => ⟨np_loadBox hG hF ty3 rfl rfl (hs.bx 0 rfl) rfl rfl rfl, trivial⟩) (by kernel_rfl) fun fr w7 hF hE hc => then_normal ?_)
                    have hs := hs.ext hc
                    have hM0 := hM0.ext hc
                    have hs : Sep [] w7 S1 := Sep.pick [] hs (by decide) rfl
                    obtain rfl := Option.some.inj h
                    exact wp_ret (blk_ret (then_ret (ret1 rfl hF rfl ⟨_, rfl, rfl, hM0.chg⟩)))
                  · replace h := iteF hb h
                    refine wp_seq (wp_pure [(3, .pointer (some ⟨b1, 0, none⟩)), (7, .bool ((decide (p0.B ≥ 0)) && (decide (p0.B ≤ p2)))), (37, .int .i64 p0.Op), (83, .bool (p0.Op == 10))] hF (by kernel_rfl) fun fr hF => then_normal ?_)
                    refine (wp_if hF (b := (p0.Op == 10)) rfl (fun hb => ?_) (fun hb => ?_))
                    · replace h := iteT hb h
                      obtain ⟨x9, hx9, h⟩ := bindE h
                      refine wp_seq (region_b [] [true, false, false, true, true, true, true]
                          [.eq (.pointer (some ⟨b1, 1, none⟩)), .eq (.int .i64 p0.A), .eq (.bool x9), .eq (.bool x9), .eq (.bool ((decide (p0.B ≥ 0)) && (decide (p0.B ≤ p2)))), .eq (.bool (x9 && ((decide (p0.B ≥ 0)) && (decide (p0.B ≤ p2))))), .eq (.bool (x9 && ((decide (p0.B ≥ 0)) && (decide (p0.B ≤ p2)))))]
                          [(6, .bool (x9 && ((decide (p0.B ≥ 0)) && (decide (p0.B ≤ p2)))))] mix hF (by kernel_rfl) (by kernel_rfl) (by kernel_rfl) ⟨Pd.mono_eq, Pd.mono_eq, trivial⟩ (fun hG => ⟨np_loadBox hG hF ty3 rfl rfl (hs.bx 0 rfl) rfl rfl rfl, np_call [.int .i64 p0.A] hG hF Try.call77 rfl rfl (fun w hC hg => (impl_isReg_ok p0.A hx9).mono fun e w' ⟨v, he, hv, hc⟩ => ⟨v, he, hc, hv⟩), trivial⟩) (by kernel_rfl) fun fr w8 hF hE hc => then_normal ?_)
                      have hs := hs.ext hc
                      have hM0 := hM0.ext hc
                      have hs : Sep [] w8 S1 := Sep.pick [] hs (by decide) rfl
                      obtain rfl := Option.some.inj h
                      exact wp_ret (blk_ret (then_ret (ret1 rfl hF rfl ⟨_, rfl, rfl, hM0.chg⟩)))
                    · replace h := iteF hb h
                      refine wp_seq ?_
                      refine wp_seq (wp_pure [(3, .pointer (some ⟨b1, 0, none⟩)), (37, .int .i64 p0.Op), (91, .bool (p0.Op == 12))] hF (by kernel_rfl) fun fr hF => then_normal ?_)
                      refine (wp_if hF (b := (p0.Op == 12)) rfl (fun hb => ?_) (fun hb => ?_))
                      · replace h := iteT hb h
                        refine (wp_skip (then_normal ?_))
                        refine (wp_if hF (b := (p0.Op == 12)) rfl (fun hb => ?_) (fun hb => ?_))
                        · replace h := iteT hb h
                          refine wp_seq (region_b [] [true, false, true, true, true, false, true, true, true]
                              [.eq (.pointer (some ⟨b1, 1, none⟩)), .eq (.int .i64 p0.A), .eq (.bool (p0.A == 0)), .eq (.bool (p0.A == 0)), .eq (.pointer (some ⟨b1, 2, none⟩)), .eq (.int .i64 p0.B), .eq (.bool (p0.B == 0)), .eq (.bool ((p0.A == 0) && (p0.B == 0))), .eq (.bool ((p0.A == 0) && (p0.B == 0)))]
                              [(6, .bool ((p0.A == 0) && (p0.B == 0)))] mix hF (by kernel_rfl) (by kernel_rfl) (by kernel_rfl) ⟨Pd.mono_eq, Pd.mono_eq, trivial⟩ (fun hG => ⟨np_loadBox hG hF ty3 rfl rfl (hs.bx 0 rfl) rfl rfl rfl, np_loadBox hG hF ty3 rfl rfl (hs.bx 0 rfl) rfl rfl rfl, trivial⟩) (by kernel_rfl) fun fr w9 hF hE hc => then_normal ?_)
                          have hs := hs.ext hc
                          have hM0 := hM0.ext hc
                          have hs : Sep [] w9 S1 := Sep.pick [] hs (by decide) rfl
                          obtain rfl := Option.some.inj h
                          exact wp_ret (blk_ret (then_ret (ret1 rfl hF rfl ⟨_, rfl, rfl, hM0.chg⟩)))
                        · replace h := iteF hb h
                          have hs : Sep [] w2 S1 := Sep.pick [] hs (by decide) rfl
                          refine (wp_skip ?_)
                          refine blk_normal (then_normal ?_)
                          refine wp_seq (wp_pure [(6, .bool false)] hF (by kernel_rfl) fun fr hF => then_normal ?_)
                          obtain rfl := Option.some.inj h
                          exact wp_ret (ret1 rfl hF rfl ⟨_, rfl, rfl, hM0.chg⟩)
                      · replace h := iteF hb h
                        refine (wp_pure [(3, .pointer (some ⟨b1, 0, none⟩)), (91, .bool (p0.Op == 14))] hF (by kernel_rfl) fun fr hF => then_normal ?_)
                        refine (wp_if hF (b := (p0.Op == 14)) rfl (fun hb => ?_) (fun hb => ?_))
                        · replace h := iteT hb h
                          refine wp_seq (region_b [] [true, false, true, true, true, false, true, true, true]
                              [.eq (.pointer (some ⟨b1, 1, none⟩)), .eq (.int .i64 p0.A), .eq (.bool (p0.A == 0)), .eq (.bool (p0.A == 0)), .eq (.pointer (some ⟨b1, 2, none⟩)), .eq (.int .i64 p0.B), .eq (.bool (p0.B == 0)), .eq (.bool ((p0.A == 0) && (p0.B == 0))), .eq (.bool ((p0.A == 0) && (p0.B == 0)))]
                              [(6, .bool ((p0.A == 0) && (p0.B == 0)))] mix hF (by kernel_rfl) (by kernel_rfl) (by kernel_rfl) ⟨Pd.mono_eq, Pd.mono_eq, trivial⟩ (fun hG => ⟨np_loadBox hG hF ty3 rfl rfl (hs.bx 0 rfl) rfl rfl rfl, np_loadBox hG hF ty3 rfl rfl (hs.bx 0 rfl) rfl rfl rfl, trivial⟩) (by kernel_rfl) fun fr w10 hF hE hc => then_normal ?_)
                          have hs := hs.ext hc
                          have hM0 := hM0.ext hc
                          have hs : Sep [] w10 S1 := Sep.pick [] hs (by decide) rfl
                          obtain rfl := Option.some.inj h
                          exact wp_ret (blk_ret (then_ret (ret1 rfl hF rfl ⟨_, rfl, rfl, hM0.chg⟩)))
                        · replace h := iteF hb h
                          have hs : Sep [] w2 S1 := Sep.pick [] hs (by decide) rfl
                          refine (wp_skip ?_)
                          refine blk_normal (then_normal ?_)
                          refine wp_seq (wp_pure [(6, .bool false)] hF (by kernel_rfl) fun fr hF => then_normal ?_)
                          obtain rfl := Option.some.inj h
                          exact wp_ret (ret1 rfl hF rfl ⟨_, rfl, rfl, hM0.chg⟩)
                · replace h := iteF hb h
                  refine (wp_pure [(3, .pointer (some ⟨b1, 0, none⟩)), (7, .bool ((decide (p0.B ≥ 0)) && (decide (p0.B ≤ p2)))), (37, .int .i64 p0.Op), (74, .bool (p0.Op == 11))] hF (by kernel_rfl) fun fr hF => then_normal ?_)
                  refine (wp_if hF (b := (p0.Op == 11)) rfl (fun hb => ?_) (fun hb => ?_))
                  · replace h := iteT hb h
                    refine wp_seq (region_b [] [true, false, true, true, true, true, true]
                        [.eq (.pointer (some ⟨b1, 1, none⟩)), .eq (.int .i64 p0.A), .eq (.bool (p0.A == 0)), .eq (.bool (p0.A == 0)), .eq (.bool ((decide (p0.B ≥ 0)) && (decide (p0.B ≤ p2)))), .eq (.bool ((p0.A == 0) && ((decide (p0.B ≥ 0)) && (decide (p0.B ≤ p2))))), .eq (.bool ((p0.A == 0) && ((decide (p0.B ≥ 0)) && (decide (p0.B ≤ p2)))))]
                        [(6, .bool ((p0.A == 0) && ((decide (p0.B ≥ 0)) && (decide (p0.B ≤ p2)))))] mix hF (by kernel_rfl) (by kernel_rfl) (by kernel_rfl) ⟨Pd.mono_eq, trivial⟩ (fun hG => ⟨np_loadBox hG hF ty3 rfl rfl (hs.bx 0 rfl) rfl rfl rfl, trivial⟩) (by kernel_rfl) fun fr w11 hF hE hc => then_normal ?_)
                    have hs := hs.ext hc
                    have hM0 := hM0.ext hc
                    have hs : Sep [] w11 S1 := Sep.pick [] hs (by decide) rfl
                    obtain rfl := Option.some.inj h
                    exact wp_ret (blk_ret (then_ret (ret1 rfl hF rfl ⟨_, rfl, rfl, hM0.chg⟩)))
                  · replace h := iteF hb h
                    refine wp_seq (wp_pure [(3, .pointer (some ⟨b1, 0, none⟩)), (7, .bool ((decide (p0.B ≥ 0)) && (decide (p0.B ≤ p2)))), (37, .int .i64 p0.Op), (83, .bool (p0.Op == 10))] hF (by kernel_rfl) fun fr hF => then_normal ?_)
                    refine (wp_if hF (b := (p0.Op == 10)) rfl (fun hb => ?_) (fun hb => ?_))
                    · replace h := iteT hb h
                      obtain ⟨x10, hx10, h⟩ := bindE h
                      refine wp_seq (region_b [] [true, false, false, true, true, true, true]
                          [.eq (.pointer (some ⟨b1, 1, none⟩)), .eq (.int .i64 p0.A), .eq (.bool x10), .eq (.bool x10), .eq (.bool ((decide (p0.B ≥ 0)) && (decide (p0.B ≤ p2)))), .eq (.bool (x10 && ((decide (p0.B ≥ 0)) && (decide (p0.B ≤ p2))))), .eq (.bool (x10 && ((decide (p0.B ≥ 0)) && (decide (p0.B ≤ p2)))))]
                          [(6, .bool (x10 && ((decide (p0.B ≥ 0)) && (decide (p0.B ≤ p2)))))] mix hF (by kernel_rfl) (by kernel_rfl) (by kernel_rfl) ⟨Pd.mono_eq, Pd.mono_eq, trivial⟩ (fun hG => ⟨np_loadBox hG hF ty3 rfl rfl (hs.bx 0 rfl) rfl rfl rfl, np_call [.int .i64 p0.A] hG hF Try.call77 rfl rfl (fun w hC hg => (impl_isReg_ok p0.A hx10).mono fun e w' ⟨v, he, hv, hc⟩ => ⟨v, he, hc, hv⟩), trivial⟩) (by kernel_rfl) fun fr w12 hF hE hc => then_normal ?_)
                      have hs := hs.ext hc
                      have hM0 := hM0.ext hc
                      have hs : Sep [] w12 S1 := Sep.pick [] hs (by decide) rfl
                      obtain rfl := Option.some.inj h
                      exact wp_ret (blk_ret (then_ret (ret1 rfl hF rfl ⟨_, rfl, rfl, hM0.chg⟩)))
                    · replace h := iteF hb h
                      refine wp_seq ?_
                      refine wp_seq (wp_pure [(3, .pointer (some ⟨b1, 0, none⟩)), (37, .int .i64 p0.Op), (91, .bool (p0.Op == 12))] hF (by kernel_rfl) fun fr hF => then_normal ?_)
                      refine (wp_if hF (b := (p0.Op == 12)) rfl (fun hb => ?_) (fun hb => ?_))
                      · replace h := iteT hb h
                        refine (wp_skip (then_normal ?_))
                        refine (wp_if hF (b := (p0.Op == 12)) rfl (fun hb => ?_) (fun hb => ?_))
                        · replace h := iteT hb h
                          refine wp_seq (region_b [] [true, false, true, true, true, false, true, true, true]
                              [.eq (.pointer (some ⟨b1, 1, none⟩)), .eq (.int .i64 p0.A), .eq (.bool (p0.A == 0)), .eq (.bool (p0.A == 0)), .eq (.pointer (some ⟨b1, 2, none⟩)), .eq (.int .i64 p0.B), .eq (.bool (p0.B == 0)), .eq (.bool ((p0.A == 0) && (p0.B == 0))), .eq (.bool ((p0.A == 0) && (p0.B == 0)))]
                              [(6, .bool ((p0.A == 0) && (p0.B == 0)))] mix hF (by kernel_rfl) (by kernel_rfl) (by kernel_rfl) ⟨Pd.mono_eq, Pd.mono_eq, trivial⟩ (fun hG => ⟨np_loadBox hG hF ty3 rfl rfl (hs.bx 0 rfl) rfl rfl rfl, np_loadBox hG hF ty3 rfl rfl (hs.bx 0 rfl) rfl rfl rfl, trivial⟩) (by kernel_rfl) fun fr w13 hF hE hc => then_normal ?_)
                          have hs := hs.ext hc
                          have hM0 := hM0.ext hc
                          have hs : Sep [] w13 S1 := Sep.pick [] hs (by decide) rfl
                          obtain rfl := Option.some.inj h
                          exact wp_ret (blk_ret (then_ret (ret1 rfl hF rfl ⟨_, rfl, rfl, hM0.chg⟩)))
                        · replace h := iteF hb h
                          have hs : Sep [] w2 S1 := Sep.pick [] hs (by decide) rfl
                          refine (wp_skip ?_)
                          refine blk_normal (then_normal ?_)
                          refine wp_seq (wp_pure [(6, .bool false)] hF (by kernel_rfl) fun fr hF => then_normal ?_)
                          obtain rfl := Option.some.inj h
                          exact wp_ret (ret1 rfl hF rfl ⟨_, rfl, rfl, hM0.chg⟩)
                      · replace h := iteF hb h
                        refine (wp_pure [(3, .pointer (some ⟨b1, 0, none⟩)), (91, .bool (p0.Op == 14))] hF (by kernel_rfl) fun fr hF => then_normal ?_)
                        refine (wp_if hF (b := (p0.Op == 14)) rfl (fun hb => ?_) (fun hb => ?_))
                        · replace h := iteT hb h
                          refine wp_seq (region_b [] [true, false, true, true, true, false, true, true, true]
                              [.eq (.pointer (some ⟨b1, 1, none⟩)), .eq (.int .i64 p0.A), .eq (.bool (p0.A == 0)), .eq (.bool (p0.A == 0)), .eq (.pointer (some ⟨b1, 2, none⟩)), .eq (.int .i64 p0.B), .eq (.bool (p0.B == 0)), .eq (.bool ((p0.A == 0) && (p0.B == 0))), .eq (.bool ((p0.A == 0) && (p0.B == 0)))]
                              [(6, .bool ((p0.A == 0) && (p0.B == 0)))] mix hF (by kernel_rfl) (by kernel_rfl) (by kernel_rfl) ⟨Pd.mono_eq, Pd.mono_eq, trivial⟩ (fun hG => ⟨np_loadBox hG hF ty3 rfl rfl (hs.bx 0 rfl) rfl rfl rfl, np_loadBox hG hF ty3 rfl rfl (hs.bx 0 rfl) rfl rfl rfl, trivial⟩) (by kernel_rfl) fun fr w14 hF hE hc => then_normal ?_)
                          have hs := hs.ext hc
                          have hM0 := hM0.ext hc
                          have hs : Sep [] w14 S1 := Sep.pick [] hs (by decide) rfl
                          obtain rfl := Option.some.inj h
                          exact wp_ret (blk_ret (then_ret (ret1 rfl hF rfl ⟨_, rfl, rfl, hM0.chg⟩)))
                        · replace h := iteF hb h
                          have hs : Sep [] w2 S1 := Sep.pick [] hs (by decide) rfl
                          refine (wp_skip ?_)
                          refine blk_normal (then_normal ?_)
                          refine wp_seq (wp_pure [(6, .bool false)] hF (by kernel_rfl) fun fr hF => then_normal ?_)
                          obtain rfl := Option.some.inj h
                          exact wp_ret (ret1 rfl hF rfl ⟨_, rfl, rfl, hM0.chg⟩)
            · replace h := iteF hb h
              refine wp_seq (wp_pure [(3, .pointer (some ⟨b1, 0, none⟩)), (7, .bool ((decide (p0.B ≥ 0)) && (decide (p0.B ≤ p2)))), (37, .int .i64 p0.Op), (61, .bool (p0.Op == 5))] hF (by kernel_rfl) fun fr hF => then_normal ?_)
              refine (wp_if hF (b := (p0.Op == 5)) rfl (fun hb => ?_) (fun hb => ?_))
              · replace h := iteT hb h
                refine (wp_skip (then_normal ?_))
                refine (wp_if hF (b := (p0.Op == 5)) rfl (fun hb => ?_) (fun hb => ?_))
                · replace h := iteT hb h
                  obtain ⟨x11, hx11, h⟩ := bindE h
                  refine wp_seq (region_b [] [true, false, false, true, true, false, true, true, true]
                      [.eq (.pointer (some ⟨b1, 1, none⟩)), .eq (.int .i64 p0.A), .eq (.bool x11), .eq (.bool x11), .eq (.pointer (some ⟨b1, 2, none⟩)), .eq (.int .i64 p0.B), .eq (.bool (p0.B == 0)), .eq (.bool (x11 && (p0.B == 0))), .eq (.bool (x11 && (p0.B == 0)))]
                      [(6, .bool (x11 && (p0.B == 0)))] mix hF (by kernel_rfl) (by kernel_rfl) (by kernel_rfl) ⟨Pd.mono_eq, Pd.mono_eq, Pd.mono_eq, trivial⟩ (fun hG => ⟨np_loadBox hG hF ty3 rfl rfl (hs.bx 0 rfl) rfl rfl rfl, np_call [.int .i64 p0.A] hG hF Try.call77 rfl rfl (fun w hC hg => (impl_isReg_ok p0.A hx11).mono fun e w' ⟨v, he, hv, hc⟩ => ⟨v, he, hc, hv⟩), np_loadBox hG hF ty3 rfl rfl (hs.bx 0 rfl) rfl rfl rfl, trivial⟩) (by kernel_rfl) fun fr w15 hF hE hc => then_normal ?_)
                  have hs := hs.ext hc
                  have hM0 := hM0.ext hc
                  have hs : Sep [] w15 S1 := Sep.pick [] hs (by decide) rfl
                  obtain rfl := Option.some.inj h
                  exact wp_ret (blk_ret (then_ret (ret1 rfl hF rfl ⟨_, rfl, rfl, hM0.chg⟩)))
                · replace h := iteF hb h
                  refine wp_seq ?_
                  refine wp_seq (wp_pure [(3, .pointer (some ⟨b1, 0, none⟩)), (7, .bool ((decide (p0.B ≥ 0)) && (decide (p0.B ≤ p2)))), (37, .int .i64 p0.Op), (74, .bool (p0.Op == 9))] hF (by kernel_rfl) fun fr hF => then_normal ?_)
                  refine (wp_if hF (b := (p0.Op == 9)) rfl (fun hb => ?_) (fun hb => ?_))
                  · replace h := iteT hb h
                    refine (wp_skip (then_normal ?_))
                    refine (wp_if hF (b := (p0.Op == 9)) rfl (fun hb => ?_) (fun hb => ?_))
                    · replace h := iteT hb h
                      refine wp_seq (region_b [] [true, false, true, true, true, true, true]
                          [.eq (.pointer (some ⟨b1, 1, none⟩)), .eq (.int .i64 p0.A), .eq (.bool (p0.A == 0)), .eq (.bool (p0.A == 0)), .eq (.bool ((decide (p0.B ≥ 0)) && (decide (p0.B ≤ p2)))), .eq (.bool ((p0.A == 0) && ((decide (p0.B ≥ 0)) && (decide (p0.B ≤ p2))))), .eq (.bool ((p0.A == 0) && ((decide (p0.B ≥ 0)) && (decide (p0.B ≤ p2)))))]
                          [(6, .bool ((p0.A == 0) && ((decide (p0.B ≥ 0)) && (decide (p0.B ≤ p2)))))] mix hF (by kernel_rfl) (by kernel_rfl) (by kernel_rfl) ⟨Pd.mono_eq, trivial⟩ (fun hG => ⟨np_loadBox hG hF ty3 rfl rfl (hs.bx 0 rfl) rfl rfl rfl, trivial⟩) (by kernel_rfl) fun fr w16 hF hE hc => then_normal ?_)
                      have hs := hs.ext hc
                      have hM0 := hM0.ext hc
                      have hs : Sep [] w16 S1 := Sep.pick [] hs (by decide) rfl
                      obtain rfl := Option.some.inj h
                      exact wp_ret (blk_ret (then_ret (ret1 rfl hF rfl ⟨_, rfl, rfl, hM0.chg⟩)))
                    · replace h := iteF hb h
                      refine wp_seq (wp_pure [(3, .pointer (some ⟨b1, 0, none⟩)), (7, .bool ((decide (p0.B ≥ 0)) && (decide (p0.B ≤ p2)))), (37, .int .i64 p0.Op), (83, .bool (p0.Op == 10))] hF (by kernel_rfl) fun fr hF => then_normal ?_)
                      refine (wp_if hF (b := (p0.Op == 10)) rfl (fun hb => ?_) (fun hb => ?_))
                      · replace h := iteT hb h
                        obtain ⟨x12, hx12, h⟩ := bindE h
                        refine wp_seq (region_b [] [true, false, false, true, true, true, true]
                            [.eq (.pointer (some ⟨b1, 1, none⟩)), .eq (.int .i64 p0.A), .eq (.bool x12), .eq (.bool x12), .eq (.bool ((decide (p0.B ≥ 0)) && (decide (p0.B ≤ p2)))), .eq (.bool (x12 && ((decide (p0.B ≥ 0)) && (decide (p0.B ≤ p2))))), .eq (.bool (x12 && ((decide (p0.B ≥ 0)) && (decide (p0.B ≤ p2)))))]
                            [(6, .bool (x12 && ((decide (p0.B ≥ 0)) && (decide (p0.B ≤ p2)))))] mix hF (by kernel_rfl) (by kernel_rfl) (by kernel_rfl) ⟨Pd.mono_eq, Pd.mono_eq, trivial⟩ (fun hG => ⟨np_loadBox hG hF ty3 rfl rfl (hs.bx 0 rfl) rfl rfl rfl, np_call [.int .i64 p0.A] hG hF Try.call77 rfl rfl (fun w hC hg => (impl_isReg_ok p0.A hx12).mono fun e w' ⟨v, he, hv, hc⟩ => ⟨v, he, hc, hv⟩), trivial⟩) (by kernel_rfl) fun fr w17 hF hE hc => then_normal ?_)
                        have hs := hs.ext hc
                        have hM0 := hM0.ext hc
                        have hs : Sep [] w17 S1 := Sep.pick [] hs (by decide) rfl
                        obtain rfl := Option.some.inj h
                        exact wp_ret (blk_ret (then_ret (ret1 rfl hF rfl ⟨_, rfl, rfl, hM0.chg⟩)))
                      · replace h := iteF hb h
                        refine wp_seq ?_
                        refine wp_seq (wp_pure [(3, .pointer (some ⟨b1, 0, none⟩)), (37, .int .i64 p0.Op), (91, .bool (p0.Op == 12))] hF (by kernel_rfl) fun fr hF => then_normal ?_)
                        refine (wp_if hF (b := (p0.Op == 12)) rfl (fun hb => ?_) (fun hb => ?_))
                        · replace h := iteT hb h
                          refine (wp_skip (then_normal ?_))
                          refine (wp_if hF (b := (p0.Op == 12)) rfl (fun hb => ?_) (fun hb => ?_))
                          · replace h := iteT hb h
                            refine wp_seq (region_b [] [true, false, true, true, true, false, true, true, true]
                                [.eq (.pointer (some ⟨b1, 1, none⟩)), .eq (.int .i64 p0.A), .eq (.bool (p0.A == 0)), .eq (.bool (p0.A == 0)), .eq (.pointer (some ⟨b1, 2, none⟩)), .eq (.int .i64 p0.B), .eq (.bool (p0.B == 0)), .eq (.bool ((p0.A == 0) && (p0.B == 0))), .eq (.bool ((p0.A == 0) && (p0.B == 0)))]
                                [(6, .bool ((p0.A == 0) && (p0.B == 0)))] mix hF (by kernel_rfl) (by kernel_rfl) (by kernel_rfl) ⟨Pd.mono_eq, Pd.mono_eq, trivial⟩ (fun hG => ⟨np_loadBox hG hF ty3 rfl rfl (hs.bx 0 rfl) rfl rfl rfl, np_loadBox hG hF ty3 rfl rfl (hs.bx 0 rfl) rfl rfl rfl, trivial⟩) (by kernel_rfl) fun fr w18 hF hE hc => then_normal ?_)
                            have hs := hs.ext hc
                            have hM0 := hM0.ext hc
                            have hs : Sep [] w18 S1 := Sep.pick [] hs (by decide) rfl
                            obtain rfl := Option.some.inj h
                            exact wp_ret (blk_ret (then_ret (ret1 rfl hF rfl ⟨_, rfl, rfl, hM0.chg⟩)))
                          · replace h := iteF hb h
                            have hs : Sep [] w2 S1 := Sep.pick [] hs (by decide) rfl
                            refine (wp_skip ?_)
                            refine blk_normal (then_normal ?_)
                            refine wp_seq (wp_pure [(6, .bool false)] hF (by kernel_rfl) fun fr hF => then_normal ?_)
                            obtain rfl := Option.some.inj h
                            exact wp_ret (ret1 rfl hF rfl ⟨_, rfl, rfl, hM0.chg⟩)
                        · replace h := iteF hb h
                          refine (wp_pure [(3, .pointer (some ⟨b1, 0, none⟩)), (91, .bool (p0.Op == 14))] hF (by kernel_rfl) fun fr hF => then_normal ?_)
                          refine (wp_if hF (b := (p0.Op == 14)) rfl (fun hb => ?_) (fun hb => ?_))
                          · replace h := iteT hb h
                            refine wp_seq (region_b [] [true, false, true, true, true, false, true, true, true]
                                [.eq (.pointer (some ⟨b1, 1, none⟩)), .eq (.int .i64 p0.A), .eq (.bool (p0.A == 0)), .eq (.bool (p0.A == 0)), .eq (.pointer (some ⟨b1, 2, none⟩)), .eq (.int .i64 p0.B), .eq (.bool (p0.B == 0)), .eq (.bool ((p0.A == 0) && (p0.B == 0))), .eq (.bool ((p0.A == 0) && (p0.B == 0)))]
                                [(6, .bool ((p0.A == 0) && (p0.B == 0)))] mix hF (by kernel_rfl) (by kernel_rfl) (by kernel_rfl) ⟨Pd.mono_eq, Pd.mono_eq, trivial⟩ (fun hG => ⟨np_loadBox hG hF ty3 rfl rfl (hs.bx 0 rfl) rfl rfl rfl, np_loadBox hG hF ty3 rfl rfl (hs.bx 0 rfl) rfl rfl rfl, trivial⟩) (by kernel_rfl) fun fr w19 hF hE hc => then_normal ?_)
                            have hs := hs.ext hc
                            have hM0 := hM0.ext hc
                            have hs : Sep [] w19 S1 := Sep.pick [] hs (by decide) rfl
                            obtain rfl := Option.some.inj h
                            exact wp_ret (blk_ret (then_ret (ret1 rfl hF rfl ⟨_, rfl, rfl, hM0.chg⟩)))
                          · replace h := iteF hb h
                            have hs : Sep [] w2 S1 := Sep.pick [] hs (by decide) rfl
                            refine (wp_skip ?_)
                            refine blk_normal (then_normal ?_)
                            refine wp_seq (wp_pure [(6, .bool false)] hF (by kernel_rfl) fun fr hF => then_normal ?_)
                            obtain rfl := Option.some.inj h
                            exact wp_ret (ret1 rfl hF rfl ⟨_, rfl, rfl, hM0.chg⟩)
                  · replace h := iteF hb h
                    refine (wp_pure [(3, .pointer (some ⟨b1, 0, none⟩)), (7, .bool ((decide (p0.B ≥ 0)) && (decide (p0.B ≤ p2)))), (37, .int .i64 p0.Op), (74, .bool (p0.Op == 11))] hF (by kernel_rfl) fun fr hF => then_normal ?_)
                    refine (wp_if hF (b := (p0.Op == 11)) rfl (fun hb => ?_) (fun hb => ?_))
                    · replace h := iteT hb h
                      refine wp_seq (region_b [] [true, false, true, true, true, true, true]
                          [.eq (.pointer (some ⟨b1, 1, none⟩)), .eq (.int .i64 p0.A), .eq (.bool (p0.A == 0)), .eq (.bool (p0.A == 0)), .eq (.bool ((decide (p0.B ≥ 0)) && (decide (p0.B ≤ p2)))), .eq (.bool ((p0.A == 0) && ((decide (p0.B ≥ 0)) && (decide (p0.B ≤ p2))))), .eq (.bool ((p0.A == 0) && ((decide (p0.B ≥ 0)) && (decide (p0.B ≤ p2)))))]
                          [(6, .bool ((p0.A == 0) && ((decide (p0.B ≥ 0)) && (decide (p0.B ≤ p2)))))] mix hF (by kernel_rfl) (by kernel_rfl) (by kernel_rfl) ⟨Pd.mono_eq, trivial⟩ (fun hG => ⟨np_loadBox hG hF ty3 rfl rfl (hs.bx 0 rfl) rfl rfl rfl, trivial⟩) (by kernel_rfl) fun fr w20 hF hE hc => then_normal ?_)
                      have hs := hs.ext hc
                      have hM0 := hM0.ext hc
                      have hs : Sep [] w20 S1 := Sep.pick [] hs (by decide) rfl
                      obtain rfl := Option.some.inj h
                      exact wp_ret (blk_ret (then_ret (ret1 rfl hF rfl ⟨_, rfl, rfl, hM0.chg⟩)))
                    · replace h := iteF hb h
                      refine wp_seq (wp_pure [(3, .pointer (some ⟨b1, 0, none⟩)), (7, .bool ((decide (p0.B ≥ 0)) && (decide (p0.B ≤ p2)))), (37, .int .i64 p0.Op), (83, .bool (p0.Op == 10))] hF (by kernel_rfl) fun fr hF => then_normal ?_)
                      refine (wp_if hF (b := (p0.Op == 10)) rfl (fun hb => ?_) (fun hb => ?_))
                      · replace h := iteT hb h
                        obtain ⟨x13, hx13, h⟩ := bindE h
                        refine wp_seq (region_b [] [true, false, false, true, true, true, true]
                            [.eq (.pointer (some ⟨b1, 1, none⟩)), .eq (.int .i64 p0.A), .eq (.bool x13), .eq (.bool x13), .eq (.bool ((decide (p0.B ≥ 0)) && (decide (p0.B ≤ p2)))), .eq (.bool (x13 && ((decide (p0.B ≥ 0)) && (decide (p0.B ≤ p2))))), .eq (.bool (x13 && ((decide (p0.B ≥ 0)) && (decide (p0.B ≤ p2)))))]
                            [(6, .bool (x13 && ((decide (p0.B ≥ 0)) && (decide (p0.B ≤ p2)))))] mix hF (by kernel_rfl) (by kernel_rfl) (by kernel_rfl) ⟨Pd.mono_eq, Pd.mono_eq, trivial⟩ (fun hG => ⟨np_loadBox hG hF ty3 rfl rfl (hs.bx 0 rfl) rfl rfl rfl, np_call [.int .i64 p0.A] hG hF Try.call77 rfl rfl (fun w hC hg => (impl_isReg_ok p0.A hx13).mono fun e w' ⟨v, he, hv, hc⟩ => ⟨v, he, hc, hv⟩), trivial⟩) (by kernel_rfl) fun fr w21 hF hE hc => then_normal ?_)
                        have hs := hs.ext hc
                        have hM0 := hM0.ext hc
                        have hs : Sep [] w21 S1 := Sep.pick [] hs (by decide) rfl
                        obtain rfl := Option.some.inj h
                        exact wp_ret (blk_ret (then_ret (ret1 rfl hF rfl ⟨_, rfl, rfl, hM0.chg⟩)))
                      · replace h := iteF hb h
                        refine wp_seq ?_
                        refine wp_seq (wp_pure [(3, .pointer (some ⟨b1, 0, none⟩)), (37, .int .i64 p0.Op), (91, .bool (p0.Op == 12))] hF (by kernel_rfl) fun fr hF => then_normal ?_)
                        refine (wp_if hF (b := (p0.Op == 12)) rfl (fun hb => ?_) (fun hb => ?_))
                        · replace h := iteT hb h
                          refine (wp_skip (then_normal ?_))
                          refine (wp_if hF (b := (p0.Op == 12)) rfl (fun hb => ?_) (fun hb => ?_))
                          · replace h := iteT hb h
                            refine wp_seq (region_b [] [true, false, true, true, true, false, true, true, true]
                                [.eq (.pointer (some ⟨b1, 1, none⟩)), .eq (.int .i64 p0.A), .eq (.bool (p0.A == 0)), .eq (.bool (p0.A == 0)), .eq (.pointer (some ⟨b1, 2, none⟩)), .eq (.int .i64 p0.B), .eq (.bool (p0.B == 0)), .eq (.bool ((p0.A == 0) && (p0.B == 0))), .eq (.bool ((p0.A == 0) && (p0.B == 0)))]
                                [(6, .bool ((p0.A == 0) && (p0.B == 0)))] mix hF (by kernel_rfl) (by kernel_rfl) (by kernel_rfl) ⟨Pd.mono_eq, Pd.mono_eq, trivial⟩ (fun hG => ⟨np_loadBox hG hF ty3 rfl rfl (hs.bx 0 rfl) rfl rfl rfl, np_loadBox hG hF ty3 rfl rfl (hs.bx 0 rfl) rfl rfl rfl, trivial⟩) (by kernel_rfl) fun fr w22 hF hE hc => then_normal ?_)
                            have hs := hs.ext hc
                            have hM0 := hM0.ext hc
                            have hs : Sep [] w22 S1 := Sep.pick [] hs (by decide) rfl
                            obtain rfl := Option.some.inj h
                            exact wp_ret (blk_ret (then_ret (ret1 rfl hF rfl ⟨_, rfl, rfl, hM0.chg⟩)))
                          · replace h := iteF hb h
                            have hs : Sep [] w2 S1 := Sep.pick [] hs (by decide) rfl
                            refine (wp_skip ?_)
                            refine blk_normal (then_normal ?_)
                            refine wp_seq (wp_pure [(6, .bool false)] hF (by kernel_rfl) fun fr hF => then_normal ?_)
                            obtain rfl := Option.some.inj h
                            exact wp_ret (ret1 rfl hF rfl ⟨_, rfl, rfl, hM0.chg⟩)
                        · replace h := iteF hb h
                          refine (wp_pure [(3, .pointer (some ⟨b1, 0, none⟩)), (91, .bool (p0.Op == 14))] hF (by kernel_rfl) fun fr hF => then_normal ?_)
                          refine (wp_if hF (b := (p0.Op == 14)) rfl (fun hb => ?_) (fun hb => ?_))
                          · replace h := iteT hb h
                            refine wp_seq (region_b [] [true, false, true, true, true, false, true, true, true]
                                [.eq (.pointer (some ⟨b1, 1, none⟩)), .eq (.int .i64 p0.A), .eq (.bool (p0.A == 0)), .eq (.bool (p0.A == 0)), .eq (.pointer (some ⟨b1, 2, none⟩)), .eq (.int .i64 p0.B), .eq (.bool (p0.B == 0)), .eq (.bool ((p0.A == 0) && (p0.B == 0))), .eq (.bool ((p0.A == 0) && (p0.B == 0)))]
                                [(6, .bool ((p0.A == 0) && (p0.B == 0)))] mix hF (by kernel_rfl) (by kernel_rfl) (by kernel_rfl) ⟨Pd.mono_eq, Pd.mono_eq, trivial⟩ (fun hG => ⟨np_loadBox hG hF ty3 rfl rfl (hs.bx 0 rfl) rfl rfl rfl, np_loadBox hG hF ty3 rfl rfl (hs.bx 0 rfl) rfl rfl rfl, trivial⟩) (by kernel_rfl) fun fr w23 hF hE hc => then_normal ?_)
                            have hs := hs.ext hc
                            have hM0 := hM0.ext hc
                            have hs : Sep [] w23 S1 := Sep.pick [] hs (by decide) rfl
                            obtain rfl := Option.some.inj h
                            exact wp_ret (blk_ret (then_ret (ret1 rfl hF rfl ⟨_, rfl, rfl, hM0.chg⟩)))
                          · replace h := iteF hb h
                            have hs : Sep [] w2 S1 := Sep.pick [] hs (by decide) rfl
                            refine (wp_skip ?_)
                            refine blk_normal (then_normal ?_)
                            refine wp_seq (wp_pure [(6, .bool false)] hF (by kernel_rfl) fun fr hF => then_normal ?_)
                            obtain rfl := Option.some.inj h
                            exact wp_ret (ret1 rfl hF rfl ⟨_, rfl, rfl, hM0.chg⟩)
              · replace h := iteF hb h
                refine wp_seq (wp_pure [(3, .pointer (some ⟨b1, 0, none⟩)), (7, .bool ((decide (p0.B ≥ 0)) && (decide (p0.B ≤ p2)))), (37, .int .i64 p0.Op), (61, .bool (p0.Op == 6))] hF (by kernel_rfl) fun fr hF => then_normal ?_)
                refine (wp_if hF (b := (p0.Op == 6)) rfl (fun hb => ?_) (fun hb => ?_))
                · replace h := iteT hb h
                  refine (wp_skip (then_normal ?_))
                  refine (wp_if hF (b := (p0.Op == 6)) rfl (fun hb => ?_) (fun hb => ?_))
                  · replace h := iteT hb h
                    obtain ⟨x14, hx14, h⟩ := bindE h
                    refine wp_seq (region_b [] [true, false, false, true, true, false, true, true, true]
                        [.eq (.pointer (some ⟨b1, 1, none⟩)), .eq (.int .i64 p0.A), .eq (.bool x14), .eq (.bool x14), .eq (.pointer (some ⟨b1, 2, none⟩)), .eq (.int .i64 p0.B), .eq (.bool (p0.B == 0)), .eq (.bool (x14 && (p0.B == 0))), .eq (.bool (x14 && (p0.B == 0)))]
                        [(6, .bool (x14 && (p0.B == 0)))] mix hF (by kernel_rfl) (by kernel_rfl) (by kernel_rfl) ⟨Pd.mono_eq, Pd.mono_eq, Pd.mono_eq, trivial⟩ (fun hG => ⟨np_loadBox hG hF ty3 rfl rfl (hs.bx 0 rfl) rfl rfl rfl, np_call [.int .i64 p0.A] hG hF Try.call77 rfl rfl (fun w hC hg => (impl_isReg_ok p0.A hx14).mono fun e w' ⟨v, he, hv, hc⟩ => ⟨v, he, hc, hv⟩), np_loadBox hG hF ty3 rfl rfl (hs.bx 0 rfl) rfl rfl rfl, trivial⟩) (by kernel_rfl) fun fr w24 hF hE hc => then_normal ?_)
                    have hs := hs.ext hc
                    have hM0 := hM0.ext hc
                    have hs : Sep [] w24 S1 := Sep.pick [] hs (by decide) rfl
                    obtain rfl := Option.some.inj h
                    exact wp_ret (blk_ret (then_ret (ret1 rfl hF rfl ⟨_, rfl, rfl, hM0.chg⟩)))
                  · replace h := iteF hb h
                    refine wp_seq ?_
                    refine wp_seq (wp_pure [(3, .pointer (some ⟨b1, 0, none⟩)), (7, .bool ((decide (p0.B ≥ 0)) && (decide (p0.B ≤ p2)))), (37, .int .i64 p0.Op), (74, .bool (p0.Op == 9))] hF (by kernel_rfl) fun fr hF => then_normal ?_)
                    refine (wp_if hF (b := (p0.Op == 9)) rfl (fun hb => ?_) (fun hb => ?_))
                    · replace h := iteT hb h
                      refine (wp_skip (then_normal ?_))
                      refine (wp_if hF (b := (p0.Op == 9)) rfl (fun hb => ?_) (fun hb => ?_))
                      · replace h := iteT hb h
                        refine wp_seq (region_b [] [true, false, true, true, true, true, true]
                            [.eq (.pointer (some ⟨b1, 1, none⟩)), .eq (.int .i64 p0.A), .eq (.bool (p0.A == 0)), .eq (.bool (p0.A == 0)), .eq (.bool ((decide (p0.B ≥ 0)) && (decide (p0.B ≤ p2)))), .eq (.bool ((p0.A == 0) && ((decide (p0.B ≥ 0)) && (decide (p0.B ≤ p2))))), .eq (.bool ((p0.A == 0) && ((decide (p0.B ≥ 0)) && (decide (p0.B ≤ p2)))))]
                            [(6, .bool ((p0.A == 0) && ((decide (p0.B ≥ 0)) && (decide (p0.B ≤ p2)))))] mix hF (by kernel_rfl) (by kernel_rfl) (by kernel_rfl) ⟨Pd.mono_eq, trivial⟩ (fun hG => ⟨np_loadBox hG hF ty3 rfl rfl (hs.bx 0 rfl) rfl rfl rfl, trivial⟩) (by kernel_rfl) fun fr w25 hF hE hc => then_normal ?_)
                        have hs := hs.ext hc
                        have hM0 := hM0.ext hc
                        have hs : Sep [] w25 S1 := Sep.pick [] hs (by decide) rfl
                        obtain rfl := Option.some.inj h
                        exact wp_ret (blk_ret (then_ret (ret1 rfl hF rfl ⟨_, rfl, rfl, hM0.chg⟩)))
                      · replace h := iteF hb h
                        refine wp_seq (wp_pure [(3, .pointer (some ⟨b1, 0, none⟩)), (7, .bool ((decide (p0.B ≥ 0)) && (decide (p0.B ≤ p2)))), (37, .int .i64 p0.Op), (83, .bool (p0.Op == 10))] hF (by kernel_rfl) fun fr hF => then_normal ?_)
                        refine (wp_if hF (b := (p0.Op == 10)) rfl (fun hb => ?_) (fun hb => ?_))
                        · replace h := iteT hb h
                          obtain ⟨x15, hx15, h⟩ := bindE h
                          refine wp_seq (region_b [] [true, false, false, true, true, true, true]
                              [.eq (.pointer (some ⟨b1, 1, none⟩)), .eq (.int .i64 p0.A), .eq (.bool x15), .eq (.bool x15), .eq (.bool ((decide (p0.B ≥ 0)) && (decide (p0.B ≤ p2)))), .eq (.bool (x15 && ((decide (p0.B ≥ 0)) && (decide (p0.B ≤ p2))))), .eq (.bool (x15 && ((decide (p0.B ≥ 0)) && (decide (p0.B ≤ p2)))))]
                              [(6, .bool (x15 && ((decide (p0.B ≥ 0)) && (decide (p0.B ≤ p2)))))] mix hF (by kernel_rfl) (by kernel_rfl) (by kernel_rfl) ⟨Pd.mono_eq, Pd.mono_eq, trivial⟩ (fun hG => ⟨np_loadBox hG hF ty3 rfl rfl (hs.bx 0 rfl) rfl rfl rfl, np_call [.int .i64 p0.A] hG hF Try.call77 rfl rfl (fun w hC hg => (impl_isReg_ok p0.A hx15).mono fun e w' ⟨v, he, hv, hc⟩ => ⟨v, he, hc, hv⟩), trivial⟩) (by kernel_rfl) fun fr w26 hF hE hc => then_normal ?_)
                          have hs := hs.ext hc
                          have hM0 := hM0.ext hc
                          have hs : Sep [] w26 S1 := Sep.pick [] hs (by decide) rfl
                          obtain rfl := Option.some.inj h
                          exact wp_ret (blk_ret (then_ret (ret1 rfl hF rfl ⟨_, rfl, rfl, hM0.chg⟩)))
                        · replace h := iteF hb h
                          refine wp_seq ?_
                          refine wp_seq (wp_pure [(3, .pointer (some ⟨b1, 0, none⟩)), (37, .int .i64 p0.Op), (91, .bool (p0.Op == 12))] hF (by kernel_rfl) fun fr hF => then_normal ?_)
                          refine (wp_if hF (b := (p0.Op == 12)) rfl (fun hb => ?_) (fun hb => ?_))
                          · replace h := iteT hb h
                            refine (wp_skip (then_normal ?_))
                            refine (wp_if hF (b := (p0.Op == 12)) rfl (fun hb => ?_) (fun hb => ?_))
                            · replace h := iteT hb h
                              refine wp_seq (region_b [] [true, false, true, true, true, false, true, true, true]
                                  [.eq (.pointer (some ⟨b1, 1, none⟩)), .eq (.int .i64 p0.A), .eq (.bool (p0.A == 0)), .eq (.bool (p0.A == 0)), .eq (.pointer (some ⟨b1, 2, none⟩)), .eq (.int .i64 p0.B), .eq (.bool (p0.B == 0)), .eq (.bool ((p0.A == 0) && (p0.B == 0))), .eq (.bool ((p0.A == 0) && (p0.B == 0)))]
                                  [(6, .bool ((p0.A == 0) && (p0.B == 0)))] mix hF (by kernel_rfl) (by kernel_rfl) (by kernel_rfl) ⟨Pd.mono_eq, Pd.mono_eq, trivial⟩ (fun hG => ⟨np_loadBox hG hF ty3 rfl rfl (hs.bx 0 rfl) rfl rfl rfl, np_loadBox hG hF ty3 rfl rfl (hs.bx 0 rfl) rfl rfl rfl, trivial⟩) (by kernel_rfl) fun fr w27 hF hE hc => then_normal ?_)
                              have hs := hs.ext hc
                              have hM0 := hM0.ext hc
                              have hs : Sep [] w27 S1 := Sep.pick [] hs (by decide) rfl
                              obtain rfl := Option.some.inj h
                              exact wp_ret (blk_ret (then_ret (ret1 rfl hF rfl ⟨_, rfl, rfl, hM0.chg⟩)))
                            · replace h := iteF hb h
                              have hs : Sep [] w2 S1 := Sep.pick [] hs (by decide) rfl
                              refine (wp_skip ?_)
                              refine blk_normal (then_normal ?_)
                              refine wp_seq (wp_pure [(6, .bool false)] hF (by kernel_rfl) fun fr hF => then_normal ?_)
                              obtain rfl := Option.some.inj h
                              exact wp_ret (ret1 rfl hF rfl ⟨_, rfl, rfl, hM0.chg⟩)
                          · replace h := iteF hb h
                            refine (wp_pure [(3, .pointer (some ⟨b1, 0, none⟩)), (91, .bool (p0.Op == 14))] hF (by kernel_rfl) fun fr hF => then_normal ?_)
                            refine (wp_if hF (b := (p0.Op == 14)) rfl (fun hb => ?_) (fun hb => ?_))
                            · replace h := iteT hb h
                              refine wp_seq (region_b [] [true, false, true, true, true, false, true, true, true]
                                  [.eq (.pointer (some ⟨b1, 1, none⟩)), .eq (.int .i64 p0.A), .eq (.bool (p0.A == 0)), .eq (.bool (p0.A == 0)), .eq (.pointer (some ⟨b1, 2, none⟩)), .eq (.int .i64 p0.B), .eq (.bool (p0.B == 0)), .eq (.bool ((p0.A == 0) && (p0.B == 0))), .eq (.bool ((p0.A == 0) && (p0.B == 0)))]
                                  [(6, .bool ((p0.A == 0) && (p0.B == 0)))] mix hF (by kernel_rfl) (by kernel_rfl) (by kernel_rfl) ⟨Pd.mono_eq, Pd.mono_eq, trivial⟩ (fun hG => ⟨np_loadBox hG hF ty3 rfl rfl (hs.bx 0 rfl) rfl rfl rfl, np_loadBox hG hF ty3 rfl rfl (hs.bx 0 rfl) rfl rfl rfl, trivial⟩) (by kernel_rfl) fun fr w28 hF hE hc => then_normal ?_)
                              have hs := hs.ext hc
                              have hM0 := hM0.ext hc
                              have hs : Sep [] w28 S1 := Sep.pick [] hs (by decide) rfl
                              obtain rfl := Option.some.inj h
                              exact wp_ret (blk_ret (then_ret (ret1 rfl hF rfl ⟨_, rfl, rfl, hM0.chg⟩)))
                            · replace h := iteF hb h
                              have hs : Sep [] w2 S1 := Sep.pick [] hs (by decide) rfl
                              refine (wp_skip ?_)
                              refine blk_normal (then_normal ?_)
                              refine wp_seq (wp_pure [(6, .bool false)] hF (by kernel_rfl) fun fr hF => then_normal ?_)
                              obtain rfl := Option.some.inj h
                              exact wp_ret (ret1 rfl hF rfl ⟨_, rfl, rfl, hM0.chg⟩)
                    · replace h := iteF hb h
                      refine (wp_pure [(3, .pointer (some ⟨b1, 0, none⟩)), (7, .bool ((decide (p0.B ≥ 0)) && (decide (p0.B ≤ p2)))), (37, .int .i64 p0.Op), (74, .bool (p0.Op == 11))] hF (by kernel_rfl) fun fr hF => then_normal ?_)
                      refine (wp_if hF (b := (p0.Op == 11)) rfl (fun hb => ?_) (fun hb => ?_))
                      · replace h := iteT hb h
                        refine wp_seq (region_b [] [true, false, true, true, true, true, true]
                            [.eq (.pointer (some ⟨b1, 1, none⟩)), .eq (.int .i64 p0.A), .eq (.bool (p0.A == 0)), .eq (.bool (p0.A == 0)), .eq (.bool ((decide (p0.B ≥ 0)) && (decide (p0.B ≤ p2)))), .eq (.bool ((p0.A == 0) && ((decide (p0.B ≥ 0)) && (decide (p0.B ≤ p2))))), .eq (.bool ((p0.A == 0) && ((decide (p0.B ≥ 0)) && (decide (p0.B ≤ p2)))))]
                            [(6, .bool ((p0.A == 0) && ((decide (p0.B ≥ 0)) && (decide (p0.B ≤ p2)))))] mix hF (by kernel_rfl) (by kernel_rfl) (by kernel_rfl) ⟨Pd.mono_eq, trivial⟩ (fun hG => ⟨np_loadBox hG hF ty3 rfl rfl (hs.bx 0 rfl) rfl rfl rfl, trivial⟩) (by kernel_rfl) fun fr w29 hF hE hc => then_normal ?_)
                        have hs := hs.ext hc
                        have hM0 := hM0.ext hc
                        have hs : Sep [] w29 S1 := Sep.pick [] hs (by decide) rfl
                        obtain rfl := Option.some.inj h
                        exact wp_ret (blk_ret (then_ret (ret1 rfl hF rfl ⟨_, rfl, rfl, hM0.chg⟩)))
                      · replace h := iteF hb h
                        refine wp_seq (wp_pure [(3, .pointer (some ⟨b1, 0, none⟩)), (7, .bool ((decide (p0.B ≥ 0)) && (decide (p0.B ≤ p2)))), (37, .int .i64 p0.Op), (83, .bool (p0.Op == 10))] hF (by kernel_rfl) fun fr hF => then_normal ?_)
                        refine (wp_if hF (b := (p0.Op == 10)) rfl (fun hb => ?_) (fun hb => ?_))
                        · replace h := iteT hb h
                          obtain ⟨x16, hx16, h⟩ := bindE h
                          refine wp_seq (region_b [] [true, false, false, true, true, true, true]
                              [.eq (.pointer (some ⟨b1, 1, none⟩)), .eq (.int .i64 p0.A), .eq (.bool x16), .eq (.bool x16), .eq (.bool ((decide (p0.B ≥ 0)) && (decide (p0.B ≤ p2)))), .eq (.bool (x16 && ((decide (p0.B ≥ 0)) && (decide (p0.B ≤ p2))))), .eq (.bool (x16 && ((decide (p0.B ≥ 0)) && (decide (p0.B ≤ p2)))))]
                              [(6, .bool (x16 && ((decide (p0.B ≥ 0)) && (decide (p0.B ≤ p2)))))] mix hF (by kernel_rfl) (by kernel_rfl) (by kernel_rfl) ⟨Pd.mono_eq, Pd.mono_eq, trivial⟩ (fun hG => ⟨np_loadBox hG hF ty3 rfl rfl (hs.bx 0 rfl) rfl rfl rfl, np_call [.int .i64 p0.A] hG hF Try.call77 rfl rfl (fun w hC hg => (impl_isReg_ok p0.A hx16).mono fun e w' ⟨v, he, hv, hc⟩ => ⟨v, he, hc, hv⟩), trivial⟩) (by kernel_rfl) fun fr w30 hF hE hc => then_normal ?_)
                          have hs := hs.ext hc
                          have hM0 := hM0.ext hc
                          have hs : Sep [] w30 S1 := Sep.pick [] hs (by decide) rfl
                          obtain rfl := Option.some.inj h
                          exact wp_ret (blk_ret (then_ret (ret1 rfl hF rfl ⟨_, rfl, rfl, hM0.chg⟩)))
                        · replace h := iteF hb h
                          refine wp_seq ?_
                          refine wp_seq (wp_pure [(3, .pointer (some ⟨b1, 0, none⟩)), (37, .int .i64 p0.Op), (91, .bool (p0.Op == 12))] hF (by kernel_rfl) fun fr hF => then_normal ?_)
                          refine (wp_if hF (b := (p0.Op == 12)) rfl (fun hb => ?_) (fun hb => ?_))
                          · replace h := iteT hb h
                            refine (wp_skip (then_normal ?_))
                            refine (wp_if hF (b := (p0.Op == 12)) rfl (fun hb => ?_) (fun hb => ?_))
                            · replace h := iteT hb h
                              refine wp_seq (region_b [] [true, false, true, true, true, false, true, true, true]
                                  [.eq (.pointer (some ⟨b1, 1, none⟩)), .eq (.int .i64 p0.A), .eq (.bool (p0.A == 0)), .eq (.bool (p0.A == 0)), .eq (.pointer (some ⟨b1, 2, none⟩)), .eq (.int .i64 p0.B), .eq (.bool (p0.B == 0)), .eq (.bool ((p0.A == 0) && (p0.B == 0))), .eq (.bool ((p0.A == 0) && (p0.B == 0)))]
                                  [(6, .bool ((p0.A == 0) && (p0.B == 0)))] mix hF (by kernel_rfl) (by kernel_rfl) (by kernel_rfl) ⟨Pd.mono_eq, Pd.mono_eq, trivial⟩ (fun hG => ⟨np_loadBox hG hF ty3 rfl rfl (hs.bx 0 rfl) rfl rfl rfl, np_loadBox hG hF ty3 rfl rfl (hs.bx 0 rfl) rfl rfl rfl, trivial⟩) (by kernel_rfl) fun fr w31 hF hE hc => then_normal ?_)
                              have hs := hs.ext hc
                              have hM0 := hM0.ext hc
                              have hs : Sep [] w31 S1 := Sep.pick [] hs (by decide) rfl
                              obtain rfl := Option.some.inj h
                              exact wp_ret (blk_ret (then_ret (ret1 rfl hF rfl ⟨_, rfl, rfl, hM0.chg⟩)))
                            · replace h := iteF hb h
                              have hs : Sep [] w2 S1 := Sep.pick [] hs (by decide) rfl
                              refine (wp_skip ?_)
                              refine blk_normal (then_normal ?_)
                              refine wp_seq (wp_pure [(6, .bool false)] hF (by kernel_rfl) fun fr hF => then_normal ?_)
                              obtain rfl := Option.some.inj h
                              exact wp_ret (ret1 rfl hF rfl ⟨_, rfl, rfl, hM0.chg⟩)
                          · replace h := iteF hb h
                            refine (wp_pure [(3, .pointer (some ⟨b1, 0, none⟩)), (91, .bool (p0.Op == 14))] hF (by kernel_rfl) fun fr hF => then_normal ?_)
                            refine (wp_if hF (b := (p0.Op == 14)) rfl (fun hb => ?_) (fun hb => ?_))
                            · replace h := iteT hb h
                              refine wp_seq (region_b [] [true, false, true, true, true, false, true, true, true]
                                  [.eq (.pointer (some ⟨b1, 1, none⟩)), .eq (.int .i64 p0.A), .eq (.bool (p0.A == 0)), .eq (.bool (p0.A == 0)), .eq (.pointer (some ⟨b1, 2, none⟩)), .eq (.int .i64 p0.B), .eq (.bool (p0.B == 0)), .eq (.bool ((p0.A == 0) && (p0.B == 0))), .eq (.bool ((p0.A == 0) && (p0.B == 0)))]
                                  [(6, .bool ((p0.A == 0) && (p0.B == 0)))] mix hF (by kernel_rfl) (by kernel_rfl) (by kernel_rfl) ⟨Pd.mono_eq, Pd.mono_eq, trivial⟩ (fun hG => ⟨np_loadBox hG hF ty3 rfl rfl (hs.bx 0 rfl) rfl rfl rfl, np_loadBox hG hF ty3 rfl rfl (hs.bx 0 rfl) rfl rfl rfl, trivial⟩) (by kernel_rfl) fun fr w32 hF hE hc => then_normal ?_)
                              have hs := hs.ext hc
                              have hM0 := hM0.ext hc
                              have hs : Sep [] w32 S1 := Sep.pick [] hs (by decide) rfl
                              obtain rfl := Option.some.inj h
                              exact wp_ret (blk_ret (then_ret (ret1 rfl hF rfl ⟨_, rfl, rfl, hM0.chg⟩)))
                            · replace h := iteF hb h
                              have hs : Sep [] w2 S1 := Sep.pick [] hs (by decide) rfl
                              refine (wp_skip ?_)
                              refine blk_normal (then_normal ?_)
                              refine wp_seq (wp_pure [(6, .bool false)] hF (by kernel_rfl) fun fr hF => then_normal ?_)
                              obtain rfl := Option.some.inj h
                              exact wp_ret (ret1 rfl hF rfl ⟨_, rfl, rfl, hM0.chg⟩)
                · replace h := iteF hb h
                  refine (wp_pure [(3, .pointer (some ⟨b1, 0, none⟩)), (7, .bool ((decide (p0.B ≥ 0)) && (decide (p0.B ≤ p2)))), (37, .int .i64 p0.Op), (61, .bool (p0.Op == 13))] hF (by kernel_rfl) fun fr hF => then_normal ?_)
                  refine (wp_if hF (b := (p0.Op == 13)) rfl (fun hb => ?_) (fun hb => ?_))
                  · replace h := iteT hb h
                    obtain ⟨x17, hx17, h⟩ := bindE h
                    refine wp_seq (region_b [] [true, false, false, true, true, false, true, true, true]
                        [.eq (.pointer (some ⟨b1, 1, none⟩)), .eq (.int .i64 p0.A), .eq (.bool x17), .eq (.bool x17), .eq (.pointer (some ⟨b1, 2, none⟩)), .eq (.int .i64 p0.B), .eq (.bool (p0.B == 0)), .eq (.bool (x17 && (p0.B == 0))), .eq (.bool (x17 && (p0.B == 0)))]
                        [(6, .bool (x17 && (p0.B == 0)))] mix hF (by kernel_rfl) (by kernel_rfl) (by kernel_rfl) ⟨Pd.mono_eq, Pd.mono_eq, Pd.mono_eq, trivial⟩ (fun hG => ⟨np_loadBox hG hF ty3 rfl rfl (hs.bx 0 rfl) rfl rfl rfl, np_call [.int .i64 p0.A] hG hF Try.call77 rfl rfl (fun w hC hg => (impl_isReg_ok p0.A hx17).mono fun e w' ⟨v, he, hv, hc⟩ => ⟨v, he, hc, hv⟩), np_loadBox hG hF ty3 rfl rfl (hs.bx 0 rfl) rfl rfl rfl, trivial⟩) (by kernel_rfl) fun fr w33 hF hE hc => then_normal ?_)
                    have hs := hs.ext hc
                    have hM0 := hM0.ext hc
                    have hs : Sep [] w33 S1 := Sep.pick [] hs (by decide) rfl
                    obtain rfl := Option.some.inj h
                    exact wp_ret (blk_ret (then_ret (ret1 rfl hF rfl ⟨_, rfl, rfl, hM0.chg⟩)))
                  · replace h := iteF hb h
                    refine wp_seq ?_
                    refine wp_seq (wp_pure [(3, .pointer (some ⟨b1, 0, none⟩)), (7, .bool ((decide (p0.B ≥ 0)) && (decide (p0.B ≤ p2)))), (37, .int .i64 p0.Op), (74, .bool (p0.Op == 9))] hF (by kernel_rfl) fun fr hF => then_normal ?_)
                    refine (wp_if hF (b := (p0.Op == 9)) rfl (fun hb => ?_) (fun hb => ?_))
                    · replace h := iteT hb h
                      refine (wp_skip (then_normal ?_))
                      refine (wp_if hF (b := (p0.Op == 9)) rfl (fun hb => ?_) (fun hb => ?_))
                      · replace h := iteT hb h
                        refine wp_seq (region_b [] [true, false, true, true, true, true, true]
                            [.eq (.pointer (some ⟨b1, 1, none⟩)), .eq (.int .i64 p0.A), .eq (.bool (p0.A == 0)), .eq (.bool (p0.A == 0)), .eq (.bool ((decide (p0.B ≥ 0)) && (decide (p0.B ≤ p2)))), .eq (.bool ((p0.A == 0) && ((decide (p0.B ≥ 0)) && (decide (p0.B ≤ p2))))), .eq (.bool ((p0.A == 0) && ((decide (p0.B ≥ 0)) && (decide (p0.B ≤ p2)))))]
                            [(6, .bool ((p0.A == 0) && ((decide (p0.B ≥ 0)) && (decide (p0.B ≤ p2)))))] mix hF (by kernel_rfl) (by kernel_rfl) (by kernel_rfl) ⟨Pd.mono_eq, trivial⟩ (fun hG => ⟨np_loadBox hG hF ty3 rfl rfl (hs.bx 0 rfl) rfl rfl rfl, trivial⟩) (by kernel_rfl) fun fr w34 hF hE hc => then_normal ?_)
                        have hs := hs.ext hc
                        have hM0 := hM0.ext hc
                        have hs : Sep [] w34 S1 := Sep.pick [] hs (by decide) rfl
                        obtain rfl := Option.some.inj h
                        exact wp_ret (blk_ret (then_ret (ret1 rfl hF rfl ⟨_, rfl, rfl, hM0.chg⟩)))
                      · replace h := iteF hb h
                        refine wp_seq (wp_pure [(3, .pointer (some ⟨b1, 0, none⟩)), (7, .bool ((decide (p0.B ≥ 0)) && (decide (p0.B ≤ p2)))), (37, .int .i64 p0.Op), (83, .bool (p0.Op == 10))] hF (by kernel_rfl) fun fr hF => then_normal ?_)
                        refine (wp_if hF (b := (p0.Op == 10)) rfl (fun hb => ?_) (fun hb => ?_))
                        · replace h := iteT hb h
                          obtain ⟨x18, hx18, h⟩ := bindE h
                          refine wp_seq (region_b [] [true, false, false, true, true, true, true]
                              [.eq (.pointer (some ⟨b1, 1, none⟩)), .eq (.int .i64 p0.A), .eq (.bool x18), .eq (.bool x18), .eq (.bool ((decide (p0.B ≥ 0)) && (decide (p0.B ≤ p2)))), .eq (.bool (x18 && ((decide (p0.B ≥ 0)) && (decide (p0.B ≤ p2))))), .eq (.bool (x18 && ((decide (p0.B ≥ 0)) && (decide (p0.B ≤ p2)))))]
                              [(6, .bool (x18 && ((decide (p0.B ≥ 0)) && (decide (p0.B ≤ p2)))))] mix hF (by kernel_rfl) (by kernel_rfl) (by kernel_rfl) ⟨Pd.mono_eq, Pd.mono_eq, trivial⟩ (fun hG => ⟨np_loadBox hG hF ty3 rfl rfl (hs.bx 0 rfl) rfl rfl rfl, np_call [.int .i64 p0.A] hG hF Try.call77 rfl rfl (fun w hC hg => (impl_isReg_ok p0.A hx18).mono fun e w' ⟨v, he, hv, hc⟩ => ⟨v, he, hc, hv⟩), trivial⟩) (by kernel_rfl) fun fr w35 hF hE hc => then_normal ?_)
                          have hs := hs.ext hc
                          have hM0 := hM0.ext hc
                          have hs : Sep [] w35 S1 := Sep.pick [] hs (by decide) rfl
                          obtain rfl := Option.some.inj h
                          exact wp_ret (blk_ret (then_ret (ret1 rfl hF rfl ⟨_, rfl, rfl, hM0.chg⟩)))
                        · replace h := iteF hb h
                          refine wp_seq ?_
                          refine wp_seq (wp_pure [(3, .pointer (some ⟨b1, 0, none⟩)), (37, .int .i64 p0.Op), (91, .bool (p0.Op == 12))] hF (by kernel_rfl) fun fr hF => then_normal ?_)
                          refine (wp_if hF (b := (p0.Op == 12)) rfl (fun hb => ?_) (fun hb => ?_))
                          · replace h := iteT hb h
                            refine (wp_skip (then_normal ?_))
                            refine (wp_if hF (b := (p0.Op == 12)) rfl (fun hb => ?_) (fun hb => ?_))
                            · replace h := iteT hb h
                              refine wp_seq (region_b [] [true, false, true, true, true, false, true, true, true]
                                  [.eq (.pointer (some ⟨b1, 1, none⟩)), .eq (.int .i64 p0.A), .eq (.bool (p0.A == 0)), .eq (.bool (p0.A == 0)), .eq (.pointer (some ⟨b1, 2, none⟩)), .eq (.int .i64 p0.B), .eq (.bool (p0.B == 0)), .eq (.bool ((p0.A == 0) && (p0.B == 0))), .eq (.bool ((p0.A == 0) && (p0.B == 0)))]
                                  [(6, .bool ((p0.A == 0) && (p0.B == 0)))] mix hF (by kernel_rfl) (by kernel_rfl) (by kernel_rfl) ⟨Pd.mono_eq, Pd.mono_eq, trivial⟩ (fun hG => ⟨np_loadBox hG hF ty3 rfl rfl (hs.bx 0 rfl) rfl rfl rfl, np_loadBox hG hF ty3 rfl rfl (hs.bx 0 rfl) rfl rfl rfl, trivial⟩) (by kernel_rfl) fun fr w36 hF hE hc => then_normal ?_)
                              have hs := hs.ext hc
                              have hM0 := hM0.ext hc
                              have hs : Sep [] w36 S1 := Sep.pick [] hs (by decide) rfl
                              obtain rfl := Option.some.inj h
                              exact wp_ret (blk_ret (then_ret (ret1 rfl hF rfl ⟨_, rfl, rfl, hM0.chg⟩)))
                            · replace h := iteF hb h
                              have hs : Sep [] w2 S1 := Sep.pick [] hs (by decide) rfl
                              refine (wp_skip ?_)
                              refine blk_normal (then_normal ?_)
                              refine wp_seq (wp_pure [(6, .bool false)] hF (by kernel_rfl) fun fr hF => then_normal ?_)
                              obtain rfl := Option.some.inj h
                              exact wp_ret (ret1 rfl hF rfl ⟨_, rfl, rfl, hM0.chg⟩)
                          · replace h := iteF hb h
                            refine (wp_pure [(3, .pointer (some ⟨b1, 0, none⟩)), (91, .bool (p0.Op == 14))] hF (by kernel_rfl) fun fr hF => then_normal ?_)
                            refine (wp_if hF (b := (p0.Op == 14)) rfl (fun hb => ?_) (fun hb => ?_))
                            · replace h := iteT hb h
                              refine wp_seq (region_b [] [true, false, true, true, true, false, true, true, true]
                                  [.eq (.pointer (some ⟨b1, 1, none⟩)), .eq (.int .i64 p0.A), .eq (.bool (p0.A == 0)), .eq (.bool (p0.A == 0)), .eq (.pointer (some ⟨b1, 2, none⟩)), .eq (.int .i64 p0.B), .eq (.bool (p0.B == 0)), .eq (.bool ((p0.A == 0) && (p0.B == 0))), .eq (.bool ((p0.A == 0) && (p0.B == 0)))]
                                  [(6, .bool ((p0.A == 0) && (p0.B == 0)))] mix hF (by kernel_rfl) (by kernel_rfl) (by kernel_rfl) ⟨Pd.mono_eq, Pd.mono_eq, trivial⟩ (fun hG => ⟨np_loadBox hG hF ty3 rfl rfl (hs.bx 0 rfl) rfl rfl rfl, np_loadBox hG hF ty3 rfl rfl (hs.bx 0 rfl) rfl rfl rfl, trivial⟩) (by kernel_rfl) fun fr w37 hF hE hc => then_normal ?_)
                              have hs := hs.ext hc
                              have hM0 := hM0.ext hc
                              have hs : Sep [] w37 S1 := Sep.pick [] hs (by decide) rfl
                              obtain rfl := Option.some.inj h
                              exact wp_ret (blk_ret (then_ret (ret1 rfl hF rfl ⟨_, rfl, rfl, hM0.chg⟩)))
                            · replace h := iteF hb h
                              have hs : Sep [] w2 S1 := Sep.pick [] hs (by decide) rfl
                              refine (wp_skip ?_)
                              refine blk_normal (then_normal ?_)
                              refine wp_seq (wp_pure [(6, .bool false)] hF (by kernel_rfl) fun fr hF => then_normal ?_)
                              obtain rfl := Option.some.inj h
                              exact wp_ret (ret1 rfl hF rfl ⟨_, rfl, rfl, hM0.chg⟩)
                    · replace h := iteF hb h
                      refine (wp_pure [(3, .pointer (some ⟨b1, 0, none⟩)), (7, .bool ((decide (p0.B ≥ 0)) && (decide (p0.B ≤ p2)))), (37, .int .i64 p0.Op), (74, .bool (p0.Op == 11))] hF (by kernel_rfl) fun fr hF => then_normal ?_)
                      refine (wp_if hF (b := (p0.Op == 11)) rfl (fun hb => ?_) (fun hb => ?_))
                      · replace h := iteT hb h
                        refine wp_seq (region_b [] [true, false, true, true, true, true, true]
                            [.eq (.pointer (some ⟨b1, 1, none⟩)), .eq (.int .i64 p0.A), .eq (.bool (p0.A == 0)), .eq (.bool (p0.A == 0)), .eq (.bool ((decide (p0.B ≥ 0)) && (decide (p0.B ≤ p2)))), .eq (.bool ((p0.A == 0) && ((decide (p0.B ≥ 0)) && (decide (p0.B ≤ p2))))), .eq (.bool ((p0.A == 0) && ((decide (p0.B ≥ 0)) && (decide (p0.B ≤ p2)))))]
                            [(6, .bool ((p0.A == 0) && ((decide (p0.B ≥ 0)) && (decide (p0.B ≤ p2)))))] mix hF (by kernel_rfl) (by kernel_rfl) (by kernel_rfl) ⟨Pd.mono_eq, trivial⟩ (fun hG => ⟨np_loadBox hG hF ty3 rfl rfl (hs.bx 0 rfl) rfl rfl rfl, trivial⟩) (by kernel_rfl) fun fr w38 hF hE hc => then_normal ?_)
                        have hs := hs.ext hc
                        have hM0 := hM0.ext hc
                        have hs : Sep [] w38 S1 := Sep.pick [] hs (by decide) rfl
                        obtain rfl := Option.some.inj h
                        exact wp_ret (blk_ret (then_ret (ret1 rfl hF rfl ⟨_, rfl, rfl, hM0.chg⟩)))
                      · replace h := iteF hb h
                        refine wp_seq (wp_pure [(3, .pointer (some ⟨b1, 0, none⟩)), (7, .bool ((decide (p0.B ≥ 0)) && (decide (p0.B ≤ p2)))), (37, .int .i64 p0.Op), (83, .bool (p0.Op == 10))] hF (by kernel_rfl) fun fr hF => then_normal ?_)
                        refine (wp_if hF (b := (p0.Op == 10)) rfl (fun hb => ?_) (fun hb => ?_))
                        · replace h := iteT hb h
                          obtain ⟨x19, hx19, h⟩ := bindE h
                          refine wp_seq (region_b [] [true, false, false, true, true, true, true]
                              [.eq (.pointer (some ⟨b1, 1, none⟩)), .eq (.int .i64 p0.A), .eq (.bool x19), .eq (.bool x19), .eq (.bool ((decide (p0.B ≥ 0)) && (decide (p0.B ≤ p2)))), .eq (.bool (x19 && ((decide (p0.B ≥ 0)) && (decide (p0.B ≤ p2))))), .eq (.bool (x19 && ((decide (p0.B ≥ 0)) && (decide (p0.B ≤ p2)))))]
                              [(6, .bool (x19 && ((decide (p0.B ≥ 0)) && (decide (p0.B ≤ p2)))))] mix hF (by kernel_rfl) (by kernel_rfl) (by kernel_rfl) ⟨Pd.mono_eq, Pd.mono_eq, trivial⟩ (fun hG => ⟨np_loadBox hG hF ty3 rfl rfl (hs.bx 0 rfl) rfl rfl rfl, np_call [.int .i64 p0.A] hG hF Try.call77 rfl rfl (fun w hC hg => (impl_isReg_ok p0.A hx19).mono fun e w' ⟨v, he, hv, hc⟩ => ⟨v, he, hc, hv⟩), trivial⟩) (by kernel_rfl) fun fr w39 hF hE hc => then_normal ?_)
                          have hs := hs.ext hc
                          have hM0 := hM0.ext hc
                          have hs : Sep [] w39 S1 := Sep.pick [] hs (by decide) rfl
                          obtain rfl := Option.some.inj h
                          exact wp_ret (blk_ret (then_ret (ret1 rfl hF rfl ⟨_, rfl, rfl, hM0.chg⟩)))
                        · replace h := iteF hb h
                          refine wp_seq ?_
                          refine wp_seq (wp_pure [(3, .pointer (some ⟨b1, 0, none⟩)), (37, .int .i64 p0.Op), (91, .bool (p0.Op == 12))] hF (by kernel_rfl) fun fr hF => then_normal ?_)
                          refine (wp_if hF (b := (p0.Op == 12)) rfl (fun hb => ?_) (fun hb => ?_))
                          · replace h := iteT hb h
                            refine (wp_skip (then_normal ?_))
                            refine (wp_if hF (b := (p0.Op == 12)) rfl (fun hb => ?_) (fun hb => ?_))
                            · replace h := iteT hb h
                              refine wp_seq (region_b [] [true, false, true, true, true, false, true, true, true]
                                  [.eq (.pointer (some ⟨b1, 1, none⟩)), .eq (.int .i64 p0.A), .eq (.bool (p0.A == 0)), .eq (.bool (p0.A == 0)), .eq (.pointer (some ⟨b1, 2, none⟩)), .eq (.int .i64 p0.B), .eq (.bool (p0.B == 0)), .eq (.bool ((p0.A == 0) && (p0.B == 0))), .eq (.bool ((p0.A == 0) && (p0.B == 0)))]
                                  [(6, .bool ((p0.A == 0) && (p0.B == 0)))] mix hF (by kernel_rfl) (by kernel_rfl) (by kernel_rfl) ⟨Pd.mono_eq, Pd.mono_eq, trivial⟩ (fun hG => ⟨np_loadBox hG hF ty3 rfl rfl (hs.bx 0 rfl) rfl rfl rfl, np_loadBox hG hF ty3 rfl rfl (hs.bx 0 rfl) rfl rfl rfl, trivial⟩) (by kernel_rfl) fun fr w40 hF hE hc => then_normal ?_)
                              have hs := hs.ext hc
                              have hM0 := hM0.ext hc
                              have hs : Sep [] w40 S1 := Sep.pick [] hs (by decide) rfl
                              obtain rfl := Option.some.inj h
                              exact wp_ret (blk_ret (then_ret (ret1 rfl hF rfl ⟨_, rfl, rfl, hM0.chg⟩)))
                            · replace h := iteF hb h
                              have hs : Sep [] w2 S1 := Sep.pick [] hs (by decide) rfl
                              refine (wp_skip ?_)
                              refine blk_normal (then_normal ?_)
                              refine wp_seq (wp_pure [(6, .bool false)] hF (by kernel_rfl) fun fr hF => then_normal ?_)
                              obtain rfl := Option.some.inj h
                              exact wp_ret (ret1 rfl hF rfl ⟨_, rfl, rfl, hM0.chg⟩)
                          · replace h := iteF hb h
                            refine (wp_pure [(3, .pointer (some ⟨b1, 0, none⟩)), (91, .bool (p0.Op == 14))] hF (by kernel_rfl) fun fr hF => then_normal ?_)
                            refine (wp_if hF (b := (p0.Op == 14)) rfl (fun hb => ?_) (fun hb => ?_))
                            · replace h := iteT hb h
                              refine wp_seq (region_b [] [true, false, true, true, true, false, true, true, true]
                                  [.eq (.pointer (some ⟨b1, 1, none⟩)), .eq (.int .i64 p0.A), .eq (.bool (p0.A == 0)), .eq (.bool (p0.A == 0)), .eq (.pointer (some ⟨b1, 2, none⟩)), .eq (.int .i64 p0.B), .eq (.bool (p0.B == 0)), .eq (.bool ((p0.A == 0) && (p0.B == 0))), .eq (.bool ((p0.A == 0) && (p0.B == 0)))]
                                  [(6, .bool ((p0.A == 0) && (p0.B == 0)))] mix hF (by kernel_rfl) (by kernel_rfl) (by kernel_rfl) ⟨Pd.mono_eq, Pd.mono_eq, trivial⟩ (fun hG => ⟨np_loadBox hG hF ty3 rfl rfl (hs.bx 0 rfl) rfl rfl rfl, np_loadBox hG hF ty3 rfl rfl (hs.bx 0 rfl) rfl rfl rfl, trivial⟩) (by kernel_rfl) fun fr w41 hF hE hc => then_normal ?_)
                              have hs := hs.ext hc
                              have hM0 := hM0.ext hc
                              have hs : Sep [] w41 S1 := Sep.pick [] hs (by decide) rfl
                              obtain rfl := Option.some.inj h
                              exact wp_ret (blk_ret (then_ret (ret1 rfl hF rfl ⟨_, rfl, rfl, hM0.chg⟩)))
                            · replace h := iteF hb h
                              have hs : Sep [] w2 S1 := Sep.pick [] hs (by decide) rfl
                              refine (wp_skip ?_)
                              refine blk_normal (then_normal ?_)
                              refine wp_seq (wp_pure [(6, .bool false)] hF (by kernel_rfl) fun fr hF => then_normal ?_)
                              obtain rfl := Option.some.inj h
                              exact wp_ret (ret1 rfl hF rfl ⟨_, rfl, rfl, hM0.chg⟩)
        · replace h := iteF hb h
          refine wp_seq (wp_pure [(3, .pointer (some ⟨b1, 0, none⟩)), (7, .bool ((decide (p0.B ≥ 0)) && (decide (p0.B ≤ p2)))), (37, .int .i64 p0.Op), (49, .bool (p0.Op == 7))] hF (by kernel_rfl) fun fr hF => then_normal ?_)
          refine (wp_if hF (b := (p0.Op == 7)) rfl (fun hb => ?_) (fun hb => ?_))
          · replace h := iteT hb h
            refine (wp_skip (then_normal ?_))
            refine (wp_if hF (b := (p0.Op == 7)) rfl (fun hb => ?_) (fun hb => ?_))
            · replace h := iteT hb h
              obtain ⟨x20, hx20, h⟩ := bindE h
              obtain ⟨x21, hx21, h⟩ := bindE h
              refine wp_seq (region_b [] [true, false, false, true, true, false, false, true, true]
                  [.eq (.pointer (some ⟨b1, 1, none⟩)), .eq (.int .i64 p0.A), .eq (.bool x20), .eq (.bool x20), .eq (.pointer (some ⟨b1, 2, none⟩)), .eq (.int .i64 p0.B), .eq (.bool x21), .eq (.bool (x20 && x21)), .eq (.bool (x20 && x21))]
                  [(6, .bool (x20 && x21))] mix hF (by kernel_rfl) (by kernel_rfl) (by kernel_rfl) ⟨Pd.mono_eq, Pd.mono_eq, Pd.mono_eq, Pd.mono_eq, trivial⟩ (fun hG => ⟨np_loadBox hG hF ty3 rfl rfl (hs.bx 0 rfl) rfl rfl rfl, np_call [.int .i64 p0.A] hG hF Try.call77 rfl rfl (fun w hC hg => (impl_isReg_ok p0.A hx20).mono fun e w' ⟨v, he, hv, hc⟩ => ⟨v, he, hc, hv⟩), np_loadBox hG hF ty3 rfl rfl (hs.bx 0 rfl) rfl rfl rfl, np_call [.int .i64 p0.B] hG hF Try.call77 rfl rfl (fun w hC hg => (impl_isReg_ok p0.B (iteT hg.2 hx21)).mono fun e w' ⟨v, he, hv, hc⟩ => ⟨v, he, hc, hv⟩), trivial⟩) (by kernel_rfl) fun fr w42 hF hE hc => then_normal ?_)
              have hs := hs.ext hc
              have hM0 := hM0.ext hc
              have hs : Sep [] w42 S1 := Sep.pick [] hs (by decide) rfl
              obtain rfl := Option.some.inj h
              exact wp_ret (blk_ret (then_ret (ret1 rfl hF rfl ⟨_, rfl, rfl, hM0.chg⟩)))
            · replace h := iteF hb h
              refine wp_seq ?_
              refine wp_seq (wp_pure [(3, .pointer (some ⟨b1, 0, none⟩)), (7, .bool ((decide (p0.B ≥ 0)) && (decide (p0.B ≤ p2)))), (37, .int .i64 p0.Op), (61, .bool (p0.Op == 4))] hF (by kernel_rfl) fun fr hF => then_normal ?_)
              refine (wp_if hF (b := (p0.Op == 4)) rfl (fun hb => ?_) (fun hb => ?_))
              · replace h := iteT hb h
                refine (wp_skip (then_normal ?_))
                refine (wp_if hF (b := (p0.Op == 4)) rfl (fun hb => ?_) (fun hb => ?_))
                · replace h := iteT hb h
                  obtain ⟨x22, hx22, h⟩ := bindE h
                  refine wp_seq (region_b [] [true, false, false, true, true, false, true, true, true]
                      [.eq (.pointer (some ⟨b1, 1, none⟩)), .eq (.int .i64 p0.A), .eq (.bool x22), .eq (.bool x22), .eq (.pointer (some ⟨b1, 2, none⟩)), .eq (.int .i64 p0.B), .eq (.bool (p0.B == 0)), .eq (.bool (x22 && (p0.B == 0))), .eq (.bool (x22 && (p0.B == 0)))]
                      [(6, .bool (x22 && (p0.B == 0)))] mix hF (by kernel_rfl) (by kernel_rfl) (by kernel_rfl) ⟨Pd.mono_eq, Pd.mono_eq, Pd.mono_eq, trivial⟩ (fun hG => ⟨np_loadBox hG hF ty3 rfl rfl (hs.bx 0 rfl) rfl rfl rfl, np_call [.int .i64 p0.A] hG hF Try.call77 rfl rfl (fun w hC hg => (impl_isReg_ok p0.A hx22).mono fun e w' ⟨v, he, hv, hc⟩ => ⟨v, he, hc, hv⟩), np_loadBox hG hF ty3 rfl rfl (hs.bx 0 rfl) rfl rfl rfl, trivial⟩) (by kernel_rfl) fun fr w43 hF hE hc => then_normal ?_)
                  have hs := hs.ext hc
                  have hM0 := hM0.ext hc
                  have hs : Sep [] w43 S1 := Sep.pick [] hs (by decide) rfl
                  obtain rfl := Option.some.inj h
                  exact wp_ret (blk_ret (then_ret (ret1 rfl hF rfl ⟨_, rfl, rfl, hM0.chg⟩)))
                · replace h := iteF hb h
                  refine wp_seq ?_
                  refine wp_seq (wp_pure [(3, .pointer (some ⟨b1, 0, none⟩)), (7, .bool ((decide (p0.B ≥ 0)) && (decide (p0.B ≤ p2)))), (37, .int .i64 p0.Op), (74, .bool (p0.Op == 9))] hF (by kernel_rfl) fun fr hF => then_normal ?_)
                  refine (wp_if hF (b := (p0.Op == 9)) rfl (fun hb => ?_) (fun hb => ?_))
                  · replace h := iteT hb h
                    refine (wp_skip (then_normal ?_))
                    refine (wp_if hF (b := (p0.Op == 9)) rfl (fun hb => ?_) (fun hb => ?_))
                    · replace h := iteT hb h
                      refine wp_seq (region_b [] [true, false, true, true, true, true, true]
                          [.eq (.pointer (some ⟨b1, 1, none⟩)), .eq (.int .i64 p0.A), .eq (.bool (p0.A == 0)), .eq (.bool (p0.A == 0)), .eq (.bool ((decide (p0.B ≥ 0)) && (decide (p0.B ≤ p2)))), .eq (.bool ((p0.A == 0) && ((decide (p0.B ≥ 0)) && (decide (p0.B ≤ p2))))), .eq (.bool ((p0.A == 0) && ((decide (p0.B ≥ 0)) && (decide (p0.B ≤ p2)))))]
                          [(6, .bool ((p0.A == 0) && ((decide (p0.B ≥ 0)) && (decide (p0.B ≤ p2)))))] mix hF (by kernel_rfl) (by kernel_rfl) (by kernel_rfl) ⟨Pd.mono_eq, trivial⟩ (fun hG => ⟨np_loadBox hG hF ty3 rfl rfl (hs.bx 0 rfl) rfl rfl rfl, trivial⟩) (by kernel_rfl) fun fr w44 hF hE hc => then_normal ?_)
                      have hs := hs.ext hc
                      have hM0 := hM0.ext hc
                      have hs : Sep [] w44 S1 := Sep.pick [] hs (by decide) rfl
                      obtain rfl := Option.some.inj h
                      exact wp_ret (blk_ret (then_ret (ret1 rfl hF rfl ⟨_, rfl, rfl, hM0.chg⟩)))
                    · replace h := iteF hb h
                      refine wp_seq (wp_pure [(3, .pointer (some ⟨b1, 0, none⟩)), (7, .bool ((decide (p0.B ≥ 0)) && (decide (p0.B ≤ p2)))), (37, .int .i64 p0.Op), (83, .bool (p0.Op == 10))] hF (by kernel_rfl) fun fr hF => then_normal ?_)
                      refine (wp_if hF (b := (p0.Op == 10)) rfl (fun hb => ?_) (fun hb => ?_))
                      · replace h := iteT hb h
                        obtain ⟨x23, hx23, h⟩ := bindE h
                        refine wp_seq (region_b [] [true, false, false, true, true, true, true]
                            [.eq (.pointer (some ⟨b1, 1, none⟩)), .eq (.int .i64 p0.A), .eq (.bool x23), .eq (.bool x23), .eq (.bool ((decide (p0.B ≥ 0)) && (decide (p0.B ≤ p2)))), .eq (.bool (x23 && ((decide (p0.B ≥ 0)) && (decide (p0.B ≤ p2))))), .eq (.bool (x23 && ((decide (p0.B ≥ 0)) && (decide (p0.B ≤ p2)))))]
                            [(6, .bool (x23 && ((decide (p0.B ≥ 0)) && (decide (p0.B ≤ p2)))))] mix hF (by kernel_rfl) (by kernel_rfl) (by kernel_rfl) ⟨Pd.mono_eq, Pd.mono_eq, trivial⟩ (fun hG => ⟨np_loadBox hG hF ty3 rfl rfl (hs.bx 0 rfl) rfl rfl rfl, np_call [.int .i64 p0.A] hG hF Try.call77 rfl rfl (fun w hC hg => (impl_isReg_ok p0.A hx23).mono fun e w' ⟨v, he, hv, hc⟩ => ⟨v, he, hc, hv⟩), trivial⟩) (by kernel_rfl) fun fr w45 hF hE hc => then_normal ?_)
                        have hs := hs.ext hc
                        have hM0 := hM0.ext hc
                        have hs : Sep [] w45 S1 := Sep.pick [] hs (by decide) rfl
                        obtain rfl := Option.some.inj h
                        exact wp_ret (blk_ret (then_ret (ret1 rfl hF rfl ⟨_, rfl, rfl, hM0.chg⟩)))
                      · replace h := iteF hb h
                        refine wp_seq ?_
                        refine wp_seq (wp_pure [(3, .pointer (some ⟨b1, 0, none⟩)), (37, .int .i64 p0.Op), (91, .bool (p0.Op == 12))] hF (by kernel_rfl) fun fr hF => then_normal ?_)
                        refine (wp_if hF (b := (p0.Op == 12)) rfl (fun hb => ?_) (fun hb => ?_))
                        · replace h := iteT hb h
                          refine (wp_skip (then_normal ?_))
                          refine (wp_if hF (b := (p0.Op == 12)) rfl (fun hb => ?_) (fun hb => ?_))
                          · replace h := iteT hb h
                            refine wp_seq (region_b [] [true, false, true, true, true, false, true, true, true]
                                [.eq (.pointer (some ⟨b1, 1, none⟩)), .eq (.int .i64 p0.A), .eq (.bool (p0.A == 0)), .eq (.bool (p0.A == 0)), .eq (.pointer (some ⟨b1, 2, none⟩)), .eq (.int .i64 p0.B), .eq (.bool (p0.B == 0)), .eq (.bool ((p0.A == 0) && (p0.B == 0))), .eq (.bool ((p0.A == 0) && (p0.B == 0)))]
                                [(6, .bool ((p0.A == 0) && (p0.B == 0)))] mix hF (by kernel_rfl) (by kernel_rfl) (by kernel_rfl) ⟨Pd.mono_eq, Pd.mono_eq, trivial⟩ (fun hG => ⟨np_loadBox hG hF ty3 rfl rfl (hs.bx 0 rfl) rfl rfl rfl, np_loadBox hG hF ty3 rfl rfl (hs.bx 0 rfl) rfl rfl rfl, trivial⟩) (by kernel_rfl) fun fr w46 hF hE hc => then_normal ?_)
                            have hs := hs.ext hc
                            have hM0 := hM0.ext hc
                            have hs : Sep [] w46 S1 := Sep.pick [] hs (by decide) rfl
                            obtain rfl := Option.some.inj h
                            exact wp_ret (blk_ret (then_ret (ret1 rfl hF rfl ⟨_, rfl, rfl, hM0.chg⟩)))
                          · replace h := iteF hb h
                            have hs : Sep [] w2 S1 := Sep.pick [] hs (by decide) rfl
                            refine (wp_skip ?_)
                            refine blk_normal (then_normal ?_)
                            refine wp_seq (wp_pure [(6, .bool false)] hF (by kernel_rfl) fun fr hF => then_normal ?_)
                            obtain rfl := Option.some.inj h
                            exact wp_ret (ret1 rfl hF rfl ⟨_, rfl, rfl, hM0.chg⟩)
                        · replace h := iteF hb h
                          refine (wp_pure [(3, .pointer (some ⟨b1, 0, none⟩)), (91, .bool (p0.Op == 14))] hF (by kernel_rfl) fun fr hF => then_normal ?_)
                          refine (wp_if hF (b := (p0.Op == 14)) rfl (fun hb => ?_) (fun hb => ?_))
                          · replace h := iteT hb h
                            refine wp_seq (region_b [] [true, false, true, true, true, false, true, true, true]
                                [.eq (.pointer (some ⟨b1, 1, none⟩)), .eq (.int .i64 p0.A), .eq (.bool (p0.A == 0)), .eq (.bool (p0.A == 0)), .eq (.pointer (some ⟨b1, 2, none⟩)), .eq (.int .i64 p0.B), .eq (.bool (p0.B == 0)), .eq (.bool ((p0.A == 0) && (p0.B == 0))), .eq (.bool ((p0.A == 0) && (p0.B == 0)))]
                                [(6, .bool ((p0.A == 0) && (p0.B == 0)))] mix hF (by kernel_rfl) (by kernel_rfl) (by kernel_rfl) ⟨Pd.mono_eq, Pd.mono_eq, trivial⟩ (fun hG => ⟨np_loadBox hG hF ty3 rfl rfl (hs.bx 0 rfl) rfl rfl rfl, np_loadBox hG hF ty3 rfl rfl (hs.bx 0 rfl) rfl rfl rfl, trivial⟩) (by kernel_rfl) fun fr w47 hF hE hc => then_normal ?_)
                            have hs := hs.ext hc
                            have hM0 := hM0.ext hc
                            have hs : Sep [] w47 S1 := Sep.pick [] hs (by decide) rfl
                            obtain rfl := Option.some.inj h
                            exact wp_ret (blk_ret (then_ret (ret1 rfl hF rfl ⟨_, rfl, rfl, hM0.chg⟩)))
                          · replace h := iteF hb h
                            have hs : Sep [] w2 S1 := Sep.pick [] hs (by decide) rfl
                            refine (wp_skip ?_)
                            refine blk_normal (then_normal ?_)
                            refine wp_seq (wp_pure [(6, .bool false)] hF (by kernel_rfl) fun fr hF => then_normal ?_)
                            obtain rfl := Option.some.inj h
                            exact wp_ret (ret1 rfl hF rfl ⟨_, rfl, rfl, hM0.chg⟩)
                  · replace h := iteF hb h
                    refine (wp_pure [(3, .pointer (some ⟨b1, 0, none⟩)), (7, .bool ((decide (p0.B ≥ 0)) && (decide (p0.B ≤ p2)))), (37, .int .i64 p0.Op), (74, .bool (p0.Op == 11))] hF (by kernel_rfl) fun fr hF => then_normal ?_)
                    refine (wp_if hF (b := (p0.Op == 11)) rfl (fun hb => ?_) (fun hb => ?_))
                    · replace h := iteT hb h
                      refine wp_seq (region_b [] [true, false, true, true, true, true, true]
                          [.eq (.pointer (some ⟨b1, 1, none⟩)), .eq (.int .i64 p0.A), .eq (.bool (p0.A == 0)), .eq (.bool (p0.A == 0)), .eq (.bool ((decide (p0.B ≥ 0)) && (decide (p0.B ≤ p2)))), .eq (.bool ((p0.A == 0) && ((decide (p0.B ≥ 0)) && (decide (p0.B ≤ p2))))), .eq (.bool ((p0.A == 0) && ((decide (p0.B ≥ 0)) && (decide (p0.B ≤ p2)))))]
                          [(6, .bool ((p0.A == 0) && ((decide (p0.B ≥ 0)) && (decide (p0.B ≤ p2)))))] mix hF (by kernel_rfl) (by kernel_rfl) (by kernel_rfl) ⟨Pd.mono_eq, trivial⟩ (fun hG => ⟨np_loadBox hG hF ty3 rfl rfl (hs.bx 0 rfl) rfl rfl rfl, trivial⟩) (by kernel_rfl) fun fr w48 hF hE hc => then_normal ?_)
                      have hs := hs.ext hc
                      have hM0 := hM0.ext hc
                      have hs : Sep [] w48 S1 := Sep.pick [] hs (by decide) rfl
                      obtain rfl := Option.some.inj h
                      exact wp_ret (blk_ret (then_ret (ret1 rfl hF rfl ⟨_, rfl, rfl, hM0.chg⟩)))
                    · replace h := iteF hb h
                      refine wp_seq (wp_pure [(3, .pointer (some ⟨b1, 0, none⟩)), (7, .bool ((decide (p0.B ≥ 0)) && (decide (p0.B ≤ p2)))), (37, .int .i64 p0.Op), (83, .bool (p0.Op == 10))] hF (by kernel_rfl) fun fr hF => then_normal ?_)
                      refine (wp_if hF (b := (p0.Op == 10)) rfl (fun hb => ?_) (fun hb => ?_))
                      · replace h := iteT hb h
                        obtain ⟨x24, hx24, h⟩ := bindE h
                        refine wp_seq (region_b [] [true, false, false, true, true, true, true]
                            [.eq (.pointer (some ⟨b1, 1, none⟩)), .eq (.int .i64 p0.A), .eq (.bool x24), .eq (.bool x24), .eq (.bool ((decide (p0.B ≥ 0)) && (decide (p0.B ≤ p2)))), .eq (.bool (x24 && ((decide (p0.B ≥ 0)) && (decide (p0.B ≤ p2))))), .eq (.bool (x24 && ((decide (p0.B ≥ 0)) && (decide (p0.B ≤ p2)))))]
                            [(6, .bool (x24 && ((decide (p0.B ≥ 0)) && (decide (p0.B ≤ p2)))))] mix hF (by kernel_rfl) (by kernel_rfl) (by kernel_rfl) ⟨Pd.mono_eq, Pd.mono_eq, trivial⟩ (fun hG => ⟨np_loadBox hG hF ty3 rfl rfl (hs.bx 0 rfl) rfl rfl rfl, np_call [.int .i64 p0.A] hG hF Try.call77 rfl rfl (fun w hC hg => (impl_isReg_ok p0.A hx24).mono fun e w' ⟨v, he, hv, hc⟩ => ⟨v, he, hc, hv⟩), trivial⟩) (by kernel_rfl) fun fr w49 hF hE hc => then_normal ?_)
                        have hs := hs.ext hc
                        have hM0 := hM0.ext hc
                        have hs : Sep [] w49 S1 := Sep.pick [] hs (by decide) rfl
                        obtain rfl := Option.some.inj h
                        exact wp_ret (blk_ret (then_ret (ret1 rfl hF rfl ⟨_, rfl, rfl, hM0.chg⟩)))
                      · replace h := iteF hb h
                        refine wp_seq ?_
                        refine wp_seq (wp_pure [(3, .pointer (some ⟨b1, 0, none⟩)), (37, .int .i64 p0.Op), (91, .bool (p0.Op == 12))] hF (by kernel_rfl) fun fr hF => then_normal ?_)
                        refine (wp_if hF (b := (p0.Op == 12)) rfl (fun hb => ?_) (fun hb => ?_))
                        · replace h := iteT hb h
                          refine (wp_skip (then_normal ?_))
                          refine (wp_if hF (b := (p0.Op == 12)) rfl (fun hb => ?_) (fun hb => ?_))
                          · replace h := iteT hb h
                            refine wp_seq (region_b [] [true, false, true, true, true, false, true, true, true]
                                [.eq (.pointer (some ⟨b1, 1, none⟩)), .eq (.int .i64 p0.A), .eq (.bool (p0.A == 0)), .eq (.bool (p0.A == 0)), .eq (.pointer (some ⟨b1, 2, none⟩)), .eq (.int .i64 p0.B), .eq (.bool (p0.B == 0)), .eq (.bool ((p0.A == 0) && (p0.B == 0))), .eq (.bool ((p0.A == 0) && (p0.B == 0)))]
                                [(6, .bool ((p0.A == 0) && (p0.B == 0)))] mix hF (by kernel_rfl) (by kernel_rfl) (by kernel_rfl) ⟨Pd.mono_eq, Pd.mono_eq, trivial⟩ (fun hG => ⟨np_loadBox hG hF ty3 rfl rfl (hs.bx 0 rfl) rfl rfl rfl, np_loadBox hG hF ty3 rfl rfl (hs.bx 0 rfl) rfl rfl rfl, trivial⟩) (by kernel_rfl) fun fr w50 hF hE hc => then_normal ?_)
                            have hs := hs.ext hc
                            have hM0 := hM0.ext hc
                            have hs : Sep [] w50 S1 := Sep.pick [] hs (by decide) rfl
                            obtain rfl := Option.some.inj h
                            exact wp_ret (blk_ret (then_ret (ret1 rfl hF rfl ⟨_, rfl, rfl, hM0.chg⟩)))
                          · replace h := iteF hb h
                            have hs : Sep [] w2 S1 := Sep.pick [] hs (by decide) rfl
                            refine (wp_skip ?_)
                            refine blk_normal (then_normal ?_)
                            refine wp_seq (wp_pure [(6, .bool false)] hF (by kernel_rfl) fun fr hF => then_normal ?_)
                            obtain rfl := Option.some.inj h
                            exact wp_ret (ret1 rfl hF rfl ⟨_, rfl, rfl, hM0.chg⟩)
                        · replace h := iteF hb h
                          refine (wp_pure [(3, .pointer (some ⟨b1, 0, none⟩)), (91, .bool (p0.Op == 14))] hF (by kernel_rfl) fun fr hF => then_normal ?_)
                          refine (wp_if hF (b := (p0.Op == 14)) rfl (fun hb => ?_) (fun hb => ?_))
                          · replace h := iteT hb h
                            refine wp_seq (region_b [] [true, false, true, true, true, false, true, true, true]
                                [.eq (.pointer (some ⟨b1, 1, none⟩)), .eq (.int .i64 p0.A), .eq (.bool (p0.A == 0)), .eq (.bool (p0.A == 0)), .eq (.pointer (some ⟨b1, 2, none⟩)), .eq (.int .i64 p0.B), .eq (.bool (p0.B == 0)), .eq (.bool ((p0.A == 0) && (p0.B == 0))), .eq (.bool ((p0.A == 0) && (p0.B == 0)))]
                                [(6, .bool ((p0.A == 0) && (p0.B == 0)))] mix hF (by kernel_rfl) (by kernel_rfl) (by kernel_rfl) ⟨Pd.mono_eq, Pd.mono_eq, trivial⟩ (fun hG => ⟨np_loadBox hG hF ty3 rfl rfl (hs.bx 0 rfl) rfl rfl rfl, np_loadBox hG hF ty3 rfl rfl (hs.bx 0 rfl) rfl rfl rfl, trivial⟩) (by kernel_rfl) fun fr w51 hF hE hc => then_normal ?_)
                            have hs := hs.ext hc
                            have hM0 := hM0.ext hc
                            have hs : Sep [] w51 S1 := Sep.pick [] hs (by decide) rfl
                            obtain rfl := Option.some.inj h
                            exact wp_ret (blk_ret (then_ret (ret1 rfl hF rfl ⟨_, rfl, rfl, hM0.chg⟩)))
                          · replace h := iteF hb h
                            have hs : Sep [] w2 S1 := Sep.pick [] hs (by decide) rfl
                            refine (wp_skip ?_)
                            refine blk_normal (then_normal ?_)
                            refine wp_seq (wp_pure [(6, .bool false)] hF (by kernel_rfl) fun fr hF => then_normal ?_)
                            obtain rfl := Option.some.inj h
                            exact wp_ret (ret1 rfl hF rfl ⟨_, rfl, rfl, hM0.chg⟩)
              · replace h := iteF hb h
                refine wp_seq (wp_pure [(3, .pointer (some ⟨b1, 0, none⟩)), (7, .bool ((decide (p0.B ≥ 0)) && (decide (p0.B ≤ p2)))), (37, .int .i64 p0.Op), (61, .bool (p0.Op == 5))] hF (by kernel_rfl) fun fr hF => then_normal ?_)
                refine (wp_if hF (b := (p0.Op == 5)) rfl (fun hb => ?_) (fun hb => ?_))
                · replace h := iteT hb h
                  refine (wp_skip (then_normal ?_))
                  refine (wp_if hF (b := (p0.Op == 5)) rfl (fun hb => ?_) (fun hb => ?_))
                  · replace h := iteT hb h
                    obtain ⟨x25, hx25, h⟩ := bindE h
                    refine wp_seq (region_b [] [true, false, false, true, true, false, true, true, true]
                        [.eq (.pointer (some ⟨b1, 1, none⟩)), .eq (.int .i64 p0.A), .eq (.bool x25), .eq (.bool x25), .eq (.pointer (some ⟨b1, 2, none⟩)), .eq (.int .i64 p0.B), .eq (.bool (p0.B == 0)), .eq (.bool (x25 && (p0.B == 0))), .eq (.bool (x25 && (p0.B == 0)))]
                        [(6, .bool (x25 && (p0.B == 0)))] mix hF (by kernel_rfl) (by kernel_rfl) (by kernel_rfl) ⟨Pd.mono_eq, Pd.mono_eq, Pd.mono_eq, trivial⟩ (fun hG => ⟨np_loadBox hG hF ty3 rfl rfl (hs.bx 0 rfl) rfl rfl rfl, np_call [.int .i64 p0.A] hG hF Try.call77 rfl rfl (fun w hC hg => (impl_isReg_ok p0.A hx25).mono fun e w' ⟨v, he, hv, hc⟩ => ⟨v, he, hc, hv⟩), np_loadBox hG hF ty3 rfl rfl (hs.bx 0 rfl) rfl rfl rfl, trivial⟩) (by kernel_rfl) fun fr w52 hF hE hc => then_normal ?_)
                    have hs := hs.ext hc
                    have hM0 := hM0.ext hc
                    have hs : Sep [] w52 S1 := Sep.pick [] hs (by decide) rfl
                    obtain rfl := Option.some.inj h
                    exact wp_ret (blk_ret (then_ret (ret1 rfl hF rfl ⟨_, rfl, rfl, hM0.chg⟩)))
                  · replace h := iteF hb h
                    refine wp_seq ?_
                    refine wp_seq (wp_pure [(3, .pointer (some ⟨b1, 0, none⟩)), (7, .bool ((decide (p0.B ≥ 0)) && (decide (p0.B ≤ p2)))), (37, .int .i64 p0.Op), (74, .bool (p0.Op == 9))] hF (by kernel_rfl) fun fr hF => then_normal ?_)
                    refine (wp_if hF (b := (p0.Op == 9)) rfl (fun hb => ?_) (fun hb => ?_))
                    · replace h := iteT hb h
                      refine (wp_skip (then_normal ?_))
                      refine (wp_if hF (b := (p0.Op == 9)) rfl (fun hb => ?_) (fun hb => ?_))
                      · replace h := iteT hb h
                        refine wp_seq (region_b [] [true, false, true, true, true, true, true]
                            [.eq (.pointer (some ⟨b1, 1, none⟩)), .eq (.int .i64 p0.A), .eq (.bool (p0.A == 0)), .eq (.bool (p0.A == 0)), .eq (.bool ((decide (p0.B ≥ 0)) && (decide (p0.B ≤ p2)))), .eq (.bool ((p0.A == 0) && ((decide (p0.B ≥ 0)) && (decide (p0.B ≤ p2))))), .eq (.bool ((p0.A == 0) && ((decide (p0.B ≥ 0)) && (decide (p0.B ≤ p2)))))]
                            [(6, .bool ((p0.A == 0) && ((decide (p0.B ≥ 0)) && (decide (p0.B ≤ p2)))))] mix hF (by kernel_rfl) (by kernel_rfl) (by kernel_rfl) ⟨Pd.mono_eq, trivial⟩ (fun hG => ⟨np_loadBox hG hF ty3 rfl rfl (hs.bx 0 rfl) rfl rfl rfl, trivial⟩) (by kernel_rfl) fun fr w53 hF hE hc => then_normal ?_)
                        have hs := hs.ext hc
                        have hM0 := hM0.ext hc
                        have hs : Sep [] w53 S1 := Sep.pick [] hs (by decide) rfl
                        obtain rfl := Option.some.inj h
                        exact wp_ret (blk_ret (then_ret (ret1 rfl hF rfl ⟨_, rfl, rfl, hM0.chg⟩)))
                      · replace h := iteF hb h
                        refine wp_seq (wp_pure [(3, .pointer (some ⟨b1, 0, none⟩)), (7, .bool ((decide (p0.B ≥ 0)) && (decide (p0.B ≤ p2)))), (37, .int .i64 p0.Op), (83, .bool (p0.Op == 10))] hF (by kernel_rfl) fun fr hF => then_normal ?_)
                        refine (wp_if hF (b := (p0.Op == 10)) rfl (fun hb => ?_) (fun hb => ?_))
                        · replace h := iteT hb h
                          obtain ⟨x26, hx26, h⟩ := bindE h
                          refine wp_seq (region_b [] [true, false, false, true, true, true, true]
                              [.eq (.pointer (some ⟨b1, 1, none⟩)), .eq (.int .i64 p0.A), .eq (.bool x26), .eq (.bool x26), .eq (.bool ((decide (p0.B ≥ 0)) && (decide (p0.B ≤ p2)))), .eq (.bool (x26 && ((decide (p0.B ≥ 0)) && (decide (p0.B ≤ p2))))), .eq (.bool (x26 && ((decide (p0.B ≥ 0)) && (decide (p0.B ≤ p2)))))]
                              [(6, .bool (x26 && ((decide (p0.B ≥ 0)) && (decide (p0.B ≤ p2)))))] mix hF (by kernel_rfl) (by kernel_rfl) (by kernel_rfl) ⟨Pd.mono_eq, Pd.mono_eq, trivial⟩ (fun hG => ⟨np_loadBox hG hF ty3 rfl rfl (hs.bx 0 rfl) rfl rfl rfl, np_call [.int .i64 p0.A] hG hF Try.call77 rfl rfl (fun w hC hg => (impl_isReg_ok p0.A hx26).mono fun e w' ⟨v, he, hv, hc⟩ => ⟨v, he, hc, hv⟩), trivial⟩) (by kernel_rfl) fun fr w54 hF hE hc => then_normal ?_)
                          have hs := hs.ext hc
                          have hM0 := hM0.ext hc
                          have hs : Sep [] w54 S1 := Sep.pick [] hs (by decide) rfl
                          obtain rfl := Option.some.inj h
                          exact wp_ret (blk_ret (then_ret (ret1 rfl hF rfl ⟨_, rfl, rfl, hM0.chg⟩)))
                        · replace h := iteF hb h
                          refine wp_seq ?_
                          refine wp_seq (wp_pure [(3, .pointer (some ⟨b1, 0, none⟩)), (37, .int .i64 p0.Op), (91, .bool (p0.Op == 12))] hF (by kernel_rfl) fun fr hF => then_normal ?_)
                          refine (wp_if hF (b := (p0.Op == 12)) rfl (fun hb => ?_) (fun hb => ?_))
                          · replace h := iteT hb h
                            refine (wp_skip (then_normal ?_))
                            refine (wp_if hF (b := (p0.Op == 12)) rfl (fun hb => ?_) (fun hb => ?_))
                            · replace h := iteT hb h
                              refine wp_seq (region_b [] [true, false, true, true, true, false, true, true, true]
                                  [.eq (.pointer (some ⟨b1, 1, none⟩)), .eq (.int .i64 p0.A), .eq (.bool (p0.A == 0)), .eq (.bool (p0.A == 0)), .eq (.pointer (some ⟨b1, 2, none⟩)), .eq (.int .i64 p0.B), .eq (.bool (p0.B == 0)), .eq (.bool ((p0.A == 0) && (p0.B == 0))), .eq (.bool ((p0.A == 0) && (p0.B == 0)))]
                                  [(6, .bool ((p0.A == 0) && (p0.B == 0)))] mix hF (by kernel_rfl) (by kernel_rfl) (by kernel_rfl) ⟨Pd.mono_eq, Pd.mono_eq, trivial⟩ (fun hG => ⟨np_loadBox hG hF ty3 rfl rfl (hs.bx 0 rfl) rfl rfl rfl, np_loadBox hG hF ty3 rfl rfl (hs.bx 0 rfl) rfl rfl rfl, trivial⟩) (by kernel_rfl) fun fr w55 hF hE hc => then_normal ?_)
                              have hs := hs.ext hc
                              have hM0 := hM0.ext hc
                              have hs : Sep [] w55 S1 := Sep.pick [] hs (by decide) rfl
                              obtain rfl := Option.some.inj h
                              exact wp_ret (blk_ret (then_ret (ret1 rfl hF rfl ⟨_, rfl, rfl, hM0.chg⟩)))
                            · replace h := iteF hb h
                              have hs : Sep [] w2 S1 := Sep.pick [] hs (by decide) rfl
                              refine (wp_skip ?_)
                              refine blk_normal (then_normal ?_)
                              refine wp_seq (wp_pure [(6, .bool false)] hF (by kernel_rfl) fun fr hF => then_normal ?_)
                              obtain rfl := Option.some.inj h
                              exact wp_ret (ret1 rfl hF rfl ⟨_, rfl, rfl, hM0.chg⟩)
                          · replace h := iteF hb h
                            refine (wp_pure [(3, .pointer (some ⟨b1, 0, none⟩)), (91, .bool (p0.Op == 14))] hF (by kernel_rfl) fun fr hF => then_normal ?_)
                            refine (wp_if hF (b := (p0.Op == 14)) rfl (fun hb => ?_) (fun hb => ?_))
                            · replace h := iteT hb h
                              refine wp_seq (region_b [] [true, false, true, true, true, false, true, true, true]
                                  [.eq (.pointer (some ⟨b1, 1, none⟩)), .eq (.int .i64 p0.A), .eq (.bool (p0.A == 0)), .eq (.bool (p0.A == 0)), .eq (.pointer (some ⟨b1, 2, none⟩)), .eq (.int .i64 p0.B), .eq (.bool (p0.B == 0)), .eq (.bool ((p0.A == 0) && (p0.B == 0))), .eq (.bool ((p0.A == 0) && (p0.B == 0)))]
                                  [(6, .bool ((p0.A == 0) && (p0.B == 0)))] mix hF (by kernel_rfl) (by kernel_rfl) (by kernel_rfl) ⟨Pd.mono_eq, Pd.mono_eq, trivial⟩ (fun hG => ⟨np_loadBox hG hF ty3 rfl rfl (hs.bx 0 rfl) rfl rfl rfl, np_loadBox hG hF ty3 rfl rfl (hs.bx 0 rfl) rfl rfl rfl, trivial⟩) (by kernel_rfl) fun fr w56 hF hE hc => then_normal ?_)
                              have hs := hs.ext hc
                              have hM0 := hM0.ext hc
                              have hs : Sep [] w56 S1 := Sep.pick [] hs (by decide) rfl
                              obtain rfl := Option.some.inj h
                              exact wp_ret (blk_ret (then_ret (ret1 rfl hF rfl ⟨_, rfl, rfl, hM0.chg⟩)))
                            · replace h := iteF hb h
                              have hs : Sep [] w2 S1 := Sep.pick [] hs (by decide) rfl
                              refine (wp_skip ?_)
                              refine blk_normal (then_normal ?_)
                              refine wp_seq (wp_pure [(6, .bool false)] hF (by kernel_rfl) fun fr hF => then_normal ?_)
                              obtain rfl := Option.some.inj h
                              exact wp_ret (ret1 rfl hF rfl ⟨_, rfl, rfl, hM0.chg⟩)
                    · replace h := iteF hb h
                      refine (wp_pure [(3, .pointer (some ⟨b1, 0, none⟩)), (7, .bool ((decide (p0.B ≥ 0)) && (decide (p0.B ≤ p2)))), (37, .int .i64 p0.Op), (74, .bool (p0.Op == 11))] hF (by kernel_rfl) fun fr hF => then_normal ?_)
                      refine (wp_if hF (b := (p0.Op == 11)) rfl (fun hb => ?_) (fun hb => ?_))
                      · replace h := iteT hb h
                        refine wp_seq (region_b [] [true, false, true, true, true, true, true]
                            [.eq (.pointer (some ⟨b1, 1, none⟩)), .eq (.int .i64 p0.A), .eq (.bool (p0.A == 0)), .eq (.bool (p0.A == 0)), .eq (.bool ((decide (p0.B ≥ 0)) && (decide (p0.B ≤ p2)))), .eq (.bool ((p0.A == 0) && ((decide (p0.B ≥ 0)) && (decide (p0.B ≤ p2))))), .eq (.bool ((p0.A == 0) && ((decide (p0.B ≥ 0)) && (decide (p0.B ≤ p2)))))]
                            [(6, .bool ((p0.A == 0) && ((decide (p0.B ≥ 0)) && (decide (p0.B ≤ p2)))))] mix hF (by kernel_rfl) (by kernel_rfl) (by kernel_rfl) ⟨Pd.mono_eq, trivial⟩ (fun hG => ⟨np_loadBox hG hF ty3 rfl rfl (hs.bx 0 rfl) rfl rfl rfl, trivial⟩) (by kernel_rfl) fun fr w57 hF hE hc => then_normal ?_)
                        have hs := hs.ext hc
                        have hM0 := hM0.ext hc
                        have hs : Sep [] w57 S1 := Sep.pick [] hs (by decide) rfl
                        obtain rfl := Option.some.inj h
                        exact wp_ret (blk_ret (then_ret (ret1 rfl hF rfl ⟨_, rfl, rfl, hM0.chg⟩)))
                      · replace h := iteF hb h
                        refine wp_seq (wp_pure [(3, .pointer (some ⟨b1, 0, none⟩)), (7, .bool ((decide (p0.B ≥ 0)) && (decide (p0.B ≤ p2)))), (37, .int .i64 p0.Op), (83, .bool (p0.Op == 10))] hF (by kernel_rfl) fun fr hF => then_normal ?_)
                        refine (wp_if hF (b := (p0.Op == 10)) rfl (fun hb => ?_) (fun hb => ?_))
                        · replace h := iteT hb h
                          obtain ⟨x27, hx27, h⟩ := bindE h
                          refine wp_seq (region_b [] [true, false, false, true, true, true, true]
                              [.eq (.pointer (some ⟨b1, 1, none⟩)), .eq (.int .i64 p0.A), .eq (.bool x27), .eq (.bool x27), .eq (.bool ((decide (p0.B ≥ 0)) && (decide (p0.B ≤ p2)))), .eq (.bool (x27 && ((decide (p0.B ≥ 0)) && (decide (p0.B ≤ p2))))), .eq (.bool (x27 && ((decide (p0.B ≥ 0)) && (decide (p0.B ≤ p2)))))]
                              [(6, .bool (x27 && ((decide (p0.B ≥ 0)) && (decide (p0.B ≤ p2)))))] mix hF (by kernel_rfl) (by kernel_rfl) (by kernel_rfl) ⟨Pd.mono_eq, Pd.mono_eq, trivial⟩ (fun hG => ⟨np_loadBox hG hF ty3 rfl rfl (hs.bx 0 rfl) rfl rfl rfl, np_call [.int .i64 p0.A] hG hF Try.call77 rfl rfl (fun w hC hg => (impl_isReg_ok p0.A hx27).mono fun e w' ⟨v, he, hv, hc⟩ => ⟨v, he, hc, hv⟩), trivial⟩) (by kernel_rfl) fun fr w58 hF hE hc => then_normal ?_)
                          have hs := hs.ext hc
                          have hM0 := hM0.ext hc
                          have hs : Sep [] w58 S1 := Sep.pick [] hs (by decide) rfl
                          obtain rfl := Option.some.inj h
                          exact wp_ret (blk_ret (then_ret (ret1 rfl hF rfl ⟨_, rfl, rfl, hM0.chg⟩)))
                        · replace h := iteF hb h
                          refine wp_seq ?_
                          refine wp_seq (wp_pure [(3, .pointer (some ⟨b1, 0, none⟩)), (37, .int .i64 p0.Op), (91, .bool (p0.Op == 12))] hF (by kernel_rfl) fun fr hF => then_normal ?_)
                          refine (wp_if hF (b := (p0.Op == 12)) rfl (fun hb => ?_) (fun hb => ?_))
                          · replace h := iteT hb h
                            refine (wp_skip (then_normal ?_))
                            refine (wp_if hF (b := (p0.Op == 12)) rfl (fun hb => ?_) (fun hb => ?_))
                            · replace h := iteT hb h
                              refine wp_seq (region_b [] [true, false, true, true, true, false, true, true, true]
                                  [.eq (.pointer (some ⟨b1, 1, none⟩)), .eq (.int .i64 p0.A), .eq (.bool (p0.A == 0)), .eq (.bool (p0.A == 0)), .eq (.pointer (some ⟨b1, 2, none⟩)), .eq (.int .i64 p0.B), .eq (.bool (p0.B == 0)), .eq (.bool ((p0.A == 0) && (p0.B == 0))), .eq (.bool ((p0.A == 0) && (p0.B == 0)))]
                                  [(6, .bool ((p0.A == 0) && (p0.B == 0)))] mix hF (by kernel_rfl) (by kernel_rfl) (by kernel_rfl) ⟨Pd.mono_eq, Pd.mono_eq, trivial⟩ (fun hG => ⟨np_loadBox hG hF ty3 rfl rfl (hs.bx 0 rfl) rfl rfl rfl, np_loadBox hG hF ty3 rfl rfl (hs.bx 0 rfl) rfl rfl rfl, trivial⟩) (by kernel_rfl) fun fr w59 hF hE hc => then_normal ?_)
                              have hs := hs.ext hc
                              have hM0 := hM0.ext hc
                              have hs : Sep [] w59 S1 := Sep.pick [] hs (by decide) rfl
                              obtain rfl := Option.some.inj h
                              exact wp_ret (blk_ret (then_ret (ret1 rfl hF rfl ⟨_, rfl, rfl, hM0.chg⟩)))
                            · replace h := iteF hb h
                              have hs : Sep [] w2 S1 := Sep.pick [] hs (by decide) rfl
                              refine (wp_skip ?_)
                              refine blk_normal (then_normal ?_)
                              refine wp_seq (wp_pure [(6, .bool false)] hF (by kernel_rfl) fun fr hF => then_normal ?_)
                              obtain rfl := Option.some.inj h
                              exact wp_ret (ret1 rfl hF rfl ⟨_, rfl, rfl, hM0.chg⟩)
                          · replace h := iteF hb h
                            refine (wp_pure [(3, .pointer (some ⟨b1, 0, none⟩)), (91, .bool (p0.Op == 14))] hF (by kernel_rfl) fun fr hF => then_normal ?_)
                            refine (wp_if hF (b := (p0.Op == 14)) rfl (fun hb => ?_) (fun hb => ?_))
                            · replace h := iteT hb h
                              refine wp_seq (region_b [] [true, false, true, true, true, false, true, true, true]
                                  [.eq (.pointer (some ⟨b1, 1, none⟩)), .eq (.int .i64 p0.A), .eq (.bool (p0.A == 0)), .eq (.bool (p0.A == 0)), .eq (.pointer (some ⟨b1, 2, none⟩)), .eq (.int .i64 p0.B), .eq (.bool (p0.B == 0)), .eq (.bool ((p0.A == 0) && (p0.B == 0))), .eq (.bool ((p0.A == 0) && (p0.B == 0)))]
                                  [(6, .bool ((p0.A == 0) && (p0.B == 0)))] mix hF (by kernel_rfl) (by kernel_rfl) (by kernel_rfl) ⟨Pd.mono_eq, Pd.mono_eq, trivial⟩ (fun hG => ⟨np_loadBox hG hF ty3 rfl rfl (hs.bx 0 rfl) rfl rfl rfl, np_loadBox hG hF ty3 rfl rfl (hs.bx 0 rfl) rfl rfl rfl, trivial⟩) (by kernel_rfl) fun fr w60 hF hE hc => then_normal ?_)
                              have hs := hs.ext hc
                              have hM0 := hM0.ext hc
                              have hs : Sep [] w60 S1 := Sep.pick [] hs (by decide) rfl
                              obtain rfl := Option.some.inj h
                              exact wp_ret (blk_ret (then_ret (ret1 rfl hF rfl ⟨_, rfl, rfl, hM0.chg⟩)))
                            · replace h := iteF hb h
                              have hs : Sep [] w2 S1 := Sep.pick [] hs (by decide) rfl
                              refine (wp_skip ?_)
                              refine blk_normal (then_normal ?_)
                              refine wp_seq (wp_pure [(6, .bool false)] hF (by kernel_rfl) fun fr hF => then_normal ?_)
                              obtain rfl := Option.some.inj h
                              exact wp_ret (ret1 rfl hF rfl ⟨_, rfl, rfl, hM0.chg⟩)
                · replace h := iteF hb h
                  refine wp_seq (wp_pure [(3, .pointer (some ⟨b1, 0, none⟩)), (7, .bool ((decide (p0.B ≥ 0)) && (decide (p0.B ≤ p2)))), (37, .int .i64 p0.Op), (61, .bool (p0.Op == 6))] hF (by kernel_rfl) fun fr hF => then_normal ?_)
                  refine (wp_if hF (b := (p0.Op == 6)) rfl (fun hb => ?_) (fun hb => ?_))
                  · replace h := iteT hb h
                    refine (wp_skip (then_normal ?_))
                    refine (wp_if hF (b := (p0.Op == 6)) rfl (fun hb => ?_) (fun hb => ?_))
                    · replace h := iteT hb h
                      obtain ⟨x28, hx28, h⟩ := bindE h
                      refine wp_seq (region_b [] [true, false, false, true, true, false, true, true, true]
                          [.eq (.pointer (some ⟨b1, 1, none⟩)), .eq (.int .i64 p0.A), .eq (.bool x28), .eq (.bool x28), .eq (.pointer (some ⟨b1, 2, none⟩)), .eq (.int .i64 p0.B), .eq (.bool (p0.B == 0)), .eq (.bool (x28 && (p0.B == 0))), .eq (.bool (x28 && (p0.B == 0)))]
                          [(6, .bool (x28 && (p0.B == 0)))] mix hF (by kernel_rfl) (by kernel_rfl) (by kernel_rfl) ⟨Pd.mono_eq, Pd.mono_eq, Pd.mono_eq, trivial⟩ (fun hG => ⟨np_loadBox hG hF ty3 rfl rfl (hs.bx 0 rfl) rfl rfl rfl, np_call [.int .i64 p0.A] hG hF Try.call77 rfl rfl (fun w hC hg => (impl_isReg_ok p0.A hx28).mono fun e w' ⟨v, he, hv, hc⟩ => ⟨v, he, hc, hv⟩), np_loadBox hG hF ty3 rfl rfl (hs.bx 0 rfl) rfl rfl rfl, trivial⟩) (by kernel_rfl) fun fr w61 hF hE hc => then_normal ?_)
                      have hs := hs.ext hc
                      have hM0 := hM0.ext hc
                      have hs : Sep [] w61 S1 := Sep.pick [] hs (by decide) rfl
                      obtain rfl := Option.some.inj h
                      exact wp_ret (blk_ret (then_ret (ret1 rfl hF rfl ⟨_, rfl, rfl, hM0.chg⟩)))
                    · replace h := iteF hb h
                      refine wp_seq ?_
                      refine wp_seq (wp_pure [(3, .pointer (some ⟨b1, 0, none⟩)), (7, .bool ((decide (p0.B ≥ 0)) && (decide (p0.B ≤ p2)))), (37, .int .i64 p0.Op), (74, .bool (p0.Op == 9))] hF (by kernel_rfl) fun fr hF => then_normal ?_)
                      refine (wp_if hF (b := (p0.Op == 9)) rfl (fun hb => ?_) (fun hb => ?_))
                      · replace h := iteT hb h
                        refine (wp_skip (then_normal ?_))
                        refine (wp_if hF (b := (p0.Op == 9)) rfl (fun hb => ?_) (fun hb => ?_))
                        · replace h := iteT hb h
                          refine wp_seq (region_b [] [true, false, true, true, true, true, true]
                              [.eq (.pointer (some ⟨b1, 1, none⟩)), .eq (.int .i64 p0.A), .eq (.bool (p0.A == 0)), .eq (.bool (p0.A == 0)), .eq (.bool ((decide (p0.B ≥ 0)) && (decide (p0.B ≤ p2)))), .eq (.bool ((p0.A == 0) && ((decide (p0.B ≥ 0)) && (decide (p0.B ≤ p2))))), .eq (.bool ((p0.A == 0) && ((decide (p0.B ≥ 0)) && (decide (p0.B ≤ p2)))))]
                              [(6, .bool ((p0.A == 0) && ((decide (p0.B ≥ 0)) && (decide (p0.B ≤ p2)))))] mix hF (by kernel_rfl) (by kernel_rfl) (by kernel_rfl) ⟨Pd.mono_eq, trivial⟩ (fun hG => ⟨np_loadBox hG hF ty3 rfl rfl (hs.bx 0 rfl) rfl rfl rfl, trivial⟩) (by kernel_rfl) fun fr w62 hF hE hc => then_normal ?_)
                          have hs := hs.ext hc
                          have hM0 := hM0.ext hc
                          have hs : Sep [] w62 S1 := Sep.pick [] hs (by decide) rfl
                          obtain rfl := Option.some.inj h
                          exact wp_ret (blk_ret (then_ret (ret1 rfl hF rfl ⟨_, rfl, rfl, hM0.chg⟩)))
                        · replace h := iteF hb h
                          refine wp_seq (wp_pure [(3, .pointer (some ⟨b1, 0, none⟩)), (7, .bool ((decide (p0.B ≥ 0)) && (decide (p0.B ≤ p2)))), (37, .int .i64 p0.Op), (83, .bool (p0.Op == 10))] hF (by kernel_rfl) fun fr hF => then_normal ?_)
                          refine (wp_if hF (b := (p0.Op == 10)) rfl (fun hb => ?_) (fun hb => ?_))
                          · replace h := iteT hb h
                            obtain ⟨x29, hx29, h⟩ := bindE h
                            refine wp_seq (region_b [] [true, false, false, true, true, true, true]
                                [.eq (.pointer (some ⟨b1, 1, none⟩)), .eq (.int .i64 p0.A), .eq (.bool x29), .eq (.bool x29), .eq (.bool ((decide (p0.B ≥ 0)) && (decide (p0.B ≤ p2)))), .eq (.bool (x29 && ((decide (p0.B ≥ 0)) && (decide (p0.B ≤ p2))))), .eq (.bool (x29 && ((decide (p0.B ≥ 0)) && (decide (p0.B ≤ p2)))))]
                                [(6, .bool (x29 && ((decide (p0.B ≥ 0)) && (decide (p0.B ≤ p2)))))] mix hF (by kernel_rfl) (by kernel_rfl) (by kernel_rfl) ⟨Pd.mono_eq, Pd.mono_eq, trivial⟩ (fun hG => ⟨np_loadBox hG hF ty3 rfl rfl (hs.bx 0 rfl) rfl rfl rfl, np_call [.int .i64 p0.A] hG hF Try.call77 rfl rfl (fun w hC hg => (impl_isReg_ok p0.A hx29).mono fun e w' ⟨v, he, hv, hc⟩ => ⟨v, he, hc, hv⟩), trivial⟩) (by kernel_rfl) fun fr w63 hF hE hc => then_normal ?_)
                            have hs := hs.ext hc
                            have hM0 := hM0.ext hc
                            have hs : Sep [] w63 S1 := Sep.pick [] hs (by decide) rfl
                            obtain rfl := Option.some.inj h
                            exact wp_ret (blk_ret (then_ret (ret1 rfl hF rfl ⟨_, rfl, rfl, hM0.chg⟩)))
                          · replace h := iteF hb h
                            refine wp_seq ?_
                            refine wp_seq (wp_pure [(3, .pointer (some ⟨b1, 0, none⟩)), (37, .int .i64 p0.Op), (91, .bool (p0.Op == 12))] hF (by kernel_rfl) fun fr hF => then_normal ?_)
                            refine (wp_if hF (b := (p0.Op == 12)) rfl (fun hb => ?_) (fun hb => ?_))
                            · replace h := iteT hb h
                              refine (wp_skip (then_normal ?_))
                              refine (wp_if hF (b := (p0.Op == 12)) rfl (fun hb => ?_) (fun hb => ?_))
                              · replace h := iteT hb h
                                refine wp_seq (region_b [] [true, false, true, true, true, false, true, true, true]
                                    [.eq (.pointer (some ⟨b1, 1, none⟩)), .eq (.int .i64 p0.A), .eq (.bool (p0.A == 0)), .eq (.bool (p0.A == 0)), .eq (.pointer (some ⟨b1, 2, none⟩)), .eq (.int .i64 p0.B), .eq (.bool (p0.B == 0)), .eq (.bool ((p0.A == 0) && (p0.B == 0))), .eq (.bool ((p0.A == 0) && (p0.B == 0)))]
                                    [(6, .bool ((p0.A == 0) && (p0.B == 0)))] mix hF (by kernel_rfl) (by kernel_rfl) (by kernel_rfl) ⟨Pd.mono_eq, Pd.mono_eq, trivial⟩ (fun hG => ⟨np_loadBox hG hF ty3 rfl rfl (hs.bx 0 rfl) rfl rfl rfl, np_loadBox hG hF ty3 rfl rfl (hs.bx 0 rfl) rfl rfl rfl, trivial⟩) (by kernel_rfl) fun fr w64 hF hE hc => then_normal ?_)
                                have hs := hs.ext hc
                                have hM0 := hM0.ext hc
                                have hs : Sep [] w64 S1 := Sep.pick [] hs (by decide) rfl
                                obtain rfl := Option.some.inj h
                                exact wp_ret (blk_ret (then_ret (ret1 rfl hF rfl ⟨_, rfl, rfl, hM0.chg⟩)))
                              · replace h := iteF hb h
                                have hs : Sep [] w2 S1 := Sep.pick [] hs (by decide) rfl
                                refine (wp_skip ?_)
                                refine blk_normal (then_normal ?_)
                                refine wp_seq (wp_pure [(6, .bool false)] hF (by kernel_rfl) fun fr hF => then_normal ?_)
                                obtain rfl := Option.some.inj h
                                exact wp_ret (ret1 rfl hF rfl ⟨_, rfl, rfl, hM0.chg⟩)
                            · replace h := iteF hb h
                              refine (wp_pure [(3, .pointer (some ⟨b1, 0, none⟩)), (91, .bool (p0.Op == 14))] hF (by kernel_rfl) fun fr hF => then_normal ?_)
                              refine (wp_if hF (b := (p0.Op == 14)) rfl (fun hb => ?_) (fun hb => ?_))
                              · replace h := iteT hb h
                                refine wp_seq (region_b [] [true, false, true, true, true, false, true, true, true]
                                    [.eq (.pointer (some ⟨b1, 1, none⟩)), .eq (.int .i64 p0.A), .eq (.bool (p0.A == 0)), .eq (.bool (p0.A == 0)), .eq (.pointer (some ⟨b1, 2, none⟩)), .eq (.int .i64 p0.B), .eq (.bool (p0.B == 0)), .eq (.bool ((p0.A == 0) && (p0.B == 0))), .eq (.bool ((p0.A == 0) && (p0.B == 0)))]
                                    [(6, .bool ((p0.A == 0) && (p0.B == 0)))] mix hF (by kernel_rfl) (by kernel_rfl) (by kernel_rfl) ⟨Pd.mono_eq, Pd.mono_eq, trivial⟩ (fun hG => ⟨np_loadBox hG hF ty3 rfl rfl (hs.bx 0 rfl) rfl rfl rfl, np_loadBox hG hF ty3 rfl rfl (hs.bx 0 rfl) rfl rfl rfl, trivial⟩) (by kernel_rfl) fun fr w65 hF hE hc => then_normal ?_)
                                have hs := hs.ext hc
                                have hM0 := hM0.ext hc
                                have hs : Sep [] w65 S1 := Sep.pick [] hs (by decide) rfl
                                obtain rfl := Option.some.inj h
                                exact wp_ret (blk_ret (then_ret (ret1 rfl hF rfl ⟨_, rfl, rfl, hM0.chg⟩)))
                              · replace h := iteF hb h
                                have hs : Sep [] w2 S1 := Sep.pick [] hs (by decide) rfl
                                refine (wp_skip ?_)
                                refine blk_normal (then_normal ?_)
                                refine wp_seq (wp_pure [(6, .bool false)] hF (by kernel_rfl) fun fr hF => then_normal ?_)
                                obtain rfl := Option.some.inj h
                                exact wp_ret (ret1 rfl hF rfl ⟨_, rfl, rfl, hM0.chg⟩)
                      · replace h := iteF hb h
                        refine (wp_pure [(3, .pointer (some ⟨b1, 0, none⟩)), (7, .bool ((decide (p0.B ≥ 0)) && (decide (p0.B ≤ p2)))), (37, .int .i64 p0.Op), (74, .bool (p0.Op == 11))] hF (by kernel_rfl) fun fr hF => then_normal ?_)
                        refine (wp_if hF (b := (p0.Op == 11)) rfl (fun hb => ?_) (fun hb => ?_))
                        · replace h := iteT hb h
                          refine wp_seq (region_b [] [true, false, true, true, true, true, true]
                              [.eq (.pointer (some ⟨b1, 1, none⟩)), .eq (.int .i64 p0.A), .eq (.bool (p0.A == 0)), .eq (.bool (p0.A == 0)), .eq (.bool ((decide (p0.B ≥ 0)) && (decide (p0.B ≤ p2)))), .eq (.bool ((p0.A == 0) && ((decide (p0.B ≥ 0)) && (decide (p0.B ≤ p2))))), .eq (.bool ((p0.A == 0) && ((decide (p0.B ≥ 0)) && (decide (p0.B ≤ p2)))))]
                              [(6, .bool ((p0.A == 0) && ((decide (p0.B ≥ 0)) && (decide (p0.B ≤ p2)))))] mix hF (by kernel_rfl) (by kernel_rfl) (by kernel_rfl) ⟨Pd.mono_eq, trivial⟩ (fun hG => ⟨np_loadBox hG hF ty3 rfl rfl (hs.bx 0 rfl) rfl rfl rfl, trivial⟩) (by kernel_rfl) fun fr w66 hF hE hc => then_normal ?_)
                          have hs := hs.ext hc
                          have hM0 := hM0.ext hc
                          have hs : Sep [] w66 S1 := Sep.pick [] hs (by decide) rfl
                          obtain rfl := Option.some.inj h
                          exact wp_ret (blk_ret (then_ret (ret1 rfl hF rfl ⟨_, rfl, rfl, hM0.chg⟩)))
                        · replace h := iteF hb h
                          refine wp_seq (wp_pure [(3, .pointer (some ⟨b1, 0, none⟩)), (7, .bool ((decide (p0.B ≥ 0)) && (decide (p0.B ≤ p2)))), (37, .int .i64 p0.Op), (83, .bool (p0.Op == 10))] hF (by kernel_rfl) fun fr hF => then_normal ?_)
                          refine (wp_if hF (b := (p0.Op == 10)) rfl (fun hb => ?_) (fun hb => ?_))
                          · replace h := iteT hb h
                            obtain ⟨x30, hx30, h⟩ := bindE h
                            refine wp_seq (region_b [] [true, false, false, true, true, true, true]
                                [.eq (.pointer (some ⟨b1, 1, none⟩)), .eq (.int .i64 p0.A), .eq (.bool x30), .eq (.bool x30), .eq (.bool ((decide (p0.B ≥ 0)) && (decide (p0.B ≤ p2)))), .eq (.bool (x30 && ((decide (p0.B ≥ 0)) && (decide (p0.B ≤ p2))))), .eq (.bool (x30 && ((decide (p0.B ≥ 0)) && (decide (p0.B ≤ p2)))))]
                                [(6, .bool (x30 && ((decide (p0.B ≥ 0)) && (decide (p0.B ≤ p2)))))] mix hF (by kernel_rfl) (by kernel_rfl) (by kernel_rfl) ⟨Pd.mono_eq, Pd.mono_eq, trivial⟩ (fun hG => ⟨np_loadBox hG hF ty3 rfl rfl (hs.bx 0 rfl) rfl rfl rfl, np_call [.int .i64 p0.A] hG hF Try.call77 rfl rfl (fun w hC hg => (impl_isReg_ok p0.A hx30).mono fun e w' ⟨v, he, hv, hc⟩ => ⟨v, he, hc, hv⟩), trivial⟩) (by kernel_rfl) fun fr w67 hF hE hc => then_normal ?_)
                            have hs := hs.ext hc
                            have hM0 := hM0.ext hc
                            have hs : Sep [] w67 S1 := Sep.pick [] hs (by decide) rfl
                            obtain rfl := Option.some.inj h
                            exact wp_ret (blk_ret (then_ret (ret1 rfl hF rfl ⟨_, rfl, rfl, hM0.chg⟩)))
                          · replace h := iteF hb h
                            refine wp_seq ?_
                            refine wp_seq (wp_pure [(3, .pointer (some ⟨b1, 0, none⟩)), (37, .int .i64 p0.Op), (91, .bool (p0.Op == 12))] hF (by kernel_rfl) fun fr hF => then_normal ?_)
                            refine (wp_if hF (b := (p0.Op == 12)) rfl (fun hb => ?_) (fun hb => ?_))
                            · replace h := iteT hb h
                              refine (wp_skip (then_normal ?_))
                              refine (wp_if hF (b := (p0.Op == 12)) rfl (fun hb => ?_) (fun hb => ?_))
                              · replace h := iteT hb h
                                refine wp_seq (region_b [] [true, false, true, true, true, false, true, true, true]
                                    [.eq (.pointer (some ⟨b1, 1, none⟩)), .eq (.int .i64 p0.A), .eq (.bool (p0.A == 0)), .eq (.bool (p0.A == 0)), .eq (.pointer (some ⟨b1, 2, none⟩)), .eq (.int .i64 p0.B), .eq (.bool (p0.B == 0)), .eq (.bool ((p0.A == 0) && (p0.B == 0))), .eq (.bool ((p0.A == 0) && (p0.B == 0)))]
                                    [(6, .bool ((p0.A == 0) && (p0.B == 0)))] mix hF (by kernel_rfl) (by kernel_rfl) (by kernel_rfl) ⟨Pd.mono_eq, Pd.mono_eq, trivial⟩ (fun hG => ⟨np_loadBox hG hF ty3 rfl rfl (hs.bx 0 rfl) rfl rfl rfl, np_loadBox hG hF ty3 rfl rfl (hs.bx 0 rfl) rfl rfl rfl, trivial⟩) (by kernel_rfl) fun fr w68 hF hE hc => then_normal ?_)
                                have hs := hs.ext hc
                                have hM0 := hM0.ext hc
                                have hs : Sep [] w68 S1 := Sep.pick [] hs (by decide) rfl
                                obtain rfl := Option.some.inj h
                                exact wp_ret (blk_ret (then_ret (ret1 rfl hF rfl ⟨_, rfl, rfl, hM0.chg⟩)))
                              · replace h := iteF hb h
                                have hs : Sep [] w2 S1 := Sep.pick [] hs (by decide) rfl
                                refine (wp_skip ?_)
                                refine blk_normal (then_normal ?_)
                                refine wp_seq (wp_pure [(6, .bool false)] hF (by kernel_rfl) fun fr hF => then_normal ?_)
                                obtain rfl := Option.some.inj h
                                exact wp_ret (ret1 rfl hF rfl ⟨_, rfl, rfl, hM0.chg⟩)
                            · replace h := iteF hb h
                              refine (wp_pure [(3, .pointer (some ⟨b1, 0, none⟩)), (91, .bool (p0.Op == 14))] hF (by kernel_rfl) fun fr hF => then_normal ?_)
                              refine (wp_if hF (b := (p0.Op == 14)) rfl (fun hb => ?_) (fun hb => ?_))
                              · replace h := iteT hb h
                                refine wp_seq (region_b [] [true, false, true, true, true, false, true, true, true]
                                    [.eq (.pointer (some ⟨b1, 1, none⟩)), .eq (.int .i64 p0.A), .eq (.bool (p0.A == 0)), .eq (.bool (p0.A == 0)), .eq (.pointer (some ⟨b1, 2, none⟩)), .eq (.int .i64 p0.B), .eq (.bool (p0.B == 0)), .eq (.bool ((p0.A == 0) && (p0.B == 0))), .eq (.bool ((p0.A == 0) && (p0.B == 0)))]
                                    [(6, .bool ((p0.A == 0) && (p0.B == 0)))] mix hF (by kernel_rfl) (by kernel_rfl) (by kernel_rfl) ⟨Pd.mono_eq, Pd.mono_eq, trivial⟩ (fun hG => ⟨np_loadBox hG hF ty3 rfl rfl (hs.bx 0 rfl) rfl rfl rfl, np_loadBox hG hF ty3 rfl rfl (hs.bx 0 rfl) rfl rfl rfl, trivial⟩) (by kernel_rfl) fun fr w69 hF hE hc => then_normal ?_)
                                have hs := hs.ext hc
                                have hM0 := hM0.ext hc
                                have hs : Sep [] w69 S1 := Sep.pick [] hs (by decide) rfl
                                obtain rfl := Option.some.inj h
                                exact wp_ret (blk_ret (then_ret (ret1 rfl hF rfl ⟨_, rfl, rfl, hM0.chg⟩)))
                              · replace h := iteF hb h
                                have hs : Sep [] w2 S1 := Sep.pick [] hs (by decide) rfl
                                refine (wp_skip ?_)
                                refine blk_normal (then_normal ?_)
                                refine wp_seq (wp_pure [(6, .bool false)] hF (by kernel_rfl) fun fr hF => then_normal ?_)
                                obtain rfl := Option.some.inj h
                                exact wp_ret (ret1 rfl hF rfl ⟨_, rfl, rfl, hM0.chg⟩)
                  · replace h := iteF hb h
                    refine (wp_pure [(3, .pointer (some ⟨b1, 0, none⟩)), (7, .bool ((decide (p0.B ≥ 0)) && (decide (p0.B ≤ p2)))), (37, .int .i64 p0.Op), (61, .bool (p0.Op == 13))] hF (by kernel_rfl) fun fr hF => then_normal ?_)
                    refine (wp_if hF (b := (p0.Op == 13)) rfl (fun hb => ?_) (fun hb => ?_))
                    · replace h := iteT hb h
                      obtain ⟨x31, hx31, h⟩ := bindE h
                      refine wp_seq (region_b [] [true, false, false, true, true, false, true, true, true]
                          [.eq (.pointer (some ⟨b1, 1, none⟩)), .eq (.int .i64 p0.A), .eq (.bool x31), .eq (.bool x31), .eq (.pointer (some ⟨b1, 2, none⟩)), .eq (.int .i64 p0.B), .eq (.bool (p0.B == 0)), .eq (.bool (x31 && (p0.B == 0))), .eq (.bool (x31 && (p0.B == 0)))]
                          [(6, .bool (x31 && (p0.B == 0)))] mix hF (by kernel_rfl) (by kernel_rfl) (by kernel_rfl) ⟨Pd.mono_eq, Pd.mono_eq, Pd.mono_eq, trivial⟩ (fun hG => ⟨np_loadBox hG hF ty3 rfl rfl (hs.bx 0 rfl) rfl rfl rfl, np_call [.int .i64 p0.A] hG hF Try.call77 rfl rfl (fun w hC hg => (impl_isReg_ok p0.A hx31).mono fun e w' ⟨v, he, hv, hc⟩ => ⟨v, he, hc, hv⟩), np_loadBox hG hF ty3 rfl rfl (hs.bx 0 rfl) rfl rfl rfl, trivial⟩) (by kernel_rfl) fun fr w70 hF hE hc => then_normal ?_)
                      have hs := hs.ext hc
                      have hM0 := hM0.ext hc
                      have hs : Sep [] w70 S1 := Sep.pick [] hs (by decide) rfl
                      obtain rfl := Option.some.inj h
                      exact wp_ret (blk_ret (then_ret (ret1 rfl hF rfl ⟨_, rfl, rfl, hM0.chg⟩)))
                    · replace h := iteF hb h
                      refine wp_seq ?_
                      refine wp_seq (wp_pure [(3, .pointer (some ⟨b1, 0, none⟩)), (7, .bool ((decide (p0.B ≥ 0)) && (decide (p0.B ≤ p2)))), (37, .int .i64 p0.Op), (74, .bool (p0.Op == 9))] hF (by kernel_rfl) fun fr hF => then_normal ?_)
                      refine (wp_if hF (b := (p0.Op == 9)) rfl (fun hb => ?_) (fun hb => ?_))
                      · replace h := iteT hb h
                        refine (wp_skip (then_normal ?_))
                        refine (wp_if hF (b := (p0.Op == 9)) rfl (fun hb => ?_) (fun hb => ?_))
                        · replace h := iteT hb h
                          refine wp_seq (region_b [] [true, false, true, true, true, true, true]
                              [.eq (.pointer (some ⟨b1, 1, none⟩)), .eq (.int .i64 p0.A), .eq (.bool (p0.A == 0)), .eq (.bool (p0.A == 0)), .eq (.bool ((decide (p0.B ≥ 0)) && (decide (p0.B ≤ p2)))), .eq (.bool ((p0.A == 0) && ((decide (p0.B ≥ 0)) && (decide (p0.B ≤ p2))))), .eq (.bool ((p0.A == 0) && ((decide (p0.B ≥ 0)) && (decide (p0.B ≤ p2)))))]
                              [(6, .bool ((p0.A == 0) && ((decide (p0.B ≥ 0)) && (decide (p0.B ≤ p2)))))] mix hF (by kernel_rfl) (by kernel_rfl) (by kernel_rfl) ⟨Pd.mono_eq, trivial⟩ (fun hG => ⟨np_loadBox hG hF ty3 rfl rfl (hs.bx 0 rfl) rfl rfl rfl, trivial⟩) (by kernel_rfl) fun fr w71 hF hE hc => then_normal ?_)
                          have hs := hs.ext hc
                          have hM0 := hM0.ext hc
                          have hs : Sep [] w71 S1 := Sep.pick [] hs (by decide) rfl
                          obtain rfl := Option.some.inj h
                          exact wp_ret (blk_ret (then_ret (ret1 rfl hF rfl ⟨_, rfl, rfl, hM0.chg⟩)))
                        · replace h := iteF hb h
                          refine wp_seq (wp_pure [(3, .pointer (some ⟨b1, 0, none⟩)), (7, .bool ((decide (p0.B ≥ 0)) && (decide (p0.B ≤ p2)))), (37, .int .i64 p0.Op), (83, .bool (p0.Op == 10))] hF (by kernel_rfl) fun fr hF => then_normal ?_)
                          refine (wp_if hF (b := (p0.Op == 10)) rfl (fun hb => ?_) (fun hb => ?_))
                          · replace h := iteT hb h
                            obtain ⟨x32, hx32, h⟩ := bindE h
                            refine wp_seq (region_b [] [true, false, false, true, true, true, true]
                                [.eq (.pointer (some ⟨b1, 1, none⟩)), .eq (.int .i64 p0.A), .eq (.bool x32), .eq (.bool x32), .eq (.bool ((decide (p0.B ≥ 0)) && (decide (p0.B ≤ p2)))), .eq (.bool (x32 && ((decide (p0.B ≥ 0)) && (decide (p0.B ≤ p2))))), .eq (.bool (x32 && ((decide (p0.B ≥ 0)) && (decide (p0.B ≤ p2)))))]
                                [(6, .bool (x32 && ((decide (p0.B ≥ 0)) && (decide (p0.B ≤ p2)))))] mix hF (by kernel_rfl) (by kernel_rfl) (by kernel_rfl) ⟨Pd.mono_eq, Pd.mono_eq, trivial⟩ (fun hG => ⟨np_loadBox hG hF ty3 rfl rfl (hs.bx 0 rfl) rfl rfl rfl, np_call [.int .i64 p0.A] hG hF Try.call77 rfl rfl (fun w hC hg => (impl_isReg_ok p0.A hx32).mono fun e w' ⟨v, he, hv, hc⟩ => ⟨v, he, hc, hv⟩), trivial⟩) (by kernel_rfl) fun fr w72 hF hE hc => then_normal ?_)
                            have hs := hs.ext hc
                            have hM0 := hM0.ext hc
                            have hs : Sep [] w72 S1 := Sep.pick [] hs (by decide) rfl
                            obtain rfl := Option.some.inj h
                            exact wp_ret (blk_ret (then_ret (ret1 rfl hF rfl ⟨_, rfl, rfl, hM0.chg⟩)))
                          · replace h := iteF hb h
                            refine wp_seq ?_
                            refine wp_seq (wp_pure [(3, .pointer (some ⟨b1, 0, none⟩)), (37, .int .i64 p0.Op), (91, .bool (p0.Op == 12))] hF (by kernel_rfl) fun fr hF => then_normal ?_)
                            refine (wp_if hF (b := (p0.Op == 12)) rfl (fun hb => ?_) (fun hb => ?_))
                            · replace h := iteT hb h
                              refine (wp_skip (then_normal ?_))
                              refine (wp_if hF (b := (p0.Op == 12)) rfl (fun hb => ?_) (fun hb => ?_))
                              · replace h := iteT hb h
                                refine wp_seq (region_b [] [true, false, true, true, true, false, true, true, true]
                                    [.eq (.pointer (some ⟨b1, 1, none⟩)), .eq (.int .i64 p0.A), .eq (.bool (p0.A == 0)), .eq (.bool (p0.A == 0)), .eq (.pointer (some ⟨b1, 2, none⟩)), .eq (.int .i64 p0.B), .eq (.bool (p0.B == 0)), .eq (.bool ((p0.A == 0) && (p0.B == 0))), .eq (.bool ((p0.A == 0) && (p0.B == 0)))]
                                    [(6, .bool ((p0.A == 0) && (p0.B == 0)))] mix hF (by kernel_rfl) (by kernel_rfl) (by kernel_rfl) ⟨Pd.mono_eq, Pd.mono_eq, trivial⟩ (fun hG => ⟨np_loadBox hG hF ty3 rfl rfl (hs.bx 0 rfl) rfl rfl rfl, np_loadBox hG hF ty3 rfl rfl (hs.bx 0 rfl) rfl rfl rfl, trivial⟩) (by kernel_rfl) fun fr w73 hF hE hc => then_normal ?_)
                                have hs := hs.ext hc
                                have hM0 := hM0.ext hc
                                have hs : Sep [] w73 S1 := Sep.pick [] hs (by decide) rfl
                                obtain rfl := Option.some.inj h
                                exact wp_ret (blk_ret (then_ret (ret1 rfl hF rfl ⟨_, rfl, rfl, hM0.chg⟩)))
                              · replace h := iteF hb h
                                have hs : Sep [] w2 S1 := Sep.pick [] hs (by decide) rfl
                                refine (wp_skip ?_)
                                refine blk_normal (then_normal ?_)
                                refine wp_seq (wp_pure [(6, .bool false)] hF (by kernel_rfl) fun fr hF => then_normal ?_)
                                obtain rfl := Option.some.inj h
                                exact wp_ret (ret1 rfl hF rfl ⟨_, rfl, rfl, hM0.chg⟩)
                            · replace h := iteF hb h
                              refine (wp_pure [(3, .pointer (some ⟨b1, 0, none⟩)), (91, .bool (p0.Op == 14))] hF (by kernel_rfl) fun fr hF => then_normal ?_)
                              refine (wp_if hF (b := (p0.Op == 14)) rfl (fun hb => ?_) (fun hb => ?_))
                              · replace h := iteT hb h
                                refine wp_seq (region_b [] [true, false, true, true, true, false, true, true, true]
                                    [.eq (.pointer (some ⟨b1, 1, none⟩)), .eq (.int .i64 p0.A), .eq (.bool (p0.A == 0)), .eq (.bool (p0.A == 0)), .eq (.pointer (some ⟨b1, 2, none⟩)), .eq (.int .i64 p0.B), .eq (.bool (p0.B == 0)), .eq (.bool ((p0.A == 0) && (p0.B == 0))), .eq (.bool ((p0.A == 0) && (p0.B == 0)))]
                                    [(6, .bool ((p0.A == 0) && (p0.B == 0)))] mix hF (by kernel_rfl) (by kernel_rfl) (by kernel_rfl) ⟨Pd.mono_eq, Pd.mono_eq, trivial⟩ (fun hG => ⟨np_loadBox hG hF ty3 rfl rfl (hs.bx 0 rfl) rfl rfl rfl, np_loadBox hG hF ty3 rfl rfl (hs.bx 0 rfl) rfl rfl rfl, trivial⟩) (by kernel_rfl) fun fr w74 hF hE hc => then_normal ?_)
                                have hs := hs.ext hc
                                have hM0 := hM0.ext hc
                                have hs : Sep [] w74 S1 := Sep.pick [] hs (by decide) rfl
                                obtain rfl := Option.some.inj h
                                exact wp_ret (blk_ret (then_ret (ret1 rfl hF rfl ⟨_, rfl, rfl, hM0.chg⟩)))
                              · replace h := iteF hb h
                                have hs : Sep [] w2 S1 := Sep.pick [] hs (by decide) rfl
                                refine (wp_skip ?_)
                                refine blk_normal (then_normal ?_)
                                refine wp_seq (wp_pure [(6, .bool false)] hF (by kernel_rfl) fun fr hF => then_normal ?_)
                                obtain rfl := Option.some.inj h
                                exact wp_ret (ret1 rfl hF rfl ⟨_, rfl, rfl, hM0.chg⟩)
                      · replace h := iteF hb h
                        refine (wp_pure [(3, .pointer (some ⟨b1, 0, none⟩)), (7, .bool ((decide (p0.B ≥ 0)) && (decide (p0.B ≤ p2)))), (37, .int .i64 p0.Op), (74, .bool (p0.Op == 11))] hF (by kernel_rfl) fun fr hF => then_normal ?_)
                        refine (wp_if hF (b := (p0.Op == 11)) rfl (fun hb => ?_) (fun hb => ?_))
                        · replace h := iteT hb h
                          refine wp_seq (region_b [] [true, false, true, true, true, true, true]
                              [.eq (.pointer (some ⟨b1, 1, none⟩)), .eq (.int .i64 p0.A), .eq (.bool (p0.A == 0)), .eq (.bool (p0.A == 0)), .eq (.bool ((decide (p0.B ≥ 0)) && (decide (p0.B ≤ p2)))), .eq (.bool ((p0.A == 0) && ((decide (p0.B ≥ 0)) && (decide (p0.B ≤ p2))))), .eq (.bool ((p0.A == 0) && ((decide (p0.B ≥ 0)) && (decide (p0.B ≤ p2)))))]
                              [(6, .bool ((p0.A == 0) && ((decide (p0.B ≥ 0)) && (decide (p0.B ≤ p2)))))] mix hF (by kernel_rfl) (by kernel_rfl) (by kernel_rfl) ⟨Pd.mono_eq, trivial⟩ (fun hG => ⟨np_loadBox hG hF ty3 rfl rfl (hs.bx 0 rfl) rfl rfl rfl, trivial⟩) (by kernel_rfl) fun fr w75 hF hE hc => then_normal ?_)
                          have hs := hs.ext hc
                          have hM0 := hM0.ext hc
                          have hs : Sep [] w75 S1 := Sep.pick [] hs (by decide) rfl
                          obtain rfl := Option.some.inj h
                          exact wp_ret (blk_ret (then_ret (ret1 rfl hF rfl ⟨_, rfl, rfl, hM0.chg⟩)))
                        · replace h := iteF hb h
                          refine wp_seq (wp_pure [(3, .pointer (some ⟨b1, 0, none⟩)), (7, .bool ((decide (p0.B ≥ 0)) && (decide (p0.B ≤ p2)))), (37, .int .i64 p0.Op), (83, .bool (p0.Op == 10))] hF (by kernel_rfl) fun fr hF => then_normal ?_)
                          refine (wp_if hF (b := (p0.Op == 10)) rfl (fun hb => ?_) (fun hb => ?_))
                          · replace h := iteT hb h
                            obtain ⟨x33, hx33, h⟩ := bindE h
                            refine wp_seq (region_b [] [true, false, false, true, true, true, true]
                                [.eq (.pointer (some ⟨b1, 1, none⟩)), .eq (.int .i64 p0.A), .eq (.bool x33), .eq (.bool x33), .eq (.bool ((decide (p0.B ≥ 0)) && (decide (p0.B ≤ p2)))), .eq (.bool (x33 && ((decide (p0.B ≥ 0)) && (decide (p0.B ≤ p2))))), .eq (.bool (x33 && ((decide (p0.B ≥ 0)) && (decide (p0.B ≤ p2)))))]
                                [(6, .bool (x33 && ((decide (p0.B ≥ 0)) && (decide (p0.B ≤ p2)))))] mix hF (by kernel_rfl) (by kernel_rfl) (by kernel_rfl) ⟨Pd.mono_eq, Pd.mono_eq, trivial⟩ (fun hG => ⟨np_loadBox hG hF ty3 rfl rfl (hs.bx 0 rfl) rfl rfl rfl, np_call [.int .i64 p0.A] hG hF Try.call77 rfl rfl (fun w hC hg => (impl_isReg_ok p0.A hx33).mono fun e w' ⟨v, he, hv, hc⟩ => ⟨v, he, hc, hv⟩), trivial⟩) (by kernel_rfl) fun fr w76 hF hE hc => then_normal ?_)
                            have hs := hs.ext hc
                            have hM0 := hM0.ext hc
                            have hs : Sep [] w76 S1 := Sep.pick [] hs (by decide) rfl
                            obtain rfl := Option.some.inj h
                            exact wp_ret (blk_ret (then_ret (ret1 rfl hF rfl ⟨_, rfl, rfl, hM0.chg⟩)))
                          · replace h := iteF hb h
                            refine wp_seq ?_
                            refine wp_seq (wp_pure [(3, .pointer (some ⟨b1, 0, none⟩)), (37, .int .i64 p0.Op), (91, .bool (p0.Op == 12))] hF (by kernel_rfl) fun fr hF => then_normal ?_)
                            refine (wp_if hF (b := (p0.Op == 12)) rfl (fun hb => ?_) (fun hb => ?_))
                            · replace h := iteT hb h
                              refine (wp_skip (then_normal ?_))
                              refine (wp_if hF (b := (p0.Op == 12)) rfl (fun hb => ?_) (fun hb => ?_))
                              · replace h := iteT hb h
                                refine wp_seq (region_b [] [true, false, true, true, true, false, true, true, true]
                                    [.eq (.pointer (some ⟨b1, 1, none⟩)), .eq (.int .i64 p0.A), .eq (.bool (p0.A == 0)), .eq (.bool (p0.A == 0)), .eq (.pointer (some ⟨b1, 2, none⟩)), .eq (.int .i64 p0.B), .eq (.bool (p0.B == 0)), .eq (.bool ((p0.A == 0) && (p0.B == 0))), .eq (.bool ((p0.A == 0) && (p0.B == 0)))]
                                    [(6, .bool ((p0.A == 0) && (p0.B == 0)))] mix hF (by kernel_rfl) (by kernel_rfl) (by kernel_rfl) ⟨Pd.mono_eq, Pd.mono_eq, trivial⟩ (fun hG => ⟨np_loadBox hG hF ty3 rfl rfl (hs.bx 0 rfl) rfl rfl rfl, np_loadBox hG hF ty3 rfl rfl (hs.bx 0 rfl) rfl rfl rfl, trivial⟩) (by kernel_rfl) fun fr w77 hF hE hc => then_normal ?_)
                                have hs := hs.ext hc
                                have hM0 := hM0.ext hc
                                have hs : Sep [] w77 S1 := Sep.pick [] hs (by decide) rfl
                                obtain rfl := Option.some.inj h
                                exact wp_ret (blk_ret (then_ret (ret1 rfl hF rfl ⟨_, rfl, rfl, hM0.chg⟩)))
                              · replace h := iteF hb h
                                have hs : Sep [] w2 S1 := Sep.pick [] hs (by decide) rfl
                                refine (wp_skip ?_)
                                refine blk_normal (then_normal ?_)
                                refine wp_seq (wp_pure [(6, .bool false)] hF (by kernel_rfl) fun fr hF => then_normal ?_)
                                obtain rfl := Option.some.inj h
                                exact wp_ret (ret1 rfl hF rfl ⟨_, rfl, rfl, hM0.chg⟩)
                            · replace h := iteF hb h
                              refine (wp_pure [(3, .pointer (some ⟨b1, 0, none⟩)), (91, .bool (p0.Op == 14))] hF (by kernel_rfl) fun fr hF => then_normal ?_)
                              refine (wp_if hF (b := (p0.Op == 14)) rfl (fun hb => ?_) (fun hb => ?_))
                              · replace h := iteT hb h
                                refine wp_seq (region_b [] [true, false, true, true, true, false, true, true, true]
                                    [.eq (.pointer (some ⟨b1, 1, none⟩)), .eq (.int .i64 p0.A), .eq (.bool (p0.A == 0)), .eq (.bool (p0.A == 0)), .eq (.pointer (some ⟨b1, 2, none⟩)), .eq (.int .i64 p0.B), .eq (.bool (p0.B == 0)), .eq (.bool ((p0.A == 0) && (p0.B == 0))), .eq (.bool ((p0.A == 0) && (p0.B == 0)))]
                                    [(6, .bool ((p0.A == 0) && (p0.B == 0)))] mix hF (by kernel_rfl) (by kernel_rfl) (by kernel_rfl) ⟨Pd.mono_eq, Pd.mono_eq, trivial⟩ (fun hG => ⟨np_loadBox hG hF ty3 rfl rfl (hs.bx 0 rfl) rfl rfl rfl, np_loadBox hG hF ty3 rfl rfl (hs.bx 0 rfl) rfl rfl rfl, trivial⟩) (by kernel_rfl) fun fr w78 hF hE hc => then_normal ?_)
                                have hs := hs.ext hc
                                have hM0 := hM0.ext hc
                                have hs : Sep [] w78 S1 := Sep.pick [] hs (by decide) rfl
                                obtain rfl := Option.some.inj h
                                exact wp_ret (blk_ret (then_ret (ret1 rfl hF rfl ⟨_, rfl, rfl, hM0.chg⟩)))
                              · replace h := iteF hb h
                                have hs : Sep [] w2 S1 := Sep.pick [] hs (by decide) rfl
                                refine (wp_skip ?_)
                                refine blk_normal (then_normal ?_)
                                refine wp_seq (wp_pure [(6, .bool false)] hF (by kernel_rfl) fun fr hF => then_normal ?_)
                                obtain rfl := Option.some.inj h
                                exact wp_ret (ret1 rfl hF rfl ⟨_, rfl, rfl, hM0.chg⟩)
          · replace h := iteF hb h
            refine (wp_pure [(3, .pointer (some ⟨b1, 0, none⟩)), (7, .bool ((decide (p0.B ≥ 0)) && (decide (p0.B ≤ p2)))), (37, .int .i64 p0.Op), (49, .bool (p0.Op == 8))] hF (by kernel_rfl) fun fr hF => then_normal ?_)
            refine (wp_if hF (b := (p0.Op == 8)) rfl (fun hb => ?_) (fun hb => ?_))
            · replace h := iteT hb h
              obtain ⟨x34, hx34, h⟩ := bindE h
              obtain ⟨x35, hx35, h⟩ := bindE h
              refine wp_seq (region_b [] [true, false, false, true, true, false, false, true, true]
                  [.eq (.pointer (some ⟨b1, 1, none⟩)), .eq (.int .i64 p0.A), .eq (.bool x34), .eq (.bool x34), .eq (.pointer (some ⟨b1, 2, none⟩)), .eq (.int .i64 p0.B), .eq (.bool x35), .eq (.bool (x34 && x35)), .eq (.bool (x34 && x35))]
                  [(6, .bool (x34 && x35))] mix hF (by kernel_rfl) (by kernel_rfl) (by kernel_rfl) ⟨Pd.mono_eq, Pd.mono_eq, Pd.mono_eq, Pd.mono_eq, trivial⟩ (fun hG => ⟨np_loadBox hG hF ty3 rfl rfl (hs.bx 0 rfl) rfl rfl rfl, np_call [.int .i64 p0.A] hG hF Try.call77 rfl rfl (fun w hC hg => (impl_isReg_ok p0.A hx34).mono fun e w' ⟨v, he, hv, hc⟩ => ⟨v, he, hc, hv⟩), np_loadBox hG hF ty3 rfl rfl (hs.bx 0 rfl) rfl rfl rfl, np_call [.int .i64 p0.B] hG hF Try.call77 rfl rfl (fun w hC hg => (impl_isReg_ok p0.B (iteT hg.2 hx35)).mono fun e w' ⟨v, he, hv, hc⟩ => ⟨v, he, hc, hv⟩), trivial⟩) (by kernel_rfl) fun fr w79 hF hE hc => then_normal ?_)
              have hs := hs.ext hc
              have hM0 := hM0.ext hc
              have hs : Sep [] w79 S1 := Sep.pick [] hs (by decide) rfl
              obtain rfl := Option.some.inj h
              exact wp_ret (blk_ret (then_ret (ret1 rfl hF rfl ⟨_, rfl, rfl, hM0.chg⟩)))
            · replace h := iteF hb h
              refine wp_seq ?_
              refine wp_seq (wp_pure [(3, .pointer (some ⟨b1, 0, none⟩)), (7, .bool ((decide (p0.B ≥ 0)) && (decide (p0.B ≤ p2)))), (37, .int .i64 p0.Op), (61, .bool (p0.Op == 4))] hF (by kernel_rfl) fun fr hF => then_normal ?_)
              refine (wp_if hF (b := (p0.Op == 4)) rfl (fun hb => ?_) (fun hb => ?_))
              · replace h := iteT hb h
                refine (wp_skip (then_normal ?_))
                refine (wp_if hF (b := (p0.Op == 4)) rfl (fun hb => ?_) (fun hb => ?_))
                · replace h := iteT hb h
                  obtain ⟨x36, hx36, h⟩ := bindE h
                  refine wp_seq (region_b [] [true, false, false, true, true, false, true, true, true]
                      [.eq (.pointer (some ⟨b1, 1, none⟩)), .eq (.int .i64 p0.A), .eq (.bool x36), .eq (.bool x36), .eq (.pointer (some ⟨b1, 2, none⟩)), .eq (.int .i64 p0.B), .eq (.bool (p0.B == 0)), .eq (.bool (x36 && (p0.B == 0))), .eq (.bool (x36 && (p0.B == 0)))]
                      [(6, .bool (x36 && (p0.B == 0)))] mix hF (by kernel_rfl) (by kernel_rfl) (by kernel_rfl) ⟨Pd.mono_eq, Pd.mono_eq, Pd.mono_eq, trivial⟩ (fun hG => ⟨np_loadBox hG hF ty3 rfl rfl (hs.bx 0 rfl) rfl rfl rfl, np_call [.int .i64 p0.A] hG hF Try.call77 rfl rfl (fun w hC hg => (impl_isReg_ok p0.A hx36).mono fun e w' ⟨v, he, hv, hc⟩ => ⟨v, he, hc, hv⟩), np_loadBox hG hF ty3 rfl rfl (hs.bx 0 rfl) rfl rfl rfl, trivial⟩) (by kernel_rfl) fun fr w80 hF hE hc => then_normal ?_)
                  have hs := hs.ext hc
                  have hM0 := hM0.ext hc
                  have hs : Sep [] w80 S1 := Sep.pick [] hs (by decide) rfl
                  obtain rfl := Option.some.inj h
                  exact wp_ret (blk_ret (then_ret (ret1 rfl hF rfl ⟨_, rfl, rfl, hM0.chg⟩)))
                · replace h := iteF hb h
                  refine wp_seq ?_
                  refine wp_seq (wp_pure [(3, .pointer (some ⟨b1, 0, none⟩)), (7, .bool ((decide (p0.B ≥ 0)) && (decide (p0.B ≤ p2)))), (37, .int .i64 p0.Op), (74, .bool (p0.Op == 9))] hF (by kernel_rfl) fun fr hF => then_normal ?_)
                  refine (wp_if hF (b := (p0.Op == 9)) rfl (fun hb => ?_) (fun hb => ?_))
                  · replace h := iteT hb h
                    refine (wp_skip (then_normal ?_))
                    refine (wp_if hF (b := (p0.Op == 9)) rfl (fun hb => ?_) (fun hb => ?_))
                    · replace h := iteT hb h
                      refine wp_seq (region_b [] [true, false, true, true, true, true, true]
                          [.eq (.pointer (some ⟨b1, 1, none⟩)), .eq (.int .i64 p0.A), .eq (.bool (p0.A == 0)), .eq (.bool (p0.A == 0)), .eq (.bool ((decide (p0.B ≥ 0)) && (decide (p0.B ≤ p2)))), .eq (.bool ((p0.A == 0) && ((decide (p0.B ≥ 0)) && (decide (p0.B ≤ p2))))), .eq (.bool ((p0.A == 0) && ((decide (p0.B ≥ 0)) && (decide (p0.B ≤ p2)))))]
                          [(6, .bool ((p0.A == 0) && ((decide (p0.B ≥ 0)) && (decide (p0.B ≤ p2)))))] mix hF (by kernel_rfl) (by kernel_rfl) (by kernel_rfl) ⟨Pd.mono_eq, trivial⟩ (fun hG => ⟨np_loadBox hG hF ty3 rfl rfl (hs.bx 0 rfl) rfl rfl rfl, trivial⟩) (by kernel_rfl) fun fr w81 hF hE hc => then_normal ?_)
                      have hs := hs.ext hc
                      have hM0 := hM0.ext hc
                      have hs : Sep [] w81 S1 := Sep.pick [] hs (by decide) rfl
                      obtain rfl := Option.some.inj h
                      exact wp_ret (blk_ret (then_ret (ret1 rfl hF rfl ⟨_, rfl, rfl, hM0.chg⟩)))
                    · replace h := iteF hb h
                      refine wp_seq (wp_pure [(3, .pointer (some ⟨b1, 0, none⟩)), (7, .bool ((decide (p0.B ≥ 0)) && (decide (p0.B ≤ p2)))), (37, .int .i64 p0.Op), (83, .bool (p0.Op == 10))] hF (by kernel_rfl) fun fr hF => then_normal ?_)
                      refine (wp_if hF (b := (p0.Op == 10)) rfl (fun hb => ?_) (fun hb => ?_))
                      · replace h := iteT hb h
                        obtain ⟨x37, hx37, h⟩ := bindE h
                        refine wp_seq (region_b [] [true, false, false, true, true, true, true]
                            [.eq (.pointer (some ⟨b1, 1, none⟩)), .eq (.int .i64 p0.A), .eq (.bool x37), .eq (.bool x37), .eq (.bool ((decide (p0.B ≥ 0)) && (decide (p0.B ≤ p2)))), .eq (.bool (x37 && ((decide (p0.B ≥ 0)) && (decide (p0.B ≤ p2))))), .eq (.bool (x37 && ((decide (p0.B ≥ 0)) && (decide (p0.B ≤ p2)))))]
                            [(6, .bool (x37 && ((decide (p0.B ≥ 0)) && (decide (p0.B ≤ p2)))))] mix hF (by kernel_rfl) (by kernel_rfl) (by kernel_rfl) ⟨Pd.mono_eq, Pd.mono_eq, trivial⟩ (fun hG => ⟨np_loadBox hG hF ty3 rfl rfl (hs.bx 0 rfl) rfl rfl rfl, np_call [.int .i64 p0.A] hG hF Try.call77 rfl rfl (fun w hC hg => (impl_isReg_ok p0.A hx37).mono fun e w' ⟨v, he, hv, hc⟩ => ⟨v, he, hc, hv⟩), trivial⟩) (by kernel_rfl) fun fr w82 hF hE hc => then_normal ?_)
                        have hs := hs.ext hc
                        have hM0 := hM0.ext hc
                        have hs : Sep [] w82 S1 := Sep.pick [] hs (by decide) rfl
                        obtain rfl := Option.some.inj h
                        exact wp_ret (blk_ret (then_ret (ret1 rfl hF rfl ⟨_, rfl, rfl, hM0.chg⟩)))
                      · replace h := iteF hb h
                        refine wp_seq ?_
                        refine wp_seq (wp_pure [(3, .pointer (some ⟨b1, 0, none⟩)), (37, .int .i64 p0.Op), (91, .bool (p0.Op == 12))] hF (by kernel_rfl) fun fr hF => then_normal ?_)
                        refine (wp_if hF (b := (p0.Op == 12)) rfl (fun hb => ?_) (fun hb => ?_))
                        · replace h := iteT hb h
                          refine (wp_skip (then_normal ?_))
                          refine (wp_if hF (b := (p0.Op == 12)) rfl (fun hb => ?_) (fun hb => ?_))
                          · replace h := iteT hb h
                            refine wp_seq (region_b [] [true, false, true, true, true, false, true, true, true]
                                [.eq (.pointer (some ⟨b1, 1, none⟩)), .eq (.int .i64 p0.A), .eq (.bool (p0.A == 0)), .eq (.bool (p0.A == 0)), .eq (.pointer (some ⟨b1, 2, none⟩)), .eq (.int .i64 p0.B), .eq (.bool (p0.B == 0)), .eq (.bool ((p0.A == 0) && (p0.B == 0))), .eq (.bool ((p0.A == 0) && (p0.B == 0)))]
                                [(6, .bool ((p0.A == 0) && (p0.B == 0)))] mix hF (by kernel_rfl) (by kernel_rfl) (by kernel_rfl) ⟨Pd.mono_eq, Pd.mono_eq, trivial⟩ (fun hG => ⟨np_loadBox hG hF ty3 rfl rfl (hs.bx 0 rfl) rfl rfl rfl, np_loadBox hG hF ty3 rfl rfl (hs.bx 0 rfl) rfl rfl rfl, trivial⟩) (by kernel_rfl) fun fr w83 hF hE hc => then_normal ?_)
                            have hs := hs.ext hc
                            have hM0 := hM0.ext hc
                            have hs : Sep [] w83 S1 := Sep.pick [] hs (by decide) rfl
                            obtain rfl := Option.some.inj h
                            exact wp_ret (blk_ret (then_ret (ret1 rfl hF rfl ⟨_, rfl, rfl, hM0.chg⟩)))
                          · replace h := iteF hb h
                            have hs : Sep [] w2 S1 := Sep.pick [] hs (by decide) rfl
                            refine (wp_skip ?_)
                            refine blk_normal (then_normal ?_)
                            refine wp_seq (wp_pure [(6, .bool false)] hF (by kernel_rfl) fun fr hF => then_normal ?_)
                            obtain rfl := Option.some.inj h
                            exact wp_ret (ret1 rfl hF rfl ⟨_, rfl, rfl, hM0.chg⟩)
                        · replace h := iteF hb h
                          refine (wp_pure [(3, .pointer (some ⟨b1, 0, none⟩)), (91, .bool (p0.Op == 14))] hF (by kernel_rfl) fun fr hF => then_normal ?_)
                          refine (wp_if hF (b := (p0.Op == 14)) rfl (fun hb => ?_) (fun hb => ?_))
                          · replace h := iteT hb h
                            refine wp_seq (region_b [] [true, false, true, true, true, false, true, true, true]
                                [.eq (.pointer (some ⟨b1, 1, none⟩)), .eq (.int .i64 p0.A), .eq (.bool (p0.A == 0)), .eq (.bool (p0.A == 0)), .eq (.pointer (some ⟨b1, 2, none⟩)), .eq (.int .i64 p0.B), .eq (.bool (p0.B == 0)), .eq (.bool ((p0.A == 0) && (p0.B == 0))), .eq (.bool ((p0.A == 0) && (p0.B == 0)))]
                                [(6, .bool ((p0.A == 0) && (p0.B == 0)))] mix hF (by kernel_rfl) (by kernel_rfl) (by kernel_rfl) ⟨Pd.mono_eq, Pd.mono_eq, trivial⟩ (fun hG => ⟨np_loadBox hG hF ty3 rfl rfl (hs.bx 0 rfl) rfl rfl rfl, np_loadBox hG hF ty3 rfl rfl (hs.bx 0 rfl) rfl rfl rfl, trivial⟩) (by kernel_rfl) fun fr w84 hF hE hc => then_normal ?_)
                            have hs := hs.ext hc
                            have hM0 := hM0.ext hc
                            have hs : Sep [] w84 S1 := Sep.pick [] hs (by decide) rfl
                            obtain rfl := Option.some.inj h
                            exact wp_ret (blk_ret (then_ret (ret1 rfl hF rfl ⟨_, rfl, rfl, hM0.chg⟩)))
                          · replace h := iteF hb h
                            have hs : Sep [] w2 S1 := Sep.pick [] hs (by decide) rfl
                            refine (wp_skip ?_)
                            refine blk_normal (then_normal ?_)
                            refine wp_seq (wp_pure [(6, .bool false)] hF (by kernel_rfl) fun fr hF => then_normal ?_)
                            obtain rfl := Option.some.inj h
                            exact wp_ret (ret1 rfl hF rfl ⟨_, rfl, rfl, hM0.chg⟩)
                  · replace h := iteF hb h
                    refine (wp_pure [(3, .pointer (some ⟨b1, 0, none⟩)), (7, .bool ((decide (p0.B ≥ 0)) && (decide (p0.B ≤ p2)))), (37, .int .i64 p0.Op), (74, .bool (p0.Op == 11))] hF (by kernel_rfl) fun fr hF => then_normal ?_)
                    refine (wp_if hF (b := (p0.Op == 11)) rfl (fun hb => ?_) (fun hb => ?_))
                    · replace h := iteT hb h
                      refine wp_seq (region_b [] [true, false, true, true, true, true, true]
                          [.eq (.pointer (some ⟨b1, 1, none⟩)), .eq (.int .i64 p0.A), .eq (.bool (p0.A == 0)), .eq (.bool (p0.A == 0)), .eq (.bool ((decide (p0.B ≥ 0)) && (decide (p0.B ≤ p2)))), .eq (.bool ((p0.A == 0) && ((decide (p0.B ≥ 0)) && (decide (p0.B ≤ p2))))), .eq (.bool ((p0.A == 0) && ((decide (p0.B ≥ 0)) && (decide (p0.B ≤ p2)))))]
                          [(6, .bool ((p0.A == 0) && ((decide (p0.B ≥ 0)) && (decide (p0.B ≤ p2)))))] mix hF (by kernel_rfl) (by kernel_rfl) (by kernel_rfl) ⟨Pd.mono_eq, trivial⟩ (fun hG => ⟨np_loadBox hG hF ty3 rfl rfl (hs.bx 0 rfl) rfl rfl rfl, trivial⟩) (by kernel_rfl) fun fr w85 hF hE hc => then_normal ?_)
                      have hs := hs.ext hc
                      have hM0 := hM0.ext hc
                      have hs : Sep [] w85 S1 := Sep.pick [] hs (by decide) rfl
                      obtain rfl := Option.some.inj h
                      exact wp_ret (blk_ret (then_ret (ret1 rfl hF rfl ⟨_, rfl, rfl, hM0.chg⟩)))
                    · replace h := iteF hb h
                      refine wp_seq (wp_pure [(3, .pointer (some ⟨b1, 0, none⟩)), (7, .bool ((decide (p0.B ≥ 0)) && (decide (p0.B ≤ p2)))), (37, .int .i64 p0.Op), (83, .bool (p0.Op == 10))] hF (by kernel_rfl) fun fr hF => then_normal ?_)
                      refine (wp_if hF (b := (p0.Op == 10)) rfl (fun hb => ?_) (fun hb => ?_))
                      · replace h := iteT hb h
                        obtain ⟨x38, hx38, h⟩ := bindE h
                        refine wp_seq (region_b [] [true, false, false, true, true, true, true]
                            [.eq (.pointer (some ⟨b1, 1, none⟩)), .eq (.int .i64 p0.A), .eq (.bool x38), .eq (.bool x38), .eq (.bool ((decide (p0.B ≥ 0)) && (decide (p0.B ≤ p2)))), .eq (.bool (x38 && ((decide (p0.B ≥ 0)) && (decide (p0.B ≤ p2))))), .eq (.bool (x38 && ((decide (p0.B ≥ 0)) && (decide (p0.B ≤ p2)))))]
                            [(6, .bool (x38 && ((decide (p0.B ≥ 0)) && (decide (p0.B ≤ p2)))))] mix hF (by kernel_rfl) (by kernel_rfl) (by kernel_rfl) ⟨Pd.mono_eq, Pd.mono_eq, trivial⟩ (fun hG => ⟨np_loadBox hG hF ty3 rfl rfl (hs.bx 0 rfl) rfl rfl rfl, np_call [.int .i64 p0.A] hG hF Try.call77 rfl rfl (fun w hC hg => (impl_isReg_ok p0.A hx38).mono fun e w' ⟨v, he, hv, hc⟩ => ⟨v, he, hc, hv⟩), trivial⟩) (by kernel_rfl) fun fr w86 hF hE hc => then_normal ?_)
                        have hs := hs.ext hc
                        have hM0 := hM0.ext hc
                        have hs : Sep [] w86 S1 := Sep.pick [] hs (by decide) rfl
                        obtain rfl := Option.some.inj h
                        exact wp_ret (blk_ret (then_ret (ret1 rfl hF rfl ⟨_, rfl, rfl, hM0.chg⟩)))
                      · replace h := iteF hb h
                        refine wp_seq ?_
                        refine wp_seq (wp_pure [(3, .pointer (some ⟨b1, 0, none⟩)), (37, .int .i64 p0.Op), (91, .bool (p0.Op == 12))] hF (by kernel_rfl) fun fr hF => then_normal ?_)
                        refine (wp_if hF (b := (p0.Op == 12)) rfl (fun hb => ?_) (fun hb => ?_))
                        · replace h := iteT hb h
                          refine (wp_skip (then_normal ?_))
                          refine (wp_if hF (b := (p0.Op == 12)) rfl (fun hb => ?_) (fun hb => ?_))
                          · replace h := iteT hb h
                            refine wp_seq (region_b [] [true, false, true, true, true, false, true, true, true]
                                [.eq (.pointer (some ⟨b1, 1, none⟩)), .eq (.int .i64 p0.A), .eq (.bool (p0.A == 0)), .eq (.bool (p0.A == 0)), .eq (.pointer (some ⟨b1, 2, none⟩)), .eq (.int .i64 p0.B), .eq (.bool (p0.B == 0)), .eq (.bool ((p0.A == 0) && (p0.B == 0))), .eq (.bool ((p0.A == 0) && (p0.B == 0)))]
                                [(6, .bool ((p0.A == 0) && (p0.B == 0)))] mix hF (by kernel_rfl) (by kernel_rfl) (by kernel_rfl) ⟨Pd.mono_eq, Pd.mono_eq, trivial⟩ (fun hG => ⟨np_loadBox hG hF ty3 rfl rfl (hs.bx 0 rfl) rfl rfl rfl, np_loadBox hG hF ty3 rfl rfl (hs.bx 0 rfl) rfl rfl rfl, trivial⟩) (by kernel_rfl) fun fr w87 hF hE hc => then_normal ?_)
                            have hs := hs.ext hc
                            have hM0 := hM0.ext hc
                            have hs : Sep [] w87 S1 := Sep.pick [] hs (by decide) rfl
                            obtain rfl := Option.some.inj h
                            exact wp_ret (blk_ret (then_ret (ret1 rfl hF rfl ⟨_, rfl, rfl, hM0.chg⟩)))
                          · replace h := iteF hb h
                            have hs : Sep [] w2 S1 := Sep.pick [] hs (by decide) rfl
                            refine (wp_skip ?_)
                            refine blk_normal (then_normal ?_)
                            refine wp_seq (wp_pure [(6, .bool false)] hF (by kernel_rfl) fun fr hF => then_normal ?_)
                            obtain rfl := Option.some.inj h
                            exact wp_ret (ret1 rfl hF rfl ⟨_, rfl, rfl, hM0.chg⟩)
                        · replace h := iteF hb h
                          refine (wp_pure [(3, .pointer (some ⟨b1, 0, none⟩)), (91, .bool (p0.Op == 14))] hF (by kernel_rfl) fun fr hF => then_normal ?_)
                          refine (wp_if hF (b := (p0.Op == 14)) rfl (fun hb => ?_) (fun hb => ?_))
                          · replace h := iteT hb h
                            refine wp_seq (region_b [] [true, false, true, true, true, false, true, true, true]
                                [.eq (.pointer (some ⟨b1, 1, none⟩)), .eq (.int .i64 p0.A), .eq (.bool (p0.A == 0)), .eq (.bool (p0.A == 0)), .eq (.pointer (some ⟨b1, 2, none⟩)), .eq (.int .i64 p0.B), .eq (.bool (p0.B == 0)), .eq (.bool ((p0.A == 0) && (p0.B == 0))), .eq (.bool ((p0.A == 0) && (p0.B == 0)))]
                                [(6, .bool ((p0.A == 0) && (p0.B == 0)))] mix hF (by kernel_rfl) (by kernel_rfl) (by kernel_rfl) ⟨Pd.mono_eq, Pd.mono_eq, trivial⟩ (fun hG => ⟨np_loadBox hG hF ty3 rfl rfl (hs.bx 0 rfl) rfl rfl rfl, np_loadBox hG hF ty3 rfl rfl (hs.bx 0 rfl) rfl rfl rfl, trivial⟩) (by kernel_rfl) fun fr w88 hF hE hc => then_normal ?_)
                            have hs := hs.ext hc
                            have hM0 := hM0.ext hc
                            have hs : Sep [] w88 S1 := Sep.pick [] hs (by decide) rfl
                            obtain rfl := Option.some.inj h
                            exact wp_ret (blk_ret (then_ret (ret1 rfl hF rfl ⟨_, rfl, rfl, hM0.chg⟩)))
                          · replace h := iteF hb h
                            have hs : Sep [] w2 S1 := Sep.pick [] hs (by decide) rfl
                            refine (wp_skip ?_)
                            refine blk_normal (then_normal ?_)
                            refine wp_seq (wp_pure [(6, .bool false)] hF (by kernel_rfl) fun fr hF => then_normal ?_)
                            obtain rfl := Option.some.inj h
                            exact wp_ret (ret1 rfl hF rfl ⟨_, rfl, rfl, hM0.chg⟩)
              · replace h := iteF hb h
                refine wp_seq (wp_pure [(3, .pointer (some ⟨b1, 0, none⟩)), (7, .bool ((decide (p0.B ≥ 0)) && (decide (p0.B ≤ p2)))), (37, .int .i64 p0.Op), (61, .bool (p0.Op == 5))] hF (by kernel_rfl) fun fr hF => then_normal ?_)
                refine (wp_if hF (b := (p0.Op == 5)) rfl (fun hb => ?_) (fun hb => ?_))
                · replace h := iteT hb h
                  refine (wp_skip (then_normal ?_))
                  refine (wp_if hF (b := (p0.Op == 5)) rfl (fun hb => ?_) (fun hb => ?_))
                  · replace h := iteT hb h
                    obtain ⟨x39, hx39, h⟩ := bindE h
                    refine wp_seq (region_b [] [true, false, false, true, true, false, true, true, true]
                        [.eq (.pointer (some ⟨b1, 1, none⟩)), .eq (.int .i64 p0.A), .eq (.bool x39), .eq (.bool x39), .eq (.pointer (some ⟨b1, 2, none⟩)), .eq (.int .i64 p0.B), .eq (.bool (p0.B == 0)), .eq (.bool (x39 && (p0.B == 0))), .eq (.bool (x39 && (p0.B == 0)))]
                        [(6, .bool (x39 && (p0.B == 0)))] mix hF (by kernel_rfl) (by kernel_rfl) (by kernel_rfl) ⟨Pd.mono_eq, Pd.mono_eq, Pd.mono_eq, trivial⟩ (fun hG => ⟨np_loadBox hG hF ty3 rfl rfl (hs.bx 0 rfl) rfl rfl rfl, np_call [.int .i64 p0.A] hG hF Try.call77 rfl rfl (fun w hC hg => (impl_isReg_ok p0.A hx39).mono fun e w' ⟨v, he, hv, hc⟩ => ⟨v, he, hc, hv⟩), np_loadBox hG hF ty3 rfl rfl (hs.bx 0 rfl) rfl rfl rfl, trivial⟩) (by kernel_rfl) fun fr w89 hF hE hc => then_normal ?_)
                    have hs := hs.ext hc
                    have hM0 := hM0.ext hc
                    have hs : Sep [] w89 S1 := Sep.pick [] hs (by decide) rfl
                    obtain rfl := Option.some.inj h
                    exact wp_ret (blk_ret (then_ret (ret1 rfl hF rfl ⟨_, rfl, rfl, hM0.chg⟩)))
                  · replace h := iteF hb h
                    refine wp_seq ?_
                    refine wp_seq (wp_pure [(3, .pointer (some ⟨b1, 0, none⟩)), (7, .bool ((decide (p0.B ≥ 0)) && (decide (p0.B ≤ p2)))), (37, .int .i64 p0.Op), (74, .bool (p0.Op == 9))] hF (by kernel_rfl) fun fr hF => then_normal ?_)
                    refine (wp_if hF (b := (p0.Op == 9)) rfl (fun hb => ?_) (fun hb => ?_))
                    · replace h := iteT hb h
                      refine (wp_skip (then_normal ?_))
                      refine (wp_if hF (b := (p0.Op == 9)) rfl (fun hb => ?_) (fun hb => ?_))
                      · replace h := iteT hb h
                        refine wp_seq (region_b [] [true, false, true, true, true, true, true]
                            [.eq (.pointer (some ⟨b1, 1, none⟩)), .eq (.int .i64 p0.A), .eq (.bool (p0.A == 0)), .eq (.bool (p0.A == 0)), .eq (.bool ((decide (p0.B ≥ 0)) && (decide (p0.B ≤ p2)))), .eq (.bool ((p0.A == 0) && ((decide (p0.B ≥ 0)) && (decide (p0.B ≤ p2))))), .eq (.bool ((p0.A == 0) && ((decide (p0.B ≥ 0)) && (decide (p0.B ≤ p2)))))]
                            [(6, .bool ((p0.A == 0) && ((decide (p0.B ≥ 0)) && (decide (p0.B ≤ p2)))))] mix hF (by kernel_rfl) (by kernel_rfl) (by kernel_rfl) ⟨Pd.mono_eq, trivial⟩ (fun hG => ⟨np_loadBox hG hF ty3 rfl rfl (hs.bx 0 rfl) rfl rfl rfl, trivial⟩) (by kernel_rfl) fun fr w90 hF hE hc => then_normal ?_)
                        have hs := hs.ext hc
                        have hM0 := hM0.ext hc
                        have hs : Sep [] w90 S1 := Sep.pick [] hs (by decide) rfl
                        obtain rfl := Option.some.inj h
                        exact wp_ret (blk_ret (then_ret (ret1 rfl hF rfl ⟨_, rfl, rfl, hM0.chg⟩)))
                      · replace h := iteF hb h
                        refine wp_seq (wp_pure [(3, .pointer (some ⟨b1, 0, none⟩)), (7, .bool ((decide (p0.B ≥ 0)) && (decide (p0.B ≤ p2)))), (37, .int .i64 p0.Op), (83, .bool (p0.Op == 10))] hF (by kernel_rfl) fun fr hF => then_normal ?_)
                        refine (wp_if hF (b := (p0.Op == 10)) rfl (fun hb => ?_) (fun hb => ?_))
                        · replace h := iteT hb h
                          obtain ⟨x40, hx40, h⟩ := bindE h
                          refine wp_seq (region_b [] [true, false, false, true, true, true, true]
                              [.eq (.pointer (some ⟨b1, 1, none⟩)), .eq (.int .i64 p0.A), .eq (.bool x40), .eq (.bool x40), .eq (.bool ((decide (p0.B ≥ 0)) && (decide (p0.B ≤ p2)))), .eq (.bool (x40 && ((decide (p0.B ≥ 0)) && (decide (p0.B ≤ p2))))), .eq (.bool (x40 && ((decide (p0.B ≥ 0)) && (decide (p0.B ≤ p2)))))]
                              [(6, .bool (x40 && ((decide (p0.B ≥ 0)) && (decide (p0.B ≤ p2)))))] mix hF (by kernel_rfl) (by kernel_rfl) (by kernel_rfl) ⟨Pd.mono_eq, Pd.mono_eq, trivial⟩ (fun hG => ⟨np_loadBox hG hF ty3 rfl rfl (hs.bx 0 rfl) rfl rfl rfl, np_call [.int .i64 p0.A] hG hF Try.call77 rfl rfl (fun w hC hg => (impl_isReg_ok p0.A hx40).mono fun e w' ⟨v, he, hv, hc⟩ => ⟨v, he, hc, hv⟩), trivial⟩) (by kernel_rfl) fun fr w91 hF hE hc => then_normal ?_)
                          have hs := hs.ext hc
                          have hM0 := hM0.ext hc
                          have hs : Sep [] w91 S1 := Sep.pick [] hs (by decide) rfl
                          obtain rfl := Option.some.inj h
                          exact wp_ret (blk_ret (then_ret (ret1 rfl hF rfl ⟨_, rfl, rfl, hM0.chg⟩)))
                        · replace h := iteF hb h
                          refine wp_seq ?_
                          refine wp_seq (wp_pure [(3, .pointer (some ⟨b1, 0, none⟩)), (37, .int .i64 p0.Op), (91, .bool (p0.Op == 12))] hF (by kernel_rfl) fun fr hF => then_normal ?_)
                          refine (wp_if hF (b := (p0.Op == 12)) rfl (fun hb => ?_) (fun hb => ?_))
                          · replace h := iteT hb h
                            refine (wp_skip (then_normal ?_))
                            refine (wp_if hF (b := (p0.Op == 12)) rfl (fun hb => ?_) (fun hb => ?_))
                            · replace h := iteT hb h
                              refine wp_seq (region_b [] [true, false, true, true, true, false, true, true, true]
                                  [.eq (.pointer (some ⟨b1, 1, none⟩)), .eq (.int .i64 p0.A), .eq (.bool (p0.A == 0)), .eq (.bool (p0.A == 0)), .eq (.pointer (some ⟨b1, 2, none⟩)), .eq (.int .i64 p0.B), .eq (.bool (p0.B == 0)), .eq (.bool ((p0.A == 0) && (p0.B == 0))), .eq (.bool ((p0.A == 0) && (p0.B == 0)))]
                                  [(6, .bool ((p0.A == 0) && (p0.B == 0)))] mix hF (by kernel_rfl) (by kernel_rfl) (by kernel_rfl) ⟨Pd.mono_eq, Pd.mono_eq, trivial⟩ (fun hG => ⟨np_loadBox hG hF ty3 rfl rfl (hs.bx 0 rfl) rfl rfl rfl, np_loadBox hG hF ty3 rfl rfl (hs.bx 0 rfl) rfl rfl rfl, trivial⟩) (by kernel_rfl) fun fr w92 hF hE hc => then_normal ?_)
                              have hs := hs.ext hc
                              have hM0 := hM0.ext hc
                              have hs : Sep [] w92 S1 := Sep.pick [] hs (by decide) rfl
                              obtain rfl := Option.some.inj h
                              exact wp_ret (blk_ret (then_ret (ret1 rfl hF rfl ⟨_, rfl, rfl, hM0.chg⟩)))
                            · replace h := iteF hb h
                              have hs : Sep [] w2 S1 := Sep.pick [] hs (by decide) rfl
                              refine (wp_skip ?_)
                              refine blk_normal (then_normal ?_)
                              refine wp_seq (wp_pure [(6, .bool false)] hF (by kernel_rfl) fun fr hF => then_normal ?_)
                              obtain rfl := Option.some.inj h
                              exact wp_ret (ret1 rfl hF rfl ⟨_, rfl, rfl, hM0.chg⟩)
                          · replace h := iteF hb h
                            refine (wp_pure [(3, .pointer (some ⟨b1, 0, none⟩)), (91, .bool (p0.Op == 14))] hF (by kernel_rfl) fun fr hF => then_normal ?_)
                            refine (wp_if hF (b := (p0.Op == 14)) rfl (fun hb => ?_) (fun hb => ?_))
                            · replace h := iteT hb h
                              refine wp_seq (region_b [] [true, false, true, true, true, false, true, true, true]
                                  [.eq (.pointer (some ⟨b1, 1, none⟩)), .eq (.int .i64 p0.A), .eq (.bool (p0.A == 0)), .eq (.bool (p0.A == 0)), .eq (.pointer (some ⟨b1, 2, none⟩)), .eq (.int .i64 p0.B), .eq (.bool (p0.B == 0)), .eq (.bool ((p0.A == 0) && (p0.B == 0))), .eq (.bool ((p0.A == 0) && (p0.B == 0)))]
                                  [(6, .bool ((p0.A == 0) && (p0.B == 0)))] mix hF (by kernel_rfl) (by kernel_rfl) (by kernel_rfl) ⟨Pd.mono_eq, Pd.mono_eq, trivial⟩ (fun hG => ⟨np_loadBox hG hF ty3 rfl rfl (hs.bx 0 rfl) rfl rfl rfl, np_loadBox hG hF ty3 rfl rfl (hs.bx 0 rfl) rfl rfl rfl, trivial⟩) (by kernel_rfl) fun fr w93 hF hE hc => then_normal ?_)
                              have hs := hs.ext hc
                              have hM0 := hM0.ext hc
                              have hs : Sep [] w93 S1 := Sep.pick [] hs (by decide) rfl
                              obtain rfl := Option.some.inj h
                              exact wp_ret (blk_ret (then_ret (ret1 rfl hF rfl ⟨_, rfl, rfl, hM0.chg⟩)))
                            · replace h := iteF hb h
                              have hs : Sep [] w2 S1 := Sep.pick [] hs (by decide) rfl
                              refine (wp_skip ?_)
                              refine blk_normal (then_normal ?_)
                              refine wp_seq (wp_pure [(6, .bool false)] hF (by kernel_rfl) fun fr hF => then_normal ?_)
                              obtain rfl := Option.some.inj h
                              exact wp_ret (ret1 rfl hF rfl ⟨_, rfl, rfl, hM0.chg⟩)
                    · replace h := iteF hb h
                      refine (wp_pure [(3, .pointer (some ⟨b1, 0, none⟩)), (7, .bool ((decide (p0.B ≥ 0)) && (decide (p0.B ≤ p2)))), (37, .int .i64 p0.Op), (74, .bool (p0.Op == 11))] hF (by kernel_rfl) fun fr hF => then_normal ?_)
                      refine (wp_if hF (b := (p0.Op == 11)) rfl (fun hb => ?_) (fun hb => ?_))
                      · replace h := iteT hb h
                        refine wp_seq (region_b [] [true, false, true, true, true, true, true]
                            [.eq (.pointer (some ⟨b1, 1, none⟩)), .eq (.int .i64 p0.A), .eq (.bool (p0.A == 0)), .eq (.bool (p0.A == 0)), .eq (.bool ((decide (p0.B ≥ 0)) && (decide (p0.B ≤ p2)))), .eq (.bool ((p0.A == 0) && ((decide (p0.B ≥ 0)) && (decide (p0.B ≤ p2))))), .eq (.bool ((p0.A == 0) && ((decide (p0.B ≥ 0)) && (decide (p0.B ≤ p2)))))]
                            [(6, .bool ((p0.A == 0) && ((decide (p0.B ≥ 0)) && (decide (p0.B ≤ p2)))))] mix hF (by kernel_rfl) (by kernel_rfl) (by kernel_rfl) ⟨Pd.mono_eq, trivial⟩ (fun hG => ⟨np_loadBox hG hF ty3 rfl rfl (hs.bx 0 rfl) rfl rfl rfl, trivial⟩) (by kernel_rfl) fun fr w94 hF hE hc => then_normal ?_)
                        have hs := hs.ext hc
                        have hM0 := hM0.ext hc
                        have hs : Sep [] w94 S1 := Sep.pick [] hs (by decide) rfl
                        obtain rfl := Option.some.inj h
                        exact wp_ret (blk_ret (then_ret (ret1 rfl hF rfl ⟨_, rfl, rfl, hM0.chg⟩)))
                      · replace h := iteF hb h
                        refine wp_seq (wp_pure [(3, .pointer (some ⟨b1, 0, none⟩)), (7, .bool ((decide (p0.B ≥ 0)) && (decide (p0.B ≤ p2)))), (37, .int .i64 p0.Op), (83, .bool (p0.Op == 10))] hF (by kernel_rfl) fun fr hF => then_normal ?_)
                        refine (wp_if hF (b := (p0.Op == 10)) rfl (fun hb => ?_) (fun hb => ?_))
                        · replace h := iteT hb h
                          obtain ⟨x41, hx41, h⟩ := bindE h
                          refine wp_seq (region_b [] [true, false, false, true, true, true, true]
                              [.eq (.pointer (some ⟨b1, 1, none⟩)), .eq (.int .i64 p0.A), .eq (.bool x41), .eq (.bool x41), .eq (.bool ((decide (p0.B ≥ 0)) && (decide (p0.B ≤ p2)))), .eq (.bool (x41 && ((decide (p0.B ≥ 0)) && (decide (p0.B ≤ p2))))), .eq (.bool (x41 && ((decide (p0.B ≥ 0)) && (decide (p0.B ≤ p2)))))]
                              [(6, .bool (x41 && ((decide (p0.B ≥ 0)) && (decide (p0.B ≤ p2)))))] mix hF (by kernel_rfl) (by kernel_rfl) (by kernel_rfl) ⟨Pd.mono_eq, Pd.mono_eq, trivial⟩ (fun hG => ⟨np_loadBox hG hF ty3 rfl rfl (hs.bx 0 rfl) rfl rfl rfl, np_call [.int .i64 p0.A] hG hF Try.call77 rfl rfl (fun w hC hg => (impl_isReg_ok p0.A hx41).mono fun e w' ⟨v, he, hv, hc⟩ => ⟨v, he, hc, hv⟩), trivial⟩) (by kernel_rfl) fun fr w95 hF hE hc => then_normal ?_)
                          have hs := hs.ext hc
                          have hM0 := hM0.ext hc
                          have hs : Sep [] w95 S1 := Sep.pick [] hs (by decide) rfl
                          obtain rfl := Option.some.inj h
                          exact wp_ret (blk_ret (then_ret (ret1 rfl hF rfl ⟨_, rfl, rfl, hM0.chg⟩)))
                        · replace h := iteF hb h
                          refine wp_seq ?_
                          refine wp_seq (wp_pure [(3, .pointer (some ⟨b1, 0, none⟩)), (37, .int .i64 p0.Op), (91, .bool (p0.Op == 12))] hF (by kernel_rfl) fun fr hF => then_normal ?_)
                          refine (wp_if hF (b := (p0.Op == 12)) rfl (fun hb => ?_) (fun hb => ?_))
                          · replace h := iteT hb h
                            refine (wp_skip (then_normal ?_))
                            refine (wp_if hF (b := (p0.Op == 12)) rfl (fun hb => ?_) (fun hb => ?_))
                            · replace h := iteT hb h
                              refine wp_seq (region_b [] [true, false, true, true, true, false, true, true, true]
                                  [.eq (.pointer (some ⟨b1, 1, none⟩)), .eq (.int .i64 p0.A), .eq (.bool (p0.A == 0)), .eq (.bool (p0.A == 0)), .eq (.pointer (some ⟨b1, 2, none⟩)), .eq (.int .i64 p0.B), .eq (.bool (p0.B == 0)), .eq (.bool ((p0.A == 0) && (p0.B == 0))), .eq (.bool ((p0.A == 0) && (p0.B == 0)))]
                                  [(6, .bool ((p0.A == 0) && (p0.B == 0)))] mix hF (by kernel_rfl) (by kernel_rfl) (by kernel_rfl) ⟨Pd.mono_eq, Pd.mono_eq, trivial⟩ (fun hG => ⟨np_loadBox hG hF ty3 rfl rfl (hs.bx 0 rfl) rfl rfl rfl, np_loadBox hG hF ty3 rfl rfl (hs.bx 0 rfl) rfl rfl rfl, trivial⟩) (by kernel_rfl) fun fr w96 hF hE hc => then_normal ?_)
                              have hs := hs.ext hc
                              have hM0 := hM0.ext hc
                              have hs : Sep [] w96 S1 := Sep.pick [] hs (by decide) rfl
                              obtain rfl := Option.some.inj h
                              exact wp_ret (blk_ret (then_ret (ret1 rfl hF rfl ⟨_, rfl, rfl, hM0.chg⟩)))
                            · replace h := iteF hb h
                              have hs : Sep [] w2 S1 := Sep.pick [] hs (by decide) rfl
                              refine (wp_skip ?_)
                              refine blk_normal (then_normal ?_)
                              refine wp_seq (wp_pure [(6, .bool false)] hF (by kernel_rfl) fun fr hF => then_normal ?_)
                              obtain rfl := Option.some.inj h
                              exact wp_ret (ret1 rfl hF rfl ⟨_, rfl, rfl, hM0.chg⟩)
                          · replace h := iteF hb h
                            refine (wp_pure [(3, .pointer (some ⟨b1, 0, none⟩)), (91, .bool (p0.Op == 14))] hF (by kernel_rfl) fun fr hF => then_normal ?_)
                            refine (wp_if hF (b := (p0.Op == 14)) rfl (fun hb => ?_) (fun hb => ?_))
                            · replace h := iteT hb h
                              refine wp_seq (region_b [] [true, false, true, true, true, false, true, true, true]
                                  [.eq (.pointer (some ⟨b1, 1, none⟩)), .eq (.int .i64 p0.A), .eq (.bool (p0.A == 0)), .eq (.bool (p0.A == 0)), .eq (.pointer (some ⟨b1, 2, none⟩)), .eq (.int .i64 p0.B), .eq (.bool (p0.B == 0)), .eq (.bool ((p0.A == 0) && (p0.B == 0))), .eq (.bool ((p0.A == 0) && (p0.B == 0)))]
                                  [(6, .bool ((p0.A == 0) && (p0.B == 0)))] mix hF (by kernel_rfl) (by kernel_rfl) (by kernel_rfl) ⟨Pd.mono_eq, Pd.mono_eq, trivial⟩ (fun hG => ⟨np_loadBox hG hF ty3 rfl rfl (hs.bx 0 rfl) rfl rfl rfl, np_loadBox hG hF ty3 rfl rfl (hs.bx 0 rfl) rfl rfl rfl, trivial⟩) (by kernel_rfl) fun fr w97 hF hE hc => then_normal ?_)
                              have hs := hs.ext hc
                              have hM0 := hM0.ext hc
                              have hs : Sep [] w97 S1 := Sep.pick [] hs (by decide) rfl
                              obtain rfl := Option.some.inj h
                              exact wp_ret (blk_ret (then_ret (ret1 rfl hF rfl ⟨_, rfl, rfl, hM0.chg⟩)))
                            · replace h := iteF hb h
                              have hs : Sep [] w2 S1 := Sep.pick [] hs (by decide) rfl
                              refine (wp_skip ?_)
                              refine blk_normal (then_normal ?_)
                              refine wp_seq (wp_pure [(6, .bool false)] hF (by kernel_rfl) fun fr hF => then_normal ?_)
                              obtain rfl := Option.some.inj h
                              exact wp_ret (ret1 rfl hF rfl ⟨_, rfl, rfl, hM0.chg⟩)
                · replace h := iteF hb h
                  refine wp_seq (wp_pure [(3, .pointer (some ⟨b1, 0, none⟩)), (7, .bool ((decide (p0.B ≥ 0)) && (decide (p0.B ≤ p2)))), (37, .int .i64 p0.Op), (61, .bool (p0.Op == 6))] hF (by kernel_rfl) fun fr hF => then_normal ?_)
                  refine (wp_if hF (b := (p0.Op == 6)) rfl (fun hb => ?_) (fun hb => ?_))
                  · replace h := iteT hb h
                    refine (wp_skip (then_normal ?_))
                    refine (wp_if hF (b := (p0.Op == 6)) rfl (fun hb => ?_) (fun hb => ?_))
                    · replace h := iteT hb h
                      obtain ⟨x42, hx42, h⟩ := bindE h
                      refine wp_seq (region_b [] [true, false, false, true, true, false, true, true, true]
                          [.eq (.pointer (some ⟨b1, 1, none⟩)), .eq (.int .i64 p0.A), .eq (.bool x42), .eq (.bool x42), .eq (.pointer (some ⟨b1, 2, none⟩)), .eq (.int .i64 p0.B), .eq (.bool (p0.B == 0)), .eq (.bool (x42 && (p0.B == 0))), .eq (.bool (x42 && (p0.B == 0)))]
                          [(6, .bool (x42 && (p0.B == 0)))] mix hF (by kernel_rfl) (by kernel_rfl) (by kernel_rfl) ⟨Pd.mono_eq, Pd.mono_eq, Pd.mono_eq, trivial⟩ (fun hG => ⟨np_loadBox hG hF ty3 rfl rfl (hs.bx 0 rfl) rfl rfl rfl, np_call [.int .i64 p0.A] hG hF Try.call77 rfl rfl (fun w hC hg => (impl_isReg_ok p0.A hx42).mono fun e w' ⟨v, he, hv, hc⟩ => ⟨v, he, hc, hv⟩), np_loadBox hG hF ty3 rfl rfl (hs.bx 0 rfl) rfl rfl rfl, trivial⟩) (by kernel_rfl) fun fr w98 hF hE hc => then_normal ?_)
                      have hs := hs.ext hc
                      have hM0 := hM0.ext hc
                      have hs : Sep [] w98 S1 := Sep.pick [] hs (by decide) rfl
                      obtain rfl := Option.some.inj h
                      exact wp_ret (blk_ret (then_ret (ret1 rfl hF rfl ⟨_, rfl, rfl, hM0.chg⟩)))
                    · replace h := iteF hb h
                      refine wp_seq ?_
                      refine wp_seq (wp_pure [(3, .pointer (some ⟨b1, 0, none⟩)), (7, .bool ((decide (p0.B ≥ 0)) && (decide (p0.B ≤ p2)))), (37, .int .i64 p0.Op), (74, .bool (p0.Op == 9))] hF (by kernel_rfl) fun fr hF => then_normal ?_)
                      refine (wp_if hF (b := (p0.Op == 9)) rfl (fun hb => ?_) (fun hb => ?_))
                      · replace h := iteT hb h
                        refine (wp_skip (then_normal ?_))
                        refine (wp_if hF (b := (p0.Op == 9)) rfl (fun hb => ?_) (fun hb => ?_))
                        · replace h := iteT hb h
                          refine wp_seq (region_b [] [true, false, true, true, true, true, true]
                              [.eq (.pointer (some ⟨b1, 1, none⟩)), .eq (.int .i64 p0.A), .eq (.bool (p0.A == 0)), .eq (.bool (p0.A == 0)), .eq (.bool ((decide (p0.B ≥ 0)) && (decide (p0.B ≤ p2)))), .eq (.bool ((p0.A == 0) && ((decide (p0.B ≥ 0)) && (decide (p0.B ≤ p2))))), .eq (.bool ((p0.A == 0) && ((decide (p0.B ≥ 0)) && (decide (p0.B ≤ p2)))))]
                              [(6, .bool ((p0.A == 0) && ((decide (p0.B ≥ 0)) && (decide (p0.B ≤ p2)))))] mix hF (by kernel_rfl) (by kernel_rfl) (by kernel_rfl) ⟨Pd.mono_eq, trivial⟩ (fun hG => ⟨np_loadBox hG hF ty3 rfl rfl (hs.bx 0 rfl) rfl rfl rfl, trivial⟩) (by kernel_rfl) fun fr w99 hF hE hc => then_normal ?_)
                          have hs := hs.ext hc
                          have hM0 := hM0.ext hc
                          have hs : Sep [] w99 S1 := Sep.pick [] hs (by decide) rfl
                          obtain rfl := Option.some.inj h
                          exact wp_ret (blk_ret (then_ret (ret1 rfl hF rfl ⟨_, rfl, rfl, hM0.chg⟩)))
                        · replace h := iteF hb h
                          refine wp_seq (wp_pure [(3, .pointer (some ⟨b1, 0, none⟩)), (7, .bool ((decide (p0.B ≥ 0)) && (decide (p0.B ≤ p2)))), (37, .int .i64 p0.Op), (83, .bool (p0.Op == 10))] hF (by kernel_rfl) fun fr hF => then_normal ?_)
                          refine (wp_if hF (b := (p0.Op == 10)) rfl (fun hb => ?_) (fun hb => ?_))
                          · replace h := iteT hb h
                            obtain ⟨x43, hx43, h⟩ := bindE h
                            refine wp_seq (region_b [] [true, false, false, true, true, true, true]
                                [.eq (.pointer (some ⟨b1, 1, none⟩)), .eq (.int .i64 p0.A), .eq (.bool x43), .eq (.bool x43), .eq (.bool ((decide (p0.B ≥ 0)) && (decide (p0.B ≤ p2)))), .eq (.bool (x43 && ((decide (p0.B ≥ 0)) && (decide (p0.B ≤ p2))))), .eq (.bool (x43 && ((decide (p0.B ≥ 0)) && (decide (p0.B ≤ p2)))))]
                                [(6, .bool (x43 && ((decide (p0.B ≥ 0)) && (decide (p0.B ≤ p2)))))] mix hF (by kernel_rfl) (by kernel_rfl) (by kernel_rfl) ⟨Pd.mono_eq, Pd.mono_eq, trivial⟩ (fun hG => ⟨np_loadBox hG hF ty3 rfl rfl (hs.bx 0 rfl) rfl rfl rfl, np_call [.int .i64 p0.A] hG hF Try.call77 rfl rfl (fun w hC hg => (impl_isReg_ok p0.A hx43).mono fun e w' ⟨v, he, hv, hc⟩ => ⟨v, he, hc, hv⟩), trivial⟩) (by kernel_rfl) fun fr w100 hF hE hc => then_normal ?_)
                            have hs := hs.ext hc
                            have hM0 := hM0.ext hc
                            have hs : Sep [] w100 S1 := Sep.pick [] hs (by decide) rfl
                            obtain rfl := Option.some.inj h
                            exact wp_ret (blk_ret (then_ret (ret1 rfl hF rfl ⟨_, rfl, rfl, hM0.chg⟩)))
                          · replace h := iteF hb h
                            refine wp_seq ?_
                            refine wp_seq (wp_pure [(3, .pointer (some ⟨b1, 0, none⟩)), (37, .int .i64 p0.Op), (91, .bool (p0.Op == 12))] hF (by kernel_rfl) fun fr hF => then_normal ?_)
                            refine (wp_if hF (b := (p0.Op == 12)) rfl (fun hb => ?_) (fun hb => ?_))
                            · replace h := iteT hb h
                              refine (wp_skip (then_normal ?_))
                              refine (wp_if hF (b := (p0.Op == 12)) rfl (fun hb => ?_) (fun hb => ?_))
                              · replace h := iteT hb h
                                refine wp_seq (region_b [] [true, false, true, true, true, false, true, true, true]
                                    [.eq (.pointer (some ⟨b1, 1, none⟩)), .eq (.int .i64 p0.A), .eq (.bool (p0.A == 0)), .eq (.bool (p0.A == 0)), .eq (.pointer (some ⟨b1, 2, none⟩)), .eq (.int .i64 p0.B), .eq (.bool (p0.B == 0)), .eq (.bool ((p0.A == 0) && (p0.B == 0))), .eq (.bool ((p0.A == 0) && (p0.B == 0)))]
                                    [(6, .bool ((p0.A == 0) && (p0.B == 0)))] mix hF (by kernel_rfl) (by kernel_rfl) (by kernel_rfl) ⟨Pd.mono_eq, Pd.mono_eq, trivial⟩ (fun hG => ⟨np_loadBox hG hF ty3 rfl rfl (hs.bx 0 rfl) rfl rfl rfl, np_loadBox hG hF ty3 rfl rfl (hs.bx 0 rfl) rfl rfl rfl, trivial⟩) (by kernel_rfl) fun fr w101 hF hE hc => then_normal ?_)
                                have hs := hs.ext hc
                                have hM0 := hM0.ext hc
                                have hs : Sep [] w101 S1 := Sep.pick [] hs (by decide) rfl
                                obtain rfl := Option.some.inj h
                                exact wp_ret (blk_ret (then_ret (ret1 rfl hF rfl ⟨_, rfl, rfl, hM0.chg⟩)))
                              · replace h := iteF hb h
                                have hs : Sep [] w2 S1 := Sep.pick [] hs (by decide) rfl
                                refine (wp_skip ?_)
                                refine blk_normal (then_normal ?_)
                                refine wp_seq (wp_pure [(6, .bool false)] hF (by kernel_rfl) fun fr hF => then_normal ?_)
                                obtain rfl := Option.some.inj h
                                exact wp_ret (ret1 rfl hF rfl ⟨_, rfl, rfl, hM0.chg⟩)
                            · replace h := iteF hb h
                              refine (wp_pure [(3, .pointer (some ⟨b1, 0, none⟩)), (91, .bool (p0.Op == 14))] hF (by kernel_rfl) fun fr hF => then_normal ?_)
                              refine (wp_if hF (b := (p0.Op == 14)) rfl (fun hb => ?_) (fun hb => ?_))
                              · replace h := iteT hb h
                                refine wp_seq (region_b [] [true, false, true, true, true, false, true, true, true]
                                    [.eq (.pointer (some ⟨b1, 1, none⟩)), .eq (.int .i64 p0.A), .eq (.bool (p0.A == 0)), .eq (.bool (p0.A == 0)), .eq (.pointer (some ⟨b1, 2, none⟩)), .eq (.int .i64 p0.B), .eq (.bool (p0.B == 0)), .eq (.bool ((p0.A == 0) && (p0.B == 0))), .eq (.bool ((p0.A == 0) && (p0.B == 0)))]
                                    [(6, .bool ((p0.A == 0) && (p0.B == 0)))] mix hF (by kernel_rfl) (by kernel_rfl) (by kernel_rfl) ⟨Pd.mono_eq, Pd.mono_eq, trivial⟩ (fun hG => ⟨np_loadBox hG hF ty3 rfl rfl (hs.bx 0 rfl) rfl rfl rfl, np_loadBox hG hF ty3 rfl rfl (hs.bx 0 rfl) rfl rfl rfl, trivial⟩) (by kernel_rfl) fun fr w102 hF hE hc => then_normal ?_)
                                have hs := hs.ext hc
                                have hM0 := hM0.ext hc
                                have hs : Sep [] w102 S1 := Sep.pick [] hs (by decide) rfl
                                obtain rfl := Option.some.inj h
                                exact wp_ret (blk_ret (then_ret (ret1 rfl hF rfl ⟨_, rfl, rfl, hM0.chg⟩)))
                              · replace h := iteF hb h
                                have hs : Sep [] w2 S1 := Sep.pick [] hs (by decide) rfl
                                refine (wp_skip ?_)
                                refine blk_normal (then_normal ?_)
                                refine wp_seq (wp_pure [(6, .bool false)] hF (by kernel_rfl) fun fr hF => then_normal ?_)
                                obtain rfl := Option.some.inj h
                                exact wp_ret (ret1 rfl hF rfl ⟨_, rfl, rfl, hM0.chg⟩)
                      · replace h := iteF hb h
                        refine (wp_pure [(3, .pointer (some ⟨b1, 0, none⟩)), (7, .bool ((decide (p0.B ≥ 0)) && (decide (p0.B ≤ p2)))), (37, .int .i64 p0.Op), (74, .bool (p0.Op == 11))] hF (by kernel_rfl) fun fr hF => then_normal ?_)
                        refine (wp_if hF (b := (p0.Op == 11)) rfl (fun hb => ?_) (fun hb => ?_))
                        · replace h := iteT hb h
                          refine wp_seq (region_b [] [true, false, true, true, true, true, true]
                              [.eq (.pointer (some ⟨b1, 1, none⟩)), .eq (.int .i64 p0.A), .eq (.bool (p0.A == 0)), .eq (.bool (p0.A == 0)), .eq (.bool ((decide (p0.B ≥ 0)) && (decide (p0.B ≤ p2)))), .eq (.bool ((p0.A == 0) && ((decide (p0.B ≥ 0)) && (decide (p0.B ≤ p2))))), .eq (.bool ((p0.A == 0) && ((decide (p0.B ≥ 0)) && (decide (p0.B ≤ p2)))))]
                              [(6, .bool ((p0.A == 0) && ((decide (p0.B ≥ 0)) && (decide (p0.B ≤ p2)))))] mix hF (by kernel_rfl) (by kernel_rfl) (by kernel_rfl) ⟨Pd.mono_eq, trivial⟩ (fun hG => ⟨np_loadBox hG hF ty3 rfl rfl (hs.bx 0 rfl) rfl rfl rfl, trivial⟩) (by kernel_rfl) fun fr w103 hF hE hc => then_normal ?_)
                          have hs := hs.ext hc
                          have hM0 := hM0.ext hc
                          have hs : Sep [] w103 S1 := Sep.pick [] hs (by decide) rfl
                          obtain rfl := Option.some.inj h
                          exact wp_ret (blk_ret (then_ret (ret1 rfl hF rfl ⟨_, rfl, rfl, hM0.chg⟩)))
                        · replace h := iteF hb h
                          refine wp_seq (wp_pure [(3, .pointer (some ⟨b1, 0, none⟩)), (7, .bool ((decide (p0.B ≥ 0)) && (decide (p0.B ≤ p2)))), (37, .int .i64 p0.Op), (83, .bool (p0.Op == 10))] hF (by kernel_rfl) fun fr hF => then_normal ?_)
                          refine (wp_if hF (b := (p0.Op == 10)) rfl (fun hb => ?_) (fun hb => ?_))
                          · replace h := iteT hb h
                            obtain ⟨x44, hx44, h⟩ := bindE h
                            refine wp_seq (region_b [] [true, false, false, true, true, true, true]
                                [.eq (.pointer (some ⟨b1, 1, none⟩)), .eq (.int .i64 p0.A), .eq (.bool x44), .eq (.bool x44), .eq (.bool ((decide (p0.B ≥ 0)) && (decide (p0.B ≤ p2)))), .eq (.bool (x44 && ((decide (p0.B ≥ 0)) && (decide (p0.B ≤ p2))))), .eq (.bool (x44 && ((decide (p0.B ≥ 0)) && (decide (p0.B ≤ p2)))))]
                                [(6, .bool (x44 && ((decide (p0.B ≥ 0)) && (decide (p0.B ≤ p2)))))] mix hF (by kernel_rfl) (by kernel_rfl) (by kernel_rfl) ⟨Pd.mono_eq, Pd.mono_eq, trivial⟩ (fun hG => ⟨np_loadBox hG hF ty3 rfl rfl (hs.bx 0 rfl) rfl rfl rfl, np_call [.int .i64 p0.A] hG hF Try.call77 rfl rfl (fun w hC hg => (impl_isReg_ok p0.A hx44).mono fun e w' ⟨v, he, hv, hc⟩ => ⟨v, he, hc, hv⟩), trivial⟩) (by kernel_rfl) fun fr w104 hF hE hc => then_normal ?_)
                            have hs := hs.ext hc
                            have hM0 := hM0.ext hc
                            have hs : Sep [] w104 S1 := Sep.pick [] hs (by decide) rfl
                            obtain rfl := Option.some.inj h
                            exact wp_ret (blk_ret (then_ret (ret1 rfl hF rfl ⟨_, rfl, rfl, hM0.chg⟩)))
                          · replace h := iteF hb h
                            refine wp_seq ?_
                            refine wp_seq (wp_pure [(3, .pointer (some ⟨b1, 0, none⟩)), (37, .int .i64 p0.Op), (91, .bool (p0.Op == 12))] hF (by kernel_rfl) fun fr hF => then_normal ?_)
                            refine (wp_if hF (b := (p0.Op == 12)) rfl (fun hb => ?_) (fun hb => ?_))
                            · replace h := iteT hb h
                              refine (wp_skip (then_normal ?_))
                              refine (wp_if hF (b := (p0.Op == 12)) rfl (fun hb => ?_) (fun hb => ?_))
                              · replace h := iteT hb h
                                refine wp_seq (region_b [] [true, false, true, true, true, false, true, true, true]
                                    [.eq (.pointer (some ⟨b1, 1, none⟩)), .eq (.int .i64 p0.A), .eq (.bool (p0.A == 0)), .eq (.bool (p0.A == 0)), .eq (.pointer (some ⟨b1, 2, none⟩)), .eq (.int .i64 p0.B), .eq (.bool (p0.B == 0)), .eq (.bool ((p0.A == 0) && (p0.B == 0))), .eq (.bool ((p0.A == 0) && (p0.B == 0)))]
                                    [(6, .bool ((p0.A == 0) && (p0.B == 0)))] mix hF (by kernel_rfl) (by kernel_rfl) (by kernel_rfl) ⟨Pd.mono_eq, Pd.mono_eq, trivial⟩ (fun hG => ⟨np_loadBox hG hF ty3 rfl rfl (hs.bx 0 rfl) rfl rfl rfl, np_loadBox hG hF ty3 rfl rfl (hs.bx 0 rfl) rfl rfl rfl, trivial⟩) (by kernel_rfl) fun fr w105 hF hE hc => then_normal ?_)
                                have hs := hs.ext hc
                                have hM0 := hM0.ext hc
                                have hs : Sep [] w105 S1 := Sep.pick [] hs (by decide) rfl
                                obtain rfl := Option.some.inj h
                                exact wp_ret (blk_ret (then_ret (ret1 rfl hF rfl ⟨_, rfl, rfl, hM0.chg⟩)))
                              · replace h := iteF hb h
                                have hs : Sep [] w2 S1 := Sep.pick [] hs (by decide) rfl
                                refine (wp_skip ?_)
                                refine blk_normal (then_normal ?_)
                                refine wp_seq (wp_pure [(6, .bool false)] hF (by kernel_rfl) fun fr hF => then_normal ?_)
                                obtain rfl := Option.some.inj h
                                exact wp_ret (ret1 rfl hF rfl ⟨_, rfl, rfl, hM0.chg⟩)
                            · replace h := iteF hb h
                              refine (wp_pure [(3, .pointer (some ⟨b1, 0, none⟩)), (91, .bool (p0.Op == 14))] hF (by kernel_rfl) fun fr hF => then_normal ?_)
                              refine (wp_if hF (b := (p0.Op == 14)) rfl (fun hb => ?_) (fun hb => ?_))
                              · replace h := iteT hb h
                                refine wp_seq (region_b [] [true, false, true, true, true, false, true, true, true]
                                    [.eq (.pointer (some ⟨b1, 1, none⟩)), .eq (.int .i64 p0.A), .eq (.bool (p0.A == 0)), .eq (.bool (p0.A == 0)), .eq (.pointer (some ⟨b1, 2, none⟩)), .eq (.int .i64 p0.B), .eq (.bool (p0.B == 0)), .eq (.bool ((p0.A == 0) && (p0.B == 0))), .eq (.bool ((p0.A == 0) && (p0.B == 0)))]
                                    [(6, .bool ((p0.A == 0) && (p0.B == 0)))] mix hF (by kernel_rfl) (by kernel_rfl) (by kernel_rfl) ⟨Pd.mono_eq, Pd.mono_eq, trivial⟩ (fun hG => ⟨np_loadBox hG hF ty3 rfl rfl (hs.bx 0 rfl) rfl rfl rfl, np_loadBox hG hF ty3 rfl rfl (hs.bx 0 rfl) rfl rfl rfl, trivial⟩) (by kernel_rfl) fun fr w106 hF hE hc => then_normal ?_)
                                have hs := hs.ext hc
                                have hM0 := hM0.ext hc
                                have hs : Sep [] w106 S1 := Sep.pick [] hs (by decide) rfl
                                obtain rfl := Option.some.inj h
                                exact wp_ret (blk_ret (then_ret (ret1 rfl hF rfl ⟨_, rfl, rfl, hM0.chg⟩)))
                              · replace h := iteF hb h
                                have hs : Sep [] w2 S1 := Sep.pick [] hs (by decide) rfl
                                refine (wp_skip ?_)
                                refine blk_normal (then_normal ?_)
                                refine wp_seq (wp_pure [(6, .bool false)] hF (by kernel_rfl) fun fr hF => then_normal ?_)
                                obtain rfl := Option.some.inj h
                                exact wp_ret (ret1 rfl hF rfl ⟨_, rfl, rfl, hM0.chg⟩)
                  · replace h := iteF hb h
                    refine (wp_pure [(3, .pointer (some ⟨b1, 0, none⟩)), (7, .bool ((decide (p0.B ≥ 0)) && (decide (p0.B ≤ p2)))), (37, .int .i64 p0.Op), (61, .bool (p0.Op == 13))] hF (by kernel_rfl) fun fr hF => then_normal ?_)
                    refine (wp_if hF (b := (p0.Op == 13)) rfl (fun hb => ?_) (fun hb => ?_))
                    · replace h := iteT hb h
                      obtain ⟨x45, hx45, h⟩ := bindE h
                      refine wp_seq (region_b [] [true, false, false, true, true, false, true, true, true]
                          [.eq (.pointer (some ⟨b1, 1, none⟩)), .eq (.int .i64 p0.A), .eq (.bool x45), .eq (.bool x45), .eq (.pointer (some ⟨b1, 2, none⟩)), .eq (.int .i64 p0.B), .eq (.bool (p0.B == 0)), .eq (.bool (x45 && (p0.B == 0))), .eq (.bool (x45 && (p0.B == 0)))]
                          [(6, .bool (x45 && (p0.B == 0)))] mix hF (by kernel_rfl) (by kernel_rfl) (by kernel_rfl) ⟨Pd.mono_eq, Pd.mono_eq, Pd.mono_eq, trivial⟩ (fun hG => ⟨np_loadBox hG hF ty3 rfl rfl (hs.bx 0 rfl) rfl rfl rfl, np_call [.int .i64 p0.A] hG hF Try.call77 rfl rfl (fun w hC hg => (impl_isReg_ok p0.A hx45).mono fun e w' ⟨v, he, hv, hc⟩ => ⟨v, he, hc, hv⟩), np_loadBox hG hF ty3 rfl rfl (hs.bx 0 rfl) rfl rfl rfl, trivial⟩) (by kernel_rfl) fun fr w107 hF hE hc => then_normal ?_)
                      have hs := hs.ext hc
                      have hM0 := hM0.ext hc
                      have hs : Sep [] w107 S1 := Sep.pick [] hs (by decide) rfl
                      obtain rfl := Option.some.inj h
                      exact wp_ret (blk_ret (then_ret (ret1 rfl hF rfl ⟨_, rfl, rfl, hM0.chg⟩)))
                    · replace h := iteF hb h
                      refine wp_seq ?_
                      refine wp_seq (wp_pure [(3, .pointer (some ⟨b1, 0, none⟩)), (7, .bool ((decide (p0.B ≥ 0)) && (decide (p0.B ≤ p2)))), (37, .int .i64 p0.Op), (74, .bool (p0.Op == 9))] hF (by kernel_rfl) fun fr hF => then_normal ?_)
                      refine (wp_if hF (b := (p0.Op == 9)) rfl (fun hb => ?_) (fun hb => ?_))
                      · replace h := iteT hb h
                        refine (wp_skip (then_normal ?_))
                        refine (wp_if hF (b := (p0.Op == 9)) rfl (fun hb => ?_) (fun hb => ?_))
                        · replace h := iteT hb h
                          refine wp_seq (region_b [] [true, false, true, true, true, true, true]
                              [.eq (.pointer (some ⟨b1, 1, none⟩)), .eq (.int .i64 p0.A), .eq (.bool (p0.A == 0)), .eq (.bool (p0.A == 0)), .eq (.bool ((decide (p0.B ≥ 0)) && (decide (p0.B ≤ p2)))), .eq (.bool ((p0.A == 0) && ((decide (p0.B ≥ 0)) && (decide (p0.B ≤ p2))))), .eq (.bool ((p0.A == 0) && ((decide (p0.B ≥ 0)) && (decide (p0.B ≤ p2)))))]
                              [(6, .bool ((p0.A == 0) && ((decide (p0.B ≥ 0)) && (decide (p0.B ≤ p2)))))] mix hF (by kernel_rfl) (by kernel_rfl) (by kernel_rfl) ⟨Pd.mono_eq, trivial⟩ (fun hG => ⟨np_loadBox hG hF ty3 rfl rfl (hs.bx 0 rfl) rfl rfl rfl, trivial⟩) (by kernel_rfl) fun fr w108 hF hE hc => then_normal ?_)
                          have hs := hs.ext hc
                          have hM0 := hM0.ext hc
                          have hs : Sep [] w108 S1 := Sep.pick [] hs (by decide) rfl
                          obtain rfl := Option.some.inj h
                          exact wp_ret (blk_ret (then_ret (ret1 rfl hF rfl ⟨_, rfl, rfl, hM0.chg⟩)))
                        · replace h := iteF hb h
                          refine wp_seq (wp_pure [(3, .pointer (some ⟨b1, 0, none⟩)), (7, .bool ((decide (p0.B ≥ 0)) && (decide (p0.B ≤ p2)))), (37, .int .i64 p0.Op), (83, .bool (p0.Op == 10))] hF (by kernel_rfl) fun fr hF => then_normal ?_)
                          refine (wp_if hF (b := (p0.Op == 10)) rfl (fun hb => ?_) (fun hb => ?_))
                          · replace h := iteT hb h
                            obtain ⟨x46, hx46, h⟩ := bindE h
                            refine wp_seq (region_b [] [true, false, false, true, true, true, true]
                                [.eq (.pointer (some ⟨b1, 1, none⟩)), .eq (.int .i64 p0.A), .eq (.bool x46), .eq (.bool x46), .eq (.bool ((decide (p0.B ≥ 0)) && (decide (p0.B ≤ p2)))), .eq (.bool (x46 && ((decide (p0.B ≥ 0)) && (decide (p0.B ≤ p2))))), .eq (.bool (x46 && ((decide (p0.B ≥ 0)) && (decide (p0.B ≤ p2)))))]
                                [(6, .bool (x46 && ((decide (p0.B ≥ 0)) && (decide (p0.B ≤ p2)))))] mix hF (by kernel_rfl) (by kernel_rfl) (by kernel_rfl) ⟨Pd.mono_eq, Pd.mono_eq, trivial⟩ (fun hG => ⟨np_loadBox hG hF ty3 rfl rfl (hs.bx 0 rfl) rfl rfl rfl, np_call [.int .i64 p0.A] hG hF Try.call77 rfl rfl (fun w hC hg => (impl_isReg_ok p0.A hx46).mono fun e w' ⟨v, he, hv, hc⟩ => ⟨v, he, hc, hv⟩), trivial⟩) (by kernel_rfl) fun fr w109 hF hE hc => then_normal ?_)
                            have hs := hs.ext hc
                            have hM0 := hM0.ext hc
                            have hs : Sep [] w109 S1 := Sep.pick [] hs (by decide) rfl
                            obtain rfl := Option.some.inj h
                            exact wp_ret (blk_ret (then_ret (ret1 rfl hF rfl ⟨_, rfl, rfl, hM0.chg⟩)))
                          · replace h := iteF hb h
                            refine wp_seq ?_
                            refine wp_seq (wp_pure [(3, .pointer (some ⟨b1, 0, none⟩)), (37, .int .i64 p0.Op), (91, .bool (p0.Op == 12))] hF (by kernel_rfl) fun fr hF => then_normal ?_)
                            refine (wp_if hF (b := (p0.Op == 12)) rfl (fun hb => ?_) (fun hb => ?_))
                            · replace h := iteT hb h
                              refine (wp_skip (then_normal ?_))
                              refine (wp_if hF (b := (p0.Op == 12)) rfl (fun hb => ?_) (fun hb => ?_))
                              · replace h := iteT hb h
                                refine wp_seq (region_b [] [true, false, true, true, true, false, true, true, true]
                                    [.eq (.pointer (some ⟨b1, 1, none⟩)), .eq (.int .i64 p0.A), .eq (.bool (p0.A == 0)), .eq (.bool (p0.A == 0)), .eq (.pointer (some ⟨b1, 2, none⟩)), .eq (.int .i64 p0.B), .eq (.bool (p0.B == 0)), .eq (.bool ((p0.A == 0) && (p0.B == 0))), .eq (.bool ((p0.A == 0) && (p0.B == 0)))]
                                    [(6, .bool ((p0.A == 0) && (p0.B == 0)))] mix hF (by kernel_rfl) (by kernel_rfl) (by kernel_rfl) ⟨Pd.mono_eq, Pd.mono_eq, trivial⟩ (fun hG => ⟨np_loadBox hG hF ty3 rfl rfl (hs.bx 0 rfl) rfl rfl rfl, np_loadBox hG hF ty3 rfl rfl (hs.bx 0 rfl) rfl rfl rfl, trivial⟩) (by kernel_rfl) fun fr w110 hF hE hc => then_normal ?_)
                                have hs := hs.ext hc
                                have hM0 := hM0.ext hc
                                have hs : Sep [] w110 S1 := Sep.pick [] hs (by decide) rfl
                                obtain rfl := Option.some.inj h
                                exact wp_ret (blk_ret (then_ret (ret1 rfl hF rfl ⟨_, rfl, rfl, hM0.chg⟩)))
                              · replace h := iteF hb h
                                have hs : Sep [] w2 S1 := Sep.pick [] hs (by decide) rfl
                                refine (wp_skip ?_)
                                refine blk_normal (then_normal ?_)
                                refine wp_seq (wp_pure [(6, .bool false)] hF (by kernel_rfl) fun fr hF => then_normal ?_)
                                obtain rfl := Option.some.inj h
                                exact wp_ret (ret1 rfl hF rfl ⟨_, rfl, rfl, hM0.chg⟩)
                            · replace h := iteF hb h
                              refine (wp_pure [(3, .pointer (some ⟨b1, 0, none⟩)), (91, .bool (p0.Op == 14))] hF (by kernel_rfl) fun fr hF => then_normal ?_)
                              refine (wp_if hF (b := (p0.Op == 14)) rfl (fun hb => ?_) (fun hb => ?_))
                              · replace h := iteT hb h
                                refine wp_seq (region_b [] [true, false, true, true, true, false, true, true, true]
                                    [.eq (.pointer (some ⟨b1, 1, none⟩)), .eq (.int .i64 p0.A), .eq (.bool (p0.A == 0)), .eq (.bool (p0.A == 0)), .eq (.pointer (some ⟨b1, 2, none⟩)), .eq (.int .i64 p0.B), .eq (.bool (p0.B == 0)), .eq (.bool ((p0.A == 0) && (p0.B == 0))), .eq (.bool ((p0.A == 0) && (p0.B == 0)))]
                                    [(6, .bool ((p0.A == 0) && (p0.B == 0)))] mix hF (by kernel_rfl) (by kernel_rfl) (by kernel_rfl) ⟨Pd.mono_eq, Pd.mono_eq, trivial⟩ (fun hG => ⟨np_loadBox hG hF ty3 rfl rfl (hs.bx 0 rfl) rfl rfl rfl, np_loadBox hG hF ty3 rfl rfl (hs.bx 0 rfl) rfl rfl rfl, trivial⟩) (by kernel_rfl) fun fr w111 hF hE hc => then_normal ?_)
                                have hs := hs.ext hc
                                have hM0 := hM0.ext hc
                                have hs : Sep [] w111 S1 := Sep.pick [] hs (by decide) rfl
                                obtain rfl := Option.some.inj h
                                exact wp_ret (blk_ret (then_ret (ret1 rfl hF rfl ⟨_, rfl, rfl, hM0.chg⟩)))
                              · replace h := iteF hb h
                                have hs : Sep [] w2 S1 := Sep.pick [] hs (by decide) rfl
                                refine (wp_skip ?_)
                                refine blk_normal (then_normal ?_)
                                refine wp_seq (wp_pure [(6, .bool false)] hF (by kernel_rfl) fun fr hF => then_normal ?_)
                                obtain rfl := Option.some.inj h
                                exact wp_ret (ret1 rfl hF rfl ⟨_, rfl, rfl, hM0.chg⟩)
                      · replace h := iteF hb h
                        refine (wp_pure [(3, .pointer (some ⟨b1, 0, none⟩)), (7, .bool ((decide (p0.B ≥ 0)) && (decide (p0.B ≤ p2)))), (37, .int .i64 p0.Op), (74, .bool (p0.Op == 11))] hF (by kernel_rfl) fun fr hF => then_normal ?_)
                        refine (wp_if hF (b := (p0.Op == 11)) rfl (fun hb => ?_) (fun hb => ?_))
                        · replace h := iteT hb h
                          refine wp_seq (region_b [] [true, false, true, true, true, true, true]
                              [.eq (.pointer (some ⟨b1, 1, none⟩)), .eq (.int .i64 p0.A), .eq (.bool (p0.A == 0)), .eq (.bool (p0.A == 0)), .eq (.bool ((decide (p0.B ≥ 0)) && (decide (p0.B ≤ p2)))), .eq (.bool ((p0.A == 0) && ((decide (p0.B ≥ 0)) && (decide (p0.B ≤ p2))))), .eq (.bool ((p0.A == 0) && ((decide (p0.B ≥ 0)) && (decide (p0.B ≤ p2)))))]
                              [(6, .bool ((p0.A == 0) && ((decide (p0.B ≥ 0)) && (decide (p0.B ≤ p2)))))] mix hF (by kernel_rfl) (by kernel_rfl) (by kernel_rfl) ⟨Pd.mono_eq, trivial⟩ (fun hG => ⟨np_loadBox hG hF ty3 rfl rfl (hs.bx 0 rfl) rfl rfl rfl, trivial⟩) (by kernel_rfl) fun fr w112 hF hE hc => then_normal ?_)
                          have hs := hs.ext hc
                          have hM0 := hM0.ext hc
                          have hs : Sep [] w112 S1 := Sep.pick [] hs (by decide) rfl
                          obtain rfl := Option.some.inj h
                          exact wp_ret (blk_ret (then_ret (ret1 rfl hF rfl ⟨_, rfl, rfl, hM0.chg⟩)))
                        · replace h := iteF hb h
                          refine wp_seq (wp_pure [(3, .pointer (some ⟨b1, 0, none⟩)), (7, .bool ((decide (p0.B ≥ 0)) && (decide (p0.B ≤ p2)))), (37, .int .i64 p0.Op), (83, .bool (p0.Op == 10))] hF (by kernel_rfl) fun fr hF => then_normal ?_)
                          refine (wp_if hF (b := (p0.Op == 10)) rfl (fun hb => ?_) (fun hb => ?_))
                          · replace h := iteT hb h
                            obtain ⟨x47, hx47, h⟩ := bindE h
                            refine wp_seq (region_b [] [true, false, false, true, true, true, true]
                                [.eq (.pointer (some ⟨b1, 1, none⟩)), .eq (.int .i64 p0.A), .eq (.bool x47), .eq (.bool x47), .eq (.bool ((decide (p0.B ≥ 0)) && (decide (p0.B ≤ p2)))), .eq (.bool (x47 && ((decide (p0.B ≥ 0)) && (decide (p0.B ≤ p2))))), .eq (.bool (x47 && ((decide (p0.B ≥ 0)) && (decide (p0.B ≤ p2)))))]
                                [(6, .bool (x47 && ((decide (p0.B ≥ 0)) && (decide (p0.B ≤ p2)))))] mix hF (by kernel_rfl) (by kernel_rfl) (by kernel_rfl) ⟨Pd.mono_eq, Pd.mono_eq, trivial⟩ (fun hG => ⟨np_loadBox hG hF ty3 rfl rfl (hs.bx 0 rfl) rfl rfl rfl, np_call [.int .i64 p0.A] hG hF Try.call77 rfl rfl (fun w hC hg => (impl_isReg_ok p0.A hx47).mono fun e w' ⟨v, he, hv, hc⟩ => ⟨v, he, hc, hv⟩), trivial⟩) (by kernel_rfl) fun fr w113 hF hE hc => then_normal ?_)
                            have hs := hs.ext hc
                            have hM0 := hM0.ext hc
                            have hs : Sep [] w113 S1 := Sep.pick [] hs (by decide) rfl
                            obtain rfl := Option.some.inj h
                            exact wp_ret (blk_ret (then_ret (ret1 rfl hF rfl ⟨_, rfl, rfl, hM0.chg⟩)))
                          · replace h := iteF hb h
                            refine wp_seq ?_
                            refine wp_seq (wp_pure [(3, .pointer (some ⟨b1, 0, none⟩)), (37, .int .i64 p0.Op), (91, .bool (p0.Op == 12))] hF (by kernel_rfl) fun fr hF => then_normal ?_)
                            refine (wp_if hF (b := (p0.Op == 12)) rfl (fun hb => ?_) (fun hb => ?_))
                            · replace h := iteT hb h
                              refine (wp_skip (then_normal ?_))
                              refine (wp_if hF (b := (p0.Op == 12)) rfl (fun hb => ?_) (fun hb => ?_))
                              · replace h := iteT hb h
                                refine wp_seq (region_b [] [true, false, true, true, true, false, true, true, true]
                                    [.eq (.pointer (some ⟨b1, 1, none⟩)), .eq (.int .i64 p0.A), .eq (.bool (p0.A == 0)), .eq (.bool (p0.A == 0)), .eq (.pointer (some ⟨b1, 2, none⟩)), .eq (.int .i64 p0.B), .eq (.bool (p0.B == 0)), .eq (.bool ((p0.A == 0) && (p0.B == 0))), .eq (.bool ((p0.A == 0) && (p0.B == 0)))]
                                    [(6, .bool ((p0.A == 0) && (p0.B == 0)))] mix hF (by kernel_rfl) (by kernel_rfl) (by kernel_rfl) ⟨Pd.mono_eq, Pd.mono_eq, trivial⟩ (fun hG => ⟨np_loadBox hG hF ty3 rfl rfl (hs.bx 0 rfl) rfl rfl rfl, np_loadBox hG hF ty3 rfl rfl (hs.bx 0 rfl) rfl rfl rfl, trivial⟩) (by kernel_rfl) fun fr w114 hF hE hc => then_normal ?_)
                                have hs := hs.ext hc
                                have hM0 := hM0.ext hc
                                have hs : Sep [] w114 S1 := Sep.pick [] hs (by decide) rfl
                                obtain rfl := Option.some.inj h
                                exact wp_ret (blk_ret (then_ret (ret1 rfl hF rfl ⟨_, rfl, rfl, hM0.chg⟩)))
                              · replace h := iteF hb h
                                have hs : Sep [] w2 S1 := Sep.pick [] hs (by decide) rfl
                                refine (wp_skip ?_)
                                refine blk_normal (then_normal ?_)
                                refine wp_seq (wp_pure [(6, .bool false)] hF (by kernel_rfl) fun fr hF => then_normal ?_)
                                obtain rfl := Option.some.inj h
                                exact wp_ret (ret1 rfl hF rfl ⟨_, rfl, rfl, hM0.chg⟩)
                            · replace h := iteF hb h
                              refine (wp_pure [(3, .pointer (some ⟨b1, 0, none⟩)), (91, .bool (p0.Op == 14))] hF (by kernel_rfl) fun fr hF => then_normal ?_)
                              refine (wp_if hF (b := (p0.Op == 14)) rfl (fun hb => ?_) (fun hb => ?_))
                              · replace h := iteT hb h
                                refine wp_seq (region_b [] [true, false, true, true, true, false, true, true, true]
                                    [.eq (.pointer (some ⟨b1, 1, none⟩)), .eq (.int .i64 p0.A), .eq (.bool (p0.A == 0)), .eq (.bool (p0.A == 0)), .eq (.pointer (some ⟨b1, 2, none⟩)), .eq (.int .i64 p0.B), .eq (.bool (p0.B == 0)), .eq (.bool ((p0.A == 0) && (p0.B == 0))), .eq (.bool ((p0.A == 0) && (p0.B == 0)))]
                                    [(6, .bool ((p0.A == 0) && (p0.B == 0)))] mix hF (by kernel_rfl) (by kernel_rfl) (by kernel_rfl) ⟨Pd.mono_eq, Pd.mono_eq, trivial⟩ (fun hG => ⟨np_loadBox hG hF ty3 rfl rfl (hs.bx 0 rfl) rfl rfl rfl, np_loadBox hG hF ty3 rfl rfl (hs.bx 0 rfl) rfl rfl rfl, trivial⟩) (by kernel_rfl) fun fr w115 hF hE hc => then_normal ?_)
                                have hs := hs.ext hc
                                have hM0 := hM0.ext hc
                                have hs : Sep [] w115 S1 := Sep.pick [] hs (by decide) rfl
                                obtain rfl := Option.some.inj h
                                exact wp_ret (blk_ret (then_ret (ret1 rfl hF rfl ⟨_, rfl, rfl, hM0.chg⟩)))
                              · replace h := iteF hb h
                                have hs : Sep [] w2 S1 := Sep.pick [] hs (by decide) rfl
                                refine (wp_skip ?_)
                                refine blk_normal (then_normal ?_)
                                refine wp_seq (wp_pure [(6, .bool false)] hF (by kernel_rfl) fun fr hF => then_normal ?_)
                                obtain rfl := Option.some.inj h
                                exact wp_ret (ret1 rfl hF rfl ⟨_, rfl, rfl, hM0.chg⟩)

theorem impl_ProgramOk_ok (n : Nat) (p0 : D.Program) {r : Bool} (h : impl_ProgramOk n p0 = some r) {w : World} {G0 : Nat → Prop} {va0 : Value} (ra0 : RV w G0 va0 p0) :
    Calls Try.prog 40 [va0].toArray w fun e w' => ∃ v, e = .returned v ∧ v = .bool r ∧ Chg Non w w' := by
  unfold impl_ProgramOk at h
  have hs := Sep.nil w Non
  have hM0 : Mem w Non (fun k => (G0 k) ∧ k < w.heap.size) w Non (fun k => (G0 k) ∧ k < w.heap.size) := Mem.start (fun _ h => h.elim) (fun _ h => h.2) (fun _ h => h.elim)
  have ra0 := ra0.sub (F' := (fun k => (G0 k) ∧ k < w.heap.size)) (fun k hk h => ⟨h, hk⟩)
  obtain ⟨v1, rfl, r1⟩ := RV.Program ra0
  obtain ⟨a1, c1, rfl, -⟩ := r1.slice
  refine enter (N := 54) Try.func40 rfl Try.ntmps40 rfl fun fr hF => ?_
  refine wp_seq (wp_text' ?_)
  refine q_box hs hM0 [.int .i64 p0.W, .int .i64 p0.Mem, .int .i64 p0.In, .slice a1 (List.length p0.Code) c1] rfl rfl hF rfl rfl fun b1 w1 S1 fr hs hp hF => ?_
  have r1 := r1.stp hM0 hp
  have hM0 := hM0.stp hp
  have hs : Sep [BX b1 32 [.int .i64 p0.W, .int .i64 p0.Mem, .int .i64 p0.In, .slice a1 (List.length p0.Code) c1]] w1 S1 := hs
  refine from_pure 1 [(1, .pointer (some ⟨b1, 0, none⟩))] hF (by kernel_rfl) fun fr hF => ?_
  refine from_end rfl (then_normal ?_)
  refine wp_seq ?_
  obtain ⟨x1, hx1, h⟩ := bindE h
  obtain ⟨x2, hx2, h⟩ := bindE h
  refine wp_seq (region_b [] [true, false, true, false, true, false, true, true, true, false, true, true, true, true, false, true, true, true, true, false, true, false, false, true, true]
      [.eq (.pointer (some ⟨b1, 0, none⟩)), .eq (.int .i64 p0.W), .eq (.pointer (some ⟨b1, 3, none⟩)), .eq (.slice a1 (List.length p0.Code) c1), .eq (.int .i64 (len p0.Code)), .eq (.bool x1), .eq (.bool (!x1)), .eq (.bool (!x1)), .eq (.pointer (some ⟨b1, 1, none⟩)), .eq (.int .i64 p0.Mem), .eq (.bool (decide (p0.Mem < 1))), .eq (.bool ((!x1) || (decide (p0.Mem < 1)))), .eq (.bool ((!x1) || (decide (p0.Mem < 1)))), .eq (.pointer (some ⟨b1, 1, none⟩)), .eq (.int .i64 p0.Mem), .eq (.bool (decide (p0.Mem > 6))), .eq (.bool (((!x1) || (decide (p0.Mem < 1))) || (decide (p0.Mem > 6)))), .eq (.bool (((!x1) || (decide (p0.Mem < 1))) || (decide (p0.Mem > 6)))), .eq (.pointer (some ⟨b1, 0, none⟩)), .eq (.int .i64 p0.W), .eq (.pointer (some ⟨b1, 1, none⟩)), .eq (.int .i64 p0.Mem), .eq (.bool x2), .eq (.bool (!x2)), .eq (.bool ((((!x1) || (decide (p0.Mem < 1))) || (decide (p0.Mem > 6))) || (!x2)))]
      [(1, .pointer (some ⟨b1, 0, none⟩)), (29, .bool ((((!x1) || (decide (p0.Mem < 1))) || (decide (p0.Mem > 6))) || (!x2)))] mix hF (by kernel_rfl) (by kernel_rfl) (by kernel_rfl) ⟨Pd.mono_eq, Pd.mono_eq, Pd.mono_eq, Pd.mono_eq, Pd.mono_eq, Pd.mono_eq, Pd.mono_eq, Pd.mono_eq, trivial⟩ (fun hG => ⟨np_loadBox hG hF ty3 rfl rfl (hs.bx 0 rfl) rfl rfl rfl, np_loadBox hG hF ty30 rfl rfl (hs.bx 0 rfl) rfl rfl rfl, np_call [.int .i64 p0.W, .int .i64 (len p0.Code)] hG hF Try.call60 rfl rfl (fun w hC hg => (impl_shapeOk_ok p0.W (len p0.Code) hx1).mono fun e w' ⟨v, he, hv, hc⟩ => ⟨v, he, hc, hv⟩), np_loadBox hG hF ty3 rfl rfl (hs.bx 0 rfl) rfl rfl rfl, np_loadBox hG hF ty3 rfl rfl (hs.bx 0 rfl) rfl rfl rfl, np_loadBox hG hF ty3 rfl rfl (hs.bx 0 rfl) rfl rfl rfl, np_loadBox hG hF ty3 rfl rfl (hs.bx 0 rfl) rfl rfl rfl, np_call [.int .i64 p0.W, .int .i64 p0.Mem] hG hF Try.call61 rfl rfl (fun w hC hg => (impl_WordOk_ok p0.W p0.Mem (iteF hg.2 hx2)).mono fun e w' ⟨v, he, hv, hc⟩ => ⟨v, he, hc, hv⟩), trivial⟩) (by kernel_rfl) fun fr w2 hF hE hc => then_normal ?_)
  have r1 := r1.ext hc
  have hs := hs.ext hc
  have hM0 := hM0.ext hc
  refine (wp_if hF (b := ((((!x1) || (decide (p0.Mem < 1))) || (decide (p0.Mem > 6))) || (!x2))) rfl (fun hb => ?_) (fun hb => ?_))
  · replace h := iteT hb h
    have hs : Sep [] w2 S1 := Sep.pick [] hs (by decide) rfl
    refine wp_seq (wp_pure [(2, .bool false)] hF (by kernel_rfl) fun fr hF => then_normal ?_)
    obtain rfl := Option.some.inj h
    exact wp_ret (then_ret (ret1 rfl hF rfl ⟨_, rfl, rfl, hM0.chg⟩))
  · replace h := iteF hb h
    refine (wp_skip (then_normal ?_))
    refine wp_seq ?_
    refine wp_seq (region_b [] [true, false, true, true, true, false, true, true]
        [.eq (.pointer (some ⟨b1, 2, none⟩)), .eq (.int .i64 p0.In), .eq (.bool (decide (p0.In < 0))), .eq (.bool (decide (p0.In < 0))), .eq (.pointer (some ⟨b1, 2, none⟩)), .eq (.int .i64 p0.In), .eq (.bool (decide (p0.In > 3))), .eq (.bool ((decide (p0.In < 0)) || (decide (p0.In > 3))))]
        [(1, .pointer (some ⟨b1, 0, none⟩)), (37, .bool ((decide (p0.In < 0)) || (decide (p0.In > 3))))] mix hF (by kernel_rfl) (by kernel_rfl) (by kernel_rfl) ⟨Pd.mono_eq, Pd.mono_eq, trivial⟩ (fun hG => ⟨np_loadBox hG hF ty3 rfl rfl (hs.bx 0 rfl) rfl rfl rfl, np_loadBox hG hF ty3 rfl rfl (hs.bx 0 rfl) rfl rfl rfl, trivial⟩) (by kernel_rfl) fun fr w3 hF hE hc => then_normal ?_)
    have r1 := r1.ext hc
    have hs := hs.ext hc
    have hM0 := hM0.ext hc
    refine (wp_if hF (b := ((decide (p0.In < 0)) || (decide (p0.In > 3)))) rfl (fun hb => ?_) (fun hb => ?_))
    · replace h := iteT hb h
      have hs : Sep [] w3 S1 := Sep.pick [] hs (by decide) rfl
      refine wp_seq (wp_pure [(2, .bool false)] hF (by kernel_rfl) fun fr hF => then_normal ?_)
      obtain rfl := Option.some.inj h
      exact wp_ret (then_ret (ret1 rfl hF rfl ⟨_, rfl, rfl, hM0.chg⟩))
    · replace h := iteF hb h
      refine (wp_skip (then_normal ?_))
      refine wp_seq ?_
      refine wp_seq (wp_text' ?_)
      refine from_pure 1 [(1, .pointer (some ⟨b1, 0, none⟩)), (38, .pointer (some ⟨b1, 3, none⟩))] hF (by kernel_rfl) fun fr hF => ?_
      refine s_loadBox (.slice a1 (List.length p0.Code) c1) ty30 rfl rfl hF rfl (hs.bx 0 rfl) rfl rfl fun fr hF => ?_
      refine from_pure 2 [(1, .pointer (some ⟨b1, 0, none⟩)), (39, .slice a1 (List.length p0.Code) c1), (40, .int .i64 (len p0.Code)), (41, .int .i64 0)] hF (by kernel_rfl) fun fr hF => ?_
      refine from_end rfl (then_normal ?_)
      obtain ⟨rl1, hit1, h⟩ := bindE h
      have hk1 := h
      refine (wp_cut (M := fun fr w' => ∃ s, rl1 = .inl s ∧ ∃ S3 F2, FrS 54 [] fr ∧ Mem w3 S1 (fun k => (G0 k) ∧ k < w.heap.size) w' S3 F2 ∧ Sep [] w' S3) (wp_block (wp_iter (Inv := fun s1 fr w' => ∃ S2 F1, FrS 54 [(1, .pointer (some ⟨b1, 0, none⟩)), (39, .slice a1 (List.length p0.Code) c1), (40, .int .i64 (len p0.Code)), (41, .int .i64 s1)] fr ∧ Mem w3 S1 (fun k => (G0 k) ∧ k < w.heap.size) w' S2 F1 ∧ Sep [BX b1 32 [.int .i64 p0.W, .int .i64 p0.Mem, .int .i64 p0.In, .slice a1 (List.length p0.Code) c1]] w' S2) hit1 ⟨S1, _, hF.sub _ (by kernel_rfl), (Mem.start hM0.bd hM0.bdF hM0.dj), hs⟩ fun s1 q1 fr w1i hI h hr1 => ?_)) fun fr w1o hM => ?_)
      · obtain ⟨S2, F1, hF, hM1, hs⟩ := hI
        have r1 := r1.mem hM1
        refine wp_seq (wp_pure [(1, .pointer (some ⟨b1, 0, none⟩)), (39, .slice a1 (List.length p0.Code) c1), (40, .int .i64 (len p0.Code)), (41, .int .i64 s1), (42, .bool (decide (s1 < (len p0.Code))))] hF (by kernel_rfl) fun fr hF => then_normal ?_)
        refine wp_seq (wp_if hF (b := (decide (s1 < (len p0.Code)))) rfl (fun hb => ?_) (fun hb => ?_))
        · replace h := iteT hb h
          refine (wp_skip (then_normal ?_))
          refine wp_seq (wp_block ?_)
          refine wp_seq (wp_text' ?_)
          obtain ⟨x3, hx3, h⟩ := bindE h
          refine s_elemF (z := x3) (.agg #[.int .i64 x3.Op, .int .i64 x3.A, .int .i64 x3.B, .int .i64 x3.C]) ty66 Try.underlying30 rfl rfl rfl rfl rfl hF rfl (r1) rfl (get?_nn hx3) (get?_at hx3) rfl fun p fr hF => ?_
          refine q_alloc (z := .agg #[.int .i64 0, .int .i64 0, .int .i64 0, .int .i64 0]) hs hM1 [.int .i64 0, .int .i64 0, .int .i64 0, .int .i64 0] rfl rfl hF (by kernel_rfl) rfl fun b2 w4 S4 fr hs hp hF => ?_
          have r1 := r1.stp hM1 hp
          have hM1 := hM1.stp hp
          have hs : Sep [BX b2 66 [.int .i64 0, .int .i64 0, .int .i64 0, .int .i64 0], BX b1 32 [.int .i64 p0.W, .int .i64 p0.Mem, .int .i64 p0.In, .slice a1 (List.length p0.Code) c1]] w4 S4 := hs
          refine q_storeBoxS 0 hs hM1 rfl [.int .i64 x3.Op, .int .i64 x3.A, .int .i64 x3.B, .int .i64 x3.C] rfl hF rfl rfl (by kernel_rfl) rfl rfl rfl fun w5 S5 hs hp hF => ?_
          have r1 := r1.stp hM1 hp
          have hM1 := hM1.stp hp
          have hs : Sep [BX b2 66 [.int .i64 x3.Op, .int .i64 x3.A, .int .i64 x3.B, .int .i64 x3.C], BX b1 32 [.int .i64 p0.W, .int .i64 p0.Mem, .int .i64 p0.In, .slice a1 (List.length p0.Code) c1]] w5 S5 := hs
          refine from_end rfl (then_normal ?_)
          refine wp_seq (wp_text' ?_)
          refine s_loadBoxS ty66 rfl rfl hF rfl (hs.bx 0 rfl) rfl rfl fun fr hF => ?_
          have hs : Sep [BX b1 32 [.int .i64 p0.W, .int .i64 p0.Mem, .int .i64 p0.In, .slice a1 (List.length p0.Code) c1]] w5 S5 := Sep.pick [1] hs (by decide) rfl
          refine from_pure 1 [(1, .pointer (some ⟨b1, 0, none⟩)), (39, .slice a1 (List.length p0.Code) c1), (40, .int .i64 (len p0.Code)), (41, .int .i64 s1), (45, .agg #[.int .i64 x3.Op, .int .i64 x3.A, .int .i64 x3.B, .int .i64 x3.C]), (46, .pointer (some ⟨b1, 0, none⟩))] hF (by kernel_rfl) fun fr hF => ?_
          refine s_loadBox (.int .i64 p0.W) ty3 rfl rfl hF rfl (hs.bx 0 rfl) rfl rfl fun fr hF => ?_
          refine from_pure 1 [(1, .pointer (some ⟨b1, 0, none⟩)), (39, .slice a1 (List.length p0.Code) c1), (40, .int .i64 (len p0.Code)), (41, .int .i64 s1), (45, .agg #[.int .i64 x3.Op, .int .i64 x3.A, .int .i64 x3.B, .int .i64 x3.C]), (47, .int .i64 p0.W), (48, .pointer (some ⟨b1, 3, none⟩))] hF (by kernel_rfl) fun fr hF => ?_
          refine s_loadBox (.slice a1 (List.length p0.Code) c1) ty30 rfl rfl hF rfl (hs.bx 0 rfl) rfl rfl fun fr hF => ?_
          refine from_pure 1 [(1, .pointer (some ⟨b1, 0, none⟩)), (39, .slice a1 (List.length p0.Code) c1), (40, .int .i64 (len p0.Code)), (41, .int .i64 s1), (45, .agg #[.int .i64 x3.Op, .int .i64 x3.A, .int .i64 x3.B, .int .i64 x3.C]), (47, .int .i64 p0.W), (50, .int .i64 (len p0.Code))] hF (by kernel_rfl) fun fr hF => ?_
          obtain ⟨x4, hx4, h⟩ := bindE h
          refine s_call [.agg #[.int .i64 x3.Op, .int .i64 x3.A, .int .i64 x3.B, .int .i64 x3.C], .int .i64 p0.W, .int .i64 (len p0.Code)] Try.call62 rfl rfl hF rfl (impl_insOk_ok x3 p0.W (len p0.Code) hx4) fun v w6 fr hRes hF => ?_
          obtain ⟨rfl, hc⟩ := hRes
          have r1 := r1.ext hc
          have hs := hs.ext hc
          have hM1 := hM1.ext hc
          refine from_pure 1 [(1, .pointer (some ⟨b1, 0, none⟩)), (39, .slice a1 (List.length p0.Code) c1), (40, .int .i64 (len p0.Code)), (41, .int .i64 s1), (52, .bool (!x4))] hF (by kernel_rfl) fun fr hF => ?_
          refine from_end rfl (then_normal ?_)
          refine (wp_if hF (b := (!x4)) rfl (fun hb => ?_) (fun hb => ?_))
          · replace h := iteT hb h
            have hs : Sep [] w6 S5 := Sep.pick [] hs (by decide) rfl
            refine wp_seq (wp_pure [(2, .bool false)] hF (by kernel_rfl) fun fr hF => then_normal ?_)
            obtain rfl := hr1 _ (Option.some.inj h).symm
            obtain rfl := Option.some.inj hk1
            exact wp_ret (blk_ret (then_ret (then_ret (blk_ret (then_ret (ret1 rfl hF rfl ⟨_, rfl, rfl, (hM0.trans hM1).chg⟩))))))
          · replace h := iteF hb h
            refine (wp_skip ?_)
            refine blk_normal (then_normal ?_)
            refine (wp_pure [(1, .pointer (some ⟨b1, 0, none⟩)), (39, .slice a1 (List.length p0.Code) c1), (40, .int .i64 (len p0.Code)), (41, .int .i64 (w64 (s1 + 1)))] hF (by kernel_rfl) fun fr hF => then_normal ?_)
            exact ⟨_, (Option.some.inj h).symm, S5, _, hF.sub _ (by kernel_rfl), hM1, hs⟩
        · replace h := iteF hb h
          have hs : Sep [] w1i S2 := Sep.pick [] hs (by decide) rfl
          refine (wp_exit (then_exit (then_exit (blk_exit_eq ?_))))
          obtain rfl := hr1 _ (Option.some.inj h).symm
          exact then_normal ⟨_, rfl, S2, _, hF.sub _ (by kernel_rfl), hM1, hs⟩
      · obtain ⟨s1r, rfl, hM⟩ := hM
        obtain ⟨S3, F2, hF, hMx, hs⟩ := hM
        have hM0 := hM0.trans hMx
        refine wp_seq (wp_pure [(2, .bool true)] hF (by kernel_rfl) fun fr hF => then_normal ?_)
        obtain rfl := Option.some.inj h
        exact wp_ret (ret1 rfl hF rfl ⟨_, rfl, rfl, hM0.chg⟩)

theorem impl_NewState_ok (n : Nat) (p0 : D.Program) {r : D.State} (h : impl_NewState n p0 = some r) {w : World} {G0 : Nat → Prop} {va0 : Value} (ra0 : RV w G0 va0 p0) :
    Calls Try.prog 13 [va0].toArray w fun e w' => ∃ v, e = .returned v ∧ ∃ a1 c1 a2 c2 a3 c3 a4 c4, v = .agg #[.int .i64 r.Pc, .slice a1 (List.length r.Regs) c1, .slice a2 (List.length r.Mem) c2, .slice a3 (List.length r.Stack) c3, .int .i64 r.In, .slice a4 (List.length r.Out) c4, .int .i64 r.Code, .int .i64 r.Steps] ∧ ∃ S', Stp w Non w' S' ∧ Sep [SL (α := Int) 3 (.slice a1 (List.length r.Regs) c1) r.Regs, SL (α := Int) 3 (.slice a2 (List.length r.Mem) c2) r.Mem, SL (α := Int) 3 (.slice a3 (List.length r.Stack) c3) r.Stack, SL (α := Int) 3 (.slice a4 (List.length r.Out) c4) r.Out] w' S' := by
  unfold impl_NewState at h
  have hs := Sep.nil w Non
  have hM0 : Mem w Non (fun k => (G0 k) ∧ k < w.heap.size) w Non (fun k => (G0 k) ∧ k < w.heap.size) := Mem.start (fun _ h => h.elim) (fun _ h => h.2) (fun _ h => h.elim)
  have ra0 := ra0.sub (F' := (fun k => (G0 k) ∧ k < w.heap.size)) (fun k hk h => ⟨h, hk⟩)
  obtain ⟨v1, rfl, r1⟩ := RV.Program ra0
  obtain ⟨a1, c1, rfl, -⟩ := r1.slice
  refine enter (N := 12) Try.func13 rfl Try.ntmps13 rfl fun fr hF => ?_
  refine wp_seq (wp_text' ?_)
  refine q_box hs hM0 [.int .i64 p0.W, .int .i64 p0.Mem, .int .i64 p0.In, .slice a1 (List.length p0.Code) c1] rfl rfl hF rfl rfl fun b1 w1 S1 fr hs hp hF => ?_
  have r1 := r1.stp hM0 hp
  have hM0 := hM0.stp hp
  have hs : Sep [BX b1 32 [.int .i64 p0.W, .int .i64 p0.Mem, .int .i64 p0.In, .slice a1 (List.length p0.Code) c1]] w1 S1 := hs
  refine q_alloc (z := .agg #[.int .i64 0, .slice none (List.length ([] : List Int)) 0, .slice none (List.length ([] : List Int)) 0, .slice none (List.length ([] : List Int)) 0, .int .i64 0, .slice none (List.length ([] : List Int)) 0, .int .i64 0, .int .i64 0]) hs hM0 [.int .i64 0, .slice none (List.length ([] : List Int)) 0, .slice none (List.length ([] : List Int)) 0, .slice none (List.length ([] : List Int)) 0, .int .i64 0, .slice none (List.length ([] : List Int)) 0, .int .i64 0, .int .i64 0] rfl rfl hF (by kernel_rfl) rfl fun b2 w2 S2 fr hs hp hF => ?_
  have r1 := r1.stp hM0 hp
  have hM0 := hM0.stp hp
  have hs : Sep [BX b2 28 [.int .i64 0, .slice none (List.length ([] : List Int)) 0, .slice none (List.length ([] : List Int)) 0, .slice none (List.length ([] : List Int)) 0, .int .i64 0, .slice none (List.length ([] : List Int)) 0, .int .i64 0, .int .i64 0], BX b1 32 [.int .i64 p0.W, .int .i64 p0.Mem, .int .i64 p0.In, .slice a1 (List.length p0.Code) c1]] w2 S2 := hs
  refine from_end rfl (then_normal ?_)
  refine wp_seq ?_
  refine wp_seq (wp_text' ?_)
  refine s_loadBoxS ty32 rfl rfl hF rfl (hs.bx 1 rfl) rfl rfl fun fr hF => ?_
  obtain ⟨x1, hx1, h⟩ := bindE h
  refine s_call [.agg #[.int .i64 p0.W, .int .i64 p0.Mem, .int .i64 p0.In, .slice a1 (List.length p0.Code) c1]] Try.call40 rfl rfl hF rfl (impl_ProgramOk_ok n p0 hx1 (RV.mk_Program p0 (r1))) fun v w3 fr hRes hF => ?_
  obtain ⟨rfl, hc⟩ := hRes
  have r1 := r1.ext hc
  have hs := hs.ext hc
  have hM0 := hM0.ext hc
  refine from_pure 1 [(1, .pointer (some ⟨b1, 0, none⟩)), (2, .pointer (some ⟨b2, 0, none⟩)), (5, .bool (!x1))] hF (by kernel_rfl) fun fr hF => ?_
  refine from_end rfl (then_normal ?_)
  refine (wp_if hF (b := (!x1)) rfl (fun hb => ?_) (fun hb => ?_))
  · replace h := iteT hb h
    have hs : Sep [BX b2 28 [.int .i64 0, .slice none (List.length ([] : List Int)) 0, .slice none (List.length ([] : List Int)) 0, .slice none (List.length ([] : List Int)) 0, .int .i64 0, .slice none (List.length ([] : List Int)) 0, .int .i64 0, .int .i64 0]] w3 S2 := Sep.pick [0] hs (by decide) rfl
    refine wp_seq (wp_text' ?_)
    refine from_pure 1 [(2, .pointer (some ⟨b2, 0, none⟩)), (6, .agg #[.int .i64 0, .slice none (List.length ([] : List Int)) 0, .slice none (List.length ([] : List Int)) 0, .slice none (List.length ([] : List Int)) 0, .int .i64 0, .slice none (List.length ([] : List Int)) 0, .int .i64 0, .int .i64 0])] hF (by kernel_rfl) fun fr hF => ?_
    refine q_storeBoxS 0 hs hM0 rfl [.int .i64 0, .slice none (List.length ([] : List Int)) 0, .slice none (List.length ([] : List Int)) 0, .slice none (List.length ([] : List Int)) 0, .int .i64 0, .slice none (List.length ([] : List Int)) 0, .int .i64 0, .int .i64 0] rfl hF rfl rfl (by kernel_rfl) rfl rfl rfl fun w4 S3 hs hp hF => ?_
    have hM0 := hM0.stp hp
    have hs : Sep [BX b2 28 [.int .i64 0, .slice none (List.length ([] : List Int)) 0, .slice none (List.length ([] : List Int)) 0, .slice none (List.length ([] : List Int)) 0, .int .i64 0, .slice none (List.length ([] : List Int)) 0, .int .i64 0, .int .i64 0]] w4 S3 := hs
    refine from_end rfl (then_normal ?_)
    have hbr := (hs.bx 0 rfl)
    have hs : Sep [SL (α := Int) 3 (.slice none (List.length ([] : List Int)) 0) ([] : List Int), BX b2 28 [.int .i64 0, .slice none (List.length ([] : List Int)) 0, .slice none (List.length ([] : List Int)) 0, .slice none (List.length ([] : List Int)) 0, .int .i64 0, .slice none (List.length ([] : List Int)) 0, .int .i64 0, .int .i64 0]] w4 S3 := hs.cons_nil (α := Int) 3
    have hs : Sep [SL (α := Int) 3 (.slice none (List.length ([] : List Int)) 0) ([] : List Int), SL (α := Int) 3 (.slice none (List.length ([] : List Int)) 0) ([] : List Int), BX b2 28 [.int .i64 0, .slice none (List.length ([] : List Int)) 0, .slice none (List.length ([] : List Int)) 0, .slice none (List.length ([] : List Int)) 0, .int .i64 0, .slice none (List.length ([] : List Int)) 0, .int .i64 0, .int .i64 0]] w4 S3 := hs.cons_nil (α := Int) 3
    have hs : Sep [SL (α := Int) 3 (.slice none (List.length ([] : List Int)) 0) ([] : List Int), SL (α := Int) 3 (.slice none (List.length ([] : List Int)) 0) ([] : List Int), SL (α := Int) 3 (.slice none (List.length ([] : List Int)) 0) ([] : List Int), BX b2 28 [.int .i64 0, .slice none (List.length ([] : List Int)) 0, .slice none (List.length ([] : List Int)) 0, .slice none (List.length ([] : List Int)) 0, .int .i64 0, .slice none (List.length ([] : List Int)) 0, .int .i64 0, .int .i64 0]] w4 S3 := hs.cons_nil (α := Int) 3
    have hs : Sep [SL (α := Int) 3 (.slice none (List.length ([] : List Int)) 0) ([] : List Int), SL (α := Int) 3 (.slice none (List.length ([] : List Int)) 0) ([] : List Int), SL (α := Int) 3 (.slice none (List.length ([] : List Int)) 0) ([] : List Int), SL (α := Int) 3 (.slice none (List.length ([] : List Int)) 0) ([] : List Int), BX b2 28 [.int .i64 0, .slice none (List.length ([] : List Int)) 0, .slice none (List.length ([] : List Int)) 0, .slice none (List.length ([] : List Int)) 0, .int .i64 0, .slice none (List.length ([] : List Int)) 0, .int .i64 0, .int .i64 0]] w4 S3 := hs.cons_nil (α := Int) 3
    obtain rfl := Option.some.inj h
    have hs : Sep [SL (α := Int) 3 (.slice none (List.length ([] : List Int)) 0) ([] : List Int), SL (α := Int) 3 (.slice none (List.length ([] : List Int)) 0) ([] : List Int), SL (α := Int) 3 (.slice none (List.length ([] : List Int)) 0) ([] : List Int), SL (α := Int) 3 (.slice none (List.length ([] : List Int)) 0) ([] : List Int)] w4 S3 := Sep.pick [3, 2, 1, 0] hs (by decide) rfl
    exact wp_ret (then_ret (retS rfl hF ty28 rfl rfl hbr rfl ⟨_, rfl, none, 0, none, 0, none, 0, none, 0, rfl, S3, hM0.out, hs⟩))
  · replace h := iteF hb h
    refine (wp_skip (then_normal ?_))
    obtain ⟨x2, hx2, h⟩ := bindE h
    obtain ⟨x3, hx3, h⟩ := bindE h
    refine wp_seq (region_bm 4 [0, 0, 2, 6, 15, 31] [false, true, false, false]
        [.own fun ow v w => ∃ i : Option Addr × Nat, v = .slice i.1 (List.length x2) i.2 ∧ (SL (α := Int) 3 (.slice i.1 (List.length x2) i.2) x2).ok w (fun k => w3.heap.size ≤ k ∧ k < w.heap.size ∧ ow k = 0), .eq (.pointer (some ⟨b1, 1, none⟩)), .eq (.int .i64 p0.Mem), .own fun ow v w => ∃ i : Option Addr × Nat, v = .slice i.1 (List.length x3) i.2 ∧ (SL (α := Int) 3 (.slice i.1 (List.length x3) i.2) x3).ok w (fun k => w3.heap.size ≤ k ∧ k < w.heap.size ∧ ow k = 3), .any, .any]
        [(2, .pointer (some ⟨b2, 0, none⟩))] mix hF (by kernel_rfl) (by kernel_rfl) (by kernel_rfl) (by kernel_rfl) ⟨mono_new, Pd.monoO_eq, mono_new, trivial⟩ (fun ow hG => ⟨np_make hG hF Try.underlying26 el3 (fun w => zero_flat _ (by kernel_rfl)) rfl rfl rfl (fun hg => hx2) rfl, np_to ow (np_loadBox hG hF ty3 rfl rfl (hs.bx 1 rfl) rfl rfl rfl), np_make hG hF Try.underlying26 el3 (fun w => zero_flat _ (by kernel_rfl)) rfl rfl rfl (fun hg => hx3) rfl, trivial⟩) (by kernel_rfl) fun ow fr w5 hF hE hc => ?_)
    obtain ⟨⟨a2, c2⟩, hv, hnw0⟩ := hE.is 7 0 rfl rfl
    have hF := hF.cons hv
    obtain ⟨⟨a3, c3⟩, hv, hnw3⟩ := hE.is 10 3 rfl rfl
    have hF := hF.cons hv
    have hsN := sepO (w0 := w3) (ow := ow) [(0, SL (α := Int) 3 (.slice a2 (List.length x2) c2) x2), (3, SL (α := Int) 3 (.slice a3 (List.length x3) c3) x3)] (show ([0, 3] : List Nat).Nodup by decide) ⟨hnw0, hnw3, trivial⟩ rfl
    obtain ⟨S4, hp, hs⟩ := hs.got hM0 (stp_new hc) hsN
    have r1 := r1.stp hM0 hp
    have hM0 := hM0.stp hp
    have hs : Sep [SL (α := Int) 3 (.slice a2 (List.length x2) c2) x2, SL (α := Int) 3 (.slice a3 (List.length x3) c3) x3, BX b2 28 [.int .i64 0, .slice none (List.length ([] : List Int)) 0, .slice none (List.length ([] : List Int)) 0, .slice none (List.length ([] : List Int)) 0, .int .i64 0, .slice none (List.length ([] : List Int)) 0, .int .i64 0, .int .i64 0], BX b1 32 [.int .i64 p0.W, .int .i64 p0.Mem, .int .i64 p0.In, .slice a1 (List.length p0.Code) c1]] w5 S4 := hs
    have hs : Sep [SL (α := Int) 3 (.slice a2 (List.length x2) c2) x2, SL (α := Int) 3 (.slice a3 (List.length x3) c3) x3, BX b2 28 [.int .i64 0, .slice none (List.length ([] : List Int)) 0, .slice none (List.length ([] : List Int)) 0, .slice none (List.length ([] : List Int)) 0, .int .i64 0, .slice none (List.length ([] : List Int)) 0, .int .i64 0, .int .i64 0]] w5 S4 := Sep.pick [0, 1, 2] hs (by decide) rfl
    refine from_pure 1 [(2, .pointer (some ⟨b2, 0, none⟩)), (11, .agg #[.int .i64 0, .slice a2 (List.length x2) c2, .slice a3 (List.length x3) c3, .slice none (List.length ([] : List Int)) 0, .int .i64 0, .slice none (List.length ([] : List Int)) 0, .int .i64 0, .int .i64 0])] hF (by kernel_rfl) fun fr hF => ?_
    refine q_storeBoxS 2 hs hM0 rfl [.int .i64 0, .slice a2 (List.length x2) c2, .slice a3 (List.length x3) c3, .slice none (List.length ([] : List Int)) 0, .int .i64 0, .slice none (List.length ([] : List Int)) 0, .int .i64 0, .int .i64 0] rfl hF rfl rfl (by kernel_rfl) rfl rfl rfl fun w6 S5 hs hp hF => ?_
    have hM0 := hM0.stp hp
    have hs : Sep [SL (α := Int) 3 (.slice a2 (List.length x2) c2) x2, SL (α := Int) 3 (.slice a3 (List.length x3) c3) x3, BX b2 28 [.int .i64 0, .slice a2 (List.length x2) c2, .slice a3 (List.length x3) c3, .slice none (List.length ([] : List Int)) 0, .int .i64 0, .slice none (List.length ([] : List Int)) 0, .int .i64 0, .int .i64 0]] w6 S5 := hs
    refine from_end rfl (then_normal ?_)
    have hbr := (hs.bx 2 rfl)
    have hs : Sep [SL (α := Int) 3 (.slice none (List.length ([] : List Int)) 0) ([] : List Int), SL (α := Int) 3 (.slice a2 (List.length x2) c2) x2, SL (α := Int) 3 (.slice a3 (List.length x3) c3) x3, BX b2 28 [.int .i64 0, .slice a2 (List.length x2) c2, .slice a3 (List.length x3) c3, .slice none (List.length ([] : List Int)) 0, .int .i64 0, .slice none (List.length ([] : List Int)) 0, .int .i64 0, .int .i64 0]] w6 S5 := hs.cons_nil (α := Int) 3
    have hs : Sep [SL (α := Int) 3 (.slice none (List.length ([] : List Int)) 0) ([] : List Int), SL (α := Int) 3 (.slice none (List.length ([] : List Int)) 0) ([] : List Int), SL (α := Int) 3 (.slice a2 (List.length x2) c2) x2, SL (α := Int) 3 (.slice a3 (List.length x3) c3) x3, BX b2 28 [.int .i64 0, .slice a2 (List.length x2) c2, .slice a3 (List.length x3) c3, .slice none (List.length ([] : List Int)) 0, .int .i64 0, .slice none (List.length ([] : List Int)) 0, .int .i64 0, .int .i64 0]] w6 S5 := hs.cons_nil (α := Int) 3
    obtain rfl := Option.some.inj h
    have hs : Sep [SL (α := Int) 3 (.slice a2 (List.length x2) c2) x2, SL (α := Int) 3 (.slice a3 (List.length x3) c3) x3, SL (α := Int) 3 (.slice none (List.length ([] : List Int)) 0) ([] : List Int), SL (α := Int) 3 (.slice none (List.length ([] : List Int)) 0) ([] : List Int)] w6 S5 := Sep.pick [2, 3, 1, 0] hs (by decide) rfl
    exact wp_ret (retS rfl hF ty28 rfl rfl hbr rfl ⟨_, rfl, a2, c2, a3, c3, none, 0, none, 0, rfl, S5, hM0.out, hs⟩)
end Go.Proofs.Ytbfphbpeajmihaa
