/- Printed by gen2.py: the walks. -/
import Derived.Test.YtmnodiloichdmaaDoorWlkA
set_option linter.unusedVariables false
set_option maxRecDepth 100000
namespace Go.Proofs.YtmnodiloichdmaaDoor
open Go.GL Go.Maps Go.WideMaps
theorem impl_insOk_ok (p0 : D.Ins) (p1 : Int) (p2 : Int) {r : Bool} (h : impl_insOk p0 p1 p2 = some r) {w : World} :
   Calls Tryd.prog 20 [.agg #[I p0.Op, I p0.A, I p0.B, I p0.C], I p1, I p2].toArray w fun e w' => ∃ v, e = .returned v ∧ v = .bool r ∧ Chg Non w w' := by
 unfold impl_insOk at h
 have hs := Sep.nil w Non
 have hM0 : Mem w Non (fun k => (False) ∧ k < w.heap.size) w Non (fun k => (False) ∧ k < w.heap.size) := Mem.start (fun _ h => h.elim) (fun _ h => h.2) (fun _ h => h.elim)
 refine enter (N := 102) Tryd.func20 rfl Tryd.ntmps20 rfl fun fr hF => ?_
 refine wp_seq (wp_text' ?_)
 refine q_box hs hM0 [I p0.Op, I p0.A, I p0.B, I p0.C] rfl rfl hF rfl rfl fun b1 w1 S1 fr hs hp hF => ?_
 have hM0 := hM0.stp hp
 have hs : Sep [BX b1 25 [I p0.Op, I p0.A, I p0.B, I p0.C]] w1 S1 := hs
 refine from_pure 1 [(1, I p1), (2, I p2), (3, B b1 0)] hF (by kernel_rfl) fun fr hF => ?_
 refine from_end rfl (then_normal ?_)
 refine wp_seq (region_b [] [true, false, true, true, true, false, true, true, true, true]
     [.eq (B b1 2), .eq (I p0.B), .eq (.bool (decide (p0.B ≥ 0))), .eq (.bool (decide (p0.B ≥ 0))), .eq (B b1 2), .eq (I p0.B), .eq (I p2), .eq (.bool (decide (p0.B ≤ p2))), .eq (.bool ((decide (p0.B ≥ 0)) && (decide (p0.B ≤ p2)))), .eq (.bool ((decide (p0.B ≥ 0)) && (decide (p0.B ≤ p2))))]
     [(1, I p1), (3, B b1 0), (7, .bool ((decide (p0.B ≥ 0)) && (decide (p0.B ≤ p2))))] mix hF (by kernel_rfl) (by kernel_rfl) (by kernel_rfl) ⟨Pd.mono_eq, Pd.mono_eq, trivial⟩ (fun hG => ⟨np_loadBox hG hF ty3 rfl rfl (hs.bx 0 rfl) rfl rfl rfl, np_loadBox hG hF ty3 rfl rfl (hs.bx 0 rfl) rfl rfl rfl, trivial⟩) (by kernel_rfl) fun fr w2 hF hE hc => then_normal ?_)
 have hs := hs.ext hc
 have hM0 := hM0.ext hc
 refine wp_seq ?_
 refine wp_seq (wp_text' ?_)
 refine from_pure 1 [(1, I p1), (3, B b1 0), (7, .bool ((decide (p0.B ≥ 0)) && (decide (p0.B ≤ p2)))), (17, B b1 0)] hF (by kernel_rfl) fun fr hF => ?_
 refine s_loadBox (I p0.Op) ty3 rfl rfl hF rfl (hs.bx 0 rfl) rfl rfl fun fr hF => ?_
 refine from_pure 1 [(1, I p1), (3, B b1 0), (7, .bool ((decide (p0.B ≥ 0)) && (decide (p0.B ≤ p2)))), (19, .bool (p0.Op == 3))] hF (by kernel_rfl) fun fr hF => ?_
 refine from_end rfl (then_normal ?_)
 refine (wp_if hF (b := (p0.Op == 3)) rfl (fun hb => ?_) (fun hb => ?_))
 · replace h := iteT hb h
   obtain ⟨x1, hx1, h⟩ := bindE h
   obtain ⟨x2, hx2, h⟩ := bindE h
   obtain ⟨x3, hx3, h⟩ := bindE h
   refine wp_seq (region_b [] [true, false, false, true, true, false, false, true, true, true, false, false, true, true]
       [.eq (B b1 1), .eq (I p0.A), .eq (.bool x1), .eq (.bool x1), .eq (B b1 2), .eq (I p0.B), .eq (.bool x2), .eq (.bool (x1 && x2)), .eq (.bool (x1 && x2)), .eq (B b1 3), .eq (I p0.C), .eq (.bool x3), .eq (.bool ((x1 && x2) && x3)), .eq (.bool ((x1 && x2) && x3))]
       [(6, .bool ((x1 && x2) && x3))] mix hF (by kernel_rfl) (by kernel_rfl) (by kernel_rfl) ⟨Pd.mono_eq, Pd.mono_eq, Pd.mono_eq, Pd.mono_eq, Pd.mono_eq, Pd.mono_eq, trivial⟩ (fun hG => ⟨np_loadBox hG hF ty3 rfl rfl (hs.bx 0 rfl) rfl rfl rfl, np_call [I p0.A] hG hF Tryd.call37 rfl rfl (fun w hC hg => (impl_isReg_ok p0.A hx1).mono fun e w' ⟨v, he, hv, hc⟩ => ⟨v, he, hc, hv⟩), np_loadBox hG hF ty3 rfl rfl (hs.bx 0 rfl) rfl rfl rfl, np_call [I p0.B] hG hF Tryd.call37 rfl rfl (fun w hC hg => (impl_isReg_ok p0.B (iteT hg.2 hx2)).mono fun e w' ⟨v, he, hv, hc⟩ => ⟨v, he, hc, hv⟩), np_loadBox hG hF ty3 rfl rfl (hs.bx 0 rfl) rfl rfl rfl, np_call [I p0.C] hG hF Tryd.call38 rfl rfl (fun w hC hg => (impl_isTwoWords_ok p0.C (iteT hg.2 hx3)).mono fun e w' ⟨v, he, hv, hc⟩ => ⟨v, he, hc, hv⟩), trivial⟩) (by kernel_rfl) fun fr w3 hF hE hc => then_normal ?_)
   have hs := hs.ext hc
   have hM0 := hM0.ext hc
   have hs : Sep [] w3 S1 := Sep.pick [] hs (by decide) rfl
   obtain rfl := Option.some.inj h
   exact wp_ret (then_ret (ret1 rfl hF rfl ⟨_, rfl, rfl, hM0.chg⟩))
 replace h := iteF hb h
 refine (wp_skip (then_normal ?_))
 refine wp_seq ?_
 refine wp_seq (wp_text' ?_)
 refine from_pure 1 [(1, I p1), (3, B b1 0), (7, .bool ((decide (p0.B ≥ 0)) && (decide (p0.B ≤ p2)))), (33, B b1 3)] hF (by kernel_rfl) fun fr hF => ?_
 refine s_loadBox (I p0.C) ty3 rfl rfl hF rfl (hs.bx 0 rfl) rfl rfl fun fr hF => ?_
 refine from_pure 1 [(1, I p1), (3, B b1 0), (7, .bool ((decide (p0.B ≥ 0)) && (decide (p0.B ≤ p2)))), (35, .bool (p0.C != 0))] hF (by kernel_rfl) fun fr hF => ?_
 refine from_end rfl (then_normal ?_)
 refine (wp_if hF (b := (p0.C != 0)) rfl (fun hb => ?_) (fun hb => ?_))
 · replace h := iteT hb h
   have hs : Sep [] w2 S1 := Sep.pick [] hs (by decide) rfl
   refine wp_seq (wp_pure [(6, .bool false)] hF (by kernel_rfl) fun fr hF => then_normal ?_)
   obtain rfl := Option.some.inj h
   exact wp_ret (then_ret (ret1 rfl hF rfl ⟨_, rfl, rfl, hM0.chg⟩))
 replace h := iteF hb h
 refine (wp_skip (then_normal ?_))
 refine wp_seq ?_
 refine wp_seq (wp_text' ?_)
 refine from_pure 1 [(1, I p1), (3, B b1 0), (7, .bool ((decide (p0.B ≥ 0)) && (decide (p0.B ≤ p2)))), (36, B b1 0)] hF (by kernel_rfl) fun fr hF => ?_
 refine s_loadBox (I p0.Op) ty3 rfl rfl hF rfl (hs.bx 0 rfl) rfl rfl fun fr hF => ?_
 refine from_end rfl (then_normal ?_)
 refine (wp_block ?_)
 refine wp_seq (wp_pure [(1, I p1), (3, B b1 0), (7, .bool ((decide (p0.B ≥ 0)) && (decide (p0.B ≤ p2)))), (37, I p0.Op), (38, .bool (p0.Op == 1))] hF (by kernel_rfl) fun fr hF => then_normal ?_)
 refine (wp_if hF (b := (p0.Op == 1)) rfl (fun hb => ?_) (fun hb => ?_))
 · replace h := iteT hb h
   obtain ⟨x4, hx4, h⟩ := bindE h
   obtain ⟨x5, hx5, h⟩ := bindE h
   refine wp_seq (region_b [] [true, false, false, true, true, true, false, false, true, true]
       [.eq (B b1 1), .eq (I p0.A), .eq (.bool x4), .eq (.bool x4), .eq (I p1), .eq (B b1 2), .eq (I p0.B), .eq (.bool x5), .eq (.bool (x4 && x5)), .eq (.bool (x4 && x5))]
       [(6, .bool (x4 && x5))] mix hF (by kernel_rfl) (by kernel_rfl) (by kernel_rfl) ⟨Pd.mono_eq, Pd.mono_eq, Pd.mono_eq, Pd.mono_eq, trivial⟩ (fun hG => ⟨np_loadBox hG hF ty3 rfl rfl (hs.bx 0 rfl) rfl rfl rfl, np_call [I p0.A] hG hF Tryd.call37 rfl rfl (fun w hC hg => (impl_isReg_ok p0.A hx4).mono fun e w' ⟨v, he, hv, hc⟩ => ⟨v, he, hc, hv⟩), np_loadBox hG hF ty3 rfl rfl (hs.bx 0 rfl) rfl rfl rfl, np_call [I p1, I p0.B] hG hF Tryd.call39 rfl rfl (fun w hC hg => (impl_WordOk_ok p1 p0.B (iteT hg.2 hx5)).mono fun e w' ⟨v, he, hv, hc⟩ => ⟨v, he, hc, hv⟩), trivial⟩) (by kernel_rfl) fun fr w4 hF hE hc => then_normal ?_)
   have hs := hs.ext hc
   have hM0 := hM0.ext hc
   have hs : Sep [] w4 S1 := Sep.pick [] hs (by decide) rfl
   obtain rfl := Option.some.inj h
   exact wp_ret (blk_ret (then_ret (ret1 rfl hF rfl ⟨_, rfl, rfl, hM0.chg⟩)))
 replace h := iteF hb h
 refine wp_seq ?_
 refine wp_seq (wp_pure [(3, B b1 0), (7, .bool ((decide (p0.B ≥ 0)) && (decide (p0.B ≤ p2)))), (37, I p0.Op), (49, .bool (p0.Op == 2))] hF (by kernel_rfl) fun fr hF => then_normal ?_)
 refine (wp_if hF (b := (p0.Op == 2)) rfl (fun hb => ?_) (fun hb => ?_))
 · replace h := iteT hb h
   refine (wp_skip (then_normal ?_))
   refine (wp_if hF (b := (p0.Op == 2)) rfl (fun hb => ?_) (fun hb => ?_))
   · replace h := iteT hb h
     obtain ⟨x6, hx6, h⟩ := bindE h
     obtain ⟨x7, hx7, h⟩ := bindE h
     refine wp_seq (region_b [] [true, false, false, true, true, false, false, true, true]
         [.eq (B b1 1), .eq (I p0.A), .eq (.bool x6), .eq (.bool x6), .eq (B b1 2), .eq (I p0.B), .eq (.bool x7), .eq (.bool (x6 && x7)), .eq (.bool (x6 && x7))]
         [(6, .bool (x6 && x7))] mix hF (by kernel_rfl) (by kernel_rfl) (by kernel_rfl) ⟨Pd.mono_eq, Pd.mono_eq, Pd.mono_eq, Pd.mono_eq, trivial⟩ (fun hG => ⟨np_loadBox hG hF ty3 rfl rfl (hs.bx 0 rfl) rfl rfl rfl, np_call [I p0.A] hG hF Tryd.call37 rfl rfl (fun w hC hg => (impl_isReg_ok p0.A hx6).mono fun e w' ⟨v, he, hv, hc⟩ => ⟨v, he, hc, hv⟩), np_loadBox hG hF ty3 rfl rfl (hs.bx 0 rfl) rfl rfl rfl, np_call [I p0.B] hG hF Tryd.call37 rfl rfl (fun w hC hg => (impl_isReg_ok p0.B (iteT hg.2 hx7)).mono fun e w' ⟨v, he, hv, hc⟩ => ⟨v, he, hc, hv⟩), trivial⟩) (by kernel_rfl) fun fr w5 hF hE hc => then_normal ?_)
     have hs := hs.ext hc
     have hM0 := hM0.ext hc
     have hs : Sep [] w5 S1 := Sep.pick [] hs (by decide) rfl
     obtain rfl := Option.some.inj h
     exact wp_ret (blk_ret (then_ret (ret1 rfl hF rfl ⟨_, rfl, rfl, hM0.chg⟩)))
   replace h := iteF hb h
   refine wp_seq ?_
   refine wp_seq (wp_pure [(3, B b1 0), (7, .bool ((decide (p0.B ≥ 0)) && (decide (p0.B ≤ p2)))), (37, I p0.Op), (61, .bool (p0.Op == 4))] hF (by kernel_rfl) fun fr hF => then_normal ?_)
   refine (wp_if hF (b := (p0.Op == 4)) rfl (fun hb => ?_) (fun hb => ?_))
   · replace h := iteT hb h
     refine (wp_skip (then_normal ?_))
     refine (wp_if hF (b := (p0.Op == 4)) rfl (fun hb => ?_) (fun hb => ?_))
     · replace h := iteT hb h
       obtain ⟨x8, hx8, h⟩ := bindE h
       refine wp_seq (region_b [] [true, false, false, true, true, false, true, true, true]
           [.eq (B b1 1), .eq (I p0.A), .eq (.bool x8), .eq (.bool x8), .eq (B b1 2), .eq (I p0.B), .eq (.bool (p0.B == 0)), .eq (.bool (x8 && (p0.B == 0))), .eq (.bool (x8 && (p0.B == 0)))]
           [(6, .bool (x8 && (p0.B == 0)))] mix hF (by kernel_rfl) (by kernel_rfl) (by kernel_rfl) ⟨Pd.mono_eq, Pd.mono_eq, Pd.mono_eq, trivial⟩ (fun hG => ⟨np_loadBox hG hF ty3 rfl rfl (hs.bx 0 rfl) rfl rfl rfl, np_call [I p0.A] hG hF Tryd.call37 rfl rfl (fun w hC hg => (impl_isReg_ok p0.A hx8).mono fun e w' ⟨v, he, hv, hc⟩ => ⟨v, he, hc, hv⟩), np_loadBox hG hF ty3 rfl rfl (hs.bx 0 rfl) rfl rfl rfl, trivial⟩) (by kernel_rfl) fun fr w6 hF hE hc => then_normal ?_)
       have hs := hs.ext hc
       have hM0 := hM0.ext hc
       have hs : Sep [] w6 S1 := Sep.pick [] hs (by decide) rfl
       obtain rfl := Option.some.inj h
       exact wp_ret (blk_ret (then_ret (ret1 rfl hF rfl ⟨_, rfl, rfl, hM0.chg⟩)))
     replace h := iteF hb h
     refine wp_seq ?_
     refine wp_seq (wp_pure [(3, B b1 0), (7, .bool ((decide (p0.B ≥ 0)) && (decide (p0.B ≤ p2)))), (37, I p0.Op), (74, .bool (p0.Op == 9))] hF (by kernel_rfl) fun fr hF => then_normal ?_)
     refine (wp_merge [(3, B b1 0), (7, .bool ((decide (p0.B ≥ 0)) && (decide (p0.B ≤ p2)))), (37, I p0.Op), (74, .bool ((p0.Op == 9) || (p0.Op == 11)))] hF (b := (p0.Op == 9)) rfl (fun hb => ?_) (fun hb => ?_) fun fr hF => then_normal ?_)
     · exact wp_skip ⟨rfl, rfl, (hF.sub [(3, B b1 0), (7, .bool ((decide (p0.B ≥ 0)) && (decide (p0.B ≤ p2)))), (37, I p0.Op), (74, .bool (p0.Op == 9))] (by kernel_rfl)).eqs (by first | (simp only [hb]; done) | (simp only [hb]; rfl))⟩
     · exact wp_pure [(3, B b1 0), (7, .bool ((decide (p0.B ≥ 0)) && (decide (p0.B ≤ p2)))), (37, I p0.Op), (74, .bool (p0.Op == 11))] hF (by kernel_rfl) fun fr hF => ⟨rfl, rfl, hF.eqs (by first | (simp only [hb]; done) | (simp only [hb]; rfl))⟩
     refine (wp_if hF (b := ((p0.Op == 9) || (p0.Op == 11))) rfl (fun hb => ?_) (fun hb => ?_))
     · replace h := iteT hb h
       refine wp_seq (region_b [] [true, false, true, true, true, true, true]
           [.eq (B b1 1), .eq (I p0.A), .eq (.bool (p0.A == 0)), .eq (.bool (p0.A == 0)), .eq (.bool ((decide (p0.B ≥ 0)) && (decide (p0.B ≤ p2)))), .eq (.bool ((p0.A == 0) && ((decide (p0.B ≥ 0)) && (decide (p0.B ≤ p2))))), .eq (.bool ((p0.A == 0) && ((decide (p0.B ≥ 0)) && (decide (p0.B ≤ p2)))))]
           [(6, .bool ((p0.A == 0) && ((decide (p0.B ≥ 0)) && (decide (p0.B ≤ p2)))))] mix hF (by kernel_rfl) (by kernel_rfl) (by kernel_rfl) ⟨Pd.mono_eq, trivial⟩ (fun hG => ⟨np_loadBox hG hF ty3 rfl rfl (hs.bx 0 rfl) rfl rfl rfl, trivial⟩) (by kernel_rfl) fun fr w7 hF hE hc => then_normal ?_)
       have hs := hs.ext hc
       have hM0 := hM0.ext hc
       have hs : Sep [] w7 S1 := Sep.pick [] hs (by decide) rfl
       obtain rfl := Option.some.inj h
       exact wp_ret (blk_ret (then_ret (ret1 rfl hF rfl ⟨_, rfl, rfl, hM0.chg⟩)))
     replace h := iteF hb h
     refine wp_seq (wp_pure [(3, B b1 0), (7, .bool ((decide (p0.B ≥ 0)) && (decide (p0.B ≤ p2)))), (37, I p0.Op), (83, .bool (p0.Op == 10))] hF (by kernel_rfl) fun fr hF => then_normal ?_)
     refine (wp_if hF (b := (p0.Op == 10)) rfl (fun hb => ?_) (fun hb => ?_))
     · replace h := iteT hb h
       obtain ⟨x9, hx9, h⟩ := bindE h
       refine wp_seq (region_b [] [true, false, false, true, true, true, true]
           [.eq (B b1 1), .eq (I p0.A), .eq (.bool x9), .eq (.bool x9), .eq (.bool ((decide (p0.B ≥ 0)) && (decide (p0.B ≤ p2)))), .eq (.bool (x9 && ((decide (p0.B ≥ 0)) && (decide (p0.B ≤ p2))))), .eq (.bool (x9 && ((decide (p0.B ≥ 0)) && (decide (p0.B ≤ p2)))))]
           [(6, .bool (x9 && ((decide (p0.B ≥ 0)) && (decide (p0.B ≤ p2)))))] mix hF (by kernel_rfl) (by kernel_rfl) (by kernel_rfl) ⟨Pd.mono_eq, Pd.mono_eq, trivial⟩ (fun hG => ⟨np_loadBox hG hF ty3 rfl rfl (hs.bx 0 rfl) rfl rfl rfl, np_call [I p0.A] hG hF Tryd.call37 rfl rfl (fun w hC hg => (impl_isReg_ok p0.A hx9).mono fun e w' ⟨v, he, hv, hc⟩ => ⟨v, he, hc, hv⟩), trivial⟩) (by kernel_rfl) fun fr w8 hF hE hc => then_normal ?_)
       have hs := hs.ext hc
       have hM0 := hM0.ext hc
       have hs : Sep [] w8 S1 := Sep.pick [] hs (by decide) rfl
       obtain rfl := Option.some.inj h
       exact wp_ret (blk_ret (then_ret (ret1 rfl hF rfl ⟨_, rfl, rfl, hM0.chg⟩)))
     replace h := iteF hb h
     refine wp_seq ?_
     refine wp_seq (wp_pure [(3, B b1 0), (37, I p0.Op), (91, .bool (p0.Op == 12))] hF (by kernel_rfl) fun fr hF => then_normal ?_)
     refine (wp_merge [(3, B b1 0), (91, .bool ((p0.Op == 12) || (p0.Op == 14)))] hF (b := (p0.Op == 12)) rfl (fun hb => ?_) (fun hb => ?_) fun fr hF => then_normal ?_)
     · exact wp_skip ⟨rfl, rfl, (hF.sub [(3, B b1 0), (91, .bool (p0.Op == 12))] (by kernel_rfl)).eqs (by first | (simp only [hb]; done) | (simp only [hb]; rfl))⟩
     · exact wp_pure [(3, B b1 0), (91, .bool (p0.Op == 14))] hF (by kernel_rfl) fun fr hF => ⟨rfl, rfl, hF.eqs (by first | (simp only [hb]; done) | (simp only [hb]; rfl))⟩
     refine (wp_if hF (b := ((p0.Op == 12) || (p0.Op == 14))) rfl (fun hb => ?_) (fun hb => ?_))
     · replace h := iteT hb h
       refine wp_seq (region_b [] [true, false, true, true, true, false, true, true, true]
           [.eq (B b1 1), .eq (I p0.A), .eq (.bool (p0.A == 0)), .eq (.bool (p0.A == 0)), .eq (B b1 2), .eq (I p0.B), .eq (.bool (p0.B == 0)), .eq (.bool ((p0.A == 0) && (p0.B == 0))), .eq (.bool ((p0.A == 0) && (p0.B == 0)))]
           [(6, .bool ((p0.A == 0) && (p0.B == 0)))] mix hF (by kernel_rfl) (by kernel_rfl) (by kernel_rfl) ⟨Pd.mono_eq, Pd.mono_eq, trivial⟩ (fun hG => ⟨np_loadBox hG hF ty3 rfl rfl (hs.bx 0 rfl) rfl rfl rfl, np_loadBox hG hF ty3 rfl rfl (hs.bx 0 rfl) rfl rfl rfl, trivial⟩) (by kernel_rfl) fun fr w9 hF hE hc => then_normal ?_)
       have hs := hs.ext hc
       have hM0 := hM0.ext hc
       have hs : Sep [] w9 S1 := Sep.pick [] hs (by decide) rfl
       obtain rfl := Option.some.inj h
       exact wp_ret (blk_ret (then_ret (ret1 rfl hF rfl ⟨_, rfl, rfl, hM0.chg⟩)))
     replace h := iteF hb h
     have hs : Sep [] w2 S1 := Sep.pick [] hs (by decide) rfl
     refine (wp_skip ?_)
     refine blk_normal (then_normal ?_)
     refine wp_seq (wp_pure [(6, .bool false)] hF (by kernel_rfl) fun fr hF => then_normal ?_)
     obtain rfl := Option.some.inj h
     exact wp_ret (ret1 rfl hF rfl ⟨_, rfl, rfl, hM0.chg⟩)
   replace h := iteF hb h
   refine wp_seq (wp_pure [(3, B b1 0), (7, .bool ((decide (p0.B ≥ 0)) && (decide (p0.B ≤ p2)))), (37, I p0.Op), (61, .bool (p0.Op == 5))] hF (by kernel_rfl) fun fr hF => then_normal ?_)
   refine (wp_if hF (b := (p0.Op == 5)) rfl (fun hb => ?_) (fun hb => ?_))
   · replace h := iteT hb h
     refine (wp_skip (then_normal ?_))
     refine (wp_if hF (b := (p0.Op == 5)) rfl (fun hb => ?_) (fun hb => ?_))
     · replace h := iteT hb h
       obtain ⟨x10, hx10, h⟩ := bindE h
       refine wp_seq (region_b [] [true, false, false, true, true, false, true, true, true]
           [.eq (B b1 1), .eq (I p0.A), .eq (.bool x10), .eq (.bool x10), .eq (B b1 2), .eq (I p0.B), .eq (.bool (p0.B == 0)), .eq (.bool (x10 && (p0.B == 0))), .eq (.bool (x10 && (p0.B == 0)))]
           [(6, .bool (x10 && (p0.B == 0)))] mix hF (by kernel_rfl) (by kernel_rfl) (by kernel_rfl) ⟨Pd.mono_eq, Pd.mono_eq, Pd.mono_eq, trivial⟩ (fun hG => ⟨np_loadBox hG hF ty3 rfl rfl (hs.bx 0 rfl) rfl rfl rfl, np_call [I p0.A] hG hF Tryd.call37 rfl rfl (fun w hC hg => (impl_isReg_ok p0.A hx10).mono fun e w' ⟨v, he, hv, hc⟩ => ⟨v, he, hc, hv⟩), np_loadBox hG hF ty3 rfl rfl (hs.bx 0 rfl) rfl rfl rfl, trivial⟩) (by kernel_rfl) fun fr w10 hF hE hc => then_normal ?_)
       have hs := hs.ext hc
       have hM0 := hM0.ext hc
       have hs : Sep [] w10 S1 := Sep.pick [] hs (by decide) rfl
       obtain rfl := Option.some.inj h
       exact wp_ret (blk_ret (then_ret (ret1 rfl hF rfl ⟨_, rfl, rfl, hM0.chg⟩)))
     replace h := iteF hb h
     refine wp_seq ?_
     refine wp_seq (wp_pure [(3, B b1 0), (7, .bool ((decide (p0.B ≥ 0)) && (decide (p0.B ≤ p2)))), (37, I p0.Op), (74, .bool (p0.Op == 9))] hF (by kernel_rfl) fun fr hF => then_normal ?_)
     refine (wp_merge [(3, B b1 0), (7, .bool ((decide (p0.B ≥ 0)) && (decide (p0.B ≤ p2)))), (37, I p0.Op), (74, .bool ((p0.Op == 9) || (p0.Op == 11)))] hF (b := (p0.Op == 9)) rfl (fun hb => ?_) (fun hb => ?_) fun fr hF => then_normal ?_)
     · exact wp_skip ⟨rfl, rfl, (hF.sub [(3, B b1 0), (7, .bool ((decide (p0.B ≥ 0)) && (decide (p0.B ≤ p2)))), (37, I p0.Op), (74, .bool (p0.Op == 9))] (by kernel_rfl)).eqs (by first | (simp only [hb]; done) | (simp only [hb]; rfl))⟩
     · exact wp_pure [(3, B b1 0), (7, .bool ((decide (p0.B ≥ 0)) && (decide (p0.B ≤ p2)))), (37, I p0.Op), (74, .bool (p0.Op == 11))] hF (by kernel_rfl) fun fr hF => ⟨rfl, rfl, hF.eqs (by first | (simp only [hb]; done) | (simp only [hb]; rfl))⟩
     refine (wp_if hF (b := ((p0.Op == 9) || (p0.Op == 11))) rfl (fun hb => ?_) (fun hb => ?_))
     · replace h := iteT hb h
       refine wp_seq (region_b [] [true, false, true, true, true, true, true]
           [.eq (B b1 1), .eq (I p0.A), .eq (.bool (p0.A == 0)), .eq (.bool (p0.A == 0)), .eq (.bool ((decide (p0.B ≥ 0)) && (decide (p0.B ≤ p2)))), .eq (.bool ((p0.A == 0) && ((decide (p0.B ≥ 0)) && (decide (p0.B ≤ p2))))), .eq (.bool ((p0.A == 0) && ((decide (p0.B ≥ 0)) && (decide (p0.B ≤ p2)))))]
           [(6, .bool ((p0.A == 0) && ((decide (p0.B ≥ 0)) && (decide (p0.B ≤ p2)))))] mix hF (by kernel_rfl) (by kernel_rfl) (by kernel_rfl) ⟨Pd.mono_eq, trivial⟩ (fun hG => ⟨np_loadBox hG hF ty3 rfl rfl (hs.bx 0 rfl) rfl rfl rfl, trivial⟩) (by kernel_rfl) fun fr w11 hF hE hc => then_normal ?_)
       have hs := hs.ext hc
       have hM0 := hM0.ext hc
       have hs : Sep [] w11 S1 := Sep.pick [] hs (by decide) rfl
       obtain rfl := Option.some.inj h
       exact wp_ret (blk_ret (then_ret (ret1 rfl hF rfl ⟨_, rfl, rfl, hM0.chg⟩)))
     replace h := iteF hb h
     refine wp_seq (wp_pure [(3, B b1 0), (7, .bool ((decide (p0.B ≥ 0)) && (decide (p0.B ≤ p2)))), (37, I p0.Op), (83, .bool (p0.Op == 10))] hF (by kernel_rfl) fun fr hF => then_normal ?_)
     refine (wp_if hF (b := (p0.Op == 10)) rfl (fun hb => ?_) (fun hb => ?_))
     · replace h := iteT hb h
       obtain ⟨x11, hx11, h⟩ := bindE h
       refine wp_seq (region_b [] [true, false, false, true, true, true, true]
           [.eq (B b1 1), .eq (I p0.A), .eq (.bool x11), .eq (.bool x11), .eq (.bool ((decide (p0.B ≥ 0)) && (decide (p0.B ≤ p2)))), .eq (.bool (x11 && ((decide (p0.B ≥ 0)) && (decide (p0.B ≤ p2))))), .eq (.bool (x11 && ((decide (p0.B ≥ 0)) && (decide (p0.B ≤ p2)))))]
           [(6, .bool (x11 && ((decide (p0.B ≥ 0)) && (decide (p0.B ≤ p2)))))] mix hF (by kernel_rfl) (by kernel_rfl) (by kernel_rfl) ⟨Pd.mono_eq, Pd.mono_eq, trivial⟩ (fun hG => ⟨np_loadBox hG hF ty3 rfl rfl (hs.bx 0 rfl) rfl rfl rfl, np_call [I p0.A] hG hF Tryd.call37 rfl rfl (fun w hC hg => (impl_isReg_ok p0.A hx11).mono fun e w' ⟨v, he, hv, hc⟩ => ⟨v, he, hc, hv⟩), trivial⟩) (by kernel_rfl) fun fr w12 hF hE hc => then_normal ?_)
       have hs := hs.ext hc
       have hM0 := hM0.ext hc
       have hs : Sep [] w12 S1 := Sep.pick [] hs (by decide) rfl
       obtain rfl := Option.some.inj h
       exact wp_ret (blk_ret (then_ret (ret1 rfl hF rfl ⟨_, rfl, rfl, hM0.chg⟩)))
     replace h := iteF hb h
     refine wp_seq ?_
     refine wp_seq (wp_pure [(3, B b1 0), (37, I p0.Op), (91, .bool (p0.Op == 12))] hF (by kernel_rfl) fun fr hF => then_normal ?_)
     refine (wp_merge [(3, B b1 0), (91, .bool ((p0.Op == 12) || (p0.Op == 14)))] hF (b := (p0.Op == 12)) rfl (fun hb => ?_) (fun hb => ?_) fun fr hF => then_normal ?_)
     · exact wp_skip ⟨rfl, rfl, (hF.sub [(3, B b1 0), (91, .bool (p0.Op == 12))] (by kernel_rfl)).eqs (by first | (simp only [hb]; done) | (simp only [hb]; rfl))⟩
     · exact wp_pure [(3, B b1 0), (91, .bool (p0.Op == 14))] hF (by kernel_rfl) fun fr hF => ⟨rfl, rfl, hF.eqs (by first | (simp only [hb]; done) | (simp only [hb]; rfl))⟩
     refine (wp_if hF (b := ((p0.Op == 12) || (p0.Op == 14))) rfl (fun hb => ?_) (fun hb => ?_))
     · replace h := iteT hb h
       refine wp_seq (region_b [] [true, false, true, true, true, false, true, true, true]
           [.eq (B b1 1), .eq (I p0.A), .eq (.bool (p0.A == 0)), .eq (.bool (p0.A == 0)), .eq (B b1 2), .eq (I p0.B), .eq (.bool (p0.B == 0)), .eq (.bool ((p0.A == 0) && (p0.B == 0))), .eq (.bool ((p0.A == 0) && (p0.B == 0)))]
           [(6, .bool ((p0.A == 0) && (p0.B == 0)))] mix hF (by kernel_rfl) (by kernel_rfl) (by kernel_rfl) ⟨Pd.mono_eq, Pd.mono_eq, trivial⟩ (fun hG => ⟨np_loadBox hG hF ty3 rfl rfl (hs.bx 0 rfl) rfl rfl rfl, np_loadBox hG hF ty3 rfl rfl (hs.bx 0 rfl) rfl rfl rfl, trivial⟩) (by kernel_rfl) fun fr w13 hF hE hc => then_normal ?_)
       have hs := hs.ext hc
       have hM0 := hM0.ext hc
       have hs : Sep [] w13 S1 := Sep.pick [] hs (by decide) rfl
       obtain rfl := Option.some.inj h
       exact wp_ret (blk_ret (then_ret (ret1 rfl hF rfl ⟨_, rfl, rfl, hM0.chg⟩)))
     replace h := iteF hb h
     have hs : Sep [] w2 S1 := Sep.pick [] hs (by decide) rfl
     refine (wp_skip ?_)
     refine blk_normal (then_normal ?_)
     refine wp_seq (wp_pure [(6, .bool false)] hF (by kernel_rfl) fun fr hF => then_normal ?_)
     obtain rfl := Option.some.inj h
     exact wp_ret (ret1 rfl hF rfl ⟨_, rfl, rfl, hM0.chg⟩)
   replace h := iteF hb h
   refine wp_seq (wp_pure [(3, B b1 0), (7, .bool ((decide (p0.B ≥ 0)) && (decide (p0.B ≤ p2)))), (37, I p0.Op), (61, .bool (p0.Op == 6))] hF (by kernel_rfl) fun fr hF => then_normal ?_)
   refine (wp_merge [(3, B b1 0), (7, .bool ((decide (p0.B ≥ 0)) && (decide (p0.B ≤ p2)))), (37, I p0.Op), (61, .bool ((p0.Op == 6) || (p0.Op == 13)))] hF (b := (p0.Op == 6)) rfl (fun hb => ?_) (fun hb => ?_) fun fr hF => then_normal ?_)
   · exact wp_skip ⟨rfl, rfl, (hF.sub [(3, B b1 0), (7, .bool ((decide (p0.B ≥ 0)) && (decide (p0.B ≤ p2)))), (37, I p0.Op), (61, .bool (p0.Op == 6))] (by kernel_rfl)).eqs (by first | (simp only [hb]; done) | (simp only [hb]; rfl))⟩
   · exact wp_pure [(3, B b1 0), (7, .bool ((decide (p0.B ≥ 0)) && (decide (p0.B ≤ p2)))), (37, I p0.Op), (61, .bool (p0.Op == 13))] hF (by kernel_rfl) fun fr hF => ⟨rfl, rfl, hF.eqs (by first | (simp only [hb]; done) | (simp only [hb]; rfl))⟩
   refine (wp_if hF (b := ((p0.Op == 6) || (p0.Op == 13))) rfl (fun hb => ?_) (fun hb => ?_))
   · replace h := iteT hb h
     obtain ⟨x12, hx12, h⟩ := bindE h
     refine wp_seq (region_b [] [true, false, false, true, true, false, true, true, true]
         [.eq (B b1 1), .eq (I p0.A), .eq (.bool x12), .eq (.bool x12), .eq (B b1 2), .eq (I p0.B), .eq (.bool (p0.B == 0)), .eq (.bool (x12 && (p0.B == 0))), .eq (.bool (x12 && (p0.B == 0)))]
         [(6, .bool (x12 && (p0.B == 0)))] mix hF (by kernel_rfl) (by kernel_rfl) (by kernel_rfl) ⟨Pd.mono_eq, Pd.mono_eq, Pd.mono_eq, trivial⟩ (fun hG => ⟨np_loadBox hG hF ty3 rfl rfl (hs.bx 0 rfl) rfl rfl rfl, np_call [I p0.A] hG hF Tryd.call37 rfl rfl (fun w hC hg => (impl_isReg_ok p0.A hx12).mono fun e w' ⟨v, he, hv, hc⟩ => ⟨v, he, hc, hv⟩), np_loadBox hG hF ty3 rfl rfl (hs.bx 0 rfl) rfl rfl rfl, trivial⟩) (by kernel_rfl) fun fr w14 hF hE hc => then_normal ?_)
     have hs := hs.ext hc
     have hM0 := hM0.ext hc
     have hs : Sep [] w14 S1 := Sep.pick [] hs (by decide) rfl
     obtain rfl := Option.some.inj h
     exact wp_ret (blk_ret (then_ret (ret1 rfl hF rfl ⟨_, rfl, rfl, hM0.chg⟩)))
   replace h := iteF hb h
   refine wp_seq ?_
   refine wp_seq (wp_pure [(3, B b1 0), (7, .bool ((decide (p0.B ≥ 0)) && (decide (p0.B ≤ p2)))), (37, I p0.Op), (74, .bool (p0.Op == 9))] hF (by kernel_rfl) fun fr hF => then_normal ?_)
   refine (wp_merge [(3, B b1 0), (7, .bool ((decide (p0.B ≥ 0)) && (decide (p0.B ≤ p2)))), (37, I p0.Op), (74, .bool ((p0.Op == 9) || (p0.Op == 11)))] hF (b := (p0.Op == 9)) rfl (fun hb => ?_) (fun hb => ?_) fun fr hF => then_normal ?_)
   · exact wp_skip ⟨rfl, rfl, (hF.sub [(3, B b1 0), (7, .bool ((decide (p0.B ≥ 0)) && (decide (p0.B ≤ p2)))), (37, I p0.Op), (74, .bool (p0.Op == 9))] (by kernel_rfl)).eqs (by first | (simp only [hb]; done) | (simp only [hb]; rfl))⟩
   · exact wp_pure [(3, B b1 0), (7, .bool ((decide (p0.B ≥ 0)) && (decide (p0.B ≤ p2)))), (37, I p0.Op), (74, .bool (p0.Op == 11))] hF (by kernel_rfl) fun fr hF => ⟨rfl, rfl, hF.eqs (by first | (simp only [hb]; done) | (simp only [hb]; rfl))⟩
   refine (wp_if hF (b := ((p0.Op == 9) || (p0.Op == 11))) rfl (fun hb => ?_) (fun hb => ?_))
   · replace h := iteT hb h
     refine wp_seq (region_b [] [true, false, true, true, true, true, true]
         [.eq (B b1 1), .eq (I p0.A), .eq (.bool (p0.A == 0)), .eq (.bool (p0.A == 0)), .eq (.bool ((decide (p0.B ≥ 0)) && (decide (p0.B ≤ p2)))), .eq (.bool ((p0.A == 0) && ((decide (p0.B ≥ 0)) && (decide (p0.B ≤ p2))))), .eq (.bool ((p0.A == 0) && ((decide (p0.B ≥ 0)) && (decide (p0.B ≤ p2)))))]
         [(6, .bool ((p0.A == 0) && ((decide (p0.B ≥ 0)) && (decide (p0.B ≤ p2)))))] mix hF (by kernel_rfl) (by kernel_rfl) (by kernel_rfl) ⟨Pd.mono_eq, trivial⟩ (fun hG => ⟨np_loadBox hG hF ty3 rfl rfl (hs.bx 0 rfl) rfl rfl rfl, trivial⟩) (by kernel_rfl) fun fr w15 hF hE hc => then_normal ?_)
     have hs := hs.ext hc
     have hM0 := hM0.ext hc
     have hs : Sep [] w15 S1 := Sep.pick [] hs (by decide) rfl
     obtain rfl := Option.some.inj h
     exact wp_ret (blk_ret (then_ret (ret1 rfl hF rfl ⟨_, rfl, rfl, hM0.chg⟩)))
   replace h := iteF hb h
   refine wp_seq (wp_pure [(3, B b1 0), (7, .bool ((decide (p0.B ≥ 0)) && (decide (p0.B ≤ p2)))), (37, I p0.Op), (83, .bool (p0.Op == 10))] hF (by kernel_rfl) fun fr hF => then_normal ?_)
   refine (wp_if hF (b := (p0.Op == 10)) rfl (fun hb => ?_) (fun hb => ?_))
   · replace h := iteT hb h
     obtain ⟨x13, hx13, h⟩ := bindE h
     refine wp_seq (region_b [] [true, false, false, true, true, true, true]
         [.eq (B b1 1), .eq (I p0.A), .eq (.bool x13), .eq (.bool x13), .eq (.bool ((decide (p0.B ≥ 0)) && (decide (p0.B ≤ p2)))), .eq (.bool (x13 && ((decide (p0.B ≥ 0)) && (decide (p0.B ≤ p2))))), .eq (.bool (x13 && ((decide (p0.B ≥ 0)) && (decide (p0.B ≤ p2)))))]
         [(6, .bool (x13 && ((decide (p0.B ≥ 0)) && (decide (p0.B ≤ p2)))))] mix hF (by kernel_rfl) (by kernel_rfl) (by kernel_rfl) ⟨Pd.mono_eq, Pd.mono_eq, trivial⟩ (fun hG => ⟨np_loadBox hG hF ty3 rfl rfl (hs.bx 0 rfl) rfl rfl rfl, np_call [I p0.A] hG hF Tryd.call37 rfl rfl (fun w hC hg => (impl_isReg_ok p0.A hx13).mono fun e w' ⟨v, he, hv, hc⟩ => ⟨v, he, hc, hv⟩), trivial⟩) (by kernel_rfl) fun fr w16 hF hE hc => then_normal ?_)
     have hs := hs.ext hc
     have hM0 := hM0.ext hc
     have hs : Sep [] w16 S1 := Sep.pick [] hs (by decide) rfl
     obtain rfl := Option.some.inj h
     exact wp_ret (blk_ret (then_ret (ret1 rfl hF rfl ⟨_, rfl, rfl, hM0.chg⟩)))
   replace h := iteF hb h
   refine wp_seq ?_
   refine wp_seq (wp_pure [(3, B b1 0), (37, I p0.Op), (91, .bool (p0.Op == 12))] hF (by kernel_rfl) fun fr hF => then_normal ?_)
   refine (wp_merge [(3, B b1 0), (91, .bool ((p0.Op == 12) || (p0.Op == 14)))] hF (b := (p0.Op == 12)) rfl (fun hb => ?_) (fun hb => ?_) fun fr hF => then_normal ?_)
   · exact wp_skip ⟨rfl, rfl, (hF.sub [(3, B b1 0), (91, .bool (p0.Op == 12))] (by kernel_rfl)).eqs (by first | (simp only [hb]; done) | (simp only [hb]; rfl))⟩
   · exact wp_pure [(3, B b1 0), (91, .bool (p0.Op == 14))] hF (by kernel_rfl) fun fr hF => ⟨rfl, rfl, hF.eqs (by first | (simp only [hb]; done) | (simp only [hb]; rfl))⟩
   refine (wp_if hF (b := ((p0.Op == 12) || (p0.Op == 14))) rfl (fun hb => ?_) (fun hb => ?_))
   · replace h := iteT hb h
     refine wp_seq (region_b [] [true, false, true, true, true, false, true, true, true]
         [.eq (B b1 1), .eq (I p0.A), .eq (.bool (p0.A == 0)), .eq (.bool (p0.A == 0)), .eq (B b1 2), .eq (I p0.B), .eq (.bool (p0.B == 0)), .eq (.bool ((p0.A == 0) && (p0.B == 0))), .eq (.bool ((p0.A == 0) && (p0.B == 0)))]
         [(6, .bool ((p0.A == 0) && (p0.B == 0)))] mix hF (by kernel_rfl) (by kernel_rfl) (by kernel_rfl) ⟨Pd.mono_eq, Pd.mono_eq, trivial⟩ (fun hG => ⟨np_loadBox hG hF ty3 rfl rfl (hs.bx 0 rfl) rfl rfl rfl, np_loadBox hG hF ty3 rfl rfl (hs.bx 0 rfl) rfl rfl rfl, trivial⟩) (by kernel_rfl) fun fr w17 hF hE hc => then_normal ?_)
     have hs := hs.ext hc
     have hM0 := hM0.ext hc
     have hs : Sep [] w17 S1 := Sep.pick [] hs (by decide) rfl
     obtain rfl := Option.some.inj h
     exact wp_ret (blk_ret (then_ret (ret1 rfl hF rfl ⟨_, rfl, rfl, hM0.chg⟩)))
   replace h := iteF hb h
   have hs : Sep [] w2 S1 := Sep.pick [] hs (by decide) rfl
   refine (wp_skip ?_)
   refine blk_normal (then_normal ?_)
   refine wp_seq (wp_pure [(6, .bool false)] hF (by kernel_rfl) fun fr hF => then_normal ?_)
   obtain rfl := Option.some.inj h
   exact wp_ret (ret1 rfl hF rfl ⟨_, rfl, rfl, hM0.chg⟩)
 replace h := iteF hb h
 refine wp_seq (wp_pure [(3, B b1 0), (7, .bool ((decide (p0.B ≥ 0)) && (decide (p0.B ≤ p2)))), (37, I p0.Op), (49, .bool (p0.Op == 7))] hF (by kernel_rfl) fun fr hF => then_normal ?_)
 refine (wp_merge [(3, B b1 0), (7, .bool ((decide (p0.B ≥ 0)) && (decide (p0.B ≤ p2)))), (37, I p0.Op), (49, .bool ((p0.Op == 7) || (p0.Op == 8)))] hF (b := (p0.Op == 7)) rfl (fun hb => ?_) (fun hb => ?_) fun fr hF => then_normal ?_)
 · exact wp_skip ⟨rfl, rfl, (hF.sub [(3, B b1 0), (7, .bool ((decide (p0.B ≥ 0)) && (decide (p0.B ≤ p2)))), (37, I p0.Op), (49, .bool (p0.Op == 7))] (by kernel_rfl)).eqs (by first | (simp only [hb]; done) | (simp only [hb]; rfl))⟩
 · exact wp_pure [(3, B b1 0), (7, .bool ((decide (p0.B ≥ 0)) && (decide (p0.B ≤ p2)))), (37, I p0.Op), (49, .bool (p0.Op == 8))] hF (by kernel_rfl) fun fr hF => ⟨rfl, rfl, hF.eqs (by first | (simp only [hb]; done) | (simp only [hb]; rfl))⟩
 refine (wp_if hF (b := ((p0.Op == 7) || (p0.Op == 8))) rfl (fun hb => ?_) (fun hb => ?_))
 · replace h := iteT hb h
   obtain ⟨x14, hx14, h⟩ := bindE h
   obtain ⟨x15, hx15, h⟩ := bindE h
   refine wp_seq (region_b [] [true, false, false, true, true, false, false, true, true]
       [.eq (B b1 1), .eq (I p0.A), .eq (.bool x14), .eq (.bool x14), .eq (B b1 2), .eq (I p0.B), .eq (.bool x15), .eq (.bool (x14 && x15)), .eq (.bool (x14 && x15))]
       [(6, .bool (x14 && x15))] mix hF (by kernel_rfl) (by kernel_rfl) (by kernel_rfl) ⟨Pd.mono_eq, Pd.mono_eq, Pd.mono_eq, Pd.mono_eq, trivial⟩ (fun hG => ⟨np_loadBox hG hF ty3 rfl rfl (hs.bx 0 rfl) rfl rfl rfl, np_call [I p0.A] hG hF Tryd.call37 rfl rfl (fun w hC hg => (impl_isReg_ok p0.A hx14).mono fun e w' ⟨v, he, hv, hc⟩ => ⟨v, he, hc, hv⟩), np_loadBox hG hF ty3 rfl rfl (hs.bx 0 rfl) rfl rfl rfl, np_call [I p0.B] hG hF Tryd.call37 rfl rfl (fun w hC hg => (impl_isReg_ok p0.B (iteT hg.2 hx15)).mono fun e w' ⟨v, he, hv, hc⟩ => ⟨v, he, hc, hv⟩), trivial⟩) (by kernel_rfl) fun fr w18 hF hE hc => then_normal ?_)
   have hs := hs.ext hc
   have hM0 := hM0.ext hc
   have hs : Sep [] w18 S1 := Sep.pick [] hs (by decide) rfl
   obtain rfl := Option.some.inj h
   exact wp_ret (blk_ret (then_ret (ret1 rfl hF rfl ⟨_, rfl, rfl, hM0.chg⟩)))
 replace h := iteF hb h
 refine wp_seq ?_
 refine wp_seq (wp_pure [(3, B b1 0), (7, .bool ((decide (p0.B ≥ 0)) && (decide (p0.B ≤ p2)))), (37, I p0.Op), (61, .bool (p0.Op == 4))] hF (by kernel_rfl) fun fr hF => then_normal ?_)
 refine (wp_if hF (b := (p0.Op == 4)) rfl (fun hb => ?_) (fun hb => ?_))
 · replace h := iteT hb h
   refine (wp_skip (then_normal ?_))
   refine (wp_if hF (b := (p0.Op == 4)) rfl (fun hb => ?_) (fun hb => ?_))
   · replace h := iteT hb h
     obtain ⟨x16, hx16, h⟩ := bindE h
     refine wp_seq (region_b [] [true, false, false, true, true, false, true, true, true]
         [.eq (B b1 1), .eq (I p0.A), .eq (.bool x16), .eq (.bool x16), .eq (B b1 2), .eq (I p0.B), .eq (.bool (p0.B == 0)), .eq (.bool (x16 && (p0.B == 0))), .eq (.bool (x16 && (p0.B == 0)))]
         [(6, .bool (x16 && (p0.B == 0)))] mix hF (by kernel_rfl) (by kernel_rfl) (by kernel_rfl) ⟨Pd.mono_eq, Pd.mono_eq, Pd.mono_eq, trivial⟩ (fun hG => ⟨np_loadBox hG hF ty3 rfl rfl (hs.bx 0 rfl) rfl rfl rfl, np_call [I p0.A] hG hF Tryd.call37 rfl rfl (fun w hC hg => (impl_isReg_ok p0.A hx16).mono fun e w' ⟨v, he, hv, hc⟩ => ⟨v, he, hc, hv⟩), np_loadBox hG hF ty3 rfl rfl (hs.bx 0 rfl) rfl rfl rfl, trivial⟩) (by kernel_rfl) fun fr w19 hF hE hc => then_normal ?_)
     have hs := hs.ext hc
     have hM0 := hM0.ext hc
     have hs : Sep [] w19 S1 := Sep.pick [] hs (by decide) rfl
     obtain rfl := Option.some.inj h
     exact wp_ret (blk_ret (then_ret (ret1 rfl hF rfl ⟨_, rfl, rfl, hM0.chg⟩)))
   replace h := iteF hb h
   refine wp_seq ?_
   refine wp_seq (wp_pure [(3, B b1 0), (7, .bool ((decide (p0.B ≥ 0)) && (decide (p0.B ≤ p2)))), (37, I p0.Op), (74, .bool (p0.Op == 9))] hF (by kernel_rfl) fun fr hF => then_normal ?_)
   refine (wp_merge [(3, B b1 0), (7, .bool ((decide (p0.B ≥ 0)) && (decide (p0.B ≤ p2)))), (37, I p0.Op), (74, .bool ((p0.Op == 9) || (p0.Op == 11)))] hF (b := (p0.Op == 9)) rfl (fun hb => ?_) (fun hb => ?_) fun fr hF => then_normal ?_)
   · exact wp_skip ⟨rfl, rfl, (hF.sub [(3, B b1 0), (7, .bool ((decide (p0.B ≥ 0)) && (decide (p0.B ≤ p2)))), (37, I p0.Op), (74, .bool (p0.Op == 9))] (by kernel_rfl)).eqs (by first | (simp only [hb]; done) | (simp only [hb]; rfl))⟩
   · exact wp_pure [(3, B b1 0), (7, .bool ((decide (p0.B ≥ 0)) && (decide (p0.B ≤ p2)))), (37, I p0.Op), (74, .bool (p0.Op == 11))] hF (by kernel_rfl) fun fr hF => ⟨rfl, rfl, hF.eqs (by first | (simp only [hb]; done) | (simp only [hb]; rfl))⟩
   refine (wp_if hF (b := ((p0.Op == 9) || (p0.Op == 11))) rfl (fun hb => ?_) (fun hb => ?_))
   · replace h := iteT hb h
     refine wp_seq (region_b [] [true, false, true, true, true, true, true]
         [.eq (B b1 1), .eq (I p0.A), .eq (.bool (p0.A == 0)), .eq (.bool (p0.A == 0)), .eq (.bool ((decide (p0.B ≥ 0)) && (decide (p0.B ≤ p2)))), .eq (.bool ((p0.A == 0) && ((decide (p0.B ≥ 0)) && (decide (p0.B ≤ p2))))), .eq (.bool ((p0.A == 0) && ((decide (p0.B ≥ 0)) && (decide (p0.B ≤ p2)))))]
         [(6, .bool ((p0.A == 0) && ((decide (p0.B ≥ 0)) && (decide (p0.B ≤ p2)))))] mix hF (by kernel_rfl) (by kernel_rfl) (by kernel_rfl) ⟨Pd.mono_eq, trivial⟩ (fun hG => ⟨np_loadBox hG hF ty3 rfl rfl (hs.bx 0 rfl) rfl rfl rfl, trivial⟩) (by kernel_rfl) fun fr w20 hF hE hc => then_normal ?_)
     have hs := hs.ext hc
     have hM0 := hM0.ext hc
     have hs : Sep [] w20 S1 := Sep.pick [] hs (by decide) rfl
     obtain rfl := Option.some.inj h
     exact wp_ret (blk_ret (then_ret (ret1 rfl hF rfl ⟨_, rfl, rfl, hM0.chg⟩)))
   replace h := iteF hb h
   refine wp_seq (wp_pure [(3, B b1 0), (7, .bool ((decide (p0.B ≥ 0)) && (decide (p0.B ≤ p2)))), (37, I p0.Op), (83, .bool (p0.Op == 10))] hF (by kernel_rfl) fun fr hF => then_normal ?_)
   refine (wp_if hF (b := (p0.Op == 10)) rfl (fun hb => ?_) (fun hb => ?_))
   · replace h := iteT hb h
     obtain ⟨x17, hx17, h⟩ := bindE h
     refine wp_seq (region_b [] [true, false, false, true, true, true, true]
         [.eq (B b1 1), .eq (I p0.A), .eq (.bool x17), .eq (.bool x17), .eq (.bool ((decide (p0.B ≥ 0)) && (decide (p0.B ≤ p2)))), .eq (.bool (x17 && ((decide (p0.B ≥ 0)) && (decide (p0.B ≤ p2))))), .eq (.bool (x17 && ((decide (p0.B ≥ 0)) && (decide (p0.B ≤ p2)))))]
         [(6, .bool (x17 && ((decide (p0.B ≥ 0)) && (decide (p0.B ≤ p2)))))] mix hF (by kernel_rfl) (by kernel_rfl) (by kernel_rfl) ⟨Pd.mono_eq, Pd.mono_eq, trivial⟩ (fun hG => ⟨np_loadBox hG hF ty3 rfl rfl (hs.bx 0 rfl) rfl rfl rfl, np_call [I p0.A] hG hF Tryd.call37 rfl rfl (fun w hC hg => (impl_isReg_ok p0.A hx17).mono fun e w' ⟨v, he, hv, hc⟩ => ⟨v, he, hc, hv⟩), trivial⟩) (by kernel_rfl) fun fr w21 hF hE hc => then_normal ?_)
     have hs := hs.ext hc
     have hM0 := hM0.ext hc
     have hs : Sep [] w21 S1 := Sep.pick [] hs (by decide) rfl
     obtain rfl := Option.some.inj h
     exact wp_ret (blk_ret (then_ret (ret1 rfl hF rfl ⟨_, rfl, rfl, hM0.chg⟩)))
   replace h := iteF hb h
   refine wp_seq ?_
   refine wp_seq (wp_pure [(3, B b1 0), (37, I p0.Op), (91, .bool (p0.Op == 12))] hF (by kernel_rfl) fun fr hF => then_normal ?_)
   refine (wp_merge [(3, B b1 0), (91, .bool ((p0.Op == 12) || (p0.Op == 14)))] hF (b := (p0.Op == 12)) rfl (fun hb => ?_) (fun hb => ?_) fun fr hF => then_normal ?_)
   · exact wp_skip ⟨rfl, rfl, (hF.sub [(3, B b1 0), (91, .bool (p0.Op == 12))] (by kernel_rfl)).eqs (by first | (simp only [hb]; done) | (simp only [hb]; rfl))⟩
   · exact wp_pure [(3, B b1 0), (91, .bool (p0.Op == 14))] hF (by kernel_rfl) fun fr hF => ⟨rfl, rfl, hF.eqs (by first | (simp only [hb]; done) | (simp only [hb]; rfl))⟩
   refine (wp_if hF (b := ((p0.Op == 12) || (p0.Op == 14))) rfl (fun hb => ?_) (fun hb => ?_))
   · replace h := iteT hb h
     refine wp_seq (region_b [] [true, false, true, true, true, false, true, true, true]
         [.eq (B b1 1), .eq (I p0.A), .eq (.bool (p0.A == 0)), .eq (.bool (p0.A == 0)), .eq (B b1 2), .eq (I p0.B), .eq (.bool (p0.B == 0)), .eq (.bool ((p0.A == 0) && (p0.B == 0))), .eq (.bool ((p0.A == 0) && (p0.B == 0)))]
         [(6, .bool ((p0.A == 0) && (p0.B == 0)))] mix hF (by kernel_rfl) (by kernel_rfl) (by kernel_rfl) ⟨Pd.mono_eq, Pd.mono_eq, trivial⟩ (fun hG => ⟨np_loadBox hG hF ty3 rfl rfl (hs.bx 0 rfl) rfl rfl rfl, np_loadBox hG hF ty3 rfl rfl (hs.bx 0 rfl) rfl rfl rfl, trivial⟩) (by kernel_rfl) fun fr w22 hF hE hc => then_normal ?_)
     have hs := hs.ext hc
     have hM0 := hM0.ext hc
     have hs : Sep [] w22 S1 := Sep.pick [] hs (by decide) rfl
     obtain rfl := Option.some.inj h
     exact wp_ret (blk_ret (then_ret (ret1 rfl hF rfl ⟨_, rfl, rfl, hM0.chg⟩)))
   replace h := iteF hb h
   have hs : Sep [] w2 S1 := Sep.pick [] hs (by decide) rfl
   refine (wp_skip ?_)
   refine blk_normal (then_normal ?_)
   refine wp_seq (wp_pure [(6, .bool false)] hF (by kernel_rfl) fun fr hF => then_normal ?_)
   obtain rfl := Option.some.inj h
   exact wp_ret (ret1 rfl hF rfl ⟨_, rfl, rfl, hM0.chg⟩)
 replace h := iteF hb h
 refine wp_seq (wp_pure [(3, B b1 0), (7, .bool ((decide (p0.B ≥ 0)) && (decide (p0.B ≤ p2)))), (37, I p0.Op), (61, .bool (p0.Op == 5))] hF (by kernel_rfl) fun fr hF => then_normal ?_)
 refine (wp_if hF (b := (p0.Op == 5)) rfl (fun hb => ?_) (fun hb => ?_))
 · replace h := iteT hb h
   refine (wp_skip (then_normal ?_))
   refine (wp_if hF (b := (p0.Op == 5)) rfl (fun hb => ?_) (fun hb => ?_))
   · replace h := iteT hb h
     obtain ⟨x18, hx18, h⟩ := bindE h
     refine wp_seq (region_b [] [true, false, false, true, true, false, true, true, true]
         [.eq (B b1 1), .eq (I p0.A), .eq (.bool x18), .eq (.bool x18), .eq (B b1 2), .eq (I p0.B), .eq (.bool (p0.B == 0)), .eq (.bool (x18 && (p0.B == 0))), .eq (.bool (x18 && (p0.B == 0)))]
         [(6, .bool (x18 && (p0.B == 0)))] mix hF (by kernel_rfl) (by kernel_rfl) (by kernel_rfl) ⟨Pd.mono_eq, Pd.mono_eq, Pd.mono_eq, trivial⟩ (fun hG => ⟨np_loadBox hG hF ty3 rfl rfl (hs.bx 0 rfl) rfl rfl rfl, np_call [I p0.A] hG hF Tryd.call37 rfl rfl (fun w hC hg => (impl_isReg_ok p0.A hx18).mono fun e w' ⟨v, he, hv, hc⟩ => ⟨v, he, hc, hv⟩), np_loadBox hG hF ty3 rfl rfl (hs.bx 0 rfl) rfl rfl rfl, trivial⟩) (by kernel_rfl) fun fr w23 hF hE hc => then_normal ?_)
     have hs := hs.ext hc
     have hM0 := hM0.ext hc
     have hs : Sep [] w23 S1 := Sep.pick [] hs (by decide) rfl
     obtain rfl := Option.some.inj h
     exact wp_ret (blk_ret (then_ret (ret1 rfl hF rfl ⟨_, rfl, rfl, hM0.chg⟩)))
   replace h := iteF hb h
   refine wp_seq ?_
   refine wp_seq (wp_pure [(3, B b1 0), (7, .bool ((decide (p0.B ≥ 0)) && (decide (p0.B ≤ p2)))), (37, I p0.Op), (74, .bool (p0.Op == 9))] hF (by kernel_rfl) fun fr hF => then_normal ?_)
   refine (wp_merge [(3, B b1 0), (7, .bool ((decide (p0.B ≥ 0)) && (decide (p0.B ≤ p2)))), (37, I p0.Op), (74, .bool ((p0.Op == 9) || (p0.Op == 11)))] hF (b := (p0.Op == 9)) rfl (fun hb => ?_) (fun hb => ?_) fun fr hF => then_normal ?_)
   · exact wp_skip ⟨rfl, rfl, (hF.sub [(3, B b1 0), (7, .bool ((decide (p0.B ≥ 0)) && (decide (p0.B ≤ p2)))), (37, I p0.Op), (74, .bool (p0.Op == 9))] (by kernel_rfl)).eqs (by first | (simp only [hb]; done) | (simp only [hb]; rfl))⟩
   · exact wp_pure [(3, B b1 0), (7, .bool ((decide (p0.B ≥ 0)) && (decide (p0.B ≤ p2)))), (37, I p0.Op), (74, .bool (p0.Op == 11))] hF (by kernel_rfl) fun fr hF => ⟨rfl, rfl, hF.eqs (by first | (simp only [hb]; done) | (simp only [hb]; rfl))⟩
   refine (wp_if hF (b := ((p0.Op == 9) || (p0.Op == 11))) rfl (fun hb => ?_) (fun hb => ?_))
   · replace h := iteT hb h
     refine wp_seq (region_b [] [true, false, true, true, true, true, true]
         [.eq (B b1 1), .eq (I p0.A), .eq (.bool (p0.A == 0)), .eq (.bool (p0.A == 0)), .eq (.bool ((decide (p0.B ≥ 0)) && (decide (p0.B ≤ p2)))), .eq (.bool ((p0.A == 0) && ((decide (p0.B ≥ 0)) && (decide (p0.B ≤ p2))))), .eq (.bool ((p0.A == 0) && ((decide (p0.B ≥ 0)) && (decide (p0.B ≤ p2)))))]
         [(6, .bool ((p0.A == 0) && ((decide (p0.B ≥ 0)) && (decide (p0.B ≤ p2)))))] mix hF (by kernel_rfl) (by kernel_rfl) (by kernel_rfl) ⟨Pd.mono_eq, trivial⟩ (fun hG => ⟨np_loadBox hG hF ty3 rfl rfl (hs.bx 0 rfl) rfl rfl rfl, trivial⟩) (by kernel_rfl) fun fr w24 hF hE hc => then_normal ?_)
     have hs := hs.ext hc
     have hM0 := hM0.ext hc
     have hs : Sep [] w24 S1 := Sep.pick [] hs (by decide) rfl
     obtain rfl := Option.some.inj h
     exact wp_ret (blk_ret (then_ret (ret1 rfl hF rfl ⟨_, rfl, rfl, hM0.chg⟩)))
   replace h := iteF hb h
   refine wp_seq (wp_pure [(3, B b1 0), (7, .bool ((decide (p0.B ≥ 0)) && (decide (p0.B ≤ p2)))), (37, I p0.Op), (83, .bool (p0.Op == 10))] hF (by kernel_rfl) fun fr hF => then_normal ?_)
   refine (wp_if hF (b := (p0.Op == 10)) rfl (fun hb => ?_) (fun hb => ?_))
   · replace h := iteT hb h
     obtain ⟨x19, hx19, h⟩ := bindE h
     refine wp_seq (region_b [] [true, false, false, true, true, true, true]
         [.eq (B b1 1), .eq (I p0.A), .eq (.bool x19), .eq (.bool x19), .eq (.bool ((decide (p0.B ≥ 0)) && (decide (p0.B ≤ p2)))), .eq (.bool (x19 && ((decide (p0.B ≥ 0)) && (decide (p0.B ≤ p2))))), .eq (.bool (x19 && ((decide (p0.B ≥ 0)) && (decide (p0.B ≤ p2)))))]
         [(6, .bool (x19 && ((decide (p0.B ≥ 0)) && (decide (p0.B ≤ p2)))))] mix hF (by kernel_rfl) (by kernel_rfl) (by kernel_rfl) ⟨Pd.mono_eq, Pd.mono_eq, trivial⟩ (fun hG => ⟨np_loadBox hG hF ty3 rfl rfl (hs.bx 0 rfl) rfl rfl rfl, np_call [I p0.A] hG hF Tryd.call37 rfl rfl (fun w hC hg => (impl_isReg_ok p0.A hx19).mono fun e w' ⟨v, he, hv, hc⟩ => ⟨v, he, hc, hv⟩), trivial⟩) (by kernel_rfl) fun fr w25 hF hE hc => then_normal ?_)
     have hs := hs.ext hc
     have hM0 := hM0.ext hc
     have hs : Sep [] w25 S1 := Sep.pick [] hs (by decide) rfl
     obtain rfl := Option.some.inj h
     exact wp_ret (blk_ret (then_ret (ret1 rfl hF rfl ⟨_, rfl, rfl, hM0.chg⟩)))
   replace h := iteF hb h
   refine wp_seq ?_
   refine wp_seq (wp_pure [(3, B b1 0), (37, I p0.Op), (91, .bool (p0.Op == 12))] hF (by kernel_rfl) fun fr hF => then_normal ?_)
   refine (wp_merge [(3, B b1 0), (91, .bool ((p0.Op == 12) || (p0.Op == 14)))] hF (b := (p0.Op == 12)) rfl (fun hb => ?_) (fun hb => ?_) fun fr hF => then_normal ?_)
   · exact wp_skip ⟨rfl, rfl, (hF.sub [(3, B b1 0), (91, .bool (p0.Op == 12))] (by kernel_rfl)).eqs (by first | (simp only [hb]; done) | (simp only [hb]; rfl))⟩
   · exact wp_pure [(3, B b1 0), (91, .bool (p0.Op == 14))] hF (by kernel_rfl) fun fr hF => ⟨rfl, rfl, hF.eqs (by first | (simp only [hb]; done) | (simp only [hb]; rfl))⟩
   refine (wp_if hF (b := ((p0.Op == 12) || (p0.Op == 14))) rfl (fun hb => ?_) (fun hb => ?_))
   · replace h := iteT hb h
     refine wp_seq (region_b [] [true, false, true, true, true, false, true, true, true]
         [.eq (B b1 1), .eq (I p0.A), .eq (.bool (p0.A == 0)), .eq (.bool (p0.A == 0)), .eq (B b1 2), .eq (I p0.B), .eq (.bool (p0.B == 0)), .eq (.bool ((p0.A == 0) && (p0.B == 0))), .eq (.bool ((p0.A == 0) && (p0.B == 0)))]
         [(6, .bool ((p0.A == 0) && (p0.B == 0)))] mix hF (by kernel_rfl) (by kernel_rfl) (by kernel_rfl) ⟨Pd.mono_eq, Pd.mono_eq, trivial⟩ (fun hG => ⟨np_loadBox hG hF ty3 rfl rfl (hs.bx 0 rfl) rfl rfl rfl, np_loadBox hG hF ty3 rfl rfl (hs.bx 0 rfl) rfl rfl rfl, trivial⟩) (by kernel_rfl) fun fr w26 hF hE hc => then_normal ?_)
     have hs := hs.ext hc
     have hM0 := hM0.ext hc
     have hs : Sep [] w26 S1 := Sep.pick [] hs (by decide) rfl
     obtain rfl := Option.some.inj h
     exact wp_ret (blk_ret (then_ret (ret1 rfl hF rfl ⟨_, rfl, rfl, hM0.chg⟩)))
   replace h := iteF hb h
   have hs : Sep [] w2 S1 := Sep.pick [] hs (by decide) rfl
   refine (wp_skip ?_)
   refine blk_normal (then_normal ?_)
   refine wp_seq (wp_pure [(6, .bool false)] hF (by kernel_rfl) fun fr hF => then_normal ?_)
   obtain rfl := Option.some.inj h
   exact wp_ret (ret1 rfl hF rfl ⟨_, rfl, rfl, hM0.chg⟩)
 replace h := iteF hb h
 refine wp_seq (wp_pure [(3, B b1 0), (7, .bool ((decide (p0.B ≥ 0)) && (decide (p0.B ≤ p2)))), (37, I p0.Op), (61, .bool (p0.Op == 6))] hF (by kernel_rfl) fun fr hF => then_normal ?_)
 refine (wp_merge [(3, B b1 0), (7, .bool ((decide (p0.B ≥ 0)) && (decide (p0.B ≤ p2)))), (37, I p0.Op), (61, .bool ((p0.Op == 6) || (p0.Op == 13)))] hF (b := (p0.Op == 6)) rfl (fun hb => ?_) (fun hb => ?_) fun fr hF => then_normal ?_)
 · exact wp_skip ⟨rfl, rfl, (hF.sub [(3, B b1 0), (7, .bool ((decide (p0.B ≥ 0)) && (decide (p0.B ≤ p2)))), (37, I p0.Op), (61, .bool (p0.Op == 6))] (by kernel_rfl)).eqs (by first | (simp only [hb]; done) | (simp only [hb]; rfl))⟩
 · exact wp_pure [(3, B b1 0), (7, .bool ((decide (p0.B ≥ 0)) && (decide (p0.B ≤ p2)))), (37, I p0.Op), (61, .bool (p0.Op == 13))] hF (by kernel_rfl) fun fr hF => ⟨rfl, rfl, hF.eqs (by first | (simp only [hb]; done) | (simp only [hb]; rfl))⟩
 refine (wp_if hF (b := ((p0.Op == 6) || (p0.Op == 13))) rfl (fun hb => ?_) (fun hb => ?_))
 · replace h := iteT hb h
   obtain ⟨x20, hx20, h⟩ := bindE h
   refine wp_seq (region_b [] [true, false, false, true, true, false, true, true, true]
       [.eq (B b1 1), .eq (I p0.A), .eq (.bool x20), .eq (.bool x20), .eq (B b1 2), .eq (I p0.B), .eq (.bool (p0.B == 0)), .eq (.bool (x20 && (p0.B == 0))), .eq (.bool (x20 && (p0.B == 0)))]
       [(6, .bool (x20 && (p0.B == 0)))] mix hF (by kernel_rfl) (by kernel_rfl) (by kernel_rfl) ⟨Pd.mono_eq, Pd.mono_eq, Pd.mono_eq, trivial⟩ (fun hG => ⟨np_loadBox hG hF ty3 rfl rfl (hs.bx 0 rfl) rfl rfl rfl, np_call [I p0.A] hG hF Tryd.call37 rfl rfl (fun w hC hg => (impl_isReg_ok p0.A hx20).mono fun e w' ⟨v, he, hv, hc⟩ => ⟨v, he, hc, hv⟩), np_loadBox hG hF ty3 rfl rfl (hs.bx 0 rfl) rfl rfl rfl, trivial⟩) (by kernel_rfl) fun fr w27 hF hE hc => then_normal ?_)
   have hs := hs.ext hc
   have hM0 := hM0.ext hc
   have hs : Sep [] w27 S1 := Sep.pick [] hs (by decide) rfl
   obtain rfl := Option.some.inj h
   exact wp_ret (blk_ret (then_ret (ret1 rfl hF rfl ⟨_, rfl, rfl, hM0.chg⟩)))
 replace h := iteF hb h
 refine wp_seq ?_
 refine wp_seq (wp_pure [(3, B b1 0), (7, .bool ((decide (p0.B ≥ 0)) && (decide (p0.B ≤ p2)))), (37, I p0.Op), (74, .bool (p0.Op == 9))] hF (by kernel_rfl) fun fr hF => then_normal ?_)
 refine (wp_merge [(3, B b1 0), (7, .bool ((decide (p0.B ≥ 0)) && (decide (p0.B ≤ p2)))), (37, I p0.Op), (74, .bool ((p0.Op == 9) || (p0.Op == 11)))] hF (b := (p0.Op == 9)) rfl (fun hb => ?_) (fun hb => ?_) fun fr hF => then_normal ?_)
 · exact wp_skip ⟨rfl, rfl, (hF.sub [(3, B b1 0), (7, .bool ((decide (p0.B ≥ 0)) && (decide (p0.B ≤ p2)))), (37, I p0.Op), (74, .bool (p0.Op == 9))] (by kernel_rfl)).eqs (by first | (simp only [hb]; done) | (simp only [hb]; rfl))⟩
 · exact wp_pure [(3, B b1 0), (7, .bool ((decide (p0.B ≥ 0)) && (decide (p0.B ≤ p2)))), (37, I p0.Op), (74, .bool (p0.Op == 11))] hF (by kernel_rfl) fun fr hF => ⟨rfl, rfl, hF.eqs (by first | (simp only [hb]; done) | (simp only [hb]; rfl))⟩
 refine (wp_if hF (b := ((p0.Op == 9) || (p0.Op == 11))) rfl (fun hb => ?_) (fun hb => ?_))
 · replace h := iteT hb h
   refine wp_seq (region_b [] [true, false, true, true, true, true, true]
       [.eq (B b1 1), .eq (I p0.A), .eq (.bool (p0.A == 0)), .eq (.bool (p0.A == 0)), .eq (.bool ((decide (p0.B ≥ 0)) && (decide (p0.B ≤ p2)))), .eq (.bool ((p0.A == 0) && ((decide (p0.B ≥ 0)) && (decide (p0.B ≤ p2))))), .eq (.bool ((p0.A == 0) && ((decide (p0.B ≥ 0)) && (decide (p0.B ≤ p2)))))]
       [(6, .bool ((p0.A == 0) && ((decide (p0.B ≥ 0)) && (decide (p0.B ≤ p2)))))] mix hF (by kernel_rfl) (by kernel_rfl) (by kernel_rfl) ⟨Pd.mono_eq, trivial⟩ (fun hG => ⟨np_loadBox hG hF ty3 rfl rfl (hs.bx 0 rfl) rfl rfl rfl, trivial⟩) (by kernel_rfl) fun fr w28 hF hE hc => then_normal ?_)
   have hs := hs.ext hc
   have hM0 := hM0.ext hc
   have hs : Sep [] w28 S1 := Sep.pick [] hs (by decide) rfl
   obtain rfl := Option.some.inj h
   exact wp_ret (blk_ret (then_ret (ret1 rfl hF rfl ⟨_, rfl, rfl, hM0.chg⟩)))
 replace h := iteF hb h
 refine wp_seq (wp_pure [(3, B b1 0), (7, .bool ((decide (p0.B ≥ 0)) && (decide (p0.B ≤ p2)))), (37, I p0.Op), (83, .bool (p0.Op == 10))] hF (by kernel_rfl) fun fr hF => then_normal ?_)
 refine (wp_if hF (b := (p0.Op == 10)) rfl (fun hb => ?_) (fun hb => ?_))
 · replace h := iteT hb h
   obtain ⟨x21, hx21, h⟩ := bindE h
   refine wp_seq (region_b [] [true, false, false, true, true, true, true]
       [.eq (B b1 1), .eq (I p0.A), .eq (.bool x21), .eq (.bool x21), .eq (.bool ((decide (p0.B ≥ 0)) && (decide (p0.B ≤ p2)))), .eq (.bool (x21 && ((decide (p0.B ≥ 0)) && (decide (p0.B ≤ p2))))), .eq (.bool (x21 && ((decide (p0.B ≥ 0)) && (decide (p0.B ≤ p2)))))]
       [(6, .bool (x21 && ((decide (p0.B ≥ 0)) && (decide (p0.B ≤ p2)))))] mix hF (by kernel_rfl) (by kernel_rfl) (by kernel_rfl) ⟨Pd.mono_eq, Pd.mono_eq, trivial⟩ (fun hG => ⟨np_loadBox hG hF ty3 rfl rfl (hs.bx 0 rfl) rfl rfl rfl, np_call [I p0.A] hG hF Tryd.call37 rfl rfl (fun w hC hg => (impl_isReg_ok p0.A hx21).mono fun e w' ⟨v, he, hv, hc⟩ => ⟨v, he, hc, hv⟩), trivial⟩) (by kernel_rfl) fun fr w29 hF hE hc => then_normal ?_)
   have hs := hs.ext hc
   have hM0 := hM0.ext hc
   have hs : Sep [] w29 S1 := Sep.pick [] hs (by decide) rfl
   obtain rfl := Option.some.inj h
   exact wp_ret (blk_ret (then_ret (ret1 rfl hF rfl ⟨_, rfl, rfl, hM0.chg⟩)))
 replace h := iteF hb h
 refine wp_seq ?_
 refine wp_seq (wp_pure [(3, B b1 0), (37, I p0.Op), (91, .bool (p0.Op == 12))] hF (by kernel_rfl) fun fr hF => then_normal ?_)
 refine (wp_merge [(3, B b1 0), (91, .bool ((p0.Op == 12) || (p0.Op == 14)))] hF (b := (p0.Op == 12)) rfl (fun hb => ?_) (fun hb => ?_) fun fr hF => then_normal ?_)
 · exact wp_skip ⟨rfl, rfl, (hF.sub [(3, B b1 0), (91, .bool (p0.Op == 12))] (by kernel_rfl)).eqs (by first | (simp only [hb]; done) | (simp only [hb]; rfl))⟩
 · exact wp_pure [(3, B b1 0), (91, .bool (p0.Op == 14))] hF (by kernel_rfl) fun fr hF => ⟨rfl, rfl, hF.eqs (by first | (simp only [hb]; done) | (simp only [hb]; rfl))⟩
 refine (wp_if hF (b := ((p0.Op == 12) || (p0.Op == 14))) rfl (fun hb => ?_) (fun hb => ?_))
 · replace h := iteT hb h
   refine wp_seq (region_b [] [true, false, true, true, true, false, true, true, true]
       [.eq (B b1 1), .eq (I p0.A), .eq (.bool (p0.A == 0)), .eq (.bool (p0.A == 0)), .eq (B b1 2), .eq (I p0.B), .eq (.bool (p0.B == 0)), .eq (.bool ((p0.A == 0) && (p0.B == 0))), .eq (.bool ((p0.A == 0) && (p0.B == 0)))]
       [(6, .bool ((p0.A == 0) && (p0.B == 0)))] mix hF (by kernel_rfl) (by kernel_rfl) (by kernel_rfl) ⟨Pd.mono_eq, Pd.mono_eq, trivial⟩ (fun hG => ⟨np_loadBox hG hF ty3 rfl rfl (hs.bx 0 rfl) rfl rfl rfl, np_loadBox hG hF ty3 rfl rfl (hs.bx 0 rfl) rfl rfl rfl, trivial⟩) (by kernel_rfl) fun fr w30 hF hE hc => then_normal ?_)
   have hs := hs.ext hc
   have hM0 := hM0.ext hc
   have hs : Sep [] w30 S1 := Sep.pick [] hs (by decide) rfl
   obtain rfl := Option.some.inj h
   exact wp_ret (blk_ret (then_ret (ret1 rfl hF rfl ⟨_, rfl, rfl, hM0.chg⟩)))
 replace h := iteF hb h
 have hs : Sep [] w2 S1 := Sep.pick [] hs (by decide) rfl
 refine (wp_skip ?_)
 refine blk_normal (then_normal ?_)
 refine wp_seq (wp_pure [(6, .bool false)] hF (by kernel_rfl) fun fr hF => then_normal ?_)
 obtain rfl := Option.some.inj h
 exact wp_ret (ret1 rfl hF rfl ⟨_, rfl, rfl, hM0.chg⟩)

theorem impl_ProgramOk_ok (n : Nat) (p0 : D.Program) {r : Bool} (h : impl_ProgramOk n p0 = some r) {w : World} {G0 : Nat → Prop} {va0 : Value} (ra0 : RV w G0 va0 p0) :
   Calls Tryd.prog 29 [va0].toArray w fun e w' => ∃ v, e = .returned v ∧ v = .bool r ∧ Chg Non w w' := by
 unfold impl_ProgramOk at h
 have hs := Sep.nil w Non
 have hM0 : Mem w Non (fun k => (G0 k) ∧ k < w.heap.size) w Non (fun k => (G0 k) ∧ k < w.heap.size) := Mem.start (fun _ h => h.elim) (fun _ h => h.2) (fun _ h => h.elim)
 have ra0 := ra0.sub (F' := (fun k => (G0 k) ∧ k < w.heap.size)) (fun k hk h => ⟨h, hk⟩)
 obtain ⟨v1, rfl, r1⟩ := RV.Program ra0
 obtain ⟨a1, c1, rfl, -⟩ := r1.slice
 refine enter (N := 54) Tryd.func29 rfl Tryd.ntmps29 rfl fun fr hF => ?_
 refine wp_seq (wp_text' ?_)
 refine q_box hs hM0 [I p0.W, I p0.Mem, I p0.In, L a1 p0.Code c1] rfl rfl hF rfl rfl fun b1 w1 S1 fr hs hp hF => ?_
 have r1 := r1.stp hM0 hp
 have hM0 := hM0.stp hp
 have hs : Sep [BX b1 35 [I p0.W, I p0.Mem, I p0.In, L a1 p0.Code c1]] w1 S1 := hs
 refine from_pure 1 [(1, B b1 0)] hF (by kernel_rfl) fun fr hF => ?_
 refine from_end rfl (then_normal ?_)
 refine wp_seq ?_
 obtain ⟨x1, hx1, h⟩ := bindE h
 obtain ⟨x2, hx2, h⟩ := bindE h
 refine wp_seq (region_b [] [true, false, true, false, true, false, true, true, true, false, true, true, true, true, false, true, true, true, true, false, true, false, false, true, true]
     [.eq (B b1 0), .eq (I p0.W), .eq (B b1 3), .eq (L a1 p0.Code c1), .eq (I (len p0.Code)), .eq (.bool x1), .eq (.bool (!x1)), .eq (.bool (!x1)), .eq (B b1 1), .eq (I p0.Mem), .eq (.bool (decide (p0.Mem < 1))), .eq (.bool ((!x1) || (decide (p0.Mem < 1)))), .eq (.bool ((!x1) || (decide (p0.Mem < 1)))), .eq (B b1 1), .eq (I p0.Mem), .eq (.bool (decide (p0.Mem > 6))), .eq (.bool (((!x1) || (decide (p0.Mem < 1))) || (decide (p0.Mem > 6)))), .eq (.bool (((!x1) || (decide (p0.Mem < 1))) || (decide (p0.Mem > 6)))), .eq (B b1 0), .eq (I p0.W), .eq (B b1 1), .eq (I p0.Mem), .eq (.bool x2), .eq (.bool (!x2)), .eq (.bool ((((!x1) || (decide (p0.Mem < 1))) || (decide (p0.Mem > 6))) || (!x2)))]
     [(1, B b1 0), (29, .bool ((((!x1) || (decide (p0.Mem < 1))) || (decide (p0.Mem > 6))) || (!x2)))] mix hF (by kernel_rfl) (by kernel_rfl) (by kernel_rfl) ⟨Pd.mono_eq, Pd.mono_eq, Pd.mono_eq, Pd.mono_eq, Pd.mono_eq, Pd.mono_eq, Pd.mono_eq, Pd.mono_eq, trivial⟩ (fun hG => ⟨np_loadBox hG hF ty3 rfl rfl (hs.bx 0 rfl) rfl rfl rfl, np_loadBox hG hF ty33 rfl rfl (hs.bx 0 rfl) rfl rfl rfl, np_call [I p0.W, I (len p0.Code)] hG hF Tryd.call19 rfl rfl (fun w hC hg => (impl_shapeOk_ok p0.W (len p0.Code) hx1).mono fun e w' ⟨v, he, hv, hc⟩ => ⟨v, he, hc, hv⟩), np_loadBox hG hF ty3 rfl rfl (hs.bx 0 rfl) rfl rfl rfl, np_loadBox hG hF ty3 rfl rfl (hs.bx 0 rfl) rfl rfl rfl, np_loadBox hG hF ty3 rfl rfl (hs.bx 0 rfl) rfl rfl rfl, np_loadBox hG hF ty3 rfl rfl (hs.bx 0 rfl) rfl rfl rfl, np_call [I p0.W, I p0.Mem] hG hF Tryd.call39 rfl rfl (fun w hC hg => (impl_WordOk_ok p0.W p0.Mem (iteF hg.2 hx2)).mono fun e w' ⟨v, he, hv, hc⟩ => ⟨v, he, hc, hv⟩), trivial⟩) (by kernel_rfl) fun fr w2 hF hE hc => then_normal ?_)
 have r1 := r1.ext hc
 have hs := hs.ext hc
 have hM0 := hM0.ext hc
 refine (wp_if hF (b := ((((!x1) || (decide (p0.Mem < 1))) || (decide (p0.Mem > 6))) || (!x2))) rfl (fun hb => ?_) (fun hb => ?_))
 · replace h := iteT hb h
   have hs : Sep [] w2 S1 := Sep.pick [] hs (by decide) rfl
   refine wp_seq (wp_pure [(2, .bool false)] hF (by kernel_rfl) fun fr hF => then_normal ?_)
   obtain rfl := Option.some.inj h
   exact wp_ret (then_ret (ret1 rfl hF rfl ⟨_, rfl, rfl, hM0.chg⟩))
 replace h := iteF hb h
 refine (wp_skip (then_normal ?_))
 refine wp_seq ?_
 refine wp_seq (region_b [] [true, false, true, true, true, false, true, true]
     [.eq (B b1 2), .eq (I p0.In), .eq (.bool (decide (p0.In < 0))), .eq (.bool (decide (p0.In < 0))), .eq (B b1 2), .eq (I p0.In), .eq (.bool (decide (p0.In > 3))), .eq (.bool ((decide (p0.In < 0)) || (decide (p0.In > 3))))]
     [(1, B b1 0), (37, .bool ((decide (p0.In < 0)) || (decide (p0.In > 3))))] mix hF (by kernel_rfl) (by kernel_rfl) (by kernel_rfl) ⟨Pd.mono_eq, Pd.mono_eq, trivial⟩ (fun hG => ⟨np_loadBox hG hF ty3 rfl rfl (hs.bx 0 rfl) rfl rfl rfl, np_loadBox hG hF ty3 rfl rfl (hs.bx 0 rfl) rfl rfl rfl, trivial⟩) (by kernel_rfl) fun fr w3 hF hE hc => then_normal ?_)
 have r1 := r1.ext hc
 have hs := hs.ext hc
 have hM0 := hM0.ext hc
 refine (wp_if hF (b := ((decide (p0.In < 0)) || (decide (p0.In > 3)))) rfl (fun hb => ?_) (fun hb => ?_))
 · replace h := iteT hb h
   have hs : Sep [] w3 S1 := Sep.pick [] hs (by decide) rfl
   refine wp_seq (wp_pure [(2, .bool false)] hF (by kernel_rfl) fun fr hF => then_normal ?_)
   obtain rfl := Option.some.inj h
   exact wp_ret (then_ret (ret1 rfl hF rfl ⟨_, rfl, rfl, hM0.chg⟩))
 replace h := iteF hb h
 refine (wp_skip (then_normal ?_))
 refine wp_seq ?_
 refine wp_seq (wp_text' ?_)
 refine from_pure 1 [(1, B b1 0), (38, B b1 3)] hF (by kernel_rfl) fun fr hF => ?_
 refine s_loadBox (L a1 p0.Code c1) ty33 rfl rfl hF rfl (hs.bx 0 rfl) rfl rfl fun fr hF => ?_
 refine from_pure 2 [(1, B b1 0), (39, L a1 p0.Code c1), (40, I (len p0.Code)), (41, I 0)] hF (by kernel_rfl) fun fr hF => ?_
 refine from_end rfl (then_normal ?_)
 obtain ⟨rl1, hit1, h⟩ := bindE h
 have hk1 := h
 refine (GL.wp_cut (M := fun fr w' => ∃ s, rl1 = .inl s ∧ ∃ S3 F2, FrS 54 [] fr ∧ Mem w3 S1 (fun k => (G0 k) ∧ k < w.heap.size) w' S3 F2 ∧ Sep [] w' S3) (wp_block (wp_iter (Inv := fun s1 fr w' => ∃ S2 F1, FrS 54 [(1, B b1 0), (39, L a1 p0.Code c1), (40, I (len p0.Code)), (41, I s1)] fr ∧ Mem w3 S1 (fun k => (G0 k) ∧ k < w.heap.size) w' S2 F1 ∧ Sep [BX b1 35 [I p0.W, I p0.Mem, I p0.In, L a1 p0.Code c1]] w' S2) hit1 ⟨S1, _, hF.sub _ (by kernel_rfl), (Mem.start hM0.bd hM0.bdF hM0.dj), hs⟩ fun s1 q1 fr w1i hI h hr1 => ?_)) fun fr w1o hM => ?_)
 · obtain ⟨S2, F1, hF, hM1, hs⟩ := hI
   have r1 := r1.mem hM1
   refine wp_seq (wp_pure [(1, B b1 0), (39, L a1 p0.Code c1), (40, I (len p0.Code)), (41, I s1), (42, .bool (decide (s1 < (len p0.Code))))] hF (by kernel_rfl) fun fr hF => then_normal ?_)
   refine wp_seq (wp_if hF (b := (decide (s1 < (len p0.Code)))) rfl (fun hb => ?_) (fun hb => ?_))
   · replace h := iteT hb h
     refine (wp_skip (then_normal ?_))
     refine wp_seq (wp_block ?_)
     refine wp_seq (wp_text' ?_)
     obtain ⟨x3, hx3, h⟩ := bindE h
     refine s_elemF (z := x3) (.agg #[I x3.Op, I x3.A, I x3.B, I x3.C]) ty25 Tryd.underlying33 rfl rfl rfl rfl rfl hF rfl (r1) rfl (get?_nn hx3) (get?_at hx3) rfl fun p fr hF => ?_
     refine q_alloc (z := .agg #[I 0, I 0, I 0, I 0]) hs hM1 [I 0, I 0, I 0, I 0] rfl rfl hF (by kernel_rfl) rfl fun b2 w4 S4 fr hs hp hF => ?_
     have r1 := r1.stp hM1 hp
     have hM1 := hM1.stp hp
     have hs : Sep [BX b2 25 [I 0, I 0, I 0, I 0], BX b1 35 [I p0.W, I p0.Mem, I p0.In, L a1 p0.Code c1]] w4 S4 := hs
     refine q_storeBoxS 0 hs hM1 rfl [I x3.Op, I x3.A, I x3.B, I x3.C] rfl hF rfl rfl (by kernel_rfl) rfl rfl rfl fun w5 S5 hs hp hF => ?_
     have r1 := r1.stp hM1 hp
     have hM1 := hM1.stp hp
     have hs : Sep [BX b2 25 [I x3.Op, I x3.A, I x3.B, I x3.C], BX b1 35 [I p0.W, I p0.Mem, I p0.In, L a1 p0.Code c1]] w5 S5 := hs
     refine from_end rfl (then_normal ?_)
     refine wp_seq (wp_text' ?_)
     refine s_loadBoxS ty25 rfl rfl hF rfl (hs.bx 0 rfl) rfl rfl fun fr hF => ?_
     have hs : Sep [BX b1 35 [I p0.W, I p0.Mem, I p0.In, L a1 p0.Code c1]] w5 S5 := Sep.pick [1] hs (by decide) rfl
     refine from_pure 1 [(1, B b1 0), (39, L a1 p0.Code c1), (40, I (len p0.Code)), (41, I s1), (45, .agg #[I x3.Op, I x3.A, I x3.B, I x3.C]), (46, B b1 0)] hF (by kernel_rfl) fun fr hF => ?_
     refine s_loadBox (I p0.W) ty3 rfl rfl hF rfl (hs.bx 0 rfl) rfl rfl fun fr hF => ?_
     refine from_pure 1 [(1, B b1 0), (39, L a1 p0.Code c1), (40, I (len p0.Code)), (41, I s1), (45, .agg #[I x3.Op, I x3.A, I x3.B, I x3.C]), (47, I p0.W), (48, B b1 3)] hF (by kernel_rfl) fun fr hF => ?_
     refine s_loadBox (L a1 p0.Code c1) ty33 rfl rfl hF rfl (hs.bx 0 rfl) rfl rfl fun fr hF => ?_
     refine from_pure 1 [(1, B b1 0), (39, L a1 p0.Code c1), (40, I (len p0.Code)), (41, I s1), (45, .agg #[I x3.Op, I x3.A, I x3.B, I x3.C]), (47, I p0.W), (50, I (len p0.Code))] hF (by kernel_rfl) fun fr hF => ?_
     obtain ⟨x4, hx4, h⟩ := bindE h
     refine s_call [.agg #[I x3.Op, I x3.A, I x3.B, I x3.C], I p0.W, I (len p0.Code)] Tryd.call20 rfl rfl hF rfl (impl_insOk_ok x3 p0.W (len p0.Code) hx4) fun v w6 fr hRes hF => ?_
     obtain ⟨rfl, hc⟩ := hRes
     have r1 := r1.ext hc
     have hs := hs.ext hc
     have hM1 := hM1.ext hc
     refine from_pure 1 [(1, B b1 0), (39, L a1 p0.Code c1), (40, I (len p0.Code)), (41, I s1), (52, .bool (!x4))] hF (by kernel_rfl) fun fr hF => ?_
     refine from_end rfl (then_normal ?_)
     refine (wp_if hF (b := (!x4)) rfl (fun hb => ?_) (fun hb => ?_))
     · replace h := iteT hb h
       have hs : Sep [] w6 S5 := Sep.pick [] hs (by decide) rfl
       refine wp_seq (wp_pure [(2, .bool false)] hF (by kernel_rfl) fun fr hF => then_normal ?_)
       obtain rfl := hr1 _ (Option.some.inj h).symm
       obtain rfl := Option.some.inj hk1
       exact wp_ret (blk_ret (then_ret (then_ret (blk_ret (then_ret (ret1 rfl hF rfl ⟨_, rfl, rfl, (hM0.trans hM1).chg⟩))))))
     replace h := iteF hb h
     refine (wp_skip ?_)
     refine blk_normal (then_normal ?_)
     refine (wp_pure [(1, B b1 0), (39, L a1 p0.Code c1), (40, I (len p0.Code)), (41, I (w64 (s1 + 1)))] hF (by kernel_rfl) fun fr hF => then_normal ?_)
     exact ⟨_, (Option.some.inj h).symm, S5, _, hF.sub _ (by kernel_rfl), hM1, hs⟩
   replace h := iteF hb h
   have hs : Sep [] w1i S2 := Sep.pick [] hs (by decide) rfl
   refine (wp_exit (then_exit (then_exit (blk_exit_eq ?_))))
   obtain rfl := hr1 _ (Option.some.inj h).symm
   exact then_normal ⟨_, rfl, S2, _, hF.sub _ (by kernel_rfl), hM1, hs⟩
 · obtain ⟨s1r, rfl, hM⟩ := hM
   obtain ⟨S3, F2, hF, hMx, hs⟩ := hM
   have hM0 := hM0.trans hMx
   refine wp_seq (wp_pure [(2, .bool true)] hF (by kernel_rfl) fun fr hF => then_normal ?_)
   obtain rfl := Option.some.inj h
   exact wp_ret (ret1 rfl hF rfl ⟨_, rfl, rfl, hM0.chg⟩)

theorem strconv_Itoa_ok (p0 : Int) {r : Str} (h : strconv_Itoa p0 = some r) {w : World} {G99 : Nat → Prop} (tb : TB Tryd.prog "internal/strconv.uint64pow10" .u64 Lib.pow10Tab w G99) :
   Calls Tryd.prog 40 [I p0].toArray w fun e w' => ∃ v, e = .returned v ∧ v = Str.val r ∧ Chg Non w w' := by
 unfold strconv_Itoa at h
 split at h
 · rename_i hl
   obtain rfl := Option.some.inj h
   refine (Tryd.strconv_Itoa p0 hl.1 hl.2 w tb.tab).mono ?_
   rintro e w' ⟨rfl, k, os, rfl⟩
   exact ⟨_, rfl, rfl, chg_grow w k os⟩
 · cases h

theorem impl_FormatInt_ok (p0 : Int) {r : Str} (h : impl_FormatInt p0 = some r) {w : World} {G99 : Nat → Prop} (tb : TB Tryd.prog "internal/strconv.uint64pow10" .u64 Lib.pow10Tab w G99) :
   Calls Tryd.prog 24 [I p0].toArray w fun e w' => ∃ v, e = .returned v ∧ v = Str.val r ∧ Chg Non w w' := by
 unfold impl_FormatInt at h
 have hs := Sep.nil w Non
 have hM0 : Mem w Non (fun k => (G99 k) ∧ k < w.heap.size) w Non (fun k => (G99 k) ∧ k < w.heap.size) := Mem.start (fun _ h => h.elim) (fun _ h => h.2) (fun _ h => h.elim)
 have tb := tb.sub (F' := (fun k => (G99 k) ∧ k < w.heap.size)) (fun k hk h => ⟨h, hk⟩)
 refine enter (N := 5) Tryd.func24 rfl Tryd.ntmps24 rfl fun fr hF => ?_
 refine wp_seq (wp_pure [(0, I p0)] hF (by kernel_rfl) fun fr hF => then_normal ?_)
 refine wp_seq (wp_text' ?_)
 refine from_pure 1 [(3, I p0)] hF (by kernel_rfl) fun fr hF => ?_
 obtain ⟨x1, hx1, h⟩ := bindE h
 refine s_call [I p0] Tryd.call40 rfl rfl hF rfl (strconv_Itoa_ok p0 hx1 tb) fun v w1 fr hRes hF => ?_
 obtain ⟨rfl, hc⟩ := hRes
 have tb := tb.ext hc
 have hs := hs.ext hc
 have hM0 := hM0.ext hc
 refine from_pure 1 [(2, Str.val x1)] hF (by kernel_rfl) fun fr hF => ?_
 refine from_end rfl (then_normal ?_)
 obtain rfl := Option.some.inj h
 exact wp_ret (ret1 rfl hF rfl ⟨_, rfl, rfl, hM0.chg⟩)



theorem impl_FormatInts_ok (n : Nat) (p0 : List Int) {r : Str} (h : impl_FormatInts n p0 = some r) {w : World} {G0 : Nat → Prop} {va0 : Value} (ra0 : RV w G0 va0 p0) {G99 : Nat → Prop} (tb : TB Tryd.prog "internal/strconv.uint64pow10" .u64 Lib.pow10Tab w G99) :
   Calls Tryd.prog 31 [va0].toArray w fun e w' => ∃ v, e = .returned v ∧ v = Str.val r ∧ Chg Non w w' := by
 unfold impl_FormatInts at h
 have hs := Sep.nil w Non
 have hM0 : Mem w Non (fun k => (G0 k ∨ G99 k) ∧ k < w.heap.size) w Non (fun k => (G0 k ∨ G99 k) ∧ k < w.heap.size) := Mem.start (fun _ h => h.elim) (fun _ h => h.2) (fun _ h => h.elim)
 have ra0 := ra0.sub (F' := (fun k => (G0 k ∨ G99 k) ∧ k < w.heap.size)) (fun k hk h => ⟨.inl h, hk⟩)
 obtain ⟨a1, c1, rfl, -⟩ := ra0.slice
 have tb := tb.sub (F' := (fun k => (G0 k ∨ G99 k) ∧ k < w.heap.size)) (fun k hk h => ⟨.inr (h), hk⟩)
 refine enter (N := 24) Tryd.func31 rfl Tryd.ntmps31 rfl fun fr hF => ?_
 refine wp_seq (wp_pure [(0, L a1 p0 c1)] hF (by kernel_rfl) fun fr hF => then_normal ?_)
 refine wp_seq (wp_text' ?_)
 refine from_pure 2 [(0, L a1 p0 c1), (7, I (len p0))] hF (by kernel_rfl) fun fr hF => ?_
 obtain ⟨x1, hx1, h⟩ := bindE h
 refine q_make hs hM0 Tryd.underlying43 el9 (zero_flat _ (by kernel_rfl)) rfl rfl hF rfl rfl hx1 fun a2 c2 w1 S1 fr hs hp hF => ?_
 have tb := tb.stp hM0 hp
 have ra0 := ra0.stp hM0 hp
 have hM0 := hM0.stp hp
 have hs : Sep [sl9 (L a2 x1 c2) x1] w1 S1 := hs
 refine from_pure 1 [(0, L a1 p0 c1), (3, L a2 x1 c2)] hF (by kernel_rfl) fun fr hF => ?_
 refine from_end rfl (then_normal ?_)
 refine wp_seq ?_
 refine wp_seq (wp_pure [(3, L a2 x1 c2), (9, L a1 p0 c1), (10, I (len p0)), (11, I 0)] hF (by kernel_rfl) fun fr hF => then_normal ?_)
 obtain ⟨rl1, hit1, h⟩ := bindE h
 have hk1 := h
 refine (GL.wp_cut (M := fun fr w' => ∃ S3 F2, FrS 24 [(3, L a2 x1 c2)] fr ∧ Mem w1 S1 (fun k => (G0 k ∨ G99 k) ∧ k < w.heap.size) w' S3 F2 ∧ Sep [sl9 (L a2 x1 c2) rl1] w' S3) (wp_block (wp_iter (Inv := fun s1 fr w' => ∃ S2 F1, FrS 24 [(3, L a2 x1 c2), (9, L a1 p0 c1), (10, I (len p0)), (11, I s1.1)] fr ∧ Mem w1 S1 (fun k => (G0 k ∨ G99 k) ∧ k < w.heap.size) w' S2 F1 ∧ Sep [sl9 (L a2 x1 c2) s1.2] w' S2) hit1 ⟨S1, _, hF.sub _ (by kernel_rfl), (Mem.start hM0.bd hM0.bdF hM0.dj), hs⟩ fun s1 q1 fr w1i hI h hr1 => ?_)) fun fr w1o hM => ?_)
 · obtain ⟨S2, F1, hF, hM1, hs⟩ := hI
   have tb := tb.mem hM1
   have ra0 := ra0.mem hM1
   refine wp_seq (wp_pure [(3, L a2 x1 c2), (9, L a1 p0 c1), (10, I (len p0)), (11, I s1.1), (12, .bool (decide (s1.1 < (len p0))))] hF (by kernel_rfl) fun fr hF => then_normal ?_)
   refine wp_seq (wp_if hF (b := (decide (s1.1 < (len p0)))) rfl (fun hb => ?_) (fun hb => ?_))
   · replace h := iteT hb h
     refine (wp_skip (then_normal ?_))
     refine wp_seq (wp_block ?_)
     refine wp_seq (wp_text' ?_)
     refine from_pure 1 [(3, L a2 x1 c2), (9, L a1 p0 c1), (10, I (len p0)), (11, I s1.1), (13, I s1.1)] hF (by kernel_rfl) fun fr hF => ?_
     obtain ⟨x2, hx2, h⟩ := bindE h
     refine s_elemF (z := x2) (I x2) ty3 Tryd.underlying49 rfl rfl rfl rfl rfl hF rfl (ra0) rfl (get?_nn hx2) (get?_at hx2) rfl fun p fr hF => ?_
     refine from_pure 2 [(3, L a2 x1 c2), (4, I s1.1), (5, I x2), (9, L a1 p0 c1), (10, I (len p0)), (11, I s1.1)] hF (by kernel_rfl) fun fr hF => ?_
     refine from_end rfl (then_normal ?_)
     refine (wp_text' ?_)
     refine from_pure 3 [(3, L a2 x1 c2), (9, L a1 p0 c1), (10, I (len p0)), (11, I s1.1), (16, L a2 x1 c2), (17, I s1.1), (18, I x2)] hF (by kernel_rfl) fun fr hF => ?_
     obtain ⟨x3, hx3, h⟩ := bindE h
     refine s_call [I x2] Tryd.call24 rfl rfl hF rfl (impl_FormatInt_ok x2 hx3 tb) fun v w2 fr hRes hF => ?_
     obtain ⟨rfl, hc⟩ := hRes
     have tb := tb.ext hc
     have ra0 := ra0.ext hc
     have hs := hs.ext hc
     have hM1 := hM1.ext hc
     obtain ⟨x4, hx4, h⟩ := bindE h
     refine q_set (q := x3) 0 hs hM1 rfl Tryd.underlying43 ty9 rfl rfl rfl rfl hF rfl rfl (by simp) rfl rfl hx4 fun w3 S4 fr _ hs hp hF => ?_
     have tb := tb.stp hM1 hp
     have ra0 := ra0.stp hM1 hp
     have hM1 := hM1.stp hp
     have hs : Sep [sl9 (L a2 x1 c2) x4] w3 S4 := hs
     refine from_end rfl ?_
     refine blk_normal (then_normal ?_)
     refine (wp_pure [(3, L a2 x1 c2), (9, L a1 p0 c1), (10, I (len p0)), (11, I (w64 (s1.1 + 1)))] hF (by kernel_rfl) fun fr hF => then_normal ?_)
     exact ⟨_, (Option.some.inj h).symm, S4, _, hF.sub _ (by kernel_rfl), hM1, hs⟩
   replace h := iteF hb h
   refine (wp_exit (then_exit (then_exit (blk_exit_eq ?_))))
   obtain rfl := hr1 _ (Option.some.inj h).symm
   exact then_normal ⟨S2, _, hF.sub _ (by kernel_rfl), hM1, hs⟩
 · obtain ⟨S3, F2, hF, hMx, hs⟩ := hM
   have tb := tb.mem hMx
   have hM0 := hM0.trans hMx
   refine wp_seq (wp_text' ?_)
   refine from_pure 1 [(22, L a2 x1 c2)] hF (by kernel_rfl) fun fr hF => ?_
   obtain ⟨x5, hx5, h⟩ := bindE h
   refine s_call [L a2 x1 c2, Str.val (⟨[32]⟩)] Tryd.call42 rfl rfl hF rfl (strings_Join_ok rl1 (⟨[32]⟩) hx5 (hs.rv 0 rfl)) fun v w4 fr hRes hF => ?_
   obtain ⟨rfl, hc⟩ := hRes
   have tb := tb.ext hc
   have hs := hs.ext hc
   have hM0 := hM0.ext hc
   have hs : Sep [] w4 S3 := Sep.pick [] hs (by decide) rfl
   refine from_pure 1 [(2, Str.val x5)] hF (by kernel_rfl) fun fr hF => ?_
   refine from_end rfl (then_normal ?_)
   obtain rfl := Option.some.inj h
   exact wp_ret (ret1 rfl hF rfl ⟨_, rfl, rfl, hM0.chg⟩)



theorem impl_OpName_ok (p0 : Int) {r : Str} (h : impl_OpName p0 = some r) {w : World} :
   Calls Tryd.prog 21 [I p0].toArray w fun e w' => ∃ v, e = .returned v ∧ v = Str.val r ∧ Chg Non w w' := by
 unfold impl_OpName at h
 have hs := Sep.nil w Non
 have hM0 : Mem w Non (fun k => (False) ∧ k < w.heap.size) w Non (fun k => (False) ∧ k < w.heap.size) := Mem.start (fun _ h => h.elim) (fun _ h => h.2) (fun _ h => h.elim)
 refine enter (N := 18) Tryd.func21 rfl Tryd.ntmps21 rfl fun fr hF => ?_
 refine wp_seq (wp_pure [(0, I p0)] hF (by kernel_rfl) fun fr hF => then_normal ?_)
 refine wp_seq (wp_text' ?_)
 refine q_lit (E := 9) hs hM0 [Str.val (⟨[110, 111, 116]⟩), Str.val (⟨[110, 101, 103]⟩), Str.val (⟨[97, 100, 100]⟩), Str.val (⟨[115, 117, 98]⟩), Str.val (⟨[109, 117, 108]⟩), Str.val (⟨[100, 105, 118]⟩), Str.val (⟨[114, 101, 109]⟩), Str.val (⟨[97, 110, 100]⟩), Str.val (⟨[111, 114]⟩), Str.val (⟨[120, 111, 114]⟩), Str.val (⟨[115, 104, 108]⟩), Str.val (⟨[115, 104, 114]⟩), Str.val (⟨[115, 97, 114]⟩), Str.val (⟨[101, 113]⟩), Str.val (⟨[108, 101, 115, 115]⟩), Str.val (⟨[98, 101, 108, 111, 119]⟩)] (([⟨[110, 111, 116]⟩, ⟨[110, 101, 103]⟩, ⟨[97, 100, 100]⟩, ⟨[115, 117, 98]⟩, ⟨[109, 117, 108]⟩, ⟨[100, 105, 118]⟩, ⟨[114, 101, 109]⟩, ⟨[97, 110, 100]⟩, ⟨[111, 114]⟩, ⟨[120, 111, 114]⟩, ⟨[115, 104, 108]⟩, ⟨[115, 104, 114]⟩, ⟨[115, 97, 114]⟩, ⟨[101, 113]⟩, ⟨[108, 101, 115, 115]⟩, ⟨[98, 101, 108, 111, 119]⟩] : List Str).map Flat.enc) ([⟨[110, 111, 116]⟩, ⟨[110, 101, 103]⟩, ⟨[97, 100, 100]⟩, ⟨[115, 117, 98]⟩, ⟨[109, 117, 108]⟩, ⟨[100, 105, 118]⟩, ⟨[114, 101, 109]⟩, ⟨[97, 110, 100]⟩, ⟨[111, 114]⟩, ⟨[120, 111, 114]⟩, ⟨[115, 104, 108]⟩, ⟨[115, 104, 114]⟩, ⟨[115, 97, 114]⟩, ⟨[101, 113]⟩, ⟨[108, 101, 115, 115]⟩, ⟨[98, 101, 108, 111, 119]⟩] : List Str) rfl rfl hF [Str.val (⟨[110, 111, 116]⟩), Str.val (⟨[110, 101, 103]⟩), Str.val (⟨[97, 100, 100]⟩), Str.val (⟨[115, 117, 98]⟩), Str.val (⟨[109, 117, 108]⟩), Str.val (⟨[100, 105, 118]⟩), Str.val (⟨[114, 101, 109]⟩), Str.val (⟨[97, 110, 100]⟩), Str.val (⟨[111, 114]⟩), Str.val (⟨[120, 111, 114]⟩), Str.val (⟨[115, 104, 108]⟩), Str.val (⟨[115, 104, 114]⟩), Str.val (⟨[115, 97, 114]⟩), Str.val (⟨[101, 113]⟩), Str.val (⟨[108, 101, 115, 115]⟩), Str.val (⟨[98, 101, 108, 111, 119]⟩)] rfl (fun w => by kernel_rfl) (css_flat _) rfl rfl rfl fun a1 c1 w1 S1 fr hs hp hF => ?_
 have hM0 := hM0.stp hp
 have hs : Sep [sl9 (L a1 ([⟨[110, 111, 116]⟩, ⟨[110, 101, 103]⟩, ⟨[97, 100, 100]⟩, ⟨[115, 117, 98]⟩, ⟨[109, 117, 108]⟩, ⟨[100, 105, 118]⟩, ⟨[114, 101, 109]⟩, ⟨[97, 110, 100]⟩, ⟨[111, 114]⟩, ⟨[120, 111, 114]⟩, ⟨[115, 104, 108]⟩, ⟨[115, 104, 114]⟩, ⟨[115, 97, 114]⟩, ⟨[101, 113]⟩, ⟨[108, 101, 115, 115]⟩, ⟨[98, 101, 108, 111, 119]⟩] : List Str) c1) ([⟨[110, 111, 116]⟩, ⟨[110, 101, 103]⟩, ⟨[97, 100, 100]⟩, ⟨[115, 117, 98]⟩, ⟨[109, 117, 108]⟩, ⟨[100, 105, 118]⟩, ⟨[114, 101, 109]⟩, ⟨[97, 110, 100]⟩, ⟨[111, 114]⟩, ⟨[120, 111, 114]⟩, ⟨[115, 104, 108]⟩, ⟨[115, 104, 114]⟩, ⟨[115, 97, 114]⟩, ⟨[101, 113]⟩, ⟨[108, 101, 115, 115]⟩, ⟨[98, 101, 108, 111, 119]⟩] : List Str)] w1 S1 := hs
 refine from_pure 1 [(0, I p0), (3, L a1 ([⟨[110, 111, 116]⟩, ⟨[110, 101, 103]⟩, ⟨[97, 100, 100]⟩, ⟨[115, 117, 98]⟩, ⟨[109, 117, 108]⟩, ⟨[100, 105, 118]⟩, ⟨[114, 101, 109]⟩, ⟨[97, 110, 100]⟩, ⟨[111, 114]⟩, ⟨[120, 111, 114]⟩, ⟨[115, 104, 108]⟩, ⟨[115, 104, 114]⟩, ⟨[115, 97, 114]⟩, ⟨[101, 113]⟩, ⟨[108, 101, 115, 115]⟩, ⟨[98, 101, 108, 111, 119]⟩] : List Str) c1)] hF (by kernel_rfl) fun fr hF => ?_
 refine from_end rfl (then_normal ?_)
 refine wp_seq ?_
 refine wp_seq (region_b [] [true, true, true, true, true, true, true, true]
     [.eq (I p0), .eq (.bool (decide (p0 < 1))), .eq (.bool (decide (p0 < 1))), .eq (I p0), .eq (L a1 ([⟨[110, 111, 116]⟩, ⟨[110, 101, 103]⟩, ⟨[97, 100, 100]⟩, ⟨[115, 117, 98]⟩, ⟨[109, 117, 108]⟩, ⟨[100, 105, 118]⟩, ⟨[114, 101, 109]⟩, ⟨[97, 110, 100]⟩, ⟨[111, 114]⟩, ⟨[120, 111, 114]⟩, ⟨[115, 104, 108]⟩, ⟨[115, 104, 114]⟩, ⟨[115, 97, 114]⟩, ⟨[101, 113]⟩, ⟨[108, 101, 115, 115]⟩, ⟨[98, 101, 108, 111, 119]⟩] : List Str) c1), .eq (I (len ([⟨[110, 111, 116]⟩, ⟨[110, 101, 103]⟩, ⟨[97, 100, 100]⟩, ⟨[115, 117, 98]⟩, ⟨[109, 117, 108]⟩, ⟨[100, 105, 118]⟩, ⟨[114, 101, 109]⟩, ⟨[97, 110, 100]⟩, ⟨[111, 114]⟩, ⟨[120, 111, 114]⟩, ⟨[115, 104, 108]⟩, ⟨[115, 104, 114]⟩, ⟨[115, 97, 114]⟩, ⟨[101, 113]⟩, ⟨[108, 101, 115, 115]⟩, ⟨[98, 101, 108, 111, 119]⟩] : List Str))), .eq (.bool (decide (p0 > (len ([⟨[110, 111, 116]⟩, ⟨[110, 101, 103]⟩, ⟨[97, 100, 100]⟩, ⟨[115, 117, 98]⟩, ⟨[109, 117, 108]⟩, ⟨[100, 105, 118]⟩, ⟨[114, 101, 109]⟩, ⟨[97, 110, 100]⟩, ⟨[111, 114]⟩, ⟨[120, 111, 114]⟩, ⟨[115, 104, 108]⟩, ⟨[115, 104, 114]⟩, ⟨[115, 97, 114]⟩, ⟨[101, 113]⟩, ⟨[108, 101, 115, 115]⟩, ⟨[98, 101, 108, 111, 119]⟩] : List Str))))), .eq (.bool ((decide (p0 < 1)) || (decide (p0 > (len ([⟨[110, 111, 116]⟩, ⟨[110, 101, 103]⟩, ⟨[97, 100, 100]⟩, ⟨[115, 117, 98]⟩, ⟨[109, 117, 108]⟩, ⟨[100, 105, 118]⟩, ⟨[114, 101, 109]⟩, ⟨[97, 110, 100]⟩, ⟨[111, 114]⟩, ⟨[120, 111, 114]⟩, ⟨[115, 104, 108]⟩, ⟨[115, 104, 114]⟩, ⟨[115, 97, 114]⟩, ⟨[101, 113]⟩, ⟨[108, 101, 115, 115]⟩, ⟨[98, 101, 108, 111, 119]⟩] : List Str))))))]
     [(0, I p0), (3, L a1 ([⟨[110, 111, 116]⟩, ⟨[110, 101, 103]⟩, ⟨[97, 100, 100]⟩, ⟨[115, 117, 98]⟩, ⟨[109, 117, 108]⟩, ⟨[100, 105, 118]⟩, ⟨[114, 101, 109]⟩, ⟨[97, 110, 100]⟩, ⟨[111, 114]⟩, ⟨[120, 111, 114]⟩, ⟨[115, 104, 108]⟩, ⟨[115, 104, 114]⟩, ⟨[115, 97, 114]⟩, ⟨[101, 113]⟩, ⟨[108, 101, 115, 115]⟩, ⟨[98, 101, 108, 111, 119]⟩] : List Str) c1), (12, .bool ((decide (p0 < 1)) || (decide (p0 > (len ([⟨[110, 111, 116]⟩, ⟨[110, 101, 103]⟩, ⟨[97, 100, 100]⟩, ⟨[115, 117, 98]⟩, ⟨[109, 117, 108]⟩, ⟨[100, 105, 118]⟩, ⟨[114, 101, 109]⟩, ⟨[97, 110, 100]⟩, ⟨[111, 114]⟩, ⟨[120, 111, 114]⟩, ⟨[115, 104, 108]⟩, ⟨[115, 104, 114]⟩, ⟨[115, 97, 114]⟩, ⟨[101, 113]⟩, ⟨[108, 101, 115, 115]⟩, ⟨[98, 101, 108, 111, 119]⟩] : List Str))))))] mix hF (by kernel_rfl) (by kernel_rfl) (by kernel_rfl) trivial (fun hG => trivial) (by kernel_rfl) fun fr w2 hF hE hc => then_normal ?_)
 have hs := hs.ext hc
 have hM0 := hM0.ext hc
 refine (wp_if hF (b := ((decide (p0 < 1)) || (decide (p0 > (len ([⟨[110, 111, 116]⟩, ⟨[110, 101, 103]⟩, ⟨[97, 100, 100]⟩, ⟨[115, 117, 98]⟩, ⟨[109, 117, 108]⟩, ⟨[100, 105, 118]⟩, ⟨[114, 101, 109]⟩, ⟨[97, 110, 100]⟩, ⟨[111, 114]⟩, ⟨[120, 111, 114]⟩, ⟨[115, 104, 108]⟩, ⟨[115, 104, 114]⟩, ⟨[115, 97, 114]⟩, ⟨[101, 113]⟩, ⟨[108, 101, 115, 115]⟩, ⟨[98, 101, 108, 111, 119]⟩] : List Str)))))) rfl (fun hb => ?_) (fun hb => ?_))
 · replace h := iteT hb h
   have hs : Sep [] w2 S1 := Sep.pick [] hs (by decide) rfl
   refine wp_seq (wp_pure [(2, Str.val (⟨[]⟩))] hF (by kernel_rfl) fun fr hF => then_normal ?_)
   obtain rfl := Option.some.inj h
   exact wp_ret (then_ret (ret1 rfl hF rfl ⟨_, rfl, rfl, hM0.chg⟩))
 replace h := iteF hb h
 refine (wp_skip (then_normal ?_))
 refine wp_seq (wp_text' ?_)
 refine from_pure 3 [(13, L a1 ([⟨[110, 111, 116]⟩, ⟨[110, 101, 103]⟩, ⟨[97, 100, 100]⟩, ⟨[115, 117, 98]⟩, ⟨[109, 117, 108]⟩, ⟨[100, 105, 118]⟩, ⟨[114, 101, 109]⟩, ⟨[97, 110, 100]⟩, ⟨[111, 114]⟩, ⟨[120, 111, 114]⟩, ⟨[115, 104, 108]⟩, ⟨[115, 104, 114]⟩, ⟨[115, 97, 114]⟩, ⟨[101, 113]⟩, ⟨[108, 101, 115, 115]⟩, ⟨[98, 101, 108, 111, 119]⟩] : List Str) c1), (15, I (w64 (p0 - 1)))] hF (by kernel_rfl) fun fr hF => ?_
 obtain ⟨x1, hx1, h⟩ := bindE h
 refine s_elemF (z := x1) (Str.val x1) ty9 Tryd.underlying43 rfl rfl rfl rfl rfl hF rfl (hs.rv 0 rfl) rfl (get?_nn hx1) (get?_at hx1) rfl fun p fr hF => ?_
 have hs : Sep [] w2 S1 := Sep.pick [] hs (by decide) rfl
 refine from_pure 1 [(2, Str.val x1)] hF (by kernel_rfl) fun fr hF => ?_
 refine from_end rfl (then_normal ?_)
 obtain rfl := Option.some.inj h
 exact wp_ret (ret1 rfl hF rfl ⟨_, rfl, rfl, hM0.chg⟩)

theorem impl_regName_ok (p0 : Int) {r : Str} (h : impl_regName p0 = some r) {w : World} {G99 : Nat → Prop} (tb : TB Tryd.prog "internal/strconv.uint64pow10" .u64 Lib.pow10Tab w G99) :
   Calls Tryd.prog 22 [I p0].toArray w fun e w' => ∃ v, e = .returned v ∧ v = Str.val r ∧ Chg Non w w' := by
 unfold impl_regName at h
 have hs := Sep.nil w Non
 have hM0 : Mem w Non (fun k => (G99 k) ∧ k < w.heap.size) w Non (fun k => (G99 k) ∧ k < w.heap.size) := Mem.start (fun _ h => h.elim) (fun _ h => h.2) (fun _ h => h.elim)
 have tb := tb.sub (F' := (fun k => (G99 k) ∧ k < w.heap.size)) (fun k hk h => ⟨h, hk⟩)
 refine enter (N := 6) Tryd.func22 rfl Tryd.ntmps22 rfl fun fr hF => ?_
 refine wp_seq (wp_pure [(0, I p0)] hF (by kernel_rfl) fun fr hF => then_normal ?_)
 refine wp_seq (wp_text' ?_)
 refine from_pure 1 [(3, I p0)] hF (by kernel_rfl) fun fr hF => ?_
 obtain ⟨x1, hx1, h⟩ := bindE h
 refine s_call [I p0] Tryd.call24 rfl rfl hF rfl (impl_FormatInt_ok p0 hx1 tb) fun v w1 fr hRes hF => ?_
 obtain ⟨rfl, hc⟩ := hRes
 have tb := tb.ext hc
 have hs := hs.ext hc
 have hM0 := hM0.ext hc
 obtain ⟨x2, hx2, h⟩ := bindE h
 refine s_cat (s1 := (⟨[114]⟩)) (s2 := x1) rfl rfl hF rfl rfl hx2 fun fr hF => ?_
 refine from_pure 1 [(2, Str.val x2)] hF (by kernel_rfl) fun fr hF => ?_
 refine from_end rfl (then_normal ?_)
 obtain rfl := Option.some.inj h
 exact wp_ret (ret1 rfl hF rfl ⟨_, rfl, rfl, hM0.chg⟩)

theorem impl_insWord_ok (p0 : Int) {r : Str} (h : impl_insWord p0 = some r) {w : World} :
   Calls Tryd.prog 23 [I p0].toArray w fun e w' => ∃ v, e = .returned v ∧ v = Str.val r ∧ Chg Non w w' := by
 unfold impl_insWord at h
 have hs := Sep.nil w Non
 have hM0 : Mem w Non (fun k => (False) ∧ k < w.heap.size) w Non (fun k => (False) ∧ k < w.heap.size) := Mem.start (fun _ h => h.elim) (fun _ h => h.2) (fun _ h => h.elim)
 refine enter (N := 30) Tryd.func23 rfl Tryd.ntmps23 rfl fun fr hF => ?_
 refine wp_seq (wp_pure [(0, I p0)] hF (by kernel_rfl) fun fr hF => then_normal ?_)
 refine wp_seq ?_
 refine wp_seq (wp_pure [(3, I p0)] hF (by kernel_rfl) fun fr hF => then_normal ?_)
 refine (wp_block ?_)
 refine wp_seq (wp_pure [(3, I p0), (4, .bool (p0 == 1))] hF (by kernel_rfl) fun fr hF => then_normal ?_)
 refine (wp_if hF (b := (p0 == 1)) rfl (fun hb => ?_) (fun hb => ?_))
 · replace h := iteT hb h
   refine wp_seq (wp_pure [(2, Str.val (⟨[115, 101, 116]⟩))] hF (by kernel_rfl) fun fr hF => then_normal ?_)
   obtain rfl := Option.some.inj h
   exact wp_ret (blk_ret (then_ret (ret1 rfl hF rfl ⟨_, rfl, rfl, hM0.chg⟩)))
 replace h := iteF hb h
 refine wp_seq (wp_pure [(3, I p0), (6, .bool (p0 == 2))] hF (by kernel_rfl) fun fr hF => then_normal ?_)
 refine (wp_if hF (b := (p0 == 2)) rfl (fun hb => ?_) (fun hb => ?_))
 · replace h := iteT hb h
   refine wp_seq (wp_pure [(2, Str.val (⟨[109, 111, 118, 101]⟩))] hF (by kernel_rfl) fun fr hF => then_normal ?_)
   obtain rfl := Option.some.inj h
   exact wp_ret (blk_ret (then_ret (ret1 rfl hF rfl ⟨_, rfl, rfl, hM0.chg⟩)))
 replace h := iteF hb h
 refine wp_seq (wp_pure [(3, I p0), (8, .bool (p0 == 4))] hF (by kernel_rfl) fun fr hF => then_normal ?_)
 refine (wp_if hF (b := (p0 == 4)) rfl (fun hb => ?_) (fun hb => ?_))
 · replace h := iteT hb h
   refine wp_seq (wp_pure [(2, Str.val (⟨[110, 111, 116]⟩))] hF (by kernel_rfl) fun fr hF => then_normal ?_)
   obtain rfl := Option.some.inj h
   exact wp_ret (blk_ret (then_ret (ret1 rfl hF rfl ⟨_, rfl, rfl, hM0.chg⟩)))
 replace h := iteF hb h
 refine wp_seq (wp_pure [(3, I p0), (10, .bool (p0 == 5))] hF (by kernel_rfl) fun fr hF => then_normal ?_)
 refine (wp_if hF (b := (p0 == 5)) rfl (fun hb => ?_) (fun hb => ?_))
 · replace h := iteT hb h
   refine wp_seq (wp_pure [(2, Str.val (⟨[105, 110]⟩))] hF (by kernel_rfl) fun fr hF => then_normal ?_)
   obtain rfl := Option.some.inj h
   exact wp_ret (blk_ret (then_ret (ret1 rfl hF rfl ⟨_, rfl, rfl, hM0.chg⟩)))
 replace h := iteF hb h
 refine wp_seq (wp_pure [(3, I p0), (12, .bool (p0 == 6))] hF (by kernel_rfl) fun fr hF => then_normal ?_)
 refine (wp_if hF (b := (p0 == 6)) rfl (fun hb => ?_) (fun hb => ?_))
 · replace h := iteT hb h
   refine wp_seq (wp_pure [(2, Str.val (⟨[111, 117, 116]⟩))] hF (by kernel_rfl) fun fr hF => then_normal ?_)
   obtain rfl := Option.some.inj h
   exact wp_ret (blk_ret (then_ret (ret1 rfl hF rfl ⟨_, rfl, rfl, hM0.chg⟩)))
 replace h := iteF hb h
 refine wp_seq (wp_pure [(3, I p0), (14, .bool (p0 == 7))] hF (by kernel_rfl) fun fr hF => then_normal ?_)
 refine (wp_if hF (b := (p0 == 7)) rfl (fun hb => ?_) (fun hb => ?_))
 · replace h := iteT hb h
   refine wp_seq (wp_pure [(2, Str.val (⟨[108, 111, 97, 100]⟩))] hF (by kernel_rfl) fun fr hF => then_normal ?_)
   obtain rfl := Option.some.inj h
   exact wp_ret (blk_ret (then_ret (ret1 rfl hF rfl ⟨_, rfl, rfl, hM0.chg⟩)))
 replace h := iteF hb h
 refine wp_seq (wp_pure [(3, I p0), (16, .bool (p0 == 8))] hF (by kernel_rfl) fun fr hF => then_normal ?_)
 refine (wp_if hF (b := (p0 == 8)) rfl (fun hb => ?_) (fun hb => ?_))
 · replace h := iteT hb h
   refine wp_seq (wp_pure [(2, Str.val (⟨[115, 116, 111, 114, 101]⟩))] hF (by kernel_rfl) fun fr hF => then_normal ?_)
   obtain rfl := Option.some.inj h
   exact wp_ret (blk_ret (then_ret (ret1 rfl hF rfl ⟨_, rfl, rfl, hM0.chg⟩)))
 replace h := iteF hb h
 refine wp_seq (wp_pure [(3, I p0), (18, .bool (p0 == 9))] hF (by kernel_rfl) fun fr hF => then_normal ?_)
 refine (wp_if hF (b := (p0 == 9)) rfl (fun hb => ?_) (fun hb => ?_))
 · replace h := iteT hb h
   refine wp_seq (wp_pure [(2, Str.val (⟨[106, 117, 109, 112]⟩))] hF (by kernel_rfl) fun fr hF => then_normal ?_)
   obtain rfl := Option.some.inj h
   exact wp_ret (blk_ret (then_ret (ret1 rfl hF rfl ⟨_, rfl, rfl, hM0.chg⟩)))
 replace h := iteF hb h
 refine wp_seq (wp_pure [(3, I p0), (20, .bool (p0 == 10))] hF (by kernel_rfl) fun fr hF => then_normal ?_)
 refine (wp_if hF (b := (p0 == 10)) rfl (fun hb => ?_) (fun hb => ?_))
 · replace h := iteT hb h
   refine wp_seq (wp_pure [(2, Str.val (⟨[122, 101, 114, 111]⟩))] hF (by kernel_rfl) fun fr hF => then_normal ?_)
   obtain rfl := Option.some.inj h
   exact wp_ret (blk_ret (then_ret (ret1 rfl hF rfl ⟨_, rfl, rfl, hM0.chg⟩)))
 replace h := iteF hb h
 refine wp_seq (wp_pure [(3, I p0), (22, .bool (p0 == 11))] hF (by kernel_rfl) fun fr hF => then_normal ?_)
 refine (wp_if hF (b := (p0 == 11)) rfl (fun hb => ?_) (fun hb => ?_))
 · replace h := iteT hb h
   refine wp_seq (wp_pure [(2, Str.val (⟨[99, 97, 108, 108]⟩))] hF (by kernel_rfl) fun fr hF => then_normal ?_)
   obtain rfl := Option.some.inj h
   exact wp_ret (blk_ret (then_ret (ret1 rfl hF rfl ⟨_, rfl, rfl, hM0.chg⟩)))
 replace h := iteF hb h
 refine wp_seq (wp_pure [(3, I p0), (24, .bool (p0 == 12))] hF (by kernel_rfl) fun fr hF => then_normal ?_)
 refine (wp_if hF (b := (p0 == 12)) rfl (fun hb => ?_) (fun hb => ?_))
 · replace h := iteT hb h
   refine wp_seq (wp_pure [(2, Str.val (⟨[114, 101, 116]⟩))] hF (by kernel_rfl) fun fr hF => then_normal ?_)
   obtain rfl := Option.some.inj h
   exact wp_ret (blk_ret (then_ret (ret1 rfl hF rfl ⟨_, rfl, rfl, hM0.chg⟩)))
 replace h := iteF hb h
 refine wp_seq (wp_pure [(3, I p0), (26, .bool (p0 == 13))] hF (by kernel_rfl) fun fr hF => then_normal ?_)
 refine (wp_if hF (b := (p0 == 13)) rfl (fun hb => ?_) (fun hb => ?_))
 · replace h := iteT hb h
   refine wp_seq (wp_pure [(2, Str.val (⟨[99, 104, 101, 99, 107]⟩))] hF (by kernel_rfl) fun fr hF => then_normal ?_)
   obtain rfl := Option.some.inj h
   exact wp_ret (blk_ret (then_ret (ret1 rfl hF rfl ⟨_, rfl, rfl, hM0.chg⟩)))
 replace h := iteF hb h
 refine wp_seq (wp_pure [(28, .bool (p0 == 14))] hF (by kernel_rfl) fun fr hF => then_normal ?_)
 refine (wp_if hF (b := (p0 == 14)) rfl (fun hb => ?_) (fun hb => ?_))
 · replace h := iteT hb h
   refine wp_seq (wp_pure [(2, Str.val (⟨[104, 97, 108, 116]⟩))] hF (by kernel_rfl) fun fr hF => then_normal ?_)
   obtain rfl := Option.some.inj h
   exact wp_ret (blk_ret (then_ret (ret1 rfl hF rfl ⟨_, rfl, rfl, hM0.chg⟩)))
 replace h := iteF hb h
 refine (wp_skip ?_)
 refine blk_normal (then_normal ?_)
 refine wp_seq (wp_pure [(2, Str.val (⟨[]⟩))] hF (by kernel_rfl) fun fr hF => then_normal ?_)
 obtain rfl := Option.some.inj h
 exact wp_ret (ret1 rfl hF rfl ⟨_, rfl, rfl, hM0.chg⟩)

theorem impl_FormatIns_ok (p0 : D.Ins) (p1 : Int) (p2 : Int) {r : Str} (h : impl_FormatIns p0 p1 p2 = some r) {w : World} {G99 : Nat → Prop} (tb : TB Tryd.prog "internal/strconv.uint64pow10" .u64 Lib.pow10Tab w G99) :
   Calls Tryd.prog 7 [.agg #[I p0.Op, I p0.A, I p0.B, I p0.C], I p1, I p2].toArray w fun e w' => ∃ v, e = .returned v ∧ v = Str.val r ∧ Chg Non w w' := by
 unfold impl_FormatIns at h
 have hs := Sep.nil w Non
 have hM0 : Mem w Non (fun k => (G99 k) ∧ k < w.heap.size) w Non (fun k => (G99 k) ∧ k < w.heap.size) := Mem.start (fun _ h => h.elim) (fun _ h => h.2) (fun _ h => h.elim)
 have tb := tb.sub (F' := (fun k => (G99 k) ∧ k < w.heap.size)) (fun k hk h => ⟨h, hk⟩)
 refine enter (N := 95) Tryd.func7 rfl Tryd.ntmps7 rfl fun fr hF => ?_
 refine wp_seq (wp_text' ?_)
 refine q_box hs hM0 [I p0.Op, I p0.A, I p0.B, I p0.C] rfl rfl hF rfl rfl fun b1 w1 S1 fr hs hp hF => ?_
 have tb := tb.stp hM0 hp
 have hM0 := hM0.stp hp
 have hs : Sep [BX b1 25 [I p0.Op, I p0.A, I p0.B, I p0.C]] w1 S1 := hs
 refine from_pure 1 [(1, I p1), (2, I p2), (3, B b1 0)] hF (by kernel_rfl) fun fr hF => ?_
 refine from_end rfl (then_normal ?_)
 refine wp_seq ?_
 obtain ⟨x1, hx1, h⟩ := bindE h
 obtain ⟨x2, hx2, h⟩ := bindE h
 refine wp_seq (region_b [] [true, true, false, true, true, false, true, true, false, true, true]
     [.eq (I p1), .eq (I p2), .eq (.bool x1), .eq (.bool (!x1)), .eq (.bool (!x1)), .eq (.agg #[I p0.Op, I p0.A, I p0.B, I p0.C]), .eq (I p1), .eq (I p2), .eq (.bool x2), .eq (.bool (!x2)), .eq (.bool ((!x1) || (!x2)))]
     [(3, B b1 0), (17, .bool ((!x1) || (!x2)))] mix hF (by kernel_rfl) (by kernel_rfl) (by kernel_rfl) ⟨Pd.mono_eq, Pd.mono_eq, Pd.mono_eq, trivial⟩ (fun hG => ⟨np_call [I p1, I p2] hG hF Tryd.call19 rfl rfl (fun w hC hg => (impl_shapeOk_ok p1 p2 hx1).mono fun e w' ⟨v, he, hv, hc⟩ => ⟨v, he, hc, hv⟩), np_loadBoxS hG hF ty25 rfl rfl (hs.bx 0 rfl) rfl rfl rfl rfl, np_call [.agg #[I p0.Op, I p0.A, I p0.B, I p0.C], I p1, I p2] hG hF Tryd.call20 rfl rfl (fun w hC hg => (impl_insOk_ok p0 p1 p2 (iteF hg.2 hx2)).mono fun e w' ⟨v, he, hv, hc⟩ => ⟨v, he, hc, hv⟩), trivial⟩) (by kernel_rfl) fun fr w2 hF hE hc => then_normal ?_)
 have tb := tb.ext hc
 have hs := hs.ext hc
 have hM0 := hM0.ext hc
 refine (wp_if hF (b := ((!x1) || (!x2))) rfl (fun hb => ?_) (fun hb => ?_))
 · replace h := iteT hb h
   have hs : Sep [] w2 S1 := Sep.pick [] hs (by decide) rfl
   refine wp_seq (wp_pure [(6, Str.val (⟨[]⟩))] hF (by kernel_rfl) fun fr hF => then_normal ?_)
   obtain rfl := Option.some.inj h
   exact wp_ret (then_ret (ret1 rfl hF rfl ⟨_, rfl, rfl, hM0.chg⟩))
 replace h := iteF hb h
 refine (wp_skip (then_normal ?_))
 refine wp_seq ?_
 refine wp_seq (wp_text' ?_)
 refine from_pure 1 [(3, B b1 0), (18, B b1 0)] hF (by kernel_rfl) fun fr hF => ?_
 refine s_loadBox (I p0.Op) ty3 rfl rfl hF rfl (hs.bx 0 rfl) rfl rfl fun fr hF => ?_
 refine from_end rfl (then_normal ?_)
 refine (wp_block ?_)
 refine wp_seq (wp_pure [(3, B b1 0), (19, I p0.Op), (20, .bool (p0.Op == 3))] hF (by kernel_rfl) fun fr hF => then_normal ?_)
 refine (wp_if hF (b := (p0.Op == 3)) rfl (fun hb => ?_) (fun hb => ?_))
 · replace h := iteT hb h
   obtain ⟨x3, hx3, h⟩ := bindE h
   obtain ⟨x4, hx4, h⟩ := bindE h
   obtain ⟨x5, hx5, h⟩ := bindE h
   obtain ⟨x6, hx6, h⟩ := bindE h
   obtain ⟨x7, hx7, h⟩ := bindE h
   obtain ⟨x8, hx8, h⟩ := bindE h
   obtain ⟨x9, hx9, h⟩ := bindE h
   refine wp_seq (region_bm 14 [0, 1, 3, 7, 0, 16, 55, 127, 255, 0, 512, 1655, 4095, 8191] [true, false, false, false, true, false, false, false, false, true, false, false, false, true]
       [.eq (B b1 3), .eq (I p0.C), .eq (Str.val x3), .eq (Str.val x4), .eq (B b1 1), .eq (I p0.A), .eq (Str.val x5), .eq (Str.val x6), .eq (Str.val x7), .eq (B b1 2), .eq (I p0.B), .eq (Str.val x8), .eq (Str.val x9), .eq (Str.val x9)]
       [(6, Str.val x9)] mix hF (by kernel_rfl) (by kernel_rfl) (by kernel_rfl) (by kernel_rfl) ⟨Pd.monoO_eq, Pd.monoO_eq, Pd.monoO_eq, Pd.monoO_eq, Pd.monoO_eq, Pd.monoO_eq, Pd.monoO_eq, Pd.monoO_eq, Pd.monoO_eq, Pd.monoO_eq, trivial⟩ (fun ow hG => ⟨np_to ow (np_loadBox hG hF ty3 rfl rfl (hs.bx 0 rfl) rfl rfl rfl), np_to ow (np_call [I p0.C] hG hF Tryd.call21 rfl rfl (fun w hC hg => (impl_OpName_ok p0.C hx3).mono fun e w' ⟨v, he, hv, hc⟩ => ⟨v, he, hc, hv⟩)), np_to ow (np_cat (s1 := x3) (s2 := (⟨[32]⟩)) hG hF rfl rfl rfl (fun hg => hx4) rfl), np_to ow (np_loadBox hG hF ty3 rfl rfl (hs.bx 0 rfl) rfl rfl rfl), np_to ow (np_call [I p0.A] hG hF Tryd.call22 rfl rfl (fun w hC hg => (impl_regName_ok p0.A hx5 (tb.ext hC)).mono fun e w' ⟨v, he, hv, hc⟩ => ⟨v, he, hc, hv⟩)), np_to ow (np_cat (s1 := x4) (s2 := x5) hG hF rfl rfl rfl (fun hg => hx6) rfl), np_to ow (np_cat (s1 := x6) (s2 := (⟨[32]⟩)) hG hF rfl rfl rfl (fun hg => hx7) rfl), np_to ow (np_loadBox hG hF ty3 rfl rfl (hs.bx 0 rfl) rfl rfl rfl), np_to ow (np_call [I p0.B] hG hF Tryd.call22 rfl rfl (fun w hC hg => (impl_regName_ok p0.B hx8 (tb.ext hC)).mono fun e w' ⟨v, he, hv, hc⟩ => ⟨v, he, hc, hv⟩)), np_to ow (np_cat (s1 := x7) (s2 := x8) hG hF rfl rfl rfl (fun hg => hx9) rfl), trivial⟩) (by kernel_rfl) fun ow fr w3 hF hE hc => ?_)
   have tb := tb.ext hc
   have hs := hs.ext hc
   have hM0 := hM0.ext hc
   have hs : Sep [] w3 S1 := Sep.pick [] hs (by decide) rfl
   refine from_end rfl (then_normal ?_)
   obtain rfl := Option.some.inj h
   exact wp_ret (blk_ret (then_ret (ret1 rfl hF rfl ⟨_, rfl, rfl, hM0.chg⟩)))
 replace h := iteF hb h
 refine wp_seq ?_
 refine wp_seq (wp_pure [(3, B b1 0), (19, I p0.Op), (35, .bool (p0.Op == 2))] hF (by kernel_rfl) fun fr hF => then_normal ?_)
 refine (wp_if hF (b := (p0.Op == 2)) rfl (fun hb => ?_) (fun hb => ?_))
 · replace h := iteT hb h
   refine (wp_skip (then_normal ?_))
   refine (wp_if hF (b := (p0.Op == 2)) rfl (fun hb => ?_) (fun hb => ?_))
   · replace h := iteT hb h
     obtain ⟨x10, hx10, h⟩ := bindE h
     obtain ⟨x11, hx11, h⟩ := bindE h
     obtain ⟨x12, hx12, h⟩ := bindE h
     obtain ⟨x13, hx13, h⟩ := bindE h
     obtain ⟨x14, hx14, h⟩ := bindE h
     obtain ⟨x15, hx15, h⟩ := bindE h
     obtain ⟨x16, hx16, h⟩ := bindE h
     refine wp_seq (region_bm 14 [0, 1, 3, 7, 0, 16, 55, 127, 255, 0, 512, 1655, 4095, 8191] [true, false, false, false, true, false, false, false, false, true, false, false, false, true]
         [.eq (B b1 0), .eq (I p0.Op), .eq (Str.val x10), .eq (Str.val x11), .eq (B b1 1), .eq (I p0.A), .eq (Str.val x12), .eq (Str.val x13), .eq (Str.val x14), .eq (B b1 2), .eq (I p0.B), .eq (Str.val x15), .eq (Str.val x16), .eq (Str.val x16)]
         [(6, Str.val x16)] mix hF (by kernel_rfl) (by kernel_rfl) (by kernel_rfl) (by kernel_rfl) ⟨Pd.monoO_eq, Pd.monoO_eq, Pd.monoO_eq, Pd.monoO_eq, Pd.monoO_eq, Pd.monoO_eq, Pd.monoO_eq, Pd.monoO_eq, Pd.monoO_eq, Pd.monoO_eq, trivial⟩ (fun ow hG => ⟨np_to ow (np_loadBox hG hF ty3 rfl rfl (hs.bx 0 rfl) rfl rfl rfl), np_to ow (np_call [I p0.Op] hG hF Tryd.call23 rfl rfl (fun w hC hg => (impl_insWord_ok p0.Op hx10).mono fun e w' ⟨v, he, hv, hc⟩ => ⟨v, he, hc, hv⟩)), np_to ow (np_cat (s1 := x10) (s2 := (⟨[32]⟩)) hG hF rfl rfl rfl (fun hg => hx11) rfl), np_to ow (np_loadBox hG hF ty3 rfl rfl (hs.bx 0 rfl) rfl rfl rfl), np_to ow (np_call [I p0.A] hG hF Tryd.call22 rfl rfl (fun w hC hg => (impl_regName_ok p0.A hx12 (tb.ext hC)).mono fun e w' ⟨v, he, hv, hc⟩ => ⟨v, he, hc, hv⟩)), np_to ow (np_cat (s1 := x11) (s2 := x12) hG hF rfl rfl rfl (fun hg => hx13) rfl), np_to ow (np_cat (s1 := x13) (s2 := (⟨[32]⟩)) hG hF rfl rfl rfl (fun hg => hx14) rfl), np_to ow (np_loadBox hG hF ty3 rfl rfl (hs.bx 0 rfl) rfl rfl rfl), np_to ow (np_call [I p0.B] hG hF Tryd.call22 rfl rfl (fun w hC hg => (impl_regName_ok p0.B hx15 (tb.ext hC)).mono fun e w' ⟨v, he, hv, hc⟩ => ⟨v, he, hc, hv⟩)), np_to ow (np_cat (s1 := x14) (s2 := x15) hG hF rfl rfl rfl (fun hg => hx16) rfl), trivial⟩) (by kernel_rfl) fun ow fr w4 hF hE hc => ?_)
     have tb := tb.ext hc
     have hs := hs.ext hc
     have hM0 := hM0.ext hc
     have hs : Sep [] w4 S1 := Sep.pick [] hs (by decide) rfl
     refine from_end rfl (then_normal ?_)
     obtain rfl := Option.some.inj h
     exact wp_ret (blk_ret (then_ret (ret1 rfl hF rfl ⟨_, rfl, rfl, hM0.chg⟩)))
   replace h := iteF hb h
   refine wp_seq ?_
   refine wp_seq (wp_pure [(3, B b1 0), (19, I p0.Op), (52, .bool (p0.Op == 1))] hF (by kernel_rfl) fun fr hF => then_normal ?_)
   refine (wp_merge [(3, B b1 0), (19, I p0.Op), (52, .bool ((p0.Op == 1) || (p0.Op == 10)))] hF (b := (p0.Op == 1)) rfl (fun hb => ?_) (fun hb => ?_) fun fr hF => then_normal ?_)
   · exact wp_skip ⟨rfl, rfl, (hF.sub [(3, B b1 0), (19, I p0.Op), (52, .bool (p0.Op == 1))] (by kernel_rfl)).eqs (by first | (simp only [hb]; done) | (simp only [hb]; rfl))⟩
   · exact wp_pure [(3, B b1 0), (19, I p0.Op), (52, .bool (p0.Op == 10))] hF (by kernel_rfl) fun fr hF => ⟨rfl, rfl, hF.eqs (by first | (simp only [hb]; done) | (simp only [hb]; rfl))⟩
   refine (wp_if hF (b := ((p0.Op == 1) || (p0.Op == 10))) rfl (fun hb => ?_) (fun hb => ?_))
   · replace h := iteT hb h
     obtain ⟨x17, hx17, h⟩ := bindE h
     obtain ⟨x18, hx18, h⟩ := bindE h
     obtain ⟨x19, hx19, h⟩ := bindE h
     obtain ⟨x20, hx20, h⟩ := bindE h
     obtain ⟨x21, hx21, h⟩ := bindE h
     obtain ⟨x22, hx22, h⟩ := bindE h
     obtain ⟨x23, hx23, h⟩ := bindE h
     refine wp_seq (region_bm 14 [0, 1, 3, 7, 0, 16, 55, 127, 255, 0, 512, 1655, 4095, 8191] [true, false, false, false, true, false, false, false, false, true, false, false, false, true]
         [.eq (B b1 0), .eq (I p0.Op), .eq (Str.val x17), .eq (Str.val x18), .eq (B b1 1), .eq (I p0.A), .eq (Str.val x19), .eq (Str.val x20), .eq (Str.val x21), .eq (B b1 2), .eq (I p0.B), .eq (Str.val x22), .eq (Str.val x23), .eq (Str.val x23)]
         [(6, Str.val x23)] mix hF (by kernel_rfl) (by kernel_rfl) (by kernel_rfl) (by kernel_rfl) ⟨Pd.monoO_eq, Pd.monoO_eq, Pd.monoO_eq, Pd.monoO_eq, Pd.monoO_eq, Pd.monoO_eq, Pd.monoO_eq, Pd.monoO_eq, Pd.monoO_eq, Pd.monoO_eq, trivial⟩ (fun ow hG => ⟨np_to ow (np_loadBox hG hF ty3 rfl rfl (hs.bx 0 rfl) rfl rfl rfl), np_to ow (np_call [I p0.Op] hG hF Tryd.call23 rfl rfl (fun w hC hg => (impl_insWord_ok p0.Op hx17).mono fun e w' ⟨v, he, hv, hc⟩ => ⟨v, he, hc, hv⟩)), np_to ow (np_cat (s1 := x17) (s2 := (⟨[32]⟩)) hG hF rfl rfl rfl (fun hg => hx18) rfl), np_to ow (np_loadBox hG hF ty3 rfl rfl (hs.bx 0 rfl) rfl rfl rfl), np_to ow (np_call [I p0.A] hG hF Tryd.call22 rfl rfl (fun w hC hg => (impl_regName_ok p0.A hx19 (tb.ext hC)).mono fun e w' ⟨v, he, hv, hc⟩ => ⟨v, he, hc, hv⟩)), np_to ow (np_cat (s1 := x18) (s2 := x19) hG hF rfl rfl rfl (fun hg => hx20) rfl), np_to ow (np_cat (s1 := x20) (s2 := (⟨[32]⟩)) hG hF rfl rfl rfl (fun hg => hx21) rfl), np_to ow (np_loadBox hG hF ty3 rfl rfl (hs.bx 0 rfl) rfl rfl rfl), np_to ow (np_call [I p0.B] hG hF Tryd.call24 rfl rfl (fun w hC hg => (impl_FormatInt_ok p0.B hx22 (tb.ext hC)).mono fun e w' ⟨v, he, hv, hc⟩ => ⟨v, he, hc, hv⟩)), np_to ow (np_cat (s1 := x21) (s2 := x22) hG hF rfl rfl rfl (fun hg => hx23) rfl), trivial⟩) (by kernel_rfl) fun ow fr w5 hF hE hc => ?_)
     have tb := tb.ext hc
     have hs := hs.ext hc
     have hM0 := hM0.ext hc
     have hs : Sep [] w5 S1 := Sep.pick [] hs (by decide) rfl
     refine from_end rfl (then_normal ?_)
     obtain rfl := Option.some.inj h
     exact wp_ret (blk_ret (then_ret (ret1 rfl hF rfl ⟨_, rfl, rfl, hM0.chg⟩)))
   replace h := iteF hb h
   refine wp_seq ?_
   refine wp_seq (wp_pure [(3, B b1 0), (19, I p0.Op), (68, .bool (p0.Op == 4))] hF (by kernel_rfl) fun fr hF => then_normal ?_)
   refine (wp_if hF (b := (p0.Op == 4)) rfl (fun hb => ?_) (fun hb => ?_))
   · replace h := iteT hb h
     refine (wp_skip (then_normal ?_))
     refine (wp_if hF (b := (p0.Op == 4)) rfl (fun hb => ?_) (fun hb => ?_))
     · replace h := iteT hb h
       obtain ⟨x24, hx24, h⟩ := bindE h
       obtain ⟨x25, hx25, h⟩ := bindE h
       obtain ⟨x26, hx26, h⟩ := bindE h
       obtain ⟨x27, hx27, h⟩ := bindE h
       refine wp_seq (region_bm 9 [0, 1, 3, 7, 0, 16, 55, 127, 255] [true, false, false, false, true, false, false, false, true]
           [.eq (B b1 0), .eq (I p0.Op), .eq (Str.val x24), .eq (Str.val x25), .eq (B b1 1), .eq (I p0.A), .eq (Str.val x26), .eq (Str.val x27), .eq (Str.val x27)]
           [(6, Str.val x27)] mix hF (by kernel_rfl) (by kernel_rfl) (by kernel_rfl) (by kernel_rfl) ⟨Pd.monoO_eq, Pd.monoO_eq, Pd.monoO_eq, Pd.monoO_eq, Pd.monoO_eq, Pd.monoO_eq, trivial⟩ (fun ow hG => ⟨np_to ow (np_loadBox hG hF ty3 rfl rfl (hs.bx 0 rfl) rfl rfl rfl), np_to ow (np_call [I p0.Op] hG hF Tryd.call23 rfl rfl (fun w hC hg => (impl_insWord_ok p0.Op hx24).mono fun e w' ⟨v, he, hv, hc⟩ => ⟨v, he, hc, hv⟩)), np_to ow (np_cat (s1 := x24) (s2 := (⟨[32]⟩)) hG hF rfl rfl rfl (fun hg => hx25) rfl), np_to ow (np_loadBox hG hF ty3 rfl rfl (hs.bx 0 rfl) rfl rfl rfl), np_to ow (np_call [I p0.A] hG hF Tryd.call22 rfl rfl (fun w hC hg => (impl_regName_ok p0.A hx26 (tb.ext hC)).mono fun e w' ⟨v, he, hv, hc⟩ => ⟨v, he, hc, hv⟩)), np_to ow (np_cat (s1 := x25) (s2 := x26) hG hF rfl rfl rfl (fun hg => hx27) rfl), trivial⟩) (by kernel_rfl) fun ow fr w6 hF hE hc => ?_)
       have tb := tb.ext hc
       have hs := hs.ext hc
       have hM0 := hM0.ext hc
       have hs : Sep [] w6 S1 := Sep.pick [] hs (by decide) rfl
       refine from_end rfl (then_normal ?_)
       obtain rfl := Option.some.inj h
       exact wp_ret (blk_ret (then_ret (ret1 rfl hF rfl ⟨_, rfl, rfl, hM0.chg⟩)))
     replace h := iteF hb h
     refine wp_seq ?_
     refine wp_seq (wp_pure [(3, B b1 0), (19, I p0.Op), (81, .bool (p0.Op == 9))] hF (by kernel_rfl) fun fr hF => then_normal ?_)
     refine (wp_merge [(3, B b1 0), (81, .bool ((p0.Op == 9) || (p0.Op == 11)))] hF (b := (p0.Op == 9)) rfl (fun hb => ?_) (fun hb => ?_) fun fr hF => then_normal ?_)
     · exact wp_skip ⟨rfl, rfl, (hF.sub [(3, B b1 0), (81, .bool (p0.Op == 9))] (by kernel_rfl)).eqs (by first | (simp only [hb]; done) | (simp only [hb]; rfl))⟩
     · exact wp_pure [(3, B b1 0), (81, .bool (p0.Op == 11))] hF (by kernel_rfl) fun fr hF => ⟨rfl, rfl, hF.eqs (by first | (simp only [hb]; done) | (simp only [hb]; rfl))⟩
     refine (wp_if hF (b := ((p0.Op == 9) || (p0.Op == 11))) rfl (fun hb => ?_) (fun hb => ?_))
     · replace h := iteT hb h
       obtain ⟨x28, hx28, h⟩ := bindE h
       obtain ⟨x29, hx29, h⟩ := bindE h
       obtain ⟨x30, hx30, h⟩ := bindE h
       obtain ⟨x31, hx31, h⟩ := bindE h
       refine wp_seq (region_bm 9 [0, 1, 3, 7, 0, 16, 55, 127, 255] [true, false, false, false, true, false, false, false, true]
           [.eq (B b1 0), .eq (I p0.Op), .eq (Str.val x28), .eq (Str.val x29), .eq (B b1 2), .eq (I p0.B), .eq (Str.val x30), .eq (Str.val x31), .eq (Str.val x31)]
           [(6, Str.val x31)] mix hF (by kernel_rfl) (by kernel_rfl) (by kernel_rfl) (by kernel_rfl) ⟨Pd.monoO_eq, Pd.monoO_eq, Pd.monoO_eq, Pd.monoO_eq, Pd.monoO_eq, Pd.monoO_eq, trivial⟩ (fun ow hG => ⟨np_to ow (np_loadBox hG hF ty3 rfl rfl (hs.bx 0 rfl) rfl rfl rfl), np_to ow (np_call [I p0.Op] hG hF Tryd.call23 rfl rfl (fun w hC hg => (impl_insWord_ok p0.Op hx28).mono fun e w' ⟨v, he, hv, hc⟩ => ⟨v, he, hc, hv⟩)), np_to ow (np_cat (s1 := x28) (s2 := (⟨[32]⟩)) hG hF rfl rfl rfl (fun hg => hx29) rfl), np_to ow (np_loadBox hG hF ty3 rfl rfl (hs.bx 0 rfl) rfl rfl rfl), np_to ow (np_call [I p0.B] hG hF Tryd.call24 rfl rfl (fun w hC hg => (impl_FormatInt_ok p0.B hx30 (tb.ext hC)).mono fun e w' ⟨v, he, hv, hc⟩ => ⟨v, he, hc, hv⟩)), np_to ow (np_cat (s1 := x29) (s2 := x30) hG hF rfl rfl rfl (fun hg => hx31) rfl), trivial⟩) (by kernel_rfl) fun ow fr w7 hF hE hc => ?_)
       have tb := tb.ext hc
       have hs := hs.ext hc
       have hM0 := hM0.ext hc
       have hs : Sep [] w7 S1 := Sep.pick [] hs (by decide) rfl
       refine from_end rfl (then_normal ?_)
       obtain rfl := Option.some.inj h
       exact wp_ret (blk_ret (then_ret (ret1 rfl hF rfl ⟨_, rfl, rfl, hM0.chg⟩)))
     replace h := iteF hb h
     refine (wp_skip ?_)
     refine blk_normal (then_normal ?_)
     refine wp_seq (wp_text' ?_)
     refine from_pure 1 [(92, B b1 0)] hF (by kernel_rfl) fun fr hF => ?_
     refine s_loadBox (I p0.Op) ty3 rfl rfl hF rfl (hs.bx 0 rfl) rfl rfl fun fr hF => ?_
     have hs : Sep [] w2 S1 := Sep.pick [] hs (by decide) rfl
     obtain ⟨x32, hx32, h⟩ := bindE h
     refine s_call [I p0.Op] Tryd.call23 rfl rfl hF rfl (impl_insWord_ok p0.Op hx32) fun v w8 fr hRes hF => ?_
     obtain ⟨rfl, hc⟩ := hRes
     have tb := tb.ext hc
     have hs := hs.ext hc
     have hM0 := hM0.ext hc
     refine from_pure 1 [(6, Str.val x32)] hF (by kernel_rfl) fun fr hF => ?_
     refine from_end rfl (then_normal ?_)
     obtain rfl := Option.some.inj h
     exact wp_ret (ret1 rfl hF rfl ⟨_, rfl, rfl, hM0.chg⟩)
   replace h := iteF hb h
   refine wp_seq (wp_pure [(3, B b1 0), (19, I p0.Op), (68, .bool (p0.Op == 5))] hF (by kernel_rfl) fun fr hF => then_normal ?_)
   refine (wp_if hF (b := (p0.Op == 5)) rfl (fun hb => ?_) (fun hb => ?_))
   · replace h := iteT hb h
     refine (wp_skip (then_normal ?_))
     refine (wp_if hF (b := (p0.Op == 5)) rfl (fun hb => ?_) (fun hb => ?_))
     · replace h := iteT hb h
       obtain ⟨x33, hx33, h⟩ := bindE h
       obtain ⟨x34, hx34, h⟩ := bindE h
       obtain ⟨x35, hx35, h⟩ := bindE h
       obtain ⟨x36, hx36, h⟩ := bindE h
       refine wp_seq (region_bm 9 [0, 1, 3, 7, 0, 16, 55, 127, 255] [true, false, false, false, true, false, false, false, true]
           [.eq (B b1 0), .eq (I p0.Op), .eq (Str.val x33), .eq (Str.val x34), .eq (B b1 1), .eq (I p0.A), .eq (Str.val x35), .eq (Str.val x36), .eq (Str.val x36)]
           [(6, Str.val x36)] mix hF (by kernel_rfl) (by kernel_rfl) (by kernel_rfl) (by kernel_rfl) ⟨Pd.monoO_eq, Pd.monoO_eq, Pd.monoO_eq, Pd.monoO_eq, Pd.monoO_eq, Pd.monoO_eq, trivial⟩ (fun ow hG => ⟨np_to ow (np_loadBox hG hF ty3 rfl rfl (hs.bx 0 rfl) rfl rfl rfl), np_to ow (np_call [I p0.Op] hG hF Tryd.call23 rfl rfl (fun w hC hg => (impl_insWord_ok p0.Op hx33).mono fun e w' ⟨v, he, hv, hc⟩ => ⟨v, he, hc, hv⟩)), np_to ow (np_cat (s1 := x33) (s2 := (⟨[32]⟩)) hG hF rfl rfl rfl (fun hg => hx34) rfl), np_to ow (np_loadBox hG hF ty3 rfl rfl (hs.bx 0 rfl) rfl rfl rfl), np_to ow (np_call [I p0.A] hG hF Tryd.call22 rfl rfl (fun w hC hg => (impl_regName_ok p0.A hx35 (tb.ext hC)).mono fun e w' ⟨v, he, hv, hc⟩ => ⟨v, he, hc, hv⟩)), np_to ow (np_cat (s1 := x34) (s2 := x35) hG hF rfl rfl rfl (fun hg => hx36) rfl), trivial⟩) (by kernel_rfl) fun ow fr w9 hF hE hc => ?_)
       have tb := tb.ext hc
       have hs := hs.ext hc
       have hM0 := hM0.ext hc
       have hs : Sep [] w9 S1 := Sep.pick [] hs (by decide) rfl
       refine from_end rfl (then_normal ?_)
       obtain rfl := Option.some.inj h
       exact wp_ret (blk_ret (then_ret (ret1 rfl hF rfl ⟨_, rfl, rfl, hM0.chg⟩)))
     replace h := iteF hb h
     refine wp_seq ?_
     refine wp_seq (wp_pure [(3, B b1 0), (19, I p0.Op), (81, .bool (p0.Op == 9))] hF (by kernel_rfl) fun fr hF => then_normal ?_)
     refine (wp_merge [(3, B b1 0), (81, .bool ((p0.Op == 9) || (p0.Op == 11)))] hF (b := (p0.Op == 9)) rfl (fun hb => ?_) (fun hb => ?_) fun fr hF => then_normal ?_)
     · exact wp_skip ⟨rfl, rfl, (hF.sub [(3, B b1 0), (81, .bool (p0.Op == 9))] (by kernel_rfl)).eqs (by first | (simp only [hb]; done) | (simp only [hb]; rfl))⟩
     · exact wp_pure [(3, B b1 0), (81, .bool (p0.Op == 11))] hF (by kernel_rfl) fun fr hF => ⟨rfl, rfl, hF.eqs (by first | (simp only [hb]; done) | (simp only [hb]; rfl))⟩
     refine (wp_if hF (b := ((p0.Op == 9) || (p0.Op == 11))) rfl (fun hb => ?_) (fun hb => ?_))
     · replace h := iteT hb h
       obtain ⟨x37, hx37, h⟩ := bindE h
       obtain ⟨x38, hx38, h⟩ := bindE h
       obtain ⟨x39, hx39, h⟩ := bindE h
       obtain ⟨x40, hx40, h⟩ := bindE h
       refine wp_seq (region_bm 9 [0, 1, 3, 7, 0, 16, 55, 127, 255] [true, false, false, false, true, false, false, false, true]
           [.eq (B b1 0), .eq (I p0.Op), .eq (Str.val x37), .eq (Str.val x38), .eq (B b1 2), .eq (I p0.B), .eq (Str.val x39), .eq (Str.val x40), .eq (Str.val x40)]
           [(6, Str.val x40)] mix hF (by kernel_rfl) (by kernel_rfl) (by kernel_rfl) (by kernel_rfl) ⟨Pd.monoO_eq, Pd.monoO_eq, Pd.monoO_eq, Pd.monoO_eq, Pd.monoO_eq, Pd.monoO_eq, trivial⟩ (fun ow hG => ⟨np_to ow (np_loadBox hG hF ty3 rfl rfl (hs.bx 0 rfl) rfl rfl rfl), np_to ow (np_call [I p0.Op] hG hF Tryd.call23 rfl rfl (fun w hC hg => (impl_insWord_ok p0.Op hx37).mono fun e w' ⟨v, he, hv, hc⟩ => ⟨v, he, hc, hv⟩)), np_to ow (np_cat (s1 := x37) (s2 := (⟨[32]⟩)) hG hF rfl rfl rfl (fun hg => hx38) rfl), np_to ow (np_loadBox hG hF ty3 rfl rfl (hs.bx 0 rfl) rfl rfl rfl), np_to ow (np_call [I p0.B] hG hF Tryd.call24 rfl rfl (fun w hC hg => (impl_FormatInt_ok p0.B hx39 (tb.ext hC)).mono fun e w' ⟨v, he, hv, hc⟩ => ⟨v, he, hc, hv⟩)), np_to ow (np_cat (s1 := x38) (s2 := x39) hG hF rfl rfl rfl (fun hg => hx40) rfl), trivial⟩) (by kernel_rfl) fun ow fr w10 hF hE hc => ?_)
       have tb := tb.ext hc
       have hs := hs.ext hc
       have hM0 := hM0.ext hc
       have hs : Sep [] w10 S1 := Sep.pick [] hs (by decide) rfl
       refine from_end rfl (then_normal ?_)
       obtain rfl := Option.some.inj h
       exact wp_ret (blk_ret (then_ret (ret1 rfl hF rfl ⟨_, rfl, rfl, hM0.chg⟩)))
     replace h := iteF hb h
     refine (wp_skip ?_)
     refine blk_normal (then_normal ?_)
     refine wp_seq (wp_text' ?_)
     refine from_pure 1 [(92, B b1 0)] hF (by kernel_rfl) fun fr hF => ?_
     refine s_loadBox (I p0.Op) ty3 rfl rfl hF rfl (hs.bx 0 rfl) rfl rfl fun fr hF => ?_
     have hs : Sep [] w2 S1 := Sep.pick [] hs (by decide) rfl
     obtain ⟨x41, hx41, h⟩ := bindE h
     refine s_call [I p0.Op] Tryd.call23 rfl rfl hF rfl (impl_insWord_ok p0.Op hx41) fun v w11 fr hRes hF => ?_
     obtain ⟨rfl, hc⟩ := hRes
     have tb := tb.ext hc
     have hs := hs.ext hc
     have hM0 := hM0.ext hc
     refine from_pure 1 [(6, Str.val x41)] hF (by kernel_rfl) fun fr hF => ?_
     refine from_end rfl (then_normal ?_)
     obtain rfl := Option.some.inj h
     exact wp_ret (ret1 rfl hF rfl ⟨_, rfl, rfl, hM0.chg⟩)
   replace h := iteF hb h
   refine wp_seq (wp_pure [(3, B b1 0), (19, I p0.Op), (68, .bool (p0.Op == 6))] hF (by kernel_rfl) fun fr hF => then_normal ?_)
   refine (wp_merge [(3, B b1 0), (19, I p0.Op), (68, .bool ((p0.Op == 6) || (p0.Op == 13)))] hF (b := (p0.Op == 6)) rfl (fun hb => ?_) (fun hb => ?_) fun fr hF => then_normal ?_)
   · exact wp_skip ⟨rfl, rfl, (hF.sub [(3, B b1 0), (19, I p0.Op), (68, .bool (p0.Op == 6))] (by kernel_rfl)).eqs (by first | (simp only [hb]; done) | (simp only [hb]; rfl))⟩
   · exact wp_pure [(3, B b1 0), (19, I p0.Op), (68, .bool (p0.Op == 13))] hF (by kernel_rfl) fun fr hF => ⟨rfl, rfl, hF.eqs (by first | (simp only [hb]; done) | (simp only [hb]; rfl))⟩
   refine (wp_if hF (b := ((p0.Op == 6) || (p0.Op == 13))) rfl (fun hb => ?_) (fun hb => ?_))
   · replace h := iteT hb h
     obtain ⟨x42, hx42, h⟩ := bindE h
     obtain ⟨x43, hx43, h⟩ := bindE h
     obtain ⟨x44, hx44, h⟩ := bindE h
     obtain ⟨x45, hx45, h⟩ := bindE h
     refine wp_seq (region_bm 9 [0, 1, 3, 7, 0, 16, 55, 127, 255] [true, false, false, false, true, false, false, false, true]
         [.eq (B b1 0), .eq (I p0.Op), .eq (Str.val x42), .eq (Str.val x43), .eq (B b1 1), .eq (I p0.A), .eq (Str.val x44), .eq (Str.val x45), .eq (Str.val x45)]
         [(6, Str.val x45)] mix hF (by kernel_rfl) (by kernel_rfl) (by kernel_rfl) (by kernel_rfl) ⟨Pd.monoO_eq, Pd.monoO_eq, Pd.monoO_eq, Pd.monoO_eq, Pd.monoO_eq, Pd.monoO_eq, trivial⟩ (fun ow hG => ⟨np_to ow (np_loadBox hG hF ty3 rfl rfl (hs.bx 0 rfl) rfl rfl rfl), np_to ow (np_call [I p0.Op] hG hF Tryd.call23 rfl rfl (fun w hC hg => (impl_insWord_ok p0.Op hx42).mono fun e w' ⟨v, he, hv, hc⟩ => ⟨v, he, hc, hv⟩)), np_to ow (np_cat (s1 := x42) (s2 := (⟨[32]⟩)) hG hF rfl rfl rfl (fun hg => hx43) rfl), np_to ow (np_loadBox hG hF ty3 rfl rfl (hs.bx 0 rfl) rfl rfl rfl), np_to ow (np_call [I p0.A] hG hF Tryd.call22 rfl rfl (fun w hC hg => (impl_regName_ok p0.A hx44 (tb.ext hC)).mono fun e w' ⟨v, he, hv, hc⟩ => ⟨v, he, hc, hv⟩)), np_to ow (np_cat (s1 := x43) (s2 := x44) hG hF rfl rfl rfl (fun hg => hx45) rfl), trivial⟩) (by kernel_rfl) fun ow fr w12 hF hE hc => ?_)
     have tb := tb.ext hc
     have hs := hs.ext hc
     have hM0 := hM0.ext hc
     have hs : Sep [] w12 S1 := Sep.pick [] hs (by decide) rfl
     refine from_end rfl (then_normal ?_)
     obtain rfl := Option.some.inj h
     exact wp_ret (blk_ret (then_ret (ret1 rfl hF rfl ⟨_, rfl, rfl, hM0.chg⟩)))
   replace h := iteF hb h
   refine wp_seq ?_
   refine wp_seq (wp_pure [(3, B b1 0), (19, I p0.Op), (81, .bool (p0.Op == 9))] hF (by kernel_rfl) fun fr hF => then_normal ?_)
   refine (wp_merge [(3, B b1 0), (81, .bool ((p0.Op == 9) || (p0.Op == 11)))] hF (b := (p0.Op == 9)) rfl (fun hb => ?_) (fun hb => ?_) fun fr hF => then_normal ?_)
   · exact wp_skip ⟨rfl, rfl, (hF.sub [(3, B b1 0), (81, .bool (p0.Op == 9))] (by kernel_rfl)).eqs (by first | (simp only [hb]; done) | (simp only [hb]; rfl))⟩
   · exact wp_pure [(3, B b1 0), (81, .bool (p0.Op == 11))] hF (by kernel_rfl) fun fr hF => ⟨rfl, rfl, hF.eqs (by first | (simp only [hb]; done) | (simp only [hb]; rfl))⟩
   refine (wp_if hF (b := ((p0.Op == 9) || (p0.Op == 11))) rfl (fun hb => ?_) (fun hb => ?_))
   · replace h := iteT hb h
     obtain ⟨x46, hx46, h⟩ := bindE h
     obtain ⟨x47, hx47, h⟩ := bindE h
     obtain ⟨x48, hx48, h⟩ := bindE h
     obtain ⟨x49, hx49, h⟩ := bindE h
     refine wp_seq (region_bm 9 [0, 1, 3, 7, 0, 16, 55, 127, 255] [true, false, false, false, true, false, false, false, true]
         [.eq (B b1 0), .eq (I p0.Op), .eq (Str.val x46), .eq (Str.val x47), .eq (B b1 2), .eq (I p0.B), .eq (Str.val x48), .eq (Str.val x49), .eq (Str.val x49)]
         [(6, Str.val x49)] mix hF (by kernel_rfl) (by kernel_rfl) (by kernel_rfl) (by kernel_rfl) ⟨Pd.monoO_eq, Pd.monoO_eq, Pd.monoO_eq, Pd.monoO_eq, Pd.monoO_eq, Pd.monoO_eq, trivial⟩ (fun ow hG => ⟨np_to ow (np_loadBox hG hF ty3 rfl rfl (hs.bx 0 rfl) rfl rfl rfl), np_to ow (np_call [I p0.Op] hG hF Tryd.call23 rfl rfl (fun w hC hg => (impl_insWord_ok p0.Op hx46).mono fun e w' ⟨v, he, hv, hc⟩ => ⟨v, he, hc, hv⟩)), np_to ow (np_cat (s1 := x46) (s2 := (⟨[32]⟩)) hG hF rfl rfl rfl (fun hg => hx47) rfl), np_to ow (np_loadBox hG hF ty3 rfl rfl (hs.bx 0 rfl) rfl rfl rfl), np_to ow (np_call [I p0.B] hG hF Tryd.call24 rfl rfl (fun w hC hg => (impl_FormatInt_ok p0.B hx48 (tb.ext hC)).mono fun e w' ⟨v, he, hv, hc⟩ => ⟨v, he, hc, hv⟩)), np_to ow (np_cat (s1 := x47) (s2 := x48) hG hF rfl rfl rfl (fun hg => hx49) rfl), trivial⟩) (by kernel_rfl) fun ow fr w13 hF hE hc => ?_)
     have tb := tb.ext hc
     have hs := hs.ext hc
     have hM0 := hM0.ext hc
     have hs : Sep [] w13 S1 := Sep.pick [] hs (by decide) rfl
     refine from_end rfl (then_normal ?_)
     obtain rfl := Option.some.inj h
     exact wp_ret (blk_ret (then_ret (ret1 rfl hF rfl ⟨_, rfl, rfl, hM0.chg⟩)))
   replace h := iteF hb h
   refine (wp_skip ?_)
   refine blk_normal (then_normal ?_)
   refine wp_seq (wp_text' ?_)
   refine from_pure 1 [(92, B b1 0)] hF (by kernel_rfl) fun fr hF => ?_
   refine s_loadBox (I p0.Op) ty3 rfl rfl hF rfl (hs.bx 0 rfl) rfl rfl fun fr hF => ?_
   have hs : Sep [] w2 S1 := Sep.pick [] hs (by decide) rfl
   obtain ⟨x50, hx50, h⟩ := bindE h
   refine s_call [I p0.Op] Tryd.call23 rfl rfl hF rfl (impl_insWord_ok p0.Op hx50) fun v w14 fr hRes hF => ?_
   obtain ⟨rfl, hc⟩ := hRes
   have tb := tb.ext hc
   have hs := hs.ext hc
   have hM0 := hM0.ext hc
   refine from_pure 1 [(6, Str.val x50)] hF (by kernel_rfl) fun fr hF => ?_
   refine from_end rfl (then_normal ?_)
   obtain rfl := Option.some.inj h
   exact wp_ret (ret1 rfl hF rfl ⟨_, rfl, rfl, hM0.chg⟩)
 replace h := iteF hb h
 refine wp_seq (wp_pure [(3, B b1 0), (19, I p0.Op), (35, .bool (p0.Op == 7))] hF (by kernel_rfl) fun fr hF => then_normal ?_)
 refine (wp_merge [(3, B b1 0), (19, I p0.Op), (35, .bool ((p0.Op == 7) || (p0.Op == 8)))] hF (b := (p0.Op == 7)) rfl (fun hb => ?_) (fun hb => ?_) fun fr hF => then_normal ?_)
 · exact wp_skip ⟨rfl, rfl, (hF.sub [(3, B b1 0), (19, I p0.Op), (35, .bool (p0.Op == 7))] (by kernel_rfl)).eqs (by first | (simp only [hb]; done) | (simp only [hb]; rfl))⟩
 · exact wp_pure [(3, B b1 0), (19, I p0.Op), (35, .bool (p0.Op == 8))] hF (by kernel_rfl) fun fr hF => ⟨rfl, rfl, hF.eqs (by first | (simp only [hb]; done) | (simp only [hb]; rfl))⟩
 refine (wp_if hF (b := ((p0.Op == 7) || (p0.Op == 8))) rfl (fun hb => ?_) (fun hb => ?_))
 · replace h := iteT hb h
   obtain ⟨x51, hx51, h⟩ := bindE h
   obtain ⟨x52, hx52, h⟩ := bindE h
   obtain ⟨x53, hx53, h⟩ := bindE h
   obtain ⟨x54, hx54, h⟩ := bindE h
   obtain ⟨x55, hx55, h⟩ := bindE h
   obtain ⟨x56, hx56, h⟩ := bindE h
   obtain ⟨x57, hx57, h⟩ := bindE h
   refine wp_seq (region_bm 14 [0, 1, 3, 7, 0, 16, 55, 127, 255, 0, 512, 1655, 4095, 8191] [true, false, false, false, true, false, false, false, false, true, false, false, false, true]
       [.eq (B b1 0), .eq (I p0.Op), .eq (Str.val x51), .eq (Str.val x52), .eq (B b1 1), .eq (I p0.A), .eq (Str.val x53), .eq (Str.val x54), .eq (Str.val x55), .eq (B b1 2), .eq (I p0.B), .eq (Str.val x56), .eq (Str.val x57), .eq (Str.val x57)]
       [(6, Str.val x57)] mix hF (by kernel_rfl) (by kernel_rfl) (by kernel_rfl) (by kernel_rfl) ⟨Pd.monoO_eq, Pd.monoO_eq, Pd.monoO_eq, Pd.monoO_eq, Pd.monoO_eq, Pd.monoO_eq, Pd.monoO_eq, Pd.monoO_eq, Pd.monoO_eq, Pd.monoO_eq, trivial⟩ (fun ow hG => ⟨np_to ow (np_loadBox hG hF ty3 rfl rfl (hs.bx 0 rfl) rfl rfl rfl), np_to ow (np_call [I p0.Op] hG hF Tryd.call23 rfl rfl (fun w hC hg => (impl_insWord_ok p0.Op hx51).mono fun e w' ⟨v, he, hv, hc⟩ => ⟨v, he, hc, hv⟩)), np_to ow (np_cat (s1 := x51) (s2 := (⟨[32]⟩)) hG hF rfl rfl rfl (fun hg => hx52) rfl), np_to ow (np_loadBox hG hF ty3 rfl rfl (hs.bx 0 rfl) rfl rfl rfl), np_to ow (np_call [I p0.A] hG hF Tryd.call22 rfl rfl (fun w hC hg => (impl_regName_ok p0.A hx53 (tb.ext hC)).mono fun e w' ⟨v, he, hv, hc⟩ => ⟨v, he, hc, hv⟩)), np_to ow (np_cat (s1 := x52) (s2 := x53) hG hF rfl rfl rfl (fun hg => hx54) rfl), np_to ow (np_cat (s1 := x54) (s2 := (⟨[32]⟩)) hG hF rfl rfl rfl (fun hg => hx55) rfl), np_to ow (np_loadBox hG hF ty3 rfl rfl (hs.bx 0 rfl) rfl rfl rfl), np_to ow (np_call [I p0.B] hG hF Tryd.call22 rfl rfl (fun w hC hg => (impl_regName_ok p0.B hx56 (tb.ext hC)).mono fun e w' ⟨v, he, hv, hc⟩ => ⟨v, he, hc, hv⟩)), np_to ow (np_cat (s1 := x55) (s2 := x56) hG hF rfl rfl rfl (fun hg => hx57) rfl), trivial⟩) (by kernel_rfl) fun ow fr w15 hF hE hc => ?_)
   have tb := tb.ext hc
   have hs := hs.ext hc
   have hM0 := hM0.ext hc
   have hs : Sep [] w15 S1 := Sep.pick [] hs (by decide) rfl
   refine from_end rfl (then_normal ?_)
   obtain rfl := Option.some.inj h
   exact wp_ret (blk_ret (then_ret (ret1 rfl hF rfl ⟨_, rfl, rfl, hM0.chg⟩)))
 replace h := iteF hb h
 refine wp_seq ?_
 refine wp_seq (wp_pure [(3, B b1 0), (19, I p0.Op), (52, .bool (p0.Op == 1))] hF (by kernel_rfl) fun fr hF => then_normal ?_)
 refine (wp_merge [(3, B b1 0), (19, I p0.Op), (52, .bool ((p0.Op == 1) || (p0.Op == 10)))] hF (b := (p0.Op == 1)) rfl (fun hb => ?_) (fun hb => ?_) fun fr hF => then_normal ?_)
 · exact wp_skip ⟨rfl, rfl, (hF.sub [(3, B b1 0), (19, I p0.Op), (52, .bool (p0.Op == 1))] (by kernel_rfl)).eqs (by first | (simp only [hb]; done) | (simp only [hb]; rfl))⟩
 · exact wp_pure [(3, B b1 0), (19, I p0.Op), (52, .bool (p0.Op == 10))] hF (by kernel_rfl) fun fr hF => ⟨rfl, rfl, hF.eqs (by first | (simp only [hb]; done) | (simp only [hb]; rfl))⟩
 refine (wp_if hF (b := ((p0.Op == 1) || (p0.Op == 10))) rfl (fun hb => ?_) (fun hb => ?_))
 · replace h := iteT hb h
   obtain ⟨x58, hx58, h⟩ := bindE h
   obtain ⟨x59, hx59, h⟩ := bindE h
   obtain ⟨x60, hx60, h⟩ := bindE h
   obtain ⟨x61, hx61, h⟩ := bindE h
   obtain ⟨x62, hx62, h⟩ := bindE h
   obtain ⟨x63, hx63, h⟩ := bindE h
   obtain ⟨x64, hx64, h⟩ := bindE h
   refine wp_seq (region_bm 14 [0, 1, 3, 7, 0, 16, 55, 127, 255, 0, 512, 1655, 4095, 8191] [true, false, false, false, true, false, false, false, false, true, false, false, false, true]
       [.eq (B b1 0), .eq (I p0.Op), .eq (Str.val x58), .eq (Str.val x59), .eq (B b1 1), .eq (I p0.A), .eq (Str.val x60), .eq (Str.val x61), .eq (Str.val x62), .eq (B b1 2), .eq (I p0.B), .eq (Str.val x63), .eq (Str.val x64), .eq (Str.val x64)]
       [(6, Str.val x64)] mix hF (by kernel_rfl) (by kernel_rfl) (by kernel_rfl) (by kernel_rfl) ⟨Pd.monoO_eq, Pd.monoO_eq, Pd.monoO_eq, Pd.monoO_eq, Pd.monoO_eq, Pd.monoO_eq, Pd.monoO_eq, Pd.monoO_eq, Pd.monoO_eq, Pd.monoO_eq, trivial⟩ (fun ow hG => ⟨np_to ow (np_loadBox hG hF ty3 rfl rfl (hs.bx 0 rfl) rfl rfl rfl), np_to ow (np_call [I p0.Op] hG hF Tryd.call23 rfl rfl (fun w hC hg => (impl_insWord_ok p0.Op hx58).mono fun e w' ⟨v, he, hv, hc⟩ => ⟨v, he, hc, hv⟩)), np_to ow (np_cat (s1 := x58) (s2 := (⟨[32]⟩)) hG hF rfl rfl rfl (fun hg => hx59) rfl), np_to ow (np_loadBox hG hF ty3 rfl rfl (hs.bx 0 rfl) rfl rfl rfl), np_to ow (np_call [I p0.A] hG hF Tryd.call22 rfl rfl (fun w hC hg => (impl_regName_ok p0.A hx60 (tb.ext hC)).mono fun e w' ⟨v, he, hv, hc⟩ => ⟨v, he, hc, hv⟩)), np_to ow (np_cat (s1 := x59) (s2 := x60) hG hF rfl rfl rfl (fun hg => hx61) rfl), np_to ow (np_cat (s1 := x61) (s2 := (⟨[32]⟩)) hG hF rfl rfl rfl (fun hg => hx62) rfl), np_to ow (np_loadBox hG hF ty3 rfl rfl (hs.bx 0 rfl) rfl rfl rfl), np_to ow (np_call [I p0.B] hG hF Tryd.call24 rfl rfl (fun w hC hg => (impl_FormatInt_ok p0.B hx63 (tb.ext hC)).mono fun e w' ⟨v, he, hv, hc⟩ => ⟨v, he, hc, hv⟩)), np_to ow (np_cat (s1 := x62) (s2 := x63) hG hF rfl rfl rfl (fun hg => hx64) rfl), trivial⟩) (by kernel_rfl) fun ow fr w16 hF hE hc => ?_)
   have tb := tb.ext hc
   have hs := hs.ext hc
   have hM0 := hM0.ext hc
   have hs : Sep [] w16 S1 := Sep.pick [] hs (by decide) rfl
   refine from_end rfl (then_normal ?_)
   obtain rfl := Option.some.inj h
   exact wp_ret (blk_ret (then_ret (ret1 rfl hF rfl ⟨_, rfl, rfl, hM0.chg⟩)))
 replace h := iteF hb h
 refine wp_seq ?_
 refine wp_seq (wp_pure [(3, B b1 0), (19, I p0.Op), (68, .bool (p0.Op == 4))] hF (by kernel_rfl) fun fr hF => then_normal ?_)
 refine (wp_if hF (b := (p0.Op == 4)) rfl (fun hb => ?_) (fun hb => ?_))
 · replace h := iteT hb h
   refine (wp_skip (then_normal ?_))
   refine (wp_if hF (b := (p0.Op == 4)) rfl (fun hb => ?_) (fun hb => ?_))
   · replace h := iteT hb h
     obtain ⟨x65, hx65, h⟩ := bindE h
     obtain ⟨x66, hx66, h⟩ := bindE h
     obtain ⟨x67, hx67, h⟩ := bindE h
     obtain ⟨x68, hx68, h⟩ := bindE h
     refine wp_seq (region_bm 9 [0, 1, 3, 7, 0, 16, 55, 127, 255] [true, false, false, false, true, false, false, false, true]
         [.eq (B b1 0), .eq (I p0.Op), .eq (Str.val x65), .eq (Str.val x66), .eq (B b1 1), .eq (I p0.A), .eq (Str.val x67), .eq (Str.val x68), .eq (Str.val x68)]
         [(6, Str.val x68)] mix hF (by kernel_rfl) (by kernel_rfl) (by kernel_rfl) (by kernel_rfl) ⟨Pd.monoO_eq, Pd.monoO_eq, Pd.monoO_eq, Pd.monoO_eq, Pd.monoO_eq, Pd.monoO_eq, trivial⟩ (fun ow hG => ⟨np_to ow (np_loadBox hG hF ty3 rfl rfl (hs.bx 0 rfl) rfl rfl rfl), np_to ow (np_call [I p0.Op] hG hF Tryd.call23 rfl rfl (fun w hC hg => (impl_insWord_ok p0.Op hx65).mono fun e w' ⟨v, he, hv, hc⟩ => ⟨v, he, hc, hv⟩)), np_to ow (np_cat (s1 := x65) (s2 := (⟨[32]⟩)) hG hF rfl rfl rfl (fun hg => hx66) rfl), np_to ow (np_loadBox hG hF ty3 rfl rfl (hs.bx 0 rfl) rfl rfl rfl), np_to ow (np_call [I p0.A] hG hF Tryd.call22 rfl rfl (fun w hC hg => (impl_regName_ok p0.A hx67 (tb.ext hC)).mono fun e w' ⟨v, he, hv, hc⟩ => ⟨v, he, hc, hv⟩)), np_to ow (np_cat (s1 := x66) (s2 := x67) hG hF rfl rfl rfl (fun hg => hx68) rfl), trivial⟩) (by kernel_rfl) fun ow fr w17 hF hE hc => ?_)
     have tb := tb.ext hc
     have hs := hs.ext hc
     have hM0 := hM0.ext hc
     have hs : Sep [] w17 S1 := Sep.pick [] hs (by decide) rfl
     refine from_end rfl (then_normal ?_)
     obtain rfl := Option.some.inj h
     exact wp_ret (blk_ret (then_ret (ret1 rfl hF rfl ⟨_, rfl, rfl, hM0.chg⟩)))
   replace h := iteF hb h
   refine wp_seq ?_
   refine wp_seq (wp_pure [(3, B b1 0), (19, I p0.Op), (81, .bool (p0.Op == 9))] hF (by kernel_rfl) fun fr hF => then_normal ?_)
   refine (wp_merge [(3, B b1 0), (81, .bool ((p0.Op == 9) || (p0.Op == 11)))] hF (b := (p0.Op == 9)) rfl (fun hb => ?_) (fun hb => ?_) fun fr hF => then_normal ?_)
   · exact wp_skip ⟨rfl, rfl, (hF.sub [(3, B b1 0), (81, .bool (p0.Op == 9))] (by kernel_rfl)).eqs (by first | (simp only [hb]; done) | (simp only [hb]; rfl))⟩
   · exact wp_pure [(3, B b1 0), (81, .bool (p0.Op == 11))] hF (by kernel_rfl) fun fr hF => ⟨rfl, rfl, hF.eqs (by first | (simp only [hb]; done) | (simp only [hb]; rfl))⟩
   refine (wp_if hF (b := ((p0.Op == 9) || (p0.Op == 11))) rfl (fun hb => ?_) (fun hb => ?_))
   · replace h := iteT hb h
     obtain ⟨x69, hx69, h⟩ := bindE h
     obtain ⟨x70, hx70, h⟩ := bindE h
     obtain ⟨x71, hx71, h⟩ := bindE h
     obtain ⟨x72, hx72, h⟩ := bindE h
     refine wp_seq (region_bm 9 [0, 1, 3, 7, 0, 16, 55, 127, 255] [true, false, false, false, true, false, false, false, true]
         [.eq (B b1 0), .eq (I p0.Op), .eq (Str.val x69), .eq (Str.val x70), .eq (B b1 2), .eq (I p0.B), .eq (Str.val x71), .eq (Str.val x72), .eq (Str.val x72)]
         [(6, Str.val x72)] mix hF (by kernel_rfl) (by kernel_rfl) (by kernel_rfl) (by kernel_rfl) ⟨Pd.monoO_eq, Pd.monoO_eq, Pd.monoO_eq, Pd.monoO_eq, Pd.monoO_eq, Pd.monoO_eq, trivial⟩ (fun ow hG => ⟨np_to ow (np_loadBox hG hF ty3 rfl rfl (hs.bx 0 rfl) rfl rfl rfl), np_to ow (np_call [I p0.Op] hG hF Tryd.call23 rfl rfl (fun w hC hg => (impl_insWord_ok p0.Op hx69).mono fun e w' ⟨v, he, hv, hc⟩ => ⟨v, he, hc, hv⟩)), np_to ow (np_cat (s1 := x69) (s2 := (⟨[32]⟩)) hG hF rfl rfl rfl (fun hg => hx70) rfl), np_to ow (np_loadBox hG hF ty3 rfl rfl (hs.bx 0 rfl) rfl rfl rfl), np_to ow (np_call [I p0.B] hG hF Tryd.call24 rfl rfl (fun w hC hg => (impl_FormatInt_ok p0.B hx71 (tb.ext hC)).mono fun e w' ⟨v, he, hv, hc⟩ => ⟨v, he, hc, hv⟩)), np_to ow (np_cat (s1 := x70) (s2 := x71) hG hF rfl rfl rfl (fun hg => hx72) rfl), trivial⟩) (by kernel_rfl) fun ow fr w18 hF hE hc => ?_)
     have tb := tb.ext hc
     have hs := hs.ext hc
     have hM0 := hM0.ext hc
     have hs : Sep [] w18 S1 := Sep.pick [] hs (by decide) rfl
     refine from_end rfl (then_normal ?_)
     obtain rfl := Option.some.inj h
     exact wp_ret (blk_ret (then_ret (ret1 rfl hF rfl ⟨_, rfl, rfl, hM0.chg⟩)))
   replace h := iteF hb h
   refine (wp_skip ?_)
   refine blk_normal (then_normal ?_)
   refine wp_seq (wp_text' ?_)
   refine from_pure 1 [(92, B b1 0)] hF (by kernel_rfl) fun fr hF => ?_
   refine s_loadBox (I p0.Op) ty3 rfl rfl hF rfl (hs.bx 0 rfl) rfl rfl fun fr hF => ?_
   have hs : Sep [] w2 S1 := Sep.pick [] hs (by decide) rfl
   obtain ⟨x73, hx73, h⟩ := bindE h
   refine s_call [I p0.Op] Tryd.call23 rfl rfl hF rfl (impl_insWord_ok p0.Op hx73) fun v w19 fr hRes hF => ?_
   obtain ⟨rfl, hc⟩ := hRes
   have tb := tb.ext hc
   have hs := hs.ext hc
   have hM0 := hM0.ext hc
   refine from_pure 1 [(6, Str.val x73)] hF (by kernel_rfl) fun fr hF => ?_
   refine from_end rfl (then_normal ?_)
   obtain rfl := Option.some.inj h
   exact wp_ret (ret1 rfl hF rfl ⟨_, rfl, rfl, hM0.chg⟩)
 replace h := iteF hb h
 refine wp_seq (wp_pure [(3, B b1 0), (19, I p0.Op), (68, .bool (p0.Op == 5))] hF (by kernel_rfl) fun fr hF => then_normal ?_)
 refine (wp_if hF (b := (p0.Op == 5)) rfl (fun hb => ?_) (fun hb => ?_))
 · replace h := iteT hb h
   refine (wp_skip (then_normal ?_))
   refine (wp_if hF (b := (p0.Op == 5)) rfl (fun hb => ?_) (fun hb => ?_))
   · replace h := iteT hb h
     obtain ⟨x74, hx74, h⟩ := bindE h
     obtain ⟨x75, hx75, h⟩ := bindE h
     obtain ⟨x76, hx76, h⟩ := bindE h
     obtain ⟨x77, hx77, h⟩ := bindE h
     refine wp_seq (region_bm 9 [0, 1, 3, 7, 0, 16, 55, 127, 255] [true, false, false, false, true, false, false, false, true]
         [.eq (B b1 0), .eq (I p0.Op), .eq (Str.val x74), .eq (Str.val x75), .eq (B b1 1), .eq (I p0.A), .eq (Str.val x76), .eq (Str.val x77), .eq (Str.val x77)]
         [(6, Str.val x77)] mix hF (by kernel_rfl) (by kernel_rfl) (by kernel_rfl) (by kernel_rfl) ⟨Pd.monoO_eq, Pd.monoO_eq, Pd.monoO_eq, Pd.monoO_eq, Pd.monoO_eq, Pd.monoO_eq, trivial⟩ (fun ow hG => ⟨np_to ow (np_loadBox hG hF ty3 rfl rfl (hs.bx 0 rfl) rfl rfl rfl), np_to ow (np_call [I p0.Op] hG hF Tryd.call23 rfl rfl (fun w hC hg => (impl_insWord_ok p0.Op hx74).mono fun e w' ⟨v, he, hv, hc⟩ => ⟨v, he, hc, hv⟩)), np_to ow (np_cat (s1 := x74) (s2 := (⟨[32]⟩)) hG hF rfl rfl rfl (fun hg => hx75) rfl), np_to ow (np_loadBox hG hF ty3 rfl rfl (hs.bx 0 rfl) rfl rfl rfl), np_to ow (np_call [I p0.A] hG hF Tryd.call22 rfl rfl (fun w hC hg => (impl_regName_ok p0.A hx76 (tb.ext hC)).mono fun e w' ⟨v, he, hv, hc⟩ => ⟨v, he, hc, hv⟩)), np_to ow (np_cat (s1 := x75) (s2 := x76) hG hF rfl rfl rfl (fun hg => hx77) rfl), trivial⟩) (by kernel_rfl) fun ow fr w20 hF hE hc => ?_)
     have tb := tb.ext hc
     have hs := hs.ext hc
     have hM0 := hM0.ext hc
     have hs : Sep [] w20 S1 := Sep.pick [] hs (by decide) rfl
     refine from_end rfl (then_normal ?_)
     obtain rfl := Option.some.inj h
     exact wp_ret (blk_ret (then_ret (ret1 rfl hF rfl ⟨_, rfl, rfl, hM0.chg⟩)))
   replace h := iteF hb h
   refine wp_seq ?_
   refine wp_seq (wp_pure [(3, B b1 0), (19, I p0.Op), (81, .bool (p0.Op == 9))] hF (by kernel_rfl) fun fr hF => then_normal ?_)
   refine (wp_merge [(3, B b1 0), (81, .bool ((p0.Op == 9) || (p0.Op == 11)))] hF (b := (p0.Op == 9)) rfl (fun hb => ?_) (fun hb => ?_) fun fr hF => then_normal ?_)
   · exact wp_skip ⟨rfl, rfl, (hF.sub [(3, B b1 0), (81, .bool (p0.Op == 9))] (by kernel_rfl)).eqs (by first | (simp only [hb]; done) | (simp only [hb]; rfl))⟩
   · exact wp_pure [(3, B b1 0), (81, .bool (p0.Op == 11))] hF (by kernel_rfl) fun fr hF => ⟨rfl, rfl, hF.eqs (by first | (simp only [hb]; done) | (simp only [hb]; rfl))⟩
   refine (wp_if hF (b := ((p0.Op == 9) || (p0.Op == 11))) rfl (fun hb => ?_) (fun hb => ?_))
   · replace h := iteT hb h
     obtain ⟨x78, hx78, h⟩ := bindE h
     obtain ⟨x79, hx79, h⟩ := bindE h
     obtain ⟨x80, hx80, h⟩ := bindE h
     obtain ⟨x81, hx81, h⟩ := bindE h
     refine wp_seq (region_bm 9 [0, 1, 3, 7, 0, 16, 55, 127, 255] [true, false, false, false, true, false, false, false, true]
         [.eq (B b1 0), .eq (I p0.Op), .eq (Str.val x78), .eq (Str.val x79), .eq (B b1 2), .eq (I p0.B), .eq (Str.val x80), .eq (Str.val x81), .eq (Str.val x81)]
         [(6, Str.val x81)] mix hF (by kernel_rfl) (by kernel_rfl) (by kernel_rfl) (by kernel_rfl) ⟨Pd.monoO_eq, Pd.monoO_eq, Pd.monoO_eq, Pd.monoO_eq, Pd.monoO_eq, Pd.monoO_eq, trivial⟩ (fun ow hG => ⟨np_to ow (np_loadBox hG hF ty3 rfl rfl (hs.bx 0 rfl) rfl rfl rfl), np_to ow (np_call [I p0.Op] hG hF Tryd.call23 rfl rfl (fun w hC hg => (impl_insWord_ok p0.Op hx78).mono fun e w' ⟨v, he, hv, hc⟩ => ⟨v, he, hc, hv⟩)), np_to ow (np_cat (s1 := x78) (s2 := (⟨[32]⟩)) hG hF rfl rfl rfl (fun hg => hx79) rfl), np_to ow (np_loadBox hG hF ty3 rfl rfl (hs.bx 0 rfl) rfl rfl rfl), np_to ow (np_call [I p0.B] hG hF Tryd.call24 rfl rfl (fun w hC hg => (impl_FormatInt_ok p0.B hx80 (tb.ext hC)).mono fun e w' ⟨v, he, hv, hc⟩ => ⟨v, he, hc, hv⟩)), np_to ow (np_cat (s1 := x79) (s2 := x80) hG hF rfl rfl rfl (fun hg => hx81) rfl), trivial⟩) (by kernel_rfl) fun ow fr w21 hF hE hc => ?_)
     have tb := tb.ext hc
     have hs := hs.ext hc
     have hM0 := hM0.ext hc
     have hs : Sep [] w21 S1 := Sep.pick [] hs (by decide) rfl
     refine from_end rfl (then_normal ?_)
     obtain rfl := Option.some.inj h
     exact wp_ret (blk_ret (then_ret (ret1 rfl hF rfl ⟨_, rfl, rfl, hM0.chg⟩)))
   replace h := iteF hb h
   refine (wp_skip ?_)
   refine blk_normal (then_normal ?_)
   refine wp_seq (wp_text' ?_)
   refine from_pure 1 [(92, B b1 0)] hF (by kernel_rfl) fun fr hF => ?_
   refine s_loadBox (I p0.Op) ty3 rfl rfl hF rfl (hs.bx 0 rfl) rfl rfl fun fr hF => ?_
   have hs : Sep [] w2 S1 := Sep.pick [] hs (by decide) rfl
   obtain ⟨x82, hx82, h⟩ := bindE h
   refine s_call [I p0.Op] Tryd.call23 rfl rfl hF rfl (impl_insWord_ok p0.Op hx82) fun v w22 fr hRes hF => ?_
   obtain ⟨rfl, hc⟩ := hRes
   have tb := tb.ext hc
   have hs := hs.ext hc
   have hM0 := hM0.ext hc
   refine from_pure 1 [(6, Str.val x82)] hF (by kernel_rfl) fun fr hF => ?_
   refine from_end rfl (then_normal ?_)
   obtain rfl := Option.some.inj h
   exact wp_ret (ret1 rfl hF rfl ⟨_, rfl, rfl, hM0.chg⟩)
 replace h := iteF hb h
 refine wp_seq (wp_pure [(3, B b1 0), (19, I p0.Op), (68, .bool (p0.Op == 6))] hF (by kernel_rfl) fun fr hF => then_normal ?_)
 refine (wp_merge [(3, B b1 0), (19, I p0.Op), (68, .bool ((p0.Op == 6) || (p0.Op == 13)))] hF (b := (p0.Op == 6)) rfl (fun hb => ?_) (fun hb => ?_) fun fr hF => then_normal ?_)
 · exact wp_skip ⟨rfl, rfl, (hF.sub [(3, B b1 0), (19, I p0.Op), (68, .bool (p0.Op == 6))] (by kernel_rfl)).eqs (by first | (simp only [hb]; done) | (simp only [hb]; rfl))⟩
 · exact wp_pure [(3, B b1 0), (19, I p0.Op), (68, .bool (p0.Op == 13))] hF (by kernel_rfl) fun fr hF => ⟨rfl, rfl, hF.eqs (by first | (simp only [hb]; done) | (simp only [hb]; rfl))⟩
 refine (wp_if hF (b := ((p0.Op == 6) || (p0.Op == 13))) rfl (fun hb => ?_) (fun hb => ?_))
 · replace h := iteT hb h
   obtain ⟨x83, hx83, h⟩ := bindE h
   obtain ⟨x84, hx84, h⟩ := bindE h
   obtain ⟨x85, hx85, h⟩ := bindE h
   obtain ⟨x86, hx86, h⟩ := bindE h
   refine wp_seq (region_bm 9 [0, 1, 3, 7, 0, 16, 55, 127, 255] [true, false, false, false, true, false, false, false, true]
       [.eq (B b1 0), .eq (I p0.Op), .eq (Str.val x83), .eq (Str.val x84), .eq (B b1 1), .eq (I p0.A), .eq (Str.val x85), .eq (Str.val x86), .eq (Str.val x86)]
       [(6, Str.val x86)] mix hF (by kernel_rfl) (by kernel_rfl) (by kernel_rfl) (by kernel_rfl) ⟨Pd.monoO_eq, Pd.monoO_eq, Pd.monoO_eq, Pd.monoO_eq, Pd.monoO_eq, Pd.monoO_eq, trivial⟩ (fun ow hG => ⟨np_to ow (np_loadBox hG hF ty3 rfl rfl (hs.bx 0 rfl) rfl rfl rfl), np_to ow (np_call [I p0.Op] hG hF Tryd.call23 rfl rfl (fun w hC hg => (impl_insWord_ok p0.Op hx83).mono fun e w' ⟨v, he, hv, hc⟩ => ⟨v, he, hc, hv⟩)), np_to ow (np_cat (s1 := x83) (s2 := (⟨[32]⟩)) hG hF rfl rfl rfl (fun hg => hx84) rfl), np_to ow (np_loadBox hG hF ty3 rfl rfl (hs.bx 0 rfl) rfl rfl rfl), np_to ow (np_call [I p0.A] hG hF Tryd.call22 rfl rfl (fun w hC hg => (impl_regName_ok p0.A hx85 (tb.ext hC)).mono fun e w' ⟨v, he, hv, hc⟩ => ⟨v, he, hc, hv⟩)), np_to ow (np_cat (s1 := x84) (s2 := x85) hG hF rfl rfl rfl (fun hg => hx86) rfl), trivial⟩) (by kernel_rfl) fun ow fr w23 hF hE hc => ?_)
   have tb := tb.ext hc
   have hs := hs.ext hc
   have hM0 := hM0.ext hc
   have hs : Sep [] w23 S1 := Sep.pick [] hs (by decide) rfl
   refine from_end rfl (then_normal ?_)
   obtain rfl := Option.some.inj h
   exact wp_ret (blk_ret (then_ret (ret1 rfl hF rfl ⟨_, rfl, rfl, hM0.chg⟩)))
 replace h := iteF hb h
 refine wp_seq ?_
 refine wp_seq (wp_pure [(3, B b1 0), (19, I p0.Op), (81, .bool (p0.Op == 9))] hF (by kernel_rfl) fun fr hF => then_normal ?_)
 refine (wp_merge [(3, B b1 0), (81, .bool ((p0.Op == 9) || (p0.Op == 11)))] hF (b := (p0.Op == 9)) rfl (fun hb => ?_) (fun hb => ?_) fun fr hF => then_normal ?_)
 · exact wp_skip ⟨rfl, rfl, (hF.sub [(3, B b1 0), (81, .bool (p0.Op == 9))] (by kernel_rfl)).eqs (by first | (simp only [hb]; done) | (simp only [hb]; rfl))⟩
 · exact wp_pure [(3, B b1 0), (81, .bool (p0.Op == 11))] hF (by kernel_rfl) fun fr hF => ⟨rfl, rfl, hF.eqs (by first | (simp only [hb]; done) | (simp only [hb]; rfl))⟩
 refine (wp_if hF (b := ((p0.Op == 9) || (p0.Op == 11))) rfl (fun hb => ?_) (fun hb => ?_))
 · replace h := iteT hb h
   obtain ⟨x87, hx87, h⟩ := bindE h
   obtain ⟨x88, hx88, h⟩ := bindE h
   obtain ⟨x89, hx89, h⟩ := bindE h
   obtain ⟨x90, hx90, h⟩ := bindE h
   refine wp_seq (region_bm 9 [0, 1, 3, 7, 0, 16, 55, 127, 255] [true, false, false, false, true, false, false, false, true]
       [.eq (B b1 0), .eq (I p0.Op), .eq (Str.val x87), .eq (Str.val x88), .eq (B b1 2), .eq (I p0.B), .eq (Str.val x89), .eq (Str.val x90), .eq (Str.val x90)]
       [(6, Str.val x90)] mix hF (by kernel_rfl) (by kernel_rfl) (by kernel_rfl) (by kernel_rfl) ⟨Pd.monoO_eq, Pd.monoO_eq, Pd.monoO_eq, Pd.monoO_eq, Pd.monoO_eq, Pd.monoO_eq, trivial⟩ (fun ow hG => ⟨np_to ow (np_loadBox hG hF ty3 rfl rfl (hs.bx 0 rfl) rfl rfl rfl), np_to ow (np_call [I p0.Op] hG hF Tryd.call23 rfl rfl (fun w hC hg => (impl_insWord_ok p0.Op hx87).mono fun e w' ⟨v, he, hv, hc⟩ => ⟨v, he, hc, hv⟩)), np_to ow (np_cat (s1 := x87) (s2 := (⟨[32]⟩)) hG hF rfl rfl rfl (fun hg => hx88) rfl), np_to ow (np_loadBox hG hF ty3 rfl rfl (hs.bx 0 rfl) rfl rfl rfl), np_to ow (np_call [I p0.B] hG hF Tryd.call24 rfl rfl (fun w hC hg => (impl_FormatInt_ok p0.B hx89 (tb.ext hC)).mono fun e w' ⟨v, he, hv, hc⟩ => ⟨v, he, hc, hv⟩)), np_to ow (np_cat (s1 := x88) (s2 := x89) hG hF rfl rfl rfl (fun hg => hx90) rfl), trivial⟩) (by kernel_rfl) fun ow fr w24 hF hE hc => ?_)
   have tb := tb.ext hc
   have hs := hs.ext hc
   have hM0 := hM0.ext hc
   have hs : Sep [] w24 S1 := Sep.pick [] hs (by decide) rfl
   refine from_end rfl (then_normal ?_)
   obtain rfl := Option.some.inj h
   exact wp_ret (blk_ret (then_ret (ret1 rfl hF rfl ⟨_, rfl, rfl, hM0.chg⟩)))
 replace h := iteF hb h
 refine (wp_skip ?_)
 refine blk_normal (then_normal ?_)
 refine wp_seq (wp_text' ?_)
 refine from_pure 1 [(92, B b1 0)] hF (by kernel_rfl) fun fr hF => ?_
 refine s_loadBox (I p0.Op) ty3 rfl rfl hF rfl (hs.bx 0 rfl) rfl rfl fun fr hF => ?_
 have hs : Sep [] w2 S1 := Sep.pick [] hs (by decide) rfl
 obtain ⟨x91, hx91, h⟩ := bindE h
 refine s_call [I p0.Op] Tryd.call23 rfl rfl hF rfl (impl_insWord_ok p0.Op hx91) fun v w25 fr hRes hF => ?_
 obtain ⟨rfl, hc⟩ := hRes
 have tb := tb.ext hc
 have hs := hs.ext hc
 have hM0 := hM0.ext hc
 refine from_pure 1 [(6, Str.val x91)] hF (by kernel_rfl) fun fr hF => ?_
 refine from_end rfl (then_normal ?_)
 obtain rfl := Option.some.inj h
 exact wp_ret (ret1 rfl hF rfl ⟨_, rfl, rfl, hM0.chg⟩)



theorem impl_FormatProgram_ok (n : Nat) (p0 : D.Program) {r : Str} (h : impl_FormatProgram n p0 = some r) {w : World} {G0 : Nat → Prop} {va0 : Value} (ra0 : RV w G0 va0 p0) {G99 : Nat → Prop} (tb : TB Tryd.prog "internal/strconv.uint64pow10" .u64 Lib.pow10Tab w G99) :
   Calls Tryd.prog 11 [va0].toArray w fun e w' => ∃ v, e = .returned v ∧ v = Str.val r ∧ Chg Non w w' := by
 unfold impl_FormatProgram at h
 have hs := Sep.nil w Non
 have hM0 : Mem w Non (fun k => (G0 k ∨ G99 k) ∧ k < w.heap.size) w Non (fun k => (G0 k ∨ G99 k) ∧ k < w.heap.size) := Mem.start (fun _ h => h.elim) (fun _ h => h.2) (fun _ h => h.elim)
 have ra0 := ra0.sub (F' := (fun k => (G0 k ∨ G99 k) ∧ k < w.heap.size)) (fun k hk h => ⟨.inl h, hk⟩)
 obtain ⟨v1, rfl, r1⟩ := RV.Program ra0
 obtain ⟨a1, c1, rfl, -⟩ := r1.slice
 have tb := tb.sub (F' := (fun k => (G0 k ∨ G99 k) ∧ k < w.heap.size)) (fun k hk h => ⟨.inr (h), hk⟩)
 refine enter (N := 38) Tryd.func11 rfl Tryd.ntmps11 rfl fun fr hF => ?_
 refine wp_seq (wp_text' ?_)
 refine q_box hs hM0 [I p0.W, I p0.Mem, I p0.In, L a1 p0.Code c1] rfl rfl hF rfl rfl fun b1 w1 S1 fr hs hp hF => ?_
 have tb := tb.stp hM0 hp
 have r1 := r1.stp hM0 hp
 have hM0 := hM0.stp hp
 have hs : Sep [BX b1 35 [I p0.W, I p0.Mem, I p0.In, L a1 p0.Code c1]] w1 S1 := hs
 refine from_pure 1 [(1, B b1 0)] hF (by kernel_rfl) fun fr hF => ?_
 refine from_end rfl (then_normal ?_)
 refine wp_seq ?_
 refine wp_seq (wp_text' ?_)
 refine s_loadBoxS ty35 rfl rfl hF rfl (hs.bx 0 rfl) rfl rfl fun fr hF => ?_
 obtain ⟨x1, hx1, h⟩ := bindE h
 refine s_call [.agg #[I p0.W, I p0.Mem, I p0.In, L a1 p0.Code c1]] Tryd.call29 rfl rfl hF rfl (impl_ProgramOk_ok n p0 hx1 (RV.mk_Program p0 (r1))) fun v w2 fr hRes hF => ?_
 obtain ⟨rfl, hc⟩ := hRes
 have tb := tb.ext hc
 have r1 := r1.ext hc
 have hs := hs.ext hc
 have hM0 := hM0.ext hc
 refine from_pure 1 [(1, B b1 0), (8, .bool (!x1))] hF (by kernel_rfl) fun fr hF => ?_
 refine from_end rfl (then_normal ?_)
 refine (wp_if hF (b := (!x1)) rfl (fun hb => ?_) (fun hb => ?_))
 · replace h := iteT hb h
   have hs : Sep [] w2 S1 := Sep.pick [] hs (by decide) rfl
   refine wp_seq (wp_pure [(2, Str.val (⟨[]⟩))] hF (by kernel_rfl) fun fr hF => then_normal ?_)
   obtain rfl := Option.some.inj h
   exact wp_ret (then_ret (ret1 rfl hF rfl ⟨_, rfl, rfl, hM0.chg⟩))
 replace h := iteF hb h
 refine (wp_skip (then_normal ?_))
 refine wp_seq (wp_text' ?_)
 refine q_alloc (z := .agg #[.pointer none, .slice none 0 0]) hs hM0 [.pointer none, .slice none 0 0] rfl rfl hF (by kernel_rfl) rfl fun b2 w3 S2 fr hs hp hF => ?_
 have hs := hs.swapT 0 rfl fun A hA => bd_new (E := 5) hA
 have tb := tb.stp hM0 hp
 have r1 := r1.stp hM0 hp
 have hM0 := hM0.stp hp
 have hs : Sep [BD 54 5 b2 (⟨[]⟩ : Str), BX b1 35 [I p0.W, I p0.Mem, I p0.In, L a1 p0.Code c1]] w3 S2 := hs
 refine from_end rfl (then_normal ?_)
 refine wp_seq (wp_text' ?_)
 refine from_pure 1 [(1, B b1 0), (3, B b2 0), (9, B b1 0)] hF (by kernel_rfl) fun fr hF => ?_
 refine s_loadBox (I p0.W) ty3 rfl rfl hF rfl (hs.bx 1 rfl) rfl rfl fun fr hF => ?_
 refine from_pure 1 [(1, B b1 0), (3, B b2 0), (10, I p0.W), (11, B b1 1)] hF (by kernel_rfl) fun fr hF => ?_
 refine s_loadBox (I p0.Mem) ty3 rfl rfl hF rfl (hs.bx 1 rfl) rfl rfl fun fr hF => ?_
 refine from_pure 1 [(1, B b1 0), (3, B b2 0), (10, I p0.W), (12, I p0.Mem), (13, B b1 2)] hF (by kernel_rfl) fun fr hF => ?_
 refine s_loadBox (I p0.In) ty3 rfl rfl hF rfl (hs.bx 1 rfl) rfl rfl fun fr hF => ?_
 refine q_lit (E := 3) hs hM0 [I p0.W, I p0.Mem, I p0.In] (([p0.W, p0.Mem, p0.In] : List Int).map Flat.enc) ([p0.W, p0.Mem, p0.In] : List Int) rfl rfl hF [I p0.W, I p0.Mem, I p0.In] rfl (fun w => by kernel_rfl) (css_flat _) rfl rfl rfl fun a2 c2 w4 S3 fr hs hp hF => ?_
 have tb := tb.stp hM0 hp
 have r1 := r1.stp hM0 hp
 have hM0 := hM0.stp hp
 have hs : Sep [sl3 (L a2 ([p0.W, p0.Mem, p0.In] : List Int) c2) ([p0.W, p0.Mem, p0.In] : List Int), BD 54 5 b2 (⟨[]⟩ : Str), BX b1 35 [I p0.W, I p0.Mem, I p0.In, L a1 p0.Code c1]] w4 S3 := hs
 obtain ⟨x2, hx2, h⟩ := bindE h
 refine s_call [L a2 ([p0.W, p0.Mem, p0.In] : List Int) c2] Tryd.call31 rfl rfl hF rfl (impl_FormatInts_ok n ([p0.W, p0.Mem, p0.In] : List Int) hx2 (hs.rv 0 rfl) tb) fun v w5 fr hRes hF => ?_
 obtain ⟨rfl, hc⟩ := hRes
 have tb := tb.ext hc
 have r1 := r1.ext hc
 have hs := hs.ext hc
 have hM0 := hM0.ext hc
 have hs : Sep [BD 54 5 b2 (⟨[]⟩ : Str), BX b1 35 [I p0.W, I p0.Mem, I p0.In, L a1 p0.Code c1]] w5 S3 := Sep.pick [1, 2] hs (by decide) rfl
 obtain ⟨x3, hx3, h⟩ := bindE h
 refine s_cat (s1 := (⟨[109, 97, 99, 104, 105, 110, 101, 32]⟩)) (s2 := x2) rfl rfl hF rfl rfl hx3 fun fr hF => ?_
 obtain ⟨x4, hx4, h⟩ := bindE h
 refine s_cat (s1 := x3) (s2 := (⟨[10]⟩)) rfl rfl hF rfl rfl hx4 fun fr hF => ?_
 obtain ⟨x5, hx5, h⟩ := bindE h
 obtain ⟨A1, R1, hsA, hsR, hdA, hbA, hup⟩ := Sep.call (L1 := [BD 54 5 b2 (⟨[]⟩ : Str)]) (L2 := [BX b1 35 [I p0.W, I p0.Mem, I p0.In, L a1 p0.Code c1]]) hs hM0
 refine s_call [B b2 0, Str.val x4] Tryd.call30 rfl rfl hF rfl (Builder_WriteString_ok (⟨[]⟩ : Str) x4 hx5 hsA hbA hdA) fun v w6 fr hRes hF => ?_
 obtain ⟨rfl, _, hp, hs⟩ := hRes
 obtain ⟨S4, hp, hs⟩ := hup hp hs
 have tb := tb.stp hM0 hp
 have r1 := r1.stp hM0 hp
 have hM0 := hM0.stp hp
 have hs : Sep [BD 54 5 b2 x5, BX b1 35 [I p0.W, I p0.Mem, I p0.In, L a1 p0.Code c1]] w6 S4 := hs
 refine from_end rfl (then_normal ?_)
 refine wp_seq ?_
 refine wp_seq (wp_text' ?_)
 refine from_pure 1 [(1, B b1 0), (3, B b2 0), (20, B b1 3)] hF (by kernel_rfl) fun fr hF => ?_
 refine s_loadBox (L a1 p0.Code c1) ty33 rfl rfl hF rfl (hs.bx 1 rfl) rfl rfl fun fr hF => ?_
 refine from_pure 2 [(1, B b1 0), (3, B b2 0), (21, L a1 p0.Code c1), (22, I (len p0.Code)), (23, I 0)] hF (by kernel_rfl) fun fr hF => ?_
 refine from_end rfl (then_normal ?_)
 obtain ⟨rl1, hit1, h⟩ := bindE h
 have hk1 := h
 refine (GL.wp_cut (M := fun fr w' => ∃ S6 F2, FrS 38 [(3, B b2 0)] fr ∧ Mem w6 S4 (fun k => (G0 k ∨ G99 k) ∧ k < w.heap.size) w' S6 F2 ∧ Sep [BD 54 5 b2 rl1] w' S6) (wp_block (wp_iter (Inv := fun s1 fr w' => ∃ S5 F1, FrS 38 [(1, B b1 0), (3, B b2 0), (21, L a1 p0.Code c1), (22, I (len p0.Code)), (23, I s1.1)] fr ∧ Mem w6 S4 (fun k => (G0 k ∨ G99 k) ∧ k < w.heap.size) w' S5 F1 ∧ Sep [BD 54 5 b2 s1.2, BX b1 35 [I p0.W, I p0.Mem, I p0.In, L a1 p0.Code c1]] w' S5) hit1 ⟨S4, _, hF.sub _ (by kernel_rfl), (Mem.start hM0.bd hM0.bdF hM0.dj), hs⟩ fun s1 q1 fr w1i hI h hr1 => ?_)) fun fr w1o hM => ?_)
 · obtain ⟨S5, F1, hF, hM1, hs⟩ := hI
   have tb := tb.mem hM1
   have r1 := r1.mem hM1
   refine wp_seq (wp_pure [(1, B b1 0), (3, B b2 0), (21, L a1 p0.Code c1), (22, I (len p0.Code)), (23, I s1.1), (24, .bool (decide (s1.1 < (len p0.Code))))] hF (by kernel_rfl) fun fr hF => then_normal ?_)
   refine wp_seq (wp_if hF (b := (decide (s1.1 < (len p0.Code)))) rfl (fun hb => ?_) (fun hb => ?_))
   · replace h := iteT hb h
     refine (wp_skip (then_normal ?_))
     refine wp_seq (wp_block ?_)
     refine wp_seq (wp_text' ?_)
     obtain ⟨x6, hx6, h⟩ := bindE h
     refine s_elemF (z := x6) (.agg #[I x6.Op, I x6.A, I x6.B, I x6.C]) ty25 Tryd.underlying33 rfl rfl rfl rfl rfl hF rfl (r1) rfl (get?_nn hx6) (get?_at hx6) rfl fun p fr hF => ?_
     refine q_alloc (z := .agg #[I 0, I 0, I 0, I 0]) hs hM1 [I 0, I 0, I 0, I 0] rfl rfl hF (by kernel_rfl) rfl fun b3 w7 S7 fr hs hp hF => ?_
     have tb := tb.stp hM1 hp
     have r1 := r1.stp hM1 hp
     have hM1 := hM1.stp hp
     have hs : Sep [BX b3 25 [I 0, I 0, I 0, I 0], BD 54 5 b2 s1.2, BX b1 35 [I p0.W, I p0.Mem, I p0.In, L a1 p0.Code c1]] w7 S7 := hs
     refine q_storeBoxS 0 hs hM1 rfl [I x6.Op, I x6.A, I x6.B, I x6.C] rfl hF rfl rfl (by kernel_rfl) rfl rfl rfl fun w8 S8 hs hp hF => ?_
     have tb := tb.stp hM1 hp
     have r1 := r1.stp hM1 hp
     have hM1 := hM1.stp hp
     have hs : Sep [BX b3 25 [I x6.Op, I x6.A, I x6.B, I x6.C], BD 54 5 b2 s1.2, BX b1 35 [I p0.W, I p0.Mem, I p0.In, L a1 p0.Code c1]] w8 S8 := hs
     refine from_end rfl (then_normal ?_)
     refine (wp_text' ?_)
     refine s_loadBoxS ty25 rfl rfl hF rfl (hs.bx 0 rfl) rfl rfl fun fr hF => ?_
     have hs : Sep [BD 54 5 b2 s1.2, BX b1 35 [I p0.W, I p0.Mem, I p0.In, L a1 p0.Code c1]] w8 S8 := Sep.pick [1, 2] hs (by decide) rfl
     refine from_pure 1 [(1, B b1 0), (3, B b2 0), (21, L a1 p0.Code c1), (22, I (len p0.Code)), (23, I s1.1), (27, .agg #[I x6.Op, I x6.A, I x6.B, I x6.C]), (28, B b1 0)] hF (by kernel_rfl) fun fr hF => ?_
     refine s_loadBox (I p0.W) ty3 rfl rfl hF rfl (hs.bx 1 rfl) rfl rfl fun fr hF => ?_
     refine from_pure 1 [(1, B b1 0), (3, B b2 0), (21, L a1 p0.Code c1), (22, I (len p0.Code)), (23, I s1.1), (27, .agg #[I x6.Op, I x6.A, I x6.B, I x6.C]), (29, I p0.W), (30, B b1 3)] hF (by kernel_rfl) fun fr hF => ?_
     refine s_loadBox (L a1 p0.Code c1) ty33 rfl rfl hF rfl (hs.bx 1 rfl) rfl rfl fun fr hF => ?_
     refine from_pure 1 [(1, B b1 0), (3, B b2 0), (21, L a1 p0.Code c1), (22, I (len p0.Code)), (23, I s1.1), (27, .agg #[I x6.Op, I x6.A, I x6.B, I x6.C]), (29, I p0.W), (32, I (len p0.Code))] hF (by kernel_rfl) fun fr hF => ?_
     obtain ⟨x7, hx7, h⟩ := bindE h
     refine s_call [.agg #[I x6.Op, I x6.A, I x6.B, I x6.C], I p0.W, I (len p0.Code)] Tryd.call7 rfl rfl hF rfl (impl_FormatIns_ok x6 p0.W (len p0.Code) hx7 tb) fun v w9 fr hRes hF => ?_
     obtain ⟨rfl, hc⟩ := hRes
     have tb := tb.ext hc
     have r1 := r1.ext hc
     have hs := hs.ext hc
     have hM1 := hM1.ext hc
     obtain ⟨x8, hx8, h⟩ := bindE h
     refine s_cat (s1 := x7) (s2 := (⟨[10]⟩)) rfl rfl hF rfl rfl hx8 fun fr hF => ?_
     obtain ⟨x9, hx9, h⟩ := bindE h
     obtain ⟨A2, R2, hsA, hsR, hdA, hbA, hup⟩ := Sep.call (L1 := [BD 54 5 b2 s1.2]) (L2 := [BX b1 35 [I p0.W, I p0.Mem, I p0.In, L a1 p0.Code c1]]) hs hM1
     refine s_call [B b2 0, Str.val x8] Tryd.call30 rfl rfl hF rfl (Builder_WriteString_ok s1.2 x8 hx9 hsA hbA hdA) fun v w10 fr hRes hF => ?_
     obtain ⟨rfl, _, hp, hs⟩ := hRes
     obtain ⟨S9, hp, hs⟩ := hup hp hs
     have tb := tb.stp hM1 hp
     have r1 := r1.stp hM1 hp
     have hM1 := hM1.stp hp
     have hs : Sep [BD 54 5 b2 x9, BX b1 35 [I p0.W, I p0.Mem, I p0.In, L a1 p0.Code c1]] w10 S9 := hs
     refine from_end rfl ?_
     refine blk_normal (then_normal ?_)
     refine (wp_pure [(1, B b1 0), (3, B b2 0), (21, L a1 p0.Code c1), (22, I (len p0.Code)), (23, I (w64 (s1.1 + 1)))] hF (by kernel_rfl) fun fr hF => then_normal ?_)
     exact ⟨_, (Option.some.inj h).symm, S9, _, hF.sub _ (by kernel_rfl), hM1, hs⟩
   replace h := iteF hb h
   have hs : Sep [BD 54 5 b2 s1.2] w1i S5 := Sep.pick [0] hs (by decide) rfl
   refine (wp_exit (then_exit (then_exit (blk_exit_eq ?_))))
   obtain rfl := hr1 _ (Option.some.inj h).symm
   exact then_normal ⟨S5, _, hF.sub _ (by kernel_rfl), hM1, hs⟩
 · obtain ⟨S6, F2, hF, hMx, hs⟩ := hM
   have tb := tb.mem hMx
   have hM0 := hM0.trans hMx
   refine wp_seq (wp_text' ?_)
   refine s_call [B b2 0] Tryd.call32 rfl rfl hF rfl (Builder_String_ok 0 hs rfl hM0) fun v w11 fr hRes hF => ?_
   obtain ⟨rfl, hMn⟩ := hRes
   have hM0 := hMn
   have hs := Sep.nil w11 Non
   refine from_pure 1 [(2, Str.val rl1)] hF (by kernel_rfl) fun fr hF => ?_
   refine from_end rfl (then_normal ?_)
   obtain rfl := Option.some.inj h
   exact wp_ret (ret1 rfl hF rfl ⟨_, rfl, rfl, hM0.chg⟩)

theorem laws_eqIns_ok (p0 : D.Ins) (p1 : D.Ins) {r : Bool} (h : laws_eqIns p0 p1 = some r) {w : World} :
   Calls Tryd.prog 43 [.agg #[I p0.Op, I p0.A, I p0.B, I p0.C], .agg #[I p1.Op, I p1.A, I p1.B, I p1.C]].toArray w fun e w' => ∃ v, e = .returned v ∧ v = .bool r ∧ Chg Non w w' := by
 unfold laws_eqIns at h
 have hs := Sep.nil w Non
 have hM0 : Mem w Non (fun k => (False) ∧ k < w.heap.size) w Non (fun k => (False) ∧ k < w.heap.size) := Mem.start (fun _ h => h.elim) (fun _ h => h.2) (fun _ h => h.elim)
 refine enter (N := 25) Tryd.func43 rfl Tryd.ntmps43 rfl fun fr hF => ?_
 refine wp_seq (wp_text' ?_)
 refine q_box hs hM0 [I p0.Op, I p0.A, I p0.B, I p0.C] rfl rfl hF rfl rfl fun b1 w1 S1 fr hs hp hF => ?_
 have hM0 := hM0.stp hp
 have hs : Sep [BX b1 25 [I p0.Op, I p0.A, I p0.B, I p0.C]] w1 S1 := hs
 refine q_box hs hM0 [I p1.Op, I p1.A, I p1.B, I p1.C] rfl rfl hF rfl rfl fun b2 w2 S2 fr hs hp hF => ?_
 have hM0 := hM0.stp hp
 have hs : Sep [BX b2 25 [I p1.Op, I p1.A, I p1.B, I p1.C], BX b1 25 [I p0.Op, I p0.A, I p0.B, I p0.C]] w2 S2 := hs
 refine from_pure 1 [(2, B b1 0), (3, B b2 0)] hF (by kernel_rfl) fun fr hF => ?_
 refine from_end rfl (then_normal ?_)
 refine wp_seq ?_
 refine wp_seq (wp_text' ?_)
 refine from_pure 1 [(2, B b1 0), (3, B b2 0), (5, B b1 0)] hF (by kernel_rfl) fun fr hF => ?_
 refine s_loadBox (I p0.Op) ty3 rfl rfl hF rfl (hs.bx 1 rfl) rfl rfl fun fr hF => ?_
 refine from_pure 1 [(2, B b1 0), (3, B b2 0), (6, I p0.Op), (7, B b2 0)] hF (by kernel_rfl) fun fr hF => ?_
 refine s_loadBox (I p1.Op) ty3 rfl rfl hF rfl (hs.bx 0 rfl) rfl rfl fun fr hF => ?_
 refine from_pure 1 [(2, B b1 0), (3, B b2 0), (9, .bool (p0.Op != p1.Op))] hF (by kernel_rfl) fun fr hF => ?_
 refine from_end rfl (then_normal ?_)
 refine (wp_if hF (b := (p0.Op != p1.Op)) rfl (fun hb => ?_) (fun hb => ?_))
 · replace h := iteT hb h
   have hs : Sep [] w2 S2 := Sep.pick [] hs (by decide) rfl
   refine wp_seq (wp_pure [(4, .bool false)] hF (by kernel_rfl) fun fr hF => then_normal ?_)
   obtain rfl := Option.some.inj h
   exact wp_ret (then_ret (ret1 rfl hF rfl ⟨_, rfl, rfl, hM0.chg⟩))
 replace h := iteF hb h
 refine (wp_skip (then_normal ?_))
 refine wp_seq ?_
 refine wp_seq (wp_text' ?_)
 refine from_pure 1 [(2, B b1 0), (3, B b2 0), (10, B b1 1)] hF (by kernel_rfl) fun fr hF => ?_
 refine s_loadBox (I p0.A) ty3 rfl rfl hF rfl (hs.bx 1 rfl) rfl rfl fun fr hF => ?_
 refine from_pure 1 [(2, B b1 0), (3, B b2 0), (11, I p0.A), (12, B b2 1)] hF (by kernel_rfl) fun fr hF => ?_
 refine s_loadBox (I p1.A) ty3 rfl rfl hF rfl (hs.bx 0 rfl) rfl rfl fun fr hF => ?_
 refine from_pure 1 [(2, B b1 0), (3, B b2 0), (14, .bool (p0.A != p1.A))] hF (by kernel_rfl) fun fr hF => ?_
 refine from_end rfl (then_normal ?_)
 refine (wp_if hF (b := (p0.A != p1.A)) rfl (fun hb => ?_) (fun hb => ?_))
 · replace h := iteT hb h
   have hs : Sep [] w2 S2 := Sep.pick [] hs (by decide) rfl
   refine wp_seq (wp_pure [(4, .bool false)] hF (by kernel_rfl) fun fr hF => then_normal ?_)
   obtain rfl := Option.some.inj h
   exact wp_ret (then_ret (ret1 rfl hF rfl ⟨_, rfl, rfl, hM0.chg⟩))
 replace h := iteF hb h
 refine (wp_skip (then_normal ?_))
 refine wp_seq ?_
 refine wp_seq (wp_text' ?_)
 refine from_pure 1 [(2, B b1 0), (3, B b2 0), (15, B b1 2)] hF (by kernel_rfl) fun fr hF => ?_
 refine s_loadBox (I p0.B) ty3 rfl rfl hF rfl (hs.bx 1 rfl) rfl rfl fun fr hF => ?_
 refine from_pure 1 [(2, B b1 0), (3, B b2 0), (16, I p0.B), (17, B b2 2)] hF (by kernel_rfl) fun fr hF => ?_
 refine s_loadBox (I p1.B) ty3 rfl rfl hF rfl (hs.bx 0 rfl) rfl rfl fun fr hF => ?_
 refine from_pure 1 [(2, B b1 0), (3, B b2 0), (19, .bool (p0.B != p1.B))] hF (by kernel_rfl) fun fr hF => ?_
 refine from_end rfl (then_normal ?_)
 refine (wp_if hF (b := (p0.B != p1.B)) rfl (fun hb => ?_) (fun hb => ?_))
 · replace h := iteT hb h
   have hs : Sep [] w2 S2 := Sep.pick [] hs (by decide) rfl
   refine wp_seq (wp_pure [(4, .bool false)] hF (by kernel_rfl) fun fr hF => then_normal ?_)
   obtain rfl := Option.some.inj h
   exact wp_ret (then_ret (ret1 rfl hF rfl ⟨_, rfl, rfl, hM0.chg⟩))
 replace h := iteF hb h
 refine (wp_skip (then_normal ?_))
 refine wp_seq ?_
 refine wp_seq (wp_text' ?_)
 refine from_pure 1 [(3, B b2 0), (20, B b1 3)] hF (by kernel_rfl) fun fr hF => ?_
 refine s_loadBox (I p0.C) ty3 rfl rfl hF rfl (hs.bx 1 rfl) rfl rfl fun fr hF => ?_
 have hs : Sep [BX b2 25 [I p1.Op, I p1.A, I p1.B, I p1.C]] w2 S2 := Sep.pick [0] hs (by decide) rfl
 refine from_pure 1 [(21, I p0.C), (22, B b2 3)] hF (by kernel_rfl) fun fr hF => ?_
 refine s_loadBox (I p1.C) ty3 rfl rfl hF rfl (hs.bx 0 rfl) rfl rfl fun fr hF => ?_
 have hs : Sep [] w2 S2 := Sep.pick [] hs (by decide) rfl
 refine from_pure 1 [(24, .bool (p0.C != p1.C))] hF (by kernel_rfl) fun fr hF => ?_
 refine from_end rfl (then_normal ?_)
 refine (wp_if hF (b := (p0.C != p1.C)) rfl (fun hb => ?_) (fun hb => ?_))
 · replace h := iteT hb h
   refine wp_seq (wp_pure [(4, .bool false)] hF (by kernel_rfl) fun fr hF => then_normal ?_)
   obtain rfl := Option.some.inj h
   exact wp_ret (then_ret (ret1 rfl hF rfl ⟨_, rfl, rfl, hM0.chg⟩))
 replace h := iteF hb h
 refine (wp_skip (then_normal ?_))
 refine wp_seq (wp_pure [(4, .bool true)] hF (by kernel_rfl) fun fr hF => then_normal ?_)
 obtain rfl := Option.some.inj h
 exact wp_ret (ret1 rfl hF rfl ⟨_, rfl, rfl, hM0.chg⟩)

theorem laws_eqInsS_ok (n : Nat) (p0 : List D.Ins) (p1 : List D.Ins) {r : Bool} (h : laws_eqInsS n p0 p1 = some r) {w : World} {G0 : Nat → Prop} {va0 : Value} (ra0 : RV w G0 va0 p0) {G1 : Nat → Prop} {va1 : Value} (ra1 : RV w G1 va1 p1) :
   Calls Tryd.prog 33 [va0, va1].toArray w fun e w' => ∃ v, e = .returned v ∧ v = .bool r ∧ Chg Non w w' := by
 unfold laws_eqInsS at h
 have hs := Sep.nil w Non
 have hM0 : Mem w Non (fun k => (G0 k ∨ G1 k) ∧ k < w.heap.size) w Non (fun k => (G0 k ∨ G1 k) ∧ k < w.heap.size) := Mem.start (fun _ h => h.elim) (fun _ h => h.2) (fun _ h => h.elim)
 have ra0 := ra0.sub (F' := (fun k => (G0 k ∨ G1 k) ∧ k < w.heap.size)) (fun k hk h => ⟨.inl h, hk⟩)
 obtain ⟨a1, c1, rfl, -⟩ := ra0.slice
 have ra1 := ra1.sub (F' := (fun k => (G0 k ∨ G1 k) ∧ k < w.heap.size)) (fun k hk h => ⟨.inr (h), hk⟩)
 obtain ⟨a2, c2, rfl, -⟩ := ra1.slice
 refine enter (N := 27) Tryd.func33 rfl Tryd.ntmps33 rfl fun fr hF => ?_
 refine wp_seq (wp_pure [(0, L a1 p0 c1), (1, L a2 p1 c2)] hF (by kernel_rfl) fun fr hF => then_normal ?_)
 refine wp_seq ?_
 refine wp_seq (wp_pure [(0, L a1 p0 c1), (1, L a2 p1 c2), (10, .bool ((len p0) != (len p1)))] hF (by kernel_rfl) fun fr hF => then_normal ?_)
 refine (wp_if hF (b := ((len p0) != (len p1))) rfl (fun hb => ?_) (fun hb => ?_))
 · replace h := iteT hb h
   refine wp_seq (wp_pure [(4, .bool false)] hF (by kernel_rfl) fun fr hF => then_normal ?_)
   obtain rfl := Option.some.inj h
   exact wp_ret (then_ret (ret1 rfl hF rfl ⟨_, rfl, rfl, hM0.chg⟩))
 replace h := iteF hb h
 refine (wp_skip (then_normal ?_))
 refine wp_seq ?_
 refine wp_seq (wp_pure [(0, L a1 p0 c1), (1, L a2 p1 c2), (5, I 0)] hF (by kernel_rfl) fun fr hF => then_normal ?_)
 obtain ⟨rl1, hit1, h⟩ := bindE h
 have hk1 := h
 refine (GL.wp_cut (M := fun fr w' => ∃ s, rl1 = .inl s ∧ ∃ S2 F2, FrS 27 [] fr ∧ Mem w Non (fun k => (G0 k ∨ G1 k) ∧ k < w.heap.size) w' S2 F2 ∧ Sep [] w' S2) (wp_block (wp_iter (Inv := fun s1 fr w' => ∃ S1 F1, FrS 27 [(0, L a1 p0 c1), (1, L a2 p1 c2), (5, I s1)] fr ∧ Mem w Non (fun k => (G0 k ∨ G1 k) ∧ k < w.heap.size) w' S1 F1 ∧ Sep [] w' S1) hit1 ⟨Non, _, hF.sub _ (by kernel_rfl), (Mem.start hM0.bd hM0.bdF hM0.dj), hs⟩ fun s1 q1 fr w1i hI h hr1 => ?_)) fun fr w1o hM => ?_)
 · obtain ⟨S1, F1, hF, hM1, hs⟩ := hI
   have ra0 := ra0.mem hM1
   have ra1 := ra1.mem hM1
   refine wp_seq ?_
   refine wp_seq (wp_pure [(0, L a1 p0 c1), (1, L a2 p1 c2), (5, I s1), (14, .bool (decide (s1 < (len p0))))] hF (by kernel_rfl) fun fr hF => then_normal ?_)
   refine (wp_if hF (b := (decide (s1 < (len p0)))) rfl (fun hb => ?_) (fun hb => ?_))
   · replace h := iteT hb h
     refine (wp_skip (then_normal ?_))
     refine wp_seq (wp_block ?_)
     obtain ⟨x1, hx1, h⟩ := bindE h
     obtain ⟨x2, hx2, h⟩ := bindE h
     obtain ⟨x3, hx3, h⟩ := bindE h
     refine wp_seq (region_bm 10 [0, 0, 3, 7, 0, 0, 48, 112, 255, 511] [true, true, false, false, true, true, false, false, false, true]
         [.eq (L a1 p0 c1), .eq (I s1), .is fun v w => ElemP w (fun k => k < w1i.heap.size) v (x1 : D.Ins), .eq (.agg #[I x1.Op, I x1.A, I x1.B, I x1.C]), .eq (L a2 p1 c2), .eq (I s1), .is fun v w => ElemP w (fun k => k < w1i.heap.size) v (x2 : D.Ins), .eq (.agg #[I x2.Op, I x2.A, I x2.B, I x2.C]), .eq (.bool x3), .eq (.bool (!x3))]
         [(0, L a1 p0 c1), (1, L a2 p1 c2), (5, I s1), (26, .bool (!x3))] mix hF (by kernel_rfl) (by kernel_rfl) (by kernel_rfl) (by kernel_rfl) ⟨(Pd.monoO_is mono_elem), Pd.monoO_eq, (Pd.monoO_is mono_elem), Pd.monoO_eq, Pd.monoO_eq, trivial⟩ (fun ow hG => ⟨np_to ow (np_index hG hF ty25 Tryd.underlying33 rfl rfl (RV.sub (ra0) fun k hk _ => hk) rfl rfl (fun hg => ⟨get?_nn hx1, get?_at hx1⟩)), np_to ow (np_loadF (z := x1) (i := 2) hG hF ty25 rfl rfl rfl rfl rfl rfl rfl), np_to ow (np_index hG hF ty25 Tryd.underlying33 rfl rfl (RV.sub (ra1) fun k hk _ => hk) rfl rfl (fun hg => ⟨get?_nn hx2, get?_at hx2⟩)), np_to ow (np_loadF (z := x2) (i := 6) hG hF ty25 rfl rfl rfl rfl rfl rfl rfl), np_to ow (np_call [.agg #[I x1.Op, I x1.A, I x1.B, I x1.C], .agg #[I x2.Op, I x2.A, I x2.B, I x2.C]] hG hF Tryd.call43 rfl rfl (fun w hC hg => (laws_eqIns_ok x1 x2 hx3).mono fun e w' ⟨v, he, hv, hc⟩ => ⟨v, he, hc, hv⟩)), trivial⟩) (by kernel_rfl) fun ow fr w1 hF hE hc => ?_)
     have ra0 := ra0.ext hc
     have ra1 := ra1.ext hc
     have hs := hs.ext hc
     have hM1 := hM1.ext hc
     refine from_end rfl (then_normal ?_)
     refine (wp_if hF (b := (!x3)) rfl (fun hb => ?_) (fun hb => ?_))
     · replace h := iteT hb h
       refine wp_seq (wp_pure [(4, .bool false)] hF (by kernel_rfl) fun fr hF => then_normal ?_)
       obtain rfl := hr1 _ (Option.some.inj h).symm
       obtain rfl := Option.some.inj hk1
       exact wp_ret (blk_ret (then_ret (then_ret (blk_ret (then_ret (ret1 rfl hF rfl ⟨_, rfl, rfl, (hM0.trans hM1).chg⟩))))))
     replace h := iteF hb h
     refine (wp_skip ?_)
     refine blk_normal (then_normal ?_)
     refine (wp_pure [(0, L a1 p0 c1), (1, L a2 p1 c2), (5, I (w64 (s1 + 1)))] hF (by kernel_rfl) fun fr hF => then_normal ?_)
     exact ⟨_, (Option.some.inj h).symm, S1, _, hF.sub _ (by kernel_rfl), hM1, hs⟩
   replace h := iteF hb h
   refine (wp_exit (then_exit (then_exit (blk_exit_eq ?_))))
   obtain rfl := hr1 _ (Option.some.inj h).symm
   exact then_normal ⟨_, rfl, S1, _, hF.sub _ (by kernel_rfl), hM1, hs⟩
 · obtain ⟨s1r, rfl, hM⟩ := hM
   obtain ⟨S2, F2, hF, hMx, hs⟩ := hM
   have hM0 := hM0.trans hMx
   refine wp_seq (wp_pure [(4, .bool true)] hF (by kernel_rfl) fun fr hF => then_normal ?_)
   obtain rfl := Option.some.inj h
   exact wp_ret (ret1 rfl hF rfl ⟨_, rfl, rfl, hM0.chg⟩)

theorem laws_eqProgram_ok (n : Nat) (p0 : D.Program) (p1 : D.Program) {r : Bool} (h : laws_eqProgram n p0 p1 = some r) {w : World} {G0 : Nat → Prop} {va0 : Value} (ra0 : RV w G0 va0 p0) {G1 : Nat → Prop} {va1 : Value} (ra1 : RV w G1 va1 p1) :
   Calls Tryd.prog 12 [va0, va1].toArray w fun e w' => ∃ v, e = .returned v ∧ v = .bool r ∧ Chg Non w w' := by
 unfold laws_eqProgram at h
 have hs := Sep.nil w Non
 have hM0 : Mem w Non (fun k => (G0 k ∨ G1 k) ∧ k < w.heap.size) w Non (fun k => (G0 k ∨ G1 k) ∧ k < w.heap.size) := Mem.start (fun _ h => h.elim) (fun _ h => h.2) (fun _ h => h.elim)
 have ra0 := ra0.sub (F' := (fun k => (G0 k ∨ G1 k) ∧ k < w.heap.size)) (fun k hk h => ⟨.inl h, hk⟩)
 obtain ⟨v1, rfl, r1⟩ := RV.Program ra0
 obtain ⟨a1, c1, rfl, -⟩ := r1.slice
 have ra1 := ra1.sub (F' := (fun k => (G0 k ∨ G1 k) ∧ k < w.heap.size)) (fun k hk h => ⟨.inr (h), hk⟩)
 obtain ⟨v2, rfl, r2⟩ := RV.Program ra1
 obtain ⟨a2, c2, rfl, -⟩ := r2.slice
 refine enter (N := 26) Tryd.func12 rfl Tryd.ntmps12 rfl fun fr hF => ?_
 refine wp_seq (wp_text' ?_)
 refine q_box hs hM0 [I p0.W, I p0.Mem, I p0.In, L a1 p0.Code c1] rfl rfl hF rfl rfl fun b1 w1 S1 fr hs hp hF => ?_
 have r1 := r1.stp hM0 hp
 have r2 := r2.stp hM0 hp
 have hM0 := hM0.stp hp
 have hs : Sep [BX b1 35 [I p0.W, I p0.Mem, I p0.In, L a1 p0.Code c1]] w1 S1 := hs
 refine q_box hs hM0 [I p1.W, I p1.Mem, I p1.In, L a2 p1.Code c2] rfl rfl hF rfl rfl fun b2 w2 S2 fr hs hp hF => ?_
 have r2 := r2.stp hM0 hp
 have r1 := r1.stp hM0 hp
 have hM0 := hM0.stp hp
 have hs : Sep [BX b2 35 [I p1.W, I p1.Mem, I p1.In, L a2 p1.Code c2], BX b1 35 [I p0.W, I p0.Mem, I p0.In, L a1 p0.Code c1]] w2 S2 := hs
 refine from_pure 1 [(2, B b1 0), (3, B b2 0)] hF (by kernel_rfl) fun fr hF => ?_
 refine from_end rfl (then_normal ?_)
 refine wp_seq ?_
 refine wp_seq (wp_text' ?_)
 refine from_pure 1 [(2, B b1 0), (3, B b2 0), (5, B b1 0)] hF (by kernel_rfl) fun fr hF => ?_
 refine s_loadBox (I p0.W) ty3 rfl rfl hF rfl (hs.bx 1 rfl) rfl rfl fun fr hF => ?_
 refine from_pure 1 [(2, B b1 0), (3, B b2 0), (6, I p0.W), (7, B b2 0)] hF (by kernel_rfl) fun fr hF => ?_
 refine s_loadBox (I p1.W) ty3 rfl rfl hF rfl (hs.bx 0 rfl) rfl rfl fun fr hF => ?_
 refine from_pure 1 [(2, B b1 0), (3, B b2 0), (9, .bool (p0.W != p1.W))] hF (by kernel_rfl) fun fr hF => ?_
 refine from_end rfl (then_normal ?_)
 refine (wp_if hF (b := (p0.W != p1.W)) rfl (fun hb => ?_) (fun hb => ?_))
 · replace h := iteT hb h
   have hs : Sep [] w2 S2 := Sep.pick [] hs (by decide) rfl
   refine wp_seq (wp_pure [(4, .bool false)] hF (by kernel_rfl) fun fr hF => then_normal ?_)
   obtain rfl := Option.some.inj h
   exact wp_ret (then_ret (ret1 rfl hF rfl ⟨_, rfl, rfl, hM0.chg⟩))
 replace h := iteF hb h
 refine (wp_skip (then_normal ?_))
 refine wp_seq ?_
 refine wp_seq (wp_text' ?_)
 refine from_pure 1 [(2, B b1 0), (3, B b2 0), (10, B b1 1)] hF (by kernel_rfl) fun fr hF => ?_
 refine s_loadBox (I p0.Mem) ty3 rfl rfl hF rfl (hs.bx 1 rfl) rfl rfl fun fr hF => ?_
 refine from_pure 1 [(2, B b1 0), (3, B b2 0), (11, I p0.Mem), (12, B b2 1)] hF (by kernel_rfl) fun fr hF => ?_
 refine s_loadBox (I p1.Mem) ty3 rfl rfl hF rfl (hs.bx 0 rfl) rfl rfl fun fr hF => ?_
 refine from_pure 1 [(2, B b1 0), (3, B b2 0), (14, .bool (p0.Mem != p1.Mem))] hF (by kernel_rfl) fun fr hF => ?_
 refine from_end rfl (then_normal ?_)
 refine (wp_if hF (b := (p0.Mem != p1.Mem)) rfl (fun hb => ?_) (fun hb => ?_))
 · replace h := iteT hb h
   have hs : Sep [] w2 S2 := Sep.pick [] hs (by decide) rfl
   refine wp_seq (wp_pure [(4, .bool false)] hF (by kernel_rfl) fun fr hF => then_normal ?_)
   obtain rfl := Option.some.inj h
   exact wp_ret (then_ret (ret1 rfl hF rfl ⟨_, rfl, rfl, hM0.chg⟩))
 replace h := iteF hb h
 refine (wp_skip (then_normal ?_))
 refine wp_seq ?_
 refine wp_seq (wp_text' ?_)
 refine from_pure 1 [(2, B b1 0), (3, B b2 0), (15, B b1 2)] hF (by kernel_rfl) fun fr hF => ?_
 refine s_loadBox (I p0.In) ty3 rfl rfl hF rfl (hs.bx 1 rfl) rfl rfl fun fr hF => ?_
 refine from_pure 1 [(2, B b1 0), (3, B b2 0), (16, I p0.In), (17, B b2 2)] hF (by kernel_rfl) fun fr hF => ?_
 refine s_loadBox (I p1.In) ty3 rfl rfl hF rfl (hs.bx 0 rfl) rfl rfl fun fr hF => ?_
 refine from_pure 1 [(2, B b1 0), (3, B b2 0), (19, .bool (p0.In != p1.In))] hF (by kernel_rfl) fun fr hF => ?_
 refine from_end rfl (then_normal ?_)
 refine (wp_if hF (b := (p0.In != p1.In)) rfl (fun hb => ?_) (fun hb => ?_))
 · replace h := iteT hb h
   have hs : Sep [] w2 S2 := Sep.pick [] hs (by decide) rfl
   refine wp_seq (wp_pure [(4, .bool false)] hF (by kernel_rfl) fun fr hF => then_normal ?_)
   obtain rfl := Option.some.inj h
   exact wp_ret (then_ret (ret1 rfl hF rfl ⟨_, rfl, rfl, hM0.chg⟩))
 replace h := iteF hb h
 refine (wp_skip (then_normal ?_))
 refine wp_seq ?_
 refine wp_seq (wp_text' ?_)
 refine from_pure 1 [(3, B b2 0), (20, B b1 3)] hF (by kernel_rfl) fun fr hF => ?_
 refine s_loadBox (L a1 p0.Code c1) ty33 rfl rfl hF rfl (hs.bx 1 rfl) rfl rfl fun fr hF => ?_
 have hs : Sep [BX b2 35 [I p1.W, I p1.Mem, I p1.In, L a2 p1.Code c2]] w2 S2 := Sep.pick [0] hs (by decide) rfl
 refine from_pure 1 [(21, L a1 p0.Code c1), (22, B b2 3)] hF (by kernel_rfl) fun fr hF => ?_
 refine s_loadBox (L a2 p1.Code c2) ty33 rfl rfl hF rfl (hs.bx 0 rfl) rfl rfl fun fr hF => ?_
 have hs : Sep [] w2 S2 := Sep.pick [] hs (by decide) rfl
 obtain ⟨x1, hx1, h⟩ := bindE h
 refine s_call [L a1 p0.Code c1, L a2 p1.Code c2] Tryd.call33 rfl rfl hF rfl (laws_eqInsS_ok n p0.Code p1.Code hx1 (r1) (r2)) fun v w3 fr hRes hF => ?_
 obtain ⟨rfl, hc⟩ := hRes
 have r1 := r1.ext hc
 have r2 := r2.ext hc
 have hs := hs.ext hc
 have hM0 := hM0.ext hc
 refine from_pure 1 [(25, .bool (!x1))] hF (by kernel_rfl) fun fr hF => ?_
 refine from_end rfl (then_normal ?_)
 refine (wp_if hF (b := (!x1)) rfl (fun hb => ?_) (fun hb => ?_))
 · replace h := iteT hb h
   refine wp_seq (wp_pure [(4, .bool false)] hF (by kernel_rfl) fun fr hF => then_normal ?_)
   obtain rfl := Option.some.inj h
   exact wp_ret (then_ret (ret1 rfl hF rfl ⟨_, rfl, rfl, hM0.chg⟩))
 replace h := iteF hb h
 refine (wp_skip (then_normal ?_))
 refine wp_seq (wp_pure [(4, .bool true)] hF (by kernel_rfl) fun fr hF => then_normal ?_)
 obtain rfl := Option.some.inj h
 exact wp_ret (ret1 rfl hF rfl ⟨_, rfl, rfl, hM0.chg⟩)

theorem laws_FnExactFormatProgram_ok (n : Nat) (p0 : D.Program) {r : Bool} (h : laws_FnExactFormatProgram n p0 = some r) {w : World} {G0 : Nat → Prop} {va0 : Value} (ra0 : RV w G0 va0 p0) {G99 : Nat → Prop} (tb : TB Tryd.prog "internal/strconv.uint64pow10" .u64 Lib.pow10Tab w G99) :
   Calls Tryd.prog 4 [va0].toArray w fun e w' => ∃ v, e = .returned v ∧ v = .bool r ∧ Chg Non w w' := by
 unfold laws_FnExactFormatProgram at h
 have hs := Sep.nil w Non
 have hM0 : Mem w Non (fun k => (G0 k ∨ G99 k) ∧ k < w.heap.size) w Non (fun k => (G0 k ∨ G99 k) ∧ k < w.heap.size) := Mem.start (fun _ h => h.elim) (fun _ h => h.2) (fun _ h => h.elim)
 have ra0 := ra0.sub (F' := (fun k => (G0 k ∨ G99 k) ∧ k < w.heap.size)) (fun k hk h => ⟨.inl h, hk⟩)
 obtain ⟨v1, rfl, r1⟩ := RV.Program ra0
 obtain ⟨a1, c1, rfl, -⟩ := r1.slice
 have tb := tb.sub (F' := (fun k => (G0 k ∨ G99 k) ∧ k < w.heap.size)) (fun k hk h => ⟨.inr (h), hk⟩)
 refine enter (N := 27) Tryd.func4 rfl Tryd.ntmps4 rfl fun fr hF => ?_
 refine wp_seq (wp_text' ?_)
 refine q_box hs hM0 [I p0.W, I p0.Mem, I p0.In, L a1 p0.Code c1] rfl rfl hF rfl rfl fun b1 w1 S1 fr hs hp hF => ?_
 have tb := tb.stp hM0 hp
 have r1 := r1.stp hM0 hp
 have hM0 := hM0.stp hp
 have hs : Sep [BX b1 30 [I p0.W, I p0.Mem, I p0.In, L a1 p0.Code c1]] w1 S1 := hs
 refine from_pure 1 [(1, B b1 0)] hF (by kernel_rfl) fun fr hF => ?_
 refine from_end rfl (then_normal ?_)
 refine wp_seq (wp_pure [(1, B b1 0), (3, I 1048576)] hF (by kernel_rfl) fun fr hF => then_normal ?_)
 refine wp_seq (wp_text' ?_)
 refine s_loadBoxS ty30 rfl rfl hF rfl (hs.bx 0 rfl) rfl rfl fun fr hF => ?_
 refine from_pure 1 [(1, B b1 0), (7, .agg #[I p0.W, I p0.Mem, I p0.In, L a1 p0.Code c1]), (8, I 1048576)] hF (by kernel_rfl) fun fr hF => ?_
 obtain ⟨x1, hx1, h⟩ := bindE h
 refine s_call [.agg #[I p0.W, I p0.Mem, I p0.In, L a1 p0.Code c1], I 1048576] Tryd.call8 rfl rfl hF rfl (laws_szProgram_ok p0 1048576 hx1 (RV.mk_Program p0 (r1))) fun v w2 fr hRes hF => ?_
 obtain ⟨rfl, hc⟩ := hRes
 have tb := tb.ext hc
 have r1 := r1.ext hc
 have hs := hs.ext hc
 have hM0 := hM0.ext hc
 refine from_pure 1 [(1, B b1 0), (3, I x1)] hF (by kernel_rfl) fun fr hF => ?_
 refine from_end rfl (then_normal ?_)
 refine wp_seq ?_
 refine wp_seq (wp_pure [(1, B b1 0), (11, .bool (decide (x1 < 0)))] hF (by kernel_rfl) fun fr hF => then_normal ?_)
 refine (wp_if hF (b := (decide (x1 < 0))) rfl (fun hb => ?_) (fun hb => ?_))
 · replace h := iteT hb h
   have hs : Sep [] w2 S1 := Sep.pick [] hs (by decide) rfl
   refine wp_seq (wp_pure [(2, .bool true)] hF (by kernel_rfl) fun fr hF => then_normal ?_)
   obtain rfl := Option.some.inj h
   exact wp_ret (then_ret (ret1 rfl hF rfl ⟨_, rfl, rfl, hM0.chg⟩))
 replace h := iteF hb h
 refine (wp_skip (then_normal ?_))
 refine wp_seq (wp_text' ?_)
 refine s_loadBoxS ty30 rfl rfl hF rfl (hs.bx 0 rfl) rfl rfl fun fr hF => ?_
 obtain ⟨x2, hx2, h⟩ := bindE h
 refine s_call [.agg #[I p0.W, I p0.Mem, I p0.In, L a1 p0.Code c1]] Tryd.call10 rfl rfl hF rfl (laws_toProgram_ok n p0 hx2 (RV.mk_Program p0 (r1))) fun v w3 fr hRes hF => ?_
 obtain ⟨a2, c2, rfl, _, hp, hs2⟩ := hRes
 obtain ⟨S2, hp, hs⟩ := hs.got hM0 hp hs2
 have tb := tb.stp hM0 hp
 have r1 := r1.stp hM0 hp
 have hM0 := hM0.stp hp
 have hs : Sep [sl25 (L a2 x2.Code c2) x2.Code, BX b1 30 [I p0.W, I p0.Mem, I p0.In, L a1 p0.Code c1]] w3 S2 := hs
 obtain ⟨x3, hx3, h⟩ := bindE h
 refine s_call [.agg #[I x2.W, I x2.Mem, I x2.In, L a2 x2.Code c2]] Tryd.call9 rfl rfl hF rfl (spec_FormatProgram_ok n x2 hx3 (RV.mk_Program x2 (RV.any (hs.rv 0 rfl)))) fun v w4 fr hRes hF => ?_
 obtain ⟨rfl, hc⟩ := hRes
 have tb := tb.ext hc
 have r1 := r1.ext hc
 have hs := hs.ext hc
 have hM0 := hM0.ext hc
 have hs : Sep [BX b1 30 [I p0.W, I p0.Mem, I p0.In, L a1 p0.Code c1]] w4 S2 := Sep.pick [1] hs (by decide) rfl
 refine from_pure 1 [(1, B b1 0), (4, Str.val x3)] hF (by kernel_rfl) fun fr hF => ?_
 refine from_end rfl (then_normal ?_)
 refine wp_seq (wp_text' ?_)
 refine s_loadBoxS ty30 rfl rfl hF rfl (hs.bx 0 rfl) rfl rfl fun fr hF => ?_
 obtain ⟨x4, hx4, h⟩ := bindE h
 refine s_call [.agg #[I p0.W, I p0.Mem, I p0.In, L a1 p0.Code c1]] Tryd.call10 rfl rfl hF rfl (laws_toProgram_ok n p0 hx4 (RV.mk_Program p0 (r1))) fun v w5 fr hRes hF => ?_
 obtain ⟨a3, c3, rfl, _, hp, hs2⟩ := hRes
 obtain ⟨S3, hp, hs⟩ := hs.got hM0 hp hs2
 have tb := tb.stp hM0 hp
 have r1 := r1.stp hM0 hp
 have hM0 := hM0.stp hp
 have hs : Sep [sl25 (L a3 x4.Code c3) x4.Code, BX b1 30 [I p0.W, I p0.Mem, I p0.In, L a1 p0.Code c1]] w5 S3 := hs
 refine q_alloc (z := .agg #[I 0, I 0, I 0, L none ([] : List D.Ins) 0]) hs hM0 [I 0, I 0, I 0, L none ([] : List D.Ins) 0] rfl rfl hF (by kernel_rfl) rfl fun b2 w6 S4 fr hs hp hF => ?_
 have tb := tb.stp hM0 hp
 have r1 := r1.stp hM0 hp
 have hM0 := hM0.stp hp
 have hs : Sep [BX b2 35 [I 0, I 0, I 0, L none ([] : List D.Ins) 0], sl25 (L a3 x4.Code c3) x4.Code, BX b1 30 [I p0.W, I p0.Mem, I p0.In, L a1 p0.Code c1]] w6 S4 := hs
 refine q_storeBoxS 0 hs hM0 rfl [I x4.W, I x4.Mem, I x4.In, L a3 x4.Code c3] rfl hF rfl rfl (by kernel_rfl) rfl rfl rfl fun w7 S5 hs hp hF => ?_
 have tb := tb.stp hM0 hp
 have r1 := r1.stp hM0 hp
 have hM0 := hM0.stp hp
 have hs : Sep [BX b2 35 [I x4.W, I x4.Mem, I x4.In, L a3 x4.Code c3], sl25 (L a3 x4.Code c3) x4.Code, BX b1 30 [I p0.W, I p0.Mem, I p0.In, L a1 p0.Code c1]] w7 S5 := hs
 refine from_end rfl (then_normal ?_)
 refine wp_seq (wp_text' ?_)
 refine s_loadBoxS ty35 rfl rfl hF rfl (hs.bx 0 rfl) rfl rfl fun fr hF => ?_
 obtain ⟨x5, hx5, h⟩ := bindE h
 refine s_call [.agg #[I x4.W, I x4.Mem, I x4.In, L a3 x4.Code c3]] Tryd.call11 rfl rfl hF rfl (impl_FormatProgram_ok n x4 hx5 (RV.mk_Program x4 (RV.any (hs.rv 1 rfl))) tb) fun v w8 fr hRes hF => ?_
 obtain ⟨rfl, hc⟩ := hRes
 have tb := tb.ext hc
 have r1 := r1.ext hc
 have hs := hs.ext hc
 have hM0 := hM0.ext hc
 refine from_pure 1 [(1, B b1 0), (4, Str.val x3), (5, B b2 0), (6, Str.val x5)] hF (by kernel_rfl) fun fr hF => ?_
 refine from_end rfl (then_normal ?_)
 refine wp_seq ?_
 refine wp_seq (wp_pure [(1, B b1 0), (5, B b2 0), (21, .bool (!(Str.eqb x5 x3)))] hF (by kernel_rfl) fun fr hF => then_normal ?_)
 refine (wp_if hF (b := (!(Str.eqb x5 x3))) rfl (fun hb => ?_) (fun hb => ?_))
 · replace h := iteT hb h
   have hs : Sep [] w8 S5 := Sep.pick [] hs (by decide) rfl
   refine wp_seq (wp_pure [(2, .bool false)] hF (by kernel_rfl) fun fr hF => then_normal ?_)
   obtain rfl := Option.some.inj h
   exact wp_ret (then_ret (ret1 rfl hF rfl ⟨_, rfl, rfl, hM0.chg⟩))
 replace h := iteF hb h
 refine (wp_skip (then_normal ?_))
 refine wp_seq ?_
 obtain ⟨x6, hx6, h⟩ := bindE h
 obtain ⟨x7, hx7, h⟩ := bindE h
 refine wp_seq (region_bm 5 [0, 0, 2, 7, 15] [false, false, false, false, true]
     [.eq (.agg #[I x4.W, I x4.Mem, I x4.In, L a3 x4.Code c3]), .eq (.agg #[I p0.W, I p0.Mem, I p0.In, L a1 p0.Code c1]), .is fun v w => RV w (fun k => k < w.heap.size) v (x6 : D.Program), .eq (.bool x7), .eq (.bool (!x7))]
     [(26, .bool (!x7))] mix hF (by kernel_rfl) (by kernel_rfl) (by kernel_rfl) (by kernel_rfl) ⟨Pd.monoO_eq, Pd.monoO_eq, (Pd.monoO_is mono_rvb), Pd.monoO_eq, trivial⟩ (fun ow hG => ⟨np_to ow (np_loadBoxS hG hF ty35 rfl rfl (hs.bx 0 rfl) rfl rfl rfl rfl), np_to ow (np_loadBoxS hG hF ty30 rfl rfl (hs.bx 2 rfl) rfl rfl rfl rfl), np_to ow (np_callI [.inl (.agg #[I p0.W, I p0.Mem, I p0.In, L a1 p0.Code c1])] hG hF Tryd.call10 rfl rfl (by kernel_rfl) (fun w vs hC hg ha => by obtain ⟨_, rfl, rfl⟩ := ha; exact (laws_toProgram_ok n p0 hx6 ((RV.mk_Program p0 (r1)).ext hC)).mono fun e w' ⟨v, he, a0, c0, hv, _, hp, ho⟩ => ⟨_, he, hp.chg, by rw [hv]; exact (show RV w' (fun k => k < w'.heap.size) _ (x6 : D.Program) from RV.mk_Program x6 ((ho.rv 0 rfl).sub fun k hk _ => hk))⟩)), np_to ow (np_callI [.inl (.agg #[I x4.W, I x4.Mem, I x4.In, L a3 x4.Code c3]), .inr 2] hG hF Tryd.call12 rfl rfl (by kernel_rfl) (fun w vs hC hg ha => by obtain ⟨_, rfl, vq1, _, rfl, hq1, rfl⟩ := ha; exact (laws_eqProgram_ok n x4 x6 hx7 ((RV.mk_Program x4 (RV.any (hs.rv 1 rfl))).ext hC) (show RV w (fun k => k < w.heap.size) vq1 x6 from hq1)).mono fun e w' ⟨v, he, hv, hc⟩ => ⟨v, he, hc, hv⟩)), trivial⟩) (by kernel_rfl) fun ow fr w9 hF hE hc => ?_)
 have tb := tb.ext hc
 have r1 := r1.ext hc
 have hs := hs.ext hc
 have hM0 := hM0.ext hc
 have hs : Sep [] w9 S5 := Sep.pick [] hs (by decide) rfl
 refine from_end rfl (then_normal ?_)
 refine (wp_if hF (b := (!x7)) rfl (fun hb => ?_) (fun hb => ?_))
 · replace h := iteT hb h
   refine wp_seq (wp_pure [(2, .bool false)] hF (by kernel_rfl) fun fr hF => then_normal ?_)
   obtain rfl := Option.some.inj h
   exact wp_ret (then_ret (ret1 rfl hF rfl ⟨_, rfl, rfl, hM0.chg⟩))
 replace h := iteF hb h
 refine (wp_skip (then_normal ?_))
 refine wp_seq (wp_pure [(2, .bool true)] hF (by kernel_rfl) fun fr hF => then_normal ?_)
 obtain rfl := Option.some.inj h
 exact wp_ret (ret1 rfl hF rfl ⟨_, rfl, rfl, hM0.chg⟩)
end Go.Proofs.YtmnodiloichdmaaDoor
