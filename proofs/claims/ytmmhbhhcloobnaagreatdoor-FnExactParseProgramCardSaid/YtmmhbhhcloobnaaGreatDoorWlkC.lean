/- Printed by gen2.py: the walks. -/
import Derived.Test.YtmmhbhhcloobnaaGreatDoorWlkB
set_option linter.unusedVariables false
set_option maxRecDepth 100000
namespace Go.Proofs.YtmmhbhhcloobnaaGreatDoor
open Go.GL Go.Maps Go.WideMaps
theorem impl_insOk_ok (p0 : D.Ins) (p1 : Int) (p2 : Int) {r : Bool} (h : impl_insOk p0 p1 p2 = some r) {w : World} :
   Calls Tryz.prog 44 [.agg #[I p0.Op, I p0.A, I p0.B, I p0.C], I p1, I p2].toArray w fun e w' => ∃ v, e = .returned v ∧ v = .bool r ∧ Chg Non w w' := by
 unfold impl_insOk at h
 have hs := Sep.nil w Non
 have hM0 : Mem w Non (fun k => (False) ∧ k < w.heap.size) w Non (fun k => (False) ∧ k < w.heap.size) := Mem.start (fun _ h => h.elim) (fun _ h => h.2) (fun _ h => h.elim)
 refine enter (N := 102) Tryz.func44 rfl Tryz.ntmps44 rfl fun fr hF => ?_
 refine wp_seq (wp_text' ?_)
 refine q_box hs hM0 [I p0.Op, I p0.A, I p0.B, I p0.C] rfl rfl hF rfl rfl fun b1 w1 S1 fr hs hp hF => ?_
 have hM0 := hM0.stp hp
 have hs : Sep [BX b1 38 [I p0.Op, I p0.A, I p0.B, I p0.C]] w1 S1 := hs
 refine from_pure 1 [(1, I p1), (2, I p2), (3, B b1 0)] hF (by kernel_rfl) fun fr hF => ?_
 refine from_end rfl (then_normal ?_)
 refine wp_seq (region_b [] [true, false, true, true, true, false, true, true, true, true]
     [.eq (B b1 2), .eq (I p0.B), .eq (.bool (decide (p0.B ≥ 0))), .eq (.bool (decide (p0.B ≥ 0))), .eq (B b1 2), .eq (I p0.B), .eq (I p2), .eq (.bool (decide (p0.B ≤ p2))), .eq (.bool ((decide (p0.B ≥ 0)) && (decide (p0.B ≤ p2)))), .eq (.bool ((decide (p0.B ≥ 0)) && (decide (p0.B ≤ p2))))]
     [(1, I p1), (3, B b1 0), (7, .bool ((decide (p0.B ≥ 0)) && (decide (p0.B ≤ p2))))] mix hF (by kernel_rfl) (by kernel_rfl) (by kernel_rfl) ⟨Pd.mono_eq, Pd.mono_eq, trivial⟩ (fun hG => ⟨np_loadBox hG hF ty3 rfl rfl (hs.bx 0 rfl) rfl rfl rfl, np_loadBox hG hF ty3 rfl rfl (hs.bx 0 rfl) rfl rfl rfl, trivial⟩) (by kernel_rfl) fun fr w2 hF hE hc => then_normal ?_)
 have hs := hs.ext hc
 have hM0 := hM0.ext hc
 refine wp_seq ?_
 refine wp_seq (wp_text' ?_)
 refine from_pure 1 [(1, I p1), (3, B b1 0), (7, .bool ((decide (p0.B ≥ 0)) && (decide (p0.B ≤ p2)))), (17, B b1 0)] hF (by kernel_rfl) fun fr hF => ?_
 refine s_loadBox (I p0.Op) ty3 rfl rfl hF rfl (hs.bx 0 rfl) rfl rfl fun fr hF => ?_
 refine from_pure 1 [(1, I p1), (3, B b1 0), (7, .bool ((decide (p0.B ≥ 0)) && (decide (p0.B ≤ p2)))), (19, .bool (p0.Op == 3))] hF (by kernel_rfl) fun fr hF => ?_
 refine from_end rfl (then_normal ?_)
 refine (wp_if hF (b := (p0.Op == 3)) rfl (fun hb => ?_) (fun hb => ?_))
 · replace h := iteT hb h
   obtain ⟨x1, hx1, h⟩ := bindE h
   obtain ⟨x2, hx2, h⟩ := bindE h
   obtain ⟨x3, hx3, h⟩ := bindE h
   refine wp_seq (region_b [] [true, false, false, true, true, false, false, true, true, true, false, false, true, true]
       [.eq (B b1 1), .eq (I p0.A), .eq (.bool x1), .eq (.bool x1), .eq (B b1 2), .eq (I p0.B), .eq (.bool x2), .eq (.bool (x1 && x2)), .eq (.bool (x1 && x2)), .eq (B b1 3), .eq (I p0.C), .eq (.bool x3), .eq (.bool ((x1 && x2) && x3)), .eq (.bool ((x1 && x2) && x3))]
       [(6, .bool ((x1 && x2) && x3))] mix hF (by kernel_rfl) (by kernel_rfl) (by kernel_rfl) ⟨Pd.mono_eq, Pd.mono_eq, Pd.mono_eq, Pd.mono_eq, Pd.mono_eq, Pd.mono_eq, trivial⟩ (fun hG => ⟨np_loadBox hG hF ty3 rfl rfl (hs.bx 0 rfl) rfl rfl rfl, np_call [I p0.A] hG hF Tryz.call63 rfl rfl (fun w hC hg => (impl_isReg_ok p0.A hx1).mono fun e w' ⟨v, he, hv, hc⟩ => ⟨v, he, hc, hv⟩), np_loadBox hG hF ty3 rfl rfl (hs.bx 0 rfl) rfl rfl rfl, np_call [I p0.B] hG hF Tryz.call63 rfl rfl (fun w hC hg => (impl_isReg_ok p0.B (iteT hg.2 hx2)).mono fun e w' ⟨v, he, hv, hc⟩ => ⟨v, he, hc, hv⟩), np_loadBox hG hF ty3 rfl rfl (hs.bx 0 rfl) rfl rfl rfl, np_call [I p0.C] hG hF Tryz.call39 rfl rfl (fun w hC hg => (impl_isTwoWords_ok p0.C (iteT hg.2 hx3)).mono fun e w' ⟨v, he, hv, hc⟩ => ⟨v, he, hc, hv⟩), trivial⟩) (by kernel_rfl) fun fr w3 hF hE hc => then_normal ?_)
   have hs := hs.ext hc
   have hM0 := hM0.ext hc
   have hs : Sep [] w3 S1 := Sep.pick [] hs (by decide) rfl
   obtain rfl := Option.some.inj h
   exact wp_ret (then_ret (ret1 rfl hF rfl ⟨_, rfl, rfl, hM0.chg⟩))
 replace h := iteF hb h
 refine (wp_skip (then_normal ?_))
 refine wp_seq ?_
 refine wp_seq (wp_text' ?_)
 refine from_pure 1 [(1, I p1), (3, B b1 0), (7, .bool ((decide (p0.B ≥ 0)) && (decide (p0.B ≤ p2)))), (33, B b1 3)] hF (by kernel_rfl) fun fr hF => ?_
 refine s_loadBox (I p0.C) ty3 rfl rfl hF rfl (hs.bx 0 rfl) rfl rfl fun fr hF => ?_
 refine from_pure 1 [(1, I p1), (3, B b1 0), (7, .bool ((decide (p0.B ≥ 0)) && (decide (p0.B ≤ p2)))), (35, .bool (p0.C != 0))] hF (by kernel_rfl) fun fr hF => ?_
 refine from_end rfl (then_normal ?_)
 refine (wp_if hF (b := (p0.C != 0)) rfl (fun hb => ?_) (fun hb => ?_))
 · replace h := iteT hb h
   have hs : Sep [] w2 S1 := Sep.pick [] hs (by decide) rfl
   refine wp_seq (wp_pure [(6, .bool false)] hF (by kernel_rfl) fun fr hF => then_normal ?_)
   obtain rfl := Option.some.inj h
   exact wp_ret (then_ret (ret1 rfl hF rfl ⟨_, rfl, rfl, hM0.chg⟩))
 replace h := iteF hb h
 refine (wp_skip (then_normal ?_))
 refine wp_seq ?_
 refine wp_seq (wp_text' ?_)
 refine from_pure 1 [(1, I p1), (3, B b1 0), (7, .bool ((decide (p0.B ≥ 0)) && (decide (p0.B ≤ p2)))), (36, B b1 0)] hF (by kernel_rfl) fun fr hF => ?_
 refine s_loadBox (I p0.Op) ty3 rfl rfl hF rfl (hs.bx 0 rfl) rfl rfl fun fr hF => ?_
 refine from_end rfl (then_normal ?_)
 refine (wp_block ?_)
 refine wp_seq (wp_pure [(1, I p1), (3, B b1 0), (7, .bool ((decide (p0.B ≥ 0)) && (decide (p0.B ≤ p2)))), (37, I p0.Op), (38, .bool (p0.Op == 1))] hF (by kernel_rfl) fun fr hF => then_normal ?_)
 refine (wp_if hF (b := (p0.Op == 1)) rfl (fun hb => ?_) (fun hb => ?_))
 · replace h := iteT hb h
   obtain ⟨x4, hx4, h⟩ := bindE h
   obtain ⟨x5, hx5, h⟩ := bindE h
   refine wp_seq (region_b [] [true, false, false, true, true, true, false, false, true, true]
       [.eq (B b1 1), .eq (I p0.A), .eq (.bool x4), .eq (.bool x4), .eq (I p1), .eq (B b1 2), .eq (I p0.B), .eq (.bool x5), .eq (.bool (x4 && x5)), .eq (.bool (x4 && x5))]
       [(6, .bool (x4 && x5))] mix hF (by kernel_rfl) (by kernel_rfl) (by kernel_rfl) ⟨Pd.mono_eq, Pd.mono_eq, Pd.mono_eq, Pd.mono_eq, trivial⟩ (fun hG => ⟨np_loadBox hG hF ty3 rfl rfl (hs.bx 0 rfl) rfl rfl rfl, np_call [I p0.A] hG hF Tryz.call63 rfl rfl (fun w hC hg => (impl_isReg_ok p0.A hx4).mono fun e w' ⟨v, he, hv, hc⟩ => ⟨v, he, hc, hv⟩), np_loadBox hG hF ty3 rfl rfl (hs.bx 0 rfl) rfl rfl rfl, np_call [I p1, I p0.B] hG hF Tryz.call43 rfl rfl (fun w hC hg => (impl_WordOk_ok p1 p0.B (iteT hg.2 hx5)).mono fun e w' ⟨v, he, hv, hc⟩ => ⟨v, he, hc, hv⟩), trivial⟩) (by kernel_rfl) fun fr w4 hF hE hc => then_normal ?_)
   have hs := hs.ext hc
   have hM0 := hM0.ext hc
   have hs : Sep [] w4 S1 := Sep.pick [] hs (by decide) rfl
   obtain rfl := Option.some.inj h
   exact wp_ret (blk_ret (then_ret (ret1 rfl hF rfl ⟨_, rfl, rfl, hM0.chg⟩)))
 replace h := iteF hb h
 refine wp_seq ?_
 refine wp_seq (wp_pure [(3, B b1 0), (7, .bool ((decide (p0.B ≥ 0)) && (decide (p0.B ≤ p2)))), (37, I p0.Op), (49, .bool (p0.Op == 2))] hF (by kernel_rfl) fun fr hF => then_normal ?_)
 refine (wp_if hF (b := (p0.Op == 2)) rfl (fun hb => ?_) (fun hb => ?_))
 · replace h := iteT hb h
   refine (wp_skip (then_normal ?_))
   refine (wp_if hF (b := (p0.Op == 2)) rfl (fun hb => ?_) (fun hb => ?_))
   · replace h := iteT hb h
     obtain ⟨x6, hx6, h⟩ := bindE h
     obtain ⟨x7, hx7, h⟩ := bindE h
     refine wp_seq (region_b [] [true, false, false, true, true, false, false, true, true]
         [.eq (B b1 1), .eq (I p0.A), .eq (.bool x6), .eq (.bool x6), .eq (B b1 2), .eq (I p0.B), .eq (.bool x7), .eq (.bool (x6 && x7)), .eq (.bool (x6 && x7))]
         [(6, .bool (x6 && x7))] mix hF (by kernel_rfl) (by kernel_rfl) (by kernel_rfl) ⟨Pd.mono_eq, Pd.mono_eq, Pd.mono_eq, Pd.mono_eq, trivial⟩ (fun hG => ⟨np_loadBox hG hF ty3 rfl rfl (hs.bx 0 rfl) rfl rfl rfl, np_call [I p0.A] hG hF Tryz.call63 rfl rfl (fun w hC hg => (impl_isReg_ok p0.A hx6).mono fun e w' ⟨v, he, hv, hc⟩ => ⟨v, he, hc, hv⟩), np_loadBox hG hF ty3 rfl rfl (hs.bx 0 rfl) rfl rfl rfl, np_call [I p0.B] hG hF Tryz.call63 rfl rfl (fun w hC hg => (impl_isReg_ok p0.B (iteT hg.2 hx7)).mono fun e w' ⟨v, he, hv, hc⟩ => ⟨v, he, hc, hv⟩), trivial⟩) (by kernel_rfl) fun fr w5 hF hE hc => then_normal ?_)
     have hs := hs.ext hc
     have hM0 := hM0.ext hc
     have hs : Sep [] w5 S1 := Sep.pick [] hs (by decide) rfl
     obtain rfl := Option.some.inj h
     exact wp_ret (blk_ret (then_ret (ret1 rfl hF rfl ⟨_, rfl, rfl, hM0.chg⟩)))
   replace h := iteF hb h
   refine wp_seq ?_
   refine wp_seq (wp_pure [(3, B b1 0), (7, .bool ((decide (p0.B ≥ 0)) && (decide (p0.B ≤ p2)))), (37, I p0.Op), (61, .bool (p0.Op == 4))] hF (by kernel_rfl) fun fr hF => then_normal ?_)
   refine (wp_if hF (b := (p0.Op == 4)) rfl (fun hb => ?_) (fun hb => ?_))
   · replace h := iteT hb h
     refine (wp_skip (then_normal ?_))
     refine (wp_if hF (b := (p0.Op == 4)) rfl (fun hb => ?_) (fun hb => ?_))
     · replace h := iteT hb h
       obtain ⟨x8, hx8, h⟩ := bindE h
       refine wp_seq (region_b [] [true, false, false, true, true, false, true, true, true]
           [.eq (B b1 1), .eq (I p0.A), .eq (.bool x8), .eq (.bool x8), .eq (B b1 2), .eq (I p0.B), .eq (.bool (p0.B == 0)), .eq (.bool (x8 && (p0.B == 0))), .eq (.bool (x8 && (p0.B == 0)))]
           [(6, .bool (x8 && (p0.B == 0)))] mix hF (by kernel_rfl) (by kernel_rfl) (by kernel_rfl) ⟨Pd.mono_eq, Pd.mono_eq, Pd.mono_eq, trivial⟩ (fun hG => ⟨np_loadBox hG hF ty3 rfl rfl (hs.bx 0 rfl) rfl rfl rfl, np_call [I p0.A] hG hF Tryz.call63 rfl rfl (fun w hC hg => (impl_isReg_ok p0.A hx8).mono fun e w' ⟨v, he, hv, hc⟩ => ⟨v, he, hc, hv⟩), np_loadBox hG hF ty3 rfl rfl (hs.bx 0 rfl) rfl rfl rfl, trivial⟩) (by kernel_rfl) fun fr w6 hF hE hc => then_normal ?_)
       have hs := hs.ext hc
       have hM0 := hM0.ext hc
       have hs : Sep [] w6 S1 := Sep.pick [] hs (by decide) rfl
       obtain rfl := Option.some.inj h
       exact wp_ret (blk_ret (then_ret (ret1 rfl hF rfl ⟨_, rfl, rfl, hM0.chg⟩)))
     replace h := iteF hb h
     refine wp_seq ?_
     refine wp_seq (wp_pure [(3, B b1 0), (7, .bool ((decide (p0.B ≥ 0)) && (decide (p0.B ≤ p2)))), (37, I p0.Op), (74, .bool (p0.Op == 9))] hF (by kernel_rfl) fun fr hF => then_normal ?_)
     refine (wp_merge [(3, B b1 0), (7, .bool ((decide (p0.B ≥ 0)) && (decide (p0.B ≤ p2)))), (37, I p0.Op), (74, .bool ((p0.Op == 9) || (p0.Op == 11)))] hF (b := (p0.Op == 9)) rfl (fun hb => ?_) (fun hb => ?_) fun fr hF => then_normal ?_)
     · exact wp_skip ⟨rfl, rfl, (hF.sub [(3, B b1 0), (7, .bool ((decide (p0.B ≥ 0)) && (decide (p0.B ≤ p2)))), (37, I p0.Op), (74, .bool (p0.Op == 9))] (by kernel_rfl)).eqs (by first | (simp only [hb]; done) | (simp only [hb]; rfl))⟩
     · exact wp_pure [(3, B b1 0), (7, .bool ((decide (p0.B ≥ 0)) && (decide (p0.B ≤ p2)))), (37, I p0.Op), (74, .bool (p0.Op == 11))] hF (by kernel_rfl) fun fr hF => ⟨rfl, rfl, hF.eqs (by first | (simp only [hb]; done) | (simp only [hb]; rfl))⟩
     refine (wp_if hF (b := ((p0.Op == 9) || (p0.Op == 11))) rfl (fun hb => ?_) (fun hb => ?_))
     · replace h := iteT hb h
       refine wp_seq (region_b [] [true, false, true, true, true, true, true]
           [.eq (B b1 1), .eq (I p0.A), .eq (.bool (p0.A == 0)), .eq (.bool (p0.A == 0)), .eq (.bool ((decide (p0.B ≥ 0)) && (decide (p0.B ≤ p2)))), .eq (.bool ((p0.A == 0) && ((decide (p0.B ≥ 0)) && (decide (p0.B ≤ p2))))), .eq (.bool ((p0.A == 0) && ((decide (p0.B ≥ 0)) && (decide (p0.B ≤ p2)))))]
           [(6, .bool ((p0.A == 0) && ((decide (p0.B ≥ 0)) && (decide (p0.B ≤ p2)))))] mix hF (by kernel_rfl) (by kernel_rfl) (by kernel_rfl) ⟨Pd.mono_eq, trivial⟩ (fun hG => ⟨np_loadBox hG hF ty3 rfl rfl (hs.bx 0 rfl) rfl rfl rfl, trivial⟩) (by kernel_rfl) fun fr w7 hF hE hc => then_normal ?_)
       have hs := hs.ext hc
       have hM0 := hM0.ext hc
       have hs : Sep [] w7 S1 := Sep.pick [] hs (by decide) rfl
       obtain rfl := Option.some.inj h
       exact wp_ret (blk_ret (then_ret (ret1 rfl hF rfl ⟨_, rfl, rfl, hM0.chg⟩)))
     replace h := iteF hb h
     refine wp_seq (wp_pure [(3, B b1 0), (7, .bool ((decide (p0.B ≥ 0)) && (decide (p0.B ≤ p2)))), (37, I p0.Op), (83, .bool (p0.Op == 10))] hF (by kernel_rfl) fun fr hF => then_normal ?_)
     refine (wp_if hF (b := (p0.Op == 10)) rfl (fun hb => ?_) (fun hb => ?_))
     · replace h := iteT hb h
       obtain ⟨x9, hx9, h⟩ := bindE h
       refine wp_seq (region_b [] [true, false, false, true, true, true, true]
           [.eq (B b1 1), .eq (I p0.A), .eq (.bool x9), .eq (.bool x9), .eq (.bool ((decide (p0.B ≥ 0)) && (decide (p0.B ≤ p2)))), .eq (.bool (x9 && ((decide (p0.B ≥ 0)) && (decide (p0.B ≤ p2))))), .eq (.bool (x9 && ((decide (p0.B ≥ 0)) && (decide (p0.B ≤ p2)))))]
           [(6, .bool (x9 && ((decide (p0.B ≥ 0)) && (decide (p0.B ≤ p2)))))] mix hF (by kernel_rfl) (by kernel_rfl) (by kernel_rfl) ⟨Pd.mono_eq, Pd.mono_eq, trivial⟩ (fun hG => ⟨np_loadBox hG hF ty3 rfl rfl (hs.bx 0 rfl) rfl rfl rfl, np_call [I p0.A] hG hF Tryz.call63 rfl rfl (fun w hC hg => (impl_isReg_ok p0.A hx9).mono fun e w' ⟨v, he, hv, hc⟩ => ⟨v, he, hc, hv⟩), trivial⟩) (by kernel_rfl) fun fr w8 hF hE hc => then_normal ?_)
       have hs := hs.ext hc
       have hM0 := hM0.ext hc
       have hs : Sep [] w8 S1 := Sep.pick [] hs (by decide) rfl
       obtain rfl := Option.some.inj h
       exact wp_ret (blk_ret (then_ret (ret1 rfl hF rfl ⟨_, rfl, rfl, hM0.chg⟩)))
     replace h := iteF hb h
     refine wp_seq ?_
     refine wp_seq (wp_pure [(3, B b1 0), (37, I p0.Op), (91, .bool (p0.Op == 12))] hF (by kernel_rfl) fun fr hF => then_normal ?_)
     refine (wp_merge [(3, B b1 0), (91, .bool ((p0.Op == 12) || (p0.Op == 14)))] hF (b := (p0.Op == 12)) rfl (fun hb => ?_) (fun hb => ?_) fun fr hF => then_normal ?_)
     · exact wp_skip ⟨rfl, rfl, (hF.sub [(3, B b1 0), (91, .bool (p0.Op == 12))] (by kernel_rfl)).eqs (by first | (simp only [hb]; done) | (simp only [hb]; rfl))⟩
     · exact wp_pure [(3, B b1 0), (91, .bool (p0.Op == 14))] hF (by kernel_rfl) fun fr hF => ⟨rfl, rfl, hF.eqs (by first | (simp only [hb]; done) | (simp only [hb]; rfl))⟩
     refine (wp_if hF (b := ((p0.Op == 12) || (p0.Op == 14))) rfl (fun hb => ?_) (fun hb => ?_))
     · replace h := iteT hb h
       refine wp_seq (region_b [] [true, false, true, true, true, false, true, true, true]
           [.eq (B b1 1), .eq (I p0.A), .eq (.bool (p0.A == 0)), .eq (.bool (p0.A == 0)), .eq (B b1 2), .eq (I p0.B), .eq (.bool (p0.B == 0)), .eq (.bool ((p0.A == 0) && (p0.B == 0))), .eq (.bool ((p0.A == 0) && (p0.B == 0)))]
           [(6, .bool ((p0.A == 0) && (p0.B == 0)))] mix hF (by kernel_rfl) (by kernel_rfl) (by kernel_rfl) ⟨Pd.mono_eq, Pd.mono_eq, trivial⟩ (fun hG => ⟨np_loadBox hG hF ty3 rfl rfl (hs.bx 0 rfl) rfl rfl rfl, np_loadBox hG hF ty3 rfl rfl (hs.bx 0 rfl) rfl rfl rfl, trivial⟩) (by kernel_rfl) fun fr w9 hF hE hc => then_normal ?_)
       have hs := hs.ext hc
       have hM0 := hM0.ext hc
       have hs : Sep [] w9 S1 := Sep.pick [] hs (by decide) rfl
       obtain rfl := Option.some.inj h
       exact wp_ret (blk_ret (then_ret (ret1 rfl hF rfl ⟨_, rfl, rfl, hM0.chg⟩)))
     replace h := iteF hb h
     have hs : Sep [] w2 S1 := Sep.pick [] hs (by decide) rfl
     refine (wp_skip ?_)
     refine blk_normal (then_normal ?_)
     refine wp_seq (wp_pure [(6, .bool false)] hF (by kernel_rfl) fun fr hF => then_normal ?_)
     obtain rfl := Option.some.inj h
     exact wp_ret (ret1 rfl hF rfl ⟨_, rfl, rfl, hM0.chg⟩)
   replace h := iteF hb h
   refine wp_seq (wp_pure [(3, B b1 0), (7, .bool ((decide (p0.B ≥ 0)) && (decide (p0.B ≤ p2)))), (37, I p0.Op), (61, .bool (p0.Op == 5))] hF (by kernel_rfl) fun fr hF => then_normal ?_)
   refine (wp_if hF (b := (p0.Op == 5)) rfl (fun hb => ?_) (fun hb => ?_))
   · replace h := iteT hb h
     refine (wp_skip (then_normal ?_))
     refine (wp_if hF (b := (p0.Op == 5)) rfl (fun hb => ?_) (fun hb => ?_))
     · replace h := iteT hb h
       obtain ⟨x10, hx10, h⟩ := bindE h
       refine wp_seq (region_b [] [true, false, false, true, true, false, true, true, true]
           [.eq (B b1 1), .eq (I p0.A), .eq (.bool x10), .eq (.bool x10), .eq (B b1 2), .eq (I p0.B), .eq (.bool (p0.B == 0)), .eq (.bool (x10 && (p0.B == 0))), .eq (.bool (x10 && (p0.B == 0)))]
           [(6, .bool (x10 && (p0.B == 0)))] mix hF (by kernel_rfl) (by kernel_rfl) (by kernel_rfl) ⟨Pd.mono_eq, Pd.mono_eq, Pd.mono_eq, trivial⟩ (fun hG => ⟨np_loadBox hG hF ty3 rfl rfl (hs.bx 0 rfl) rfl rfl rfl, np_call [I p0.A] hG hF Tryz.call63 rfl rfl (fun w hC hg => (impl_isReg_ok p0.A hx10).mono fun e w' ⟨v, he, hv, hc⟩ => ⟨v, he, hc, hv⟩), np_loadBox hG hF ty3 rfl rfl (hs.bx 0 rfl) rfl rfl rfl, trivial⟩) (by kernel_rfl) fun fr w10 hF hE hc => then_normal ?_)
       have hs := hs.ext hc
       have hM0 := hM0.ext hc
       have hs : Sep [] w10 S1 := Sep.pick [] hs (by decide) rfl
       obtain rfl := Option.some.inj h
       exact wp_ret (blk_ret (then_ret (ret1 rfl hF rfl ⟨_, rfl, rfl, hM0.chg⟩)))
     replace h := iteF hb h
     refine wp_seq ?_
     refine wp_seq (wp_pure [(3, B b1 0), (7, .bool ((decide (p0.B ≥ 0)) && (decide (p0.B ≤ p2)))), (37, I p0.Op), (74, .bool (p0.Op == 9))] hF (by kernel_rfl) fun fr hF => then_normal ?_)
     refine (wp_merge [(3, B b1 0), (7, .bool ((decide (p0.B ≥ 0)) && (decide (p0.B ≤ p2)))), (37, I p0.Op), (74, .bool ((p0.Op == 9) || (p0.Op == 11)))] hF (b := (p0.Op == 9)) rfl (fun hb => ?_) (fun hb => ?_) fun fr hF => then_normal ?_)
     · exact wp_skip ⟨rfl, rfl, (hF.sub [(3, B b1 0), (7, .bool ((decide (p0.B ≥ 0)) && (decide (p0.B ≤ p2)))), (37, I p0.Op), (74, .bool (p0.Op == 9))] (by kernel_rfl)).eqs (by first | (simp only [hb]; done) | (simp only [hb]; rfl))⟩
     · exact wp_pure [(3, B b1 0), (7, .bool ((decide (p0.B ≥ 0)) && (decide (p0.B ≤ p2)))), (37, I p0.Op), (74, .bool (p0.Op == 11))] hF (by kernel_rfl) fun fr hF => ⟨rfl, rfl, hF.eqs (by first | (simp only [hb]; done) | (simp only [hb]; rfl))⟩
     refine (wp_if hF (b := ((p0.Op == 9) || (p0.Op == 11))) rfl (fun hb => ?_) (fun hb => ?_))
     · replace h := iteT hb h
       refine wp_seq (region_b [] [true, false, true, true, true, true, true]
           [.eq (B b1 1), .eq (I p0.A), .eq (.bool (p0.A == 0)), .eq (.bool (p0.A == 0)), .eq (.bool ((decide (p0.B ≥ 0)) && (decide (p0.B ≤ p2)))), .eq (.bool ((p0.A == 0) && ((decide (p0.B ≥ 0)) && (decide (p0.B ≤ p2))))), .eq (.bool ((p0.A == 0) && ((decide (p0.B ≥ 0)) && (decide (p0.B ≤ p2)))))]
           [(6, .bool ((p0.A == 0) && ((decide (p0.B ≥ 0)) && (decide (p0.B ≤ p2)))))] mix hF (by kernel_rfl) (by kernel_rfl) (by kernel_rfl) ⟨Pd.mono_eq, trivial⟩ (fun hG => ⟨np_loadBox hG hF ty3 rfl rfl (hs.bx 0 rfl) rfl rfl rfl, trivial⟩) (by kernel_rfl) fun fr w11 hF hE hc => then_normal ?_)
       have hs := hs.ext hc
       have hM0 := hM0.ext hc
       have hs : Sep [] w11 S1 := Sep.pick [] hs (by decide) rfl
       obtain rfl := Option.some.inj h
       exact wp_ret (blk_ret (then_ret (ret1 rfl hF rfl ⟨_, rfl, rfl, hM0.chg⟩)))
     replace h := iteF hb h
     refine wp_seq (wp_pure [(3, B b1 0), (7, .bool ((decide (p0.B ≥ 0)) && (decide (p0.B ≤ p2)))), (37, I p0.Op), (83, .bool (p0.Op == 10))] hF (by kernel_rfl) fun fr hF => then_normal ?_)
     refine (wp_if hF (b := (p0.Op == 10)) rfl (fun hb => ?_) (fun hb => ?_))
     · replace h := iteT hb h
       obtain ⟨x11, hx11, h⟩ := bindE h
       refine wp_seq (region_b [] [true, false, false, true, true, true, true]
           [.eq (B b1 1), .eq (I p0.A), .eq (.bool x11), .eq (.bool x11), .eq (.bool ((decide (p0.B ≥ 0)) && (decide (p0.B ≤ p2)))), .eq (.bool (x11 && ((decide (p0.B ≥ 0)) && (decide (p0.B ≤ p2))))), .eq (.bool (x11 && ((decide (p0.B ≥ 0)) && (decide (p0.B ≤ p2)))))]
           [(6, .bool (x11 && ((decide (p0.B ≥ 0)) && (decide (p0.B ≤ p2)))))] mix hF (by kernel_rfl) (by kernel_rfl) (by kernel_rfl) ⟨Pd.mono_eq, Pd.mono_eq, trivial⟩ (fun hG => ⟨np_loadBox hG hF ty3 rfl rfl (hs.bx 0 rfl) rfl rfl rfl, np_call [I p0.A] hG hF Tryz.call63 rfl rfl (fun w hC hg => (impl_isReg_ok p0.A hx11).mono fun e w' ⟨v, he, hv, hc⟩ => ⟨v, he, hc, hv⟩), trivial⟩) (by kernel_rfl) fun fr w12 hF hE hc => then_normal ?_)
       have hs := hs.ext hc
       have hM0 := hM0.ext hc
       have hs : Sep [] w12 S1 := Sep.pick [] hs (by decide) rfl
       obtain rfl := Option.some.inj h
       exact wp_ret (blk_ret (then_ret (ret1 rfl hF rfl ⟨_, rfl, rfl, hM0.chg⟩)))
     replace h := iteF hb h
     refine wp_seq ?_
     refine wp_seq (wp_pure [(3, B b1 0), (37, I p0.Op), (91, .bool (p0.Op == 12))] hF (by kernel_rfl) fun fr hF => then_normal ?_)
     refine (wp_merge [(3, B b1 0), (91, .bool ((p0.Op == 12) || (p0.Op == 14)))] hF (b := (p0.Op == 12)) rfl (fun hb => ?_) (fun hb => ?_) fun fr hF => then_normal ?_)
     · exact wp_skip ⟨rfl, rfl, (hF.sub [(3, B b1 0), (91, .bool (p0.Op == 12))] (by kernel_rfl)).eqs (by first | (simp only [hb]; done) | (simp only [hb]; rfl))⟩
     · exact wp_pure [(3, B b1 0), (91, .bool (p0.Op == 14))] hF (by kernel_rfl) fun fr hF => ⟨rfl, rfl, hF.eqs (by first | (simp only [hb]; done) | (simp only [hb]; rfl))⟩
     refine (wp_if hF (b := ((p0.Op == 12) || (p0.Op == 14))) rfl (fun hb => ?_) (fun hb => ?_))
     · replace h := iteT hb h
       refine wp_seq (region_b [] [true, false, true, true, true, false, true, true, true]
           [.eq (B b1 1), .eq (I p0.A), .eq (.bool (p0.A == 0)), .eq (.bool (p0.A == 0)), .eq (B b1 2), .eq (I p0.B), .eq (.bool (p0.B == 0)), .eq (.bool ((p0.A == 0) && (p0.B == 0))), .eq (.bool ((p0.A == 0) && (p0.B == 0)))]
           [(6, .bool ((p0.A == 0) && (p0.B == 0)))] mix hF (by kernel_rfl) (by kernel_rfl) (by kernel_rfl) ⟨Pd.mono_eq, Pd.mono_eq, trivial⟩ (fun hG => ⟨np_loadBox hG hF ty3 rfl rfl (hs.bx 0 rfl) rfl rfl rfl, np_loadBox hG hF ty3 rfl rfl (hs.bx 0 rfl) rfl rfl rfl, trivial⟩) (by kernel_rfl) fun fr w13 hF hE hc => then_normal ?_)
       have hs := hs.ext hc
       have hM0 := hM0.ext hc
       have hs : Sep [] w13 S1 := Sep.pick [] hs (by decide) rfl
       obtain rfl := Option.some.inj h
       exact wp_ret (blk_ret (then_ret (ret1 rfl hF rfl ⟨_, rfl, rfl, hM0.chg⟩)))
     replace h := iteF hb h
     have hs : Sep [] w2 S1 := Sep.pick [] hs (by decide) rfl
     refine (wp_skip ?_)
     refine blk_normal (then_normal ?_)
     refine wp_seq (wp_pure [(6, .bool false)] hF (by kernel_rfl) fun fr hF => then_normal ?_)
     obtain rfl := Option.some.inj h
     exact wp_ret (ret1 rfl hF rfl ⟨_, rfl, rfl, hM0.chg⟩)
   replace h := iteF hb h
   refine wp_seq (wp_pure [(3, B b1 0), (7, .bool ((decide (p0.B ≥ 0)) && (decide (p0.B ≤ p2)))), (37, I p0.Op), (61, .bool (p0.Op == 6))] hF (by kernel_rfl) fun fr hF => then_normal ?_)
   refine (wp_merge [(3, B b1 0), (7, .bool ((decide (p0.B ≥ 0)) && (decide (p0.B ≤ p2)))), (37, I p0.Op), (61, .bool ((p0.Op == 6) || (p0.Op == 13)))] hF (b := (p0.Op == 6)) rfl (fun hb => ?_) (fun hb => ?_) fun fr hF => then_normal ?_)
   · exact wp_skip ⟨rfl, rfl, (hF.sub [(3, B b1 0), (7, .bool ((decide (p0.B ≥ 0)) && (decide (p0.B ≤ p2)))), (37, I p0.Op), (61, .bool (p0.Op == 6))] (by kernel_rfl)).eqs (by first | (simp only [hb]; done) | (simp only [hb]; rfl))⟩
   · exact wp_pure [(3, B b1 0), (7, .bool ((decide (p0.B ≥ 0)) && (decide (p0.B ≤ p2)))), (37, I p0.Op), (61, .bool (p0.Op == 13))] hF (by kernel_rfl) fun fr hF => ⟨rfl, rfl, hF.eqs (by first | (simp only [hb]; done) | (simp only [hb]; rfl))⟩
   refine (wp_if hF (b := ((p0.Op == 6) || (p0.Op == 13))) rfl (fun hb => ?_) (fun hb => ?_))
   · replace h := iteT hb h
     obtain ⟨x12, hx12, h⟩ := bindE h
     refine wp_seq (region_b [] [true, false, false, true, true, false, true, true, true]
         [.eq (B b1 1), .eq (I p0.A), .eq (.bool x12), .eq (.bool x12), .eq (B b1 2), .eq (I p0.B), .eq (.bool (p0.B == 0)), .eq (.bool (x12 && (p0.B == 0))), .eq (.bool (x12 && (p0.B == 0)))]
         [(6, .bool (x12 && (p0.B == 0)))] mix hF (by kernel_rfl) (by kernel_rfl) (by kernel_rfl) ⟨Pd.mono_eq, Pd.mono_eq, Pd.mono_eq, trivial⟩ (fun hG => ⟨np_loadBox hG hF ty3 rfl rfl (hs.bx 0 rfl) rfl rfl rfl, np_call [I p0.A] hG hF Tryz.call63 rfl rfl (fun w hC hg => (impl_isReg_ok p0.A hx12).mono fun e w' ⟨v, he, hv, hc⟩ => ⟨v, he, hc, hv⟩), np_loadBox hG hF ty3 rfl rfl (hs.bx 0 rfl) rfl rfl rfl, trivial⟩) (by kernel_rfl) fun fr w14 hF hE hc => then_normal ?_)
     have hs := hs.ext hc
     have hM0 := hM0.ext hc
     have hs : Sep [] w14 S1 := Sep.pick [] hs (by decide) rfl
     obtain rfl := Option.some.inj h
     exact wp_ret (blk_ret (then_ret (ret1 rfl hF rfl ⟨_, rfl, rfl, hM0.chg⟩)))
   replace h := iteF hb h
   refine wp_seq ?_
   refine wp_seq (wp_pure [(3, B b1 0), (7, .bool ((decide (p0.B ≥ 0)) && (decide (p0.B ≤ p2)))), (37, I p0.Op), (74, .bool (p0.Op == 9))] hF (by kernel_rfl) fun fr hF => then_normal ?_)
   refine (wp_merge [(3, B b1 0), (7, .bool ((decide (p0.B ≥ 0)) && (decide (p0.B ≤ p2)))), (37, I p0.Op), (74, .bool ((p0.Op == 9) || (p0.Op == 11)))] hF (b := (p0.Op == 9)) rfl (fun hb => ?_) (fun hb => ?_) fun fr hF => then_normal ?_)
   · exact wp_skip ⟨rfl, rfl, (hF.sub [(3, B b1 0), (7, .bool ((decide (p0.B ≥ 0)) && (decide (p0.B ≤ p2)))), (37, I p0.Op), (74, .bool (p0.Op == 9))] (by kernel_rfl)).eqs (by first | (simp only [hb]; done) | (simp only [hb]; rfl))⟩
   · exact wp_pure [(3, B b1 0), (7, .bool ((decide (p0.B ≥ 0)) && (decide (p0.B ≤ p2)))), (37, I p0.Op), (74, .bool (p0.Op == 11))] hF (by kernel_rfl) fun fr hF => ⟨rfl, rfl, hF.eqs (by first | (simp only [hb]; done) | (simp only [hb]; rfl))⟩
   refine (wp_if hF (b := ((p0.Op == 9) || (p0.Op == 11))) rfl (fun hb => ?_) (fun hb => ?_))
   · replace h := iteT hb h
     refine wp_seq (region_b [] [true, false, true, true, true, true, true]
         [.eq (B b1 1), .eq (I p0.A), .eq (.bool (p0.A == 0)), .eq (.bool (p0.A == 0)), .eq (.bool ((decide (p0.B ≥ 0)) && (decide (p0.B ≤ p2)))), .eq (.bool ((p0.A == 0) && ((decide (p0.B ≥ 0)) && (decide (p0.B ≤ p2))))), .eq (.bool ((p0.A == 0) && ((decide (p0.B ≥ 0)) && (decide (p0.B ≤ p2)))))]
         [(6, .bool ((p0.A == 0) && ((decide (p0.B ≥ 0)) && (decide (p0.B ≤ p2)))))] mix hF (by kernel_rfl) (by kernel_rfl) (by kernel_rfl) ⟨Pd.mono_eq, trivial⟩ (fun hG => ⟨np_loadBox hG hF ty3 rfl rfl (hs.bx 0 rfl) rfl rfl rfl, trivial⟩) (by kernel_rfl) fun fr w15 hF hE hc => then_normal ?_)
     have hs := hs.ext hc
     have hM0 := hM0.ext hc
     have hs : Sep [] w15 S1 := Sep.pick [] hs (by decide) rfl
     obtain rfl := Option.some.inj h
     exact wp_ret (blk_ret (then_ret (ret1 rfl hF rfl ⟨_, rfl, rfl, hM0.chg⟩)))
   replace h := iteF hb h
   refine wp_seq (wp_pure [(3, B b1 0), (7, .bool ((decide (p0.B ≥ 0)) && (decide (p0.B ≤ p2)))), (37, I p0.Op), (83, .bool (p0.Op == 10))] hF (by kernel_rfl) fun fr hF => then_normal ?_)
   refine (wp_if hF (b := (p0.Op == 10)) rfl (fun hb => ?_) (fun hb => ?_))
   · replace h := iteT hb h
     obtain ⟨x13, hx13, h⟩ := bindE h
     refine wp_seq (region_b [] [true, false, false, true, true, true, true]
         [.eq (B b1 1), .eq (I p0.A), .eq (.bool x13), .eq (.bool x13), .eq (.bool ((decide (p0.B ≥ 0)) && (decide (p0.B ≤ p2)))), .eq (.bool (x13 && ((decide (p0.B ≥ 0)) && (decide (p0.B ≤ p2))))), .eq (.bool (x13 && ((decide (p0.B ≥ 0)) && (decide (p0.B ≤ p2)))))]
         [(6, .bool (x13 && ((decide (p0.B ≥ 0)) && (decide (p0.B ≤ p2)))))] mix hF (by kernel_rfl) (by kernel_rfl) (by kernel_rfl) ⟨Pd.mono_eq, Pd.mono_eq, trivial⟩ (fun hG => ⟨np_loadBox hG hF ty3 rfl rfl (hs.bx 0 rfl) rfl rfl rfl, np_call [I p0.A] hG hF Tryz.call63 rfl rfl (fun w hC hg => (impl_isReg_ok p0.A hx13).mono fun e w' ⟨v, he, hv, hc⟩ => ⟨v, he, hc, hv⟩), trivial⟩) (by kernel_rfl) fun fr w16 hF hE hc => then_normal ?_)
     have hs := hs.ext hc
     have hM0 := hM0.ext hc
     have hs : Sep [] w16 S1 := Sep.pick [] hs (by decide) rfl
     obtain rfl := Option.some.inj h
     exact wp_ret (blk_ret (then_ret (ret1 rfl hF rfl ⟨_, rfl, rfl, hM0.chg⟩)))
   replace h := iteF hb h
   refine wp_seq ?_
   refine wp_seq (wp_pure [(3, B b1 0), (37, I p0.Op), (91, .bool (p0.Op == 12))] hF (by kernel_rfl) fun fr hF => then_normal ?_)
   refine (wp_merge [(3, B b1 0), (91, .bool ((p0.Op == 12) || (p0.Op == 14)))] hF (b := (p0.Op == 12)) rfl (fun hb => ?_) (fun hb => ?_) fun fr hF => then_normal ?_)
   · exact wp_skip ⟨rfl, rfl, (hF.sub [(3, B b1 0), (91, .bool (p0.Op == 12))] (by kernel_rfl)).eqs (by first | (simp only [hb]; done) | (simp only [hb]; rfl))⟩
   · exact wp_pure [(3, B b1 0), (91, .bool (p0.Op == 14))] hF (by kernel_rfl) fun fr hF => ⟨rfl, rfl, hF.eqs (by first | (simp only [hb]; done) | (simp only [hb]; rfl))⟩
   refine (wp_if hF (b := ((p0.Op == 12) || (p0.Op == 14))) rfl (fun hb => ?_) (fun hb => ?_))
   · replace h := iteT hb h
     refine wp_seq (region_b [] [true, false, true, true, true, false, true, true, true]
         [.eq (B b1 1), .eq (I p0.A), .eq (.bool (p0.A == 0)), .eq (.bool (p0.A == 0)), .eq (B b1 2), .eq (I p0.B), .eq (.bool (p0.B == 0)), .eq (.bool ((p0.A == 0) && (p0.B == 0))), .eq (.bool ((p0.A == 0) && (p0.B == 0)))]
         [(6, .bool ((p0.A == 0) && (p0.B == 0)))] mix hF (by kernel_rfl) (by kernel_rfl) (by kernel_rfl) ⟨Pd.mono_eq, Pd.mono_eq, trivial⟩ (fun hG => ⟨np_loadBox hG hF ty3 rfl rfl (hs.bx 0 rfl) rfl rfl rfl, np_loadBox hG hF ty3 rfl rfl (hs.bx 0 rfl) rfl rfl rfl, trivial⟩) (by kernel_rfl) fun fr w17 hF hE hc => then_normal ?_)
     have hs := hs.ext hc
     have hM0 := hM0.ext hc
     have hs : Sep [] w17 S1 := Sep.pick [] hs (by decide) rfl
     obtain rfl := Option.some.inj h
     exact wp_ret (blk_ret (then_ret (ret1 rfl hF rfl ⟨_, rfl, rfl, hM0.chg⟩)))
   replace h := iteF hb h
   have hs : Sep [] w2 S1 := Sep.pick [] hs (by decide) rfl
   refine (wp_skip ?_)
   refine blk_normal (then_normal ?_)
   refine wp_seq (wp_pure [(6, .bool false)] hF (by kernel_rfl) fun fr hF => then_normal ?_)
   obtain rfl := Option.some.inj h
   exact wp_ret (ret1 rfl hF rfl ⟨_, rfl, rfl, hM0.chg⟩)
 replace h := iteF hb h
 refine wp_seq (wp_pure [(3, B b1 0), (7, .bool ((decide (p0.B ≥ 0)) && (decide (p0.B ≤ p2)))), (37, I p0.Op), (49, .bool (p0.Op == 7))] hF (by kernel_rfl) fun fr hF => then_normal ?_)
 refine (wp_merge [(3, B b1 0), (7, .bool ((decide (p0.B ≥ 0)) && (decide (p0.B ≤ p2)))), (37, I p0.Op), (49, .bool ((p0.Op == 7) || (p0.Op == 8)))] hF (b := (p0.Op == 7)) rfl (fun hb => ?_) (fun hb => ?_) fun fr hF => then_normal ?_)
 · exact wp_skip ⟨rfl, rfl, (hF.sub [(3, B b1 0), (7, .bool ((decide (p0.B ≥ 0)) && (decide (p0.B ≤ p2)))), (37, I p0.Op), (49, .bool (p0.Op == 7))] (by kernel_rfl)).eqs (by first | (simp only [hb]; done) | (simp only [hb]; rfl))⟩
 · exact wp_pure [(3, B b1 0), (7, .bool ((decide (p0.B ≥ 0)) && (decide (p0.B ≤ p2)))), (37, I p0.Op), (49, .bool (p0.Op == 8))] hF (by kernel_rfl) fun fr hF => ⟨rfl, rfl, hF.eqs (by first | (simp only [hb]; done) | (simp only [hb]; rfl))⟩
 refine (wp_if hF (b := ((p0.Op == 7) || (p0.Op == 8))) rfl (fun hb => ?_) (fun hb => ?_))
 · replace h := iteT hb h
   obtain ⟨x14, hx14, h⟩ := bindE h
   obtain ⟨x15, hx15, h⟩ := bindE h
   refine wp_seq (region_b [] [true, false, false, true, true, false, false, true, true]
       [.eq (B b1 1), .eq (I p0.A), .eq (.bool x14), .eq (.bool x14), .eq (B b1 2), .eq (I p0.B), .eq (.bool x15), .eq (.bool (x14 && x15)), .eq (.bool (x14 && x15))]
       [(6, .bool (x14 && x15))] mix hF (by kernel_rfl) (by kernel_rfl) (by kernel_rfl) ⟨Pd.mono_eq, Pd.mono_eq, Pd.mono_eq, Pd.mono_eq, trivial⟩ (fun hG => ⟨np_loadBox hG hF ty3 rfl rfl (hs.bx 0 rfl) rfl rfl rfl, np_call [I p0.A] hG hF Tryz.call63 rfl rfl (fun w hC hg => (impl_isReg_ok p0.A hx14).mono fun e w' ⟨v, he, hv, hc⟩ => ⟨v, he, hc, hv⟩), np_loadBox hG hF ty3 rfl rfl (hs.bx 0 rfl) rfl rfl rfl, np_call [I p0.B] hG hF Tryz.call63 rfl rfl (fun w hC hg => (impl_isReg_ok p0.B (iteT hg.2 hx15)).mono fun e w' ⟨v, he, hv, hc⟩ => ⟨v, he, hc, hv⟩), trivial⟩) (by kernel_rfl) fun fr w18 hF hE hc => then_normal ?_)
   have hs := hs.ext hc
   have hM0 := hM0.ext hc
   have hs : Sep [] w18 S1 := Sep.pick [] hs (by decide) rfl
   obtain rfl := Option.some.inj h
   exact wp_ret (blk_ret (then_ret (ret1 rfl hF rfl ⟨_, rfl, rfl, hM0.chg⟩)))
 replace h := iteF hb h
 refine wp_seq ?_
 refine wp_seq (wp_pure [(3, B b1 0), (7, .bool ((decide (p0.B ≥ 0)) && (decide (p0.B ≤ p2)))), (37, I p0.Op), (61, .bool (p0.Op == 4))] hF (by kernel_rfl) fun fr hF => then_normal ?_)
 refine (wp_if hF (b := (p0.Op == 4)) rfl (fun hb => ?_) (fun hb => ?_))
 · replace h := iteT hb h
   refine (wp_skip (then_normal ?_))
   refine (wp_if hF (b := (p0.Op == 4)) rfl (fun hb => ?_) (fun hb => ?_))
   · replace h := iteT hb h
     obtain ⟨x16, hx16, h⟩ := bindE h
     refine wp_seq (region_b [] [true, false, false, true, true, false, true, true, true]
         [.eq (B b1 1), .eq (I p0.A), .eq (.bool x16), .eq (.bool x16), .eq (B b1 2), .eq (I p0.B), .eq (.bool (p0.B == 0)), .eq (.bool (x16 && (p0.B == 0))), .eq (.bool (x16 && (p0.B == 0)))]
         [(6, .bool (x16 && (p0.B == 0)))] mix hF (by kernel_rfl) (by kernel_rfl) (by kernel_rfl) ⟨Pd.mono_eq, Pd.mono_eq, Pd.mono_eq, trivial⟩ (fun hG => ⟨np_loadBox hG hF ty3 rfl rfl (hs.bx 0 rfl) rfl rfl rfl, np_call [I p0.A] hG hF Tryz.call63 rfl rfl (fun w hC hg => (impl_isReg_ok p0.A hx16).mono fun e w' ⟨v, he, hv, hc⟩ => ⟨v, he, hc, hv⟩), np_loadBox hG hF ty3 rfl rfl (hs.bx 0 rfl) rfl rfl rfl, trivial⟩) (by kernel_rfl) fun fr w19 hF hE hc => then_normal ?_)
     have hs := hs.ext hc
     have hM0 := hM0.ext hc
     have hs : Sep [] w19 S1 := Sep.pick [] hs (by decide) rfl
     obtain rfl := Option.some.inj h
     exact wp_ret (blk_ret (then_ret (ret1 rfl hF rfl ⟨_, rfl, rfl, hM0.chg⟩)))
   replace h := iteF hb h
   refine wp_seq ?_
   refine wp_seq (wp_pure [(3, B b1 0), (7, .bool ((decide (p0.B ≥ 0)) && (decide (p0.B ≤ p2)))), (37, I p0.Op), (74, .bool (p0.Op == 9))] hF (by kernel_rfl) fun fr hF => then_normal ?_)
   refine (wp_merge [(3, B b1 0), (7, .bool ((decide (p0.B ≥ 0)) && (decide (p0.B ≤ p2)))), (37, I p0.Op), (74, .bool ((p0.Op == 9) || (p0.Op == 11)))] hF (b := (p0.Op == 9)) rfl (fun hb => ?_) (fun hb => ?_) fun fr hF => then_normal ?_)
   · exact wp_skip ⟨rfl, rfl, (hF.sub [(3, B b1 0), (7, .bool ((decide (p0.B ≥ 0)) && (decide (p0.B ≤ p2)))), (37, I p0.Op), (74, .bool (p0.Op == 9))] (by kernel_rfl)).eqs (by first | (simp only [hb]; done) | (simp only [hb]; rfl))⟩
   · exact wp_pure [(3, B b1 0), (7, .bool ((decide (p0.B ≥ 0)) && (decide (p0.B ≤ p2)))), (37, I p0.Op), (74, .bool (p0.Op == 11))] hF (by kernel_rfl) fun fr hF => ⟨rfl, rfl, hF.eqs (by first | (simp only [hb]; done) | (simp only [hb]; rfl))⟩
   refine (wp_if hF (b := ((p0.Op == 9) || (p0.Op == 11))) rfl (fun hb => ?_) (fun hb => ?_))
   · replace h := iteT hb h
     refine wp_seq (region_b [] [true, false, true, true, true, true, true]
         [.eq (B b1 1), .eq (I p0.A), .eq (.bool (p0.A == 0)), .eq (.bool (p0.A == 0)), .eq (.bool ((decide (p0.B ≥ 0)) && (decide (p0.B ≤ p2)))), .eq (.bool ((p0.A == 0) && ((decide (p0.B ≥ 0)) && (decide (p0.B ≤ p2))))), .eq (.bool ((p0.A == 0) && ((decide (p0.B ≥ 0)) && (decide (p0.B ≤ p2)))))]
         [(6, .bool ((p0.A == 0) && ((decide (p0.B ≥ 0)) && (decide (p0.B ≤ p2)))))] mix hF (by kernel_rfl) (by kernel_rfl) (by kernel_rfl) ⟨Pd.mono_eq, trivial⟩ (fun hG => ⟨np_loadBox hG hF ty3 rfl rfl (hs.bx 0 rfl) rfl rfl rfl, trivial⟩) (by kernel_rfl) fun fr w20 hF hE hc => then_normal ?_)
     have hs := hs.ext hc
     have hM0 := hM0.ext hc
     have hs : Sep [] w20 S1 := Sep.pick [] hs (by decide) rfl
     obtain rfl := Option.some.inj h
     exact wp_ret (blk_ret (then_ret (ret1 rfl hF rfl ⟨_, rfl, rfl, hM0.chg⟩)))
   replace h := iteF hb h
   refine wp_seq (wp_pure [(3, B b1 0), (7, .bool ((decide (p0.B ≥ 0)) && (decide (p0.B ≤ p2)))), (37, I p0.Op), (83, .bool (p0.Op == 10))] hF (by kernel_rfl) fun fr hF => then_normal ?_)
   refine (wp_if hF (b := (p0.Op == 10)) rfl (fun hb => ?_) (fun hb => ?_))
   · replace h := iteT hb h
     obtain ⟨x17, hx17, h⟩ := bindE h
     refine wp_seq (region_b [] [true, false, false, true, true, true, true]
         [.eq (B b1 1), .eq (I p0.A), .eq (.bool x17), .eq (.bool x17), .eq (.bool ((decide (p0.B ≥ 0)) && (decide (p0.B ≤ p2)))), .eq (.bool (x17 && ((decide (p0.B ≥ 0)) && (decide (p0.B ≤ p2))))), .eq (.bool (x17 && ((decide (p0.B ≥ 0)) && (decide (p0.B ≤ p2)))))]
         [(6, .bool (x17 && ((decide (p0.B ≥ 0)) && (decide (p0.B ≤ p2)))))] mix hF (by kernel_rfl) (by kernel_rfl) (by kernel_rfl) ⟨Pd.mono_eq, Pd.mono_eq, trivial⟩ (fun hG => ⟨np_loadBox hG hF ty3 rfl rfl (hs.bx 0 rfl) rfl rfl rfl, np_call [I p0.A] hG hF Tryz.call63 rfl rfl (fun w hC hg => (impl_isReg_ok p0.A hx17).mono fun e w' ⟨v, he, hv, hc⟩ => ⟨v, he, hc, hv⟩), trivial⟩) (by kernel_rfl) fun fr w21 hF hE hc => then_normal ?_)
     have hs := hs.ext hc
     have hM0 := hM0.ext hc
     have hs : Sep [] w21 S1 := Sep.pick [] hs (by decide) rfl
     obtain rfl := Option.some.inj h
     exact wp_ret (blk_ret (then_ret (ret1 rfl hF rfl ⟨_, rfl, rfl, hM0.chg⟩)))
   replace h := iteF hb h
   refine wp_seq ?_
   refine wp_seq (wp_pure [(3, B b1 0), (37, I p0.Op), (91, .bool (p0.Op == 12))] hF (by kernel_rfl) fun fr hF => then_normal ?_)
   refine (wp_merge [(3, B b1 0), (91, .bool ((p0.Op == 12) || (p0.Op == 14)))] hF (b := (p0.Op == 12)) rfl (fun hb => ?_) (fun hb => ?_) fun fr hF => then_normal ?_)
   · exact wp_skip ⟨rfl, rfl, (hF.sub [(3, B b1 0), (91, .bool (p0.Op == 12))] (by kernel_rfl)).eqs (by first | (simp only [hb]; done) | (simp only [hb]; rfl))⟩
   · exact wp_pure [(3, B b1 0), (91, .bool (p0.Op == 14))] hF (by kernel_rfl) fun fr hF => ⟨rfl, rfl, hF.eqs (by first | (simp only [hb]; done) | (simp only [hb]; rfl))⟩
   refine (wp_if hF (b := ((p0.Op == 12) || (p0.Op == 14))) rfl (fun hb => ?_) (fun hb => ?_))
   · replace h := iteT hb h
     refine wp_seq (region_b [] [true, false, true, true, true, false, true, true, true]
         [.eq (B b1 1), .eq (I p0.A), .eq (.bool (p0.A == 0)), .eq (.bool (p0.A == 0)), .eq (B b1 2), .eq (I p0.B), .eq (.bool (p0.B == 0)), .eq (.bool ((p0.A == 0) && (p0.B == 0))), .eq (.bool ((p0.A == 0) && (p0.B == 0)))]
         [(6, .bool ((p0.A == 0) && (p0.B == 0)))] mix hF (by kernel_rfl) (by kernel_rfl) (by kernel_rfl) ⟨Pd.mono_eq, Pd.mono_eq, trivial⟩ (fun hG => ⟨np_loadBox hG hF ty3 rfl rfl (hs.bx 0 rfl) rfl rfl rfl, np_loadBox hG hF ty3 rfl rfl (hs.bx 0 rfl) rfl rfl rfl, trivial⟩) (by kernel_rfl) fun fr w22 hF hE hc => then_normal ?_)
     have hs := hs.ext hc
     have hM0 := hM0.ext hc
     have hs : Sep [] w22 S1 := Sep.pick [] hs (by decide) rfl
     obtain rfl := Option.some.inj h
     exact wp_ret (blk_ret (then_ret (ret1 rfl hF rfl ⟨_, rfl, rfl, hM0.chg⟩)))
   replace h := iteF hb h
   have hs : Sep [] w2 S1 := Sep.pick [] hs (by decide) rfl
   refine (wp_skip ?_)
   refine blk_normal (then_normal ?_)
   refine wp_seq (wp_pure [(6, .bool false)] hF (by kernel_rfl) fun fr hF => then_normal ?_)
   obtain rfl := Option.some.inj h
   exact wp_ret (ret1 rfl hF rfl ⟨_, rfl, rfl, hM0.chg⟩)
 replace h := iteF hb h
 refine wp_seq (wp_pure [(3, B b1 0), (7, .bool ((decide (p0.B ≥ 0)) && (decide (p0.B ≤ p2)))), (37, I p0.Op), (61, .bool (p0.Op == 5))] hF (by kernel_rfl) fun fr hF => then_normal ?_)
 refine (wp_if hF (b := (p0.Op == 5)) rfl (fun hb => ?_) (fun hb => ?_))
 · replace h := iteT hb h
   refine (wp_skip (then_normal ?_))
   refine (wp_if hF (b := (p0.Op == 5)) rfl (fun hb => ?_) (fun hb => ?_))
   · replace h := iteT hb h
     obtain ⟨x18, hx18, h⟩ := bindE h
     refine wp_seq (region_b [] [true, false, false, true, true, false, true, true, true]
         [.eq (B b1 1), .eq (I p0.A), .eq (.bool x18), .eq (.bool x18), .eq (B b1 2), .eq (I p0.B), .eq (.bool (p0.B == 0)), .eq (.bool (x18 && (p0.B == 0))), .eq (.bool (x18 && (p0.B == 0)))]
         [(6, .bool (x18 && (p0.B == 0)))] mix hF (by kernel_rfl) (by kernel_rfl) (by kernel_rfl) ⟨Pd.mono_eq, Pd.mono_eq, Pd.mono_eq, trivial⟩ (fun hG => ⟨np_loadBox hG hF ty3 rfl rfl (hs.bx 0 rfl) rfl rfl rfl, np_call [I p0.A] hG hF Tryz.call63 rfl rfl (fun w hC hg => (impl_isReg_ok p0.A hx18).mono fun e w' ⟨v, he, hv, hc⟩ => ⟨v, he, hc, hv⟩), np_loadBox hG hF ty3 rfl rfl (hs.bx 0 rfl) rfl rfl rfl, trivial⟩) (by kernel_rfl) fun fr w23 hF hE hc => then_normal ?_)
     have hs := hs.ext hc
     have hM0 := hM0.ext hc
     have hs : Sep [] w23 S1 := Sep.pick [] hs (by decide) rfl
     obtain rfl := Option.some.inj h
     exact wp_ret (blk_ret (then_ret (ret1 rfl hF rfl ⟨_, rfl, rfl, hM0.chg⟩)))
   replace h := iteF hb h
   refine wp_seq ?_
   refine wp_seq (wp_pure [(3, B b1 0), (7, .bool ((decide (p0.B ≥ 0)) && (decide (p0.B ≤ p2)))), (37, I p0.Op), (74, .bool (p0.Op == 9))] hF (by kernel_rfl) fun fr hF => then_normal ?_)
   refine (wp_merge [(3, B b1 0), (7, .bool ((decide (p0.B ≥ 0)) && (decide (p0.B ≤ p2)))), (37, I p0.Op), (74, .bool ((p0.Op == 9) || (p0.Op == 11)))] hF (b := (p0.Op == 9)) rfl (fun hb => ?_) (fun hb => ?_) fun fr hF => then_normal ?_)
   · exact wp_skip ⟨rfl, rfl, (hF.sub [(3, B b1 0), (7, .bool ((decide (p0.B ≥ 0)) && (decide (p0.B ≤ p2)))), (37, I p0.Op), (74, .bool (p0.Op == 9))] (by kernel_rfl)).eqs (by first | (simp only [hb]; done) | (simp only [hb]; rfl))⟩
   · exact wp_pure [(3, B b1 0), (7, .bool ((decide (p0.B ≥ 0)) && (decide (p0.B ≤ p2)))), (37, I p0.Op), (74, .bool (p0.Op == 11))] hF (by kernel_rfl) fun fr hF => ⟨rfl, rfl, hF.eqs (by first | (simp only [hb]; done) | (simp only [hb]; rfl))⟩
   refine (wp_if hF (b := ((p0.Op == 9) || (p0.Op == 11))) rfl (fun hb => ?_) (fun hb => ?_))
   · replace h := iteT hb h
     refine wp_seq (region_b [] [true, false, true, true, true, true, true]
         [.eq (B b1 1), .eq (I p0.A), .eq (.bool (p0.A == 0)), .eq (.bool (p0.A == 0)), .eq (.bool ((decide (p0.B ≥ 0)) && (decide (p0.B ≤ p2)))), .eq (.bool ((p0.A == 0) && ((decide (p0.B ≥ 0)) && (decide (p0.B ≤ p2))))), .eq (.bool ((p0.A == 0) && ((decide (p0.B ≥ 0)) && (decide (p0.B ≤ p2)))))]
         [(6, .bool ((p0.A == 0) && ((decide (p0.B ≥ 0)) && (decide (p0.B ≤ p2)))))] mix hF (by kernel_rfl) (by kernel_rfl) (by kernel_rfl) ⟨Pd.mono_eq, trivial⟩ (fun hG => ⟨np_loadBox hG hF ty3 rfl rfl (hs.bx 0 rfl) rfl rfl rfl, trivial⟩) (by kernel_rfl) fun fr w24 hF hE hc => then_normal ?_)
     have hs := hs.ext hc
     have hM0 := hM0.ext hc
     have hs : Sep [] w24 S1 := Sep.pick [] hs (by decide) rfl
     obtain rfl := Option.some.inj h
     exact wp_ret (blk_ret (then_ret (ret1 rfl hF rfl ⟨_, rfl, rfl, hM0.chg⟩)))
   replace h := iteF hb h
   refine wp_seq (wp_pure [(3, B b1 0), (7, .bool ((decide (p0.B ≥ 0)) && (decide (p0.B ≤ p2)))), (37, I p0.Op), (83, .bool (p0.Op == 10))] hF (by kernel_rfl) fun fr hF => then_normal ?_)
   refine (wp_if hF (b := (p0.Op == 10)) rfl (fun hb => ?_) (fun hb => ?_))
   · replace h := iteT hb h
     obtain ⟨x19, hx19, h⟩ := bindE h
     refine wp_seq (region_b [] [true, false, false, true, true, true, true]
         [.eq (B b1 1), .eq (I p0.A), .eq (.bool x19), .eq (.bool x19), .eq (.bool ((decide (p0.B ≥ 0)) && (decide (p0.B ≤ p2)))), .eq (.bool (x19 && ((decide (p0.B ≥ 0)) && (decide (p0.B ≤ p2))))), .eq (.bool (x19 && ((decide (p0.B ≥ 0)) && (decide (p0.B ≤ p2)))))]
         [(6, .bool (x19 && ((decide (p0.B ≥ 0)) && (decide (p0.B ≤ p2)))))] mix hF (by kernel_rfl) (by kernel_rfl) (by kernel_rfl) ⟨Pd.mono_eq, Pd.mono_eq, trivial⟩ (fun hG => ⟨np_loadBox hG hF ty3 rfl rfl (hs.bx 0 rfl) rfl rfl rfl, np_call [I p0.A] hG hF Tryz.call63 rfl rfl (fun w hC hg => (impl_isReg_ok p0.A hx19).mono fun e w' ⟨v, he, hv, hc⟩ => ⟨v, he, hc, hv⟩), trivial⟩) (by kernel_rfl) fun fr w25 hF hE hc => then_normal ?_)
     have hs := hs.ext hc
     have hM0 := hM0.ext hc
     have hs : Sep [] w25 S1 := Sep.pick [] hs (by decide) rfl
     obtain rfl := Option.some.inj h
     exact wp_ret (blk_ret (then_ret (ret1 rfl hF rfl ⟨_, rfl, rfl, hM0.chg⟩)))
   replace h := iteF hb h
   refine wp_seq ?_
   refine wp_seq (wp_pure [(3, B b1 0), (37, I p0.Op), (91, .bool (p0.Op == 12))] hF (by kernel_rfl) fun fr hF => then_normal ?_)
   refine (wp_merge [(3, B b1 0), (91, .bool ((p0.Op == 12) || (p0.Op == 14)))] hF (b := (p0.Op == 12)) rfl (fun hb => ?_) (fun hb => ?_) fun fr hF => then_normal ?_)
   · exact wp_skip ⟨rfl, rfl, (hF.sub [(3, B b1 0), (91, .bool (p0.Op == 12))] (by kernel_rfl)).eqs (by first | (simp only [hb]; done) | (simp only [hb]; rfl))⟩
   · exact wp_pure [(3, B b1 0), (91, .bool (p0.Op == 14))] hF (by kernel_rfl) fun fr hF => ⟨rfl, rfl, hF.eqs (by first | (simp only [hb]; done) | (simp only [hb]; rfl))⟩
   refine (wp_if hF (b := ((p0.Op == 12) || (p0.Op == 14))) rfl (fun hb => ?_) (fun hb => ?_))
   · replace h := iteT hb h
     refine wp_seq (region_b [] [true, false, true, true, true, false, true, true, true]
         [.eq (B b1 1), .eq (I p0.A), .eq (.bool (p0.A == 0)), .eq (.bool (p0.A == 0)), .eq (B b1 2), .eq (I p0.B), .eq (.bool (p0.B == 0)), .eq (.bool ((p0.A == 0) && (p0.B == 0))), .eq (.bool ((p0.A == 0) && (p0.B == 0)))]
         [(6, .bool ((p0.A == 0) && (p0.B == 0)))] mix hF (by kernel_rfl) (by kernel_rfl) (by kernel_rfl) ⟨Pd.mono_eq, Pd.mono_eq, trivial⟩ (fun hG => ⟨np_loadBox hG hF ty3 rfl rfl (hs.bx 0 rfl) rfl rfl rfl, np_loadBox hG hF ty3 rfl rfl (hs.bx 0 rfl) rfl rfl rfl, trivial⟩) (by kernel_rfl) fun fr w26 hF hE hc => then_normal ?_)
     have hs := hs.ext hc
     have hM0 := hM0.ext hc
     have hs : Sep [] w26 S1 := Sep.pick [] hs (by decide) rfl
     obtain rfl := Option.some.inj h
     exact wp_ret (blk_ret (then_ret (ret1 rfl hF rfl ⟨_, rfl, rfl, hM0.chg⟩)))
   replace h := iteF hb h
   have hs : Sep [] w2 S1 := Sep.pick [] hs (by decide) rfl
   refine (wp_skip ?_)
   refine blk_normal (then_normal ?_)
   refine wp_seq (wp_pure [(6, .bool false)] hF (by kernel_rfl) fun fr hF => then_normal ?_)
   obtain rfl := Option.some.inj h
   exact wp_ret (ret1 rfl hF rfl ⟨_, rfl, rfl, hM0.chg⟩)
 replace h := iteF hb h
 refine wp_seq (wp_pure [(3, B b1 0), (7, .bool ((decide (p0.B ≥ 0)) && (decide (p0.B ≤ p2)))), (37, I p0.Op), (61, .bool (p0.Op == 6))] hF (by kernel_rfl) fun fr hF => then_normal ?_)
 refine (wp_merge [(3, B b1 0), (7, .bool ((decide (p0.B ≥ 0)) && (decide (p0.B ≤ p2)))), (37, I p0.Op), (61, .bool ((p0.Op == 6) || (p0.Op == 13)))] hF (b := (p0.Op == 6)) rfl (fun hb => ?_) (fun hb => ?_) fun fr hF => then_normal ?_)
 · exact wp_skip ⟨rfl, rfl, (hF.sub [(3, B b1 0), (7, .bool ((decide (p0.B ≥ 0)) && (decide (p0.B ≤ p2)))), (37, I p0.Op), (61, .bool (p0.Op == 6))] (by kernel_rfl)).eqs (by first | (simp only [hb]; done) | (simp only [hb]; rfl))⟩
 · exact wp_pure [(3, B b1 0), (7, .bool ((decide (p0.B ≥ 0)) && (decide (p0.B ≤ p2)))), (37, I p0.Op), (61, .bool (p0.Op == 13))] hF (by kernel_rfl) fun fr hF => ⟨rfl, rfl, hF.eqs (by first | (simp only [hb]; done) | (simp only [hb]; rfl))⟩
 refine (wp_if hF (b := ((p0.Op == 6) || (p0.Op == 13))) rfl (fun hb => ?_) (fun hb => ?_))
 · replace h := iteT hb h
   obtain ⟨x20, hx20, h⟩ := bindE h
   refine wp_seq (region_b [] [true, false, false, true, true, false, true, true, true]
       [.eq (B b1 1), .eq (I p0.A), .eq (.bool x20), .eq (.bool x20), .eq (B b1 2), .eq (I p0.B), .eq (.bool (p0.B == 0)), .eq (.bool (x20 && (p0.B == 0))), .eq (.bool (x20 && (p0.B == 0)))]
       [(6, .bool (x20 && (p0.B == 0)))] mix hF (by kernel_rfl) (by kernel_rfl) (by kernel_rfl) ⟨Pd.mono_eq, Pd.mono_eq, Pd.mono_eq, trivial⟩ (fun hG => ⟨np_loadBox hG hF ty3 rfl rfl (hs.bx 0 rfl) rfl rfl rfl, np_call [I p0.A] hG hF Tryz.call63 rfl rfl (fun w hC hg => (impl_isReg_ok p0.A hx20).mono fun e w' ⟨v, he, hv, hc⟩ => ⟨v, he, hc, hv⟩), np_loadBox hG hF ty3 rfl rfl (hs.bx 0 rfl) rfl rfl rfl, trivial⟩) (by kernel_rfl) fun fr w27 hF hE hc => then_normal ?_)
   have hs := hs.ext hc
   have hM0 := hM0.ext hc
   have hs : Sep [] w27 S1 := Sep.pick [] hs (by decide) rfl
   obtain rfl := Option.some.inj h
   exact wp_ret (blk_ret (then_ret (ret1 rfl hF rfl ⟨_, rfl, rfl, hM0.chg⟩)))
 replace h := iteF hb h
 refine wp_seq ?_
 refine wp_seq (wp_pure [(3, B b1 0), (7, .bool ((decide (p0.B ≥ 0)) && (decide (p0.B ≤ p2)))), (37, I p0.Op), (74, .bool (p0.Op == 9))] hF (by kernel_rfl) fun fr hF => then_normal ?_)
 refine (wp_merge [(3, B b1 0), (7, .bool ((decide (p0.B ≥ 0)) && (decide (p0.B ≤ p2)))), (37, I p0.Op), (74, .bool ((p0.Op == 9) || (p0.Op == 11)))] hF (b := (p0.Op == 9)) rfl (fun hb => ?_) (fun hb => ?_) fun fr hF => then_normal ?_)
 · exact wp_skip ⟨rfl, rfl, (hF.sub [(3, B b1 0), (7, .bool ((decide (p0.B ≥ 0)) && (decide (p0.B ≤ p2)))), (37, I p0.Op), (74, .bool (p0.Op == 9))] (by kernel_rfl)).eqs (by first | (simp only [hb]; done) | (simp only [hb]; rfl))⟩
 · exact wp_pure [(3, B b1 0), (7, .bool ((decide (p0.B ≥ 0)) && (decide (p0.B ≤ p2)))), (37, I p0.Op), (74, .bool (p0.Op == 11))] hF (by kernel_rfl) fun fr hF => ⟨rfl, rfl, hF.eqs (by first | (simp only [hb]; done) | (simp only [hb]; rfl))⟩
 refine (wp_if hF (b := ((p0.Op == 9) || (p0.Op == 11))) rfl (fun hb => ?_) (fun hb => ?_))
 · replace h := iteT hb h
   refine wp_seq (region_b [] [true, false, true, true, true, true, true]
       [.eq (B b1 1), .eq (I p0.A), .eq (.bool (p0.A == 0)), .eq (.bool (p0.A == 0)), .eq (.bool ((decide (p0.B ≥ 0)) && (decide (p0.B ≤ p2)))), .eq (.bool ((p0.A == 0) && ((decide (p0.B ≥ 0)) && (decide (p0.B ≤ p2))))), .eq (.bool ((p0.A == 0) && ((decide (p0.B ≥ 0)) && (decide (p0.B ≤ p2)))))]
       [(6, .bool ((p0.A == 0) && ((decide (p0.B ≥ 0)) && (decide (p0.B ≤ p2)))))] mix hF (by kernel_rfl) (by kernel_rfl) (by kernel_rfl) ⟨Pd.mono_eq, trivial⟩ (fun hG => ⟨np_loadBox hG hF ty3 rfl rfl (hs.bx 0 rfl) rfl rfl rfl, trivial⟩) (by kernel_rfl) fun fr w28 hF hE hc => then_normal ?_)
   have hs := hs.ext hc
   have hM0 := hM0.ext hc
   have hs : Sep [] w28 S1 := Sep.pick [] hs (by decide) rfl
   obtain rfl := Option.some.inj h
   exact wp_ret (blk_ret (then_ret (ret1 rfl hF rfl ⟨_, rfl, rfl, hM0.chg⟩)))
 replace h := iteF hb h
 refine wp_seq (wp_pure [(3, B b1 0), (7, .bool ((decide (p0.B ≥ 0)) && (decide (p0.B ≤ p2)))), (37, I p0.Op), (83, .bool (p0.Op == 10))] hF (by kernel_rfl) fun fr hF => then_normal ?_)
 refine (wp_if hF (b := (p0.Op == 10)) rfl (fun hb => ?_) (fun hb => ?_))
 · replace h := iteT hb h
   obtain ⟨x21, hx21, h⟩ := bindE h
   refine wp_seq (region_b [] [true, false, false, true, true, true, true]
       [.eq (B b1 1), .eq (I p0.A), .eq (.bool x21), .eq (.bool x21), .eq (.bool ((decide (p0.B ≥ 0)) && (decide (p0.B ≤ p2)))), .eq (.bool (x21 && ((decide (p0.B ≥ 0)) && (decide (p0.B ≤ p2))))), .eq (.bool (x21 && ((decide (p0.B ≥ 0)) && (decide (p0.B ≤ p2)))))]
       [(6, .bool (x21 && ((decide (p0.B ≥ 0)) && (decide (p0.B ≤ p2)))))] mix hF (by kernel_rfl) (by kernel_rfl) (by kernel_rfl) ⟨Pd.mono_eq, Pd.mono_eq, trivial⟩ (fun hG => ⟨np_loadBox hG hF ty3 rfl rfl (hs.bx 0 rfl) rfl rfl rfl, np_call [I p0.A] hG hF Tryz.call63 rfl rfl (fun w hC hg => (impl_isReg_ok p0.A hx21).mono fun e w' ⟨v, he, hv, hc⟩ => ⟨v, he, hc, hv⟩), trivial⟩) (by kernel_rfl) fun fr w29 hF hE hc => then_normal ?_)
   have hs := hs.ext hc
   have hM0 := hM0.ext hc
   have hs : Sep [] w29 S1 := Sep.pick [] hs (by decide) rfl
   obtain rfl := Option.some.inj h
   exact wp_ret (blk_ret (then_ret (ret1 rfl hF rfl ⟨_, rfl, rfl, hM0.chg⟩)))
 replace h := iteF hb h
 refine wp_seq ?_
 refine wp_seq (wp_pure [(3, B b1 0), (37, I p0.Op), (91, .bool (p0.Op == 12))] hF (by kernel_rfl) fun fr hF => then_normal ?_)
 refine (wp_merge [(3, B b1 0), (91, .bool ((p0.Op == 12) || (p0.Op == 14)))] hF (b := (p0.Op == 12)) rfl (fun hb => ?_) (fun hb => ?_) fun fr hF => then_normal ?_)
 · exact wp_skip ⟨rfl, rfl, (hF.sub [(3, B b1 0), (91, .bool (p0.Op == 12))] (by kernel_rfl)).eqs (by first | (simp only [hb]; done) | (simp only [hb]; rfl))⟩
 · exact wp_pure [(3, B b1 0), (91, .bool (p0.Op == 14))] hF (by kernel_rfl) fun fr hF => ⟨rfl, rfl, hF.eqs (by first | (simp only [hb]; done) | (simp only [hb]; rfl))⟩
 refine (wp_if hF (b := ((p0.Op == 12) || (p0.Op == 14))) rfl (fun hb => ?_) (fun hb => ?_))
 · replace h := iteT hb h
   refine wp_seq (region_b [] [true, false, true, true, true, false, true, true, true]
       [.eq (B b1 1), .eq (I p0.A), .eq (.bool (p0.A == 0)), .eq (.bool (p0.A == 0)), .eq (B b1 2), .eq (I p0.B), .eq (.bool (p0.B == 0)), .eq (.bool ((p0.A == 0) && (p0.B == 0))), .eq (.bool ((p0.A == 0) && (p0.B == 0)))]
       [(6, .bool ((p0.A == 0) && (p0.B == 0)))] mix hF (by kernel_rfl) (by kernel_rfl) (by kernel_rfl) ⟨Pd.mono_eq, Pd.mono_eq, trivial⟩ (fun hG => ⟨np_loadBox hG hF ty3 rfl rfl (hs.bx 0 rfl) rfl rfl rfl, np_loadBox hG hF ty3 rfl rfl (hs.bx 0 rfl) rfl rfl rfl, trivial⟩) (by kernel_rfl) fun fr w30 hF hE hc => then_normal ?_)
   have hs := hs.ext hc
   have hM0 := hM0.ext hc
   have hs : Sep [] w30 S1 := Sep.pick [] hs (by decide) rfl
   obtain rfl := Option.some.inj h
   exact wp_ret (blk_ret (then_ret (ret1 rfl hF rfl ⟨_, rfl, rfl, hM0.chg⟩)))
 replace h := iteF hb h
 have hs : Sep [] w2 S1 := Sep.pick [] hs (by decide) rfl
 refine (wp_skip ?_)
 refine blk_normal (then_normal ?_)
 refine wp_seq (wp_pure [(6, .bool false)] hF (by kernel_rfl) fun fr hF => then_normal ?_)
 obtain rfl := Option.some.inj h
 exact wp_ret (ret1 rfl hF rfl ⟨_, rfl, rfl, hM0.chg⟩)

theorem impl_FormatInt_ok (p0 : Int) {r : Str} (h : impl_FormatInt p0 = some r) {w : World} {G99 : Nat → Prop} (tb : TX Tryz.prog w G99) :
   Calls Tryz.prog 61 [I p0].toArray w fun e w' => ∃ v, e = .returned v ∧ v = Str.val r ∧ Chg Non w w' := by
 unfold impl_FormatInt at h
 have hs := Sep.nil w Non
 have hM0 : Mem w Non (fun k => (G99 k) ∧ k < w.heap.size) w Non (fun k => (G99 k) ∧ k < w.heap.size) := Mem.start (fun _ h => h.elim) (fun _ h => h.2) (fun _ h => h.elim)
 have tb := tb.sub (F' := (fun k => (G99 k) ∧ k < w.heap.size)) (fun k hk h => ⟨h, hk⟩)
 refine enter (N := 5) Tryz.func61 rfl Tryz.ntmps61 rfl fun fr hF => ?_
 refine wp_seq (wp_pure [(0, I p0)] hF (by kernel_rfl) fun fr hF => then_normal ?_)
 refine wp_seq (wp_text' ?_)
 refine from_pure 1 [(3, I p0)] hF (by kernel_rfl) fun fr hF => ?_
 obtain ⟨x1, hx1, h⟩ := bindE h
 refine s_call [I p0] Tryz.call57 rfl rfl hF rfl (strconv_Itoa_ok p0 hx1 tb) fun v w1 fr hRes hF => ?_
 obtain ⟨rfl, hc⟩ := hRes
 have tb := tb.ext hc
 have hs := hs.ext hc
 have hM0 := hM0.ext hc
 refine from_pure 1 [(2, Str.val x1)] hF (by kernel_rfl) fun fr hF => ?_
 refine from_end rfl (then_normal ?_)
 obtain rfl := Option.some.inj h
 exact wp_ret (ret1 rfl hF rfl ⟨_, rfl, rfl, hM0.chg⟩)

theorem impl_regName_ok (p0 : Int) {r : Str} (h : impl_regName p0 = some r) {w : World} {G99 : Nat → Prop} (tb : TX Tryz.prog w G99) :
   Calls Tryz.prog 60 [I p0].toArray w fun e w' => ∃ v, e = .returned v ∧ v = Str.val r ∧ Chg Non w w' := by
 unfold impl_regName at h
 have hs := Sep.nil w Non
 have hM0 : Mem w Non (fun k => (G99 k) ∧ k < w.heap.size) w Non (fun k => (G99 k) ∧ k < w.heap.size) := Mem.start (fun _ h => h.elim) (fun _ h => h.2) (fun _ h => h.elim)
 have tb := tb.sub (F' := (fun k => (G99 k) ∧ k < w.heap.size)) (fun k hk h => ⟨h, hk⟩)
 refine enter (N := 6) Tryz.func60 rfl Tryz.ntmps60 rfl fun fr hF => ?_
 refine wp_seq (wp_pure [(0, I p0)] hF (by kernel_rfl) fun fr hF => then_normal ?_)
 refine wp_seq (wp_text' ?_)
 refine from_pure 1 [(3, I p0)] hF (by kernel_rfl) fun fr hF => ?_
 obtain ⟨x1, hx1, h⟩ := bindE h
 refine s_call [I p0] Tryz.call61 rfl rfl hF rfl (impl_FormatInt_ok p0 hx1 tb) fun v w1 fr hRes hF => ?_
 obtain ⟨rfl, hc⟩ := hRes
 have tb := tb.ext hc
 have hs := hs.ext hc
 have hM0 := hM0.ext hc
 obtain ⟨x2, hx2, h⟩ := bindE h
 refine s_cat (s1 := (⟨[114]⟩)) (s2 := x1) rfl rfl hF rfl rfl hx2 fun fr hF => ?_
 refine from_pure 1 [(2, Str.val x2)] hF (by kernel_rfl) fun fr hF => ?_
 refine from_end rfl (then_normal ?_)
 obtain rfl := Option.some.inj h
 exact wp_ret (ret1 rfl hF rfl ⟨_, rfl, rfl, hM0.chg⟩)

theorem impl_FormatIns_ok (p0 : D.Ins) (p1 : Int) (p2 : Int) {r : Str} (h : impl_FormatIns p0 p1 p2 = some r) {w : World} {G99 : Nat → Prop} (tb : TX Tryz.prog w G99) :
   Calls Tryz.prog 41 [.agg #[I p0.Op, I p0.A, I p0.B, I p0.C], I p1, I p2].toArray w fun e w' => ∃ v, e = .returned v ∧ v = Str.val r ∧ Chg Non w w' := by
 unfold impl_FormatIns at h
 have hs := Sep.nil w Non
 have hM0 : Mem w Non (fun k => (G99 k) ∧ k < w.heap.size) w Non (fun k => (G99 k) ∧ k < w.heap.size) := Mem.start (fun _ h => h.elim) (fun _ h => h.2) (fun _ h => h.elim)
 have tb := tb.sub (F' := (fun k => (G99 k) ∧ k < w.heap.size)) (fun k hk h => ⟨h, hk⟩)
 refine enter (N := 95) Tryz.func41 rfl Tryz.ntmps41 rfl fun fr hF => ?_
 refine wp_seq (wp_text' ?_)
 refine q_box hs hM0 [I p0.Op, I p0.A, I p0.B, I p0.C] rfl rfl hF rfl rfl fun b1 w1 S1 fr hs hp hF => ?_
 have tb := tb.stp hM0 hp
 have hM0 := hM0.stp hp
 have hs : Sep [BX b1 38 [I p0.Op, I p0.A, I p0.B, I p0.C]] w1 S1 := hs
 refine from_pure 1 [(1, I p1), (2, I p2), (3, B b1 0)] hF (by kernel_rfl) fun fr hF => ?_
 refine from_end rfl (then_normal ?_)
 refine wp_seq ?_
 obtain ⟨x1, hx1, h⟩ := bindE h
 obtain ⟨x2, hx2, h⟩ := bindE h
 refine wp_seq (region_b [] [true, true, false, true, true, false, true, true, false, true, true]
     [.eq (I p1), .eq (I p2), .eq (.bool x1), .eq (.bool (!x1)), .eq (.bool (!x1)), .eq (.agg #[I p0.Op, I p0.A, I p0.B, I p0.C]), .eq (I p1), .eq (I p2), .eq (.bool x2), .eq (.bool (!x2)), .eq (.bool ((!x1) || (!x2)))]
     [(3, B b1 0), (17, .bool ((!x1) || (!x2)))] mix hF (by kernel_rfl) (by kernel_rfl) (by kernel_rfl) ⟨Pd.mono_eq, Pd.mono_eq, Pd.mono_eq, trivial⟩ (fun hG => ⟨np_call [I p1, I p2] hG hF Tryz.call42 rfl rfl (fun w hC hg => (impl_shapeOk_ok p1 p2 hx1).mono fun e w' ⟨v, he, hv, hc⟩ => ⟨v, he, hc, hv⟩), np_loadBoxS hG hF ty38 rfl rfl (hs.bx 0 rfl) rfl rfl rfl rfl, np_call [.agg #[I p0.Op, I p0.A, I p0.B, I p0.C], I p1, I p2] hG hF Tryz.call44 rfl rfl (fun w hC hg => (impl_insOk_ok p0 p1 p2 (iteF hg.2 hx2)).mono fun e w' ⟨v, he, hv, hc⟩ => ⟨v, he, hc, hv⟩), trivial⟩) (by kernel_rfl) fun fr w2 hF hE hc => then_normal ?_)
 have tb := tb.ext hc
 have hs := hs.ext hc
 have hM0 := hM0.ext hc
 refine (wp_if hF (b := ((!x1) || (!x2))) rfl (fun hb => ?_) (fun hb => ?_))
 · replace h := iteT hb h
   have hs : Sep [] w2 S1 := Sep.pick [] hs (by decide) rfl
   refine wp_seq (wp_pure [(6, Str.val (⟨[]⟩))] hF (by kernel_rfl) fun fr hF => then_normal ?_)
   obtain rfl := Option.some.inj h
   exact wp_ret (then_ret (ret1 rfl hF rfl ⟨_, rfl, rfl, hM0.chg⟩))
 replace h := iteF hb h
 refine (wp_skip (then_normal ?_))
 refine wp_seq ?_
 refine wp_seq (wp_text' ?_)
 refine from_pure 1 [(3, B b1 0), (18, B b1 0)] hF (by kernel_rfl) fun fr hF => ?_
 refine s_loadBox (I p0.Op) ty3 rfl rfl hF rfl (hs.bx 0 rfl) rfl rfl fun fr hF => ?_
 refine from_end rfl (then_normal ?_)
 refine (wp_block ?_)
 refine wp_seq (wp_pure [(3, B b1 0), (19, I p0.Op), (20, .bool (p0.Op == 3))] hF (by kernel_rfl) fun fr hF => then_normal ?_)
 refine (wp_if hF (b := (p0.Op == 3)) rfl (fun hb => ?_) (fun hb => ?_))
 · replace h := iteT hb h
   obtain ⟨x3, hx3, h⟩ := bindE h
   obtain ⟨x4, hx4, h⟩ := bindE h
   obtain ⟨x5, hx5, h⟩ := bindE h
   obtain ⟨x6, hx6, h⟩ := bindE h
   obtain ⟨x7, hx7, h⟩ := bindE h
   obtain ⟨x8, hx8, h⟩ := bindE h
   obtain ⟨x9, hx9, h⟩ := bindE h
   refine wp_seq (region_bm 14 [0, 1, 3, 7, 0, 16, 55, 127, 255, 0, 512, 1655, 4095, 8191] [true, false, false, false, true, false, false, false, false, true, false, false, false, true]
       [.eq (B b1 3), .eq (I p0.C), .eq (Str.val x3), .eq (Str.val x4), .eq (B b1 1), .eq (I p0.A), .eq (Str.val x5), .eq (Str.val x6), .eq (Str.val x7), .eq (B b1 2), .eq (I p0.B), .eq (Str.val x8), .eq (Str.val x9), .eq (Str.val x9)]
       [(6, Str.val x9)] mix hF (by kernel_rfl) (by kernel_rfl) (by kernel_rfl) (by kernel_rfl) ⟨Pd.monoO_eq, Pd.monoO_eq, Pd.monoO_eq, Pd.monoO_eq, Pd.monoO_eq, Pd.monoO_eq, Pd.monoO_eq, Pd.monoO_eq, Pd.monoO_eq, Pd.monoO_eq, trivial⟩ (fun ow hG => ⟨np_to ow (np_loadBox hG hF ty3 rfl rfl (hs.bx 0 rfl) rfl rfl rfl), np_to ow (np_call [I p0.C] hG hF Tryz.call58 rfl rfl (fun w hC hg => (impl_OpName_ok p0.C hx3).mono fun e w' ⟨v, he, hv, hc⟩ => ⟨v, he, hc, hv⟩)), np_to ow (np_cat (s1 := x3) (s2 := (⟨[32]⟩)) hG hF rfl rfl rfl (fun hg => hx4) rfl), np_to ow (np_loadBox hG hF ty3 rfl rfl (hs.bx 0 rfl) rfl rfl rfl), np_to ow (np_call [I p0.A] hG hF Tryz.call60 rfl rfl (fun w hC hg => (impl_regName_ok p0.A hx5 (tb.ext hC)).mono fun e w' ⟨v, he, hv, hc⟩ => ⟨v, he, hc, hv⟩)), np_to ow (np_cat (s1 := x4) (s2 := x5) hG hF rfl rfl rfl (fun hg => hx6) rfl), np_to ow (np_cat (s1 := x6) (s2 := (⟨[32]⟩)) hG hF rfl rfl rfl (fun hg => hx7) rfl), np_to ow (np_loadBox hG hF ty3 rfl rfl (hs.bx 0 rfl) rfl rfl rfl), np_to ow (np_call [I p0.B] hG hF Tryz.call60 rfl rfl (fun w hC hg => (impl_regName_ok p0.B hx8 (tb.ext hC)).mono fun e w' ⟨v, he, hv, hc⟩ => ⟨v, he, hc, hv⟩)), np_to ow (np_cat (s1 := x7) (s2 := x8) hG hF rfl rfl rfl (fun hg => hx9) rfl), trivial⟩) (by kernel_rfl) fun ow fr w3 hF hE hc => ?_)
   have tb := tb.ext hc
   have hs := hs.ext hc
   have hM0 := hM0.ext hc
   have hs : Sep [] w3 S1 := Sep.pick [] hs (by decide) rfl
   refine from_end rfl (then_normal ?_)
   obtain rfl := Option.some.inj h
   exact wp_ret (blk_ret (then_ret (ret1 rfl hF rfl ⟨_, rfl, rfl, hM0.chg⟩)))
 replace h := iteF hb h
 refine wp_seq ?_
 refine wp_seq (wp_pure [(3, B b1 0), (19, I p0.Op), (35, .bool (p0.Op == 2))] hF (by kernel_rfl) fun fr hF => then_normal ?_)
 refine (wp_if hF (b := (p0.Op == 2)) rfl (fun hb => ?_) (fun hb => ?_))
 · replace h := iteT hb h
   refine (wp_skip (then_normal ?_))
   refine (wp_if hF (b := (p0.Op == 2)) rfl (fun hb => ?_) (fun hb => ?_))
   · replace h := iteT hb h
     obtain ⟨x10, hx10, h⟩ := bindE h
     obtain ⟨x11, hx11, h⟩ := bindE h
     obtain ⟨x12, hx12, h⟩ := bindE h
     obtain ⟨x13, hx13, h⟩ := bindE h
     obtain ⟨x14, hx14, h⟩ := bindE h
     obtain ⟨x15, hx15, h⟩ := bindE h
     obtain ⟨x16, hx16, h⟩ := bindE h
     refine wp_seq (region_bm 14 [0, 1, 3, 7, 0, 16, 55, 127, 255, 0, 512, 1655, 4095, 8191] [true, false, false, false, true, false, false, false, false, true, false, false, false, true]
         [.eq (B b1 0), .eq (I p0.Op), .eq (Str.val x10), .eq (Str.val x11), .eq (B b1 1), .eq (I p0.A), .eq (Str.val x12), .eq (Str.val x13), .eq (Str.val x14), .eq (B b1 2), .eq (I p0.B), .eq (Str.val x15), .eq (Str.val x16), .eq (Str.val x16)]
         [(6, Str.val x16)] mix hF (by kernel_rfl) (by kernel_rfl) (by kernel_rfl) (by kernel_rfl) ⟨Pd.monoO_eq, Pd.monoO_eq, Pd.monoO_eq, Pd.monoO_eq, Pd.monoO_eq, Pd.monoO_eq, Pd.monoO_eq, Pd.monoO_eq, Pd.monoO_eq, Pd.monoO_eq, trivial⟩ (fun ow hG => ⟨np_to ow (np_loadBox hG hF ty3 rfl rfl (hs.bx 0 rfl) rfl rfl rfl), np_to ow (np_call [I p0.Op] hG hF Tryz.call37 rfl rfl (fun w hC hg => (impl_insWord_ok p0.Op hx10).mono fun e w' ⟨v, he, hv, hc⟩ => ⟨v, he, hc, hv⟩)), np_to ow (np_cat (s1 := x10) (s2 := (⟨[32]⟩)) hG hF rfl rfl rfl (fun hg => hx11) rfl), np_to ow (np_loadBox hG hF ty3 rfl rfl (hs.bx 0 rfl) rfl rfl rfl), np_to ow (np_call [I p0.A] hG hF Tryz.call60 rfl rfl (fun w hC hg => (impl_regName_ok p0.A hx12 (tb.ext hC)).mono fun e w' ⟨v, he, hv, hc⟩ => ⟨v, he, hc, hv⟩)), np_to ow (np_cat (s1 := x11) (s2 := x12) hG hF rfl rfl rfl (fun hg => hx13) rfl), np_to ow (np_cat (s1 := x13) (s2 := (⟨[32]⟩)) hG hF rfl rfl rfl (fun hg => hx14) rfl), np_to ow (np_loadBox hG hF ty3 rfl rfl (hs.bx 0 rfl) rfl rfl rfl), np_to ow (np_call [I p0.B] hG hF Tryz.call60 rfl rfl (fun w hC hg => (impl_regName_ok p0.B hx15 (tb.ext hC)).mono fun e w' ⟨v, he, hv, hc⟩ => ⟨v, he, hc, hv⟩)), np_to ow (np_cat (s1 := x14) (s2 := x15) hG hF rfl rfl rfl (fun hg => hx16) rfl), trivial⟩) (by kernel_rfl) fun ow fr w4 hF hE hc => ?_)
     have tb := tb.ext hc
     have hs := hs.ext hc
     have hM0 := hM0.ext hc
     have hs : Sep [] w4 S1 := Sep.pick [] hs (by decide) rfl
     refine from_end rfl (then_normal ?_)
     obtain rfl := Option.some.inj h
     exact wp_ret (blk_ret (then_ret (ret1 rfl hF rfl ⟨_, rfl, rfl, hM0.chg⟩)))
   replace h := iteF hb h
   refine wp_seq ?_
   refine wp_seq (wp_pure [(3, B b1 0), (19, I p0.Op), (52, .bool (p0.Op == 1))] hF (by kernel_rfl) fun fr hF => then_normal ?_)
   refine (wp_merge [(3, B b1 0), (19, I p0.Op), (52, .bool ((p0.Op == 1) || (p0.Op == 10)))] hF (b := (p0.Op == 1)) rfl (fun hb => ?_) (fun hb => ?_) fun fr hF => then_normal ?_)
   · exact wp_skip ⟨rfl, rfl, (hF.sub [(3, B b1 0), (19, I p0.Op), (52, .bool (p0.Op == 1))] (by kernel_rfl)).eqs (by first | (simp only [hb]; done) | (simp only [hb]; rfl))⟩
   · exact wp_pure [(3, B b1 0), (19, I p0.Op), (52, .bool (p0.Op == 10))] hF (by kernel_rfl) fun fr hF => ⟨rfl, rfl, hF.eqs (by first | (simp only [hb]; done) | (simp only [hb]; rfl))⟩
   refine (wp_if hF (b := ((p0.Op == 1) || (p0.Op == 10))) rfl (fun hb => ?_) (fun hb => ?_))
   · replace h := iteT hb h
     obtain ⟨x17, hx17, h⟩ := bindE h
     obtain ⟨x18, hx18, h⟩ := bindE h
     obtain ⟨x19, hx19, h⟩ := bindE h
     obtain ⟨x20, hx20, h⟩ := bindE h
     obtain ⟨x21, hx21, h⟩ := bindE h
     obtain ⟨x22, hx22, h⟩ := bindE h
     obtain ⟨x23, hx23, h⟩ := bindE h
     refine wp_seq (region_bm 14 [0, 1, 3, 7, 0, 16, 55, 127, 255, 0, 512, 1655, 4095, 8191] [true, false, false, false, true, false, false, false, false, true, false, false, false, true]
         [.eq (B b1 0), .eq (I p0.Op), .eq (Str.val x17), .eq (Str.val x18), .eq (B b1 1), .eq (I p0.A), .eq (Str.val x19), .eq (Str.val x20), .eq (Str.val x21), .eq (B b1 2), .eq (I p0.B), .eq (Str.val x22), .eq (Str.val x23), .eq (Str.val x23)]
         [(6, Str.val x23)] mix hF (by kernel_rfl) (by kernel_rfl) (by kernel_rfl) (by kernel_rfl) ⟨Pd.monoO_eq, Pd.monoO_eq, Pd.monoO_eq, Pd.monoO_eq, Pd.monoO_eq, Pd.monoO_eq, Pd.monoO_eq, Pd.monoO_eq, Pd.monoO_eq, Pd.monoO_eq, trivial⟩ (fun ow hG => ⟨np_to ow (np_loadBox hG hF ty3 rfl rfl (hs.bx 0 rfl) rfl rfl rfl), np_to ow (np_call [I p0.Op] hG hF Tryz.call37 rfl rfl (fun w hC hg => (impl_insWord_ok p0.Op hx17).mono fun e w' ⟨v, he, hv, hc⟩ => ⟨v, he, hc, hv⟩)), np_to ow (np_cat (s1 := x17) (s2 := (⟨[32]⟩)) hG hF rfl rfl rfl (fun hg => hx18) rfl), np_to ow (np_loadBox hG hF ty3 rfl rfl (hs.bx 0 rfl) rfl rfl rfl), np_to ow (np_call [I p0.A] hG hF Tryz.call60 rfl rfl (fun w hC hg => (impl_regName_ok p0.A hx19 (tb.ext hC)).mono fun e w' ⟨v, he, hv, hc⟩ => ⟨v, he, hc, hv⟩)), np_to ow (np_cat (s1 := x18) (s2 := x19) hG hF rfl rfl rfl (fun hg => hx20) rfl), np_to ow (np_cat (s1 := x20) (s2 := (⟨[32]⟩)) hG hF rfl rfl rfl (fun hg => hx21) rfl), np_to ow (np_loadBox hG hF ty3 rfl rfl (hs.bx 0 rfl) rfl rfl rfl), np_to ow (np_call [I p0.B] hG hF Tryz.call61 rfl rfl (fun w hC hg => (impl_FormatInt_ok p0.B hx22 (tb.ext hC)).mono fun e w' ⟨v, he, hv, hc⟩ => ⟨v, he, hc, hv⟩)), np_to ow (np_cat (s1 := x21) (s2 := x22) hG hF rfl rfl rfl (fun hg => hx23) rfl), trivial⟩) (by kernel_rfl) fun ow fr w5 hF hE hc => ?_)
     have tb := tb.ext hc
     have hs := hs.ext hc
     have hM0 := hM0.ext hc
     have hs : Sep [] w5 S1 := Sep.pick [] hs (by decide) rfl
     refine from_end rfl (then_normal ?_)
     obtain rfl := Option.some.inj h
     exact wp_ret (blk_ret (then_ret (ret1 rfl hF rfl ⟨_, rfl, rfl, hM0.chg⟩)))
   replace h := iteF hb h
   refine wp_seq ?_
   refine wp_seq (wp_pure [(3, B b1 0), (19, I p0.Op), (68, .bool (p0.Op == 4))] hF (by kernel_rfl) fun fr hF => then_normal ?_)
   refine (wp_if hF (b := (p0.Op == 4)) rfl (fun hb => ?_) (fun hb => ?_))
   · replace h := iteT hb h
     refine (wp_skip (then_normal ?_))
     refine (wp_if hF (b := (p0.Op == 4)) rfl (fun hb => ?_) (fun hb => ?_))
     · replace h := iteT hb h
       obtain ⟨x24, hx24, h⟩ := bindE h
       obtain ⟨x25, hx25, h⟩ := bindE h
       obtain ⟨x26, hx26, h⟩ := bindE h
       obtain ⟨x27, hx27, h⟩ := bindE h
       refine wp_seq (region_bm 9 [0, 1, 3, 7, 0, 16, 55, 127, 255] [true, false, false, false, true, false, false, false, true]
           [.eq (B b1 0), .eq (I p0.Op), .eq (Str.val x24), .eq (Str.val x25), .eq (B b1 1), .eq (I p0.A), .eq (Str.val x26), .eq (Str.val x27), .eq (Str.val x27)]
           [(6, Str.val x27)] mix hF (by kernel_rfl) (by kernel_rfl) (by kernel_rfl) (by kernel_rfl) ⟨Pd.monoO_eq, Pd.monoO_eq, Pd.monoO_eq, Pd.monoO_eq, Pd.monoO_eq, Pd.monoO_eq, trivial⟩ (fun ow hG => ⟨np_to ow (np_loadBox hG hF ty3 rfl rfl (hs.bx 0 rfl) rfl rfl rfl), np_to ow (np_call [I p0.Op] hG hF Tryz.call37 rfl rfl (fun w hC hg => (impl_insWord_ok p0.Op hx24).mono fun e w' ⟨v, he, hv, hc⟩ => ⟨v, he, hc, hv⟩)), np_to ow (np_cat (s1 := x24) (s2 := (⟨[32]⟩)) hG hF rfl rfl rfl (fun hg => hx25) rfl), np_to ow (np_loadBox hG hF ty3 rfl rfl (hs.bx 0 rfl) rfl rfl rfl), np_to ow (np_call [I p0.A] hG hF Tryz.call60 rfl rfl (fun w hC hg => (impl_regName_ok p0.A hx26 (tb.ext hC)).mono fun e w' ⟨v, he, hv, hc⟩ => ⟨v, he, hc, hv⟩)), np_to ow (np_cat (s1 := x25) (s2 := x26) hG hF rfl rfl rfl (fun hg => hx27) rfl), trivial⟩) (by kernel_rfl) fun ow fr w6 hF hE hc => ?_)
       have tb := tb.ext hc
       have hs := hs.ext hc
       have hM0 := hM0.ext hc
       have hs : Sep [] w6 S1 := Sep.pick [] hs (by decide) rfl
       refine from_end rfl (then_normal ?_)
       obtain rfl := Option.some.inj h
       exact wp_ret (blk_ret (then_ret (ret1 rfl hF rfl ⟨_, rfl, rfl, hM0.chg⟩)))
     replace h := iteF hb h
     refine wp_seq ?_
     refine wp_seq (wp_pure [(3, B b1 0), (19, I p0.Op), (81, .bool (p0.Op == 9))] hF (by kernel_rfl) fun fr hF => then_normal ?_)
     refine (wp_merge [(3, B b1 0), (81, .bool ((p0.Op == 9) || (p0.Op == 11)))] hF (b := (p0.Op == 9)) rfl (fun hb => ?_) (fun hb => ?_) fun fr hF => then_normal ?_)
     · exact wp_skip ⟨rfl, rfl, (hF.sub [(3, B b1 0), (81, .bool (p0.Op == 9))] (by kernel_rfl)).eqs (by first | (simp only [hb]; done) | (simp only [hb]; rfl))⟩
     · exact wp_pure [(3, B b1 0), (81, .bool (p0.Op == 11))] hF (by kernel_rfl) fun fr hF => ⟨rfl, rfl, hF.eqs (by first | (simp only [hb]; done) | (simp only [hb]; rfl))⟩
     refine (wp_if hF (b := ((p0.Op == 9) || (p0.Op == 11))) rfl (fun hb => ?_) (fun hb => ?_))
     · replace h := iteT hb h
       obtain ⟨x28, hx28, h⟩ := bindE h
       obtain ⟨x29, hx29, h⟩ := bindE h
       obtain ⟨x30, hx30, h⟩ := bindE h
       obtain ⟨x31, hx31, h⟩ := bindE h
       refine wp_seq (region_bm 9 [0, 1, 3, 7, 0, 16, 55, 127, 255] [true, false, false, false, true, false, false, false, true]
           [.eq (B b1 0), .eq (I p0.Op), .eq (Str.val x28), .eq (Str.val x29), .eq (B b1 2), .eq (I p0.B), .eq (Str.val x30), .eq (Str.val x31), .eq (Str.val x31)]
           [(6, Str.val x31)] mix hF (by kernel_rfl) (by kernel_rfl) (by kernel_rfl) (by kernel_rfl) ⟨Pd.monoO_eq, Pd.monoO_eq, Pd.monoO_eq, Pd.monoO_eq, Pd.monoO_eq, Pd.monoO_eq, trivial⟩ (fun ow hG => ⟨np_to ow (np_loadBox hG hF ty3 rfl rfl (hs.bx 0 rfl) rfl rfl rfl), np_to ow (np_call [I p0.Op] hG hF Tryz.call37 rfl rfl (fun w hC hg => (impl_insWord_ok p0.Op hx28).mono fun e w' ⟨v, he, hv, hc⟩ => ⟨v, he, hc, hv⟩)), np_to ow (np_cat (s1 := x28) (s2 := (⟨[32]⟩)) hG hF rfl rfl rfl (fun hg => hx29) rfl), np_to ow (np_loadBox hG hF ty3 rfl rfl (hs.bx 0 rfl) rfl rfl rfl), np_to ow (np_call [I p0.B] hG hF Tryz.call61 rfl rfl (fun w hC hg => (impl_FormatInt_ok p0.B hx30 (tb.ext hC)).mono fun e w' ⟨v, he, hv, hc⟩ => ⟨v, he, hc, hv⟩)), np_to ow (np_cat (s1 := x29) (s2 := x30) hG hF rfl rfl rfl (fun hg => hx31) rfl), trivial⟩) (by kernel_rfl) fun ow fr w7 hF hE hc => ?_)
       have tb := tb.ext hc
       have hs := hs.ext hc
       have hM0 := hM0.ext hc
       have hs : Sep [] w7 S1 := Sep.pick [] hs (by decide) rfl
       refine from_end rfl (then_normal ?_)
       obtain rfl := Option.some.inj h
       exact wp_ret (blk_ret (then_ret (ret1 rfl hF rfl ⟨_, rfl, rfl, hM0.chg⟩)))
     replace h := iteF hb h
     refine (wp_skip ?_)
     refine blk_normal (then_normal ?_)
     refine wp_seq (wp_text' ?_)
     refine from_pure 1 [(92, B b1 0)] hF (by kernel_rfl) fun fr hF => ?_
     refine s_loadBox (I p0.Op) ty3 rfl rfl hF rfl (hs.bx 0 rfl) rfl rfl fun fr hF => ?_
     have hs : Sep [] w2 S1 := Sep.pick [] hs (by decide) rfl
     obtain ⟨x32, hx32, h⟩ := bindE h
     refine s_call [I p0.Op] Tryz.call37 rfl rfl hF rfl (impl_insWord_ok p0.Op hx32) fun v w8 fr hRes hF => ?_
     obtain ⟨rfl, hc⟩ := hRes
     have tb := tb.ext hc
     have hs := hs.ext hc
     have hM0 := hM0.ext hc
     refine from_pure 1 [(6, Str.val x32)] hF (by kernel_rfl) fun fr hF => ?_
     refine from_end rfl (then_normal ?_)
     obtain rfl := Option.some.inj h
     exact wp_ret (ret1 rfl hF rfl ⟨_, rfl, rfl, hM0.chg⟩)
   replace h := iteF hb h
   refine wp_seq (wp_pure [(3, B b1 0), (19, I p0.Op), (68, .bool (p0.Op == 5))] hF (by kernel_rfl) fun fr hF => then_normal ?_)
   refine (wp_if hF (b := (p0.Op == 5)) rfl (fun hb => ?_) (fun hb => ?_))
   · replace h := iteT hb h
     refine (wp_skip (then_normal ?_))
     refine (wp_if hF (b := (p0.Op == 5)) rfl (fun hb => ?_) (fun hb => ?_))
     · replace h := iteT hb h
       obtain ⟨x33, hx33, h⟩ := bindE h
       obtain ⟨x34, hx34, h⟩ := bindE h
       obtain ⟨x35, hx35, h⟩ := bindE h
       obtain ⟨x36, hx36, h⟩ := bindE h
       refine wp_seq (region_bm 9 [0, 1, 3, 7, 0, 16, 55, 127, 255] [true, false, false, false, true, false, false, false, true]
           [.eq (B b1 0), .eq (I p0.Op), .eq (Str.val x33), .eq (Str.val x34), .eq (B b1 1), .eq (I p0.A), .eq (Str.val x35), .eq (Str.val x36), .eq (Str.val x36)]
           [(6, Str.val x36)] mix hF (by kernel_rfl) (by kernel_rfl) (by kernel_rfl) (by kernel_rfl) ⟨Pd.monoO_eq, Pd.monoO_eq, Pd.monoO_eq, Pd.monoO_eq, Pd.monoO_eq, Pd.monoO_eq, trivial⟩ (fun ow hG => ⟨np_to ow (np_loadBox hG hF ty3 rfl rfl (hs.bx 0 rfl) rfl rfl rfl), np_to ow (np_call [I p0.Op] hG hF Tryz.call37 rfl rfl (fun w hC hg => (impl_insWord_ok p0.Op hx33).mono fun e w' ⟨v, he, hv, hc⟩ => ⟨v, he, hc, hv⟩)), np_to ow (np_cat (s1 := x33) (s2 := (⟨[32]⟩)) hG hF rfl rfl rfl (fun hg => hx34) rfl), np_to ow (np_loadBox hG hF ty3 rfl rfl (hs.bx 0 rfl) rfl rfl rfl), np_to ow (np_call [I p0.A] hG hF Tryz.call60 rfl rfl (fun w hC hg => (impl_regName_ok p0.A hx35 (tb.ext hC)).mono fun e w' ⟨v, he, hv, hc⟩ => ⟨v, he, hc, hv⟩)), np_to ow (np_cat (s1 := x34) (s2 := x35) hG hF rfl rfl rfl (fun hg => hx36) rfl), trivial⟩) (by kernel_rfl) fun ow fr w9 hF hE hc => ?_)
       have tb := tb.ext hc
       have hs := hs.ext hc
       have hM0 := hM0.ext hc
       have hs : Sep [] w9 S1 := Sep.pick [] hs (by decide) rfl
       refine from_end rfl (then_normal ?_)
       obtain rfl := Option.some.inj h
       exact wp_ret (blk_ret (then_ret (ret1 rfl hF rfl ⟨_, rfl, rfl, hM0.chg⟩)))
     replace h := iteF hb h
     refine wp_seq ?_
     refine wp_seq (wp_pure [(3, B b1 0), (19, I p0.Op), (81, .bool (p0.Op == 9))] hF (by kernel_rfl) fun fr hF => then_normal ?_)
     refine (wp_merge [(3, B b1 0), (81, .bool ((p0.Op == 9) || (p0.Op == 11)))] hF (b := (p0.Op == 9)) rfl (fun hb => ?_) (fun hb => ?_) fun fr hF => then_normal ?_)
     · exact wp_skip ⟨rfl, rfl, (hF.sub [(3, B b1 0), (81, .bool (p0.Op == 9))] (by kernel_rfl)).eqs (by first | (simp only [hb]; done) | (simp only [hb]; rfl))⟩
     · exact wp_pure [(3, B b1 0), (81, .bool (p0.Op == 11))] hF (by kernel_rfl) fun fr hF => ⟨rfl, rfl, hF.eqs (by first | (simp only [hb]; done) | (simp only [hb]; rfl))⟩
     refine (wp_if hF (b := ((p0.Op == 9) || (p0.Op == 11))) rfl (fun hb => ?_) (fun hb => ?_))
     · replace h := iteT hb h
       obtain ⟨x37, hx37, h⟩ := bindE h
       obtain ⟨x38, hx38, h⟩ := bindE h
       obtain ⟨x39, hx39, h⟩ := bindE h
       obtain ⟨x40, hx40, h⟩ := bindE h
       refine wp_seq (region_bm 9 [0, 1, 3, 7, 0, 16, 55, 127, 255] [true, false, false, false, true, false, false, false, true]
           [.eq (B b1 0), .eq (I p0.Op), .eq (Str.val x37), .eq (Str.val x38), .eq (B b1 2), .eq (I p0.B), .eq (Str.val x39), .eq (Str.val x40), .eq (Str.val x40)]
           [(6, Str.val x40)] mix hF (by kernel_rfl) (by kernel_rfl) (by kernel_rfl) (by kernel_rfl) ⟨Pd.monoO_eq, Pd.monoO_eq, Pd.monoO_eq, Pd.monoO_eq, Pd.monoO_eq, Pd.monoO_eq, trivial⟩ (fun ow hG => ⟨np_to ow (np_loadBox hG hF ty3 rfl rfl (hs.bx 0 rfl) rfl rfl rfl), np_to ow (np_call [I p0.Op] hG hF Tryz.call37 rfl rfl (fun w hC hg => (impl_insWord_ok p0.Op hx37).mono fun e w' ⟨v, he, hv, hc⟩ => ⟨v, he, hc, hv⟩)), np_to ow (np_cat (s1 := x37) (s2 := (⟨[32]⟩)) hG hF rfl rfl rfl (fun hg => hx38) rfl), np_to ow (np_loadBox hG hF ty3 rfl rfl (hs.bx 0 rfl) rfl rfl rfl), np_to ow (np_call [I p0.B] hG hF Tryz.call61 rfl rfl (fun w hC hg => (impl_FormatInt_ok p0.B hx39 (tb.ext hC)).mono fun e w' ⟨v, he, hv, hc⟩ => ⟨v, he, hc, hv⟩)), np_to ow (np_cat (s1 := x38) (s2 := x39) hG hF rfl rfl rfl (fun hg => hx40) rfl), trivial⟩) (by kernel_rfl) fun ow fr w10 hF hE hc => ?_)
       have tb := tb.ext hc
       have hs := hs.ext hc
       have hM0 := hM0.ext hc
       have hs : Sep [] w10 S1 := Sep.pick [] hs (by decide) rfl
       refine from_end rfl (then_normal ?_)
       obtain rfl := Option.some.inj h
       exact wp_ret (blk_ret (then_ret (ret1 rfl hF rfl ⟨_, rfl, rfl, hM0.chg⟩)))
     replace h := iteF hb h
     refine (wp_skip ?_)
     refine blk_normal (then_normal ?_)
     refine wp_seq (wp_text' ?_)
     refine from_pure 1 [(92, B b1 0)] hF (by kernel_rfl) fun fr hF => ?_
     refine s_loadBox (I p0.Op) ty3 rfl rfl hF rfl (hs.bx 0 rfl) rfl rfl fun fr hF => ?_
     have hs : Sep [] w2 S1 := Sep.pick [] hs (by decide) rfl
     obtain ⟨x41, hx41, h⟩ := bindE h
     refine s_call [I p0.Op] Tryz.call37 rfl rfl hF rfl (impl_insWord_ok p0.Op hx41) fun v w11 fr hRes hF => ?_
     obtain ⟨rfl, hc⟩ := hRes
     have tb := tb.ext hc
     have hs := hs.ext hc
     have hM0 := hM0.ext hc
     refine from_pure 1 [(6, Str.val x41)] hF (by kernel_rfl) fun fr hF => ?_
     refine from_end rfl (then_normal ?_)
     obtain rfl := Option.some.inj h
     exact wp_ret (ret1 rfl hF rfl ⟨_, rfl, rfl, hM0.chg⟩)
   replace h := iteF hb h
   refine wp_seq (wp_pure [(3, B b1 0), (19, I p0.Op), (68, .bool (p0.Op == 6))] hF (by kernel_rfl) fun fr hF => then_normal ?_)
   refine (wp_merge [(3, B b1 0), (19, I p0.Op), (68, .bool ((p0.Op == 6) || (p0.Op == 13)))] hF (b := (p0.Op == 6)) rfl (fun hb => ?_) (fun hb => ?_) fun fr hF => then_normal ?_)
   · exact wp_skip ⟨rfl, rfl, (hF.sub [(3, B b1 0), (19, I p0.Op), (68, .bool (p0.Op == 6))] (by kernel_rfl)).eqs (by first | (simp only [hb]; done) | (simp only [hb]; rfl))⟩
   · exact wp_pure [(3, B b1 0), (19, I p0.Op), (68, .bool (p0.Op == 13))] hF (by kernel_rfl) fun fr hF => ⟨rfl, rfl, hF.eqs (by first | (simp only [hb]; done) | (simp only [hb]; rfl))⟩
   refine (wp_if hF (b := ((p0.Op == 6) || (p0.Op == 13))) rfl (fun hb => ?_) (fun hb => ?_))
   · replace h := iteT hb h
     obtain ⟨x42, hx42, h⟩ := bindE h
     obtain ⟨x43, hx43, h⟩ := bindE h
     obtain ⟨x44, hx44, h⟩ := bindE h
     obtain ⟨x45, hx45, h⟩ := bindE h
     refine wp_seq (region_bm 9 [0, 1, 3, 7, 0, 16, 55, 127, 255] [true, false, false, false, true, false, false, false, true]
         [.eq (B b1 0), .eq (I p0.Op), .eq (Str.val x42), .eq (Str.val x43), .eq (B b1 1), .eq (I p0.A), .eq (Str.val x44), .eq (Str.val x45), .eq (Str.val x45)]
         [(6, Str.val x45)] mix hF (by kernel_rfl) (by kernel_rfl) (by kernel_rfl) (by kernel_rfl) ⟨Pd.monoO_eq, Pd.monoO_eq, Pd.monoO_eq, Pd.monoO_eq, Pd.monoO_eq, Pd.monoO_eq, trivial⟩ (fun ow hG => ⟨np_to ow (np_loadBox hG hF ty3 rfl rfl (hs.bx 0 rfl) rfl rfl rfl), np_to ow (np_call [I p0.Op] hG hF Tryz.call37 rfl rfl (fun w hC hg => (impl_insWord_ok p0.Op hx42).mono fun e w' ⟨v, he, hv, hc⟩ => ⟨v, he, hc, hv⟩)), np_to ow (np_cat (s1 := x42) (s2 := (⟨[32]⟩)) hG hF rfl rfl rfl (fun hg => hx43) rfl), np_to ow (np_loadBox hG hF ty3 rfl rfl (hs.bx 0 rfl) rfl rfl rfl), np_to ow (np_call [I p0.A] hG hF Tryz.call60 rfl rfl (fun w hC hg => (impl_regName_ok p0.A hx44 (tb.ext hC)).mono fun e w' ⟨v, he, hv, hc⟩ => ⟨v, he, hc, hv⟩)), np_to ow (np_cat (s1 := x43) (s2 := x44) hG hF rfl rfl rfl (fun hg => hx45) rfl), trivial⟩) (by kernel_rfl) fun ow fr w12 hF hE hc => ?_)
     have tb := tb.ext hc
     have hs := hs.ext hc
     have hM0 := hM0.ext hc
     have hs : Sep [] w12 S1 := Sep.pick [] hs (by decide) rfl
     refine from_end rfl (then_normal ?_)
     obtain rfl := Option.some.inj h
     exact wp_ret (blk_ret (then_ret (ret1 rfl hF rfl ⟨_, rfl, rfl, hM0.chg⟩)))
   replace h := iteF hb h
   refine wp_seq ?_
   refine wp_seq (wp_pure [(3, B b1 0), (19, I p0.Op), (81, .bool (p0.Op == 9))] hF (by kernel_rfl) fun fr hF => then_normal ?_)
   refine (wp_merge [(3, B b1 0), (81, .bool ((p0.Op == 9) || (p0.Op == 11)))] hF (b := (p0.Op == 9)) rfl (fun hb => ?_) (fun hb => ?_) fun fr hF => then_normal ?_)
   · exact wp_skip ⟨rfl, rfl, (hF.sub [(3, B b1 0), (81, .bool (p0.Op == 9))] (by kernel_rfl)).eqs (by first | (simp only [hb]; done) | (simp only [hb]; rfl))⟩
   · exact wp_pure [(3, B b1 0), (81, .bool (p0.Op == 11))] hF (by kernel_rfl) fun fr hF => ⟨rfl, rfl, hF.eqs (by first | (simp only [hb]; done) | (simp only [hb]; rfl))⟩
   refine (wp_if hF (b := ((p0.Op == 9) || (p0.Op == 11))) rfl (fun hb => ?_) (fun hb => ?_))
   · replace h := iteT hb h
     obtain ⟨x46, hx46, h⟩ := bindE h
     obtain ⟨x47, hx47, h⟩ := bindE h
     obtain ⟨x48, hx48, h⟩ := bindE h
     obtain ⟨x49, hx49, h⟩ := bindE h
     refine wp_seq (region_bm 9 [0, 1, 3, 7, 0, 16, 55, 127, 255] [true, false, false, false, true, false, false, false, true]
         [.eq (B b1 0), .eq (I p0.Op), .eq (Str.val x46), .eq (Str.val x47), .eq (B b1 2), .eq (I p0.B), .eq (Str.val x48), .eq (Str.val x49), .eq (Str.val x49)]
         [(6, Str.val x49)] mix hF (by kernel_rfl) (by kernel_rfl) (by kernel_rfl) (by kernel_rfl) ⟨Pd.monoO_eq, Pd.monoO_eq, Pd.monoO_eq, Pd.monoO_eq, Pd.monoO_eq, Pd.monoO_eq, trivial⟩ (fun ow hG => ⟨np_to ow (np_loadBox hG hF ty3 rfl rfl (hs.bx 0 rfl) rfl rfl rfl), np_to ow (np_call [I p0.Op] hG hF Tryz.call37 rfl rfl (fun w hC hg => (impl_insWord_ok p0.Op hx46).mono fun e w' ⟨v, he, hv, hc⟩ => ⟨v, he, hc, hv⟩)), np_to ow (np_cat (s1 := x46) (s2 := (⟨[32]⟩)) hG hF rfl rfl rfl (fun hg => hx47) rfl), np_to ow (np_loadBox hG hF ty3 rfl rfl (hs.bx 0 rfl) rfl rfl rfl), np_to ow (np_call [I p0.B] hG hF Tryz.call61 rfl rfl (fun w hC hg => (impl_FormatInt_ok p0.B hx48 (tb.ext hC)).mono fun e w' ⟨v, he, hv, hc⟩ => ⟨v, he, hc, hv⟩)), np_to ow (np_cat (s1 := x47) (s2 := x48) hG hF rfl rfl rfl (fun hg => hx49) rfl), trivial⟩) (by kernel_rfl) fun ow fr w13 hF hE hc => ?_)
     have tb := tb.ext hc
     have hs := hs.ext hc
     have hM0 := hM0.ext hc
     have hs : Sep [] w13 S1 := Sep.pick [] hs (by decide) rfl
     refine from_end rfl (then_normal ?_)
     obtain rfl := Option.some.inj h
     exact wp_ret (blk_ret (then_ret (ret1 rfl hF rfl ⟨_, rfl, rfl, hM0.chg⟩)))
   replace h := iteF hb h
   refine (wp_skip ?_)
   refine blk_normal (then_normal ?_)
   refine wp_seq (wp_text' ?_)
   refine from_pure 1 [(92, B b1 0)] hF (by kernel_rfl) fun fr hF => ?_
   refine s_loadBox (I p0.Op) ty3 rfl rfl hF rfl (hs.bx 0 rfl) rfl rfl fun fr hF => ?_
   have hs : Sep [] w2 S1 := Sep.pick [] hs (by decide) rfl
   obtain ⟨x50, hx50, h⟩ := bindE h
   refine s_call [I p0.Op] Tryz.call37 rfl rfl hF rfl (impl_insWord_ok p0.Op hx50) fun v w14 fr hRes hF => ?_
   obtain ⟨rfl, hc⟩ := hRes
   have tb := tb.ext hc
   have hs := hs.ext hc
   have hM0 := hM0.ext hc
   refine from_pure 1 [(6, Str.val x50)] hF (by kernel_rfl) fun fr hF => ?_
   refine from_end rfl (then_normal ?_)
   obtain rfl := Option.some.inj h
   exact wp_ret (ret1 rfl hF rfl ⟨_, rfl, rfl, hM0.chg⟩)
 replace h := iteF hb h
 refine wp_seq (wp_pure [(3, B b1 0), (19, I p0.Op), (35, .bool (p0.Op == 7))] hF (by kernel_rfl) fun fr hF => then_normal ?_)
 refine (wp_merge [(3, B b1 0), (19, I p0.Op), (35, .bool ((p0.Op == 7) || (p0.Op == 8)))] hF (b := (p0.Op == 7)) rfl (fun hb => ?_) (fun hb => ?_) fun fr hF => then_normal ?_)
 · exact wp_skip ⟨rfl, rfl, (hF.sub [(3, B b1 0), (19, I p0.Op), (35, .bool (p0.Op == 7))] (by kernel_rfl)).eqs (by first | (simp only [hb]; done) | (simp only [hb]; rfl))⟩
 · exact wp_pure [(3, B b1 0), (19, I p0.Op), (35, .bool (p0.Op == 8))] hF (by kernel_rfl) fun fr hF => ⟨rfl, rfl, hF.eqs (by first | (simp only [hb]; done) | (simp only [hb]; rfl))⟩
 refine (wp_if hF (b := ((p0.Op == 7) || (p0.Op == 8))) rfl (fun hb => ?_) (fun hb => ?_))
 · replace h := iteT hb h
   obtain ⟨x51, hx51, h⟩ := bindE h
   obtain ⟨x52, hx52, h⟩ := bindE h
   obtain ⟨x53, hx53, h⟩ := bindE h
   obtain ⟨x54, hx54, h⟩ := bindE h
   obtain ⟨x55, hx55, h⟩ := bindE h
   obtain ⟨x56, hx56, h⟩ := bindE h
   obtain ⟨x57, hx57, h⟩ := bindE h
   refine wp_seq (region_bm 14 [0, 1, 3, 7, 0, 16, 55, 127, 255, 0, 512, 1655, 4095, 8191] [true, false, false, false, true, false, false, false, false, true, false, false, false, true]
       [.eq (B b1 0), .eq (I p0.Op), .eq (Str.val x51), .eq (Str.val x52), .eq (B b1 1), .eq (I p0.A), .eq (Str.val x53), .eq (Str.val x54), .eq (Str.val x55), .eq (B b1 2), .eq (I p0.B), .eq (Str.val x56), .eq (Str.val x57), .eq (Str.val x57)]
       [(6, Str.val x57)] mix hF (by kernel_rfl) (by kernel_rfl) (by kernel_rfl) (by kernel_rfl) ⟨Pd.monoO_eq, Pd.monoO_eq, Pd.monoO_eq, Pd.monoO_eq, Pd.monoO_eq, Pd.monoO_eq, Pd.monoO_eq, Pd.monoO_eq, Pd.monoO_eq, Pd.monoO_eq, trivial⟩ (fun ow hG => ⟨np_to ow (np_loadBox hG hF ty3 rfl rfl (hs.bx 0 rfl) rfl rfl rfl), np_to ow (np_call [I p0.Op] hG hF Tryz.call37 rfl rfl (fun w hC hg => (impl_insWord_ok p0.Op hx51).mono fun e w' ⟨v, he, hv, hc⟩ => ⟨v, he, hc, hv⟩)), np_to ow (np_cat (s1 := x51) (s2 := (⟨[32]⟩)) hG hF rfl rfl rfl (fun hg => hx52) rfl), np_to ow (np_loadBox hG hF ty3 rfl rfl (hs.bx 0 rfl) rfl rfl rfl), np_to ow (np_call [I p0.A] hG hF Tryz.call60 rfl rfl (fun w hC hg => (impl_regName_ok p0.A hx53 (tb.ext hC)).mono fun e w' ⟨v, he, hv, hc⟩ => ⟨v, he, hc, hv⟩)), np_to ow (np_cat (s1 := x52) (s2 := x53) hG hF rfl rfl rfl (fun hg => hx54) rfl), np_to ow (np_cat (s1 := x54) (s2 := (⟨[32]⟩)) hG hF rfl rfl rfl (fun hg => hx55) rfl), np_to ow (np_loadBox hG hF ty3 rfl rfl (hs.bx 0 rfl) rfl rfl rfl), np_to ow (np_call [I p0.B] hG hF Tryz.call60 rfl rfl (fun w hC hg => (impl_regName_ok p0.B hx56 (tb.ext hC)).mono fun e w' ⟨v, he, hv, hc⟩ => ⟨v, he, hc, hv⟩)), np_to ow (np_cat (s1 := x55) (s2 := x56) hG hF rfl rfl rfl (fun hg => hx57) rfl), trivial⟩) (by kernel_rfl) fun ow fr w15 hF hE hc => ?_)
   have tb := tb.ext hc
   have hs := hs.ext hc
   have hM0 := hM0.ext hc
   have hs : Sep [] w15 S1 := Sep.pick [] hs (by decide) rfl
   refine from_end rfl (then_normal ?_)
   obtain rfl := Option.some.inj h
   exact wp_ret (blk_ret (then_ret (ret1 rfl hF rfl ⟨_, rfl, rfl, hM0.chg⟩)))
 replace h := iteF hb h
 refine wp_seq ?_
 refine wp_seq (wp_pure [(3, B b1 0), (19, I p0.Op), (52, .bool (p0.Op == 1))] hF (by kernel_rfl) fun fr hF => then_normal ?_)
 refine (wp_merge [(3, B b1 0), (19, I p0.Op), (52, .bool ((p0.Op == 1) || (p0.Op == 10)))] hF (b := (p0.Op == 1)) rfl (fun hb => ?_) (fun hb => ?_) fun fr hF => then_normal ?_)
 · exact wp_skip ⟨rfl, rfl, (hF.sub [(3, B b1 0), (19, I p0.Op), (52, .bool (p0.Op == 1))] (by kernel_rfl)).eqs (by first | (simp only [hb]; done) | (simp only [hb]; rfl))⟩
 · exact wp_pure [(3, B b1 0), (19, I p0.Op), (52, .bool (p0.Op == 10))] hF (by kernel_rfl) fun fr hF => ⟨rfl, rfl, hF.eqs (by first | (simp only [hb]; done) | (simp only [hb]; rfl))⟩
 refine (wp_if hF (b := ((p0.Op == 1) || (p0.Op == 10))) rfl (fun hb => ?_) (fun hb => ?_))
 · replace h := iteT hb h
   obtain ⟨x58, hx58, h⟩ := bindE h
   obtain ⟨x59, hx59, h⟩ := bindE h
   obtain ⟨x60, hx60, h⟩ := bindE h
   obtain ⟨x61, hx61, h⟩ := bindE h
   obtain ⟨x62, hx62, h⟩ := bindE h
   obtain ⟨x63, hx63, h⟩ := bindE h
   obtain ⟨x64, hx64, h⟩ := bindE h
   refine wp_seq (region_bm 14 [0, 1, 3, 7, 0, 16, 55, 127, 255, 0, 512, 1655, 4095, 8191] [true, false, false, false, true, false, false, false, false, true, false, false, false, true]
       [.eq (B b1 0), .eq (I p0.Op), .eq (Str.val x58), .eq (Str.val x59), .eq (B b1 1), .eq (I p0.A), .eq (Str.val x60), .eq (Str.val x61), .eq (Str.val x62), .eq (B b1 2), .eq (I p0.B), .eq (Str.val x63), .eq (Str.val x64), .eq (Str.val x64)]
       [(6, Str.val x64)] mix hF (by kernel_rfl) (by kernel_rfl) (by kernel_rfl) (by kernel_rfl) ⟨Pd.monoO_eq, Pd.monoO_eq, Pd.monoO_eq, Pd.monoO_eq, Pd.monoO_eq, Pd.monoO_eq, Pd.monoO_eq, Pd.monoO_eq, Pd.monoO_eq, Pd.monoO_eq, trivial⟩ (fun ow hG => ⟨np_to ow (np_loadBox hG hF ty3 rfl rfl (hs.bx 0 rfl) rfl rfl rfl), np_to ow (np_call [I p0.Op] hG hF Tryz.call37 rfl rfl (fun w hC hg => (impl_insWord_ok p0.Op hx58).mono fun e w' ⟨v, he, hv, hc⟩ => ⟨v, he, hc, hv⟩)), np_to ow (np_cat (s1 := x58) (s2 := (⟨[32]⟩)) hG hF rfl rfl rfl (fun hg => hx59) rfl), np_to ow (np_loadBox hG hF ty3 rfl rfl (hs.bx 0 rfl) rfl rfl rfl), np_to ow (np_call [I p0.A] hG hF Tryz.call60 rfl rfl (fun w hC hg => (impl_regName_ok p0.A hx60 (tb.ext hC)).mono fun e w' ⟨v, he, hv, hc⟩ => ⟨v, he, hc, hv⟩)), np_to ow (np_cat (s1 := x59) (s2 := x60) hG hF rfl rfl rfl (fun hg => hx61) rfl), np_to ow (np_cat (s1 := x61) (s2 := (⟨[32]⟩)) hG hF rfl rfl rfl (fun hg => hx62) rfl), np_to ow (np_loadBox hG hF ty3 rfl rfl (hs.bx 0 rfl) rfl rfl rfl), np_to ow (np_call [I p0.B] hG hF Tryz.call61 rfl rfl (fun w hC hg => (impl_FormatInt_ok p0.B hx63 (tb.ext hC)).mono fun e w' ⟨v, he, hv, hc⟩ => ⟨v, he, hc, hv⟩)), np_to ow (np_cat (s1 := x62) (s2 := x63) hG hF rfl rfl rfl (fun hg => hx64) rfl), trivial⟩) (by kernel_rfl) fun ow fr w16 hF hE hc => ?_)
   have tb := tb.ext hc
   have hs := hs.ext hc
   have hM0 := hM0.ext hc
   have hs : Sep [] w16 S1 := Sep.pick [] hs (by decide) rfl
   refine from_end rfl (then_normal ?_)
   obtain rfl := Option.some.inj h
   exact wp_ret (blk_ret (then_ret (ret1 rfl hF rfl ⟨_, rfl, rfl, hM0.chg⟩)))
 replace h := iteF hb h
 refine wp_seq ?_
 refine wp_seq (wp_pure [(3, B b1 0), (19, I p0.Op), (68, .bool (p0.Op == 4))] hF (by kernel_rfl) fun fr hF => then_normal ?_)
 refine (wp_if hF (b := (p0.Op == 4)) rfl (fun hb => ?_) (fun hb => ?_))
 · replace h := iteT hb h
   refine (wp_skip (then_normal ?_))
   refine (wp_if hF (b := (p0.Op == 4)) rfl (fun hb => ?_) (fun hb => ?_))
   · replace h := iteT hb h
     obtain ⟨x65, hx65, h⟩ := bindE h
     obtain ⟨x66, hx66, h⟩ := bindE h
     obtain ⟨x67, hx67, h⟩ := bindE h
     obtain ⟨x68, hx68, h⟩ := bindE h
     refine wp_seq (region_bm 9 [0, 1, 3, 7, 0, 16, 55, 127, 255] [true, false, false, false, true, false, false, false, true]
         [.eq (B b1 0), .eq (I p0.Op), .eq (Str.val x65), .eq (Str.val x66), .eq (B b1 1), .eq (I p0.A), .eq (Str.val x67), .eq (Str.val x68), .eq (Str.val x68)]
         [(6, Str.val x68)] mix hF (by kernel_rfl) (by kernel_rfl) (by kernel_rfl) (by kernel_rfl) ⟨Pd.monoO_eq, Pd.monoO_eq, Pd.monoO_eq, Pd.monoO_eq, Pd.monoO_eq, Pd.monoO_eq, trivial⟩ (fun ow hG => ⟨np_to ow (np_loadBox hG hF ty3 rfl rfl (hs.bx 0 rfl) rfl rfl rfl), np_to ow (np_call [I p0.Op] hG hF Tryz.call37 rfl rfl (fun w hC hg => (impl_insWord_ok p0.Op hx65).mono fun e w' ⟨v, he, hv, hc⟩ => ⟨v, he, hc, hv⟩)), np_to ow (np_cat (s1 := x65) (s2 := (⟨[32]⟩)) hG hF rfl rfl rfl (fun hg => hx66) rfl), np_to ow (np_loadBox hG hF ty3 rfl rfl (hs.bx 0 rfl) rfl rfl rfl), np_to ow (np_call [I p0.A] hG hF Tryz.call60 rfl rfl (fun w hC hg => (impl_regName_ok p0.A hx67 (tb.ext hC)).mono fun e w' ⟨v, he, hv, hc⟩ => ⟨v, he, hc, hv⟩)), np_to ow (np_cat (s1 := x66) (s2 := x67) hG hF rfl rfl rfl (fun hg => hx68) rfl), trivial⟩) (by kernel_rfl) fun ow fr w17 hF hE hc => ?_)
     have tb := tb.ext hc
     have hs := hs.ext hc
     have hM0 := hM0.ext hc
     have hs : Sep [] w17 S1 := Sep.pick [] hs (by decide) rfl
     refine from_end rfl (then_normal ?_)
     obtain rfl := Option.some.inj h
     exact wp_ret (blk_ret (then_ret (ret1 rfl hF rfl ⟨_, rfl, rfl, hM0.chg⟩)))
   replace h := iteF hb h
   refine wp_seq ?_
   refine wp_seq (wp_pure [(3, B b1 0), (19, I p0.Op), (81, .bool (p0.Op == 9))] hF (by kernel_rfl) fun fr hF => then_normal ?_)
   refine (wp_merge [(3, B b1 0), (81, .bool ((p0.Op == 9) || (p0.Op == 11)))] hF (b := (p0.Op == 9)) rfl (fun hb => ?_) (fun hb => ?_) fun fr hF => then_normal ?_)
   · exact wp_skip ⟨rfl, rfl, (hF.sub [(3, B b1 0), (81, .bool (p0.Op == 9))] (by kernel_rfl)).eqs (by first | (simp only [hb]; done) | (simp only [hb]; rfl))⟩
   · exact wp_pure [(3, B b1 0), (81, .bool (p0.Op == 11))] hF (by kernel_rfl) fun fr hF => ⟨rfl, rfl, hF.eqs (by first | (simp only [hb]; done) | (simp only [hb]; rfl))⟩
   refine (wp_if hF (b := ((p0.Op == 9) || (p0.Op == 11))) rfl (fun hb => ?_) (fun hb => ?_))
   · replace h := iteT hb h
     obtain ⟨x69, hx69, h⟩ := bindE h
     obtain ⟨x70, hx70, h⟩ := bindE h
     obtain ⟨x71, hx71, h⟩ := bindE h
     obtain ⟨x72, hx72, h⟩ := bindE h
     refine wp_seq (region_bm 9 [0, 1, 3, 7, 0, 16, 55, 127, 255] [true, false, false, false, true, false, false, false, true]
         [.eq (B b1 0), .eq (I p0.Op), .eq (Str.val x69), .eq (Str.val x70), .eq (B b1 2), .eq (I p0.B), .eq (Str.val x71), .eq (Str.val x72), .eq (Str.val x72)]
         [(6, Str.val x72)] mix hF (by kernel_rfl) (by kernel_rfl) (by kernel_rfl) (by kernel_rfl) ⟨Pd.monoO_eq, Pd.monoO_eq, Pd.monoO_eq, Pd.monoO_eq, Pd.monoO_eq, Pd.monoO_eq, trivial⟩ (fun ow hG => ⟨np_to ow (np_loadBox hG hF ty3 rfl rfl (hs.bx 0 rfl) rfl rfl rfl), np_to ow (np_call [I p0.Op] hG hF Tryz.call37 rfl rfl (fun w hC hg => (impl_insWord_ok p0.Op hx69).mono fun e w' ⟨v, he, hv, hc⟩ => ⟨v, he, hc, hv⟩)), np_to ow (np_cat (s1 := x69) (s2 := (⟨[32]⟩)) hG hF rfl rfl rfl (fun hg => hx70) rfl), np_to ow (np_loadBox hG hF ty3 rfl rfl (hs.bx 0 rfl) rfl rfl rfl), np_to ow (np_call [I p0.B] hG hF Tryz.call61 rfl rfl (fun w hC hg => (impl_FormatInt_ok p0.B hx71 (tb.ext hC)).mono fun e w' ⟨v, he, hv, hc⟩ => ⟨v, he, hc, hv⟩)), np_to ow (np_cat (s1 := x70) (s2 := x71) hG hF rfl rfl rfl (fun hg => hx72) rfl), trivial⟩) (by kernel_rfl) fun ow fr w18 hF hE hc => ?_)
     have tb := tb.ext hc
     have hs := hs.ext hc
     have hM0 := hM0.ext hc
     have hs : Sep [] w18 S1 := Sep.pick [] hs (by decide) rfl
     refine from_end rfl (then_normal ?_)
     obtain rfl := Option.some.inj h
     exact wp_ret (blk_ret (then_ret (ret1 rfl hF rfl ⟨_, rfl, rfl, hM0.chg⟩)))
   replace h := iteF hb h
   refine (wp_skip ?_)
   refine blk_normal (then_normal ?_)
   refine wp_seq (wp_text' ?_)
   refine from_pure 1 [(92, B b1 0)] hF (by kernel_rfl) fun fr hF => ?_
   refine s_loadBox (I p0.Op) ty3 rfl rfl hF rfl (hs.bx 0 rfl) rfl rfl fun fr hF => ?_
   have hs : Sep [] w2 S1 := Sep.pick [] hs (by decide) rfl
   obtain ⟨x73, hx73, h⟩ := bindE h
   refine s_call [I p0.Op] Tryz.call37 rfl rfl hF rfl (impl_insWord_ok p0.Op hx73) fun v w19 fr hRes hF => ?_
   obtain ⟨rfl, hc⟩ := hRes
   have tb := tb.ext hc
   have hs := hs.ext hc
   have hM0 := hM0.ext hc
   refine from_pure 1 [(6, Str.val x73)] hF (by kernel_rfl) fun fr hF => ?_
   refine from_end rfl (then_normal ?_)
   obtain rfl := Option.some.inj h
   exact wp_ret (ret1 rfl hF rfl ⟨_, rfl, rfl, hM0.chg⟩)
 replace h := iteF hb h
 refine wp_seq (wp_pure [(3, B b1 0), (19, I p0.Op), (68, .bool (p0.Op == 5))] hF (by kernel_rfl) fun fr hF => then_normal ?_)
 refine (wp_if hF (b := (p0.Op == 5)) rfl (fun hb => ?_) (fun hb => ?_))
 · replace h := iteT hb h
   refine (wp_skip (then_normal ?_))
   refine (wp_if hF (b := (p0.Op == 5)) rfl (fun hb => ?_) (fun hb => ?_))
   · replace h := iteT hb h
     obtain ⟨x74, hx74, h⟩ := bindE h
     obtain ⟨x75, hx75, h⟩ := bindE h
     obtain ⟨x76, hx76, h⟩ := bindE h
     obtain ⟨x77, hx77, h⟩ := bindE h
     refine wp_seq (region_bm 9 [0, 1, 3, 7, 0, 16, 55, 127, 255] [true, false, false, false, true, false, false, false, true]
         [.eq (B b1 0), .eq (I p0.Op), .eq (Str.val x74), .eq (Str.val x75), .eq (B b1 1), .eq (I p0.A), .eq (Str.val x76), .eq (Str.val x77), .eq (Str.val x77)]
         [(6, Str.val x77)] mix hF (by kernel_rfl) (by kernel_rfl) (by kernel_rfl) (by kernel_rfl) ⟨Pd.monoO_eq, Pd.monoO_eq, Pd.monoO_eq, Pd.monoO_eq, Pd.monoO_eq, Pd.monoO_eq, trivial⟩ (fun ow hG => ⟨np_to ow (np_loadBox hG hF ty3 rfl rfl (hs.bx 0 rfl) rfl rfl rfl), np_to ow (np_call [I p0.Op] hG hF Tryz.call37 rfl rfl (fun w hC hg => (impl_insWord_ok p0.Op hx74).mono fun e w' ⟨v, he, hv, hc⟩ => ⟨v, he, hc, hv⟩)), np_to ow (np_cat (s1 := x74) (s2 := (⟨[32]⟩)) hG hF rfl rfl rfl (fun hg => hx75) rfl), np_to ow (np_loadBox hG hF ty3 rfl rfl (hs.bx 0 rfl) rfl rfl rfl), np_to ow (np_call [I p0.A] hG hF Tryz.call60 rfl rfl (fun w hC hg => (impl_regName_ok p0.A hx76 (tb.ext hC)).mono fun e w' ⟨v, he, hv, hc⟩ => ⟨v, he, hc, hv⟩)), np_to ow (np_cat (s1 := x75) (s2 := x76) hG hF rfl rfl rfl (fun hg => hx77) rfl), trivial⟩) (by kernel_rfl) fun ow fr w20 hF hE hc => ?_)
     have tb := tb.ext hc
     have hs := hs.ext hc
     have hM0 := hM0.ext hc
     have hs : Sep [] w20 S1 := Sep.pick [] hs (by decide) rfl
     refine from_end rfl (then_normal ?_)
     obtain rfl := Option.some.inj h
     exact wp_ret (blk_ret (then_ret (ret1 rfl hF rfl ⟨_, rfl, rfl, hM0.chg⟩)))
   replace h := iteF hb h
   refine wp_seq ?_
   refine wp_seq (wp_pure [(3, B b1 0), (19, I p0.Op), (81, .bool (p0.Op == 9))] hF (by kernel_rfl) fun fr hF => then_normal ?_)
   refine (wp_merge [(3, B b1 0), (81, .bool ((p0.Op == 9) || (p0.Op == 11)))] hF (b := (p0.Op == 9)) rfl (fun hb => ?_) (fun hb => ?_) fun fr hF => then_normal ?_)
   · exact wp_skip ⟨rfl, rfl, (hF.sub [(3, B b1 0), (81, .bool (p0.Op == 9))] (by kernel_rfl)).eqs (by first | (simp only [hb]; done) | (simp only [hb]; rfl))⟩
   · exact wp_pure [(3, B b1 0), (81, .bool (p0.Op == 11))] hF (by kernel_rfl) fun fr hF => ⟨rfl, rfl, hF.eqs (by first | (simp only [hb]; done) | (simp only [hb]; rfl))⟩
   refine (wp_if hF (b := ((p0.Op == 9) || (p0.Op == 11))) rfl (fun hb => ?_) (fun hb => ?_))
   · replace h := iteT hb h
     obtain ⟨x78, hx78, h⟩ := bindE h
     obtain ⟨x79, hx79, h⟩ := bindE h
     obtain ⟨x80, hx80, h⟩ := bindE h
     obtain ⟨x81, hx81, h⟩ := bindE h
     refine wp_seq (region_bm 9 [0, 1, 3, 7, 0, 16, 55, 127, 255] [true, false, false, false, true, false, false, false, true]
         [.eq (B b1 0), .eq (I p0.Op), .eq (Str.val x78), .eq (Str.val x79), .eq (B b1 2), .eq (I p0.B), .eq (Str.val x80), .eq (Str.val x81), .eq (Str.val x81)]
         [(6, Str.val x81)] mix hF (by kernel_rfl) (by kernel_rfl) (by kernel_rfl) (by kernel_rfl) ⟨Pd.monoO_eq, Pd.monoO_eq, Pd.monoO_eq, Pd.monoO_eq, Pd.monoO_eq, Pd.monoO_eq, trivial⟩ (fun ow hG => ⟨np_to ow (np_loadBox hG hF ty3 rfl rfl (hs.bx 0 rfl) rfl rfl rfl), np_to ow (np_call [I p0.Op] hG hF Tryz.call37 rfl rfl (fun w hC hg => (impl_insWord_ok p0.Op hx78).mono fun e w' ⟨v, he, hv, hc⟩ => ⟨v, he, hc, hv⟩)), np_to ow (np_cat (s1 := x78) (s2 := (⟨[32]⟩)) hG hF rfl rfl rfl (fun hg => hx79) rfl), np_to ow (np_loadBox hG hF ty3 rfl rfl (hs.bx 0 rfl) rfl rfl rfl), np_to ow (np_call [I p0.B] hG hF Tryz.call61 rfl rfl (fun w hC hg => (impl_FormatInt_ok p0.B hx80 (tb.ext hC)).mono fun e w' ⟨v, he, hv, hc⟩ => ⟨v, he, hc, hv⟩)), np_to ow (np_cat (s1 := x79) (s2 := x80) hG hF rfl rfl rfl (fun hg => hx81) rfl), trivial⟩) (by kernel_rfl) fun ow fr w21 hF hE hc => ?_)
     have tb := tb.ext hc
     have hs := hs.ext hc
     have hM0 := hM0.ext hc
     have hs : Sep [] w21 S1 := Sep.pick [] hs (by decide) rfl
     refine from_end rfl (then_normal ?_)
     obtain rfl := Option.some.inj h
     exact wp_ret (blk_ret (then_ret (ret1 rfl hF rfl ⟨_, rfl, rfl, hM0.chg⟩)))
   replace h := iteF hb h
   refine (wp_skip ?_)
   refine blk_normal (then_normal ?_)
   refine wp_seq (wp_text' ?_)
   refine from_pure 1 [(92, B b1 0)] hF (by kernel_rfl) fun fr hF => ?_
   refine s_loadBox (I p0.Op) ty3 rfl rfl hF rfl (hs.bx 0 rfl) rfl rfl fun fr hF => ?_
   have hs : Sep [] w2 S1 := Sep.pick [] hs (by decide) rfl
   obtain ⟨x82, hx82, h⟩ := bindE h
   refine s_call [I p0.Op] Tryz.call37 rfl rfl hF rfl (impl_insWord_ok p0.Op hx82) fun v w22 fr hRes hF => ?_
   obtain ⟨rfl, hc⟩ := hRes
   have tb := tb.ext hc
   have hs := hs.ext hc
   have hM0 := hM0.ext hc
   refine from_pure 1 [(6, Str.val x82)] hF (by kernel_rfl) fun fr hF => ?_
   refine from_end rfl (then_normal ?_)
   obtain rfl := Option.some.inj h
   exact wp_ret (ret1 rfl hF rfl ⟨_, rfl, rfl, hM0.chg⟩)
 replace h := iteF hb h
 refine wp_seq (wp_pure [(3, B b1 0), (19, I p0.Op), (68, .bool (p0.Op == 6))] hF (by kernel_rfl) fun fr hF => then_normal ?_)
 refine (wp_merge [(3, B b1 0), (19, I p0.Op), (68, .bool ((p0.Op == 6) || (p0.Op == 13)))] hF (b := (p0.Op == 6)) rfl (fun hb => ?_) (fun hb => ?_) fun fr hF => then_normal ?_)
 · exact wp_skip ⟨rfl, rfl, (hF.sub [(3, B b1 0), (19, I p0.Op), (68, .bool (p0.Op == 6))] (by kernel_rfl)).eqs (by first | (simp only [hb]; done) | (simp only [hb]; rfl))⟩
 · exact wp_pure [(3, B b1 0), (19, I p0.Op), (68, .bool (p0.Op == 13))] hF (by kernel_rfl) fun fr hF => ⟨rfl, rfl, hF.eqs (by first | (simp only [hb]; done) | (simp only [hb]; rfl))⟩
 refine (wp_if hF (b := ((p0.Op == 6) || (p0.Op == 13))) rfl (fun hb => ?_) (fun hb => ?_))
 · replace h := iteT hb h
   obtain ⟨x83, hx83, h⟩ := bindE h
   obtain ⟨x84, hx84, h⟩ := bindE h
   obtain ⟨x85, hx85, h⟩ := bindE h
   obtain ⟨x86, hx86, h⟩ := bindE h
   refine wp_seq (region_bm 9 [0, 1, 3, 7, 0, 16, 55, 127, 255] [true, false, false, false, true, false, false, false, true]
       [.eq (B b1 0), .eq (I p0.Op), .eq (Str.val x83), .eq (Str.val x84), .eq (B b1 1), .eq (I p0.A), .eq (Str.val x85), .eq (Str.val x86), .eq (Str.val x86)]
       [(6, Str.val x86)] mix hF (by kernel_rfl) (by kernel_rfl) (by kernel_rfl) (by kernel_rfl) ⟨Pd.monoO_eq, Pd.monoO_eq, Pd.monoO_eq, Pd.monoO_eq, Pd.monoO_eq, Pd.monoO_eq, trivial⟩ (fun ow hG => ⟨np_to ow (np_loadBox hG hF ty3 rfl rfl (hs.bx 0 rfl) rfl rfl rfl), np_to ow (np_call [I p0.Op] hG hF Tryz.call37 rfl rfl (fun w hC hg => (impl_insWord_ok p0.Op hx83).mono fun e w' ⟨v, he, hv, hc⟩ => ⟨v, he, hc, hv⟩)), np_to ow (np_cat (s1 := x83) (s2 := (⟨[32]⟩)) hG hF rfl rfl rfl (fun hg => hx84) rfl), np_to ow (np_loadBox hG hF ty3 rfl rfl (hs.bx 0 rfl) rfl rfl rfl), np_to ow (np_call [I p0.A] hG hF Tryz.call60 rfl rfl (fun w hC hg => (impl_regName_ok p0.A hx85 (tb.ext hC)).mono fun e w' ⟨v, he, hv, hc⟩ => ⟨v, he, hc, hv⟩)), np_to ow (np_cat (s1 := x84) (s2 := x85) hG hF rfl rfl rfl (fun hg => hx86) rfl), trivial⟩) (by kernel_rfl) fun ow fr w23 hF hE hc => ?_)
   have tb := tb.ext hc
   have hs := hs.ext hc
   have hM0 := hM0.ext hc
   have hs : Sep [] w23 S1 := Sep.pick [] hs (by decide) rfl
   refine from_end rfl (then_normal ?_)
   obtain rfl := Option.some.inj h
   exact wp_ret (blk_ret (then_ret (ret1 rfl hF rfl ⟨_, rfl, rfl, hM0.chg⟩)))
 replace h := iteF hb h
 refine wp_seq ?_
 refine wp_seq (wp_pure [(3, B b1 0), (19, I p0.Op), (81, .bool (p0.Op == 9))] hF (by kernel_rfl) fun fr hF => then_normal ?_)
 refine (wp_merge [(3, B b1 0), (81, .bool ((p0.Op == 9) || (p0.Op == 11)))] hF (b := (p0.Op == 9)) rfl (fun hb => ?_) (fun hb => ?_) fun fr hF => then_normal ?_)
 · exact wp_skip ⟨rfl, rfl, (hF.sub [(3, B b1 0), (81, .bool (p0.Op == 9))] (by kernel_rfl)).eqs (by first | (simp only [hb]; done) | (simp only [hb]; rfl))⟩
 · exact wp_pure [(3, B b1 0), (81, .bool (p0.Op == 11))] hF (by kernel_rfl) fun fr hF => ⟨rfl, rfl, hF.eqs (by first | (simp only [hb]; done) | (simp only [hb]; rfl))⟩
 refine (wp_if hF (b := ((p0.Op == 9) || (p0.Op == 11))) rfl (fun hb => ?_) (fun hb => ?_))
 · replace h := iteT hb h
   obtain ⟨x87, hx87, h⟩ := bindE h
   obtain ⟨x88, hx88, h⟩ := bindE h
   obtain ⟨x89, hx89, h⟩ := bindE h
   obtain ⟨x90, hx90, h⟩ := bindE h
   refine wp_seq (region_bm 9 [0, 1, 3, 7, 0, 16, 55, 127, 255] [true, false, false, false, true, false, false, false, true]
       [.eq (B b1 0), .eq (I p0.Op), .eq (Str.val x87), .eq (Str.val x88), .eq (B b1 2), .eq (I p0.B), .eq (Str.val x89), .eq (Str.val x90), .eq (Str.val x90)]
       [(6, Str.val x90)] mix hF (by kernel_rfl) (by kernel_rfl) (by kernel_rfl) (by kernel_rfl) ⟨Pd.monoO_eq, Pd.monoO_eq, Pd.monoO_eq, Pd.monoO_eq, Pd.monoO_eq, Pd.monoO_eq, trivial⟩ (fun ow hG => ⟨np_to ow (np_loadBox hG hF ty3 rfl rfl (hs.bx 0 rfl) rfl rfl rfl), np_to ow (np_call [I p0.Op] hG hF Tryz.call37 rfl rfl (fun w hC hg => (impl_insWord_ok p0.Op hx87).mono fun e w' ⟨v, he, hv, hc⟩ => ⟨v, he, hc, hv⟩)), np_to ow (np_cat (s1 := x87) (s2 := (⟨[32]⟩)) hG hF rfl rfl rfl (fun hg => hx88) rfl), np_to ow (np_loadBox hG hF ty3 rfl rfl (hs.bx 0 rfl) rfl rfl rfl), np_to ow (np_call [I p0.B] hG hF Tryz.call61 rfl rfl (fun w hC hg => (impl_FormatInt_ok p0.B hx89 (tb.ext hC)).mono fun e w' ⟨v, he, hv, hc⟩ => ⟨v, he, hc, hv⟩)), np_to ow (np_cat (s1 := x88) (s2 := x89) hG hF rfl rfl rfl (fun hg => hx90) rfl), trivial⟩) (by kernel_rfl) fun ow fr w24 hF hE hc => ?_)
   have tb := tb.ext hc
   have hs := hs.ext hc
   have hM0 := hM0.ext hc
   have hs : Sep [] w24 S1 := Sep.pick [] hs (by decide) rfl
   refine from_end rfl (then_normal ?_)
   obtain rfl := Option.some.inj h
   exact wp_ret (blk_ret (then_ret (ret1 rfl hF rfl ⟨_, rfl, rfl, hM0.chg⟩)))
 replace h := iteF hb h
 refine (wp_skip ?_)
 refine blk_normal (then_normal ?_)
 refine wp_seq (wp_text' ?_)
 refine from_pure 1 [(92, B b1 0)] hF (by kernel_rfl) fun fr hF => ?_
 refine s_loadBox (I p0.Op) ty3 rfl rfl hF rfl (hs.bx 0 rfl) rfl rfl fun fr hF => ?_
 have hs : Sep [] w2 S1 := Sep.pick [] hs (by decide) rfl
 obtain ⟨x91, hx91, h⟩ := bindE h
 refine s_call [I p0.Op] Tryz.call37 rfl rfl hF rfl (impl_insWord_ok p0.Op hx91) fun v w25 fr hRes hF => ?_
 obtain ⟨rfl, hc⟩ := hRes
 have tb := tb.ext hc
 have hs := hs.ext hc
 have hM0 := hM0.ext hc
 refine from_pure 1 [(6, Str.val x91)] hF (by kernel_rfl) fun fr hF => ?_
 refine from_end rfl (then_normal ?_)
 obtain rfl := Option.some.inj h
 exact wp_ret (ret1 rfl hF rfl ⟨_, rfl, rfl, hM0.chg⟩)

theorem impl_ParseIns_ok (n : Nat) (p0 : Str) (p1 : Int) (p2 : Int) {r : D.Ins × Bool} (h : impl_ParseIns n p0 p1 p2 = some r) {w : World} {G99 : Nat → Prop} (tb : TX Tryz.prog w G99) :
   Calls Tryz.prog 20 [Str.val p0, I p1, I p2].toArray w fun e w' => ∃ v, e = .returned v ∧ v = .tuple #[.agg #[I r.1.Op, I r.1.A, I r.1.B, I r.1.C], .bool r.2] ∧ Chg Non w w' := by
 unfold impl_ParseIns at h
 have hs := Sep.nil w Non
 have hM0 : Mem w Non (fun k => (G99 k) ∧ k < w.heap.size) w Non (fun k => (G99 k) ∧ k < w.heap.size) := Mem.start (fun _ h => h.elim) (fun _ h => h.2) (fun _ h => h.elim)
 have tb := tb.sub (F' := (fun k => (G99 k) ∧ k < w.heap.size)) (fun k hk h => ⟨h, hk⟩)
 refine enter (N := 98) Tryz.func20 rfl Tryz.ntmps20 rfl fun fr hF => ?_
 refine wp_seq (wp_text' ?_)
 refine q_alloc (z := .agg #[I 0, I 0, I 0, I 0]) hs hM0 [I 0, I 0, I 0, I 0] rfl rfl hF (by kernel_rfl) rfl fun b1 w1 S1 fr hs hp hF => ?_
 have tb := tb.stp hM0 hp
 have hM0 := hM0.stp hp
 have hs : Sep [BX b1 38 [I 0, I 0, I 0, I 0]] w1 S1 := hs
 refine from_pure 1 [(0, Str.val p0), (1, I p1), (2, I p2), (6, B b1 0)] hF (by kernel_rfl) fun fr hF => ?_
 refine from_end rfl (then_normal ?_)
 refine wp_seq (wp_text' ?_)
 refine from_pure 1 [(0, Str.val p0), (1, I p1), (2, I p2), (6, B b1 0), (12, Str.val p0)] hF (by kernel_rfl) fun fr hF => ?_
 obtain ⟨x1, hx1, h⟩ := bindE h
 refine s_call [Str.val p0, Str.val (⟨[32]⟩)] Tryz.call34 rfl rfl hF rfl (strings_Split_ok p0 (⟨[32]⟩) hx1 tb) fun v w2 fr hRes hF => ?_
 obtain ⟨a1, c1, rfl, _, hp, hs2⟩ := hRes
 obtain ⟨S2, hp, hs⟩ := hs.got hM0 hp hs2
 have tb := tb.stp hM0 hp
 have hM0 := hM0.stp hp
 have hs : Sep [sl9 (L a1 x1 c1) x1, BX b1 38 [I 0, I 0, I 0, I 0]] w2 S2 := hs
 refine from_pure 1 [(0, Str.val p0), (1, I p1), (2, I p2), (6, B b1 0), (8, L a1 x1 c1)] hF (by kernel_rfl) fun fr hF => ?_
 refine from_end rfl (then_normal ?_)
 refine wp_seq ?_
 refine wp_seq (region_b [] [true, true, true, true, true, true, true]
     [.eq (Str.val p0), .eq (.bool (Str.eqb p0 (⟨[]⟩))), .eq (.bool (Str.eqb p0 (⟨[]⟩))), .eq (L a1 x1 c1), .eq (I (len x1)), .eq (.bool (decide ((len x1) > 3))), .eq (.bool ((Str.eqb p0 (⟨[]⟩)) || (decide ((len x1) > 3))))]
     [(0, Str.val p0), (1, I p1), (2, I p2), (6, B b1 0), (8, L a1 x1 c1), (20, .bool ((Str.eqb p0 (⟨[]⟩)) || (decide ((len x1) > 3))))] mix hF (by kernel_rfl) (by kernel_rfl) (by kernel_rfl) trivial (fun hG => trivial) (by kernel_rfl) fun fr w3 hF hE hc => then_normal ?_)
 have tb := tb.ext hc
 have hs := hs.ext hc
 have hM0 := hM0.ext hc
 refine (wp_if hF (b := ((Str.eqb p0 (⟨[]⟩)) || (decide ((len x1) > 3)))) rfl (fun hb => ?_) (fun hb => ?_))
 · replace h := iteT hb h
   have hs : Sep [BX b1 38 [I 0, I 0, I 0, I 0]] w3 S2 := Sep.pick [1] hs (by decide) rfl
   refine wp_seq (wp_text' ?_)
   refine from_pure 1 [(6, B b1 0), (21, .agg #[I 0, I 0, I 0, I 0])] hF (by kernel_rfl) fun fr hF => ?_
   refine q_storeBoxS 0 hs hM0 rfl [I 0, I 0, I 0, I 0] rfl hF rfl rfl (by kernel_rfl) rfl rfl rfl fun w4 S3 hs hp hF => ?_
   have tb := tb.stp hM0 hp
   have hM0 := hM0.stp hp
   have hs : Sep [BX b1 38 [I 0, I 0, I 0, I 0]] w4 S3 := hs
   refine from_pure 1 [(6, B b1 0), (7, .bool false)] hF (by kernel_rfl) fun fr hF => ?_
   refine from_end rfl (then_normal ?_)
   have hrets := fun {σ : List (Nat × Value)} (h : σ = [(6, B b1 0), (7, .bool false)]) => (by subst h; exact (Rets.cell rfl ty38 (hs.bx 0 rfl) rfl rfl (Rets.tmp rfl Rets.nil)) : Rets Tryz.prog σ w4 [.cell 6 38, .tmp 7] [.agg #[I 0, I 0, I 0, I 0], .bool false])
   obtain rfl := Option.some.inj h
   exact wp_ret (then_ret (retG (rs := [.cell 6 38, .tmp 7]) rfl (hF.sub [(6, B b1 0), (7, .bool false)] (by kernel_rfl)) (hrets rfl) rfl ⟨_, rfl, rfl, hM0.chg⟩))
 replace h := iteF hb h
 refine (wp_skip (then_normal ?_))
 refine wp_seq (wp_text' ?_)
 refine q_alloc (z := .agg #[I 0, I 0, I 0, I 0]) hs hM0 [I 0, I 0, I 0, I 0] rfl rfl hF (by kernel_rfl) rfl fun b2 w5 S4 fr hs hp hF => ?_
 have tb := tb.stp hM0 hp
 have hM0 := hM0.stp hp
 have hs : Sep [BX b2 38 [I 0, I 0, I 0, I 0], sl9 (L a1 x1 c1) x1, BX b1 38 [I 0, I 0, I 0, I 0]] w5 S4 := hs
 refine from_end rfl (then_normal ?_)
 refine wp_seq ?_
 refine wp_seq (wp_pure [(0, Str.val p0), (1, I p1), (2, I p2), (6, B b1 0), (8, L a1 x1 c1), (9, B b2 0), (10, I 1)] hF (by kernel_rfl) fun fr hF => then_normal ?_)
 obtain ⟨rl1, hit1, h⟩ := bindE h
 have hk1 := h
 refine (GL.wp_cut (M := fun fr w' => ∃ S6 F2, FrS 98 [(0, Str.val p0), (1, I p1), (2, I p2), (6, B b1 0), (8, L a1 x1 c1), (9, B b2 0)] fr ∧ Mem w5 S4 (fun k => (G99 k) ∧ k < w.heap.size) w' S6 F2 ∧ Sep [BX b2 38 [I rl1, I 0, I 0, I 0], sl9 (L a1 x1 c1) x1, BX b1 38 [I 0, I 0, I 0, I 0]] w' S6) (wp_block (wp_iter (Inv := fun s1 fr w' => ∃ S5 F1, FrS 98 [(0, Str.val p0), (1, I p1), (2, I p2), (6, B b1 0), (8, L a1 x1 c1), (9, B b2 0), (10, I s1.1)] fr ∧ Mem w5 S4 (fun k => (G99 k) ∧ k < w.heap.size) w' S5 F1 ∧ Sep [BX b2 38 [I s1.2, I 0, I 0, I 0], sl9 (L a1 x1 c1) x1, BX b1 38 [I 0, I 0, I 0, I 0]] w' S5) hit1 ⟨S4, _, hF.sub _ (by kernel_rfl), (Mem.start hM0.bd hM0.bdF hM0.dj), hs⟩ fun s1 q1 fr w1i hI h hr1 => ?_)) fun fr w1o hM => ?_)
 · obtain ⟨S5, F1, hF, hM1, hs⟩ := hI
   have tb := tb.mem hM1
   refine wp_seq ?_
   refine wp_seq (wp_pure [(0, Str.val p0), (1, I p1), (2, I p2), (6, B b1 0), (8, L a1 x1 c1), (9, B b2 0), (10, I s1.1), (23, .bool (decide (s1.1 ≤ 14)))] hF (by kernel_rfl) fun fr hF => then_normal ?_)
   refine (wp_if hF (b := (decide (s1.1 ≤ 14))) rfl (fun hb => ?_) (fun hb => ?_))
   · replace h := iteT hb h
     refine (wp_skip (then_normal ?_))
     refine wp_seq (wp_block ?_)
     obtain ⟨x2, hx2, h⟩ := bindE h
     obtain ⟨x3, hx3, h⟩ := bindE h
     refine wp_seq (region_bm 6 [0, 1, 0, 4, 12, 31] [true, false, true, false, false, true]
         [.eq (I s1.1), .eq (Str.val x2), .eq (L a1 x1 c1), .is fun v w => ElemP w (fun k => k < w1i.heap.size) v (x3 : Str), .eq (Str.val x3), .eq (.bool (Str.eqb x2 x3))]
         [(0, Str.val p0), (1, I p1), (2, I p2), (6, B b1 0), (8, L a1 x1 c1), (9, B b2 0), (10, I s1.1), (31, .bool (Str.eqb x2 x3))] mix hF (by kernel_rfl) (by kernel_rfl) (by kernel_rfl) (by kernel_rfl) ⟨Pd.monoO_eq, (Pd.monoO_is mono_elem), Pd.monoO_eq, trivial⟩ (fun ow hG => ⟨np_to ow (np_call [I s1.1] hG hF Tryz.call37 rfl rfl (fun w hC hg => (impl_insWord_ok s1.1 hx2).mono fun e w' ⟨v, he, hv, hc⟩ => ⟨v, he, hc, hv⟩)), np_to ow (np_index hG hF ty9 Tryz.underlying30 rfl rfl (RV.sub (hs.rv 1 rfl) fun k hk _ => hk) rfl rfl (fun hg => ⟨get?_nn hx3, get?_at hx3⟩)), np_to ow (np_loadF (z := x3) (i := 3) hG hF ty9 rfl rfl rfl rfl rfl rfl rfl), trivial⟩) (by kernel_rfl) fun ow fr w6 hF hE hc => ?_)
     have tb := tb.ext hc
     have hs := hs.ext hc
     have hM1 := hM1.ext hc
     refine from_end rfl (then_normal ?_)
     refine (wp_if hF (b := (Str.eqb x2 x3)) rfl (fun hb => ?_) (fun hb => ?_))
     · replace h := iteT hb h
       refine (wp_text' ?_)
       refine from_pure 2 [(0, Str.val p0), (1, I p1), (2, I p2), (6, B b1 0), (8, L a1 x1 c1), (9, B b2 0), (10, I s1.1), (32, I s1.1), (33, B b2 0)] hF (by kernel_rfl) fun fr hF => ?_
       refine q_storeBox 0 hs hM1 rfl [I s1.1, I 0, I 0, I 0] rfl hF rfl rfl (by kernel_rfl) rfl rfl rfl fun w7 S7 hs hp hF => ?_
       have tb := tb.stp hM1 hp
       have hM1 := hM1.stp hp
       have hs : Sep [BX b2 38 [I s1.1, I 0, I 0, I 0], sl9 (L a1 x1 c1) x1, BX b1 38 [I 0, I 0, I 0, I 0]] w7 S7 := hs
       refine from_end rfl ?_
       refine blk_normal (then_normal ?_)
       refine (wp_pure [(0, Str.val p0), (1, I p1), (2, I p2), (6, B b1 0), (8, L a1 x1 c1), (9, B b2 0), (10, I (w64 (s1.1 + 1)))] hF (by kernel_rfl) fun fr hF => then_normal ?_)
       exact ⟨_, (Option.some.inj h).symm, S7, _, hF.sub _ (by kernel_rfl), hM1, hs⟩
     replace h := iteF hb h
     refine (wp_skip ?_)
     refine blk_normal (then_normal ?_)
     refine (wp_pure [(0, Str.val p0), (1, I p1), (2, I p2), (6, B b1 0), (8, L a1 x1 c1), (9, B b2 0), (10, I (w64 (s1.1 + 1)))] hF (by kernel_rfl) fun fr hF => then_normal ?_)
     exact ⟨_, (Option.some.inj h).symm, S5, _, hF.sub _ (by kernel_rfl), hM1, hs⟩
   replace h := iteF hb h
   refine (wp_exit (then_exit (then_exit (blk_exit_eq ?_))))
   obtain rfl := hr1 _ (Option.some.inj h).symm
   exact then_normal ⟨S5, _, hF.sub _ (by kernel_rfl), hM1, hs⟩
 · obtain ⟨S6, F2, hF, hMx, hs⟩ := hM
   have tb := tb.mem hMx
   have hM0 := hM0.trans hMx
   refine wp_seq ?_
   refine wp_seq (wp_text' ?_)
   refine from_pure 1 [(0, Str.val p0), (1, I p1), (2, I p2), (6, B b1 0), (8, L a1 x1 c1), (9, B b2 0), (34, L a1 x1 c1)] hF (by kernel_rfl) fun fr hF => ?_
   obtain ⟨x4, hx4, h⟩ := bindE h
   refine s_elemF (z := x4) (Str.val x4) ty9 Tryz.underlying30 rfl rfl rfl rfl rfl hF rfl (hs.rv 1 rfl) rfl (get?_nn hx4) (get?_at hx4) rfl fun p fr hF => ?_
   obtain ⟨x5, hx5, h⟩ := bindE h
   refine s_call [Str.val x4] Tryz.call38 rfl rfl hF rfl (impl_OpOf_ok n x4 hx5) fun v w8 fr hRes hF => ?_
   obtain ⟨rfl, hc⟩ := hRes
   have tb := tb.ext hc
   have hs := hs.ext hc
   have hM0 := hM0.ext hc
   refine from_pure 1 [(0, Str.val p0), (1, I p1), (2, I p2), (6, B b1 0), (8, L a1 x1 c1), (9, B b2 0), (11, I x5)] hF (by kernel_rfl) fun fr hF => ?_
   refine from_end rfl (then_normal ?_)
   obtain ⟨x6, hx6, h⟩ := bindE h
   refine wp_seq (region_b [] [true, false, true, true, true, false, true]
       [.eq (B b2 0), .eq (I rl1), .eq (.bool (rl1 == 0)), .eq (.bool (rl1 == 0)), .eq (I x5), .eq (.bool x6), .eq (.bool ((rl1 == 0) && x6))]
       [(0, Str.val p0), (1, I p1), (2, I p2), (6, B b1 0), (8, L a1 x1 c1), (9, B b2 0), (11, I x5), (44, .bool ((rl1 == 0) && x6))] mix hF (by kernel_rfl) (by kernel_rfl) (by kernel_rfl) ⟨Pd.mono_eq, Pd.mono_eq, trivial⟩ (fun hG => ⟨np_loadBox hG hF ty3 rfl rfl (hs.bx 0 rfl) rfl rfl rfl, np_call [I x5] hG hF Tryz.call39 rfl rfl (fun w hC hg => (impl_isTwoWords_ok x5 (iteT hg.2 hx6)).mono fun e w' ⟨v, he, hv, hc⟩ => ⟨v, he, hc, hv⟩), trivial⟩) (by kernel_rfl) fun fr w9 hF hE hc => then_normal ?_)
   have tb := tb.ext hc
   have hs := hs.ext hc
   have hM0 := hM0.ext hc
   refine (wp_if hF (b := ((rl1 == 0) && x6)) rfl (fun hb => ?_) (fun hb => ?_))
   · replace h := iteT hb h
     refine (wp_text' ?_)
     refine from_pure 2 [(0, Str.val p0), (1, I p1), (2, I p2), (6, B b1 0), (8, L a1 x1 c1), (9, B b2 0), (45, I x5), (46, B b2 0)] hF (by kernel_rfl) fun fr hF => ?_
     refine q_storeBox 0 hs hM0 rfl [I 3, I 0, I 0, I 0] rfl hF rfl rfl (by kernel_rfl) rfl rfl rfl fun w10 S8 hs hp hF => ?_
     have tb := tb.stp hM0 hp
     have hM0 := hM0.stp hp
     have hs : Sep [BX b2 38 [I 3, I 0, I 0, I 0], sl9 (L a1 x1 c1) x1, BX b1 38 [I 0, I 0, I 0, I 0]] w10 S8 := hs
     refine from_pure 1 [(0, Str.val p0), (1, I p1), (2, I p2), (6, B b1 0), (8, L a1 x1 c1), (9, B b2 0), (45, I x5), (47, B b2 3)] hF (by kernel_rfl) fun fr hF => ?_
     refine q_storeBox 0 hs hM0 rfl [I 3, I 0, I 0, I x5] rfl hF rfl rfl (by kernel_rfl) rfl rfl rfl fun w11 S9 hs hp hF => ?_
     have tb := tb.stp hM0 hp
     have hM0 := hM0.stp hp
     have hs : Sep [BX b2 38 [I 3, I 0, I 0, I x5], sl9 (L a1 x1 c1) x1, BX b1 38 [I 0, I 0, I 0, I 0]] w11 S9 := hs
     refine from_end rfl (then_normal ?_)
     refine wp_seq (wp_block ?_)
     refine wp_seq (wp_pure [(0, Str.val p0), (1, I p1), (2, I p2), (6, B b1 0), (8, L a1 x1 c1), (9, B b2 0), (48, .bool ((len x1) == 3))] hF (by kernel_rfl) fun fr hF => then_normal ?_)
     refine (wp_if hF (b := ((len x1) == 3)) rfl (fun hb => ?_) (fun hb => ?_))
     · replace h := iteT hb h
       obtain ⟨x7, hx7, h⟩ := bindE h
       obtain ⟨x8, hx8, h⟩ := bindE h
       obtain ⟨x9, hx9, h⟩ := bindE h
       obtain ⟨x10, hx10, h⟩ := bindE h
       refine (region_bm 9 [0, 1, 3, 7, 0, 16, 48, 127, 15, 511, 1023, 2047] [true, false, false, false, true, false, false, false, true]
           [.eq (L a1 x1 c1), .is fun v w => ElemP w (fun k => k < w11.heap.size) v (x7 : Str), .eq (Str.val x7), .eq (I x8), .eq (L a1 x1 c1), .is fun v w => ElemP w (fun k => k < w11.heap.size) v (x9 : Str), .eq (Str.val x9), .eq (I x10), .eq (B b2 1), .any, .any, .any]
           [(0, Str.val p0), (1, I p1), (2, I p2), (6, B b1 0), (9, B b2 0), (55, I x8), (59, I x10), (60, B b2 1)] mix hF (by kernel_rfl) (by kernel_rfl) (by kernel_rfl) (by kernel_rfl) ⟨(Pd.monoO_is mono_elem), Pd.monoO_eq, Pd.monoO_eq, (Pd.monoO_is mono_elem), Pd.monoO_eq, Pd.monoO_eq, trivial⟩ (fun ow hG => ⟨np_to ow (np_index hG hF ty9 Tryz.underlying30 rfl rfl (RV.sub (hs.rv 1 rfl) fun k hk _ => hk) rfl rfl (fun hg => ⟨get?_nn hx7, get?_at hx7⟩)), np_to ow (np_loadF (z := x7) (i := 1) hG hF ty9 rfl rfl rfl rfl rfl rfl rfl), np_to ow (np_call [Str.val x7] hG hF Tryz.call40 rfl rfl (fun w hC hg => (impl_parseOperand_ok x7 hx8 (tb.ext hC)).mono fun e w' ⟨v, he, hv, hc⟩ => ⟨v, he, hc, hv⟩)), np_to ow (np_index hG hF ty9 Tryz.underlying30 rfl rfl (RV.sub (hs.rv 1 rfl) fun k hk _ => hk) rfl rfl (fun hg => ⟨get?_nn hx9, get?_at hx9⟩)), np_to ow (np_loadF (z := x9) (i := 5) hG hF ty9 rfl rfl rfl rfl rfl rfl rfl), np_to ow (np_call [Str.val x9] hG hF Tryz.call40 rfl rfl (fun w hC hg => (impl_parseOperand_ok x9 hx10 (tb.ext hC)).mono fun e w' ⟨v, he, hv, hc⟩ => ⟨v, he, hc, hv⟩)), trivial⟩) (by kernel_rfl) fun ow fr w12 hF hE hc => ?_)
       have tb := tb.ext hc
       have hs := hs.ext hc
       have hM0 := hM0.ext hc
       have hs : Sep [BX b2 38 [I 3, I 0, I 0, I x5], BX b1 38 [I 0, I 0, I 0, I 0]] w12 S9 := Sep.pick [0, 2] hs (by decide) rfl
       refine q_storeBox 0 hs hM0 rfl [I 3, I x8, I 0, I x5] rfl hF rfl rfl (by kernel_rfl) rfl rfl rfl fun w13 S10 hs hp hF => ?_
       have tb := tb.stp hM0 hp
       have hM0 := hM0.stp hp
       have hs : Sep [BX b2 38 [I 3, I x8, I 0, I x5], BX b1 38 [I 0, I 0, I 0, I 0]] w13 S10 := hs
       refine from_pure 1 [(0, Str.val p0), (1, I p1), (2, I p2), (6, B b1 0), (9, B b2 0), (59, I x10), (61, B b2 2)] hF (by kernel_rfl) fun fr hF => ?_
       refine q_storeBox 0 hs hM0 rfl [I 3, I x8, I x10, I x5] rfl hF rfl rfl (by kernel_rfl) rfl rfl rfl fun w14 S11 hs hp hF => ?_
       have tb := tb.stp hM0 hp
       have hM0 := hM0.stp hp
       have hs : Sep [BX b2 38 [I 3, I x8, I x10, I x5], BX b1 38 [I 0, I 0, I 0, I 0]] w14 S11 := hs
       refine from_end rfl ?_
       refine blk_normal (then_normal ?_)
       refine wp_seq ?_
       refine wp_seq (wp_text' ?_)
       refine s_loadBoxS ty38 rfl rfl hF rfl (hs.bx 0 rfl) rfl rfl fun fr hF => ?_
       refine from_pure 2 [(0, Str.val p0), (6, B b1 0), (9, B b2 0), (90, .agg #[I 3, I x8, I x10, I x5]), (91, I p1), (92, I p2)] hF (by kernel_rfl) fun fr hF => ?_
       obtain ⟨x11, hx11, h⟩ := bindE h
       refine s_call [.agg #[I 3, I x8, I x10, I x5], I p1, I p2] Tryz.call41 rfl rfl hF rfl (impl_FormatIns_ok (D.Ins.mk 3 x8 x10 x5) p1 p2 hx11 tb) fun v w15 fr hRes hF => ?_
       obtain ⟨rfl, hc⟩ := hRes
       have tb := tb.ext hc
       have hs := hs.ext hc
       have hM0 := hM0.ext hc
       refine from_pure 2 [(6, B b1 0), (9, B b2 0), (95, .bool (!(Str.eqb x11 p0)))] hF (by kernel_rfl) fun fr hF => ?_
       refine from_end rfl (then_normal ?_)
       refine (wp_if hF (b := (!(Str.eqb x11 p0))) rfl (fun hb => ?_) (fun hb => ?_))
       · replace h := iteT hb h
         have hs : Sep [BX b1 38 [I 0, I 0, I 0, I 0]] w15 S11 := Sep.pick [1] hs (by decide) rfl
         refine wp_seq (wp_text' ?_)
         refine from_pure 1 [(6, B b1 0), (96, .agg #[I 0, I 0, I 0, I 0])] hF (by kernel_rfl) fun fr hF => ?_
         refine q_storeBoxS 0 hs hM0 rfl [I 0, I 0, I 0, I 0] rfl hF rfl rfl (by kernel_rfl) rfl rfl rfl fun w16 S12 hs hp hF => ?_
         have tb := tb.stp hM0 hp
         have hM0 := hM0.stp hp
         have hs : Sep [BX b1 38 [I 0, I 0, I 0, I 0]] w16 S12 := hs
         refine from_pure 1 [(6, B b1 0), (7, .bool false)] hF (by kernel_rfl) fun fr hF => ?_
         refine from_end rfl (then_normal ?_)
         have hrets := fun {σ : List (Nat × Value)} (h : σ = [(6, B b1 0), (7, .bool false)]) => (by subst h; exact (Rets.cell rfl ty38 (hs.bx 0 rfl) rfl rfl (Rets.tmp rfl Rets.nil)) : Rets Tryz.prog σ w16 [.cell 6 38, .tmp 7] [.agg #[I 0, I 0, I 0, I 0], .bool false])
         obtain rfl := Option.some.inj h
         exact wp_ret (then_ret (retG (rs := [.cell 6 38, .tmp 7]) rfl (hF.sub [(6, B b1 0), (7, .bool false)] (by kernel_rfl)) (hrets rfl) rfl ⟨_, rfl, rfl, hM0.chg⟩))
       replace h := iteF hb h
       refine (wp_skip (then_normal ?_))
       refine wp_seq (wp_text' ?_)
       refine s_loadBoxS ty38 rfl rfl hF rfl (hs.bx 0 rfl) rfl rfl fun fr hF => ?_
       have hs : Sep [BX b1 38 [I 0, I 0, I 0, I 0]] w15 S11 := Sep.pick [1] hs (by decide) rfl
       refine q_storeBoxS 0 hs hM0 rfl [I 3, I x8, I x10, I x5] rfl hF rfl rfl (by kernel_rfl) rfl rfl rfl fun w17 S13 hs hp hF => ?_
       have tb := tb.stp hM0 hp
       have hM0 := hM0.stp hp
       have hs : Sep [BX b1 38 [I 3, I x8, I x10, I x5]] w17 S13 := hs
       refine from_pure 1 [(6, B b1 0), (7, .bool true)] hF (by kernel_rfl) fun fr hF => ?_
       refine from_end rfl (then_normal ?_)
       have hrets := fun {σ : List (Nat × Value)} (h : σ = [(6, B b1 0), (7, .bool true)]) => (by subst h; exact (Rets.cell rfl ty38 (hs.bx 0 rfl) rfl rfl (Rets.tmp rfl Rets.nil)) : Rets Tryz.prog σ w17 [.cell 6 38, .tmp 7] [.agg #[I 3, I x8, I x10, I x5], .bool true])
       obtain rfl := Option.some.inj h
       exact wp_ret (retG (rs := [.cell 6 38, .tmp 7]) rfl (hF.sub [(6, B b1 0), (7, .bool true)] (by kernel_rfl)) (hrets rfl) rfl ⟨_, rfl, rfl, hM0.chg⟩)
     replace h := iteF hb h
     refine wp_seq (wp_text' ?_)
     refine from_pure 1 [(0, Str.val p0), (1, I p1), (2, I p2), (6, B b1 0), (8, L a1 x1 c1), (9, B b2 0), (63, L a1 x1 c1)] hF (by kernel_rfl) fun fr hF => ?_
     refine from_pure 1 [(0, Str.val p0), (1, I p1), (2, I p2), (6, B b1 0), (8, L a1 x1 c1), (9, B b2 0), (64, I (len x1))] hF (by kernel_rfl) fun fr hF => ?_
     refine from_pure 1 [(0, Str.val p0), (1, I p1), (2, I p2), (6, B b1 0), (8, L a1 x1 c1), (9, B b2 0), (65, .bool ((len x1) == 2))] hF (by kernel_rfl) fun fr hF => ?_
     refine from_pure 1 [(0, Str.val p0), (1, I p1), (2, I p2), (6, B b1 0), (8, L a1 x1 c1), (9, B b2 0), (66, .bool ((len x1) == 2))] hF (by kernel_rfl) fun fr hF => ?_
     rcases ite_split (b := ((len x1) == 2)) h with ⟨hg1, h⟩ | ⟨hg1, h⟩
     · simp only [hg1] at hF
       refine from_takeL hF rfl rfl rfl rfl rfl rfl ?_
       dsimp only [List.set]
       refine from_pure 1 [(0, Str.val p0), (1, I p1), (2, I p2), (6, B b1 0), (8, L a1 x1 c1), (9, B b2 0), (66, .bool true), (67, B b2 0)] hF (by kernel_rfl) fun fr hF => ?_
       refine from_takeL hF rfl rfl rfl rfl rfl rfl ?_
       dsimp only [List.set]
       refine s_loadBox (I 3) ty3 rfl rfl hF rfl (hs.bx 0 rfl) rfl rfl fun fr hF => ?_
       refine from_takeL hF rfl rfl rfl rfl rfl rfl ?_
       dsimp only [List.set]
       refine from_pure 1 [(0, Str.val p0), (1, I p1), (2, I p2), (6, B b1 0), (8, L a1 x1 c1), (9, B b2 0), (66, .bool true), (69, .bool (3 == 9))] hF (by kernel_rfl) fun fr hF => ?_
       refine from_takeL hF rfl rfl rfl rfl rfl rfl ?_
       dsimp only [List.set]
       refine from_pure 1 [(0, Str.val p0), (1, I p1), (2, I p2), (6, B b1 0), (8, L a1 x1 c1), (9, B b2 0), (66, .bool true), (70, .bool (3 == 9))] hF (by kernel_rfl) fun fr hF => ?_
       rcases ite_split (b := (3 == 9)) h with ⟨hg2, h⟩ | ⟨hg2, h⟩
       · simp only [hg2] at hF
         refine from_skip hF rfl rfl rfl rfl rfl rfl rfl rfl rfl fun fr hF => ?_
         refine from_skip hF rfl rfl rfl rfl rfl rfl rfl rfl rfl fun fr hF => ?_
         refine from_skip hF rfl rfl rfl rfl rfl rfl rfl rfl rfl fun fr hF => ?_
         refine from_takeL hF rfl rfl rfl rfl rfl rfl ?_
         dsimp only [List.set]
         refine from_pick rfl rfl hF rfl rfl fun fr hF => ?_
         refine from_pick rfl rfl hF rfl rfl fun fr hF => ?_
         refine from_pure 1 [(0, Str.val p0), (1, I p1), (2, I p2), (6, B b1 0), (8, L a1 x1 c1), (9, B b2 0), (62, .bool true)] hF (by kernel_rfl) fun fr hF => ?_
         refine from_end rfl (then_normal ?_)
         refine (wp_if hF (b := true) rfl (fun hb => ?_) (fun hb => ?_))
         · replace h := iteT hb h
           refine (wp_text' ?_)
           refine from_pure 1 [(0, Str.val p0), (1, I p1), (2, I p2), (6, B b1 0), (9, B b2 0), (76, L a1 x1 c1)] hF (by kernel_rfl) fun fr hF => ?_
           obtain ⟨x12, hx12, h⟩ := bindE h
           refine s_elemF (z := x12) (Str.val x12) ty9 Tryz.underlying30 rfl rfl rfl rfl rfl hF rfl (hs.rv 1 rfl) rfl (get?_nn hx12) (get?_at hx12) rfl fun p fr hF => ?_
           have hs : Sep [BX b2 38 [I 3, I 0, I 0, I x5], BX b1 38 [I 0, I 0, I 0, I 0]] w11 S9 := Sep.pick [0, 2] hs (by decide) rfl
           obtain ⟨x13, hx13, h⟩ := bindE h
           refine s_call [Str.val x12] Tryz.call40 rfl rfl hF rfl (impl_parseOperand_ok x12 hx13 tb) fun v w18 fr hRes hF => ?_
           obtain ⟨rfl, hc⟩ := hRes
           have tb := tb.ext hc
           have hs := hs.ext hc
           have hM0 := hM0.ext hc
           refine from_pure 1 [(0, Str.val p0), (1, I p1), (2, I p2), (6, B b1 0), (9, B b2 0), (79, I x13), (80, B b2 2)] hF (by kernel_rfl) fun fr hF => ?_
           refine q_storeBox 0 hs hM0 rfl [I 3, I 0, I x13, I x5] rfl hF rfl rfl (by kernel_rfl) rfl rfl rfl fun w19 S14 hs hp hF => ?_
           have tb := tb.stp hM0 hp
           have hM0 := hM0.stp hp
           have hs : Sep [BX b2 38 [I 3, I 0, I x13, I x5], BX b1 38 [I 0, I 0, I 0, I 0]] w19 S14 := hs
           refine from_end rfl ?_
           refine blk_normal (then_normal ?_)
           refine wp_seq ?_
           refine wp_seq (wp_text' ?_)
           refine s_loadBoxS ty38 rfl rfl hF rfl (hs.bx 0 rfl) rfl rfl fun fr hF => ?_
           refine from_pure 2 [(0, Str.val p0), (6, B b1 0), (9, B b2 0), (90, .agg #[I 3, I 0, I x13, I x5]), (91, I p1), (92, I p2)] hF (by kernel_rfl) fun fr hF => ?_
           obtain ⟨x14, hx14, h⟩ := bindE h
           refine s_call [.agg #[I 3, I 0, I x13, I x5], I p1, I p2] Tryz.call41 rfl rfl hF rfl (impl_FormatIns_ok (D.Ins.mk 3 0 x13 x5) p1 p2 hx14 tb) fun v w20 fr hRes hF => ?_
           obtain ⟨rfl, hc⟩ := hRes
           have tb := tb.ext hc
           have hs := hs.ext hc
           have hM0 := hM0.ext hc
           refine from_pure 2 [(6, B b1 0), (9, B b2 0), (95, .bool (!(Str.eqb x14 p0)))] hF (by kernel_rfl) fun fr hF => ?_
           refine from_end rfl (then_normal ?_)
           refine (wp_if hF (b := (!(Str.eqb x14 p0))) rfl (fun hb => ?_) (fun hb => ?_))
           · replace h := iteT hb h
             have hs : Sep [BX b1 38 [I 0, I 0, I 0, I 0]] w20 S14 := Sep.pick [1] hs (by decide) rfl
             refine wp_seq (wp_text' ?_)
             refine from_pure 1 [(6, B b1 0), (96, .agg #[I 0, I 0, I 0, I 0])] hF (by kernel_rfl) fun fr hF => ?_
             refine q_storeBoxS 0 hs hM0 rfl [I 0, I 0, I 0, I 0] rfl hF rfl rfl (by kernel_rfl) rfl rfl rfl fun w21 S15 hs hp hF => ?_
             have tb := tb.stp hM0 hp
             have hM0 := hM0.stp hp
             have hs : Sep [BX b1 38 [I 0, I 0, I 0, I 0]] w21 S15 := hs
             refine from_pure 1 [(6, B b1 0), (7, .bool false)] hF (by kernel_rfl) fun fr hF => ?_
             refine from_end rfl (then_normal ?_)
             have hrets := fun {σ : List (Nat × Value)} (h : σ = [(6, B b1 0), (7, .bool false)]) => (by subst h; exact (Rets.cell rfl ty38 (hs.bx 0 rfl) rfl rfl (Rets.tmp rfl Rets.nil)) : Rets Tryz.prog σ w21 [.cell 6 38, .tmp 7] [.agg #[I 0, I 0, I 0, I 0], .bool false])
             obtain rfl := Option.some.inj h
             exact wp_ret (then_ret (retG (rs := [.cell 6 38, .tmp 7]) rfl (hF.sub [(6, B b1 0), (7, .bool false)] (by kernel_rfl)) (hrets rfl) rfl ⟨_, rfl, rfl, hM0.chg⟩))
           replace h := iteF hb h
           refine (wp_skip (then_normal ?_))
           refine wp_seq (wp_text' ?_)
           refine s_loadBoxS ty38 rfl rfl hF rfl (hs.bx 0 rfl) rfl rfl fun fr hF => ?_
           have hs : Sep [BX b1 38 [I 0, I 0, I 0, I 0]] w20 S14 := Sep.pick [1] hs (by decide) rfl
           refine q_storeBoxS 0 hs hM0 rfl [I 3, I 0, I x13, I x5] rfl hF rfl rfl (by kernel_rfl) rfl rfl rfl fun w22 S16 hs hp hF => ?_
           have tb := tb.stp hM0 hp
           have hM0 := hM0.stp hp
           have hs : Sep [BX b1 38 [I 3, I 0, I x13, I x5]] w22 S16 := hs
           refine from_pure 1 [(6, B b1 0), (7, .bool true)] hF (by kernel_rfl) fun fr hF => ?_
           refine from_end rfl (then_normal ?_)
           have hrets := fun {σ : List (Nat × Value)} (h : σ = [(6, B b1 0), (7, .bool true)]) => (by subst h; exact (Rets.cell rfl ty38 (hs.bx 0 rfl) rfl rfl (Rets.tmp rfl Rets.nil)) : Rets Tryz.prog σ w22 [.cell 6 38, .tmp 7] [.agg #[I 3, I 0, I x13, I x5], .bool true])
           obtain rfl := Option.some.inj h
           exact wp_ret (retG (rs := [.cell 6 38, .tmp 7]) rfl (hF.sub [(6, B b1 0), (7, .bool true)] (by kernel_rfl)) (hrets rfl) rfl ⟨_, rfl, rfl, hM0.chg⟩)
         replace h := iteF hb h
         refine wp_seq (wp_pure [(0, Str.val p0), (1, I p1), (2, I p2), (6, B b1 0), (8, L a1 x1 c1), (9, B b2 0), (81, .bool ((len x1) == 2))] hF (by kernel_rfl) fun fr hF => then_normal ?_)
         refine (wp_if hF (b := ((len x1) == 2)) rfl (fun hb => ?_) (fun hb => ?_))
         · replace h := iteT hb h
           refine (wp_text' ?_)
           refine from_pure 1 [(0, Str.val p0), (1, I p1), (2, I p2), (6, B b1 0), (9, B b2 0), (85, L a1 x1 c1)] hF (by kernel_rfl) fun fr hF => ?_
           obtain ⟨x15, hx15, h⟩ := bindE h
           refine s_elemF (z := x15) (Str.val x15) ty9 Tryz.underlying30 rfl rfl rfl rfl rfl hF rfl (hs.rv 1 rfl) rfl (get?_nn hx15) (get?_at hx15) rfl fun p fr hF => ?_
           have hs : Sep [BX b2 38 [I 3, I 0, I 0, I x5], BX b1 38 [I 0, I 0, I 0, I 0]] w11 S9 := Sep.pick [0, 2] hs (by decide) rfl
           obtain ⟨x16, hx16, h⟩ := bindE h
           refine s_call [Str.val x15] Tryz.call40 rfl rfl hF rfl (impl_parseOperand_ok x15 hx16 tb) fun v w23 fr hRes hF => ?_
           obtain ⟨rfl, hc⟩ := hRes
           have tb := tb.ext hc
           have hs := hs.ext hc
           have hM0 := hM0.ext hc
           refine from_pure 1 [(0, Str.val p0), (1, I p1), (2, I p2), (6, B b1 0), (9, B b2 0), (88, I x16), (89, B b2 1)] hF (by kernel_rfl) fun fr hF => ?_
           refine q_storeBox 0 hs hM0 rfl [I 3, I x16, I 0, I x5] rfl hF rfl rfl (by kernel_rfl) rfl rfl rfl fun w24 S17 hs hp hF => ?_
           have tb := tb.stp hM0 hp
           have hM0 := hM0.stp hp
           have hs : Sep [BX b2 38 [I 3, I x16, I 0, I x5], BX b1 38 [I 0, I 0, I 0, I 0]] w24 S17 := hs
           refine from_end rfl ?_
           refine blk_normal (then_normal ?_)
           refine wp_seq ?_
           refine wp_seq (wp_text' ?_)
           refine s_loadBoxS ty38 rfl rfl hF rfl (hs.bx 0 rfl) rfl rfl fun fr hF => ?_
           refine from_pure 2 [(0, Str.val p0), (6, B b1 0), (9, B b2 0), (90, .agg #[I 3, I x16, I 0, I x5]), (91, I p1), (92, I p2)] hF (by kernel_rfl) fun fr hF => ?_
           obtain ⟨x17, hx17, h⟩ := bindE h
           refine s_call [.agg #[I 3, I x16, I 0, I x5], I p1, I p2] Tryz.call41 rfl rfl hF rfl (impl_FormatIns_ok (D.Ins.mk 3 x16 0 x5) p1 p2 hx17 tb) fun v w25 fr hRes hF => ?_
           obtain ⟨rfl, hc⟩ := hRes
           have tb := tb.ext hc
           have hs := hs.ext hc
           have hM0 := hM0.ext hc
           refine from_pure 2 [(6, B b1 0), (9, B b2 0), (95, .bool (!(Str.eqb x17 p0)))] hF (by kernel_rfl) fun fr hF => ?_
           refine from_end rfl (then_normal ?_)
           refine (wp_if hF (b := (!(Str.eqb x17 p0))) rfl (fun hb => ?_) (fun hb => ?_))
           · replace h := iteT hb h
             have hs : Sep [BX b1 38 [I 0, I 0, I 0, I 0]] w25 S17 := Sep.pick [1] hs (by decide) rfl
             refine wp_seq (wp_text' ?_)
             refine from_pure 1 [(6, B b1 0), (96, .agg #[I 0, I 0, I 0, I 0])] hF (by kernel_rfl) fun fr hF => ?_
             refine q_storeBoxS 0 hs hM0 rfl [I 0, I 0, I 0, I 0] rfl hF rfl rfl (by kernel_rfl) rfl rfl rfl fun w26 S18 hs hp hF => ?_
             have tb := tb.stp hM0 hp
             have hM0 := hM0.stp hp
             have hs : Sep [BX b1 38 [I 0, I 0, I 0, I 0]] w26 S18 := hs
             refine from_pure 1 [(6, B b1 0), (7, .bool false)] hF (by kernel_rfl) fun fr hF => ?_
             refine from_end rfl (then_normal ?_)
             have hrets := fun {σ : List (Nat × Value)} (h : σ = [(6, B b1 0), (7, .bool false)]) => (by subst h; exact (Rets.cell rfl ty38 (hs.bx 0 rfl) rfl rfl (Rets.tmp rfl Rets.nil)) : Rets Tryz.prog σ w26 [.cell 6 38, .tmp 7] [.agg #[I 0, I 0, I 0, I 0], .bool false])
             obtain rfl := Option.some.inj h
             exact wp_ret (then_ret (retG (rs := [.cell 6 38, .tmp 7]) rfl (hF.sub [(6, B b1 0), (7, .bool false)] (by kernel_rfl)) (hrets rfl) rfl ⟨_, rfl, rfl, hM0.chg⟩))
           replace h := iteF hb h
           refine (wp_skip (then_normal ?_))
           refine wp_seq (wp_text' ?_)
           refine s_loadBoxS ty38 rfl rfl hF rfl (hs.bx 0 rfl) rfl rfl fun fr hF => ?_
           have hs : Sep [BX b1 38 [I 0, I 0, I 0, I 0]] w25 S17 := Sep.pick [1] hs (by decide) rfl
           refine q_storeBoxS 0 hs hM0 rfl [I 3, I x16, I 0, I x5] rfl hF rfl rfl (by kernel_rfl) rfl rfl rfl fun w27 S19 hs hp hF => ?_
           have tb := tb.stp hM0 hp
           have hM0 := hM0.stp hp
           have hs : Sep [BX b1 38 [I 3, I x16, I 0, I x5]] w27 S19 := hs
           refine from_pure 1 [(6, B b1 0), (7, .bool true)] hF (by kernel_rfl) fun fr hF => ?_
           refine from_end rfl (then_normal ?_)
           have hrets := fun {σ : List (Nat × Value)} (h : σ = [(6, B b1 0), (7, .bool true)]) => (by subst h; exact (Rets.cell rfl ty38 (hs.bx 0 rfl) rfl rfl (Rets.tmp rfl Rets.nil)) : Rets Tryz.prog σ w27 [.cell 6 38, .tmp 7] [.agg #[I 3, I x16, I 0, I x5], .bool true])
           obtain rfl := Option.some.inj h
           exact wp_ret (retG (rs := [.cell 6 38, .tmp 7]) rfl (hF.sub [(6, B b1 0), (7, .bool true)] (by kernel_rfl)) (hrets rfl) rfl ⟨_, rfl, rfl, hM0.chg⟩)
         replace h := iteF hb h
         have hs : Sep [BX b2 38 [I 3, I 0, I 0, I x5], BX b1 38 [I 0, I 0, I 0, I 0]] w11 S9 := Sep.pick [0, 2] hs (by decide) rfl
         refine (wp_skip ?_)
         refine blk_normal (then_normal ?_)
         refine wp_seq ?_
         refine wp_seq (wp_text' ?_)
         refine s_loadBoxS ty38 rfl rfl hF rfl (hs.bx 0 rfl) rfl rfl fun fr hF => ?_
         refine from_pure 2 [(0, Str.val p0), (6, B b1 0), (9, B b2 0), (90, .agg #[I 3, I 0, I 0, I x5]), (91, I p1), (92, I p2)] hF (by kernel_rfl) fun fr hF => ?_
         obtain ⟨x18, hx18, h⟩ := bindE h
         refine s_call [.agg #[I 3, I 0, I 0, I x5], I p1, I p2] Tryz.call41 rfl rfl hF rfl (impl_FormatIns_ok (D.Ins.mk 3 0 0 x5) p1 p2 hx18 tb) fun v w28 fr hRes hF => ?_
         obtain ⟨rfl, hc⟩ := hRes
         have tb := tb.ext hc
         have hs := hs.ext hc
         have hM0 := hM0.ext hc
         refine from_pure 2 [(6, B b1 0), (9, B b2 0), (95, .bool (!(Str.eqb x18 p0)))] hF (by kernel_rfl) fun fr hF => ?_
         refine from_end rfl (then_normal ?_)
         refine (wp_if hF (b := (!(Str.eqb x18 p0))) rfl (fun hb => ?_) (fun hb => ?_))
         · replace h := iteT hb h
           have hs : Sep [BX b1 38 [I 0, I 0, I 0, I 0]] w28 S9 := Sep.pick [1] hs (by decide) rfl
           refine wp_seq (wp_text' ?_)
           refine from_pure 1 [(6, B b1 0), (96, .agg #[I 0, I 0, I 0, I 0])] hF (by kernel_rfl) fun fr hF => ?_
           refine q_storeBoxS 0 hs hM0 rfl [I 0, I 0, I 0, I 0] rfl hF rfl rfl (by kernel_rfl) rfl rfl rfl fun w29 S20 hs hp hF => ?_
           have tb := tb.stp hM0 hp
           have hM0 := hM0.stp hp
           have hs : Sep [BX b1 38 [I 0, I 0, I 0, I 0]] w29 S20 := hs
           refine from_pure 1 [(6, B b1 0), (7, .bool false)] hF (by kernel_rfl) fun fr hF => ?_
           refine from_end rfl (then_normal ?_)
           have hrets := fun {σ : List (Nat × Value)} (h : σ = [(6, B b1 0), (7, .bool false)]) => (by subst h; exact (Rets.cell rfl ty38 (hs.bx 0 rfl) rfl rfl (Rets.tmp rfl Rets.nil)) : Rets Tryz.prog σ w29 [.cell 6 38, .tmp 7] [.agg #[I 0, I 0, I 0, I 0], .bool false])
           obtain rfl := Option.some.inj h
           exact wp_ret (then_ret (retG (rs := [.cell 6 38, .tmp 7]) rfl (hF.sub [(6, B b1 0), (7, .bool false)] (by kernel_rfl)) (hrets rfl) rfl ⟨_, rfl, rfl, hM0.chg⟩))
         replace h := iteF hb h
         refine (wp_skip (then_normal ?_))
         refine wp_seq (wp_text' ?_)
         refine s_loadBoxS ty38 rfl rfl hF rfl (hs.bx 0 rfl) rfl rfl fun fr hF => ?_
         have hs : Sep [BX b1 38 [I 0, I 0, I 0, I 0]] w28 S9 := Sep.pick [1] hs (by decide) rfl
         refine q_storeBoxS 0 hs hM0 rfl [I 3, I 0, I 0, I x5] rfl hF rfl rfl (by kernel_rfl) rfl rfl rfl fun w30 S21 hs hp hF => ?_
         have tb := tb.stp hM0 hp
         have hM0 := hM0.stp hp
         have hs : Sep [BX b1 38 [I 3, I 0, I 0, I x5]] w30 S21 := hs
         refine from_pure 1 [(6, B b1 0), (7, .bool true)] hF (by kernel_rfl) fun fr hF => ?_
         refine from_end rfl (then_normal ?_)
         have hrets := fun {σ : List (Nat × Value)} (h : σ = [(6, B b1 0), (7, .bool true)]) => (by subst h; exact (Rets.cell rfl ty38 (hs.bx 0 rfl) rfl rfl (Rets.tmp rfl Rets.nil)) : Rets Tryz.prog σ w30 [.cell 6 38, .tmp 7] [.agg #[I 3, I 0, I 0, I x5], .bool true])
         obtain rfl := Option.some.inj h
         exact wp_ret (retG (rs := [.cell 6 38, .tmp 7]) rfl (hF.sub [(6, B b1 0), (7, .bool true)] (by kernel_rfl)) (hrets rfl) rfl ⟨_, rfl, rfl, hM0.chg⟩)
       simp only [hg2] at hF
       refine from_takeL hF rfl rfl rfl rfl rfl rfl ?_
       dsimp only [List.set]
       refine from_pure 1 [(0, Str.val p0), (1, I p1), (2, I p2), (6, B b1 0), (8, L a1 x1 c1), (9, B b2 0), (66, .bool true), (70, .bool false), (71, B b2 0)] hF (by kernel_rfl) fun fr hF => ?_
       refine from_takeL hF rfl rfl rfl rfl rfl rfl ?_
       dsimp only [List.set]
       refine s_loadBox (I 3) ty3 rfl rfl hF rfl (hs.bx 0 rfl) rfl rfl fun fr hF => ?_
       refine from_takeL hF rfl rfl rfl rfl rfl rfl ?_
       dsimp only [List.set]
       refine from_pure 1 [(0, Str.val p0), (1, I p1), (2, I p2), (6, B b1 0), (8, L a1 x1 c1), (9, B b2 0), (66, .bool true), (70, .bool false), (73, .bool (3 == 11))] hF (by kernel_rfl) fun fr hF => ?_
       refine from_takeL hF rfl rfl rfl rfl rfl rfl ?_
       dsimp only [List.set]
       refine from_pick rfl rfl hF rfl rfl fun fr hF => ?_
       refine from_pick rfl rfl hF rfl rfl fun fr hF => ?_
       refine from_pure 1 [(0, Str.val p0), (1, I p1), (2, I p2), (6, B b1 0), (8, L a1 x1 c1), (9, B b2 0), (62, .bool (3 == 11))] hF (by kernel_rfl) fun fr hF => ?_
       refine from_end rfl (then_normal ?_)
       refine (wp_if hF (b := (3 == 11)) rfl (fun hb => ?_) (fun hb => ?_))
       · replace h := iteT hb h
         refine (wp_text' ?_)
         refine from_pure 1 [(0, Str.val p0), (1, I p1), (2, I p2), (6, B b1 0), (9, B b2 0), (76, L a1 x1 c1)] hF (by kernel_rfl) fun fr hF => ?_
         obtain ⟨x19, hx19, h⟩ := bindE h
         refine s_elemF (z := x19) (Str.val x19) ty9 Tryz.underlying30 rfl rfl rfl rfl rfl hF rfl (hs.rv 1 rfl) rfl (get?_nn hx19) (get?_at hx19) rfl fun p fr hF => ?_
         have hs : Sep [BX b2 38 [I 3, I 0, I 0, I x5], BX b1 38 [I 0, I 0, I 0, I 0]] w11 S9 := Sep.pick [0, 2] hs (by decide) rfl
         obtain ⟨x20, hx20, h⟩ := bindE h
         refine s_call [Str.val x19] Tryz.call40 rfl rfl hF rfl (impl_parseOperand_ok x19 hx20 tb) fun v w31 fr hRes hF => ?_
         obtain ⟨rfl, hc⟩ := hRes
         have tb := tb.ext hc
         have hs := hs.ext hc
         have hM0 := hM0.ext hc
         refine from_pure 1 [(0, Str.val p0), (1, I p1), (2, I p2), (6, B b1 0), (9, B b2 0), (79, I x20), (80, B b2 2)] hF (by kernel_rfl) fun fr hF => ?_
         refine q_storeBox 0 hs hM0 rfl [I 3, I 0, I x20, I x5] rfl hF rfl rfl (by kernel_rfl) rfl rfl rfl fun w32 S22 hs hp hF => ?_
         have tb := tb.stp hM0 hp
         have hM0 := hM0.stp hp
         have hs : Sep [BX b2 38 [I 3, I 0, I x20, I x5], BX b1 38 [I 0, I 0, I 0, I 0]] w32 S22 := hs
         refine from_end rfl ?_
         refine blk_normal (then_normal ?_)
         refine wp_seq ?_
         refine wp_seq (wp_text' ?_)
         refine s_loadBoxS ty38 rfl rfl hF rfl (hs.bx 0 rfl) rfl rfl fun fr hF => ?_
         refine from_pure 2 [(0, Str.val p0), (6, B b1 0), (9, B b2 0), (90, .agg #[I 3, I 0, I x20, I x5]), (91, I p1), (92, I p2)] hF (by kernel_rfl) fun fr hF => ?_
         obtain ⟨x21, hx21, h⟩ := bindE h
         refine s_call [.agg #[I 3, I 0, I x20, I x5], I p1, I p2] Tryz.call41 rfl rfl hF rfl (impl_FormatIns_ok (D.Ins.mk 3 0 x20 x5) p1 p2 hx21 tb) fun v w33 fr hRes hF => ?_
         obtain ⟨rfl, hc⟩ := hRes
         have tb := tb.ext hc
         have hs := hs.ext hc
         have hM0 := hM0.ext hc
         refine from_pure 2 [(6, B b1 0), (9, B b2 0), (95, .bool (!(Str.eqb x21 p0)))] hF (by kernel_rfl) fun fr hF => ?_
         refine from_end rfl (then_normal ?_)
         refine (wp_if hF (b := (!(Str.eqb x21 p0))) rfl (fun hb => ?_) (fun hb => ?_))
         · replace h := iteT hb h
           have hs : Sep [BX b1 38 [I 0, I 0, I 0, I 0]] w33 S22 := Sep.pick [1] hs (by decide) rfl
           refine wp_seq (wp_text' ?_)
           refine from_pure 1 [(6, B b1 0), (96, .agg #[I 0, I 0, I 0, I 0])] hF (by kernel_rfl) fun fr hF => ?_
           refine q_storeBoxS 0 hs hM0 rfl [I 0, I 0, I 0, I 0] rfl hF rfl rfl (by kernel_rfl) rfl rfl rfl fun w34 S23 hs hp hF => ?_
           have tb := tb.stp hM0 hp
           have hM0 := hM0.stp hp
           have hs : Sep [BX b1 38 [I 0, I 0, I 0, I 0]] w34 S23 := hs
           refine from_pure 1 [(6, B b1 0), (7, .bool false)] hF (by kernel_rfl) fun fr hF => ?_
           refine from_end rfl (then_normal ?_)
           have hrets := fun {σ : List (Nat × Value)} (h : σ = [(6, B b1 0), (7, .bool false)]) => (by subst h; exact (Rets.cell rfl ty38 (hs.bx 0 rfl) rfl rfl (Rets.tmp rfl Rets.nil)) : Rets Tryz.prog σ w34 [.cell 6 38, .tmp 7] [.agg #[I 0, I 0, I 0, I 0], .bool false])
           obtain rfl := Option.some.inj h
           exact wp_ret (then_ret (retG (rs := [.cell 6 38, .tmp 7]) rfl (hF.sub [(6, B b1 0), (7, .bool false)] (by kernel_rfl)) (hrets rfl) rfl ⟨_, rfl, rfl, hM0.chg⟩))
         replace h := iteF hb h
         refine (wp_skip (then_normal ?_))
         refine wp_seq (wp_text' ?_)
         refine s_loadBoxS ty38 rfl rfl hF rfl (hs.bx 0 rfl) rfl rfl fun fr hF => ?_
         have hs : Sep [BX b1 38 [I 0, I 0, I 0, I 0]] w33 S22 := Sep.pick [1] hs (by decide) rfl
         refine q_storeBoxS 0 hs hM0 rfl [I 3, I 0, I x20, I x5] rfl hF rfl rfl (by kernel_rfl) rfl rfl rfl fun w35 S24 hs hp hF => ?_
         have tb := tb.stp hM0 hp
         have hM0 := hM0.stp hp
         have hs : Sep [BX b1 38 [I 3, I 0, I x20, I x5]] w35 S24 := hs
         refine from_pure 1 [(6, B b1 0), (7, .bool true)] hF (by kernel_rfl) fun fr hF => ?_
         refine from_end rfl (then_normal ?_)
         have hrets := fun {σ : List (Nat × Value)} (h : σ = [(6, B b1 0), (7, .bool true)]) => (by subst h; exact (Rets.cell rfl ty38 (hs.bx 0 rfl) rfl rfl (Rets.tmp rfl Rets.nil)) : Rets Tryz.prog σ w35 [.cell 6 38, .tmp 7] [.agg #[I 3, I 0, I x20, I x5], .bool true])
         obtain rfl := Option.some.inj h
         exact wp_ret (retG (rs := [.cell 6 38, .tmp 7]) rfl (hF.sub [(6, B b1 0), (7, .bool true)] (by kernel_rfl)) (hrets rfl) rfl ⟨_, rfl, rfl, hM0.chg⟩)
       replace h := iteF hb h
       refine wp_seq (wp_pure [(0, Str.val p0), (1, I p1), (2, I p2), (6, B b1 0), (8, L a1 x1 c1), (9, B b2 0), (81, .bool ((len x1) == 2))] hF (by kernel_rfl) fun fr hF => then_normal ?_)
       refine (wp_if hF (b := ((len x1) == 2)) rfl (fun hb => ?_) (fun hb => ?_))
       · replace h := iteT hb h
         refine (wp_text' ?_)
         refine from_pure 1 [(0, Str.val p0), (1, I p1), (2, I p2), (6, B b1 0), (9, B b2 0), (85, L a1 x1 c1)] hF (by kernel_rfl) fun fr hF => ?_
         obtain ⟨x22, hx22, h⟩ := bindE h
         refine s_elemF (z := x22) (Str.val x22) ty9 Tryz.underlying30 rfl rfl rfl rfl rfl hF rfl (hs.rv 1 rfl) rfl (get?_nn hx22) (get?_at hx22) rfl fun p fr hF => ?_
         have hs : Sep [BX b2 38 [I 3, I 0, I 0, I x5], BX b1 38 [I 0, I 0, I 0, I 0]] w11 S9 := Sep.pick [0, 2] hs (by decide) rfl
         obtain ⟨x23, hx23, h⟩ := bindE h
         refine s_call [Str.val x22] Tryz.call40 rfl rfl hF rfl (impl_parseOperand_ok x22 hx23 tb) fun v w36 fr hRes hF => ?_
         obtain ⟨rfl, hc⟩ := hRes
         have tb := tb.ext hc
         have hs := hs.ext hc
         have hM0 := hM0.ext hc
         refine from_pure 1 [(0, Str.val p0), (1, I p1), (2, I p2), (6, B b1 0), (9, B b2 0), (88, I x23), (89, B b2 1)] hF (by kernel_rfl) fun fr hF => ?_
         refine q_storeBox 0 hs hM0 rfl [I 3, I x23, I 0, I x5] rfl hF rfl rfl (by kernel_rfl) rfl rfl rfl fun w37 S25 hs hp hF => ?_
         have tb := tb.stp hM0 hp
         have hM0 := hM0.stp hp
         have hs : Sep [BX b2 38 [I 3, I x23, I 0, I x5], BX b1 38 [I 0, I 0, I 0, I 0]] w37 S25 := hs
         refine from_end rfl ?_
         refine blk_normal (then_normal ?_)
         refine wp_seq ?_
         refine wp_seq (wp_text' ?_)
         refine s_loadBoxS ty38 rfl rfl hF rfl (hs.bx 0 rfl) rfl rfl fun fr hF => ?_
         refine from_pure 2 [(0, Str.val p0), (6, B b1 0), (9, B b2 0), (90, .agg #[I 3, I x23, I 0, I x5]), (91, I p1), (92, I p2)] hF (by kernel_rfl) fun fr hF => ?_
         obtain ⟨x24, hx24, h⟩ := bindE h
         refine s_call [.agg #[I 3, I x23, I 0, I x5], I p1, I p2] Tryz.call41 rfl rfl hF rfl (impl_FormatIns_ok (D.Ins.mk 3 x23 0 x5) p1 p2 hx24 tb) fun v w38 fr hRes hF => ?_
         obtain ⟨rfl, hc⟩ := hRes
         have tb := tb.ext hc
         have hs := hs.ext hc
         have hM0 := hM0.ext hc
         refine from_pure 2 [(6, B b1 0), (9, B b2 0), (95, .bool (!(Str.eqb x24 p0)))] hF (by kernel_rfl) fun fr hF => ?_
         refine from_end rfl (then_normal ?_)
         refine (wp_if hF (b := (!(Str.eqb x24 p0))) rfl (fun hb => ?_) (fun hb => ?_))
         · replace h := iteT hb h
           have hs : Sep [BX b1 38 [I 0, I 0, I 0, I 0]] w38 S25 := Sep.pick [1] hs (by decide) rfl
           refine wp_seq (wp_text' ?_)
           refine from_pure 1 [(6, B b1 0), (96, .agg #[I 0, I 0, I 0, I 0])] hF (by kernel_rfl) fun fr hF => ?_
           refine q_storeBoxS 0 hs hM0 rfl [I 0, I 0, I 0, I 0] rfl hF rfl rfl (by kernel_rfl) rfl rfl rfl fun w39 S26 hs hp hF => ?_
           have tb := tb.stp hM0 hp
           have hM0 := hM0.stp hp
           have hs : Sep [BX b1 38 [I 0, I 0, I 0, I 0]] w39 S26 := hs
           refine from_pure 1 [(6, B b1 0), (7, .bool false)] hF (by kernel_rfl) fun fr hF => ?_
           refine from_end rfl (then_normal ?_)
           have hrets := fun {σ : List (Nat × Value)} (h : σ = [(6, B b1 0), (7, .bool false)]) => (by subst h; exact (Rets.cell rfl ty38 (hs.bx 0 rfl) rfl rfl (Rets.tmp rfl Rets.nil)) : Rets Tryz.prog σ w39 [.cell 6 38, .tmp 7] [.agg #[I 0, I 0, I 0, I 0], .bool false])
           obtain rfl := Option.some.inj h
           exact wp_ret (then_ret (retG (rs := [.cell 6 38, .tmp 7]) rfl (hF.sub [(6, B b1 0), (7, .bool false)] (by kernel_rfl)) (hrets rfl) rfl ⟨_, rfl, rfl, hM0.chg⟩))
         replace h := iteF hb h
         refine (wp_skip (then_normal ?_))
         refine wp_seq (wp_text' ?_)
         refine s_loadBoxS ty38 rfl rfl hF rfl (hs.bx 0 rfl) rfl rfl fun fr hF => ?_
         have hs : Sep [BX b1 38 [I 0, I 0, I 0, I 0]] w38 S25 := Sep.pick [1] hs (by decide) rfl
         refine q_storeBoxS 0 hs hM0 rfl [I 3, I x23, I 0, I x5] rfl hF rfl rfl (by kernel_rfl) rfl rfl rfl fun w40 S27 hs hp hF => ?_
         have tb := tb.stp hM0 hp
         have hM0 := hM0.stp hp
         have hs : Sep [BX b1 38 [I 3, I x23, I 0, I x5]] w40 S27 := hs
         refine from_pure 1 [(6, B b1 0), (7, .bool true)] hF (by kernel_rfl) fun fr hF => ?_
         refine from_end rfl (then_normal ?_)
         have hrets := fun {σ : List (Nat × Value)} (h : σ = [(6, B b1 0), (7, .bool true)]) => (by subst h; exact (Rets.cell rfl ty38 (hs.bx 0 rfl) rfl rfl (Rets.tmp rfl Rets.nil)) : Rets Tryz.prog σ w40 [.cell 6 38, .tmp 7] [.agg #[I 3, I x23, I 0, I x5], .bool true])
         obtain rfl := Option.some.inj h
         exact wp_ret (retG (rs := [.cell 6 38, .tmp 7]) rfl (hF.sub [(6, B b1 0), (7, .bool true)] (by kernel_rfl)) (hrets rfl) rfl ⟨_, rfl, rfl, hM0.chg⟩)
       replace h := iteF hb h
       have hs : Sep [BX b2 38 [I 3, I 0, I 0, I x5], BX b1 38 [I 0, I 0, I 0, I 0]] w11 S9 := Sep.pick [0, 2] hs (by decide) rfl
       refine (wp_skip ?_)
       refine blk_normal (then_normal ?_)
       refine wp_seq ?_
       refine wp_seq (wp_text' ?_)
       refine s_loadBoxS ty38 rfl rfl hF rfl (hs.bx 0 rfl) rfl rfl fun fr hF => ?_
       refine from_pure 2 [(0, Str.val p0), (6, B b1 0), (9, B b2 0), (90, .agg #[I 3, I 0, I 0, I x5]), (91, I p1), (92, I p2)] hF (by kernel_rfl) fun fr hF => ?_
       obtain ⟨x25, hx25, h⟩ := bindE h
       refine s_call [.agg #[I 3, I 0, I 0, I x5], I p1, I p2] Tryz.call41 rfl rfl hF rfl (impl_FormatIns_ok (D.Ins.mk 3 0 0 x5) p1 p2 hx25 tb) fun v w41 fr hRes hF => ?_
       obtain ⟨rfl, hc⟩ := hRes
       have tb := tb.ext hc
       have hs := hs.ext hc
       have hM0 := hM0.ext hc
       refine from_pure 2 [(6, B b1 0), (9, B b2 0), (95, .bool (!(Str.eqb x25 p0)))] hF (by kernel_rfl) fun fr hF => ?_
       refine from_end rfl (then_normal ?_)
       refine (wp_if hF (b := (!(Str.eqb x25 p0))) rfl (fun hb => ?_) (fun hb => ?_))
       · replace h := iteT hb h
         have hs : Sep [BX b1 38 [I 0, I 0, I 0, I 0]] w41 S9 := Sep.pick [1] hs (by decide) rfl
         refine wp_seq (wp_text' ?_)
         refine from_pure 1 [(6, B b1 0), (96, .agg #[I 0, I 0, I 0, I 0])] hF (by kernel_rfl) fun fr hF => ?_
         refine q_storeBoxS 0 hs hM0 rfl [I 0, I 0, I 0, I 0] rfl hF rfl rfl (by kernel_rfl) rfl rfl rfl fun w42 S28 hs hp hF => ?_
         have tb := tb.stp hM0 hp
         have hM0 := hM0.stp hp
         have hs : Sep [BX b1 38 [I 0, I 0, I 0, I 0]] w42 S28 := hs
         refine from_pure 1 [(6, B b1 0), (7, .bool false)] hF (by kernel_rfl) fun fr hF => ?_
         refine from_end rfl (then_normal ?_)
         have hrets := fun {σ : List (Nat × Value)} (h : σ = [(6, B b1 0), (7, .bool false)]) => (by subst h; exact (Rets.cell rfl ty38 (hs.bx 0 rfl) rfl rfl (Rets.tmp rfl Rets.nil)) : Rets Tryz.prog σ w42 [.cell 6 38, .tmp 7] [.agg #[I 0, I 0, I 0, I 0], .bool false])
         obtain rfl := Option.some.inj h
         exact wp_ret (then_ret (retG (rs := [.cell 6 38, .tmp 7]) rfl (hF.sub [(6, B b1 0), (7, .bool false)] (by kernel_rfl)) (hrets rfl) rfl ⟨_, rfl, rfl, hM0.chg⟩))
       replace h := iteF hb h
       refine (wp_skip (then_normal ?_))
       refine wp_seq (wp_text' ?_)
       refine s_loadBoxS ty38 rfl rfl hF rfl (hs.bx 0 rfl) rfl rfl fun fr hF => ?_
       have hs : Sep [BX b1 38 [I 0, I 0, I 0, I 0]] w41 S9 := Sep.pick [1] hs (by decide) rfl
       refine q_storeBoxS 0 hs hM0 rfl [I 3, I 0, I 0, I x5] rfl hF rfl rfl (by kernel_rfl) rfl rfl rfl fun w43 S29 hs hp hF => ?_
       have tb := tb.stp hM0 hp
       have hM0 := hM0.stp hp
       have hs : Sep [BX b1 38 [I 3, I 0, I 0, I x5]] w43 S29 := hs
       refine from_pure 1 [(6, B b1 0), (7, .bool true)] hF (by kernel_rfl) fun fr hF => ?_
       refine from_end rfl (then_normal ?_)
       have hrets := fun {σ : List (Nat × Value)} (h : σ = [(6, B b1 0), (7, .bool true)]) => (by subst h; exact (Rets.cell rfl ty38 (hs.bx 0 rfl) rfl rfl (Rets.tmp rfl Rets.nil)) : Rets Tryz.prog σ w43 [.cell 6 38, .tmp 7] [.agg #[I 3, I 0, I 0, I x5], .bool true])
       obtain rfl := Option.some.inj h
       exact wp_ret (retG (rs := [.cell 6 38, .tmp 7]) rfl (hF.sub [(6, B b1 0), (7, .bool true)] (by kernel_rfl)) (hrets rfl) rfl ⟨_, rfl, rfl, hM0.chg⟩)
     simp only [hg1] at hF
     refine from_skip hF rfl rfl rfl rfl rfl rfl rfl rfl rfl fun fr hF => ?_
     refine from_skip hF rfl rfl rfl rfl rfl rfl rfl rfl rfl fun fr hF => ?_
     refine from_skip hF rfl rfl rfl rfl rfl rfl rfl rfl rfl fun fr hF => ?_
     refine from_skip hF rfl rfl rfl rfl rfl rfl rfl rfl rfl fun fr hF => ?_
     refine from_skipU hF rfl rfl rfl rfl rfl rfl rfl rfl fun fr hF => ?_
     refine from_skipU hF rfl rfl rfl rfl rfl rfl rfl rfl fun fr hF => ?_
     refine from_skipU hF rfl rfl rfl rfl rfl rfl rfl rfl fun fr hF => ?_
     refine from_skip hF rfl rfl rfl rfl rfl rfl rfl rfl rfl fun fr hF => ?_
     refine from_pick rfl rfl hF rfl rfl fun fr hF => ?_
     refine from_pure 1 [(0, Str.val p0), (1, I p1), (2, I p2), (6, B b1 0), (8, L a1 x1 c1), (9, B b2 0), (62, .bool false)] hF (by kernel_rfl) fun fr hF => ?_
     refine from_end rfl (then_normal ?_)
     refine (wp_if hF (b := false) rfl (fun hb => ?_) (fun hb => ?_))
     · replace h := iteT hb h
       refine (wp_text' ?_)
       refine from_pure 1 [(0, Str.val p0), (1, I p1), (2, I p2), (6, B b1 0), (9, B b2 0), (76, L a1 x1 c1)] hF (by kernel_rfl) fun fr hF => ?_
       obtain ⟨x26, hx26, h⟩ := bindE h
       refine s_elemF (z := x26) (Str.val x26) ty9 Tryz.underlying30 rfl rfl rfl rfl rfl hF rfl (hs.rv 1 rfl) rfl (get?_nn hx26) (get?_at hx26) rfl fun p fr hF => ?_
       have hs : Sep [BX b2 38 [I 3, I 0, I 0, I x5], BX b1 38 [I 0, I 0, I 0, I 0]] w11 S9 := Sep.pick [0, 2] hs (by decide) rfl
       obtain ⟨x27, hx27, h⟩ := bindE h
       refine s_call [Str.val x26] Tryz.call40 rfl rfl hF rfl (impl_parseOperand_ok x26 hx27 tb) fun v w44 fr hRes hF => ?_
       obtain ⟨rfl, hc⟩ := hRes
       have tb := tb.ext hc
       have hs := hs.ext hc
       have hM0 := hM0.ext hc
       refine from_pure 1 [(0, Str.val p0), (1, I p1), (2, I p2), (6, B b1 0), (9, B b2 0), (79, I x27), (80, B b2 2)] hF (by kernel_rfl) fun fr hF => ?_
       refine q_storeBox 0 hs hM0 rfl [I 3, I 0, I x27, I x5] rfl hF rfl rfl (by kernel_rfl) rfl rfl rfl fun w45 S30 hs hp hF => ?_
       have tb := tb.stp hM0 hp
       have hM0 := hM0.stp hp
       have hs : Sep [BX b2 38 [I 3, I 0, I x27, I x5], BX b1 38 [I 0, I 0, I 0, I 0]] w45 S30 := hs
       refine from_end rfl ?_
       refine blk_normal (then_normal ?_)
       refine wp_seq ?_
       refine wp_seq (wp_text' ?_)
       refine s_loadBoxS ty38 rfl rfl hF rfl (hs.bx 0 rfl) rfl rfl fun fr hF => ?_
       refine from_pure 2 [(0, Str.val p0), (6, B b1 0), (9, B b2 0), (90, .agg #[I 3, I 0, I x27, I x5]), (91, I p1), (92, I p2)] hF (by kernel_rfl) fun fr hF => ?_
       obtain ⟨x28, hx28, h⟩ := bindE h
       refine s_call [.agg #[I 3, I 0, I x27, I x5], I p1, I p2] Tryz.call41 rfl rfl hF rfl (impl_FormatIns_ok (D.Ins.mk 3 0 x27 x5) p1 p2 hx28 tb) fun v w46 fr hRes hF => ?_
       obtain ⟨rfl, hc⟩ := hRes
       have tb := tb.ext hc
       have hs := hs.ext hc
       have hM0 := hM0.ext hc
       refine from_pure 2 [(6, B b1 0), (9, B b2 0), (95, .bool (!(Str.eqb x28 p0)))] hF (by kernel_rfl) fun fr hF => ?_
       refine from_end rfl (then_normal ?_)
       refine (wp_if hF (b := (!(Str.eqb x28 p0))) rfl (fun hb => ?_) (fun hb => ?_))
       · replace h := iteT hb h
         have hs : Sep [BX b1 38 [I 0, I 0, I 0, I 0]] w46 S30 := Sep.pick [1] hs (by decide) rfl
         refine wp_seq (wp_text' ?_)
         refine from_pure 1 [(6, B b1 0), (96, .agg #[I 0, I 0, I 0, I 0])] hF (by kernel_rfl) fun fr hF => ?_
         refine q_storeBoxS 0 hs hM0 rfl [I 0, I 0, I 0, I 0] rfl hF rfl rfl (by kernel_rfl) rfl rfl rfl fun w47 S31 hs hp hF => ?_
         have tb := tb.stp hM0 hp
         have hM0 := hM0.stp hp
         have hs : Sep [BX b1 38 [I 0, I 0, I 0, I 0]] w47 S31 := hs
         refine from_pure 1 [(6, B b1 0), (7, .bool false)] hF (by kernel_rfl) fun fr hF => ?_
         refine from_end rfl (then_normal ?_)
         have hrets := fun {σ : List (Nat × Value)} (h : σ = [(6, B b1 0), (7, .bool false)]) => (by subst h; exact (Rets.cell rfl ty38 (hs.bx 0 rfl) rfl rfl (Rets.tmp rfl Rets.nil)) : Rets Tryz.prog σ w47 [.cell 6 38, .tmp 7] [.agg #[I 0, I 0, I 0, I 0], .bool false])
         obtain rfl := Option.some.inj h
         exact wp_ret (then_ret (retG (rs := [.cell 6 38, .tmp 7]) rfl (hF.sub [(6, B b1 0), (7, .bool false)] (by kernel_rfl)) (hrets rfl) rfl ⟨_, rfl, rfl, hM0.chg⟩))
       replace h := iteF hb h
       refine (wp_skip (then_normal ?_))
       refine wp_seq (wp_text' ?_)
       refine s_loadBoxS ty38 rfl rfl hF rfl (hs.bx 0 rfl) rfl rfl fun fr hF => ?_
       have hs : Sep [BX b1 38 [I 0, I 0, I 0, I 0]] w46 S30 := Sep.pick [1] hs (by decide) rfl
       refine q_storeBoxS 0 hs hM0 rfl [I 3, I 0, I x27, I x5] rfl hF rfl rfl (by kernel_rfl) rfl rfl rfl fun w48 S32 hs hp hF => ?_
       have tb := tb.stp hM0 hp
       have hM0 := hM0.stp hp
       have hs : Sep [BX b1 38 [I 3, I 0, I x27, I x5]] w48 S32 := hs
       refine from_pure 1 [(6, B b1 0), (7, .bool true)] hF (by kernel_rfl) fun fr hF => ?_
       refine from_end rfl (then_normal ?_)
       have hrets := fun {σ : List (Nat × Value)} (h : σ = [(6, B b1 0), (7, .bool true)]) => (by subst h; exact (Rets.cell rfl ty38 (hs.bx 0 rfl) rfl rfl (Rets.tmp rfl Rets.nil)) : Rets Tryz.prog σ w48 [.cell 6 38, .tmp 7] [.agg #[I 3, I 0, I x27, I x5], .bool true])
       obtain rfl := Option.some.inj h
       exact wp_ret (retG (rs := [.cell 6 38, .tmp 7]) rfl (hF.sub [(6, B b1 0), (7, .bool true)] (by kernel_rfl)) (hrets rfl) rfl ⟨_, rfl, rfl, hM0.chg⟩)
     replace h := iteF hb h
     refine wp_seq (wp_pure [(0, Str.val p0), (1, I p1), (2, I p2), (6, B b1 0), (8, L a1 x1 c1), (9, B b2 0), (81, .bool ((len x1) == 2))] hF (by kernel_rfl) fun fr hF => then_normal ?_)
     refine (wp_if hF (b := ((len x1) == 2)) rfl (fun hb => ?_) (fun hb => ?_))
     · replace h := iteT hb h
       refine (wp_text' ?_)
       refine from_pure 1 [(0, Str.val p0), (1, I p1), (2, I p2), (6, B b1 0), (9, B b2 0), (85, L a1 x1 c1)] hF (by kernel_rfl) fun fr hF => ?_
       obtain ⟨x29, hx29, h⟩ := bindE h
       refine s_elemF (z := x29) (Str.val x29) ty9 Tryz.underlying30 rfl rfl rfl rfl rfl hF rfl (hs.rv 1 rfl) rfl (get?_nn hx29) (get?_at hx29) rfl fun p fr hF => ?_
       have hs : Sep [BX b2 38 [I 3, I 0, I 0, I x5], BX b1 38 [I 0, I 0, I 0, I 0]] w11 S9 := Sep.pick [0, 2] hs (by decide) rfl
       obtain ⟨x30, hx30, h⟩ := bindE h
       refine s_call [Str.val x29] Tryz.call40 rfl rfl hF rfl (impl_parseOperand_ok x29 hx30 tb) fun v w49 fr hRes hF => ?_
       obtain ⟨rfl, hc⟩ := hRes
       have tb := tb.ext hc
       have hs := hs.ext hc
       have hM0 := hM0.ext hc
       refine from_pure 1 [(0, Str.val p0), (1, I p1), (2, I p2), (6, B b1 0), (9, B b2 0), (88, I x30), (89, B b2 1)] hF (by kernel_rfl) fun fr hF => ?_
       refine q_storeBox 0 hs hM0 rfl [I 3, I x30, I 0, I x5] rfl hF rfl rfl (by kernel_rfl) rfl rfl rfl fun w50 S33 hs hp hF => ?_
       have tb := tb.stp hM0 hp
       have hM0 := hM0.stp hp
       have hs : Sep [BX b2 38 [I 3, I x30, I 0, I x5], BX b1 38 [I 0, I 0, I 0, I 0]] w50 S33 := hs
       refine from_end rfl ?_
       refine blk_normal (then_normal ?_)
       refine wp_seq ?_
       refine wp_seq (wp_text' ?_)
       refine s_loadBoxS ty38 rfl rfl hF rfl (hs.bx 0 rfl) rfl rfl fun fr hF => ?_
       refine from_pure 2 [(0, Str.val p0), (6, B b1 0), (9, B b2 0), (90, .agg #[I 3, I x30, I 0, I x5]), (91, I p1), (92, I p2)] hF (by kernel_rfl) fun fr hF => ?_
       obtain ⟨x31, hx31, h⟩ := bindE h
       refine s_call [.agg #[I 3, I x30, I 0, I x5], I p1, I p2] Tryz.call41 rfl rfl hF rfl (impl_FormatIns_ok (D.Ins.mk 3 x30 0 x5) p1 p2 hx31 tb) fun v w51 fr hRes hF => ?_
       obtain ⟨rfl, hc⟩ := hRes
       have tb := tb.ext hc
       have hs := hs.ext hc
       have hM0 := hM0.ext hc
       refine from_pure 2 [(6, B b1 0), (9, B b2 0), (95, .bool (!(Str.eqb x31 p0)))] hF (by kernel_rfl) fun fr hF => ?_
       refine from_end rfl (then_normal ?_)
       refine (wp_if hF (b := (!(Str.eqb x31 p0))) rfl (fun hb => ?_) (fun hb => ?_))
       · replace h := iteT hb h
         have hs : Sep [BX b1 38 [I 0, I 0, I 0, I 0]] w51 S33 := Sep.pick [1] hs (by decide) rfl
         refine wp_seq (wp_text' ?_)
         refine from_pure 1 [(6, B b1 0), (96, .agg #[I 0, I 0, I 0, I 0])] hF (by kernel_rfl) fun fr hF => ?_
         refine q_storeBoxS 0 hs hM0 rfl [I 0, I 0, I 0, I 0] rfl hF rfl rfl (by kernel_rfl) rfl rfl rfl fun w52 S34 hs hp hF => ?_
         have tb := tb.stp hM0 hp
         have hM0 := hM0.stp hp
         have hs : Sep [BX b1 38 [I 0, I 0, I 0, I 0]] w52 S34 := hs
         refine from_pure 1 [(6, B b1 0), (7, .bool false)] hF (by kernel_rfl) fun fr hF => ?_
         refine from_end rfl (then_normal ?_)
         have hrets := fun {σ : List (Nat × Value)} (h : σ = [(6, B b1 0), (7, .bool false)]) => (by subst h; exact (Rets.cell rfl ty38 (hs.bx 0 rfl) rfl rfl (Rets.tmp rfl Rets.nil)) : Rets Tryz.prog σ w52 [.cell 6 38, .tmp 7] [.agg #[I 0, I 0, I 0, I 0], .bool false])
         obtain rfl := Option.some.inj h
         exact wp_ret (then_ret (retG (rs := [.cell 6 38, .tmp 7]) rfl (hF.sub [(6, B b1 0), (7, .bool false)] (by kernel_rfl)) (hrets rfl) rfl ⟨_, rfl, rfl, hM0.chg⟩))
       replace h := iteF hb h
       refine (wp_skip (then_normal ?_))
       refine wp_seq (wp_text' ?_)
       refine s_loadBoxS ty38 rfl rfl hF rfl (hs.bx 0 rfl) rfl rfl fun fr hF => ?_
       have hs : Sep [BX b1 38 [I 0, I 0, I 0, I 0]] w51 S33 := Sep.pick [1] hs (by decide) rfl
       refine q_storeBoxS 0 hs hM0 rfl [I 3, I x30, I 0, I x5] rfl hF rfl rfl (by kernel_rfl) rfl rfl rfl fun w53 S35 hs hp hF => ?_
       have tb := tb.stp hM0 hp
       have hM0 := hM0.stp hp
       have hs : Sep [BX b1 38 [I 3, I x30, I 0, I x5]] w53 S35 := hs
       refine from_pure 1 [(6, B b1 0), (7, .bool true)] hF (by kernel_rfl) fun fr hF => ?_
       refine from_end rfl (then_normal ?_)
       have hrets := fun {σ : List (Nat × Value)} (h : σ = [(6, B b1 0), (7, .bool true)]) => (by subst h; exact (Rets.cell rfl ty38 (hs.bx 0 rfl) rfl rfl (Rets.tmp rfl Rets.nil)) : Rets Tryz.prog σ w53 [.cell 6 38, .tmp 7] [.agg #[I 3, I x30, I 0, I x5], .bool true])
       obtain rfl := Option.some.inj h
       exact wp_ret (retG (rs := [.cell 6 38, .tmp 7]) rfl (hF.sub [(6, B b1 0), (7, .bool true)] (by kernel_rfl)) (hrets rfl) rfl ⟨_, rfl, rfl, hM0.chg⟩)
     replace h := iteF hb h
     have hs : Sep [BX b2 38 [I 3, I 0, I 0, I x5], BX b1 38 [I 0, I 0, I 0, I 0]] w11 S9 := Sep.pick [0, 2] hs (by decide) rfl
     refine (wp_skip ?_)
     refine blk_normal (then_normal ?_)
     refine wp_seq ?_
     refine wp_seq (wp_text' ?_)
     refine s_loadBoxS ty38 rfl rfl hF rfl (hs.bx 0 rfl) rfl rfl fun fr hF => ?_
     refine from_pure 2 [(0, Str.val p0), (6, B b1 0), (9, B b2 0), (90, .agg #[I 3, I 0, I 0, I x5]), (91, I p1), (92, I p2)] hF (by kernel_rfl) fun fr hF => ?_
     obtain ⟨x32, hx32, h⟩ := bindE h
     refine s_call [.agg #[I 3, I 0, I 0, I x5], I p1, I p2] Tryz.call41 rfl rfl hF rfl (impl_FormatIns_ok (D.Ins.mk 3 0 0 x5) p1 p2 hx32 tb) fun v w54 fr hRes hF => ?_
     obtain ⟨rfl, hc⟩ := hRes
     have tb := tb.ext hc
     have hs := hs.ext hc
     have hM0 := hM0.ext hc
     refine from_pure 2 [(6, B b1 0), (9, B b2 0), (95, .bool (!(Str.eqb x32 p0)))] hF (by kernel_rfl) fun fr hF => ?_
     refine from_end rfl (then_normal ?_)
     refine (wp_if hF (b := (!(Str.eqb x32 p0))) rfl (fun hb => ?_) (fun hb => ?_))
     · replace h := iteT hb h
       have hs : Sep [BX b1 38 [I 0, I 0, I 0, I 0]] w54 S9 := Sep.pick [1] hs (by decide) rfl
       refine wp_seq (wp_text' ?_)
       refine from_pure 1 [(6, B b1 0), (96, .agg #[I 0, I 0, I 0, I 0])] hF (by kernel_rfl) fun fr hF => ?_
       refine q_storeBoxS 0 hs hM0 rfl [I 0, I 0, I 0, I 0] rfl hF rfl rfl (by kernel_rfl) rfl rfl rfl fun w55 S36 hs hp hF => ?_
       have tb := tb.stp hM0 hp
       have hM0 := hM0.stp hp
       have hs : Sep [BX b1 38 [I 0, I 0, I 0, I 0]] w55 S36 := hs
       refine from_pure 1 [(6, B b1 0), (7, .bool false)] hF (by kernel_rfl) fun fr hF => ?_
       refine from_end rfl (then_normal ?_)
       have hrets := fun {σ : List (Nat × Value)} (h : σ = [(6, B b1 0), (7, .bool false)]) => (by subst h; exact (Rets.cell rfl ty38 (hs.bx 0 rfl) rfl rfl (Rets.tmp rfl Rets.nil)) : Rets Tryz.prog σ w55 [.cell 6 38, .tmp 7] [.agg #[I 0, I 0, I 0, I 0], .bool false])
       obtain rfl := Option.some.inj h
       exact wp_ret (then_ret (retG (rs := [.cell 6 38, .tmp 7]) rfl (hF.sub [(6, B b1 0), (7, .bool false)] (by kernel_rfl)) (hrets rfl) rfl ⟨_, rfl, rfl, hM0.chg⟩))
     replace h := iteF hb h
     refine (wp_skip (then_normal ?_))
     refine wp_seq (wp_text' ?_)
     refine s_loadBoxS ty38 rfl rfl hF rfl (hs.bx 0 rfl) rfl rfl fun fr hF => ?_
     have hs : Sep [BX b1 38 [I 0, I 0, I 0, I 0]] w54 S9 := Sep.pick [1] hs (by decide) rfl
     refine q_storeBoxS 0 hs hM0 rfl [I 3, I 0, I 0, I x5] rfl hF rfl rfl (by kernel_rfl) rfl rfl rfl fun w56 S37 hs hp hF => ?_
     have tb := tb.stp hM0 hp
     have hM0 := hM0.stp hp
     have hs : Sep [BX b1 38 [I 3, I 0, I 0, I x5]] w56 S37 := hs
     refine from_pure 1 [(6, B b1 0), (7, .bool true)] hF (by kernel_rfl) fun fr hF => ?_
     refine from_end rfl (then_normal ?_)
     have hrets := fun {σ : List (Nat × Value)} (h : σ = [(6, B b1 0), (7, .bool true)]) => (by subst h; exact (Rets.cell rfl ty38 (hs.bx 0 rfl) rfl rfl (Rets.tmp rfl Rets.nil)) : Rets Tryz.prog σ w56 [.cell 6 38, .tmp 7] [.agg #[I 3, I 0, I 0, I x5], .bool true])
     obtain rfl := Option.some.inj h
     exact wp_ret (retG (rs := [.cell 6 38, .tmp 7]) rfl (hF.sub [(6, B b1 0), (7, .bool true)] (by kernel_rfl)) (hrets rfl) rfl ⟨_, rfl, rfl, hM0.chg⟩)
   replace h := iteF hb h
   refine (wp_skip (then_normal ?_))
   refine wp_seq (wp_block ?_)
   refine wp_seq (wp_pure [(0, Str.val p0), (1, I p1), (2, I p2), (6, B b1 0), (8, L a1 x1 c1), (9, B b2 0), (48, .bool ((len x1) == 3))] hF (by kernel_rfl) fun fr hF => then_normal ?_)
   refine (wp_if hF (b := ((len x1) == 3)) rfl (fun hb => ?_) (fun hb => ?_))
   · replace h := iteT hb h
     obtain ⟨x33, hx33, h⟩ := bindE h
     obtain ⟨x34, hx34, h⟩ := bindE h
     obtain ⟨x35, hx35, h⟩ := bindE h
     obtain ⟨x36, hx36, h⟩ := bindE h
     refine (region_bm 9 [0, 1, 3, 7, 0, 16, 48, 127, 15, 511, 1023, 2047] [true, false, false, false, true, false, false, false, true]
         [.eq (L a1 x1 c1), .is fun v w => ElemP w (fun k => k < w9.heap.size) v (x33 : Str), .eq (Str.val x33), .eq (I x34), .eq (L a1 x1 c1), .is fun v w => ElemP w (fun k => k < w9.heap.size) v (x35 : Str), .eq (Str.val x35), .eq (I x36), .eq (B b2 1), .any, .any, .any]
         [(0, Str.val p0), (1, I p1), (2, I p2), (6, B b1 0), (9, B b2 0), (55, I x34), (59, I x36), (60, B b2 1)] mix hF (by kernel_rfl) (by kernel_rfl) (by kernel_rfl) (by kernel_rfl) ⟨(Pd.monoO_is mono_elem), Pd.monoO_eq, Pd.monoO_eq, (Pd.monoO_is mono_elem), Pd.monoO_eq, Pd.monoO_eq, trivial⟩ (fun ow hG => ⟨np_to ow (np_index hG hF ty9 Tryz.underlying30 rfl rfl (RV.sub (hs.rv 1 rfl) fun k hk _ => hk) rfl rfl (fun hg => ⟨get?_nn hx33, get?_at hx33⟩)), np_to ow (np_loadF (z := x33) (i := 1) hG hF ty9 rfl rfl rfl rfl rfl rfl rfl), np_to ow (np_call [Str.val x33] hG hF Tryz.call40 rfl rfl (fun w hC hg => (impl_parseOperand_ok x33 hx34 (tb.ext hC)).mono fun e w' ⟨v, he, hv, hc⟩ => ⟨v, he, hc, hv⟩)), np_to ow (np_index hG hF ty9 Tryz.underlying30 rfl rfl (RV.sub (hs.rv 1 rfl) fun k hk _ => hk) rfl rfl (fun hg => ⟨get?_nn hx35, get?_at hx35⟩)), np_to ow (np_loadF (z := x35) (i := 5) hG hF ty9 rfl rfl rfl rfl rfl rfl rfl), np_to ow (np_call [Str.val x35] hG hF Tryz.call40 rfl rfl (fun w hC hg => (impl_parseOperand_ok x35 hx36 (tb.ext hC)).mono fun e w' ⟨v, he, hv, hc⟩ => ⟨v, he, hc, hv⟩)), trivial⟩) (by kernel_rfl) fun ow fr w57 hF hE hc => ?_)
     have tb := tb.ext hc
     have hs := hs.ext hc
     have hM0 := hM0.ext hc
     have hs : Sep [BX b2 38 [I rl1, I 0, I 0, I 0], BX b1 38 [I 0, I 0, I 0, I 0]] w57 S6 := Sep.pick [0, 2] hs (by decide) rfl
     refine q_storeBox 0 hs hM0 rfl [I rl1, I x34, I 0, I 0] rfl hF rfl rfl (by kernel_rfl) rfl rfl rfl fun w58 S38 hs hp hF => ?_
     have tb := tb.stp hM0 hp
     have hM0 := hM0.stp hp
     have hs : Sep [BX b2 38 [I rl1, I x34, I 0, I 0], BX b1 38 [I 0, I 0, I 0, I 0]] w58 S38 := hs
     refine from_pure 1 [(0, Str.val p0), (1, I p1), (2, I p2), (6, B b1 0), (9, B b2 0), (59, I x36), (61, B b2 2)] hF (by kernel_rfl) fun fr hF => ?_
     refine q_storeBox 0 hs hM0 rfl [I rl1, I x34, I x36, I 0] rfl hF rfl rfl (by kernel_rfl) rfl rfl rfl fun w59 S39 hs hp hF => ?_
     have tb := tb.stp hM0 hp
     have hM0 := hM0.stp hp
     have hs : Sep [BX b2 38 [I rl1, I x34, I x36, I 0], BX b1 38 [I 0, I 0, I 0, I 0]] w59 S39 := hs
     refine from_end rfl ?_
     refine blk_normal (then_normal ?_)
     refine wp_seq ?_
     refine wp_seq (wp_text' ?_)
     refine s_loadBoxS ty38 rfl rfl hF rfl (hs.bx 0 rfl) rfl rfl fun fr hF => ?_
     refine from_pure 2 [(0, Str.val p0), (6, B b1 0), (9, B b2 0), (90, .agg #[I rl1, I x34, I x36, I 0]), (91, I p1), (92, I p2)] hF (by kernel_rfl) fun fr hF => ?_
     obtain ⟨x37, hx37, h⟩ := bindE h
     refine s_call [.agg #[I rl1, I x34, I x36, I 0], I p1, I p2] Tryz.call41 rfl rfl hF rfl (impl_FormatIns_ok (D.Ins.mk rl1 x34 x36 0) p1 p2 hx37 tb) fun v w60 fr hRes hF => ?_
     obtain ⟨rfl, hc⟩ := hRes
     have tb := tb.ext hc
     have hs := hs.ext hc
     have hM0 := hM0.ext hc
     refine from_pure 2 [(6, B b1 0), (9, B b2 0), (95, .bool (!(Str.eqb x37 p0)))] hF (by kernel_rfl) fun fr hF => ?_
     refine from_end rfl (then_normal ?_)
     refine (wp_if hF (b := (!(Str.eqb x37 p0))) rfl (fun hb => ?_) (fun hb => ?_))
     · replace h := iteT hb h
       have hs : Sep [BX b1 38 [I 0, I 0, I 0, I 0]] w60 S39 := Sep.pick [1] hs (by decide) rfl
       refine wp_seq (wp_text' ?_)
       refine from_pure 1 [(6, B b1 0), (96, .agg #[I 0, I 0, I 0, I 0])] hF (by kernel_rfl) fun fr hF => ?_
       refine q_storeBoxS 0 hs hM0 rfl [I 0, I 0, I 0, I 0] rfl hF rfl rfl (by kernel_rfl) rfl rfl rfl fun w61 S40 hs hp hF => ?_
       have tb := tb.stp hM0 hp
       have hM0 := hM0.stp hp
       have hs : Sep [BX b1 38 [I 0, I 0, I 0, I 0]] w61 S40 := hs
       refine from_pure 1 [(6, B b1 0), (7, .bool false)] hF (by kernel_rfl) fun fr hF => ?_
       refine from_end rfl (then_normal ?_)
       have hrets := fun {σ : List (Nat × Value)} (h : σ = [(6, B b1 0), (7, .bool false)]) => (by subst h; exact (Rets.cell rfl ty38 (hs.bx 0 rfl) rfl rfl (Rets.tmp rfl Rets.nil)) : Rets Tryz.prog σ w61 [.cell 6 38, .tmp 7] [.agg #[I 0, I 0, I 0, I 0], .bool false])
       obtain rfl := Option.some.inj h
       exact wp_ret (then_ret (retG (rs := [.cell 6 38, .tmp 7]) rfl (hF.sub [(6, B b1 0), (7, .bool false)] (by kernel_rfl)) (hrets rfl) rfl ⟨_, rfl, rfl, hM0.chg⟩))
     replace h := iteF hb h
     refine (wp_skip (then_normal ?_))
     refine wp_seq (wp_text' ?_)
     refine s_loadBoxS ty38 rfl rfl hF rfl (hs.bx 0 rfl) rfl rfl fun fr hF => ?_
     have hs : Sep [BX b1 38 [I 0, I 0, I 0, I 0]] w60 S39 := Sep.pick [1] hs (by decide) rfl
     refine q_storeBoxS 0 hs hM0 rfl [I rl1, I x34, I x36, I 0] rfl hF rfl rfl (by kernel_rfl) rfl rfl rfl fun w62 S41 hs hp hF => ?_
     have tb := tb.stp hM0 hp
     have hM0 := hM0.stp hp
     have hs : Sep [BX b1 38 [I rl1, I x34, I x36, I 0]] w62 S41 := hs
     refine from_pure 1 [(6, B b1 0), (7, .bool true)] hF (by kernel_rfl) fun fr hF => ?_
     refine from_end rfl (then_normal ?_)
     have hrets := fun {σ : List (Nat × Value)} (h : σ = [(6, B b1 0), (7, .bool true)]) => (by subst h; exact (Rets.cell rfl ty38 (hs.bx 0 rfl) rfl rfl (Rets.tmp rfl Rets.nil)) : Rets Tryz.prog σ w62 [.cell 6 38, .tmp 7] [.agg #[I rl1, I x34, I x36, I 0], .bool true])
     obtain rfl := Option.some.inj h
     exact wp_ret (retG (rs := [.cell 6 38, .tmp 7]) rfl (hF.sub [(6, B b1 0), (7, .bool true)] (by kernel_rfl)) (hrets rfl) rfl ⟨_, rfl, rfl, hM0.chg⟩)
   replace h := iteF hb h
   refine wp_seq (wp_text' ?_)
   refine from_pure 1 [(0, Str.val p0), (1, I p1), (2, I p2), (6, B b1 0), (8, L a1 x1 c1), (9, B b2 0), (63, L a1 x1 c1)] hF (by kernel_rfl) fun fr hF => ?_
   refine from_pure 1 [(0, Str.val p0), (1, I p1), (2, I p2), (6, B b1 0), (8, L a1 x1 c1), (9, B b2 0), (64, I (len x1))] hF (by kernel_rfl) fun fr hF => ?_
   refine from_pure 1 [(0, Str.val p0), (1, I p1), (2, I p2), (6, B b1 0), (8, L a1 x1 c1), (9, B b2 0), (65, .bool ((len x1) == 2))] hF (by kernel_rfl) fun fr hF => ?_
   refine from_pure 1 [(0, Str.val p0), (1, I p1), (2, I p2), (6, B b1 0), (8, L a1 x1 c1), (9, B b2 0), (66, .bool ((len x1) == 2))] hF (by kernel_rfl) fun fr hF => ?_
   rcases ite_split (b := ((len x1) == 2)) h with ⟨hg3, h⟩ | ⟨hg3, h⟩
   · simp only [hg3] at hF
     refine from_takeL hF rfl rfl rfl rfl rfl rfl ?_
     dsimp only [List.set]
     refine from_pure 1 [(0, Str.val p0), (1, I p1), (2, I p2), (6, B b1 0), (8, L a1 x1 c1), (9, B b2 0), (66, .bool true), (67, B b2 0)] hF (by kernel_rfl) fun fr hF => ?_
     refine from_takeL hF rfl rfl rfl rfl rfl rfl ?_
     dsimp only [List.set]
     refine s_loadBox (I rl1) ty3 rfl rfl hF rfl (hs.bx 0 rfl) rfl rfl fun fr hF => ?_
     refine from_takeL hF rfl rfl rfl rfl rfl rfl ?_
     dsimp only [List.set]
     refine from_pure 1 [(0, Str.val p0), (1, I p1), (2, I p2), (6, B b1 0), (8, L a1 x1 c1), (9, B b2 0), (66, .bool true), (69, .bool (rl1 == 9))] hF (by kernel_rfl) fun fr hF => ?_
     refine from_takeL hF rfl rfl rfl rfl rfl rfl ?_
     dsimp only [List.set]
     refine from_pure 1 [(0, Str.val p0), (1, I p1), (2, I p2), (6, B b1 0), (8, L a1 x1 c1), (9, B b2 0), (66, .bool true), (70, .bool (rl1 == 9))] hF (by kernel_rfl) fun fr hF => ?_
     rcases ite_split (b := (rl1 == 9)) h with ⟨hg4, h⟩ | ⟨hg4, h⟩
     · simp only [hg4] at hF
       refine from_skip hF rfl rfl rfl rfl rfl rfl rfl rfl rfl fun fr hF => ?_
       refine from_skip hF rfl rfl rfl rfl rfl rfl rfl rfl rfl fun fr hF => ?_
       refine from_skip hF rfl rfl rfl rfl rfl rfl rfl rfl rfl fun fr hF => ?_
       refine from_takeL hF rfl rfl rfl rfl rfl rfl ?_
       dsimp only [List.set]
       refine from_pick rfl rfl hF rfl rfl fun fr hF => ?_
       refine from_pick rfl rfl hF rfl rfl fun fr hF => ?_
       refine from_pure 1 [(0, Str.val p0), (1, I p1), (2, I p2), (6, B b1 0), (8, L a1 x1 c1), (9, B b2 0), (62, .bool true)] hF (by kernel_rfl) fun fr hF => ?_
       refine from_end rfl (then_normal ?_)
       refine (wp_if hF (b := true) rfl (fun hb => ?_) (fun hb => ?_))
       · replace h := iteT hb h
         refine (wp_text' ?_)
         refine from_pure 1 [(0, Str.val p0), (1, I p1), (2, I p2), (6, B b1 0), (9, B b2 0), (76, L a1 x1 c1)] hF (by kernel_rfl) fun fr hF => ?_
         obtain ⟨x38, hx38, h⟩ := bindE h
         refine s_elemF (z := x38) (Str.val x38) ty9 Tryz.underlying30 rfl rfl rfl rfl rfl hF rfl (hs.rv 1 rfl) rfl (get?_nn hx38) (get?_at hx38) rfl fun p fr hF => ?_
         have hs : Sep [BX b2 38 [I rl1, I 0, I 0, I 0], BX b1 38 [I 0, I 0, I 0, I 0]] w9 S6 := Sep.pick [0, 2] hs (by decide) rfl
         obtain ⟨x39, hx39, h⟩ := bindE h
         refine s_call [Str.val x38] Tryz.call40 rfl rfl hF rfl (impl_parseOperand_ok x38 hx39 tb) fun v w63 fr hRes hF => ?_
         obtain ⟨rfl, hc⟩ := hRes
         have tb := tb.ext hc
         have hs := hs.ext hc
         have hM0 := hM0.ext hc
         refine from_pure 1 [(0, Str.val p0), (1, I p1), (2, I p2), (6, B b1 0), (9, B b2 0), (79, I x39), (80, B b2 2)] hF (by kernel_rfl) fun fr hF => ?_
         refine q_storeBox 0 hs hM0 rfl [I rl1, I 0, I x39, I 0] rfl hF rfl rfl (by kernel_rfl) rfl rfl rfl fun w65 S42 hs hp hF => ?_
         have tb := tb.stp hM0 hp
         have hM0 := hM0.stp hp
         have hs : Sep [BX b2 38 [I rl1, I 0, I x39, I 0], BX b1 38 [I 0, I 0, I 0, I 0]] w65 S42 := hs
         refine from_end rfl ?_
         refine blk_normal (then_normal ?_)
         refine wp_seq ?_
         refine wp_seq (wp_text' ?_)
         refine s_loadBoxS ty38 rfl rfl hF rfl (hs.bx 0 rfl) rfl rfl fun fr hF => ?_
         refine from_pure 2 [(0, Str.val p0), (6, B b1 0), (9, B b2 0), (90, .agg #[I rl1, I 0, I x39, I 0]), (91, I p1), (92, I p2)] hF (by kernel_rfl) fun fr hF => ?_
         obtain ⟨x40, hx40, h⟩ := bindE h
         refine s_call [.agg #[I rl1, I 0, I x39, I 0], I p1, I p2] Tryz.call41 rfl rfl hF rfl (impl_FormatIns_ok (D.Ins.mk rl1 0 x39 0) p1 p2 hx40 tb) fun v w66 fr hRes hF => ?_
         obtain ⟨rfl, hc⟩ := hRes
         have tb := tb.ext hc
         have hs := hs.ext hc
         have hM0 := hM0.ext hc
         refine from_pure 2 [(6, B b1 0), (9, B b2 0), (95, .bool (!(Str.eqb x40 p0)))] hF (by kernel_rfl) fun fr hF => ?_
         refine from_end rfl (then_normal ?_)
         refine (wp_if hF (b := (!(Str.eqb x40 p0))) rfl (fun hb => ?_) (fun hb => ?_))
         · replace h := iteT hb h
           have hs : Sep [BX b1 38 [I 0, I 0, I 0, I 0]] w66 S42 := Sep.pick [1] hs (by decide) rfl
           refine wp_seq (wp_text' ?_)
           refine from_pure 1 [(6, B b1 0), (96, .agg #[I 0, I 0, I 0, I 0])] hF (by kernel_rfl) fun fr hF => ?_
           refine q_storeBoxS 0 hs hM0 rfl [I 0, I 0, I 0, I 0] rfl hF rfl rfl (by kernel_rfl) rfl rfl rfl fun w67 S43 hs hp hF => ?_
           have tb := tb.stp hM0 hp
           have hM0 := hM0.stp hp
           have hs : Sep [BX b1 38 [I 0, I 0, I 0, I 0]] w67 S43 := hs
           refine from_pure 1 [(6, B b1 0), (7, .bool false)] hF (by kernel_rfl) fun fr hF => ?_
           refine from_end rfl (then_normal ?_)
           have hrets := fun {σ : List (Nat × Value)} (h : σ = [(6, B b1 0), (7, .bool false)]) => (by subst h; exact (Rets.cell rfl ty38 (hs.bx 0 rfl) rfl rfl (Rets.tmp rfl Rets.nil)) : Rets Tryz.prog σ w67 [.cell 6 38, .tmp 7] [.agg #[I 0, I 0, I 0, I 0], .bool false])
           obtain rfl := Option.some.inj h
           exact wp_ret (then_ret (retG (rs := [.cell 6 38, .tmp 7]) rfl (hF.sub [(6, B b1 0), (7, .bool false)] (by kernel_rfl)) (hrets rfl) rfl ⟨_, rfl, rfl, hM0.chg⟩))
         replace h := iteF hb h
         refine (wp_skip (then_normal ?_))
         refine wp_seq (wp_text' ?_)
         refine s_loadBoxS ty38 rfl rfl hF rfl (hs.bx 0 rfl) rfl rfl fun fr hF => ?_
         have hs : Sep [BX b1 38 [I 0, I 0, I 0, I 0]] w66 S42 := Sep.pick [1] hs (by decide) rfl
         refine q_storeBoxS 0 hs hM0 rfl [I rl1, I 0, I x39, I 0] rfl hF rfl rfl (by kernel_rfl) rfl rfl rfl fun w68 S44 hs hp hF => ?_
         have tb := tb.stp hM0 hp
         have hM0 := hM0.stp hp
         have hs : Sep [BX b1 38 [I rl1, I 0, I x39, I 0]] w68 S44 := hs
         refine from_pure 1 [(6, B b1 0), (7, .bool true)] hF (by kernel_rfl) fun fr hF => ?_
         refine from_end rfl (then_normal ?_)
         have hrets := fun {σ : List (Nat × Value)} (h : σ = [(6, B b1 0), (7, .bool true)]) => (by subst h; exact (Rets.cell rfl ty38 (hs.bx 0 rfl) rfl rfl (Rets.tmp rfl Rets.nil)) : Rets Tryz.prog σ w68 [.cell 6 38, .tmp 7] [.agg #[I rl1, I 0, I x39, I 0], .bool true])
         obtain rfl := Option.some.inj h
         exact wp_ret (retG (rs := [.cell 6 38, .tmp 7]) rfl (hF.sub [(6, B b1 0), (7, .bool true)] (by kernel_rfl)) (hrets rfl) rfl ⟨_, rfl, rfl, hM0.chg⟩)
       replace h := iteF hb h
       refine wp_seq (wp_pure [(0, Str.val p0), (1, I p1), (2, I p2), (6, B b1 0), (8, L a1 x1 c1), (9, B b2 0), (81, .bool ((len x1) == 2))] hF (by kernel_rfl) fun fr hF => then_normal ?_)
       refine (wp_if hF (b := ((len x1) == 2)) rfl (fun hb => ?_) (fun hb => ?_))
       · replace h := iteT hb h
         refine (wp_text' ?_)
         refine from_pure 1 [(0, Str.val p0), (1, I p1), (2, I p2), (6, B b1 0), (9, B b2 0), (85, L a1 x1 c1)] hF (by kernel_rfl) fun fr hF => ?_
         obtain ⟨x41, hx41, h⟩ := bindE h
         refine s_elemF (z := x41) (Str.val x41) ty9 Tryz.underlying30 rfl rfl rfl rfl rfl hF rfl (hs.rv 1 rfl) rfl (get?_nn hx41) (get?_at hx41) rfl fun p fr hF => ?_
         have hs : Sep [BX b2 38 [I rl1, I 0, I 0, I 0], BX b1 38 [I 0, I 0, I 0, I 0]] w9 S6 := Sep.pick [0, 2] hs (by decide) rfl
         obtain ⟨x42, hx42, h⟩ := bindE h
         refine s_call [Str.val x41] Tryz.call40 rfl rfl hF rfl (impl_parseOperand_ok x41 hx42 tb) fun v w69 fr hRes hF => ?_
         obtain ⟨rfl, hc⟩ := hRes
         have tb := tb.ext hc
         have hs := hs.ext hc
         have hM0 := hM0.ext hc
         refine from_pure 1 [(0, Str.val p0), (1, I p1), (2, I p2), (6, B b1 0), (9, B b2 0), (88, I x42), (89, B b2 1)] hF (by kernel_rfl) fun fr hF => ?_
         refine q_storeBox 0 hs hM0 rfl [I rl1, I x42, I 0, I 0] rfl hF rfl rfl (by kernel_rfl) rfl rfl rfl fun w70 S45 hs hp hF => ?_
         have tb := tb.stp hM0 hp
         have hM0 := hM0.stp hp
         have hs : Sep [BX b2 38 [I rl1, I x42, I 0, I 0], BX b1 38 [I 0, I 0, I 0, I 0]] w70 S45 := hs
         refine from_end rfl ?_
         refine blk_normal (then_normal ?_)
         refine wp_seq ?_
         refine wp_seq (wp_text' ?_)
         refine s_loadBoxS ty38 rfl rfl hF rfl (hs.bx 0 rfl) rfl rfl fun fr hF => ?_
         refine from_pure 2 [(0, Str.val p0), (6, B b1 0), (9, B b2 0), (90, .agg #[I rl1, I x42, I 0, I 0]), (91, I p1), (92, I p2)] hF (by kernel_rfl) fun fr hF => ?_
         obtain ⟨x43, hx43, h⟩ := bindE h
         refine s_call [.agg #[I rl1, I x42, I 0, I 0], I p1, I p2] Tryz.call41 rfl rfl hF rfl (impl_FormatIns_ok (D.Ins.mk rl1 x42 0 0) p1 p2 hx43 tb) fun v w71 fr hRes hF => ?_
         obtain ⟨rfl, hc⟩ := hRes
         have tb := tb.ext hc
         have hs := hs.ext hc
         have hM0 := hM0.ext hc
         refine from_pure 2 [(6, B b1 0), (9, B b2 0), (95, .bool (!(Str.eqb x43 p0)))] hF (by kernel_rfl) fun fr hF => ?_
         refine from_end rfl (then_normal ?_)
         refine (wp_if hF (b := (!(Str.eqb x43 p0))) rfl (fun hb => ?_) (fun hb => ?_))
         · replace h := iteT hb h
           have hs : Sep [BX b1 38 [I 0, I 0, I 0, I 0]] w71 S45 := Sep.pick [1] hs (by decide) rfl
           refine wp_seq (wp_text' ?_)
           refine from_pure 1 [(6, B b1 0), (96, .agg #[I 0, I 0, I 0, I 0])] hF (by kernel_rfl) fun fr hF => ?_
           refine q_storeBoxS 0 hs hM0 rfl [I 0, I 0, I 0, I 0] rfl hF rfl rfl (by kernel_rfl) rfl rfl rfl fun w72 S46 hs hp hF => ?_
           have tb := tb.stp hM0 hp
           have hM0 := hM0.stp hp
           have hs : Sep [BX b1 38 [I 0, I 0, I 0, I 0]] w72 S46 := hs
           refine from_pure 1 [(6, B b1 0), (7, .bool false)] hF (by kernel_rfl) fun fr hF => ?_
           refine from_end rfl (then_normal ?_)
           have hrets := fun {σ : List (Nat × Value)} (h : σ = [(6, B b1 0), (7, .bool false)]) => (by subst h; exact (Rets.cell rfl ty38 (hs.bx 0 rfl) rfl rfl (Rets.tmp rfl Rets.nil)) : Rets Tryz.prog σ w72 [.cell 6 38, .tmp 7] [.agg #[I 0, I 0, I 0, I 0], .bool false])
           obtain rfl := Option.some.inj h
           exact wp_ret (then_ret (retG (rs := [.cell 6 38, .tmp 7]) rfl (hF.sub [(6, B b1 0), (7, .bool false)] (by kernel_rfl)) (hrets rfl) rfl ⟨_, rfl, rfl, hM0.chg⟩))
         replace h := iteF hb h
         refine (wp_skip (then_normal ?_))
         refine wp_seq (wp_text' ?_)
         refine s_loadBoxS ty38 rfl rfl hF rfl (hs.bx 0 rfl) rfl rfl fun fr hF => ?_
         have hs : Sep [BX b1 38 [I 0, I 0, I 0, I 0]] w71 S45 := Sep.pick [1] hs (by decide) rfl
         refine q_storeBoxS 0 hs hM0 rfl [I rl1, I x42, I 0, I 0] rfl hF rfl rfl (by kernel_rfl) rfl rfl rfl fun w73 S47 hs hp hF => ?_
         have tb := tb.stp hM0 hp
         have hM0 := hM0.stp hp
         have hs : Sep [BX b1 38 [I rl1, I x42, I 0, I 0]] w73 S47 := hs
         refine from_pure 1 [(6, B b1 0), (7, .bool true)] hF (by kernel_rfl) fun fr hF => ?_
         refine from_end rfl (then_normal ?_)
         have hrets := fun {σ : List (Nat × Value)} (h : σ = [(6, B b1 0), (7, .bool true)]) => (by subst h; exact (Rets.cell rfl ty38 (hs.bx 0 rfl) rfl rfl (Rets.tmp rfl Rets.nil)) : Rets Tryz.prog σ w73 [.cell 6 38, .tmp 7] [.agg #[I rl1, I x42, I 0, I 0], .bool true])
         obtain rfl := Option.some.inj h
         exact wp_ret (retG (rs := [.cell 6 38, .tmp 7]) rfl (hF.sub [(6, B b1 0), (7, .bool true)] (by kernel_rfl)) (hrets rfl) rfl ⟨_, rfl, rfl, hM0.chg⟩)
       replace h := iteF hb h
       have hs : Sep [BX b2 38 [I rl1, I 0, I 0, I 0], BX b1 38 [I 0, I 0, I 0, I 0]] w9 S6 := Sep.pick [0, 2] hs (by decide) rfl
       refine (wp_skip ?_)
       refine blk_normal (then_normal ?_)
       refine wp_seq ?_
       refine wp_seq (wp_text' ?_)
       refine s_loadBoxS ty38 rfl rfl hF rfl (hs.bx 0 rfl) rfl rfl fun fr hF => ?_
       refine from_pure 2 [(0, Str.val p0), (6, B b1 0), (9, B b2 0), (90, .agg #[I rl1, I 0, I 0, I 0]), (91, I p1), (92, I p2)] hF (by kernel_rfl) fun fr hF => ?_
       obtain ⟨x44, hx44, h⟩ := bindE h
       refine s_call [.agg #[I rl1, I 0, I 0, I 0], I p1, I p2] Tryz.call41 rfl rfl hF rfl (impl_FormatIns_ok (D.Ins.mk rl1 0 0 0) p1 p2 hx44 tb) fun v w74 fr hRes hF => ?_
       obtain ⟨rfl, hc⟩ := hRes
       have tb := tb.ext hc
       have hs := hs.ext hc
       have hM0 := hM0.ext hc
       refine from_pure 2 [(6, B b1 0), (9, B b2 0), (95, .bool (!(Str.eqb x44 p0)))] hF (by kernel_rfl) fun fr hF => ?_
       refine from_end rfl (then_normal ?_)
       refine (wp_if hF (b := (!(Str.eqb x44 p0))) rfl (fun hb => ?_) (fun hb => ?_))
       · replace h := iteT hb h
         have hs : Sep [BX b1 38 [I 0, I 0, I 0, I 0]] w74 S6 := Sep.pick [1] hs (by decide) rfl
         refine wp_seq (wp_text' ?_)
         refine from_pure 1 [(6, B b1 0), (96, .agg #[I 0, I 0, I 0, I 0])] hF (by kernel_rfl) fun fr hF => ?_
         refine q_storeBoxS 0 hs hM0 rfl [I 0, I 0, I 0, I 0] rfl hF rfl rfl (by kernel_rfl) rfl rfl rfl fun w75 S48 hs hp hF => ?_
         have tb := tb.stp hM0 hp
         have hM0 := hM0.stp hp
         have hs : Sep [BX b1 38 [I 0, I 0, I 0, I 0]] w75 S48 := hs
         refine from_pure 1 [(6, B b1 0), (7, .bool false)] hF (by kernel_rfl) fun fr hF => ?_
         refine from_end rfl (then_normal ?_)
         have hrets := fun {σ : List (Nat × Value)} (h : σ = [(6, B b1 0), (7, .bool false)]) => (by subst h; exact (Rets.cell rfl ty38 (hs.bx 0 rfl) rfl rfl (Rets.tmp rfl Rets.nil)) : Rets Tryz.prog σ w75 [.cell 6 38, .tmp 7] [.agg #[I 0, I 0, I 0, I 0], .bool false])
         obtain rfl := Option.some.inj h
         exact wp_ret (then_ret (retG (rs := [.cell 6 38, .tmp 7]) rfl (hF.sub [(6, B b1 0), (7, .bool false)] (by kernel_rfl)) (hrets rfl) rfl ⟨_, rfl, rfl, hM0.chg⟩))
       replace h := iteF hb h
       refine (wp_skip (then_normal ?_))
       refine wp_seq (wp_text' ?_)
       refine s_loadBoxS ty38 rfl rfl hF rfl (hs.bx 0 rfl) rfl rfl fun fr hF => ?_
       have hs : Sep [BX b1 38 [I 0, I 0, I 0, I 0]] w74 S6 := Sep.pick [1] hs (by decide) rfl
       refine q_storeBoxS 0 hs hM0 rfl [I rl1, I 0, I 0, I 0] rfl hF rfl rfl (by kernel_rfl) rfl rfl rfl fun w76 S49 hs hp hF => ?_
       have tb := tb.stp hM0 hp
       have hM0 := hM0.stp hp
       have hs : Sep [BX b1 38 [I rl1, I 0, I 0, I 0]] w76 S49 := hs
       refine from_pure 1 [(6, B b1 0), (7, .bool true)] hF (by kernel_rfl) fun fr hF => ?_
       refine from_end rfl (then_normal ?_)
       have hrets := fun {σ : List (Nat × Value)} (h : σ = [(6, B b1 0), (7, .bool true)]) => (by subst h; exact (Rets.cell rfl ty38 (hs.bx 0 rfl) rfl rfl (Rets.tmp rfl Rets.nil)) : Rets Tryz.prog σ w76 [.cell 6 38, .tmp 7] [.agg #[I rl1, I 0, I 0, I 0], .bool true])
       obtain rfl := Option.some.inj h
       exact wp_ret (retG (rs := [.cell 6 38, .tmp 7]) rfl (hF.sub [(6, B b1 0), (7, .bool true)] (by kernel_rfl)) (hrets rfl) rfl ⟨_, rfl, rfl, hM0.chg⟩)
     simp only [hg4] at hF
     refine from_takeL hF rfl rfl rfl rfl rfl rfl ?_
     dsimp only [List.set]
     refine from_pure 1 [(0, Str.val p0), (1, I p1), (2, I p2), (6, B b1 0), (8, L a1 x1 c1), (9, B b2 0), (66, .bool true), (70, .bool false), (71, B b2 0)] hF (by kernel_rfl) fun fr hF => ?_
     refine from_takeL hF rfl rfl rfl rfl rfl rfl ?_
     dsimp only [List.set]
     refine s_loadBox (I rl1) ty3 rfl rfl hF rfl (hs.bx 0 rfl) rfl rfl fun fr hF => ?_
     refine from_takeL hF rfl rfl rfl rfl rfl rfl ?_
     dsimp only [List.set]
     refine from_pure 1 [(0, Str.val p0), (1, I p1), (2, I p2), (6, B b1 0), (8, L a1 x1 c1), (9, B b2 0), (66, .bool true), (70, .bool false), (73, .bool (rl1 == 11))] hF (by kernel_rfl) fun fr hF => ?_
     refine from_takeL hF rfl rfl rfl rfl rfl rfl ?_
     dsimp only [List.set]
     refine from_pick rfl rfl hF rfl rfl fun fr hF => ?_
     refine from_pick rfl rfl hF rfl rfl fun fr hF => ?_
     refine from_pure 1 [(0, Str.val p0), (1, I p1), (2, I p2), (6, B b1 0), (8, L a1 x1 c1), (9, B b2 0), (62, .bool (rl1 == 11))] hF (by kernel_rfl) fun fr hF => ?_
     refine from_end rfl (then_normal ?_)
     refine (wp_if hF (b := (rl1 == 11)) rfl (fun hb => ?_) (fun hb => ?_))
     · replace h := iteT hb h
       refine (wp_text' ?_)
       refine from_pure 1 [(0, Str.val p0), (1, I p1), (2, I p2), (6, B b1 0), (9, B b2 0), (76, L a1 x1 c1)] hF (by kernel_rfl) fun fr hF => ?_
       obtain ⟨x45, hx45, h⟩ := bindE h
       refine s_elemF (z := x45) (Str.val x45) ty9 Tryz.underlying30 rfl rfl rfl rfl rfl hF rfl (hs.rv 1 rfl) rfl (get?_nn hx45) (get?_at hx45) rfl fun p fr hF => ?_
       have hs : Sep [BX b2 38 [I rl1, I 0, I 0, I 0], BX b1 38 [I 0, I 0, I 0, I 0]] w9 S6 := Sep.pick [0, 2] hs (by decide) rfl
       obtain ⟨x46, hx46, h⟩ := bindE h
       refine s_call [Str.val x45] Tryz.call40 rfl rfl hF rfl (impl_parseOperand_ok x45 hx46 tb) fun v w77 fr hRes hF => ?_
       obtain ⟨rfl, hc⟩ := hRes
       have tb := tb.ext hc
       have hs := hs.ext hc
       have hM0 := hM0.ext hc
       refine from_pure 1 [(0, Str.val p0), (1, I p1), (2, I p2), (6, B b1 0), (9, B b2 0), (79, I x46), (80, B b2 2)] hF (by kernel_rfl) fun fr hF => ?_
       refine q_storeBox 0 hs hM0 rfl [I rl1, I 0, I x46, I 0] rfl hF rfl rfl (by kernel_rfl) rfl rfl rfl fun w78 S50 hs hp hF => ?_
       have tb := tb.stp hM0 hp
       have hM0 := hM0.stp hp
       have hs : Sep [BX b2 38 [I rl1, I 0, I x46, I 0], BX b1 38 [I 0, I 0, I 0, I 0]] w78 S50 := hs
       refine from_end rfl ?_
       refine blk_normal (then_normal ?_)
       refine wp_seq ?_
       refine wp_seq (wp_text' ?_)
       refine s_loadBoxS ty38 rfl rfl hF rfl (hs.bx 0 rfl) rfl rfl fun fr hF => ?_
       refine from_pure 2 [(0, Str.val p0), (6, B b1 0), (9, B b2 0), (90, .agg #[I rl1, I 0, I x46, I 0]), (91, I p1), (92, I p2)] hF (by kernel_rfl) fun fr hF => ?_
       obtain ⟨x47, hx47, h⟩ := bindE h
       refine s_call [.agg #[I rl1, I 0, I x46, I 0], I p1, I p2] Tryz.call41 rfl rfl hF rfl (impl_FormatIns_ok (D.Ins.mk rl1 0 x46 0) p1 p2 hx47 tb) fun v w79 fr hRes hF => ?_
       obtain ⟨rfl, hc⟩ := hRes
       have tb := tb.ext hc
       have hs := hs.ext hc
       have hM0 := hM0.ext hc
       refine from_pure 2 [(6, B b1 0), (9, B b2 0), (95, .bool (!(Str.eqb x47 p0)))] hF (by kernel_rfl) fun fr hF => ?_
       refine from_end rfl (then_normal ?_)
       refine (wp_if hF (b := (!(Str.eqb x47 p0))) rfl (fun hb => ?_) (fun hb => ?_))
       · replace h := iteT hb h
         have hs : Sep [BX b1 38 [I 0, I 0, I 0, I 0]] w79 S50 := Sep.pick [1] hs (by decide) rfl
         refine wp_seq (wp_text' ?_)
         refine from_pure 1 [(6, B b1 0), (96, .agg #[I 0, I 0, I 0, I 0])] hF (by kernel_rfl) fun fr hF => ?_
         refine q_storeBoxS 0 hs hM0 rfl [I 0, I 0, I 0, I 0] rfl hF rfl rfl (by kernel_rfl) rfl rfl rfl fun w80 S51 hs hp hF => ?_
         have tb := tb.stp hM0 hp
         have hM0 := hM0.stp hp
         have hs : Sep [BX b1 38 [I 0, I 0, I 0, I 0]] w80 S51 := hs
         refine from_pure 1 [(6, B b1 0), (7, .bool false)] hF (by kernel_rfl) fun fr hF => ?_
         refine from_end rfl (then_normal ?_)
         have hrets := fun {σ : List (Nat × Value)} (h : σ = [(6, B b1 0), (7, .bool false)]) => (by subst h; exact (Rets.cell rfl ty38 (hs.bx 0 rfl) rfl rfl (Rets.tmp rfl Rets.nil)) : Rets Tryz.prog σ w80 [.cell 6 38, .tmp 7] [.agg #[I 0, I 0, I 0, I 0], .bool false])
         obtain rfl := Option.some.inj h
         exact wp_ret (then_ret (retG (rs := [.cell 6 38, .tmp 7]) rfl (hF.sub [(6, B b1 0), (7, .bool false)] (by kernel_rfl)) (hrets rfl) rfl ⟨_, rfl, rfl, hM0.chg⟩))
       replace h := iteF hb h
       refine (wp_skip (then_normal ?_))
       refine wp_seq (wp_text' ?_)
       refine s_loadBoxS ty38 rfl rfl hF rfl (hs.bx 0 rfl) rfl rfl fun fr hF => ?_
       have hs : Sep [BX b1 38 [I 0, I 0, I 0, I 0]] w79 S50 := Sep.pick [1] hs (by decide) rfl
       refine q_storeBoxS 0 hs hM0 rfl [I rl1, I 0, I x46, I 0] rfl hF rfl rfl (by kernel_rfl) rfl rfl rfl fun w81 S52 hs hp hF => ?_
       have tb := tb.stp hM0 hp
       have hM0 := hM0.stp hp
       have hs : Sep [BX b1 38 [I rl1, I 0, I x46, I 0]] w81 S52 := hs
       refine from_pure 1 [(6, B b1 0), (7, .bool true)] hF (by kernel_rfl) fun fr hF => ?_
       refine from_end rfl (then_normal ?_)
       have hrets := fun {σ : List (Nat × Value)} (h : σ = [(6, B b1 0), (7, .bool true)]) => (by subst h; exact (Rets.cell rfl ty38 (hs.bx 0 rfl) rfl rfl (Rets.tmp rfl Rets.nil)) : Rets Tryz.prog σ w81 [.cell 6 38, .tmp 7] [.agg #[I rl1, I 0, I x46, I 0], .bool true])
       obtain rfl := Option.some.inj h
       exact wp_ret (retG (rs := [.cell 6 38, .tmp 7]) rfl (hF.sub [(6, B b1 0), (7, .bool true)] (by kernel_rfl)) (hrets rfl) rfl ⟨_, rfl, rfl, hM0.chg⟩)
     replace h := iteF hb h
     refine wp_seq (wp_pure [(0, Str.val p0), (1, I p1), (2, I p2), (6, B b1 0), (8, L a1 x1 c1), (9, B b2 0), (81, .bool ((len x1) == 2))] hF (by kernel_rfl) fun fr hF => then_normal ?_)
     refine (wp_if hF (b := ((len x1) == 2)) rfl (fun hb => ?_) (fun hb => ?_))
     · replace h := iteT hb h
       refine (wp_text' ?_)
       refine from_pure 1 [(0, Str.val p0), (1, I p1), (2, I p2), (6, B b1 0), (9, B b2 0), (85, L a1 x1 c1)] hF (by kernel_rfl) fun fr hF => ?_
       obtain ⟨x48, hx48, h⟩ := bindE h
       refine s_elemF (z := x48) (Str.val x48) ty9 Tryz.underlying30 rfl rfl rfl rfl rfl hF rfl (hs.rv 1 rfl) rfl (get?_nn hx48) (get?_at hx48) rfl fun p fr hF => ?_
       have hs : Sep [BX b2 38 [I rl1, I 0, I 0, I 0], BX b1 38 [I 0, I 0, I 0, I 0]] w9 S6 := Sep.pick [0, 2] hs (by decide) rfl
       obtain ⟨x49, hx49, h⟩ := bindE h
       refine s_call [Str.val x48] Tryz.call40 rfl rfl hF rfl (impl_parseOperand_ok x48 hx49 tb) fun v w82 fr hRes hF => ?_
       obtain ⟨rfl, hc⟩ := hRes
       have tb := tb.ext hc
       have hs := hs.ext hc
       have hM0 := hM0.ext hc
       refine from_pure 1 [(0, Str.val p0), (1, I p1), (2, I p2), (6, B b1 0), (9, B b2 0), (88, I x49), (89, B b2 1)] hF (by kernel_rfl) fun fr hF => ?_
       refine q_storeBox 0 hs hM0 rfl [I rl1, I x49, I 0, I 0] rfl hF rfl rfl (by kernel_rfl) rfl rfl rfl fun w83 S53 hs hp hF => ?_
       have tb := tb.stp hM0 hp
       have hM0 := hM0.stp hp
       have hs : Sep [BX b2 38 [I rl1, I x49, I 0, I 0], BX b1 38 [I 0, I 0, I 0, I 0]] w83 S53 := hs
       refine from_end rfl ?_
       refine blk_normal (then_normal ?_)
       refine wp_seq ?_
       refine wp_seq (wp_text' ?_)
       refine s_loadBoxS ty38 rfl rfl hF rfl (hs.bx 0 rfl) rfl rfl fun fr hF => ?_
       refine from_pure 2 [(0, Str.val p0), (6, B b1 0), (9, B b2 0), (90, .agg #[I rl1, I x49, I 0, I 0]), (91, I p1), (92, I p2)] hF (by kernel_rfl) fun fr hF => ?_
       obtain ⟨x50, hx50, h⟩ := bindE h
       refine s_call [.agg #[I rl1, I x49, I 0, I 0], I p1, I p2] Tryz.call41 rfl rfl hF rfl (impl_FormatIns_ok (D.Ins.mk rl1 x49 0 0) p1 p2 hx50 tb) fun v w84 fr hRes hF => ?_
       obtain ⟨rfl, hc⟩ := hRes
       have tb := tb.ext hc
       have hs := hs.ext hc
       have hM0 := hM0.ext hc
       refine from_pure 2 [(6, B b1 0), (9, B b2 0), (95, .bool (!(Str.eqb x50 p0)))] hF (by kernel_rfl) fun fr hF => ?_
       refine from_end rfl (then_normal ?_)
       refine (wp_if hF (b := (!(Str.eqb x50 p0))) rfl (fun hb => ?_) (fun hb => ?_))
       · replace h := iteT hb h
         have hs : Sep [BX b1 38 [I 0, I 0, I 0, I 0]] w84 S53 := Sep.pick [1] hs (by decide) rfl
         refine wp_seq (wp_text' ?_)
         refine from_pure 1 [(6, B b1 0), (96, .agg #[I 0, I 0, I 0, I 0])] hF (by kernel_rfl) fun fr hF => ?_
         refine q_storeBoxS 0 hs hM0 rfl [I 0, I 0, I 0, I 0] rfl hF rfl rfl (by kernel_rfl) rfl rfl rfl fun w85 S54 hs hp hF => ?_
         have tb := tb.stp hM0 hp
         have hM0 := hM0.stp hp
         have hs : Sep [BX b1 38 [I 0, I 0, I 0, I 0]] w85 S54 := hs
         refine from_pure 1 [(6, B b1 0), (7, .bool false)] hF (by kernel_rfl) fun fr hF => ?_
         refine from_end rfl (then_normal ?_)
         have hrets := fun {σ : List (Nat × Value)} (h : σ = [(6, B b1 0), (7, .bool false)]) => (by subst h; exact (Rets.cell rfl ty38 (hs.bx 0 rfl) rfl rfl (Rets.tmp rfl Rets.nil)) : Rets Tryz.prog σ w85 [.cell 6 38, .tmp 7] [.agg #[I 0, I 0, I 0, I 0], .bool false])
         obtain rfl := Option.some.inj h
         exact wp_ret (then_ret (retG (rs := [.cell 6 38, .tmp 7]) rfl (hF.sub [(6, B b1 0), (7, .bool false)] (by kernel_rfl)) (hrets rfl) rfl ⟨_, rfl, rfl, hM0.chg⟩))
       replace h := iteF hb h
       refine (wp_skip (then_normal ?_))
       refine wp_seq (wp_text' ?_)
       refine s_loadBoxS ty38 rfl rfl hF rfl (hs.bx 0 rfl) rfl rfl fun fr hF => ?_
       have hs : Sep [BX b1 38 [I 0, I 0, I 0, I 0]] w84 S53 := Sep.pick [1] hs (by decide) rfl
       refine q_storeBoxS 0 hs hM0 rfl [I rl1, I x49, I 0, I 0] rfl hF rfl rfl (by kernel_rfl) rfl rfl rfl fun w86 S55 hs hp hF => ?_
       have tb := tb.stp hM0 hp
       have hM0 := hM0.stp hp
       have hs : Sep [BX b1 38 [I rl1, I x49, I 0, I 0]] w86 S55 := hs
       refine from_pure 1 [(6, B b1 0), (7, .bool true)] hF (by kernel_rfl) fun fr hF => ?_
       refine from_end rfl (then_normal ?_)
       have hrets := fun {σ : List (Nat × Value)} (h : σ = [(6, B b1 0), (7, .bool true)]) => (by subst h; exact (Rets.cell rfl ty38 (hs.bx 0 rfl) rfl rfl (Rets.tmp rfl Rets.nil)) : Rets Tryz.prog σ w86 [.cell 6 38, .tmp 7] [.agg #[I rl1, I x49, I 0, I 0], .bool true])
       obtain rfl := Option.some.inj h
       exact wp_ret (retG (rs := [.cell 6 38, .tmp 7]) rfl (hF.sub [(6, B b1 0), (7, .bool true)] (by kernel_rfl)) (hrets rfl) rfl ⟨_, rfl, rfl, hM0.chg⟩)
     replace h := iteF hb h
     have hs : Sep [BX b2 38 [I rl1, I 0, I 0, I 0], BX b1 38 [I 0, I 0, I 0, I 0]] w9 S6 := Sep.pick [0, 2] hs (by decide) rfl
     refine (wp_skip ?_)
     refine blk_normal (then_normal ?_)
     refine wp_seq ?_
     refine wp_seq (wp_text' ?_)
     refine s_loadBoxS ty38 rfl rfl hF rfl (hs.bx 0 rfl) rfl rfl fun fr hF => ?_
     refine from_pure 2 [(0, Str.val p0), (6, B b1 0), (9, B b2 0), (90, .agg #[I rl1, I 0, I 0, I 0]), (91, I p1), (92, I p2)] hF (by kernel_rfl) fun fr hF => ?_
     obtain ⟨x51, hx51, h⟩ := bindE h
     refine s_call [.agg #[I rl1, I 0, I 0, I 0], I p1, I p2] Tryz.call41 rfl rfl hF rfl (impl_FormatIns_ok (D.Ins.mk rl1 0 0 0) p1 p2 hx51 tb) fun v w87 fr hRes hF => ?_
     obtain ⟨rfl, hc⟩ := hRes
     have tb := tb.ext hc
     have hs := hs.ext hc
     have hM0 := hM0.ext hc
     refine from_pure 2 [(6, B b1 0), (9, B b2 0), (95, .bool (!(Str.eqb x51 p0)))] hF (by kernel_rfl) fun fr hF => ?_
     refine from_end rfl (then_normal ?_)
     refine (wp_if hF (b := (!(Str.eqb x51 p0))) rfl (fun hb => ?_) (fun hb => ?_))
     · replace h := iteT hb h
       have hs : Sep [BX b1 38 [I 0, I 0, I 0, I 0]] w87 S6 := Sep.pick [1] hs (by decide) rfl
       refine wp_seq (wp_text' ?_)
       refine from_pure 1 [(6, B b1 0), (96, .agg #[I 0, I 0, I 0, I 0])] hF (by kernel_rfl) fun fr hF => ?_
       refine q_storeBoxS 0 hs hM0 rfl [I 0, I 0, I 0, I 0] rfl hF rfl rfl (by kernel_rfl) rfl rfl rfl fun w88 S56 hs hp hF => ?_
       have tb := tb.stp hM0 hp
       have hM0 := hM0.stp hp
       have hs : Sep [BX b1 38 [I 0, I 0, I 0, I 0]] w88 S56 := hs
       refine from_pure 1 [(6, B b1 0), (7, .bool false)] hF (by kernel_rfl) fun fr hF => ?_
       refine from_end rfl (then_normal ?_)
       have hrets := fun {σ : List (Nat × Value)} (h : σ = [(6, B b1 0), (7, .bool false)]) => (by subst h; exact (Rets.cell rfl ty38 (hs.bx 0 rfl) rfl rfl (Rets.tmp rfl Rets.nil)) : Rets Tryz.prog σ w88 [.cell 6 38, .tmp 7] [.agg #[I 0, I 0, I 0, I 0], .bool false])
       obtain rfl := Option.some.inj h
       exact wp_ret (then_ret (retG (rs := [.cell 6 38, .tmp 7]) rfl (hF.sub [(6, B b1 0), (7, .bool false)] (by kernel_rfl)) (hrets rfl) rfl ⟨_, rfl, rfl, hM0.chg⟩))
     replace h := iteF hb h
     refine (wp_skip (then_normal ?_))
     refine wp_seq (wp_text' ?_)
     refine s_loadBoxS ty38 rfl rfl hF rfl (hs.bx 0 rfl) rfl rfl fun fr hF => ?_
     have hs : Sep [BX b1 38 [I 0, I 0, I 0, I 0]] w87 S6 := Sep.pick [1] hs (by decide) rfl
     refine q_storeBoxS 0 hs hM0 rfl [I rl1, I 0, I 0, I 0] rfl hF rfl rfl (by kernel_rfl) rfl rfl rfl fun w89 S57 hs hp hF => ?_
     have tb := tb.stp hM0 hp
     have hM0 := hM0.stp hp
     have hs : Sep [BX b1 38 [I rl1, I 0, I 0, I 0]] w89 S57 := hs
     refine from_pure 1 [(6, B b1 0), (7, .bool true)] hF (by kernel_rfl) fun fr hF => ?_
     refine from_end rfl (then_normal ?_)
     have hrets := fun {σ : List (Nat × Value)} (h : σ = [(6, B b1 0), (7, .bool true)]) => (by subst h; exact (Rets.cell rfl ty38 (hs.bx 0 rfl) rfl rfl (Rets.tmp rfl Rets.nil)) : Rets Tryz.prog σ w89 [.cell 6 38, .tmp 7] [.agg #[I rl1, I 0, I 0, I 0], .bool true])
     obtain rfl := Option.some.inj h
     exact wp_ret (retG (rs := [.cell 6 38, .tmp 7]) rfl (hF.sub [(6, B b1 0), (7, .bool true)] (by kernel_rfl)) (hrets rfl) rfl ⟨_, rfl, rfl, hM0.chg⟩)
   simp only [hg3] at hF
   refine from_skip hF rfl rfl rfl rfl rfl rfl rfl rfl rfl fun fr hF => ?_
   refine from_skip hF rfl rfl rfl rfl rfl rfl rfl rfl rfl fun fr hF => ?_
   refine from_skip hF rfl rfl rfl rfl rfl rfl rfl rfl rfl fun fr hF => ?_
   refine from_skip hF rfl rfl rfl rfl rfl rfl rfl rfl rfl fun fr hF => ?_
   refine from_skipU hF rfl rfl rfl rfl rfl rfl rfl rfl fun fr hF => ?_
   refine from_skipU hF rfl rfl rfl rfl rfl rfl rfl rfl fun fr hF => ?_
   refine from_skipU hF rfl rfl rfl rfl rfl rfl rfl rfl fun fr hF => ?_
   refine from_skip hF rfl rfl rfl rfl rfl rfl rfl rfl rfl fun fr hF => ?_
   refine from_pick rfl rfl hF rfl rfl fun fr hF => ?_
   refine from_pure 1 [(0, Str.val p0), (1, I p1), (2, I p2), (6, B b1 0), (8, L a1 x1 c1), (9, B b2 0), (62, .bool false)] hF (by kernel_rfl) fun fr hF => ?_
   refine from_end rfl (then_normal ?_)
   refine (wp_if hF (b := false) rfl (fun hb => ?_) (fun hb => ?_))
   · replace h := iteT hb h
     refine (wp_text' ?_)
     refine from_pure 1 [(0, Str.val p0), (1, I p1), (2, I p2), (6, B b1 0), (9, B b2 0), (76, L a1 x1 c1)] hF (by kernel_rfl) fun fr hF => ?_
     obtain ⟨x52, hx52, h⟩ := bindE h
     refine s_elemF (z := x52) (Str.val x52) ty9 Tryz.underlying30 rfl rfl rfl rfl rfl hF rfl (hs.rv 1 rfl) rfl (get?_nn hx52) (get?_at hx52) rfl fun p fr hF => ?_
     have hs : Sep [BX b2 38 [I rl1, I 0, I 0, I 0], BX b1 38 [I 0, I 0, I 0, I 0]] w9 S6 := Sep.pick [0, 2] hs (by decide) rfl
     obtain ⟨x53, hx53, h⟩ := bindE h
     refine s_call [Str.val x52] Tryz.call40 rfl rfl hF rfl (impl_parseOperand_ok x52 hx53 tb) fun v w90 fr hRes hF => ?_
     obtain ⟨rfl, hc⟩ := hRes
     have tb := tb.ext hc
     have hs := hs.ext hc
     have hM0 := hM0.ext hc
     refine from_pure 1 [(0, Str.val p0), (1, I p1), (2, I p2), (6, B b1 0), (9, B b2 0), (79, I x53), (80, B b2 2)] hF (by kernel_rfl) fun fr hF => ?_
     refine q_storeBox 0 hs hM0 rfl [I rl1, I 0, I x53, I 0] rfl hF rfl rfl (by kernel_rfl) rfl rfl rfl fun w91 S58 hs hp hF => ?_
     have tb := tb.stp hM0 hp
     have hM0 := hM0.stp hp
     have hs : Sep [BX b2 38 [I rl1, I 0, I x53, I 0], BX b1 38 [I 0, I 0, I 0, I 0]] w91 S58 := hs
     refine from_end rfl ?_
     refine blk_normal (then_normal ?_)
     refine wp_seq ?_
     refine wp_seq (wp_text' ?_)
     refine s_loadBoxS ty38 rfl rfl hF rfl (hs.bx 0 rfl) rfl rfl fun fr hF => ?_
     refine from_pure 2 [(0, Str.val p0), (6, B b1 0), (9, B b2 0), (90, .agg #[I rl1, I 0, I x53, I 0]), (91, I p1), (92, I p2)] hF (by kernel_rfl) fun fr hF => ?_
     obtain ⟨x54, hx54, h⟩ := bindE h
     refine s_call [.agg #[I rl1, I 0, I x53, I 0], I p1, I p2] Tryz.call41 rfl rfl hF rfl (impl_FormatIns_ok (D.Ins.mk rl1 0 x53 0) p1 p2 hx54 tb) fun v w92 fr hRes hF => ?_
     obtain ⟨rfl, hc⟩ := hRes
     have tb := tb.ext hc
     have hs := hs.ext hc
     have hM0 := hM0.ext hc
     refine from_pure 2 [(6, B b1 0), (9, B b2 0), (95, .bool (!(Str.eqb x54 p0)))] hF (by kernel_rfl) fun fr hF => ?_
     refine from_end rfl (then_normal ?_)
     refine (wp_if hF (b := (!(Str.eqb x54 p0))) rfl (fun hb => ?_) (fun hb => ?_))
     · replace h := iteT hb h
       have hs : Sep [BX b1 38 [I 0, I 0, I 0, I 0]] w92 S58 := Sep.pick [1] hs (by decide) rfl
       refine wp_seq (wp_text' ?_)
       refine from_pure 1 [(6, B b1 0), (96, .agg #[I 0, I 0, I 0, I 0])] hF (by kernel_rfl) fun fr hF => ?_
       refine q_storeBoxS 0 hs hM0 rfl [I 0, I 0, I 0, I 0] rfl hF rfl rfl (by kernel_rfl) rfl rfl rfl fun w93 S59 hs hp hF => ?_
       have tb := tb.stp hM0 hp
       have hM0 := hM0.stp hp
       have hs : Sep [BX b1 38 [I 0, I 0, I 0, I 0]] w93 S59 := hs
       refine from_pure 1 [(6, B b1 0), (7, .bool false)] hF (by kernel_rfl) fun fr hF => ?_
       refine from_end rfl (then_normal ?_)
       have hrets := fun {σ : List (Nat × Value)} (h : σ = [(6, B b1 0), (7, .bool false)]) => (by subst h; exact (Rets.cell rfl ty38 (hs.bx 0 rfl) rfl rfl (Rets.tmp rfl Rets.nil)) : Rets Tryz.prog σ w93 [.cell 6 38, .tmp 7] [.agg #[I 0, I 0, I 0, I 0], .bool false])
       obtain rfl := Option.some.inj h
       exact wp_ret (then_ret (retG (rs := [.cell 6 38, .tmp 7]) rfl (hF.sub [(6, B b1 0), (7, .bool false)] (by kernel_rfl)) (hrets rfl) rfl ⟨_, rfl, rfl, hM0.chg⟩))
     replace h := iteF hb h
     refine (wp_skip (then_normal ?_))
     refine wp_seq (wp_text' ?_)
     refine s_loadBoxS ty38 rfl rfl hF rfl (hs.bx 0 rfl) rfl rfl fun fr hF => ?_
     have hs : Sep [BX b1 38 [I 0, I 0, I 0, I 0]] w92 S58 := Sep.pick [1] hs (by decide) rfl
     refine q_storeBoxS 0 hs hM0 rfl [I rl1, I 0, I x53, I 0] rfl hF rfl rfl (by kernel_rfl) rfl rfl rfl fun w94 S60 hs hp hF => ?_
     have tb := tb.stp hM0 hp
     have hM0 := hM0.stp hp
     have hs : Sep [BX b1 38 [I rl1, I 0, I x53, I 0]] w94 S60 := hs
     refine from_pure 1 [(6, B b1 0), (7, .bool true)] hF (by kernel_rfl) fun fr hF => ?_
     refine from_end rfl (then_normal ?_)
     have hrets := fun {σ : List (Nat × Value)} (h : σ = [(6, B b1 0), (7, .bool true)]) => (by subst h; exact (Rets.cell rfl ty38 (hs.bx 0 rfl) rfl rfl (Rets.tmp rfl Rets.nil)) : Rets Tryz.prog σ w94 [.cell 6 38, .tmp 7] [.agg #[I rl1, I 0, I x53, I 0], .bool true])
     obtain rfl := Option.some.inj h
     exact wp_ret (retG (rs := [.cell 6 38, .tmp 7]) rfl (hF.sub [(6, B b1 0), (7, .bool true)] (by kernel_rfl)) (hrets rfl) rfl ⟨_, rfl, rfl, hM0.chg⟩)
   replace h := iteF hb h
   refine wp_seq (wp_pure [(0, Str.val p0), (1, I p1), (2, I p2), (6, B b1 0), (8, L a1 x1 c1), (9, B b2 0), (81, .bool ((len x1) == 2))] hF (by kernel_rfl) fun fr hF => then_normal ?_)
   refine (wp_if hF (b := ((len x1) == 2)) rfl (fun hb => ?_) (fun hb => ?_))
   · replace h := iteT hb h
     refine (wp_text' ?_)
     refine from_pure 1 [(0, Str.val p0), (1, I p1), (2, I p2), (6, B b1 0), (9, B b2 0), (85, L a1 x1 c1)] hF (by kernel_rfl) fun fr hF => ?_
     obtain ⟨x55, hx55, h⟩ := bindE h
     refine s_elemF (z := x55) (Str.val x55) ty9 Tryz.underlying30 rfl rfl rfl rfl rfl hF rfl (hs.rv 1 rfl) rfl (get?_nn hx55) (get?_at hx55) rfl fun p fr hF => ?_
     have hs : Sep [BX b2 38 [I rl1, I 0, I 0, I 0], BX b1 38 [I 0, I 0, I 0, I 0]] w9 S6 := Sep.pick [0, 2] hs (by decide) rfl
     obtain ⟨x56, hx56, h⟩ := bindE h
     refine s_call [Str.val x55] Tryz.call40 rfl rfl hF rfl (impl_parseOperand_ok x55 hx56 tb) fun v w95 fr hRes hF => ?_
     obtain ⟨rfl, hc⟩ := hRes
     have tb := tb.ext hc
     have hs := hs.ext hc
     have hM0 := hM0.ext hc
     refine from_pure 1 [(0, Str.val p0), (1, I p1), (2, I p2), (6, B b1 0), (9, B b2 0), (88, I x56), (89, B b2 1)] hF (by kernel_rfl) fun fr hF => ?_
     refine q_storeBox 0 hs hM0 rfl [I rl1, I x56, I 0, I 0] rfl hF rfl rfl (by kernel_rfl) rfl rfl rfl fun w96 S61 hs hp hF => ?_
     have tb := tb.stp hM0 hp
     have hM0 := hM0.stp hp
     have hs : Sep [BX b2 38 [I rl1, I x56, I 0, I 0], BX b1 38 [I 0, I 0, I 0, I 0]] w96 S61 := hs
     refine from_end rfl ?_
     refine blk_normal (then_normal ?_)
     refine wp_seq ?_
     refine wp_seq (wp_text' ?_)
     refine s_loadBoxS ty38 rfl rfl hF rfl (hs.bx 0 rfl) rfl rfl fun fr hF => ?_
     refine from_pure 2 [(0, Str.val p0), (6, B b1 0), (9, B b2 0), (90, .agg #[I rl1, I x56, I 0, I 0]), (91, I p1), (92, I p2)] hF (by kernel_rfl) fun fr hF => ?_
     obtain ⟨x57, hx57, h⟩ := bindE h
     refine s_call [.agg #[I rl1, I x56, I 0, I 0], I p1, I p2] Tryz.call41 rfl rfl hF rfl (impl_FormatIns_ok (D.Ins.mk rl1 x56 0 0) p1 p2 hx57 tb) fun v w97 fr hRes hF => ?_
     obtain ⟨rfl, hc⟩ := hRes
     have tb := tb.ext hc
     have hs := hs.ext hc
     have hM0 := hM0.ext hc
     refine from_pure 2 [(6, B b1 0), (9, B b2 0), (95, .bool (!(Str.eqb x57 p0)))] hF (by kernel_rfl) fun fr hF => ?_
     refine from_end rfl (then_normal ?_)
     refine (wp_if hF (b := (!(Str.eqb x57 p0))) rfl (fun hb => ?_) (fun hb => ?_))
     · replace h := iteT hb h
       have hs : Sep [BX b1 38 [I 0, I 0, I 0, I 0]] w97 S61 := Sep.pick [1] hs (by decide) rfl
       refine wp_seq (wp_text' ?_)
       refine from_pure 1 [(6, B b1 0), (96, .agg #[I 0, I 0, I 0, I 0])] hF (by kernel_rfl) fun fr hF => ?_
       refine q_storeBoxS 0 hs hM0 rfl [I 0, I 0, I 0, I 0] rfl hF rfl rfl (by kernel_rfl) rfl rfl rfl fun w98 S62 hs hp hF => ?_
       have tb := tb.stp hM0 hp
       have hM0 := hM0.stp hp
       have hs : Sep [BX b1 38 [I 0, I 0, I 0, I 0]] w98 S62 := hs
       refine from_pure 1 [(6, B b1 0), (7, .bool false)] hF (by kernel_rfl) fun fr hF => ?_
       refine from_end rfl (then_normal ?_)
       have hrets := fun {σ : List (Nat × Value)} (h : σ = [(6, B b1 0), (7, .bool false)]) => (by subst h; exact (Rets.cell rfl ty38 (hs.bx 0 rfl) rfl rfl (Rets.tmp rfl Rets.nil)) : Rets Tryz.prog σ w98 [.cell 6 38, .tmp 7] [.agg #[I 0, I 0, I 0, I 0], .bool false])
       obtain rfl := Option.some.inj h
       exact wp_ret (then_ret (retG (rs := [.cell 6 38, .tmp 7]) rfl (hF.sub [(6, B b1 0), (7, .bool false)] (by kernel_rfl)) (hrets rfl) rfl ⟨_, rfl, rfl, hM0.chg⟩))
     replace h := iteF hb h
     refine (wp_skip (then_normal ?_))
     refine wp_seq (wp_text' ?_)
     refine s_loadBoxS ty38 rfl rfl hF rfl (hs.bx 0 rfl) rfl rfl fun fr hF => ?_
     have hs : Sep [BX b1 38 [I 0, I 0, I 0, I 0]] w97 S61 := Sep.pick [1] hs (by decide) rfl
     refine q_storeBoxS 0 hs hM0 rfl [I rl1, I x56, I 0, I 0] rfl hF rfl rfl (by kernel_rfl) rfl rfl rfl fun w99 S63 hs hp hF => ?_
     have tb := tb.stp hM0 hp
     have hM0 := hM0.stp hp
     have hs : Sep [BX b1 38 [I rl1, I x56, I 0, I 0]] w99 S63 := hs
     refine from_pure 1 [(6, B b1 0), (7, .bool true)] hF (by kernel_rfl) fun fr hF => ?_
     refine from_end rfl (then_normal ?_)
     have hrets := fun {σ : List (Nat × Value)} (h : σ = [(6, B b1 0), (7, .bool true)]) => (by subst h; exact (Rets.cell rfl ty38 (hs.bx 0 rfl) rfl rfl (Rets.tmp rfl Rets.nil)) : Rets Tryz.prog σ w99 [.cell 6 38, .tmp 7] [.agg #[I rl1, I x56, I 0, I 0], .bool true])
     obtain rfl := Option.some.inj h
     exact wp_ret (retG (rs := [.cell 6 38, .tmp 7]) rfl (hF.sub [(6, B b1 0), (7, .bool true)] (by kernel_rfl)) (hrets rfl) rfl ⟨_, rfl, rfl, hM0.chg⟩)
   replace h := iteF hb h
   have hs : Sep [BX b2 38 [I rl1, I 0, I 0, I 0], BX b1 38 [I 0, I 0, I 0, I 0]] w9 S6 := Sep.pick [0, 2] hs (by decide) rfl
   refine (wp_skip ?_)
   refine blk_normal (then_normal ?_)
   refine wp_seq ?_
   refine wp_seq (wp_text' ?_)
   refine s_loadBoxS ty38 rfl rfl hF rfl (hs.bx 0 rfl) rfl rfl fun fr hF => ?_
   refine from_pure 2 [(0, Str.val p0), (6, B b1 0), (9, B b2 0), (90, .agg #[I rl1, I 0, I 0, I 0]), (91, I p1), (92, I p2)] hF (by kernel_rfl) fun fr hF => ?_
   obtain ⟨x58, hx58, h⟩ := bindE h
   refine s_call [.agg #[I rl1, I 0, I 0, I 0], I p1, I p2] Tryz.call41 rfl rfl hF rfl (impl_FormatIns_ok (D.Ins.mk rl1 0 0 0) p1 p2 hx58 tb) fun v w100 fr hRes hF => ?_
   obtain ⟨rfl, hc⟩ := hRes
   have tb := tb.ext hc
   have hs := hs.ext hc
   have hM0 := hM0.ext hc
   refine from_pure 2 [(6, B b1 0), (9, B b2 0), (95, .bool (!(Str.eqb x58 p0)))] hF (by kernel_rfl) fun fr hF => ?_
   refine from_end rfl (then_normal ?_)
   refine (wp_if hF (b := (!(Str.eqb x58 p0))) rfl (fun hb => ?_) (fun hb => ?_))
   · replace h := iteT hb h
     have hs : Sep [BX b1 38 [I 0, I 0, I 0, I 0]] w100 S6 := Sep.pick [1] hs (by decide) rfl
     refine wp_seq (wp_text' ?_)
     refine from_pure 1 [(6, B b1 0), (96, .agg #[I 0, I 0, I 0, I 0])] hF (by kernel_rfl) fun fr hF => ?_
     refine q_storeBoxS 0 hs hM0 rfl [I 0, I 0, I 0, I 0] rfl hF rfl rfl (by kernel_rfl) rfl rfl rfl fun w101 S64 hs hp hF => ?_
     have tb := tb.stp hM0 hp
     have hM0 := hM0.stp hp
     have hs : Sep [BX b1 38 [I 0, I 0, I 0, I 0]] w101 S64 := hs
     refine from_pure 1 [(6, B b1 0), (7, .bool false)] hF (by kernel_rfl) fun fr hF => ?_
     refine from_end rfl (then_normal ?_)
     have hrets := fun {σ : List (Nat × Value)} (h : σ = [(6, B b1 0), (7, .bool false)]) => (by subst h; exact (Rets.cell rfl ty38 (hs.bx 0 rfl) rfl rfl (Rets.tmp rfl Rets.nil)) : Rets Tryz.prog σ w101 [.cell 6 38, .tmp 7] [.agg #[I 0, I 0, I 0, I 0], .bool false])
     obtain rfl := Option.some.inj h
     exact wp_ret (then_ret (retG (rs := [.cell 6 38, .tmp 7]) rfl (hF.sub [(6, B b1 0), (7, .bool false)] (by kernel_rfl)) (hrets rfl) rfl ⟨_, rfl, rfl, hM0.chg⟩))
   replace h := iteF hb h
   refine (wp_skip (then_normal ?_))
   refine wp_seq (wp_text' ?_)
   refine s_loadBoxS ty38 rfl rfl hF rfl (hs.bx 0 rfl) rfl rfl fun fr hF => ?_
   have hs : Sep [BX b1 38 [I 0, I 0, I 0, I 0]] w100 S6 := Sep.pick [1] hs (by decide) rfl
   refine q_storeBoxS 0 hs hM0 rfl [I rl1, I 0, I 0, I 0] rfl hF rfl rfl (by kernel_rfl) rfl rfl rfl fun w102 S65 hs hp hF => ?_
   have tb := tb.stp hM0 hp
   have hM0 := hM0.stp hp
   have hs : Sep [BX b1 38 [I rl1, I 0, I 0, I 0]] w102 S65 := hs
   refine from_pure 1 [(6, B b1 0), (7, .bool true)] hF (by kernel_rfl) fun fr hF => ?_
   refine from_end rfl (then_normal ?_)
   have hrets := fun {σ : List (Nat × Value)} (h : σ = [(6, B b1 0), (7, .bool true)]) => (by subst h; exact (Rets.cell rfl ty38 (hs.bx 0 rfl) rfl rfl (Rets.tmp rfl Rets.nil)) : Rets Tryz.prog σ w102 [.cell 6 38, .tmp 7] [.agg #[I rl1, I 0, I 0, I 0], .bool true])
   obtain rfl := Option.some.inj h
   exact wp_ret (retG (rs := [.cell 6 38, .tmp 7]) rfl (hF.sub [(6, B b1 0), (7, .bool true)] (by kernel_rfl)) (hrets rfl) rfl ⟨_, rfl, rfl, hM0.chg⟩)

theorem impl_ProgramOk_ok (n : Nat) (p0 : D.Program) {r : Bool} (h : impl_ProgramOk n p0 = some r) {w : World} {G0 : Nat → Prop} {va0 : Value} (ra0 : RV w G0 va0 p0) :
   Calls Tryz.prog 21 [va0].toArray w fun e w' => ∃ v, e = .returned v ∧ v = .bool r ∧ Chg Non w w' := by
 unfold impl_ProgramOk at h
 have hs := Sep.nil w Non
 have hM0 : Mem w Non (fun k => (G0 k) ∧ k < w.heap.size) w Non (fun k => (G0 k) ∧ k < w.heap.size) := Mem.start (fun _ h => h.elim) (fun _ h => h.2) (fun _ h => h.elim)
 have ra0 := ra0.sub (F' := (fun k => (G0 k) ∧ k < w.heap.size)) (fun k hk h => ⟨h, hk⟩)
 obtain ⟨v1, rfl, r1⟩ := RV.Program ra0
 obtain ⟨a1, c1, rfl, -⟩ := r1.slice
 refine enter (N := 54) Tryz.func21 rfl Tryz.ntmps21 rfl fun fr hF => ?_
 refine wp_seq (wp_text' ?_)
 refine q_box hs hM0 [I p0.W, I p0.Mem, I p0.In, L a1 p0.Code c1] rfl rfl hF rfl rfl fun b1 w1 S1 fr hs hp hF => ?_
 have r1 := r1.stp hM0 hp
 have hM0 := hM0.stp hp
 have hs : Sep [BX b1 24 [I p0.W, I p0.Mem, I p0.In, L a1 p0.Code c1]] w1 S1 := hs
 refine from_pure 1 [(1, B b1 0)] hF (by kernel_rfl) fun fr hF => ?_
 refine from_end rfl (then_normal ?_)
 refine wp_seq ?_
 obtain ⟨x1, hx1, h⟩ := bindE h
 obtain ⟨x2, hx2, h⟩ := bindE h
 refine wp_seq (region_b [] [true, false, true, false, true, false, true, true, true, false, true, true, true, true, false, true, true, true, true, false, true, false, false, true, true]
     [.eq (B b1 0), .eq (I p0.W), .eq (B b1 3), .eq (L a1 p0.Code c1), .eq (I (len p0.Code)), .eq (.bool x1), .eq (.bool (!x1)), .eq (.bool (!x1)), .eq (B b1 1), .eq (I p0.Mem), .eq (.bool (decide (p0.Mem < 1))), .eq (.bool ((!x1) || (decide (p0.Mem < 1)))), .eq (.bool ((!x1) || (decide (p0.Mem < 1)))), .eq (B b1 1), .eq (I p0.Mem), .eq (.bool (decide (p0.Mem > 6))), .eq (.bool (((!x1) || (decide (p0.Mem < 1))) || (decide (p0.Mem > 6)))), .eq (.bool (((!x1) || (decide (p0.Mem < 1))) || (decide (p0.Mem > 6)))), .eq (B b1 0), .eq (I p0.W), .eq (B b1 1), .eq (I p0.Mem), .eq (.bool x2), .eq (.bool (!x2)), .eq (.bool ((((!x1) || (decide (p0.Mem < 1))) || (decide (p0.Mem > 6))) || (!x2)))]
     [(1, B b1 0), (29, .bool ((((!x1) || (decide (p0.Mem < 1))) || (decide (p0.Mem > 6))) || (!x2)))] mix hF (by kernel_rfl) (by kernel_rfl) (by kernel_rfl) ⟨Pd.mono_eq, Pd.mono_eq, Pd.mono_eq, Pd.mono_eq, Pd.mono_eq, Pd.mono_eq, Pd.mono_eq, Pd.mono_eq, trivial⟩ (fun hG => ⟨np_loadBox hG hF ty3 rfl rfl (hs.bx 0 rfl) rfl rfl rfl, np_loadBox hG hF ty22 rfl rfl (hs.bx 0 rfl) rfl rfl rfl, np_call [I p0.W, I (len p0.Code)] hG hF Tryz.call42 rfl rfl (fun w hC hg => (impl_shapeOk_ok p0.W (len p0.Code) hx1).mono fun e w' ⟨v, he, hv, hc⟩ => ⟨v, he, hc, hv⟩), np_loadBox hG hF ty3 rfl rfl (hs.bx 0 rfl) rfl rfl rfl, np_loadBox hG hF ty3 rfl rfl (hs.bx 0 rfl) rfl rfl rfl, np_loadBox hG hF ty3 rfl rfl (hs.bx 0 rfl) rfl rfl rfl, np_loadBox hG hF ty3 rfl rfl (hs.bx 0 rfl) rfl rfl rfl, np_call [I p0.W, I p0.Mem] hG hF Tryz.call43 rfl rfl (fun w hC hg => (impl_WordOk_ok p0.W p0.Mem (iteF hg.2 hx2)).mono fun e w' ⟨v, he, hv, hc⟩ => ⟨v, he, hc, hv⟩), trivial⟩) (by kernel_rfl) fun fr w2 hF hE hc => then_normal ?_)
 have r1 := r1.ext hc
 have hs := hs.ext hc
 have hM0 := hM0.ext hc
 refine (wp_if hF (b := ((((!x1) || (decide (p0.Mem < 1))) || (decide (p0.Mem > 6))) || (!x2))) rfl (fun hb => ?_) (fun hb => ?_))
 · replace h := iteT hb h
   have hs : Sep [] w2 S1 := Sep.pick [] hs (by decide) rfl
   refine wp_seq (wp_pure [(2, .bool false)] hF (by kernel_rfl) fun fr hF => then_normal ?_)
   obtain rfl := Option.some.inj h
   exact wp_ret (then_ret (ret1 rfl hF rfl ⟨_, rfl, rfl, hM0.chg⟩))
 replace h := iteF hb h
 refine (wp_skip (then_normal ?_))
 refine wp_seq ?_
 refine wp_seq (region_b [] [true, false, true, true, true, false, true, true]
     [.eq (B b1 2), .eq (I p0.In), .eq (.bool (decide (p0.In < 0))), .eq (.bool (decide (p0.In < 0))), .eq (B b1 2), .eq (I p0.In), .eq (.bool (decide (p0.In > 3))), .eq (.bool ((decide (p0.In < 0)) || (decide (p0.In > 3))))]
     [(1, B b1 0), (37, .bool ((decide (p0.In < 0)) || (decide (p0.In > 3))))] mix hF (by kernel_rfl) (by kernel_rfl) (by kernel_rfl) ⟨Pd.mono_eq, Pd.mono_eq, trivial⟩ (fun hG => ⟨np_loadBox hG hF ty3 rfl rfl (hs.bx 0 rfl) rfl rfl rfl, np_loadBox hG hF ty3 rfl rfl (hs.bx 0 rfl) rfl rfl rfl, trivial⟩) (by kernel_rfl) fun fr w3 hF hE hc => then_normal ?_)
 have r1 := r1.ext hc
 have hs := hs.ext hc
 have hM0 := hM0.ext hc
 refine (wp_if hF (b := ((decide (p0.In < 0)) || (decide (p0.In > 3)))) rfl (fun hb => ?_) (fun hb => ?_))
 · replace h := iteT hb h
   have hs : Sep [] w3 S1 := Sep.pick [] hs (by decide) rfl
   refine wp_seq (wp_pure [(2, .bool false)] hF (by kernel_rfl) fun fr hF => then_normal ?_)
   obtain rfl := Option.some.inj h
   exact wp_ret (then_ret (ret1 rfl hF rfl ⟨_, rfl, rfl, hM0.chg⟩))
 replace h := iteF hb h
 refine (wp_skip (then_normal ?_))
 refine wp_seq ?_
 refine wp_seq (wp_text' ?_)
 refine from_pure 1 [(1, B b1 0), (38, B b1 3)] hF (by kernel_rfl) fun fr hF => ?_
 refine s_loadBox (L a1 p0.Code c1) ty22 rfl rfl hF rfl (hs.bx 0 rfl) rfl rfl fun fr hF => ?_
 refine from_pure 2 [(1, B b1 0), (39, L a1 p0.Code c1), (40, I (len p0.Code)), (41, I 0)] hF (by kernel_rfl) fun fr hF => ?_
 refine from_end rfl (then_normal ?_)
 obtain ⟨rl1, hit1, h⟩ := bindE h
 have hk1 := h
 refine (GL.wp_cut (M := fun fr w' => ∃ s, rl1 = .inl s ∧ ∃ S3 F2, FrS 54 [] fr ∧ Mem w3 S1 (fun k => (G0 k) ∧ k < w.heap.size) w' S3 F2 ∧ Sep [] w' S3) (wp_block (wp_iter (Inv := fun s1 fr w' => ∃ S2 F1, FrS 54 [(1, B b1 0), (39, L a1 p0.Code c1), (40, I (len p0.Code)), (41, I s1)] fr ∧ Mem w3 S1 (fun k => (G0 k) ∧ k < w.heap.size) w' S2 F1 ∧ Sep [BX b1 24 [I p0.W, I p0.Mem, I p0.In, L a1 p0.Code c1]] w' S2) hit1 ⟨S1, _, hF.sub _ (by kernel_rfl), (Mem.start hM0.bd hM0.bdF hM0.dj), hs⟩ fun s1 q1 fr w1i hI h hr1 => ?_)) fun fr w1o hM => ?_)
 · obtain ⟨S2, F1, hF, hM1, hs⟩ := hI
   have r1 := r1.mem hM1
   refine wp_seq (wp_pure [(1, B b1 0), (39, L a1 p0.Code c1), (40, I (len p0.Code)), (41, I s1), (42, .bool (decide (s1 < (len p0.Code))))] hF (by kernel_rfl) fun fr hF => then_normal ?_)
   refine wp_seq (wp_if hF (b := (decide (s1 < (len p0.Code)))) rfl (fun hb => ?_) (fun hb => ?_))
   · replace h := iteT hb h
     refine (wp_skip (then_normal ?_))
     refine wp_seq (wp_block ?_)
     refine wp_seq (wp_text' ?_)
     obtain ⟨x3, hx3, h⟩ := bindE h
     refine s_elemF (z := x3) (.agg #[I x3.Op, I x3.A, I x3.B, I x3.C]) ty38 Tryz.underlying22 rfl rfl rfl rfl rfl hF rfl (r1) rfl (get?_nn hx3) (get?_at hx3) rfl fun p fr hF => ?_
     refine q_alloc (z := .agg #[I 0, I 0, I 0, I 0]) hs hM1 [I 0, I 0, I 0, I 0] rfl rfl hF (by kernel_rfl) rfl fun b2 w4 S4 fr hs hp hF => ?_
     have r1 := r1.stp hM1 hp
     have hM1 := hM1.stp hp
     have hs : Sep [BX b2 38 [I 0, I 0, I 0, I 0], BX b1 24 [I p0.W, I p0.Mem, I p0.In, L a1 p0.Code c1]] w4 S4 := hs
     refine q_storeBoxS 0 hs hM1 rfl [I x3.Op, I x3.A, I x3.B, I x3.C] rfl hF rfl rfl (by kernel_rfl) rfl rfl rfl fun w5 S5 hs hp hF => ?_
     have r1 := r1.stp hM1 hp
     have hM1 := hM1.stp hp
     have hs : Sep [BX b2 38 [I x3.Op, I x3.A, I x3.B, I x3.C], BX b1 24 [I p0.W, I p0.Mem, I p0.In, L a1 p0.Code c1]] w5 S5 := hs
     refine from_end rfl (then_normal ?_)
     refine wp_seq (wp_text' ?_)
     refine s_loadBoxS ty38 rfl rfl hF rfl (hs.bx 0 rfl) rfl rfl fun fr hF => ?_
     have hs : Sep [BX b1 24 [I p0.W, I p0.Mem, I p0.In, L a1 p0.Code c1]] w5 S5 := Sep.pick [1] hs (by decide) rfl
     refine from_pure 1 [(1, B b1 0), (39, L a1 p0.Code c1), (40, I (len p0.Code)), (41, I s1), (45, .agg #[I x3.Op, I x3.A, I x3.B, I x3.C]), (46, B b1 0)] hF (by kernel_rfl) fun fr hF => ?_
     refine s_loadBox (I p0.W) ty3 rfl rfl hF rfl (hs.bx 0 rfl) rfl rfl fun fr hF => ?_
     refine from_pure 1 [(1, B b1 0), (39, L a1 p0.Code c1), (40, I (len p0.Code)), (41, I s1), (45, .agg #[I x3.Op, I x3.A, I x3.B, I x3.C]), (47, I p0.W), (48, B b1 3)] hF (by kernel_rfl) fun fr hF => ?_
     refine s_loadBox (L a1 p0.Code c1) ty22 rfl rfl hF rfl (hs.bx 0 rfl) rfl rfl fun fr hF => ?_
     refine from_pure 1 [(1, B b1 0), (39, L a1 p0.Code c1), (40, I (len p0.Code)), (41, I s1), (45, .agg #[I x3.Op, I x3.A, I x3.B, I x3.C]), (47, I p0.W), (50, I (len p0.Code))] hF (by kernel_rfl) fun fr hF => ?_
     obtain ⟨x4, hx4, h⟩ := bindE h
     refine s_call [.agg #[I x3.Op, I x3.A, I x3.B, I x3.C], I p0.W, I (len p0.Code)] Tryz.call44 rfl rfl hF rfl (impl_insOk_ok x3 p0.W (len p0.Code) hx4) fun v w6 fr hRes hF => ?_
     obtain ⟨rfl, hc⟩ := hRes
     have r1 := r1.ext hc
     have hs := hs.ext hc
     have hM1 := hM1.ext hc
     refine from_pure 1 [(1, B b1 0), (39, L a1 p0.Code c1), (40, I (len p0.Code)), (41, I s1), (52, .bool (!x4))] hF (by kernel_rfl) fun fr hF => ?_
     refine from_end rfl (then_normal ?_)
     refine (wp_if hF (b := (!x4)) rfl (fun hb => ?_) (fun hb => ?_))
     · replace h := iteT hb h
       have hs : Sep [] w6 S5 := Sep.pick [] hs (by decide) rfl
       refine wp_seq (wp_pure [(2, .bool false)] hF (by kernel_rfl) fun fr hF => then_normal ?_)
       obtain rfl := hr1 _ (Option.some.inj h).symm
       obtain rfl := Option.some.inj hk1
       exact wp_ret (blk_ret (then_ret (then_ret (blk_ret (then_ret (ret1 rfl hF rfl ⟨_, rfl, rfl, (hM0.trans hM1).chg⟩))))))
     replace h := iteF hb h
     refine (wp_skip ?_)
     refine blk_normal (then_normal ?_)
     refine (wp_pure [(1, B b1 0), (39, L a1 p0.Code c1), (40, I (len p0.Code)), (41, I (w64 (s1 + 1)))] hF (by kernel_rfl) fun fr hF => then_normal ?_)
     exact ⟨_, (Option.some.inj h).symm, S5, _, hF.sub _ (by kernel_rfl), hM1, hs⟩
   replace h := iteF hb h
   have hs : Sep [] w1i S2 := Sep.pick [] hs (by decide) rfl
   refine (wp_exit (then_exit (then_exit (blk_exit_eq ?_))))
   obtain rfl := hr1 _ (Option.some.inj h).symm
   exact then_normal ⟨_, rfl, S2, _, hF.sub _ (by kernel_rfl), hM1, hs⟩
 · obtain ⟨s1r, rfl, hM⟩ := hM
   obtain ⟨S3, F2, hF, hMx, hs⟩ := hM
   have hM0 := hM0.trans hMx
   refine wp_seq (wp_pure [(2, .bool true)] hF (by kernel_rfl) fun fr hF => then_normal ?_)
   obtain rfl := Option.some.inj h
   exact wp_ret (ret1 rfl hF rfl ⟨_, rfl, rfl, hM0.chg⟩)



theorem impl_FormatInts_ok (n : Nat) (p0 : List Int) {r : Str} (h : impl_FormatInts n p0 = some r) {w : World} {G0 : Nat → Prop} {va0 : Value} (ra0 : RV w G0 va0 p0) {G99 : Nat → Prop} (tb : TX Tryz.prog w G99) :
   Calls Tryz.prog 46 [va0].toArray w fun e w' => ∃ v, e = .returned v ∧ v = Str.val r ∧ Chg Non w w' := by
 unfold impl_FormatInts at h
 have hs := Sep.nil w Non
 have hM0 : Mem w Non (fun k => (G0 k ∨ G99 k) ∧ k < w.heap.size) w Non (fun k => (G0 k ∨ G99 k) ∧ k < w.heap.size) := Mem.start (fun _ h => h.elim) (fun _ h => h.2) (fun _ h => h.elim)
 have ra0 := ra0.sub (F' := (fun k => (G0 k ∨ G99 k) ∧ k < w.heap.size)) (fun k hk h => ⟨.inl h, hk⟩)
 obtain ⟨a1, c1, rfl, -⟩ := ra0.slice
 have tb := tb.sub (F' := (fun k => (G0 k ∨ G99 k) ∧ k < w.heap.size)) (fun k hk h => ⟨.inr (h), hk⟩)
 refine enter (N := 24) Tryz.func46 rfl Tryz.ntmps46 rfl fun fr hF => ?_
 refine wp_seq (wp_pure [(0, L a1 p0 c1)] hF (by kernel_rfl) fun fr hF => then_normal ?_)
 refine wp_seq (wp_text' ?_)
 refine from_pure 2 [(0, L a1 p0 c1), (7, I (len p0))] hF (by kernel_rfl) fun fr hF => ?_
 obtain ⟨x1, hx1, h⟩ := bindE h
 refine q_make hs hM0 Tryz.underlying30 el9 (zero_flat _ (by kernel_rfl)) rfl rfl hF rfl rfl hx1 fun a2 c2 w1 S1 fr hs hp hF => ?_
 have tb := tb.stp hM0 hp
 have ra0 := ra0.stp hM0 hp
 have hM0 := hM0.stp hp
 have hs : Sep [sl9 (L a2 x1 c2) x1] w1 S1 := hs
 refine from_pure 1 [(0, L a1 p0 c1), (3, L a2 x1 c2)] hF (by kernel_rfl) fun fr hF => ?_
 refine from_end rfl (then_normal ?_)
 refine wp_seq ?_
 refine wp_seq (wp_pure [(3, L a2 x1 c2), (9, L a1 p0 c1), (10, I (len p0)), (11, I 0)] hF (by kernel_rfl) fun fr hF => then_normal ?_)
 obtain ⟨rl1, hit1, h⟩ := bindE h
 have hk1 := h
 refine (GL.wp_cut (M := fun fr w' => ∃ S3 F2, FrS 24 [(3, L a2 x1 c2)] fr ∧ Mem w1 S1 (fun k => (G0 k ∨ G99 k) ∧ k < w.heap.size) w' S3 F2 ∧ Sep [sl9 (L a2 x1 c2) rl1] w' S3) (wp_block (wp_iter (Inv := fun s1 fr w' => ∃ S2 F1, FrS 24 [(3, L a2 x1 c2), (9, L a1 p0 c1), (10, I (len p0)), (11, I s1.1)] fr ∧ Mem w1 S1 (fun k => (G0 k ∨ G99 k) ∧ k < w.heap.size) w' S2 F1 ∧ Sep [sl9 (L a2 x1 c2) s1.2] w' S2) hit1 ⟨S1, _, hF.sub _ (by kernel_rfl), (Mem.start hM0.bd hM0.bdF hM0.dj), hs⟩ fun s1 q1 fr w1i hI h hr1 => ?_)) fun fr w1o hM => ?_)
 · obtain ⟨S2, F1, hF, hM1, hs⟩ := hI
   have tb := tb.mem hM1
   have ra0 := ra0.mem hM1
   refine wp_seq (wp_pure [(3, L a2 x1 c2), (9, L a1 p0 c1), (10, I (len p0)), (11, I s1.1), (12, .bool (decide (s1.1 < (len p0))))] hF (by kernel_rfl) fun fr hF => then_normal ?_)
   refine wp_seq (wp_if hF (b := (decide (s1.1 < (len p0)))) rfl (fun hb => ?_) (fun hb => ?_))
   · replace h := iteT hb h
     refine (wp_skip (then_normal ?_))
     refine wp_seq (wp_block ?_)
     refine wp_seq (wp_text' ?_)
     refine from_pure 1 [(3, L a2 x1 c2), (9, L a1 p0 c1), (10, I (len p0)), (11, I s1.1), (13, I s1.1)] hF (by kernel_rfl) fun fr hF => ?_
     obtain ⟨x2, hx2, h⟩ := bindE h
     refine s_elemF (z := x2) (I x2) ty3 Tryz.underlying33 rfl rfl rfl rfl rfl hF rfl (ra0) rfl (get?_nn hx2) (get?_at hx2) rfl fun p fr hF => ?_
     refine from_pure 2 [(3, L a2 x1 c2), (4, I s1.1), (5, I x2), (9, L a1 p0 c1), (10, I (len p0)), (11, I s1.1)] hF (by kernel_rfl) fun fr hF => ?_
     refine from_end rfl (then_normal ?_)
     refine (wp_text' ?_)
     refine from_pure 3 [(3, L a2 x1 c2), (9, L a1 p0 c1), (10, I (len p0)), (11, I s1.1), (16, L a2 x1 c2), (17, I s1.1), (18, I x2)] hF (by kernel_rfl) fun fr hF => ?_
     obtain ⟨x3, hx3, h⟩ := bindE h
     refine s_call [I x2] Tryz.call61 rfl rfl hF rfl (impl_FormatInt_ok x2 hx3 tb) fun v w2 fr hRes hF => ?_
     obtain ⟨rfl, hc⟩ := hRes
     have tb := tb.ext hc
     have ra0 := ra0.ext hc
     have hs := hs.ext hc
     have hM1 := hM1.ext hc
     obtain ⟨x4, hx4, h⟩ := bindE h
     refine q_set (q := x3) 0 hs hM1 rfl Tryz.underlying30 ty9 rfl rfl rfl rfl hF rfl rfl (by simp) rfl rfl hx4 fun w3 S4 fr _ hs hp hF => ?_
     have tb := tb.stp hM1 hp
     have ra0 := ra0.stp hM1 hp
     have hM1 := hM1.stp hp
     have hs : Sep [sl9 (L a2 x1 c2) x4] w3 S4 := hs
     refine from_end rfl ?_
     refine blk_normal (then_normal ?_)
     refine (wp_pure [(3, L a2 x1 c2), (9, L a1 p0 c1), (10, I (len p0)), (11, I (w64 (s1.1 + 1)))] hF (by kernel_rfl) fun fr hF => then_normal ?_)
     exact ⟨_, (Option.some.inj h).symm, S4, _, hF.sub _ (by kernel_rfl), hM1, hs⟩
   replace h := iteF hb h
   refine (wp_exit (then_exit (then_exit (blk_exit_eq ?_))))
   obtain rfl := hr1 _ (Option.some.inj h).symm
   exact then_normal ⟨S2, _, hF.sub _ (by kernel_rfl), hM1, hs⟩
 · obtain ⟨S3, F2, hF, hMx, hs⟩ := hM
   have tb := tb.mem hMx
   have hM0 := hM0.trans hMx
   refine wp_seq (wp_text' ?_)
   refine from_pure 1 [(22, L a2 x1 c2)] hF (by kernel_rfl) fun fr hF => ?_
   obtain ⟨x5, hx5, h⟩ := bindE h
   refine s_call [L a2 x1 c2, Str.val (⟨[32]⟩)] Tryz.call65 rfl rfl hF rfl (strings_Join_ok rl1 (⟨[32]⟩) hx5 (hs.rv 0 rfl)) fun v w4 fr hRes hF => ?_
   obtain ⟨rfl, hc⟩ := hRes
   have tb := tb.ext hc
   have hs := hs.ext hc
   have hM0 := hM0.ext hc
   have hs : Sep [] w4 S3 := Sep.pick [] hs (by decide) rfl
   refine from_pure 1 [(2, Str.val x5)] hF (by kernel_rfl) fun fr hF => ?_
   refine from_end rfl (then_normal ?_)
   obtain rfl := Option.some.inj h
   exact wp_ret (ret1 rfl hF rfl ⟨_, rfl, rfl, hM0.chg⟩)





theorem impl_FormatProgram_ok (n : Nat) (p0 : D.Program) {r : Str} (h : impl_FormatProgram n p0 = some r) {w : World} {G0 : Nat → Prop} {va0 : Value} (ra0 : RV w G0 va0 p0) {G99 : Nat → Prop} (tb : TX Tryz.prog w G99) :
   Calls Tryz.prog 22 [va0].toArray w fun e w' => ∃ v, e = .returned v ∧ v = Str.val r ∧ Chg Non w w' := by
 unfold impl_FormatProgram at h
 have hs := Sep.nil w Non
 have hM0 : Mem w Non (fun k => (G0 k ∨ G99 k) ∧ k < w.heap.size) w Non (fun k => (G0 k ∨ G99 k) ∧ k < w.heap.size) := Mem.start (fun _ h => h.elim) (fun _ h => h.2) (fun _ h => h.elim)
 have ra0 := ra0.sub (F' := (fun k => (G0 k ∨ G99 k) ∧ k < w.heap.size)) (fun k hk h => ⟨.inl h, hk⟩)
 obtain ⟨v1, rfl, r1⟩ := RV.Program ra0
 obtain ⟨a1, c1, rfl, -⟩ := r1.slice
 have tb := tb.sub (F' := (fun k => (G0 k ∨ G99 k) ∧ k < w.heap.size)) (fun k hk h => ⟨.inr (h), hk⟩)
 refine enter (N := 38) Tryz.func22 rfl Tryz.ntmps22 rfl fun fr hF => ?_
 refine wp_seq (wp_text' ?_)
 refine q_box hs hM0 [I p0.W, I p0.Mem, I p0.In, L a1 p0.Code c1] rfl rfl hF rfl rfl fun b1 w1 S1 fr hs hp hF => ?_
 have tb := tb.stp hM0 hp
 have r1 := r1.stp hM0 hp
 have hM0 := hM0.stp hp
 have hs : Sep [BX b1 24 [I p0.W, I p0.Mem, I p0.In, L a1 p0.Code c1]] w1 S1 := hs
 refine from_pure 1 [(1, B b1 0)] hF (by kernel_rfl) fun fr hF => ?_
 refine from_end rfl (then_normal ?_)
 refine wp_seq ?_
 refine wp_seq (wp_text' ?_)
 refine s_loadBoxS ty24 rfl rfl hF rfl (hs.bx 0 rfl) rfl rfl fun fr hF => ?_
 obtain ⟨x1, hx1, h⟩ := bindE h
 refine s_call [.agg #[I p0.W, I p0.Mem, I p0.In, L a1 p0.Code c1]] Tryz.call21 rfl rfl hF rfl (impl_ProgramOk_ok n p0 hx1 (RV.mk_Program p0 (r1))) fun v w2 fr hRes hF => ?_
 obtain ⟨rfl, hc⟩ := hRes
 have tb := tb.ext hc
 have r1 := r1.ext hc
 have hs := hs.ext hc
 have hM0 := hM0.ext hc
 refine from_pure 1 [(1, B b1 0), (8, .bool (!x1))] hF (by kernel_rfl) fun fr hF => ?_
 refine from_end rfl (then_normal ?_)
 refine (wp_if hF (b := (!x1)) rfl (fun hb => ?_) (fun hb => ?_))
 · replace h := iteT hb h
   have hs : Sep [] w2 S1 := Sep.pick [] hs (by decide) rfl
   refine wp_seq (wp_pure [(2, Str.val (⟨[]⟩))] hF (by kernel_rfl) fun fr hF => then_normal ?_)
   obtain rfl := Option.some.inj h
   exact wp_ret (then_ret (ret1 rfl hF rfl ⟨_, rfl, rfl, hM0.chg⟩))
 replace h := iteF hb h
 refine (wp_skip (then_normal ?_))
 refine wp_seq (wp_text' ?_)
 refine q_alloc (z := .agg #[.pointer none, .slice none 0 0]) hs hM0 [.pointer none, .slice none 0 0] rfl rfl hF (by kernel_rfl) rfl fun b2 w3 S2 fr hs hp hF => ?_
 have hs := hs.swapT 0 rfl fun A hA => bd_new (E := 5) hA
 have tb := tb.stp hM0 hp
 have r1 := r1.stp hM0 hp
 have hM0 := hM0.stp hp
 have hs : Sep [BD 61 5 b2 (⟨[]⟩ : Str), BX b1 24 [I p0.W, I p0.Mem, I p0.In, L a1 p0.Code c1]] w3 S2 := hs
 refine from_end rfl (then_normal ?_)
 refine wp_seq (wp_text' ?_)
 refine from_pure 1 [(1, B b1 0), (3, B b2 0), (9, B b1 0)] hF (by kernel_rfl) fun fr hF => ?_
 refine s_loadBox (I p0.W) ty3 rfl rfl hF rfl (hs.bx 1 rfl) rfl rfl fun fr hF => ?_
 refine from_pure 1 [(1, B b1 0), (3, B b2 0), (10, I p0.W), (11, B b1 1)] hF (by kernel_rfl) fun fr hF => ?_
 refine s_loadBox (I p0.Mem) ty3 rfl rfl hF rfl (hs.bx 1 rfl) rfl rfl fun fr hF => ?_
 refine from_pure 1 [(1, B b1 0), (3, B b2 0), (10, I p0.W), (12, I p0.Mem), (13, B b1 2)] hF (by kernel_rfl) fun fr hF => ?_
 refine s_loadBox (I p0.In) ty3 rfl rfl hF rfl (hs.bx 1 rfl) rfl rfl fun fr hF => ?_
 refine q_lit (E := 3) hs hM0 [I p0.W, I p0.Mem, I p0.In] (([p0.W, p0.Mem, p0.In] : List Int).map Flat.enc) ([p0.W, p0.Mem, p0.In] : List Int) rfl rfl hF [I p0.W, I p0.Mem, I p0.In] rfl (fun w => by kernel_rfl) (css_flat _) rfl rfl rfl fun a2 c2 w4 S3 fr hs hp hF => ?_
 have tb := tb.stp hM0 hp
 have r1 := r1.stp hM0 hp
 have hM0 := hM0.stp hp
 have hs : Sep [sl3 (L a2 ([p0.W, p0.Mem, p0.In] : List Int) c2) ([p0.W, p0.Mem, p0.In] : List Int), BD 61 5 b2 (⟨[]⟩ : Str), BX b1 24 [I p0.W, I p0.Mem, I p0.In, L a1 p0.Code c1]] w4 S3 := hs
 obtain ⟨x2, hx2, h⟩ := bindE h
 refine s_call [L a2 ([p0.W, p0.Mem, p0.In] : List Int) c2] Tryz.call46 rfl rfl hF rfl (impl_FormatInts_ok n ([p0.W, p0.Mem, p0.In] : List Int) hx2 (hs.rv 0 rfl) tb) fun v w5 fr hRes hF => ?_
 obtain ⟨rfl, hc⟩ := hRes
 have tb := tb.ext hc
 have r1 := r1.ext hc
 have hs := hs.ext hc
 have hM0 := hM0.ext hc
 have hs : Sep [BD 61 5 b2 (⟨[]⟩ : Str), BX b1 24 [I p0.W, I p0.Mem, I p0.In, L a1 p0.Code c1]] w5 S3 := Sep.pick [1, 2] hs (by decide) rfl
 obtain ⟨x3, hx3, h⟩ := bindE h
 refine s_cat (s1 := (⟨[109, 97, 99, 104, 105, 110, 101, 32]⟩)) (s2 := x2) rfl rfl hF rfl rfl hx3 fun fr hF => ?_
 obtain ⟨x4, hx4, h⟩ := bindE h
 refine s_cat (s1 := x3) (s2 := (⟨[10]⟩)) rfl rfl hF rfl rfl hx4 fun fr hF => ?_
 obtain ⟨x5, hx5, h⟩ := bindE h
 obtain ⟨A1, R1, hsA, hsR, hdA, hbA, hup⟩ := Sep.call (L1 := [BD 61 5 b2 (⟨[]⟩ : Str)]) (L2 := [BX b1 24 [I p0.W, I p0.Mem, I p0.In, L a1 p0.Code c1]]) hs hM0
 refine s_call [B b2 0, Str.val x4] Tryz.call45 rfl rfl hF rfl (Builder_WriteString_ok (⟨[]⟩ : Str) x4 hx5 hsA hbA hdA) fun v w6 fr hRes hF => ?_
 obtain ⟨rfl, _, hp, hs⟩ := hRes
 obtain ⟨S4, hp, hs⟩ := hup hp hs
 have tb := tb.stp hM0 hp
 have r1 := r1.stp hM0 hp
 have hM0 := hM0.stp hp
 have hs : Sep [BD 61 5 b2 x5, BX b1 24 [I p0.W, I p0.Mem, I p0.In, L a1 p0.Code c1]] w6 S4 := hs
 refine from_end rfl (then_normal ?_)
 refine wp_seq ?_
 refine wp_seq (wp_text' ?_)
 refine from_pure 1 [(1, B b1 0), (3, B b2 0), (20, B b1 3)] hF (by kernel_rfl) fun fr hF => ?_
 refine s_loadBox (L a1 p0.Code c1) ty22 rfl rfl hF rfl (hs.bx 1 rfl) rfl rfl fun fr hF => ?_
 refine from_pure 2 [(1, B b1 0), (3, B b2 0), (21, L a1 p0.Code c1), (22, I (len p0.Code)), (23, I 0)] hF (by kernel_rfl) fun fr hF => ?_
 refine from_end rfl (then_normal ?_)
 obtain ⟨rl1, hit1, h⟩ := bindE h
 have hk1 := h
 refine (GL.wp_cut (M := fun fr w' => ∃ S6 F2, FrS 38 [(3, B b2 0)] fr ∧ Mem w6 S4 (fun k => (G0 k ∨ G99 k) ∧ k < w.heap.size) w' S6 F2 ∧ Sep [BD 61 5 b2 rl1] w' S6) (wp_block (wp_iter (Inv := fun s1 fr w' => ∃ S5 F1, FrS 38 [(1, B b1 0), (3, B b2 0), (21, L a1 p0.Code c1), (22, I (len p0.Code)), (23, I s1.1)] fr ∧ Mem w6 S4 (fun k => (G0 k ∨ G99 k) ∧ k < w.heap.size) w' S5 F1 ∧ Sep [BD 61 5 b2 s1.2, BX b1 24 [I p0.W, I p0.Mem, I p0.In, L a1 p0.Code c1]] w' S5) hit1 ⟨S4, _, hF.sub _ (by kernel_rfl), (Mem.start hM0.bd hM0.bdF hM0.dj), hs⟩ fun s1 q1 fr w1i hI h hr1 => ?_)) fun fr w1o hM => ?_)
 · obtain ⟨S5, F1, hF, hM1, hs⟩ := hI
   have tb := tb.mem hM1
   have r1 := r1.mem hM1
   refine wp_seq (wp_pure [(1, B b1 0), (3, B b2 0), (21, L a1 p0.Code c1), (22, I (len p0.Code)), (23, I s1.1), (24, .bool (decide (s1.1 < (len p0.Code))))] hF (by kernel_rfl) fun fr hF => then_normal ?_)
   refine wp_seq (wp_if hF (b := (decide (s1.1 < (len p0.Code)))) rfl (fun hb => ?_) (fun hb => ?_))
   · replace h := iteT hb h
     refine (wp_skip (then_normal ?_))
     refine wp_seq (wp_block ?_)
     refine wp_seq (wp_text' ?_)
     obtain ⟨x6, hx6, h⟩ := bindE h
     refine s_elemF (z := x6) (.agg #[I x6.Op, I x6.A, I x6.B, I x6.C]) ty38 Tryz.underlying22 rfl rfl rfl rfl rfl hF rfl (r1) rfl (get?_nn hx6) (get?_at hx6) rfl fun p fr hF => ?_
     refine q_alloc (z := .agg #[I 0, I 0, I 0, I 0]) hs hM1 [I 0, I 0, I 0, I 0] rfl rfl hF (by kernel_rfl) rfl fun b3 w7 S7 fr hs hp hF => ?_
     have tb := tb.stp hM1 hp
     have r1 := r1.stp hM1 hp
     have hM1 := hM1.stp hp
     have hs : Sep [BX b3 38 [I 0, I 0, I 0, I 0], BD 61 5 b2 s1.2, BX b1 24 [I p0.W, I p0.Mem, I p0.In, L a1 p0.Code c1]] w7 S7 := hs
     refine q_storeBoxS 0 hs hM1 rfl [I x6.Op, I x6.A, I x6.B, I x6.C] rfl hF rfl rfl (by kernel_rfl) rfl rfl rfl fun w8 S8 hs hp hF => ?_
     have tb := tb.stp hM1 hp
     have r1 := r1.stp hM1 hp
     have hM1 := hM1.stp hp
     have hs : Sep [BX b3 38 [I x6.Op, I x6.A, I x6.B, I x6.C], BD 61 5 b2 s1.2, BX b1 24 [I p0.W, I p0.Mem, I p0.In, L a1 p0.Code c1]] w8 S8 := hs
     refine from_end rfl (then_normal ?_)
     refine (wp_text' ?_)
     refine s_loadBoxS ty38 rfl rfl hF rfl (hs.bx 0 rfl) rfl rfl fun fr hF => ?_
     have hs : Sep [BD 61 5 b2 s1.2, BX b1 24 [I p0.W, I p0.Mem, I p0.In, L a1 p0.Code c1]] w8 S8 := Sep.pick [1, 2] hs (by decide) rfl
     refine from_pure 1 [(1, B b1 0), (3, B b2 0), (21, L a1 p0.Code c1), (22, I (len p0.Code)), (23, I s1.1), (27, .agg #[I x6.Op, I x6.A, I x6.B, I x6.C]), (28, B b1 0)] hF (by kernel_rfl) fun fr hF => ?_
     refine s_loadBox (I p0.W) ty3 rfl rfl hF rfl (hs.bx 1 rfl) rfl rfl fun fr hF => ?_
     refine from_pure 1 [(1, B b1 0), (3, B b2 0), (21, L a1 p0.Code c1), (22, I (len p0.Code)), (23, I s1.1), (27, .agg #[I x6.Op, I x6.A, I x6.B, I x6.C]), (29, I p0.W), (30, B b1 3)] hF (by kernel_rfl) fun fr hF => ?_
     refine s_loadBox (L a1 p0.Code c1) ty22 rfl rfl hF rfl (hs.bx 1 rfl) rfl rfl fun fr hF => ?_
     refine from_pure 1 [(1, B b1 0), (3, B b2 0), (21, L a1 p0.Code c1), (22, I (len p0.Code)), (23, I s1.1), (27, .agg #[I x6.Op, I x6.A, I x6.B, I x6.C]), (29, I p0.W), (32, I (len p0.Code))] hF (by kernel_rfl) fun fr hF => ?_
     obtain ⟨x7, hx7, h⟩ := bindE h
     refine s_call [.agg #[I x6.Op, I x6.A, I x6.B, I x6.C], I p0.W, I (len p0.Code)] Tryz.call41 rfl rfl hF rfl (impl_FormatIns_ok x6 p0.W (len p0.Code) hx7 tb) fun v w9 fr hRes hF => ?_
     obtain ⟨rfl, hc⟩ := hRes
     have tb := tb.ext hc
     have r1 := r1.ext hc
     have hs := hs.ext hc
     have hM1 := hM1.ext hc
     obtain ⟨x8, hx8, h⟩ := bindE h
     refine s_cat (s1 := x7) (s2 := (⟨[10]⟩)) rfl rfl hF rfl rfl hx8 fun fr hF => ?_
     obtain ⟨x9, hx9, h⟩ := bindE h
     obtain ⟨A2, R2, hsA, hsR, hdA, hbA, hup⟩ := Sep.call (L1 := [BD 61 5 b2 s1.2]) (L2 := [BX b1 24 [I p0.W, I p0.Mem, I p0.In, L a1 p0.Code c1]]) hs hM1
     refine s_call [B b2 0, Str.val x8] Tryz.call45 rfl rfl hF rfl (Builder_WriteString_ok s1.2 x8 hx9 hsA hbA hdA) fun v w10 fr hRes hF => ?_
     obtain ⟨rfl, _, hp, hs⟩ := hRes
     obtain ⟨S9, hp, hs⟩ := hup hp hs
     have tb := tb.stp hM1 hp
     have r1 := r1.stp hM1 hp
     have hM1 := hM1.stp hp
     have hs : Sep [BD 61 5 b2 x9, BX b1 24 [I p0.W, I p0.Mem, I p0.In, L a1 p0.Code c1]] w10 S9 := hs
     refine from_end rfl ?_
     refine blk_normal (then_normal ?_)
     refine (wp_pure [(1, B b1 0), (3, B b2 0), (21, L a1 p0.Code c1), (22, I (len p0.Code)), (23, I (w64 (s1.1 + 1)))] hF (by kernel_rfl) fun fr hF => then_normal ?_)
     exact ⟨_, (Option.some.inj h).symm, S9, _, hF.sub _ (by kernel_rfl), hM1, hs⟩
   replace h := iteF hb h
   have hs : Sep [BD 61 5 b2 s1.2] w1i S5 := Sep.pick [0] hs (by decide) rfl
   refine (wp_exit (then_exit (then_exit (blk_exit_eq ?_))))
   obtain rfl := hr1 _ (Option.some.inj h).symm
   exact then_normal ⟨S5, _, hF.sub _ (by kernel_rfl), hM1, hs⟩
 · obtain ⟨S6, F2, hF, hMx, hs⟩ := hM
   have tb := tb.mem hMx
   have hM0 := hM0.trans hMx
   refine wp_seq (wp_text' ?_)
   refine s_call [B b2 0] Tryz.call47 rfl rfl hF rfl (Builder_String_ok 0 hs rfl hM0) fun v w11 fr hRes hF => ?_
   obtain ⟨rfl, hMn⟩ := hRes
   have hM0 := hMn
   have hs := Sep.nil w11 Non
   refine from_pure 1 [(2, Str.val rl1)] hF (by kernel_rfl) fun fr hF => ?_
   refine from_end rfl (then_normal ?_)
   obtain rfl := Option.some.inj h
   exact wp_ret (ret1 rfl hF rfl ⟨_, rfl, rfl, hM0.chg⟩)
end Go.Proofs.YtmmhbhhcloobnaaGreatDoor
