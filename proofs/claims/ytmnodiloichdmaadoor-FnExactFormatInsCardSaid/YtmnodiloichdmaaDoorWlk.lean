/- Printed by gen2.py: the walks. -/
import Derived.Test.YtmnodiloichdmaaDoorWlkA
set_option linter.unusedVariables false
set_option maxRecDepth 100000
namespace Go.Proofs.YtmnodiloichdmaaDoor
open Go.GL Go.Maps Go.WideMaps
theorem impl_FormatIns_ok (p0 : D.Ins) (p1 : Int) (p2 : Int) {r : Str} (h : impl_FormatIns p0 p1 p2 = some r) {w : World} {G99 : Nat → Prop} (tb : TB Tryd.prog "internal/strconv.uint64pow10" .u64 Lib.pow10Tab w G99) :
   Calls Tryd.prog 7 [.agg #[I p0.Op, I p0.A, I p0.B, I p0.C], I p1, I p2].toArray w fun e w' => ∃ v, e = .returned v ∧ v = Str.val r ∧ Chg Non w w' := by
 unfold impl_FormatIns at h
 have hs := Sep.nil w Non
 have hM0 : Mem w Non (fun k => (G99 k) ∧ k < w.heap.size) w Non (fun k => (G99 k) ∧ k < w.heap.size) := Mem.start (fun _ h => h.elim) (fun _ h => h.2) (fun _ h => h.elim)
 have tb := tb.sub (F' := (fun k => (G99 k) ∧ k < w.heap.size)) (fun k hk h => ⟨h, hk⟩)
 refine enter (N := 95) Tryd.func7 rfl Tryd.ntmps7 rfl fun fr hF => ?_
 refine wp_seq (wp_text' ?_)
 refine q_box hs hM0 [I p0.Op, I p0.A, I p0.B, I p0.C] rfl rfl hF rfl rfl fun b1 w1 S1 fr hs hp hF => ?_
 have tb := tb.stp hM0 hp
 have hM0 := hM0.stp hp
 have hs : Sep [BX b1 25 [I p0.Op, I p0.A, I p0.B, I p0.C]] w1 S1 := hs
 refine from_pure 1 [(1, I p1), (2, I p2), (3, B b1 0)] hF (by kernel_rfl) fun fr hF => ?_
 refine from_end rfl (then_normal ?_)
 refine wp_seq ?_
 obtain ⟨x1, hx1, h⟩ := bindE h
 obtain ⟨x2, hx2, h⟩ := bindE h
 refine wp_seq (region_b [] [true, true, false, true, true, false, true, true, false, true, true]
     [.eq (I p1), .eq (I p2), .eq (.bool x1), .eq (.bool (!x1)), .eq (.bool (!x1)), .eq (.agg #[I p0.Op, I p0.A, I p0.B, I p0.C]), .eq (I p1), .eq (I p2), .eq (.bool x2), .eq (.bool (!x2)), .eq (.bool ((!x1) || (!x2)))]
     [(3, B b1 0), (17, .bool ((!x1) || (!x2)))] mix hF (by kernel_rfl) (by kernel_rfl) (by kernel_rfl) ⟨Pd.mono_eq, Pd.mono_eq, Pd.mono_eq, trivial⟩ (fun hG => ⟨np_call [I p1, I p2] hG hF Tryd.call19 rfl rfl (fun w hC hg => (impl_shapeOk_ok p1 p2 hx1).mono fun e w' ⟨v, he, hv, hc⟩ => ⟨v, he, hc, hv⟩), np_loadBoxS hG hF ty25 rfl rfl (hs.bx 0 rfl) rfl rfl rfl rfl, np_call [.agg #[I p0.Op, I p0.A, I p0.B, I p0.C], I p1, I p2] hG hF Tryd.call20 rfl rfl (fun w hC hg => (impl_insOk_ok p0 p1 p2 (iteF hg.2 hx2)).mono fun e w' ⟨v, he, hv, hc⟩ => ⟨v, he, hc, hv⟩), trivial⟩) (by kernel_rfl) fun fr w2 hF hE hc => then_normal ?_)
 have tb := tb.ext hc
 have hs := hs.ext hc
 have hM0 := hM0.ext hc
 refine (wp_if hF (b := ((!x1) || (!x2))) rfl (fun hb => ?_) (fun hb => ?_))
 · replace h := iteT hb h
   have hs : Sep [] w2 S1 := Sep.pick [] hs (by decide) rfl
   refine wp_seq (wp_pure [(6, Str.val (⟨[]⟩))] hF (by kernel_rfl) fun fr hF => then_normal ?_)
   obtain rfl := Option.some.inj h
   exact wp_ret (then_ret (ret1 rfl hF rfl ⟨_, rfl, rfl, hM0.chg⟩))
 replace h := iteF hb h
 refine (wp_skip (then_normal ?_))
 refine wp_seq ?_
 refine wp_seq (wp_text' ?_)
 refine from_pure 1 [(3, B b1 0), (18, B b1 0)] hF (by kernel_rfl) fun fr hF => ?_
 refine s_loadBox (I p0.Op) ty3 rfl rfl hF rfl (hs.bx 0 rfl) rfl rfl fun fr hF => ?_
 refine from_end rfl (then_normal ?_)
 refine (wp_block ?_)
 refine wp_seq (wp_pure [(3, B b1 0), (19, I p0.Op), (20, .bool (p0.Op == 3))] hF (by kernel_rfl) fun fr hF => then_normal ?_)
 refine (wp_if hF (b := (p0.Op == 3)) rfl (fun hb => ?_) (fun hb => ?_))
 · replace h := iteT hb h
   obtain ⟨x3, hx3, h⟩ := bindE h
   obtain ⟨x4, hx4, h⟩ := bindE h
   obtain ⟨x5, hx5, h⟩ := bindE h
   obtain ⟨x6, hx6, h⟩ := bindE h
   obtain ⟨x7, hx7, h⟩ := bindE h
   obtain ⟨x8, hx8, h⟩ := bindE h
   obtain ⟨x9, hx9, h⟩ := bindE h
   refine wp_seq (region_bm 14 [0, 1, 3, 7, 0, 16, 55, 127, 255, 0, 512, 1655, 4095, 8191] [true, false, false, false, true, false, false, false, false, true, false, false, false, true]
       [.eq (B b1 3), .eq (I p0.C), .eq (Str.val x3), .eq (Str.val x4), .eq (B b1 1), .eq (I p0.A), .eq (Str.val x5), .eq (Str.val x6), .eq (Str.val x7), .eq (B b1 2), .eq (I p0.B), .eq (Str.val x8), .eq (Str.val x9), .eq (Str.val x9)]
       [(6, Str.val x9)] mix hF (by kernel_rfl) (by kernel_rfl) (by kernel_rfl) (by kernel_rfl) ⟨Pd.monoO_eq, Pd.monoO_eq, Pd.monoO_eq, Pd.monoO_eq, Pd.monoO_eq, Pd.monoO_eq, Pd.monoO_eq, Pd.monoO_eq, Pd.monoO_eq, Pd.monoO_eq, trivial⟩ (fun ow hG => ⟨np_to ow (np_loadBox hG hF ty3 rfl rfl (hs.bx 0 rfl) rfl rfl rfl), np_to ow (np_call [I p0.C] hG hF Tryd.call21 rfl rfl (fun w hC hg => (impl_OpName_ok p0.C hx3).mono fun e w' ⟨v, he, hv, hc⟩ => ⟨v, he, hc, hv⟩)), np_to ow (np_cat (s1 := x3) (s2 := (⟨[32]⟩)) hG hF rfl rfl rfl (fun hg => hx4) rfl), np_to ow (np_loadBox hG hF ty3 rfl rfl (hs.bx 0 rfl) rfl rfl rfl), np_to ow (np_call [I p0.A] hG hF Tryd.call22 rfl rfl (fun w hC hg => (impl_regName_ok p0.A hx5 (tb.ext hC)).mono fun e w' ⟨v, he, hv, hc⟩ => ⟨v, he, hc, hv⟩)), np_to ow (np_cat (s1 := x4) (s2 := x5) hG hF rfl rfl rfl (fun hg => hx6) rfl), np_to ow (np_cat (s1 := x6) (s2 := (⟨[32]⟩)) hG hF rfl rfl rfl (fun hg => hx7) rfl), np_to ow (np_loadBox hG hF ty3 rfl rfl (hs.bx 0 rfl) rfl rfl rfl), np_to ow (np_call [I p0.B] hG hF Tryd.call22 rfl rfl (fun w hC hg => (impl_regName_ok p0.B hx8 (tb.ext hC)).mono fun e w' ⟨v, he, hv, hc⟩ => ⟨v, he, hc, hv⟩)), np_to ow (np_cat (s1 := x7) (s2 := x8) hG hF rfl rfl rfl (fun hg => hx9) rfl), trivial⟩) (by kernel_rfl) fun ow fr w3 hF hE hc => ?_)
   have tb := tb.ext hc
   have hs := hs.ext hc
   have hM0 := hM0.ext hc
   have hs : Sep [] w3 S1 := Sep.pick [] hs (by decide) rfl
   refine from_end rfl (then_normal ?_)
   obtain rfl := Option.some.inj h
   exact wp_ret (blk_ret (then_ret (ret1 rfl hF rfl ⟨_, rfl, rfl, hM0.chg⟩)))
 replace h := iteF hb h
 refine wp_seq ?_
 refine wp_seq (wp_pure [(3, B b1 0), (19, I p0.Op), (35, .bool (p0.Op == 2))] hF (by kernel_rfl) fun fr hF => then_normal ?_)
 refine (wp_if hF (b := (p0.Op == 2)) rfl (fun hb => ?_) (fun hb => ?_))
 · replace h := iteT hb h
   refine (wp_skip (then_normal ?_))
   refine (wp_if hF (b := (p0.Op == 2)) rfl (fun hb => ?_) (fun hb => ?_))
   · replace h := iteT hb h
     obtain ⟨x10, hx10, h⟩ := bindE h
     obtain ⟨x11, hx11, h⟩ := bindE h
     obtain ⟨x12, hx12, h⟩ := bindE h
     obtain ⟨x13, hx13, h⟩ := bindE h
     obtain ⟨x14, hx14, h⟩ := bindE h
     obtain ⟨x15, hx15, h⟩ := bindE h
     obtain ⟨x16, hx16, h⟩ := bindE h
     refine wp_seq (region_bm 14 [0, 1, 3, 7, 0, 16, 55, 127, 255, 0, 512, 1655, 4095, 8191] [true, false, false, false, true, false, false, false, false, true, false, false, false, true]
         [.eq (B b1 0), .eq (I p0.Op), .eq (Str.val x10), .eq (Str.val x11), .eq (B b1 1), .eq (I p0.A), .eq (Str.val x12), .eq (Str.val x13), .eq (Str.val x14), .eq (B b1 2), .eq (I p0.B), .eq (Str.val x15), .eq (Str.val x16), .eq (Str.val x16)]
         [(6, Str.val x16)] mix hF (by kernel_rfl) (by kernel_rfl) (by kernel_rfl) (by kernel_rfl) ⟨Pd.monoO_eq, Pd.monoO_eq, Pd.monoO_eq, Pd.monoO_eq, Pd.monoO_eq, Pd.monoO_eq, Pd.monoO_eq, Pd.monoO_eq, Pd.monoO_eq, Pd.monoO_eq, trivial⟩ (fun ow hG => ⟨np_to ow (np_loadBox hG hF ty3 rfl rfl (hs.bx 0 rfl) rfl rfl rfl), np_to ow (np_call [I p0.Op] hG hF Tryd.call23 rfl rfl (fun w hC hg => (impl_insWord_ok p0.Op hx10).mono fun e w' ⟨v, he, hv, hc⟩ => ⟨v, he, hc, hv⟩)), np_to ow (np_cat (s1 := x10) (s2 := (⟨[32]⟩)) hG hF rfl rfl rfl (fun hg => hx11) rfl), np_to ow (np_loadBox hG hF ty3 rfl rfl (hs.bx 0 rfl) rfl rfl rfl), np_to ow (np_call [I p0.A] hG hF Tryd.call22 rfl rfl (fun w hC hg => (impl_regName_ok p0.A hx12 (tb.ext hC)).mono fun e w' ⟨v, he, hv, hc⟩ => ⟨v, he, hc, hv⟩)), np_to ow (np_cat (s1 := x11) (s2 := x12) hG hF rfl rfl rfl (fun hg => hx13) rfl), np_to ow (np_cat (s1 := x13) (s2 := (⟨[32]⟩)) hG hF rfl rfl rfl (fun hg => hx14) rfl), np_to ow (np_loadBox hG hF ty3 rfl rfl (hs.bx 0 rfl) rfl rfl rfl), np_to ow (np_call [I p0.B] hG hF Tryd.call22 rfl rfl (fun w hC hg => (impl_regName_ok p0.B hx15 (tb.ext hC)).mono fun e w' ⟨v, he, hv, hc⟩ => ⟨v, he, hc, hv⟩)), np_to ow (np_cat (s1 := x14) (s2 := x15) hG hF rfl rfl rfl (fun hg => hx16) rfl), trivial⟩) (by kernel_rfl) fun ow fr w4 hF hE hc => ?_)
     have tb := tb.ext hc
     have hs := hs.ext hc
     have hM0 := hM0.ext hc
     have hs : Sep [] w4 S1 := Sep.pick [] hs (by decide) rfl
     refine from_end rfl (then_normal ?_)
     obtain rfl := Option.some.inj h
     exact wp_ret (blk_ret (then_ret (ret1 rfl hF rfl ⟨_, rfl, rfl, hM0.chg⟩)))
   replace h := iteF hb h
   refine wp_seq ?_
   refine wp_seq (wp_pure [(3, B b1 0), (19, I p0.Op), (52, .bool (p0.Op == 1))] hF (by kernel_rfl) fun fr hF => then_normal ?_)
   refine (wp_merge [(3, B b1 0), (19, I p0.Op), (52, .bool ((p0.Op == 1) || (p0.Op == 10)))] hF (b := (p0.Op == 1)) rfl (fun hb => ?_) (fun hb => ?_) fun fr hF => then_normal ?_)
   · exact wp_skip ⟨rfl, rfl, (hF.sub [(3, B b1 0), (19, I p0.Op), (52, .bool (p0.Op == 1))] (by kernel_rfl)).eqs (by first | (simp only [hb]; done) | (simp only [hb]; rfl))⟩
   · exact wp_pure [(3, B b1 0), (19, I p0.Op), (52, .bool (p0.Op == 10))] hF (by kernel_rfl) fun fr hF => ⟨rfl, rfl, hF.eqs (by first | (simp only [hb]; done) | (simp only [hb]; rfl))⟩
   refine (wp_if hF (b := ((p0.Op == 1) || (p0.Op == 10))) rfl (fun hb => ?_) (fun hb => ?_))
   · replace h := iteT hb h
     obtain ⟨x17, hx17, h⟩ := bindE h
     obtain ⟨x18, hx18, h⟩ := bindE h
     obtain ⟨x19, hx19, h⟩ := bindE h
     obtain ⟨x20, hx20, h⟩ := bindE h
     obtain ⟨x21, hx21, h⟩ := bindE h
     obtain ⟨x22, hx22, h⟩ := bindE h
     obtain ⟨x23, hx23, h⟩ := bindE h
     refine wp_seq (region_bm 14 [0, 1, 3, 7, 0, 16, 55, 127, 255, 0, 512, 1655, 4095, 8191] [true, false, false, false, true, false, false, false, false, true, false, false, false, true]
         [.eq (B b1 0), .eq (I p0.Op), .eq (Str.val x17), .eq (Str.val x18), .eq (B b1 1), .eq (I p0.A), .eq (Str.val x19), .eq (Str.val x20), .eq (Str.val x21), .eq (B b1 2), .eq (I p0.B), .eq (Str.val x22), .eq (Str.val x23), .eq (Str.val x23)]
         [(6, Str.val x23)] mix hF (by kernel_rfl) (by kernel_rfl) (by kernel_rfl) (by kernel_rfl) ⟨Pd.monoO_eq, Pd.monoO_eq, Pd.monoO_eq, Pd.monoO_eq, Pd.monoO_eq, Pd.monoO_eq, Pd.monoO_eq, Pd.monoO_eq, Pd.monoO_eq, Pd.monoO_eq, trivial⟩ (fun ow hG => ⟨np_to ow (np_loadBox hG hF ty3 rfl rfl (hs.bx 0 rfl) rfl rfl rfl), np_to ow (np_call [I p0.Op] hG hF Tryd.call23 rfl rfl (fun w hC hg => (impl_insWord_ok p0.Op hx17).mono fun e w' ⟨v, he, hv, hc⟩ => ⟨v, he, hc, hv⟩)), np_to ow (np_cat (s1 := x17) (s2 := (⟨[32]⟩)) hG hF rfl rfl rfl (fun hg => hx18) rfl), np_to ow (np_loadBox hG hF ty3 rfl rfl (hs.bx 0 rfl) rfl rfl rfl), np_to ow (np_call [I p0.A] hG hF Tryd.call22 rfl rfl (fun w hC hg => (impl_regName_ok p0.A hx19 (tb.ext hC)).mono fun e w' ⟨v, he, hv, hc⟩ => ⟨v, he, hc, hv⟩)), np_to ow (np_cat (s1 := x18) (s2 := x19) hG hF rfl rfl rfl (fun hg => hx20) rfl), np_to ow (np_cat (s1 := x20) (s2 := (⟨[32]⟩)) hG hF rfl rfl rfl (fun hg => hx21) rfl), np_to ow (np_loadBox hG hF ty3 rfl rfl (hs.bx 0 rfl) rfl rfl rfl), np_to ow (np_call [I p0.B] hG hF Tryd.call24 rfl rfl (fun w hC hg => (impl_FormatInt_ok p0.B hx22 (tb.ext hC)).mono fun e w' ⟨v, he, hv, hc⟩ => ⟨v, he, hc, hv⟩)), np_to ow (np_cat (s1 := x21) (s2 := x22) hG hF rfl rfl rfl (fun hg => hx23) rfl), trivial⟩) (by kernel_rfl) fun ow fr w5 hF hE hc => ?_)
     have tb := tb.ext hc
     have hs := hs.ext hc
     have hM0 := hM0.ext hc
     have hs : Sep [] w5 S1 := Sep.pick [] hs (by decide) rfl
     refine from_end rfl (then_normal ?_)
     obtain rfl := Option.some.inj h
     exact wp_ret (blk_ret (then_ret (ret1 rfl hF rfl ⟨_, rfl, rfl, hM0.chg⟩)))
   replace h := iteF hb h
   refine wp_seq ?_
   refine wp_seq (wp_pure [(3, B b1 0), (19, I p0.Op), (68, .bool (p0.Op == 4))] hF (by kernel_rfl) fun fr hF => then_normal ?_)
   refine (wp_if hF (b := (p0.Op == 4)) rfl (fun hb => ?_) (fun hb => ?_))
   · replace h := iteT hb h
     refine (wp_skip (then_normal ?_))
     refine (wp_if hF (b := (p0.Op == 4)) rfl (fun hb => ?_) (fun hb => ?_))
     · replace h := iteT hb h
       obtain ⟨x24, hx24, h⟩ := bindE h
       obtain ⟨x25, hx25, h⟩ := bindE h
       obtain ⟨x26, hx26, h⟩ := bindE h
       obtain ⟨x27, hx27, h⟩ := bindE h
       refine wp_seq (region_bm 9 [0, 1, 3, 7, 0, 16, 55, 127, 255] [true, false, false, false, true, false, false, false, true]
           [.eq (B b1 0), .eq (I p0.Op), .eq (Str.val x24), .eq (Str.val x25), .eq (B b1 1), .eq (I p0.A), .eq (Str.val x26), .eq (Str.val x27), .eq (Str.val x27)]
           [(6, Str.val x27)] mix hF (by kernel_rfl) (by kernel_rfl) (by kernel_rfl) (by kernel_rfl) ⟨Pd.monoO_eq, Pd.monoO_eq, Pd.monoO_eq, Pd.monoO_eq, Pd.monoO_eq, Pd.monoO_eq, trivial⟩ (fun ow hG => ⟨np_to ow (np_loadBox hG hF ty3 rfl rfl (hs.bx 0 rfl) rfl rfl rfl), np_to ow (np_call [I p0.Op] hG hF Tryd.call23 rfl rfl (fun w hC hg => (impl_insWord_ok p0.Op hx24).mono fun e w' ⟨v, he, hv, hc⟩ => ⟨v, he, hc, hv⟩)), np_to ow (np_cat (s1 := x24) (s2 := (⟨[32]⟩)) hG hF rfl rfl rfl (fun hg => hx25) rfl), np_to ow (np_loadBox hG hF ty3 rfl rfl (hs.bx 0 rfl) rfl rfl rfl), np_to ow (np_call [I p0.A] hG hF Tryd.call22 rfl rfl (fun w hC hg => (impl_regName_ok p0.A hx26 (tb.ext hC)).mono fun e w' ⟨v, he, hv, hc⟩ => ⟨v, he, hc, hv⟩)), np_to ow (np_cat (s1 := x25) (s2 := x26) hG hF rfl rfl rfl (fun hg => hx27) rfl), trivial⟩) (by kernel_rfl) fun ow fr w6 hF hE hc => ?_)
       have tb := tb.ext hc
       have hs := hs.ext hc
       have hM0 := hM0.ext hc
       have hs : Sep [] w6 S1 := Sep.pick [] hs (by decide) rfl
       refine from_end rfl (then_normal ?_)
       obtain rfl := Option.some.inj h
       exact wp_ret (blk_ret (then_ret (ret1 rfl hF rfl ⟨_, rfl, rfl, hM0.chg⟩)))
     replace h := iteF hb h
     refine wp_seq ?_
     refine wp_seq (wp_pure [(3, B b1 0), (19, I p0.Op), (81, .bool (p0.Op == 9))] hF (by kernel_rfl) fun fr hF => then_normal ?_)
     refine (wp_merge [(3, B b1 0), (81, .bool ((p0.Op == 9) || (p0.Op == 11)))] hF (b := (p0.Op == 9)) rfl (fun hb => ?_) (fun hb => ?_) fun fr hF => then_normal ?_)
     · exact wp_skip ⟨rfl, rfl, (hF.sub [(3, B b1 0), (81, .bool (p0.Op == 9))] (by kernel_rfl)).eqs (by first | (simp only [hb]; done) | (simp only [hb]; rfl))⟩
     · exact wp_pure [(3, B b1 0), (81, .bool (p0.Op == 11))] hF (by kernel_rfl) fun fr hF => ⟨rfl, rfl, hF.eqs (by first | (simp only [hb]; done) | (simp only [hb]; rfl))⟩
     refine (wp_if hF (b := ((p0.Op == 9) || (p0.Op == 11))) rfl (fun hb => ?_) (fun hb => ?_))
     · replace h := iteT hb h
       obtain ⟨x28, hx28, h⟩ := bindE h
       obtain ⟨x29, hx29, h⟩ := bindE h
       obtain ⟨x30, hx30, h⟩ := bindE h
       obtain ⟨x31, hx31, h⟩ := bindE h
       refine wp_seq (region_bm 9 [0, 1, 3, 7, 0, 16, 55, 127, 255] [true, false, false, false, true, false, false, false, true]
           [.eq (B b1 0), .eq (I p0.Op), .eq (Str.val x28), .eq (Str.val x29), .eq (B b1 2), .eq (I p0.B), .eq (Str.val x30), .eq (Str.val x31), .eq (Str.val x31)]
           [(6, Str.val x31)] mix hF (by kernel_rfl) (by kernel_rfl) (by kernel_rfl) (by kernel_rfl) ⟨Pd.monoO_eq, Pd.monoO_eq, Pd.monoO_eq, Pd.monoO_eq, Pd.monoO_eq, Pd.monoO_eq, trivial⟩ (fun ow hG => ⟨np_to ow (np_loadBox hG hF ty3 rfl rfl (hs.bx 0 rfl) rfl rfl rfl), np_to ow (np_call [I p0.Op] hG hF Tryd.call23 rfl rfl (fun w hC hg => (impl_insWord_ok p0.Op hx28).mono fun e w' ⟨v, he, hv, hc⟩ => ⟨v, he, hc, hv⟩)), np_to ow (np_cat (s1 := x28) (s2 := (⟨[32]⟩)) hG hF rfl rfl rfl (fun hg => hx29) rfl), np_to ow (np_loadBox hG hF ty3 rfl rfl (hs.bx 0 rfl) rfl rfl rfl), np_to ow (np_call [I p0.B] hG hF Tryd.call24 rfl rfl (fun w hC hg => (impl_FormatInt_ok p0.B hx30 (tb.ext hC)).mono fun e w' ⟨v, he, hv, hc⟩ => ⟨v, he, hc, hv⟩)), np_to ow (np_cat (s1 := x29) (s2 := x30) hG hF rfl rfl rfl (fun hg => hx31) rfl), trivial⟩) (by kernel_rfl) fun ow fr w7 hF hE hc => ?_)
       have tb := tb.ext hc
       have hs := hs.ext hc
       have hM0 := hM0.ext hc
       have hs : Sep [] w7 S1 := Sep.pick [] hs (by decide) rfl
       refine from_end rfl (then_normal ?_)
       obtain rfl := Option.some.inj h
       exact wp_ret (blk_ret (then_ret (ret1 rfl hF rfl ⟨_, rfl, rfl, hM0.chg⟩)))
     replace h := iteF hb h
     refine (wp_skip ?_)
     refine blk_normal (then_normal ?_)
     refine wp_seq (wp_text' ?_)
     refine from_pure 1 [(92, B b1 0)] hF (by kernel_rfl) fun fr hF => ?_
     refine s_loadBox (I p0.Op) ty3 rfl rfl hF rfl (hs.bx 0 rfl) rfl rfl fun fr hF => ?_
     have hs : Sep [] w2 S1 := Sep.pick [] hs (by decide) rfl
     obtain ⟨x32, hx32, h⟩ := bindE h
     refine s_call [I p0.Op] Tryd.call23 rfl rfl hF rfl (impl_insWord_ok p0.Op hx32) fun v w8 fr hRes hF => ?_
     obtain ⟨rfl, hc⟩ := hRes
     have tb := tb.ext hc
     have hs := hs.ext hc
     have hM0 := hM0.ext hc
     refine from_pure 1 [(6, Str.val x32)] hF (by kernel_rfl) fun fr hF => ?_
     refine from_end rfl (then_normal ?_)
     obtain rfl := Option.some.inj h
     exact wp_ret (ret1 rfl hF rfl ⟨_, rfl, rfl, hM0.chg⟩)
   replace h := iteF hb h
   refine wp_seq (wp_pure [(3, B b1 0), (19, I p0.Op), (68, .bool (p0.Op == 5))] hF (by kernel_rfl) fun fr hF => then_normal ?_)
   refine (wp_if hF (b := (p0.Op == 5)) rfl (fun hb => ?_) (fun hb => ?_))
   · replace h := iteT hb h
     refine (wp_skip (then_normal ?_))
     refine (wp_if hF (b := (p0.Op == 5)) rfl (fun hb => ?_) (fun hb => ?_))
     · replace h := iteT hb h
       obtain ⟨x33, hx33, h⟩ := bindE h
       obtain ⟨x34, hx34, h⟩ := bindE h
       obtain ⟨x35, hx35, h⟩ := bindE h
       obtain ⟨x36, hx36, h⟩ := bindE h
       refine wp_seq (region_bm 9 [0, 1, 3, 7, 0, 16, 55, 127, 255] [true, false, false, false, true, false, false, false, true]
           [.eq (B b1 0), .eq (I p0.Op), .eq (Str.val x33), .eq (Str.val x34), .eq (B b1 1), .eq (I p0.A), .eq (Str.val x35), .eq (Str.val x36), .eq (Str.val x36)]
           [(6, Str.val x36)] mix hF (by kernel_rfl) (by kernel_rfl) (by kernel_rfl) (by kernel_rfl) ⟨Pd.monoO_eq, Pd.monoO_eq, Pd.monoO_eq, Pd.monoO_eq, Pd.monoO_eq, Pd.monoO_eq, trivial⟩ (fun ow hG => ⟨np_to ow (np_loadBox hG hF ty3 rfl rfl (hs.bx 0 rfl) rfl rfl rfl), np_to ow (np_call [I p0.Op] hG hF Tryd.call23 rfl rfl (fun w hC hg => (impl_insWord_ok p0.Op hx33).mono fun e w' ⟨v, he, hv, hc⟩ => ⟨v, he, hc, hv⟩)), np_to ow (np_cat (s1 := x33) (s2 := (⟨[32]⟩)) hG hF rfl rfl rfl (fun hg => hx34) rfl), np_to ow (np_loadBox hG hF ty3 rfl rfl (hs.bx 0 rfl) rfl rfl rfl), np_to ow (np_call [I p0.A] hG hF Tryd.call22 rfl rfl (fun w hC hg => (impl_regName_ok p0.A hx35 (tb.ext hC)).mono fun e w' ⟨v, he, hv, hc⟩ => ⟨v, he, hc, hv⟩)), np_to ow (np_cat (s1 := x34) (s2 := x35) hG hF rfl rfl rfl (fun hg => hx36) rfl), trivial⟩) (by kernel_rfl) fun ow fr w9 hF hE hc => ?_)
       have tb := tb.ext hc
       have hs := hs.ext hc
       have hM0 := hM0.ext hc
       have hs : Sep [] w9 S1 := Sep.pick [] hs (by decide) rfl
       refine from_end rfl (then_normal ?_)
       obtain rfl := Option.some.inj h
       exact wp_ret (blk_ret (then_ret (ret1 rfl hF rfl ⟨_, rfl, rfl, hM0.chg⟩)))
     replace h := iteF hb h
     refine wp_seq ?_
     refine wp_seq (wp_pure [(3, B b1 0), (19, I p0.Op), (81, .bool (p0.Op == 9))] hF (by kernel_rfl) fun fr hF => then_normal ?_)
     refine (wp_merge [(3, B b1 0), (81, .bool ((p0.Op == 9) || (p0.Op == 11)))] hF (b := (p0.Op == 9)) rfl (fun hb => ?_) (fun hb => ?_) fun fr hF => then_normal ?_)
     · exact wp_skip ⟨rfl, rfl, (hF.sub [(3, B b1 0), (81, .bool (p0.Op == 9))] (by kernel_rfl)).eqs (by first | (simp only [hb]; done) | (simp only [hb]; rfl))⟩
     · exact wp_pure [(3, B b1 0), (81, .bool (p0.Op == 11))] hF (by kernel_rfl) fun fr hF => ⟨rfl, rfl, hF.eqs (by first | (simp only [hb]; done) | (simp only [hb]; rfl))⟩
     refine (wp_if hF (b := ((p0.Op == 9) || (p0.Op == 11))) rfl (fun hb => ?_) (fun hb => ?_))
     · replace h := iteT hb h
       obtain ⟨x37, hx37, h⟩ := bindE h
       obtain ⟨x38, hx38, h⟩ := bindE h
       obtain ⟨x39, hx39, h⟩ := bindE h
       obtain ⟨x40, hx40, h⟩ := bindE h
       refine wp_seq (region_bm 9 [0, 1, 3, 7, 0, 16, 55, 127, 255] [true, false, false, false, true, false, false, false, true]
           [.eq (B b1 0), .eq (I p0.Op), .eq (Str.val x37), .eq (Str.val x38), .eq (B b1 2), .eq (I p0.B), .eq (Str.val x39), .eq (Str.val x40), .eq (Str.val x40)]
           [(6, Str.val x40)] mix hF (by kernel_rfl) (by kernel_rfl) (by kernel_rfl) (by kernel_rfl) ⟨Pd.monoO_eq, Pd.monoO_eq, Pd.monoO_eq, Pd.monoO_eq, Pd.monoO_eq, Pd.monoO_eq, trivial⟩ (fun ow hG => ⟨np_to ow (np_loadBox hG hF ty3 rfl rfl (hs.bx 0 rfl) rfl rfl rfl), np_to ow (np_call [I p0.Op] hG hF Tryd.call23 rfl rfl (fun w hC hg => (impl_insWord_ok p0.Op hx37).mono fun e w' ⟨v, he, hv, hc⟩ => ⟨v, he, hc, hv⟩)), np_to ow (np_cat (s1 := x37) (s2 := (⟨[32]⟩)) hG hF rfl rfl rfl (fun hg => hx38) rfl), np_to ow (np_loadBox hG hF ty3 rfl rfl (hs.bx 0 rfl) rfl rfl rfl), np_to ow (np_call [I p0.B] hG hF Tryd.call24 rfl rfl (fun w hC hg => (impl_FormatInt_ok p0.B hx39 (tb.ext hC)).mono fun e w' ⟨v, he, hv, hc⟩ => ⟨v, he, hc, hv⟩)), np_to ow (np_cat (s1 := x38) (s2 := x39) hG hF rfl rfl rfl (fun hg => hx40) rfl), trivial⟩) (by kernel_rfl) fun ow fr w10 hF hE hc => ?_)
       have tb := tb.ext hc
       have hs := hs.ext hc
       have hM0 := hM0.ext hc
       have hs : Sep [] w10 S1 := Sep.pick [] hs (by decide) rfl
       refine from_end rfl (then_normal ?_)
       obtain rfl := Option.some.inj h
       exact wp_ret (blk_ret (then_ret (ret1 rfl hF rfl ⟨_, rfl, rfl, hM0.chg⟩)))
     replace h := iteF hb h
     refine (wp_skip ?_)
     refine blk_normal (then_normal ?_)
     refine wp_seq (wp_text' ?_)
     refine from_pure 1 [(92, B b1 0)] hF (by kernel_rfl) fun fr hF => ?_
     refine s_loadBox (I p0.Op) ty3 rfl rfl hF rfl (hs.bx 0 rfl) rfl rfl fun fr hF => ?_
     have hs : Sep [] w2 S1 := Sep.pick [] hs (by decide) rfl
     obtain ⟨x41, hx41, h⟩ := bindE h
     refine s_call [I p0.Op] Tryd.call23 rfl rfl hF rfl (impl_insWord_ok p0.Op hx41) fun v w11 fr hRes hF => ?_
     obtain ⟨rfl, hc⟩ := hRes
     have tb := tb.ext hc
     have hs := hs.ext hc
     have hM0 := hM0.ext hc
     refine from_pure 1 [(6, Str.val x41)] hF (by kernel_rfl) fun fr hF => ?_
     refine from_end rfl (then_normal ?_)
     obtain rfl := Option.some.inj h
     exact wp_ret (ret1 rfl hF rfl ⟨_, rfl, rfl, hM0.chg⟩)
   replace h := iteF hb h
   refine wp_seq (wp_pure [(3, B b1 0), (19, I p0.Op), (68, .bool (p0.Op == 6))] hF (by kernel_rfl) fun fr hF => then_normal ?_)
   refine (wp_merge [(3, B b1 0), (19, I p0.Op), (68, .bool ((p0.Op == 6) || (p0.Op == 13)))] hF (b := (p0.Op == 6)) rfl (fun hb => ?_) (fun hb => ?_) fun fr hF => then_normal ?_)
   · exact wp_skip ⟨rfl, rfl, (hF.sub [(3, B b1 0), (19, I p0.Op), (68, .bool (p0.Op == 6))] (by kernel_rfl)).eqs (by first | (simp only [hb]; done) | (simp only [hb]; rfl))⟩
   · exact wp_pure [(3, B b1 0), (19, I p0.Op), (68, .bool (p0.Op == 13))] hF (by kernel_rfl) fun fr hF => ⟨rfl, rfl, hF.eqs (by first | (simp only [hb]; done) | (simp only [hb]; rfl))⟩
   refine (wp_if hF (b := ((p0.Op == 6) || (p0.Op == 13))) rfl (fun hb => ?_) (fun hb => ?_))
   · replace h := iteT hb h
     obtain ⟨x42, hx42, h⟩ := bindE h
     obtain ⟨x43, hx43, h⟩ := bindE h
     obtain ⟨x44, hx44, h⟩ := bindE h
     obtain ⟨x45, hx45, h⟩ := bindE h
     refine wp_seq (region_bm 9 [0, 1, 3, 7, 0, 16, 55, 127, 255] [true, false, false, false, true, false, false, false, true]
         [.eq (B b1 0), .eq (I p0.Op), .eq (Str.val x42), .eq (Str.val x43), .eq (B b1 1), .eq (I p0.A), .eq (Str.val x44), .eq (Str.val x45), .eq (Str.val x45)]
         [(6, Str.val x45)] mix hF (by kernel_rfl) (by kernel_rfl) (by kernel_rfl) (by kernel_rfl) ⟨Pd.monoO_eq, Pd.monoO_eq, Pd.monoO_eq, Pd.monoO_eq, Pd.monoO_eq, Pd.monoO_eq, trivial⟩ (fun ow hG => ⟨np_to ow (np_loadBox hG hF ty3 rfl rfl (hs.bx 0 rfl) rfl rfl rfl), np_to ow (np_call [I p0.Op] hG hF Tryd.call23 rfl rfl (fun w hC hg => (impl_insWord_ok p0.Op hx42).mono fun e w' ⟨v, he, hv, hc⟩ => ⟨v, he, hc, hv⟩)), np_to ow (np_cat (s1 := x42) (s2 := (⟨[32]⟩)) hG hF rfl rfl rfl (fun hg => hx43) rfl), np_to ow (np_loadBox hG hF ty3 rfl rfl (hs.bx 0 rfl) rfl rfl rfl), np_to ow (np_call [I p0.A] hG hF Tryd.call22 rfl rfl (fun w hC hg => (impl_regName_ok p0.A hx44 (tb.ext hC)).mono fun e w' ⟨v, he, hv, hc⟩ => ⟨v, he, hc, hv⟩)), np_to ow (np_cat (s1 := x43) (s2 := x44) hG hF rfl rfl rfl (fun hg => hx45) rfl), trivial⟩) (by kernel_rfl) fun ow fr w12 hF hE hc => ?_)
     have tb := tb.ext hc
     have hs := hs.ext hc
     have hM0 := hM0.ext hc
     have hs : Sep [] w12 S1 := Sep.pick [] hs (by decide) rfl
     refine from_end rfl (then_normal ?_)
     obtain rfl := Option.some.inj h
     exact wp_ret (blk_ret (then_ret (ret1 rfl hF rfl ⟨_, rfl, rfl, hM0.chg⟩)))
   replace h := iteF hb h
   refine wp_seq ?_
   refine wp_seq (wp_pure [(3, B b1 0), (19, I p0.Op), (81, .bool (p0.Op == 9))] hF (by kernel_rfl) fun fr hF => then_normal ?_)
   refine (wp_merge [(3, B b1 0), (81, .bool ((p0.Op == 9) || (p0.Op == 11)))] hF (b := (p0.Op == 9)) rfl (fun hb => ?_) (fun hb => ?_) fun fr hF => then_normal ?_)
   · exact wp_skip ⟨rfl, rfl, (hF.sub [(3, B b1 0), (81, .bool (p0.Op == 9))] (by kernel_rfl)).eqs (by first | (simp only [hb]; done) | (simp only [hb]; rfl))⟩
   · exact wp_pure [(3, B b1 0), (81, .bool (p0.Op == 11))] hF (by kernel_rfl) fun fr hF => ⟨rfl, rfl, hF.eqs (by first | (simp only [hb]; done) | (simp only [hb]; rfl))⟩
   refine (wp_if hF (b := ((p0.Op == 9) || (p0.Op == 11))) rfl (fun hb => ?_) (fun hb => ?_))
   · replace h := iteT hb h
     obtain ⟨x46, hx46, h⟩ := bindE h
     obtain ⟨x47, hx47, h⟩ := bindE h
     obtain ⟨x48, hx48, h⟩ := bindE h
     obtain ⟨x49, hx49, h⟩ := bindE h
     refine wp_seq (region_bm 9 [0, 1, 3, 7, 0, 16, 55, 127, 255] [true, false, false, false, true, false, false, false, true]
         [.eq (B b1 0), .eq (I p0.Op), .eq (Str.val x46), .eq (Str.val x47), .eq (B b1 2), .eq (I p0.B), .eq (Str.val x48), .eq (Str.val x49), .eq (Str.val x49)]
         [(6, Str.val x49)] mix hF (by kernel_rfl) (by kernel_rfl) (by kernel_rfl) (by kernel_rfl) ⟨Pd.monoO_eq, Pd.monoO_eq, Pd.monoO_eq, Pd.monoO_eq, Pd.monoO_eq, Pd.monoO_eq, trivial⟩ (fun ow hG => ⟨np_to ow (np_loadBox hG hF ty3 rfl rfl (hs.bx 0 rfl) rfl rfl rfl), np_to ow (np_call [I p0.Op] hG hF Tryd.call23 rfl rfl (fun w hC hg => (impl_insWord_ok p0.Op hx46).mono fun e w' ⟨v, he, hv, hc⟩ => ⟨v, he, hc, hv⟩)), np_to ow (np_cat (s1 := x46) (s2 := (⟨[32]⟩)) hG hF rfl rfl rfl (fun hg => hx47) rfl), np_to ow (np_loadBox hG hF ty3 rfl rfl (hs.bx 0 rfl) rfl rfl rfl), np_to ow (np_call [I p0.B] hG hF Tryd.call24 rfl rfl (fun w hC hg => (impl_FormatInt_ok p0.B hx48 (tb.ext hC)).mono fun e w' ⟨v, he, hv, hc⟩ => ⟨v, he, hc, hv⟩)), np_to ow (np_cat (s1 := x47) (s2 := x48) hG hF rfl rfl rfl (fun hg => hx49) rfl), trivial⟩) (by kernel_rfl) fun ow fr w13 hF hE hc => ?_)
     have tb := tb.ext hc
     have hs := hs.ext hc
     have hM0 := hM0.ext hc
     have hs : Sep [] w13 S1 := Sep.pick [] hs (by decide) rfl
     refine from_end rfl (then_normal ?_)
     obtain rfl := Option.some.inj h
     exact wp_ret (blk_ret (then_ret (ret1 rfl hF rfl ⟨_, rfl, rfl, hM0.chg⟩)))
   replace h := iteF hb h
   refine (wp_skip ?_)
   refine blk_normal (then_normal ?_)
   refine wp_seq (wp_text' ?_)
   refine from_pure 1 [(92, B b1 0)] hF (by kernel_rfl) fun fr hF => ?_
   refine s_loadBox (I p0.Op) ty3 rfl rfl hF rfl (hs.bx 0 rfl) rfl rfl fun fr hF => ?_
   have hs : Sep [] w2 S1 := Sep.pick [] hs (by decide) rfl
   obtain ⟨x50, hx50, h⟩ := bindE h
   refine s_call [I p0.Op] Tryd.call23 rfl rfl hF rfl (impl_insWord_ok p0.Op hx50) fun v w14 fr hRes hF => ?_
   obtain ⟨rfl, hc⟩ := hRes
   have tb := tb.ext hc
   have hs := hs.ext hc
   have hM0 := hM0.ext hc
   refine from_pure 1 [(6, Str.val x50)] hF (by kernel_rfl) fun fr hF => ?_
   refine from_end rfl (then_normal ?_)
   obtain rfl := Option.some.inj h
   exact wp_ret (ret1 rfl hF rfl ⟨_, rfl, rfl, hM0.chg⟩)
 replace h := iteF hb h
 refine wp_seq (wp_pure [(3, B b1 0), (19, I p0.Op), (35, .bool (p0.Op == 7))] hF (by kernel_rfl) fun fr hF => then_normal ?_)
 refine (wp_merge [(3, B b1 0), (19, I p0.Op), (35, .bool ((p0.Op == 7) || (p0.Op == 8)))] hF (b := (p0.Op == 7)) rfl (fun hb => ?_) (fun hb => ?_) fun fr hF => then_normal ?_)
 · exact wp_skip ⟨rfl, rfl, (hF.sub [(3, B b1 0), (19, I p0.Op), (35, .bool (p0.Op == 7))] (by kernel_rfl)).eqs (by first | (simp only [hb]; done) | (simp only [hb]; rfl))⟩
 · exact wp_pure [(3, B b1 0), (19, I p0.Op), (35, .bool (p0.Op == 8))] hF (by kernel_rfl) fun fr hF => ⟨rfl, rfl, hF.eqs (by first | (simp only [hb]; done) | (simp only [hb]; rfl))⟩
 refine (wp_if hF (b := ((p0.Op == 7) || (p0.Op == 8))) rfl (fun hb => ?_) (fun hb => ?_))
 · replace h := iteT hb h
   obtain ⟨x51, hx51, h⟩ := bindE h
   obtain ⟨x52, hx52, h⟩ := bindE h
   obtain ⟨x53, hx53, h⟩ := bindE h
   obtain ⟨x54, hx54, h⟩ := bindE h
   obtain ⟨x55, hx55, h⟩ := bindE h
   obtain ⟨x56, hx56, h⟩ := bindE h
   obtain ⟨x57, hx57, h⟩ := bindE h
   refine wp_seq (region_bm 14 [0, 1, 3, 7, 0, 16, 55, 127, 255, 0, 512, 1655, 4095, 8191] [true, false, false, false, true, false, false, false, false, true, false, false, false, true]
       [.eq (B b1 0), .eq (I p0.Op), .eq (Str.val x51), .eq (Str.val x52), .eq (B b1 1), .eq (I p0.A), .eq (Str.val x53), .eq (Str.val x54), .eq (Str.val x55), .eq (B b1 2), .eq (I p0.B), .eq (Str.val x56), .eq (Str.val x57), .eq (Str.val x57)]
       [(6, Str.val x57)] mix hF (by kernel_rfl) (by kernel_rfl) (by kernel_rfl) (by kernel_rfl) ⟨Pd.monoO_eq, Pd.monoO_eq, Pd.monoO_eq, Pd.monoO_eq, Pd.monoO_eq, Pd.monoO_eq, Pd.monoO_eq, Pd.monoO_eq, Pd.monoO_eq, Pd.monoO_eq, trivial⟩ (fun ow hG => ⟨np_to ow (np_loadBox hG hF ty3 rfl rfl (hs.bx 0 rfl) rfl rfl rfl), np_to ow (np_call [I p0.Op] hG hF Tryd.call23 rfl rfl (fun w hC hg => (impl_insWord_ok p0.Op hx51).mono fun e w' ⟨v, he, hv, hc⟩ => ⟨v, he, hc, hv⟩)), np_to ow (np_cat (s1 := x51) (s2 := (⟨[32]⟩)) hG hF rfl rfl rfl (fun hg => hx52) rfl), np_to ow (np_loadBox hG hF ty3 rfl rfl (hs.bx 0 rfl) rfl rfl rfl), np_to ow (np_call [I p0.A] hG hF Tryd.call22 rfl rfl (fun w hC hg => (impl_regName_ok p0.A hx53 (tb.ext hC)).mono fun e w' ⟨v, he, hv, hc⟩ => ⟨v, he, hc, hv⟩)), np_to ow (np_cat (s1 := x52) (s2 := x53) hG hF rfl rfl rfl (fun hg => hx54) rfl), np_to ow (np_cat (s1 := x54) (s2 := (⟨[32]⟩)) hG hF rfl rfl rfl (fun hg => hx55) rfl), np_to ow (np_loadBox hG hF ty3 rfl rfl (hs.bx 0 rfl) rfl rfl rfl), np_to ow (np_call [I p0.B] hG hF Tryd.call22 rfl rfl (fun w hC hg => (impl_regName_ok p0.B hx56 (tb.ext hC)).mono fun e w' ⟨v, he, hv, hc⟩ => ⟨v, he, hc, hv⟩)), np_to ow (np_cat (s1 := x55) (s2 := x56) hG hF rfl rfl rfl (fun hg => hx57) rfl), trivial⟩) (by kernel_rfl) fun ow fr w15 hF hE hc => ?_)
   have tb := tb.ext hc
   have hs := hs.ext hc
   have hM0 := hM0.ext hc
   have hs : Sep [] w15 S1 := Sep.pick [] hs (by decide) rfl
   refine from_end rfl (then_normal ?_)
   obtain rfl := Option.some.inj h
   exact wp_ret (blk_ret (then_ret (ret1 rfl hF rfl ⟨_, rfl, rfl, hM0.chg⟩)))
 replace h := iteF hb h
 refine wp_seq ?_
 refine wp_seq (wp_pure [(3, B b1 0), (19, I p0.Op), (52, .bool (p0.Op == 1))] hF (by kernel_rfl) fun fr hF => then_normal ?_)
 refine (wp_merge [(3, B b1 0), (19, I p0.Op), (52, .bool ((p0.Op == 1) || (p0.Op == 10)))] hF (b := (p0.Op == 1)) rfl (fun hb => ?_) (fun hb => ?_) fun fr hF => then_normal ?_)
 · exact wp_skip ⟨rfl, rfl, (hF.sub [(3, B b1 0), (19, I p0.Op), (52, .bool (p0.Op == 1))] (by kernel_rfl)).eqs (by first | (simp only [hb]; done) | (simp only [hb]; rfl))⟩
 · exact wp_pure [(3, B b1 0), (19, I p0.Op), (52, .bool (p0.Op == 10))] hF (by kernel_rfl) fun fr hF => ⟨rfl, rfl, hF.eqs (by first | (simp only [hb]; done) | (simp only [hb]; rfl))⟩
 refine (wp_if hF (b := ((p0.Op == 1) || (p0.Op == 10))) rfl (fun hb => ?_) (fun hb => ?_))
 · replace h := iteT hb h
   obtain ⟨x58, hx58, h⟩ := bindE h
   obtain ⟨x59, hx59, h⟩ := bindE h
   obtain ⟨x60, hx60, h⟩ := bindE h
   obtain ⟨x61, hx61, h⟩ := bindE h
   obtain ⟨x62, hx62, h⟩ := bindE h
   obtain ⟨x63, hx63, h⟩ := bindE h
   obtain ⟨x64, hx64, h⟩ := bindE h
   refine wp_seq (region_bm 14 [0, 1, 3, 7, 0, 16, 55, 127, 255, 0, 512, 1655, 4095, 8191] [true, false, false, false, true, false, false, false, false, true, false, false, false, true]
       [.eq (B b1 0), .eq (I p0.Op), .eq (Str.val x58), .eq (Str.val x59), .eq (B b1 1), .eq (I p0.A), .eq (Str.val x60), .eq (Str.val x61), .eq (Str.val x62), .eq (B b1 2), .eq (I p0.B), .eq (Str.val x63), .eq (Str.val x64), .eq (Str.val x64)]
       [(6, Str.val x64)] mix hF (by kernel_rfl) (by kernel_rfl) (by kernel_rfl) (by kernel_rfl) ⟨Pd.monoO_eq, Pd.monoO_eq, Pd.monoO_eq, Pd.monoO_eq, Pd.monoO_eq, Pd.monoO_eq, Pd.monoO_eq, Pd.monoO_eq, Pd.monoO_eq, Pd.monoO_eq, trivial⟩ (fun ow hG => ⟨np_to ow (np_loadBox hG hF ty3 rfl rfl (hs.bx 0 rfl) rfl rfl rfl), np_to ow (np_call [I p0.Op] hG hF Tryd.call23 rfl rfl (fun w hC hg => (impl_insWord_ok p0.Op hx58).mono fun e w' ⟨v, he, hv, hc⟩ => ⟨v, he, hc, hv⟩)), np_to ow (np_cat (s1 := x58) (s2 := (⟨[32]⟩)) hG hF rfl rfl rfl (fun hg => hx59) rfl), np_to ow (np_loadBox hG hF ty3 rfl rfl (hs.bx 0 rfl) rfl rfl rfl), np_to ow (np_call [I p0.A] hG hF Tryd.call22 rfl rfl (fun w hC hg => (impl_regName_ok p0.A hx60 (tb.ext hC)).mono fun e w' ⟨v, he, hv, hc⟩ => ⟨v, he, hc, hv⟩)), np_to ow (np_cat (s1 := x59) (s2 := x60) hG hF rfl rfl rfl (fun hg => hx61) rfl), np_to ow (np_cat (s1 := x61) (s2 := (⟨[32]⟩)) hG hF rfl rfl rfl (fun hg => hx62) rfl), np_to ow (np_loadBox hG hF ty3 rfl rfl (hs.bx 0 rfl) rfl rfl rfl), np_to ow (np_call [I p0.B] hG hF Tryd.call24 rfl rfl (fun w hC hg => (impl_FormatInt_ok p0.B hx63 (tb.ext hC)).mono fun e w' ⟨v, he, hv, hc⟩ => ⟨v, he, hc, hv⟩)), np_to ow (np_cat (s1 := x62) (s2 := x63) hG hF rfl rfl rfl (fun hg => hx64) rfl), trivial⟩) (by kernel_rfl) fun ow fr w16 hF hE hc => ?_)
   have tb := tb.ext hc
   have hs := hs.ext hc
   have hM0 := hM0.ext hc
   have hs : Sep [] w16 S1 := Sep.pick [] hs (by decide) rfl
   refine from_end rfl (then_normal ?_)
   obtain rfl := Option.some.inj h
   exact wp_ret (blk_ret (then_ret (ret1 rfl hF rfl ⟨_, rfl, rfl, hM0.chg⟩)))
 replace h := iteF hb h
 refine wp_seq ?_
 refine wp_seq (wp_pure [(3, B b1 0), (19, I p0.Op), (68, .bool (p0.Op == 4))] hF (by kernel_rfl) fun fr hF => then_normal ?_)
 refine (wp_if hF (b := (p0.Op == 4)) rfl (fun hb => ?_) (fun hb => ?_))
 · replace h := iteT hb h
   refine (wp_skip (then_normal ?_))
   refine (wp_if hF (b := (p0.Op == 4)) rfl (fun hb => ?_) (fun hb => ?_))
   · replace h := iteT hb h
     obtain ⟨x65, hx65, h⟩ := bindE h
     obtain ⟨x66, hx66, h⟩ := bindE h
     obtain ⟨x67, hx67, h⟩ := bindE h
     obtain ⟨x68, hx68, h⟩ := bindE h
     refine wp_seq (region_bm 9 [0, 1, 3, 7, 0, 16, 55, 127, 255] [true, false, false, false, true, false, false, false, true]
         [.eq (B b1 0), .eq (I p0.Op), .eq (Str.val x65), .eq (Str.val x66), .eq (B b1 1), .eq (I p0.A), .eq (Str.val x67), .eq (Str.val x68), .eq (Str.val x68)]
         [(6, Str.val x68)] mix hF (by kernel_rfl) (by kernel_rfl) (by kernel_rfl) (by kernel_rfl) ⟨Pd.monoO_eq, Pd.monoO_eq, Pd.monoO_eq, Pd.monoO_eq, Pd.monoO_eq, Pd.monoO_eq, trivial⟩ (fun ow hG => ⟨np_to ow (np_loadBox hG hF ty3 rfl rfl (hs.bx 0 rfl) rfl rfl rfl), np_to ow (np_call [I p0.Op] hG hF Tryd.call23 rfl rfl (fun w hC hg => (impl_insWord_ok p0.Op hx65).mono fun e w' ⟨v, he, hv, hc⟩ => ⟨v, he, hc, hv⟩)), np_to ow (np_cat (s1 := x65) (s2 := (⟨[32]⟩)) hG hF rfl rfl rfl (fun hg => hx66) rfl), np_to ow (np_loadBox hG hF ty3 rfl rfl (hs.bx 0 rfl) rfl rfl rfl), np_to ow (np_call [I p0.A] hG hF Tryd.call22 rfl rfl (fun w hC hg => (impl_regName_ok p0.A hx67 (tb.ext hC)).mono fun e w' ⟨v, he, hv, hc⟩ => ⟨v, he, hc, hv⟩)), np_to ow (np_cat (s1 := x66) (s2 := x67) hG hF rfl rfl rfl (fun hg => hx68) rfl), trivial⟩) (by kernel_rfl) fun ow fr w17 hF hE hc => ?_)
     have tb := tb.ext hc
     have hs := hs.ext hc
     have hM0 := hM0.ext hc
     have hs : Sep [] w17 S1 := Sep.pick [] hs (by decide) rfl
     refine from_end rfl (then_normal ?_)
     obtain rfl := Option.some.inj h
     exact wp_ret (blk_ret (then_ret (ret1 rfl hF rfl ⟨_, rfl, rfl, hM0.chg⟩)))
   replace h := iteF hb h
   refine wp_seq ?_
   refine wp_seq (wp_pure [(3, B b1 0), (19, I p0.Op), (81, .bool (p0.Op == 9))] hF (by kernel_rfl) fun fr hF => then_normal ?_)
   refine (wp_merge [(3, B b1 0), (81, .bool ((p0.Op == 9) || (p0.Op == 11)))] hF (b := (p0.Op == 9)) rfl (fun hb => ?_) (fun hb => ?_) fun fr hF => then_normal ?_)
   · exact wp_skip ⟨rfl, rfl, (hF.sub [(3, B b1 0), (81, .bool (p0.Op == 9))] (by kernel_rfl)).eqs (by first | (simp only [hb]; done) | (simp only [hb]; rfl))⟩
   · exact wp_pure [(3, B b1 0), (81, .bool (p0.Op == 11))] hF (by kernel_rfl) fun fr hF => ⟨rfl, rfl, hF.eqs (by first | (simp only [hb]; done) | (simp only [hb]; rfl))⟩
   refine (wp_if hF (b := ((p0.Op == 9) || (p0.Op == 11))) rfl (fun hb => ?_) (fun hb => ?_))
   · replace h := iteT hb h
     obtain ⟨x69, hx69, h⟩ := bindE h
     obtain ⟨x70, hx70, h⟩ := bindE h
     obtain ⟨x71, hx71, h⟩ := bindE h
     obtain ⟨x72, hx72, h⟩ := bindE h
     refine wp_seq (region_bm 9 [0, 1, 3, 7, 0, 16, 55, 127, 255] [true, false, false, false, true, false, false, false, true]
         [.eq (B b1 0), .eq (I p0.Op), .eq (Str.val x69), .eq (Str.val x70), .eq (B b1 2), .eq (I p0.B), .eq (Str.val x71), .eq (Str.val x72), .eq (Str.val x72)]
         [(6, Str.val x72)] mix hF (by kernel_rfl) (by kernel_rfl) (by kernel_rfl) (by kernel_rfl) ⟨Pd.monoO_eq, Pd.monoO_eq, Pd.monoO_eq, Pd.monoO_eq, Pd.monoO_eq, Pd.monoO_eq, trivial⟩ (fun ow hG => ⟨np_to ow (np_loadBox hG hF ty3 rfl rfl (hs.bx 0 rfl) rfl rfl rfl), np_to ow (np_call [I p0.Op] hG hF Tryd.call23 rfl rfl (fun w hC hg => (impl_insWord_ok p0.Op hx69).mono fun e w' ⟨v, he, hv, hc⟩ => ⟨v, he, hc, hv⟩)), np_to ow (np_cat (s1 := x69) (s2 := (⟨[32]⟩)) hG hF rfl rfl rfl (fun hg => hx70) rfl), np_to ow (np_loadBox hG hF ty3 rfl rfl (hs.bx 0 rfl) rfl rfl rfl), np_to ow (np_call [I p0.B] hG hF Tryd.call24 rfl rfl (fun w hC hg => (impl_FormatInt_ok p0.B hx71 (tb.ext hC)).mono fun e w' ⟨v, he, hv, hc⟩ => ⟨v, he, hc, hv⟩)), np_to ow (np_cat (s1 := x70) (s2 := x71) hG hF rfl rfl rfl (fun hg => hx72) rfl), trivial⟩) (by kernel_rfl) fun ow fr w18 hF hE hc => ?_)
     have tb := tb.ext hc
     have hs := hs.ext hc
     have hM0 := hM0.ext hc
     have hs : Sep [] w18 S1 := Sep.pick [] hs (by decide) rfl
     refine from_end rfl (then_normal ?_)
     obtain rfl := Option.some.inj h
     exact wp_ret (blk_ret (then_ret (ret1 rfl hF rfl ⟨_, rfl, rfl, hM0.chg⟩)))
   replace h := iteF hb h
   refine (wp_skip ?_)
   refine blk_normal (then_normal ?_)
   refine wp_seq (wp_text' ?_)
   refine from_pure 1 [(92, B b1 0)] hF (by kernel_rfl) fun fr hF => ?_
   refine s_loadBox (I p0.Op) ty3 rfl rfl hF rfl (hs.bx 0 rfl) rfl rfl fun fr hF => ?_
   have hs : Sep [] w2 S1 := Sep.pick [] hs (by decide) rfl
   obtain ⟨x73, hx73, h⟩ := bindE h
   refine s_call [I p0.Op] Tryd.call23 rfl rfl hF rfl (impl_insWord_ok p0.Op hx73) fun v w19 fr hRes hF => ?_
   obtain ⟨rfl, hc⟩ := hRes
   have tb := tb.ext hc
   have hs := hs.ext hc
   have hM0 := hM0.ext hc
   refine from_pure 1 [(6, Str.val x73)] hF (by kernel_rfl) fun fr hF => ?_
   refine from_end rfl (then_normal ?_)
   obtain rfl := Option.some.inj h
   exact wp_ret (ret1 rfl hF rfl ⟨_, rfl, rfl, hM0.chg⟩)
 replace h := iteF hb h
 refine wp_seq (wp_pure [(3, B b1 0), (19, I p0.Op), (68, .bool (p0.Op == 5))] hF (by kernel_rfl) fun fr hF => then_normal ?_)
 refine (wp_if hF (b := (p0.Op == 5)) rfl (fun hb => ?_) (fun hb => ?_))
 · replace h := iteT hb h
   refine (wp_skip (then_normal ?_))
   refine (wp_if hF (b := (p0.Op == 5)) rfl (fun hb => ?_) (fun hb => ?_))
   · replace h := iteT hb h
     obtain ⟨x74, hx74, h⟩ := bindE h
     obtain ⟨x75, hx75, h⟩ := bindE h
     obtain ⟨x76, hx76, h⟩ := bindE h
     obtain ⟨x77, hx77, h⟩ := bindE h
     refine wp_seq (region_bm 9 [0, 1, 3, 7, 0, 16, 55, 127, 255] [true, false, false, false, true, false, false, false, true]
         [.eq (B b1 0), .eq (I p0.Op), .eq (Str.val x74), .eq (Str.val x75), .eq (B b1 1), .eq (I p0.A), .eq (Str.val x76), .eq (Str.val x77), .eq (Str.val x77)]
         [(6, Str.val x77)] mix hF (by kernel_rfl) (by kernel_rfl) (by kernel_rfl) (by kernel_rfl) ⟨Pd.monoO_eq, Pd.monoO_eq, Pd.monoO_eq, Pd.monoO_eq, Pd.monoO_eq, Pd.monoO_eq, trivial⟩ (fun ow hG => ⟨np_to ow (np_loadBox hG hF ty3 rfl rfl (hs.bx 0 rfl) rfl rfl rfl), np_to ow (np_call [I p0.Op] hG hF Tryd.call23 rfl rfl (fun w hC hg => (impl_insWord_ok p0.Op hx74).mono fun e w' ⟨v, he, hv, hc⟩ => ⟨v, he, hc, hv⟩)), np_to ow (np_cat (s1 := x74) (s2 := (⟨[32]⟩)) hG hF rfl rfl rfl (fun hg => hx75) rfl), np_to ow (np_loadBox hG hF ty3 rfl rfl (hs.bx 0 rfl) rfl rfl rfl), np_to ow (np_call [I p0.A] hG hF Tryd.call22 rfl rfl (fun w hC hg => (impl_regName_ok p0.A hx76 (tb.ext hC)).mono fun e w' ⟨v, he, hv, hc⟩ => ⟨v, he, hc, hv⟩)), np_to ow (np_cat (s1 := x75) (s2 := x76) hG hF rfl rfl rfl (fun hg => hx77) rfl), trivial⟩) (by kernel_rfl) fun ow fr w20 hF hE hc => ?_)
     have tb := tb.ext hc
     have hs := hs.ext hc
     have hM0 := hM0.ext hc
     have hs : Sep [] w20 S1 := Sep.pick [] hs (by decide) rfl
     refine from_end rfl (then_normal ?_)
     obtain rfl := Option.some.inj h
     exact wp_ret (blk_ret (then_ret (ret1 rfl hF rfl ⟨_, rfl, rfl, hM0.chg⟩)))
   replace h := iteF hb h
   refine wp_seq ?_
   refine wp_seq (wp_pure [(3, B b1 0), (19, I p0.Op), (81, .bool (p0.Op == 9))] hF (by kernel_rfl) fun fr hF => then_normal ?_)
   refine (wp_merge [(3, B b1 0), (81, .bool ((p0.Op == 9) || (p0.Op == 11)))] hF (b := (p0.Op == 9)) rfl (fun hb => ?_) (fun hb => ?_) fun fr hF => then_normal ?_)
   · exact wp_skip ⟨rfl, rfl, (hF.sub [(3, B b1 0), (81, .bool (p0.Op == 9))] (by kernel_rfl)).eqs (by first | (simp only [hb]; done) | (simp only [hb]; rfl))⟩
   · exact wp_pure [(3, B b1 0), (81, .bool (p0.Op == 11))] hF (by kernel_rfl) fun fr hF => ⟨rfl, rfl, hF.eqs (by first | (simp only [hb]; done) | (simp only [hb]; rfl))⟩
   refine (wp_if hF (b := ((p0.Op == 9) || (p0.Op == 11))) rfl (fun hb => ?_) (fun hb => ?_))
   · replace h := iteT hb h
     obtain ⟨x78, hx78, h⟩ := bindE h
     obtain ⟨x79, hx79, h⟩ := bindE h
     obtain ⟨x80, hx80, h⟩ := bindE h
     obtain ⟨x81, hx81, h⟩ := bindE h
     refine wp_seq (region_bm 9 [0, 1, 3, 7, 0, 16, 55, 127, 255] [true, false, false, false, true, false, false, false, true]
         [.eq (B b1 0), .eq (I p0.Op), .eq (Str.val x78), .eq (Str.val x79), .eq (B b1 2), .eq (I p0.B), .eq (Str.val x80), .eq (Str.val x81), .eq (Str.val x81)]
         [(6, Str.val x81)] mix hF (by kernel_rfl) (by kernel_rfl) (by kernel_rfl) (by kernel_rfl) ⟨Pd.monoO_eq, Pd.monoO_eq, Pd.monoO_eq, Pd.monoO_eq, Pd.monoO_eq, Pd.monoO_eq, trivial⟩ (fun ow hG => ⟨np_to ow (np_loadBox hG hF ty3 rfl rfl (hs.bx 0 rfl) rfl rfl rfl), np_to ow (np_call [I p0.Op] hG hF Tryd.call23 rfl rfl (fun w hC hg => (impl_insWord_ok p0.Op hx78).mono fun e w' ⟨v, he, hv, hc⟩ => ⟨v, he, hc, hv⟩)), np_to ow (np_cat (s1 := x78) (s2 := (⟨[32]⟩)) hG hF rfl rfl rfl (fun hg => hx79) rfl), np_to ow (np_loadBox hG hF ty3 rfl rfl (hs.bx 0 rfl) rfl rfl rfl), np_to ow (np_call [I p0.B] hG hF Tryd.call24 rfl rfl (fun w hC hg => (impl_FormatInt_ok p0.B hx80 (tb.ext hC)).mono fun e w' ⟨v, he, hv, hc⟩ => ⟨v, he, hc, hv⟩)), np_to ow (np_cat (s1 := x79) (s2 := x80) hG hF rfl rfl rfl (fun hg => hx81) rfl), trivial⟩) (by kernel_rfl) fun ow fr w21 hF hE hc => ?_)
     have tb := tb.ext hc
     have hs := hs.ext hc
     have hM0 := hM0.ext hc
     have hs : Sep [] w21 S1 := Sep.pick [] hs (by decide) rfl
     refine from_end rfl (then_normal ?_)
     obtain rfl := Option.some.inj h
     exact wp_ret (blk_ret (then_ret (ret1 rfl hF rfl ⟨_, rfl, rfl, hM0.chg⟩)))
   replace h := iteF hb h
   refine (wp_skip ?_)
   refine blk_normal (then_normal ?_)
   refine wp_seq (wp_text' ?_)
   refine from_pure 1 [(92, B b1 0)] hF (by kernel_rfl) fun fr hF => ?_
   refine s_loadBox (I p0.Op) ty3 rfl rfl hF rfl (hs.bx 0 rfl) rfl rfl fun fr hF => ?_
   have hs : Sep [] w2 S1 := Sep.pick [] hs (by decide) rfl
   obtain ⟨x82, hx82, h⟩ := bindE h
   refine s_call [I p0.Op] Tryd.call23 rfl rfl hF rfl (impl_insWord_ok p0.Op hx82) fun v w22 fr hRes hF => ?_
   obtain ⟨rfl, hc⟩ := hRes
   have tb := tb.ext hc
   have hs := hs.ext hc
   have hM0 := hM0.ext hc
   refine from_pure 1 [(6, Str.val x82)] hF (by kernel_rfl) fun fr hF => ?_
   refine from_end rfl (then_normal ?_)
   obtain rfl := Option.some.inj h
   exact wp_ret (ret1 rfl hF rfl ⟨_, rfl, rfl, hM0.chg⟩)
 replace h := iteF hb h
 refine wp_seq (wp_pure [(3, B b1 0), (19, I p0.Op), (68, .bool (p0.Op == 6))] hF (by kernel_rfl) fun fr hF => then_normal ?_)
 refine (wp_merge [(3, B b1 0), (19, I p0.Op), (68, .bool ((p0.Op == 6) || (p0.Op == 13)))] hF (b := (p0.Op == 6)) rfl (fun hb => ?_) (fun hb => ?_) fun fr hF => then_normal ?_)
 · exact wp_skip ⟨rfl, rfl, (hF.sub [(3, B b1 0), (19, I p0.Op), (68, .bool (p0.Op == 6))] (by kernel_rfl)).eqs (by first | (simp only [hb]; done) | (simp only [hb]; rfl))⟩
 · exact wp_pure [(3, B b1 0), (19, I p0.Op), (68, .bool (p0.Op == 13))] hF (by kernel_rfl) fun fr hF => ⟨rfl, rfl, hF.eqs (by first | (simp only [hb]; done) | (simp only [hb]; rfl))⟩
 refine (wp_if hF (b := ((p0.Op == 6) || (p0.Op == 13))) rfl (fun hb => ?_) (fun hb => ?_))
 · replace h := iteT hb h
   obtain ⟨x83, hx83, h⟩ := bindE h
   obtain ⟨x84, hx84, h⟩ := bindE h
   obtain ⟨x85, hx85, h⟩ := bindE h
   obtain ⟨x86, hx86, h⟩ := bindE h
   refine wp_seq (region_bm 9 [0, 1, 3, 7, 0, 16, 55, 127, 255] [true, false, false, false, true, false, false, false, true]
       [.eq (B b1 0), .eq (I p0.Op), .eq (Str.val x83), .eq (Str.val x84), .eq (B b1 1), .eq (I p0.A), .eq (Str.val x85), .eq (Str.val x86), .eq (Str.val x86)]
       [(6, Str.val x86)] mix hF (by kernel_rfl) (by kernel_rfl) (by kernel_rfl) (by kernel_rfl) ⟨Pd.monoO_eq, Pd.monoO_eq, Pd.monoO_eq, Pd.monoO_eq, Pd.monoO_eq, Pd.monoO_eq, trivial⟩ (fun ow hG => ⟨np_to ow (np_loadBox hG hF ty3 rfl rfl (hs.bx 0 rfl) rfl rfl rfl), np_to ow (np_call [I p0.Op] hG hF Tryd.call23 rfl rfl (fun w hC hg => (impl_insWord_ok p0.Op hx83).mono fun e w' ⟨v, he, hv, hc⟩ => ⟨v, he, hc, hv⟩)), np_to ow (np_cat (s1 := x83) (s2 := (⟨[32]⟩)) hG hF rfl rfl rfl (fun hg => hx84) rfl), np_to ow (np_loadBox hG hF ty3 rfl rfl (hs.bx 0 rfl) rfl rfl rfl), np_to ow (np_call [I p0.A] hG hF Tryd.call22 rfl rfl (fun w hC hg => (impl_regName_ok p0.A hx85 (tb.ext hC)).mono fun e w' ⟨v, he, hv, hc⟩ => ⟨v, he, hc, hv⟩)), np_to ow (np_cat (s1 := x84) (s2 := x85) hG hF rfl rfl rfl (fun hg => hx86) rfl), trivial⟩) (by kernel_rfl) fun ow fr w23 hF hE hc => ?_)
   have tb := tb.ext hc
   have hs := hs.ext hc
   have hM0 := hM0.ext hc
   have hs : Sep [] w23 S1 := Sep.pick [] hs (by decide) rfl
   refine from_end rfl (then_normal ?_)
   obtain rfl := Option.some.inj h
   exact wp_ret (blk_ret (then_ret (ret1 rfl hF rfl ⟨_, rfl, rfl, hM0.chg⟩)))
 replace h := iteF hb h
 refine wp_seq ?_
 refine wp_seq (wp_pure [(3, B b1 0), (19, I p0.Op), (81, .bool (p0.Op == 9))] hF (by kernel_rfl) fun fr hF => then_normal ?_)
 refine (wp_merge [(3, B b1 0), (81, .bool ((p0.Op == 9) || (p0.Op == 11)))] hF (b := (p0.Op == 9)) rfl (fun hb => ?_) (fun hb => ?_) fun fr hF => then_normal ?_)
 · exact wp_skip ⟨rfl, rfl, (hF.sub [(3, B b1 0), (81, .bool (p0.Op == 9))] (by kernel_rfl)).eqs (by first | (simp only [hb]; done) | (simp only [hb]; rfl))⟩
 · exact wp_pure [(3, B b1 0), (81, .bool (p0.Op == 11))] hF (by kernel_rfl) fun fr hF => ⟨rfl, rfl, hF.eqs (by first | (simp only [hb]; done) | (simp only [hb]; rfl))⟩
 refine (wp_if hF (b := ((p0.Op == 9) || (p0.Op == 11))) rfl (fun hb => ?_) (fun hb => ?_))
 · replace h := iteT hb h
   obtain ⟨x87, hx87, h⟩ := bindE h
   obtain ⟨x88, hx88, h⟩ := bindE h
   obtain ⟨x89, hx89, h⟩ := bindE h
   obtain ⟨x90, hx90, h⟩ := bindE h
   refine wp_seq (region_bm 9 [0, 1, 3, 7, 0, 16, 55, 127, 255] [true, false, false, false, true, false, false, false, true]
       [.eq (B b1 0), .eq (I p0.Op), .eq (Str.val x87), .eq (Str.val x88), .eq (B b1 2), .eq (I p0.B), .eq (Str.val x89), .eq (Str.val x90), .eq (Str.val x90)]
       [(6, Str.val x90)] mix hF (by kernel_rfl) (by kernel_rfl) (by kernel_rfl) (by kernel_rfl) ⟨Pd.monoO_eq, Pd.monoO_eq, Pd.monoO_eq, Pd.monoO_eq, Pd.monoO_eq, Pd.monoO_eq, trivial⟩ (fun ow hG => ⟨np_to ow (np_loadBox hG hF ty3 rfl rfl (hs.bx 0 rfl) rfl rfl rfl), np_to ow (np_call [I p0.Op] hG hF Tryd.call23 rfl rfl (fun w hC hg => (impl_insWord_ok p0.Op hx87).mono fun e w' ⟨v, he, hv, hc⟩ => ⟨v, he, hc, hv⟩)), np_to ow (np_cat (s1 := x87) (s2 := (⟨[32]⟩)) hG hF rfl rfl rfl (fun hg => hx88) rfl), np_to ow (np_loadBox hG hF ty3 rfl rfl (hs.bx 0 rfl) rfl rfl rfl), np_to ow (np_call [I p0.B] hG hF Tryd.call24 rfl rfl (fun w hC hg => (impl_FormatInt_ok p0.B hx89 (tb.ext hC)).mono fun e w' ⟨v, he, hv, hc⟩ => ⟨v, he, hc, hv⟩)), np_to ow (np_cat (s1 := x88) (s2 := x89) hG hF rfl rfl rfl (fun hg => hx90) rfl), trivial⟩) (by kernel_rfl) fun ow fr w24 hF hE hc => ?_)
   have tb := tb.ext hc
   have hs := hs.ext hc
   have hM0 := hM0.ext hc
   have hs : Sep [] w24 S1 := Sep.pick [] hs (by decide) rfl
   refine from_end rfl (then_normal ?_)
   obtain rfl := Option.some.inj h
   exact wp_ret (blk_ret (then_ret (ret1 rfl hF rfl ⟨_, rfl, rfl, hM0.chg⟩)))
 replace h := iteF hb h
 refine (wp_skip ?_)
 refine blk_normal (then_normal ?_)
 refine wp_seq (wp_text' ?_)
 refine from_pure 1 [(92, B b1 0)] hF (by kernel_rfl) fun fr hF => ?_
 refine s_loadBox (I p0.Op) ty3 rfl rfl hF rfl (hs.bx 0 rfl) rfl rfl fun fr hF => ?_
 have hs : Sep [] w2 S1 := Sep.pick [] hs (by decide) rfl
 obtain ⟨x91, hx91, h⟩ := bindE h
 refine s_call [I p0.Op] Tryd.call23 rfl rfl hF rfl (impl_insWord_ok p0.Op hx91) fun v w25 fr hRes hF => ?_
 obtain ⟨rfl, hc⟩ := hRes
 have tb := tb.ext hc
 have hs := hs.ext hc
 have hM0 := hM0.ext hc
 refine from_pure 1 [(6, Str.val x91)] hF (by kernel_rfl) fun fr hF => ?_
 refine from_end rfl (then_normal ?_)
 obtain rfl := Option.some.inj h
 exact wp_ret (ret1 rfl hF rfl ⟨_, rfl, rfl, hM0.chg⟩)

theorem laws_FnExactFormatIns_ok (n : Nat) (p0 : D.Ins) (p1 : Int) (p2 : Int) {r : Bool} (h : laws_FnExactFormatIns n p0 p1 p2 = some r) {w : World} {G99 : Nat → Prop} (tb : TB Tryd.prog "internal/strconv.uint64pow10" .u64 Lib.pow10Tab w G99) :
   Calls Tryd.prog 3 [.agg #[I p0.Op, I p0.A, I p0.B, I p0.C], I p1, I p2].toArray w fun e w' => ∃ v, e = .returned v ∧ v = .bool r ∧ Chg Non w w' := by
 unfold laws_FnExactFormatIns at h
 have hs := Sep.nil w Non
 have hM0 : Mem w Non (fun k => (G99 k) ∧ k < w.heap.size) w Non (fun k => (G99 k) ∧ k < w.heap.size) := Mem.start (fun _ h => h.elim) (fun _ h => h.2) (fun _ h => h.elim)
 have tb := tb.sub (F' := (fun k => (G99 k) ∧ k < w.heap.size)) (fun k hk h => ⟨h, hk⟩)
 refine enter (N := 22) Tryd.func3 rfl Tryd.ntmps3 rfl fun fr hF => ?_
 refine wp_seq (wp_text' ?_)
 refine q_box hs hM0 [I p0.Op, I p0.A, I p0.B, I p0.C] rfl rfl hF rfl rfl fun b1 w1 S1 fr hs hp hF => ?_
 have tb := tb.stp hM0 hp
 have hM0 := hM0.stp hp
 have hs : Sep [BX b1 23 [I p0.Op, I p0.A, I p0.B, I p0.C]] w1 S1 := hs
 refine from_pure 1 [(1, I p1), (2, I p2), (3, B b1 0)] hF (by kernel_rfl) fun fr hF => ?_
 refine from_end rfl (then_normal ?_)
 refine wp_seq (wp_text' ?_)
 refine s_loadBoxS ty23 rfl rfl hF rfl (hs.bx 0 rfl) rfl rfl fun fr hF => ?_
 obtain ⟨x1, hx1, h⟩ := bindE h
 refine s_call [.agg #[I p0.Op, I p0.A, I p0.B, I p0.C]] Tryd.call6 rfl rfl hF rfl (laws_toIns_ok p0 hx1) fun v w2 fr hRes hF => ?_
 obtain ⟨rfl, hc⟩ := hRes
 have tb := tb.ext hc
 have hs := hs.ext hc
 have hM0 := hM0.ext hc
 refine from_pure 2 [(1, I p1), (2, I p2), (3, B b1 0), (10, .agg #[I x1.Op, I x1.A, I x1.B, I x1.C]), (11, I p1), (12, I p2)] hF (by kernel_rfl) fun fr hF => ?_
 obtain ⟨x2, hx2, h⟩ := bindE h
 refine s_call [.agg #[I x1.Op, I x1.A, I x1.B, I x1.C], I p1, I p2] Tryd.call5 rfl rfl hF rfl (spec_FormatIns_ok n x1 p1 p2 hx2) fun v w3 fr hRes hF => ?_
 obtain ⟨rfl, hc⟩ := hRes
 have tb := tb.ext hc
 have hs := hs.ext hc
 have hM0 := hM0.ext hc
 refine from_pure 1 [(1, I p1), (2, I p2), (3, B b1 0), (7, Str.val x2)] hF (by kernel_rfl) fun fr hF => ?_
 refine from_end rfl (then_normal ?_)
 refine wp_seq (wp_text' ?_)
 refine s_loadBoxS ty23 rfl rfl hF rfl (hs.bx 0 rfl) rfl rfl fun fr hF => ?_
 have hs : Sep [] w3 S1 := Sep.pick [] hs (by decide) rfl
 obtain ⟨x3, hx3, h⟩ := bindE h
 refine s_call [.agg #[I p0.Op, I p0.A, I p0.B, I p0.C]] Tryd.call6 rfl rfl hF rfl (laws_toIns_ok p0 hx3) fun v w4 fr hRes hF => ?_
 obtain ⟨rfl, hc⟩ := hRes
 have tb := tb.ext hc
 have hs := hs.ext hc
 have hM0 := hM0.ext hc
 refine from_pure 2 [(7, Str.val x2), (15, .agg #[I x3.Op, I x3.A, I x3.B, I x3.C]), (16, I p1), (17, I p2)] hF (by kernel_rfl) fun fr hF => ?_
 obtain ⟨x4, hx4, h⟩ := bindE h
 refine s_call [.agg #[I x3.Op, I x3.A, I x3.B, I x3.C], I p1, I p2] Tryd.call7 rfl rfl hF rfl (impl_FormatIns_ok x3 p1 p2 hx4 tb) fun v w5 fr hRes hF => ?_
 obtain ⟨rfl, hc⟩ := hRes
 have tb := tb.ext hc
 have hs := hs.ext hc
 have hM0 := hM0.ext hc
 refine from_pure 1 [(7, Str.val x2), (8, Str.val x4)] hF (by kernel_rfl) fun fr hF => ?_
 refine from_end rfl (then_normal ?_)
 refine wp_seq ?_
 refine wp_seq (wp_pure [(21, .bool (!(Str.eqb x4 x2)))] hF (by kernel_rfl) fun fr hF => then_normal ?_)
 refine (wp_if hF (b := (!(Str.eqb x4 x2))) rfl (fun hb => ?_) (fun hb => ?_))
 · replace h := iteT hb h
   refine wp_seq (wp_pure [(6, .bool false)] hF (by kernel_rfl) fun fr hF => then_normal ?_)
   obtain rfl := Option.some.inj h
   exact wp_ret (then_ret (ret1 rfl hF rfl ⟨_, rfl, rfl, hM0.chg⟩))
 replace h := iteF hb h
 refine (wp_skip (then_normal ?_))
 refine wp_seq (wp_pure [(6, .bool true)] hF (by kernel_rfl) fun fr hF => then_normal ?_)
 obtain rfl := Option.some.inj h
 exact wp_ret (ret1 rfl hF rfl ⟨_, rfl, rfl, hM0.chg⟩)
end Go.Proofs.YtmnodiloichdmaaDoor
